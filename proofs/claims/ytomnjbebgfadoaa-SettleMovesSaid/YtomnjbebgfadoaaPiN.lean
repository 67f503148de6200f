/- A step of the pure interpreter is sound.
   Conditions: none; lemmas. -/
import Derived.Test.YtomnjbebgfadoaaPiM
set_option linter.unusedVariables false
set_option linter.unusedSimpArgs false
namespace Go.Proofs.Ytomnjbebgfadoaa.Pi
open Go Go.RowKit

mutual
theorem flat_rd {w w' : World} {ok ok' : Nat → Prop} : ∀ (d : D) (v : Value), d.flat = true → d.rd w ok v → d.rd w' ok' v
  | .int k n, v, hf, h => by simpa only [D.rd] using h
  | .bool b, v, hf, h => by simpa only [D.rd] using h
  | .str s, v, hf, h => by simpa only [D.rd] using h
  | .lst sz xs, v, hf, h => by simp [D.flat] at hf
  | .ptr cs off, v, hf, h => by simp [D.flat] at hf
  | .fn f caps, v, hf, h => by simp [D.flat] at hf
  | .nil k, v, hf, h => by simpa only [D.rd] using h
  | .agg cs, v, hf, h => by
    simp only [D.flat] at hf
    simp only [D.rd] at h ⊢
    obtain ⟨vs, e, h1, h2⟩ := h
    exact ⟨vs, e, h1, flats_rd cs _ hf h2⟩
theorem flats_rd {w w' : World} {ok ok' : Nat → Prop} : ∀ (ds : List D) (vs : List Value), flats ds = true → rdVals w ok ds vs → rdVals w' ok' ds vs
  | [], vs, hf, h => by simpa only [rdVals] using h
  | d :: ds, vs, hf, h => by
    simp only [flats, Bool.and_eq_true] at hf
    simp only [rdVals] at h ⊢
    obtain ⟨v, vs', e, h1, h2⟩ := h
    exact ⟨v, vs', e, flat_rd d v hf.1 h1, flats_rd ds vs' hf.2 h2⟩
end

theorem pack_rel {o : Objs} {α : Nat → Value} {w : World} {ok : Nat → Prop} {ps : List PV} {us : List Value} (h : PV.rels o α w ok ps us) : (packP ps).rel o α w ok (packV us) := by
  have hl := PV.rels_length h
  match ps, us, h, hl with
  | [p], [u], h, _ =>
    simp only [PV.rels] at h
    obtain ⟨v, vs', e, h1, h2⟩ := h
    simp only [List.cons.injEq] at e
    obtain ⟨rfl, _⟩ := e
    exact h1
  | [], [], h, _ => simp only [packP, packV, PV.rel]; exact ⟨_, rfl, by simpa using h⟩
  | p :: q :: ps, u :: u' :: us, h, _ => simp only [packP, packV, PV.rel]; exact ⟨_, rfl, by simpa using h⟩
  | [], _ :: _, _, hl => simp at hl
  | [_], [], _, hl => simp at hl
  | [_], _ :: _ :: _, _, hl => simp at hl
  | _ :: _ :: _, [], _, hl => simp at hl
  | _ :: _ :: _, [_], _, hl => simp at hl

theorem own_none_of_flat {rs : List RV} {us : List Value} (h : ∀ x ∈ rs, RV.flat x = true) : ownBlks rs us = [] := by
  induction rs generalizing us with
  | nil => cases us <;> rfl
  | cons r rs ih =>
    cases r with
    | d x =>
      cases us with
      | nil => rfl
      | cons u us => simp only [ownBlks]; exact ih fun y hy => h y (by simp [hy])
    | own sz e xs => have := h (.own sz e xs) (by simp); simp [RV.flat] at this
theorem flat_rels {w w' : World} {ok ok' : Nat → Prop} {base : Nat} {o : Objs} {α : Nat → Value} : ∀ {rs : List RV} {us : List Value}, (∀ x ∈ rs, RV.flat x = true) → RV.rels w ok base rs us → PV.rels o α w' ok' (rs.map RV.flatP) us
  | [], us, hf, h => by simpa only [RV.rels, List.map_nil, PV.rels] using h
  | .own sz e xs :: rs, us, hf, h => by have := hf (.own sz e xs) (by simp); simp [RV.flat] at this
  | .d x :: rs, us, hf, h => by
    simp only [RV.rels] at h
    obtain ⟨v, vs', rfl, h1, h2⟩ := h
    simp only [List.map_cons, RV.flatP, PV.rels, PV.rel]
    exact ⟨v, vs', rfl, flat_rd x v (by have := hf (.d x) (by simp); simpa [RV.flat] using this) h1, flat_rels (fun y hy => hf y (by simp [hy])) h2⟩

section
variable {E : Env} {N base : Nat} {w0 : World} {X : Fr} {S : St} {α : Nat → Value} {a : Act} {w : World}

theorem gB_sound {o : Objs} {α : Nat → Value} {w : World} {ok : Nat → Prop} : ∀ {p : PV} {want g : Bool} {v : Value}, gB p want = some g → p.rel o α w ok v → ((match v with | .bool b => some b | _ => none) == some want) = g
  | .d (.bool b), want, g, v, h, hr => by
    simp only [gB, Option.some.injEq] at h
    simp only [PV.rel, D.rd] at hr
    subst hr; subst h
    cases b <;> cases want <;> rfl
  | .opt q x, want, g, v, h, hr => by
    simp only [gB, Option.map_eq_some_iff] at h
    obtain ⟨r, h1, rfl⟩ := h
    simp only [PV.rel] at hr
    cases q with
    | true => simpa using gB_sound h1 (hr.1 rfl)
    | false => rw [hr.2 rfl]; simp [undef]
  | .un, _, _, _, h, _ => by simp [gB] at h
  | .nils, _, _, _, h, _ => by simp [gB] at h
  | .ref .., _, _, _, h, _ => by simp [gB] at h
  | .row .., _, _, _, h, _ => by simp [gB] at h
  | .map .., _, _, _, h, _ => by simp [gB] at h
  | .fn .., _, _, _, h, _ => by simp [gB] at h
  | .agg .., _, _, _, h, _ => by simp [gB] at h
  | .tup .., _, _, _, h, _ => by simp [gB] at h
  | .clip .., _, _, _, h, _ => by simp [gB] at h
  | .d (.int ..), _, _, _, h, _ => by simp [gB] at h
  | .d (.str ..), _, _, _, h, _ => by simp [gB] at h
  | .d (.lst ..), _, _, _, h, _ => by simp [gB] at h
  | .d (.agg ..), _, _, _, h, _ => by simp [gB] at h
  | .d (.ptr ..), _, _, _, h, _ => by simp [gB] at h
  | .d (.fn ..), _, _, _, h, _ => by simp [gB] at h

theorem wanted_sound (h : Rel N base w0 X S α a w) {ops : Array Oper} {o : Oper} {g : Bool} (hg : wantedP ops S o = some g) : Region.wanted o (yielded ops a.tmps) = g := by
  unfold wantedP at hg
  unfold Region.wanted
  split at hg
  · rename_i he
    simp only [Option.some.injEq] at hg
    rw [he]; exact hg
  · rename_i j want he
    rw [he]
    simp only
    split at hg
    · rename_i d hd
      have := gB_sound hg (h.t d)
      rw [← this]
      unfold yielded
      rw [hd]
      simp only [Option.bind_some]
      by_cases hlt : d < a.tmps.size
      · simp only [Array.getD_eq_getD_getElem?, Array.getElem?_eq_getElem hlt, Option.getD_some]
        cases a.tmps[d] <;> rfl
      · have hn : a.tmps[d]? = none := Array.getElem?_eq_none (Nat.le_of_not_lt hlt)
        simp [Array.getD_eq_getD_getElem?, hn, undef]
    · cases hg

theorem after_o (S : St) (d : Option Nat) (p : PV) : ({ (S.put d p) with o := S.o } : St) = S.put d p := by cases d <;> rfl

theorem gopt_true {o : Oper} {p : PV} {ob : Objs} {α : Nat → Value} {w : World} {ok : Nat → Prop} {v : Value} (h : p.rel ob α w ok v) : (gopt o true p).rel ob α w ok v := by
  unfold gopt
  split
  · exact h
  · simp only [PV.rel]; exact ⟨fun _ => h, by simp⟩

theorem snapVs_sound (h : Rel N base w0 X S α a w) {ok : Nat → Prop} : ∀ {xs : List Operand} {ts : List Nat} {ds : List D}, snapVs E S xs ts = some ds → Opens X.A S α (xs.flatMap fun x => keysV S (S.sv x)) ok → argsC S xs → rdVals w ok ds (xs.map a.eval)
  | [], [], ds, hq, ho, hc => by
    simp only [snapVs, Option.some.injEq] at hq; subst hq
    simp [rdVals]
  | [], _ :: _, ds, hq, ho, hc => by simp [snapVs] at hq
  | _ :: _, [], ds, hq, ho, hc => by simp [snapVs] at hq
  | x :: xs, t :: ts, ds, hq, ho, hc => by
    simp only [snapVs, Option.bind_eq_some_iff, Option.map_eq_some_iff] at hq
    obtain ⟨d, h1, es, h2, rfl⟩ := hq
    simp only [argsC] at hc
    simp only [List.map_cons, rdVals]
    exact ⟨_, _, rfl, snapV_sound h h1 (ho.sub fun K hK => by simp [hK]) (sv_rel h x hc.1), snapVs_sound h h2 (ho.sub fun K hK => by simp only [List.flatMap_cons, List.mem_append]; exact .inr hK) hc.2⟩

theorem callInfo_sound (hE : EnvOk E) (h : Rel N base w0 X S α a w) {o : Oper} {c : Call} (hop : o.op = .call c) {ci : CI} (hi : callInfo E S c = some ci) (hc : ci.c) {con : Con} (hcon : E.con ci.f = some con) :
    ∃ vs, (execOp a.eval o).run E.P w = .ok (.enter ci.f vs.toArray) w ∧ ∀ ok, Opens X.A S α ci.ks ok → rdVals w ok ci.ds vs := by
  obtain ⟨⟨fn, hfn, hbody, hname⟩, _⟩ := hE.con _ _ hcon
  have key : ∀ (x : Operand) (caps : Array Value), c.callee = .value x → a.eval x = .func (.func ci.f) #[] caps → (execOp a.eval o).run E.P w = .ok (.enter ci.f ((c.args.toList.map a.eval ++ caps.toList).toArray)) w := by
    intro x caps hx hv
    obtain ⟨dst, op, type, pos, after, guard⟩ := o
    simp only at hop; subst hop
    obtain ⟨callee, args, argTypes⟩ := c
    simp only at hx; subst hx
    have e : (args.map a.eval ++ caps) = (args.toList.map a.eval ++ caps.toList).toArray := by
      rw [← Array.toList_inj]; simp
    have hname' : fn.name ≠ "runtime.NumGoroutine" := by simpa using hname
    have hbody' : fn.body ≠ none := by intro e; rw [e] at hbody; simp at hbody
    simp [execOp, resolve, hv, Deferred.ofValue, invoke, callFunc, hfn, hname', hbody', e]
  unfold callInfo at hi
  split at hi
  · rename_i x hx
    have hsv : S.sc x → (S.sv x).rel S.o α w (okOf X.A S.o α) (a.eval x) := sv_rel h x
    generalize S.sv x = px at hi hsv
    split at hi
    · rename_i f cd
      obtain ⟨ds, hds, rfl⟩ := Option.map_eq_some_iff.1 hi
      simp only at hc hcon key ⊢
      have := hsv hc.2
      simp only [PV.rel, D.rd] at this
      obtain ⟨caps, hv, hr⟩ := this
      refine ⟨_, key x caps hx hv, fun ok ho => rdVals_append (snapVs_sound h hds ho hc.1) (rdVals_keeps ho.keeps _ _ hr)⟩
    · rename_i f caps
      simp only [Option.bind_eq_some_iff, Option.map_eq_some_iff] at hi
      obtain ⟨ds, hds, cd, hcd, rfl⟩ := hi
      simp only at hc hcon key ⊢
      have := hsv hc.2
      simp only [PV.rel] at this
      obtain ⟨vcaps, hv, hr⟩ := this
      refine ⟨_, key x vcaps hx hv, fun ok ho => rdVals_append (snapVs_sound h hds (ho.sub fun K hK => by simp [hK]) hc.1) (snapRs_sound h hcd (ho.sub fun K hK => by simp only [List.mem_append]; exact .inr hK) hr)⟩
    · cases hi
  · cases hi

theorem svs_rels (h : Rel N base w0 X S α a w) : ∀ {xs : List Operand}, argsC S xs → PV.rels S.o α w (okOf X.A S.o α) (xs.map S.sv) (xs.map a.eval)
  | [], _ => by simp [PV.rels]
  | x :: xs, hc => by
    simp only [argsC] at hc
    simp only [List.map_cons, PV.rels]
    exact ⟨_, _, rfl, sv_rel h x hc.1, svs_rels h hc.2⟩
theorem rels_of_rdVals {o : Objs} {α : Nat → Value} {w : World} {ok : Nat → Prop} : ∀ {ds : List D} {vs : List Value}, rdVals w ok ds vs → PV.rels o α w ok (ds.map PV.d) vs
  | [], vs, h => by simpa only [rdVals, List.map_nil, PV.rels] using h
  | d :: ds, vs, h => by
    simp only [rdVals] at h
    obtain ⟨v, vs', rfl, h1, h2⟩ := h
    simp only [List.map_cons, PV.rels, PV.rel]
    exact ⟨v, vs', rfl, h1, rels_of_rdVals h2⟩

theorem icallInfo_sound (hE : EnvOk E) (h : Rel N base w0 X S α a w) {o : Oper} {c : Call} (hop : o.op = .call c) {f : Nat} {ps : List PV} {cd : Prop} (hi : icallInfo S c = some (f, ps, cd)) (hc : cd) {con : ICon} (hcon : E.icon f = some con) :
    ∃ vs, (execOp a.eval o).run E.P w = .ok (.enter f vs.toArray) w ∧ PV.rels S.o α w (okOf X.A S.o α) ps vs := by
  obtain ⟨⟨fn, hfn, hbody, hname⟩, _⟩ := hE.icon _ _ hcon
  have key : ∀ (x : Operand) (caps : Array Value), c.callee = .value x → a.eval x = .func (.func f) #[] caps → (execOp a.eval o).run E.P w = .ok (.enter f ((c.args.toList.map a.eval ++ caps.toList).toArray)) w := by
    intro x caps hx hv
    obtain ⟨dst, op, type, pos, after, guard⟩ := o
    simp only at hop; subst hop
    obtain ⟨callee, args, argTypes⟩ := c
    simp only at hx; subst hx
    have e : (args.map a.eval ++ caps) = (args.toList.map a.eval ++ caps.toList).toArray := by
      rw [← Array.toList_inj]; simp
    have hname' : fn.name ≠ "runtime.NumGoroutine" := by simpa using hname
    have hbody' : fn.body ≠ none := by intro e; rw [e] at hbody; simp at hbody
    simp [execOp, resolve, hv, Deferred.ofValue, invoke, callFunc, hfn, hname', hbody', e]
  unfold icallInfo at hi
  split at hi
  · rename_i x hx
    have hsv : S.sc x → (S.sv x).rel S.o α w (okOf X.A S.o α) (a.eval x) := sv_rel h x
    generalize S.sv x = px at hi hsv
    split at hi
    · rename_i f' cd'
      simp only [Option.some.injEq, Prod.mk.injEq] at hi
      obtain ⟨rfl, rfl, rfl⟩ := hi
      have := hsv hc.2
      simp only [PV.rel, D.rd] at this
      obtain ⟨caps, hv, hr⟩ := this
      exact ⟨_, key x caps hx hv, PV.rels_append (svs_rels h hc.1) (rels_of_rdVals hr)⟩
    · rename_i f' caps
      simp only [Option.some.injEq, Prod.mk.injEq] at hi
      obtain ⟨rfl, rfl, rfl⟩ := hi
      have := hsv hc.2
      simp only [PV.rel] at this
      obtain ⟨vcaps, hv, hr⟩ := this
      exact ⟨_, key x vcaps hx hv, PV.rels_append (svs_rels h hc.1) hr⟩
    · cases hi
  · cases hi

/-! results of a call that are the call's own -/
def retα (α : Nat → Value) (K : Nat) : Nat → List RV → List Value → Nat → Value
  | j, .d _ :: rs, _ :: us => retα α K (j + 1) rs us
  | j, .own .. :: rs, u :: us => retα (hup α (K + 1000 * j) u) K (j + 1) rs us
  | _, _, _ => α
def NewK (K : Nat) (j : Nat) (rs : List RV) (k : Nat) : Prop := ∃ i, k = K + 1000 * (j + i) ∧ ∃ sz e xs, rs[i]? = some (.own sz e xs)

theorem ret_old {K : Nat} : ∀ {rs : List RV} {us : List Value} {j : Nat} {o : Objs} {α : Nat → Value} {k : Nat}, ¬ NewK K j rs k → retO o K j rs k = o k ∧ retα α K j rs us k = α k
  | [], us, j, o, α, k, h => by cases us <;> simp [retO, retα]
  | .d x :: rs, [], j, o, α, k, h => by
    have h' : ¬ NewK K (j + 1) rs k := fun ⟨i, e, r⟩ => h ⟨i + 1, by omega, by simpa using r⟩
    exact ⟨by simpa only [retO] using (ret_old (us := []) (α := α) h').1, by simp [retα]⟩
  | .d x :: rs, u :: us, j, o, α, k, h => by
    have h' : ¬ NewK K (j + 1) rs k := fun ⟨i, e, r⟩ => h ⟨i + 1, by omega, by simpa using r⟩
    simpa only [retO, retα] using ret_old h'
  | .own sz e xs :: rs, [], j, o, α, k, h => by
    have h' : ¬ NewK K (j + 1) rs k := fun ⟨i, e, r⟩ => h ⟨i + 1, by omega, by simpa using r⟩
    have hk : k ≠ K + 1000 * j := fun e' => h ⟨0, by simpa using e', sz, e, xs, by simp⟩
    refine ⟨?_, by simp [retα]⟩
    simp only [retO]
    rw [(ret_old (us := []) (α := α) h').1]
    simp [newOb, hk]
  | .own sz e xs :: rs, u :: us, j, o, α, k, h => by
    have h' : ¬ NewK K (j + 1) rs k := fun ⟨i, e, r⟩ => h ⟨i + 1, by omega, by simpa using r⟩
    have hk : k ≠ K + 1000 * j := fun e' => h ⟨0, by simpa using e', sz, e, xs, by simp⟩
    simp only [retO, retα]
    obtain ⟨h1, h2⟩ := ret_old (us := us) (o := newOb o (K + 1000 * j) (.row sz e xs)) (α := hup α (K + 1000 * j) u) h'
    rw [h1, h2]
    simp [newOb, hup, hk]
theorem ret_new {K : Nat} : ∀ {rs : List RV} {us : List Value} {j : Nat} {o : Objs} {α : Nat → Value} {i : Nat} {sz e : Nat} {xs : List (List D)} {u : Value}, rs[i]? = some (.own sz e xs) → us[i]? = some u →
    retO o K j rs (K + 1000 * (j + i)) = ((o (K + 1000 * (j + i))).1 + 1, some (.row sz e xs)) ∧ retα α K j rs us (K + 1000 * (j + i)) = u
  | [], us, j, o, α, i, sz, e, xs, u, h, hu => by simp at h
  | r :: rs, [], j, o, α, i, sz, e, xs, u, h, hu => by simp at hu
  | .d x :: rs, u0 :: us, j, o, α, i, sz, e, xs, u, h, hu => by
    cases i with
    | zero => simp at h
    | succ i =>
      have := ret_new (K := K) (rs := rs) (us := us) (j := j + 1) (o := o) (α := α) (by simpa using h) (by simpa using hu)
      rw [show j + 1 + i = j + (i + 1) by omega] at this
      simpa only [retO, retα] using this
  | .own sz' e' xs' :: rs, u0 :: us, j, o, α, i, sz, e, xs, u, h, hu => by
    cases i with
    | zero =>
      simp at h hu
      obtain ⟨rfl, rfl, rfl⟩ := h
      subst hu
      simp only [retO, retα]
      have h' : ¬ NewK K (j + 1) rs (K + 1000 * (j + 0)) := fun ⟨i, e, r⟩ => by omega
      obtain ⟨h1, h2⟩ := ret_old (us := us) (o := newOb o (K + 1000 * j) (.row sz' e' xs')) (α := hup α (K + 1000 * j) u0) h'
      rw [h1, h2]
      simp [newOb, hup]
    | succ i =>
      have := ret_new (K := K) (rs := rs) (us := us) (j := j + 1) (o := newOb o (K + 1000 * j) (.row sz' e' xs')) (α := hup α (K + 1000 * j) u0) (by simpa using h) (by simpa using hu)
      rw [show j + 1 + i = j + (i + 1) by omega] at this
      simp only [retO, retα]
      have hk : ¬ (K + 1000 * (j + (i + 1)) = K + 1000 * j) := by omega
      refine ⟨by rw [this.1]; unfold newOb; rw [if_neg hk], this.2⟩
theorem own_mem : ∀ {rs : List RV} {us : List Value} {i sz e : Nat} {xs : List (List D)} {u : Value} {g : Nat}, rs[i]? = some (.own sz e xs) → us[i]? = some u → hblk u = some g → g ∈ ownBlks rs us
  | [], us, i, sz, e, xs, u, g, h, hu, hg => by simp at h
  | r :: rs, [], i, sz, e, xs, u, g, h, hu, hg => by simp at hu
  | .d x :: rs, u0 :: us, i, sz, e, xs, u, g, h, hu, hg => by
    cases i with
    | zero => simp at h
    | succ i => simp only [ownBlks]; exact own_mem (by simpa using h) (by simpa using hu) hg
  | .own sz' e' xs' :: rs, u0 :: us, i, sz, e, xs, u, g, h, hu, hg => by
    simp only [ownBlks, List.mem_append]
    cases i with
    | zero => simp at hu; subst hu; left; simp [hg]
    | succ i => right; exact own_mem (by simpa using h) (by simpa using hu) hg
theorem own_apart : ∀ {rs : List RV} {us : List Value} {i i' : Nat} {sz e sz' e' : Nat} {xs xs' : List (List D)} {u u' : Value} {g : Nat}, (ownBlks rs us).Nodup → rs[i]? = some (.own sz e xs) → us[i]? = some u → rs[i']? = some (.own sz' e' xs') → us[i']? = some u' → hblk u = some g → hblk u' = some g → i = i'
  | [], us, i, i', sz, e, sz', e', xs, xs', u, u', g, hn, h, hu, h', hu', hg, hg' => by simp at h
  | r :: rs, [], i, i', sz, e, sz', e', xs, xs', u, u', g, hn, h, hu, h', hu', hg, hg' => by simp at hu
  | .d x :: rs, u0 :: us, i, i', sz, e, sz', e', xs, xs', u, u', g, hn, h, hu, h', hu', hg, hg' => by
    cases i with
    | zero => simp at h
    | succ i =>
      cases i' with
      | zero => simp at h'
      | succ i' => exact congrArg (· + 1) (own_apart (rs := rs) (us := us) (by simpa only [ownBlks] using hn) (by simpa using h) (by simpa using hu) (by simpa using h') (by simpa using hu') hg hg')
  | .own sz0 e0 xs0 :: rs, u0 :: us, i, i', sz, e, sz', e', xs, xs', u, u', g, hn, h, hu, h', hu', hg, hg' => by
    simp only [ownBlks, List.nodup_append] at hn
    cases i with
    | zero =>
      cases i' with
      | zero => rfl
      | succ i' =>
        simp at hu; subst hu
        have := own_mem (rs := rs) (us := us) (by simpa using h') (by simpa using hu') hg'
        exact absurd rfl (hn.2.2 g (by simp [hg]) g this)
    | succ i =>
      cases i' with
      | zero =>
        simp at hu'; subst hu'
        have := own_mem (rs := rs) (us := us) (by simpa using h) (by simpa using hu) hg
        exact absurd rfl (hn.2.2 g (by simp [hg']) g this)
      | succ i' => exact congrArg (· + 1) (own_apart (rs := rs) (us := us) hn.2.1 (by simpa using h) (by simpa using hu) (by simpa using h') (by simpa using hu') hg hg')
theorem RV.rels_get {w : World} {ok : Nat → Prop} {base : Nat} : ∀ {rs : List RV} {us : List Value}, RV.rels w ok base rs us → ∀ (i : Nat) (r : RV), rs[i]? = some r → ∃ u, us[i]? = some u ∧ r.rel w ok base u
  | [], us, h, i, r, hr => by simp at hr
  | x :: rs, us, h, i, r, hr => by
    simp only [RV.rels] at h
    obtain ⟨v, vs', rfl, h1, h2⟩ := h
    cases i with
    | zero => simp at hr; subst hr; exact ⟨v, by simp, h1⟩
    | succ i => simpa using RV.rels_get h2 i r (by simpa using hr)

/-- The results as they are told behind the call. -/
theorem retP_rels {w : World} {okr ok' : Nat → Prop} {base : Nat} {oF : Objs} {αF : Nat → Value} (hk : Keeps w okr w ok') {K : Nat} {oI : Objs} : ∀ {rs : List RV} {us : List Value} {j : Nat}, RV.rels w okr base rs us →
    (∀ i sz e xs u, rs[i]? = some (.own sz e xs) → us[i]? = some u → oF (K + 1000 * (j + i)) = ((oI (K + 1000 * (j + i))).1 + 1, some (.row sz e xs)) ∧ αF (K + 1000 * (j + i)) = u) → PV.rels oF αF w ok' (retP oI K j rs) us
  | [], us, j, h, hF => by simpa only [RV.rels, retP, PV.rels] using h
  | .d x :: rs, us, j, h, hF => by
    simp only [RV.rels] at h
    obtain ⟨v, vs', rfl, h1, h2⟩ := h
    simp only [retP, PV.rels, PV.rel]
    refine ⟨v, vs', rfl, D.rd_keeps hk _ _ h1, retP_rels hk h2 fun i sz e xs u hi hu => ?_⟩
    have := hF (i + 1) sz e xs u (by simpa using hi) (by simpa using hu)
    rwa [show j + (i + 1) = j + 1 + i by omega] at this
  | .own sz e xs :: rs, us, j, h, hF => by
    simp only [RV.rels] at h
    obtain ⟨v, vs', rfl, h1, h2⟩ := h
    simp only [retP, PV.rels, PV.rel]
    refine ⟨v, vs', rfl, ?_, retP_rels hk h2 fun i sz e xs u hi hu => ?_⟩
    · obtain ⟨e1, e2⟩ := hF 0 sz e xs v (by simp) (by simp)
      simp only [Nat.add_zero] at e1 e2
      refine ⟨⟨?_, by rw [e1]; exact Nat.le_refl _⟩, fun _ => e2.symm⟩
      obtain ⟨vals, hown, _⟩ := h1
      exact own_hdr hown
    · have := hF (i + 1) sz e xs u (by simpa using hi) (by simpa using hu)
      rwa [show j + (i + 1) = j + 1 + i by omega] at this

theorem grownBy_of_below {w w' : World} (h : Below w.heap.size w w') : w.grownBy w' none := ⟨h.os, h.tape, h.output, h.size, fun k hk _ => h.block k hk⟩

/-- What a call that may make rows leaves. -/
theorem Rel.ret (h : Rel N base w0 X S α a w) {K d : Nat} (hK : d < N) {rs : List RV} {us : List Value} {w' : World} (hb : Below w.heap.size w w') (hn : (ownBlks rs us).Nodup)
    (hr : RV.rels w' (fun b => (okOf X.A S.o α b ∨ w.heap.size ≤ b) ∧ b ∉ ownBlks rs us) w.heap.size rs us) :
    Rel N base w0 X { (S.put (some d) (packP (retP S.o K 0 rs))) with o := retO S.o K 0 rs } (retα α K 0 rs us) (a.put (some d) (packV us)) w' := by
  have hnew : ∀ {i sz e xs}, rs[i]? = some (.own sz e xs) → ∃ u vals, us[i]? = some u ∧ (w'.ownsRow w.heap.size e sz u xs.length vals ∧ (∀ r ∈ xs, r.length = sz) ∧ rdVals w' (fun b => (okOf X.A S.o α b ∨ w.heap.size ≤ b) ∧ b ∉ ownBlks rs us) xs.flatten vals ∧ (∀ u ∈ vals, u.oneCell' = true)) ∧ retO S.o K 0 rs (K + 1000 * (0 + i)) = ((S.o (K + 1000 * (0 + i))).1 + 1, some (.row sz e xs)) ∧ retα α K 0 rs us (K + 1000 * (0 + i)) = u := by
    intro i sz e xs hi
    obtain ⟨u, hu, vals, hx⟩ := RV.rels_get hr i _ hi
    exact ⟨u, vals, hu, hx, (ret_new (o := S.o) (α := α) hi hu).1, (ret_new (o := S.o) (α := α) hi hu).2⟩
  have hg := grownBy_of_below hb
  have hkr : Keeps w (okOf X.A S.o α) w' (okOf X.A (retO S.o K 0 rs) (retα α K 0 rs us)) → Keeps w' (fun b => (okOf X.A S.o α b ∨ w.heap.size ≤ b) ∧ b ∉ ownBlks rs us) w' (okOf X.A (retO S.o K 0 rs) (retα α K 0 rs us)) := by
    intro hk b hbl hok
    refine ⟨⟨?_, fun k hkl hgk => ?_⟩, rfl⟩
    · rcases hok.1 with hok1 | hok1
      · exact hok1.1
      · exact h.free _ (Nat.le_trans h.base hok1)
    by_cases hN : NewK K 0 rs k
    · obtain ⟨i, rfl, sz, e, xs, hi⟩ := hN
      obtain ⟨u, vals, hu, hx, e1, e2⟩ := hnew hi
      rw [e2] at hgk
      exact hok.2 (own_mem hi hu hgk)
    · obtain ⟨e1, e2⟩ := ret_old (us := us) (o := S.o) (α := α) hN
      rw [e1] at hkl; rw [e2] at hgk
      rcases hok.1 with hok1 | hok1
      · exact hok1.2 k hkl hgk
      · cases hx : (S.o k).2 with
        | none => exact hkl hx
        | some x => have := (Ob.rel_lt (h.o k x hx) b hgk).2; omega
  refine h.updS (NewK K 0 rs) (by simpa using hK) hg (by simp) (fun k => ?_) (fun k hk hl => ?_) (fun k hk hl => ?_) (fun k k' hk hk' hne hl hl' g hg1 hg2 => ?_) (fun hk ht k x hkN hx => ?_) (fun hk ht => ?_)
  · by_cases hN : NewK K 0 rs k
    · obtain ⟨i, rfl, sz, e, xs, hi⟩ := hN
      obtain ⟨u, vals, hu, hx, e1, e2⟩ := hnew hi
      rw [e1]; simp
    · rw [(ret_old (us := us) (α := α) hN).1]; exact Nat.le_refl _
  · obtain ⟨e1, e2⟩ := ret_old (us := us) (o := S.o) (α := α) hk
    exact ⟨e1, e2, by simp⟩
  · obtain ⟨i, rfl, sz, e, xs, hi⟩ := hk
    obtain ⟨u, vals, hu, hx, e1, e2⟩ := hnew hi
    refine ⟨.inl (by rw [e1]; simp), fun g hg1 => .inr ?_⟩
    rw [e2] at hg1
    obtain ⟨_, _, _, _, hbg⟩ := own_head hx.1 hg1
    exact hbg
  · obtain ⟨i, rfl, sz, e, xs, hi⟩ := hk
    obtain ⟨i', rfl, sz', e', xs', hi'⟩ := hk'
    obtain ⟨u, vals, hu, hx, e1, e2⟩ := hnew hi
    obtain ⟨u', vals', hu', hx', e1', e2'⟩ := hnew hi'
    rw [e2] at hg1; rw [e2'] at hg2
    have := own_apart hn hi hu hi' hu' hg1 hg2
    subst this
    exact hne rfl
  · obtain ⟨i, rfl, sz, e, xs, hi⟩ := hkN
    obtain ⟨u, vals, hu, hx1, e1, e2⟩ := hnew hi
    rw [e1] at hx
    simp only [Option.some.injEq] at hx
    subst hx
    rw [e2]
    refine ⟨vals, ?_, hx1.2.1, rdVals_keeps (hkr hk) _ _ hx1.2.2.1, hx1.2.2.2⟩
    refine ⟨hx1.1.1, ?_⟩
    rcases hx1.1.2 with hnl | ⟨g, cap, cur, q1, q2, rest⟩
    · exact .inl hnl
    · exact .inr ⟨g, cap, cur, q1, Nat.le_trans h.base q2, rest⟩
  · refine pack_rel (retP_rels (hkr hk) hr fun i sz e xs u hi hu => ?_)
    obtain ⟨u', vals, hu', hx, e1, e2⟩ := hnew hi
    rw [hu] at hu'
    simp only [Option.some.injEq] at hu'
    subst hu'
    exact ⟨e1, e2⟩
end
end Go.Proofs.Ytomnjbebgfadoaa.Pi
