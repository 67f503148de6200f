/- Functions: results, contracts out of walks.
   Conditions: none; definitions and lemmas. -/
import Derived.Test.YtomnjbebgfadoaaPiR
import Derived.Tactics
set_option linter.unusedVariables false
set_option linter.unusedSimpArgs false
namespace Go.Proofs.Ytomnjbebgfadoaa.Pi
open Go Go.RowKit

/-! ### 18. Results -/
def ResOk (P : Program) (tmps : Array Value) (w : World) (r : ResultVar) (v : Value) : Prop := match r with
  | .tmp t => v = tmps.getD t undef
  | .cell a t => ∃ A, tmps.getD a undef = .pointer (some A) ∧ (loadVar t A).run P w = .ok v w
def ResOks (P : Program) (tmps : Array Value) (w : World) : List ResultVar → List Value → Prop
  | [], vs => vs = []
  | r :: rs, vs => ∃ v vs', vs = v :: vs' ∧ ResOk P tmps w r v ∧ ResOks P tmps w rs vs'

theorem results_run {fn : Func} {rs : List ResultVar} (h : fn.results = rs.toArray) (hl : rs.length ≤ 3) (hq3 : rs.length = 3 → rs.all (fun r => match r with | .tmp _ => true | _ => false) = true) {tmps : Array Value} {P : Program} {w : World} {vs : List Value} (hv : ResOks P tmps w rs vs) : (results fn tmps).run P w = .ok (packV vs) w := by
  match rs, hl, hq3, hv with
  | [], _, _, hv => simp only [ResOks] at hv; subst hv; simp [results, h, packV]
  | [r], _, _, hv =>
    simp only [ResOks] at hv
    obtain ⟨v, vs', rfl, h1, rfl⟩ := hv
    cases r with
    | tmp t => simp only [ResOk] at h1; simp [results, h, packV, h1]
    | cell a t => simp only [ResOk] at h1; obtain ⟨A, e1, e2⟩ := h1; simp [results, h, packV, ← Array.getD_eq_getD_getElem?, e1, e2, asAddr]
  | [r, r'], _, _, hv =>
    simp only [ResOks] at hv
    obtain ⟨v, vs', rfl, h1, v', vs'', rfl, h2, rfl⟩ := hv
    cases r with
    | tmp t =>
      cases r' with
      | tmp t' => simp only [ResOk] at h1 h2; simp [results, h, packV, h1, h2]
      | cell a' t' => simp only [ResOk] at h1 h2; obtain ⟨A', e1', e2'⟩ := h2; simp [results, h, packV, ← Array.getD_eq_getD_getElem?, h1, e1', e2', asAddr]
    | cell a t =>
      simp only [ResOk] at h1
      obtain ⟨A, e1, e2⟩ := h1
      cases r' with
      | tmp t' => simp only [ResOk] at h2; simp [results, h, packV, ← Array.getD_eq_getD_getElem?, h2, e1, e2, asAddr]
      | cell a' t' => simp only [ResOk] at h2; obtain ⟨A', e1', e2'⟩ := h2; simp [results, h, packV, ← Array.getD_eq_getD_getElem?, e1, e2, e1', e2', asAddr]
  | [r, r', r''], _, hq3, hv =>
    simp only [ResOks] at hv
    obtain ⟨v, vs', rfl, h1, v', vs'', rfl, h2, v3, vs3, rfl, h3, rfl⟩ := hv
    cases r with
    | tmp t =>
      cases r' with
      | tmp t' =>
        cases r'' with
        | tmp t'' => simp only [ResOk] at h1 h2 h3; simp [results, h, packV, h1, h2, h3]
        | cell a'' t'' => simp at hq3
      | cell a' t' => simp at hq3
    | cell a t => simp at hq3
  | _ :: _ :: _ :: _ :: _, hl, _, _ => simp at hl

def resP (E : Env) (S : St) : ResultVar → Option (Prop × PV)
  | .tmp t => some (S.sc (.tmp t), S.sv (.tmp t))
  | .cell a t => (loadV E S t (S.sv (.tmp a))).map fun r => (S.sc (.tmp a) ∧ r.1, r.2)
def resPs (E : Env) (S : St) : List ResultVar → Option (Prop × List PV)
  | [] => some (True, [])
  | r :: rs => (resP E S r).bind fun x => (resPs E S rs).map fun y => (x.1 ∧ y.1, x.2 :: y.2)

section
variable {E : Env} {N base : Nat} {w0 : World} {X : Fr} {S : St} {α : Nat → Value} {a : Act} {w : World}
theorem loadV_ptr (h : Rel N base w0 X S α a w) {t : Nat} {q p : PV} {c : Prop} (hq : loadV E S t q = some (c, p)) {v : Value} (hv : q.rel S.o α w (okOf X.A S.o α) v) : ∃ A, v = .pointer (some A) := by
  unfold loadV at hq
  split at hq
  · simp only [PV.rel, D.rd] at hv
    obtain ⟨b, o, rfl, _⟩ := hv
    exact ⟨_, rfl⟩
  · simp only [PV.rel] at hv
    split at hq
    · rename_i hob
      obtain ⟨g, _, rfl⟩ := hv.2 (obj_some hob).1
      exact ⟨_, rfl⟩
    · rename_i hob
      obtain ⟨g, _, rfl⟩ := hv.2 (obj_some hob).1
      exact ⟨_, rfl⟩
    · rename_i hob
      obtain ⟨g, _, rfl⟩ := hv.2 (obj_some hob).1
      exact ⟨_, rfl⟩
    · cases hq
  · cases hq
theorem resP_sound (hE : EnvOk E) (h : Rel N base w0 X S α a w) {r : ResultVar} {c : Prop} {p : PV} (hr : resP E S r = some (c, p)) (hc : c) : ∃ u, ResOk E.P a.tmps w r u ∧ p.rel S.o α w (okOf X.A S.o α) u := by
  cases r with
  | tmp t =>
    simp only [resP, Option.some.injEq, Prod.mk.injEq] at hr
    obtain ⟨rfl, rfl⟩ := hr
    refine ⟨_, rfl, ?_⟩
    have := sv_rel h (.tmp t) hc
    simpa [Act.eval] using this
  | cell b t =>
    simp only [resP] at hr
    obtain ⟨⟨c1, p1⟩, h1, h2⟩ := Option.map_eq_some_iff.1 hr
    simp only [Prod.mk.injEq] at h2
    obtain ⟨rfl, rfl⟩ := h2
    have hv := sv_rel h (.tmp b) hc.1
    obtain ⟨A, hA⟩ := loadV_ptr h h1 hv
    obtain ⟨u, hu, hrel⟩ := run_loadV hE h h1 hc.2 hv
    have hA' : a.tmps.getD b undef = .pointer (some A) := by simpa [Act.eval] using hA
    refine ⟨u, ⟨A, hA', ?_⟩, hrel⟩
    rw [hA] at hu
    simpa [Instr.loadAt, Instr.sureAddr] using hu
theorem resPs_sound (hE : EnvOk E) (h : Rel N base w0 X S α a w) : ∀ {rs : List ResultVar} {c : Prop} {ps : List PV}, resPs E S rs = some (c, ps) → c → ∃ us, ResOks E.P a.tmps w rs us ∧ PV.rels S.o α w (okOf X.A S.o α) ps us
  | [], c, ps, hr, hc => by
    simp only [resPs, Option.some.injEq, Prod.mk.injEq] at hr
    obtain ⟨rfl, rfl⟩ := hr
    exact ⟨[], by simp [ResOks], by simp [PV.rels]⟩
  | r :: rs, c, ps, hr, hc => by
    simp only [resPs] at hr
    obtain ⟨⟨c1, p1⟩, h1, hr⟩ := Option.bind_eq_some_iff.1 hr
    obtain ⟨⟨c2, ps2⟩, h2, h3⟩ := Option.map_eq_some_iff.1 hr
    simp only [Prod.mk.injEq] at h3
    obtain ⟨rfl, rfl⟩ := h3
    obtain ⟨u, hu, hur⟩ := resP_sound hE h h1 hc.1
    obtain ⟨us, hus, husr⟩ := resPs_sound hE h h2 hc.2
    exact ⟨u :: us, by simp only [ResOks]; exact ⟨u, us, rfl, hu, hus⟩, by simp only [PV.rels]; exact ⟨u, us, rfl, hur, husr⟩⟩
end

/-- How a result is told: data, or a row of the caller's own from now on. -/
inductive RM where
  | data (t : Nat)
  | own (e : Nat)
def rvOf (E : Env) (S : St) (m : RM) (p : PV) : Option RV := match m with
  | .data t => (snapV E S t p).map .d
  | .own e => match p with
    | .row K ver _ => match S.obj K ver with
      | some (.row sz e' xs) => if e' = e then some (.own sz e xs) else none
      | _ => none
    | .nils => (E.ty e).map fun te => .own te.size e []
    | _ => none
def rvsOf (E : Env) (S : St) : List RM → List PV → Option (List RV)
  | [], [] => some []
  | m :: ms, p :: ps => (rvOf E S m p).bind fun r => (rvsOf E S ms ps).map (r :: ·)
  | _, _ => none
def ownKs : List RM → List PV → List Nat
  | .own _ :: ms, .row K _ _ :: ps => K :: ownKs ms ps
  | _ :: ms, _ :: ps => ownKs ms ps
  | _, _ => []
def dataKs (S : St) : List RM → List PV → List Nat
  | .data _ :: ms, p :: ps => keysV S p ++ dataKs S ms ps
  | .own _ :: ms, _ :: ps => dataKs S ms ps
  | _, _ => []
def nodupB : List Nat → Bool
  | [] => true
  | x :: xs => !xs.contains x && nodupB xs
theorem nodupB_spec : ∀ {l : List Nat}, nodupB l = true → l.Nodup
  | [], _ => List.nodup_nil
  | x :: xs, h => by
    simp only [nodupB, Bool.and_eq_true, Bool.not_eq_true', List.contains_eq_mem, decide_eq_false_iff_not] at h
    exact List.nodup_cons.2 ⟨h.1, nodupB_spec h.2⟩
def sepB (S : St) (ms : List RM) (ps : List PV) : Bool := nodupB (ownKs ms ps) && (ownKs ms ps).all fun k => !(dataKs S ms ps).contains k
def outRes (E : Env) (ms : List RM) (rs : List ResultVar) (post : List RV → Prop) (S : St) : Prop :=
  ∃ x, resPs E S rs = some x ∧ x.1 ∧ ∃ rvs, rvsOf E S ms x.2 = some rvs ∧ sepB S ms x.2 = true ∧ post rvs

section
variable {E : Env} {N base : Nat} {w0 : World} {X : Fr} {S : St} {α : Nat → Value} {a : Act} {w : World}

theorem rels_cons {o : Objs} {α : Nat → Value} {w : World} {ok : Nat → Prop} {p : PV} {ps : List PV} {us : List Value} (h : PV.rels o α w ok (p :: ps) us) : ∃ u us', us = u :: us' ∧ p.rel o α w ok u ∧ PV.rels o α w ok ps us' := by
  simpa only [PV.rels] using h

/-- The blocks of own results are those of live objects. -/
theorem ownBlks_keys (h : Rel N base w0 X S α a w) : ∀ {ms : List RM} {ps : List PV} {rvs : List RV} {us : List Value}, rvsOf E S ms ps = some rvs → PV.rels S.o α w (okOf X.A S.o α) ps us → ∀ b ∈ ownBlks rvs us, ∃ K ∈ ownKs ms ps, (S.o K).2 ≠ none ∧ hblk (α K) = some b
  | [], [], rvs, us, hr, hu, b, hb => by
    simp only [rvsOf, Option.some.injEq] at hr; subst hr
    simp [ownBlks] at hb
  | [], _ :: _, rvs, us, hr, hu, b, hb => by simp [rvsOf] at hr
  | _ :: _, [], rvs, us, hr, hu, b, hb => by simp [rvsOf] at hr
  | m :: ms, p :: ps, rvs, us, hr, hu, b, hb => by
    simp only [rvsOf] at hr
    obtain ⟨r, h1, hr⟩ := Option.bind_eq_some_iff.1 hr
    obtain ⟨rs, h2, rfl⟩ := Option.map_eq_some_iff.1 hr
    obtain ⟨u, us', rfl, hu1, hu2⟩ := rels_cons hu
    have ih := ownBlks_keys h h2 hu2
    have lift : (∃ K ∈ ownKs ms ps, (S.o K).2 ≠ none ∧ hblk (α K) = some b) → ∃ K ∈ ownKs (m :: ms) (p :: ps), (S.o K).2 ≠ none ∧ hblk (α K) = some b := by
      rintro ⟨K, hK, hx⟩
      refine ⟨K, ?_, hx⟩
      unfold ownKs
      split
      · rename_i e1 e2; simp only [List.cons.injEq] at e1 e2; obtain ⟨_, rfl⟩ := e1; obtain ⟨_, rfl⟩ := e2; simp [hK]
      · rename_i e1 e2; simp only [List.cons.injEq] at e1 e2; obtain ⟨_, rfl⟩ := e1; obtain ⟨_, rfl⟩ := e2; exact hK
      · rename_i hn; exact absurd rfl (hn _ _ _ _ rfl)
    cases r with
    | d x => simp only [ownBlks] at hb; exact lift (ih b hb)
    | own sz e xs =>
      simp only [ownBlks, List.mem_append] at hb
      rcases hb with hb | hb
      · cases m with
        | data t => simp only [rvOf] at h1; obtain ⟨_, _, h3⟩ := Option.map_eq_some_iff.1 h1; cases h3
        | own e' =>
          simp only [rvOf] at h1
          split at h1
          · rename_i K ver n
            split at h1
            · rename_i sz' e'' xs' hob
              obtain ⟨hl, hx⟩ := obj_some hob
              simp only [PV.rel] at hu1
              have := hu1.2 hl
              subst this
              refine ⟨K, by simp [ownKs], by rw [hx]; simp, ?_⟩
              cases hg : hblk (α K) with
              | none => rw [hg] at hb; simp at hb
              | some g => rw [hg] at hb; simp at hb; rw [hb]
            · cases h1
          · simp only [PV.rel] at hu1
            subst hu1
            simp [hblk] at hb
          · cases h1
      · exact lift (ih b hb)
theorem ownBlks_nodup (h : Rel N base w0 X S α a w) : ∀ {ms : List RM} {ps : List PV} {rvs : List RV} {us : List Value}, rvsOf E S ms ps = some rvs → PV.rels S.o α w (okOf X.A S.o α) ps us → (ownKs ms ps).Nodup → (ownBlks rvs us).Nodup
  | [], [], rvs, us, hr, hu, hn => by
    simp only [rvsOf, Option.some.injEq] at hr; subst hr
    simp [ownBlks]
  | [], _ :: _, rvs, us, hr, hu, hn => by simp [rvsOf] at hr
  | _ :: _, [], rvs, us, hr, hu, hn => by simp [rvsOf] at hr
  | m :: ms, p :: ps, rvs, us, hr, hu, hn => by
    simp only [rvsOf] at hr
    obtain ⟨r, h1, hr⟩ := Option.bind_eq_some_iff.1 hr
    obtain ⟨rs, h2, rfl⟩ := Option.map_eq_some_iff.1 hr
    obtain ⟨u, us', rfl, hu1, hu2⟩ := rels_cons hu
    have hks := ownBlks_keys h h2 hu2
    have hn' : (ownKs ms ps).Nodup := by
      unfold ownKs at hn
      split at hn
      · rename_i e1 e2; simp only [List.cons.injEq] at e1 e2; obtain ⟨_, rfl⟩ := e1; obtain ⟨_, rfl⟩ := e2; exact (List.nodup_cons.1 hn).2
      · rename_i e1 e2; simp only [List.cons.injEq] at e1 e2; obtain ⟨_, rfl⟩ := e1; obtain ⟨_, rfl⟩ := e2; exact hn
      · rename_i hn'; exact absurd rfl (hn' _ _ _ _ rfl)
    have ih := ownBlks_nodup h h2 hu2 hn'
    cases r with
    | d x => simpa only [ownBlks] using ih
    | own sz e xs =>
      simp only [ownBlks]
      cases m with
      | data t => simp only [rvOf] at h1; obtain ⟨_, _, h3⟩ := Option.map_eq_some_iff.1 h1; cases h3
      | own e' =>
        simp only [rvOf] at h1
        split at h1
        · rename_i K ver n
          split at h1
          · rename_i sz' e'' xs' hob
            obtain ⟨hl, hx⟩ := obj_some hob
            simp only [PV.rel] at hu1
            have := hu1.2 hl
            subst this
            simp only [ownKs, List.nodup_cons] at hn
            cases hg : hblk (α K) with
            | none => simpa using ih
            | some g =>
              simp only [Option.toList_some, List.singleton_append, List.nodup_cons]
              refine ⟨fun hm => ?_, ih⟩
              obtain ⟨K', hK', hl', hb'⟩ := hks g hm
              have hne : K ≠ K' := fun e => hn.1 (e ▸ hK')
              exact h.inj K K' hne (by rw [hx]; simp) hl' g hg hb'
          · cases h1
        · simp only [PV.rel] at hu1
          subst hu1
          simpa [hblk] using ih
        · cases h1
theorem rvs_rels (hE : EnvOk E) (h : Rel N base w0 X S α a w) {ok : Nat → Prop} (hok : ∀ b, okOf X.A S.o α b → ok b) : ∀ {ms : List RM} {ps : List PV} {rvs : List RV} {us : List Value}, rvsOf E S ms ps = some rvs → PV.rels S.o α w (okOf X.A S.o α) ps us →
    (∀ K ∈ dataKs S ms ps, (S.o K).2 ≠ none → ∀ g, hblk (α K) = some g → ok g) → RV.rels w ok base rvs us
  | [], [], rvs, us, hr, hu, hd => by
    simp only [rvsOf, Option.some.injEq] at hr; subst hr
    simpa only [PV.rels, RV.rels] using hu
  | [], _ :: _, rvs, us, hr, hu, hd => by simp [rvsOf] at hr
  | _ :: _, [], rvs, us, hr, hu, hd => by simp [rvsOf] at hr
  | m :: ms, p :: ps, rvs, us, hr, hu, hd => by
    simp only [rvsOf] at hr
    obtain ⟨r, h1, hr⟩ := Option.bind_eq_some_iff.1 hr
    obtain ⟨rs, h2, rfl⟩ := Option.map_eq_some_iff.1 hr
    obtain ⟨u, us', rfl, hu1, hu2⟩ := rels_cons hu
    have hk : Keeps w (okOf X.A S.o α) w ok := fun b _ hb => ⟨hok b hb, rfl⟩
    simp only [RV.rels]
    cases m with
    | data t =>
      simp only [dataKs, List.mem_append] at hd
      refine ⟨u, us', rfl, ?_, rvs_rels hE h hok h2 hu2 fun K hK => hd K (.inr hK)⟩
      simp only [rvOf] at h1
      obtain ⟨d, h3, rfl⟩ := Option.map_eq_some_iff.1 h1
      simp only [RV.rel]
      exact snapV_sound h h3 ⟨hok, fun K hK => hd K (.inl hK)⟩ hu1
    | own e =>
      simp only [dataKs] at hd
      refine ⟨u, us', rfl, ?_, rvs_rels hE h hok h2 hu2 hd⟩
      simp only [rvOf] at h1
      split at h1
      · rename_i K ver n
        split at h1
        · rename_i sz e' xs hob
          split at h1
          · rename_i e; subst e
            simp only [Option.some.injEq] at h1
            subst h1
            obtain ⟨hl, hx⟩ := obj_some hob
            simp only [PV.rel] at hu1
            have := hu1.2 hl
            subst this
            obtain ⟨vals, h3, h4, h5, h6⟩ := h.o K _ hx
            exact ⟨vals, h3, h4, rdVals_keeps hk _ _ h5, h6⟩
          · cases h1
        · cases h1
      · obtain ⟨te, hte, rfl⟩ := Option.map_eq_some_iff.1 h1
        simp only [PV.rel] at hu1
        subst hu1
        exact ⟨[], ⟨by simp, .inl ⟨rfl, rfl⟩⟩, by simp, by simp [rdVals], by simp⟩
      · cases h1
end

/-! ### 19. Contracts out of walks -/
def startP (ps : List PV) (o : Objs) : St := ⟨fun k => ps.getD k .un, o⟩
def noObs : Objs := fun _ => (0, none)
/-- How a function's walk ends. -/
def endP (Q : St → Prop) : PEx → St → Prop
  | .ret, S => Q S
  | .normal, S => Q S
  | .exit _, _ => False

theorem start_rel {o : Objs} {α : Nat → Value} {w : World} {ok : Nat → Prop} {ps : List PV} {vs : List Value} (h : PV.rels o α w ok ps vs) (n : Nat) (k : Nat) : (ps.getD k .un).rel o α w ok ((vs.toArray ++ Array.replicate n undef).getD k undef) := by
  by_cases hk : k < ps.length
  · have hp : ps[k]? = some ps[k] := List.getElem?_eq_getElem hk
    obtain ⟨v, hv, hr⟩ := PV.rels_get h k _ hp
    have hl := PV.rels_length h
    have e1 : ps.getD k .un = ps[k] := by simp [hk]
    have e2 : (vs.toArray ++ Array.replicate n undef).getD k undef = v := by
      have : k < vs.length := by omega
      have hv' : vs[k] = v := by rw [List.getElem?_eq_getElem this] at hv; simpa using hv
      simp [Array.getD_eq_getD_getElem?, Array.getElem?_append, this, hv']
    rw [e1, e2]
    exact hr
  · have : ps.getD k .un = .un := by simp [List.getElem?_eq_none (Nat.le_of_not_lt hk)]
    rw [this]
    simp only [PV.rel]

theorem con_of_pwp {E : Env} (hE : EnvOk E) {f : Nat} {fn : Func} {c : Code} (hf : E.P.funcs[f]? = some fn) (hb : fn.body = some c) (hn : E.n ≤ fn.ntmps) (hco : codeOk E c = true) {con : Con} {rs : List ResultVar} (hrs : fn.results = rs.toArray) (hl : rs.length ≤ 3)
    (hq3 : rs.length = 3 → rs.all (fun r => match r with | .tmp _ => true | _ => false) = true) (ms : List RM)
    (hsome : ∀ ds, con.pre ds → ∃ r, con.post ds r) (hflat : con.flat = true → ∀ ds r, con.post ds r → ∀ x ∈ r, RV.flat x = true)
    (h : ∀ ds, con.pre ds → pwp E c (endP (outRes E ms rs (con.post ds))) (startP (ds.map .d) noObs)) : ConOk E.P f con := by
  refine ⟨hsome, hflat, fun ds hpre w ok vs hv => calls_of_wp hf hb ?_⟩
  have hT : Tells E w.heap.size w ⟨fun _ _ => False, fun b => ok b ∨ w.heap.size ≤ b⟩ (startP (ds.map .d) noObs) { tmps := vs.toArray ++ Array.replicate (fn.ntmps - vs.toArray.size) undef, defers := [] } w := by
    refine ⟨fun _ => undef, rfl, ?_, fun k => ?_, fun K x hx => by simp [startP, noObs] at hx, fun K K' _ hK => by simp [startP, noObs] at hK, Below.refl _ _, fun b hb => .inr hb, Nat.le_refl _, fun p v hp => hp.elim⟩
    · simp only [Array.size_append, Array.size_replicate]; omega
    · refine start_rel (rels_of_rdVals (rdVals_keeps (fun b _ hb => ⟨⟨.inl hb, fun K hK => by simp [startP, noObs] at hK⟩, rfl⟩) _ _ hv)) _ k
  refine pwp_sound hE c hco (fun e S' a' w' hq hT' => ?_) (h ds hpre) hT
  have main : outRes E ms rs (con.post ds) S' → a'.defers = [] ∧ ∃ v, (results fn a'.tmps).run E.P w' = .ok v w' ∧ ∃ rs us, con.post ds rs ∧ Ending.returned v = .returned (packV us) ∧ Below w.heap.size w w' ∧ (ownBlks rs us).Nodup ∧
      RV.rels w' (fun b => (ok b ∨ w.heap.size ≤ b) ∧ b ∉ ownBlks rs us) w.heap.size rs us := by
    rintro ⟨⟨cc, ps⟩, h1, h2, rvs, h3, h4, h5⟩
    obtain ⟨α, hR⟩ := hT'
    obtain ⟨us, hus, hrel⟩ := resPs_sound hE hR h1 h2
    simp only [sepB, Bool.and_eq_true, List.all_eq_true, Bool.not_eq_true', List.contains_eq_mem, decide_eq_false_iff_not] at h4
    have hkeys := ownBlks_keys hR h3 hrel
    refine ⟨hR.defers, _, results_run hrs hl hq3 hus, rvs, us, h5, rfl, hR.below, ownBlks_nodup hR h3 hrel (nodupB_spec h4.1), ?_⟩
    refine rvs_rels (ok := fun b => (ok b ∨ w.heap.size ≤ b) ∧ b ∉ ownBlks rvs us) hE hR (fun b hb => ⟨hb.1, fun hm => ?_⟩) h3 hrel (fun K hK hKl g hg => ⟨?_, fun hm => ?_⟩)
    · obtain ⟨K, hK, hKl, hg⟩ := hkeys b hm
      exact hb.2 K hKl hg
    · cases hx : (S'.o K).2 with
      | none => exact absurd hx hKl
      | some x => exact .inr (Ob.rel_lt (hR.o K x hx) g hg).1
    · obtain ⟨K', hK', hKl', hg'⟩ := hkeys g hm
      have hne : K ≠ K' := fun e => h4.2 K' hK' (e ▸ hK)
      exact hR.inj K K' hne hKl hKl' g hg hg'
  cases e with
  | normal => exact main hq
  | ret => exact main hq
  | exit id => exact hq.elim

theorem icon_of_pwp {E : Env} (hE : EnvOk E) {f : Nat} {fn : Func} {c : Code} (hf : E.P.funcs[f]? = some fn) (hb : fn.body = some c) (hn : E.n ≤ fn.ntmps) (hco : codeOk E c = true) {con : ICon} {rs : List ResultVar} (hrs : fn.results = rs.toArray) (hl : rs.length ≤ 3)
    (hq3 : rs.length = 3 → rs.all (fun r => match r with | .tmp _ => true | _ => false) = true)
    (hsome : ∀ o ps, con.pre o ps → ∃ o' p, con.post o ps o' p)
    (h : ∀ o ps, con.pre o ps → pwp E c (endP fun S => ∃ x, resPs E S rs = some x ∧ x.1 ∧ con.post o ps S.o (packP x.2)) (startP ps o)) : IConOk E.P f con := by
  refine ⟨hsome, fun base w0 X o α w ps vs hpre hO hv => calls_of_wp hf hb ?_⟩
  have hT : Tells E base w0 X (startP ps o) { tmps := vs.toArray ++ Array.replicate (fn.ntmps - vs.toArray.size) undef, defers := [] } w := by
    refine ⟨α, rfl, ?_, fun k => start_rel hv _ k, hO.obs, hO.inj, hO.below, hO.free, hO.base, hO.x⟩
    simp only [Array.size_append, Array.size_replicate]; omega
  refine pwp_sound hE c hco (fun e S' a' w' hq hT' => ?_) (h o ps hpre) hT
  have main : (∃ x, resPs E S' rs = some x ∧ x.1 ∧ con.post o ps S'.o (packP x.2)) → a'.defers = [] ∧ ∃ v, (results fn a'.tmps).run E.P w' = .ok v w' ∧ ∃ o' α' p u, con.post o ps o' p ∧ Ending.returned v = .returned u ∧ RelO base w0 X o' α' w' ∧ p.rel o' α' w' (okOf X.A o' α') u := by
    rintro ⟨⟨cc, qs⟩, h1, h2, h3⟩
    obtain ⟨α', hR⟩ := hT'
    obtain ⟨us, hus, hrel⟩ := resPs_sound hE hR h1 h2
    exact ⟨hR.defers, _, results_run hrs hl hq3 hus, S'.o, α', _, _, h3, rfl, hR.toO, pack_rel hrel⟩
  cases e with
  | normal => exact main hq
  | ret => exact main hq
  | exit id => exact hq.elim

/-! ### 20. Contracts gathered -/
def Env.at (E : Env) (n : Nat) (own : Nat → Bool) (key : Nat → Nat) (fact : Nat → Bool) : Env := { E with n := n, own := own, key := key, fact := fact }
theorem EnvOk.at {E : Env} (h : EnvOk E) (n : Nat) (own : Nat → Bool) (key : Nat → Nat) (fact : Nat → Bool) : EnvOk (E.at n own key fact) := ⟨h.ty, h.con, h.icon, h.mixed⟩
def Env.add (E : Env) (f : Nat) (c : Con) : Env := { E with con := fun g => if g = f then some c else E.con g }
theorem EnvOk.add {E : Env} (h : EnvOk E) {f : Nat} {c : Con} {fn : Func} (hf : E.P.funcs[f]? = some fn) (hb : fn.body.isNone = false) (hm : (fn.name == "runtime.NumGoroutine") = false) (hc : ConOk E.P f c) : EnvOk (E.add f c) := by
  refine ⟨h.ty, fun g c' hg => ?_, h.icon, h.mixed⟩
  simp only [Env.add] at hg
  split at hg
  · rename_i e; subst e
    simp only [Option.some.injEq] at hg
    subst hg
    exact ⟨⟨fn, hf, hb, hm⟩, hc⟩
  · exact h.con g c' hg
def Env.iadd (E : Env) (f : Nat) (c : ICon) : Env := { E with icon := fun g => if g = f then some c else E.icon g }
theorem EnvOk.iadd {E : Env} (h : EnvOk E) {f : Nat} {c : ICon} {fn : Func} (hf : E.P.funcs[f]? = some fn) (hb : fn.body.isNone = false) (hm : (fn.name == "runtime.NumGoroutine") = false) (hc : IConOk E.P f c) : EnvOk (E.iadd f c) := by
  refine ⟨h.ty, h.con, fun g c' hg => ?_, h.mixed⟩
  simp only [Env.iadd] at hg
  split at hg
  · rename_i e; subst e
    simp only [Option.some.injEq] at hg
    subst hg
    exact ⟨⟨fn, hf, hb, hm⟩, hc⟩
  · exact h.icon g c' hg
end Go.Proofs.Ytomnjbebgfadoaa.Pi
