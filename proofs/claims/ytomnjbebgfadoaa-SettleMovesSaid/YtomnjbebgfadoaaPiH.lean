/- Soundness of the pure interpreter's pure operations: structs that are built; all of them together.
   Conditions: none; lemmas. -/
import Derived.Test.YtomnjbebgfadoaaPiGm
import Derived.Great.BuildSlice
set_option linter.unusedVariables false
set_option linter.unusedSimpArgs false
namespace Go.Proofs.Ytomnjbebgfadoaa.Pi
open Go Go.RowKit

theorem cells_one {v : Value} (h : v.oneCell' = true) : v.cells = #[v] := by
  cases v <;> simp_all [Value.oneCell', Value.cells]
theorem nilV_one (k : Nat) : (nilV k).oneCell' = true := by
  match k with
  | 0 => rfl
  | 1 => rfl
  | 2 => rfl
  | _ + 3 => rfl
theorem rd_one {w : World} {ok : Nat → Prop} {x : D} {v : Value} (h : x.rd w ok v) (hx : ∀ cs, x ≠ .agg cs) : v.oneCell' = true := by
  cases x <;> simp only [D.rd] at h
  case agg cs => exact absurd rfl (hx cs)
  case lst => obtain ⟨A, c, rfl, _⟩ := h; rfl
  case ptr => obtain ⟨b, o, rfl, _⟩ := h; rfl
  case fn => obtain ⟨vs, rfl, _⟩ := h; rfl
  case nil k => subst h; exact nilV_one k
  all_goals (first | (subst h; rfl) | (obtain ⟨h, _⟩ := h; subst h; rfl))
theorem cells_rel {o : Nat → Nat × Option Ob} {α : Nat → Value} {w : World} {ok : Nat → Prop} {p : PV} {cs : List PV} {v : Value} (h : cellsP p = some cs) (hr : p.rel o α w ok v) : PV.rels o α w ok cs v.cells.toList := by
  have one : ∀ {q : PV}, q.rel o α w ok v → v.oneCell' = true → PV.rels o α w ok [q] v.cells.toList := by
    intro q hq h1
    rw [cells_one h1]
    simp only [PV.rels]
    exact ⟨v, [], rfl, hq, rfl⟩
  cases p <;> simp only [cellsP, Option.some.injEq, reduceCtorEq] at h
  case d x =>
    cases x <;> simp only [cellsP, Option.some.injEq] at h <;> subst h
    case agg cs =>
      simp only [PV.rel, D.rd] at hr
      obtain ⟨vs, rfl, _, hr⟩ := hr
      exact PV.rels_d hr
    all_goals exact one hr (rd_one (by simpa only [PV.rel] using hr) (by simp))
  case nils => subst h; exact one hr (by simp only [PV.rel] at hr; subst hr; rfl)
  case ref => subst h; exact one hr (by simp only [PV.rel] at hr; exact (by obtain ⟨⟨⟨g, e⟩, _⟩, _⟩ := hr; rw [e]; rfl))
  case row => subst h; exact one hr (by simp only [PV.rel] at hr; exact (by obtain ⟨⟨⟨A, c, e, _⟩, _⟩, _⟩ := hr; rw [e]; rfl))
  case map => subst h; exact one hr (by simp only [PV.rel] at hr; exact hr.1.1)
  case fn => subst h; exact one hr (by simp only [PV.rel] at hr; obtain ⟨vs, rfl, _⟩ := hr; rfl)
  case agg cs =>
    subst h
    simp only [PV.rel] at hr
    obtain ⟨vs, rfl, _, hr⟩ := hr
    exact hr
  case clip => subst h; exact one hr (by simp only [PV.rel] at hr; obtain ⟨⟨A, rfl⟩, _⟩ := hr; rfl)

theorem cells_ones {o : Nat → Nat × Option Ob} {α : Nat → Value} {w : World} {ok : Nat → Prop} {p : PV} {cs : List PV} {v : Value} (h : cellsP p = some cs) (hr : p.rel o α w ok v) : ∀ u ∈ v.cells.toList, u.oneCell' = true := by
  have one : v.oneCell' = true → ∀ u ∈ v.cells.toList, u.oneCell' = true := by
    intro h1 u hu
    rw [cells_one h1] at hu
    simp at hu
    subst hu
    exact h1
  cases p <;> simp only [cellsP, Option.some.injEq, reduceCtorEq] at h
  case d x =>
    cases x <;> simp only [cellsP, Option.some.injEq] at h <;> subst h
    case agg cs =>
      simp only [PV.rel, D.rd] at hr
      obtain ⟨vs, rfl, h1, hr⟩ := hr
      exact h1
    all_goals exact one (rd_one (by simpa only [PV.rel] using hr) (by simp))
  case nils => exact one (by simp only [PV.rel] at hr; subst hr; rfl)
  case ref => exact one (by simp only [PV.rel] at hr; exact (by obtain ⟨⟨⟨g, e⟩, _⟩, _⟩ := hr; rw [e]; rfl))
  case row => exact one (by simp only [PV.rel] at hr; exact (by obtain ⟨⟨⟨A, c, e, _⟩, _⟩, _⟩ := hr; rw [e]; rfl))
  case map => exact one (by simp only [PV.rel] at hr; exact hr.1.1)
  case fn => exact one (by simp only [PV.rel] at hr; obtain ⟨vs, rfl, _⟩ := hr; rfl)
  case agg cs =>
    simp only [PV.rel] at hr
    obtain ⟨vs, rfl, h1, hr⟩ := hr
    exact h1
  case clip => exact one (by simp only [PV.rel] at hr; obtain ⟨⟨A, rfl⟩, _⟩ := hr; rfl)

theorem splice_fold (cells : Array Value) (off : Nat) (v : Array Value) (h : off + v.size ≤ cells.size) :
    (v.zipIdx.foldl (fun cs (x : Value × Nat) => cs.setIfInBounds (off + x.2) x.1) cells).toList = cells.toList.take off ++ v.toList ++ cells.toList.drop (off + v.size) := by
  have e : v.zipIdx.foldl (fun cs (x : Value × Nat) => cs.setIfInBounds (off + x.2) x.1) cells = (v.toList.zipIdx 0).foldl (fun cs (x : Value × Nat) => cs.setIfInBounds (off + x.2) x.1) cells := by
    rw [← Array.foldl_toList, Array.toList_zipIdx]
  rw [e]
  obtain ⟨g1, g2⟩ := Great.foldl_set off v.toList 0 cells
  apply List.ext_getElem?
  intro k
  have := g2 k
  rw [Array.getElem?_toList, this]
  simp only [Nat.add_zero, Array.length_toList, List.append_assoc]
  by_cases h1 : k < off
  · rw [if_neg (by omega), List.getElem?_append_left (by simp; omega), List.getElem?_take, if_pos h1]
    simp
  · rw [List.getElem?_append_right (by simp; omega)]
    have hl : (cells.toList.take off).length = off := by simp; omega
    rw [hl]
    by_cases h2 : k < off + v.size
    · rw [if_pos (by omega), List.getElem?_append_left (by simp; omega)]
    · rw [if_neg (by omega), List.getElem?_append_right (by simp; omega), List.getElem?_drop]
      simp only [Array.length_toList]
      rw [show off + v.size + (k - off - v.size) = k by omega]
      simp

/-- Parts of a struct, as values and as they are told. -/
def partsRel (o : Nat → Nat × Option Ob) (α : Nat → Value) (w : World) (ok : Nat → Prop) : List (Nat × PV) → List (Nat × Value) → Prop
  | [], vs => vs = []
  | (i, p) :: ps, vs => ∃ v vs', vs = (i, v) :: vs' ∧ p.rel o α w ok v ∧ partsRel o α w ok ps vs'

theorem fill_rel {o : Nat → Nat × Option Ob} {α : Nat → Value} {w : World} {ok : Nat → Prop} {fs : List FI} {place : Nat → Option (Nat × Nat)} (hp : ∀ i x, fs[i]? = some x → place i = some (x.off, x.size)) :
    ∀ {parts : List (Nat × PV)} {vparts : List (Nat × Value)} {cells cells' : List PV} {vals : Array Value}, partsRel o α w ok parts vparts → fillP fs cells parts = some cells' → PV.rels o α w ok cells vals.toList → (∀ u ∈ vals.toList, u.oneCell' = true) →
    ∃ vals', Instr.fill place vals vparts = some vals' ∧ PV.rels o α w ok cells' vals'.toList ∧ (∀ u ∈ vals'.toList, u.oneCell' = true)
  | [], vparts, cells, cells', vals, hpr, h, hr, hz1 => by
    simp only [partsRel] at hpr; subst hpr
    simp only [fillP, Option.some.injEq] at h; subst h
    exact ⟨vals, rfl, hr, hz1⟩
  | (i, p) :: parts, vparts, cells, cells', vals, hpr, h, hr, hz1 => by
    simp only [partsRel] at hpr
    obtain ⟨v, vs', rfl, h1, h2⟩ := hpr
    rw [fillP] at h
    split at h
    · rename_i f cs hf hcs
      split at h
      · rename_i hc
        have hcr := cells_rel hcs h1
        have hl1 := PV.rels_length hcr
        have hl2 := PV.rels_length hr
        simp only [Array.length_toList] at hl1 hl2
        have hsp := splice_fold vals f.off v.cells (by omega)
        have hr' : PV.rels o α w ok (cells.take f.off ++ cs ++ cells.drop (f.off + f.size)) (v.cells.zipIdx.foldl (fun cs (x : Value × Nat) => cs.setIfInBounds (f.off + x.2) x.1) vals).toList := by
          rw [hsp]
          refine PV.rels_append (PV.rels_append (PV.rels_take hr _) hcr) ?_
          have := PV.rels_drop hr (f.off + f.size)
          rwa [show f.off + v.cells.size = f.off + f.size by omega]
        have hz1' : ∀ u ∈ (v.cells.zipIdx.foldl (fun cs (x : Value × Nat) => cs.setIfInBounds (f.off + x.2) x.1) vals).toList, u.oneCell' = true := by
          rw [hsp]
          intro u hu
          rcases List.mem_append.1 hu with hu | hu
          · rcases List.mem_append.1 hu with hu | hu
            · exact hz1 u (List.mem_of_mem_take hu)
            · exact cells_ones hcs h1 u hu
          · exact hz1 u (List.mem_of_mem_drop hu)
        obtain ⟨vals', h3, h4, h5⟩ := fill_rel hp h2 h hr' hz1'
        refine ⟨vals', ?_, h4, h5⟩
        simp only [Instr.fill, hp i f hf]
        rw [if_neg (by simp; omega)]
        exact h3
      · cases h
    · cases h

theorem dcells_rd {o : Nat → Nat × Option Ob} {α : Nat → Value} {w : World} {ok : Nat → Prop} : ∀ {zs : List D} {ps : List PV} {ds : List D} {vs : List Value}, dcells zs ps = some ds → PV.rels o α w ok ps vs → rdVals w ok ds vs
  | [], [], ds, vs, h, hr => by
    simp only [dcells, Option.some.injEq] at h; subst h
    simpa only [PV.rels, rdVals] using hr
  | [], _ :: _, ds, vs, h, hr => by simp [dcells] at h
  | _ :: _, [], ds, vs, h, hr => by simp [dcells] at h
  | z :: zs, p :: ps, ds, vs, h, hr => by
    simp only [dcells, Option.bind_eq_some_iff, Option.map_eq_some_iff] at h
    obtain ⟨x, h1, es, h2, rfl⟩ := h
    simp only [PV.rels] at hr
    obtain ⟨v, vs', rfl, h3, h4⟩ := hr
    simp only [rdVals]
    refine ⟨v, vs', rfl, ?_, dcells_rd h2 h4⟩
    unfold dcell at h1
    split at h1
    · simp only [Option.some.injEq] at h1; subst h1
      simpa only [PV.rel] using h3
    · simp only [Option.some.injEq] at h1; subst h1
      simp only [PV.rel] at h3; subst h3
      simp only [D.rd]
      exact ⟨none, 0, by simp, by simp, by simp, by simp⟩
    · cases h1

theorem zeq_val {v : Value} {d : D} (h : zeqB v d = true) : v = zval d := by
  unfold zeqB at h
  split at h
  · simp at h; simp [zval, h]
  · simp at h; simp [zval, h]
  · rename_i s s'
    simp at h
    simp [zval, h.1, h.2]
  · rfl
  · simp at h; subst h; rfl
  · simp at h; subst h; rfl
  · simp at h; subst h; rfl
  · simp at h; subst h; rfl
  · cases h
theorem zeqs_val : ∀ {vs : List Value} {ds : List D}, zeqsB vs ds = true → vs = ds.map zval ∧ ∀ d ∈ ds, zok d = true
  | [], [], _ => by simp
  | [], _ :: _, h => by simp [zeqsB] at h
  | _ :: _, [], h => by simp [zeqsB] at h
  | v :: vs, d :: ds, h => by
    simp only [zeqsB, Bool.and_eq_true] at h
    obtain ⟨h1, h2⟩ := zeqs_val h.2
    refine ⟨by rw [List.map_cons, ← h1, ← zeq_val h.1.1], fun x hx => ?_⟩
    rcases List.mem_cons.1 hx with rfl | hx
    · exact h.1.2
    · exact h2 x hx
theorem zpv_rel {o : Nat → Nat × Option Ob} {α : Nat → Value} {w : World} {ok : Nat → Prop} {d : D} (h : zok d = true) : (zpv d).rel o α w ok (zval d) := by
  cases d <;> simp_all [zok, zpv, zval, PV.rel, D.rd]
theorem zpvs_rel {o : Nat → Nat × Option Ob} {α : Nat → Value} {w : World} {ok : Nat → Prop} : ∀ {ds : List D}, (∀ d ∈ ds, zok d = true) → PV.rels o α w ok (ds.map zpv) (ds.map zval)
  | [], _ => by simp [PV.rels]
  | d :: ds, h => by
    simp only [List.map_cons, PV.rels]
    exact ⟨_, _, rfl, zpv_rel (h d (by simp)), zpvs_rel fun x hx => h x (by simp [hx])⟩
theorem zval_one {d : D} (h : zok d = true) : (zval d).oneCell' = true := by
  cases d
  case nil k => exact nilV_one k
  all_goals simp_all [zok, zval, Value.oneCell']
theorem zval_rd {w : World} {ok : Nat → Prop} {d : D} (h : zok d = true) : d.rd w ok (zval d) := by
  cases d <;> simp_all [zok, zval, D.rd]
  exact ⟨none, 0, ⟨rfl, rfl⟩, fun _ => rfl⟩
theorem zvals_rd {w : World} {ok : Nat → Prop} : ∀ {ds : List D}, (∀ d ∈ ds, zok d = true) → rdVals w ok ds (ds.map zval)
  | [], _ => by simp [rdVals]
  | d :: ds, h => by
    simp only [List.map_cons, rdVals]
    exact ⟨_, _, rfl, zval_rd (h d (by simp)), zvals_rd fun x hx => h x (by simp [hx])⟩

section
variable {E : Env} (hE : EnvOk E)
include hE
/-- The zero value of a type that is told. -/
theorem ty_zero {t : Nat} {ti : TI} (h : E.ty t = some ti) (hk : (∀ k e, ti.k ≠ .map k e) ∧ ti.k ≠ .other) : ∃ i z, E.P.info? t = some i ∧ i.size = ti.size ∧ i.bytes = ti.bytes ∧ i.zero = some z ∧ z.cells.toList = ti.zero.map zval ∧ (∀ d ∈ ti.zero, zok d = true) ∧ ti.zero.length = ti.size := by
  have := hE.ty t ti h
  unfold tyB at this
  rw [Bool.and_eq_true] at this
  have h2 := this.2
  split at h2
  · rename_i i hi
    simp only [Bool.and_eq_true, beq_iff_eq, decide_eq_true_eq] at h2
    obtain ⟨⟨⟨⟨⟨h3, h4⟩, h5⟩, h6⟩, _⟩, h7⟩ := h2
    split at h7
    · rename_i z hz
      split at h7
      · rename_i e; exact absurd e hk.2
      · rename_i k e e'; exact absurd e' (hk.1 k e)
      · simp only [Bool.and_eq_true, beq_iff_eq] at h7
        obtain ⟨h8, h9⟩ := zeqs_val h7.2.1
        exact ⟨i, z, hi, h3, h4, hz, h8, h9, h7.2.2⟩
      · simp only [Bool.and_eq_true, beq_iff_eq] at h7
        obtain ⟨h8, h9⟩ := zeqs_val h7.2.1
        exact ⟨i, z, hi, h3, h4, hz, h8, h9, h7.2.2⟩
    · cases h7
  · cases h2
/-- The zero value of a type, told. -/
theorem ty_zvp {t : Nat} {ti : TI} (h : E.ty t = some ti) (hk : plainTI ti = true) (w : World) : ∃ z, (zeroValue t).run E.P w = .ok z w ∧ ∀ (o : Nat → Nat × Option Ob) (α : Nat → Value) (ok : Nat → Prop), (zvp ti).rel o α w ok z := by
  obtain ⟨i, z, hi, hs, hb, hz, hzc, hzo, hzl⟩ := ty_zero hE h (by unfold plainTI at hk; split at hk <;> simp_all)
  obtain ⟨_, _, _, _, hsz0, hb0⟩ := ty_info hE h
  refine ⟨z, by simp [zeroValue, typeInfo, hi, hz], fun o α ok => ?_⟩
  have hagg : ti.isAgg = true ∧ (∃ cs, z = .agg cs) ∨ ti.isAgg = false ∧ ∀ cs, z ≠ .agg cs := by
    have := hE.ty t ti h
    unfold tyB at this
    rw [Bool.and_eq_true] at this
    have h2 := this.2
    rw [hi] at h2
    simp only [Bool.and_eq_true, hz] at h2
    have h7 := h2.2
    unfold TI.isAgg
    unfold plainTI at hk
    cases hkk : ti.k <;> rw [hkk] at hk h7 <;> simp only [Bool.false_eq_true] at hk <;> simp only [Bool.and_eq_true] at h7 <;> cases z <;> simp_all
  unfold zvp
  rcases hagg with ⟨e, cs, rfl⟩ | ⟨e, hn⟩
  · rw [e]
    simp only [if_true, PV.rel, D.rd]
    have e2 : cs.toList = ti.zero.map zval := hzc
    refine ⟨cs, rfl, fun u hu => ?_, by rw [e2]; exact zvals_rd hzo⟩
    rw [e2] at hu
    obtain ⟨d, hd, rfl⟩ := List.mem_map.1 hu
    exact zval_one (hzo d hd)
  · rw [e]
    simp only [Bool.false_eq_true, if_false]
    have e2 : z.cells = #[z] := by cases z <;> first | rfl | exact absurd rfl (hn _)
    rw [e2] at hzc
    cases hzz : ti.zero with
    | nil => rw [hzz] at hzc; simp at hzc
    | cons d ds =>
      rw [hzz] at hzc
      simp at hzc
      have := zpv_rel (o := o) (α := α) (w := w) (ok := ok) (hzo d (by simp [hzz]))
      simp only [List.getD_cons_zero]
      rw [hzc.1]
      exact this

theorem run_lookupV {N base : Nat} {w0 : World} {X : Fr} {S : St} {α : Nat → Value} {a : Act} {w : World} (h : Rel N base w0 X S α a w) {t : Nat} {ok : Bool} {q q' p : PV} {c : Prop} (hq : lookupV E S t ok q q' = some (c, p)) (hc : c) {v u : Value} (hv : q.rel S.o α w (okOf X.A S.o α) v) (hu : q'.rel S.o α w (okOf X.A S.o α) u) :
    ∃ r, (Instr.lookup t v u ok).run E.P w = .ok r w ∧ p.rel S.o α w (okOf X.A S.o α) r := by
  unfold lookupV at hq
  split at hq
  · rename_i K ver kd
    split at hq
    · rename_i kt e kt' e' clock es ht hob
      split at hq
      · rename_i te hte
        split at hq
        · rename_i hpl
          simp only [Option.some.injEq, Prod.mk.injEq] at hq
          obtain ⟨rfl, rfl⟩ := hq
          obtain ⟨hl, hx⟩ := obj_some hob
          simp only [PV.rel] at hv hu
          have hva := hv.2 hl
          subst hva
          obtain ⟨g, ents, e1, hb, hh, hr⟩ := h.o K _ hx
          rw [e1]
          obtain ⟨z, hz1, hz2⟩ := ty_zvp hE hte hpl w
          have hf := run_findKey' hE hc.1 hu hc.2 hr
          have hck := run_checkKey' hE hc.1 hu ents.isEmpty
          have hut : E.P.underlying t = some (.map kt e) := tk_map hE ht
          have hm : ∃ r b, ((mres kd es ents.toList 0 = none ∧ r = z ∧ b = false) ∨ ∃ i, mres kd es ents.toList 0 = some (i, r) ∧ b = true) ∧ (mval kd es (zvp te)).rel S.o α w (okOf X.A S.o α) r ∧ mhas kd es = b := by
            cases hfi : mfind kd es with
            | none =>
              refine ⟨z, false, .inl ⟨mres_none hr hfi, rfl, rfl⟩, ?_, by simp [mhas, hfi]⟩
              simp only [mval, hfi, Option.map_none, Option.getD_none]
              exact hz2 _ _ _
            | some x =>
              obtain ⟨b, pv⟩ := x
              obtain ⟨j, m, h1, h2, h3, h4, _⟩ := mres_some (i := 0) hr hfi
              refine ⟨m.val, true, .inr ⟨_, h1, rfl⟩, ?_, by simp [mhas, hfi]⟩
              simp only [mval, hfi, Option.map_some, Option.getD_some]
              exact h4
          obtain ⟨r, b, h1, h2, h3⟩ := hm
          have hrun : (Instr.lookup t (.map (some g)) u ok).run E.P w = .ok (if ok then .tuple #[r, .bool b] else r) w := by
            simp only [Instr.lookup, Sem.run_bind, run_underlying hut, Result.andThen_ok, MapKept.run_getObj_map hh, Sem.run_pure, hck, hf]
            rcases h1 with ⟨h1, rfl, rfl⟩ | ⟨i, h1, rfl⟩ <;> rw [h1] <;> cases ok <;> simp [hz1]
          refine ⟨_, hrun, ?_⟩
          cases ok with
          | true =>
            simp only [if_true, PV.rel, PV.rels, D.rd]
            exact ⟨_, rfl, r, [.bool b], rfl, h2, _, [], rfl, by rw [h3], rfl⟩
          | false => simpa using h2
        · cases hq
      · cases hq
    · cases hq
  · cases hq

omit hE in
theorem boundV_rel {o : Nat → Nat × Option Ob} {α : Nat → Value} {w : World} {ok : Nat → Prop} {q : Option PV} {l : Option Int} (h : boundV q = some l) {v : Option Value} (hv : ∀ p, q = some p → ∃ u, v = some u ∧ p.rel o α w ok u) (hn : q = none → v = none) : (l = none ∧ v = none) ∨ ∃ k n, l = some n ∧ v = some (.int k n) := by
  unfold boundV at h
  split at h
  · simp only [Option.some.injEq] at h; subst h; exact .inl ⟨rfl, hn rfl⟩
  · rename_i k n
    simp only [Option.some.injEq] at h; subst h
    obtain ⟨u, rfl, hu⟩ := hv _ rfl
    simp only [PV.rel, D.rd] at hu; subst hu
    exact .inr ⟨k, n, rfl, rfl⟩
  · cases h

theorem run_sliceV {w : World} {o : Nat → Nat × Option Ob} {α : Nat → Value} {ok : Nat → Prop} {t : Nat} {q p : PV} {ql qh : Option PV} {c : Prop} (hq : sliceV E t q ql qh = some (c, p)) (hc : c) {v : Value} {vl vh : Option Value} (hv : q.rel o α w ok v)
    (hl : ∀ p, ql = some p → ∃ u, vl = some u ∧ p.rel o α w ok u) (hln : ql = none → vl = none) (hh : ∀ p, qh = some p → ∃ u, vh = some u ∧ p.rel o α w ok u) (hhn : qh = none → vh = none) :
    ∃ r, (Instr.sliceAt t v vl vh none).run E.P w = .ok r w ∧ p.rel o α w ok r := by
  unfold sliceV at hq
  split at hq
  · rename_i e sz xs l hi ht hbl hbh
    split at hq
    · rename_i te hte
      split at hq
      · rename_i hsz
        simp only [Option.some.injEq, Prod.mk.injEq] at hq
        obtain ⟨rfl, rfl⟩ := hq
        obtain ⟨c1, c2, c3⟩ := hc
        obtain ⟨i, hi', hs, _⟩ := ty_info hE hte
        have hut := tk_slice hE ht
        simp only [PV.rel, D.rd] at hv
        obtain ⟨A, cp, rfl, ⟨hcap, hA⟩, hmax, hr⟩ := hv
        have hsize : (sizeOf e).run E.P w = .ok te.size w := by simp [sizeOf, typeInfo, hi', hs]
        generalize hL : l.getD 0 = L at c1 c2
        generalize hH : hi.getD (xs.length : Int) = H at c2 c3
        have hbounds : (Instr.sliceBounds true xs.length cp vl vh none).run E.P w = .ok (L.toNat, H.toNat, cp) w := by
          rcases boundV_rel hbl hl hln with ⟨rfl, rfl⟩ | ⟨k, n, rfl, rfl⟩ <;> rcases boundV_rel hbh hh hhn with ⟨rfl, rfl⟩ | ⟨k', n', rfl, rfl⟩ <;> simp only [Option.getD_none, Option.getD_some] at hL hH <;> subst hL <;> subst hH
          · simp [Instr.sliceBounds]
          · have : n' ≤ (cp : Int) := by omega
            have h0 : 0 ≤ n' := by omega
            simp [Instr.sliceBounds, Instr.sliceBound, asIntOf, this, h0]
          · have : n ≤ (xs.length : Int) := by omega
            simp [Instr.sliceBounds, Instr.sliceBound, asIntOf, this, c1]
          · have h1 : n' ≤ (cp : Int) := by omega
            have h0 : 0 ≤ n' := by omega
            have h2 : n ≤ (n'.toNat : Int) := by omega
            have h3 : n ≤ n' := by omega
            have h4 : max n' 0 = n' := by omega
            simp [Instr.sliceBounds, Instr.sliceBound, asIntOf, h1, h0, h2, h3, c1]
            intro h5; omega
        refine ⟨.slice (if cp = L.toNat then A else A.map (·.add (L.toNat * te.size))) (H.toNat - L.toNat) (cp - L.toNat), ?_, ?_⟩
        · simp only [Instr.sliceAt, Sem.run_bind, run_underlying hut, Result.andThen_ok, Instr.slice, hbounds, hsize, Sem.run_pure]
        · simp only [PV.rel, D.rd]
          have hlen : ((xs.take H.toNat).drop L.toNat).length = H.toNat - L.toNat := by simp; omega
          refine ⟨_, _, by rw [hlen], ⟨by omega, fun e => ?_⟩, by omega, fun hne => ?_⟩
          · split at e
            · omega
            · cases A with
              | none => have := hA rfl; omega
              | some a => simp at e
          · have hne' : xs ≠ [] := by rintro rfl; simp at hne
            obtain ⟨b, o', rfl, hrows⟩ := hr hne'
            have hpos : 0 < H.toNat - L.toNat := by rw [← hlen]; exact List.length_pos_iff.2 hne
            have hne2 : cp ≠ L.toNat := by omega
            refine ⟨b, o' + L.toNat * sz, by simp [hne2, Addr.add_mid, hsz], ?_⟩
            refine rdRows_mk fun i r hir => ?_
            rw [List.getElem?_drop, List.getElem?_take] at hir
            split at hir
            · have := rdRows_get hrows _ r hir
              rwa [show o' + (L.toNat + i) * sz = o' + L.toNat * sz + i * sz by rw [Nat.add_mul]; omega] at this
            · cases hir
      · cases hq
    · cases hq
  · rename_i s l hi ht hbl hbh
    simp only [Option.some.injEq, Prod.mk.injEq] at hq
    obtain ⟨rfl, rfl⟩ := hq
    obtain ⟨c1, c2, c3⟩ := hc
    have hut := tk_str hE ht
    simp only [PV.rel, D.rd] at hv
    obtain ⟨rfl, hmax⟩ := hv
    generalize hL : l.getD 0 = L at c1 c2
    generalize hH : hi.getD (s.size : Int) = H at c2 c3
    have hbounds : (Instr.sliceBounds false s.size s.size vl vh none).run E.P w = .ok (L.toNat, H.toNat, s.size) w := by
      rcases boundV_rel hbl hl hln with ⟨rfl, rfl⟩ | ⟨k, n, rfl, rfl⟩ <;> rcases boundV_rel hbh hh hhn with ⟨rfl, rfl⟩ | ⟨k', n', rfl, rfl⟩ <;> simp only [Option.getD_none, Option.getD_some] at hL hH <;> subst hL <;> subst hH
      · simp [Instr.sliceBounds]
      · have h0 : 0 ≤ n' := by omega
        simp [Instr.sliceBounds, Instr.sliceBound, asIntOf, c3, h0]
      · simp [Instr.sliceBounds, Instr.sliceBound, asIntOf, c2, c1]
      · have h0 : 0 ≤ n' := by omega
        have h2 : n ≤ (n'.toNat : Int) := by omega
        simp [Instr.sliceBounds, Instr.sliceBound, asIntOf, c3, h0, h2, c1, c2]
        intro h5; omega
    refine ⟨.string (s.extract L.toNat H.toNat), ?_, ?_⟩
    · simp [Instr.sliceAt, run_underlying hut, Instr.slice, hbounds]
    · simp only [PV.rel, D.rd]
      refine ⟨trivial, Nat.le_trans ?_ hmax⟩
      simp [ByteArray.size_extract]
      omega
  · cases hq

omit hE in
theorem fields_places {P : Program} : ∀ {fields : List Field} {fs : List FI}, Fields P fields fs → fields.mapM (fun f => (P.info? f.type).map fun i => (f.offset, i.size)) = some (fs.map fun x => (x.off, x.size)) := by
  intro fields fs h
  induction h with
  | nil => simp
  | cons ho i hi hs h0 ha hn hk h ih =>
    simp only [List.mapM_cons, hi, Option.map_some, ho, hs, ih]
    rfl

theorem run_buildV {t : Nat} {parts : List (Nat × PV)} {vparts : Array (Nat × Value)} {p : PV} {c : Prop} (hq : buildV E t parts = some (c, p)) {ov : Nat → Nat × Option Ob} {α : Nat → Value} {w : World} {ok : Nat → Prop} (hp : partsRel ov α w ok parts vparts.toList) :
    ∃ r, (Instr.build t vparts).run E.P w = .ok r w ∧ p.rel ov α w ok r := by
  unfold buildV at hq
  split at hq
  · rename_i ti ht
    split at hq
    · rename_i fs hk
      simp only [Option.bind_eq_some_iff] at hq
      obtain ⟨cs, hcs, hq⟩ := hq
      obtain ⟨i, z, hi, hs, hb, hz, hzc, hzo, hzl⟩ := ty_zero hE ht (by rw [hk]; simp)
      have htk : E.tk t = some (.struct fs) := by simp [Env.tk, ht, hk]
      obtain ⟨fields, hu, hf, _⟩ := tk_struct hE htk
      have hz0 : PV.rels ov α w ok (ti.zero.map zpv) z.cells.toList := by rw [hzc]; exact zpvs_rel hzo
      have hpl := fields_places hf
      have hzone : ∀ u ∈ z.cells.toList, u.oneCell' = true := by
        rw [hzc]; intro u hu
        obtain ⟨d, hd, rfl⟩ := List.mem_map.1 hu
        exact zval_one (hzo d hd)
      obtain ⟨vals, h1, h2, h3⟩ := fill_rel (place := fun j => ((fs.map fun x => (x.off, x.size)).toArray)[j]?) (fs := fs) (fun j x hx => by simp [hx]) hp hcs hz0 hzone
      have hrun : (Instr.build t vparts).run E.P w = .ok (.agg vals) w := by
        refine run_build w t vparts vals ?_
        unfold Program.built
        simp only [hi, hu, hz, hpl]
        exact h1
      refine ⟨.agg vals, hrun, ?_⟩
      split at hq
      · rename_i ds hds
        simp only [Option.some.injEq, Prod.mk.injEq] at hq
        obtain ⟨_, rfl⟩ := hq
        simp only [PV.rel, D.rd]
        exact ⟨vals, rfl, h3, dcells_rd hds h2⟩
      · simp only [Option.some.injEq, Prod.mk.injEq] at hq
        obtain ⟨_, rfl⟩ := hq
        simp only [PV.rel]
        exact ⟨vals, rfl, h3, h2⟩
    · cases hq
  · cases hq
end

section
variable {E : Env} {N base : Nat} {w0 : World} {X : Fr} {S : St} {α : Nat → Value} {a : Act} {w : World}
theorem args_rel (h : Rel N base w0 X S α a w) : ∀ {xs : List Operand}, argsC S xs → PV.rels S.o α w (okOf X.A S.o α) (xs.map S.sv) (xs.map a.eval)
  | [], _ => by simp [PV.rels]
  | x :: xs, hc => by
    simp only [argsC] at hc
    simp only [List.map_cons, PV.rels]
    exact ⟨_, _, rfl, sv_rel h x hc.1, args_rel h hc.2⟩
theorem parts_rel (h : Rel N base w0 X S α a w) : ∀ {xs : List (Nat × Operand)}, argsC S (xs.map (·.2)) → partsRel S.o α w (okOf X.A S.o α) (xs.map fun p => (p.1, S.sv p.2)) (xs.map fun p => (p.1, a.eval p.2))
  | [], _ => by simp [partsRel]
  | x :: xs, hc => by
    simp only [List.map_cons, argsC] at hc
    simp only [List.map_cons, partsRel]
    exact ⟨_, _, rfl, sv_rel h x.2 hc.1, parts_rel h hc.2⟩

/-- THE PURE OPERATIONS: the machine's operation gives a value that the interpreter's tells, and the world stands. -/
theorem pureOp_sound (hE : EnvOk E) (h : Rel N base w0 X S α a w) (o : Oper) {c : Prop} {p : PV} (hp : pureOp E S o.op = some (c, p)) (hc : c) :
    ∃ v, (execOp a.eval o).run E.P w = .ok (.value v) w ∧ p.rel S.o α w (okOf X.A S.o α) v := by
  obtain ⟨dst, op, type, pos, after, guard⟩ := o
  unfold pureOp at hp
  split at hp
  · rename_i x he
    simp only at he; subst he
    simp only [Option.some.injEq, Prod.mk.injEq] at hp
    obtain ⟨rfl, rfl⟩ := hp
    exact ⟨_, by simp [execOp], ev_rel h x⟩
  · rename_i x he
    simp only at he; subst he
    simp only [Option.some.injEq, Prod.mk.injEq] at hp
    obtain ⟨rfl, rfl⟩ := hp
    exact ⟨_, by simp [execOp], ev_rel h x⟩
  · rename_i x y z he
    simp only at he; subst he
    obtain ⟨⟨c', p'⟩, h1, h2⟩ := Option.map_eq_some_iff.1 hp
    simp only [Prod.mk.injEq] at h2
    obtain ⟨rfl, rfl⟩ := h2
    have hx := sv_rel h x hc.1
    generalize S.sv x = px at h1 hx
    unfold pickV at h1
    split at h1
    · rename_i t b1 b2 hy0 hz0
      simp only [Option.some.injEq, Prod.mk.injEq] at h1
      obtain ⟨rfl, rfl⟩ := h1
      simp only [PV.rel, D.rd] at hx
      cases t with
      | true =>
        have hy := sv_rel h y (hc.2.1 rfl)
        rw [hy0] at hy
        exact ⟨_, by simp [execOp, hx, asBool]; rfl, by simpa using hy⟩
      | false =>
        have hz := sv_rel h z (hc.2.2 rfl)
        rw [hz0] at hz
        exact ⟨_, by simp [execOp, hx, asBool]; rfl, by simpa using hz⟩
    · cases h1
  · rename_i op t x y yt he
    simp only at he; subst he
    obtain ⟨⟨c', p'⟩, h1, h2⟩ := Option.map_eq_some_iff.1 hp
    simp only [Prod.mk.injEq] at h2
    obtain ⟨rfl, rfl⟩ := h2
    obtain ⟨r, hr1, hr2⟩ := run_binV hE (x := x) (y := y) h1 hc.2 (sv_rel h x hc.1.1) (sv_rel h y hc.1.2)
    exact ⟨r, by simp only [execOp, Sem.run_bind] at hr1 ⊢; simp [hr1], hr2⟩
  · rename_i op t x he
    simp only at he; subst he
    obtain ⟨⟨c', p'⟩, h1, h2⟩ := Option.map_eq_some_iff.1 hp
    simp only [Prod.mk.injEq] at h2
    obtain ⟨rfl, rfl⟩ := h2
    have hx := sv_rel h x hc.1
    generalize S.sv x = px at h1 hx
    unfold unV at h1
    split at h1
    · simp only [PV.rel, D.rd] at hx
      split at h1
      · simp only [Option.some.injEq, Prod.mk.injEq] at h1
        obtain ⟨rfl, rfl⟩ := h1
        exact ⟨_, by simp [execOp, hx, Op.unary, Op.intArith]; rfl, by simp [PV.rel, D.rd, wint]⟩
      · cases h1
    · simp only [PV.rel, D.rd] at hx
      split at h1
      · simp only [Option.some.injEq, Prod.mk.injEq] at h1
        obtain ⟨rfl, rfl⟩ := h1
        exact ⟨_, by simp [execOp, hx, Op.unary]; rfl, by simp [PV.rel, D.rd]⟩
      · cases h1
    · cases h1
  · rename_i src dst x he
    simp only at he; subst he
    obtain ⟨⟨c', p'⟩, h1, h2⟩ := Option.map_eq_some_iff.1 hp
    simp only [Prod.mk.injEq] at h2
    obtain ⟨rfl, rfl⟩ := h2
    have hx := sv_rel h x hc.1
    generalize S.sv x = px at h1 hx
    unfold convV at h1
    split at h1
    · simp only [PV.rel, D.rd] at hx
      split at h1
      · rename_i k0 k' hk0 hk
        simp only [Option.some.injEq, Prod.mk.injEq] at h1
        obtain ⟨rfl, rfl⟩ := h1
        exact ⟨_, by simp [execOp, hx, convert, run_underlying (tk_int hE hk0), run_underlying (tk_int hE hk), Conv.intToInt]; rfl, by simp [PV.rel, D.rd, wint]⟩
      · cases h1
    · cases h1
  · rename_i x i he
    simp only at he; subst he
    obtain ⟨⟨c', p'⟩, h1, h2⟩ := Option.map_eq_some_iff.1 hp
    simp only [Prod.mk.injEq] at h2
    obtain ⟨rfl, rfl⟩ := h2
    obtain ⟨r, hr1, hr2⟩ := run_extV h1 (sv_rel h x hc.1) E.P
    exact ⟨r, by simp [execOp, hr1], hr2⟩
  · rename_i t x he
    simp only at he; subst he
    obtain ⟨⟨c', p'⟩, h1, h2⟩ := Option.map_eq_some_iff.1 hp
    simp only [Prod.mk.injEq] at h2
    obtain ⟨rfl, rfl⟩ := h2
    obtain ⟨r, hr1, hr2⟩ := run_loadV hE h h1 hc.2 (sv_rel h x hc.1)
    exact ⟨r, by simp [execOp, hr1], hr2⟩
  · rename_i s x f he
    simp only at he; subst he
    obtain ⟨⟨c', p'⟩, h1, h2⟩ := Option.map_eq_some_iff.1 hp
    simp only [Prod.mk.injEq] at h2
    obtain ⟨rfl, rfl⟩ := h2
    obtain ⟨r, hr1, hr2⟩ := run_fieldAddrV hE h1 (sv_rel h x hc.1)
    exact ⟨r, by simp [execOp, hr1], hr2⟩
  · rename_i s x f he
    simp only at he; subst he
    obtain ⟨⟨c', p'⟩, h1, h2⟩ := Option.map_eq_some_iff.1 hp
    simp only [Prod.mk.injEq] at h2
    obtain ⟨rfl, rfl⟩ := h2
    obtain ⟨r, hr1, hr2⟩ := run_fieldV hE h1 hc.2 (sv_rel h x hc.1)
    exact ⟨r, by simp [execOp, hr1], hr2⟩
  · rename_i t x i he
    simp only at he; subst he
    obtain ⟨⟨c', p'⟩, h1, h2⟩ := Option.map_eq_some_iff.1 hp
    simp only [Prod.mk.injEq] at h2
    obtain ⟨rfl, rfl⟩ := h2
    obtain ⟨r, hr1, hr2⟩ := run_indexAddrV hE h h1 hc.2 (sv_rel h x hc.1.1) (sv_rel h i hc.1.2)
    exact ⟨r, by simp [execOp, hr1], hr2⟩
  · rename_i t x i he
    simp only at he; subst he
    obtain ⟨⟨c', p'⟩, h1, h2⟩ := Option.map_eq_some_iff.1 hp
    simp only [Prod.mk.injEq] at h2
    obtain ⟨rfl, rfl⟩ := h2
    obtain ⟨r, hr1, hr2⟩ := run_indexV hE h1 hc.2 (sv_rel h x hc.1.1) (sv_rel h i hc.1.2)
    exact ⟨r, by simp [execOp, hr1], hr2⟩
  · rename_i t parts he
    simp only at he; subst he
    obtain ⟨⟨c', p'⟩, h1, h2⟩ := Option.map_eq_some_iff.1 hp
    simp only [Prod.mk.injEq] at h2
    obtain ⟨rfl, rfl⟩ := h2
    obtain ⟨r, hr1, hr2⟩ := run_buildV hE (vparts := parts.map fun p => (p.1, a.eval p.2)) h1 (w := w) (by simpa using parts_rel h hc.1)
    exact ⟨r, by simp [execOp, hr1], hr2⟩
  · rename_i cl he
    simp only at he; subst he
    obtain ⟨callee, args, argTypes⟩ := cl
    unfold callOp at hp
    simp only at hp
    split at hp
    · rename_i b
      split at hp
      · rename_i x t hx ht
        have hx' : args = #[x] := by simpa [← Array.toList_inj] using hx
        have ht' : argTypes = #[t] := by simpa [← Array.toList_inj] using ht
        subst hx' ht'
        obtain ⟨⟨c', p'⟩, h1, h2⟩ := Option.map_eq_some_iff.1 hp
        simp only [Prod.mk.injEq] at h2
        obtain ⟨rfl, rfl⟩ := h2
        obtain ⟨r, hr1, hr2⟩ := run_lenV hE (ty := type) h h1 (sv_rel h x hc.1)
        exact ⟨r, by simp [execOp, resolve, invoke, builtin, hr1], hr2⟩
      · obtain ⟨⟨k, ns⟩, h1, h2⟩ := Option.map_eq_some_iff.1 hp
        simp only [Prod.mk.injEq] at h2
        obtain ⟨rfl, rfl⟩ := h2
        obtain ⟨e1, e2⟩ := ints_rel h1 (args_rel h hc)
        refine ⟨.int k (minI ns), ?_, by simp [PV.rel, D.rd]⟩
        have e3 : (args.map a.eval).toList = ns.map (Value.int k) := by simpa using e1
        cases ns with
        | nil => exact absurd rfl e2
        | cons n ns =>
          simp only [List.map_cons] at e3
          simp only [Array.toList_map] at e3
          simp [execOp, resolve, invoke, builtin, Builtin.min_, e3, foldlM_min, minI]
      · obtain ⟨⟨k, ns⟩, h1, h2⟩ := Option.map_eq_some_iff.1 hp
        simp only [Prod.mk.injEq] at h2
        obtain ⟨rfl, rfl⟩ := h2
        obtain ⟨e1, e2⟩ := ints_rel h1 (args_rel h hc)
        refine ⟨.int k (maxI ns), ?_, by simp [PV.rel, D.rd]⟩
        have e3 : (args.map a.eval).toList = ns.map (Value.int k) := by simpa using e1
        cases ns with
        | nil => exact absurd rfl e2
        | cons n ns =>
          simp only [List.map_cons] at e3
          simp only [Array.toList_map] at e3
          simp [execOp, resolve, invoke, builtin, Builtin.max_, e3, foldlM_max, maxI]
      · cases hp
    · cases hp
  · rename_i t x i ok he
    simp only at he; subst he
    obtain ⟨⟨c', p'⟩, h1, h2⟩ := Option.map_eq_some_iff.1 hp
    simp only [Prod.mk.injEq] at h2
    obtain ⟨rfl, rfl⟩ := h2
    obtain ⟨r, hr1, hr2⟩ := run_lookupV hE h h1 hc.2 (sv_rel h x hc.1.1) (sv_rel h i hc.1.2)
    exact ⟨r, by simp [execOp, hr1], hr2⟩
  · rename_i t x lo hi he
    simp only at he; subst he
    obtain ⟨⟨c', p'⟩, h1, h2⟩ := Option.map_eq_some_iff.1 hp
    simp only [Prod.mk.injEq] at h2
    obtain ⟨rfl, rfl⟩ := h2
    have hall : ∀ {xs : List Operand}, argsC S xs → ∀ y ∈ xs, S.sc y := by
      intro xs
      induction xs with
      | nil => intro _ y hy; cases hy
      | cons z xs ih =>
        intro hz y hy
        simp only [argsC] at hz
        rcases List.mem_cons.1 hy with rfl | hy
        · exact hz.1
        · exact ih hz.2 y hy
    have hsc := hall hc.1
    obtain ⟨r, hr1, hr2⟩ := run_sliceV hE (vl := lo.map a.eval) (vh := hi.map a.eval) h1 hc.2 (sv_rel h x (hsc x (by simp)))
      (fun p hp => by cases lo with | none => simp at hp | some y => simp at hp; subst hp; exact ⟨_, rfl, sv_rel h y (hsc y (by simp))⟩) (fun e => by cases lo with | none => rfl | some y => simp at e)
      (fun p hp => by cases hi with | none => simp at hp | some y => simp at hp; subst hp; exact ⟨_, rfl, sv_rel h y (hsc y (by simp))⟩) (fun e => by cases hi with | none => rfl | some y => simp at e)
    exact ⟨r, by simp [execOp, hr1], hr2⟩
  · rename_i x he
    simp only at he; subst he
    obtain ⟨⟨c', p'⟩, h1, h2⟩ := Option.map_eq_some_iff.1 hp
    simp only [Prod.mk.injEq] at h2
    obtain ⟨rfl, rfl⟩ := h2
    have hx := sv_rel h x hc.1
    generalize S.sv x = q at h1 hx
    unfold nilCheckV at h1
    split at h1 <;> try (cases h1; done)
    · simp only [Option.some.injEq, Prod.mk.injEq] at h1
      obtain ⟨rfl, rfl⟩ := h1
      have hx' := hx
      simp only [PV.rel, D.rd] at hx
      obtain ⟨b, o, e, _⟩ := hx
      exact ⟨_, by simp [execOp, e]; rfl, by rw [e] at hx'; exact hx'⟩
    · simp only [Option.some.injEq, Prod.mk.injEq] at h1
      obtain ⟨rfl, rfl⟩ := h1
      have hx' := hx
      simp only [PV.rel, D.rd] at hx
      obtain ⟨vs, e, _⟩ := hx
      exact ⟨_, by simp [execOp, e]; rfl, by rw [e] at hx'; exact hx'⟩
    · simp only [Option.some.injEq, Prod.mk.injEq] at h1
      obtain ⟨rfl, rfl⟩ := h1
      have hx' := hx
      simp only [PV.rel] at hx
      obtain ⟨vs, e, _⟩ := hx
      exact ⟨_, by simp [execOp, e]; rfl, by rw [e] at hx'; exact hx'⟩
    · simp only [Option.some.injEq, Prod.mk.injEq] at h1
      obtain ⟨rfl, rfl⟩ := h1
      have hx' := hx
      simp only [PV.rel] at hx
      obtain ⟨⟨⟨g, e⟩, _⟩, _⟩ := hx
      exact ⟨_, by simp [execOp, e]; rfl, by rw [e] at hx'; exact hx'⟩
  · rename_i f first caps he
    simp only at he; subst he
    obtain ⟨⟨c', p'⟩, h1, h2⟩ := Option.map_eq_some_iff.1 hp
    simp only [Prod.mk.injEq] at h2
    obtain ⟨rfl, rfl⟩ := h2
    unfold makeFuncV at h1
    split at h1
    · rename_i f hf
      simp only [Option.some.injEq, Prod.mk.injEq] at h1
      obtain ⟨rfl, rfl⟩ := h1
      have hfirst : first = #[] := Array.toList_inj.1 (by simpa using hf)
      subst hfirst
      refine ⟨.func (.func f) #[] (caps.map a.eval), by simp [execOp, Instr.makeFunc], ?_⟩
      simp only [PV.rel]
      exact ⟨_, rfl, by simpa using args_rel h hc.1⟩
    · cases h1
  · cases hp
end
end Go.Proofs.Ytomnjbebgfadoaa.Pi
