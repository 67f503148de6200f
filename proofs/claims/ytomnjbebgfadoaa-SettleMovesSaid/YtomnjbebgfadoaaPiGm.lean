/- Maps: how the machine finds a key, and that the pure interpreter's finding tells it.
   Conditions: none; lemmas. -/
import Derived.Test.YtomnjbebgfadoaaPiG
import Derived.MapKept
set_option linter.unusedVariables false
set_option linter.unusedSimpArgs false
namespace Go.Proofs.Ytomnjbebgfadoaa.Pi
open Go Go.RowKit

theorem deq_shape {z x y : D} {w : Bool} (h : shape1 z x = true) (h' : shape1 z y = true) : deq x y = some (keq x y) ∧ x.sk = z.sk := by
  cases z <;> cases x <;> simp only [shape1, Bool.false_eq_true] at h <;> cases y <;> simp only [shape1, Bool.false_eq_true] at h'
  · simp only [decide_eq_true_eq] at h h'; subst h; subst h'; simp [deq, keq, D.sk]
  · simp [deq, keq, D.sk]
  · simp [deq, keq, D.sk]
theorem deqs_shape : ∀ {zs xs ys : List D}, shapes zs xs = true → shapes zs ys = true → deqs xs ys = some (keqs xs ys)
  | [], [], [], _, _ => rfl
  | [], [], _ :: _, _, h => by simp [shapes] at h
  | [], _ :: _, _, h, _ => by simp [shapes] at h
  | _ :: _, [], _, h, _ => by simp [shapes] at h
  | _ :: _, _ :: _, [], _, h => by simp [shapes] at h
  | z :: zs, x :: xs, y :: ys, h, h' => by
    simp only [shapes, Bool.and_eq_true] at h h'
    simp [deqs, keqs, (deq_shape (w := true) h.1 h'.1).1, deqs_shape h.2 h'.2]

section
variable {E : Env} (hE : EnvOk E) {w : World}
include hE
/-- Two keys are compared. -/
theorem run_keq {kt : Nat} {x y : D} (hx : mkey E kt x = true) (hy : mkey E kt y = true) {ok : Nat → Prop} {u v : Value} (hu : x.rd w ok u) (hv : y.rd w ok v) :
    (Op.equal kt u v).run E.P w = .ok (keq x y) w ∧ ∃ kind, E.P.underlying kt = some kind ∧ ((Instr.sameNow kind u v = some (keq x y)) ∨ ∃ fs, kind = .struct fs) := by
  unfold mkey at hx hy
  split at hx
  · rename_i ti hti
    rw [hti] at hy
    simp only at hy
    have hk : ∀ k, ti.k = k → E.tk kt = some k := fun k e => by unfold Env.tk; rw [hti, ← e]; rfl
    split at hx
    · rename_i fs xs hf
      rw [hf] at hy
      cases y <;> simp only [Bool.false_eq_true] at hy
      rename_i ys
      simp only [Bool.and_eq_true] at hx hy
      obtain ⟨fields, hu', hfl, hg1, hg2⟩ := tk_struct hE (hk _ hf)
      simp only [D.rd] at hu hv
      obtain ⟨us, rfl, _, hus⟩ := hu
      obtain ⟨vs, rfl, _, hvs⟩ := hv
      refine ⟨?_, _, hu', .inr ⟨_, rfl⟩⟩
      have hfo : E.P.fieldsOf kt = fields := by simp [Program.fieldsOf, hu']
      have := run_eqFields (P := E.P) (w := w) 9998 hfl 0 xs ys _ us vs hx.1 (deqs_shape hx.2 hy.2) (fun i d hd => by simpa using rdVals_get hus i d hd) (fun i d hd => by simpa using rdVals_get hvs i d hd)
      unfold Op.equal Op.maxDepth
      rw [run_equalIn_struct (P := E.P) w 9999 kt us vs (by rw [hfo]; exact hu') hg2, hfo]
      simpa [keq] using this
    · rename_i k' k n hf
      rw [hf] at hy
      cases y <;> simp only [Bool.false_eq_true] at hy
      simp only [decide_eq_true_eq] at hx hy
      subst hx; subst hy
      simp only [D.rd] at hu hv; subst hu; subst hv
      have := tk_int hE (hk _ hf)
      refine ⟨?_, _, this, .inl (by simp [Instr.sameNow, keq])⟩
      simp [Op.equal, Op.maxDepth, keq]
      exact run_equalIn_int w 9999 kt _ _ _ _ this
    · rename_i b hf
      rw [hf] at hy
      cases y <;> simp only [Bool.false_eq_true] at hy
      simp only [D.rd] at hu hv; subst hu; subst hv
      have := tk_bool hE (hk _ hf)
      refine ⟨?_, _, this, .inl (by simp [Instr.sameNow, keq])⟩
      simpa [keq] using run_equal_bool (P := E.P) (w := w) this _ _
    · rename_i s hf
      rw [hf] at hy
      cases y <;> simp only [Bool.false_eq_true] at hy
      rename_i s'
      simp only [D.rd] at hu hv; obtain ⟨rfl, _⟩ := hu; obtain ⟨rfl, _⟩ := hv
      have := tk_str hE (hk _ hf)
      refine ⟨?_, _, this, .inl (by simp [Instr.sameNow, keq])⟩
      have h0 : ∀ n, (Op.equalIn (n + 1) kt (.string s) (.string s')).run E.P w = .ok (s == s') w := fun n => by simp [Op.equalIn, run_underlying this]
      have h9 := h0 9999
      simpa [keq, Op.equal, Op.maxDepth] using h9
    · cases hx
  · cases hx

/-- What is found, with its index and its entry's value. -/
def mres (k : D) : List (Nat × D × PV) → List MapEntry → Nat → Option (Nat × Value)
  | x :: es, m :: l, i => if keq k x.2.1 = true then some (i, m.val) else mres k es l (i + 1)
  | _, _, _ => none
theorem run_findKey' {kt : Nat} {kd : D} (hk : mkey E kt kd = true) {o : Nat → Nat × Option Ob} {α : Nat → Value} {ok : Nat → Prop} {kv : Value} (hv : kd.rd w ok kv) {es : List (Nat × D × PV)} {l : List MapEntry} (hes : mkeys E kt es = true) (hr : relME o α w ok es l) :
    (Instr.findKey kt kv l).run E.P w = .ok (mres kd es l 0) w := by
  have now : ∀ kind, E.P.underlying kt = some kind → ∀ (es : List (Nat × D × PV)) (l : List MapEntry) (i : Nat), mkeys E kt es = true → relME o α w ok es l → Instr.findNow kind kv l i = some (mres kd es l i) ∨ ∃ fs, kind = .struct fs := by
    intro kind hkind es
    induction es with
    | nil => intro l i _ h; simp only [relME] at h; subst h; exact .inl rfl
    | cons x es ih =>
      intro l i hes h
      simp only [relME] at h
      obtain ⟨m, l', rfl, ⟨_, h2, _⟩, h4⟩ := h
      simp only [mkeys, List.all_cons, Bool.and_eq_true] at hes
      obtain ⟨_, kind', hk', h5⟩ := run_keq hE hk hes.1 hv h2
      rw [hkind] at hk'
      simp only [Option.some.injEq] at hk'
      subst hk'
      rcases h5 with h5 | h5
      · rcases ih l' (i + 1) hes.2 h4 with h6 | h6
        · refine .inl ?_
          simp only [Instr.findNow, h5, mres]
          cases keq kd x.2.1 <;> simp [h6]
        · exact .inr h6
      · exact .inr h5
  have ask : ∀ (es : List (Nat × D × PV)) (l : List MapEntry) (i : Nat), mkeys E kt es = true → relME o α w ok es l → (Instr.findAsking kt kv l i).run E.P w = .ok (mres kd es l i) w := by
    intro es
    induction es with
    | nil => intro l i _ h; simp only [relME] at h; subst h; simp [Instr.findAsking, mres]
    | cons x es ih =>
      intro l i hes h
      simp only [relME] at h
      obtain ⟨m, l', rfl, ⟨_, h2, _⟩, h4⟩ := h
      simp only [mkeys, List.all_cons, Bool.and_eq_true] at hes
      obtain ⟨h5, _⟩ := run_keq hE hk hes.1 hv h2
      simp only [Instr.findAsking, Sem.run_bind, h5, Result.andThen_ok, mres]
      cases keq kd x.2.1
      · simpa using ih l' (i + 1) hes.2 h4
      · simp
  obtain ⟨_, kind, hkind, _⟩ := run_keq hE hk hk hv hv
  unfold Instr.findKey
  simp only [Sem.run_bind, run_underlying hkind, Result.andThen_ok]
  rcases now kind hkind es l 0 hes hr with h | ⟨fs, rfl⟩
  · rw [h]; simp
  · cases l with
    | nil =>
      have := ask es [] 0 hes hr
      simp only [Instr.findNow]
      cases es with
      | nil => simp [mres]
      | cons x es => simp only [relME] at hr; obtain ⟨m, l', e, _⟩ := hr; cases e
    | cons m l =>
      have : Instr.findNow (.struct fs) kv (m :: l) 0 = none := by simp [Instr.findNow, Instr.sameNow]
      rw [this]
      exact ask es _ 0 hes hr

theorem run_checkKey' {kt : Nat} {kd : D} (hk : mkey E kt kd = true) {ok : Nat → Prop} {kv : Value} (hv : kd.rd w ok kv) (em : Bool) : (Instr.checkKey em 10000 kt kv).run E.P w = .ok () w := by
  unfold mkey at hk
  split at hk
  · rename_i ti hti
    have htk : ∀ k, ti.k = k → E.tk kt = some k := fun k e => by unfold Env.tk; rw [hti, ← e]; rfl
    split at hk
    · rename_i fs xs hf
      simp only [Bool.and_eq_true] at hk
      obtain ⟨fields, hu', hfl, hg1, hg2⟩ := tk_struct hE (htk _ hf)
      simp only [D.rd] at hv
      obtain ⟨us, rfl, _, hus⟩ := hv
      unfold Instr.checkKey
      simp only [Sem.run_bind, run_underlying hu', Result.andThen_ok]
      rw [← Array.forIn_toList]
      have hget : ∀ i d, xs[i]? = some d → ∃ v, us[0 + i]? = some v ∧ d.rd w ok v := fun i d hd => by simpa using rdVals_get hus i d hd
      have hone := hk.1
      have hsh := hk.2
      clear hk hu' hus
      generalize (0 : Nat) = o at hget hone
      generalize fields.toList = fl at hfl
      generalize ti.zero = zs at hsh
      clear hf
      induction hfl generalizing o xs zs with
      | nil => simp
      | cons ho ti' hi hs h0 ha hn hsk hfl' ih =>
        rename_i f x fields' fs'
        cases xs with
        | nil => simp [oneCells] at hone
        | cons d xs =>
          cases zs with
          | nil => simp [shapes] at hsh
          | cons z zs =>
          simp only [shapes, Bool.and_eq_true] at hsh
          simp only [oneCells, Bool.and_eq_true, beq_iff_eq, Bool.not_eq_true'] at hone
          obtain ⟨⟨⟨⟨e1, e2⟩, e3⟩, e4⟩, e5⟩ := hone
          obtain ⟨v, hv0, hv1⟩ := hget 0 d (by simp)
          have hag : (Go.isAgg f.type).run E.P w = .ok false w := run_isAggB (by rw [ha, e3]) w
          rw [Nat.add_zero, ← e1, ← ho] at hv0
          have pv : (part f.type us f.offset).run E.P w = .ok v w := by unfold part; simp [hag, hv0]
          have hck : (Instr.checkKey em 9999 f.type v).run E.P w = .ok () w := by
            unfold Instr.checkKey
            have hk3 : ∃ td, E.P.underlying f.type = some td ∧ (∀ ms, td ≠ .interface ms) ∧ (∀ n e, td ≠ .array n e) ∧ (∀ fs, td ≠ .struct fs) := by
              unfold isAggB at ha
              rw [e3] at ha
              have hsh1 := hsh.1
              cases d <;> (try (cases z <;> simp [shape1] at hsh1; done)) <;> simp only [D.sk] at e4
              · obtain ⟨k, hk⟩ := skB_int (hsk.trans e4); exact ⟨_, hk, by simp, by simp, by simp⟩
              · exact ⟨_, skB_bool (hsk.trans e4), by simp, by simp, by simp⟩
              · exact ⟨_, skB_str (hsk.trans e4), by simp, by simp, by simp⟩
            obtain ⟨td, htd, n1, n2, n3⟩ := hk3
            simp only [Sem.run_bind, run_underlying htd, Result.andThen_ok]
            cases td <;> simp_all
          simp only [List.forIn_cons, Sem.run_bind, ne_eq, hn, not_false_eq_true, if_true, pv, hck, Result.andThen_ok, Sem.run_pure]
          exact ih (o := o + 1) (xs := xs) (zs := zs) (fun i d hd => by have := hget (i + 1) d (by simpa using hd); rwa [show o + (i + 1) = o + 1 + i by omega] at this) e5 hsh.2
    · rename_i k' k n hf
      have := tk_int hE (htk _ hf)
      simp only [D.rd] at hv; subst hv
      unfold Instr.checkKey; simp [run_underlying this]
    · rename_i b hf
      have := tk_bool hE (htk _ hf)
      simp only [D.rd] at hv; subst hv
      unfold Instr.checkKey; simp [run_underlying this]
    · rename_i s hf
      have := tk_str hE (htk _ hf)
      simp only [D.rd] at hv; obtain ⟨rfl, _⟩ := hv
      unfold Instr.checkKey; simp [run_underlying this]
    · cases hk
  · cases hk
end

theorem mres_none {o : Nat → Nat × Option Ob} {α : Nat → Value} {w : World} {ok : Nat → Prop} {k : D} : ∀ {es : List (Nat × D × PV)} {l : List MapEntry} {i : Nat}, relME o α w ok es l → mfind k es = none → mres k es l i = none
  | [], l, i, h, _ => by simp only [relME] at h; subst h; rfl
  | x :: es, l, i, h, hf => by
    simp only [relME] at h
    obtain ⟨m, l', rfl, _, h4⟩ := h
    simp only [mfind] at hf
    split at hf
    · cases hf
    · rename_i hn; simp only [mres, hn, if_false]; exact mres_none h4 hf
theorem mres_some {o : Nat → Nat × Option Ob} {α : Nat → Value} {w : World} {ok : Nat → Prop} {k : D} {b : Nat} {v : PV} : ∀ {es : List (Nat × D × PV)} {l : List MapEntry} {i : Nat}, relME o α w ok es l → mfind k es = some (b, v) →
    ∃ j m, mres k es l i = some (i + j, m.val) ∧ l[j]? = some m ∧ m.born = b ∧ v.rel o α w ok m.val ∧ (∃ kd, keq k kd = true ∧ kd.rd w ok m.key ∧ kd ∈ es.map (·.2.1))
      ∧ (∀ (kv nv : Value) (p : PV), k.rd w ok kv → p.rel o α w ok nv → ∀ c, relME o α w ok (mput k p c es) (l.set j { key := kv, val := nv, born := m.born }))
  | [], l, i, h, hf => by simp [mfind] at hf
  | x :: es, l, i, h, hf => by
    simp only [relME] at h
    obtain ⟨m, l', rfl, ⟨h1, h2, h3⟩, h4⟩ := h
    simp only [mfind] at hf
    split at hf
    · rename_i hq
      simp only [Option.some.injEq, Prod.mk.injEq] at hf
      obtain ⟨rfl, rfl⟩ := hf
      refine ⟨0, m, by simp [mres, hq], by simp, h1, h3, ⟨x.2.1, hq, h2, by simp⟩, fun kv nv p hkv hp c => ?_⟩
      simp only [mput, hq, if_true, List.set_cons_zero, relME]
      exact ⟨_, l', rfl, ⟨h1, hkv, hp⟩, h4⟩
    · rename_i hq
      obtain ⟨j, m', e1, e2, e3, e4, ⟨kd, e5, e6, e7⟩, e8⟩ := mres_some (i := i + 1) h4 hf
      refine ⟨j + 1, m', by simp only [mres, hq, if_false, e1]; simp; omega, by simpa using e2, e3, e4, ⟨kd, e5, e6, by simp only [List.map_cons, List.mem_cons]; exact .inr e7⟩, fun kv nv p hkv hp c => ?_⟩
      simp only [mput, hq, if_false, List.set_cons_succ, relME]
      exact ⟨m, _, rfl, ⟨h1, h2, h3⟩, e8 kv nv p hkv hp c⟩
theorem mput_none {o : Nat → Nat × Option Ob} {α : Nat → Value} {w : World} {ok : Nat → Prop} {k : D} {p : PV} {kv nv : Value} {c : Nat} (hk : k.rd w ok kv) (hp : p.rel o α w ok nv) : ∀ {es : List (Nat × D × PV)} {l : List MapEntry}, relME o α w ok es l → mfind k es = none → relME o α w ok (mput k p c es) (l ++ [{ key := kv, val := nv, born := c }])
  | [], l, h, _ => by simp only [relME] at h; subst h; simp only [mput, List.nil_append, relME]; exact ⟨_, [], rfl, ⟨rfl, hk, hp⟩, rfl⟩
  | x :: es, l, h, hf => by
    simp only [relME] at h
    obtain ⟨m, l', rfl, h3, h4⟩ := h
    simp only [mfind] at hf
    split at hf
    · cases hf
    · rename_i hn
      simp only [mput, hn, if_false, List.cons_append, relME]
      exact ⟨m, _, rfl, h3, mput_none hk hp h4 hf⟩
theorem relME_length {o : Nat → Nat × Option Ob} {α : Nat → Value} {w : World} {ok : Nat → Prop} : ∀ {es : List (Nat × D × PV)} {l : List MapEntry}, relME o α w ok es l → l.length = es.length
  | [], l, h => by simp only [relME] at h; simp [h]
  | x :: es, l, h => by
    simp only [relME] at h
    obtain ⟨m, l', rfl, _, h4⟩ := h
    simp [relME_length h4]
theorem bytes_beq_comm {a b : ByteArray} (h : (a == b) = true) : (b == a) = true := by
  rw [beq_toListBytes] at h ⊢
  have := eq_of_beq h
  rw [this]; simp
/-- Keys that are equal are the same bits. -/
theorem same_bits {w : World} {ok : Nat → Prop} {x y : D} {u v : Value} (hu : x.rd w ok u) (hv : y.rd w ok v) (h : keq x y = true) (hd : ∀ cs, x = .agg cs → ∀ c ∈ cs, ∀ es, c ≠ .agg es) : Instr.sameBits 10000 v u = true := by
  cases x <;> cases y <;> simp only [keq, Bool.false_eq_true, Bool.and_eq_true, decide_eq_true_eq, beq_iff_eq] at h
  · obtain ⟨rfl, rfl⟩ := h
    simp only [D.rd] at hu hv; subst hu; subst hv
    simp [Instr.sameBits]
  · subst h
    simp only [D.rd] at hu hv; subst hu; subst hv
    simp [Instr.sameBits]
  · simp only [D.rd] at hu hv; obtain ⟨rfl, _⟩ := hu; obtain ⟨rfl, _⟩ := hv
    simp [Instr.sameBits, bytes_beq_comm h]
  · rename_i xs ys
    simp only [D.rd] at hu hv
    obtain ⟨us, rfl, _, h1⟩ := hu
    obtain ⟨vs, rfl, _, h2⟩ := hv
    have hd := hd xs rfl
    have key : ∀ {xs ys : List D} {us vs : List Value}, rdVals w ok xs us → rdVals w ok ys vs → keqs xs ys = true → (∀ c ∈ xs, ∀ es, c ≠ .agg es) → vs.length = us.length ∧ (vs.zip us).all (fun (x, y) => Instr.sameBits 9999 x y) = true := by
      intro xs
      induction xs with
      | nil =>
        intro ys us vs h1 h2 h _
        cases ys <;> simp [keqs] at h
        simp only [rdVals] at h1 h2; subst h1; subst h2; simp
      | cons x xs ih =>
        intro ys us vs h1 h2 h hd
        cases ys <;> simp only [keqs, Bool.false_eq_true, Bool.and_eq_true] at h
        simp only [rdVals] at h1 h2
        obtain ⟨u, us', rfl, hu, h1⟩ := h1
        obtain ⟨v, vs', rfl, hv, h2⟩ := h2
        obtain ⟨e1, e2⟩ := ih h1 h2 h.2 fun c hc => hd c (by simp [hc])
        refine ⟨by simp [e1], ?_⟩
        simp only [List.zip_cons_cons, List.all_cons, e2, Bool.and_true]
        have h0 := h.1
        rename_i y ys
        cases x <;> cases y <;> simp only [keq, Bool.false_eq_true, Bool.and_eq_true, decide_eq_true_eq, beq_iff_eq] at h0
        · obtain ⟨rfl, rfl⟩ := h0
          simp only [D.rd] at hu hv; subst hu; subst hv
          simp [Instr.sameBits]
        · subst h0
          simp only [D.rd] at hu hv; subst hu; subst hv
          simp [Instr.sameBits]
        · simp only [D.rd] at hu hv; obtain ⟨rfl, _⟩ := hu; obtain ⟨rfl, _⟩ := hv
          simp [Instr.sameBits, bytes_beq_comm h0]
        · exact absurd rfl (hd _ (List.mem_cons_self ..) _)
    obtain ⟨e1, e2⟩ := key h1 h2 (by simpa [keq] using h) hd
    simp only [Instr.sameBits, Bool.and_eq_true, beq_iff_eq]
    exact ⟨by simpa using e1, e2⟩
theorem mkey_flat {E : Env} {kt : Nat} {d : D} (h : mkey E kt d = true) : ∀ cs, d = .agg cs → ∀ c ∈ cs, ∀ es, c ≠ .agg es := by
  rintro cs rfl c hc es rfl
  unfold mkey at h
  split at h
  · split at h <;> (rename_i e2; try (cases e2; done)) <;> try (cases h; done)
    simp only [D.agg.injEq] at e2
    subst e2
    simp only [Bool.and_eq_true] at h
    have := h.2
    rename_i ti _ _ _ _
    clear h
    have key : ∀ {zs xs : List D}, shapes zs xs = true → D.agg es ∈ xs → False := by
      intro zs
      induction zs with
      | nil => intro xs h hm; cases xs <;> simp_all [shapes]
      | cons z zs ih =>
        intro xs h hm
        cases xs with
        | nil => simp at hm
        | cons x xs =>
          simp only [shapes, Bool.and_eq_true] at h
          rcases List.mem_cons.1 hm with rfl | hm
          · cases z <;> simp [shape1] at h
          · exact ih h.2 hm
    exact key this hc
  · cases h
end Go.Proofs.Ytomnjbebgfadoaa.Pi
