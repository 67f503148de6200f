/- Regions of open order: whatever the order drawn, the pure interpreter's order of the text speaks of it.
   Conditions: none; lemmas. -/
import Derived.Test.YtomnjbebgfadoaaPiP
set_option linter.unusedVariables false
set_option linter.unusedSimpArgs false
namespace Go.Proofs.Ytomnjbebgfadoaa.Pi
open Go Go.RowKit

section
variable {E : Env}
theorem after_t {S : St} {d : Option Nat} {p : PV} {o' : Objs} {t : Nat} (h : d ≠ some t) : (S.after d p o').t t = S.t t := by
  unfold St.after
  cases d with
  | none => rfl
  | some e =>
    have : t ≠ e := fun x => h (by rw [x])
    simp [St.put, this]
theorem st_after_o {S : St} {d : Option Nat} {p : PV} {o' : Objs} : (S.after d p o').o = o' := rfl
theorem after_comm {S : St} {d d' : Option Nat} {p p' : PV} {o1 o2 o3 o4 : Objs} (h : ∀ e, d = some e → d' ≠ some e) (ho : o2 = o4) : ((S.after d p o1).after d' p' o2) = ((S.after d' p' o3).after d p o4) := by
  subst ho
  unfold St.after
  cases d with
  | none => cases d' <;> rfl
  | some e =>
    cases d' with
    | none => rfl
    | some e' =>
      have hne : e ≠ e' := fun x => h e rfl (by rw [x])
      simp only [St.put, St.mk.injEq, and_true]
      funext k
      by_cases h1 : k = e'
      · subst h1; simp [Ne.symm hne]
      · simp [h1]
theorem looks_after {ops : Array Oper} {x y : Oper} (h : x.apart ops y = true) {S : St} {p : PV} {o' : Objs} : (∀ t ∈ y.looksAt ops, (S.after x.dst p o').t t = S.t t) ∧ (∀ t ∈ x.looksAt ops, (S.after y.dst p o').t t = S.t t) := by
  obtain ⟨h1, h2, h3⟩ := Oper.apart_spec h
  exact ⟨fun t ht => after_t fun e => h1 t e ht, fun t ht => after_t fun e => h3 t e ht⟩

theorem popOne_mono {ops : Array Oper} {i : Nat} {S : St} {K K' : St → Prop} (h : popOne E ops i S K) (hk : ∀ S, K S → K' S) : popOne E ops i S K' := by
  unfold popOne at h ⊢
  split
  · rename_i e; rw [e] at h; exact hk _ h
  · rename_i o e
    rw [e] at h
    obtain ⟨r, h2, h3, h4⟩ := h
    exact ⟨r, h2, h3, fun p o' hp => hk _ (h4 p o' hp)⟩

theorem bytes_eq {a b : ByteArray} (h : (a == b) = true) : a = b := by
  rw [beq_toListBytes] at h
  have := eq_of_beq h
  rw [ByteArray.toList_eq, ByteArray.toList_eq] at this
  obtain ⟨⟨x⟩⟩ := a
  obtain ⟨⟨y⟩⟩ := b
  simpa using this
mutual
theorem keq_eq : ∀ (x y : D), keq x y = true → x = y
  | .int k a, y, h => by
    cases y <;> simp only [keq, Bool.false_eq_true, Bool.and_eq_true, decide_eq_true_eq, beq_iff_eq] at h
    rw [h.1, h.2]
  | .bool a, y, h => by
    cases y <;> simp only [keq, Bool.false_eq_true, beq_iff_eq] at h
    rw [h]
  | .str a, y, h => by
    cases y <;> simp only [keq, Bool.false_eq_true] at h
    rw [bytes_eq h]
  | .agg xs, y, h => by
    cases y <;> simp only [keq, Bool.false_eq_true] at h
    rw [keqs_eq xs _ h]
  | .lst _ _, y, h => by cases y <;> simp [keq] at h
  | .ptr _ _, y, h => by cases y <;> simp [keq] at h
  | .fn _ _, y, h => by cases y <;> simp [keq] at h
  | .nil _, y, h => by cases y <;> simp [keq] at h
theorem keqs_eq : ∀ (xs ys : List D), keqs xs ys = true → xs = ys
  | [], ys, h => by cases ys <;> simp [keqs] at h; rfl
  | x :: xs, ys, h => by
    cases ys <;> simp only [keqs, Bool.false_eq_true, Bool.and_eq_true] at h
    rw [keq_eq x _ h.1, keqs_eq xs _ h.2]
end
theorem mput_some {k : D} {v : PV} {c b : Nat} : ∀ {es : List (Nat × D × PV)}, mfind k es = some (b, v) → mput k v c es = es
  | [], h => by simp [mfind] at h
  | x :: es, h => by
    simp only [mfind] at h
    split at h
    · rename_i hq
      simp only [Option.some.injEq, Prod.mk.injEq] at h
      obtain ⟨rfl, rfl⟩ := h
      simp only [mput, hq, if_true]
      rw [keq_eq _ _ hq]
    · rename_i hn
      simp only [mput, hn, if_false, Bool.false_eq_true]
      rw [mput_some h]
theorem mput_none' {k : D} {v : PV} {c : Nat} : ∀ {es : List (Nat × D × PV)}, mfind k es = none → mput k v c es = es ++ [(c, k, v)]
  | [], _ => rfl
  | x :: es, h => by
    simp only [mfind] at h
    split at h
    · cases h
    · rename_i hn
      simp only [mput, hn, if_false, List.cons_append, Bool.false_eq_true]
      rw [mput_none' h]
theorem mfind_app (k : D) (e : Nat × D × PV) : ∀ es : List (Nat × D × PV), mfind k (es ++ [e]) = (mfind k es).or (if keq k e.2.1 = true then some (e.1, e.2.2) else none)
  | [] => by simp [mfind]
  | x :: es => by
    simp only [List.cons_append, mfind]
    split
    · simp
    · exact mfind_app k e es
theorem mval_mput (k k2 : D) (z : PV) (c : Nat) (es : List (Nat × D × PV)) : mval k (mput k2 (mval k2 es z) c es) z = mval k es z := by
  cases h : mfind k2 es with
  | none =>
    rw [mput_none' h]
    unfold mval
    rw [mfind_app]
    cases h2 : mfind k es with
    | some x => simp
    | none =>
      simp only [Option.none_or, Option.map_none, Option.getD_none]
      split <;> simp [h]
  | some x =>
    obtain ⟨b, v⟩ := x
    have : mval k2 es z = v := by simp [mval, h]
    rw [this, mput_some h]
theorem mkeys_mput {E : Env} {kt : Nat} {k : D} (v : PV) (c : Nat) (hk : mkey E kt k = true) : ∀ {es : List (Nat × D × PV)}, mkeys E kt es = true → mkeys E kt (mput k v c es) = true
  | [], _ => by simp [mput, mkeys, hk]
  | x :: es, h => by
    simp only [mkeys, List.all_cons, Bool.and_eq_true] at h
    simp only [mput]
    split
    · simp only [mkeys, List.all_cons, Bool.and_eq_true]; exact ⟨hk, h.2⟩
    · have := mkeys_mput v c hk (es := es) h.2
      simp only [mkeys, List.all_cons, Bool.and_eq_true] at this ⊢
      exact ⟨h.1, this⟩
/-- The reading of a map's value, and the entry: in either order. -/
theorem pair_swap {ops : Array Oper} {oi oj : Oper} (hp : mapPair oj oi = true) (hap : oj.apart ops oi = true) {S : St} {K : St → Prop} {rj : SR} (hrj : rep E ops S oj = some rj) (hcj : rj.vc)
    (hq : ∀ p o', rj.post p o' → ∃ r, rep E ops (S.after oj.dst p o') oi = some r ∧ r.vc ∧ ∀ p_1 o'_1, r.post p_1 o'_1 → K ((S.after oj.dst p o').after oi.dst p_1 o'_1)) :
    ∃ r, rep E ops S oi = some r ∧ r.vc ∧ ∀ p o', r.post p o' → ∃ r, rep E ops (S.after oi.dst p o') oj = some r ∧ r.vc ∧ ∀ p_1 o'_1, r.post p_1 o'_1 → K ((S.after oi.dst p o').after oj.dst p_1 o'_1) := by
  obtain ⟨ap1, ap2, ap3⟩ := Oper.apart_spec hap
  obtain ⟨dj, opj, tyj, posj, afj, gj⟩ := oj
  obtain ⟨di, opi, tyi, posi, afi, gi⟩ := oi
  unfold mapPair at hp
  simp only at hp
  split at hp
  · rename_i t x ix t' m k
    simp only [Bool.and_eq_true, beq_iff_eq, Option.isNone_iff_eq_none] at hp
    obtain ⟨⟨⟨rfl, rfl⟩, rfl⟩, hdi⟩ := hp
    obtain ⟨d, rfl⟩ := Option.isSome_iff_exists.1 hdi
    have eqj : ∀ S' : St, rep E ops S' ⟨dj, .lookup t x ix false, tyj, posj, afj, none⟩ = (pureOp E S' (.lookup t x ix false)).map fun r => ⟨true = true → r.1, fun p o' => p = r.2 ∧ o' = S'.o⟩ := fun _ => rfl
    have eqi : ∀ S' : St, rep E ops S' ⟨some d, .mapEntry t m k, tyi, posi, afi, none⟩ = (effOp E S' (some d) (.mapEntry t m k)).map fun r => ⟨true = true ∧ r.1, fun p o' => p = r.2.1 ∧ o' = r.2.2⟩ := fun _ => rfl
    rw [eqj] at hrj
    obtain ⟨⟨c, v⟩, h1, rfl⟩ := Option.map_eq_some_iff.1 hrj
    obtain ⟨ri, hri, hci, hki⟩ := hq v S.o ⟨rfl, rfl⟩
    have hcong := rep_congr (E := E) (S := S) (S' := S.after dj v S.o) st_after_o (looks_after (o' := S.o) (p := v) (S := S) hap).1
    rw [hcong, eqi] at hri
    obtain ⟨⟨c2, p2, o2⟩, h2, rfl⟩ := Option.map_eq_some_iff.1 hri
    refine ⟨_, by rw [eqi, h2]; rfl, hci, ?_⟩
    rintro p o' ⟨rfl, rfl⟩
    have hlook := (looks_after (S := S) (p := p) (o' := o') hap).2
    have hag := Agree.of_looks (S := S) (S' := S.after (some d) p o') hlook
    simp only [Op.operands] at hag
    have hcong2 : (S.after (some d) p o').sv x = S.sv x ∧ (S.after (some d) p o').sc x = S.sc x ∧ (S.after (some d) p o').sv ix = S.sv ix ∧ (S.after (some d) p o').sc ix = S.sc ix := ⟨hag.sv (by simp), hag.sc (by simp), hag.sv (by simp), hag.sc (by simp)⟩
    simp only [pureOp] at h1
    obtain ⟨⟨c1, v1⟩, h3, h4⟩ := Option.map_eq_some_iff.1 h1
    simp only [Prod.mk.injEq] at h4
    obtain ⟨rfl, rfl⟩ := h4
    simp only [effOp] at h2
    obtain ⟨⟨c3, p3, o3⟩, h5, h6⟩ := Option.map_eq_some_iff.1 h2
    simp only [Prod.mk.injEq] at h6
    obtain ⟨rfl, rfl, rfl⟩ := h6
    have key : ∃ c4, lookupV E (S.after (some d) p3 o3) t false (S.sv x) (S.sv ix) = some (c4, v1) ∧ c4 := by
      have hc1 := (hcj rfl).2
      have hc3 := hci.2.2
      unfold lookupV at h3 ⊢
      split at h3
      · rename_i K1 ver1 kd hx hix
        split at h3
        · rename_i kt e kt' e' clock es ht hob
          split at h3
          · rename_i te hte
            split at h3
            · rename_i hpl
              simp only [Option.some.injEq, Prod.mk.injEq, Bool.false_eq_true, if_false] at h3
              obtain ⟨rfl, rfl⟩ := h3
              unfold mapEntE at h5
              split at h5
              · rename_i K2 ver2 kd2 hm hk
                rw [ht] at h5
                split at h5
                · rename_i kt2 e2 kt2' e2' clock2 es2 ht2 hob2
                  simp only [Option.some.injEq, TK.map.injEq] at ht2
                  obtain ⟨rfl, rfl⟩ := ht2
                  rw [hte] at h5
                  simp only [hpl, if_true, Option.some.injEq, Prod.mk.injEq] at h5
                  obtain ⟨rfl, rfl, rfl⟩ := h5
                  by_cases hK : K1 = K2
                  · subst hK
                    have hv12 : ver1 = ver2 := by
                      have a1 := (obj_some hob).1.1
                      have a2 := (obj_some hob2).1.1
                      rw [← a1, ← a2]
                    subst hv12
                    rw [hob] at hob2
                    simp only [Option.some.injEq, Ob.map.injEq] at hob2
                    obtain ⟨rfl, rfl, rfl, rfl⟩ := hob2
                    have hob' : (S.after (some d) (.tup [mval kd2 es (zvp te), .d (.int .i64 (mborn kd2 es clock))]) (setOb S.o K1 (.map kt' e' (mclock kd2 es clock) (mput kd2 (mval kd2 es (zvp te)) clock es)))).obj K1 ver1 = some (.map kt' e' (mclock kd2 es clock) (mput kd2 (mval kd2 es (zvp te)) clock es)) := by
                      have a1 := (obj_some hob).1.1
                      simp [St.obj, St.after, setOb, a1]
                    rw [hob', ht]; simp only [hte]
                    simp only [hpl, if_true, Bool.false_eq_true, if_false]
                    exact ⟨_, congrArg (fun z => some (_, z)) (mval_mput kd kd2 _ _ _), hc1.1, mkeys_mput _ _ hc3.1 hc1.2⟩
                  · have hob' : (S.after (some d) (.tup [mval kd2 es2 (zvp te), .d (.int .i64 (mborn kd2 es2 clock2))]) (setOb S.o K2 (.map kt2' e2' (mclock kd2 es2 clock2) (mput kd2 (mval kd2 es2 (zvp te)) clock2 es2)))).obj K1 ver1 = some (.map kt' e' clock es) := by
                      rw [← hob]
                      simp [St.obj, St.after, setOb, hK]
                    rw [hob', ht]; simp only [hte]
                    simp only [hpl, if_true, Bool.false_eq_true, if_false]
                    exact ⟨_, rfl, hc1⟩
                · cases h5
              · cases h5
            · cases h3
          · cases h3
        · cases h3
      · cases h3
    obtain ⟨c4, h7, h8⟩ := key
    refine ⟨⟨true = true → (S.sc x ∧ S.sc ix) ∧ c4, fun p' o' => p' = v1 ∧ o' = (S.after (some d) p3 o3).o⟩, ?_, fun _ => ⟨(hcj rfl).1, h8⟩, ?_⟩
    · rw [eqj]
      simp only [pureOp]
      rw [hcong2.1, hcong2.2.1, hcong2.2.2.1, hcong2.2.2.2, h7]
      rfl
    · rintro p1 o1 ⟨hp1, ho1⟩
      have ho2 : o1 = o3 := ho1
      rw [hp1, ho2]
      have := hki p3 o3 ⟨rfl, rfl⟩
      rw [after_comm (o3 := o3) (o4 := o3) ap2 rfl] at this
      exact this
  · cases hp
/-- Two operations change places. -/
theorem pop_swap (hE : EnvOk E) {ops : Array Oper} {i j : Nat} {oi oj : Oper} (hi : ops[i]? = some oi) (hj : ops[j]? = some oj) (hsw : mayswap E ops oj oi = true) {S : St} {K : St → Prop} (h : popOne E ops j S fun S' => popOne E ops i S' K) :
    popOne E ops i S fun S' => popOne E ops j S' K := by
  unfold mayswap at hsw
  simp only [Bool.and_eq_true, Bool.or_eq_true, decide_eq_true_eq] at hsw
  obtain ⟨hap, hcl⟩ := hsw
  obtain ⟨ap1, ap2, ap3⟩ := Oper.apart_spec hap
  unfold popOne at h ⊢
  simp only [hi, hj] at h ⊢
  obtain ⟨rj, hrj, hcj, hq⟩ := h
  have main0 : ∀ {f : PV}, rj = ⟨rj.vc, fun p o' => p = f ∧ o' = S.o⟩ → (∀ S', (∀ t ∈ oj.looksAt ops, S'.t t = S.t t) → rep E ops S' oj = some ⟨rj.vc, fun p o' => p = f ∧ o' = S'.o⟩) →
      (∃ r, rep E ops S oi = some r ∧ r.vc ∧ ∀ p o', r.post p o' → ∃ r, rep E ops (S.after oi.dst p o') oj = some r ∧ r.vc ∧ ∀ p_1 o'_1, r.post p_1 o'_1 → K ((S.after oi.dst p o').after oj.dst p_1 o'_1)) := by
    intro f e1 e2
    obtain ⟨ri, hri, hci, hki⟩ := hq f S.o (by rw [e1]; exact ⟨rfl, rfl⟩)
    rw [rep_congr st_after_o (looks_after hap).1] at hri
    refine ⟨ri, hri, hci, fun p o' hp => ⟨_, e2 _ (looks_after hap).2, hcj, fun p1 o1 hp1 => ?_⟩⟩
    obtain ⟨rfl, ho1⟩ := hp1
    have ho2 : o1 = o' := ho1
    subst ho2
    have := hki p o1 hp
    rw [after_comm (o3 := o1) (o4 := o1) ap2 rfl] at this
    exact this
  rcases hcl with ((hpair | ⟨hc1, hc2⟩) | ⟨hc0, hcx⟩) | ⟨hc0, hcx⟩
  · exact pair_swap hpair hap hrj hcj hq
  · obtain ⟨qj, ej⟩ := rep_keeps1 hc1 hrj
    obtain ⟨pj, oj', hpj⟩ := rep_some hE (Nat.le_trans hc1 (by omega)) hrj hcj
    rw [ej] at hpj
    obtain ⟨hqj, rfl⟩ := hpj
    obtain ⟨ri, hri, hci, hki⟩ := hq pj S.o (by rw [ej]; exact ⟨hqj, rfl⟩)
    rw [rep_congr st_after_o (looks_after hap).1] at hri
    obtain ⟨qi, ei⟩ := rep_keeps1 hc2 hri
    refine ⟨ri, hri, hci, fun p o' hp => ⟨rj, ?_, hcj, fun p1 o1 hp1 => ?_⟩⟩
    · rw [ei] at hp
      obtain ⟨_, rfl⟩ := hp
      rw [rep_congr st_after_o (looks_after hap).2]; exact hrj
    · obtain ⟨ri', hri', _, hki'⟩ := hq p1 o1 hp1
      rw [ej] at hp1
      obtain ⟨_, rfl⟩ := hp1
      rw [rep_congr st_after_o (looks_after hap).1] at hri'
      rw [hri] at hri'
      simp only [Option.some.injEq] at hri'
      subst hri'
      have := hki' p o' hp
      rw [ei] at hp
      obtain ⟨_, rfl⟩ := hp
      rw [after_comm (o3 := S.o) (o4 := S.o) ap2 rfl] at this
      exact this
  · obtain ⟨f, e1, _⟩ := rep_congr0 hc0 (fun _ _ => rfl) hrj
    refine main0 e1 fun S' ht => ?_
    obtain ⟨f', e1', e2'⟩ := rep_congr0 (S' := S') hc0 ht hrj
    have : f' = f := by
      rw [e1] at e1'
      simp only [SR.mk.injEq, true_and] at e1'
      have := congrFun (congrFun e1' f) S.o
      simp only [and_true, eq_iff_iff, true_iff] at this
      exact this.symm
    subst this
    exact e2'
  · -- oi looks at no object: it goes first
    have hex : ∀ p1 o1, rj.post p1 o1 → ∃ fi vci, vci ∧ rep E ops S oi = some ⟨vci, fun p o' => p = fi ∧ o' = S.o⟩ ∧ K ((S.after oi.dst fi S.o).after oj.dst p1 o1) := by
      intro p1 o1 hp1
      obtain ⟨ri, hri, hci, hki⟩ := hq p1 o1 hp1
      obtain ⟨fi, e1, e2⟩ := rep_congr0 (S' := S) hc0 (fun t ht => ((looks_after hap).1 t ht).symm) hri
      have := hki fi (S.after oj.dst p1 o1).o (by rw [e1]; exact ⟨rfl, rfl⟩)
      rw [after_comm (o3 := S.o) (o4 := (S.after oj.dst p1 o1).o) ap2 rfl] at this
      exact ⟨fi, ri.vc, hci, e2, this⟩
    obtain ⟨p1, o1, hp1⟩ := rep_some hE hcx hrj hcj
    obtain ⟨fi, vci, hvi, hri, _⟩ := hex p1 o1 hp1
    refine ⟨_, hri, hvi, fun p o' hp => ⟨rj, ?_, hcj, fun p2 o2 hp2 => ?_⟩⟩
    · obtain ⟨rfl, rfl⟩ := hp
      rw [rep_congr st_after_o (looks_after hap).2]; exact hrj
    · obtain ⟨rfl, rfl⟩ := hp
      obtain ⟨fi', vci', _, hri', hK⟩ := hex p2 o2 hp2
      rw [hri] at hri'
      simp only [Option.some.injEq, SR.mk.injEq] at hri'
      have : p = fi' := by
        have := congrFun (congrFun hri'.2 p) S.o
        simp only [and_true, eq_iff_iff, true_iff] at this
        exact this
      subst this
      exact hK
end
end Go.Proofs.Ytomnjbebgfadoaa.Pi
