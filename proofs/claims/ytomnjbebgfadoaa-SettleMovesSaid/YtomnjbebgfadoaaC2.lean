/- Corrections in plain numbers: a right that belonged to another owner.
   Conditions: none; lemmas. -/
import Derived.Test.YtomnjbebgfadoaaB9
set_option linter.unusedVariables false
set_option linter.unusedSimpArgs false
namespace Go.Proofs.Ytomnjbebgfadoaa.Pi
open Go Go.RowKit Go.Proofs
set_option maxHeartbeats 4000000
/-! The day's grants: owners do not matter; the litres' range. -/
def noOwner (c : Claim) : Claim := ⟨c.Id, 0, 0, c.Place, c.Rate, 0, 0, 0, 0⟩
theorem dayF_strip (pl : List Place) (sup : List Int) (ro : List Claim) : dayF pl ro sup = dayF pl (ro.map noOwner) sup := by
  unfold dayF
  rw [List.foldl_map]
  rfl
def InR (x : Int) : Prop := -9223372036854775808 ≤ x ∧ x ≤ 9223372036854775807
theorem inR_wrap (x : Int) : InR (IntKind.i64.wrap x) := by unfold InR; rw [IntKind.wrap_i64]; omega
theorem inR_addF (a b : Int) : InR (addF a b) := by
  unfold addF
  split
  · unfold endF
    split <;> (unfold InR; omega)
  · exact inR_wrap _
def AllR (l : List Int) : Prop := ∀ i : Nat, InR (l.getD i 0)
theorem allR_set {l : List Int} (h : AllR l) (i : Nat) {x : Int} (hx : InR x) : AllR (l.set i x) := fun j => by
  have hj := h j
  rw [List.getD_eq_getElem?_getD, List.getElem?_set]
  split
  · split
    · simpa using hx
    · unfold InR; simp
  · rwa [List.getD_eq_getElem?_getD] at hj
theorem allR_fold {f : List Int → Int → List Int} (hf : ∀ l q, AllR l → AllR (f l q)) : ∀ (R : List Int) (l : List Int), AllR l → AllR (R.foldl f l)
  | [], l, h => h
  | q :: R, l, h => allR_fold hf R _ (hf l q h)
theorem allR_left (pl : List Place) (sup : List Int) : ∀ i, AllR (dayLeft pl sup i)
  | 0 => fun j => by
    unfold dayLeft
    rw [List.getD_eq_getElem?_getD, List.getElem?_replicate]
    split <;> (unfold InR; simp)
  | i + 1 => by
    rw [dayLeft, dayFill]
    split
    · exact allR_fold (fun l q h => allR_set h _ (inR_addF _ _)) _ _ (allR_left pl sup i)
    · exact allR_left pl sup i
theorem leastF_le (L : List Int) : ∀ (R : List Int) (n : Int), leastF L n R ≤ n
  | [], n => Int.le_refl _
  | q :: R, n => by
    unfold leastF
    rw [List.foldl_cons]
    have := leastF_le L R (if L.getD q.toNat 0 < n then L.getD q.toNat 0 else n)
    unfold leastF at this
    refine Int.le_trans this ?_
    split <;> omega
theorem leastF_in {L : List Int} (h : AllR L) {R : List Int} (hR : R ≠ []) (n : Int) : leastF L n R ≤ 9223372036854775807 := by
  cases R with
  | nil => exact absurd rfl hR
  | cons q R =>
    unfold leastF
    rw [List.foldl_cons]
    have h1 := leastF_le L R (if L.getD q.toNat 0 < n then L.getD q.toNat 0 else n)
    unfold leastF at h1
    refine Int.le_trans h1 ?_
    have := (h q.toNat).2
    split <;> omega
def litOk (g : Grant) : Prop := 0 ≤ g.Litres ∧ g.Litres ≤ 9223372036854775807
theorem dayGrant_ok (pl : List Place) {L : List Int} (h : AllR L) (c : Claim) : 0 ≤ dayGrant pl L c ∧ dayGrant pl L c ≤ 9223372036854775807 := by
  unfold dayGrant
  split
  · omega
  · rename_i hR
    have := leastF_in h hR c.Rate
    split <;> omega
theorem dayF_ok (pl : List Place) : ∀ (ro : List Claim) (s : List Grant × List Int), AllR s.2 → (∀ g ∈ s.1, litOk g) →
    (∀ g ∈ (ro.foldl (dayStep pl) s).1, litOk g) ∧ (ro.foldl (dayStep pl) s).1.map (·.Right) = s.1.map (·.Right) ++ ro.map (·.Id)
  | [], s, _, h => ⟨h, by simp⟩
  | c :: ro, s, hA, h => by
    rw [List.foldl_cons]
    have hs : AllR (dayStep pl s c).2 := allR_fold (fun l q h => allR_set h _ (inR_wrap _)) _ _ hA
    have hg : ∀ g ∈ (dayStep pl s c).1, litOk g := by
      intro g hg
      simp only [dayStep] at hg
      rcases List.mem_append.1 hg with hg | hg
      · exact h g hg
      · simp only [List.mem_singleton] at hg
        subst hg
        exact dayGrant_ok pl hA c
    obtain ⟨h1, h2⟩ := dayF_ok pl ro _ hs hg
    refine ⟨h1, h2.trans ?_⟩
    simp [dayStep]
theorem day_ok (pl : List Place) (ro : List Claim) (sup : List Int) : (∀ g ∈ (dayF pl ro sup).1, litOk g) ∧ (dayF pl ro sup).1.map (·.Right) = ro.map (·.Id) := by
  have := dayF_ok pl ro ([], dayLeft pl sup pl.length) (allR_left pl sup _) (by simp)
  simpa [dayF] using this
/-! Another owner. -/
def other (id owner : Int) (c : Claim) : Claim := if c.Id = id then ⟨c.Id, owner, c.Date, c.Place, c.Rate, c.From, c.Until, c.Back, c.BackTo⟩ else c
theorem other_id (id owner : Int) (c : Claim) : (other id owner c).Id = c.Id := by unfold other; split <;> rfl
theorem other_place (id owner : Int) (c : Claim) : (other id owner c).Place = c.Place := by unfold other; split <;> rfl
theorem other_strip (id owner : Int) (c : Claim) : noOwner (other id owner c) = noOwner c := by unfold other noOwner; split <;> rfl
theorem day_other (pl : List Place) (ro : List Claim) (sup : List Int) (id owner : Int) : dayF pl (ro.map (other id owner)) sup = dayF pl ro sup := by
  rw [dayF_strip, dayF_strip pl sup ro, List.map_map]
  congr 1
  exact List.map_congr_left fun c _ => other_strip id owner c
theorem find_other (id owner k : Int) (ro : List Claim) : (ro.map (other id owner)).find? (fun c => c.Id == k) = (ro.find? (fun c => c.Id == k)).map (other id owner) := by
  rw [List.find?_map]
  congr 2
  funext c
  simp [other_id]
theorem ids_ne {ro : List Claim} (hn : (ro.map (·.Id)).Nodup) {i j : Nat} (hi : i < ro.length) (hj : j < ro.length) (h : i ≠ j) : ro[i].Id ≠ ro[j].Id := by
  have hp := List.pairwise_iff_getElem.1 hn
  rcases Nat.lt_or_gt_of_ne h with h | h
  · have := hp i j (by simpa using hi) (by simpa using hj) h
    simpa using this
  · have := hp j i (by simpa using hj) (by simpa using hi) h
    intro e
    exact this (by simpa using e.symm)
theorem find_id : ∀ {ro : List Claim}, (ro.map (·.Id)).Nodup → ∀ {c : Claim}, c ∈ ro → ro.find? (fun x => x.Id == c.Id) = some c
  | x :: l, hn, c, hc => by
    simp only [List.map_cons, List.nodup_cons] at hn
    rw [List.find?_cons]
    rcases List.mem_cons.1 hc with rfl | hc
    · simp
    · have : (x.Id == c.Id) = false := by
        rw [beq_eq_false_iff_ne]
        intro e
        exact hn.1 (by rw [e]; exact List.mem_map_of_mem hc)
      rw [this]
      exact find_id hn.2 hc
theorem set_other {ro : List Claim} (hn : (ro.map (·.Id)).Nodup) {w : Nat} (hw : w < ro.length) (owner : Int) : ro.set w ⟨ro[w].Id, owner, ro[w].Date, ro[w].Place, ro[w].Rate, ro[w].From, ro[w].Until, ro[w].Back, ro[w].BackTo⟩ = ro.map (other ro[w].Id owner) := by
  refine List.ext_getElem (by simp) fun i h1 h2 => ?_
  simp only [List.length_set] at h1
  rw [List.getElem_map, List.getElem_set]
  split
  · rename_i e; subst e; simp [other]
  · rename_i e
    have : ro[i].Id ≠ ro[w].Id := ids_ne hn h1 hw (fun h => e h.symm)
    unfold other
    rw [if_neg this]
/-- The triple that a grant touches. -/
def touch (ro : List Claim) (g : Grant) : Option Triple := match ro.find? (fun c => c.Id == g.Right) with
  | some c => if g.Litres ≤ 0 then none else some ⟨c.Id, c.Owner, c.Place⟩
  | none => none
theorem keys_addG (ro : List Claim) (sign : Int) (l : List (Triple × Int)) (g : Grant) : (addG ro sign l g).map (·.1) = match touch ro g with
    | some t => if hasT t l = true then l.map (·.1) else l.map (·.1) ++ [t]
    | none => l.map (·.1) := by
  unfold addG touch
  cases ro.find? (fun c => c.Id == g.Right) with
  | none => rfl
  | some c =>
    simp only
    split
    · rfl
    · simp only [upsert_fst]
theorem keys_old {ro : List Claim} {sign : Int} : ∀ {G : List Grant} {l : List (Triple × Int)}, (∀ g ∈ G, ∀ t, touch ro g = some t → t ∈ l.map (·.1)) → (G.foldl (addG ro sign) l).map (·.1) = l.map (·.1)
  | [], l, h => rfl
  | g :: G, l, h => by
    have e : (addG ro sign l g).map (·.1) = l.map (·.1) := by
      rw [keys_addG]
      cases ht : touch ro g with
      | none => rfl
      | some t => simp only; rw [if_pos (hasT_mem.2 (h g (by simp) t ht))]
    rw [List.foldl_cons, keys_old (G := G) (l := addG ro sign l g) fun g' hg' t ht => by rw [e]; exact h g' (by simp [hg']) t ht]
    exact e
theorem keys_in {ro : List Claim} {sign : Int} : ∀ {G : List Grant} {l : List (Triple × Int)} {t : Triple}, t ∈ (G.foldl (addG ro sign) l).map (·.1) ↔ t ∈ l.map (·.1) ∨ ∃ g ∈ G, touch ro g = some t
  | [], l, t => by simp
  | g :: G, l, t => by
    rw [List.foldl_cons, keys_in (G := G), keys_addG]
    cases ht : touch ro g with
    | none => simp [ht]
    | some u =>
      simp only
      split
      · rename_i hu
        have hu := hasT_mem.1 hu
        constructor
        · rintro (h | ⟨g', h1, h2⟩)
          · exact .inl h
          · exact .inr ⟨g', by simp [h1], h2⟩
        · rintro (h | ⟨g', h1, h2⟩)
          · exact .inl h
          · rcases List.mem_cons.1 h1 with rfl | h1
            · rw [ht] at h2; cases h2; exact .inl hu
            · exact .inr ⟨g', h1, h2⟩
      · constructor
        · rintro (h | ⟨g', h1, h2⟩)
          · rcases List.mem_append.1 h with h | h
            · exact .inl h
            · simp only [List.mem_singleton] at h; subst h; exact .inr ⟨g, by simp, ht⟩
          · exact .inr ⟨g', by simp [h1], h2⟩
        · rintro (h | ⟨g', h1, h2⟩)
          · exact .inl (by simp [h])
          · rcases List.mem_cons.1 h1 with rfl | h1
            · rw [ht] at h2; cases h2; exact .inl (by simp)
            · exact .inr ⟨g', h1, h2⟩
theorem sumC_diff {ro now : List Claim} {t : Triple} : ∀ {G : List Grant}, (∀ g ∈ G, contr now t g = contr ro t g) → sumC now t G = sumC ro t G
  | [], _ => rfl
  | g :: G, h => by rw [sumC, sumC, h g (by simp), sumC_diff fun g' hg' => h g' (by simp [hg'])]
theorem sumC_app (ro : List Claim) (t : Triple) : ∀ (G G' : List Grant), sumC ro t (G ++ G') = sumC ro t G + sumC ro t G'
  | [], G' => by simp [sumC]
  | g :: G, G' => by rw [List.cons_append, sumC, sumC, sumC_app ro t G]; omega
theorem corr_nil {day known : Int} {was now : List Claim} {old gr : List Grant} (h : ∀ t, sumC now t gr = sumC was t old) : corrF day known was now old gr = [] := by
  rw [corrF, List.flatMap_eq_nil_iff]
  intro x hx
  have e := get_mem (corr_nodup was now old gr) hx
  rw [corr_get, h, Int.sub_self] at e
  have : x.2 = 0 := by rw [← e]; rfl
  simp [entE, this]
theorem other_ne {ro : List Claim} {id owner : Int} {g : Grant} (h : g.Right ≠ id) : (ro.map (other id owner)).find? (fun c => c.Id == g.Right) = ro.find? (fun c => c.Id == g.Right) := by
  rw [find_other]
  cases hf : ro.find? (fun c => c.Id == g.Right) with
  | none => rfl
  | some c =>
    have := List.find?_some hf
    simp only [beq_iff_eq] at this
    simp only [Option.map_some, other]
    rw [if_neg (by rw [this]; exact h)]
theorem contr_ne {ro : List Claim} {id owner : Int} {g : Grant} (h : g.Right ≠ id) (t : Triple) : contr (ro.map (other id owner)) t g = contr ro t g := by
  unfold contr; rw [other_ne h]
theorem touch_ne {ro : List Claim} {id owner : Int} {g : Grant} (h : g.Right ≠ id) : touch (ro.map (other id owner)) g = touch ro g := by
  unfold touch; rw [other_ne h]
theorem share_skip {old : Claim} {o p : Int} : ∀ {G : List Grant} {n : Int}, (∀ g ∈ G, g.Right ≠ old.Id) → G.foldl (shareG [old] o p) n = n
  | [], n, h => rfl
  | g :: G, n, h => by
    have e : shareG [old] o p n g = n := by
      simp only [shareG, List.foldl_cons, List.foldl_nil, shareK]
      rw [if_neg]
      exact fun hh => h g (by simp) hh.1.symm
    rw [List.foldl_cons, e]
    exact share_skip fun g' hg' => h g' (by simp [hg'])
theorem ent_zero {day known : Int} {l : List (Triple × Int)} (h : ∀ x ∈ l, x.2 = 0) : l.flatMap (entE day known 1) = [] := by
  rw [List.flatMap_eq_nil_iff]
  intro x hx
  simp [entE, h x hx]
theorem corr_moves {ro : List Claim} {G : List Grant} {old : Claim} {owner : Int} (day known : Int) (hn : (ro.map (·.Id)).Nodup) (hold : old ∈ ro) (hG : G.map (·.Right) = ro.map (·.Id)) (hlit : ∀ g ∈ G, litOk g) (hown : owner ≠ old.Owner) :
    ∃ n : Int, 0 ≤ n ∧ n ≤ 9223372036854775807 ∧ shareF [old] G old.Owner old.Place = n ∧
      corrF day known ro (ro.map (other old.Id owner)) G G = if n = 0 then [] else [⟨day, known, owner, old.Place, n, 1, old.Id⟩, ⟨day, known, -1, old.Place, -n, 1, old.Id⟩, ⟨day, known, old.Owner, old.Place, -n, 1, old.Id⟩, ⟨day, known, -1, old.Place, n, 1, old.Id⟩] := by
  have hm : old.Id ∈ G.map (·.Right) := by rw [hG]; exact List.mem_map_of_mem hold
  obtain ⟨g0, hg0, hr0⟩ := List.mem_map.1 hm
  obtain ⟨G1, G2, rfl⟩ := List.append_of_mem hg0
  rw [← hG] at hn
  have hnG := hn
  rw [hG] at hn
  simp only [List.map_append, List.map_cons, List.nodup_append, List.nodup_cons] at hnG
  obtain ⟨hn1, ⟨hn2, hn3⟩, hn4⟩ := hnG
  have h1 : ∀ g ∈ G1, g.Right ≠ old.Id := fun g hg e => hn4 g.Right (List.mem_map_of_mem hg) g0.Right (by simp) (by rw [e, hr0])
  have h2 : ∀ g ∈ G2, g.Right ≠ old.Id := fun g hg e => hn2 (by rw [hr0, ← e]; exact List.mem_map_of_mem hg)
  have hl0 := hlit g0 (by simp)
  have hf : ro.find? (fun c => c.Id == g0.Right) = some old := by rw [hr0]; exact find_id hn hold
  have hf' : (ro.map (other old.Id owner)).find? (fun c => c.Id == g0.Right) = some ⟨old.Id, owner, old.Date, old.Place, old.Rate, old.From, old.Until, old.Back, old.BackTo⟩ := by
    rw [find_other, hf]; simp [other]
  refine ⟨g0.Litres, hl0.1, hl0.2, ?_, ?_⟩
  · unfold shareF
    rw [List.foldl_append, share_skip h1, List.foldl_cons, share_skip h2]
    simp only [shareG, List.foldl_cons, List.foldl_nil, shareK]
    rw [if_pos ⟨hr0.symm, trivial, trivial⟩, Int.zero_add, wrap64 (by have := hl0.1; omega) hl0.2]
  by_cases hz : g0.Litres = 0
  · rw [if_pos hz]
    refine corr_nil fun t => ?_
    refine sumC_diff fun g hg => ?_
    by_cases e : g.Right = old.Id
    · have : g = g0 := by
        rcases List.mem_append.1 hg with hg | hg
        · exact absurd e (h1 g hg)
        · rcases List.mem_cons.1 hg with rfl | hg
          · rfl
          · exact absurd e (h2 g hg)
      subst this
      unfold contr
      rw [hf, hf']
      simp [hz]
    · exact contr_ne e t
  rw [if_neg hz]
  have hpos : ¬ g0.Litres ≤ 0 := by have := hl0.1; omega
  have hD : ∀ t, sumC (ro.map (other old.Id owner)) t (G1 ++ g0 :: G2) - sumC ro t (G1 ++ g0 :: G2) = (if teq t ⟨old.Id, owner, old.Place⟩ = true then g0.Litres else 0) - (if teq t ⟨old.Id, old.Owner, old.Place⟩ = true then g0.Litres else 0) := fun t => by
    rw [sumC_app, sumC_app, sumC, sumC, sumC_diff (fun g hg => contr_ne (h1 g hg) t), sumC_diff (fun g hg => contr_ne (h2 g hg) t)]
    have e1 : contr (ro.map (other old.Id owner)) t g0 = if teq t ⟨old.Id, owner, old.Place⟩ = true then g0.Litres else 0 := by unfold contr; rw [hf']; simp only [hpos, if_false]
    have e2 : contr ro t g0 = if teq t ⟨old.Id, old.Owner, old.Place⟩ = true then g0.Litres else 0 := by unfold contr; rw [hf]; simp only [hpos, if_false]
    rw [e1, e2]
    omega
  have ht1 : touch (ro.map (other old.Id owner)) g0 = some ⟨old.Id, owner, old.Place⟩ := by unfold touch; rw [hf']; simp only [hpos, if_false]
  have ht2 : touch ro g0 = some ⟨old.Id, old.Owner, old.Place⟩ := by unfold touch; rw [hf]; simp only [hpos, if_false]
  generalize hS : (G1 ++ g0 :: G2).foldl (addG (ro.map (other old.Id owner)) 1) [] = S
  have hkS : ∀ t, t ∈ S.map (·.1) ↔ ∃ g ∈ G1 ++ g0 :: G2, touch (ro.map (other old.Id owner)) g = some t := fun t => by rw [← hS, keys_in]; simp
  have hT1 : (⟨old.Id, owner, old.Place⟩ : Triple) ∈ S.map (·.1) := (hkS _).2 ⟨g0, by simp, ht1⟩
  have hT2 : (⟨old.Id, old.Owner, old.Place⟩ : Triple) ∉ S.map (·.1) := fun hh => by
    obtain ⟨g, hg, ht⟩ := (hkS _).1 hh
    unfold touch at ht
    rw [find_other] at ht
    cases hc : ro.find? (fun c => c.Id == g.Right) with
    | none => rw [hc] at ht; cases ht
    | some c =>
      rw [hc] at ht
      simp only [Option.map_some] at ht
      split at ht
      · cases ht
      · simp only [Option.some.injEq, Triple.mk.injEq, other_id] at ht
        obtain ⟨hh1, hh2, _⟩ := ht
        rw [other, if_pos hh1] at hh2
        exact hown hh2
  have hk : (corrL ro (ro.map (other old.Id owner)) (G1 ++ g0 :: G2) (G1 ++ g0 :: G2)).map (·.1) = S.map (·.1) ++ [⟨old.Id, old.Owner, old.Place⟩] := by
    rw [corrL, hS, List.foldl_append, List.foldl_cons]
    have k1 : (G1.foldl (addG ro (-1)) S).map (·.1) = S.map (·.1) := keys_old fun g hg t ht => (hkS t).2 ⟨g, by simp [hg], by rw [touch_ne (h1 g hg)]; exact ht⟩
    have k2 : (addG ro (-1) (G1.foldl (addG ro (-1)) S) g0).map (·.1) = S.map (·.1) ++ [⟨old.Id, old.Owner, old.Place⟩] := by
      rw [keys_addG, ht2]; simp only; rw [if_neg (fun hh => hT2 (by rw [← k1]; exact hasT_mem.1 hh)), k1]
    rw [keys_old fun g hg t ht => ?_, k2]
    rw [k2]
    exact List.mem_append.2 (.inl ((hkS t).2 ⟨g, by simp [hg], by rw [touch_ne (h2 g hg)]; exact ht⟩))
  have hval := fun z (hz : z ∈ corrL ro (ro.map (other old.Id owner)) (G1 ++ g0 :: G2) (G1 ++ g0 :: G2)) => get_mem (corr_nodup _ _ _ _) hz
  have hnd := corr_nodup ro (ro.map (other old.Id owner)) (G1 ++ g0 :: G2) (G1 ++ g0 :: G2)
  simp only [corr_get, hD] at hval
  rw [corrF]
  generalize corrL ro (ro.map (other old.Id owner)) (G1 ++ g0 :: G2) (G1 ++ g0 :: G2) = L at hk hval hnd
  obtain ⟨A, B, rfl, hA, hB⟩ := List.map_eq_append_iff.1 hk
  obtain ⟨x, rfl, hx⟩ : ∃ x, B = [x] ∧ x.1 = ⟨old.Id, old.Owner, old.Place⟩ := by
    cases B with
    | nil => simp at hB
    | cons x B => cases B with
      | nil => exact ⟨x, rfl, by simpa using hB⟩
      | cons => simp at hB
  rw [← hA] at hT1 hT2
  obtain ⟨y, hy, hy1⟩ := List.mem_map.1 hT1
  obtain ⟨A1, A2, rfl⟩ := List.append_of_mem hy
  have hzero : ∀ z, z ∈ A1 ++ y :: A2 → z.1 ≠ (⟨old.Id, owner, old.Place⟩ : Triple) → z.2 = 0 := fun z hzm hne => by
    have e := hval z (by simp only [List.mem_append] at hzm ⊢; exact .inl hzm)
    have n1 : ¬ teq z.1 ⟨old.Id, owner, old.Place⟩ = true := fun h => hne (teq_iff.1 h)
    have n2 : ¬ teq z.1 ⟨old.Id, old.Owner, old.Place⟩ = true := fun h => hT2 (by rw [← teq_iff.1 h]; exact List.mem_map_of_mem hzm)
    rw [if_neg n1, if_neg n2] at e
    rw [← e]; rfl
  have hndA : (List.map (·.1) (A1 ++ y :: A2)).Nodup := by
    rw [List.map_append] at hnd
    exact (List.nodup_append.1 hnd).1
  simp only [List.map_append, List.map_cons, List.nodup_append, List.nodup_cons] at hndA
  obtain ⟨q1, ⟨q2, q3⟩, q4⟩ := hndA
  have z1 : ∀ z ∈ A1, z.2 = 0 := fun z hz1 => hzero z (by simp [hz1]) fun e => q4 z.1 (List.mem_map_of_mem hz1) y.1 (by simp) (by rw [e, hy1])
  have z2 : ∀ z ∈ A2, z.2 = 0 := fun z hz1 => hzero z (by simp [hz1]) fun e => q2 (by rw [hy1, ← e]; exact List.mem_map_of_mem hz1)
  have hyv := hval y (by simp)
  have hxv := hval x (by simp)
  rw [hy1] at hyv
  rw [hx] at hxv
  have t12 : teq (⟨old.Id, owner, old.Place⟩ : Triple) ⟨old.Id, old.Owner, old.Place⟩ = false := by
    cases hb : teq (⟨old.Id, owner, old.Place⟩ : Triple) ⟨old.Id, old.Owner, old.Place⟩ with
    | false => rfl
    | true =>
      have := teq_iff.1 hb
      simp only [Triple.mk.injEq, true_and, and_true] at this
      exact absurd this hown
  have t21 : teq (⟨old.Id, old.Owner, old.Place⟩ : Triple) ⟨old.Id, owner, old.Place⟩ = false := by rw [teq_symm]; exact t12
  have tr : ∀ t : Triple, teq t t = true := fun t => teq_iff.2 rfl
  simp only [t12, t21, tr, if_true, Bool.false_eq_true, if_false, Int.sub_zero, Int.zero_sub] at hyv hxv
  rw [wrap64 (by have := hl0.1; omega) hl0.2] at hyv
  rw [wrap64 (by have := hl0.2; omega) (by have := hl0.1; omega)] at hxv
  rw [List.flatMap_append, List.flatMap_append, List.flatMap_cons, ent_zero z1, ent_zero z2, List.flatMap_cons, List.flatMap_nil]
  simp only [entE, ← hyv, ← hxv, hy1, hx]
  rw [if_neg hz, if_neg (by omega)]
  have w1 : IntKind.i64.wrap (0 - g0.Litres) = -g0.Litres := by rw [wrap64 (by have := hl0.2; omega) (by have := hl0.1; omega)]; omega
  have w2 : IntKind.i64.wrap (0 - -g0.Litres) = g0.Litres := by rw [wrap64 (by have := hl0.1; omega) (by have := hl0.2; omega)]; omega
  rw [w1, w2]
  rfl
end Go.Proofs.Ytomnjbebgfadoaa.Pi
