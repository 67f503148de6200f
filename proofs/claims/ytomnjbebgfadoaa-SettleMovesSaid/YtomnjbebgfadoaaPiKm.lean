/- The pure interpreter's operations on maps are sound.
   Conditions: none; lemmas. -/
import Derived.Test.YtomnjbebgfadoaaPiK
set_option linter.unusedVariables false
set_option linter.unusedSimpArgs false
namespace Go.Proofs.Ytomnjbebgfadoaa.Pi
open Go Go.RowKit

theorem grownBy_setObj (w : World) (g : Nat) (x : Obj) : w.grownBy { w with heap := w.heap.setIfInBounds g x } (some g) :=
  ⟨rfl, rfl, rfl, by simp, fun k _ hk => by
    have : g ≠ k := fun e => hk (by rw [e])
    simp [Array.getElem?_setIfInBounds_ne this]⟩
theorem setObj_at {w : World} {g : Nat} {x y : Obj} (h : w.heap[g]? = some y) : (w.heap.setIfInBounds g x)[g]? = some x := by
  have := (Array.getElem?_eq_some_iff.1 h).1
  simp [this]
theorem relME_stamp {o : Objs} {α : Nat → Value} {w : World} {ok : Nat → Prop} {n : Int} {p : PV} {v : Value} (hp : p.rel o α w ok v) : ∀ {es : List (Nat × D × PV)} {l : List MapEntry}, relME o α w ok es l → mlast n es = true →
    ∃ j, l.findIdx? (fun e => (e.born : Int) == n) = some j ∧ relME o α w ok (mstamp n p es) (l.modify j fun e => { e with val := v })
  | [], l, h, hm => by simp [mlast] at hm
  | x :: es, l, h, hm => by
    simp only [relME] at h
    obtain ⟨m, l', rfl, ⟨h1, h2, h3⟩, h4⟩ := h
    simp only [mlast, List.any_cons, Bool.or_eq_true] at hm
    by_cases hx : ((x.1 : Int) == n) = true
    · refine ⟨0, by simp [List.findIdx?_cons, h1, hx], ?_⟩
      simp only [mstamp, hx, if_true, List.modify_zero_cons, relME]
      exact ⟨_, l', rfl, ⟨h1, h2, hp⟩, h4⟩
    · obtain ⟨j, e1, e2⟩ := relME_stamp hp h4 (by unfold mlast; simpa [hx] using hm)
      refine ⟨j + 1, by simp [List.findIdx?_cons, h1, hx, e1], ?_⟩
      simp only [mstamp, hx, if_false, List.modify_succ_cons, relME]
      exact ⟨m, _, rfl, ⟨h1, h2, h3⟩, e2⟩
theorem modify_set {α : Type} (l : List α) (j : Nat) (f : α → α) (x : α) (h : l[j]? = some x) : l.modify j f = l.set j (f x) := by
  apply List.ext_getElem?
  intro i
  rw [List.getElem?_modify, List.getElem?_set]
  by_cases e : j = i
  · subst e
    obtain ⟨hl, hx⟩ := List.getElem?_eq_some_iff.1 h
    simp [hl, hx]
  · simp [e]

section
variable {E : Env} {N base : Nat} {w0 : World} {X : Fr} {S : St} {α : Nat → Value} {a : Act} {w : World}
theorem run_makeMapE (h : Rel N base w0 X S α a w) {K t : Nat} {d : Nat} (hK : d < N) {c : Prop} {p : PV} {o' : Objs} (hq : makeMapE E S K t = some (c, p, o')) :
    ∃ α' v w', (Instr.makeMap t none).run E.P w = .ok v w' ∧ Rel N base w0 X { (S.put (some d) p) with o := o' } α' (a.put (some d) v) w' := by
  unfold makeMapE at hq
  split at hq
  · rename_i kt e ht
    simp only [Option.some.injEq, Prod.mk.injEq] at hq
    obtain ⟨_, rfl, rfl⟩ := hq
    refine ⟨_, .map (some w.heap.size), w.alloc (.map #[] 0), by simp [Instr.makeMap], h.new (hdr := .map (some w.heap.size)) (by simpa using hK) (grownBy_alloc' w _) (fun g hg => by simp [hblk] at hg; omega) (fun hk htn => ?_) (fun hk htn => ?_)⟩
    · exact ⟨w.heap.size, #[], rfl, h.base, heap_alloc_new w _, by simp [relME]⟩
    · simp only [PV.rel]
      exact ⟨⟨rfl, by simp [newOb]⟩, fun _ => by rw [hup_same]⟩
  · cases hq

/-- A map's entries turn. -/
theorem Rel.setMap (h : Rel N base w0 X S α a w) {K g kt e clock clock' kt' e' : Nat} {es es' : List (Nat × D × PV)} {ents ents' : Array MapEntry} {dst : Option Nat} {p : PV} {v : Value} (hdst : ∀ d, dst = some d → d < N) (hx : (S.o K).2 = some (.map kt e clock es)) (e1 : α K = .map (some g)) (hb : base ≤ g) (hh : w.heap[g]? = some (.map ents clock))
    (hr : relME S.o α w (okOf X.A S.o α) es' ents'.toList) (hp : p.rel S.o α w (okOf X.A S.o α) v) :
    Rel N base w0 X { (S.put dst p) with o := setOb S.o K (.map kt' e' clock' es') } α (a.put dst v) { w with heap := w.heap.setIfInBounds g (.map ents' clock') } := by
  refine h.set (g := g) hdst (grownBy_setObj w g _) hx (by rw [e1]; rfl) (fun hk htn => ?_) (fun hk htn => p.rel_turn hk htn _ hp)
  exact ⟨g, ents', e1, hb, setObj_at hh, relME_turn hk htn _ _ hr⟩

theorem run_mapUpdE (hE : EnvOk E) (h : Rel N base w0 X S α a w) {t : Nat} {dst : Option Nat} (hdst : ∀ d, dst = some d → d < N) {m k x : PV} {c : Prop} {p : PV} {o' : Objs} (hq : mapUpdE E S t m k x = some (c, p, o')) (hc : c) {vm vk vx : Value} (hm : m.rel S.o α w (okOf X.A S.o α) vm) (hk : k.rel S.o α w (okOf X.A S.o α) vk) (hx : x.rel S.o α w (okOf X.A S.o α) vx) :
    ∃ α' w', (Instr.mapUpdate t vm vk vx).run E.P w = .ok () w' ∧ Rel N base w0 X { (S.put dst p) with o := o' } α' (a.put dst undef) w' := by
  unfold mapUpdE at hq
  split at hq
  · rename_i K ver kd
    split at hq
    · rename_i kt e kt' e' clock es ht hob
      simp only [Option.some.injEq, Prod.mk.injEq] at hq
      obtain ⟨rfl, rfl, rfl⟩ := hq
      obtain ⟨hl, hx0⟩ := obj_some hob
      simp only [PV.rel] at hm hk
      have hva := hm.2 hl
      subst hva
      obtain ⟨g, ents, e1, hb, hh, hr⟩ := h.o K _ hx0
      rw [e1]
      have hf := run_findKey' hE hc.1 hk hc.2 hr
      have hck := run_checkKey' hE hc.1 hk false
      have hut : E.P.underlying t = some (.map kt e) := tk_map hE ht
      cases hfi : mfind kd es with
      | none =>
        have hm0 := mres_none (i := 0) hr hfi
        have hnew := mput_none hk hx (c := clock) hr hfi
        have q := h.setMap (dst := dst) (p := .un) (v := undef) (ents' := ents.push { key := vk, val := vx, born := clock }) (clock' := clock + 1) (kt' := kt') (e' := e') hdst hx0 e1 hb hh (es' := mput kd x clock es) (by simpa using hnew) (by simp only [PV.rel])
        have ec : mclock kd es clock = clock + 1 := by simp [mclock, mhas, hfi]
        rw [ec]
        refine ⟨α, _, ?_, q⟩
        simp [Instr.mapUpdate, run_underlying hut, MapKept.run_getObj_map hh, hck, hf, hm0, MapKept.run_setObj_map _ hh]
      | some y =>
        obtain ⟨b, pv⟩ := y
        obtain ⟨j, m, h1, h2, h3, h4, ⟨kd', h5, h6, _⟩, h7⟩ := mres_some (i := 0) hr hfi
        have hbits := same_bits hk h6 h5 (mkey_flat hc.1)
        have h2' : ents[j]? = some m := by simpa using h2
        have hset := h7 vk vx x hk hx clock
        have hmod : (ents.modify j fun e => { e with key := vk, val := vx }).toList = ents.toList.set j { key := vk, val := vx, born := m.born } := by
          rw [Array.toList_modify, modify_set _ _ _ m h2]
        have q := h.setMap (dst := dst) (p := .un) (v := undef) (ents' := ents.modify j fun e => { e with key := vk, val := vx }) (clock' := clock) (kt' := kt') (e' := e') hdst hx0 e1 hb hh (es' := mput kd x clock es) (by rw [hmod]; exact hset) (by simp only [PV.rel])
        have ec : mclock kd es clock = clock := by simp [mclock, mhas, hfi]
        rw [ec]
        refine ⟨α, _, ?_, q⟩
        simp [Instr.mapUpdate, run_underlying hut, MapKept.run_getObj_map hh, hck, hf, h1, h2', Instr.keyThatStays, hbits, MapKept.run_setObj_map _ hh]
    · cases hq
  · cases hq

theorem run_mapEntE (hE : EnvOk E) (h : Rel N base w0 X S α a w) {t : Nat} {d : Nat} (hd : d < N) {m k : PV} {c : Prop} {p : PV} {o' : Objs} (hq : mapEntE E S t m k = some (c, p, o')) (hc : c) {vm vk : Value} (hm : m.rel S.o α w (okOf X.A S.o α) vm) (hk : k.rel S.o α w (okOf X.A S.o α) vk) :
    ∃ α' v w', (Instr.mapEntry t vm vk).run E.P w = .ok v w' ∧ Rel N base w0 X { (S.put (some d) p) with o := o' } α' (a.put (some d) v) w' := by
  unfold mapEntE at hq
  split at hq
  · rename_i K ver kd
    split at hq
    · rename_i kt e kt' e' clock es ht hob
      split at hq
      · rename_i te hte
        split at hq
        · rename_i hpl
          simp only [Option.some.injEq, Prod.mk.injEq] at hq
          obtain ⟨rfl, rfl, rfl⟩ := hq
          obtain ⟨hl, hx0⟩ := obj_some hob
          simp only [PV.rel] at hm hk
          have hva := hm.2 hl
          subst hva
          obtain ⟨g, ents, e1, hb, hh, hr⟩ := h.o K _ hx0
          rw [e1]
          have hf := run_findKey' hE hc.1 hk hc.2 hr
          have hck := run_checkKey' hE hc.1 hk false
          have hut : E.P.underlying t = some (.map kt e) := tk_map hE ht
          obtain ⟨z, hz1, hz2⟩ := ty_zvp hE hte hpl w
          cases hfi : mfind kd es with
          | none =>
            have hm0 := mres_none (i := 0) hr hfi
            have ev : mval kd es (zvp te) = zvp te := by simp [mval, hfi]
            have eb : mborn kd es clock = clock := by simp [mborn, hfi]
            have ec : mclock kd es clock = clock + 1 := by simp [mclock, mhas, hfi]
            have hnew := mput_none hk (hz2 S.o α (okOf X.A S.o α)) (c := clock) hr hfi
            have q := h.setMap (dst := some d) (p := .tup [zvp te, .d (.int .i64 clock)]) (v := .tuple #[z, .int .i64 clock]) (ents' := ents.push { key := vk, val := z, born := clock }) (clock' := clock + 1) (kt' := kt') (e' := e') (by simpa using hd) hx0 e1 hb hh (es' := mput kd (zvp te) clock es) (by simpa using hnew)
              (by simp only [PV.rel, PV.rels, D.rd]; exact ⟨_, rfl, z, _, rfl, hz2 _ _ _, _, [], rfl, rfl, rfl⟩)
            rw [ev, eb, ec]
            refine ⟨α, _, _, ?_, q⟩
            simp [Instr.mapEntry, run_underlying hut, MapKept.run_getObj_map hh, hck, hf, hm0, hz1, MapKept.run_setObj_map _ hh, goInt]
          | some y =>
            obtain ⟨b, pv⟩ := y
            obtain ⟨j, m, h1, h2, h3, h4, ⟨kd', h5, h6, _⟩, h7⟩ := mres_some (i := 0) hr hfi
            have ev : mval kd es (zvp te) = pv := by simp [mval, hfi]
            have eb : mborn kd es clock = b := by simp [mborn, hfi]
            have ec : mclock kd es clock = clock := by simp [mclock, mhas, hfi]
            have hbits := same_bits hk h6 h5 (mkey_flat hc.1)
            have h2' : ents[j]? = some m := by simpa using h2
            have hset := h7 vk m.val pv hk h4 clock
            have hmod : (ents.modify j fun e => { e with key := vk }).toList = ents.toList.set j { key := vk, val := m.val, born := m.born } := by
              rw [Array.toList_modify, modify_set _ _ _ m h2]
            have q := h.setMap (dst := some d) (p := .tup [pv, .d (.int .i64 b)]) (v := .tuple #[m.val, .int .i64 m.born]) (ents' := ents.modify j fun e => { e with key := vk }) (clock' := clock) (kt' := kt') (e' := e') (by simpa using hd) hx0 e1 hb hh (es' := mput kd pv clock es) (by rw [hmod]; exact hset)
              (by simp only [PV.rel, PV.rels, D.rd]; exact ⟨_, rfl, m.val, _, rfl, h4, _, [], rfl, by rw [h3], rfl⟩)
            rw [ev, eb, ec]
            refine ⟨α, _, _, ?_, q⟩
            simp [Instr.mapEntry, run_underlying hut, MapKept.run_getObj_map hh, hck, hf, h1, h2', Instr.keyThatStays, hbits, MapKept.run_setObj_map _ hh, goInt]
        · cases hq
      · cases hq
    · cases hq
  · cases hq

theorem run_mapStoE (h : Rel N base w0 X S α a w) {t : Nat} {dst : Option Nat} (hdst : ∀ d, dst = some d → d < N) {m s x : PV} {c : Prop} {p : PV} {o' : Objs} (hq : mapStoE S m s x = some (c, p, o')) (hc : c) {vm vs vx : Value} (hm : m.rel S.o α w (okOf X.A S.o α) vm) (hs : s.rel S.o α w (okOf X.A S.o α) vs) (hx : x.rel S.o α w (okOf X.A S.o α) vx) :
    ∃ α' w', (Instr.entryStore t vm vs vx).run E.P w = .ok () w' ∧ Rel N base w0 X { (S.put dst p) with o := o' } α' (a.put dst undef) w' := by
  unfold mapStoE at hq
  split at hq
  · rename_i K ver k n
    split at hq
    · rename_i kt' e' clock es hob
      simp only [Option.some.injEq, Prod.mk.injEq] at hq
      obtain ⟨rfl, rfl, rfl⟩ := hq
      obtain ⟨hl, hx0⟩ := obj_some hob
      simp only [PV.rel, D.rd] at hm hs
      subst hs
      have hva := hm.2 hl
      subst hva
      obtain ⟨g, ents, e1, hb, hh, hr⟩ := h.o K _ hx0
      rw [e1]
      obtain ⟨j, h1, h2⟩ := relME_stamp hx hr hc
      have h1' : ents.findIdx? (fun e => (e.born : Int) == n) = some j := by
        cases ents; simpa using h1
      have q := h.setMap (dst := dst) (p := .un) (v := undef) (ents' := ents.modify j fun e => { e with val := vx }) (clock' := clock) (kt' := kt') (e' := e') hdst hx0 e1 hb hh (es' := mstamp n x es) (by rw [Array.toList_modify]; exact h2) (by simp only [PV.rel])
      refine ⟨α, _, ?_, q⟩
      simp [Instr.entryStore, MapKept.run_getObj_map hh, asInt, asIntOf, h1', MapKept.run_setObj_map _ hh]
    · cases hq
  · cases hq
end
end Go.Proofs.Ytomnjbebgfadoaa.Pi
