/- Shapes of the program's structs.
   Conditions: none; definitions and lemmas. -/
import Derived.Test.YtomnjbebgfadoaaPiX
import Derived.Test.YtomnjbebgfadoaaStructs
set_option linter.unusedVariables false
set_option linter.unusedSimpArgs false
namespace Go.Proofs.Ytomnjbebgfadoaa.Pi
open Go Go.RowKit

def Point.sh : List Sh := [.int .i64, .int .i64]
theorem Point.got (ds : List D) (h : hasL Point.sh ds) : ∃ a, Point.of ds = some a := by
  unfold Point.sh at h
  obtain ⟨d0, r0, rfl, h0, h⟩ := hasL_cons h
  obtain ⟨d1, r1, rfl, h1, h⟩ := hasL_cons h
  obtain rfl := hasL_nil h
  obtain ⟨b0, e0⟩ := got_int h0
  obtain ⟨b1, e1⟩ := got_int h1
  have e : Point.of [d0, d1] = some ⟨b0, b1⟩ := by simp only [Point.of, e0, e1, Option.bind_some]
  exact ⟨_, e⟩
def Cell.sh : List Sh := [.int .i64, .int .i64]
theorem Cell.got (ds : List D) (h : hasL Cell.sh ds) : ∃ a, Cell.of ds = some a := by
  unfold Cell.sh at h
  obtain ⟨d0, r0, rfl, h0, h⟩ := hasL_cons h
  obtain ⟨d1, r1, rfl, h1, h⟩ := hasL_cons h
  obtain rfl := hasL_nil h
  obtain ⟨b0, e0⟩ := got_int h0
  obtain ⟨b1, e1⟩ := got_int h1
  have e : Cell.of [d0, d1] = some ⟨b0, b1⟩ := by simp only [Cell.of, e0, e1, Option.bind_some]
  exact ⟨_, e⟩
def Band.sh : List Sh := [.lst 2 Point.sh, .lst 2 Point.sh]
theorem Band.got (ds : List D) (h : hasL Band.sh ds) : ∃ a, Band.of ds = some a := by
  unfold Band.sh at h
  obtain ⟨d0, r0, rfl, h0, h⟩ := hasL_cons h
  obtain ⟨d1, r1, rfl, h1, h⟩ := hasL_cons h
  obtain rfl := hasL_nil h
  obtain ⟨b0, e0⟩ := got_lst Point.got h0
  obtain ⟨b1, e1⟩ := got_lst Point.got h1
  have e : Band.of [d0, d1] = some ⟨b0, b1⟩ := by simp only [Band.of, e0, e1, Option.bind_some]
  exact ⟨_, e⟩
def Place.sh : List Sh := [.str, .int .i64, .int .i64, .int .i64, .lst 2 Point.sh, .lst 1 [.int .i64], .int .i64, .int .i64, .int .i64, .int .i64, .int .i64, .lst 2 Cell.sh]
theorem Place.got (ds : List D) (h : hasL Place.sh ds) : ∃ a, Place.of ds = some a := by
  unfold Place.sh at h
  obtain ⟨d0, r0, rfl, h0, h⟩ := hasL_cons h
  obtain ⟨d1, r1, rfl, h1, h⟩ := hasL_cons h
  obtain ⟨d2, r2, rfl, h2, h⟩ := hasL_cons h
  obtain ⟨d3, r3, rfl, h3, h⟩ := hasL_cons h
  obtain ⟨d4, r4, rfl, h4, h⟩ := hasL_cons h
  obtain ⟨d5, r5, rfl, h5, h⟩ := hasL_cons h
  obtain ⟨d6, r6, rfl, h6, h⟩ := hasL_cons h
  obtain ⟨d7, r7, rfl, h7, h⟩ := hasL_cons h
  obtain ⟨d8, r8, rfl, h8, h⟩ := hasL_cons h
  obtain ⟨d9, r9, rfl, h9, h⟩ := hasL_cons h
  obtain ⟨d10, r10, rfl, h10, h⟩ := hasL_cons h
  obtain ⟨d11, r11, rfl, h11, h⟩ := hasL_cons h
  obtain rfl := hasL_nil h
  obtain ⟨b0, e0⟩ := got_str h0
  obtain ⟨b1, e1⟩ := got_int h1
  obtain ⟨b2, e2⟩ := got_int h2
  obtain ⟨b3, e3⟩ := got_int h3
  obtain ⟨b4, e4⟩ := got_lst Point.got h4
  obtain ⟨b5, e5⟩ := got_lst (fun _ h => got_i h) h5
  obtain ⟨b6, e6⟩ := got_int h6
  obtain ⟨b7, e7⟩ := got_int h7
  obtain ⟨b8, e8⟩ := got_int h8
  obtain ⟨b9, e9⟩ := got_int h9
  obtain ⟨b10, e10⟩ := got_int h10
  obtain ⟨b11, e11⟩ := got_lst Cell.got h11
  have e : Place.of [d0, d1, d2, d3, d4, d5, d6, d7, d8, d9, d10, d11] = some ⟨b0, b1, b2, b3, b4, b5, b6, b7, b8, b9, b10, b11⟩ := by simp only [Place.of, e0, e1, e2, e3, e4, e5, e6, e7, e8, e9, e10, e11, Option.bind_some]
  exact ⟨_, e⟩
def Link.sh : List Sh := [.str, .int .i64, .int .i64, .int .i64, .lst 2 Point.sh, .lst 2 Point.sh, .lst 2 Point.sh, .int .i64, .int .i64, .int .i64, .int .i64, .int .i64, .int .i64, .int .i64, .int .i64, .int .i64, .int .i64, .int .i64]
theorem Link.got (ds : List D) (h : hasL Link.sh ds) : ∃ a, Link.of ds = some a := by
  unfold Link.sh at h
  obtain ⟨d0, r0, rfl, h0, h⟩ := hasL_cons h
  obtain ⟨d1, r1, rfl, h1, h⟩ := hasL_cons h
  obtain ⟨d2, r2, rfl, h2, h⟩ := hasL_cons h
  obtain ⟨d3, r3, rfl, h3, h⟩ := hasL_cons h
  obtain ⟨d4, r4, rfl, h4, h⟩ := hasL_cons h
  obtain ⟨d5, r5, rfl, h5, h⟩ := hasL_cons h
  obtain ⟨d6, r6, rfl, h6, h⟩ := hasL_cons h
  obtain ⟨d7, r7, rfl, h7, h⟩ := hasL_cons h
  obtain ⟨d8, r8, rfl, h8, h⟩ := hasL_cons h
  obtain ⟨d9, r9, rfl, h9, h⟩ := hasL_cons h
  obtain ⟨d10, r10, rfl, h10, h⟩ := hasL_cons h
  obtain ⟨d11, r11, rfl, h11, h⟩ := hasL_cons h
  obtain ⟨d12, r12, rfl, h12, h⟩ := hasL_cons h
  obtain ⟨d13, r13, rfl, h13, h⟩ := hasL_cons h
  obtain ⟨d14, r14, rfl, h14, h⟩ := hasL_cons h
  obtain ⟨d15, r15, rfl, h15, h⟩ := hasL_cons h
  obtain ⟨d16, r16, rfl, h16, h⟩ := hasL_cons h
  obtain ⟨d17, r17, rfl, h17, h⟩ := hasL_cons h
  obtain rfl := hasL_nil h
  obtain ⟨b0, e0⟩ := got_str h0
  obtain ⟨b1, e1⟩ := got_int h1
  obtain ⟨b2, e2⟩ := got_int h2
  obtain ⟨b3, e3⟩ := got_int h3
  obtain ⟨b4, e4⟩ := got_lst Point.got h4
  obtain ⟨b5, e5⟩ := got_lst Point.got h5
  obtain ⟨b6, e6⟩ := got_lst Point.got h6
  obtain ⟨b7, e7⟩ := got_int h7
  obtain ⟨b8, e8⟩ := got_int h8
  obtain ⟨b9, e9⟩ := got_int h9
  obtain ⟨b10, e10⟩ := got_int h10
  obtain ⟨b11, e11⟩ := got_int h11
  obtain ⟨b12, e12⟩ := got_int h12
  obtain ⟨b13, e13⟩ := got_int h13
  obtain ⟨b14, e14⟩ := got_int h14
  obtain ⟨b15, e15⟩ := got_int h15
  obtain ⟨b16, e16⟩ := got_int h16
  obtain ⟨b17, e17⟩ := got_int h17
  have e : Link.of [d0, d1, d2, d3, d4, d5, d6, d7, d8, d9, d10, d11, d12, d13, d14, d15, d16, d17] = some ⟨b0, b1, b2, b3, b4, ⟨b5, b6⟩, b7, b8, b9, b10, b11, b12, b13, b14, b15, b16, b17⟩ := by simp only [Link.of, e0, e1, e2, e3, e4, e5, e6, e7, e8, e9, e10, e11, e12, e13, e14, e15, e16, e17, Option.bind_some]
  exact ⟨_, e⟩
def Town.sh : List Sh := [.str, .int .i64, .int .i64, .int .i64, .int .i64, .int .i64, .int .i64]
theorem Town.got (ds : List D) (h : hasL Town.sh ds) : ∃ a, Town.of ds = some a := by
  unfold Town.sh at h
  obtain ⟨d0, r0, rfl, h0, h⟩ := hasL_cons h
  obtain ⟨d1, r1, rfl, h1, h⟩ := hasL_cons h
  obtain ⟨d2, r2, rfl, h2, h⟩ := hasL_cons h
  obtain ⟨d3, r3, rfl, h3, h⟩ := hasL_cons h
  obtain ⟨d4, r4, rfl, h4, h⟩ := hasL_cons h
  obtain ⟨d5, r5, rfl, h5, h⟩ := hasL_cons h
  obtain ⟨d6, r6, rfl, h6, h⟩ := hasL_cons h
  obtain rfl := hasL_nil h
  obtain ⟨b0, e0⟩ := got_str h0
  obtain ⟨b1, e1⟩ := got_int h1
  obtain ⟨b2, e2⟩ := got_int h2
  obtain ⟨b3, e3⟩ := got_int h3
  obtain ⟨b4, e4⟩ := got_int h4
  obtain ⟨b5, e5⟩ := got_int h5
  obtain ⟨b6, e6⟩ := got_int h6
  have e : Town.of [d0, d1, d2, d3, d4, d5, d6] = some ⟨b0, b1, b2, b3, b4, b5, b6⟩ := by simp only [Town.of, e0, e1, e2, e3, e4, e5, e6, Option.bind_some]
  exact ⟨_, e⟩
def Shelter.sh : List Sh := [.str, .int .i64]
theorem Shelter.got (ds : List D) (h : hasL Shelter.sh ds) : ∃ a, Shelter.of ds = some a := by
  unfold Shelter.sh at h
  obtain ⟨d0, r0, rfl, h0, h⟩ := hasL_cons h
  obtain ⟨d1, r1, rfl, h1, h⟩ := hasL_cons h
  obtain rfl := hasL_nil h
  obtain ⟨b0, e0⟩ := got_str h0
  obtain ⟨b1, e1⟩ := got_int h1
  have e : Shelter.of [d0, d1] = some ⟨b0, b1⟩ := by simp only [Shelter.of, e0, e1, Option.bind_some]
  exact ⟨_, e⟩
def Gauge.sh : List Sh := [.str, .int .i64, .int .i64, .int .i64, .int .i64]
theorem Gauge.got (ds : List D) (h : hasL Gauge.sh ds) : ∃ a, Gauge.of ds = some a := by
  unfold Gauge.sh at h
  obtain ⟨d0, r0, rfl, h0, h⟩ := hasL_cons h
  obtain ⟨d1, r1, rfl, h1, h⟩ := hasL_cons h
  obtain ⟨d2, r2, rfl, h2, h⟩ := hasL_cons h
  obtain ⟨d3, r3, rfl, h3, h⟩ := hasL_cons h
  obtain ⟨d4, r4, rfl, h4, h⟩ := hasL_cons h
  obtain rfl := hasL_nil h
  obtain ⟨b0, e0⟩ := got_str h0
  obtain ⟨b1, e1⟩ := got_int h1
  obtain ⟨b2, e2⟩ := got_int h2
  obtain ⟨b3, e3⟩ := got_int h3
  obtain ⟨b4, e4⟩ := got_int h4
  have e : Gauge.of [d0, d1, d2, d3, d4] = some ⟨b0, b1, b2, b3, b4⟩ := by simp only [Gauge.of, e0, e1, e2, e3, e4, Option.bind_some]
  exact ⟨_, e⟩
def Road.sh : List Sh := [.str, .int .i64, .int .i64, .int .i64, .int .i64, .int .i64, .int .i64]
theorem Road.got (ds : List D) (h : hasL Road.sh ds) : ∃ a, Road.of ds = some a := by
  unfold Road.sh at h
  obtain ⟨d0, r0, rfl, h0, h⟩ := hasL_cons h
  obtain ⟨d1, r1, rfl, h1, h⟩ := hasL_cons h
  obtain ⟨d2, r2, rfl, h2, h⟩ := hasL_cons h
  obtain ⟨d3, r3, rfl, h3, h⟩ := hasL_cons h
  obtain ⟨d4, r4, rfl, h4, h⟩ := hasL_cons h
  obtain ⟨d5, r5, rfl, h5, h⟩ := hasL_cons h
  obtain ⟨d6, r6, rfl, h6, h⟩ := hasL_cons h
  obtain rfl := hasL_nil h
  obtain ⟨b0, e0⟩ := got_str h0
  obtain ⟨b1, e1⟩ := got_int h1
  obtain ⟨b2, e2⟩ := got_int h2
  obtain ⟨b3, e3⟩ := got_int h3
  obtain ⟨b4, e4⟩ := got_int h4
  obtain ⟨b5, e5⟩ := got_int h5
  obtain ⟨b6, e6⟩ := got_int h6
  have e : Road.of [d0, d1, d2, d3, d4, d5, d6] = some ⟨b0, b1, b2, b3, b4, b5, b6⟩ := by simp only [Road.of, e0, e1, e2, e3, e4, e5, e6, Option.bind_some]
  exact ⟨_, e⟩
def Basin.sh : List Sh := [.str, .lst 1 [.str], .int .i64, .lst 12 Place.sh, .lst 18 Link.sh, .lst 7 Town.sh, .lst 5 Gauge.sh, .lst 7 Road.sh, .lst 2 Shelter.sh, .lst 1 [.int .i64], .int .i64]
theorem Basin.got (ds : List D) (h : hasL Basin.sh ds) : ∃ a, Basin.of ds = some a := by
  unfold Basin.sh at h
  obtain ⟨d0, r0, rfl, h0, h⟩ := hasL_cons h
  obtain ⟨d1, r1, rfl, h1, h⟩ := hasL_cons h
  obtain ⟨d2, r2, rfl, h2, h⟩ := hasL_cons h
  obtain ⟨d3, r3, rfl, h3, h⟩ := hasL_cons h
  obtain ⟨d4, r4, rfl, h4, h⟩ := hasL_cons h
  obtain ⟨d5, r5, rfl, h5, h⟩ := hasL_cons h
  obtain ⟨d6, r6, rfl, h6, h⟩ := hasL_cons h
  obtain ⟨d7, r7, rfl, h7, h⟩ := hasL_cons h
  obtain ⟨d8, r8, rfl, h8, h⟩ := hasL_cons h
  obtain ⟨d9, r9, rfl, h9, h⟩ := hasL_cons h
  obtain ⟨d10, r10, rfl, h10, h⟩ := hasL_cons h
  obtain rfl := hasL_nil h
  obtain ⟨b0, e0⟩ := got_str h0
  obtain ⟨b1, e1⟩ := got_lst (fun _ h => got_s h) h1
  obtain ⟨b2, e2⟩ := got_int h2
  obtain ⟨b3, e3⟩ := got_lst Place.got h3
  obtain ⟨b4, e4⟩ := got_lst Link.got h4
  obtain ⟨b5, e5⟩ := got_lst Town.got h5
  obtain ⟨b6, e6⟩ := got_lst Gauge.got h6
  obtain ⟨b7, e7⟩ := got_lst Road.got h7
  obtain ⟨b8, e8⟩ := got_lst Shelter.got h8
  obtain ⟨b9, e9⟩ := got_lst (fun _ h => got_i h) h9
  obtain ⟨b10, e10⟩ := got_int h10
  have e : Basin.of [d0, d1, d2, d3, d4, d5, d6, d7, d8, d9, d10] = some ⟨b0, b1, b2, b3, b4, b5, b6, b7, b8, b9, b10⟩ := by simp only [Basin.of, e0, e1, e2, e3, e4, e5, e6, e7, e8, e9, e10, Option.bind_some]
  exact ⟨_, e⟩
def Claim.sh : List Sh := [.int .i64, .int .i64, .int .i64, .int .i64, .int .i64, .int .i64, .int .i64, .int .i64, .int .i64]
theorem Claim.got (ds : List D) (h : hasL Claim.sh ds) : ∃ a, Claim.of ds = some a := by
  unfold Claim.sh at h
  obtain ⟨d0, r0, rfl, h0, h⟩ := hasL_cons h
  obtain ⟨d1, r1, rfl, h1, h⟩ := hasL_cons h
  obtain ⟨d2, r2, rfl, h2, h⟩ := hasL_cons h
  obtain ⟨d3, r3, rfl, h3, h⟩ := hasL_cons h
  obtain ⟨d4, r4, rfl, h4, h⟩ := hasL_cons h
  obtain ⟨d5, r5, rfl, h5, h⟩ := hasL_cons h
  obtain ⟨d6, r6, rfl, h6, h⟩ := hasL_cons h
  obtain ⟨d7, r7, rfl, h7, h⟩ := hasL_cons h
  obtain ⟨d8, r8, rfl, h8, h⟩ := hasL_cons h
  obtain rfl := hasL_nil h
  obtain ⟨b0, e0⟩ := got_int h0
  obtain ⟨b1, e1⟩ := got_int h1
  obtain ⟨b2, e2⟩ := got_int h2
  obtain ⟨b3, e3⟩ := got_int h3
  obtain ⟨b4, e4⟩ := got_int h4
  obtain ⟨b5, e5⟩ := got_int h5
  obtain ⟨b6, e6⟩ := got_int h6
  obtain ⟨b7, e7⟩ := got_int h7
  obtain ⟨b8, e8⟩ := got_int h8
  have e : Claim.of [d0, d1, d2, d3, d4, d5, d6, d7, d8] = some ⟨b0, b1, b2, b3, b4, b5, b6, b7, b8⟩ := by simp only [Claim.of, e0, e1, e2, e3, e4, e5, e6, e7, e8, Option.bind_some]
  exact ⟨_, e⟩
def Grant.sh : List Sh := [.int .i64, .int .i64]
theorem Grant.got (ds : List D) (h : hasL Grant.sh ds) : ∃ a, Grant.of ds = some a := by
  unfold Grant.sh at h
  obtain ⟨d0, r0, rfl, h0, h⟩ := hasL_cons h
  obtain ⟨d1, r1, rfl, h1, h⟩ := hasL_cons h
  obtain rfl := hasL_nil h
  obtain ⟨b0, e0⟩ := got_int h0
  obtain ⟨b1, e1⟩ := got_int h1
  have e : Grant.of [d0, d1] = some ⟨b0, b1⟩ := by simp only [Grant.of, e0, e1, Option.bind_some]
  exact ⟨_, e⟩
def Entry.sh : List Sh := [.int .i64, .int .i64, .int .i64, .int .i64, .int .i64, .int .i64, .int .i64]
theorem Entry.got (ds : List D) (h : hasL Entry.sh ds) : ∃ a, Entry.of ds = some a := by
  unfold Entry.sh at h
  obtain ⟨d0, r0, rfl, h0, h⟩ := hasL_cons h
  obtain ⟨d1, r1, rfl, h1, h⟩ := hasL_cons h
  obtain ⟨d2, r2, rfl, h2, h⟩ := hasL_cons h
  obtain ⟨d3, r3, rfl, h3, h⟩ := hasL_cons h
  obtain ⟨d4, r4, rfl, h4, h⟩ := hasL_cons h
  obtain ⟨d5, r5, rfl, h5, h⟩ := hasL_cons h
  obtain ⟨d6, r6, rfl, h6, h⟩ := hasL_cons h
  obtain rfl := hasL_nil h
  obtain ⟨b0, e0⟩ := got_int h0
  obtain ⟨b1, e1⟩ := got_int h1
  obtain ⟨b2, e2⟩ := got_int h2
  obtain ⟨b3, e3⟩ := got_int h3
  obtain ⟨b4, e4⟩ := got_int h4
  obtain ⟨b5, e5⟩ := got_int h5
  obtain ⟨b6, e6⟩ := got_int h6
  have e : Entry.of [d0, d1, d2, d3, d4, d5, d6] = some ⟨b0, b1, b2, b3, b4, b5, b6⟩ := by simp only [Entry.of, e0, e1, e2, e3, e4, e5, e6, Option.bind_some]
  exact ⟨_, e⟩
def Report.sh : List Sh := [.lst 9 Claim.sh, .lst 1 [.int .i64]]
theorem Report.got (ds : List D) (h : hasL Report.sh ds) : ∃ a, Report.of ds = some a := by
  unfold Report.sh at h
  obtain ⟨d0, r0, rfl, h0, h⟩ := hasL_cons h
  obtain ⟨d1, r1, rfl, h1, h⟩ := hasL_cons h
  obtain rfl := hasL_nil h
  obtain ⟨b0, e0⟩ := got_lst Claim.got h0
  obtain ⟨b1, e1⟩ := got_lst (fun _ h => got_i h) h1
  have e : Report.of [d0, d1] = some ⟨b0, b1⟩ := by simp only [Report.of, e0, e1, Option.bind_some]
  exact ⟨_, e⟩
def Triple.sh : List Sh := [.int .i64, .int .i64, .int .i64]
theorem Triple.got (ds : List D) (h : hasL Triple.sh ds) : ∃ a, Triple.of ds = some a := by
  unfold Triple.sh at h
  obtain ⟨d0, r0, rfl, h0, h⟩ := hasL_cons h
  obtain ⟨d1, r1, rfl, h1, h⟩ := hasL_cons h
  obtain ⟨d2, r2, rfl, h2, h⟩ := hasL_cons h
  obtain rfl := hasL_nil h
  obtain ⟨b0, e0⟩ := got_int h0
  obtain ⟨b1, e1⟩ := got_int h1
  obtain ⟨b2, e2⟩ := got_int h2
  have e : Triple.of [d0, d1, d2] = some ⟨b0, b1, b2⟩ := by simp only [Triple.of, e0, e1, e2, Option.bind_some]
  exact ⟨_, e⟩
def Posting.sh : List Sh := [.int .i64, .int .i64]
theorem Posting.got (ds : List D) (h : hasL Posting.sh ds) : ∃ a, Posting.of ds = some a := by
  unfold Posting.sh at h
  obtain ⟨d0, r0, rfl, h0, h⟩ := hasL_cons h
  obtain ⟨d1, r1, rfl, h1, h⟩ := hasL_cons h
  obtain rfl := hasL_nil h
  obtain ⟨b0, e0⟩ := got_int h0
  obtain ⟨b1, e1⟩ := got_int h1
  have e : Posting.of [d0, d1] = some ⟨b0, b1⟩ := by simp only [Posting.of, e0, e1, Option.bind_some]
  exact ⟨_, e⟩
end Go.Proofs.Ytomnjbebgfadoaa.Pi
