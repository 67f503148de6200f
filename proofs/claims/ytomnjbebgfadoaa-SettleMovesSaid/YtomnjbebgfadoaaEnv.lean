/- The table of the program's types, as the pure interpreter reads them.
   Conditions: none; definitions and lemmas. -/
import Derived.Test.YtomnjbebgfadoaaPiS
import Derived.Test.YtomnjbebgfadoaaProg
namespace Go.Proofs.Ytomnjbebgfadoaa.Pi
open Go Go.RowKit Go.Proofs

/-- int64 -/
def T2 : TI := ⟨.int .i64, 1, 8, [.int .i64 0]⟩
/-- int -/
def T3 : TI := ⟨.int .i64, 1, 8, [.int .i64 0]⟩
/-- bool -/
def T4 : TI := ⟨.bool, 1, 1, [.bool false]⟩
/-- uint8 -/
def T5 : TI := ⟨.int .u8, 1, 1, [.int .u8 0]⟩
/-- string -/
def T9 : TI := ⟨.str, 1, 16, [.str ⟨#[]⟩]⟩
/-- uintptr -/
def T12 : TI := ⟨.int .u64, 1, 8, [.int .u64 0]⟩
/-- int32 -/
def T21 : TI := ⟨.int .i32, 1, 4, [.int .i32 0]⟩
/-- []string -/
def T22 : TI := ⟨.slice 9, 1, 24, [.lst 1 []]⟩
/-- []api.Place -/
def T23 : TI := ⟨.slice 91, 1, 24, [.lst 12 []]⟩
/-- []api.Link -/
def T24 : TI := ⟨.slice 110, 1, 24, [.lst 18 []]⟩
/-- []api.Town -/
def T25 : TI := ⟨.slice 112, 1, 24, [.lst 7 []]⟩
/-- []api.Gauge -/
def T26 : TI := ⟨.slice 116, 1, 24, [.lst 5 []]⟩
/-- []api.Road -/
def T27 : TI := ⟨.slice 118, 1, 24, [.lst 7 []]⟩
/-- []api.Shelter -/
def T28 : TI := ⟨.slice 114, 1, 24, [.lst 2 []]⟩
/-- []int -/
def T29 : TI := ⟨.slice 3, 1, 24, [.lst 1 []]⟩
/-- api.Basin: Name, Owners, Cells, Places, Links, Towns, Gauges, Roads, Shelters, Room, Err -/
def T31 : TI := ⟨.struct [⟨0, 1, false, 2⟩, ⟨1, 1, false, 3⟩, ⟨2, 1, false, 0⟩, ⟨3, 1, false, 3⟩, ⟨4, 1, false, 3⟩, ⟨5, 1, false, 3⟩, ⟨6, 1, false, 3⟩, ⟨7, 1, false, 3⟩, ⟨8, 1, false, 3⟩, ⟨9, 1, false, 3⟩, ⟨10, 1, false, 0⟩], 11, 224, [.str ⟨#[]⟩, .lst 1 [], .int .i64 0, .lst 12 [], .lst 18 [], .lst 7 [], .lst 5 [], .lst 7 [], .lst 2 [], .lst 1 [], .int .i64 0]⟩
/-- []api.Right -/
def T32 : TI := ⟨.slice 49, 1, 24, [.lst 9 []]⟩
/-- []api.Grant -/
def T37 : TI := ⟨.slice 61, 1, 24, [.lst 2 []]⟩
/-- []api.Entry -/
def T40 : TI := ⟨.slice 46, 1, 24, [.lst 7 []]⟩
/-- api.Entry: Day, Known, Owner, Place, Litres, Why, Ref -/
def T46 : TI := ⟨.struct [⟨0, 1, false, 0⟩, ⟨1, 1, false, 0⟩, ⟨2, 1, false, 0⟩, ⟨3, 1, false, 0⟩, ⟨4, 1, false, 0⟩, ⟨5, 1, false, 0⟩, ⟨6, 1, false, 0⟩], 7, 56, [.int .i64 0, .int .i64 0, .int .i64 0, .int .i64 0, .int .i64 0, .int .i64 0, .int .i64 0]⟩
/-- api.Right: Id, Owner, Date, Place, Rate, From, Until, Back, BackTo -/
def T49 : TI := ⟨.struct [⟨0, 1, false, 0⟩, ⟨1, 1, false, 0⟩, ⟨2, 1, false, 0⟩, ⟨3, 1, false, 0⟩, ⟨4, 1, false, 0⟩, ⟨5, 1, false, 0⟩, ⟨6, 1, false, 0⟩, ⟨7, 1, false, 0⟩, ⟨8, 1, false, 0⟩], 9, 72, [.int .i64 0, .int .i64 0, .int .i64 0, .int .i64 0, .int .i64 0, .int .i64 0, .int .i64 0, .int .i64 0, .int .i64 0]⟩
/-- []bournelaw40.Report -/
def T51 : TI := ⟨.slice 58, 1, 24, [.lst 2 []]⟩
/-- bournelaw40.Report: Roster, Supply -/
def T58 : TI := ⟨.struct [⟨0, 1, false, 3⟩, ⟨1, 1, false, 3⟩], 2, 48, [.lst 9 [], .lst 1 []]⟩
/-- api.Grant: Right, Litres -/
def T61 : TI := ⟨.struct [⟨0, 1, false, 0⟩, ⟨1, 1, false, 0⟩], 2, 16, [.int .i64 0, .int .i64 0]⟩
/-- map[settle.triple]int -/
def T66 : TI := ⟨.map 99 3, 1, 8, [.nil 0]⟩
/-- []settle.triple -/
def T67 : TI := ⟨.slice 99, 1, 24, [.lst 3 []]⟩
/-- settle.shares: order, litres -/
def T69 : TI := ⟨.struct [⟨0, 1, false, 3⟩, ⟨1, 1, false, 3⟩], 2, 32, [.lst 3 [], .nil 0]⟩
/-- api.Errno -/
def T72 : TI := ⟨.int .i64, 1, 8, [.int .i64 0]⟩
/-- map[ledger.posting][]api.Entry -/
def T80 : TI := ⟨.map 82 40, 1, 8, [.nil 0]⟩
/-- ledger.posting: day, known -/
def T82 : TI := ⟨.struct [⟨0, 1, false, 0⟩, ⟨1, 1, false, 0⟩], 2, 16, [.int .i64 0, .int .i64 0]⟩
/-- []api.Point -/
def T88 : TI := ⟨.slice 130, 1, 24, [.lst 2 []]⟩
/-- []api.Cell -/
def T89 : TI := ⟨.slice 132, 1, 24, [.lst 2 []]⟩
/-- api.Place: Name, Kind, Office, Cap, Level, Start, Num, Den, Down, Delay, Floor, Rain -/
def T91 : TI := ⟨.struct [⟨0, 1, false, 2⟩, ⟨1, 1, false, 0⟩, ⟨2, 1, false, 0⟩, ⟨3, 1, false, 0⟩, ⟨4, 1, false, 3⟩, ⟨5, 1, false, 3⟩, ⟨6, 1, false, 0⟩, ⟨7, 1, false, 0⟩, ⟨8, 1, false, 0⟩, ⟨9, 1, false, 0⟩, ⟨10, 1, false, 0⟩, ⟨11, 1, false, 3⟩], 12, 152, [.str ⟨#[]⟩, .int .i64 0, .int .i64 0, .int .i64 0, .lst 2 [], .lst 1 [], .int .i64 0, .int .i64 0, .int .i64 0, .int .i64 0, .int .i64 0, .lst 2 []]⟩
/-- map[int]api.Right -/
def T96 : TI := ⟨.map 3 49, 1, 8, [.nil 0]⟩
/-- settle.triple: right, owner, place -/
def T99 : TI := ⟨.struct [⟨0, 1, false, 0⟩, ⟨1, 1, false, 0⟩, ⟨2, 1, false, 0⟩], 3, 24, [.int .i64 0, .int .i64 0, .int .i64 0]⟩
/-- uint64 -/
def T102 : TI := ⟨.int .u64, 1, 8, [.int .u64 0]⟩
/-- uint -/
def T105 : TI := ⟨.int .u64, 1, 8, [.int .u64 0]⟩
/-- [][]string -/
def T106 : TI := ⟨.slice 22, 1, 24, [.lst 1 []]⟩
/-- api.Band: Lo, Hi -/
def T108 : TI := ⟨.struct [⟨0, 1, false, 3⟩, ⟨1, 1, false, 3⟩], 2, 48, [.lst 2 [], .lst 2 []]⟩
/-- api.Link: Name, Kind, From, To, Rate, Band, Positions, Speed, Leak, Crest, Num, Den, Prime, Break, BackNum, BackDen, Delay -/
def T110 : TI := ⟨.struct [⟨0, 1, false, 2⟩, ⟨1, 1, false, 0⟩, ⟨2, 1, false, 0⟩, ⟨3, 1, false, 0⟩, ⟨4, 1, false, 3⟩, ⟨5, 2, true, 3⟩, ⟨7, 1, false, 0⟩, ⟨8, 1, false, 0⟩, ⟨9, 1, false, 0⟩, ⟨10, 1, false, 0⟩, ⟨11, 1, false, 0⟩, ⟨12, 1, false, 0⟩, ⟨13, 1, false, 0⟩, ⟨14, 1, false, 0⟩, ⟨15, 1, false, 0⟩, ⟨16, 1, false, 0⟩, ⟨17, 1, false, 0⟩], 18, 200, [.str ⟨#[]⟩, .int .i64 0, .int .i64 0, .int .i64 0, .lst 2 [], .lst 2 [], .lst 2 [], .int .i64 0, .int .i64 0, .int .i64 0, .int .i64 0, .int .i64 0, .int .i64 0, .int .i64 0, .int .i64 0, .int .i64 0, .int .i64 0, .int .i64 0]⟩
/-- api.Town: Name, Place, Flood, Lead, People, Watch, Quorum -/
def T112 : TI := ⟨.struct [⟨0, 1, false, 2⟩, ⟨1, 1, false, 0⟩, ⟨2, 1, false, 0⟩, ⟨3, 1, false, 0⟩, ⟨4, 1, false, 0⟩, ⟨5, 1, false, 0⟩, ⟨6, 1, false, 0⟩], 7, 64, [.str ⟨#[]⟩, .int .i64 0, .int .i64 0, .int .i64 0, .int .i64 0, .int .i64 0, .int .i64 0]⟩
/-- api.Shelter: Name, Room -/
def T114 : TI := ⟨.struct [⟨0, 1, false, 2⟩, ⟨1, 1, false, 0⟩], 2, 24, [.str ⟨#[]⟩, .int .i64 0]⟩
/-- api.Gauge: Name, Kind, Target, Err, Drift -/
def T116 : TI := ⟨.struct [⟨0, 1, false, 2⟩, ⟨1, 1, false, 0⟩, ⟨2, 1, false, 0⟩, ⟨3, 1, false, 0⟩, ⟨4, 1, false, 0⟩], 5, 48, [.str ⟨#[]⟩, .int .i64 0, .int .i64 0, .int .i64 0, .int .i64 0]⟩
/-- api.Road: Name, From, To, Hours, Flow, By, Limit -/
def T118 : TI := ⟨.struct [⟨0, 1, false, 2⟩, ⟨1, 1, false, 0⟩, ⟨2, 1, false, 0⟩, ⟨3, 1, false, 0⟩, ⟨4, 1, false, 0⟩, ⟨5, 1, false, 0⟩, ⟨6, 1, false, 0⟩], 7, 64, [.str ⟨#[]⟩, .int .i64 0, .int .i64 0, .int .i64 0, .int .i64 0, .int .i64 0, .int .i64 0]⟩
/-- [][]api.Entry -/
def T127 : TI := ⟨.slice 40, 1, 24, [.lst 1 []]⟩
/-- api.Point: X, Y -/
def T130 : TI := ⟨.struct [⟨0, 1, false, 0⟩, ⟨1, 1, false, 0⟩], 2, 16, [.int .i64 0, .int .i64 0]⟩
/-- api.Cell: Index, Area -/
def T132 : TI := ⟨.struct [⟨0, 1, false, 0⟩, ⟨1, 1, false, 0⟩], 2, 16, [.int .i64 0, .int .i64 0]⟩
/-- uint32 -/
def T146 : TI := ⟨.int .u32, 1, 4, [.int .u32 0]⟩
def tys : List (Nat × TI) := [(2, T2), (3, T3), (4, T4), (5, T5), (9, T9), (12, T12), (21, T21), (22, T22), (23, T23), (24, T24), (25, T25), (26, T26), (27, T27), (28, T28), (29, T29), (31, T31), (32, T32), (37, T37), (40, T40), (46, T46), (49, T49), (51, T51), (58, T58), (61, T61), (66, T66), (67, T67), (69, T69), (72, T72), (80, T80), (82, T82), (88, T88), (89, T89), (91, T91), (96, T96), (99, T99), (102, T102), (105, T105), (106, T106), (108, T108), (110, T110), (112, T112), (114, T114), (116, T116), (118, T118), (127, T127), (130, T130), (132, T132), (146, T146)]
theorem tys_ok : (tys.all fun x => tyB Try.prog x.1 x.2) = true := by kernel_rfl
theorem mixed0 : Try.prog.follows .mixedOrders = true := by kernel_rfl
noncomputable def E0 : Env := ⟨Try.prog, 0, fun t => tys.lookup t, fun _ => none, fun _ => none, fun _ => false, fun k => k, fun _ => true⟩
theorem E0_ok : EnvOk E0 := by
  refine ⟨fun t ti h => ?_, fun f c h => by simp [E0] at h, fun f c h => by simp [E0] at h, mixed0⟩
  have hm : ∀ (l : List (Nat × TI)), l.lookup t = some ti → (t, ti) ∈ l := by
    intro l
    induction l with
    | nil => intro h; simp at h
    | cons x l ih =>
      intro h
      obtain ⟨a, b⟩ := x
      simp only [List.lookup_cons] at h
      by_cases e : t = a
      · subst e; simp at h; subst h; simp
      · have : (t == a) = false := by simpa using e
        rw [this] at h
        exact List.mem_cons_of_mem _ (ih h)
  have := List.all_eq_true.1 tys_ok _ (hm tys h)
  exact this
theorem ty2 : E0.ty 2 = some ⟨.int .i64, 1, 8, [.int .i64 0]⟩ := rfl
theorem ty3 : E0.ty 3 = some ⟨.int .i64, 1, 8, [.int .i64 0]⟩ := rfl
theorem ty4 : E0.ty 4 = some ⟨.bool, 1, 1, [.bool false]⟩ := rfl
theorem ty5 : E0.ty 5 = some ⟨.int .u8, 1, 1, [.int .u8 0]⟩ := rfl
theorem ty9 : E0.ty 9 = some ⟨.str, 1, 16, [.str ⟨#[]⟩]⟩ := rfl
theorem ty12 : E0.ty 12 = some ⟨.int .u64, 1, 8, [.int .u64 0]⟩ := rfl
theorem ty21 : E0.ty 21 = some ⟨.int .i32, 1, 4, [.int .i32 0]⟩ := rfl
theorem ty22 : E0.ty 22 = some ⟨.slice 9, 1, 24, [.lst 1 []]⟩ := rfl
theorem ty23 : E0.ty 23 = some ⟨.slice 91, 1, 24, [.lst 12 []]⟩ := rfl
theorem ty24 : E0.ty 24 = some ⟨.slice 110, 1, 24, [.lst 18 []]⟩ := rfl
theorem ty25 : E0.ty 25 = some ⟨.slice 112, 1, 24, [.lst 7 []]⟩ := rfl
theorem ty26 : E0.ty 26 = some ⟨.slice 116, 1, 24, [.lst 5 []]⟩ := rfl
theorem ty27 : E0.ty 27 = some ⟨.slice 118, 1, 24, [.lst 7 []]⟩ := rfl
theorem ty28 : E0.ty 28 = some ⟨.slice 114, 1, 24, [.lst 2 []]⟩ := rfl
theorem ty29 : E0.ty 29 = some ⟨.slice 3, 1, 24, [.lst 1 []]⟩ := rfl
theorem ty31 : E0.ty 31 = some ⟨.struct [⟨0, 1, false, 2⟩, ⟨1, 1, false, 3⟩, ⟨2, 1, false, 0⟩, ⟨3, 1, false, 3⟩, ⟨4, 1, false, 3⟩, ⟨5, 1, false, 3⟩, ⟨6, 1, false, 3⟩, ⟨7, 1, false, 3⟩, ⟨8, 1, false, 3⟩, ⟨9, 1, false, 3⟩, ⟨10, 1, false, 0⟩], 11, 224, [.str ⟨#[]⟩, .lst 1 [], .int .i64 0, .lst 12 [], .lst 18 [], .lst 7 [], .lst 5 [], .lst 7 [], .lst 2 [], .lst 1 [], .int .i64 0]⟩ := rfl
theorem ty32 : E0.ty 32 = some ⟨.slice 49, 1, 24, [.lst 9 []]⟩ := rfl
theorem ty37 : E0.ty 37 = some ⟨.slice 61, 1, 24, [.lst 2 []]⟩ := rfl
theorem ty40 : E0.ty 40 = some ⟨.slice 46, 1, 24, [.lst 7 []]⟩ := rfl
theorem ty46 : E0.ty 46 = some ⟨.struct [⟨0, 1, false, 0⟩, ⟨1, 1, false, 0⟩, ⟨2, 1, false, 0⟩, ⟨3, 1, false, 0⟩, ⟨4, 1, false, 0⟩, ⟨5, 1, false, 0⟩, ⟨6, 1, false, 0⟩], 7, 56, [.int .i64 0, .int .i64 0, .int .i64 0, .int .i64 0, .int .i64 0, .int .i64 0, .int .i64 0]⟩ := rfl
theorem ty49 : E0.ty 49 = some ⟨.struct [⟨0, 1, false, 0⟩, ⟨1, 1, false, 0⟩, ⟨2, 1, false, 0⟩, ⟨3, 1, false, 0⟩, ⟨4, 1, false, 0⟩, ⟨5, 1, false, 0⟩, ⟨6, 1, false, 0⟩, ⟨7, 1, false, 0⟩, ⟨8, 1, false, 0⟩], 9, 72, [.int .i64 0, .int .i64 0, .int .i64 0, .int .i64 0, .int .i64 0, .int .i64 0, .int .i64 0, .int .i64 0, .int .i64 0]⟩ := rfl
theorem ty51 : E0.ty 51 = some ⟨.slice 58, 1, 24, [.lst 2 []]⟩ := rfl
theorem ty58 : E0.ty 58 = some ⟨.struct [⟨0, 1, false, 3⟩, ⟨1, 1, false, 3⟩], 2, 48, [.lst 9 [], .lst 1 []]⟩ := rfl
theorem ty61 : E0.ty 61 = some ⟨.struct [⟨0, 1, false, 0⟩, ⟨1, 1, false, 0⟩], 2, 16, [.int .i64 0, .int .i64 0]⟩ := rfl
theorem ty66 : E0.ty 66 = some ⟨.map 99 3, 1, 8, [.nil 0]⟩ := rfl
theorem ty67 : E0.ty 67 = some ⟨.slice 99, 1, 24, [.lst 3 []]⟩ := rfl
theorem ty69 : E0.ty 69 = some ⟨.struct [⟨0, 1, false, 3⟩, ⟨1, 1, false, 3⟩], 2, 32, [.lst 3 [], .nil 0]⟩ := rfl
theorem ty72 : E0.ty 72 = some ⟨.int .i64, 1, 8, [.int .i64 0]⟩ := rfl
theorem ty80 : E0.ty 80 = some ⟨.map 82 40, 1, 8, [.nil 0]⟩ := rfl
theorem ty82 : E0.ty 82 = some ⟨.struct [⟨0, 1, false, 0⟩, ⟨1, 1, false, 0⟩], 2, 16, [.int .i64 0, .int .i64 0]⟩ := rfl
theorem ty88 : E0.ty 88 = some ⟨.slice 130, 1, 24, [.lst 2 []]⟩ := rfl
theorem ty89 : E0.ty 89 = some ⟨.slice 132, 1, 24, [.lst 2 []]⟩ := rfl
theorem ty91 : E0.ty 91 = some ⟨.struct [⟨0, 1, false, 2⟩, ⟨1, 1, false, 0⟩, ⟨2, 1, false, 0⟩, ⟨3, 1, false, 0⟩, ⟨4, 1, false, 3⟩, ⟨5, 1, false, 3⟩, ⟨6, 1, false, 0⟩, ⟨7, 1, false, 0⟩, ⟨8, 1, false, 0⟩, ⟨9, 1, false, 0⟩, ⟨10, 1, false, 0⟩, ⟨11, 1, false, 3⟩], 12, 152, [.str ⟨#[]⟩, .int .i64 0, .int .i64 0, .int .i64 0, .lst 2 [], .lst 1 [], .int .i64 0, .int .i64 0, .int .i64 0, .int .i64 0, .int .i64 0, .lst 2 []]⟩ := rfl
theorem ty96 : E0.ty 96 = some ⟨.map 3 49, 1, 8, [.nil 0]⟩ := rfl
theorem ty99 : E0.ty 99 = some ⟨.struct [⟨0, 1, false, 0⟩, ⟨1, 1, false, 0⟩, ⟨2, 1, false, 0⟩], 3, 24, [.int .i64 0, .int .i64 0, .int .i64 0]⟩ := rfl
theorem ty102 : E0.ty 102 = some ⟨.int .u64, 1, 8, [.int .u64 0]⟩ := rfl
theorem ty105 : E0.ty 105 = some ⟨.int .u64, 1, 8, [.int .u64 0]⟩ := rfl
theorem ty106 : E0.ty 106 = some ⟨.slice 22, 1, 24, [.lst 1 []]⟩ := rfl
theorem ty108 : E0.ty 108 = some ⟨.struct [⟨0, 1, false, 3⟩, ⟨1, 1, false, 3⟩], 2, 48, [.lst 2 [], .lst 2 []]⟩ := rfl
theorem ty110 : E0.ty 110 = some ⟨.struct [⟨0, 1, false, 2⟩, ⟨1, 1, false, 0⟩, ⟨2, 1, false, 0⟩, ⟨3, 1, false, 0⟩, ⟨4, 1, false, 3⟩, ⟨5, 2, true, 3⟩, ⟨7, 1, false, 0⟩, ⟨8, 1, false, 0⟩, ⟨9, 1, false, 0⟩, ⟨10, 1, false, 0⟩, ⟨11, 1, false, 0⟩, ⟨12, 1, false, 0⟩, ⟨13, 1, false, 0⟩, ⟨14, 1, false, 0⟩, ⟨15, 1, false, 0⟩, ⟨16, 1, false, 0⟩, ⟨17, 1, false, 0⟩], 18, 200, [.str ⟨#[]⟩, .int .i64 0, .int .i64 0, .int .i64 0, .lst 2 [], .lst 2 [], .lst 2 [], .int .i64 0, .int .i64 0, .int .i64 0, .int .i64 0, .int .i64 0, .int .i64 0, .int .i64 0, .int .i64 0, .int .i64 0, .int .i64 0, .int .i64 0]⟩ := rfl
theorem ty112 : E0.ty 112 = some ⟨.struct [⟨0, 1, false, 2⟩, ⟨1, 1, false, 0⟩, ⟨2, 1, false, 0⟩, ⟨3, 1, false, 0⟩, ⟨4, 1, false, 0⟩, ⟨5, 1, false, 0⟩, ⟨6, 1, false, 0⟩], 7, 64, [.str ⟨#[]⟩, .int .i64 0, .int .i64 0, .int .i64 0, .int .i64 0, .int .i64 0, .int .i64 0]⟩ := rfl
theorem ty114 : E0.ty 114 = some ⟨.struct [⟨0, 1, false, 2⟩, ⟨1, 1, false, 0⟩], 2, 24, [.str ⟨#[]⟩, .int .i64 0]⟩ := rfl
theorem ty116 : E0.ty 116 = some ⟨.struct [⟨0, 1, false, 2⟩, ⟨1, 1, false, 0⟩, ⟨2, 1, false, 0⟩, ⟨3, 1, false, 0⟩, ⟨4, 1, false, 0⟩], 5, 48, [.str ⟨#[]⟩, .int .i64 0, .int .i64 0, .int .i64 0, .int .i64 0]⟩ := rfl
theorem ty118 : E0.ty 118 = some ⟨.struct [⟨0, 1, false, 2⟩, ⟨1, 1, false, 0⟩, ⟨2, 1, false, 0⟩, ⟨3, 1, false, 0⟩, ⟨4, 1, false, 0⟩, ⟨5, 1, false, 0⟩, ⟨6, 1, false, 0⟩], 7, 64, [.str ⟨#[]⟩, .int .i64 0, .int .i64 0, .int .i64 0, .int .i64 0, .int .i64 0, .int .i64 0]⟩ := rfl
theorem ty127 : E0.ty 127 = some ⟨.slice 40, 1, 24, [.lst 1 []]⟩ := rfl
theorem ty130 : E0.ty 130 = some ⟨.struct [⟨0, 1, false, 0⟩, ⟨1, 1, false, 0⟩], 2, 16, [.int .i64 0, .int .i64 0]⟩ := rfl
theorem ty132 : E0.ty 132 = some ⟨.struct [⟨0, 1, false, 0⟩, ⟨1, 1, false, 0⟩], 2, 16, [.int .i64 0, .int .i64 0]⟩ := rfl
theorem ty146 : E0.ty 146 = some ⟨.int .u32, 1, 4, [.int .u32 0]⟩ := rfl
theorem ty_r : E0.ty 2 = some ⟨.int .i64, 1, 8, [.int .i64 0]⟩ ∧ E0.ty 3 = some ⟨.int .i64, 1, 8, [.int .i64 0]⟩ ∧ E0.ty 4 = some ⟨.bool, 1, 1, [.bool false]⟩ ∧ E0.ty 5 = some ⟨.int .u8, 1, 1, [.int .u8 0]⟩ ∧ E0.ty 9 = some ⟨.str, 1, 16, [.str ⟨#[]⟩]⟩ ∧ E0.ty 12 = some ⟨.int .u64, 1, 8, [.int .u64 0]⟩ ∧ E0.ty 21 = some ⟨.int .i32, 1, 4, [.int .i32 0]⟩ ∧ E0.ty 22 = some ⟨.slice 9, 1, 24, [.lst 1 []]⟩ ∧ E0.ty 23 = some ⟨.slice 91, 1, 24, [.lst 12 []]⟩ ∧ E0.ty 24 = some ⟨.slice 110, 1, 24, [.lst 18 []]⟩ ∧ E0.ty 25 = some ⟨.slice 112, 1, 24, [.lst 7 []]⟩ ∧ E0.ty 26 = some ⟨.slice 116, 1, 24, [.lst 5 []]⟩ ∧ E0.ty 27 = some ⟨.slice 118, 1, 24, [.lst 7 []]⟩ ∧ E0.ty 28 = some ⟨.slice 114, 1, 24, [.lst 2 []]⟩ ∧ E0.ty 29 = some ⟨.slice 3, 1, 24, [.lst 1 []]⟩ ∧ E0.ty 31 = some ⟨.struct [⟨0, 1, false, 2⟩, ⟨1, 1, false, 3⟩, ⟨2, 1, false, 0⟩, ⟨3, 1, false, 3⟩, ⟨4, 1, false, 3⟩, ⟨5, 1, false, 3⟩, ⟨6, 1, false, 3⟩, ⟨7, 1, false, 3⟩, ⟨8, 1, false, 3⟩, ⟨9, 1, false, 3⟩, ⟨10, 1, false, 0⟩], 11, 224, [.str ⟨#[]⟩, .lst 1 [], .int .i64 0, .lst 12 [], .lst 18 [], .lst 7 [], .lst 5 [], .lst 7 [], .lst 2 [], .lst 1 [], .int .i64 0]⟩ ∧ E0.ty 32 = some ⟨.slice 49, 1, 24, [.lst 9 []]⟩ ∧ E0.ty 37 = some ⟨.slice 61, 1, 24, [.lst 2 []]⟩ ∧ E0.ty 40 = some ⟨.slice 46, 1, 24, [.lst 7 []]⟩ ∧ E0.ty 46 = some ⟨.struct [⟨0, 1, false, 0⟩, ⟨1, 1, false, 0⟩, ⟨2, 1, false, 0⟩, ⟨3, 1, false, 0⟩, ⟨4, 1, false, 0⟩, ⟨5, 1, false, 0⟩, ⟨6, 1, false, 0⟩], 7, 56, [.int .i64 0, .int .i64 0, .int .i64 0, .int .i64 0, .int .i64 0, .int .i64 0, .int .i64 0]⟩ ∧ E0.ty 49 = some ⟨.struct [⟨0, 1, false, 0⟩, ⟨1, 1, false, 0⟩, ⟨2, 1, false, 0⟩, ⟨3, 1, false, 0⟩, ⟨4, 1, false, 0⟩, ⟨5, 1, false, 0⟩, ⟨6, 1, false, 0⟩, ⟨7, 1, false, 0⟩, ⟨8, 1, false, 0⟩], 9, 72, [.int .i64 0, .int .i64 0, .int .i64 0, .int .i64 0, .int .i64 0, .int .i64 0, .int .i64 0, .int .i64 0, .int .i64 0]⟩ ∧ E0.ty 51 = some ⟨.slice 58, 1, 24, [.lst 2 []]⟩ ∧ E0.ty 58 = some ⟨.struct [⟨0, 1, false, 3⟩, ⟨1, 1, false, 3⟩], 2, 48, [.lst 9 [], .lst 1 []]⟩ ∧ E0.ty 61 = some ⟨.struct [⟨0, 1, false, 0⟩, ⟨1, 1, false, 0⟩], 2, 16, [.int .i64 0, .int .i64 0]⟩ ∧ E0.ty 66 = some ⟨.map 99 3, 1, 8, [.nil 0]⟩ ∧ E0.ty 67 = some ⟨.slice 99, 1, 24, [.lst 3 []]⟩ ∧ E0.ty 69 = some ⟨.struct [⟨0, 1, false, 3⟩, ⟨1, 1, false, 3⟩], 2, 32, [.lst 3 [], .nil 0]⟩ ∧ E0.ty 72 = some ⟨.int .i64, 1, 8, [.int .i64 0]⟩ ∧ E0.ty 80 = some ⟨.map 82 40, 1, 8, [.nil 0]⟩ ∧ E0.ty 82 = some ⟨.struct [⟨0, 1, false, 0⟩, ⟨1, 1, false, 0⟩], 2, 16, [.int .i64 0, .int .i64 0]⟩ ∧ E0.ty 88 = some ⟨.slice 130, 1, 24, [.lst 2 []]⟩ ∧ E0.ty 89 = some ⟨.slice 132, 1, 24, [.lst 2 []]⟩ ∧ E0.ty 91 = some ⟨.struct [⟨0, 1, false, 2⟩, ⟨1, 1, false, 0⟩, ⟨2, 1, false, 0⟩, ⟨3, 1, false, 0⟩, ⟨4, 1, false, 3⟩, ⟨5, 1, false, 3⟩, ⟨6, 1, false, 0⟩, ⟨7, 1, false, 0⟩, ⟨8, 1, false, 0⟩, ⟨9, 1, false, 0⟩, ⟨10, 1, false, 0⟩, ⟨11, 1, false, 3⟩], 12, 152, [.str ⟨#[]⟩, .int .i64 0, .int .i64 0, .int .i64 0, .lst 2 [], .lst 1 [], .int .i64 0, .int .i64 0, .int .i64 0, .int .i64 0, .int .i64 0, .lst 2 []]⟩ ∧ E0.ty 96 = some ⟨.map 3 49, 1, 8, [.nil 0]⟩ ∧ E0.ty 99 = some ⟨.struct [⟨0, 1, false, 0⟩, ⟨1, 1, false, 0⟩, ⟨2, 1, false, 0⟩], 3, 24, [.int .i64 0, .int .i64 0, .int .i64 0]⟩ ∧ E0.ty 102 = some ⟨.int .u64, 1, 8, [.int .u64 0]⟩ ∧ E0.ty 105 = some ⟨.int .u64, 1, 8, [.int .u64 0]⟩ ∧ E0.ty 106 = some ⟨.slice 22, 1, 24, [.lst 1 []]⟩ ∧ E0.ty 108 = some ⟨.struct [⟨0, 1, false, 3⟩, ⟨1, 1, false, 3⟩], 2, 48, [.lst 2 [], .lst 2 []]⟩ ∧ E0.ty 110 = some ⟨.struct [⟨0, 1, false, 2⟩, ⟨1, 1, false, 0⟩, ⟨2, 1, false, 0⟩, ⟨3, 1, false, 0⟩, ⟨4, 1, false, 3⟩, ⟨5, 2, true, 3⟩, ⟨7, 1, false, 0⟩, ⟨8, 1, false, 0⟩, ⟨9, 1, false, 0⟩, ⟨10, 1, false, 0⟩, ⟨11, 1, false, 0⟩, ⟨12, 1, false, 0⟩, ⟨13, 1, false, 0⟩, ⟨14, 1, false, 0⟩, ⟨15, 1, false, 0⟩, ⟨16, 1, false, 0⟩, ⟨17, 1, false, 0⟩], 18, 200, [.str ⟨#[]⟩, .int .i64 0, .int .i64 0, .int .i64 0, .lst 2 [], .lst 2 [], .lst 2 [], .int .i64 0, .int .i64 0, .int .i64 0, .int .i64 0, .int .i64 0, .int .i64 0, .int .i64 0, .int .i64 0, .int .i64 0, .int .i64 0, .int .i64 0]⟩ ∧ E0.ty 112 = some ⟨.struct [⟨0, 1, false, 2⟩, ⟨1, 1, false, 0⟩, ⟨2, 1, false, 0⟩, ⟨3, 1, false, 0⟩, ⟨4, 1, false, 0⟩, ⟨5, 1, false, 0⟩, ⟨6, 1, false, 0⟩], 7, 64, [.str ⟨#[]⟩, .int .i64 0, .int .i64 0, .int .i64 0, .int .i64 0, .int .i64 0, .int .i64 0]⟩ ∧ E0.ty 114 = some ⟨.struct [⟨0, 1, false, 2⟩, ⟨1, 1, false, 0⟩], 2, 24, [.str ⟨#[]⟩, .int .i64 0]⟩ ∧ E0.ty 116 = some ⟨.struct [⟨0, 1, false, 2⟩, ⟨1, 1, false, 0⟩, ⟨2, 1, false, 0⟩, ⟨3, 1, false, 0⟩, ⟨4, 1, false, 0⟩], 5, 48, [.str ⟨#[]⟩, .int .i64 0, .int .i64 0, .int .i64 0, .int .i64 0]⟩ ∧ E0.ty 118 = some ⟨.struct [⟨0, 1, false, 2⟩, ⟨1, 1, false, 0⟩, ⟨2, 1, false, 0⟩, ⟨3, 1, false, 0⟩, ⟨4, 1, false, 0⟩, ⟨5, 1, false, 0⟩, ⟨6, 1, false, 0⟩], 7, 64, [.str ⟨#[]⟩, .int .i64 0, .int .i64 0, .int .i64 0, .int .i64 0, .int .i64 0, .int .i64 0]⟩ ∧ E0.ty 127 = some ⟨.slice 40, 1, 24, [.lst 1 []]⟩ ∧ E0.ty 130 = some ⟨.struct [⟨0, 1, false, 0⟩, ⟨1, 1, false, 0⟩], 2, 16, [.int .i64 0, .int .i64 0]⟩ ∧ E0.ty 132 = some ⟨.struct [⟨0, 1, false, 0⟩, ⟨1, 1, false, 0⟩], 2, 16, [.int .i64 0, .int .i64 0]⟩ ∧ E0.ty 146 = some ⟨.int .u32, 1, 4, [.int .u32 0]⟩ := ⟨rfl, rfl, rfl, rfl, rfl, rfl, rfl, rfl, rfl, rfl, rfl, rfl, rfl, rfl, rfl, rfl, rfl, rfl, rfl, rfl, rfl, rfl, rfl, rfl, rfl, rfl, rfl, rfl, rfl, rfl, rfl, rfl, rfl, rfl, rfl, rfl, rfl, rfl, rfl, rfl, rfl, rfl, rfl, rfl, rfl, rfl, rfl, rfl⟩
end Go.Proofs.Ytomnjbebgfadoaa.Pi
