/- The table of the program's types, as the pure interpreter reads them.
   Conditions: none; definitions and lemmas. -/
import Derived.Test.YtomnjbebgfadoaaG2
import Derived.Test.YtomnjbebgfadoaaProg
import Derived.ChangeArms
import Derived.DataReads
import Derived.ChangeOld
import Derived.Test.YtomnjbebgfadoaaRows
import Derived.WalkKit
import Derived.ProofKit
import Derived.OpenShut
import Derived.ShutString
import Derived.Below
import Derived.Carry
import Derived.SizedLaws
section
namespace Go.Proofs.Ytomnjbebgfadoaa.Pi
open Go Go.RowKit Go.Proofs

/-- int64 -/
def T2 : TI := ⟨.int .i64, 1, 8, [.int .i64 0]⟩
/-- int -/
def T3 : TI := ⟨.int .i64, 1, 8, [.int .i64 0]⟩
/-- bool -/
def T4 : TI := ⟨.bool, 1, 1, [.bool false]⟩
/-- uint8 -/
def T5 : TI := ⟨.int .u8, 1, 1, [.int .u8 0]⟩
/-- string -/
def T9 : TI := ⟨.str, 1, 16, [.str ⟨#[]⟩]⟩
/-- uintptr -/
def T12 : TI := ⟨.int .u64, 1, 8, [.int .u64 0]⟩
/-- int32 -/
def T21 : TI := ⟨.int .i32, 1, 4, [.int .i32 0]⟩
/-- []string -/
def T22 : TI := ⟨.slice 9, 1, 24, [.lst 1 []]⟩
/-- []api.Place -/
def T23 : TI := ⟨.slice 91, 1, 24, [.lst 12 []]⟩
/-- []api.Link -/
def T24 : TI := ⟨.slice 110, 1, 24, [.lst 18 []]⟩
/-- []api.Town -/
def T25 : TI := ⟨.slice 112, 1, 24, [.lst 7 []]⟩
/-- []api.Gauge -/
def T26 : TI := ⟨.slice 116, 1, 24, [.lst 5 []]⟩
/-- []api.Road -/
def T27 : TI := ⟨.slice 118, 1, 24, [.lst 7 []]⟩
/-- []api.Shelter -/
def T28 : TI := ⟨.slice 114, 1, 24, [.lst 2 []]⟩
/-- []int -/
def T29 : TI := ⟨.slice 3, 1, 24, [.lst 1 []]⟩
/-- api.Basin: Name, Owners, Cells, Places, Links, Towns, Gauges, Roads, Shelters, Room, Err -/
def T31 : TI := ⟨.struct [⟨0, 1, false, 2⟩, ⟨1, 1, false, 3⟩, ⟨2, 1, false, 0⟩, ⟨3, 1, false, 3⟩, ⟨4, 1, false, 3⟩, ⟨5, 1, false, 3⟩, ⟨6, 1, false, 3⟩, ⟨7, 1, false, 3⟩, ⟨8, 1, false, 3⟩, ⟨9, 1, false, 3⟩, ⟨10, 1, false, 0⟩], 11, 224, [.str ⟨#[]⟩, .lst 1 [], .int .i64 0, .lst 12 [], .lst 18 [], .lst 7 [], .lst 5 [], .lst 7 [], .lst 2 [], .lst 1 [], .int .i64 0]⟩
/-- []api.Right -/
def T32 : TI := ⟨.slice 49, 1, 24, [.lst 9 []]⟩
/-- []api.Grant -/
def T37 : TI := ⟨.slice 61, 1, 24, [.lst 2 []]⟩
/-- []api.Entry -/
def T40 : TI := ⟨.slice 46, 1, 24, [.lst 7 []]⟩
/-- api.Entry: Day, Known, Owner, Place, Litres, Why, Ref -/
def T46 : TI := ⟨.struct [⟨0, 1, false, 0⟩, ⟨1, 1, false, 0⟩, ⟨2, 1, false, 0⟩, ⟨3, 1, false, 0⟩, ⟨4, 1, false, 0⟩, ⟨5, 1, false, 0⟩, ⟨6, 1, false, 0⟩], 7, 56, [.int .i64 0, .int .i64 0, .int .i64 0, .int .i64 0, .int .i64 0, .int .i64 0, .int .i64 0]⟩
/-- api.Right: Id, Owner, Date, Place, Rate, From, Until, Back, BackTo -/
def T49 : TI := ⟨.struct [⟨0, 1, false, 0⟩, ⟨1, 1, false, 0⟩, ⟨2, 1, false, 0⟩, ⟨3, 1, false, 0⟩, ⟨4, 1, false, 0⟩, ⟨5, 1, false, 0⟩, ⟨6, 1, false, 0⟩, ⟨7, 1, false, 0⟩, ⟨8, 1, false, 0⟩], 9, 72, [.int .i64 0, .int .i64 0, .int .i64 0, .int .i64 0, .int .i64 0, .int .i64 0, .int .i64 0, .int .i64 0, .int .i64 0]⟩
/-- []bournelaw40.Report -/
def T51 : TI := ⟨.slice 58, 1, 24, [.lst 2 []]⟩
/-- bournelaw40.Report: Roster, Supply -/
def T58 : TI := ⟨.struct [⟨0, 1, false, 3⟩, ⟨1, 1, false, 3⟩], 2, 48, [.lst 9 [], .lst 1 []]⟩
/-- api.Grant: Right, Litres -/
def T61 : TI := ⟨.struct [⟨0, 1, false, 0⟩, ⟨1, 1, false, 0⟩], 2, 16, [.int .i64 0, .int .i64 0]⟩
/-- func(api.Basin) bool -/
def T62 : TI := ⟨.other, 1, 8, [.nil 2]⟩
/-- map[settle.triple]int -/
def T66 : TI := ⟨.map 99 3, 1, 8, [.nil 0]⟩
/-- []settle.triple -/
def T67 : TI := ⟨.slice 99, 1, 24, [.lst 3 []]⟩
/-- settle.shares: order, litres -/
def T69 : TI := ⟨.struct [⟨0, 1, false, 3⟩, ⟨1, 1, false, 3⟩], 2, 32, [.lst 3 [], .nil 0]⟩
/-- api.Errno -/
def T72 : TI := ⟨.int .i64, 1, 8, [.int .i64 0]⟩
/-- func(api.Entry) bool -/
def T79 : TI := ⟨.other, 1, 8, [.nil 2]⟩
/-- map[ledger.posting][]api.Entry -/
def T80 : TI := ⟨.map 82 40, 1, 8, [.nil 0]⟩
/-- ledger.posting: day, known -/
def T82 : TI := ⟨.struct [⟨0, 1, false, 0⟩, ⟨1, 1, false, 0⟩], 2, 16, [.int .i64 0, .int .i64 0]⟩
/-- func(int) bool -/
def T86 : TI := ⟨.other, 1, 8, [.nil 2]⟩
/-- []api.Point -/
def T88 : TI := ⟨.slice 130, 1, 24, [.lst 2 []]⟩
/-- []api.Cell -/
def T89 : TI := ⟨.slice 132, 1, 24, [.lst 2 []]⟩
/-- api.Place: Name, Kind, Office, Cap, Level, Start, Num, Den, Down, Delay, Floor, Rain -/
def T91 : TI := ⟨.struct [⟨0, 1, false, 2⟩, ⟨1, 1, false, 0⟩, ⟨2, 1, false, 0⟩, ⟨3, 1, false, 0⟩, ⟨4, 1, false, 3⟩, ⟨5, 1, false, 3⟩, ⟨6, 1, false, 0⟩, ⟨7, 1, false, 0⟩, ⟨8, 1, false, 0⟩, ⟨9, 1, false, 0⟩, ⟨10, 1, false, 0⟩, ⟨11, 1, false, 3⟩], 12, 152, [.str ⟨#[]⟩, .int .i64 0, .int .i64 0, .int .i64 0, .lst 2 [], .lst 1 [], .int .i64 0, .int .i64 0, .int .i64 0, .int .i64 0, .int .i64 0, .lst 2 []]⟩
/-- map[int]api.Right -/
def T96 : TI := ⟨.map 3 49, 1, 8, [.nil 0]⟩
/-- settle.triple: right, owner, place -/
def T99 : TI := ⟨.struct [⟨0, 1, false, 0⟩, ⟨1, 1, false, 0⟩, ⟨2, 1, false, 0⟩], 3, 24, [.int .i64 0, .int .i64 0, .int .i64 0]⟩
/-- uint64 -/
def T102 : TI := ⟨.int .u64, 1, 8, [.int .u64 0]⟩
/-- uint -/
def T105 : TI := ⟨.int .u64, 1, 8, [.int .u64 0]⟩
/-- [][]string -/
def T106 : TI := ⟨.slice 22, 1, 24, [.lst 1 []]⟩
/-- api.Band: Lo, Hi -/
def T108 : TI := ⟨.struct [⟨0, 1, false, 3⟩, ⟨1, 1, false, 3⟩], 2, 48, [.lst 2 [], .lst 2 []]⟩
/-- api.Link: Name, Kind, From, To, Rate, Band, Positions, Speed, Leak, Crest, Num, Den, Prime, Break, BackNum, BackDen, Delay -/
def T110 : TI := ⟨.struct [⟨0, 1, false, 2⟩, ⟨1, 1, false, 0⟩, ⟨2, 1, false, 0⟩, ⟨3, 1, false, 0⟩, ⟨4, 1, false, 3⟩, ⟨5, 2, true, 3⟩, ⟨7, 1, false, 0⟩, ⟨8, 1, false, 0⟩, ⟨9, 1, false, 0⟩, ⟨10, 1, false, 0⟩, ⟨11, 1, false, 0⟩, ⟨12, 1, false, 0⟩, ⟨13, 1, false, 0⟩, ⟨14, 1, false, 0⟩, ⟨15, 1, false, 0⟩, ⟨16, 1, false, 0⟩, ⟨17, 1, false, 0⟩], 18, 200, [.str ⟨#[]⟩, .int .i64 0, .int .i64 0, .int .i64 0, .lst 2 [], .lst 2 [], .lst 2 [], .int .i64 0, .int .i64 0, .int .i64 0, .int .i64 0, .int .i64 0, .int .i64 0, .int .i64 0, .int .i64 0, .int .i64 0, .int .i64 0, .int .i64 0]⟩
/-- api.Town: Name, Place, Flood, Lead, People, Watch, Quorum -/
def T112 : TI := ⟨.struct [⟨0, 1, false, 2⟩, ⟨1, 1, false, 0⟩, ⟨2, 1, false, 0⟩, ⟨3, 1, false, 0⟩, ⟨4, 1, false, 0⟩, ⟨5, 1, false, 0⟩, ⟨6, 1, false, 0⟩], 7, 64, [.str ⟨#[]⟩, .int .i64 0, .int .i64 0, .int .i64 0, .int .i64 0, .int .i64 0, .int .i64 0]⟩
/-- api.Shelter: Name, Room -/
def T114 : TI := ⟨.struct [⟨0, 1, false, 2⟩, ⟨1, 1, false, 0⟩], 2, 24, [.str ⟨#[]⟩, .int .i64 0]⟩
/-- api.Gauge: Name, Kind, Target, Err, Drift -/
def T116 : TI := ⟨.struct [⟨0, 1, false, 2⟩, ⟨1, 1, false, 0⟩, ⟨2, 1, false, 0⟩, ⟨3, 1, false, 0⟩, ⟨4, 1, false, 0⟩], 5, 48, [.str ⟨#[]⟩, .int .i64 0, .int .i64 0, .int .i64 0, .int .i64 0]⟩
/-- api.Road: Name, From, To, Hours, Flow, By, Limit -/
def T118 : TI := ⟨.struct [⟨0, 1, false, 2⟩, ⟨1, 1, false, 0⟩, ⟨2, 1, false, 0⟩, ⟨3, 1, false, 0⟩, ⟨4, 1, false, 0⟩, ⟨5, 1, false, 0⟩, ⟨6, 1, false, 0⟩], 7, 64, [.str ⟨#[]⟩, .int .i64 0, .int .i64 0, .int .i64 0, .int .i64 0, .int .i64 0, .int .i64 0]⟩
/-- func(api.Link) bool -/
def T124 : TI := ⟨.other, 1, 8, [.nil 2]⟩
/-- [][]api.Entry -/
def T127 : TI := ⟨.slice 40, 1, 24, [.lst 1 []]⟩
/-- api.Point: X, Y -/
def T130 : TI := ⟨.struct [⟨0, 1, false, 0⟩, ⟨1, 1, false, 0⟩], 2, 16, [.int .i64 0, .int .i64 0]⟩
/-- api.Cell: Index, Area -/
def T132 : TI := ⟨.struct [⟨0, 1, false, 0⟩, ⟨1, 1, false, 0⟩], 2, 16, [.int .i64 0, .int .i64 0]⟩
/-- uint32 -/
def T146 : TI := ⟨.int .u32, 1, 4, [.int .u32 0]⟩
def tys : List (Nat × TI) := [(2, T2), (3, T3), (4, T4), (5, T5), (9, T9), (12, T12), (21, T21), (22, T22), (23, T23), (24, T24), (25, T25), (26, T26), (27, T27), (28, T28), (29, T29), (31, T31), (32, T32), (37, T37), (40, T40), (46, T46), (49, T49), (51, T51), (58, T58), (61, T61), (62, T62), (66, T66), (67, T67), (69, T69), (72, T72), (79, T79), (80, T80), (82, T82), (86, T86), (88, T88), (89, T89), (91, T91), (96, T96), (99, T99), (102, T102), (105, T105), (106, T106), (108, T108), (110, T110), (112, T112), (114, T114), (116, T116), (118, T118), (124, T124), (127, T127), (130, T130), (132, T132), (146, T146)]
theorem tys_ok : (tys.all fun x => tyB Try.prog x.1 x.2) = true := by kernel_rfl
theorem mixed0 : Try.prog.follows .mixedOrders = true := by kernel_rfl
noncomputable def E0 : Env := ⟨Try.prog, 0, fun t => tys.lookup t, fun _ => none, fun _ => none, fun _ => false, fun k => k, fun _ => true⟩
theorem E0_ok : EnvOk E0 := by
  refine ⟨fun t ti h => ?_, fun f c h => by simp [E0] at h, fun f c h => by simp [E0] at h, mixed0⟩
  have hm : ∀ (l : List (Nat × TI)), l.lookup t = some ti → (t, ti) ∈ l := by
    intro l
    induction l with
    | nil => intro h; simp at h
    | cons x l ih =>
      intro h
      obtain ⟨a, b⟩ := x
      simp only [List.lookup_cons] at h
      by_cases e : t = a
      · subst e; simp at h; subst h; simp
      · have : (t == a) = false := by simpa using e
        rw [this] at h
        exact List.mem_cons_of_mem _ (ih h)
  have := List.all_eq_true.1 tys_ok _ (hm tys h)
  exact this
theorem ty2 : E0.ty 2 = some ⟨.int .i64, 1, 8, [.int .i64 0]⟩ := rfl
theorem ty3 : E0.ty 3 = some ⟨.int .i64, 1, 8, [.int .i64 0]⟩ := rfl
theorem ty4 : E0.ty 4 = some ⟨.bool, 1, 1, [.bool false]⟩ := rfl
theorem ty5 : E0.ty 5 = some ⟨.int .u8, 1, 1, [.int .u8 0]⟩ := rfl
theorem ty9 : E0.ty 9 = some ⟨.str, 1, 16, [.str ⟨#[]⟩]⟩ := rfl
theorem ty12 : E0.ty 12 = some ⟨.int .u64, 1, 8, [.int .u64 0]⟩ := rfl
theorem ty21 : E0.ty 21 = some ⟨.int .i32, 1, 4, [.int .i32 0]⟩ := rfl
theorem ty22 : E0.ty 22 = some ⟨.slice 9, 1, 24, [.lst 1 []]⟩ := rfl
theorem ty23 : E0.ty 23 = some ⟨.slice 91, 1, 24, [.lst 12 []]⟩ := rfl
theorem ty24 : E0.ty 24 = some ⟨.slice 110, 1, 24, [.lst 18 []]⟩ := rfl
theorem ty25 : E0.ty 25 = some ⟨.slice 112, 1, 24, [.lst 7 []]⟩ := rfl
theorem ty26 : E0.ty 26 = some ⟨.slice 116, 1, 24, [.lst 5 []]⟩ := rfl
theorem ty27 : E0.ty 27 = some ⟨.slice 118, 1, 24, [.lst 7 []]⟩ := rfl
theorem ty28 : E0.ty 28 = some ⟨.slice 114, 1, 24, [.lst 2 []]⟩ := rfl
theorem ty29 : E0.ty 29 = some ⟨.slice 3, 1, 24, [.lst 1 []]⟩ := rfl
theorem ty31 : E0.ty 31 = some ⟨.struct [⟨0, 1, false, 2⟩, ⟨1, 1, false, 3⟩, ⟨2, 1, false, 0⟩, ⟨3, 1, false, 3⟩, ⟨4, 1, false, 3⟩, ⟨5, 1, false, 3⟩, ⟨6, 1, false, 3⟩, ⟨7, 1, false, 3⟩, ⟨8, 1, false, 3⟩, ⟨9, 1, false, 3⟩, ⟨10, 1, false, 0⟩], 11, 224, [.str ⟨#[]⟩, .lst 1 [], .int .i64 0, .lst 12 [], .lst 18 [], .lst 7 [], .lst 5 [], .lst 7 [], .lst 2 [], .lst 1 [], .int .i64 0]⟩ := rfl
theorem ty32 : E0.ty 32 = some ⟨.slice 49, 1, 24, [.lst 9 []]⟩ := rfl
theorem ty37 : E0.ty 37 = some ⟨.slice 61, 1, 24, [.lst 2 []]⟩ := rfl
theorem ty40 : E0.ty 40 = some ⟨.slice 46, 1, 24, [.lst 7 []]⟩ := rfl
theorem ty46 : E0.ty 46 = some ⟨.struct [⟨0, 1, false, 0⟩, ⟨1, 1, false, 0⟩, ⟨2, 1, false, 0⟩, ⟨3, 1, false, 0⟩, ⟨4, 1, false, 0⟩, ⟨5, 1, false, 0⟩, ⟨6, 1, false, 0⟩], 7, 56, [.int .i64 0, .int .i64 0, .int .i64 0, .int .i64 0, .int .i64 0, .int .i64 0, .int .i64 0]⟩ := rfl
theorem ty49 : E0.ty 49 = some ⟨.struct [⟨0, 1, false, 0⟩, ⟨1, 1, false, 0⟩, ⟨2, 1, false, 0⟩, ⟨3, 1, false, 0⟩, ⟨4, 1, false, 0⟩, ⟨5, 1, false, 0⟩, ⟨6, 1, false, 0⟩, ⟨7, 1, false, 0⟩, ⟨8, 1, false, 0⟩], 9, 72, [.int .i64 0, .int .i64 0, .int .i64 0, .int .i64 0, .int .i64 0, .int .i64 0, .int .i64 0, .int .i64 0, .int .i64 0]⟩ := rfl
theorem ty51 : E0.ty 51 = some ⟨.slice 58, 1, 24, [.lst 2 []]⟩ := rfl
theorem ty58 : E0.ty 58 = some ⟨.struct [⟨0, 1, false, 3⟩, ⟨1, 1, false, 3⟩], 2, 48, [.lst 9 [], .lst 1 []]⟩ := rfl
theorem ty61 : E0.ty 61 = some ⟨.struct [⟨0, 1, false, 0⟩, ⟨1, 1, false, 0⟩], 2, 16, [.int .i64 0, .int .i64 0]⟩ := rfl
theorem ty62 : E0.ty 62 = some ⟨.other, 1, 8, [.nil 2]⟩ := rfl
theorem ty66 : E0.ty 66 = some ⟨.map 99 3, 1, 8, [.nil 0]⟩ := rfl
theorem ty67 : E0.ty 67 = some ⟨.slice 99, 1, 24, [.lst 3 []]⟩ := rfl
theorem ty69 : E0.ty 69 = some ⟨.struct [⟨0, 1, false, 3⟩, ⟨1, 1, false, 3⟩], 2, 32, [.lst 3 [], .nil 0]⟩ := rfl
theorem ty72 : E0.ty 72 = some ⟨.int .i64, 1, 8, [.int .i64 0]⟩ := rfl
theorem ty79 : E0.ty 79 = some ⟨.other, 1, 8, [.nil 2]⟩ := rfl
theorem ty80 : E0.ty 80 = some ⟨.map 82 40, 1, 8, [.nil 0]⟩ := rfl
theorem ty82 : E0.ty 82 = some ⟨.struct [⟨0, 1, false, 0⟩, ⟨1, 1, false, 0⟩], 2, 16, [.int .i64 0, .int .i64 0]⟩ := rfl
theorem ty86 : E0.ty 86 = some ⟨.other, 1, 8, [.nil 2]⟩ := rfl
theorem ty88 : E0.ty 88 = some ⟨.slice 130, 1, 24, [.lst 2 []]⟩ := rfl
theorem ty89 : E0.ty 89 = some ⟨.slice 132, 1, 24, [.lst 2 []]⟩ := rfl
theorem ty91 : E0.ty 91 = some ⟨.struct [⟨0, 1, false, 2⟩, ⟨1, 1, false, 0⟩, ⟨2, 1, false, 0⟩, ⟨3, 1, false, 0⟩, ⟨4, 1, false, 3⟩, ⟨5, 1, false, 3⟩, ⟨6, 1, false, 0⟩, ⟨7, 1, false, 0⟩, ⟨8, 1, false, 0⟩, ⟨9, 1, false, 0⟩, ⟨10, 1, false, 0⟩, ⟨11, 1, false, 3⟩], 12, 152, [.str ⟨#[]⟩, .int .i64 0, .int .i64 0, .int .i64 0, .lst 2 [], .lst 1 [], .int .i64 0, .int .i64 0, .int .i64 0, .int .i64 0, .int .i64 0, .lst 2 []]⟩ := rfl
theorem ty96 : E0.ty 96 = some ⟨.map 3 49, 1, 8, [.nil 0]⟩ := rfl
theorem ty99 : E0.ty 99 = some ⟨.struct [⟨0, 1, false, 0⟩, ⟨1, 1, false, 0⟩, ⟨2, 1, false, 0⟩], 3, 24, [.int .i64 0, .int .i64 0, .int .i64 0]⟩ := rfl
theorem ty102 : E0.ty 102 = some ⟨.int .u64, 1, 8, [.int .u64 0]⟩ := rfl
theorem ty105 : E0.ty 105 = some ⟨.int .u64, 1, 8, [.int .u64 0]⟩ := rfl
theorem ty106 : E0.ty 106 = some ⟨.slice 22, 1, 24, [.lst 1 []]⟩ := rfl
theorem ty108 : E0.ty 108 = some ⟨.struct [⟨0, 1, false, 3⟩, ⟨1, 1, false, 3⟩], 2, 48, [.lst 2 [], .lst 2 []]⟩ := rfl
theorem ty110 : E0.ty 110 = some ⟨.struct [⟨0, 1, false, 2⟩, ⟨1, 1, false, 0⟩, ⟨2, 1, false, 0⟩, ⟨3, 1, false, 0⟩, ⟨4, 1, false, 3⟩, ⟨5, 2, true, 3⟩, ⟨7, 1, false, 0⟩, ⟨8, 1, false, 0⟩, ⟨9, 1, false, 0⟩, ⟨10, 1, false, 0⟩, ⟨11, 1, false, 0⟩, ⟨12, 1, false, 0⟩, ⟨13, 1, false, 0⟩, ⟨14, 1, false, 0⟩, ⟨15, 1, false, 0⟩, ⟨16, 1, false, 0⟩, ⟨17, 1, false, 0⟩], 18, 200, [.str ⟨#[]⟩, .int .i64 0, .int .i64 0, .int .i64 0, .lst 2 [], .lst 2 [], .lst 2 [], .int .i64 0, .int .i64 0, .int .i64 0, .int .i64 0, .int .i64 0, .int .i64 0, .int .i64 0, .int .i64 0, .int .i64 0, .int .i64 0, .int .i64 0]⟩ := rfl
theorem ty112 : E0.ty 112 = some ⟨.struct [⟨0, 1, false, 2⟩, ⟨1, 1, false, 0⟩, ⟨2, 1, false, 0⟩, ⟨3, 1, false, 0⟩, ⟨4, 1, false, 0⟩, ⟨5, 1, false, 0⟩, ⟨6, 1, false, 0⟩], 7, 64, [.str ⟨#[]⟩, .int .i64 0, .int .i64 0, .int .i64 0, .int .i64 0, .int .i64 0, .int .i64 0]⟩ := rfl
theorem ty114 : E0.ty 114 = some ⟨.struct [⟨0, 1, false, 2⟩, ⟨1, 1, false, 0⟩], 2, 24, [.str ⟨#[]⟩, .int .i64 0]⟩ := rfl
theorem ty116 : E0.ty 116 = some ⟨.struct [⟨0, 1, false, 2⟩, ⟨1, 1, false, 0⟩, ⟨2, 1, false, 0⟩, ⟨3, 1, false, 0⟩, ⟨4, 1, false, 0⟩], 5, 48, [.str ⟨#[]⟩, .int .i64 0, .int .i64 0, .int .i64 0, .int .i64 0]⟩ := rfl
theorem ty118 : E0.ty 118 = some ⟨.struct [⟨0, 1, false, 2⟩, ⟨1, 1, false, 0⟩, ⟨2, 1, false, 0⟩, ⟨3, 1, false, 0⟩, ⟨4, 1, false, 0⟩, ⟨5, 1, false, 0⟩, ⟨6, 1, false, 0⟩], 7, 64, [.str ⟨#[]⟩, .int .i64 0, .int .i64 0, .int .i64 0, .int .i64 0, .int .i64 0, .int .i64 0]⟩ := rfl
theorem ty124 : E0.ty 124 = some ⟨.other, 1, 8, [.nil 2]⟩ := rfl
theorem ty127 : E0.ty 127 = some ⟨.slice 40, 1, 24, [.lst 1 []]⟩ := rfl
theorem ty130 : E0.ty 130 = some ⟨.struct [⟨0, 1, false, 0⟩, ⟨1, 1, false, 0⟩], 2, 16, [.int .i64 0, .int .i64 0]⟩ := rfl
theorem ty132 : E0.ty 132 = some ⟨.struct [⟨0, 1, false, 0⟩, ⟨1, 1, false, 0⟩], 2, 16, [.int .i64 0, .int .i64 0]⟩ := rfl
theorem ty146 : E0.ty 146 = some ⟨.int .u32, 1, 4, [.int .u32 0]⟩ := rfl
theorem ty_r : E0.ty 2 = some ⟨.int .i64, 1, 8, [.int .i64 0]⟩ ∧ E0.ty 3 = some ⟨.int .i64, 1, 8, [.int .i64 0]⟩ ∧ E0.ty 4 = some ⟨.bool, 1, 1, [.bool false]⟩ ∧ E0.ty 5 = some ⟨.int .u8, 1, 1, [.int .u8 0]⟩ ∧ E0.ty 9 = some ⟨.str, 1, 16, [.str ⟨#[]⟩]⟩ ∧ E0.ty 12 = some ⟨.int .u64, 1, 8, [.int .u64 0]⟩ ∧ E0.ty 21 = some ⟨.int .i32, 1, 4, [.int .i32 0]⟩ ∧ E0.ty 22 = some ⟨.slice 9, 1, 24, [.lst 1 []]⟩ ∧ E0.ty 23 = some ⟨.slice 91, 1, 24, [.lst 12 []]⟩ ∧ E0.ty 24 = some ⟨.slice 110, 1, 24, [.lst 18 []]⟩ ∧ E0.ty 25 = some ⟨.slice 112, 1, 24, [.lst 7 []]⟩ ∧ E0.ty 26 = some ⟨.slice 116, 1, 24, [.lst 5 []]⟩ ∧ E0.ty 27 = some ⟨.slice 118, 1, 24, [.lst 7 []]⟩ ∧ E0.ty 28 = some ⟨.slice 114, 1, 24, [.lst 2 []]⟩ ∧ E0.ty 29 = some ⟨.slice 3, 1, 24, [.lst 1 []]⟩ ∧ E0.ty 31 = some ⟨.struct [⟨0, 1, false, 2⟩, ⟨1, 1, false, 3⟩, ⟨2, 1, false, 0⟩, ⟨3, 1, false, 3⟩, ⟨4, 1, false, 3⟩, ⟨5, 1, false, 3⟩, ⟨6, 1, false, 3⟩, ⟨7, 1, false, 3⟩, ⟨8, 1, false, 3⟩, ⟨9, 1, false, 3⟩, ⟨10, 1, false, 0⟩], 11, 224, [.str ⟨#[]⟩, .lst 1 [], .int .i64 0, .lst 12 [], .lst 18 [], .lst 7 [], .lst 5 [], .lst 7 [], .lst 2 [], .lst 1 [], .int .i64 0]⟩ ∧ E0.ty 32 = some ⟨.slice 49, 1, 24, [.lst 9 []]⟩ ∧ E0.ty 37 = some ⟨.slice 61, 1, 24, [.lst 2 []]⟩ ∧ E0.ty 40 = some ⟨.slice 46, 1, 24, [.lst 7 []]⟩ ∧ E0.ty 46 = some ⟨.struct [⟨0, 1, false, 0⟩, ⟨1, 1, false, 0⟩, ⟨2, 1, false, 0⟩, ⟨3, 1, false, 0⟩, ⟨4, 1, false, 0⟩, ⟨5, 1, false, 0⟩, ⟨6, 1, false, 0⟩], 7, 56, [.int .i64 0, .int .i64 0, .int .i64 0, .int .i64 0, .int .i64 0, .int .i64 0, .int .i64 0]⟩ ∧ E0.ty 49 = some ⟨.struct [⟨0, 1, false, 0⟩, ⟨1, 1, false, 0⟩, ⟨2, 1, false, 0⟩, ⟨3, 1, false, 0⟩, ⟨4, 1, false, 0⟩, ⟨5, 1, false, 0⟩, ⟨6, 1, false, 0⟩, ⟨7, 1, false, 0⟩, ⟨8, 1, false, 0⟩], 9, 72, [.int .i64 0, .int .i64 0, .int .i64 0, .int .i64 0, .int .i64 0, .int .i64 0, .int .i64 0, .int .i64 0, .int .i64 0]⟩ ∧ E0.ty 51 = some ⟨.slice 58, 1, 24, [.lst 2 []]⟩ ∧ E0.ty 58 = some ⟨.struct [⟨0, 1, false, 3⟩, ⟨1, 1, false, 3⟩], 2, 48, [.lst 9 [], .lst 1 []]⟩ ∧ E0.ty 61 = some ⟨.struct [⟨0, 1, false, 0⟩, ⟨1, 1, false, 0⟩], 2, 16, [.int .i64 0, .int .i64 0]⟩ ∧ E0.ty 62 = some ⟨.other, 1, 8, [.nil 2]⟩ ∧ E0.ty 66 = some ⟨.map 99 3, 1, 8, [.nil 0]⟩ ∧ E0.ty 67 = some ⟨.slice 99, 1, 24, [.lst 3 []]⟩ ∧ E0.ty 69 = some ⟨.struct [⟨0, 1, false, 3⟩, ⟨1, 1, false, 3⟩], 2, 32, [.lst 3 [], .nil 0]⟩ ∧ E0.ty 72 = some ⟨.int .i64, 1, 8, [.int .i64 0]⟩ ∧ E0.ty 79 = some ⟨.other, 1, 8, [.nil 2]⟩ ∧ E0.ty 80 = some ⟨.map 82 40, 1, 8, [.nil 0]⟩ ∧ E0.ty 82 = some ⟨.struct [⟨0, 1, false, 0⟩, ⟨1, 1, false, 0⟩], 2, 16, [.int .i64 0, .int .i64 0]⟩ ∧ E0.ty 86 = some ⟨.other, 1, 8, [.nil 2]⟩ ∧ E0.ty 88 = some ⟨.slice 130, 1, 24, [.lst 2 []]⟩ ∧ E0.ty 89 = some ⟨.slice 132, 1, 24, [.lst 2 []]⟩ ∧ E0.ty 91 = some ⟨.struct [⟨0, 1, false, 2⟩, ⟨1, 1, false, 0⟩, ⟨2, 1, false, 0⟩, ⟨3, 1, false, 0⟩, ⟨4, 1, false, 3⟩, ⟨5, 1, false, 3⟩, ⟨6, 1, false, 0⟩, ⟨7, 1, false, 0⟩, ⟨8, 1, false, 0⟩, ⟨9, 1, false, 0⟩, ⟨10, 1, false, 0⟩, ⟨11, 1, false, 3⟩], 12, 152, [.str ⟨#[]⟩, .int .i64 0, .int .i64 0, .int .i64 0, .lst 2 [], .lst 1 [], .int .i64 0, .int .i64 0, .int .i64 0, .int .i64 0, .int .i64 0, .lst 2 []]⟩ ∧ E0.ty 96 = some ⟨.map 3 49, 1, 8, [.nil 0]⟩ ∧ E0.ty 99 = some ⟨.struct [⟨0, 1, false, 0⟩, ⟨1, 1, false, 0⟩, ⟨2, 1, false, 0⟩], 3, 24, [.int .i64 0, .int .i64 0, .int .i64 0]⟩ ∧ E0.ty 102 = some ⟨.int .u64, 1, 8, [.int .u64 0]⟩ ∧ E0.ty 105 = some ⟨.int .u64, 1, 8, [.int .u64 0]⟩ ∧ E0.ty 106 = some ⟨.slice 22, 1, 24, [.lst 1 []]⟩ ∧ E0.ty 108 = some ⟨.struct [⟨0, 1, false, 3⟩, ⟨1, 1, false, 3⟩], 2, 48, [.lst 2 [], .lst 2 []]⟩ ∧ E0.ty 110 = some ⟨.struct [⟨0, 1, false, 2⟩, ⟨1, 1, false, 0⟩, ⟨2, 1, false, 0⟩, ⟨3, 1, false, 0⟩, ⟨4, 1, false, 3⟩, ⟨5, 2, true, 3⟩, ⟨7, 1, false, 0⟩, ⟨8, 1, false, 0⟩, ⟨9, 1, false, 0⟩, ⟨10, 1, false, 0⟩, ⟨11, 1, false, 0⟩, ⟨12, 1, false, 0⟩, ⟨13, 1, false, 0⟩, ⟨14, 1, false, 0⟩, ⟨15, 1, false, 0⟩, ⟨16, 1, false, 0⟩, ⟨17, 1, false, 0⟩], 18, 200, [.str ⟨#[]⟩, .int .i64 0, .int .i64 0, .int .i64 0, .lst 2 [], .lst 2 [], .lst 2 [], .int .i64 0, .int .i64 0, .int .i64 0, .int .i64 0, .int .i64 0, .int .i64 0, .int .i64 0, .int .i64 0, .int .i64 0, .int .i64 0, .int .i64 0]⟩ ∧ E0.ty 112 = some ⟨.struct [⟨0, 1, false, 2⟩, ⟨1, 1, false, 0⟩, ⟨2, 1, false, 0⟩, ⟨3, 1, false, 0⟩, ⟨4, 1, false, 0⟩, ⟨5, 1, false, 0⟩, ⟨6, 1, false, 0⟩], 7, 64, [.str ⟨#[]⟩, .int .i64 0, .int .i64 0, .int .i64 0, .int .i64 0, .int .i64 0, .int .i64 0]⟩ ∧ E0.ty 114 = some ⟨.struct [⟨0, 1, false, 2⟩, ⟨1, 1, false, 0⟩], 2, 24, [.str ⟨#[]⟩, .int .i64 0]⟩ ∧ E0.ty 116 = some ⟨.struct [⟨0, 1, false, 2⟩, ⟨1, 1, false, 0⟩, ⟨2, 1, false, 0⟩, ⟨3, 1, false, 0⟩, ⟨4, 1, false, 0⟩], 5, 48, [.str ⟨#[]⟩, .int .i64 0, .int .i64 0, .int .i64 0, .int .i64 0]⟩ ∧ E0.ty 118 = some ⟨.struct [⟨0, 1, false, 2⟩, ⟨1, 1, false, 0⟩, ⟨2, 1, false, 0⟩, ⟨3, 1, false, 0⟩, ⟨4, 1, false, 0⟩, ⟨5, 1, false, 0⟩, ⟨6, 1, false, 0⟩], 7, 64, [.str ⟨#[]⟩, .int .i64 0, .int .i64 0, .int .i64 0, .int .i64 0, .int .i64 0, .int .i64 0]⟩ ∧ E0.ty 124 = some ⟨.other, 1, 8, [.nil 2]⟩ ∧ E0.ty 127 = some ⟨.slice 40, 1, 24, [.lst 1 []]⟩ ∧ E0.ty 130 = some ⟨.struct [⟨0, 1, false, 0⟩, ⟨1, 1, false, 0⟩], 2, 16, [.int .i64 0, .int .i64 0]⟩ ∧ E0.ty 132 = some ⟨.struct [⟨0, 1, false, 0⟩, ⟨1, 1, false, 0⟩], 2, 16, [.int .i64 0, .int .i64 0]⟩ ∧ E0.ty 146 = some ⟨.int .u32, 1, 4, [.int .u32 0]⟩ := ⟨rfl, rfl, rfl, rfl, rfl, rfl, rfl, rfl, rfl, rfl, rfl, rfl, rfl, rfl, rfl, rfl, rfl, rfl, rfl, rfl, rfl, rfl, rfl, rfl, rfl, rfl, rfl, rfl, rfl, rfl, rfl, rfl, rfl, rfl, rfl, rfl, rfl, rfl, rfl, rfl, rfl, rfl, rfl, rfl, rfl, rfl, rfl, rfl, rfl, rfl, rfl, rfl⟩
end Go.Proofs.Ytomnjbebgfadoaa.Pi
end
section
/- Rules by which walks are carried out.
   Conditions: none; definitions and lemmas. -/
set_option linter.unusedVariables false
set_option linter.unusedSimpArgs false
namespace Go.Proofs.Ytomnjbebgfadoaa.Pi
open Go Go.RowKit

/-! ### 21. Rules -/
def runOne (r : Option SR) (d : Option Nat) (S : St) (K : St → Prop) : Prop := match r with
  | some r => r.vc ∧ ∀ p o', r.post p o' → K (S.after d p o')
  | none => False
/-- The operations of a region from one on. -/
def opsK (E : Env) (ops : Array Oper) : List Oper → (PEx → St → Prop) → St → Prop
  | [], Q, S => Q .normal S
  | o :: rest, Q, S => runOne (rep E ops S o) o.dst S (opsK E ops rest Q)
def seqK (K : St → Prop) (Q : PEx → St → Prop) : PEx → St → Prop
  | .normal, S => K S
  | e, S => Q e S
def blkK (id : Nat) (Q : PEx → St → Prop) : PEx → St → Prop
  | .exit id', S => if id' = id then Q .normal S else Q (.exit id') S
  | e, S => Q e S
def condK (Kx Ky : St → Prop) (S : St) : PV → Prop
  | .d (.bool t) => (t = true → Kx S) ∧ (t = false → Ky S)
  | .opt g p => g = true ∧ condK Kx Ky S p
  | _ => False
/-- A walk, for simplification: the loops are left. -/
def run (E : Env) : Code → (PEx → St → Prop) → St → Prop
  | .skip, Q, S => Q .normal S
  | .region _ ops _, Q, S => opsK E ops ops.toList Q S
  | .seq x y, Q, S => run E x (seqK (run E y Q) Q) S
  | .cond c x y, Q, S => condK (run E x Q) (run E y Q) S (S.ev c)
  | .block id x, Q, S => run E x (blkK id Q) S
  | .loop x, Q, S => pwp E (.loop x) Q S
  | .exit id, Q, S => Q (.exit id) S
  | .ret, Q, S => Q .ret S
  | _, _, _ => False

section
variable {E : Env}
theorem runOne_some {vc : Prop} {post : PV → Objs → Prop} {d : Option Nat} {S : St} {K : St → Prop} : runOne (some ⟨vc, post⟩) d S K = (vc ∧ ∀ p o', post p o' → K (S.after d p o')) := rfl
theorem popOne_eq {ops : Array Oper} {i : Nat} {o : Oper} (h : ops[i]? = some o) {S : St} {K : St → Prop} : popOne E ops i S K ↔ runOne (rep E ops S o) o.dst S K := by
  unfold popOne runOne
  rw [h]
  constructor
  · rintro ⟨r, h2, h3, h4⟩; rw [h2]; exact ⟨h3, h4⟩
  · intro h2
    cases hr : rep E ops S o with
    | none => rw [hr] at h2; exact h2.elim
    | some r => rw [hr] at h2; exact ⟨r, hr, h2.1, h2.2⟩
theorem popsL_ops {ops : Array Oper} {Q : PEx → St → Prop} : ∀ (rest : List Oper) (k : Nat) (S : St), (∀ j o, rest[j]? = some o → ops[k + j]? = some o) → opsK E ops rest Q S → popsL E ops (List.range' k rest.length) S (Q .normal)
  | [], k, S, _, h => by simpa [opsK, popsL] using h
  | o :: rest, k, S, hr, h => by
    simp only [opsK] at h
    simp only [List.length_cons, List.range'_succ, popsL]
    rw [popOne_eq (o := o) (by simpa using hr 0 o (by simp))]
    have h2 := h
    unfold runOne at h2 ⊢
    split
    · rename_i r e
      rw [e] at h2
      refine ⟨h2.1, fun p o' hp => popsL_ops rest (k + 1) _ (fun j o'' hj => ?_) (h2.2 p o' hp)⟩
      have := hr (j + 1) o'' (by simpa using hj)
      rwa [show k + (j + 1) = k + 1 + j by omega] at this
    · rename_i e; rw [e] at h2; exact h2
theorem condK_spec {Kx Ky : St → Prop} {S : St} : ∀ {p : PV}, condK Kx Ky S p → ∃ t, strip p = .d (.bool t) ∧ stripC p ∧ (t = true → Kx S) ∧ (t = false → Ky S)
  | .d (.bool t), h => ⟨t, rfl, trivial, h⟩
  | .opt g p, h => by
    obtain ⟨t, h1, h2, h3⟩ := condK_spec h.2
    exact ⟨t, h1, ⟨h.1, h2⟩, h3⟩
  | .un, h => h.elim
  | .nils, h => h.elim
  | .ref .., h => h.elim
  | .row .., h => h.elim
  | .map .., h => h.elim
  | .fn .., h => h.elim
  | .agg .., h => h.elim
  | .tup .., h => h.elim
  | .clip .., h => h.elim
  | .sub .., h => h.elim
  | .d (.int ..), h => h.elim
  | .d (.str ..), h => h.elim
  | .d (.lst ..), h => h.elim
  | .d (.agg ..), h => h.elim
  | .d (.ptr ..), h => h.elim
  | .d (.fn ..), h => h.elim
/-- Weaker ends. -/
theorem popsL_mono' {ops : Array Oper} {Q Q' : St → Prop} (hq : ∀ S, Q S → Q' S) {l : List Nat} {S : St} (h : popsL E ops l S Q) : popsL E ops l S Q' := popsL_mono hq h
theorem pwp_mono : ∀ (c : Code) {Q Q' : PEx → St → Prop} {S : St}, (∀ e S, Q e S → Q' e S) → pwp E c Q S → pwp E c Q' S
  | .skip, Q, Q', S, hq, h => hq _ _ h
  | .region id ops draw, Q, Q', S, hq, h => by simp only [pwp] at h ⊢; exact popsL_mono (hq .normal) h
  | .seq x y, Q, Q', S, hq, h => by
    simp only [pwp] at h ⊢
    refine pwp_mono x (fun e S' h' => ?_) h
    cases e with
    | normal => exact pwp_mono y hq h'
    | exit id => exact hq _ _ h'
    | ret => exact hq _ _ h'
  | .cond c x y, Q, Q', S, hq, h => by
    simp only [pwp] at h ⊢
    obtain ⟨t, h1, h2, h3, h4⟩ := h
    exact ⟨t, h1, h2, fun ht => pwp_mono x hq (h3 ht), fun ht => pwp_mono y hq (h4 ht)⟩
  | .block id x, Q, Q', S, hq, h => by
    simp only [pwp] at h ⊢
    refine pwp_mono x (fun e S' h' => ?_) h
    cases e with
    | normal => exact hq _ _ h'
    | ret => exact hq _ _ h'
    | exit id' =>
      simp only [inBlockP] at h' ⊢
      split
      · rename_i e; rw [if_pos e] at h'; exact hq _ _ h'
      · rename_i e; rw [if_neg e] at h'; exact hq _ _ h'
  | .loop x, Q, Q', S, hq, h => by
    simp only [pwp] at h ⊢
    obtain ⟨I, h0, h1⟩ := h
    refine ⟨I, h0, fun n S' hI => pwp_mono x (fun e S' h' => ?_) (h1 n S' hI)⟩
    cases e with
    | normal => exact h'
    | exit id => exact hq _ _ h'
    | ret => exact hq _ _ h'
  | .exit id, Q, Q', S, hq, h => hq _ _ h
  | .ret, Q, Q', S, hq, h => hq _ _ h
  | .label _, _, _, _, _, h => by simp [pwp] at h
  | .goto _, _, _, _, _, h => by simp [pwp] at h
  | .rangeFunc .., _, _, _, _, h => by simp [pwp] at h
  | .scope _, _, _, _, _, h => by simp [pwp] at h
  | .refuse _, _, _, _, _, h => by simp [pwp] at h
theorem pwp_of_run : ∀ (c : Code) {Q : PEx → St → Prop} {S : St}, run E c Q S → pwp E c Q S
  | .skip, Q, S, h => h
  | .region id ops draw, Q, S, h => by
    simp only [run] at h
    simp only [pwp]
    have := popsL_ops (E := E) (ops := ops) (Q := Q) ops.toList 0 S (fun j o hj => by simpa using hj) h
    rwa [← List.range_eq_range', Array.length_toList] at this
  | .seq x y, Q, S, h => by
    simp only [run] at h
    simp only [pwp]
    refine pwp_mono x (fun e S' h' => ?_) (pwp_of_run x h)
    cases e with
    | normal => exact pwp_of_run y h'
    | exit id => exact h'
    | ret => exact h'
  | .cond c x y, Q, S, h => by
    simp only [run] at h
    simp only [pwp]
    obtain ⟨t, h1, h2, h3, h4⟩ := condK_spec h
    exact ⟨t, h1, h2, fun ht => pwp_of_run x (h3 ht), fun ht => pwp_of_run y (h4 ht)⟩
  | .block id x, Q, S, h => by
    simp only [run] at h
    simp only [pwp]
    refine pwp_mono x (fun e S' h' => ?_) (pwp_of_run x h)
    cases e with
    | normal => exact h'
    | exit id => exact h'
    | ret => exact h'
  | .loop x, Q, S, h => h
  | .exit id, Q, S, h => h
  | .ret, Q, S, h => h
  | .label _, _, _, h => by simp [run] at h
  | .goto _, _, _, h => by simp [run] at h
  | .rangeFunc .., _, _, h => by simp [run] at h
  | .scope _, _, _, h => by simp [run] at h
  | .refuse _, _, _, h => by simp [run] at h
def loopK (n : Nat) (I : Nat → St → Prop) (Q : PEx → St → Prop) : PEx → St → Prop
  | .normal, S => ∃ S0, Ghost S S0 ∧ ∃ m, m < n ∧ I m S0
  | e, S => Q e S
theorem pwp_loopG {x : Code} {Q : PEx → St → Prop} {S : St} (I : Nat → St → Prop) (S0 : St) (hg : Ghost S S0) (n : Nat) (h0 : I n S0) (h : ∀ n S', I n S' → run E x (loopK n I Q) S') : pwp E (.loop x) Q S := by
  simp only [pwp]
  refine ⟨I, ⟨S0, hg, n, h0⟩, fun n S' hI => ?_⟩
  have : thenP (fun S'' => ∃ S0, Ghost S'' S0 ∧ ∃ m, m < n ∧ I m S0) Q = loopK n I Q := by funext e S; cases e <;> rfl
  rw [this]; exact pwp_of_run x (h n S' hI)
theorem pwp_loop {x : Code} {Q : PEx → St → Prop} {S : St} (I : Nat → St → Prop) (n : Nat) (h0 : I n S) (h : ∀ n S', I n S' → run E x (loopK n I Q) S') : pwp E (.loop x) Q S := pwp_loopG I S (.refl S) n h0 h
theorem ghost_id {S : St} {P : St → Prop} (h : P S) : ∃ S0, Ghost S S0 ∧ P S0 := ⟨S, .refl S, h⟩
/-- A cut: what holds behind a part, whichever way it ends. -/
theorem run_cut {x : Code} {Q : PEx → St → Prop} {S : St} (M : PEx → St → Prop) (h : run E x M S) (hm : ∀ e S', M e S' → Q e S') : pwp E x Q S := pwp_mono x hm (pwp_of_run x h)
end
end Go.Proofs.Ytomnjbebgfadoaa.Pi
end
section
/- Equations by which walks are simplified.
   Conditions: none; lemmas. -/
set_option linter.unusedVariables false
set_option linter.unusedSimpArgs false
namespace Go.Proofs.Ytomnjbebgfadoaa.Pi
open Go Go.RowKit

section
variable (E : Env) (f g n : Nat) (c : Con) (ic : ICon) (own : Nat → Bool) (key : Nat → Nat) (fact : Nat → Bool)
theorem at_ty : (E.at n own key fact).ty = E.ty := rfl
theorem at_con : (E.at n own key fact).con = E.con := rfl
theorem at_icon : (E.at n own key fact).icon = E.icon := rfl
theorem at_own : (E.at n own key fact).own = own := rfl
theorem at_key : (E.at n own key fact).key = key := rfl
theorem at_n : (E.at n own key fact).n = n := rfl
theorem add_ty : (E.add f c).ty = E.ty := rfl
theorem add_con : (E.add f c).con g = if g = f then some c else E.con g := rfl
theorem add_icon : (E.add f c).icon = E.icon := rfl
theorem iadd_ty : (E.iadd f ic).ty = E.ty := rfl
theorem iadd_con : (E.iadd f ic).con = E.con := rfl
theorem iadd_icon : (E.iadd f ic).icon g = if g = f then some ic else E.icon g := rfl
end
def upd (t : Nat → PV) (d : Nat) (p : PV) : Nat → PV := fun k => if k = d then p else t k
theorem upd_apply (t : Nat → PV) (d : Nat) (p : PV) (k : Nat) : upd t d p k = if k = d then p else t k := rfl
def startL : Nat → List PV → Nat → PV
  | _, [] => fun _ => .un
  | k, p :: ps => upd (startL (k + 1) ps) k p
section
variable (S : St) (d k : Nat) (p : PV) (o' : Objs)
theorem after_some : S.after (some d) p o' = ⟨upd S.t d p, o'⟩ := rfl
theorem after_none : S.after none p o' = ⟨S.t, o'⟩ := rfl
theorem ev_tmp : S.ev (.tmp k) = S.t k := rfl
theorem ev_int (kk : IntKind) (m : Int) : S.ev (.const (.int kk m)) = .d (.int kk m) := rfl
theorem ev_bool (b : Bool) : S.ev (.const (.bool b)) = .d (.bool b) := rfl
theorem ev_str (b : ByteArray) : S.ev (.const (.string b)) = if b.size ≤ maxLen then .d (.str b) else .un := rfl
theorem ev_nils : S.ev (.const (.slice none 0 0)) = .nils := rfl
theorem ev_func : S.ev (.func k) = .d (.fn k []) := rfl
end
theorem imp_eq {α : Sort _} {a : α} {P : α → Prop} : (∀ x, x = a → P x) = P a := by
  apply propext; constructor
  · intro h; exact h a rfl
  · rintro h x rfl; exact h
theorem post_eq {a : PV} {b : Objs} {K : PV → Objs → Prop} : (∀ p o', (p = a ∧ o' = b) → K p o') = K a b := by
  apply propext; constructor
  · intro h; exact h a b ⟨rfl, rfl⟩
  · rintro h p o' ⟨rfl, rfl⟩; exact h
theorem post_ex {R : List RV → Prop} {a : List RV → PV} {b : List RV → Objs} {K : PV → Objs → Prop} : (∀ p o', (∃ rs, R rs ∧ p = a rs ∧ o' = b rs) → K p o') = ∀ rs, R rs → K (a rs) (b rs) := by
  apply propext; constructor
  · intro h rs hr; exact h _ _ ⟨rs, hr, rfl, rfl⟩
  · rintro h p o' ⟨rs, hr, rfl, rfl⟩; exact h rs hr
theorem startL_apply : ∀ (ps : List PV) (k n : Nat), k ≤ n → startL k ps n = ps.getD (n - k) .un
  | [], k, n, h => by simp [startL]
  | p :: ps, k, n, h => by
    simp only [startL, upd]
    split
    · rename_i e; subst e; simp
    · rename_i e
      rw [startL_apply ps (k + 1) n (by omega)]
      obtain ⟨m, hm⟩ : ∃ m, n - k = m + 1 := ⟨n - k - 1, by omega⟩
      rw [hm, show n - (k + 1) = m by omega]
      simp
theorem startP_eq (ps : List PV) (o : Objs) : startP ps o = ⟨startL 0 ps, o⟩ := by
  unfold startP
  congr 1
  funext k
  rw [startL_apply ps 0 k (Nat.zero_le k)]
  simp
section
variable {E : Env} {Q : PEx → St → Prop} {S : St}
theorem run_skip : run E .skip Q S = Q .normal S := rfl
theorem run_region {id : Nat} {ops : Array Oper} {draw : Bool} : run E (.region id ops draw) Q S = opsK E ops ops.toList Q S := rfl
theorem run_seq {x y : Code} : run E (.seq x y) Q S = run E x (seqK (run E y Q) Q) S := rfl
theorem run_cond {c : Operand} {x y : Code} : run E (.cond c x y) Q S = condK (run E x Q) (run E y Q) S (S.ev c) := rfl
theorem run_block {id : Nat} {x : Code} : run E (.block id x) Q S = run E x (blkK id Q) S := rfl
theorem run_exit {id : Nat} : run E (.exit id) Q S = Q (.exit id) S := rfl
theorem run_ret : run E .ret Q S = Q .ret S := rfl
theorem run_loop {x : Code} : run E (.loop x) Q S = pwp E (.loop x) Q S := rfl
theorem opsK_nil {ops : Array Oper} : opsK E ops [] Q S = Q .normal S := rfl
theorem opsK_cons {ops : Array Oper} {o : Oper} {rest : List Oper} : opsK E ops (o :: rest) Q S = runOne (rep E ops S o) o.dst S (opsK E ops rest Q) := rfl
theorem seqK_normal {K : St → Prop} : seqK K Q .normal S = K S := rfl
theorem seqK_exit {K : St → Prop} {id : Nat} : seqK K Q (.exit id) S = Q (.exit id) S := rfl
theorem seqK_ret {K : St → Prop} : seqK K Q .ret S = Q .ret S := rfl
theorem blkK_normal {id : Nat} : blkK id Q .normal S = Q .normal S := rfl
theorem blkK_exit {id id' : Nat} : blkK id Q (.exit id') S = if id' = id then Q .normal S else Q (.exit id') S := rfl
theorem blkK_ret {id : Nat} : blkK id Q .ret S = Q .ret S := rfl
theorem loopK_normal {n : Nat} {I : Nat → St → Prop} : loopK n I Q .normal S = ∃ S0, Ghost S S0 ∧ ∃ m, m < n ∧ I m S0 := rfl
theorem loopK_exit {n : Nat} {I : Nat → St → Prop} {id : Nat} : loopK n I Q (.exit id) S = Q (.exit id) S := rfl
theorem loopK_ret {n : Nat} {I : Nat → St → Prop} : loopK n I Q .ret S = Q .ret S := rfl
theorem endP_ret {R : St → Prop} : endP R .ret S = R S := rfl
theorem endP_normal {R : St → Prop} : endP R .normal S = R S := rfl
theorem condK_bool {Kx Ky : St → Prop} {t : Bool} : condK Kx Ky S (.d (.bool t)) = ((t = true → Kx S) ∧ (t = false → Ky S)) := rfl
theorem condK_opt {Kx Ky : St → Prop} {g : Bool} {p : PV} : condK Kx Ky S (.opt g p) = (g = true ∧ condK Kx Ky S p) := rfl
end
/-! ### 22. How a walk ends, for simplification -/
def outL (E : Env) (S : St) (ms : List RM) (ps : List PV) (post : List RV → Prop) : Option (List RV) → Prop
  | some rvs => sepB S ms ps = true ∧ post rvs
  | none => False
def outM (E : Env) (S : St) (ms : List RM) (post : List RV → Prop) : Option (Prop × List PV) → Prop
  | some x => x.1 ∧ outL E S ms x.2 post (rvsOf E S ms x.2)
  | none => False
def outK (E : Env) (ms : List RM) (rs : List ResultVar) (post : List RV → Prop) (S : St) : Prop := outM E S ms post (resPs E S rs)
theorem outRes_of {E : Env} {ms : List RM} {rs : List ResultVar} {post : List RV → Prop} {S : St} (h : outK E ms rs post S) : outRes E ms rs post S := by
  unfold outK outM at h
  split at h
  · rename_i x hx
    obtain ⟨h1, h2⟩ := h
    unfold outL at h2
    split at h2
    · rename_i rvs hr
      exact ⟨x, hx, h1, rvs, hr, h2.1, h2.2⟩
    · exact h2.elim
  · exact h.elim
def ioutM (S : St) (post : Objs → PV → Prop) : Option (Prop × List PV) → Prop
  | some x => x.1 ∧ post S.o (packP x.2)
  | none => False
def ioutK (E : Env) (rs : List ResultVar) (post : Objs → PV → Prop) (S : St) : Prop := ioutM S post (resPs E S rs)
theorem ioutRes_of {E : Env} {rs : List ResultVar} {post : Objs → PV → Prop} {S : St} (h : ioutK E rs post S) : ∃ x, resPs E S rs = some x ∧ x.1 ∧ post S.o (packP x.2) := by
  unfold ioutK ioutM at h
  split at h
  · rename_i x hx; exact ⟨x, hx, h⟩
  · exact h.elim
theorem endP_mono {R R' : St → Prop} (h : ∀ S, R S → R' S) : ∀ e S, endP R e S → endP R' e S := by
  intro e S he
  cases e <;> first | exact h _ he | exact he

/-- A contract out of a walk by rules. -/
theorem con_of_run {E : Env} (hE : EnvOk E) {f : Nat} {fn : Func} {c : Code} (hf : E.P.funcs[f]? = some fn) (hb : fn.body = some c) (hn : E.n ≤ fn.ntmps) (hco : codeOk E c = true) {con : Con} {rs : List ResultVar} (hrs : fn.results = rs.toArray) (hl : rs.length ≤ 3)
    (hq3 : rs.length = 3 → rs.all (fun r => match r with | .tmp _ => true | _ => false) = true) (ms : List RM)
    (hsome : ∀ ds, con.pre ds → ∃ r, con.post ds r) (hflat : con.flat = true → ∀ ds r, con.post ds r → ∀ x ∈ r, RV.flat x = true)
    (h : ∀ ds, con.pre ds → run E c (endP (outK E ms rs (con.post ds))) (startP (ds.map .d) noObs)) : ConOk E.P f con :=
  con_of_pwp hE hf hb hn hco hrs hl hq3 ms hsome hflat fun ds hd => pwp_mono c (endP_mono fun S => outRes_of) (pwp_of_run c (h ds hd))
theorem icon_of_run {E : Env} (hE : EnvOk E) {f : Nat} {fn : Func} {c : Code} (hf : E.P.funcs[f]? = some fn) (hb : fn.body = some c) (hn : E.n ≤ fn.ntmps) (hco : codeOk E c = true) {con : ICon} {rs : List ResultVar} (hrs : fn.results = rs.toArray) (hl : rs.length ≤ 3)
    (hq3 : rs.length = 3 → rs.all (fun r => match r with | .tmp _ => true | _ => false) = true)
    (hsome : ∀ o ps, con.pre o ps → ∃ o' p, con.post o ps o' p)
    (h : ∀ o ps, con.pre o ps → run E c (endP (ioutK E rs (con.post o ps))) (startP ps o)) : IConOk E.P f con :=
  icon_of_pwp hE hf hb hn hco hrs hl hq3 hsome fun o ps hp => pwp_mono c (endP_mono fun S => ioutRes_of) (pwp_of_run c (h o ps hp))
/-! ### 23. The rules in one -/
theorem bin_add (E : Env) (k : IntKind) (t : Nat) (a b : Int) : binV E .add t (.d (.int k a)) (.d (.int k b)) = some (True, .d (.int k (k.wrap (a + b)))) := by simp [binV, ibin, wint]
theorem bin_sub (E : Env) (k : IntKind) (t : Nat) (a b : Int) : binV E .sub t (.d (.int k a)) (.d (.int k b)) = some (True, .d (.int k (k.wrap (a - b)))) := by simp [binV, ibin, wint]
theorem bin_mul (E : Env) (k : IntKind) (t : Nat) (a b : Int) : binV E .mul t (.d (.int k a)) (.d (.int k b)) = some (True, .d (.int k (k.wrap (a * b)))) := by simp [binV, ibin, wint]
theorem bin_quo (E : Env) (k : IntKind) (t : Nat) (a b : Int) : binV E .quo t (.d (.int k a)) (.d (.int k b)) = some (b ≠ 0, .d (.int k (k.wrap (a.tdiv b)))) := by simp [binV, ibin, wint]
theorem bin_rem (E : Env) (k : IntKind) (t : Nat) (a b : Int) : binV E .rem t (.d (.int k a)) (.d (.int k b)) = some (b ≠ 0, .d (.int k (a.tmod b))) := by simp [binV, ibin, wint]
theorem bin_eql (E : Env) (k : IntKind) (t : Nat) (a b : Int) : binV E .eql t (.d (.int k a)) (.d (.int k b)) = some (True, .d (.bool (a == b))) := by simp [binV, ibin]
theorem bin_neq (E : Env) (k : IntKind) (t : Nat) (a b : Int) : binV E .neq t (.d (.int k a)) (.d (.int k b)) = some (True, .d (.bool (a != b))) := by simp [binV, ibin]
theorem bin_lss (E : Env) (k : IntKind) (t : Nat) (a b : Int) : binV E .lss t (.d (.int k a)) (.d (.int k b)) = some (True, .d (.bool (decide (a < b)))) := by simp [binV, ibin]
theorem bin_leq (E : Env) (k : IntKind) (t : Nat) (a b : Int) : binV E .leq t (.d (.int k a)) (.d (.int k b)) = some (True, .d (.bool (decide (a ≤ b)))) := by simp [binV, ibin]
theorem bin_gtr (E : Env) (k : IntKind) (t : Nat) (a b : Int) : binV E .gtr t (.d (.int k a)) (.d (.int k b)) = some (True, .d (.bool (decide (a > b)))) := by simp [binV, ibin]
theorem bin_geq (E : Env) (k : IntKind) (t : Nat) (a b : Int) : binV E .geq t (.d (.int k a)) (.d (.int k b)) = some (True, .d (.bool (decide (a ≥ b)))) := by simp [binV, ibin]
theorem bin_and (E : Env) (k : IntKind) (t : Nat) (a b : Int) : binV E .and t (.d (.int k a)) (.d (.int k b)) = some (True, .d (.int k (k.wrap ((BitVec.ofInt k.bits a &&& BitVec.ofInt k.bits b).toNat)))) := by simp [binV, ibin, wint]
theorem bin_or (E : Env) (k : IntKind) (t : Nat) (a b : Int) : binV E .or t (.d (.int k a)) (.d (.int k b)) = some (True, .d (.int k (k.wrap ((BitVec.ofInt k.bits a ||| BitVec.ofInt k.bits b).toNat)))) := by simp [binV, ibin, wint]
theorem bin_xor (E : Env) (k : IntKind) (t : Nat) (a b : Int) : binV E .xor t (.d (.int k a)) (.d (.int k b)) = some (True, .d (.int k (k.wrap ((BitVec.ofInt k.bits a ^^^ BitVec.ofInt k.bits b).toNat)))) := by simp [binV, ibin, wint]
theorem bin_shl (E : Env) (k k' : IntKind) (t : Nat) (a b : Int) : binV E .shl t (.d (.int k a)) (.d (.int k' b)) = some (0 ≤ b, .d (.int k (k.wrap (a * 2 ^ (min b.toNat k.bits))))) := by simp [binV, ibin, wint]
theorem bin_shr (E : Env) (k k' : IntKind) (t : Nat) (a b : Int) : binV E .shr t (.d (.int k a)) (.d (.int k' b)) = some (0 ≤ b, .d (.int k (a.fdiv (2 ^ (min b.toNat k.bits))))) := by simp [binV, ibin]
theorem bin_str (E : Env) (op : BinOp) (t : Nat) (x y : ByteArray) : binV E op t (.d (.str x)) (.d (.str y)) = sbin op x y := rfl
theorem bin_bool (E : Env) (op : BinOp) (t : Nat) (x y : Bool) : binV E op t (.d (.bool x)) (.d (.bool y)) = (match op, E.tk t with
    | .eql, some .bool => some (True, .d (.bool (x == y)))
    | .neq, some .bool => some (True, .d (.bool !(x == y)))
    | _, _ => none) := rfl
theorem bin_agg (E : Env) (op : BinOp) (t : Nat) (xs ys : List D) : binV E op t (.d (.agg xs)) (.d (.agg ys)) = (match E.tk t with
    | some (.struct fs) => if oneCells fs 0 xs = true then
        match op, deqs xs ys with
        | .eql, some b => some (True, .d (.bool b))
        | .neq, some b => some (True, .d (.bool !b))
        | _, _ => none
      else none
    | _ => none) := rfl
theorem bin_lnil (E : Env) (t sz : Nat) (xs : List (List D)) : binV E .eql t (.d (.lst sz xs)) .nils = (match E.tk t with
    | some (.slice _) => if xs.isEmpty = true then none else some (True, .d (.bool false))
    | _ => none) := by cases h : E.tk t with | none => simp [binV, h] | some k => cases k <;> simp [binV, h]
theorem bin_lnil' (E : Env) (t sz : Nat) (xs : List (List D)) : binV E .neq t (.d (.lst sz xs)) .nils = (match E.tk t with
    | some (.slice _) => if xs.isEmpty = true then none else some (True, .d (.bool true))
    | _ => none) := by cases h : E.tk t with | none => simp [binV, h] | some k => cases k <;> simp [binV, h]
theorem bin_nnil (E : Env) (t : Nat) : binV E .eql t .nils .nils = (match E.tk t with
    | some (.slice _) => some (True, .d (.bool true))
    | _ => none) := by cases h : E.tk t with | none => simp [binV, h] | some k => cases k <;> simp [binV, h]
theorem bin_nnil' (E : Env) (t : Nat) : binV E .neq t .nils .nils = (match E.tk t with
    | some (.slice _) => some (True, .d (.bool false))
    | _ => none) := by cases h : E.tk t with | none => simp [binV, h] | some k => cases k <;> simp [binV, h]
theorem pick_b (t x y : Bool) (pa pb : Prop) : pickV (.d (.bool t)) (.d (.bool x)) (.d (.bool y)) pa pb = some ((t = true → pa) ∧ (t = false → pb), .d (.bool (if t then x else y))) := rfl
theorem gB_bool (b want : Bool) : gB (.d (.bool b)) want = some (b == want) := rfl
theorem gB_opt (g want : Bool) (p : PV) : gB (.opt g p) want = (gB p want).map fun r => g && r := rfl
def runOp (E : Env) (ops : Array Oper) (o : Oper) (S : St) (K : St → Prop) : Prop := runOne (rep E ops S o) o.dst S K
section
variable {E : Env} {ops : Array Oper} {S : St} {K : St → Prop} {d : Option Nat} {dd j ty : Nat} {pos : String} {af : Array Edge} {want : Bool}
theorem opsK_op {o : Oper} {rest : List Oper} {Q : PEx → St → Prop} : opsK E ops (o :: rest) Q S = runOp E ops o S (opsK E ops rest Q) := rfl
/-- A pure operation, told. -/
def pK (d : Option Nat) (S : St) (K : St → Prop) : Option Bool → PR → Prop
  | none, some r => r.1 ∧ K (S.after d r.2 S.o)
  | some g, some r => (g = true → r.1) ∧ K (S.after d (.opt g r.2) S.o)
  | _, none => False
theorem pK_none {c : Prop} {p : PV} : pK d S K none (some (c, p)) = (c ∧ K (S.after d p S.o)) := rfl
theorem pK_some {g : Bool} {c : Prop} {p : PV} : pK d S K (some g) (some (c, p)) = ((g = true → c) ∧ K (S.after d (.opt g p) S.o)) := rfl
theorem runOne_pure {r : PR} {o : Oper} (hg : o.guard = none) : runOne ((some true).bind fun g => (r.map fun r => (⟨g = true → r.1, fun p o' => p = gopt o g r.2 ∧ o' = S.o⟩ : SR))) d S K = pK d S K none r := by
  cases r with
  | none => rfl
  | some r => simp [runOne, pK, gopt, hg]
/-- The guard of an operation, told. -/
def gK (ops : Array Oper) (S : St) (j : Nat) (want : Bool) : Option Bool := match (ops[j]?).bind (·.dst) with
  | some d => gB (S.t d) want
  | none => none
def gpK (d : Option Nat) (S : St) (K : St → Prop) (r : PR) : Option Bool → Prop
  | some g => pK d S K (some g) r
  | none => False
theorem gpK_some {g : Bool} {r : PR} : gpK d S K r (some g) = pK d S K (some g) r := rfl
theorem run_pure {op : Op} (hk : kindOf E ⟨d, op, ty, pos, af, none⟩ = .pure) : runOp E ops ⟨d, op, ty, pos, af, none⟩ S K = pK d S K none (pureOp E S op) := by
  unfold runOp rep wantedP rep1
  simp only [hk]
  exact runOne_pure rfl
theorem run_gpure {op : Op} (hk : ∀ g, kindOf E ⟨d, op, ty, pos, af, g⟩ = .pure) : runOp E ops ⟨d, op, ty, pos, af, some (j, want)⟩ S K = gpK d S K (pureOp E S op) (gK ops S j want) := by
  unfold runOp rep wantedP rep1 gK gpK
  simp only [hk]
  cases h1 : (ops[j]?).bind (·.dst) with
  | none => simp [runOne]
  | some d' =>
    simp only
    cases h2 : gB (S.t d') want with
    | none => simp [runOne]
    | some g =>
      cases h3 : pureOp E S op with
      | none => simp [runOne, pK]
      | some r => simp [runOne, pK, gopt]
theorem op_move {x : Operand} : runOp E ops ⟨some dd, .move x, ty, pos, af, none⟩ S K = K ⟨upd S.t dd (S.ev x), S.o⟩ := by
  rw [run_pure rfl]; simp [pureOp, pK, St.after, St.put, upd, after_some]; rfl
theorem op_assign {x : Operand} : runOp E ops ⟨some dd, .assign x, ty, pos, af, none⟩ S K = K ⟨upd S.t dd (S.ev x), S.o⟩ := by
  rw [run_pure rfl]; simp [pureOp, pK, St.after, St.put, upd, after_some]; rfl
theorem op_gmove {x : Operand} : runOp E ops ⟨d, .move x, ty, pos, af, some (j, want)⟩ S K = gpK d S K (some (True, S.ev x)) (gK ops S j want) := run_gpure fun _ => rfl
theorem op_gassign {x : Operand} : runOp E ops ⟨d, .assign x, ty, pos, af, some (j, want)⟩ S K = gpK d S K (some (True, S.ev x)) (gK ops S j want) := run_gpure fun _ => rfl
def pmap (sc : Prop) : PR → PR
  | some r => some (sc ∧ r.1, r.2)
  | none => none
theorem pmap_some {sc c : Prop} {p : PV} : pmap sc (some (c, p)) = some (sc ∧ c, p) := rfl
theorem pmap_eq (sc : Prop) (r : PR) : (r.map fun r => (sc ∧ r.1, r.2)) = pmap sc r := by cases r <;> rfl
theorem pureOp_pick {c a b : Operand} : pureOp E S (.pick c a b) = pmap (S.sc c) (pickV (S.sv c) (S.sv a) (S.sv b) (S.sc a) (S.sc b)) := pmap_eq _ _
theorem pureOp_bin {op : BinOp} {t t' : Nat} {x y : Operand} : pureOp E S (.binOp op t x y t') = pmap (S.sc x ∧ S.sc y) (binV E op t (S.sv x) (S.sv y)) := pmap_eq _ _
theorem pureOp_un {op : UnOp} {t : Nat} {x : Operand} : pureOp E S (.unOp op t x) = pmap (S.sc x) (unV op (S.sv x)) := pmap_eq _ _
theorem pureOp_conv {t t' : Nat} {x : Operand} : pureOp E S (.convert t t' x) = pmap (S.sc x) (convV E t t' (S.sv x)) := pmap_eq _ _
theorem pureOp_ext {x : Operand} {i : Nat} : pureOp E S (.extract x i) = pmap (S.sc x) (extV i (S.sv x)) := pmap_eq _ _
theorem pureOp_load {t : Nat} {x : Operand} : pureOp E S (.load t x) = pmap (S.sc x) (loadV E S t (S.sv x)) := pmap_eq _ _
theorem pureOp_fa {t f : Nat} {x : Operand} : pureOp E S (.fieldAddr t x f) = pmap (S.sc x) (fieldAddrV E t f (S.sv x)) := pmap_eq _ _
theorem pureOp_f {t f : Nat} {x : Operand} : pureOp E S (.field t x f) = pmap (S.sc x) (fieldV E t f (S.sv x)) := pmap_eq _ _
theorem pureOp_ia {t : Nat} {x i : Operand} : pureOp E S (.indexAddr t x i) = pmap (S.sc x ∧ S.sc i) (indexAddrV E t (S.sv x) (S.sv i)) := pmap_eq _ _
theorem pureOp_i {t : Nat} {x i : Operand} : pureOp E S (.index t x i) = pmap (S.sc x ∧ S.sc i) (indexV E t (S.sv x) (S.sv i)) := pmap_eq _ _
theorem pureOp_build {t : Nat} {ps : Array (Nat × Operand)} : pureOp E S (.build t ps) = pmap (argsC S (ps.toList.map (·.2))) (buildV E t (ps.toList.map fun p => (p.1, S.sv p.2))) := pmap_eq _ _
theorem pureOp_lookup {t : Nat} {x i : Operand} {b : Bool} : pureOp E S (.lookup t x i b) = pmap (S.sc x ∧ S.sc i) (lookupV E S t b (S.sv x) (S.sv i)) := pmap_eq _ _
theorem pureOp_nilCheck {x : Operand} : pureOp E S (.nilCheck x) = pmap (S.sc x) (nilCheckV (S.sv x)) := pmap_eq _ _
theorem pureOp_slice {t : Nat} {x : Operand} {lo hi : Option Operand} : pureOp E S (.slice t x lo hi none) = pmap (argsC S (x :: (lo.toList ++ hi.toList))) (sliceV E t (S.sv x) (lo.map S.sv) (hi.map S.sv)) := pmap_eq _ _
theorem pureOp_makeFunc {f : Fn} {first caps : Array Operand} : pureOp E S (.makeFunc f first caps) = pmap (argsC S caps.toList) (makeFuncV f first.toList (caps.toList.map S.sv)) := pmap_eq _ _
theorem pureOp_clip {t : Nat} {x h m : Operand} : pureOp E S (.slice t x none (some h) (some m)) = pmap (S.sc x ∧ S.sc h ∧ S.sc m) (clipV E t (S.sv x) (S.sv h) (S.sv m)) := pmap_eq _ _
theorem pureOp_entry {x : Operand} : pureOp E S (.entry x) = pmap (S.sc x) (entryV S (S.sv x)) := pmap_eq _ _
theorem op_entry {x : Operand} : runOp E ops ⟨d, .entry x, ty, pos, af, none⟩ S K = pK d S K none (pmap (S.sc x) (entryV S (S.sv x))) := by rw [run_pure rfl, pureOp_entry]
theorem op_lookup {t : Nat} {x i : Operand} {b : Bool} : runOp E ops ⟨d, .lookup t x i b, ty, pos, af, none⟩ S K = pK d S K none (pmap (S.sc x ∧ S.sc i) (lookupV E S t b (S.sv x) (S.sv i))) := by rw [run_pure rfl, pureOp_lookup]
theorem op_nilCheck {x : Operand} : runOp E ops ⟨d, .nilCheck x, ty, pos, af, none⟩ S K = pK d S K none (pmap (S.sc x) (nilCheckV (S.sv x))) := by rw [run_pure rfl, pureOp_nilCheck]
theorem op_makeFunc {f : Fn} {first caps : Array Operand} : runOp E ops ⟨d, .makeFunc f first caps, ty, pos, af, none⟩ S K = pK d S K none (pmap (argsC S caps.toList) (makeFuncV f first.toList (caps.toList.map S.sv))) := by rw [run_pure rfl, pureOp_makeFunc]
theorem op_glookup {t : Nat} {x i : Operand} {b : Bool} : runOp E ops ⟨d, .lookup t x i b, ty, pos, af, some (j, want)⟩ S K = gpK d S K (pmap (S.sc x ∧ S.sc i) (lookupV E S t b (S.sv x) (S.sv i))) (gK ops S j want) := by rw [run_gpure fun _ => rfl, pureOp_lookup]
theorem op_gnilCheck {x : Operand} : runOp E ops ⟨d, .nilCheck x, ty, pos, af, some (j, want)⟩ S K = gpK d S K (pmap (S.sc x) (nilCheckV (S.sv x))) (gK ops S j want) := by rw [run_gpure fun _ => rfl, pureOp_nilCheck]
theorem op_pick {c a b : Operand} : runOp E ops ⟨d, .pick c a b, ty, pos, af, none⟩ S K = pK d S K none (pmap (S.sc c) (pickV (S.sv c) (S.sv a) (S.sv b) (S.sc a) (S.sc b))) := by rw [run_pure rfl, pureOp_pick]
theorem op_bin {op : BinOp} {t t' : Nat} {x y : Operand} : runOp E ops ⟨d, .binOp op t x y t', ty, pos, af, none⟩ S K = pK d S K none (pmap (S.sc x ∧ S.sc y) (binV E op t (S.sv x) (S.sv y))) := by rw [run_pure rfl, pureOp_bin]
theorem op_un {op : UnOp} {t : Nat} {x : Operand} : runOp E ops ⟨d, .unOp op t x, ty, pos, af, none⟩ S K = pK d S K none (pmap (S.sc x) (unV op (S.sv x))) := by rw [run_pure rfl, pureOp_un]
theorem op_conv {t t' : Nat} {x : Operand} : runOp E ops ⟨d, .convert t t' x, ty, pos, af, none⟩ S K = pK d S K none (pmap (S.sc x) (convV E t t' (S.sv x))) := by rw [run_pure rfl, pureOp_conv]
theorem op_ext {x : Operand} {i : Nat} : runOp E ops ⟨d, .extract x i, ty, pos, af, none⟩ S K = pK d S K none (pmap (S.sc x) (extV i (S.sv x))) := by rw [run_pure rfl, pureOp_ext]
theorem op_load {t : Nat} {x : Operand} : runOp E ops ⟨d, .load t x, ty, pos, af, none⟩ S K = pK d S K none (pmap (S.sc x) (loadV E S t (S.sv x))) := by rw [run_pure rfl, pureOp_load]
theorem op_fa {t f : Nat} {x : Operand} : runOp E ops ⟨d, .fieldAddr t x f, ty, pos, af, none⟩ S K = pK d S K none (pmap (S.sc x) (fieldAddrV E t f (S.sv x))) := by rw [run_pure rfl, pureOp_fa]
theorem op_f {t f : Nat} {x : Operand} : runOp E ops ⟨d, .field t x f, ty, pos, af, none⟩ S K = pK d S K none (pmap (S.sc x) (fieldV E t f (S.sv x))) := by rw [run_pure rfl, pureOp_f]
theorem op_ia {t : Nat} {x i : Operand} : runOp E ops ⟨d, .indexAddr t x i, ty, pos, af, none⟩ S K = pK d S K none (pmap (S.sc x ∧ S.sc i) (indexAddrV E t (S.sv x) (S.sv i))) := by rw [run_pure rfl, pureOp_ia]
theorem op_i {t : Nat} {x i : Operand} : runOp E ops ⟨d, .index t x i, ty, pos, af, none⟩ S K = pK d S K none (pmap (S.sc x ∧ S.sc i) (indexV E t (S.sv x) (S.sv i))) := by rw [run_pure rfl, pureOp_i]
theorem op_build {t : Nat} {ps : Array (Nat × Operand)} : runOp E ops ⟨d, .build t ps, ty, pos, af, none⟩ S K = pK d S K none (pmap (argsC S (ps.toList.map (·.2))) (buildV E t (ps.toList.map fun p => (p.1, S.sv p.2)))) := by rw [run_pure rfl, pureOp_build]
theorem op_gpick {c a b : Operand} : runOp E ops ⟨d, .pick c a b, ty, pos, af, some (j, want)⟩ S K = gpK d S K (pmap (S.sc c) (pickV (S.sv c) (S.sv a) (S.sv b) (S.sc a) (S.sc b))) (gK ops S j want) := by rw [run_gpure fun _ => rfl, pureOp_pick]
theorem op_gbin {op : BinOp} {t t' : Nat} {x y : Operand} : runOp E ops ⟨d, .binOp op t x y t', ty, pos, af, some (j, want)⟩ S K = gpK d S K (pmap (S.sc x ∧ S.sc y) (binV E op t (S.sv x) (S.sv y))) (gK ops S j want) := by rw [run_gpure fun _ => rfl, pureOp_bin]
theorem op_gun {op : UnOp} {t : Nat} {x : Operand} : runOp E ops ⟨d, .unOp op t x, ty, pos, af, some (j, want)⟩ S K = gpK d S K (pmap (S.sc x) (unV op (S.sv x))) (gK ops S j want) := by rw [run_gpure fun _ => rfl, pureOp_un]
theorem op_gconv {t t' : Nat} {x : Operand} : runOp E ops ⟨d, .convert t t' x, ty, pos, af, some (j, want)⟩ S K = gpK d S K (pmap (S.sc x) (convV E t t' (S.sv x))) (gK ops S j want) := by rw [run_gpure fun _ => rfl, pureOp_conv]
theorem op_gext {x : Operand} {i : Nat} : runOp E ops ⟨d, .extract x i, ty, pos, af, some (j, want)⟩ S K = gpK d S K (pmap (S.sc x) (extV i (S.sv x))) (gK ops S j want) := by rw [run_gpure fun _ => rfl, pureOp_ext]
theorem op_gload {t : Nat} {x : Operand} : runOp E ops ⟨d, .load t x, ty, pos, af, some (j, want)⟩ S K = gpK d S K (pmap (S.sc x) (loadV E S t (S.sv x))) (gK ops S j want) := by rw [run_gpure fun _ => rfl, pureOp_load]
theorem op_gfa {t f : Nat} {x : Operand} : runOp E ops ⟨d, .fieldAddr t x f, ty, pos, af, some (j, want)⟩ S K = gpK d S K (pmap (S.sc x) (fieldAddrV E t f (S.sv x))) (gK ops S j want) := by rw [run_gpure fun _ => rfl, pureOp_fa]
theorem op_gf {t f : Nat} {x : Operand} : runOp E ops ⟨d, .field t x f, ty, pos, af, some (j, want)⟩ S K = gpK d S K (pmap (S.sc x) (fieldV E t f (S.sv x))) (gK ops S j want) := by rw [run_gpure fun _ => rfl, pureOp_f]
theorem op_gia {t : Nat} {x i : Operand} : runOp E ops ⟨d, .indexAddr t x i, ty, pos, af, some (j, want)⟩ S K = gpK d S K (pmap (S.sc x ∧ S.sc i) (indexAddrV E t (S.sv x) (S.sv i))) (gK ops S j want) := by rw [run_gpure fun _ => rfl, pureOp_ia]
theorem op_gi {t : Nat} {x i : Operand} : runOp E ops ⟨d, .index t x i, ty, pos, af, some (j, want)⟩ S K = gpK d S K (pmap (S.sc x ∧ S.sc i) (indexV E t (S.sv x) (S.sv i))) (gK ops S j want) := by rw [run_gpure fun _ => rfl, pureOp_i]
theorem op_gbuild {t : Nat} {ps : Array (Nat × Operand)} : runOp E ops ⟨d, .build t ps, ty, pos, af, some (j, want)⟩ S K = gpK d S K (pmap (argsC S (ps.toList.map (·.2))) (buildV E t (ps.toList.map fun p => (p.1, S.sv p.2)))) (gK ops S j want) := by rw [run_gpure fun _ => rfl, pureOp_build]
/-- len, min, max. -/
def lK0 (S : St) (K : St → Prop) (F : Prop) : Option Bool → St → Prop
  | none, S' => F → K S'
  | some g, S' => (g = true → F) → K S'
def lnK (d : Option Nat) (S : St) (K : St → Prop) (g : Option Bool) (F : Prop) (r : PR) : Prop := pK d S (lK0 S K F g) g r
theorem lnK_none {F c : Prop} {p : PV} : lnK d S K none F (some (c, p)) = (c ∧ (F → K (S.after d p S.o))) := rfl
theorem lnK_some {F c : Prop} {g : Bool} {p : PV} : lnK d S K (some g) F (some (c, p)) = ((g = true → c) ∧ ((g = true → F) → K (S.after d (.opt g p) S.o))) := rfl
def lbK (E : Env) (d : Nat) (S : St) (K : St → Prop) (g : Option Bool) (F : Prop) (r : PR) : Bool → Prop
  | true => lnK (some d) S K g F r
  | false => pK (some d) S K g r
theorem lbK_true {F : Prop} {g : Option Bool} {r : PR} : lbK E dd S K g F r true = lnK (some dd) S K g F r := rfl
theorem lbK_false {F : Prop} {g : Option Bool} {r : PR} : lbK E dd S K g F r false = pK (some dd) S K g r := rfl
def glbK (E : Env) (d : Nat) (S : St) (K : St → Prop) (F : Prop) (r : PR) : Option Bool → Prop
  | some g => lbK E d S K (some g) F r (E.fact d)
  | none => False
theorem glbK_some {F : Prop} {g : Bool} {r : PR} : glbK E dd S K F r (some g) = lbK E dd S K (some g) F r (E.fact dd) := rfl
theorem op_len {x : Operand} {t : Nat} : runOp E ops ⟨some dd, .call ⟨.builtin .len, #[x], #[t]⟩, ty, pos, af, none⟩ S K = lbK E dd S K none (lenF S (S.sv x)) (pmap (S.sc x) (lenV E S t (S.sv x))) (E.fact dd) := by
  cases hf : E.fact dd with
  | false =>
    rw [run_pure (by simp [kindOf, hf])]; exact congrArg _ (pmap_eq _ _)
  | true =>
    have hk : kindOf E ⟨some dd, .call ⟨.builtin .len, #[x], #[t]⟩, ty, pos, af, none⟩ = .len := by simp [kindOf, hf]
    unfold runOp rep wantedP rep1
    simp only [hk, Option.bind_some, lbK_true]
    have e : pureOp E S (.call ⟨.builtin .len, #[x], #[t]⟩) = pmap (S.sc x) (lenV E S t (S.sv x)) := pmap_eq _ _
    rw [e]
    cases hl : lenV E S t (S.sv x) with
    | none => rfl
    | some r =>
      simp only [pmap, Option.map_some, runOne, lnK, pK, lK0, true_implies]
      apply propext; constructor
      · rintro ⟨h1, h2⟩; exact ⟨h1, fun hF => h2 _ _ ⟨⟨rfl, rfl⟩, hF⟩⟩
      · rintro ⟨h1, h2⟩; refine ⟨h1, ?_⟩; rintro p o' ⟨⟨rfl, rfl⟩, hF⟩; exact h2 hF
theorem op_glen {x : Operand} {t : Nat} : runOp E ops ⟨some dd, .call ⟨.builtin .len, #[x], #[t]⟩, ty, pos, af, some (j, want)⟩ S K = glbK E dd S K (lenF S (S.sv x)) (pmap (S.sc x) (lenV E S t (S.sv x))) (gK ops S j want) := by
  have e : pureOp E S (.call ⟨.builtin .len, #[x], #[t]⟩) = pmap (S.sc x) (lenV E S t (S.sv x)) := pmap_eq _ _
  unfold runOp rep wantedP gK glbK
  simp only
  cases h1 : (ops[j]?).bind (·.dst) with
  | none => rfl
  | some d' =>
    simp only
    cases h2 : gB (S.t d') want with
    | none => rfl
    | some g =>
      simp only [Option.bind_some]
      unfold rep1
      cases hf : E.fact dd with
      | false =>
        have hk : kindOf E ⟨some dd, .call ⟨.builtin .len, #[x], #[t]⟩, ty, pos, af, some (j, want)⟩ = .pure := by simp [kindOf, hf]
        simp only [hk, lbK_false, e]
        cases hl : pmap (S.sc x) (lenV E S t (S.sv x)) with
        | none => rfl
        | some r =>
          simp only [Option.map_some, runOne, pK, gopt]
          apply propext; constructor
          · rintro ⟨h1, h2⟩; exact ⟨h1, h2 _ _ ⟨rfl, rfl⟩⟩
          · rintro ⟨h1, h2⟩; refine ⟨h1, ?_⟩; rintro p o' ⟨rfl, rfl⟩; exact h2
      | true =>
        have hk : kindOf E ⟨some dd, .call ⟨.builtin .len, #[x], #[t]⟩, ty, pos, af, some (j, want)⟩ = .len := by simp [kindOf, hf]
        simp only [hk, lbK_true, e]
        cases hl : pmap (S.sc x) (lenV E S t (S.sv x)) with
        | none => rfl
        | some r =>
          simp only [Option.map_some, runOne, lnK, pK, lK0, gopt]
          apply propext; constructor
          · rintro ⟨h1, h2⟩; exact ⟨h1, fun hF => h2 _ _ ⟨⟨rfl, rfl⟩, hF⟩⟩
          · rintro ⟨h1, h2⟩; refine ⟨h1, ?_⟩; rintro p o' ⟨⟨rfl, rfl⟩, hF⟩; exact h2 hF
def minK (S : St) (xs : List Operand) : Option (IntKind × List Int) → PR
  | some r => some (argsC S xs, .d (.int r.1 (minI r.2)))
  | none => none
def maxK (S : St) (xs : List Operand) : Option (IntKind × List Int) → PR
  | some r => some (argsC S xs, .d (.int r.1 (maxI r.2)))
  | none => none
theorem op_min {xs : Array Operand} {ts : Array Nat} : runOp E ops ⟨d, .call ⟨.builtin .min, xs, ts⟩, ty, pos, af, none⟩ S K = pK d S K none (minK S xs.toList (ints (xs.toList.map S.sv))) := by
  rw [run_pure rfl]
  refine congrArg _ ?_
  unfold pureOp callOp minK
  cases h : ints (xs.toList.map S.sv) <;> simp [h]
theorem op_max {xs : Array Operand} {ts : Array Nat} : runOp E ops ⟨d, .call ⟨.builtin .max, xs, ts⟩, ty, pos, af, none⟩ S K = pK d S K none (maxK S xs.toList (ints (xs.toList.map S.sv))) := by
  rw [run_pure rfl]
  refine congrArg _ ?_
  unfold pureOp callOp maxK
  cases h : ints (xs.toList.map S.sv) <;> simp [h]
end
theorem ints_1 (k : IntKind) (a : Int) : ints [.d (.int k a)] = some (k, [a]) := rfl
theorem ints_2 (k : IntKind) (a b : Int) : ints [.d (.int k a), .d (.int k b)] = some (k, [a, b]) := by simp [ints]
theorem minI_2 (a b : Int) : minI [a, b] = if b < a then b else a := rfl
theorem maxI_2 (a b : Int) : maxI [a, b] = if a < b then b else a := rfl
end Go.Proofs.Ytomnjbebgfadoaa.Pi
end
section
/- Rules for calls and for operations on objects.
   Conditions: none; definitions and lemmas. -/
set_option linter.unusedVariables false
set_option linter.unusedSimpArgs false
namespace Go.Proofs.Ytomnjbebgfadoaa.Pi
open Go Go.RowKit

section
variable {E : Env} {ops : Array Oper} {S : St} {K : St → Prop} {d : Option Nat} {dd j ty : Nat} {pos : String} {af : Array Edge} {want : Bool}

/-- An operation on objects, told. -/
def eK (d : Option Nat) (S : St) (K : St → Prop) : EF → Prop
  | some r => r.1 ∧ K (S.after d r.2.1 r.2.2)
  | none => False
theorem eK_some {c : Prop} {p : PV} {o' : Objs} : eK d S K (some (c, p, o')) = (c ∧ K (S.after d p o')) := rfl
def emap (sc : Prop) : EF → EF
  | some r => some (sc ∧ r.1, r.2)
  | none => none
theorem emap_some {sc c : Prop} {r : PV × Objs} : emap sc (some (c, r)) = some (sc ∧ c, r) := rfl
theorem emap_eq (sc : Prop) (r : EF) : (r.map fun r => (sc ∧ r.1, r.2)) = emap sc r := by cases r <;> rfl
theorem run_eff {op : Op} (hk : kindOf E ⟨d, op, ty, pos, af, none⟩ = .eff) : runOp E ops ⟨d, op, ty, pos, af, none⟩ S K = eK d S K (effOp E S d op) := by
  unfold runOp rep wantedP rep1
  simp only [hk]
  cases h : effOp E S d op with
  | none => simp [runOne, eK]
  | some r => simp [runOne, eK]
theorem op_alloc {t : Nat} : runOp E ops ⟨some dd, .alloc t, ty, pos, af, none⟩ S K = eK (some dd) S K (allocE E S (E.key dd) t) := run_eff rfl
theorem op_box {t : Nat} {x : Operand} : runOp E ops ⟨some dd, .box t x, ty, pos, af, none⟩ S K = eK (some dd) S K (emap (S.sc x) (boxE E S (E.key dd) t (S.sv x))) := by
  rw [run_eff rfl]; exact congrArg _ (emap_eq _ _)
theorem op_store {t : Nat} {a x : Operand} : runOp E ops ⟨d, .store t a x, ty, pos, af, none⟩ S K = eK d S K (emap (S.sc a ∧ S.sc x) (storeE E S t (S.sv a) (S.sv x))) := by
  rw [run_eff rfl]; exact congrArg _ ((by cases d <;> rfl : effOp E S d (.store t a x) = _).trans (emap_eq _ _))
theorem op_make {t : Nat} {l c : Operand} : runOp E ops ⟨some dd, .makeSlice t l c, ty, pos, af, none⟩ S K = eK (some dd) S K (emap (S.sc l ∧ S.sc c) (makeE E S (E.key dd) t (E.own dd) (S.sv l) (S.sv c))) := by
  rw [run_eff rfl]; exact congrArg _ (emap_eq _ _)
theorem op_makeMap {t : Nat} : runOp E ops ⟨some dd, .makeMap t none, ty, pos, af, none⟩ S K = eK (some dd) S K (makeMapE E S (E.key dd) t) := run_eff rfl
theorem op_range {t : Nat} {x : Operand} : runOp E ops ⟨some dd, .range t x, ty, pos, af, none⟩ S K = eK (some dd) S K (emap (S.sc x) (rangeE E S (E.key dd) t (S.sv x))) := by
  rw [run_eff rfl]; exact congrArg _ (emap_eq _ _)
/-- A loop over a map goes on, told. -/
def nK (d : Option Nat) (S : St) (K : St → Prop) (sc : Prop) : Option SR → Prop
  | some r => (sc ∧ r.vc) ∧ ∀ p o', r.post p o' → K (S.after d p o')
  | none => False
theorem nK_iter {sc vc A : Prop} {p0 : PV} {o0 : Objs} {es : List (Nat × D × PV)} {seen : List Nat} {f : Nat × D × PV → PV} {g : Nat × D × PV → Objs} : nK d S K sc (some ⟨vc, fun p o' => (A ∧ p = p0 ∧ o' = o0) ∨ ∃ y ∈ es, y.1 ∉ seen ∧ p = f y ∧ o' = g y⟩) = ((sc ∧ vc) ∧ (A → K (S.after d p0 o0)) ∧ ∀ y ∈ es, y.1 ∉ seen → K (S.after d (f y) (g y))) := by
  simp only [nK, eq_iff_iff]
  constructor
  · rintro ⟨h1, h2⟩
    exact ⟨h1, fun ha => h2 _ _ (.inl ⟨ha, rfl, rfl⟩), fun y hy hn => h2 _ _ (.inr ⟨y, hy, hn, rfl, rfl⟩)⟩
  · rintro ⟨h1, h2, h3⟩
    refine ⟨h1, fun p o' h => ?_⟩
    rcases h with ⟨ha, rfl, rfl⟩ | ⟨y, hy, hn, rfl, rfl⟩
    · exact h2 ha
    · exact h3 y hy hn
theorem op_next {x : Operand} : runOp E ops ⟨d, .next x false, ty, pos, af, none⟩ S K = nK d S K (S.sc x) (nextR S (S.sv x)) := by
  unfold runOp rep wantedP rep1
  have hk : kindOf E ⟨d, .next x false, ty, pos, af, none⟩ = .nxt := rfl
  simp only [hk, nextOp]
  cases h : nextR S (S.sv x) with
  | none => simp [runOne, nK]
  | some r => simp [runOne, nK]
theorem op_insert {t : Nat} {m k x : Operand} : runOp E ops ⟨d, .insert t m k x, ty, pos, af, none⟩ S K = eK d S K (emap ((S.sc m ∧ S.sc k) ∧ S.sc x) (mapUpdE E S t (S.sv m) (S.sv k) (S.sv x))) := by
  rw [run_eff rfl]; exact congrArg _ ((by cases d <;> rfl : effOp E S d (.insert t m k x) = _).trans (emap_eq _ _))
theorem op_mapUpdate {t : Nat} {m k x : Operand} : runOp E ops ⟨d, .mapUpdate t m k x, ty, pos, af, none⟩ S K = eK d S K (emap ((S.sc m ∧ S.sc k) ∧ S.sc x) (mapUpdE E S t (S.sv m) (S.sv k) (S.sv x))) := by
  rw [run_eff rfl]; exact congrArg _ ((by cases d <;> rfl : effOp E S d (.mapUpdate t m k x) = _).trans (emap_eq _ _))
theorem op_mapEntry {t : Nat} {m k : Operand} : runOp E ops ⟨some dd, .mapEntry t m k, ty, pos, af, none⟩ S K = eK (some dd) S K (emap (S.sc m ∧ S.sc k) (mapEntE E S t (S.sv m) (S.sv k))) := by
  rw [run_eff rfl]; exact congrArg _ (emap_eq _ _)
theorem op_entryStore {t : Nat} {m k x : Operand} : runOp E ops ⟨d, .entryStore t m k x, ty, pos, af, none⟩ S K = eK d S K (emap ((S.sc m ∧ S.sc k) ∧ S.sc x) (mapStoE S (S.sv m) (S.sv k) (S.sv x))) := by
  rw [run_eff rfl]; exact congrArg _ ((by cases d <;> rfl : effOp E S d (.entryStore t m k x) = _).trans (emap_eq _ _))
theorem op_app {s x : Operand} {t : Nat} : runOp E ops ⟨some dd, .call ⟨.builtin .append, #[s, x], #[t, t]⟩, ty, pos, af, none⟩ S K = eK (some dd) S K (emap (S.sc s ∧ S.sc x) (appE E S (E.key dd) t (S.sv s) (S.sv x))) := by
  rw [run_eff rfl]
  refine congrArg _ ((?_ : effOp E S (some dd) _ = _).trans (emap_eq _ _))
  simp [effOp, callE]
/-- A slice literal: of the call's own, or read only. -/
def lK (E : Env) (S : St) (K : St → Prop) (dd t n : Nat) (c : Prop) (ps : List (Nat × PV)) : Bool → Prop
  | true => eK (some dd) S K (emap c (litE E S (E.key dd) t n ps))
  | false => pK (some dd) S K none (pmap c (litV E t n ps))
theorem lK_true {t n : Nat} {c : Prop} {ps : List (Nat × PV)} : lK E S K dd t n c ps true = eK (some dd) S K (emap c (litE E S (E.key dd) t n ps)) := rfl
theorem lK_false {t n : Nat} {c : Prop} {ps : List (Nat × PV)} : lK E S K dd t n c ps false = pK (some dd) S K none (pmap c (litV E t n ps)) := rfl
theorem op_lit {t n : Nat} {ps : Array (Nat × Operand)} : runOp E ops ⟨some dd, .buildSlice t n ps, ty, pos, af, none⟩ S K = lK E S K dd t n (argsC S (ps.toList.map (·.2))) (ps.toList.map fun p => (p.1, S.sv p.2)) (E.own dd) := by
  cases ho : E.own dd with
  | true =>
    rw [run_eff (by simp [kindOf, ho])]
    exact congrArg _ (emap_eq _ _)
  | false =>
    unfold runOp rep wantedP rep1
    have hk : kindOf E ⟨some dd, .buildSlice t n ps, ty, pos, af, none⟩ = .lit := by simp [kindOf, ho]
    simp only [hk]
    exact (runOne_pure rfl).trans (congrArg _ (pmap_eq _ _))

/-- A part of a slice: of a row of the call's own that is only read from then on, or not. -/
def sK (E : Env) (S : St) (K : St → Prop) (dd t : Nat) (c : Prop) (x : PV) (lo hi : Option PV) : Bool → Prop
  | true => eK (some dd) S K (emap c (sliceE E S t x lo hi))
  | false => pK (some dd) S K none (pmap c (sliceV E t x lo hi))
theorem sK_true {t : Nat} {c : Prop} {x : PV} {lo hi : Option PV} : sK E S K dd t c x lo hi true = eK (some dd) S K (emap c (sliceE E S t x lo hi)) := rfl
theorem sK_false {t : Nat} {c : Prop} {x : PV} {lo hi : Option PV} : sK E S K dd t c x lo hi false = pK (some dd) S K none (pmap c (sliceV E t x lo hi)) := rfl
theorem op_slice {t : Nat} {x : Operand} {lo hi : Option Operand} : runOp E ops ⟨some dd, .slice t x lo hi none, ty, pos, af, none⟩ S K = sK E S K dd t (argsC S (x :: (lo.toList ++ hi.toList))) (S.sv x) (lo.map S.sv) (hi.map S.sv) (E.own dd) := by
  cases ho : E.own dd with
  | true =>
    rw [run_eff (by simp [kindOf, ho])]
    exact congrArg _ (emap_eq _ _)
  | false => rw [run_pure (by simp [kindOf, ho]), pureOp_slice]; rfl
theorem op_gslice {t : Nat} {x : Operand} {lo hi : Option Operand} (ho : E.own dd = false) : runOp E ops ⟨some dd, .slice t x lo hi none, ty, pos, af, some (j, want)⟩ S K = gpK (some dd) S K (pmap (argsC S (x :: (lo.toList ++ hi.toList))) (sliceV E t (S.sv x) (lo.map S.sv) (hi.map S.sv))) (gK ops S j want) := by rw [run_gpure fun _ => by simp [kindOf, ho], pureOp_slice]
theorem op_clip {t : Nat} {x h m : Operand} (ho : E.own dd = false) : runOp E ops ⟨some dd, .slice t x none (some h) (some m), ty, pos, af, none⟩ S K = pK (some dd) S K none (pmap (S.sc x ∧ S.sc h ∧ S.sc m) (clipV E t (S.sv x) (S.sv h) (S.sv m))) := by rw [run_pure (by simp [kindOf, ho]), pureOp_clip]
theorem op_clear {t : Nat} {s : Operand} : runOp E ops ⟨none, .call ⟨.builtin .clear, #[s], #[t]⟩, ty, pos, af, none⟩ S K = eK none S K (emap (S.sc s) (clearE E S t (S.sv s))) := by
  rw [run_eff rfl]
  refine congrArg _ ((?_ : effOp E S none _ = _).trans (emap_eq _ _))
  simp [effOp, clrE]
/-- A call, told. -/
def conK (E : Env) (d : Option Nat) (S : St) (K : St → Prop) (ci : CI) (con : Con) : Bool → Option Bool → Prop
  | true, none => (ci.c ∧ con.pre ci.ds) ∧ ∀ rs, con.post ci.ds rs → K (S.after d (packP (rs.map RV.flatP)) S.o)
  | true, some g => (g = true → ci.c ∧ con.pre ci.ds) ∧ ∀ rs, ((g = true ∨ ∃ rs', con.post ci.ds rs') → con.post ci.ds rs) → K (S.after d (.opt g (packP (rs.map RV.flatP))) S.o)
  | false, none => match d with
    | some dd => (ci.c ∧ con.pre ci.ds) ∧ ∀ rs, con.post ci.ds rs → K ⟨upd S.t dd (packP (retP (dropObs S.o ci.ks) (E.key dd) 0 rs)), retO (dropObs S.o ci.ks) (E.key dd) 0 rs⟩
    | none => (ci.c ∧ con.pre ci.ds) ∧ ∀ rs, con.post ci.ds rs → K ⟨S.t, dropObs S.o ci.ks⟩
  | false, some g => match d with
    | some dd => (g = true ∧ ci.c ∧ con.pre ci.ds) ∧ ∀ rs, con.post ci.ds rs → K ⟨upd S.t dd (packP (retP (dropObs S.o ci.ks) (E.key dd) 0 rs)), retO (dropObs S.o ci.ks) (E.key dd) 0 rs⟩
    | none => (g = true ∧ ci.c ∧ con.pre ci.ds) ∧ ∀ rs, con.post ci.ds rs → K ⟨S.t, dropObs S.o ci.ks⟩
def cK2 (E : Env) (d : Option Nat) (S : St) (K : St → Prop) (g : Option Bool) (ci : CI) : Option Con → Prop
  | some con => conK E d S K ci con con.flat g
  | none => False
def cK (E : Env) (d : Option Nat) (S : St) (K : St → Prop) (g : Option Bool) : Option CI → Prop
  | some ci => cK2 E d S K g ci (E.con ci.f)
  | none => False
def iK2 (E : Env) (d : Option Nat) (S : St) (K : St → Prop) (g : Option Bool) (c : Call) (ps : List PV) (sc : Prop) : Option ICon → Prop
  | some con => (g.getD true = true ∧ sc ∧ con.pre S.o ps) ∧ ∀ p o', con.post S.o ps o' p → K (S.after d p o')
  | none => cK E d S K g (callInfo E S c)
def iK (E : Env) (d : Option Nat) (S : St) (K : St → Prop) (g : Option Bool) (c : Call) : Option (Nat × List PV × Prop) → Prop
  | some ic => iK2 E d S K g c ic.2.1 ic.2.2 (E.icon ic.1)
  | none => False
theorem iK_some {g : Option Bool} {c : Call} {f : Nat} {ps : List PV} {sc : Prop} : iK E d S K g c (some (f, ps, sc)) = iK2 E d S K g c ps sc (E.icon f) := rfl
theorem iK2_none {g : Option Bool} {c : Call} {ps : List PV} {sc : Prop} : iK2 E d S K g c ps sc none = cK E d S K g (callInfo E S c) := rfl
theorem iK2_some {g : Option Bool} {c : Call} {ps : List PV} {sc : Prop} {con : ICon} : iK2 E d S K g c ps sc (some con) = ((g.getD true = true ∧ sc ∧ con.pre S.o ps) ∧ ∀ p o', con.post S.o ps o' p → K (S.after d p o')) := rfl
theorem cK_some {g : Option Bool} {f : Nat} {ds : List D} {ks : List Nat} {c : Prop} : cK E d S K g (some ⟨f, ds, ks, c⟩) = cK2 E d S K g ⟨f, ds, ks, c⟩ (E.con f) := rfl
theorem cK2_some {g : Option Bool} {ci : CI} {con : Con} : cK2 E d S K g ci (some con) = conK E d S K ci con con.flat g := rfl
theorem conK_flat {ci : CI} {con : Con} : conK E d S K ci con true none = ((ci.c ∧ con.pre ci.ds) ∧ ∀ rs, con.post ci.ds rs → K (S.after d (packP (rs.map RV.flatP)) S.o)) := rfl
theorem conK_gflat {ci : CI} {con : Con} {g : Bool} : conK E d S K ci con true (some g) = ((g = true → ci.c ∧ con.pre ci.ds) ∧ ∀ rs, ((g = true ∨ ∃ rs', con.post ci.ds rs') → con.post ci.ds rs) → K (S.after d (.opt g (packP (rs.map RV.flatP))) S.o)) := rfl
theorem conK_own {ci : CI} {con : Con} : conK E (some dd) S K ci con false none = ((ci.c ∧ con.pre ci.ds) ∧ ∀ rs, con.post ci.ds rs → K ⟨upd S.t dd (packP (retP (dropObs S.o ci.ks) (E.key dd) 0 rs)), retO (dropObs S.o ci.ks) (E.key dd) 0 rs⟩) := rfl
theorem conK_void {ci : CI} {con : Con} : conK E none S K ci con false none = ((ci.c ∧ con.pre ci.ds) ∧ ∀ rs, con.post ci.ds rs → K ⟨S.t, dropObs S.o ci.ks⟩) := rfl
def cgK (E : Env) (d : Option Nat) (S : St) (K : St → Prop) (c : Call) : Option Bool → Prop
  | some g => iK E d S K (some g) c (icallInfo S c)
  | none => False
theorem cgK_some {c : Call} {g : Bool} : cgK E d S K c (some g) = iK E d S K (some g) c (icallInfo S c) := rfl

theorem run_call {x : Operand} {args : Array Operand} {ts : Array Nat} {o : Oper} (ho : o.op = .call ⟨.value x, args, ts⟩) (hd : o.dst = d) {g : Bool} {gd : Option Bool} (hg : o.guard = none ∧ gd = none ∧ g = true ∨ o.guard ≠ none ∧ gd = some g) :
    runOne (rep1 E S o g) d S K = iK E d S K gd ⟨.value x, args, ts⟩ (icallInfo S ⟨.value x, args, ts⟩) := by
  have hk : kindOf E o = .call := by unfold kindOf; rw [ho]
  unfold rep1
  simp only [hk, ho, callOf, Option.bind_some]
  cases hi : icallInfo S ⟨.value x, args, ts⟩ with
  | none => rfl
  | some ic =>
    simp only [Option.bind_some, iK]
    cases hic : E.icon ic.1 with
    | some con =>
      simp only [runOne, iK2]
      rcases hg with ⟨_, rfl, rfl⟩ | ⟨_, rfl⟩ <;> simp
    | none =>
      simp only [iK2]
      cases hci : callInfo E S ⟨.value x, args, ts⟩ with
      | none => rfl
      | some ci =>
        simp only [Option.bind_some, cK]
        cases hc : E.con ci.f with
        | none => rfl
        | some con =>
          simp only [Option.map_some, cK2]
          unfold callRep
          cases hf : con.flat with
          | true =>
            simp only [if_true, runOne]
            rcases hg with ⟨h1, rfl, rfl⟩ | ⟨h1, rfl⟩
            · simp only [if_true, conK, true_implies, true_or]
              apply propext
              constructor
              · rintro ⟨a, b⟩
                refine ⟨a, fun rs hr => ?_⟩
                have := b _ _ ⟨rs, hr, rfl, rfl⟩
                simpa [gopt, h1] using this
              · rintro ⟨a, b⟩
                refine ⟨a, ?_⟩
                rintro p o' ⟨rs, hr, rfl, rfl⟩
                simpa [gopt, h1] using b rs hr
            · simp only [conK]
              have hgo : ∀ p, gopt o g p = .opt g p := fun p => by
                unfold gopt
                cases hgd : o.guard with
                | none => exact absurd hgd h1
                | some _ => rfl
              apply propext
              constructor
              · rintro ⟨a, b⟩
                refine ⟨a, fun rs hr => ?_⟩
                have := b _ _ ⟨rs, hr, rfl, rfl⟩
                rwa [hgo] at this
              · rintro ⟨a, b⟩
                refine ⟨a, ?_⟩
                rintro p o' ⟨rs, hr, rfl, rfl⟩
                rw [hgo]
                exact b rs hr
          | false =>
            simp only [Bool.false_eq_true, if_false, hd]
            rcases hg with ⟨h1, rfl, rfl⟩ | ⟨h1, rfl⟩
            · cases d with
              | none =>
                simp only [runOne, conK, true_and]
                apply propext
                constructor
                · rintro ⟨a, b⟩; exact ⟨a, fun rs hr => b _ _ ⟨rs, hr, rfl, rfl⟩⟩
                · rintro ⟨a, b⟩; refine ⟨a, ?_⟩; rintro p o' ⟨rs, hr, rfl, rfl⟩; exact b rs hr
              | some dd =>
                simp only [runOne, conK, true_and]
                apply propext
                constructor
                · rintro ⟨a, b⟩; exact ⟨a, fun rs hr => b _ _ ⟨rs, hr, rfl, rfl⟩⟩
                · rintro ⟨a, b⟩; refine ⟨a, ?_⟩; rintro p o' ⟨rs, hr, rfl, rfl⟩; exact b rs hr
            · cases d with
              | none =>
                simp only [runOne, conK]
                apply propext
                constructor
                · rintro ⟨a, b⟩; exact ⟨a, fun rs hr => b _ _ ⟨rs, hr, rfl, rfl⟩⟩
                · rintro ⟨a, b⟩; refine ⟨a, ?_⟩; rintro p o' ⟨rs, hr, rfl, rfl⟩; exact b rs hr
              | some dd =>
                simp only [runOne, conK]
                apply propext
                constructor
                · rintro ⟨a, b⟩; exact ⟨a, fun rs hr => b _ _ ⟨rs, hr, rfl, rfl⟩⟩
                · rintro ⟨a, b⟩; refine ⟨a, ?_⟩; rintro p o' ⟨rs, hr, rfl, rfl⟩; exact b rs hr
theorem op_call {x : Operand} {args : Array Operand} {ts : Array Nat} : runOp E ops ⟨d, .call ⟨.value x, args, ts⟩, ty, pos, af, none⟩ S K = iK E d S K none ⟨.value x, args, ts⟩ (icallInfo S ⟨.value x, args, ts⟩) := by
  unfold runOp rep wantedP
  simp only [Option.bind_some]
  exact run_call rfl rfl (.inl ⟨rfl, rfl, rfl⟩)
theorem op_gcall {x : Operand} {args : Array Operand} {ts : Array Nat} : runOp E ops ⟨d, .call ⟨.value x, args, ts⟩, ty, pos, af, some (j, want)⟩ S K = cgK E d S K ⟨.value x, args, ts⟩ (gK ops S j want) := by
  unfold runOp rep wantedP gK cgK
  simp only
  cases h1 : (ops[j]?).bind (·.dst) with
  | none => rfl
  | some d' =>
    simp only
    cases h2 : gB (S.t d') want with
    | none => rfl
    | some g =>
      simp only [Option.bind_some]
      exact run_call rfl rfl (.inr ⟨by simp, rfl⟩)
theorem icallInfo_func {f : Nat} {args : Array Operand} {ts : Array Nat} : icallInfo S ⟨.value (.func f), args, ts⟩ = some (f, args.toList.map S.sv ++ [], argsC S args.toList ∧ True) := rfl
def ciK (f : Nat) (ks : List Nat) (c : Prop) : Option (List D) → Option CI
  | some ds => some ⟨f, ds, ks, c⟩
  | none => none
theorem ciK_some {f : Nat} {ks : List Nat} {c : Prop} {ds : List D} : ciK f ks c (some ds) = some ⟨f, ds, ks, c⟩ := rfl
theorem callInfo_func {f : Nat} {args : Array Operand} {ts : Array Nat} : callInfo E S ⟨.value (.func f), args, ts⟩ = ciK f (args.toList.flatMap fun x => keysV S (S.sv x)) (argsC S args.toList) (snapVs E S args.toList ts.toList) := by
  simp only [callInfo, St.sv, St.ev, strip, St.sc, stripC]
  cases h : snapVs E S args.toList ts.toList with
  | none => simp [h, ciK]
  | some ds => simp [h, ciK]
def snapK (E : Env) (S : St) (xs : List Operand) (ts : List Nat) : Option D → Option (List D)
  | some d => (snapVs E S xs ts).map (d :: ·)
  | none => none
theorem snapVs_nil : snapVs E S [] [] = some [] := rfl
theorem snapVs_cons {x : Operand} {xs : List Operand} {t : Nat} {ts : List Nat} : snapVs E S (x :: xs) (t :: ts) = (snapV E S t (S.sv x)).bind fun d => (snapVs E S xs ts).map (d :: ·) := rfl
end
/-! ### 25. Named truth values: so that conditions don't grow -/
def Named (b e : Bool) : Prop := b = e
section
variable {E : Env} {ops : Array Oper} {S : St} {K : St → Prop} {d : Option Nat} {dd j ty : Nat} {pos : String} {af : Array Edge} {want : Bool}
def pN (d : Option Nat) (S : St) (K : St → Prop) (g : Option Bool) (r : PR) : Prop := pK d S K g r
theorem pN_bool {c : Prop} {e : Bool} : pN d S K none (some (c, .d (.bool e))) = (c ∧ ∀ b, Named b e → K (S.after d (.d (.bool b)) S.o)) := by
  apply propext; constructor
  · rintro ⟨h1, h2⟩; exact ⟨h1, fun b hb => by unfold Named at hb; subst hb; exact h2⟩
  · rintro ⟨h1, h2⟩; exact ⟨h1, h2 e rfl⟩
theorem pN_int {c : Prop} {k : IntKind} {n : Int} : pN d S K none (some (c, .d (.int k n))) = (c ∧ K (S.after d (.d (.int k n)) S.o)) := rfl
theorem pN_str {c : Prop} {n : ByteArray} : pN d S K none (some (c, .d (.str n))) = (c ∧ K (S.after d (.d (.str n)) S.o)) := rfl
theorem pN_gbool {g : Bool} {c : Prop} {e : Bool} : pN d S K (some g) (some (c, .d (.bool e))) = ((g = true → c) ∧ ∀ b, Named b e → K (S.after d (.opt g (.d (.bool b))) S.o)) := by
  apply propext; constructor
  · rintro ⟨h1, h2⟩; exact ⟨h1, fun b hb => by unfold Named at hb; subst hb; exact h2⟩
  · rintro ⟨h1, h2⟩; exact ⟨h1, h2 e rfl⟩
theorem pN_gint {g : Bool} {c : Prop} {k : IntKind} {n : Int} : pN d S K (some g) (some (c, .d (.int k n))) = ((g = true → c) ∧ K (S.after d (.opt g (.d (.int k n))) S.o)) := rfl
theorem pN_gstr {g : Bool} {c : Prop} {n : ByteArray} : pN d S K (some g) (some (c, .d (.str n))) = ((g = true → c) ∧ K (S.after d (.opt g (.d (.str n))) S.o)) := rfl
def gpN (d : Option Nat) (S : St) (K : St → Prop) (r : PR) (g : Option Bool) : Prop := gpK d S K r g
theorem gpN_some {g : Bool} {r : PR} : gpN d S K r (some g) = pN d S K (some g) r := rfl
theorem on_bin {op : BinOp} {t t' : Nat} {x y : Operand} : runOp E ops ⟨d, .binOp op t x y t', ty, pos, af, none⟩ S K = pN d S K none (pmap (S.sc x ∧ S.sc y) (binV E op t (S.sv x) (S.sv y))) := op_bin
theorem on_gbin {op : BinOp} {t t' : Nat} {x y : Operand} : runOp E ops ⟨d, .binOp op t x y t', ty, pos, af, some (j, want)⟩ S K = gpN d S K (pmap (S.sc x ∧ S.sc y) (binV E op t (S.sv x) (S.sv y))) (gK ops S j want) := op_gbin
theorem on_pick {c a b : Operand} : runOp E ops ⟨d, .pick c a b, ty, pos, af, none⟩ S K = pN d S K none (pmap (S.sc c) (pickV (S.sv c) (S.sv a) (S.sv b) (S.sc a) (S.sc b))) := op_pick
theorem on_gpick {c a b : Operand} : runOp E ops ⟨d, .pick c a b, ty, pos, af, some (j, want)⟩ S K = gpN d S K (pmap (S.sc c) (pickV (S.sv c) (S.sv a) (S.sv b) (S.sc a) (S.sc b))) (gK ops S j want) := op_gpick
end
end Go.Proofs.Ytomnjbebgfadoaa.Pi
end
section
/- Codecs between data and Lean's values; contracts by them.
   Conditions: none; definitions and lemmas. -/
set_option linter.unusedVariables false
set_option linter.unusedSimpArgs false
namespace Go.Proofs.Ytomnjbebgfadoaa.Pi
open Go Go.RowKit

/-! ### 24. Codecs -/
def dInt (k : IntKind) : D → Option Int
  | .int k' n => if k' = k then some n else none
  | _ => none
def dBool : D → Option Bool
  | .bool b => some b
  | _ => none
def dStr : D → Option ByteArray
  | .str s => some s
  | _ => none
def dRows {A : Type} (f : List D → Option A) : List (List D) → Option (List A)
  | [] => some []
  | r :: rs => (f r).bind fun x => (dRows f rs).map (x :: ·)
def dLst {A : Type} (sz : Nat) (f : List D → Option A) : D → Option (List A)
  | .lst sz' xs => if sz' = sz then dRows f xs else none
  | _ => none
def dAgg {A : Type} (f : List D → Option A) : D → Option A
  | .agg cs => f cs
  | _ => none
theorem dInt_iff {k : IntKind} {d : D} {n : Int} : dInt k d = some n ↔ d = .int k n := by
  cases d <;> simp [dInt]
theorem dBool_iff {d : D} {b : Bool} : dBool d = some b ↔ d = .bool b := by cases d <;> simp [dBool]
theorem dStr_iff {d : D} {s : ByteArray} : dStr d = some s ↔ d = .str s := by cases d <;> simp [dStr]
theorem dInt_int (k : IntKind) (n : Int) : dInt k (.int k n) = some n := by simp [dInt]
theorem dBool_bool (b : Bool) : dBool (.bool b) = some b := rfl
theorem dStr_str (b : ByteArray) : dStr (.str b) = some b := rfl
theorem dAgg_agg {A : Type} (f : List D → Option A) (cs : List D) : dAgg f (.agg cs) = f cs := rfl
theorem dLst_lst {A : Type} (sz : Nat) (f : List D → Option A) (xs : List (List D)) : dLst sz f (.lst sz xs) = dRows f xs := by simp [dLst]
theorem dRows_nil {A : Type} (f : List D → Option A) : dRows f [] = some [] := rfl
theorem dRows_cons {A : Type} (f : List D → Option A) (r : List D) (rs : List (List D)) : dRows f (r :: rs) = (f r).bind fun x => (dRows f rs).map (x :: ·) := rfl
theorem dRows_iff {A : Type} {f : List D → Option A} {row : A → List D} (h : ∀ r x, f r = some x ↔ r = row x) : ∀ {rs : List (List D)} {xs : List A}, dRows f rs = some xs ↔ rs = xs.map row
  | [], xs => by cases xs <;> simp [dRows]
  | r :: rs, xs => by
    simp only [dRows, Option.bind_eq_some_iff, Option.map_eq_some_iff, h]
    cases xs with
    | nil => simp
    | cons x xs =>
      simp only [List.cons.injEq, List.map_cons]
      constructor
      · rintro ⟨a, h1, b, h2, rfl, rfl⟩; exact ⟨h1, (dRows_iff h).1 h2⟩
      · rintro ⟨h1, h2⟩; exact ⟨x, h1, xs, (dRows_iff h).2 h2, rfl, rfl⟩
theorem dRows_map {A : Type} {f : List D → Option A} {row : A → List D} (h : ∀ r x, f r = some x ↔ r = row x) (xs : List A) : dRows f (xs.map row) = some xs := (dRows_iff h).2 rfl
theorem dLst_iff {A : Type} {f : List D → Option A} {row : A → List D} (h : ∀ r x, f r = some x ↔ r = row x) {sz : Nat} {d : D} {xs : List A} : dLst sz f d = some xs ↔ d = .lst sz (xs.map row) := by
  cases d <;> simp [dLst]
  rename_i sz' rs
  rw [dRows_iff h]
  exact fun _ => Iff.rfl
theorem dAgg_iff {A : Type} {f : List D → Option A} {row : A → List D} (h : ∀ r x, f r = some x ↔ r = row x) {d : D} {x : A} : dAgg f d = some x ↔ d = .agg (row x) := by
  cases d <;> simp [dAgg, h]
/-- Rows of one cell. -/
def irow (n : Int) : List D := [.int .i64 n]
def iof : List D → Option Int
  | [d] => dInt .i64 d
  | _ => none
theorem iof_iff (r : List D) (n : Int) : iof r = some n ↔ r = irow n := by
  match r with
  | [] => simp [iof, irow]
  | [d] => simp [iof, irow, dInt_iff]
  | _ :: _ :: _ => simp [iof, irow]
def srow (s : ByteArray) : List D := [.str s]
def sof : List D → Option ByteArray
  | [d] => dStr d
  | _ => none
theorem sof_iff (r : List D) (n : ByteArray) : sof r = some n ↔ r = srow n := by
  match r with
  | [] => simp [sof, srow]
  | [d] => simp [sof, srow, dStr_iff]
  | _ :: _ :: _ => simp [sof, srow]
def brow (s : Bool) : List D := [.bool s]
def bof : List D → Option Bool
  | [d] => dBool d
  | _ => none
theorem bof_iff (r : List D) (n : Bool) : bof r = some n ↔ r = brow n := by
  match r with
  | [] => simp [bof, brow]
  | [d] => simp [bof, brow, dBool_iff]
  | _ :: _ :: _ => simp [bof, brow]
/-- Rows that hold a list. -/
def lrow {A : Type} (sz : Nat) (row : A → List D) (l : List A) : List D := [.lst sz (l.map row)]
def lof {A : Type} (sz : Nat) (f : List D → Option A) : List D → Option (List A)
  | [d] => dLst sz f d
  | _ => none
theorem lof_iff {A : Type} {f : List D → Option A} {row : A → List D} (h : ∀ r x, f r = some x ↔ r = row x) (sz : Nat) (r : List D) (l : List A) : lof sz f r = some l ↔ r = lrow sz row l := by
  match r with
  | [] => simp [lof, lrow]
  | [d] => simp [lof, lrow, dLst_iff h]
  | _ :: _ :: _ => simp [lof, lrow]

/-- A contract by a codec of the arguments. -/
structure Cod (A : Type) where
  enc : A → List D
  dec : List D → Option A
  iff : ∀ ds a, dec ds = some a ↔ ds = enc a
def Con.of {A : Type} (c : Cod A) (P : A → Prop) (Q : A → List RV → Prop) (flat : Bool) : Con := ⟨fun ds => ∃ a, c.dec ds = some a ∧ P a, fun ds rs => ∃ a, c.dec ds = some a ∧ Q a rs, flat⟩
theorem of_pre {A : Type} {c : Cod A} {P : A → Prop} {Q : A → List RV → Prop} {fl : Bool} {ds : List D} : (Con.of c P Q fl).pre ds = ∃ a, c.dec ds = some a ∧ P a := rfl
theorem of_post {A : Type} {c : Cod A} {P : A → Prop} {Q : A → List RV → Prop} {fl : Bool} {ds : List D} {rs : List RV} : (Con.of c P Q fl).post ds rs = ∃ a, c.dec ds = some a ∧ Q a rs := rfl
theorem of_flat {A : Type} {c : Cod A} {P : A → Prop} {Q : A → List RV → Prop} {fl : Bool} : (Con.of c P Q fl).flat = fl := rfl

theorem con_of {A : Type} {c : Cod A} {P : A → Prop} {Q : A → List RV → Prop} {fl : Bool} {E : Env} (hE : EnvOk E) {f : Nat} {fn : Func} {cd : Code} (hf : E.P.funcs[f]? = some fn) (hb : fn.body = some cd) (hn : E.n ≤ fn.ntmps) (hco : codeOk E cd = true) {rs : List ResultVar} (hrs : fn.results = rs.toArray) (hl : rs.length ≤ 3)
    (hq3 : rs.length = 3 → rs.all (fun r => match r with | .tmp _ => true | _ => false) = true) (ms : List RM)
    (hsome : ∀ a, P a → ∃ r, Q a r) (hflat : fl = true → ∀ a r, Q a r → ∀ x ∈ r, RV.flat x = true)
    (h : ∀ a, P a → run E cd (endP (outK E ms rs (Q a))) (startP ((c.enc a).map .d) noObs)) : ConOk E.P f (Con.of c P Q fl) := by
  refine con_of_run hE hf hb hn hco hrs hl hq3 ms ?_ ?_ ?_
  · rintro ds ⟨a, ha, hp⟩
    obtain ⟨r, hr⟩ := hsome a hp
    exact ⟨r, a, ha, hr⟩
  · rintro hfl ds r ⟨a, ha, hq⟩ x hx
    exact hflat hfl a r hq x hx
  · rintro ds ⟨a, ha, hp⟩
    have e := (c.iff ds a).1 ha
    have h1 := h a hp
    have e2 : (Con.of c P Q fl).post ds = Q a := by
      funext rs
      apply propext
      constructor
      · rintro ⟨a', ha', hq⟩
        rw [ha] at ha'
        simp only [Option.some.injEq] at ha'
        subst ha'
        exact hq
      · intro hq; exact ⟨a, ha, hq⟩
    rw [e2, e]
    exact h1
theorem flat1 {A : Type} {F : A → D} (h : ∀ a, (F a).flat = true) : true = true → ∀ a r, r = [RV.d (F a)] → ∀ x ∈ r, RV.flat x = true := by
  rintro _ a r rfl x hx
  simp only [List.mem_singleton] at hx
  subst hx
  exact h a

def cod0 : Cod Unit := ⟨fun _ => [], fun ds => match ds with | [] => some () | _ => none, fun ds a => by cases ds <;> simp⟩
def cod1 {A : Type} (e : A → D) (f : D → Option A) (h : ∀ d a, f d = some a ↔ d = e a) : Cod A := ⟨fun a => [e a], fun ds => match ds with | [d] => f d | _ => none, fun ds a => by
  match ds with
  | [] => simp
  | [d] => simp [h]
  | _ :: _ :: _ => simp⟩
def codC {A B : Type} (e : A → D) (f : D → Option A) (h : ∀ d a, f d = some a ↔ d = e a) (r : Cod B) : Cod (A × B) := ⟨fun a => e a.1 :: r.enc a.2, fun ds => match ds with | d :: ds => (f d).bind fun a => (r.dec ds).map fun b => (a, b) | _ => none, fun ds a => by
  match ds with
  | [] => simp
  | d :: ds =>
    simp only [Option.bind_eq_some_iff, Option.map_eq_some_iff, h, r.iff, List.cons.injEq]
    constructor
    · rintro ⟨x, h1, y, h2, rfl⟩; exact ⟨h1, h2⟩
    · rintro ⟨h1, h2⟩; exact ⟨a.1, h1, a.2, h2, rfl⟩⟩
theorem cod0_enc (a : Unit) : cod0.enc a = [] := rfl
theorem cod0_dec : cod0.dec [] = some () := rfl
section
variable {A B : Type} {e : A → D} {f : D → Option A} {h : ∀ d a, f d = some a ↔ d = e a} {r : Cod B}
theorem cod1_enc (a : A) : (cod1 e f h).enc a = [e a] := rfl
theorem cod1_dec (d : D) : (cod1 e f h).dec [d] = f d := rfl
theorem codC_enc (a : A × B) : (codC e f h r).enc a = e a.1 :: r.enc a.2 := rfl
theorem codC_dec (d : D) (ds : List D) : (codC e f h r).dec (d :: ds) = (f d).bind fun a => (r.dec ds).map fun b => (a, b) := rfl
end
theorem bind_some_ex {A B : Type} {a : A} {P : A → Prop} : (∃ x, some a = some x ∧ P x) = P a := by
  apply propext; constructor
  · rintro ⟨x, h, hp⟩; simp only [Option.some.injEq] at h; subst h; exact hp
  · intro hp; exact ⟨a, rfl, hp⟩
theorem some_ex {A : Type} {a : A} {P : A → Prop} : (∃ x, some a = some x ∧ P x) = P a := by
  apply propext; constructor
  · rintro ⟨x, h, hp⟩; simp only [Option.some.injEq] at h; subst h; exact hp
  · intro hp; exact ⟨a, rfl, hp⟩
theorem some_ex1 {A : Type} {a : A} : (∃ x, some a = some x) = True := by
  apply propext; exact ⟨fun _ => trivial, fun _ => ⟨a, rfl⟩⟩
theorem getD_map {A : Type} (row : A → List D) (l : List A) (i : Nat) (z : List D) (x : A) (hz : z = row x) : (l.map row).getD i z = row (l.getD i x) := by
  subst hz
  simp only [List.getD_eq_getElem?_getD, List.getElem?_map]
  cases l[i]? <;> rfl
theorem ex_bool : (∃ rs : List RV, ∃ b : Bool, rs = [.d (.bool b)]) = True := by
  apply propext; exact ⟨fun _ => trivial, fun _ => ⟨_, true, rfl⟩⟩
theorem all_bool {K : List RV → Prop} : (∀ rs, (∃ b : Bool, rs = [.d (.bool b)]) → K rs) = ∀ b : Bool, K [.d (.bool b)] := by
  apply propext; constructor
  · intro h b; exact h _ ⟨b, rfl⟩
  · rintro h rs ⟨b, rfl⟩; exact h b
theorem ex_eq {A : Type} {a : A} : (∃ x, x = a) = True := by
  apply propext; exact ⟨fun _ => trivial, fun _ => ⟨a, rfl⟩⟩
theorem wrap_i (x : Int) : IntKind.i64.wrap x = if x % 18446744073709551616 ≥ 9223372036854775808 then x % 18446744073709551616 - 18446744073709551616 else x % 18446744073709551616 := by
  simp [IntKind.wrap, IntKind.bits, IntKind.signed]
theorem wrap64 {x : Int} (h1 : -9223372036854775808 ≤ x) (h2 : x ≤ 9223372036854775807) : IntKind.i64.wrap x = x := by
  rw [wrap_i]
  split <;> omega
theorem maxLen_eq : maxLen = 9223372036854775807 := rfl
theorem all_ex {A : Type} {F : A → List RV} {K : List RV → Prop} : (∀ rs, (∃ x, rs = F x) → K rs) = ∀ x, K (F x) := by
  apply propext; constructor
  · intro h b; exact h _ ⟨b, rfl⟩
  · rintro h rs ⟨b, rfl⟩; exact h b
theorem all_exc {A : Type} {C : A → Prop} {F : A → List RV} {K : List RV → Prop} : (∀ rs, (∃ x, C x ∧ rs = F x) → K rs) = ∀ x, C x → K (F x) := by
  apply propext; constructor
  · intro h b hb; exact h _ ⟨b, hb, rfl⟩
  · rintro h rs ⟨b, hb, rfl⟩; exact h b hb
theorem ex_ex {A : Type} [Inhabited A] {F : A → List RV} : (∃ rs, ∃ x, rs = F x) = True := by
  apply propext; exact ⟨fun _ => trivial, fun _ => ⟨_, default, rfl⟩⟩
theorem ex_exc {A : Type} {C : A → Prop} {F : A → List RV} : (∃ rs, ∃ x, C x ∧ rs = F x) = ∃ x, C x := by
  apply propext; exact ⟨fun ⟨_, x, h, _⟩ => ⟨x, h⟩, fun ⟨x, h⟩ => ⟨_, x, h, rfl⟩⟩
theorem ex_btrue {C : Prop} : (∃ b : Bool, b = true → C) = True := by
  apply propext; exact ⟨fun _ => trivial, fun _ => ⟨false, by simp⟩⟩
theorem dropObs_nil (o : Objs) : dropObs o [] = o := by funext k; simp [dropObs]
theorem dropObs_apply (o : Objs) (ks : List Nat) (k : Nat) : dropObs o ks k = if ks.contains k = true then ((o k).1, none) else o k := by simp [dropObs]
theorem contains_cons' (a k : Nat) (l : List Nat) : (a :: l).contains k = (k == a || l.contains k) := List.contains_cons
theorem newOb_apply (o : Objs) (K : Nat) (x : Ob) (k : Nat) : newOb o K x k = if k = K then ((o K).1 + 1, some x) else o k := rfl
theorem bsize (a : Array UInt8) : (ByteArray.mk a).size = a.size := rfl
theorem lapp_nil {α : Type} (l : List α) : List.append [] l = l := rfl
theorem lapp_cons {α : Type} (a : α) (l m : List α) : List.append (a :: l) m = a :: List.append l m := rfl
end Go.Proofs.Ytomnjbebgfadoaa.Pi
end
section
/- The program's structs as Lean's, and their codecs.
   Conditions: none; definitions and lemmas. -/
set_option linter.unusedVariables false
set_option linter.unusedSimpArgs false
namespace Go.Proofs.Ytomnjbebgfadoaa.Pi
open Go Go.RowKit

structure Point where
  X : Int
  Y : Int
def Point.row (p : Point) : List D := [.int .i64 p.X, .int .i64 p.Y]
def Point.zero : Point := ⟨0, 0⟩
def Point.of : List D → Option Point
  | [a0, a1] => (dInt .i64 a0).bind fun b0 => (dInt .i64 a1).bind fun b1 => some ⟨b0, b1⟩
  | _ => none
theorem Point.iff (r : List D) (x : Point) : Point.of r = some x ↔ r = x.row := by
  constructor
  · intro h
    unfold Point.of at h
    split at h
    · simp only [Option.bind_eq_some_iff, Option.some.injEq, dInt_iff] at h
      obtain ⟨b0, e0, b1, e1, e⟩ := h
      subst e
      rw [e0, e1]; rfl
    · cases h
  · rintro rfl
    simp [Point.of, Point.row, dInt_int, dBool_bool, dStr_str, dLst_lst]
def Point.d (p : Point) : D := .agg p.row
theorem Point.dec (p : Point) : dAgg Point.of p.d = some p := (dAgg_iff Point.iff).2 rfl
theorem Point.len (p : Point) : p.row.length = 2 := rfl
theorem Point.getD (l : List Point) (i : Nat) : (l.map Point.row).getD i [.int .i64 0, .int .i64 0] = (l.getD i Point.zero).row := getD_map _ _ _ _ _ rfl
theorem Point.diff (d : D) (x : Point) : dAgg Point.of d = some x ↔ d = Point.d x := dAgg_iff Point.iff
theorem Point.dec2 (p : Point) : dAgg Point.of (.agg [.int .i64 p.X, .int .i64 p.Y]) = some p := Point.dec p
theorem Point.of2 (p : Point) : Point.of [.int .i64 p.X, .int .i64 p.Y] = some p := (Point.iff _ _).2 rfl
theorem Point.drows (l : List Point) : dRows Point.of (l.map Point.row) = some l := dRows_map Point.iff l
structure Cell where
  Index : Int
  Area : Int
def Cell.row (p : Cell) : List D := [.int .i64 p.Index, .int .i64 p.Area]
def Cell.zero : Cell := ⟨0, 0⟩
def Cell.of : List D → Option Cell
  | [a0, a1] => (dInt .i64 a0).bind fun b0 => (dInt .i64 a1).bind fun b1 => some ⟨b0, b1⟩
  | _ => none
theorem Cell.iff (r : List D) (x : Cell) : Cell.of r = some x ↔ r = x.row := by
  constructor
  · intro h
    unfold Cell.of at h
    split at h
    · simp only [Option.bind_eq_some_iff, Option.some.injEq, dInt_iff] at h
      obtain ⟨b0, e0, b1, e1, e⟩ := h
      subst e
      rw [e0, e1]; rfl
    · cases h
  · rintro rfl
    simp [Cell.of, Cell.row, dInt_int, dBool_bool, dStr_str, dLst_lst]
def Cell.d (p : Cell) : D := .agg p.row
theorem Cell.dec (p : Cell) : dAgg Cell.of p.d = some p := (dAgg_iff Cell.iff).2 rfl
theorem Cell.len (p : Cell) : p.row.length = 2 := rfl
theorem Cell.getD (l : List Cell) (i : Nat) : (l.map Cell.row).getD i [.int .i64 0, .int .i64 0] = (l.getD i Cell.zero).row := getD_map _ _ _ _ _ rfl
theorem Cell.diff (d : D) (x : Cell) : dAgg Cell.of d = some x ↔ d = Cell.d x := dAgg_iff Cell.iff
theorem Cell.dec2 (p : Cell) : dAgg Cell.of (.agg [.int .i64 p.Index, .int .i64 p.Area]) = some p := Cell.dec p
theorem Cell.of2 (p : Cell) : Cell.of [.int .i64 p.Index, .int .i64 p.Area] = some p := (Cell.iff _ _).2 rfl
theorem Cell.drows (l : List Cell) : dRows Cell.of (l.map Cell.row) = some l := dRows_map Cell.iff l
structure Band where
  Lo : List Point
  Hi : List Point
def Band.row (p : Band) : List D := [.lst 2 (p.Lo.map Point.row), .lst 2 (p.Hi.map Point.row)]
def Band.zero : Band := ⟨[], []⟩
def Band.of : List D → Option Band
  | [a0, a1] => (dLst 2 Point.of a0).bind fun b0 => (dLst 2 Point.of a1).bind fun b1 => some ⟨b0, b1⟩
  | _ => none
theorem Band.iff (r : List D) (x : Band) : Band.of r = some x ↔ r = x.row := by
  constructor
  · intro h
    unfold Band.of at h
    split at h
    · simp only [Option.bind_eq_some_iff, Option.some.injEq, dLst_iff Point.iff] at h
      obtain ⟨b0, e0, b1, e1, e⟩ := h
      subst e
      rw [e0, e1]; rfl
    · cases h
  · rintro rfl
    simp [Band.of, Band.row, dInt_int, dBool_bool, dStr_str, dLst_lst, dRows_map Point.iff]
def Band.d (p : Band) : D := .agg p.row
theorem Band.dec (p : Band) : dAgg Band.of p.d = some p := (dAgg_iff Band.iff).2 rfl
theorem Band.len (p : Band) : p.row.length = 2 := rfl
theorem Band.getD (l : List Band) (i : Nat) : (l.map Band.row).getD i [.lst 2 [], .lst 2 []] = (l.getD i Band.zero).row := getD_map _ _ _ _ _ rfl
theorem Band.diff (d : D) (x : Band) : dAgg Band.of d = some x ↔ d = Band.d x := dAgg_iff Band.iff
theorem Band.dec2 (p : Band) : dAgg Band.of (.agg [.lst 2 (p.Lo.map Point.row), .lst 2 (p.Hi.map Point.row)]) = some p := Band.dec p
theorem Band.of2 (p : Band) : Band.of [.lst 2 (p.Lo.map Point.row), .lst 2 (p.Hi.map Point.row)] = some p := (Band.iff _ _).2 rfl
theorem Band.drows (l : List Band) : dRows Band.of (l.map Band.row) = some l := dRows_map Band.iff l
structure Place where
  Name : ByteArray
  Kind : Int
  Office : Int
  Cap : Int
  Level : List Point
  Start : List Int
  Num : Int
  Den : Int
  Down : Int
  Delay : Int
  Floor : Int
  Rain : List Cell
def Place.row (p : Place) : List D := [.str p.Name, .int .i64 p.Kind, .int .i64 p.Office, .int .i64 p.Cap, .lst 2 (p.Level.map Point.row), .lst 1 (p.Start.map irow), .int .i64 p.Num, .int .i64 p.Den, .int .i64 p.Down, .int .i64 p.Delay, .int .i64 p.Floor, .lst 2 (p.Rain.map Cell.row)]
def Place.zero : Place := ⟨⟨#[]⟩, 0, 0, 0, [], [], 0, 0, 0, 0, 0, []⟩
def Place.of : List D → Option Place
  | [a0, a1, a2, a3, a4, a5, a6, a7, a8, a9, a10, a11] => (dStr a0).bind fun b0 => (dInt .i64 a1).bind fun b1 => (dInt .i64 a2).bind fun b2 => (dInt .i64 a3).bind fun b3 => (dLst 2 Point.of a4).bind fun b4 => (dLst 1 iof a5).bind fun b5 => (dInt .i64 a6).bind fun b6 => (dInt .i64 a7).bind fun b7 => (dInt .i64 a8).bind fun b8 => (dInt .i64 a9).bind fun b9 => (dInt .i64 a10).bind fun b10 => (dLst 2 Cell.of a11).bind fun b11 => some ⟨b0, b1, b2, b3, b4, b5, b6, b7, b8, b9, b10, b11⟩
  | _ => none
theorem Place.iff (r : List D) (x : Place) : Place.of r = some x ↔ r = x.row := by
  constructor
  · intro h
    unfold Place.of at h
    split at h
    · simp only [Option.bind_eq_some_iff, Option.some.injEq, dStr_iff, dInt_iff, dLst_iff Point.iff, dLst_iff iof_iff, dLst_iff Cell.iff] at h
      obtain ⟨b0, e0, b1, e1, b2, e2, b3, e3, b4, e4, b5, e5, b6, e6, b7, e7, b8, e8, b9, e9, b10, e10, b11, e11, e⟩ := h
      subst e
      rw [e0, e1, e2, e3, e4, e5, e6, e7, e8, e9, e10, e11]; rfl
    · cases h
  · rintro rfl
    simp [Place.of, Place.row, dInt_int, dBool_bool, dStr_str, dLst_lst, dRows_map Point.iff, dRows_map iof_iff, dRows_map Cell.iff]
def Place.d (p : Place) : D := .agg p.row
theorem Place.dec (p : Place) : dAgg Place.of p.d = some p := (dAgg_iff Place.iff).2 rfl
theorem Place.len (p : Place) : p.row.length = 12 := rfl
theorem Place.getD (l : List Place) (i : Nat) : (l.map Place.row).getD i [.str ⟨#[]⟩, .int .i64 0, .int .i64 0, .int .i64 0, .lst 2 [], .lst 1 [], .int .i64 0, .int .i64 0, .int .i64 0, .int .i64 0, .int .i64 0, .lst 2 []] = (l.getD i Place.zero).row := getD_map _ _ _ _ _ rfl
theorem Place.diff (d : D) (x : Place) : dAgg Place.of d = some x ↔ d = Place.d x := dAgg_iff Place.iff
theorem Place.dec2 (p : Place) : dAgg Place.of (.agg [.str p.Name, .int .i64 p.Kind, .int .i64 p.Office, .int .i64 p.Cap, .lst 2 (p.Level.map Point.row), .lst 1 (p.Start.map irow), .int .i64 p.Num, .int .i64 p.Den, .int .i64 p.Down, .int .i64 p.Delay, .int .i64 p.Floor, .lst 2 (p.Rain.map Cell.row)]) = some p := Place.dec p
theorem Place.of2 (p : Place) : Place.of [.str p.Name, .int .i64 p.Kind, .int .i64 p.Office, .int .i64 p.Cap, .lst 2 (p.Level.map Point.row), .lst 1 (p.Start.map irow), .int .i64 p.Num, .int .i64 p.Den, .int .i64 p.Down, .int .i64 p.Delay, .int .i64 p.Floor, .lst 2 (p.Rain.map Cell.row)] = some p := (Place.iff _ _).2 rfl
theorem Place.drows (l : List Place) : dRows Place.of (l.map Place.row) = some l := dRows_map Place.iff l
structure Link where
  Name : ByteArray
  Kind : Int
  From : Int
  To : Int
  Rate : List Point
  Band : Band
  Positions : Int
  Speed : Int
  Leak : Int
  Crest : Int
  Num : Int
  Den : Int
  Prime : Int
  Break : Int
  BackNum : Int
  BackDen : Int
  Delay : Int
def Link.row (p : Link) : List D := [.str p.Name, .int .i64 p.Kind, .int .i64 p.From, .int .i64 p.To, .lst 2 (p.Rate.map Point.row), .lst 2 (p.Band.Lo.map Point.row), .lst 2 (p.Band.Hi.map Point.row), .int .i64 p.Positions, .int .i64 p.Speed, .int .i64 p.Leak, .int .i64 p.Crest, .int .i64 p.Num, .int .i64 p.Den, .int .i64 p.Prime, .int .i64 p.Break, .int .i64 p.BackNum, .int .i64 p.BackDen, .int .i64 p.Delay]
def Link.zero : Link := ⟨⟨#[]⟩, 0, 0, 0, [], ⟨[], []⟩, 0, 0, 0, 0, 0, 0, 0, 0, 0, 0, 0⟩
def Link.of : List D → Option Link
  | [a0, a1, a2, a3, a4, a5, a6, a7, a8, a9, a10, a11, a12, a13, a14, a15, a16, a17] => (dStr a0).bind fun b0 => (dInt .i64 a1).bind fun b1 => (dInt .i64 a2).bind fun b2 => (dInt .i64 a3).bind fun b3 => (dLst 2 Point.of a4).bind fun b4 => (dLst 2 Point.of a5).bind fun b5 => (dLst 2 Point.of a6).bind fun b6 => (dInt .i64 a7).bind fun b7 => (dInt .i64 a8).bind fun b8 => (dInt .i64 a9).bind fun b9 => (dInt .i64 a10).bind fun b10 => (dInt .i64 a11).bind fun b11 => (dInt .i64 a12).bind fun b12 => (dInt .i64 a13).bind fun b13 => (dInt .i64 a14).bind fun b14 => (dInt .i64 a15).bind fun b15 => (dInt .i64 a16).bind fun b16 => (dInt .i64 a17).bind fun b17 => some ⟨b0, b1, b2, b3, b4, ⟨b5, b6⟩, b7, b8, b9, b10, b11, b12, b13, b14, b15, b16, b17⟩
  | _ => none
theorem Link.iff (r : List D) (x : Link) : Link.of r = some x ↔ r = x.row := by
  constructor
  · intro h
    unfold Link.of at h
    split at h
    · simp only [Option.bind_eq_some_iff, Option.some.injEq, dStr_iff, dInt_iff, dLst_iff Point.iff] at h
      obtain ⟨b0, e0, b1, e1, b2, e2, b3, e3, b4, e4, b5, e5, b6, e6, b7, e7, b8, e8, b9, e9, b10, e10, b11, e11, b12, e12, b13, e13, b14, e14, b15, e15, b16, e16, b17, e17, e⟩ := h
      subst e
      rw [e0, e1, e2, e3, e4, e5, e6, e7, e8, e9, e10, e11, e12, e13, e14, e15, e16, e17]; rfl
    · cases h
  · rintro rfl
    simp [Link.of, Link.row, dInt_int, dBool_bool, dStr_str, dLst_lst, dRows_map Point.iff]
def Link.d (p : Link) : D := .agg p.row
theorem Link.dec (p : Link) : dAgg Link.of p.d = some p := (dAgg_iff Link.iff).2 rfl
theorem Link.len (p : Link) : p.row.length = 18 := rfl
theorem Link.getD (l : List Link) (i : Nat) : (l.map Link.row).getD i [.str ⟨#[]⟩, .int .i64 0, .int .i64 0, .int .i64 0, .lst 2 [], .lst 2 [], .lst 2 [], .int .i64 0, .int .i64 0, .int .i64 0, .int .i64 0, .int .i64 0, .int .i64 0, .int .i64 0, .int .i64 0, .int .i64 0, .int .i64 0, .int .i64 0] = (l.getD i Link.zero).row := getD_map _ _ _ _ _ rfl
theorem Link.diff (d : D) (x : Link) : dAgg Link.of d = some x ↔ d = Link.d x := dAgg_iff Link.iff
theorem Link.dec2 (p : Link) : dAgg Link.of (.agg [.str p.Name, .int .i64 p.Kind, .int .i64 p.From, .int .i64 p.To, .lst 2 (p.Rate.map Point.row), .lst 2 (p.Band.Lo.map Point.row), .lst 2 (p.Band.Hi.map Point.row), .int .i64 p.Positions, .int .i64 p.Speed, .int .i64 p.Leak, .int .i64 p.Crest, .int .i64 p.Num, .int .i64 p.Den, .int .i64 p.Prime, .int .i64 p.Break, .int .i64 p.BackNum, .int .i64 p.BackDen, .int .i64 p.Delay]) = some p := Link.dec p
theorem Link.of2 (p : Link) : Link.of [.str p.Name, .int .i64 p.Kind, .int .i64 p.From, .int .i64 p.To, .lst 2 (p.Rate.map Point.row), .lst 2 (p.Band.Lo.map Point.row), .lst 2 (p.Band.Hi.map Point.row), .int .i64 p.Positions, .int .i64 p.Speed, .int .i64 p.Leak, .int .i64 p.Crest, .int .i64 p.Num, .int .i64 p.Den, .int .i64 p.Prime, .int .i64 p.Break, .int .i64 p.BackNum, .int .i64 p.BackDen, .int .i64 p.Delay] = some p := (Link.iff _ _).2 rfl
theorem Link.drows (l : List Link) : dRows Link.of (l.map Link.row) = some l := dRows_map Link.iff l
structure Town where
  Name : ByteArray
  Place : Int
  Flood : Int
  Lead : Int
  People : Int
  Watch : Int
  Quorum : Int
def Town.row (p : Town) : List D := [.str p.Name, .int .i64 p.Place, .int .i64 p.Flood, .int .i64 p.Lead, .int .i64 p.People, .int .i64 p.Watch, .int .i64 p.Quorum]
def Town.zero : Town := ⟨⟨#[]⟩, 0, 0, 0, 0, 0, 0⟩
def Town.of : List D → Option Town
  | [a0, a1, a2, a3, a4, a5, a6] => (dStr a0).bind fun b0 => (dInt .i64 a1).bind fun b1 => (dInt .i64 a2).bind fun b2 => (dInt .i64 a3).bind fun b3 => (dInt .i64 a4).bind fun b4 => (dInt .i64 a5).bind fun b5 => (dInt .i64 a6).bind fun b6 => some ⟨b0, b1, b2, b3, b4, b5, b6⟩
  | _ => none
theorem Town.iff (r : List D) (x : Town) : Town.of r = some x ↔ r = x.row := by
  constructor
  · intro h
    unfold Town.of at h
    split at h
    · simp only [Option.bind_eq_some_iff, Option.some.injEq, dStr_iff, dInt_iff] at h
      obtain ⟨b0, e0, b1, e1, b2, e2, b3, e3, b4, e4, b5, e5, b6, e6, e⟩ := h
      subst e
      rw [e0, e1, e2, e3, e4, e5, e6]; rfl
    · cases h
  · rintro rfl
    simp [Town.of, Town.row, dInt_int, dBool_bool, dStr_str, dLst_lst]
def Town.d (p : Town) : D := .agg p.row
theorem Town.dec (p : Town) : dAgg Town.of p.d = some p := (dAgg_iff Town.iff).2 rfl
theorem Town.len (p : Town) : p.row.length = 7 := rfl
theorem Town.getD (l : List Town) (i : Nat) : (l.map Town.row).getD i [.str ⟨#[]⟩, .int .i64 0, .int .i64 0, .int .i64 0, .int .i64 0, .int .i64 0, .int .i64 0] = (l.getD i Town.zero).row := getD_map _ _ _ _ _ rfl
theorem Town.diff (d : D) (x : Town) : dAgg Town.of d = some x ↔ d = Town.d x := dAgg_iff Town.iff
theorem Town.dec2 (p : Town) : dAgg Town.of (.agg [.str p.Name, .int .i64 p.Place, .int .i64 p.Flood, .int .i64 p.Lead, .int .i64 p.People, .int .i64 p.Watch, .int .i64 p.Quorum]) = some p := Town.dec p
theorem Town.of2 (p : Town) : Town.of [.str p.Name, .int .i64 p.Place, .int .i64 p.Flood, .int .i64 p.Lead, .int .i64 p.People, .int .i64 p.Watch, .int .i64 p.Quorum] = some p := (Town.iff _ _).2 rfl
theorem Town.drows (l : List Town) : dRows Town.of (l.map Town.row) = some l := dRows_map Town.iff l
structure Shelter where
  Name : ByteArray
  Room : Int
def Shelter.row (p : Shelter) : List D := [.str p.Name, .int .i64 p.Room]
def Shelter.zero : Shelter := ⟨⟨#[]⟩, 0⟩
def Shelter.of : List D → Option Shelter
  | [a0, a1] => (dStr a0).bind fun b0 => (dInt .i64 a1).bind fun b1 => some ⟨b0, b1⟩
  | _ => none
theorem Shelter.iff (r : List D) (x : Shelter) : Shelter.of r = some x ↔ r = x.row := by
  constructor
  · intro h
    unfold Shelter.of at h
    split at h
    · simp only [Option.bind_eq_some_iff, Option.some.injEq, dStr_iff, dInt_iff] at h
      obtain ⟨b0, e0, b1, e1, e⟩ := h
      subst e
      rw [e0, e1]; rfl
    · cases h
  · rintro rfl
    simp [Shelter.of, Shelter.row, dInt_int, dBool_bool, dStr_str, dLst_lst]
def Shelter.d (p : Shelter) : D := .agg p.row
theorem Shelter.dec (p : Shelter) : dAgg Shelter.of p.d = some p := (dAgg_iff Shelter.iff).2 rfl
theorem Shelter.len (p : Shelter) : p.row.length = 2 := rfl
theorem Shelter.getD (l : List Shelter) (i : Nat) : (l.map Shelter.row).getD i [.str ⟨#[]⟩, .int .i64 0] = (l.getD i Shelter.zero).row := getD_map _ _ _ _ _ rfl
theorem Shelter.diff (d : D) (x : Shelter) : dAgg Shelter.of d = some x ↔ d = Shelter.d x := dAgg_iff Shelter.iff
theorem Shelter.dec2 (p : Shelter) : dAgg Shelter.of (.agg [.str p.Name, .int .i64 p.Room]) = some p := Shelter.dec p
theorem Shelter.of2 (p : Shelter) : Shelter.of [.str p.Name, .int .i64 p.Room] = some p := (Shelter.iff _ _).2 rfl
theorem Shelter.drows (l : List Shelter) : dRows Shelter.of (l.map Shelter.row) = some l := dRows_map Shelter.iff l
structure Gauge where
  Name : ByteArray
  Kind : Int
  Target : Int
  Err : Int
  Drift : Int
def Gauge.row (p : Gauge) : List D := [.str p.Name, .int .i64 p.Kind, .int .i64 p.Target, .int .i64 p.Err, .int .i64 p.Drift]
def Gauge.zero : Gauge := ⟨⟨#[]⟩, 0, 0, 0, 0⟩
def Gauge.of : List D → Option Gauge
  | [a0, a1, a2, a3, a4] => (dStr a0).bind fun b0 => (dInt .i64 a1).bind fun b1 => (dInt .i64 a2).bind fun b2 => (dInt .i64 a3).bind fun b3 => (dInt .i64 a4).bind fun b4 => some ⟨b0, b1, b2, b3, b4⟩
  | _ => none
theorem Gauge.iff (r : List D) (x : Gauge) : Gauge.of r = some x ↔ r = x.row := by
  constructor
  · intro h
    unfold Gauge.of at h
    split at h
    · simp only [Option.bind_eq_some_iff, Option.some.injEq, dStr_iff, dInt_iff] at h
      obtain ⟨b0, e0, b1, e1, b2, e2, b3, e3, b4, e4, e⟩ := h
      subst e
      rw [e0, e1, e2, e3, e4]; rfl
    · cases h
  · rintro rfl
    simp [Gauge.of, Gauge.row, dInt_int, dBool_bool, dStr_str, dLst_lst]
def Gauge.d (p : Gauge) : D := .agg p.row
theorem Gauge.dec (p : Gauge) : dAgg Gauge.of p.d = some p := (dAgg_iff Gauge.iff).2 rfl
theorem Gauge.len (p : Gauge) : p.row.length = 5 := rfl
theorem Gauge.getD (l : List Gauge) (i : Nat) : (l.map Gauge.row).getD i [.str ⟨#[]⟩, .int .i64 0, .int .i64 0, .int .i64 0, .int .i64 0] = (l.getD i Gauge.zero).row := getD_map _ _ _ _ _ rfl
theorem Gauge.diff (d : D) (x : Gauge) : dAgg Gauge.of d = some x ↔ d = Gauge.d x := dAgg_iff Gauge.iff
theorem Gauge.dec2 (p : Gauge) : dAgg Gauge.of (.agg [.str p.Name, .int .i64 p.Kind, .int .i64 p.Target, .int .i64 p.Err, .int .i64 p.Drift]) = some p := Gauge.dec p
theorem Gauge.of2 (p : Gauge) : Gauge.of [.str p.Name, .int .i64 p.Kind, .int .i64 p.Target, .int .i64 p.Err, .int .i64 p.Drift] = some p := (Gauge.iff _ _).2 rfl
theorem Gauge.drows (l : List Gauge) : dRows Gauge.of (l.map Gauge.row) = some l := dRows_map Gauge.iff l
structure Road where
  Name : ByteArray
  From : Int
  To : Int
  Hours : Int
  Flow : Int
  By : Int
  Limit : Int
def Road.row (p : Road) : List D := [.str p.Name, .int .i64 p.From, .int .i64 p.To, .int .i64 p.Hours, .int .i64 p.Flow, .int .i64 p.By, .int .i64 p.Limit]
def Road.zero : Road := ⟨⟨#[]⟩, 0, 0, 0, 0, 0, 0⟩
def Road.of : List D → Option Road
  | [a0, a1, a2, a3, a4, a5, a6] => (dStr a0).bind fun b0 => (dInt .i64 a1).bind fun b1 => (dInt .i64 a2).bind fun b2 => (dInt .i64 a3).bind fun b3 => (dInt .i64 a4).bind fun b4 => (dInt .i64 a5).bind fun b5 => (dInt .i64 a6).bind fun b6 => some ⟨b0, b1, b2, b3, b4, b5, b6⟩
  | _ => none
theorem Road.iff (r : List D) (x : Road) : Road.of r = some x ↔ r = x.row := by
  constructor
  · intro h
    unfold Road.of at h
    split at h
    · simp only [Option.bind_eq_some_iff, Option.some.injEq, dStr_iff, dInt_iff] at h
      obtain ⟨b0, e0, b1, e1, b2, e2, b3, e3, b4, e4, b5, e5, b6, e6, e⟩ := h
      subst e
      rw [e0, e1, e2, e3, e4, e5, e6]; rfl
    · cases h
  · rintro rfl
    simp [Road.of, Road.row, dInt_int, dBool_bool, dStr_str, dLst_lst]
def Road.d (p : Road) : D := .agg p.row
theorem Road.dec (p : Road) : dAgg Road.of p.d = some p := (dAgg_iff Road.iff).2 rfl
theorem Road.len (p : Road) : p.row.length = 7 := rfl
theorem Road.getD (l : List Road) (i : Nat) : (l.map Road.row).getD i [.str ⟨#[]⟩, .int .i64 0, .int .i64 0, .int .i64 0, .int .i64 0, .int .i64 0, .int .i64 0] = (l.getD i Road.zero).row := getD_map _ _ _ _ _ rfl
theorem Road.diff (d : D) (x : Road) : dAgg Road.of d = some x ↔ d = Road.d x := dAgg_iff Road.iff
theorem Road.dec2 (p : Road) : dAgg Road.of (.agg [.str p.Name, .int .i64 p.From, .int .i64 p.To, .int .i64 p.Hours, .int .i64 p.Flow, .int .i64 p.By, .int .i64 p.Limit]) = some p := Road.dec p
theorem Road.of2 (p : Road) : Road.of [.str p.Name, .int .i64 p.From, .int .i64 p.To, .int .i64 p.Hours, .int .i64 p.Flow, .int .i64 p.By, .int .i64 p.Limit] = some p := (Road.iff _ _).2 rfl
theorem Road.drows (l : List Road) : dRows Road.of (l.map Road.row) = some l := dRows_map Road.iff l
structure Basin where
  Name : ByteArray
  Owners : List ByteArray
  Cells : Int
  Places : List Place
  Links : List Link
  Towns : List Town
  Gauges : List Gauge
  Roads : List Road
  Shelters : List Shelter
  Room : List Int
  Err : Int
def Basin.row (p : Basin) : List D := [.str p.Name, .lst 1 (p.Owners.map srow), .int .i64 p.Cells, .lst 12 (p.Places.map Place.row), .lst 18 (p.Links.map Link.row), .lst 7 (p.Towns.map Town.row), .lst 5 (p.Gauges.map Gauge.row), .lst 7 (p.Roads.map Road.row), .lst 2 (p.Shelters.map Shelter.row), .lst 1 (p.Room.map irow), .int .i64 p.Err]
def Basin.zero : Basin := ⟨⟨#[]⟩, [], 0, [], [], [], [], [], [], [], 0⟩
def Basin.of : List D → Option Basin
  | [a0, a1, a2, a3, a4, a5, a6, a7, a8, a9, a10] => (dStr a0).bind fun b0 => (dLst 1 sof a1).bind fun b1 => (dInt .i64 a2).bind fun b2 => (dLst 12 Place.of a3).bind fun b3 => (dLst 18 Link.of a4).bind fun b4 => (dLst 7 Town.of a5).bind fun b5 => (dLst 5 Gauge.of a6).bind fun b6 => (dLst 7 Road.of a7).bind fun b7 => (dLst 2 Shelter.of a8).bind fun b8 => (dLst 1 iof a9).bind fun b9 => (dInt .i64 a10).bind fun b10 => some ⟨b0, b1, b2, b3, b4, b5, b6, b7, b8, b9, b10⟩
  | _ => none
theorem Basin.iff (r : List D) (x : Basin) : Basin.of r = some x ↔ r = x.row := by
  constructor
  · intro h
    unfold Basin.of at h
    split at h
    · simp only [Option.bind_eq_some_iff, Option.some.injEq, dStr_iff, dLst_iff sof_iff, dInt_iff, dLst_iff Place.iff, dLst_iff Link.iff, dLst_iff Town.iff, dLst_iff Gauge.iff, dLst_iff Road.iff, dLst_iff Shelter.iff, dLst_iff iof_iff] at h
      obtain ⟨b0, e0, b1, e1, b2, e2, b3, e3, b4, e4, b5, e5, b6, e6, b7, e7, b8, e8, b9, e9, b10, e10, e⟩ := h
      subst e
      rw [e0, e1, e2, e3, e4, e5, e6, e7, e8, e9, e10]; rfl
    · cases h
  · rintro rfl
    simp [Basin.of, Basin.row, dInt_int, dBool_bool, dStr_str, dLst_lst, dRows_map sof_iff, dRows_map Place.iff, dRows_map Link.iff, dRows_map Town.iff, dRows_map Gauge.iff, dRows_map Road.iff, dRows_map Shelter.iff, dRows_map iof_iff]
def Basin.d (p : Basin) : D := .agg p.row
theorem Basin.dec (p : Basin) : dAgg Basin.of p.d = some p := (dAgg_iff Basin.iff).2 rfl
theorem Basin.len (p : Basin) : p.row.length = 11 := rfl
theorem Basin.getD (l : List Basin) (i : Nat) : (l.map Basin.row).getD i [.str ⟨#[]⟩, .lst 1 [], .int .i64 0, .lst 12 [], .lst 18 [], .lst 7 [], .lst 5 [], .lst 7 [], .lst 2 [], .lst 1 [], .int .i64 0] = (l.getD i Basin.zero).row := getD_map _ _ _ _ _ rfl
theorem Basin.diff (d : D) (x : Basin) : dAgg Basin.of d = some x ↔ d = Basin.d x := dAgg_iff Basin.iff
theorem Basin.dec2 (p : Basin) : dAgg Basin.of (.agg [.str p.Name, .lst 1 (p.Owners.map srow), .int .i64 p.Cells, .lst 12 (p.Places.map Place.row), .lst 18 (p.Links.map Link.row), .lst 7 (p.Towns.map Town.row), .lst 5 (p.Gauges.map Gauge.row), .lst 7 (p.Roads.map Road.row), .lst 2 (p.Shelters.map Shelter.row), .lst 1 (p.Room.map irow), .int .i64 p.Err]) = some p := Basin.dec p
theorem Basin.of2 (p : Basin) : Basin.of [.str p.Name, .lst 1 (p.Owners.map srow), .int .i64 p.Cells, .lst 12 (p.Places.map Place.row), .lst 18 (p.Links.map Link.row), .lst 7 (p.Towns.map Town.row), .lst 5 (p.Gauges.map Gauge.row), .lst 7 (p.Roads.map Road.row), .lst 2 (p.Shelters.map Shelter.row), .lst 1 (p.Room.map irow), .int .i64 p.Err] = some p := (Basin.iff _ _).2 rfl
theorem Basin.drows (l : List Basin) : dRows Basin.of (l.map Basin.row) = some l := dRows_map Basin.iff l
structure Claim where
  Id : Int
  Owner : Int
  Date : Int
  Place : Int
  Rate : Int
  From : Int
  Until : Int
  Back : Int
  BackTo : Int
def Claim.row (p : Claim) : List D := [.int .i64 p.Id, .int .i64 p.Owner, .int .i64 p.Date, .int .i64 p.Place, .int .i64 p.Rate, .int .i64 p.From, .int .i64 p.Until, .int .i64 p.Back, .int .i64 p.BackTo]
def Claim.zero : Claim := ⟨0, 0, 0, 0, 0, 0, 0, 0, 0⟩
def Claim.of : List D → Option Claim
  | [a0, a1, a2, a3, a4, a5, a6, a7, a8] => (dInt .i64 a0).bind fun b0 => (dInt .i64 a1).bind fun b1 => (dInt .i64 a2).bind fun b2 => (dInt .i64 a3).bind fun b3 => (dInt .i64 a4).bind fun b4 => (dInt .i64 a5).bind fun b5 => (dInt .i64 a6).bind fun b6 => (dInt .i64 a7).bind fun b7 => (dInt .i64 a8).bind fun b8 => some ⟨b0, b1, b2, b3, b4, b5, b6, b7, b8⟩
  | _ => none
theorem Claim.iff (r : List D) (x : Claim) : Claim.of r = some x ↔ r = x.row := by
  constructor
  · intro h
    unfold Claim.of at h
    split at h
    · simp only [Option.bind_eq_some_iff, Option.some.injEq, dInt_iff] at h
      obtain ⟨b0, e0, b1, e1, b2, e2, b3, e3, b4, e4, b5, e5, b6, e6, b7, e7, b8, e8, e⟩ := h
      subst e
      rw [e0, e1, e2, e3, e4, e5, e6, e7, e8]; rfl
    · cases h
  · rintro rfl
    simp [Claim.of, Claim.row, dInt_int, dBool_bool, dStr_str, dLst_lst]
def Claim.d (p : Claim) : D := .agg p.row
theorem Claim.dec (p : Claim) : dAgg Claim.of p.d = some p := (dAgg_iff Claim.iff).2 rfl
theorem Claim.len (p : Claim) : p.row.length = 9 := rfl
theorem Claim.getD (l : List Claim) (i : Nat) : (l.map Claim.row).getD i [.int .i64 0, .int .i64 0, .int .i64 0, .int .i64 0, .int .i64 0, .int .i64 0, .int .i64 0, .int .i64 0, .int .i64 0] = (l.getD i Claim.zero).row := getD_map _ _ _ _ _ rfl
theorem Claim.diff (d : D) (x : Claim) : dAgg Claim.of d = some x ↔ d = Claim.d x := dAgg_iff Claim.iff
theorem Claim.dec2 (p : Claim) : dAgg Claim.of (.agg [.int .i64 p.Id, .int .i64 p.Owner, .int .i64 p.Date, .int .i64 p.Place, .int .i64 p.Rate, .int .i64 p.From, .int .i64 p.Until, .int .i64 p.Back, .int .i64 p.BackTo]) = some p := Claim.dec p
theorem Claim.of2 (p : Claim) : Claim.of [.int .i64 p.Id, .int .i64 p.Owner, .int .i64 p.Date, .int .i64 p.Place, .int .i64 p.Rate, .int .i64 p.From, .int .i64 p.Until, .int .i64 p.Back, .int .i64 p.BackTo] = some p := (Claim.iff _ _).2 rfl
theorem Claim.drows (l : List Claim) : dRows Claim.of (l.map Claim.row) = some l := dRows_map Claim.iff l
structure Grant where
  Right : Int
  Litres : Int
def Grant.row (p : Grant) : List D := [.int .i64 p.Right, .int .i64 p.Litres]
def Grant.zero : Grant := ⟨0, 0⟩
def Grant.of : List D → Option Grant
  | [a0, a1] => (dInt .i64 a0).bind fun b0 => (dInt .i64 a1).bind fun b1 => some ⟨b0, b1⟩
  | _ => none
theorem Grant.iff (r : List D) (x : Grant) : Grant.of r = some x ↔ r = x.row := by
  constructor
  · intro h
    unfold Grant.of at h
    split at h
    · simp only [Option.bind_eq_some_iff, Option.some.injEq, dInt_iff] at h
      obtain ⟨b0, e0, b1, e1, e⟩ := h
      subst e
      rw [e0, e1]; rfl
    · cases h
  · rintro rfl
    simp [Grant.of, Grant.row, dInt_int, dBool_bool, dStr_str, dLst_lst]
def Grant.d (p : Grant) : D := .agg p.row
theorem Grant.dec (p : Grant) : dAgg Grant.of p.d = some p := (dAgg_iff Grant.iff).2 rfl
theorem Grant.len (p : Grant) : p.row.length = 2 := rfl
theorem Grant.getD (l : List Grant) (i : Nat) : (l.map Grant.row).getD i [.int .i64 0, .int .i64 0] = (l.getD i Grant.zero).row := getD_map _ _ _ _ _ rfl
theorem Grant.diff (d : D) (x : Grant) : dAgg Grant.of d = some x ↔ d = Grant.d x := dAgg_iff Grant.iff
theorem Grant.dec2 (p : Grant) : dAgg Grant.of (.agg [.int .i64 p.Right, .int .i64 p.Litres]) = some p := Grant.dec p
theorem Grant.of2 (p : Grant) : Grant.of [.int .i64 p.Right, .int .i64 p.Litres] = some p := (Grant.iff _ _).2 rfl
theorem Grant.drows (l : List Grant) : dRows Grant.of (l.map Grant.row) = some l := dRows_map Grant.iff l
structure Entry where
  Day : Int
  Known : Int
  Owner : Int
  Place : Int
  Litres : Int
  Why : Int
  Ref : Int
def Entry.row (p : Entry) : List D := [.int .i64 p.Day, .int .i64 p.Known, .int .i64 p.Owner, .int .i64 p.Place, .int .i64 p.Litres, .int .i64 p.Why, .int .i64 p.Ref]
def Entry.zero : Entry := ⟨0, 0, 0, 0, 0, 0, 0⟩
def Entry.of : List D → Option Entry
  | [a0, a1, a2, a3, a4, a5, a6] => (dInt .i64 a0).bind fun b0 => (dInt .i64 a1).bind fun b1 => (dInt .i64 a2).bind fun b2 => (dInt .i64 a3).bind fun b3 => (dInt .i64 a4).bind fun b4 => (dInt .i64 a5).bind fun b5 => (dInt .i64 a6).bind fun b6 => some ⟨b0, b1, b2, b3, b4, b5, b6⟩
  | _ => none
theorem Entry.iff (r : List D) (x : Entry) : Entry.of r = some x ↔ r = x.row := by
  constructor
  · intro h
    unfold Entry.of at h
    split at h
    · simp only [Option.bind_eq_some_iff, Option.some.injEq, dInt_iff] at h
      obtain ⟨b0, e0, b1, e1, b2, e2, b3, e3, b4, e4, b5, e5, b6, e6, e⟩ := h
      subst e
      rw [e0, e1, e2, e3, e4, e5, e6]; rfl
    · cases h
  · rintro rfl
    simp [Entry.of, Entry.row, dInt_int, dBool_bool, dStr_str, dLst_lst]
def Entry.d (p : Entry) : D := .agg p.row
theorem Entry.dec (p : Entry) : dAgg Entry.of p.d = some p := (dAgg_iff Entry.iff).2 rfl
theorem Entry.len (p : Entry) : p.row.length = 7 := rfl
theorem Entry.getD (l : List Entry) (i : Nat) : (l.map Entry.row).getD i [.int .i64 0, .int .i64 0, .int .i64 0, .int .i64 0, .int .i64 0, .int .i64 0, .int .i64 0] = (l.getD i Entry.zero).row := getD_map _ _ _ _ _ rfl
theorem Entry.diff (d : D) (x : Entry) : dAgg Entry.of d = some x ↔ d = Entry.d x := dAgg_iff Entry.iff
theorem Entry.dec2 (p : Entry) : dAgg Entry.of (.agg [.int .i64 p.Day, .int .i64 p.Known, .int .i64 p.Owner, .int .i64 p.Place, .int .i64 p.Litres, .int .i64 p.Why, .int .i64 p.Ref]) = some p := Entry.dec p
theorem Entry.of2 (p : Entry) : Entry.of [.int .i64 p.Day, .int .i64 p.Known, .int .i64 p.Owner, .int .i64 p.Place, .int .i64 p.Litres, .int .i64 p.Why, .int .i64 p.Ref] = some p := (Entry.iff _ _).2 rfl
theorem Entry.drows (l : List Entry) : dRows Entry.of (l.map Entry.row) = some l := dRows_map Entry.iff l
structure Report where
  Roster : List Claim
  Supply : List Int
def Report.row (p : Report) : List D := [.lst 9 (p.Roster.map Claim.row), .lst 1 (p.Supply.map irow)]
def Report.zero : Report := ⟨[], []⟩
def Report.of : List D → Option Report
  | [a0, a1] => (dLst 9 Claim.of a0).bind fun b0 => (dLst 1 iof a1).bind fun b1 => some ⟨b0, b1⟩
  | _ => none
theorem Report.iff (r : List D) (x : Report) : Report.of r = some x ↔ r = x.row := by
  constructor
  · intro h
    unfold Report.of at h
    split at h
    · simp only [Option.bind_eq_some_iff, Option.some.injEq, dLst_iff Claim.iff, dLst_iff iof_iff] at h
      obtain ⟨b0, e0, b1, e1, e⟩ := h
      subst e
      rw [e0, e1]; rfl
    · cases h
  · rintro rfl
    simp [Report.of, Report.row, dInt_int, dBool_bool, dStr_str, dLst_lst, dRows_map Claim.iff, dRows_map iof_iff]
def Report.d (p : Report) : D := .agg p.row
theorem Report.dec (p : Report) : dAgg Report.of p.d = some p := (dAgg_iff Report.iff).2 rfl
theorem Report.len (p : Report) : p.row.length = 2 := rfl
theorem Report.getD (l : List Report) (i : Nat) : (l.map Report.row).getD i [.lst 9 [], .lst 1 []] = (l.getD i Report.zero).row := getD_map _ _ _ _ _ rfl
theorem Report.diff (d : D) (x : Report) : dAgg Report.of d = some x ↔ d = Report.d x := dAgg_iff Report.iff
theorem Report.dec2 (p : Report) : dAgg Report.of (.agg [.lst 9 (p.Roster.map Claim.row), .lst 1 (p.Supply.map irow)]) = some p := Report.dec p
theorem Report.of2 (p : Report) : Report.of [.lst 9 (p.Roster.map Claim.row), .lst 1 (p.Supply.map irow)] = some p := (Report.iff _ _).2 rfl
theorem Report.drows (l : List Report) : dRows Report.of (l.map Report.row) = some l := dRows_map Report.iff l
structure Triple where
  right : Int
  owner : Int
  place : Int
def Triple.row (p : Triple) : List D := [.int .i64 p.right, .int .i64 p.owner, .int .i64 p.place]
def Triple.zero : Triple := ⟨0, 0, 0⟩
def Triple.of : List D → Option Triple
  | [a0, a1, a2] => (dInt .i64 a0).bind fun b0 => (dInt .i64 a1).bind fun b1 => (dInt .i64 a2).bind fun b2 => some ⟨b0, b1, b2⟩
  | _ => none
theorem Triple.iff (r : List D) (x : Triple) : Triple.of r = some x ↔ r = x.row := by
  constructor
  · intro h
    unfold Triple.of at h
    split at h
    · simp only [Option.bind_eq_some_iff, Option.some.injEq, dInt_iff] at h
      obtain ⟨b0, e0, b1, e1, b2, e2, e⟩ := h
      subst e
      rw [e0, e1, e2]; rfl
    · cases h
  · rintro rfl
    simp [Triple.of, Triple.row, dInt_int, dBool_bool, dStr_str, dLst_lst]
def Triple.d (p : Triple) : D := .agg p.row
theorem Triple.dec (p : Triple) : dAgg Triple.of p.d = some p := (dAgg_iff Triple.iff).2 rfl
theorem Triple.len (p : Triple) : p.row.length = 3 := rfl
theorem Triple.getD (l : List Triple) (i : Nat) : (l.map Triple.row).getD i [.int .i64 0, .int .i64 0, .int .i64 0] = (l.getD i Triple.zero).row := getD_map _ _ _ _ _ rfl
theorem Triple.diff (d : D) (x : Triple) : dAgg Triple.of d = some x ↔ d = Triple.d x := dAgg_iff Triple.iff
theorem Triple.dec2 (p : Triple) : dAgg Triple.of (.agg [.int .i64 p.right, .int .i64 p.owner, .int .i64 p.place]) = some p := Triple.dec p
theorem Triple.of2 (p : Triple) : Triple.of [.int .i64 p.right, .int .i64 p.owner, .int .i64 p.place] = some p := (Triple.iff _ _).2 rfl
theorem Triple.drows (l : List Triple) : dRows Triple.of (l.map Triple.row) = some l := dRows_map Triple.iff l
structure Posting where
  day : Int
  known : Int
def Posting.row (p : Posting) : List D := [.int .i64 p.day, .int .i64 p.known]
def Posting.zero : Posting := ⟨0, 0⟩
def Posting.of : List D → Option Posting
  | [a0, a1] => (dInt .i64 a0).bind fun b0 => (dInt .i64 a1).bind fun b1 => some ⟨b0, b1⟩
  | _ => none
theorem Posting.iff (r : List D) (x : Posting) : Posting.of r = some x ↔ r = x.row := by
  constructor
  · intro h
    unfold Posting.of at h
    split at h
    · simp only [Option.bind_eq_some_iff, Option.some.injEq, dInt_iff] at h
      obtain ⟨b0, e0, b1, e1, e⟩ := h
      subst e
      rw [e0, e1]; rfl
    · cases h
  · rintro rfl
    simp [Posting.of, Posting.row, dInt_int, dBool_bool, dStr_str, dLst_lst]
def Posting.d (p : Posting) : D := .agg p.row
theorem Posting.dec (p : Posting) : dAgg Posting.of p.d = some p := (dAgg_iff Posting.iff).2 rfl
theorem Posting.len (p : Posting) : p.row.length = 2 := rfl
theorem Posting.getD (l : List Posting) (i : Nat) : (l.map Posting.row).getD i [.int .i64 0, .int .i64 0] = (l.getD i Posting.zero).row := getD_map _ _ _ _ _ rfl
theorem Posting.diff (d : D) (x : Posting) : dAgg Posting.of d = some x ↔ d = Posting.d x := dAgg_iff Posting.iff
theorem Posting.dec2 (p : Posting) : dAgg Posting.of (.agg [.int .i64 p.day, .int .i64 p.known]) = some p := Posting.dec p
theorem Posting.of2 (p : Posting) : Posting.of [.int .i64 p.day, .int .i64 p.known] = some p := (Posting.iff _ _).2 rfl
theorem Posting.drows (l : List Posting) : dRows Posting.of (l.map Posting.row) = some l := dRows_map Posting.iff l
theorem igetD (l : List Int) (i : Nat) : (l.map irow).getD i [.int .i64 0] = irow (l.getD i 0) := getD_map _ _ _ _ _ rfl
theorem idrows (l : List Int) : dRows iof (l.map irow) = some l := dRows_map iof_iff l
theorem sdrows (l : List ByteArray) : dRows sof (l.map srow) = some l := dRows_map sof_iff l
theorem sgetD (l : List ByteArray) (i : Nat) : (l.map srow).getD i [.str ⟨#[]⟩] = srow (l.getD i ⟨#[]⟩) := getD_map _ _ _ _ _ rfl
theorem lgetD {A : Type} (sz : Nat) (row : A → List D) (l : List (List A)) (i : Nat) : (l.map (lrow sz row)).getD i [.lst sz []] = lrow sz row (l.getD i []) := getD_map _ _ _ _ _ rfl
end Go.Proofs.Ytomnjbebgfadoaa.Pi
end
section
/- Contracts of small functions.
   Conditions: none; lemmas. -/
set_option linter.unusedVariables false
set_option linter.unusedSimpArgs false
namespace Go.Proofs.Ytomnjbebgfadoaa.Pi
open Go Go.RowKit Go.Proofs
set_option maxHeartbeats 4000000
theorem boolFlat {A : Type} {F : A → Bool} : true = true → ∀ a r, r = [RV.d (.bool (F a))] → ∀ x ∈ r, RV.flat x = true := flat1 (F := fun a => .bool (F a)) fun _ => rfl
theorem intFlat {A : Type} {F : A → Int} {k : IntKind} : true = true → ∀ a r, r = [RV.d (.int k (F a))] → ∀ x ∈ r, RV.flat x = true := flat1 (F := fun a => .int k (F a)) fun _ => rfl
abbrev cI : Cod Int := cod1 (.int .i64) (dInt .i64) fun _ _ => dInt_iff
abbrev cB : Cod Bool := cod1 .bool dBool fun _ _ => dBool_iff
abbrev cII : Cod (Int × Int) := codC (.int .i64) (dInt .i64) (fun _ _ => dInt_iff) cI
abbrev cIII : Cod (Int × Int × Int) := codC (.int .i64) (dInt .i64) (fun _ _ => dInt_iff) cII
theorem cI_enc (a : Int) : cI.enc a = [.int .i64 a] := rfl
theorem cI_dec (d : D) : cI.dec [d] = dInt .i64 d := rfl
theorem cB_enc (a : Bool) : cB.enc a = [.bool a] := rfl
theorem cB_dec (d : D) : cB.dec [d] = dBool d := rfl
theorem cII_enc (a : Int × Int) : cII.enc a = [.int .i64 a.1, .int .i64 a.2] := rfl
theorem cII_dec (a b : Int) : cII.dec [.int .i64 a, .int .i64 b] = some (a, b) := rfl
theorem cIII_enc (a : Int × Int × Int) : cIII.enc a = [.int .i64 a.1, .int .i64 a.2.1, .int .i64 a.2.2] := rfl
theorem cIII_dec (a b c : Int) : cIII.dec [.int .i64 a, .int .i64 b, .int .i64 c] = some (a, b, c) := rfl

def endF (b : Bool) : Int := if b then -9223372036854775808 else 9223372036854775807
abbrev con44 : Con := .of cB (fun _ => True) (fun b rs => rs = [.d (.int .i64 (endF b))]) true
noncomputable def E44 : Env := E0.at 4 (fun d => false) (fun d => d) (fun d => true)
theorem E44_ok : EnvOk E44 := E0_ok.at _ _ _ _
theorem E44_r : E44.ty = E0.ty ∧ (∀ d, E44.key d = d) := ⟨rfl, fun _ => rfl⟩

theorem ok44 : ConOk Try.prog 44 con44 := by
  refine con_of (E := E44) E44_ok (fn := Try.f44) Try.func44 rfl (by decide) (by kernel_rfl) (rs := [.tmp 2]) rfl (by decide) (by decide) [.data 3]  (fun a _ => ⟨_, rfl⟩) intFlat ?_
  intro b _
  simp only [startP_eq, startL, List.map_cons, List.map_nil, run_skip, run_region, run_seq, run_cond, run_ret, opsK_nil, opsK_op, seqK_normal, seqK_ret, endP_ret, condK_bool, upd_apply, ev_tmp, ev_int, St.sv, St.sc, strip, stripC, op_move, op_assign, outK, outL, outM, resPs, resP, rvsOf, rvOf, snapV, snapC, sepB, ownKs, dataKs, keysV, keysC, nodupB, Option.bind_some, Option.map_some, true_and, and_true, ↓reduceIte, reduceCtorEq, List.all_nil, List.append_nil, Bool.and_self, List.contains_nil, Bool.not_false, cod1_enc, endF]
  cases b <;> simp
def addF (a b : Int) : Int := if (decide (a < 0) == decide (b < 0)) && (decide (IntKind.i64.wrap (a + b) < 0) != decide (a < 0)) then endF (decide (a < 0)) else IntKind.i64.wrap (a + b)
abbrev con22 : Con := .of cII (fun _ => True) (fun a rs => rs = [.d (.int .i64 (addF a.1 a.2))]) true
noncomputable def E22 : Env := (E0.add 44 con44).at 25 (fun d => false) (fun d => d) (fun d => true)
theorem E22_ok : EnvOk E22 := (E0_ok.add Try.func44 rfl rfl ok44).at _ _ _ _
theorem E22_r : E22.ty = E0.ty ∧ (E22.con 44 = some con44 ∧ E22.icon 44 = none) ∧ (∀ d, E22.key d = d) := ⟨rfl, ⟨rfl, rfl⟩, fun _ => rfl⟩

theorem ok22 : ConOk Try.prog 22 con22 := by
  refine con_of (E := E22) E22_ok (fn := Try.f22) Try.func22 rfl (by decide) (by kernel_rfl) (rs := [.tmp 4]) rfl (by decide) (by decide) [.data 3]  (fun a _ => ⟨_, rfl⟩) intFlat ?_
  intro a _
  simp only [startP_eq, startL, List.map_cons, List.map_nil, run_skip, run_region, run_seq, run_cond, run_ret, opsK_nil, opsK_op, seqK_normal, seqK_ret, endP_ret, condK_bool, upd_apply, after_some, ev_tmp, ev_int, ev_bool, St.sv, St.sc, strip, stripC, argsC, pK_none, pK_some, gpK_some, pmap_some, gK, gB_bool, op_move, op_assign, op_gmove, op_pick, op_bin, op_gbin, bin_add, bin_lss, bin_bool, pick_b, op_call, iK_some, iK2_none, cK_some, cK2_some, conK_flat, icallInfo_func, callInfo_func, ciK_some, snapVs_nil, snapVs_cons, outK, outL, outM, resPs, resP, rvsOf, rvOf, snapV, snapC, sepB, ownKs, dataKs, keysV, keysC, nodupB, packP, RV.flatP, Option.bind_some, Option.map_some, true_and, and_true, implies_true, ↓reduceIte, Nat.reduceEqDiff, reduceCtorEq, Nat.zero_add, List.all_nil, List.append_nil, List.flatMap_cons, List.flatMap_nil, Bool.and_self, List.getElem?_toArray, List.getElem?_cons_succ, List.getElem?_cons_zero, beq_true, List.contains_nil, Bool.not_false, of_pre, of_post, of_flat, cod1_enc, cod1_dec, codC_enc, dBool_bool, some_ex, some_ex1, imp_self, and_self, Env.tk, St.obj, imp_eq, ty_r, E22_r, con44, imp_eq]
  obtain ⟨a, b⟩ := a
  unfold addF
  generalize (decide (a < 0) == decide (b < 0)) = p
  generalize (decide (IntKind.i64.wrap (a + b) < 0)) = q
  generalize (decide (a < 0)) = r
  cases p <;> cases q <;> cases r <;> simp
def inF (n l h : Int) : Bool := decide (l ≤ n) && decide (n ≤ h)
theorem in_eq (n l h : Int) : [RV.d (D.bool (if n ≥ l then decide (n ≤ h) else false))] = [RV.d (D.bool (inF n l h))] := by
  unfold inF
  by_cases c : l ≤ n <;> simp [c]
abbrev con35 : Con := .of cIII (fun _ => True) (fun a rs => rs = [.d (.bool (inF a.1 a.2.1 a.2.2))]) true
noncomputable def E35 : Env := E0.at 15 (fun d => false) (fun d => d) (fun d => true)
theorem E35_ok : EnvOk E35 := E0_ok.at _ _ _ _
theorem E35_r : E35.ty = E0.ty ∧ (∀ d, E35.key d = d) := ⟨rfl, fun _ => rfl⟩

theorem ok35 : ConOk Try.prog 35 con35 := by
  refine con_of (E := E35) E35_ok (fn := Try.f35) Try.func35 rfl (by decide) (by kernel_rfl) (rs := [.tmp 6]) rfl (by decide) (by decide) [.data 4]  (fun a _ => ⟨_, rfl⟩) boolFlat ?_
  intro a _
  simp only [startP_eq, startL, List.map_cons, List.map_nil, run_region, run_seq, run_ret, opsK_nil, opsK_op, seqK_normal, endP_ret, upd_apply, after_some, ev_tmp, ev_bool, St.sv, St.sc, strip, stripC, pK_none, pK_some, gpK_some, pmap_some, gK, gB_bool, op_move, op_assign, op_gmove, op_pick, op_bin, op_gbin, bin_leq, bin_geq, pick_b, outK, outL, outM, resPs, resP, rvsOf, rvOf, snapV, snapC, sepB, ownKs, dataKs, keysV, keysC, nodupB, Option.bind_some, Option.map_some, true_and, and_true, implies_true, ↓reduceIte, Nat.reduceEqDiff, reduceCtorEq, Nat.reduceAdd, Nat.zero_add, List.all_nil, List.append_nil, Bool.and_self, List.getElem?_toArray, List.getElem?_cons_succ, List.getElem?_cons_zero, beq_true, decide_eq_true_eq, decide_eq_false_iff_not, List.contains_nil, Bool.not_false, cod1_enc, codC_enc, imp_self, and_self]
  obtain ⟨n, l, h⟩ := a
  exact in_eq n l h
abbrev con61 : Con := con35
noncomputable def E61 : Env := E0.at 15 (fun d => false) (fun d => d) (fun d => true)
theorem E61_ok : EnvOk E61 := E0_ok.at _ _ _ _
theorem E61_r : E61.ty = E0.ty ∧ (∀ d, E61.key d = d) := ⟨rfl, fun _ => rfl⟩

theorem ok61 : ConOk Try.prog 61 con61 := by
  refine con_of (E := E61) E61_ok (fn := Try.f61) Try.func61 rfl (by decide) (by kernel_rfl) (rs := [.tmp 6]) rfl (by decide) (by decide) [.data 4]  (fun a _ => ⟨_, rfl⟩) boolFlat ?_
  intro a _
  simp only [startP_eq, startL, List.map_cons, List.map_nil, run_region, run_seq, run_ret, opsK_nil, opsK_op, seqK_normal, endP_ret, upd_apply, after_some, ev_tmp, ev_bool, St.sv, St.sc, strip, stripC, pK_none, pK_some, gpK_some, pmap_some, gK, gB_bool, op_move, op_assign, op_gmove, op_pick, op_bin, op_gbin, bin_leq, bin_geq, pick_b, outK, outL, outM, resPs, resP, rvsOf, rvOf, snapV, snapC, sepB, ownKs, dataKs, keysV, keysC, nodupB, Option.bind_some, Option.map_some, true_and, and_true, implies_true, ↓reduceIte, Nat.reduceEqDiff, reduceCtorEq, Nat.reduceAdd, Nat.zero_add, List.all_nil, List.append_nil, Bool.and_self, List.getElem?_toArray, List.getElem?_cons_succ, List.getElem?_cons_zero, beq_true, decide_eq_true_eq, decide_eq_false_iff_not, List.contains_nil, Bool.not_false, cod1_enc, codC_enc, imp_self, and_self]
  obtain ⟨n, l, h⟩ := a
  exact in_eq n l h
abbrev con64 : Con := .of cI (fun _ => True) (fun n rs => rs = [.d (.bool (inF n 0 1125899906842624))]) true
noncomputable def E64 : Env := E0.at 9 (fun d => false) (fun d => d) (fun d => true)
theorem E64_ok : EnvOk E64 := E0_ok.at _ _ _ _
theorem E64_r : E64.ty = E0.ty ∧ (∀ d, E64.key d = d) := ⟨rfl, fun _ => rfl⟩

theorem ok64 : ConOk Try.prog 64 con64 := by
  refine con_of (E := E64) E64_ok (fn := Try.f64) Try.func64 rfl (by decide) (by kernel_rfl) (rs := [.tmp 2]) rfl (by decide) (by decide) [.data 4]  (fun a _ => ⟨_, rfl⟩) boolFlat ?_
  intro n _
  simp only [startP_eq, startL, List.map_cons, List.map_nil, run_region, run_seq, run_ret, opsK_nil, opsK_op, seqK_normal, endP_ret, upd_apply, after_some, ev_tmp, ev_int, ev_bool, St.sv, St.sc, strip, stripC, pK_none, pK_some, gpK_some, pmap_some, gK, gB_bool, op_move, op_assign, op_gmove, op_pick, op_bin, op_gbin, bin_leq, bin_geq, pick_b, outK, outL, outM, resPs, resP, rvsOf, rvOf, snapV, snapC, sepB, ownKs, dataKs, keysV, keysC, nodupB, Option.bind_some, Option.map_some, true_and, and_true, implies_true, ↓reduceIte, Nat.reduceEqDiff, reduceCtorEq, List.all_nil, List.append_nil, Bool.and_self, List.getElem?_toArray, List.getElem?_cons_succ, List.getElem?_cons_zero, beq_true, decide_eq_true_eq, decide_eq_false_iff_not, List.contains_nil, Bool.not_false, cod1_enc, imp_self, and_self]
  exact in_eq n 0 1125899906842624
abbrev con36 : Con := con64
noncomputable def E36 : Env := (E0.add 35 con35).at 5 (fun d => false) (fun d => d) (fun d => true)
theorem E36_ok : EnvOk E36 := (E0_ok.add Try.func35 rfl rfl ok35).at _ _ _ _
theorem E36_r : E36.ty = E0.ty ∧ (E36.con 35 = some con35 ∧ E36.icon 35 = none) ∧ (∀ d, E36.key d = d) := ⟨rfl, ⟨rfl, rfl⟩, fun _ => rfl⟩

theorem ok36 : ConOk Try.prog 36 con36 := by
  refine con_of (E := E36) E36_ok (fn := Try.f36) Try.func36 rfl (by decide) (by kernel_rfl) (rs := [.tmp 2]) rfl (by decide) (by decide) [.data 4]  (fun a _ => ⟨_, rfl⟩) boolFlat ?_
  intro n _
  simp only [startP_eq, startL, List.map_cons, List.map_nil, run_region, run_seq, run_ret, opsK_nil, opsK_op, seqK_normal, endP_ret, upd_apply, after_some, ev_tmp, ev_int, ev_bool, St.sv, St.sc, strip, stripC, argsC, op_move, op_assign, op_call, iK_some, iK2_none, cK_some, cK2_some, conK_flat, icallInfo_func, callInfo_func, ciK_some, snapVs_nil, snapVs_cons, outK, outL, outM, resPs, resP, rvsOf, rvOf, snapV, snapC, sepB, ownKs, dataKs, keysV, keysC, nodupB, packP, RV.flatP, Option.bind_some, Option.map_some, true_and, and_true, ↓reduceIte, reduceCtorEq, List.all_nil, List.append_nil, List.flatMap_cons, List.flatMap_nil, Bool.and_self, of_pre, of_post, of_flat, cod1_enc, cod1_dec, codC_dec, dInt_int, some_ex, some_ex1, and_self, Env.tk, St.obj, imp_eq, ty_r, E36_r, con35, imp_eq]
end Go.Proofs.Ytomnjbebgfadoaa.Pi
end
section
/- What the statements' readings of arguments give: data of a shape that the type tells.
   Conditions: none; lemmas. -/
set_option linter.unusedVariables false
set_option linter.unusedSimpArgs false
namespace Go.Proofs.Ytomnjbebgfadoaa.Pi
open Go Go.RowKit
inductive Sh where
  | int (k : IntKind)
  | bool
  | str
  | lst (sz : Nat) (r : List Sh)
mutual
def Sh.has : Sh → D → Prop
  | .int k, d => ∃ n, d = .int k n
  | .bool, d => ∃ b, d = .bool b
  | .str, d => ∃ s, d = .str s
  | .lst sz r, d => ∃ xs, d = .lst sz xs ∧ ∀ x ∈ xs, hasL r x
def hasL : List Sh → List D → Prop
  | [], ds => ds = []
  | s :: ss, ds => ∃ d ds', ds = d :: ds' ∧ s.has d ∧ hasL ss ds'
end
def shFs (P : Program) (f : TypeId → Option (List Sh)) : List Field → Nat → Option (List Sh)
  | [], _ => some []
  | x :: xs, off => if x.offset = off then (match f x.type with
    | some r => if r.length = P.cellsOf x.type then (shFs P f xs (off + r.length)).map (r ++ ·) else none
    | none => none) else none
def shOf (P : Program) : Nat → TypeId → Option (List Sh)
  | 0, _ => none
  | n + 1, t => match P.underlying t with
    | some (.int k) => some [.int k]
    | some .bool => some [.bool]
    | some .string => some [.str]
    | some (.slice e) => (match shOf P n e with
      | some r => if r.length = P.cellsOf e ∧ 0 < r.length then some [.lst r.length r] else none
      | none => none)
    | some (.struct fs) => (match shFs P (shOf P n) fs.toList 0 with
      | some r => if r.length = P.cellsOf t then some r else none
      | none => none)
    | _ => none
theorem hasL_len : ∀ {ss : List Sh} {ds : List D}, hasL ss ds → ds.length = ss.length
  | [], ds, h => by simp only [hasL] at h; subst h; rfl
  | s :: ss, ds, h => by
    simp only [hasL] at h
    obtain ⟨d, ds', rfl, _, h2⟩ := h
    simp [hasL_len h2]
theorem hasL_app : ∀ {ss ss' : List Sh} {ds ds' : List D}, hasL ss ds → hasL ss' ds' → hasL (ss ++ ss') (ds ++ ds')
  | [], ss', ds, ds', h, h' => by simp only [hasL] at h; subst h; exact h'
  | s :: ss, ss', ds, ds', h, h' => by
    simp only [hasL] at h
    obtain ⟨d, ds1, rfl, h1, h2⟩ := h
    simp only [List.cons_append, hasL]
    exact ⟨d, _, rfl, h1, hasL_app h2 h'⟩
theorem rdVals_app {w : World} {ok : Nat → Prop} : ∀ {ds ds' : List D} {vs vs' : List Value}, rdVals w ok ds vs → rdVals w ok ds' vs' → rdVals w ok (ds ++ ds') (vs ++ vs')
  | [], ds', vs, vs', h, h' => by simp only [rdVals] at h; subst h; exact h'
  | d :: ds, ds', vs, vs', h, h' => by
    simp only [rdVals] at h
    obtain ⟨v, vs1, rfl, h1, h2⟩ := h
    simp only [List.cons_append, rdVals]
    exact ⟨v, _, rfl, h1, rdVals_app h2 h'⟩
theorem rdCells_of {w : World} {b : Nat} : ∀ {ds : List D} {cs : List Value} {o : Nat}, rdVals w (fun _ => True) ds cs → (∀ j, j < cs.length → w.cell? ⟨b, o + j, none⟩ = cs[j]?) → (∀ u ∈ cs, u.oneCell' = true) → rdCells w (fun _ => True) b o ds
  | [], cs, o, h, hc, hu => by simp only [rdCells]
  | d :: ds, cs, o, h, hc, hu => by
    simp only [rdVals] at h
    obtain ⟨v, vs, rfl, h1, h2⟩ := h
    simp only [rdCells]
    refine ⟨⟨trivial, v, ?_, hu v (by simp), h1⟩, rdCells_of h2 (fun j hj => ?_) fun u hu' => hu u (by simp [hu'])⟩
    · have := hc 0 (by simp)
      simpa using this
    · have := hc (j + 1) (by simpa using hj)
      rw [show o + 1 + j = o + (j + 1) by omega, this]
      simp
theorem rdRows_of' {w : World} {b sz : Nat} : ∀ {xs : List (List D)} {o : Nat}, (∀ i (h : i < xs.length), xs[i].length = sz ∧ rdCells w (fun _ => True) b (o + i * sz) xs[i]) → rdRows w (fun _ => True) sz b o xs
  | [], o, h => by simp only [rdRows]
  | x :: xs, o, h => by
    simp only [rdRows]
    have h0 := h 0 (by simp)
    simp only [Nat.zero_mul, Nat.add_zero, List.getElem_cons_zero] at h0
    refine ⟨h0, rdRows_of' fun i hi => ?_⟩
    have h1 := h (i + 1) (by simpa using hi)
    simp only [List.getElem_cons_succ] at h1
    rw [Nat.add_mul, Nat.one_mul] at h1
    rw [show o + sz + i * sz = o + (i * sz + sz) by omega]
    exact h1
theorem list_of {A : Type} {Q : Nat → A → Prop} : ∀ (n : Nat), (∀ i, i < n → ∃ a, Q i a) → ∃ xs : List A, xs.length = n ∧ ∀ i (h : i < xs.length), Q i xs[i]
  | 0, _ => ⟨[], rfl, fun i h => absurd h (by simp)⟩
  | n + 1, h => by
    obtain ⟨xs, hl, hx⟩ := list_of n fun i hi => h i (by omega)
    obtain ⟨a, ha⟩ := h n (by omega)
    refine ⟨xs ++ [a], by simp [hl], fun i hi => ?_⟩
    simp only [List.length_append, List.length_cons, List.length_nil] at hi
    by_cases e : i < xs.length
    · rw [List.getElem_append_left e]; exact hx i e
    · have : i = n := by omega
      subst this
      rw [List.getElem_append_right (by omega)]
      simpa using ha
section
variable {H : Type} {enc : TypeId × Value → H} {P : Program} {w : World} {base : Nat} {spare : Nat → Bool} {held : Bool}
theorem shFs_rd {f : TypeId → Option (List Sh)} {g : TypeId → List Value → Option (DataW H × List MemPlace)} (hf : ∀ t cs x shs, f t = some shs → g t cs = some x → ∃ ds, hasL shs ds ∧ rdVals w (fun _ => True) ds cs ∧ cs.length = shs.length ∧ ∀ u ∈ cs, u.oneCell' = true) :
    ∀ (fs : List Field) (off : Nat) (cs : List Value) (ys : List (DataW H × List MemPlace)) (shs : List Sh), shFs P f fs off = some shs → (fs.mapM fun x => g x.type ((cs.drop x.offset).take (P.cellsOf x.type))) = some ys →
    ∃ ds, hasL shs ds ∧ rdVals w (fun _ => True) ds ((cs.drop off).take shs.length) ∧ ((cs.drop off).take shs.length).length = shs.length ∧ ∀ u ∈ (cs.drop off).take shs.length, u.oneCell' = true
  | [], off, cs, ys, shs, h, hm => by
    simp only [shFs, Option.some.injEq] at h
    subst h
    exact ⟨[], by simp only [hasL], by simp [rdVals], by simp, by simp⟩
  | x :: fs, off, cs, ys, shs, h, hm => by
    simp only [shFs] at h
    split at h
    · rename_i ho
      split at h
      · rename_i r hr
        split at h
        · rename_i hl
          obtain ⟨s2, h2, rfl⟩ := Option.map_eq_some_iff.1 h
          rw [List.mapM_cons] at hm
          cases hg : g x.type ((cs.drop x.offset).take (P.cellsOf x.type)) with
          | none => rw [hg] at hm; simp at hm
          | some y =>
            rw [hg] at hm
            cases hg2 : (fs.mapM fun x => g x.type ((cs.drop x.offset).take (P.cellsOf x.type))) with
            | none => rw [hg2] at hm; simp at hm
            | some ys2 =>
              obtain ⟨d1, a1, a2, a3, a4⟩ := hf _ _ _ _ hr hg
              obtain ⟨d2, b1, b2, b3, b4⟩ := shFs_rd hf fs _ _ _ _ h2 hg2
              have e : (cs.drop off).take (r ++ s2).length = (cs.drop off).take r.length ++ (cs.drop (off + r.length)).take s2.length := by
                rw [List.length_append, List.take_add, List.drop_drop]
              rw [ho, ← hl] at a2 a3 a4
              rw [e]
              refine ⟨d1 ++ d2, hasL_app a1 b1, rdVals_app a2 b2, by rw [List.length_append, a3, b3, List.length_append], fun u hu => ?_⟩
              rcases List.mem_append.1 hu with hu | hu
              · exact a4 u hu
              · exact b4 u hu
        · cases h
      · cases h
    · cases h
theorem trod_sh : ∀ (n fuel : Nat) (t : TypeId) (cs : List Value) (x : DataW H × List MemPlace) (shs : List Sh), shOf P n t = some shs → DataW.trod enc P w base spare held fuel t cs = some x → ∃ ds, hasL shs ds ∧ rdVals w (fun _ => True) ds cs ∧ cs.length = shs.length ∧ ∀ u ∈ cs, u.oneCell' = true
  | 0, fuel, t, cs, x, shs, h, ht => by simp [shOf] at h
  | n + 1, fuel, t, cs, x, shs, h, ht => by
    simp only [shOf] at h
    cases fuel with
    | zero => simp [DataW.trod] at ht
    | succ m =>
      split at h
      · rename_i k hu
        simp only [Option.some.injEq] at h; subst h
        unfold DataW.trod at ht
        rw [hu] at ht
        split at ht <;> simp_all
        rename_i k2 k3 n2 hh; exact ⟨[.int k2 n2], by simp [hasL, Sh.has], by simp [rdVals, D.rd], by simp [Value.oneCell']⟩
      · rename_i hu
        simp only [Option.some.injEq] at h; subst h
        unfold DataW.trod at ht
        rw [hu] at ht
        split at ht <;> simp_all
        rename_i b2; exact ⟨[.bool b2], by simp only [hasL, Sh.has]; exact ⟨_, [], rfl, ⟨_, rfl⟩, rfl⟩, by simp [rdVals, D.rd], by simp [Value.oneCell']⟩
      · rename_i hu
        simp only [Option.some.injEq] at h; subst h
        unfold DataW.trod at ht
        rw [hu] at ht
        split at ht <;> simp_all
        rename_i s2; exact ⟨[.str s2], by simp only [hasL, Sh.has]; exact ⟨_, [], rfl, ⟨_, rfl⟩, rfl⟩, by simp [rdVals, D.rd]; exact ht.1, by simp [Value.oneCell']⟩
      · rename_i e hu
        split at h
        · rename_i r hr
          split at h
          · rename_i hl
            simp only [Option.some.injEq] at h; subst h
            rcases DataW.trod_slice hu ht with ⟨rfl, _⟩ | ⟨a, len, cap, elems, rest, n', _, rfl, _, hb, hlc, hcap, hel, hget, _, _⟩
            · refine ⟨[.lst r.length []], ?_, ?_, by simp, by simp [Value.oneCell']⟩
              · simp [hasL, Sh.has]
              · simp only [rdVals, D.rd]
                exact ⟨_, [], rfl, ⟨none, 0, rfl, ⟨Nat.le_refl _, fun _ => rfl⟩, Nat.zero_le _, fun h => absurd rfl h⟩, rfl⟩
            · have hrow0 : ∀ i, i < len → ∃ ds, (hasL r ds) ∧ ∃ cs', rdVals w (fun _ => True) ds cs' ∧ cs'.length = r.length ∧ (∀ u ∈ cs', u.oneCell' = true) ∧ ∀ j, j < r.length → w.cell? ((a.add (i * r.length)).add j) = cs'[j]? := fun i hi => by
                have h1 := hget i hi
                rw [List.getElem?_eq_getElem (by omega)] at h1
                obtain ⟨cs', h2, h3⟩ := Option.bind_eq_some_iff.1 h1
                obtain ⟨ds, g1, g2, g3, g4⟩ := trod_sh n _ _ _ _ _ hr h3
                obtain ⟨_, hl2, hc⟩ := World.cells?_some h2
                rw [← hl.1] at hc
                exact ⟨ds, g1, cs', g2, g3, g4, hc⟩
              obtain ⟨xs, hx1, hx2⟩ := list_of len hrow0
              refine ⟨[.lst r.length xs], ?_, ?_, by simp, by simp [Value.oneCell']⟩
              · simp only [hasL, Sh.has]
                refine ⟨_, [], rfl, ⟨xs, rfl, fun y hy => ?_⟩, rfl⟩
                obtain ⟨i, hi, rfl⟩ := List.mem_iff_getElem.1 hy
                exact (hx2 i hi).1
              · simp only [rdVals, D.rd]
                refine ⟨_, [], rfl, ⟨some a, cap, by rw [hx1], ⟨by omega, by simp⟩, by omega, fun hne => ?_⟩, rfl⟩
                have hpos : 0 < xs.length := List.length_pos_iff.2 hne
                have hsp : a.spot = none := by
                  obtain ⟨_, cs', _, g3, _, hc⟩ := hx2 0 hpos
                  have := hc 0 hl.2
                  rw [List.getElem?_eq_getElem (by omega)] at this
                  simp only [Nat.zero_mul, Addr.add, if_true] at this
                  unfold World.cell? at this
                  split at this
                  · split at this
                    · cases this
                    · rename_i hs
                      simpa using hs
                  · cases this
                obtain ⟨ab, ao, ass⟩ := a
                simp only at hsp
                subst hsp
                have hadd : ∀ i j, ((⟨ab, ao, none⟩ : Addr).add i).add j = ⟨ab, ao + i + j, none⟩ := fun i j => by
                  simp only [Addr.add]
                  split <;> split <;> simp_all
                refine ⟨ab, ao, rfl, rdRows_of' fun i hi => ?_⟩
                obtain ⟨g1, cs', g2, g3, g4, hc⟩ := hx2 i hi
                refine ⟨hasL_len g1, rdCells_of g2 (fun j hj => ?_) g4⟩
                rw [← hc j (by omega), hadd]
          · cases h
        · cases h
      · rename_i fs hu
        unfold DataW.trod at ht
        rw [hu] at ht
        simp only at ht
        split at h
        · rename_i r hr
          split at h
          · rename_i hl
            simp only [Option.some.injEq] at h; subst h
            split at ht
            · rename_i hc
              obtain ⟨ys, hy, _⟩ := Option.map_eq_some_iff.1 ht
              have := shFs_rd (P := P) (w := w) (f := shOf P n) (g := DataW.trod enc P w base spare held m) (fun t cs x shs h1 h2 => trod_sh n _ _ _ _ _ h1 h2) fs.toList 0 cs ys r hr hy
              rw [List.drop_zero, List.take_of_length_le (by omega)] at this
              exact this
            · cases ht
          · cases h
        · cases h
      · cases h
end
/-! The shape's words. -/
theorem hasL_cons {s : Sh} {ss : List Sh} {ds : List D} (h : hasL (s :: ss) ds) : ∃ d ds', ds = d :: ds' ∧ s.has d ∧ hasL ss ds' := by simpa only [hasL] using h
theorem hasL_nil {ds : List D} (h : hasL [] ds) : ds = [] := by simpa only [hasL] using h
theorem got_int {k : IntKind} {d : D} (h : (Sh.int k).has d) : ∃ n, dInt k d = some n := by
  simp only [Sh.has] at h; obtain ⟨n, rfl⟩ := h; exact ⟨n, dInt_int k n⟩
theorem got_bool {d : D} (h : Sh.bool.has d) : ∃ n, dBool d = some n := by
  simp only [Sh.has] at h; obtain ⟨n, rfl⟩ := h; exact ⟨n, dBool_bool n⟩
theorem got_str {d : D} (h : Sh.str.has d) : ∃ n, dStr d = some n := by
  simp only [Sh.has] at h; obtain ⟨n, rfl⟩ := h; exact ⟨n, dStr_str n⟩
theorem got_rows {A : Type} {of : List D → Option A} : ∀ {xs : List (List D)}, (∀ x ∈ xs, ∃ a, of x = some a) → ∃ l, dRows of xs = some l
  | [], _ => ⟨[], rfl⟩
  | x :: xs, h => by
    obtain ⟨a, ha⟩ := h x (by simp)
    obtain ⟨l, hl⟩ := got_rows (xs := xs) fun y hy => h y (by simp [hy])
    exact ⟨a :: l, by simp [dRows, ha, hl]⟩
theorem got_lst {A : Type} {of : List D → Option A} {sz : Nat} {r : List Sh} {d : D} (hf : ∀ ds, hasL r ds → ∃ a, of ds = some a) (h : (Sh.lst sz r).has d) : ∃ l, dLst sz of d = some l := by
  simp only [Sh.has] at h
  obtain ⟨xs, rfl, hx⟩ := h
  obtain ⟨l, hl⟩ := got_rows fun x hm => hf x (hx x hm)
  exact ⟨l, by rw [dLst_lst, hl]⟩
theorem got_i {ds : List D} (h : hasL [.int .i64] ds) : ∃ a, iof ds = some a := by
  obtain ⟨d, ds', rfl, h1, h2⟩ := hasL_cons h
  obtain rfl := hasL_nil h2
  obtain ⟨n, hn⟩ := got_int h1
  exact ⟨n, hn⟩
theorem got_s {ds : List D} (h : hasL [.str] ds) : ∃ a, sof ds = some a := by
  obtain ⟨d, ds', rfl, h1, h2⟩ := hasL_cons h
  obtain rfl := hasL_nil h2
  obtain ⟨n, hn⟩ := got_str h1
  exact ⟨n, hn⟩
theorem got_b {ds : List D} (h : hasL [.bool] ds) : ∃ a, bof ds = some a := by
  obtain ⟨d, ds', rfl, h1, h2⟩ := hasL_cons h
  obtain rfl := hasL_nil h2
  obtain ⟨n, hn⟩ := got_bool h1
  exact ⟨n, hn⟩
theorem got_l {A : Type} {of : List D → Option A} {sz : Nat} {r : List Sh} (hf : ∀ ds, hasL r ds → ∃ a, of ds = some a) {ds : List D} (h : hasL [.lst sz r] ds) : ∃ a, lof sz of ds = some a := by
  obtain ⟨d, ds', rfl, h1, h2⟩ := hasL_cons h
  obtain rfl := hasL_nil h2
  obtain ⟨n, hn⟩ := got_lst hf h1
  exact ⟨n, hn⟩
/-- An argument that is no struct. -/
theorem arg_one {H : Type} {enc : TypeId × Value → H} {P : Program} {w : World} {base : Nat} {spare : Nat → Bool} {held : Bool} {t : TypeId} {v : Value} {d : DataW H} {ps : List MemPlace} {s : Sh} {n : Nat} (hs : shOf P n t = some [s]) (h : DataW.Trod enc P w base spare held t v d ps) (hv : ∀ cs, v ≠ .agg cs) : ∃ x, s.has x ∧ x.rd w (fun _ => True) v := by
  obtain ⟨fuel, hf⟩ := h
  obtain ⟨ds, h1, h2, _, _⟩ := trod_sh n fuel t _ _ _ hs hf
  obtain ⟨x, ds', rfl, h3, h4⟩ := hasL_cons h1
  obtain rfl := hasL_nil h4
  have e : v.cells.toList = [v] := by
    cases v <;> first | rfl | exact absurd rfl (hv _)
  rw [e] at h2
  simp only [rdVals] at h2
  obtain ⟨u, vs, e2, h5, h6⟩ := h2
  obtain ⟨rfl, rfl⟩ := List.cons.inj e2
  exact ⟨x, h3, h5⟩
/-- An argument that is a struct. -/
theorem arg_agg {H : Type} {enc : TypeId × Value → H} {P : Program} {w : World} {base : Nat} {spare : Nat → Bool} {held : Bool} {t : TypeId} {cs : Array Value} {d : DataW H} {ps : List MemPlace} {ss : List Sh} {n : Nat} (hs : shOf P n t = some ss) (h : DataW.Trod enc P w base spare held t (.agg cs) d ps) : ∃ xs, hasL ss xs ∧ (D.agg xs).rd w (fun _ => True) (.agg cs) := by
  obtain ⟨fuel, hf⟩ := h
  obtain ⟨ds, h1, h2, _, h4⟩ := trod_sh n fuel t _ _ _ hs hf
  exact ⟨ds, h1, by simp only [D.rd]; exact ⟨cs, rfl, h4, h2⟩⟩
end Go.Proofs.Ytomnjbebgfadoaa.Pi
end
section
/- Shapes of the program's structs.
   Conditions: none; definitions and lemmas. -/
set_option linter.unusedVariables false
set_option linter.unusedSimpArgs false
namespace Go.Proofs.Ytomnjbebgfadoaa.Pi
open Go Go.RowKit

def Point.sh : List Sh := [.int .i64, .int .i64]
theorem Point.got (ds : List D) (h : hasL Point.sh ds) : ∃ a, Point.of ds = some a := by
  unfold Point.sh at h
  obtain ⟨d0, r0, rfl, h0, h⟩ := hasL_cons h
  obtain ⟨d1, r1, rfl, h1, h⟩ := hasL_cons h
  obtain rfl := hasL_nil h
  obtain ⟨b0, e0⟩ := got_int h0
  obtain ⟨b1, e1⟩ := got_int h1
  have e : Point.of [d0, d1] = some ⟨b0, b1⟩ := by simp only [Point.of, e0, e1, Option.bind_some]
  exact ⟨_, e⟩
def Cell.sh : List Sh := [.int .i64, .int .i64]
theorem Cell.got (ds : List D) (h : hasL Cell.sh ds) : ∃ a, Cell.of ds = some a := by
  unfold Cell.sh at h
  obtain ⟨d0, r0, rfl, h0, h⟩ := hasL_cons h
  obtain ⟨d1, r1, rfl, h1, h⟩ := hasL_cons h
  obtain rfl := hasL_nil h
  obtain ⟨b0, e0⟩ := got_int h0
  obtain ⟨b1, e1⟩ := got_int h1
  have e : Cell.of [d0, d1] = some ⟨b0, b1⟩ := by simp only [Cell.of, e0, e1, Option.bind_some]
  exact ⟨_, e⟩
def Band.sh : List Sh := [.lst 2 Point.sh, .lst 2 Point.sh]
theorem Band.got (ds : List D) (h : hasL Band.sh ds) : ∃ a, Band.of ds = some a := by
  unfold Band.sh at h
  obtain ⟨d0, r0, rfl, h0, h⟩ := hasL_cons h
  obtain ⟨d1, r1, rfl, h1, h⟩ := hasL_cons h
  obtain rfl := hasL_nil h
  obtain ⟨b0, e0⟩ := got_lst Point.got h0
  obtain ⟨b1, e1⟩ := got_lst Point.got h1
  have e : Band.of [d0, d1] = some ⟨b0, b1⟩ := by simp only [Band.of, e0, e1, Option.bind_some]
  exact ⟨_, e⟩
def Place.sh : List Sh := [.str, .int .i64, .int .i64, .int .i64, .lst 2 Point.sh, .lst 1 [.int .i64], .int .i64, .int .i64, .int .i64, .int .i64, .int .i64, .lst 2 Cell.sh]
theorem Place.got (ds : List D) (h : hasL Place.sh ds) : ∃ a, Place.of ds = some a := by
  unfold Place.sh at h
  obtain ⟨d0, r0, rfl, h0, h⟩ := hasL_cons h
  obtain ⟨d1, r1, rfl, h1, h⟩ := hasL_cons h
  obtain ⟨d2, r2, rfl, h2, h⟩ := hasL_cons h
  obtain ⟨d3, r3, rfl, h3, h⟩ := hasL_cons h
  obtain ⟨d4, r4, rfl, h4, h⟩ := hasL_cons h
  obtain ⟨d5, r5, rfl, h5, h⟩ := hasL_cons h
  obtain ⟨d6, r6, rfl, h6, h⟩ := hasL_cons h
  obtain ⟨d7, r7, rfl, h7, h⟩ := hasL_cons h
  obtain ⟨d8, r8, rfl, h8, h⟩ := hasL_cons h
  obtain ⟨d9, r9, rfl, h9, h⟩ := hasL_cons h
  obtain ⟨d10, r10, rfl, h10, h⟩ := hasL_cons h
  obtain ⟨d11, r11, rfl, h11, h⟩ := hasL_cons h
  obtain rfl := hasL_nil h
  obtain ⟨b0, e0⟩ := got_str h0
  obtain ⟨b1, e1⟩ := got_int h1
  obtain ⟨b2, e2⟩ := got_int h2
  obtain ⟨b3, e3⟩ := got_int h3
  obtain ⟨b4, e4⟩ := got_lst Point.got h4
  obtain ⟨b5, e5⟩ := got_lst (fun _ h => got_i h) h5
  obtain ⟨b6, e6⟩ := got_int h6
  obtain ⟨b7, e7⟩ := got_int h7
  obtain ⟨b8, e8⟩ := got_int h8
  obtain ⟨b9, e9⟩ := got_int h9
  obtain ⟨b10, e10⟩ := got_int h10
  obtain ⟨b11, e11⟩ := got_lst Cell.got h11
  have e : Place.of [d0, d1, d2, d3, d4, d5, d6, d7, d8, d9, d10, d11] = some ⟨b0, b1, b2, b3, b4, b5, b6, b7, b8, b9, b10, b11⟩ := by simp only [Place.of, e0, e1, e2, e3, e4, e5, e6, e7, e8, e9, e10, e11, Option.bind_some]
  exact ⟨_, e⟩
def Link.sh : List Sh := [.str, .int .i64, .int .i64, .int .i64, .lst 2 Point.sh, .lst 2 Point.sh, .lst 2 Point.sh, .int .i64, .int .i64, .int .i64, .int .i64, .int .i64, .int .i64, .int .i64, .int .i64, .int .i64, .int .i64, .int .i64]
theorem Link.got (ds : List D) (h : hasL Link.sh ds) : ∃ a, Link.of ds = some a := by
  unfold Link.sh at h
  obtain ⟨d0, r0, rfl, h0, h⟩ := hasL_cons h
  obtain ⟨d1, r1, rfl, h1, h⟩ := hasL_cons h
  obtain ⟨d2, r2, rfl, h2, h⟩ := hasL_cons h
  obtain ⟨d3, r3, rfl, h3, h⟩ := hasL_cons h
  obtain ⟨d4, r4, rfl, h4, h⟩ := hasL_cons h
  obtain ⟨d5, r5, rfl, h5, h⟩ := hasL_cons h
  obtain ⟨d6, r6, rfl, h6, h⟩ := hasL_cons h
  obtain ⟨d7, r7, rfl, h7, h⟩ := hasL_cons h
  obtain ⟨d8, r8, rfl, h8, h⟩ := hasL_cons h
  obtain ⟨d9, r9, rfl, h9, h⟩ := hasL_cons h
  obtain ⟨d10, r10, rfl, h10, h⟩ := hasL_cons h
  obtain ⟨d11, r11, rfl, h11, h⟩ := hasL_cons h
  obtain ⟨d12, r12, rfl, h12, h⟩ := hasL_cons h
  obtain ⟨d13, r13, rfl, h13, h⟩ := hasL_cons h
  obtain ⟨d14, r14, rfl, h14, h⟩ := hasL_cons h
  obtain ⟨d15, r15, rfl, h15, h⟩ := hasL_cons h
  obtain ⟨d16, r16, rfl, h16, h⟩ := hasL_cons h
  obtain ⟨d17, r17, rfl, h17, h⟩ := hasL_cons h
  obtain rfl := hasL_nil h
  obtain ⟨b0, e0⟩ := got_str h0
  obtain ⟨b1, e1⟩ := got_int h1
  obtain ⟨b2, e2⟩ := got_int h2
  obtain ⟨b3, e3⟩ := got_int h3
  obtain ⟨b4, e4⟩ := got_lst Point.got h4
  obtain ⟨b5, e5⟩ := got_lst Point.got h5
  obtain ⟨b6, e6⟩ := got_lst Point.got h6
  obtain ⟨b7, e7⟩ := got_int h7
  obtain ⟨b8, e8⟩ := got_int h8
  obtain ⟨b9, e9⟩ := got_int h9
  obtain ⟨b10, e10⟩ := got_int h10
  obtain ⟨b11, e11⟩ := got_int h11
  obtain ⟨b12, e12⟩ := got_int h12
  obtain ⟨b13, e13⟩ := got_int h13
  obtain ⟨b14, e14⟩ := got_int h14
  obtain ⟨b15, e15⟩ := got_int h15
  obtain ⟨b16, e16⟩ := got_int h16
  obtain ⟨b17, e17⟩ := got_int h17
  have e : Link.of [d0, d1, d2, d3, d4, d5, d6, d7, d8, d9, d10, d11, d12, d13, d14, d15, d16, d17] = some ⟨b0, b1, b2, b3, b4, ⟨b5, b6⟩, b7, b8, b9, b10, b11, b12, b13, b14, b15, b16, b17⟩ := by simp only [Link.of, e0, e1, e2, e3, e4, e5, e6, e7, e8, e9, e10, e11, e12, e13, e14, e15, e16, e17, Option.bind_some]
  exact ⟨_, e⟩
def Town.sh : List Sh := [.str, .int .i64, .int .i64, .int .i64, .int .i64, .int .i64, .int .i64]
theorem Town.got (ds : List D) (h : hasL Town.sh ds) : ∃ a, Town.of ds = some a := by
  unfold Town.sh at h
  obtain ⟨d0, r0, rfl, h0, h⟩ := hasL_cons h
  obtain ⟨d1, r1, rfl, h1, h⟩ := hasL_cons h
  obtain ⟨d2, r2, rfl, h2, h⟩ := hasL_cons h
  obtain ⟨d3, r3, rfl, h3, h⟩ := hasL_cons h
  obtain ⟨d4, r4, rfl, h4, h⟩ := hasL_cons h
  obtain ⟨d5, r5, rfl, h5, h⟩ := hasL_cons h
  obtain ⟨d6, r6, rfl, h6, h⟩ := hasL_cons h
  obtain rfl := hasL_nil h
  obtain ⟨b0, e0⟩ := got_str h0
  obtain ⟨b1, e1⟩ := got_int h1
  obtain ⟨b2, e2⟩ := got_int h2
  obtain ⟨b3, e3⟩ := got_int h3
  obtain ⟨b4, e4⟩ := got_int h4
  obtain ⟨b5, e5⟩ := got_int h5
  obtain ⟨b6, e6⟩ := got_int h6
  have e : Town.of [d0, d1, d2, d3, d4, d5, d6] = some ⟨b0, b1, b2, b3, b4, b5, b6⟩ := by simp only [Town.of, e0, e1, e2, e3, e4, e5, e6, Option.bind_some]
  exact ⟨_, e⟩
def Shelter.sh : List Sh := [.str, .int .i64]
theorem Shelter.got (ds : List D) (h : hasL Shelter.sh ds) : ∃ a, Shelter.of ds = some a := by
  unfold Shelter.sh at h
  obtain ⟨d0, r0, rfl, h0, h⟩ := hasL_cons h
  obtain ⟨d1, r1, rfl, h1, h⟩ := hasL_cons h
  obtain rfl := hasL_nil h
  obtain ⟨b0, e0⟩ := got_str h0
  obtain ⟨b1, e1⟩ := got_int h1
  have e : Shelter.of [d0, d1] = some ⟨b0, b1⟩ := by simp only [Shelter.of, e0, e1, Option.bind_some]
  exact ⟨_, e⟩
def Gauge.sh : List Sh := [.str, .int .i64, .int .i64, .int .i64, .int .i64]
theorem Gauge.got (ds : List D) (h : hasL Gauge.sh ds) : ∃ a, Gauge.of ds = some a := by
  unfold Gauge.sh at h
  obtain ⟨d0, r0, rfl, h0, h⟩ := hasL_cons h
  obtain ⟨d1, r1, rfl, h1, h⟩ := hasL_cons h
  obtain ⟨d2, r2, rfl, h2, h⟩ := hasL_cons h
  obtain ⟨d3, r3, rfl, h3, h⟩ := hasL_cons h
  obtain ⟨d4, r4, rfl, h4, h⟩ := hasL_cons h
  obtain rfl := hasL_nil h
  obtain ⟨b0, e0⟩ := got_str h0
  obtain ⟨b1, e1⟩ := got_int h1
  obtain ⟨b2, e2⟩ := got_int h2
  obtain ⟨b3, e3⟩ := got_int h3
  obtain ⟨b4, e4⟩ := got_int h4
  have e : Gauge.of [d0, d1, d2, d3, d4] = some ⟨b0, b1, b2, b3, b4⟩ := by simp only [Gauge.of, e0, e1, e2, e3, e4, Option.bind_some]
  exact ⟨_, e⟩
def Road.sh : List Sh := [.str, .int .i64, .int .i64, .int .i64, .int .i64, .int .i64, .int .i64]
theorem Road.got (ds : List D) (h : hasL Road.sh ds) : ∃ a, Road.of ds = some a := by
  unfold Road.sh at h
  obtain ⟨d0, r0, rfl, h0, h⟩ := hasL_cons h
  obtain ⟨d1, r1, rfl, h1, h⟩ := hasL_cons h
  obtain ⟨d2, r2, rfl, h2, h⟩ := hasL_cons h
  obtain ⟨d3, r3, rfl, h3, h⟩ := hasL_cons h
  obtain ⟨d4, r4, rfl, h4, h⟩ := hasL_cons h
  obtain ⟨d5, r5, rfl, h5, h⟩ := hasL_cons h
  obtain ⟨d6, r6, rfl, h6, h⟩ := hasL_cons h
  obtain rfl := hasL_nil h
  obtain ⟨b0, e0⟩ := got_str h0
  obtain ⟨b1, e1⟩ := got_int h1
  obtain ⟨b2, e2⟩ := got_int h2
  obtain ⟨b3, e3⟩ := got_int h3
  obtain ⟨b4, e4⟩ := got_int h4
  obtain ⟨b5, e5⟩ := got_int h5
  obtain ⟨b6, e6⟩ := got_int h6
  have e : Road.of [d0, d1, d2, d3, d4, d5, d6] = some ⟨b0, b1, b2, b3, b4, b5, b6⟩ := by simp only [Road.of, e0, e1, e2, e3, e4, e5, e6, Option.bind_some]
  exact ⟨_, e⟩
def Basin.sh : List Sh := [.str, .lst 1 [.str], .int .i64, .lst 12 Place.sh, .lst 18 Link.sh, .lst 7 Town.sh, .lst 5 Gauge.sh, .lst 7 Road.sh, .lst 2 Shelter.sh, .lst 1 [.int .i64], .int .i64]
theorem Basin.got (ds : List D) (h : hasL Basin.sh ds) : ∃ a, Basin.of ds = some a := by
  unfold Basin.sh at h
  obtain ⟨d0, r0, rfl, h0, h⟩ := hasL_cons h
  obtain ⟨d1, r1, rfl, h1, h⟩ := hasL_cons h
  obtain ⟨d2, r2, rfl, h2, h⟩ := hasL_cons h
  obtain ⟨d3, r3, rfl, h3, h⟩ := hasL_cons h
  obtain ⟨d4, r4, rfl, h4, h⟩ := hasL_cons h
  obtain ⟨d5, r5, rfl, h5, h⟩ := hasL_cons h
  obtain ⟨d6, r6, rfl, h6, h⟩ := hasL_cons h
  obtain ⟨d7, r7, rfl, h7, h⟩ := hasL_cons h
  obtain ⟨d8, r8, rfl, h8, h⟩ := hasL_cons h
  obtain ⟨d9, r9, rfl, h9, h⟩ := hasL_cons h
  obtain ⟨d10, r10, rfl, h10, h⟩ := hasL_cons h
  obtain rfl := hasL_nil h
  obtain ⟨b0, e0⟩ := got_str h0
  obtain ⟨b1, e1⟩ := got_lst (fun _ h => got_s h) h1
  obtain ⟨b2, e2⟩ := got_int h2
  obtain ⟨b3, e3⟩ := got_lst Place.got h3
  obtain ⟨b4, e4⟩ := got_lst Link.got h4
  obtain ⟨b5, e5⟩ := got_lst Town.got h5
  obtain ⟨b6, e6⟩ := got_lst Gauge.got h6
  obtain ⟨b7, e7⟩ := got_lst Road.got h7
  obtain ⟨b8, e8⟩ := got_lst Shelter.got h8
  obtain ⟨b9, e9⟩ := got_lst (fun _ h => got_i h) h9
  obtain ⟨b10, e10⟩ := got_int h10
  have e : Basin.of [d0, d1, d2, d3, d4, d5, d6, d7, d8, d9, d10] = some ⟨b0, b1, b2, b3, b4, b5, b6, b7, b8, b9, b10⟩ := by simp only [Basin.of, e0, e1, e2, e3, e4, e5, e6, e7, e8, e9, e10, Option.bind_some]
  exact ⟨_, e⟩
def Claim.sh : List Sh := [.int .i64, .int .i64, .int .i64, .int .i64, .int .i64, .int .i64, .int .i64, .int .i64, .int .i64]
theorem Claim.got (ds : List D) (h : hasL Claim.sh ds) : ∃ a, Claim.of ds = some a := by
  unfold Claim.sh at h
  obtain ⟨d0, r0, rfl, h0, h⟩ := hasL_cons h
  obtain ⟨d1, r1, rfl, h1, h⟩ := hasL_cons h
  obtain ⟨d2, r2, rfl, h2, h⟩ := hasL_cons h
  obtain ⟨d3, r3, rfl, h3, h⟩ := hasL_cons h
  obtain ⟨d4, r4, rfl, h4, h⟩ := hasL_cons h
  obtain ⟨d5, r5, rfl, h5, h⟩ := hasL_cons h
  obtain ⟨d6, r6, rfl, h6, h⟩ := hasL_cons h
  obtain ⟨d7, r7, rfl, h7, h⟩ := hasL_cons h
  obtain ⟨d8, r8, rfl, h8, h⟩ := hasL_cons h
  obtain rfl := hasL_nil h
  obtain ⟨b0, e0⟩ := got_int h0
  obtain ⟨b1, e1⟩ := got_int h1
  obtain ⟨b2, e2⟩ := got_int h2
  obtain ⟨b3, e3⟩ := got_int h3
  obtain ⟨b4, e4⟩ := got_int h4
  obtain ⟨b5, e5⟩ := got_int h5
  obtain ⟨b6, e6⟩ := got_int h6
  obtain ⟨b7, e7⟩ := got_int h7
  obtain ⟨b8, e8⟩ := got_int h8
  have e : Claim.of [d0, d1, d2, d3, d4, d5, d6, d7, d8] = some ⟨b0, b1, b2, b3, b4, b5, b6, b7, b8⟩ := by simp only [Claim.of, e0, e1, e2, e3, e4, e5, e6, e7, e8, Option.bind_some]
  exact ⟨_, e⟩
def Grant.sh : List Sh := [.int .i64, .int .i64]
theorem Grant.got (ds : List D) (h : hasL Grant.sh ds) : ∃ a, Grant.of ds = some a := by
  unfold Grant.sh at h
  obtain ⟨d0, r0, rfl, h0, h⟩ := hasL_cons h
  obtain ⟨d1, r1, rfl, h1, h⟩ := hasL_cons h
  obtain rfl := hasL_nil h
  obtain ⟨b0, e0⟩ := got_int h0
  obtain ⟨b1, e1⟩ := got_int h1
  have e : Grant.of [d0, d1] = some ⟨b0, b1⟩ := by simp only [Grant.of, e0, e1, Option.bind_some]
  exact ⟨_, e⟩
def Entry.sh : List Sh := [.int .i64, .int .i64, .int .i64, .int .i64, .int .i64, .int .i64, .int .i64]
theorem Entry.got (ds : List D) (h : hasL Entry.sh ds) : ∃ a, Entry.of ds = some a := by
  unfold Entry.sh at h
  obtain ⟨d0, r0, rfl, h0, h⟩ := hasL_cons h
  obtain ⟨d1, r1, rfl, h1, h⟩ := hasL_cons h
  obtain ⟨d2, r2, rfl, h2, h⟩ := hasL_cons h
  obtain ⟨d3, r3, rfl, h3, h⟩ := hasL_cons h
  obtain ⟨d4, r4, rfl, h4, h⟩ := hasL_cons h
  obtain ⟨d5, r5, rfl, h5, h⟩ := hasL_cons h
  obtain ⟨d6, r6, rfl, h6, h⟩ := hasL_cons h
  obtain rfl := hasL_nil h
  obtain ⟨b0, e0⟩ := got_int h0
  obtain ⟨b1, e1⟩ := got_int h1
  obtain ⟨b2, e2⟩ := got_int h2
  obtain ⟨b3, e3⟩ := got_int h3
  obtain ⟨b4, e4⟩ := got_int h4
  obtain ⟨b5, e5⟩ := got_int h5
  obtain ⟨b6, e6⟩ := got_int h6
  have e : Entry.of [d0, d1, d2, d3, d4, d5, d6] = some ⟨b0, b1, b2, b3, b4, b5, b6⟩ := by simp only [Entry.of, e0, e1, e2, e3, e4, e5, e6, Option.bind_some]
  exact ⟨_, e⟩
def Report.sh : List Sh := [.lst 9 Claim.sh, .lst 1 [.int .i64]]
theorem Report.got (ds : List D) (h : hasL Report.sh ds) : ∃ a, Report.of ds = some a := by
  unfold Report.sh at h
  obtain ⟨d0, r0, rfl, h0, h⟩ := hasL_cons h
  obtain ⟨d1, r1, rfl, h1, h⟩ := hasL_cons h
  obtain rfl := hasL_nil h
  obtain ⟨b0, e0⟩ := got_lst Claim.got h0
  obtain ⟨b1, e1⟩ := got_lst (fun _ h => got_i h) h1
  have e : Report.of [d0, d1] = some ⟨b0, b1⟩ := by simp only [Report.of, e0, e1, Option.bind_some]
  exact ⟨_, e⟩
def Triple.sh : List Sh := [.int .i64, .int .i64, .int .i64]
theorem Triple.got (ds : List D) (h : hasL Triple.sh ds) : ∃ a, Triple.of ds = some a := by
  unfold Triple.sh at h
  obtain ⟨d0, r0, rfl, h0, h⟩ := hasL_cons h
  obtain ⟨d1, r1, rfl, h1, h⟩ := hasL_cons h
  obtain ⟨d2, r2, rfl, h2, h⟩ := hasL_cons h
  obtain rfl := hasL_nil h
  obtain ⟨b0, e0⟩ := got_int h0
  obtain ⟨b1, e1⟩ := got_int h1
  obtain ⟨b2, e2⟩ := got_int h2
  have e : Triple.of [d0, d1, d2] = some ⟨b0, b1, b2⟩ := by simp only [Triple.of, e0, e1, e2, Option.bind_some]
  exact ⟨_, e⟩
def Posting.sh : List Sh := [.int .i64, .int .i64]
theorem Posting.got (ds : List D) (h : hasL Posting.sh ds) : ∃ a, Posting.of ds = some a := by
  unfold Posting.sh at h
  obtain ⟨d0, r0, rfl, h0, h⟩ := hasL_cons h
  obtain ⟨d1, r1, rfl, h1, h⟩ := hasL_cons h
  obtain rfl := hasL_nil h
  obtain ⟨b0, e0⟩ := got_int h0
  obtain ⟨b1, e1⟩ := got_int h1
  have e : Posting.of [d0, d1] = some ⟨b0, b1⟩ := by simp only [Posting.of, e0, e1, Option.bind_some]
  exact ⟨_, e⟩
end Go.Proofs.Ytomnjbebgfadoaa.Pi
end
section
/- What the arguments of the statements read as.
   Conditions: none; lemmas. -/
set_option linter.unusedVariables false
set_option linter.unusedSimpArgs false
namespace Go.Proofs.Ytomnjbebgfadoaa.Pi
open Go Go.RowKit Go.Proofs
open Go.ChangeShapes Go.WideShapes Go.ChangeAt
set_option maxRecDepth 100000
theorem own : ownKnob Try.prog.godebug = none := by kernel_rfl
theorem laidOut : laidOutB Try.prog = true := by kernel_rfl
theorem sh31 : shOf Try.prog 12 31 = some Basin.sh := by kernel_rfl
theorem sh32 : shOf Try.prog 12 32 = some [.lst 9 Claim.sh] := by kernel_rfl
theorem sh29 : shOf Try.prog 12 29 = some [.lst 1 [.int .i64]] := by kernel_rfl
theorem sh3 : shOf Try.prog 12 3 = some [.int .i64] := by kernel_rfl
theorem rels_true {w : World} {ok : Nat → Prop} {base : Nat} {us : List Value} (h : RV.rels w ok base [.d (.bool true)] us) : us = [.bool true] := by
  simp only [RV.rels, RV.rel, D.rd] at h
  obtain ⟨v, vs, rfl, rfl, rfl⟩ := h
  rfl
section
variable {H : Type} {enc : TypeId × Value → H} {w : World} {base : Nat} {spare : Nat → Bool} {held : Bool} {d : DataW H} {ps : List MemPlace} {v : Value} {r : Reach}
theorem get31 {b0 : Nat} (hv : Value.okWide Try.prog w r b0 31 v) (h : DataW.Trod enc Try.prog w base spare held 31 v d ps) : ∃ b : Basin, (Basin.d b).rd w (fun _ => True) v := by
  simp only [Value.okWide, Try.underlying31] at hv
  obtain ⟨cs, rfl, _⟩ := hv
  obtain ⟨xs, h1, h2⟩ := arg_agg sh31 h
  obtain ⟨b, hb⟩ := Basin.got _ h1
  rw [(Basin.iff _ _).1 hb] at h2
  exact ⟨b, h2⟩
theorem get32 {b0 : Nat} (hv : Value.okWide Try.prog w r b0 32 v) (h : DataW.Trod enc Try.prog w base spare held 32 v d ps) : ∃ l : List Claim, (D.lst 9 (l.map Claim.row)).rd w (fun _ => True) v := by
  obtain ⟨a, len, cap, rfl⟩ := okWide_slice Try.underlying32 hv
  obtain ⟨x, h1, h2⟩ := arg_one sh32 h (fun cs => by simp)
  obtain ⟨l, hl⟩ := got_lst Claim.got h1
  rw [(dLst_iff Claim.iff).1 hl] at h2
  exact ⟨l, h2⟩
theorem get29 {b0 : Nat} (hv : Value.okWide Try.prog w r b0 29 v) (h : DataW.Trod enc Try.prog w base spare held 29 v d ps) : ∃ l : List Int, (D.lst 1 (l.map irow)).rd w (fun _ => True) v := by
  obtain ⟨a, len, cap, rfl⟩ := okWide_slice Try.underlying29 hv
  obtain ⟨x, h1, h2⟩ := arg_one sh29 h (fun cs => by simp)
  obtain ⟨l, hl⟩ := got_lst (fun _ h => got_i h) h1
  rw [(dLst_iff iof_iff).1 hl] at h2
  exact ⟨l, h2⟩
theorem getI {b0 : Nat} (hv : Value.okWide Try.prog w r b0 3 v) (h : DataW.Trod enc Try.prog w base spare held 3 v d ps) : ∃ n : Int, (D.int .i64 n).rd w (fun _ => True) v := by
  have h0 := h
  obtain ⟨n, rfl, _, _, _⟩ := open_int Try.underlying3 hv h0
  exact ⟨n, by simp only [D.rd]⟩
end
theorem back {H : Type} {enc : TypeId × Value → H} {t : TypeId} (hr : Try.prog.readableRec t = true) (hrow : t < Try.prog.types.size) {W W' : World} {v : Value} {d : DataW H} {ps : List MemPlace} (h : DataW.Trod enc Try.prog W 0 (fun _ => true) true t v d ps) (hb : Below W.heap.size W W') :
    DataW.Trod enc Try.prog W' 0 (fun b => decide (b < W.heap.size)) true t v d ps :=
  Below.trod laidOut hr hrow h hb (by obtain ⟨m, hm⟩ := h; exact DataW.trod_lt m _ _ _ hm)
def zeroBasin : Value := .agg #[.string ByteArray.empty, .slice none 0 0, .int .i64 0, .slice none 0 0, .slice none 0 0, .slice none 0 0, .slice none 0 0, .slice none 0 0, .slice none 0 0, .slice none 0 0, .int .i64 0]
end Go.Proofs.Ytomnjbebgfadoaa.Pi
end
section
/- What a list of reports reads as.
   Conditions: none; lemmas. -/
set_option linter.unusedVariables false
set_option linter.unusedSimpArgs false
namespace Go.Proofs.Ytomnjbebgfadoaa.Pi
open Go Go.RowKit Go.Proofs
open Go.ChangeShapes Go.WideShapes Go.ChangeAt
set_option maxRecDepth 100000
theorem sh51 : shOf Try.prog 12 51 = some [.lst 2 Report.sh] := by kernel_rfl
theorem get51 {H : Type} {enc : TypeId × Value → H} {w : World} {base : Nat} {spare : Nat → Bool} {held : Bool} {d : DataW H} {ps : List MemPlace} {v : Value} {r : Reach} {b0 : Nat} (hv : Value.okWide Try.prog w r b0 51 v) (h : DataW.Trod enc Try.prog w base spare held 51 v d ps) : ∃ l : List Report, (D.lst 2 (l.map Report.row)).rd w (fun _ => True) v := by
  obtain ⟨a, len, cap, rfl⟩ := okWide_slice Try.underlying51 hv
  obtain ⟨x, h1, h2⟩ := arg_one sh51 h (fun cs => by simp)
  obtain ⟨l, hl⟩ := got_lst Report.got h1
  rw [(dLst_iff Report.iff).1 hl] at h2
  exact ⟨l, h2⟩
end Go.Proofs.Ytomnjbebgfadoaa.Pi
end
section
/- Contracts: curves.
   Conditions: none; lemmas. -/
set_option linter.unusedVariables false
set_option linter.unusedSimpArgs false
namespace Go.Proofs.Ytomnjbebgfadoaa.Pi
open Go Go.RowKit Go.Proofs
set_option maxHeartbeats 4000000
abbrev cPts : Cod (List Point) := cod1 (fun l => .lst 2 (l.map Point.row)) (dLst 2 Point.of) fun _ _ => dLst_iff Point.iff
theorem cPts_enc (a : List Point) : cPts.enc a = [.lst 2 (a.map Point.row)] := rfl
theorem cPts_dec (a : List Point) : cPts.dec [.lst 2 (a.map Point.row)] = some a := (cPts.iff _ _).2 rfl
abbrev cPts2 : Cod (List Point × List Point) := codC (fun l => .lst 2 (l.map Point.row)) (dLst 2 Point.of) (fun _ _ => dLst_iff Point.iff) cPts
theorem cPts2_enc (a : List Point × List Point) : cPts2.enc a = [.lst 2 (a.1.map Point.row), .lst 2 (a.2.map Point.row)] := rfl
theorem cPts2_dec (a b : List Point) : cPts2.dec [.lst 2 (a.map Point.row), .lst 2 (b.map Point.row)] = some (a, b) := (cPts2.iff _ (a, b)).2 rfl
theorem boolSome {A : Type} : ∀ a : A, True → ∃ r : List RV, ∃ b : Bool, r = [.d (.bool b)] := fun _ _ => ⟨_, true, rfl⟩
theorem anyFlat {A : Type} : true = true → ∀ (a : A) (r : List RV), (∃ b : Bool, r = [.d (.bool b)]) → ∀ x ∈ r, RV.flat x = true := by
  rintro _ a r ⟨b, rfl⟩ x hx
  simp only [List.mem_singleton] at hx
  subst hx
  rfl
abbrev con54 : Con := .of cPts (fun _ => True) (fun l rs => ∃ b : Bool, (b = true → 1 ≤ l.length) ∧ rs = [.d (.bool b)]) true
noncomputable def E54 : Env := (E0.add 64 con64).at 66 (fun d => false) (fun d => d) (fun d => true)
theorem E54_ok : EnvOk E54 := (E0_ok.add Try.func64 rfl rfl ok64).at _ _ _ _
theorem E54_r : E54.ty = E0.ty ∧ (E54.con 64 = some con64 ∧ E54.icon 64 = none) ∧ E54.fact 6 = true ∧ E54.fact 59 = true ∧ E54.fact 63 = true ∧ (∀ d, E54.key d = d) := ⟨rfl, ⟨rfl, rfl⟩, rfl, rfl, rfl, fun _ => rfl⟩

theorem ok54 : ConOk Try.prog 54 con54 := by
  refine con_of (E := E54) E54_ok (fn := Try.f54) Try.func54 rfl (by decide) (by kernel_rfl) (rs := [.tmp 2]) rfl (by decide) (by decide) [.data 4]  (fun _ _ => ⟨_, false, by simp, rfl⟩) (by rintro _ a r ⟨b, _, rfl⟩ x hx; simp only [List.mem_singleton] at hx; subst hx; rfl) ?_
  intro l _
  simp only [startP_eq, startL, List.map_cons, List.map_nil, run_region, run_seq, run_block, run_loop, opsK_nil, opsK_op, seqK_normal, ev_int, ev_bool, op_assign, cod1_enc]
  refine pwp_loop (fun n S => ∃ i : Int, 0 ≤ i ∧ i ≤ (l.length : Int) ∧ n = ((l.length : Int) - i).toNat ∧ S.t 3 = .d (.int .i64 i) ∧ S.t 0 = .d (.lst 2 (l.map Point.row))) ((l.length : Int) - 0).toNat ⟨0, by omega, by omega, by omega, rfl, (by first | rfl | exact h0 | exact hi)⟩ ?_
  rintro n ⟨t, o⟩ ⟨i, hi0, hil, hn, hi, h0⟩
  simp only at hi h0
  simp (maxSteps := 1000000) only [List.map_cons, List.map_nil, run_skip, run_region, run_seq, run_cond, run_block, run_exit, run_ret, opsK_nil, opsK_op, seqK_normal, seqK_exit, seqK_ret, blkK_normal, blkK_exit, blkK_ret, loopK_normal, loopK_exit, loopK_ret, endP_ret, condK_bool, upd_apply, after_some, ev_tmp, ev_int, ev_bool, St.sv, St.sc, strip, stripC, argsC, pK_none, pK_some, gpK_some, pmap_some, gK, gB_bool, gB_opt, op_move, op_assign, op_gmove, on_pick, on_bin, op_un, op_load, op_fa, op_ia, on_gpick, on_gbin, op_gun, op_gload, op_gfa, op_gia, op_len, op_glen, bin_add, bin_sub, bin_lss, bin_leq, bin_gtr, bin_geq, pick_b, unV, op_call, op_gcall, cgK_some, iK_some, iK2_none, cK_some, cK2_some, conK_flat, conK_gflat, icallInfo_func, callInfo_func, ciK_some, snapVs_nil, snapVs_cons, outK, outL, outM, resPs, resP, rvsOf, rvOf, snapV, snapC, sepB, ownKs, dataKs, keysV, keysC, nodupB, packP, RV.flatP, Option.bind_some, Option.map_some, true_implies, true_and, and_true, implies_true, ↓reduceIte, Nat.reduceEqDiff, reduceCtorEq, Nat.reduceAdd, Nat.reduceLT, Nat.zero_add, Nat.add_zero, List.all_nil, List.append_nil, List.flatMap_cons, List.flatMap_nil, Bool.and_self, List.getElem?_toArray, List.getElem?_cons_succ, List.getElem?_cons_zero, beq_true, beq_false, Bool.not_eq_true', Bool.and_eq_true, List.contains_nil, Bool.not_false, of_pre, of_post, of_flat, cod1_dec, dInt_int, some_ex, some_ex1, imp_self, and_self, Env.tk, loadV, fieldAddrV, indexAddrV, lenV, loadD, TI.isAgg, List.getD_cons_zero, List.getD_cons_succ, List.length_cons, List.length_nil, List.length_map, ex_eq, or_true, imp_eq, pN_bool, pN_int, pN_gbool, pN_gint, gpN_some, lbK_true, lnK_none, lnK_some, glbK_some, lenF, Bool.false_eq_true, maxLen_eq, ty_r, E54_r, Point.getD, Point.row, con64, hi, h0]
  (try rw [maxLen_eq])
  repeat' (first | with_reducible apply And.intro | intro _)
  all_goals (try simp only [Named] at *)
  all_goals (try (subst_vars; grind [wrap64]))
  all_goals (refine ghost_id ⟨((l.length : Int) - (i + 1)).toNat, ?_, i + 1, ?_, ?_, rfl, ?_, ?_⟩ <;> (try simp only [upd_apply, Nat.reduceEqDiff, ↓reduceIte, h0]) <;> (first | with_reducible rfl | (subst_vars; grind [wrap64]) | rfl))
abbrev con70 : Con := .of cPts2 (fun _ => True) (fun _ rs => ∃ b : Bool, rs = [.d (.bool b)]) true
noncomputable def E70 : Env := E0.at 26 (fun d => false) (fun d => d) (fun d => true)
theorem E70_ok : EnvOk E70 := E0_ok.at _ _ _ _
theorem E70_r : E70.ty = E0.ty ∧ E70.fact 7 = true ∧ E70.fact 9 = true ∧ E70.fact 13 = true ∧ (∀ d, E70.key d = d) := ⟨rfl, rfl, rfl, rfl, fun _ => rfl⟩

theorem ok70 : ConOk Try.prog 70 con70 := by
  refine con_of (E := E70) E70_ok (fn := Try.f70) Try.func70 rfl (by decide) (by kernel_rfl) (rs := [.tmp 4]) rfl (by decide) (by decide) [.data 4]  boolSome anyFlat ?_
  rintro ⟨l, l'⟩ _
  simp only [startP_eq, startL, List.map_cons, List.map_nil, run_skip, run_region, run_seq, run_cond, run_block, run_ret, run_loop, opsK_nil, opsK_op, seqK_normal, seqK_ret, endP_ret, condK_bool, upd_apply, after_some, ev_tmp, ev_int, ev_bool, St.sv, St.sc, strip, stripC, pK_none, pmap_some, op_move, op_assign, op_bin, op_len, bin_neq, outK, outL, outM, resPs, resP, rvsOf, rvOf, snapV, snapC, sepB, ownKs, dataKs, keysV, keysC, nodupB, Option.bind_some, Option.map_some, true_and, and_true, ↓reduceIte, Nat.reduceEqDiff, reduceCtorEq, Nat.zero_add, List.all_nil, List.append_nil, Bool.and_self, List.contains_nil, Bool.not_false, cod1_enc, codC_enc, and_self, Env.tk, lenV, List.length_map, lbK_true, lnK_none, lenF, maxLen_eq, ty_r, E70_r]
  repeat' (first | apply And.intro | intro _)
  · exact ⟨_, rfl⟩
  rename_i hl1 hl2 hne
  refine pwp_loop (fun n S => ∃ i : Int, 0 ≤ i ∧ i ≤ (l.length : Int) ∧ n = ((l.length : Int) - i).toNat ∧ S.t 5 = .d (.int .i64 i) ∧ S.t 0 = .d (.lst 2 (l.map Point.row)) ∧ S.t 1 = .d (.lst 2 (l'.map Point.row))) ((l.length : Int) - 0).toNat ⟨0, by omega, by omega, by omega, rfl, (by first | rfl | exact h0 | exact hi), (by first | rfl | exact h1 | exact hi)⟩ ?_
  rintro n ⟨t, o⟩ ⟨i, hi0, hil, hn, hi, h0, h1⟩
  simp only at hi h0 h1
  simp (maxSteps := 1000000) only [run_skip, run_region, run_seq, run_cond, run_block, run_exit, run_ret, opsK_nil, opsK_op, seqK_normal, seqK_exit, seqK_ret, blkK_normal, blkK_exit, blkK_ret, loopK_normal, loopK_exit, loopK_ret, endP_ret, condK_bool, upd_apply, after_some, ev_tmp, ev_int, ev_bool, St.sv, St.sc, strip, stripC, pK_none, pmap_some, op_move, op_assign, on_bin, op_load, op_ia, op_len, bin_add, bin_lss, bin_agg, outK, outL, outM, resPs, resP, rvsOf, rvOf, snapV, snapC, sepB, ownKs, dataKs, keysV, keysC, nodupB, Option.bind_some, Option.map_some, true_and, and_true, ↓reduceIte, Nat.reduceEqDiff, reduceCtorEq, Nat.reduceAdd, Nat.reduceLeDiff, Nat.zero_add, List.all_nil, List.append_nil, Bool.and_self, beq_self_eq_true, Bool.and_true, List.contains_nil, Bool.not_false, and_self, Env.tk, loadV, indexAddrV, lenV, loadD, TI.isAgg, cut, List.length_cons, List.length_nil, List.length_map, pN_bool, pN_int, lbK_true, lnK_none, lenF, oneCells, deqs, deq, D.sk, List.take_succ_cons, List.drop_zero, List.take_nil, maxLen_eq, ty_r, E70_r, Point.getD, Point.row, hi, h0, h1]
  (try rw [maxLen_eq])
  repeat' (first | with_reducible apply And.intro | intro _)
  all_goals (try simp only [Named] at *)
  all_goals (try (subst_vars; grind [wrap64]))
  all_goals (refine ghost_id ⟨((l.length : Int) - (i + 1)).toNat, ?_, i + 1, ?_, ?_, rfl, ?_, ?_, ?_⟩ <;> (try simp only [upd_apply, Nat.reduceEqDiff, ↓reduceIte, h0, h1]) <;> (first | with_reducible rfl | (subst_vars; grind [wrap64]) | rfl))
end Go.Proofs.Ytomnjbebgfadoaa.Pi
end
section
/- Contracts: what a right basin asks of its parts.
   Conditions: none; lemmas. -/
set_option linter.unusedVariables false
set_option linter.unusedSimpArgs false
namespace Go.Proofs.Ytomnjbebgfadoaa.Pi
open Go Go.RowKit Go.Proofs
set_option maxHeartbeats 4000000
abbrev cIIB : Cod (Int × Int × Bool) := codC (.int .i64) (dInt .i64) (fun _ _ => dInt_iff) (codC (.int .i64) (dInt .i64) (fun _ _ => dInt_iff) cB)
abbrev con53 : Con := .of cIIB (fun _ => True) (fun _ rs => ∃ b : Bool, rs = [.d (.bool b)]) true
noncomputable def E53 : Env := (E0.add 36 con36).at 24 (fun d => false) (fun d => d) (fun d => true)
theorem E53_ok : EnvOk E53 := (E0_ok.add Try.func36 rfl rfl ok36).at _ _ _ _
theorem E53_r : E53.ty = E0.ty ∧ (E53.con 36 = some con36 ∧ E53.icon 36 = none) ∧ (∀ d, E53.key d = d) := ⟨rfl, ⟨rfl, rfl⟩, fun _ => rfl⟩

theorem ok53 : ConOk Try.prog 53 con53 := by
  refine con_of (E := E53) E53_ok (fn := Try.f53) Try.func53 rfl (by decide) (by kernel_rfl) (rs := [.tmp 6]) rfl (by decide) (by decide) [.data 4]  boolSome anyFlat ?_
  rintro ⟨n, d, z⟩ _
  simp (maxSteps := 1000000) only [startP_eq, startL, List.map_cons, List.map_nil, run_region, run_seq, run_ret, opsK_nil, opsK_op, seqK_normal, endP_ret, upd_apply, after_some, ev_tmp, ev_int, ev_bool, St.sv, St.sc, strip, stripC, argsC, pK_some, gpK_some, pmap_some, gK, gB_bool, gB_opt, op_move, op_assign, op_gmove, on_pick, on_gpick, on_gbin, bin_eql, bin_gtr, pick_b, op_call, op_gcall, cgK_some, iK_some, iK2_none, cK_some, cK2_some, conK_flat, conK_gflat, icallInfo_func, callInfo_func, ciK_some, snapVs_nil, snapVs_cons, outK, outL, outM, resPs, resP, rvsOf, rvOf, snapV, snapC, sepB, ownKs, dataKs, keysV, keysC, nodupB, packP, RV.flatP, Option.bind_some, Option.map_some, true_implies, true_and, and_true, implies_true, ↓reduceIte, Nat.reduceEqDiff, reduceCtorEq, Nat.reduceAdd, Nat.zero_add, List.all_nil, List.append_nil, List.flatMap_cons, List.flatMap_nil, Bool.and_self, List.getElem?_toArray, List.getElem?_cons_succ, List.getElem?_cons_zero, beq_true, beq_false, Bool.not_eq_true', Bool.and_eq_true, List.contains_nil, Bool.not_false, of_pre, of_post, of_flat, cod1_enc, cod1_dec, codC_enc, dInt_int, some_ex, some_ex1, imp_self, and_self, ex_eq, or_true, imp_eq, pN_bool, pN_gbool, gpN_some, E53_r]
  repeat' (first | with_reducible apply And.intro | intro _)
  all_goals (try simp only [Named] at *)
  all_goals (first | exact ⟨_, rfl⟩ | (subst_vars; grind))
abbrev cBas : Cod Basin := cod1 Basin.d (dAgg Basin.of) Basin.diff
abbrev cBI : Cod (Basin × Int) := codC Basin.d (dAgg Basin.of) Basin.diff cI
abbrev cBII : Cod (Basin × Int × Int) := codC Basin.d (dAgg Basin.of) Basin.diff cII
def nextF (b : Basin) (o p : Int) : Bool := if p = -1 then decide (o = 7) else decide (0 ≤ p) && decide (p < b.Places.length) && ((b.Places.getD p.toNat .zero).Office == o || (b.Places.getD p.toNat .zero).Office == IntKind.i64.wrap (o + 1))
abbrev con55 : Con := .of cBII (fun _ => True) (fun a rs => ∃ b : Bool, (b = true → a.2.2 = -1 ∨ 0 ≤ a.2.2 ∧ a.2.2 < a.1.Places.length) ∧ rs = [.d (.bool b)]) true
noncomputable def E55 : Env := E0.at 41 (fun d => false) (fun d => d) (fun d => true)
theorem E55_ok : EnvOk E55 := E0_ok.at _ _ _ _
theorem E55_r : E55.ty = E0.ty ∧ E55.fact 17 = true ∧ (∀ d, E55.key d = d) := ⟨rfl, rfl, fun _ => rfl⟩

theorem ok55 : ConOk Try.prog 55 con55 := by
  refine con_of (E := E55) E55_ok (fn := Try.f55) Try.func55 rfl (by decide) (by kernel_rfl) (rs := [.tmp 6]) rfl (by decide) (by decide) [.data 4]  (fun _ _ => ⟨_, false, by simp, rfl⟩) (by rintro _ a r ⟨b, _, rfl⟩ x hx; simp only [List.mem_singleton] at hx; subst hx; rfl) ?_
  rintro ⟨b, o, p⟩ _
  simp (maxSteps := 1000000) only [startP_eq, startL, List.map_cons, List.map_nil, run_skip, run_region, run_seq, run_cond, run_ret, opsK_nil, opsK_op, seqK_normal, seqK_ret, endP_ret, condK_bool, upd_apply, after_some, ev_tmp, ev_int, ev_bool, St.sv, St.sc, strip, stripC, pK_some, gpK_some, pmap_some, gK, gB_bool, gB_opt, op_move, op_assign, op_gmove, on_pick, on_bin, on_gpick, on_gbin, op_gload, op_gfa, op_gia, op_glen, bin_add, bin_eql, bin_lss, bin_geq, pick_b, eK_some, emap_some, op_box, outK, outL, outM, resPs, resP, rvsOf, rvOf, snapV, snapC, sepB, ownKs, dataKs, keysV, keysC, nodupB, Option.bind_some, Option.map_some, true_and, and_true, implies_true, ↓reduceIte, Nat.reduceEqDiff, reduceCtorEq, Nat.reduceAdd, Nat.reduceLT, Nat.zero_add, List.all_nil, List.append_nil, Bool.and_self, List.getElem?_toArray, List.getElem?_cons_succ, List.getElem?_cons_zero, beq_true, beq_false, Bool.not_eq_true', Bool.and_eq_true, List.contains_nil, Bool.not_false, cod1_enc, codC_enc, imp_self, and_self, Env.tk, loadV, fieldAddrV, indexAddrV, lenV, loadD, loadP, boxE, St.obj, TI.isAgg, cellsP, refNew, newOb, List.getD_cons_zero, List.getD_cons_succ, List.length_cons, List.length_nil, List.length_map, pN_bool, pN_gbool, pN_gint, gpN_some, lbK_true, lnK_some, glbK_some, lenF, Nat.mul_zero, Bool.false_eq_true, maxLen_eq, ty_r, E55_r, Place.getD, Place.row, Basin.row, Basin.d]
  repeat' (first | with_reducible apply And.intro | intro _)
  all_goals (try simp only [Named] at *)
  all_goals (try (subst_vars; grind))
end Go.Proofs.Ytomnjbebgfadoaa.Pi
end
section
/- Contracts: a place that is right.
   Conditions: none; lemmas. -/
set_option linter.unusedVariables false
set_option linter.unusedSimpArgs false
namespace Go.Proofs.Ytomnjbebgfadoaa.Pi
open Go Go.RowKit Go.Proofs
set_option maxHeartbeats 4000000
abbrev cCellsI : Cod (List Cell × Int) := codC (fun l => .lst 2 (l.map Cell.row)) (dLst 2 Cell.of) (fun _ _ => dLst_iff Cell.iff) cI
abbrev con56 : Con := .of cCellsI (fun a => a.2 ≤ 1000) (fun _ rs => ∃ b : Bool, rs = [.d (.bool b)]) true
noncomputable def E56 : Env := ((E0.add 35 con35).add 36 con36).at 48 (fun d => false) (fun d => d) (fun d => true)
theorem E56_ok : EnvOk E56 := ((E0_ok.add Try.func35 rfl rfl ok35).add Try.func36 rfl rfl ok36).at _ _ _ _
theorem E56_r : E56.ty = E0.ty ∧ (E56.con 35 = some con35 ∧ E56.icon 35 = none) ∧ (E56.con 36 = some con36 ∧ E56.icon 36 = none) ∧ E56.fact 8 = true ∧ (∀ d, E56.key d = d) := ⟨rfl, ⟨rfl, rfl⟩, ⟨rfl, rfl⟩, rfl, fun _ => rfl⟩

theorem ok56 : ConOk Try.prog 56 con56 := by
  refine con_of (E := E56) E56_ok (fn := Try.f56) Try.func56 rfl (by decide) (by kernel_rfl) (rs := [.tmp 4]) rfl (by decide) (by decide) [.data 4]  (fun _ _ => ⟨_, true, rfl⟩) anyFlat ?_
  rintro ⟨l, c⟩ hc
  simp only [startP_eq, startL, List.map_cons, List.map_nil, run_region, run_seq, run_block, run_loop, opsK_nil, opsK_op, seqK_normal, ev_int, ev_bool, op_assign, Nat.zero_add, cod1_enc, codC_enc]
  refine pwp_loop (fun n S => ∃ i : Int, 0 ≤ i ∧ i ≤ (l.length : Int) ∧ n = ((l.length : Int) - i).toNat ∧ S.t 5 = .d (.int .i64 i) ∧ S.t 0 = .d (.lst 2 (l.map Cell.row)) ∧ S.t 1 = .d (.int .i64 c)) ((l.length : Int) - 0).toNat ⟨0, by omega, by omega, by omega, rfl, (by first | rfl | exact h0 | exact hi), (by first | rfl | exact h1 | exact hi)⟩ ?_
  rintro n ⟨t, o⟩ ⟨i, hi0, hil, hn, hi, h0, h1⟩
  simp only at hi h0 h1
  simp (maxSteps := 1000000) only [List.map_cons, List.map_nil, run_skip, run_region, run_seq, run_cond, run_block, run_exit, run_ret, opsK_nil, opsK_op, seqK_normal, seqK_exit, seqK_ret, blkK_normal, blkK_exit, blkK_ret, loopK_normal, loopK_exit, loopK_ret, endP_ret, condK_bool, upd_apply, after_some, ev_tmp, ev_int, ev_bool, St.sv, St.sc, strip, stripC, argsC, pK_none, pK_some, gpK_some, pmap_some, gK, gB_bool, gB_opt, op_move, op_assign, op_gmove, on_pick, on_bin, op_un, op_load, op_fa, op_ia, on_gpick, on_gbin, op_gun, op_gload, op_gfa, op_gia, op_len, bin_add, bin_sub, bin_lss, bin_gtr, bin_geq, pick_b, unV, op_call, op_gcall, cgK_some, iK_some, iK2_none, cK_some, cK2_some, conK_flat, conK_gflat, icallInfo_func, callInfo_func, ciK_some, snapVs_nil, snapVs_cons, outK, outL, outM, resPs, resP, rvsOf, rvOf, snapV, snapC, sepB, ownKs, dataKs, keysV, keysC, nodupB, packP, RV.flatP, Option.bind_some, Option.map_some, true_implies, true_and, and_true, implies_true, ↓reduceIte, Nat.reduceEqDiff, reduceCtorEq, Nat.reduceAdd, Nat.reduceLT, Nat.zero_add, Nat.add_zero, List.all_nil, List.append_nil, List.flatMap_cons, List.flatMap_nil, Bool.and_self, List.getElem?_toArray, List.getElem?_cons_succ, List.getElem?_cons_zero, beq_true, beq_false, Bool.not_eq_true', Bool.and_eq_true, List.contains_nil, Bool.not_false, of_pre, of_post, of_flat, cod1_dec, codC_dec, dInt_int, some_ex, some_ex1, imp_self, and_self, Env.tk, loadV, fieldAddrV, indexAddrV, lenV, loadD, TI.isAgg, List.getD_cons_zero, List.getD_cons_succ, List.length_cons, List.length_nil, List.length_map, ex_eq, or_true, imp_eq, pN_bool, pN_int, pN_gbool, pN_gint, gpN_some, lbK_true, lnK_none, lenF, Bool.false_eq_true, maxLen_eq, ty_r, E56_r, Cell.getD, Cell.row, hi, h0, h1]
  (try rw [maxLen_eq])
  repeat' (first | with_reducible apply And.intro | intro _)
  all_goals (try simp only [Named] at *)
  all_goals (try (subst_vars; grind [wrap64]))
  all_goals (refine ghost_id ⟨((l.length : Int) - (i + 1)).toNat, ?_, i + 1, ?_, ?_, rfl, ?_, ?_, ?_⟩ <;> (try simp only [upd_apply, Nat.reduceEqDiff, ↓reduceIte, h0, h1]) <;> (first | with_reducible rfl | (subst_vars; grind [wrap64]) | rfl))
abbrev con37 : Con := .of cBI (fun a => 0 ≤ a.2 ∧ a.2 < a.1.Places.length ∧ a.1.Cells ≤ 64) (fun _ rs => ∃ b : Bool, rs = [.d (.bool b)]) true
noncomputable def E37 : Env := ((((((E0.add 35 con35).add 36 con36).add 53 con53).add 54 con54).add 55 con55).add 56 con56).at 97 (fun d => false) (fun d => d) (fun d => true)
theorem E37_ok : EnvOk E37 := ((((((E0_ok.add Try.func35 rfl rfl ok35).add Try.func36 rfl rfl ok36).add Try.func53 rfl rfl ok53).add Try.func54 rfl rfl ok54).add Try.func55 rfl rfl ok55).add Try.func56 rfl rfl ok56).at _ _ _ _
theorem E37_r : E37.ty = E0.ty ∧ (E37.con 35 = some con35 ∧ E37.icon 35 = none) ∧ (E37.con 36 = some con36 ∧ E37.icon 36 = none) ∧ (E37.con 53 = some con53 ∧ E37.icon 53 = none) ∧ (E37.con 54 = some con54 ∧ E37.icon 54 = none) ∧ (E37.con 55 = some con55 ∧ E37.icon 55 = none) ∧ (E37.con 56 = some con56 ∧ E37.icon 56 = none) ∧ E37.fact 52 = true ∧ E37.fact 70 = true ∧ E37.fact 73 = true ∧ (∀ d, E37.key d = d) := ⟨rfl, ⟨rfl, rfl⟩, ⟨rfl, rfl⟩, ⟨rfl, rfl⟩, ⟨rfl, rfl⟩, ⟨rfl, rfl⟩, ⟨rfl, rfl⟩, rfl, rfl, rfl, fun _ => rfl⟩

theorem ok37 : ConOk Try.prog 37 con37 := by
  refine con_of (E := E37) E37_ok (fn := Try.f37) Try.func37 rfl (by decide) (by kernel_rfl) (rs := [.tmp 4]) rfl (by decide) (by decide) [.data 4]  (fun _ _ => ⟨_, true, rfl⟩) anyFlat ?_
  rintro ⟨b, j⟩ ⟨hi0, hi1, hc⟩
  simp (maxSteps := 1000000) only [startP_eq, startL, List.map_cons, List.map_nil, run_skip, run_region, run_seq, run_cond, run_block, run_ret, run_loop, opsK_nil, opsK_op, seqK_normal, seqK_ret, endP_ret, condK_bool, upd_apply, after_some, after_none, ev_tmp, ev_int, ev_bool, St.sv, St.sc, strip, stripC, argsC, pK_none, pK_some, gpK_some, pmap_some, gK, gB_bool, op_move, op_assign, on_pick, op_un, op_load, op_fa, op_ia, op_gun, op_gload, op_gfa, pick_b, unV, eK_some, emap_some, op_alloc, op_box, op_store, op_call, op_gcall, cgK_some, iK_some, iK2_none, cK_some, cK2_some, conK_flat, conK_gflat, icallInfo_func, callInfo_func, ciK_some, snapVs_nil, snapVs_cons, outK, outL, outM, resPs, resP, rvsOf, rvOf, snapV, snapC, sepB, ownKs, dataKs, keysV, keysC, nodupB, packP, RV.flatP, Option.bind_some, Option.map_some, true_implies, true_and, and_true, implies_true, ↓reduceIte, Nat.reduceEqDiff, reduceCtorEq, Nat.reduceAdd, Nat.reduceLT, Nat.reduceLeDiff, Nat.zero_add, Nat.add_zero, List.all_nil, List.append_nil, List.nil_append, List.flatMap_cons, List.flatMap_nil, Bool.and_self, List.getElem?_toArray, List.getElem?_cons_succ, List.getElem?_cons_zero, beq_false, Bool.not_eq_true', List.contains_nil, Bool.not_false, of_pre, of_post, of_flat, cod1_enc, cod1_dec, codC_enc, codC_dec, dInt_int, dBool_bool, some_ex, some_ex1, imp_self, and_self, Env.tk, loadV, fieldAddrV, indexAddrV, loadD, loadP, allocE, boxE, storeE, St.obj, TI.isAgg, plainTI, zpv, cellsP, refNew, newOb, setOb, cut, List.getD_cons_zero, List.getD_cons_succ, List.length_cons, List.length_nil, List.length_map, ex_bool, all_bool, ex_eq, or_true, imp_eq, pN_bool, List.take_succ_cons, List.take_zero, List.drop_zero, List.drop_succ_cons, List.take_nil, List.drop_nil, Nat.mul_zero, Bool.false_eq_true, plainTI, ty_r, E37_r, Place.getD, Place.row, Basin.row, Basin.d]
  repeat' (first | with_reducible apply And.intro | intro _)
  all_goals (try simp only [Named] at *)
  all_goals (try (subst_vars; grind))
  refine pwp_loop (fun n S => ∃ i : Int, 0 ≤ i ∧ i ≤ ((b.Places.getD j.toNat .zero).Start.length : Int) ∧ n = (((b.Places.getD j.toNat .zero).Start.length : Int) - i).toNat ∧ S.t 6 = .d (.int .i64 i) ∧ S.t 2 = .ref 2 1 0 0 0 ∧ S.t 5 = .ref 5 1 0 0 0 ∧ S.t 1 = .d (.int .i64 j) ∧ S.o 2 = (1, some (.box 31 (b.row.map PV.d))) ∧ S.o 5 = (1, some (.box 91 ((b.Places.getD j.toNat .zero).row.map PV.d)))) (((b.Places.getD j.toNat .zero).Start.length : Int) - 0).toNat ⟨0, by omega, by omega, by omega, rfl, (by first | rfl | exact h2 | exact hi), (by first | rfl | exact h5 | exact hi), (by first | rfl | exact h1 | exact hi), (by first | rfl | exact ho2 | exact hi), (by first | rfl | exact ho5 | exact hi)⟩ ?_
  rintro n ⟨t, o⟩ ⟨i, hi0, hil, hn, hi, h2, h5, h1, ho2, ho5⟩
  simp only at hi h2 h5 h1 ho2 ho5
  simp (maxSteps := 1000000) only [List.map_cons, List.map_nil, run_skip, run_region, run_seq, run_cond, run_block, run_exit, run_ret, opsK_nil, opsK_op, seqK_normal, seqK_exit, seqK_ret, blkK_normal, blkK_exit, blkK_ret, loopK_normal, loopK_exit, loopK_ret, endP_ret, condK_bool, upd_apply, after_some, ev_tmp, ev_int, ev_bool, St.sv, St.sc, strip, stripC, argsC, pK_none, pK_some, gpK_some, pmap_some, gK, gB_bool, op_move, op_assign, op_gmove, on_pick, on_bin, op_un, op_load, op_fa, op_ia, on_gbin, op_gload, op_gfa, op_len, op_glen, bin_add, bin_eql, bin_neq, bin_lss, pick_b, unV, op_call, op_gcall, cgK_some, iK_some, iK2_none, cK_some, cK2_some, conK_flat, conK_gflat, icallInfo_func, callInfo_func, ciK_some, snapVs_nil, snapVs_cons, outK, outL, outM, resPs, resP, rvsOf, rvOf, snapV, snapC, sepB, ownKs, dataKs, keysV, keysC, nodupB, packP, RV.flatP, Option.bind_some, Option.map_some, true_implies, true_and, and_true, implies_true, ↓reduceIte, Nat.reduceEqDiff, Nat.reduceAdd, Nat.reduceLT, Nat.reduceLeDiff, Nat.zero_add, Nat.add_zero, List.all_nil, List.append_nil, List.flatMap_cons, List.flatMap_nil, Bool.and_self, List.getElem?_toArray, List.getElem?_cons_succ, List.getElem?_cons_zero, beq_true, Bool.not_eq_true', List.contains_nil, Bool.not_false, of_pre, of_post, of_flat, cod1_dec, codC_dec, dInt_int, dAgg_agg, dLst_lst, some_ex, some_ex1, imp_self, and_self, Env.tk, loadV, fieldAddrV, indexAddrV, lenV, loadD, loadP, St.obj, TI.isAgg, List.getD_cons_zero, List.getD_cons_succ, List.length_cons, List.length_nil, List.length_map, ex_bool, all_bool, or_true, imp_eq, pN_bool, pN_int, pN_gbool, gpN_some, lbK_true, lnK_none, lnK_some, glbK_some, lenF, List.take_succ_cons, List.drop_zero, List.take_nil, Nat.mul_zero, all_exc, ex_exc, ex_btrue, pagg, allD, Bool.false_eq_true, maxLen_eq, ty_r, E37_r, Point.drows, Cell.drows, Place.row, Basin.row, Basin.of2, irow, igetD, hi, h2, h5, h1, ho2, ho5]
  (try rw [maxLen_eq])
  repeat' (first | with_reducible apply And.intro | intro _)
  all_goals (try simp only [Named] at *)
  all_goals (try (subst_vars; grind [wrap64]))
  any_goals (refine ghost_id ⟨(((b.Places.getD j.toNat .zero).Start.length : Int) - (i + 1)).toNat, ?_, i + 1, ?_, ?_, rfl, ?_, ?_, ?_, ?_, ?_, ?_⟩ <;> (try simp only [upd_apply, Nat.reduceEqDiff, ↓reduceIte, h2, h5, h1, ho2, ho5]) <;> (first | with_reducible rfl | (subst_vars; grind [wrap64]) | rfl))
abbrev con38 : Con := .of cII (fun _ => True) (fun _ rs => ∃ n : Int, rs = [.d (.int .i64 n)]) true
theorem anyInt {A : Type} : true = true → ∀ (a : A) (r : List RV), (∃ b : Int, r = [.d (.int .i64 b)]) → ∀ x ∈ r, RV.flat x = true := by
  rintro _ a r ⟨b, rfl⟩ x hx
  simp only [List.mem_singleton] at hx
  subst hx
  rfl
noncomputable def E38 : Env := E0.at 24 (fun d => false) (fun d => d) (fun d => true)
theorem E38_ok : EnvOk E38 := E0_ok.at _ _ _ _
theorem E38_r : E38.ty = E0.ty ∧ (∀ d, E38.key d = d) := ⟨rfl, fun _ => rfl⟩

theorem ok38 : ConOk Try.prog 38 con38 := by
  refine con_of (E := E38) E38_ok (fn := Try.f38) Try.func38 rfl (by decide) (by kernel_rfl) (rs := [.tmp 4]) rfl (by decide) (by decide) [.data 3]  (fun _ _ => ⟨_, 0, rfl⟩) anyInt ?_
  rintro ⟨a, b⟩ _
  simp (maxSteps := 1000000) only [startP_eq, startL, List.map_cons, List.map_nil, run_skip, run_region, run_seq, run_cond, run_ret, opsK_nil, opsK_op, seqK_normal, seqK_ret, endP_ret, condK_bool, upd_apply, after_some, ev_tmp, ev_int, ev_bool, St.sv, St.sc, strip, stripC, pK_some, gpK_some, pmap_some, gK, gB_bool, op_move, op_assign, op_gmove, on_pick, on_bin, on_gbin, bin_add, bin_sub, bin_lss, bin_gtr, pick_b, outK, outL, outM, resPs, resP, rvsOf, rvOf, snapV, snapC, sepB, ownKs, dataKs, keysV, keysC, nodupB, Option.bind_some, Option.map_some, true_and, and_true, implies_true, ↓reduceIte, Nat.reduceEqDiff, reduceCtorEq, Nat.zero_add, List.all_nil, List.append_nil, Bool.and_self, List.getElem?_toArray, List.getElem?_cons_succ, List.getElem?_cons_zero, beq_true, List.contains_nil, Bool.not_false, cod1_enc, codC_enc, imp_self, and_self, pN_bool, pN_int, pN_gbool, pN_gint, gpN_some]
  repeat' (first | with_reducible apply And.intro | intro _)
  all_goals (try simp only [Named] at *)
  all_goals (first | exact ⟨_, rfl⟩ | (subst_vars; grind))
theorem half {w : Int} (h0 : 0 ≤ w) (h1 : w ≤ 1125899906842624) : IntKind.i64.wrap (w.tdiv 2) = w / 2 := by
  rw [Int.tdiv_eq_ediv_of_nonneg h0, wrap64 (by omega) (by omega)]
abbrev con68 : Con := .of cIII (fun _ => True) (fun _ rs => ∃ x : Int × Int × Bool, rs = [.d (.int .i64 x.1), .d (.int .i64 x.2.1), .d (.bool x.2.2)]) true
noncomputable def E68 : Env := E0.at 61 (fun d => false) (fun d => d) (fun d => true)
theorem E68_ok : EnvOk E68 := E0_ok.at _ _ _ _
theorem E68_r : E68.ty = E0.ty ∧ (∀ d, E68.key d = d) := ⟨rfl, fun _ => rfl⟩

theorem ok68 : ConOk Try.prog 68 con68 := by
  refine con_of (E := E68) E68_ok (fn := Try.f68) Try.func68 rfl (by decide) (by kernel_rfl) (rs := [.tmp 6, .tmp 7, .tmp 8]) rfl (by decide) (by decide) [.data 3, .data 3, .data 4]  (fun _ _ => ⟨_, default, rfl⟩) (by rintro _ a r ⟨b, rfl⟩ x hx; simp only [List.mem_cons, List.not_mem_nil, or_false] at hx; rcases hx with rfl | rfl | rfl <;> rfl) ?_
  rintro ⟨a, m, d⟩ _
  simp (maxSteps := 1000000) only [startP_eq, startL, List.map_cons, List.map_nil, run_skip, run_region, run_seq, run_cond, run_block, run_ret, run_loop, opsK_nil, opsK_op, seqK_normal, seqK_ret, endP_ret, condK_bool, upd_apply, after_some, ev_tmp, ev_int, ev_bool, St.sv, St.sc, strip, stripC, pK_some, gpK_some, pmap_some, gK, gB_bool, op_move, op_assign, op_gmove, on_pick, on_bin, on_gbin, bin_lss, bin_gtr, pick_b, outK, outL, outM, resPs, resP, rvsOf, rvOf, snapV, snapC, sepB, ownKs, dataKs, keysV, keysC, nodupB, Option.bind_some, Option.map_some, true_and, and_true, implies_true, ↓reduceIte, Nat.reduceEqDiff, reduceCtorEq, Nat.reduceAdd, Nat.zero_add, List.all_nil, List.append_nil, Bool.and_self, List.getElem?_toArray, List.getElem?_cons_succ, List.getElem?_cons_zero, beq_false, Bool.not_eq_true', List.contains_nil, Bool.not_false, cod1_enc, codC_enc, imp_self, and_self, pN_bool, pN_gbool, gpN_some]
  repeat' (first | with_reducible apply And.intro | intro _)
  all_goals (try simp only [Named] at *)
  all_goals (try (first | exact ⟨(0, 0, false), rfl⟩ | (subst_vars; grind)))
  refine pwp_loop (fun n S => ∃ q r w : Int, 0 ≤ w ∧ w ≤ 1125899906842624 ∧ n = w.toNat ∧ S.t 9 = .d (.int .i64 q) ∧ S.t 10 = .d (.int .i64 r) ∧ S.t 11 = .d (.int .i64 w) ∧ S.t 0 = .d (.int .i64 a) ∧ S.t 1 = .d (.int .i64 m) ∧ S.t 2 = .d (.int .i64 d)) 1125899906842624 ⟨0, 0, 1125899906842624, by omega, by omega, rfl, rfl, rfl, rfl, rfl, rfl, rfl⟩ ?_
  rintro n ⟨t, o⟩ ⟨q, r, w, hw0, hw1, hn, h9, h10, h11, h0, h1, h2⟩
  simp only at h9 h10 h11 h0 h1 h2
  simp (maxSteps := 1000000) only [run_skip, run_region, run_seq, run_cond, run_block, run_exit, run_ret, opsK_nil, opsK_op, seqK_normal, seqK_exit, seqK_ret, blkK_normal, blkK_exit, blkK_ret, loopK_normal, loopK_exit, loopK_ret, endP_ret, condK_bool, upd_apply, after_some, ev_tmp, ev_int, ev_bool, St.sv, St.sc, strip, stripC, pmap_some, op_move, op_assign, on_bin, bin_add, bin_mul, bin_quo, bin_rem, bin_neq, bin_gtr, outK, outL, outM, resPs, resP, rvsOf, rvOf, snapV, snapC, sepB, ownKs, dataKs, keysV, keysC, nodupB, Option.bind_some, Option.map_some, true_and, and_true, ↓reduceIte, Nat.reduceEqDiff, reduceCtorEq, List.all_nil, List.append_nil, Bool.and_self, List.contains_nil, Bool.not_false, and_self, pN_bool, pN_int, bin_and, h9, h10, h11, h0, h1, h2]
  repeat' (first | with_reducible apply And.intro | intro _)
  all_goals (try simp only [Named] at *)
  all_goals (try (first | exact ⟨(0, 0, false), rfl⟩ | exact ⟨(_, _, _), rfl⟩ | (subst_vars; grind)))
  all_goals (
    have hw : 0 < w := by subst_vars; grind
    refine ghost_id ⟨(w / 2).toNat, by omega, _, _, w / 2, by omega, by omega, rfl, rfl, rfl, ?_, ?_, ?_, ?_⟩ <;> (try simp only [upd_apply, Nat.reduceEqDiff, ↓reduceIte, h0, h1, h2, half hw0 hw1]))
abbrev con58 : Con := con38
noncomputable def E58 : Env := (E0.add 68 con68).at 24 (fun d => false) (fun d => d) (fun d => true)
theorem E58_ok : EnvOk E58 := (E0_ok.add Try.func68 rfl rfl ok68).at _ _ _ _
theorem E58_r : E58.ty = E0.ty ∧ (E58.con 68 = some con68 ∧ E58.icon 68 = none) ∧ (∀ d, E58.key d = d) := ⟨rfl, ⟨rfl, rfl⟩, fun _ => rfl⟩

theorem ok58 : ConOk Try.prog 58 con58 := by
  refine con_of (E := E58) E58_ok (fn := Try.f58) Try.func58 rfl (by decide) (by kernel_rfl) (rs := [.tmp 4]) rfl (by decide) (by decide) [.data 3]  (fun _ _ => ⟨_, 0, rfl⟩) anyInt ?_
  rintro ⟨a, b⟩ _
  simp (maxSteps := 1000000) only [startP_eq, startL, List.map_cons, List.map_nil, run_skip, run_region, run_seq, run_cond, run_ret, opsK_nil, opsK_op, seqK_normal, seqK_ret, endP_ret, condK_bool, upd_apply, after_some, ev_tmp, ev_int, St.sv, St.sc, strip, stripC, argsC, pK_none, pmap_some, op_move, op_assign, on_bin, op_un, op_ext, bin_add, bin_eql, bin_gtr, unV, op_call, iK_some, iK2_none, cK_some, cK2_some, conK_flat, icallInfo_func, callInfo_func, ciK_some, snapVs_nil, snapVs_cons, outK, outL, outM, resPs, resP, rvsOf, rvOf, snapV, snapC, sepB, ownKs, dataKs, keysV, keysC, nodupB, packP, RV.flatP, extV, Option.bind_some, Option.map_some, true_and, and_true, ↓reduceIte, Nat.reduceEqDiff, reduceCtorEq, Nat.zero_add, List.all_nil, List.append_nil, List.flatMap_cons, List.flatMap_nil, Bool.and_self, List.getElem?_cons_succ, List.getElem?_cons_zero, Bool.not_eq_true', List.contains_nil, Bool.not_false, of_pre, of_post, of_flat, cod1_enc, cod1_dec, codC_enc, codC_dec, dInt_int, some_ex, some_ex1, and_self, pN_bool, pN_int, all_ex, E58_r]
  repeat' (first | with_reducible apply And.intro | intro _)
  all_goals (try simp only [Named] at *)
  all_goals (first | exact ⟨_, rfl⟩ | (subst_vars; grind))
end Go.Proofs.Ytomnjbebgfadoaa.Pi
end
