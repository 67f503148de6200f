/- The program's structs as Lean's, and their codecs.
   Conditions: none; definitions and lemmas. -/
import Derived.Test.YtomnjbebgfadoaaPiW
set_option linter.unusedVariables false
set_option linter.unusedSimpArgs false
namespace Go.Proofs.Ytomnjbebgfadoaa.Pi
open Go Go.RowKit

structure Point where
  X : Int
  Y : Int
def Point.row (p : Point) : List D := [.int .i64 p.X, .int .i64 p.Y]
def Point.zero : Point := ⟨0, 0⟩
def Point.of : List D → Option Point
  | [a0, a1] => (dInt .i64 a0).bind fun b0 => (dInt .i64 a1).bind fun b1 => some ⟨b0, b1⟩
  | _ => none
theorem Point.iff (r : List D) (x : Point) : Point.of r = some x ↔ r = x.row := by
  constructor
  · intro h
    unfold Point.of at h
    split at h
    · simp only [Option.bind_eq_some_iff, Option.some.injEq, dInt_iff] at h
      obtain ⟨b0, e0, b1, e1, e⟩ := h
      subst e
      rw [e0, e1]; rfl
    · cases h
  · rintro rfl
    simp [Point.of, Point.row, dInt_int, dBool_bool, dStr_str, dLst_lst]
def Point.d (p : Point) : D := .agg p.row
theorem Point.dec (p : Point) : dAgg Point.of p.d = some p := (dAgg_iff Point.iff).2 rfl
theorem Point.len (p : Point) : p.row.length = 2 := rfl
theorem Point.getD (l : List Point) (i : Nat) : (l.map Point.row).getD i [.int .i64 0, .int .i64 0] = (l.getD i Point.zero).row := getD_map _ _ _ _ _ rfl
theorem Point.diff (d : D) (x : Point) : dAgg Point.of d = some x ↔ d = Point.d x := dAgg_iff Point.iff
theorem Point.dec2 (p : Point) : dAgg Point.of (.agg [.int .i64 p.X, .int .i64 p.Y]) = some p := Point.dec p
theorem Point.of2 (p : Point) : Point.of [.int .i64 p.X, .int .i64 p.Y] = some p := (Point.iff _ _).2 rfl
theorem Point.drows (l : List Point) : dRows Point.of (l.map Point.row) = some l := dRows_map Point.iff l
structure Cell where
  Index : Int
  Area : Int
def Cell.row (p : Cell) : List D := [.int .i64 p.Index, .int .i64 p.Area]
def Cell.zero : Cell := ⟨0, 0⟩
def Cell.of : List D → Option Cell
  | [a0, a1] => (dInt .i64 a0).bind fun b0 => (dInt .i64 a1).bind fun b1 => some ⟨b0, b1⟩
  | _ => none
theorem Cell.iff (r : List D) (x : Cell) : Cell.of r = some x ↔ r = x.row := by
  constructor
  · intro h
    unfold Cell.of at h
    split at h
    · simp only [Option.bind_eq_some_iff, Option.some.injEq, dInt_iff] at h
      obtain ⟨b0, e0, b1, e1, e⟩ := h
      subst e
      rw [e0, e1]; rfl
    · cases h
  · rintro rfl
    simp [Cell.of, Cell.row, dInt_int, dBool_bool, dStr_str, dLst_lst]
def Cell.d (p : Cell) : D := .agg p.row
theorem Cell.dec (p : Cell) : dAgg Cell.of p.d = some p := (dAgg_iff Cell.iff).2 rfl
theorem Cell.len (p : Cell) : p.row.length = 2 := rfl
theorem Cell.getD (l : List Cell) (i : Nat) : (l.map Cell.row).getD i [.int .i64 0, .int .i64 0] = (l.getD i Cell.zero).row := getD_map _ _ _ _ _ rfl
theorem Cell.diff (d : D) (x : Cell) : dAgg Cell.of d = some x ↔ d = Cell.d x := dAgg_iff Cell.iff
theorem Cell.dec2 (p : Cell) : dAgg Cell.of (.agg [.int .i64 p.Index, .int .i64 p.Area]) = some p := Cell.dec p
theorem Cell.of2 (p : Cell) : Cell.of [.int .i64 p.Index, .int .i64 p.Area] = some p := (Cell.iff _ _).2 rfl
theorem Cell.drows (l : List Cell) : dRows Cell.of (l.map Cell.row) = some l := dRows_map Cell.iff l
structure Band where
  Lo : List Point
  Hi : List Point
def Band.row (p : Band) : List D := [.lst 2 (p.Lo.map Point.row), .lst 2 (p.Hi.map Point.row)]
def Band.zero : Band := ⟨[], []⟩
def Band.of : List D → Option Band
  | [a0, a1] => (dLst 2 Point.of a0).bind fun b0 => (dLst 2 Point.of a1).bind fun b1 => some ⟨b0, b1⟩
  | _ => none
theorem Band.iff (r : List D) (x : Band) : Band.of r = some x ↔ r = x.row := by
  constructor
  · intro h
    unfold Band.of at h
    split at h
    · simp only [Option.bind_eq_some_iff, Option.some.injEq, dLst_iff Point.iff] at h
      obtain ⟨b0, e0, b1, e1, e⟩ := h
      subst e
      rw [e0, e1]; rfl
    · cases h
  · rintro rfl
    simp [Band.of, Band.row, dInt_int, dBool_bool, dStr_str, dLst_lst, dRows_map Point.iff]
def Band.d (p : Band) : D := .agg p.row
theorem Band.dec (p : Band) : dAgg Band.of p.d = some p := (dAgg_iff Band.iff).2 rfl
theorem Band.len (p : Band) : p.row.length = 2 := rfl
theorem Band.getD (l : List Band) (i : Nat) : (l.map Band.row).getD i [.lst 2 [], .lst 2 []] = (l.getD i Band.zero).row := getD_map _ _ _ _ _ rfl
theorem Band.diff (d : D) (x : Band) : dAgg Band.of d = some x ↔ d = Band.d x := dAgg_iff Band.iff
theorem Band.dec2 (p : Band) : dAgg Band.of (.agg [.lst 2 (p.Lo.map Point.row), .lst 2 (p.Hi.map Point.row)]) = some p := Band.dec p
theorem Band.of2 (p : Band) : Band.of [.lst 2 (p.Lo.map Point.row), .lst 2 (p.Hi.map Point.row)] = some p := (Band.iff _ _).2 rfl
theorem Band.drows (l : List Band) : dRows Band.of (l.map Band.row) = some l := dRows_map Band.iff l
structure Place where
  Name : ByteArray
  Kind : Int
  Office : Int
  Cap : Int
  Level : List Point
  Start : List Int
  Num : Int
  Den : Int
  Down : Int
  Delay : Int
  Floor : Int
  Rain : List Cell
def Place.row (p : Place) : List D := [.str p.Name, .int .i64 p.Kind, .int .i64 p.Office, .int .i64 p.Cap, .lst 2 (p.Level.map Point.row), .lst 1 (p.Start.map irow), .int .i64 p.Num, .int .i64 p.Den, .int .i64 p.Down, .int .i64 p.Delay, .int .i64 p.Floor, .lst 2 (p.Rain.map Cell.row)]
def Place.zero : Place := ⟨⟨#[]⟩, 0, 0, 0, [], [], 0, 0, 0, 0, 0, []⟩
def Place.of : List D → Option Place
  | [a0, a1, a2, a3, a4, a5, a6, a7, a8, a9, a10, a11] => (dStr a0).bind fun b0 => (dInt .i64 a1).bind fun b1 => (dInt .i64 a2).bind fun b2 => (dInt .i64 a3).bind fun b3 => (dLst 2 Point.of a4).bind fun b4 => (dLst 1 iof a5).bind fun b5 => (dInt .i64 a6).bind fun b6 => (dInt .i64 a7).bind fun b7 => (dInt .i64 a8).bind fun b8 => (dInt .i64 a9).bind fun b9 => (dInt .i64 a10).bind fun b10 => (dLst 2 Cell.of a11).bind fun b11 => some ⟨b0, b1, b2, b3, b4, b5, b6, b7, b8, b9, b10, b11⟩
  | _ => none
theorem Place.iff (r : List D) (x : Place) : Place.of r = some x ↔ r = x.row := by
  constructor
  · intro h
    unfold Place.of at h
    split at h
    · simp only [Option.bind_eq_some_iff, Option.some.injEq, dStr_iff, dInt_iff, dLst_iff Point.iff, dLst_iff iof_iff, dLst_iff Cell.iff] at h
      obtain ⟨b0, e0, b1, e1, b2, e2, b3, e3, b4, e4, b5, e5, b6, e6, b7, e7, b8, e8, b9, e9, b10, e10, b11, e11, e⟩ := h
      subst e
      rw [e0, e1, e2, e3, e4, e5, e6, e7, e8, e9, e10, e11]; rfl
    · cases h
  · rintro rfl
    simp [Place.of, Place.row, dInt_int, dBool_bool, dStr_str, dLst_lst, dRows_map Point.iff, dRows_map iof_iff, dRows_map Cell.iff]
def Place.d (p : Place) : D := .agg p.row
theorem Place.dec (p : Place) : dAgg Place.of p.d = some p := (dAgg_iff Place.iff).2 rfl
theorem Place.len (p : Place) : p.row.length = 12 := rfl
theorem Place.getD (l : List Place) (i : Nat) : (l.map Place.row).getD i [.str ⟨#[]⟩, .int .i64 0, .int .i64 0, .int .i64 0, .lst 2 [], .lst 1 [], .int .i64 0, .int .i64 0, .int .i64 0, .int .i64 0, .int .i64 0, .lst 2 []] = (l.getD i Place.zero).row := getD_map _ _ _ _ _ rfl
theorem Place.diff (d : D) (x : Place) : dAgg Place.of d = some x ↔ d = Place.d x := dAgg_iff Place.iff
theorem Place.dec2 (p : Place) : dAgg Place.of (.agg [.str p.Name, .int .i64 p.Kind, .int .i64 p.Office, .int .i64 p.Cap, .lst 2 (p.Level.map Point.row), .lst 1 (p.Start.map irow), .int .i64 p.Num, .int .i64 p.Den, .int .i64 p.Down, .int .i64 p.Delay, .int .i64 p.Floor, .lst 2 (p.Rain.map Cell.row)]) = some p := Place.dec p
theorem Place.of2 (p : Place) : Place.of [.str p.Name, .int .i64 p.Kind, .int .i64 p.Office, .int .i64 p.Cap, .lst 2 (p.Level.map Point.row), .lst 1 (p.Start.map irow), .int .i64 p.Num, .int .i64 p.Den, .int .i64 p.Down, .int .i64 p.Delay, .int .i64 p.Floor, .lst 2 (p.Rain.map Cell.row)] = some p := (Place.iff _ _).2 rfl
theorem Place.drows (l : List Place) : dRows Place.of (l.map Place.row) = some l := dRows_map Place.iff l
structure Link where
  Name : ByteArray
  Kind : Int
  From : Int
  To : Int
  Rate : List Point
  Band : Band
  Positions : Int
  Speed : Int
  Leak : Int
  Crest : Int
  Num : Int
  Den : Int
  Prime : Int
  Break : Int
  BackNum : Int
  BackDen : Int
  Delay : Int
def Link.row (p : Link) : List D := [.str p.Name, .int .i64 p.Kind, .int .i64 p.From, .int .i64 p.To, .lst 2 (p.Rate.map Point.row), .lst 2 (p.Band.Lo.map Point.row), .lst 2 (p.Band.Hi.map Point.row), .int .i64 p.Positions, .int .i64 p.Speed, .int .i64 p.Leak, .int .i64 p.Crest, .int .i64 p.Num, .int .i64 p.Den, .int .i64 p.Prime, .int .i64 p.Break, .int .i64 p.BackNum, .int .i64 p.BackDen, .int .i64 p.Delay]
def Link.zero : Link := ⟨⟨#[]⟩, 0, 0, 0, [], ⟨[], []⟩, 0, 0, 0, 0, 0, 0, 0, 0, 0, 0, 0⟩
def Link.of : List D → Option Link
  | [a0, a1, a2, a3, a4, a5, a6, a7, a8, a9, a10, a11, a12, a13, a14, a15, a16, a17] => (dStr a0).bind fun b0 => (dInt .i64 a1).bind fun b1 => (dInt .i64 a2).bind fun b2 => (dInt .i64 a3).bind fun b3 => (dLst 2 Point.of a4).bind fun b4 => (dLst 2 Point.of a5).bind fun b5 => (dLst 2 Point.of a6).bind fun b6 => (dInt .i64 a7).bind fun b7 => (dInt .i64 a8).bind fun b8 => (dInt .i64 a9).bind fun b9 => (dInt .i64 a10).bind fun b10 => (dInt .i64 a11).bind fun b11 => (dInt .i64 a12).bind fun b12 => (dInt .i64 a13).bind fun b13 => (dInt .i64 a14).bind fun b14 => (dInt .i64 a15).bind fun b15 => (dInt .i64 a16).bind fun b16 => (dInt .i64 a17).bind fun b17 => some ⟨b0, b1, b2, b3, b4, ⟨b5, b6⟩, b7, b8, b9, b10, b11, b12, b13, b14, b15, b16, b17⟩
  | _ => none
theorem Link.iff (r : List D) (x : Link) : Link.of r = some x ↔ r = x.row := by
  constructor
  · intro h
    unfold Link.of at h
    split at h
    · simp only [Option.bind_eq_some_iff, Option.some.injEq, dStr_iff, dInt_iff, dLst_iff Point.iff] at h
      obtain ⟨b0, e0, b1, e1, b2, e2, b3, e3, b4, e4, b5, e5, b6, e6, b7, e7, b8, e8, b9, e9, b10, e10, b11, e11, b12, e12, b13, e13, b14, e14, b15, e15, b16, e16, b17, e17, e⟩ := h
      subst e
      rw [e0, e1, e2, e3, e4, e5, e6, e7, e8, e9, e10, e11, e12, e13, e14, e15, e16, e17]; rfl
    · cases h
  · rintro rfl
    simp [Link.of, Link.row, dInt_int, dBool_bool, dStr_str, dLst_lst, dRows_map Point.iff]
def Link.d (p : Link) : D := .agg p.row
theorem Link.dec (p : Link) : dAgg Link.of p.d = some p := (dAgg_iff Link.iff).2 rfl
theorem Link.len (p : Link) : p.row.length = 18 := rfl
theorem Link.getD (l : List Link) (i : Nat) : (l.map Link.row).getD i [.str ⟨#[]⟩, .int .i64 0, .int .i64 0, .int .i64 0, .lst 2 [], .lst 2 [], .lst 2 [], .int .i64 0, .int .i64 0, .int .i64 0, .int .i64 0, .int .i64 0, .int .i64 0, .int .i64 0, .int .i64 0, .int .i64 0, .int .i64 0, .int .i64 0] = (l.getD i Link.zero).row := getD_map _ _ _ _ _ rfl
theorem Link.diff (d : D) (x : Link) : dAgg Link.of d = some x ↔ d = Link.d x := dAgg_iff Link.iff
theorem Link.dec2 (p : Link) : dAgg Link.of (.agg [.str p.Name, .int .i64 p.Kind, .int .i64 p.From, .int .i64 p.To, .lst 2 (p.Rate.map Point.row), .lst 2 (p.Band.Lo.map Point.row), .lst 2 (p.Band.Hi.map Point.row), .int .i64 p.Positions, .int .i64 p.Speed, .int .i64 p.Leak, .int .i64 p.Crest, .int .i64 p.Num, .int .i64 p.Den, .int .i64 p.Prime, .int .i64 p.Break, .int .i64 p.BackNum, .int .i64 p.BackDen, .int .i64 p.Delay]) = some p := Link.dec p
theorem Link.of2 (p : Link) : Link.of [.str p.Name, .int .i64 p.Kind, .int .i64 p.From, .int .i64 p.To, .lst 2 (p.Rate.map Point.row), .lst 2 (p.Band.Lo.map Point.row), .lst 2 (p.Band.Hi.map Point.row), .int .i64 p.Positions, .int .i64 p.Speed, .int .i64 p.Leak, .int .i64 p.Crest, .int .i64 p.Num, .int .i64 p.Den, .int .i64 p.Prime, .int .i64 p.Break, .int .i64 p.BackNum, .int .i64 p.BackDen, .int .i64 p.Delay] = some p := (Link.iff _ _).2 rfl
theorem Link.drows (l : List Link) : dRows Link.of (l.map Link.row) = some l := dRows_map Link.iff l
structure Town where
  Name : ByteArray
  Place : Int
  Flood : Int
  Lead : Int
  People : Int
  Watch : Int
  Quorum : Int
def Town.row (p : Town) : List D := [.str p.Name, .int .i64 p.Place, .int .i64 p.Flood, .int .i64 p.Lead, .int .i64 p.People, .int .i64 p.Watch, .int .i64 p.Quorum]
def Town.zero : Town := ⟨⟨#[]⟩, 0, 0, 0, 0, 0, 0⟩
def Town.of : List D → Option Town
  | [a0, a1, a2, a3, a4, a5, a6] => (dStr a0).bind fun b0 => (dInt .i64 a1).bind fun b1 => (dInt .i64 a2).bind fun b2 => (dInt .i64 a3).bind fun b3 => (dInt .i64 a4).bind fun b4 => (dInt .i64 a5).bind fun b5 => (dInt .i64 a6).bind fun b6 => some ⟨b0, b1, b2, b3, b4, b5, b6⟩
  | _ => none
theorem Town.iff (r : List D) (x : Town) : Town.of r = some x ↔ r = x.row := by
  constructor
  · intro h
    unfold Town.of at h
    split at h
    · simp only [Option.bind_eq_some_iff, Option.some.injEq, dStr_iff, dInt_iff] at h
      obtain ⟨b0, e0, b1, e1, b2, e2, b3, e3, b4, e4, b5, e5, b6, e6, e⟩ := h
      subst e
      rw [e0, e1, e2, e3, e4, e5, e6]; rfl
    · cases h
  · rintro rfl
    simp [Town.of, Town.row, dInt_int, dBool_bool, dStr_str, dLst_lst]
def Town.d (p : Town) : D := .agg p.row
theorem Town.dec (p : Town) : dAgg Town.of p.d = some p := (dAgg_iff Town.iff).2 rfl
theorem Town.len (p : Town) : p.row.length = 7 := rfl
theorem Town.getD (l : List Town) (i : Nat) : (l.map Town.row).getD i [.str ⟨#[]⟩, .int .i64 0, .int .i64 0, .int .i64 0, .int .i64 0, .int .i64 0, .int .i64 0] = (l.getD i Town.zero).row := getD_map _ _ _ _ _ rfl
theorem Town.diff (d : D) (x : Town) : dAgg Town.of d = some x ↔ d = Town.d x := dAgg_iff Town.iff
theorem Town.dec2 (p : Town) : dAgg Town.of (.agg [.str p.Name, .int .i64 p.Place, .int .i64 p.Flood, .int .i64 p.Lead, .int .i64 p.People, .int .i64 p.Watch, .int .i64 p.Quorum]) = some p := Town.dec p
theorem Town.of2 (p : Town) : Town.of [.str p.Name, .int .i64 p.Place, .int .i64 p.Flood, .int .i64 p.Lead, .int .i64 p.People, .int .i64 p.Watch, .int .i64 p.Quorum] = some p := (Town.iff _ _).2 rfl
theorem Town.drows (l : List Town) : dRows Town.of (l.map Town.row) = some l := dRows_map Town.iff l
structure Shelter where
  Name : ByteArray
  Room : Int
def Shelter.row (p : Shelter) : List D := [.str p.Name, .int .i64 p.Room]
def Shelter.zero : Shelter := ⟨⟨#[]⟩, 0⟩
def Shelter.of : List D → Option Shelter
  | [a0, a1] => (dStr a0).bind fun b0 => (dInt .i64 a1).bind fun b1 => some ⟨b0, b1⟩
  | _ => none
theorem Shelter.iff (r : List D) (x : Shelter) : Shelter.of r = some x ↔ r = x.row := by
  constructor
  · intro h
    unfold Shelter.of at h
    split at h
    · simp only [Option.bind_eq_some_iff, Option.some.injEq, dStr_iff, dInt_iff] at h
      obtain ⟨b0, e0, b1, e1, e⟩ := h
      subst e
      rw [e0, e1]; rfl
    · cases h
  · rintro rfl
    simp [Shelter.of, Shelter.row, dInt_int, dBool_bool, dStr_str, dLst_lst]
def Shelter.d (p : Shelter) : D := .agg p.row
theorem Shelter.dec (p : Shelter) : dAgg Shelter.of p.d = some p := (dAgg_iff Shelter.iff).2 rfl
theorem Shelter.len (p : Shelter) : p.row.length = 2 := rfl
theorem Shelter.getD (l : List Shelter) (i : Nat) : (l.map Shelter.row).getD i [.str ⟨#[]⟩, .int .i64 0] = (l.getD i Shelter.zero).row := getD_map _ _ _ _ _ rfl
theorem Shelter.diff (d : D) (x : Shelter) : dAgg Shelter.of d = some x ↔ d = Shelter.d x := dAgg_iff Shelter.iff
theorem Shelter.dec2 (p : Shelter) : dAgg Shelter.of (.agg [.str p.Name, .int .i64 p.Room]) = some p := Shelter.dec p
theorem Shelter.of2 (p : Shelter) : Shelter.of [.str p.Name, .int .i64 p.Room] = some p := (Shelter.iff _ _).2 rfl
theorem Shelter.drows (l : List Shelter) : dRows Shelter.of (l.map Shelter.row) = some l := dRows_map Shelter.iff l
structure Gauge where
  Name : ByteArray
  Kind : Int
  Target : Int
  Err : Int
  Drift : Int
def Gauge.row (p : Gauge) : List D := [.str p.Name, .int .i64 p.Kind, .int .i64 p.Target, .int .i64 p.Err, .int .i64 p.Drift]
def Gauge.zero : Gauge := ⟨⟨#[]⟩, 0, 0, 0, 0⟩
def Gauge.of : List D → Option Gauge
  | [a0, a1, a2, a3, a4] => (dStr a0).bind fun b0 => (dInt .i64 a1).bind fun b1 => (dInt .i64 a2).bind fun b2 => (dInt .i64 a3).bind fun b3 => (dInt .i64 a4).bind fun b4 => some ⟨b0, b1, b2, b3, b4⟩
  | _ => none
theorem Gauge.iff (r : List D) (x : Gauge) : Gauge.of r = some x ↔ r = x.row := by
  constructor
  · intro h
    unfold Gauge.of at h
    split at h
    · simp only [Option.bind_eq_some_iff, Option.some.injEq, dStr_iff, dInt_iff] at h
      obtain ⟨b0, e0, b1, e1, b2, e2, b3, e3, b4, e4, e⟩ := h
      subst e
      rw [e0, e1, e2, e3, e4]; rfl
    · cases h
  · rintro rfl
    simp [Gauge.of, Gauge.row, dInt_int, dBool_bool, dStr_str, dLst_lst]
def Gauge.d (p : Gauge) : D := .agg p.row
theorem Gauge.dec (p : Gauge) : dAgg Gauge.of p.d = some p := (dAgg_iff Gauge.iff).2 rfl
theorem Gauge.len (p : Gauge) : p.row.length = 5 := rfl
theorem Gauge.getD (l : List Gauge) (i : Nat) : (l.map Gauge.row).getD i [.str ⟨#[]⟩, .int .i64 0, .int .i64 0, .int .i64 0, .int .i64 0] = (l.getD i Gauge.zero).row := getD_map _ _ _ _ _ rfl
theorem Gauge.diff (d : D) (x : Gauge) : dAgg Gauge.of d = some x ↔ d = Gauge.d x := dAgg_iff Gauge.iff
theorem Gauge.dec2 (p : Gauge) : dAgg Gauge.of (.agg [.str p.Name, .int .i64 p.Kind, .int .i64 p.Target, .int .i64 p.Err, .int .i64 p.Drift]) = some p := Gauge.dec p
theorem Gauge.of2 (p : Gauge) : Gauge.of [.str p.Name, .int .i64 p.Kind, .int .i64 p.Target, .int .i64 p.Err, .int .i64 p.Drift] = some p := (Gauge.iff _ _).2 rfl
theorem Gauge.drows (l : List Gauge) : dRows Gauge.of (l.map Gauge.row) = some l := dRows_map Gauge.iff l
structure Road where
  Name : ByteArray
  From : Int
  To : Int
  Hours : Int
  Flow : Int
  By : Int
  Limit : Int
def Road.row (p : Road) : List D := [.str p.Name, .int .i64 p.From, .int .i64 p.To, .int .i64 p.Hours, .int .i64 p.Flow, .int .i64 p.By, .int .i64 p.Limit]
def Road.zero : Road := ⟨⟨#[]⟩, 0, 0, 0, 0, 0, 0⟩
def Road.of : List D → Option Road
  | [a0, a1, a2, a3, a4, a5, a6] => (dStr a0).bind fun b0 => (dInt .i64 a1).bind fun b1 => (dInt .i64 a2).bind fun b2 => (dInt .i64 a3).bind fun b3 => (dInt .i64 a4).bind fun b4 => (dInt .i64 a5).bind fun b5 => (dInt .i64 a6).bind fun b6 => some ⟨b0, b1, b2, b3, b4, b5, b6⟩
  | _ => none
theorem Road.iff (r : List D) (x : Road) : Road.of r = some x ↔ r = x.row := by
  constructor
  · intro h
    unfold Road.of at h
    split at h
    · simp only [Option.bind_eq_some_iff, Option.some.injEq, dStr_iff, dInt_iff] at h
      obtain ⟨b0, e0, b1, e1, b2, e2, b3, e3, b4, e4, b5, e5, b6, e6, e⟩ := h
      subst e
      rw [e0, e1, e2, e3, e4, e5, e6]; rfl
    · cases h
  · rintro rfl
    simp [Road.of, Road.row, dInt_int, dBool_bool, dStr_str, dLst_lst]
def Road.d (p : Road) : D := .agg p.row
theorem Road.dec (p : Road) : dAgg Road.of p.d = some p := (dAgg_iff Road.iff).2 rfl
theorem Road.len (p : Road) : p.row.length = 7 := rfl
theorem Road.getD (l : List Road) (i : Nat) : (l.map Road.row).getD i [.str ⟨#[]⟩, .int .i64 0, .int .i64 0, .int .i64 0, .int .i64 0, .int .i64 0, .int .i64 0] = (l.getD i Road.zero).row := getD_map _ _ _ _ _ rfl
theorem Road.diff (d : D) (x : Road) : dAgg Road.of d = some x ↔ d = Road.d x := dAgg_iff Road.iff
theorem Road.dec2 (p : Road) : dAgg Road.of (.agg [.str p.Name, .int .i64 p.From, .int .i64 p.To, .int .i64 p.Hours, .int .i64 p.Flow, .int .i64 p.By, .int .i64 p.Limit]) = some p := Road.dec p
theorem Road.of2 (p : Road) : Road.of [.str p.Name, .int .i64 p.From, .int .i64 p.To, .int .i64 p.Hours, .int .i64 p.Flow, .int .i64 p.By, .int .i64 p.Limit] = some p := (Road.iff _ _).2 rfl
theorem Road.drows (l : List Road) : dRows Road.of (l.map Road.row) = some l := dRows_map Road.iff l
structure Basin where
  Name : ByteArray
  Owners : List ByteArray
  Cells : Int
  Places : List Place
  Links : List Link
  Towns : List Town
  Gauges : List Gauge
  Roads : List Road
  Shelters : List Shelter
  Room : List Int
  Err : Int
def Basin.row (p : Basin) : List D := [.str p.Name, .lst 1 (p.Owners.map srow), .int .i64 p.Cells, .lst 12 (p.Places.map Place.row), .lst 18 (p.Links.map Link.row), .lst 7 (p.Towns.map Town.row), .lst 5 (p.Gauges.map Gauge.row), .lst 7 (p.Roads.map Road.row), .lst 2 (p.Shelters.map Shelter.row), .lst 1 (p.Room.map irow), .int .i64 p.Err]
def Basin.zero : Basin := ⟨⟨#[]⟩, [], 0, [], [], [], [], [], [], [], 0⟩
def Basin.of : List D → Option Basin
  | [a0, a1, a2, a3, a4, a5, a6, a7, a8, a9, a10] => (dStr a0).bind fun b0 => (dLst 1 sof a1).bind fun b1 => (dInt .i64 a2).bind fun b2 => (dLst 12 Place.of a3).bind fun b3 => (dLst 18 Link.of a4).bind fun b4 => (dLst 7 Town.of a5).bind fun b5 => (dLst 5 Gauge.of a6).bind fun b6 => (dLst 7 Road.of a7).bind fun b7 => (dLst 2 Shelter.of a8).bind fun b8 => (dLst 1 iof a9).bind fun b9 => (dInt .i64 a10).bind fun b10 => some ⟨b0, b1, b2, b3, b4, b5, b6, b7, b8, b9, b10⟩
  | _ => none
theorem Basin.iff (r : List D) (x : Basin) : Basin.of r = some x ↔ r = x.row := by
  constructor
  · intro h
    unfold Basin.of at h
    split at h
    · simp only [Option.bind_eq_some_iff, Option.some.injEq, dStr_iff, dLst_iff sof_iff, dInt_iff, dLst_iff Place.iff, dLst_iff Link.iff, dLst_iff Town.iff, dLst_iff Gauge.iff, dLst_iff Road.iff, dLst_iff Shelter.iff, dLst_iff iof_iff] at h
      obtain ⟨b0, e0, b1, e1, b2, e2, b3, e3, b4, e4, b5, e5, b6, e6, b7, e7, b8, e8, b9, e9, b10, e10, e⟩ := h
      subst e
      rw [e0, e1, e2, e3, e4, e5, e6, e7, e8, e9, e10]; rfl
    · cases h
  · rintro rfl
    simp [Basin.of, Basin.row, dInt_int, dBool_bool, dStr_str, dLst_lst, dRows_map sof_iff, dRows_map Place.iff, dRows_map Link.iff, dRows_map Town.iff, dRows_map Gauge.iff, dRows_map Road.iff, dRows_map Shelter.iff, dRows_map iof_iff]
def Basin.d (p : Basin) : D := .agg p.row
theorem Basin.dec (p : Basin) : dAgg Basin.of p.d = some p := (dAgg_iff Basin.iff).2 rfl
theorem Basin.len (p : Basin) : p.row.length = 11 := rfl
theorem Basin.getD (l : List Basin) (i : Nat) : (l.map Basin.row).getD i [.str ⟨#[]⟩, .lst 1 [], .int .i64 0, .lst 12 [], .lst 18 [], .lst 7 [], .lst 5 [], .lst 7 [], .lst 2 [], .lst 1 [], .int .i64 0] = (l.getD i Basin.zero).row := getD_map _ _ _ _ _ rfl
theorem Basin.diff (d : D) (x : Basin) : dAgg Basin.of d = some x ↔ d = Basin.d x := dAgg_iff Basin.iff
theorem Basin.dec2 (p : Basin) : dAgg Basin.of (.agg [.str p.Name, .lst 1 (p.Owners.map srow), .int .i64 p.Cells, .lst 12 (p.Places.map Place.row), .lst 18 (p.Links.map Link.row), .lst 7 (p.Towns.map Town.row), .lst 5 (p.Gauges.map Gauge.row), .lst 7 (p.Roads.map Road.row), .lst 2 (p.Shelters.map Shelter.row), .lst 1 (p.Room.map irow), .int .i64 p.Err]) = some p := Basin.dec p
theorem Basin.of2 (p : Basin) : Basin.of [.str p.Name, .lst 1 (p.Owners.map srow), .int .i64 p.Cells, .lst 12 (p.Places.map Place.row), .lst 18 (p.Links.map Link.row), .lst 7 (p.Towns.map Town.row), .lst 5 (p.Gauges.map Gauge.row), .lst 7 (p.Roads.map Road.row), .lst 2 (p.Shelters.map Shelter.row), .lst 1 (p.Room.map irow), .int .i64 p.Err] = some p := (Basin.iff _ _).2 rfl
theorem Basin.drows (l : List Basin) : dRows Basin.of (l.map Basin.row) = some l := dRows_map Basin.iff l
structure Claim where
  Id : Int
  Owner : Int
  Date : Int
  Place : Int
  Rate : Int
  From : Int
  Until : Int
  Back : Int
  BackTo : Int
def Claim.row (p : Claim) : List D := [.int .i64 p.Id, .int .i64 p.Owner, .int .i64 p.Date, .int .i64 p.Place, .int .i64 p.Rate, .int .i64 p.From, .int .i64 p.Until, .int .i64 p.Back, .int .i64 p.BackTo]
def Claim.zero : Claim := ⟨0, 0, 0, 0, 0, 0, 0, 0, 0⟩
def Claim.of : List D → Option Claim
  | [a0, a1, a2, a3, a4, a5, a6, a7, a8] => (dInt .i64 a0).bind fun b0 => (dInt .i64 a1).bind fun b1 => (dInt .i64 a2).bind fun b2 => (dInt .i64 a3).bind fun b3 => (dInt .i64 a4).bind fun b4 => (dInt .i64 a5).bind fun b5 => (dInt .i64 a6).bind fun b6 => (dInt .i64 a7).bind fun b7 => (dInt .i64 a8).bind fun b8 => some ⟨b0, b1, b2, b3, b4, b5, b6, b7, b8⟩
  | _ => none
theorem Claim.iff (r : List D) (x : Claim) : Claim.of r = some x ↔ r = x.row := by
  constructor
  · intro h
    unfold Claim.of at h
    split at h
    · simp only [Option.bind_eq_some_iff, Option.some.injEq, dInt_iff] at h
      obtain ⟨b0, e0, b1, e1, b2, e2, b3, e3, b4, e4, b5, e5, b6, e6, b7, e7, b8, e8, e⟩ := h
      subst e
      rw [e0, e1, e2, e3, e4, e5, e6, e7, e8]; rfl
    · cases h
  · rintro rfl
    simp [Claim.of, Claim.row, dInt_int, dBool_bool, dStr_str, dLst_lst]
def Claim.d (p : Claim) : D := .agg p.row
theorem Claim.dec (p : Claim) : dAgg Claim.of p.d = some p := (dAgg_iff Claim.iff).2 rfl
theorem Claim.len (p : Claim) : p.row.length = 9 := rfl
theorem Claim.getD (l : List Claim) (i : Nat) : (l.map Claim.row).getD i [.int .i64 0, .int .i64 0, .int .i64 0, .int .i64 0, .int .i64 0, .int .i64 0, .int .i64 0, .int .i64 0, .int .i64 0] = (l.getD i Claim.zero).row := getD_map _ _ _ _ _ rfl
theorem Claim.diff (d : D) (x : Claim) : dAgg Claim.of d = some x ↔ d = Claim.d x := dAgg_iff Claim.iff
theorem Claim.dec2 (p : Claim) : dAgg Claim.of (.agg [.int .i64 p.Id, .int .i64 p.Owner, .int .i64 p.Date, .int .i64 p.Place, .int .i64 p.Rate, .int .i64 p.From, .int .i64 p.Until, .int .i64 p.Back, .int .i64 p.BackTo]) = some p := Claim.dec p
theorem Claim.of2 (p : Claim) : Claim.of [.int .i64 p.Id, .int .i64 p.Owner, .int .i64 p.Date, .int .i64 p.Place, .int .i64 p.Rate, .int .i64 p.From, .int .i64 p.Until, .int .i64 p.Back, .int .i64 p.BackTo] = some p := (Claim.iff _ _).2 rfl
theorem Claim.drows (l : List Claim) : dRows Claim.of (l.map Claim.row) = some l := dRows_map Claim.iff l
structure Grant where
  Right : Int
  Litres : Int
def Grant.row (p : Grant) : List D := [.int .i64 p.Right, .int .i64 p.Litres]
def Grant.zero : Grant := ⟨0, 0⟩
def Grant.of : List D → Option Grant
  | [a0, a1] => (dInt .i64 a0).bind fun b0 => (dInt .i64 a1).bind fun b1 => some ⟨b0, b1⟩
  | _ => none
theorem Grant.iff (r : List D) (x : Grant) : Grant.of r = some x ↔ r = x.row := by
  constructor
  · intro h
    unfold Grant.of at h
    split at h
    · simp only [Option.bind_eq_some_iff, Option.some.injEq, dInt_iff] at h
      obtain ⟨b0, e0, b1, e1, e⟩ := h
      subst e
      rw [e0, e1]; rfl
    · cases h
  · rintro rfl
    simp [Grant.of, Grant.row, dInt_int, dBool_bool, dStr_str, dLst_lst]
def Grant.d (p : Grant) : D := .agg p.row
theorem Grant.dec (p : Grant) : dAgg Grant.of p.d = some p := (dAgg_iff Grant.iff).2 rfl
theorem Grant.len (p : Grant) : p.row.length = 2 := rfl
theorem Grant.getD (l : List Grant) (i : Nat) : (l.map Grant.row).getD i [.int .i64 0, .int .i64 0] = (l.getD i Grant.zero).row := getD_map _ _ _ _ _ rfl
theorem Grant.diff (d : D) (x : Grant) : dAgg Grant.of d = some x ↔ d = Grant.d x := dAgg_iff Grant.iff
theorem Grant.dec2 (p : Grant) : dAgg Grant.of (.agg [.int .i64 p.Right, .int .i64 p.Litres]) = some p := Grant.dec p
theorem Grant.of2 (p : Grant) : Grant.of [.int .i64 p.Right, .int .i64 p.Litres] = some p := (Grant.iff _ _).2 rfl
theorem Grant.drows (l : List Grant) : dRows Grant.of (l.map Grant.row) = some l := dRows_map Grant.iff l
structure Entry where
  Day : Int
  Known : Int
  Owner : Int
  Place : Int
  Litres : Int
  Why : Int
  Ref : Int
def Entry.row (p : Entry) : List D := [.int .i64 p.Day, .int .i64 p.Known, .int .i64 p.Owner, .int .i64 p.Place, .int .i64 p.Litres, .int .i64 p.Why, .int .i64 p.Ref]
def Entry.zero : Entry := ⟨0, 0, 0, 0, 0, 0, 0⟩
def Entry.of : List D → Option Entry
  | [a0, a1, a2, a3, a4, a5, a6] => (dInt .i64 a0).bind fun b0 => (dInt .i64 a1).bind fun b1 => (dInt .i64 a2).bind fun b2 => (dInt .i64 a3).bind fun b3 => (dInt .i64 a4).bind fun b4 => (dInt .i64 a5).bind fun b5 => (dInt .i64 a6).bind fun b6 => some ⟨b0, b1, b2, b3, b4, b5, b6⟩
  | _ => none
theorem Entry.iff (r : List D) (x : Entry) : Entry.of r = some x ↔ r = x.row := by
  constructor
  · intro h
    unfold Entry.of at h
    split at h
    · simp only [Option.bind_eq_some_iff, Option.some.injEq, dInt_iff] at h
      obtain ⟨b0, e0, b1, e1, b2, e2, b3, e3, b4, e4, b5, e5, b6, e6, e⟩ := h
      subst e
      rw [e0, e1, e2, e3, e4, e5, e6]; rfl
    · cases h
  · rintro rfl
    simp [Entry.of, Entry.row, dInt_int, dBool_bool, dStr_str, dLst_lst]
def Entry.d (p : Entry) : D := .agg p.row
theorem Entry.dec (p : Entry) : dAgg Entry.of p.d = some p := (dAgg_iff Entry.iff).2 rfl
theorem Entry.len (p : Entry) : p.row.length = 7 := rfl
theorem Entry.getD (l : List Entry) (i : Nat) : (l.map Entry.row).getD i [.int .i64 0, .int .i64 0, .int .i64 0, .int .i64 0, .int .i64 0, .int .i64 0, .int .i64 0] = (l.getD i Entry.zero).row := getD_map _ _ _ _ _ rfl
theorem Entry.diff (d : D) (x : Entry) : dAgg Entry.of d = some x ↔ d = Entry.d x := dAgg_iff Entry.iff
theorem Entry.dec2 (p : Entry) : dAgg Entry.of (.agg [.int .i64 p.Day, .int .i64 p.Known, .int .i64 p.Owner, .int .i64 p.Place, .int .i64 p.Litres, .int .i64 p.Why, .int .i64 p.Ref]) = some p := Entry.dec p
theorem Entry.of2 (p : Entry) : Entry.of [.int .i64 p.Day, .int .i64 p.Known, .int .i64 p.Owner, .int .i64 p.Place, .int .i64 p.Litres, .int .i64 p.Why, .int .i64 p.Ref] = some p := (Entry.iff _ _).2 rfl
theorem Entry.drows (l : List Entry) : dRows Entry.of (l.map Entry.row) = some l := dRows_map Entry.iff l
structure Report where
  Roster : List Claim
  Supply : List Int
def Report.row (p : Report) : List D := [.lst 9 (p.Roster.map Claim.row), .lst 1 (p.Supply.map irow)]
def Report.zero : Report := ⟨[], []⟩
def Report.of : List D → Option Report
  | [a0, a1] => (dLst 9 Claim.of a0).bind fun b0 => (dLst 1 iof a1).bind fun b1 => some ⟨b0, b1⟩
  | _ => none
theorem Report.iff (r : List D) (x : Report) : Report.of r = some x ↔ r = x.row := by
  constructor
  · intro h
    unfold Report.of at h
    split at h
    · simp only [Option.bind_eq_some_iff, Option.some.injEq, dLst_iff Claim.iff, dLst_iff iof_iff] at h
      obtain ⟨b0, e0, b1, e1, e⟩ := h
      subst e
      rw [e0, e1]; rfl
    · cases h
  · rintro rfl
    simp [Report.of, Report.row, dInt_int, dBool_bool, dStr_str, dLst_lst, dRows_map Claim.iff, dRows_map iof_iff]
def Report.d (p : Report) : D := .agg p.row
theorem Report.dec (p : Report) : dAgg Report.of p.d = some p := (dAgg_iff Report.iff).2 rfl
theorem Report.len (p : Report) : p.row.length = 2 := rfl
theorem Report.getD (l : List Report) (i : Nat) : (l.map Report.row).getD i [.lst 9 [], .lst 1 []] = (l.getD i Report.zero).row := getD_map _ _ _ _ _ rfl
theorem Report.diff (d : D) (x : Report) : dAgg Report.of d = some x ↔ d = Report.d x := dAgg_iff Report.iff
theorem Report.dec2 (p : Report) : dAgg Report.of (.agg [.lst 9 (p.Roster.map Claim.row), .lst 1 (p.Supply.map irow)]) = some p := Report.dec p
theorem Report.of2 (p : Report) : Report.of [.lst 9 (p.Roster.map Claim.row), .lst 1 (p.Supply.map irow)] = some p := (Report.iff _ _).2 rfl
theorem Report.drows (l : List Report) : dRows Report.of (l.map Report.row) = some l := dRows_map Report.iff l
structure Triple where
  right : Int
  owner : Int
  place : Int
def Triple.row (p : Triple) : List D := [.int .i64 p.right, .int .i64 p.owner, .int .i64 p.place]
def Triple.zero : Triple := ⟨0, 0, 0⟩
def Triple.of : List D → Option Triple
  | [a0, a1, a2] => (dInt .i64 a0).bind fun b0 => (dInt .i64 a1).bind fun b1 => (dInt .i64 a2).bind fun b2 => some ⟨b0, b1, b2⟩
  | _ => none
theorem Triple.iff (r : List D) (x : Triple) : Triple.of r = some x ↔ r = x.row := by
  constructor
  · intro h
    unfold Triple.of at h
    split at h
    · simp only [Option.bind_eq_some_iff, Option.some.injEq, dInt_iff] at h
      obtain ⟨b0, e0, b1, e1, b2, e2, e⟩ := h
      subst e
      rw [e0, e1, e2]; rfl
    · cases h
  · rintro rfl
    simp [Triple.of, Triple.row, dInt_int, dBool_bool, dStr_str, dLst_lst]
def Triple.d (p : Triple) : D := .agg p.row
theorem Triple.dec (p : Triple) : dAgg Triple.of p.d = some p := (dAgg_iff Triple.iff).2 rfl
theorem Triple.len (p : Triple) : p.row.length = 3 := rfl
theorem Triple.getD (l : List Triple) (i : Nat) : (l.map Triple.row).getD i [.int .i64 0, .int .i64 0, .int .i64 0] = (l.getD i Triple.zero).row := getD_map _ _ _ _ _ rfl
theorem Triple.diff (d : D) (x : Triple) : dAgg Triple.of d = some x ↔ d = Triple.d x := dAgg_iff Triple.iff
theorem Triple.dec2 (p : Triple) : dAgg Triple.of (.agg [.int .i64 p.right, .int .i64 p.owner, .int .i64 p.place]) = some p := Triple.dec p
theorem Triple.of2 (p : Triple) : Triple.of [.int .i64 p.right, .int .i64 p.owner, .int .i64 p.place] = some p := (Triple.iff _ _).2 rfl
theorem Triple.drows (l : List Triple) : dRows Triple.of (l.map Triple.row) = some l := dRows_map Triple.iff l
structure Posting where
  day : Int
  known : Int
def Posting.row (p : Posting) : List D := [.int .i64 p.day, .int .i64 p.known]
def Posting.zero : Posting := ⟨0, 0⟩
def Posting.of : List D → Option Posting
  | [a0, a1] => (dInt .i64 a0).bind fun b0 => (dInt .i64 a1).bind fun b1 => some ⟨b0, b1⟩
  | _ => none
theorem Posting.iff (r : List D) (x : Posting) : Posting.of r = some x ↔ r = x.row := by
  constructor
  · intro h
    unfold Posting.of at h
    split at h
    · simp only [Option.bind_eq_some_iff, Option.some.injEq, dInt_iff] at h
      obtain ⟨b0, e0, b1, e1, e⟩ := h
      subst e
      rw [e0, e1]; rfl
    · cases h
  · rintro rfl
    simp [Posting.of, Posting.row, dInt_int, dBool_bool, dStr_str, dLst_lst]
def Posting.d (p : Posting) : D := .agg p.row
theorem Posting.dec (p : Posting) : dAgg Posting.of p.d = some p := (dAgg_iff Posting.iff).2 rfl
theorem Posting.len (p : Posting) : p.row.length = 2 := rfl
theorem Posting.getD (l : List Posting) (i : Nat) : (l.map Posting.row).getD i [.int .i64 0, .int .i64 0] = (l.getD i Posting.zero).row := getD_map _ _ _ _ _ rfl
theorem Posting.diff (d : D) (x : Posting) : dAgg Posting.of d = some x ↔ d = Posting.d x := dAgg_iff Posting.iff
theorem Posting.dec2 (p : Posting) : dAgg Posting.of (.agg [.int .i64 p.day, .int .i64 p.known]) = some p := Posting.dec p
theorem Posting.of2 (p : Posting) : Posting.of [.int .i64 p.day, .int .i64 p.known] = some p := (Posting.iff _ _).2 rfl
theorem Posting.drows (l : List Posting) : dRows Posting.of (l.map Posting.row) = some l := dRows_map Posting.iff l
theorem igetD (l : List Int) (i : Nat) : (l.map irow).getD i [.int .i64 0] = irow (l.getD i 0) := getD_map _ _ _ _ _ rfl
theorem idrows (l : List Int) : dRows iof (l.map irow) = some l := dRows_map iof_iff l
theorem sdrows (l : List ByteArray) : dRows sof (l.map srow) = some l := dRows_map sof_iff l
theorem sgetD (l : List ByteArray) (i : Nat) : (l.map srow).getD i [.str ⟨#[]⟩] = srow (l.getD i ⟨#[]⟩) := getD_map _ _ _ _ _ rfl
theorem lgetD {A : Type} (sz : Nat) (row : A → List D) (l : List (List A)) (i : Nat) : (l.map (lrow sz row)).getD i [.lst sz []] = lrow sz row (l.getD i []) := getD_map _ _ _ _ _ rfl
end Go.Proofs.Ytomnjbebgfadoaa.Pi
