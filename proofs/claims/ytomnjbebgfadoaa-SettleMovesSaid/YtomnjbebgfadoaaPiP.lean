/- What a step looks at: an operation's step is the same in states that agree there.
   Conditions: none; lemmas. -/
import Derived.Test.YtomnjbebgfadoaaPiO
set_option linter.unusedVariables false
set_option linter.unusedSimpArgs false
namespace Go.Proofs.Ytomnjbebgfadoaa.Pi
open Go Go.RowKit

/-- States that agree on some operands. -/
def Agree (S S' : St) (xs : List Operand) : Prop := ∀ x ∈ xs, S'.ev x = S.ev x

section
variable {E : Env} {S S' : St}
theorem Agree.sv {xs : List Operand} (h : Agree S S' xs) {x : Operand} (hx : x ∈ xs) : S'.sv x = S.sv x := by unfold St.sv; rw [h x hx]
theorem Agree.sc {xs : List Operand} (h : Agree S S' xs) {x : Operand} (hx : x ∈ xs) : S'.sc x = S.sc x := by unfold St.sc; rw [h x hx]
theorem Agree.svs {xs : List Operand} (h : Agree S S' xs) : ∀ {ys : List Operand}, (∀ y ∈ ys, y ∈ xs) → ys.map S'.sv = ys.map S.sv
  | [], _ => rfl
  | y :: ys, hy => by simp only [List.map_cons]; rw [h.sv (hy y (by simp)), h.svs fun z hz => hy z (by simp [hz])]
theorem Agree.argsC {xs : List Operand} (h : Agree S S' xs) : ∀ {ys : List Operand}, (∀ y ∈ ys, y ∈ xs) → argsC S' ys = argsC S ys
  | [], _ => rfl
  | y :: ys, hy => by simp only [Pi.argsC]; rw [h.sc (hy y (by simp)), h.argsC fun z hz => hy z (by simp [hz])]
theorem Agree.parts {xs : List Operand} (h : Agree S S' xs) : ∀ {ys : List (Nat × Operand)}, (∀ y ∈ ys, y.2 ∈ xs) → (ys.map fun p => (p.1, S'.sv p.2)) = ys.map fun p => (p.1, S.sv p.2)
  | [], _ => rfl
  | y :: ys, hy => by simp only [List.map_cons]; rw [h.sv (hy y (by simp)), h.parts fun z hz => hy z (by simp [hz])]

/-- Operations whose step looks at no object. -/
def noObj : Op → Bool
  | .load .. | .call .. | .lookup .. => false
  | _ => true

theorem obj_congr (ho : S'.o = S.o) : S'.obj = S.obj := by funext K ver; unfold St.obj; rw [ho]
theorem loadV_congr (ho : S'.o = S.o) : loadV E S' = loadV E S := by funext t q; unfold loadV; rw [obj_congr ho]
theorem lenV_congr (ho : S'.o = S.o) : lenV E S' = lenV E S := by funext t q; unfold lenV; rw [obj_congr ho]

theorem lookupV_congr (ho : S'.o = S.o) : lookupV E S' = lookupV E S := by funext t b q i; unfold lookupV; rw [obj_congr ho]
theorem Agree.opts {xs : List Operand} (h : Agree S S' xs) {y : Option Operand} (hy : ∀ z, y = some z → z ∈ xs) : y.map S'.sv = y.map S.sv := by
  cases y with
  | none => rfl
  | some z => simp only [Option.map_some]; rw [h.sv (hy z rfl)]

theorem callOp_congr (ho : S'.o = S.o) {c : Call} (h : Agree S S' c.operands.toList) : callOp E S' c = callOp E S c := by
  obtain ⟨callee, args, tys⟩ := c
  have hlen := lenV_congr (E := E) ho
  have ha : ∀ y ∈ args.toList, y ∈ (Call.operands ⟨callee, args, tys⟩).toList := fun y hy => by
    simp only [Call.operands, Array.toList_append, List.mem_append]; exact .inr hy
  unfold callOp
  simp only [hlen]
  cases callee with
  | value x => rfl
  | invoke r m => rfl
  | builtin b =>
    simp only
    split
    · rename_i x t hx ht
      have hx' : x ∈ (Call.operands ⟨.builtin .len, args, tys⟩).toList := ha x (by rw [hx]; simp)
      rw [h.sv hx', h.sc hx']
    · rename_i xs hx
      rw [h.svs ha, h.argsC ha]
    · rename_i xs hx
      rw [h.svs ha, h.argsC ha]
    · rfl

theorem pureOp_congr {op : Op} (ho : S'.o = S.o ∨ noObj op = true) (h : Agree S S' op.operands.toList) : pureOp E S' op = pureOp E S op := by
  cases op <;> simp only [noObj, Bool.false_eq_true, or_false, or_true] at ho <;> (try rfl) <;> simp only [Op.operands] at h <;> simp only [pureOp]
  case move x => rw [h x (by simp)]
  case assign x => rw [h x (by simp)]
  case pick c a b => rw [h.sv (x := c) (by simp), h.sv (x := a) (by simp), h.sv (x := b) (by simp), h.sc (x := c) (by simp), h.sc (x := a) (by simp), h.sc (x := b) (by simp)]
  case build t ps =>
    rw [h.parts (ys := ps.toList) (fun y hy => by simp; exact ⟨y.1, by simpa using hy⟩), h.argsC (ys := ps.toList.map (·.2)) (fun y hy => by simpa using hy)]
  case load t x => rw [h.sv (x := x) (by simp), h.sc (x := x) (by simp), loadV_congr ho]
  case binOp op t x y t' => rw [h.sv (x := x) (by simp), h.sc (x := x) (by simp), h.sv (x := y) (by simp), h.sc (x := y) (by simp)]
  case unOp op t x => rw [h.sv (x := x) (by simp), h.sc (x := x) (by simp)]
  case convert s d x => rw [h.sv (x := x) (by simp), h.sc (x := x) (by simp)]
  case fieldAddr t x f => rw [h.sv (x := x) (by simp), h.sc (x := x) (by simp)]
  case field t x f => rw [h.sv (x := x) (by simp), h.sc (x := x) (by simp)]
  case indexAddr t x y => rw [h.sv (x := x) (by simp), h.sc (x := x) (by simp), h.sv (x := y) (by simp), h.sc (x := y) (by simp)]
  case index t x y => rw [h.sv (x := x) (by simp), h.sc (x := x) (by simp), h.sv (x := y) (by simp), h.sc (x := y) (by simp)]
  case extract x i => rw [h.sv (x := x) (by simp), h.sc (x := x) (by simp)]
  case call c => exact callOp_congr ho h
  case lookup t x i b => rw [h.sv (x := x) (by simp), h.sc (x := x) (by simp), h.sv (x := i) (by simp), h.sc (x := i) (by simp), lookupV_congr ho]
  case nilCheck x => rw [h.sv (x := x) (by simp), h.sc (x := x) (by simp)]
  case makeFunc f first caps => rw [h.svs (ys := caps.toList) (fun y hy => by simp at hy ⊢; exact .inr hy), h.argsC (ys := caps.toList) (fun y hy => by simp at hy ⊢; exact .inr hy)]
  case slice t x lo hi mx =>
    cases mx with
    | some m => rfl
    | none =>
      simp only
      rw [h.sv (x := x) (by simp), h.opts (y := lo) (fun z hz => by subst hz; simp), h.opts (y := hi) (fun z hz => by subst hz; simp), h.argsC (ys := x :: (lo.toList ++ hi.toList)) (fun y hy => by simp at hy ⊢; rcases hy with hy | hy | hy <;> simp [hy])]

theorem litOp_congr {op : Op} (h : Agree S S' op.operands.toList) : litOp E S' op = litOp E S op := by
  cases op <;> (try rfl)
  case buildSlice t n ps =>
    simp only [Op.operands] at h
    simp only [litOp]
    rw [h.parts (ys := ps.toList) (fun y hy => by simp; exact ⟨y.1, by simpa using hy⟩), h.argsC (ys := ps.toList.map (·.2)) (fun y hy => by simpa using hy)]

theorem allocE_congr (ho : S'.o = S.o) : allocE E S' = allocE E S := by funext K t; unfold allocE refNew; rw [ho]
theorem boxE_congr (ho : S'.o = S.o) : boxE E S' = boxE E S := by funext K t x; unfold boxE refNew; rw [ho]
theorem rowsV_congr (ho : S'.o = S.o) : rowsV S' = rowsV S := by funext n x; unfold rowsV; rw [obj_congr ho]
theorem rowsP_congr (ho : S'.o = S.o) : rowsP S' = rowsP S := by funext n x; unfold rowsP; rw [obj_congr ho]
theorem appR_congr {te : TI} (ho : S'.o = S.o) : appR te S' = appR te S := by funext K e s x; unfold appR rowNew; rw [obj_congr ho, ho]
theorem appP_congr {te : TI} (ho : S'.o = S.o) : appP te S' = appP te S := by funext K e s x; unfold appP rowNew; rw [obj_congr ho, ho]
theorem appE_congr (ho : S'.o = S.o) : appE E S' = appE E S := by
  funext K t s x; unfold appE; rw [rowsV_congr ho, rowsP_congr ho]
  have h1 := fun te => appR_congr (te := te) ho
  have h2 := fun te => appP_congr (te := te) ho
  simp only [h1, h2]
theorem storeE_congr (ho : S'.o = S.o) : storeE E S' = storeE E S := by funext t a x; unfold storeE; rw [obj_congr ho, ho]
theorem makeE_congr (ho : S'.o = S.o) : makeE E S' = makeE E S := by funext K t b a x; unfold makeE rowNew; rw [ho]
theorem makeMapE_congr (ho : S'.o = S.o) : makeMapE E S' = makeMapE E S := by funext K t; unfold makeMapE; rw [ho]
theorem mapUpdE_congr (ho : S'.o = S.o) : mapUpdE E S' = mapUpdE E S := by funext t m k v; unfold mapUpdE; rw [obj_congr ho, ho]
theorem mapEntE_congr (ho : S'.o = S.o) : mapEntE E S' = mapEntE E S := by funext t m k; unfold mapEntE; rw [obj_congr ho, ho]
theorem mapStoE_congr (ho : S'.o = S.o) : mapStoE S' = mapStoE S := by funext m k v; unfold mapStoE; rw [obj_congr ho, ho]
theorem litE_congr (ho : S'.o = S.o) : litE E S' = litE E S := by funext K t n ps; unfold litE rowNew; rw [ho]

theorem callE_congr (ho : S'.o = S.o) {K : Nat} {c : Call} (h : Agree S S' c.operands.toList) : callE E S' K c = callE E S K c := by
  obtain ⟨callee, args, tys⟩ := c
  have ha : ∀ y ∈ args.toList, y ∈ (Call.operands ⟨callee, args, tys⟩).toList := fun y hy => by
    simp only [Call.operands, Array.toList_append, List.mem_append]; exact .inr hy
  unfold callE
  rw [appE_congr ho]
  cases callee with
  | value x => rfl
  | invoke r m => rfl
  | builtin b =>
    cases b <;> (try rfl)
    simp only
    split
    · rename_i s x t t' hx ht
      have h1 : s ∈ (Call.operands ⟨.builtin .append, args, tys⟩).toList := ha s (by rw [hx]; simp)
      have h2 : x ∈ (Call.operands ⟨.builtin .append, args, tys⟩).toList := ha x (by rw [hx]; simp)
      rw [h.sv h1, h.sc h1, h.sv h2, h.sc h2]
    · rfl
theorem effOp_congr (ho : S'.o = S.o) {dst : Option Nat} {op : Op} (h : Agree S S' op.operands.toList) : effOp E S' dst op = effOp E S dst op := by
  cases op <;> cases dst <;> (try rfl) <;> simp only [Op.operands] at h <;> simp only [effOp]
  case alloc.some t d => rw [allocE_congr ho]
  case box.some t x d => rw [h.sv (x := x) (by simp), h.sc (x := x) (by simp), boxE_congr ho]
  case store.none t x y => rw [h.sv (x := x) (by simp), h.sc (x := x) (by simp), h.sv (x := y) (by simp), h.sc (x := y) (by simp), storeE_congr ho]
  case store.some t x y d => rw [h.sv (x := x) (by simp), h.sc (x := x) (by simp), h.sv (x := y) (by simp), h.sc (x := y) (by simp), storeE_congr ho]
  case makeSlice.some t x y d => rw [h.sv (x := x) (by simp), h.sc (x := x) (by simp), h.sv (x := y) (by simp), h.sc (x := y) (by simp), makeE_congr ho]
  case buildSlice.some t n ps d =>
    rw [h.parts (ys := ps.toList) (fun y hy => by simp; exact ⟨y.1, by simpa using hy⟩), h.argsC (ys := ps.toList.map (·.2)) (fun y hy => by simpa using hy), litE_congr ho]
  case call.some c d => exact callE_congr ho h
  case makeMap.some t r d => cases r <;> simp only [effOp] <;> rw [makeMapE_congr ho]
  case insert.none t m k v => rw [h.sv (x := m) (by simp), h.sc (x := m) (by simp), h.sv (x := k) (by simp), h.sc (x := k) (by simp), h.sv (x := v) (by simp), h.sc (x := v) (by simp), mapUpdE_congr ho]
  case insert.some t m k v d => rw [h.sv (x := m) (by simp), h.sc (x := m) (by simp), h.sv (x := k) (by simp), h.sc (x := k) (by simp), h.sv (x := v) (by simp), h.sc (x := v) (by simp), mapUpdE_congr ho]
  case mapUpdate.none t m k v => rw [h.sv (x := m) (by simp), h.sc (x := m) (by simp), h.sv (x := k) (by simp), h.sc (x := k) (by simp), h.sv (x := v) (by simp), h.sc (x := v) (by simp), mapUpdE_congr ho]
  case mapUpdate.some t m k v d => rw [h.sv (x := m) (by simp), h.sc (x := m) (by simp), h.sv (x := k) (by simp), h.sc (x := k) (by simp), h.sv (x := v) (by simp), h.sc (x := v) (by simp), mapUpdE_congr ho]
  case mapEntry.some t m k d => rw [h.sv (x := m) (by simp), h.sc (x := m) (by simp), h.sv (x := k) (by simp), h.sc (x := k) (by simp), mapEntE_congr ho]
  case entryStore.none t m k v => rw [h.sv (x := m) (by simp), h.sc (x := m) (by simp), h.sv (x := k) (by simp), h.sc (x := k) (by simp), h.sv (x := v) (by simp), h.sc (x := v) (by simp), mapStoE_congr ho]
  case entryStore.some t m k v d => rw [h.sv (x := m) (by simp), h.sc (x := m) (by simp), h.sv (x := k) (by simp), h.sc (x := k) (by simp), h.sv (x := v) (by simp), h.sc (x := v) (by simp), mapStoE_congr ho]

theorem snapC_congr (ho : S'.o = S.o) : snapC S' = snapC S := by funext z q; unfold snapC; rw [obj_congr ho]
theorem snapCs_congr (ho : S'.o = S.o) : ∀ zs ps, snapCs S' zs ps = snapCs S zs ps
  | [], [] => rfl
  | [], _ :: _ => rfl
  | _ :: _, [] => rfl
  | z :: zs, p :: ps => by simp only [snapCs]; rw [snapC_congr ho, snapCs_congr ho zs ps]
theorem snapR_congr (ho : S'.o = S.o) : snapR E S' = snapR E S := by
  have h1 : snapCs S' = snapCs S := by funext a b; exact snapCs_congr ho a b
  funext q; unfold snapR; rw [obj_congr ho, h1]
theorem snapRs_congr (ho : S'.o = S.o) : ∀ ps, snapRs E S' ps = snapRs E S ps
  | [] => rfl
  | p :: ps => by simp only [snapRs]; rw [snapR_congr ho, snapRs_congr ho ps]
theorem snapV_congr (ho : S'.o = S.o) : snapV E S' = snapV E S := by
  have h1 : snapCs S' = snapCs S := by funext a b; exact snapCs_congr ho a b
  have h2 : snapRs E S' = snapRs E S := by funext a; exact snapRs_congr ho a
  funext t q; unfold snapV; rw [snapR_congr ho, h1, h2, snapC_congr ho]
theorem keysR_congr (ho : S'.o = S.o) : keysR S' = keysR S := by funext q; unfold keysR; rw [obj_congr ho]
theorem keysV_congr (ho : S'.o = S.o) : keysV S' = keysV S := by funext q; unfold keysV; rw [keysR_congr ho]
theorem snapVs_congr (ho : S'.o = S.o) {xs : List Operand} (h : Agree S S' xs) : ∀ {ys : List Operand} {ts : List Nat}, (∀ y ∈ ys, y ∈ xs) → snapVs E S' ys ts = snapVs E S ys ts
  | [], [], _ => rfl
  | [], _ :: _, _ => rfl
  | _ :: _, [], _ => rfl
  | y :: ys, t :: ts, hy => by simp only [snapVs]; rw [snapV_congr ho, h.sv (hy y (by simp)), snapVs_congr ho h fun z hz => hy z (by simp [hz])]
theorem flatKeys_congr (ho : S'.o = S.o) {xs : List Operand} (h : Agree S S' xs) : ∀ {ys : List Operand}, (∀ y ∈ ys, y ∈ xs) → (ys.flatMap fun x => keysV S' (S'.sv x)) = ys.flatMap fun x => keysV S (S.sv x)
  | [], _ => rfl
  | y :: ys, hy => by
    have e := flatKeys_congr ho h (ys := ys) fun z hz => hy z (by simp [hz])
    simp only [List.flatMap_cons]
    rw [e, keysV_congr ho, h.sv (hy y (by simp))]
theorem callInfo_congr (ho : S'.o = S.o) {c : Call} (h : Agree S S' c.operands.toList) : callInfo E S' c = callInfo E S c := by
  obtain ⟨callee, args, tys⟩ := c
  have ha : ∀ y ∈ args.toList, y ∈ (Call.operands ⟨callee, args, tys⟩).toList := fun y hy => by
    simp only [Call.operands, Array.toList_append, List.mem_append]; exact .inr hy
  have h2 : snapRs E S' = snapRs E S := by funext a; exact snapRs_congr ho a
  unfold callInfo
  cases callee with
  | value x =>
    have hx : x ∈ (Call.operands ⟨.value x, args, tys⟩).toList := by simp [Call.operands]
    simp only
    rw [h.sv hx, h.sc hx, snapVs_congr ho h ha, flatKeys_congr ho h ha, h.argsC ha, h2, keysR_congr ho]
  | invoke r m => rfl
  | builtin b => rfl
theorem icallInfo_congr {c : Call} (h : Agree S S' c.operands.toList) : icallInfo S' c = icallInfo S c := by
  obtain ⟨callee, args, tys⟩ := c
  have ha : ∀ y ∈ args.toList, y ∈ (Call.operands ⟨callee, args, tys⟩).toList := fun y hy => by
    simp only [Call.operands, Array.toList_append, List.mem_append]; exact .inr hy
  unfold icallInfo
  cases callee with
  | value x =>
    have hx : x ∈ (Call.operands ⟨.value x, args, tys⟩).toList := by simp [Call.operands]
    simp only
    rw [h.sv hx, h.sc hx, h.svs ha, h.argsC ha]
  | invoke r m => rfl
  | builtin b => rfl

theorem opF_congr (ho : S'.o = S.o) {op : Op} (h : Agree S S' op.operands.toList) : opF S' op = opF S op := by
  have hl : lenF S' = lenF S := by funext q; unfold lenF; rfl
  cases op <;> (try rfl)
  rename_i c
  obtain ⟨callee, args, tys⟩ := c
  have ha : ∀ y ∈ args.toList, y ∈ (Call.operands ⟨callee, args, tys⟩).toList := fun y hy => by
    simp only [Call.operands, Array.toList_append, List.mem_append]; exact .inr hy
  simp only [opF, hl]
  split
  · rename_i x hx
    rw [h.sv (ha x (by rw [hx]; simp))]
  · rfl
theorem rep1_congr (ho : S'.o = S.o) {o : Oper} {g : Bool} (h : Agree S S' o.op.operands.toList) : rep1 E S' o g = rep1 E S o g := by
  unfold rep1
  split
  · rw [pureOp_congr (.inl ho) h, ho]
  · rw [pureOp_congr (.inl ho) h, ho, opF_congr ho h]
  · rw [litOp_congr h, ho]
  · rw [effOp_congr ho h]
  · cases hop : callOf o.op with
    | none => rfl
    | some c =>
      have hc : o.op = .call c := by
        unfold callOf at hop
        split at hop
        · rename_i hq; rw [hq]; simpa using hop
        · cases hop
      rw [hc] at h
      simp only [Op.operands] at h
      simp only [Option.bind_some]
      rw [icallInfo_congr h, callInfo_congr ho h, ho]
      have : ∀ ci con, callRep E S' o g ci con = callRep E S o g ci con := fun ci con => by unfold callRep; rw [ho]
      simp only [this]

theorem wantedP_congr {ops : Array Oper} {o : Oper} (h : ∀ t ∈ o.looksAt ops, S'.t t = S.t t) : wantedP ops S' o = wantedP ops S o := by
  unfold wantedP
  split
  · rfl
  · rename_i j want he
    split
    · rename_i d hd
      rw [h d]
      simp only [Oper.looksAt, he, List.mem_append]
      exact .inr (by simpa using hd)
    · rfl

theorem Agree.of_looks {ops : Array Oper} {o : Oper} (h : ∀ t ∈ o.looksAt ops, S'.t t = S.t t) : Agree S S' o.op.operands.toList := by
  intro x hx
  cases x with
  | tmp t =>
    exact h t (by simp only [Oper.looksAt, List.mem_append, List.mem_filterMap]; exact .inl ⟨.tmp t, hx, rfl⟩)
  | _ => rfl

theorem rep_congr (ho : S'.o = S.o) {ops : Array Oper} {o : Oper} (h : ∀ t ∈ o.looksAt ops, S'.t t = S.t t) : rep E ops S' o = rep E ops S o := by
  unfold rep
  rw [wantedP_congr h]
  congr 1
  funext g
  exact rep1_congr ho (.of_looks h)

/-- An operation that looks at no object: its step is the same whatever the objects, and leaves them. -/
theorem rep_congr0 {ops : Array Oper} {o : Oper} (h0 : cls E o = 0) (h : ∀ t ∈ o.looksAt ops, S'.t t = S.t t) {r : SR} (hr : rep E ops S o = some r) :
    ∃ f : PV, r = ⟨r.vc, fun p o' => p = f ∧ o' = S.o⟩ ∧ rep E ops S' o = some ⟨r.vc, fun p o' => p = f ∧ o' = S'.o⟩ := by
  unfold rep at hr ⊢
  rw [wantedP_congr h]
  obtain ⟨g, hg, h1⟩ := Option.bind_eq_some_iff.1 hr
  rw [hg]
  simp only [Option.bind_some]
  have hag := Agree.of_looks h
  unfold rep1 at h1 ⊢
  unfold cls at h0
  split at h1
  · rename_i hk
    rw [hk] at h0
    simp only at h0
    obtain ⟨⟨c, p⟩, h2, rfl⟩ := Option.map_eq_some_iff.1 h1
    have hno : noObj o.op = true := by
      revert h0
      cases o.op <;> simp [noObj]
    refine ⟨gopt o g p, rfl, ?_⟩
    rw [pureOp_congr (.inr hno) hag, h2]
    rfl
  · rename_i hk; rw [hk] at h0; simp at h0
  · obtain ⟨⟨c, p⟩, h2, rfl⟩ := Option.map_eq_some_iff.1 h1
    refine ⟨gopt o g p, rfl, ?_⟩
    rw [litOp_congr hag, h2]
    rfl
  · rename_i hk; rw [hk] at h0; simp at h0
  · rename_i hk
    rw [hk] at h0
    simp only at h0
    split at h0
    · split at h0
      · split at h0
        · split at h0 <;> simp at h0
        · simp at h0
      · simp at h0
    · simp at h0

/-- An operation that only looks at objects leaves them. -/
theorem rep_keeps1 {ops : Array Oper} {o : Oper} (h1 : cls E o ≤ 1) {r : SR} (hr : rep E ops S o = some r) : ∃ q : PV → Prop, r = ⟨r.vc, fun p o' => q p ∧ o' = S.o⟩ := by
  unfold rep at hr
  obtain ⟨g, hg, h2⟩ := Option.bind_eq_some_iff.1 hr
  unfold rep1 at h2
  unfold cls at h1
  split at h2
  · obtain ⟨⟨c, p⟩, h3, rfl⟩ := Option.map_eq_some_iff.1 h2
    exact ⟨fun x => x = gopt o g p, rfl⟩
  · rename_i hk; rw [hk] at h1; simp at h1
  · obtain ⟨⟨c, p⟩, h3, rfl⟩ := Option.map_eq_some_iff.1 h2
    exact ⟨fun x => x = gopt o g p, rfl⟩
  · rename_i hk; rw [hk] at h1; simp at h1
  · rename_i hk
    rw [hk] at h1
    simp only at h1
    split at h1
    · rename_i c hop
      split at h1
      · rename_i f hcal
        split at h1
        · rename_i con hic hcon
          split at h1
          · rename_i hf
            obtain ⟨c', hc', h3⟩ := Option.bind_eq_some_iff.1 h2
            have : c' = c := by rw [hop] at hc'; simpa [callOf] using hc'.symm
            subst this
            obtain ⟨ic, hi, h4⟩ := Option.bind_eq_some_iff.1 h3
            have hf1 : ic.1 = f := by
              unfold icallInfo at hi
              rw [hcal] at hi
              simp only [St.sv, St.ev, strip, Option.some.injEq] at hi
              rw [← hi]
            rw [hf1, hic] at h4
            simp only at h4
            obtain ⟨ci, h5, h6⟩ := Option.bind_eq_some_iff.1 h4
            obtain ⟨con', h7, rfl⟩ := Option.map_eq_some_iff.1 h6
            have hf2 : ci.f = f := by
              unfold callInfo at h5
              rw [hcal] at h5
              simp only [St.sv, St.ev, strip] at h5
              obtain ⟨ds, _, rfl⟩ := Option.map_eq_some_iff.1 h5
              rfl
            rw [hf2, hcon] at h7
            simp only [Option.some.injEq] at h7
            subst h7
            unfold callRep
            rw [if_pos hf]
            refine ⟨fun p => ∃ rs, ((g = true ∨ ∃ rs', con.post ci.ds rs') → con.post ci.ds rs) ∧ p = gopt o g (packP (rs.map RV.flatP)), ?_⟩
            simp only [SR.mk.injEq, true_and]
            funext p o'
            simp only [eq_iff_iff]
            constructor
            · rintro ⟨rs, a, b, c⟩; exact ⟨⟨rs, a, b⟩, c⟩
            · rintro ⟨⟨rs, a, b⟩, c⟩; exact ⟨rs, a, b, c⟩
          · simp at h1
        · simp at h1
      · simp at h1
    · simp at h1
end

/-- A step that may be taken leaves something. -/
theorem rep_some {E : Env} (hE : EnvOk E) {S : St} {ops : Array Oper} {o : Oper} (h2' : cls E o ≤ 2) {r : SR} (hr : rep E ops S o = some r) (hc : r.vc) : ∃ p o', r.post p o' := by
  unfold rep at hr
  obtain ⟨g, hg, h2⟩ := Option.bind_eq_some_iff.1 hr
  unfold rep1 at h2
  split at h2
  · obtain ⟨⟨c, p⟩, h3, rfl⟩ := Option.map_eq_some_iff.1 h2
    exact ⟨_, _, rfl, rfl⟩
  · rename_i hk; unfold cls at h2'; rw [hk] at h2'; simp at h2'
  · obtain ⟨⟨c, p⟩, h3, rfl⟩ := Option.map_eq_some_iff.1 h2
    exact ⟨_, _, rfl, rfl⟩
  · obtain ⟨⟨c, p, o'⟩, h3, rfl⟩ := Option.map_eq_some_iff.1 h2
    exact ⟨_, _, rfl, rfl⟩
  · obtain ⟨c, hc', h3⟩ := Option.bind_eq_some_iff.1 h2
    obtain ⟨ic, hi, h4⟩ := Option.bind_eq_some_iff.1 h3
    split at h4
    · rename_i con hcon
      simp only [Option.some.injEq] at h4
      subst h4
      obtain ⟨o', p, hp⟩ := (hE.icon _ _ hcon).2.some _ _ hc.2.2
      exact ⟨p, o', hp⟩
    · obtain ⟨ci, h5, h6⟩ := Option.bind_eq_some_iff.1 h4
      obtain ⟨con, h7, rfl⟩ := Option.map_eq_some_iff.1 h6
      have hok := (hE.con _ _ h7).2
      unfold callRep at hc ⊢
      split at hc
      · rename_i hf
        cases g with
        | false =>
          rw [if_pos hf]
          by_cases he : ∃ rs', con.post ci.ds rs'
          · obtain ⟨rs, hrs⟩ := he; exact ⟨_, _, rs, fun _ => hrs, rfl, rfl⟩
          · exact ⟨_, _, [], fun h => absurd (h.resolve_left (by simp)) he, rfl, rfl⟩
        | true =>
          obtain ⟨rs, hrs⟩ := hok.some _ (hc rfl).2
          rw [if_pos hf]
          exact ⟨_, _, rs, fun _ => hrs, rfl, rfl⟩
      · rename_i hf
        rw [if_neg hf]
        split at hc
        · rename_i d hd
          obtain ⟨rs, hrs⟩ := hok.some _ hc.2.2
          simp only [hd]
          exact ⟨_, _, rs, hrs, rfl, rfl⟩
        · rename_i hd
          obtain ⟨rs, hrs⟩ := hok.some _ hc.2.2
          simp only [hd]
          exact ⟨_, _, rs, hrs, rfl, rfl⟩
end Go.Proofs.Ytomnjbebgfadoaa.Pi
