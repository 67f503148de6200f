/- Equations by which walks are simplified.
   Conditions: none; lemmas. -/
import Derived.Test.YtomnjbebgfadoaaPiT
set_option linter.unusedVariables false
set_option linter.unusedSimpArgs false
namespace Go.Proofs.Ytomnjbebgfadoaa.Pi
open Go Go.RowKit

section
variable (E : Env) (f g n : Nat) (c : Con) (ic : ICon) (own : Nat → Bool) (key : Nat → Nat) (fact : Nat → Bool)
theorem at_ty : (E.at n own key fact).ty = E.ty := rfl
theorem at_con : (E.at n own key fact).con = E.con := rfl
theorem at_icon : (E.at n own key fact).icon = E.icon := rfl
theorem at_own : (E.at n own key fact).own = own := rfl
theorem at_key : (E.at n own key fact).key = key := rfl
theorem at_n : (E.at n own key fact).n = n := rfl
theorem add_ty : (E.add f c).ty = E.ty := rfl
theorem add_con : (E.add f c).con g = if g = f then some c else E.con g := rfl
theorem add_icon : (E.add f c).icon = E.icon := rfl
theorem iadd_ty : (E.iadd f ic).ty = E.ty := rfl
theorem iadd_con : (E.iadd f ic).con = E.con := rfl
theorem iadd_icon : (E.iadd f ic).icon g = if g = f then some ic else E.icon g := rfl
end
def upd (t : Nat → PV) (d : Nat) (p : PV) : Nat → PV := fun k => if k = d then p else t k
theorem upd_apply (t : Nat → PV) (d : Nat) (p : PV) (k : Nat) : upd t d p k = if k = d then p else t k := rfl
def startL : Nat → List PV → Nat → PV
  | _, [] => fun _ => .un
  | k, p :: ps => upd (startL (k + 1) ps) k p
section
variable (S : St) (d k : Nat) (p : PV) (o' : Objs)
theorem after_some : S.after (some d) p o' = ⟨upd S.t d p, o'⟩ := rfl
theorem after_none : S.after none p o' = ⟨S.t, o'⟩ := rfl
theorem ev_tmp : S.ev (.tmp k) = S.t k := rfl
theorem ev_int (kk : IntKind) (m : Int) : S.ev (.const (.int kk m)) = .d (.int kk m) := rfl
theorem ev_bool (b : Bool) : S.ev (.const (.bool b)) = .d (.bool b) := rfl
theorem ev_str (b : ByteArray) : S.ev (.const (.string b)) = if b.size ≤ maxLen then .d (.str b) else .un := rfl
theorem ev_nils : S.ev (.const (.slice none 0 0)) = .nils := rfl
theorem ev_func : S.ev (.func k) = .d (.fn k []) := rfl
end
theorem imp_eq {α : Sort _} {a : α} {P : α → Prop} : (∀ x, x = a → P x) = P a := by
  apply propext; constructor
  · intro h; exact h a rfl
  · rintro h x rfl; exact h
theorem post_eq {a : PV} {b : Objs} {K : PV → Objs → Prop} : (∀ p o', (p = a ∧ o' = b) → K p o') = K a b := by
  apply propext; constructor
  · intro h; exact h a b ⟨rfl, rfl⟩
  · rintro h p o' ⟨rfl, rfl⟩; exact h
theorem post_ex {R : List RV → Prop} {a : List RV → PV} {b : List RV → Objs} {K : PV → Objs → Prop} : (∀ p o', (∃ rs, R rs ∧ p = a rs ∧ o' = b rs) → K p o') = ∀ rs, R rs → K (a rs) (b rs) := by
  apply propext; constructor
  · intro h rs hr; exact h _ _ ⟨rs, hr, rfl, rfl⟩
  · rintro h p o' ⟨rs, hr, rfl, rfl⟩; exact h rs hr
theorem startL_apply : ∀ (ps : List PV) (k n : Nat), k ≤ n → startL k ps n = ps.getD (n - k) .un
  | [], k, n, h => by simp [startL]
  | p :: ps, k, n, h => by
    simp only [startL, upd]
    split
    · rename_i e; subst e; simp
    · rename_i e
      rw [startL_apply ps (k + 1) n (by omega)]
      obtain ⟨m, hm⟩ : ∃ m, n - k = m + 1 := ⟨n - k - 1, by omega⟩
      rw [hm, show n - (k + 1) = m by omega]
      simp
theorem startP_eq (ps : List PV) (o : Objs) : startP ps o = ⟨startL 0 ps, o⟩ := by
  unfold startP
  congr 1
  funext k
  rw [startL_apply ps 0 k (Nat.zero_le k)]
  simp
section
variable {E : Env} {Q : PEx → St → Prop} {S : St}
theorem run_skip : run E .skip Q S = Q .normal S := rfl
theorem run_region {id : Nat} {ops : Array Oper} {draw : Bool} : run E (.region id ops draw) Q S = opsK E ops ops.toList Q S := rfl
theorem run_seq {x y : Code} : run E (.seq x y) Q S = run E x (seqK (run E y Q) Q) S := rfl
theorem run_cond {c : Operand} {x y : Code} : run E (.cond c x y) Q S = condK (run E x Q) (run E y Q) S (S.ev c) := rfl
theorem run_block {id : Nat} {x : Code} : run E (.block id x) Q S = run E x (blkK id Q) S := rfl
theorem run_exit {id : Nat} : run E (.exit id) Q S = Q (.exit id) S := rfl
theorem run_ret : run E .ret Q S = Q .ret S := rfl
theorem run_loop {x : Code} : run E (.loop x) Q S = pwp E (.loop x) Q S := rfl
theorem opsK_nil {ops : Array Oper} : opsK E ops [] Q S = Q .normal S := rfl
theorem opsK_cons {ops : Array Oper} {o : Oper} {rest : List Oper} : opsK E ops (o :: rest) Q S = runOne (rep E ops S o) o.dst S (opsK E ops rest Q) := rfl
theorem seqK_normal {K : St → Prop} : seqK K Q .normal S = K S := rfl
theorem seqK_exit {K : St → Prop} {id : Nat} : seqK K Q (.exit id) S = Q (.exit id) S := rfl
theorem seqK_ret {K : St → Prop} : seqK K Q .ret S = Q .ret S := rfl
theorem blkK_normal {id : Nat} : blkK id Q .normal S = Q .normal S := rfl
theorem blkK_exit {id id' : Nat} : blkK id Q (.exit id') S = if id' = id then Q .normal S else Q (.exit id') S := rfl
theorem blkK_ret {id : Nat} : blkK id Q .ret S = Q .ret S := rfl
theorem loopK_normal {n : Nat} {I : Nat → St → Prop} : loopK n I Q .normal S = ∃ S0, Ghost S S0 ∧ ∃ m, m < n ∧ I m S0 := rfl
theorem loopK_exit {n : Nat} {I : Nat → St → Prop} {id : Nat} : loopK n I Q (.exit id) S = Q (.exit id) S := rfl
theorem loopK_ret {n : Nat} {I : Nat → St → Prop} : loopK n I Q .ret S = Q .ret S := rfl
theorem endP_ret {R : St → Prop} : endP R .ret S = R S := rfl
theorem endP_normal {R : St → Prop} : endP R .normal S = R S := rfl
theorem condK_bool {Kx Ky : St → Prop} {t : Bool} : condK Kx Ky S (.d (.bool t)) = ((t = true → Kx S) ∧ (t = false → Ky S)) := rfl
theorem condK_opt {Kx Ky : St → Prop} {g : Bool} {p : PV} : condK Kx Ky S (.opt g p) = (g = true ∧ condK Kx Ky S p) := rfl
end
/-! ### 22. How a walk ends, for simplification -/
def outL (E : Env) (S : St) (ms : List RM) (ps : List PV) (post : List RV → Prop) : Option (List RV) → Prop
  | some rvs => sepB S ms ps = true ∧ post rvs
  | none => False
def outM (E : Env) (S : St) (ms : List RM) (post : List RV → Prop) : Option (Prop × List PV) → Prop
  | some x => x.1 ∧ outL E S ms x.2 post (rvsOf E S ms x.2)
  | none => False
def outK (E : Env) (ms : List RM) (rs : List ResultVar) (post : List RV → Prop) (S : St) : Prop := outM E S ms post (resPs E S rs)
theorem outRes_of {E : Env} {ms : List RM} {rs : List ResultVar} {post : List RV → Prop} {S : St} (h : outK E ms rs post S) : outRes E ms rs post S := by
  unfold outK outM at h
  split at h
  · rename_i x hx
    obtain ⟨h1, h2⟩ := h
    unfold outL at h2
    split at h2
    · rename_i rvs hr
      exact ⟨x, hx, h1, rvs, hr, h2.1, h2.2⟩
    · exact h2.elim
  · exact h.elim
def ioutM (S : St) (post : Objs → PV → Prop) : Option (Prop × List PV) → Prop
  | some x => x.1 ∧ post S.o (packP x.2)
  | none => False
def ioutK (E : Env) (rs : List ResultVar) (post : Objs → PV → Prop) (S : St) : Prop := ioutM S post (resPs E S rs)
theorem ioutRes_of {E : Env} {rs : List ResultVar} {post : Objs → PV → Prop} {S : St} (h : ioutK E rs post S) : ∃ x, resPs E S rs = some x ∧ x.1 ∧ post S.o (packP x.2) := by
  unfold ioutK ioutM at h
  split at h
  · rename_i x hx; exact ⟨x, hx, h⟩
  · exact h.elim
theorem endP_mono {R R' : St → Prop} (h : ∀ S, R S → R' S) : ∀ e S, endP R e S → endP R' e S := by
  intro e S he
  cases e <;> first | exact h _ he | exact he

/-- A contract out of a walk by rules. -/
theorem con_of_run {E : Env} (hE : EnvOk E) {f : Nat} {fn : Func} {c : Code} (hf : E.P.funcs[f]? = some fn) (hb : fn.body = some c) (hn : E.n ≤ fn.ntmps) (hco : codeOk E c = true) {con : Con} {rs : List ResultVar} (hrs : fn.results = rs.toArray) (hl : rs.length ≤ 3)
    (hq3 : rs.length = 3 → rs.all (fun r => match r with | .tmp _ => true | _ => false) = true) (ms : List RM)
    (hsome : ∀ ds, con.pre ds → ∃ r, con.post ds r) (hflat : con.flat = true → ∀ ds r, con.post ds r → ∀ x ∈ r, RV.flat x = true)
    (h : ∀ ds, con.pre ds → run E c (endP (outK E ms rs (con.post ds))) (startP (ds.map .d) noObs)) : ConOk E.P f con :=
  con_of_pwp hE hf hb hn hco hrs hl hq3 ms hsome hflat fun ds hd => pwp_mono c (endP_mono fun S => outRes_of) (pwp_of_run c (h ds hd))
theorem icon_of_run {E : Env} (hE : EnvOk E) {f : Nat} {fn : Func} {c : Code} (hf : E.P.funcs[f]? = some fn) (hb : fn.body = some c) (hn : E.n ≤ fn.ntmps) (hco : codeOk E c = true) {con : ICon} {rs : List ResultVar} (hrs : fn.results = rs.toArray) (hl : rs.length ≤ 3)
    (hq3 : rs.length = 3 → rs.all (fun r => match r with | .tmp _ => true | _ => false) = true)
    (hsome : ∀ o ps, con.pre o ps → ∃ o' p, con.post o ps o' p)
    (h : ∀ o ps, con.pre o ps → run E c (endP (ioutK E rs (con.post o ps))) (startP ps o)) : IConOk E.P f con :=
  icon_of_pwp hE hf hb hn hco hrs hl hq3 hsome fun o ps hp => pwp_mono c (endP_mono fun S => ioutRes_of) (pwp_of_run c (h o ps hp))
/-! ### 23. The rules in one -/
theorem bin_add (E : Env) (k : IntKind) (t : Nat) (a b : Int) : binV E .add t (.d (.int k a)) (.d (.int k b)) = some (True, .d (.int k (k.wrap (a + b)))) := by simp [binV, ibin, wint]
theorem bin_sub (E : Env) (k : IntKind) (t : Nat) (a b : Int) : binV E .sub t (.d (.int k a)) (.d (.int k b)) = some (True, .d (.int k (k.wrap (a - b)))) := by simp [binV, ibin, wint]
theorem bin_mul (E : Env) (k : IntKind) (t : Nat) (a b : Int) : binV E .mul t (.d (.int k a)) (.d (.int k b)) = some (True, .d (.int k (k.wrap (a * b)))) := by simp [binV, ibin, wint]
theorem bin_quo (E : Env) (k : IntKind) (t : Nat) (a b : Int) : binV E .quo t (.d (.int k a)) (.d (.int k b)) = some (b ≠ 0, .d (.int k (k.wrap (a.tdiv b)))) := by simp [binV, ibin, wint]
theorem bin_rem (E : Env) (k : IntKind) (t : Nat) (a b : Int) : binV E .rem t (.d (.int k a)) (.d (.int k b)) = some (b ≠ 0, .d (.int k (a.tmod b))) := by simp [binV, ibin, wint]
theorem bin_eql (E : Env) (k : IntKind) (t : Nat) (a b : Int) : binV E .eql t (.d (.int k a)) (.d (.int k b)) = some (True, .d (.bool (a == b))) := by simp [binV, ibin]
theorem bin_neq (E : Env) (k : IntKind) (t : Nat) (a b : Int) : binV E .neq t (.d (.int k a)) (.d (.int k b)) = some (True, .d (.bool (a != b))) := by simp [binV, ibin]
theorem bin_lss (E : Env) (k : IntKind) (t : Nat) (a b : Int) : binV E .lss t (.d (.int k a)) (.d (.int k b)) = some (True, .d (.bool (decide (a < b)))) := by simp [binV, ibin]
theorem bin_leq (E : Env) (k : IntKind) (t : Nat) (a b : Int) : binV E .leq t (.d (.int k a)) (.d (.int k b)) = some (True, .d (.bool (decide (a ≤ b)))) := by simp [binV, ibin]
theorem bin_gtr (E : Env) (k : IntKind) (t : Nat) (a b : Int) : binV E .gtr t (.d (.int k a)) (.d (.int k b)) = some (True, .d (.bool (decide (a > b)))) := by simp [binV, ibin]
theorem bin_geq (E : Env) (k : IntKind) (t : Nat) (a b : Int) : binV E .geq t (.d (.int k a)) (.d (.int k b)) = some (True, .d (.bool (decide (a ≥ b)))) := by simp [binV, ibin]
theorem bin_and (E : Env) (k : IntKind) (t : Nat) (a b : Int) : binV E .and t (.d (.int k a)) (.d (.int k b)) = some (True, .d (.int k (k.wrap ((BitVec.ofInt k.bits a &&& BitVec.ofInt k.bits b).toNat)))) := by simp [binV, ibin, wint]
theorem bin_or (E : Env) (k : IntKind) (t : Nat) (a b : Int) : binV E .or t (.d (.int k a)) (.d (.int k b)) = some (True, .d (.int k (k.wrap ((BitVec.ofInt k.bits a ||| BitVec.ofInt k.bits b).toNat)))) := by simp [binV, ibin, wint]
theorem bin_xor (E : Env) (k : IntKind) (t : Nat) (a b : Int) : binV E .xor t (.d (.int k a)) (.d (.int k b)) = some (True, .d (.int k (k.wrap ((BitVec.ofInt k.bits a ^^^ BitVec.ofInt k.bits b).toNat)))) := by simp [binV, ibin, wint]
theorem bin_shl (E : Env) (k k' : IntKind) (t : Nat) (a b : Int) : binV E .shl t (.d (.int k a)) (.d (.int k' b)) = some (0 ≤ b, .d (.int k (k.wrap (a * 2 ^ (min b.toNat k.bits))))) := by simp [binV, ibin, wint]
theorem bin_shr (E : Env) (k k' : IntKind) (t : Nat) (a b : Int) : binV E .shr t (.d (.int k a)) (.d (.int k' b)) = some (0 ≤ b, .d (.int k (a.fdiv (2 ^ (min b.toNat k.bits))))) := by simp [binV, ibin]
theorem bin_str (E : Env) (op : BinOp) (t : Nat) (x y : ByteArray) : binV E op t (.d (.str x)) (.d (.str y)) = sbin op x y := rfl
theorem bin_bool (E : Env) (op : BinOp) (t : Nat) (x y : Bool) : binV E op t (.d (.bool x)) (.d (.bool y)) = (match op, E.tk t with
    | .eql, some .bool => some (True, .d (.bool (x == y)))
    | .neq, some .bool => some (True, .d (.bool !(x == y)))
    | _, _ => none) := rfl
theorem bin_agg (E : Env) (op : BinOp) (t : Nat) (xs ys : List D) : binV E op t (.d (.agg xs)) (.d (.agg ys)) = (match E.tk t with
    | some (.struct fs) => if oneCells fs 0 xs = true then
        match op, deqs xs ys with
        | .eql, some b => some (True, .d (.bool b))
        | .neq, some b => some (True, .d (.bool !b))
        | _, _ => none
      else none
    | _ => none) := rfl
theorem pick_b (t x y : Bool) (pa pb : Prop) : pickV (.d (.bool t)) (.d (.bool x)) (.d (.bool y)) pa pb = some ((t = true → pa) ∧ (t = false → pb), .d (.bool (if t then x else y))) := rfl
theorem gB_bool (b want : Bool) : gB (.d (.bool b)) want = some (b == want) := rfl
theorem gB_opt (g want : Bool) (p : PV) : gB (.opt g p) want = (gB p want).map fun r => g && r := rfl
def runOp (E : Env) (ops : Array Oper) (o : Oper) (S : St) (K : St → Prop) : Prop := runOne (rep E ops S o) o.dst S K
section
variable {E : Env} {ops : Array Oper} {S : St} {K : St → Prop} {d : Option Nat} {dd j ty : Nat} {pos : String} {af : Array Edge} {want : Bool}
theorem opsK_op {o : Oper} {rest : List Oper} {Q : PEx → St → Prop} : opsK E ops (o :: rest) Q S = runOp E ops o S (opsK E ops rest Q) := rfl
/-- A pure operation, told. -/
def pK (d : Option Nat) (S : St) (K : St → Prop) : Option Bool → PR → Prop
  | none, some r => r.1 ∧ K (S.after d r.2 S.o)
  | some g, some r => (g = true → r.1) ∧ K (S.after d (.opt g r.2) S.o)
  | _, none => False
theorem pK_none {c : Prop} {p : PV} : pK d S K none (some (c, p)) = (c ∧ K (S.after d p S.o)) := rfl
theorem pK_some {g : Bool} {c : Prop} {p : PV} : pK d S K (some g) (some (c, p)) = ((g = true → c) ∧ K (S.after d (.opt g p) S.o)) := rfl
theorem runOne_pure {r : PR} {o : Oper} (hg : o.guard = none) : runOne ((some true).bind fun g => (r.map fun r => (⟨g = true → r.1, fun p o' => p = gopt o g r.2 ∧ o' = S.o⟩ : SR))) d S K = pK d S K none r := by
  cases r with
  | none => rfl
  | some r => simp [runOne, pK, gopt, hg]
/-- The guard of an operation, told. -/
def gK (ops : Array Oper) (S : St) (j : Nat) (want : Bool) : Option Bool := match (ops[j]?).bind (·.dst) with
  | some d => gB (S.t d) want
  | none => none
def gpK (d : Option Nat) (S : St) (K : St → Prop) (r : PR) : Option Bool → Prop
  | some g => pK d S K (some g) r
  | none => False
theorem gpK_some {g : Bool} {r : PR} : gpK d S K r (some g) = pK d S K (some g) r := rfl
theorem run_pure {op : Op} (hk : kindOf E ⟨d, op, ty, pos, af, none⟩ = .pure) : runOp E ops ⟨d, op, ty, pos, af, none⟩ S K = pK d S K none (pureOp E S op) := by
  unfold runOp rep wantedP rep1
  simp only [hk]
  exact runOne_pure rfl
theorem run_gpure {op : Op} (hk : ∀ g, kindOf E ⟨d, op, ty, pos, af, g⟩ = .pure) : runOp E ops ⟨d, op, ty, pos, af, some (j, want)⟩ S K = gpK d S K (pureOp E S op) (gK ops S j want) := by
  unfold runOp rep wantedP rep1 gK gpK
  simp only [hk]
  cases h1 : (ops[j]?).bind (·.dst) with
  | none => simp [runOne]
  | some d' =>
    simp only
    cases h2 : gB (S.t d') want with
    | none => simp [runOne]
    | some g =>
      cases h3 : pureOp E S op with
      | none => simp [runOne, pK]
      | some r => simp [runOne, pK, gopt]
theorem op_move {x : Operand} : runOp E ops ⟨some dd, .move x, ty, pos, af, none⟩ S K = K ⟨upd S.t dd (S.ev x), S.o⟩ := by
  rw [run_pure rfl]; simp [pureOp, pK, St.after, St.put, upd, after_some]; rfl
theorem op_assign {x : Operand} : runOp E ops ⟨some dd, .assign x, ty, pos, af, none⟩ S K = K ⟨upd S.t dd (S.ev x), S.o⟩ := by
  rw [run_pure rfl]; simp [pureOp, pK, St.after, St.put, upd, after_some]; rfl
theorem op_gmove {x : Operand} : runOp E ops ⟨d, .move x, ty, pos, af, some (j, want)⟩ S K = gpK d S K (some (True, S.ev x)) (gK ops S j want) := run_gpure fun _ => rfl
theorem op_gassign {x : Operand} : runOp E ops ⟨d, .assign x, ty, pos, af, some (j, want)⟩ S K = gpK d S K (some (True, S.ev x)) (gK ops S j want) := run_gpure fun _ => rfl
def pmap (sc : Prop) : PR → PR
  | some r => some (sc ∧ r.1, r.2)
  | none => none
theorem pmap_some {sc c : Prop} {p : PV} : pmap sc (some (c, p)) = some (sc ∧ c, p) := rfl
theorem pmap_eq (sc : Prop) (r : PR) : (r.map fun r => (sc ∧ r.1, r.2)) = pmap sc r := by cases r <;> rfl
theorem pureOp_pick {c a b : Operand} : pureOp E S (.pick c a b) = pmap (S.sc c) (pickV (S.sv c) (S.sv a) (S.sv b) (S.sc a) (S.sc b)) := pmap_eq _ _
theorem pureOp_bin {op : BinOp} {t t' : Nat} {x y : Operand} : pureOp E S (.binOp op t x y t') = pmap (S.sc x ∧ S.sc y) (binV E op t (S.sv x) (S.sv y)) := pmap_eq _ _
theorem pureOp_un {op : UnOp} {t : Nat} {x : Operand} : pureOp E S (.unOp op t x) = pmap (S.sc x) (unV op (S.sv x)) := pmap_eq _ _
theorem pureOp_conv {t t' : Nat} {x : Operand} : pureOp E S (.convert t t' x) = pmap (S.sc x) (convV E t t' (S.sv x)) := pmap_eq _ _
theorem pureOp_ext {x : Operand} {i : Nat} : pureOp E S (.extract x i) = pmap (S.sc x) (extV i (S.sv x)) := pmap_eq _ _
theorem pureOp_load {t : Nat} {x : Operand} : pureOp E S (.load t x) = pmap (S.sc x) (loadV E S t (S.sv x)) := pmap_eq _ _
theorem pureOp_fa {t f : Nat} {x : Operand} : pureOp E S (.fieldAddr t x f) = pmap (S.sc x) (fieldAddrV E t f (S.sv x)) := pmap_eq _ _
theorem pureOp_f {t f : Nat} {x : Operand} : pureOp E S (.field t x f) = pmap (S.sc x) (fieldV E t f (S.sv x)) := pmap_eq _ _
theorem pureOp_ia {t : Nat} {x i : Operand} : pureOp E S (.indexAddr t x i) = pmap (S.sc x ∧ S.sc i) (indexAddrV E t (S.sv x) (S.sv i)) := pmap_eq _ _
theorem pureOp_i {t : Nat} {x i : Operand} : pureOp E S (.index t x i) = pmap (S.sc x ∧ S.sc i) (indexV E t (S.sv x) (S.sv i)) := pmap_eq _ _
theorem pureOp_build {t : Nat} {ps : Array (Nat × Operand)} : pureOp E S (.build t ps) = pmap (argsC S (ps.toList.map (·.2))) (buildV E t (ps.toList.map fun p => (p.1, S.sv p.2))) := pmap_eq _ _
theorem pureOp_lookup {t : Nat} {x i : Operand} {b : Bool} : pureOp E S (.lookup t x i b) = pmap (S.sc x ∧ S.sc i) (lookupV E S t b (S.sv x) (S.sv i)) := pmap_eq _ _
theorem pureOp_nilCheck {x : Operand} : pureOp E S (.nilCheck x) = pmap (S.sc x) (nilCheckV (S.sv x)) := pmap_eq _ _
theorem pureOp_slice {t : Nat} {x : Operand} {lo hi : Option Operand} : pureOp E S (.slice t x lo hi none) = pmap (argsC S (x :: (lo.toList ++ hi.toList))) (sliceV E t (S.sv x) (lo.map S.sv) (hi.map S.sv)) := pmap_eq _ _
theorem pureOp_makeFunc {f : Fn} {first caps : Array Operand} : pureOp E S (.makeFunc f first caps) = pmap (argsC S caps.toList) (makeFuncV f first.toList (caps.toList.map S.sv)) := pmap_eq _ _
theorem op_lookup {t : Nat} {x i : Operand} {b : Bool} : runOp E ops ⟨d, .lookup t x i b, ty, pos, af, none⟩ S K = pK d S K none (pmap (S.sc x ∧ S.sc i) (lookupV E S t b (S.sv x) (S.sv i))) := by rw [run_pure rfl, pureOp_lookup]
theorem op_nilCheck {x : Operand} : runOp E ops ⟨d, .nilCheck x, ty, pos, af, none⟩ S K = pK d S K none (pmap (S.sc x) (nilCheckV (S.sv x))) := by rw [run_pure rfl, pureOp_nilCheck]
theorem op_slice {t : Nat} {x : Operand} {lo hi : Option Operand} : runOp E ops ⟨d, .slice t x lo hi none, ty, pos, af, none⟩ S K = pK d S K none (pmap (argsC S (x :: (lo.toList ++ hi.toList))) (sliceV E t (S.sv x) (lo.map S.sv) (hi.map S.sv))) := by rw [run_pure rfl, pureOp_slice]
theorem op_makeFunc {f : Fn} {first caps : Array Operand} : runOp E ops ⟨d, .makeFunc f first caps, ty, pos, af, none⟩ S K = pK d S K none (pmap (argsC S caps.toList) (makeFuncV f first.toList (caps.toList.map S.sv))) := by rw [run_pure rfl, pureOp_makeFunc]
theorem op_glookup {t : Nat} {x i : Operand} {b : Bool} : runOp E ops ⟨d, .lookup t x i b, ty, pos, af, some (j, want)⟩ S K = gpK d S K (pmap (S.sc x ∧ S.sc i) (lookupV E S t b (S.sv x) (S.sv i))) (gK ops S j want) := by rw [run_gpure fun _ => rfl, pureOp_lookup]
theorem op_gnilCheck {x : Operand} : runOp E ops ⟨d, .nilCheck x, ty, pos, af, some (j, want)⟩ S K = gpK d S K (pmap (S.sc x) (nilCheckV (S.sv x))) (gK ops S j want) := by rw [run_gpure fun _ => rfl, pureOp_nilCheck]
theorem op_gslice {t : Nat} {x : Operand} {lo hi : Option Operand} : runOp E ops ⟨d, .slice t x lo hi none, ty, pos, af, some (j, want)⟩ S K = gpK d S K (pmap (argsC S (x :: (lo.toList ++ hi.toList))) (sliceV E t (S.sv x) (lo.map S.sv) (hi.map S.sv))) (gK ops S j want) := by rw [run_gpure fun _ => rfl, pureOp_slice]
theorem op_pick {c a b : Operand} : runOp E ops ⟨d, .pick c a b, ty, pos, af, none⟩ S K = pK d S K none (pmap (S.sc c) (pickV (S.sv c) (S.sv a) (S.sv b) (S.sc a) (S.sc b))) := by rw [run_pure rfl, pureOp_pick]
theorem op_bin {op : BinOp} {t t' : Nat} {x y : Operand} : runOp E ops ⟨d, .binOp op t x y t', ty, pos, af, none⟩ S K = pK d S K none (pmap (S.sc x ∧ S.sc y) (binV E op t (S.sv x) (S.sv y))) := by rw [run_pure rfl, pureOp_bin]
theorem op_un {op : UnOp} {t : Nat} {x : Operand} : runOp E ops ⟨d, .unOp op t x, ty, pos, af, none⟩ S K = pK d S K none (pmap (S.sc x) (unV op (S.sv x))) := by rw [run_pure rfl, pureOp_un]
theorem op_conv {t t' : Nat} {x : Operand} : runOp E ops ⟨d, .convert t t' x, ty, pos, af, none⟩ S K = pK d S K none (pmap (S.sc x) (convV E t t' (S.sv x))) := by rw [run_pure rfl, pureOp_conv]
theorem op_ext {x : Operand} {i : Nat} : runOp E ops ⟨d, .extract x i, ty, pos, af, none⟩ S K = pK d S K none (pmap (S.sc x) (extV i (S.sv x))) := by rw [run_pure rfl, pureOp_ext]
theorem op_load {t : Nat} {x : Operand} : runOp E ops ⟨d, .load t x, ty, pos, af, none⟩ S K = pK d S K none (pmap (S.sc x) (loadV E S t (S.sv x))) := by rw [run_pure rfl, pureOp_load]
theorem op_fa {t f : Nat} {x : Operand} : runOp E ops ⟨d, .fieldAddr t x f, ty, pos, af, none⟩ S K = pK d S K none (pmap (S.sc x) (fieldAddrV E t f (S.sv x))) := by rw [run_pure rfl, pureOp_fa]
theorem op_f {t f : Nat} {x : Operand} : runOp E ops ⟨d, .field t x f, ty, pos, af, none⟩ S K = pK d S K none (pmap (S.sc x) (fieldV E t f (S.sv x))) := by rw [run_pure rfl, pureOp_f]
theorem op_ia {t : Nat} {x i : Operand} : runOp E ops ⟨d, .indexAddr t x i, ty, pos, af, none⟩ S K = pK d S K none (pmap (S.sc x ∧ S.sc i) (indexAddrV E t (S.sv x) (S.sv i))) := by rw [run_pure rfl, pureOp_ia]
theorem op_i {t : Nat} {x i : Operand} : runOp E ops ⟨d, .index t x i, ty, pos, af, none⟩ S K = pK d S K none (pmap (S.sc x ∧ S.sc i) (indexV E t (S.sv x) (S.sv i))) := by rw [run_pure rfl, pureOp_i]
theorem op_build {t : Nat} {ps : Array (Nat × Operand)} : runOp E ops ⟨d, .build t ps, ty, pos, af, none⟩ S K = pK d S K none (pmap (argsC S (ps.toList.map (·.2))) (buildV E t (ps.toList.map fun p => (p.1, S.sv p.2)))) := by rw [run_pure rfl, pureOp_build]
theorem op_gpick {c a b : Operand} : runOp E ops ⟨d, .pick c a b, ty, pos, af, some (j, want)⟩ S K = gpK d S K (pmap (S.sc c) (pickV (S.sv c) (S.sv a) (S.sv b) (S.sc a) (S.sc b))) (gK ops S j want) := by rw [run_gpure fun _ => rfl, pureOp_pick]
theorem op_gbin {op : BinOp} {t t' : Nat} {x y : Operand} : runOp E ops ⟨d, .binOp op t x y t', ty, pos, af, some (j, want)⟩ S K = gpK d S K (pmap (S.sc x ∧ S.sc y) (binV E op t (S.sv x) (S.sv y))) (gK ops S j want) := by rw [run_gpure fun _ => rfl, pureOp_bin]
theorem op_gun {op : UnOp} {t : Nat} {x : Operand} : runOp E ops ⟨d, .unOp op t x, ty, pos, af, some (j, want)⟩ S K = gpK d S K (pmap (S.sc x) (unV op (S.sv x))) (gK ops S j want) := by rw [run_gpure fun _ => rfl, pureOp_un]
theorem op_gconv {t t' : Nat} {x : Operand} : runOp E ops ⟨d, .convert t t' x, ty, pos, af, some (j, want)⟩ S K = gpK d S K (pmap (S.sc x) (convV E t t' (S.sv x))) (gK ops S j want) := by rw [run_gpure fun _ => rfl, pureOp_conv]
theorem op_gext {x : Operand} {i : Nat} : runOp E ops ⟨d, .extract x i, ty, pos, af, some (j, want)⟩ S K = gpK d S K (pmap (S.sc x) (extV i (S.sv x))) (gK ops S j want) := by rw [run_gpure fun _ => rfl, pureOp_ext]
theorem op_gload {t : Nat} {x : Operand} : runOp E ops ⟨d, .load t x, ty, pos, af, some (j, want)⟩ S K = gpK d S K (pmap (S.sc x) (loadV E S t (S.sv x))) (gK ops S j want) := by rw [run_gpure fun _ => rfl, pureOp_load]
theorem op_gfa {t f : Nat} {x : Operand} : runOp E ops ⟨d, .fieldAddr t x f, ty, pos, af, some (j, want)⟩ S K = gpK d S K (pmap (S.sc x) (fieldAddrV E t f (S.sv x))) (gK ops S j want) := by rw [run_gpure fun _ => rfl, pureOp_fa]
theorem op_gf {t f : Nat} {x : Operand} : runOp E ops ⟨d, .field t x f, ty, pos, af, some (j, want)⟩ S K = gpK d S K (pmap (S.sc x) (fieldV E t f (S.sv x))) (gK ops S j want) := by rw [run_gpure fun _ => rfl, pureOp_f]
theorem op_gia {t : Nat} {x i : Operand} : runOp E ops ⟨d, .indexAddr t x i, ty, pos, af, some (j, want)⟩ S K = gpK d S K (pmap (S.sc x ∧ S.sc i) (indexAddrV E t (S.sv x) (S.sv i))) (gK ops S j want) := by rw [run_gpure fun _ => rfl, pureOp_ia]
theorem op_gi {t : Nat} {x i : Operand} : runOp E ops ⟨d, .index t x i, ty, pos, af, some (j, want)⟩ S K = gpK d S K (pmap (S.sc x ∧ S.sc i) (indexV E t (S.sv x) (S.sv i))) (gK ops S j want) := by rw [run_gpure fun _ => rfl, pureOp_i]
theorem op_gbuild {t : Nat} {ps : Array (Nat × Operand)} : runOp E ops ⟨d, .build t ps, ty, pos, af, some (j, want)⟩ S K = gpK d S K (pmap (argsC S (ps.toList.map (·.2))) (buildV E t (ps.toList.map fun p => (p.1, S.sv p.2)))) (gK ops S j want) := by rw [run_gpure fun _ => rfl, pureOp_build]
/-- len, min, max. -/
def lK0 (S : St) (K : St → Prop) (F : Prop) : Option Bool → St → Prop
  | none, S' => F → K S'
  | some g, S' => (g = true → F) → K S'
def lnK (d : Option Nat) (S : St) (K : St → Prop) (g : Option Bool) (F : Prop) (r : PR) : Prop := pK d S (lK0 S K F g) g r
theorem lnK_none {F c : Prop} {p : PV} : lnK d S K none F (some (c, p)) = (c ∧ (F → K (S.after d p S.o))) := rfl
theorem lnK_some {F c : Prop} {g : Bool} {p : PV} : lnK d S K (some g) F (some (c, p)) = ((g = true → c) ∧ ((g = true → F) → K (S.after d (.opt g p) S.o))) := rfl
def lbK (E : Env) (d : Nat) (S : St) (K : St → Prop) (g : Option Bool) (F : Prop) (r : PR) : Bool → Prop
  | true => lnK (some d) S K g F r
  | false => pK (some d) S K g r
theorem lbK_true {F : Prop} {g : Option Bool} {r : PR} : lbK E dd S K g F r true = lnK (some dd) S K g F r := rfl
theorem lbK_false {F : Prop} {g : Option Bool} {r : PR} : lbK E dd S K g F r false = pK (some dd) S K g r := rfl
def glbK (E : Env) (d : Nat) (S : St) (K : St → Prop) (F : Prop) (r : PR) : Option Bool → Prop
  | some g => lbK E d S K (some g) F r (E.fact d)
  | none => False
theorem glbK_some {F : Prop} {g : Bool} {r : PR} : glbK E dd S K F r (some g) = lbK E dd S K (some g) F r (E.fact dd) := rfl
theorem op_len {x : Operand} {t : Nat} : runOp E ops ⟨some dd, .call ⟨.builtin .len, #[x], #[t]⟩, ty, pos, af, none⟩ S K = lbK E dd S K none (lenF S (S.sv x)) (pmap (S.sc x) (lenV E S t (S.sv x))) (E.fact dd) := by
  cases hf : E.fact dd with
  | false =>
    rw [run_pure (by simp [kindOf, hf])]; exact congrArg _ (pmap_eq _ _)
  | true =>
    have hk : kindOf E ⟨some dd, .call ⟨.builtin .len, #[x], #[t]⟩, ty, pos, af, none⟩ = .len := by simp [kindOf, hf]
    unfold runOp rep wantedP rep1
    simp only [hk, Option.bind_some, lbK_true]
    have e : pureOp E S (.call ⟨.builtin .len, #[x], #[t]⟩) = pmap (S.sc x) (lenV E S t (S.sv x)) := pmap_eq _ _
    rw [e]
    cases hl : lenV E S t (S.sv x) with
    | none => rfl
    | some r =>
      simp only [pmap, Option.map_some, runOne, lnK, pK, lK0, true_implies]
      apply propext; constructor
      · rintro ⟨h1, h2⟩; exact ⟨h1, fun hF => h2 _ _ ⟨⟨rfl, rfl⟩, hF⟩⟩
      · rintro ⟨h1, h2⟩; refine ⟨h1, ?_⟩; rintro p o' ⟨⟨rfl, rfl⟩, hF⟩; exact h2 hF
theorem op_glen {x : Operand} {t : Nat} : runOp E ops ⟨some dd, .call ⟨.builtin .len, #[x], #[t]⟩, ty, pos, af, some (j, want)⟩ S K = glbK E dd S K (lenF S (S.sv x)) (pmap (S.sc x) (lenV E S t (S.sv x))) (gK ops S j want) := by
  have e : pureOp E S (.call ⟨.builtin .len, #[x], #[t]⟩) = pmap (S.sc x) (lenV E S t (S.sv x)) := pmap_eq _ _
  unfold runOp rep wantedP gK glbK
  simp only
  cases h1 : (ops[j]?).bind (·.dst) with
  | none => rfl
  | some d' =>
    simp only
    cases h2 : gB (S.t d') want with
    | none => rfl
    | some g =>
      simp only [Option.bind_some]
      unfold rep1
      cases hf : E.fact dd with
      | false =>
        have hk : kindOf E ⟨some dd, .call ⟨.builtin .len, #[x], #[t]⟩, ty, pos, af, some (j, want)⟩ = .pure := by simp [kindOf, hf]
        simp only [hk, lbK_false, e]
        cases hl : pmap (S.sc x) (lenV E S t (S.sv x)) with
        | none => rfl
        | some r =>
          simp only [Option.map_some, runOne, pK, gopt]
          apply propext; constructor
          · rintro ⟨h1, h2⟩; exact ⟨h1, h2 _ _ ⟨rfl, rfl⟩⟩
          · rintro ⟨h1, h2⟩; refine ⟨h1, ?_⟩; rintro p o' ⟨rfl, rfl⟩; exact h2
      | true =>
        have hk : kindOf E ⟨some dd, .call ⟨.builtin .len, #[x], #[t]⟩, ty, pos, af, some (j, want)⟩ = .len := by simp [kindOf, hf]
        simp only [hk, lbK_true, e]
        cases hl : pmap (S.sc x) (lenV E S t (S.sv x)) with
        | none => rfl
        | some r =>
          simp only [Option.map_some, runOne, lnK, pK, lK0, gopt]
          apply propext; constructor
          · rintro ⟨h1, h2⟩; exact ⟨h1, fun hF => h2 _ _ ⟨⟨rfl, rfl⟩, hF⟩⟩
          · rintro ⟨h1, h2⟩; refine ⟨h1, ?_⟩; rintro p o' ⟨⟨rfl, rfl⟩, hF⟩; exact h2 hF
def minK (S : St) (xs : List Operand) : Option (IntKind × List Int) → PR
  | some r => some (argsC S xs, .d (.int r.1 (minI r.2)))
  | none => none
def maxK (S : St) (xs : List Operand) : Option (IntKind × List Int) → PR
  | some r => some (argsC S xs, .d (.int r.1 (maxI r.2)))
  | none => none
theorem op_min {xs : Array Operand} {ts : Array Nat} : runOp E ops ⟨d, .call ⟨.builtin .min, xs, ts⟩, ty, pos, af, none⟩ S K = pK d S K none (minK S xs.toList (ints (xs.toList.map S.sv))) := by
  rw [run_pure rfl]
  refine congrArg _ ?_
  unfold pureOp callOp minK
  cases h : ints (xs.toList.map S.sv) <;> simp [h]
theorem op_max {xs : Array Operand} {ts : Array Nat} : runOp E ops ⟨d, .call ⟨.builtin .max, xs, ts⟩, ty, pos, af, none⟩ S K = pK d S K none (maxK S xs.toList (ints (xs.toList.map S.sv))) := by
  rw [run_pure rfl]
  refine congrArg _ ?_
  unfold pureOp callOp maxK
  cases h : ints (xs.toList.map S.sv) <;> simp [h]
end
theorem ints_1 (k : IntKind) (a : Int) : ints [.d (.int k a)] = some (k, [a]) := rfl
theorem ints_2 (k : IntKind) (a b : Int) : ints [.d (.int k a), .d (.int k b)] = some (k, [a, b]) := by simp [ints]
theorem minI_2 (a b : Int) : minI [a, b] = if b < a then b else a := rfl
theorem maxI_2 (a b : Int) : maxI [a, b] = if a < b then b else a := rfl
end Go.Proofs.Ytomnjbebgfadoaa.Pi
