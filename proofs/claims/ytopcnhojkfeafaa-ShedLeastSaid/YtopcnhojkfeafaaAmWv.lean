/- AM: walking through code: what each instruction comes to. -/
import Derived.Test.YtopcnhojkfeafaaAmWk
set_option linter.unusedSimpArgs false
set_option linter.unusedVariables false
namespace Go.Proofs.Ytopcnhojkfeafaa.Am

/-- A cell as an answer. -/
def ansC (M : Mem) (r : Option C) : Option (V × Mem) := r.map fun c => (.c c, M)
def ansV (M : Mem) (r : Option V) : Option (V × Mem) := r.map fun v => (v, M)

theorem ansC_some (M : Mem) (c : C) : ansC M (some c) = some (.c c, M) := rfl
theorem ansV_some (M : Mem) (v : V) : ansV M (some v) = some (v, M) := rfl
theorem ansC_if (M : Mem) (p : Prop) [Decidable p] (c : Option C) : ansC M (if p then c else none) = if p then ansC M c else none := by by_cases h : p <;> simp [h, ansC]
theorem ansV_if (M : Mem) (p : Prop) [Decidable p] (c : Option V) : ansV M (if p then c else none) = if p then ansV M c else none := by by_cases h : p <;> simp [h, ansV]
theorem ansC_ifn (M : Mem) (p : Prop) [Decidable p] (c : Option C) : ansC M (if p then none else c) = if p then none else ansC M c := by by_cases h : p <;> simp [h, ansC]

theorem Wi_ifn {A : Pg} {bs : Nat} {ks : List K} {Q : Ex → St → Prop} {n : Nat} {l : AL} {os : List O} {d : Option Nat} {p : Prop} [Decidable p] {a : Option (V × Mem)} : Wi A bs (if p then none else a) d os ks n l Q ↔ ¬p ∧ Wi A bs a d os ks n l Q := by
  by_cases h : p <;> simp [h, Wi_none]

theorem evX_t (n : Nat) (l : AL) (t : Nat) : evX (mk n l) (.t t) = if t < n then lk l t else .none := mk_getD n l t
theorem evX_k (tm : List V) (z : Z) : evX tm (.k z) = .c (ofZ z) := rfl
theorem evX_ka (tm : List V) (zs : List Z) : evX tm (.ka zs) = .agg (zs.map ofZ) := rfl
theorem lk_nil (n : Nat) : lk [] n = .any := rfl
theorem lk_cons (m : Nat) (v : V) (l : AL) (n : Nat) : lk ((m, v) :: l) n = if m = n then v else lk l n := rfl

section
variable (k : IntKind) (a b : Int)
theorem ev_add : evBin .add (.c (.int k a)) (.c (.int k b)) = some (.int k (k.wrap (a + b))) := by simp [evBin, evBinI]
theorem ev_sub : evBin .sub (.c (.int k a)) (.c (.int k b)) = some (.int k (k.wrap (a - b))) := by simp [evBin, evBinI]
theorem ev_mul : evBin .mul (.c (.int k a)) (.c (.int k b)) = some (.int k (k.wrap (a * b))) := by simp [evBin, evBinI]
theorem ev_quo : evBin .quo (.c (.int k a)) (.c (.int k b)) = if b = 0 then none else some (.int k (k.wrap (a.tdiv b))) := by simp [evBin, evBinI]
theorem ev_rem : evBin .rem (.c (.int k a)) (.c (.int k b)) = if b = 0 then none else some (.int k (a.tmod b)) := by simp [evBin, evBinI]
theorem ev_and : evBin .and (.c (.int k a)) (.c (.int k b)) = some (.int k (evBits .and k a b)) := by simp [evBin, evBinI]
theorem ev_or : evBin .or (.c (.int k a)) (.c (.int k b)) = some (.int k (evBits .or k a b)) := by simp [evBin, evBinI]
theorem ev_xor : evBin .xor (.c (.int k a)) (.c (.int k b)) = some (.int k (evBits .xor k a b)) := by simp [evBin, evBinI]
theorem ev_andNot : evBin .andNot (.c (.int k a)) (.c (.int k b)) = some (.int k (evBits .andNot k a b)) := by simp [evBin, evBinI]
theorem ev_eql : evBin .eql (.c (.int k a)) (.c (.int k b)) = some (.bool (decide (a = b))) := by
  simp only [evBin, evBinI, if_true, Option.some.injEq, C.bool.injEq]
  by_cases h : a = b <;> simp [h]
theorem ev_neq : evBin .neq (.c (.int k a)) (.c (.int k b)) = some (.bool (decide (a ≠ b))) := by
  simp only [evBin, evBinI, if_true, Option.some.injEq, C.bool.injEq]
  by_cases h : a = b <;> simp [h]
theorem ev_lss : evBin .lss (.c (.int k a)) (.c (.int k b)) = some (.bool (decide (a < b))) := by simp [evBin, evBinI]
theorem ev_leq : evBin .leq (.c (.int k a)) (.c (.int k b)) = some (.bool (decide (a ≤ b))) := by simp [evBin, evBinI]
theorem ev_gtr : evBin .gtr (.c (.int k a)) (.c (.int k b)) = some (.bool (decide (b < a))) := by simp [evBin, evBinI]
theorem ev_geq : evBin .geq (.c (.int k a)) (.c (.int k b)) = some (.bool (decide (b ≤ a))) := by simp [evBin, evBinI]
theorem ev_shl (k' : IntKind) : evBin .shl (.c (.int k a)) (.c (.int k' b)) = if b < 0 then none else some (.int k (k.wrap (a * 2 ^ (min b.toNat k.bits)))) := by simp [evBin, evShift]
theorem ev_shr (k' : IntKind) : evBin .shr (.c (.int k a)) (.c (.int k' b)) = if b < 0 then none else some (.int k (a.fdiv (2 ^ (min b.toNat k.bits)))) := by simp [evBin, evShift]
end
theorem eqCs_nil : eqCs [] [] = some true := rfl
theorem eqCs_int (k : IntKind) (a b : Int) (as bs : List C) : eqCs (.int k a :: as) (.int k b :: bs) = (eqCs as bs).map fun r => decide (a = b) && r := by
  simp only [eqCs, eqC, if_true]
  by_cases h : a = b
  · subst h; simp
  · have e : (a == b) = false := by simpa using h
    rw [e]
    simp only [h, decide_false, Bool.false_and]
    cases eqCs as bs <;> rfl
theorem ev_eqa (n : Nat) (as bs : List C) : evBin (.eqa n) (.agg as) (.agg bs) = if as.length = n ∧ bs.length = n then (eqCs as bs).map .bool else none := rfl
theorem ev_nea (n : Nat) (as bs : List C) : evBin (.nea n) (.agg as) (.agg bs) = if as.length = n ∧ bs.length = n then (eqCs as bs).map fun x => .bool (!x) else none := rfl
theorem ev_eqb (a b : Bool) : evBin .eqb (.c (.bool a)) (.c (.bool b)) = some (.bool (a == b)) := rfl
theorem ev_neb (a b : Bool) : evBin .neb (.c (.bool a)) (.c (.bool b)) = some (.bool (a != b)) := rfl
theorem ev_eqp1 : evBin .eqp (.c .nilptr) (.c .nilptr) = some (.bool true) := rfl
theorem ev_eqp2 (n g i o : Nat) : evBin .eqp (.c (.ptr n g i o)) (.c .nilptr) = some (.bool false) := rfl
theorem ev_eqp3 (cs : List C) (o : Nat) : evBin .eqp (.c (.iptr cs o)) (.c .nilptr) = some (.bool false) := rfl
theorem ev_nep1 : evBin .nep (.c .nilptr) (.c .nilptr) = some (.bool false) := rfl
theorem ev_nep2 (n g i o : Nat) : evBin .nep (.c (.ptr n g i o)) (.c .nilptr) = some (.bool true) := rfl
theorem ev_nep3 (cs : List C) (o : Nat) : evBin .nep (.c (.iptr cs o)) (.c .nilptr) = some (.bool true) := rfl
theorem ev_not (b : Bool) : evUn .not (.c (.bool b)) = some (.bool (!b)) := rfl
theorem ev_neg (k : IntKind) (a : Int) : evUn .neg (.c (.int k a)) = some (.int k (k.wrap (0 - a))) := rfl
theorem ev_cpl (k : IntKind) (a : Int) : evUn .xor (.c (.int k a)) = some (.int k (evBits .xor k (if k.signed then -1 else k.max) a)) := rfl

def pickE (c x y : V) (M : Mem) : Option (V × Mem) :=
  match asB c with
  | some b => some (if b then x else y, M)
  | none => none
theorem pick_t (x y : V) (M : Mem) : pickE (.c (.bool true)) x y M = some (x, M) := rfl
theorem pick_f (x y : V) (M : Mem) : pickE (.c (.bool false)) x y M = some (y, M) := rfl
theorem pick_d (p : Prop) [Decidable p] (x y : V) (M : Mem) : pickE (.c (.bool (decide p))) x y M = some (if p then x else y, M) := by by_cases h : p <;> simp [pickE, asB, h]

def lenE : V → Option C := fun x => (lenV x).map fun n => .int .i64 n
theorem lenE_own (n g k o l : Nat) : lenE (.c (.own n g k o l)) = some (.int .i64 l) := rfl
theorem lenE_imm (t : Bool) (k : Nat) (xs : List (List C)) : lenE (.c (.imm t k xs)) = some (.int .i64 xs.length) := rfl
theorem lenE_nil : lenE (.c .nilsl) = some (.int .i64 0) := rfl

def ixsE (k : Nat) (x : V) (i : V) : Option C :=
  match x, asI i with
  | .c (.own n g k' off len), some i => if 0 ≤ i ∧ i < len ∧ k = k' then some (.ptr n g (off + i.toNat) 0) else none
  | .c (.imm _ k' xs), some i => if 0 ≤ i ∧ i < xs.length ∧ k = k' then some (.iptr (xs.getD i.toNat []) 0) else none
  | _, _ => none
theorem ixsE_own (k n g o l : Nat) (kk : IntKind) (i : Int) : ixsE k (.c (.own n g k o l)) (.c (.int kk i)) = if 0 ≤ i ∧ i < l then some (.ptr n g (o + i.toNat) 0) else none := by simp [ixsE, asI]
theorem ixsE_imm (k : Nat) (t : Bool) (xs : List (List C)) (kk : IntKind) (i : Int) : ixsE k (.c (.imm t k xs)) (.c (.int kk i)) = if 0 ≤ i ∧ i < xs.length then some (.iptr (xs.getD i.toNat []) 0) else none := by simp [ixsE, asI]

def ixaE (len k : Nat) (x i : V) : Option C :=
  match x, asI i with
  | .c (.ptr n g idx o), some i => if 0 ≤ i ∧ i < len then some (.ptr n g idx (o + i.toNat * k)) else none
  | .c (.iptr cs o), some i => if 0 ≤ i ∧ i < len then some (.iptr cs (o + i.toNat * k)) else none
  | _, _ => none
theorem ixaE_ptr (len k n g idx o : Nat) (kk : IntKind) (i : Int) : ixaE len k (.c (.ptr n g idx o)) (.c (.int kk i)) = if 0 ≤ i ∧ i < len then some (.ptr n g idx (o + i.toNat * k)) else none := rfl
theorem ixaE_iptr (len k : Nat) (cs : List C) (o : Nat) (kk : IntKind) (i : Int) : ixaE len k (.c (.iptr cs o)) (.c (.int kk i)) = if 0 ≤ i ∧ i < len then some (.iptr cs (o + i.toNat * k)) else none := rfl

def faE (off : Nat) : V → Option C
  | .c (.ptr n g idx o) => some (.ptr n g idx (o + off))
  | .c (.iptr cs o) => some (.iptr cs (o + off))
  | _ => none
theorem faE_ptr (off n g i o : Nat) : faE off (.c (.ptr n g i o)) = some (.ptr n g i (o + off)) := rfl
theorem faE_iptr (off : Nat) (cs : List C) (o : Nat) : faE off (.c (.iptr cs o)) = some (.iptr cs (o + off)) := rfl

def nckE : V → Option C
  | .c (.ptr n g idx off) => some (.ptr n g idx off)
  | .c (.iptr cs off) => some (.iptr cs off)
  | _ => none
theorem nckE_ptr (n g i o : Nat) : nckE (.c (.ptr n g i o)) = some (.ptr n g i o) := rfl
theorem nckE_iptr (cs : List C) (o : Nat) : nckE (.c (.iptr cs o)) = some (.iptr cs o) := rfl

/-- What is loaded. -/
def ldE (M : Mem) (g : Bool) (k : Nat) (a : V) : Option V := (cellsAt M a k).bind (mkV g)
/-- Cells taken out of cells. -/
def cutE (g : Bool) (off k : Nat) (cs : List C) : Option V := if off + k ≤ cs.length then mkV g ((cs.drop off).take k) else none
theorem ldE_iptr (M : Mem) (g : Bool) (k : Nat) (cs : List C) (o : Nat) : ldE M g k (.c (.iptr cs o)) = cutE g o k cs := by
  simp only [ldE, cellsAt, cutE]; split <;> rfl
theorem ldE_ptr {M : Mem} {n g i : Nat} {k' : Nat} {xs : List (List C)} (h : rowAt M n = some (k', g, xs)) (ag : Bool) (k o : Nat) (hi : i < xs.length) : ldE M ag k (.c (.ptr n g i o)) = cutE ag o k (xs.getD i []) := by
  simp only [ldE, cellsAt, h, if_true, cutE]
  rw [List.getElem?_eq_getElem hi, List.getD_eq_getElem?_getD, List.getElem?_eq_getElem hi]
  simp only [Option.getD_some]
  split <;> rfl

def cut1 (cs : List C) (off : Nat) : C := cs.getD off .undef
theorem cutE_one (off : Nat) (cs : List C) : cutE false off 1 cs = if off < cs.length then some (.c (cs.getD off .undef)) else none := by
  unfold cutE
  by_cases h : off < cs.length
  · rw [if_pos (by omega), if_pos h]
    have : (cs.drop off).take 1 = [cs.getD off .undef] := by
      rw [List.getD_eq_getElem?_getD, List.getElem?_eq_getElem h]
      rw [List.drop_eq_getElem_cons h]
      rfl
    rw [this]; rfl
  · rw [if_neg (by omega), if_neg h]
theorem cutE_agg (off k : Nat) (cs : List C) : cutE true off k cs = if off + k ≤ cs.length then some (.agg ((cs.drop off).take k)) else none := rfl

def fieldE (g : Bool) (off k : Nat) : V → Option V
  | .agg cs => cutE g off k cs
  | _ => none
theorem fieldE_agg (g : Bool) (off k : Nat) (cs : List C) : fieldE g off k (.agg cs) = cutE g off k cs := rfl

def indexE (g : Bool) (len k : Nat) (x i : V) : Option V :=
  match x, asI i with
  | .agg cs, some i => if 0 ≤ i ∧ i < len then cutE g (i.toNat * k) k cs else none
  | _, _ => none
theorem indexE_agg (g : Bool) (len k : Nat) (cs : List C) (kk : IntKind) (i : Int) : indexE g len k (.agg cs) (.c (.int kk i)) = if 0 ≤ i ∧ i < len then cutE g (i.toNat * k) k cs else none := rfl

def convE (k : IntKind) : V → Option C
  | .c (.int _ n) => some (.int k (k.wrap n))
  | _ => none
theorem convE_int (k k' : IntKind) (n : Int) : convE k (.c (.int k' n)) = some (.int k (k.wrap n)) := rfl

def extE (x : V) (i : Nat) : Option V :=
  match x with
  | .tup vs => vs[i]?
  | _ => none
theorem extE_tup (vs : List V) (i : Nat) : extE (.tup vs) i = vs[i]? := rfl

/-- What is stored. -/
def stE (M : Mem) (k : Nat) (a x : V) : Option Mem :=
  match x.cells with
  | some cs => if cs.length = k then storeAt M a cs else none
  | none => none
def ansM (r : Option Mem) : Option (V × Mem) := r.map fun M => (.none, M)
theorem ansM_some (M : Mem) : ansM (some M) = some (.none, M) := rfl
theorem ansM_if (p : Prop) [Decidable p] (M : Option Mem) : ansM (if p then M else none) = if p then ansM M else none := by by_cases h : p <;> simp [h, ansM]
theorem stE_c (M : Mem) (a : V) (c : C) : stE M 1 a (.c c) = storeAt M a [c] := rfl
theorem stE_agg (M : Mem) (k : Nat) (a : V) (cs : List C) : stE M k a (.agg cs) = if cs.length = k then storeAt M a cs else none := rfl
theorem storeAt_ptr {M : Mem} {n g i k' : Nat} {xs : List (List C)} (h : rowAt M n = some (k', g, xs)) (o : Nat) (new : List C) (hi : i < xs.length) : storeAt M (.c (.ptr n g i o)) new = if o + new.length ≤ (xs.getD i []).length then some (M.set n (some (.row k' g (xs.set i (splice (xs.getD i []) o new))))) else none := by
  simp only [storeAt, h, if_true]
  rw [List.getElem?_eq_getElem hi, List.getD_eq_getElem?_getD, List.getElem?_eq_getElem hi]
  rfl

/-- A new block, as an answer. -/
def newE (M : Mem) (n : Nat) (B : Nat → Blk) (f : Nat → C) : Option (V × Mem) := (setB M n B).map fun M' => (.c (f (genAt M n)), M')

def slE (k : Nat) (x : V) (lo hi : Option Nat) : Option V :=
  match lenV x with
  | some n => evSlc x k (lo.getD 0) (hi.getD n)
  | none => none

section
variable {A : Pg} {cl : Cl} {bs : Nat} {tm : List V} {M : Mem}
theorem evI_mov {x : X} : evI A cl bs tm M (.mov x) = some (evX tm x, M) := rfl
theorem evI_pick {c a b : X} : evI A cl bs tm M (.pick c a b) = pickE (evX tm c) (evX tm a) (evX tm b) M := rfl
theorem evI_bin {op : B} {x y : X} : evI A cl bs tm M (.bin op x y) = ansC M (evBin op (evX tm x) (evX tm y)) := rfl
theorem evI_un {op : U} {x : X} : evI A cl bs tm M (.un op x) = ansC M (evUn op (evX tm x)) := rfl
theorem evI_conv {k : IntKind} {x : X} : evI A cl bs tm M (.conv k x) = ansC M (convE k (evX tm x)) := by
  simp only [evI, ansC]
  cases evX tm x with
  | c c => cases c <;> rfl
  | _ => rfl
theorem evI_len {x : X} : evI A cl bs tm M (.len x) = ansC M (lenE (evX tm x)) := by simp [evI, ansC, lenE, Function.comp_def]
theorem evI_ixs {k : Nat} {x i : X} : evI A cl bs tm M (.ixs k x i) = ansC M (ixsE k (evX tm x) (evX tm i)) := by
  simp only [evI, ixsE, ansC]
  cases evX tm x with
  | c c => cases c <;> cases asI (evX tm i) <;> simp only [Option.map_none, Option.map_some] <;> split <;> rfl
  | _ => rfl
theorem evI_ixa {n k : Nat} {x i : X} : evI A cl bs tm M (.ixa n k x i) = ansC M (ixaE n k (evX tm x) (evX tm i)) := by
  simp only [evI, ixaE, ansC]
  cases evX tm x with
  | c c => cases c <;> cases asI (evX tm i) <;> simp only [Option.map_none, Option.map_some] <;> split <;> rfl
  | _ => rfl
theorem evI_faddr {o : Nat} {x : X} : evI A cl bs tm M (.faddr o x) = ansC M (faE o (evX tm x)) := by
  simp only [evI, ansC]
  cases evX tm x with
  | c c => cases c <;> rfl
  | _ => rfl
theorem evI_nilck {x : X} : evI A cl bs tm M (.nilck x) = ansC M (nckE (evX tm x)) := by
  simp only [evI, ansC]
  cases evX tm x with
  | c c => cases c <;> rfl
  | _ => rfl
theorem evI_load {g : Bool} {k : Nat} {a : X} : evI A cl bs tm M (.load g k a) = ansV M (ldE M g k (evX tm a)) := by
  simp only [evI, ansV, ldE]
  cases cellsAt M (evX tm a) k <;> rfl
theorem evI_store {k : Nat} {a x : X} : evI A cl bs tm M (.store k a x) = ansM (stE M k (evX tm a) (evX tm x)) := by
  simp only [evI, ansM, stE]
  cases (evX tm x).cells with
  | none => rfl
  | some cs => simp only; split <;> rfl
theorem evI_field {g : Bool} {o k : Nat} {x : X} : evI A cl bs tm M (.field g o k x) = ansV M (fieldE g o k (evX tm x)) := by
  simp only [evI, ansV]
  cases evX tm x with
  | agg cs => simp only [fieldE, cutE]; split <;> rfl
  | _ => rfl
theorem evI_index {g : Bool} {n k : Nat} {x i : X} : evI A cl bs tm M (.index g n k x i) = ansV M (indexE g n k (evX tm x) (evX tm i)) := by
  simp only [evI, ansV, indexE]
  cases evX tm x with
  | agg cs =>
    cases asI (evX tm i) with
    | none => rfl
    | some i =>
      simp only [cutE]
      by_cases h : 0 ≤ i ∧ i < n
      · by_cases h2 : i.toNat * k + k ≤ cs.length
        · simp [h, h2]
        · simp [h2]
      · have : ¬ (0 ≤ i ∧ i < ↑n ∧ i.toNat * k + k ≤ cs.length) := fun c => h ⟨c.1, c.2.1⟩
        simp [h, this]
  | _ => rfl
theorem evI_ext {x : X} {i : Nat} : evI A cl bs tm M (.ext x i) = ansV M (extE (evX tm x) i) := by
  simp only [evI, ansV, extE]
  cases evX tm x <;> rfl
theorem evI_call {s m : Nat} {f : Nat} {args : List X} : evI A cl bs tm M (.call s m (.k (.func f)) args) = evCall A cl (bs + s) m f (args.map (evX tm)) M := rfl
theorem evI_build {z : List Z} {ps : List (Nat × Nat × X)} : evI A cl bs tm M (.build z ps) = ansV M ((fill tm (z.map ofZ) ps).map .agg) := by simp [evI, ansV, Function.comp_def]
theorem evI_alloc {s k : Nat} {z : List Z} : evI A cl bs tm M (.alloc s k z) = newE M (bs + s) (fun g => .row k g [z.map ofZ]) (fun g => .ptr (bs + s) g 0 0) := rfl
theorem evI_app {s k : Nat} {a x : X} : evI A cl bs tm M (.app s k a x) = evApp M (bs + s) k (evX tm a) (evX tm x) := rfl
theorem evI_copy {k : Nat} {a x : X} : evI A cl bs tm M (.copy k a x) = evCopy M k (evX tm a) (evX tm x) := rfl
theorem evI_slc {k : Nat} {x : X} {lo hi : Option X} : evI A cl bs tm M (.slc k x lo hi) = match lenV (evX tm x) with
    | some n =>
      match bound tm 0 lo, bound tm n hi with
      | some l, some h => ansV M (evSlc (evX tm x) k l h)
      | _, _ => none
    | none => none := rfl
end

/-- Results. -/
def rvE : V → Option V
  | .c c => some (.c c)
  | .agg cs => some (.agg cs)
  | _ => none
theorem rvE_c (c : C) : rvE (.c c) = some (.c c) := rfl
theorem rvE_agg (cs : List C) : rvE (.agg cs) = some (.agg cs) := rfl
theorem evRV_tmp (n : Nat) (l : AL) (M : Mem) (t : Nat) : evRV (mk n l, M) (.tmp t) = rvE (evX (mk n l) (.t t)) := by
  simp only [evRV, evX]
  cases (mk n l).getD t .none <;> rfl
theorem evRV_cell (n : Nat) (l : AL) (M : Mem) (t : Nat) (g : Bool) (k : Nat) : evRV (mk n l, M) (.cell t g k) = ldE M g k (evX (mk n l) (.t t)) := by
  simp only [evRV, evX, ldE]
  cases cellsAt M ((mk n l).getD t .none) k <;> rfl
theorem evRes0 (s : St) : evRes [] s = some (.tup []) := rfl
theorem evRes1 (s : St) (a : RV) : evRes [a] s = evRV s a := by
  simp only [evRes, List.mapM_cons, List.mapM_nil]
  cases evRV s a <;> rfl
theorem evRes2 (s : St) (a b : RV) : evRes [a, b] s = (evRV s a).bind fun x => (evRV s b).bind fun y => some (.tup [x, y]) := by
  simp only [evRes, List.mapM_cons, List.mapM_nil]
  cases evRV s a with
  | none => rfl
  | some x => cases evRV s b <;> rfl
theorem evRes3 (s : St) (a b c : RV) : evRes [a, b, c] s = (evRV s a).bind fun x => (evRV s b).bind fun y => (evRV s c).bind fun z => some (.tup [x, y, z]) := by
  simp only [evRes, List.mapM_cons, List.mapM_nil]
  cases evRV s a with
  | none => rfl
  | some x => cases evRV s b with
    | none => rfl
    | some y => cases evRV s c <;> rfl

/-- What is handed back, of whatever mode. -/
def retE (md : Md) (v : V) (M : Mem) : Option (V × Mem) :=
  match md with
  | .state => some (v, M)
  | _ => if nodupB (topsV M v) then (expV M (topsV M v) v).map fun r => (r, []) else none
theorem evRet_eq (A : Pg) (f : Nat) (v : V) (M : Mem) : evRet A f v M = retE (A.md f) v M := rfl
theorem retE_state (v : V) (M : Mem) : retE .state v M = some (v, M) := rfl

/-- Cells that hold no slice, no pointer: whole numbers, bools. -/
def flat : C → Bool
  | .int .. => true
  | .bool _ => true
  | _ => false
theorem flat_int (k : IntKind) (n : Int) : flat (.int k n) = true := (rfl)
theorem flat_bool (b : Bool) : flat (.bool b) = true := (rfl)
theorem flat_tops (M : Mem) (c : C) (h : flat c = true) : topsC c = [] ∧ topsP M c = [] := by cases c <;> simp_all [flat, topsC, topsP]
theorem flat_exp (M : Mem) (l : List Nat) (c : C) (h : flat c = true) : expC M l c = some c ∧ expP M l c = some c := by cases c <;> simp_all [flat, expC, expP, frz]
theorem flat_mapM (f : C → Option C) (hf : ∀ c, flat c = true → f c = some c) : ∀ (cs : List C), cs.all flat = true → cs.mapM f = some cs
  | [], _ => rfl
  | c :: cs, h => by
    simp only [List.all_cons, Bool.and_eq_true] at h
    rw [List.mapM_cons, hf c h.1, flat_mapM f hf cs h.2]; rfl
theorem flat_flatMap (f : C → List Nat) (hf : ∀ c, flat c = true → f c = []) : ∀ (cs : List C), cs.all flat = true → cs.flatMap f = []
  | [], _ => rfl
  | c :: cs, h => by
    simp only [List.all_cons, Bool.and_eq_true] at h
    rw [List.flatMap_cons, hf c h.1, flat_flatMap f hf cs h.2]; rfl

def flatV : V → Bool
  | .c c => flat c
  | .agg cs => cs.all flat
  | .tup vs => vs.all fun v => match v with
    | .c c => flat c
    | .agg cs => cs.all flat
    | _ => false
  | _ => false

theorem flatV_c (c : C) : flatV (.c c) = flat c := (rfl)
theorem flatV_agg (cs : List C) : flatV (.agg cs) = cs.all flat := (rfl)
theorem flatV_nil : flatV (.tup []) = true := (rfl)
theorem flatV_cc (c : C) (vs : List V) : flatV (.tup (.c c :: vs)) = (flat c && flatV (.tup vs)) := (rfl)
theorem flatV_ca (cs : List C) (vs : List V) : flatV (.tup (.agg cs :: vs)) = (cs.all flat && flatV (.tup vs)) := (rfl)
theorem flat_ret1 (M : Mem) (l : List Nat) (v : V) (h : (match v with | .c c => flat c | .agg cs => cs.all flat | _ => false) = true) : topsV1 M v = [] ∧ expV1 M l v = some v := by
  cases v with
  | c c => simp only at h; simp [topsV1, expV1, flat_tops M c h, flat_exp M l c h]
  | agg cs =>
    simp only at h
    simp only [topsV1, expV1]
    rw [flat_flatMap topsC (fun c h => (flat_tops M c h).1) cs h, flat_mapM (expC M l) (fun c h => (flat_exp M l c h).1) cs h]
    exact ⟨rfl, rfl⟩
  | _ => simp at h

theorem retE_flat (md : Md) (v : V) (M : Mem) (hm : md ≠ .state) (h : flatV v = true) : retE md v M = some (v, []) := by
  have key : ∀ l, topsV M v = [] ∧ expV M l v = some v := by
    intro l
    cases v with
    | c c => exact flat_ret1 M l (.c c) h
    | agg cs => exact flat_ret1 M l (.agg cs) h
    | tup vs =>
      simp only [flatV] at h
      simp only [topsV, expV]
      induction vs with
      | nil => exact ⟨rfl, rfl⟩
      | cons v vs ih =>
        simp only [List.all_cons, Bool.and_eq_true] at h
        obtain ⟨h1, h2⟩ := flat_ret1 M l v h.1
        obtain ⟨h3, h4⟩ := ih h.2
        rw [List.flatMap_cons, List.mapM_cons, h1, h2, h3]
        refine ⟨rfl, ?_⟩
        obtain ⟨a, ha, hb⟩ := Option.map_eq_some_iff.1 h4
        simp only [V.tup.injEq] at hb
        subst hb
        rw [ha]; rfl
    | _ => simp [flatV] at h
  unfold retE
  obtain ⟨h1, h2⟩ := key (topsV M v)
  cases md with
  | state => exact absurd rfl hm
  | _ => simp only; rw [h2, h1]; rfl
theorem retE_pure (b : Bool) (v : V) (M : Mem) (h : flatV v = true) : retE (.pure b) v M = some (v, []) := retE_flat _ v M (by simp) h

/-- Cells that stay as they are when they are lent. -/
def still : C → Bool
  | .int .. => true
  | .bool _ => true
  | .func _ => true
  | .nilptr => true
  | .nilsl => true
  | .imm .. => true
  | _ => false
theorem still_int (k : IntKind) (n : Int) : still (.int k n) = true := (rfl)
theorem still_bool (b : Bool) : still (.bool b) = true := (rfl)
theorem still_func (b : Nat) : still (.func b) = true := (rfl)
theorem still_nilptr : still .nilptr = true := (rfl)
theorem still_nilsl : still .nilsl = true := (rfl)
theorem still_imm (t : Bool) (k : Nat) (xs : List (List C)) : still (.imm t k xs) = true := (rfl)
theorem frz_still (ok : Nat → Bool) (M : Mem) (d : Nat) (c : C) (h : still c = true) : frz true ok M (d + 1) c = some c := by
  cases c <;> simp_all [still, frz]
theorem lendV_c (M : Mem) (c : C) (h : still c = true) : lendV M (.c c) = some (.c c) := by
  cases c <;> simp_all [still, lendV, mapV, frz, depth]
theorem still_mapM (f : C → Option C) (hf : ∀ c, still c = true → f c = some c) : ∀ (cs : List C), cs.all still = true → cs.mapM f = some cs
  | [], _ => rfl
  | c :: cs, h => by
    simp only [List.all_cons, Bool.and_eq_true] at h
    rw [List.mapM_cons, hf c h.1, still_mapM f hf cs h.2]; rfl
theorem lendV_agg (M : Mem) (cs : List C) (h : cs.all still = true) : lendV M (.agg cs) = some (.agg cs) := by
  show (cs.mapM (frz true (fun _ => true) M depth)).map V.agg = _
  have := still_mapM (frz true (fun _ => true) M depth) (fun c hc => frz_still _ M 5 c hc) cs h
  rw [this]; rfl
theorem lendV_iptr (M : Mem) (cs : List C) (o : Nat) : lendV M (.c (.iptr cs o)) = some (.c (.iptr cs o)) := rfl



/-! ### Memory, block by block -/

def rowB : Option (Option Blk) → Option (Nat × Nat × List (List C))
  | some (some (.row k g xs)) => some (k, g, xs)
  | _ => none
theorem rowAt_eq (M : Mem) (n : Nat) : rowAt M n = rowB M[n]? := by
  unfold rowAt
  rw [List.getD_eq_getElem?_getD]
  cases M[n]? with
  | none => rfl
  | some B =>
    cases B with
    | none => rfl
    | some B => cases B <;> rfl
theorem rowB_row (k g : Nat) (xs : List (List C)) : rowB (some (some (.row k g xs))) = some (k, g, xs) := rfl

def newB (B0 : Option (Option Blk)) (M : Mem) (n : Nat) (B : Nat → Blk) (f : Nat → C) : Option (V × Mem) :=
  match B0 with
  | some (some .hid) => none
  | some old => some (.c (f (nextG old)), M.set n (some (B (nextG old))))
  | none => none
theorem newE_eq (M : Mem) (n : Nat) (B : Nat → Blk) (f : Nat → C) : newE M n B f = newB M[n]? M n B f := by
  unfold newE newB setB genAt
  rw [List.getD_eq_getElem?_getD]
  cases M[n]? with
  | none => rfl
  | some B =>
    cases B with
    | none => rfl
    | some B => cases B <;> rfl
theorem newB_none (M : Mem) (n : Nat) (B : Nat → Blk) (f : Nat → C) : newB (some none) M n B f = some (.c (f 0), M.set n (some (B 0))) := rfl
theorem newB_row (k g : Nat) (xs : List (List C)) (M : Mem) (n : Nat) (B : Nat → Blk) (f : Nat → C) : newB (some (some (.row k g xs))) M n B f = some (.c (f (g + 1)), M.set n (some (B (g + 1)))) := rfl

def ldB (B : Option (Option Blk)) (g i : Nat) (ag : Bool) (o k : Nat) : Option V :=
  match B with
  | some (some (.row _ g' xs)) => if g = g' ∧ i < xs.length then cutE ag o k (xs.getD i []) else none
  | _ => none
theorem ldE_eq (M : Mem) (ag : Bool) (k n g i o : Nat) : ldE M ag k (.c (.ptr n g i o)) = ldB M[n]? g i ag o k := by
  simp only [ldE, cellsAt, rowAt_eq, ldB, cutE]
  cases M[n]? with
  | none => rfl
  | some B =>
    cases B with
    | none => rfl
    | some B =>
      cases B with
      | row k' g' xs =>
        simp only [rowB]
        by_cases h : g = g'
        · by_cases h2 : i < xs.length
          · rw [if_pos h, if_pos ⟨h, h2⟩, List.getElem?_eq_getElem h2, List.getD_eq_getElem?_getD, List.getElem?_eq_getElem h2]
            simp only [Option.getD_some]
            split <;> rfl
          · rw [if_pos h, if_neg (fun c => h2 c.2), List.getElem?_eq_none (Nat.le_of_not_lt h2)]; rfl
        · rw [if_neg h, if_neg (fun c => h c.1)]; rfl
      | _ => rfl
theorem ldB_row (k' g' : Nat) (xs : List (List C)) (g i : Nat) (ag : Bool) (o k : Nat) : ldB (some (some (.row k' g' xs))) g i ag o k = if g = g' ∧ i < xs.length then cutE ag o k (xs.getD i []) else none := rfl

def stB (B : Option (Option Blk)) (M : Mem) (n g i o : Nat) (new : List C) : Option Mem :=
  match B with
  | some (some (.row k g' xs)) => if g = g' ∧ i < xs.length ∧ o + new.length ≤ (xs.getD i []).length then some (M.set n (some (.row k g' (xs.set i (splice (xs.getD i []) o new))))) else none
  | _ => none
theorem storeAt_eq (M : Mem) (n g i o : Nat) (new : List C) : storeAt M (.c (.ptr n g i o)) new = stB M[n]? M n g i o new := by
  simp only [storeAt, rowAt_eq, stB]
  cases M[n]? with
  | none => rfl
  | some B =>
    cases B with
    | none => rfl
    | some B =>
      cases B with
      | row k' g' xs =>
        simp only [rowB]
        by_cases h : g = g'
        · by_cases h2 : i < xs.length
          · rw [if_pos h, List.getElem?_eq_getElem h2, List.getD_eq_getElem?_getD, List.getElem?_eq_getElem h2]
            simp only [Option.getD_some]
            by_cases h3 : o + new.length ≤ xs[i].length
            · rw [if_pos h3, if_pos ⟨h, h2, h3⟩]
            · rw [if_neg h3, if_neg (fun c => h3 c.2.2)]
          · rw [if_pos h, if_neg (fun c => h2 c.2.1), List.getElem?_eq_none (Nat.le_of_not_lt h2)]
        · rw [if_neg h, if_neg (fun c => h c.1)]
      | _ => rfl
theorem stB_row (M : Mem) (n k g' : Nat) (xs : List (List C)) (g i o : Nat) (new : List C) : stB (some (some (.row k g' xs))) M n g i o new = if g = g' ∧ i < xs.length ∧ o + new.length ≤ (xs.getD i []).length then some (M.set n (some (.row k g' (xs.set i (splice (xs.getD i []) o new))))) else none := rfl
theorem splice2 (cs : List C) (o : Nat) (a b : C) (r : List C) : splice cs o (a :: b :: r) = cs.take o ++ a :: b :: r ++ cs.drop (o + (r.length + 1 + 1)) := rfl
theorem ldB_one (k' g' : Nat) (cs : List C) (g : Nat) (ag : Bool) (o k : Nat) : ldB (some (some (.row k' g' [cs]))) g 0 ag o k = if g = g' then cutE ag o k cs else none := by simp [ldB_row]
theorem stB_one (M : Mem) (n k g' : Nat) (cs : List C) (g o : Nat) (new : List C) : stB (some (some (.row k g' [cs]))) M n g 0 o new = if g = g' ∧ o + new.length ≤ cs.length then some (M.set n (some (.row k g' [splice cs o new]))) else none := by simp [stB_row]
theorem splice1 (cs : List C) (o : Nat) (c : C) : splice cs o [c] = cs.set o c := rfl
theorem splice_all (cs new : List C) (h : new.length = cs.length) (h1 : new.length ≠ 1) : splice cs 0 new = new := by
  unfold splice
  split
  · simp at h1
  · simp [List.drop_of_length_le (Nat.le_of_eq h.symm)]

theorem norm_false (live : List Nat) (E : Mem) (n : Nat) (l : AL) (M : Mem) : norm live false E (mk n l, M) = some (mk n (live.map fun t => (t, lk l t)), M) := by simp [norm, kill_mk]
theorem thawAll_nil (bs : Nat) (s : St) : thawAll bs s [] = s := rfl
theorem evI_box {A : Pg} {cl : Cl} {bs : Nat} {tm : List V} {M : Mem} {s k : Nat} {x : X} : evI A cl bs tm M (.box s k x) = match (evX tm x).cells with
    | some cs => if cs.length = k then newE M (bs + s) (fun g => .row k g [cs]) (fun g => .ptr (bs + s) g 0 0) else none
    | none => none := rfl
theorem evI_mksl {A : Pg} {cl : Cl} {bs : Nat} {tm : List V} {M : Mem} {s k : Nat} {z : List Z} {l c : X} : evI A cl bs tm M (.mksl s k z l c) = match evX tm l, evX tm c with
    | .c (.int .i64 l), .c (.int .i64 c) =>
      if 0 ≤ l ∧ l ≤ c ∧ c ≤ limit then newE M (bs + s) (fun g => .row k g (List.replicate l.toNat (z.map ofZ))) (fun g => .own (bs + s) g k 0 l.toNat) else none
    | _, _ => none := rfl
theorem evI_buildSl {A : Pg} {cl : Cl} {bs : Nat} {tm : List V} {M : Mem} {s k : Nat} {z : List Z} {len : Nat} {ps : List (Nat × X)} : evI A cl bs tm M (.buildSl s k z len ps) = match fillSl tm k (List.replicate len (z.map ofZ)) ps with
    | some xs => newE M (bs + s) (fun g => .row k g xs) (fun g => .own (bs + s) g k 0 len)
    | none => none := rfl
theorem cells_c (c : C) : V.cells (.c c) = some [c] := rfl
theorem cells_agg (cs : List C) : V.cells (.agg cs) = some cs := rfl

theorem seeFrom_nil (bs : Nat) (v : VS) (n : Nat) : seeFrom bs v n [] = [] := rfl
theorem seeFrom_cons (bs : Nat) (v : VS) (n : Nat) (B : Option Blk) (M : Mem) : seeFrom bs v n (B :: M) = (if v.has bs n then B else some .hid) :: seeFrom bs v (n + 1) M := rfl
theorem mergeFrom_cons (bs : Nat) (v : VS) (n : Nat) (B B' : Option Blk) (M N : Mem) : mergeFrom bs v n (B :: M) (B' :: N) = (if v.has bs n then B' else B) :: mergeFrom bs v (n + 1) M N := rfl
theorem mergeFrom_nil (bs : Nat) (v : VS) (n : Nat) (N : Mem) : mergeFrom bs v n [] N = N := rfl


/-! ### Calls -/

def backP (al : Bool) (st m : Nat) (M : Mem) : Option (V × Mem) → Option (V × Mem)
  | some (r, _) => if al then impV M st m r else if plainV r then some (r, M) else none
  | none => none
def callP (cl : Cl) (al : Bool) (st m f : Nat) (M : Mem) : Option (List V) → Option (V × Mem)
  | some vs => backP al st m M (cl f vs [])
  | none => none
def backS (m : Nat) (M : Mem) : Option (V × Mem) → Option (V × Mem)
  | some (r, M') => if m = 0 then cutM M r M' else some (r, M')
  | none => none
def callG (cl : Cl) (st m f : Nat) : Option (List V × Mem) → Option (V × Mem)
  | some (vs, M) => backP true st m M (cl f vs [])
  | none => none
def callX (cl : Cl) (st m f : Nat) (vs : List V) (M : Mem) : Md → Option (V × Mem)
  | .state => backS m M (cl f vs M)
  | .pure al => callP cl al st m f M (vs.mapM (lendV M))
  | .give => callG cl st m f (giveVs M vs)
theorem evCall_eq (A : Pg) (cl : Cl) (st m f : Nat) (vs : List V) (M : Mem) : evCall A cl st m f vs M = callX cl st m f vs M (A.md f) := by
  unfold evCall callX
  cases A.md f with
  | state =>
    simp only [backS]
    cases cl f vs M <;> rfl
  | pure al =>
    simp only
    cases vs.mapM (lendV M) with
    | none => rfl
    | some vs' => simp only [callP, backP]; cases cl f vs' [] <;> rfl
  | give =>
    simp only
    cases giveVs M vs with
    | none => rfl
    | some p => simp only [callG, backP]; cases cl f p.1 [] <;> rfl
theorem callX_state (cl : Cl) (st m f : Nat) (vs : List V) (M : Mem) : callX cl st m f vs M .state = backS m M (cl f vs M) := rfl
theorem callX_pure (cl : Cl) (st m f : Nat) (vs : List V) (M : Mem) (al : Bool) : callX cl st m f vs M (.pure al) = callP cl al st m f M (vs.mapM (lendV M)) := rfl
theorem callX_give (cl : Cl) (st m f : Nat) (vs : List V) (M : Mem) : callX cl st m f vs M .give = callG cl st m f (giveVs M vs) := rfl
theorem callP_some (cl : Cl) (al : Bool) (st m f : Nat) (M : Mem) (vs : List V) : callP cl al st m f M (some vs) = backP al st m M (cl f vs []) := rfl
theorem callG_some (cl : Cl) (st m f : Nat) (M : Mem) (vs : List V) : callG cl st m f (some (vs, M)) = backP true st m M (cl f vs []) := rfl
theorem plain_flat1 (v : V) (h : (match v with | .c c => flat c | .agg cs => cs.all flat | _ => false) = true) : plainV1 v = true := by
  cases v with
  | c c => cases c <;> simp_all [flat, plainV1, plainC]
  | agg cs =>
    simp only at h
    simp only [plainV1]
    rw [List.all_eq_true] at h ⊢
    intro c hc
    have := h c hc
    cases c <;> simp_all [flat, plainC]
  | _ => simp at h
theorem plain_flat (v : V) (h : flatV v = true) : plainV v = true := by
  cases v with
  | c c => exact plain_flat1 (.c c) h
  | agg cs => exact plain_flat1 (.agg cs) h
  | tup vs =>
    simp only [flatV, List.all_eq_true] at h
    simp only [plainV, List.all_eq_true]
    exact fun v hv => plain_flat1 v (h v hv)
  | _ => simp [flatV] at h
theorem backP_flat (st m : Nat) (M N : Mem) (r : V) (h : flatV r = true) : backP false st m M (some (r, N)) = some (r, M) := by
  simp [backP, plain_flat r h]
theorem backP_imp (st m : Nat) (M N : Mem) (r : V) : backP true st m M (some (r, N)) = impV M st m r := rfl
theorem backS_cut (M M' : Mem) (r : V) : backS 0 M (some (r, M')) = cutM M r M' := rfl
theorem cutM_same (M M' : Mem) (r : V) (h : M'.length = M.length) : cutM M r M' = some (r, M') := by
  unfold cutM
  rw [← h]
  simp
theorem backS_grow (m : Nat) (M M' : Mem) (r : V) (h : m ≠ 0) : backS m M (some (r, M')) = some (r, M') := by simp [backS, h]

def setBB (B0 : Option (Option Blk)) (M : Mem) (n : Nat) (B : Nat → Blk) : Option Mem :=
  match B0 with
  | some (some .hid) => none
  | some old => some (M.set n (some (B (nextG old))))
  | none => none
theorem setB_eq (M : Mem) (n : Nat) (B : Nat → Blk) : setB M n B = setBB M[n]? M n B := by
  unfold setB setBB
  cases M[n]? with
  | none => rfl
  | some B =>
    cases B with
    | none => rfl
    | some B => cases B <;> rfl
theorem setBB_none (M : Mem) (n : Nat) (B : Nat → Blk) : setBB (some none) M n B = some (M.set n (some (B 0))) := rfl
theorem setBB_row (k g : Nat) (xs : List (List C)) (M : Mem) (n : Nat) (B : Nat → Blk) : setBB (some (some (.row k g xs))) M n B = some (M.set n (some (B (g + 1)))) := rfl
theorem genAt_eq (M : Mem) (n : Nat) : genAt M n = nextG (M[n]?.getD none) := by
  unfold genAt; rw [List.getD_eq_getElem?_getD]
theorem nextG_none : nextG none = 0 := rfl
theorem nextG_row (k g : Nat) (xs : List (List C)) : nextG (some (.row k g xs)) = g + 1 := rfl
theorem impC_fresh (M : Mem) (st k : Nat) (xs : List (List C)) : impC M st (.fresh k xs) = (setB M st fun g => .row k g xs).map fun M' => (.own st (genAt M st) k 0 xs.length, M', st + 1) := rfl
theorem impC_still (M : Mem) (st : Nat) (c : C) (h : still c = true) : impC M st c = some (c, M, st) := by cases c <;> simp_all [still, impC]
theorem impP_still (M : Mem) (st : Nat) (c : C) (h : still c = true) : impP M st c = some (c, M, st) := by cases c <;> simp_all [still, impC, impP]
theorem impP_fptr (M : Mem) (st : Nat) (cs : List C) : impP M st (.fptr cs) = (impL M st cs).bind fun r => (setB r.2.1 r.2.2 fun g => .row cs.length g [r.1]).map fun M' => (.ptr r.2.2 (genAt r.2.1 r.2.2) 0 0, M', r.2.2 + 1) := by
  simp only [impP]
  cases impL M st cs <;> rfl
theorem impP_fresh (M : Mem) (st k : Nat) (xs : List (List C)) : impP M st (.fresh k xs) = impC M st (.fresh k xs) := rfl
def impZ (st m : Nat) : Option (V × Mem × Nat) → Option (V × Mem)
  | some (v, M, st') => if st' ≤ st + m then some (v, M) else none
  | none => none
theorem impV_c (M : Mem) (st m : Nat) (c : C) : impV M st m (.c c) = impZ st m ((impP M st c).map fun r => (.c r.1, r.2)) := by
  simp only [impV, impV1]
  cases impP M st c <;> rfl
theorem impV_agg (M : Mem) (st m : Nat) (cs : List C) : impV M st m (.agg cs) = impZ st m ((impL M st cs).map fun r => (.agg r.1, r.2)) := by
  simp only [impV, impV1]
  cases impL M st cs <;> rfl
theorem impV_tup (M : Mem) (st m : Nat) (vs : List V) : impV M st m (.tup vs) = impZ st m ((impVs M st vs).map fun r => (.tup r.1, r.2)) := by
  simp only [impV]
  cases impVs M st vs <;> rfl
theorem impZ_some (st m st' : Nat) (v : V) (M : Mem) : impZ st m (some (v, M, st')) = if st' ≤ st + m then some (v, M) else none := rfl
theorem impVs_nil (M : Mem) (st : Nat) : impVs M st [] = some ([], M, st) := rfl
theorem impVs_cons (M : Mem) (st : Nat) (v : V) (vs : List V) : impVs M st (v :: vs) = (impV1 M st v).bind fun r => (impVs r.2.1 r.2.2 vs).map fun q => (r.1 :: q.1, q.2) := by
  simp only [impVs]
  cases impV1 M st v with
  | none => rfl
  | some r =>
    simp only [Option.bind_some]
    cases impVs r.2.1 r.2.2 vs <;> rfl
theorem impV1_c (M : Mem) (st : Nat) (c : C) : impV1 M st (.c c) = (impP M st c).map fun r => (.c r.1, r.2) := rfl
theorem impV1_agg (M : Mem) (st : Nat) (cs : List C) : impV1 M st (.agg cs) = (impL M st cs).map fun r => (.agg r.1, r.2) := rfl
theorem impL_nil (M : Mem) (st : Nat) : impL M st [] = some ([], M, st) := rfl
theorem impL_cons (M : Mem) (st : Nat) (c : C) (cs : List C) : impL M st (c :: cs) = (impC M st c).bind fun r => (impL r.2.1 r.2.2 cs).map fun q => (r.1 :: q.1, q.2) := by
  simp only [impL]
  cases impC M st c with
  | none => rfl
  | some r =>
    simp only [Option.bind_some]
    cases impL r.2.1 r.2.2 cs <;> rfl
theorem impL_still (M : Mem) (st : Nat) (cs : List C) (h : cs.all still = true) : impL M st cs = some (cs, M, st) := by
  induction cs with
  | nil => rfl
  | cons c cs ih =>
    simp only [List.all_cons, Bool.and_eq_true] at h
    rw [impL_cons, impC_still M st c h.1]
    simp [ih h.2]

theorem see_nil (bs : Nat) (v : VS) : see bs v [] = [] := rfl
theorem see_lit (bs : Nat) (v : VS) (B : Option Blk) (M : Mem) : see bs v (B :: M) = seeFrom bs v 0 (B :: M) := rfl
theorem merge_lit (bs : Nat) (v : VS) (B B' : Option Blk) (M N : Mem) : merge bs v (B :: M) (B' :: N) = mergeFrom bs v 0 (B :: M) (B' :: N) := rfl
theorem merge_nil (bs : Nat) (v : VS) (N : Mem) : merge bs v [] N = N := rfl
theorem seeFrom_but (bs : Nat) : ∀ (M : Mem) (n : Nat), seeFrom bs (.but []) n M = M
  | [], n => rfl
  | B :: M, n => by simp only [seeFrom, VS.has, List.contains_nil, Bool.and_false, Bool.not_false, if_true, seeFrom_but bs M (n + 1)]
theorem see_but (bs : Nat) (M : Mem) : see bs (.but []) M = M := seeFrom_but bs M 0
theorem mergeFrom_but (bs : Nat) : ∀ (M N : Mem) (n : Nat), N.length = M.length → mergeFrom bs (.but []) n M N = N
  | [], N, n, h => by cases N <;> rfl
  | B :: M, [], n, h => by simp at h
  | B :: M, B' :: N, n, h => by
    simp only [mergeFrom, VS.has, List.contains_nil, Bool.and_false, Bool.not_false, if_true]
    rw [mergeFrom_but bs M N (n + 1) (by simpa using h)]
theorem merge_but (bs : Nat) (M N : Mem) (h : N.length = M.length) : merge bs (.but []) M N = N := mergeFrom_but bs M N 0 h
theorem mergeFrom_only (bs : Nat) : ∀ (M N : Mem) (n : Nat), N.length = M.length → mergeFrom bs (.only []) n M N = M
  | [], N, n, h => by
    have : N = [] := List.eq_nil_of_length_eq_zero h
    subst this; rfl
  | B :: M, [], n, h => by simp at h
  | B :: M, B' :: N, n, h => by
    simp only [mergeFrom, VS.has, List.contains_nil, Bool.and_false]
    rw [mergeFrom_only bs M N (n + 1) (by simpa using h)]
    simp
theorem merge_only (bs : Nat) (M N : Mem) (h : N.length = M.length) : merge bs (.only []) M N = M := mergeFrom_only bs M N 0 h
theorem seeFrom_len (bs : Nat) (v : VS) : ∀ (M : Mem) (n : Nat), (seeFrom bs v n M).length = M.length
  | [], n => rfl
  | B :: M, n => by simp [seeFrom, seeFrom_len bs v M (n + 1)]
theorem see_len (bs : Nat) (v : VS) (M : Mem) : (see bs v M).length = M.length := seeFrom_len bs v M 0

def bndE : V → Option Nat
  | .c (.int _ i) => if 0 ≤ i then some i.toNat else none
  | _ => none
theorem bndE_int (k : IntKind) (i : Int) : bndE (.c (.int k i)) = if 0 ≤ i then some i.toNat else none := rfl
theorem bound_none (tm : List V) (d : Nat) : bound tm d none = some d := rfl
theorem bound_some (tm : List V) (d : Nat) (x : X) : bound tm d (some x) = bndE (evX tm x) := by
  simp only [bound]
  cases evX tm x with
  | c c => cases c <;> rfl
  | _ => rfl
theorem lenV_own (n g k o l : Nat) : lenV (.c (.own n g k o l)) = some l := rfl
theorem lenV_imm (t : Bool) (k : Nat) (xs : List (List C)) : lenV (.c (.imm t k xs)) = some xs.length := rfl
theorem lenV_nil : lenV (.c .nilsl) = some 0 := rfl
theorem evSlc_own (n g k off len lo hi : Nat) : evSlc (.c (.own n g k off len)) k lo hi = if lo ≤ hi ∧ hi ≤ len then some (.c (.own n g k (off + lo) (hi - lo))) else none := by simp [evSlc]
theorem evSlc_imm (t : Bool) (k : Nat) (xs : List (List C)) (lo hi : Nat) : evSlc (.c (.imm t k xs)) k lo hi = if lo ≤ hi ∧ hi ≤ xs.length then some (.c (.imm t k ((xs.take hi).drop lo))) else none := by simp [evSlc]
theorem evSlc_nil (k lo hi : Nat) : evSlc (.c .nilsl) k lo hi = if lo = 0 ∧ hi = 0 then some (.c .nilsl) else none := rfl

/-! ### What a round leaves -/

theorem keepC_still (E N : Mem) (c : C) (h : still c = true) : keepC E N c = some c := by cases c <;> simp_all [still, keepC]
theorem keepC_own (E N : Mem) (n g k o l : Nat) : keepC E N (.own n g k o l) = if was E n then some (.own n g k o l) else frz false (fun n => !was E n) N depth (.own n g k o l) := rfl
theorem keepC_ptr (E N : Mem) (n g i o : Nat) : keepC E N (.ptr n g i o) = if was E n then some (.ptr n g i o) else some .undef := rfl
theorem keepC_mref (E N : Mem) (n g : Nat) : keepC E N (.mref n g) = if was E n then some (.mref n g) else some .undef := rfl
theorem keepV_c (E N : Mem) (c : C) : keepV E N (.c c) = (keepC E N c).map .c := rfl
theorem keepV_agg (E N : Mem) (cs : List C) : keepV E N (.agg cs) = (cs.mapM (keepC E N)).map .agg := rfl
theorem keepV_any (E N : Mem) : keepV E N .any = some .any := rfl
theorem keepV_none (E N : Mem) : keepV E N .none = some .none := rfl
theorem keepV_tup (E N : Mem) (vs : List V) : keepV E N (.tup vs) = some .any := rfl
theorem was_eq (M : Mem) (n : Nat) : was M n = (M[n]?.getD none).isSome := by
  unfold was; rw [List.getD_eq_getElem?_getD]
theorem keepM_nil (E N M : Mem) : keepM E N [] M = some [] := by cases M <;> rfl
theorem keepM_none (E N E0 M0 : Mem) (b : Option Blk) : keepM E N (none :: E0) (b :: M0) = (keepM E N E0 M0).map (none :: ·) := by simp [keepM]
theorem keepM_some (E N E0 M0 : Mem) (e b : Blk) : keepM E N (some e :: E0) (some b :: M0) = (keepB E N b).bind fun B => (keepM E N E0 M0).map (some B :: ·) := by
  simp only [keepM]
  cases keepB E N b with
  | none => rfl
  | some B => cases keepM E N E0 M0 <;> rfl
theorem keepB_row (E N : Mem) (k g : Nat) (xs : List (List C)) : keepB E N (.row k g xs) = (xs.mapM fun (cs : List C) => cs.mapM (keepC E N)).map fun xs => .row k g xs := rfl

def normX (n : Nat) : Option AL → Option Mem → Option St
  | some l, some M => some (mk n l, M)
  | _, _ => none
theorem normX_some (n : Nat) (l : AL) (M : Mem) : normX n (some l) (some M) = some (mk n l, M) := rfl

theorem lk_mapM {f : V → Option V} (hf : f .any = some .any) : ∀ {l l' : AL}, l.mapM (fun p => (f p.2).map fun v => (p.1, v)) = some l' → ∀ t, f (lk l t) = some (lk l' t)
  | [], l', h, t => by
    simp only [List.mapM_nil, Option.pure_def, Option.some.injEq] at h
    subst h
    exact hf
  | p :: l, l', h, t => by
    simp only [List.mapM_cons, Option.pure_def, Option.bind_eq_bind] at h
    cases h1 : f p.2 with
    | none => simp [h1] at h
    | some v =>
      simp only [h1, Option.map_some, Option.bind_some] at h
      cases h2 : l.mapM (fun p => (f p.2).map fun v => (p.1, v)) with
      | none => simp [h2] at h
      | some l2 =>
        simp only [h2, Option.bind_some, Option.some.injEq] at h
        subst h
        simp only [lk]
        split
        · exact h1
        · exact lk_mapM hf h2 t

theorem mk_mapM {f : V → Option V} (hf : f .any = some .any) {n : Nat} {l l' : AL} (h : l.mapM (fun p => (f p.2).map fun v => (p.1, v)) = some l') : (mk n l).mapM f = some (mk n l') := by
  unfold mk
  generalize List.range n = r
  induction r with
  | nil => rfl
  | cons t r ih =>
    rw [List.map_cons, List.map_cons, List.mapM_cons, lk_mapM hf h t, ih]; rfl

/-- One way is enough: where the pairs are kept, so is the whole. -/
theorem norm_true {live : List Nat} {E : Mem} {n : Nat} {l : AL} {M : Mem} {s : St} (h : normX n ((live.map fun t => (t, lk l t)).mapM fun p => (keepV E M p.2).map fun v => (p.1, v)) (keepM E M E M) = some s) : norm live true E (mk n l, M) = some s := by
  unfold norm
  simp only [if_true, kill_mk]
  cases h1 : (live.map fun t => (t, lk l t)).mapM fun p => (keepV E M p.2).map fun v => (p.1, v) with
  | none => rw [h1] at h; simp [normX] at h
  | some l' =>
    rw [h1] at h
    cases h2 : keepM E M E M with
    | none => rw [h2] at h; simp [normX] at h
    | some M' =>
      rw [h2] at h
      rw [mk_mapM (keepV_any E M) h1]
      exact h

/-- A step of a loop whose rounds' blocks go, as a walk's end. -/
def Nm (live : List Nat) (E : Mem) (n : Nat) (l : AL) (M : Mem) (N : St → Prop) : Prop := ∃ s, normX n ((live.map fun t => (t, lk l t)).mapM fun p => (keepV E M p.2).map fun v => (p.1, v)) (keepM E M E M) = some s ∧ N s
theorem Nm_norm {live : List Nat} {E : Mem} {n : Nat} {l : AL} {M : Mem} {N : St → Prop} (h : Nm live E n l M N) : ∃ s, norm live true E (mk n l, M) = some s ∧ N s := by
  obtain ⟨s, h1, h2⟩ := h
  exact ⟨s, norm_true h1, h2⟩

/-- A slice that stays as it is, or nil. -/
def Sl (k : Nat) (xs : List (List C)) (c : C) : Prop := (∃ t, c = .imm t k xs) ∨ (c = .nilsl ∧ xs = [])
theorem Sl.still {k : Nat} {xs : List (List C)} {c : C} (h : Sl k xs c) : still c = true := by
  rcases h with ⟨t, rfl⟩ | ⟨rfl, _⟩ <;> rfl
theorem Sl.len {k : Nat} {xs : List (List C)} {c : C} (h : Sl k xs c) : lenE (.c c) = some (.int .i64 xs.length) := by
  rcases h with ⟨t, rfl⟩ | ⟨rfl, rfl⟩ <;> rfl
theorem Sl.lenV {k : Nat} {xs : List (List C)} {c : C} (h : Sl k xs c) : lenV (.c c) = some xs.length := by
  rcases h with ⟨t, rfl⟩ | ⟨rfl, rfl⟩ <;> rfl
theorem Sl.ixs {k : Nat} {xs : List (List C)} {c : C} (h : Sl k xs c) (kk : IntKind) (i : Int) : ixsE k (.c c) (.c (.int kk i)) = if 0 ≤ i ∧ i < xs.length then some (.iptr (xs.getD i.toNat []) 0) else none := by
  rcases h with ⟨t, rfl⟩ | ⟨rfl, rfl⟩
  · exact ixsE_imm k t xs kk i
  · simp [ixsE, asI]
theorem Sl.elems {k : Nat} {xs : List (List C)} {c : C} (h : Sl k xs c) (M : Mem) : elems M k (.c c) = some xs := by
  rcases h with ⟨t, rfl⟩ | ⟨rfl, rfl⟩
  · simp [Am.elems]
  · rfl

theorem mapM_some_mem {α β : Type} {f : α → Option β} : ∀ {l : List α} {r : List β}, l.mapM f = some r → ∀ x ∈ l, (f x).isSome = true
  | [], _, _, x, hx => by cases hx
  | a :: l, r, h, x, hx => by
    rw [List.mapM_cons] at h
    cases h1 : f a with
    | none => rw [h1] at h; cases h
    | some b =>
      rw [h1] at h
      cases h2 : l.mapM f with
      | none => rw [h2] at h; cases h
      | some r' =>
        rcases List.mem_cons.1 hx with rfl | hx
        · rw [h1]; rfl
        · exact mapM_some_mem h2 x hx
theorem mapM_isSome {α β : Type} {f : α → Option β} : ∀ {l : List α}, (∀ x ∈ l, (f x).isSome = true) → ∃ r, l.mapM f = some r
  | [], _ => ⟨[], rfl⟩
  | a :: l, h => by
    obtain ⟨b, hb⟩ := Option.isSome_iff_exists.1 (h a List.mem_cons_self)
    obtain ⟨r, hr⟩ := mapM_isSome (fun x hx => h x (List.mem_cons_of_mem _ hx))
    exact ⟨b :: r, by rw [List.mapM_cons, hb, hr]; rfl⟩

theorem norm_true_eq {live : List Nat} {E : Mem} {n : Nat} {l : AL} {M : Mem} (hl : live.all (fun t => decide (t < n)) = true) : norm live true E (mk n l, M) = normX n ((live.map fun t => (t, lk l t)).mapM fun p => (keepV E M p.2).map fun v => (p.1, v)) (keepM E M E M) := by
  cases h : normX n ((live.map fun t => (t, lk l t)).mapM fun p => (keepV E M p.2).map fun v => (p.1, v)) (keepM E M E M) with
  | some s => exact norm_true h
  | none =>
    cases h2 : norm live true E (mk n l, M) with
    | none => rfl
    | some s =>
      exfalso
      unfold norm at h2
      simp only [if_true, kill_mk] at h2
      split at h2
      · rename_i tm M' k1 k2
        have := mapM_some_mem k1
        obtain ⟨r, hr⟩ := mapM_isSome (f := fun p : Nat × V => (keepV E M p.2).map fun v => (p.1, v)) (l := live.map fun t => (t, lk l t)) (fun p hp => by
          obtain ⟨t, ht, rfl⟩ := List.mem_map.1 hp
          have hlt : t < n := by simpa using List.all_eq_true.1 hl t ht
          have hm : lk l t ∈ mk n (live.map fun t => (t, lk l t)) := List.mem_map.2 ⟨t, List.mem_range.2 hlt, by rw [lk_live, if_pos (by simpa using ht)]⟩
          have := mapM_some_mem k1 _ hm
          simpa using this)
        rw [hr, k2] at h
        cases h
      · cases h2

/-- Thawing, as slots are told. -/
def thB (bs n : Nat) (l : AL) (M : Mem) (t k st : Nat) : Option Mem → St
  | some M' => (mk n ((t, .c (.own (bs + st) (genAt M (bs + st)) k 0 0)) :: l), M')
  | none => (mk n l, M)
def thN (bs n : Nat) (l : AL) (M : Mem) (t k st : Nat) : V → St
  | .c .nilsl => thB bs n l M t k st (setB M (bs + st) fun g => .row k g [])
  | _ => (mk n l, M)
theorem thN_nil (bs n : Nat) (l : AL) (M : Mem) (t k st : Nat) : thN bs n l M t k st (.c .nilsl) = thB bs n l M t k st (setB M (bs + st) fun g => .row k g []) := rfl
theorem thN_own (bs n : Nat) (l : AL) (M : Mem) (t k st a b c d e : Nat) : thN bs n l M t k st (.c (.own a b c d e)) = (mk n l, M) := rfl
theorem thN_imm (bs n : Nat) (l : AL) (M : Mem) (t k st : Nat) (b : Bool) (j : Nat) (xs : List (List C)) : thN bs n l M t k st (.c (.imm b j xs)) = (mk n l, M) := rfl
theorem thB_some (bs n : Nat) (l : AL) (M M' : Mem) (t k st : Nat) : thB bs n l M t k st (some M') = (mk n ((t, .c (.own (bs + st) (genAt M (bs + st)) k 0 0)) :: l), M') := rfl
theorem thaw1_none (bs n : Nat) (l : AL) (M : Mem) (t k st : Nat) (ht : t < n) : thaw1 bs (mk n l, M) (t, none, k, st) = thN bs n l M t k st (lk l t) := by
  unfold thaw1
  simp only [mk_getD, if_pos ht]
  cases lk l t with
  | c c =>
    cases c with
    | nilsl =>
      simp only [thN, thB]
      cases setB M (bs + st) fun g => .row k g [] with
      | none => rfl
      | some M' => simp only [mk_set]
    | _ => rfl
  | _ => rfl
/-- A field thawed. -/
def thC (bs n : Nat) (l : AL) (M : Mem) (nn g idx o k st : Nat) : Option V → St
  | some (.c .nilsl) => match setB M (bs + st) fun g => .row k g [] with
    | some M' => match storeAt M' (.c (.ptr nn g idx o)) [.own (bs + st) (genAt M (bs + st)) k 0 0] with
      | some M2 => (mk n l, M2)
      | none => (mk n l, M)
    | none => (mk n l, M)
  | _ => (mk n l, M)
def thP (bs n : Nat) (l : AL) (M : Mem) (off k st : Nat) : V → St
  | .c (.ptr nn g idx o) => thC bs n l M nn g idx (o + off) k st (ldE M false 1 (.c (.ptr nn g idx (o + off))))
  | _ => (mk n l, M)
theorem thP_ptr (bs n : Nat) (l : AL) (M : Mem) (off k st nn g idx o : Nat) : thP bs n l M off k st (.c (.ptr nn g idx o)) = thC bs n l M nn g idx (o + off) k st (ldE M false 1 (.c (.ptr nn g idx (o + off)))) := rfl
theorem thC_own (bs n : Nat) (l : AL) (M : Mem) (nn g idx o k st a b c d e : Nat) : thC bs n l M nn g idx o k st (some (.c (.own a b c d e))) = (mk n l, M) := rfl
theorem thC_nil (bs n : Nat) (l : AL) (M : Mem) (nn g idx o k st : Nat) : thC bs n l M nn g idx o k st (some (.c .nilsl)) = match setB M (bs + st) fun g => .row k g [] with
    | some M' => match storeAt M' (.c (.ptr nn g idx o)) [.own (bs + st) (genAt M (bs + st)) k 0 0] with
      | some M2 => (mk n l, M2)
      | none => (mk n l, M)
    | none => (mk n l, M) := rfl
theorem thaw1_some (bs n : Nat) (l : AL) (M : Mem) (t off k st : Nat) (ht : t < n) : thaw1 bs (mk n l, M) (t, some off, k, st) = thP bs n l M off k st (lk l t) := by
  unfold thaw1
  simp only [mk_getD, if_pos ht]
  cases lk l t with
  | c c =>
    cases c with
    | ptr nn g idx o =>
      simp only [thP, ldE]
      cases h : cellsAt M (.c (.ptr nn g idx (o + off))) 1 with
      | none => rfl
      | some cs =>
        match cs with
        | [] => rfl
        | [c] => cases c <;> rfl
        | c :: _ :: _ => cases c <;> rfl
    | _ => rfl
  | _ => rfl
theorem thawAll_cons (bs : Nat) (s : St) (p : Nat × Option Nat × Nat × Nat) (l : List (Nat × Option Nat × Nat × Nat)) : thawAll bs s (p :: l) = thawAll bs (thaw1 bs s p) l := rfl

/-! ### Appending -/

def elB (B : Option (Option Blk)) (g k k'' off len : Nat) : Option (List (List C)) :=
  match B with
  | some (some (.row k' g' xs)) => if g = g' ∧ k = k' ∧ k'' = k ∧ off + len ≤ xs.length then some ((xs.drop off).take len) else none
  | _ => none
theorem elems_own (M : Mem) (k n g k'' off len : Nat) : elems M k (.c (.own n g k'' off len)) = elB M[n]? g k k'' off len := by
  simp only [elems, rowAt_eq, elB]
  cases M[n]? with
  | none => rfl
  | some B =>
    cases B with
    | none => rfl
    | some B => cases B <;> rfl
theorem elB_row (k' g' : Nat) (xs : List (List C)) (g k k'' off len : Nat) : elB (some (some (.row k' g' xs))) g k k'' off len = if g = g' ∧ k = k' ∧ k'' = k ∧ off + len ≤ xs.length then some ((xs.drop off).take len) else none := rfl
theorem elems_nil (M : Mem) (k : Nat) : elems M k (.c .nilsl) = some [] := rfl
theorem elems_imm (M : Mem) (k : Nat) (t : Bool) (xs : List (List C)) : elems M k (.c (.imm t k xs)) = some xs := by simp [elems]

def appB (B : Option (Option Blk)) (M : Mem) (k n g k'' off len : Nat) : Option (List (List C)) → Option (V × Mem)
  | none => none
  | some ys => match B with
    | some (some (.row k' g' xs)) =>
      if g = g' ∧ k = k' ∧ k'' = k ∧ off = 0 ∧ xs.length + ys.length ≤ limit then
        if len = xs.length then some (.c (.own n (g + 1) k 0 (len + ys.length)), M.set n (some (.row k (g + 1) (xs ++ ys))))
        else if len + ys.length ≤ xs.length then some (.c (.own n (g + 1) k 0 (len + ys.length)), M.set n (some (.row k (g + 1) (xs.take len ++ ys ++ xs.drop (len + ys.length)))))
        else none
      else none
    | _ => none
theorem evApp_own (M : Mem) (st k n g k'' off len : Nat) (x : V) : evApp M st k (.c (.own n g k'' off len)) x = appB M[n]? M k n g k'' off len (elems M k x) := by
  simp only [evApp]
  cases elems M k x with
  | none => rfl
  | some ys =>
    simp only [rowAt_eq, appB]
    cases M[n]? with
    | none => rfl
    | some B =>
      cases B with
      | none => rfl
      | some B => cases B <;> rfl
theorem appB_row (k' g' : Nat) (xs ys : List (List C)) (M : Mem) (k n g k'' off len : Nat) : appB (some (some (.row k' g' xs))) M k n g k'' off len (some ys) =
      if g = g' ∧ k = k' ∧ k'' = k ∧ off = 0 ∧ xs.length + ys.length ≤ limit then
        if len = xs.length then some (.c (.own n (g + 1) k 0 (len + ys.length)), M.set n (some (.row k (g + 1) (xs ++ ys))))
        else if len + ys.length ≤ xs.length then some (.c (.own n (g + 1) k 0 (len + ys.length)), M.set n (some (.row k (g + 1) (xs.take len ++ ys ++ xs.drop (len + ys.length)))))
        else none
      else none := rfl
def appN (M : Mem) (st k : Nat) : Option (List (List C)) → Option (V × Mem)
  | none => none
  | some ys => if ys.length ≤ limit then newE M st (fun g => .row k g ys) (fun g => .own st g k 0 ys.length) else none
theorem evApp_nil (M : Mem) (st k : Nat) (x : V) : evApp M st k (.c .nilsl) x = appN M st k (elems M k x) := by
  simp only [evApp]
  cases elems M k x <;> rfl
theorem appN_some (M : Mem) (st k : Nat) (ys : List (List C)) : appN M st k (some ys) = if ys.length ≤ limit then newE M st (fun g => .row k g ys) (fun g => .own st g k 0 ys.length) else none := rfl
theorem limit_eq : limit = 16777216 := rfl

attribute [simp] Wx_nil Wx_seq Wx_blk Wx_ret_seq Wx_ret_blk Wx_exit_seq Wx_exit_blk W_skip W_ret W_exit W_seq W_block W_keep W_cond Wc_true Wc_false W_region Wr_nil Wr_op Wr_guard Wr_draw Wi_some Wi_some' Wi_none Wi_if Wg_none Wg_tt Wg_ff Wg_tf Wg_ft Wd_true Wd_true' Wd_if
attribute [simp] List.getElem?_cons_zero List.getElem?_cons_succ ansC_some ansV_some ansC_if ansV_if ansC_ifn Wi_ifn evX_t lk_nil lk_cons ev_add ev_sub ev_mul ev_quo ev_rem ev_and ev_or ev_xor ev_andNot ev_eql ev_neq ev_lss ev_leq ev_gtr ev_geq ev_shl ev_shr ev_eqa ev_nea eqCs_nil eqCs_int ev_eqb ev_neb ev_eqp1 ev_eqp2 ev_eqp3 ev_nep1 ev_nep2 ev_nep3 ev_not ev_neg ev_cpl pick_t pick_f pick_d lenE_own lenE_imm lenE_nil ixsE_own ixsE_imm ixaE_ptr ixaE_iptr faE_ptr faE_iptr nckE_ptr nckE_iptr ldE_iptr cutE_one cutE_agg fieldE_agg indexE_agg convE_int extE_tup ansM_some ansM_if stE_c stE_agg evI_mov evI_pick evI_bin evI_un evI_conv evI_len evI_ixs evI_ixa evI_faddr evI_nilck evI_load evI_store evI_field evI_index evI_ext evI_call evI_build evI_alloc evI_app evI_copy evI_slc evX_k evX_ka flat_int flat_bool flatV_c flatV_agg flatV_nil flatV_cc flatV_ca rvE_c rvE_agg evRV_tmp evRV_cell evRes0 evRes1 evRes2 evRes3 evRet_eq retE_state retE_pure lendV_iptr lendV_c lendV_agg still_int still_bool still_func still_nilptr still_nilsl still_imm newE_eq newB_none newB_row ldE_eq ldB_one storeAt_eq stB_one splice1 splice2 norm_false thawAll_nil evI_box evI_mksl evI_buildSl cells_c cells_agg seeFrom_nil seeFrom_cons mergeFrom_cons mergeFrom_nil see_nil see_lit merge_lit merge_nil see_but merge_but merge_only see_len VS.has tgtOK tgt growsI VS.sub tgtV fill evCall_eq callX_state callX_pure callX_give callP_some callG_some backP_flat backP_imp backS_cut cutM_same backS_grow setB_eq setBB_none setBB_row genAt_eq nextG_none nextG_row impC_fresh impC_still impP_still impP_fptr impP_fresh impV_c impV_agg impV_tup impZ_some impVs_nil impVs_cons impV1_c impV1_agg impL_nil impL_cons impL_still bndE_int bound_none bound_some lenV_own lenV_imm lenV_nil evSlc_own evSlc_imm evSlc_nil keepC_still keepC_own keepC_ptr keepC_mref keepV_c keepV_agg keepV_any keepV_none keepV_tup was_eq keepM_nil keepM_none keepM_some keepB_row normX_some norm_true_eq thN_nil thN_own thN_imm thB_some thaw1_none thP_ptr thC_own thC_nil thaw1_some thawAll_cons elems_own elB_row elems_nil elems_imm evApp_own appB_row evApp_nil appN_some limit_eq fillSl ofZ LQ_normal LQ_exit LQ_ret

end Go.Proofs.Ytopcnhojkfeafaa.Am
