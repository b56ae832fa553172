/- AM: how Go's code, as the model has it, is read as the abstract machine's. -/
import Derived.Test.YtopcnhojkfeafaaAmDef
import Derived.Orders
namespace Go.Proofs.Ytopcnhojkfeafaa.Am

def zOf : Value → Option Z
  | .int k n => some (.int k n)
  | .bool b => some (.bool b)
  | .pointer none => some .nilptr
  | .slice none 0 0 => some .nilsl
  | .func (.func f) first captured => if first.size = 0 ∧ captured.size = 0 then some (.func f) else none
  | _ => none

def xOf : Operand → Option X
  | .tmp t => some (.t t)
  | .const v => match v with
    | .agg cs => (cs.toList.mapM zOf).map .ka
    | v => (zOf v).map .k
  | .func f => some (.k (.func f))
  | .global _ => none

def aggT (P : Program) (t : TypeId) : Option Bool :=
  match P.underlying t with
  | some (.struct _) => some true
  | some (.array _ _) => some true
  | some _ => some false
  | none => none

/-- A type's cells, bytes, and zero value's cells. -/
def infoT (P : Program) (t : TypeId) : Option (Nat × Nat × List Z) :=
  match P.info? t with
  | some i => match i.zero with
    | some z => match z.cells.toList.mapM zOf with
      | some zs => if zs.length = i.size ∧ i.bytes ≤ 1024 then some (i.size, i.bytes, zs) else none
      | none => none
    | none => none
  | none => none

/-- The elements' type of a slice: of one cell at the least. -/
def sliceT (P : Program) (t : TypeId) : Option TypeId :=
  match P.underlying t with
  | some (.slice e) => if 0 < P.cellsOf e then some e else none
  | _ => none

def structT (P : Program) (t : TypeId) : Option (Array Field) :=
  match P.underlying t with
  | some (.struct fs) => some fs
  | _ => none

def arrT (P : Program) (t : TypeId) : Option (Nat × TypeId) :=
  match P.underlying t with
  | some (.array n e) => some (n, e)
  | _ => none

def intT (P : Program) (t : TypeId) : Option IntKind :=
  match P.underlying t with
  | some (.int k) => some k
  | _ => none

def sizeT (P : Program) (t : TypeId) : Option Nat :=
  match P.info? t with
  | some i => some i.size
  | none => none

/-- Is a type a struct of whole numbers alone, each a field in its own cell? -/
def intsT (P : Program) (t : TypeId) : Bool :=
  match structT P t with
  | some fs => (fs.toList.zipIdx.all fun (f, i) => f.name != "_" && f.offset == i && (intT P f.type).isSome && sizeT P f.type == some 1) && !P.stoodInHeld t && !P.eqGuardType P.depth t
  | none => false

def opOf (P : Program) (op : BinOp) (t : TypeId) : Option B :=
  match op with
  | .add => some .add
  | .sub => some .sub
  | .mul => some .mul
  | .quo => some .quo
  | .rem => some .rem
  | .and => some .and
  | .or => some .or
  | .xor => some .xor
  | .andNot => some .andNot
  | .shl => some .shl
  | .shr => some .shr
  | .lss => some .lss
  | .leq => some .leq
  | .gtr => some .gtr
  | .geq => some .geq
  | .eql => match P.underlying t with
    | some (.int _) => some .eql
    | some .bool => some .eqb
    | some (.pointer _) => some .eqp
    | some (.slice _) => some .eqs
    | some (.struct fs) => if intsT P t then some (.eqa fs.size) else none
    | _ => none
  | .neq => match P.underlying t with
    | some (.int _) => some .neq
    | some .bool => some .neb
    | some (.pointer _) => some .nep
    | some (.slice _) => some .nes
    | some (.struct fs) => if intsT P t then some (.nea fs.size) else none
    | _ => none

def partsOf (fs : Array Field) (P : Program) (ps : Array (Nat × Operand)) : Option (List (Nat × Nat × X)) :=
  ps.toList.mapM fun (i, x) => match fs[i]? with
    | some f => match sizeT P f.type, xOf x with
      | some k, some x => some (f.offset, k, x)
      | _, _ => none
    | none => none

def trI (P : Program) (o : Oper) : Option I :=
  match o.op with
  | .move x => (xOf x).map .mov
  | .assign x => (xOf x).map .mov
  | .pick c a b => match xOf c, xOf a, xOf b with
    | some c, some a, some b => some (.pick c a b)
    | _, _, _ => none
  | .alloc t => match infoT P t with
    | some (k, _, z) => some (.alloc 0 k z)
    | none => none
  | .box t x => match infoT P t, xOf x with
    | some (k, _, _), some x => some (.box 0 k x)
    | _, _ => none
  | .build t ps => match structT P t with
    | some fs => match infoT P t, partsOf fs P ps with
      | some (_, _, z), some ps => if fs.all fun f => (sizeT P f.type).isSome then some (.build z ps) else none
      | _, _ => none
    | none => match arrT P t with
      | some (_, e) => match infoT P t, infoT P e, (ps.toList.mapM fun (p : Nat × Operand) => (xOf p.2).map fun x => (p.1, x)) with
        | some (_, _, z), some (k, _, _), some ps => some (.build z (ps.map fun p => (p.1 * k, k, p.2)))
        | _, _, _ => none
      | none => none
  | .buildSlice t len ps => match sliceT P t with
    | some e => match infoT P e, (ps.toList.mapM fun (p : Nat × Operand) => (xOf p.2).map fun x => (p.1, x)) with
      | some (k, _, z), some ps => if len * k ≤ 16777216 then some (.buildSl 0 k z len ps) else none
      | _, _ => none
    | none => none
  | .load t a => match aggT P t, sizeT P t, xOf a with
    | some g, some k, some a => some (.load g (if g then k else 1) a)
    | _, _, _ => none
  | .store t a x => match sizeT P t, xOf a, xOf x with
    | some k, some a, some x => some (.store k a x)
    | _, _, _ => none
  | .nilCheck x => (xOf x).map .nilck
  | .binOp op t x y _ => match opOf P op t, xOf x, xOf y with
    | some op, some x, some y => some (.bin op x y)
    | _, _, _ => none
  | .unOp op _ x => match op, xOf x with
    | .not, some x => some (.un .not x)
    | .neg, some x => some (.un .neg x)
    | .xor, some x => some (.un .xor x)
    | _, _ => none
  | .convert src dst x => match P.underlying src, intT P dst, xOf x with
    | some _, some k, some x => some (.conv k x)
    | _, _, _ => none
  | .makeSlice t l c => match sliceT P t with
    | some e => match infoT P e, xOf l, xOf c with
      | some (k, _, z), some l, some c => some (.mksl 0 k z l c)
      | _, _, _ => none
    | none => none
  | .slice t x lo hi none => match sliceT P t with
    | some e => match infoT P e, xOf x, lo.map xOf, hi.map xOf with
      | some (k, _, _), some x, none, none => some (.slc k x none none)
      | some (k, _, _), some x, some (some lo), none => some (.slc k x (some lo) none)
      | some (k, _, _), some x, none, some (some hi) => some (.slc k x none (some hi))
      | some (k, _, _), some x, some (some lo), some (some hi) => some (.slc k x (some lo) (some hi))
      | _, _, _, _ => none
    | none => none
  | .fieldAddr t x f => match structT P t with
    | some fs => match fs[f]? with
      | some f => match sizeT P f.type, xOf x with
        | some k, some x => if k = 0 then none else some (.faddr f.offset x)
        | _, _ => none
      | none => none
    | none => none
  | .field t x f => match structT P t with
    | some fs => match fs[f]? with
      | some f => match aggT P f.type, sizeT P f.type, xOf x with
        | some g, some k, some x => some (.field g f.offset (if g then k else 1) x)
        | _, _, _ => none
      | none => none
    | none => none
  | .indexAddr t x i => match sliceT P t with
    | some e => match infoT P e, xOf x, xOf i with
      | some (k, _, _), some x, some i => some (.ixs k x i)
      | _, _, _ => none
    | none => match arrT P t with
      | some (n, e) => match infoT P e, xOf x, xOf i with
        | some (k, _, _), some x, some i => some (.ixa n k x i)
        | _, _, _ => none
      | none => none
  | .index t x i => match arrT P t with
    | some (n, e) => match infoT P e, aggT P e, xOf x, xOf i with
      | some (k, _, _), some g, some x, some i => if g = true ∨ k = 1 then some (.index g n (if g then k else 1) x i) else none
      | _, _, _, _ => none
    | none => none
  | .extract x i => (xOf x).map fun x => .ext x i
  | .call c => match c.callee with
    | .value f => match xOf f, c.args.toList.mapM xOf with
      | some f, some args => some (.call 0 0 f args)
      | _, _ => none
    | .builtin b => match b, c.args.toList.mapM xOf with
      | .len, some [x] => match c.argTypes[0]? with
        | some t => match sliceT P t with
          | some _ => some (.len x)
          | none => none
        | none => none
      | .append, some [s, x] => match c.argTypes.toList with
        | [t, u] => match sliceT P t with
          | some e => if t = u then match infoT P e with
            | some (k, _, _) => some (.app 0 k s x)
            | none => none
            else none
          | none => none
        | _ => none
      | .min, some xs => some (.mn xs)
      | .max, some xs => some (.mx xs)
      | _, _ => none
    | _ => none
  | .makeMap _ none => some (.mkmap 0)
  | .lookup t m key ok => match P.underlying t with
    | some (.map K e) => match intT P K, P.info? e, xOf m, xOf key with
      | some _, some i, some m, some key => match i.zero with
        | some (.agg cs) => if cs.size = 0 then some (.look ok true [] m key) else none
        | some z => match zOf z with
          | some z => some (.look ok false [z] m key)
          | none => none
        | none => none
      | _, _, _, _ => none
    | _ => none
  | .mapUpdate t m key x => match P.underlying t with
    | some (.map K _) => match intT P K, xOf m, xOf key, xOf x with
      | some _, some m, some key, some x => some (.upd m key x)
      | _, _, _, _ => none
    | _ => none
  | _ => none

/-- An instruction without the places of what it makes. -/
def erI : I → I
  | .alloc _ k z => .alloc 0 k z
  | .box _ k x => .box 0 k x
  | .buildSl _ k z len ps => .buildSl 0 k z len ps
  | .mksl _ k z l c => .mksl 0 k z l c
  | .call _ _ f args => .call 0 0 f args
  | .app _ k a x => .app 0 k a x
  | .mkmap _ => .mkmap 0
  | i => i

def trO (P : Program) (ops : Array Oper) (o : Oper) : Option O :=
  match trI P o with
  | none => none
  | some i =>
    match o.guard with
    | none => some ⟨o.dst, none, i, none⟩
    | some (j, b) => match (ops[j]?).bind (·.dst) with
      | some t => some ⟨o.dst, some (t, b), i, none⟩
      | none => none

def erO (o : O) : O := ⟨o.d, o.g, erI o.i, none⟩

def xTm : X → List Nat
  | .t n => [n]
  | _ => []

def usesI : I → List Nat
  | .mov x | .box _ _ x | .load _ _ x | .nilck x | .un _ x | .conv _ x | .faddr _ x | .field _ _ _ x | .len x | .ext x _ => xTm x
  | .pick a b c | .upd a b c => xTm a ++ xTm b ++ xTm c
  | .alloc .. | .mkmap _ => []
  | .build _ ps => ps.flatMap fun p => xTm p.2.2
  | .buildSl _ _ _ _ ps => ps.flatMap fun p => xTm p.2
  | .store _ a x | .bin _ a x | .mksl _ _ _ a x | .ixs _ a x | .ixa _ _ a x | .index _ _ _ a x | .app _ _ a x | .copy _ a x | .look _ _ _ a x => xTm a ++ xTm x
  | .slc _ x lo hi => xTm x ++ (lo.map xTm).getD [] ++ (hi.map xTm).getD []
  | .mn xs | .mx xs => xs.flatMap xTm
  | .call _ _ f args => xTm f ++ args.flatMap xTm

def usesO (o : O) : List Nat := (o.g.map fun g => [g.1]).getD [] ++ usesI o.i

def dOf (o : O) : List Nat := o.d.toList

def VS.disj : VS → VS → Bool
  | .only a, .only b => a.all fun n => !b.contains n
  | .only a, .but b => a.all b.contains
  | .but a, .only b => b.all a.contains
  | .but _, .but _ => false

/-- May two operations change places? -/
def indep (a b : O) : Bool :=
  (match a.v, b.v with
    | some (va, wa), some (vb, wb) => VS.disj wa vb && VS.disj wb va
    | _, _ => false) &&
  (dOf a).all (fun d => !(usesO b).contains d && !(dOf b).contains d) && (dOf b).all (fun d => !(usesO a).contains d)

def uniq (l : List Nat) : List Nat := l.foldl (fun acc a => if acc.contains a then acc else a :: acc) []

theorem mem_uniq_aux (m : Nat) : ∀ (l acc : List Nat), m ∈ l.foldl (fun acc a => if acc.contains a then acc else a :: acc) acc ↔ m ∈ acc ∨ m ∈ l
  | [], acc => by simp
  | a :: l, acc => by
    rw [List.foldl_cons, mem_uniq_aux m l]
    by_cases h : acc.contains a = true
    · rw [if_pos h]
      have : a ∈ acc := by simpa using h
      constructor
      · rintro (h1 | h1)
        · exact .inl h1
        · exact .inr (List.mem_cons_of_mem _ h1)
      · rintro (h1 | h1)
        · exact .inl h1
        · rcases List.mem_cons.1 h1 with rfl | h1
          · exact .inl this
          · exact .inr h1
    · rw [if_neg h]
      simp only [List.mem_cons]
      constructor
      · rintro ((h1 | h1) | h1)
        · exact .inr (.inl h1)
        · exact .inl h1
        · exact .inr (.inr h1)
      · rintro (h1 | h1 | h1)
        · exact .inl (.inr h1)
        · exact .inl (.inl h1)
        · exact .inr h1
theorem mem_uniq {m : Nat} {l : List Nat} : m ∈ uniq l ↔ m ∈ l := by
  unfold uniq
  rw [mem_uniq_aux]
  simp

/-- The operations ahead of which each may stand, whatever the order: those that it waits for, through others too, left out. -/
def ancs (ops : List Oper) : List (List Nat) :=
  ops.foldl (fun acc o => acc ++ [uniq ((o.after.toList.filter (fun e => Region.binds .any e)).flatMap fun e => e.on :: acc.getD e.on [])]) []

def drawOK (ops : List Oper) (os : List O) : Bool :=
  (os.all fun o => match o.v with
    | some (v, w) => VS.sub w v
    | none => false) &&
  ((ops.zipIdx).all fun (o, j) => o.after.toList.all fun e => !Region.binds .any e || decide (e.on < j)) &&
  ((ancs ops).zipIdx).all fun (an, j) => (List.range j).all fun i => an.contains i || (match os[i]?, os[j]? with
    | some a, some b => indep a b
    | _, _ => false)

def okC (P : Program) : Code → AC → Bool
  | .skip, .skip => true
  | .region _ ops draw, .region os => (ops.toList.mapM (trO P ops) == some (os.map erO)) && (if draw then drawOK ops.toList os else os.all fun o => o.v.isNone)
  | .seq a b, .seq a' b' => okC P a a' && okC P b b'
  | .cond c a b, .cond c' a' b' => (xOf c == some c') && okC P a a' && okC P b b'
  | .block id a, .block id' a' => (id == id') && okC P a a'
  | .loop a, .loop _ a' => okC P a a'
  | c, .keep _ a' => okC P c a'
  | .exit id, .exit id' => id == id'
  | .ret, .ret => true
  | _, _ => false

def okR (P : Program) : ResultVar → RV → Bool
  | .tmp t, .tmp t' => t == t'
  | .cell a t, .cell a' g k => (a == a') && (match aggT P t, sizeT P t with
    | some g', some k' => g == g' && k == (if g' then k' else 1)
    | _, _ => false)
  | _, _ => false

def okRs (P : Program) : List ResultVar → List RV → Bool
  | [], [] => true
  | a :: as, b :: bs => okR P a b && okRs P as bs
  | _, _ => false

def okF (P : Program) (f : Nat) (af : AF) : Bool :=
  match P.funcs[f]? with
  | some fn => (fn.ntmps == af.ntmps) && okRs P fn.results.toList af.results && (fn.name != "runtime.NumGoroutine") && (match fn.body with
    | some c => okC P c af.body
    | none => false)
  | none => false

end Go.Proofs.Ytopcnhojkfeafaa.Am
