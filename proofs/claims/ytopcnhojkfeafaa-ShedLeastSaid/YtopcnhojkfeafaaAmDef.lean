/- AM: an abstract machine for Go code of plain data: its values, its memory, its instructions, and what each comes to. -/
import GoSem.Core.View
namespace Go.Proofs.Ytopcnhojkfeafaa.Am

/-- What a cell holds. -/
inductive C where
  | undef
  | int (k : IntKind) (n : Int)
  | bool (b : Bool)
  | func (f : Nat)
  | nilptr
  | nilsl
  | imm (t : Bool) (k : Nat) (xs : List (List C))
  | fresh (k : Nat) (xs : List (List C))
  | fptr (cs : List C)
  | own (n g k off len : Nat)
  | ptr (n g idx off : Nat)
  | iptr (cs : List C) (off : Nat)
  | mref (n g : Nat)
  deriving Inhabited

/-- A value: a cell, a struct or an array (its cells), several results, nothing. -/
inductive V where
  | c (c : C)
  | agg (cs : List C)
  | tup (vs : List V)
  | none
  | any
  deriving Inhabited

/-- A block of the abstract memory. -/
inductive Blk where
  | row (k g : Nat) (xs : List (List C))
  | map (g : Nat) (es : List (C × V))
  | dead (g : Nat)
  | hid

def genB : Blk → Nat
  | .row _ g _ => g
  | .map g _ => g
  | .dead g => g
  | .hid => 0

abbrev Mem := List (Option Blk)
abbrev St := List V × Mem

/-- Constants. -/
inductive Z where
  | int (k : IntKind) (n : Int)
  | bool (b : Bool)
  | func (f : Nat)
  | nilptr
  | nilsl
  deriving DecidableEq

inductive X where
  | t (n : Nat)
  | k (z : Z)
  | ka (zs : List Z)
  deriving DecidableEq

inductive B where
  | add | sub | mul | quo | rem | and | or | xor | andNot | shl | shr | eql | neq | lss | leq | gtr | geq
  | eqb | neb | eqp | nep | eqs | nes
  | eqa (n : Nat) | nea (n : Nat)
  deriving DecidableEq

inductive U where
  | not | neg | xor
  deriving DecidableEq

inductive I where
  | mov (x : X)
  | pick (c a b : X)
  | alloc (s k : Nat) (z : List Z)
  | box (s k : Nat) (x : X)
  | build (z : List Z) (ps : List (Nat × Nat × X))
  | buildSl (s k : Nat) (z : List Z) (len : Nat) (ps : List (Nat × X))
  | load (agg : Bool) (k : Nat) (a : X)
  | store (k : Nat) (a x : X)
  | nilck (x : X)
  | bin (op : B) (x y : X)
  | un (op : U) (x : X)
  | conv (k : IntKind) (x : X)
  | mksl (s k : Nat) (z : List Z) (l c : X)
  | slc (k : Nat) (x : X) (lo hi : Option X)
  | faddr (off : Nat) (x : X)
  | field (agg : Bool) (off k : Nat) (x : X)
  | ixs (k : Nat) (x i : X)
  | ixa (len k : Nat) (x i : X)
  | index (agg : Bool) (len k : Nat) (x i : X)
  | len (x : X)
  | app (s k : Nat) (a x : X)
  | copy (k : Nat) (a x : X)
  | mn (xs : List X)
  | mx (xs : List X)
  | ext (x : X) (i : Nat)
  | call (s m : Nat) (f : X) (args : List X)
  | mkmap (s : Nat)
  | look (ok agg : Bool) (z : List Z) (m key : X)
  | upd (m key x : X)
  deriving DecidableEq

/-- Some blocks: all but these; only these. -/
inductive VS where
  | but (l : List Nat)
  | only (l : List Nat)
  deriving DecidableEq

def VS.has (bs : Nat) : VS → Nat → Bool
  | .but l, n => !(decide (bs ≤ n) && l.contains (n - bs))
  | .only l, n => decide (bs ≤ n) && l.contains (n - bs)

/-- An operation; in a region whose order is open: which blocks it may see, and which it may write. -/
structure O where
  d : Option Nat
  g : Option (Nat × Bool)
  i : I
  v : Option (VS × VS)
  deriving DecidableEq

/-- What is known of a loop by whoever printed it: which slots live at its head, and behind it; which nil slices are thawed ahead; whether blocks that a round makes are let go. -/
structure Ann where
  live : List Nat
  out : List Nat
  thaw : List (Nat × Option Nat × Nat × Nat)
  trunc : Bool

inductive AC where
  | skip
  | region (ops : List O)
  | seq (a b : AC)
  | cond (c : X) (a b : AC)
  | block (id : Nat) (a : AC)
  | loop (an : Ann) (a : AC)
  | keep (l : List Nat) (a : AC)
  | exit (id : Nat)
  | ret

inductive RV where
  | tmp (t : Nat)
  | cell (a : Nat) (agg : Bool) (k : Nat)
  deriving DecidableEq

structure AF where
  ntmps : Nat
  nblk : Nat
  results : List RV
  body : AC

/-- How a function is called: in the caller's memory; in none, what it is handed being lent (and whether it may hand back new slices); in none, what it is handed being given. -/
inductive Md where
  | state
  | pure (al : Bool)
  | give
  deriving DecidableEq

structure Pg where
  code : Nat → Option AF
  md : Nat → Md
  prim : Nat → Option (List V → Mem → Option (V × Mem))

def ofZ : Z → C
  | .int k n => .int k n
  | .bool b => .bool b
  | .func f => .func f
  | .nilptr => .nilptr
  | .nilsl => .nilsl

def evX (tm : List V) : X → V
  | .t n => tm.getD n .none
  | .k z => .c (ofZ z)
  | .ka zs => .agg (zs.map ofZ)

def V.cells : V → Option (List C)
  | .c x => some [x]
  | .agg xs => some xs
  | _ => Option.none

def splice (cs : List C) (off : Nat) (new : List C) : List C :=
  match new with
  | [c] => cs.set off c
  | _ => cs.take off ++ new ++ cs.drop (off + new.length)

def wf (k : IntKind) (n : Int) : Int := k.wrap n

def evBits (op : B) (k : IntKind) (x y : Int) : Int :=
  let a := BitVec.ofInt k.bits x
  let b := BitVec.ofInt k.bits y
  let r : BitVec k.bits := match op with
    | .and => a &&& b
    | .or => a ||| b
    | .xor => a ^^^ b
    | _ => a &&& ~~~b
  k.wrap r.toNat

def eqC : C → C → Option Bool
  | .int k a, .int k' b => if k = k' then some (a == b) else Option.none
  | _, _ => Option.none

def eqCs : List C → List C → Option Bool
  | [], [] => some true
  | a :: as, b :: bs => match eqC a b with
    | some true => eqCs as bs
    | some false => match eqCs as bs with
      | some _ => some false
      | Option.none => Option.none
    | Option.none => Option.none
  | _, _ => Option.none

def eqPtr : C → C → Option Bool
  | .nilptr, .nilptr => some true
  | .nilptr, .ptr .. => some false
  | .ptr .., .nilptr => some false
  | .nilptr, .iptr .. => some false
  | .iptr .., .nilptr => some false
  | _, _ => Option.none

def eqSl : C → C → Option Bool
  | .nilsl, .nilsl => some true
  | .imm _ _ (_ :: _), .nilsl => some false
  | _, _ => Option.none

def evBinI (op : B) (k : IntKind) (a b : Int) : Option C :=
  match op with
  | .add => some (.int k (k.wrap (a + b)))
  | .sub => some (.int k (k.wrap (a - b)))
  | .mul => some (.int k (k.wrap (a * b)))
  | .quo => if b = 0 then Option.none else some (.int k (k.wrap (a.tdiv b)))
  | .rem => if b = 0 then Option.none else some (.int k (a.tmod b))
  | .and => some (.int k (evBits .and k a b))
  | .or => some (.int k (evBits .or k a b))
  | .xor => some (.int k (evBits .xor k a b))
  | .andNot => some (.int k (evBits .andNot k a b))
  | .eql => some (.bool (a == b))
  | .neq => some (.bool (a != b))
  | .lss => some (.bool (decide (a < b)))
  | .leq => some (.bool (decide (a ≤ b)))
  | .gtr => some (.bool (decide (a > b)))
  | .geq => some (.bool (decide (a ≥ b)))
  | _ => Option.none

def evShift (op : B) (k : IntKind) (a b : Int) : Option C :=
  if b < 0 then Option.none else match op with
  | .shl => some (.int k (k.wrap (a * 2 ^ (min b.toNat k.bits))))
  | .shr => some (.int k (a.fdiv (2 ^ (min b.toNat k.bits))))
  | _ => Option.none

def evBin (op : B) (x y : V) : Option C :=
  match op, x, y with
  | .shl, .c (.int k a), .c (.int _ b) => evShift .shl k a b
  | .shr, .c (.int k a), .c (.int _ b) => evShift .shr k a b
  | .eqb, .c (.bool a), .c (.bool b) => some (.bool (a == b))
  | .neb, .c (.bool a), .c (.bool b) => some (.bool (a != b))
  | .eqp, .c a, .c b => (eqPtr a b).map .bool
  | .nep, .c a, .c b => (eqPtr a b).map fun x => .bool (!x)
  | .eqs, .c a, .c b => (eqSl a b).map .bool
  | .nes, .c a, .c b => (eqSl a b).map fun x => .bool (!x)
  | .eqa n, .agg a, .agg b => if a.length = n ∧ b.length = n then (eqCs a b).map .bool else Option.none
  | .nea n, .agg a, .agg b => if a.length = n ∧ b.length = n then (eqCs a b).map fun x => .bool (!x) else Option.none
  | op, .c (.int k a), .c (.int k' b) => if k = k' then evBinI op k a b else Option.none
  | _, _, _ => Option.none

def evUn (op : U) (x : V) : Option C :=
  match op, x with
  | .not, .c (.bool b) => some (.bool (!b))
  | .neg, .c (.int k n) => some (.int k (k.wrap (0 - n)))
  | .xor, .c (.int k n) => some (.int k (evBits .xor k (if k.signed then -1 else k.max) n))
  | _, _ => Option.none

def asI : V → Option Int
  | .c (.int _ n) => some n
  | _ => Option.none

def asB : V → Option Bool
  | .c (.bool b) => some b
  | _ => Option.none

def rowAt (M : Mem) (n : Nat) : Option (Nat × Nat × List (List C)) :=
  match M.getD n Option.none with
  | some (.row k g xs) => some (k, g, xs)
  | _ => Option.none

def nextG : Option Blk → Nat
  | some B => genB B + 1
  | Option.none => 0

/-- A new block at a place. -/
def setB (M : Mem) (n : Nat) (B : Nat → Blk) : Option Mem :=
  match M[n]? with
  | some (some .hid) => Option.none
  | some old => some (M.set n (some (B (nextG old))))
  | Option.none => Option.none

def genAt (M : Mem) (n : Nat) : Nat := nextG (M.getD n Option.none)

/-- The cells from an address on. -/
def cellsAt (M : Mem) (a : V) (k : Nat) : Option (List C) :=
  match a with
  | .c (.ptr n g idx off) =>
    match rowAt M n with
    | some (_, g', xs) =>
      if g = g' then
        match xs[idx]? with
        | some cs => if off + k ≤ cs.length then some ((cs.drop off).take k) else Option.none
        | Option.none => Option.none
      else Option.none
    | Option.none => Option.none
  | .c (.iptr cs off) => if off + k ≤ cs.length then some ((cs.drop off).take k) else Option.none
  | _ => Option.none

def mkV (agg : Bool) (cs : List C) : Option V :=
  if agg then some (.agg cs) else
  match cs with
  | [c] => some (.c c)
  | _ => Option.none

def storeAt (M : Mem) (a : V) (new : List C) : Option Mem :=
  match a with
  | .c (.ptr n g idx off) =>
    match rowAt M n with
    | some (k, g', xs) =>
      if g = g' then
        match xs[idx]? with
        | some cs => if off + new.length ≤ cs.length then some (M.set n (some (.row k g' (xs.set idx (splice cs off new))))) else Option.none
        | Option.none => Option.none
      else Option.none
    | Option.none => Option.none
  | _ => Option.none

/-- The elements of a slice. -/
def elems (M : Mem) (k : Nat) : V → Option (List (List C))
  | .c .nilsl => some []
  | .c (.imm _ k' xs) => if k = k' then some xs else Option.none
  | .c (.own n g k'' off len) =>
    match rowAt M n with
    | some (k', g', xs) => if g = g' ∧ k = k' ∧ k'' = k ∧ off + len ≤ xs.length then some ((xs.drop off).take len) else Option.none
    | Option.none => Option.none
  | _ => Option.none

def limit : Nat := 16777216

def evApp (M : Mem) (st k : Nat) (s x : V) : Option (V × Mem) :=
  match elems M k x with
  | Option.none => Option.none
  | some ys =>
    match s with
    | .c .nilsl => if ys.length ≤ limit then (setB M st fun g => .row k g ys).map fun M' => (.c (.own st (genAt M st) k 0 ys.length), M') else Option.none
    | .c (.own n g k'' off len) =>
      match rowAt M n with
      | some (k', g', xs) =>
        if g = g' ∧ k = k' ∧ k'' = k ∧ off = 0 ∧ xs.length + ys.length ≤ limit then
          if len = xs.length then some (.c (.own n (g + 1) k 0 (len + ys.length)), M.set n (some (.row k (g + 1) (xs ++ ys))))
          else if len + ys.length ≤ xs.length then
            some (.c (.own n (g + 1) k 0 (len + ys.length)), M.set n (some (.row k (g + 1) (xs.take len ++ ys ++ xs.drop (len + ys.length)))))
          else Option.none
        else Option.none
      | Option.none => Option.none
    | _ => Option.none

def evCopy (M : Mem) (k : Nat) (s x : V) : Option (V × Mem) :=
  match elems M k x, s with
  | some ys, .c (.own n g k'' off len) =>
    match rowAt M n with
    | some (k', g', xs) =>
      if g = g' ∧ k = k' ∧ k'' = k ∧ off + len ≤ xs.length then
        some (.c (.int .i64 (min ys.length len)), M.set n (some (.row k g (xs.take off ++ ys.take (min ys.length len) ++ xs.drop (off + min ys.length len)))))
      else Option.none
    | Option.none => Option.none
  | _, _ => Option.none

def fill (tm : List V) : List C → List (Nat × Nat × X) → Option (List C)
  | cs, [] => some cs
  | cs, (off, k, x) :: ps =>
    match (evX tm x).cells with
    | some new => if new.length = k ∧ off + k ≤ cs.length then fill tm (splice cs off new) ps else Option.none
    | Option.none => Option.none

def fillSl (tm : List V) (k : Nat) : List (List C) → List (Nat × X) → Option (List (List C))
  | xs, [] => some xs
  | xs, (i, x) :: ps =>
    match (evX tm x).cells with
    | some new => if new.length = k ∧ i < xs.length then fillSl tm k (xs.set i new) ps else Option.none
    | Option.none => Option.none

def bound (tm : List V) (d : Nat) : Option X → Option Nat
  | Option.none => some d
  | some x => match asI (evX tm x) with
    | some i => if 0 ≤ i then some i.toNat else Option.none
    | Option.none => Option.none

def evSlc (x : V) (k lo : Nat) (hi : Nat) : Option V :=
  match x with
  | .c (.own n g k' off len) => if lo ≤ hi ∧ hi ≤ len ∧ k = k' then some (.c (.own n g k (off + lo) (hi - lo))) else Option.none
  | .c (.imm t k' xs) => if lo ≤ hi ∧ hi ≤ xs.length ∧ k = k' then some (.c (.imm t k ((xs.take hi).drop lo))) else Option.none
  | .c .nilsl => if lo = 0 ∧ hi = 0 then some (.c .nilsl) else Option.none
  | _ => Option.none

def lenV : V → Option Nat
  | .c (.own _ _ _ _ len) => some len
  | .c (.imm _ _ xs) => some xs.length
  | .c .nilsl => some 0
  | _ => Option.none

/-- Own slices turned into slices that stay as they are: by 't': lent for a call, or for good. -/
def frz (t : Bool) (ok : Nat → Bool) (M : Mem) : Nat → C → Option C
  | 0, _ => Option.none
  | d + 1, c =>
    match c with
    | .own n g k' off len =>
      if ok n then
        match rowAt M n with
        | some (k, g', xs) =>
          if g = g' ∧ k = k' ∧ off + len ≤ xs.length then
            (((xs.drop off).take len).mapM fun (cs : List C) => cs.mapM (frz t ok M d)).map (.imm t k)
          else Option.none
        | Option.none => Option.none
      else Option.none
    | .imm t' k xs => if t' = true ∧ t = false then Option.none else some (.imm t' k xs)
    | .ptr .. => some .undef
    | .iptr .. => some .undef
    | .mref .. => some .undef
    | .fresh .. => Option.none
    | .fptr .. => Option.none
    | c => some c

def depth : Nat := 6

def mapV (f : C → Option C) : V → Option V
  | .c c => (f c).map .c
  | .agg cs => (cs.mapM f).map .agg
  | .none => some .none
  | .any => some .any
  | .tup _ => Option.none

/-- Was there a block at a place? -/
def was (M : Mem) (n : Nat) : Bool := (M.getD n Option.none).isSome

/-- What a loop's round, or a loop, leaves of a cell: 'E': the memory ahead of the loop. -/
def keepC (E M : Mem) : C → Option C
  | .own n g k off len => if was E n then some (.own n g k off len) else frz false (fun n => !was E n) M depth (.own n g k off len)
  | .ptr n g idx off => if was E n then some (.ptr n g idx off) else some .undef
  | .mref n g => if was E n then some (.mref n g) else some .undef
  | c => some c

def keepV (E M : Mem) : V → Option V
  | .tup _ => some .any
  | v => mapV (keepC E M) v

def keepR (E M : Mem) : V → Option V
  | .tup vs => (vs.mapM (keepV E M)).map .tup
  | v => keepV E M v

def keepB (E M : Mem) : Blk → Option Blk
  | .row k g xs => (xs.mapM fun (cs : List C) => cs.mapM (keepC E M)).map fun xs => .row k g xs
  | .map g es => (es.mapM fun (e : C × V) => match keepC E M e.1, keepV E M e.2 with
    | some k, some v => some (k, v)
    | _, _ => Option.none).map fun es => .map g es
  | .dead g => some (.dead g)
  | .hid => some .hid

/-- The memory behind a loop's round: 'E0': what is left of the one ahead of the loop. -/
def keepM (E M : Mem) : Mem → Mem → Option Mem
  | Option.none :: E0, _ :: M0 => (keepM E M E0 M0).map (Option.none :: ·)
  | some _ :: E0, some B :: M0 => match keepB E M B, keepM E M E0 M0 with
    | some B, some M1 => some (some B :: M1)
    | _, _ => Option.none
  | [], _ => some []
  | _, _ => Option.none

def killL (live : List Nat) (i : Nat) : List V → List V
  | [] => []
  | v :: vs => (if live.contains i then v else .any) :: killL live (i + 1) vs

def norm (live : List Nat) (trunc : Bool) (E : Mem) (s : St) : Option St :=
  if trunc then
    match (killL live 0 s.1).mapM (keepV E s.2), keepM E s.2 E s.2 with
    | some tm, some M => some (tm, M)
    | _, _ => Option.none
  else some (killL live 0 s.1, s.2)

def thaw1 (bs : Nat) (s : St) : Nat × Option Nat × Nat × Nat → St
  | (t, Option.none, k, st) =>
    match s.1.getD t .none with
    | .c .nilsl =>
      match setB s.2 (bs + st) fun g => .row k g [] with
      | some M => (s.1.set t (.c (.own (bs + st) (genAt s.2 (bs + st)) k 0 0)), M)
      | Option.none => s
    | _ => s
  | (t, some off, k, st) =>
    match s.1.getD t .none with
    | .c (.ptr n g idx o) =>
      match cellsAt s.2 (.c (.ptr n g idx (o + off))) 1 with
      | some [.nilsl] =>
        match setB s.2 (bs + st) fun g => .row k g [] with
        | some M =>
          match storeAt M (.c (.ptr n g idx (o + off))) [.own (bs + st) (genAt s.2 (bs + st)) k 0 0] with
          | some M => (s.1, M)
          | Option.none => s
        | Option.none => s
      | _ => s
    | _ => s

def thawAll (bs : Nat) (s : St) (l : List (Nat × Option Nat × Nat × Nat)) : St := l.foldl (thaw1 bs) s

/-- What a call hands back, laid into the caller's memory, from a place on. -/
def impC (M : Mem) (st : Nat) : C → Option (C × Mem × Nat)
  | .fresh k xs => (setB M st fun g => .row k g xs).map fun M' => (.own st (genAt M st) k 0 xs.length, M', st + 1)
  | c => some (c, M, st)

def impL : Mem → Nat → List C → Option (List C × Mem × Nat)
  | M, st, [] => some ([], M, st)
  | M, st, c :: cs => match impC M st c with
    | some (c', M', st') => match impL M' st' cs with
      | some (cs', r) => some (c' :: cs', r)
      | Option.none => Option.none
    | Option.none => Option.none

/-- A pointer that a call hands back: its fields first. -/
def impP (M : Mem) (st : Nat) : C → Option (C × Mem × Nat)
  | .fptr cs => match impL M st cs with
    | some (cs', M', st') => (setB M' st' fun g => .row cs.length g [cs']).map fun M'' => (.ptr st' (genAt M' st') 0 0, M'', st' + 1)
    | Option.none => Option.none
  | c => impC M st c

def impV1 (M : Mem) (st : Nat) : V → Option (V × Mem × Nat)
  | .c c => (impP M st c).map fun r => (.c r.1, r.2)
  | .agg cs => (impL M st cs).map fun r => (.agg r.1, r.2)
  | v => some (v, M, st)

def impVs : Mem → Nat → List V → Option (List V × Mem × Nat)
  | M, st, [] => some ([], M, st)
  | M, st, v :: vs => match impV1 M st v with
    | some (v', M', st') => match impVs M' st' vs with
      | some (vs', r) => some (v' :: vs', r)
      | Option.none => Option.none
    | Option.none => Option.none

def impV (M : Mem) (st m : Nat) : V → Option (V × Mem)
  | .tup vs => match impVs M st vs with
    | some (vs', M', st') => if st' ≤ st + m then some (.tup vs', M') else Option.none
    | Option.none => Option.none
  | v => match impV1 M st v with
    | some (v', M', st') => if st' ≤ st + m then some (v', M') else Option.none
    | Option.none => Option.none

def plainC : C → Bool
  | .fresh .. => false
  | .fptr .. => false
  | _ => true

def plainV1 : V → Bool
  | .c c => plainC c
  | .agg cs => cs.all plainC
  | .tup _ => false
  | _ => true

def plainV : V → Bool
  | .tup vs => vs.all plainV1
  | v => plainV1 v

/-- What is given away with a call: its blocks go. -/
def giveC (M : Mem) : C → Option (C × Mem)
  | .own n g k off len =>
    match frz false (fun m => decide (m = n)) M 2 (.own n g k off len) with
    | some c => some (c, M.set n (some (.dead g)))
    | Option.none => Option.none
  | c => match frz false (fun _ => false) M 1 c with
    | some c => some (c, M)
    | Option.none => Option.none

def giveL : Mem → List C → Option (List C × Mem)
  | M, [] => some ([], M)
  | M, c :: cs => match giveC M c with
    | some (c', M') => match giveL M' cs with
      | some (cs', M'') => some (c' :: cs', M'')
      | Option.none => Option.none
    | Option.none => Option.none

def giveV (M : Mem) : V → Option (V × Mem)
  | .c c => (giveC M c).map fun r => (.c r.1, r.2)
  | .agg cs => (giveL M cs).map fun r => (.agg r.1, r.2)
  | _ => Option.none

def giveVs : Mem → List V → Option (List V × Mem)
  | M, [] => some ([], M)
  | M, v :: vs => match giveV M v with
    | some (v', M') => match giveVs M' vs with
      | some (vs', M'') => some (v' :: vs', M'')
      | Option.none => Option.none
    | Option.none => Option.none

/-- What is lent for a call. -/
def lendV (M : Mem) : V → Option V
  | .c (.ptr n g idx off) =>
    match rowAt M n with
    | some (_, g', xs) =>
      if g = g' then
        match xs[idx]? with
        | some cs => (cs.mapM (frz true (fun _ => true) M depth)).map fun cs => .c (.iptr cs off)
        | Option.none => Option.none
      else Option.none
    | Option.none => Option.none
  | .c (.iptr cs off) => some (.c (.iptr cs off))
  | v => mapV (frz true (fun _ => true) M depth) v

abbrev Cl := Nat → List V → Mem → Option (V × Mem)

/-- What a call made behind the caller's memory, let go. -/
def cutM (E : Mem) (r : V) (M : Mem) : Option (V × Mem) :=
  if (M.drop E.length).all Option.isNone then some (r, M.take E.length)
  else match keepR E M r, keepM E M E M with
    | some r, some M' => some (r, M')
    | _, _ => Option.none

def evCall (A : Pg) (cl : Cl) (st m f : Nat) (vs : List V) (M : Mem) : Option (V × Mem) :=
  match A.md f with
  | .state => match cl f vs M with
    | some (r, M') => if m = 0 then cutM M r M' else some (r, M')
    | Option.none => Option.none
  | .pure al =>
    match vs.mapM (lendV M) with
    | some vs' =>
      match cl f vs' [] with
      | some (r, _) => if al then impV M st m r else if plainV r then some (r, M) else Option.none
      | Option.none => Option.none
    | Option.none => Option.none
  | .give =>
    match giveVs M vs with
    | some (vs', M') =>
      match cl f vs' [] with
      | some (r, _) => impV M' st m r
      | Option.none => Option.none
    | Option.none => Option.none

def keyEq : C → C → Option Bool
  | .int k a, .int k' b => if k = k' then some (a == b) else Option.none
  | _, _ => Option.none

def lookM (key : C) : List (C × V) → Option (Option V)
  | [] => some Option.none
  | (k, v) :: es => match keyEq key k with
    | some true => some (some v)
    | some false => lookM key es
    | Option.none => Option.none

def updM (key : C) (x : V) : List (C × V) → Option (List (C × V))
  | [] => some [(key, x)]
  | (k, v) :: es => match keyEq key k with
    | some true => some ((key, x) :: es)
    | some false => (updM key x es).map ((k, v) :: ·)
    | Option.none => Option.none

def mapAt (M : Mem) (n : Nat) : Option (Nat × List (C × V)) :=
  match M.getD n Option.none with
  | some (.map g es) => some (g, es)
  | _ => Option.none

def minL : IntKind → Int → List V → Option Int
  | _, m, [] => some m
  | k, m, .c (.int k' n) :: vs => if k = k' then minL k (if n < m then n else m) vs else Option.none
  | _, _, _ => Option.none

def maxL : IntKind → Int → List V → Option Int
  | _, m, [] => some m
  | k, m, .c (.int k' n) :: vs => if k = k' then maxL k (if m < n then n else m) vs else Option.none
  | _, _, _ => Option.none

def evI (A : Pg) (cl : Cl) (bs : Nat) (tm : List V) (M : Mem) : I → Option (V × Mem)
  | .mov x => some (evX tm x, M)
  | .pick c a b => match asB (evX tm c) with
    | some b' => some (if b' then evX tm a else evX tm b, M)
    | Option.none => Option.none
  | .alloc s k z => (setB M (bs + s) fun g => .row k g [z.map ofZ]).map fun M' => (.c (.ptr (bs + s) (genAt M (bs + s)) 0 0), M')
  | .box s k x => match (evX tm x).cells with
    | some cs => if cs.length = k then (setB M (bs + s) fun g => .row k g [cs]).map fun M' => (.c (.ptr (bs + s) (genAt M (bs + s)) 0 0), M') else Option.none
    | Option.none => Option.none
  | .build z ps => (fill tm (z.map ofZ) ps).map fun cs => (.agg cs, M)
  | .buildSl s k z len ps =>
    match fillSl tm k (List.replicate len (z.map ofZ)) ps with
    | some xs => (setB M (bs + s) fun g => .row k g xs).map fun M' => (.c (.own (bs + s) (genAt M (bs + s)) k 0 len), M')
    | Option.none => Option.none
  | .load agg k a => match cellsAt M (evX tm a) k with
    | some cs => (mkV agg cs).map fun v => (v, M)
    | Option.none => Option.none
  | .store k a x => match (evX tm x).cells with
    | some cs => if cs.length = k then (storeAt M (evX tm a) cs).map fun M => (.none, M) else Option.none
    | Option.none => Option.none
  | .nilck x => match evX tm x with
    | .c (.ptr n g idx off) => some (.c (.ptr n g idx off), M)
    | .c (.iptr cs off) => some (.c (.iptr cs off), M)
    | _ => Option.none
  | .bin op x y => (evBin op (evX tm x) (evX tm y)).map fun c => (.c c, M)
  | .un op x => (evUn op (evX tm x)).map fun c => (.c c, M)
  | .conv k x => (asI (evX tm x)).map fun n => (.c (.int k (k.wrap n)), M)
  | .mksl s k z l c =>
    match evX tm l, evX tm c with
    | .c (.int .i64 l), .c (.int .i64 c) =>
      if 0 ≤ l ∧ l ≤ c ∧ c ≤ limit then (setB M (bs + s) fun g => .row k g (List.replicate l.toNat (z.map ofZ))).map fun M' => (.c (.own (bs + s) (genAt M (bs + s)) k 0 l.toNat), M') else Option.none
    | _, _ => Option.none
  | .slc k x lo hi =>
    match lenV (evX tm x) with
    | some n =>
      match bound tm 0 lo, bound tm n hi with
      | some l, some h => (evSlc (evX tm x) k l h).map fun v => (v, M)
      | _, _ => Option.none
    | Option.none => Option.none
  | .faddr off x => match evX tm x with
    | .c (.ptr n g idx o) => some (.c (.ptr n g idx (o + off)), M)
    | .c (.iptr cs o) => some (.c (.iptr cs (o + off)), M)
    | _ => Option.none
  | .field agg off k x => match evX tm x with
    | .agg cs => if off + k ≤ cs.length then (mkV agg ((cs.drop off).take k)).map fun v => (v, M) else Option.none
    | _ => Option.none
  | .ixs k x i =>
    match evX tm x, asI (evX tm i) with
    | .c (.own n g k' off len), some i => if 0 ≤ i ∧ i < len ∧ k = k' then some (.c (.ptr n g (off + i.toNat) 0), M) else Option.none
    | .c (.imm _ k' xs), some i => if 0 ≤ i ∧ i < xs.length ∧ k = k' then some (.c (.iptr (xs.getD i.toNat []) 0), M) else Option.none
    | _, _ => Option.none
  | .ixa len k x i =>
    match evX tm x, asI (evX tm i) with
    | .c (.ptr n g idx o), some i => if 0 ≤ i ∧ i < len then some (.c (.ptr n g idx (o + i.toNat * k)), M) else Option.none
    | .c (.iptr cs o), some i => if 0 ≤ i ∧ i < len then some (.c (.iptr cs (o + i.toNat * k)), M) else Option.none
    | _, _ => Option.none
  | .index agg len k x i =>
    match evX tm x, asI (evX tm i) with
    | .agg cs, some i => if 0 ≤ i ∧ i < len ∧ i.toNat * k + k ≤ cs.length then (mkV agg ((cs.drop (i.toNat * k)).take k)).map fun v => (v, M) else Option.none
    | _, _ => Option.none
  | .len x => (lenV (evX tm x)).map fun n => (.c (.int .i64 n), M)
  | .app s k a x => evApp M (bs + s) k (evX tm a) (evX tm x)
  | .copy k a x => evCopy M k (evX tm a) (evX tm x)
  | .mn xs => match xs.map (evX tm) with
    | .c (.int k n) :: vs => (minL k n vs).map fun m => (.c (.int k m), M)
    | _ => Option.none
  | .mx xs => match xs.map (evX tm) with
    | .c (.int k n) :: vs => (maxL k n vs).map fun m => (.c (.int k m), M)
    | _ => Option.none
  | .ext x i => match evX tm x with
    | .tup vs => (vs[i]?).map fun v => (v, M)
    | _ => Option.none
  | .call s m f args => match evX tm f with
    | .c (.func f) => evCall A cl (bs + s) m f (args.map (evX tm)) M
    | _ => Option.none
  | .mkmap s => (setB M (bs + s) fun g => .map g []).map fun M' => (.c (.mref (bs + s) (genAt M (bs + s))), M')
  | .look ok agg z m key =>
    match evX tm m, evX tm key with
    | .c (.mref n g), .c key =>
      match mapAt M n with
      | some (g', es) =>
        if g = g' then
          match lookM key es with
          | some (some v) => some (if ok then .tup [v, .c (.bool true)] else v, M)
          | some Option.none => (mkV agg (z.map ofZ)).map fun v => (if ok then .tup [v, .c (.bool false)] else v, M)
          | Option.none => Option.none
        else Option.none
      | Option.none => Option.none
    | _, _ => Option.none
  | .upd m key x =>
    match evX tm m, evX tm key, (evX tm x).cells with
    | .c (.mref n g), .c key, some _ =>
      match mapAt M n with
      | some (g', es) => if g = g' then (updM key (evX tm x) es).map fun es => (.none, M.set n (some (.map g es))) else Option.none
      | Option.none => Option.none
    | _, _, _ => Option.none

def setD (d : Option Nat) (v : V) (tm : List V) : List V :=
  match d with
  | some d => tm.set d v
  | Option.none => tm

/-- Is an operation carried out? -/
def wanted (tm : List V) : Option (Nat × Bool) → Option Bool
  | Option.none => some true
  | some (t, b) => match tm.getD t .none with
    | .c (.bool x) => some (x == b)
    | .none => some false
    | _ => Option.none

/-- The memory, but for what is not to be seen. -/
def seeFrom (bs : Nat) (v : VS) : Nat → Mem → Mem
  | _, [] => []
  | n, B :: M => (if v.has bs n then B else some .hid) :: seeFrom bs v (n + 1) M

def see (bs : Nat) (v : VS) (M : Mem) : Mem := seeFrom bs v 0 M

/-- The memory with what was written. -/
def mergeFrom (bs : Nat) (v : VS) : Nat → Mem → Mem → Mem
  | n, B :: M, B' :: N => (if v.has bs n then B' else B) :: mergeFrom bs v (n + 1) M N
  | _, [], N => N
  | _, M, [] => M

def merge (bs : Nat) (v : VS) (M N : Mem) : Mem := mergeFrom bs v 0 M N

/-- The own slices on a value's surface. -/
def topsC : C → List Nat
  | .own n .. => [n]
  | _ => []

def topsA : V → List Nat
  | .c c => topsC c
  | .agg cs => cs.flatMap topsC
  | _ => []

def tgtV : V → List Nat
  | .c (.own n ..) => [n]
  | .c (.ptr n ..) => [n]
  | .c (.mref n _) => [n]
  | _ => []

/-- Which blocks an instruction may write: none: any. -/
def tgt (A : Pg) (bs : Nat) (tm : List V) : I → Option (List Nat)
  | .alloc s .. | .box s .. | .buildSl s .. | .mksl s .. | .mkmap s => some [bs + s]
  | .store _ a _ | .copy _ a _ | .upd a _ _ => some (tgtV (evX tm a))
  | .app s _ a _ => some ((bs + s) :: tgtV (evX tm a))
  | .call s m f args => match evX tm f with
    | .c (.func f) => match A.md f with
      | .pure true => some ((List.range m).map (bs + s + ·))
      | .pure false => some []
      | .give => some ((List.range m).map (bs + s + ·) ++ (args.map (evX tm)).flatMap topsA)
      | .state => Option.none
    | _ => Option.none
  | _ => some []

def VS.sub : VS → VS → Bool
  | .only a, .only b => a.all b.contains
  | .only a, .but b => a.all fun n => !b.contains n
  | .but a, .but b => b.all a.contains
  | .but _, .only _ => false

/-- Does an instruction leave blocks behind the memory that was? -/
def growsI (A : Pg) (tm : List V) : I → Bool
  | .call _ m f _ => match evX tm f with
    | .c (.func f) => match A.md f with
      | .state => m != 0
      | _ => false
    | _ => false
  | _ => false

def tgtOK (bs : Nat) (v w : VS) (t : Option (List Nat)) : Bool :=
  VS.sub w v && (match t with
    | some l => l.all (w.has bs)
    | Option.none => v == w)

def evO (A : Pg) (cl : Cl) (bs : Nat) (o : O) (s : St) : Option St :=
  match wanted s.1 o.g with
  | some true =>
    match o.v with
    | Option.none => match evI A cl bs s.1 s.2 o.i with
      | some (v, M) => some (setD o.d v s.1, M)
      | Option.none => Option.none
    | some (vi, wr) =>
      if (tgtOK bs vi wr (tgt A bs s.1 o.i) && !growsI A s.1 o.i) = true then
        match evI A cl bs s.1 (see bs vi s.2) o.i with
        | some (v, N) => some (setD o.d v s.1, merge bs wr s.2 N)
        | Option.none => Option.none
      else Option.none
  | some false => some (setD o.d .none s.1, s.2)
  | Option.none => Option.none

def evOs (A : Pg) (cl : Cl) (bs : Nat) : List O → St → Option St
  | [], s => some s
  | o :: os, s => match evO A cl bs o s with
    | some s' => evOs A cl bs os s'
    | Option.none => Option.none

inductive Ex where
  | normal
  | exit (id : Nat)
  | ret
  deriving DecidableEq

def iter (step : St → Option (Ex × St)) (nrm out : St → Option St) : Nat → St → Option (Ex × St)
  | 0, _ => Option.none
  | n + 1, s => match step s with
    | some (.normal, s') => match nrm s' with
      | some s'' => iter step nrm out n s''
      | Option.none => Option.none
    | some (e, s') => (out s').map fun s => (e, s)
    | Option.none => Option.none

def evC (A : Pg) (cl : Cl) (bs n : Nat) : AC → St → Option (Ex × St)
  | .skip, s => some (.normal, s)
  | .region ops, s => (evOs A cl bs ops s).map fun s => (.normal, s)
  | .seq a b, s => match evC A cl bs n a s with
    | some (.normal, s') => evC A cl bs n b s'
    | r => r
  | .cond c a b, s => match asB (evX s.1 c) with
    | some true => evC A cl bs n a s
    | some false => evC A cl bs n b s
    | Option.none => Option.none
  | .block id a, s => match evC A cl bs n a s with
    | some (.exit id', s') => if id' = id then some (.normal, s') else some (.exit id', s')
    | r => r
  | .loop an a, s =>
    match norm an.live an.trunc (thawAll bs s an.thaw).2 (thawAll bs s an.thaw) with
    | some s1 => iter (evC A cl bs n a) (norm an.live an.trunc s1.2) (norm an.out an.trunc s1.2) n s1
    | Option.none => Option.none
  | .keep l a, s => evC A cl bs n a (killL l 0 s.1, s.2)
  | .exit id, s => some (.exit id, s)
  | .ret, s => some (.ret, s)

def evRV (s : St) : RV → Option V
  | .tmp t => match s.1.getD t .none with
    | .c c => some (.c c)
    | .agg cs => some (.agg cs)
    | _ => Option.none
  | .cell a agg k => match cellsAt s.2 (s.1.getD a .none) k with
    | some cs => mkV agg cs
    | Option.none => Option.none

def evRes (rs : List RV) (s : St) : Option V :=
  match rs.mapM (evRV s) with
  | some [v] => some v
  | some vs => some (.tup vs)
  | Option.none => Option.none

/-- The own slices, and pointers, on the surface of results. -/
def topsP (M : Mem) : C → List Nat
  | .ptr n .. => match rowAt M n with
    | some (_, _, [cs]) => n :: cs.flatMap topsC
    | _ => [n]
  | c => topsC c

def topsV1 (M : Mem) : V → List Nat
  | .c c => topsP M c
  | .agg cs => cs.flatMap topsC
  | _ => []

def topsV (M : Mem) : V → List Nat
  | .tup vs => vs.flatMap (topsV1 M)
  | v => topsV1 M v

def expC (M : Mem) (tops : List Nat) : C → Option C
  | .own n g k' off len =>
    match rowAt M n with
    | some (k, g', xs) =>
      if g = g' ∧ k = k' ∧ off + len ≤ xs.length then
        (((xs.drop off).take len).mapM fun (cs : List C) => cs.mapM (frz false (fun n => !tops.contains n) M depth)).map (.fresh k)
      else Option.none
    | Option.none => Option.none
  | .ptr .. => Option.none
  | .mref .. => Option.none
  | .iptr .. => Option.none
  | c => frz false (fun _ => false) M 1 c

def expP (M : Mem) (tops : List Nat) : C → Option C
  | .ptr n g idx off =>
    match rowAt M n with
    | some (_, g', [cs]) => if g = g' ∧ idx = 0 ∧ off = 0 then (cs.mapM (expC M tops)).map .fptr else Option.none
    | _ => Option.none
  | c => expC M tops c

def expV1 (M : Mem) (tops : List Nat) : V → Option V
  | .c c => (expP M tops c).map .c
  | .agg cs => (cs.mapM (expC M tops)).map .agg
  | _ => Option.none

def expV (M : Mem) (tops : List Nat) : V → Option V
  | .tup vs => (vs.mapM (expV1 M tops)).map .tup
  | v => expV1 M tops v

def nodupB : List Nat → Bool
  | [] => true
  | n :: ns => !ns.contains n && nodupB ns

def evRet (A : Pg) (f : Nat) (r : V) (M : Mem) : Option (V × Mem) :=
  match A.md f with
  | .state => some (r, M)
  | _ => if nodupB (topsV M r) then (expV M (topsV M r) r).map fun r => (r, []) else Option.none

def startTm (n : Nat) (args : List V) : List V := args ++ List.replicate (n - args.length) .none

def evF (A : Pg) (ev : Nat → AC → St → Option (Ex × St)) (f : Nat) (args : List V) (M : Mem) : Option (V × Mem) :=
  match A.prim f with
  | some p => p args M
  | Option.none =>
    match A.code f with
    | Option.none => Option.none
    | some af =>
      match ev M.length af.body (startTm af.ntmps args, M ++ List.replicate af.nblk Option.none) with
      | some (.exit _, _) => Option.none
      | some (_, s) => match evRes af.results s with
        | some r => evRet A f r s.2
        | Option.none => Option.none
      | Option.none => Option.none

def runF (A : Pg) : Nat → Cl
  | 0 => fun _ _ _ => Option.none
  | n + 1 => fun f args M => evF A (fun bs => evC A (runF A n) bs n) f args M

end Go.Proofs.Ytopcnhojkfeafaa.Am
