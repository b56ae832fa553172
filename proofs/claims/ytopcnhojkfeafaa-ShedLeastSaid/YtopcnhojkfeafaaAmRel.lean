/- AM: what its values and its memory say of Go's: the relation, and how it lasts. -/
import Derived.Test.YtopcnhojkfeafaaAmDef
import Derived.Below
import Derived.Orders
namespace Go.Proofs.Ytopcnhojkfeafaa.Am
open Go.RowKit

/-- Where a block's row lies: nowhere yet; nowhere, it being nil; in a block, from a cell on, each element so many cells, so many elements in all. -/
inductive BI where
  | unset
  | nil
  | at (b o k tc : Nat)

structure Env where
  be : Nat → Nat → BI
  F : Nat → Prop
  base : Nat

def oneC : Value → Bool
  | .agg _ => false
  | .tuple _ => false
  | _ => true

def at2 (xs : List (List C)) (i j : Nat) : C := (xs.getD i []).getD j .undef

/-- A cell that leads to nothing that may be written. -/
inductive RI (w : World) (F T : Nat → Prop) : Bool → C → Value → Prop
  | undef (l : Bool) (x : Value) (h : oneC x = true) : RI w F T l .undef x
  | int (l : Bool) (k : IntKind) (n : Int) : RI w F T l (.int k n) (.int k n)
  | bool (l b : Bool) : RI w F T l (.bool b) (.bool b)
  | func (l : Bool) (f : Nat) : RI w F T l (.func f) (.func (.func f) #[] #[])
  | nilptr (l : Bool) : RI w F T l .nilptr (.pointer none)
  | nilsl (l : Bool) : RI w F T l .nilsl (.slice none 0 0)
  | immN (l t : Bool) (k : Nat) (A : Option Addr) (cap : Nat) : RI w F T l (.imm t k []) (.slice A 0 cap)
  | imm (l t : Bool) (k : Nat) (xs : List (List C)) (b o cap : Nat) (f : Nat → Nat → Value) (hl : t = true → l = true) (hb : F b ∨ (t = true ∧ T b)) (h0 : 0 < xs.length) (hc : xs.length ≤ cap)
      (hk : ∀ i, i < xs.length → (xs.getD i []).length = k) (hf : ∀ i j, i < xs.length → j < k → w.cell? ⟨b, o + (i * k + j), none⟩ = some (f i j))
      (hr : ∀ i j, i < xs.length → j < k → RI w F T t (at2 xs i j) (f i j)) : RI w F T l (.imm t k xs) (.slice (some ⟨b, o, none⟩) xs.length cap)

/-- A cell. -/
inductive R (w : World) (Γ : Env) : C → Value → Prop
  | im {c : C} {x : Value} (h : RI w Γ.F (fun b => b < Γ.base) true c x) : R w Γ c x
  | ownN (n g k : Nat) (h : Γ.be n g = .nil) : R w Γ (.own n g k 0 0) (.slice none 0 0)
  | own (n g off len b o k tc : Nat) (A : Option Addr) (cap : Nat) (h : Γ.be n g = .at b o k tc) (hc : off + cap = tc) (hl : len ≤ cap) (hA : cap ≠ 0 → A = some ⟨b, o + off * k, none⟩) : R w Γ (.own n g k off len) (.slice A len cap)
  | ptr (n g idx off b o k tc : Nat) (h : Γ.be n g = .at b o k tc) : R w Γ (.ptr n g idx off) (.pointer (some ⟨b, o + (idx * k + off), none⟩))
  | iptr (cs : List C) (off b o : Nat) (f : Nat → Value) (hb : Γ.F b ∨ b < Γ.base) (hf : ∀ j, j < cs.length → w.cell? ⟨b, o + j, none⟩ = some (f j))
      (hr : ∀ j, j < cs.length → RI w Γ.F (fun b => b < Γ.base) true (cs.getD j .undef) (f j)) : R w Γ (.iptr cs off) (.pointer (some ⟨b, o + off, none⟩))
  | mref (n g b : Nat) (h : Γ.be n g = .at b 0 0 0) : R w Γ (.mref n g) (.map (some b))

def RL (w : World) (Γ : Env) : List C → List Value → Prop
  | [], [] => True
  | c :: cs, y :: ys => R w Γ c y ∧ RL w Γ cs ys
  | _, _ => False

def RV1 (w : World) (Γ : Env) : V → Value → Prop
  | .c c, x => R w Γ c x
  | .agg cs, x => ∃ ys : List Value, x = .agg ys.toArray ∧ RL w Γ cs ys
  | .none, x => x = undef
  | .any, _ => True
  | .tup _, _ => False

def RVs (w : World) (Γ : Env) : List V → List Value → Prop
  | [], [] => True
  | v :: vs, y :: ys => RV1 w Γ v y ∧ RVs w Γ vs ys
  | _, _ => False

def RVal (w : World) (Γ : Env) : V → Value → Prop
  | .tup vs, x => ∃ ys : List Value, x = .tuple ys.toArray ∧ RVs w Γ vs ys
  | v, x => RV1 w Γ v x

def RowR (w : World) (Γ : Env) (n k g : Nat) (xs : List (List C)) : Prop :=
  (Γ.be n g = .nil ∧ xs = []) ∨
  ∃ b o tc arr E, Γ.be n g = .at b o k tc ∧ Γ.base ≤ b ∧ ¬ Γ.F b ∧ xs.length ≤ tc ∧ w.heap[b]? = some (.cells arr E (0, 0)) ∧ arr.size = o + tc * k ∧
    (∀ i, i < xs.length → (xs.getD i []).length = k) ∧ ∀ i j, i < xs.length → j < k → ∃ v, arr[o + (i * k + j)]? = some v ∧ R w Γ (at2 xs i j) v

def EntR (w : World) (Γ : Env) : List (C × V) → List MapEntry → Prop
  | [], [] => True
  | (k, v) :: es, m :: ms => R w Γ k m.key ∧ RV1 w Γ v m.val ∧ EntR w Γ es ms
  | _, _ => False

def MapR (w : World) (Γ : Env) (n g : Nat) (es : List (C × V)) : Prop :=
  ∃ b ents clock, Γ.be n g = .at b 0 0 0 ∧ Γ.base ≤ b ∧ ¬ Γ.F b ∧ w.heap[b]? = some (.map ents clock) ∧ EntR w Γ es ents.toList

def BlkR (w : World) (Γ : Env) (n : Nat) : Blk → Prop
  | .row k g xs => RowR w Γ n k g xs
  | .map g es => MapR w Γ n g es
  | .dead _ => True
  | .hid => True

def live : Blk → Bool
  | .dead _ => false
  | .hid => false
  | _ => true

/-- As far as a block's generations are told. -/
def Up : Blk → Nat → Prop
  | .hid, _ => True
  | B, g => g ≤ genB B

def Later (B B' : Blk) : Prop := (B = .hid → B' = .hid) ∧ genB B ≤ genB B'

theorem Up.of {B : Blk} {g : Nat} (h : g ≤ genB B) : Up B g := by cases B <;> first | exact h | trivial

theorem Up.le {B : Blk} {g : Nat} (h : Up B g) (hB : B ≠ .hid) : g ≤ genB B := by cases B <;> first | exact h | exact absurd rfl hB

theorem Up.later {B B' : Blk} {g : Nat} (h : Up B g) (hL : Later B B') : Up B' g := by
  by_cases e : B = .hid
  · rw [hL.1 e]; trivial
  · exact Up.of (Nat.le_trans (h.le e) hL.2)

theorem Later.refl (B : Blk) : Later B B := ⟨fun h => h, Nat.le_refl _⟩

theorem Later.trans {B B1 B2 : Blk} (h : Later B B1) (k : Later B1 B2) : Later B B2 := ⟨fun e => k.1 (h.1 e), Nat.le_trans h.2 k.2⟩

def Owned (Γ : Env) (M : Mem) (b : Nat) : Prop := ∃ n B o k tc, M.getD n none = some B ∧ live B = true ∧ Γ.be n (genB B) = .at b o k tc

structure Sim (w : World) (Γ : Env) (M : Mem) : Prop where
  blk : ∀ n B, M.getD n none = some B → BlkR w Γ n B
  apart : ∀ n n' B B' b o k tc o' k' tc', M.getD n none = some B → M.getD n' none = some B' → live B = true → live B' = true → Γ.be n (genB B) = .at b o k tc → Γ.be n' (genB B') = .at b o' k' tc' → n = n'
  bound : ∀ n g, Γ.be n g ≠ .unset → n < M.length
  holes : ∀ n, M.getD n none = none → ∀ g, Γ.be n g = .unset
  gens : ∀ n B, M.getD n none = some B → ∀ g, ¬ Up B g → Γ.be n g = .unset
  base : Γ.base ≤ w.heap.size
  Fb : ∀ b, Γ.F b → b < w.heap.size

/-- Every place. -/
abbrev All : Nat → Prop := fun _ => True

theorem all {M : Mem} : ∀ n B, M.getD n none = some B → All n := fun _ _ _ => trivial

structure Ext (D : Nat → Prop) (w : World) (Γ : Env) (M : Mem) (w' : World) (Γ' : Env) (M' : Mem) : Prop where
  os : w'.os = w.os
  tape : w'.tape = w.tape
  output : w'.output = w.output
  size : w.heap.size ≤ w'.heap.size
  base : Γ'.base = Γ.base
  F : ∀ b, Γ.F b → Γ'.F b
  Fnew : ∀ b, Γ'.F b → Γ.F b ∨ Owned Γ M b ∨ w.heap.size ≤ b
  own : ∀ b, Owned Γ' M' b → Owned Γ M b ∨ w.heap.size ≤ b
  fr : ∀ b, b < w.heap.size → ¬ Owned Γ M b → w'.heap[b]? = w.heap[b]?
  stay : ∀ n, D n → ∀ B, M.getD n none = some B → (∃ B', M'.getD n none = some B' ∧ Later B B') ∧ ∀ g, Up B g → Γ'.be n g = Γ.be n g

theorem Ext.refl (D : Nat → Prop) (w : World) (Γ : Env) (M : Mem) : Ext D w Γ M w Γ M := ⟨rfl, rfl, rfl, Nat.le_refl _, rfl, fun _ h => h, fun _ h => .inl h, fun _ h => .inl h, fun _ _ _ => rfl, fun _ _ B h => ⟨⟨B, h, Later.refl _⟩, fun _ _ => rfl⟩⟩

theorem Ext.trans {N : Nat → Prop} {w w1 w2 : World} {Γ Γ1 Γ2 : Env} {M M1 M2 : Mem} (h : Ext N w Γ M w1 Γ1 M1) (k : Ext N w1 Γ1 M1 w2 Γ2 M2) : Ext N w Γ M w2 Γ2 M2 := by
  refine ⟨k.os.trans h.os, k.tape.trans h.tape, k.output.trans h.output, Nat.le_trans h.size k.size, k.base.trans h.base, fun b hb => k.F b (h.F b hb), ?_, ?_, ?_, ?_⟩
  · intro b hb
    rcases k.Fnew b hb with h1 | h1 | h1
    · exact h.Fnew b h1
    · exact .inr (h.own b h1)
    · exact .inr (.inr (Nat.le_trans h.size h1))
  · intro b hb
    rcases k.own b hb with h1 | h1
    · exact h.own b h1
    · exact .inr (Nat.le_trans h.size h1)
  · intro b hb ho
    rw [k.fr b (Nat.lt_of_lt_of_le hb h.size) (fun h1 => by
      rcases h.own b h1 with h2 | h2
      · exact ho h2
      · omega), h.fr b hb ho]
  · intro n hn B hB
    obtain ⟨⟨B1, h1, h2⟩, h3⟩ := h.stay n hn B hB
    obtain ⟨⟨B2, h4, h5⟩, h6⟩ := k.stay n hn B1 h1
    exact ⟨⟨B2, h4, h2.trans h5⟩, fun g hg => (h6 g (hg.later h2)).trans (h3 g hg)⟩

theorem Ext.mono {N N' : Nat → Prop} {w w1 : World} {Γ Γ1 : Env} {M M1 : Mem} (h : Ext N w Γ M w1 Γ1 M1) (hN : ∀ n, N' n → N n) : Ext N' w Γ M w1 Γ1 M1 :=
  ⟨h.os, h.tape, h.output, h.size, h.base, h.F, h.Fnew, h.own, h.fr, fun n hn => h.stay n (hN n hn)⟩

theorem Sim.notOwned {w : World} {Γ : Env} {M : Mem} (hS : Sim w Γ M) {b : Nat} (hb : Γ.F b ∨ b < Γ.base) : ¬ Owned Γ M b := by
  rintro ⟨n, B, o, k, tc, hM, hl, hbe⟩
  have h := hS.blk n B hM
  cases B with
  | row k' g xs =>
    rcases h with ⟨h1, _⟩ | ⟨b', o', tc', arr, E, h1, h2, h3, _⟩
    · simp only [genB] at hbe; rw [h1] at hbe; cases hbe
    · simp only [genB] at hbe; rw [h1] at hbe; injection hbe with e1 e2 e3 e4; subst e1
      rcases hb with hb | hb
      · exact h3 hb
      · omega
  | map g es =>
    obtain ⟨b', ents, clock, h1, h2, h3, _⟩ := h
    simp only [genB] at hbe; rw [h1] at hbe; injection hbe with e1 e2 e3 e4; subst e1
    rcases hb with hb | hb
    · exact h3 hb
    · omega
  | dead g => cases hl
  | hid => cases hl

theorem Ext.keep {N : Nat → Prop} {w w' : World} {Γ Γ' : Env} {M M' : Mem} (hS : Sim w Γ M) (he : Ext N w Γ M w' Γ' M') (b : Nat) (hb : Γ.F b ∨ b < Γ.base) : w'.heap[b]? = w.heap[b]? :=
  he.fr b (by rcases hb with h | h; exact hS.Fb b h; exact Nat.lt_of_lt_of_le h hS.base) (hS.notOwned hb)

theorem Ext.be {N : Nat → Prop} {w w' : World} {Γ Γ' : Env} {M M' : Mem} (hS : Sim w Γ M) (he : Ext N w Γ M w' Γ' M') (hN : ∀ n B, M.getD n none = some B → N n) (n g : Nat) (hu : Γ.be n g ≠ .unset) : Γ'.be n g = Γ.be n g := by
  cases hM : M.getD n none with
  | none => exact absurd (hS.holes n hM g) hu
  | some B =>
    refine (he.stay n (hN n B hM) B hM).2 g ?_
    by_cases h : Up B g
    · exact h
    · exact absurd (hS.gens n B hM g h) hu

theorem cell_of_heap {w w' : World} {b : Nat} (h : w'.heap[b]? = w.heap[b]?) (o : Nat) (s : Option Nat) : w'.cell? ⟨b, o, s⟩ = w.cell? ⟨b, o, s⟩ := by
  simp only [World.cell?, h]

theorem cell_eq {w : World} {b : Nat} {arr : Array Value} {E : TypeId} {fr : Nat × Nat} (h : w.heap[b]? = some (.cells arr E fr)) (o : Nat) : w.cell? ⟨b, o, none⟩ = arr[o]? := by
  simp only [World.cell?, h]
  simp

theorem RI.mono {w w' : World} {F F' T T' : Nat → Prop} (hF : ∀ b, F b → F' b) (hT : ∀ b, T b → F' b ∨ T' b) (hw : ∀ b, F b ∨ T b → w'.heap[b]? = w.heap[b]?) {l : Bool} {c : C} {x : Value}
    (h : RI w F T l c x) : RI w' F' T' l c x := by
  induction h with
  | undef l x h => exact .undef l x h
  | int l k n => exact .int l k n
  | bool l b => exact .bool l b
  | func l f => exact .func l f
  | nilptr l => exact .nilptr l
  | nilsl l => exact .nilsl l
  | immN l t k A cap => exact .immN l t k A cap
  | imm l t k xs b o cap f hl hb h0 hc hk hf hr ih =>
    have hb' : F b ∨ T b := by rcases hb with h | h; exact .inl h; exact .inr h.2
    refine .imm l t k xs b o cap f hl ?_ h0 hc hk ?_ ih
    · rcases hb with h | h
      · exact .inl (hF _ h)
      · rcases hT _ h.2 with h2 | h2
        · exact .inl h2
        · exact .inr ⟨h.1, h2⟩
    · intro i j hi hj
      rw [cell_of_heap (hw b hb')]
      exact hf i j hi hj

theorem RI.up {w : World} {F T : Nat → Prop} {l : Bool} {c : C} {x : Value} (h : RI w F T l c x) : RI w F T true c x := by
  cases h with
  | undef l x h => exact .undef _ x h
  | int l k n => exact .int _ k n
  | bool l b => exact .bool _ b
  | func l f => exact .func _ f
  | nilptr l => exact .nilptr _
  | nilsl l => exact .nilsl _
  | immN l t k A cap => exact .immN _ t k A cap
  | imm l t k xs b o cap f hl hb h0 hc hk hf hr => exact .imm _ t k xs b o cap f (fun _ => rfl) hb h0 hc hk hf hr

theorem RI.one {w : World} {F T : Nat → Prop} {l : Bool} {c : C} {x : Value} (h : RI w F T l c x) : oneC x = true := by
  cases h <;> first | rfl | assumption

theorem R.one {w : World} {Γ : Env} {c : C} {x : Value} (h : R w Γ c x) : oneC x = true := by
  cases h with
  | im h => exact h.one
  | ownN n g k h => rfl
  | own n g off len b o k tc A cap h hc hl hA => rfl
  | ptr n g idx off b o k tc h => rfl
  | iptr cs off b o f hb hf hr => rfl
  | mref n g b h => rfl

theorem R.mono {N : Nat → Prop} {w w' : World} {Γ Γ' : Env} {M M' : Mem} (hS : Sim w Γ M) (he : Ext N w Γ M w' Γ' M') (hN : ∀ n B, M.getD n none = some B → N n) {c : C} {x : Value} (h : R w Γ c x) : R w' Γ' c x := by
  have hm : ∀ {l c x}, RI w Γ.F (fun b => b < Γ.base) l c x → RI w' Γ'.F (fun b => b < Γ'.base) l c x := fun h =>
    h.mono he.F (fun b hb => .inr (by show b < Γ'.base; rw [he.base]; exact hb)) (he.keep hS)
  have hbe : ∀ n g X, Γ.be n g = X → X ≠ .unset → Γ'.be n g = X := fun n g X hX hu => by
    have hu' : Γ.be n g ≠ .unset := by rw [hX]; exact hu
    rw [he.be hS hN n g hu', hX]
  cases h with
  | im h => exact .im (hm h)
  | ownN n g k h => exact .ownN n g k (hbe _ _ _ h (by simp))
  | own n g off len b o k tc A cap h hc hl hA => exact .own n g off len b o k tc A cap (hbe _ _ _ h (by simp)) hc hl hA
  | ptr n g idx off b o k tc h => exact .ptr n g idx off b o k tc (hbe _ _ _ h (by simp))
  | iptr cs off b o f hb hf hr =>
    refine .iptr cs off b o f ?_ ?_ (fun j hj => hm (hr j hj))
    · rcases hb with hb | hb
      · exact .inl (he.F b hb)
      · exact .inr (by rw [he.base]; exact hb)
    · intro j hj
      rw [cell_of_heap (he.keep hS b hb)]
      exact hf j hj
  | mref n g b h => exact .mref n g b (hbe _ _ _ h (by simp))

theorem RL.mono {N : Nat → Prop} {w w' : World} {Γ Γ' : Env} {M M' : Mem} (hS : Sim w Γ M) (he : Ext N w Γ M w' Γ' M') (hN : ∀ n B, M.getD n none = some B → N n) : ∀ {cs : List C} {ys : List Value}, RL w Γ cs ys → RL w' Γ' cs ys
  | [], [], _ => trivial
  | _ :: _, _ :: _, h => ⟨h.1.mono hS he hN, RL.mono hS he hN h.2⟩
  | [], _ :: _, h => h
  | _ :: _, [], h => h

theorem RV1.mono {N : Nat → Prop} {w w' : World} {Γ Γ' : Env} {M M' : Mem} (hS : Sim w Γ M) (he : Ext N w Γ M w' Γ' M') (hN : ∀ n B, M.getD n none = some B → N n) : ∀ {v : V} {x : Value}, RV1 w Γ v x → RV1 w' Γ' v x
  | .c _, _, h => R.mono hS he hN h
  | .agg _, _, ⟨ys, e, h⟩ => ⟨ys, e, RL.mono hS he hN h⟩
  | .none, _, h => h
  | .any, _, h => h
  | .tup _, _, h => h

theorem RVs.mono {N : Nat → Prop} {w w' : World} {Γ Γ' : Env} {M M' : Mem} (hS : Sim w Γ M) (he : Ext N w Γ M w' Γ' M') (hN : ∀ n B, M.getD n none = some B → N n) : ∀ {vs : List V} {ys : List Value}, RVs w Γ vs ys → RVs w' Γ' vs ys
  | [], [], _ => trivial
  | _ :: _, _ :: _, h => ⟨RV1.mono hS he hN h.1, RVs.mono hS he hN h.2⟩
  | [], _ :: _, h => h
  | _ :: _, [], h => h

theorem RVal.mono {N : Nat → Prop} {w w' : World} {Γ Γ' : Env} {M M' : Mem} (hS : Sim w Γ M) (he : Ext N w Γ M w' Γ' M') (hN : ∀ n B, M.getD n none = some B → N n) : ∀ {v : V} {x : Value}, RVal w Γ v x → RVal w' Γ' v x
  | .c _, _, h => RV1.mono (v := .c _) hS he hN h
  | .agg _, _, h => RV1.mono (v := .agg _) hS he hN h
  | .none, _, h => h
  | .any, _, h => h
  | .tup _, _, ⟨ys, e, h⟩ => ⟨ys, e, RVs.mono hS he hN h⟩

theorem EntR.mono {N : Nat → Prop} {w w' : World} {Γ Γ' : Env} {M M' : Mem} (hS : Sim w Γ M) (he : Ext N w Γ M w' Γ' M') (hN : ∀ n B, M.getD n none = some B → N n) : ∀ {es : List (C × V)} {ms : List MapEntry}, EntR w Γ es ms → EntR w' Γ' es ms
  | [], [], _ => trivial
  | (_, _) :: _, _ :: _, h => ⟨h.1.mono hS he hN, RV1.mono hS he hN h.2.1, EntR.mono hS he hN h.2.2⟩
  | [], _ :: _, h => h
  | (_, _) :: _, [], h => h

/-- What is told of the slots. -/
def Tm (w : World) (Γ : Env) (tm : List V) (a : Act) : Prop := a.tmps.size = tm.length ∧ ∀ t, t < tm.length → RVal w Γ (tm.getD t .none) (a.tmps.getD t undef)

theorem Tm.get {w : World} {Γ : Env} {tm : List V} {a : Act} (h : Tm w Γ tm a) (t : Nat) : RVal w Γ (tm.getD t .none) (a.tmps.getD t undef) := by
  by_cases ht : t < tm.length
  · exact h.2 t ht
  · rw [List.getD_eq_getElem?_getD, List.getElem?_eq_none (by omega), Array.getD_eq_getD_getElem?, Array.getElem?_eq_none (by rw [h.1]; omega)]
    rfl

theorem Tm.mono {N : Nat → Prop} {w w' : World} {Γ Γ' : Env} {M M' : Mem} (hS : Sim w Γ M) (he : Ext N w Γ M w' Γ' M') (hN : ∀ n B, M.getD n none = some B → N n) {tm : List V} {a : Act} (h : Tm w Γ tm a) : Tm w' Γ' tm a :=
  ⟨h.1, fun t ht => (h.2 t ht).mono hS he hN⟩

theorem Tm.put {w : World} {Γ : Env} {tm : List V} {a : Act} (h : Tm w Γ tm a) (d : Option Nat) {v : V} {x : Value} (hv : RVal w Γ v x) : Tm w Γ (setD d v tm) (a.put d x) := by
  cases d with
  | none => exact h
  | some d =>
    refine ⟨by simp [setD, Act.put, h.1], fun t ht => ?_⟩
    simp only [setD, List.length_set] at ht
    simp only [setD, Act.put, List.getD_eq_getElem?_getD, Array.getD_eq_getD_getElem?, List.getElem?_set, Array.getElem?_setIfInBounds]
    by_cases e : d = t
    · subst e
      simp only [if_true, ht, h.1]
      exact hv
    · simp only [if_neg e]
      have := h.2 t ht
      simpa only [List.getD_eq_getElem?_getD, Array.getD_eq_getD_getElem?] using this

/-! ### One block put in the place of another -/

def Env.put (Γ : Env) (n g : Nat) (i : BI) : Env := { Γ with be := fun n' g' => if n' = n ∧ g' = g then i else Γ.be n' g' }

theorem Env.put_same (Γ : Env) (n g : Nat) (i : BI) : (Γ.put n g i).be n g = i := by simp [Env.put]
theorem Env.put_other (Γ : Env) {n g : Nat} (i : BI) {n' g' : Nat} (h : ¬ (n' = n ∧ g' = g)) : (Γ.put n g i).be n' g' = Γ.be n' g' := by simp only [Env.put, if_neg h]

theorem getD_set_same {M : Mem} {n : Nat} (h : n < M.length) (B : Option Blk) : (M.set n B).getD n none = B := by
  simp [List.getD_eq_getElem?_getD, h]
theorem getD_set_other {M : Mem} {n m : Nat} (h : n ≠ m) (B : Option Blk) : (M.set n B).getD m none = M.getD m none := by
  simp [List.getD_eq_getElem?_getD, List.getElem?_set, h]

/-- Does a place own a block? -/
def OwnedBy (Γ : Env) (M : Mem) (n b : Nat) : Prop := ∃ B o k tc, M.getD n none = some B ∧ live B = true ∧ Γ.be n (genB B) = .at b o k tc

/-- What is asked of a block that takes the place of another: 'hchg': of old blocks that place's own alone may have turned; 'hi': it lies there, or in a new one. -/
structure Put (w : World) (Γ : Env) (M : Mem) (w' : World) (n g : Nat) (i : BI) : Prop where
  hn : n < M.length
  hh : M.getD n none ≠ some .hid
  hu : (∀ B0, M.getD n none = some B0 → genB B0 < g) ∨ ∃ B0, M.getD n none = some B0 ∧ genB B0 = g ∧ Γ.be n g = i
  hgen : ∀ g', g < g' → Γ.be n g' = .unset
  os : w'.os = w.os
  tape : w'.tape = w.tape
  output : w'.output = w.output
  size : w.heap.size ≤ w'.heap.size
  hchg : ∀ b, b < w.heap.size → ¬ OwnedBy Γ M n b → w'.heap[b]? = w.heap[b]?
  hi : ∀ b o k tc, i = .at b o k tc → (w.heap.size ≤ b ∧ b < w'.heap.size) ∨ OwnedBy Γ M n b

theorem Put.ext {w w' : World} {Γ : Env} {M : Mem} {n g : Nat} {i : BI} (h : Put w Γ M w' n g i) {B : Blk} (hB : genB B = g) : Ext All w Γ M w' (Γ.put n g i) (M.set n (some B)) := by
  refine ⟨h.os, h.tape, h.output, h.size, rfl, fun _ h => h, fun _ h => .inl h, ?_, ?_, ?_⟩
  · rintro b ⟨m, B', o, k, tc, hM, hl, hbe⟩
    by_cases e : n = m
    · subst e
      rw [getD_set_same h.hn] at hM
      injection hM with hM; subst hM
      rw [hB, Env.put_same] at hbe
      rcases h.hi b o k tc hbe with h1 | ⟨B', o, k, tc, h1⟩
      · exact .inr h1.1
      · exact .inl ⟨n, B', o, k, tc, h1⟩
    · rw [getD_set_other e] at hM
      rw [Env.put_other _ _ (by rintro ⟨e1, _⟩; exact e e1.symm)] at hbe
      exact .inl ⟨m, B', o, k, tc, hM, hl, hbe⟩
  · intro b hb ho
    exact h.hchg b hb fun ⟨B, o, k, tc, h1⟩ => ho ⟨n, B, o, k, tc, h1⟩
  · intro m _ B0 hM
    by_cases e : n = m
    · subst e
      rw [getD_set_same h.hn]
      have hne : B0 ≠ .hid := fun e => h.hh (by rw [hM, e])
      refine ⟨⟨B, rfl, fun e => absurd e hne, ?_⟩, fun g' hg' => ?_⟩
      · rcases h.hu with h1 | ⟨B1, h1, h2, _⟩
        · have := h1 B0 hM; omega
        · rw [hM] at h1; injection h1 with h1; subst h1; omega
      · have hg' := hg'.le hne
        by_cases e : g' = g
        · subst e
          rcases h.hu with h1 | ⟨B1, h1, h2, h3⟩
          · have := h1 B0 hM; omega
          · rw [Env.put_same, h3]
        · exact Env.put_other _ _ (fun h => e h.2)
    · rw [getD_set_other e]
      exact ⟨⟨B0, hM, Later.refl _⟩, fun g' _ => Env.put_other _ _ (fun h => e h.1.symm)⟩

theorem BlkR.mono {N : Nat → Prop} {w w' : World} {Γ Γ' : Env} {M M' : Mem} (hS : Sim w Γ M) (he : Ext N w Γ M w' Γ' M') (hN : ∀ n B, M.getD n none = some B → N n) {n : Nat} {B : Blk} (hM : M.getD n none = some B) (hk : ∀ b, OwnedBy Γ M n b → w'.heap[b]? = w.heap[b]?)
    (hF : ∀ b, OwnedBy Γ M n b → ¬ Γ'.F b) (h : BlkR w Γ n B) : BlkR w' Γ' n B := by
  have hbe : ∀ X, Γ.be n (genB B) = X → X ≠ .unset → Γ'.be n (genB B) = X := fun X hX hu => by
    have hu' : Γ.be n (genB B) ≠ .unset := by rw [hX]; exact hu
    rw [he.be hS hN n _ hu', hX]
  cases B with
  | row k g xs =>
    rcases h with ⟨h1, h2⟩ | ⟨b, o, tc, arr, E, h1, h2, h3, h4, h5, h6, h7, h8⟩
    · exact .inl ⟨hbe _ h1 (by simp), h2⟩
    · have hb : OwnedBy Γ M n b := ⟨_, o, k, tc, hM, rfl, h1⟩
      refine .inr ⟨b, o, tc, arr, E, hbe _ h1 (by simp), by rw [he.base]; exact h2, hF b hb, h4, by rw [hk b hb]; exact h5, h6, h7, fun i j hi hj => ?_⟩
      obtain ⟨v, hv, hr⟩ := h8 i j hi hj
      exact ⟨v, hv, hr.mono hS he hN⟩
  | map g es =>
    obtain ⟨b, ents, clock, h1, h2, h3, h4, h5⟩ := h
    have hb : OwnedBy Γ M n b := ⟨_, 0, 0, 0, hM, rfl, h1⟩
    exact ⟨b, ents, clock, hbe _ h1 (by simp), by rw [he.base]; exact h2, hF b hb, by rw [hk b hb]; exact h4, h5.mono hS he hN⟩
  | dead g => trivial
  | hid => trivial

theorem OwnedBy.lt {w : World} {Γ : Env} {M : Mem} (hS : Sim w Γ M) {n b : Nat} (h : OwnedBy Γ M n b) : b < w.heap.size ∧ Γ.base ≤ b ∧ ¬ Γ.F b := by
  obtain ⟨B, o, k, tc, hM, hl, hbe⟩ := h
  have hB := hS.blk n B hM
  have hlt : ∀ {b : Nat} {x : Obj}, w.heap[b]? = some x → b < w.heap.size := fun h => (Array.getElem?_eq_some_iff.1 h).1
  cases B with
  | row k' g xs =>
    rcases hB with ⟨h1, _⟩ | ⟨b', o', tc', arr, E, h1, h2, h3, _, h5, _⟩
    · simp only [genB] at hbe; rw [h1] at hbe; cases hbe
    · simp only [genB] at hbe; rw [h1] at hbe; injection hbe with e1 e2 e3 e4; subst e1
      exact ⟨hlt h5, h2, h3⟩
  | map g es =>
    obtain ⟨b', ents, clock, h1, h2, h3, h4, _⟩ := hB
    simp only [genB] at hbe; rw [h1] at hbe; injection hbe with e1 e2 e3 e4; subst e1
    exact ⟨hlt h4, h2, h3⟩
  | dead g => cases hl
  | hid => cases hl

theorem OwnedBy.inj {w : World} {Γ : Env} {M : Mem} (hS : Sim w Γ M) {n m b : Nat} (h : OwnedBy Γ M n b) (k : OwnedBy Γ M m b) : n = m := by
  obtain ⟨B, o, k1, tc, hM, hl, hbe⟩ := h
  obtain ⟨B', o', k', tc', hM', hl', hbe'⟩ := k
  exact hS.apart n m B B' b o k1 tc o' k' tc' hM hM' hl hl' hbe hbe'

theorem Put.sim {w w' : World} {Γ : Env} {M : Mem} {n g : Nat} {i : BI} (hS : Sim w Γ M) (h : Put w Γ M w' n g i) {B : Blk} (hB : genB B = g) (hblk : BlkR w' (Γ.put n g i) n B) : Sim w' (Γ.put n g i) (M.set n (some B)) := by
  have he := h.ext hB
  have hby : ∀ m b, m ≠ n → OwnedBy (Γ.put n g i) (M.set n (some B)) m b → OwnedBy Γ M m b := by
    rintro m b hm ⟨B', o, k, tc, hM, hl, hbe⟩
    rw [getD_set_other (fun e => hm e.symm)] at hM
    rw [Env.put_other _ _ (fun e => hm e.1)] at hbe
    exact ⟨B', o, k, tc, hM, hl, hbe⟩
  have hbn : ∀ b, OwnedBy (Γ.put n g i) (M.set n (some B)) n b → (w.heap.size ≤ b ∧ b < w'.heap.size) ∨ OwnedBy Γ M n b := by
    rintro b ⟨B', o, k, tc, hM, hl, hbe⟩
    rw [getD_set_same h.hn] at hM
    injection hM with hM; subst hM
    rw [hB, Env.put_same] at hbe
    exact h.hi b o k tc hbe
  refine ⟨?_, ?_, ?_, ?_, ?_, Nat.le_trans hS.base h.size, fun b hb => Nat.lt_of_lt_of_le (hS.Fb b hb) h.size⟩
  · intro m B' hM
    by_cases e : n = m
    · subst e
      rw [getD_set_same h.hn] at hM
      injection hM with hM; subst hM
      exact hblk
    · rw [getD_set_other e] at hM
      refine BlkR.mono hS he all hM (fun b hb => ?_) (fun b hb => (hb.lt hS).2.2) (hS.blk m B' hM)
      exact h.hchg b (hb.lt hS).1 fun hb' => e (hb'.inj hS hb)
  · intro m m' B1 B2 b o k tc o' k' tc' hM hM' hl hl' hbe hbe'
    have o1 : OwnedBy (Γ.put n g i) (M.set n (some B)) m b := ⟨B1, o, k, tc, hM, hl, hbe⟩
    have o2 : OwnedBy (Γ.put n g i) (M.set n (some B)) m' b := ⟨B2, o', k', tc', hM', hl', hbe'⟩
    by_cases e1 : m = n
    · by_cases e2 : m' = n
      · rw [e1, e2]
      · subst e1
        have p2 := hby _ _ e2 o2
        rcases hbn b o1 with h1 | h1
        · have := (p2.lt hS).1; omega
        · exact h1.inj hS p2
    · by_cases e2 : m' = n
      · subst e2
        have p1 := hby _ _ e1 o1
        rcases hbn b o2 with h1 | h1
        · have := (p1.lt hS).1; omega
        · exact p1.inj hS h1
      · exact (hby _ _ e1 o1).inj hS (hby _ _ e2 o2)
  · intro m g' hu
    rw [List.length_set]
    by_cases e : m = n ∧ g' = g
    · rw [e.1]; exact h.hn
    · rw [Env.put_other _ _ e] at hu
      exact hS.bound m g' hu
  · intro m hM g'
    by_cases e : n = m
    · subst e
      rw [getD_set_same h.hn] at hM
      cases hM
    · rw [getD_set_other e] at hM
      rw [Env.put_other _ _ (fun e' => e e'.1.symm)]
      exact hS.holes m hM g'
  · intro m B' hM g' hg'
    by_cases e : n = m
    · subst e
      rw [getD_set_same h.hn] at hM
      injection hM with hM; subst hM
      have hg' : genB B < g' := by
        rcases Nat.lt_or_ge (genB B) g' with c | c
        · exact c
        · exact absurd (Up.of c) hg'
      rw [Env.put_other _ _ (by rintro ⟨_, e⟩; omega)]
      exact h.hgen g' (by omega)
    · rw [getD_set_other e] at hM
      rw [Env.put_other _ _ (fun e' => e e'.1.symm)]
      exact hS.gens m B' hM g' hg'

end Go.Proofs.Ytopcnhojkfeafaa.Am
