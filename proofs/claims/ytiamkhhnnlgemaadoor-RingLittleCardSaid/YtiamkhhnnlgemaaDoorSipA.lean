/- SipHash as the document tells it, on whole numbers, in plain Lean. -/
import Derived.Test.YtiamkhhnnlgemaaDoorProg
import Derived.WalkKit
import Derived.WalkSpells
import Derived.WalkLawsBesides
import Derived.Lib.Hide
namespace Go.Proofs.YtiamkhhnnlgemaaDoor.Sip
open Go.RowKit
set_option linter.unusedVariables false
/-- Rotated left. -/
def rotl (x p q : Int) : Int := bits .or .u64 (IntKind.u64.wrap (x * p)) (x / q)
def xorI (x y : Int) : Int := bits .xor .u64 x y
def addI (x y : Int) : Int := IntKind.u64.wrap (x + y)
/-- Four words. -/
structure S4 where
  a : Int
  b : Int
  c : Int
  d : Int
def roundI (v : S4) : S4 :=
  let a1 := addI v.a v.b
  let b1 := xorI (rotl v.b 8192 2251799813685248) a1
  let a2 := rotl a1 4294967296 4294967296
  let c1 := addI v.c v.d
  let d1 := xorI (rotl v.d 65536 281474976710656) c1
  let a3 := addI a2 d1
  let d2 := xorI (rotl d1 2097152 8796093022208) a3
  let c2 := addI c1 b1
  let b2 := xorI (rotl b1 131072 140737488355328) c2
  let c3 := rotl c2 4294967296 4294967296
  ⟨a3, b2, c3, d2⟩
def takeI (v : S4) (m : Int) : S4 :=
  let u := roundI (roundI { v with d := xorI v.d m })
  { u with a := xorI u.a m }
/-- Bytes as a number, the lowest first. -/
def le : List UInt8 → Nat
  | [] => 0
  | x :: r => x.toNat + 256 * le r
theorem le_lt : ∀ l : List UInt8, le l < 256 ^ l.length
  | [] => by decide
  | x :: r => by
    have h := le_lt r
    have hx := x.toNat_lt
    rw [le, List.length_cons, Nat.pow_succ]
    omega
theorem le_snoc (l : List UInt8) (x : UInt8) : le (l ++ [x]) = le l + x.toNat * 256 ^ l.length := by
  induction l with
  | nil => simp [le]
  | cons y r ih =>
    rw [List.cons_append, le, le, ih, List.length_cons, Nat.pow_succ]
    rw [Nat.mul_add, Nat.add_assoc, ← Nat.mul_assoc, Nat.mul_comm 256 x.toNat, Nat.mul_assoc, Nat.mul_comm (256 ^ r.length) 256]
theorem le_zeros (l : List UInt8) (k : Nat) : le (l ++ List.replicate k 0) = le l := by
  induction k with
  | zero => simp
  | succ k ih =>
    rw [List.replicate_succ', ← List.append_assoc, le_snoc, ih]; simp
/-- Whole words of bytes, and what is left. -/
def blocks (v : S4) (l : List UInt8) : S4 × List UInt8 :=
  if 8 ≤ l.length then blocks (takeI v (le (l.take 8))) (l.drop 8) else (v, l)
termination_by l.length
decreasing_by simp; omega
theorem blocks_ge (v : S4) (l : List UInt8) (h : 8 ≤ l.length) : blocks v l = blocks (takeI v (le (l.take 8))) (l.drop 8) := by
  conv => lhs; rw [blocks.eq_def v l]
  rw [if_pos h]
theorem blocks_end (v : S4) (l : List UInt8) (h : ¬ 8 ≤ l.length) : blocks v l = (v, l) := by rw [blocks.eq_def v l, if_neg h]
theorem blocks_lt (v : S4) (l : List UInt8) : (blocks v l).2.length < 8 := by
  induction v, l using blocks.induct with
  | case1 v l h ih => rw [blocks, if_pos h]; exact ih
  | case2 v l h => rw [blocks, if_neg h]; simpa using h
/-- In parts. -/
theorem blocks_app (v : S4) (a b : List UInt8) : blocks v (a ++ b) = blocks (blocks v a).1 ((blocks v a).2 ++ b) := by
  induction v, a using blocks.induct with
  | case1 v l h ih =>
    rw [blocks, if_pos (by simp; omega), List.take_append_of_le_length h, List.drop_append_of_le_length h, ih]
    conv => rhs; rw [blocks.eq_def v l]
    rw [if_pos h]
  | case2 v l h =>
    conv => rhs; rw [blocks.eq_def v l]
    rw [if_neg h]
def startI (k : List UInt8) : S4 :=
  let x : Int := le (k.take 8)
  let y : Int := le ((k.drop 8).take 8)
  ⟨xorI x 0x736f6d6570736575, xorI y 0x646f72616e646f6d, xorI x 0x6c7967656e657261, xorI y 0x7465646279746573⟩
def endI (v : S4) (left : List UInt8) (n : Nat) : Int :=
  let u := takeI v ((le left + (n % 256) * 2 ^ 56 : Nat) : Int)
  let r := roundI (roundI (roundI (roundI { u with c := xorI u.c 255 })))
  xorI (xorI (xorI r.a r.b) r.c) r.d
/-- The sum of bytes by a key. -/
def sumI (k s : List UInt8) : Int := endI (blocks (startI k) s).1 (blocks (startI k) s).2 s.length
end Go.Proofs.YtiamkhhnnlgemaaDoor.Sip
