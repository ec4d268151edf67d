/-
  The abstract machine over a program of the model: its values, its heap, its steps. Definitions.
-/
import GoSem.Step
set_option linter.unusedVariables false
set_option linter.unusedSimpArgs false
/-! ## The abstract machine: values, memory, rows of cells. Definitions only (written by mk1.py). -/
namespace Go.Cx
noncomputable section

inductive I8 where | i0 | i1 | i2 | i3 | i4 | i5 | i6 | i7
  deriving DecidableEq

structure N8 (α : Type) where
  s0 : α
  s1 : α
  s2 : α
  s3 : α
  s4 : α
  s5 : α
  s6 : α
  s7 : α

def N8.all {α : Type} (x : α) : N8 α := ⟨x, x, x, x, x, x, x, x⟩

/-- The names of blocks. -/
structure Id where
  d0 : I8
  d1 : I8
  d2 : I8
  d3 : I8
  d4 : I8
  d5 : I8

def I8.num (i : I8) : Nat := I8.rec (motive := fun _ => Nat) 0 1 2 3 4 5 6 7 i
def Id.num (i : Id) : Nat := Nat.add (Nat.mul (Nat.add (Nat.mul (Nat.add (Nat.mul (Nat.add (Nat.mul (Nat.add (Nat.mul i.d0.num 8) i.d1.num) 8) i.d2.num) 8) i.d3.num) 8) i.d4.num) 8) i.d5.num

inductive AVal where
  | top
  | bad
  | bool (b : Bool)
  | int (k : IntKind) (n : Int)
  | float (k : FloatKind) (n : Nat)
  | str (n d : Nat)
  | nilp
  | ptr (i : Id) (off : Nat)
  | nils
  | slice (i : Id) (off len cap : Nat)
  | slicu (i : Id) (off len lo esz : Nat)
  | nilm
  | map (i : Id)
  | nilf
  | func (fn : Fn) (first cap : List AVal)
  | nili
  | iface (t : Nat) (v : AVal)
  | agg (l : List AVal)
  | aggi (k : IntKind) (n d : Nat)
  | tup (l : List AVal)
  | opq (i : Nat)

structure ME where
  key : AVal
  val : AVal
  born : Nat

inductive Blk where
  | none
  | cells (l : List AVal)
  | ints (k : IntKind) (n d : Nat)
  | map (l : List ME) (clock : Nat)
  | miter (m : AVal) (since : Nat)
  | mcur (m : Id) (born clock : Nat)
  | siter (n d pos : Nat)
  | kvar (v : AVal)

abbrev HT5 := N8 (Blk)
def h5g (i : I8) (t : N8 (Blk)) : Blk := I8.rec (motive := fun _ => N8 (Blk) → Blk) (@N8.s0 (Blk)) (@N8.s1 (Blk)) (@N8.s2 (Blk)) (@N8.s3 (Blk)) (@N8.s4 (Blk)) (@N8.s5 (Blk)) (@N8.s6 (Blk)) (@N8.s7 (Blk)) i t
def h5s0 (v : Blk) (t : N8 (Blk)) : N8 (Blk) := N8.rec (motive := fun _ => (Blk) → N8 (Blk)) (fun _ x1 x2 x3 x4 x5 x6 x7 v => ⟨v, x1, x2, x3, x4, x5, x6, x7⟩) t v
def h5s1 (v : Blk) (t : N8 (Blk)) : N8 (Blk) := N8.rec (motive := fun _ => (Blk) → N8 (Blk)) (fun x0 _ x2 x3 x4 x5 x6 x7 v => ⟨x0, v, x2, x3, x4, x5, x6, x7⟩) t v
def h5s2 (v : Blk) (t : N8 (Blk)) : N8 (Blk) := N8.rec (motive := fun _ => (Blk) → N8 (Blk)) (fun x0 x1 _ x3 x4 x5 x6 x7 v => ⟨x0, x1, v, x3, x4, x5, x6, x7⟩) t v
def h5s3 (v : Blk) (t : N8 (Blk)) : N8 (Blk) := N8.rec (motive := fun _ => (Blk) → N8 (Blk)) (fun x0 x1 x2 _ x4 x5 x6 x7 v => ⟨x0, x1, x2, v, x4, x5, x6, x7⟩) t v
def h5s4 (v : Blk) (t : N8 (Blk)) : N8 (Blk) := N8.rec (motive := fun _ => (Blk) → N8 (Blk)) (fun x0 x1 x2 x3 _ x5 x6 x7 v => ⟨x0, x1, x2, x3, v, x5, x6, x7⟩) t v
def h5s5 (v : Blk) (t : N8 (Blk)) : N8 (Blk) := N8.rec (motive := fun _ => (Blk) → N8 (Blk)) (fun x0 x1 x2 x3 x4 _ x6 x7 v => ⟨x0, x1, x2, x3, x4, v, x6, x7⟩) t v
def h5s6 (v : Blk) (t : N8 (Blk)) : N8 (Blk) := N8.rec (motive := fun _ => (Blk) → N8 (Blk)) (fun x0 x1 x2 x3 x4 x5 _ x7 v => ⟨x0, x1, x2, x3, x4, x5, v, x7⟩) t v
def h5s7 (v : Blk) (t : N8 (Blk)) : N8 (Blk) := N8.rec (motive := fun _ => (Blk) → N8 (Blk)) (fun x0 x1 x2 x3 x4 x5 x6 _ v => ⟨x0, x1, x2, x3, x4, x5, x6, v⟩) t v
def h5s (i : I8) (v : Blk) (t : N8 (Blk)) : N8 (Blk) := I8.rec (motive := fun _ => (Blk) → N8 (Blk) → N8 (Blk)) h5s0 h5s1 h5s2 h5s3 h5s4 h5s5 h5s6 h5s7 i v t
theorem h5g_s (i j : I8) (v : Blk) (t : N8 (Blk)) : h5g i (h5s j v t) = if i = j then v else h5g i t := by cases i <;> cases j <;> rfl
abbrev HT4 := N8 (HT5)
def h4g (i : I8) (t : N8 (HT5)) : HT5 := I8.rec (motive := fun _ => N8 (HT5) → HT5) (@N8.s0 (HT5)) (@N8.s1 (HT5)) (@N8.s2 (HT5)) (@N8.s3 (HT5)) (@N8.s4 (HT5)) (@N8.s5 (HT5)) (@N8.s6 (HT5)) (@N8.s7 (HT5)) i t
def h4s0 (v : HT5) (t : N8 (HT5)) : N8 (HT5) := N8.rec (motive := fun _ => (HT5) → N8 (HT5)) (fun _ x1 x2 x3 x4 x5 x6 x7 v => ⟨v, x1, x2, x3, x4, x5, x6, x7⟩) t v
def h4s1 (v : HT5) (t : N8 (HT5)) : N8 (HT5) := N8.rec (motive := fun _ => (HT5) → N8 (HT5)) (fun x0 _ x2 x3 x4 x5 x6 x7 v => ⟨x0, v, x2, x3, x4, x5, x6, x7⟩) t v
def h4s2 (v : HT5) (t : N8 (HT5)) : N8 (HT5) := N8.rec (motive := fun _ => (HT5) → N8 (HT5)) (fun x0 x1 _ x3 x4 x5 x6 x7 v => ⟨x0, x1, v, x3, x4, x5, x6, x7⟩) t v
def h4s3 (v : HT5) (t : N8 (HT5)) : N8 (HT5) := N8.rec (motive := fun _ => (HT5) → N8 (HT5)) (fun x0 x1 x2 _ x4 x5 x6 x7 v => ⟨x0, x1, x2, v, x4, x5, x6, x7⟩) t v
def h4s4 (v : HT5) (t : N8 (HT5)) : N8 (HT5) := N8.rec (motive := fun _ => (HT5) → N8 (HT5)) (fun x0 x1 x2 x3 _ x5 x6 x7 v => ⟨x0, x1, x2, x3, v, x5, x6, x7⟩) t v
def h4s5 (v : HT5) (t : N8 (HT5)) : N8 (HT5) := N8.rec (motive := fun _ => (HT5) → N8 (HT5)) (fun x0 x1 x2 x3 x4 _ x6 x7 v => ⟨x0, x1, x2, x3, x4, v, x6, x7⟩) t v
def h4s6 (v : HT5) (t : N8 (HT5)) : N8 (HT5) := N8.rec (motive := fun _ => (HT5) → N8 (HT5)) (fun x0 x1 x2 x3 x4 x5 _ x7 v => ⟨x0, x1, x2, x3, x4, x5, v, x7⟩) t v
def h4s7 (v : HT5) (t : N8 (HT5)) : N8 (HT5) := N8.rec (motive := fun _ => (HT5) → N8 (HT5)) (fun x0 x1 x2 x3 x4 x5 x6 _ v => ⟨x0, x1, x2, x3, x4, x5, x6, v⟩) t v
def h4s (i : I8) (v : HT5) (t : N8 (HT5)) : N8 (HT5) := I8.rec (motive := fun _ => (HT5) → N8 (HT5) → N8 (HT5)) h4s0 h4s1 h4s2 h4s3 h4s4 h4s5 h4s6 h4s7 i v t
theorem h4g_s (i j : I8) (v : HT5) (t : N8 (HT5)) : h4g i (h4s j v t) = if i = j then v else h4g i t := by cases i <;> cases j <;> rfl
abbrev HT3 := N8 (HT4)
def h3g (i : I8) (t : N8 (HT4)) : HT4 := I8.rec (motive := fun _ => N8 (HT4) → HT4) (@N8.s0 (HT4)) (@N8.s1 (HT4)) (@N8.s2 (HT4)) (@N8.s3 (HT4)) (@N8.s4 (HT4)) (@N8.s5 (HT4)) (@N8.s6 (HT4)) (@N8.s7 (HT4)) i t
def h3s0 (v : HT4) (t : N8 (HT4)) : N8 (HT4) := N8.rec (motive := fun _ => (HT4) → N8 (HT4)) (fun _ x1 x2 x3 x4 x5 x6 x7 v => ⟨v, x1, x2, x3, x4, x5, x6, x7⟩) t v
def h3s1 (v : HT4) (t : N8 (HT4)) : N8 (HT4) := N8.rec (motive := fun _ => (HT4) → N8 (HT4)) (fun x0 _ x2 x3 x4 x5 x6 x7 v => ⟨x0, v, x2, x3, x4, x5, x6, x7⟩) t v
def h3s2 (v : HT4) (t : N8 (HT4)) : N8 (HT4) := N8.rec (motive := fun _ => (HT4) → N8 (HT4)) (fun x0 x1 _ x3 x4 x5 x6 x7 v => ⟨x0, x1, v, x3, x4, x5, x6, x7⟩) t v
def h3s3 (v : HT4) (t : N8 (HT4)) : N8 (HT4) := N8.rec (motive := fun _ => (HT4) → N8 (HT4)) (fun x0 x1 x2 _ x4 x5 x6 x7 v => ⟨x0, x1, x2, v, x4, x5, x6, x7⟩) t v
def h3s4 (v : HT4) (t : N8 (HT4)) : N8 (HT4) := N8.rec (motive := fun _ => (HT4) → N8 (HT4)) (fun x0 x1 x2 x3 _ x5 x6 x7 v => ⟨x0, x1, x2, x3, v, x5, x6, x7⟩) t v
def h3s5 (v : HT4) (t : N8 (HT4)) : N8 (HT4) := N8.rec (motive := fun _ => (HT4) → N8 (HT4)) (fun x0 x1 x2 x3 x4 _ x6 x7 v => ⟨x0, x1, x2, x3, x4, v, x6, x7⟩) t v
def h3s6 (v : HT4) (t : N8 (HT4)) : N8 (HT4) := N8.rec (motive := fun _ => (HT4) → N8 (HT4)) (fun x0 x1 x2 x3 x4 x5 _ x7 v => ⟨x0, x1, x2, x3, x4, x5, v, x7⟩) t v
def h3s7 (v : HT4) (t : N8 (HT4)) : N8 (HT4) := N8.rec (motive := fun _ => (HT4) → N8 (HT4)) (fun x0 x1 x2 x3 x4 x5 x6 _ v => ⟨x0, x1, x2, x3, x4, x5, x6, v⟩) t v
def h3s (i : I8) (v : HT4) (t : N8 (HT4)) : N8 (HT4) := I8.rec (motive := fun _ => (HT4) → N8 (HT4) → N8 (HT4)) h3s0 h3s1 h3s2 h3s3 h3s4 h3s5 h3s6 h3s7 i v t
theorem h3g_s (i j : I8) (v : HT4) (t : N8 (HT4)) : h3g i (h3s j v t) = if i = j then v else h3g i t := by cases i <;> cases j <;> rfl
abbrev HT2 := N8 (HT3)
def h2g (i : I8) (t : N8 (HT3)) : HT3 := I8.rec (motive := fun _ => N8 (HT3) → HT3) (@N8.s0 (HT3)) (@N8.s1 (HT3)) (@N8.s2 (HT3)) (@N8.s3 (HT3)) (@N8.s4 (HT3)) (@N8.s5 (HT3)) (@N8.s6 (HT3)) (@N8.s7 (HT3)) i t
def h2s0 (v : HT3) (t : N8 (HT3)) : N8 (HT3) := N8.rec (motive := fun _ => (HT3) → N8 (HT3)) (fun _ x1 x2 x3 x4 x5 x6 x7 v => ⟨v, x1, x2, x3, x4, x5, x6, x7⟩) t v
def h2s1 (v : HT3) (t : N8 (HT3)) : N8 (HT3) := N8.rec (motive := fun _ => (HT3) → N8 (HT3)) (fun x0 _ x2 x3 x4 x5 x6 x7 v => ⟨x0, v, x2, x3, x4, x5, x6, x7⟩) t v
def h2s2 (v : HT3) (t : N8 (HT3)) : N8 (HT3) := N8.rec (motive := fun _ => (HT3) → N8 (HT3)) (fun x0 x1 _ x3 x4 x5 x6 x7 v => ⟨x0, x1, v, x3, x4, x5, x6, x7⟩) t v
def h2s3 (v : HT3) (t : N8 (HT3)) : N8 (HT3) := N8.rec (motive := fun _ => (HT3) → N8 (HT3)) (fun x0 x1 x2 _ x4 x5 x6 x7 v => ⟨x0, x1, x2, v, x4, x5, x6, x7⟩) t v
def h2s4 (v : HT3) (t : N8 (HT3)) : N8 (HT3) := N8.rec (motive := fun _ => (HT3) → N8 (HT3)) (fun x0 x1 x2 x3 _ x5 x6 x7 v => ⟨x0, x1, x2, x3, v, x5, x6, x7⟩) t v
def h2s5 (v : HT3) (t : N8 (HT3)) : N8 (HT3) := N8.rec (motive := fun _ => (HT3) → N8 (HT3)) (fun x0 x1 x2 x3 x4 _ x6 x7 v => ⟨x0, x1, x2, x3, x4, v, x6, x7⟩) t v
def h2s6 (v : HT3) (t : N8 (HT3)) : N8 (HT3) := N8.rec (motive := fun _ => (HT3) → N8 (HT3)) (fun x0 x1 x2 x3 x4 x5 _ x7 v => ⟨x0, x1, x2, x3, x4, x5, v, x7⟩) t v
def h2s7 (v : HT3) (t : N8 (HT3)) : N8 (HT3) := N8.rec (motive := fun _ => (HT3) → N8 (HT3)) (fun x0 x1 x2 x3 x4 x5 x6 _ v => ⟨x0, x1, x2, x3, x4, x5, x6, v⟩) t v
def h2s (i : I8) (v : HT3) (t : N8 (HT3)) : N8 (HT3) := I8.rec (motive := fun _ => (HT3) → N8 (HT3) → N8 (HT3)) h2s0 h2s1 h2s2 h2s3 h2s4 h2s5 h2s6 h2s7 i v t
theorem h2g_s (i j : I8) (v : HT3) (t : N8 (HT3)) : h2g i (h2s j v t) = if i = j then v else h2g i t := by cases i <;> cases j <;> rfl
abbrev HT1 := N8 (HT2)
def h1g (i : I8) (t : N8 (HT2)) : HT2 := I8.rec (motive := fun _ => N8 (HT2) → HT2) (@N8.s0 (HT2)) (@N8.s1 (HT2)) (@N8.s2 (HT2)) (@N8.s3 (HT2)) (@N8.s4 (HT2)) (@N8.s5 (HT2)) (@N8.s6 (HT2)) (@N8.s7 (HT2)) i t
def h1s0 (v : HT2) (t : N8 (HT2)) : N8 (HT2) := N8.rec (motive := fun _ => (HT2) → N8 (HT2)) (fun _ x1 x2 x3 x4 x5 x6 x7 v => ⟨v, x1, x2, x3, x4, x5, x6, x7⟩) t v
def h1s1 (v : HT2) (t : N8 (HT2)) : N8 (HT2) := N8.rec (motive := fun _ => (HT2) → N8 (HT2)) (fun x0 _ x2 x3 x4 x5 x6 x7 v => ⟨x0, v, x2, x3, x4, x5, x6, x7⟩) t v
def h1s2 (v : HT2) (t : N8 (HT2)) : N8 (HT2) := N8.rec (motive := fun _ => (HT2) → N8 (HT2)) (fun x0 x1 _ x3 x4 x5 x6 x7 v => ⟨x0, x1, v, x3, x4, x5, x6, x7⟩) t v
def h1s3 (v : HT2) (t : N8 (HT2)) : N8 (HT2) := N8.rec (motive := fun _ => (HT2) → N8 (HT2)) (fun x0 x1 x2 _ x4 x5 x6 x7 v => ⟨x0, x1, x2, v, x4, x5, x6, x7⟩) t v
def h1s4 (v : HT2) (t : N8 (HT2)) : N8 (HT2) := N8.rec (motive := fun _ => (HT2) → N8 (HT2)) (fun x0 x1 x2 x3 _ x5 x6 x7 v => ⟨x0, x1, x2, x3, v, x5, x6, x7⟩) t v
def h1s5 (v : HT2) (t : N8 (HT2)) : N8 (HT2) := N8.rec (motive := fun _ => (HT2) → N8 (HT2)) (fun x0 x1 x2 x3 x4 _ x6 x7 v => ⟨x0, x1, x2, x3, x4, v, x6, x7⟩) t v
def h1s6 (v : HT2) (t : N8 (HT2)) : N8 (HT2) := N8.rec (motive := fun _ => (HT2) → N8 (HT2)) (fun x0 x1 x2 x3 x4 x5 _ x7 v => ⟨x0, x1, x2, x3, x4, x5, v, x7⟩) t v
def h1s7 (v : HT2) (t : N8 (HT2)) : N8 (HT2) := N8.rec (motive := fun _ => (HT2) → N8 (HT2)) (fun x0 x1 x2 x3 x4 x5 x6 _ v => ⟨x0, x1, x2, x3, x4, x5, x6, v⟩) t v
def h1s (i : I8) (v : HT2) (t : N8 (HT2)) : N8 (HT2) := I8.rec (motive := fun _ => (HT2) → N8 (HT2) → N8 (HT2)) h1s0 h1s1 h1s2 h1s3 h1s4 h1s5 h1s6 h1s7 i v t
theorem h1g_s (i j : I8) (v : HT2) (t : N8 (HT2)) : h1g i (h1s j v t) = if i = j then v else h1g i t := by cases i <;> cases j <;> rfl
abbrev HT0 := N8 (HT1)
def h0g (i : I8) (t : N8 (HT1)) : HT1 := I8.rec (motive := fun _ => N8 (HT1) → HT1) (@N8.s0 (HT1)) (@N8.s1 (HT1)) (@N8.s2 (HT1)) (@N8.s3 (HT1)) (@N8.s4 (HT1)) (@N8.s5 (HT1)) (@N8.s6 (HT1)) (@N8.s7 (HT1)) i t
def h0s0 (v : HT1) (t : N8 (HT1)) : N8 (HT1) := N8.rec (motive := fun _ => (HT1) → N8 (HT1)) (fun _ x1 x2 x3 x4 x5 x6 x7 v => ⟨v, x1, x2, x3, x4, x5, x6, x7⟩) t v
def h0s1 (v : HT1) (t : N8 (HT1)) : N8 (HT1) := N8.rec (motive := fun _ => (HT1) → N8 (HT1)) (fun x0 _ x2 x3 x4 x5 x6 x7 v => ⟨x0, v, x2, x3, x4, x5, x6, x7⟩) t v
def h0s2 (v : HT1) (t : N8 (HT1)) : N8 (HT1) := N8.rec (motive := fun _ => (HT1) → N8 (HT1)) (fun x0 x1 _ x3 x4 x5 x6 x7 v => ⟨x0, x1, v, x3, x4, x5, x6, x7⟩) t v
def h0s3 (v : HT1) (t : N8 (HT1)) : N8 (HT1) := N8.rec (motive := fun _ => (HT1) → N8 (HT1)) (fun x0 x1 x2 _ x4 x5 x6 x7 v => ⟨x0, x1, x2, v, x4, x5, x6, x7⟩) t v
def h0s4 (v : HT1) (t : N8 (HT1)) : N8 (HT1) := N8.rec (motive := fun _ => (HT1) → N8 (HT1)) (fun x0 x1 x2 x3 _ x5 x6 x7 v => ⟨x0, x1, x2, x3, v, x5, x6, x7⟩) t v
def h0s5 (v : HT1) (t : N8 (HT1)) : N8 (HT1) := N8.rec (motive := fun _ => (HT1) → N8 (HT1)) (fun x0 x1 x2 x3 x4 _ x6 x7 v => ⟨x0, x1, x2, x3, x4, v, x6, x7⟩) t v
def h0s6 (v : HT1) (t : N8 (HT1)) : N8 (HT1) := N8.rec (motive := fun _ => (HT1) → N8 (HT1)) (fun x0 x1 x2 x3 x4 x5 _ x7 v => ⟨x0, x1, x2, x3, x4, x5, v, x7⟩) t v
def h0s7 (v : HT1) (t : N8 (HT1)) : N8 (HT1) := N8.rec (motive := fun _ => (HT1) → N8 (HT1)) (fun x0 x1 x2 x3 x4 x5 x6 _ v => ⟨x0, x1, x2, x3, x4, x5, x6, v⟩) t v
def h0s (i : I8) (v : HT1) (t : N8 (HT1)) : N8 (HT1) := I8.rec (motive := fun _ => (HT1) → N8 (HT1) → N8 (HT1)) h0s0 h0s1 h0s2 h0s3 h0s4 h0s5 h0s6 h0s7 i v t
theorem h0g_s (i j : I8) (v : HT1) (t : N8 (HT1)) : h0g i (h0s j v t) = if i = j then v else h0g i t := by cases i <;> cases j <;> rfl
abbrev Heap := HT0
def hgetA (a0 a1 a2 a3 a4 a5 : I8) (t : Heap) : Blk := h5g a5 (h4g a4 (h3g a3 (h2g a2 (h1g a1 (h0g a0 t)))))
def Heap.get (i : Id) (t : Heap) : Blk := Id.rec (motive := fun _ => Heap → Blk) hgetA i t
def hset4 (a4 a5 : I8) (v : Blk) (t : HT4) : HT4 := h4s a4 (h5s a5 v (h4g a4 t)) t
def hset3 (a3 a4 a5 : I8) (v : Blk) (t : HT3) : HT3 := h3s a3 (hset4 a4 a5 v (h3g a3 t)) t
def hset2 (a2 a3 a4 a5 : I8) (v : Blk) (t : HT2) : HT2 := h2s a2 (hset3 a3 a4 a5 v (h2g a2 t)) t
def hset1 (a1 a2 a3 a4 a5 : I8) (v : Blk) (t : HT1) : HT1 := h1s a1 (hset2 a2 a3 a4 a5 v (h1g a1 t)) t
def hset0 (v : Blk) (t : Heap) (a0 a1 a2 a3 a4 a5 : I8) : Heap := h0s a0 (hset1 a1 a2 a3 a4 a5 v (h0g a0 t)) t
def hsetA (a0 a1 a2 a3 a4 a5 : I8) (v : Blk) (t : Heap) : Heap := hset0 v t a0 a1 a2 a3 a4 a5
def Heap.set (i : Id) (v : Blk) (t : Heap) : Heap := Id.rec (motive := fun _ => Blk → Heap → Heap) hsetA i v t
theorem Heap.get_set_self (i : Id) (v : Blk) (t : Heap) : Heap.get i (Heap.set i v t) = v := by
  obtain ⟨a0, a1, a2, a3, a4, a5⟩ := i
  simp [Heap.get, Heap.set, hgetA, hsetA, hset0, hset1, hset2, hset3, hset4, h0g_s, h1g_s, h2g_s, h3g_s, h4g_s, h5g_s]
theorem Heap.get_set_ne {i j : Id} (h : i ≠ j) (v : Blk) (t : Heap) : Heap.get i (Heap.set j v t) = Heap.get i t := by
  obtain ⟨a0, a1, a2, a3, a4, a5⟩ := i
  obtain ⟨b0, b1, b2, b3, b4, b5⟩ := j
  simp only [Heap.get, Heap.set, hgetA, hsetA, hset0, h0g_s]
  by_cases h0 : a0 = b0
  case neg => simp [h0]
  subst h0
  simp only [if_true, hset1, h1g_s]
  by_cases h1 : a1 = b1
  case neg => simp [h1]
  subst h1
  simp only [if_true, hset2, h2g_s]
  by_cases h2 : a2 = b2
  case neg => simp [h2]
  subst h2
  simp only [if_true, hset3, h3g_s]
  by_cases h3 : a3 = b3
  case neg => simp [h3]
  subst h3
  simp only [if_true, hset4, h4g_s]
  by_cases h4 : a4 = b4
  case neg => simp [h4]
  subst h4
  simp only [if_true, h5g_s]
  by_cases h5 : a5 = b5
  case neg => simp [h5]
  subst h5
  exact absurd rfl h

abbrev ET1 := N8 (AVal)
def e1g (i : I8) (t : N8 (AVal)) : AVal := I8.rec (motive := fun _ => N8 (AVal) → AVal) (@N8.s0 (AVal)) (@N8.s1 (AVal)) (@N8.s2 (AVal)) (@N8.s3 (AVal)) (@N8.s4 (AVal)) (@N8.s5 (AVal)) (@N8.s6 (AVal)) (@N8.s7 (AVal)) i t
def e1s0 (v : AVal) (t : N8 (AVal)) : N8 (AVal) := N8.rec (motive := fun _ => (AVal) → N8 (AVal)) (fun _ x1 x2 x3 x4 x5 x6 x7 v => ⟨v, x1, x2, x3, x4, x5, x6, x7⟩) t v
def e1s1 (v : AVal) (t : N8 (AVal)) : N8 (AVal) := N8.rec (motive := fun _ => (AVal) → N8 (AVal)) (fun x0 _ x2 x3 x4 x5 x6 x7 v => ⟨x0, v, x2, x3, x4, x5, x6, x7⟩) t v
def e1s2 (v : AVal) (t : N8 (AVal)) : N8 (AVal) := N8.rec (motive := fun _ => (AVal) → N8 (AVal)) (fun x0 x1 _ x3 x4 x5 x6 x7 v => ⟨x0, x1, v, x3, x4, x5, x6, x7⟩) t v
def e1s3 (v : AVal) (t : N8 (AVal)) : N8 (AVal) := N8.rec (motive := fun _ => (AVal) → N8 (AVal)) (fun x0 x1 x2 _ x4 x5 x6 x7 v => ⟨x0, x1, x2, v, x4, x5, x6, x7⟩) t v
def e1s4 (v : AVal) (t : N8 (AVal)) : N8 (AVal) := N8.rec (motive := fun _ => (AVal) → N8 (AVal)) (fun x0 x1 x2 x3 _ x5 x6 x7 v => ⟨x0, x1, x2, x3, v, x5, x6, x7⟩) t v
def e1s5 (v : AVal) (t : N8 (AVal)) : N8 (AVal) := N8.rec (motive := fun _ => (AVal) → N8 (AVal)) (fun x0 x1 x2 x3 x4 _ x6 x7 v => ⟨x0, x1, x2, x3, x4, v, x6, x7⟩) t v
def e1s6 (v : AVal) (t : N8 (AVal)) : N8 (AVal) := N8.rec (motive := fun _ => (AVal) → N8 (AVal)) (fun x0 x1 x2 x3 x4 x5 _ x7 v => ⟨x0, x1, x2, x3, x4, x5, v, x7⟩) t v
def e1s7 (v : AVal) (t : N8 (AVal)) : N8 (AVal) := N8.rec (motive := fun _ => (AVal) → N8 (AVal)) (fun x0 x1 x2 x3 x4 x5 x6 _ v => ⟨x0, x1, x2, x3, x4, x5, x6, v⟩) t v
def e1s (i : I8) (v : AVal) (t : N8 (AVal)) : N8 (AVal) := I8.rec (motive := fun _ => (AVal) → N8 (AVal) → N8 (AVal)) e1s0 e1s1 e1s2 e1s3 e1s4 e1s5 e1s6 e1s7 i v t
theorem e1g_s (i j : I8) (v : AVal) (t : N8 (AVal)) : e1g i (e1s j v t) = if i = j then v else e1g i t := by cases i <;> cases j <;> rfl
abbrev ET0 := N8 (ET1)
def e0g (i : I8) (t : N8 (ET1)) : ET1 := I8.rec (motive := fun _ => N8 (ET1) → ET1) (@N8.s0 (ET1)) (@N8.s1 (ET1)) (@N8.s2 (ET1)) (@N8.s3 (ET1)) (@N8.s4 (ET1)) (@N8.s5 (ET1)) (@N8.s6 (ET1)) (@N8.s7 (ET1)) i t
def e0s0 (v : ET1) (t : N8 (ET1)) : N8 (ET1) := N8.rec (motive := fun _ => (ET1) → N8 (ET1)) (fun _ x1 x2 x3 x4 x5 x6 x7 v => ⟨v, x1, x2, x3, x4, x5, x6, x7⟩) t v
def e0s1 (v : ET1) (t : N8 (ET1)) : N8 (ET1) := N8.rec (motive := fun _ => (ET1) → N8 (ET1)) (fun x0 _ x2 x3 x4 x5 x6 x7 v => ⟨x0, v, x2, x3, x4, x5, x6, x7⟩) t v
def e0s2 (v : ET1) (t : N8 (ET1)) : N8 (ET1) := N8.rec (motive := fun _ => (ET1) → N8 (ET1)) (fun x0 x1 _ x3 x4 x5 x6 x7 v => ⟨x0, x1, v, x3, x4, x5, x6, x7⟩) t v
def e0s3 (v : ET1) (t : N8 (ET1)) : N8 (ET1) := N8.rec (motive := fun _ => (ET1) → N8 (ET1)) (fun x0 x1 x2 _ x4 x5 x6 x7 v => ⟨x0, x1, x2, v, x4, x5, x6, x7⟩) t v
def e0s4 (v : ET1) (t : N8 (ET1)) : N8 (ET1) := N8.rec (motive := fun _ => (ET1) → N8 (ET1)) (fun x0 x1 x2 x3 _ x5 x6 x7 v => ⟨x0, x1, x2, x3, v, x5, x6, x7⟩) t v
def e0s5 (v : ET1) (t : N8 (ET1)) : N8 (ET1) := N8.rec (motive := fun _ => (ET1) → N8 (ET1)) (fun x0 x1 x2 x3 x4 _ x6 x7 v => ⟨x0, x1, x2, x3, x4, v, x6, x7⟩) t v
def e0s6 (v : ET1) (t : N8 (ET1)) : N8 (ET1) := N8.rec (motive := fun _ => (ET1) → N8 (ET1)) (fun x0 x1 x2 x3 x4 x5 _ x7 v => ⟨x0, x1, x2, x3, x4, x5, v, x7⟩) t v
def e0s7 (v : ET1) (t : N8 (ET1)) : N8 (ET1) := N8.rec (motive := fun _ => (ET1) → N8 (ET1)) (fun x0 x1 x2 x3 x4 x5 x6 _ v => ⟨x0, x1, x2, x3, x4, x5, x6, v⟩) t v
def e0s (i : I8) (v : ET1) (t : N8 (ET1)) : N8 (ET1) := I8.rec (motive := fun _ => (ET1) → N8 (ET1) → N8 (ET1)) e0s0 e0s1 e0s2 e0s3 e0s4 e0s5 e0s6 e0s7 i v t
theorem e0g_s (i j : I8) (v : ET1) (t : N8 (ET1)) : e0g i (e0s j v t) = if i = j then v else e0g i t := by cases i <;> cases j <;> rfl
abbrev Env := ET0
structure P2 where
  i : I8
  j : I8
def egetA (i j : I8) (t : Env) : AVal := e1g j (e0g i t)
def Env.get (p : P2) (t : Env) : AVal := P2.rec (motive := fun _ => Env → AVal) egetA p t
def esetA (i j : I8) (v : AVal) (t : Env) : Env := e0s i (e1s j v (e0g i t)) t
def Env.set (p : P2) (v : AVal) (t : Env) : Env := P2.rec (motive := fun _ => AVal → Env → Env) esetA p v t
theorem Env.get_set_self (p : P2) (v : AVal) (t : Env) : Env.get p (Env.set p v t) = v := by
  obtain ⟨a0, a1⟩ := p
  simp [Env.get, Env.set, egetA, esetA, e0g_s, e1g_s]
theorem Env.get_set_ne {p q : P2} (h : p ≠ q) (v : AVal) (t : Env) : Env.get p (Env.set q v t) = Env.get p t := by
  obtain ⟨a0, a1⟩ := p
  obtain ⟨b0, b1⟩ := q
  simp only [Env.get, Env.set, egetA, esetA, e0g_s]
  by_cases h0 : a0 = b0
  case neg => simp [h0]
  subst h0
  simp only [if_true, e1g_s]
  by_cases h1 : a1 = b1
  case neg => simp [h1]
  subst h1
  exact absurd rfl h

def dig (n : Nat) : I8 := match n with | 0 => .i0 | 1 => .i1 | 2 => .i2 | 3 => .i3 | 4 => .i4 | 5 => .i5 | 6 => .i6 | _ => .i7
def P2.of (n : Nat) : P2 := ⟨dig (n / 8 % 8), dig (n % 8)⟩

structure St where
  h : Heap
  n : Id
  ro : Nat
inductive VR where
  | ok (v : AVal) (s : St)
  | fail (w : Nat)
inductive Res where
  | norm (e : Env) (s : St)
  | exit (id : Nat) (e : Env) (s : St)
  | ret (e : Env) (s : St)
  | fail (w : Nat)

/-! ### Numbers -/
def bnot (b : Bool) : Bool := Bool.rec true false b
def band (a b : Bool) : Bool := Bool.rec false b a
def lt (a b : Nat) : Bool := Nat.ble (Nat.succ a) b
def kw (k : IntKind) : Nat := IntKind.rec (motive := fun _ => Nat) 8 16 32 64 8 16 32 64 k
def kp (k : IntKind) : Nat := IntKind.rec (motive := fun _ => Nat) 256 65536 4294967296 18446744073709551616 256 65536 4294967296 18446744073709551616 k
def khalf (k : IntKind) : Nat := IntKind.rec (motive := fun _ => Nat) 128 32768 2147483648 9223372036854775808 128 32768 2147483648 9223372036854775808 k
def ksigned (k : IntKind) : Bool := IntKind.rec (motive := fun _ => Bool) true true true true false false false false k
def kbeq (k k' : IntKind) : Bool := band (Nat.beq (kw k) (kw k')) (Bool.rec (bnot (ksigned k')) (ksigned k') (ksigned k))
/-- The number of a digit. -/
def decS (k : IntKind) (u : Nat) : Int := Bool.rec (motive := fun _ => Int) (.negSucc (Nat.sub (Nat.sub (kp k) 1) u)) (.ofNat u) (lt u (khalf k))
def decU (_ : IntKind) (u : Nat) : Int := .ofNat u
def dec (k : IntKind) (u : Nat) : Int := Bool.rec (motive := fun _ => IntKind → Nat → Int) decU decS (ksigned k) k u
def wrapNat (k : IntKind) (m : Nat) : Int := dec k (Nat.mod m (kp k))
def wrapFar (k : IntKind) (n : Int) : Int := k.wrap n
/-- Numbers of a kind are its numbers; others are wrapped. -/
def wrapN (k : IntKind) (m : Nat) : Int := Bool.rec (motive := fun _ => Int) (wrapNat k m) (.ofNat m) (lt m (khalf k))
def wrapM (k : IntKind) (m : Nat) : Int := Bool.rec (motive := fun _ => Int) (wrapFar k (.negSucc m)) (.negSucc m) (band (ksigned k) (lt m (khalf k)))

def wrap_ofNat (m : Nat) (k : IntKind) : Int := wrapN k m
def wrap_negSucc (m : Nat) (k : IntKind) : Int := wrapM k m
def wrapI (n : Int) (k : IntKind) : Int := Int.rec (motive := fun _ => (IntKind) → Int) wrap_ofNat wrap_negSucc n k

def wrap (k : IntKind) (n : Int) : Int := wrapI n k
def iltNN (b : Int) (a : Nat) : Bool := Int.rec (motive := fun _ => Nat → Bool) (fun b a => lt a b) (fun _ _ => false) b a
def iltMM (b : Int) (a : Nat) : Bool := Int.rec (motive := fun _ => Nat → Bool) (fun _ _ => true) (fun b a => lt b a) b a
def ilt (a b : Int) : Bool := Int.rec (motive := fun _ => Int → Bool) (fun a b => iltNN b a) (fun a b => iltMM b a) a b
def ieqN (b : Int) (a : Nat) : Bool := Int.rec (motive := fun _ => Nat → Bool) (fun b a => Nat.beq a b) (fun _ _ => false) b a
def ieqM (b : Int) (a : Nat) : Bool := Int.rec (motive := fun _ => Nat → Bool) (fun _ _ => false) (fun b a => Nat.beq a b) b a
def ieq (a b : Int) : Bool := Int.rec (motive := fun _ => Int → Bool) (fun a b => ieqN b a) (fun a b => ieqM b a) a b
def iaddN (b : Int) (a : Nat) : Int := Int.rec (motive := fun _ => Nat → Int) (fun b a => .ofNat (Nat.add a b)) (fun b a => Int.add (.ofNat a) (.negSucc b)) b a
def iadd (a b : Int) : Int := Int.rec (motive := fun _ => Int → Int) (fun a b => iaddN b a) (fun a b => Int.add (.negSucc a) b) a b
def isubNN (a b : Nat) : Int := Bool.rec (motive := fun _ => Int) (.negSucc (Nat.sub (Nat.sub b a) 1)) (.ofNat (Nat.sub a b)) (Nat.ble b a)
def isubN (b : Int) (a : Nat) : Int := Int.rec (motive := fun _ => Nat → Int) (fun b a => isubNN a b) (fun b a => Int.sub (.ofNat a) (.negSucc b)) b a
def isub (a b : Int) : Int := Int.rec (motive := fun _ => Int → Int) (fun a b => isubN b a) (fun a b => Int.sub (.negSucc a) b) a b
def nat2N (b : Int) (f : Nat → Nat → AVal) (a : Nat) : AVal := Int.rec (motive := fun _ => (Nat → Nat → AVal) → Nat → AVal) (fun b f a => f a b) (fun _ _ _ => .bad) b f a
/-- An operation on two numbers that are not below 0. -/
def nat2 (a b : Int) (f : Nat → Nat → AVal) : AVal := Int.rec (motive := fun _ => Int → (Nat → Nat → AVal) → AVal) (fun a b f => nat2N b f a) (fun _ _ _ => .bad) a b f

def bAdd (k : IntKind) (a b : Int) : AVal := .int k (wrap k (iadd a b))
def bSub (k : IntKind) (a b : Int) : AVal := .int k (wrap k (isub a b))
def bMul (k : IntKind) (a b : Int) : AVal := nat2 a b fun a b => .int k (wrapN k (Nat.mul a b))
def bQuo (k : IntKind) (a b : Int) : AVal := nat2 a b fun a b => Bool.rec (motive := fun _ => AVal) (.int k (wrapN k (Nat.div a b))) .bad (Nat.beq b 0)
def bRem (k : IntKind) (a b : Int) : AVal := nat2 a b fun a b => Bool.rec (motive := fun _ => AVal) (.int k (.ofNat (Nat.mod a b))) .bad (Nat.beq b 0)
/-- Bit by bit, of numbers of a kind. -/
def bBits (f : Nat → Nat → Nat) (k : IntKind) (a b : Int) : AVal := nat2 a b fun a b => Bool.rec (motive := fun _ => AVal) .bad (.int k (wrapN k (f a b))) (band (lt a (kp k)) (lt b (kp k)))
def bAnd : IntKind → Int → Int → AVal := bBits Nat.land
def bOr : IntKind → Int → Int → AVal := bBits Nat.lor
def bXor : IntKind → Int → Int → AVal := bBits Nat.xor
def bShl (k : IntKind) (a b : Int) : AVal := nat2 a b fun a b => Bool.rec (motive := fun _ => AVal) .bad (.int k (wrapN k (Nat.shiftLeft a b))) (Nat.ble b (kw k))
def bShr (k : IntKind) (a b : Int) : AVal := nat2 a b fun a b => Bool.rec (motive := fun _ => AVal) .bad (.int k (.ofNat (Nat.shiftRight a b))) (Nat.ble b (kw k))
def bEql (_ : IntKind) (a b : Int) : AVal := .bool (ieq a b)
def bNeq (_ : IntKind) (a b : Int) : AVal := .bool (bnot (ieq a b))
def bLss (_ : IntKind) (a b : Int) : AVal := .bool (ilt a b)
def bLeq (_ : IntKind) (a b : Int) : AVal := .bool (bnot (ilt b a))
def bGtr (_ : IntKind) (a b : Int) : AVal := .bool (ilt b a)
def bGeq (_ : IntKind) (a b : Int) : AVal := .bool (bnot (ilt a b))
def bBad (_ : IntKind) (_ _ : Int) : AVal := .bad
def binInt (op : BinOp) (k : IntKind) (a b : Int) : AVal :=
  BinOp.rec (motive := fun _ => IntKind → Int → Int → AVal) bAdd bSub bMul bQuo bRem bAnd bOr bXor bShl bShr bBad bEql bNeq bLss bLeq bGtr bGeq op k a b
/-- Is an operation a shift? -/
def isShift (op : BinOp) : Bool := BinOp.rec (motive := fun _ => Bool) false false false false false false false false true true false false false false false false false op

/-! ### Packed rows -/
/-- Digits from a place on. -/
def dcut (w d off cnt : Nat) : Nat := Nat.mod (Nat.shiftRight d (Nat.mul w off)) (Nat.pow 2 (Nat.mul w cnt))
/-- Digits from a place on, replaced. -/
def dput (w d off cnt e : Nat) : Nat := Nat.sub (Nat.add d (Nat.shiftLeft e (Nat.mul w off))) (Nat.shiftLeft (dcut w d off cnt) (Nat.mul w off))
/-- The first so many digits. -/
def dfst (w n d : Nat) : Nat := Nat.mod d (Nat.pow 2 (Nat.mul w n))
def dcat (w n d e : Nat) : Nat := Nat.add (dfst w n d) (Nat.shiftLeft e (Nat.mul w n))
def unpack (k : IntKind) (n : Nat) (d : Nat) : List AVal :=
  Nat.rec (motive := fun _ => Nat → List AVal) (fun _ => []) (fun _ ih d => .int k (dec k (Nat.mod d (kp k))) :: ih (Nat.div d (kp k))) n d
/-- The digit of a number; `none`: it is none of the kind. -/
def encO (k : IntKind) : Int → Option Nat
  | .ofNat m => if lt m (Bool.rec (motive := fun _ => Nat) (kp k) (khalf k) (ksigned k)) then some m else none
  | .negSucc m => if band (ksigned k) (lt m (khalf k)) then some (Nat.sub (Nat.sub (kp k) 1) m) else none
def packGo (k : IntKind) : List AVal → Option Nat
  | [] => some 0
  | .int k' n :: l => if k' = k then match packGo k l, encO k n with
      | some d, some u => some (Nat.add u (Nat.mul (kp k) d))
      | _, _ => none
    else none
  | _ => none
/-- A list of numbers of one kind, packed; anything else as it stands. -/
def pack (v : AVal) : AVal := match v with
  | .agg (.int k n :: l) => match packGo k (.int k n :: l) with
    | some d => .aggi k (l.length + 1) d
    | none => v
  | _ => v
/-- Its digit, handed on. -/
def encN (m : Nat) (k : IntKind) (f : Nat → VR) : VR := Bool.rec (motive := fun _ => VR) (.fail 200) (f m) (lt m (Bool.rec (motive := fun _ => Nat) (kp k) (khalf k) (ksigned k)))
def encM (m : Nat) (k : IntKind) (f : Nat → VR) : VR := Bool.rec (motive := fun _ => VR) (.fail 201) (f (Nat.sub (Nat.sub (kp k) 1) m)) (band (ksigned k) (lt m (khalf k)))
def encV (n : Int) (k : IntKind) (f : Nat → VR) : VR := Int.rec (motive := fun _ => IntKind → (Nat → VR) → VR) encN encM n k f

/-! ### Rows of cells
  A row is a list; a member that is packed stands for as many cells as it has digits. -/

def isScalar_o  : Bool := true
def isScalar_top   : Bool := false
def isScalar_bad   : Bool := false
def isScalar_agg (_x0 : List AVal)  : Bool := false
def isScalar_aggi (_x0 : IntKind) (_x1 : Nat) (_x2 : Nat)  : Bool := false
def isScalar_tup (_x0 : List AVal)  : Bool := false
def isScalar_opq (_x0 : Nat)  : Bool := false
def isScalar (x : AVal)  : Bool := AVal.rec (motive_1 := fun _ => Bool) (motive_2 := fun _ => Unit) isScalar_top isScalar_bad (fun _ => isScalar_o) (fun _ _ => isScalar_o) (fun _ _ => isScalar_o) (fun _ _ => isScalar_o) isScalar_o (fun _ _ => isScalar_o) isScalar_o (fun _ _ _ _ => isScalar_o) (fun _ _ _ _ _ => isScalar_o) isScalar_o (fun _ => isScalar_o) isScalar_o (fun _ _ _ _ _ => isScalar_o) isScalar_o (fun _ _ _ => isScalar_o) (fun a0 _ => isScalar_agg a0) isScalar_aggi (fun a0 _ => isScalar_tup a0) isScalar_opq () (fun _ _ _ _ => ()) x 

def isRow (b : Blk) : Bool := match b with | .cells _ => true | .ints _ _ _ => true | _ => false
def AVal.cellList_o (v : AVal) : List AVal := [v]
def AVal.cellList_agg (l : List AVal) (_v : AVal) : List AVal := l
def AVal.cellList (v : AVal)  : List AVal := AVal.rec (motive_1 := fun _ => (AVal) → List AVal) (motive_2 := fun _ => Unit) AVal.cellList_o AVal.cellList_o (fun _ => AVal.cellList_o) (fun _ _ => AVal.cellList_o) (fun _ _ => AVal.cellList_o) (fun _ _ => AVal.cellList_o) AVal.cellList_o (fun _ _ => AVal.cellList_o) AVal.cellList_o (fun _ _ _ _ => AVal.cellList_o) (fun _ _ _ _ _ => AVal.cellList_o) AVal.cellList_o (fun _ => AVal.cellList_o) AVal.cellList_o (fun _ _ _ _ _ => AVal.cellList_o) AVal.cellList_o (fun _ _ _ => AVal.cellList_o) (fun a0 _ => AVal.cellList_agg a0) (fun _ _ _ => AVal.cellList_o) (fun _ _ => AVal.cellList_o) (fun _ => AVal.cellList_o) () (fun _ _ _ _ => ()) v v 

def AVal.blk_o (v : AVal) : Blk := .cells [v]
def AVal.blk_agg (l : List AVal) (_v : AVal) : Blk := .cells l
def AVal.blk_aggi (k : IntKind) (n : Nat) (d : Nat) (_v : AVal) : Blk := .ints k n d
def AVal.blk (v : AVal)  : Blk := AVal.rec (motive_1 := fun _ => (AVal) → Blk) (motive_2 := fun _ => Unit) AVal.blk_o AVal.blk_o (fun _ => AVal.blk_o) (fun _ _ => AVal.blk_o) (fun _ _ => AVal.blk_o) (fun _ _ => AVal.blk_o) AVal.blk_o (fun _ _ => AVal.blk_o) AVal.blk_o (fun _ _ _ _ => AVal.blk_o) (fun _ _ _ _ _ => AVal.blk_o) AVal.blk_o (fun _ => AVal.blk_o) AVal.blk_o (fun _ _ _ _ _ => AVal.blk_o) AVal.blk_o (fun _ _ _ => AVal.blk_o) (fun a0 _ => AVal.blk_agg a0) AVal.blk_aggi (fun _ _ => AVal.blk_o) (fun _ => AVal.blk_o) () (fun _ _ _ _ => ()) v v 

def AVal.width_o  : Nat := 1
def AVal.width_aggi (_k : IntKind) (n : Nat) (_d : Nat)  : Nat := n
def AVal.width (v : AVal)  : Nat := AVal.rec (motive_1 := fun _ => Nat) (motive_2 := fun _ => Unit) AVal.width_o AVal.width_o (fun _ => AVal.width_o) (fun _ _ => AVal.width_o) (fun _ _ => AVal.width_o) (fun _ _ => AVal.width_o) AVal.width_o (fun _ _ => AVal.width_o) AVal.width_o (fun _ _ _ _ => AVal.width_o) (fun _ _ _ _ _ => AVal.width_o) AVal.width_o (fun _ => AVal.width_o) AVal.width_o (fun _ _ _ _ _ => AVal.width_o) AVal.width_o (fun _ _ _ => AVal.width_o) (fun _ _ => AVal.width_o) AVal.width_aggi (fun _ _ => AVal.width_o) (fun _ => AVal.width_o) () (fun _ _ _ _ => ()) v 

def lwide (l : List AVal) : Nat := List.rec (motive := fun _ => Nat) 0 (fun v _ ih => Nat.add v.width ih) l
/-- A cell of a packed row. -/
def icell (k : IntKind) (n d off : Nat) : AVal := Bool.rec (motive := fun _ => AVal) .bad (.int k (dec k (dcut (kw k) d off 1))) (lt off n)
def lcellAt (off : Nat) (v : AVal) (ih : Nat → AVal) : AVal := Nat.rec (motive := fun _ => AVal → (Nat → AVal) → AVal) (fun v _ => v) (fun j _ _ ih => ih j) off v ih
def lcellStep_o (v : AVal) (ih : Nat → AVal) (off : Nat) : AVal := lcellAt off v ih
def lcellStep_aggi (k : IntKind) (n : Nat) (d : Nat) (_v : AVal) (ih : Nat → AVal) (off : Nat) : AVal := Bool.rec (motive := fun _ => AVal) (ih (Nat.sub off n)) (icell k n d off) (lt off n)
def lcellStep (v : AVal) (ih : Nat → AVal) (off : Nat) : AVal := AVal.rec (motive_1 := fun _ => (AVal) → (Nat → AVal) → (Nat) → AVal) (motive_2 := fun _ => Unit) lcellStep_o lcellStep_o (fun _ => lcellStep_o) (fun _ _ => lcellStep_o) (fun _ _ => lcellStep_o) (fun _ _ => lcellStep_o) lcellStep_o (fun _ _ => lcellStep_o) lcellStep_o (fun _ _ _ _ => lcellStep_o) (fun _ _ _ _ _ => lcellStep_o) lcellStep_o (fun _ => lcellStep_o) lcellStep_o (fun _ _ _ _ _ => lcellStep_o) lcellStep_o (fun _ _ _ => lcellStep_o) (fun _ _ => lcellStep_o) lcellStep_aggi (fun _ _ => lcellStep_o) (fun _ => lcellStep_o) () (fun _ _ _ _ => ()) v v ih off

/-- The cell at a place. -/
def lcell (l : List AVal) (off : Nat) : AVal := List.rec (motive := fun _ => Nat → AVal) (fun _ => .bad) (fun v _ ih off => lcellStep v ih off) l off
def lheadStep_o (v : AVal) (j : Nat) (ih : Nat → (List AVal → AVal) → AVal) (f : List AVal → AVal) : AVal := ih j fun r => f (v :: r)
def lheadStep_aggi (k : IntKind) (n : Nat) (d : Nat) (_v : AVal) (j : Nat) (ih : Nat → (List AVal → AVal) → AVal) (f : List AVal → AVal) : AVal := Bool.rec (motive := fun _ => AVal) (f [.aggi k (Nat.succ j) (dcut (kw k) d 0 (Nat.succ j))]) (ih (Nat.sub (Nat.succ j) n) fun r => f (.aggi k n d :: r)) (Nat.ble n (Nat.succ j))
def lheadStep (v : AVal) (j : Nat) (ih : Nat → (List AVal → AVal) → AVal) (f : List AVal → AVal) : AVal := AVal.rec (motive_1 := fun _ => (AVal) → (Nat) → (Nat → (List AVal → AVal) → AVal) → (List AVal → AVal) → AVal) (motive_2 := fun _ => Unit) lheadStep_o lheadStep_o (fun _ => lheadStep_o) (fun _ _ => lheadStep_o) (fun _ _ => lheadStep_o) (fun _ _ => lheadStep_o) lheadStep_o (fun _ _ => lheadStep_o) lheadStep_o (fun _ _ _ _ => lheadStep_o) (fun _ _ _ _ _ => lheadStep_o) lheadStep_o (fun _ => lheadStep_o) lheadStep_o (fun _ _ _ _ _ => lheadStep_o) lheadStep_o (fun _ _ _ => lheadStep_o) (fun _ _ => lheadStep_o) lheadStep_aggi (fun _ _ => lheadStep_o) (fun _ => lheadStep_o) () (fun _ _ _ _ => ()) v v j ih f

def lheadAt (cnt : Nat) (v : AVal) (ih : Nat → (List AVal → AVal) → AVal) (f : List AVal → AVal) : AVal :=
  Nat.rec (motive := fun _ => AVal → (Nat → (List AVal → AVal) → AVal) → (List AVal → AVal) → AVal) (fun _ _ f => f []) (fun j _ v ih f => lheadStep v j ih f) cnt v ih f
/-- So many cells from the head on. -/
def lhead (l : List AVal) (cnt : Nat) (f : List AVal → AVal) : AVal :=
  List.rec (motive := fun _ => Nat → (List AVal → AVal) → AVal) (fun cnt f => Nat.rec (motive := fun _ => (List AVal → AVal) → AVal) (fun f => f []) (fun _ _ _ => .bad) cnt f)
    (fun v _ ih cnt f => lheadAt cnt v ih f) l cnt f
def aggOf (l : List AVal) : AVal := match l with
  | [.aggi k n d] => .aggi k n d
  | l => .agg l
def lcutStep_o (j : Nat) (ih : Nat → Nat → AVal) (cnt : Nat) : AVal := ih j cnt
def lcutStep_aggi (k : IntKind) (n : Nat) (d : Nat) (j : Nat) (ih : Nat → Nat → AVal) (cnt : Nat) : AVal := Bool.rec (motive := fun _ => AVal) (ih (Nat.sub (Nat.succ j) n) cnt) (Bool.rec (motive := fun _ => AVal) .bad (.aggi k cnt (dcut (kw k) d (Nat.succ j) cnt)) (Nat.ble (Nat.add (Nat.succ j) cnt) n)) (lt (Nat.succ j) n)
def lcutStep (v : AVal) (j : Nat) (ih : Nat → Nat → AVal) (cnt : Nat) : AVal := AVal.rec (motive_1 := fun _ => (Nat) → (Nat → Nat → AVal) → (Nat) → AVal) (motive_2 := fun _ => Unit) lcutStep_o lcutStep_o (fun _ => lcutStep_o) (fun _ _ => lcutStep_o) (fun _ _ => lcutStep_o) (fun _ _ => lcutStep_o) lcutStep_o (fun _ _ => lcutStep_o) lcutStep_o (fun _ _ _ _ => lcutStep_o) (fun _ _ _ _ _ => lcutStep_o) lcutStep_o (fun _ => lcutStep_o) lcutStep_o (fun _ _ _ _ _ => lcutStep_o) lcutStep_o (fun _ _ _ => lcutStep_o) (fun _ _ => lcutStep_o) lcutStep_aggi (fun _ _ => lcutStep_o) (fun _ => lcutStep_o) () (fun _ _ _ _ => ()) v j ih cnt

def lcutAt (off : Nat) (v : AVal) (t : List AVal) (ih : Nat → Nat → AVal) (cnt : Nat) : AVal :=
  Nat.rec (motive := fun _ => AVal → List AVal → (Nat → Nat → AVal) → Nat → AVal) (fun v t _ cnt => lhead (v :: t) cnt aggOf) (fun j _ v _ ih cnt => lcutStep v j ih cnt) off v t ih cnt
def lcutNil (cnt : Nat) : AVal := Nat.rec (motive := fun _ => AVal) (.agg []) (fun _ _ => .bad) cnt
/-- So many cells from a place on. -/
def lcut (l : List AVal) (off cnt : Nat) : AVal :=
  List.rec (motive := fun _ => Nat → Nat → AVal) (fun _ cnt => lcutNil cnt) (fun v t ih off cnt => lcutAt off v t ih cnt) l off cnt
def iput_o (_k : IntKind) (_n : Nat) (_x : Nat) (_off : Nat) (_f : Nat → VR) : VR := .fail 203
def iput_int (k' : IntKind) (m : Int) (k : IntKind) (n : Nat) (x : Nat) (off : Nat) (f : Nat → VR) : VR := Bool.rec (motive := fun _ => VR) (.fail 202) (encV m k fun u => f (dput (kw k) x off 1 u)) (band (lt off n) (kbeq k k'))
def iput (v : AVal) (k : IntKind) (n : Nat) (x : Nat) (off : Nat) (f : Nat → VR) : VR := AVal.rec (motive_1 := fun _ => (IntKind) → (Nat) → (Nat) → (Nat) → (Nat → VR) → VR) (motive_2 := fun _ => Unit) iput_o iput_o (fun _ => iput_o) iput_int (fun _ _ => iput_o) (fun _ _ => iput_o) iput_o (fun _ _ => iput_o) iput_o (fun _ _ _ _ => iput_o) (fun _ _ _ _ _ => iput_o) iput_o (fun _ => iput_o) iput_o (fun _ _ _ _ _ => iput_o) iput_o (fun _ _ _ => iput_o) (fun _ _ => iput_o) (fun _ _ _ => iput_o) (fun _ _ => iput_o) (fun _ => iput_o) () (fun _ _ _ _ => ()) v k n x off f

def lputcAt (off : Nat) (v : AVal) (t : List AVal) (ih : Nat → AVal → (List AVal → VR) → VR) (x : AVal) (f : List AVal → VR) : VR :=
  Nat.rec (motive := fun _ => AVal → List AVal → (Nat → AVal → (List AVal → VR) → VR) → AVal → (List AVal → VR) → VR) (fun _ t _ x f => f (x :: t)) (fun j _ v _ ih x f => ih j x fun r => f (v :: r)) off v t ih x f
def lputcStep_o (v : AVal) (t : List AVal) (ih : Nat → AVal → (List AVal → VR) → VR) (off : Nat) (x : AVal) (f : List AVal → VR) : VR := lputcAt off v t ih x f
def lputcStep_aggi (k : IntKind) (n : Nat) (d : Nat) (_v : AVal) (t : List AVal) (ih : Nat → AVal → (List AVal → VR) → VR) (off : Nat) (x : AVal) (f : List AVal → VR) : VR := Bool.rec (motive := fun _ => VR) (ih (Nat.sub off n) x fun r => f (.aggi k n d :: r)) (iput x k n d off fun y => f (.aggi k n y :: t)) (lt off n)
def lputcStep (v : AVal) (t : List AVal) (ih : Nat → AVal → (List AVal → VR) → VR) (off : Nat) (x : AVal) (f : List AVal → VR) : VR := AVal.rec (motive_1 := fun _ => (AVal) → (List AVal) → (Nat → AVal → (List AVal → VR) → VR) → (Nat) → (AVal) → (List AVal → VR) → VR) (motive_2 := fun _ => Unit) lputcStep_o lputcStep_o (fun _ => lputcStep_o) (fun _ _ => lputcStep_o) (fun _ _ => lputcStep_o) (fun _ _ => lputcStep_o) lputcStep_o (fun _ _ => lputcStep_o) lputcStep_o (fun _ _ _ _ => lputcStep_o) (fun _ _ _ _ _ => lputcStep_o) lputcStep_o (fun _ => lputcStep_o) lputcStep_o (fun _ _ _ _ _ => lputcStep_o) lputcStep_o (fun _ _ _ => lputcStep_o) (fun _ _ => lputcStep_o) lputcStep_aggi (fun _ _ => lputcStep_o) (fun _ => lputcStep_o) () (fun _ _ _ _ => ()) v v t ih off x f

/-- A cell is written. -/
def lputc (l : List AVal) (off : Nat) (x : AVal) (f : List AVal → VR) : VR :=
  List.rec (motive := fun _ => Nat → AVal → (List AVal → VR) → VR) (fun _ _ _ => .fail 204) (fun v t ih off x f => lputcStep v t ih off x f) l off x f
def loverIntPlain_o (v : AVal) (t : List AVal) (ih : List AVal → (List AVal → VR) → VR) (f : List AVal → VR) : VR := ih t fun r => f (v :: r)
def loverIntPlain_aggi (_k : IntKind) (_n : Nat) (_d : Nat) (_v : AVal) (_t : List AVal) (_ih : List AVal → (List AVal → VR) → VR) (_f : List AVal → VR) : VR := .fail 205
def loverIntPlain (w : AVal) (v : AVal) (t : List AVal) (ih : List AVal → (List AVal → VR) → VR) (f : List AVal → VR) : VR := AVal.rec (motive_1 := fun _ => (AVal) → (List AVal) → (List AVal → (List AVal → VR) → VR) → (List AVal → VR) → VR) (motive_2 := fun _ => Unit) loverIntPlain_o loverIntPlain_o (fun _ => loverIntPlain_o) (fun _ _ => loverIntPlain_o) (fun _ _ => loverIntPlain_o) (fun _ _ => loverIntPlain_o) loverIntPlain_o (fun _ _ => loverIntPlain_o) loverIntPlain_o (fun _ _ _ _ => loverIntPlain_o) (fun _ _ _ _ _ => loverIntPlain_o) loverIntPlain_o (fun _ => loverIntPlain_o) loverIntPlain_o (fun _ _ _ _ _ => loverIntPlain_o) loverIntPlain_o (fun _ _ _ => loverIntPlain_o) (fun _ _ => loverIntPlain_o) loverIntPlain_aggi (fun _ _ => loverIntPlain_o) (fun _ => loverIntPlain_o) () (fun _ _ _ _ => ()) w v t ih f

def loverIntSeg_o (_k : IntKind) (_n : Nat) (_d : Nat) (_t : List AVal) (_ih : List AVal → (List AVal → VR) → VR) (_f : List AVal → VR) : VR := .fail 207
def loverIntSeg_aggi (_k' : IntKind) (m : Nat) (_e : Nat) (k : IntKind) (n : Nat) (d : Nat) (t : List AVal) (ih : List AVal → (List AVal → VR) → VR) (f : List AVal → VR) : VR := Bool.rec (motive := fun _ => VR) (.fail 206) (ih t fun r => f (.aggi k n d :: r)) (Nat.beq n m)
def loverIntSeg (w : AVal) (k : IntKind) (n : Nat) (d : Nat) (t : List AVal) (ih : List AVal → (List AVal → VR) → VR) (f : List AVal → VR) : VR := AVal.rec (motive_1 := fun _ => (IntKind) → (Nat) → (Nat) → (List AVal) → (List AVal → (List AVal → VR) → VR) → (List AVal → VR) → VR) (motive_2 := fun _ => Unit) loverIntSeg_o loverIntSeg_o (fun _ => loverIntSeg_o) (fun _ _ => loverIntSeg_o) (fun _ _ => loverIntSeg_o) (fun _ _ => loverIntSeg_o) loverIntSeg_o (fun _ _ => loverIntSeg_o) loverIntSeg_o (fun _ _ _ _ => loverIntSeg_o) (fun _ _ _ _ _ => loverIntSeg_o) loverIntSeg_o (fun _ => loverIntSeg_o) loverIntSeg_o (fun _ _ _ _ _ => loverIntSeg_o) loverIntSeg_o (fun _ _ _ => loverIntSeg_o) (fun _ _ => loverIntSeg_o) loverIntSeg_aggi (fun _ _ => loverIntSeg_o) (fun _ => loverIntSeg_o) () (fun _ _ _ _ => ()) w k n d t ih f

def loverStep_o (v : AVal) (w : AVal) (t : List AVal) (ih : List AVal → (List AVal → VR) → VR) (f : List AVal → VR) : VR := loverIntPlain w v t ih f
def loverStep_aggi (k : IntKind) (n : Nat) (d : Nat) (_v : AVal) (w : AVal) (t : List AVal) (ih : List AVal → (List AVal → VR) → VR) (f : List AVal → VR) : VR := loverIntSeg w k n d t ih f
def loverStep (v : AVal) (w : AVal) (t : List AVal) (ih : List AVal → (List AVal → VR) → VR) (f : List AVal → VR) : VR := AVal.rec (motive_1 := fun _ => (AVal) → (AVal) → (List AVal) → (List AVal → (List AVal → VR) → VR) → (List AVal → VR) → VR) (motive_2 := fun _ => Unit) loverStep_o loverStep_o (fun _ => loverStep_o) (fun _ _ => loverStep_o) (fun _ _ => loverStep_o) (fun _ _ => loverStep_o) loverStep_o (fun _ _ => loverStep_o) loverStep_o (fun _ _ _ _ => loverStep_o) (fun _ _ _ _ _ => loverStep_o) loverStep_o (fun _ => loverStep_o) loverStep_o (fun _ _ _ _ _ => loverStep_o) loverStep_o (fun _ _ _ => loverStep_o) (fun _ _ => loverStep_o) loverStep_aggi (fun _ _ => loverStep_o) (fun _ => loverStep_o) () (fun _ _ _ _ => ()) v v w t ih f

def loverAt (l : List AVal) (v : AVal) (ih : List AVal → (List AVal → VR) → VR) (f : List AVal → VR) : VR :=
  List.rec (motive := fun _ => AVal → (List AVal → (List AVal → VR) → VR) → (List AVal → VR) → VR) (fun _ _ _ => .fail 208) (fun w t _ v ih f => loverStep v w t ih f) l v ih f
/-- Cells are written over the first ones of a row. -/
def lover (x l : List AVal) (f : List AVal → VR) : VR :=
  List.rec (motive := fun _ => List AVal → (List AVal → VR) → VR) (fun l f => f l) (fun v _ ih l f => loverAt l v ih f) x l f
/-- Cells are written into a packed row. -/
def lputSeg (x : List AVal) (k : IntKind) (n d off : Nat) (t : List AVal) (f : List AVal → VR) : VR := match x with
  | [.aggi k' m y] => Bool.rec (motive := fun _ => VR) (.fail 209) (f (.aggi k n (dput (kw k) d off m (dfst (kw k) m y)) :: t)) (band (Nat.ble (Nat.add off m) n) (kbeq k k'))
  | _ => .fail 210
def lputStep_o (v : AVal) (j : Nat) (_t : List AVal) (ih : Nat → List AVal → (List AVal → VR) → VR) (x : List AVal) (f : List AVal → VR) : VR := ih j x fun r => f (v :: r)
def lputStep_aggi (k : IntKind) (n : Nat) (d : Nat) (_v : AVal) (j : Nat) (t : List AVal) (ih : Nat → List AVal → (List AVal → VR) → VR) (x : List AVal) (f : List AVal → VR) : VR := Bool.rec (motive := fun _ => VR) (ih (Nat.sub (Nat.succ j) n) x fun r => f (.aggi k n d :: r)) (lputSeg x k n d (Nat.succ j) t f) (lt (Nat.succ j) n)
def lputStep (v : AVal) (j : Nat) (t : List AVal) (ih : Nat → List AVal → (List AVal → VR) → VR) (x : List AVal) (f : List AVal → VR) : VR := AVal.rec (motive_1 := fun _ => (AVal) → (Nat) → (List AVal) → (Nat → List AVal → (List AVal → VR) → VR) → (List AVal) → (List AVal → VR) → VR) (motive_2 := fun _ => Unit) lputStep_o lputStep_o (fun _ => lputStep_o) (fun _ _ => lputStep_o) (fun _ _ => lputStep_o) (fun _ _ => lputStep_o) lputStep_o (fun _ _ => lputStep_o) lputStep_o (fun _ _ _ _ => lputStep_o) (fun _ _ _ _ _ => lputStep_o) lputStep_o (fun _ => lputStep_o) lputStep_o (fun _ _ _ _ _ => lputStep_o) lputStep_o (fun _ _ _ => lputStep_o) (fun _ _ => lputStep_o) lputStep_aggi (fun _ _ => lputStep_o) (fun _ => lputStep_o) () (fun _ _ _ _ => ()) v v j t ih x f

def lputAt (off : Nat) (v : AVal) (t : List AVal) (ih : Nat → List AVal → (List AVal → VR) → VR) (x : List AVal) (f : List AVal → VR) : VR :=
  Nat.rec (motive := fun _ => AVal → List AVal → (Nat → List AVal → (List AVal → VR) → VR) → List AVal → (List AVal → VR) → VR) (fun v t _ x f => lover x (v :: t) f) (fun j _ v t ih x f => lputStep v j t ih x f) off v t ih x f
def lputNil (off : Nat) (x : List AVal) (f : List AVal → VR) : VR := Nat.rec (motive := fun _ => List AVal → (List AVal → VR) → VR) (fun x f => lover x [] f) (fun _ _ _ _ => .fail 211) off x f
/-- Cells are written from a place on. -/
def lput (l : List AVal) (off : Nat) (x : List AVal) (f : List AVal → VR) : VR :=
  List.rec (motive := fun _ => Nat → List AVal → (List AVal → VR) → VR) (fun off x f => lputNil off x f) (fun v t ih off x f => lputAt off v t ih x f) l off x f
def lapp (a b : List AVal) : List AVal := List.rec (motive := fun _ => List AVal → List AVal) (fun b => b) (fun v _ ih b => v :: ih b) a b
def lnth (l : List AVal) (k : Nat) : AVal := List.rec (motive := fun _ => Nat → AVal) (fun _ => .bad) (fun v _ ih k => Nat.rec (motive := fun _ => AVal → (Nat → AVal) → AVal) (fun v _ => v) (fun j _ _ ih => ih j) k v ih) l k

def Blk.cell_o (_off : Nat) : AVal := .bad
def Blk.cell_cells (l : List AVal) (off : Nat) : AVal := lcell l off
def Blk.cell_ints (k : IntKind) (n : Nat) (d : Nat) (off : Nat) : AVal := icell k n d off
def Blk.cell (b : Blk) (off : Nat) : AVal := Blk.rec (motive := fun _ => (Nat) → AVal) Blk.cell_o Blk.cell_cells Blk.cell_ints (fun _ _ => Blk.cell_o) (fun _ _ => Blk.cell_o) (fun _ _ _ => Blk.cell_o) (fun _ _ _ => Blk.cell_o) (fun _ => Blk.cell_o) b off

def Blk.cut_o (_off : Nat) (_cnt : Nat) : AVal := .bad
def Blk.cut_cells (l : List AVal) (off : Nat) (cnt : Nat) : AVal := lcut l off cnt
def Blk.cut_ints (k : IntKind) (n : Nat) (d : Nat) (off : Nat) (cnt : Nat) : AVal := Bool.rec (motive := fun _ => AVal) .bad (.aggi k cnt (dcut (kw k) d off cnt)) (Nat.ble (Nat.add off cnt) n)
def Blk.cut (b : Blk) (off : Nat) (cnt : Nat) : AVal := Blk.rec (motive := fun _ => (Nat) → (Nat) → AVal) Blk.cut_o Blk.cut_cells Blk.cut_ints (fun _ _ => Blk.cut_o) (fun _ _ => Blk.cut_o) (fun _ _ _ => Blk.cut_o) (fun _ _ _ => Blk.cut_o) (fun _ => Blk.cut_o) b off cnt

def Blk.putCell_o (_off : Nat) (_v : AVal) (_f : Blk → VR) : VR := .fail 212
def Blk.putCell_cells (l : List AVal) (off : Nat) (v : AVal) (f : Blk → VR) : VR := lputc l off v fun l => f (.cells l)
def Blk.putCell_ints (k : IntKind) (n : Nat) (d : Nat) (off : Nat) (v : AVal) (f : Blk → VR) : VR := iput v k n d off fun d => f (.ints k n d)
def Blk.putCell (b : Blk) (off : Nat) (v : AVal) (f : Blk → VR) : VR := Blk.rec (motive := fun _ => (Nat) → (AVal) → (Blk → VR) → VR) Blk.putCell_o Blk.putCell_cells Blk.putCell_ints (fun _ _ => Blk.putCell_o) (fun _ _ => Blk.putCell_o) (fun _ _ _ => Blk.putCell_o) (fun _ _ _ => Blk.putCell_o) (fun _ => Blk.putCell_o) b off v f

def putCells_o (_l : List AVal) (_off : Nat) (_f : Blk → VR) : VR := .fail 213
def putCells_agg (x : List AVal) (l : List AVal) (off : Nat) (f : Blk → VR) : VR := lput l off x fun l => f (.cells l)
def putCells_aggi (k : IntKind) (m : Nat) (y : Nat) (l : List AVal) (off : Nat) (f : Blk → VR) : VR := lput l off [.aggi k m y] fun l => f (.cells l)
def putCells (v : AVal) (l : List AVal) (off : Nat) (f : Blk → VR) : VR := AVal.rec (motive_1 := fun _ => (List AVal) → (Nat) → (Blk → VR) → VR) (motive_2 := fun _ => Unit) putCells_o putCells_o (fun _ => putCells_o) (fun _ _ => putCells_o) (fun _ _ => putCells_o) (fun _ _ => putCells_o) putCells_o (fun _ _ => putCells_o) putCells_o (fun _ _ _ _ => putCells_o) (fun _ _ _ _ _ => putCells_o) putCells_o (fun _ => putCells_o) putCells_o (fun _ _ _ _ _ => putCells_o) putCells_o (fun _ _ _ => putCells_o) (fun a0 _ => putCells_agg a0) putCells_aggi (fun _ _ => putCells_o) (fun _ => putCells_o) () (fun _ _ _ _ => ()) v l off f

def putInts_o (_k : IntKind) (_n : Nat) (_d : Nat) (_off : Nat) (_f : Blk → VR) : VR := .fail 215
def putInts_aggi (k' : IntKind) (m : Nat) (y : Nat) (k : IntKind) (n : Nat) (d : Nat) (off : Nat) (f : Blk → VR) : VR := Bool.rec (motive := fun _ => VR) (.fail 214) (f (.ints k n (dput (kw k) d off m (dfst (kw k) m y)))) (band (Nat.ble (Nat.add off m) n) (kbeq k k'))
def putInts (v : AVal) (k : IntKind) (n : Nat) (d : Nat) (off : Nat) (f : Blk → VR) : VR := AVal.rec (motive_1 := fun _ => (IntKind) → (Nat) → (Nat) → (Nat) → (Blk → VR) → VR) (motive_2 := fun _ => Unit) putInts_o putInts_o (fun _ => putInts_o) (fun _ _ => putInts_o) (fun _ _ => putInts_o) (fun _ _ => putInts_o) putInts_o (fun _ _ => putInts_o) putInts_o (fun _ _ _ _ => putInts_o) (fun _ _ _ _ _ => putInts_o) putInts_o (fun _ => putInts_o) putInts_o (fun _ _ _ _ _ => putInts_o) putInts_o (fun _ _ _ => putInts_o) (fun _ _ => putInts_o) putInts_aggi (fun _ _ => putInts_o) (fun _ => putInts_o) () (fun _ _ _ _ => ()) v k n d off f

def Blk.put_o (_off : Nat) (_v : AVal) (_f : Blk → VR) : VR := .fail 216
def Blk.put_cells (l : List AVal) (off : Nat) (v : AVal) (f : Blk → VR) : VR := putCells v l off f
def Blk.put_ints (k : IntKind) (n : Nat) (d : Nat) (off : Nat) (v : AVal) (f : Blk → VR) : VR := putInts v k n d off f
def Blk.put (b : Blk) (off : Nat) (v : AVal) (f : Blk → VR) : VR := Blk.rec (motive := fun _ => (Nat) → (AVal) → (Blk → VR) → VR) Blk.put_o Blk.put_cells Blk.put_ints (fun _ _ => Blk.put_o) (fun _ _ => Blk.put_o) (fun _ _ _ => Blk.put_o) (fun _ _ _ => Blk.put_o) (fun _ => Blk.put_o) b off v f

/-- Two rows of cells, one behind the other. -/
def catCells (a b : AVal) : AVal := match a, b with
  | .agg [], b => b
  | a, .agg [] => a
  | .aggi k n d, .aggi k' m e => if Nat.beq n 0 then .aggi k' m e else if Nat.beq m 0 then .aggi k n d else if k = k' then .aggi k (Nat.add n m) (dcat (kw k) n d e) else .bad
  | .agg l, .agg r => .agg (lapp l r)
  | .aggi k n d, .agg r => .agg (.aggi k n d :: r)
  | .agg l, .aggi k n d => .agg (lapp l [.aggi k n d])
  | _, _ => .bad

/-! ### Memory -/
def VR.check_o (v : AVal) (_w : Nat) (s : St) : VR := .ok v s
def VR.check_bad  (_v : AVal) (w : Nat) (_s : St) : VR := .fail w
def VR.check_bool (b : Bool) (_v : AVal) (_w : Nat) (s : St) : VR := .ok (.bool b) s
def VR.check_int (k : IntKind) (n : Int) (_v : AVal) (_w : Nat) (s : St) : VR := .ok (.int k n) s
def VR.check_str (n : Nat) (d : Nat) (_v : AVal) (_w : Nat) (s : St) : VR := .ok (.str n d) s
def VR.check_nilp  (_v : AVal) (_w : Nat) (s : St) : VR := .ok .nilp s
def VR.check_ptr (i : Id) (o : Nat) (_v : AVal) (_w : Nat) (s : St) : VR := .ok (.ptr i o) s
def VR.check_nils  (_v : AVal) (_w : Nat) (s : St) : VR := .ok .nils s
def VR.check_slice (i : Id) (o : Nat) (n : Nat) (c : Nat) (_v : AVal) (_w : Nat) (s : St) : VR := .ok (.slice i o n c) s
def VR.check_slicu (i : Id) (o : Nat) (n : Nat) (c : Nat) (z : Nat) (_v : AVal) (_w : Nat) (s : St) : VR := .ok (.slicu i o n c z) s
def VR.check_aggi (k : IntKind) (n : Nat) (d : Nat) (_v : AVal) (_w : Nat) (s : St) : VR := .ok (.aggi k n d) s
def VR.check (v : AVal) (w : Nat) (s : St) : VR := AVal.rec (motive_1 := fun _ => (AVal) → (Nat) → (St) → VR) (motive_2 := fun _ => Unit) VR.check_o VR.check_bad VR.check_bool VR.check_int (fun _ _ => VR.check_o) VR.check_str VR.check_nilp VR.check_ptr VR.check_nils VR.check_slice VR.check_slicu VR.check_o (fun _ => VR.check_o) VR.check_o (fun _ _ _ _ _ => VR.check_o) VR.check_o (fun _ _ _ => VR.check_o) (fun _ _ => VR.check_o) VR.check_aggi (fun _ _ => VR.check_o) (fun _ => VR.check_o) () (fun _ _ _ _ => ()) v v w s

def I8.next (i : I8) : I8 := I8.rec (motive := fun _ => I8) .i1 .i2 .i3 .i4 .i5 .i6 .i7 .i0 i
def Id.carry (a0 a1 a2 a3 a4 : I8) (k : Id → VR) : VR :=
  match a4 with
  | .i7 => match a3 with
    | .i7 => match a2 with
      | .i7 => match a1 with
        | .i7 => match a0 with
          | .i7 => .fail 1
          | a0 => k ⟨a0.next, .i0, .i0, .i0, .i0, .i0⟩
        | a1 => k ⟨a0, a1.next, .i0, .i0, .i0, .i0⟩
      | a2 => k ⟨a0, a1, a2.next, .i0, .i0, .i0⟩
    | a3 => k ⟨a0, a1, a2, a3.next, .i0, .i0⟩
  | a4 => k ⟨a0, a1, a2, a3, a4.next, .i0⟩
def Id.succ0 (a0 a1 a2 a3 a4 : I8) (k : Id → VR) : VR := k ⟨a0, a1, a2, a3, a4, .i1⟩
def Id.succ1 (a0 a1 a2 a3 a4 : I8) (k : Id → VR) : VR := k ⟨a0, a1, a2, a3, a4, .i2⟩
def Id.succ2 (a0 a1 a2 a3 a4 : I8) (k : Id → VR) : VR := k ⟨a0, a1, a2, a3, a4, .i3⟩
def Id.succ3 (a0 a1 a2 a3 a4 : I8) (k : Id → VR) : VR := k ⟨a0, a1, a2, a3, a4, .i4⟩
def Id.succ4 (a0 a1 a2 a3 a4 : I8) (k : Id → VR) : VR := k ⟨a0, a1, a2, a3, a4, .i5⟩
def Id.succ5 (a0 a1 a2 a3 a4 : I8) (k : Id → VR) : VR := k ⟨a0, a1, a2, a3, a4, .i6⟩
def Id.succ6 (a0 a1 a2 a3 a4 : I8) (k : Id → VR) : VR := k ⟨a0, a1, a2, a3, a4, .i7⟩
def Id.succA (a0 a1 a2 a3 a4 a5 : I8) (k : Id → VR) : VR := I8.rec (motive := fun _ => I8 → I8 → I8 → I8 → I8 → (Id → VR) → VR) Id.succ0 Id.succ1 Id.succ2 Id.succ3 Id.succ4 Id.succ5 Id.succ6 Id.carry a5 a0 a1 a2 a3 a4 k
/-- The next name. -/
def Id.succ (i : Id) (k : Id → VR) : VR := Id.rec (motive := fun _ => (Id → VR) → VR) Id.succA i k
def allocK (h : Heap) (i : Id) (ro : Nat) (b : Blk) (k : Id → St → VR) (n : Id) : VR := k i ⟨Heap.set i b h, n, ro⟩
def allocA (h : Heap) (i : Id) (ro : Nat) (b : Blk) (k : Id → St → VR) : VR := i.succ (allocK h i ro b k)
def St.alloc (s : St) (b : Blk) (k : Id → St → VR) : VR := St.rec (motive := fun _ => Blk → (Id → St → VR) → VR) allocA s b k
def St.at (s : St) (i : Id) : Blk := Heap.get i s.h
/-- May a block be written? -/
def St.may (s : St) (i : Id) : Bool := Nat.rec (motive := fun _ => Id → Bool) (fun _ => true) (fun r _ i => Nat.ble (Nat.succ r) i.num) s.ro i
def putYes (s : St) (i : Id) (b : Blk) (v : AVal) : VR := St.rec (motive := fun _ => Id → Blk → AVal → VR) (fun h n ro i b v => .ok v ⟨Heap.set i b h, n, ro⟩) s i b v
def putNo (_ : St) (_ : Id) (_ : Blk) (_ : AVal) : VR := .fail 2
def St.put (s : St) (i : Id) (b : Blk) (v : AVal) : VR := Bool.rec (motive := fun _ => St → Id → Blk → AVal → VR) putNo putYes (s.may i) s i b v
def unit : AVal := .tup []
end
end Go.Cx

/-! ## The abstract machine: operations resolved ahead, and how they run. Definitions only. -/
namespace Go.Cx
noncomputable section

/-! ### Constants -/
def packBytes (l : List UInt8) : Nat := List.rec (motive := fun _ => Nat) 0 (fun b _ ih => Nat.add b.toNat (Nat.mul 256 ih)) l
mutual
def ofValue : Value → AVal
  | .bool b => .bool b
  | .int k n => .int k n
  | .float k n => .float k n
  | .string s => .str s.size (packBytes s.data.toList)
  | .pointer none => .nilp
  | .slice none 0 0 => .nils
  | .map none => .nilm
  | .nilFunc => .nilf
  | .nilIface => .nili
  | .func fn ⟨[]⟩ ⟨[]⟩ => .func fn [] []
  | .agg ⟨l⟩ => if (ofValues l).all isScalar then .agg (ofValues l) else .bad
  | .tuple ⟨l⟩ => .tup (ofValues l)
  | _ => .bad
def ofValues : List Value → List AVal
  | [] => []
  | v :: l => ofValue v :: ofValues l
end

/-! ### Resolved operations -/
inductive AOpd where
  | loc (k : Nat)
  | env (p : P2)
  | const (v : AVal)

/-- How single cells are held against each other. -/
inductive EK1 where | bool | int | str | ptr | slice | map | iface
inductive EK where
  | one (k : EK1)
  | cells (l : List EK1)
  | no
def EK.isNo (k : EK) : Bool := match k with | .no => true | _ => false

inductive AO where
  | bad
  | move (x : AOpd)
  | nilck (x : AOpd)
  | pick (c a b : AOpd)
  | new (b : Blk)
  | box (x : AOpd)
  | build (z : List AVal) (ps : List ((Nat × Nat) × AOpd))
  | bslice (isInt : Bool) (z : List AVal) (len : Nat) (ps : List ((Nat × Nat) × AOpd))
  | load (x : AOpd)
  | loadn (n : Nat) (x : AOpd)
  | store (a x : AOpd)
  | storen (n : Nat) (a x : AOpd)
  | binInt (op : BinOp) (x y : AOpd)
  | eq (k : EK) (neg : Bool) (x y : AOpd)
  | strop (op : BinOp) (x y : AOpd)
  | fdiv (k : FloatKind) (x y : AOpd)
  | fne (k : FloatKind) (x y : AOpd)
  | not (x : AOpd)
  | neg (x : AOpd)
  | convII (k : IntKind) (x : AOpd)
  | convIF (k : FloatKind) (x : AOpd)
  | convBS (x : AOpd)
  | convSB (x : AOpd)
  | convSame (x : AOpd)
  | s2ap (n : Nat) (x : AOpd)
  | mkif (t : Nat) (x : AOpd)
  | mkfn (fn : Fn) (first cap : List AOpd)
  | mkmap
  | mkslice (esz bytes : Nat) (z : AVal) (l c : AOpd)
  | slStr (x : AOpd) (lo hi : Option AOpd)
  | slSl (esz : Nat) (x : AOpd) (lo hi mx : Option AOpd)
  | slArr (n esz : Nat) (x : AOpd) (lo hi mx : Option AOpd)
  | fieldAddr (off : Nat) (x : AOpd)
  | field (off : Nat) (x : AOpd)
  | fieldn (off n : Nat) (x : AOpd)
  | ixArr (n esz : Nat) (x i : AOpd)
  | ixSl (esz : Nat) (x i : AOpd)
  | ixStr (x i : AOpd)
  | ixVal (n : Nat) (x i : AOpd)
  | ixValn (n esz : Nat) (x i : AOpd)
  | lookup (q : EK) (z : AVal) (ok : Bool) (x k : AOpd)
  | mupd (q : EK) (m k x : AOpd)
  | rngStr (x : AOpd)
  | rngMap (x : AOpd)
  | nextStr (x : AOpd)
  | entry (x : AOpd)
  | tassert (t : Nat) (z : AVal) (ok : Bool) (x : AOpd)
  | extract (k : Nat) (x : AOpd)
  | append (esz bytes : Nat) (s x : AOpd)
  | appz (esz bytes : Nat) (z : AVal) (s x : AOpd)
  | copy (esz : Nat) (d s : AOpd)
  | len (x : AOpd)
  | lenStr (x : AOpd)
  | lenMap (x : AOpd)
  | cap (x : AOpd)
  | min (l : List AOpd)
  | max (l : List AOpd)
  | delete (q : EK) (m k : AOpd)
  | clearMap (m : AOpd)
  | clearSl (esz : Nat) (z : AVal) (x : AOpd)
  | callf (f : Nat) (args : List AOpd)
  | callv (fv : AOpd) (args : List AOpd)
  | calli (ms : String) (r : AOpd) (args : List AOpd)

structure AOp where
  op : AO
  dst : Option P2
  guard : Option (AOpd × Bool)

/-- What an operation of a region whose order is open does: it computes; it reads (how many states back it has to read the same); it makes a block; it changes something. -/
inductive DK where
  | pure
  | read (n : Nat)
  | alloc
  | eff
structure DOp where
  op : AOp
  kind : DK

inductive AC where
  | bad
  | skip
  | ops (l : List AOp)
  | draw (l : List DOp)
  | seq (a b : AC)
  | cond (x : AOpd) (a b : AC)
  | block (id : Nat) (b : AC)
  | loop (b : AC)
  | mloop (it : AOpd) (top : List P2) (id : Nat) (rest : AC)
  | exit (id : Nat)
  | ret

inductive ARes where
  | tmp (p : P2)
  | cell (p : P2)
  | celln (p : P2) (n : Nat)
  | bad

structure AFn where
  code : AC
  params : List (Option P2)
  results : List ARes

/-! ### What is known of types -/
/-- The first so many of a list, packed if they are numbers of one kind; and the rest. -/
def packFirst (n : Nat) (l : List AVal) : List AVal × List AVal := (match pack (.agg (l.take n)) with | .aggi k m d => [.aggi k m d] | _ => l.take n, l.drop n)
mutual
/-- The cells of a type at the head of a list, its arrays of numbers packed; and the rest. -/
def segBy (P : Program) : Nat → Nat → List AVal → List AVal × List AVal
  | 0, _, l => ([], l)
  | f + 1, t, l => match P.underlying t with
    | some (.struct fs) => segFields P f fs.toList l
    | some (.array n e) => match P.underlying e with
      | some (.int _) => packFirst n l
      | _ => segTimes P f n e l
    | _ => (l.take 1, l.drop 1)
def segFields (P : Program) : Nat → List Field → List AVal → List AVal × List AVal
  | 0, _, l => ([], l)
  | _ + 1, [], l => ([], l)
  | f + 1, x :: fs, l => ((segBy P f x.type l).1 ++ (segFields P f fs (segBy P f x.type l).2).1, (segFields P f fs (segBy P f x.type l).2).2)
def segTimes (P : Program) : Nat → Nat → Nat → List AVal → List AVal × List AVal
  | 0, _, _, l => ([], l)
  | _ + 1, 0, _, l => ([], l)
  | f + 1, n + 1, e, l => ((segBy P f e l).1 ++ (segTimes P f n e (segBy P f e l).2).1, (segTimes P f n e (segBy P f e l).2).2)
end
/-- The nought of a type; `bad`: it is not known. -/
def zeroOf (P : Program) (t : Nat) (v : AVal) : AVal := match v with
  | .agg l => aggOf ((segBy P 100 t l).1 ++ (segBy P 100 t l).2)
  | x => if isScalar x then x else .bad
def zeroA (P : Program) (t : Nat) : AVal :=
  match P.info? t with
  | some i => match i.zero with
    | some v => zeroOf P t (ofValue v)
    | none => .bad
  | none => .bad
/-- Is all known of a type? -/
def kn (P : Program) (t : Nat) : Bool := match P.info? t, P.underlying t with | some _, some _ => true | _, _ => false
/-- The cells of a nought, if they are as many as they should be. -/
def zCells (P : Program) (t : Nat) : Option (List AVal) := match P.info? t, zeroA P t with
  | _, .bad => none
  | some i, z => if Nat.beq (lwide z.cellList) i.size then some z.cellList else none
  | none, _ => none
def sizeA (P : Program) (t : Nat) : Nat := match P.info? t with | some i => i.size | none => 0
def bytesA (P : Program) (t : Nat) : Nat := match P.info? t with | some i => i.bytes | none => 0
def isAggA (P : Program) (t : Nat) : Bool := match P.underlying t with | some (.struct _) | some (.array _ _) => true | _ => false
def isIntA (P : Program) (t : Nat) : Bool := match P.underlying t with | some (.int _) => true | _ => false
/-- The one type of a single cell, and how its values are held against each other. -/
def ekOne (P : Program) (t : Nat) : Option EK1 := match P.underlying t with
  | some .bool => some .bool
  | some (.int _) => some .int
  | some .string => some .str
  | _ => none
def ekFields (P : Program) : List Field → Nat → Option (List EK1)
  | [], _ => some []
  | f :: fs, i => if f.name != "_" && f.offset == i && kn P f.type then match ekOne P f.type, ekFields P fs (i + 1) with
      | some k, some l => some (k :: l)
      | _, _ => none
    else none
/-- How two values of a type are held against each other. -/
def ekOf (P : Program) (t : Nat) : EK := match P.underlying t with
  | some .bool => .one .bool
  | some (.int _) => .one .int
  | some .string => .one .str
  | some (.pointer _) => .one .ptr
  | some (.slice _) => .one .slice
  | some (.map _ _) => .one .map
  | some (.interface _) => .one .iface
  | some (.struct fs) => if !P.stoodInHeld t && !P.eqGuardType P.depth t then match ekFields P fs.toList 0 with
      | some l => .cells l
      | none => .no
    else .no
  | some (.array n e) => if !P.eqGuardType P.depth t && kn P e && Nat.beq (sizeA P e) 1 then match ekOne P e with
      | some k => .cells (List.replicate n k)
      | none => .no
    else .no
  | _ => .no
/-- Keys of maps. -/
def ekKey (P : Program) (t : Nat) : EK := match P.underlying t with
  | some .bool => .one .bool
  | some (.int _) => .one .int
  | some .string => .one .str
  | some (.array n e) => if kn P e && Nat.beq (sizeA P e) 1 then match ekOne P e with
      | some k => .cells (List.replicate n k)
      | none => .no
    else .no
  | _ => .no

/-! ### Operations resolved -/
/-- Is a bit set? -/
def tb (u t : Nat) : Bool := Nat.beq (Nat.land (Nat.shiftRight u t) 1) 1
def setb (u t : Nat) : Nat := Nat.lor u (Nat.shiftLeft 1 t)
/-- Where a value stands, ahead of time: as the so-many-eth result of its region, in a slot, or by itself. -/
inductive Pos where
  | loc (j : Nat)
  | env (p : P2)
  | const (v : AVal)
def Pos.opd (n : Nat) (x : Pos) : AOpd := Pos.rec (motive := fun _ => Nat → AOpd) (fun j n => .loc (Nat.sub (Nat.sub n 1) j)) (fun p _ => .env p) (fun v _ => .const v) x n
def findPos (t : Nat) (l : List (Nat × Pos)) : Option Pos := List.rec (motive := fun _ => Option Pos) none (fun x _ ih => Bool.rec (motive := fun _ => Option Pos) ih (some x.2) (Nat.beq x.1 t)) l
/-- The slots that are kept, the greatest one first. -/
def bitsGo (f : Nat) (u : Nat) : List Nat := Nat.rec (motive := fun _ => Nat → List Nat) (fun _ => []) (fun _ ih u => Bool.rec (motive := fun _ => List Nat) (Nat.log2 u :: ih (Nat.sub u (Nat.pow 2 (Nat.log2 u)))) [] (Nat.beq u 0)) f u
def bitsOf (u : Nat) : List Nat := bitsGo 64 u
/-- The place of a slot among those that are kept. -/
def idxOf (t : Nat) (l : List Nat) : Nat := List.rec (motive := fun _ => Nat) 0 (fun x _ ih => Bool.rec (motive := fun _ => Nat) (Nat.succ ih) 0 (Nat.beq x t)) l
def has (t : Nat) (l : List Nat) : Bool := List.rec (motive := fun _ => Bool) false (fun x _ ih => Bool.rec (motive := fun _ => Bool) ih true (Nat.beq x t)) l
def slot (L : List Nat) (t : Nat) : P2 := P2.of (idxOf t L)
def posEnv (L : List Nat) (t : Nat) : Pos := Bool.rec (motive := fun _ => Pos) (.const .bad) (.env (slot L t)) (has t L)
/-- Where an operand stands. -/
def posOf (L : List Nat) (known : List (Nat × Pos)) : Operand → Pos
  | .tmp t => Option.rec (motive := fun _ => Pos) (posEnv L t) (fun x => x) (findPos t known)
  | .const v => .const (ofValue v)
  | .global _ => .const .bad
  | .func f => .const (.func (.func f) [] [])
def aggList : AVal → Option (List AVal)
  | .agg l => some l
  | .aggi k n d => some [.aggi k n d]
  | _ => none
def cParts (P : Program) (c : Operand → AOpd) (fs : Array Field) : List (Nat × Operand) → List ((Nat × Nat) × AOpd)
  | [] => []
  | (i, x) :: l => match fs[i]? with
    | some f => ((f.offset, sizeA P f.type), c x) :: cParts P c fs l
    | none => ((0, 0), .const .bad) :: cParts P c fs l
def cPartsN (c : Operand → AOpd) (sz : Nat) : List (Nat × Operand) → List ((Nat × Nat) × AOpd)
  | [] => []
  | (i, x) :: l => ((i * sz, sz), c x) :: cPartsN c sz l
def repeatA : Nat → List AVal → List AVal
  | 0, _ => []
  | n + 1, l => l ++ repeatA n l

def cAppend (P : Program) (e u : Nat) (s x : AOpd) : AO :=
  if kn P e && !(Nat.beq (sizeA P e) 0 || Nat.beq (bytesA P e) 0) then
    match P.underlying u, zCells P e with
    | some (.int _), some _ => .appz (sizeA P e) (bytesA P e) (zeroA P e) s x
    | some _, some _ => .append (sizeA P e) (bytesA P e) s x
    | _, _ => .bad
  else .bad
def cBuiltin (P : Program) (b : Builtin) (ts : List Nat) (xs : List AOpd) : AO :=
  match b, ts, xs with
  | .append, [t, u], [s, x] => match P.underlying t with
    | some (.slice e) => cAppend P e u s x
    | _ => .bad
  | .copy, [t, _], [d, s] => match P.underlying t with
    | some (.slice e) => if kn P e then .copy (sizeA P e) d s else .bad
    | _ => .bad
  | .len, [t], [x] => match P.underlying t with
    | some .string => .lenStr x
    | some (.slice _) => .len x
    | some (.map _ _) => .lenMap x
    | some (.array n _) => .move (.const (.int .i64 n))
    | _ => .bad
  | .cap, [t], [x] => match P.underlying t with
    | some (.slice _) => .cap x
    | _ => .bad
  | .min, _, xs => .min xs
  | .max, _, xs => .max xs
  | .delete, [t, _], [m, k] => match P.underlying t with
    | some (.map kt _) => if (ekKey P kt).isNo then .bad else .delete (ekKey P kt) m k
    | _ => .bad
  | .clear, [t], [x] => match P.underlying t with
    | some (.map _ _) => .clearMap x
    | some (.slice e) => match zCells P e with
      | some _ => .clearSl (sizeA P e) (zeroA P e) x
      | none => .bad
    | _ => .bad
  | _, _, _ => .bad

def cEq (P : Program) (neg : Bool) (t : Nat) (a b : AOpd) : AO := match ekOf P t with
  | .no => .bad
  | k => .eq k neg a b
def cBin (P : Program) (op : BinOp) (t : Nat) (a b : AOpd) : AO :=
  match P.underlying t, op with
  | some (.int _), _ => .binInt op a b
  | some .string, _ => .strop op a b
  | some (.float k), .quo => .fdiv k a b
  | some (.float k), .neq => .fne k a b
  | _, .eql => cEq P false t a b
  | _, .neq => cEq P true t a b
  | _, _ => .bad

def cConv (P : Program) (s d : Nat) (x : AOpd) : AO :=
  match P.underlying s, P.underlying d with
  | some (.slice _), some (.slice e) => match P.underlying e with
    | some (.int .u8) => if Nat.beq s d then .convSame x else .bad
    | _ => .bad
  | some (.int _), some (.int k) => .convII k x
  | some (.int _), some (.float k) => .convIF k x
  | some (.slice e), some .string => match P.underlying e with
    | some (.int .u8) => .convBS x
    | _ => .bad
  | some .string, some (.slice e) => match P.underlying e with
    | some (.int .u8) => .convSB x
    | _ => .bad
  | _, _ => .bad

def cOp (P : Program) (c : Operand → AOpd) (o : Op) : AO :=
  match o with
  | .move x | .assign x => .move (c x)
  | .nilCheck x => .nilck (c x)
  | .pick q a b => .pick (c q) (c a) (c b)
  | .alloc t => match zeroA P t with
    | .bad => .bad
    | z => .new z.blk
  | .box _ x => .box (c x)
  | .build t ps => match P.underlying t, aggList (zeroA P t) with
    | some (.struct fs), some z => if fs.toList.all (fun f => kn P f.type) then .build z (cParts P c fs ps.toList) else .bad
    | some (.array _ e), some z => if kn P e then .build z (cPartsN c (sizeA P e) ps.toList) else .bad
    | _, _ => .bad
  | .buildSlice t n ps => match P.underlying t with
    | some (.slice e) => match zCells P e with
      | some z => if kn P e && Nat.ble (n * sizeA P e) 65536 then .bslice (isIntA P e) (repeatA n z) n (cPartsN c (sizeA P e) ps.toList) else .bad
      | none => .bad
    | _ => .bad
  | .load t a => if kn P t then (if isAggA P t then .loadn (sizeA P t) (c a) else .load (c a)) else .bad
  | .store t a x => if kn P t then (if isAggA P t then .storen (sizeA P t) (c a) (c x) else if Nat.beq (sizeA P t) 1 then .store (c a) (c x) else .bad) else .bad
  | .binOp op t x y _ => cBin P op t (c x) (c y)
  | .unOp op _ x => match op with
    | .not => .not (c x)
    | .neg => .neg (c x)
    | _ => .bad
  | .convert s d x => cConv P s d (c x)
  | .sliceToArrayPointer t x => match P.underlying t with
    | some (.array n _) => .s2ap n (c x)
    | _ => .bad
  | .makeInterface t x => match P.underlying t with
    | some (.interface _) => .bad
    | some _ => .mkif t (c x)
    | none => .bad
  | .makeFunc fn a b => .mkfn fn (a.toList.map c) (b.toList.map c)
  | .makeMap t r => match P.underlying t, r with
    | some (.map _ _), none => .mkmap
    | _, _ => .bad
  | .makeSlice t l k => match P.underlying t with
    | some (.slice e) => match zCells P e with
      | some _ => if kn P e && !Nat.beq (sizeA P e) 0 then .mkslice (sizeA P e) (bytesA P e) (zeroA P e) (c l) (c k) else .bad
      | none => .bad
    | _ => .bad
  | .slice t x l h m => match P.underlying t with
    | some .string => match m with
      | none => .slStr (c x) (l.map c) (h.map c)
      | some _ => .bad
    | some (.slice e) => if kn P e && (m.isNone || h.isSome) then .slSl (sizeA P e) (c x) (l.map c) (h.map c) (m.map c) else .bad
    | some (.array n e) => if kn P e && (m.isNone || h.isSome) then .slArr n (sizeA P e) (c x) (l.map c) (h.map c) (m.map c) else .bad
    | _ => .bad
  | .fieldAddr t x f => match P.underlying t with
    | some (.struct fs) => match fs[f]? with
      | some fl => if kn P fl.type && !Nat.beq (sizeA P fl.type) 0 then .fieldAddr fl.offset (c x) else .bad
      | none => .bad
    | _ => .bad
  | .field t x f => match P.underlying t with
    | some (.struct fs) => match fs[f]? with
      | some fl => if kn P fl.type then (if isAggA P fl.type then .fieldn fl.offset (sizeA P fl.type) (c x) else .field fl.offset (c x)) else .bad
      | none => .bad
    | _ => .bad
  | .indexAddr t x i => match P.underlying t with
    | some (.array n e) => if kn P e then .ixArr n (sizeA P e) (c x) (c i) else .bad
    | some (.slice e) => if kn P e then .ixSl (sizeA P e) (c x) (c i) else .bad
    | _ => .bad
  | .index t x i => match P.underlying t with
    | some (.array n e) => if kn P e then (if isAggA P e then .ixValn n (sizeA P e) (c x) (c i) else if Nat.beq (sizeA P e) 1 then .ixVal n (c x) (c i) else .bad) else .bad
    | some .string => .ixStr (c x) (c i)
    | _ => .bad
  | .lookup t x k ok => match P.underlying t with
    | some (.map kt e) => if (ekKey P kt).isNo then .bad else .lookup (ekKey P kt) (zeroA P e) ok (c x) (c k)
    | _ => .bad
  | .mapUpdate t m k x | .insert t m k x => match P.underlying t with
    | some (.map kt _) => if (ekKey P kt).isNo then .bad else .mupd (ekKey P kt) (c m) (c k) (c x)
    | _ => .bad
  | .range t x => match P.underlying t with
    | some .string => .rngStr (c x)
    | some (.map _ _) => .rngMap (c x)
    | _ => .bad
  | .next x s => if s then .nextStr (c x) else .bad
  | .entry x => .entry (c x)
  | .typeAssert x _ t ok => match P.underlying t with
    | some (.interface _) => .bad
    | some _ => .tassert t (zeroA P t) ok (c x)
    | none => .bad
  | .extract x k => .extract k (c x)
  | .call q => match q.callee with
    | .builtin b => cBuiltin P b q.argTypes.toList (q.args.toList.map c)
    | .value (.func f) => .callf f (q.args.toList.map c)
    | .value f => .callv (c f) (q.args.toList.map c)
    | .invoke r m => .calli m (c r) (q.args.toList.map c)
  | _ => .bad

/-- Which slots are kept from region to region, as bits: those that are read where their own region has not written them. -/
def nthN (l : List Nat) (n : Nat) : Nat := List.rec (motive := fun _ => Nat → Nat) (fun _ => 0) (fun o _ ih j => Nat.rec (motive := fun _ => Nat) o (fun k _ => ih k) j) l n
def tailN (l : List Nat) : List Nat := List.rec (motive := fun _ => List Nat) [] (fun _ t _ => t) l
def notBadV (v : AVal) : Bool := match v with | .bad => false | _ => true
def useOpd (defs : Nat) (u : Nat) : Operand → Nat
  | .tmp t => Bool.rec (motive := fun _ => Nat) (setb u t) u (tb defs t)
  | _ => u
def useOpds (defs : Nat) (l : List Operand) (u : Nat) : Nat := List.rec (motive := fun _ => Nat → Nat) (fun u => u) (fun x _ ih u => ih (useOpd defs u x)) l u
def useOps (l : List Oper) (defs u : Nat) : Nat :=
  List.rec (motive := fun _ => Nat → Nat → Nat) (fun _ u => u) (fun o _ ih defs u => ih (Option.rec (motive := fun _ => Nat) defs (fun d => setb defs d) o.dst) (useOpds defs o.op.operands.toList u)) l defs u
def useCode : Code → Nat → Nat
  | .region _ ops _, u => useOps ops.toList 0 u
  | .seq a b, u => useCode b (useCode a u)
  | .cond x a b, u => useCode b (useCode a (useOpd 0 u x))
  | .block _ b, u => useCode b u
  | .loop b, u => useCode b u
  | _, u => u
def useRes : List ResultVar → Nat → Nat
  | [], u => u
  | .tmp t :: l, u => useRes l (setb u t)
  | .cell t _ :: l, u => useRes l (setb u t)

def cDst (L : List Nat) (d : Option Nat) : Option P2 := Option.rec (motive := fun _ => Option P2) none (fun t => Bool.rec (motive := fun _ => Option P2) none (some (slot L t)) (has t L)) d
/-- May a value that stands there be named by another name till the region's end? -/
def stableEnv (wr : Nat) (L : List Nat) : Operand → Bool
  | .tmp t => band (bnot (tb wr t)) (has t L)
  | _ => false
def stable (wr : Nat) (L : List Nat) (x : Operand) : Pos → Bool
  | .env _ => stableEnv wr L x
  | .loc _ => true
  | .const v => notBadV v
def opAt (l : List Oper) (j : Nat) : Option Oper := List.rec (motive := fun _ => Nat → Option Oper) (fun _ => none) (fun o _ ih j => Nat.rec (motive := fun _ => Option Oper) (some o) (fun k _ => ih k) j) l j
def guardPos (L : List Nat) (known : List (Nat × Pos)) (n : Nat) (b : Bool) (o : Option Oper) : AOpd × Bool :=
  match o with
  | some { dst := some d, .. } => ((posOf L known (.tmp d)).opd n, b)
  | _ => (.const .bad, b)
def cGuard (L : List Nat) (known : List (Nat × Pos)) (all : List Oper) (n : Nat) (g : Option (Nat × Bool)) : Option (AOpd × Bool) :=
  Option.rec (motive := fun _ => Option (AOpd × Bool)) none (fun g => some (guardPos L known n g.2 (opAt all g.1))) g
def cOper (P : Program) (L : List Nat) (all : List Oper) (n : Nat) (known : List (Nat × Pos)) (o : Oper) : AOp :=
  { op := cOp P (fun x => (posOf L known x).opd n) o.op, dst := cDst L o.dst, guard := cGuard L known all n o.guard }
def knownBy (known : List (Nat × Pos)) (n : Nat) (d : Option Nat) : List (Nat × Pos) := Option.rec (motive := fun _ => List (Nat × Pos)) known (fun d => (d, .loc n) :: known) d
/-- The name that an operation only hands on: its slot, and what it names. -/
def aliasOf (L : List Nat) (wr : Nat) (known : List (Nat × Pos)) (o : Oper) : Option (Nat × Pos) :=
  match o.op, o.dst, o.guard with
  | .move x, some d, none => Bool.rec (motive := fun _ => Option (Nat × Pos)) none (some (d, posOf L known x)) (band (bnot (has d L)) (stable wr L x (posOf L known x)))
  | _, _, _ => none
/-- The operations of a region: wr: the slots that it writes; n: how many results there are; known: where what was written stands. -/
def cOps (P : Program) (L : List Nat) (wr : Nat) (all : List Oper) (l : List Oper) (n : Nat) (known : List (Nat × Pos)) : List AOp :=
  List.rec (motive := fun _ => Nat → List (Nat × Pos) → List AOp) (fun _ _ => [])
    (fun o _ ih n known => Option.rec (motive := fun _ => List AOp) (cOper P L all n known o :: ih (Nat.succ n) (knownBy known n o.dst)) (fun a => ih n (a :: known)) (aliasOf L wr known o)) l n known

/-- Slots that a piece of code may write. -/
def wrOps (l : List Oper) (u : Nat) : Nat := List.rec (motive := fun _ => Nat → Nat) (fun u => u) (fun o _ ih u => ih (Option.rec (motive := fun _ => Nat) u (fun d => setb u d) o.dst)) l u
def wrCode : Code → Nat → Nat
  | .region _ ops _, u => wrOps ops.toList u
  | .seq a b, u => wrCode b (wrCode a u)
  | .cond _ a b, u => wrCode b (wrCode a u)
  | .block _ b, u => wrCode b u
  | .loop b, u => wrCode b u
  | _, u => u
def slotsIn (L : List Nat) (m : Nat) (l : List Nat) : List P2 := List.rec (motive := fun _ => List P2) [] (fun t _ ih => Bool.rec (motive := fun _ => List P2) ih (slot L t :: ih) (tb m t)) l
def cRegion (P : Program) (L : List Nat) (ops : List Oper) : List AOp := cOps P L (wrOps ops 0) ops ops 0 []

/-! ### Regions whose order is open -/
/-- What an operation does: 0 computes, 1 reads, 2 makes a block, 3 changes something. -/
def opKind (P : Program) : Op → Nat
  | .load _ _ | .lookup _ _ _ _ | .entry _ => 1
  | .alloc _ | .box _ _ | .buildSlice _ _ _ | .makeMap _ _ | .makeSlice _ _ _ => 2
  | .move _ | .assign _ | .pick _ _ _ | .build _ _ | .nilCheck _ | .binOp _ _ _ _ _ | .unOp _ _ _ | .sliceToArrayPointer _ _ | .makeInterface _ _ | .makeFunc _ _ _ | .slice _ _ _ _ _ | .fieldAddr _ _ _ | .field _ _ _
  | .indexAddr _ _ _ | .index _ _ _ | .typeAssert _ _ _ _ | .extract _ _ => 0
  | .convert s d _ => match P.underlying s, P.underlying d with
    | some .string, some (.slice _) => 2
    | some (.slice _), some (.slice _) => 3
    | some (.slice _), _ => 1
    | _, _ => 0
  | .call c => match c.callee, c.argTypes.toList with
    | .builtin .len, [t] => match P.underlying t with
      | some (.map _ _) => 1
      | _ => 0
    | .builtin .cap, _ => 0
    | .builtin .min, _ => 0
    | .builtin .max, _ => 0
    | _, _ => 3
  | _ => 3
/-- What has to stand ahead of an operation, as bits. -/
def maskOf (ms : List Nat) (n : Nat) (es : List Edge) : Nat :=
  List.rec (motive := fun _ => Nat) 0 (fun e _ ih => Bool.rec (motive := fun _ => Nat) ih (Nat.lor ih (setb (nthN ms (Nat.sub (Nat.sub n 1) e.on)) e.on)) (Region.binds .any e)) es
/-- Those of all operations, the last one first. -/
def masksGo (l : List Oper) (n : Nat) (ms : List Nat) : List Nat := List.rec (motive := fun _ => Nat → List Nat → List Nat) (fun _ ms => ms) (fun o _ ih n ms => ih (Nat.succ n) (maskOf ms n o.after.toList :: ms)) l n ms
structure DI where
  o : Oper
  i : Nat
  mask : Nat
  kind : Nat
def infos (P : Program) (l : List Oper) (ms : List Nat) (n : Nat) : List DI :=
  List.rec (motive := fun _ => List Nat → Nat → List DI) (fun _ _ => []) (fun o _ ih ms n => ⟨o, n, nthN ms 0, opKind P o.op⟩ :: ih (tailN ms) (Nat.succ n)) l ms n
/-- Those that are in a mask and not done, and then one. -/
def pickIn (l : List DI) (m done : Nat) : List DI := List.rec (motive := fun _ => List DI) [] (fun x _ ih => Bool.rec (motive := fun _ => List DI) ih (x :: ih) (band (tb m x.i) (bnot (tb done x.i)))) l
def pickRest (l : List DI) (done : Nat) : List DI := List.rec (motive := fun _ => List DI) [] (fun x _ ih => Bool.rec (motive := fun _ => List DI) (x :: ih) ih (tb done x.i)) l
/-- The order: what changes something, one behind the other, each behind what has to stand ahead of it; the rest at the end. -/
def orderGo (all : List DI) (l : List DI) (done : Nat) : List DI :=
  List.rec (motive := fun _ => Nat → List DI) (fun done => pickRest all done)
    (fun x _ ih done => Bool.rec (motive := fun _ => List DI) (ih done) (pickIn all x.mask done ++ x :: ih (setb (Nat.lor done x.mask) x.i)) (Nat.beq x.kind 3)) l done
/-- Do changes stand one behind the other? -/
def chainOk (l : List DI) (last : Option Nat) : Bool :=
  List.rec (motive := fun _ => Option Nat → Bool) (fun _ => true)
    (fun x _ ih last => Bool.rec (motive := fun _ => Bool) (ih last) (band (Option.rec (motive := fun _ => Bool) true (fun j => tb x.mask j) last) (ih (some x.i))) (Nat.beq x.kind 3)) l last
/-- How many changes are in a mask. -/
def effIn (l : List DI) (m : Nat) : Nat := List.rec (motive := fun _ => Nat) 0 (fun x _ ih => Bool.rec (motive := fun _ => Nat) ih (Nat.succ ih) (band (Nat.beq x.kind 3) (tb m x.i))) l
/-- The operation that writes a slot. -/
def writerOf (t : Nat) (l : List DI) : Option DI := List.rec (motive := fun _ => Option DI) none (fun x _ ih => Option.rec (motive := fun _ => Option DI) ih (fun d => Bool.rec (motive := fun _ => Option DI) ih (some x) (Nat.beq d t)) x.o.dst) l
/-- Does an operation stand behind the one that writes what it looks at, or ahead of it? -/
def looksOk (all : List DI) (x : DI) (t : Nat) : Bool := Option.rec (motive := fun _ => Bool) true (fun w => Bool.rec (motive := fun _ => Bool) (tb w.mask x.i) true (tb x.mask w.i)) (writerOf t all)
def opdOk (all : List DI) (x : DI) : Operand → Bool
  | .tmp t => looksOk all x t
  | _ => true
def guardOk (x : DI) : Bool := Option.rec (motive := fun _ => Bool) true (fun g => tb x.mask g.1) x.o.guard
/-- Is a slot written once? -/
def onceOk (l : List DI) (seen : Nat) : Bool :=
  List.rec (motive := fun _ => Nat → Bool) (fun _ => true) (fun x _ ih seen => Option.rec (motive := fun _ => Bool) (ih seen) (fun d => band (bnot (tb seen d)) (ih (setb seen d))) x.o.dst) l seen
def allOk (all : List DI) : Bool := band (onceOk all 0) (band (chainOk all none) (all.all fun x => band (guardOk x) (x.o.op.operands.toList.all (opdOk all x))))
/-- An operation of such a region; eff: how many changes stand ahead of it. -/
def cDraw (P : Program) (L : List Nat) (ops : List Oper) (all : List DI) (l : List DI) (n eff : Nat) (known : List (Nat × Pos)) : List DOp :=
  List.rec (motive := fun _ => Nat → Nat → List (Nat × Pos) → List DOp) (fun _ _ _ => [])
    (fun x _ ih n eff known => { op := cOper P L ops n known x.o, kind := match x.kind with | 0 => .pure | 1 => .read (Nat.sub eff (effIn all x.mask)) | 2 => .alloc | _ => .eff }
      :: ih (Nat.succ n) (match x.kind with | 3 => Nat.succ eff | _ => eff) (knownBy known n x.o.dst)) l n eff known
def cDrawn (P : Program) (L : List Nat) (ops : List Oper) : AC :=
  Bool.rec (motive := fun _ => AC) .bad (.draw (cDraw P L ops (infos P ops (masksGo ops 0 []).reverse 0) (orderGo (infos P ops (masksGo ops 0 []).reverse 0) (infos P ops (masksGo ops 0 []).reverse 0) 0) 0 0 [])) (allOk (infos P ops (masksGo ops 0 []).reverse 0))

def isMapNext : List Oper → Option (Nat × Nat × Nat)
  | [o, p] => match o.op, o.dst, o.guard, p.op, p.dst, p.guard with
    | .next (.tmp it) false, some d, none, .extract (.tmp d') 0, some c, none => if d = d' ∧ c ≠ d ∧ it ≠ d ∧ it ≠ c then some (it, d, c) else none
    | _, _, _, _, _, _ => none
  | _ => none
def cCode (P : Program) (U : Nat) (L : List Nat) : Code → AC
  | .skip => .skip
  | .region _ ops draw => Bool.rec (motive := fun _ => AC) (.ops (cRegion P L ops.toList)) (cDrawn P L ops.toList) draw
  | .seq a b => .seq (cCode P U L a) (cCode P U L b)
  | .cond x a b => .cond ((posOf L [] x).opd 0) (cCode P U L a) (cCode P U L b)
  | .block id b => .block id (cCode P U L b)
  | .loop (.seq (.region _ ops draw) (.seq (.cond (.tmp c) .skip (.exit id)) rest)) =>
    match isMapNext ops.toList with
    | some (it, d, c') => if c = c' && bnot (has d L) && has it L && bnot draw then .mloop (.env (slot L it)) (slotsIn L (wrCode rest (setb 0 c)) L) id (cCode P U L rest) else .bad
    | none => .loop (.seq (Bool.rec (motive := fun _ => AC) (.ops (cRegion P L ops.toList)) (cDrawn P L ops.toList) draw) (.seq (.cond ((posOf L [] (.tmp c)).opd 0) .skip (.exit id)) (cCode P U L rest)))
  | .loop b => .loop (cCode P U L b)
  | .exit id => .exit id
  | .ret => .ret
  | _ => .bad
def cRes (P : Program) (L : List Nat) : ResultVar → ARes
  | .tmp t => Bool.rec (motive := fun _ => ARes) .bad (.tmp (slot L t)) (has t L)
  | .cell t ty => Bool.rec (motive := fun _ => ARes) .bad (Bool.rec (motive := fun _ => ARes) (.cell (slot L t)) (.celln (slot L t) (sizeA P ty)) (isAggA P ty)) (has t L)
def cParams (L : List Nat) : Nat → Nat → List (Option P2)
  | 0, _ => []
  | n + 1, k => cDst L (some k) :: cParams L n (k + 1)
def cFnAt (P : Program) (fn : Func) (c : Code) (U : Nat) (L : List Nat) : AFn :=
  { code := cCode P U L c, params := cParams L (fn.params.size + fn.nfree) 0, results := fn.results.toList.map (cRes P L) }
def cFnWith (P : Program) (fn : Func) (c : Code) (U : Nat) : Option AFn := some (cFnAt P fn c U (bitsOf U))
def nthF (l : List Func) (n : Nat) : Option Func := List.rec (motive := fun _ => Nat → Option Func) (fun _ => none) (fun o _ ih j => Nat.rec (motive := fun _ => Option Func) (some o) (fun k _ => ih k) j) l n
def cFn (P : Program) (f : Nat) : Option AFn :=
  match nthF P.funcs.toList f with
  | some fn => match fn.body with
    | some c => cFnWith P fn c (useCode c (useRes fn.results.toList 0))
    | none => none
  | none => none
end
end Go.Cx
