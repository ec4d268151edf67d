/-
  The abstract machine is sound: part 1.
-/
import Derived.Test.YthelepbkbjgjbaaGreatA
import Derived.Test.YthelepbkbjgjbaaGreatB
import Derived.Laws.Sem
import Derived.Laws.Cells
import Derived.Laws.World
import Derived.Laws.Rows
import Derived.Control
import Derived.Calls
set_option linter.unusedVariables false
set_option linter.unusedSimpArgs false
/-! ## Packed rows: their digits. -/
namespace Go.Cx

/-- So many digits, the lowest one first. -/
def digs (w : Nat) : Nat → Nat → List Nat
  | 0, _ => []
  | n + 1, d => d % 2 ^ w :: digs w n (d / 2 ^ w)

theorem digs_length (w n d : Nat) : (digs w n d).length = n := by
  induction n generalizing d with
  | zero => rfl
  | succ n ih => simp [digs, ih]

theorem digs_add (w a b d : Nat) : digs w (a + b) d = digs w a d ++ digs w b (d / 2 ^ (w * a)) := by
  induction a generalizing d with
  | zero => simp [digs]
  | succ a ih =>
    rw [show a + 1 + b = (a + b) + 1 from by omega]
    simp only [digs, ih, List.cons_append]
    rw [Nat.div_div_eq_div_mul, ← Nat.pow_add, show w + w * a = w * (a + 1) from by rw [Nat.mul_succ]; omega]

theorem digs_mod (w n d : Nat) : digs w n (d % 2 ^ (w * n)) = digs w n d := by
  induction n generalizing d with
  | zero => rfl
  | succ n ih =>
    have e : w * (n + 1) = w + w * n := by rw [Nat.mul_succ]; omega
    simp only [digs]
    rw [e, Nat.pow_add]
    congr 1
    · rw [Nat.mod_mul_right_mod]
    · rw [Nat.mod_mul_right_div_self, ih]

theorem digs_mul_add (w n l q : Nat) : digs w n (l + 2 ^ (w * n) * q) = digs w n l := by
  rw [← digs_mod, Nat.add_mul_mod_self_left, digs_mod]

theorem digs_lt (w n d : Nat) : ∀ u ∈ digs w n d, u < 2 ^ w := by
  induction n generalizing d with
  | zero => simp [digs]
  | succ n ih =>
    intro u hu
    simp only [digs, List.mem_cons] at hu
    rcases hu with rfl | hu
    · exact Nat.mod_lt _ (Nat.two_pow_pos w)
    · exact ih _ _ hu

theorem digs_inj (w n d e : Nat) (h : digs w n d = digs w n e) : d % 2 ^ (w * n) = e % 2 ^ (w * n) := by
  induction n generalizing d e with
  | zero => simp [Nat.mod_one]
  | succ n ih =>
    simp only [digs, List.cons.injEq] at h
    have h2 := ih _ _ h.2
    rw [show w * (n + 1) = w + w * n from by rw [Nat.mul_succ]; omega, Nat.pow_add, Nat.mod_mul, Nat.mod_mul, h.1, h2]

theorem dcut_eq (w d off cnt : Nat) : dcut w d off cnt = d / 2 ^ (w * off) % 2 ^ (w * cnt) := by
  show (d >>> (w * off)) % 2 ^ (w * cnt) = _
  rw [Nat.shiftRight_eq_div_pow]

theorem dcut_lt (w d off cnt : Nat) : dcut w d off cnt < 2 ^ (w * cnt) := by
  rw [dcut_eq]; exact Nat.mod_lt _ (Nat.two_pow_pos _)

theorem dfst_eq (w n d : Nat) : dfst w n d = d % 2 ^ (w * n) := rfl

theorem digs_dcut (w n d off cnt : Nat) (h : off + cnt ≤ n) : digs w cnt (dcut w d off cnt) = ((digs w n d).drop off).take cnt := by
  obtain ⟨r, rfl⟩ := Nat.exists_eq_add_of_le h
  rw [dcut_eq, digs_mod, Nat.add_assoc, digs_add, digs_add]
  rw [List.drop_append_of_le_length (by rw [digs_length]; exact Nat.le_refl _), List.drop_of_length_le (by rw [digs_length]; exact Nat.le_refl _)]
  rw [List.nil_append, List.take_append_of_le_length (by rw [digs_length]; exact Nat.le_refl _), List.take_of_length_le (by rw [digs_length]; exact Nat.le_refl _)]

theorem dput_eq (w d off cnt e : Nat) : dput w d off cnt e = d % 2 ^ (w * off) + 2 ^ (w * off) * (e + 2 ^ (w * cnt) * (d / 2 ^ (w * off) / 2 ^ (w * cnt))) := by
  show (d + (e <<< (w * off))) - (dcut w d off cnt <<< (w * off)) = _
  rw [Nat.shiftLeft_eq, Nat.shiftLeft_eq, dcut_eq]
  generalize 2 ^ (w * off) = A
  generalize 2 ^ (w * cnt) = B
  have h1 := Nat.div_add_mod d A
  have h2 := Nat.div_add_mod (d / A) B
  generalize hq : d / A = q at *
  generalize hr : d % A = l at *
  generalize q / B = x at *
  generalize q % B = c at *
  subst h2
  rw [← h1, Nat.mul_add, Nat.mul_add, Nat.mul_comm c A, Nat.mul_comm e A]
  omega

theorem digs_dput (w n d off cnt e : Nat) (h : off + cnt ≤ n) (he : e < 2 ^ (w * cnt)) :
    digs w n (dput w d off cnt e) = (digs w n d).take off ++ digs w cnt e ++ (digs w n d).drop (off + cnt) := by
  obtain ⟨r, rfl⟩ := Nat.exists_eq_add_of_le h
  have hd : digs w (off + cnt + r) d = digs w off d ++ (digs w cnt (d / 2 ^ (w * off)) ++ digs w r (d / 2 ^ (w * off) / 2 ^ (w * cnt))) := by
    rw [Nat.add_assoc, digs_add, digs_add]
  have hx : (dput w d off cnt e) / 2 ^ (w * off) = e + 2 ^ (w * cnt) * (d / 2 ^ (w * off) / 2 ^ (w * cnt)) := by
    rw [dput_eq, Nat.add_mul_div_left _ _ (Nat.two_pow_pos _), Nat.div_eq_of_lt (Nat.mod_lt _ (Nat.two_pow_pos _)), Nat.zero_add]
  have hy : (e + 2 ^ (w * cnt) * (d / 2 ^ (w * off) / 2 ^ (w * cnt))) / 2 ^ (w * cnt) = d / 2 ^ (w * off) / 2 ^ (w * cnt) := by
    rw [Nat.add_mul_div_left _ _ (Nat.two_pow_pos _), Nat.div_eq_of_lt he, Nat.zero_add]
  rw [hd, Nat.add_assoc, digs_add, digs_add, hx, hy, digs_mul_add]
  have h0 : digs w off (dput w d off cnt e) = digs w off d := by
    rw [dput_eq, digs_mul_add, digs_mod]
  rw [h0]
  rw [List.take_append_of_le_length (by rw [digs_length]; exact Nat.le_refl _), List.take_of_length_le (by rw [digs_length]; exact Nat.le_refl _)]
  rw [← List.append_assoc, ← List.append_assoc, List.drop_append_of_le_length (l₁ := digs w off d ++ digs w cnt _) (by simp [digs_length]), List.drop_of_length_le (by simp [digs_length]), List.nil_append]

theorem digs_dcat (w n m d e : Nat) : digs w (n + m) (dcat w n d e) = digs w n d ++ digs w m e := by
  have hc : dcat w n d e = d % 2 ^ (w * n) + 2 ^ (w * n) * e := by
    show d % 2 ^ (w * n) + (e <<< (w * n)) = _
    rw [Nat.shiftLeft_eq, Nat.mul_comm e]
  rw [hc, digs_add, digs_mul_add, digs_mod, Nat.add_mul_div_left _ _ (Nat.two_pow_pos _), Nat.div_eq_of_lt (Nat.mod_lt _ (Nat.two_pow_pos _)), Nat.zero_add]

theorem digs_zero (w n : Nat) : digs w n 0 = List.replicate n 0 := by
  induction n with
  | zero => rfl
  | succ n ih => simp [digs, ih, List.replicate_succ]

theorem kp_eq (k : IntKind) : kp k = 2 ^ kw k := by cases k <;> rfl
theorem kw_bits (k : IntKind) : kw k = k.bits := by cases k <;> rfl
theorem ksigned_eq (k : IntKind) : ksigned k = k.signed := by cases k <;> rfl
theorem khalf_eq (k : IntKind) : khalf k = 2 ^ (kw k - 1) := by cases k <;> rfl

theorem kbeq_eq {k k' : IntKind} (h : kbeq k k' = true) : k = k' := by
  cases k <;> cases k' <;> first | rfl | (exact absurd h (by decide))

theorem unpack_eq (k : IntKind) (n d : Nat) : unpack k n d = (digs (kw k) n d).map fun u => AVal.int k (dec k u) := by
  induction n generalizing d with
  | zero => rfl
  | succ n ih =>
    show AVal.int k (dec k (d % kp k)) :: unpack k n (d / kp k) = _
    rw [ih, kp_eq]; rfl

/-! ### Numbers -/
theorem lt_eq (a b : Nat) : lt a b = decide (a < b) := by
  show Nat.ble (a + 1) b = _
  rw [Bool.eq_iff_iff]; simp [Nat.ble_eq]; omega
theorem lt_true {a b : Nat} : lt a b = true ↔ a < b := by rw [lt_eq]; simp
theorem lt_false {a b : Nat} : lt a b = false ↔ b ≤ a := by rw [lt_eq]; simp
theorem band_true {a b : Bool} : band a b = true ↔ a = true ∧ b = true := by cases a <;> cases b <;> simp [band]
theorem bnot_eq (b : Bool) : bnot b = !b := by cases b <;> rfl

theorem wrap_s (k : IntKind) (h : k.signed = true) (n : Int) : k.wrap n = if n % 2 ^ k.bits ≥ 2 ^ (k.bits - 1) then n % 2 ^ k.bits - 2 ^ k.bits else n % 2 ^ k.bits := by
  simp [IntKind.wrap, h]
theorem wrap_s1 (k : IntKind) (h : k.signed = true) (n : Int) (hn : n % 2 ^ k.bits < 2 ^ (k.bits - 1)) : k.wrap n = n % 2 ^ k.bits := by
  rw [wrap_s k h, if_neg (by omega)]
theorem wrap_s2 (k : IntKind) (h : k.signed = true) (n : Int) (hn : 2 ^ (k.bits - 1) ≤ n % 2 ^ k.bits) : k.wrap n = n % 2 ^ k.bits - 2 ^ k.bits := by
  rw [wrap_s k h, if_pos hn]
theorem wrap_u (k : IntKind) (h : k.signed = false) (n : Int) : k.wrap n = n % 2 ^ k.bits := by
  simp [IntKind.wrap, h]
theorem wrap_pos (k : IntKind) (m : Nat) (h : m < 2 ^ (k.bits - 1)) : k.wrap (m : Int) = m := by
  cases hs : k.signed with
  | true => cases k <;> first | (cases hs; done) | (rw [wrap_s1 _ hs _ (by simp only [IntKind.bits] at *; omega)]; simp only [IntKind.bits] at *; omega)
  | false => rw [wrap_u k hs]; cases k <;> simp only [IntKind.bits] at * <;> omega
theorem dec_eq (k : IntKind) (u : Nat) (h : u < 2 ^ kw k) : dec k u = k.wrap (u : Int) := by
  cases hs : k.signed with
  | true =>
    have e : dec k u = decS k u := by unfold dec; rw [ksigned_eq, hs]
    rw [e]; unfold decS
    cases hl : lt u (khalf k) with
    | true => rw [lt_true] at hl; show (u : Int) = _; cases k <;> first | (cases hs; done) | (rw [wrap_s1 _ hs _ (by simp only [IntKind.bits, kw, khalf] at *; omega)]; simp only [IntKind.bits, kw, khalf] at *; omega)
    | false =>
      rw [lt_false] at hl
      show Int.negSucc (kp k - 1 - u) = _
      rw [Int.negSucc_eq]
      cases k <;> first | (cases hs; done) | (rw [wrap_s2 _ hs _ (by simp only [IntKind.bits, kw, khalf] at *; omega)]; simp only [IntKind.bits, kw, khalf, kp] at *; omega)
  | false =>
    rw [wrap_u k hs]
    have e : dec k u = u := by unfold dec; rw [ksigned_eq, hs]; rfl
    rw [e]
    cases k <;> simp only [IntKind.bits, kw] at * <;> omega
theorem wrapN_eq (k : IntKind) (m : Nat) : wrapN k m = k.wrap (m : Int) := by
  unfold wrapN
  cases hl : lt m (khalf k) with
  | true =>
    rw [lt_true, khalf_eq, kw_bits] at hl
    rw [wrap_pos k m hl]; rfl
  | false =>
    show dec k (m % kp k) = _
    rw [kp_eq, dec_eq _ _ (Nat.mod_lt _ (Nat.two_pow_pos _)), kw_bits]
    unfold IntKind.wrap
    simp
theorem wrapM_eq (k : IntKind) (m : Nat) : wrapM k m = k.wrap (Int.negSucc m) := by
  unfold wrapM
  cases hb : band (ksigned k) (lt m (khalf k)) with
  | false => rfl
  | true =>
    rw [band_true, lt_true] at hb
    show Int.negSucc m = _
    obtain ⟨h1, h2⟩ := hb
    have h3 : k.signed = true := by rw [← ksigned_eq]; exact h1
    rw [Int.negSucc_eq]
    cases k <;> first | (cases h1; done) | (rw [wrap_s2 _ h3 _ (by simp only [IntKind.bits, khalf] at *; omega)]; simp only [IntKind.bits, khalf] at *; omega)
theorem wrap_eq (k : IntKind) (n : Int) : wrap k n = k.wrap n := by
  cases n with
  | ofNat m => exact wrapN_eq k m
  | negSucc m => exact wrapM_eq k m
theorem iadd_eq (a b : Int) : iadd a b = a + b := by cases a <;> cases b <;> rfl
theorem isub_eq (a b : Int) : isub a b = a - b := by
  cases a with
  | negSucc a => rfl
  | ofNat a =>
    cases b with
    | negSucc b => rfl
    | ofNat b =>
      show isubNN a b = _
      unfold isubNN
      cases h : Nat.ble b a with
      | true => rw [Nat.ble_eq] at h; show ((a - b : Nat) : Int) = (a : Int) - (b : Int); omega
      | false =>
        have h' : ¬ b ≤ a := fun g => by rw [← Nat.ble_eq] at g; rw [g] at h; cases h
        show Int.negSucc (b - a - 1) = (a : Int) - (b : Int)
        rw [Int.negSucc_eq]; omega
theorem ilt_eq (a b : Int) : ilt a b = decide (a < b) := by
  cases a with
  | ofNat a =>
    cases b with
    | ofNat b => show lt a b = _; rw [lt_eq]; simp
    | negSucc b => show false = _; symm; rw [decide_eq_false_iff_not]; rw [Int.negSucc_eq]; simp; omega
  | negSucc a =>
    cases b with
    | ofNat b => show true = _; symm; rw [decide_eq_true_iff]; rw [Int.negSucc_eq]; simp; omega
    | negSucc b => show lt b a = _; rw [lt_eq, Int.negSucc_eq, Int.negSucc_eq]; simp
theorem ieq_eq (a b : Int) : ieq a b = (a == b) := by
  cases a with
  | ofNat a =>
    cases b with
    | ofNat b => show Nat.beq a b = _; rw [Bool.eq_iff_iff]; simp; omega
    | negSucc b => rfl
  | negSucc a =>
    cases b with
    | ofNat b => rfl
    | negSucc b => show Nat.beq a b = _; rw [Bool.eq_iff_iff]; simp
end Go.Cx

/-! ## What an abstract state says of a world. -/
set_option linter.unusedVariables false
set_option linter.unusedSimpArgs false
namespace Go.Cx
noncomputable section

/-- The string of packed bytes. -/
def mkS (n d : Nat) : ByteArray := ⟨((digs 8 n d).map UInt8.ofNat).toArray⟩
/-- The cells of a packed row. -/
def mkI (k : IntKind) (n d : Nat) : List Value := (digs (kw k) n d).map fun u => Value.int k (dec k u)

/-- Where a block stands: which one, from which cell on, how many cells it has. -/
structure Pl where
  b : Nat
  base : Nat
  top : Nat
abbrev Rho := Id → Option Pl

mutual
/-- A value and what it stands for; om: what is not looked at. -/
inductive VRel (om : Nat → Value) (rho : Rho) : AVal → Value → Prop
  | top (v : Value) : VRel om rho .top v
  | bad (v : Value) : VRel om rho .bad v
  | bool (b : Bool) : VRel om rho (.bool b) (.bool b)
  | int (k : IntKind) (n : Int) : VRel om rho (.int k n) (.int k n)
  | float (k : FloatKind) (n : Nat) : VRel om rho (.float k n) (.float k n)
  | str (n d : Nat) : VRel om rho (.str n d) (.string (mkS n d))
  | nilp : VRel om rho .nilp (.pointer none)
  | ptr (i : Id) (off : Nat) (p : Pl) (h : rho i = some p) : VRel om rho (.ptr i off) (.pointer (some ⟨p.b, p.base + off, none⟩))
  | nils : VRel om rho .nils (.slice none 0 0)
  | slice (i : Id) (off len cap : Nat) (p : Pl) (h : rho i = some p) (hl : len ≤ cap) : VRel om rho (.slice i off len cap) (.slice (some ⟨p.b, p.base + off, none⟩) len cap)
  | slicu (i : Id) (off len lo esz : Nat) (p : Pl) (o cap : Nat) (h : rho i = some p) (hl : len ≤ lo) (hc : lo ≤ cap) (ho : o + cap * esz ≤ p.top) (hlo : lo = 0 ∨ o = p.base + off) :
      VRel om rho (.slicu i off len lo esz) (.slice (some ⟨p.b, o, none⟩) len cap)
  | nilm : VRel om rho .nilm (.map none)
  | map (i : Id) (p : Pl) (h : rho i = some p) : VRel om rho (.map i) (.map (some p.b))
  | nilf : VRel om rho .nilf .nilFunc
  | func (fn : Fn) (a c : List AVal) (x y : List Value) (hx : LRel om rho a x) (hy : LRel om rho c y) : VRel om rho (.func fn a c) (.func fn x.toArray y.toArray)
  | nili : VRel om rho .nili .nilIface
  | iface (t : Nat) (v : AVal) (x : Value) (h : VRel om rho v x) : VRel om rho (.iface t v) (.iface t x)
  | agg (l : List AVal) (x : List Value) (h : CRel om rho l x) : VRel om rho (.agg l) (.agg x.toArray)
  | aggi (k : IntKind) (n d : Nat) : VRel om rho (.aggi k n d) (.agg (mkI k n d).toArray)
  | tup (l : List AVal) (x : List Value) (h : LRel om rho l x) : VRel om rho (.tup l) (.tuple x.toArray)
  | opq (i : Nat) (hs : (om i).oneCell' = true) : VRel om rho (.opq i) (om i)
/-- Values, one by one. -/
inductive LRel (om : Nat → Value) (rho : Rho) : List AVal → List Value → Prop
  | nil : LRel om rho [] []
  | cons (v : AVal) (x : Value) (l : List AVal) (r : List Value) (h : VRel om rho v x) (t : LRel om rho l r) : LRel om rho (v :: l) (x :: r)
/-- Cells: a packed member stands for many. -/
inductive CRel (om : Nat → Value) (rho : Rho) : List AVal → List Value → Prop
  | nil : CRel om rho [] []
  | cons (v : AVal) (x : Value) (l : List AVal) (r : List Value) (hs : isScalar v = true) (h : VRel om rho v x) (t : CRel om rho l r) : CRel om rho (v :: l) (x :: r)
  | seg (k : IntKind) (n d : Nat) (l : List AVal) (y r : List Value) (hy : y = mkI k n d ++ r) (t : CRel om rho l r) : CRel om rho (.aggi k n d :: l) y
  | opq (i : Nat) (x : Value) (l : List AVal) (r : List Value) (hx : x = om i) (hs : (om i).oneCell' = true) (t : CRel om rho l r) : CRel om rho (.opq i :: l) (x :: r)
end

/-- More names, the old ones as they were. -/
def Ext (r r' : Rho) : Prop := ∀ i p, r i = some p → r' i = some p
theorem Ext.refl (r : Rho) : Ext r r := fun _ _ h => h
theorem Ext.trans {a b c : Rho} (h : Ext a b) (h' : Ext b c) : Ext a c := fun i p e => h' i p (h i p e)

section
variable {om : Nat → Value} {r r' : Rho}
theorem VRel.mono (e : Ext r r') {v : AVal} {x : Value} (h : VRel om r v x) : VRel om r' v x :=
  VRel.rec (motive_1 := fun v x _ => VRel om r' v x) (motive_2 := fun l x _ => LRel om r' l x) (motive_3 := fun l x _ => CRel om r' l x)
    .top .bad .bool .int .float .str .nilp (fun i o p h => .ptr i o p (e _ _ h)) .nils (fun i o n c p h hl => .slice i o n c p (e _ _ h) hl)
    (fun i o n c z p q k h h1 h2 h3 h4 => .slicu i o n c z p q k (e _ _ h) h1 h2 h3 h4) .nilm (fun i p h => .map i p (e _ _ h)) .nilf
    (fun fn a c x y _ _ h1 h2 => .func fn a c x y h1 h2) .nili (fun t v x _ h => .iface t v x h) (fun l x _ h => .agg l x h) .aggi (fun l x _ h => .tup l x h) .opq
    .nil (fun v x l r _ _ h t => .cons v x l r h t) .nil (fun v x l r hs _ _ h t => .cons v x l r hs h t) (fun k n d l y r hy _ t => .seg k n d l y r hy t) (fun i x l r hx hs _ t => .opq i x l r hx hs t) h
theorem LRel.mono (e : Ext r r') {v : List AVal} {x : List Value} (h : LRel om r v x) : LRel om r' v x := by
  induction v generalizing x with
  | nil => cases h; exact .nil
  | cons v l ih => cases h with | cons _ _ _ _ h t => exact .cons _ _ _ _ (h.mono e) (ih t)
theorem CRel.mono (e : Ext r r') {v : List AVal} {x : List Value} (h : CRel om r v x) : CRel om r' v x := by
  induction v generalizing x with
  | nil => cases h; exact .nil
  | cons v l ih =>
    cases h with
    | cons _ _ _ _ hs h t => exact .cons _ _ _ _ hs (h.mono e) (ih t)
    | seg _ _ _ _ _ _ hy t => exact .seg _ _ _ _ _ _ hy (ih t)
    | opq _ _ _ _ hx hs t => exact .opq _ _ _ _ hx hs (ih t)
end

/-- What stands in a row. -/
inductive RRel (om : Nat → Value) (r : Rho) : Blk → List Value → Prop
  | cells (l : List AVal) (xs : List Value) (h : CRel om r l xs) : RRel om r (.cells l) xs
  | ints (k : IntKind) (n d : Nat) : RRel om r (.ints k n d) (mkI k n d)
/-- The entries of a map. -/
inductive MRel (om : Nat → Value) (r : Rho) : List ME → List MapEntry → Prop
  | nil : MRel om r [] []
  | cons (e : ME) (x : MapEntry) (l : List ME) (y : List MapEntry) (hk : VRel om r e.key x.key) (hv : VRel om r e.val x.val) (hb : x.born = e.born) (t : MRel om r l y) : MRel om r (e :: l) (x :: y)
/-- A block and what it stands for. -/
inductive BRel (om : Nat → Value) (r : Rho) : Blk → Pl → Obj → Prop
  | row (b : Blk) (p : Pl) (xs pre post : List Value) (el : TypeId) (lo hi : Nat) (h : RRel om r b xs) (hp : p.base = pre.length) (ht : p.top = pre.length + xs.length + post.length)
      (hf : lo = hi ∨ p.top ≤ lo) : BRel om r b p (.cells (pre ++ xs ++ post).toArray el (lo, hi))
  | map (l : List ME) (c : Nat) (p : Pl) (es : List MapEntry) (h : MRel om r l es) : BRel om r (.map l c) p (.map es.toArray c)
  | miterN (p : Pl) (c : Nat) (hb : p.base = 0) : BRel om r (.miter .nilm c) p (.mapIter none 0 #[] 0)
  | miter (m : Id) (q : Pl) (c : Nat) (p : Pl) (hm : r m = some q) (hb : p.base = 0) : BRel om r (.miter (.map m) c) p (.mapIter (some q.b) c #[] c)
  | mcur (m : Id) (q : Pl) (b c : Nat) (p : Pl) (since : Nat) (seen : Array Nat) (hm : r m = some q) (hs : seen.back? = some b) (hb : p.base = 0) : BRel om r (.mcur m b c) p (.mapIter (some q.b) since seen c)
  | siter (n d pos : Nat) (p : Pl) (hb : p.base = 0) : BRel om r (.siter n d pos) p (.stringIter (mkS n d) pos)
  | kvar (v : AVal) (x : Value) (p : Pl) (el : TypeId) (h : VRel om r v x) (hb : p.base = 0) : BRel om r (.kvar v) p (.cells #[x] el (0, 0))

section
variable {om : Nat → Value} {r r' : Rho}
theorem RRel.mono (e : Ext r r') {b : Blk} {x : List Value} (h : RRel om r b x) : RRel om r' b x := by
  cases h with
  | cells l xs h => exact .cells l _ (h.mono e)
  | ints k n d => exact .ints k n d
theorem MRel.mono (e : Ext r r') {b : List ME} {x : List MapEntry} (h : MRel om r b x) : MRel om r' b x := by
  induction h with
  | nil => exact .nil
  | cons _ _ _ _ hk hv hb _ ih => exact .cons _ _ _ _ (hk.mono e) (hv.mono e) hb ih
theorem BRel.mono (e : Ext r r') {b : Blk} {p : Pl} {o : Obj} (h : BRel om r b p o) : BRel om r' b p o := by
  cases h with
  | row _ _ xs pre post el lo hi h hp ht hf => exact .row _ _ xs pre post el lo hi (h.mono e) hp ht hf
  | map l c _ es h => exact .map l c _ es (h.mono e)
  | miterN _ c hb => exact .miterN _ c hb
  | miter m q c _ hm hb => exact .miter m q c _ (e _ _ hm) hb
  | mcur m q b c _ since seen hm hs hb => exact .mcur m q b c _ since seen (e _ _ hm) hs hb
  | siter n d pos _ hb => exact .siter n d pos _ hb
  | kvar v x _ el h hb => exact .kvar v x _ el (h.mono e) hb
end

/-- The live blocks of a state stand in a world, each by itself. -/
structure SimW (om : Nat → Value) (r : Rho) (g : Id → Blk) (w : World) : Prop where
  live : ∀ i, g i ≠ .none → ∃ p o, r i = some p ∧ w.heap[p.b]? = some o ∧ BRel om r (g i) p o
  inj : ∀ i j p q, g i ≠ .none → g j ≠ .none → r i = some p → r j = some q → p.b = q.b → i = j

/-- A state and a world. -/
structure Sim (om : Nat → Value) (r : Rho) (s : St) (w : World) : Prop where
  sw : SimW om r s.at w
  dom : ∀ i p, r i = some p → i.num < s.n.num ∧ p.b < w.heap.size
  no : ∀ i, s.n.num ≤ i.num → s.at i = .none
  ron : s.ro ≤ s.n.num

/-- Is a block the image of one that may be written? -/
def Wr (r : Rho) (s : St) (b : Nat) : Prop := ∃ j q, s.at j ≠ .none ∧ s.ro ≤ j.num ∧ r j = some q ∧ q.b = b

/-- What a piece of a run has done. -/
structure Post (om : Nat → Value) (r : Rho) (s : St) (w : World) (r' : Rho) (s' : St) (w' : World) : Prop where
  old : ∀ i, i.num < s.n.num → r' i = r i
  sim : Sim om r' s' w'
  num : s.n.num ≤ s'.n.num
  grow : w.heap.size ≤ w'.heap.size
  keep : ∀ b, b < w.heap.size → ¬ Wr r s b → w'.heap[b]? = w.heap[b]?
  img : ∀ b, b < w.heap.size → Wr r' s' b → Wr r s b
  ro : s'.ro = s.ro
  roK : ∀ i, i.num < s.ro → s'.at i = s.at i
  os : w'.os = w.os
  tape : w'.tape = w.tape
  out : w'.output = w.output

section
variable {om : Nat → Value} {r r1 r2 : Rho} {s s1 s2 : St} {w w1 w2 : World}
theorem Post.ext (sim : Sim om r s w) (h : Post om r s w r1 s1 w1) : Ext r r1 := fun i p e => by rw [h.old i (sim.dom i p e).1]; exact e
theorem Post.refl (sim : Sim om r s w) : Post om r s w r s w :=
  ⟨fun _ _ => rfl, sim, Nat.le_refl _, Nat.le_refl _, fun _ _ _ => rfl, fun _ _ h => h, rfl, fun _ _ => rfl, rfl, rfl, rfl⟩
theorem Post.trans (h : Post om r s w r1 s1 w1) (h' : Post om r1 s1 w1 r2 s2 w2) : Post om r s w r2 s2 w2 := {
  old i hi := by rw [h'.old i (Nat.lt_of_lt_of_le hi h.num), h.old i hi]
  sim := h'.sim
  num := Nat.le_trans h.num h'.num
  grow := Nat.le_trans h.grow h'.grow
  keep b hb hn := by rw [h'.keep b (Nat.lt_of_lt_of_le hb h.grow) fun g => hn (h.img b hb g), h.keep b hb hn]
  img b hb g := h.img b hb (h'.img b (Nat.lt_of_lt_of_le hb h.grow) g)
  ro := h'.ro.trans h.ro
  roK i hi := by rw [h'.roK i (by rw [h.ro]; exact hi), h.roK i hi]
  os := h'.os.trans h.os
  tape := h'.tape.trans h.tape
  out := h'.out.trans h.out }
end
end
end Go.Cx

/-! ## How worlds change, and what the abstract state says of it. -/
set_option linter.unusedVariables false
set_option linter.unusedSimpArgs false
namespace Go.Cx
noncomputable section

/-! ### Names of blocks -/
theorem I8.num_lt (i : I8) : i.num < 8 := by cases i <;> decide
theorem I8.num_inj {i j : I8} (h : i.num = j.num) : i = j := by cases i <;> cases j <;> first | rfl | (exact absurd h (by decide))
theorem Id.num_eq (i : Id) : i.num = ((((i.d0.num * 8 + i.d1.num) * 8 + i.d2.num) * 8 + i.d3.num) * 8 + i.d4.num) * 8 + i.d5.num := rfl
theorem Id.num_inj {i j : Id} (h : i.num = j.num) : i = j := by
  rw [Id.num_eq, Id.num_eq] at h
  have a5 := I8.num_lt i.d5; have b5 := I8.num_lt j.d5
  have a4 := I8.num_lt i.d4; have b4 := I8.num_lt j.d4
  have a3 := I8.num_lt i.d3; have b3 := I8.num_lt j.d3
  have a2 := I8.num_lt i.d2; have b2 := I8.num_lt j.d2
  have a1 := I8.num_lt i.d1; have b1 := I8.num_lt j.d1
  have e5 : i.d5.num = j.d5.num := by omega
  have e4 : i.d4.num = j.d4.num := by omega
  have e3 : i.d3.num = j.d3.num := by omega
  have e2 : i.d2.num = j.d2.num := by omega
  have e1 : i.d1.num = j.d1.num := by omega
  have e0 : i.d0.num = j.d0.num := by omega
  cases i; cases j
  simp only at e0 e1 e2 e3 e4 e5
  rw [I8.num_inj e0, I8.num_inj e1, I8.num_inj e2, I8.num_inj e3, I8.num_inj e4, I8.num_inj e5]
instance : DecidableEq Id := fun i j => if h : i.num = j.num then isTrue (Id.num_inj h) else isFalse (fun e => h (by rw [e]))
theorem Id.succ_ok {i : Id} {k : Id → VR} {v : AVal} {s : St} (h : i.succ k = .ok v s) : ∃ n : Id, n.num = i.num + 1 ∧ k n = .ok v s := by
  obtain ⟨a0, a1, a2, a3, a4, a5⟩ := i
  unfold Id.succ Id.succA at h
  cases a5 <;> dsimp only at h
  case i7 =>
    unfold Id.carry at h
    cases a4 <;> dsimp only at h
    case i7 =>
      cases a3 <;> dsimp only at h
      case i7 =>
        cases a2 <;> dsimp only at h
        case i7 =>
          cases a1 <;> dsimp only at h
          case i7 =>
            cases a0 <;> dsimp only at h
            case i7 => cases h
            all_goals exact ⟨_, rfl, h⟩
          all_goals exact ⟨_, by simp only [Id.num_eq]; simp [I8.num, I8.next]; try omega, h⟩
        all_goals exact ⟨_, by simp only [Id.num_eq]; simp [I8.num, I8.next]; try omega, h⟩
      all_goals exact ⟨_, by simp only [Id.num_eq]; simp [I8.num, I8.next]; try omega, h⟩
    all_goals exact ⟨_, by simp only [Id.num_eq]; simp [I8.num, I8.next]; try omega, h⟩
  all_goals exact ⟨_, by simp only [Id.num_eq]; simp [I8.num]; try omega, h⟩

theorem St.alloc_ok {s : St} {b : Blk} {k : Id → St → VR} {v : AVal} {s' : St} (h : s.alloc b k = .ok v s') :
    ∃ n : Id, n.num = s.n.num + 1 ∧ k s.n ⟨Heap.set s.n b s.h, n, s.ro⟩ = .ok v s' := by
  obtain ⟨hp, n, ro⟩ := s
  exact Id.succ_ok h

theorem St.may_ro {s : St} {i : Id} (h : s.may i = true) : s.ro ≤ i.num := by
  obtain ⟨hp, n, ro⟩ := s
  cases ro with
  | zero => exact Nat.zero_le _
  | succ r => exact Nat.le_of_ble_eq_true h

theorem St.put_ok {s : St} {i : Id} {b : Blk} {v av : AVal} {s' : St} (h : s.put i b v = .ok av s') :
    s.ro ≤ i.num ∧ av = v ∧ s' = ⟨Heap.set i b s.h, s.n, s.ro⟩ := by
  unfold St.put at h
  cases hm : s.may i with
  | false => rw [hm] at h; cases h
  | true =>
    rw [hm] at h
    refine ⟨St.may_ro hm, ?_⟩
    obtain ⟨hp, n, ro⟩ := s
    cases h
    exact ⟨rfl, rfl⟩

theorem St.at_set (h : Heap) (n : Id) (ro : Nat) (i j : Id) (b : Blk) : (⟨Heap.set i b h, n, ro⟩ : St).at j = if j = i then b else Heap.get j h := by
  unfold St.at
  split
  · rename_i e; subst e; exact Heap.get_set_self _ _ _
  · rename_i e; exact Heap.get_set_ne e _ _

/-- A name more. -/
def upd (r : Rho) (i : Id) (p : Pl) : Rho := fun j => if j.num = i.num then some p else r j
theorem upd_same (r : Rho) (i : Id) (p : Pl) : upd r i p i = some p := by simp [upd]
theorem upd_ne {r : Rho} {i j : Id} {p : Pl} (h : j.num ≠ i.num) : upd r i p j = r j := by simp [upd, h]
theorem Sim.ext_upd {om : Nat → Value} {r : Rho} {s : St} {w : World} (sim : Sim om r s w) (p : Pl) : Ext r (upd r s.n p) := fun i q e => by
  rw [upd_ne (Nat.ne_of_lt (sim.dom i q e).1)]; exact e

/-- Only the count of questions differs. -/
structure SameW (w w' : World) : Prop where
  heap : w'.heap = w.heap
  os : w'.os = w.os
  tape : w'.tape = w.tape
  out : w'.output = w.output

section
variable {om : Nat → Value} {r : Rho} {s s' : St} {w w' : World}

theorem Sim.same (sim : Sim om r s w) (h : SameW w w') : Sim om r s w' := {
  sw := ⟨fun i hi => by
    obtain ⟨p, o, h1, h2, h3⟩ := sim.sw.live i hi
    exact ⟨p, o, h1, by rw [h.heap]; exact h2, h3⟩, sim.sw.inj⟩
  dom i p e := by rw [h.heap]; exact sim.dom i p e
  no := sim.no
  ron := sim.ron }
theorem Post.same (sim : Sim om r s w) (h : SameW w w') : Post om r s w r s w' :=
  ⟨fun _ _ => rfl, sim.same h, Nat.le_refl _, by rw [h.heap]; exact Nat.le_refl _, fun _ _ _ => by rw [h.heap], fun _ _ g => g, rfl, fun _ _ => rfl, h.os, h.tape, h.out⟩

/-- A new block. -/
theorem Post.new (sim : Sim om r s w) {b : Blk} {p : Pl} {o : Obj} {n : Id} (hn : n.num = s.n.num + 1) (hp : p.b = w.heap.size)
    (hb : BRel om (upd r s.n p) b p o) (hh : w'.heap = w.heap.push o) (hos : w'.os = w.os) (ht : w'.tape = w.tape) (hout : w'.output = w.output) :
    Post om r s w (upd r s.n p) ⟨Heap.set s.n b s.h, n, s.ro⟩ w' := by
  have ext := sim.ext_upd p
  have hnew : w'.heap[w.heap.size]? = some o := by rw [hh]; simp
  have hold : ∀ c, c < w.heap.size → w'.heap[c]? = w.heap[c]? := fun c hc => by rw [hh, Array.getElem?_push, if_neg (Nat.ne_of_lt hc)]
  have hsz : w'.heap.size = w.heap.size + 1 := by rw [hh]; simp
  have old : ∀ i, i.num < s.n.num → upd r s.n p i = r i := fun i hi => upd_ne (Nat.ne_of_lt hi)
  refine ⟨old, ⟨⟨?_, ?_⟩, ?_, ?_, by have := sim.ron; show s.ro ≤ n.num; omega⟩, by show s.n.num ≤ n.num; omega, by omega, fun c hc _ => hold c hc, ?_, rfl, ?_, hos, ht, hout⟩
  · intro i hi
    rw [St.at_set] at hi ⊢
    by_cases e : i = s.n
    · subst e
      rw [if_pos rfl] at hi ⊢
      exact ⟨p, o, upd_same _ _ _, by rw [hp]; exact hnew, hb⟩
    · rw [if_neg e] at hi ⊢
      obtain ⟨q, x, h1, h2, h3⟩ := sim.sw.live i hi
      exact ⟨q, x, ext _ _ h1, by rw [hold _ (sim.dom i q h1).2]; exact h2, h3.mono ext⟩
  · intro i j pi pj hi hj h1 h2 hbb
    rw [St.at_set] at hi hj
    by_cases ei : i = s.n
    · by_cases ej : j = s.n
      · rw [ei, ej]
      · subst ei
        rw [if_neg ej] at hj
        rw [upd_same] at h1
        obtain ⟨q, x, g1, g2, g3⟩ := sim.sw.live j hj
        have := ext _ _ g1
        rw [h2] at this
        cases this; cases h1
        have := (sim.dom j pj g1).2
        omega
    · by_cases ej : j = s.n
      · subst ej
        rw [if_neg ei] at hi
        rw [upd_same] at h2
        obtain ⟨q, x, g1, g2, g3⟩ := sim.sw.live i hi
        have := ext _ _ g1
        rw [h1] at this
        cases this; cases h2
        have := (sim.dom i pi g1).2
        omega
      · rw [if_neg ei] at hi
        rw [if_neg ej] at hj
        have ni : i.num ≠ s.n.num := fun e => ei (Id.num_inj e)
        have nj : j.num ≠ s.n.num := fun e => ej (Id.num_inj e)
        rw [upd_ne ni] at h1
        rw [upd_ne nj] at h2
        exact sim.sw.inj i j pi pj hi hj h1 h2 hbb
  · intro i q e
    show i.num < n.num ∧ _
    by_cases ei : i.num = s.n.num
    · have : i = s.n := Id.num_inj ei
      subst this
      rw [upd_same] at e
      cases e
      omega
    · rw [upd_ne ei] at e
      have := sim.dom i q e
      omega
  · intro i hi
    have hi' : n.num ≤ i.num := hi
    rw [St.at_set, if_neg (fun e : _ = _ => by subst e; omega)]
    exact sim.no i (by omega)
  · rintro c hc ⟨j, q, h1, h2, h3, h4⟩
    rw [St.at_set] at h1
    by_cases ej : j = s.n
    · subst ej
      rw [upd_same] at h3
      cases h3
      omega
    · rw [if_neg ej] at h1
      rw [upd_ne fun e => ej (Id.num_inj e)] at h3
      exact ⟨j, q, h1, h2, h3, h4⟩
  · intro i hi
    rw [St.at_set]
    have := sim.ron
    rw [if_neg (fun e : i = s.n => by subst e; omega)]; rfl

/-- A block is changed, or no more looked at. -/
theorem Post.put (sim : Sim om r s w) {i : Id} {p : Pl} {b : Blk} (hi : r i = some p) (hro : s.ro ≤ i.num) (hl : s.at i ≠ .none)
    (hb : b = .none ∨ ∃ o, w'.heap[p.b]? = some o ∧ BRel om r b p o) (ho : ∀ c, c ≠ p.b → w'.heap[c]? = w.heap[c]?) (hsz : w'.heap.size = w.heap.size)
    (hos : w'.os = w.os) (ht : w'.tape = w.tape) (hout : w'.output = w.output) :
    Post om r s w r ⟨Heap.set i b s.h, s.n, s.ro⟩ w' := by
  have atn : ∀ j, (⟨Heap.set i b s.h, s.n, s.ro⟩ : St).at j ≠ .none → s.at j ≠ .none := fun j hj => by
    rw [St.at_set] at hj
    by_cases e : j = i
    · subst e; exact hl
    · rw [if_neg e] at hj; exact hj
  refine ⟨fun _ _ => rfl, ⟨⟨?_, ?_⟩, ?_, ?_, sim.ron⟩, Nat.le_refl _, by omega, ?_, ?_, rfl, ?_, hos, ht, hout⟩
  · intro j hj
    have hj' := atn j hj
    rw [St.at_set] at hj ⊢
    by_cases e : j = i
    · subst e
      rw [if_pos rfl] at hj ⊢
      rcases hb with hb | ⟨o, h1, h2⟩
      · exact absurd hb hj
      · exact ⟨p, o, hi, h1, h2⟩
    · rw [if_neg e] at hj ⊢
      obtain ⟨q, x, g1, g2, g3⟩ := sim.sw.live j hj
      refine ⟨q, x, g1, ?_, g3⟩
      rw [ho q.b fun hq => e (sim.sw.inj j i q p hj hl g1 hi hq)]
      exact g2
  · exact fun j k pj pk hj hk => sim.sw.inj j k pj pk (atn j hj) (atn k hk)
  · intro j q e
    have := sim.dom j q e
    rw [hsz]
    exact this
  · intro j hj
    have hj' : s.n.num ≤ j.num := hj
    rw [St.at_set, if_neg (fun e : _ = _ => by subst e; have := (sim.dom j p hi).1; omega)]
    exact sim.no j hj
  · intro c hc hn
    exact ho c fun e => hn ⟨i, p, hl, hro, hi, e.symm⟩
  · rintro c hc ⟨j, q, h1, h2, h3, h4⟩
    exact ⟨j, q, atn j h1, h2, h3, h4⟩
  · intro j hj
    rw [St.at_set, if_neg (fun e : _ = _ => by subst e; omega)]
    rfl
end
end
end Go.Cx

/-! ## Rows of cells: what is read and written. -/
set_option linter.unusedVariables false
set_option linter.unusedSimpArgs false
namespace Go.Cx
noncomputable section
variable {om : Nat → Value} {r : Rho}

/-! ### Packed rows -/
theorem mkI_length (k : IntKind) (n d : Nat) : (mkI k n d).length = n := by simp [mkI, digs_length]
theorem mkI_zero (k : IntKind) (d : Nat) : mkI k 0 d = [] := rfl
theorem mkI_one (k : IntKind) (d : Nat) : mkI k 1 d = [Value.int k (dec k (d % 2 ^ kw k))] := rfl
theorem mkI_dcut (k : IntKind) (n d off cnt : Nat) (h : off + cnt ≤ n) : mkI k cnt (dcut (kw k) d off cnt) = ((mkI k n d).drop off).take cnt := by
  simp only [mkI]
  rw [digs_dcut _ _ _ _ _ h]
  simp
theorem mkI_dput (k : IntKind) (n d off cnt e : Nat) (h : off + cnt ≤ n) (he : e < 2 ^ (kw k * cnt)) :
    mkI k n (dput (kw k) d off cnt e) = (mkI k n d).take off ++ mkI k cnt e ++ (mkI k n d).drop (off + cnt) := by
  simp only [mkI]
  rw [digs_dput _ _ _ _ _ _ h he]
  simp
theorem mkI_dcat (k : IntKind) (n m d e : Nat) : mkI k (n + m) (dcat (kw k) n d e) = mkI k n d ++ mkI k m e := by
  simp only [mkI]
  rw [digs_dcat]
  simp
theorem mkI_dfst (k : IntKind) (n d : Nat) : mkI k n (dfst (kw k) n d) = mkI k n d := by
  simp only [mkI, dfst_eq, digs_mod]
theorem dfst_lt (w n d : Nat) : dfst w n d < 2 ^ (w * n) := Nat.mod_lt _ (Nat.two_pow_pos _)
theorem mkI_get (k : IntKind) (n d off : Nat) (h : off < n) : (mkI k n d)[off]? = some (Value.int k (dec k (dcut (kw k) d off 1))) := by
  have h1 := mkI_dcut k n d off 1 (by omega)
  rw [mkI_one] at h1
  have h2 : dcut (kw k) d off 1 % 2 ^ kw k = dcut (kw k) d off 1 := Nat.mod_eq_of_lt (by have := dcut_lt (kw k) d off 1; rwa [Nat.mul_one] at this)
  rw [h2] at h1
  have h3 : (((mkI k n d).drop off).take 1)[0]? = (mkI k n d)[off]? := by simp
  rw [← h3, ← h1]; rfl
theorem mkI_cell (k : IntKind) (n d : Nat) : ∀ v ∈ mkI k n d, v.oneCell' = true := by
  intro v hv
  simp only [mkI, List.mem_map] at hv
  obtain ⟨u, _, rfl⟩ := hv
  rfl

/-- A number of a kind, as a digit. -/
theorem enc_pos (k : IntKind) (m : Nat) (h : lt m (Bool.rec (motive := fun _ => Nat) (kp k) (khalf k) (ksigned k)) = true) : m < 2 ^ kw k ∧ dec k m = (m : Int) := by
  rw [lt_true] at h
  cases k <;> simp only [ksigned, kp, khalf, kw] at h ⊢ <;> refine ⟨by omega, ?_⟩ <;> first
    | rfl
    | (show Bool.rec (motive := fun _ => Int) _ _ (lt m _) = _
       rw [show lt m _ = true from lt_true.2 (by simp only [khalf]; omega)]; rfl)
theorem enc_neg (k : IntKind) (m : Nat) (h : band (ksigned k) (lt m (khalf k)) = true) : kp k - 1 - m < 2 ^ kw k ∧ dec k (kp k - 1 - m) = Int.negSucc m := by
  rw [band_true, lt_true] at h
  obtain ⟨h1, h2⟩ := h
  have hk : khalf k ≤ kp k - 1 - m := by cases k <;> simp only [kp, khalf] at h2 ⊢ <;> omega
  have hm : kp k - 1 - (kp k - 1 - m) = m := by cases k <;> simp only [kp, khalf] at h2 ⊢ <;> omega
  refine ⟨by cases k <;> simp only [kp, khalf, kw] at h2 ⊢ <;> omega, ?_⟩
  have e : dec k (kp k - 1 - m) = decS k (kp k - 1 - m) := by unfold dec; rw [h1]
  rw [e]
  unfold decS
  rw [lt_false.2 hk]
  show Int.negSucc (kp k - 1 - (kp k - 1 - m)) = _
  rw [hm]
theorem encV_ok {n : Int} {k : IntKind} {f : Nat → VR} {av : AVal} {s : St} (h : encV n k f = .ok av s) : ∃ u, u < 2 ^ kw k ∧ dec k u = n ∧ f u = .ok av s := by
  cases n with
  | ofNat m =>
    have h' : encN m k f = .ok av s := h
    unfold encN at h'
    cases hl : lt m (Bool.rec (motive := fun _ => Nat) (kp k) (khalf k) (ksigned k)) with
    | false => rw [hl] at h'; cases h'
    | true => rw [hl] at h'; exact ⟨m, (enc_pos k m hl).1, (enc_pos k m hl).2, h'⟩
  | negSucc m =>
    have h' : encM m k f = .ok av s := h
    unfold encM at h'
    cases hl : band (ksigned k) (lt m (khalf k)) with
    | false => rw [hl] at h'; cases h'
    | true => rw [hl] at h'; exact ⟨_, (enc_neg k m hl).1, (enc_neg k m hl).2, h'⟩
theorem encO_ok {k : IntKind} {n : Int} {u : Nat} (h : encO k n = some u) : u < 2 ^ kw k ∧ dec k u = n := by
  cases n with
  | ofNat m =>
    simp only [encO] at h
    split at h
    · rename_i hl; rw [Option.some.injEq] at h; rw [← h]; exact enc_pos k m hl
    · cases h
  | negSucc m =>
    simp only [encO] at h
    split at h
    · rename_i hl; rw [Option.some.injEq] at h; rw [← h]; exact enc_neg k m hl
    · cases h
theorem mkI_cons (k : IntKind) (n u d : Nat) (h : u < 2 ^ kw k) : mkI k (n + 1) (u + kp k * d) = Value.int k (dec k u) :: mkI k n d := by
  simp only [mkI, digs, List.map_cons, kp_eq]
  rw [Nat.add_mul_mod_self_left, Nat.mod_eq_of_lt h, Nat.add_mul_div_left _ _ (Nat.two_pow_pos _), Nat.div_eq_of_lt h, Nat.zero_add]

/-! ### Cells -/
/-- A member that is one cell. -/
def oneC (v : AVal) : Bool := match v with | .aggi _ _ _ => false | _ => true
theorem oneC_of_scalar {v : AVal} (h : isScalar v = true) : oneC v = true := by cases v <;> first | rfl | exact absurd h (by intro h; cases h)
theorem VRel.cell {v : AVal} {x : Value} (h : VRel om r v x) (hs : isScalar v = true) : x.oneCell' = true := by
  cases h <;> first | rfl | (exact absurd hs (by intro h; cases h))
theorem CRel.cell {l : List AVal} {xs : List Value} (h : CRel om r l xs) : ∀ x ∈ xs, x.oneCell' = true := by
  induction l generalizing xs with
  | nil => cases h; simp
  | cons v l ih =>
    cases h with
    | cons _ x _ y hs hv t => intro z hz; rcases List.mem_cons.1 hz with rfl | hz; exact hv.cell hs; exact ih t z hz
    | seg k n d _ _ y hy t => subst hy; intro z hz; rcases List.mem_append.1 hz with hz | hz; exact mkI_cell k n d z hz; exact ih t z hz
    | opq i x _ y hx hs t => subst hx; intro z hz; rcases List.mem_cons.1 hz with rfl | hz; exact hs; exact ih t z hz
/-- The head of a row: one cell, or many. -/
theorem CRel.inv {v : AVal} {l : List AVal} {xs : List Value} (h : CRel om r (v :: l) xs) :
    (oneC v = true ∧ ∃ x y, xs = x :: y ∧ VRel om r v x ∧ CRel om r l y ∧ ∀ z zs, CRel om r z zs → CRel om r (v :: z) (x :: zs)) ∨ (∃ k n d y, v = .aggi k n d ∧ xs = mkI k n d ++ y ∧ CRel om r l y) := by
  cases h with
  | cons _ x _ y hs hv t => exact .inl ⟨oneC_of_scalar hs, x, y, rfl, hv, t, fun z zs hz => .cons _ _ _ _ hs hv hz⟩
  | seg k n d _ _ y hy t => exact .inr ⟨k, n, d, y, rfl, hy, t⟩
  | opq i x _ y hx hs t => exact .inl ⟨rfl, x, y, rfl, by rw [hx]; exact .opq i hs, t, fun z zs hz => .opq _ _ _ _ hx hs hz⟩
theorem CRel.inv1 {v : AVal} {l : List AVal} {xs : List Value} (h : CRel om r (v :: l) xs) (h1 : oneC v = true) :
    ∃ x y, xs = x :: y ∧ VRel om r v x ∧ CRel om r l y ∧ ∀ z zs, CRel om r z zs → CRel om r (v :: z) (x :: zs) := by
  rcases h.inv with ⟨_, g⟩ | ⟨k, n, d, y, rfl, _⟩
  · exact g
  · cases h1
theorem lwide_ok {l : List AVal} {xs : List Value} (h : CRel om r l xs) : lwide l = xs.length := by
  induction l generalizing xs with
  | nil => cases h; rfl
  | cons v l ih =>
    show v.width + lwide l = _
    rcases h.inv with ⟨h1, x, y, rfl, _, t, _⟩ | ⟨k, n, d, y, rfl, rfl, t⟩
    · rw [ih t]
      have : v.width = 1 := by cases v <;> first | rfl | exact absurd h1 (by intro h; cases h)
      rw [this, List.length_cons]; omega
    · rw [ih t, List.length_append, mkI_length]; rfl

theorem icell_ok {k : IntKind} {n d off : Nat} (h : icell k n d off ≠ .bad) : off < n ∧ icell k n d off = .int k (dec k (dcut (kw k) d off 1)) := by
  unfold icell at h ⊢
  cases hl : lt off n with
  | false => rw [hl] at h; exact absurd rfl h
  | true => exact ⟨lt_true.1 hl, rfl⟩
theorem lcellStep_one {v : AVal} (h : oneC v = true) (ih : Nat → AVal) (off : Nat) : lcellStep v ih off = lcellAt off v ih := by
  cases v <;> first | rfl | exact absurd h (by intro h; cases h)
theorem lcell_ok {l : List AVal} {xs : List Value} (h : CRel om r l xs) {off : Nat} (hb : lcell l off ≠ .bad) : ∃ x, xs[off]? = some x ∧ VRel om r (lcell l off) x := by
  induction l generalizing xs off with
  | nil => exact absurd rfl hb
  | cons v l ih =>
    have e : lcell (v :: l) off = lcellStep v (lcell l) off := rfl
    rw [e] at hb ⊢
    rcases h.inv with ⟨h1, x, y, rfl, hv, t, _⟩ | ⟨k, n, d, y, rfl, rfl, t⟩
    · rw [lcellStep_one h1] at hb ⊢
      cases off with
      | zero => exact ⟨x, rfl, hv⟩
      | succ j => obtain ⟨z, hz, hr⟩ := ih t (off := j) hb; exact ⟨z, by simpa using hz, hr⟩
    · have e2 : lcellStep (.aggi k n d) (lcell l) off = Bool.rec (motive := fun _ => AVal) (lcell l (off - n)) (icell k n d off) (lt off n) := rfl
      rw [e2] at hb ⊢
      cases hl : lt off n with
      | true =>
        rw [hl] at hb
        have hb' : icell k n d off ≠ .bad := hb
        obtain ⟨h1, h2⟩ := icell_ok hb'
        refine ⟨_, ?_, by show VRel om r (icell k n d off) _; rw [h2]; exact .int _ _⟩
        rw [List.getElem?_append_left (by rw [mkI_length]; exact h1), mkI_get k n d off h1]
      | false =>
        rw [hl] at hb
        rw [lt_false] at hl
        obtain ⟨z, hz, hr⟩ := ih t (off := off - n) hb
        refine ⟨z, ?_, hr⟩
        rw [List.getElem?_append_right (by rw [mkI_length]; exact hl), mkI_length]
        exact hz

theorem aggOf_ok {l : List AVal} {xs : List Value} (h : CRel om r l xs) : VRel om r (aggOf l) (.agg xs.toArray) := by
  unfold aggOf
  split
  · rename_i k n d
    rcases h.inv with ⟨h1, _⟩ | ⟨k', n', d', y, e, rfl, t⟩
    · cases h1
    · cases e; cases t; rw [List.append_nil]; exact .aggi _ _ _
  · exact .agg _ _ h
theorem lheadStep_one {v : AVal} (h : oneC v = true) (j : Nat) (ih : Nat → (List AVal → AVal) → AVal) (f : List AVal → AVal) : lheadStep v j ih f = ih j fun r => f (v :: r) := by
  cases v <;> first | rfl | exact absurd h (by intro h; cases h)
theorem lhead_ok {l : List AVal} {xs : List Value} (h : CRel om r l xs) {cnt : Nat} {f : List AVal → AVal} (hb : lhead l cnt f ≠ .bad) :
    ∃ z, CRel om r z (xs.take cnt) ∧ cnt ≤ xs.length ∧ lhead l cnt f = f z := by
  induction l generalizing xs cnt f with
  | nil =>
    cases h
    cases cnt with
    | zero => exact ⟨[], .nil, Nat.le_refl _, rfl⟩
    | succ j => exact absurd rfl hb
  | cons v l ih =>
    cases cnt with
    | zero => exact ⟨[], by rw [List.take_zero]; exact .nil, Nat.zero_le _, rfl⟩
    | succ j =>
      have e : lhead (v :: l) (j + 1) f = lheadStep v j (lhead l) f := rfl
      rw [e] at hb ⊢
      rcases h.inv with ⟨h1, x, y, rfl, hv, t, mk⟩ | ⟨k, n, d, y, rfl, rfl, t⟩
      · rw [lheadStep_one h1] at hb ⊢
        obtain ⟨z, h2, h3, h4⟩ := ih t hb
        exact ⟨v :: z, by rw [List.take_succ_cons]; exact mk _ _ h2, by rw [List.length_cons]; omega, h4⟩
      · have e2 : lheadStep (.aggi k n d) j (lhead l) f = Bool.rec (motive := fun _ => AVal) (f [.aggi k (j + 1) (dcut (kw k) d 0 (j + 1))]) (lhead l (j + 1 - n) fun r => f (.aggi k n d :: r)) (Nat.ble n (j + 1)) := rfl
        rw [e2] at hb ⊢
        cases hl : Nat.ble n (j + 1) with
        | true =>
          rw [hl] at hb
          rw [Nat.ble_eq] at hl
          obtain ⟨z, h2, h3, h4⟩ := ih t hb
          refine ⟨.aggi k n d :: z, .seg _ _ _ _ _ _ ?_ h2, by rw [List.length_append, mkI_length]; omega, h4⟩
          rw [List.take_append, mkI_length, List.take_of_length_le (by rw [mkI_length]; exact hl)]
        | false =>
          have hl' : ¬ n ≤ j + 1 := fun g => by rw [← Nat.ble_eq, hl] at g; cases g
          refine ⟨_, .seg _ _ _ _ _ [] ?_ .nil, by rw [List.length_append, mkI_length]; omega, rfl⟩
          rw [List.take_append_of_le_length (by rw [mkI_length]; omega), mkI_dcut k n d 0 (j + 1) (by omega), List.append_nil, List.drop_zero]

theorem lcutStep_one {v : AVal} (h : oneC v = true) (j : Nat) (ih : Nat → Nat → AVal) (cnt : Nat) : lcutStep v j ih cnt = ih j cnt := by
  cases v <;> first | rfl | exact absurd h (by intro h; cases h)
theorem lcut_ok {l : List AVal} {xs : List Value} (h : CRel om r l xs) {off cnt : Nat} (hb : lcut l off cnt ≠ .bad) :
    ((xs.drop off).take cnt).length = cnt ∧ VRel om r (lcut l off cnt) (.agg ((xs.drop off).take cnt).toArray) := by
  induction l generalizing xs off with
  | nil =>
    cases h
    cases cnt with
    | zero => refine ⟨by simp, ?_⟩; show VRel om r (.agg []) _; simp; exact .agg [] [] .nil
    | succ j => exact absurd rfl hb
  | cons v l ih =>
    cases off with
    | zero =>
      have e : lcut (v :: l) 0 cnt = lhead (v :: l) cnt aggOf := rfl
      rw [e] at hb ⊢
      obtain ⟨z, h2, h3, h4⟩ := lhead_ok h hb
      rw [h4, List.drop_zero]
      exact ⟨by rw [List.length_take]; omega, aggOf_ok h2⟩
    | succ j =>
      have e : lcut (v :: l) (j + 1) cnt = lcutStep v j (lcut l) cnt := rfl
      rw [e] at hb ⊢
      rcases h.inv with ⟨h1, x, y, rfl, hv, t, mk⟩ | ⟨k, n, d, y, rfl, rfl, t⟩
      · rw [lcutStep_one h1] at hb ⊢
        rw [List.drop_succ_cons]
        exact ih t hb
      · have e2 : lcutStep (.aggi k n d) j (lcut l) cnt = Bool.rec (motive := fun _ => AVal) (lcut l (j + 1 - n) cnt) (Bool.rec (motive := fun _ => AVal) .bad (.aggi k cnt (dcut (kw k) d (j + 1) cnt)) (Nat.ble (j + 1 + cnt) n)) (lt (j + 1) n) := rfl
        rw [e2] at hb ⊢
        cases hl : lt (j + 1) n with
        | false =>
          rw [hl] at hb
          rw [lt_false] at hl
          have := ih t hb
          rw [List.drop_append, List.drop_of_length_le (by rw [mkI_length]; exact hl), List.nil_append, mkI_length]
          exact this
        | true =>
          rw [hl] at hb
          cases hc : Nat.ble (j + 1 + cnt) n with
          | false => rw [hc] at hb; exact absurd rfl hb
          | true =>
            rw [Nat.ble_eq] at hc
            have e3 : ((mkI k n d ++ y).drop (j + 1)).take cnt = mkI k cnt (dcut (kw k) d (j + 1) cnt) := by
              rw [List.drop_append_of_le_length (by rw [mkI_length]; omega), List.take_append_of_le_length (by rw [List.length_drop, mkI_length]; omega), mkI_dcut k n d (j + 1) cnt hc]
            rw [e3]
            exact ⟨mkI_length _ _ _, .aggi _ _ _⟩
end
end Go.Cx

/-! ## Rows of cells: what is written, joined, made. -/
set_option linter.unusedVariables false
set_option linter.unusedSimpArgs false
namespace Go.Cx
noncomputable section
variable {om : Nat → Value} {r : Rho}

theorem CRel.append {a b : List AVal} {x y : List Value} (h : CRel om r a x) (h' : CRel om r b y) : CRel om r (a ++ b) (x ++ y) := by
  induction a generalizing x with
  | nil => cases h; exact h'
  | cons v l ih =>
    rcases h.inv with ⟨h1, z, zs, rfl, hv, t, mk⟩ | ⟨k, n, d, zs, rfl, rfl, t⟩
    · exact mk _ _ (ih t)
    · exact .seg _ _ _ _ _ _ (List.append_assoc _ _ _) (ih t)
theorem lapp_eq (a b : List AVal) : lapp a b = a ++ b := by
  induction a with
  | nil => rfl
  | cons v l ih => show v :: lapp l b = _; rw [ih]; rfl

/-! ### One cell written -/
theorem iput_ok {v : AVal} {k : IntKind} {n d off : Nat} {f : Nat → VR} {av : AVal} {s : St} (h : iput v k n d off f = .ok av s) :
    ∃ m, v = .int k m ∧ off < n ∧ ∃ e, mkI k n e = (mkI k n d).set off (.int k m) ∧ f e = .ok av s := by
  cases v <;> first | (cases h; done) | skip
  rename_i k' m
  have h' : Bool.rec (motive := fun _ => VR) (.fail 202) (encV m k fun u => f (dput (kw k) d off 1 u)) (band (lt off n) (kbeq k k')) = .ok av s := h
  cases hb : band (lt off n) (kbeq k k') with
  | false => rw [hb] at h'; cases h'
  | true =>
    rw [hb] at h'
    rw [band_true, lt_true] at hb
    have ek := kbeq_eq hb.2
    subst ek
    obtain ⟨u, h1, h2, h3⟩ := encV_ok h'
    refine ⟨m, rfl, hb.1, _, ?_, h3⟩
    rw [mkI_dput k n d off 1 u (by omega) (by rwa [Nat.mul_one]), mkI_one, Nat.mod_eq_of_lt h1, h2]
    rw [List.set_eq_take_append_cons_drop, if_pos (by rw [mkI_length]; exact hb.1)]
    simp
theorem lputcStep_one {v : AVal} (h : oneC v = true) (t : List AVal) (ih : Nat → AVal → (List AVal → VR) → VR) (off : Nat) (x : AVal) (f : List AVal → VR) :
    lputcStep v t ih off x f = lputcAt off v t ih x f := by
  cases v <;> first | rfl | exact absurd h (by intro h; cases h)
theorem lputc_ok {l : List AVal} {xs : List Value} (h : CRel om r l xs) {off : Nat} {v : AVal} {x : Value} (hs : isScalar v = true) (hv : VRel om r v x) {f : List AVal → VR} {av : AVal} {s : St}
    (hb : lputc l off v f = .ok av s) : off < xs.length ∧ ∃ z, CRel om r z (xs.set off x) ∧ f z = .ok av s := by
  induction l generalizing xs off f with
  | nil => cases hb
  | cons u l ih =>
    have e : lputc (u :: l) off v f = lputcStep u l (lputc l) off v f := rfl
    rw [e] at hb
    rcases h.inv with ⟨h1, y, ys, rfl, hu, t, mk⟩ | ⟨k, n, d, ys, rfl, rfl, t⟩
    · rw [lputcStep_one h1] at hb
      cases off with
      | zero => exact ⟨by simp, v :: l, .cons _ _ _ _ hs hv t, hb⟩
      | succ j =>
        have hb' : lputc l j v (fun r => f (u :: r)) = .ok av s := hb
        obtain ⟨h2, z, h3, h4⟩ := ih t hb'
        exact ⟨by rw [List.length_cons]; omega, u :: z, mk _ _ h3, h4⟩
    · have e2 : lputcStep (.aggi k n d) l (lputc l) off v f = Bool.rec (motive := fun _ => VR) (lputc l (off - n) v fun r => f (.aggi k n d :: r)) (iput v k n d off fun y => f (.aggi k n y :: l)) (lt off n) := rfl
      rw [e2] at hb
      cases hl : lt off n with
      | true =>
        rw [hl] at hb
        have hb' : iput v k n d off (fun y => f (.aggi k n y :: l)) = .ok av s := hb
        obtain ⟨m, rfl, h2, e, h3, h4⟩ := iput_ok hb'
        cases hv
        refine ⟨by rw [List.length_append, mkI_length]; omega, _, .seg _ _ _ _ _ ys ?_ t, h4⟩
        rw [h3, List.set_append_left _ _ (by rw [mkI_length]; exact h2)]
      | false =>
        rw [hl] at hb
        rw [lt_false] at hl
        have hb' : lputc l (off - n) v (fun r => f (.aggi k n d :: r)) = .ok av s := hb
        obtain ⟨h2, z, h3, h4⟩ := ih t hb'
        refine ⟨by rw [List.length_append, mkI_length]; omega, _, .seg _ _ _ _ _ _ ?_ h3, h4⟩
        rw [List.set_append_right _ _ (by rw [mkI_length]; exact hl), mkI_length]

/-! ### Many cells written -/
/-- A row behind cells were written. -/
def over (xs : List Value) (off : Nat) (ys : List Value) : List Value := xs.take off ++ ys ++ xs.drop (off + ys.length)
theorem over_length {xs ys : List Value} {off : Nat} (h : off + ys.length ≤ xs.length) : (over xs off ys).length = xs.length := by
  simp only [over, List.length_append, List.length_take, List.length_drop]; omega
theorem loverStep_one {v : AVal} (h : oneC v = true) (w : AVal) (t : List AVal) (ih : List AVal → (List AVal → VR) → VR) (f : List AVal → VR) :
    loverStep v w t ih f = loverIntPlain w v t ih f := by
  cases v <;> first | rfl | exact absurd h (by intro h; cases h)
theorem loverIntPlain_one {w : AVal} (h : oneC w = true) (v : AVal) (t : List AVal) (ih : List AVal → (List AVal → VR) → VR) (f : List AVal → VR) :
    loverIntPlain w v t ih f = ih t fun r => f (v :: r) := by
  cases w <;> first | rfl | exact absurd h (by intro h; cases h)
theorem lover_ok {x : List AVal} {ys : List Value} (hx : CRel om r x ys) {l : List AVal} {xs : List Value} (h : CRel om r l xs) {f : List AVal → VR} {av : AVal} {s : St}
    (hb : lover x l f = .ok av s) : ys.length ≤ xs.length ∧ ∃ z, CRel om r z (over xs 0 ys) ∧ f z = .ok av s := by
  induction x generalizing ys l xs f with
  | nil =>
    cases hx
    exact ⟨Nat.zero_le _, l, by simpa [over] using h, hb⟩
  | cons v x ih =>
    have e : lover (v :: x) l f = loverAt l v (lover x) f := rfl
    rw [e] at hb
    cases l with
    | nil => cases hb
    | cons u l =>
      have e2 : loverAt (u :: l) v (lover x) f = loverStep v u l (lover x) f := rfl
      rw [e2] at hb
      rcases hx.inv with ⟨h1, y, ys', rfl, hv, tx, mkx⟩ | ⟨k, n, d, ys', rfl, rfl, tx⟩
      · rw [loverStep_one h1] at hb
        rcases h.inv with ⟨g1, z, zs, rfl, hu, t, mk⟩ | ⟨k', m, d', zs, rfl, rfl, t⟩
        · rw [loverIntPlain_one g1] at hb
          obtain ⟨h2, q, h3, h4⟩ := ih tx t hb
          refine ⟨by rw [List.length_cons, List.length_cons]; omega, v :: q, ?_, h4⟩
          have := mkx _ _ h3
          simpa [over] using this
        · cases hb
      · rcases h.inv with ⟨g1, z, zs, rfl, hu, t, mk⟩ | ⟨k', m, d', zs, rfl, rfl, t⟩
        · exfalso
          have e3 : loverStep (.aggi k n d) u l (lover x) f = loverIntSeg u k n d l (lover x) f := rfl
          rw [e3] at hb
          cases u <;> first | (cases hb; done) | (exact absurd g1 (by intro h; cases h))
        · have e3 : loverStep (.aggi k n d) (.aggi k' m d') l (lover x) f = Bool.rec (motive := fun _ => VR) (.fail 206) (lover x l fun r => f (.aggi k n d :: r)) (Nat.beq n m) := rfl
          rw [e3] at hb
          cases hn : Nat.beq n m with
          | false => rw [hn] at hb; cases hb
          | true =>
            rw [hn] at hb
            have hn := Nat.eq_of_beq_eq_true hn
            subst hn
            obtain ⟨h2, q, h3, h4⟩ := ih tx t hb
            refine ⟨by rw [List.length_append, List.length_append, mkI_length, mkI_length]; omega, _, .seg _ _ _ _ _ _ ?_ h3, h4⟩
            simp only [over, List.take_zero, List.nil_append, Nat.zero_add, List.length_append, mkI_length, List.append_assoc]
            congr 2
            rw [List.drop_append, List.drop_of_length_le (by rw [mkI_length]; omega), List.nil_append, mkI_length]
            congr 1; omega
theorem lputStep_one {v : AVal} (h : oneC v = true) (j : Nat) (t : List AVal) (ih : Nat → List AVal → (List AVal → VR) → VR) (x : List AVal) (f : List AVal → VR) :
    lputStep v j t ih x f = ih j x fun r => f (v :: r) := by
  cases v <;> first | rfl | exact absurd h (by intro h; cases h)
theorem lputSeg_ok {x : List AVal} {ys : List Value} (hx : CRel om r x ys) {k : IntKind} {n d off : Nat} {t : List AVal} {f : List AVal → VR} {av : AVal} {s : St}
    (hb : lputSeg x k n d off t f = .ok av s) : off + ys.length ≤ n ∧ ∃ e, mkI k n e = over (mkI k n d) off ys ∧ f (.aggi k n e :: t) = .ok av s := by
  unfold lputSeg at hb
  split at hb
  · rename_i k' m y
    cases hc : band (Nat.ble (Nat.add off m) n) (kbeq k k') with
    | false => rw [hc] at hb; cases hb
    | true =>
      rw [hc] at hb
      rw [band_true, Nat.ble_eq] at hc
      obtain ⟨h1, h2⟩ := hc
      have ek := kbeq_eq h2
      subst ek
      rcases hx.inv with ⟨g1, _⟩ | ⟨k', m', y', zs, e, rfl, tx⟩
      · cases g1
      · cases e
        cases tx
        have h1' : off + m ≤ n := h1
        refine ⟨by rw [List.append_nil, mkI_length]; exact h1', _, ?_, hb⟩
        rw [mkI_dput k n d off m _ h1' (dfst_lt _ _ _), mkI_dfst, List.append_nil]
        simp only [over, mkI_length]
  · cases hb
theorem lput_ok {l : List AVal} {xs : List Value} (h : CRel om r l xs) {off : Nat} {x : List AVal} {ys : List Value} (hx : CRel om r x ys) {f : List AVal → VR} {av : AVal} {s : St}
    (hb : lput l off x f = .ok av s) : off + ys.length ≤ xs.length ∧ ∃ z, CRel om r z (over xs off ys) ∧ f z = .ok av s := by
  induction l generalizing xs off f with
  | nil =>
    cases off with
    | zero =>
      have hb' : lover x [] f = .ok av s := hb
      obtain ⟨h1, h2⟩ := lover_ok hx h hb'
      exact ⟨by omega, h2⟩
    | succ j => cases hb
  | cons u l ih =>
    cases off with
    | zero =>
      have hb' : lover x (u :: l) f = .ok av s := hb
      obtain ⟨h1, h2⟩ := lover_ok hx h hb'
      exact ⟨by omega, h2⟩
    | succ j =>
      have e : lput (u :: l) (j + 1) x f = lputStep u j l (lput l) x f := rfl
      rw [e] at hb
      rcases h.inv with ⟨h1, y, zs, rfl, hu, t, mk⟩ | ⟨k, n, d, zs, rfl, rfl, t⟩
      · rw [lputStep_one h1] at hb
        obtain ⟨h2, z, h3, h4⟩ := ih t hb
        refine ⟨by rw [List.length_cons]; omega, u :: z, ?_, h4⟩
        have := mk _ _ h3
        simpa [over, Nat.add_right_comm] using this
      · have e2 : lputStep (.aggi k n d) j l (lput l) x f = Bool.rec (motive := fun _ => VR) (lput l (j + 1 - n) x fun r => f (.aggi k n d :: r)) (lputSeg x k n d (j + 1) l f) (lt (j + 1) n) := rfl
        rw [e2] at hb
        cases hl : lt (j + 1) n with
        | true =>
          rw [hl] at hb
          obtain ⟨h2, q, h3, h4⟩ := lputSeg_ok hx hb
          refine ⟨by rw [List.length_append, mkI_length]; omega, _, .seg _ _ _ _ _ zs ?_ t, h4⟩
          rw [h3]
          rw [lt_true] at hl
          simp only [over]
          rw [List.take_append_of_le_length (by rw [mkI_length]; omega), List.drop_append_of_le_length (by rw [mkI_length]; omega)]
          simp only [List.append_assoc]
        | false =>
          rw [hl] at hb
          rw [lt_false] at hl
          obtain ⟨h2, z, h3, h4⟩ := ih t hb
          refine ⟨by rw [List.length_append, mkI_length]; omega, _, .seg _ _ _ _ _ _ ?_ h3, h4⟩
          simp only [over]
          rw [List.take_append, List.take_of_length_le (by rw [mkI_length]; exact hl), mkI_length, List.drop_append, List.drop_of_length_le (by rw [mkI_length]; omega), mkI_length]
          simp only [List.append_assoc, List.nil_append]
          congr 4; omega

/-! ### Joined, repeated, packed -/
theorem VRel.agg_inv {l : List AVal} {x : Value} (h : VRel om r (.agg l) x) : ∃ xs : List Value, x = .agg xs.toArray ∧ CRel om r l xs := by
  cases h with | agg _ xs h => exact ⟨xs, rfl, h⟩
theorem catCells_ok {a b : AVal} {x y : List Value} (ha : VRel om r a (.agg x.toArray)) (hb : VRel om r b (.agg y.toArray)) : VRel om r (catCells a b) (.agg (x ++ y).toArray) := by
  have la : ∀ {l : List AVal} {x : List Value}, VRel om r (.agg l) (.agg x.toArray) → CRel om r l x := fun {l x} h => by
    obtain ⟨xs, e, h⟩ := h.agg_inv
    have e : x = xs := by simpa using e
    rw [e]; exact h
  have li : ∀ {k n d} {x : List Value}, VRel om r (.aggi k n d) (.agg x.toArray) → x = mkI k n d := fun {k n d x} h => by
    generalize hx : Value.agg x.toArray = v at h
    cases h with | aggi => simpa using hx
  unfold catCells
  split
  · have := la ha; cases this; exact hb
  · have := la hb; cases this; rw [List.append_nil]; exact ha
  · rename_i k n d k' m e
    have e1 := li ha
    have e2 := li hb
    subst e1; subst e2
    split
    · rename_i h0
      have := Nat.eq_of_beq_eq_true h0
      subst this
      exact hb
    · split
      · rename_i h0
        have := Nat.eq_of_beq_eq_true h0
        subst this
        rw [mkI_zero, List.append_nil]
        exact ha
      · split
        · rename_i hk
          subst hk
          rw [← mkI_dcat]
          exact .aggi _ _ _
        · exact .bad _
  · rw [lapp_eq]; exact .agg _ _ ((la ha).append (la hb))
  · rename_i k n d l _
    have e1 := li ha
    subst e1
    exact .agg _ _ (.seg _ _ _ _ _ _ rfl (la hb))
  · rename_i l k n d _
    have e2 := li hb
    subst e2
    rw [lapp_eq]
    exact .agg _ _ ((la ha).append (.seg _ _ _ _ _ [] (List.append_nil _).symm .nil))
  · exact .bad _

/-- So many times. -/
def times (n : Nat) (xs : List Value) : List Value := match n with | 0 => [] | n + 1 => xs ++ times n xs
theorem times_length (n : Nat) (xs : List Value) : (times n xs).length = n * xs.length := by
  induction n with
  | zero => simp [times]
  | succ n ih => simp [times, ih, Nat.succ_mul, Nat.add_comm]
theorem repeatA_ok {z : List AVal} {zs : List Value} (h : CRel om r z zs) (n : Nat) : CRel om r (repeatA n z) (times n zs) := by
  induction n with
  | zero => exact .nil
  | succ n ih => exact h.append ih
theorem dec_zero (k : IntKind) : dec k 0 = 0 := by cases k <;> rfl
theorem mkI_zeros (k : IntKind) (n : Nat) : mkI k n 0 = List.replicate n (.int k 0) := by
  simp only [mkI, digs_zero, List.map_replicate, dec_zero]
theorem times_one (n : Nat) (x : Value) : times n [x] = List.replicate n x := by
  induction n with
  | zero => rfl
  | succ n ih => simp [times, ih, List.replicate_succ]
theorem times_replicate (n m : Nat) (x : Value) : times n (List.replicate m x) = List.replicate (n * m) x := by
  induction n with
  | zero => simp [times]
  | succ n ih => rw [times, ih, List.replicate_append_replicate]; congr 1; rw [Nat.succ_mul]; omega
/-- The cells of a value. -/
theorem cellList_ok {v : AVal} {x : Value} (h : VRel om r v x) (hc : isScalar v = true ∨ (∃ l, v = .agg l) ∨ ∃ k n d, v = .aggi k n d) : CRel om r v.cellList x.cells.toList := by
  rcases hc with hs | ⟨l, rfl⟩ | ⟨k, n, d, rfl⟩
  · have hx := h.cell hs
    have e1 : x.cells.toList = [x] := by cases x <;> first | rfl | exact absurd hx (by intro h; cases h)
    have e2 : v.cellList = [v] := by cases v <;> first | rfl | exact absurd hs (by intro h; cases h)
    rw [e1, e2]
    exact .cons _ _ _ _ hs h .nil
  · obtain ⟨xs, rfl, h'⟩ := h.agg_inv
    exact h'
  · cases h
    exact .seg _ _ _ _ _ [] (by simp [Value.cells]) .nil
theorem zeroRow_ok {z : AVal} {x : Value} (h : VRel om r z x) (hc : isScalar z = true ∨ (∃ l, z = .agg l) ∨ ∃ k n d, z = .aggi k n d) (n : Nat) : RRel om r (zeroRow z n) (times n x.cells.toList) := by
  have gen : RRel om r (.cells (repeatA n z.cellList)) (times n x.cells.toList) := .cells _ _ (repeatA_ok (cellList_ok h hc) n)
  cases z <;> first | exact gen | skip
  · rename_i k v
    show RRel om r (zrInt n k v) _
    unfold zrInt
    split
    · cases h
      have : times n (Value.int k (.ofNat 0)).cells.toList = mkI k n 0 := by rw [mkI_zeros]; exact times_one n _
      rw [this]; exact .ints _ _ _
    · exact gen
  · rename_i k m d
    show RRel om r (zrSeg n k m d) _
    unfold zrSeg
    split
    · cases h
      have : times n (Value.agg (mkI k m 0).toArray).cells.toList = mkI k (n * m) 0 := by
        rw [mkI_zeros]; simp only [Value.cells, mkI_zeros]; exact times_replicate _ _ _
      rw [this]; exact .ints _ _ _
    · exact gen
theorem packGo_ok {k : IntKind} {l : List AVal} {d : Nat} (h : packGo k l = some d) {xs : List Value} (hc : CRel om r l xs) : xs = mkI k l.length d := by
  induction l generalizing d xs with
  | nil => cases hc; rfl
  | cons v l ih =>
    cases v <;> first | (simp [packGo] at h; done) | skip
    rename_i k' n
    simp only [packGo] at h
    split at h
    · rename_i hk
      subst hk
      split at h
      · rename_i d' u h1 h2
        obtain ⟨g1, g2⟩ := encO_ok h2
        rw [Option.some.injEq] at h
        rcases hc.inv with ⟨_, x, y, rfl, hv, t, _⟩ | ⟨_, _, _, _, e, _⟩
        · cases hv
          rw [List.length_cons, ← h]
          show _ = mkI k' (l.length + 1) (u + kp k' * d')
          rw [mkI_cons _ _ _ _ g1, g2, ← ih h1 t]
        · cases e
      · cases h
    · cases h
theorem pack_ok {l : List AVal} {xs : List Value} (h : CRel om r l xs) : RRel om r (pack (.agg l)).blk xs := by
  unfold pack
  split
  · rename_i k n l' e
    cases e
    split
    · rename_i d hd
      have := packGo_ok hd h
      rw [this]
      exact .ints _ _ _
    · exact .cells _ _ h
  · exact .cells _ _ h

/-! ### Blocks -/
theorem RRel.cell_ok {b : Blk} {xs : List Value} (h : RRel om r b xs) {off : Nat} (hb : b.cell off ≠ .bad) : ∃ x, xs[off]? = some x ∧ VRel om r (b.cell off) x := by
  cases h with
  | cells l _ h => exact lcell_ok h hb
  | ints k n d =>
    have hb' : icell k n d off ≠ .bad := hb
    obtain ⟨h1, h2⟩ := icell_ok hb'
    exact ⟨_, mkI_get k n d off h1, by show VRel om r (icell k n d off) _; rw [h2]; exact .int _ _⟩
theorem RRel.cut_ok {b : Blk} {xs : List Value} (h : RRel om r b xs) {off cnt : Nat} (hb : b.cut off cnt ≠ .bad) :
    ((xs.drop off).take cnt).length = cnt ∧ VRel om r (b.cut off cnt) (.agg ((xs.drop off).take cnt).toArray) := by
  cases h with
  | cells l _ h => exact lcut_ok h hb
  | ints k n d =>
    have e : (Blk.ints k n d).cut off cnt = Bool.rec (motive := fun _ => AVal) .bad (.aggi k cnt (dcut (kw k) d off cnt)) (Nat.ble (off + cnt) n) := rfl
    rw [e] at hb ⊢
    cases hl : Nat.ble (off + cnt) n with
    | false => rw [hl] at hb; exact absurd rfl hb
    | true =>
      rw [Nat.ble_eq] at hl
      rw [← mkI_dcut k n d off cnt hl]
      exact ⟨mkI_length _ _ _, .aggi _ _ _⟩
theorem RRel.putCell_ok {b : Blk} {xs : List Value} (h : RRel om r b xs) {off : Nat} {v : AVal} {x : Value} (hs : isScalar v = true) (hv : VRel om r v x) {f : Blk → VR} {av : AVal} {s : St}
    (hb : b.putCell off v f = .ok av s) : off < xs.length ∧ ∃ z, RRel om r z (xs.set off x) ∧ z ≠ .none ∧ f z = .ok av s := by
  cases h with
  | cells l _ h =>
    obtain ⟨h1, z, h2, h3⟩ := lputc_ok h hs hv hb
    exact ⟨h1, _, .cells _ _ h2, (by intro e; cases e), h3⟩
  | ints k n d =>
    obtain ⟨m, rfl, h2, e, h3, h4⟩ := iput_ok hb
    cases hv
    refine ⟨by rw [mkI_length]; exact h2, .ints k n e, ?_, (by intro e; cases e), h4⟩
    rw [← h3]; exact .ints _ _ _
theorem RRel.put_ok {b : Blk} {xs : List Value} (h : RRel om r b xs) {off : Nat} {v : AVal} {ys : List Value} (hv : VRel om r v (.agg ys.toArray)) {f : Blk → VR} {av : AVal} {s : St}
    (hb : b.put off v f = .ok av s) : off + ys.length ≤ xs.length ∧ (∃ z, RRel om r z (over xs off ys) ∧ z ≠ .none ∧ f z = .ok av s) ∧ ∀ y ∈ ys, y.oneCell' = true := by
  have hx : ∃ x, CRel om r x ys ∧ (v = .agg x ∨ ∃ k m y, v = .aggi k m y ∧ x = [.aggi k m y]) := by
    generalize hq : Value.agg ys.toArray = q at hv
    cases hv with
    | agg l x hc => have hq := congrArg Array.toList (Value.agg.inj hq); simp only at hq; subst hq; exact ⟨l, hc, .inl rfl⟩
    | aggi k m y => have hq := congrArg Array.toList (Value.agg.inj hq); simp only at hq; subst hq; exact ⟨_, .seg _ _ _ _ _ [] (List.append_nil _).symm .nil, .inr ⟨k, m, y, rfl, rfl⟩⟩
    | top => cases h with
      | cells => cases hb
      | ints => cases hb
    | bad => cases h with
      | cells => cases hb
      | ints => cases hb
    | opq i => cases h with
      | cells => cases hb
      | ints => cases hb
    | _ => cases hq
  obtain ⟨x, hx, hv'⟩ := hx
  refine (and_assoc.1 ⟨?_, hx.cell⟩)
  cases h with
  | cells l _ h =>
    have hb' : lput l off x (fun l => f (.cells l)) = .ok av s := by
      rcases hv' with rfl | ⟨k, m, y, rfl, rfl⟩
      · exact hb
      · exact hb
    obtain ⟨h1, z, h2, h3⟩ := lput_ok h hx hb'
    exact ⟨h1, _, .cells _ _ h2, (by intro e; cases e), h3⟩
  | ints k n d =>
    rcases hv' with rfl | ⟨k', m, y, rfl, rfl⟩
    · cases hb
    · have e : (Blk.ints k n d).put off (.aggi k' m y) f = Bool.rec (motive := fun _ => VR) (.fail 214) (f (.ints k n (dput (kw k) d off m (dfst (kw k) m y)))) (band (Nat.ble (Nat.add off m) n) (kbeq k k')) := rfl
      rw [e] at hb
      cases hc : band (Nat.ble (Nat.add off m) n) (kbeq k k') with
      | false => rw [hc] at hb; cases hb
      | true =>
        rw [hc] at hb
        rw [band_true, Nat.ble_eq] at hc
        obtain ⟨h1, h2⟩ := hc
        have ek := kbeq_eq h2
        subst ek
        rcases hx.inv with ⟨g1, _⟩ | ⟨k', m', y', zs, e, rfl, tx⟩
        · cases g1
        · cases e
          cases tx
          have h1' : off + m ≤ n := h1
          refine ⟨by rw [List.append_nil, mkI_length, mkI_length]; exact h1', _, ?_, (by intro e; cases e), hb⟩
          have : over (mkI k n d) off (mkI k m y ++ []) = mkI k n (dput (kw k) d off m (dfst (kw k) m y)) := by
            rw [mkI_dput k n d off m _ h1' (dfst_lt _ _ _), mkI_dfst, List.append_nil]
            simp only [over, mkI_length]
          rw [this]; exact .ints _ _ _
end
end Go.Cx

/-! ## Rows of cells in a world: loads and stores. -/
set_option linter.unusedVariables false
set_option linter.unusedSimpArgs false
namespace Go.Cx
noncomputable section
variable {om : Nat → Value} {r : Rho} {g : Id → Blk} {w w' : World} {P : Program} {s : St}

theorem isRow_cell {b : Blk} {off : Nat} (h : b.cell off ≠ .bad) : isRow b = true := by
  cases b <;> first | rfl | exact absurd rfl h
theorem isRow_cut {b : Blk} {off n : Nat} (h : b.cut off n ≠ .bad) : isRow b = true := by
  cases b <;> first | rfl | exact absurd rfl h
theorem isRow_putCell {b : Blk} {off : Nat} {v av : AVal} {f : Blk → VR} {s : St} (h : b.putCell off v f = .ok av s) : isRow b = true := by
  cases b <;> first | rfl | (cases h; done)
theorem isRow_put {b : Blk} {off : Nat} {v av : AVal} {f : Blk → VR} {s : St} (h : b.put off v f = .ok av s) : isRow b = true := by
  cases b <;> first | rfl | (cases h; done)

/-- A row stands in a world. -/
structure Row (om : Nat → Value) (r : Rho) (w : World) (b : Blk) (p : Pl) (xs pre post : List Value) (el : TypeId) (lo hi : Nat) : Prop where
  heap : w.heap[p.b]? = some (.cells (pre ++ xs ++ post).toArray el (lo, hi))
  rel : RRel om r b xs
  base : p.base = pre.length
  top : p.top = pre.length + xs.length + post.length
  fr : lo = hi ∨ p.top ≤ lo
theorem SimW.row (h : SimW om r g w) {i : Id} {p : Pl} (hp : r i = some p) (hr : isRow (g i) = true) : ∃ xs pre post el lo hi, Row om r w (g i) p xs pre post el lo hi := by
  have hn : g i ≠ .none := fun e => by rw [e] at hr; cases hr
  obtain ⟨q, o, h1, h2, h3⟩ := h.live i hn
  rw [hp] at h1
  cases h1
  generalize g i = b at *
  cases h3 with
  | row _ _ xs pre post el lo hi h hp ht hf => exact ⟨xs, pre, post, el, lo, hi, h2, h, hp, ht, hf⟩
  | _ => cases hr
theorem Row.cell {b : Blk} {p : Pl} {xs pre post : List Value} {el : TypeId} {lo hi : Nat} (h : Row om r w b p xs pre post el lo hi) (off : Nat) (ho : off < xs.length) :
    w.cell? ⟨p.b, p.base + off, none⟩ = xs[off]? := by
  simp only [World.cell?, h.heap]
  simp only [Option.isSome_none, Bool.false_eq_true, if_false, List.getElem?_toArray]
  rw [h.base, List.append_assoc, List.getElem?_append_right (by omega), Nat.add_sub_cancel_left, List.getElem?_append_left ho]
theorem add_ptr (b o n : Nat) : (⟨b, o, none⟩ : Addr).add n = ⟨b, o + n, none⟩ := by
  unfold Addr.add
  split
  · rename_i h; subst h; rfl
  · rfl
theorem Row.load {b : Blk} {p : Pl} {xs pre post : List Value} {el : TypeId} {lo hi : Nat} (h : Row om r w b p xs pre post el lo hi) {off : Nat} {x : Value} (hx : xs[off]? = some x) :
    (Go.load ⟨p.b, p.base + off, none⟩).run P w = .ok x w := by
  have ho : off < xs.length := (List.getElem?_eq_some_iff.1 hx).1
  rw [run_load, h.cell off ho, hx]
theorem Row.loadCells {b : Blk} {p : Pl} {xs pre post : List Value} {el : TypeId} {lo hi : Nat} (h : Row om r w b p xs pre post el lo hi) {off n : Nat} (hl : ((xs.drop off).take n).length = n) :
    (Go.loadCells ⟨p.b, p.base + off, none⟩ n).run P w = .ok ((xs.drop off).take n).toArray w := by
  have := run_loadCells_list (P := P) w ⟨p.b, p.base + off, none⟩ ((xs.drop off).take n) fun j v hv => by
    rw [add_ptr, Nat.add_assoc]
    have hj := (List.getElem?_eq_some_iff.1 hv).1
    rw [hl] at hj
    rw [List.getElem?_take, if_pos hj, List.getElem?_drop] at hv
    rw [h.cell (off + j) (List.getElem?_eq_some_iff.1 hv).1, hv]
  rw [hl] at this
  exact this

/-- A world with one block set. -/
def setB (w : World) (b : Nat) (o : Obj) : World := { w with heap := w.heap.setIfInBounds b o }
theorem setB_same {b : Nat} {o x : Obj} (h : w.heap[b]? = some x) : (setB w b o).heap[b]? = some o := by
  have hb : b < w.heap.size := by rcases Nat.lt_or_ge b w.heap.size with h' | h'; exact h'; rw [Array.getElem?_eq_none h'] at h; cases h
  simp [setB, hb]
theorem setB_ne {b c : Nat} {o : Obj} (h : c ≠ b) : (setB w b o).heap[c]? = w.heap[c]? := by
  simp only [setB]
  rw [Array.getElem?_setIfInBounds_ne (Ne.symm h)]
theorem setB_size {b : Nat} {o : Obj} : (setB w b o).heap.size = w.heap.size := by simp [setB]
theorem setB_setB {b : Nat} {o o' : Obj} : setB (setB w b o) b o' = setB w b o' := by simp [setB]
theorem setB_self {b : Nat} {o : Obj} (h : w.heap[b]? = some o) : setB w b o = w := by
  have : w.heap.setIfInBounds b o = w.heap := by
    apply Array.ext_getElem?
    intro i
    by_cases e : i = b
    · subst e
      have hb : i < w.heap.size := by rcases Nat.lt_or_ge i w.heap.size with h' | h'; exact h'; rw [Array.getElem?_eq_none h'] at h; cases h
      rw [h]; simp [hb]
    · rw [Array.getElem?_setIfInBounds_ne (Ne.symm e)]
  simp only [setB, this]
theorem setCell_setB {b o : Nat} {l : List Value} {el : TypeId} {fr : Nat × Nat} {v : Value} (h : w.heap[b]? = some (.cells l.toArray el fr)) :
    w.setCell ⟨b, o, none⟩ v = setB w b (.cells (l.set o v).toArray el fr) := by
  have : w.heap.modify b (fun | .cells c elem frozen => .cells (if (none : Option Nat).isSome then c else c.setIfInBounds o v) elem frozen | o => o) = w.heap.setIfInBounds b (.cells (l.set o v).toArray el fr) := by
    apply Array.ext_getElem?
    intro i
    rw [Array.getElem?_modify]
    by_cases e : b = i
    · subst e
      have hb : b < w.heap.size := by rcases Nat.lt_or_ge b w.heap.size with h' | h'; exact h'; rw [Array.getElem?_eq_none h'] at h; cases h
      rw [if_pos rfl, h]
      simp [hb]
    · rw [if_neg e, Array.getElem?_setIfInBounds_ne e]
  simp only [World.setCell, setB]
  congr 1
theorem run_store_row {b o : Nat} {l : List Value} {el : TypeId} {lo hi : Nat} {v : Value} (h : w.heap[b]? = some (.cells l.toArray el (lo, hi))) (ho : o < l.length) (hf : lo = hi ∨ l.length ≤ lo) (hv : v.oneCell' = true) :
    (Go.store ⟨b, o, none⟩ v).run P w = .ok () (setB w b (.cells (l.set o v).toArray el (lo, hi))) := by
  rw [run_store P w _ v _ hv]
  have hc : w.cell? ⟨b, o, none⟩ = some l[o] := by
    simp only [World.cell?, h]
    simp [ho]
  have hz : w.frozen? ⟨b, o, none⟩ = false := by
    simp only [World.frozen?, h]
    rcases hf with e | e
    · subst e; simp <;> omega
    · simp <;> omega
  rw [hc, hz]
  simp only [Bool.false_eq_true, if_false]
  rw [setCell_setB h]
theorem over_step {l : List Value} {k : Nat} {v : Value} {vs : List Value} (h : k + 1 + vs.length ≤ l.length) : over (l.set k v) (k + 1) vs = over l k (v :: vs) := by
  obtain ⟨a, c, d, rfl, ha⟩ : ∃ a c d, l = a ++ c :: d ∧ a.length = k := ⟨l.take k, l[k]'(by omega), l.drop (k + 1), by simp, by rw [List.length_take]; omega⟩
  subst ha
  rw [List.set_append_right _ _ (Nat.le_refl _), Nat.sub_self]
  simp only [List.set_cons_zero, over, List.length_cons]
  have e1 : (a ++ v :: d).take (a.length + 1) = a ++ [v] := by rw [List.take_length_add_append]; rfl
  have e2 : (a ++ v :: d).drop (a.length + 1 + vs.length) = d.drop vs.length := by rw [Nat.add_assoc, List.drop_length_add_append, Nat.add_comm 1, List.drop_succ_cons]
  have e3 : (a ++ c :: d).take a.length = a := List.take_left
  have e4 : (a ++ c :: d).drop (a.length + (vs.length + 1)) = d.drop vs.length := by rw [List.drop_length_add_append, List.drop_succ_cons]
  rw [e1, e2, e3, e4]
  simp
theorem run_storeCells_row {b : Nat} {el : TypeId} {lo hi : Nat} : ∀ (vs : List Value) (i o : Nat) (w : World) (l : List Value), w.heap[b]? = some (.cells l.toArray el (lo, hi)) → o + i + vs.length ≤ l.length → (lo = hi ∨ l.length ≤ lo) →
    (∀ v ∈ vs, v.oneCell' = true) → (Go.storeCells ⟨b, o, none⟩ vs i).run P w = .ok () (setB w b (.cells (over l (o + i) vs).toArray el (lo, hi)))
  | [], i, o, w, l, h, hl, hf, hv => by
    have : over l (o + i) [] = l := by simp [over]
    rw [this]
    simp only [Go.storeCells, Sem.run_pure]
    rw [setB_self h]
  | v :: vs, i, o, w, l, h, hl, hf, hv => by
    simp only [Go.storeCells, Sem.run_bind]
    rw [List.length_cons] at hl
    rw [add_ptr, run_store_row h (by omega) hf (hv v (by simp))]
    simp only [Result.andThen]
    rw [run_storeCells_row vs (i + 1) o _ (l.set (o + i) v) (setB_same h) (by rw [List.length_set]; omega) (by rw [List.length_set]; exact hf) (fun u hu => hv u (by simp [hu]))]
    rw [setB_setB]
    have e : o + (i + 1) = o + i + 1 := by omega
    rw [e, over_step (by omega)]

/-- A row behind a cell, or cells, were written. -/
theorem over_mid (pre xs post : List Value) (off : Nat) (ys : List Value) (h : off + ys.length ≤ xs.length) : over (pre ++ xs ++ post) (pre.length + off) ys = pre ++ over xs off ys ++ post := by
  simp only [over]
  rw [List.append_assoc pre, List.take_append, List.drop_append, List.take_of_length_le (by omega), List.drop_of_length_le (by omega)]
  have e1 : pre.length + off - pre.length = off := by omega
  have e2 : pre.length + off + ys.length - pre.length = off + ys.length := by omega
  rw [e1, e2, List.take_append_of_le_length (by omega), List.drop_append_of_le_length (by omega)]
  simp
theorem set_mid (pre xs post : List Value) (off : Nat) (y : Value) (h : off < xs.length) : (pre ++ xs ++ post).set (pre.length + off) y = pre ++ xs.set off y ++ post := by
  rw [List.append_assoc, List.set_append_right _ _ (by omega), Nat.add_sub_cancel_left, List.set_append_left _ _ h, List.append_assoc]

section
variable {b : Blk} {p : Pl} {xs pre pst : List Value} {el : TypeId} {lo hi : Nat}
theorem Row.len (h : Row om r w b p xs pre pst el lo hi) : (pre ++ xs ++ pst).length = p.top := by
  rw [h.top]; simp only [List.length_append]
/-- The world behind cells were written. -/
def Row.put (w : World) (p : Pl) (pre pst : List Value) (el : TypeId) (lo hi : Nat) (zs : List Value) : World := setB w p.b (.cells (pre ++ zs ++ pst).toArray el (lo, hi))
theorem Row.store (h : Row om r w b p xs pre pst el lo hi) {off : Nat} {x : Value} (ho : off < xs.length) (hx : x.oneCell' = true) :
    (Go.store ⟨p.b, p.base + off, none⟩ x).run P w = .ok () (Row.put w p pre pst el lo hi (xs.set off x)) := by
  have hl := h.len
  rw [run_store_row h.heap (by simp only [List.length_append]; rw [h.base]; omega) (by rw [hl]; exact h.fr) hx]
  rw [h.base, set_mid _ _ _ _ _ ho]
  rfl
theorem Row.storeCells (h : Row om r w b p xs pre pst el lo hi) {off : Nat} {ys : List Value} (ho : off + ys.length ≤ xs.length) (hx : ∀ y ∈ ys, y.oneCell' = true) :
    (Go.storeCells ⟨p.b, p.base + off, none⟩ ys).run P w = .ok () (Row.put w p pre pst el lo hi (over xs off ys)) := by
  have hl := h.len
  rw [run_storeCells_row ys 0 (p.base + off) w _ h.heap (by simp only [List.length_append]; rw [h.base]; omega) (by rw [hl]; exact h.fr) hx]
  rw [h.base, Nat.add_zero, over_mid _ _ _ _ _ ho]
  rfl
theorem Row.brel (h : Row om r w b p xs pre pst el lo hi) {z : Blk} {zs : List Value} (hz : RRel om r z zs) (hl : zs.length = xs.length) :
    BRel om r z p (.cells (pre ++ zs ++ pst).toArray el (lo, hi)) :=
  .row _ _ zs pre pst el lo hi hz h.base (by rw [h.top, hl]) h.fr
theorem Row.posted (h : Row om r w b p xs pre pst el lo hi) (sim : Sim om r s w) {i : Id} (hi' : r i = some p) (hro : s.ro ≤ i.num) (hl : s.at i ≠ .none) {z : Blk} {zs : List Value} (hz : RRel om r z zs) (hlen : zs.length = xs.length) :
    Post om r s w r ⟨Heap.set i z s.h, s.n, s.ro⟩ (Row.put w p pre pst el lo hi zs) :=
  Post.put sim hi' hro hl (.inr ⟨_, setB_same h.heap, h.brel hz hlen⟩) (fun c hc => setB_ne hc) setB_size rfl rfl rfl
end
end
end Go.Cx

/-! ## Operations that only compute: numbers, strings. -/
set_option linter.unusedVariables false
set_option linter.unusedSimpArgs false
namespace Go.Cx
noncomputable section
variable {om : Nat → Value} {r : Rho} {w w' : World} {P : Program} {s s' : St} {av : AVal}

theorem ifv_ok {b : Bool} {x : VR} {n : Nat} (h : ifv b x (.fail n) = .ok av s') : b = true ∧ x = .ok av s' := by
  cases b with
  | true => exact ⟨rfl, h⟩
  | false => cases h
theorem check_ok {v : AVal} {n : Nat} (h : VR.check v n s = .ok av s') : av = v ∧ s' = s ∧ v ≠ .bad := by
  cases v <;> first | (cases h; done) | (cases h; exact ⟨rfl, rfl, by intro e; cases e⟩)

/-! ### Numbers -/
theorem run_eqGuard_int (op : BinOp) (t : Nat) (x y : Operand) (k k' : IntKind) (a b : Int) : (eqGuard op t x y (.int k a) (.int k' b)).run P w = .ok () w := by
  cases op <;> simp [eqGuard]
theorem run_eqGuard_str (op : BinOp) (t : Nat) (x y : Operand) (a b : ByteArray) : (eqGuard op t x y (.string a) (.string b)).run P w = .ok () w := by
  cases op <;> simp [eqGuard]
theorem run_eqGuard_float (op : BinOp) (t : Nat) (x y : Operand) (k k' : FloatKind) (a b : Nat) : (eqGuard op t x y (.float k a) (.float k' b)).run P w = .ok () w := by
  cases op <;> simp [eqGuard]

theorem nat2_ok {a b : Int} {f : Nat → Nat → AVal} (h : nat2 a b f ≠ .bad) : ∃ m n : Nat, a = m ∧ b = n ∧ nat2 a b f = f m n := by
  cases a with
  | ofNat m =>
    cases b with
    | ofNat n => exact ⟨m, n, rfl, rfl, rfl⟩
    | negSucc n => exact absurd rfl h
  | negSucc m => exact absurd rfl h

theorem bits_and (k : IntKind) (m n : Nat) (hm : m < kp k) (hn : n < kp k) :
    (BitVec.ofInt k.bits (m : Int) &&& BitVec.ofInt k.bits (n : Int)).toNat = m &&& n := by
  rw [kp_eq, kw_bits] at hm hn
  rw [BitVec.toNat_and]
  simp [BitVec.toNat_ofInt, Int.emod_eq_of_lt, hm, hn, Int.ofNat_lt]
  rw [Nat.mod_eq_of_lt hm, Nat.mod_eq_of_lt hn]
theorem bits_or (k : IntKind) (m n : Nat) (hm : m < kp k) (hn : n < kp k) :
    (BitVec.ofInt k.bits (m : Int) ||| BitVec.ofInt k.bits (n : Int)).toNat = m ||| n := by
  rw [kp_eq, kw_bits] at hm hn
  rw [BitVec.toNat_or]
  simp [BitVec.toNat_ofInt, hm, hn]
  rw [Nat.mod_eq_of_lt hm, Nat.mod_eq_of_lt hn]
theorem bits_xor (k : IntKind) (m n : Nat) (hm : m < kp k) (hn : n < kp k) :
    (BitVec.ofInt k.bits (m : Int) ^^^ BitVec.ofInt k.bits (n : Int)).toNat = m ^^^ n := by
  rw [kp_eq, kw_bits] at hm hn
  rw [BitVec.toNat_xor]
  simp [BitVec.toNat_ofInt, hm, hn]
  rw [Nat.mod_eq_of_lt hm, Nat.mod_eq_of_lt hn]

theorem recB_ok {b : Bool} {x : AVal} (h : Bool.rec (motive := fun _ => AVal) .bad x b ≠ .bad) : b = true ∧ Bool.rec (motive := fun _ => AVal) .bad x b = x := by
  cases b with
  | true => exact ⟨rfl, rfl⟩
  | false => exact absurd rfl h
theorem recB_ok' {b : Bool} {x : AVal} (h : Bool.rec (motive := fun _ => AVal) x .bad b ≠ .bad) : b = false ∧ Bool.rec (motive := fun _ => AVal) x .bad b = x := by
  cases b with
  | false => exact ⟨rfl, rfl⟩
  | true => exact absurd rfl h
theorem bBits_ok {f : Nat → Nat → Nat} {k : IntKind} {a b : Int} (h : bBits f k a b ≠ .bad) :
    ∃ m n : Nat, a = m ∧ b = n ∧ m < kp k ∧ n < kp k ∧ bBits f k a b = .int k (k.wrap (f m n : Nat)) := by
  obtain ⟨m, n, rfl, rfl, e⟩ := nat2_ok h
  have h' := h
  unfold bBits at h'
  rw [show nat2 (m : Int) (n : Int) _ = _ from e] at h'
  obtain ⟨h1, h2⟩ := recB_ok h'
  rw [band_true, lt_true, lt_true] at h1
  refine ⟨m, n, rfl, rfl, h1.1, h1.2, ?_⟩
  show nat2 _ _ _ = _
  rw [show nat2 (m : Int) (n : Int) _ = _ from e, h2, wrapN_eq]

/-- An operation on two numbers of a kind, or a shift. -/
theorem binInt_ok (op : BinOp) (t : Nat) {k k' : IntKind} {a b : Int} (hk : Bool.rec (motive := fun _ => Bool) (isShift op) true (kbeq k k') = true) (hb : binInt op k a b ≠ .bad) :
    ∃ x, (∀ w, (binOp op t (.int k a) (.int k' b)).run P w = .ok x w) ∧ VRel om r (binInt op k a b) x := by
  by_cases hs : isShift op = true
  · cases op <;> first | (cases hs; done) | skip
    · have e : binInt .shl k a b = bShl k a b := rfl
      rw [e] at hb ⊢
      obtain ⟨m, n, rfl, rfl, e2⟩ := nat2_ok hb
      have e2' : bShl k (m : Int) (n : Int) = _ := e2
      rw [e2'] at hb ⊢
      obtain ⟨h1, h2⟩ := recB_ok hb
      rw [h2]
      rw [Nat.ble_eq, kw_bits] at h1
      refine ⟨.int k (k.wrap ((m : Int) * 2 ^ n)), fun w => ?_, ?_⟩
      · have : ¬ (n : Int) < 0 := by omega
        simp only [binOp, Op.shift, this, if_false]
        simp [Nat.min_eq_left h1]
      · rw [wrapN_eq]
        have : ((Nat.shiftLeft m n : Nat) : Int) = (m : Int) * 2 ^ n := by
          show ((m <<< n : Nat) : Int) = _
          rw [Nat.shiftLeft_eq]; simp
        rw [this]
        exact .int _ _
    · have e : binInt .shr k a b = bShr k a b := rfl
      rw [e] at hb ⊢
      obtain ⟨m, n, rfl, rfl, e2⟩ := nat2_ok hb
      have e2' : bShr k (m : Int) (n : Int) = _ := e2
      rw [e2'] at hb ⊢
      obtain ⟨h1, h2⟩ := recB_ok hb
      rw [h2]
      rw [Nat.ble_eq, kw_bits] at h1
      refine ⟨.int k ((m : Int).fdiv (2 ^ n)), fun w => ?_, ?_⟩
      · have : ¬ (n : Int) < 0 := by omega
        simp only [binOp, Op.shift, this, if_false]
        simp [Nat.min_eq_left h1]
      · have : (Int.ofNat (Nat.shiftRight m n)) = (m : Int).fdiv (2 ^ n) := by
          show ((m >>> n : Nat) : Int) = _
          rw [Nat.shiftRight_eq_div_pow, Int.fdiv_eq_ediv_of_nonneg _ (by exact Int.le_of_lt (Int.pow_pos (by decide)))]
          simp
        rw [this]
        exact .int _ _
  · have hs' : isShift op = false := by simpa using hs
    have hkk : kbeq k k' = true := by
      cases hq : kbeq k k' with
      | true => rfl
      | false => rw [hq, hs'] at hk; cases hk
    have ek := kbeq_eq hkk
    subst ek
    have hne : ¬ (k ≠ k) := fun h => h rfl
    cases op <;> first | (cases hs'; done) | skip
    · refine ⟨.int k (k.wrap (a + b)), fun w => by simp [binOp, Op.intArith], ?_⟩
      show VRel om r (.int k (wrap k (iadd a b))) _
      rw [wrap_eq, iadd_eq]; exact .int _ _
    · refine ⟨.int k (k.wrap (a - b)), fun w => by simp [binOp, Op.intArith], ?_⟩
      show VRel om r (.int k (wrap k (isub a b))) _
      rw [wrap_eq, isub_eq]; exact .int _ _
    · obtain ⟨m, n, rfl, rfl, e2⟩ := nat2_ok (show nat2 a b _ ≠ .bad from hb)
      refine ⟨.int k (k.wrap ((m : Int) * n)), fun w => by simp [binOp, Op.intArith], ?_⟩
      have e3 : binInt .mul k (m : Int) (n : Int) = .int k (wrapN k (Nat.mul m n)) := rfl
      rw [e3, wrapN_eq]
      have : ((Nat.mul m n : Nat) : Int) = (m : Int) * n := by show ((m * n : Nat) : Int) = _; simp
      rw [this]; exact .int _ _
    · have hb' : bQuo k a b ≠ .bad := hb
      obtain ⟨m, n, rfl, rfl, e2⟩ := nat2_ok (show nat2 a b _ ≠ .bad from hb')
      have e2' : bQuo k (m : Int) (n : Int) = _ := e2
      show ∃ x, _ ∧ VRel om r (bQuo k (m : Int) (n : Int)) x
      rw [e2'] at hb' ⊢
      obtain ⟨h1, h2⟩ := recB_ok' hb'
      rw [h2]
      have hn : (n : Int) ≠ 0 := by intro h0; have : n = 0 := by omega
                                    subst this; cases h1
      refine ⟨.int k (k.wrap ((m : Int).tdiv n)), fun w => by simp only [binOp, ne_eq, not_true_eq_false, if_false, Op.intDiv, hn, Sem.run_pure], ?_⟩
      rw [wrapN_eq]
      have : ((Nat.div m n : Nat) : Int) = (m : Int).tdiv n := rfl
      rw [this]; exact .int _ _
    · have hb' : bRem k a b ≠ .bad := hb
      obtain ⟨m, n, rfl, rfl, e2⟩ := nat2_ok (show nat2 a b _ ≠ .bad from hb')
      have e2' : bRem k (m : Int) (n : Int) = _ := e2
      show ∃ x, _ ∧ VRel om r (bRem k (m : Int) (n : Int)) x
      rw [e2'] at hb' ⊢
      obtain ⟨h1, h2⟩ := recB_ok' hb'
      rw [h2]
      have hn : (n : Int) ≠ 0 := by intro h0; have : n = 0 := by omega
                                    subst this; cases h1
      refine ⟨.int k ((m : Int).tmod n), fun w => by simp only [binOp, ne_eq, not_true_eq_false, if_false, Op.intDiv, hn, Sem.run_pure], ?_⟩
      exact .int _ _
    · obtain ⟨m, n, rfl, rfl, hm, hn, e⟩ := bBits_ok (show bBits Nat.land k a b ≠ .bad from hb)
      refine ⟨.int k (k.wrap ((m &&& n : Nat) : Int)), fun w => ?_, ?_⟩
      · simp only [binOp, Op.intBits, hne, if_false, bits_and k m n hm hn, Sem.run_pure, ne_eq, not_true_eq_false, if_false]
      · show VRel om r (bBits Nat.land k m n) _
        rw [e]; exact .int _ _
    · obtain ⟨m, n, rfl, rfl, hm, hn, e⟩ := bBits_ok (show bBits Nat.lor k a b ≠ .bad from hb)
      refine ⟨.int k (k.wrap ((m ||| n : Nat) : Int)), fun w => ?_, ?_⟩
      · simp only [binOp, Op.intBits, hne, if_false, bits_or k m n hm hn, Sem.run_pure, ne_eq, not_true_eq_false, if_false]
      · show VRel om r (bBits Nat.lor k m n) _
        rw [e]; exact .int _ _
    · obtain ⟨m, n, rfl, rfl, hm, hn, e⟩ := bBits_ok (show bBits Nat.xor k a b ≠ .bad from hb)
      refine ⟨.int k (k.wrap ((m ^^^ n : Nat) : Int)), fun w => ?_, ?_⟩
      · simp only [binOp, Op.intBits, hne, if_false, bits_xor k m n hm hn, Sem.run_pure, ne_eq, not_true_eq_false, if_false]
      · show VRel om r (bBits Nat.xor k m n) _
        rw [e]; exact .int _ _
    · exact absurd rfl hb
    · refine ⟨.bool (a == b), fun w => by simp [binOp, Op.intCmp], ?_⟩
      show VRel om r (.bool (ieq a b)) _
      rw [ieq_eq]; exact .bool _
    · refine ⟨.bool (a != b), fun w => by simp [binOp, Op.intCmp], ?_⟩
      show VRel om r (.bool (bnot (ieq a b))) _
      rw [ieq_eq, bnot_eq]; exact .bool _
    · refine ⟨.bool (a < b), fun w => by simp [binOp, Op.intCmp], ?_⟩
      show VRel om r (.bool (ilt a b)) _
      rw [ilt_eq]; exact .bool _
    · refine ⟨.bool (a ≤ b), fun w => by simp [binOp, Op.intCmp], ?_⟩
      show VRel om r (.bool (bnot (ilt b a))) _
      rw [ilt_eq, bnot_eq]
      have : (!decide (b < a)) = decide (a ≤ b) := by rw [← decide_not]; congr 1; simp
      rw [this]; exact .bool _
    · refine ⟨.bool (a > b), fun w => by simp [binOp, Op.intCmp], ?_⟩
      show VRel om r (.bool (ilt b a)) _
      rw [ilt_eq]; exact .bool _
    · refine ⟨.bool (a ≥ b), fun w => by simp [binOp, Op.intCmp], ?_⟩
      show VRel om r (.bool (bnot (ilt a b))) _
      rw [ilt_eq, bnot_eq]
      have : (!decide (a < b)) = decide (a ≥ b) := by rw [← decide_not]; congr 1; simp
      rw [this]; exact .bool _
end
end Go.Cx
