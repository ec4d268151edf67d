/-
  The abstract machine is sound: part 2.
-/
import Derived.Test.YthelepbkbjgjbaaGreatS1
import Derived.Laws.StructEq
import Derived.Laws.Slices
set_option linter.unusedVariables false
set_option linter.unusedSimpArgs false
/-! ## Operations that only compute: strings, floats, what is the same. -/
set_option linter.unusedVariables false
set_option linter.unusedSimpArgs false
namespace Go.Cx
noncomputable section
variable {om : Nat → Value} {r : Rho} {w w' : World} {P : Program} {s s' : St} {av : AVal}

/-! ### Bytes -/
theorem mkS_list (n d : Nat) : (mkS n d).data.toList = (digs 8 n d).map UInt8.ofNat := by simp [mkS]
theorem mkS_size (n d : Nat) : (mkS n d).size = n := by
  show (mkS n d).data.size = n
  simp [mkS, digs_length]
theorem mkS_ext {a b : ByteArray} (h : a.data.toList = b.data.toList) : a = b := by
  obtain ⟨⟨x⟩⟩ := a
  obtain ⟨⟨y⟩⟩ := b
  simp only at h
  rw [h]
theorem bytes_inj : ∀ {l m : List Nat}, (∀ u ∈ l, u < 256) → (∀ u ∈ m, u < 256) → l.map UInt8.ofNat = m.map UInt8.ofNat → l = m
  | [], [], _, _, _ => rfl
  | [], _ :: _, _, _, h => by cases h
  | _ :: _, [], _, _, h => by cases h
  | a :: l, b :: m, hl, hm, h => by
    simp only [List.map_cons, List.cons.injEq] at h
    have h1 := congrArg UInt8.toNat h.1
    simp only [UInt8.toNat_ofNat'] at h1
    have ha := hl a (by simp)
    have hb := hm b (by simp)
    have : a = b := by omega
    rw [this, bytes_inj (fun u hu => hl u (by simp [hu])) (fun u hu => hm u (by simp [hu])) h.2]
theorem digs8_lt (n d : Nat) : ∀ u ∈ digs 8 n d, u < 256 := fun u hu => digs_lt 8 n d u hu
theorem toList_data (b : ByteArray) : b.toList = b.data.toList := ByteArray.toList_eq b
theorem strEq_iff (n d m e : Nat) : strEq n d m e = true ↔ mkS n d = mkS m e := by
  unfold strEq
  rw [band_true]
  constructor
  · rintro ⟨h1, h2⟩
    have h1 := Nat.eq_of_beq_eq_true h1
    have h2 := Nat.eq_of_beq_eq_true h2
    subst h1
    apply mkS_ext
    rw [mkS_list, mkS_list, ← digs_mod, ← dfst_eq, h2, dfst_eq, digs_mod]
  · intro h
    have hs := congrArg ByteArray.size h
    rw [mkS_size, mkS_size] at hs
    subst hs
    have hl := congrArg (fun b => b.data.toList) h
    simp only [mkS_list] at hl
    have h1 := digs_inj 8 n d e (bytes_inj (digs8_lt _ _) (digs8_lt _ _) hl)
    have h2 : dfst 8 n d = dfst 8 n e := h1
    exact ⟨Nat.beq_refl n, by rw [h2]; exact Nat.beq_refl _⟩
theorem strEq_list (n d m e : Nat) : strEq n d m e = ((mkS n d).toList == (mkS m e).toList) := by
  rw [Bool.eq_iff_iff, strEq_iff, beq_iff_eq, toList_data, toList_data]
  exact ⟨fun h => by rw [h], mkS_ext⟩
theorem strEq_eq (n d m e : Nat) : strEq n d m e = (mkS n d == mkS m e) := by
  rw [beq_toListBytes, strEq_list]
theorem mkS_dcat (n d m e : Nat) : mkS (n + m) (dcat 8 n d e) = mkS n d ++ mkS m e := by
  apply mkS_ext
  rw [mkS_list, digs_dcat, List.map_append, ByteArray.data_append, Array.toList_append, mkS_list, mkS_list]
theorem mkS_dcut (n d l h : Nat) (h1 : l ≤ h) (h2 : h ≤ n) : mkS (h - l) (dcut 8 d l (h - l)) = (mkS n d).extract l h := by
  apply mkS_ext
  rw [mkS_list, digs_dcut 8 n d l (h - l) (by omega), ByteArray.data_extract, Array.toList_extract, mkS_list]
  simp only [List.extract_eq_take_drop, List.map_take, List.map_drop]
theorem mkS_get (n d i : Nat) (h : i < n) : (mkS n d)[i]? = some (UInt8.ofNat (dcut 8 d i 1)) ∧ dcut 8 d i 1 < 256 := by
  have hlt := dcut_lt 8 d i 1
  refine ⟨?_, hlt⟩
  have hs : i < (mkS n d).size := by rw [mkS_size]; exact h
  rw [getElem?_pos (mkS n d) i hs]
  congr 1
  have e1 : (mkS n d)[i] = (mkS n d).data.toList[i]'(by simpa using hs) := rfl
  rw [e1]
  have e2 : (digs 8 n d)[i]? = some (dcut 8 d i 1) := by
    have h1 := digs_dcut 8 n d i 1 (by omega)
    have h2 : ((List.drop i (digs 8 n d)).take 1)[0]? = (digs 8 n d)[i]? := by simp
    rw [← h2, ← h1]
    simp only [digs, List.getElem?_cons_zero]
    rw [Nat.mod_eq_of_lt (by simpa using hlt)]
  have e3 : (mkS n d).data.toList[i]? = some (UInt8.ofNat (dcut 8 d i 1)) := by
    rw [mkS_list, List.getElem?_map, e2]; rfl
  exact (List.getElem?_eq_some_iff.1 e3).2
theorem packBytes_eq (l : List UInt8) : (digs 8 l.length (packBytes l)).map UInt8.ofNat = l := by
  induction l with
  | nil => rfl
  | cons b l ih =>
    have e : packBytes (b :: l) = b.toNat + 256 * packBytes l := rfl
    have hb : b.toNat < 256 := b.toNat_lt
    rw [e]
    simp only [List.length_cons, digs, List.map_cons]
    have e1 : (b.toNat + 256 * packBytes l) % 2 ^ 8 = b.toNat := by omega
    have e2 : (b.toNat + 256 * packBytes l) / 2 ^ 8 = packBytes l := by omega
    rw [e1, e2, ih]
    simp
theorem mkS_pack (s : ByteArray) : mkS s.size (packBytes s.data.toList) = s := by
  apply mkS_ext
  have : s.size = s.data.toList.length := by show s.data.size = _; simp
  rw [mkS_list, this, packBytes_eq]
theorem sless_eq (f : Nat) : ∀ (n d m e : Nat), n + m < f → sless f n d m e = Op.bytesLess ((digs 8 n d).map UInt8.ofNat) ((digs 8 m e).map UInt8.ofNat) := by
  induction f with
  | zero => intro n d m e h; omega
  | succ f ih =>
    intro n d m e h
    unfold sless
    cases m with
    | zero => simp only [digs, List.map_nil, Nat.beq_refl, if_true]; cases n <;> simp [Op.bytesLess, digs]
    | succ m =>
      cases n with
      | zero => simp only [digs, List.map_nil, List.map_cons, Op.bytesLess]; rfl
      | succ n =>
        have i1 := ih n (d / 256) m (e / 256) (by omega)
        have hd : d % 256 < 256 := Nat.mod_lt _ (by decide)
        have he : e % 256 < 256 := Nat.mod_lt _ (by decide)
        simp only [digs, List.map_cons, Op.bytesLess]
        rw [show (2 : Nat) ^ 8 = 256 from rfl, ← i1]
        have z1 : Nat.beq (m + 1) 0 = false := rfl
        have z2 : Nat.beq (n + 1) 0 = false := rfl
        rw [z1, z2]
        simp only [Bool.false_eq_true, if_false, Nat.add_sub_cancel]
        have l1 : decide (UInt8.ofNat (d % 256) < UInt8.ofNat (e % 256)) = decide (d % 256 < e % 256) := by
          rw [decide_eq_decide, UInt8.lt_iff_toNat_lt]
          simp
        have l2 : (UInt8.ofNat (d % 256) == UInt8.ofNat (e % 256)) = Nat.beq (d % 256) (e % 256) := by
          rw [Bool.eq_iff_iff, beq_iff_eq, Nat.beq_eq]
          constructor
          · intro h
            have := congrArg UInt8.toNat h
            simpa using this
          · intro h; rw [h]
        rw [l1, l2]
        cases hl : lt (d % 256) (e % 256) with
        | true => rw [lt_true] at hl; simp [hl]
        | false =>
          rw [lt_false] at hl
          have : ¬ (d % 256 < e % 256) := by omega
          cases hq : Nat.beq (d % 256) (e % 256) with
          | true => simp [this]; rfl
          | false => simp [this]
theorem bor_eq (a b : Bool) : bor a b = (a || b) := by cases a <;> rfl

theorem stropOf_ok {op : BinOp} {n d m e : Nat} {t : Nat} (h : stropOf op n d m e s = .ok av s') :
    s' = s ∧ ∃ x, (∀ w, (binOp op t (.string (mkS n d)) (.string (mkS m e))).run P w = .ok x w) ∧ VRel om r av x := by
  have hl := sless_eq (n + m + 1) n d m e (by omega)
  have eq : ((mkS n d).toList == (mkS m e).toList) = strEq n d m e := (strEq_list n d m e).symm
  have ls : Op.bytesLess (mkS n d).toList (mkS m e).toList = sless (n + m + 1) n d m e := by rw [hl, toList_data, toList_data, mkS_list, mkS_list]
  cases op <;> simp only [stropOf] at h <;> first | (cases h; done) | skip
  · obtain ⟨h1, h2⟩ := ifv_ok h
    cases h2
    rw [Nat.ble_eq] at h1
    refine ⟨rfl, .string (mkS n d ++ mkS m e), fun w => ?_, ?_⟩
    · have h1' : n + m ≤ 9223372036854775807 := h1
      have hx : ¬ ((((mkS n d).size + (mkS m e).size : Nat) : Int) > IntKind.i64.max) := by
        rw [mkS_size, mkS_size]
        have : (IntKind.i64.max : Int) = 9223372036854775807 := by rfl
        rw [this]; omega
      simp only [binOp, Op.stringOp, hx, if_false, Sem.run_pure]
    · rw [← mkS_dcat]; exact .str _ _
  · cases h
    refine ⟨rfl, .bool (strEq n d m e), fun w => ?_, .bool _⟩
    simp only [binOp, Op.stringOp, Sem.run_pure, eq]
  · cases h
    refine ⟨rfl, .bool (!strEq n d m e), fun w => ?_, by rw [bnot_eq]; exact .bool _⟩
    simp only [binOp, Op.stringOp, Sem.run_pure, eq]
  · cases h
    refine ⟨rfl, .bool (sless (n + m + 1) n d m e), fun w => ?_, .bool _⟩
    simp only [binOp, Op.stringOp, Sem.run_pure, ls]
  · cases h
    refine ⟨rfl, .bool (sless (n + m + 1) n d m e || strEq n d m e), fun w => ?_, by rw [bor_eq]; exact .bool _⟩
    simp only [binOp, Op.stringOp, Sem.run_pure, ls, eq]
  · cases h
    refine ⟨rfl, .bool (!(sless (n + m + 1) n d m e || strEq n d m e)), fun w => ?_, by rw [bnot_eq, bor_eq]; exact .bool _⟩
    simp only [binOp, Op.stringOp, Sem.run_pure, ls, eq]
  · cases h
    refine ⟨rfl, .bool (!sless (n + m + 1) n d m e), fun w => ?_, by rw [bnot_eq]; exact .bool _⟩
    simp only [binOp, Op.stringOp, Sem.run_pure, ls]
end
end Go.Cx

/-! ## What is the same. -/
set_option linter.unusedVariables false
set_option linter.unusedSimpArgs false
namespace Go.Cx
noncomputable section
variable {om : Nat → Value} {r : Rho} {w w' : World} {P : Program} {s s' : St} {av : AVal}

/-- A type whose values are held against each other so. -/
def EK1.fits (P : Program) (t : Nat) : EK1 → Prop
  | .bool => P.underlying t = some .bool
  | .int => ∃ k, P.underlying t = some (.int k)
  | .str => P.underlying t = some .string
  | .ptr => ∃ e, P.underlying t = some (.pointer e)
  | .slice => ∃ e, P.underlying t = some (.slice e)
  | .map => ∃ k e, P.underlying t = some (.map k e)
  | .iface => ∃ m, P.underlying t = some (.interface m)

theorem aeq1_ok {k : EK1} {t : Nat} (hf : k.fits P t) {x y : AVal} {v u : Value} {b : Bool} (h : aeq1 k x y = some b) (hx : VRel om r x v) (hy : VRel om r y u) (d : Nat) (w : World) :
    (Op.equalIn (d + 1) t v u).run P w = .ok b w ∧ (∀ l, v ≠ .agg l) ∧ ¬ (v = .nilIface ∧ u = .nilIface) := by
  cases k
  · replace h : axBool x y = some b := h
    cases x <;> first | (cases h; done) | skip
    rename_i a
    replace h : aeBool y a = some b := h
    cases y <;> first | (cases h; done) | skip
    rename_i c
    cases hx; cases hy; cases h
    refine ⟨?_, (by intro l e; cases e), by rintro ⟨e, _⟩; cases e⟩
    rw [run_equalIn_bool w d t a c hf]
    cases a <;> cases c <;> rfl
  · replace h : axInt x y = some b := h
    cases x <;> first | (cases h; done) | skip
    rename_i k a
    replace h : aeInt y k a = some b := h
    cases y <;> first | (cases h; done) | skip
    rename_i k' c
    cases hx; cases hy
    replace h : Bool.rec (motive := fun _ => Option Bool) none (some (ieq a c)) (kbeq k k') = some b := h
    cases hk : kbeq k k' with
    | false => rw [hk] at h; cases h
    | true =>
      have := kbeq_eq hk
      subst this
      rw [hk] at h
      cases h
      obtain ⟨k0, hf⟩ := hf
      refine ⟨?_, (by intro l e; cases e), by rintro ⟨e, _⟩; cases e⟩
      rw [run_equalIn_int w d t k k0 a c hf, ieq_eq]
  · replace h : axStr x y = some b := h
    cases x <;> first | (cases h; done) | skip
    rename_i n d'
    replace h : aeStr y n d' = some b := h
    cases y <;> first | (cases h; done) | skip
    rename_i m e
    cases hx; cases hy; cases h
    refine ⟨?_, (by intro l e; cases e), by rintro ⟨e, _⟩; cases e⟩
    rw [run_equalIn_string w d t _ _ hf, ← strEq_list]
  · replace h : axPtr x y = some b := h
    obtain ⟨e, hf⟩ := hf
    cases x <;> first | (cases h; done) | skip
    all_goals cases y <;> first | (cases h; done) | skip
    all_goals
      cases hx; cases hy; cases h
      refine ⟨?_, (by intro l e; cases e), by rintro ⟨e, _⟩; cases e⟩
      simp [Op.equalIn, run_underlying hf]
  · replace h : axSlice x y = some b := h
    obtain ⟨e, hf⟩ := hf
    cases x <;> first | (cases h; done) | skip
    all_goals cases y <;> first | (cases h; done) | skip
    all_goals
      cases hx; cases hy; cases h
      refine ⟨?_, (by intro l e; cases e), by rintro ⟨e, _⟩; cases e⟩
      simp [Op.equalIn, run_underlying hf]
  · replace h : axMap x y = some b := h
    obtain ⟨k, e, hf⟩ := hf
    cases x <;> first | (cases h; done) | skip
    all_goals cases y <;> first | (cases h; done) | skip
    all_goals
      cases hx; cases hy; cases h
      refine ⟨?_, (by intro l e; cases e), by rintro ⟨e, _⟩; cases e⟩
      simp [Op.equalIn, run_underlying hf]
  · replace h : axIface x y = some b := h
    obtain ⟨e, hf⟩ := hf
    cases x <;> first | (cases h; done) | skip
    all_goals cases y <;> first | (cases h; done) | skip
    all_goals
      cases hx; cases hy; cases h
      refine ⟨?_, (by intro l e; cases e), by rintro ⟨e1, e2⟩; first | (cases e1; done) | (cases e2; done)⟩
      simp [Op.equalIn, run_underlying hf]
theorem aeq1_one {k : EK1} {x y : AVal} {b : Bool} (h : aeq1 k x y = some b) : oneC x = true ∧ oneC y = true := by
  cases k <;> cases x <;> first | (cases h; done) | skip
  all_goals cases y <;> first | (cases h; done) | exact ⟨rfl, rfl⟩

theorem ekOne_fits {t : Nat} {k : EK1} (h : ekOne P t = some k) : k.fits P t ∧ isAggA P t = false := by
  unfold ekOne at h
  unfold isAggA
  split at h <;> first | (cases h; done) | skip
  · rename_i e; cases h; exact ⟨e, by rw [e]⟩
  · rename_i k' e; cases h; exact ⟨⟨_, e⟩, by rw [e]⟩
  · rename_i e; cases h; exact ⟨e, by rw [e]⟩

theorem kn_ok {t : Nat} (h : kn P t = true) : ∃ i d, P.info? t = some i ∧ P.underlying t = some d ∧ sizeA P t = i.size ∧ bytesA P t = i.bytes := by
  unfold kn at h
  split at h
  · rename_i i d h1 h2
    exact ⟨i, d, h1, h2, by unfold sizeA; rw [h1], by unfold bytesA; rw [h1]⟩
  · cases h
theorem run_isAgg' {t : Nat} (h : kn P t = true) (w : World) : (isAgg t).run P w = .ok (isAggA P t) w := by
  obtain ⟨i, d, h1, h2, _⟩ := kn_ok h
  unfold isAgg isAggA
  rw [Sem.run_bind, run_underlying h2 w, h2]
  cases d <;> rfl
theorem run_sizeOf' {t : Nat} (h : kn P t = true) (w : World) : (sizeOf t).run P w = .ok (sizeA P t) w := by
  obtain ⟨i, d, h1, h2, h3, _⟩ := kn_ok h
  rw [h3]
  simp [sizeOf, typeInfo, h1]
theorem run_part_one {t off : Nat} {cs : Array Value} {v : Value} (h : kn P t = true) (ha : isAggA P t = false) (hv : cs[off]? = some v) (w : World) : (part t cs off).run P w = .ok v w := by
  unfold part
  rw [Sem.run_bind, run_isAgg' h w, ha]
  simp [hv]

theorem aeqList_fields {d : Nat} : ∀ (fs : List Field) (i : Nat) (ks : List EK1) (l m : List AVal) (xs ys : List Value) (pre pre' : List Value) (b : Bool), ekFields P fs i = some ks → aeqList ks l m = some b →
    CRel om r l xs → CRel om r m ys → pre.length = i → pre'.length = i → ∀ w, (Op.eqFields (d + 1) (pre ++ xs).toArray (pre' ++ ys).toArray fs).run P w = .ok b w
  | [], i, ks, l, m, xs, ys, pre, pre', b, hk, ha, hl, hm, h1, h2, w => by
    simp only [ekFields, Option.some.injEq] at hk
    subst hk
    cases l with
    | nil => cases m with
      | nil => cases ha; simp [Op.eqFields]
      | cons _ _ => cases ha
    | cons _ _ => cases ha
  | f :: fs, i, ks, l, m, xs, ys, pre, pre', b, hk, ha, hl, hm, h1, h2, w => by
    simp only [ekFields] at hk
    split at hk
    · rename_i hc
      simp only [Bool.and_eq_true, bne_iff_ne, ne_eq, beq_iff_eq] at hc
      obtain ⟨⟨hn, ho⟩, hkn⟩ := hc
      split at hk
      · rename_i k ks' e1 e2
        simp only [Option.some.injEq] at hk
        subst hk
        obtain ⟨hf, hagg⟩ := ekOne_fits e1
        cases l with
        | nil => cases ha
        | cons x l => cases m with
          | nil => cases ha
          | cons y m =>
            have one : oneC x = true ∧ oneC y = true := by
              simp only [aeqList] at ha
              split at ha
              · rename_i e; exact aeq1_one e
              · exact aeq1_one ha
            obtain ⟨v, xs', rfl, hv, hl', _⟩ := hl.inv1 one.1
            obtain ⟨u, ys', rfl, hu, hm', _⟩ := hm.inv1 one.2
            have p1 := fun w => run_part_one (P := P) (t := f.type) (off := f.offset) (cs := (pre ++ v :: xs').toArray) (v := v) hkn hagg (by rw [ho, ← h1]; simp) w
            have p2 := fun w => run_part_one (P := P) (t := f.type) (off := f.offset) (cs := (pre' ++ u :: ys').toArray) (v := u) hkn hagg (by rw [ho, ← h2]; simp) w
            simp only [aeqList] at ha
            have rec' := fun b hb w => aeqList_fields (d := d) fs (i + 1) ks' l m xs' ys' (pre ++ [v]) (pre' ++ [u]) b e2 hb hl' hm' (by simp [h1]) (by simp [h2]) w
            simp only [List.append_assoc, List.singleton_append] at rec'
            split at ha
            · rename_i e
              have e1 := aeq1_ok hf e hv hu d
              simp only [Op.eqFields, hn, ne_eq, not_false_eq_true, if_true, Sem.run_bind, p1, p2, (e1 _).1, Result.andThen_ok, Bool.not_true, Bool.false_eq_true, if_false]
              exact rec' b ha w
            · rename_i o hne
              cases b with
              | true => exact absurd ha hne
              | false =>
                have e1 := aeq1_ok hf ha hv hu d
                simp only [Op.eqFields, hn, ne_eq, not_false_eq_true, if_true, Sem.run_bind, p1, p2, (e1 _).1, Result.andThen_ok, Bool.not_false, if_true, Sem.run_pure]
      · cases hk
    · cases hk
theorem unpack_ok (k : IntKind) (n d : Nat) : CRel om r (unpack k n d) (mkI k n d) := by
  rw [unpack_eq]
  unfold mkI
  induction digs (kw k) n d with
  | nil => exact .nil
  | cons u l ih => exact .cons _ _ _ _ rfl (.int _ _) ih
theorem rowOf_ok {x : AVal} {l : List AVal} {v : Value} (h : rowOf x = some l) (hx : VRel om r x v) : ∃ xs : List Value, v = .agg xs.toArray ∧ CRel om r l xs := by
  unfold rowOf at h
  split at h
  · cases h; exact hx.agg_inv
  · cases h; cases hx; exact ⟨_, rfl, unpack_ok _ _ _⟩
  · cases h
/-- An array's cells held against each other. -/
def eqCells (d t n : Nat) (xs ys : Array Value) : List Nat → Sem Bool
  | [] => pure true
  | i :: l => do
    let a ← part t xs (i * n)
    let b ← part t ys (i * n)
    let q ← Op.equalIn d t a b
    if (!q) = true then pure false else eqCells d t n xs ys l
theorem run_equalIn_array (d t len e : Nat) (xs ys : Array Value) (ht : P.underlying t = some (.array len e)) (hk : kn P e = true) (w : World) :
    (Op.equalIn (d + 1) t (.agg xs) (.agg ys)).run P w = (eqCells d e (sizeA P e) xs ys (List.range' 0 len)).run P w := by
  simp only [Op.equalIn, Sem.run_bind, run_underlying ht, Result.andThen_ok, run_sizeOf' hk]
  rw [Std.Legacy.Range.forIn_eq_forIn_range']
  simp only [Std.Legacy.Range.size, Nat.sub_zero, Nat.add_sub_cancel, Nat.div_one]
  generalize List.range' 0 len 1 = fs
  generalize sizeA P e = n
  clear ht hk
  induction fs generalizing w with
  | nil => simp [eqCells]
  | cons f fs ih =>
    simp only [List.forIn_cons, eqCells, Sem.run_bind, Sem.run_ite]
    generalize (part e xs (f * n)).run P w = r1
    cases r1 with
    | ok a w1 =>
      simp only [Result.andThen_ok]
      generalize (part e ys (f * n)).run P w1 = r2
      cases r2 with
      | ok b w2 =>
        simp only [Result.andThen_ok]
        generalize (Op.equalIn d e a b).run P w2 = r3
        cases r3 with
        | ok r w3 =>
          cases r
          · simp only [Result.andThen_ok, Bool.not_false, if_true, Sem.run_pure]
          · simp only [Result.andThen_ok, Bool.not_true, Bool.false_eq_true, if_false, Sem.run_pure]
            exact ih w3
        | halt x w3 => simp [Result.andThen]
      | halt x w2 => simp [Result.andThen]
    | halt x w1 => simp [Result.andThen]
theorem aeqList_array {d e : Nat} {k : EK1} (hkn : kn P e = true) (hsz : sizeA P e = 1) (hk1 : ekOne P e = some k) : ∀ (n i : Nat) (l m : List AVal) (xs ys : List Value) (pre pre' : List Value) (b : Bool), aeqList (List.replicate n k) l m = some b →
    CRel om r l xs → CRel om r m ys → pre.length = i → pre'.length = i → ∀ w, (eqCells (d + 1) e 1 (pre ++ xs).toArray (pre' ++ ys).toArray (List.range' i n)).run P w = .ok b w
  | 0, i, l, m, xs, ys, pre, pre', b, ha, hl, hm, h1, h2, w => by
    cases l with
    | nil => cases m with
      | nil => cases ha; simp [eqCells]
      | cons _ _ => cases ha
    | cons _ _ => cases ha
  | n + 1, i, l, m, xs, ys, pre, pre', b, ha, hl, hm, h1, h2, w => by
    obtain ⟨hf, hagg⟩ := ekOne_fits hk1
    rw [List.replicate_succ] at ha
    cases l with
    | nil => cases ha
    | cons x l => cases m with
      | nil => cases ha
      | cons y m =>
        have one : oneC x = true ∧ oneC y = true := by
          simp only [aeqList] at ha
          split at ha
          · rename_i e; exact aeq1_one e
          · exact aeq1_one ha
        obtain ⟨v, xs', rfl, hv, hl', _⟩ := hl.inv1 one.1
        obtain ⟨u, ys', rfl, hu, hm', _⟩ := hm.inv1 one.2
        have p1 := fun w => run_part_one (P := P) (t := e) (off := i) (cs := (pre ++ v :: xs').toArray) (v := v) hkn hagg (by rw [← h1]; simp) w
        have p2 := fun w => run_part_one (P := P) (t := e) (off := i) (cs := (pre' ++ u :: ys').toArray) (v := u) hkn hagg (by rw [← h2]; simp) w
        simp only [aeqList] at ha
        have rec' := fun b hb w => aeqList_array (d := d) hkn hsz hk1 n (i + 1) l m xs' ys' (pre ++ [v]) (pre' ++ [u]) b hb hl' hm' (by simp [h1]) (by simp [h2]) w
        simp only [List.append_assoc, List.singleton_append] at rec'
        simp only [List.range'_succ, eqCells, Nat.mul_one, Sem.run_bind, p1, p2, Result.andThen_ok]
        split at ha
        · rename_i e
          have e1 := aeq1_ok hf e hv hu d
          simp only [(e1 _).1, Result.andThen_ok, Bool.not_true, Bool.false_eq_true, if_false]
          exact rec' b ha w
        · rename_i o hne
          cases b with
          | true => exact absurd ha hne
          | false =>
            have e1 := aeq1_ok hf ha hv hu d
            simp only [(e1 _).1, Result.andThen_ok, Bool.not_false, if_true, Sem.run_pure]

/-- Values of a type held against each other. -/
theorem aeq_ok {t : Nat} {x y : AVal} {v u : Value} {b : Bool} (h : aeq (ekOf P t) x y = some b) (hx : VRel om r x v) (hy : VRel om r y u) (d : Nat) (w : World) :
    (Op.equalIn (d + 2) t v u).run P w = .ok b w ∧ (∀ op xo yo, (eqGuard op t xo yo v u).run P w = .ok () w) := by
  have one : ∀ {k : EK1}, k.fits P t → aeq1 k x y = some b → (Op.equalIn (d + 2) t v u).run P w = .ok b w ∧ (∀ op xo yo, (eqGuard op t xo yo v u).run P w = .ok () w) := fun hf h => by
    obtain ⟨h1, h2, h3⟩ := aeq1_ok hf h hx hy (d + 1) w
    refine ⟨h1, fun op xo yo => ?_⟩
    unfold eqGuard
    cases op <;> simp only [Sem.run_pure, Sem.run_bind, Sem.run_ite] <;> first | rfl | skip
    all_goals
      simp
      split
      · exact absurd ⟨rfl, rfl⟩ h3
      · exact absurd rfl (h2 _)
      · rfl
  unfold ekOf at h
  split at h
  · rename_i e; exact one (k := .bool) e h
  · rename_i k e; exact one (k := .int) ⟨_, e⟩ h
  · rename_i e; exact one (k := .str) e h
  · rename_i k e; exact one (k := .ptr) ⟨_, e⟩ h
  · rename_i k e; exact one (k := .slice) ⟨_, e⟩ h
  · rename_i k e' e; exact one (k := .map) ⟨_, _, e⟩ h
  · rename_i k e; exact one (k := .iface) ⟨_, e⟩ h
  · rename_i fs ht
    split at h
    · rename_i hc
      simp only [Bool.and_eq_true, Bool.not_eq_true'] at hc
      split at h
      · rename_i ks hks
        have h' : aeqRow ks x y = some b := h
        unfold aeqRow at h'
        split at h'
        · rename_i l m e1 e2
          obtain ⟨xs, rfl, hl⟩ := rowOf_ok e1 hx
          obtain ⟨ys, rfl, hm⟩ := rowOf_ok e2 hy
          have hfo : P.fieldsOf t = fs := by unfold Program.fieldsOf; rw [ht]
          refine ⟨?_, fun op xo yo => run_eqGuard_agg w op t xo yo _ _ hc.2⟩
          rw [run_equalIn_struct w (d + 1) t _ _ (by rw [hfo]; exact ht) hc.1, hfo]
          exact aeqList_fields fs.toList 0 ks l m xs ys [] [] b hks h' hl hm rfl rfl w
        · cases h'
      · cases h
    · cases h
  · rename_i n e ht
    split at h
    · rename_i hc
      simp only [Bool.and_eq_true, Bool.not_eq_true', Nat.beq_eq] at hc
      obtain ⟨⟨hg, hkn⟩, hsz⟩ := hc
      split at h
      · rename_i k hk
        have h' : aeqRow (List.replicate n k) x y = some b := h
        unfold aeqRow at h'
        split at h'
        · rename_i l m e1 e2
          obtain ⟨xs, rfl, hl⟩ := rowOf_ok e1 hx
          obtain ⟨ys, rfl, hm⟩ := rowOf_ok e2 hy
          refine ⟨?_, fun op xo yo => run_eqGuard_agg w op t xo yo _ _ hg⟩
          rw [run_equalIn_array (d + 1) t n e _ _ ht hkn, hsz]
          exact aeqList_array hkn hsz hk n 0 l m xs ys [] [] b h' hl hm rfl rfl w
        · cases h'
      · cases h
    · cases h
  · cases h
end
end Go.Cx

/-! ## Operations that only compute: all. -/
set_option linter.unusedVariables false
set_option linter.unusedSimpArgs false
namespace Go.Cx
noncomputable section
variable {om : Nat → Value} {r : Rho} {w w' : World} {P : Program} {s s' : St} {av : AVal}

/-! ### Bounds -/
/-- A bound that may be left out. -/
inductive ORel (om : Nat → Value) (r : Rho) : Option AVal → Option Value → Prop
  | none : ORel om r none none
  | some (v : AVal) (x : Value) (h : VRel om r v x) : ORel om r (some v) (some x)
theorem bndV_ok {v : AVal} {x : Value} {y : Nat} {k : Nat → VR} (hx : VRel om r v x) (h : bndV v y k = .ok av s') : ∃ (q : IntKind) (n : Nat), x = .int q n ∧ n ≤ y ∧ k n = .ok av s' := by
  cases v <;> first | (cases h; done) | skip
  rename_i q i
  cases hx
  cases i with
  | negSucc m => cases h
  | ofNat n =>
    have h' : Bool.rec (motive := fun _ => VR) (.fail 56) (k n) (Nat.ble n y) = .ok av s' := h
    cases hb : Nat.ble n y with
    | false => rw [hb] at h'; cases h'
    | true => rw [hb] at h'; rw [Nat.ble_eq] at hb; exact ⟨q, n, rfl, hb, h'⟩
theorem run_bound {q : IntKind} {n y : Nat} (code : BoundsCode) (h : n ≤ y) (w : World) : (Instr.sliceBound (.int q n) y code).run P w = .ok n w := by
  rw [run_sliceBound w q n y code (by omega) (by omega)]; rfl
theorem bnd_none {dflt y : Nat} {k : Nat → VR} : bnd none dflt y k = k dflt := rfl
theorem bnd_some {v : AVal} {dflt y : Nat} {k : Nat → VR} : bnd (some v) dflt y k = bndV v y k := rfl
/-- The bounds of a slice expression; c2: its real capacity, c: what is known of it. -/
theorem bounds_ok {lo hi mx : Option AVal} {lv hv mv : Option Value} (hl : ORel om r lo lv) (hh : ORel om r hi hv) (hm : ORel om r mx mv) (hmh : mx = none ∨ hi ≠ none) {len c : Nat} (hlen : len ≤ c)
    {k : Nat → Nat → Nat → VR} (h : bnd mx c c (fun m => bnd hi len m fun h => bnd lo 0 h fun l => k m h l) = .ok av s') (isS : Bool) :
    ∃ l h m, k m h l = .ok av s' ∧ l ≤ h ∧ h ≤ m ∧ m ≤ c ∧ ∀ w, (Instr.sliceBounds isS len c lv hv mv).run P w = .ok (l, h, m) w := by
  cases hm with
  | none =>
    rw [bnd_none] at h
    cases hh with
    | none =>
      rw [bnd_none] at h
      cases hl with
      | none => exact ⟨0, len, c, h, by omega, hlen, Nat.le_refl _, fun w => by simp [Instr.sliceBounds]⟩
      | some v x hx =>
        obtain ⟨q, n, rfl, hn, hk⟩ := bndV_ok hx h
        exact ⟨n, len, c, hk, hn, hlen, Nat.le_refl _, fun w => by simp [Instr.sliceBounds, run_bound _ hn]⟩
    | some v2 x2 hx2 =>
      obtain ⟨q2, n2, rfl, hn2, h⟩ := bndV_ok hx2 h
      cases hl with
      | none => exact ⟨0, n2, c, h, by omega, hn2, Nat.le_refl _, fun w => by simp [Instr.sliceBounds, run_bound _ hn2]⟩
      | some v x hx =>
        obtain ⟨q, n, rfl, hn, hk⟩ := bndV_ok hx h
        exact ⟨n, n2, c, hk, hn, hn2, Nat.le_refl _, fun w => by simp [Instr.sliceBounds, run_bound _ hn, run_bound _ hn2]⟩
  | some v3 x3 hx3 =>
    obtain ⟨q3, n3, rfl, hn3, h⟩ := bndV_ok hx3 h
    cases hh with
    | none => rcases hmh with e | e; cases e; exact absurd rfl e
    | some v2 x2 hx2 =>
      obtain ⟨q2, n2, rfl, hn2, h⟩ := bndV_ok hx2 h
      cases hl with
      | none => exact ⟨0, n2, n3, h, by omega, hn2, hn3, fun w => by simp [Instr.sliceBounds, run_bound _ hn3, run_bound _ hn2]⟩
      | some v x hx =>
        obtain ⟨q, n, rfl, hn, hk⟩ := bndV_ok hx h
        exact ⟨n, n2, n3, hk, hn, hn2, hn3, fun w => by simp [Instr.sliceBounds, run_bound _ hn, run_bound _ hn2, run_bound _ hn3]⟩
/-- The same, where the real capacity is not known. -/
theorem bounds_open {lo hi mx : Option AVal} {lv hv mv : Option Value} (hl : ORel om r lo lv) (hh : ORel om r hi hv) (hm : ORel om r mx mv) {len c c2 : Nat} (hlen : len ≤ c) (hc : c ≤ c2)
    {k : Nat → Nat → VR} (hmn : mx = none) (h : bnd hi len len (fun h => bnd lo 0 h fun l => k h l) = .ok av s') (isS : Bool) :
    ∃ l h, k h l = .ok av s' ∧ l ≤ h ∧ h ≤ len ∧ ∀ w, (Instr.sliceBounds isS len c2 lv hv mv).run P w = .ok (l, h, c2) w := by
  subst hmn
  cases hm
  cases hh with
  | none =>
    rw [bnd_none] at h
    cases hl with
    | none => exact ⟨0, len, h, by omega, Nat.le_refl _, fun w => by simp [Instr.sliceBounds]⟩
    | some v x hx =>
      obtain ⟨q, n, rfl, hn, hk⟩ := bndV_ok hx h
      exact ⟨n, len, hk, hn, Nat.le_refl _, fun w => by simp [Instr.sliceBounds, run_bound _ hn]⟩
  | some v2 x2 hx2 =>
    obtain ⟨q2, n2, rfl, hn2, h⟩ := bndV_ok hx2 h
    have hn2' : n2 ≤ c2 := by omega
    cases hl with
    | none => exact ⟨0, n2, h, by omega, hn2, fun w => by simp [Instr.sliceBounds, run_bound _ hn2']⟩
    | some v x hx =>
      obtain ⟨q, n, rfl, hn, hk⟩ := bndV_ok hx h
      exact ⟨n, n2, hk, hn, hn2, fun w => by simp [Instr.sliceBounds, run_bound _ hn, run_bound _ hn2']⟩
theorem bounds_open3 {lo hi : Option AVal} {lv hv : Option Value} {mx : AVal} {mv : Value} (hl : ORel om r lo lv) (hh : ORel om r hi hv) (hm : VRel om r mx mv) (hhn : hi ≠ none) {len c c2 : Nat} (hc : c ≤ c2)
    {k : Nat → Nat → Nat → VR} (h : bnd (some mx) 0 c (fun m => bnd hi len m fun h => bnd lo 0 h fun l => k m h l) = .ok av s') (isS : Bool) :
    ∃ l h m, k m h l = .ok av s' ∧ l ≤ h ∧ h ≤ m ∧ m ≤ c ∧ ∀ w, (Instr.sliceBounds isS len c2 lv hv (some mv)).run P w = .ok (l, h, m) w := by
  obtain ⟨q3, n3, rfl, hn3, h⟩ := bndV_ok hm h
  have hn3' : n3 ≤ c2 := by omega
  cases hh with
  | none => exact absurd rfl hhn
  | some v2 x2 hx2 =>
    obtain ⟨q2, n2, rfl, hn2, h⟩ := bndV_ok hx2 h
    cases hl with
    | none => exact ⟨0, n2, n3, h, by omega, hn2, hn3, fun w => by simp [Instr.sliceBounds, run_bound _ hn3', run_bound _ hn2]⟩
    | some v x hx =>
      obtain ⟨q, n, rfl, hn, hk⟩ := bndV_ok hx h
      exact ⟨n, n2, n3, hk, hn, hn2, hn3, fun w => by simp [Instr.sliceBounds, run_bound _ hn, run_bound _ hn2, run_bound _ hn3']⟩

/-- Where a slice begins. -/
theorem slOff_rel {i : Id} {p : Pl} (hp : r i = some p) {m l off esz : Nat} (h : Nat) (hlm : h - l ≤ m - l) :
    VRel om r (.slice i (slOff m l off esz) (h - l) (m - l)) (.slice (if m = l then some ⟨p.b, p.base + off, none⟩ else (some (⟨p.b, p.base + off, none⟩ : Addr)).map (·.add (l * esz))) (h - l) (m - l)) := by
  unfold slOff
  cases hb : Nat.beq m l with
  | true =>
    have := Nat.eq_of_beq_eq_true hb
    rw [if_pos this]
    exact .slice _ _ _ _ p hp hlm
  | false =>
    have : m ≠ l := fun e => by rw [e, Nat.beq_refl] at hb; cases hb
    rw [if_neg this]
    simp only [Option.map_some, add_ptr]
    have := VRel.slice (om := om) (rho := r) i (off + l * esz) (h - l) (m - l) p hp hlm
    rw [← Nat.add_assoc] at this
    exact this

theorem xSlSl_ok {t e : Nat} (ht : P.underlying t = some (.slice e)) (hk : kn P e = true) {x : AVal} {v : Value} (hx : VRel om r x v) {lo hi mx : Option AVal} {lv hv mv : Option Value}
    (hl : ORel om r lo lv) (hh : ORel om r hi hv) (hm : ORel om r mx mv) (hmh : mx = none ∨ hi ≠ none) (h : xSlSl x (sizeA P e) lo hi mx s = .ok av s') :
    s' = s ∧ ∃ y, (∀ w, (Instr.sliceAt t v lv hv mv).run P w = .ok y w) ∧ VRel om r av y := by
  have hs : ∀ w, (sizeOf e).run P w = .ok (sizeA P e) w := run_sizeOf' hk
  cases x <;> first | (cases h; done) | skip
  · -- nils
    cases hx
    have h' : bnd mx 0 0 (fun m => bnd hi 0 m fun hh => bnd lo 0 hh fun _ => .ok .nils s) = .ok av s' := by
      have h0 : bnd mx 0 0 (fun m => bnd hi 0 0 fun hh => bnd lo 0 hh fun _ => .ok .nils s) = .ok av s' := h
      cases hm with
      | none => exact h0
      | some v3 x3 hx3 =>
        obtain ⟨q3, n3, rfl, hn3, h1⟩ := bndV_ok hx3 h0
        cases hn3
        cases v3 <;> first | (cases h0; done) | skip
        cases hx3
        exact h0
    obtain ⟨l, h2, m, hk', h3, h4, h5, hb⟩ := bounds_ok (P := P) (k := fun _ _ _ => .ok .nils s) hl hh hm hmh (Nat.le_refl 0) h' true
    cases hk'
    have e1 : m = 0 := by omega
    have e2 : h2 = 0 := by omega
    have e3 : l = 0 := by omega
    subst e1 e2 e3
    refine ⟨rfl, .slice none 0 0, fun w => ?_, .nils⟩
    simp [Instr.sliceAt, Instr.slice, run_underlying ht, hb, hs]
  · rename_i i off len cap
    cases hx with | slice _ _ _ _ p hp hlc =>
    obtain ⟨l, h2, m, hk', h3, h4, h5, hb⟩ := bounds_ok (P := P) hl hh hm hmh hlc h true
    cases hk'
    refine ⟨rfl, _, fun w => ?_, slOff_rel hp h2 (by omega)⟩
    simp only [Instr.sliceAt, Instr.slice, Sem.run_bind, run_underlying ht, hb, hs, Result.andThen_ok, Sem.run_pure]
  · rename_i i off len low ez
    cases hx with | slicu _ _ _ _ _ p o cap hp h1 h2 h3 h4 =>
    obtain ⟨hz, h⟩ := ifv_ok h
    have hz := Nat.eq_of_beq_eq_true hz
    have opn : slOpen (sizeA P e) i off len low lo hi mx s = .ok av s' → s' = s ∧ ∃ y, (∀ w, (Instr.sliceAt t (.slice (some ⟨p.b, o, none⟩) len cap) lv hv mv).run P w = .ok y w) ∧ VRel om r av y := fun h => by
      cases hm with
      | none =>
        obtain ⟨l, hq, hk', g3, g4, hb⟩ := bounds_open (P := P) hl hh .none h1 h2 rfl h true
        cases hk'
        refine ⟨rfl, .slice (if cap = l then some ⟨p.b, o, none⟩ else (some (⟨p.b, o, none⟩ : Addr)).map (·.add (l * sizeA P e))) (hq - l) (cap - l), fun w => by simp only [Instr.sliceAt, Instr.slice, Sem.run_bind, run_underlying ht, hb, hs, Result.andThen_ok, Sem.run_pure], ?_⟩
        by_cases hcl : cap = l
        · rw [if_pos hcl]
          refine .slicu i _ _ _ _ p o (cap - l) hp (by show hq - l ≤ low - l; omega) (by show low - l ≤ cap - l; omega) ?_ ?_
          · have : (cap - l) * sizeA P e = 0 := by rw [hcl, Nat.sub_self, Nat.zero_mul]
            omega
          · left; show low - l = 0; omega
        · rw [if_neg hcl]
          simp only [Option.map_some, add_ptr]
          refine .slicu i _ _ _ _ p _ (cap - l) hp (by show hq - l ≤ low - l; omega) (by show low - l ≤ cap - l; omega) ?_ ?_
          · have : l * sizeA P e + (cap - l) * sizeA P e = cap * sizeA P e := by rw [← Nat.add_mul]; congr 1; omega
            rw [← hz] at h3
            omega
          · rcases Nat.eq_zero_or_pos (low - l) with h0 | h0
            · exact .inl h0
            · right
              have : o = p.base + off := h4.resolve_left (by omega)
              show o + l * sizeA P e = p.base + (off + l * sizeA P e)
              omega
      | some v3 x3 hx3 =>
        obtain ⟨hlow, h⟩ := ifv_ok h
        rw [lt_true] at hlow
        have ho : o = p.base + off := h4.resolve_left (by omega)
        have hin : hi ≠ none := by rcases hmh with e | e; cases e; exact e
        obtain ⟨l, hq, m, hk', g3, g4, g5, hb⟩ := bounds_open3 (P := P) hl hh hx3 hin h2 h true
        cases hk'
        refine ⟨rfl, .slice (if m = l then some ⟨p.b, o, none⟩ else (some (⟨p.b, o, none⟩ : Addr)).map (·.add (l * sizeA P e))) (hq - l) (m - l), fun w => by simp only [Instr.sliceAt, Instr.slice, Sem.run_bind, run_underlying ht, hb, hs, Result.andThen_ok, Sem.run_pure], ?_⟩
        rw [ho]
        exact slOff_rel hp hq (by omega)
    cases hb : Nat.beq len 0 with
    | false => rw [hb] at h; exact opn h
    | true =>
      rw [hb] at h
      have h0 := Nat.eq_of_beq_eq_true hb
      subst h0
      have h' : slOpen0 (sizeA P e) i off low lo hi mx s = .ok av s' := h
      cases mx with
      | some v => exact opn h'
      | none =>
        have h'' : bnd hi 0 0 (fun h => bnd lo 0 h fun _ => .ok (.slicu i off 0 low (sizeA P e)) s) = .ok av s' := h'
        obtain ⟨l, hq, hk', g3, g4, hb⟩ := bounds_open (P := P) (k := fun _ _ => .ok (.slicu i off 0 low (sizeA P e)) s) hl hh hm h1 h2 rfl h'' true
        cases hk'
        have e2 : hq = 0 := by omega
        have e3 : l = 0 := by omega
        subst e2 e3
        refine ⟨rfl, .slice (if cap = 0 then some ⟨p.b, o, none⟩ else (some (⟨p.b, o, none⟩ : Addr)).map (·.add (0 * sizeA P e))) (0 - 0) (cap - 0), fun w => by simp only [Instr.sliceAt, Instr.slice, Sem.run_bind, run_underlying ht, hb, hs, Result.andThen_ok, Sem.run_pure], ?_⟩
        have : (if cap = 0 then some ⟨p.b, o, none⟩ else (some (⟨p.b, o, none⟩ : Addr)).map (·.add (0 * sizeA P e))) = some ⟨p.b, o, none⟩ := by
          split
          · rfl
          · simp [Addr.add]
        rw [this]
        rw [← hz] at h3
        exact .slicu i _ _ _ _ p o cap hp h1 h2 h3 h4
theorem xSlArr_ok {t e n : Nat} (ht : P.underlying t = some (.array n e)) (hk : kn P e = true) {x : AVal} {v : Value} (hx : VRel om r x v) {lo hi mx : Option AVal} {lv hv mv : Option Value}
    (hl : ORel om r lo lv) (hh : ORel om r hi hv) (hm : ORel om r mx mv) (hmh : mx = none ∨ hi ≠ none) (h : xSlArr x n (sizeA P e) lo hi mx s = .ok av s') :
    s' = s ∧ ∃ y, (∀ w, (Instr.sliceAt t v lv hv mv).run P w = .ok y w) ∧ VRel om r av y := by
  have hs : ∀ w, (sizeOf e).run P w = .ok (sizeA P e) w := run_sizeOf' hk
  cases x <;> first | (cases h; done) | skip
  rename_i i off
  cases hx with | ptr _ _ p hp =>
  obtain ⟨l, h2, m, hk', h3, h4, h5, hb⟩ := bounds_ok (P := P) hl hh hm hmh (Nat.le_refl n) h false
  cases hk'
  refine ⟨rfl, .slice (some (if m = l then ⟨p.b, p.base + off, none⟩ else (⟨p.b, p.base + off, none⟩ : Addr).add (l * sizeA P e))) (h2 - l) (m - l), fun w => by simp only [Instr.sliceAt, Instr.sureAddr, Sem.run_bind, run_underlying ht, hb, hs, Result.andThen_ok, Sem.run_pure], ?_⟩
  have := slOff_rel (om := om) (esz := sizeA P e) (off := off) hp (m := m) (l := l) h2 (by omega)
  have e1 : (if m = l then some ⟨p.b, p.base + off, none⟩ else (some (⟨p.b, p.base + off, none⟩ : Addr)).map (·.add (l * sizeA P e))) = some (if m = l then ⟨p.b, p.base + off, none⟩ else (⟨p.b, p.base + off, none⟩ : Addr).add (l * sizeA P e)) := by
    split <;> rfl
  rw [e1] at this
  exact this
theorem xSlStr_ok {t : Nat} (ht : P.underlying t = some .string) {x : AVal} {v : Value} (hx : VRel om r x v) {lo hi : Option AVal} {lv hv : Option Value}
    (hl : ORel om r lo lv) (hh : ORel om r hi hv) (h : xSlStr x lo hi s = .ok av s') :
    s' = s ∧ ∃ y, (∀ w, (Instr.sliceAt t v lv hv none).run P w = .ok y w) ∧ VRel om r av y := by
  cases x <;> first | (cases h; done) | skip
  rename_i n d
  cases hx
  obtain ⟨l, h2, hk', h3, h4, hb⟩ := bounds_open (P := P) (mx := none) hl hh .none (Nat.le_refl n) (Nat.le_refl n) rfl h false
  cases hk'
  refine ⟨rfl, .string ((mkS n d).extract l h2), fun w => by simp [Instr.sliceAt, Instr.slice, run_underlying ht, mkS_size, hb], ?_⟩
  rw [← mkS_dcut n d l h2 h3 h4]
  exact .str _ _
end
end Go.Cx

/-! ## Noughts of types, constants, the parts of what is built. -/
set_option linter.unusedVariables false
set_option linter.unusedSimpArgs false
namespace Go.Cx
noncomputable section
variable {om : Nat → Value} {r : Rho} {w w' : World} {P : Program} {s s' : St} {av : AVal}

/-! ### Constants -/
mutual
theorem ofValue_ok : (v : Value) → VRel om r (ofValue v) v
  | .bool b => .bool b
  | .int k n => .int k n
  | .float k n => .float k n
  | .string s => by
    have := VRel.str (om := om) (rho := r) s.size (packBytes s.data.toList)
    rw [mkS_pack] at this
    exact this
  | .pointer none => .nilp
  | .pointer (some a) => .bad _
  | .slice none 0 0 => .nils
  | .slice none 0 (_ + 1) => .bad _
  | .slice none (_ + 1) _ => .bad _
  | .slice (some a) _ _ => .bad _
  | .map none => .nilm
  | .map (some _) => .bad _
  | .nilFunc => .nilf
  | .nilIface => .nili
  | .func fn ⟨[]⟩ ⟨[]⟩ => .func fn [] [] [] [] .nil .nil
  | .func fn ⟨_ :: _⟩ _ => .bad _
  | .func fn ⟨[]⟩ ⟨_ :: _⟩ => .bad _
  | .agg ⟨l⟩ => by
    show VRel om r (if (ofValues l).all isScalar then .agg (ofValues l) else .bad) _
    split
    · rename_i h
      exact .agg _ l (ofValues_cells l h)
    · exact .bad _
  | .tuple ⟨l⟩ => .tup _ l (ofValues_ok l)
  | .complex _ _ _ => .bad _
  | .chan _ => .bad _
  | .iface _ _ => .bad _
theorem ofValues_ok : (l : List Value) → LRel om r (ofValues l) l
  | [] => .nil
  | v :: l => .cons _ _ _ _ (ofValue_ok v) (ofValues_ok l)
theorem ofValues_cells : (l : List Value) → (ofValues l).all isScalar = true → CRel om r (ofValues l) l
  | [], _ => .nil
  | v :: l, h => by
    have h' : (ofValue v :: ofValues l).all isScalar = true := h
    rw [List.all_cons, Bool.and_eq_true] at h'
    exact .cons _ _ _ _ h'.1 (ofValue_ok v) (ofValues_cells l h'.2)
end

/-! ### Noughts -/
/-- A row of single cells. -/
def Flat (om : Nat → Value) (r : Rho) (l : List AVal) (xs : List Value) : Prop := CRel om r l xs ∧ ∀ v ∈ l, isScalar v = true
theorem Flat.split {l : List AVal} {xs : List Value} (h : Flat om r l xs) (n : Nat) : ∃ a b, xs = a ++ b ∧ Flat om r (l.take n) a ∧ Flat om r (l.drop n) b := by
  obtain ⟨h, h2⟩ := h
  induction l generalizing xs n with
  | nil => cases h; exact ⟨[], [], rfl, by simpa using ⟨.nil, by simp⟩, by simpa using ⟨.nil, by simp⟩⟩
  | cons v l ih =>
    cases n with
    | zero => exact ⟨[], xs, rfl, ⟨.nil, by simp⟩, ⟨h, h2⟩⟩
    | succ n =>
      obtain ⟨x, y, rfl, hv, t, mk⟩ := h.inv1 (oneC_of_scalar (h2 v (by simp)))
      obtain ⟨a, b, rfl, ha, hb⟩ := ih n t (fun u hu => h2 u (by simp [hu]))
      refine ⟨x :: a, b, rfl, ⟨mk _ _ ha.1, ?_⟩, hb⟩
      intro u hu
      rw [List.take_succ_cons, List.mem_cons] at hu
      rcases hu with rfl | hu
      · exact h2 _ (by simp)
      · exact ha.2 u hu
theorem packFirst_ok {l : List AVal} {xs : List Value} (h : Flat om r l xs) (n : Nat) : ∃ a b, xs = a ++ b ∧ CRel om r (packFirst n l).1 a ∧ Flat om r (packFirst n l).2 b := by
  obtain ⟨a, b, e, ha, hb⟩ := h.split n
  refine ⟨a, b, e, ?_, hb⟩
  unfold packFirst
  have hp := pack_ok ha.1
  simp only
  split
  · rename_i k m d e2
    rw [e2] at hp
    have hp' : RRel om r (.ints k m d) a := hp
    cases hp'
    exact .seg _ _ _ _ _ [] (List.append_nil _).symm .nil
  · exact ha.1
mutual
theorem segBy_ok : (f t : Nat) → (l : List AVal) → (xs : List Value) → Flat om r l xs → ∃ a b, xs = a ++ b ∧ CRel om r (segBy P f t l).1 a ∧ Flat om r (segBy P f t l).2 b
  | 0, t, l, xs, h => ⟨[], xs, rfl, .nil, h⟩
  | f + 1, t, l, xs, h => by
    unfold segBy
    split
    · exact segFields_ok f _ l xs h
    · split
      · exact packFirst_ok h _
      · exact segTimes_ok f _ _ l xs h
    · obtain ⟨a, b, e, ha, hb⟩ := h.split 1
      exact ⟨a, b, e, ha.1, hb⟩
theorem segFields_ok : (f : Nat) → (fs : List Field) → (l : List AVal) → (xs : List Value) → Flat om r l xs → ∃ a b, xs = a ++ b ∧ CRel om r (segFields P f fs l).1 a ∧ Flat om r (segFields P f fs l).2 b
  | 0, fs, l, xs, h => ⟨[], xs, rfl, .nil, h⟩
  | f + 1, [], l, xs, h => ⟨[], xs, rfl, .nil, h⟩
  | f + 1, x :: fs, l, xs, h => by
    obtain ⟨a, b, rfl, ha, hb⟩ := segBy_ok f x.type l xs h
    obtain ⟨a', b', rfl, ha', hb'⟩ := segFields_ok f fs _ b hb
    exact ⟨a ++ a', b', by rw [List.append_assoc], ha.append ha', hb'⟩
theorem segTimes_ok : (f n e : Nat) → (l : List AVal) → (xs : List Value) → Flat om r l xs → ∃ a b, xs = a ++ b ∧ CRel om r (segTimes P f n e l).1 a ∧ Flat om r (segTimes P f n e l).2 b
  | 0, n, e, l, xs, h => ⟨[], xs, rfl, .nil, h⟩
  | f + 1, 0, e, l, xs, h => ⟨[], xs, rfl, .nil, h⟩
  | f + 1, n + 1, e, l, xs, h => by
    obtain ⟨a, b, rfl, ha, hb⟩ := segBy_ok f e l xs h
    obtain ⟨a', b', rfl, ha', hb'⟩ := segTimes_ok f n e _ b hb
    exact ⟨a ++ a', b', by rw [List.append_assoc], ha.append ha', hb'⟩
end
/-- A value whose cells can stand in a row. -/
def Celly (v : AVal) : Prop := isScalar v = true ∨ (∃ l, v = .agg l) ∨ ∃ k n d, v = .aggi k n d
theorem aggOf_celly (l : List AVal) : Celly (aggOf l) := by
  unfold aggOf
  split
  · exact .inr (.inr ⟨_, _, _, rfl⟩)
  · exact .inr (.inl ⟨_, rfl⟩)
theorem ofValue_agg {v : Value} {l : List AVal} (h : ofValue v = .agg l) : ∃ xs, v = .agg ⟨xs⟩ ∧ Flat om r l xs := by
  have hr := ofValue_ok (om := om) (r := r) v
  rw [h] at hr
  obtain ⟨xs, rfl, hc⟩ := hr.agg_inv
  refine ⟨xs, rfl, hc, ?_⟩
  have e : (if (ofValues xs).all isScalar then AVal.agg (ofValues xs) else .bad) = .agg l := h
  split at e
  · rename_i ha
    cases e
    exact List.all_eq_true.1 ha
  · cases e
/-- The nought that is known is the nought of the type. -/
theorem zeroA_ok {t : Nat} (h : zeroA P t ≠ .bad) : ∃ i v, P.info? t = some i ∧ i.zero = some v ∧ (∀ om r, VRel om r (zeroA P t) v) ∧ Celly (zeroA P t) := by
  unfold zeroA at h ⊢
  split at h
  · rename_i i hi
    split at h
    · rename_i v hv
      refine ⟨i, v, hi, hv, ?_⟩
      unfold zeroOf at h ⊢
      split at h
      · rename_i l hl
        refine ⟨fun om r => ?_, aggOf_celly _⟩
        obtain ⟨xs, rfl, hf⟩ := ofValue_agg (om := om) (r := r) hl
        obtain ⟨a, b, rfl, ha, hb⟩ := segBy_ok (P := P) 100 t l xs hf
        exact aggOf_ok (ha.append hb.1)
      · rename_i hn
        split at h
        · rename_i hs
          rw [if_pos hs]
          exact ⟨fun om r => ofValue_ok v, .inl hs⟩
        · exact absurd rfl h
    · exact absurd rfl h
  · exact absurd rfl h
theorem run_zero {t : Nat} {i : TypeInfo} {v : Value} (h : P.info? t = some i) (hz : i.zero = some v) (w : World) : (zeroValue t).run P w = .ok v w := by
  simp [zeroValue, typeInfo, h, hz]
theorem zCells_ok {t : Nat} {l : List AVal} (h : zCells P t = some l) : ∃ i v, P.info? t = some i ∧ i.zero = some v ∧ l = (zeroA P t).cellList ∧ (∀ om r, VRel om r (zeroA P t) v) ∧ Celly (zeroA P t) ∧ v.cells.size = i.size ∧ sizeA P t = i.size := by
  unfold zCells at h
  split at h
  · cases h
  · rename_i _ i hi hz
    split at h
    · rename_i hl
      cases h
      obtain ⟨i', v, h1, h2, h3, h4⟩ := zeroA_ok (P := P) (t := t) hz
      rw [hi] at h1
      cases h1
      refine ⟨i, v, hi, h2, rfl, h3, h4, ?_, by unfold sizeA; rw [hi]⟩
      have hc := cellList_ok (h3 (fun _ => default) (fun _ => none)) h4
      have := lwide_ok hc
      have hl := Nat.eq_of_beq_eq_true hl
      rw [this] at hl
      simpa using hl
    · cases h
  · cases h

/-! ### What is built -/
theorem fold_over (ys : List Value) : ∀ (k off : Nat) (cs : List Value), off + k + ys.length ≤ cs.length →
    (ys.zipIdx k).foldl (fun cs (c, j) => Array.setIfInBounds cs (off + j) c) cs.toArray = (over cs (off + k) ys).toArray := by
  induction ys with
  | nil => intro k off cs h; simp [over]
  | cons y ys ih =>
    intro k off cs h
    rw [List.length_cons] at h
    rw [List.zipIdx_cons, List.foldl_cons]
    have e : Array.setIfInBounds cs.toArray (off + k) y = (cs.set (off + k) y).toArray := by simp
    show List.foldl _ (cs.toArray.setIfInBounds (off + k) y) _ = _
    rw [e, ih (k + 1) off (cs.set (off + k) y) (by rw [List.length_set]; omega)]
    rw [← Nat.add_assoc, over_step (by omega)]
/-- The parts of a thing that is built. -/
inductive PRel (om : Nat → Value) (r : Rho) (place : Nat → Option (Nat × Nat)) : List ((Nat × Nat) × AVal) → List (Nat × Value) → Prop
  | nil : PRel om r place [] []
  | no (l : List ((Nat × Nat) × AVal)) (q : Nat × Value) (m : List (Nat × Value)) (t : PRel om r place l m) : PRel om r place (((0, 0), .bad) :: l) (q :: m)
  | cons (pl : Nat × Nat) (v : AVal) (l : List ((Nat × Nat) × AVal)) (i : Nat) (x : Value) (m : List (Nat × Value)) (hp : place i = some pl) (hv : VRel om r v x) (t : PRel om r place l m) : PRel om r place ((pl, v) :: l) ((i, x) :: m)
theorem fillParts_ok {place : Nat → Option (Nat × Nat)} {ps : List ((Nat × Nat) × AVal)} {qs : List (Nat × Value)} (h : PRel om r place ps qs) {z : List AVal} {zs : List Value} (hz : CRel om r z zs)
    {f : List AVal → VR} (hf : fillParts ps z f = .ok av s') : ∃ z' zs', CRel om r z' zs' ∧ Instr.fill place zs.toArray qs = some zs'.toArray ∧ zs'.length = zs.length ∧ f z' = .ok av s' := by
  induction h generalizing z zs f with
  | nil => exact ⟨z, zs, hz, rfl, rfl, hf⟩
  | no l q m t ih => cases hf
  | cons pl v l i x m hp hv t ih =>
    obtain ⟨off, size⟩ := pl
    have e : fillParts (((off, size), v) :: l) z f = Bool.rec (motive := fun _ => VR) (ifv (band (isAggV v) (Nat.beq (lwide v.cellList) size)) (lput z off v.cellList fun z => fillParts l z f) (.fail 19)) (ifv (Nat.beq size 1) (lputc z off v fun z => fillParts l z f) (.fail 16)) (isScalar v) := rfl
    rw [e] at hf
    have fin : ∀ (ys : List Value), x.cells.toList = ys → ys.length = size → off + ys.length ≤ zs.length → ∀ {z1}, CRel om r z1 (over zs off ys) → fillParts l z1 f = .ok av s' →
        ∃ z' zs', CRel om r z' zs' ∧ Instr.fill place zs.toArray ((i, x) :: m) = some zs'.toArray ∧ zs'.length = zs.length ∧ f z' = .ok av s' := by
      intro ys hy hs ho z1 h1 h2
      obtain ⟨z', zs', g1, g2, g3, g4⟩ := ih h1 h2
      refine ⟨z', zs', g1, ?_, by rw [g3, over_length ho], g4⟩
      rw [← g2]
      have hsz : x.cells.size = size := by rw [← hs, ← hy]; simp
      simp only [Instr.fill, hp]
      have hc : ¬ ((decide (x.cells.size ≠ size) || decide (off + x.cells.size > zs.toArray.size)) = true) := by
        simp only [Bool.or_eq_true, decide_eq_true_eq, List.size_toArray]
        rw [hsz]; omega
      rw [if_neg (by simpa using hc)]
      congr 1
      have := fold_over ys 0 off zs (by omega)
      rw [Nat.add_zero, ← hy] at this
      rw [← hy, ← this, ← Array.foldl_toList, Array.toList_zipIdx]
    cases hs : isScalar v with
    | true =>
      rw [hs] at hf
      obtain ⟨h1, hf⟩ := ifv_ok hf
      have h1 := Nat.eq_of_beq_eq_true h1
      obtain ⟨h2, z1, h3, h4⟩ := lputc_ok hz hs hv hf
      have hx := hv.cell hs
      have e1 : x.cells.toList = [x] := by cases x <;> first | rfl | exact absurd hx (by intro h; cases h)
      refine fin [x] e1 (by simp [h1]) (by simp; omega) (z1 := z1) ?_ h4
      have : over zs off [x] = zs.set off x := by
        rw [List.set_eq_take_append_cons_drop, if_pos h2]
        simp [over]
      rw [this]; exact h3
    | false =>
      rw [hs] at hf
      obtain ⟨h1, hf⟩ := ifv_ok hf
      rw [band_true] at h1
      have hc : Celly v := by
        have h1 := h1.1
        unfold isAggV at h1
        split at h1
        · exact .inr (.inl ⟨_, rfl⟩)
        · exact .inr (.inr ⟨_, _, _, rfl⟩)
        · cases h1
      have hcl := cellList_ok hv hc
      obtain ⟨h2, z1, h3, h4⟩ := lput_ok hz hcl hf
      have h5 := Nat.eq_of_beq_eq_true h1.2
      rw [lwide_ok hcl] at h5
      exact fin _ rfl h5 h2 h3 h4

/-- Rows of noughts. -/
theorem range_times (l : List Value) (n : Nat) : (List.range (n * l.length)).map (fun i => l[i % l.length]!) = times n l := by
  induction n with
  | zero => simp [times]
  | succ n ih =>
    rw [Nat.succ_mul, Nat.add_comm, List.range_add, List.map_append, List.map_map]
    have e1 : (List.range l.length).map (fun i => l[i % l.length]!) = l := by
      apply List.ext_getElem
      · simp
      · intro i h1 h2
        simp only [List.getElem_map, List.getElem_range]
        rw [Nat.mod_eq_of_lt h2]
        simp [h2]
    have e2 : ((fun i => l[i % l.length]!) ∘ fun i => l.length + i) = fun i => l[i % l.length]! := by
      funext i
      simp
    rw [e1, e2, ih]
    rfl
theorem zeroCells_eq (z : Array Value) (n : Nat) : Builtin.zeroCells z n = (times n z.toList).toArray := by
  have := range_times z.toList n
  rw [← this]
  unfold Builtin.zeroCells
  apply Array.ext'
  simp
  intro a ha
  rw [getElem!_def]
  cases z[a % z.size]? <;> rfl
theorem range_zero (z : Array Value) (n : Nat) (sz : Nat) (h : z.size = sz) : (Array.range (n * sz)).map (fun i => z[i % z.size]!) = (times n z.toList).toArray := by
  subst h
  exact zeroCells_eq z n
end
end Go.Cx

/-! ## Operations that only compute, as the program runs them. -/
set_option linter.unusedVariables false
set_option linter.unusedSimpArgs false
namespace Go.Cx
noncomputable section
variable {om : Nat → Value} {r : Rho} {w w' : World} {P : Program} {s s' : St} {av : AVal}

theorem run_val {m : Sem Value} {x : Value} (h : m.run P w = .ok x w') : (do pure (Next.value (← m)) : Sem Next).run P w = .ok (.value x) w' := by
  simp [Sem.run_bind, h]
theorem run_unit {m : Sem Unit} (h : m.run P w = .ok () w') : (do m; pure Next.skip : Sem Next).run P w = .ok .skip w' := by
  simp [Sem.run_bind, h]

section
variable {c : Operand → AOpd} {l : List AVal} {e : Env} {rv : Operand → Value}
theorem evs_ok (H : ∀ x, VRel om r (ev (c x) l e) (rv x)) : ∀ (xs : List Operand), LRel om r (evs (xs.map c) l e) (xs.map rv)
  | [] => .nil
  | x :: xs => .cons _ _ _ _ (H x) (evs_ok H xs)
theorem evO_ok (H : ∀ x, VRel om r (ev (c x) l e) (rv x)) : ∀ (x : Option Operand), ORel om r (evO (x.map c) l e) (x.map rv)
  | none => .none
  | some x => .some _ _ (H x)
theorem evO_none {x : Option Operand} : evO (x.map c) l e = none ↔ x = none := by
  cases x with
  | none => simp [evO]
  | some x => constructor <;> intro h <;> cases h
end

theorem LRel.get {l : List AVal} {xs : List Value} (h : LRel om r l xs) {k : Nat} (hb : lnth l k ≠ .bad) : ∃ x, xs[k]? = some x ∧ VRel om r (lnth l k) x := by
  induction l generalizing xs k with
  | nil => exact absurd rfl hb
  | cons v l ih =>
    cases h with | cons _ x _ y hv t =>
    cases k with
    | zero => exact ⟨x, rfl, hv⟩
    | succ k => exact ih t (k := k) hb

/-- The value of an index. -/
theorem ixV_ok {i : AVal} {x : Value} {b : Id} {off len esz n : Nat} (hx : VRel om r i x) (h : ixV i b off len esz n s = .ok av s') :
    ∃ (q : IntKind) (j : Nat), x = .int q j ∧ j < len ∧ av = .ptr b (off + j * esz) ∧ s' = s := by
  cases i <;> first | (cases h; done) | skip
  rename_i q z
  cases hx
  cases z with
  | negSucc m => cases h
  | ofNat j =>
    have h' : Bool.rec (motive := fun _ => VR) (.fail n) (.ok (.ptr b (off + j * esz)) s) (lt j len) = .ok av s' := h
    cases hl : lt j len with
    | false => rw [hl] at h'; cases h'
    | true => rw [hl] at h'; rw [lt_true] at hl; cases h'; exact ⟨q, j, rfl, hl, rfl, rfl⟩

theorem minGo_ok {big : Bool} {k : IntKind} : ∀ {l : List AVal} {xs : List Value} {a : Int}, LRel om r l xs → minGo big k a l s = .ok av s' →
    s' = s ∧ ∃ x, (∀ w, ((xs.foldlM (if big then Builtin.max2 else Builtin.min2) (.int k a) : Sem Value)).run P w = .ok x w) ∧ VRel om r av x
  | [], xs, a, hl, h => by
    cases hl
    cases h
    exact ⟨rfl, _, fun w => by simp, .int _ _⟩
  | v :: l, xs, a, hl, h => by
    cases hl with | cons _ x _ y hv t =>
    cases v <;> first | (cases h; done) | skip
    rename_i q b
    cases hv
    obtain ⟨h1, x, h2, h3⟩ := minGo_ok t h
    refine ⟨h1, x, fun w => ?_, h3⟩
    rw [← h2 w]
    rw [List.foldlM_cons]
    cases big
    · simp only [Bool.false_eq_true, if_false, Builtin.min2, Sem.run_bind, Sem.run_pure, Result.andThen_ok]
      congr 3
      cases hc : ilt b a with
      | true => rw [ilt_eq, decide_eq_true_eq] at hc; rw [if_pos hc]
      | false => rw [ilt_eq, decide_eq_false_iff_not] at hc; rw [if_neg hc]
    · simp only [if_true, Builtin.max2, Sem.run_bind, Sem.run_pure, Result.andThen_ok]
      congr 3
      cases hc : ilt a b with
      | true => rw [ilt_eq, decide_eq_true_eq] at hc; rw [if_pos hc]
      | false => rw [ilt_eq, decide_eq_false_iff_not] at hc; rw [if_neg hc]

def NotNum (v : Value) : Prop := match v with | .int _ _ => False | .float _ _ => False | .complex _ _ _ => False | .string _ => False | _ => True
theorem run_eqNe {t : Nat} {v u : Value} {b : Bool} (neg : Bool) (hv : NotNum v)
    (h : ∀ w, (Op.equal t v u).run P w = .ok b w) (w : World) : (binOp (if neg then .neq else .eql) t v u).run P w = .ok (.bool (if neg then !b else b)) w := by
  cases neg
  · simp only [Bool.false_eq_true, if_false]
    have : binOp .eql t v u = (do pure (.bool (← Op.equal t v u))) := by cases v <;> first | exact hv.elim | rfl
    rw [this]
    simp [h w]
  · simp only [if_true]
    have : binOp .neq t v u = (do pure (.bool (!(← Op.equal t v u)))) := by cases v <;> first | exact hv.elim | rfl
    rw [this]
    simp [h w]
theorem boolOk_ok {neg : Bool} {o : Option Bool} (h : boolOk neg o s = .ok av s') : s' = s ∧ ∃ b, o = some b ∧ av = .bool (if neg then !b else b) := by
  cases o with
  | none => cases h
  | some b =>
    have h' : VR.ok (.bool (Bool.rec (motive := fun _ => Bool) b (bnot b) neg)) s = .ok av s' := h
    cases h'
    refine ⟨rfl, b, rfl, ?_⟩
    cases neg
    · rfl
    · show AVal.bool (bnot b) = _; rw [bnot_eq]; rfl

theorem ek_notnum {t : Nat} {x y : AVal} {v : Value} {b : Bool} (h : aeq (ekOf P t) x y = some b) (ht : ∀ k, P.underlying t ≠ some (.int k)) (ht2 : P.underlying t ≠ some .string) (hx : VRel om r x v) :
    NotNum v := by
  have row : ∀ {ks}, aeqRow ks x y = some b → NotNum v := fun {ks} h => by
    unfold aeqRow at h
    split at h
    · rename_i l m e1 e2
      obtain ⟨xs, rfl, _⟩ := rowOf_ok e1 hx
      trivial
    · cases h
  unfold ekOf at h
  split at h
  · have h' : axBool x y = some b := h
    cases x <;> first | (cases h'; done) | (cases hx; trivial)
  · rename_i k e; exact absurd e (ht k)
  · rename_i e; exact absurd e ht2
  · have h' : axPtr x y = some b := h
    cases x <;> first | (cases h'; done) | (cases hx; trivial)
  · have h' : axSlice x y = some b := h
    cases x <;> first | (cases h'; done) | (cases hx; trivial)
  · have h' : axMap x y = some b := h
    cases x <;> first | (cases h'; done) | (cases hx; trivial)
  · have h' : axIface x y = some b := h
    cases x <;> first | (cases h'; done) | (cases hx; trivial)
  · split at h
    · split at h
      · exact row h
      · cases h
    · cases h
  · split at h
    · split at h
      · exact row h
      · cases h
    · cases h
  · cases h

/-- Two operands held against each other, or reckoned with. -/
theorem cBin_ok {op : BinOp} {t : Nat} {xo yo : Operand} {a b : AOpd} {T : Tab} {call : CallT} {l : List AVal} {e : Env} {v u : Value} (hx : VRel om r (ev a l e) v) (hy : VRel om r (ev b l e) u)
    (h : opOf (cBin P op t a b) T call l e s = .ok av s') : s' = s ∧ ∃ x, (∀ w, (do eqGuard op t xo yo v u; binOp op t v u : Sem Value).run P w = .ok x w) ∧ VRel om r av x := by
  have eqs : ∀ (neg : Bool), (∀ k, P.underlying t ≠ some (.int k)) → P.underlying t ≠ some .string → opOf (cEq P neg t a b) T call l e s = .ok av s' →
      s' = s ∧ ∃ x, (∀ w, (do eqGuard (if neg then .neq else .eql) t xo yo v u; binOp (if neg then .neq else .eql) t v u : Sem Value).run P w = .ok x w) ∧ VRel om r av x := fun neg h1 h2 h => by
    unfold cEq at h
    split at h
    · cases h
    · have h' : boolOk neg (aeq (ekOf P t) (ev a l e) (ev b l e)) s = .ok av s' := h
      obtain ⟨rfl, q, hq, rfl⟩ := boolOk_ok h'
      have g := fun w => aeq_ok (P := P) hq hx hy 9998 w
      refine ⟨rfl, _, fun w => ?_, .bool _⟩
      rw [Sem.run_bind, (g w).2, Result.andThen_ok]
      exact run_eqNe neg (ek_notnum hq h1 h2 hx) (fun w => (g w).1) w
  have oth : (∀ k, P.underlying t ≠ some (.int k)) → P.underlying t ≠ some .string → (∀ k, P.underlying t ≠ some (.float k)) →
      s' = s ∧ ∃ x, (∀ w, (do eqGuard op t xo yo v u; binOp op t v u : Sem Value).run P w = .ok x w) ∧ VRel om r av x := fun h1 h2 h3 => by
    cases hd : P.underlying t with
    | none => cases op <;> simp only [cBin, hd] at h <;> first | (cases h; done) | exact eqs false h1 h2 h | exact eqs true h1 h2 h
    | some d => cases d <;> first | exact absurd hd (h1 _) | exact absurd hd h2 | exact absurd hd (h3 _) | (cases op <;> simp only [cBin, hd] at h <;> first | (cases h; done) | exact eqs false h1 h2 h | exact eqs true h1 h2 h)
  by_cases hi : ∃ k, P.underlying t = some (.int k)
  · obtain ⟨k, ht⟩ := hi
    have h' : xBinInt (ev a l e) (ev b l e) op s = .ok av s' := by simp only [cBin, ht] at h; exact h
    generalize ev a l e = x at *
    generalize ev b l e = y at *
    cases x <;> first | (cases h'; done) | skip
    rename_i k1 n1
    replace h' : xBinInt2 y op k1 n1 s = .ok av s' := h'
    cases y <;> first | (cases h'; done) | skip
    rename_i k2 n2
    obtain ⟨h1, h2⟩ := ifv_ok h'
    obtain ⟨rfl, rfl, hb⟩ := check_ok h2
    cases hx; cases hy
    obtain ⟨x, hx1, hx2⟩ := binInt_ok (P := P) (om := om) (r := r) op t h1 hb
    refine ⟨rfl, x, fun w => ?_, hx2⟩
    rw [Sem.run_bind, run_eqGuard_int, Result.andThen_ok]
    exact hx1 w
  by_cases hs : P.underlying t = some .string
  · have h' : xStrop op (ev a l e) (ev b l e) s = .ok av s' := by simp only [cBin, hs] at h; exact h
    generalize ev a l e = x at *
    generalize ev b l e = y at *
    unfold xStrop at h'
    split at h'
    · cases hx; cases hy
      obtain ⟨rfl, x, h1, h2⟩ := stropOf_ok (P := P) (om := om) (r := r) (t := t) h'
      refine ⟨rfl, x, fun w => ?_, h2⟩
      rw [Sem.run_bind, run_eqGuard_str, Result.andThen_ok]
      exact h1 w
    · cases h'
  by_cases hf : ∃ k, P.underlying t = some (.float k)
  · obtain ⟨k, ht⟩ := hf
    cases op <;> simp only [cBin, ht] at h <;> first | (cases h; done) | skip
    · have h' : xFdiv k (ev a l e) (ev b l e) s = .ok av s' := h
      generalize ev a l e = x at *
      generalize ev b l e = y at *
      unfold xFdiv at h'
      split at h'
      · split at h'
        · rename_i k1 a1 k2 a2 hk
          subst hk
          split at h'
          · rename_i q hq
            cases hx; cases hy; cases h'
            refine ⟨rfl, .float k1 q, fun w => ?_, .float _ _⟩
            rw [Sem.run_bind, run_eqGuard_float, Result.andThen_ok]
            simp [binOp, Op.floatArith, hq]
          · cases h'
        · cases h'
      · cases h'
    · exact eqs false (fun k e => hi ⟨k, e⟩) hs h
    · have h' : xFne k (ev a l e) (ev b l e) s = .ok av s' := h
      generalize ev a l e = x at *
      generalize ev b l e = y at *
      unfold xFne at h'
      split at h'
      · split at h'
        · rename_i k1 a1 k2 a2 hk
          subst hk
          cases hx; cases hy; cases h'
          refine ⟨rfl, .bool (k1.format.order a1 a2 != some .eq), fun w => ?_, .bool _⟩
          rw [Sem.run_bind, run_eqGuard_float, Result.andThen_ok]
          simp [binOp, Op.floatCmp]
        · cases h'
      · cases h'
  exact oth (fun k e => hi ⟨k, e⟩) hs (fun k e => hf ⟨k, e⟩)
end
end Go.Cx

/-! ## All operations that only compute. -/
set_option linter.unusedVariables false
set_option linter.unusedSimpArgs false
namespace Go.Cx
noncomputable section
variable {om : Nat → Value} {r : Rho} {w w' : World} {P : Program} {s s' : St} {av : AVal}
variable {c : Operand → AOpd} {l : List AVal} {e : Env} {rv : Operand → Value} {T : Tab} {call : CallT}

/-- A run that gives a value and leaves the world as it is. -/
def Gives (P : Program) (m : Sem Value) (om : Nat → Value) (r : Rho) (av : AVal) : Prop := ∃ x, (∀ w, m.run P w = .ok x w) ∧ VRel om r av x

theorem build_ok {t : Nat} {parts : Array (Nat × Operand)} (H : ∀ x, VRel om r (ev (c x) l e) (rv x)) (h : opOf (cOp P c (.build t parts)) T call l e s = .ok av s') :
    s' = s ∧ Gives P (Instr.build t (parts.map fun (i, x) => (i, rv x))) om r av := by
  simp only [cOp] at h
  have zl : ∀ {z}, aggList (zeroA P t) = some z → ∃ i v, P.info? t = some i ∧ i.zero = some v ∧ CRel om r z v.cells.toList := fun {z} hz => by
    have hb : zeroA P t ≠ .bad := by intro e0; rw [e0] at hz; cases hz
    obtain ⟨i, v, h1, h2, h3, h4⟩ := zeroA_ok hb
    refine ⟨i, v, h1, h2, ?_⟩
    have := cellList_ok (h3 om r) h4
    unfold aggList at hz
    split at hz
    · rename_i z' e0; cases hz; rw [e0] at this; exact this
    · rename_i e0; cases hz; rw [e0] at this; exact this
    · cases hz
  split at h
  · rename_i fs z ht hz
    split at h
    · rename_i hkn
      obtain ⟨i, v, h1, h2, hc⟩ := zl hz
      have hrel : PRel om r (fun j => (fs.map fun f => (f.offset, sizeA P f.type))[j]?) (evParts (cParts P c fs parts.toList) l e) (parts.toList.map fun (i, x) => (i, rv x)) := by
        generalize parts.toList = ps
        induction ps with
        | nil => exact .nil
        | cons p ps ih =>
          obtain ⟨j, x⟩ := p
          simp only [cParts]
          split
          · rename_i f hf
            exact .cons (f.offset, sizeA P f.type) _ _ j (rv x) _ (by simp [hf]) (H x) ih
          · exact .no _ _ _ ih
      obtain ⟨z', zs', g1, g2, g3, g4⟩ := fillParts_ok hrel hc (show fillParts _ _ _ = _ from h)
      cases g4
      refine ⟨rfl, .agg zs'.toArray, fun w => ?_, aggOf_ok g1⟩
      have hm : ∀ (fl : List Field) (w : World), (∀ f ∈ fl, kn P f.type = true) → (fl.mapM (fun f => do pure (f.offset, ← sizeOf f.type)) : Sem (List (Nat × Nat))).run P w = .ok (fl.map fun f => (f.offset, sizeA P f.type)) w := by
        intro fl w hf
        induction fl with
        | nil => simp
        | cons f fl ih =>
          rw [List.mapM_cons]
          simp only [Sem.run_bind, run_sizeOf' (hf f (by simp)), Result.andThen_ok, Sem.run_pure, ih (fun f' hf' => hf f' (by simp [hf'])), List.map_cons]
      have hm' : (fs.mapM (fun f => do pure (f.offset, ← sizeOf f.type)) : Sem (Array (Nat × Nat))).run P w = .ok (fs.map fun f => (f.offset, sizeA P f.type)) w := by
        have := hm fs.toList w (List.all_eq_true.1 hkn)
        rw [Array.mapM_eq_mapM_toList]
        simp only [Sem.run_map, this, Result.andThen_ok]
        congr 1
        apply Array.ext'
        simp
      unfold Instr.build
      simp only [Sem.run_bind, run_zero h1 h2, Result.andThen_ok, run_underlying ht, hm']
      have hfill : Instr.fill (fun j => (fs.map fun f => (f.offset, sizeA P f.type))[j]?) v.cells (parts.map fun (i, x) => (i, rv x)).toList = some zs'.toArray := by
        rw [← g2]; simp
      rw [hfill]
      simp
    · cases h
  · rename_i n el z ht hz
    split at h
    · rename_i hkn
      obtain ⟨i, v, h1, h2, hc⟩ := zl hz
      have hrel : PRel om r (fun j => some (j * sizeA P el, sizeA P el)) (evParts (cPartsN c (sizeA P el) parts.toList) l e) (parts.toList.map fun (i, x) => (i, rv x)) := by
        generalize parts.toList = ps
        induction ps with
        | nil => exact .nil
        | cons p ps ih =>
          obtain ⟨j, x⟩ := p
          exact .cons (j * sizeA P el, sizeA P el) _ _ j (rv x) _ rfl (H x) ih
      obtain ⟨z', zs', g1, g2, g3, g4⟩ := fillParts_ok hrel hc (show fillParts _ _ _ = _ from h)
      cases g4
      refine ⟨rfl, .agg zs'.toArray, fun w => ?_, aggOf_ok g1⟩
      unfold Instr.build
      simp only [Sem.run_bind, run_zero h1 h2, Result.andThen_ok, run_underlying ht, run_sizeOf' hkn]
      have hfill : Instr.fill (fun j => some (j * sizeA P el, sizeA P el)) v.cells (parts.map fun (i, x) => (i, rv x)).toList = some zs'.toArray := by
        rw [← g2]; simp
      rw [hfill]
      simp
    · cases h
  · cases h

theorem xField_ok {t off : Nat} (hk : kn P t = true) (ha : isAggA P t = false) {x : AVal} {v : Value} (hx : VRel om r x v) (h : xField x off s = .ok av s') :
    s' = s ∧ ∃ cs, v = .agg cs ∧ Gives P (part t cs off) om r av := by
  cases x <;> first | (cases h; done) | skip
  · rename_i m
    obtain ⟨xs, rfl, hc⟩ := hx.agg_inv
    obtain ⟨rfl, rfl, hb⟩ := check_ok (show VR.check (lcell m off) 62 s = .ok av s' from h)
    obtain ⟨y, h1, h2⟩ := lcell_ok hc hb
    exact ⟨rfl, _, rfl, y, fun w => run_part_one hk ha (by simpa using h1) w, h2⟩
  · rename_i k n d
    cases hx
    obtain ⟨rfl, rfl, hb⟩ := check_ok (show VR.check (icell k n d off) 63 s = .ok av s' from h)
    obtain ⟨h1, h2⟩ := icell_ok hb
    refine ⟨rfl, _, rfl, _, fun w => run_part_one hk ha (by simpa using mkI_get k n d off h1) w, ?_⟩
    rw [h2]; exact .int _ _
theorem xFieldn_ok {t off : Nat} (hk : kn P t = true) (ha : isAggA P t = true) {x : AVal} {v : Value} (hx : VRel om r x v) (h : xFieldn x off (sizeA P t) s = .ok av s') :
    s' = s ∧ ∃ cs, v = .agg cs ∧ Gives P (part t cs off) om r av := by
  have run : ∀ (xs : List Value) w, (part t xs.toArray off).run P w = .ok (.agg ((xs.drop off).take (sizeA P t)).toArray) w := fun xs w => by
    unfold part
    rw [Sem.run_bind, run_isAgg' hk w, ha]
    simp [run_sizeOf' hk]
  cases x <;> first | (cases h; done) | skip
  · rename_i m
    obtain ⟨xs, rfl, hc⟩ := hx.agg_inv
    obtain ⟨rfl, rfl, hb⟩ := check_ok (show VR.check (lcut m off (sizeA P t)) 65 s = .ok av s' from h)
    obtain ⟨h1, h2⟩ := lcut_ok hc hb
    exact ⟨rfl, _, rfl, _, run xs, h2⟩
  · rename_i k n d
    cases hx
    obtain ⟨rfl, rfl, hb⟩ := check_ok (show VR.check ((Blk.ints k n d).cut off (sizeA P t)) 66 s = .ok av s' from h)
    obtain ⟨h1, h2⟩ := RRel.cut_ok (.ints k n d) hb
    exact ⟨rfl, _, rfl, _, run _, h2⟩

theorem taNo_ok {t : Nat} {ok : Bool} (h : taNo (zeroA P t) ok s = .ok av s') : s' = s ∧ ok = true ∧ ∃ z, (∀ w, (zeroValue t).run P w = .ok z w) ∧ VRel om r av (.tuple #[z, .bool false]) := by
  obtain ⟨h1, h2⟩ := ifv_ok h
  rw [band_true] at h1
  cases h2
  have hb : zeroA P t ≠ .bad := by intro e0; rw [e0] at h1; cases h1.2
  obtain ⟨i, v, g1, g2, g3, g4⟩ := zeroA_ok hb
  exact ⟨rfl, h1.1, v, run_zero g1 g2, .tup _ [v, .bool false] (.cons _ _ _ _ (g3 om r) (.cons _ _ _ _ (.bool false) .nil))⟩

theorem typeAssert_ok {t xt : Nat} {ok : Bool} {x : AVal} {v : Value} (hx : VRel om r x v) {d : TypeDesc} (hd : P.underlying t = some d) (hi : ∀ m, d ≠ .interface m) (h : xTassert x t (zeroA P t) ok s = .ok av s') :
    s' = s ∧ Gives P (Instr.typeAssert v xt t ok) om r av := by
  have fl : ∀ {st dy : Option TypeId} {ms : String} {m : Sem Value}, taNo (zeroA P t) ok s = .ok av s' →
      (∀ w, m.run P w = (do if ok then pure (.tuple #[← zeroValue t, .bool false]) else runtimePanic (.typeAssertion st dy t ms) : Sem Value).run P w) → s' = s ∧ Gives P m om r av := fun h hm => by
    obtain ⟨rfl, rfl, z, hz, hr⟩ := taNo_ok (om := om) (r := r) h
    exact ⟨rfl, _, fun w => by rw [hm w]; simp [hz], hr⟩
  cases x <;> first | (cases h; done) | skip
  · cases hx
    refine fl h (st := some xt) (dy := none) (ms := "") fun w => ?_
    cases d <;> first | exact absurd rfl (hi _) | simp [Instr.typeAssert, run_underlying hd]
  · rename_i u y
    cases hx with | iface _ _ z hz =>
    have h' : ifv (Nat.beq u t) (ifv (notBad y) (Bool.rec (motive := fun _ => VR) (.ok y s) (.ok (.tup [y, .bool true]) s) ok) (.fail 107)) (taNo (zeroA P t) ok s) = .ok av s' := h
    cases hb : Nat.beq u t with
    | false =>
      rw [hb] at h'
      have hne : ¬ (u = t) := fun e0 => by rw [e0, Nat.beq_refl] at hb; cases hb
      refine fl h' (st := some xt) (dy := some u) (ms := "") fun w => ?_
      cases d <;> first | exact absurd rfl (hi _) | simp [Instr.typeAssert, run_underlying hd, hne]
    | true =>
      rw [hb] at h'
      have hu := Nat.eq_of_beq_eq_true hb
      subst hu
      obtain ⟨h1, h2⟩ := ifv_ok (show ifv (notBad y) _ _ = _ from h')
      cases ok with
      | false =>
        cases h2
        refine ⟨rfl, z, fun w => ?_, hz⟩
        cases d <;> first | exact absurd rfl (hi _) | simp [Instr.typeAssert, run_underlying hd]
      | true =>
        cases h2
        refine ⟨rfl, .tuple #[z, .bool true], fun w => ?_, .tup _ [z, .bool true] (.cons _ _ _ _ hz (.cons _ _ _ _ (.bool true) .nil))⟩
        cases d <;> first | exact absurd rfl (hi _) | simp [Instr.typeAssert, run_underlying hd]

theorem lenOf_ok {x : AVal} {v : Value} (hx : VRel om r x v) {k : Nat → VR} (h : lenOf x k = .ok av s') : ∃ n, k n = .ok av s' ∧ ((∃ b c, v = .slice b n c) ∨ ∃ d, v = .string (mkS n d)) := by
  cases x <;> first | (cases h; done) | skip
  · rename_i n d; cases hx; exact ⟨n, h, .inr ⟨d, rfl⟩⟩
  · cases hx; exact ⟨0, h, .inl ⟨_, _, rfl⟩⟩
  · cases hx; exact ⟨_, h, .inl ⟨_, _, rfl⟩⟩
  · cases hx; exact ⟨_, h, .inl ⟨_, _, rfl⟩⟩

/-- Operations that only compute. -/
theorem op_pure {o : Oper} (H : ∀ x, VRel om r (ev (c x) l e) (rv x)) (hk : opKind P o.op = 0) (h : opOf (cOp P c o.op) T call l e s = .ok av s') :
    s' = s ∧ ∃ x, (∀ w, (execOp rv o).run P w = .ok (.value x) w) ∧ VRel om r av x := by
  obtain ⟨dst, op, type, pos, after, guard⟩ := o
  have fin : ∀ {m : Sem Value}, (∀ w, (execOp rv ⟨dst, op, type, pos, after, guard⟩).run P w = (do pure (Next.value (← m)) : Sem Next).run P w) → s' = s ∧ Gives P m om r av →
      s' = s ∧ ∃ x, (∀ w, (execOp rv ⟨dst, op, type, pos, after, guard⟩).run P w = .ok (.value x) w) ∧ VRel om r av x := fun hm ⟨h1, x, h2, h3⟩ => ⟨h1, x, fun w => by rw [hm w]; exact run_val (h2 w), h3⟩
  cases op <;> first | (simp only [opKind] at hk; first | (cases hk; done) | skip)
  case move x =>
    obtain ⟨rfl, rfl, _⟩ := check_ok (show VR.check (ev (c x) l e) 6 s = .ok av s' from h)
    exact ⟨rfl, rv x, fun w => rfl, H x⟩
  case assign x =>
    obtain ⟨rfl, rfl, _⟩ := check_ok (show VR.check (ev (c x) l e) 6 s = .ok av s' from h)
    exact ⟨rfl, rv x, fun w => rfl, H x⟩
  case pick q a b =>
    replace h : xPick (ev (c q) l e) (ev (c a) l e) (ev (c b) l e) s = .ok av s' := h
    have hq := H q
    generalize ev (c q) l e = vq at *
    cases vq <;> first | (cases h; done) | skip
    rename_i t
    have run : ∀ w, (execOp rv ⟨dst, .pick q a b, type, pos, after, guard⟩).run P w = .ok (.value (if t then rv a else rv b)) w := fun w => by
      show (do pure (Next.value (if ← asBool (rv q) then rv a else rv b)) : Sem Next).run P w = _
      generalize rv q = xq at *
      cases hq
      simp [asBool]
    cases t with
    | true => obtain ⟨rfl, rfl, _⟩ := check_ok (show VR.check (ev (c a) l e) 11 s = .ok av s' from h); exact ⟨rfl, _, run, H a⟩
    | false => obtain ⟨rfl, rfl, _⟩ := check_ok (show VR.check (ev (c b) l e) 11 s = .ok av s' from h); exact ⟨rfl, _, run, H b⟩
  case build t ps => exact fin (fun w => rfl) (build_ok H h)
  case nilCheck x =>
    replace h : xNilck (ev (c x) l e) s = .ok av s' := h
    have hx := H x
    have run : (match rv x with | .pointer none => False | .nilIface => False | .nilFunc => False | .func (.method _) _ _ => False | _ => True) → ∀ w, (execOp rv ⟨dst, .nilCheck x, type, pos, after, guard⟩).run P w = .ok (.value (rv x)) w := fun hr w => by
      simp only [execOp]
      generalize rv x = v at *
      split <;> first | exact hr.elim | rfl
    generalize ev (c x) l e = vx at *
    generalize hv : rv x = v at *
    cases vx <;> first | (cases h; done) | skip
    · cases h; cases hx; exact ⟨rfl, _, run trivial, .ptr _ _ _ (by assumption)⟩
    · rename_i fn a b
      replace h : fnNil fn a b s = .ok av s' := h
      unfold fnNil at h
      split at h
      · cases h
        cases hx with | func _ _ _ x y h1 h2 => exact ⟨rfl, _, run trivial, .func _ _ _ _ _ h1 h2⟩
      · cases h
    · cases h
      cases hx with | iface t _ y hy => exact ⟨rfl, _, run trivial, .iface _ _ _ hy⟩
  case binOp bop t x y yt =>
    exact fin (fun w => rfl) (cBin_ok (xo := x) (yo := y) (H x) (H y) h)
  case unOp uop t x =>
    have hx := H x
    cases uop <;> first | (cases h; done) | skip
    · replace h : xNeg (ev (c x) l e) s = .ok av s' := h
      refine fin (m := Op.unary .neg (rv x)) (fun w => rfl) ?_
      generalize ev (c x) l e = vx at *
      generalize rv x = v at *
      cases vx <;> first | (cases h; done) | skip
      · rename_i k n; cases h; cases hx
        refine ⟨rfl, .int k (k.wrap (0 - n)), fun w => by simp [Op.unary, Op.intArith], ?_⟩
        rw [wrap_eq, isub_eq]; exact .int _ _
      · rename_i k n; cases h; cases hx
        exact ⟨rfl, _, fun w => by simp [Op.unary], .float _ _⟩
    · replace h : xNot (ev (c x) l e) s = .ok av s' := h
      refine fin (m := Op.unary .not (rv x)) (fun w => rfl) ?_
      generalize ev (c x) l e = vx at *
      generalize rv x = v at *
      cases vx <;> first | (cases h; done) | skip
      rename_i b
      cases h; cases hx
      exact ⟨rfl, .bool (!b), fun w => by simp [Op.unary], by rw [bnot_eq]; exact .bool _⟩
  case convert st dt x =>
    have hx := H x
    refine fin (m := convert st dt (rv x)) (fun w => rfl) ?_
    replace h : opOf (cConv P st dt (c x)) T call l e s = .ok av s' := h
    cases hs : P.underlying st with
    | none => cases hd : P.underlying dt <;> simp only [cConv, hs, hd] at h <;> cases h
    | some sd =>
      cases hd : P.underlying dt with
      | none => cases sd <;> simp only [cConv, hs, hd] at h <;> cases h
      | some dd =>
        cases sd <;> cases dd <;> simp only [cConv, hs, hd] at h hk <;> first | (cases h; done) | (cases hk; done) | skip
        · rename_i k1 k2
          replace h : xConvII (ev (c x) l e) k2 s = .ok av s' := h
          generalize ev (c x) l e = vx at *
          generalize rv x = v at *
          cases vx <;> first | (cases h; done) | skip
          rename_i k n
          cases h; cases hx
          refine ⟨rfl, .int k2 (k2.wrap n), fun w => by simp [convert, run_underlying hs, run_underlying hd, Conv.intToInt], ?_⟩
          rw [wrap_eq]; exact .int _ _
        · rename_i k1 k2
          replace h : xConvIF (ev (c x) l e) k2 s = .ok av s' := h
          generalize ev (c x) l e = vx at *
          generalize rv x = v at *
          cases vx <;> first | (cases h; done) | skip
          rename_i k n
          cases h; cases hx
          exact ⟨rfl, _, fun w => by simp [convert, run_underlying hs, run_underlying hd, Conv.intToFloat], .float _ _⟩
  case sliceToArrayPointer t x =>
    have hx := H x
    refine fin (m := Instr.arrayAt t (rv x)) (fun w => rfl) ?_
    simp only [cOp] at h
    split at h
    · rename_i n el ht
      replace h : xS2ap (ev (c x) l e) n s = .ok av s' := h
      generalize ev (c x) l e = vx at *
      generalize rv x = v at *
      cases vx <;> first | (cases h; done) | skip
      · rename_i i off len cap
        obtain ⟨h1, h2⟩ := ifv_ok h
        rw [Nat.ble_eq] at h1
        cases h2
        cases hx with | slice _ _ _ _ p hp hl =>
        exact ⟨rfl, _, fun w => by simp [Instr.arrayAt, run_underlying ht, Nat.not_lt.2 h1], .ptr _ _ p hp⟩
      · rename_i i off len low z
        obtain ⟨h1, h2⟩ := ifv_ok h
        rw [band_true, Nat.ble_eq, lt_true] at h1
        cases h2
        cases hx with | slicu _ _ _ _ _ p o cap hp g1 g2 g3 g4 =>
        have ho : o = p.base + off := g4.resolve_left (by omega)
        subst ho
        exact ⟨rfl, _, fun w => by simp [Instr.arrayAt, run_underlying ht, Nat.not_lt.2 h1.1], .ptr _ _ p hp⟩
    · cases h
  case makeInterface t x =>
    have hx := H x
    refine fin (m := Instr.makeInterface t (rv x)) (fun w => rfl) ?_
    simp only [cOp] at h
    have key : ∀ d, P.underlying t = some d → (∀ m, d ≠ .interface m) → xMkif (ev (c x) l e) t s = .ok av s' → s' = s ∧ Gives P (Instr.makeInterface t (rv x)) om r av := fun d hd hn h => by
      have : av = .iface t (ev (c x) l e) ∧ s' = s := by
        generalize ev (c x) l e = vx at *
        cases vx <;> first | (cases h; done) | (cases h; exact ⟨rfl, rfl⟩)
      obtain ⟨rfl, rfl⟩ := this
      refine ⟨rfl, .iface t (rv x), fun w => ?_, .iface _ _ _ hx⟩
      cases d <;> first | exact absurd rfl (hn _) | simp [Instr.makeInterface, run_underlying hd]
    split at h
    · cases h
    · rename_i d hd hn; exact key d hn (by intro m e0; subst e0; exact hd _ rfl) h
    · cases h
  case makeFunc fn a b =>
    refine fin (m := Instr.makeFunc fn (a.map rv) (b.map rv)) (fun w => rfl) ?_
    obtain ⟨h1, h2⟩ := ifv_ok (show ifv _ _ _ = _ from h)
    cases h2
    refine ⟨rfl, .func fn (a.map rv) (b.map rv), fun w => by simp [Instr.makeFunc], ?_⟩
    have := VRel.func (om := om) (rho := r) fn _ _ _ _ (evs_ok H a.toList) (evs_ok H b.toList)
    have e1 : (List.map rv a.toList).toArray = a.map rv := by apply Array.ext'; simp
    have e2 : (List.map rv b.toList).toArray = b.map rv := by apply Array.ext'; simp
    rw [e1, e2] at this
    exact this
  case slice t x lo hi mx =>
    have hx := H x
    refine fin (m := Instr.sliceAt t (rv x) (lo.map rv) (hi.map rv) (mx.map rv)) (fun w => rfl) ?_
    simp only [cOp] at h
    have mh : (mx.isNone || hi.isSome) = true → evO (mx.map c) l e = none ∨ evO (hi.map c) l e ≠ none := fun hm => by
      cases mx with
      | none => exact .inl rfl
      | some m => cases hi with
        | none => cases hm
        | some q => exact .inr (by intro e0; cases e0)
    split at h
    · rename_i ht
      split at h
      · exact xSlStr_ok ht hx (evO_ok H lo) (evO_ok H hi) h
      · cases h
    · rename_i el ht
      split at h
      · rename_i hc
        rw [Bool.and_eq_true] at hc
        exact xSlSl_ok ht hc.1 hx (evO_ok H lo) (evO_ok H hi) (evO_ok H mx) (mh hc.2) h
      · cases h
    · rename_i n el ht
      split at h
      · rename_i hc
        rw [Bool.and_eq_true] at hc
        exact xSlArr_ok ht hc.1 hx (evO_ok H lo) (evO_ok H hi) (evO_ok H mx) (mh hc.2) h
      · cases h
    · cases h
  case fieldAddr t x f =>
    have hx := H x
    refine fin (m := Instr.fieldAt t (rv x) f) (fun w => rfl) ?_
    simp only [cOp] at h
    split at h
    · rename_i fs ht
      split at h
      · rename_i fl hf
        split at h
        · rename_i hc
          rw [Bool.and_eq_true, Bool.not_eq_true'] at hc
          have hne : ¬ (sizeA P fl.type = 0) := fun e0 => by rw [e0] at hc; cases hc.2
          replace h : xFieldAddr (ev (c x) l e) fl.offset s = .ok av s' := h
          generalize ev (c x) l e = vx at *
          generalize rv x = v at *
          cases vx <;> first | (cases h; done) | skip
          rename_i i off
          cases h
          cases hx with | ptr _ _ p hp =>
          refine ⟨rfl, .pointer (some ⟨p.b, p.base + (off + fl.offset), none⟩), fun w => ?_, .ptr _ _ p hp⟩
          simp [Instr.fieldAt, run_underlying ht, hf, Instr.sureAddr, fieldPlace, run_sizeOf' hc.1, hne, add_ptr, Nat.add_assoc]
        · cases h
      · cases h
    · cases h
  case field t x f =>
    have hx := H x
    refine fin (m := Instr.field t (rv x) f) (fun w => rfl) ?_
    simp only [cOp] at h
    split at h
    · rename_i fs ht
      split at h
      · rename_i fl hf
        split at h
        · rename_i hk1
          split at h
          · rename_i ha
            obtain ⟨h1, cs, hcs, y, h2, h3⟩ := xFieldn_ok hk1 ha hx h
            exact ⟨h1, y, fun w => by simp [Instr.field, run_underlying ht, hf, hcs, asAgg, h2], h3⟩
          · rename_i ha
            obtain ⟨h1, cs, hcs, y, h2, h3⟩ := xField_ok hk1 (by simpa using ha) hx h
            exact ⟨h1, y, fun w => by simp [Instr.field, run_underlying ht, hf, hcs, asAgg, h2], h3⟩
        · cases h
      · cases h
    · cases h
  case indexAddr t x i =>
    have hx := H x
    have hi := H i
    refine fin (m := Instr.indexAt t (rv x) (rv i)) (fun w => rfl) ?_
    simp only [cOp] at h
    split at h
    · rename_i n el ht
      split at h
      · rename_i hk1
        replace h : xIxArr (ev (c x) l e) n (sizeA P el) (ev (c i) l e) s = .ok av s' := h
        generalize ev (c x) l e = vx at *
        generalize rv x = v at *
        cases vx <;> first | (cases h; done) | skip
        rename_i b off
        obtain ⟨q, j, hj, hl, rfl, rfl⟩ := ixV_ok hi h
        cases hx with | ptr _ _ p hp =>
        refine ⟨rfl, .pointer (some ⟨p.b, p.base + (off + j * sizeA P el), none⟩), fun w => ?_, .ptr _ _ p hp⟩
        have h0 : (0 : Int) ≤ (j : Int) ∧ (j : Int) < (n : Int) := ⟨by omega, by omega⟩
        simp [Instr.indexAt, run_underlying ht, hj, asIntOf, Instr.sureAddr, run_sizeOf' hk1, h0, hl, add_ptr, Nat.add_assoc]
      · cases h
    · rename_i el ht
      split at h
      · rename_i hk1
        replace h : xIxSl (ev (c x) l e) (sizeA P el) (ev (c i) l e) s = .ok av s' := h
        generalize ev (c x) l e = vx at *
        generalize rv x = v at *
        cases vx <;> first | (cases h; done) | skip
        · rename_i b off len cap
          obtain ⟨q, j, hj, hl, rfl, rfl⟩ := ixV_ok hi h
          cases hx with | slice _ _ _ _ p hp hlc =>
          refine ⟨rfl, .pointer (some ⟨p.b, p.base + (off + j * sizeA P el), none⟩), fun w => ?_, .ptr _ _ p hp⟩
          have h0 : (0 : Int) ≤ (j : Int) ∧ (j : Int) < (len : Int) := ⟨by omega, by omega⟩
          simp [Instr.indexAt, run_underlying ht, hj, asIntOf, run_sizeOf' hk1, h0, hl, add_ptr, Nat.add_assoc]
        · rename_i b off len low z
          obtain ⟨q, j, hj, hl, rfl, rfl⟩ := ixV_ok hi h
          cases hx with | slicu _ _ _ _ _ p o cap hp g1 g2 g3 g4 =>
          have ho : o = p.base + off := g4.resolve_left (by omega)
          subst ho
          refine ⟨rfl, .pointer (some ⟨p.b, p.base + (off + j * sizeA P el), none⟩), fun w => ?_, .ptr _ _ p hp⟩
          have h0 : (0 : Int) ≤ (j : Int) ∧ (j : Int) < (len : Int) := ⟨by omega, by omega⟩
          simp [Instr.indexAt, run_underlying ht, hj, asIntOf, run_sizeOf' hk1, h0, hl, add_ptr, Nat.add_assoc]
      · cases h
    · cases h
  case index t x i =>
    have hx := H x
    have hi := H i
    refine fin (m := Instr.index t (rv x) (rv i)) (fun w => rfl) ?_
    simp only [cOp] at h
    split at h
    · rename_i n el ht
      split at h
      · rename_i hk1
        split at h
        · rename_i ha
          replace h : xIxValn n (sizeA P el) (ev (c x) l e) (ev (c i) l e) s = .ok av s' := h
          unfold xIxValn at h
          split at h
          · rename_i q j hq
            rw [hq] at hi
            obtain ⟨h1, h2⟩ := ifv_ok h
            rw [lt_true] at h1
            obtain ⟨h3, cs, hcs, y, h4, h5⟩ := xFieldn_ok hk1 ha hx h2
            generalize rv i = vi at *
            cases hi
            have h0 : (0 : Int) ≤ (j : Int) ∧ (j : Int) < (n : Int) := ⟨by omega, by omega⟩
            have h4' : ∀ w, (part el cs (j * sizeA P el)).run P w = .ok y w := h4
            exact ⟨h3, y, fun w => by simp [Instr.index, run_underlying ht, hcs, asIntOf, run_sizeOf' hk1, h0, h1, h4'], h5⟩
          · cases h
        · rename_i ha
          split at h
          · rename_i hsz
            have hsz := Nat.eq_of_beq_eq_true hsz
            replace h : xIxVal n (ev (c x) l e) (ev (c i) l e) s = .ok av s' := h
            unfold xIxVal at h
            split at h
            · rename_i q j hq
              rw [hq] at hi
              obtain ⟨h1, h2⟩ := ifv_ok h
              rw [lt_true] at h1
              obtain ⟨h3, cs, hcs, y, h4, h5⟩ := xField_ok hk1 (by simpa using ha) hx h2
              generalize rv i = vi at *
              cases hi
              have h0 : (0 : Int) ≤ (j : Int) ∧ (j : Int) < (n : Int) := ⟨by omega, by omega⟩
              exact ⟨h3, y, fun w => by simp [Instr.index, run_underlying ht, hcs, asIntOf, run_sizeOf' hk1, hsz, h0, h1, h4], h5⟩
            · cases h
          · cases h
      · cases h
    · rename_i ht
      replace h : xIxStr (ev (c x) l e) (ev (c i) l e) s = .ok av s' := h
      generalize ev (c x) l e = vx at *
      generalize rv x = v at *
      cases vx <;> first | (cases h; done) | skip
      rename_i n d
      replace h : ixS n d (ev (c i) l e) s = .ok av s' := h
      unfold ixS at h
      split at h
      · rename_i q j hq
        rw [hq] at hi
        obtain ⟨h1, h2⟩ := ifv_ok h
        rw [lt_true] at h1
        cases h2
        cases hx
        generalize rv i = vi at *
        cases hi
        obtain ⟨g1, g2⟩ := mkS_get n d j h1
        have h0 : (0 : Int) ≤ (j : Int) := by omega
        refine ⟨rfl, .int .u8 ((dcut 8 d j 1 : Nat) : Int), fun w => ?_, .int _ _⟩
        simp [Instr.index, run_underlying ht, asIntOf, h0, g1, Nat.mod_eq_of_lt g2]
      · cases h
    · cases h
  case typeAssert x xt t ok =>
    refine fin (m := Instr.typeAssert (rv x) xt t ok) (fun w => rfl) ?_
    simp only [cOp] at h
    split at h
    · cases h
    · rename_i d hd hn
      exact typeAssert_ok (H x) hn (by intro m e0; subst e0; exact hd _ rfl) h
    · cases h
  case extract x k =>
    have hx := H x
    refine fin (m := Instr.extract (rv x) k) (fun w => rfl) ?_
    replace h : xExtract (ev (c x) l e) k s = .ok av s' := h
    generalize ev (c x) l e = vx at *
    generalize rv x = v at *
    cases vx <;> first | (cases h; done) | skip
    rename_i vs
    obtain ⟨rfl, rfl, hb⟩ := check_ok (show VR.check (lnth vs k) 110 s = .ok av s' from h)
    cases hx with | tup _ xs hl =>
    obtain ⟨y, h1, h2⟩ := hl.get hb
    exact ⟨rfl, y, fun w => by simp [Instr.extract, h1], h2⟩
  case call q =>
    obtain ⟨callee, ⟨args⟩, ⟨tys⟩⟩ := q
    cases callee with
    | value f => exact absurd hk (by simp)
    | invoke f m => exact absurd hk (by simp)
    | builtin b =>
      replace h : opOf (cBuiltin P b tys (args.map c)) T call l e s = .ok av s' := h
      cases b <;> first | (cases hk; done) | skip
      case len =>
        cases tys with
        | nil => cases h
        | cons t tys => cases tys with
          | cons _ _ => cases h
          | nil => cases args with
            | nil => cases h
            | cons x args => cases args with
              | cons _ _ => cases h
              | nil =>
                have hx := H x
                refine fin (m := Builtin.len_ #[t] type #[rv x]) (fun w => by simp [execOp, resolve, invoke, builtin]) ?_
                simp only [cBuiltin, List.map_cons, List.map_nil] at h
                split at h
                · rename_i ht
                  replace h : xLenStr (ev (c x) l e) s = .ok av s' := h
                  generalize ev (c x) l e = vx at *
                  generalize rv x = v at *
                  cases vx <;> first | (cases h; done) | skip
                  rename_i n d
                  cases h; cases hx
                  exact ⟨rfl, .int .i64 n, fun w => by simp [Builtin.len_, run_underlying ht, mkS_size, goInt], .int _ _⟩
                · rename_i ht
                  replace h : xLen (ev (c x) l e) s = .ok av s' := h
                  generalize ev (c x) l e = vx at *
                  generalize rv x = v at *
                  cases vx <;> first | (cases h; done) | skip
                  · cases h; cases hx
                    exact ⟨rfl, .int .i64 0, fun w => by simp [Builtin.len_, run_underlying ht, goInt], .int _ _⟩
                  · rename_i i off n cp
                    cases h; cases hx
                    exact ⟨rfl, .int .i64 n, fun w => by simp [Builtin.len_, run_underlying ht, goInt], .int _ _⟩
                  · rename_i i off n lo z
                    cases h; cases hx
                    exact ⟨rfl, .int .i64 n, fun w => by simp [Builtin.len_, run_underlying ht, goInt], .int _ _⟩
                · rename_i ht; simp [ht] at hk
                · rename_i n _ ht
                  cases h
                  exact ⟨rfl, .int .i64 n, fun w => by simp [Builtin.len_, run_underlying ht, goInt], .int _ _⟩
                · cases h
      case cap =>
        cases tys with
        | nil => cases h
        | cons t tys => cases tys with
          | cons _ _ => cases h
          | nil => cases args with
            | nil => cases h
            | cons x args => cases args with
              | cons _ _ => cases h
              | nil =>
                have hx := H x
                refine fin (m := Builtin.cap_ #[t] type #[rv x]) (fun w => by simp [execOp, resolve, invoke, builtin]) ?_
                simp only [cBuiltin, List.map_cons, List.map_nil] at h
                split at h
                · rename_i ht
                  replace h : xCap (ev (c x) l e) s = .ok av s' := h
                  generalize ev (c x) l e = vx at *
                  generalize rv x = v at *
                  cases vx <;> first | (cases h; done) | skip
                  · cases h; cases hx
                    exact ⟨rfl, .int .i64 0, fun w => by simp [Builtin.cap_, run_underlying ht, goInt], .int _ _⟩
                  · rename_i i off n cp
                    cases h; cases hx
                    exact ⟨rfl, .int .i64 cp, fun w => by simp [Builtin.cap_, run_underlying ht, goInt], .int _ _⟩
                · cases h
      case min =>
        refine fin (m := Builtin.min_ ⟨tys⟩ type ((⟨args⟩ : Array Operand).map rv)) (fun w => by simp [execOp, resolve, invoke, builtin]) ?_
        replace h : xMin false (evs (args.map c) l e) s = .ok av s' := h
        have hl := evs_ok H args
        generalize evs (args.map c) l e = vs at *
        generalize hq : args.map rv = xs at *
        have e1 : ((⟨args⟩ : Array Operand).map rv).toList = xs := by rw [← hq]; simp
        unfold xMin at h
        split at h
        · rename_i k a l'
          cases hl with | cons _ x _ y hv t =>
          cases hv
          obtain ⟨h1, x, h2, h3⟩ := minGo_ok (P := P) t h
          refine ⟨h1, x, fun w => ?_, h3⟩
          rw [← h2 w]
          unfold Builtin.min_
          rw [e1]; rfl
        · cases h
      case max =>
        refine fin (m := Builtin.max_ ⟨tys⟩ type ((⟨args⟩ : Array Operand).map rv)) (fun w => by simp [execOp, resolve, invoke, builtin]) ?_
        replace h : xMin true (evs (args.map c) l e) s = .ok av s' := h
        have hl := evs_ok H args
        generalize evs (args.map c) l e = vs at *
        generalize hq : args.map rv = xs at *
        have e1 : ((⟨args⟩ : Array Operand).map rv).toList = xs := by rw [← hq]; simp
        unfold xMin at h
        split at h
        · rename_i k a l'
          cases hl with | cons _ x _ y hv t =>
          cases hv
          obtain ⟨h1, x, h2, h3⟩ := minGo_ok (P := P) t h
          refine ⟨h1, x, fun w => ?_, h3⟩
          rw [← h2 w]
          unfold Builtin.max_
          rw [e1]; rfl
        · cases h
end
end Go.Cx
