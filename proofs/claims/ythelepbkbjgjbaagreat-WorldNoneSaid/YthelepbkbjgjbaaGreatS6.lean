/-
  The abstract machine is sound: part 6.
-/
import Derived.Test.YthelepbkbjgjbaaGreatS5
import Derived.Orders
set_option linter.unusedVariables false
set_option linter.unusedSimpArgs false
/-! ## Operations look at their operands alone; what reads the same. -/
set_option linter.unusedVariables false
set_option linter.unusedSimpArgs false
namespace Go.Cx
noncomputable section
variable {om : Nat → Value} {r r' : Rho} {w w' : World} {P : Program} {s s' : St} {av : AVal}
variable {l : List AVal} {e : Env} {T : Tab} {call : CallT} {L : List Nat}

theorem cParts_congr {c c' : Operand → AOpd} {fs : Array Field} : ∀ {ps : List (Nat × Operand)}, (∀ x ∈ ps.map (·.2), c x = c' x) → cParts P c fs ps = cParts P c' fs ps
  | [], _ => rfl
  | (i, x) :: ps, h => by
    have h1 := h x (by simp)
    have h2 := cParts_congr (c := c) (c' := c') (fs := fs) (ps := ps) fun y hy => h y (by simp at hy ⊢; exact .inr hy)
    simp only [cParts, h1, h2]
theorem cPartsN_congr {c c' : Operand → AOpd} {sz : Nat} : ∀ {ps : List (Nat × Operand)}, (∀ x ∈ ps.map (·.2), c x = c' x) → cPartsN c sz ps = cPartsN c' sz ps
  | [], _ => rfl
  | (i, x) :: ps, h => by
    have h1 := h x (by simp)
    have h2 := cPartsN_congr (c := c) (c' := c') (sz := sz) (ps := ps) fun y hy => h y (by simp at hy ⊢; exact .inr hy)
    simp only [cPartsN, h1, h2]
theorem map_congr' {α β : Type} {f g : α → β} {l : List α} (h : ∀ x ∈ l, f x = g x) : l.map f = l.map g := List.map_congr_left h

/-- A compiled operation looks at what is made of its operands alone. -/
theorem cOp_congr {c c' : Operand → AOpd} {o : Op} (h : ∀ x ∈ o.operands, c x = c' x) : cOp P c o = cOp P c' o := by
  cases o <;> simp only [Op.operands] at h
  case build t ps =>
    have h1 : ∀ x ∈ ps.toList.map (·.2), c x = c' x := fun x hx => h x (by simpa using hx)
    simp only [cOp, cParts_congr h1, cPartsN_congr h1]
  case buildSlice t n ps =>
    have h1 : ∀ x ∈ ps.toList.map (·.2), c x = c' x := fun x hx => h x (by simpa using hx)
    simp only [cOp, cPartsN_congr h1]
  case makeFunc fn a b =>
    have h1 : ∀ x ∈ a.toList, c x = c' x := fun x hx => h x (by simp at hx ⊢; exact .inl hx)
    have h2 : ∀ x ∈ b.toList, c x = c' x := fun x hx => h x (by simp at hx ⊢; exact .inr hx)
    simp only [cOp, map_congr' h1, map_congr' h2]
  case slice t x lo hi mx =>
    have hx := h x (by simp)
    have h1 : lo.map c = lo.map c' := by cases lo with | none => rfl | some y => simp [h y (by simp)]
    have h2 : hi.map c = hi.map c' := by cases hi with | none => rfl | some y => simp [h y (by simp)]
    have h3 : mx.map c = mx.map c' := by cases mx with | none => rfl | some y => simp [h y (by simp)]
    simp only [cOp, hx, h1, h2, h3]
  case call q =>
    obtain ⟨callee, args, tys⟩ := q
    have h1 : ∀ x ∈ args.toList, c x = c' x := fun x hx => h x (by simp [Call.operands] at hx ⊢; exact .inr hx)
    have h2 := map_congr' h1
    cases callee with
    | builtin b => simp only [cOp, h2]
    | value f =>
      have hf := h f (by simp [Call.operands])
      cases f <;> simp only [cOp, h2, hf]
    | invoke f m =>
      have hf := h f (by simp [Call.operands])
      simp only [cOp, h2, hf]
  case makeMap t q => simp only [cOp]
  case move x => simp only [cOp, h x (by simp)]
  case assign x => simp only [cOp, h x (by simp)]
  case pick q a b => simp only [cOp, h q (by simp), h a (by simp), h b (by simp)]
  case nilCheck x => simp only [cOp, h x (by simp)]
  case box t x => simp only [cOp, h x (by simp)]
  case load t x => simp only [cOp, h x (by simp)]
  case store t a x => simp only [cOp, h a (by simp), h x (by simp)]
  case binOp op t a x ty => simp only [cOp, h a (by simp), h x (by simp)]
  case unOp op t x => simp only [cOp, h x (by simp)]
  case convert a b x => simp only [cOp, h x (by simp)]
  case sliceToArrayPointer t x => simp only [cOp, h x (by simp)]
  case makeInterface t x => simp only [cOp, h x (by simp)]
  case makeSlice t a x => simp only [cOp, h a (by simp), h x (by simp)]
  case fieldAddr t x f => simp only [cOp, h x (by simp)]
  case field t x f => simp only [cOp, h x (by simp)]
  case indexAddr t a x => simp only [cOp, h a (by simp), h x (by simp)]
  case index t a x => simp only [cOp, h a (by simp), h x (by simp)]
  case lookup t a x ok => simp only [cOp, h a (by simp), h x (by simp)]
  case mapUpdate t m k x => simp only [cOp, h m (by simp), h k (by simp), h x (by simp)]
  case insert t m k x => simp only [cOp, h m (by simp), h k (by simp), h x (by simp)]
  case range t x => simp only [cOp, h x (by simp)]
  case next x b => simp only [cOp, h x (by simp)]
  case entry x => simp only [cOp, h x (by simp)]
  case typeAssert x a b ok => simp only [cOp, h x (by simp)]
  case extract x k => simp only [cOp, h x (by simp)]
  all_goals simp only [cOp]

/-! ### What reads the same -/
theorem kbeq_eq2 {k k' : IntKind} (h : kbeq k k' = true) : k = k' := by cases k <;> cases k' <;> first | rfl | cases h
theorem ieq_eq2 {a b : Int} (h : ieq a b = true) : a = b := by
  cases a with
  | ofNat a => cases b with
    | ofNat b => rw [Nat.eq_of_beq_eq_true (show Nat.beq a b = true from h)]
    | negSucc b => cases h
  | negSucc a => cases b with
    | ofNat b => cases h
    | negSucc b => rw [Nat.eq_of_beq_eq_true (show Nat.beq a b = true from h)]
theorem beqB_eq' {a b : Bool} (h : beqB a b = true) : a = b := by cases a <;> cases b <;> first | rfl | cases h
theorem idb {i j : Id} (h : Nat.beq i.num j.num = true) : i = j := Id.num_inj (Nat.eq_of_beq_eq_true h)

def aveqs (l r : List AVal) : Bool := match l, r with
  | [], [] => true
  | v :: l, w :: r => band (aveq v w) (aveqs l r)
  | _, _ => false
theorem aveq_agg (l r : List AVal) : aveq (.agg l) (.agg r) = aveqs l r := by
  induction l generalizing r with
  | nil => cases r <;> rfl
  | cons v l ih => cases r with
    | nil => rfl
    | cons w r => exact congrArg (band (aveq v w)) (ih r)
theorem aveq_tup (l r : List AVal) : aveq (.tup l) (.tup r) = aveqs l r := by
  induction l generalizing r with
  | nil => cases r <;> rfl
  | cons v l ih => cases r with
    | nil => rfl
    | cons w r => exact congrArg (band (aveq v w)) (ih r)
mutual
theorem aveq_ok : (x y : AVal) → aveq x y = true → x = y
  | .top, y, h => by cases h
  | .bad, y, h => by cases h
  | .bool a, y, h => by cases y <;> first | (cases h; done) | (rw [beqB_eq' h])
  | .int k a, y, h => by
    cases y <;> first | (cases h; done) | skip
    obtain ⟨h1, h2⟩ := band_split h
    rw [kbeq_eq2 h1, ieq_eq2 h2]
  | .float k a, y, h => by cases h
  | .str n d, y, h => by
    cases y <;> first | (cases h; done) | skip
    obtain ⟨h1, h2⟩ := band_split h
    rw [Nat.eq_of_beq_eq_true h1, Nat.eq_of_beq_eq_true h2]
  | .nilp, y, h => by cases y <;> first | (cases h; done) | rfl
  | .ptr i o, y, h => by
    cases y <;> first | (cases h; done) | skip
    obtain ⟨h1, h2⟩ := band_split h
    rw [idb h1, Nat.eq_of_beq_eq_true h2]
  | .nils, y, h => by cases y <;> first | (cases h; done) | rfl
  | .slice i o n c, y, h => by
    cases y <;> first | (cases h; done) | skip
    obtain ⟨h1, h2⟩ := band_split h
    obtain ⟨h3, h4⟩ := band_split h1
    obtain ⟨h5, h6⟩ := band_split h2
    rw [idb h3, Nat.eq_of_beq_eq_true h4, Nat.eq_of_beq_eq_true h5, Nat.eq_of_beq_eq_true h6]
  | .slicu i o n c z, y, h => by
    cases y <;> first | (cases h; done) | skip
    obtain ⟨h1, h7⟩ := band_split h
    obtain ⟨h1, h2⟩ := band_split h1
    obtain ⟨h3, h4⟩ := band_split h1
    obtain ⟨h5, h6⟩ := band_split h2
    rw [idb h3, Nat.eq_of_beq_eq_true h4, Nat.eq_of_beq_eq_true h5, Nat.eq_of_beq_eq_true h6, Nat.eq_of_beq_eq_true h7]
  | .nilm, y, h => by cases y <;> first | (cases h; done) | rfl
  | .map i, y, h => by cases y <;> first | (cases h; done) | (rw [idb h])
  | .nilf, y, h => by cases y <;> first | (cases h; done) | rfl
  | .func _ _ _, y, h => by cases h
  | .nili, y, h => by cases y <;> first | (cases h; done) | rfl
  | .iface t v, y, h => by
    cases y <;> first | (cases h; done) | skip
    obtain ⟨h1, h2⟩ := band_split h
    rw [Nat.eq_of_beq_eq_true h1, aveq_ok v _ h2]
  | .agg l, y, h => by
    cases y <;> first | (cases h; done) | skip
    rw [aveq_agg] at h
    rw [aveqs_ok l _ h]
  | .aggi k n d, y, h => by
    cases y <;> first | (cases h; done) | skip
    obtain ⟨h1, h2⟩ := band_split h
    obtain ⟨h3, h4⟩ := band_split h2
    rw [kbeq_eq2 h1, Nat.eq_of_beq_eq_true h3, Nat.eq_of_beq_eq_true h4]
  | .tup l, y, h => by
    cases y <;> first | (cases h; done) | skip
    rw [aveq_tup] at h
    rw [aveqs_ok l _ h]
  | .opq i, y, h => by cases y <;> first | (cases h; done) | (rw [Nat.eq_of_beq_eq_true h])
theorem aveqs_ok : (l r : List AVal) → aveqs l r = true → l = r
  | [], r, h => by cases r <;> first | rfl | cases h
  | v :: l, r, h => by
    cases r with
    | nil => cases h
    | cons w r =>
      obtain ⟨h1, h2⟩ := band_split (show band (aveq v w) (aveqs l r) = true from h)
      rw [aveq_ok v w h1, aveqs_ok l r h2]
end

/-- A value that is read the same in so many states. -/
theorem sameIn_ok {op : AO} {v : AVal} : ∀ {n : Nat} {snaps : List St}, sameIn T call op l e v n snaps = true → ∀ k, k < n → ∃ s1 s2, snaps[k]? = some s1 ∧ opOf op T call l e s1 = .ok v s2
  | 0, snaps, h, k, hk => by omega
  | n + 1, snaps, h, k, hk => by
    cases snaps with
    | nil => cases h
    | cons s1 sn =>
      replace h : (match opOf op T call l e s1 with
        | .ok w _ => band (aveq v w) (sameIn T call op l e v n sn)
        | .fail _ => false) = true := h
      cases ho : opOf op T call l e s1 with
      | fail x => rw [ho] at h; cases h
      | ok w' s2 =>
        rw [ho] at h
        obtain ⟨h1, h2⟩ := band_split h
        have := aveq_ok _ _ h1
        subst this
        cases k with
        | zero => exact ⟨s1, s2, rfl, ho⟩
        | succ k =>
          obtain ⟨s3, s4, h3, h4⟩ := sameIn_ok h2 k (by omega)
          exact ⟨s3, s4, h3, h4⟩
end
end Go.Cx

/-! ## Regions whose order is open: what is checked ahead; the run in the one order. -/
set_option linter.unusedVariables false
set_option linter.unusedSimpArgs false
namespace Go.Cx
noncomputable section
variable {om : Nat → Value} {r r' : Rho} {w w' : World} {P : Program} {s s' : St} {av : AVal}
variable {l : List AVal} {e : Env} {T : Tab} {call : CallT} {L : List Nat}

theorem infos_get : ∀ (l : List Oper) (ms : List Nat) (n k : Nat) (x : DI), (infos P l ms n)[k]? = some x → x.i = n + k ∧ l[k]? = some x.o ∧ x.kind = opKind P x.o.op
  | [], ms, n, k, x, h => by cases h
  | o :: l, ms, n, 0, x, h => by
    replace h : some (⟨o, n, nthN ms 0, opKind P o.op⟩ : DI) = some x := h
    cases h
    exact ⟨rfl, rfl, rfl⟩
  | o :: l, ms, n, k + 1, x, h => by
    obtain ⟨h1, h2, h3⟩ := infos_get l (tailN ms) (n + 1) k x h
    exact ⟨by omega, h2, h3⟩
theorem infos_len : ∀ (l : List Oper) (ms : List Nat) (n : Nat), (infos P l ms n).length = l.length
  | [], ms, n => rfl
  | o :: l, ms, n => congrArg Nat.succ (infos_len l (tailN ms) (n + 1))
theorem maskNth_eq : ∀ (l : List DI) (k : Nat) (x : DI), l[k]? = some x → maskNth l k = x.mask
  | [], k, x, h => by cases h
  | y :: l, 0, x, h => by cases h; rfl
  | y :: l, k + 1, x, h => maskNth_eq l k x h
theorem maskUp_bit (all : List DI) (t : Nat) : ∀ (es : List Edge), tb (maskUp all es) t = true ↔ ∃ e ∈ es, Region.binds .any e = true ∧ (e.on = t ∨ tb (maskNth all e.on) t = true)
  | [] => by
    have : tb (maskUp all []) t = false := by show tb 0 t = false; rw [tb_eq]; simp
    rw [this]
    simp
  | e :: es => by
    have ih := maskUp_bit all t es
    have hu : maskUp all (e :: es) = Bool.rec (motive := fun _ => Nat) (maskUp all es) (Nat.lor (maskUp all es) (setb (maskNth all e.on) e.on)) (Region.binds .any e) := rfl
    rw [hu]
    cases hb : Region.binds .any e with
    | false =>
      rw [ih]
      constructor
      · rintro ⟨x, h1, h2⟩; exact ⟨x, List.mem_cons_of_mem _ h1, h2⟩
      · rintro ⟨x, h1, h2, h3⟩
        rcases List.mem_cons.1 h1 with h1 | h1
        · subst h1; rw [hb] at h2; cases h2
        · exact ⟨x, h1, h2, h3⟩
    | true =>
      have : tb (Nat.lor (maskUp all es) (setb (maskNth all e.on) e.on)) t = (tb (maskUp all es) t || tb (setb (maskNth all e.on) e.on) t) := by
        rw [tb_eq, tb_eq, tb_eq]; exact Nat.testBit_or _ _ _
      show tb (Nat.lor (maskUp all es) (setb (maskNth all e.on) e.on)) t = true ↔ _
      rw [this, setb_bit, Bool.or_eq_true, Bool.or_eq_true, ih]
      constructor
      · rintro (⟨x, h1, h2⟩ | h | h)
        · exact ⟨x, List.mem_cons_of_mem _ h1, h2⟩
        · exact ⟨e, List.mem_cons_self .., hb, .inr h⟩
        · exact ⟨e, List.mem_cons_self .., hb, .inl (of_decide_eq_true h)⟩
      · rintro ⟨x, h1, h2, h3⟩
        rcases List.mem_cons.1 h1 with h1 | h1
        · subst h1
          rcases h3 with h3 | h3
          · exact .inr (.inr (decide_eq_true h3))
          · exact .inr (.inl h3)
        · exact .inl ⟨x, h1, h2, h3⟩

def effsOf (l : List DI) : List Nat := l.foldl (fun acc x => effsMore x acc) []
theorem effsOf_snoc (l : List DI) (x : DI) : effsOf (l ++ [x]) = effsMore x (effsOf l) := by simp [effsOf]

theorem lor_sub {a b t : Nat} (h : Nat.beq (Nat.lor a b) a = true) (hb : tb b t = true) : tb a t = true := by
  have h := Nat.eq_of_beq_eq_true h
  rw [← h, tb_eq]
  rw [tb_eq] at hb
  show (a ||| b).testBit t = true
  rw [Nat.testBit_or, hb, Bool.or_true]

/-- What a checked order is. -/
structure OrdFacts (all ord : List DI) (n : Nat) : Prop where
  nodup : ∀ (j q : Nat) (x y : DI), ord[j]? = some x → ord[q]? = some y → x.i = y.i → j = q
  masks : ∀ (j : Nat) (x : DI), ord[j]? = some x → ∀ i, tb x.mask i = true → ∃ (q : Nat) (y : DI), q < j ∧ ord[q]? = some y ∧ y.i = i
  effs : ∀ (j : Nat) (x : DI), ord[j]? = some x → x.kind = 3 → ∀ (q : Nat) (y : DI), q < j → ord[q]? = some y → tb x.mask y.i = true
  reads : ∀ (j : Nat) (x : DI), ord[j]? = some x → x.kind = 1 → notIn x.mask (effsOf (ord.take j)) ≤ (effsOf (ord.take j)).length - effIn all x.mask
  every : ∀ i, i < n → ∃ (j : Nat) (x : DI), ord[j]? = some x ∧ x.i = i

theorem ordOk_facts {all : List DI} {n : Nat} : ∀ (rest pre : List DI) (done : Nat), ordOk all n rest done (effsOf pre) = true → (∀ i, tb done i = true ↔ ∃ (q : Nat) (y : DI), pre[q]? = some y ∧ y.i = i) →
    (∀ (j q : Nat) (x y : DI), pre[j]? = some x → pre[q]? = some y → x.i = y.i → j = q) → (∀ (j : Nat) (x : DI), pre[j]? = some x → ∀ i, tb x.mask i = true → ∃ (q : Nat) (y : DI), q < j ∧ pre[q]? = some y ∧ y.i = i) →
    (∀ (j : Nat) (x : DI), pre[j]? = some x → x.kind = 3 → ∀ (q : Nat) (y : DI), q < j → pre[q]? = some y → tb x.mask y.i = true) →
    (∀ (j : Nat) (x : DI), pre[j]? = some x → x.kind = 1 → notIn x.mask (effsOf (pre.take j)) ≤ (effsOf (pre.take j)).length - effIn all x.mask) → OrdFacts all (pre ++ rest) n := by
  intro rest
  induction rest with
  | nil =>
    intro pre done h hd h1 h2 h3 h4
    have h := Nat.eq_of_beq_eq_true (show Nat.beq done (Nat.sub (Nat.pow 2 n) 1) = true from h)
    rw [List.append_nil]
    refine ⟨h1, h2, h3, h4, fun i hi => ?_⟩
    have : tb done i = true := by
      rw [h, tb_eq]
      show (2 ^ n - 1).testBit i = true
      rw [Nat.testBit_two_pow_sub_one]
      exact decide_eq_true hi
    obtain ⟨q, y, k1, k2⟩ := (hd i).1 this
    exact ⟨q, y, k1, k2⟩
  | cons x rest ih =>
    intro pre done h hd h1 h2 h3 h4
    obtain ⟨g1, g2⟩ := band_split (show band (bnot (tb done x.i)) (band (Nat.beq (Nat.lor done x.mask) done) (band (kindOk all x done (effsOf pre)) (ordOk all n rest (setb done x.i) (effsMore x (effsOf pre))))) = true from h)
    obtain ⟨g3, g4⟩ := band_split g2
    obtain ⟨g5, g6⟩ := band_split g4
    rw [← effsOf_snoc] at g6
    have hnew : tb done x.i = false := by cases hq : tb done x.i <;> first | rfl | (rw [hq] at g1; cases g1)
    have old : ∀ {j : Nat} {y : DI}, (pre ++ [x])[j]? = some y → pre[j]? = some y ∨ (j = pre.length ∧ y = x) := fun {j y} h => by
      rcases Nat.lt_or_ge j pre.length with hj | hj
      · rw [List.getElem?_append_left hj] at h; exact .inl h
      · rw [List.getElem?_append_right hj] at h
        right
        cases hk : j - pre.length with
        | zero => rw [hk] at h; cases h; exact ⟨by omega, rfl⟩
        | succ k => rw [hk] at h; cases h
    have up : ∀ {j : Nat} {y : DI}, pre[j]? = some y → (pre ++ [x])[j]? = some y ∧ j < pre.length := fun {j y} h => by
      have hj := (List.getElem?_eq_some_iff.1 h).1
      rw [List.getElem?_append_left hj]; exact ⟨h, hj⟩
    have hlast : (pre ++ [x])[pre.length]? = some x := by simp
    have := ih (pre ++ [x]) (setb done x.i) g6 ?_ ?_ ?_ ?_ ?_
    · rw [List.append_assoc] at this
      exact this
    · intro i
      rw [setb_bit, Bool.or_eq_true, hd i]
      constructor
      · rintro (⟨q, y, k1, k2⟩ | k)
        · exact ⟨q, y, (up k1).1, k2⟩
        · exact ⟨_, x, hlast, of_decide_eq_true k⟩
      · rintro ⟨q, y, k1, k2⟩
        rcases old k1 with k1 | ⟨k1, k3⟩
        · exact .inl ⟨q, y, k1, k2⟩
        · subst k3; exact .inr (decide_eq_true k2)
    · intro j q y z k1 k2 k3
      rcases old k1 with m1 | ⟨m1, k4⟩
      · rcases old k2 with m2 | ⟨m2, k5⟩
        · exact h1 j q y z m1 m2 k3
        · subst k5
          have := (hd z.i).2 ⟨j, y, m1, k3⟩
          rw [this] at hnew; cases hnew
      · rcases old k2 with m2 | ⟨m2, k5⟩
        · subst k4
          have := (hd y.i).2 ⟨q, z, m2, k3.symm⟩
          rw [this] at hnew; cases hnew
        · omega
    · intro j y k1 i hi
      rcases old k1 with k1 | ⟨k1, k4⟩
      · obtain ⟨q, z, k2, k3, k5⟩ := h2 j y k1 i hi
        exact ⟨q, z, k2, (up k3).1, k5⟩
      · subst k4
        obtain ⟨q, z, k2, k3⟩ := (hd i).1 (lor_sub g3 hi)
        obtain ⟨k5, k6⟩ := up k2
        exact ⟨q, z, by omega, k5, k3⟩
    · intro j y k1 hk q z hq k2
      rcases old k1 with m1 | ⟨m1, k4⟩
      · have hj := (up m1).2
        rcases old k2 with m2 | ⟨m2, k5⟩
        · exact h3 j y m1 hk q z hq m2
        · omega
      · subst k4
        rcases old k2 with m2 | ⟨m2, k5⟩
        · simp only [kindOk, hk] at g5
          have hdz := (hd z.i).2 ⟨q, z, m2, rfl⟩
          refine lor_sub (b := done) ?_ hdz
          have : Nat.lor y.mask done = Nat.lor done y.mask := Nat.or_comm _ _
          rw [this]
          exact g5
        · omega
    · intro j y k1 hk
      rcases old k1 with m1 | ⟨m1, k4⟩
      · have hj := (up m1).2
        rw [List.take_append_of_le_length (by omega)]
        exact h4 j y m1 hk
      · subst k4
        subst m1
        rw [List.take_append_of_le_length (Nat.le_refl _), List.take_length]
        simp only [kindOk, hk] at g5
        exact Nat.le_of_ble_eq_true g5

end
end Go.Cx

/-! ## Regions whose order is open: what is checked ahead; the run in the one order. -/
set_option linter.unusedVariables false
set_option linter.unusedSimpArgs false
namespace Go.Cx
noncomputable section
variable {om : Nat → Value} {r r' : Rho} {w w' : World} {P : Program} {s s' : St} {av : AVal}
variable {l : List AVal} {e : Env} {T : Tab} {call : CallT} {L : List Nat}

/-- What is known of a region whose order is open. -/
structure RG (P : Program) (ops : Array Oper) (all ord : List DI) : Prop where
  idx : ∀ x ∈ all, ops[x.i]? = some x.o ∧ x.kind = opKind P x.o.op ∧ all[x.i]? = some x
  every : ∀ i o, ops[i]? = some o → ∃ x ∈ all, x.i = i ∧ x.o = o
  mask : ∀ x ∈ all, ∀ t, tb x.mask t = true ↔ ∃ e ∈ x.o.after, Region.binds .any e = true ∧ (e.on = t ∨ tb (maskNth all e.on) t = true)
  once : ∀ x ∈ all, ∀ y ∈ all, ∀ d, x.o.dst = some d → y.o.dst = some d → x.i = y.i
  opd : ∀ x ∈ all, ∀ t, .tmp t ∈ x.o.op.operands → ∀ y ∈ all, y.o.dst = some t → tb x.mask y.i = true ∨ tb y.mask x.i = true
  guard : ∀ x ∈ all, ∀ g b, x.o.guard = some (g, b) → tb x.mask g = true
  omem : ∀ x ∈ ord, x ∈ all
  facts : OrdFacts all ord ops.size

theorem onceOk_facts : ∀ (l : List DI) (seen : Nat), onceOk l seen = true → (∀ x ∈ l, ∀ d, x.o.dst = some d → tb seen d = false) ∧ ∀ (j q : Nat) (x y : DI) (d : Nat), l[j]? = some x → l[q]? = some y → x.o.dst = some d → y.o.dst = some d → j = q
  | [], seen, h => ⟨fun x hx => (by cases hx), fun j q x y d h => (by cases h)⟩
  | z :: l, seen, h => by
    replace h : Option.rec (motive := fun _ => Bool) (onceOk l seen) (fun d => band (bnot (tb seen d)) (onceOk l (setb seen d))) z.o.dst = true := h
    cases hz : z.o.dst with
    | none =>
      rw [hz] at h
      obtain ⟨h1, h2⟩ := onceOk_facts l seen h
      refine ⟨fun x hx d hd => ?_, fun j q x y d hj hq hx hy => ?_⟩
      · rcases List.mem_cons.1 hx with hx | hx
        · subst hx; rw [hz] at hd; cases hd
        · exact h1 x hx d hd
      · cases j with
        | zero => cases hj; rw [hz] at hx; cases hx
        | succ j => cases q with
          | zero => cases hq; rw [hz] at hy; cases hy
          | succ q => rw [h2 j q x y d hj hq hx hy]
    | some d0 =>
      rw [hz] at h
      obtain ⟨h0, h⟩ := band_split (show band (bnot (tb seen d0)) (onceOk l (setb seen d0)) = true from h)
      have h0 : tb seen d0 = false := by cases hq : tb seen d0 <;> first | rfl | (rw [hq] at h0; cases h0)
      obtain ⟨h1, h2⟩ := onceOk_facts l (setb seen d0) h
      have h3 : ∀ x ∈ l, ∀ d, x.o.dst = some d → tb seen d = false ∧ d ≠ d0 := fun x hx d hd => by
        have := h1 x hx d hd
        rw [setb_bit] at this
        cases ha : tb seen d <;> rw [ha] at this
        · exact ⟨rfl, fun e0 => by subst e0; simp at this⟩
        · cases this
      refine ⟨fun x hx d hd => ?_, fun j q x y d hj hq hx hy => ?_⟩
      · rcases List.mem_cons.1 hx with hx | hx
        · subst hx; rw [hz] at hd; cases hd; exact h0
        · exact (h3 x hx d hd).1
      · cases j with
        | zero =>
          cases hj
          rw [hz] at hx
          cases hx
          cases q with
          | zero => rfl
          | succ q => exact absurd rfl (h3 y (List.mem_of_getElem? hq) _ hy).2
        | succ j => cases q with
          | zero =>
            cases hq
            rw [hz] at hy
            cases hy
            exact absurd rfl (h3 x (List.mem_of_getElem? hj) _ hx).2
          | succ q => rw [h2 j q x y d hj hq hx hy]

theorem writerOf_none {t : Nat} : ∀ {l : List DI}, writerOf t l = none → ∀ x ∈ l, x.o.dst ≠ some t
  | [], _, x, h => by cases h
  | y :: l, h, x, hx => by
    replace h : Option.rec (motive := fun _ => Option DI) (writerOf t l) (fun d => Bool.rec (motive := fun _ => Option DI) (writerOf t l) (some y) (Nat.beq d t)) y.o.dst = none := h
    have h' : writerOf t l = none ∧ y.o.dst ≠ some t := by
      cases hd : y.o.dst with
      | none => rw [hd] at h; exact ⟨h, by intro e0; cases e0⟩
      | some d =>
        rw [hd] at h
        replace h : Bool.rec (motive := fun _ => Option DI) (writerOf t l) (some y) (Nat.beq d t) = none := h
        cases hb : Nat.beq d t with
        | true => rw [hb] at h; cases h
        | false => rw [hb] at h; exact ⟨h, fun e0 => by cases e0; rw [Nat.beq_refl] at hb; cases hb⟩
    rcases List.mem_cons.1 hx with hx | hx
    · subst hx; exact h'.2
    · exact writerOf_none h'.1 x hx
theorem writerOf_some {t : Nat} {z : DI} : ∀ {l : List DI}, writerOf t l = some z → z ∈ l ∧ z.o.dst = some t
  | [], h => by cases h
  | y :: l, h => by
    replace h : Option.rec (motive := fun _ => Option DI) (writerOf t l) (fun d => Bool.rec (motive := fun _ => Option DI) (writerOf t l) (some y) (Nat.beq d t)) y.o.dst = some z := h
    have up : writerOf t l = some z → z ∈ y :: l ∧ z.o.dst = some t := fun h => ⟨List.mem_cons_of_mem _ (writerOf_some h).1, (writerOf_some h).2⟩
    cases hd : y.o.dst with
    | none => rw [hd] at h; exact up h
    | some d =>
      rw [hd] at h
      replace h : Bool.rec (motive := fun _ => Option DI) (writerOf t l) (some y) (Nat.beq d t) = some z := h
      cases hb : Nat.beq d t with
      | true => rw [hb] at h; cases h; exact ⟨List.mem_cons_self .., by rw [hd, Nat.eq_of_beq_eq_true hb]⟩
      | false => rw [hb] at h; exact up h

/-- A region that was let through. -/
theorem RG.of {ops : Array Oper} (hall : allOk (drawAll P ops.toList) = true) (hfit : drawFits P ops.toList = true) : RG P ops (drawAll P ops.toList) (orderGo (drawAll P ops.toList) (drawAll P ops.toList) 0) := by
  have hget := infos_get (P := P) ops.toList (masksGo ops.toList 0 []).reverse 0
  have hlen := infos_len (P := P) ops.toList (masksGo ops.toList 0 []).reverse 0
  change ∀ k x, (drawAll P ops.toList)[k]? = some x → x.i = 0 + k ∧ ops.toList[k]? = some x.o ∧ x.kind = opKind P x.o.op at hget
  change (drawAll P ops.toList).length = ops.toList.length at hlen
  obtain ⟨f1, f2⟩ := band_split (show band ((drawAll P ops.toList).all (maskEq (drawAll P ops.toList))) (ordOk (drawAll P ops.toList) ops.toList.length (orderGo (drawAll P ops.toList) (drawAll P ops.toList) 0) 0 []) = true from hfit)
  obtain ⟨a1, a2⟩ := band_split hall
  obtain ⟨a3, a4⟩ := band_split a2
  have hone := (onceOk_facts _ _ a1).2
  have hord := ordOk_facts (all := drawAll P ops.toList) (n := ops.toList.length) (orderGo (drawAll P ops.toList) (drawAll P ops.toList) 0) [] 0 f2
    (fun i => by
      have : tb 0 i = false := by rw [tb_eq]; simp
      rw [this]
      constructor
      · intro h; cases h
      · rintro ⟨q, y, h, _⟩; cases h) (fun j q x y h => (by cases h)) (fun j x h => (by cases h)) (fun j x h => (by cases h)) (fun j x h => (by cases h))
  rw [List.nil_append, Array.length_toList] at hord
  have hmem : ∀ x ∈ orderGo (drawAll P ops.toList) (drawAll P ops.toList) 0, x ∈ drawAll P ops.toList := fun x hx => orderGo_mem (fun _ h => h) hx
  generalize drawAll P ops.toList = all at *
  have hidx : ∀ x ∈ all, ops[x.i]? = some x.o ∧ x.kind = opKind P x.o.op ∧ all[x.i]? = some x := fun x hx => by
    obtain ⟨k, hk⟩ := List.mem_iff_getElem?.1 hx
    obtain ⟨h1, h2, h3⟩ := hget k x hk
    have h1 : x.i = k := by omega
    subst h1
    exact ⟨by rw [← Array.getElem?_toList]; exact h2, h3, hk⟩
  rw [List.all_eq_true] at f1 a4
  refine ⟨hidx, fun i o ho => ?_, fun x hx t => ?_, fun x hx y hy d h1 h2 => ?_, fun x hx t ht y hy hyd => ?_, fun x hx g b hg => ?_, hmem, hord⟩
  · have hi := (Array.getElem?_eq_some_iff.1 ho).1
    have hi' : i < all.length := by rw [hlen]; simpa using hi
    obtain ⟨h1, h2, h3⟩ := hget i all[i] (List.getElem?_eq_getElem hi')
    refine ⟨all[i], List.getElem_mem hi', by omega, ?_⟩
    rw [Array.getElem?_toList, ho] at h2
    exact (Option.some.inj h2).symm
  · have := Nat.eq_of_beq_eq_true (show Nat.beq x.mask (maskUp all x.o.after.toList) = true from f1 x hx)
    rw [this, maskUp_bit]
    simp
  · exact hone _ _ x y d (hidx x hx).2.2 (hidx y hy).2.2 h1 h2
  · obtain ⟨b1, b2⟩ := band_split (a4 x hx)
    rw [List.all_eq_true] at b2
    have hl : looksOk all x t = true := b2 (.tmp t) (by simpa using ht)
    unfold looksOk at hl
    cases hw : writerOf t all with
    | none => exact absurd hyd (writerOf_none hw y hy)
    | some z =>
      rw [hw] at hl
      obtain ⟨z1, z2⟩ := writerOf_some hw
      have hzy := hone _ _ z y t (hidx z z1).2.2 (hidx y hy).2.2 z2 hyd
      have hzy' : z = y := by
        have h1 := (hidx z z1).2.2
        rw [hzy, (hidx y hy).2.2] at h1
        exact (Option.some.inj h1).symm
      subst hzy'
      replace hl : Bool.rec (motive := fun _ => Bool) (tb z.mask x.i) true (tb x.mask z.i) = true := hl
      cases hm : tb x.mask z.i with
      | true => exact .inl rfl
      | false => rw [hm] at hl; exact .inr hl
  · obtain ⟨b1, b2⟩ := band_split (a4 x hx)
    unfold guardOk at b1
    rw [hg] at b1
    exact b1
end
end Go.Cx

/-! ## Regions whose order is open: the run in the one order, step by step. -/
set_option linter.unusedVariables false
set_option linter.unusedSimpArgs false
namespace Go.Cx
noncomputable section
variable {om : Nat → Value} {r r' : Rho} {w w' : World} {P : Program} {s s' : St} {av : AVal}
variable {l : List AVal} {e : Env} {T : Tab} {call : CallT} {L : List Nat}

/-- In the midst of the one order. -/
structure TN where
  l : List AVal
  e : Env
  s : St
  snaps : List St
def cAt (L : List Nat) (known : List (Nat × Pos)) (n : Nat) : Operand → AOpd := fun y => (posOf L known y).opd n
/-- What an operation that is done does. -/
def DoAt (P : Program) (T : Tab) (call : CallT) (L : List Nat) (all : List DI) (n eff : Nat) (known : List (Nat × Pos)) (x : DI) (N : TN) (v : AVal) (N' : TN) : Prop :=
  (x.kind = 0 ∧ N'.s = N.s ∧ N'.snaps = N.snaps ∧ ∃ s2, opOf (cOp P (cAt L known n) x.o.op) T call N.l N.e N.s = .ok v s2) ∨
  (x.kind = 2 ∧ opOf (cOp P (cAt L known n) x.o.op) T call N.l N.e N.s = .ok v N'.s ∧ N'.snaps = N.snaps ∧ N'.s.n.num = N.s.n.num + 1) ∨
  (x.kind = 1 ∧ N'.s = N.s ∧ N'.snaps = N.snaps ∧ ∃ s0 sn s2, N.snaps = s0 :: sn ∧ opOf (cOp P (cAt L known n) x.o.op) T call N.l N.e s0 = .ok v s2 ∧
    sameIn T call (cOp P (cAt L known n) x.o.op) N.l N.e v (eff - effIn all x.mask) sn = true) ∨
  (x.kind = 3 ∧ opOf (cOp P (cAt L known n) x.o.op) T call N.l N.e N.s = .ok v N'.s ∧ N'.snaps = N'.s :: N.snaps ∧ N.s.n.num ≤ N'.s.n.num)
/-- Does its guard say so? -/
def GuardAt (L : List Nat) (ops : Array Oper) (n : Nat) (known : List (Nat × Pos)) (x : DI) (N : TN) (t : Bool) : Prop :=
  match x.o.guard with
  | none => t = true
  | some (g, want) => (∃ b, ev (guardPos L known n want (opAt ops.toList g)).1 N.l N.e = .bool b ∧ (b == (guardPos L known n want (opAt ops.toList g)).2) = t) ∨ (t = false ∧ ∃ q, ev (guardPos L known n want (opAt ops.toList g)).1 N.l N.e = .tup q)
structure StepAt (P : Program) (T : Tab) (call : CallT) (L : List Nat) (ops : Array Oper) (all : List DI) (n eff : Nat) (known : List (Nat × Pos)) (x : DI) (N : TN) (v : AVal) (N' : TN) (t : Bool) : Prop where
  l : N'.l = v :: N.l
  e : N'.e = putD (cDst L x.o.dst) v N.e
  guard : GuardAt L ops n known x N t
  no : t = false → v = unit ∧ N'.s = N.s ∧ N'.snaps = N.snaps
  yes : t = true → DoAt P T call L all n eff known x N v N'

def knownOf (l : List DI) : List (Nat × Pos) := (l.foldl (fun (p : Nat × List (Nat × Pos)) x => (p.1 + 1, knownBy p.2 p.1 x.o.dst)) (0, [])).2
theorem snocInd {motive : List DI → Prop} (h0 : motive []) (h1 : ∀ l x, motive l → motive (l ++ [x])) (l : List DI) : motive l := by
  have : ∀ l : List DI, motive l.reverse := by
    intro l
    induction l with
    | nil => exact h0
    | cons x l ih => rw [List.reverse_cons]; exact h1 _ _ ih
  rw [← List.reverse_reverse l]
  exact this _
theorem knownOf_aux (l : List DI) : (l.foldl (fun (p : Nat × List (Nat × Pos)) x => (p.1 + 1, knownBy p.2 p.1 x.o.dst)) (0, [])).1 = l.length := by
  have : ∀ (l : List DI) (n : Nat) (k : List (Nat × Pos)), (l.foldl (fun (p : Nat × List (Nat × Pos)) x => (p.1 + 1, knownBy p.2 p.1 x.o.dst)) (n, k)).1 = n + l.length := by
    intro l
    induction l with
    | nil => intro n k; rfl
    | cons x l ih => intro n k; rw [List.foldl_cons, ih, List.length_cons]; omega
  rw [this, Nat.zero_add]
theorem knownOf_snoc (l : List DI) (x : DI) : knownOf (l ++ [x]) = knownBy (knownOf l) l.length x.o.dst := by
  unfold knownOf
  rw [List.foldl_append]
  show knownBy _ (l.foldl _ (0, [])).1 x.o.dst = _
  rw [knownOf_aux]
/-- Where a slot's value stands. -/
theorem knownOf_find {l : List DI} {t : Nat} {p : Pos} (h : findPos t (knownOf l) = some p) : ∃ q x, p = .loc q ∧ l[q]? = some x ∧ x.o.dst = some t := by
  revert h
  refine snocInd (motive := fun l => findPos t (knownOf l) = some p → ∃ q x, p = .loc q ∧ l[q]? = some x ∧ x.o.dst = some t) (fun h => by cases h) (fun l x ih h => ?_) l
  · rw [knownOf_snoc] at h
    have up : ∀ {q : Nat} {y : DI}, l[q]? = some y → (l ++ [x])[q]? = some y := fun {q y} h => by
      rw [List.getElem?_append_left (List.getElem?_eq_some_iff.1 h).1]; exact h
    cases hd : x.o.dst with
    | none =>
      rw [hd] at h
      obtain ⟨q, y, h1, h2, h3⟩ := ih h
      exact ⟨q, y, h1, up h2, h3⟩
    | some d =>
      rw [hd] at h
      replace h : findPos t ((d, .loc l.length) :: knownOf l) = some p := h
      rw [findPos_cons] at h
      split at h
      · rename_i e0
        subst e0
        cases h
        exact ⟨l.length, x, rfl, by simp, hd⟩
      · obtain ⟨q, y, h1, h2, h3⟩ := ih h
        exact ⟨q, y, h1, up h2, h3⟩
theorem knownOf_none {l : List DI} {t : Nat} (h : findPos t (knownOf l) = none) : ∀ x ∈ l, x.o.dst ≠ some t := by
  revert h
  refine snocInd (motive := fun l => findPos t (knownOf l) = none → ∀ x ∈ l, x.o.dst ≠ some t) (fun h x hx => by cases hx) (fun l x ih h => ?_) l
  · rw [knownOf_snoc] at h
    intro y hy
    have h' : findPos t (knownOf l) = none ∧ x.o.dst ≠ some t := by
      cases hd : x.o.dst with
      | none => rw [hd] at h; exact ⟨h, by intro e0; cases e0⟩
      | some d =>
        rw [hd] at h
        replace h : findPos t ((d, .loc l.length) :: knownOf l) = none := h
        rw [findPos_cons] at h
        split at h
        · cases h
        · rename_i e0
          exact ⟨h, fun e1 => e0 (Option.some.inj e1)⟩
    rcases List.mem_append.1 hy with hy | hy
    · exact ih h'.1 y hy
    · rw [List.mem_singleton] at hy; subst hy; exact h'.2

theorem effsOf_len (l : List DI) (x : DI) : (effsOf (l ++ [x])).length = match x.kind with | 3 => (effsOf l).length + 1 | _ => (effsOf l).length := by
  rw [effsOf_snoc]
  unfold effsMore
  split
  · rename_i h; rw [h]; rfl
  · rename_i h
    split
    · rename_i h2; exact absurd h2 h
    · rfl

theorem kind_cases {all ord : List DI} {ops : Array Oper} (R : RG P ops all ord) {x : DI} (hx : x ∈ all) : x.kind = 0 ∨ x.kind = 1 ∨ x.kind = 2 ∨ x.kind = 3 := by
  rw [(R.idx x hx).2.1]; exact opKind_cases _

/-- The run of a compiled order, taken to pieces. -/
theorem trace_exists {ops : Array Oper} {all : List DI} : ∀ (rest pre : List DI), (∀ x ∈ rest, x.kind = 0 ∨ x.kind = 1 ∨ x.kind = 2 ∨ x.kind = 3) → ∀ (vs : List AVal) (e : Env) (s : St) (snaps : List St) (res : Res),
    runDraw T call (cDraw P L ops.toList all rest pre.length (effsOf pre).length (knownOf pre)) vs e s snaps = res → (∀ x, res ≠ .fail x) →
    ∃ (nd : Nat → TN) (va : Nat → AVal) (gd : Nat → Bool), nd 0 = ⟨vs, e, s, snaps⟩ ∧ res = .norm (nd rest.length).e (nd rest.length).s ∧
      ∀ j x, rest[j]? = some x → StepAt P T call L ops all (pre.length + j) (effsOf (pre ++ rest.take j)).length (knownOf (pre ++ rest.take j)) x (nd j) (va j) (nd (j + 1)) (gd j) := by
  intro rest
  induction rest with
  | nil =>
    intro pre _ vs e s snaps res h hf
    exact ⟨fun _ => ⟨vs, e, s, snaps⟩, fun _ => .bad, fun _ => true, rfl, h.symm, fun j x hx => by cases hx⟩
  | cons x rest ih =>
    intro pre hk vs e s snaps res h hf
    have hk' := fun y hy => hk y (List.mem_cons_of_mem x hy)
    have hlen : (pre ++ [x]).length = pre.length + 1 := by simp
    have hkn := knownOf_snoc pre x
    have hel := effsOf_len pre x
    -- what stands behind this operation
    have go : ∀ (v : AVal) (s' : St) (sn : List St) (t : Bool), runDraw T call (cDraw P L ops.toList all rest (pre.length + 1) (match x.kind with | 3 => (effsOf pre).length + 1 | _ => (effsOf pre).length) (knownBy (knownOf pre) pre.length x.o.dst)) (v :: vs) (putD (cDst L x.o.dst) v e) s' sn = res →
        StepAt P T call L ops all pre.length (effsOf pre).length (knownOf pre) x ⟨vs, e, s, snaps⟩ v ⟨v :: vs, putD (cDst L x.o.dst) v e, s', sn⟩ t →
        ∃ (nd : Nat → TN) (va : Nat → AVal) (gd : Nat → Bool), nd 0 = ⟨vs, e, s, snaps⟩ ∧ res = .norm (nd (x :: rest).length).e (nd (x :: rest).length).s ∧
          ∀ j y, (x :: rest)[j]? = some y → StepAt P T call L ops all (pre.length + j) (effsOf (pre ++ (x :: rest).take j)).length (knownOf (pre ++ (x :: rest).take j)) y (nd j) (va j) (nd (j + 1)) (gd j) := fun v s' sn t h1 h2 => by
      rw [← hlen, ← hkn, ← hel] at h1
      obtain ⟨nd, va, gd, k1, k2, k3⟩ := ih (pre ++ [x]) hk' _ _ _ _ _ h1 hf
      refine ⟨fun j => Nat.rec ⟨vs, e, s, snaps⟩ (fun j _ => nd j) j, fun j => Nat.rec v (fun j _ => va j) j, fun j => Nat.rec t (fun j _ => gd j) j, rfl, k2, fun j y hy => ?_⟩
      cases j with
      | zero =>
        cases hy
        show StepAt P T call L ops all (pre.length + 0) (effsOf (pre ++ [])).length (knownOf (pre ++ [])) x ⟨vs, e, s, snaps⟩ v (nd 0) t
        rw [k1, List.append_nil, Nat.add_zero]
        exact h2
      | succ j =>
        have := k3 j y hy
        rw [hlen, List.append_assoc] at this
        have e1 : pre.length + 1 + j = pre.length + (j + 1) := by omega
        rw [e1] at this
        exact this
    -- one by one
    have hrun : runDraw T call (cDraw P L ops.toList all (x :: rest) pre.length (effsOf pre).length (knownOf pre)) vs e s snaps =
        dOp ⟨cOper P L ops.toList pre.length (knownOf pre) x.o, match x.kind with | 0 => .pure | 1 => .read (Nat.sub (effsOf pre).length (effIn all x.mask)) | 2 => .alloc | _ => .eff⟩ T call
          (runDraw T call (cDraw P L ops.toList all rest (pre.length + 1) (match x.kind with | 3 => (effsOf pre).length + 1 | _ => (effsOf pre).length) (knownBy (knownOf pre) pre.length x.o.dst))) vs e s snaps := rfl
    rw [hrun] at h
    clear hrun
    generalize hih : runDraw T call (cDraw P L ops.toList all rest (pre.length + 1) (match x.kind with | 3 => (effsOf pre).length + 1 | _ => (effsOf pre).length) (knownBy (knownOf pre) pre.length x.o.dst)) = ihd at h go
    have doit : ∀ (hg : GuardAt L ops pre.length (knownOf pre) x ⟨vs, e, s, snaps⟩ true),
        dDo (match x.kind with | 0 => .pure | 1 => .read (Nat.sub (effsOf pre).length (effIn all x.mask)) | 2 => .alloc | _ => .eff) T call (cOp P (cAt L (knownOf pre) pre.length) x.o.op) (cDst L x.o.dst) ihd vs e s snaps = res →
        ∃ (nd : Nat → TN) (va : Nat → AVal) (gd : Nat → Bool), nd 0 = ⟨vs, e, s, snaps⟩ ∧ res = .norm (nd (x :: rest).length).e (nd (x :: rest).length).s ∧
          ∀ j y, (x :: rest)[j]? = some y → StepAt P T call L ops all (pre.length + j) (effsOf (pre ++ (x :: rest).take j)).length (knownOf (pre ++ (x :: rest).take j)) y (nd j) (va j) (nd (j + 1)) (gd j) := fun hg h => by
      have pure : x.kind = 0 → dPure T call (cOp P (cAt L (knownOf pre) pre.length) x.o.op) (cDst L x.o.dst) ihd vs e s snaps = res → _ := fun hk0 h => by
        replace h : VR.rec (motive := fun _ => Res) (fun v _ => dPut (cDst L x.o.dst) v s snaps ihd vs e) .fail (opOf (cOp P (cAt L (knownOf pre) pre.length) x.o.op) T call vs e s) = res := h
        cases ho : opOf (cOp P (cAt L (knownOf pre) pre.length) x.o.op) T call vs e s with
        | fail y => rw [ho] at h; exact absurd h.symm (hf y)
        | ok v s' =>
          rw [ho] at h
          replace h : dPut (cDst L x.o.dst) v s snaps ihd vs e = res := h
          rw [dPut_eq] at h
          exact go v s snaps true h ⟨rfl, rfl, hg, fun e0 => (by cases e0), fun _ => .inl ⟨hk0, rfl, rfl, s', ho⟩⟩
      have alloc : x.kind = 2 → dAlloc T call (cOp P (cAt L (knownOf pre) pre.length) x.o.op) (cDst L x.o.dst) ihd vs e s snaps = res → _ := fun hk0 h => by
        replace h : VR.rec (motive := fun _ => Res) (fun v s' => Bool.rec (motive := fun _ => Res) (.fail 182) (dPut (cDst L x.o.dst) v s' snaps ihd vs e) (Nat.beq s'.n.num (Nat.succ s.n.num))) .fail (opOf (cOp P (cAt L (knownOf pre) pre.length) x.o.op) T call vs e s) = res := h
        cases ho : opOf (cOp P (cAt L (knownOf pre) pre.length) x.o.op) T call vs e s with
        | fail y => rw [ho] at h; exact absurd h.symm (hf y)
        | ok v s' =>
          rw [ho] at h
          replace h : Bool.rec (motive := fun _ => Res) (.fail 182) (dPut (cDst L x.o.dst) v s' snaps ihd vs e) (Nat.beq s'.n.num (Nat.succ s.n.num)) = res := h
          cases hb : Nat.beq s'.n.num (Nat.succ s.n.num) with
          | false => rw [hb] at h; exact absurd h.symm (hf _)
          | true =>
            rw [hb] at h
            replace h : dPut (cDst L x.o.dst) v s' snaps ihd vs e = res := h
            rw [dPut_eq] at h
            exact go v s' snaps true h ⟨rfl, rfl, hg, fun e0 => (by cases e0), fun _ => .inr (.inl ⟨hk0, ho, rfl, Nat.eq_of_beq_eq_true hb⟩)⟩
      rcases hk x (List.mem_cons_self ..) with hx | hx | hx | hx
      · rw [hx] at h; exact pure hx h
      · rw [hx] at h
        replace h : dRead (Nat.sub (effsOf pre).length (effIn all x.mask)) T call (cOp P (cAt L (knownOf pre) pre.length) x.o.op) (cDst L x.o.dst) ihd vs e s snaps = res := h
        cases snaps with
        | nil => exact absurd h.symm (hf _)
        | cons s0 sn =>
          replace h : (match opOf (cOp P (cAt L (knownOf pre) pre.length) x.o.op) T call vs e s0 with
            | .ok v _ => Bool.rec (motive := fun _ => Res) (.fail 181) (dPut (cDst L x.o.dst) v s (s0 :: sn) ihd vs e) (sameIn T call (cOp P (cAt L (knownOf pre) pre.length) x.o.op) vs e v (Nat.sub (effsOf pre).length (effIn all x.mask)) sn)
            | .fail w => .fail w) = res := h
          cases ho : opOf (cOp P (cAt L (knownOf pre) pre.length) x.o.op) T call vs e s0 with
          | fail y => rw [ho] at h; exact absurd h.symm (hf y)
          | ok v s2 =>
            rw [ho] at h
            replace h : Bool.rec (motive := fun _ => Res) (.fail 181) (dPut (cDst L x.o.dst) v s (s0 :: sn) ihd vs e) (sameIn T call (cOp P (cAt L (knownOf pre) pre.length) x.o.op) vs e v (Nat.sub (effsOf pre).length (effIn all x.mask)) sn) = res := h
            cases hs : sameIn T call (cOp P (cAt L (knownOf pre) pre.length) x.o.op) vs e v (Nat.sub (effsOf pre).length (effIn all x.mask)) sn with
            | false => rw [hs] at h; exact absurd h.symm (hf _)
            | true =>
              rw [hs] at h
              replace h : dPut (cDst L x.o.dst) v s (s0 :: sn) ihd vs e = res := h
              rw [dPut_eq] at h
              exact go v s (s0 :: sn) true h ⟨rfl, rfl, hg, fun e0 => (by cases e0), fun _ => .inr (.inr (.inl ⟨hx, rfl, rfl, s0, sn, s2, rfl, ho, hs⟩))⟩
      · rw [hx] at h; exact alloc hx h
      · rw [hx] at h
        replace h : VR.rec (motive := fun _ => Res) (fun v s' => Bool.rec (motive := fun _ => Res) (.fail 183) (dPut (cDst L x.o.dst) v s' (s' :: snaps) ihd vs e) (Nat.ble s.n.num s'.n.num)) .fail (opOf (cOp P (cAt L (knownOf pre) pre.length) x.o.op) T call vs e s) = res := h
        cases ho : opOf (cOp P (cAt L (knownOf pre) pre.length) x.o.op) T call vs e s with
        | fail y => rw [ho] at h; exact absurd h.symm (hf y)
        | ok v s' =>
          rw [ho] at h
          replace h : Bool.rec (motive := fun _ => Res) (.fail 183) (dPut (cDst L x.o.dst) v s' (s' :: snaps) ihd vs e) (Nat.ble s.n.num s'.n.num) = res := h
          cases hb : Nat.ble s.n.num s'.n.num with
          | false => rw [hb] at h; exact absurd h.symm (hf _)
          | true =>
            rw [hb] at h
            replace h : dPut (cDst L x.o.dst) v s' (s' :: snaps) ihd vs e = res := h
            rw [dPut_eq] at h
            exact go v s' (s' :: snaps) true h ⟨rfl, rfl, hg, fun e0 => (by cases e0), fun _ => .inr (.inr (.inr ⟨hx, ho, rfl, Nat.le_of_ble_eq_true hb⟩))⟩
    generalize hkd : (match x.kind with | 0 => DK.pure | 1 => .read (Nat.sub (effsOf pre).length (effIn all x.mask)) | 2 => .alloc | _ => .eff) = kd at h doit
    cases hg : x.o.guard with
    | none =>
      refine doit (by unfold GuardAt; rw [hg]) ?_
      unfold dOp cOper at h
      rw [hg] at h
      exact h
    | some g =>
      obtain ⟨g, want⟩ := g
      have h2 : dGuard (ev (guardPos L (knownOf pre) pre.length want (opAt ops.toList g)).1 vs e) (guardPos L (knownOf pre) pre.length want (opAt ops.toList g)).2 kd T call (cOp P (cAt L (knownOf pre) pre.length) x.o.op) (cDst L x.o.dst) ihd vs e s snaps = res := by
        rw [← h]
        unfold dOp cOper
        rw [hg]
        rfl
      cases hev : ev (guardPos L (knownOf pre) pre.length want (opAt ops.toList g)).1 vs e with
      | bool b =>
        rw [hev] at h2
        replace h2 : Bool.rec (motive := fun _ => DK → Tab → CallT → AO → Option P2 → DrawK → List AVal → Env → St → List St → Res) dNot dDo (beqB b (guardPos L (knownOf pre) pre.length want (opAt ops.toList g)).2) kd T call
          (cOp P (cAt L (knownOf pre) pre.length) x.o.op) (cDst L x.o.dst) ihd vs e s snaps = res := h2
        rw [beqB_eq] at h2
        cases hb : b == (guardPos L (knownOf pre) pre.length want (opAt ops.toList g)).2 with
        | true =>
          rw [hb] at h2
          exact doit (by unfold GuardAt; rw [hg]; exact .inl ⟨b, hev, hb⟩) h2
        | false =>
          rw [hb] at h2
          replace h2 : dPut (cDst L x.o.dst) unit s snaps ihd vs e = res := h2
          rw [dPut_eq] at h2
          exact go unit s snaps false h2 ⟨rfl, rfl, (by unfold GuardAt; rw [hg]; exact .inl ⟨b, hev, hb⟩), fun _ => ⟨rfl, rfl, rfl⟩, fun e0 => (by cases e0)⟩
      | tup q =>
        rw [hev] at h2
        replace h2 : dPut (cDst L x.o.dst) unit s snaps ihd vs e = res := h2
        rw [dPut_eq] at h2
        exact go unit s snaps false h2 ⟨rfl, rfl, (by unfold GuardAt; rw [hg]; exact .inr ⟨rfl, q, hev⟩), fun _ => ⟨rfl, rfl, rfl⟩, fun e0 => (by cases e0)⟩
      | _ => rw [hev] at h2; exact absurd h2.symm (hf _)
end
end Go.Cx

/-! ## Regions whose order is open: names, blocks that are not yet named. -/
set_option linter.unusedVariables false
set_option linter.unusedSimpArgs false
namespace Go.Cx
noncomputable section
variable {om : Nat → Value} {r r' : Rho} {w w' : World} {P : Program} {s s' : St} {av : AVal}
variable {l : List AVal} {e : Env} {T : Tab} {call : CallT} {L : List Nat}

/-- The names below one. -/
def cutR (r : Rho) (n : Id) : Rho := fun i => if i.num < n.num then r i else none
theorem cutR_some {n i : Id} {p : Pl} (h : cutR r n i = some p) : i.num < n.num ∧ r i = some p := by
  unfold cutR at h
  split at h
  · exact ⟨by assumption, h⟩
  · cases h
theorem cutR_mk {n i : Id} {p : Pl} (h : i.num < n.num) (hr : r i = some p) : cutR r n i = some p := by
  unfold cutR; rw [if_pos h]; exact hr
theorem cutR_le {n m : Id} (h : n.num ≤ m.num) : Ext (cutR r n) (cutR r m) := fun i p hp => by
  obtain ⟨h1, h2⟩ := cutR_some hp
  exact cutR_mk (by omega) h2
theorem cutR_ext {n : Id} (h : Ext r r') : Ext (cutR r n) (cutR r' n) := fun i p hp => by
  obtain ⟨h1, h2⟩ := cutR_some hp
  exact cutR_mk h1 (h i p h2)

theorem SimW.mono {g : Id → Blk} (h : SimW om r g w) (x : Ext r r') : SimW om r' g w :=
  ⟨fun i hi => by obtain ⟨p, o, h1, h2, h3⟩ := h.live i hi; exact ⟨p, o, x i p h1, h2, h3.mono x⟩,
   fun i j p q hi hj hp hq hb => by
    obtain ⟨p1, o1, h1, _, _⟩ := h.live i hi
    obtain ⟨p2, o2, h2, _, _⟩ := h.live j hj
    have e1 := x i p1 h1
    have e2 := x j p2 h2
    rw [hp] at e1; rw [hq] at e2
    cases e1; cases e2
    exact h.inj i j p q hi hj h1 h2 hb⟩

/-- A block that nobody has a name for. -/
theorem Post.garbage {w1 w2 : World} {o : Obj} (h : Post om r s w r' s' w1) (hh : w2.heap = w1.heap.push o) (hos : w2.os = w1.os) (ht : w2.tape = w1.tape) (hout : w2.output = w1.output) : Post om r s w r' s' w2 := by
  have hold : ∀ c, c < w1.heap.size → w2.heap[c]? = w1.heap[c]? := fun c hc => by rw [hh, Array.getElem?_push, if_neg (Nat.ne_of_lt hc)]
  have hsz : w2.heap.size = w1.heap.size + 1 := by rw [hh]; simp
  have hg := h.grow
  refine ⟨h.old, ⟨⟨fun i hi => ?_, h.sim.sw.inj⟩, fun i p hp => ?_, h.sim.no, h.sim.ron⟩, h.num, by omega, fun b hb hn => ?_, h.img, h.ro, h.roK, hos.trans h.os, ht.trans h.tape, hout.trans h.out⟩
  · obtain ⟨p, o', h1, h2, h3⟩ := h.sim.sw.live i hi
    exact ⟨p, o', h1, by rw [hold _ (h.sim.dom i p h1).2]; exact h2, h3⟩
  · have := h.sim.dom i p hp; exact ⟨this.1, by omega⟩
  · rw [hold b (by omega)]; exact h.keep b hb hn

/-- It is given one. -/
theorem Post.adopt {r1 : Rho} {s1 : St} {w1 : World} {b : Blk} {p : Pl} {o : Obj} {n : Id} (h : Post om r s w r1 s1 w1) (hn : n.num = s1.n.num + 1) (ho : w1.heap[p.b]? = some o) (hb : BRel om (upd r1 s1.n p) b p o)
    (hnew : w.heap.size ≤ p.b) (hni : ∀ i q, s1.at i ≠ .none → r1 i = some q → q.b ≠ p.b) : Post om r s w (upd r1 s1.n p) ⟨Heap.set s1.n b s1.h, n, s1.ro⟩ w1 := by
  have sim := h.sim
  have ext := sim.ext_upd p
  have hnum := h.num
  have hpb : p.b < w1.heap.size := by
    rcases Nat.lt_or_ge p.b w1.heap.size with h1 | h1
    · exact h1
    · rw [Array.getElem?_eq_none h1] at ho; cases ho
  refine ⟨fun i hi => ?_, ⟨⟨?_, ?_⟩, ?_, ?_, by have := sim.ron; show s1.ro ≤ n.num; omega⟩, by show s.n.num ≤ n.num; omega, h.grow, h.keep, ?_, h.ro, ?_, h.os, h.tape, h.out⟩
  · rw [upd_ne (by omega)]; exact h.old i hi
  · intro i hi
    rw [St.at_set] at hi ⊢
    by_cases e : i = s1.n
    · subst e
      rw [if_pos rfl] at hi ⊢
      exact ⟨p, o, upd_same _ _ _, ho, hb⟩
    · rw [if_neg e] at hi ⊢
      obtain ⟨q, x, h1, h2, h3⟩ := sim.sw.live i hi
      exact ⟨q, x, ext _ _ h1, h2, h3.mono ext⟩
  · intro i j pi pj hi hj h1 h2 hbb
    rw [St.at_set] at hi hj
    by_cases ei : i = s1.n
    · by_cases ej : j = s1.n
      · rw [ei, ej]
      · subst ei
        rw [if_neg ej] at hj
        rw [upd_same] at h1
        obtain ⟨q, x, g1, g2, g3⟩ := sim.sw.live j hj
        have := ext _ _ g1
        rw [h2] at this
        cases this; cases h1
        exact absurd hbb.symm (hni j pj hj g1)
    · by_cases ej : j = s1.n
      · subst ej
        rw [if_neg ei] at hi
        rw [upd_same] at h2
        obtain ⟨q, x, g1, g2, g3⟩ := sim.sw.live i hi
        have := ext _ _ g1
        rw [h1] at this
        cases this; cases h2
        exact absurd hbb (hni i pi hi g1)
      · rw [if_neg ei] at hi
        rw [if_neg ej] at hj
        rw [upd_ne fun e => ei (Id.num_inj e)] at h1
        rw [upd_ne fun e => ej (Id.num_inj e)] at h2
        exact sim.sw.inj i j pi pj hi hj h1 h2 hbb
  · intro i q e
    show i.num < n.num ∧ _
    by_cases ei : i.num = s1.n.num
    · have : i = s1.n := Id.num_inj ei
      subst this
      rw [upd_same] at e
      cases e
      omega
    · rw [upd_ne ei] at e
      have := sim.dom i q e
      omega
  · intro i hi
    have hi' : n.num ≤ i.num := hi
    rw [St.at_set, if_neg (fun e : _ = _ => by subst e; omega)]
    exact sim.no i (by omega)
  · rintro c hc ⟨j, q, h1, h2, h3, h4⟩
    rw [St.at_set] at h1
    by_cases ej : j = s1.n
    · subst ej
      rw [upd_same] at h3
      cases h3
      omega
    · rw [if_neg ej] at h1
      rw [upd_ne fun e => ej (Id.num_inj e)] at h3
      exact h.img c hc ⟨j, q, h1, h2, h3, h4⟩
  · intro i hi
    rw [St.at_set]
    have h1 := sim.ron
    have h2 : i.num < s1.ro := by rw [h.ro]; exact hi
    rw [if_neg (fun e : i = s1.n => by subst e; omega)]
    exact h.roK i hi

/-! ### The whole setting -/
structure DrawCtx (P : Program) (om : Nat → Value) (T : Tab) (call : CallT) (L : List Nat) (ops : Array Oper) (all ord : List DI) (r0 : Rho) (s0 : St) (w0 : World) (e0 : Env) (a0 : Act) (nd : Nat → TN) (va : Nat → AVal) (gd : Nat → Bool) : Prop where
  hL : L.length ≤ 64
  hc : CallOK P om call
  hm : MethOK P T
  R : RG P ops all ord
  st : ∀ j x, ord[j]? = some x → StepAt P T call L ops all j (effsOf (ord.take j)).length (knownOf (ord.take j)) x (nd j) (va j) (nd (j + 1)) (gd j)
  n0 : nd 0 = ⟨[], e0, s0, [s0]⟩
  sim0 : Sim om r0 s0 w0
  env0 : EnvRel om r0 L e0 a0.tmps
  size : ∀ x ∈ all, ∀ d, x.o.dst = some d → d < a0.tmps.size

/-- Is an operation one that changes something, and done? -/
def Dyn (ord : List DI) (gd : Nat → Bool) (j : Nat) : Prop := ∃ x, ord[j]? = some x ∧ x.kind = 3 ∧ gd j = true
/-- Is it one that makes a block, and done? -/
def Alc (ord : List DI) (gd : Nat → Bool) (j : Nat) : Prop := ∃ x, ord[j]? = some x ∧ x.kind = 2 ∧ gd j = true

section
variable {ops : Array Oper} {all ord : List DI} {r0 : Rho} {s0 : St} {w0 : World} {e0 : Env} {a0 : Act} {nd : Nat → TN} {va : Nat → AVal} {gd : Nat → Bool}

theorem DrawCtx.same (C : DrawCtx P om T call L ops all ord r0 s0 w0 e0 a0 nd va gd) {j : Nat} {x : DI} (h : ord[j]? = some x) (hn : ¬ Dyn ord gd j) (ha : ¬ Alc ord gd j) : (nd (j + 1)).s = (nd j).s := by
  have hs := C.st j x h
  cases hg : gd j with
  | false => exact (hs.no hg).2.1
  | true =>
    rcases hs.yes hg with ⟨_, h1, _⟩ | ⟨h1, _⟩ | ⟨_, h1, _⟩ | ⟨h1, _⟩
    · exact h1
    · exact absurd ⟨x, h, h1, hg⟩ ha
    · exact h1
    · exact absurd ⟨x, h, h1, hg⟩ hn
theorem DrawCtx.num1 (C : DrawCtx P om T call L ops all ord r0 s0 w0 e0 a0 nd va gd) {j : Nat} {x : DI} (h : ord[j]? = some x) : (nd j).s.n.num ≤ (nd (j + 1)).s.n.num := by
  have hs := C.st j x h
  cases hg : gd j with
  | false => rw [(hs.no hg).2.1]; exact Nat.le_refl _
  | true =>
    rcases hs.yes hg with ⟨_, h1, _⟩ | ⟨h1, _, _, h2⟩ | ⟨_, h1, _⟩ | ⟨h1, _, _, h2⟩
    · rw [h1]; exact Nat.le_refl _
    · omega
    · rw [h1]; exact Nat.le_refl _
    · exact h2
theorem DrawCtx.alc (C : DrawCtx P om T call L ops all ord r0 s0 w0 e0 a0 nd va gd) {j : Nat} (h : Alc ord gd j) : (nd (j + 1)).s.n.num = (nd j).s.n.num + 1 := by
  obtain ⟨x, h1, h2, h3⟩ := h
  rcases (C.st j x h1).yes h3 with ⟨k, _⟩ | ⟨_, _, _, k⟩ | ⟨k, _⟩ | ⟨k, _⟩
  · omega
  · exact k
  · omega
  · omega
theorem DrawCtx.num (C : DrawCtx P om T call L ops all ord r0 s0 w0 e0 a0 nd va gd) {j k : Nat} (h : j ≤ k) (hk : k ≤ ord.length) : (nd j).s.n.num ≤ (nd k).s.n.num := by
  induction k with
  | zero => have : j = 0 := by omega
            subst this; exact Nat.le_refl _
  | succ k ih =>
    rcases Nat.lt_or_ge k j with h1 | h1
    · have : j = k + 1 := by omega
      subst this; exact Nat.le_refl _
    · exact Nat.le_trans (ih h1 (by omega)) (C.num1 (List.getElem?_eq_getElem (by omega)))
theorem DrawCtx.len (C : DrawCtx P om T call L ops all ord r0 s0 w0 e0 a0 nd va gd) {j : Nat} (hj : j ≤ ord.length) : (nd j).l.length = j := by
  induction j with
  | zero => rw [C.n0]; rfl
  | succ j ih => rw [(C.st j _ (List.getElem?_eq_getElem (by omega))).l, List.length_cons, ih (by omega)]
theorem DrawCtx.nth (C : DrawCtx P om T call L ops all ord r0 s0 w0 e0 a0 nd va gd) {j q : Nat} (hj : j ≤ ord.length) (hq : q < j) : lnth (nd j).l (j - 1 - q) = va q := by
  induction j with
  | zero => omega
  | succ j ih =>
    rw [(C.st j _ (List.getElem?_eq_getElem (by omega))).l]
    rcases Nat.lt_or_ge q j with h | h
    · have : j + 1 - 1 - q = (j - 1 - q) + 1 := by omega
      rw [this]
      exact ih (by omega) h
    · have hqj : q = j := by omega
      subst hqj
      have : q + 1 - 1 - q = 0 := by omega
      rw [this]
      rfl
theorem DrawCtx.envN (C : DrawCtx P om T call L ops all ord r0 s0 w0 e0 a0 nd va gd) {j t : Nat} (hj : j ≤ ord.length) (ht : has t L = true) (hn : ∀ q x, q < j → ord[q]? = some x → x.o.dst ≠ some t) : Env.get (slot L t) (nd j).e = Env.get (slot L t) e0 := by
  induction j with
  | zero => rw [C.n0]
  | succ j ih =>
    have hx := List.getElem?_eq_getElem (l := ord) (i := j) (by omega)
    rw [(C.st j _ hx).e]
    rw [← ih (by omega) fun q x hq => hn q x (by omega)]
    have hd := hn j _ (by omega) hx
    cases hdst : (ord[j]).o.dst with
    | none => rfl
    | some d =>
      rw [cDst_eq]
      split
      · rename_i hdl
        exact Env.get_set_ne (fun e1 => hd (by rw [hdst, slot_inj C.hL ht hdl e1])) _ _
      · rfl
theorem DrawCtx.envW (C : DrawCtx P om T call L ops all ord r0 s0 w0 e0 a0 nd va gd) {j t q : Nat} {x : DI} (hj : j ≤ ord.length) (ht : has t L = true) (hq : q < j) (hx : ord[q]? = some x) (hd : x.o.dst = some t) : Env.get (slot L t) (nd j).e = va q := by
  induction j with
  | zero => omega
  | succ j ih =>
    have hy := List.getElem?_eq_getElem (l := ord) (i := j) (by omega)
    rw [(C.st j _ hy).e]
    rcases Nat.lt_or_ge q j with h | h
    · rw [← ih (by omega) h]
      cases hdst : (ord[j]).o.dst with
      | none => rfl
      | some d =>
        rw [cDst_eq]
        split
        · rename_i hdl
          show Env.get (slot L t) (Env.set (slot L d) (va j) (nd j).e) = _
          refine Env.get_set_ne (fun e1 => ?_) _ _
          have := slot_inj C.hL ht hdl e1
          subst this
          have h1 := C.R.once x (C.R.omem x (List.mem_of_getElem? hx)) _ (C.R.omem _ (List.mem_of_getElem? hy)) t hd hdst
          have := C.R.facts.nodup q j x _ hx hy h1
          omega
        · rfl
    · have hqj : q = j := by omega
      subst hqj
      rw [hy] at hx
      cases hx
      rw [hd, cDst_eq, if_pos ht]
      exact Env.get_set_self _ _ _

/-! ### States ahead of changes -/
open Classical in
/-- How many changes are done from one place to another. -/
def dynCount (ord : List DI) (gd : Nat → Bool) (c : Nat) : Nat → Nat
  | 0 => 0
  | j + 1 => if c ≤ j ∧ Dyn ord gd j then dynCount ord gd c j + 1 else dynCount ord gd c j
theorem dynCount_le {c j : Nat} (h : j ≤ c) : dynCount ord gd c j = 0 := by
  induction j with
  | zero => rfl
  | succ j ih => rw [dynCount, if_neg (by omega)]; exact ih (by omega)
/-- A place behind a change (or the begin). -/
def IsCut (ord : List DI) (gd : Nat → Bool) (c : Nat) : Prop := c = 0 ∨ ∃ q, c = q + 1 ∧ Dyn ord gd q
theorem DrawCtx.snaps (C : DrawCtx P om T call L ops all ord r0 s0 w0 e0 a0 nd va gd) {c j : Nat} (hj : j ≤ ord.length) (hcj : c ≤ j) (hcut : IsCut ord gd c) : (nd j).snaps[dynCount ord gd c j]? = some (nd c).s := by
  induction j with
  | zero =>
    have : c = 0 := by omega
    subst this
    rw [C.n0]; rfl
  | succ j ih =>
    have hx := List.getElem?_eq_getElem (l := ord) (i := j) (by omega)
    have hs := C.st j _ hx
    by_cases hd : Dyn ord gd j
    · obtain ⟨y, h1, h2, h3⟩ := hd
      rw [hx] at h1
      cases h1
      have hsn : (nd (j + 1)).snaps = (nd (j + 1)).s :: (nd j).snaps := by
        rcases hs.yes h3 with ⟨k, _⟩ | ⟨k, _⟩ | ⟨k, _⟩ | ⟨_, _, k, _⟩
        · omega
        · omega
        · omega
        · exact k
      rw [hsn]
      rcases Nat.lt_or_ge j c with hc | hc
      · have : c = j + 1 := by omega
        subst this
        rw [dynCount_le (Nat.le_refl _)]
        rfl
      · rw [dynCount, if_pos ⟨hc, _, hx, h2, h3⟩]
        exact ih (by omega) hc
    · have hsn : (nd (j + 1)).snaps = (nd j).snaps := by
        cases hg : gd j with
        | false => exact (hs.no hg).2.2
        | true =>
          rcases hs.yes hg with ⟨_, _, k, _⟩ | ⟨_, _, k, _⟩ | ⟨_, _, k, _⟩ | ⟨k, _⟩
          · exact k
          · exact k
          · exact k
          · exact absurd ⟨_, hx, k, hg⟩ hd
      rcases Nat.lt_or_ge j c with hc | hc
      · rcases hcut with hc0 | ⟨q, hq, hdq⟩
        · omega
        · have : q = j := by omega
          subst this
          exact absurd hdq hd
      · rw [hsn, dynCount, if_neg fun h => hd h.2]
        exact ih (by omega) hc
theorem notIn_cons (m i : Nat) (l : List Nat) : notIn m (i :: l) = if tb m i then notIn m l else notIn m l + 1 := by
  show Bool.rec (motive := fun _ => Nat) (Nat.succ (notIn m l)) (notIn m l) (tb m i) = _
  cases tb m i <;> rfl
theorem DrawCtx.count (C : DrawCtx P om T call L ops all ord r0 s0 w0 e0 a0 nd va gd) {c j m : Nat} (hj : j ≤ ord.length) (h : ∀ q x, c ≤ q → q < j → ord[q]? = some x → Dyn ord gd q → tb m x.i = false) : dynCount ord gd c j ≤ notIn m (effsOf (ord.take j)) := by
  induction j with
  | zero => exact Nat.zero_le _
  | succ j ih =>
    have hx := List.getElem?_eq_getElem (l := ord) (i := j) (by omega)
    have hih := ih (by omega) fun q x h1 h2 => h q x h1 (by omega)
    have htk : ord.take (j + 1) = ord.take j ++ [ord[j]] := by rw [List.take_add_one, hx]; rfl
    rw [htk, effsOf_snoc, dynCount]
    split
    · rename_i hd
      obtain ⟨hcj, y, h1, h2, h3⟩ := hd
      rw [hx] at h1
      cases h1
      unfold effsMore
      rw [h2]
      show _ ≤ notIn m ((ord[j]).i :: effsOf (ord.take j))
      rw [notIn_cons, h j _ hcj (by omega) hx ⟨_, hx, h2, h3⟩]
      simp only [Bool.false_eq_true, if_false]
      omega
    · unfold effsMore
      split
      · rw [notIn_cons]
        split <;> omega
      · exact hih
end
end
end Go.Cx

/-! ## Regions whose order is open: what holds in any order. -/
set_option linter.unusedVariables false
set_option linter.unusedSimpArgs false
namespace Go.Cx
noncomputable section
variable {om : Nat → Value} {r r' : Rho} {w w' : World} {P : Program} {s s' : St} {av : AVal}
variable {l : List AVal} {e : Env} {T : Tab} {call : CallT} {L : List Nat}
variable {ops : Array Oper} {all ord : List DI} {r0 : Rho} {s0 : St} {w0 : World} {e0 : Env} {a0 : Act} {nd : Nat → TN} {va : Nat → AVal} {gd : Nat → Bool}

/-- A block that was made, whose place in the one order is not yet come to. -/
def Ex (ord : List DI) (gd : Nat → Bool) (D : Nat → Prop) (c j : Nat) : Prop := D j ∧ c ≤ j ∧ Alc ord gd j
/-- Blocks that are looked at. -/
def LiveC (ord : List DI) (nd : Nat → TN) (gd : Nat → Bool) (D : Nat → Prop) (c : Nat) (i : Id) : Prop := (nd c).s.at i ≠ .none ∨ ∃ j, Ex ord gd D c j ∧ i = (nd j).s.n
/-- Such a block. -/
structure ExOK (om : Nat → Value) (nd : Nat → TN) (w0 : World) (ro : Rho) (w : World) (j : Nat) (p : Pl) : Prop where
  name : ro (nd j).s.n = some p
  new : w0.heap.size ≤ p.b
  blk : ∃ b n o, n.num = (nd j).s.n.num + 1 ∧ (nd (j + 1)).s = ⟨Heap.set (nd j).s.n b (nd j).s.h, n, (nd j).s.ro⟩ ∧ w.heap[p.b]? = some o ∧ BRel om (cutR ro (nd (j + 1)).s.n) b p o

/-- What holds when some operations are done, in whatever order. -/
structure Inv (om : Nat → Value) (ord : List DI) (r0 : Rho) (s0 : St) (w0 : World) (a0 : Act) (nd : Nat → TN) (va : Nat → AVal) (gd : Nat → Bool) (D : Nat → Prop) (c : Nat) (ro : Rho) (w : World) (a : Act) : Prop where
  clen : c ≤ ord.length
  done : ∀ q, q < c → D q
  cut : IsCut ord gd c
  eff : ∀ q, D q → c ≤ q → ¬ Dyn ord gd q
  closed : ∀ j x, D j → ord[j]? = some x → ∀ i, tb x.mask i = true → ∃ q y, D q ∧ ord[q]? = some y ∧ y.i = i
  post : Post om r0 s0 w0 (cutR ro (nd c).s.n) (nd c).s w
  vals : ∀ j x d, D j → ord[j]? = some x → x.o.dst = some d → VRel om (cutR ro (nd (j + 1)).s.n) (va j) (a.tmps.getD d undef)
  rest : ∀ t, (∀ j x, D j → ord[j]? = some x → x.o.dst ≠ some t) → a.tmps.getD t undef = a0.tmps.getD t undef
  size : a.tmps.size = a0.tmps.size
  defers : a.defers = a0.defers
  ex : ∀ j, Ex ord gd D c j → ∃ p, ExOK om nd w0 ro w j p
  inj : ∀ i i' p p', LiveC ord nd gd D c i → LiveC ord nd gd D c i' → ro i = some p → ro i' = some p' → p.b = p'.b → i = i'
  dom : ∀ i p, ro i = some p → i.num < (nd c).s.n.num ∨ ∃ j, Ex ord gd D c j ∧ i = (nd j).s.n

variable {D : Nat → Prop} {c : Nat} {ro : Rho} {a : Act}

theorem idx_lt {α : Type} {l : List α} {j : Nat} {x : α} (h : l[j]? = some x) : j < l.length := (List.getElem?_eq_some_iff.1 h).1

/-- At the begin. -/
theorem Inv.start (C : DrawCtx P om T call L ops all ord r0 s0 w0 e0 a0 nd va gd) : Inv om ord r0 s0 w0 a0 nd va gd (fun _ => False) 0 r0 w0 a0 := by
  have h0 : (nd 0).s = s0 := by rw [C.n0]
  have hc : cutR r0 s0.n = r0 := funext fun i => by
    unfold cutR
    split
    · rfl
    · cases h : r0 i with
      | none => rfl
      | some p => exact absurd (C.sim0.dom i p h).1 (by assumption)
  refine ⟨Nat.zero_le _, fun q h => by omega, .inl rfl, fun q h => h.elim, fun j x h => h.elim, ?_, fun j x d h => h.elim, fun t _ => rfl, rfl, rfl, fun j h => h.1.elim, ?_, ?_⟩
  · rw [h0, hc]; exact Post.refl C.sim0
  · rintro i i' p p' (h1 | ⟨j, h1, _⟩) (h2 | ⟨j', h2, _⟩) h3 h4 h5
    · rw [h0] at h1 h2; exact C.sim0.sw.inj i i' p p' h1 h2 h3 h4 h5
    · exact h2.1.elim
    · exact h1.1.elim
    · exact h1.1.elim
  · intro i p h
    rw [h0]
    exact .inl (C.sim0.dom i p h).1

section
variable (C : DrawCtx P om T call L ops all ord r0 s0 w0 e0 a0 nd va gd) (I : Inv om ord r0 s0 w0 a0 nd va gd D c ro w a)

theorem Inv.ext0 (C : DrawCtx P om T call L ops all ord r0 s0 w0 e0 a0 nd va gd) (I : Inv om ord r0 s0 w0 a0 nd va gd D c ro w a) {j : Nat} (hj : j ≤ ord.length) : Ext r0 (cutR ro (nd j).s.n) := fun i p h => by
  have h1 := (C.sim0.dom i p h).1
  have h2 := I.post.old i h1
  rw [h] at h2
  have h3 := C.num (Nat.zero_le j) hj
  have h0 : (nd 0).s.n = s0.n := by rw [C.n0]
  rw [h0] at h3
  exact cutR_mk (by omega) (cutR_some h2).2

/-- What an operation looks at. -/
theorem Inv.tmp (C : DrawCtx P om T call L ops all ord r0 s0 w0 e0 a0 nd va gd) (I : Inv om ord r0 s0 w0 a0 nd va gd D c ro w a) {j : Nat} {x : DI} (hx : ord[j]? = some x) (hD : ¬ D j)
    (hm : ∀ i, tb x.mask i = true → ∃ q y, D q ∧ ord[q]? = some y ∧ y.i = i) {t : Nat} (ht : ∀ y ∈ all, y.o.dst = some t → tb x.mask y.i = true ∨ tb y.mask x.i = true) :
    VRel om (cutR ro (nd j).s.n) (ev ((posOf L (knownOf (ord.take j)) (.tmp t)).opd j) (nd j).l (nd j).e) (a.tmps.getD t undef) := by
  have hj := idx_lt hx
  rw [posOf_tmp]
  cases hf : findPos t (knownOf (ord.take j)) with
  | some p =>
    obtain ⟨q, y, h1, h2, h3⟩ := knownOf_find hf
    subst h1
    have hqj : q < j := by have := idx_lt h2; rw [List.length_take] at this; omega
    rw [List.getElem?_take, if_pos hqj] at h2
    show VRel om _ (lnth (nd j).l (j - 1 - q)) _
    rw [C.nth (by omega) hqj]
    have hDq : D q := by
      rcases ht y (C.R.omem y (List.mem_of_getElem? h2)) h3 with h | h
      · obtain ⟨q', y', k1, k2, k3⟩ := hm _ h
        rw [C.R.facts.nodup q q' y y' h2 k2 k3.symm]
        exact k1
      · obtain ⟨q', y', k1, k2, k3⟩ := C.R.facts.masks q y h2 _ h
        have := C.R.facts.nodup j q' x y' hx k2 k3.symm
        omega
    exact (I.vals q y t hDq h2 h3).mono (cutR_le (C.num (by omega) (by omega)))
  | none =>
    show VRel om _ (ev ((posEnv L t).opd j) _ _) _
    rw [posEnv_eq]
    split
    · rename_i htl
      have hno := knownOf_none hf
      have hno' : ∀ q y, q < j → ord[q]? = some y → y.o.dst ≠ some t := fun q y hq hy => hno y (List.mem_of_getElem? (i := q) (by rw [List.getElem?_take, if_pos hq]; exact hy))
      show VRel om _ (Env.get (slot L t) (nd j).e) _
      rw [C.envN (by omega) htl hno', I.rest t fun q y hq hy hd => ?_]
      · exact (C.env0 t htl).mono (I.ext0 C (by omega))
      · have hqj : ¬ q < j := fun h => hno' q y h hy hd
        have hne : q ≠ j := fun h => by subst h; exact hD hq
        rcases ht y (C.R.omem y (List.mem_of_getElem? hy)) hd with h | h
        · obtain ⟨q', y', k1, k2, k3⟩ := C.R.facts.masks j x hx _ h
          have := C.R.facts.nodup q q' y y' hy k2 k3.symm
          omega
        · obtain ⟨q', y', k1, k2, k3⟩ := I.closed q y hq hy _ h
          have := C.R.facts.nodup j q' x y' hx k2 k3.symm
          subst this
          exact hD k1
    · exact .bad _
open Classical in
/-- The operands of an operation alone. -/
def cOnly (c : Operand → AOpd) (o : Op) : Operand → AOpd := fun x => if x ∈ o.operands then c x else .const .bad
theorem Inv.opd (C : DrawCtx P om T call L ops all ord r0 s0 w0 e0 a0 nd va gd) (I : Inv om ord r0 s0 w0 a0 nd va gd D c ro w a) {j : Nat} {x : DI} (hx : ord[j]? = some x) (hD : ¬ D j)
    (hm : ∀ i, tb x.mask i = true → ∃ q y, D q ∧ ord[q]? = some y ∧ y.i = i) (y : Operand) :
    VRel om (cutR ro (nd j).s.n) (ev (cOnly (cAt L (knownOf (ord.take j)) j) x.o.op y) (nd j).l (nd j).e) (a.eval y) := by
  unfold cOnly
  split
  · rename_i hy
    cases y with
    | tmp t => exact I.tmp C hx hD hm fun z hz hd => C.R.opd x (C.R.omem x (List.mem_of_getElem? hx)) t hy z hz hd
    | const v => exact ofValue_ok v
    | global g => exact .bad _
    | func f => exact .func _ _ _ [] [] .nil .nil
  · exact .bad _
theorem cOnly_eq (c : Operand → AOpd) (o : Op) : cOp P (cOnly c o) o = cOp P c o := cOp_congr fun x hx => by unfold cOnly; rw [if_pos hx]

/-- Its guard. -/
theorem Inv.wanted (C : DrawCtx P om T call L ops all ord r0 s0 w0 e0 a0 nd va gd) (I : Inv om ord r0 s0 w0 a0 nd va gd D c ro w a) {j : Nat} {x : DI} (hx : ord[j]? = some x) (hD : ¬ D j)
    (hm : ∀ i, tb x.mask i = true → ∃ q y, D q ∧ ord[q]? = some y ∧ y.i = i) : Region.wanted x.o (yielded ops a.tmps) = gd j := by
  have hg := (C.st j x hx).guard
  unfold GuardAt at hg
  unfold Region.wanted
  split
  · rename_i h; rw [h] at hg; exact hg.symm
  · rename_i g want h
    rw [h] at hg
    have hxa := C.R.omem x (List.mem_of_getElem? hx)
    have hgm := C.R.guard x hxa g want h
    have ho2 : (∃ d op type pos after guard, ops[g]? = some { dst := some d, op, type, pos, after, guard } ∧ VRel om (cutR ro (nd j).s.n) (ev (guardPos L (knownOf (ord.take j)) j want (opAt ops.toList g)).1 (nd j).l (nd j).e) (a.tmps.getD d undef) ∧
        (guardPos L (knownOf (ord.take j)) j want (opAt ops.toList g)).2 = want) ∨ ev (guardPos L (knownOf (ord.take j)) j want (opAt ops.toList g)).1 (nd j).l (nd j).e = .bad := by
      rw [opAt_eq]
      unfold guardPos
      split
      · rename_i d op type pos after guard ho
        have ho' : ops[g]? = some { dst := some d, op, type, pos, after, guard } := by rw [← Array.getElem?_toList]; exact ho
        obtain ⟨z, z1, z2, z3⟩ := C.R.every g _ ho'
        refine .inl ⟨d, op, type, pos, after, guard, ho', ?_, rfl⟩
        exact I.tmp C hx hD hm (t := d) fun y hy hd => .inl (by
          have := C.R.once y hy z z1 d hd (by rw [z3])
          rw [this, z2]; exact hgm)
      · exact .inr rfl
    rcases hg with ⟨b, h1, h2⟩ | ⟨h1, q, h2⟩
    · rcases ho2 with ⟨d, op, type, pos, after, guard, ho', hv, hw2⟩ | hb
      · rw [hw2] at h2
        rw [h1] at hv
        have hyl : yielded ops a.tmps g = some b := by
          unfold yielded
          rw [ho']
          show (match (a.tmps[d]? : Option Value) with | some (.bool b) => some b | _ => none) = _
          have hv2 : a.tmps.getD d undef = .bool b := by
            generalize a.tmps.getD d undef = q at hv
            cases hv; rfl
          cases hd : a.tmps[d]? with
          | none => simp [Array.getD_eq_getD_getElem?, hd, undef] at hv2
          | some v =>
            simp [Array.getD_eq_getD_getElem?, hd] at hv2
            rw [hv2]
        rw [hyl, ← h2]
        show (some b == some want) = (b == want)
        cases b <;> cases want <;> rfl
      · rw [hb] at h1; cases h1
    · rcases ho2 with ⟨d, op, type, pos, after, guard, ho', hv, hw2⟩ | hb
      · rw [h2] at hv
        have hyl : yielded ops a.tmps g = none := by
          unfold yielded
          rw [ho']
          show (match (a.tmps[d]? : Option Value) with | some (.bool b) => some b | _ => none) = _
          generalize hq : a.tmps.getD d undef = u at hv
          cases hv with | tup _ y hy =>
          cases hd : a.tmps[d]? with
          | none => rfl
          | some v =>
            simp [Array.getD_eq_getD_getElem?, hd] at hq
            rw [hq]
        rw [hyl, h1]
        rfl
      · rw [hb] at h2; cases h2

/-- One more that changed no names. -/
theorem Inv.more (C : DrawCtx P om T call L ops all ord r0 s0 w0 e0 a0 nd va gd) (I : Inv om ord r0 s0 w0 a0 nd va gd D c ro w a) {j : Nat} {x : DI} (hx : ord[j]? = some x) (hD : ¬ D j)
    (hm : ∀ i, tb x.mask i = true → ∃ q y, D q ∧ ord[q]? = some y ∧ y.i = i) (hnd : ¬ Dyn ord gd j) (hna : ¬ Alc ord gd j) {v : Value} (hv : VRel om (cutR ro (nd (j + 1)).s.n) (va j) v) :
    Inv om ord r0 s0 w0 a0 nd va gd (fun q => D q ∨ q = j) c ro w (a.put x.o.dst v) := by
  have hex : ∀ q, Ex ord gd (fun q => D q ∨ q = j) c q ↔ Ex ord gd D c q := fun q => by
    unfold Ex
    constructor
    · rintro ⟨h1 | h1, h2, h3⟩
      · exact ⟨h1, h2, h3⟩
      · subst h1; exact absurd h3 hna
    · rintro ⟨h1, h2, h3⟩; exact ⟨.inl h1, h2, h3⟩
  have hlive : ∀ i, LiveC ord nd gd (fun q => D q ∨ q = j) c i ↔ LiveC ord nd gd D c i := fun i => by
    unfold LiveC; simp only [hex]
  have hxa := C.R.omem x (List.mem_of_getElem? hx)
  have hds : ∀ d, x.o.dst = some d → d < a.tmps.size := fun d hd => by rw [I.size]; exact C.size x hxa d hd
  have other : ∀ t, x.o.dst ≠ some t → (a.put x.o.dst v).tmps.getD t undef = a.tmps.getD t undef := fun t ht => by
    cases hd : x.o.dst with
    | none => rfl
    | some d =>
      show (a.tmps.setIfInBounds d v).getD t undef = _
      rw [getD_set (hds d hd), if_neg fun e1 => ht (by rw [hd, e1])]
  refine ⟨I.clen, fun q h => .inl (I.done q h), I.cut, ?_, ?_, I.post, ?_, ?_, by rw [Act.put_size]; exact I.size, by rw [Act.put_def]; exact I.defers, fun q h => I.ex q ((hex q).1 h),
    fun i i' p p' h1 h2 => I.inj i i' p p' ((hlive i).1 h1) ((hlive i').1 h2), fun i p h => (I.dom i p h).imp id fun ⟨q, h1, h2⟩ => ⟨q, (hex q).2 h1, h2⟩⟩
  · rintro q (h | h) hc
    · exact I.eff q h hc
    · subst h; exact hnd
  · rintro q y (h | h) hy i hi
    · obtain ⟨q', y', k1, k2, k3⟩ := I.closed q y h hy i hi
      exact ⟨q', y', .inl k1, k2, k3⟩
    · subst h
      rw [hx] at hy
      cases hy
      obtain ⟨q', y', k1, k2, k3⟩ := hm i hi
      exact ⟨q', y', .inl k1, k2, k3⟩
  · rintro q y d (h | h) hy hd
    · rw [other d fun e1 => ?_]
      · exact I.vals q y d h hy hd
      · have := C.R.once x hxa y (C.R.omem y (List.mem_of_getElem? hy)) d e1 hd
        have := C.R.facts.nodup j q x y hx hy this
        subst this
        exact hD h
    · subst h
      rw [hx] at hy
      cases hy
      rw [hd]
      show VRel om _ _ ((a.tmps.setIfInBounds d v).getD d undef)
      rw [getD_set (hds d hd), if_pos rfl]
      exact hv
  · intro t ht
    rw [other t (ht j x (.inr rfl) hx)]
    exact I.rest t fun q y hq => ht q y (.inl hq)
end
end
end Go.Cx
