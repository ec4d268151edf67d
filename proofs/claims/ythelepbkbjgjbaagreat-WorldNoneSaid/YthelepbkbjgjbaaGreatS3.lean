/-
  The abstract machine is sound: part 3.
-/
import Derived.Test.YthelepbkbjgjbaaGreatS2
import Derived.Laws.BytesString
import Derived.Laws.MakeOwn
import Derived.Laws.RangeString
import Derived.Laws.Append
set_option linter.unusedVariables false
set_option linter.unusedSimpArgs false
/-! ## Keys of maps. -/
set_option linter.unusedVariables false
set_option linter.unusedSimpArgs false
namespace Go.Cx
noncomputable section
variable {om : Nat → Value} {r : Rho} {w w' : World} {P : Program} {s s' : St} {av : AVal}

/-- Values that are the same are one value. -/
theorem aeq1_same {k : EK1} (hk : k = .bool ∨ k = .int ∨ k = .str) {x y : AVal} {v u : Value} (h : aeq1 k x y = some true) (hx : VRel om r x v) (hy : VRel om r y u) :
    v = u ∧ ∀ n, Instr.sameBits n v u = true := by
  rcases hk with rfl | rfl | rfl
  · replace h : axBool x y = some true := h
    cases x <;> first | (cases h; done) | skip
    rename_i a
    replace h : aeBool y a = some true := h
    cases y <;> first | (cases h; done) | skip
    rename_i c
    cases hx; cases hy
    have : a = c := by cases a <;> cases c <;> first | rfl | (cases h; done)
    subst this
    exact ⟨rfl, fun n => by cases n <;> simp [Instr.sameBits]⟩
  · replace h : axInt x y = some true := h
    cases x <;> first | (cases h; done) | skip
    rename_i k a
    replace h : aeInt y k a = some true := h
    cases y <;> first | (cases h; done) | skip
    rename_i k' c
    cases hx; cases hy
    replace h : Bool.rec (motive := fun _ => Option Bool) none (some (ieq a c)) (kbeq k k') = some true := h
    cases hk : kbeq k k' with
    | false => rw [hk] at h; cases h
    | true =>
      rw [hk] at h
      have := kbeq_eq hk
      subst this
      replace h : some (ieq a c) = some true := h
      rw [Option.some.injEq, ieq_eq, beq_iff_eq] at h
      subst h
      exact ⟨rfl, fun n => by cases n <;> simp [Instr.sameBits]⟩
  · replace h : axStr x y = some true := h
    cases x <;> first | (cases h; done) | skip
    rename_i n d
    replace h : aeStr y n d = some true := h
    cases y <;> first | (cases h; done) | skip
    rename_i m e
    cases hx; cases hy
    replace h : some (strEq n d m e) = some true := h
    rw [Option.some.injEq] at h
    have := (strEq_iff n d m e).1 h
    rw [this]
    exact ⟨rfl, fun n => by cases n <;> simp [Instr.sameBits, beq_toListBytes]⟩
theorem ekOne_kind {t : Nat} {k : EK1} (h : ekOne P t = some k) : k = .bool ∨ k = .int ∨ k = .str := by
  unfold ekOne at h
  split at h <;> first | (cases h; done) | (cases h; simp)
theorem aeqList_same {k : EK1} (hk : k = .bool ∨ k = .int ∨ k = .str) : ∀ (n : Nat) {l m : List AVal} {xs ys : List Value}, aeqList (List.replicate n k) l m = some true → CRel om r l xs → CRel om r m ys →
    xs = ys ∧ ∀ d, (xs.zip ys).all (fun (x, y) => Instr.sameBits d x y) = true
  | 0, l, m, xs, ys, h, hl, hm => by
    cases l with
    | nil => cases m with
      | nil => cases hl; cases hm; exact ⟨rfl, fun _ => rfl⟩
      | cons _ _ => cases h
    | cons _ _ => cases h
  | n + 1, l, m, xs, ys, h, hl, hm => by
    rw [List.replicate_succ] at h
    cases l with
    | nil => cases h
    | cons x l => cases m with
      | nil => cases h
      | cons y m =>
        simp only [aeqList] at h
        split at h
        · rename_i e
          have one := aeq1_one e
          obtain ⟨v, xs', rfl, hv, hl', _⟩ := hl.inv1 one.1
          obtain ⟨u, ys', rfl, hu, hm', _⟩ := hm.inv1 one.2
          obtain ⟨h1, h2⟩ := aeq1_same hk e hv hu
          obtain ⟨h3, h4⟩ := aeqList_same hk n h hl' hm'
          subst h1 h3
          exact ⟨rfl, fun d => by simp [h2 d, h4 d]⟩
        · rename_i o hne; exact absurd h hne

theorem now_bool {x y : AVal} {v u : Value} {b : Bool} (h : aeq1 .bool x y = some b) (hx : VRel om r x v) (hy : VRel om r y u) : Instr.sameNow .bool v u = some b := by
  replace h : axBool x y = some b := h
  cases x <;> first | (cases h; done) | skip
  rename_i a
  replace h : aeBool y a = some b := h
  cases y <;> first | (cases h; done) | skip
  rename_i c
  cases hx; cases hy; cases h
  simp only [Instr.sameNow]
  cases a <;> cases c <;> rfl
theorem now_int {x y : AVal} {v u : Value} {b : Bool} {k0 : IntKind} (h : aeq1 .int x y = some b) (hx : VRel om r x v) (hy : VRel om r y u) : Instr.sameNow (.int k0) v u = some b := by
  replace h : axInt x y = some b := h
  cases x <;> first | (cases h; done) | skip
  rename_i k a
  replace h : aeInt y k a = some b := h
  cases y <;> first | (cases h; done) | skip
  rename_i k' c
  cases hx; cases hy
  replace h : Bool.rec (motive := fun _ => Option Bool) none (some (ieq a c)) (kbeq k k') = some b := h
  cases hk : kbeq k k' with
  | false => rw [hk] at h; cases h
  | true =>
    rw [hk] at h
    have := kbeq_eq hk
    subst this
    cases h
    simp only [Instr.sameNow, if_true, ieq_eq]
theorem now_str {x y : AVal} {v u : Value} {b : Bool} (h : aeq1 .str x y = some b) (hx : VRel om r x v) (hy : VRel om r y u) : Instr.sameNow .string v u = some b := by
  replace h : axStr x y = some b := h
  cases x <;> first | (cases h; done) | skip
  rename_i n d
  replace h : aeStr y n d = some b := h
  cases y <;> first | (cases h; done) | skip
  rename_i m e
  cases hx; cases hy; cases h
  simp only [Instr.sameNow, strEq_eq]

/-- How keys are found. -/
theorem key_ok {t : Nat} {x y : AVal} {v u : Value} {b : Bool} (h : aeq (ekKey P t) x y = some b) (hx : VRel om r x v) (hy : VRel om r y u) :
    (∀ d w, (Op.equalIn (d + 2) t v u).run P w = .ok b w) ∧ (∃ d, P.underlying t = some d ∧ (Instr.sameNow d v u = some b ∨ Instr.sameNow d v u = none)) ∧ (b = true → v = u ∧ Instr.sameBits 10000 v u = true) := by
  have one : ∀ {k : EK1} {d : TypeDesc}, k = .bool ∨ k = .int ∨ k = .str → k.fits P t → P.underlying t = some d → (∀ b, aeq1 k x y = some b → Instr.sameNow d v u = some b) → aeq1 k x y = some b →
      (∀ d w, (Op.equalIn (d + 2) t v u).run P w = .ok b w) ∧ (∃ d, P.underlying t = some d ∧ (Instr.sameNow d v u = some b ∨ Instr.sameNow d v u = none)) ∧ (b = true → v = u ∧ Instr.sameBits 10000 v u = true) := fun hk hf hd hs h => by
    refine ⟨fun d w => (aeq1_ok hf h hx hy (d + 1) w).1, ⟨_, hd, .inl (hs b h)⟩, fun hb => ?_⟩
    subst hb
    obtain ⟨h1, h2⟩ := aeq1_same hk h hx hy
    exact ⟨h1, h2 _⟩
  unfold ekKey at h
  split at h
  · rename_i e
    exact one (k := .bool) (.inl rfl) e e (fun b h => now_bool h hx hy) h
  · rename_i k0 e
    exact one (k := .int) (.inr (.inl rfl)) ⟨_, e⟩ e (fun b h => now_int h hx hy) h
  · rename_i e
    exact one (k := .str) (.inr (.inr rfl)) e e (fun b h => now_str h hx hy) h
  · rename_i n e ht
    split at h
    · rename_i hc
      simp only [Bool.and_eq_true, Nat.beq_eq] at hc
      obtain ⟨hkn, hsz⟩ := hc
      split at h
      · rename_i k hk
        have h' : aeqRow (List.replicate n k) x y = some b := h
        unfold aeqRow at h'
        split at h'
        · rename_i l m e1 e2
          obtain ⟨xs, rfl, hl⟩ := rowOf_ok e1 hx
          obtain ⟨ys, rfl, hm⟩ := rowOf_ok e2 hy
          refine ⟨fun d w => ?_, ⟨_, ht, .inr rfl⟩, fun hb => ?_⟩
          · rw [run_equalIn_array (d + 1) t n e _ _ ht hkn, hsz]
            exact aeqList_array hkn hsz hk n 0 l m xs ys [] [] b h' hl hm rfl rfl w
          · subst hb
            obtain ⟨h1, h2⟩ := aeqList_same (ekOne_kind hk) n h' hl hm
            subst h1
            refine ⟨rfl, ?_⟩
            have := h2 9999
            simp only [Instr.sameBits, List.size_toArray, beq_self_eq_true, Bool.true_and]
            exact this
        · cases h'
      · cases h
    · cases h
  · cases h

theorem flat_len : ∀ {l : List AVal} {xs : List Value}, CRel om r l xs → l.all isScalar = true → xs.length = l.length
  | [], xs, h, _ => by cases h; rfl
  | a :: l, xs, h, h2 => by
    rw [List.all_cons, Bool.and_eq_true] at h2
    obtain ⟨y, ys, rfl, _, t, _⟩ := h.inv1 (oneC_of_scalar h2.1)
    rw [List.length_cons, List.length_cons, flat_len t h2.2]
theorem checkKey_array {t e n : Nat} {empty : Bool} (M : Nat) (ht : P.underlying t = some (.array n e)) (hkn : kn P e = true) (hsz : sizeA P e = 1) (hagg : isAggA P e = false) {xs : List Value} (hlen : xs.length = n)
    (h : ∀ v w, (Instr.checkKey empty M e v).run P w = .ok () w) (w : World) : (Instr.checkKey empty (M + 1) t (.agg xs.toArray)).run P w = .ok () w := by
  have loop : ∀ (m i : Nat) (w : World), i + m ≤ n →
      (forIn (List.range' i m) PUnit.unit (fun j (_ : PUnit) => do
        Instr.checkKey empty M e (← part e xs.toArray (j * (← sizeOf e)))
        pure (ForInStep.yield PUnit.unit)) : Sem PUnit).run P w = .ok () w := by
    intro m
    induction m with
    | zero => intro i w _; simp
    | succ m ih =>
      intro i w hi
      obtain ⟨y, hy⟩ : ∃ y, xs[i]? = some y := ⟨xs[i]'(by omega), by rw [List.getElem?_eq_getElem]⟩
      have p1 := fun w => run_part_one (P := P) (t := e) (off := i) (cs := xs.toArray) (v := y) hkn hagg (by simpa using hy) w
      rw [List.range'_succ, List.forIn_cons]
      simp only [Sem.run_bind, run_sizeOf' hkn, hsz, Nat.mul_one, Result.andThen_ok, p1, h, Sem.run_pure]
      exact ih (i + 1) w (by omega)
  have := loop n 0 w (by omega)
  simp only [Instr.checkKey, Sem.run_bind, run_underlying ht, Result.andThen_ok]
  rw [Std.Legacy.Range.forIn_eq_forIn_range']
  simp only [Std.Legacy.Range.size, Nat.sub_zero, Nat.add_sub_cancel, Nat.div_one]
  rw [this]
  rfl
/-- A key may be looked up. -/
theorem run_checkKey {t : Nat} (empty : Bool) {x : AVal} {v : Value} (hx : VRel om r x v) (hk : keyOk (ekKey P t) x = true) (w : World) : (Instr.checkKey empty 10000 t v).run P w = .ok () w := by
  have flat : ∀ {t d} (n : Nat) (v : Value) (w : World), P.underlying t = some d → (d = .bool ∨ (∃ k, d = .int k) ∨ d = .string) → (Instr.checkKey empty (n + 1) t v).run P w = .ok () w := fun n v w hd hb => by
    rcases hb with rfl | ⟨k, rfl⟩ | rfl <;> simp [Instr.checkKey, run_underlying hd]
  have e1 : ∀ (N : Nat) (q : EK), ekKey P t = q → keyOk q x = true → (Instr.checkKey empty (N + 2) t v).run P w = .ok () w := fun N q hq hk => by
    unfold ekKey at hq
    split at hq
    · rename_i e; exact flat (N + 1) v w e (.inl rfl)
    · rename_i k e; exact flat (N + 1) v w e (.inr (.inl ⟨_, rfl⟩))
    · rename_i e; exact flat (N + 1) v w e (.inr (.inr rfl))
    · rename_i n e ht
      split at hq
      · rename_i hc
        simp only [Bool.and_eq_true, Nat.beq_eq] at hc
        obtain ⟨hkn, hsz⟩ := hc
        split at hq
        · rename_i k hk1
          subst hq
          simp only [keyOk] at hk
          split at hk
          · rename_i l hl
            rw [band_true, List.length_replicate] at hk
            obtain ⟨h1, h2⟩ := hk
            have h1 := Nat.eq_of_beq_eq_true h1
            obtain ⟨xs, rfl, hc⟩ := rowOf_ok hl hx
            have hlen : xs.length = n := by rw [flat_len hc h2, h1]
            obtain ⟨hf, hagg⟩ := ekOne_fits hk1
            have hud : ∃ d, P.underlying e = some d ∧ (d = .bool ∨ (∃ k, d = .int k) ∨ d = .string) := by
              unfold ekOne at hk1
              split at hk1 <;> first | (cases hk1; done) | skip
              · rename_i e0; exact ⟨_, e0, .inl rfl⟩
              · rename_i e0; exact ⟨_, e0, .inr (.inl ⟨_, rfl⟩)⟩
              · rename_i e0; exact ⟨_, e0, .inr (.inr rfl)⟩
            obtain ⟨d, hd, hdk⟩ := hud
            exact checkKey_array (N + 1) ht hkn hsz hagg hlen (fun v w => flat N v w hd hdk) w
          · cases hk
        · subst hq; cases hk
      · subst hq; cases hk
    · subst hq; cases hk
  exact e1 9998 _ rfl hk
end
end Go.Cx

/-! ## Operations that read. -/
set_option linter.unusedVariables false
set_option linter.unusedSimpArgs false
namespace Go.Cx
noncomputable section
variable {om : Nat → Value} {r : Rho} {w w' : World} {P : Program} {s s' : St} {av : AVal}

/-- What a search for a key finds. -/
inductive Found (om : Nat → Value) (r : Rho) (kv : Value) (l : List ME) (es : List MapEntry) (i : Nat) : Option Nat → Option (Nat × Value) → Prop
  | no : Found om r kv l es i none none
  | yes (j : Nat) (e : ME) (x : MapEntry) (he : mnth l j = some e) (hx : es[j]? = some x) (hv : VRel om r e.val x.val) (hb : x.born = e.born) (hk : kv = x.key) (hs : Instr.sameBits 10000 x.key kv = true) :
      Found om r kv l es i (some (i + j)) (some (i + j, x.val))
theorem mscan_ok {t : Nat} {d : TypeDesc} (hd : P.underlying t = some d) {k : AVal} {kv : Value} (hk : VRel om r k kv) : ∀ {l : List ME} {es : List MapEntry} {i : Nat} {res : Option Nat}, MRel om r l es →
    mscan (ekKey P t) k l i = some res → ∃ R, (∀ w, (Instr.findAsking t kv es i).run P w = .ok R w) ∧ (Instr.findNow d kv es i = some R ∨ Instr.findNow d kv es i = none) ∧ Found om r kv l es i res R
  | [], es, i, res, hm, h => by
    cases hm
    cases h
    exact ⟨none, fun w => by simp [Instr.findAsking], .inl rfl, .no⟩
  | e :: l, es, i, res, hm, h => by
    cases hm with | cons _ x _ y h1 h2 h3 t' =>
    have h' : Option.rec (motive := fun _ => Option (Option Nat)) none (fun b => Bool.rec (motive := fun _ => Option (Option Nat)) (mscan (ekKey P t) k l (i + 1)) (some (some i)) b) (aeq (ekKey P t) k e.key) = some res := h
    cases ha : aeq (ekKey P t) k e.key with
    | none => rw [ha] at h'; cases h'
    | some b =>
      rw [ha] at h'
      obtain ⟨g1, ⟨d', g2, g3⟩, g4⟩ := key_ok (P := P) ha hk h1
      rw [hd, Option.some.injEq] at g2
      subst g2
      have ge : ∀ w, (Op.equal t kv x.key).run P w = .ok b w := fun w => g1 9998 w
      cases b with
      | true =>
        cases h'
        obtain ⟨g5, g6⟩ := g4 rfl
        refine ⟨some (i, x.val), fun w => ?_, ?_, ?_⟩
        · simp [Instr.findAsking, ge w]
        · rcases g3 with g3 | g3
          · left; simp only [Instr.findNow, g3]
          · right; simp only [Instr.findNow, g3]
        · have := Found.yes (om := om) (r := r) (kv := kv) (l := e :: l) (es := x :: y) (i := i) 0 e x rfl rfl h2 h3 g5 (by rw [g5] at g6 ⊢; exact g6)
          exact this
      | false =>
        obtain ⟨R, r1, r2, r3⟩ := mscan_ok hd hk t' (show mscan (ekKey P t) k l (i + 1) = some res from h')
        refine ⟨R, fun w => ?_, ?_, ?_⟩
        · simp only [Instr.findAsking, Sem.run_bind, ge w, Result.andThen_ok, Bool.false_eq_true, if_false]
          exact r1 w
        · rcases g3 with g3 | g3
          · simp only [Instr.findNow, g3]; exact r2
          · right; simp only [Instr.findNow, g3]
        · cases r3 with
          | no => exact .no
          | yes j e' x' he hx hv hb hk' hs =>
            have := Found.yes (om := om) (r := r) (kv := kv) (l := e :: l) (es := x :: y) (i := i) (j + 1) e' x' he (by simpa using hx) hv hb hk' hs
            have e1 : i + (j + 1) = i + 1 + j := by omega
            rw [e1] at this
            exact this
theorem ekKey_desc {t : Nat} (h : (ekKey P t).isNo = false) : ∃ d, P.underlying t = some d := by
  cases hd : P.underlying t with
  | none => unfold ekKey at h; rw [hd] at h; cases h
  | some d => exact ⟨d, rfl⟩
theorem keyOk_no {q : EK} {k : AVal} (h : keyOk q k = true) : q.isNo = false := by
  cases q <;> first | rfl | cases h
theorem findKey_ok {t : Nat} (hq : (ekKey P t).isNo = false) {k : AVal} {kv : Value} (hk : VRel om r k kv) {l : List ME} {es : List MapEntry} {res : Option Nat} (hm : MRel om r l es) (h : mscan (ekKey P t) k l 0 = some res) :
    ∃ R, (∀ w, (Instr.findKey t kv es).run P w = .ok R w) ∧ Found om r kv l es 0 res R := by
  obtain ⟨d, hd⟩ := ekKey_desc hq
  obtain ⟨R, r1, r2, r3⟩ := mscan_ok hd hk hm h
  refine ⟨R, fun w => ?_, r3⟩
  unfold Instr.findKey
  rw [Sem.run_bind, run_underlying hd, Result.andThen_ok]
  rcases r2 with r2 | r2
  · rw [r2]; rfl
  · rw [r2]; exact r1 w
theorem scanTo_ok {o : Option (Option Nat)} {n : Nat} {g : VR} {f : Nat → VR} (h : scanTo o n g f = .ok av s') : ∃ res, o = some res ∧ ((res = none ∧ g = .ok av s') ∨ ∃ j, res = some j ∧ f j = .ok av s') := by
  cases o with
  | none => cases h
  | some res =>
    refine ⟨res, rfl, ?_⟩
    cases res with
    | none => exact .inl ⟨rfl, h⟩
    | some j => exact .inr ⟨j, rfl, h⟩
theorem lkRes_ok {ok t : Bool} {v : AVal} {x : Value} (hv : v ≠ .bad → VRel om r v x) (h : lkRes ok t v s = .ok av s') : s' = s ∧ v ≠ .bad ∧ VRel om r av (if ok then .tuple #[x, .bool t] else x) := by
  cases ok with
  | false =>
    obtain ⟨rfl, rfl, hb⟩ := check_ok (show VR.check v 87 s = .ok av s' from h)
    exact ⟨rfl, hb, hv hb⟩
  | true =>
    obtain ⟨h1, h2⟩ := ifv_ok (show ifv (notBad v) _ _ = _ from h)
    cases h2
    have hb : v ≠ .bad := by intro e; rw [e] at h1; cases h1
    exact ⟨rfl, hb, .tup _ [x, .bool t] (.cons _ _ _ _ (hv hb) (.cons _ _ _ _ (.bool t) .nil))⟩

theorem lkRes_s {ok t : Bool} {v : AVal} (h : lkRes ok t v s = .ok av s') : s' = s := by
  cases ok with
  | false => exact (check_ok (show VR.check v 87 s = .ok av s' from h)).2.1
  | true =>
    obtain ⟨h1, h2⟩ := ifv_ok (show ifv (notBad v) _ _ = _ from h)
    cases h2; rfl
/-- Live blocks that are no rows. -/
theorem SimW.obj {g : Id → Blk} (h : SimW om r g w) {i : Id} {p : Pl} (hp : r i = some p) (hn : g i ≠ .none) : ∃ o, w.heap[p.b]? = some o ∧ BRel om r (g i) p o := by
  obtain ⟨q, o, h1, h2, h3⟩ := h.live i hn
  rw [hp] at h1
  cases h1
  exact ⟨o, h2, h3⟩
theorem run_getObj {b : Nat} {o : Obj} (h : w.heap[b]? = some o) (hn : match o with | .cells _ _ _ => False | _ => True) : (getObj b).run P w = .ok o w := by
  cases o <;> first | exact hn.elim | simp [getObj, Sem.run, h]
theorem SimW.map {g : Id → Blk} (h : SimW om r g w) {i : Id} {p : Pl} (hp : r i = some p) {l : List ME} {c : Nat} (hi : g i = .map l c) :
    ∃ es, w.heap[p.b]? = some (.map es.toArray c) ∧ MRel om r l es ∧ (getObj p.b).run P w = .ok (.map es.toArray c) w := by
  obtain ⟨o, h1, h2⟩ := h.obj hp (by rw [hi]; intro e; cases e)
  rw [hi] at h2
  cases h2 with
  | row _ _ _ _ _ _ _ _ h => cases h
  | map _ _ _ es hm => exact ⟨es, h1, hm, run_getObj h1 trivial⟩

section
variable {c : Operand → AOpd} {l : List AVal} {e : Env} {rv : Operand → Value} {T : Tab} {call : CallT}
/-- What a run reads. -/
def Reads (P : Program) (m : Sem Value) (om : Nat → Value) (r : Rho) (av : AVal) (w : World) : Prop := ∃ x, m.run P w = .ok x w ∧ VRel om r av x

theorem xLoad_ok {t : Nat} (hk : kn P t = true) (ha : isAggA P t = false) {x : AVal} {v : Value} (hx : VRel om r x v) (h : xLoad x s = .ok av s') : s' = s ∧ ∀ w, SimW om r s.at w → Reads P (Instr.loadAt t v) om r av w := by
  cases x <;> first | (cases h; done) | skip
  rename_i i off
  obtain ⟨rfl, rfl, hb⟩ := check_ok (show VR.check ((s.at i).cell off) 21 s = .ok av s' from h)
  cases hx with | ptr _ _ p hp =>
  refine ⟨rfl, fun w sim => ?_⟩
  obtain ⟨xs, pre, post, el, lo, hi, row⟩ := sim.row hp (isRow_cell hb)
  obtain ⟨y, h1, h2⟩ := row.rel.cell_ok hb
  refine ⟨y, ?_, h2⟩
  simp only [Instr.loadAt, Instr.sureAddr, loadVar, Sem.run_bind, Sem.run_pure, Result.andThen_ok, run_isAgg' hk, ha, Bool.false_eq_true, if_false]
  exact row.load h1
theorem xLoadn_ok {t : Nat} (hk : kn P t = true) (ha : isAggA P t = true) {x : AVal} {v : Value} (hx : VRel om r x v) (h : xLoadn x (sizeA P t) s = .ok av s') : s' = s ∧ ∀ w, SimW om r s.at w → Reads P (Instr.loadAt t v) om r av w := by
  cases x <;> first | (cases h; done) | skip
  rename_i i off
  obtain ⟨rfl, rfl, hb⟩ := check_ok (show VR.check ((s.at i).cut off (sizeA P t)) 23 s = .ok av s' from h)
  cases hx with | ptr _ _ p hp =>
  refine ⟨rfl, fun w sim => ?_⟩
  obtain ⟨xs, pre, post, el, lo, hi, row⟩ := sim.row hp (isRow_cut hb)
  obtain ⟨h1, h2⟩ := row.rel.cut_ok hb
  refine ⟨_, ?_, h2⟩
  simp only [Instr.loadAt, Instr.sureAddr, loadVar, Sem.run_bind, Sem.run_pure, Result.andThen_ok, run_isAgg' hk, ha, if_true, run_sizeOf' hk, row.loadCells h1]

theorem xLookup_ok {t kt et : Nat} {ok : Bool} (ht : P.underlying t = some (.map kt et)) {x k : AVal} {v kv : Value} (hx : VRel om r x v) (hk : VRel om r k kv) (hq : (ekKey P kt).isNo = false)
    (h : xLookup x (ekKey P kt) (zeroA P et) ok k s = .ok av s') : s' = s ∧ ∀ w, SimW om r s.at w → Reads P (Instr.lookup t v kv ok) om r av w := by
  have zero : ∀ (o : Bool), lkRes o false (zeroA P et) s = .ok av s' → s' = s ∧ ∃ z, (∀ w, (zeroValue et).run P w = .ok z w) ∧ VRel om r av (if o then .tuple #[z, .bool false] else z) := fun o h => by
    by_cases hz : zeroA P et = .bad
    · rw [hz] at h
      cases o <;> cases h
    · obtain ⟨i, z, g1, g2, g3, g4⟩ := zeroA_ok hz
      obtain ⟨rfl, _, h1⟩ := lkRes_ok (fun _ => g3 om r) h
      exact ⟨rfl, z, run_zero g1 g2, h1⟩
  cases x <;> first | (cases h; done) | skip
  · cases hx
    obtain ⟨h1, h2⟩ := ifv_ok h
    obtain ⟨rfl, z, hz, hr⟩ := zero ok h2
    refine ⟨rfl, fun w sim => ⟨_, ?_, hr⟩⟩
    obtain ⟨d, hd⟩ := ekKey_desc hq
    simp [Instr.lookup, run_underlying ht, run_checkKey true hk h1, Instr.findKey, run_underlying hd, Instr.findNow, hz]
  · rename_i i
    cases hx with | map _ p hp =>
    obtain ⟨h1, h2⟩ := ifv_ok h
    replace h2 : lkMap (s.at i) (ekKey P kt) (zeroA P et) ok k s = .ok av s' := h2
    cases hb : s.at i with
    | map m cl =>
      rw [hb] at h2
      obtain ⟨res, hres, h3⟩ := scanTo_ok (show scanTo (mscan (ekKey P kt) k m 0) 89 _ _ = _ from h2)
      have run : ∀ w, SimW om r s.at w → ∃ es : List MapEntry, MRel om r m es ∧ (getObj p.b).run P w = .ok (.map es.toArray cl) w := fun w sim => by
        obtain ⟨es, _, g2, g3⟩ := sim.map (P := P) hp hb
        exact ⟨es, g2, g3⟩
      rcases h3 with ⟨rfl, h3⟩ | ⟨j, rfl, h3⟩
      · obtain ⟨rfl, z, hz, hr⟩ := zero ok h3
        refine ⟨rfl, fun w sim => ⟨_, ?_, hr⟩⟩
        obtain ⟨es, g1, g2⟩ := run w sim
        obtain ⟨R, r1, r2⟩ := findKey_ok (P := P) hq hk g1 hres
        cases r2
        simp [Instr.lookup, run_underlying ht, g2, run_checkKey _ hk h1, r1, hz]
      · cases hm : mnth m j with
        | none => rw [hm] at h3; cases h3
        | some e0 =>
          rw [hm] at h3
          replace h3 : lkRes ok true e0.val s = .ok av s' := h3
          have hs := lkRes_s h3
          subst hs
          refine ⟨rfl, fun w sim => ?_⟩
          obtain ⟨es, g1, g2⟩ := run w sim
          obtain ⟨R, r1, r2⟩ := findKey_ok (P := P) hq hk g1 hres
          generalize hj : some j = sj at r2
          cases r2 with
          | no => cases hj
          | yes j' e1 x1 he hx1 hv hb1 hk1 hs1 =>
            simp only [Nat.zero_add, Option.some.injEq] at hj
            subst hj
            rw [hm, Option.some.injEq] at he
            subst he
            obtain ⟨_, _, hr⟩ := lkRes_ok (om := om) (r := r) (x := x1.val) (fun _ => hv) h3
            refine ⟨_, ?_, hr⟩
            simp [Instr.lookup, run_underlying ht, g2, run_checkKey _ hk h1, r1]
    | _ => rw [hb] at h2; cases h2
end
end
end Go.Cx

/-! ## All operations that read. -/
set_option linter.unusedVariables false
set_option linter.unusedSimpArgs false
namespace Go.Cx
noncomputable section
variable {om : Nat → Value} {r : Rho} {w w' : World} {P : Program} {s s' : St} {av : AVal}
variable {c : Operand → AOpd} {l : List AVal} {e : Env} {rv : Operand → Value} {T : Tab} {call : CallT}

theorem mrel_len {l : List ME} {es : List MapEntry} (h : MRel om r l es) : l.length = es.length := by
  induction h with
  | nil => rfl
  | cons _ _ _ _ _ _ _ _ ih => simp [ih]
theorem bfind_ok {b : Nat} {f : ME → VR} : ∀ {l : List ME} {es : List MapEntry}, MRel om r l es → bfind l b f = .ok av s' → ∃ e x, f e = .ok av s' ∧ es.find? (·.born == b) = some x ∧ VRel om r e.key x.key ∧ VRel om r e.val x.val
  | [], es, hm, h => by cases h
  | e :: l, es, hm, h => by
    cases hm with | cons _ x _ y h1 h2 h3 t =>
    have h' : Bool.rec (motive := fun _ => VR) (bfind l b f) (f e) (Nat.beq e.born b) = .ok av s' := h
    cases hb : Nat.beq e.born b with
    | true =>
      rw [hb] at h'
      have := Nat.eq_of_beq_eq_true hb
      exact ⟨e, x, h', by simp [h3, this], h1, h2⟩
    | false =>
      rw [hb] at h'
      have hne : e.born ≠ b := fun e0 => by rw [e0, Nat.beq_refl] at hb; cases hb
      obtain ⟨e', x', g1, g2, g3⟩ := bfind_ok t h'
      refine ⟨e', x', g1, ?_, g3⟩
      rw [List.find?_cons]
      have : (x.born == b) = false := by rw [h3]; simpa using hne
      rw [this]; exact g2
theorem xEntry_ok {x : AVal} {v : Value} (hx : VRel om r x v) (h : xEntry x s = .ok av s') : s' = s ∧ ∀ w, SimW om r s.at w → Reads P (Instr.entry v) om r av w := by
  cases x <;> first | (cases h; done) | skip
  rename_i i off
  obtain ⟨h1, h2⟩ := ifv_ok (show ifv (Nat.beq off 0) (entryAt (s.at i) s) _ = _ from h)
  have h1 := Nat.eq_of_beq_eq_true h1
  subst h1
  cases hx with | ptr _ _ p hp =>
  cases hb : s.at i with
  | mcur m b cl =>
    rw [hb] at h2
    replace h2 : entryIn (s.at m) b cl s = .ok av s' := h2
    cases hm : s.at m with
    | map lm cl' =>
      rw [hm] at h2
      obtain ⟨h3, h4⟩ := ifv_ok (show ifv (Nat.beq cl cl') _ _ = _ from h2)
      have h3 := Nat.eq_of_beq_eq_true h3
      subst h3
      have hs : s' = s := by
        have : ∀ (lm : List ME), bfind lm b (fun e => ifv (band (notBad e.key) (notBad e.val)) (.ok (.tup [e.key, e.val]) s) (.fail 104)) = .ok av s' → s' = s := by
          intro lm
          induction lm with
          | nil => intro h; cases h
          | cons e0 lm ih =>
            intro h
            have h' : Bool.rec (motive := fun _ => VR) (bfind lm b _) _ (Nat.beq e0.born b) = .ok av s' := h
            cases hq : Nat.beq e0.born b with
            | true => rw [hq] at h'; obtain ⟨_, h5⟩ := ifv_ok h'; cases h5; rfl
            | false => rw [hq] at h'; exact ih h'
        exact this lm h4
      subst hs
      refine ⟨rfl, fun w sim => ?_⟩
      obtain ⟨o, g1, g2⟩ := sim.obj hp (by rw [hb]; intro e; cases e)
      rw [hb] at g2
      cases g2 with
      | row _ _ _ _ _ _ _ _ h => cases h
      | mcur _ q _ _ _ since seen hq hse hb0 =>
        obtain ⟨es, k1, k2, k3⟩ := sim.map (P := P) hq hm
        obtain ⟨e0, x0, j1, j2, j3, j4⟩ := bfind_ok k2 h4
        obtain ⟨_, j5⟩ := ifv_ok j1
        cases j5
        refine ⟨.tuple #[x0.key, x0.val], ?_, .tup _ [x0.key, x0.val] (.cons _ _ _ _ j3 (.cons _ _ _ _ j4 .nil))⟩
        have hf : es.toArray.find? (·.born == b) = some x0 := by rw [← j2]; simp
        rw [hb0]
        simp [Instr.entry, run_getObj g1 trivial, hse, k3, hf]
    | _ => rw [hm] at h2; cases h2
  | _ => rw [hb] at h2; cases h2

theorem cut_bytes {b : Blk} {xs : List Value} (h : RRel om r b xs) {off n : Nat} (hb : bsOf (b.cut off n) s = .ok av s') :
    s' = s ∧ ∃ ns : List Int, ((xs.drop off).take n) = ns.map (Value.int .u8) ∧ ((xs.drop off).take n).length = n ∧ VRel om r av (.string (ns.foldl (fun r n => r.push (UInt8.ofNat n.toNat)) ByteArray.empty)) := by
  have hne : b.cut off n ≠ .bad := by intro e; rw [e] at hb; cases hb
  obtain ⟨h1, h2⟩ := h.cut_ok hne
  have fold : ∀ (us : List Nat) (b0 : ByteArray), ((us.map Int.ofNat).foldl (fun (r : ByteArray) n => r.push (UInt8.ofNat n.toNat)) b0).data.toList = b0.data.toList ++ us.map UInt8.ofNat := by
    intro us
    induction us with
    | nil => intro b0; simp
    | cons u us ih => intro b0; rw [List.map_cons, List.foldl_cons, ih]; simp
  unfold bsOf at hb
  split at hb
  · rename_i m d hc
    cases hb
    rw [hc] at h2
    generalize hq : Value.agg ((xs.drop off).take n).toArray = v at h2
    cases h2
    have hq := congrArg Array.toList (Value.agg.inj hq)
    simp only at hq
    have hm : m = n := by rw [← h1, hq, mkI_length]
    subst hm
    refine ⟨rfl, (digs 8 m d).map Int.ofNat, ?_, h1, ?_⟩
    · rw [hq]
      unfold mkI
      rw [List.map_map]
      apply List.map_congr_left
      intro u hu
      rfl
    · have : mkS m d = ((digs 8 m d).map Int.ofNat).foldl (fun (r : ByteArray) n => r.push (UInt8.ofNat n.toNat)) ByteArray.empty := by
        apply mkS_ext
        rw [mkS_list, fold]
        simp
      rw [← this]
      exact .str _ _
  · rename_i hc
    cases hb
    rw [hc] at h2
    obtain ⟨ys, e1, e2⟩ := h2.agg_inv
    cases e2
    have e1 := congrArg Array.toList (Value.agg.inj e1)
    simp only at e1
    refine ⟨rfl, [], e1, h1, ?_⟩
    have := VRel.str (om := om) (rho := r) 0 0
    exact this
  · cases hb
theorem xConvBS_ok {x : AVal} {v : Value} (hx : VRel om r x v) (h : xConvBS x s = .ok av s') : s' = s ∧ ∀ w, SimW om r s.at w → Reads P (Conv.bytesToString v) om r av w := by
  cases x <;> first | (cases h; done) | skip
  · cases h; cases hx
    refine ⟨rfl, fun w _ => ⟨.string .empty, by simp [Conv.bytesToString], ?_⟩⟩
    have := VRel.str (om := om) (rho := r) 0 0
    exact this
  · rename_i i off len cap
    replace h : bsOf ((s.at i).cut off len) s = .ok av s' := h
    have hne : (s.at i).cut off len ≠ .bad := by intro e; rw [e] at h; cases h
    cases hx with | slice _ _ _ _ p hp hl =>
    have hs : s' = s := by
      unfold bsOf at h
      split at h <;> first | (cases h; rfl) | cases h
    subst hs
    refine ⟨rfl, fun w sim => ?_⟩
    obtain ⟨xs, pre, post, el, lo, hi, row⟩ := sim.row hp (isRow_cut hne)
    obtain ⟨_, ns, g1, g2, g3⟩ := cut_bytes row.rel h
    refine ⟨_, run_bytesToString w _ len cap ns ?_, g3⟩
    rw [row.loadCells g2, g1]
  · rename_i i off len low z
    replace h : bsOf ((s.at i).cut off len) s = .ok av s' := h
    have hne : (s.at i).cut off len ≠ .bad := by intro e; rw [e] at h; cases h
    cases hx with | slicu _ _ _ _ _ p o cap hp h1 h2 h3 h4 =>
    have hs : s' = s := by
      unfold bsOf at h
      split at h <;> first | (cases h; rfl) | cases h
    subst hs
    refine ⟨rfl, fun w sim => ?_⟩
    obtain ⟨xs, pre, post, el, lo, hi, row⟩ := sim.row hp (isRow_cut hne)
    obtain ⟨_, ns, g1, g2, g3⟩ := cut_bytes row.rel h
    refine ⟨_, run_bytesToString w _ len cap ns ?_, g3⟩
    rcases Nat.eq_zero_or_pos len with h0 | h0
    · subst h0
      rw [List.take_zero] at g1
      rw [← g1]
      simp [loadCells, loadCellsFrom]
    · have ho : o = p.base + off := h4.resolve_left (by omega)
      rw [ho, row.loadCells g2, g1]

theorem run_convBS {x : AVal} {v : Value} (hx : VRel om r x v) (h : xConvBS x s = .ok av s') {st dt el : Nat} (hs : P.underlying st = some (.slice el)) (he : P.underlying el = some (.int .u8)) (hd : P.underlying dt = some .string) (w : World) :
    (convert st dt v).run P w = (Conv.bytesToString v).run P w := by
  cases x <;> first | (cases h; done) | skip
  all_goals
    cases hx
    exact run_convert_bytes_string w st dt el _ _ _ hs he hd
/-- Operations that read. -/
theorem op_read {o : Oper} (H : ∀ x, VRel om r (ev (c x) l e) (rv x)) (hk : opKind P o.op = 1) (h : opOf (cOp P c o.op) T call l e s = .ok av s') :
    s' = s ∧ ∀ w, SimW om r s.at w → ∃ x, (execOp rv o).run P w = .ok (.value x) w ∧ VRel om r av x := by
  obtain ⟨dst, op, type, pos, after, guard⟩ := o
  have fin : ∀ {m : Sem Value}, (∀ w, (execOp rv ⟨dst, op, type, pos, after, guard⟩).run P w = (do pure (Next.value (← m)) : Sem Next).run P w) → (s' = s ∧ ∀ w, SimW om r s.at w → Reads P m om r av w) →
      s' = s ∧ ∀ w, SimW om r s.at w → ∃ x, (execOp rv ⟨dst, op, type, pos, after, guard⟩).run P w = .ok (.value x) w ∧ VRel om r av x := fun hm ⟨h1, h2⟩ => ⟨h1, fun w sim => by
        obtain ⟨x, h3, h4⟩ := h2 w sim
        exact ⟨x, by rw [hm w]; exact run_val h3, h4⟩⟩
  cases op <;> first | (simp only [opKind] at hk; first | (cases hk; done) | skip)
  case load t a =>
    refine fin (m := Instr.loadAt t (rv a)) (fun w => rfl) ?_
    simp only [cOp] at h
    split at h
    · rename_i hkn
      split at h
      · rename_i ha; exact xLoadn_ok hkn ha (H a) h
      · rename_i ha; exact xLoad_ok hkn (by simpa using ha) (H a) h
    · cases h
  case convert st dt x =>
    refine fin (m := convert st dt (rv x)) (fun w => rfl) ?_
    replace h : opOf (cConv P st dt (c x)) T call l e s = .ok av s' := h
    have hx := H x
    cases hs : P.underlying st with
    | none => rw [hs] at hk; cases hd : P.underlying dt <;> rw [hd] at hk <;> simp at hk
    | some sd =>
      cases hd : P.underlying dt with
      | none =>
        rw [hs, hd] at hk
        cases sd <;> simp only [cConv, hs, hd] at h hk <;> first | (cases h; done) | (cases hk; done)
      | some dd =>
        rw [hs, hd] at hk
        cases sd <;> cases dd <;> simp only [cConv, hs, hd] at h hk <;> first | (cases h; done) | (cases hk; done) | skip
        rename_i el
        split at h
        · rename_i he
          obtain ⟨h1, h2⟩ := xConvBS_ok (P := P) hx (show xConvBS (ev (c x) l e) s = .ok av s' from h)
          refine ⟨h1, fun w sim => ?_⟩
          obtain ⟨y, h3, h4⟩ := h2 w sim
          refine ⟨y, ?_, h4⟩
          rw [← h3]
          exact run_convBS hx h hs he hd w
        · cases h
  case lookup t x k ok =>
    refine fin (m := Instr.lookup t (rv x) (rv k) ok) (fun w => rfl) ?_
    simp only [cOp] at h
    split at h
    · rename_i kt et ht
      split at h
      · cases h
      · rename_i hq
        exact xLookup_ok ht (H x) (H k) (by simpa using hq) h
    · cases h
  case entry x =>
    exact fin (m := Instr.entry (rv x)) (fun w => rfl) (xEntry_ok (H x) h)
  case call q =>
    obtain ⟨callee, ⟨args⟩, ⟨tys⟩⟩ := q
    cases callee with
    | value f => cases hk
    | invoke f m => cases hk
    | builtin b =>
      replace h : opOf (cBuiltin P b tys (args.map c)) T call l e s = .ok av s' := h
      cases b <;> first | (cases hk; done) | skip
      cases tys with
      | nil => cases hk
      | cons t tys => cases tys with
        | cons _ _ => cases hk
        | nil => cases args with
          | nil => cases h
          | cons x args => cases args with
            | cons _ _ => cases h
            | nil =>
              have hx := H x
              refine fin (m := Builtin.len_ #[t] type #[rv x]) (fun w => by simp [execOp, resolve, invoke, builtin]) ?_
              simp only [cBuiltin, List.map_cons, List.map_nil] at h
              simp only at hk
              split at h
              · rename_i ht; rw [ht] at hk; cases hk
              · rename_i ht; rw [ht] at hk; cases hk
              · rename_i kt et ht
                replace h : xLenMap (ev (c x) l e) s = .ok av s' := h
                generalize ev (c x) l e = vx at *
                generalize rv x = v at *
                cases vx <;> first | (cases h; done) | skip
                · cases h; cases hx
                  exact ⟨rfl, fun w _ => ⟨.int .i64 0, by simp [Builtin.len_, run_underlying ht, goInt], .int _ _⟩⟩
                · rename_i i
                  replace h : lenB (s.at i) s = .ok av s' := h
                  cases hx with | map _ p hp =>
                  cases hb : s.at i with
                  | map m cl =>
                    rw [hb] at h
                    cases h
                    refine ⟨rfl, fun w sim => ?_⟩
                    obtain ⟨es, g1, g2, g3⟩ := sim.map (P := P) hp hb
                    have hlen : m.length = es.length := mrel_len g2
                    refine ⟨.int .i64 m.length, ?_, .int _ _⟩
                    simp [Builtin.len_, run_underlying ht, g3, goInt, hlen]
                  | _ => rw [hb] at h; cases h
              · rename_i ht; rw [ht] at hk; cases hk
              · cases h
end
end Go.Cx

/-! ## Operations that make a block. -/
set_option linter.unusedVariables false
set_option linter.unusedSimpArgs false
namespace Go.Cx
noncomputable section
variable {om : Nat → Value} {r : Rho} {w w' : World} {P : Program} {s s' : St} {av : AVal}
variable {c : Operand → AOpd} {l : List AVal} {e : Env} {rv : Operand → Value} {T : Tab} {call : CallT}

/-- A run that makes a block. -/
structure Made (P : Program) (om : Nat → Value) (r : Rho) (i : Id) (b : Blk) (av : AVal) (w : World) (x : Value) (w' : World) (o : Obj) (top : Nat) : Prop where
  heap : w'.heap = w.heap.push o
  os : w'.os = w.os
  tape : w'.tape = w.tape
  out : w'.output = w.output
  rel : ∀ r', Ext r r' → r' i = some ⟨w.heap.size, 0, top⟩ → VRel om r' av x ∧ BRel om r' b ⟨w.heap.size, 0, top⟩ o
/-- What an operation that makes a block does. -/
def Makes (P : Program) (om : Nat → Value) (r : Rho) (s : St) (m : Sem Value) (av : AVal) (s' : St) : Prop :=
  ∃ n b, n.num = s.n.num + 1 ∧ s' = ⟨Heap.set s.n b s.h, n, s.ro⟩ ∧ b ≠ .none ∧ ∀ w, ∃ x w' o top, m.run P w = .ok x w' ∧ Made P om r s.n b av w x w' o top

theorem blk_ok {z : AVal} {v : Value} (h : VRel om r z v) (hc : Celly z) : RRel om r z.blk v.cells.toList ∧ z.blk ≠ .none := by
  have hl := cellList_ok h hc
  rcases hc with hs | ⟨l, rfl⟩ | ⟨k, n, d, rfl⟩
  · have e1 : z.blk = .cells [z] := by cases z <;> first | rfl | exact absurd hs (by intro h; cases h)
    have e2 : z.cellList = [z] := by cases z <;> first | rfl | exact absurd hs (by intro h; cases h)
    rw [e1]
    rw [e2] at hl
    exact ⟨.cells _ _ hl, by intro e; cases e⟩
  · exact ⟨.cells _ _ hl, by intro e; cases e⟩
  · cases h
    exact ⟨.ints k n d, by intro e; cases e⟩
theorem RRel.brel0 {b : Blk} {xs : List Value} (h : RRel om r b xs) (n : Nat) (el : TypeId) (post : List Value) : BRel om r b ⟨n, 0, xs.length + post.length⟩ (.cells (xs ++ post).toArray el) := by
  have := BRel.row (om := om) (r := r) b ⟨n, 0, xs.length + post.length⟩ xs [] post el 0 0 h rfl (by simp) (.inl rfl)
  simpa using this

theorem alloc_val {b : Blk} {F : Id → AVal} (h : s.alloc b (fun i s => .ok (F i) s) = .ok av s') : ∃ n, n.num = s.n.num + 1 ∧ s' = ⟨Heap.set s.n b s.h, n, s.ro⟩ ∧ av = F s.n := by
  obtain ⟨n, h1, h2⟩ := St.alloc_ok h
  cases h2
  exact ⟨n, h1, rfl, rfl⟩
theorem run_newRow (el : TypeId) (cs : Array Value) (w : World) : (newRow el cs).run P w = .ok ⟨w.heap.size, 0, none⟩ (w.alloc (.cells cs el)) := by
  simp [newRow]

theorem xNew_ok {z : AVal} {v : Value} {m : Sem Value} {el : TypeId} (hz : VRel om r z v) (hc : Celly z) (hm : ∀ w, m.run P w = .ok (.pointer (some ⟨w.heap.size, 0, none⟩)) (w.alloc (.cells v.cells el)))
    (h : s.alloc z.blk (fun i s => .ok (.ptr i 0) s) = .ok av s') : Makes P om r s m av s' := by
  obtain ⟨n, h1, h2, rfl⟩ := alloc_val h
  obtain ⟨g1, g2⟩ := blk_ok hz hc
  refine ⟨n, z.blk, h1, h2, g2, fun w => ⟨_, _, _, v.cells.toList.length + 0, hm w, rfl, rfl, rfl, rfl, fun r' ext hr => ⟨?_, ?_⟩⟩⟩
  · exact .ptr s.n 0 _ hr
  · have := (g1.mono ext).brel0 w.heap.size el []
    simpa using this

theorem xMkslice_ok {t el : Nat} (ht : P.underlying t = some (.slice el)) {zc : List AVal} (hz : zCells P el = some zc) (hkn : kn P el = true) (hne : sizeA P el ≠ 0) {x y : AVal} {v u : Value} (hx : VRel om r x v) (hy : VRel om r y u)
    (h : xMkslice (sizeA P el) (bytesA P el) (zeroA P el) x y s = .ok av s') : Makes P om r s (Instr.makeSlice t v u) av s' := by
  unfold xMkslice at h
  split at h
  · rename_i k1 l1 k2 c1
    cases hx; cases hy
    unfold mksl at h
    split at h
    · rename_i ln cn
      obtain ⟨h1, h2⟩ := ifv_ok h
      simp only [band_true, Nat.ble_eq] at h1
      obtain ⟨⟨h3, h4⟩, h5, h6⟩ := h1
      obtain ⟨n, g1, g2, rfl⟩ := alloc_val h2
      obtain ⟨i, z, z1, z2, z3, z4, z5, z6, z7⟩ := zCells_ok hz
      have hrow := zeroRow_ok (z4 om r) z5 cn
      obtain ⟨i', d', k1', k2', k3', k4'⟩ := kn_ok hkn
      rw [z1] at k1'
      cases k1'
      have hb : zeroRow (zeroA P el) cn ≠ .none := by intro e0; rw [e0] at hrow; cases hrow
      have hbytes : (i.bytes : Int) * (cn : Int) ≤ 281474976710656 := by
        rw [k4'] at h4
        have h4' : i.bytes * cn ≤ 281474976710656 := h4
        have : ((i.bytes * cn : Nat) : Int) ≤ 281474976710656 := by omega
        rwa [Int.natCast_mul] at this
      refine ⟨n, _, g1, g2, hb, fun w => ⟨.slice (some ⟨w.heap.size, 0, none⟩) ln cn, w.alloc (.cells (times cn z.cells.toList).toArray el), _, (times cn z.cells.toList).length + 0, ?_, rfl, rfl, rfl, rfl, fun r' ext hr => ⟨?_, ?_⟩⟩⟩
      · have := run_make (P := P) w t el i z ht z1 z2 k1 k2 ln cn (by omega) (by omega) hbytes (by omega)
        rw [show madeCells z.cells ((cn : Int).toNat * i.size) = (times cn z.cells.toList).toArray from range_zero z.cells cn i.size z6] at this
        exact this
      · have := VRel.slice (om := om) (rho := r') s.n 0 ln cn _ hr h3
        simpa using this
      · have := (hrow.mono ext).brel0 w.heap.size el []
        simpa using this
    · cases h
  · cases h

theorem mkS_cells (n d : Nat) : (mkS n d).data.toList.map (fun b => Value.int .u8 b.toNat) = mkI .u8 n d := by
  rw [mkS_list, List.map_map]
  unfold mkI
  apply List.map_congr_left
  intro u hu
  have := digs8_lt n d u hu
  show Value.int .u8 ((UInt8.ofNat u).toNat : Int) = Value.int .u8 (u : Int)
  rw [UInt8.toNat_ofNat', Nat.mod_eq_of_lt this]
theorem xConvSB_ok {st dt el : Nat} (hs : P.underlying st = some .string) (hd : P.underlying dt = some (.slice el)) (he : P.underlying el = some (.int .u8)) {x : AVal} {v : Value} (hx : VRel om r x v)
    (h : xConvSB x s = .ok av s') : Makes P om r s (convert st dt v) av s' := by
  cases x <;> first | (cases h; done) | skip
  rename_i n d
  cases hx
  obtain ⟨n', g1, g2, rfl⟩ := alloc_val (F := fun i => .slicu i 0 n n 1) h
  refine ⟨n', _, g1, g2, (by intro e; cases e), fun w => ?_⟩
  let q : Question := .appendCap n 0 el
  let cap := q.cut (w.tape w.drawn q)
  have hcap : n ≤ cap := Nat.le_add_right _ _
  let post : List Value := List.replicate (cap - n) (.int .u8 0)
  let cells : List Value := mkI .u8 n d ++ post
  have hlen : cells.length = cap := by simp only [cells, post, List.length_append, mkI_length, List.length_replicate]; omega
  let w' : World := { w.drew with heap := w.heap.push (.cells cells.toArray el (cap, cap + 1)) }
  refine ⟨.slice (some ⟨w.heap.size, 0, none⟩) n cap, w', .cells cells.toArray el (cap, cap + 1), cap, ?_, rfl, rfl, rfl, rfl, fun r' ext hr => ⟨?_, ?_⟩⟩
  · have hforced : q.forced = false := rfl
    have hcells : ((mkS n d).data.map (fun b => Value.int .u8 b.toNat) ++ Array.replicate (cap - n) (Value.int .u8 0)) = cells.toArray := by
      apply Array.ext'
      simp only [Array.toList_append, Array.toList_map, Array.toList_replicate, mkS_cells, cells, post]
    have hfreeze : (World.freeze (w.drew.alloc (.cells cells.toArray el)) ⟨w.heap.size, cap, none⟩ 1) = w' := by
      unfold World.freeze
      rw [if_neg (by decide)]
      have : ((w.drew.alloc (.cells cells.toArray el)).heap.modify w.heap.size fun
          | .cells c elem (lo, hi) => .cells c elem (if lo == hi then (cap, cap + 1) else (min lo cap, max hi (cap + 1)))
          | o => o) = w.heap.push (.cells cells.toArray el (cap, cap + 1)) := by
        apply Array.ext_getElem?
        intro i
        rw [Array.getElem?_modify]
        show (if w.heap.size = i then Option.map _ ((w.heap.push _)[i]?) else (w.heap.push _)[i]?) = _
        rw [Array.getElem?_push, Array.getElem?_push]
        by_cases hi : i = w.heap.size
        · subst hi; simp
        · rw [if_neg (fun e => hi e.symm), if_neg hi, if_neg hi]
      simp only [w']
      congr 1
    have hshape : (w.drew.alloc (.cells cells.toArray el)).shape? w.heap.size = some (el, cap) := by
      have : (w.drew.alloc (.cells cells.toArray el)).heap[w.heap.size]? = some (.cells cells.toArray el) := heap_alloc_new w.drew _
      simp only [World.shape?, this, List.size_toArray, hlen]
    have hch : (choose q).run P w = .ok cap w.drew := by
      rw [run_choose, hforced]; rfl
    have hsz : (mkS n d).size = n := mkS_size n d
    simp only [convert, Sem.run_bind, run_underlying hs, run_underlying hd, run_underlying he, Result.andThen_ok]
    unfold Conv.stringToBytes
    rw [hsz]
    simp only [Sem.run_bind, show (choose (.appendCap n 0 el)).run P w = .ok cap w.drew from hch, Result.andThen_ok, hcells, run_newRow, markStringish, run_shape, World.size_drew, hshape, run_freeze, hfreeze, Sem.run_pure]
  · exact .slicu s.n 0 n n 1 _ 0 cap hr (Nat.le_refl _) hcap (by show 0 + cap * 1 ≤ cap; omega) (.inr rfl)
  · have := BRel.row (om := om) (r := r') (.ints .u8 n d) ⟨w.heap.size, 0, cap⟩ (mkI .u8 n d) [] post el cap (cap + 1) (.ints _ _ _) rfl (by rw [← hlen]; simp only [cells, List.length_append, List.length_nil, Nat.zero_add]) (.inr (Nat.le_refl _))
    simpa [cells] using this

theorem bslice_ok {t el n : Nat} {z : List AVal} {parts : Array (Nat × Operand)} (H : ∀ x, VRel om r (ev (c x) l e) (rv x)) (ht : P.underlying t = some (.slice el)) (hz : zCells P el = some z) (hkn : kn P el = true) (hb : n * sizeA P el ≤ 65536) {isInt : Bool}
    (h : xBslice isInt (repeatA n z) n (evParts (cPartsN c (sizeA P el) parts.toList) l e) s = .ok av s') : Makes P om r s (Instr.buildSlice t n (parts.map fun (i, x) => (i, rv x))) av s' := by
  obtain ⟨i, v, z1, z2, z3, z4, z5, z6, z7⟩ := zCells_ok hz
  have hc : CRel om r (repeatA n z) (times n v.cells.toList) := by
    rw [z3]; exact repeatA_ok (cellList_ok (z4 om r) z5) n
  have hrel : PRel om r (fun j => some (j * sizeA P el, sizeA P el)) (evParts (cPartsN c (sizeA P el) parts.toList) l e) (parts.toList.map fun (i, x) => (i, rv x)) := by
    generalize parts.toList = ps
    induction ps with
    | nil => exact .nil
    | cons p ps ih =>
      obtain ⟨j, x⟩ := p
      exact .cons (j * sizeA P el, sizeA P el) _ _ j (rv x) _ rfl (H x) ih
  obtain ⟨z', zs', g1, g2, g3, g4⟩ := fillParts_ok hrel hc (show fillParts _ _ _ = _ from h)
  obtain ⟨n', k1, k2, rfl⟩ := alloc_val (F := fun i => .slice i 0 n n) g4
  have hrow : RRel om r (Bool.rec (motive := fun _ => Blk) (.cells z') (pack (.agg z')).blk isInt) zs' := by
    cases isInt
    · exact .cells _ _ g1
    · exact pack_ok g1
  have hbn : (Bool.rec (motive := fun _ => Blk) (.cells z') (pack (.agg z')).blk isInt) ≠ .none := by intro e0; rw [e0] at hrow; cases hrow
  refine ⟨n', _, k1, k2, hbn, fun w => ⟨.slice (some ⟨w.heap.size, 0, none⟩) n n, w.alloc (.cells zs'.toArray el), _, zs'.length + 0, ?_, rfl, rfl, rfl, rfl, fun r' ext hr => ⟨?_, ?_⟩⟩⟩
  · have hfill : Instr.fill (fun j => some (j * sizeA P el, sizeA P el)) (times n v.cells.toList).toArray (parts.map fun (i, x) => (i, rv x)).toList = some zs'.toArray := by
      rw [← g2]; simp
    have hbig : ¬ (n * sizeA P el > 2 ^ 24) := by omega
    have hval : (Array.range (n * sizeA P el)).map (fun j => (if n * sizeA P el = 0 then (#[] : Array Value) else v.cells)[j % (if n * sizeA P el = 0 then (#[] : Array Value) else v.cells).size]!) = (times n v.cells.toList).toArray := by
      by_cases h0 : n * sizeA P el = 0
      · rw [h0]
        have : times n v.cells.toList = [] := by
          apply List.eq_nil_of_length_eq_zero
          rw [times_length]
          have : v.cells.toList.length = sizeA P el := by rw [z7, ← z6]; simp
          rw [this]; exact h0
        rw [this]; simp
      · simp only [h0, if_false]
        exact range_zero v.cells n (sizeA P el) (by rw [z6, z7])
    unfold Instr.buildSlice
    simp only [Sem.run_bind, run_underlying ht, Result.andThen_ok, run_sizeOf' hkn, hbig, if_false, Sem.run_pure]
    by_cases h0 : n * sizeA P el = 0
    · simp only [h0, if_true, pure_bind] at hval ⊢
      rw [hval, hfill]
      simp [run_newRow]
    · simp only [h0, if_false] at hval ⊢
      simp only [Sem.run_bind, run_zero z1 z2, Sem.run_pure, Result.andThen_ok]
      rw [hval, hfill]
      simp [run_newRow]
  · have := VRel.slice (om := om) (rho := r') s.n 0 n n _ hr (Nat.le_refl _)
    simpa using this
  · have := (hrow.mono ext).brel0 w.heap.size el []
    simpa using this

theorem xBox_ok {t : Nat} {x : AVal} {v : Value} (hx : VRel om r x v) (h : xBox x s = .ok av s') : Makes P om r s (Instr.box t v) av s' := by
  by_cases ho : ∃ i, x = .opq i
  · obtain ⟨i, rfl⟩ := ho
    cases hx with | opq _ hs =>
    have hc : (om i).cells.toList = [om i] := by
      generalize om i = u at hs
      cases u <;> first | rfl | cases hs
    obtain ⟨n, h1, h2, rfl⟩ := alloc_val (b := .cells [.opq i]) (F := fun i => .ptr i 0) h
    have g1 : RRel om r (.cells [.opq i]) (om i).cells.toList := by rw [hc]; exact .cells _ _ (.opq i _ _ _ rfl hs .nil)
    refine ⟨n, .cells [.opq i], h1, h2, (by intro e; cases e), fun w => ⟨.pointer (some ⟨w.heap.size, 0, none⟩), w.alloc (.cells (om i).cells t), _, (om i).cells.toList.length + 0, (by simp [Instr.box, newVar, run_newRow]), rfl, rfl, rfl, rfl, fun r' ext hr => ⟨?_, ?_⟩⟩⟩
    · exact .ptr s.n 0 _ hr
    · have := (g1.mono ext).brel0 w.heap.size t []
      simpa using this
  have hb : Celly x ∧ xBox x s = s.alloc x.blk (fun i s => .ok (.ptr i 0) s) := by
    cases x <;> first | exact ⟨.inl rfl, rfl⟩ | exact ⟨.inr (.inl ⟨_, rfl⟩), rfl⟩ | exact ⟨.inr (.inr ⟨_, _, _, rfl⟩), rfl⟩ | exact absurd ⟨_, rfl⟩ ho | cases h
  rw [hb.2] at h
  exact xNew_ok (el := t) hx hb.1 (fun w => by simp [Instr.box, newVar, run_newRow]) h
/-- Operations that make a block. -/
theorem op_alloc {o : Oper} (H : ∀ x, VRel om r (ev (c x) l e) (rv x)) (hk : opKind P o.op = 2) (h : opOf (cOp P c o.op) T call l e s = .ok av s') :
    ∃ m, (∀ w, (execOp rv o).run P w = (do pure (Next.value (← m)) : Sem Next).run P w) ∧ Makes P om r s m av s' := by
  obtain ⟨dst, op, type, pos, after, guard⟩ := o
  cases op <;> first | (simp only [opKind] at hk; first | (cases hk; done) | skip)
  case alloc t =>
    refine ⟨_, fun w => rfl, ?_⟩
    simp only [cOp] at h
    split at h
    · cases h
    · rename_i hz
      obtain ⟨i, v, h1, h2, h3, h4⟩ := zeroA_ok (P := P) (t := t) hz
      exact xNew_ok (el := t) (h3 om r) h4 (fun w => by simp [Instr.alloc, run_zero h1 h2, newVar, run_newRow]) h
  case box t x =>
    refine ⟨_, fun w => rfl, ?_⟩
    exact xBox_ok (H x) h
  case buildSlice t n ps =>
    refine ⟨_, fun w => rfl, ?_⟩
    simp only [cOp] at h
    split at h
    · rename_i el ht
      split at h
      · rename_i z hz
        split at h
        · rename_i hc
          rw [Bool.and_eq_true, Nat.ble_eq] at hc
          exact bslice_ok H ht hz hc.1 hc.2 h
        · cases h
      · cases h
    · cases h
  case makeMap t rs =>
    refine ⟨_, fun w => rfl, ?_⟩
    simp only [cOp] at h
    have key : (∀ w, (Instr.makeMap t (rs.map rv)).run P w = .ok (.map (some w.heap.size)) (w.alloc (.map #[] 0))) → xMkmap s = .ok av s' → Makes P om r s (Instr.makeMap t (rs.map rv)) av s' := fun hm h => by
      obtain ⟨n, h1, h2, rfl⟩ := alloc_val (F := fun i => .map i) h
      refine ⟨n, _, h1, h2, (by intro e; cases e), fun w => ⟨_, _, _, 0, hm w, rfl, rfl, rfl, rfl, fun r' ext hr => ⟨.map _ _ hr, ?_⟩⟩⟩
      exact .map [] 0 _ [] .nil
    split at h
    · exact key (fun w => by simp [Instr.makeMap]) h
    · cases h
  case makeSlice t a b =>
    refine ⟨_, fun w => rfl, ?_⟩
    simp only [cOp] at h
    split at h
    · rename_i el ht
      split at h
      · rename_i z hz
        split at h
        · rename_i hc
          rw [Bool.and_eq_true, Bool.not_eq_true'] at hc
          exact xMkslice_ok ht hz hc.1 (fun e0 => by rw [e0] at hc; cases hc.2) (H a) (H b) h
        · cases h
      · cases h
    · cases h
  case convert st dt x =>
    refine ⟨_, fun w => rfl, ?_⟩
    replace h : opOf (cConv P st dt (c x)) T call l e s = .ok av s' := h
    have hx := H x
    cases hs : P.underlying st with
    | none => rw [hs] at hk; cases hd : P.underlying dt <;> rw [hd] at hk <;> simp at hk
    | some sd =>
      cases hd : P.underlying dt with
      | none =>
        rw [hs, hd] at hk
        cases sd <;> simp only [cConv, hs, hd] at h hk <;> first | (cases h; done) | (cases hk; done)
      | some dd =>
        rw [hs, hd] at hk
        cases sd <;> cases dd <;> simp only [cConv, hs, hd] at h hk <;> first | (cases h; done) | (cases hk; done) | skip
        split at h
        · rename_i he; exact xConvSB_ok hs hd he hx h
        · cases h
  case call q =>
    exfalso
    obtain ⟨callee, ⟨args⟩, ⟨tys⟩⟩ := q
    cases callee with
    | value f => cases hk
    | invoke f m => cases hk
    | builtin b =>
      cases b <;> first | (cases hk; done) | skip
      cases tys with
      | nil => cases hk
      | cons t tys => cases tys with
        | cons _ _ => cases hk
        | nil =>
          simp only at hk
          split at hk <;> cases hk
end
end Go.Cx

/-! ## Operations that change something: stores, maps. -/
set_option linter.unusedVariables false
set_option linter.unusedSimpArgs false
namespace Go.Cx
noncomputable section
variable {om : Nat → Value} {r : Rho} {w w' : World} {P : Program} {s s' : St} {av : AVal}

/-- What the run of an operation does. -/
def Does (P : Program) (m : Sem Next) (w : World) (R : Value → World → Prop) : Prop :=
  match m.run P w with
  | .ok (.value x) w' => R x w'
  | .ok .skip w' => R undef w'
  | .ok (.enter f args) w' => Calls P f args w' fun e w'' => ∃ x, e = .returned x ∧ R x w''
  | _ => False
/-- It comes to a state. -/
def Comes' (om : Nat → Value) (r : Rho) (s : St) (w : World) (av : AVal) (s' : St) (x : Value) (w' : World) : Prop := ∃ r', VRel om r' av x ∧ Post om r s w r' s' w'
theorem Does.val {m : Sem Value} {x : Value} {R : Value → World → Prop} (h : m.run P w = .ok x w') (hr : R x w') : Does P (do pure (Next.value (← m))) w R := by
  unfold Does; rw [run_val h]; exact hr
theorem Does.unit {m : Sem Unit} {R : Value → World → Prop} (h : m.run P w = .ok () w') (hr : R undef w') : Does P (do m; pure Next.skip) w R := by
  unfold Does; rw [run_unit h]; exact hr
theorem unit_rel : VRel om r unit undef := .tup [] [] .nil

theorem xStore_ok {t : Nat} (hk : kn P t = true) (ha : isAggA P t = false) (hsz : sizeA P t = 1) {a x : AVal} {av' xv : Value} (hav : VRel om r a av') (hx : VRel om r x xv) (h : xStore a x s = .ok av s') (sim : Sim om r s w) :
    ∃ w', (Instr.storeAt t av' xv).run P w = .ok () w' ∧ Comes' om r s w av s' undef w' := by
  cases a <;> first | (cases h; done) | skip
  rename_i i off
  obtain ⟨h1, h2⟩ := ifv_ok (show ifv (isScalar x) _ _ = _ from h)
  have hrow := isRow_putCell h2
  cases hav with | ptr _ _ p hp =>
  obtain ⟨xs, pre, post, el, lo, hi, row⟩ := sim.sw.row hp hrow
  obtain ⟨g1, z, g2, g3, g4⟩ := row.rel.putCell_ok h1 hx h2
  obtain ⟨g5, rfl, rfl⟩ := St.put_ok g4
  have hl : s.at i ≠ .none := fun e => by rw [e] at hrow; cases hrow
  refine ⟨_, ?_, r, unit_rel, row.posted sim hp g5 hl g2 (by rw [List.length_set])⟩
  have hc := hx.cell h1
  have e1 : xv.cells = #[xv] := by cases xv <;> first | rfl | exact absurd hc (by intro h; cases h)
  simp only [Instr.storeAt, Instr.sureAddr, storeVar, Sem.run_bind, Sem.run_pure, Result.andThen_ok, run_sizeOf' hk, e1, hsz]
  simp only [List.size_toArray, List.length_cons, List.length_nil, Nat.zero_add, ne_eq, not_true_eq_false, if_false, storeCells, Sem.run_bind]
  have : (⟨p.b, p.base + off, none⟩ : Addr).add 0 = ⟨p.b, p.base + off, none⟩ := by simp [Addr.add]
  rw [this, row.store g1 hc]
  rfl
theorem aggLen_ok {x : AVal} {xv : Value} (hx : VRel om r x xv) {b : Blk} {off : Nat} {f : Blk → VR} (h : b.put off x f = .ok av s') : ∃ ys : List Value, xv = .agg ys.toArray ∧ aggLen x = ys.length := by
  cases x
  case agg l =>
    obtain ⟨ys, rfl, hc⟩ := hx.agg_inv
    exact ⟨ys, rfl, lwide_ok hc⟩
  case aggi k n d =>
    cases hx
    exact ⟨_, rfl, by rw [mkI_length]; rfl⟩
  all_goals (cases b <;> cases h)
theorem xStoren_ok {t : Nat} (hk : kn P t = true) {a x : AVal} {av' xv : Value} (hav : VRel om r a av') (hx : VRel om r x xv) (h : xStoren a x (sizeA P t) s = .ok av s') (sim : Sim om r s w) :
    ∃ w', (Instr.storeAt t av' xv).run P w = .ok () w' ∧ Comes' om r s w av s' undef w' := by
  cases a <;> first | (cases h; done) | skip
  rename_i i off
  obtain ⟨h1, h2⟩ := ifv_ok (show ifv (Nat.beq (aggLen x) (sizeA P t)) _ _ = _ from h)
  have h1 := Nat.eq_of_beq_eq_true h1
  have hrow := isRow_put h2
  obtain ⟨ys, rfl, hlen⟩ := aggLen_ok hx h2
  cases hav with | ptr _ _ p hp =>
  obtain ⟨xs, pre, post, el, lo, hi, row⟩ := sim.sw.row hp hrow
  obtain ⟨g1, ⟨z, g2, g3, g4⟩, g6⟩ := row.rel.put_ok hx h2
  obtain ⟨g5, rfl, rfl⟩ := St.put_ok g4
  have hl : s.at i ≠ .none := fun e => by rw [e] at hrow; cases hrow
  refine ⟨_, ?_, r, unit_rel, row.posted sim hp g5 hl g2 (over_length g1)⟩
  simp only [Instr.storeAt, Instr.sureAddr, storeVar, Sem.run_bind, Sem.run_pure, Result.andThen_ok, run_sizeOf' hk, Value.cells, List.size_toArray]
  have : ys.length = sizeA P t := by rw [← hlen, h1]
  simp only [this, ne_eq, not_true_eq_false, if_false]
  exact row.storeCells g1 g6

/-! ### Maps -/
theorem run_setObj {b : Nat} {o x : Obj} (h : w.heap[b]? = some x) (hn : match x with | .cells _ _ _ => False | _ => True) : (setObj b o).run P w = .ok () (setB w b o) := by
  cases x <;> first | exact hn.elim | simp [setObj, Sem.run, h, setB]
/-- A block that is no row is set. -/
theorem Post.obj (sim : Sim om r s w) {i : Id} {p : Pl} {b : Blk} {o x : Obj} (hi : r i = some p) (hro : s.ro ≤ i.num) (hl : s.at i ≠ .none) (hx : w.heap[p.b]? = some x) (hb : BRel om r b p o) :
    Post om r s w r ⟨Heap.set i b s.h, s.n, s.ro⟩ (setB w p.b o) :=
  Post.put sim hi hro hl (.inr ⟨o, setB_same hx, hb⟩) (fun c hc => setB_ne hc) setB_size rfl rfl rfl
theorem mapp_eq (l : List ME) (e : ME) : mapp l e = l ++ [e] := by
  induction l with
  | nil => rfl
  | cons x l ih => show x :: mapp l e = _; rw [ih]; rfl
theorem MRel.snoc {l : List ME} {es : List MapEntry} (h : MRel om r l es) {e : ME} {x : MapEntry} (hk : VRel om r e.key x.key) (hv : VRel om r e.val x.val) (hb : x.born = e.born) : MRel om r (l ++ [e]) (es ++ [x]) := by
  induction h with
  | nil => exact .cons _ _ _ _ hk hv hb .nil
  | cons _ _ _ _ h1 h2 h3 _ ih => exact .cons _ _ _ _ h1 h2 h3 ih
theorem MRel.set {l : List ME} {es : List MapEntry} (h : MRel om r l es) {k v : AVal} {kv vv : Value} (hk : VRel om r k kv) (hv : VRel om r v vv) (j : Nat) :
    MRel om r (msetAt k v l j) (es.modify j fun e => { e with key := kv, val := vv }) := by
  induction h generalizing j with
  | nil => cases j <;> exact .nil
  | cons e x l y h1 h2 h3 t ih =>
    cases j with
    | zero => exact .cons _ _ _ _ hk hv h3 t
    | succ j => exact .cons _ _ _ _ h1 h2 h3 (ih j)
theorem MRel.erase {l : List ME} {es : List MapEntry} (h : MRel om r l es) (j : Nat) : MRel om r (merAt l j) (es.eraseIdx j) := by
  induction h generalizing j with
  | nil => cases j <;> exact .nil
  | cons e x l y h1 h2 h3 t ih =>
    cases j with
    | zero => exact t
    | succ j => exact .cons _ _ _ _ h1 h2 h3 (ih j)
theorem xMupd_ok {t kt et : Nat} (ht : P.underlying t = some (.map kt et)) {m k x : AVal} {mv kv xv : Value} (hm : VRel om r m mv) (hk : VRel om r k kv) (hx : VRel om r x xv)
    (h : xMupd m (ekKey P kt) k x s = .ok av s') (sim : Sim om r s w) : ∃ w', (Instr.mapUpdate t mv kv xv).run P w = .ok () w' ∧ Comes' om r s w av s' undef w' := by
  cases m <;> first | (cases h; done) | skip
  rename_i i
  obtain ⟨h1, h2⟩ := ifv_ok (show ifv _ (updMap (s.at i) (ekKey P kt) i k x s) _ = _ from h)
  rw [band_true, band_true] at h1
  cases hm with | map _ p hp =>
  cases hb : s.at i with
  | map l cl =>
    rw [hb] at h2
    have hl : s.at i ≠ .none := by rw [hb]; intro e; cases e
    obtain ⟨es, g1, g2, g3⟩ := sim.sw.map (P := P) hp hb
    obtain ⟨res, hres, h3⟩ := scanTo_ok (show scanTo (mscan (ekKey P kt) k l 0) 94 _ _ = _ from h2)
    obtain ⟨R, r1, r2⟩ := findKey_ok (P := P) (keyOk_no h1.2.2) hk g2 hres
    rcases h3 with ⟨rfl, h3⟩ | ⟨j, rfl, h3⟩
    · cases r2
      obtain ⟨q1, rfl, rfl⟩ := St.put_ok h3
      have hnew := MRel.snoc g2 (e := ⟨k, x, cl⟩) (x := { key := kv, val := xv, born := cl }) hk hx rfl
      rw [← mapp_eq] at hnew
      refine ⟨_, ?_, r, unit_rel, Post.obj sim hp q1 hl g1 (.map _ (cl + 1) p _ hnew)⟩
      simp only [Instr.mapUpdate, Sem.run_bind, run_underlying ht, g3, Result.andThen_ok, run_checkKey false hk h1.2.2, r1]
      rw [run_setObj g1 trivial]
      simp
    · generalize hj : some j = sj at r2
      cases r2 with
      | no => cases hj
      | yes j' e1 x1 he hx1 hv hb1 hk1 hs1 =>
        simp only [Nat.zero_add, Option.some.injEq] at hj
        subst hj
        obtain ⟨q1, rfl, rfl⟩ := St.put_ok h3
        refine ⟨_, ?_, r, unit_rel, Post.obj sim hp q1 hl g1 (.map _ cl p _ (g2.set hk hx j))⟩
        have hstay : (Instr.keyThatStays (((es.toArray[j]?).map (·.key)).getD kv) kv).run P w = .ok kv w := by
          have : ((es.toArray[j]?).map (·.key)).getD kv = x1.key := by simp [hx1]
          rw [this]
          unfold Instr.keyThatStays
          rw [if_pos hs1]; rfl
        simp only [Instr.mapUpdate, Sem.run_bind, run_underlying ht, g3, Result.andThen_ok, run_checkKey false hk h1.2.2, r1, Nat.zero_add, hstay]
        rw [run_setObj g1 trivial]
        simp
  | _ => rw [hb] at h2; cases h2
theorem xDelete_ok {t u kt et : Nat} {ty : TypeId} (ht : P.underlying t = some (.map kt et)) {m k : AVal} {mv kv : Value} (hm : VRel om r m mv) (hk : VRel om r k kv)
    (h : xDelete m (ekKey P kt) k s = .ok av s') (sim : Sim om r s w) : ∃ x w', (Builtin.delete_ #[t, u] ty #[mv, kv]).run P w = .ok x w' ∧ Comes' om r s w av s' x w' := by
  cases m <;> first | (cases h; done) | skip
  · obtain ⟨h1, h2⟩ := ifv_ok (show ifv (keyOk (ekKey P kt) k) _ _ = _ from h)
    cases h2; cases hm
    refine ⟨.tuple #[], w, ?_, r, unit_rel, Post.refl sim⟩
    simp [Builtin.delete_, run_underlying ht, run_checkKey true hk h1]
  rename_i i
  obtain ⟨h1, h2⟩ := ifv_ok (show ifv (keyOk (ekKey P kt) k) (delMap (s.at i) (ekKey P kt) i k s) _ = _ from h)
  cases hm with | map _ p hp =>
  cases hb : s.at i with
  | map l cl =>
    rw [hb] at h2
    have hl : s.at i ≠ .none := by rw [hb]; intro e; cases e
    obtain ⟨es, g1, g2, g3⟩ := sim.sw.map (P := P) hp hb
    obtain ⟨res, hres, h3⟩ := scanTo_ok (show scanTo (mscan (ekKey P kt) k l 0) 135 _ _ = _ from h2)
    obtain ⟨R, r1, r2⟩ := findKey_ok (P := P) (keyOk_no h1) hk g2 hres
    rcases h3 with ⟨rfl, h3⟩ | ⟨j, rfl, h3⟩
    · cases r2
      obtain ⟨q1, rfl, rfl⟩ := St.put_ok h3
      refine ⟨.tuple #[], _, ?_, r, unit_rel, Post.obj sim hp q1 hl g1 (.map _ cl p _ g2)⟩
      simp [Builtin.delete_, run_underlying ht, g3, run_checkKey _ hk h1, r1, run_setObj g1 trivial]
    · generalize hj : some j = sj at r2
      cases r2 with
      | no => cases hj
      | yes j' e1 x1 he hx1 hv hb1 hk1 hs1 =>
        simp only [Nat.zero_add, Option.some.injEq] at hj
        subst hj
        obtain ⟨q1, rfl, rfl⟩ := St.put_ok h3
        refine ⟨.tuple #[], _, ?_, r, unit_rel, Post.obj sim hp q1 hl g1 (.map _ cl p _ (g2.erase j))⟩
        have he2 : es.toArray.eraseIdxIfInBounds j = (es.eraseIdx j).toArray := by
          have := (List.getElem?_eq_some_iff.1 hx1).1
          simp [Array.eraseIdxIfInBounds, this]
        simp [Builtin.delete_, run_underlying ht, g3, run_checkKey _ hk h1, r1, run_setObj g1 trivial, he2]
  | _ => rw [hb] at h2; cases h2
end
end Go.Cx

/-! ## Operations that change something: copies, iterators. -/
set_option linter.unusedVariables false
set_option linter.unusedSimpArgs false
namespace Go.Cx
noncomputable section
variable {om : Nat → Value} {r : Rho} {w w' : World} {P : Program} {s s' : St} {av : AVal}

theorem lcut_celly {l : List AVal} {off cnt : Nat} (h : lcut l off cnt ≠ .bad) : Celly (lcut l off cnt) := by
  have head : ∀ (l : List AVal) (cnt : Nat) (f : List AVal → AVal), (∀ z, Celly (f z)) → lhead l cnt f ≠ .bad → Celly (lhead l cnt f) := by
    intro l
    induction l with
    | nil => intro cnt f hf h; cases cnt with
      | zero => exact hf []
      | succ j => exact absurd rfl h
    | cons v l ih =>
      intro cnt f hf h
      cases cnt with
      | zero => exact hf []
      | succ j =>
        have e : lhead (v :: l) (j + 1) f = lheadStep v j (lhead l) f := rfl
        rw [e] at h ⊢
        cases hv : oneC v with
        | true => rw [lheadStep_one hv] at h ⊢; exact ih j _ (fun z => hf _) h
        | false =>
          cases v <;> first | (cases hv; done) | skip
          rename_i k n d
          have e2 : lheadStep (.aggi k n d) j (lhead l) f = Bool.rec (motive := fun _ => AVal) (f [.aggi k (j + 1) (dcut (kw k) d 0 (j + 1))]) (lhead l (j + 1 - n) fun r => f (.aggi k n d :: r)) (Nat.ble n (j + 1)) := rfl
          rw [e2] at h ⊢
          cases hb : Nat.ble n (j + 1) with
          | true => rw [hb] at h; exact ih _ _ (fun z => hf _) h
          | false => exact hf _
  induction l generalizing off with
  | nil => cases cnt with
    | zero => exact .inr (.inl ⟨[], rfl⟩)
    | succ j => exact absurd rfl h
  | cons v l ih =>
    cases off with
    | zero => exact head (v :: l) cnt aggOf aggOf_celly h
    | succ j =>
      have e : lcut (v :: l) (j + 1) cnt = lcutStep v j (lcut l) cnt := rfl
      rw [e] at h ⊢
      cases hv : oneC v with
      | true => rw [lcutStep_one hv] at h ⊢; exact ih h
      | false =>
        cases v <;> first | (cases hv; done) | skip
        rename_i k n d
        have e2 : lcutStep (.aggi k n d) j (lcut l) cnt = Bool.rec (motive := fun _ => AVal) (lcut l (j + 1 - n) cnt) (Bool.rec (motive := fun _ => AVal) .bad (.aggi k cnt (dcut (kw k) d (j + 1) cnt)) (Nat.ble (j + 1 + cnt) n)) (lt (j + 1) n) := rfl
        rw [e2] at h ⊢
        cases hl : lt (j + 1) n with
        | false => rw [hl] at h; exact ih h
        | true =>
          rw [hl] at h
          obtain ⟨h1, h2⟩ := recB_ok (show Bool.rec (motive := fun _ => AVal) .bad _ _ ≠ .bad from h)
          show Celly (Bool.rec (motive := fun _ => AVal) .bad _ _)
          rw [h2]
          exact .inr (.inr ⟨_, _, _, rfl⟩)
theorem cut_celly {b : Blk} {off cnt : Nat} (h : b.cut off cnt ≠ .bad) : Celly (b.cut off cnt) := by
  cases b <;> first | exact absurd rfl h | skip
  · exact lcut_celly h
  · obtain ⟨h1, h2⟩ := recB_ok (show Bool.rec (motive := fun _ => AVal) .bad _ _ ≠ .bad from h)
    show Celly (Bool.rec (motive := fun _ => AVal) .bad _ _)
    rw [h2]
    exact .inr (.inr ⟨_, _, _, rfl⟩)

/-- The length of a slice or a string. -/
def lenV (v : Value) : Nat := match v with | .slice _ n _ => n | .string s => s.size | _ => 0
theorem lenOf_run {x : AVal} {v : Value} (hx : VRel om r x v) {k : Nat → VR} (h : lenOf x k = .ok av s') : k (lenV v) = .ok av s' ∧ ∀ w, (Builtin.lenOf v).run P w = .ok (lenV v) w := by
  obtain ⟨n, h1, h2⟩ := lenOf_ok hx h
  rcases h2 with ⟨b, c, rfl⟩ | ⟨d, rfl⟩
  · exact ⟨h1, fun w => by simp [Builtin.lenOf, lenV]⟩
  · exact ⟨by simpa [lenV, mkS_size] using h1, fun w => by simp [Builtin.lenOf, lenV]⟩
/-- The first cells of a slice or a string. -/
theorem cellsOf_ok {x : AVal} {v : Value} (hx : VRel om r x v) {esz n : Nat} (hb : cellsOf x esz n s ≠ .bad) (hn : n ≤ lenV v) (sw : SimW om r s.at w) :
    ∃ ys : List Value, (∀ w1 : World, w1.heap = w.heap → (Builtin.firstCells esz n v).run P w1 = .ok ys.toArray w1) ∧ VRel om r (cellsOf x esz n s) (.agg ys.toArray) ∧ ys.length = n * esz ∧ Celly (cellsOf x esz n s) := by
  have gen : ∀ {i off p o} {len cap : Nat}, r i = some p → (n * esz = 0 ∨ o = p.base + off) → (s.at i).cut off (n * esz) ≠ .bad →
      ∃ ys : List Value, (∀ w1 : World, w1.heap = w.heap → (Builtin.firstCells esz n (.slice (some ⟨p.b, o, none⟩) len cap)).run P w1 = .ok ys.toArray w1) ∧ VRel om r ((s.at i).cut off (n * esz)) (.agg ys.toArray) ∧ ys.length = n * esz ∧ Celly ((s.at i).cut off (n * esz)) := fun {i off p o len cap} hp ho hb => by
    obtain ⟨xs, pre, post, el, lo, hi, row⟩ := sw.row hp (isRow_cut hb)
    obtain ⟨h1, h2⟩ := row.rel.cut_ok hb
    refine ⟨_, fun w1 hw => ?_, h2, h1, cut_celly hb⟩
    have row1 : Row om r w1 (s.at i) p xs pre post el lo hi := ⟨by rw [hw]; exact row.heap, row.rel, row.base, row.top, row.fr⟩
    simp only [Builtin.firstCells]
    rcases ho with h0 | rfl
    · rw [h0]; simp [loadCells, loadCellsFrom]
    · exact row1.loadCells h1
  cases x <;> first | exact absurd rfl hb | skip
  · rename_i m d
    cases hx
    have hb' : Bool.rec (motive := fun _ => AVal) .bad (.aggi .u8 n (dcut 8 d 0 n)) (band (Nat.ble n m) (Nat.beq esz 1)) ≠ .bad := hb
    obtain ⟨h1, h2⟩ := recB_ok hb'
    rw [band_true, Nat.ble_eq] at h1
    obtain ⟨h1, he⟩ := h1
    have he := Nat.eq_of_beq_eq_true he
    subst he
    refine ⟨mkI .u8 n (dcut 8 d 0 n), fun w1 _ => ?_, ?_, by rw [mkI_length, Nat.mul_one], ?_⟩
    · simp only [Builtin.firstCells, Sem.run_pure]
      have e1 := mkS_dcut m d 0 n (Nat.zero_le _) h1
      rw [Nat.sub_zero] at e1
      rw [← e1]
      congr 1
      apply Array.ext'
      simp only [Array.toList_map, mkS_cells]
    · show VRel om r (Bool.rec (motive := fun _ => AVal) .bad _ _) _
      rw [h2]; exact .aggi _ _ _
    · show Celly (Bool.rec (motive := fun _ => AVal) .bad _ _)
      rw [h2]; exact .inr (.inr ⟨_, _, _, rfl⟩)
  · cases hx
    have : n = 0 := by simpa [lenV] using hn
    subst this
    exact ⟨[], fun w1 _ => by simp [Builtin.firstCells], .agg [] [] .nil, by simp, .inr (.inl ⟨[], rfl⟩)⟩
  · rename_i i off len cap
    cases hx with | slice _ _ _ _ p hp hl =>
    exact gen hp (.inr rfl) hb
  · rename_i i off len lo z
    cases hx with | slicu _ _ _ _ _ p o cap hp h1 h2 h3 h4 =>
    refine gen hp ?_ hb
    rcases Nat.eq_zero_or_pos n with h0 | h0
    · left; rw [h0, Nat.zero_mul]
    · right
      have hn' : n ≤ len := hn
      exact h4.resolve_left (by omega)

theorem minN_eq (n m : Nat) : minN n m = Nat.min n m := by
  unfold minN
  cases h : Nat.ble n m with
  | true => rw [Nat.ble_eq] at h; show n = _; exact (Nat.min_eq_left h).symm
  | false =>
    have : ¬ n ≤ m := fun g => by rw [← Nat.ble_eq, h] at g; cases g
    show m = _
    exact (Nat.min_eq_right (by omega)).symm
theorem copyAt_ok {i : Id} {p : Pl} {off k o : Nat} {cv : AVal} {ys : List Value} (hp : r i = some p) (ho : k = 0 ∨ o = p.base + off) (hk : k = 0 → ys = []) (hc : k ≠ 0 → VRel om r cv (.agg ys.toArray))
    (h : copyAt i off k cv s = .ok av s') (sim : Sim om r s w) : ∃ w', (storeCells ⟨p.b, o, none⟩ ys).run P w = .ok () w' ∧ av = .int .i64 k ∧ Post om r s w r s' w' := by
  have h' : Bool.rec (motive := fun _ => VR) ((s.at i).put off cv fun b => s.put i b (.int .i64 (.ofNat k))) (.ok (.int .i64 (.ofNat k)) s) (Nat.beq k 0) = .ok av s' := h
  cases hb : Nat.beq k 0 with
  | true =>
    rw [hb] at h'
    have h0 := Nat.eq_of_beq_eq_true hb
    cases h'
    rw [hk h0]
    exact ⟨w, by simp [storeCells], rfl, Post.refl sim⟩
  | false =>
    rw [hb] at h'
    have h0 : k ≠ 0 := fun e => by rw [e] at hb; cases hb
    have ho := ho.resolve_left h0
    subst ho
    have h'' : (s.at i).put off cv (fun b => s.put i b (.int .i64 (.ofNat k))) = .ok av s' := h'
    have hrow := isRow_put h''
    obtain ⟨xs, pre, post, el, lo, hi, row⟩ := sim.sw.row hp hrow
    obtain ⟨g1, ⟨z, g2, g3, g4⟩, g6⟩ := row.rel.put_ok (hc h0) h''
    obtain ⟨g5, rfl, rfl⟩ := St.put_ok g4
    have hl : s.at i ≠ .none := fun e => by rw [e] at hrow; cases hrow
    exact ⟨_, row.storeCells g1 g6, rfl, row.posted sim hp g5 hl g2 (over_length g1)⟩
theorem xCopy_ok {t u e : Nat} {ty : TypeId} (ht : P.underlying t = some (.slice e)) (hkn : kn P e = true) {d x : AVal} {dv xv : Value} (hd : VRel om r d dv) (hx : VRel om r x xv)
    (h : xCopy (sizeA P e) d x s = .ok av s') (sim : Sim om r s w) :
    ∃ y w', (Builtin.copy_ #[t, u] ty #[dv, xv]).run P w = .ok y w' ∧ Comes' om r s w av s' y w' := by
  obtain ⟨h1, h2⟩ := lenOf_run (P := P) hx (show lenOf x _ = .ok av s' from h)
  obtain ⟨h3, _⟩ := lenOf_run (P := P) hd h1
  rw [minN_eq] at h3
  have cp : ∀ {i off len cap p o}, dv = .slice (some ⟨p.b, o, none⟩) len cap → r i = some p → (len = 0 ∨ o = p.base + off) → copyAt i off (Nat.min (lenV xv) (lenV dv)) (cellsOf x (sizeA P e) (Nat.min (lenV xv) (lenV dv)) s) s = .ok av s' →
      ∃ y w', (Builtin.copy_ #[t, u] ty #[dv, xv]).run P w = .ok y w' ∧ Comes' om r s w av s' y w' := fun {i off len cap p o} hdv hp ho h => by
    subst hdv
    have hlen : lenV (.slice (some ⟨p.b, o, none⟩) len cap) = len := rfl
    rw [hlen] at h
    generalize hk : Nat.min (lenV xv) len = k at h
    have hkl : k ≤ len := by rw [← hk]; exact Nat.min_le_right _ _
    have hkx : k ≤ lenV xv := by rw [← hk]; exact Nat.min_le_left _ _
    have first : ∃ ys : List Value, (Builtin.firstCells (sizeA P e) k xv).run P w = .ok ys.toArray w ∧ (k = 0 → ys = []) ∧ (k ≠ 0 → VRel om r (cellsOf x (sizeA P e) k s) (.agg ys.toArray)) := by
      by_cases hb : cellsOf x (sizeA P e) k s = .bad
      · by_cases h0 : k = 0
        · subst h0
          refine ⟨[], ?_, fun _ => rfl, fun g => absurd rfl g⟩
          obtain ⟨n, _, hv⟩ := lenOf_ok hx (show lenOf x _ = .ok av s' from by assumption)
          rcases hv with ⟨b, c, rfl⟩ | ⟨q, rfl⟩
          · cases b with
            | none => simp [Builtin.firstCells]
            | some b => simp [Builtin.firstCells, loadCells, loadCellsFrom]
          · simp [Builtin.firstCells]
        · exfalso
          have h' : Bool.rec (motive := fun _ => VR) ((s.at i).put off (cellsOf x (sizeA P e) k s) fun b => s.put i b (.int .i64 (.ofNat k))) (.ok (.int .i64 (.ofNat k)) s) (Nat.beq k 0) = .ok av s' := h
          rw [show Nat.beq k 0 = false from by cases k <;> first | exact absurd rfl h0 | rfl, hb] at h'
          have h'' : (s.at i).put off .bad (fun b => s.put i b (.int .i64 (.ofNat k))) = .ok av s' := h'
          cases hq : s.at i <;> rw [hq] at h'' <;> cases h''
      · obtain ⟨ys, g1, g2, g3, _⟩ := cellsOf_ok (P := P) hx hb hkx sim.sw
        exact ⟨ys, g1 w rfl, fun h0 => List.eq_nil_of_length_eq_zero (by rw [g3, h0, Nat.zero_mul]), fun _ => g2⟩
    obtain ⟨ys, f1, f2, f3⟩ := first
    obtain ⟨w', g1, rfl, g2⟩ := copyAt_ok (P := P) hp (by rcases ho with h0 | h0; exact .inl (by omega); exact .inr h0) f2 f3 h sim
    refine ⟨.int .i64 k, w', ?_, r, .int _ _, g2⟩
    simp only [Builtin.copy_, Sem.run_bind, run_underlying ht, Result.andThen_ok]
    simp only [List.getElem?_toArray, List.getElem?_cons_zero, List.getElem?_cons_succ, h2, Result.andThen_ok, Sem.run_bind, run_underlying ht, hk, run_sizeOf' hkn, f1, g1, goInt, Sem.run_pure]
  cases d <;> first | (cases h3; done) | skip
  · cases hd
    cases h3
    refine ⟨.int .i64 0, w, ?_, r, .int _ _, Post.refl sim⟩
    have hz : Nat.min (lenV xv) 0 = 0 := Nat.min_zero _
    obtain ⟨n, _, hv⟩ := lenOf_ok hx (show lenOf x _ = _ from h)
    have hf : (Builtin.firstCells (sizeA P e) 0 xv).run P w = .ok #[] w := by
      rcases hv with ⟨b, c, rfl⟩ | ⟨q, rfl⟩
      · cases b with
        | none => simp [Builtin.firstCells]
        | some b => simp [Builtin.firstCells, loadCells, loadCellsFrom]
      · simp [Builtin.firstCells]
    simp [Builtin.copy_, run_underlying ht, h2, run_sizeOf' hkn, hf, goInt]
  · rename_i i off len cap
    cases hd with | slice _ _ _ _ p hp hl =>
    exact cp rfl hp (.inr rfl) h3
  · rename_i i off len lo z
    cases hd with | slicu _ _ _ _ _ p o cap hp g1 g2 g3 g4 =>
    refine cp rfl hp ?_ h3
    rcases Nat.eq_zero_or_pos len with h0 | h0
    · exact .inl h0
    · exact .inr (g4.resolve_left (by omega))
end
end Go.Cx

/-! ## Appending. -/
set_option linter.unusedVariables false
set_option linter.unusedSimpArgs false
namespace Go.Cx
noncomputable section
variable {om : Nat → Value} {r : Rho} {w w' : World} {P : Program} {s s' : St} {av : AVal}

/-- A block gets a new name, the old one is forgotten. -/
theorem Post.rename (sim : Sim om r s w) {i : Id} {p p' : Pl} {b : Blk} {o : Obj} {n : Id} (hi : r i = some p) (hro : s.ro ≤ i.num) (hl : s.at i ≠ .none) (hp : p'.b = p.b) (hn : n.num = s.n.num + 1)
    (hb : BRel om (upd r s.n p') b p' o) (ho : w'.heap[p.b]? = some o) (hoth : ∀ c, c ≠ p.b → w'.heap[c]? = w.heap[c]?) (hsz : w'.heap.size = w.heap.size)
    (hos : w'.os = w.os) (ht : w'.tape = w.tape) (hout : w'.output = w.output) :
    Post om r s w (upd r s.n p') ⟨Heap.set s.n b (Heap.set i .none s.h), n, s.ro⟩ w' := by
  have ext := sim.ext_upd p'
  have hin := (sim.dom i p hi).1
  have old : ∀ j, j.num < s.n.num → upd r s.n p' j = r j := fun j hj => upd_ne (Nat.ne_of_lt hj)
  have at' : ∀ j, (⟨Heap.set s.n b (Heap.set i .none s.h), n, s.ro⟩ : St).at j = if j = s.n then b else if j = i then .none else s.at j := fun j => by
    rw [St.at_set]
    split
    · rfl
    · have := St.at_set s.h s.n s.ro i j .none
      exact this
  refine ⟨old, ⟨⟨?_, ?_⟩, ?_, ?_, by have := sim.ron; show s.ro ≤ n.num; omega⟩, by show s.n.num ≤ n.num; omega, by omega, ?_, ?_, rfl, ?_, hos, ht, hout⟩
  · intro j hj
    rw [at'] at hj ⊢
    by_cases e : j = s.n
    · subst e
      rw [if_pos rfl] at hj ⊢
      exact ⟨p', o, upd_same _ _ _, by rw [hp]; exact ho, hb⟩
    · rw [if_neg e] at hj ⊢
      by_cases ei : j = i
      · rw [if_pos ei] at hj; exact absurd rfl hj
      · rw [if_neg ei] at hj ⊢
        obtain ⟨q, x, h1, h2, h3⟩ := sim.sw.live j hj
        refine ⟨q, x, ext _ _ h1, ?_, h3.mono ext⟩
        rw [hoth q.b fun hq => ei (sim.sw.inj j i q p hj hl h1 hi hq)]
        exact h2
  · intro j k pj pk hj hk h1 h2 hbb
    rw [at'] at hj hk
    have key : ∀ j pj, (if j = i then Blk.none else s.at j) ≠ .none → j ≠ s.n → upd r s.n p' j = some pj → s.at j ≠ .none ∧ r j = some pj ∧ pj.b ≠ p.b := fun j pj hj e h1 => by
      by_cases ei : j = i
      · rw [if_pos ei] at hj; exact absurd rfl hj
      · rw [if_neg ei] at hj
        rw [upd_ne fun e0 => e (Id.num_inj e0)] at h1
        exact ⟨hj, h1, fun hq => ei (sim.sw.inj j i pj p hj hl h1 hi hq)⟩
    by_cases ej : j = s.n
    · by_cases ek : k = s.n
      · rw [ej, ek]
      · rw [if_neg ek] at hk
        obtain ⟨_, _, g⟩ := key k pk hk ek h2
        subst ej
        rw [upd_same] at h1
        cases h1
        exact absurd (by rw [← hbb, hp]) g
    · rw [if_neg ej] at hj
      obtain ⟨a1, a2, a3⟩ := key j pj hj ej h1
      by_cases ek : k = s.n
      · subst ek
        rw [upd_same] at h2
        cases h2
        exact absurd (by rw [hbb, hp]) a3
      · rw [if_neg ek] at hk
        obtain ⟨b1, b2, b3⟩ := key k pk hk ek h2
        exact sim.sw.inj j k pj pk a1 b1 a2 b2 hbb
  · intro j q e
    show j.num < n.num ∧ _
    by_cases ej : j.num = s.n.num
    · have : j = s.n := Id.num_inj ej
      subst this
      rw [upd_same] at e
      cases e
      have := (sim.dom i p hi).2
      rw [hp, hsz]
      omega
    · rw [upd_ne ej] at e
      have := sim.dom j q e
      rw [hsz]
      omega
  · intro j hj
    have hj' : n.num ≤ j.num := hj
    rw [at', if_neg (fun e : j = s.n => by subst e; omega), if_neg (fun e : j = i => by subst e; omega)]
    exact sim.no j (by omega)
  · intro c hc hn'
    exact hoth c fun e => hn' ⟨i, p, hl, hro, hi, e.symm⟩
  · rintro c hc ⟨j, q, h1, h2, h3, h4⟩
    rw [at'] at h1
    by_cases ej : j = s.n
    · subst ej
      rw [upd_same] at h3
      cases h3
      exact ⟨i, p, hl, hro, hi, by rw [← hp]; exact h4⟩
    · rw [if_neg ej] at h1
      by_cases ei : j = i
      · rw [if_pos ei] at h1; exact absurd rfl h1
      · rw [if_neg ei] at h1
        rw [upd_ne fun e => ej (Id.num_inj e)] at h3
        exact ⟨j, q, h1, h2, h3, h4⟩
  · intro j hj
    have hj' : j.num < s.ro := hj
    have := sim.ron
    rw [at', if_neg (fun e : j = s.n => by subst e; omega), if_neg (fun e : j = i => by subst e; omega)]

/-- What appending comes to, once the number of new members is known. -/
def tailA (elem size bytes sLen sCap n : Nat) (base : Option Addr) (appended : Sem (Array Value)) (grow : Sem Value) : Sem Value := do
  if sLen + n ≤ sCap then
    let new ← appended
    if let some a := base then storeCells (a.add (sLen * size)) new.toList
    pure (.slice base (sLen + n) sCap)
  else grow
def growA (elem size bytes sLen sCap n : Nat) (v : Value) (appended : Sem (Array Value)) : Sem Value := do
  let newCap ← choose (.appendCap (sLen + n) sCap elem)
  askRoom (newCap * bytes)
  let old ← Builtin.firstCells size sLen v
  let new ← appended
  let rest := Builtin.zeroCells (← zeroValue elem).cells (newCap - (sLen + n))
  pure (.slice (some (← newRow elem (old ++ new ++ rest))) (sLen + n) newCap)
/-- What is appended, in any world with the same blocks. -/
def App (P : Program) (w : World) (m : Sem (Array Value)) (ys : List Value) : Prop := ∀ w1 : World, w1.heap = w.heap → m.run P w1 = .ok ys.toArray w1

theorem catCells_celly {a b : AVal} (ha : Celly a) (hb : Celly b) (h : catCells a b ≠ .bad) : Celly (catCells a b) := by
  generalize hc : catCells a b = c at *
  unfold catCells at hc
  split at hc
  · rw [← hc]; exact hb
  · rw [← hc]; exact ha
  · split at hc
    · rw [← hc]; exact hb
    · split at hc
      · rw [← hc]; exact ha
      · split at hc
        · rw [← hc]; exact .inr (.inr ⟨_, _, _, rfl⟩)
        · exact absurd hc.symm h
  · rw [← hc]; exact .inr (.inl ⟨_, rfl⟩)
  · rw [← hc]; exact .inr (.inl ⟨_, rfl⟩)
  · rw [← hc]; exact .inr (.inl ⟨_, rfl⟩)
  · exact absurd hc.symm h
theorem notBad_ok {v : AVal} (h : notBad v = true) : v ≠ .bad := by intro e; rw [e] at h; cases h

/-- The grown array. -/
theorem grown_ok {elem need sLen sCap n : Nat} {zl : List AVal} (hz : zCells P elem = some zl) (hkn : kn P elem = true) {old new : AVal} {v : Value} {appended : Sem (Array Value)} {xs ys : List Value}
    (hneed : sLen + n = need) (hxs : App P w (Builtin.firstCells (sizeA P elem) sLen v) xs) (hys : App P w appended ys) (ho : VRel om r old (.agg xs.toArray)) (hn : VRel om r new (.agg ys.toArray))
    (co : Celly old) (cn : Celly new) (hlen : xs.length + ys.length = need * sizeA P elem) (h : grown (sizeA P elem) (bytesA P elem) need old new s = .ok av s') (sim : Sim om r s w) :
    (4 * need + 2000) * bytesA P elem ≤ 281474976710656 ∧ ∃ y w', (growA elem (sizeA P elem) (bytesA P elem) sLen sCap n v appended).run P w = .ok y w' ∧ Comes' om r s w av s' y w' := by
  obtain ⟨h1, h2⟩ := ifv_ok (show ifv (band (notBad old) (notBad new)) (grownC (sizeA P elem) (bytesA P elem) need (catCells old new) s) _ = _ from h)
  obtain ⟨h3, h4⟩ := ifv_ok (show ifv (band (notBad (catCells old new)) (Nat.ble ((4 * need + 2000) * bytesA P elem) 281474976710656)) _ _ = _ from h2)
  rw [band_true, Nat.ble_eq] at h3
  refine ⟨h3.2, ?_⟩
  obtain ⟨n', k1, k2, rfl⟩ := alloc_val (F := fun i => .slicu i 0 need need (sizeA P elem)) h4
  subst k2
  have hcat := catCells_ok ho hn
  have hcel := catCells_celly co cn (notBad_ok h3.1)
  obtain ⟨g1, g2⟩ := blk_ok hcat hcel
  obtain ⟨i, z, z1, z2, z3, z4, z5, z6, z7⟩ := zCells_ok hz
  let q : Question := .appendCap (sLen + n) sCap elem
  let cap := q.cut (w.tape w.drawn q)
  have hcap : need ≤ cap := by rw [← hneed]; exact Nat.le_add_right _ _
  let post : List Value := times (cap - need) z.cells.toList
  have hpost : post.length = (cap - need) * sizeA P elem := by
    simp only [post, times_length]
    have : z.cells.toList.length = sizeA P elem := by rw [z7, ← z6]; simp
    rw [this]
  let w' : World := w.drew.alloc (.cells (xs ++ ys ++ post).toArray elem)
  refine ⟨.slice (some ⟨w.heap.size, 0, none⟩) need cap, w', ?_, upd r s.n ⟨w.heap.size, 0, (xs ++ ys).length + post.length⟩, ?_, ?_⟩
  · have hch : (choose q).run P w = .ok cap w.drew := by rw [run_choose]; rfl
    unfold growA
    simp only [Sem.run_bind, show (choose (.appendCap (sLen + n) sCap elem)).run P w = .ok cap w.drew from hch, Result.andThen_ok, run_askRoom, hxs w.drew rfl, hys w.drew rfl, run_zero z1 z2]
    have : (xs.toArray ++ ys.toArray ++ Builtin.zeroCells z.cells (cap - (sLen + n))) = (xs ++ ys ++ post).toArray := by
      rw [zeroCells_eq, hneed]
      apply Array.ext'
      simp [post]
    rw [this, hneed]
    simp only [run_newRow, Result.andThen_ok, Sem.run_pure]
    rfl
  · refine .slicu s.n 0 need need (sizeA P elem) _ 0 cap (upd_same _ _ _) (Nat.le_refl _) hcap ?_ (.inr rfl)
    show 0 + cap * sizeA P elem ≤ (xs ++ ys).length + post.length
    rw [hpost, List.length_append, hlen, ← Nat.add_mul]
    have : need + (cap - need) = cap := by omega
    rw [this]; omega
  · refine Post.new sim k1 rfl ?_ rfl rfl rfl rfl
    have hr : RRel om (upd r s.n ⟨w.heap.size, 0, (xs ++ ys).length + post.length⟩) (catCells old new).blk (xs ++ ys) := by
      have := g1.mono (sim.ext_upd ⟨w.heap.size, 0, (xs ++ ys).length + post.length⟩)
      simpa [Value.cells] using this
    exact hr.brel0 w.heap.size elem post
end
end Go.Cx
