/-
  The abstract machine is sound: part 8.
-/
import Derived.Test.YthelepbkbjgjbaaGreatS7
import Derived.Lib.SlKeysI
import Derived.Below
import Derived.Laws.AppendOwn
import Derived.Maps.Own
import Derived.ChangeSame
import Derived.Carry
import Derived.JoinedOf
import Derived.KernelRfl
set_option linter.unusedVariables false
set_option linter.unusedSimpArgs false
/-! ## What single functions come to at once: the keys of a map, sorted. -/
set_option maxRecDepth 4000
set_option linter.unusedVariables false
set_option linter.unusedSimpArgs false
namespace Go.Cx
noncomputable section
variable {om : Nat → Value} {r : Rho} {P : Program} {s s' : St} {av v : AVal} {w w' : World} {Q : Exit → Act → World → Prop} {a : Act}

/-- slices.Sorted of what maps.Keys handed back. -/
structure SortedOK (P : Program) (f k : FuncId) (K : TypeId) : Prop where
  key : P.underlying K = some (.int .i64)
  some_ : ∀ (w : World) (Bm b nn : Nat) (D0 : DataW Unit) (R : Value → Option (DataW Unit × List MemPlace)), Bm < w.heap.size → w.cell? ⟨Bm, 0, none⟩ = some (.map (some b)) → w.ownsMap P K R b nn D0 → Maps.size D0 ≤ maxLen → Maps.size D0 * 8 ≤ 140737488355328 →
    Calls P f #[.func (.func k) #[] #[.pointer (some ⟨Bm, 0, none⟩)]] w fun e w' => ∃ (v : Value) (ss : List Int), e = .returned v ∧ ss.Perm (Go.intKeys D0) ∧
      w'.ownsRow w.heap.size K 1 v ss.length ((ss.mergeSort (fun x y => decide (x ≤ y))).map (Value.int .i64)) ∧ (v = .slice none 0 0 ↔ ss = []) ∧ RowKit.Below w.heap.size w w'
  none_ : ∀ (w : World) (Bm : Nat), Bm < w.heap.size → w.cell? ⟨Bm, 0, none⟩ = some (.map none) →
    Calls P f #[.func (.func k) #[] #[.pointer (some ⟨Bm, 0, none⟩)]] w fun e w' => e = .returned (.slice none 0 0) ∧ RowKit.Below w.heap.size w w'
  enter : ∀ args w, (callFunc f args).run P w = .ok (.enter f args) w

/-- Blocks that nobody has a name for. -/
theorem Post.below (sim : Sim om r s w) (h : RowKit.Below w.heap.size w w') : Post om r s w r s w' := by
  refine ⟨fun _ _ => rfl, ⟨⟨fun i hi => ?_, sim.sw.inj⟩, fun i p hp => ?_, sim.no, sim.ron⟩, Nat.le_refl _, h.size, fun b hb _ => h.block b hb, fun b _ g => g, rfl, fun _ _ => rfl, h.os, h.tape, h.output⟩
  · obtain ⟨p, o', h1, h2, h3⟩ := sim.sw.live i hi
    exact ⟨p, o', h1, by rw [h.block _ (sim.dom i p h1).2]; exact h2, h3⟩
  · have := sim.dom i p hp
    have := h.size
    exact ⟨(sim.dom i p hp).1, by omega⟩

theorem bornIn_mem {b : Nat} : ∀ {l : List ME}, bornIn b l = false → ∀ x ∈ l, x.born ≠ b
  | [], _, x, h => by cases h
  | y :: l, h, x, hx => by
    replace h : bor (Nat.beq y.born b) (bornIn b l) = false := h
    cases hb : Nat.beq y.born b with
    | true => rw [hb] at h; cases h
    | false =>
      rw [hb] at h
      rcases List.mem_cons.1 hx with hx | hx
      · subst hx; intro e0; rw [e0, Nat.beq_refl] at hb; cases hb
      · exact bornIn_mem (show bornIn b l = false from h) x hx
theorem intIn_mem {n : Int} : ∀ {l : List Int}, intIn n l = false → n ∉ l
  | [], _, h => by cases h
  | y :: l, h, hx => by
    replace h : bor (ieq y n) (intIn n l) = false := h
    rw [ieq_eq] at h
    cases hb : (y == n) with
    | true => rw [hb] at h; cases h
    | false =>
      rw [hb] at h
      rcases List.mem_cons.1 hx with hx | hx
      · subst hx; simp at hb
      · exact intIn_mem (show intIn n l = false from h) hx
theorem bnot_true {b : Bool} (h : bnot b = true) : b = false := by cases b <;> first | rfl | cases h
theorem keysOk_nodup : ∀ {l : List Int}, keysOk l = true → l.Nodup
  | [], _ => List.nodup_nil
  | n :: l, h => by
    obtain ⟨h1, h2⟩ := band_split (show band (bnot (intIn n l)) (keysOk l) = true from h)
    exact List.nodup_cons.2 ⟨intIn_mem (bnot_true h1), keysOk_nodup h2⟩
theorem stampOk_ok {c : Nat} : ∀ {l : List ME} {es : List MapEntry}, stampOk c l = true → MRel om r l es → (∀ x ∈ es, x.born < c) ∧ (es.map (·.born)).Nodup
  | [], es, _, h => by cases h; exact ⟨fun x hx => (by cases hx), List.nodup_nil⟩
  | e :: l, es, hs, h => by
    cases h with | cons _ x _ y hk hv hb t =>
    obtain ⟨h1, h2⟩ := band_split (show band (lt e.born c) (band (bnot (bornIn e.born l)) (stampOk c l)) = true from hs)
    obtain ⟨h3, h4⟩ := band_split h2
    obtain ⟨i1, i2⟩ := stampOk_ok h4 t
    refine ⟨fun z hz => ?_, List.nodup_cons.2 ⟨fun hm => ?_, i2⟩⟩
    · rcases List.mem_cons.1 hz with hz | hz
      · subst hz; rw [hb]; exact lt_true.1 h1
      · exact i1 z hz
    · obtain ⟨z, hz, hzb⟩ := List.mem_map.1 hm
      obtain ⟨u, hu, hub⟩ := t.mem hz
      exact bornIn_mem (bnot_true h3) u hu (by rw [hub, hzb]; exact hb)
theorem intKeys_ok : ∀ {l : List ME} {rr : List Int} {es : List MapEntry}, intKeys l = some rr → MRel om r l es → es.map (·.key) = rr.map (Value.int .i64)
  | [], rr, es, h, hm => by cases hm; cases h; rfl
  | e :: l, rr, es, h, hm => by
    cases hm with | cons _ x _ y hk hv hb t =>
    unfold intKeys at h
    split at h
    · rename_i n r2 h1 h2
      cases h
      rw [h1] at hk
      have := intKeys_ok h2 t
      rw [List.map_cons, List.map_cons, this]
      generalize x.key = q at hk
      cases hk
      rfl
    · cases h

/-! ### Sorting -/
theorem insInt_perm (x : Int) : ∀ l, (insInt x l).Perm (x :: l)
  | [] => List.Perm.refl _
  | y :: l => by
    show (Bool.rec (y :: insInt x l) (x :: y :: l) (ilt x y) : List Int).Perm _
    cases ilt x y with
    | true => exact List.Perm.refl _
    | false => exact ((insInt_perm x l).cons y).trans (List.Perm.swap x y l)
theorem sortInts_perm : ∀ l, (sortInts l).Perm l
  | [] => List.Perm.refl _
  | x :: l => (insInt_perm x _).trans ((sortInts_perm l).cons x)
theorem insInt_sorted (x : Int) : ∀ l, l.Pairwise (· ≤ ·) → (insInt x l).Pairwise (· ≤ ·)
  | [], _ => List.pairwise_singleton _ _
  | y :: l, h => by
    show (Bool.rec (y :: insInt x l) (x :: y :: l) (ilt x y) : List Int).Pairwise _
    obtain ⟨h1, h2⟩ := List.pairwise_cons.1 h
    rw [ilt_eq]
    cases hb : decide (x < y) with
    | true =>
      have hxy : x < y := of_decide_eq_true hb
      refine List.pairwise_cons.2 ⟨fun z hz => ?_, h⟩
      rcases List.mem_cons.1 hz with hz | hz
      · subst hz; omega
      · have := h1 z hz; omega
    | false =>
      have hxy : ¬ x < y := of_decide_eq_false hb
      refine List.pairwise_cons.2 ⟨fun z hz => ?_, insInt_sorted x l h2⟩
      rcases List.mem_cons.1 ((insInt_perm x l).mem_iff.1 hz) with hz | hz
      · subst hz; omega
      · exact h1 z hz
theorem sortInts_sorted : ∀ l, (sortInts l).Pairwise (· ≤ ·)
  | [] => List.Pairwise.nil
  | x :: l => insInt_sorted x _ (sortInts_sorted l)
theorem sortInts_merge {l ss : List Int} (h : ss.Perm l) : ss.mergeSort (fun x y => decide (x ≤ y)) = sortInts l := by
  have tr : ∀ a b c : Int, decide (a ≤ b) = true → decide (b ≤ c) = true → decide (a ≤ c) = true := fun a b c h1 h2 => by simp only [decide_eq_true_eq] at *; omega
  have to : ∀ a b : Int, (decide (a ≤ b) || decide (b ≤ a)) = true := fun a b => by simp only [Bool.or_eq_true, decide_eq_true_eq]; omega
  refine List.Perm.eq_of_pairwise (le := fun a b => a ≤ b) (fun a b _ _ h1 h2 => by omega) ?_ (sortInts_sorted l) ((List.mergeSort_perm ss _).trans (h.trans (sortInts_perm l).symm))
  exact (List.pairwise_mergeSort tr to ss).imp (fun h => by simpa using h)
theorem packInts_ok : ∀ {l : List Int} {d : Nat}, packInts l = some d → mkI .i64 l.length d = l.map (Value.int .i64) ∧ ∀ n ∈ l, (Lit.int .i64 n).wf = true
  | [], d, h => ⟨rfl, fun n hn => by cases hn⟩
  | n :: l, d, h => by
    unfold packInts at h
    split at h
    · rename_i d' u h1 h2
      obtain ⟨g1, g2⟩ := encO_ok h2
      obtain ⟨i1, i2⟩ := packInts_ok h1
      cases h
      refine ⟨?_, fun m hm => ?_⟩
      · rw [List.length_cons, List.map_cons, ← i1]
        show mkI .i64 (l.length + 1) (u + kp .i64 * d') = _
        rw [mkI_cons _ _ _ _ g1, g2]
      · rcases List.mem_cons.1 hm with hm | hm
        · subst hm
          unfold encO at h2
          split at h2
          · rename_i m
            split at h2
            · rename_i hl
              have hl : m < 9223372036854775808 := lt_true.1 hl
              simp only [Lit.wf, Bool.and_eq_true, decide_eq_true_eq]
              have e1 : IntKind.min .i64 = -9223372036854775808 := by decide
              have e2 : IntKind.max .i64 = 9223372036854775807 := by decide
              rw [e1, e2]
              clear g1 g2
              first | (constructor <;> omega) | (simp only [Int.ofNat_eq_natCast]; constructor <;> omega) | (rw [Int.negSucc_eq]; constructor <;> omega)
            · cases h2
          · rename_i m
            split at h2
            · rename_i hl
              have hl : m < 9223372036854775808 := lt_true.1 (band_split hl).2
              simp only [Lit.wf, Bool.and_eq_true, decide_eq_true_eq]
              have e1 : IntKind.min .i64 = -9223372036854775808 := by decide
              have e2 : IntKind.max .i64 = 9223372036854775807 := by decide
              rw [e1, e2]
              clear g1 g2
              first | (constructor <;> omega) | (simp only [Int.ofNat_eq_natCast]; constructor <;> omega) | (rw [Int.negSucc_eq]; constructor <;> omega)
            · cases h2
        · exact i2 m hm
    · cases h
theorem intKeys_len : ∀ {l : List ME} {rr : List Int}, intKeys l = some rr → rr.length = l.length
  | [], rr, h => by cases h; rfl
  | e :: l, rr, h => by
    unfold intKeys at h
    split at h
    · rename_i n r2 h1 h2
      cases h
      rw [List.length_cons, List.length_cons, intKeys_len h2]
    · cases h
theorem mapInt_inj : ∀ {l m : List Int}, l.map (Value.int .i64) = m.map (Value.int .i64) → l = m
  | [], [], _ => rfl
  | [], _ :: _, h => by cases h
  | _ :: _, [], h => by cases h
  | a :: l, b :: m, h => by
    rw [List.map_cons, List.map_cons] at h
    injection h with h1 h2
    injection h1 with _ h3
    rw [h3, mapInt_inj h2]
theorem sizeMap {es : List (Lit × DataW Unit)} : Maps.size (.map es) = es.length := rfl

/-- slices.Sorted of the keys of a map. -/
theorem keys_sound {f : FuncId} {keys : List Nat} {K : TypeId} (H : ∀ k, has k keys = true → SortedOK P f k K) {args : List AVal} (h : sumKeys keys args s = .ok av s') {xs : List Value} (sim : Sim om r s w) (hx : LRel om r args xs) :
    Does P (callFunc f xs.toArray) w (Comes' om r s w av s') := by
  unfold sumKeys at h
  split at h
  case h_2 => cases h
  rename_i k c
  obtain ⟨hk, h⟩ := ifv_ok h
  have S := H k hk
  cases hx with | cons _ x1 _ _ h1 t1 =>
  cases t1
  cases h1 with | func _ _ _ y z hy hz =>
  cases hy
  cases hz with | cons _ z1 _ _ hz1 tz =>
  cases tz
  cases hz1 with | ptr _ _ p hp =>
  -- the cell
  split at h
  case h_2 => cases h
  rename_i vv hkv
  obtain ⟨oo, hoo, hbb⟩ := sim.sw.obj hp (by rw [hkv]; intro e0; cases e0)
  rw [hkv] at hbb
  cases hbb with
  | row _ _ _ _ _ _ _ _ hr => cases hr
  | kvar _ y _ el g2 hb0 =>
  have hent := S.enter [Value.func (.func k) [].toArray [Value.pointer (some ⟨p.b, p.base + 0, none⟩)].toArray].toArray w
  unfold Does
  rw [hent, hb0]
  have hcell : w.cell? ⟨p.b, 0, none⟩ = some y := by
    unfold World.cell?
    rw [hoo]
    rfl
  have hpb := (sim.dom c p hp).2
  have nils : ∀ {w' : World} {e : Ending}, s' = s ∧ av = .nils → e = .returned (.slice none 0 0) ∧ RowKit.Below w.heap.size w w' → ∃ x, e = .returned x ∧ Comes' om r s w av s' x w' := fun {w' e} ⟨e1, e2⟩ ⟨e3, e4⟩ => by
    subst e1 e2
    exact ⟨_, e3, r, .nils, Post.below sim e4⟩
  unfold keysVia at h
  split at h
  · -- no map
    cases g2
    cases h
    exact Calls.mono (S.none_ w p.b hpb hcell) fun e w' he => nils ⟨rfl, rfl⟩ he
  · -- a map
    rename_i m
    cases g2 with | map _ q hq =>
    have hmap : ∃ l cl, s.at m = .map l cl ∧ ((l = [] ∧ s' = s ∧ av = .nils) ∨ (l ≠ [] ∧ keysOf l cl s = .ok av s')) := by
      unfold keysAt at h
      split at h
      · rename_i cl hm
        cases h
        exact ⟨[], cl, hm, .inl ⟨rfl, rfl, rfl⟩⟩
      · rename_i l cl hne hm
        exact ⟨l, cl, hm, .inr ⟨fun e0 => hne e0, h⟩⟩
      · cases h
    obtain ⟨l, cl, hm, hl⟩ := hmap
    obtain ⟨es, h3, h4, -⟩ := sim.sw.map (P := P) hq hm
    -- what is known of its entries
    have facts : ∃ rr d, intKeys l = some rr ∧ es.map (·.key) = rr.map (Value.int .i64) ∧ ((∀ x ∈ es, x.born < cl) ∧ (es.map (·.born)).Nodup) ∧ rr.Nodup ∧ (∀ n ∈ rr, (Lit.int .i64 n).wf = true) ∧ es.length ≤ 4294967296 ∧ rr.length = es.length ∧
        ((rr = [] ∧ s' = s ∧ av = .nils) ∨ (rr ≠ [] ∧ packInts (sortInts rr) = some d ∧ s.alloc (.ints .i64 rr.length d) (fun i s => .ok (.slicu i 0 rr.length rr.length 1) s) = .ok av s')) := by
      have hlen : l.length = es.length := by
        clear hl hm h3
        induction h4 with
        | nil => rfl
        | cons _ _ _ _ _ _ _ _ ih => rw [List.length_cons, List.length_cons, ih]
      rcases hl with ⟨e1, e2, e3⟩ | ⟨hne, hl⟩
      · subst e1
        cases h4
        exact ⟨[], 0, rfl, rfl, ⟨fun x hx => (by cases hx), List.nodup_nil⟩, List.nodup_nil, fun n hn => (by cases hn), (by simp), rfl, .inl ⟨rfl, e2, e3⟩⟩
      · unfold keysOf at hl
        split at hl
        · rename_i rr hrr
          obtain ⟨g3, g4⟩ := ifv_ok hl
          obtain ⟨g5, g6⟩ := band_split g3
          obtain ⟨g7, g8⟩ := band_split g6
          unfold sortedBlk at g4
          split at g4
          · rename_i d hd
            have hln := intKeys_len hrr
            refine ⟨rr, d, hrr, intKeys_ok hrr h4, stampOk_ok g5 h4, keysOk_nodup g7, fun n hn => (packInts_ok hd).2 n ((sortInts_perm rr).mem_iff.2 hn), by have := Nat.le_of_ble_eq_true g8; omega, by omega, .inr ⟨fun e0 => hne (List.eq_nil_of_length_eq_zero (by rw [← hln, e0]; rfl)), hd, by rw [hln]; exact g4⟩⟩
          · cases g4
        · cases hl
    obtain ⟨rr, d, f1, f2, f3, f4, f5, f6, f7, f8⟩ := facts
    let R : Value → Option (DataW Unit × List MemPlace) := fun _ => some (.nil, [])
    have hkeyOf : ∀ n, n ∈ rr → keyOf P K (.int .i64 n) = some (.int .i64 n) := fun n hn => by simp [keyOf, mapKey, S.key, f5 n hn]
    have hkm : ∀ x ∈ es, ∃ n ∈ rr, x.key = .int .i64 n := fun x hx => by
      have : x.key ∈ es.map (·.key) := List.mem_map.2 ⟨x, hx, rfl⟩
      rw [f2] at this
      obtain ⟨n, h1, h2⟩ := List.mem_map.1 this
      exact ⟨n, h1, h2.symm⟩
    have hrd : ∀ x ∈ es, ∃ n, x.key = .int .i64 n ∧ WideElems.rd P K R x = some (.int .i64 n, .nil) := fun x hx => by
      obtain ⟨n, h1, h2⟩ := hkm x hx
      exact ⟨n, h2, by unfold WideElems.rd; rw [h2, hkeyOf n h1]; rfl⟩
    have hkn : (es.map (·.key)).Nodup := by
      rw [f2]
      exact List.pairwise_map.2 (f4.imp fun hne e => hne (by simpa using e))
    have hown : w.ownsMap P K R q.b es.length (.map ((es.map (WideElems.rg P K R)).foldr DataW.insert [])) := by
      refine ⟨es.toArray, cl, h3, ⟨?_, ⟨by simpa using f3.1, by simpa using f3.2, by simpa using hkn⟩, fun x hx => ?_⟩, by simp, by simp⟩
      · simp [maxLen]; omega
      · obtain ⟨n, _, h2⟩ := hrd x (by simpa using hx)
        exact ⟨_, h2⟩
    have hperm := WideShapes.sorted_perm (es.map (WideElems.rg P K R))
    have hik : (Go.intKeys (.map ((es.map (WideElems.rg P K R)).foldr DataW.insert []) : DataW Unit)).Perm rr := by
      have h1 : ((es.map (WideElems.rg P K R)).foldr DataW.insert []).map (fun p => intOf p.1) = Go.intKeys (.map ((es.map (WideElems.rg P K R)).foldr DataW.insert []) : DataW Unit) := rfl
      rw [← h1]
      refine (hperm.map _).trans ?_
      rw [List.map_map]
      have h2 : es.map ((fun p : Lit × DataW Unit => intOf p.1) ∘ WideElems.rg P K R) = rr := by
        have h3 : (es.map ((fun p : Lit × DataW Unit => intOf p.1) ∘ WideElems.rg P K R)).map (Value.int .i64) = rr.map (Value.int .i64) := by
          rw [← f2, List.map_map]
          refine List.map_congr_left fun x hx => ?_
          obtain ⟨n, h4, h5⟩ := hrd x hx
          simp only [Function.comp, WideElems.rg, h5]
          rw [h4]; rfl
        exact mapInt_inj h3
      rw [h2]
    have hsz : Maps.size (.map ((es.map (WideElems.rg P K R)).foldr DataW.insert []) : DataW Unit) = es.length := by
      rw [sizeMap, hperm.length_eq, List.length_map]
    refine Calls.mono (S.some_ w p.b q.b es.length _ R hpb hcell hown (by rw [hsz]; simp [maxLen]; omega) (by rw [hsz]; omega)) fun e w' ⟨v, ss, he, hss, hrow, hnil, hbel⟩ => ?_
    have hsr := hss.trans hik
    rcases f8 with ⟨e1, e2, e3⟩ | ⟨hne, hd, hal⟩
    · subst e1
      have hss0 : ss = [] := by have := hsr.length_eq; exact List.eq_nil_of_length_eq_zero (by simpa using this)
      exact nils ⟨e2, e3⟩ ⟨by rw [he, hnil.2 hss0], hbel⟩
    · obtain ⟨n, a1, a2, a3⟩ := alloc_val (F := fun i => .slicu i 0 rr.length rr.length 1) hal
      subst a2 a3
      have hlen := hsr.length_eq
      rw [sortInts_merge hsr, hlen] at hrow
      obtain ⟨b1, b2⟩ := hrow
      have b3 := (packInts_ok hd).1
      have b4 : (sortInts rr).length = rr.length := (sortInts_perm rr).length_eq
      rw [b4] at b3
      rcases b2 with ⟨b5, b6⟩ | ⟨g, cap, cur, b5, b6, b7, b8, b9, b10, b11⟩
      · have hss0 := hnil.1 b5
        have hr0 : rr = [] := by rw [hss0] at hlen; exact List.eq_nil_of_length_eq_zero (by simpa using hlen.symm)
        exact absurd hr0 hne
      · have hp0 := Post.below sim hbel
        have hcur : cur.toList = mkI .i64 rr.length d ++ cur.toList.drop rr.length := by
          rw [b3, ← b11, Nat.mul_one, List.take_append_drop]
        have hgw : g < w'.heap.size := (Array.getElem?_eq_some_iff.1 b7).1
        have hmk : (mkI .i64 rr.length d).length = rr.length := by rw [b3]; simp [b4]
        have hobj : w'.heap[g]? = some (.cells ([] ++ mkI .i64 rr.length d ++ cur.toList.drop rr.length).toArray K (0, 0)) := by
          rw [b7, List.nil_append, ← hcur]
        have hcs : cur.toList.length = cap := by rw [Array.length_toList, b10, Nat.mul_one]
        have hpost := Post.adopt (p := ⟨g, 0, cap⟩) hp0 a1 hobj (.row (.ints .i64 rr.length d) ⟨g, 0, cap⟩ (mkI .i64 rr.length d) [] (cur.toList.drop rr.length) K 0 0 (.ints .i64 rr.length d) rfl (by
          show cap = 0 + (mkI .i64 rr.length d).length + (cur.toList.drop rr.length).length
          rw [hmk, List.length_drop, hcs]; omega) (.inl rfl)) b6 (fun i q2 hi hq2 e0 => by
            have := (sim.dom i q2 hq2).2
            have e0 : q2.b = g := e0
            omega)
        refine ⟨v, he, _, ?_, hpost⟩
        rw [b5]
        exact .slicu s.n 0 rr.length rr.length 1 ⟨g, 0, cap⟩ 0 cap (upd_same _ _ _) (Nat.le_refl _) b8 (by show 0 + cap * 1 ≤ cap; omega) (.inr rfl)
  · cases h

/-- maps.Keys. -/
structure KeysOK (P : Program) (f k : FuncId) (T : TypeId) : Prop where
  call : ∀ (mb : Option Nat) (w : World), Calls P f #[.map mb] w fun e w' => e = .returned (.func (.func k) #[] #[.pointer (some ⟨w.heap.size, 0, none⟩)]) ∧ w' = w.alloc (.cells #[.map mb] T)
  enter : ∀ args w, (callFunc f args).run P w = .ok (.enter f args) w
theorem mk_sound {f k : FuncId} {T : TypeId} (K : KeysOK P f k T) {args : List AVal} (h : sumMk k args s = .ok av s') {xs : List Value} (sim : Sim om r s w) (hx : LRel om r args xs) :
    Does P (callFunc f xs.toArray) w (Comes' om r s w av s') := by
  have key : ∀ {m : AVal} {mb : Option Nat}, VRel om r m (.map mb) → s.alloc (.kvar m) (fun i s => .ok (.func (.func k) [] [.ptr i 0]) s) = .ok av s' → Does P (callFunc f [Value.map mb].toArray) w (Comes' om r s w av s') := fun {m mb} hm h => by
    obtain ⟨n, a1, a2, a3⟩ := alloc_val (F := fun i => .func (.func k) [] [.ptr i 0]) h
    subst a2 a3
    unfold Does
    rw [K.enter]
    refine Calls.mono (K.call mb w) fun e w' ⟨he, hw⟩ => ?_
    subst hw
    have hpost := Post.new (p := ⟨w.heap.size, 0, 1⟩) (w' := w.alloc (.cells #[.map mb] T)) sim a1 rfl (.kvar m (.map mb) ⟨w.heap.size, 0, 1⟩ T (hm.mono (sim.ext_upd _)) rfl) rfl rfl rfl rfl
    refine ⟨_, he, _, ?_, hpost⟩
    exact .func _ _ _ [] [_] .nil (.cons _ _ _ _ (.ptr s.n 0 ⟨w.heap.size, 0, 1⟩ (upd_same _ _ _)) .nil)
  unfold sumMk at h
  split at h
  · cases hx with | cons _ x _ _ h1 t =>
    cases t
    cases h1
    exact key .nilm h
  · cases hx with | cons _ x _ _ h1 t =>
    cases t
    cases h1 with | map _ p hp =>
    exact key (.map _ p hp) h
  · cases h
end
end Go.Cx

/-! ## From the abstract machine to a law's statement: cells that are not looked at; what stands behind the call. -/
set_option linter.unusedVariables false
set_option linter.unusedSimpArgs false
namespace Go.Cx
open Go.ChangeShapes Go.WideShapes
noncomputable section
variable {om : Nat → Value} {r : Rho} {P : Program} {s s' : St} {av v : AVal} {w w' : World}

/-- Cells of known types are single ones. -/
theorem okWide_one {b : Nat} {t : TypeId} {v : Value} {q : Reach} (h : Cell.okWide P w q b t v) : v.oneCell' = true := by
  cases v <;> first | rfl | skip
  all_goals
    exfalso
    unfold Cell.okWide at h
    split at h <;> first | (rename_i h1; cases h1; done) | skip
    all_goals
      try (rename_i h1 h2; cases h2; done)
      unfold Cell.ok at h
      revert h
      cases P.underlying t with
      | none => exact fun h => h
      | some d => cases d <;> exact fun h => h

theorem emptyHeap_get (i : Id) : Heap.get i emptyHeap = .none := by
  obtain ⟨a0, a1, a2, a3, a4, a5⟩ := i
  have h0 : ∀ (a : I8) (v : HT1), h0g a (N8.all v) = v := fun a v => by cases a <;> rfl
  have h1 : ∀ (a : I8) (v : HT2), h1g a (N8.all v) = v := fun a v => by cases a <;> rfl
  have h2 : ∀ (a : I8) (v : HT3), h2g a (N8.all v) = v := fun a v => by cases a <;> rfl
  have h3 : ∀ (a : I8) (v : HT4), h3g a (N8.all v) = v := fun a v => by cases a <;> rfl
  have h4 : ∀ (a : I8) (v : HT5), h4g a (N8.all v) = v := fun a v => by cases a <;> rfl
  have h5 : ∀ (a : I8) (v : Blk), h5g a (N8.all v) = v := fun a v => by cases a <;> rfl
  show hgetA a0 a1 a2 a3 a4 a5 emptyHeap = .none
  unfold hgetA emptyHeap
  rw [h0, h1, h2, h3, h4, h5]
/-- The empty state stands in every world. -/
theorem sim_empty (w : World) : Sim om (fun _ => none) St.empty w := {
  sw := ⟨fun i hi => by
    exfalso
    apply hi
    exact emptyHeap_get i, fun i j p q _ _ h => by cases h⟩
  dom := fun i p h => by cases h
  no := fun i hi => by
    exact emptyHeap_get i
  ron := Nat.zero_le _ }
theorem Post.isBelow {r' : Rho} (h : Post om r St.empty w r' s' w') : RowKit.Below w.heap.size w w' := {
  os := h.os
  tape := h.tape
  output := h.out
  size := h.grow
  block := fun k hk => h.keep k hk fun ⟨j, q, h1, _⟩ => h1 (by
    exact emptyHeap_get j) }

theorem isTrue_ok {x : VR} (h : x.isTrue = 0) : ∃ s', x = .ok (.bool true) s' := by
  unfold VR.isTrue at h
  split at h
  · exact ⟨_, rfl⟩
  · cases h
  · cases h

/-- A call whose abstract form comes out true. -/
theorem calls_true {f : FuncId} {T : Tab} {n : Nat} {args : List AVal} {xs : List Value} (hmix : P.follows .mixedOrders = true) (ht : TabOK P om T) (h : (callWith T (exec T n) f args St.empty).isTrue = 0)
    (hx : LRel om (fun _ => none) args xs) (hent : ∀ args w, (callFunc f args).run P w = .ok (.enter f args) w) (w : World) : Calls P f xs.toArray w fun e w' => e = .returned (.bool true) ∧ RowKit.Below w.heap.size w w' := by
  obtain ⟨s', hs⟩ := isTrue_ok h
  have := machine_sound hmix ht n f args St.empty (.bool true) s' hs _ w xs (sim_empty w) hx
  unfold Does at this
  rw [hent] at this
  refine Calls.mono this fun e w' ⟨x, he, r', hv, hp⟩ => ?_
  cases hv
  exact ⟨he, hp.isBelow⟩

/-- Cells that are not looked at. -/
def opqs (n : Nat) : List AVal := (List.range n).map AVal.opq
theorem opqs_rel {xs : List Value} (hx : ∀ x ∈ xs, x.oneCell' = true) : VRel (fun i => xs.getD i undef) r (.agg (opqs xs.length)) (.agg xs.toArray) := by
  have key : ∀ (l pre : List Value), xs = pre ++ l → CRel (fun i => xs.getD i undef) r ((List.range' pre.length l.length).map AVal.opq) l := by
    intro l
    induction l with
    | nil => intro pre _; exact .nil
    | cons x l ih =>
      intro pre h
      rw [List.length_cons, List.range'_succ, List.map_cons]
      have hx0 : xs.getD pre.length undef = x := by rw [h]; simp
      refine .opq _ _ _ _ hx0.symm (by rw [hx0]; exact hx x (by rw [h]; simp)) ?_
      have := ih (pre ++ [x]) (by rw [h]; simp)
      rw [List.length_append, List.length_singleton] at this
      exact this
  have := key xs [] rfl
  rw [List.length_nil, ← List.range_eq_range'] at this
  exact .agg _ _ this

/-- What stands behind a call that only made blocks. -/
theorem post_of_below {H : Type} {enc : TypeId × Value → H} {f : Func} {s : ChangeSpec} {apart fresh handsOn again : Bool} {W W' : World} {args : Array Value} {v : Value} {ds gs : List (DataW H)} {before pa pv : List MemPlace}
    (hW : DataW.Whole enc P f.params.toList s.vars apart W args.toList ds gs before)
    (hres : ∀ (b : Nat) (sp : Nat → Bool) (hd : Bool), DataW.TrodAll enc P W' b sp hd f.resultTypes.toList (v.resultList f.resultTypes.size) (s.fn H (ds ++ gs)).results [])
    (hargs : ∀ sp : Nat → Bool, (∀ p ∈ before, sp p.block = true) → DataW.TrodAll enc P W' 0 sp true f.params.toList args.toList (s.fn H (ds ++ gs)).args pa)
    (hvars : ∀ sp : Nat → Bool, (∀ p ∈ before, sp p.block = true) → DataW.TrodVars enc P W' sp s.vars (s.fn H (ds ++ gs)).vars pv)
    (hps : before = pa ++ pv) (hb : RowKit.Below W.heap.size W W')
    (hok : ∀ (j : Nat) (t : TypeId) (r : Value), f.resultTypes[j]? = some t → (v.resultList f.resultTypes.size)[j]? = some r → Value.okWide P W' .any 0 t r) :
    s.post enc P f apart fresh handsOn again W args v W' := by
  have hlt := hW.lt
  have hold : ∀ p ∈ before, (fun b => decide (b < W.heap.size)) p.block = true := fun p hp => by simpa using hlt p hp
  refine ⟨ds, gs, before, [], pa, pv, hW, hres _ _ _, hargs _ hold, hvars _ hold, hb.frame _, fun _ => ?_⟩
  obtain ⟨_, _, _, _, _, hz, hn⟩ := hW
  refine ⟨hok, _, _, ([] ++ pa) ++ pv, ⟨[] ++ pa, pv, trodAll_append (hargs _ (fun _ _ => rfl)) (hres _ _ _), hvars _ (fun _ _ => rfl), rfl, ?_, ?_⟩, ?_⟩
  · intro b off hp
    have hp' : MemPlace.cell b off ∈ before := by rw [hps]; simpa using hp
    have hbl : b < W.heap.size := hlt _ hp'
    have hfz : W'.frozen? ⟨b, off, none⟩ = W.frozen? ⟨b, off, none⟩ := by unfold World.frozen?; rw [hb.block b hbl]
    rw [hfz]
    exact hz b off hp'
  · intro ha
    have := hn ha
    rw [hps] at this
    simpa using this
  · intro p hp _
    rw [hps]
    simpa using hp
end
end Go.Cx

/-! ## An argument that is a row of single cells: the abstract value of it. -/
set_option linter.unusedVariables false
namespace Go.Cx
open Go.ChangeShapes Go.WideShapes
noncomputable section
variable {P : Program} {W : World} {q : Reach} {b : Nat} {t : TypeId} {v : Value}

theorem row_opqs {fs : Array Field} {n : Nat} (ht : P.underlying t = some (.struct fs)) (hn : P.cellsOf t = n) (h : Value.okWide P W q b t v) : ∃ om : Nat → Value, ∀ r, VRel om r (.agg (opqs n)) v := by
  unfold Value.okWide at h
  rw [ht] at h
  obtain ⟨cs, rfl, hsz, ts, _, _, hc⟩ := h
  have hone : ∀ x ∈ cs.toList, x.oneCell' = true := by
    intro x hx
    obtain ⟨i, hi⟩ := List.mem_iff_getElem?.1 hx
    obtain ⟨u, _, hu⟩ := hc i x (by simpa using hi)
    exact okWide_one hu
  refine ⟨fun i => cs.toList.getD i undef, fun r => ?_⟩
  have := opqs_rel (r := r) hone
  rw [Array.length_toList, hsz, hn] at this
  simpa using this

/-- A function of one row of single cells that answers true, whatever stands in them. -/
theorem calls_row {f : FuncId} {T : Tab} {m n : Nat} {fs : Array Field} (hmix : P.follows .mixedOrders = true) (ht : ∀ om, TabOK P om T) (hrun : (callWith T (exec T m) f [.agg (opqs n)] St.empty).isTrue = 0)
    (hu : P.underlying t = some (.struct fs)) (hn : P.cellsOf t = n) (hv : Value.okWide P W q b t v) (hent : ∀ args w, (callFunc f args).run P w = .ok (.enter f args) w) :
    Calls P f #[v] W fun e W' => e = .returned (.bool true) ∧ RowKit.Below W.heap.size W W' := by
  obtain ⟨om, h⟩ := row_opqs hu hn hv
  exact calls_true hmix (ht om) hrun (xs := [v]) (.cons _ _ _ _ (h _) .nil) hent W
end
end Go.Cx

/-! ## The functions that a function leads to, reckoned over a table: the closed facts of a row over a great program. -/
set_option linter.unusedVariables false
set_option linter.unusedSimpArgs false
namespace Go.Cx
variable {P : Program}

/-- 'closureVia' over a table, what is seen as bits. -/
def viaB (tab : List (List Nat)) : Nat → List Nat → Nat → List Nat → List Nat
  | 0, _, _, seen => seen.reverse
  | _ + 1, [], _, seen => seen.reverse
  | n + 1, f :: todo, m, seen => match Nat.beq (Nat.mod (Nat.shiftRight m f) 2) 1 with
    | true => viaB tab n todo m seen
    | false => viaB tab n (tab.getD f [] ++ todo) (Nat.lor m (Nat.shiftLeft 1 f)) (f :: seen)

theorem bit_test (m f : Nat) : Nat.beq (Nat.mod (Nat.shiftRight m f) 2) 1 = m.testBit f := by
  have h1 : m.testBit f = (m >>> f % 2 == 1) := by
    simp [Nat.testBit, Nat.one_and_eq_mod_two, Nat.and_one_is_mod]
  rw [h1, Bool.eq_iff_iff, beq_iff_eq]
  exact ⟨fun h => Nat.eq_of_beq_eq_true h, fun h => by
    have h2 : Nat.mod (Nat.shiftRight m f) 2 = 1 := h
    rw [h2]
    rfl⟩
theorem leads_tab {L : List (List Nat)} (h : P.funcs.toList.map P.leadsTo = L) (g : Nat) : (P.funcs[g]?).elim [] P.leadsTo = L.getD g [] := by
  subst h
  rw [List.getD_eq_getElem?_getD, List.getElem?_map, Array.getElem?_toList]
  cases P.funcs[g]? <;> rfl
theorem via_tab {L : List (List Nat)} (h : P.funcs.toList.map P.leadsTo = L) : ∀ (n : Nat) (todo : List Nat) (m : Nat) (seen : List Nat), (∀ x, m.testBit x = seen.contains x) →
    P.closureVia n todo seen = viaB L n todo m seen := by
  intro n
  induction n with
  | zero => intro todo m seen hm; cases todo <;> rfl
  | succ n ih =>
    intro todo m seen hm
    cases todo with
    | nil => rfl
    | cons f todo =>
      unfold Program.closureVia viaB
      rw [bit_test, hm f]
      cases hc : seen.contains f with
      | true => simp only [if_true]; exact ih _ _ _ hm
      | false =>
        simp only [Bool.false_eq_true, if_false]
        rw [leads_tab h]
        refine ih _ _ _ fun x => ?_
        show (m ||| (1 <<< f)).testBit x = _
        rw [Nat.testBit_or, hm x, List.contains_cons, Nat.one_shiftLeft, Nat.testBit_two_pow, Bool.or_comm]
        congr 1
        rw [Bool.eq_iff_iff]
        simp only [decide_eq_true_eq, beq_iff_eq]
        exact eq_comm
theorem closure_tab {L : List (List Nat)} {C : List Nat} (h : P.funcs.toList.map P.leadsTo = L) (f : Nat) (hc : viaB L (1 + (L.map fun x => x.length + 1).sum) [f] 0 [] = C) : P.closure f = C := by
  unfold Program.closure
  have e : (P.funcs.toList.map fun g => (P.leadsTo g).length + 1) = L.map fun x => x.length + 1 := by
    rw [← h, List.map_map]
    rfl
  rw [e, via_tab h _ _ 0 [] (fun x => by simp), hc]

theorem and_mk {a b : Bool} (ha : a = true) (hb : b = true) : (a && b) = true := by rw [ha, hb]; rfl
theorem laidOut_of (h1 : (List.range P.types.size).all (rowFine P) = true) (h2 : P.globals.toList.all (fun g => decide (g.type < P.types.size)) = true)
    (h3 : P.funcs.toList.all (fun f => f.params.all fun t => decide (t < P.types.size)) = true) : laidOutB P = true := by
  unfold laidOutB
  rw [h1, ← Array.all_toList, h2, ← Array.all_toList, h3]
  rfl
theorem inPlace_of {C : List Nat} {f : Nat} {l : List String} (hC : P.closure f = C) (h : (C.filterMap fun g => (P.funcs[g]?).bind fun fn => if fn.ours || fn.body.isNone || fn.name == "runtime.NumGoroutine" then some fn.name else none) = l) :
    (l == P.inPlace f) = true := by
  unfold Program.inPlace
  rw [hC, h]
  exact beq_self_eq_true l
/-- A function's body follows what it is not given by name. -/
def loose (fn : Func) : Bool := match fn.body with | some c => c.unfollowed | none => entryCalls fn
theorem unfollowed_of {C : List Nat} {f : Nat} (hC : P.closure f = C) (h : (C.any fun g => (P.funcs[g]?).any loose) = true) : P.unfollowed f = true := by
  unfold Program.unfollowed
  rw [hC, ← h]
  refine congrArg _ (funext fun g => ?_)
  refine congrArg (fun x => Option.any x (P.funcs[g]?)) (funext fun fn => ?_)
  unfold loose
  cases fn.body <;> rfl
theorem recurses_of {f : Nat} (h : P.unfollowed f = true) : P.recurses f = true := by
  unfold Program.recurses
  rw [h]
  rfl
theorem named_of {C : List Nat} {f : Nat} {l : List String} (hC : P.closure f = C)
    (h : (((C.flatMap fun g => ((P.funcs[g]?).bind (·.body)).elim [] Code.globalsNamed).eraseDups).filterMap (fun g => (P.globals[g]?).map (·.name)) ++ C.filterMap fun g => (P.funcs[g]?).bind fun fn => if fn.body.isNone then entryReads.lookup fn.name else none).eraseDups = l) :
    (l == P.varsNamed f) = true := by
  unfold Program.varsNamed
  rw [hC, h]
  exact beq_self_eq_true l
end Go.Cx
