/-
  The abstract machine is sound: part 4.
-/
import Derived.Test.YthelepbkbjgjbaaGreatS3
set_option linter.unusedVariables false
set_option linter.unusedSimpArgs false
/-! ## Appending, in place or to a new array. -/
set_option linter.unusedVariables false
set_option linter.unusedSimpArgs false
namespace Go.Cx
noncomputable section
variable {om : Nat → Value} {r : Rho} {w w' : World} {P : Program} {s s' : St} {av : AVal}

theorem inPlace_ok {esz : Nat} {i : Id} {p : Pl} {off len need o n : Nat} {new rv : AVal} {ys : List Value} (hp : r i = some p) (hneed : len + n = need) (ho : need = 0 ∨ o = p.base + off)
    (hn : VRel om r new (.agg ys.toArray)) (hlen : ys.length = n * esz) (h : inPlace esz i off len need new rv s = .ok av s') (sim : Sim om r s w) :
    ∃ w', (storeCells ⟨p.b, o + len * esz, none⟩ ys).run P w = .ok () w' ∧ av = rv ∧ Post om r s w r s' w' := by
  have h' : Bool.rec (motive := fun _ => VR) ((s.at i).put (off + len * esz) new fun b => s.put i b rv) (.ok rv s) (Nat.beq len need) = .ok av s' := h
  cases hb : Nat.beq len need with
  | true =>
    rw [hb] at h'
    have h0 := Nat.eq_of_beq_eq_true hb
    cases h'
    have : ys = [] := List.eq_nil_of_length_eq_zero (by rw [hlen]; have : n = 0 := by omega
                                                        rw [this, Nat.zero_mul])
    rw [this]
    exact ⟨w, by simp [storeCells], rfl, Post.refl sim⟩
  | false =>
    rw [hb] at h'
    have h0 : need ≠ 0 := fun e => by
      have : len = 0 := by omega
      rw [e, this] at hb; cases hb
    have ho := ho.resolve_left h0
    subst ho
    have h'' : (s.at i).put (off + len * esz) new (fun b => s.put i b rv) = .ok av s' := h'
    have hrow := isRow_put h''
    obtain ⟨xs, pre, post, el, lo, hi, row⟩ := sim.sw.row hp hrow
    obtain ⟨g1, ⟨z, g2, g3, g4⟩, g6⟩ := row.rel.put_ok hn h''
    obtain ⟨g5, rfl, rfl⟩ := St.put_ok g4
    have hl : s.at i ≠ .none := fun e => by rw [e] at hrow; cases hrow
    have := row.storeCells (P := P) g1 g6
    rw [← Nat.add_assoc] at this
    exact ⟨_, this, rfl, row.posted sim hp g5 hl g2 (over_length g1)⟩

theorem VR.bind_ok {x : VR} {k : AVal → St → VR} (h : VR.bind x k = .ok av s') : ∃ v s1, x = .ok v s1 ∧ k v s1 = .ok av s' := by
  cases x with
  | ok v s1 => exact ⟨v, s1, rfl, h⟩
  | fail n => cases h

theorem tailA_in {elem size bytes sLen sCap n : Nat} {a : Addr} {appended : Sem (Array Value)} {g : Sem Value} {ys : List Value} (hle : sLen + n ≤ sCap) (hys : appended.run P w = .ok ys.toArray w)
    (hst : (storeCells (a.add (sLen * size)) ys).run P w = .ok () w') : (tailA elem size bytes sLen sCap n (some a) appended g).run P w = .ok (.slice (some a) (sLen + n) sCap) w' := by
  unfold tailA
  rw [if_pos hle]
  simp only [Sem.run_bind, hys, Result.andThen_ok, hst, Sem.run_pure]
theorem tailA_out {elem size bytes sLen sCap n : Nat} {base : Option Addr} {appended : Sem (Array Value)} {g : Sem Value} (hgt : ¬ sLen + n ≤ sCap) :
    tailA elem size bytes sLen sCap n base appended g = g := by
  unfold tailA
  rw [if_neg hgt]

/-- There is room in the old array. -/
theorem room_ok {elem n sLen sCap o lo : Nat} {i : Id} {p : Pl} {ez : Nat} {b : Blk} {old new : AVal} {appended : Sem (Array Value)} {g : Sem Value} {xs ys xs0 pre post : List Value} {el : TypeId} {lo0 hi0 : Nat} {n' : Id}
    (row : Row om r w b p xs0 pre post el lo0 hi0) (hp : r i = some p) (hro : s.ro ≤ i.num) (hl : s.at i ≠ .none) (hys : App P w appended ys) (hn : VRel om r new (.agg ys.toArray)) (cn : Celly new) (hlen : ys.length = n * sizeA P elem)
    (ho : VRel om r old (.agg xs.toArray)) (co : Celly old) (hxl : xs.length = sLen * sizeA P elem) (hxs : App P w (Builtin.firstCells (sizeA P elem) sLen (.slice (some ⟨p.b, o, none⟩) sLen sCap)) xs)
    (hez : sizeA P elem = ez) (h2 : lo ≤ sCap) (h3 : o + sCap * ez ≤ p.top) (hfit : sLen + n ≤ sCap) (hc : catCells old new ≠ .bad) (k1 : n'.num = s.n.num + 1) (sim : Sim om r s w) :
    ∃ y w', (tailA elem (sizeA P elem) (bytesA P elem) sLen sCap n (some ⟨p.b, o, none⟩) appended g).run P w = .ok y w' ∧
      Comes' om r s w (.slicu s.n 0 (sLen + n) (sLen + n) (sizeA P elem)) ⟨Heap.set s.n (catCells old new).blk (Heap.set i .none s.h), n', s.ro⟩ y w' := by
  subst hez
  generalize hL : pre ++ xs0 ++ post = L at *
  have hheap : w.heap[p.b]? = some (.cells L.toArray el (lo0, hi0)) := by rw [← hL]; exact row.heap
  have hLl : L.length = p.top := by rw [← hL]; exact row.len
  have hm1 : (sLen + n) * sizeA P elem ≤ sCap * sizeA P elem := Nat.mul_le_mul_right _ hfit
  have hm2 : (sLen + n) * sizeA P elem = sLen * sizeA P elem + n * sizeA P elem := Nat.add_mul _ _ _
  have hone : ∀ y ∈ ys, y.oneCell' = true := by
    have := (cellList_ok hn cn).cell
    simpa [Value.cells] using this
  have hst := run_storeCells_row (P := P) ys 0 (o + sLen * sizeA P elem) w L hheap (by omega) (by rw [hLl]; exact row.fr) hone
  rw [Nat.add_zero] at hst
  have hload : xs = (L.drop o).take (sLen * sizeA P elem) := by
    have hl2 : ((L.drop o).take (sLen * sizeA P elem)).length = sLen * sizeA P elem := by rw [List.length_take, List.length_drop]; omega
    have h1 := run_loadCells_list (P := P) w ⟨p.b, o, none⟩ ((L.drop o).take (sLen * sizeA P elem)) fun j v hv => by
      have hj := (List.getElem?_eq_some_iff.1 hv).1
      rw [hl2] at hj
      rw [List.getElem?_take, if_pos hj, List.getElem?_drop] at hv
      rw [add_ptr]
      simp only [World.cell?, hheap, Option.isSome_none, Bool.false_eq_true, if_false, List.getElem?_toArray]
      exact hv
    rw [hl2] at h1
    have h2 := hxs w rfl
    simp only [Builtin.firstCells] at h2
    rw [h1] at h2
    injection h2 with h2
    exact (congrArg Array.toList h2).symm
  have hsplit : over L (o + sLen * sizeA P elem) ys = L.take o ++ (xs ++ ys) ++ L.drop (o + sLen * sizeA P elem + ys.length) := by
    unfold over
    rw [hload, List.take_add]
    simp only [List.append_assoc]
  have hb := blk_ok (om := om) (r := r) (z := catCells old new) (v := .agg (xs ++ ys).toArray) (catCells_ok ho hn) (catCells_celly co cn hc)
  have ext := sim.ext_upd ⟨p.b, o, p.top⟩
  refine ⟨.slice (some ⟨p.b, o, none⟩) (sLen + n) sCap, _, tailA_in hfit (hys w rfl) (by rw [add_ptr]; exact hst), upd r s.n ⟨p.b, o, p.top⟩, ?_, ?_⟩
  · exact .slicu s.n 0 _ _ _ ⟨p.b, o, p.top⟩ o sCap (upd_same _ _ _) (Nat.le_refl _) hfit h3 (.inr (Nat.add_zero o).symm)
  · refine Post.rename sim (p' := ⟨p.b, o, p.top⟩) hp hro hl rfl k1 ?_ (setB_same hheap) (fun c hc => setB_ne hc) setB_size rfl rfl rfl
    rw [hsplit]
    have hr : RRel om (upd r s.n ⟨p.b, o, p.top⟩) (catCells old new).blk (xs ++ ys) := by
      have := hb.1.mono ext
      simpa [Value.cells] using this
    refine .row _ _ (xs ++ ys) (L.take o) (L.drop (o + sLen * sizeA P elem + ys.length)) el lo0 hi0 hr ?_ ?_ row.fr
    · show o = (L.take o).length
      rw [List.length_take]; omega
    · show p.top = _
      rw [List.length_take, List.length_append, List.length_drop]; omega

theorem appendTo_ok {elem n : Nat} {zl : List AVal} (hz : zCells P elem = some zl) (hkn : kn P elem = true) {sl new : AVal} {base : Option Addr} {sLen sCap : Nat} {appended : Sem (Array Value)} {ys : List Value}
    (hsl : VRel om r sl (.slice base sLen sCap)) (hys : App P w appended ys) (hn : VRel om r new (.agg ys.toArray)) (cn : Celly new) (hlen : ys.length = n * sizeA P elem)
    (h : appendTo sl (sizeA P elem) (bytesA P elem) n new s = .ok av s') (sim : Sim om r s w) :
    (sLen + n ≤ sCap ∨ (4 * (sLen + n) + 2000) * bytesA P elem ≤ 281474976710656) ∧
    ∃ y w', (tailA elem (sizeA P elem) (bytesA P elem) sLen sCap n base appended (growA elem (sizeA P elem) (bytesA P elem) sLen sCap n (.slice base sLen sCap) appended)).run P w = .ok y w' ∧ Comes' om r s w av s' y w' := by
  generalize hsv : Value.slice base sLen sCap = sv at *
  cases sl <;> first | (cases h; done) | skip
  · -- nil
    cases hsl
    cases hsv
    have h' : Bool.rec (motive := fun _ => VR) (grown (sizeA P elem) (bytesA P elem) n (.agg []) new s) (.ok .nils s) (Nat.beq n 0) = .ok av s' := h
    cases hb : Nat.beq n 0 with
    | true =>
      rw [hb] at h'
      have h0 := Nat.eq_of_beq_eq_true hb
      subst h0
      cases h'
      refine ⟨.inl (Nat.le_refl _), .slice none 0 0, w, ?_, r, .nils, Post.refl sim⟩
      unfold tailA
      rw [if_pos (Nat.le_refl _)]
      simp only [Sem.run_bind, hys w rfl, Result.andThen_ok, Sem.run_pure]
    | false =>
      rw [hb] at h'
      have h0 : n ≠ 0 := fun e => by rw [e] at hb; cases hb
      rw [tailA_out (by omega)]
      obtain ⟨g1, g2⟩ := grown_ok (P := P) (n := n) (sLen := 0) (sCap := 0) (xs := []) (v := .slice none 0 0) (appended := appended) hz hkn (Nat.zero_add n) (fun w1 _ => by simp [Builtin.firstCells]) hys (.agg [] [] .nil) hn (.inr (.inl ⟨[], rfl⟩)) cn (by simp [hlen]) h' sim
      exact ⟨.inr (by rw [Nat.zero_add]; exact g1), g2⟩
  · -- known capacity
    rename_i i off len cap
    cases hsl with | slice _ _ _ _ p hp hlc =>
    cases hsv
    have h' : Bool.rec (motive := fun _ => VR) (grown (sizeA P elem) (bytesA P elem) (sLen + n) ((s.at i).cut off (sLen * sizeA P elem)) new s) (inPlace (sizeA P elem) i off sLen (sLen + n) new (.slice i off (sLen + n) sCap) s) (Nat.ble (sLen + n) sCap) = .ok av s' := h
    cases hb : Nat.ble (sLen + n) sCap with
    | true =>
      rw [hb] at h'
      rw [Nat.ble_eq] at hb
      obtain ⟨w', g1, rfl, g2⟩ := inPlace_ok (P := P) hp rfl (.inr rfl) hn hlen h' sim
      refine ⟨.inl hb, .slice (some ⟨p.b, p.base + off, none⟩) (sLen + n) sCap, w', tailA_in hb (hys w rfl) (by rw [add_ptr]; exact g1), r, .slice _ _ _ _ p hp hb, g2⟩
    | false =>
      rw [hb] at h'
      have hgt : ¬ sLen + n ≤ sCap := fun g => by rw [← Nat.ble_eq, hb] at g; cases g
      rw [tailA_out hgt]
      have h0 : (s.at i).cut off (sLen * sizeA P elem) ≠ .bad := by
        obtain ⟨q1, _⟩ := ifv_ok (show ifv (band (notBad ((s.at i).cut off (sLen * sizeA P elem))) (notBad new)) _ _ = _ from h')
        rw [band_true] at q1
        exact notBad_ok q1.1
      obtain ⟨xs, x1, x2, x3, x4⟩ := cellsOf_ok (P := P) (x := .slice i off sLen sCap) (n := sLen) (esz := sizeA P elem) (.slice i off sLen sCap p hp hlc) h0 (Nat.le_refl _) sim.sw
      obtain ⟨g1, g2⟩ := grown_ok (P := P) hz hkn rfl x1 hys x2 hn x4 cn (by rw [x3, hlen, Nat.add_mul]) h' sim
      exact ⟨.inr g1, g2⟩
  · -- unknown capacity
    rename_i i off len lo ez
    cases hsl with | slicu _ _ _ _ _ p o cap hp h1 h2 h3 h4 =>
    cases hsv
    have h' : Bool.rec (motive := fun _ => VR) (ifv (Nat.beq (sizeA P elem) ez) (VR.bind (s.put i .none ((s.at i).cut off (sLen * sizeA P elem))) fun old s => grown (sizeA P elem) (bytesA P elem) (sLen + n) old new s) (.fail 116))
      (inPlace (sizeA P elem) i off sLen (sLen + n) new (.slicu i off (sLen + n) lo ez) s) (Nat.ble (sLen + n) lo) = .ok av s' := h
    cases hb : Nat.ble (sLen + n) lo with
    | true =>
      rw [hb] at h'
      rw [Nat.ble_eq] at hb
      obtain ⟨w', g1, rfl, g2⟩ := inPlace_ok (P := P) (o := o) hp rfl (by rcases h4 with e | e; exact .inl (by omega); exact .inr e) hn hlen h' sim
      have hb' : sLen + n ≤ sCap := by omega
      exact ⟨.inl hb', .slice (some ⟨p.b, o, none⟩) (sLen + n) sCap, w', tailA_in hb' (hys w rfl) (by rw [add_ptr]; exact g1), r, .slicu _ _ _ _ _ p o sCap hp hb h2 h3 h4, g2⟩
    | false =>
      rw [hb] at h'
      obtain ⟨hez, h5⟩ := ifv_ok (show ifv (Nat.beq (sizeA P elem) ez) _ _ = _ from h')
      have hez := Nat.eq_of_beq_eq_true hez
      obtain ⟨old, s1, h6, h7⟩ := VR.bind_ok h5
      obtain ⟨hro, rfl, rfl⟩ := St.put_ok h6
      have h0 : (s.at i).cut off (sLen * sizeA P elem) ≠ .bad := by
        obtain ⟨q1, _⟩ := ifv_ok (show ifv (band (notBad ((s.at i).cut off (sLen * sizeA P elem))) (notBad new)) _ _ = _ from h7)
        rw [band_true] at q1
        exact notBad_ok q1.1
      have hrow := isRow_cut h0
      have hl : s.at i ≠ .none := fun e => by rw [e] at hrow; cases hrow
      obtain ⟨xs, x1, x2, x3, x4⟩ := cellsOf_ok (P := P) (x := .slicu i off sLen lo ez) (n := sLen) (esz := sizeA P elem) (.slicu i off sLen lo ez p o sCap hp h1 h2 h3 h4) h0 (Nat.le_refl _) sim.sw
      by_cases hfit : sLen + n ≤ sCap
      · -- there is room in the old array
        refine ⟨.inl hfit, ?_⟩
        obtain ⟨q1, q2⟩ := ifv_ok (show ifv (band (notBad ((s.at i).cut off (sLen * sizeA P elem))) (notBad new)) (grownC (sizeA P elem) (bytesA P elem) (sLen + n) (catCells ((s.at i).cut off (sLen * sizeA P elem)) new) _) _ = _ from h7)
        obtain ⟨q3, q4⟩ := ifv_ok (show ifv (band (notBad (catCells ((s.at i).cut off (sLen * sizeA P elem)) new)) (Nat.ble ((4 * (sLen + n) + 2000) * bytesA P elem) 281474976710656)) _ _ = _ from q2)
        rw [band_true] at q3
        obtain ⟨n', k1, k2, rfl⟩ := alloc_val (F := fun i => .slicu i 0 (sLen + n) (sLen + n) (sizeA P elem)) q4
        subst k2
        obtain ⟨xs0, pre, post, el, lo0, hi0, row⟩ := sim.sw.row hp hrow
        exact room_ok (P := P) row hp hro hl hys hn cn hlen x2 x4 x3 x1 hez h2 h3 hfit (notBad_ok q3.1) k1 sim
      · rw [tailA_out hfit]
        have p1 : Post om r s w r ⟨Heap.set i .none s.h, s.n, s.ro⟩ w := Post.put sim hp hro hl (.inl rfl) (fun _ _ => rfl) rfl rfl rfl rfl
        obtain ⟨g1, y, w', g2, r', g3, g4⟩ := grown_ok (P := P) hz hkn rfl x1 hys x2 hn x4 cn (by rw [x3, hlen, Nat.add_mul]) h7 p1.sim
        exact ⟨.inr g1, y, w', g2, r', g3, p1.trans g4⟩
end
end Go.Cx

/-! ## Appending, as the program's builtin. -/
set_option linter.unusedVariables false
set_option linter.unusedSimpArgs false
namespace Go.Cx
noncomputable section
variable {om : Nat → Value} {r : Rho} {w w' : World} {P : Program} {s s' : St} {av : AVal}

theorem run_append_tail {t u e : Nat} {ty : TypeId} {d : TypeDesc} (ht : P.underlying t = some (.slice e)) (hu : P.underlying u = some d) (hd : ∀ k, d ≠ .int k) (hkn : kn P e = true) {xv : Value} {n : Nat}
    (hlen : ∀ w, (Builtin.lenOf xv).run P w = .ok n w) (hb : bytesA P e ≠ 0) {base : Option Addr} {sLen sCap : Nat} (hok : sLen + n ≤ sCap ∨ (4 * (sLen + n) + 2000) * bytesA P e ≤ 281474976710656) (w : World) :
    (Builtin.append_ #[t, u] ty #[.slice base sLen sCap, xv]).run P w =
      (tailA e (sizeA P e) (bytesA P e) sLen sCap n base (Builtin.firstCells (sizeA P e) n xv) (growA e (sizeA P e) (bytesA P e) sLen sCap n (.slice base sLen sCap) (Builtin.firstCells (sizeA P e) n xv))).run P w := by
  obtain ⟨i, d', h1, h2, h3, h4⟩ := kn_ok hkn
  have hz : (match d with | .int _ => true | _ => false) = false := by cases d <;> first | rfl | exact absurd rfl (hd _)
  have hti : ∀ w, (typeInfo e).run P w = .ok i w := fun w => by simp [typeInfo, h1]
  by_cases hfit : sLen + n ≤ sCap
  · simp only [Builtin.append_, tailA, hfit, if_true, Sem.run_bind, run_underlying ht, run_underlying hu, run_sizeOf' hkn, Result.andThen_ok, List.getElem?_toArray, List.getElem?_cons_zero, List.getElem?_cons_succ, Sem.run_pure,
      Bool.false_eq_true, if_false, hlen, Bool.not_false]
    rfl
  · have hov : (4 * (sLen + n) + 2000) * bytesA P e ≤ 281474976710656 := hok.resolve_left hfit
    have hbp : 1 ≤ bytesA P e := by omega
    have hsm : 4 * (sLen + n) + 2000 ≤ 281474976710656 := Nat.le_trans (Nat.le_mul_of_pos_right _ hbp) hov
    have c1 : ¬ (((sLen + n : Nat) : Int) > IntKind.i64.max ∧ (False ∨ i.bytes = 0)) := by
      rintro ⟨_, g | g⟩
      · exact g
      · rw [h4] at hb; exact hb g
    have c2 : ¬ (Builtin.nextslicecap (sLen + n) sCap * i.bytes > 2 ^ 48) := by
      have h5 : Builtin.nextslicecap (sLen + n) sCap * i.bytes ≤ 2 * (sLen + n) * i.bytes := Nat.mul_le_mul_right _ (nextslicecap_le (by omega))
      rw [h4] at hov
      have h6 : 2 * (sLen + n) * i.bytes ≤ (4 * (sLen + n) + 2000) * i.bytes := Nat.mul_le_mul_right _ (by omega)
      omega
    simp only [Builtin.append_, tailA, growA, hfit, if_false, Sem.run_bind, run_underlying ht, run_underlying hu, run_sizeOf' hkn, Result.andThen_ok, List.getElem?_toArray, List.getElem?_cons_zero, List.getElem?_cons_succ, Sem.run_pure,
      Bool.false_eq_true, hlen, Bool.not_false, hti, c1, c2, h4, if_true]

/-- Noughts that are appended. -/
def zerosA (e size n : Nat) : Sem (Array Value) := if n * size = 0 then pure #[] else do pure (Builtin.zeroCells (← zeroValue e).cells n)
theorem run_appz_tail {t u e : Nat} {ty : TypeId} {k0 : IntKind} (ht : P.underlying t = some (.slice e)) (hu : P.underlying u = some (.int k0)) (hkn : kn P e = true) {k : IntKind} {n : Nat}
    (hn : n ≤ 4294967296) (hnb : n * bytesA P e ≤ 281474976710656) (hb : bytesA P e ≠ 0) {base : Option Addr} {sLen sCap : Nat} (hok : sLen + n ≤ sCap ∨ (4 * (sLen + n) + 2000) * bytesA P e ≤ 281474976710656) (w : World) :
    (Builtin.append_ #[t, u] ty #[.slice base sLen sCap, .int k n]).run P w =
      (tailA e (sizeA P e) (bytesA P e) sLen sCap n base (zerosA e (sizeA P e) n) (growA e (sizeA P e) (bytesA P e) sLen sCap n (.slice base sLen sCap) (zerosA e (sizeA P e) n))).run P w := by
  obtain ⟨i, d', h1, h2, h3, h4⟩ := kn_ok hkn
  have hti : ∀ w, (typeInfo e).run P w = .ok i w := fun w => by simp [typeInfo, h1]
  have wn : IntKind.i64.wrap (n : Int) = n := wrap_pos .i64 n (by show n < 2 ^ 63; omega)
  have n1 : ¬ ((n : Int) < 0) := by omega
  have n2 : ¬ ((n : Int) * (i.bytes : Int) > 2 ^ 48) := by
    rw [h4] at hnb
    have : ((n * i.bytes : Nat) : Int) ≤ 281474976710656 := by omega
    rw [Int.natCast_mul] at this
    omega
  have n3 : ((n : Int)).toNat = n := rfl
  by_cases hfit : sLen + n ≤ sCap
  · simp only [Builtin.append_, tailA, zerosA, hfit, if_true, Sem.run_bind, run_underlying ht, run_underlying hu, run_sizeOf' hkn, Result.andThen_ok, List.getElem?_toArray, List.getElem?_cons_zero, List.getElem?_cons_succ, Sem.run_pure,
      Bool.false_eq_true, if_false, Bool.not_true, asInt, asIntOf, wn, n1, n2, n3, hti]
    rfl
  · have hov : (4 * (sLen + n) + 2000) * bytesA P e ≤ 281474976710656 := hok.resolve_left hfit
    have hbp : 1 ≤ bytesA P e := by omega
    have hsm : 4 * (sLen + n) + 2000 ≤ 281474976710656 := Nat.le_trans (Nat.le_mul_of_pos_right _ hbp) hov
    have c1 : ¬ (((sLen + n : Nat) : Int) > IntKind.i64.max ∧ (True ∨ i.bytes = 0)) := by
      rintro ⟨g, _⟩
      have : (IntKind.i64.max : Int) = 9223372036854775807 := by rfl
      rw [this] at g; omega
    have c2 : ¬ (Builtin.nextslicecap (sLen + n) sCap * i.bytes > 2 ^ 48) := by
      have h5 : Builtin.nextslicecap (sLen + n) sCap * i.bytes ≤ 2 * (sLen + n) * i.bytes := Nat.mul_le_mul_right _ (nextslicecap_le (by omega))
      rw [h4] at hov
      have h6 : 2 * (sLen + n) * i.bytes ≤ (4 * (sLen + n) + 2000) * i.bytes := Nat.mul_le_mul_right _ (by omega)
      omega
    simp only [Builtin.append_, tailA, growA, zerosA, hfit, if_false, Sem.run_bind, run_underlying ht, run_underlying hu, run_sizeOf' hkn, Result.andThen_ok, List.getElem?_toArray, List.getElem?_cons_zero, List.getElem?_cons_succ, Sem.run_pure,
      Bool.false_eq_true, Bool.not_true, asInt, asIntOf, wn, n1, n2, n3, hti, c1, c2, h4, if_true]

theorem xAppend_ok {t u e : Nat} {ty : TypeId} {d : TypeDesc} (ht : P.underlying t = some (.slice e)) (hu : P.underlying u = some d) (hd : ∀ k, d ≠ .int k) {zl : List AVal} (hz : zCells P e = some zl) (hkn : kn P e = true) (hb : bytesA P e ≠ 0)
    {sl x : AVal} {sv xv : Value} (hs : VRel om r sl sv) (hx : VRel om r x xv) (h : xAppend (sizeA P e) (bytesA P e) sl x s = .ok av s') (sim : Sim om r s w) :
    ∃ y w', (Builtin.append_ #[t, u] ty #[sv, xv]).run P w = .ok y w' ∧ Comes' om r s w av s' y w' := by
  obtain ⟨h1, hlen⟩ := lenOf_run (P := P) hx (show lenOf x _ = .ok av s' from h)
  obtain ⟨h2, h3⟩ := ifv_ok (show ifv (notBad (cellsOf x (sizeA P e) (lenV xv) s)) _ _ = _ from h1)
  obtain ⟨ys, y1, y2, y3, y4⟩ := cellsOf_ok (P := P) hx (notBad_ok h2) (Nat.le_refl _) sim.sw
  have hsv : ∃ base sLen sCap, sv = .slice base sLen sCap := by
    cases sl <;> first | (cases h3; done) | (cases hs; exact ⟨_, _, _, rfl⟩)
  obtain ⟨base, sLen, sCap, rfl⟩ := hsv
  obtain ⟨g1, y, w', g2, g3⟩ := appendTo_ok (P := P) hz hkn hs y1 y2 y4 y3 h3 sim
  exact ⟨y, w', by rw [run_append_tail ht hu hd hkn hlen hb g1]; exact g2, g3⟩
theorem rowCells_ok {b : Blk} {xs : List Value} (h : RRel om r b xs) : VRel om r (rowCells b) (.agg xs.toArray) ∧ Celly (rowCells b) := by
  cases h with
  | cells l _ h => exact ⟨.agg _ _ h, .inr (.inl ⟨_, rfl⟩)⟩
  | ints k n d => exact ⟨.aggi _ _ _, .inr (.inr ⟨_, _, _, rfl⟩)⟩
theorem xAppz_ok {t u e : Nat} {ty : TypeId} {k0 : IntKind} (ht : P.underlying t = some (.slice e)) (hu : P.underlying u = some (.int k0)) {zl : List AVal} (hz : zCells P e = some zl) (hkn : kn P e = true) (hb : bytesA P e ≠ 0)
    {sl x : AVal} {sv xv : Value} (hs : VRel om r sl sv) (hx : VRel om r x xv) (h : xAppz (sizeA P e) (bytesA P e) (zeroA P e) sl x s = .ok av s') (sim : Sim om r s w) :
    ∃ y w', (Builtin.append_ #[t, u] ty #[sv, xv]).run P w = .ok y w' ∧ Comes' om r s w av s' y w' := by
  unfold xAppz at h
  split at h
  · rename_i k n
    cases hx
    obtain ⟨h1, h2⟩ := ifv_ok (show ifv (band (band (Nat.ble (n * bytesA P e) 281474976710656) (Nat.ble n 4294967296)) (Nat.beq (sizeA P e) (lwide (zeroA P e).cellList))) _ _ = _ from h)
    rw [band_true, band_true, Nat.ble_eq, Nat.ble_eq] at h1
    obtain ⟨_, h3⟩ := ifv_ok (show ifv (notBad (rowCells (zeroRow (zeroA P e) n))) _ _ = _ from h2)
    obtain ⟨i, z, z1, z2, z3, z4, z5, z6, z7⟩ := zCells_ok hz
    have hzs : z.cells.toList.length = sizeA P e := by rw [z7, ← z6]; simp
    obtain ⟨y2, y4⟩ := rowCells_ok (zeroRow_ok (z4 om r) z5 n)
    have y3 : (times n z.cells.toList).length = n * sizeA P e := by rw [times_length, hzs]
    have y1 : App P w (zerosA e (sizeA P e) n) (times n z.cells.toList) := fun w1 _ => by
      unfold zerosA
      split
      · rename_i h0
        rw [← y3] at h0
        rw [List.eq_nil_of_length_eq_zero h0]; rfl
      · simp [run_zero z1 z2, zeroCells_eq]
    have hsv : ∃ base sLen sCap, sv = .slice base sLen sCap := by
      cases sl <;> first | (cases h3; done) | (cases hs; exact ⟨_, _, _, rfl⟩)
    obtain ⟨base, sLen, sCap, rfl⟩ := hsv
    obtain ⟨g1, y, w', g2, g3⟩ := appendTo_ok (P := P) hz hkn hs y1 y2 y4 y3 h3 sim
    exact ⟨y, w', by
      have := run_appz_tail (P := P) (ty := ty) (k := k) (base := base) (sLen := sLen) (sCap := sCap) ht hu hkn h1.1.2 h1.1.1 hb g1 w
      exact this.trans g2, g3⟩
  · cases h
end
end Go.Cx

/-! ## Operations that change something: clearing, iterators. -/
set_option linter.unusedVariables false
set_option linter.unusedSimpArgs false
namespace Go.Cx
noncomputable section
variable {om : Nat → Value} {r : Rho} {w w' : World} {P : Program} {s s' : St} {av : AVal}

theorem xClearMap_ok {t kt et : Nat} {ty : TypeId} (ht : P.underlying t = some (.map kt et)) {m : AVal} {mv : Value} (hm : VRel om r m mv) (h : xClearMap m s = .ok av s') (sim : Sim om r s w) :
    ∃ y w', (Builtin.clear_ #[t] ty #[mv]).run P w = .ok y w' ∧ Comes' om r s w av s' y w' := by
  cases m <;> first | (cases h; done) | skip
  · cases h; cases hm
    exact ⟨.tuple #[], w, by simp [Builtin.clear_, run_underlying ht], r, unit_rel, Post.refl sim⟩
  · rename_i i
    replace h : clrMap (s.at i) i s = .ok av s' := h
    cases hm with | map _ p hp =>
    cases hb : s.at i with
    | map l cl =>
      rw [hb] at h
      have hl : s.at i ≠ .none := by rw [hb]; intro e; cases e
      obtain ⟨es, g1, g2, g3⟩ := sim.sw.map (P := P) hp hb
      obtain ⟨q1, rfl, rfl⟩ := St.put_ok (show s.put i (.map [] cl) unit = .ok av s' from h)
      refine ⟨.tuple #[], _, ?_, r, unit_rel, Post.obj sim hp q1 hl g1 (.map [] cl p [] .nil)⟩
      simp [Builtin.clear_, run_underlying ht, g3, run_setObj g1 trivial]
    | _ => rw [hb] at h; cases h
theorem xClearSl_ok {t e : Nat} {ty : TypeId} (ht : P.underlying t = some (.slice e)) {zl : List AVal} (hz : zCells P e = some zl) {x : AVal} {xv : Value} (hx : VRel om r x xv) (h : xClearSl x (sizeA P e) (zeroA P e) s = .ok av s') (sim : Sim om r s w) :
    ∃ y w', (Builtin.clear_ #[t] ty #[xv]).run P w = .ok y w' ∧ Comes' om r s w av s' y w' := by
  obtain ⟨i0, z, z1, z2, z3, z4, z5, z6, z7⟩ := zCells_ok hz
  have cl : ∀ {i off n cap p o}, r i = some p → (n = 0 ∨ o = p.base + off) → clearAt i off n (sizeA P e) (zeroA P e) s = .ok av s' →
      ∃ y w', (Builtin.clear_ #[t] ty #[.slice (some ⟨p.b, o, none⟩) n cap]).run P w = .ok y w' ∧ Comes' om r s w av s' y w' := fun {i off n cap p o} hp ho h => by
    have h' : Bool.rec (motive := fun _ => VR) (ifv (Nat.beq (sizeA P e) (lwide (zeroA P e).cellList)) ((s.at i).put off (rowCells (zeroRow (zeroA P e) n)) fun b => s.put i b unit) (.fail 140)) (.ok unit s) (Nat.beq n 0) = .ok av s' := h
    cases hb : Nat.beq n 0 with
    | true =>
      rw [hb] at h'
      have h0 := Nat.eq_of_beq_eq_true hb
      subst h0
      cases h'
      exact ⟨.tuple #[], w, by simp [Builtin.clear_, run_underlying ht], r, unit_rel, Post.refl sim⟩
    | false =>
      rw [hb] at h'
      have h0 : n ≠ 0 := fun e0 => by rw [e0] at hb; cases hb
      have ho := ho.resolve_left h0
      subst ho
      obtain ⟨_, h2⟩ := ifv_ok (show ifv _ _ _ = _ from h')
      have hrow := isRow_put h2
      obtain ⟨xs, pre, post, el, lo, hi, row⟩ := sim.sw.row hp hrow
      obtain ⟨y2, y4⟩ := rowCells_ok (zeroRow_ok (z4 om r) z5 n)
      obtain ⟨g1, ⟨zz, g2, g3, g4⟩, g6⟩ := row.rel.put_ok y2 h2
      obtain ⟨g5, rfl, rfl⟩ := St.put_ok g4
      have hl : s.at i ≠ .none := fun e0 => by rw [e0] at hrow; cases hrow
      refine ⟨.tuple #[], _, ?_, r, unit_rel, row.posted sim hp g5 hl g2 (over_length g1)⟩
      obtain ⟨m, rfl⟩ := Nat.exists_eq_succ_of_ne_zero h0
      simp [Builtin.clear_, run_underlying ht, run_zero z1 z2, zeroCells_eq, row.storeCells (P := P) g1 g6]
  cases x <;> first | (cases h; done) | skip
  · cases h; cases hx
    exact ⟨.tuple #[], w, by simp [Builtin.clear_, run_underlying ht], r, unit_rel, Post.refl sim⟩
  · cases hx with | slice _ _ _ _ p hp hl => exact cl hp (.inr rfl) h
  · rename_i i off n lo ez
    cases hx with | slicu _ _ _ _ _ p o cap hp g1 g2 g3 g4 =>
    refine cl hp ?_ h
    rcases Nat.eq_zero_or_pos n with h0 | h0
    · exact .inl h0
    · exact .inr (g4.resolve_left (by omega))

/-- A new object. -/
theorem new_obj (sim : Sim om r s w) {b : Blk} {o : Obj} (h : s.alloc b (fun i s => .ok (.ptr i 0) s) = .ok av s') (hb : ∀ r', Ext r r' → BRel om r' b ⟨w.heap.size, 0, 0⟩ o) :
    Comes' om r s w av s' (.pointer (some ⟨w.heap.size, 0, none⟩)) (w.alloc o) := by
  obtain ⟨n, h1, rfl, rfl⟩ := alloc_val h
  refine ⟨upd r s.n ⟨w.heap.size, 0, 0⟩, ?_, Post.new sim h1 rfl (hb _ (sim.ext_upd _)) rfl rfl rfl rfl⟩
  have := VRel.ptr (om := om) (rho := upd r s.n ⟨w.heap.size, 0, 0⟩) s.n 0 _ (upd_same _ _ _)
  simpa using this
theorem xRngStr_ok {t : Nat} (ht : P.underlying t = some .string) {x : AVal} {xv : Value} (hx : VRel om r x xv) (h : xRngStr x s = .ok av s') (sim : Sim om r s w) :
    ∃ y w', (Instr.range t xv).run P w = .ok y w' ∧ Comes' om r s w av s' y w' := by
  cases x <;> first | (cases h; done) | skip
  rename_i n d
  cases hx
  exact ⟨_, _, by simp [Instr.range, run_underlying ht], new_obj sim h fun r' _ => .siter n d 0 _ rfl⟩
theorem xRngMap_ok {t kt et : Nat} (ht : P.underlying t = some (.map kt et)) {x : AVal} {xv : Value} (hx : VRel om r x xv) (h : xRngMap x s = .ok av s') (sim : Sim om r s w) :
    ∃ y w', (Instr.range t xv).run P w = .ok y w' ∧ Comes' om r s w av s' y w' := by
  cases x <;> first | (cases h; done) | skip
  · cases hx
    exact ⟨_, _, by simp [Instr.range, run_underlying ht], new_obj sim h fun r' _ => .miterN _ 0 rfl⟩
  · rename_i i
    replace h : rngMap (s.at i) i s = .ok av s' := h
    cases hx with | map _ p hp =>
    cases hb : s.at i with
    | map l cl =>
      rw [hb] at h
      obtain ⟨es, g1, g2, g3⟩ := sim.sw.map (P := P) hp hb
      exact ⟨_, _, by simp [Instr.range, run_underlying ht, g3], new_obj sim h fun r' ext => .miter i p cl _ (ext _ _ hp) rfl⟩
    | _ => rw [hb] at h; cases h
theorem xNextStr_ok {ty : TypeId} {x : AVal} {xv : Value} (hx : VRel om r x xv) (h : xNextStr x s = .ok av s') (sim : Sim om r s w) :
    ∃ y w', (Instr.next xv true ty).run P w = .ok y w' ∧ Comes' om r s w av s' y w' := by
  cases x <;> first | (cases h; done) | skip
  rename_i i off
  obtain ⟨h1, h2⟩ := ifv_ok (show ifv (Nat.beq off 0) (nextAt (s.at i) i s) _ = _ from h)
  have h1 := Nat.eq_of_beq_eq_true h1
  subst h1
  cases hx with | ptr _ _ p hp =>
  cases hb : s.at i with
  | siter n d q =>
    rw [hb] at h2
    have hl : s.at i ≠ .none := by rw [hb]; intro e; cases e
    obtain ⟨o, g1, g2⟩ := sim.sw.obj hp hl
    rw [hb] at g2
    cases g2 with
    | row _ _ _ _ _ _ _ _ h => cases h
    | siter _ _ _ _ hb0 =>
      have h3 : Bool.rec (motive := fun _ => VR) (.ok (.tup [.bool false]) s) (ifv (lt (dcut 8 d q 1) 128) (VR.bind (s.put i (.siter n d (q + 1)) unit) fun _ s => .ok (.tup [.bool true, .int .i64 (.ofNat q), .int .i32 (.ofNat (dcut 8 d q 1))]) s) (.fail 102)) (lt q n) = .ok av s' := h2
      cases hq : lt q n with
      | false =>
        rw [hq] at h3
        rw [lt_false] at hq
        cases h3
        refine ⟨.tuple #[.bool false], w, ?_, r, .tup _ [.bool false] (.cons _ _ _ _ (.bool false) .nil), Post.refl sim⟩
        have : ¬ q < n := by omega
        rw [hb0]
        simp [Instr.next, run_getObj g1 trivial, mkS_size, this]
      | true =>
        rw [hq] at h3
        rw [lt_true] at hq
        obtain ⟨h4, h5⟩ := ifv_ok (show ifv _ _ _ = _ from h3)
        rw [lt_true] at h4
        obtain ⟨v, s1, h6, h7⟩ := VR.bind_ok h5
        obtain ⟨q1, rfl, rfl⟩ := St.put_ok h6
        cases h7
        obtain ⟨k1, k2⟩ := mkS_get n d q hq
        have hsz : q < (mkS n d).size := by rw [mkS_size]; exact hq
        have hget : (mkS n d)[q]'hsz = UInt8.ofNat (dcut 8 d q 1) := by
          rw [getElem?_pos (mkS n d) q hsz] at k1
          exact Option.some.inj k1
        have hdec : Utf8.decode (mkS n d) q = (dcut 8 d q 1, 1) := by
          rw [decode_ascii (mkS n d) q hsz (by rw [hget, UInt8.toNat_ofNat', Nat.mod_eq_of_lt k2]; exact h4), hget, UInt8.toNat_ofNat', Nat.mod_eq_of_lt k2]
        refine ⟨.tuple #[.bool true, .int .i64 q, .int .i32 (dcut 8 d q 1 : Nat)], _, ?_, r, .tup _ [.bool true, .int .i64 q, .int .i32 (dcut 8 d q 1 : Nat)] (.cons _ _ _ _ (.bool true) (.cons _ _ _ _ (.int _ _) (.cons _ _ _ _ (.int _ _) .nil))), Post.obj sim hp q1 hl g1 (.siter n d (q + 1) p hb0)⟩
        rw [hb0]
        simp [Instr.next, run_getObj g1 trivial, mkS_size, hq, hdec, run_setObj g1 trivial, goInt]
  | _ => rw [hb] at h2; cases h2

theorem Row.freeze {b : Blk} {p : Pl} {xs pre pst : List Value} {el : TypeId} {lo hi : Nat} (row : Row om r w b p xs pre pst el lo hi) (sim : Sim om r s w) {i : Id} (hp : r i = some p) (hro : s.ro ≤ i.num) (hl : s.at i ≠ .none) (hb : s.at i = b) (o : Nat) :
    ∃ w', (markStringish ⟨p.b, o, none⟩).run P w = .ok () w' ∧ Post om r s w r ⟨Heap.set i (s.at i) s.h, s.n, s.ro⟩ w' := by
  let L := (pre ++ xs ++ pst).toArray
  have hL : L.size = p.top := by show (pre ++ xs ++ pst).toArray.size = _; rw [List.size_toArray, row.len]
  let fr : Nat × Nat := if lo == hi then (L.size, L.size + 1) else (min lo L.size, max hi (L.size + 1))
  have hshape : w.shape? p.b = some (el, L.size) := by simp only [World.shape?, row.heap]; rfl
  have hfr : World.freeze w ⟨p.b, L.size, none⟩ 1 = setB w p.b (.cells L el fr) := by
    unfold World.freeze
    rw [if_neg (by decide)]
    have : w.heap.modify p.b (fun
        | .cells c elem (lo, hi) => .cells c elem (if lo == hi then (L.size, L.size + 1) else (min lo L.size, max hi (L.size + 1)))
        | o => o) = w.heap.setIfInBounds p.b (.cells L el fr) := by
      apply Array.ext_getElem?
      intro j
      rw [Array.getElem?_modify]
      by_cases e : p.b = j
      · subst e
        have hlt : p.b < w.heap.size := (sim.dom i p hp).2
        rw [if_pos rfl, row.heap]
        simp [hlt, L, fr]
      · rw [if_neg e, Array.getElem?_setIfInBounds_ne e]
    simp only [setB]
    congr 1
  refine ⟨setB w p.b (.cells L el fr), ?_, ?_⟩
  · simp [markStringish, hshape, hfr]
  · refine Post.put sim hp hro hl (.inr ⟨_, setB_same row.heap, ?_⟩) (fun c hc => setB_ne hc) setB_size rfl rfl rfl
    rw [hb]
    have hfr2 : fr.1 = fr.2 ∨ p.top ≤ fr.1 := by
      right
      show p.top ≤ (if lo == hi then (L.size, L.size + 1) else (min lo L.size, max hi (L.size + 1))).1
      split
      · show p.top ≤ L.size; omega
      · rename_i hne
        rcases row.fr with e | e
        · exact absurd (by simpa using e) hne
        · show p.top ≤ min lo L.size; omega
    have := BRel.row (om := om) (r := r) b p xs pre pst el fr.1 fr.2 row.rel row.base row.top hfr2
    exact this
theorem xConvSame_ok {st el : Nat} (hs : P.underlying st = some (.slice el)) (he : P.underlying el = some (.int .u8)) {x : AVal} {v : Value} (hx : VRel om r x v) (h : xConvSame x s = .ok av s') (sim : Sim om r s w) :
    ∃ y w', (convert st st v).run P w = .ok y w' ∧ Comes' om r s w av s' y w' := by
  have key : ∀ {i p o n c}, r i = some p → isRow (s.at i) = true → s.ro ≤ i.num → s' = ⟨Heap.set i (s.at i) s.h, s.n, s.ro⟩ → VRel om r av (.slice (some ⟨p.b, o, none⟩) n c) →
      ∃ y w', (convert st st (.slice (some ⟨p.b, o, none⟩) n c)).run P w = .ok y w' ∧ Comes' om r s w av s' y w' := fun {i p o n c} hp hrow hro hs' hv => by
    obtain ⟨xs, pre, post, el', lo, hi, row⟩ := sim.sw.row hp hrow
    have hl : s.at i ≠ .none := fun e => by rw [e] at hrow; cases hrow
    obtain ⟨w', g1, g2⟩ := row.freeze (P := P) sim hp hro hl rfl o
    subst hs'
    refine ⟨.slice (some ⟨p.b, o, none⟩) n c, w', ?_, r, hv, g2⟩
    simp [convert, run_underlying hs, run_underlying he, g1]
  cases x <;> first | (cases h; done) | skip
  · rename_i i off n c
    obtain ⟨h1, h2⟩ := ifv_ok (show ifv (isRow (s.at i)) _ _ = _ from h)
    obtain ⟨q1, q2, q3⟩ := St.put_ok h2
    have hx' := hx
    cases hx with | slice _ _ _ _ p hp hl =>
    exact key hp h1 q1 q3 (by rw [q2]; exact hx')
  · rename_i i off n lo z
    obtain ⟨h1, h2⟩ := ifv_ok (show ifv (isRow (s.at i)) _ _ = _ from h)
    obtain ⟨q1, q2, q3⟩ := St.put_ok h2
    have hx' := hx
    cases hx with | slicu _ _ _ _ _ p o cap hp g1 g2 g3 g4 =>
    exact key hp h1 q1 q3 (by rw [q2]; exact hx')
end
end Go.Cx

/-! ## All operations that change something. -/
set_option linter.unusedVariables false
set_option linter.unusedSimpArgs false
namespace Go.Cx
noncomputable section
variable {om : Nat → Value} {r : Rho} {w w' : World} {P : Program} {s s' : St} {av : AVal}
variable {c : Operand → AOpd} {l : List AVal} {e : Env} {rv : Operand → Value} {T : Tab} {call : CallT}

/-- Calls come to what the table says. -/
def CallOK (P : Program) (om : Nat → Value) (call : CallT) : Prop :=
  ∀ f args s v s', call f args s = .ok v s' → ∀ r w xs, Sim om r s w → LRel om r args xs → Does P (callFunc f xs.toArray) w (Comes' om r s w v s')
/-- Methods are found as the table says. -/
def MethOK (P : Program) (T : Tab) : Prop :=
  ∀ t ms f, T.meth t ms = some f → ∀ v w, (method (P.types.size + Made.depth) t v ms).run P w = .ok (f, v) w

theorem LRel.append {a b : List AVal} {x y : List Value} (h : LRel om r a x) (h' : LRel om r b y) : LRel om r (a ++ b) (x ++ y) := by
  induction a generalizing x with
  | nil => cases h; exact h'
  | cons v l ih => cases h with | cons _ _ _ _ hv t => exact .cons _ _ _ _ hv (ih t)

/-- Operations that change something. -/
theorem op_call {dst : Option Tmp} {type : TypeId} {pos : String} {after : Array Edge} {guard : Option (Nat × Bool)} {q : Call} (hc : CallOK P om call) (hm : MethOK P T) (hrv : ∀ f, rv (.func f) = .func (.func f) #[] #[])
    (H : ∀ x, VRel om r (ev (c x) l e) (rv x)) (hb : ∀ b, q.callee ≠ .builtin b) (h : opOf (cOp P c (.call q)) T call l e s = .ok av s') (sim : Sim om r s w) :
    Does P (execOp rv ⟨dst, .call q, type, pos, after, guard⟩) w (Comes' om r s w av s') := by
  obtain ⟨callee, ⟨args⟩, tys⟩ := q
  have ha := evs_ok H args
  have hmap : ((⟨args⟩ : Array Operand).map rv) = (args.map rv).toArray := by apply Array.ext'; simp
  cases callee with
  | builtin b => exact absurd rfl (hb b)
  | value f =>
    have hf := H f
    have ex : ∀ {fn : FuncId} {x y : List Value}, rv f = .func (.func fn) x.toArray y.toArray →
        execOp rv ⟨dst, .call ⟨.value f, ⟨args⟩, tys⟩, type, pos, after, guard⟩ = callFunc fn (x ++ (args.map rv ++ y)).toArray := fun {fn x y} hx => by
      simp only [execOp, resolve, hx, Deferred.ofValue, hmap, pure_bind, invoke]
      congr 1
      simp
    have viaV : (callV (ev (c f) l e) (evs (args.map c) l e) call s = .ok av s') → Does P (execOp rv ⟨dst, .call ⟨.value f, ⟨args⟩, tys⟩, type, pos, after, guard⟩) w (Comes' om r s w av s') := fun h => by
      generalize ev (c f) l e = vf at *
      cases vf <;> first | (cases h; done) | skip
      rename_i fn a b
      replace h : callFv fn a b (evs (args.map c) l e) call s = .ok av s' := h
      unfold callFv at h
      split at h
      · rename_i fn
        generalize hq : rv f = xf at hf
        cases hf with | func _ _ _ x y hx hy =>
        rw [ex hq]
        rw [lapp_eq, lapp_eq] at h
        exact hc _ _ _ _ _ h r w _ sim (hx.append (ha.append hy))
      · cases h
    cases f with
    | func f =>
      replace h : call f (evs (args.map c) l e) s = .ok av s' := h
      rw [ex (x := []) (y := []) (hrv f)]
      have := hc _ _ _ _ _ h r w _ sim ha
      simpa using this
    | tmp t => exact viaV h
    | const v => exact viaV h
    | global g => exact viaV h
  | invoke f ms =>
    have hf := H f
    replace h : callI (ev (c f) l e) T ms (evs (args.map c) l e) call s = .ok av s' := h
    generalize ev (c f) l e = vf at *
    cases vf <;> first | (cases h; done) | skip
    rename_i t v
    replace h : Option.rec (motive := fun _ => VR) (.fail 151) (fun f => call f (v :: evs (args.map c) l e) s) (T.meth t ms) = .ok av s' := h
    cases hmt : T.meth t ms with
    | none => rw [hmt] at h; cases h
    | some fn =>
      rw [hmt] at h
      generalize hq : rv f = xf at hf
      cases hf with | iface _ _ x hx =>
      have := hc _ _ _ _ _ h r w _ sim (.cons _ _ _ _ hx ha)
      have hrun : (execOp rv ⟨dst, .call ⟨.invoke f ms, ⟨args⟩, tys⟩, type, pos, after, guard⟩).run P w = (callFunc fn (x :: args.map rv).toArray).run P w := by
        simp only [execOp, resolve, hq, hmap, pure_bind, invoke]
        simp [callMethod, hm t ms fn hmt]
        rw [List.take_of_length_le (by simp)]
      unfold Does at this ⊢
      rw [hrun]
      exact this

/-- Operations that change something. -/
theorem op_eff {o : Oper} (hc : CallOK P om call) (hm : MethOK P T) (hrv : ∀ f, rv (.func f) = .func (.func f) #[] #[])
    (H : ∀ x, VRel om r (ev (c x) l e) (rv x)) (hk : opKind P o.op = 3) (h : opOf (cOp P c o.op) T call l e s = .ok av s') (sim : Sim om r s w) :
    Does P (execOp rv o) w (Comes' om r s w av s') := by
  obtain ⟨dst, op, type, pos, after, guard⟩ := o
  have fv : ∀ {m : Sem Value}, execOp rv ⟨dst, op, type, pos, after, guard⟩ = (do pure (Next.value (← m))) → (∃ y w', m.run P w = .ok y w' ∧ Comes' om r s w av s' y w') →
      Does P (execOp rv ⟨dst, op, type, pos, after, guard⟩) w (Comes' om r s w av s') := fun hx ⟨y, w', h1, h2⟩ => by rw [hx]; exact Does.val h1 h2
  have fu : ∀ {m : Sem Unit}, execOp rv ⟨dst, op, type, pos, after, guard⟩ = (do m; pure Next.skip) → (∃ w', m.run P w = .ok () w' ∧ Comes' om r s w av s' undef w') →
      Does P (execOp rv ⟨dst, op, type, pos, after, guard⟩) w (Comes' om r s w av s') := fun hx ⟨w', h1, h2⟩ => by rw [hx]; exact Does.unit h1 h2
  cases op <;> first | (cases h; done) | (simp only [opKind] at hk; first | (cases hk; done) | skip)
  case store t a x =>
    simp only [cOp] at h
    split at h
    · rename_i hkn
      split at h
      · exact fu rfl (xStoren_ok hkn (H a) (H x) h sim)
      · rename_i ha
        split at h
        · rename_i hsz; exact fu rfl (xStore_ok hkn (by simpa using ha) (Nat.eq_of_beq_eq_true hsz) (H a) (H x) h sim)
        · cases h
    · cases h
  case mapUpdate t m k x =>
    simp only [cOp] at h
    split at h
    · rename_i kt et ht
      split at h
      · cases h
      · exact fu rfl (xMupd_ok ht (H m) (H k) (H x) h sim)
    · cases h
  case insert t m k x =>
    simp only [cOp] at h
    split at h
    · rename_i kt et ht
      split at h
      · cases h
      · exact fu rfl (xMupd_ok ht (H m) (H k) (H x) h sim)
    · cases h
  case range t x =>
    simp only [cOp] at h
    split at h
    · rename_i ht; exact fv rfl (xRngStr_ok ht (H x) h sim)
    · rename_i ht; exact fv rfl (xRngMap_ok ht (H x) h sim)
    · cases h
  case next x st =>
    simp only [cOp] at h
    split at h
    · rename_i hst; subst hst; exact fv rfl (xNextStr_ok (H x) h sim)
    · cases h
  case convert st dt x =>
    replace h : opOf (cConv P st dt (c x)) T call l e s = .ok av s' := h
    cases hs : P.underlying st with
    | none => rw [hs] at hk; cases hd : P.underlying dt <;> rw [hd] at hk <;> simp at hk
    | some sd =>
      cases hd : P.underlying dt with
      | none =>
        rw [hs, hd] at hk
        cases sd <;> simp only [cConv, hs, hd] at h hk <;> first | (cases h; done) | (cases hk; done)
      | some dd =>
        rw [hs, hd] at hk
        cases sd <;> cases dd <;> simp only [cConv, hs, hd] at h hk <;> first | (cases h; done) | (cases hk; done) | skip
        split at h
        · rename_i he
          split at h
          · rename_i hsd
            have hsd := Nat.eq_of_beq_eq_true hsd
            subst hsd
            rw [hs] at hd
            cases hd
            exact fv rfl (xConvSame_ok hs he (H x) h sim)
          · cases h
        · cases h
  case call q =>
    by_cases hb : ∃ b, q.callee = .builtin b
    · obtain ⟨b, hb⟩ := hb
      obtain ⟨callee, ⟨args⟩, ⟨tys⟩⟩ := q
      simp only at hb
      subst hb
      replace h : opOf (cBuiltin P b tys (args.map c)) T call l e s = .ok av s' := h
      have fr : ∀ {m : Sem Value}, (execOp rv ⟨dst, .call ⟨.builtin b, ⟨args⟩, ⟨tys⟩⟩, type, pos, after, guard⟩).run P w = (do pure (Next.value (← m)) : Sem Next).run P w → (∃ y w', m.run P w = .ok y w' ∧ Comes' om r s w av s' y w') →
          Does P (execOp rv ⟨dst, .call ⟨.builtin b, ⟨args⟩, ⟨tys⟩⟩, type, pos, after, guard⟩) w (Comes' om r s w av s') := fun hx ⟨y, w', h1, h2⟩ => by unfold Does; rw [hx, run_val h1]; exact h2
      cases b <;> first | (cases tys <;> cases h; done) | skip
      case append =>
        rcases tys with _ | ⟨t, _ | ⟨u, _ | ⟨_, _⟩⟩⟩ <;> first | (cases h; done) | skip
        rcases args with _ | ⟨a, _ | ⟨x, _ | ⟨_, _⟩⟩⟩ <;> first | (cases h; done) | skip
        refine fr (m := Builtin.append_ #[t, u] type #[rv a, rv x]) (by simp [execOp, resolve, invoke, builtin]) ?_
        simp only [cBuiltin, List.map_cons, List.map_nil] at h
        split at h
        · rename_i el ht
          unfold cAppend at h
          split at h
          · rename_i hcnd
            simp only [Bool.and_eq_true, Bool.not_eq_true', Bool.or_eq_false_iff] at hcnd
            have hbz : bytesA P el ≠ 0 := fun e0 => by rw [e0] at hcnd; cases hcnd.2.2
            split at h
            · rename_i k0 zl hu hz; exact xAppz_ok ht hu hz hcnd.1 hbz (H a) (H x) h sim
            · rename_i d zl hnot hz hu; exact xAppend_ok ht hz (by intro k e0; subst e0; exact hnot _ rfl) hu hcnd.1 hbz (H a) (H x) h sim
            · cases h
          · cases h
        · cases h
      case copy =>
        rcases tys with _ | ⟨t, _ | ⟨u, _ | ⟨_, _⟩⟩⟩ <;> first | (cases h; done) | skip
        rcases args with _ | ⟨a, _ | ⟨x, _ | ⟨_, _⟩⟩⟩ <;> first | (cases h; done) | skip
        refine fr (m := Builtin.copy_ #[t, u] type #[rv a, rv x]) (by simp [execOp, resolve, invoke, builtin]) ?_
        simp only [cBuiltin, List.map_cons, List.map_nil] at h
        split at h
        · rename_i el ht
          split at h
          · rename_i hkn; exact xCopy_ok ht hkn (H a) (H x) h sim
          · cases h
        · cases h
      case delete =>
        rcases tys with _ | ⟨t, _ | ⟨u, _ | ⟨_, _⟩⟩⟩ <;> first | (cases h; done) | skip
        rcases args with _ | ⟨a, _ | ⟨x, _ | ⟨_, _⟩⟩⟩ <;> first | (cases h; done) | skip
        refine fr (m := Builtin.delete_ #[t, u] type #[rv a, rv x]) (by simp [execOp, resolve, invoke, builtin]) ?_
        simp only [cBuiltin, List.map_cons, List.map_nil] at h
        split at h
        · rename_i kt et ht
          split at h
          · cases h
          · exact xDelete_ok ht (H a) (H x) h sim
        · cases h
      case clear =>
        rcases tys with _ | ⟨t, _ | ⟨_, _⟩⟩ <;> first | (cases h; done) | skip
        rcases args with _ | ⟨x, _ | ⟨_, _⟩⟩ <;> first | (cases h; done) | skip
        refine fr (m := Builtin.clear_ #[t] type #[rv x]) (by simp [execOp, resolve, invoke, builtin]) ?_
        simp only [cBuiltin, List.map_cons, List.map_nil] at h
        split at h
        · rename_i kt et ht; exact xClearMap_ok ht (H x) h sim
        · rename_i el ht
          split at h
          · rename_i zl hz; exact xClearSl_ok ht hz (H x) h sim
          · cases h
        · cases h
      all_goals first | (cases hk; done) | skip
      rcases tys with _ | ⟨t, _ | ⟨_, _⟩⟩ <;> first | (cases h; done) | skip
      simp only at hk
      split at hk <;> cases hk
    · exact op_call hc hm hrv H (fun b e0 => hb ⟨b, e0⟩) h sim
end
end Go.Cx

/-! ## All operations; slots. -/
set_option linter.unusedVariables false
set_option linter.unusedSimpArgs false
namespace Go.Cx
noncomputable section
variable {om : Nat → Value} {r : Rho} {w w' : World} {P : Program} {s s' : St} {av : AVal}
variable {c : Operand → AOpd} {l : List AVal} {e : Env} {rv : Operand → Value} {T : Tab} {call : CallT}

theorem opKind_cases (o : Op) : opKind P o = 0 ∨ opKind P o = 1 ∨ opKind P o = 2 ∨ opKind P o = 3 := by
  unfold opKind
  repeat' split
  all_goals simp
theorem Does.of_run {m : Sem Next} {x : Value} {R : Value → World → Prop} (h : m.run P w = .ok (.value x) w') (hr : R x w') : Does P m w R := by
  unfold Does; rw [h]; exact hr
theorem Does.mono {m : Sem Next} {R R' : Value → World → Prop} (h : Does P m w R) (hr : ∀ x w', R x w' → R' x w') : Does P m w R' := by
  unfold Does at *
  split at h <;> first | exact hr _ _ h | exact Calls.mono h (fun e w'' ⟨x, h1, h2⟩ => ⟨x, h1, hr _ _ h2⟩) | exact h.elim
/-- Every operation does what the abstract one says. -/
theorem op_sound {o : Oper} (hc : CallOK P om call) (hm : MethOK P T) (hrv : ∀ f, rv (.func f) = .func (.func f) #[] #[])
    (H : ∀ x, VRel om r (ev (c x) l e) (rv x)) (h : opOf (cOp P c o.op) T call l e s = .ok av s') (sim : Sim om r s w) :
    Does P (execOp rv o) w (Comes' om r s w av s') := by
  rcases opKind_cases (P := P) o.op with hk | hk | hk | hk
  · obtain ⟨rfl, x, h1, h2⟩ := op_pure H hk h
    exact .of_run (h1 w) ⟨r, h2, Post.refl sim⟩
  · obtain ⟨rfl, h1⟩ := op_read H hk h
    obtain ⟨x, h2, h3⟩ := h1 w sim.sw
    exact .of_run h2 ⟨r, h3, Post.refl sim⟩
  · obtain ⟨m, h1, n, b, h2, rfl, h3, h4⟩ := op_alloc H hk h
    obtain ⟨x, w', o', top, h5, h6⟩ := h4 w
    have h7 : (execOp rv o).run P w = .ok (.value x) w' := by rw [h1 w]; exact run_val h5
    obtain ⟨h8, h9⟩ := h6.rel _ (sim.ext_upd ⟨w.heap.size, 0, top⟩) (upd_same _ _ _)
    exact .of_run h7 ⟨_, h8, Post.new sim h2 rfl h9 h6.heap h6.os h6.tape h6.out⟩
  · exact op_eff hc hm hrv H hk h sim
theorem Does.wp {o : Oper} {a : Act} {next : Act → World → Prop} {Q : Exit → Act → World → Prop} (h : Does P (execOp a.eval o) w (fun x w' => next (a.put o.dst x) w')) : o.wp P a w next Q := by
  unfold Does at h
  unfold Oper.wp
  split at h
  · rename_i x w1 hr; rw [hr]; exact h
  · rename_i w1 hr; rw [hr]; exact h
  · rename_i f args w1 hr
    rw [hr]
    refine Calls.mono h fun e w'' ⟨x, h1, h2⟩ => ?_
    subst h1
    exact h2
  · exact h.elim

/-! ### Slots -/
theorem dig_inj {m n : Nat} (hm : m < 8) (hn : n < 8) (h : dig m = dig n) : m = n := by
  have : ∀ k, k < 8 → (dig k).num = k := by decide
  have h1 := this m hm
  have h2 := this n hn
  rw [h, h2] at h1
  omega
theorem P2.of_inj {m n : Nat} (hm : m < 64) (hn : n < 64) (h : P2.of m = P2.of n) : m = n := by
  unfold P2.of at h
  injection h with h1 h2
  have h1 := dig_inj (Nat.mod_lt _ (by decide)) (Nat.mod_lt _ (by decide)) h1
  have h2 := dig_inj (Nat.mod_lt _ (by decide)) (Nat.mod_lt _ (by decide)) h2
  omega
theorem has_cons (t x : Nat) (l : List Nat) : has t (x :: l) = if x = t then true else has t l := by
  show Bool.rec (motive := fun _ => Bool) (has t l) true (Nat.beq x t) = _
  cases h : Nat.beq x t with
  | true => rw [if_pos (Nat.eq_of_beq_eq_true h)]
  | false => rw [if_neg (fun e => by rw [e, Nat.beq_refl] at h; cases h)]
theorem idxOf_cons (t x : Nat) (l : List Nat) : idxOf t (x :: l) = if x = t then 0 else idxOf t l + 1 := by
  show Bool.rec (motive := fun _ => Nat) (Nat.succ (idxOf t l)) 0 (Nat.beq x t) = _
  cases h : Nat.beq x t with
  | true => rw [if_pos (Nat.eq_of_beq_eq_true h)]
  | false => rw [if_neg (fun e => by rw [e, Nat.beq_refl] at h; cases h)]
theorem idxOf_lt {t : Nat} : ∀ {l : List Nat}, has t l = true → idxOf t l < l.length
  | [], h => by cases h
  | x :: l, h => by
    rw [has_cons] at h
    rw [idxOf_cons, List.length_cons]
    split
    · omega
    · rename_i hne
      rw [if_neg hne] at h
      have := idxOf_lt h
      omega
theorem idxOf_inj {t u : Nat} : ∀ {l : List Nat}, has t l = true → has u l = true → idxOf t l = idxOf u l → t = u
  | [], h, _, _ => by cases h
  | x :: l, h1, h2, h => by
    rw [has_cons] at h1 h2
    rw [idxOf_cons, idxOf_cons] at h
    by_cases e1 : x = t
    · by_cases e2 : x = u
      · omega
      · rw [if_pos e1, if_neg e2] at h; omega
    · by_cases e2 : x = u
      · rw [if_neg e1, if_pos e2] at h; omega
      · rw [if_neg e1, if_neg e2] at h
        rw [if_neg e1] at h1
        rw [if_neg e2] at h2
        exact idxOf_inj h1 h2 (by omega)
theorem slot_inj {L : List Nat} (hL : L.length ≤ 64) {t u : Nat} (h1 : has t L = true) (h2 : has u L = true) (h : slot L t = slot L u) : t = u :=
  idxOf_inj h1 h2 (P2.of_inj (by have := idxOf_lt h1; omega) (by have := idxOf_lt h2; omega) h)
theorem bitsGo_len (f : Nat) : ∀ u, (bitsGo f u).length ≤ f := by
  induction f with
  | zero => intro u; exact Nat.le_refl _
  | succ f ih =>
    intro u
    show (Bool.rec (motive := fun _ => List Nat) (Nat.log2 u :: bitsGo f (u - 2 ^ Nat.log2 u)) [] (Nat.beq u 0)).length ≤ _
    cases Nat.beq u 0 with
    | true => exact Nat.zero_le _
    | false => show (_ :: _).length ≤ _; rw [List.length_cons]; exact Nat.succ_le_succ (ih _)
theorem bitsOf_len (u : Nat) : (bitsOf u).length ≤ 64 := bitsGo_len 64 u

/-- The slots that are kept, and the temporaries. -/
def EnvRel (om : Nat → Value) (r : Rho) (L : List Nat) (e : Env) (tmps : Array Value) : Prop := ∀ t, has t L = true → VRel om r (Env.get (slot L t) e) (tmps.getD t undef)
theorem EnvRel.mono {r' : Rho} {L : List Nat} {tmps : Array Value} (h : EnvRel om r L e tmps) (ext : Ext r r') : EnvRel om r' L e tmps := fun t ht => (h t ht).mono ext
theorem getD_set {tmps : Array Value} {d t : Nat} {x : Value} (hd : d < tmps.size) : (tmps.setIfInBounds d x).getD t undef = if t = d then x else tmps.getD t undef := by
  by_cases h : t = d
  · subst h
    rw [if_pos rfl]
    simp [Array.getD, hd]
  · rw [if_neg h]
    simp [Array.getElem?_setIfInBounds_ne (Ne.symm h)]
theorem EnvRel.set {L : List Nat} (hL : L.length ≤ 64) {tmps : Array Value} (h : EnvRel om r L e tmps) {d : Nat} {v : AVal} {x : Value} (hd : d < tmps.size) (hv : VRel om r v x) :
    EnvRel om r L (putD (cDst L (some d)) v e) (tmps.setIfInBounds d x) := by
  intro t ht
  rw [getD_set hd]
  show VRel om r (Env.get (slot L t) (putD (Bool.rec (motive := fun _ => Option P2) none (some (slot L d)) (has d L)) v e)) _
  cases hdl : has d L with
  | true =>
    show VRel om r (Env.get (slot L t) (Env.set (slot L d) v e)) _
    by_cases htd : t = d
    · subst htd
      rw [if_pos rfl, Env.get_set_self]
      exact hv
    · rw [if_neg htd, Env.get_set_ne (fun e0 => htd (slot_inj hL ht hdl e0))]
      exact h t ht
  | false =>
    show VRel om r (Env.get (slot L t) e) _
    rw [if_neg (fun e0 => by rw [e0, hdl] at ht; cases ht)]
    exact h t ht
end
end Go.Cx

/-! ## Regions in order. -/
set_option linter.unusedVariables false
set_option linter.unusedSimpArgs false
namespace Go.Cx
noncomputable section
variable {om : Nat → Value} {r : Rho} {w w' : World} {P : Program} {s s' : St} {av : AVal}
variable {l : List AVal} {e : Env} {T : Tab} {call : CallT} {L : List Nat}

/-- What holds behind a piece of code that came to a result. -/
def After (om : Nat → Value) (L : List Nat) (r : Rho) (s : St) (w : World) (a : Act) (Q : Exit → Act → World → Prop) : Res → Prop
  | .norm e' s' => ∀ r' w' a', Post om r s w r' s' w' → EnvRel om r' L e' a'.tmps → a'.tmps.size = a.tmps.size → a'.defers = a.defers → Q .normal a' w'
  | .exit i e' s' => ∀ r' w' a', Post om r s w r' s' w' → EnvRel om r' L e' a'.tmps → a'.tmps.size = a.tmps.size → a'.defers = a.defers → Q (.exit i) a' w'
  | .ret e' s' => ∀ r' w' a', Post om r s w r' s' w' → EnvRel om r' L e' a'.tmps → a'.tmps.size = a.tmps.size → a'.defers = a.defers → Q .ret a' w'
  | .fail _ => False
theorem After.step {r1 : Rho} {s1 : St} {w1 : World} {a a1 : Act} {Q : Exit → Act → World → Prop} {res : Res} (h : After om L r s w a Q res) (p : Post om r s w r1 s1 w1) (hs : a1.tmps.size = a.tmps.size) (hd : a1.defers = a.defers) :
    After om L r1 s1 w1 a1 Q res := by
  cases res with
  | norm e' s' => exact fun r' w' a' h1 h2 h3 h4 => h r' w' a' (p.trans h1) h2 (h3.trans hs) (h4.trans hd)
  | exit i e' s' => exact fun r' w' a' h1 h2 h3 h4 => h r' w' a' (p.trans h1) h2 (h3.trans hs) (h4.trans hd)
  | ret e' s' => exact fun r' w' a' h1 h2 h3 h4 => h r' w' a' (p.trans h1) h2 (h3.trans hs) (h4.trans hd)
  | fail w => exact h.elim

def PosOK (L : List Nat) (wr n : Nat) : Pos → Prop
  | .loc j => j < n
  | .env q => ∃ t, q = slot L t ∧ has t L = true ∧ tb wr t = false
  | .const _ => True
/-- In the midst of a region. -/
structure Reg (om : Nat → Value) (r : Rho) (L : List Nat) (wr n : Nat) (known : List (Nat × Pos)) (vs : List AVal) (e : Env) (tmps : Array Value) : Prop where
  len : vs.length = n
  env : EnvRel om r L e tmps
  kn : ∀ t p, findPos t known = some p → VRel om r (ev (p.opd n) vs e) (tmps.getD t undef) ∧ PosOK L wr n p
  size : ∀ d, tb wr d = true → d < tmps.size

theorem findPos_cons (t u : Nat) (p : Pos) (l : List (Nat × Pos)) : findPos t ((u, p) :: l) = if u = t then some p else findPos t l := by
  show Bool.rec (motive := fun _ => Option Pos) (findPos t l) (some p) (Nat.beq u t) = _
  cases h : Nat.beq u t with
  | true => rw [if_pos (Nat.eq_of_beq_eq_true h)]
  | false => rw [if_neg (fun e => by rw [e, Nat.beq_refl] at h; cases h)]

theorem Reg.mono {wr n : Nat} {known : List (Nat × Pos)} {tmps : Array Value} (h : Reg om r L wr n known l e tmps) {r' : Rho} (x : Ext r r') : Reg om r' L wr n known l e tmps :=
  ⟨h.len, h.env.mono x, fun t p hp => ⟨(h.kn t p hp).1.mono x, (h.kn t p hp).2⟩, h.size⟩

theorem posOf_tmp (known : List (Nat × Pos)) (t : Nat) : posOf L known (.tmp t) = match findPos t known with | some p => p | none => posEnv L t := by
  show Option.rec (motive := fun _ => Pos) (posEnv L t) (fun x => x) (findPos t known) = _
  cases findPos t known <;> rfl
theorem posEnv_eq (t : Nat) : posEnv L t = if has t L then .env (slot L t) else .const .bad := by
  unfold posEnv
  cases has t L <;> rfl

theorem Reg.opd {wr n : Nat} {known : List (Nat × Pos)} {a : Act} (h : Reg om r L wr n known l e a.tmps) (x : Operand) : VRel om r (ev ((posOf L known x).opd n) l e) (a.eval x) := by
  cases x with
  | tmp t =>
    rw [posOf_tmp]
    cases hf : findPos t known with
    | some p => exact (h.kn t p hf).1
    | none =>
      show VRel om r (ev ((posEnv L t).opd n) l e) _
      rw [posEnv_eq]
      split
      · rename_i ht; exact h.env t ht
      · exact .bad _
  | const v => exact ofValue_ok v
  | global g => exact .bad _
  | func f => exact .func _ _ _ [] [] .nil .nil

theorem ev_push {wr n : Nat} {known : List (Nat × Pos)} (hL : L.length ≤ 64) {p : Pos} {v : AVal} {d : Option Nat} (hp : PosOK L wr n p) (hd : ∀ d', d = some d' → tb wr d' = true) :
    ev (p.opd (n + 1)) (v :: l) (putD (cDst L d) v e) = ev (p.opd n) l e := by
  cases p with
  | loc j =>
    have hj : j < n := hp
    show lnth (v :: l) (n + 1 - 1 - j) = lnth l (n - 1 - j)
    have : n + 1 - 1 - j = (n - 1 - j) + 1 := by omega
    rw [this]
    rfl
  | env q =>
    obtain ⟨t, h1, h2, h3⟩ := hp
    show Env.get q (putD (cDst L d) v e) = Env.get q e
    cases d with
    | none => rfl
    | some d =>
      show Env.get q (putD (Bool.rec (motive := fun _ => Option P2) none (some (slot L d)) (has d L)) v e) = Env.get q e
      cases hdl : has d L with
      | false => rfl
      | true =>
        show Env.get q (Env.set (slot L d) v e) = Env.get q e
        subst h1
        exact Env.get_set_ne (fun e0 => by have := slot_inj hL h2 hdl e0; subst this; rw [hd _ rfl] at h3; cases h3) _ _
  | const c => rfl

/-- Behind an operation. -/
theorem Reg.push {wr n : Nat} {known : List (Nat × Pos)} {a : Act} (hL : L.length ≤ 64) (h : Reg om r L wr n known l e a.tmps) {v : AVal} {x : Value} {d : Option Nat} (hv : VRel om r v x) (hd : ∀ d', d = some d' → tb wr d' = true) :
    Reg om r L wr (n + 1) (knownBy known n d) (v :: l) (putD (cDst L d) v e) (a.put d x).tmps := by
  have pk : ∀ p, PosOK L wr n p → PosOK L wr (n + 1) p := fun p hp => by
    cases p with
    | loc j => exact Nat.lt_succ_of_lt hp
    | env q => exact hp
    | const c => trivial
  cases d with
  | none =>
    refine ⟨by rw [List.length_cons, h.len], h.env, fun t p hp => ?_, h.size⟩
    obtain ⟨h1, h2⟩ := h.kn t p hp
    refine ⟨?_, pk p h2⟩
    have := ev_push (known := known) (l := l) (e := e) (v := v) (d := none) hL h2 (fun _ h => by cases h)
    rw [this]
    exact h1
  | some d =>
    have hds := h.size d (hd d rfl)
    refine ⟨by rw [List.length_cons, h.len], h.env.set hL hds hv, fun t p hp => ?_, fun d' h' => by show d' < (a.tmps.setIfInBounds d x).size; rw [Array.size_setIfInBounds]; exact h.size d' h'⟩
    replace hp : findPos t ((d, .loc n) :: known) = some p := hp
    rw [findPos_cons] at hp
    show VRel om r _ ((a.tmps.setIfInBounds d x).getD t undef) ∧ _
    rw [getD_set hds]
    split at hp
    · rename_i e0
      subst e0
      cases hp
      rw [if_pos rfl]
      refine ⟨?_, Nat.lt_succ_self n⟩
      show VRel om r (lnth (v :: l) (n + 1 - 1 - n)) x
      have : n + 1 - 1 - n = 0 := by omega
      rw [this]
      exact hv
    · rename_i e0
      rw [if_neg (fun e1 => e0 e1.symm)]
      obtain ⟨h1, h2⟩ := h.kn t p hp
      refine ⟨?_, pk p h2⟩
      rw [ev_push (known := known) hL h2 hd]
      exact h1

/-- A name more for what has one. -/
theorem Reg.alias {wr n : Nat} {known : List (Nat × Pos)} {a : Act} (h : Reg om r L wr n known l e a.tmps) {x : Operand} {d : Nat} (hd : has d L = false) (hs : stable wr L x (posOf L known x) = true) (hw : tb wr d = true) :
    Reg om r L wr n ((d, posOf L known x) :: known) l e (a.put (some d) (a.eval x)).tmps := by
  have hds := h.size d hw
  have hx := h.opd x
  have hpx : PosOK L wr n (posOf L known x) := by
    cases hp : posOf L known x with
    | const c => trivial
    | loc j =>
      cases x with
      | tmp t =>
        rw [posOf_tmp] at hp
        cases hf : findPos t known with
        | some p =>
          rw [hf] at hp
          simp only at hp
          subst hp
          exact (h.kn t _ hf).2
        | none =>
          rw [hf] at hp
          simp only [posEnv_eq] at hp
          split at hp <;> cases hp
      | const v => cases hp
      | global g => cases hp
      | func f => cases hp
    | env q =>
      cases x with
      | tmp t =>
        rw [posOf_tmp] at hp
        cases hf : findPos t known with
        | some p =>
          rw [hf] at hp
          simp only at hp
          subst hp
          exact (h.kn t _ hf).2
        | none =>
          rw [posOf_tmp] at hs
          rw [hf] at hp hs
          simp only [posEnv_eq] at hp hs
          split at hp
          · rename_i ht
            rw [if_pos ht] at hs
            cases hp
            refine ⟨t, rfl, ht, ?_⟩
            simp only [stable, stableEnv] at hs
            cases htw : tb wr t with
            | false => rfl
            | true => rw [htw] at hs; cases hs
          · cases hp
      | const v => cases hp
      | global g => cases hp
      | func f => cases hp
  refine ⟨h.len, ?_, fun t p hp => ?_, fun d' h' => by show d' < (a.tmps.setIfInBounds d _).size; rw [Array.size_setIfInBounds]; exact h.size d' h'⟩
  · intro t ht
    show VRel om r _ ((a.tmps.setIfInBounds d _).getD t undef)
    rw [getD_set hds, if_neg (fun e0 => by subst e0; rw [hd] at ht; cases ht)]
    exact h.env t ht
  · rw [findPos_cons] at hp
    show VRel om r _ ((a.tmps.setIfInBounds d _).getD t undef) ∧ _
    rw [getD_set hds]
    split at hp
    · rename_i e0
      subst e0
      cases hp
      rw [if_pos rfl]
      exact ⟨hx, hpx⟩
    · rename_i e0
      rw [if_neg (fun e1 => e0 e1.symm)]
      exact h.kn t p hp

theorem cOps_cons {wr : Nat} {all : List Oper} {o : Oper} {rest : List Oper} {n : Nat} {known : List (Nat × Pos)} :
    cOps P L wr all (o :: rest) n known = match aliasOf L wr known o with
      | none => cOper P L all n known o :: cOps P L wr all rest (n + 1) (knownBy known n o.dst)
      | some x => cOps P L wr all rest n (x :: known) := by
  show Option.rec (motive := fun _ => List AOp) (cOper P L all n known o :: cOps P L wr all rest (n + 1) (knownBy known n o.dst)) (fun x => cOps P L wr all rest n (x :: known)) (aliasOf L wr known o) = _
  cases aliasOf L wr known o <;> rfl
theorem aliasOf_some {wr : Nat} {known : List (Nat × Pos)} {o : Oper} {x : Nat × Pos} (h : aliasOf L wr known o = some x) :
    ∃ y d, o.op = .move y ∧ o.dst = some d ∧ o.guard = none ∧ x = (d, posOf L known y) ∧ has d L = false ∧ stable wr L y (posOf L known y) = true := by
  unfold aliasOf at h
  split at h
  · rename_i y d h1 h2 h3
    refine ⟨y, d, h1, h2, h3, ?_⟩
    cases hd : has d L with
    | true => rw [hd] at h; cases h
    | false =>
      cases hs : stable wr L y (posOf L known y) with
      | false => rw [hd, hs] at h; cases h
      | true => rw [hd, hs] at h; cases h; exact ⟨rfl, rfl, rfl⟩
  · cases h

theorem opAt_eq : ∀ (l : List Oper) (j : Nat), opAt l j = l[j]?
  | [], j => by cases j <;> rfl
  | o :: l, 0 => rfl
  | o :: l, j + 1 => by
    show opAt l j = _
    rw [opAt_eq l j]; rfl
theorem beqB_eq (a b : Bool) : beqB a b = (a == b) := by cases a <;> cases b <;> rfl

/-- What a guard says. -/
theorem guard_ok {wr n : Nat} {known : List (Nat × Pos)} {a : Act} {ops : Array Oper} (h : Reg om r L wr n known l e a.tmps) {j : Nat} {want b : Bool}
    (hb : ev (guardPos L known n want (opAt ops.toList j)).1 l e = .bool b) : yielded ops a.tmps j = some b ∧ (guardPos L known n want (opAt ops.toList j)).2 = want := by
  rw [opAt_eq] at hb ⊢
  unfold guardPos at hb ⊢
  split at hb
  · rename_i d op type pos after guard ho
    have ho' : ops[j]? = some { dst := some d, op, type, pos, after, guard } := by
      rw [← Array.getElem?_toList]; exact ho
    refine ⟨?_, rfl⟩
    have hx := h.opd (.tmp d)
    replace hb : ev ((posOf L known (.tmp d)).opd n) l e = .bool b := hb
    rw [hb] at hx
    unfold yielded
    rw [ho']
    show (match (a.tmps[d]? : Option Value) with | some (.bool b) => some b | _ => none) = _
    have hv : a.tmps.getD d undef = .bool b := by
      generalize hq : a.eval (.tmp d) = q at hx
      cases hx
      exact hq
    cases hd : a.tmps[d]? with
    | none => simp [Array.getD_eq_getD_getElem?, hd, undef] at hv
    | some v =>
      simp [Array.getD_eq_getD_getElem?, hd] at hv
      rw [hv]
  · cases hb

theorem guard_tup {wr n : Nat} {known : List (Nat × Pos)} {a : Act} {ops : Array Oper} (h : Reg om r L wr n known l e a.tmps) {j : Nat} {want : Bool} {q : List AVal}
    (hb : ev (guardPos L known n want (opAt ops.toList j)).1 l e = .tup q) : yielded ops a.tmps j = none := by
  rw [opAt_eq] at hb
  unfold guardPos at hb
  split at hb
  · rename_i d op type pos after guard ho
    have ho' : ops[j]? = some { dst := some d, op, type, pos, after, guard } := by
      rw [← Array.getElem?_toList]; exact ho
    have hx := h.opd (.tmp d)
    replace hb : ev ((posOf L known (.tmp d)).opd n) l e = .tup q := hb
    rw [hb] at hx
    unfold yielded
    rw [ho']
    show (match (a.tmps[d]? : Option Value) with | some (.bool b) => some b | _ => none) = _
    generalize hq : a.eval (.tmp d) = u at hx
    cases hx with | tup _ y hy =>
    replace hq : a.tmps.getD d undef = .tuple y.toArray := hq
    cases hd : a.tmps[d]? with
    | none => rfl
    | some v =>
      simp [Array.getD_eq_getD_getElem?, hd] at hq
      rw [hq]
  · cases hb

theorem runOps_cons {o : AOp} {rest : List AOp} : runOps T call (o :: rest) l e s = runOp T call o (runOps T call rest) l e s := rfl

theorem stepK_eq {v : AVal} {dst : Option P2} {ih : List AVal → Env → St → Res} : stepK v s dst ih l e = ih (v :: l) (putD dst v e) s := by
  cases dst <;> rfl
theorem stepOp_eq {op : AO} {dst : Option P2} {ih : List AVal → Env → St → Res} : stepOp T call op dst ih l e s = match opOf op T call l e s with
    | .ok v s' => ih (v :: l) (putD dst v e) s'
    | .fail w => .fail w := by
  unfold stepOp
  cases opOf op T call l e s with
  | ok v s' => exact stepK_eq
  | fail w => rfl
theorem Act.put_size {a : Act} {d : Option Nat} {x : Value} : (a.put d x).tmps.size = a.tmps.size := by
  cases d with
  | none => rfl
  | some d => exact Array.size_setIfInBounds
theorem Act.put_def {a : Act} {d : Option Nat} {x : Value} : (a.put d x).defers = a.defers := by
  cases d <;> rfl

/-- Operations in order. -/
theorem runOps_ok (hL : L.length ≤ 64) (hc : CallOK P om call) (hm : MethOK P T) {ops : Array Oper} {wr : Nat} {Q : Exit → Act → World → Prop} (hwr : ∀ o ∈ ops.toList, ∀ d, o.dst = some d → tb wr d = true) :
    ∀ (rest pre : List Oper) (n : Nat) (known : List (Nat × Pos)) (vs : List AVal) (e : Env) (s : St) (r : Rho) (w : World) (a : Act), ops.toList = pre ++ rest →
      Reg om r L wr n known vs e a.tmps → Sim om r s w → After om L r s w a Q (runOps T call (cOps P L wr ops.toList rest n known) vs e s) →
      wpOps P ops Q (List.range' pre.length rest.length) a w := by
  intro rest
  induction rest with
  | nil =>
    intro pre n known vs e s r w a hall reg sim h
    exact h r w a (Post.refl sim) reg.env rfl rfl
  | cons o rest ih =>
    intro pre n known vs e s r w a hall reg sim h
    have hall' : ops.toList = (pre ++ [o]) ++ rest := by rw [hall]; simp
    have hget : ops[pre.length]? = some o := by rw [← Array.getElem?_toList, hall]; simp
    have hlen : (pre ++ [o]).length = pre.length + 1 := by simp
    have ho : o ∈ ops.toList := by rw [hall]; simp
    have next : ∀ n' known' vs' e' s' r' w' a', Reg om r' L wr n' known' vs' e' a'.tmps → Sim om r' s' w' → After om L r' s' w' a' Q (runOps T call (cOps P L wr ops.toList rest n' known') vs' e' s') →
        wpOps P ops Q (List.range' (pre.length + 1) rest.length) a' w' := fun n' known' vs' e' s' r' w' a' h1 h2 h3 => by
      have := ih (pre ++ [o]) n' known' vs' e' s' r' w' a' hall' h1 h2 h3
      rw [hlen] at this
      exact this
    rw [List.length_cons, List.range'_succ]
    simp only [wpOps, hget]
    rw [cOps_cons] at h
    cases hal : aliasOf L wr known o with
    | some x =>
      rw [hal] at h
      obtain ⟨y, d, h1, h2, h3, h4, h5, h6⟩ := aliasOf_some hal
      have hw : Region.wanted o (yielded ops a.tmps) = true := by simp [Region.wanted, h3]
      rw [if_pos hw]
      refine .inl (Does.wp (.of_run (x := a.eval y) (w' := w) ?_ ?_))
      · obtain ⟨dst, op, type, pos, after, guard⟩ := o
        simp only at h1
        subst h1
        rfl
      · refine next n (x :: known) vs e s r w (a.put o.dst (a.eval y)) ?_ sim (After.step h (Post.refl sim) Act.put_size Act.put_def)
        rw [h4, h2]
        exact reg.alias h5 h6 (hwr o ho d h2)
    | none =>
      rw [hal] at h
      simp only [runOps_cons] at h
      have yes : After om L r s w a Q (stepOp T call (cOp P (fun x => (posOf L known x).opd n) o.op) (cDst L o.dst) (runOps T call (cOps P L wr ops.toList rest (n + 1) (knownBy known n o.dst))) vs e s) →
          o.wp P a w (wpOps P ops Q (List.range' (pre.length + 1) rest.length)) Q := fun h => by
        rw [stepOp_eq] at h
        cases hop : opOf (cOp P (fun x => (posOf L known x).opd n) o.op) T call vs e s with
        | fail w => rw [hop] at h; exact h.elim
        | ok v s' =>
          rw [hop] at h
          refine Does.wp (Does.mono (op_sound hc hm (fun f => rfl) reg.opd hop sim) fun x w' ⟨r', hv, hp⟩ => ?_)
          exact next _ _ _ _ _ r' w' _ ((reg.mono (hp.ext sim)).push hL hv (hwr o ho)) hp.sim (After.step h hp Act.put_size Act.put_def)
      have no : After om L r s w a Q (stepNotA T call (cOp P (fun x => (posOf L known x).opd n) o.op) (cDst L o.dst) (runOps T call (cOps P L wr ops.toList rest (n + 1) (knownBy known n o.dst))) vs e s) →
          wpOps P ops Q (List.range' (pre.length + 1) rest.length) (a.put o.dst undef) w := fun h => by
        unfold stepNotA at h
        rw [stepK_eq] at h
        exact next _ _ _ _ _ r w _ (reg.push hL unit_rel (hwr o ho)) sim (After.step h (Post.refl sim) Act.put_size Act.put_def)
      cases hg : o.guard with
      | none =>
        have hw : Region.wanted o (yielded ops a.tmps) = true := by simp [Region.wanted, hg]
        rw [if_pos hw]
        refine .inl (yes ?_)
        have : runOp T call (cOper P L ops.toList n known o) (runOps T call (cOps P L wr ops.toList rest (n + 1) (knownBy known n o.dst))) vs e s =
            stepOp T call (cOp P (fun x => (posOf L known x).opd n) o.op) (cDst L o.dst) (runOps T call (cOps P L wr ops.toList rest (n + 1) (knownBy known n o.dst))) vs e s := by
          unfold cOper; rw [hg]; rfl
        rw [this] at h
        exact h
      | some g =>
        obtain ⟨j, want⟩ := g
        have : runOp T call (cOper P L ops.toList n known o) (runOps T call (cOps P L wr ops.toList rest (n + 1) (knownBy known n o.dst))) vs e s =
            guarded (ev (guardPos L known n want (opAt ops.toList j)).1 vs e) (guardPos L known n want (opAt ops.toList j)).2 T call (cOp P (fun x => (posOf L known x).opd n) o.op) (cDst L o.dst)
              (runOps T call (cOps P L wr ops.toList rest (n + 1) (knownBy known n o.dst))) vs e s := by
          unfold cOper; rw [hg]; rfl
        rw [this] at h
        cases hev : ev (guardPos L known n want (opAt ops.toList j)).1 vs e with
        | bool b =>
          obtain ⟨h1, h2⟩ := guard_ok reg hev
          rw [hev, h2] at h
          have hwb : Region.wanted o (yielded ops a.tmps) = (b == want) := by
            simp only [Region.wanted, hg, h1]
            cases b <;> cases want <;> rfl
          rw [hwb]
          replace h : After om L r s w a Q (Bool.rec (motive := fun _ => Tab → CallT → AO → Option P2 → (List AVal → Env → St → Res) → List AVal → Env → St → Res) stepNotA stepOp (beqB b want) T call
            (cOp P (fun x => (posOf L known x).opd n) o.op) (cDst L o.dst) (runOps T call (cOps P L wr ops.toList rest (n + 1) (knownBy known n o.dst))) vs e s) := h
          rw [beqB_eq] at h
          cases hbw : (b == want) with
          | true => rw [hbw] at h; exact .inl (yes h)
          | false => rw [hbw] at h; exact no h
        | tup q =>
          have h1 := guard_tup reg hev
          rw [hev] at h
          have hwb : Region.wanted o (yielded ops a.tmps) = false := by simp only [Region.wanted, hg, h1]; rfl
          rw [hwb]
          exact no h
        | _ => rw [hev] at h; exact h.elim
end
end Go.Cx

/-! ## Functions: parameters, results, calls. -/
set_option linter.unusedVariables false
set_option linter.unusedSimpArgs false
namespace Go.Cx
noncomputable section
variable {om : Nat → Value} {r : Rho} {w w' : World} {P : Program} {s s' : St} {av : AVal}
variable {l : List AVal} {e : Env} {T : Tab} {call : CallT} {L : List Nat}

/-! ### What is checked of an order -/
def maskNth (l : List DI) (k : Nat) : Nat := List.rec (motive := fun _ => Nat → Nat) (fun _ => 0) (fun x _ ih k => Nat.rec (motive := fun _ => Nat) x.mask (fun j _ => ih j) k) l k
def maskUp (all : List DI) (es : List Edge) : Nat := List.rec (motive := fun _ => Nat) 0 (fun e _ ih => Bool.rec (motive := fun _ => Nat) ih (Nat.lor ih (setb (maskNth all e.on) e.on)) (Region.binds .any e)) es
def maskEq (all : List DI) (x : DI) : Bool := Nat.beq x.mask (maskUp all x.o.after.toList)
/-- How many are not in a mask. -/
def notIn (m : Nat) (l : List Nat) : Nat := List.rec (motive := fun _ => Nat) 0 (fun i _ ih => Bool.rec (motive := fun _ => Nat) (Nat.succ ih) ih (tb m i)) l
def kindOk (all : List DI) (x : DI) (done : Nat) (effs : List Nat) : Bool := match x.kind with
  | 3 => Nat.beq (Nat.lor done x.mask) x.mask
  | 1 => Nat.ble (notIn x.mask effs) (Nat.sub effs.length (effIn all x.mask))
  | _ => true
def effsMore (x : DI) (effs : List Nat) : List Nat := match x.kind with
  | 3 => x.i :: effs
  | _ => effs
def ordOk (all : List DI) (n : Nat) : List DI → Nat → List Nat → Bool
  | [], done, _ => Nat.beq done (Nat.sub (Nat.pow 2 n) 1)
  | x :: r, done, effs => band (bnot (tb done x.i)) (band (Nat.beq (Nat.lor done x.mask) done) (band (kindOk all x done effs) (ordOk all n r (setb done x.i) (effsMore x effs))))
def drawAll (P : Program) (ops : List Oper) : List DI := infos P ops (masksGo ops 0 []).reverse 0
def drawOk (all : List DI) (n : Nat) : Bool := band (all.all (maskEq all)) (ordOk all n (orderGo all all 0) 0 [])
def drawFits (P : Program) (ops : List Oper) : Bool := drawOk (drawAll P ops) ops.length

/-- A loop over a map: neither its iterator nor its question is written by its body. -/
def loopFits : Code → Bool
  | .seq (.region _ ops _) (.seq _ rest) => match isMapNext ops.toList with
    | some (it, _, c) => band (bnot (tb (wrCode rest 0) it)) (bnot (tb (wrCode rest 0) c))
    | none => true
  | _ => true
/-- Are all slots that a piece of code writes below a number? -/
def fits (P : Program) (N : Nat) : Code → Bool
  | .region _ ops draw => band (Nat.ble (Nat.succ (wrOps ops.toList 0)) (Nat.pow 2 N)) (Bool.rec (motive := fun _ => Bool) true (drawFits P ops.toList) draw)
  | .seq a b => band (fits P N a) (fits P N b)
  | .cond _ a b => band (fits P N a) (fits P N b)
  | .block _ b => fits P N b
  | .loop b => band (loopFits b) (fits P N b)
  | _ => true
def resKn (P : Program) : List ResultVar → Bool
  | [] => true
  | .tmp _ :: l => resKn P l
  | .cell _ t :: l => band (kn P t) (resKn P l)
def cFnC (P : Program) (f : Nat) : Option AFn :=
  match nthF P.funcs.toList f with
  | some fn => match fn.body with
    | some c => Bool.rec (motive := fun _ => Option AFn) none (cFnWith P fn c (useCode c (useRes fn.results.toList 0))) (band (fits P fn.ntmps c) (band (resKn P fn.results.toList) (fn.name != "runtime.NumGoroutine")))
    | none => none
  | none => none

theorem nthF_eq : ∀ (l : List Func) (j : Nat), nthF l j = l[j]?
  | [], j => by cases j <;> rfl
  | o :: l, 0 => rfl
  | o :: l, j + 1 => by
    show nthF l j = _
    rw [nthF_eq l j]; rfl
theorem band_eq (a b : Bool) : band a b = (a && b) := by cases a <;> rfl
theorem tb_eq (u t : Nat) : tb u t = u.testBit t := by
  show Nat.beq (Nat.land (Nat.shiftRight u t) 1) 1 = _
  unfold Nat.testBit
  have : Nat.land (Nat.shiftRight u t) 1 = (u >>> t) &&& 1 := rfl
  rw [this, Nat.and_comm]
  have h2 : 1 &&& u >>> t = (u >>> t) % 2 := by rw [Nat.and_comm]; exact Nat.and_one_is_mod _
  rw [h2]
  rcases Nat.mod_two_eq_zero_or_one (u >>> t) with h | h <;> rw [h] <;> rfl
theorem setb_eq (u t : Nat) : setb u t = u ||| (1 <<< t) := rfl
theorem wrOps_cons (o : Oper) (l : List Oper) (u : Nat) : wrOps (o :: l) u = wrOps l (match o.dst with | none => u | some d => setb u d) := by
  show wrOps l (Option.rec (motive := fun _ => Nat) u (fun d => setb u d) o.dst) = _
  cases o.dst <;> rfl
theorem wrOps_keeps : ∀ (l : List Oper) (u t : Nat), tb u t = true → tb (wrOps l u) t = true
  | [], u, t, h => h
  | o :: l, u, t, h => by
    rw [wrOps_cons]
    refine wrOps_keeps l _ t ?_
    cases o.dst with
    | none => exact h
    | some d =>
      show tb (setb u d) t = true
      rw [tb_eq] at h ⊢
      rw [setb_eq, Nat.testBit_or, h]; rfl
theorem wrOps_mem : ∀ (l : List Oper) (u : Nat) (o : Oper), o ∈ l → ∀ d, o.dst = some d → tb (wrOps l u) d = true
  | [], u, o, h, _, _ => by cases h
  | p :: l, u, o, h, d, hd => by
    rw [wrOps_cons]
    rcases List.mem_cons.1 h with h | h
    · subst h
      refine wrOps_keeps l _ d ?_
      rw [hd]
      show tb (setb u d) d = true
      rw [tb_eq, setb_eq, Nat.testBit_or]
      simp [Nat.testBit_shiftLeft]
    · exact wrOps_mem l _ o h d hd
theorem fits_bit {N u d : Nat} (h : Nat.ble (Nat.succ u) (Nat.pow 2 N) = true) (hd : tb u d = true) : d < N := by
  have h1 : u < 2 ^ N := Nat.le_of_ble_eq_true h
  rw [tb_eq] at hd
  rcases Nat.lt_or_ge d N with h2 | h2
  · exact h2
  · have : u < 2 ^ d := Nat.lt_of_lt_of_le h1 (Nat.pow_le_pow_right (by decide) h2)
    rw [Nat.testBit_lt_two_pow this] at hd
    cases hd

/-! ### Parameters -/
theorem emptyEnv_get (p : P2) : Env.get p emptyEnv = .bad := by
  obtain ⟨i, j⟩ := p
  cases i <;> cases j <;> rfl
theorem cDst_eq (k : Nat) : cDst L (some k) = if has k L then some (slot L k) else none := by
  show Bool.rec (motive := fun _ => Option P2) none (some (slot L k)) (has k L) = _
  cases has k L <;> rfl
theorem setParams_cons {p : Option P2} {ps : List (Option P2)} {v : AVal} {args : List AVal} : setParams (p :: ps) (v :: args) e = setParams ps args (putD p v e) := rfl
theorem setParams_ok (hL : L.length ≤ 64) {tmps : Array Value} : ∀ (m k : Nat) (args : List AVal) (xs : List Value) (e : Env), LRel om r args xs → EnvRel om r L e tmps → (∀ j x, xs[j]? = some x → tmps.getD (k + j) undef = x) →
    EnvRel om r L (setParams (cParams L m k) args e) tmps
  | 0, k, args, xs, e, h, he, hx => he
  | m + 1, k, [], xs, e, h, he, hx => he
  | m + 1, k, v :: args, xs, e, h, he, hx => by
    cases h with
    | cons _ x _ r hv ht =>
      show EnvRel _ _ L (setParams (cDst L (some k) :: cParams L m (k + 1)) (v :: args) e) tmps
      rw [setParams_cons]
      refine setParams_ok hL m (k + 1) args r _ ht ?_ fun j y hy => ?_
      · intro t htl
        rw [cDst_eq]
        split
        · rename_i hk
          show VRel _ _ (Env.get (slot L t) (Env.set (slot L k) v e)) _
          by_cases htk : t = k
          · subst htk
            rw [Env.get_set_self]
            have := hx 0 x rfl
            rw [Nat.add_zero] at this
            rw [this]
            exact hv
          · rw [Env.get_set_ne fun e0 => htk (slot_inj hL htl hk e0)]
            exact he t htl
        · exact he t htl
      · have := hx (j + 1) y hy
        rw [← this]
        congr 1
        omega

/-! ### Results -/
theorem check_mk {v : AVal} {n : Nat} (h : v ≠ .bad) : VR.check v n s = .ok v s := by
  cases v <;> first | rfl | exact absurd rfl h
/-- What a result variable stands for. -/
def resRun (tmps : Array Value) : ResultVar → Sem Value
  | .tmp t => pure (tmps.getD t undef)
  | .cell a t => do loadVar t (← asAddr (tmps.getD a undef))
theorem res_ok {tmps : Array Value} (he : EnvRel om r L e tmps) (sim : SimW om r s.at w) {x : ResultVar} (hk : resKn P [x] = true) (hb : resOf e s (cRes P L x) ≠ .bad) :
    ∃ y, (resRun tmps x).run P w = .ok y w ∧ VRel om r (resOf e s (cRes P L x)) y := by
  cases x with
  | tmp t =>
    replace hb : resOf e s (Bool.rec (motive := fun _ => ARes) .bad (.tmp (slot L t)) (has t L)) ≠ .bad := hb
    show ∃ y, _ ∧ VRel om r (resOf e s (Bool.rec (motive := fun _ => ARes) .bad (.tmp (slot L t)) (has t L))) y
    cases ht : has t L with
    | false => rw [ht] at hb; exact absurd rfl hb
    | true => exact ⟨_, rfl, he t ht⟩
  | cell t ty =>
    replace hb : resOf e s (Bool.rec (motive := fun _ => ARes) .bad (Bool.rec (motive := fun _ => ARes) (.cell (slot L t)) (.celln (slot L t) (sizeA P ty)) (isAggA P ty)) (has t L)) ≠ .bad := hb
    show ∃ y, _ ∧ VRel om r (resOf e s (Bool.rec (motive := fun _ => ARes) .bad (Bool.rec (motive := fun _ => ARes) (.cell (slot L t)) (.celln (slot L t) (sizeA P ty)) (isAggA P ty)) (has t L))) y
    have hkn : kn P ty = true := by
      simp only [resKn, band_eq] at hk
      simpa using hk
    cases ht : has t L with
    | false => rw [ht] at hb; exact absurd rfl hb
    | true =>
      rw [ht] at hb
      have hv := he t ht
      have fin : ∀ {av : AVal} {v : Value}, VRel om r (Env.get (slot L t) e) v → (∃ i off, Env.get (slot L t) e = .ptr i off) → Reads P (Instr.loadAt ty v) om r av w → v = tmps.getD t undef →
          ∃ y, (resRun tmps (.cell t ty)).run P w = .ok y w ∧ VRel om r av y := fun {av v} h1 ⟨i, off, h2⟩ ⟨y, h3, h4⟩ h5 => by
        refine ⟨y, ?_, h4⟩
        rw [h2] at h1
        cases h1 with | ptr _ _ p hp =>
        show (do loadVar ty (← asAddr (tmps.getD t undef)) : Sem Value).run P w = _
        rw [← h5]
        exact h3
      cases ha : isAggA P ty with
      | false =>
        rw [ha] at hb
        replace hb : cellVia (Env.get (slot L t) e) s ≠ .bad := hb
        show ∃ y, _ ∧ VRel om r (cellVia (Env.get (slot L t) e) s) y
        have hp : ∃ i off, Env.get (slot L t) e = .ptr i off := by
          generalize Env.get (slot L t) e = v at hb
          cases v <;> first | exact absurd rfl hb | exact ⟨_, _, rfl⟩
        have hl : xLoad (Env.get (slot L t) e) s = .ok (cellVia (Env.get (slot L t) e) s) s := by
          obtain ⟨i, off, hp⟩ := hp
          rw [hp] at hb ⊢
          exact check_mk hb
        obtain ⟨_, h1⟩ := xLoad_ok hkn ha hv hl
        exact fin hv hp (h1 w sim) rfl
      | true =>
        rw [ha] at hb
        replace hb : cutVia (Env.get (slot L t) e) (sizeA P ty) s ≠ .bad := hb
        show ∃ y, _ ∧ VRel om r (cutVia (Env.get (slot L t) e) (sizeA P ty) s) y
        have hp : ∃ i off, Env.get (slot L t) e = .ptr i off := by
          generalize Env.get (slot L t) e = v at hb
          cases v <;> first | exact absurd rfl hb | exact ⟨_, _, rfl⟩
        have hl : xLoadn (Env.get (slot L t) e) (sizeA P ty) s = .ok (cutVia (Env.get (slot L t) e) (sizeA P ty) s) s := by
          obtain ⟨i, off, hp⟩ := hp
          rw [hp] at hb ⊢
          exact check_mk hb
        obtain ⟨_, h1⟩ := xLoadn_ok hkn ha hv hl
        exact fin hv hp (h1 w sim) rfl

theorem ress_ok {tmps : Array Value} (he : EnvRel om r L e tmps) (sim : SimW om r s.at w) : ∀ (rs : List ResultVar), resKn P rs = true → (∀ v ∈ ressOf e s (rs.map (cRes P L)), v ≠ .bad) →
    ∃ ys, (rs.mapM (resRun tmps)).run P w = .ok ys w ∧ LRel om r (ressOf e s (rs.map (cRes P L))) ys
  | [], _, _ => ⟨[], by simp, .nil⟩
  | x :: rs, hk, hb => by
    have hk1 : resKn P [x] = true := by
      cases x with
      | tmp t => rfl
      | cell t ty => simp only [resKn, band_eq, Bool.and_eq_true] at hk ⊢; exact ⟨hk.1, trivial⟩
    have hk2 : resKn P rs = true := by
      cases x with
      | tmp t => exact hk
      | cell t ty => simp only [resKn, band_eq, Bool.and_eq_true] at hk; exact hk.2
    obtain ⟨y, h1, h2⟩ := res_ok he sim hk1 (hb _ (List.mem_cons_self ..))
    obtain ⟨ys, h3, h4⟩ := ress_ok he sim rs hk2 fun v hv => hb v (List.mem_cons_of_mem _ hv)
    refine ⟨y :: ys, ?_, .cons _ _ _ _ h2 h4⟩
    rw [List.mapM_cons]
    simp [h1, h3]

theorem noBad_mem : ∀ {l : List AVal}, noBad l = true → ∀ v ∈ l, v ≠ .bad
  | [], _, v, h => by cases h
  | x :: l, h, v, hv => by
    replace h : band (notBad x) (noBad l) = true := h
    rw [band_eq, Bool.and_eq_true] at h
    rcases List.mem_cons.1 hv with e | hv
    · subst e
      intro e
      subst e
      cases h.1
    · exact noBad_mem h.2 v hv

/-- What a function gives. -/
theorem callEnd_ok {fn : Func} {tmps : Array Value} {n : Nat} (he : EnvRel om r L e tmps) (sim : SimW om r s.at w) (hk : resKn P fn.results.toList = true)
    (h : callEnd e s (fn.results.toList.map (cRes P L)) n = .ok av s') : s' = s ∧ ∃ v, (results fn tmps).run P w = .ok v w ∧ VRel om r av v := by
  have hrun : ∀ ys, (fn.results.toList.mapM (resRun tmps)).run P w = .ok ys w → (results fn tmps).run P w = .ok (if h : ys.length = 1 then ys[0] else .tuple ys.toArray) w := fun ys hy => by
    have : (results fn tmps) = (do
        let vs ← (List.toArray <$> fn.results.toList.mapM (resRun tmps))
        pure (if h : vs.size = 1 then vs[0] else .tuple vs)) := by
      rw [← Array.mapM_eq_mapM_toList]
      unfold results
      congr 2
    rw [this]
    simp [hy]
  unfold callEnd oneOf at h
  split at h
  · rename_i v hv
    obtain ⟨rfl, rfl, hb⟩ := check_ok h
    obtain ⟨ys, h1, h2⟩ := ress_ok he sim fn.results.toList hk (by rw [hv]; intro u hu; rw [List.mem_singleton] at hu; subst hu; exact hb)
    rw [hv] at h2
    cases h2 with | cons _ y _ _ hy ht =>
    cases ht
    exact ⟨rfl, y, by rw [hrun _ h1]; rfl, hy⟩
  · rename_i hne
    obtain ⟨h1, h2⟩ := ifv_ok h
    cases h2
    obtain ⟨ys, h3, h4⟩ := ress_ok he sim fn.results.toList hk (noBad_mem h1)
    refine ⟨rfl, .tuple ys.toArray, ?_, .tup _ _ h4⟩
    rw [hrun _ h3, dif_neg]
    intro e1
    match ys, e1, h4 with
    | [y], _, h4 =>
      generalize ressOf e s (fn.results.toList.map (cRes P L)) = q at h4 hne
      cases h4 with | cons v _ _ _ _ ht =>
      cases ht
      exact hne v rfl
end
end Go.Cx
