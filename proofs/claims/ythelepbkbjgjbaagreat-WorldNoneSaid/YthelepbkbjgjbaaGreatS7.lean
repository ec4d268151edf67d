/-
  The abstract machine is sound: part 7.
-/
import Derived.Test.YthelepbkbjgjbaaGreatS6
import Derived.Test.YthelepbkbjgjbaaGreatB
import Derived.Laws.Externs
import GoSem.Extern.BytealgIndexByte
set_option linter.unusedVariables false
set_option linter.unusedSimpArgs false
/-! ## Regions whose order is open: blocks that are made; changes. -/
set_option linter.unusedVariables false
set_option linter.unusedSimpArgs false
namespace Go.Cx
noncomputable section
variable {om : Nat → Value} {r r' : Rho} {w w' : World} {P : Program} {s s' : St} {av : AVal}
variable {l : List AVal} {e : Env} {T : Tab} {call : CallT} {L : List Nat}
variable {ops : Array Oper} {all ord : List DI} {r0 : Rho} {s0 : St} {w0 : World} {e0 : Env} {a0 : Act} {nd : Nat → TN} {va : Nat → AVal} {gd : Nat → Bool}
variable {D : Nat → Prop} {c : Nat} {ro : Rho} {a : Act}

/-- All that is done ahead of a place is named. -/
theorem Inv.adopt (C : DrawCtx P om T call L ops all ord r0 s0 w0 e0 a0 nd va gd) (I : Inv om ord r0 s0 w0 a0 nd va gd D c ro w a) : ∀ k, c + k ≤ ord.length → (∀ q, c ≤ q → q < c + k → D q) →
    Post om r0 s0 w0 (cutR ro (nd (c + k)).s.n) (nd (c + k)).s w ∧ ∀ i, (nd (c + k)).s.at i ≠ .none → LiveC ord nd gd D c i
  | 0, _, _ => ⟨I.post, fun i hi => .inl hi⟩
  | k + 1, hk, hd => by
    obtain ⟨h1, h2⟩ := I.adopt C k (by omega) fun q h h' => hd q h (by omega)
    have hq := hd (c + k) (by omega) (by omega)
    have hx := List.getElem?_eq_getElem (l := ord) (i := c + k) (by omega)
    have hnd := I.eff _ hq (by omega)
    by_cases ha : Alc ord gd (c + k)
    · obtain ⟨p, hp⟩ := I.ex _ ⟨hq, by omega, ha⟩
      obtain ⟨b, n, o, k1, k2, k3, k4⟩ := hp.blk
      have hn : (nd (c + (k + 1))).s.n = n := by show (nd (c + k + 1)).s.n = n; rw [k2]
      have hcut : cutR ro (nd (c + k + 1)).s.n = upd (cutR ro (nd (c + k)).s.n) (nd (c + k)).s.n p := funext fun i => by
        rw [show (nd (c + k + 1)).s.n = n from hn]
        by_cases hi : i.num = (nd (c + k)).s.n.num
        · have : i = (nd (c + k)).s.n := Id.num_inj hi
          subst this
          rw [upd_same]
          exact cutR_mk (by omega) hp.name
        · rw [upd_ne hi]
          unfold cutR
          by_cases h3 : i.num < (nd (c + k)).s.n.num
          · rw [if_pos h3, if_pos (by omega)]
          · rw [if_neg h3, if_neg (by omega)]
      have hni : ∀ i q, (nd (c + k)).s.at i ≠ .none → cutR ro (nd (c + k)).s.n i = some q → q.b ≠ p.b := fun i q hi hq' e1 => by
        obtain ⟨h3, h4⟩ := cutR_some hq'
        have := I.inj i _ q p (h2 i hi) (.inr ⟨_, ⟨hq, by omega, ha⟩, rfl⟩) h4 hp.name e1
        subst this
        omega
      rw [show cutR ro (nd (c + k + 1)).s.n = _ from hcut] at k4
      have hpost := Post.adopt h1 k1 k3 k4 hp.new hni
      refine ⟨?_, fun i hi => ?_⟩
      · rw [show cutR ro (nd (c + (k + 1))).s.n = _ from hcut, show (nd (c + (k + 1))).s = _ from k2]
        exact hpost
      · rw [show (nd (c + (k + 1))).s = _ from k2, St.at_set] at hi
        split at hi
        · rename_i e1; exact .inr ⟨_, ⟨hq, by omega, ha⟩, e1⟩
        · exact h2 i hi
    · have hsame := C.same hx hnd ha
      show Post om r0 s0 w0 (cutR ro (nd (c + k + 1)).s.n) (nd (c + k + 1)).s w ∧ ∀ i, (nd (c + k + 1)).s.at i ≠ .none → LiveC ord nd gd D c i
      rw [hsame]
      exact ⟨h1, h2⟩
theorem Inv.adopted (C : DrawCtx P om T call L ops all ord r0 s0 w0 e0 a0 nd va gd) (I : Inv om ord r0 s0 w0 a0 nd va gd D c ro w a) {j : Nat} (hj : j ≤ ord.length) (hc : c ≤ j) (hd : ∀ q, q < j → D q) :
    Post om r0 s0 w0 (cutR ro (nd j).s.n) (nd j).s w ∧ ∀ i, (nd j).s.at i ≠ .none → LiveC ord nd gd D c i := by
  have := I.adopt C (j - c) (by omega) fun q _ h => hd q (by omega)
  rw [show c + (j - c) = j by omega] at this
  exact this

/-- What is not done stands behind the last change. -/
theorem Inv.behind (I : Inv om ord r0 s0 w0 a0 nd va gd D c ro w a) {j : Nat} (hD : ¬ D j) : c ≤ j := by
  rcases Nat.lt_or_ge j c with h | h
  · exact absurd (I.done j h) hD
  · exact h

/-- A block is made. -/
theorem Inv.make (C : DrawCtx P om T call L ops all ord r0 s0 w0 e0 a0 nd va gd) (I : Inv om ord r0 s0 w0 a0 nd va gd D c ro w a) {j : Nat} {x : DI} (hx : ord[j]? = some x) (hD : ¬ D j)
    (hm : ∀ i, tb x.mask i = true → ∃ q y, D q ∧ ord[q]? = some y ∧ y.i = i) (hk : x.kind = 2) (hg : gd j = true) :
    ∃ v w1 ro1, (execOp a.eval x.o).run P w = .ok (.value v) w1 ∧ Inv om ord r0 s0 w0 a0 nd va gd (fun q => D q ∨ q = j) c ro1 w1 (a.put x.o.dst v) := by
  have hj := idx_lt hx
  have hcj := I.behind hD
  have hxa := C.R.omem x (List.mem_of_getElem? hx)
  have hA : Alc ord gd j := ⟨x, hx, hk, hg⟩
  have hnum := C.alc hA
  obtain ⟨hop, hn1⟩ : opOf (cOp P (cAt L (knownOf (ord.take j)) j) x.o.op) T call (nd j).l (nd j).e (nd j).s = .ok (va j) (nd (j + 1)).s ∧ True := by
    rcases (C.st j x hx).yes hg with ⟨k, _⟩ | ⟨_, k, _⟩ | ⟨k, _⟩ | ⟨k, _⟩
    · omega
    · exact ⟨k, trivial⟩
    · omega
    · omega
  rw [← cOnly_eq] at hop
  obtain ⟨m, h1, n, b, h2, h3, h4, h5⟩ := op_alloc (I.opd C hx hD hm) (by rw [← (C.R.idx x hxa).2.1]; exact hk) hop
  obtain ⟨v, w1, o, top, h6, h7⟩ := h5 w
  have hrun : (execOp a.eval x.o).run P w = .ok (.value v) w1 := by rw [h1 w]; exact run_val h6
  -- the name is new
  have hfresh : ro (nd j).s.n = none := by
    cases hr : ro (nd j).s.n with
    | none => rfl
    | some p =>
      exfalso
      rcases I.dom _ p hr with h | ⟨q, ⟨k1, k2, k3⟩, k4⟩
      · have := C.num hcj (by omega); omega
      · have hq : q < ord.length := by obtain ⟨y, hy, _⟩ := k3; exact idx_lt hy
        have hqn := C.alc k3
        have hne : q ≠ j := fun e1 => by subst e1; exact hD k1
        have hnn : (nd j).s.n.num = (nd q).s.n.num := by rw [k4]
        rcases Nat.lt_or_ge q j with h | h
        · have := C.num (j := q + 1) (k := j) (by omega) (by omega); omega
        · have := C.num (j := j + 1) (k := q) (by omega) (by omega); omega
  generalize hpl : (⟨w.heap.size, 0, top⟩ : Pl) = p at *
  have hpb : p.b = w.heap.size := by rw [← hpl]
  have hro1 : Ext ro (upd ro (nd j).s.n p) := fun i q hq => by
    by_cases hi : i.num = (nd j).s.n.num
    · rw [Id.num_inj hi, hfresh] at hq; cases hq
    · rw [upd_ne hi]; exact hq
  have hself : upd ro (nd j).s.n p (nd j).s.n = some p := upd_same _ _ _
  have hold : ∀ i q, upd ro (nd j).s.n p i = some q → i ≠ (nd j).s.n → ro i = some q := fun i q hq hne => by
    rw [upd_ne fun e1 => hne (Id.num_inj e1)] at hq; exact hq
  generalize hr1 : upd ro (nd j).s.n p = ro1 at hro1 hself hold
  have hrel := h7.rel (cutR ro1 (nd (j + 1)).s.n) ((cutR_ext hro1).trans (cutR_le (by omega))) (cutR_mk (by omega) (by rw [hself, ← hpl]))
  rw [hpl] at hrel
  have hheap := h7.heap
  have hw : ∀ i, i < w.heap.size → w1.heap[i]? = w.heap[i]? := fun i hi => by rw [hheap, Array.getElem?_push, if_neg (Nat.ne_of_lt hi)]
  have hcc : cutR ro1 (nd c).s.n = cutR ro (nd c).s.n := funext fun i => by
    unfold cutR
    split
    · rename_i hi
      have := C.num hcj (by omega)
      rw [← hr1, upd_ne (by omega)]
    · rfl
  have I1 := I.more C (x := x) (j := j) (v := v) hx hD hm
  have hlt : ∀ {q p'}, ExOK om nd w0 ro w q p' → p'.b < w.heap.size := fun {q p'} h => by
    obtain ⟨_, _, o', _, _, k, _⟩ := h.blk
    rcases Nat.lt_or_ge p'.b w.heap.size with h1 | h1
    · exact h1
    · rw [Array.getElem?_eq_none h1] at k; cases k
  have hltl : ∀ i q, LiveC ord nd gd D c i → ro i = some q → q.b < w.heap.size := fun i q hl hq => by
    rcases hl with h | ⟨q', h, rfl⟩
    · obtain ⟨p1, o1, k1, k2, k3⟩ := I.post.sim.sw.live i h
      have := (I.post.sim.dom i p1 k1).2
      rw [(cutR_some k1).2] at hq
      cases hq
      exact this
    · obtain ⟨p1, k1⟩ := I.ex q' h
      rw [k1.name] at hq
      cases hq
      exact hlt k1
  have hlive : ∀ i, LiveC ord nd gd (fun q => D q ∨ q = j) c i → LiveC ord nd gd D c i ∨ i = (nd j).s.n := fun i hi => by
    rcases hi with h | ⟨q, ⟨h1 | h1, h2, h3⟩, h4⟩
    · exact .inl (.inl h)
    · exact .inl (.inr ⟨q, ⟨h1, h2, h3⟩, h4⟩)
    · subst h1; exact .inr h4
  have hds : ∀ d, x.o.dst = some d → d < a.tmps.size := fun d hd => by rw [I.size]; exact C.size x hxa d hd
  have other : ∀ t, x.o.dst ≠ some t → (a.put x.o.dst v).tmps.getD t undef = a.tmps.getD t undef := fun t ht => by
    cases hd : x.o.dst with
    | none => rfl
    | some d =>
      show (a.tmps.setIfInBounds d v).getD t undef = _
      rw [getD_set (hds d hd), if_neg fun e1 => ht (by rw [hd, e1])]
  have hliven : ∀ i, LiveC ord nd gd D c i → ∀ q, ro1 i = some q → i ≠ (nd j).s.n := fun i hi q _ e1 => by
    subst e1
    rcases hi with h | ⟨q', ⟨k1, k2, k3⟩, k4⟩
    · have h0 := I.post.sim.no (nd j).s.n (C.num hcj (by omega))
      exact h h0
    · obtain ⟨p1, k5⟩ := I.ex q' ⟨k1, k2, k3⟩
      have := k5.name
      rw [← k4, hfresh] at this
      cases this
  refine ⟨v, w1, ro1, hrun, I.clen, fun q h => .inl (I.done q h), I.cut, ?_, ?_, ?_, ?_, ?_, by rw [Act.put_size]; exact I.size, by rw [Act.put_def]; exact I.defers, ?_, ?_, ?_⟩
  · rintro q (h | h) hc
    · exact I.eff q h hc
    · subst h
      rintro ⟨y, k1, k2, k3⟩
      rw [hx] at k1; cases k1; omega
  · rintro q y (h | h) hy i hi
    · obtain ⟨q', y', k1, k2, k3⟩ := I.closed q y h hy i hi
      exact ⟨q', y', .inl k1, k2, k3⟩
    · subst h
      rw [hx] at hy
      cases hy
      obtain ⟨q', y', k1, k2, k3⟩ := hm i hi
      exact ⟨q', y', .inl k1, k2, k3⟩
  · rw [hcc]
    exact I.post.garbage hheap h7.os h7.tape h7.out
  · rintro q y d (h | h) hy hd
    · rw [other d fun e1 => ?_]
      · exact (I.vals q y d h hy hd).mono (cutR_ext hro1)
      · have := C.R.once x hxa y (C.R.omem y (List.mem_of_getElem? hy)) d e1 hd
        have := C.R.facts.nodup j q x y hx hy this
        subst this
        exact hD h
    · subst h
      rw [hx] at hy
      cases hy
      rw [hd]
      show VRel om _ _ ((a.tmps.setIfInBounds d v).getD d undef)
      rw [getD_set (hds d hd), if_pos rfl]
      exact hrel.1
  · intro t ht
    rw [other t (ht j x (.inr rfl) hx)]
    exact I.rest t fun q y hq => ht q y (.inl hq)
  · rintro q ⟨h | h, h2', h3'⟩
    · obtain ⟨p', k⟩ := I.ex q ⟨h, h2', h3'⟩
      obtain ⟨b', n', o', k1, k2, k3, k4⟩ := k.blk
      exact ⟨p', hro1 _ _ k.name, k.new, b', n', o', k1, k2, by rw [hw _ (hlt k)]; exact k3, k4.mono (cutR_ext hro1)⟩
    · subst h
      refine ⟨p, hself, by rw [hpb]; exact I.post.grow, b, n, o, h2, h3, ?_, hrel.2⟩
      rw [hheap, hpb]; simp
  · intro i i' p1 p2 h1 h2 h3 h4 h5
    rcases hlive i h1 with g1 | g1
    · rcases hlive i' h2 with g2 | g2
      · exact I.inj i i' p1 p2 g1 g2 (hold i p1 h3 (hliven i g1 p1 h3)) (hold i' p2 h4 (hliven i' g2 p2 h4)) h5
      · subst g2
        rw [hself] at h4
        cases h4
        have := hltl i p1 g1 (hold i p1 h3 (hliven i g1 p1 h3))
        omega
    · rcases hlive i' h2 with g2 | g2
      · subst g1
        rw [hself] at h3
        cases h3
        have := hltl i' p2 g2 (hold i' p2 h4 (hliven i' g2 p2 h4))
        omega
      · rw [g1, g2]
  · intro i q hq
    by_cases hi : i = (nd j).s.n
    · exact .inr ⟨j, ⟨.inr rfl, hcj, hA⟩, hi⟩
    · rcases I.dom i q (hold i q hq hi) with h | ⟨q', ⟨k1, k2, k3⟩, k4⟩
      · exact .inl h
      · exact .inr ⟨q', ⟨.inl k1, k2, k3⟩, k4⟩

/-- Something is read. -/
theorem Inv.read (C : DrawCtx P om T call L ops all ord r0 s0 w0 e0 a0 nd va gd) (I : Inv om ord r0 s0 w0 a0 nd va gd D c ro w a) {j : Nat} {x : DI} (hx : ord[j]? = some x) (hD : ¬ D j)
    (hm : ∀ i, tb x.mask i = true → ∃ q y, D q ∧ ord[q]? = some y ∧ y.i = i) (hk : x.kind = 1) (hg : gd j = true) :
    ∃ v, (execOp a.eval x.o).run P w = .ok (.value v) w ∧ VRel om (cutR ro (nd (j + 1)).s.n) (va j) v := by
  have hj := idx_lt hx
  have hcj := I.behind hD
  have hxa := C.R.omem x (List.mem_of_getElem? hx)
  obtain ⟨hs, hsn, s1, sn, s2, h1, h2, h3⟩ : (nd (j + 1)).s = (nd j).s ∧ (nd (j + 1)).snaps = (nd j).snaps ∧ ∃ s0 sn s2, (nd j).snaps = s0 :: sn ∧ opOf (cOp P (cAt L (knownOf (ord.take j)) j) x.o.op) T call (nd j).l (nd j).e s0 = .ok (va j) s2 ∧
      sameIn T call (cOp P (cAt L (knownOf (ord.take j)) j) x.o.op) (nd j).l (nd j).e (va j) ((effsOf (ord.take j)).length - effIn all x.mask) sn = true := by
    rcases (C.st j x hx).yes hg with ⟨k, _⟩ | ⟨k, _⟩ | ⟨_, k⟩ | ⟨k, _⟩
    · omega
    · omega
    · exact k
    · omega
  have hcount : dynCount ord gd c j ≤ notIn x.mask (effsOf (ord.take j)) := C.count (by omega) fun q y h4 h5 h6 h7 => by
    cases hq : tb x.mask y.i with
    | false => rfl
    | true =>
      obtain ⟨q', y', k1, k2, k3⟩ := hm _ hq
      have := C.R.facts.nodup q q' y y' h6 k2 k3.symm
      subst this
      exact absurd h7 (I.eff q k1 h4)
  have hreads := C.R.facts.reads j x hx hk
  have hsnap := C.snaps (by omega) hcj I.cut
  rw [h1] at hsnap
  obtain ⟨s3, hop⟩ : ∃ s3, opOf (cOp P (cAt L (knownOf (ord.take j)) j) x.o.op) T call (nd j).l (nd j).e (nd c).s = .ok (va j) s3 := by
    cases hd : dynCount ord gd c j with
    | zero => rw [hd] at hsnap; cases hsnap; exact ⟨s2, h2⟩
    | succ k =>
      rw [hd] at hsnap hcount
      obtain ⟨s4, s5, k1, k2⟩ := sameIn_ok h3 k (by omega)
      have : sn[k]? = some (nd c).s := hsnap
      rw [k1] at this
      cases this
      exact ⟨s5, k2⟩
  rw [← cOnly_eq] at hop
  obtain ⟨_, h4⟩ := op_read (I.opd C hx hD hm) (by rw [← (C.R.idx x hxa).2.1]; exact hk) hop
  obtain ⟨v, h5, h6⟩ := h4 w (I.post.sim.sw.mono (cutR_le (C.num hcj (by omega))))
  exact ⟨v, h5, by rw [hs]; exact h6⟩
theorem Inv.calc (C : DrawCtx P om T call L ops all ord r0 s0 w0 e0 a0 nd va gd) (I : Inv om ord r0 s0 w0 a0 nd va gd D c ro w a) {j : Nat} {x : DI} (hx : ord[j]? = some x) (hD : ¬ D j)
    (hm : ∀ i, tb x.mask i = true → ∃ q y, D q ∧ ord[q]? = some y ∧ y.i = i) (hk : x.kind = 0) (hg : gd j = true) :
    ∃ v, (execOp a.eval x.o).run P w = .ok (.value v) w ∧ VRel om (cutR ro (nd (j + 1)).s.n) (va j) v := by
  have hxa := C.R.omem x (List.mem_of_getElem? hx)
  obtain ⟨hs, s2, hop⟩ : (nd (j + 1)).s = (nd j).s ∧ ∃ s2, opOf (cOp P (cAt L (knownOf (ord.take j)) j) x.o.op) T call (nd j).l (nd j).e (nd j).s = .ok (va j) s2 := by
    rcases (C.st j x hx).yes hg with ⟨_, k1, _, k2⟩ | ⟨k, _⟩ | ⟨k, _⟩ | ⟨k, _⟩
    · exact ⟨k1, k2⟩
    · omega
    · omega
    · omega
  rw [← cOnly_eq] at hop
  obtain ⟨_, v, h1, h2⟩ := op_pure (I.opd C hx hD hm) (by rw [← (C.R.idx x hxa).2.1]; exact hk) hop
  exact ⟨v, h1 w, by rw [hs]; exact h2⟩

/-- Something is changed. -/
theorem Inv.change (C : DrawCtx P om T call L ops all ord r0 s0 w0 e0 a0 nd va gd) (I : Inv om ord r0 s0 w0 a0 nd va gd D c ro w a) {j : Nat} {x : DI} (hx : ord[j]? = some x) (hD : ¬ D j)
    (hm : ∀ i, tb x.mask i = true → ∃ q y, D q ∧ ord[q]? = some y ∧ y.i = i) (hk : x.kind = 3) (hg : gd j = true) :
    Does P (execOp a.eval x.o) w fun v w1 => ∃ ro1, Inv om ord r0 s0 w0 a0 nd va gd (fun q => D q ∨ q = j) (j + 1) ro1 w1 (a.put x.o.dst v) := by
  have hj := idx_lt hx
  have hcj := I.behind hD
  have hxa := C.R.omem x (List.mem_of_getElem? hx)
  have hDyn : Dyn ord gd j := ⟨x, hx, hk, hg⟩
  obtain ⟨hop, hle⟩ : opOf (cOp P (cAt L (knownOf (ord.take j)) j) x.o.op) T call (nd j).l (nd j).e (nd j).s = .ok (va j) (nd (j + 1)).s ∧ (nd j).s.n.num ≤ (nd (j + 1)).s.n.num := by
    rcases (C.st j x hx).yes hg with ⟨k, _⟩ | ⟨k, _⟩ | ⟨k, _⟩ | ⟨_, k1, _, k2⟩
    · omega
    · omega
    · omega
    · exact ⟨k1, k2⟩
  have hall : ∀ q, q < j → D q := fun q hq => by
    have hy := List.getElem?_eq_getElem (l := ord) (i := q) (by omega)
    obtain ⟨q', y', k1, k2, k3⟩ := hm _ (C.R.facts.effs j x hx hk q _ hq hy)
    rw [C.R.facts.nodup q q' _ y' hy k2 k3.symm]
    exact k1
  obtain ⟨hp0, hlv0⟩ := I.adopted C (by omega) hcj hall
  rw [← cOnly_eq] at hop
  refine Does.mono (op_sound C.hc C.hm (fun f => rfl) (I.opd C hx hD hm) hop hp0.sim) fun v w1 ⟨r2, hv, hp⟩ => ?_
  have hnr2 : ∀ i q, r2 i = some q → i.num < (nd (j + 1)).s.n.num := fun i q h => (hp.sim.dom i q h).1
  generalize hr1 : (fun i : Id => if i.num < (nd (j + 1)).s.n.num then r2 i else ro i) = ro1
  have hlo : ∀ i, i.num < (nd (j + 1)).s.n.num → ro1 i = r2 i := fun i hi => by rw [← hr1]; exact if_pos hi
  have hhi : ∀ i, ¬ i.num < (nd (j + 1)).s.n.num → ro1 i = ro i := fun i hi => by rw [← hr1]; exact if_neg hi
  have hcut1 : cutR ro1 (nd (j + 1)).s.n = r2 := funext fun i => by
    unfold cutR
    split
    · rename_i hi; exact hlo i hi
    · rename_i hi
      cases h : r2 i with
      | none => rfl
      | some q => exact absurd (hnr2 i q h) hi
  -- the place of a block that was made decides on its name
  have exNum : ∀ q, Ex ord gd D c q → q ≠ j ∧ ((q < j ∧ (nd q).s.n.num < (nd j).s.n.num) ∨ (j < q ∧ (nd (j + 1)).s.n.num ≤ (nd q).s.n.num)) := fun q ⟨k1, k2, k3⟩ => by
    have hne : q ≠ j := fun e1 => by subst e1; exact hD k1
    have hq : q < ord.length := by obtain ⟨y, hy, _⟩ := k3; exact idx_lt hy
    have hqn := C.alc k3
    refine ⟨hne, ?_⟩
    rcases Nat.lt_or_ge q j with h | h
    · have := C.num (j := q + 1) (k := j) (by omega) (by omega)
      exact .inl ⟨h, by omega⟩
    · exact .inr ⟨by omega, C.num (j := j + 1) (k := q) (by omega) (by omega)⟩
  have hro1 : Ext ro ro1 := fun i p hp' => by
    by_cases hi : i.num < (nd (j + 1)).s.n.num
    · rw [hlo i hi]
      have hij : i.num < (nd j).s.n.num := by
        rcases I.dom i p hp' with h | ⟨q, h1, h2⟩
        · have := C.num hcj (by omega); omega
        · subst h2
          rcases (exNum q h1).2 with h | h
          · exact h.2
          · omega
      rw [hp.old i hij]
      exact cutR_mk hij hp'
    · rw [hhi i hi]; exact hp'
  have hds : ∀ d, x.o.dst = some d → d < a.tmps.size := fun d hd => by rw [I.size]; exact C.size x hxa d hd
  have other : ∀ t, x.o.dst ≠ some t → (a.put x.o.dst v).tmps.getD t undef = a.tmps.getD t undef := fun t ht => by
    cases hd : x.o.dst with
    | none => rfl
    | some d =>
      show (a.tmps.setIfInBounds d v).getD t undef = _
      rw [getD_set (hds d hd), if_neg fun e1 => ht (by rw [hd, e1])]
  have hex : ∀ q, Ex ord gd (fun q => D q ∨ q = j) (j + 1) q → Ex ord gd D c q ∧ j < q := fun q ⟨h1, h2, h3⟩ => by
    rcases h1 with h1 | h1
    · exact ⟨⟨h1, by omega, h3⟩, by omega⟩
    · omega
  have hltx : ∀ {q p'}, ExOK om nd w0 ro w q p' → p'.b < w.heap.size := fun {q p'} h => by
    obtain ⟨_, _, o', _, _, k, _⟩ := h.blk
    rcases Nat.lt_or_ge p'.b w.heap.size with h1 | h1
    · exact h1
    · rw [Array.getElem?_eq_none h1] at k; cases k
  -- blocks that are not yet named are none that may be written
  have hnoW : ∀ q p', Ex ord gd D c q → j < q → ro (nd q).s.n = some p' → ∀ i p1, (nd j).s.at i ≠ .none → cutR ro (nd j).s.n i = some p1 → p1.b ≠ p'.b := fun q p' h1 h2 h3 i p1 h4 h5 e1 => by
    obtain ⟨h6, h7⟩ := cutR_some h5
    have := I.inj i _ p1 p' (hlv0 i h4) (.inr ⟨q, h1, rfl⟩) h7 h3 e1
    subst this
    have := C.num (j := j) (k := q) (by omega) (by obtain ⟨_, _, ⟨y, hy, _⟩⟩ := h1; have := idx_lt hy; omega)
    omega
  refine ⟨ro1, by omega, fun q hq => ?_, .inr ⟨j, rfl, hDyn⟩, ?_, ?_, ?_, ?_, ?_, by rw [Act.put_size]; exact I.size, by rw [Act.put_def]; exact I.defers, ?_, ?_, ?_⟩
  · rcases Nat.lt_or_ge q j with h | h
    · exact .inl (hall q h)
    · exact .inr (by omega)
  · rintro q (h | h) hc
    · exact I.eff q h (by omega)
    · omega
  · rintro q y (h | h) hy i hi
    · obtain ⟨q', y', k1, k2, k3⟩ := I.closed q y h hy i hi
      exact ⟨q', y', .inl k1, k2, k3⟩
    · subst h
      rw [hx] at hy
      cases hy
      obtain ⟨q', y', k1, k2, k3⟩ := hm i hi
      exact ⟨q', y', .inl k1, k2, k3⟩
  · rw [hcut1]; exact hp0.trans hp
  · rintro q y d (h | h) hy hd
    · rw [other d fun e1 => ?_]
      · exact (I.vals q y d h hy hd).mono (cutR_ext hro1)
      · have := C.R.once x hxa y (C.R.omem y (List.mem_of_getElem? hy)) d e1 hd
        have := C.R.facts.nodup j q x y hx hy this
        subst this
        exact hD h
    · subst h
      rw [hx] at hy
      cases hy
      rw [hd, hcut1]
      show VRel om _ _ ((a.tmps.setIfInBounds d v).getD d undef)
      rw [getD_set (hds d hd), if_pos rfl]
      exact hv
  · intro t ht
    rw [other t (ht j x (.inr rfl) hx)]
    exact I.rest t fun q y hq => ht q y (.inl hq)
  · intro q hq
    obtain ⟨h1, h2⟩ := hex q hq
    obtain ⟨p', k⟩ := I.ex q h1
    obtain ⟨b', n', o', k1, k2, k3, k4⟩ := k.blk
    refine ⟨p', hro1 _ _ k.name, k.new, b', n', o', k1, k2, ?_, k4.mono (cutR_ext hro1)⟩
    rw [hp.keep _ (hltx k) ?_]
    · exact k3
    · rintro ⟨i, p1, i1, i2, i3, i4⟩
      exact hnoW q p' h1 h2 k.name i p1 i1 i3 i4
  · intro i i' p1 p2 h1 h2 h3 h4 h5
    have mixed : ∀ i p1 q p2, (nd (j + 1)).s.at i ≠ .none → Ex ord gd D c q → j < q → ro1 i = some p1 → ro1 (nd q).s.n = some p2 → p1.b ≠ p2.b := fun i p1 q p2 g1 g2 g3 g4 g5 e1 => by
      obtain ⟨p', k⟩ := I.ex q g2
      have := hro1 _ _ k.name
      rw [g5] at this
      cases this
      have hin : i.num < (nd (j + 1)).s.n.num := by
        rcases Nat.lt_or_ge i.num (nd (j + 1)).s.n.num with h | h
        · exact h
        · exact absurd (hp.sim.no i h) g1
      rw [hlo i hin] at g4
      by_cases hr : i.num < (nd j).s.ro
      · have hron := hp0.sim.ron
        rw [hp.roK i hr] at g1
        rw [hp.old i (by omega)] at g4
        exact hnoW q p2 g2 g3 k.name i p1 g1 g4 e1
      · obtain ⟨i', p', z1, z2, z3, z4⟩ := hp.img p1.b (by rw [e1]; exact hltx k) ⟨i, p1, g1, by rw [hp.ro]; omega, g4, rfl⟩
        exact hnoW q p2 g2 g3 k.name i' p' z1 z3 (z4.trans e1)
    rcases h1 with h1 | ⟨q, g1, g2⟩
    · rcases h2 with h2 | ⟨q', g1', g2'⟩
      · have hin : ∀ i, (nd (j + 1)).s.at i ≠ .none → i.num < (nd (j + 1)).s.n.num := fun i g1 => by
          rcases Nat.lt_or_ge i.num (nd (j + 1)).s.n.num with h | h
          · exact h
          · exact absurd (hp.sim.no i h) g1
        rw [hlo i (hin i h1)] at h3
        rw [hlo i' (hin i' h2)] at h4
        exact hp.sim.sw.inj i i' p1 p2 h1 h2 h3 h4 h5
      · obtain ⟨z1, z2⟩ := hex q' g1'
        subst g2'
        exact absurd h5 (mixed i p1 q' p2 h1 z1 z2 h3 h4)
    · obtain ⟨z1, z2⟩ := hex q g1
      subst g2
      rcases h2 with h2 | ⟨q', g1', g2'⟩
      · exact absurd h5.symm (mixed i' p2 q p1 h2 z1 z2 h4 h3)
      · obtain ⟨z1', z2'⟩ := hex q' g1'
        subst g2'
        obtain ⟨p', k⟩ := I.ex q z1
        obtain ⟨p'', k'⟩ := I.ex q' z1'
        have e1 := hro1 _ _ k.name
        have e2 := hro1 _ _ k'.name
        rw [h3] at e1; rw [h4] at e2
        cases e1; cases e2
        exact I.inj _ _ p1 p2 (.inr ⟨q, z1, rfl⟩) (.inr ⟨q', z1', rfl⟩) k.name k'.name h5
  · intro i q hq
    by_cases hi : i.num < (nd (j + 1)).s.n.num
    · exact .inl hi
    · rw [hhi i hi] at hq
      rcases I.dom i q hq with h | ⟨q', h1, h2⟩
      · have := C.num (j := c) (k := j + 1) (by omega) (by omega); omega
      · subst h2
        rcases (exNum q' h1).2 with h | h
        · omega
        · exact .inr ⟨q', ⟨.inl h1.1, by omega, h1.2.2⟩, rfl⟩
end
end Go.Cx

/-! ## Regions whose order is open do what the one order comes to. -/
set_option linter.unusedVariables false
set_option linter.unusedSimpArgs false
namespace Go.Cx
noncomputable section
variable {om : Nat → Value} {r r' : Rho} {w w' : World} {P : Program} {s s' : St} {av : AVal}
variable {l : List AVal} {e : Env} {T : Tab} {call : CallT} {L : List Nat}
variable {ops : Array Oper} {all ord : List DI} {r0 : Rho} {s0 : St} {w0 : World} {e0 : Env} {a0 : Act} {nd : Nat → TN} {va : Nat → AVal} {gd : Nat → Bool}
variable {D : Nat → Prop} {c : Nat} {ro : Rho} {a : Act} {Q : Exit → Act → World → Prop}

/-- What is done. -/
def Dn (ord : List DI) (listed : Array Bool) (j : Nat) : Prop := ∃ x, ord[j]? = some x ∧ listed.getD x.i false = true

theorem Dn.more (C : DrawCtx P om T call L ops all ord r0 s0 w0 e0 a0 nd va gd) {listed : Array Bool} {j : Nat} {x : DI} (hx : ord[j]? = some x) (hs : x.i < listed.size) :
    (fun q => Dn ord listed q ∨ q = j) = Dn ord (listed.setIfInBounds x.i true) := funext fun q => propext (by
  have get : ∀ k, (listed.setIfInBounds x.i true).getD k false = if k = x.i then true else listed.getD k false := fun k => by
    by_cases h : k = x.i
    · subst h; rw [if_pos rfl]; simp [Array.getD, hs]
    · rw [if_neg h]; simp [Array.getD_eq_getD_getElem?, Array.getElem?_setIfInBounds_ne (Ne.symm h)]
  constructor
  · rintro (⟨y, h1, h2⟩ | h)
    · refine ⟨y, h1, ?_⟩
      rw [get]
      split
      · rfl
      · exact h2
    · subst h
      exact ⟨x, hx, by rw [get, if_pos rfl]⟩
  · rintro ⟨y, h1, h2⟩
    rw [get] at h2
    split at h2
    · rename_i h3; exact .inr (C.R.facts.nodup q j y x h1 hx h3)
    · exact .inl ⟨y, h1, h2⟩)

theorem any_ok (C : DrawCtx P om T call L ops all ord r0 s0 w0 e0 a0 nd va gd) (hfin : ∀ ro w a c, Inv om ord r0 s0 w0 a0 nd va gd (fun j => j < ord.length) c ro w a → Q .normal a w) :
    ∀ (fuel : Nat) (listed : Array Bool) (c : Nat) (ro : Rho) (w : World) (a : Act), Inv om ord r0 s0 w0 a0 nd va gd (Dn ord listed) c ro w a → listed.size = ops.size →
      ((List.range ops.size).filter fun i => !listed.getD i false).length ≤ fuel → wpAny P .any ops Q fuel listed a w := by
  intro fuel
  have hready : ∀ (listed : Array Bool) i, i ∈ Region.ready .any ops listed ↔ i < ops.size ∧ listed.getD i true = false ∧ ∃ o, ops[i]? = some o ∧ ∀ e ∈ o.after, Region.binds .any e = true → listed.getD e.on false = true := fun listed i => by
    unfold Region.ready
    rw [List.mem_filter, List.mem_range, Bool.and_eq_true]
    constructor
    · rintro ⟨h1, h2, h3⟩
      refine ⟨h1, by simpa using h2, ops[i], Array.getElem?_eq_getElem h1, fun e he hb => ?_⟩
      rw [Array.getElem?_eq_getElem h1] at h3
      replace h3 : (ops[i].after.all fun e => !Region.binds .any e || listed.getD e.on false) = true := h3
      rw [Array.all_eq_true_iff_forall_mem] at h3
      have := h3 e he
      rw [hb] at this
      simpa using this
    · rintro ⟨h1, h2, o, h3, h4⟩
      refine ⟨h1, by rw [h2]; rfl, ?_⟩
      rw [h3]
      show (o.after.all fun e => !Region.binds .any e || listed.getD e.on false) = true
      rw [Array.all_eq_true_iff_forall_mem]
      intro e he
      cases hb : Region.binds .any e with
      | false => rfl
      | true => rw [h4 e he hb]; rfl
  have getD2 : ∀ (listed : Array Bool) i, i < listed.size → listed.getD i true = listed.getD i false := fun listed i h => by simp [Array.getD, h]
  have hord : ∀ x ∈ ord, x.i < ops.size := fun x hx => (Array.getElem?_eq_some_iff.1 (C.R.idx x (C.R.omem x hx)).1).1
  -- nothing is ready: all is done
  have hend : ∀ (listed : Array Bool) (c : Nat) (ro : Rho) (w : World) (a : Act), Inv om ord r0 s0 w0 a0 nd va gd (Dn ord listed) c ro w a → listed.size = ops.size → Region.ready .any ops listed = [] → Q .normal a w := fun listed c ro w a I hs hr => by
    have hall : ∀ j, j < ord.length → Dn ord listed j := by
      intro j
      induction j using Nat.strongRecOn with
      | _ j ih =>
        intro hj
        have hx := List.getElem?_eq_getElem hj
        by_cases hD : Dn ord listed j
        · exact hD
        · exfalso
          have hxm := List.mem_of_getElem? hx
          have hxi := C.R.idx _ (C.R.omem _ hxm)
          have hf : listed.getD (ord[j]).i false = false := by
            cases h : listed.getD (ord[j]).i false with
            | false => rfl
            | true => exact absurd ⟨_, hx, h⟩ hD
          have hm : (ord[j]).i ∈ Region.ready .any ops listed := by
            rw [hready]
            refine ⟨hord _ hxm, by rw [getD2 _ _ (by rw [hs]; exact hord _ hxm)]; exact hf, (ord[j]).o, hxi.1, fun e he hb => ?_⟩
            have hbit := (C.R.mask _ (C.R.omem _ hxm) e.on).2 ⟨e, he, hb, .inl rfl⟩
            obtain ⟨q, y, h1, h2, h3⟩ := C.R.facts.masks j _ hx _ hbit
            obtain ⟨y', h4, h5⟩ := ih q h1 (by omega)
            rw [h2] at h4
            cases h4
            rw [← h3]; exact h5
          rw [hr] at hm
          cases hm
    have : Dn ord listed = fun j => j < ord.length := funext fun j => propext ⟨fun ⟨x, h, _⟩ => idx_lt h, hall j⟩
    rw [this] at I
    exact hfin ro w a c I
  induction fuel with
  | zero =>
    intro listed c ro w a I hs hf
    have hr : Region.ready .any ops listed = [] := by
      rw [List.eq_nil_iff_forall_not_mem]
      intro i hi
      obtain ⟨h1, h2, _⟩ := (hready listed i).1 hi
      have : i ∈ (List.range ops.size).filter fun i => !listed.getD i false := by
        rw [List.mem_filter, List.mem_range]
        exact ⟨h1, by rw [← getD2 _ _ (by omega), h2]; rfl⟩
      rw [List.length_eq_zero_iff.1 (Nat.le_zero.1 hf)] at this
      cases this
    exact ⟨hr, hend listed c ro w a I hs hr⟩
  | succ fuel ih =>
    intro listed c ro w a I hs hf
    refine ⟨hend listed c ro w a I hs, fun i hi => ?_⟩
    obtain ⟨h1, h2, o, h3, h4⟩ := (hready listed i).1 hi
    have hlf : listed.getD i false = false := by rw [← getD2 _ _ (by omega)]; exact h2
    obtain ⟨j, x, hx, hxi⟩ := C.R.facts.every i h1
    have hxa := C.R.omem x (List.mem_of_getElem? hx)
    have hxo : x.o = o := by
      have := (C.R.idx x hxa).1
      rw [hxi, h3] at this
      exact (Option.some.inj this).symm
    have hD : ¬ Dn ord listed j := by
      rintro ⟨y, k1, k2⟩
      rw [hx] at k1
      cases k1
      rw [hxi, hlf] at k2
      cases k2
    have hm : ∀ t, tb x.mask t = true → ∃ q y, Dn ord listed q ∧ ord[q]? = some y ∧ y.i = t := fun t ht => by
      obtain ⟨e, k1, k2, k3⟩ := (C.R.mask x hxa t).1 ht
      rw [hxo] at k1
      have hle := h4 e k1 k2
      have hes : e.on < ops.size := by
        rcases Nat.lt_or_ge e.on listed.size with h | h
        · omega
        · simp [Array.getD, Nat.not_lt.2 h] at hle
      obtain ⟨q, y, k4, k5⟩ := C.R.facts.every e.on hes
      have hDq : Dn ord listed q := ⟨y, k4, by rw [k5]; exact hle⟩
      rcases k3 with k3 | k3
      · exact ⟨q, y, hDq, k4, by omega⟩
      · have hy := (C.R.idx y (C.R.omem y (List.mem_of_getElem? k4))).2.2
        rw [k5] at hy
        rw [maskNth_eq _ _ _ hy] at k3
        exact I.closed q y hDq k4 t k3
    -- one step
    have hdn := Dn.more (listed := listed) C hx (by rw [hs, hxi]; exact h1)
    rw [hxi] at hdn
    have next : ∀ c ro w a, Inv om ord r0 s0 w0 a0 nd va gd (fun q => Dn ord listed q ∨ q = j) c ro w a → wpAny P .any ops Q fuel (listed.setIfInBounds i true) a w := fun c ro w a I' => by
      rw [hdn] at I'
      refine ih _ c ro w a I' (by rw [Array.size_setIfInBounds]; exact hs) ?_
      have : ((List.range ops.size).filter fun k => !(listed.setIfInBounds i true).getD k false).length < ((List.range ops.size).filter fun k => !listed.getD k false).length := by
        refine filter_less (fun k hk h => ?_) ⟨i, List.mem_range.2 h1, by rw [hlf]; rfl, by simp [Array.getD, hs, h1]⟩
        by_cases hki : k = i
        · subst hki; simp [Array.getD, hs, h1] at h
        · simp [Array.getD_eq_getD_getElem?, Array.getElem?_setIfInBounds_ne (Ne.symm hki)] at h ⊢
          exact h
      omega
    unfold wpOp
    rw [h3]
    have hw := I.wanted C hx hD hm
    rw [hxo] at hw
    show if Region.wanted o (yielded ops a.tmps) = true then _ else _
    rw [hw]
    have hna0 : gd j = false → ¬ Alc ord gd j := fun hg ⟨y, k1, k2, k3⟩ => by rw [hg] at k3; cases k3
    have hnd0 : gd j = false → ¬ Dyn ord gd j := fun hg ⟨y, k1, k2, k3⟩ => by rw [hg] at k3; cases k3
    cases hg : gd j with
    | false =>
      have hv := ((C.st j x hx).no hg).1
      have := I.more C (v := undef) hx hD hm (hnd0 hg) (hna0 hg) (by rw [hv]; exact unit_rel)
      rw [hxo] at this
      exact next _ _ _ _ this
    | true =>
      refine .inl ?_
      have hna : x.kind ≠ 2 → ¬ Alc ord gd j := fun hk ⟨y, k1, k2, k3⟩ => by rw [hx] at k1; cases k1; exact hk k2
      have hnd : x.kind ≠ 3 → ¬ Dyn ord gd j := fun hk ⟨y, k1, k2, k3⟩ => by rw [hx] at k1; cases k1; exact hk k2
      rcases kind_cases C.R hxa with hk | hk | hk | hk
      · obtain ⟨v, k1, k2⟩ := I.calc C hx hD hm hk hg
        have := I.more C hx hD hm (hnd (by omega)) (hna (by omega)) k2
        rw [hxo] at k1 this
        exact Does.wp (.of_run k1 (next _ _ _ _ this))
      · obtain ⟨v, k1, k2⟩ := I.read C hx hD hm hk hg
        have := I.more C hx hD hm (hnd (by omega)) (hna (by omega)) k2
        rw [hxo] at k1 this
        exact Does.wp (.of_run k1 (next _ _ _ _ this))
      · obtain ⟨v, w1, ro1, k1, k2⟩ := I.make C hx hD hm hk hg
        rw [hxo] at k1 k2
        exact Does.wp (.of_run k1 (next _ _ _ _ k2))
      · have := I.change C hx hD hm hk hg
        rw [hxo] at this
        exact Does.wp (this.mono fun v w1 ⟨ro1, k⟩ => next _ _ _ _ k)

/-- Regions whose order is open. -/
theorem draw_sound (hmix : P.follows .mixedOrders = true) (hm : MethOK P T) : DrawSound P om T := by
  intro call hc L hL ops id l e s r w a Q hcd hfit hsz sim he h
  have hcd2 := hcd
  unfold cDrawn at hcd2
  cases hall : allOk (drawAll P ops.toList) with
  | false =>
    replace hcd2 : Bool.rec (motive := fun _ => AC) .bad (.draw (cDraw P L ops.toList (drawAll P ops.toList) (orderGo (drawAll P ops.toList) (drawAll P ops.toList) 0) 0 0 [])) (allOk (drawAll P ops.toList)) = .draw l := hcd2
    rw [hall] at hcd2
    cases hcd2
  | true =>
    replace hcd2 : Bool.rec (motive := fun _ => AC) .bad (.draw (cDraw P L ops.toList (drawAll P ops.toList) (orderGo (drawAll P ops.toList) (drawAll P ops.toList) 0) 0 0 [])) (allOk (drawAll P ops.toList)) = .draw l := hcd2
    rw [hall] at hcd2
    have R := RG.of hall hfit
    generalize hord : orderGo (drawAll P ops.toList) (drawAll P ops.toList) 0 = ord at hcd2 R
    generalize hal : drawAll P ops.toList = all at hcd2 R
    have hl : l = cDraw P L ops.toList all ord 0 0 [] := by cases hcd2; rfl
    subst hl
    have hnf : ∀ x, runDraw T call (cDraw P L ops.toList all ord 0 0 []) [] e s [s] ≠ .fail x := fun x hx => by rw [hx] at h; exact h.elim
    obtain ⟨nd, va, gd, t1, t2, t3⟩ := trace_exists (P := P) (L := L) (ops := ops) (all := all) ord [] (fun x hx => kind_cases R (R.omem x hx)) [] e s [s] _ rfl hnf
    have t2' : runDraw T call (cDraw P L ops.toList all ord 0 0 []) [] e s [s] = .norm (nd ord.length).e (nd ord.length).s := t2
    rw [t2'] at h
    refine wp_region_any hmix ?_
    generalize hw0 : ({ w with drawn := w.drawn + 1 } : World) = w0
    have hsame : SameW w w0 := by subst hw0; exact ⟨rfl, rfl, rfl, rfl⟩
    have h := After.step h (Post.same sim hsame) (a1 := a) rfl rfl
    have sim0 := sim.same hsame
    have C : DrawCtx P om T call L ops all ord r s w0 e a nd va gd := ⟨hL, hc, hm, R, fun j x hx => by
      have := t3 j x hx
      rw [List.length_nil, Nat.zero_add, List.nil_append] at this
      exact this, t1, sim0, he, fun x hx d hd => hsz d (wrOps_mem _ _ x.o (by
        have := (R.idx x hx).1
        rw [← Array.getElem?_toList] at this
        exact List.mem_of_getElem? this) d hd)⟩
    have hD0 : (fun _ => False) = Dn ord (Array.replicate ops.size false) := funext fun j => propext ⟨False.elim, fun ⟨x, _, h2⟩ => by
      rw [Array.getD_eq_getD_getElem?] at h2
      by_cases hx : x.i < ops.size
      · simp [hx] at h2
      · simp [hx] at h2⟩
    have I0 := Inv.start C
    rw [hD0] at I0
    refine any_ok C (fun ro w1 a1 c I => ?_) ops.size _ 0 r w0 a I0 (by simp) (Nat.le_trans (List.length_filter_le _ _) (by simp))
    obtain ⟨hp, _⟩ := I.adopted C (j := ord.length) (Nat.le_refl _) I.clen fun q hq => hq
    refine h _ w1 a1 hp (fun t ht => ?_) I.size I.defers
    by_cases hw : ∃ (q : Nat) (x : DI), ord[q]? = some x ∧ x.o.dst = some t
    · obtain ⟨q, x, k1, k2⟩ := hw
      rw [C.envW (Nat.le_refl _) ht (idx_lt k1) k1 k2]
      exact (I.vals q x t (idx_lt k1) k1 k2).mono (cutR_le (C.num (by have := idx_lt k1; omega) (Nat.le_refl _)))
    · rw [C.envN (Nat.le_refl _) ht fun q x _ k1 k2 => hw ⟨q, x, k1, k2⟩, I.rest t fun q x _ k1 k2 => hw ⟨q, x, k1, k2⟩]
      exact (he t ht).mono (I.ext0 C (Nat.le_refl _))

/-- Calls come to what the abstract machine comes to. -/
theorem machine_sound (hmix : P.follows .mixedOrders = true) (ht : TabOK P om T) (n : Nat) : CallOK P om (callWith T (exec T n)) :=
  calls_sound ht (draw_sound hmix ht.meth) loop_sound n
end
end Go.Cx

/-! ## What single functions come to at once: sums of bytes. -/
set_option linter.unusedVariables false
set_option linter.unusedSimpArgs false
namespace Go.Cx
noncomputable section
variable {s s' : St} {av v : AVal} {l : List AVal} {e : Env} {T : Tab} {call : CallT}

theorem draw_pure {op : AO} {dst : Option P2} {rest : List DOp} {sn : List St} {s2 : St} (h : opOf op T call l e s = .ok v s2) :
    runDraw T call (⟨⟨op, dst, none⟩, .pure⟩ :: rest) l e s sn = runDraw T call rest (v :: l) (putD dst v e) s sn := by
  show dPure T call op dst (runDraw T call rest) l e s sn = _
  unfold dPure
  rw [h]
  exact dPut_eq
theorem draw_read {op : AO} {dst : Option P2} {rest : List DOp} {sn : List St} {s0 s2 : St} (h : opOf op T call l e s0 = .ok v s2) :
    runDraw T call (⟨⟨op, dst, none⟩, .read 0⟩ :: rest) l e s (s0 :: sn) = runDraw T call rest (v :: l) (putD dst v e) s (s0 :: sn) := by
  show dRead 0 T call op dst (runDraw T call rest) l e s (s0 :: sn) = _
  unfold dRead
  simp only [h]
  exact dPut_eq
theorem ops_one {op : AO} {dst : Option P2} {rest : List AOp} {s2 : St} (h : opOf op T call l e s = .ok v s2) :
    runOps T call (⟨op, dst, none⟩ :: rest) l e s = runOps T call rest (v :: l) (putD dst v e) s2 := by
  show stepOp T call op dst (runOps T call rest) l e s = _
  rw [stepOp_eq, h]

/-! ### Numbers -/
theorem wrap_nat (k : IntKind) (m : Nat) (h : m < khalf k) : wrap k (.ofNat m) = .ofNat m := by
  show wrapN k m = _
  unfold wrapN
  rw [lt_true.2 h]
theorem wrap_u8 (m : Nat) : wrap .u8 (.ofNat m) = .ofNat (m % 256) := by
  show wrapN .u8 m = _
  unfold wrapN
  cases h : lt m (khalf .u8) with
  | true =>
    have := lt_true.1 h
    have h2 : khalf .u8 = 128 := rfl
    show Int.ofNat m = _
    rw [Nat.mod_eq_of_lt (by omega)]
  | false => rfl
theorem wrapN_u (k : IntKind) (hk : ksigned k = false) (m : Nat) (h : m < kp k) : wrapN k m = .ofNat m := by
  unfold wrapN
  cases hb : lt m (khalf k) with
  | true => rfl
  | false =>
    show dec k (Nat.mod m (kp k)) = _
    have : Nat.mod m (kp k) = m := Nat.mod_eq_of_lt h
    rw [this]
    unfold dec
    rw [hk]
    rfl
theorem xor_u {k : IntKind} (hk : ksigned k = false) {a b : Nat} (ha : a < kp k) (hb : b < kp k) : bXor k (.ofNat a) (.ofNat b) = .int k (.ofNat (Nat.xor a b)) := by
  show Bool.rec (motive := fun _ => AVal) .bad (.int k (wrapN k (Nat.xor a b))) (band (lt a (kp k)) (lt b (kp k))) = _
  rw [lt_true.2 ha, lt_true.2 hb]
  show AVal.int k (wrapN k (Nat.xor a b)) = _
  rw [wrapN_u k hk]
  rw [kp_eq] at ha hb ⊢
  exact Nat.xor_lt_two_pow ha hb

theorem ixN_ok {b : Id} {off len esz w i : Nat} (h : i < len) : ixN b off len esz w i s = .ok (.ptr b (Nat.add off (Nat.mul i esz))) s := by
  unfold ixN
  rw [lt_true.2 h]
theorem icell_lt {k : IntKind} {n d off : Nat} (h : off < n) : icell k n d off = .int k (dec k (dcut (kw k) d off 1)) := by
  unfold icell
  rw [lt_true.2 h]
theorem load_ints {i : Id} {k : IntKind} {n d off : Nat} (hb : s.at i = .ints k n d) (h : off < n) : xLoad (.ptr i off) s = .ok (.int k (dec k (dcut (kw k) d off 1))) s := by
  show VR.check ((s.at i).cell off) 21 s = _
  rw [hb]
  show VR.check (icell k n d off) 21 s = _
  rw [icell_lt h]
  rfl

/-! ### Sums of bytes -/
def q00 : P2 := ⟨.i0, .i0⟩
def q01 : P2 := ⟨.i0, .i1⟩
def q02 : P2 := ⟨.i0, .i2⟩
def q03 : P2 := ⟨.i0, .i3⟩
def q04 : P2 := ⟨.i0, .i4⟩
def q05 : P2 := ⟨.i0, .i5⟩
def q06 : P2 := ⟨.i0, .i6⟩
def q07 : P2 := ⟨.i0, .i7⟩
def q10 : P2 := ⟨.i1, .i0⟩
def env9 (a0 a1 a2 a3 a4 a5 a6 a7 b0 : AVal) : Env :=
  ⟨⟨a0, a1, a2, a3, a4, a5, a6, a7⟩, ⟨b0, .bad, .bad, .bad, .bad, .bad, .bad, .bad⟩, N8.all .bad, N8.all .bad, N8.all .bad, N8.all .bad, N8.all .bad, N8.all .bad⟩
def sumDraw : List DOp :=
  [⟨⟨.move (.env q10), none, none⟩, .pure⟩, ⟨⟨.move (.env q05), none, none⟩, .pure⟩, ⟨⟨.convII .u8 (.loc 0), none, none⟩, .pure⟩, ⟨⟨.move (.env q07), none, none⟩, .pure⟩, ⟨⟨.move (.env q04), none, none⟩, .pure⟩,
   ⟨⟨.ixSl 1 (.loc 1) (.loc 0), none, none⟩, .pure⟩, ⟨⟨.load (.loc 0), none, none⟩, .read 0⟩, ⟨⟨.binInt .xor (.loc 4) (.loc 0), none, none⟩, .pure⟩, ⟨⟨.nilck (.loc 7), none, none⟩, .pure⟩,
   ⟨⟨.ixArr 256 1 (.loc 0) (.loc 1), none, none⟩, .pure⟩, ⟨⟨.load (.loc 0), none, none⟩, .read 0⟩, ⟨⟨.move (.env q05), none, none⟩, .pure⟩, ⟨⟨.binInt .shr (.loc 0) (.const (.int .u64 (.ofNat 8))), none, none⟩, .pure⟩,
   ⟨⟨.binInt .xor (.loc 2) (.loc 0), none, none⟩, .pure⟩, ⟨⟨.move (.loc 0), some q05, none⟩, .pure⟩]
def sumBody : AC :=
  .seq (.ops [⟨.binInt .lss (.env q01) (.env q02), some q00, none⟩]) (.seq (.cond (.env q00) .skip (.exit 0))
    (.seq (.block 1 (.seq (.ops [⟨.move (.env q01), some q04, none⟩]) (.draw sumDraw)))
      (.ops [⟨.binInt .add (.env q01) (.const (.int .i64 (.ofNat 1))), none, none⟩, ⟨.move (.loc 0), some q01, none⟩])))
def sumCode : AC :=
  .seq (.ops [⟨.move (.const (.int .u32 (.ofNat 0))), some q06, none⟩])
    (.seq (.seq (.ops [⟨.eq (.one .ptr) false (.env q10) (.const .nilp), some q03, none⟩]) (.cond (.env q03) (.seq (.ops [⟨.move (.const (.int .u32 (.ofNat 0))), some q06, none⟩]) .ret) .skip))
      (.seq (.ops [⟨.move (.const (.int .u32 (.ofNat 4294967295))), some q05, none⟩])
        (.seq (.seq (.ops [⟨.len (.env q07), some q02, none⟩, ⟨.move (.const (.int .i64 (.ofNat 0))), some q01, none⟩]) (.block 0 (.loop sumBody)))
          (.seq (.ops [⟨.binInt .sub (.const (.int .u32 (.ofNat 4294967295))) (.env q05), none, none⟩, ⟨.move (.loc 0), some q06, none⟩]) .ret))))
def sumFn : AFn := ⟨sumCode, [some q10, some q07], [.tmp q06]⟩

/-- A slice of bytes. -/
inductive Bytes : AVal → Id → Nat → Nat → Prop
  | slice (i : Id) (off len cap : Nat) : Bytes (.slice i off len cap) i off len
  | slicu (i : Id) (off len lo z : Nat) : Bytes (.slicu i off len lo z) i off len
  | nils (i : Id) (off : Nat) : Bytes .nils i off 0
theorem Bytes.ix {b : AVal} {i : Id} {off len j : Nat} {k : IntKind} (h : Bytes b i off len) (hj : j < len) : xIxSl b 1 (.int k (.ofNat j)) s = .ok (.ptr i (off + j)) s := by
  cases h with
  | slice => rw [show xIxSl (.slice i off len _) 1 (.int k (.ofNat j)) s = ixN i off len 1 73 j s from rfl, ixN_ok hj]; simp
  | slicu => rw [show xIxSl (.slicu i off len _ _) 1 (.int k (.ofNat j)) s = ixN i off len 1 74 j s from rfl, ixN_ok hj]; simp
  | nils => omega
theorem Bytes.move {b : AVal} {i : Id} {off len n : Nat} (h : Bytes b i off len) : VR.check b n s = .ok b s := by cases h <;> rfl
theorem Bytes.len {b : AVal} {i : Id} {off len : Nat} (h : Bytes b i off len) : xLen b s = .ok (.int .i64 (.ofNat len)) s := by cases h <;> rfl

theorem dcut_lt1 (w d off : Nat) : dcut w d off 1 < 2 ^ w := by have := dcut_lt w d off 1; simpa using this

section
variable {t i : Id} {tab m d off n : Nat} {b : AVal} {j c : Nat} {a0 a1 a2 a3 a4 a6 : AVal}
/-- One byte. -/
theorem sum_draw (hb : Bytes b i off n) (hi : ∀ j, j < n → xLoad (.ptr i (off + j)) s = .ok (.int .u8 (.ofNat (dcut 8 d (off + j) 1))) s) (ht : s.at t = .ints .u32 256 tab) (hj : j < n) (hc : c < 4294967296) :
    runDraw T call sumDraw [] (env9 a0 a1 a2 a3 (.int .i64 (.ofNat j)) (.int .u32 (.ofNat c)) a6 b (.ptr t 0)) s [s] =
      .norm (env9 a0 a1 a2 a3 (.int .i64 (.ofNat j)) (.int .u32 (.ofNat (crcStep tab c (dcut 8 d (off + j) 1)))) a6 b (.ptr t 0)) s := by
  have h8 := dcut_lt1 8 d (off + j)
  have hx : Nat.xor (c % 256) (dcut 8 d (off + j) 1) < 256 := Nat.xor_lt_two_pow (n := 8) (Nat.mod_lt _ (by decide)) h8
  have hxe : Nat.xor (c % 256) (dcut 8 d (off + j) 1) = Nat.mod (Nat.xor c (dcut 8 d (off + j) 1)) 256 := by
    show (c % 2 ^ 8) ^^^ (dcut 8 d (off + j) 1) = (c ^^^ (dcut 8 d (off + j) 1)) % 2 ^ 8
    rw [Nat.xor_mod_two_pow, Nat.mod_eq_of_lt h8]
  have hsh : Nat.shiftRight c 8 < 4294967296 := by
    show c >>> 8 < _
    rw [Nat.shiftRight_eq_div_pow]
    exact Nat.lt_of_le_of_lt (Nat.div_le_self _ _) hc
  unfold sumDraw
  rw [draw_pure (v := .ptr t 0) (s2 := s) rfl]
  rw [draw_pure (v := .int .u32 (.ofNat c)) (s2 := s) rfl]
  rw [draw_pure (v := .int .u8 (.ofNat (c % 256))) (s2 := s) (by
    show VR.ok (.int .u8 (wrap .u8 (.ofNat c))) s = _
    rw [wrap_u8])]
  rw [draw_pure (v := b) (s2 := s) (by exact hb.move)]
  rw [draw_pure (v := .int .i64 (.ofNat j)) (s2 := s) rfl]
  rw [draw_pure (v := .ptr i (off + j)) (s2 := s) (by exact hb.ix hj)]
  rw [draw_read (v := .int .u8 (.ofNat (dcut 8 d (off + j) 1))) (s2 := s) (by exact hi j hj)]
  rw [draw_pure (v := .int .u8 (.ofNat (Nat.xor (c % 256) (dcut 8 d (off + j) 1)))) (s2 := s) (by
    show VR.check (bXor .u8 (.ofNat (c % 256)) (.ofNat (dcut 8 d (off + j) 1))) 32 s = _
    rw [xor_u (k := .u8) rfl (show c % 256 < kp .u8 from Nat.mod_lt _ (by decide)) (show dcut 8 d (off + j) 1 < kp .u8 from h8)]
    rfl)]
  rw [draw_pure (v := .ptr t 0) (s2 := s) rfl]
  rw [draw_pure (v := .ptr t (Nat.xor (c % 256) (dcut 8 d (off + j) 1))) (s2 := s) (by
    show ixN t 0 256 1 70 (Nat.xor (c % 256) (dcut 8 d (off + j) 1)) s = _
    rw [ixN_ok hx]
    simp)]
  rw [draw_read (v := .int .u32 (.ofNat (dcut 32 tab (Nat.xor (c % 256) (dcut 8 d (off + j) 1)) 1))) (s2 := s) (by exact load_ints ht hx)]
  rw [draw_pure (v := .int .u32 (.ofNat c)) (s2 := s) rfl]
  rw [draw_pure (v := .int .u32 (.ofNat (Nat.shiftRight c 8))) (s2 := s) rfl]
  rw [draw_pure (v := .int .u32 (.ofNat (crcStep tab c (dcut 8 d (off + j) 1)))) (s2 := s) (by
    show VR.check (bXor .u32 (.ofNat (dcut 32 tab (Nat.xor (c % 256) (dcut 8 d (off + j) 1)) 1)) (.ofNat (Nat.shiftRight c 8))) 32 s = _
    rw [xor_u (k := .u32) rfl (show dcut 32 tab _ 1 < kp .u32 from dcut_lt1 32 tab _) (show Nat.shiftRight c 8 < kp .u32 from hsh), hxe]
    rfl)]
  rw [draw_pure (v := .int .u32 (.ofNat (crcStep tab c (dcut 8 d (off + j) 1)))) (s2 := s) rfl]
  rfl
theorem crcStep_lt {b : Nat} (hc : c < 4294967296) : crcStep tab c b < 4294967296 := by
  refine Nat.xor_lt_two_pow (n := 32) (dcut_lt1 32 _ _) ?_
  show c >>> 8 < _
  rw [Nat.shiftRight_eq_div_pow]
  exact Nat.lt_of_le_of_lt (Nat.div_le_self _ _) hc

theorem exec_seq {k : Nat} {a b : AC} : exec T (k + 1) (.seq a b) e s = seqK (exec T k a e s) b (exec T k) := rfl
theorem exec_ops {k : Nat} {o : List AOp} : exec T (k + 1) (.ops o) e s = runOps T (callWith T (exec T k)) o [] e s := rfl
theorem exec_draw {k : Nat} {o : List DOp} : exec T (k + 1) (.draw o) e s = runDraw T (callWith T (exec T k)) o [] e s [s] := rfl
theorem exec_loop {k : Nat} {b : AC} : exec T (k + 1) (.loop b) e s = seqK (exec T k b e s) (.loop b) (exec T k) := rfl
theorem exec_block {k id : Nat} {b : AC} : exec T (k + 1) (.block id b) e s = blockK (exec T k b e s) id := rfl

/-- A round. -/
theorem sum_round (k : Nat) (hb : Bytes b i off n) (hi : ∀ j, j < n → xLoad (.ptr i (off + j)) s = .ok (.int .u8 (.ofNat (dcut 8 d (off + j) 1))) s) (ht : s.at t = .ints .u32 256 tab) (hn : n ≤ 1099511627776) (hj : j < n) (hc : c < 4294967296) :
    exec T (k + 6) sumBody (env9 a0 (.int .i64 (.ofNat j)) (.int .i64 (.ofNat n)) a3 a4 (.int .u32 (.ofNat c)) a6 b (.ptr t 0)) s =
      .norm (env9 (.bool true) (.int .i64 (.ofNat (j + 1))) (.int .i64 (.ofNat n)) a3 (.int .i64 (.ofNat j)) (.int .u32 (.ofNat (crcStep tab c (dcut 8 d (off + j) 1)))) a6 b (.ptr t 0)) s := by
  unfold sumBody
  rw [exec_seq, exec_ops, ops_one (v := .bool true) (s2 := s) (by
    show VR.ok (.bool (lt j n)) s = _
    rw [lt_true.2 hj])]
  show exec T (k + 5) (.seq (.cond (.env q00) .skip (.exit 0)) _) (env9 (.bool true) _ _ _ _ _ _ _ _) s = _
  rw [exec_seq]
  show exec T (k + 4) (.seq (.block 1 _) _) (env9 (.bool true) _ _ _ _ _ _ _ _) s = _
  rw [exec_seq, exec_block, exec_seq, exec_ops, ops_one (v := .int .i64 (.ofNat j)) (s2 := s) rfl]
  show seqK (blockK (exec T (k + 1) (.draw sumDraw) (env9 (.bool true) _ _ _ _ _ _ _ _) s) 1) _ _ = _
  rw [exec_draw]
  have := sum_draw (T := T) (call := callWith T (exec T k)) (a0 := .bool true) (a1 := .int .i64 (.ofNat j)) (a2 := .int .i64 (.ofNat n)) (a3 := a3) (a6 := a6) hb hi ht hj hc
  show seqK (blockK (runDraw T _ sumDraw [] (env9 (.bool true) (.int .i64 (.ofNat j)) (.int .i64 (.ofNat n)) a3 (.int .i64 (.ofNat j)) (.int .u32 (.ofNat c)) a6 b (.ptr t 0)) s [s]) 1) _ _ = _
  rw [this]
  show exec T (k + 3) (.ops _) (env9 _ _ _ _ _ _ _ _ _) s = _
  rw [exec_ops, ops_one (v := .int .i64 (.ofNat (j + 1))) (s2 := s) (by
    show VR.ok (.int .i64 (wrap .i64 (.ofNat (j + 1)))) s = _
    rw [wrap_nat .i64 (j + 1) (by show j + 1 < 9223372036854775808; omega)])]
  rfl

theorem byte_at {len : Nat} (h : j < len) : dcut 8 d (off + j) 1 = dcut 8 d off len / 256 ^ j % 256 := by
  rw [dcut_eq, dcut_eq]
  have h1 : (256 : Nat) ^ j = 2 ^ (8 * j) := by rw [Nat.pow_mul]
  have h2 : (256 : Nat) = 2 ^ (8 * 1) := rfl
  rw [h1]
  apply Nat.eq_of_testBit_eq
  intro q
  show (d / 2 ^ (8 * (off + j)) % 2 ^ (8 * 1)).testBit q = (d / 2 ^ (8 * off) % 2 ^ (8 * len) / 2 ^ (8 * j) % 2 ^ 8).testBit q
  simp only [Nat.testBit_mod_two_pow, Nat.testBit_div_two_pow]
  by_cases hq : q < 8
  · have e1 : decide (q < 8 * 1) = true := decide_eq_true (by omega)
    have e2 : decide (q + 8 * j < 8 * len) = true := decide_eq_true (by omega)
    rw [e1, e2]
    simp only [Bool.true_and]
    congr 1
    omega
  · have e1 : decide (q < 8 * 1) = false := decide_eq_false (by omega)
    rw [e1]
    rfl

/-- The loop. -/
theorem sum_loop (hb : Bytes b i off n) (hi : ∀ j, j < n → xLoad (.ptr i (off + j)) s = .ok (.int .u8 (.ofNat (dcut 8 d (off + j) 1))) s) (ht : s.at t = .ints .u32 256 tab) (hn : n ≤ 1099511627776) :
    ∀ (r j c : Nat) (a0 a4 : AVal) (k : Nat), j + r = n → c < 4294967296 → ∃ x y : AVal,
      exec T (k + r + 8) (.loop sumBody) (env9 a0 (.int .i64 (.ofNat j)) (.int .i64 (.ofNat n)) a3 a4 (.int .u32 (.ofNat c)) a6 b (.ptr t 0)) s =
        .exit 0 (env9 x (.int .i64 (.ofNat n)) (.int .i64 (.ofNat n)) a3 y (.int .u32 (.ofNat (crcGo tab r (dcut 8 d off n / 256 ^ j) c))) a6 b (.ptr t 0)) s := by
  intro r
  induction r with
  | zero =>
    intro j c a0 a4 k hj hc
    have : j = n := by omega
    subst this
    refine ⟨.bool false, a4, ?_⟩
    rw [exec_loop]
    unfold sumBody
    rw [exec_seq, exec_ops, ops_one (v := .bool false) (s2 := s) (by
      show VR.ok (.bool (lt j j)) s = _
      rw [lt_false.2 (Nat.le_refl j)])]
    rfl
  | succ r ih =>
    intro j c a0 a4 k hj hc
    obtain ⟨x, y, h⟩ := ih (j + 1) (crcStep tab c (dcut 8 d (off + j) 1)) (.bool true) (.int .i64 (.ofNat j)) k (by omega) (crcStep_lt hc)
    refine ⟨x, y, ?_⟩
    rw [exec_loop]
    have hr := sum_round (T := T) (a0 := a0) (a3 := a3) (a4 := a4) (a6 := a6) (k + r + 2) hb hi ht hn (show j < n by omega) hc
    have e1 : k + (r + 1) + 7 = k + r + 2 + 6 := by omega
    show seqK (exec T (k + (r + 1) + 7) sumBody _ s) (.loop sumBody) (exec T (k + (r + 1) + 7)) = _
    rw [e1, hr]
    show exec T (k + r + 2 + 6) (.loop sumBody) _ s = _
    rw [show k + r + 2 + 6 = k + r + 8 by omega, h]
    have hby := byte_at (d := d) (off := off) (len := n) (j := j) (by omega)
    have hg : crcGo tab (r + 1) (dcut 8 d off n / 256 ^ j) c = crcGo tab r (dcut 8 d off n / 256 ^ (j + 1)) (crcStep tab c (dcut 8 d (off + j) 1)) := by
      show crcGo tab r (Nat.div (dcut 8 d off n / 256 ^ j) 256) (crcStep tab c (Nat.mod (dcut 8 d off n / 256 ^ j) 256)) = _
      rw [hby]
      congr 1
      show dcut 8 d off n / 256 ^ j / 256 = _
      rw [Nat.div_div_eq_div_mul, Nat.pow_succ]
    rw [hg]
theorem crcGo_lt : ∀ (n d c : Nat), c < 4294967296 → crcGo tab n d c < 4294967296
  | 0, d, c, h => h
  | n + 1, d, c, h => crcGo_lt n (Nat.div d 256) (crcStep tab c (Nat.mod d 256)) (crcStep_lt h)
end

/-- The whole function, in the abstract machine. -/
theorem sum_fn {f : Nat} (hs : T.summ f = none) (hf : T.fn f = some sumFn) {args : List AVal} (h : sumSum args s = .ok av s') : ∃ k, callWith T (exec T k) f args s = .ok av s' := by
  have key : ∀ {t : Id} {b : AVal} {i : Id} {off n d tab : Nat}, Bytes b i off n → (∀ j, j < n → xLoad (.ptr i (off + j)) s = .ok (.int .u8 (.ofNat (dcut 8 d (off + j) 1))) s) → s.at t = .ints .u32 256 tab → n ≤ 1099511627776 →
      ∃ k, callWith T (exec T k) f [.ptr t 0, b] s = crcOf tab n (dcut 8 d off n) s := fun {t b i off n d tab} hb hi ht hn => by
    refine ⟨n + 14, ?_⟩
    unfold callWith
    rw [hs]
    show callTab (T.fn f) (exec T (n + 14)) f [.ptr t 0, b] s = _
    rw [hf]
    show callRes (exec T (n + 14) sumCode (env9 .bad .bad .bad .bad .bad .bad .bad b (.ptr t 0)) s) [.tmp q06] f = _
    unfold sumCode
    rw [exec_seq, exec_ops, ops_one (v := .int .u32 (.ofNat 0)) (s2 := s) rfl]
    show callRes (exec T (n + 13) (.seq _ _) (env9 .bad .bad .bad .bad .bad .bad (.int .u32 (.ofNat 0)) b (.ptr t 0)) s) [.tmp q06] f = _
    rw [exec_seq, exec_seq, exec_ops, ops_one (v := .bool false) (s2 := s) rfl]
    show callRes (exec T (n + 12) (.seq _ _) (env9 .bad .bad .bad (.bool false) .bad .bad (.int .u32 (.ofNat 0)) b (.ptr t 0)) s) [.tmp q06] f = _
    rw [exec_seq, exec_ops, ops_one (v := .int .u32 (.ofNat 4294967295)) (s2 := s) rfl]
    show callRes (exec T (n + 11) (.seq _ _) (env9 .bad .bad .bad (.bool false) .bad (.int .u32 (.ofNat 4294967295)) (.int .u32 (.ofNat 0)) b (.ptr t 0)) s) [.tmp q06] f = _
    rw [exec_seq, exec_seq, exec_ops, ops_one (v := .int .i64 (.ofNat n)) (s2 := s) (by exact hb.len), ops_one (v := .int .i64 (.ofNat 0)) (s2 := s) rfl]
    show callRes (seqK (exec T (n + 9) (.block 0 (.loop sumBody)) (env9 .bad (.int .i64 (.ofNat 0)) (.int .i64 (.ofNat n)) (.bool false) .bad (.int .u32 (.ofNat 4294967295)) (.int .u32 (.ofNat 0)) b (.ptr t 0)) s) _ _) [.tmp q06] f = _
    obtain ⟨x, y, hl⟩ := sum_loop (T := T) (a3 := .bool false) (a6 := .int .u32 (.ofNat 0)) hb hi ht hn n 0 4294967295 .bad .bad 0 (by omega) (by decide)
    rw [exec_block]
    rw [show 0 + n + 8 = n + 8 by omega] at hl
    rw [hl, show dcut 8 d off n / 256 ^ 0 = dcut 8 d off n by rw [Nat.pow_zero, Nat.div_one]]
    show callRes (exec T (n + 10) (.seq _ _) (env9 x (.int .i64 (.ofNat n)) (.int .i64 (.ofNat n)) (.bool false) y (.int .u32 (.ofNat (crcGo tab n (dcut 8 d off n) 4294967295))) (.int .u32 (.ofNat 0)) b (.ptr t 0)) s) [.tmp q06] f = _
    show _ = VR.ok (.int .u32 (.ofNat (Nat.sub 4294967295 (crcGo tab n (dcut 8 d off n) 4294967295)))) s
    have hlt := crcGo_lt (tab := tab) n (dcut 8 d off n) 4294967295 (by decide)
    generalize crcGo tab n (dcut 8 d off n) 4294967295 = z at hlt
    rw [exec_seq, exec_ops, ops_one (v := .int .u32 (.ofNat (Nat.sub 4294967295 z))) (s2 := s) (by
      show VR.ok (.int .u32 (wrap .u32 (isubNN 4294967295 z))) s = _
      unfold isubNN
      rw [show Nat.ble z 4294967295 = true from Nat.ble_eq_true_of_le (by omega)]
      show VR.ok (.int .u32 (wrapN .u32 (Nat.sub 4294967295 z))) s = _
      rw [wrapN_u .u32 rfl _ (by show 4294967295 - z < 4294967296; omega)])]
    rw [ops_one (v := .int .u32 (.ofNat (Nat.sub 4294967295 z))) (s2 := s) rfl]
    rfl
  have at_ : ∀ {t : Id} {b : AVal} {i : Id} {off n tab : Nat}, Bytes b i off n → s.at t = .ints .u32 256 tab → sumAt tab (s.at i) off n s = .ok av s' → ∃ k, callWith T (exec T k) f [.ptr t 0, b] s = .ok av s' := fun {t b i off n tab} hb ht h => by
    cases hi : s.at i <;> rw [hi] at h <;> first | (cases h; done) | skip
    rename_i k m d
    cases k <;> first | (cases h; done) | skip
    obtain ⟨h1, h2⟩ := ifv_ok (show ifv _ _ _ = _ from h)
    obtain ⟨h3, h4⟩ := band_split h1
    have h5 : off + n ≤ m := Nat.le_of_ble_eq_true h3
    obtain ⟨k, hk⟩ := key (d := d) hb (fun j hj => load_ints hi (by omega)) ht (Nat.le_of_ble_eq_true h4)
    exact ⟨k, hk.trans h2⟩
  unfold sumSum at h
  split at h
  · rename_i t b
    split at h
    · rename_i tab ht
      split at h
      · obtain ⟨k, hk⟩ := key (b := .nils) (i := t) (off := 0) (d := 0) (.nils t 0) (fun j hj => by omega) ht (by omega)
        exact ⟨k, hk.trans h⟩
      · exact at_ (.slice _ _ _ _) ht h
      · exact at_ (.slicu _ _ _ _ _) ht h
      · cases h
    · cases h
  · cases h
end
end Go.Cx

/-! ## What single functions come to at once: bytes that are not 0. -/
set_option linter.unusedVariables false
set_option linter.unusedSimpArgs false
namespace Go.Cx
noncomputable section
variable {s s' : St} {av v : AVal} {l : List AVal} {e : Env} {T : Tab} {call : CallT}

def lookFn : AFn :=
  ⟨.seq (.ops [⟨.move (.const (.bool false)), some q00, none⟩]) (.seq (.ops [⟨.binInt .neq (.env q01) (.const (.int .u8 (.ofNat 0))), none, none⟩, ⟨.move (.loc 0), some q00, none⟩]) .ret), [some q01], [.tmp q00]⟩
theorem look_fn {f x k : Nat} (hs : T.summ f = none) (hf : T.fn f = some lookFn) : callWith T (exec T (k + 5)) f [.int .u8 (.ofNat x)] s = .ok (.bool (bnot (Nat.beq x 0))) s := by
  unfold callWith
  rw [hs]
  show callTab (T.fn f) (exec T (k + 5)) f _ s = _
  rw [hf]
  rfl

def findBody : AC :=
  .seq (.ops [⟨.binInt .lss (.env q02) (.env q03), some q01, none⟩]) (.seq (.cond (.env q01) .skip (.exit 0))
    (.seq (.block 1 (.seq (.ops [⟨.move (.env q02), some q04, none⟩])
      (.seq (.ops [⟨.ixSl 1 (.env q07) (.env q04), none, none⟩, ⟨.load (.loc 0), none, none⟩, ⟨.callv (.env q06) [.loc 0], some q00, none⟩])
        (.cond (.env q00) (.seq (.ops [⟨.move (.env q04), some q05, none⟩]) .ret) .skip))))
      (.ops [⟨.binInt .add (.env q02) (.const (.int .i64 (.ofNat 1))), none, none⟩, ⟨.move (.loc 0), some q02, none⟩])))
def findCode : AC :=
  .seq (.ops [⟨.move (.const (.int .i64 (.ofNat 0))), some q05, none⟩])
    (.seq (.seq (.ops [⟨.len (.env q07), some q03, none⟩, ⟨.move (.const (.int .i64 (.ofNat 0))), some q02, none⟩]) (.block 0 (.loop findBody)))
      (.seq (.ops [⟨.move (.const (.int .i64 (.negSucc 0))), some q05, none⟩]) .ret))
def findFn : AFn := ⟨findCode, [some q07, some q06], [.tmp q05]⟩

section
variable {i : Id} {d off n look : Nat} {b : AVal} {j : Nat} {a0 a1 a4 a5 : AVal}
/-- A round. -/
theorem find_round (k : Nat) (hs : T.summ look = none) (hf : T.fn look = some lookFn) (hb : Bytes b i off n) (hi : ∀ j, j < n → xLoad (.ptr i (off + j)) s = .ok (.int .u8 (.ofNat (dcut 8 d (off + j) 1))) s) (hn : n ≤ 1099511627776) (hj : j < n) :
    exec T (k + 12) findBody (env9 a0 a1 (.int .i64 (.ofNat j)) (.int .i64 (.ofNat n)) a4 a5 (.func (.func look) [] []) b .bad) s =
      Bool.rec (motive := fun _ => Res) (.ret (env9 (.bool true) (.bool true) (.int .i64 (.ofNat j)) (.int .i64 (.ofNat n)) (.int .i64 (.ofNat j)) (.int .i64 (.ofNat j)) (.func (.func look) [] []) b .bad) s)
        (.norm (env9 (.bool false) (.bool true) (.int .i64 (.ofNat (j + 1))) (.int .i64 (.ofNat n)) (.int .i64 (.ofNat j)) a5 (.func (.func look) [] []) b .bad) s) (Nat.beq (dcut 8 d (off + j) 1) 0) := by
  unfold findBody
  rw [exec_seq, exec_ops, ops_one (v := .bool true) (s2 := s) (by
    show VR.ok (.bool (lt j n)) s = _
    rw [lt_true.2 hj])]
  show exec T (k + 11) (.seq (.cond (.env q01) .skip (.exit 0)) _) (env9 a0 (.bool true) _ _ _ _ _ _ _) s = _
  rw [exec_seq]
  show exec T (k + 10) (.seq (.block 1 _) _) (env9 a0 (.bool true) _ _ _ _ _ _ _) s = _
  rw [exec_seq, exec_block, exec_seq, exec_ops, ops_one (v := .int .i64 (.ofNat j)) (s2 := s) rfl]
  show seqK (blockK (exec T (k + 7) (.seq _ _) (env9 a0 (.bool true) (.int .i64 (.ofNat j)) (.int .i64 (.ofNat n)) (.int .i64 (.ofNat j)) a5 (.func (.func look) [] []) b .bad) s) 1) _ _ = _
  rw [exec_seq, exec_ops, ops_one (v := .ptr i (off + j)) (s2 := s) (by exact hb.ix hj), ops_one (v := .int .u8 (.ofNat (dcut 8 d (off + j) 1))) (s2 := s) (by exact hi j hj),
    ops_one (v := .bool (bnot (Nat.beq (dcut 8 d (off + j) 1) 0))) (s2 := s) (by exact look_fn (k := k) hs hf)]
  show seqK (blockK (exec T (k + 6) (.cond (.env q00) _ .skip) (env9 (.bool (bnot (Nat.beq (dcut 8 d (off + j) 1) 0))) (.bool true) (.int .i64 (.ofNat j)) (.int .i64 (.ofNat n)) (.int .i64 (.ofNat j)) a5 (.func (.func look) [] []) b .bad) s) 1) _ _ = _
  cases Nat.beq (dcut 8 d (off + j) 1) 0 with
  | false => rfl
  | true =>
    show exec T (k + 9) (.ops _) (env9 (.bool false) _ _ _ _ _ _ _ _) s = _
    rw [exec_ops, ops_one (v := .int .i64 (.ofNat (j + 1))) (s2 := s) (by
      show VR.ok (.int .i64 (wrap .i64 (.ofNat (j + 1)))) s = _
      rw [wrap_nat .i64 (j + 1) (by show j + 1 < 9223372036854775808; omega)])]
    rfl

/-- The loop. -/
theorem find_loop (hs : T.summ look = none) (hf : T.fn look = some lookFn) (hb : Bytes b i off n) (hi : ∀ j, j < n → xLoad (.ptr i (off + j)) s = .ok (.int .u8 (.ofNat (dcut 8 d (off + j) 1))) s) (hn : n ≤ 1099511627776) :
    ∀ (r j : Nat) (a0 a1 a4 : AVal) (k : Nat), j + r = n →
      (∃ q, findGo r (dcut 8 d off n / 256 ^ j) j = .ofNat q ∧ ∃ x y z w : AVal, exec T (k + r + 14) (.loop findBody) (env9 a0 a1 (.int .i64 (.ofNat j)) (.int .i64 (.ofNat n)) a4 a5 (.func (.func look) [] []) b .bad) s =
        .ret (env9 x y z (.int .i64 (.ofNat n)) w (.int .i64 (.ofNat q)) (.func (.func look) [] []) b .bad) s) ∨
      (findGo r (dcut 8 d off n / 256 ^ j) j = .negSucc 0 ∧ ∃ x y z w : AVal, exec T (k + r + 14) (.loop findBody) (env9 a0 a1 (.int .i64 (.ofNat j)) (.int .i64 (.ofNat n)) a4 a5 (.func (.func look) [] []) b .bad) s =
        .exit 0 (env9 x y z (.int .i64 (.ofNat n)) w a5 (.func (.func look) [] []) b .bad) s) := by
  intro r
  induction r with
  | zero =>
    intro j a0 a1 a4 k hj
    have : j = n := by omega
    subst this
    refine .inr ⟨rfl, a0, .bool false, .int .i64 (.ofNat j), a4, ?_⟩
    rw [exec_loop]
    unfold findBody
    rw [exec_seq, exec_ops, ops_one (v := .bool false) (s2 := s) (by
      show VR.ok (.bool (lt j j)) s = _
      rw [lt_false.2 (Nat.le_refl j)])]
    rfl
  | succ r ih =>
    intro j a0 a1 a4 k hj
    have hr := find_round (T := T) (a0 := a0) (a1 := a1) (a4 := a4) (a5 := a5) (k + r + 2) hs hf hb hi hn (show j < n by omega)
    have hby := byte_at (d := d) (off := off) (len := n) (j := j) (by omega)
    have hg : findGo (r + 1) (dcut 8 d off n / 256 ^ j) j = Bool.rec (motive := fun _ => Int) (.ofNat j) (findGo r (dcut 8 d off n / 256 ^ (j + 1)) (j + 1)) (Nat.beq (dcut 8 d (off + j) 1) 0) := by
      show Bool.rec (motive := fun _ => Int) (.ofNat j) (findGo r (Nat.div (dcut 8 d off n / 256 ^ j) 256) (Nat.succ j)) (Nat.beq (Nat.mod (dcut 8 d off n / 256 ^ j) 256) 0) = _
      rw [hby]
      have : Nat.div (dcut 8 d off n / 256 ^ j) 256 = dcut 8 d off n / 256 ^ (j + 1) := by
        show dcut 8 d off n / 256 ^ j / 256 = _
        rw [Nat.div_div_eq_div_mul, Nat.pow_succ]
      rw [this]
      rfl
    rw [exec_loop]
    show (∃ q, _ ∧ ∃ x y z w : AVal, seqK (exec T (k + (r + 1) + 13) findBody _ s) (.loop findBody) (exec T (k + (r + 1) + 13)) = _) ∨ (_ ∧ ∃ x y z w : AVal, seqK (exec T (k + (r + 1) + 13) findBody _ s) (.loop findBody) (exec T (k + (r + 1) + 13)) = _)
    rw [show k + (r + 1) + 13 = k + r + 2 + 12 by omega, hr, hg]
    cases Nat.beq (dcut 8 d (off + j) 1) 0 with
    | false => exact .inl ⟨j, rfl, _, _, _, _, rfl⟩
    | true =>
      have := ih (j + 1) (.bool false) (.bool true) (.int .i64 (.ofNat j)) k (by omega)
      rw [show k + r + 2 + 12 = k + r + 14 by omega]
      exact this
end
theorem findGo_zero : ∀ (n i : Nat), findGo n 0 i = .negSucc 0
  | 0, i => rfl
  | n + 1, i => by
    show findGo n (Nat.div 0 256) (Nat.succ i) = _
    rw [show Nat.div 0 256 = 0 from rfl]
    exact findGo_zero n _

/-- The whole function, in the abstract machine. -/
theorem find_fn {f look : Nat} (hs : T.summ f = none) (hf : T.fn f = some findFn) (hs2 : T.summ look = none) (hf2 : T.fn look = some lookFn) {args : List AVal} (h : sumFind look args s = .ok av s') : ∃ k, callWith T (exec T k) f args s = .ok av s' := by
  have key : ∀ {b : AVal} {i : Id} {off n d : Nat}, Bytes b i off n → (∀ j, j < n → xLoad (.ptr i (off + j)) s = .ok (.int .u8 (.ofNat (dcut 8 d (off + j) 1))) s) → n ≤ 1099511627776 →
      ∃ k, callWith T (exec T k) f [b, .func (.func look) [] []] s = findOf n (dcut 8 d off n) s := fun {b i off n d} hb hi hn => by
    refine ⟨n + 18, ?_⟩
    have hfo : findOf n (dcut 8 d off n) s = .ok (.int .i64 (findGo n (dcut 8 d off n) 0)) s := by
      unfold findOf
      cases hz : Nat.beq (dcut 8 d off n) 0 with
      | true => rw [Nat.eq_of_beq_eq_true hz, findGo_zero]
      | false => rfl
    rw [hfo]
    unfold callWith
    rw [hs]
    show callTab (T.fn f) (exec T (n + 18)) f [b, .func (.func look) [] []] s = _
    rw [hf]
    show callRes (exec T (n + 18) findCode (env9 .bad .bad .bad .bad .bad .bad (.func (.func look) [] []) b .bad) s) [.tmp q05] f = _
    unfold findCode
    rw [exec_seq, exec_ops, ops_one (v := .int .i64 (.ofNat 0)) (s2 := s) rfl]
    show callRes (exec T (n + 17) (.seq _ _) (env9 .bad .bad .bad .bad .bad (.int .i64 (.ofNat 0)) (.func (.func look) [] []) b .bad) s) [.tmp q05] f = _
    rw [exec_seq, exec_seq, exec_ops, ops_one (v := .int .i64 (.ofNat n)) (s2 := s) (by exact hb.len), ops_one (v := .int .i64 (.ofNat 0)) (s2 := s) rfl]
    show callRes (seqK (exec T (n + 15) (.block 0 (.loop findBody)) (env9 .bad .bad (.int .i64 (.ofNat 0)) (.int .i64 (.ofNat n)) .bad (.int .i64 (.ofNat 0)) (.func (.func look) [] []) b .bad) s) _ _) [.tmp q05] f = _
    rw [exec_block]
    have hl := find_loop (T := T) (a5 := .int .i64 (.ofNat 0)) hs2 hf2 hb hi hn n 0 .bad .bad .bad 0 (by omega)
    rw [show 0 + n + 14 = n + 14 by omega, show dcut 8 d off n / 256 ^ 0 = dcut 8 d off n by rw [Nat.pow_zero, Nat.div_one]] at hl
    rcases hl with ⟨q, h1, x, y, z, w, h2⟩ | ⟨h1, x, y, z, w, h2⟩
    · rw [h2, h1]; rfl
    · rw [h2, h1]; rfl
  have at_ : ∀ {b : AVal} {i : Id} {off n : Nat}, Bytes b i off n → findAt (s.at i) off n s = .ok av s' → ∃ k, callWith T (exec T k) f [b, .func (.func look) [] []] s = .ok av s' := fun {b i off n} hb h => by
    cases hi : s.at i <;> rw [hi] at h <;> first | (cases h; done) | skip
    rename_i k m d
    cases k <;> first | (cases h; done) | skip
    obtain ⟨h1, h2⟩ := ifv_ok (show ifv _ _ _ = _ from h)
    obtain ⟨h3, h4⟩ := band_split h1
    have h5 : off + n ≤ m := Nat.le_of_ble_eq_true h3
    obtain ⟨k, hk⟩ := key (d := d) hb (fun j hj => load_ints hi (by omega)) (Nat.le_of_ble_eq_true h4)
    exact ⟨k, hk.trans h2⟩
  unfold sumFind at h
  split at h
  · rename_i b k
    obtain ⟨h1, h2⟩ := ifv_ok h
    have := Nat.eq_of_beq_eq_true h1
    subst this
    split at h2
    · obtain ⟨k', hk⟩ := key (b := .nils) (i := s.n) (off := 0) (d := 0) (.nils _ 0) (fun j hj => by omega) (by omega)
      exact ⟨k', hk.trans h2⟩
    · exact at_ (.slice _ _ _ _) h2
    · exact at_ (.slicu _ _ _ _ _) h2
    · cases h2
  · cases h
end
end Go.Cx

/-! ## What single functions come to at once: quotients' bits. -/
set_option linter.unusedVariables false
set_option linter.unusedSimpArgs false
namespace Go.Cx
noncomputable section
variable {om : Nat → Value} {r : Rho} {P : Program} {s s' : St} {av v : AVal} {w w' : World} {Q : Exit → Act → World → Prop} {a : Act}

theorem wpOps_one {ops : Array Oper} {i : Nat} {rest : List Nat} {o : Oper} (ho : ops[i]? = some o) (hg : o.guard = none) (h : Does P (execOp a.eval o) w (fun x w' => wpOps P ops Q rest (a.put o.dst x) w')) : wpOps P ops Q (i :: rest) a w := by
  simp only [wpOps, ho]
  rw [if_pos (by simp [Region.wanted, hg])]
  exact .inl h.wp

/-- The shape of the function's body. -/
structure BitsBody (T F : TypeId) (g : FuncId) (c : Code) where
  p : Nat → String
  e : Nat → Array Edge
  ty : Nat → TypeId
  eq : c = .seq (.region 0 #[⟨some 4, .assign (.const (.int .u64 (.ofNat 0))), ty 0, p 0, e 0, none⟩] false)
    (.seq (.region 1 #[⟨some 6, .move (.tmp 0), ty 1, p 1, e 1, none⟩, ⟨some 7, .move (.tmp 1), ty 2, p 2, e 2, none⟩, ⟨some 8, .binOp .quo T (.tmp 6) (.tmp 7) T, ty 3, p 3, e 3, none⟩, ⟨some 5, .assign (.tmp 8), ty 4, p 4, e 4, none⟩] false)
      (.seq (.seq (.region 2 #[⟨some 9, .move (.tmp 5), ty 5, p 5, e 5, none⟩, ⟨some 10, .move (.tmp 5), ty 6, p 6, e 6, none⟩, ⟨some 11, .binOp .neq T (.tmp 9) (.tmp 10) T, ty 7, p 7, e 7, none⟩] false)
          (.cond (.tmp 11) (.seq (.region 3 #[⟨some 4, .assign (.const (.int .u64 (.ofNat 9221120237041090561))), ty 8, p 8, e 8, none⟩] false) .ret) .skip))
        (.seq (.region 4 #[⟨some 12, .move (.tmp 5), ty 9, p 9, e 9, none⟩, ⟨some 13, .call ⟨.value (.func g), #[.tmp 12], #[F]⟩, ty 10, p 10, e 10, none⟩, ⟨some 4, .assign (.tmp 13), ty 11, p 11, e 11, none⟩] false) .ret)))

theorem order_self (z : Nat) : FloatKind.f64.format.order z z = some .eq ∨ FloatKind.f64.format.order z z = none := by
  show (Ieee.double.read z).order (Ieee.double.read z) = _ ∨ (Ieee.double.read z).order (Ieee.double.read z) = _
  cases Ieee.double.read z with
  | nan s t => exact .inr rfl
  | infinity s => exact .inl (by simp [Ieee.Datum.order])
  | number s m i => exact .inl (by simp [Ieee.Datum.order])
theorem read_nan (f : Ieee.Format) (w : Nat) (h1 : ¬ w % f.signWeight < f.binade) (h2 : ¬ w % f.signWeight < f.infRung) (h3 : ¬ w % f.signWeight = f.infRung) : (f.read w).order (f.read w) = none := by
  unfold Ieee.Format.read
  simp only [if_neg h1, if_neg h2, if_neg h3]
  rfl
theorem nan_word (b q : Nat) (h1 : b < 2) (h2 : q < 4503599627370495) : (Ieee.double.read (b * 9223372036854775808 + 9218868437227405312 + 1 + q)).order (Ieee.double.read (b * 9223372036854775808 + 9218868437227405312 + 1 + q)) = none := by
  have hsw : Ieee.double.signWeight = 9223372036854775808 := by decide
  have hinf : Ieee.double.infRung = 9218868437227405312 := by decide
  have hbin : Ieee.double.binade = 4503599627370496 := by decide
  refine read_nan _ _ ?_ ?_ ?_
  · rw [hsw, hbin]; omega
  · rw [hsw, hinf]; omega
  · rw [hsw, hinf]; omega
theorem order_nan (x y t : Nat) : FloatKind.f64.format.order ((Question.nanBits .f64 x y).cut t) ((Question.nanBits .f64 x y).cut t) = none :=
  nan_word (t % 2) ((t / 2) % (2 ^ 52 - 1)) (Nat.mod_lt _ (by decide)) (Nat.mod_lt _ (by decide))

theorem bits_sound {f g : FuncId} {fn : Func} {T F : TypeId} {c : Code} (hf : P.funcs[f]? = some fn) (hbd : fn.body = some c) (B : BitsBody T F g c) (hn : fn.ntmps = 14) (hres : fn.results = #[.tmp 4]) (hname : fn.name ≠ "runtime.NumGoroutine")
    (hT : P.underlying T = some (.float .f64)) (hg : ∀ z w, (callFunc g #[.float .f64 z]).run P w = .ok (.value (.int .u64 z)) w) {args : List AVal} (h : sumBits args s = .ok av s') {xs : List Value} (sim : Sim om r s w) (hx : LRel om r args xs) :
    Does P (callFunc f xs.toArray) w (Comes' om r s w av s') := by
  unfold sumBits at h
  split at h
  case h_2 => cases h
  rename_i x y
  cases hx with | cons _ x1 _ _ h1 t1 =>
  cases h1
  cases t1 with | cons _ y1 _ _ h2 t2 =>
  cases h2
  cases t2
  have hrun : (callFunc f [Value.float .f64 x, .float .f64 y].toArray).run P w = .ok (.enter f #[.float .f64 x, .float .f64 y]) w := by
    simp [callFunc, go_sem, hf, hbd, hname]
  unfold Does
  rw [hrun]
  -- what the quotient is
  have hq : ∃ z w1, SameW w w1 ∧ (binOp .quo T (.float .f64 x) (.float .f64 y)).run P w = .ok (.float .f64 z) w1 ∧
      ((FloatKind.f64.format.order z z = some .eq ∧ FloatKind.f64.format.div x y = some z) ∨ (FloatKind.f64.format.order z z = none ∧ (FloatKind.f64.format.div x y = none ∨ FloatKind.f64.format.div x y = some z))) := by
    cases hd : FloatKind.f64.format.div x y with
    | some z =>
      refine ⟨z, w, ⟨rfl, rfl, rfl, rfl⟩, ?_, ?_⟩
      · simp [binOp, Op.floatArith, hd]
      · rcases order_self z with h | h
        · exact .inl ⟨h, rfl⟩
        · exact .inr ⟨h, .inr rfl⟩
    | none =>
      refine ⟨(Question.nanBits .f64 x y).cut (w.tape w.drawn (.nanBits .f64 x y)), { w with drawn := w.drawn + 1 }, ⟨rfl, rfl, rfl, rfl⟩, ?_, .inr ⟨order_nan _ _ _, .inl rfl⟩⟩
      simp [binOp, Op.floatArith, hd, choose, Sem.run, Question.forced]
  obtain ⟨z, w1, hsame, hrunq, hz⟩ := hq
  refine calls_of_wp hf hbd ?_
  rw [B.eq, hn]
  show (Code.seq _ _).wp P _ ⟨#[.float .f64 x, .float .f64 y, undef, undef, undef, undef, undef, undef, undef, undef, undef, undef, undef, undef], []⟩ w
  have hx0 : ∀ (u : Nat), s' = s ∧ av = .int .u64 (.ofNat u) → Comes' om r s w av s' (.int .u64 (.ofNat u)) w1 := fun u ⟨h1, h2⟩ => by
    subst h1 h2
    exact ⟨r, .int _ _, Post.same sim hsame⟩
  have fin : ∀ (tm : Array Value) (u : Nat), tm.getD 4 undef = .int .u64 (.ofNat u) → s' = s ∧ av = .int .u64 (.ofNat u) → bodyPost P fn (fun e w'' => ∃ x, e = .returned x ∧ Comes' om r s w av s' x w'') .ret ⟨tm, []⟩ w1 := fun tm u h1 h2 =>
    ⟨rfl, .int .u64 (.ofNat u), (by rw [Array.getD_eq_getD_getElem?] at h1; unfold results; rw [hres]; simp only [List.mapM_toArray, List.mapM_cons, List.mapM_nil]; simp; rw [h1]; rfl), _, rfl, hx0 u h2⟩
  refine wp_seq (wp_region (wpOps_one rfl rfl (.of_run (x := .int .u64 (.ofNat 0)) (w' := w) rfl ?_)))
  show (Code.seq _ _).wp P _ ⟨#[.float .f64 x, .float .f64 y, undef, undef, .int .u64 (.ofNat 0), undef, undef, undef, undef, undef, undef, undef, undef, undef], []⟩ w
  refine wp_seq (wp_region (wpOps_one rfl rfl (.of_run (x := .float .f64 x) (w' := w) rfl (wpOps_one rfl rfl (.of_run (x := .float .f64 y) (w' := w) rfl (wpOps_one rfl rfl (.of_run (x := .float .f64 z) (w' := w1) ?_ (wpOps_one rfl rfl (.of_run (x := .float .f64 z) (w' := w1) rfl ?_)))))))))
  · show (do pure (Next.value (← (do eqGuard .quo T (.tmp 6) (.tmp 7) (.float .f64 x) (.float .f64 y); binOp .quo T (.float .f64 x) (.float .f64 y)))) : Sem Next).run P w = _
    refine run_val ?_
    rw [Sem.run_bind, run_eqGuard_float, Result.andThen_ok]
    exact hrunq
  show (Code.seq _ _).wp P _ ⟨#[.float .f64 x, .float .f64 y, undef, undef, .int .u64 (.ofNat 0), .float .f64 z, .float .f64 x, .float .f64 y, .float .f64 z, undef, undef, undef, undef, undef], []⟩ w1
  refine wp_seq (wp_seq (wp_region (wpOps_one rfl rfl (.of_run (x := .float .f64 z) (w' := w1) rfl (wpOps_one rfl rfl (.of_run (x := .float .f64 z) (w' := w1) rfl (wpOps_one rfl rfl (.of_run (x := .bool (FloatKind.f64.format.order z z != some .eq)) (w' := w1) ?_ ?_))))))))
  · show (do pure (Next.value (← (do eqGuard .neq T (.tmp 9) (.tmp 10) (.float .f64 z) (.float .f64 z); binOp .neq T (.float .f64 z) (.float .f64 z)))) : Sem Next).run P w1 = _
    refine run_val ?_
    rw [Sem.run_bind, run_eqGuard_float, Result.andThen_ok]
    simp [binOp, Op.floatCmp]
  rcases hz with ⟨ho, hd⟩ | ⟨ho, hd⟩
  · rw [ho]
    show (Code.cond (.tmp 11) _ .skip).wp P _ ⟨#[.float .f64 x, .float .f64 y, undef, undef, .int .u64 (.ofNat 0), .float .f64 z, .float .f64 x, .float .f64 y, .float .f64 z, .float .f64 z, .float .f64 z, .bool false, undef, undef], []⟩ w1
    refine wp_cond_false rfl (wp_skip ?_)
    refine wp_seq (wp_region (wpOps_one rfl rfl (.of_run (x := .float .f64 z) (w' := w1) rfl (wpOps_one rfl rfl (.of_run (x := .int .u64 (.ofNat z)) (w' := w1) ?_ (wpOps_one rfl rfl (.of_run (x := .int .u64 (.ofNat z)) (w' := w1) rfl ?_)))))))
    · show (callFunc g (#[] ++ (#[Operand.tmp 12]).map _ ++ #[])).run P w1 = _
      have hmap : ∀ (ρ : Operand → Value), ρ (.tmp 12) = .float .f64 z → (#[] ++ (#[Operand.tmp 12]).map ρ ++ #[]) = #[.float .f64 z] := fun ρ h => by simp [h]
      exact Eq.trans (congrArg (fun q => (callFunc g q).run P w1) (hmap _ rfl)) (hg z w1)
    · refine wp_ret (fin _ z rfl ?_)
      rw [hd] at h
      simp only [ho] at h
      cases h
      exact ⟨rfl, rfl⟩
  · rw [ho]
    show (Code.cond (.tmp 11) _ .skip).wp P _ ⟨#[.float .f64 x, .float .f64 y, undef, undef, .int .u64 (.ofNat 0), .float .f64 z, .float .f64 x, .float .f64 y, .float .f64 z, .float .f64 z, .float .f64 z, .bool true, undef, undef], []⟩ w1
    refine wp_cond_true rfl (wp_seq (wp_region (wpOps_one rfl rfl (.of_run (x := .int .u64 (.ofNat 9221120237041090561)) (w' := w1) rfl ?_))))
    refine wp_ret (fin _ 9221120237041090561 rfl ?_)
    rcases hd with hd | hd
    · rw [hd] at h
      cases h
      exact ⟨rfl, rfl⟩
    · rw [hd] at h
      simp only [ho] at h
      cases h
      exact ⟨rfl, rfl⟩
end
end Go.Cx

/-! ## What single functions come to at once: the place of a byte in a string. -/
set_option linter.unusedVariables false
set_option linter.unusedSimpArgs false
namespace Go.Cx
noncomputable section
variable {om : Nat → Value} {r : Rho} {P : Program} {s s' : St} {av v : AVal} {w w' : World} {Q : Exit → Act → World → Prop} {a : Act}

theorem byte_dcut (d j : Nat) : dcut 8 d j 1 = d / 256 ^ j % 256 := by
  rw [dcut_eq]
  have h1 : (256 : Nat) ^ j = 2 ^ (8 * j) := by rw [Nat.pow_mul]
  rw [h1]
theorem idxGo_ok (n0 d0 c : Nat) (hc : c < 256) : ∀ (n j : Nat), j + n = n0 →
    idxGo c n (d0 / 256 ^ j) j = match (List.range' j n).find? (fun i => (mkS n0 d0)[i]! == UInt8.ofNat c) with | some i => .ofNat i | none => .negSucc 0
  | 0, j, h => rfl
  | n + 1, j, h => by
    have ih := idxGo_ok n0 d0 c hc n (j + 1) (by omega)
    obtain ⟨h1, h2⟩ := mkS_get n0 d0 j (by omega)
    have hg : (mkS n0 d0)[j]! = UInt8.ofNat (dcut 8 d0 j 1) := by
      rw [getElem!_def, h1]
    rw [List.range'_succ, List.find?_cons]
    show Bool.rec (motive := fun _ => Int) (idxGo c n (Nat.div (d0 / 256 ^ j) 256) (Nat.succ j)) (.ofNat j) (Nat.beq (Nat.mod (d0 / 256 ^ j) 256) c) = _
    have e1 : Nat.mod (d0 / 256 ^ j) 256 = dcut 8 d0 j 1 := (byte_dcut d0 j).symm
    have e2 : Nat.div (d0 / 256 ^ j) 256 = d0 / 256 ^ (j + 1) := by
      show d0 / 256 ^ j / 256 = _
      rw [Nat.div_div_eq_div_mul, Nat.pow_succ]
    rw [e1, e2]
    have hb : ((mkS n0 d0)[j]! == UInt8.ofNat c) = Nat.beq (dcut 8 d0 j 1) c := by
      rw [hg]
      cases hq : Nat.beq (dcut 8 d0 j 1) c with
      | true => rw [Nat.eq_of_beq_eq_true hq]; simp
      | false =>
        have hne : dcut 8 d0 j 1 ≠ c := fun e0 => by rw [e0, Nat.beq_refl] at hq; cases hq
        rw [beq_eq_false_iff_ne]
        intro e0
        apply hne
        have := congrArg UInt8.toNat e0
        simp at this
        omega
    rw [hb]
    cases Nat.beq (dcut 8 d0 j 1) c with
    | true => rfl
    | false => exact ih

theorem idx_sound {f : FuncId} {fn : Func} (hf : P.funcs[f]? = some fn) (hname : (fn.name == "runtime.NumGoroutine") = false) (hb : fn.body.isNone = true) (hn : Extern.findNext fn = none) (he : Extern.find fn = some Extern.BytealgIndexByte.indexByte)
    {args : List AVal} (h : sumIdx args s = .ok av s') {xs : List Value} (sim : Sim om r s w) (hx : LRel om r args xs) : Does P (callFunc f xs.toArray) w (Comes' om r s w av s') := by
  unfold sumIdx at h
  split at h
  case h_2 => cases h
  rename_i n d c
  obtain ⟨h1, h2⟩ := ifv_ok h
  have hc := lt_true.1 h1
  cases h2
  cases hx with | cons _ x1 _ _ h1 t1 =>
  cases h1
  cases t1 with | cons _ y1 _ _ h2 t2 =>
  cases h2
  cases t2
  refine .of_run (x := .int .i64 (idxGo c n d 0)) (w' := w) ?_ ⟨r, .int _ _, Post.refl sim⟩
  rw [run_callFunc_extern hf hname hb hn he]
  have hrun : (Extern.BytealgIndexByte.indexByte [Value.string (mkS n d), .int .u8 (.ofNat c)].toArray).run P w = .ok (.int .i64 (idxGo c n d 0)) w := by
    have := idxGo_ok n d c hc n 0 (by omega)
    rw [Nat.pow_zero, Nat.div_one] at this
    rw [this, ← List.range_eq_range']
    have hby : (Int.ofNat c).toNat.toUInt8 = UInt8.ofNat c := rfl
    show (do
      let b ← Extern.Bytes.bytesOf (.string (mkS n d))
      let c ← Extern.Bytes.asByte (.int .u8 (.ofNat c))
      match (List.range b.size).find? fun i => b[i]! == c with
      | some i => pure (goInt i)
      | none => pure (goInt (-1)) : Sem Value).run P w = _
    simp only [Extern.Bytes.bytesOf, Extern.Bytes.asByte, pure_bind, mkS_size, hby]
    cases (List.range n).find? (fun i => (mkS n d)[i]! == UInt8.ofNat c) with
    | none => rfl
    | some i => rfl
  rw [hrun]
  rfl
end
end Go.Cx
