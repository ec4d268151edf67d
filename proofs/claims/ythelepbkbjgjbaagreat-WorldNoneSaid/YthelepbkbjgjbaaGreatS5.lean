/-
  The abstract machine is sound: part 5.
-/
import Derived.Test.YthelepbkbjgjbaaGreatS4
set_option linter.unusedVariables false
set_option linter.unusedSimpArgs false
/-! ## Code: what it comes to, but for regions of open order and loops over maps. -/
set_option linter.unusedVariables false
set_option linter.unusedSimpArgs false
namespace Go.Cx
noncomputable section
variable {om : Nat → Value} {r : Rho} {w w' : World} {P : Program} {s s' : St} {av : AVal}
variable {l : List AVal} {e : Env} {T : Tab} {call : CallT} {L : List Nat}

theorem band_split {a b : Bool} (h : band a b = true) : a = true ∧ b = true := by rw [band_eq, Bool.and_eq_true] at h; exact h
theorem exists_least {p : Nat → Prop} (h : ∃ n, p n) : ∃ n, p n ∧ ∀ m, p m → n ≤ m := by
  obtain ⟨n, hn⟩ := h
  induction n using Nat.strongRecOn with
  | _ n ih =>
    by_cases hm : ∃ m, m < n ∧ p m
    · obtain ⟨m, h1, h2⟩ := hm
      exact ih m h1 h2
    · exact ⟨n, hn, fun m hp => Nat.le_of_not_lt fun hl => hm ⟨m, hl, hp⟩⟩
open Classical in
def leastOf (p : Nat → Prop) : Nat := if h : ∃ n, p n then (exists_least h).choose else 0
theorem leastOf_ok {p : Nat → Prop} (h : ∃ n, p n) : p (leastOf p) ∧ ∀ m, p m → leastOf p ≤ m := by
  unfold leastOf
  rw [dif_pos h]
  exact (exists_least h).choose_spec
/-- A loop whose rounds are counted downwards. -/
theorem wp_loopN {c : Code} {Q : Exit → Act → World → Prop} {a : Act} {w : World} (I : Nat → Act → World → Prop) {n : Nat} (h : I n a w)
    (round : ∀ n a w, I n a w → c.wp P (Exit.then (fun a' w' => ∃ m, m < n ∧ I m a' w') Q) a w) : (Code.loop c).wp P Q a w := by
  refine wp_loop (fun a w => ∃ n, I n a w) (fun a w => leastOf fun n => I n a w) ⟨n, h⟩ fun a w hI => ?_
  obtain ⟨h1, h2⟩ := leastOf_ok hI
  refine wp_mono (round _ a w h1) fun x a' w' hx => ?_
  cases x with
  | normal =>
    obtain ⟨m, h3, h4⟩ := hx
    exact ⟨⟨m, h4⟩, Nat.lt_of_le_of_lt ((leastOf_ok ⟨m, h4⟩).2 m h4) h3⟩
  | _ => exact hx

/-- Code does what the compiled one comes to. -/
def CodeOK (P : Program) (om : Nat → Value) (T : Tab) (n : Nat) : Prop :=
  ∀ (L : List Nat), L.length ≤ 64 → ∀ (U : Nat) (c : Code) (N : Nat) (e : Env) (s : St) (r : Rho) (w : World) (a : Act) (Q : Exit → Act → World → Prop), fits P N c = true → N ≤ a.tmps.size →
    Sim om r s w → EnvRel om r L e a.tmps → After om L r s w a Q (exec T n (cCode P U L c) e s) → c.wp P Q a w
def DrawSound (P : Program) (om : Nat → Value) (T : Tab) : Prop :=
  ∀ (call : CallT), CallOK P om call → ∀ (L : List Nat), L.length ≤ 64 → ∀ (ops : Array Oper) (id : Nat) (l : List DOp) (e : Env) (s : St) (r : Rho) (w : World) (a : Act) (Q : Exit → Act → World → Prop),
    cDrawn P L ops.toList = .draw l → drawFits P ops.toList = true → (∀ d, tb (wrOps ops.toList 0) d = true → d < a.tmps.size) → Sim om r s w → EnvRel om r L e a.tmps → After om L r s w a Q (runDraw T call l [] e s [s]) →
    (Code.region id ops true).wp P Q a w
def LoopSound (P : Program) (om : Nat → Value) (T : Tab) : Prop :=
  ∀ (n : Nat), CodeOK P om T n → ∀ (L : List Nat), L.length ≤ 64 → ∀ (U rid : Nat) (ops : Array Oper) (c id it d : Nat) (rest : Code) (N : Nat) (e : Env) (s : St) (r : Rho) (w : World) (a : Act) (Q : Exit → Act → World → Prop),
    isMapNext ops.toList = some (it, d, c) → has d L = false → has it L = true → tb (wrCode rest 0) it = false → tb (wrCode rest 0) c = false → fits P N rest = true → N ≤ a.tmps.size → (∀ d, tb (wrOps ops.toList 0) d = true → d < a.tmps.size) → Sim om r s w → EnvRel om r L e a.tmps →
    After om L r s w a Q (mloopVia (Env.get (slot L it) e) (exec T n) (cCode P U L rest) (slotsIn L (wrCode rest (setb 0 c)) L) id e s) →
    (Code.loop (.seq (.region rid ops false) (.seq (.cond (.tmp c) .skip (.exit id)) rest))).wp P Q a w

theorem cCode_loop (U : Nat) (b : Code) : cCode P U L (.loop b) = .loop (cCode P U L b) ∨
    ∃ rid ops draw c id rest it d c', b = .seq (.region rid ops draw) (.seq (.cond (.tmp c) .skip (.exit id)) rest) ∧ isMapNext ops.toList = some (it, d, c') ∧
      cCode P U L (.loop b) = if c = c' && bnot (has d L) && has it L && bnot draw then .mloop (.env (slot L it)) (slotsIn L (wrCode rest (setb 0 c)) L) id (cCode P U L rest) else .bad := by
  match b with
  | .seq (.region rid ops draw) (.seq (.cond (.tmp c) .skip (.exit id)) rest) =>
    cases hm : isMapNext ops.toList with
    | none => left; simp only [cCode, hm]
    | some x =>
      obtain ⟨it, d, c'⟩ := x
      right
      exact ⟨rid, ops, draw, c, id, rest, it, d, c', rfl, hm, by simp only [cCode, hm]⟩
  | b =>
    by_cases hb : ∃ rid ops draw c id rest, b = .seq (.region rid ops draw) (.seq (.cond (.tmp c) .skip (.exit id)) rest)
    · obtain ⟨rid, ops, draw, c, id, rest, rfl⟩ := hb
      cases hm : isMapNext ops.toList with
      | none => left; simp only [cCode, hm]
      | some x =>
        obtain ⟨it, d, c'⟩ := x
        right
        exact ⟨rid, ops, draw, c, id, rest, it, d, c', rfl, hm, by simp only [cCode, hm]⟩
    · left
      rw [cCode]
      intro rid ops draw c id rest h
      exact hb ⟨rid, ops, draw, c, id, rest, h⟩

theorem exec_succ (n : Nat) (c : AC) : exec T (n + 1) c e s = codeOf c T (exec T n) e s := rfl

theorem After.seq {b : AC} {ex : ExT} {Q : Exit → Act → World → Prop} {res : Res} {a : Act} {K : Act → World → Prop} (h : After om L r s w a Q (seqK res b ex))
    (hk : ∀ e1 s1 r1 w1 a1, Post om r s w r1 s1 w1 → EnvRel om r1 L e1 a1.tmps → a1.tmps.size = a.tmps.size → a1.defers = a.defers → After om L r1 s1 w1 a1 Q (ex b e1 s1) → K a1 w1) :
    After om L r s w a (Exit.then K Q) res := by
  cases res with
  | norm e1 s1 =>
    intro r1 w1 a1 h1 h2 h3 h4
    exact hk e1 s1 r1 w1 a1 h1 h2 h3 h4 (After.step h h1 h3 h4)
  | exit i e1 s1 => exact h
  | ret e1 s1 => exact h
  | fail w => exact h

theorem wp_of_ops {ops : Array Oper} {id : Nat} {Q : Exit → Act → World → Prop} {a : Act} (hL : L.length ≤ 64) (hc : CallOK P om call) (hm : MethOK P T) (hsz : ∀ d, tb (wrOps ops.toList 0) d = true → d < a.tmps.size)
    (sim : Sim om r s w) (he : EnvRel om r L e a.tmps) (h : After om L r s w a Q (runOps T call (cRegion P L ops.toList) [] e s)) : (Code.region id ops false).wp P Q a w := by
  refine wp_region ?_
  have := runOps_ok hL hc hm (ops := ops) (wr := wrOps ops.toList 0) (Q := Q) (fun o ho d hd => wrOps_mem _ _ o ho d hd) ops.toList [] 0 [] [] e s r w a (by simp)
    ⟨rfl, he, fun t p hp => (by cases hp), hsz⟩ sim h
  rw [List.length_nil, ← List.range_eq_range', Array.length_toList] at this
  exact this

/-- The slots of a function's code. -/
theorem CodeOK.step (hm : MethOK P T) (hd : DrawSound P om T) (hl : LoopSound P om T) {n : Nat} (hc : CallOK P om (callWith T (exec T n))) (ih : ∀ m, m ≤ n → CodeOK P om T m) : CodeOK P om T (n + 1) := by
  intro L hL U c N e s r w a Q hf hN sim he h
  have size : ∀ {ops : Array Oper}, Nat.ble (Nat.succ (wrOps ops.toList 0)) (Nat.pow 2 N) = true → ∀ d, tb (wrOps ops.toList 0) d = true → d < a.tmps.size := fun hb d hd => Nat.lt_of_lt_of_le (fits_bit hb hd) hN
  have loop : ∀ b, fits P N b = true → After om L r s w a Q (exec T (n + 1) (.loop (cCode P U L b)) e s) → (Code.loop b).wp P Q a w := fun b hf h => by
    refine wp_loopN (fun m a1 w1 => m ≤ n + 1 ∧ N ≤ a1.tmps.size ∧ ∃ r1 s1 e1, Sim om r1 s1 w1 ∧ EnvRel om r1 L e1 a1.tmps ∧ After om L r1 s1 w1 a1 Q (exec T m (.loop (cCode P U L b)) e1 s1)) (n := n + 1)
      ⟨Nat.le_refl _, hN, r, s, e, sim, he, h⟩ ?_
    rintro m a1 w1 ⟨hmn, hN1, r1, s1, e1, sim1, he1, h1⟩
    cases m with
    | zero => exact h1.elim
    | succ m =>
      refine ih m (by omega) L hL U b N e1 s1 r1 w1 a1 _ hf hN1 sim1 he1 (After.seq (b := .loop (cCode P U L b)) (ex := exec T m) h1 ?_)
      intro e2 s2 r2 w2 a2 hp2 he2 hs2 hd2 h2
      exact ⟨m, Nat.lt_succ_self m, by omega, by omega, r2, s2, e2, hp2.sim, he2, h2⟩
  cases c with
  | skip => exact wp_skip (h r w a (Post.refl sim) he rfl rfl)
  | ret => exact wp_ret (h r w a (Post.refl sim) he rfl rfl)
  | exit id => exact wp_exit (h r w a (Post.refl sim) he rfl rfl)
  | region id ops draw =>
    cases draw with
    | false => exact wp_of_ops hL hc hm (size (band_split hf).1) sim he h
    | true =>
      replace h : After om L r s w a Q (exec T (n + 1) (cDrawn P L ops.toList) e s) := h
      cases hcd : cDrawn P L ops.toList with
      | draw l =>
        rw [hcd] at h
        exact hd _ hc L hL ops id l e s r w a Q hcd (band_split hf).2 (size (band_split hf).1) sim he h
      | _ =>
        have hx := hcd
        unfold cDrawn at hx
        cases hall : allOk (infos P ops.toList (masksGo ops.toList 0 []).reverse 0) with
        | true => rw [hall] at hx; cases hx
        | false =>
          have : cDrawn P L ops.toList = .bad := by unfold cDrawn; rw [hall]
          rw [this] at h
          exact h.elim
  | seq x y =>
    have hf' : band (fits P N x) (fits P N y) = true := hf
    rw [band_eq, Bool.and_eq_true] at hf'
    refine wp_seq (ih n (Nat.le_refl n) L hL U x N e s r w a _ hf'.1 hN sim he (After.seq (b := cCode P U L y) (ex := exec T n) h ?_))
    intro e1 s1 r1 w1 a1 hp he1 hs1 hd1 h1
    exact ih n (Nat.le_refl n) L hL U y N e1 s1 r1 w1 a1 Q hf'.2 (by omega) hp.sim he1 h1
  | cond x y z =>
    have hf' : band (fits P N y) (fits P N z) = true := hf
    rw [band_eq, Bool.and_eq_true] at hf'
    have reg : Reg om r L 0 0 [] [] e a.tmps := ⟨rfl, he, fun t p hp => (by cases hp), fun d hd => by rw [tb_eq] at hd; simp at hd⟩
    have hx := reg.opd x
    replace h : After om L r s w a Q (condVia (ev ((posOf L [] x).opd 0) [] e) (exec T n) (cCode P U L y) (cCode P U L z) e s) := h
    generalize ev ((posOf L [] x).opd 0) [] e = v at hx h
    cases v <;> first | exact h.elim | skip
    rename_i t
    generalize hq : a.eval x = q at hx
    cases hx
    cases t with
    | true => exact wp_cond_true hq (ih n (Nat.le_refl n) L hL U y N e s r w a Q hf'.1 hN sim he h)
    | false => exact wp_cond_false hq (ih n (Nat.le_refl n) L hL U z N e s r w a Q hf'.2 hN sim he h)
  | block id b =>
    refine wp_block (ih n (Nat.le_refl n) L hL U b N e s r w a _ hf hN sim he ?_)
    replace h : After om L r s w a Q (blockK (exec T n (cCode P U L b) e s) id) := h
    cases hr : exec T n (cCode P U L b) e s with
    | norm e1 s1 => rw [hr] at h; exact h
    | ret e1 s1 => rw [hr] at h; exact h
    | fail w => rw [hr] at h; exact h
    | exit i e1 s1 =>
      rw [hr] at h
      replace h : After om L r s w a Q (Bool.rec (motive := fun _ => Nat → Env → St → Res) .exit (fun _ => .norm) (Nat.beq i id) i e1 s1) := h
      intro r1 w1 a1 h1 h2 h3 h4
      show if i = id then Q .normal a1 w1 else Q (.exit i) a1 w1
      cases hb : Nat.beq i id with
      | true => rw [hb] at h; rw [if_pos (Nat.eq_of_beq_eq_true hb)]; exact h r1 w1 a1 h1 h2 h3 h4
      | false => rw [hb] at h; rw [if_neg (fun e0 => by rw [e0, Nat.beq_refl] at hb; cases hb)]; exact h r1 w1 a1 h1 h2 h3 h4
  | loop b =>
    rcases cCode_loop (P := P) (L := L) U b with hc1 | ⟨rid, ops, draw, c, id, rest, it, d, c', hb, hm1, hc1⟩
    · rw [hc1] at h
      replace hf : band (loopFits b) (fits P N b) = true := hf
      rw [band_eq, Bool.and_eq_true] at hf
      exact loop b hf.2 h
    · rw [hc1] at h
      split at h
      · rename_i hcond
        simp only [Bool.and_eq_true, decide_eq_true_eq] at hcond
        obtain ⟨⟨⟨h1, h2⟩, h3⟩, h4⟩ := hcond
        subst h1
        subst hb
        have hdr : draw = false := by cases draw <;> first | rfl | cases h4
        subst hdr
        have hd' : has d L = false := by cases hq : has d L <;> first | rfl | (rw [hq] at h2; cases h2)
        replace hf : band (loopFits (.seq (.region rid ops false) (.seq (.cond (.tmp c) .skip (.exit id)) rest))) (band (fits P N (.region rid ops false)) (band (band true true) (fits P N rest))) = true := hf
        rw [band_eq, band_eq, band_eq, Bool.and_eq_true, Bool.and_eq_true, Bool.and_eq_true] at hf
        have hlf := hf.1
        simp only [loopFits, hm1, band_eq, Bool.and_eq_true] at hlf
        have nb : ∀ b : Bool, bnot b = true → b = false := fun b h => by cases b <;> first | rfl | cases h
        exact hl n (ih n (Nat.le_refl n)) L hL U rid ops c id it d rest N e s r w a Q hm1 hd' h3 (nb _ hlf.1) (nb _ hlf.2) hf.2.2.2 hN (size (band_split hf.2.1).1) sim he h
      · exact h.elim
  | _ => exact h.elim

/-- The functions of a table. -/
structure TabOK (P : Program) (om : Nat → Value) (T : Tab) : Prop where
  meth : MethOK P T
  fn : ∀ f x, T.fn f = some x → cFnC P f = some x
  summ : ∀ f g, T.summ f = some g → ∀ args s v s', g args s = .ok v s' → ∀ r w xs, Sim om r s w → LRel om r args xs → Does P (callFunc f xs.toArray) w (Comes' om r s w v s')

theorem LRel.length {args : List AVal} {xs : List Value} (h : LRel om r args xs) : args.length = xs.length := by
  induction args generalizing xs with
  | nil => cases h; rfl
  | cons v l ih => cases h with | cons _ _ _ _ _ t => rw [List.length_cons, List.length_cons, ih t]

theorem CallOK.of (ht : TabOK P om T) {n : Nat} (ih : CodeOK P om T n) : CallOK P om (callWith T (exec T n)) := by
  intro f args s v s' h r w xs sim hx
  unfold callWith at h
  cases hs : T.summ f with
  | some g => rw [hs] at h; exact ht.summ f g hs args s v s' h r w xs sim hx
  | none =>
    rw [hs] at h
    replace h : callTab (T.fn f) (exec T n) f args s = .ok v s' := h
    cases hfn : T.fn f with
    | none => rw [hfn] at h; cases h
    | some x =>
      rw [hfn] at h
      have hx2 := ht.fn f x hfn
      unfold cFnC at hx2
      rw [nthF_eq] at hx2
      cases hf : P.funcs.toList[f]? with
      | none => rw [hf] at hx2; cases hx2
      | some fn =>
        rw [hf] at hx2
        simp only at hx2
        cases hb : fn.body with
        | none => rw [hb] at hx2; cases hx2
        | some c =>
          rw [hb] at hx2
          simp only at hx2
          have hf' : P.funcs[f]? = some fn := by rw [← Array.getElem?_toList]; exact hf
          cases hq : band (fits P fn.ntmps c) (band (resKn P fn.results.toList) (fn.name != "runtime.NumGoroutine")) with
          | false => rw [hq] at hx2; cases hx2
          | true =>
            rw [hq] at hx2
            rw [band_eq, band_eq, Bool.and_eq_true, Bool.and_eq_true] at hq
            obtain ⟨q1, q2, q3⟩ := hq
            have hname : (fn.name == "runtime.NumGoroutine") = false := by
              cases hh : fn.name == "runtime.NumGoroutine" with
              | false => rfl
              | true => rw [bne, hh] at q3; cases q3
            simp only [cFnWith, Option.some.injEq] at hx2
            subst hx2
            generalize hU : useCode c (useRes fn.results.toList 0) = U at h
            have hL := bitsOf_len U
            generalize hLL : bitsOf U = L at h hL
            have hrun : (callFunc f xs.toArray).run P w = .ok (.enter f xs.toArray) w := by
              have hname' : ¬ fn.name = "runtime.NumGoroutine" := by simpa using hname
              simp [callFunc, go_sem, hf', hb, hname']
            unfold Does
            rw [hrun]
            refine calls_of_wp hf' hb ?_
            replace h : callRes (exec T n (cCode P U L c) (setParams (cParams L (fn.params.size + fn.nfree) 0) args emptyEnv) s) (fn.results.toList.map (cRes P L)) f = .ok v s' := h
            have hlen := hx.length
            refine ih L hL U c fn.ntmps (setParams (cParams L (fn.params.size + fn.nfree) 0) args emptyEnv) s r w _ _ q1 ?_ sim ?_ ?_
            · show fn.ntmps ≤ (xs.toArray ++ Array.replicate (fn.ntmps - xs.toArray.size) undef).size
              simp
              omega
            · refine setParams_ok hL _ 0 args xs emptyEnv hx (fun t _ => by rw [emptyEnv_get]; exact .bad _) fun j x hj => ?_
              show (xs.toArray ++ Array.replicate (fn.ntmps - xs.toArray.size) undef).getD (0 + j) undef = x
              have hjl : j < xs.length := by
                rcases Nat.lt_or_ge j xs.length with h | h
                · exact h
                · rw [List.getElem?_eq_none h] at hj; cases hj
              rw [Array.getD_eq_getD_getElem?, Nat.zero_add, Array.getElem?_append_left (by simpa using hjl)]
              simp [hj]
            · generalize exec T n (cCode P U L c) (setParams (cParams L (fn.params.size + fn.nfree) 0) args emptyEnv) s = res at h
              cases res with
              | norm e1 s1 =>
                intro r1 w1 a1 hp he hsz hdf
                obtain ⟨rfl, y, h1, h2⟩ := callEnd_ok he hp.sim.sw q2 (show callEnd e1 s1 (fn.results.toList.map (cRes P L)) f = .ok v s' from h)
                exact ⟨hdf, y, h1, y, rfl, r1, h2, hp⟩
              | ret e1 s1 =>
                intro r1 w1 a1 hp he hsz hdf
                obtain ⟨rfl, y, h1, h2⟩ := callEnd_ok he hp.sim.sw q2 (show callEnd e1 s1 (fn.results.toList.map (cRes P L)) f = .ok v s' from h)
                exact ⟨hdf, y, h1, y, rfl, r1, h2, hp⟩
              | exit i e1 s1 => cases h
              | fail w => cases h

/-- All code, all functions. -/
theorem all_sound (ht : TabOK P om T) (hd : DrawSound P om T) (hl : LoopSound P om T) : ∀ n, CodeOK P om T n := by
  intro n
  induction n using Nat.strongRecOn with
  | _ n ih =>
    cases n with
    | zero => intro L hL U c N e s r w a Q hf hN sim he h; exact h.elim
    | succ n => exact .step ht.meth hd hl (.of ht (ih n (Nat.lt_succ_self n))) fun m hm => ih m (by omega)
theorem calls_sound (ht : TabOK P om T) (hd : DrawSound P om T) (hl : LoopSound P om T) (n : Nat) : CallOK P om (callWith T (exec T n)) := .of ht (all_sound ht hd hl n)
end
end Go.Cx

/-! ## Slots that a piece of code does not write stay as they are. -/
set_option linter.unusedVariables false
set_option linter.unusedSimpArgs false
namespace Go.Cx
noncomputable section
variable {om : Nat → Value} {r : Rho} {w w' : World} {P : Program} {s s' : St} {av : AVal}
variable {l : List AVal} {e : Env} {T : Tab} {call : CallT} {L : List Nat}

/-- The slots that are not in a mask are the same. -/
def Fr (L : List Nat) (m : Nat) (e e' : Env) : Prop := ∀ t, has t L = true → tb m t = false → Env.get (slot L t) e' = Env.get (slot L t) e
def ResFr (L : List Nat) (m : Nat) (e : Env) : Res → Prop
  | .norm e' _ => Fr L m e e'
  | .exit _ e' _ => Fr L m e e'
  | .ret e' _ => Fr L m e e'
  | .fail _ => True
theorem Fr.refl (m : Nat) (e : Env) : Fr L m e e := fun _ _ _ => rfl
theorem Fr.trans {m : Nat} {a b c : Env} (h : Fr L m a b) (h' : Fr L m b c) : Fr L m a c := fun t h1 h2 => (h' t h1 h2).trans (h t h1 h2)
theorem ResFr.trans {m : Nat} {a b : Env} {res : Res} (h : Fr L m a b) (h' : ResFr L m b res) : ResFr L m a res := by
  cases res with
  | fail w => trivial
  | _ => exact Fr.trans h h'
theorem Fr.mono {m m' : Nat} {a b : Env} (h : Fr L m a b) (hm : ∀ t, tb m' t = false → tb m t = false) : Fr L m' a b := fun t h1 h2 => h t h1 (hm t h2)
theorem ResFr.mono {m m' : Nat} {a : Env} {res : Res} (h : ResFr L m a res) (hm : ∀ t, tb m' t = false → tb m t = false) : ResFr L m' a res := by
  cases res with
  | fail w => trivial
  | _ => exact Fr.mono h hm
theorem Fr.put (hL : L.length ≤ 64) {m : Nat} {d : Option Nat} {v : AVal} (hd : ∀ d', d = some d' → tb m d' = true) : Fr L m e (putD (cDst L d) v e) := by
  intro t ht hm
  cases d with
  | none => rfl
  | some d =>
    rw [cDst_eq]
    split
    · rename_i hdl
      show Env.get (slot L t) (Env.set (slot L d) v e) = _
      exact Env.get_set_ne (fun e0 => by have := slot_inj hL ht hdl e0; subst this; rw [hd _ rfl] at hm; cases hm) _ _
    · rfl

theorem runOp_cases {o : AOp} {ih : List AVal → Env → St → Res} {R : Res → Prop} (hf : ∀ w, R (.fail w)) (h : ∀ v s', R (ih (v :: l) (putD o.dst v e) s')) : R (runOp T call o ih l e s) := by
  obtain ⟨op, dst, g⟩ := o
  have st : R (stepOp T call op dst ih l e s) := by
    rw [stepOp_eq]
    cases opOf op T call l e s with
    | ok v s' => exact h v s'
    | fail w => exact hf w
  have nt : R (stepNotA T call op dst ih l e s) := by
    unfold stepNotA
    rw [stepK_eq]
    exact h unit s
  cases g with
  | none => exact st
  | some g =>
    show R (guarded (ev g.1 l e) g.2 T call op dst ih l e s)
    generalize ev g.1 l e = v
    cases v <;> first | exact hf _ | exact nt | skip
    rename_i b
    show R (Bool.rec (motive := fun _ => Tab → CallT → AO → Option P2 → (List AVal → Env → St → Res) → List AVal → Env → St → Res) stepNotA stepOp (beqB b g.2) T call op dst ih l e s)
    cases beqB b g.2 with
    | true => exact st
    | false => exact nt

theorem runOps_fr (hL : L.length ≤ 64) {wr m : Nat} {all : List Oper} : ∀ (rest : List Oper), (∀ o ∈ rest, ∀ d, o.dst = some d → tb m d = true) → ∀ (n : Nat) (known : List (Nat × Pos)) (vs : List AVal) (e : Env) (s : St),
    ResFr L m e (runOps T call (cOps P L wr all rest n known) vs e s)
  | [], _, n, known, vs, e, s => Fr.refl _ _
  | o :: rest, hm, n, known, vs, e, s => by
    rw [cOps_cons]
    have hm' := fun p hp => hm p (List.mem_cons_of_mem o hp)
    cases aliasOf L wr known o with
    | some x => exact runOps_fr hL rest hm' n _ vs e s
    | none =>
      simp only [runOps_cons]
      refine runOp_cases (fun w => trivial) fun v s' => ?_
      exact .trans (Fr.put hL (hm o (List.mem_cons_self ..))) (runOps_fr hL rest hm' _ _ _ _ s')

theorem dPut_eq {dst : Option P2} {v : AVal} {snaps : List St} {ih : DrawK} : dPut dst v s snaps ih l e = ih (v :: l) (putD dst v e) s snaps := by
  cases dst <;> rfl
theorem dOp_cases {o : DOp} {ih : DrawK} {snaps : List St} {R : Res → Prop} (hf : ∀ w, R (.fail w)) (h : ∀ v s' sn, R (ih (v :: l) (putD o.op.dst v e) s' sn)) : R (dOp o T call ih l e s snaps) := by
  obtain ⟨⟨op, dst, g⟩, k⟩ := o
  have pure : R (dPure T call op dst ih l e s snaps) := by
    show R (VR.rec (motive := fun _ => Res) (fun v _ => dPut dst v s snaps ih l e) .fail (opOf op T call l e s))
    cases opOf op T call l e s with
    | ok v s' => show R (dPut dst v s snaps ih l e); rw [dPut_eq]; exact h v s snaps
    | fail w => exact hf w
  have alloc : R (dAlloc T call op dst ih l e s snaps) := by
    show R (VR.rec (motive := fun _ => Res) (fun v s' => Bool.rec (motive := fun _ => Res) (.fail 182) (dPut dst v s' snaps ih l e) (Nat.beq s'.n.num (Nat.succ s.n.num))) .fail (opOf op T call l e s))
    cases opOf op T call l e s with
    | ok v s' =>
      show R (Bool.rec (motive := fun _ => Res) (.fail 182) (dPut dst v s' snaps ih l e) (Nat.beq s'.n.num (Nat.succ s.n.num)))
      cases Nat.beq s'.n.num (Nat.succ s.n.num) with
      | false => exact hf _
      | true => show R (dPut dst v s' snaps ih l e); rw [dPut_eq]; exact h v s' snaps
    | fail w => exact hf w
  have doit : R (dDo k T call op dst ih l e s snaps) := by
    cases k with
    | pure => exact pure
    | alloc => exact alloc
    | eff =>
      show R (VR.rec (motive := fun _ => Res) (fun v s' => Bool.rec (motive := fun _ => Res) (.fail 183) (dPut dst v s' (s' :: snaps) ih l e) (Nat.ble s.n.num s'.n.num)) .fail (opOf op T call l e s))
      cases opOf op T call l e s with
      | ok v s' =>
        show R (Bool.rec (motive := fun _ => Res) (.fail 183) (dPut dst v s' (s' :: snaps) ih l e) (Nat.ble s.n.num s'.n.num))
        cases Nat.ble s.n.num s'.n.num with
        | false => exact hf _
        | true => show R (dPut dst v s' (s' :: snaps) ih l e); rw [dPut_eq]; exact h v s' _
      | fail w => exact hf w
    | read n =>
      show R (dRead n T call op dst ih l e s snaps)
      cases snaps with
      | nil => exact hf _
      | cons s0 sn =>
        show R (match opOf op T call l e s0 with
          | .ok v _ => Bool.rec (motive := fun _ => Res) (.fail 181) (dPut dst v s (s0 :: sn) ih l e) (sameIn T call op l e v n sn)
          | .fail w => .fail w)
        cases opOf op T call l e s0 with
        | ok v s' =>
          show R (Bool.rec (motive := fun _ => Res) (.fail 181) (dPut dst v s (s0 :: sn) ih l e) (sameIn T call op l e v n sn))
          cases sameIn T call op l e v n sn with
          | false => exact hf _
          | true => show R (dPut dst v s (s0 :: sn) ih l e); rw [dPut_eq]; exact h v s _
        | fail w => exact hf _
  cases g with
  | none => exact doit
  | some g =>
    have nt : R (dPut dst unit s snaps ih l e) := by rw [dPut_eq]; exact h unit s _
    show R (dGuard (ev g.1 l e) g.2 k T call op dst ih l e s snaps)
    generalize ev g.1 l e = v
    cases v <;> first | exact hf _ | exact nt | skip
    rename_i b
    show R (Bool.rec (motive := fun _ => DK → Tab → CallT → AO → Option P2 → DrawK → List AVal → Env → St → List St → Res) dNot dDo (beqB b g.2) k T call op dst ih l e s snaps)
    cases beqB b g.2 with
    | true => exact doit
    | false =>
      exact nt

theorem runDraw_fr (hL : L.length ≤ 64) {m : Nat} : ∀ (ops : List DOp), (∀ o ∈ ops, ∃ d, o.op.dst = cDst L d ∧ ∀ d', d = some d' → tb m d' = true) → ∀ (vs : List AVal) (e : Env) (s : St) (snaps : List St),
    ResFr L m e (runDraw T call ops vs e s snaps)
  | [], _, vs, e, s, snaps => Fr.refl _ _
  | o :: rest, hm, vs, e, s, snaps => by
    show ResFr L m e (dOp o T call (runDraw T call rest) vs e s snaps)
    obtain ⟨d, h1, h2⟩ := hm o (List.mem_cons_self ..)
    refine dOp_cases (fun w => trivial) fun v s' sn => ?_
    rw [h1]
    exact .trans (Fr.put hL h2) (runDraw_fr hL rest (fun p hp => hm p (List.mem_cons_of_mem o hp)) _ _ _ _)

/-! ### Orders hold operations of their region -/
theorem pickIn_mem {x : DI} {m done : Nat} : ∀ {l : List DI}, x ∈ pickIn l m done → x ∈ l
  | [], h => by cases h
  | y :: l, h => by
    replace h : x ∈ Bool.rec (motive := fun _ => List DI) (pickIn l m done) (y :: pickIn l m done) (band (tb m y.i) (bnot (tb done y.i))) := h
    cases hb : band (tb m y.i) (bnot (tb done y.i)) with
    | false => rw [hb] at h; exact List.mem_cons_of_mem _ (pickIn_mem h)
    | true =>
      rw [hb] at h
      rcases List.mem_cons.1 h with h | h
      · subst h; exact List.mem_cons_self ..
      · exact List.mem_cons_of_mem _ (pickIn_mem h)
theorem pickRest_mem {x : DI} {done : Nat} : ∀ {l : List DI}, x ∈ pickRest l done → x ∈ l
  | [], h => by cases h
  | y :: l, h => by
    replace h : x ∈ Bool.rec (motive := fun _ => List DI) (y :: pickRest l done) (pickRest l done) (tb done y.i) := h
    cases hb : tb done y.i with
    | true => rw [hb] at h; exact List.mem_cons_of_mem _ (pickRest_mem h)
    | false =>
      rw [hb] at h
      rcases List.mem_cons.1 h with h | h
      · subst h; exact List.mem_cons_self ..
      · exact List.mem_cons_of_mem _ (pickRest_mem h)
theorem orderGo_mem {x : DI} {all : List DI} : ∀ {l : List DI} {done : Nat}, (∀ y ∈ l, y ∈ all) → x ∈ orderGo all l done → x ∈ all
  | [], done, hl, h => pickRest_mem h
  | y :: l, done, hl, h => by
    have hl' := fun z hz => hl z (List.mem_cons_of_mem y hz)
    replace h : x ∈ Bool.rec (motive := fun _ => List DI) (orderGo all l done) (pickIn all y.mask done ++ y :: orderGo all l (setb (Nat.lor done y.mask) y.i)) (Nat.beq y.kind 3) := h
    cases hb : Nat.beq y.kind 3 with
    | false => rw [hb] at h; exact orderGo_mem hl' h
    | true =>
      rw [hb] at h
      rcases List.mem_append.1 h with h | h
      · exact pickIn_mem h
      · rcases List.mem_cons.1 h with h | h
        · subst h; exact hl _ (List.mem_cons_self ..)
        · exact orderGo_mem hl' h
theorem infos_mem {x : DI} : ∀ {l : List Oper} {ms : List Nat} {n : Nat}, x ∈ infos P l ms n → x.o ∈ l
  | [], ms, n, h => by cases h
  | o :: l, ms, n, h => by
    replace h : x ∈ ⟨o, n, nthN ms 0, opKind P o.op⟩ :: infos P l (tailN ms) (Nat.succ n) := h
    rcases List.mem_cons.1 h with h | h
    · subst h; exact List.mem_cons_self ..
    · exact List.mem_cons_of_mem _ (infos_mem h)
theorem cDraw_mem {ops : List Oper} {all : List DI} {x : DOp} : ∀ {l : List DI} {n eff : Nat} {known : List (Nat × Pos)}, x ∈ cDraw P L ops all l n eff known → ∃ y ∈ l, x.op.dst = cDst L y.o.dst
  | [], n, eff, known, h => by cases h
  | y :: l, n, eff, known, h => by
    rcases List.mem_cons.1 h with h | h
    · exact ⟨y, List.mem_cons_self .., by rw [h]; rfl⟩
    · obtain ⟨z, h1, h2⟩ := cDraw_mem h
      exact ⟨z, List.mem_cons_of_mem _ h1, h2⟩
theorem cDrawn_mem {ops : List Oper} {l : List DOp} (h : cDrawn P L ops = .draw l) : ∀ x ∈ l, ∃ o ∈ ops, x.op.dst = cDst L o.dst := by
  intro x hx
  unfold cDrawn at h
  cases hall : allOk (infos P ops (masksGo ops 0 []).reverse 0) with
  | false => rw [hall] at h; cases h
  | true =>
    rw [hall] at h
    cases h
    obtain ⟨y, h1, h2⟩ := cDraw_mem hx
    exact ⟨y.o, infos_mem (orderGo_mem (fun _ h => h) h1), h2⟩

/-! ### All code -/
theorem setb_bit (u d t : Nat) : tb (setb u d) t = (tb u t || decide (d = t)) := by
  rw [tb_eq, tb_eq, setb_eq, Nat.testBit_or]
  congr 1
  rw [Nat.one_shiftLeft, Nat.testBit_two_pow]
theorem wrOps_or : ∀ (l : List Oper) (u t : Nat), tb (wrOps l u) t = (tb u t || tb (wrOps l 0) t)
  | [], u, t => by
    have : tb (wrOps [] 0) t = false := by show tb 0 t = false; rw [tb_eq]; simp
    rw [this, Bool.or_false]; rfl
  | o :: l, u, t => by
    rw [wrOps_cons, wrOps_cons]
    cases o.dst with
    | none => exact wrOps_or l u t
    | some d =>
      show tb (wrOps l (setb u d)) t = (tb u t || tb (wrOps l (setb 0 d)) t)
      rw [wrOps_or l (setb u d), wrOps_or l (setb 0 d)]
      rw [tb_eq, tb_eq, tb_eq, tb_eq, setb_eq, setb_eq, Nat.testBit_or, Nat.testBit_or]
      simp [Bool.or_assoc]
theorem wrCode_or : ∀ (c : Code) (u t : Nat), tb (wrCode c u) t = (tb u t || tb (wrCode c 0) t)
  | .region id ops draw, u, t => wrOps_or _ u t
  | .seq a b, u, t => by
    show tb (wrCode b (wrCode a u)) t = (tb u t || tb (wrCode b (wrCode a 0)) t)
    rw [wrCode_or b, wrCode_or a, wrCode_or b (wrCode a 0), Bool.or_assoc]
  | .cond x a b, u, t => by
    show tb (wrCode b (wrCode a u)) t = (tb u t || tb (wrCode b (wrCode a 0)) t)
    rw [wrCode_or b, wrCode_or a, wrCode_or b (wrCode a 0), Bool.or_assoc]
  | .block id b, u, t => wrCode_or b u t
  | .loop b, u, t => wrCode_or b u t
  | .skip, u, t => by simp [wrCode, tb_eq]
  | .exit _, u, t => by simp [wrCode, tb_eq]
  | .ret, u, t => by simp [wrCode, tb_eq]
  | .rangeFunc _ _ _ _, u, t => by simp [wrCode, tb_eq]
  | .scope _, u, t => by simp [wrCode, tb_eq]
  | .label _, u, t => by simp [wrCode, tb_eq]
  | .goto _, u, t => by simp [wrCode, tb_eq]
  | .refuse _, u, t => by simp [wrCode, tb_eq]
theorem not_left {m m' : Nat} {t : Nat} (h : (tb m t || tb m' t) = false) : tb m t = false := by
  cases hb : tb m t <;> simp [hb] at h ⊢
theorem not_right {m m' : Nat} {t : Nat} (h : (tb m t || tb m' t) = false) : tb m' t = false := by
  cases hb : tb m' t <;> simp [hb] at h ⊢

theorem topAll_get {p : P2} : ∀ {l : List P2} {e : Env}, (∀ q ∈ l, q ≠ p) → Env.get p (topAll l e) = Env.get p e
  | [], e, h => rfl
  | q :: l, e, h => by
    show Env.get p (topAll l (Env.set q .top e)) = _
    rw [topAll_get fun q' hq => h q' (List.mem_cons_of_mem _ hq)]
    exact Env.get_set_ne (fun e0 => h q (List.mem_cons_self ..) e0.symm) _ _
theorem slotsIn_mem {m : Nat} {q : P2} : ∀ {l : List Nat}, q ∈ slotsIn L m l → ∃ t ∈ l, q = slot L t ∧ tb m t = true
  | [], h => by cases h
  | t :: l, h => by
    replace h : q ∈ Bool.rec (motive := fun _ => List P2) (slotsIn L m l) (slot L t :: slotsIn L m l) (tb m t) := h
    cases hb : tb m t with
    | false =>
      rw [hb] at h
      obtain ⟨u, h1, h2⟩ := slotsIn_mem h
      exact ⟨u, List.mem_cons_of_mem _ h1, h2⟩
    | true =>
      rw [hb] at h
      rcases List.mem_cons.1 h with h | h
      · exact ⟨t, List.mem_cons_self .., h, hb⟩
      · obtain ⟨u, h1, h2⟩ := slotsIn_mem h
        exact ⟨u, List.mem_cons_of_mem _ h1, h2⟩
theorem has_mem {t : Nat} : ∀ {l : List Nat}, t ∈ l → has t l = true
  | [], h => by cases h
  | x :: l, h => by
    rw [has_cons]
    rcases List.mem_cons.1 h with h | h
    · subst h; rw [if_pos rfl]
    · split
      · rfl
      · exact has_mem h
theorem topAll_fr (hL : L.length ≤ 64) {m : Nat} : Fr L m e (topAll (slotsIn L m L) e) := by
  intro t ht hm
  refine topAll_get fun q hq e0 => ?_
  obtain ⟨u, h1, h2, h3⟩ := slotsIn_mem hq
  have := slot_inj hL ht (has_mem h1) (e0.symm.trans h2)
  subst this
  rw [hm] at h3
  cases h3

theorem isMapNext_some {l : List Oper} {it d c : Nat} (h : isMapNext l = some (it, d, c)) :
    ∃ o p, l = [o, p] ∧ o.op = .next (.tmp it) false ∧ o.dst = some d ∧ o.guard = none ∧ p.op = .extract (.tmp d) 0 ∧ p.dst = some c ∧ p.guard = none ∧ c ≠ d ∧ it ≠ d ∧ it ≠ c := by
  unfold isMapNext at h
  split at h
  · rename_i o p
    split at h
    · rename_i it' d1 d2 c1 h1 h2 h3 h4 h5 h6
      split at h
      · rename_i hc
        obtain ⟨rfl, h7, h8, h9⟩ := hc
        cases h
        exact ⟨o, p, rfl, h1, h2, h3, h4, h5, h6, h7, h8, h9⟩
      · cases h
    · cases h
  · cases h

theorem mSearch_fr {ex : ExT} {rest : AC} {m : Nat} {it mm : Id} {c : Nat} (hex : ∀ s, ResFr L m e (ex rest e s)) : ∀ (l : List ME) (found : Option Res), (∀ r, found = some r → ResFr L m e r) → ResFr L m e (mSearch ex rest e s it mm c found l)
  | [], found, hf => by
    unfold mSearch
    cases found with
    | none => exact Fr.refl _ _
    | some r => exact hf r rfl
  | x :: l, found, hf => by
    unfold mSearch
    have h := hex ⟨Heap.set it (.mcur mm x.born c) s.h, s.n, s.n.num⟩
    split
    · exact mSearch_fr hex l found hf
    · trivial
    · rename_i i e' s' heq
      rw [heq] at h
      cases found with
      | none => exact mSearch_fr hex l _ fun r hr => by cases hr; exact h
      | some r => trivial
    · rename_i e' s' heq
      rw [heq] at h
      cases found with
      | none => exact mSearch_fr hex l _ fun r hr => by cases hr; exact h
      | some r => trivial
theorem leaves_fr {m id : Nat} {res : Res} (h : ResFr L m e res) : ResFr L m e (leaves id res) := by
  cases res <;> exact h
theorem mloopAt_fr {ex : ExT} {rest : AC} {m id : Nat} {it : Id} {top : List P2} (ht : Fr L m e (topAll top e)) (hex : ∀ s e, ResFr L m e (ex rest e s)) : ResFr L m e (mloopAt ex rest top id e s it) := by
  unfold mloopAt
  split
  · exact ht
  · rename_i mm sn heq0
    split
    · rename_i l c heq
      refine .trans ht ?_
      unfold mloopMap
      split
      · exact Fr.refl _ _
      · rename_i x
        cases band (s.may it) (band (lt x.born _) (lt x.born c)) with
        | false => trivial
        | true =>
          show ResFr L m (topAll top e) (oneRound _ _ _ _ _ _ _ _ _)
          unfold oneRound
          have h := fun b => hex ⟨Heap.set it b s.h, s.n, s.ro⟩ (topAll top e)
          split
          · rename_i e' s' heq2
            replace h := h (.mcur mm x.born c)
            rw [heq2] at h
            unfold oneLeft
            split
            · rename_i m' b' c' _
              cases band (Nat.beq m'.num _) (band (Nat.beq b' x.born) (Nat.beq c' c)) with
              | false => trivial
              | true =>
                show ResFr L m _ (match s'.at _ with
                  | .map [y] _ => Bool.rec (motive := fun _ => Res) (.fail 162) (.exit id e' s') (Nat.beq y.born x.born)
                  | .map [] _ => .exit id e' s'
                  | _ => .fail 163)
                split
                · rename_i y _ _
                  cases Nat.beq y.born x.born with
                  | false => trivial
                  | true => exact h
                · exact h
                · trivial
            · trivial
          · exact h _
      · generalize band (s.may it) _ = bb
        cases bb with
        | false => trivial
        | true => exact leaves_fr (mSearch_fr (m := m) (fun s => hex s _) _ _ fun r hr => by cases hr)
    · trivial
  · trivial

/-- Code leaves alone what it does not write. -/
theorem exec_fr (hL : L.length ≤ 64) (U : Nat) : ∀ (n : Nat) (c : Code) (e : Env) (s : St), ResFr L (wrCode c 0) e (exec T n (cCode P U L c) e s) := by
  intro n
  induction n with
  | zero => intro c e s; trivial
  | succ n ih =>
    intro c e s
    have ops : ∀ (ops : Array Oper), ResFr L (wrOps ops.toList 0) e (runOps T (callWith T (exec T n)) (cRegion P L ops.toList) [] e s) := fun ops => runOps_fr hL _ (fun o ho d hd => wrOps_mem _ _ o ho d hd) _ _ _ _ _
    have seq : ∀ {m : Nat} {res : Res} {b : AC}, ResFr L m e res → (∀ e s, ResFr L m e (exec T n b e s)) → ResFr L m e (seqK res b (exec T n)) := fun {m res b} h h' => by
      cases res with
      | norm e1 s1 => exact .trans h (h' e1 s1)
      | _ => exact h
    cases c with
    | skip => exact Fr.refl _ _
    | ret => exact Fr.refl _ _
    | exit id => exact Fr.refl _ _
    | region id os draw =>
      cases draw with
      | false => exact ops os
      | true =>
        show ResFr L _ e (exec T (n + 1) (cDrawn P L os.toList) e s)
        cases hcd : cDrawn P L os.toList with
        | draw l =>
          refine runDraw_fr hL l (fun o ho => ?_) _ _ _ _
          obtain ⟨p, h1, h2⟩ := cDrawn_mem hcd o ho
          exact ⟨p.dst, h2, fun d hd => wrOps_mem _ _ p h1 d hd⟩
        | _ =>
          have hx := hcd
          unfold cDrawn at hx
          cases hall : allOk (infos P os.toList (masksGo os.toList 0 []).reverse 0) with
          | true => rw [hall] at hx; cases hx
          | false =>
            have : cDrawn P L os.toList = .bad := by unfold cDrawn; rw [hall]
            rw [this] at hcd
            first | (cases hcd; done) | exact True.intro
    | seq x y =>
      refine seq ((ih x e s).mono fun t ht => ?_) fun e s => (ih y e s).mono fun t ht => ?_
      · replace ht : tb (wrCode y (wrCode x 0)) t = false := ht
        rw [wrCode_or] at ht
        exact not_left ht
      · replace ht : tb (wrCode y (wrCode x 0)) t = false := ht
        rw [wrCode_or] at ht
        exact not_right ht
    | cond q x y =>
      have hx : ∀ t, tb (wrCode (.cond q x y) 0) t = false → tb (wrCode x 0) t = false := fun t ht => by
        replace ht : tb (wrCode y (wrCode x 0)) t = false := ht
        rw [wrCode_or] at ht
        exact not_left ht
      have hy : ∀ t, tb (wrCode (.cond q x y) 0) t = false → tb (wrCode y 0) t = false := fun t ht => by
        replace ht : tb (wrCode y (wrCode x 0)) t = false := ht
        rw [wrCode_or] at ht
        exact not_right ht
      show ResFr L _ e (condVia (ev ((posOf L [] q).opd 0) [] e) (exec T n) (cCode P U L x) (cCode P U L y) e s)
      generalize ev ((posOf L [] q).opd 0) [] e = v
      cases v <;> first | trivial | skip
      rename_i b
      cases b with
      | true => exact (ih x e s).mono hx
      | false => exact (ih y e s).mono hy
    | block id b =>
      show ResFr L _ e (blockK (exec T n (cCode P U L b) e s) id)
      have h := ih b e s
      cases hr : exec T n (cCode P U L b) e s with
      | exit i e1 s1 =>
        rw [hr] at h
        show ResFr L _ e (Bool.rec (motive := fun _ => Nat → Env → St → Res) .exit (fun _ => .norm) (Nat.beq i id) i e1 s1)
        cases Nat.beq i id <;> exact h
      | _ => rw [hr] at h; exact h
    | loop b =>
      rcases cCode_loop (P := P) (L := L) U b with hc1 | ⟨rid, os, draw, c, id, rest, it, d, c', hb, hm1, hc1⟩
      · have h1 := fun e s => ih b e s
        have h2 := fun e s => ih (.loop b) e s
        rw [hc1] at h2 ⊢
        exact seq (h1 e s) h2
      · rw [hc1]
        split
        · rename_i hcond
          simp only [Bool.and_eq_true, decide_eq_true_eq] at hcond
          obtain ⟨⟨⟨h1, h2⟩, h3⟩, h4⟩ := hcond
          subst h1
          subst hb
          obtain ⟨o, p, ho, _, _, _, _, hpd, _⟩ := isMapNext_some hm1
          have hwr : ∀ t, tb (wrCode (.loop (.seq (.region rid os draw) (.seq (.cond (.tmp c) .skip (.exit id)) rest))) 0) t = false → tb (wrCode rest (setb 0 c)) t = false := fun t ht => by
            replace ht : tb (wrCode rest (wrOps os.toList 0)) t = false := ht
            rw [wrCode_or] at ht ⊢
            have h5 := not_left ht
            have h6 := not_right ht
            rw [h6, Bool.or_false]
            cases hq : tb (setb 0 c) t with
            | false => rfl
            | true =>
              have htc : c = t := by
                rw [setb_bit] at hq
                have h0 : tb 0 t = false := by rw [tb_eq]; simp
                rw [h0, Bool.false_or] at hq
                exact of_decide_eq_true hq
              subst htc
              rw [wrOps_mem os.toList 0 p (by rw [ho]; simp) c hpd] at h5
              cases h5
          refine ResFr.mono ?_ hwr
          show ResFr L _ e (mloopVia (Env.get (slot L it) e) (exec T n) (cCode P U L rest) (slotsIn L (wrCode rest (setb 0 c)) L) id e s)
          generalize Env.get (slot L it) e = v
          cases v <;> first | trivial | skip
          rename_i i off
          show ResFr L _ e (Bool.rec (motive := fun _ => Res) (.fail 168) (mloopAt (exec T n) (cCode P U L rest) (slotsIn L (wrCode rest (setb 0 c)) L) id e s i) (Nat.beq off 0))
          cases Nat.beq off 0 with
          | false => trivial
          | true =>
            refine mloopAt_fr (topAll_fr hL) fun s e => (ih rest e s).mono fun t ht => ?_
            rw [wrCode_or] at ht
            exact not_right ht
        · trivial
    | _ => trivial
end
end Go.Cx

/-! ## Loops over maps: the iterator's steps. -/
set_option linter.unusedVariables false
set_option linter.unusedSimpArgs false
namespace Go.Cx
noncomputable section
variable {om : Nat → Value} {r r' : Rho} {w w' : World} {P : Program} {s s' : St} {av : AVal}
variable {l : List AVal} {e : Env} {T : Tab} {call : CallT} {L : List Nat}

/-! ### Names as they were -/
theorem CRel.back_aux (ext : Ext r r') : ∀ {l : List AVal} {xs ys : List Value}, (∀ v ∈ l, ∀ x y, VRel om r v x → VRel om r' v y → VRel om r v y) → CRel om r l xs → CRel om r' l ys → CRel om r l ys := by
  intro l
  induction l with
  | nil => intro xs ys _ _ h; cases h; exact .nil
  | cons v l ih =>
    intro xs ys hv h h'
    have hv' := fun u hu => hv u (List.mem_cons_of_mem v hu)
    cases h' with
    | cons _ y _ ys' hs h2 t2 =>
      cases h with
      | cons _ x _ xs' hs1 h1 t1 => exact .cons _ _ _ _ hs (hv v (List.mem_cons_self ..) _ _ h1 h2) (ih hv' t1 t2)
      | seg _ _ _ _ _ _ hy t => cases hs
      | opq _ _ _ _ hx hs1 t => cases hs
    | seg k n d _ y y' hy t2 =>
      cases h with
      | cons _ x _ xs' hs1 h1 t1 => cases hs1
      | seg _ _ _ _ _ _ hy1 t => exact .seg _ _ _ _ _ _ hy (ih hv' t t2)
    | opq i y _ y' hx hs t2 =>
      cases h with
      | cons _ x _ xs' hs1 h1 t1 => cases hs1
      | opq _ _ _ _ hx1 hs1 t => exact .opq _ _ _ _ hx hs (ih hv' t t2)
mutual
theorem VRel.back (ext : Ext r r') : (v : AVal) → (x y : Value) → VRel om r v x → VRel om r' v y → VRel om r v y
  | .top, x, y, h, h' => .top _
  | .bad, x, y, h, h' => .bad _
  | .bool b, x, y, h, h' => by cases h'; exact .bool _
  | .int _ _, x, y, h, h' => by cases h'; exact .int _ _
  | .float _ _, x, y, h, h' => by cases h'; exact .float _ _
  | .str _ _, x, y, h, h' => by cases h'; exact .str _ _
  | .nilp, x, y, h, h' => by cases h'; exact .nilp
  | .ptr i o, x, y, h, h' => by
    cases h with | ptr _ _ p hp =>
    cases h' with | ptr _ _ p' hp' =>
    have := ext _ _ hp
    rw [hp'] at this
    cases this
    exact .ptr _ _ _ hp
  | .nils, x, y, h, h' => by cases h'; exact .nils
  | .slice _ _ _ _, x, y, h, h' => by
    cases h with | slice _ _ _ _ p hp =>
    cases h' with | slice _ _ _ _ p' hp' hl' =>
    have := ext _ _ hp
    rw [hp'] at this
    cases this
    exact .slice _ _ _ _ _ hp hl'
  | .slicu _ _ _ _ _, x, y, h, h' => by
    cases h with | slicu _ _ _ _ _ p _ _ hp =>
    cases h' with | slicu _ _ _ _ _ p' _ _ hp' h1 h2 h3 h4 =>
    have := ext _ _ hp
    rw [hp'] at this
    cases this
    exact .slicu _ _ _ _ _ _ _ _ hp h1 h2 h3 h4
  | .nilm, x, y, h, h' => by cases h'; exact .nilm
  | .map _, x, y, h, h' => by
    cases h with | map _ p hp =>
    cases h' with | map _ p' hp' =>
    have := ext _ _ hp
    rw [hp'] at this
    cases this
    exact .map _ _ hp
  | .nilf, x, y, h, h' => by cases h'; exact .nilf
  | .func fn a c, x, y, h, h' => by
    cases h with | func _ _ _ _ _ hx hy =>
    cases h' with | func _ _ _ _ _ hx' hy' =>
    exact .func _ _ _ _ _ (LRel.back ext a _ _ hx hx') (LRel.back ext c _ _ hy hy')
  | .nili, x, y, h, h' => by cases h'; exact .nili
  | .iface t v, x, y, h, h' => by
    cases h with | iface _ _ _ hx =>
    cases h' with | iface _ _ _ hx' =>
    exact .iface _ _ _ (VRel.back ext v _ _ hx hx')
  | .agg l, x, y, h, h' => by
    cases h with | agg _ _ hx =>
    cases h' with | agg _ _ hx' =>
    exact .agg _ _ (CRel.back_aux ext (VRel.backs ext l) hx hx')
  | .aggi _ _ _, x, y, h, h' => by cases h'; exact .aggi _ _ _
  | .tup l, x, y, h, h' => by
    cases h with | tup _ _ hx =>
    cases h' with | tup _ _ hx' =>
    exact .tup _ _ (LRel.back ext l _ _ hx hx')
  | .opq _, x, y, h, h' => by cases h' with | opq _ hs => exact .opq _ hs
theorem VRel.backs (ext : Ext r r') : (l : List AVal) → ∀ v ∈ l, ∀ x y, VRel om r v x → VRel om r' v y → VRel om r v y
  | [], v, h => by cases h
  | u :: l, v, h => by
    intro x y h1 h2
    rcases List.mem_cons.1 h with h | h
    · rw [h] at h1 h2 ⊢; exact VRel.back ext u x y h1 h2
    · exact VRel.backs ext l v h x y h1 h2
theorem LRel.back (ext : Ext r r') : (l : List AVal) → (x y : List Value) → LRel om r l x → LRel om r' l y → LRel om r l y
  | [], x, y, h, h' => by cases h'; exact .nil
  | v :: l, x, y, h, h' => by
    cases h with | cons _ _ _ _ h1 t1 =>
    cases h' with | cons _ _ _ _ h2 t2 =>
    exact .cons _ _ _ _ (VRel.back ext v _ _ h1 h2) (LRel.back ext l _ _ t1 t2)
end

/-! ### Slots whose values are let go -/
theorem topAll_top {p : P2} : ∀ {l : List P2} {e : Env}, p ∈ l ∨ Env.get p e = .top → Env.get p (topAll l e) = .top
  | [], e, h => by
    rcases h with h | h
    · cases h
    · exact h
  | q :: l, e, h => by
    show Env.get p (topAll l (Env.set q .top e)) = _
    by_cases hq : p = q
    · subst hq; exact topAll_top (.inr (Env.get_set_self _ _ _))
    · refine topAll_top (h.imp (fun h => ?_) fun h => ?_)
      · rcases List.mem_cons.1 h with h | h
        · exact absurd h hq
        · exact h
      · rw [Env.get_set_ne hq]; exact h
theorem slotsIn_has {m t : Nat} (hm : tb m t = true) : ∀ {l : List Nat}, has t l = true → slot L t ∈ slotsIn L m l
  | [], h => by cases h
  | x :: l, h => by
    show slot L t ∈ Bool.rec (motive := fun _ => List P2) (slotsIn L m l) (slot L x :: slotsIn L m l) (tb m x)
    rw [has_cons] at h
    by_cases hx : x = t
    · subst hx; rw [hm]; exact List.mem_cons_self ..
    · rw [if_neg hx] at h
      cases tb m x with
      | true => exact List.mem_cons_of_mem _ (slotsIn_has hm h)
      | false => exact slotsIn_has hm h
theorem topEnv_ok (hL : L.length ≤ 64) {m : Nat} {tmps : Array Value} : EnvRel om r L (topAll (slotsIn L m L) e) tmps ↔ ∀ t, has t L = true → tb m t = false → VRel om r (Env.get (slot L t) e) (tmps.getD t undef) := by
  constructor
  · intro h t ht hm
    have := h t ht
    rw [topAll_fr hL t ht hm] at this
    exact this
  · intro h t ht
    cases hm : tb m t with
    | true => rw [topAll_top (.inl (slotsIn_has hm ht))]; exact .top _
    | false => rw [topAll_fr hL t ht hm]; exact h t ht hm

/-! ### The iterator -/
theorem next_run {b bm since last clock : Nat} {seen : Array Nat} {es : Array MapEntry} (hb : w.heap[b]? = some (.mapIter (some bm) since seen last)) (hm : w.heap[bm]? = some (.map es clock)) (hlast : ∀ x ∈ es.toList, x.born < last)
    (hsince : (∀ x ∈ es.toList, x.born < since) ∨ ∀ x ∈ es.toList, x.born ∈ seen) :
    ((∀ x ∈ es.toList, x.born ∈ seen) ∧ ∀ ty, (Instr.next (.pointer (some ⟨b, 0, none⟩)) false ty).run P w = .ok (.tuple [.bool false].toArray) w) ∨
    ∃ x ∈ es.toList, x.born ∉ seen ∧ ∃ w1 : World, (∀ ty, (Instr.next (.pointer (some ⟨b, 0, none⟩)) false ty).run P w = .ok (.tuple [.bool true, x.key, x.val].toArray) w1) ∧
      w1.heap = w.heap.setIfInBounds b (.mapIter (some bm) since (seen.push x.born) clock) ∧ w1.os = w.os ∧ w1.tape = w.tape ∧ w1.output = w.output := by
  have htest : (!seen.isEmpty && !es.isEmpty && es.all (fun x => decide (x.born ≥ last))) = false := by
    cases he : es.isEmpty with
    | true => simp
    | false =>
      have hall : es.all (fun x => decide (x.born ≥ last)) = false := by
        rw [Bool.eq_false_iff]
        intro h
        rw [Array.all_eq_true_iff_forall_mem] at h
        have h0 : 0 < es.size := by
          rcases Nat.eq_zero_or_pos es.size with h0 | h0
          · simp [Array.isEmpty, h0] at he
          · exact h0
        have h1 := h _ (Array.getElem_mem h0)
        have h2 := hlast es[0] (by simp)
        simp at h1
        omega
      simp [hall]
  simp only [Instr.next, getObj, Sem.run_bind, Sem.run, hb, hm, Result.andThen, htest, Bool.false_eq_true, if_false]
  have hmem : ∀ x ∈ (Array.filter (fun e => !seen.contains e.born) es).toList, x ∈ es.toList ∧ x.born ∉ seen := fun x hx => by
    simp at hx
    exact ⟨by simpa using hx.1, hx.2⟩
  have hall : (Array.filter (fun e => !seen.contains e.born) es).size = 0 → ∀ x ∈ es.toList, x.born ∈ seen := fun h x hx => by
    have := Array.eq_empty_of_size_eq_zero h
    rw [Array.filter_eq_empty_iff] at this
    have := this x (by simpa using hx)
    simpa using this
  generalize Array.filter (fun e => !seen.contains e.born) es = F at hmem hall ⊢
  have hF : ∀ x ∈ F.toList, x.born < since := fun x hx => by
    obtain ⟨h1, h2⟩ := hmem x hx
    rcases hsince with h | h
    · exact h x h1
    · exact absurd (h x h1) h2
  have e1 : F.filter (fun x => decide (x.born < since)) = F := Array.filter_eq_self.2 (fun x hx => by simpa using hF x (by simpa using hx))
  have e2 : F.filter (fun x => decide (x.born ≥ since)) = #[] := by
    rw [Array.filter_eq_empty_iff]
    intro x hx
    have := hF x (by simpa using hx)
    simp
    omega
  simp only [e1, e2, Array.append_empty]
  by_cases h0 : F.size = 0
  · left
    have : F = #[] := Array.eq_empty_of_size_eq_zero h0
    subst this
    refine ⟨hall rfl, fun ty => ?_⟩
    simp [choose, Sem.run, Question.forced]
  · right
    have hne : F.isEmpty = false := by simp [Array.isEmpty, h0]
    simp only [hne, Bool.false_eq_true, if_false, Array.empty_append, Array.size_map]
    have hch : ∃ (j : Nat) (w1 : World), j < F.size ∧ w1.heap = w.heap ∧ w1.os = w.os ∧ w1.tape = w.tape ∧ w1.output = w.output ∧ (choose (Question.mapNext F.size)).run P w = .ok j w1 := by
      by_cases hf : F.size ≤ 1
      · exact ⟨0, w, by omega, rfl, rfl, rfl, rfl, by simp [choose, Sem.run, Question.forced, hf]⟩
      · exact ⟨_, { w with drawn := w.drawn + 1 }, Nat.mod_lt _ (by omega), rfl, rfl, rfl, rfl, by
          simp only [choose, Sem.run, Question.forced, decide_eq_true_eq, hf, if_false, Question.cut]
          rfl⟩
    obtain ⟨j, w1, hj, g1, g2, g3, g4, hrun⟩ := hch
    obtain ⟨h1, h2⟩ := hmem F[j] (by simp)
    refine ⟨F[j], h1, h2, setB w1 b (.mapIter (some bm) since (seen.push F[j].born) clock), fun ty => ?_, by rw [← g1]; rfl, g2, g3, g4⟩
    have hb1 : w1.heap[b]? = some (.mapIter (some bm) since seen last) := by rw [g1]; exact hb
    have hset := run_setObj (P := P) (o := .mapIter (some bm) since (seen.push F[j].born) clock) hb1 trivial
    simp only [hrun, Array.getElem?_map, Array.getElem?_eq_getElem hj, Option.map_some, Sem.run_bind, hset, Result.andThen]
    rfl

/-- The head of a round. -/
theorem head_step {ops : Array Oper} {rid it d c id : Nat} {rest : Code} (hm : isMapNext ops.toList = some (it, d, c)) {a : Act} (hd : d < a.tmps.size) (hc : c < a.tmps.size) {t : Bool} {x : List Value} {w1 : World}
    (hrun : ∀ ty, (Instr.next (a.tmps.getD it undef) false ty).run P w = .ok (.tuple (.bool t :: x).toArray) w1) {Q : Exit → Act → World → Prop} {K : Act → World → Prop}
    (h : if t then rest.wp P (Exit.then K Q) ((a.put (some d) (.tuple (.bool t :: x).toArray)).put (some c) (.bool t)) w1 else Q (.exit id) ((a.put (some d) (.tuple (.bool t :: x).toArray)).put (some c) (.bool t)) w1) :
    (Code.seq (.region rid ops false) (.seq (.cond (.tmp c) .skip (.exit id)) rest)).wp P (Exit.then K Q) a w := by
  obtain ⟨o, p, hl, h1, h2, h3, h4, h5, h6, h7, h8, h9⟩ := isMapNext_some hm
  obtain ⟨l⟩ := ops
  simp only at hl
  subst hl
  obtain ⟨odst, oop, oty, opos, oafter, oguard⟩ := o
  obtain ⟨pdst, pop, pty, ppos, pafter, pguard⟩ := p
  simp only at h1 h2 h3 h4 h5 h6
  subst h1 h2 h3 h4 h5 h6
  generalize hvs : Value.tuple (.bool t :: x).toArray = vs at *
  refine wp_seq (wp_region ?_)
  show wpOps P _ _ [0, 1] a w
  have g0 : (#[(⟨some d, .next (.tmp it) false, oty, opos, oafter, none⟩ : Oper), ⟨some c, .extract (.tmp d) 0, pty, ppos, pafter, none⟩])[0]? = some ⟨some d, .next (.tmp it) false, oty, opos, oafter, none⟩ := rfl
  have g1 : (#[(⟨some d, .next (.tmp it) false, oty, opos, oafter, none⟩ : Oper), ⟨some c, .extract (.tmp d) 0, pty, ppos, pafter, none⟩])[1]? = some ⟨some c, .extract (.tmp d) 0, pty, ppos, pafter, none⟩ := rfl
  simp only [wpOps, Region.wanted]
  split
  · rename_i h0; rw [g0] at h0; cases h0
  rename_i o0 h0
  rw [g0] at h0
  cases h0
  simp only [if_true]
  refine .inl (Does.wp (.of_run (x := vs) (w' := w1) ?_ ?_))
  · show (do pure (Next.value (← Instr.next (a.tmps.getD it undef) false oty)) : Sem Next).run P w = _
    exact run_val (hrun oty)
  split
  · rename_i h0; rw [g1] at h0; cases h0
  rename_i o1 h0
  rw [g1] at h0
  cases h0
  refine .inl (Does.wp (.of_run (x := .bool t) (w' := w1) ?_ ?_))
  · show (do pure (Next.value (← Instr.extract ((a.tmps.setIfInBounds d vs).getD d undef) 0)) : Sem Next).run P w1 = _
    refine run_val ?_
    rw [getD_set hd, if_pos rfl, ← hvs]
    rfl
  show (Code.seq (.cond (.tmp c) .skip (.exit id)) rest).wp P (Exit.then K Q) ((a.put (some d) vs).put (some c) (.bool t)) w1
  refine wp_seq ?_
  have hev : ((a.put (some d) vs).put (some c) (.bool t)).eval (.tmp c) = .bool t := by
    show ((a.tmps.setIfInBounds d vs).setIfInBounds c (.bool t)).getD c undef = _
    rw [getD_set (by rw [Array.size_setIfInBounds]; exact hc), if_pos rfl]
  cases t with
  | true => exact wp_cond_true hev (wp_skip h)
  | false => exact wp_cond_false hev (wp_exit h)
end
end Go.Cx

/-! ## Loops over maps. -/
set_option linter.unusedVariables false
set_option linter.unusedSimpArgs false
namespace Go.Cx
noncomputable section
variable {om : Nat → Value} {r r' : Rho} {w w' : World} {P : Program} {s s' : St} {av : AVal}
variable {l : List AVal} {e : Env} {T : Tab} {call : CallT} {L : List Nat}

theorem Sim.congr {s1 s2 : St} (h : Sim om r s1 w) (ha : ∀ i, s2.at i = s1.at i) (hn : s2.n = s1.n) (hr : s2.ro ≤ s2.n.num) : Sim om r s2 w := by
  have : s2.at = s1.at := funext ha
  exact ⟨by rw [this]; exact h.sw, fun i p hp => by rw [hn]; exact h.dom i p hp, fun i hi => by rw [ha]; exact h.no i (by rw [← hn]; exact hi), hr⟩
/-- The state in a round. -/
def inRound (s : St) (it : Id) (b : Blk) (ro : Nat) : St := ⟨Heap.set it b s.h, s.n, ro⟩
theorem inRound_at (it : Id) (b : Blk) (ro : Nat) (j : Id) : (inRound s it b ro).at j = if j = it then b else s.at j := St.at_set _ _ _ _ _ _

theorem mSearch_one {ex : ExT} {rest : AC} {it m : Id} {c : Nat} {x : ME} : ∀ {l : List ME} {found : Option Res}, (∀ w, mSearch ex rest e s it m c found l ≠ .fail w) → x ∈ l →
    (∃ e' s', ex rest e (inRound s it (.mcur m x.born c) s.n.num) = .norm e' s') ∨
    (∃ i e' s', ex rest e (inRound s it (.mcur m x.born c) s.n.num) = .exit i e' s' ∧ mSearch ex rest e s it m c found l = .exit i e' ⟨s'.h, s'.n, s.ro⟩) ∨
    (∃ e' s', ex rest e (inRound s it (.mcur m x.born c) s.n.num) = .ret e' s' ∧ mSearch ex rest e s it m c found l = .ret e' ⟨s'.h, s'.n, s.ro⟩) := by
  have keep : ∀ (l : List ME) (r0 : Res), (∀ w, mSearch ex rest e s it m c (some r0) l ≠ .fail w) → mSearch ex rest e s it m c (some r0) l = r0 := by
    intro l r0
    induction l with
    | nil => intro _; rfl
    | cons y l ih =>
      intro h
      unfold mSearch at h ⊢
      split at h <;> rename_i heq
      · exact ih h
      · exact absurd rfl (h _)
      · exact absurd rfl (h _)
      · exact absurd rfl (h _)
  intro l
  induction l with
  | nil => intro found _ h; cases h
  | cons y l ih =>
    intro found h hx
    have h0 := h
    unfold mSearch at h
    rcases List.mem_cons.1 hx with hx | hx
    · subst hx
      show (∃ e' s', ex rest e ⟨Heap.set it (.mcur m x.born c) s.h, s.n, s.n.num⟩ = .norm e' s') ∨ _
      split at h <;> rename_i heq
      · exact .inl ⟨_, _, heq⟩
      · exact absurd rfl (h _)
      · rename_i i e' s'
        cases found with
        | some r => exact absurd rfl (h _)
        | none =>
          refine .inr (.inl ⟨i, e', s', heq, ?_⟩)
          rw [show mSearch ex rest e s it m c none (x :: l) = mSearch ex rest e s it m c (some (.exit i e' ⟨s'.h, s'.n, s.ro⟩)) l by
            conv => lhs; unfold mSearch
            rw [heq]]
          exact keep l _ h
      · rename_i e' s'
        cases found with
        | some r => exact absurd rfl (h _)
        | none =>
          refine .inr (.inr ⟨e', s', heq, ?_⟩)
          rw [show mSearch ex rest e s it m c none (x :: l) = mSearch ex rest e s it m c (some (.ret e' ⟨s'.h, s'.n, s.ro⟩)) l by
            conv => lhs; unfold mSearch
            rw [heq]]
          exact keep l _ h
    · split at h <;> rename_i heq
      · have := ih h hx
        rw [show mSearch ex rest e s it m c found (y :: l) = mSearch ex rest e s it m c found l by
            conv => lhs; unfold mSearch
            rw [heq]]
        exact this
      · exact absurd rfl (h _)
      · rename_i i e' s'
        cases found with
        | some r => exact absurd rfl (h _)
        | none =>
          have := ih h hx
          rw [show mSearch ex rest e s it m c none (y :: l) = mSearch ex rest e s it m c (some (.exit i e' ⟨s'.h, s'.n, s.ro⟩)) l by
            conv => lhs; unfold mSearch
            rw [heq]]
          exact this
      · rename_i e' s'
        cases found with
        | some r => exact absurd rfl (h _)
        | none =>
          have := ih h hx
          rw [show mSearch ex rest e s it m c none (y :: l) = mSearch ex rest e s it m c (some (.ret e' ⟨s'.h, s'.n, s.ro⟩)) l by
            conv => lhs; unfold mSearch
            rw [heq]]
          exact this
theorem mSearch_all {ex : ExT} {rest : AC} {it m : Id} {c : Nat} : ∀ {l : List ME}, (∀ x ∈ l, ∃ e' s', ex rest e (inRound s it (.mcur m x.born c) s.n.num) = .norm e' s') →
    mSearch ex rest e s it m c none l = .norm e (inRound s it .none s.ro)
  | [], _ => rfl
  | x :: l, h => by
    obtain ⟨e', s', h1⟩ := h x (List.mem_cons_self ..)
    unfold mSearch
    replace h1 : ex rest e ⟨Heap.set it (.mcur m x.born c) s.h, s.n, s.n.num⟩ = .norm e' s' := h1
    rw [h1]
    exact mSearch_all fun y hy => h y (List.mem_cons_of_mem _ hy)

theorem allBorn_mem {c : Nat} : ∀ {l : List ME}, allBorn l c = true → ∀ x ∈ l, x.born < c
  | [], _, x, h => by cases h
  | y :: l, h, x, hx => by
    replace h : band (lt y.born c) (allBorn l c) = true := h
    rw [band_eq, Bool.and_eq_true] at h
    rcases List.mem_cons.1 hx with hx | hx
    · subst hx; exact Nat.le_of_ble_eq_true h.1
    · exact allBorn_mem h.2 x hx
theorem MRel.mem {l : List ME} {es : List MapEntry} (h : MRel om r l es) {y : MapEntry} (hy : y ∈ es) : ∃ x ∈ l, x.born = y.born := by
  induction h with
  | nil => cases hy
  | cons x z l es _ _ hb _ ih =>
    rcases List.mem_cons.1 hy with hy | hy
    · subst hy; exact ⟨x, List.mem_cons_self .., hb.symm⟩
    · obtain ⟨u, h1, h2⟩ := ih hy
      exact ⟨u, List.mem_cons_of_mem _ h1, h2⟩
theorem MRel.mem' {l : List ME} {es : List MapEntry} (h : MRel om r l es) {x : ME} (hx : x ∈ l) : ∃ y ∈ es, y.born = x.born := by
  induction h with
  | nil => cases hx
  | cons x' z l es _ _ hb _ ih =>
    rcases List.mem_cons.1 hx with hx | hx
    · subst hx; exact ⟨z, List.mem_cons_self .., hb⟩
    · obtain ⟨u, h1, h2⟩ := ih hx
      exact ⟨u, List.mem_cons_of_mem _ h1, h2⟩
theorem filter_less {α : Type} {p q : α → Bool} : ∀ {l : List α}, (∀ x ∈ l, q x = true → p x = true) → (∃ x ∈ l, p x = true ∧ q x = false) → (l.filter q).length < (l.filter p).length
  | [], _, ⟨x, h, _⟩ => by cases h
  | y :: l, h, ⟨x, hx, hp, hq⟩ => by
    have hle : ∀ {l : List α}, (∀ x ∈ l, q x = true → p x = true) → (l.filter q).length ≤ (l.filter p).length := by
      intro l
      induction l with
      | nil => intro _; exact Nat.le_refl _
      | cons z l ih =>
        intro h
        have := ih fun x hx => h x (List.mem_cons_of_mem _ hx)
        rw [List.filter_cons, List.filter_cons]
        cases hqz : q z with
        | true => rw [h z (List.mem_cons_self ..) hqz]; simpa using this
        | false =>
          simp only [Bool.false_eq_true, if_false]
          split
          · rw [List.length_cons]; omega
          · exact this
    have h' := fun x hx => h x (List.mem_cons_of_mem _ hx)
    rw [List.filter_cons, List.filter_cons]
    rcases List.mem_cons.1 hx with hx | hx
    · subst hx
      rw [hp, hq]
      have := hle h'
      simp only [Bool.false_eq_true, if_false, if_true, List.length_cons]
      omega
    · have := filter_less h' ⟨x, hx, hp, hq⟩
      cases hqz : q y with
      | true => rw [h y (List.mem_cons_self ..) hqz]; simpa using this
      | false =>
        simp only [Bool.false_eq_true, if_false]
        split
        · rw [List.length_cons]; omega
        · exact this

/-- A block that may be written, of a value that is known no more or is another one. -/
theorem Post.swap (sim : Sim om r s w) {it : Id} {p : Pl} {b : Blk} (hi : r it = some p) (hro : s.ro ≤ it.num) (hl : s.at it ≠ .none)
    (hb : b = .none ∨ ∃ o, w'.heap[p.b]? = some o ∧ BRel om r b p o) (ho : ∀ c, c ≠ p.b → w'.heap[c]? = w.heap[c]?) (hsz : w'.heap.size = w.heap.size)
    (hos : w'.os = w.os) (ht : w'.tape = w.tape) (hout : w'.output = w.output) : Post om r s w r (inRound s it b s.ro) w' :=
  Post.put sim hi hro hl hb ho hsz hos ht hout

/-- What a search may do in a round, seen from the loop's begin. -/
theorem Post.round {it : Id} {p : Pl} {b : Blk} {w1 : World} {r2 : Rho} {s2 : St} {w2 : World} (sim : Sim om r s w) (hi : r it = some p) (hro : s.ro ≤ it.num) (hl : s.at it ≠ .none)
    (hsz : w.heap.size ≤ w1.heap.size) (ho : ∀ c, c < w.heap.size → c ≠ p.b → w1.heap[c]? = w.heap[c]?) (hos : w1.os = w.os) (ht : w1.tape = w.tape) (hout : w1.output = w.output)
    (sim1 : Sim om r (inRound s it b s.n.num) w1) (h : Post om r (inRound s it b s.n.num) w1 r2 s2 w2) : Post om r s w r2 ⟨s2.h, s2.n, s.ro⟩ w2 := by
  have hno : ∀ c, ¬ Wr r (inRound s it b s.n.num) c := by
    rintro c ⟨j, q, h1, h2, h3, h4⟩
    exact h1 (sim1.no j h2)
  have hat : ∀ i, (⟨s2.h, s2.n, s.ro⟩ : St).at i = s2.at i := fun i => rfl
  have hnum : s.n.num ≤ s2.n.num := h.num
  have hron := sim.ron
  refine ⟨fun i hi => h.old i hi, ?_, hnum, Nat.le_trans hsz h.grow, ?_, ?_, rfl, ?_, h.os.trans hos, h.tape.trans ht, h.out.trans hout⟩
  · exact Sim.congr h.sim hat rfl (by show s.ro ≤ s2.n.num; omega)
  · intro c hc hn
    rw [h.keep c (Nat.lt_of_lt_of_le hc hsz) (hno c)]
    exact ho c hc fun e0 => hn ⟨it, p, hl, hro, hi, e0.symm⟩
  · rintro c hc ⟨j, q, h1, h2, h3, h4⟩
    rcases Nat.lt_or_ge j.num s.n.num with hj | hj
    · have hj1 : s2.at j = (inRound s it b s.n.num).at j := h.roK j hj
      rw [h.old j hj] at h3
      refine ⟨j, q, ?_, h2, h3, h4⟩
      intro e0
      by_cases hji : j = it
      · subst hji; exact hl e0
      · rw [hat, hj1, inRound_at, if_neg hji] at h1
        exact h1 e0
    · exact absurd (h.img c (Nat.lt_of_lt_of_le hc hsz) ⟨j, q, h1, by rw [h.ro]; exact hj, h3, h4⟩) (hno c)
  · intro i hi
    have hi' : i.num < s.ro := hi
    show s2.at i = s.at i
    rw [h.roK i (by show i.num < s.n.num; omega), inRound_at, if_neg (fun e0 => by subst e0; omega)]

/-- Loops over maps do what their compiled form comes to. -/
theorem loop_sound : LoopSound P om T := by
  intro n hcode L hL U rid ops c id itt d rest N e s r w a Q hm hd hit hwi hwc hf hN hsz sim he h
  obtain ⟨o, p, hol, _, hod, _, _, hpd, _, hcd, hid, hic⟩ := isMapNext_some hm
  have hds : d < a.tmps.size := hsz d (wrOps_mem _ _ o (by rw [hol]; simp) d hod)
  have hcs : c < a.tmps.size := hsz c (wrOps_mem _ _ p (by rw [hol]; simp) c hpd)
  have hmask : ∀ t, tb (wrCode rest (setb 0 c)) t = (decide (c = t) || tb (wrCode rest 0) t) := fun t => by
    have : tb 0 t = false := by rw [tb_eq]; simp
    rw [wrCode_or, setb_bit, this, Bool.false_or]
  have hmi : tb (wrCode rest (setb 0 c)) itt = false := by
    rw [hmask, hwi, Bool.or_false]
    exact decide_eq_false fun e0 => hic e0.symm
  have hmc : tb (wrCode rest (setb 0 c)) c = true := by rw [hmask]; simp
  generalize hmk : wrCode rest (setb 0 c) = mk at h hmi hmc hmask
  -- what the iterator's place holds
  have hix := he itt hit
  generalize hv : Env.get (slot L itt) e = v at h hix
  cases v <;> first | exact h.elim | skip
  rename_i it off
  replace h : After om L r s w a Q (Bool.rec (motive := fun _ => Res) (.fail 168) (mloopAt (exec T n) (cCode P U L rest) (slotsIn L mk L) id e s it) (Nat.beq off 0)) := h
  cases hoff : Nat.beq off 0 with
  | false => rw [hoff] at h; exact h.elim
  | true =>
  rw [hoff] at h
  have hoff := Nat.eq_of_beq_eq_true hoff
  subst hoff
  replace h : After om L r s w a Q (mloopAt (exec T n) (cCode P U L rest) (slotsIn L mk L) id e s it) := h
  generalize hpt : a.tmps.getD itt undef = pt at hix
  cases hix with | ptr _ _ pl hpl =>
  -- slots behind the head of a round
  have ptmp : ∀ (a1 : Act) (x y : Value), d < a1.tmps.size → c < a1.tmps.size → ∀ t, t ≠ d → t ≠ c → ((a1.put (some d) x).put (some c) y).tmps.getD t undef = a1.tmps.getD t undef := fun a1 x y h1 h2 t h3 h4 => by
    show ((a1.tmps.setIfInBounds d x).setIfInBounds c y).getD t undef = _
    rw [getD_set (by rw [Array.size_setIfInBounds]; exact h2), if_neg h4, getD_set h1, if_neg h3]
  have psz : ∀ (a1 : Act) (x y : Value), ((a1.put (some d) x).put (some c) y).tmps.size = a1.tmps.size := fun a1 x y => by rw [Act.put_size, Act.put_size]
  have pdf : ∀ (a1 : Act) (x y : Value), ((a1.put (some d) x).put (some c) y).defers = a1.defers := fun a1 x y => by rw [Act.put_def, Act.put_def]
  have henv : ∀ (a1 : Act) (x y : Value), d < a1.tmps.size → c < a1.tmps.size → (∀ t, has t L = true → tb mk t = false → VRel om r (Env.get (slot L t) e) (a1.tmps.getD t undef)) →
      EnvRel om r L (topAll (slotsIn L mk L) e) ((a1.put (some d) x).put (some c) y).tmps := fun a1 x y h1 h2 h3 => by
    rw [topEnv_ok hL]
    intro t ht hmt
    rw [ptmp a1 x y h1 h2 t (fun e0 => by subst e0; rw [hd] at ht; cases ht) (fun e0 => by subst e0; rw [hmc] at hmt; cases hmt)]
    exact h3 t ht hmt
  have he0 : ∀ t, has t L = true → tb mk t = false → VRel om r (Env.get (slot L t) e) (a.tmps.getD t undef) := fun t ht _ => he t ht
  -- over at once
  have over : ∀ {w1 : World} {r1 : Rho} {s1 : St} {e1 : Env} {a1 : Act}, (∀ ty, (Instr.next (a1.tmps.getD itt undef) false ty).run P w1 = .ok (.tuple [.bool false].toArray) w1) → d < a1.tmps.size → c < a1.tmps.size →
      a1.tmps.size = a.tmps.size → a1.defers = a.defers → Post om r s w r1 s1 w1 → (∀ x y, EnvRel om r1 L e1 ((a1.put (some d) x).put (some c) y).tmps) → After om L r s w a Q (.exit id e1 s1) →
      ∀ K, (Code.seq (.region rid ops false) (.seq (.cond (.tmp c) .skip (.exit id)) rest)).wp P (Exit.then K Q) a1 w1 := fun {w1 r1 s1 e1 a1} hrun h1 h2 h3 h4 hp hen ha K =>
    head_step hm h1 h2 (t := false) (x := []) hrun (ha r1 w1 _ hp (hen _ _) ((psz _ _ _).trans h3) ((pdf _ _ _).trans h4))
  -- the iterator's block
  have hlive : s.at it ≠ .none → ∃ o, w.heap[pl.b]? = some o ∧ BRel om r (s.at it) pl o := fun hn => sim.sw.obj hpl hn
  unfold mloopAt at h
  split at h
  · -- no map
    rename_i since hat
    obtain ⟨o, h1, h2⟩ := hlive (by rw [hat]; intro e0; cases e0)
    rw [hat] at h2
    cases h2 with
    | row _ _ _ _ _ _ _ _ hr => cases hr
    | miterN _ _ hb0 =>
      refine wp_loopN (fun k a1 w1 => a1 = a ∧ w1 = w) (n := 0) ⟨rfl, rfl⟩ ?_
      rintro k a1 w1 ⟨rfl, rfl⟩
      refine over (s1 := s) (r1 := r) ?_ hds hcs rfl rfl (Post.refl sim) (fun x y => henv a1 x y hds hcs he0) h _
      intro ty
      rw [hpt, hb0]
      simp only [Instr.next, getObj, Sem.run_bind, Sem.run, h1, Result.andThen]
      rfl
  · rename_i m since hat
    split at h
    · rename_i l cl hmap
      obtain ⟨o, h1, h2⟩ := hlive (by rw [hat]; intro e0; cases e0)
      rw [hat] at h2
      cases h2 with
      | row _ _ _ _ _ _ _ _ hr => cases hr
      | miter _ q _ _ hq hb0 =>
      have hne : m ≠ it := fun e0 => by subst e0; rw [hat] at hmap; cases hmap
      have hpt' : a.tmps.getD itt undef = .pointer (some ⟨pl.b, 0, none⟩) := by rw [hpt, hb0]
      have hbne : q.b ≠ pl.b := fun e0 => hne (sim.sw.inj m it q pl (by rw [hmap]; intro e0; cases e0) (by rw [hat]; intro e0; cases e0) hq hpl e0)
      have hlv : s.at it ≠ .none := by rw [hat]; intro e0; cases e0
      have hlt : pl.b < w.heap.size := (sim.dom it pl hpl).2
      obtain ⟨es, h3, h4, -⟩ := sim.sw.map (P := P) hq hmap
      unfold mloopMap at h
      split at h
      · -- no entries
        cases h4
        refine wp_loopN (fun k a1 w1 => a1 = a ∧ w1 = w) (n := 0) ⟨rfl, rfl⟩ ?_
        rintro k a1 w1 ⟨rfl, rfl⟩
        refine over (s1 := s) (r1 := r) ?_ hds hcs rfl rfl (Post.refl sim) (fun x y => henv a1 x y hds hcs he0) h _
        intro ty
        rw [hpt']
        rcases next_run (P := P) (w := w1) h1 h3 (fun x hx => by simp at hx) (.inl fun x hx => by simp at hx) with ⟨_, hr⟩ | ⟨x, hx, _⟩
        · exact hr ty
        · simp at hx
      · -- one entry
        rename_i x
        cases hcond : band (s.may it) (band (lt x.born since) (lt x.born cl)) with
        | false => rw [hcond] at h; exact h.elim
        | true =>
        rw [hcond] at h
        rw [band_eq, band_eq, Bool.and_eq_true, Bool.and_eq_true] at hcond
        have hro := St.may_ro hcond.1
        have hxs : x.born < since := Nat.le_of_ble_eq_true hcond.2.1
        have hxc : x.born < cl := Nat.le_of_ble_eq_true hcond.2.2
        replace h : After om L r s w a Q (oneRound (exec T n) (cCode P U L rest) id (topAll (slotsIn L mk L) e) s it m x cl) := h
        cases h4 with | cons _ y _ _ hk hv' hb ht =>
        cases ht
        refine wp_loopN (fun k a1 w1 => (k = 1 ∧ a1 = a ∧ w1 = w) ∨ (k = 0 ∧ ∃ r1 s1 e1, Post om r s w r1 s1 w1 ∧ EnvRel om r1 L e1 a1.tmps ∧ a1.tmps.size = a.tmps.size ∧ a1.defers = a.defers ∧
          (∀ t, has t L = true → tb (wrCode rest 0) t = false → Env.get (slot L t) e1 = Env.get (slot L t) (topAll (slotsIn L mk L) e)) ∧
          After om L r s w a Q (oneLeft x.born cl id m e1 s1 (s1.at it)))) (n := 1) (.inl ⟨rfl, rfl, rfl⟩) ?_
        rintro k a1 w1 (⟨rfl, rfl, rfl⟩ | ⟨rfl, r1, s1, e1, hp, hen, hs1, hd1, hfr, ha⟩)
        · -- the round
          rcases next_run (P := P) (w := w1) h1 h3 (fun z hz => by simp at hz; subst hz; omega) (.inl fun z hz => by simp at hz; subst hz; omega) with ⟨hall, _⟩ | ⟨z, hz, _, w2, hr, g1, g2, g3, g4⟩
          · have := hall y (by simp)
            simp at this
          · simp at hz
            subst hz
            refine head_step hm hds hcs (t := true) (x := [z.key, z.val]) (fun ty => by rw [hpt']; exact hr ty) ?_
            show rest.wp P _ _ w2
            have h5 : w2.heap[pl.b]? = some (.mapIter (some q.b) since (#[].push z.born) cl) := by rw [g1]; simp [hlt]
            have hps : Post om r s w1 r (inRound s it (.mcur m x.born cl) s.ro) w2 := Post.swap sim hpl hro hlv
              (.inr ⟨_, h5, .mcur m q x.born cl pl since _ hq (by rw [hb]; rfl) hb0⟩) (fun b hb => by rw [g1, Array.getElem?_setIfInBounds_ne (Ne.symm hb)]) (by rw [g1, Array.size_setIfInBounds]) g2 g3 g4
            refine hcode L hL U rest N (topAll (slotsIn L mk L) e) (inRound s it (.mcur m x.born cl) s.ro) r w2 _ _ hf (by rw [psz]; exact hN) hps.sim (henv a1 _ _ hds hcs he0) ?_
            have hfr := exec_fr (P := P) (T := T) hL U n rest (topAll (slotsIn L mk L) e) (inRound s it (.mcur m x.born cl) s.ro)
            replace h : After om L r s w1 a1 Q (match exec T n (cCode P U L rest) (topAll (slotsIn L mk L) e) (inRound s it (.mcur m x.born cl) s.ro) with
              | .norm e' s' => oneLeft x.born cl id m e' s' (s'.at it)
              | r => r) := h
            generalize exec T n (cCode P U L rest) (topAll (slotsIn L mk L) e) (inRound s it (.mcur m x.born cl) s.ro) = res at h hfr
            cases res with
            | norm e2 s2 =>
              intro r3 w3 a3 k1 k2 k3 k4
              exact ⟨0, by omega, .inr ⟨rfl, r3, s2, e2, hps.trans k1, k2, k3.trans (psz _ _ _), k4.trans (pdf _ _ _), hfr, h⟩⟩
            | exit i e2 s2 => exact After.step (Q := Exit.then _ Q) (show After om L r s w1 a1 (Exit.then _ Q) (.exit i e2 s2) from h) hps (psz _ _ _) (pdf _ _ _)
            | ret e2 s2 => exact After.step (Q := Exit.then _ Q) (show After om L r s w1 a1 (Exit.then _ Q) (.ret e2 s2) from h) hps (psz _ _ _) (pdf _ _ _)
            | fail w => exact h.elim
        · -- behind it
          unfold oneLeft at ha
          split at ha
          · rename_i m' b' c' hat1
            cases hcond : band (Nat.beq m'.num m.num) (band (Nat.beq b' x.born) (Nat.beq c' cl)) with
            | false => rw [hcond] at ha; exact ha.elim
            | true =>
            rw [hcond] at ha
            rw [band_eq, band_eq, Bool.and_eq_true, Bool.and_eq_true] at hcond
            have em : m' = m := Id.num_inj (Nat.eq_of_beq_eq_true hcond.1)
            have eb := Nat.eq_of_beq_eq_true hcond.2.1
            have ec := Nat.eq_of_beq_eq_true hcond.2.2
            subst em eb ec
            have hpl1 : r1 it = some pl := hp.ext sim _ _ hpl
            have hq1 : r1 m' = some q := hp.ext sim _ _ hq
            obtain ⟨o1, j1, j2⟩ := hp.sim.sw.obj hpl1 (by rw [hat1]; intro e0; cases e0)
            rw [hat1] at j2
            cases j2 with
            | row _ _ _ _ _ _ _ _ hr => cases hr
            | mcur _ q' _ _ _ since1 seen1 hq' hback hb1 =>
            rw [hq1] at hq'
            cases hq'
            have hmem : x.born ∈ seen1 := Array.mem_of_back? hback
            have hcs1 : c < a1.tmps.size := by omega
            have hds1 : d < a1.tmps.size := by omega
            have hpt1 : a1.tmps.getD itt undef = .pointer (some ⟨pl.b, 0, none⟩) := by
              have h6 := hen itt hit
              rw [hfr itt hit hwi, topAll_fr hL itt hit hmi, hv] at h6
              generalize a1.tmps.getD itt undef = u at h6
              cases h6 with | ptr _ _ p2 hp2 =>
              rw [hpl1] at hp2
              cases hp2
              rw [hb0]
            have hen1 : ∀ x y, EnvRel om r1 L e1 ((a1.put (some d) x).put (some c) y).tmps := fun x y t ht => by
              by_cases htc : t = c
              · subst htc
                rw [hfr t ht hwc, topAll_top (.inl (slotsIn_has hmc ht))]
                exact .top _
              · rw [ptmp a1 x y hds1 hcs1 t (fun e0 => by subst e0; rw [hd] at ht; cases ht) htc]
                exact hen t ht
            have fin : ∀ {l1 : List ME} {c1 : Nat}, s1.at m' = .map l1 c1 → (∀ z ∈ l1, z.born = x.born) → After om L r s w a Q (.exit id e1 s1) →
                (Code.seq (.region rid ops false) (.seq (.cond (.tmp c) .skip (.exit id)) rest)).wp P (Exit.then (fun a' w' => ∃ k, k < 0 ∧ ((k = 1 ∧ a' = a ∧ w' = w) ∨ (k = 0 ∧ ∃ r1 s1 e1, Post om r s w r1 s1 w' ∧ EnvRel om r1 L e1 a'.tmps ∧ a'.tmps.size = a.tmps.size ∧ a'.defers = a.defers ∧
                  (∀ t, has t L = true → tb (wrCode rest 0) t = false → Env.get (slot L t) e1 = Env.get (slot L t) (topAll (slotsIn L mk L) e)) ∧
                  After om L r s w a Q (oneLeft x.born c' id m' e1 s1 (s1.at it))))) Q) a1 w1 := fun {l1 c1} hm1 hall ha => by
              obtain ⟨es1, j3, j4, -⟩ := hp.sim.sw.map (P := P) hq1 hm1
              have hall' : ∀ z ∈ es1, z.born = x.born := fun z hz => by
                obtain ⟨u, k1, k2⟩ := j4.mem hz
                rw [← k2]; exact hall u k1
              refine over (s1 := s1) (r1 := r1) (e1 := e1) ?_ hds1 hcs1 hs1 hd1 hp hen1 ha _
              intro ty
              rw [hpt1]
              rcases next_run (P := P) (w := w1) j1 j3 (fun z hz => by rw [hall' z (by simpa using hz)]; exact hxc) (.inr fun z hz => by rw [hall' z (by simpa using hz)]; exact hmem) with ⟨_, hr⟩ | ⟨z, hz, hn, _⟩
              · exact hr ty
              · exact absurd (by rw [hall' z (by simpa using hz)]; exact hmem) hn
            replace ha : After om L r s w a Q (match s1.at m' with
              | .map [y] _ => Bool.rec (motive := fun _ => Res) (.fail 162) (.exit id e1 s1) (Nat.beq y.born x.born)
              | .map [] _ => .exit id e1 s1
              | _ => .fail 163) := ha
            split at ha
            · rename_i y1 c1 hm1
              cases hyb : Nat.beq y1.born x.born with
              | false => rw [hyb] at ha; exact ha.elim
              | true =>
                rw [hyb] at ha
                exact fin hm1 (fun z hz => by rw [List.mem_singleton] at hz; subst hz; exact Nat.eq_of_beq_eq_true hyb) ha
            · rename_i c1 hm1
              exact fin hm1 (fun z hz => by cases hz) ha
            · exact ha.elim
          · exact ha.elim
      · -- a search
        rename_i l2 hl1 hl2
        cases hcond : band (s.may it) (band (allBorn l since) (allBorn l cl)) with
        | false => rw [hcond] at h; exact h.elim
        | true =>
        rw [hcond] at h
        rw [band_eq, band_eq, Bool.and_eq_true, Bool.and_eq_true] at hcond
        have hro := St.may_ro hcond.1
        have hbs := allBorn_mem hcond.2.1
        have hbc := allBorn_mem hcond.2.2
        generalize hee : topAll (slotsIn L mk L) e = ee at h
        replace h : After om L r s w a Q (leaves id (mSearch (exec T n) (cCode P U L rest) ee s it m cl none l)) := h
        have hnf : ∀ x, mSearch (exec T n) (cCode P U L rest) ee s it m cl none l ≠ .fail x := fun x hx => by rw [hx] at h; exact h.elim
        refine wp_loopN (fun k a1 w1 => ∃ (seen : Array Nat) (blk : Blk) (last : Nat), (∀ x ∈ l, x.born < last) ∧ blk ≠ .none ∧ Sim om r (inRound s it blk s.ro) w1 ∧ w1.heap[pl.b]? = some (.mapIter (some q.b) since seen last) ∧
          (l.filter fun x => !seen.contains x.born).length = k ∧ w.heap.size ≤ w1.heap.size ∧ (∀ b, b < w.heap.size → b ≠ pl.b → w1.heap[b]? = w.heap[b]?) ∧ w1.os = w.os ∧ w1.tape = w.tape ∧ w1.output = w.output ∧
          (∀ t, has t L = true → tb mk t = false → VRel om r (Env.get (slot L t) e) (a1.tmps.getD t undef)) ∧ a1.tmps.size = a.tmps.size ∧ a1.defers = a.defers ∧
          (∀ b ∈ seen, ∃ e' s', exec T n (cCode P U L rest) ee (inRound s it (.mcur m b cl) s.n.num) = .norm e' s')) (n := (l.filter fun x => !(#[] : Array Nat).contains x.born).length)
          ⟨#[], s.at it, since, hbs, hlv, Sim.congr sim (fun i => by rw [inRound_at]; split <;> first | (rename_i e0; rw [e0]) | rfl) rfl sim.ron, h1, rfl, Nat.le_refl _, fun _ _ _ => rfl, rfl, rfl, rfl, he0, rfl, rfl, fun b hb => by simp at hb⟩ ?_
        rintro k a1 w1 ⟨seen, blk, last, hlst, hblk, sim1, hit1, hk, hgr, hho, hos, htp, hout, hen, hs1, hd1, hseen⟩
        have hds1 : d < a1.tmps.size := by omega
        have hcs1 : c < a1.tmps.size := by omega
        have hpt1 : a1.tmps.getD itt undef = .pointer (some ⟨pl.b, 0, none⟩) := by
          have h6 := hen itt hit hmi
          rw [hv] at h6
          generalize a1.tmps.getD itt undef = u at h6
          cases h6 with | ptr _ _ p2 hp2 =>
          rw [hpl] at hp2
          cases hp2
          rw [hb0]
        have hmap1 : (inRound s it blk s.ro).at m = .map l cl := by rw [inRound_at, if_neg hne]; exact hmap
        obtain ⟨es1, j3, j4, -⟩ := sim1.sw.map (P := P) hq hmap1
        have hatit : (inRound s it blk s.ro).at it ≠ .none := by rw [inRound_at, if_pos rfl]; exact hblk
        have toRound : ∀ {b : Blk} {w2 : World} {ro : Nat}, ro ≤ s.n.num → Post om r (inRound s it blk s.ro) w1 r (inRound (inRound s it blk s.ro) it b s.ro) w2 → Sim om r (inRound s it b ro) w2 := fun {b w2 ro} hron hp =>
          Sim.congr hp.sim (fun i => by rw [inRound_at, inRound_at, inRound_at]; split <;> rfl) rfl hron
        rcases next_run (P := P) (w := w1) hit1 j3 (fun z hz => by obtain ⟨u, k1, k2⟩ := j4.mem (by simpa using hz); rw [← k2]; exact hlst u k1)
          (.inl fun z hz => by obtain ⟨u, k1, k2⟩ := j4.mem (by simpa using hz); rw [← k2]; exact hbs u k1) with ⟨hall, hr⟩ | ⟨z, hz, hzn, w2, hr, g1, g2, g3, g4⟩
        · -- all entries have been looked at
          have hallN : ∀ x ∈ l, ∃ e' s', exec T n (cCode P U L rest) ee (inRound s it (.mcur m x.born cl) s.n.num) = .norm e' s' := fun x hx => by
            obtain ⟨y, k1, k2⟩ := j4.mem' hx
            exact hseen _ (by rw [← k2]; exact hall y (by simpa using k1))
          rw [mSearch_all hallN] at h
          have hp0 : Post om r (inRound s it blk s.ro) w1 r (inRound (inRound s it blk s.ro) it .none s.ro) w1 := Post.swap sim1 hpl hro hatit (.inl rfl) (fun _ _ => rfl) rfl rfl rfl rfl
          have hsim0 := toRound (ro := s.ro) sim.ron hp0
          have hp : Post om r s w r (inRound s it .none s.ro) w1 := by
            refine ⟨fun _ _ => rfl, hsim0, Nat.le_refl _, hgr, fun b hb hn => hho b hb fun e0 => hn ⟨it, pl, hlv, hro, hpl, e0.symm⟩, ?_, rfl, ?_, hos, htp, hout⟩
            · rintro b hb ⟨j, q2, k1, k2, k3, k4⟩
              rw [inRound_at] at k1
              split at k1
              · exact absurd rfl k1
              · exact ⟨j, q2, k1, k2, k3, k4⟩
            · intro i hi
              have hi' : i.num < s.ro := hi
              rw [inRound_at, if_neg fun e0 => by subst e0; omega]
          refine over (s1 := inRound s it .none s.ro) (r1 := r) (e1 := ee) (fun ty => by rw [hpt1]; exact hr ty) hds1 hcs1 hs1 hd1 hp (fun x y => by rw [← hee]; exact henv a1 x y hds1 hcs1 hen) h _
        · -- one more
          refine head_step hm hds1 hcs1 (t := true) (x := [z.key, z.val]) (fun ty => by rw [hpt1]; exact hr ty) ?_
          show rest.wp P _ _ w2
          obtain ⟨x, hxl, hxb⟩ := j4.mem (show z ∈ es1 by simpa using hz)
          have hlt1 : pl.b < w1.heap.size := Nat.lt_of_lt_of_le hlt hgr
          have h5 : w2.heap[pl.b]? = some (.mapIter (some q.b) since (seen.push z.born) cl) := by rw [g1]; simp [hlt1]
          have hho2 : ∀ b, b ≠ pl.b → w2.heap[b]? = w1.heap[b]? := fun b hb => by rw [g1, Array.getElem?_setIfInBounds_ne (Ne.symm hb)]
          have hsz2 : w2.heap.size = w1.heap.size := by rw [g1, Array.size_setIfInBounds]
          have hps : Post om r (inRound s it blk s.ro) w1 r (inRound (inRound s it blk s.ro) it (.mcur m x.born cl) s.ro) w2 := Post.swap sim1 hpl hro hatit
              (.inr ⟨_, h5, .mcur m q x.born cl pl since _ hq (by rw [hxb]; simp) hb0⟩) hho2 hsz2 g2 g3 g4
          have sim2 : Sim om r (inRound s it (.mcur m x.born cl) s.n.num) w2 := toRound (Nat.le_refl _) hps
          have he2 := henv a1 (.tuple [.bool true, z.key, z.val].toArray) (.bool true) hds1 hcs1 hen
          rw [hee] at he2
          refine hcode L hL U rest N ee (inRound s it (.mcur m x.born cl) s.n.num) r w2 _ _ hf (by rw [psz]; omega) sim2 he2 ?_
          have hfr := exec_fr (P := P) (T := T) hL U n rest ee (inRound s it (.mcur m x.born cl) s.n.num)
          have post : ∀ {r3 s3 w3}, Post om r (inRound s it (.mcur m x.born cl) s.n.num) w2 r3 s3 w3 → Post om r s w r3 ⟨s3.h, s3.n, s.ro⟩ w3 := fun {r3 s3 w3} hp3 =>
            Post.round sim hpl hro hlv (by omega) (fun b hb hbn => by rw [hho2 b hbn]; exact hho b hb hbn) (g2.trans hos) (g3.trans htp) (g4.trans hout) sim2 hp3
          rcases mSearch_one hnf hxl with ⟨e', s', hex⟩ | ⟨i, e', s', hex, hres⟩ | ⟨e', s', hex, hres⟩
          · rw [hex] at hfr ⊢
            intro r3 w3 a3 k1 k2 k3 k4
            have hnoW : ∀ b, ¬ Wr r (inRound s it (.mcur m x.born cl) s.n.num) b := by
              rintro b ⟨j, q2, i1, i2, i3, i4⟩
              exact i1 (sim2.no j i2)
            have hkeep : ∀ b, b < w2.heap.size → w3.heap[b]? = w2.heap[b]? := fun b hb => k1.keep b hb (hnoW b)
            have hgr3 := k1.grow
            refine ⟨((l.filter fun y => !(seen.push x.born).contains y.born).length), ?_, seen.push x.born, .mcur m x.born cl, cl, hbc, (by intro e0; cases e0), ?_, ?_, rfl, (by omega), ?_, (by rw [k1.os, g2, hos]), (by rw [k1.tape, g3, htp]), (by rw [k1.out, g4, hout]), ?_,
              (by rw [k3, psz, hs1]), (by rw [k4, pdf, hd1]), ?_⟩
            · rw [← hk]
              refine filter_less (fun y hy hq2 => ?_) ⟨x, hxl, ?_, ?_⟩
              · simp at hq2 ⊢
                exact hq2.1
              · simp; rw [hxb]; exact hzn
              · simp
            · -- the old state stands
              refine ⟨⟨fun i hi => ?_, fun i j pi pj hi hj => ?_⟩, fun i p2 hp2 => ?_, fun i hi => ?_, sim.ron⟩
              · obtain ⟨p2, o2, i1, i2, i3⟩ := sim2.sw.live i (by rw [inRound_at] at hi ⊢; exact hi)
                refine ⟨p2, o2, i1, by rw [hkeep _ (sim2.dom i p2 i1).2]; exact i2, by rw [inRound_at] at i3 ⊢; exact i3⟩
              · exact sim2.sw.inj i j pi pj (by rw [inRound_at] at hi ⊢; exact hi) (by rw [inRound_at] at hj ⊢; exact hj)
              · have := sim2.dom i p2 hp2
                exact ⟨this.1, by omega⟩
              · have := sim2.no i hi
                rw [inRound_at] at this ⊢
                exact this
            · rw [hkeep _ (by omega), h5, hxb]
            · intro b hb hbn
              rw [hkeep _ (by omega), hho2 b hbn]
              exact hho b hb hbn
            · intro t ht hmt
              have h6 := k2 t ht
              have htm : tb (wrCode rest 0) t = false := by
                rw [hmask] at hmt
                cases hq3 : tb (wrCode rest 0) t with
                | false => rfl
                | true => rw [hq3, Bool.or_true] at hmt; cases hmt
              rw [hfr t ht htm, ← hee, topAll_fr hL t ht hmt] at h6
              exact VRel.back (k1.ext sim2) _ _ _ (hen t ht hmt) h6
            · intro b hb
              rcases Array.mem_push.1 hb with hb | hb
              · exact hseen b hb
              · subst hb; exact ⟨e', s', hex⟩
          · rw [hex]
            rw [hres] at h
            intro r3 w3 a3 k1 k2 k3 k4
            exact h r3 w3 a3 (post k1) k2 (k3.trans ((psz _ _ _).trans hs1)) (k4.trans ((pdf _ _ _).trans hd1))
          · rw [hex]
            rw [hres] at h
            intro r3 w3 a3 k1 k2 k3 k4
            exact h r3 w3 a3 (post k1) k2 (k3.trans ((psz _ _ _).trans hs1)) (k4.trans ((pdf _ _ _).trans hd1))
    · exact h.elim
  · exact h.elim
end
end Go.Cx
