/-
  The table of law29's functions that are taken at once.
-/
import Derived.Test.YthelepbkbjgjbaaGreatS8
import Derived.Shelf.SlIterI.Nil
import Derived.Shelf.SortM.Plain
import Derived.Shelf.SortM.SortNone
import Derived.Test.YthelepbkbjgjbaaGreatProg
import Derived.KernelRfl
set_option linter.unusedVariables false
set_option linter.unusedSimpArgs false
/-! ## The program's functions that are taken at once. -/
namespace Go.Proofs
open Go.RowKit Go.Maps Go.Sort Go.Shelf

def Tryz.keysA_ren : Go.Shelf.Ren := ⟨fun | 7 => 59 | 10 => 158 | n => n, fun | 23 => 46 | 26 => 3 | 3 => 3 | 28 => 144 | 0 => 0 | 27 => 143 | 33 => 96 | 4 => 4 | n => n, fun | n => n⟩
theorem Tryz.keysA : Go.Proofs.SlLaysZI.n7 Tryz.prog Tryz.keysA_ren := {
  mixed := by kernel_rfl
  f7 := ⟨Tryz.f59.name, by decide, Tryz.func59.trans (congrArg some (by kernel_rfl))⟩
  f10 := ⟨Tryz.f158.name, by decide, Tryz.func158.trans (congrArg some (by kernel_rfl))⟩
  t0 := Tryz.underlying0
  a0 := Tryz.isAgg0
  z0 := Tryz.sizeOf0
  v0 := Tryz.zeroValue0
  t4 := Tryz.underlying4
  a4 := Tryz.isAgg4
  z4 := Tryz.sizeOf4
  v4 := Tryz.zeroValue4
  t23 := Tryz.underlying46
  a23 := Tryz.isAgg46
  z23 := Tryz.sizeOf46
  v23 := Tryz.zeroValue46
  t26 := Tryz.underlying3
  a26 := Tryz.isAgg3
  z26 := Tryz.sizeOf3
  v26 := Tryz.zeroValue3
  t27 := Tryz.underlying143
  a27 := Tryz.isAgg143
  z27 := Tryz.sizeOf143
  v27 := Tryz.zeroValue143
  t28 := Tryz.underlying144
  a28 := Tryz.isAgg144
  z28 := Tryz.sizeOf144
  v28 := Tryz.zeroValue144
  t33 := Tryz.underlying96
  a33 := Tryz.isAgg96
  z33 := Tryz.sizeOf96
  v33 := Tryz.zeroValue96 }
def Tryz.keysB_ren : Go.Shelf.Ren := ⟨fun | 7 => 243 | 10 => 395 | n => n, fun | 23 => 220 | 26 => 3 | 3 => 236 | 28 => 144 | 0 => 0 | 27 => 143 | 33 => 96 | 4 => 4 | n => n, fun | n => n⟩
theorem Tryz.keysB : Go.Proofs.SlLaysZI.n7 Tryz.prog Tryz.keysB_ren := {
  mixed := by kernel_rfl
  f7 := ⟨Tryz.f243.name, by decide, Tryz.func243.trans (congrArg some (by kernel_rfl))⟩
  f10 := ⟨Tryz.f395.name, by decide, Tryz.func395.trans (congrArg some (by kernel_rfl))⟩
  t0 := Tryz.underlying0
  a0 := Tryz.isAgg0
  z0 := Tryz.sizeOf0
  v0 := Tryz.zeroValue0
  t4 := Tryz.underlying4
  a4 := Tryz.isAgg4
  z4 := Tryz.sizeOf4
  v4 := Tryz.zeroValue4
  t23 := Tryz.underlying220
  a23 := Tryz.isAgg220
  z23 := Tryz.sizeOf220
  v23 := Tryz.zeroValue220
  t26 := Tryz.underlying3
  a26 := Tryz.isAgg3
  z26 := Tryz.sizeOf3
  v26 := Tryz.zeroValue3
  t27 := Tryz.underlying143
  a27 := Tryz.isAgg143
  z27 := Tryz.sizeOf143
  v27 := Tryz.zeroValue143
  t28 := Tryz.underlying144
  a28 := Tryz.isAgg144
  z28 := Tryz.sizeOf144
  v28 := Tryz.zeroValue144
  t33 := Tryz.underlying96
  a33 := Tryz.isAgg96
  z33 := Tryz.sizeOf96
  v33 := Tryz.zeroValue96 }
def Tryz.keysC_ren : Go.Shelf.Ren := ⟨fun | 7 => 454 | 10 => 534 | n => n, fun | 23 => 147 | 26 => 3 | 3 => 326 | 28 => 144 | 0 => 0 | 27 => 143 | 33 => 96 | 4 => 4 | n => n, fun | n => n⟩
theorem Tryz.keysC : Go.Proofs.SlLaysZI.n7 Tryz.prog Tryz.keysC_ren := {
  mixed := by kernel_rfl
  f7 := ⟨Tryz.f454.name, by decide, Tryz.func454.trans (congrArg some (by kernel_rfl))⟩
  f10 := ⟨Tryz.f534.name, by decide, Tryz.func534.trans (congrArg some (by kernel_rfl))⟩
  t0 := Tryz.underlying0
  a0 := Tryz.isAgg0
  z0 := Tryz.sizeOf0
  v0 := Tryz.zeroValue0
  t4 := Tryz.underlying4
  a4 := Tryz.isAgg4
  z4 := Tryz.sizeOf4
  v4 := Tryz.zeroValue4
  t23 := Tryz.underlying147
  a23 := Tryz.isAgg147
  z23 := Tryz.sizeOf147
  v23 := Tryz.zeroValue147
  t26 := Tryz.underlying3
  a26 := Tryz.isAgg3
  z26 := Tryz.sizeOf3
  v26 := Tryz.zeroValue3
  t27 := Tryz.underlying143
  a27 := Tryz.isAgg143
  z27 := Tryz.sizeOf143
  v27 := Tryz.zeroValue143
  t28 := Tryz.underlying144
  a28 := Tryz.isAgg144
  z28 := Tryz.sizeOf144
  v28 := Tryz.zeroValue144
  t33 := Tryz.underlying96
  a33 := Tryz.isAgg96
  z33 := Tryz.sizeOf96
  v33 := Tryz.zeroValue96 }
def Tryz.sortedA_ren : Go.Shelf.Ren := ⟨fun | 6 => 58 | 8 => 156 | 9 => 157 | 11 => 272 | 13 => 274 | 12 => 273 | 23 => 419 | 24 => 420 | 14 => 410 | 15 => 411 | 16 => 412 | 17 => 413 | 18 => 414 | 19 => 415 | 20 => 416 | 21 => 417 | 22 => 418 | 25 => 510 | 26 => 511 | 27 => 512 | 28 => 513 | 29 => 514 | 30 => 515 | 31 => 573 | n => n, fun | 26 => 3 | 28 => 144 | 24 => 43 | 0 => 0 | 3 => 3 | 37 => 276 | 48 => 60 | 50 => 102 | 4 => 4 | 40 => 544 | 39 => 543 | 45 => 90 | 5 => 5 | 9 => 9 | 51 => 633 | 55 => 242 | 57 => 683 | 58 => 684 | 33 => 96 | n => n, fun | n => n⟩
theorem Tryz.sortedA : Go.Proofs.SlLaysZI.n6 Tryz.prog Tryz.sortedA_ren := {
  mixed := by kernel_rfl
  f6 := ⟨Tryz.f58.name, by decide, Tryz.func58.trans (congrArg some (by kernel_rfl))⟩
  f8 := ⟨Tryz.f156.name, by decide, Tryz.func156.trans (congrArg some (by kernel_rfl))⟩
  f11 := ⟨Tryz.f272.name, by decide, Tryz.func272.trans (congrArg some (by kernel_rfl))⟩
  t0 := Tryz.underlying0
  a0 := Tryz.isAgg0
  z0 := Tryz.sizeOf0
  v0 := Tryz.zeroValue0
  t24 := Tryz.underlying43
  a24 := Tryz.isAgg43
  z24 := Tryz.sizeOf43
  v24 := Tryz.zeroValue43
  t26 := Tryz.underlying3
  a26 := Tryz.isAgg3
  z26 := Tryz.sizeOf3
  v26 := Tryz.zeroValue3
  t28 := Tryz.underlying144
  a28 := Tryz.isAgg144
  z28 := Tryz.sizeOf144
  v28 := Tryz.zeroValue144
  i26 := by kernel_rfl }
def Tryz.sortA_ren : Go.Shelf.Ren := ⟨fun | 5 => 157 | 8 => 274 | 7 => 273 | 19 => 419 | 20 => 420 | 10 => 410 | 11 => 411 | 12 => 412 | 13 => 413 | 14 => 414 | 15 => 415 | 16 => 416 | 17 => 417 | 18 => 418 | 30 => 510 | 31 => 511 | 32 => 512 | 33 => 513 | 34 => 514 | 35 => 515 | 40 => 573 | n => n, fun | 23 => 43 | 25 => 3 | 3 => 3 | 32 => 276 | 22 => 43 | 0 => 0 | 44 => 60 | 46 => 102 | 4 => 4 | 36 => 544 | 35 => 543 | 41 => 90 | 5 => 5 | 9 => 9 | 53 => 633 | 57 => 242 | 63 => 683 | 64 => 684 | n => n, fun | n => n⟩
theorem Tryz.sortA : Go.Proofs.SlLaysM.n5 Tryz.prog Tryz.sortA_ren := {
  mixed := by kernel_rfl
  f5 := ⟨Tryz.f157.name, by decide, Tryz.func157.trans (congrArg some (by kernel_rfl))⟩
  f7 := ⟨Tryz.f273.name, by decide, Tryz.func273.trans (congrArg some (by kernel_rfl))⟩
  f8 := Tryz.func274.trans (congrArg some (by kernel_rfl))
  f10 := ⟨Tryz.f410.name, by decide, Tryz.func410.trans (congrArg some (by kernel_rfl))⟩
  f11 := ⟨Tryz.f411.name, by decide, Tryz.func411.trans (congrArg some (by kernel_rfl))⟩
  f12 := ⟨Tryz.f412.name, by decide, Tryz.func412.trans (congrArg some (by kernel_rfl))⟩
  f13 := ⟨Tryz.f413.name, by decide, Tryz.func413.trans (congrArg some (by kernel_rfl))⟩
  f14 := ⟨Tryz.f414.name, by decide, Tryz.func414.trans (congrArg some (by kernel_rfl))⟩
  f15 := ⟨Tryz.f415.name, by decide, Tryz.func415.trans (congrArg some (by kernel_rfl))⟩
  f16 := ⟨Tryz.f416.name, by decide, Tryz.func416.trans (congrArg some (by kernel_rfl))⟩
  f17 := ⟨Tryz.f417.name, by decide, Tryz.func417.trans (congrArg some (by kernel_rfl))⟩
  f18 := ⟨Tryz.f418.name, by decide, Tryz.func418.trans (congrArg some (by kernel_rfl))⟩
  f19 := Tryz.func419.trans (congrArg some (by kernel_rfl))
  f20 := Tryz.func420.trans (congrArg some (by kernel_rfl))
  f30 := ⟨Tryz.f510.name, by decide, Tryz.func510.trans (congrArg some (by kernel_rfl))⟩
  f31 := Tryz.func511.trans (congrArg some (by kernel_rfl))
  f32 := Tryz.func512.trans (congrArg some (by kernel_rfl))
  f33 := ⟨Tryz.f513.name, by decide, Tryz.func513.trans (congrArg some (by kernel_rfl))⟩
  f34 := ⟨Tryz.f514.name, by decide, Tryz.func514.trans (congrArg some (by kernel_rfl))⟩
  f35 := ⟨Tryz.f515.name, by decide, Tryz.func515.trans (congrArg some (by kernel_rfl))⟩
  f40 := ⟨Tryz.f573.name, by decide, Tryz.func573.trans (congrArg some (by kernel_rfl))⟩
  t0 := Tryz.underlying0
  a0 := Tryz.isAgg0
  z0 := Tryz.sizeOf0
  v0 := Tryz.zeroValue0
  t3 := Tryz.underlying3
  a3 := Tryz.isAgg3
  z3 := Tryz.sizeOf3
  v3 := Tryz.zeroValue3
  t4 := Tryz.underlying4
  a4 := Tryz.isAgg4
  z4 := Tryz.sizeOf4
  v4 := Tryz.zeroValue4
  t5 := Tryz.underlying5
  a5 := Tryz.isAgg5
  z5 := Tryz.sizeOf5
  v5 := Tryz.zeroValue5
  t9 := Tryz.underlying9
  a9 := Tryz.isAgg9
  z9 := Tryz.sizeOf9
  v9 := Tryz.zeroValue9
  t22 := Tryz.underlying43
  a22 := Tryz.isAgg43
  z22 := Tryz.sizeOf43
  v22 := Tryz.zeroValue43
  t23 := Tryz.underlying43
  a23 := Tryz.isAgg43
  z23 := Tryz.sizeOf43
  v23 := Tryz.zeroValue43
  t25 := Tryz.underlying3
  a25 := Tryz.isAgg3
  z25 := Tryz.sizeOf3
  v25 := Tryz.zeroValue3
  t32 := Tryz.underlying276
  a32 := Tryz.isAgg276
  z32 := Tryz.sizeOf276
  v32 := Tryz.zeroValue276
  t35 := Tryz.underlying543
  a35 := Tryz.isAgg543
  z35 := Tryz.sizeOf543
  v35 := Tryz.zeroValue543
  t36 := Tryz.underlying544
  a36 := Tryz.isAgg544
  z36 := Tryz.sizeOf544
  v36 := Tryz.zeroValue544
  t41 := Tryz.underlying90
  a41 := Tryz.isAgg90
  z41 := Tryz.sizeOf90
  v41 := Tryz.zeroValue90
  t44 := Tryz.underlying60
  a44 := Tryz.isAgg60
  z44 := Tryz.sizeOf60
  v44 := Tryz.zeroValue60
  t46 := Tryz.underlying102
  a46 := Tryz.isAgg102
  z46 := Tryz.sizeOf102
  v46 := Tryz.zeroValue102
  t53 := Tryz.underlying633
  a53 := Tryz.isAgg633
  z53 := Tryz.sizeOf633
  v53 := Tryz.zeroValue633
  t57 := Tryz.underlying242
  a57 := Tryz.isAgg242
  z57 := Tryz.sizeOf242
  v57 := Tryz.zeroValue242
  t63 := Tryz.underlying683
  a63 := Tryz.isAgg683
  z63 := Tryz.sizeOf683
  v63 := Tryz.zeroValue683
  t64 := Tryz.underlying684
  a64 := Tryz.isAgg684
  z64 := Tryz.sizeOf684
  v64 := Tryz.zeroValue684 }

theorem Tryz.sortsA (m : Nat) : AnyZI.SortsIn Tryz.prog Tryz.sortedA_ren Fence.wide m :=
  ⟨fun blk off cap ss W hH hblk hsz => callsIn_wide.2 (AnyM.slices_Sort_int Tryz.sortA blk off cap ss W hH hblk hsz),
   fun p cap W => callsIn_wide.2 (AnyM.slices_Sort_int_none Tryz.sortA p cap W)⟩

set_option maxHeartbeats 1000000 in
theorem Tryz.sortedAt {k : FuncId} {S : List Int → Prop} {N : Nat} {w : World} {Bm : Nat} (hen : ∀ args w, (callFunc k args).run Tryz.prog w = .ok (.enter k args) w) (hmax : N ≤ maxLen) (hbytes : N * 8 ≤ 140737488355328)
    (hseq : SeqGives Fence.wide 2 Tryz.prog k #[.pointer (some ⟨Bm, 0, none⟩)] encZ S N w) :
    Calls Tryz.prog 58 #[.func (.func k) #[] #[.pointer (some ⟨Bm, 0, none⟩)]] w fun e w' => ∃ (v : Value) (ss : List Int), e = .returned v ∧ S ss ∧
      w'.ownsRow w.heap.size 3 1 v ss.length ((ss.mergeSort (fun x y => decide (x ≤ y))).map encZ) ∧ (v = .slice none 0 0 ↔ ss = []) ∧ Below w.heap.size w w' :=
  callsIn_wide.1 (AnyZI.sorted_in Tryz.sortedA Fence.wide 5 trivial trivial trivial trivial rfl (by omega) (Tryz.sortsA _) (enters_of Tryz.func157 (by kernel_rfl) rfl) k #[.pointer (some ⟨Bm, 0, none⟩)] trivial hen _ _ hmax hbytes _ hseq)

theorem Tryz.sortedA_ok : Go.Cx.SortedOK Tryz.prog 58 158 3 := {
  key := by kernel_rfl
  some_ w Bm b nn D0 R hB hc ho hm hb := Tryz.sortedAt (enters_of Tryz.func158 (by kernel_rfl) rfl) hm hb (AnyZI.keys_gives (ρ := Tryz.keysA_ren) { Tryz.keysA with } Fence.wide 2 trivial rfl (by omega) Bm b nn D0 w hB hc ho)
  none_ w Bm hB hc := Calls.mono (Tryz.sortedAt (N := 0) (enters_of Tryz.func158 (by kernel_rfl) rfl) (Nat.zero_le _) (by omega) (AnyZI.keys_gives_nil (ρ := Tryz.keysA_ren) { Tryz.keysA with } Fence.wide 2 trivial rfl Bm w hB hc)) fun e w' ⟨v, ss, h1, h2, h3, h4, h5⟩ => ⟨by rw [h1, h4.2 h2], h5⟩
  enter := enters_of Tryz.func58 (by kernel_rfl) rfl }
theorem Tryz.sortedB_ok : Go.Cx.SortedOK Tryz.prog 58 395 3 := {
  key := by kernel_rfl
  some_ w Bm b nn D0 R hB hc ho hm hb := Tryz.sortedAt (enters_of Tryz.func395 (by kernel_rfl) rfl) hm hb (AnyZI.keys_gives (ρ := Tryz.keysB_ren) { Tryz.keysB with } Fence.wide 2 trivial rfl (by omega) Bm b nn D0 w hB hc ho)
  none_ w Bm hB hc := Calls.mono (Tryz.sortedAt (N := 0) (enters_of Tryz.func395 (by kernel_rfl) rfl) (Nat.zero_le _) (by omega) (AnyZI.keys_gives_nil (ρ := Tryz.keysB_ren) { Tryz.keysB with } Fence.wide 2 trivial rfl Bm w hB hc)) fun e w' ⟨v, ss, h1, h2, h3, h4, h5⟩ => ⟨by rw [h1, h4.2 h2], h5⟩
  enter := enters_of Tryz.func58 (by kernel_rfl) rfl }
theorem Tryz.sortedC_ok : Go.Cx.SortedOK Tryz.prog 58 534 3 := {
  key := by kernel_rfl
  some_ w Bm b nn D0 R hB hc ho hm hb := Tryz.sortedAt (enters_of Tryz.func534 (by kernel_rfl) rfl) hm hb (AnyZI.keys_gives (ρ := Tryz.keysC_ren) { Tryz.keysC with } Fence.wide 2 trivial rfl (by omega) Bm b nn D0 w hB hc ho)
  none_ w Bm hB hc := Calls.mono (Tryz.sortedAt (N := 0) (enters_of Tryz.func534 (by kernel_rfl) rfl) (Nat.zero_le _) (by omega) (AnyZI.keys_gives_nil (ρ := Tryz.keysC_ren) { Tryz.keysC with } Fence.wide 2 trivial rfl Bm w hB hc)) fun e w' ⟨v, ss, h1, h2, h3, h4, h5⟩ => ⟨by rw [h1, h4.2 h2], h5⟩
  enter := enters_of Tryz.func58 (by kernel_rfl) rfl }

theorem Tryz.keysA_ok : Go.Cx.KeysOK Tryz.prog 59 158 (Tryz.keysA_ren.t 23) := {
  call mb w := callsIn_wide.1 (AnyZI.keys_in Tryz.keysA Fence.wide 5 trivial rfl mb w)
  enter := enters_of Tryz.func59 (by kernel_rfl) rfl }
theorem Tryz.keysB_ok : Go.Cx.KeysOK Tryz.prog 243 395 (Tryz.keysB_ren.t 23) := {
  call mb w := callsIn_wide.1 (AnyZI.keys_in Tryz.keysB Fence.wide 5 trivial rfl mb w)
  enter := enters_of Tryz.func243 (by kernel_rfl) rfl }
theorem Tryz.keysC_ok : Go.Cx.KeysOK Tryz.prog 454 534 (Tryz.keysC_ren.t 23) := {
  call mb w := callsIn_wide.1 (AnyZI.keys_in Tryz.keysC Fence.wide 5 trivial rfl mb w)
  enter := enters_of Tryz.func454 (by kernel_rfl) rfl }
end Go.Proofs

/-! ## The table of functions that are taken at once. -/
set_option maxRecDepth 100000
namespace Go.Proofs
open Go.Cx

noncomputable def Tryz.T0 : Tab := { fn := fun f => cFnC Tryz.prog f, meth := fun _ _ => none, summ := fun _ => none }
theorem Tryz.mixes : Tryz.prog.follows .mixedOrders = true := by kernel_rfl
theorem Tryz.T0_ok (om : Nat → Value) : TabOK Tryz.prog om Tryz.T0 := ⟨fun t ms f h => (by cases h), fun f x h => h, fun f g h => (by cases h)⟩
theorem Tryz.sumCode : cFnC Tryz.prog 322 = some sumFn := by kernel_rfl
theorem Tryz.findCode : cFnC Tryz.prog 535 = some findFn := by kernel_rfl
theorem Tryz.lookCode : cFnC Tryz.prog 460 = some lookFn := by kernel_rfl

def Tryz.bp (n : Nat) : String := (["world.go:553", "world.go:554", "world.go:554", "world.go:554", "world.go:554", "world.go:555", "world.go:555", "world.go:555", "world.go:556", "world.go:558", "world.go:558", "world.go:558"] : List String).getD n ""
def Tryz.be (n : Nat) : Array Edge := ([#[], #[], #[], #[⟨0, .data⟩, ⟨1, .data⟩], #[⟨2, .data⟩, ⟨0, .phase⟩, ⟨1, .phase⟩, ⟨2, .phase⟩], #[], #[], #[⟨0, .data⟩, ⟨1, .data⟩], #[], #[], #[⟨0, .data⟩], #[⟨1, .data⟩, ⟨1, .chain⟩, ⟨0, .phase⟩, ⟨1, .phase⟩]] : List (Array Edge)).getD n #[]
def Tryz.bt (n : Nat) : TypeId := ([102, 183, 183, 183, 183, 183, 183, 4, 102, 183, 102, 102] : List Nat).getD n 0
noncomputable def Tryz.bc : Code := (Tryz.f102.body).getD .skip
theorem Tryz.bcBody : Tryz.f102.body = some Tryz.bc := by kernel_rfl
noncomputable def Tryz.bitsBody : BitsBody 183 183 200 Tryz.bc := {
  p := Tryz.bp
  e := Tryz.be
  ty := Tryz.bt
  eq := by kernel_rfl }

theorem Tryz.bitsName : Tryz.f102.name ≠ "runtime.NumGoroutine" := by
  have : (Tryz.f102.name == "runtime.NumGoroutine") = false := by kernel_rfl
  simpa using this
theorem Tryz.f64bits (z : Nat) (w : World) : (callFunc 200 #[.float .f64 z]).run Tryz.prog w = .ok (.value (.int .u64 z)) w := by
  rw [run_callFunc_extern (e := Extern.MathFloatBits.float64bits) Tryz.func200 (by kernel_rfl) (by kernel_rfl) (by kernel_rfl) (by kernel_rfl)]
  rfl

noncomputable def Tryz.T1 : Tab := { fn := fun f => cFnC Tryz.prog f, meth := fun _ _ => none, summ := fun f => if Nat.beq f 322 then some sumSum else if Nat.beq f 535 then some (sumFind 460) else if Nat.beq f 102 then some sumBits else if Nat.beq f 662 then some sumIdx else if Nat.beq f 58 then some (sumKeys [158, 395, 534]) else if Nat.beq f 59 then some (sumMk 158) else if Nat.beq f 243 then some (sumMk 395) else if Nat.beq f 454 then some (sumMk 534) else none }

theorem Tryz.T1_ok (om : Nat → Value) : TabOK Tryz.prog om Tryz.T1 := by
  refine ⟨fun t ms f h => (by cases h), fun f x h => h, fun f g h args s v s' hg r w xs sim hx => ?_⟩
  replace h : (if Nat.beq f 322 then some sumSum else if Nat.beq f 535 then some (sumFind 460) else if Nat.beq f 102 then some sumBits else if Nat.beq f 662 then some sumIdx else if Nat.beq f 58 then some (sumKeys [158, 395, 534]) else if Nat.beq f 59 then some (sumMk 158) else if Nat.beq f 243 then some (sumMk 395) else if Nat.beq f 454 then some (sumMk 534) else none) = some g := h
  split at h
  · rename_i hf
    cases Nat.eq_of_beq_eq_true hf
    cases h
    obtain ⟨k, hk⟩ := sum_fn (T := Tryz.T0) (f := 322) rfl Tryz.sumCode hg
    exact machine_sound Tryz.mixes (Tryz.T0_ok om) k 322 args s v s' hk r w xs sim hx
  split at h
  · rename_i hf
    cases Nat.eq_of_beq_eq_true hf
    cases h
    obtain ⟨k, hk⟩ := find_fn (T := Tryz.T0) (f := 535) (look := 460) rfl Tryz.findCode rfl Tryz.lookCode hg
    exact machine_sound Tryz.mixes (Tryz.T0_ok om) k 535 args s v s' hk r w xs sim hx
  split at h
  · rename_i hf
    cases Nat.eq_of_beq_eq_true hf
    cases h
    exact bits_sound Tryz.func102 Tryz.bcBody Tryz.bitsBody (by kernel_rfl) (by kernel_rfl) Tryz.bitsName (by kernel_rfl) Tryz.f64bits hg sim hx
  split at h
  · rename_i hf
    cases Nat.eq_of_beq_eq_true hf
    cases h
    exact idx_sound Tryz.func662 (by kernel_rfl) (by kernel_rfl) (by kernel_rfl) (by kernel_rfl) hg sim hx
  split at h
  · rename_i hf
    cases Nat.eq_of_beq_eq_true hf
    cases h
    refine keys_sound (K := 3) (fun k hk => ?_) hg sim hx
    simp only [has_cons] at hk
    split at hk
    · rename_i e0; subst e0; exact Tryz.sortedA_ok
    split at hk
    · rename_i e0; subst e0; exact Tryz.sortedB_ok
    split at hk
    · rename_i e0; subst e0; exact Tryz.sortedC_ok
    · cases hk
  split at h
  · rename_i hf
    cases Nat.eq_of_beq_eq_true hf
    cases h
    exact mk_sound Tryz.keysA_ok hg sim hx
  split at h
  · rename_i hf
    cases Nat.eq_of_beq_eq_true hf
    cases h
    exact mk_sound Tryz.keysB_ok hg sim hx
  split at h
  · rename_i hf
    cases Nat.eq_of_beq_eq_true hf
    cases h
    exact mk_sound Tryz.keysC_ok hg sim hx
  · cases h
end Go.Proofs
