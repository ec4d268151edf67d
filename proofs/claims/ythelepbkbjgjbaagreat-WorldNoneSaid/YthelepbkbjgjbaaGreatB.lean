/-
  The abstract machine: how operations and code run. Definitions.
-/
import Derived.Test.YthelepbkbjgjbaaGreatA
set_option linter.unusedVariables false
set_option linter.unusedSimpArgs false
/-! ## The abstract machine: how operations and code run. Definitions only (written by mk3.py). -/
namespace Go.Cx
noncomputable section

/-! ### Single operations -/
def evLoc (k : Nat) (l : List AVal) (_ : Env) : AVal := lnth l k
def evEnv (p : P2) (_ : List AVal) (e : Env) : AVal := Env.get p e
def evConst (v : AVal) (_ : List AVal) (_ : Env) : AVal := v
def ev (x : AOpd) (l : List AVal) (e : Env) : AVal := AOpd.rec (motive := fun _ => List AVal → Env → AVal) evLoc evEnv evConst x l e
def evs (xs : List AOpd) (l : List AVal) (e : Env) : List AVal := List.rec (motive := fun _ => List AVal → Env → List AVal) (fun _ _ => []) (fun x _ ih l e => ev x l e :: ih l e) xs l e
def ifv (b : Bool) (x y : VR) : VR := Bool.rec (motive := fun _ => VR) y x b

def xPick_o (_a : AVal) (_b : AVal) (_s : St) : VR := .fail 10
def xPick_bool (t : Bool) (a : AVal) (b : AVal) (s : St) : VR := Bool.rec (motive := fun _ => AVal → AVal → St → VR) (fun _ b s => VR.check b 11 s) (fun a _ s => VR.check a 11 s) t a b s
def xPick (c : AVal) (a : AVal) (b : AVal) (s : St) : VR := AVal.rec (motive_1 := fun _ => (AVal) → (AVal) → (St) → VR) (motive_2 := fun _ => Unit) xPick_o xPick_o xPick_bool (fun _ _ => xPick_o) (fun _ _ => xPick_o) (fun _ _ => xPick_o) xPick_o (fun _ _ => xPick_o) xPick_o (fun _ _ _ _ => xPick_o) (fun _ _ _ _ _ => xPick_o) xPick_o (fun _ => xPick_o) xPick_o (fun _ _ _ _ _ => xPick_o) xPick_o (fun _ _ _ => xPick_o) (fun _ _ => xPick_o) (fun _ _ _ => xPick_o) (fun _ _ => xPick_o) (fun _ => xPick_o) () (fun _ _ _ _ => ()) c a b s

def fnNil (fn : Fn) (first cap : List AVal) (s : St) : VR := match fn with | .func f => .ok (.func (.func f) first cap) s | _ => .fail 13
def xNilck_o (_s : St) : VR := .fail 12
def xNilck_ptr (i : Id) (off : Nat) (s : St) : VR := .ok (.ptr i off) s
def xNilck_func (fn : Fn) (a : List AVal) (b : List AVal) (s : St) : VR := fnNil fn a b s
def xNilck_iface (t : Nat) (v : AVal) (s : St) : VR := .ok (.iface t v) s
def xNilck (x : AVal) (s : St) : VR := AVal.rec (motive_1 := fun _ => (St) → VR) (motive_2 := fun _ => Unit) xNilck_o xNilck_o (fun _ => xNilck_o) (fun _ _ => xNilck_o) (fun _ _ => xNilck_o) (fun _ _ => xNilck_o) xNilck_o xNilck_ptr xNilck_o (fun _ _ _ _ => xNilck_o) (fun _ _ _ _ _ => xNilck_o) xNilck_o (fun _ => xNilck_o) xNilck_o (fun a0 a1 a2 _ _ => xNilck_func a0 a1 a2) xNilck_o (fun a0 a1 _ => xNilck_iface a0 a1) (fun _ _ => xNilck_o) (fun _ _ _ => xNilck_o) (fun _ _ => xNilck_o) (fun _ => xNilck_o) () (fun _ _ _ _ => ()) x s

def xNew (b : Blk) (s : St) : VR := s.alloc b fun i s => .ok (.ptr i 0) s
def xBox_o (x : AVal) (s : St) : VR := s.alloc x.blk fun i s => .ok (.ptr i 0) s
def xBox_top  (_x : AVal) (_s : St) : VR := .fail 15
def xBox_bad  (_x : AVal) (_s : St) : VR := .fail 15
def xBox_tup (_x0 : List AVal) (_x : AVal) (_s : St) : VR := .fail 15
def xBox (x : AVal) (s : St) : VR := AVal.rec (motive_1 := fun _ => (AVal) → (St) → VR) (motive_2 := fun _ => Unit) xBox_top xBox_bad (fun _ => xBox_o) (fun _ _ => xBox_o) (fun _ _ => xBox_o) (fun _ _ => xBox_o) xBox_o (fun _ _ => xBox_o) xBox_o (fun _ _ _ _ => xBox_o) (fun _ _ _ _ _ => xBox_o) xBox_o (fun _ => xBox_o) xBox_o (fun _ _ _ _ _ => xBox_o) xBox_o (fun _ _ _ => xBox_o) (fun _ _ => xBox_o) (fun _ _ _ => xBox_o) (fun a0 _ => xBox_tup a0) (fun _ => xBox_o) () (fun _ _ _ _ => ()) x x s

def notBad_o  : Bool := true
def notBad_top   : Bool := false
def notBad_bad   : Bool := false
def notBad (x : AVal)  : Bool := AVal.rec (motive_1 := fun _ => Bool) (motive_2 := fun _ => Unit) notBad_top notBad_bad (fun _ => notBad_o) (fun _ _ => notBad_o) (fun _ _ => notBad_o) (fun _ _ => notBad_o) notBad_o (fun _ _ => notBad_o) notBad_o (fun _ _ _ _ => notBad_o) (fun _ _ _ _ _ => notBad_o) notBad_o (fun _ => notBad_o) notBad_o (fun _ _ _ _ _ => notBad_o) notBad_o (fun _ _ _ => notBad_o) (fun _ _ => notBad_o) (fun _ _ _ => notBad_o) (fun _ _ => notBad_o) (fun _ => notBad_o) () (fun _ _ _ _ => ()) x 

def noBad (l : List AVal) : Bool := List.rec (motive := fun _ => Bool) true (fun v _ ih => band (notBad v) ih) l
def isAggV (v : AVal) : Bool := match v with | .agg _ => true | .aggi _ _ _ => true | _ => false
def fillParts (ps : List ((Nat × Nat) × AVal)) (z : List AVal) (f : List AVal → VR) : VR :=
  List.rec (motive := fun _ => List AVal → (List AVal → VR) → VR) (fun z f => f z)
    (fun p _ ih z f => Bool.rec (motive := fun _ => VR) (ifv (band (isAggV p.2) (Nat.beq (lwide p.2.cellList) p.1.2)) (lput z p.1.1 p.2.cellList fun z => ih z f) (.fail 19)) (ifv (Nat.beq p.1.2 1) (lputc z p.1.1 p.2 fun z => ih z f) (.fail 16)) (isScalar p.2)) ps z f
def evParts (ps : List ((Nat × Nat) × AOpd)) (l : List AVal) (e : Env) : List ((Nat × Nat) × AVal) :=
  List.rec (motive := fun _ => List ((Nat × Nat) × AVal)) [] (fun x _ ih => (x.1, ev x.2 l e) :: ih) ps
def xBuild (z : List AVal) (ps : List ((Nat × Nat) × AVal)) (s : St) : VR := fillParts ps z fun l => .ok (aggOf l) s
def xBslice (isInt : Bool) (z : List AVal) (len : Nat) (ps : List ((Nat × Nat) × AVal)) (s : St) : VR :=
  fillParts ps z fun l => s.alloc (Bool.rec (motive := fun _ => Blk) (.cells l) (pack (.agg l)).blk isInt) fun i s => .ok (.slice i 0 len len) s

def xLoad_o (_s : St) : VR := .fail 20
def xLoad_ptr (i : Id) (off : Nat) (s : St) : VR := VR.check ((s.at i).cell off) 21 s
def xLoad (x : AVal) (s : St) : VR := AVal.rec (motive_1 := fun _ => (St) → VR) (motive_2 := fun _ => Unit) xLoad_o xLoad_o (fun _ => xLoad_o) (fun _ _ => xLoad_o) (fun _ _ => xLoad_o) (fun _ _ => xLoad_o) xLoad_o xLoad_ptr xLoad_o (fun _ _ _ _ => xLoad_o) (fun _ _ _ _ _ => xLoad_o) xLoad_o (fun _ => xLoad_o) xLoad_o (fun _ _ _ _ _ => xLoad_o) xLoad_o (fun _ _ _ => xLoad_o) (fun _ _ => xLoad_o) (fun _ _ _ => xLoad_o) (fun _ _ => xLoad_o) (fun _ => xLoad_o) () (fun _ _ _ _ => ()) x s

def xLoadn_o (_n : Nat) (_s : St) : VR := .fail 22
def xLoadn_ptr (i : Id) (off : Nat) (n : Nat) (s : St) : VR := VR.check ((s.at i).cut off n) 23 s
def xLoadn (x : AVal) (n : Nat) (s : St) : VR := AVal.rec (motive_1 := fun _ => (Nat) → (St) → VR) (motive_2 := fun _ => Unit) xLoadn_o xLoadn_o (fun _ => xLoadn_o) (fun _ _ => xLoadn_o) (fun _ _ => xLoadn_o) (fun _ _ => xLoadn_o) xLoadn_o xLoadn_ptr xLoadn_o (fun _ _ _ _ => xLoadn_o) (fun _ _ _ _ _ => xLoadn_o) xLoadn_o (fun _ => xLoadn_o) xLoadn_o (fun _ _ _ _ _ => xLoadn_o) xLoadn_o (fun _ _ _ => xLoadn_o) (fun _ _ => xLoadn_o) (fun _ _ _ => xLoadn_o) (fun _ _ => xLoadn_o) (fun _ => xLoadn_o) () (fun _ _ _ _ => ()) x n s

def xStore_o (_v : AVal) (_s : St) : VR := .fail 24
def xStore_ptr (i : Id) (off : Nat) (v : AVal) (s : St) : VR := ifv (isScalar v) ((s.at i).putCell off v fun b => s.put i b unit) (.fail 26)
def xStore (a : AVal) (v : AVal) (s : St) : VR := AVal.rec (motive_1 := fun _ => (AVal) → (St) → VR) (motive_2 := fun _ => Unit) xStore_o xStore_o (fun _ => xStore_o) (fun _ _ => xStore_o) (fun _ _ => xStore_o) (fun _ _ => xStore_o) xStore_o xStore_ptr xStore_o (fun _ _ _ _ => xStore_o) (fun _ _ _ _ _ => xStore_o) xStore_o (fun _ => xStore_o) xStore_o (fun _ _ _ _ _ => xStore_o) xStore_o (fun _ _ _ => xStore_o) (fun _ _ => xStore_o) (fun _ _ _ => xStore_o) (fun _ _ => xStore_o) (fun _ => xStore_o) () (fun _ _ _ _ => ()) a v s

def aggLen_o  : Nat := 0
def aggLen_agg (l : List AVal)  : Nat := lwide l
def aggLen_aggi (_x0 : IntKind) (n : Nat) (_x2 : Nat)  : Nat := n
def aggLen (v : AVal)  : Nat := AVal.rec (motive_1 := fun _ => Nat) (motive_2 := fun _ => Unit) aggLen_o aggLen_o (fun _ => aggLen_o) (fun _ _ => aggLen_o) (fun _ _ => aggLen_o) (fun _ _ => aggLen_o) aggLen_o (fun _ _ => aggLen_o) aggLen_o (fun _ _ _ _ => aggLen_o) (fun _ _ _ _ _ => aggLen_o) aggLen_o (fun _ => aggLen_o) aggLen_o (fun _ _ _ _ _ => aggLen_o) aggLen_o (fun _ _ _ => aggLen_o) (fun a0 _ => aggLen_agg a0) aggLen_aggi (fun _ _ => aggLen_o) (fun _ => aggLen_o) () (fun _ _ _ _ => ()) v 

def xStoren_o (_v : AVal) (_n : Nat) (_s : St) : VR := .fail 27
def xStoren_ptr (i : Id) (off : Nat) (v : AVal) (n : Nat) (s : St) : VR := ifv (Nat.beq (aggLen v) n) ((s.at i).put off v fun b => s.put i b unit) (.fail 29)
def xStoren (a : AVal) (v : AVal) (n : Nat) (s : St) : VR := AVal.rec (motive_1 := fun _ => (AVal) → (Nat) → (St) → VR) (motive_2 := fun _ => Unit) xStoren_o xStoren_o (fun _ => xStoren_o) (fun _ _ => xStoren_o) (fun _ _ => xStoren_o) (fun _ _ => xStoren_o) xStoren_o xStoren_ptr xStoren_o (fun _ _ _ _ => xStoren_o) (fun _ _ _ _ _ => xStoren_o) xStoren_o (fun _ => xStoren_o) xStoren_o (fun _ _ _ _ _ => xStoren_o) xStoren_o (fun _ _ _ => xStoren_o) (fun _ _ => xStoren_o) (fun _ _ _ => xStoren_o) (fun _ _ => xStoren_o) (fun _ => xStoren_o) () (fun _ _ _ _ => ()) a v n s

def xBinInt2_o (_op : BinOp) (_k : IntKind) (_a : Int) (_s : St) : VR := .fail 31
def xBinInt2_int (k' : IntKind) (b : Int) (op : BinOp) (k : IntKind) (a : Int) (s : St) : VR := ifv (Bool.rec (motive := fun _ => Bool) (isShift op) true (kbeq k k')) (VR.check (binInt op k a b) 32 s) (.fail 33)
def xBinInt2 (y : AVal) (op : BinOp) (k : IntKind) (a : Int) (s : St) : VR := AVal.rec (motive_1 := fun _ => (BinOp) → (IntKind) → (Int) → (St) → VR) (motive_2 := fun _ => Unit) xBinInt2_o xBinInt2_o (fun _ => xBinInt2_o) xBinInt2_int (fun _ _ => xBinInt2_o) (fun _ _ => xBinInt2_o) xBinInt2_o (fun _ _ => xBinInt2_o) xBinInt2_o (fun _ _ _ _ => xBinInt2_o) (fun _ _ _ _ _ => xBinInt2_o) xBinInt2_o (fun _ => xBinInt2_o) xBinInt2_o (fun _ _ _ _ _ => xBinInt2_o) xBinInt2_o (fun _ _ _ => xBinInt2_o) (fun _ _ => xBinInt2_o) (fun _ _ _ => xBinInt2_o) (fun _ _ => xBinInt2_o) (fun _ => xBinInt2_o) () (fun _ _ _ _ => ()) y op k a s

def xBinInt_o (_y : AVal) (_op : BinOp) (_s : St) : VR := .fail 30
def xBinInt_int (k : IntKind) (a : Int) (y : AVal) (op : BinOp) (s : St) : VR := xBinInt2 y op k a s
def xBinInt (x : AVal) (y : AVal) (op : BinOp) (s : St) : VR := AVal.rec (motive_1 := fun _ => (AVal) → (BinOp) → (St) → VR) (motive_2 := fun _ => Unit) xBinInt_o xBinInt_o (fun _ => xBinInt_o) xBinInt_int (fun _ _ => xBinInt_o) (fun _ _ => xBinInt_o) xBinInt_o (fun _ _ => xBinInt_o) xBinInt_o (fun _ _ _ _ => xBinInt_o) (fun _ _ _ _ _ => xBinInt_o) xBinInt_o (fun _ => xBinInt_o) xBinInt_o (fun _ _ _ _ _ => xBinInt_o) xBinInt_o (fun _ _ _ => xBinInt_o) (fun _ _ => xBinInt_o) (fun _ _ _ => xBinInt_o) (fun _ _ => xBinInt_o) (fun _ => xBinInt_o) () (fun _ _ _ _ => ()) x y op s

def strEq (n d m e : Nat) : Bool := band (Nat.beq n m) (Nat.beq (dfst 8 n d) (dfst 8 m e))
def bor (a b : Bool) : Bool := Bool.rec b true a
def beqB (a b : Bool) : Bool := Bool.rec (motive := fun _ => Bool) (bnot b) b a
def sT : Option Bool := some true
def sF : Option Bool := some false
def sN : Option Bool := none
def aeBool_o (_a : Bool) : Option Bool := none
def aeBool_bool (b : Bool) (a : Bool) : Option Bool := some (beqB a b)
def aeBool (y : AVal) (a : Bool) : Option Bool := AVal.rec (motive_1 := fun _ => (Bool) → Option Bool) (motive_2 := fun _ => Unit) aeBool_o aeBool_o aeBool_bool (fun _ _ => aeBool_o) (fun _ _ => aeBool_o) (fun _ _ => aeBool_o) aeBool_o (fun _ _ => aeBool_o) aeBool_o (fun _ _ _ _ => aeBool_o) (fun _ _ _ _ _ => aeBool_o) aeBool_o (fun _ => aeBool_o) aeBool_o (fun _ _ _ _ _ => aeBool_o) aeBool_o (fun _ _ _ => aeBool_o) (fun _ _ => aeBool_o) (fun _ _ _ => aeBool_o) (fun _ _ => aeBool_o) (fun _ => aeBool_o) () (fun _ _ _ _ => ()) y a

def aeInt_o (_k : IntKind) (_a : Int) : Option Bool := none
def aeInt_int (k' : IntKind) (b : Int) (k : IntKind) (a : Int) : Option Bool := Bool.rec (motive := fun _ => Option Bool) none (some (ieq a b)) (kbeq k k')
def aeInt (y : AVal) (k : IntKind) (a : Int) : Option Bool := AVal.rec (motive_1 := fun _ => (IntKind) → (Int) → Option Bool) (motive_2 := fun _ => Unit) aeInt_o aeInt_o (fun _ => aeInt_o) aeInt_int (fun _ _ => aeInt_o) (fun _ _ => aeInt_o) aeInt_o (fun _ _ => aeInt_o) aeInt_o (fun _ _ _ _ => aeInt_o) (fun _ _ _ _ _ => aeInt_o) aeInt_o (fun _ => aeInt_o) aeInt_o (fun _ _ _ _ _ => aeInt_o) aeInt_o (fun _ _ _ => aeInt_o) (fun _ _ => aeInt_o) (fun _ _ _ => aeInt_o) (fun _ _ => aeInt_o) (fun _ => aeInt_o) () (fun _ _ _ _ => ()) y k a

def aeStr_o (_n : Nat) (_d : Nat) : Option Bool := none
def aeStr_str (m : Nat) (e : Nat) (n : Nat) (d : Nat) : Option Bool := some (strEq n d m e)
def aeStr (y : AVal) (n : Nat) (d : Nat) : Option Bool := AVal.rec (motive_1 := fun _ => (Nat) → (Nat) → Option Bool) (motive_2 := fun _ => Unit) aeStr_o aeStr_o (fun _ => aeStr_o) (fun _ _ => aeStr_o) (fun _ _ => aeStr_o) aeStr_str aeStr_o (fun _ _ => aeStr_o) aeStr_o (fun _ _ _ _ => aeStr_o) (fun _ _ _ _ _ => aeStr_o) aeStr_o (fun _ => aeStr_o) aeStr_o (fun _ _ _ _ _ => aeStr_o) aeStr_o (fun _ _ _ => aeStr_o) (fun _ _ => aeStr_o) (fun _ _ _ => aeStr_o) (fun _ _ => aeStr_o) (fun _ => aeStr_o) () (fun _ _ _ _ => ()) y n d

def aeNilp_o  : Option Bool := none
def aeNilp_nilp   : Option Bool := sT
def aeNilp_ptr (_x0 : Id) (_x1 : Nat)  : Option Bool := sF
def aeNilp (y : AVal)  : Option Bool := AVal.rec (motive_1 := fun _ => Option Bool) (motive_2 := fun _ => Unit) aeNilp_o aeNilp_o (fun _ => aeNilp_o) (fun _ _ => aeNilp_o) (fun _ _ => aeNilp_o) (fun _ _ => aeNilp_o) aeNilp_nilp aeNilp_ptr aeNilp_o (fun _ _ _ _ => aeNilp_o) (fun _ _ _ _ _ => aeNilp_o) aeNilp_o (fun _ => aeNilp_o) aeNilp_o (fun _ _ _ _ _ => aeNilp_o) aeNilp_o (fun _ _ _ => aeNilp_o) (fun _ _ => aeNilp_o) (fun _ _ _ => aeNilp_o) (fun _ _ => aeNilp_o) (fun _ => aeNilp_o) () (fun _ _ _ _ => ()) y 

def aePtr_o  : Option Bool := none
def aePtr_nilp   : Option Bool := sF
def aePtr (y : AVal)  : Option Bool := AVal.rec (motive_1 := fun _ => Option Bool) (motive_2 := fun _ => Unit) aePtr_o aePtr_o (fun _ => aePtr_o) (fun _ _ => aePtr_o) (fun _ _ => aePtr_o) (fun _ _ => aePtr_o) aePtr_nilp (fun _ _ => aePtr_o) aePtr_o (fun _ _ _ _ => aePtr_o) (fun _ _ _ _ _ => aePtr_o) aePtr_o (fun _ => aePtr_o) aePtr_o (fun _ _ _ _ _ => aePtr_o) aePtr_o (fun _ _ _ => aePtr_o) (fun _ _ => aePtr_o) (fun _ _ _ => aePtr_o) (fun _ _ => aePtr_o) (fun _ => aePtr_o) () (fun _ _ _ _ => ()) y 

def aeNils_o  : Option Bool := none
def aeNils_nils   : Option Bool := sT
def aeNils_slice (_x0 : Id) (_x1 : Nat) (_x2 : Nat) (_x3 : Nat)  : Option Bool := sF
def aeNils_slicu (_x0 : Id) (_x1 : Nat) (_x2 : Nat) (_x3 : Nat) (_x4 : Nat)  : Option Bool := sF
def aeNils (y : AVal)  : Option Bool := AVal.rec (motive_1 := fun _ => Option Bool) (motive_2 := fun _ => Unit) aeNils_o aeNils_o (fun _ => aeNils_o) (fun _ _ => aeNils_o) (fun _ _ => aeNils_o) (fun _ _ => aeNils_o) aeNils_o (fun _ _ => aeNils_o) aeNils_nils aeNils_slice aeNils_slicu aeNils_o (fun _ => aeNils_o) aeNils_o (fun _ _ _ _ _ => aeNils_o) aeNils_o (fun _ _ _ => aeNils_o) (fun _ _ => aeNils_o) (fun _ _ _ => aeNils_o) (fun _ _ => aeNils_o) (fun _ => aeNils_o) () (fun _ _ _ _ => ()) y 

def aeSlice_o  : Option Bool := none
def aeSlice_nils   : Option Bool := sF
def aeSlice (y : AVal)  : Option Bool := AVal.rec (motive_1 := fun _ => Option Bool) (motive_2 := fun _ => Unit) aeSlice_o aeSlice_o (fun _ => aeSlice_o) (fun _ _ => aeSlice_o) (fun _ _ => aeSlice_o) (fun _ _ => aeSlice_o) aeSlice_o (fun _ _ => aeSlice_o) aeSlice_nils (fun _ _ _ _ => aeSlice_o) (fun _ _ _ _ _ => aeSlice_o) aeSlice_o (fun _ => aeSlice_o) aeSlice_o (fun _ _ _ _ _ => aeSlice_o) aeSlice_o (fun _ _ _ => aeSlice_o) (fun _ _ => aeSlice_o) (fun _ _ _ => aeSlice_o) (fun _ _ => aeSlice_o) (fun _ => aeSlice_o) () (fun _ _ _ _ => ()) y 

def aeNilm_o  : Option Bool := none
def aeNilm_nilm   : Option Bool := sT
def aeNilm_map (_x0 : Id)  : Option Bool := sF
def aeNilm (y : AVal)  : Option Bool := AVal.rec (motive_1 := fun _ => Option Bool) (motive_2 := fun _ => Unit) aeNilm_o aeNilm_o (fun _ => aeNilm_o) (fun _ _ => aeNilm_o) (fun _ _ => aeNilm_o) (fun _ _ => aeNilm_o) aeNilm_o (fun _ _ => aeNilm_o) aeNilm_o (fun _ _ _ _ => aeNilm_o) (fun _ _ _ _ _ => aeNilm_o) aeNilm_nilm aeNilm_map aeNilm_o (fun _ _ _ _ _ => aeNilm_o) aeNilm_o (fun _ _ _ => aeNilm_o) (fun _ _ => aeNilm_o) (fun _ _ _ => aeNilm_o) (fun _ _ => aeNilm_o) (fun _ => aeNilm_o) () (fun _ _ _ _ => ()) y 

def aeMap_o  : Option Bool := none
def aeMap_nilm   : Option Bool := sF
def aeMap (y : AVal)  : Option Bool := AVal.rec (motive_1 := fun _ => Option Bool) (motive_2 := fun _ => Unit) aeMap_o aeMap_o (fun _ => aeMap_o) (fun _ _ => aeMap_o) (fun _ _ => aeMap_o) (fun _ _ => aeMap_o) aeMap_o (fun _ _ => aeMap_o) aeMap_o (fun _ _ _ _ => aeMap_o) (fun _ _ _ _ _ => aeMap_o) aeMap_nilm (fun _ => aeMap_o) aeMap_o (fun _ _ _ _ _ => aeMap_o) aeMap_o (fun _ _ _ => aeMap_o) (fun _ _ => aeMap_o) (fun _ _ _ => aeMap_o) (fun _ _ => aeMap_o) (fun _ => aeMap_o) () (fun _ _ _ _ => ()) y 

def aeNilf_o  : Option Bool := none
def aeNilf_nilf   : Option Bool := sT
def aeNilf_func (_x0 : Fn) (_x1 : List AVal) (_x2 : List AVal)  : Option Bool := sF
def aeNilf (y : AVal)  : Option Bool := AVal.rec (motive_1 := fun _ => Option Bool) (motive_2 := fun _ => Unit) aeNilf_o aeNilf_o (fun _ => aeNilf_o) (fun _ _ => aeNilf_o) (fun _ _ => aeNilf_o) (fun _ _ => aeNilf_o) aeNilf_o (fun _ _ => aeNilf_o) aeNilf_o (fun _ _ _ _ => aeNilf_o) (fun _ _ _ _ _ => aeNilf_o) aeNilf_o (fun _ => aeNilf_o) aeNilf_nilf (fun a0 a1 a2 _ _ => aeNilf_func a0 a1 a2) aeNilf_o (fun _ _ _ => aeNilf_o) (fun _ _ => aeNilf_o) (fun _ _ _ => aeNilf_o) (fun _ _ => aeNilf_o) (fun _ => aeNilf_o) () (fun _ _ _ _ => ()) y 

def aeFunc_o  : Option Bool := none
def aeFunc_nilf   : Option Bool := sF
def aeFunc (y : AVal)  : Option Bool := AVal.rec (motive_1 := fun _ => Option Bool) (motive_2 := fun _ => Unit) aeFunc_o aeFunc_o (fun _ => aeFunc_o) (fun _ _ => aeFunc_o) (fun _ _ => aeFunc_o) (fun _ _ => aeFunc_o) aeFunc_o (fun _ _ => aeFunc_o) aeFunc_o (fun _ _ _ _ => aeFunc_o) (fun _ _ _ _ _ => aeFunc_o) aeFunc_o (fun _ => aeFunc_o) aeFunc_nilf (fun _ _ _ _ _ => aeFunc_o) aeFunc_o (fun _ _ _ => aeFunc_o) (fun _ _ => aeFunc_o) (fun _ _ _ => aeFunc_o) (fun _ _ => aeFunc_o) (fun _ => aeFunc_o) () (fun _ _ _ _ => ()) y 

def aeNili_o  : Option Bool := none
def aeNili_iface (_x0 : Nat) (_x1 : AVal)  : Option Bool := sF
def aeNili (y : AVal)  : Option Bool := AVal.rec (motive_1 := fun _ => Option Bool) (motive_2 := fun _ => Unit) aeNili_o aeNili_o (fun _ => aeNili_o) (fun _ _ => aeNili_o) (fun _ _ => aeNili_o) (fun _ _ => aeNili_o) aeNili_o (fun _ _ => aeNili_o) aeNili_o (fun _ _ _ _ => aeNili_o) (fun _ _ _ _ _ => aeNili_o) aeNili_o (fun _ => aeNili_o) aeNili_o (fun _ _ _ _ _ => aeNili_o) aeNili_o (fun a0 a1 _ => aeNili_iface a0 a1) (fun _ _ => aeNili_o) (fun _ _ _ => aeNili_o) (fun _ _ => aeNili_o) (fun _ => aeNili_o) () (fun _ _ _ _ => ()) y 

def aeIface_o  : Option Bool := none
def aeIface_nili   : Option Bool := sF
def aeIface (y : AVal)  : Option Bool := AVal.rec (motive_1 := fun _ => Option Bool) (motive_2 := fun _ => Unit) aeIface_o aeIface_o (fun _ => aeIface_o) (fun _ _ => aeIface_o) (fun _ _ => aeIface_o) (fun _ _ => aeIface_o) aeIface_o (fun _ _ => aeIface_o) aeIface_o (fun _ _ _ _ => aeIface_o) (fun _ _ _ _ _ => aeIface_o) aeIface_o (fun _ => aeIface_o) aeIface_o (fun _ _ _ _ _ => aeIface_o) aeIface_nili (fun _ _ _ => aeIface_o) (fun _ _ => aeIface_o) (fun _ _ _ => aeIface_o) (fun _ _ => aeIface_o) (fun _ => aeIface_o) () (fun _ _ _ _ => ()) y 

/-- Are two single cells the same? `none`: it cannot be told. -/
def axBool_o (_y : AVal) : Option Bool := none
def axBool_bool (a : Bool) (y : AVal) : Option Bool := aeBool y a
def axBool (x : AVal) (y : AVal) : Option Bool := AVal.rec (motive_1 := fun _ => (AVal) → Option Bool) (motive_2 := fun _ => Unit) axBool_o axBool_o axBool_bool (fun _ _ => axBool_o) (fun _ _ => axBool_o) (fun _ _ => axBool_o) axBool_o (fun _ _ => axBool_o) axBool_o (fun _ _ _ _ => axBool_o) (fun _ _ _ _ _ => axBool_o) axBool_o (fun _ => axBool_o) axBool_o (fun _ _ _ _ _ => axBool_o) axBool_o (fun _ _ _ => axBool_o) (fun _ _ => axBool_o) (fun _ _ _ => axBool_o) (fun _ _ => axBool_o) (fun _ => axBool_o) () (fun _ _ _ _ => ()) x y

def axInt_o (_y : AVal) : Option Bool := none
def axInt_int (k : IntKind) (a : Int) (y : AVal) : Option Bool := aeInt y k a
def axInt (x : AVal) (y : AVal) : Option Bool := AVal.rec (motive_1 := fun _ => (AVal) → Option Bool) (motive_2 := fun _ => Unit) axInt_o axInt_o (fun _ => axInt_o) axInt_int (fun _ _ => axInt_o) (fun _ _ => axInt_o) axInt_o (fun _ _ => axInt_o) axInt_o (fun _ _ _ _ => axInt_o) (fun _ _ _ _ _ => axInt_o) axInt_o (fun _ => axInt_o) axInt_o (fun _ _ _ _ _ => axInt_o) axInt_o (fun _ _ _ => axInt_o) (fun _ _ => axInt_o) (fun _ _ _ => axInt_o) (fun _ _ => axInt_o) (fun _ => axInt_o) () (fun _ _ _ _ => ()) x y

def axStr_o (_y : AVal) : Option Bool := none
def axStr_str (n : Nat) (d : Nat) (y : AVal) : Option Bool := aeStr y n d
def axStr (x : AVal) (y : AVal) : Option Bool := AVal.rec (motive_1 := fun _ => (AVal) → Option Bool) (motive_2 := fun _ => Unit) axStr_o axStr_o (fun _ => axStr_o) (fun _ _ => axStr_o) (fun _ _ => axStr_o) axStr_str axStr_o (fun _ _ => axStr_o) axStr_o (fun _ _ _ _ => axStr_o) (fun _ _ _ _ _ => axStr_o) axStr_o (fun _ => axStr_o) axStr_o (fun _ _ _ _ _ => axStr_o) axStr_o (fun _ _ _ => axStr_o) (fun _ _ => axStr_o) (fun _ _ _ => axStr_o) (fun _ _ => axStr_o) (fun _ => axStr_o) () (fun _ _ _ _ => ()) x y

def axPtr_o (_y : AVal) : Option Bool := none
def axPtr_nilp  (y : AVal) : Option Bool := aeNilp y
def axPtr_ptr (_x0 : Id) (_x1 : Nat) (y : AVal) : Option Bool := aePtr y
def axPtr (x : AVal) (y : AVal) : Option Bool := AVal.rec (motive_1 := fun _ => (AVal) → Option Bool) (motive_2 := fun _ => Unit) axPtr_o axPtr_o (fun _ => axPtr_o) (fun _ _ => axPtr_o) (fun _ _ => axPtr_o) (fun _ _ => axPtr_o) axPtr_nilp axPtr_ptr axPtr_o (fun _ _ _ _ => axPtr_o) (fun _ _ _ _ _ => axPtr_o) axPtr_o (fun _ => axPtr_o) axPtr_o (fun _ _ _ _ _ => axPtr_o) axPtr_o (fun _ _ _ => axPtr_o) (fun _ _ => axPtr_o) (fun _ _ _ => axPtr_o) (fun _ _ => axPtr_o) (fun _ => axPtr_o) () (fun _ _ _ _ => ()) x y

def axSlice_o (_y : AVal) : Option Bool := none
def axSlice_nils  (y : AVal) : Option Bool := aeNils y
def axSlice_slice (_x0 : Id) (_x1 : Nat) (_x2 : Nat) (_x3 : Nat) (y : AVal) : Option Bool := aeSlice y
def axSlice_slicu (_x0 : Id) (_x1 : Nat) (_x2 : Nat) (_x3 : Nat) (_x4 : Nat) (y : AVal) : Option Bool := aeSlice y
def axSlice (x : AVal) (y : AVal) : Option Bool := AVal.rec (motive_1 := fun _ => (AVal) → Option Bool) (motive_2 := fun _ => Unit) axSlice_o axSlice_o (fun _ => axSlice_o) (fun _ _ => axSlice_o) (fun _ _ => axSlice_o) (fun _ _ => axSlice_o) axSlice_o (fun _ _ => axSlice_o) axSlice_nils axSlice_slice axSlice_slicu axSlice_o (fun _ => axSlice_o) axSlice_o (fun _ _ _ _ _ => axSlice_o) axSlice_o (fun _ _ _ => axSlice_o) (fun _ _ => axSlice_o) (fun _ _ _ => axSlice_o) (fun _ _ => axSlice_o) (fun _ => axSlice_o) () (fun _ _ _ _ => ()) x y

def axMap_o (_y : AVal) : Option Bool := none
def axMap_nilm  (y : AVal) : Option Bool := aeNilm y
def axMap_map (_x0 : Id) (y : AVal) : Option Bool := aeMap y
def axMap (x : AVal) (y : AVal) : Option Bool := AVal.rec (motive_1 := fun _ => (AVal) → Option Bool) (motive_2 := fun _ => Unit) axMap_o axMap_o (fun _ => axMap_o) (fun _ _ => axMap_o) (fun _ _ => axMap_o) (fun _ _ => axMap_o) axMap_o (fun _ _ => axMap_o) axMap_o (fun _ _ _ _ => axMap_o) (fun _ _ _ _ _ => axMap_o) axMap_nilm axMap_map axMap_o (fun _ _ _ _ _ => axMap_o) axMap_o (fun _ _ _ => axMap_o) (fun _ _ => axMap_o) (fun _ _ _ => axMap_o) (fun _ _ => axMap_o) (fun _ => axMap_o) () (fun _ _ _ _ => ()) x y

def axIface_o (_y : AVal) : Option Bool := none
def axIface_nili  (y : AVal) : Option Bool := aeNili y
def axIface_iface (_x0 : Nat) (_x1 : AVal) (y : AVal) : Option Bool := aeIface y
def axIface (x : AVal) (y : AVal) : Option Bool := AVal.rec (motive_1 := fun _ => (AVal) → Option Bool) (motive_2 := fun _ => Unit) axIface_o axIface_o (fun _ => axIface_o) (fun _ _ => axIface_o) (fun _ _ => axIface_o) (fun _ _ => axIface_o) axIface_o (fun _ _ => axIface_o) axIface_o (fun _ _ _ _ => axIface_o) (fun _ _ _ _ _ => axIface_o) axIface_o (fun _ => axIface_o) axIface_o (fun _ _ _ _ _ => axIface_o) axIface_nili (fun a0 a1 _ => axIface_iface a0 a1) (fun _ _ => axIface_o) (fun _ _ _ => axIface_o) (fun _ _ => axIface_o) (fun _ => axIface_o) () (fun _ _ _ _ => ()) x y

def aeq1 (k : EK1) (x y : AVal) : Option Bool := EK1.rec (motive := fun _ => AVal → AVal → Option Bool) axBool axInt axStr axPtr axSlice axMap axIface k x y
def aeqList : List EK1 → List AVal → List AVal → Option Bool
  | [], [], [] => some true
  | k :: ks, x :: l, y :: r => match aeq1 k x y with
    | some true => aeqList ks l r
    | o => o
  | _, _, _ => none
def rowOf (x : AVal) : Option (List AVal) := match x with
  | .agg l => some l
  | .aggi k n d => some (unpack k n d)
  | _ => none
def aeqRow (ks : List EK1) (x y : AVal) : Option Bool := match rowOf x, rowOf y with
  | some l, some r => aeqList ks l r
  | _, _ => none
def aeqNo (_ _ : AVal) : Option Bool := none
def aeq (k : EK) (x y : AVal) : Option Bool := EK.rec (motive := fun _ => AVal → AVal → Option Bool) aeq1 aeqRow aeqNo k x y
def boolOk (neg : Bool) (o : Option Bool) (s : St) : VR := Option.rec (motive := fun _ => Bool → St → VR) (fun _ _ => .fail 34) (fun t neg s => .ok (.bool (Bool.rec (motive := fun _ => Bool) t (bnot t) neg)) s) o neg s
def xEq (k : EK) (x y : AVal) (neg : Bool) (s : St) : VR := boolOk neg (aeq k x y) s
/-- Bytes, the first one first. -/
def sless : Nat → Nat → Nat → Nat → Nat → Bool
  | 0, _, _, _, _ => false
  | f + 1, n, d, m, e => if Nat.beq m 0 then false else if Nat.beq n 0 then true else
    (if lt (Nat.mod d 256) (Nat.mod e 256) then true else if Nat.beq (Nat.mod d 256) (Nat.mod e 256) then sless f (n - 1) (Nat.div d 256) (m - 1) (Nat.div e 256) else false)
def stropOf (op : BinOp) (n d m e : Nat) (s : St) : VR := match op with
  | .add => ifv (Nat.ble (Nat.add n m) 9223372036854775807) (.ok (.str (Nat.add n m) (dcat 8 n d e)) s) (.fail 35)
  | .eql => .ok (.bool (strEq n d m e)) s
  | .neq => .ok (.bool (bnot (strEq n d m e))) s
  | .lss => .ok (.bool (sless (n + m + 1) n d m e)) s
  | .leq => .ok (.bool (bor (sless (n + m + 1) n d m e) (strEq n d m e))) s
  | .gtr => .ok (.bool (bnot (bor (sless (n + m + 1) n d m e) (strEq n d m e)))) s
  | .geq => .ok (.bool (bnot (sless (n + m + 1) n d m e))) s
  | _ => .fail 36
def xStrop (op : BinOp) (x y : AVal) (s : St) : VR := match x, y with
  | .str n d, .str m e => stropOf op n d m e s
  | _, _ => .fail 37
def xFdiv (_ : FloatKind) (x y : AVal) (s : St) : VR := match x, y with
  | .float k a, .float k' b => if k = k' then (match k.format.div a b with
    | some r => .ok (.float k r) s
    | none => .fail 38) else .fail 38
  | _, _ => .fail 38
def xFne (_ : FloatKind) (x y : AVal) (s : St) : VR := match x, y with
  | .float k a, .float k' b => if k = k' then .ok (.bool (k.format.order a b != some .eq)) s else .fail 39
  | _, _ => .fail 39
def xNot_o (_s : St) : VR := .fail 40
def xNot_bool (b : Bool) (s : St) : VR := .ok (.bool (bnot b)) s
def xNot (x : AVal) (s : St) : VR := AVal.rec (motive_1 := fun _ => (St) → VR) (motive_2 := fun _ => Unit) xNot_o xNot_o xNot_bool (fun _ _ => xNot_o) (fun _ _ => xNot_o) (fun _ _ => xNot_o) xNot_o (fun _ _ => xNot_o) xNot_o (fun _ _ _ _ => xNot_o) (fun _ _ _ _ _ => xNot_o) xNot_o (fun _ => xNot_o) xNot_o (fun _ _ _ _ _ => xNot_o) xNot_o (fun _ _ _ => xNot_o) (fun _ _ => xNot_o) (fun _ _ _ => xNot_o) (fun _ _ => xNot_o) (fun _ => xNot_o) () (fun _ _ _ _ => ()) x s

def xNeg_o (_s : St) : VR := .fail 41
def xNeg_int (k : IntKind) (n : Int) (s : St) : VR := .ok (.int k (wrap k (isub 0 n))) s
def xNeg_float (k : FloatKind) (b : Nat) (s : St) : VR := .ok (.float k (Op.negFloat k b)) s
def xNeg (x : AVal) (s : St) : VR := AVal.rec (motive_1 := fun _ => (St) → VR) (motive_2 := fun _ => Unit) xNeg_o xNeg_o (fun _ => xNeg_o) xNeg_int xNeg_float (fun _ _ => xNeg_o) xNeg_o (fun _ _ => xNeg_o) xNeg_o (fun _ _ _ _ => xNeg_o) (fun _ _ _ _ _ => xNeg_o) xNeg_o (fun _ => xNeg_o) xNeg_o (fun _ _ _ _ _ => xNeg_o) xNeg_o (fun _ _ _ => xNeg_o) (fun _ _ => xNeg_o) (fun _ _ _ => xNeg_o) (fun _ _ => xNeg_o) (fun _ => xNeg_o) () (fun _ _ _ _ => ()) x s

def xConvII_o (_k : IntKind) (_s : St) : VR := .fail 42
def xConvII_int (_x0 : IntKind) (n : Int) (k : IntKind) (s : St) : VR := .ok (.int k (wrap k n)) s
def xConvII (x : AVal) (k : IntKind) (s : St) : VR := AVal.rec (motive_1 := fun _ => (IntKind) → (St) → VR) (motive_2 := fun _ => Unit) xConvII_o xConvII_o (fun _ => xConvII_o) xConvII_int (fun _ _ => xConvII_o) (fun _ _ => xConvII_o) xConvII_o (fun _ _ => xConvII_o) xConvII_o (fun _ _ _ _ => xConvII_o) (fun _ _ _ _ _ => xConvII_o) xConvII_o (fun _ => xConvII_o) xConvII_o (fun _ _ _ _ _ => xConvII_o) xConvII_o (fun _ _ _ => xConvII_o) (fun _ _ => xConvII_o) (fun _ _ _ => xConvII_o) (fun _ _ => xConvII_o) (fun _ => xConvII_o) () (fun _ _ _ _ => ()) x k s

def xConvIF_o (_k : FloatKind) (_s : St) : VR := .fail 43
def xConvIF_int (_x0 : IntKind) (n : Int) (k : FloatKind) (s : St) : VR := .ok (.float k (k.nearest n)) s
def xConvIF (x : AVal) (k : FloatKind) (s : St) : VR := AVal.rec (motive_1 := fun _ => (FloatKind) → (St) → VR) (motive_2 := fun _ => Unit) xConvIF_o xConvIF_o (fun _ => xConvIF_o) xConvIF_int (fun _ _ => xConvIF_o) (fun _ _ => xConvIF_o) xConvIF_o (fun _ _ => xConvIF_o) xConvIF_o (fun _ _ _ _ => xConvIF_o) (fun _ _ _ _ _ => xConvIF_o) xConvIF_o (fun _ => xConvIF_o) xConvIF_o (fun _ _ _ _ _ => xConvIF_o) xConvIF_o (fun _ _ _ => xConvIF_o) (fun _ _ => xConvIF_o) (fun _ _ _ => xConvIF_o) (fun _ _ => xConvIF_o) (fun _ => xConvIF_o) () (fun _ _ _ _ => ()) x k s

def bsOf (v : AVal) (s : St) : VR := match v with | .aggi .u8 n d => .ok (.str n d) s | .agg [] => .ok (.str 0 0) s | _ => .fail 44
def xConvBS_o (_s : St) : VR := .fail 45
def xConvBS_nils  (s : St) : VR := .ok (.str 0 0) s
def xConvBS_slice (i : Id) (off : Nat) (len : Nat) (_x3 : Nat) (s : St) : VR := bsOf ((s.at i).cut off len) s
def xConvBS_slicu (i : Id) (off : Nat) (len : Nat) (_x3 : Nat) (_x4 : Nat) (s : St) : VR := bsOf ((s.at i).cut off len) s
def xConvBS (x : AVal) (s : St) : VR := AVal.rec (motive_1 := fun _ => (St) → VR) (motive_2 := fun _ => Unit) xConvBS_o xConvBS_o (fun _ => xConvBS_o) (fun _ _ => xConvBS_o) (fun _ _ => xConvBS_o) (fun _ _ => xConvBS_o) xConvBS_o (fun _ _ => xConvBS_o) xConvBS_nils xConvBS_slice xConvBS_slicu xConvBS_o (fun _ => xConvBS_o) xConvBS_o (fun _ _ _ _ _ => xConvBS_o) xConvBS_o (fun _ _ _ => xConvBS_o) (fun _ _ => xConvBS_o) (fun _ _ _ => xConvBS_o) (fun _ _ => xConvBS_o) (fun _ => xConvBS_o) () (fun _ _ _ _ => ()) x s

def xConvSB_o (_s : St) : VR := .fail 46
def xConvSB_str (n : Nat) (d : Nat) (s : St) : VR := s.alloc (.ints .u8 n d) fun i s => .ok (.slicu i 0 n n 1) s
def xConvSB (x : AVal) (s : St) : VR := AVal.rec (motive_1 := fun _ => (St) → VR) (motive_2 := fun _ => Unit) xConvSB_o xConvSB_o (fun _ => xConvSB_o) (fun _ _ => xConvSB_o) (fun _ _ => xConvSB_o) xConvSB_str xConvSB_o (fun _ _ => xConvSB_o) xConvSB_o (fun _ _ _ _ => xConvSB_o) (fun _ _ _ _ _ => xConvSB_o) xConvSB_o (fun _ => xConvSB_o) xConvSB_o (fun _ _ _ _ _ => xConvSB_o) xConvSB_o (fun _ _ _ => xConvSB_o) (fun _ _ => xConvSB_o) (fun _ _ _ => xConvSB_o) (fun _ _ => xConvSB_o) (fun _ => xConvSB_o) () (fun _ _ _ _ => ()) x s

def xConvSame_o (_s : St) : VR := .fail 45
def xConvSame_slice (i : Id) (off : Nat) (n : Nat) (c : Nat) (s : St) : VR := ifv (isRow (s.at i)) (s.put i (s.at i) (.slice i off n c)) (.fail 45)
def xConvSame_slicu (i : Id) (off : Nat) (n : Nat) (c : Nat) (z : Nat) (s : St) : VR := ifv (isRow (s.at i)) (s.put i (s.at i) (.slicu i off n c z)) (.fail 45)
def xConvSame (x : AVal) (s : St) : VR := AVal.rec (motive_1 := fun _ => (St) → VR) (motive_2 := fun _ => Unit) xConvSame_o xConvSame_o (fun _ => xConvSame_o) (fun _ _ => xConvSame_o) (fun _ _ => xConvSame_o) (fun _ _ => xConvSame_o) xConvSame_o (fun _ _ => xConvSame_o) xConvSame_o xConvSame_slice xConvSame_slicu xConvSame_o (fun _ => xConvSame_o) xConvSame_o (fun _ _ _ _ _ => xConvSame_o) xConvSame_o (fun _ _ _ => xConvSame_o) (fun _ _ => xConvSame_o) (fun _ _ _ => xConvSame_o) (fun _ _ => xConvSame_o) (fun _ => xConvSame_o) () (fun _ _ _ _ => ()) x s

def xS2ap_o (_n : Nat) (_s : St) : VR := .fail 48
def xS2ap_slice (i : Id) (off : Nat) (len : Nat) (_x3 : Nat) (n : Nat) (s : St) : VR := ifv (Nat.ble n len) (.ok (.ptr i off) s) (.fail 47)
def xS2ap_slicu (i : Id) (off : Nat) (len : Nat) (_x3 : Nat) (_x4 : Nat) (n : Nat) (s : St) : VR := ifv (band (Nat.ble n len) (lt 0 len)) (.ok (.ptr i off) s) (.fail 47)
def xS2ap (x : AVal) (n : Nat) (s : St) : VR := AVal.rec (motive_1 := fun _ => (Nat) → (St) → VR) (motive_2 := fun _ => Unit) xS2ap_o xS2ap_o (fun _ => xS2ap_o) (fun _ _ => xS2ap_o) (fun _ _ => xS2ap_o) (fun _ _ => xS2ap_o) xS2ap_o (fun _ _ => xS2ap_o) xS2ap_o xS2ap_slice xS2ap_slicu xS2ap_o (fun _ => xS2ap_o) xS2ap_o (fun _ _ _ _ _ => xS2ap_o) xS2ap_o (fun _ _ _ => xS2ap_o) (fun _ _ => xS2ap_o) (fun _ _ _ => xS2ap_o) (fun _ _ => xS2ap_o) (fun _ => xS2ap_o) () (fun _ _ _ _ => ()) x n s

def xMkif_o (x : AVal) (t : Nat) (s : St) : VR := .ok (.iface t x) s
def xMkif_top  (_x : AVal) (_t : Nat) (_s : St) : VR := .fail 49
def xMkif_bad  (_x : AVal) (_t : Nat) (_s : St) : VR := .fail 49
def xMkif (x : AVal) (t : Nat) (s : St) : VR := AVal.rec (motive_1 := fun _ => (AVal) → (Nat) → (St) → VR) (motive_2 := fun _ => Unit) xMkif_top xMkif_bad (fun _ => xMkif_o) (fun _ _ => xMkif_o) (fun _ _ => xMkif_o) (fun _ _ => xMkif_o) xMkif_o (fun _ _ => xMkif_o) xMkif_o (fun _ _ _ _ => xMkif_o) (fun _ _ _ _ _ => xMkif_o) xMkif_o (fun _ => xMkif_o) xMkif_o (fun _ _ _ _ _ => xMkif_o) xMkif_o (fun _ _ _ => xMkif_o) (fun _ _ => xMkif_o) (fun _ _ _ => xMkif_o) (fun _ _ => xMkif_o) (fun _ => xMkif_o) () (fun _ _ _ _ => ()) x x t s

def xMkfn (fn : Fn) (a b : List AVal) (s : St) : VR := ifv (band (noBad a) (noBad b)) (.ok (.func fn a b) s) (.fail 50)
def xMkmap (s : St) : VR := s.alloc (.map [] 0) fun i s => .ok (.map i) s
def zrInt (n : Nat) (k : IntKind) (z : Int) : Blk := match z with | .ofNat 0 => .ints k n 0 | z => .cells (repeatA n [.int k z])
def zrSeg (n : Nat) (k : IntKind) (m d : Nat) : Blk := match d with | 0 => .ints k (Nat.mul n m) 0 | d => .cells (repeatA n [.aggi k m d])
def zeroRow_o (z : AVal) (n : Nat) : Blk := .cells (repeatA n z.cellList)
def zeroRow_int (k : IntKind) (v : Int) (_z : AVal) (n : Nat) : Blk := zrInt n k v
def zeroRow_aggi (k : IntKind) (m : Nat) (d : Nat) (_z : AVal) (n : Nat) : Blk := zrSeg n k m d
def zeroRow (z : AVal) (n : Nat) : Blk := AVal.rec (motive_1 := fun _ => (AVal) → (Nat) → Blk) (motive_2 := fun _ => Unit) zeroRow_o zeroRow_o (fun _ => zeroRow_o) zeroRow_int (fun _ _ => zeroRow_o) (fun _ _ => zeroRow_o) zeroRow_o (fun _ _ => zeroRow_o) zeroRow_o (fun _ _ _ _ => zeroRow_o) (fun _ _ _ _ _ => zeroRow_o) zeroRow_o (fun _ => zeroRow_o) zeroRow_o (fun _ _ _ _ _ => zeroRow_o) zeroRow_o (fun _ _ _ => zeroRow_o) (fun _ _ => zeroRow_o) zeroRow_aggi (fun _ _ => zeroRow_o) (fun _ => zeroRow_o) () (fun _ _ _ _ => ()) z z n

def mksl (esz bytes : Nat) (z : AVal) (l c : Int) (s : St) : VR := match l, c with | .ofNat l, .ofNat c => ifv (band (band (Nat.ble l c) (Nat.ble (Nat.mul bytes c) 281474976710656)) (band (Nat.ble c 4294967296) (Nat.beq esz (lwide z.cellList)))) (s.alloc (zeroRow z c) fun i s => .ok (.slice i 0 l c) s) (.fail 53) | _, _ => .fail 54
def xMkslice (esz bytes : Nat) (z l c : AVal) (s : St) : VR := match l, c with | .int _ l, .int _ c => mksl esz bytes z l c s | _, _ => .fail 51
/-- A bound of a slice expression: its number, if it is from 0 on up to y. -/
def bndN (n y : Nat) (k : Nat → VR) : VR := Bool.rec (motive := fun _ => VR) (.fail 56) (k n) (Nat.ble n y)
def bndI (n : Int) (y : Nat) (k : Nat → VR) : VR := Int.rec (motive := fun _ => Nat → (Nat → VR) → VR) bndN (fun _ _ _ => .fail 57) n y k
def bndV_o (_y : Nat) (_k : Nat → VR) : VR := .fail 55
def bndV_int (_x0 : IntKind) (n : Int) (y : Nat) (k : Nat → VR) : VR := bndI n y k
def bndV (v : AVal) (y : Nat) (k : Nat → VR) : VR := AVal.rec (motive_1 := fun _ => (Nat) → (Nat → VR) → VR) (motive_2 := fun _ => Unit) bndV_o bndV_o (fun _ => bndV_o) bndV_int (fun _ _ => bndV_o) (fun _ _ => bndV_o) bndV_o (fun _ _ => bndV_o) bndV_o (fun _ _ _ _ => bndV_o) (fun _ _ _ _ _ => bndV_o) bndV_o (fun _ => bndV_o) bndV_o (fun _ _ _ _ _ => bndV_o) bndV_o (fun _ _ _ => bndV_o) (fun _ _ => bndV_o) (fun _ _ _ => bndV_o) (fun _ _ => bndV_o) (fun _ => bndV_o) () (fun _ _ _ _ => ()) v y k

def bnd (x : Option AVal) (dflt y : Nat) (k : Nat → VR) : VR := Option.rec (motive := fun _ => Nat → Nat → (Nat → VR) → VR) (fun dflt _ k => k dflt) (fun v _ y k => bndV v y k) x dflt y k
def slOff (m l off esz : Nat) : Nat := Bool.rec (motive := fun _ => Nat) (Nat.add off (Nat.mul l esz)) off (Nat.beq m l)
def xSlStr_o (_lo : Option AVal) (_hi : Option AVal) (_s : St) : VR := .fail 58
def xSlStr_str (n : Nat) (d : Nat) (lo : Option AVal) (hi : Option AVal) (s : St) : VR := bnd hi n n fun h => bnd lo 0 h fun l => .ok (.str (Nat.sub h l) (dcut 8 d l (Nat.sub h l))) s
def xSlStr (x : AVal) (lo : Option AVal) (hi : Option AVal) (s : St) : VR := AVal.rec (motive_1 := fun _ => (Option AVal) → (Option AVal) → (St) → VR) (motive_2 := fun _ => Unit) xSlStr_o xSlStr_o (fun _ => xSlStr_o) (fun _ _ => xSlStr_o) (fun _ _ => xSlStr_o) xSlStr_str xSlStr_o (fun _ _ => xSlStr_o) xSlStr_o (fun _ _ _ _ => xSlStr_o) (fun _ _ _ _ _ => xSlStr_o) xSlStr_o (fun _ => xSlStr_o) xSlStr_o (fun _ _ _ _ _ => xSlStr_o) xSlStr_o (fun _ _ _ => xSlStr_o) (fun _ _ => xSlStr_o) (fun _ _ _ => xSlStr_o) (fun _ _ => xSlStr_o) (fun _ => xSlStr_o) () (fun _ _ _ _ => ()) x lo hi s

def slKnown (esz : Nat) (i : Id) (off len cap : Nat) (lo hi mx : Option AVal) (s : St) : VR :=
  bnd mx cap cap fun m => bnd hi len m fun h => bnd lo 0 h fun l => .ok (.slice i (slOff m l off esz) (Nat.sub h l) (Nat.sub m l)) s
def slOpen (esz : Nat) (i : Id) (off len low : Nat) (lo hi mx : Option AVal) (s : St) : VR := match mx with
  | none => bnd hi len len fun h => bnd lo 0 h fun l => .ok (.slicu i (Nat.add off (Nat.mul l esz)) (Nat.sub h l) (Nat.sub low l) esz) s
  | some mx => ifv (lt 0 low) (bnd (some mx) 0 low fun m => bnd hi len m fun h => bnd lo 0 h fun l => .ok (.slice i (slOff m l off esz) (Nat.sub h l) (Nat.sub m l)) s) (.fail 59)
def slNil (lo hi mx : Option AVal) (s : St) : VR := bnd mx 0 0 fun _ => bnd hi 0 0 fun h => bnd lo 0 h fun _ => .ok .nils s
def slOpen0 (esz : Nat) (i : Id) (off low : Nat) (lo hi mx : Option AVal) (s : St) : VR := match mx with
  | none => bnd hi 0 0 fun h => bnd lo 0 h fun _ => .ok (.slicu i off 0 low esz) s
  | some _ => slOpen esz i off 0 low lo hi mx s
def xSlSl_o (_esz : Nat) (_lo : Option AVal) (_hi : Option AVal) (_mx : Option AVal) (_s : St) : VR := .fail 59
def xSlSl_nils  (_esz : Nat) (lo : Option AVal) (hi : Option AVal) (mx : Option AVal) (s : St) : VR := slNil lo hi mx s
def xSlSl_slice (i : Id) (off : Nat) (len : Nat) (cap : Nat) (esz : Nat) (lo : Option AVal) (hi : Option AVal) (mx : Option AVal) (s : St) : VR := slKnown esz i off len cap lo hi mx s
def xSlSl_slicu (i : Id) (off : Nat) (len : Nat) (low : Nat) (ez : Nat) (esz : Nat) (lo : Option AVal) (hi : Option AVal) (mx : Option AVal) (s : St) : VR := ifv (Nat.beq esz ez) (Bool.rec (motive := fun _ => VR) (slOpen esz i off len low lo hi mx s) (slOpen0 esz i off low lo hi mx s) (Nat.beq len 0)) (.fail 59)
def xSlSl (x : AVal) (esz : Nat) (lo : Option AVal) (hi : Option AVal) (mx : Option AVal) (s : St) : VR := AVal.rec (motive_1 := fun _ => (Nat) → (Option AVal) → (Option AVal) → (Option AVal) → (St) → VR) (motive_2 := fun _ => Unit) xSlSl_o xSlSl_o (fun _ => xSlSl_o) (fun _ _ => xSlSl_o) (fun _ _ => xSlSl_o) (fun _ _ => xSlSl_o) xSlSl_o (fun _ _ => xSlSl_o) xSlSl_nils xSlSl_slice xSlSl_slicu xSlSl_o (fun _ => xSlSl_o) xSlSl_o (fun _ _ _ _ _ => xSlSl_o) xSlSl_o (fun _ _ _ => xSlSl_o) (fun _ _ => xSlSl_o) (fun _ _ _ => xSlSl_o) (fun _ _ => xSlSl_o) (fun _ => xSlSl_o) () (fun _ _ _ _ => ()) x esz lo hi mx s

def xSlArr_o (_n : Nat) (_esz : Nat) (_lo : Option AVal) (_hi : Option AVal) (_mx : Option AVal) (_s : St) : VR := .fail 60
def xSlArr_ptr (i : Id) (off : Nat) (n : Nat) (esz : Nat) (lo : Option AVal) (hi : Option AVal) (mx : Option AVal) (s : St) : VR := slKnown esz i off n n lo hi mx s
def xSlArr (x : AVal) (n : Nat) (esz : Nat) (lo : Option AVal) (hi : Option AVal) (mx : Option AVal) (s : St) : VR := AVal.rec (motive_1 := fun _ => (Nat) → (Nat) → (Option AVal) → (Option AVal) → (Option AVal) → (St) → VR) (motive_2 := fun _ => Unit) xSlArr_o xSlArr_o (fun _ => xSlArr_o) (fun _ _ => xSlArr_o) (fun _ _ => xSlArr_o) (fun _ _ => xSlArr_o) xSlArr_o xSlArr_ptr xSlArr_o (fun _ _ _ _ => xSlArr_o) (fun _ _ _ _ _ => xSlArr_o) xSlArr_o (fun _ => xSlArr_o) xSlArr_o (fun _ _ _ _ _ => xSlArr_o) xSlArr_o (fun _ _ _ => xSlArr_o) (fun _ _ => xSlArr_o) (fun _ _ _ => xSlArr_o) (fun _ _ => xSlArr_o) (fun _ => xSlArr_o) () (fun _ _ _ _ => ()) x n esz lo hi mx s

def xFieldAddr_o (_o : Nat) (_s : St) : VR := .fail 61
def xFieldAddr_ptr (i : Id) (off : Nat) (o : Nat) (s : St) : VR := .ok (.ptr i (Nat.add off o)) s
def xFieldAddr (x : AVal) (o : Nat) (s : St) : VR := AVal.rec (motive_1 := fun _ => (Nat) → (St) → VR) (motive_2 := fun _ => Unit) xFieldAddr_o xFieldAddr_o (fun _ => xFieldAddr_o) (fun _ _ => xFieldAddr_o) (fun _ _ => xFieldAddr_o) (fun _ _ => xFieldAddr_o) xFieldAddr_o xFieldAddr_ptr xFieldAddr_o (fun _ _ _ _ => xFieldAddr_o) (fun _ _ _ _ _ => xFieldAddr_o) xFieldAddr_o (fun _ => xFieldAddr_o) xFieldAddr_o (fun _ _ _ _ _ => xFieldAddr_o) xFieldAddr_o (fun _ _ _ => xFieldAddr_o) (fun _ _ => xFieldAddr_o) (fun _ _ _ => xFieldAddr_o) (fun _ _ => xFieldAddr_o) (fun _ => xFieldAddr_o) () (fun _ _ _ _ => ()) x o s

def xField_o (_o : Nat) (_s : St) : VR := .fail 64
def xField_agg (l : List AVal) (o : Nat) (s : St) : VR := VR.check (lcell l o) 62 s
def xField_aggi (k : IntKind) (n : Nat) (d : Nat) (o : Nat) (s : St) : VR := VR.check (icell k n d o) 63 s
def xField (x : AVal) (o : Nat) (s : St) : VR := AVal.rec (motive_1 := fun _ => (Nat) → (St) → VR) (motive_2 := fun _ => Unit) xField_o xField_o (fun _ => xField_o) (fun _ _ => xField_o) (fun _ _ => xField_o) (fun _ _ => xField_o) xField_o (fun _ _ => xField_o) xField_o (fun _ _ _ _ => xField_o) (fun _ _ _ _ _ => xField_o) xField_o (fun _ => xField_o) xField_o (fun _ _ _ _ _ => xField_o) xField_o (fun _ _ _ => xField_o) (fun a0 _ => xField_agg a0) xField_aggi (fun _ _ => xField_o) (fun _ => xField_o) () (fun _ _ _ _ => ()) x o s

def xFieldn_o (_o : Nat) (_n : Nat) (_s : St) : VR := .fail 67
def xFieldn_agg (l : List AVal) (o : Nat) (n : Nat) (s : St) : VR := VR.check (lcut l o n) 65 s
def xFieldn_aggi (k : IntKind) (m : Nat) (d : Nat) (o : Nat) (n : Nat) (s : St) : VR := VR.check ((Blk.ints k m d).cut o n) 66 s
def xFieldn (x : AVal) (o : Nat) (n : Nat) (s : St) : VR := AVal.rec (motive_1 := fun _ => (Nat) → (Nat) → (St) → VR) (motive_2 := fun _ => Unit) xFieldn_o xFieldn_o (fun _ => xFieldn_o) (fun _ _ => xFieldn_o) (fun _ _ => xFieldn_o) (fun _ _ => xFieldn_o) xFieldn_o (fun _ _ => xFieldn_o) xFieldn_o (fun _ _ _ _ => xFieldn_o) (fun _ _ _ _ _ => xFieldn_o) xFieldn_o (fun _ => xFieldn_o) xFieldn_o (fun _ _ _ _ _ => xFieldn_o) xFieldn_o (fun _ _ _ => xFieldn_o) (fun a0 _ => xFieldn_agg a0) xFieldn_aggi (fun _ _ => xFieldn_o) (fun _ => xFieldn_o) () (fun _ _ _ _ => ()) x o n s

def ixN (b : Id) (off len esz w : Nat) (i : Nat) (s : St) : VR := Bool.rec (motive := fun _ => VR) (.fail w) (.ok (.ptr b (Nat.add off (Nat.mul i esz))) s) (lt i len)
def ixI (i : Int) (b : Id) (off len esz w : Nat) (s : St) : VR := Int.rec (motive := fun _ => Id → Nat → Nat → Nat → Nat → St → VR) (fun i b off len esz w s => ixN b off len esz w i s) (fun _ _ _ _ _ w _ => .fail w) i b off len esz w s
def ixV_o (_b : Id) (_off : Nat) (_len : Nat) (_esz : Nat) (w : Nat) (_s : St) : VR := .fail w
def ixV_int (_x0 : IntKind) (n : Int) (b : Id) (off : Nat) (len : Nat) (esz : Nat) (w : Nat) (s : St) : VR := ixI n b off len esz w s
def ixV (i : AVal) (b : Id) (off : Nat) (len : Nat) (esz : Nat) (w : Nat) (s : St) : VR := AVal.rec (motive_1 := fun _ => (Id) → (Nat) → (Nat) → (Nat) → (Nat) → (St) → VR) (motive_2 := fun _ => Unit) ixV_o ixV_o (fun _ => ixV_o) ixV_int (fun _ _ => ixV_o) (fun _ _ => ixV_o) ixV_o (fun _ _ => ixV_o) ixV_o (fun _ _ _ _ => ixV_o) (fun _ _ _ _ _ => ixV_o) ixV_o (fun _ => ixV_o) ixV_o (fun _ _ _ _ _ => ixV_o) ixV_o (fun _ _ _ => ixV_o) (fun _ _ => ixV_o) (fun _ _ _ => ixV_o) (fun _ _ => ixV_o) (fun _ => ixV_o) () (fun _ _ _ _ => ()) i b off len esz w s

def xIxArr_o (_n : Nat) (_esz : Nat) (_i : AVal) (_s : St) : VR := .fail 68
def xIxArr_ptr (b : Id) (off : Nat) (n : Nat) (esz : Nat) (i : AVal) (s : St) : VR := ixV i b off n esz 70 s
def xIxArr (x : AVal) (n : Nat) (esz : Nat) (i : AVal) (s : St) : VR := AVal.rec (motive_1 := fun _ => (Nat) → (Nat) → (AVal) → (St) → VR) (motive_2 := fun _ => Unit) xIxArr_o xIxArr_o (fun _ => xIxArr_o) (fun _ _ => xIxArr_o) (fun _ _ => xIxArr_o) (fun _ _ => xIxArr_o) xIxArr_o xIxArr_ptr xIxArr_o (fun _ _ _ _ => xIxArr_o) (fun _ _ _ _ _ => xIxArr_o) xIxArr_o (fun _ => xIxArr_o) xIxArr_o (fun _ _ _ _ _ => xIxArr_o) xIxArr_o (fun _ _ _ => xIxArr_o) (fun _ _ => xIxArr_o) (fun _ _ _ => xIxArr_o) (fun _ _ => xIxArr_o) (fun _ => xIxArr_o) () (fun _ _ _ _ => ()) x n esz i s

def xIxSl_o (_esz : Nat) (_i : AVal) (_s : St) : VR := .fail 75
def xIxSl_slice (b : Id) (off : Nat) (len : Nat) (_x3 : Nat) (esz : Nat) (i : AVal) (s : St) : VR := ixV i b off len esz 73 s
def xIxSl_slicu (b : Id) (off : Nat) (len : Nat) (_x3 : Nat) (_x4 : Nat) (esz : Nat) (i : AVal) (s : St) : VR := ixV i b off len esz 74 s
def xIxSl (x : AVal) (esz : Nat) (i : AVal) (s : St) : VR := AVal.rec (motive_1 := fun _ => (Nat) → (AVal) → (St) → VR) (motive_2 := fun _ => Unit) xIxSl_o xIxSl_o (fun _ => xIxSl_o) (fun _ _ => xIxSl_o) (fun _ _ => xIxSl_o) (fun _ _ => xIxSl_o) xIxSl_o (fun _ _ => xIxSl_o) xIxSl_o xIxSl_slice xIxSl_slicu xIxSl_o (fun _ => xIxSl_o) xIxSl_o (fun _ _ _ _ _ => xIxSl_o) xIxSl_o (fun _ _ _ => xIxSl_o) (fun _ _ => xIxSl_o) (fun _ _ _ => xIxSl_o) (fun _ _ => xIxSl_o) (fun _ => xIxSl_o) () (fun _ _ _ _ => ()) x esz i s

def ixS (n d : Nat) (i : AVal) (s : St) : VR := match i with | .int _ (.ofNat i) => ifv (lt i n) (.ok (.int .u8 (.ofNat (dcut 8 d i 1))) s) (.fail 78) | _ => .fail 79
def xIxStr_o (_i : AVal) (_s : St) : VR := .fail 80
def xIxStr_str (n : Nat) (d : Nat) (i : AVal) (s : St) : VR := ixS n d i s
def xIxStr (x : AVal) (i : AVal) (s : St) : VR := AVal.rec (motive_1 := fun _ => (AVal) → (St) → VR) (motive_2 := fun _ => Unit) xIxStr_o xIxStr_o (fun _ => xIxStr_o) (fun _ _ => xIxStr_o) (fun _ _ => xIxStr_o) xIxStr_str xIxStr_o (fun _ _ => xIxStr_o) xIxStr_o (fun _ _ _ _ => xIxStr_o) (fun _ _ _ _ _ => xIxStr_o) xIxStr_o (fun _ => xIxStr_o) xIxStr_o (fun _ _ _ _ _ => xIxStr_o) xIxStr_o (fun _ _ _ => xIxStr_o) (fun _ _ => xIxStr_o) (fun _ _ _ => xIxStr_o) (fun _ _ => xIxStr_o) (fun _ => xIxStr_o) () (fun _ _ _ _ => ()) x i s

def xIxVal (n : Nat) (x i : AVal) (s : St) : VR := match i with | .int _ (.ofNat i) => ifv (lt i n) (xField x i s) (.fail 82) | _ => .fail 83
def xIxValn (n esz : Nat) (x i : AVal) (s : St) : VR := match i with | .int _ (.ofNat i) => ifv (lt i n) (xFieldn x (Nat.mul i esz) esz s) (.fail 85) | _ => .fail 86
/-- Where a key stands among entries; `none`: it cannot be told. -/
def mscan (q : EK) (k : AVal) (l : List ME) (i : Nat) : Option (Option Nat) :=
  List.rec (motive := fun _ => EK → AVal → Nat → Option (Option Nat)) (fun _ _ _ => some none)
    (fun e _ ih q k i => Option.rec (motive := fun _ => Option (Option Nat)) none (fun t => Bool.rec (motive := fun _ => Option (Option Nat)) (ih q k (Nat.succ i)) (some (some i)) t) (aeq q k e.key)) l q k i
def scanTo (o : Option (Option Nat)) (w : Nat) (g : VR) (f : Nat → VR) : VR := Option.rec (motive := fun _ => VR) (.fail w) (fun o => Option.rec (motive := fun _ => VR) g f o) o
def mnth : List ME → Nat → Option ME
  | [], _ => none
  | e :: _, 0 => some e
  | _ :: l, j + 1 => mnth l j
def msetAt (k v : AVal) : List ME → Nat → List ME
  | [], _ => []
  | e :: l, 0 => ⟨k, v, e.born⟩ :: l
  | e :: l, j + 1 => e :: msetAt k v l j
def merAt : List ME → Nat → List ME
  | [], _ => []
  | _ :: l, 0 => l
  | e :: l, j + 1 => e :: merAt l j
def mapp (l : List ME) (e : ME) : List ME := List.rec (motive := fun _ => List ME) [e] (fun x _ ih => x :: ih) l
/-- Is a key one that can be looked up? -/
def keyOk (q : EK) (k : AVal) : Bool := match q with
  | .one _ => true
  | .cells ks => match rowOf k with
    | some l => band (Nat.beq l.length ks.length) (l.all isScalar)
    | none => false
  | .no => false
def lkRes (ok t : Bool) (v : AVal) (s : St) : VR := Bool.rec (motive := fun _ => VR) (VR.check v 87 s) (ifv (notBad v) (.ok (.tup [v, .bool t]) s) (.fail 88)) ok
def lkAt (o : Option ME) (ok : Bool) (s : St) : VR := Option.rec (motive := fun _ => VR) (.fail 89) (fun e => lkRes ok true e.val s) o
def lkMap_o (_q : EK) (_z : AVal) (_ok : Bool) (_k : AVal) (_s : St) : VR := .fail 90
def lkMap_map (l : List ME) (_x1 : Nat) (q : EK) (z : AVal) (ok : Bool) (k : AVal) (s : St) : VR := scanTo (mscan q k l 0) 89 (lkRes ok false z s) (fun j => lkAt (mnth l j) ok s)
def lkMap (b : Blk) (q : EK) (z : AVal) (ok : Bool) (k : AVal) (s : St) : VR := Blk.rec (motive := fun _ => (EK) → (AVal) → (Bool) → (AVal) → (St) → VR) lkMap_o (fun _ => lkMap_o) (fun _ _ _ => lkMap_o) lkMap_map (fun _ _ => lkMap_o) (fun _ _ _ => lkMap_o) (fun _ _ _ => lkMap_o) (fun _ => lkMap_o) b q z ok k s

def xLookup_o (_q : EK) (_z : AVal) (_ok : Bool) (_k : AVal) (_s : St) : VR := .fail 91
def xLookup_nilm  (q : EK) (z : AVal) (ok : Bool) (k : AVal) (s : St) : VR := ifv (keyOk q k) (lkRes ok false z s) (.fail 95)
def xLookup_map (i : Id) (q : EK) (z : AVal) (ok : Bool) (k : AVal) (s : St) : VR := ifv (keyOk q k) (lkMap (s.at i) q z ok k s) (.fail 95)
def xLookup (x : AVal) (q : EK) (z : AVal) (ok : Bool) (k : AVal) (s : St) : VR := AVal.rec (motive_1 := fun _ => (EK) → (AVal) → (Bool) → (AVal) → (St) → VR) (motive_2 := fun _ => Unit) xLookup_o xLookup_o (fun _ => xLookup_o) (fun _ _ => xLookup_o) (fun _ _ => xLookup_o) (fun _ _ => xLookup_o) xLookup_o (fun _ _ => xLookup_o) xLookup_o (fun _ _ _ _ => xLookup_o) (fun _ _ _ _ _ => xLookup_o) xLookup_nilm xLookup_map xLookup_o (fun _ _ _ _ _ => xLookup_o) xLookup_o (fun _ _ _ => xLookup_o) (fun _ _ => xLookup_o) (fun _ _ _ => xLookup_o) (fun _ _ => xLookup_o) (fun _ => xLookup_o) () (fun _ _ _ _ => ()) x q z ok k s

def updMap_o (_q : EK) (_i : Id) (_k : AVal) (_v : AVal) (_s : St) : VR := .fail 96
def updMap_map (l : List ME) (c : Nat) (q : EK) (i : Id) (k : AVal) (v : AVal) (s : St) : VR := scanTo (mscan q k l 0) 94 (s.put i (.map (mapp l ⟨k, v, c⟩) (Nat.succ c)) unit) (fun j => s.put i (.map (msetAt k v l j) c) unit)
def updMap (b : Blk) (q : EK) (i : Id) (k : AVal) (v : AVal) (s : St) : VR := Blk.rec (motive := fun _ => (EK) → (Id) → (AVal) → (AVal) → (St) → VR) updMap_o (fun _ => updMap_o) (fun _ _ _ => updMap_o) updMap_map (fun _ _ => updMap_o) (fun _ _ _ => updMap_o) (fun _ _ _ => updMap_o) (fun _ => updMap_o) b q i k v s

def xMupd_o (_q : EK) (_k : AVal) (_v : AVal) (_s : St) : VR := .fail 97
def xMupd_map (i : Id) (q : EK) (k : AVal) (v : AVal) (s : St) : VR := ifv (band (notBad v) (band (notBad k) (keyOk q k))) (updMap (s.at i) q i k v s) (.fail 92)
def xMupd (m : AVal) (q : EK) (k : AVal) (v : AVal) (s : St) : VR := AVal.rec (motive_1 := fun _ => (EK) → (AVal) → (AVal) → (St) → VR) (motive_2 := fun _ => Unit) xMupd_o xMupd_o (fun _ => xMupd_o) (fun _ _ => xMupd_o) (fun _ _ => xMupd_o) (fun _ _ => xMupd_o) xMupd_o (fun _ _ => xMupd_o) xMupd_o (fun _ _ _ _ => xMupd_o) (fun _ _ _ _ _ => xMupd_o) xMupd_o xMupd_map xMupd_o (fun _ _ _ _ _ => xMupd_o) xMupd_o (fun _ _ _ => xMupd_o) (fun _ _ => xMupd_o) (fun _ _ _ => xMupd_o) (fun _ _ => xMupd_o) (fun _ => xMupd_o) () (fun _ _ _ _ => ()) m q k v s

def xRngStr_o (_s : St) : VR := .fail 98
def xRngStr_str (n : Nat) (d : Nat) (s : St) : VR := s.alloc (.siter n d 0) fun i s => .ok (.ptr i 0) s
def xRngStr (x : AVal) (s : St) : VR := AVal.rec (motive_1 := fun _ => (St) → VR) (motive_2 := fun _ => Unit) xRngStr_o xRngStr_o (fun _ => xRngStr_o) (fun _ _ => xRngStr_o) (fun _ _ => xRngStr_o) xRngStr_str xRngStr_o (fun _ _ => xRngStr_o) xRngStr_o (fun _ _ _ _ => xRngStr_o) (fun _ _ _ _ _ => xRngStr_o) xRngStr_o (fun _ => xRngStr_o) xRngStr_o (fun _ _ _ _ _ => xRngStr_o) xRngStr_o (fun _ _ _ => xRngStr_o) (fun _ _ => xRngStr_o) (fun _ _ _ => xRngStr_o) (fun _ _ => xRngStr_o) (fun _ => xRngStr_o) () (fun _ _ _ _ => ()) x s

def rngMap_o (_m : Id) (_s : St) : VR := .fail 99
def rngMap_map (_x0 : List ME) (c : Nat) (m : Id) (s : St) : VR := s.alloc (.miter (.map m) c) fun i s => .ok (.ptr i 0) s
def rngMap (b : Blk) (m : Id) (s : St) : VR := Blk.rec (motive := fun _ => (Id) → (St) → VR) rngMap_o (fun _ => rngMap_o) (fun _ _ _ => rngMap_o) rngMap_map (fun _ _ => rngMap_o) (fun _ _ _ => rngMap_o) (fun _ _ _ => rngMap_o) (fun _ => rngMap_o) b m s

def xRngMap_o (_s : St) : VR := .fail 100
def xRngMap_nilm  (s : St) : VR := s.alloc (.miter .nilm 0) fun i s => .ok (.ptr i 0) s
def xRngMap_map (m : Id) (s : St) : VR := rngMap (s.at m) m s
def xRngMap (x : AVal) (s : St) : VR := AVal.rec (motive_1 := fun _ => (St) → VR) (motive_2 := fun _ => Unit) xRngMap_o xRngMap_o (fun _ => xRngMap_o) (fun _ _ => xRngMap_o) (fun _ _ => xRngMap_o) (fun _ _ => xRngMap_o) xRngMap_o (fun _ _ => xRngMap_o) xRngMap_o (fun _ _ _ _ => xRngMap_o) (fun _ _ _ _ _ => xRngMap_o) xRngMap_nilm xRngMap_map xRngMap_o (fun _ _ _ _ _ => xRngMap_o) xRngMap_o (fun _ _ _ => xRngMap_o) (fun _ _ => xRngMap_o) (fun _ _ _ => xRngMap_o) (fun _ _ => xRngMap_o) (fun _ => xRngMap_o) () (fun _ _ _ _ => ()) x s

def VR.bind (r : VR) (k : AVal → St → VR) : VR := VR.rec (motive := fun _ => (AVal → St → VR) → VR) (fun v s k => k v s) (fun w _ => .fail w) r k
def nextAt_o (_i : Id) (_s : St) : VR := .fail 103
def nextAt_siter (n : Nat) (d : Nat) (p : Nat) (i : Id) (s : St) : VR := ifv (lt p n) (ifv (lt (dcut 8 d p 1) 128) (VR.bind (s.put i (.siter n d (Nat.succ p)) unit) fun _ s => .ok (.tup [.bool true, .int .i64 (.ofNat p), .int .i32 (.ofNat (dcut 8 d p 1))]) s) (.fail 102)) (.ok (.tup [.bool false]) s)
def nextAt (b : Blk) (i : Id) (s : St) : VR := Blk.rec (motive := fun _ => (Id) → (St) → VR) nextAt_o (fun _ => nextAt_o) (fun _ _ _ => nextAt_o) (fun _ _ => nextAt_o) (fun _ _ => nextAt_o) (fun _ _ _ => nextAt_o) nextAt_siter (fun _ => nextAt_o) b i s

/-- The next rune of a string whose bytes are all below 128. -/
def xNextStr_o (_s : St) : VR := .fail 101
def xNextStr_ptr (i : Id) (off : Nat) (s : St) : VR := ifv (Nat.beq off 0) (nextAt (s.at i) i s) (.fail 101)
def xNextStr (x : AVal) (s : St) : VR := AVal.rec (motive_1 := fun _ => (St) → VR) (motive_2 := fun _ => Unit) xNextStr_o xNextStr_o (fun _ => xNextStr_o) (fun _ _ => xNextStr_o) (fun _ _ => xNextStr_o) (fun _ _ => xNextStr_o) xNextStr_o xNextStr_ptr xNextStr_o (fun _ _ _ _ => xNextStr_o) (fun _ _ _ _ _ => xNextStr_o) xNextStr_o (fun _ => xNextStr_o) xNextStr_o (fun _ _ _ _ _ => xNextStr_o) xNextStr_o (fun _ _ _ => xNextStr_o) (fun _ _ => xNextStr_o) (fun _ _ _ => xNextStr_o) (fun _ _ => xNextStr_o) (fun _ => xNextStr_o) () (fun _ _ _ _ => ()) x s

def bfind (l : List ME) (b : Nat) (f : ME → VR) : VR := List.rec (motive := fun _ => VR) (.fail 107) (fun e _ ih => Bool.rec (motive := fun _ => VR) ih (f e) (Nat.beq e.born b)) l
def entryIn_o (_b : Nat) (_c : Nat) (_s : St) : VR := .fail 105
def entryIn_map (l : List ME) (c' : Nat) (b : Nat) (c : Nat) (s : St) : VR := ifv (Nat.beq c c') (bfind l b fun e => ifv (band (notBad e.key) (notBad e.val)) (.ok (.tup [e.key, e.val]) s) (.fail 104)) (.fail 108)
def entryIn (x : Blk) (b : Nat) (c : Nat) (s : St) : VR := Blk.rec (motive := fun _ => (Nat) → (Nat) → (St) → VR) entryIn_o (fun _ => entryIn_o) (fun _ _ _ => entryIn_o) entryIn_map (fun _ _ => entryIn_o) (fun _ _ _ => entryIn_o) (fun _ _ _ => entryIn_o) (fun _ => entryIn_o) x b c s

def entryAt_o (_s : St) : VR := .fail 105
def entryAt_mcur (m : Id) (b : Nat) (c : Nat) (s : St) : VR := entryIn (s.at m) b c s
def entryAt (x : Blk) (s : St) : VR := Blk.rec (motive := fun _ => (St) → VR) entryAt_o (fun _ => entryAt_o) (fun _ _ _ => entryAt_o) (fun _ _ => entryAt_o) (fun _ _ => entryAt_o) entryAt_mcur (fun _ _ _ => entryAt_o) (fun _ => entryAt_o) x s

def xEntry_o (_s : St) : VR := .fail 104
def xEntry_ptr (i : Id) (off : Nat) (s : St) : VR := ifv (Nat.beq off 0) (entryAt (s.at i) s) (.fail 104)
def xEntry (x : AVal) (s : St) : VR := AVal.rec (motive_1 := fun _ => (St) → VR) (motive_2 := fun _ => Unit) xEntry_o xEntry_o (fun _ => xEntry_o) (fun _ _ => xEntry_o) (fun _ _ => xEntry_o) (fun _ _ => xEntry_o) xEntry_o xEntry_ptr xEntry_o (fun _ _ _ _ => xEntry_o) (fun _ _ _ _ _ => xEntry_o) xEntry_o (fun _ => xEntry_o) xEntry_o (fun _ _ _ _ _ => xEntry_o) xEntry_o (fun _ _ _ => xEntry_o) (fun _ _ => xEntry_o) (fun _ _ _ => xEntry_o) (fun _ _ => xEntry_o) (fun _ => xEntry_o) () (fun _ _ _ _ => ()) x s

def taNo (z : AVal) (ok : Bool) (s : St) : VR := ifv (band ok (notBad z)) (.ok (.tup [z, .bool false]) s) (.fail 106)
def xTassert_o (_t : Nat) (_z : AVal) (_ok : Bool) (_s : St) : VR := .fail 109
def xTassert_nili  (_t : Nat) (z : AVal) (ok : Bool) (s : St) : VR := taNo z ok s
def xTassert_iface (u : Nat) (v : AVal) (t : Nat) (z : AVal) (ok : Bool) (s : St) : VR := ifv (Nat.beq u t) (ifv (notBad v) (Bool.rec (motive := fun _ => VR) (.ok v s) (.ok (.tup [v, .bool true]) s) ok) (.fail 107)) (taNo z ok s)
def xTassert (x : AVal) (t : Nat) (z : AVal) (ok : Bool) (s : St) : VR := AVal.rec (motive_1 := fun _ => (Nat) → (AVal) → (Bool) → (St) → VR) (motive_2 := fun _ => Unit) xTassert_o xTassert_o (fun _ => xTassert_o) (fun _ _ => xTassert_o) (fun _ _ => xTassert_o) (fun _ _ => xTassert_o) xTassert_o (fun _ _ => xTassert_o) xTassert_o (fun _ _ _ _ => xTassert_o) (fun _ _ _ _ _ => xTassert_o) xTassert_o (fun _ => xTassert_o) xTassert_o (fun _ _ _ _ _ => xTassert_o) xTassert_nili (fun a0 a1 _ => xTassert_iface a0 a1) (fun _ _ => xTassert_o) (fun _ _ _ => xTassert_o) (fun _ _ => xTassert_o) (fun _ => xTassert_o) () (fun _ _ _ _ => ()) x t z ok s

def xExtract_o (_k : Nat) (_s : St) : VR := .fail 111
def xExtract_tup (l : List AVal) (k : Nat) (s : St) : VR := VR.check (lnth l k) 110 s
def xExtract (x : AVal) (k : Nat) (s : St) : VR := AVal.rec (motive_1 := fun _ => (Nat) → (St) → VR) (motive_2 := fun _ => Unit) xExtract_o xExtract_o (fun _ => xExtract_o) (fun _ _ => xExtract_o) (fun _ _ => xExtract_o) (fun _ _ => xExtract_o) xExtract_o (fun _ _ => xExtract_o) xExtract_o (fun _ _ _ _ => xExtract_o) (fun _ _ _ _ _ => xExtract_o) xExtract_o (fun _ => xExtract_o) xExtract_o (fun _ _ _ _ _ => xExtract_o) xExtract_o (fun _ _ _ => xExtract_o) (fun _ _ => xExtract_o) (fun _ _ _ => xExtract_o) (fun a0 _ => xExtract_tup a0) (fun _ => xExtract_o) () (fun _ _ _ _ => ()) x k s

/-- So many cells of a slice or a string. -/
def cellsOf_o (_esz : Nat) (_n : Nat) (_s : St) : AVal := .bad
def cellsOf_str (m : Nat) (d : Nat) (esz : Nat) (n : Nat) (_s : St) : AVal := Bool.rec (motive := fun _ => AVal) .bad (.aggi .u8 n (dcut 8 d 0 n)) (band (Nat.ble n m) (Nat.beq esz 1))
def cellsOf_nils  (_esz : Nat) (_n : Nat) (_s : St) : AVal := .agg []
def cellsOf_slice (i : Id) (off : Nat) (_x2 : Nat) (_x3 : Nat) (esz : Nat) (n : Nat) (s : St) : AVal := (s.at i).cut off (Nat.mul n esz)
def cellsOf_slicu (i : Id) (off : Nat) (_x2 : Nat) (_x3 : Nat) (_x4 : Nat) (esz : Nat) (n : Nat) (s : St) : AVal := (s.at i).cut off (Nat.mul n esz)
def cellsOf (x : AVal) (esz : Nat) (n : Nat) (s : St) : AVal := AVal.rec (motive_1 := fun _ => (Nat) → (Nat) → (St) → AVal) (motive_2 := fun _ => Unit) cellsOf_o cellsOf_o (fun _ => cellsOf_o) (fun _ _ => cellsOf_o) (fun _ _ => cellsOf_o) cellsOf_str cellsOf_o (fun _ _ => cellsOf_o) cellsOf_nils cellsOf_slice cellsOf_slicu cellsOf_o (fun _ => cellsOf_o) cellsOf_o (fun _ _ _ _ _ => cellsOf_o) cellsOf_o (fun _ _ _ => cellsOf_o) (fun _ _ => cellsOf_o) (fun _ _ _ => cellsOf_o) (fun _ _ => cellsOf_o) (fun _ => cellsOf_o) () (fun _ _ _ _ => ()) x esz n s

def lenOf_o (_k : Nat → VR) : VR := .fail 118
def lenOf_str (n : Nat) (_x1 : Nat) (k : Nat → VR) : VR := k n
def lenOf_nils  (k : Nat → VR) : VR := k 0
def lenOf_slice (_x0 : Id) (_x1 : Nat) (n : Nat) (_x3 : Nat) (k : Nat → VR) : VR := k n
def lenOf_slicu (_x0 : Id) (_x1 : Nat) (n : Nat) (_x3 : Nat) (_x4 : Nat) (k : Nat → VR) : VR := k n
def lenOf (x : AVal) (k : Nat → VR) : VR := AVal.rec (motive_1 := fun _ => (Nat → VR) → VR) (motive_2 := fun _ => Unit) lenOf_o lenOf_o (fun _ => lenOf_o) (fun _ _ => lenOf_o) (fun _ _ => lenOf_o) lenOf_str lenOf_o (fun _ _ => lenOf_o) lenOf_nils lenOf_slice lenOf_slicu lenOf_o (fun _ => lenOf_o) lenOf_o (fun _ _ _ _ _ => lenOf_o) lenOf_o (fun _ _ _ => lenOf_o) (fun _ _ => lenOf_o) (fun _ _ _ => lenOf_o) (fun _ _ => lenOf_o) (fun _ => lenOf_o) () (fun _ _ _ _ => ()) x k

def grownC (esz bytes need : Nat) (c : AVal) (s : St) : VR :=
  ifv (band (notBad c) (Nat.ble (Nat.mul (Nat.add (Nat.mul 4 need) 2000) bytes) 281474976710656)) (s.alloc c.blk fun i s => .ok (.slicu i 0 need need esz) s) (.fail 114)
/-- A new array: old cells, and others behind. -/
def grown (esz bytes need : Nat) (old new : AVal) (s : St) : VR := ifv (band (notBad old) (notBad new)) (grownC esz bytes need (catCells old new) s) (.fail 112)
def inPlace (esz : Nat) (i : Id) (off len need : Nat) (new r : AVal) (s : St) : VR :=
  ifv (Nat.beq len need) (.ok r s) ((s.at i).put (Nat.add off (Nat.mul len esz)) new fun b => s.put i b r)
def appendTo_o (_esz : Nat) (_bytes : Nat) (_n : Nat) (_new : AVal) (_s : St) : VR := .fail 117
def appendTo_nils  (esz : Nat) (bytes : Nat) (n : Nat) (new : AVal) (s : St) : VR := ifv (Nat.beq n 0) (.ok .nils s) (grown esz bytes n (.agg []) new s)
def appendTo_slice (i : Id) (off : Nat) (len : Nat) (cap : Nat) (esz : Nat) (bytes : Nat) (n : Nat) (new : AVal) (s : St) : VR := ifv (Nat.ble (Nat.add len n) cap) (inPlace esz i off len (Nat.add len n) new (.slice i off (Nat.add len n) cap) s) (grown esz bytes (Nat.add len n) ((s.at i).cut off (Nat.mul len esz)) new s)
def appendTo_slicu (i : Id) (off : Nat) (len : Nat) (lo : Nat) (e : Nat) (esz : Nat) (bytes : Nat) (n : Nat) (new : AVal) (s : St) : VR := ifv (Nat.ble (Nat.add len n) lo) (inPlace esz i off len (Nat.add len n) new (.slicu i off (Nat.add len n) lo e) s) (ifv (Nat.beq esz e) (VR.bind (s.put i .none ((s.at i).cut off (Nat.mul len esz))) fun old s => grown esz bytes (Nat.add len n) old new s) (.fail 116))
def appendTo (sl : AVal) (esz : Nat) (bytes : Nat) (n : Nat) (new : AVal) (s : St) : VR := AVal.rec (motive_1 := fun _ => (Nat) → (Nat) → (Nat) → (AVal) → (St) → VR) (motive_2 := fun _ => Unit) appendTo_o appendTo_o (fun _ => appendTo_o) (fun _ _ => appendTo_o) (fun _ _ => appendTo_o) (fun _ _ => appendTo_o) appendTo_o (fun _ _ => appendTo_o) appendTo_nils appendTo_slice appendTo_slicu appendTo_o (fun _ => appendTo_o) appendTo_o (fun _ _ _ _ _ => appendTo_o) appendTo_o (fun _ _ _ => appendTo_o) (fun _ _ => appendTo_o) (fun _ _ _ => appendTo_o) (fun _ _ => appendTo_o) (fun _ => appendTo_o) () (fun _ _ _ _ => ()) sl esz bytes n new s

def appC (esz bytes n : Nat) (sl c : AVal) (s : St) : VR := ifv (notBad c) (appendTo sl esz bytes n c s) (.fail 119)
def xAppend (esz bytes : Nat) (sl x : AVal) (s : St) : VR := lenOf x fun n => appC esz bytes n sl (cellsOf x esz n s) s
def rowCells_o  : AVal := .bad
def rowCells_cells (l : List AVal)  : AVal := .agg l
def rowCells_ints (k : IntKind) (m : Nat) (d : Nat)  : AVal := .aggi k m d
def rowCells (b : Blk)  : AVal := Blk.rec (motive := fun _ => AVal) rowCells_o rowCells_cells rowCells_ints (fun _ _ => rowCells_o) (fun _ _ => rowCells_o) (fun _ _ _ => rowCells_o) (fun _ _ _ => rowCells_o) (fun _ => rowCells_o) b 

def appzN (esz bytes : Nat) (z sl : AVal) (n : Nat) (s : St) : VR := ifv (band (band (Nat.ble (Nat.mul n bytes) 281474976710656) (Nat.ble n 4294967296)) (Nat.beq esz (lwide z.cellList))) (appC esz bytes n sl (rowCells (zeroRow z n)) s) (.fail 121)
def xAppz (esz bytes : Nat) (z sl x : AVal) (s : St) : VR := match x with | .int _ (.ofNat n) => appzN esz bytes z sl n s | _ => .fail 122
def copyAt (i : Id) (off k : Nat) (c : AVal) (s : St) : VR := ifv (Nat.beq k 0) (.ok (.int .i64 (.ofNat k)) s) ((s.at i).put off c fun b => s.put i b (.int .i64 (.ofNat k)))
def minN (n m : Nat) : Nat := Bool.rec (motive := fun _ => Nat) m n (Nat.ble n m)
def copyTo_o (_esz : Nat) (_x : AVal) (_k : Nat) (_s : St) : VR := .fail 127
def copyTo_nils  (_esz : Nat) (_x : AVal) (_k : Nat) (s : St) : VR := .ok (.int .i64 (.ofNat 0)) s
def copyTo_slice (i : Id) (off : Nat) (_x2 : Nat) (_x3 : Nat) (esz : Nat) (x : AVal) (k : Nat) (s : St) : VR := copyAt i off k (cellsOf x esz k s) s
def copyTo_slicu (i : Id) (off : Nat) (_x2 : Nat) (_x3 : Nat) (_x4 : Nat) (esz : Nat) (x : AVal) (k : Nat) (s : St) : VR := copyAt i off k (cellsOf x esz k s) s
def copyTo (d : AVal) (esz : Nat) (x : AVal) (k : Nat) (s : St) : VR := AVal.rec (motive_1 := fun _ => (Nat) → (AVal) → (Nat) → (St) → VR) (motive_2 := fun _ => Unit) copyTo_o copyTo_o (fun _ => copyTo_o) (fun _ _ => copyTo_o) (fun _ _ => copyTo_o) (fun _ _ => copyTo_o) copyTo_o (fun _ _ => copyTo_o) copyTo_nils copyTo_slice copyTo_slicu copyTo_o (fun _ => copyTo_o) copyTo_o (fun _ _ _ _ _ => copyTo_o) copyTo_o (fun _ _ _ => copyTo_o) (fun _ _ => copyTo_o) (fun _ _ _ => copyTo_o) (fun _ _ => copyTo_o) (fun _ => copyTo_o) () (fun _ _ _ _ => ()) d esz x k s

def xCopy (esz : Nat) (d x : AVal) (s : St) : VR := lenOf x fun n => lenOf d fun m => copyTo d esz x (minN n m) s

def xLen_o (_s : St) : VR := .fail 118
def xLen_nils  (s : St) : VR := .ok (.int .i64 (.ofNat 0)) s
def xLen_slice (_x0 : Id) (_x1 : Nat) (n : Nat) (_x3 : Nat) (s : St) : VR := .ok (.int .i64 (.ofNat n)) s
def xLen_slicu (_x0 : Id) (_x1 : Nat) (n : Nat) (_x3 : Nat) (_x4 : Nat) (s : St) : VR := .ok (.int .i64 (.ofNat n)) s
def xLen (x : AVal) (s : St) : VR := AVal.rec (motive_1 := fun _ => (St) → VR) (motive_2 := fun _ => Unit) xLen_o xLen_o (fun _ => xLen_o) (fun _ _ => xLen_o) (fun _ _ => xLen_o) (fun _ _ => xLen_o) xLen_o (fun _ _ => xLen_o) xLen_nils xLen_slice xLen_slicu xLen_o (fun _ => xLen_o) xLen_o (fun _ _ _ _ _ => xLen_o) xLen_o (fun _ _ _ => xLen_o) (fun _ _ => xLen_o) (fun _ _ _ => xLen_o) (fun _ _ => xLen_o) (fun _ => xLen_o) () (fun _ _ _ _ => ()) x s

def xLenStr_o (_s : St) : VR := .fail 118
def xLenStr_str (n : Nat) (_x1 : Nat) (s : St) : VR := .ok (.int .i64 (.ofNat n)) s
def xLenStr (x : AVal) (s : St) : VR := AVal.rec (motive_1 := fun _ => (St) → VR) (motive_2 := fun _ => Unit) xLenStr_o xLenStr_o (fun _ => xLenStr_o) (fun _ _ => xLenStr_o) (fun _ _ => xLenStr_o) xLenStr_str xLenStr_o (fun _ _ => xLenStr_o) xLenStr_o (fun _ _ _ _ => xLenStr_o) (fun _ _ _ _ _ => xLenStr_o) xLenStr_o (fun _ => xLenStr_o) xLenStr_o (fun _ _ _ _ _ => xLenStr_o) xLenStr_o (fun _ _ _ => xLenStr_o) (fun _ _ => xLenStr_o) (fun _ _ _ => xLenStr_o) (fun _ _ => xLenStr_o) (fun _ => xLenStr_o) () (fun _ _ _ _ => ()) x s

def lenB_o (_s : St) : VR := .fail 129
def lenB_map (l : List ME) (_x1 : Nat) (s : St) : VR := .ok (.int .i64 (.ofNat l.length)) s
def lenB (b : Blk) (s : St) : VR := Blk.rec (motive := fun _ => (St) → VR) lenB_o (fun _ => lenB_o) (fun _ _ _ => lenB_o) lenB_map (fun _ _ => lenB_o) (fun _ _ _ => lenB_o) (fun _ _ _ => lenB_o) (fun _ => lenB_o) b s

def xLenMap_o (_s : St) : VR := .fail 130
def xLenMap_nilm  (s : St) : VR := .ok (.int .i64 (.ofNat 0)) s
def xLenMap_map (i : Id) (s : St) : VR := lenB (s.at i) s
def xLenMap (x : AVal) (s : St) : VR := AVal.rec (motive_1 := fun _ => (St) → VR) (motive_2 := fun _ => Unit) xLenMap_o xLenMap_o (fun _ => xLenMap_o) (fun _ _ => xLenMap_o) (fun _ _ => xLenMap_o) (fun _ _ => xLenMap_o) xLenMap_o (fun _ _ => xLenMap_o) xLenMap_o (fun _ _ _ _ => xLenMap_o) (fun _ _ _ _ _ => xLenMap_o) xLenMap_nilm xLenMap_map xLenMap_o (fun _ _ _ _ _ => xLenMap_o) xLenMap_o (fun _ _ _ => xLenMap_o) (fun _ _ => xLenMap_o) (fun _ _ _ => xLenMap_o) (fun _ _ => xLenMap_o) (fun _ => xLenMap_o) () (fun _ _ _ _ => ()) x s

def xCap_o (_s : St) : VR := .fail 131
def xCap_nils  (s : St) : VR := .ok (.int .i64 (.ofNat 0)) s
def xCap_slice (_x0 : Id) (_x1 : Nat) (_x2 : Nat) (n : Nat) (s : St) : VR := .ok (.int .i64 (.ofNat n)) s
def xCap (x : AVal) (s : St) : VR := AVal.rec (motive_1 := fun _ => (St) → VR) (motive_2 := fun _ => Unit) xCap_o xCap_o (fun _ => xCap_o) (fun _ _ => xCap_o) (fun _ _ => xCap_o) (fun _ _ => xCap_o) xCap_o (fun _ _ => xCap_o) xCap_nils xCap_slice (fun _ _ _ _ _ => xCap_o) xCap_o (fun _ => xCap_o) xCap_o (fun _ _ _ _ _ => xCap_o) xCap_o (fun _ _ _ => xCap_o) (fun _ _ => xCap_o) (fun _ _ _ => xCap_o) (fun _ _ => xCap_o) (fun _ => xCap_o) () (fun _ _ _ _ => ()) x s

def minGo (big : Bool) (k : IntKind) (a : Int) : List AVal → St → VR
  | [], s => .ok (.int k a) s
  | .int _ b :: l, s => minGo big k (Bool.rec (motive := fun _ => Int) a b (Bool.rec (motive := fun _ => Bool) (ilt b a) (ilt a b) big)) l s
  | _, _ => .fail 132
def xMin (big : Bool) (l : List AVal) (s : St) : VR := match l with
  | .int k a :: l => minGo big k a l s
  | _ => .fail 133
def delMap_o (_q : EK) (_i : Id) (_k : AVal) (_s : St) : VR := .fail 136
def delMap_map (l : List ME) (c : Nat) (q : EK) (i : Id) (k : AVal) (s : St) : VR := scanTo (mscan q k l 0) 135 (s.put i (.map l c) unit) (fun j => s.put i (.map (merAt l j) c) unit)
def delMap (b : Blk) (q : EK) (i : Id) (k : AVal) (s : St) : VR := Blk.rec (motive := fun _ => (EK) → (Id) → (AVal) → (St) → VR) delMap_o (fun _ => delMap_o) (fun _ _ _ => delMap_o) delMap_map (fun _ _ => delMap_o) (fun _ _ _ => delMap_o) (fun _ _ _ => delMap_o) (fun _ => delMap_o) b q i k s

def xDelete_o (_q : EK) (_k : AVal) (_s : St) : VR := .fail 137
def xDelete_nilm  (q : EK) (k : AVal) (s : St) : VR := ifv (keyOk q k) (.ok unit s) (.fail 134)
def xDelete_map (i : Id) (q : EK) (k : AVal) (s : St) : VR := ifv (keyOk q k) (delMap (s.at i) q i k s) (.fail 134)
def xDelete (m : AVal) (q : EK) (k : AVal) (s : St) : VR := AVal.rec (motive_1 := fun _ => (EK) → (AVal) → (St) → VR) (motive_2 := fun _ => Unit) xDelete_o xDelete_o (fun _ => xDelete_o) (fun _ _ => xDelete_o) (fun _ _ => xDelete_o) (fun _ _ => xDelete_o) xDelete_o (fun _ _ => xDelete_o) xDelete_o (fun _ _ _ _ => xDelete_o) (fun _ _ _ _ _ => xDelete_o) xDelete_nilm xDelete_map xDelete_o (fun _ _ _ _ _ => xDelete_o) xDelete_o (fun _ _ _ => xDelete_o) (fun _ _ => xDelete_o) (fun _ _ _ => xDelete_o) (fun _ _ => xDelete_o) (fun _ => xDelete_o) () (fun _ _ _ _ => ()) m q k s

def clrMap_o (_i : Id) (_s : St) : VR := .fail 138
def clrMap_map (_x0 : List ME) (c : Nat) (i : Id) (s : St) : VR := s.put i (.map [] c) unit
def clrMap (b : Blk) (i : Id) (s : St) : VR := Blk.rec (motive := fun _ => (Id) → (St) → VR) clrMap_o (fun _ => clrMap_o) (fun _ _ _ => clrMap_o) clrMap_map (fun _ _ => clrMap_o) (fun _ _ _ => clrMap_o) (fun _ _ _ => clrMap_o) (fun _ => clrMap_o) b i s

def xClearMap_o (_s : St) : VR := .fail 139
def xClearMap_nilm  (s : St) : VR := .ok unit s
def xClearMap_map (i : Id) (s : St) : VR := clrMap (s.at i) i s
def xClearMap (m : AVal) (s : St) : VR := AVal.rec (motive_1 := fun _ => (St) → VR) (motive_2 := fun _ => Unit) xClearMap_o xClearMap_o (fun _ => xClearMap_o) (fun _ _ => xClearMap_o) (fun _ _ => xClearMap_o) (fun _ _ => xClearMap_o) xClearMap_o (fun _ _ => xClearMap_o) xClearMap_o (fun _ _ _ _ => xClearMap_o) (fun _ _ _ _ _ => xClearMap_o) xClearMap_nilm xClearMap_map xClearMap_o (fun _ _ _ _ _ => xClearMap_o) xClearMap_o (fun _ _ _ => xClearMap_o) (fun _ _ => xClearMap_o) (fun _ _ _ => xClearMap_o) (fun _ _ => xClearMap_o) (fun _ => xClearMap_o) () (fun _ _ _ _ => ()) m s

def clearAt (i : Id) (off n esz : Nat) (z : AVal) (s : St) : VR := ifv (Nat.beq n 0) (.ok unit s) (ifv (Nat.beq esz (lwide z.cellList)) ((s.at i).put off (rowCells (zeroRow z n)) fun b => s.put i b unit) (.fail 140))
def xClearSl_o (_esz : Nat) (_z : AVal) (_s : St) : VR := .fail 141
def xClearSl_nils  (_esz : Nat) (_z : AVal) (s : St) : VR := .ok unit s
def xClearSl_slice (i : Id) (off : Nat) (n : Nat) (_x3 : Nat) (esz : Nat) (z : AVal) (s : St) : VR := clearAt i off n esz z s
def xClearSl_slicu (i : Id) (off : Nat) (n : Nat) (_x3 : Nat) (_x4 : Nat) (esz : Nat) (z : AVal) (s : St) : VR := clearAt i off n esz z s
def xClearSl (x : AVal) (esz : Nat) (z : AVal) (s : St) : VR := AVal.rec (motive_1 := fun _ => (Nat) → (AVal) → (St) → VR) (motive_2 := fun _ => Unit) xClearSl_o xClearSl_o (fun _ => xClearSl_o) (fun _ _ => xClearSl_o) (fun _ _ => xClearSl_o) (fun _ _ => xClearSl_o) xClearSl_o (fun _ _ => xClearSl_o) xClearSl_nils xClearSl_slice xClearSl_slicu xClearSl_o (fun _ => xClearSl_o) xClearSl_o (fun _ _ _ _ _ => xClearSl_o) xClearSl_o (fun _ _ _ => xClearSl_o) (fun _ _ => xClearSl_o) (fun _ _ _ => xClearSl_o) (fun _ _ => xClearSl_o) (fun _ => xClearSl_o) () (fun _ _ _ _ => ()) x esz z s


/-! ### Running -/
structure Tab where
  fn : Nat → Option AFn
  meth : Nat → String → Option Nat
  summ : Nat → Option (List AVal → St → VR)

abbrev CallT := Nat → List AVal → St → VR
def callFv (fn : Fn) (a b : List AVal) (args : List AVal) (call : CallT) (s : St) : VR := match fn with
  | .func f => call f (lapp a (lapp args b)) s
  | _ => .fail 151
def callV_o (_args : List AVal) (_call : CallT) (_s : St) : VR := .fail 150
def callV_func (fn : Fn) (a : List AVal) (b : List AVal) (args : List AVal) (call : CallT) (s : St) : VR := callFv fn a b args call s
def callV (fv : AVal) (args : List AVal) (call : CallT) (s : St) : VR := AVal.rec (motive_1 := fun _ => (List AVal) → (CallT) → (St) → VR) (motive_2 := fun _ => Unit) callV_o callV_o (fun _ => callV_o) (fun _ _ => callV_o) (fun _ _ => callV_o) (fun _ _ => callV_o) callV_o (fun _ _ => callV_o) callV_o (fun _ _ _ _ => callV_o) (fun _ _ _ _ _ => callV_o) callV_o (fun _ => callV_o) callV_o (fun a0 a1 a2 _ _ => callV_func a0 a1 a2) callV_o (fun _ _ _ => callV_o) (fun _ _ => callV_o) (fun _ _ _ => callV_o) (fun _ _ => callV_o) (fun _ => callV_o) () (fun _ _ _ _ => ()) fv args call s

def callI_o (_T : Tab) (_ms : String) (_args : List AVal) (_call : CallT) (_s : St) : VR := .fail 152
def callI_iface (t : Nat) (v : AVal) (T : Tab) (ms : String) (args : List AVal) (call : CallT) (s : St) : VR := Option.rec (motive := fun _ => VR) (.fail 151) (fun f => call f (v :: args) s) (T.meth t ms)
def callI (r : AVal) (T : Tab) (ms : String) (args : List AVal) (call : CallT) (s : St) : VR := AVal.rec (motive_1 := fun _ => (Tab) → (String) → (List AVal) → (CallT) → (St) → VR) (motive_2 := fun _ => Unit) callI_o callI_o (fun _ => callI_o) (fun _ _ => callI_o) (fun _ _ => callI_o) (fun _ _ => callI_o) callI_o (fun _ _ => callI_o) callI_o (fun _ _ _ _ => callI_o) (fun _ _ _ _ _ => callI_o) callI_o (fun _ => callI_o) callI_o (fun _ _ _ _ _ => callI_o) callI_o (fun a0 a1 _ => callI_iface a0 a1) (fun _ _ => callI_o) (fun _ _ _ => callI_o) (fun _ _ => callI_o) (fun _ => callI_o) () (fun _ _ _ _ => ()) r T ms args call s

abbrev OpT := Tab → CallT → List AVal → Env → St → VR
def evO (x : Option AOpd) (l : List AVal) (e : Env) : Option AVal := Option.rec (motive := fun _ => List AVal → Env → Option AVal) (fun _ _ => none) (fun x l e => some (ev x l e)) x l e
def oBad  : OpT := fun _ _ _ _ _ => .fail 5
def oMove (x : AOpd) : OpT := fun _ _ l e s => VR.check (ev x l e) 6 s
def oNilck (x : AOpd) : OpT := fun _ _ l e s => xNilck (ev x l e) s
def oPick (c a b : AOpd) : OpT := fun _ _ l e s => xPick (ev c l e) (ev a l e) (ev b l e) s
def oNew (b : Blk) : OpT := fun _ _ _ _ s => xNew b s
def oBox (x : AOpd) : OpT := fun _ _ l e s => xBox (ev x l e) s
def oBuild (z : List AVal) (ps : List ((Nat × Nat) × AOpd)) : OpT := fun _ _ l e s => xBuild z (evParts ps l e) s
def oBslice (b : Bool) (z : List AVal) (n : Nat) (ps : List ((Nat × Nat) × AOpd)) : OpT := fun _ _ l e s => xBslice b z n (evParts ps l e) s
def oLoad (x : AOpd) : OpT := fun _ _ l e s => xLoad (ev x l e) s
def oLoadn (n : Nat) (x : AOpd) : OpT := fun _ _ l e s => xLoadn (ev x l e) n s
def oStore (a x : AOpd) : OpT := fun _ _ l e s => xStore (ev a l e) (ev x l e) s
def oStoren (n : Nat) (a x : AOpd) : OpT := fun _ _ l e s => xStoren (ev a l e) (ev x l e) n s
def oBinInt (op : BinOp) (x y : AOpd) : OpT := fun _ _ l e s => xBinInt (ev x l e) (ev y l e) op s
def oEq (k : EK) (n : Bool) (x y : AOpd) : OpT := fun _ _ l e s => xEq k (ev x l e) (ev y l e) n s
def oStrop (op : BinOp) (x y : AOpd) : OpT := fun _ _ l e s => xStrop op (ev x l e) (ev y l e) s
def oFdiv (k : FloatKind) (x y : AOpd) : OpT := fun _ _ l e s => xFdiv k (ev x l e) (ev y l e) s
def oFne (k : FloatKind) (x y : AOpd) : OpT := fun _ _ l e s => xFne k (ev x l e) (ev y l e) s
def oNot (x : AOpd) : OpT := fun _ _ l e s => xNot (ev x l e) s
def oNeg (x : AOpd) : OpT := fun _ _ l e s => xNeg (ev x l e) s
def oConvII (k : IntKind) (x : AOpd) : OpT := fun _ _ l e s => xConvII (ev x l e) k s
def oConvIF (k : FloatKind) (x : AOpd) : OpT := fun _ _ l e s => xConvIF (ev x l e) k s
def oConvBS (x : AOpd) : OpT := fun _ _ l e s => xConvBS (ev x l e) s
def oConvSB (x : AOpd) : OpT := fun _ _ l e s => xConvSB (ev x l e) s
def oConvSame (x : AOpd) : OpT := fun _ _ l e s => xConvSame (ev x l e) s
def oS2ap (n : Nat) (x : AOpd) : OpT := fun _ _ l e s => xS2ap (ev x l e) n s
def oMkif (t : Nat) (x : AOpd) : OpT := fun _ _ l e s => xMkif (ev x l e) t s
def oMkfn (fn : Fn) (a b : List AOpd) : OpT := fun _ _ l e s => xMkfn fn (evs a l e) (evs b l e) s
def oMkmap  : OpT := fun _ _ _ _ s => xMkmap s
def oMkslice (esz bytes : Nat) (z : AVal) (a b : AOpd) : OpT := fun _ _ l e s => xMkslice esz bytes z (ev a l e) (ev b l e) s
def oSlStr (x : AOpd) (lo hi : Option AOpd) : OpT := fun _ _ l e s => xSlStr (ev x l e) (evO lo l e) (evO hi l e) s
def oSlSl (esz : Nat) (x : AOpd) (lo hi mx : Option AOpd) : OpT := fun _ _ l e s => xSlSl (ev x l e) esz (evO lo l e) (evO hi l e) (evO mx l e) s
def oSlArr (n esz : Nat) (x : AOpd) (lo hi mx : Option AOpd) : OpT := fun _ _ l e s => xSlArr (ev x l e) n esz (evO lo l e) (evO hi l e) (evO mx l e) s
def oFieldAddr (o : Nat) (x : AOpd) : OpT := fun _ _ l e s => xFieldAddr (ev x l e) o s
def oField (o : Nat) (x : AOpd) : OpT := fun _ _ l e s => xField (ev x l e) o s
def oFieldn (o n : Nat) (x : AOpd) : OpT := fun _ _ l e s => xFieldn (ev x l e) o n s
def oIxArr (n esz : Nat) (x i : AOpd) : OpT := fun _ _ l e s => xIxArr (ev x l e) n esz (ev i l e) s
def oIxSl (esz : Nat) (x i : AOpd) : OpT := fun _ _ l e s => xIxSl (ev x l e) esz (ev i l e) s
def oIxStr (x i : AOpd) : OpT := fun _ _ l e s => xIxStr (ev x l e) (ev i l e) s
def oIxVal (n : Nat) (x i : AOpd) : OpT := fun _ _ l e s => xIxVal n (ev x l e) (ev i l e) s
def oIxValn (n esz : Nat) (x i : AOpd) : OpT := fun _ _ l e s => xIxValn n esz (ev x l e) (ev i l e) s
def oLookup (q : EK) (z : AVal) (ok : Bool) (x k : AOpd) : OpT := fun _ _ l e s => xLookup (ev x l e) q z ok (ev k l e) s
def oMupd (q : EK) (m k x : AOpd) : OpT := fun _ _ l e s => xMupd (ev m l e) q (ev k l e) (ev x l e) s
def oRngStr (x : AOpd) : OpT := fun _ _ l e s => xRngStr (ev x l e) s
def oRngMap (x : AOpd) : OpT := fun _ _ l e s => xRngMap (ev x l e) s
def oNextStr (x : AOpd) : OpT := fun _ _ l e s => xNextStr (ev x l e) s
def oEntry (x : AOpd) : OpT := fun _ _ l e s => xEntry (ev x l e) s
def oTassert (t : Nat) (z : AVal) (ok : Bool) (x : AOpd) : OpT := fun _ _ l e s => xTassert (ev x l e) t z ok s
def oExtract (k : Nat) (x : AOpd) : OpT := fun _ _ l e s => xExtract (ev x l e) k s
def oAppend (esz bytes : Nat) (a x : AOpd) : OpT := fun _ _ l e s => xAppend esz bytes (ev a l e) (ev x l e) s
def oAppz (esz bytes : Nat) (z : AVal) (a x : AOpd) : OpT := fun _ _ l e s => xAppz esz bytes z (ev a l e) (ev x l e) s
def oCopy (esz : Nat) (d x : AOpd) : OpT := fun _ _ l e s => xCopy esz (ev d l e) (ev x l e) s
def oLen (x : AOpd) : OpT := fun _ _ l e s => xLen (ev x l e) s
def oLenStr (x : AOpd) : OpT := fun _ _ l e s => xLenStr (ev x l e) s
def oLenMap (x : AOpd) : OpT := fun _ _ l e s => xLenMap (ev x l e) s
def oCap (x : AOpd) : OpT := fun _ _ l e s => xCap (ev x l e) s
def oMin (xs : List AOpd) : OpT := fun _ _ l e s => xMin false (evs xs l e) s
def oMax (xs : List AOpd) : OpT := fun _ _ l e s => xMin true (evs xs l e) s
def oDelete (q : EK) (m k : AOpd) : OpT := fun _ _ l e s => xDelete (ev m l e) q (ev k l e) s
def oClearMap (m : AOpd) : OpT := fun _ _ l e s => xClearMap (ev m l e) s
def oClearSl (esz : Nat) (z : AVal) (x : AOpd) : OpT := fun _ _ l e s => xClearSl (ev x l e) esz z s
def oCallf (f : Nat) (args : List AOpd) : OpT := fun _ call l e s => call f (evs args l e) s
def oCallv (fv : AOpd) (args : List AOpd) : OpT := fun _ call l e s => callV (ev fv l e) (evs args l e) call s
def oCalli (ms : String) (r : AOpd) (args : List AOpd) : OpT := fun T call l e s => callI (ev r l e) T ms (evs args l e) call s
def opOf (o : AO) (T : Tab) (call : CallT) (l : List AVal) (e : Env) (s : St) : VR := AO.rec (motive := fun _ => OpT) oBad oMove oNilck oPick oNew oBox oBuild oBslice oLoad oLoadn oStore oStoren oBinInt oEq oStrop oFdiv oFne oNot oNeg oConvII oConvIF oConvBS oConvSB oConvSame oS2ap oMkif oMkfn oMkmap oMkslice oSlStr oSlSl oSlArr oFieldAddr oField oFieldn oIxArr oIxSl oIxStr oIxVal oIxValn oLookup oMupd oRngStr oRngMap oNextStr oEntry oTassert oExtract oAppend oAppz oCopy oLen oLenStr oLenMap oCap oMin oMax oDelete oClearMap oClearSl oCallf oCallv oCalli o T call l e s

def putD (d : Option P2) (v : AVal) (e : Env) : Env := Option.rec (motive := fun _ => AVal → Env → Env) (fun _ e => e) (fun p v e => Env.set p v e) d v e
/-- One operation behind which others run. -/
def stepN (v : AVal) (s : St) (ih : List AVal → Env → St → Res) (l : List AVal) (e : Env) : Res := ih (v :: l) e s
def stepS (p : P2) (v : AVal) (s : St) (ih : List AVal → Env → St → Res) (l : List AVal) (e : Env) : Res := ih (v :: l) (Env.set p v e) s
def stepK (v : AVal) (s : St) (dst : Option P2) (ih : List AVal → Env → St → Res) (l : List AVal) (e : Env) : Res :=
  Option.rec (motive := fun _ => AVal → St → (List AVal → Env → St → Res) → List AVal → Env → Res) stepN stepS dst v s ih l e
def stepF (w : Nat) (_ : Option P2) (_ : List AVal → Env → St → Res) (_ : List AVal) (_ : Env) : Res := .fail w
def stepOp (T : Tab) (call : CallT) (op : AO) (dst : Option P2) (ih : List AVal → Env → St → Res) (l : List AVal) (e : Env) (s : St) : Res :=
  VR.rec (motive := fun _ => Option P2 → (List AVal → Env → St → Res) → List AVal → Env → Res) stepK stepF (opOf op T call l e s) dst ih l e
def stepNotA (_ : Tab) (_ : CallT) (_ : AO) (dst : Option P2) (ih : List AVal → Env → St → Res) (l : List AVal) (e : Env) (s : St) : Res := stepK unit s dst ih l e

def guarded_o (_want : Bool) (_T : Tab) (_call : CallT) (_op : AO) (_dst : Option P2) (_ih : List AVal → Env → St → Res) (_l : List AVal) (_e : Env) (_s : St) : Res := .fail 7
def guarded_bool (b : Bool) (want : Bool) (T : Tab) (call : CallT) (op : AO) (dst : Option P2) (ih : List AVal → Env → St → Res) (l : List AVal) (e : Env) (s : St) : Res := Bool.rec (motive := fun _ => Tab → CallT → AO → Option P2 → (List AVal → Env → St → Res) → List AVal → Env → St → Res) stepNotA stepOp (beqB b want) T call op dst ih l e s
def guarded_tup (_x0 : List AVal) (_want : Bool) (T : Tab) (call : CallT) (op : AO) (dst : Option P2) (ih : List AVal → Env → St → Res) (l : List AVal) (e : Env) (s : St) : Res := stepNotA T call op dst ih l e s
def guarded (v : AVal) (want : Bool) (T : Tab) (call : CallT) (op : AO) (dst : Option P2) (ih : List AVal → Env → St → Res) (l : List AVal) (e : Env) (s : St) : Res := AVal.rec (motive_1 := fun _ => (Bool) → (Tab) → (CallT) → (AO) → (Option P2) → (List AVal → Env → St → Res) → (List AVal) → (Env) → (St) → Res) (motive_2 := fun _ => Unit) guarded_o guarded_o guarded_bool (fun _ _ => guarded_o) (fun _ _ => guarded_o) (fun _ _ => guarded_o) guarded_o (fun _ _ => guarded_o) guarded_o (fun _ _ _ _ => guarded_o) (fun _ _ _ _ _ => guarded_o) guarded_o (fun _ => guarded_o) guarded_o (fun _ _ _ _ _ => guarded_o) guarded_o (fun _ _ _ => guarded_o) (fun _ _ => guarded_o) (fun _ _ _ => guarded_o) (fun a0 _ => guarded_tup a0) (fun _ => guarded_o) () (fun _ _ _ _ => ()) v want T call op dst ih l e s

def runG (g : AOpd × Bool) (T : Tab) (call : CallT) (op : AO) (dst : Option P2) (ih : List AVal → Env → St → Res) (l : List AVal) (e : Env) (s : St) : Res := guarded (ev g.1 l e) g.2 T call op dst ih l e s
def runA (op : AO) (dst : Option P2) (g : Option (AOpd × Bool)) (T : Tab) (call : CallT) (ih : List AVal → Env → St → Res) (l : List AVal) (e : Env) (s : St) : Res :=
  Option.rec (motive := fun _ => Tab → CallT → AO → Option P2 → (List AVal → Env → St → Res) → List AVal → Env → St → Res) stepOp runG g T call op dst ih l e s
def runOp (T : Tab) (call : CallT) (o : AOp) (ih : List AVal → Env → St → Res) (l : List AVal) (e : Env) (s : St) : Res :=
  AOp.rec (motive := fun _ => Tab → CallT → (List AVal → Env → St → Res) → List AVal → Env → St → Res) runA o T call ih l e s
/-- Are two values the same? -/
def aveq (x y : AVal) : Bool := AVal.rec (motive_1 := fun _ => AVal → Bool) (motive_2 := fun _ => List AVal → Bool)
  (fun _ => false) (fun _ => false) (fun a y => match y with | .bool b => beqB a b | _ => false) (fun k a y => match y with | .int k' b => band (kbeq k k') (ieq a b) | _ => false) (fun _ _ _ => false)
  (fun n d y => match y with | .str m e => band (Nat.beq n m) (Nat.beq d e) | _ => false) (fun y => match y with | .nilp => true | _ => false) (fun i o y => match y with | .ptr j p => band (Nat.beq i.num j.num) (Nat.beq o p) | _ => false)
  (fun y => match y with | .nils => true | _ => false) (fun i o n c y => match y with | .slice j p m e => band (band (Nat.beq i.num j.num) (Nat.beq o p)) (band (Nat.beq n m) (Nat.beq c e)) | _ => false)
  (fun i o n c z y => match y with | .slicu j p m e w => band (band (band (Nat.beq i.num j.num) (Nat.beq o p)) (band (Nat.beq n m) (Nat.beq c e))) (Nat.beq z w) | _ => false)
  (fun y => match y with | .nilm => true | _ => false) (fun i y => match y with | .map j => Nat.beq i.num j.num | _ => false) (fun y => match y with | .nilf => true | _ => false) (fun _ _ _ _ _ _ => false)
  (fun y => match y with | .nili => true | _ => false) (fun t _ ih y => match y with | .iface u w => band (Nat.beq t u) (ih w) | _ => false) (fun _ ih y => match y with | .agg l => ih l | _ => false)
  (fun k n d y => match y with | .aggi k' m e => band (kbeq k k') (band (Nat.beq n m) (Nat.beq d e)) | _ => false) (fun _ ih y => match y with | .tup l => ih l | _ => false) (fun i y => match y with | .opq j => Nat.beq i j | _ => false)
  (fun l => match l with | [] => true | _ => false) (fun _ _ ih1 ih2 l => match l with | w :: r => band (ih1 w) (ih2 r) | [] => false) x y
/-- Does an operation read the same in so many earlier states? -/
def sameIn (T : Tab) (call : CallT) (op : AO) (l : List AVal) (e : Env) (v : AVal) (n : Nat) (snaps : List St) : Bool :=
  Nat.rec (motive := fun _ => List St → Bool) (fun _ => true) (fun _ ih snaps => match snaps with
    | [] => false
    | s :: r => match opOf op T call l e s with
      | .ok w _ => band (aveq v w) (ih r)
      | .fail _ => false) n snaps
abbrev DrawK := List AVal → Env → St → List St → Res
def dPut (dst : Option P2) (v : AVal) (s : St) (snaps : List St) (ih : DrawK) (l : List AVal) (e : Env) : Res :=
  Option.rec (motive := fun _ => AVal → St → List St → DrawK → List AVal → Env → Res) (fun v s snaps ih l e => ih (v :: l) e s snaps) (fun p v s snaps ih l e => ih (v :: l) (Env.set p v e) s snaps) dst v s snaps ih l e
def dRead (n : Nat) (T : Tab) (call : CallT) (op : AO) (dst : Option P2) (ih : DrawK) (l : List AVal) (e : Env) (s : St) (snaps : List St) : Res := match snaps with
  | [] => .fail 180
  | s0 :: r => match opOf op T call l e s0 with
    | .ok v _ => Bool.rec (motive := fun _ => Res) (.fail 181) (dPut dst v s snaps ih l e) (sameIn T call op l e v n r)
    | .fail w => .fail w
def dPure (T : Tab) (call : CallT) (op : AO) (dst : Option P2) (ih : DrawK) (l : List AVal) (e : Env) (s : St) (snaps : List St) : Res :=
  VR.rec (motive := fun _ => Res) (fun v _ => dPut dst v s snaps ih l e) .fail (opOf op T call l e s)
def dAlloc (T : Tab) (call : CallT) (op : AO) (dst : Option P2) (ih : DrawK) (l : List AVal) (e : Env) (s : St) (snaps : List St) : Res :=
  VR.rec (motive := fun _ => Res) (fun v s' => Bool.rec (motive := fun _ => Res) (.fail 182) (dPut dst v s' snaps ih l e) (Nat.beq s'.n.num (Nat.succ s.n.num))) .fail (opOf op T call l e s)
def dEff (T : Tab) (call : CallT) (op : AO) (dst : Option P2) (ih : DrawK) (l : List AVal) (e : Env) (s : St) (snaps : List St) : Res :=
  VR.rec (motive := fun _ => Res) (fun v s' => Bool.rec (motive := fun _ => Res) (.fail 183) (dPut dst v s' (s' :: snaps) ih l e) (Nat.ble s.n.num s'.n.num)) .fail (opOf op T call l e s)
def dDo (k : DK) (T : Tab) (call : CallT) (op : AO) (dst : Option P2) (ih : DrawK) (l : List AVal) (e : Env) (s : St) (snaps : List St) : Res :=
  DK.rec (motive := fun _ => Tab → CallT → AO → Option P2 → DrawK → List AVal → Env → St → List St → Res) dPure dRead dAlloc dEff k T call op dst ih l e s snaps
def dNot (_ : DK) (_ : Tab) (_ : CallT) (_ : AO) (dst : Option P2) (ih : DrawK) (l : List AVal) (e : Env) (s : St) (snaps : List St) : Res := dPut dst unit s snaps ih l e

def dGuard_o (_want : Bool) (_k : DK) (_T : Tab) (_call : CallT) (_op : AO) (_dst : Option P2) (_ih : DrawK) (_l : List AVal) (_e : Env) (_s : St) (_snaps : List St) : Res := .fail 7
def dGuard_bool (b : Bool) (want : Bool) (k : DK) (T : Tab) (call : CallT) (op : AO) (dst : Option P2) (ih : DrawK) (l : List AVal) (e : Env) (s : St) (snaps : List St) : Res := Bool.rec (motive := fun _ => DK → Tab → CallT → AO → Option P2 → DrawK → List AVal → Env → St → List St → Res) dNot dDo (beqB b want) k T call op dst ih l e s snaps
def dGuard_tup (_x0 : List AVal) (_want : Bool) (k : DK) (T : Tab) (call : CallT) (op : AO) (dst : Option P2) (ih : DrawK) (l : List AVal) (e : Env) (s : St) (snaps : List St) : Res := dNot k T call op dst ih l e s snaps
def dGuard (v : AVal) (want : Bool) (k : DK) (T : Tab) (call : CallT) (op : AO) (dst : Option P2) (ih : DrawK) (l : List AVal) (e : Env) (s : St) (snaps : List St) : Res := AVal.rec (motive_1 := fun _ => (Bool) → (DK) → (Tab) → (CallT) → (AO) → (Option P2) → (DrawK) → (List AVal) → (Env) → (St) → (List St) → Res) (motive_2 := fun _ => Unit) dGuard_o dGuard_o dGuard_bool (fun _ _ => dGuard_o) (fun _ _ => dGuard_o) (fun _ _ => dGuard_o) dGuard_o (fun _ _ => dGuard_o) dGuard_o (fun _ _ _ _ => dGuard_o) (fun _ _ _ _ _ => dGuard_o) dGuard_o (fun _ => dGuard_o) dGuard_o (fun _ _ _ _ _ => dGuard_o) dGuard_o (fun _ _ _ => dGuard_o) (fun _ _ => dGuard_o) (fun _ _ _ => dGuard_o) (fun a0 _ => dGuard_tup a0) (fun _ => dGuard_o) () (fun _ _ _ _ => ()) v want k T call op dst ih l e s snaps

def runOps (T : Tab) (call : CallT) (ops : List AOp) (l : List AVal) (e : Env) (s : St) : Res :=
  List.rec (motive := fun _ => Tab → CallT → List AVal → Env → St → Res) (fun _ _ _ e s => .norm e s) (fun o _ ih T call l e s => runOp T call o (ih T call) l e s) ops T call l e s

def emptyEnv : Env := N8.all (N8.all .bad)
def emptyHeap : Heap := N8.all (N8.all (N8.all (N8.all (N8.all (N8.all .none)))))
def St.empty : St := ⟨emptyHeap, ⟨.i0, .i0, .i0, .i0, .i0, .i0⟩, 0⟩
def dOp (o : DOp) (T : Tab) (call : CallT) (ih : DrawK) (l : List AVal) (e : Env) (s : St) (snaps : List St) : Res := match o.op.guard with
  | none => dDo o.kind T call o.op.op o.op.dst ih l e s snaps
  | some g => dGuard (ev g.1 l e) g.2 o.kind T call o.op.op o.op.dst ih l e s snaps
def runDraw (T : Tab) (call : CallT) (ops : List DOp) (l : List AVal) (e : Env) (s : St) (snaps : List St) : Res :=
  List.rec (motive := fun _ => Tab → CallT → List AVal → Env → St → List St → Res) (fun _ _ _ e s _ => .norm e s) (fun o _ ih T call l e s snaps => dOp o T call (ih T call) l e s snaps) ops T call l e s snaps
def setParam (args : List AVal) (p : Option P2) (ih : List AVal → Env → Env) (e : Env) : Env :=
  List.rec (motive := fun _ => Option P2 → (List AVal → Env → Env) → Env → Env) (fun _ _ e => e) (fun v r _ p ih e => ih r (putD p v e)) args p ih e
def setParams (ps : List (Option P2)) (args : List AVal) (e : Env) : Env :=
  List.rec (motive := fun _ => List AVal → Env → Env) (fun _ e => e) (fun p _ ih args e => setParam args p ih e) ps args e
def cellVia_o (_s : St) : AVal := .bad
def cellVia_ptr (i : Id) (off : Nat) (s : St) : AVal := (s.at i).cell off
def cellVia (x : AVal) (s : St) : AVal := AVal.rec (motive_1 := fun _ => (St) → AVal) (motive_2 := fun _ => Unit) cellVia_o cellVia_o (fun _ => cellVia_o) (fun _ _ => cellVia_o) (fun _ _ => cellVia_o) (fun _ _ => cellVia_o) cellVia_o cellVia_ptr cellVia_o (fun _ _ _ _ => cellVia_o) (fun _ _ _ _ _ => cellVia_o) cellVia_o (fun _ => cellVia_o) cellVia_o (fun _ _ _ _ _ => cellVia_o) cellVia_o (fun _ _ _ => cellVia_o) (fun _ _ => cellVia_o) (fun _ _ _ => cellVia_o) (fun _ _ => cellVia_o) (fun _ => cellVia_o) () (fun _ _ _ _ => ()) x s

def cutVia_o (_n : Nat) (_s : St) : AVal := .bad
def cutVia_ptr (i : Id) (off : Nat) (n : Nat) (s : St) : AVal := (s.at i).cut off n
def cutVia (x : AVal) (n : Nat) (s : St) : AVal := AVal.rec (motive_1 := fun _ => (Nat) → (St) → AVal) (motive_2 := fun _ => Unit) cutVia_o cutVia_o (fun _ => cutVia_o) (fun _ _ => cutVia_o) (fun _ _ => cutVia_o) (fun _ _ => cutVia_o) cutVia_o cutVia_ptr cutVia_o (fun _ _ _ _ => cutVia_o) (fun _ _ _ _ _ => cutVia_o) cutVia_o (fun _ => cutVia_o) cutVia_o (fun _ _ _ _ _ => cutVia_o) cutVia_o (fun _ _ _ => cutVia_o) (fun _ _ => cutVia_o) (fun _ _ _ => cutVia_o) (fun _ _ => cutVia_o) (fun _ => cutVia_o) () (fun _ _ _ _ => ()) x n s

def resOf (e : Env) (s : St) (r : ARes) : AVal := ARes.rec (motive := fun _ => AVal) (fun p => Env.get p e) (fun p => cellVia (Env.get p e) s) (fun p n => cutVia (Env.get p e) n s) .bad r
def ressOf (e : Env) (s : St) (l : List ARes) : List AVal := List.rec (motive := fun _ => List AVal) [] (fun r _ ih => resOf e s r :: ih) l
def oneOf (l : List AVal) (s : St) : VR := match l with
  | [v] => VR.check v 8 s
  | l => ifv (noBad l) (.ok (.tup l) s) (.fail 9)

abbrev ExT := AC → Env → St → Res
def deeper (f w : Nat) : VR := .fail (Nat.add f (Nat.mul 1024 w))
def callEnd (e : Env) (s : St) (results : List ARes) (_ : Nat) : VR := oneOf (ressOf e s results) s
def callRes (r : Res) (results : List ARes) (f : Nat) : VR :=
  Res.rec (motive := fun _ => List ARes → Nat → VR) callEnd (fun _ _ _ _ _ => .fail 3) callEnd (fun w _ f => deeper f w) r results f
def callFn (code : AC) (params : List (Option P2)) (results : List ARes) (ex : ExT) (f : Nat) (args : List AVal) (s : St) : VR :=
  callRes (ex code (setParams params args emptyEnv) s) results f
def callTab (o : Option AFn) (ex : ExT) (f : Nat) (args : List AVal) (s : St) : VR :=
  Option.rec (motive := fun _ => ExT → Nat → List AVal → St → VR) (fun _ f _ _ => deeper f 4) (fun fn ex f args s => AFn.rec (motive := fun _ => ExT → Nat → List AVal → St → VR) callFn fn ex f args s) o ex f args s
def callWith (T : Tab) (ex : ExT) (f : Nat) (args : List AVal) (s : St) : VR :=
  Option.rec (motive := fun _ => Tab → ExT → Nat → List AVal → St → VR) (fun T ex f args s => callTab (T.fn f) ex f args s) (fun g _ _ _ args s => g args s) (T.summ f) T ex f args s

def topAll (l : List P2) (e : Env) : Env := List.rec (motive := fun _ => Env → Env) (fun e => e) (fun p _ ih e => ih (Env.set p .top e)) l e
/-- The search: no entry may be left by writing; at most one leaves the loop. -/
def mSearch (ex : ExT) (rest : AC) (e : Env) (s : St) (it m : Id) (c : Nat) (found : Option Res) : List ME → Res
  | [] => match found with
    | some r => r
    | none => .norm e ⟨Heap.set it .none s.h, s.n, s.ro⟩
  | x :: l => match ex rest e ⟨Heap.set it (.mcur m x.born c) s.h, s.n, s.n.num⟩ with
    | .norm _ _ => mSearch ex rest e s it m c found l
    | .fail w => .fail w
    | .exit i e' s' => match found with
      | none => mSearch ex rest e s it m c (some (.exit i e' ⟨s'.h, s'.n, s.ro⟩)) l
      | some _ => .fail 160
    | .ret e' s' => match found with
      | none => mSearch ex rest e s it m c (some (.ret e' ⟨s'.h, s'.n, s.ro⟩)) l
      | some _ => .fail 161
def leaves (id : Nat) (r : Res) : Res := match r with | .norm e s => .exit id e s | r => r
/-- Are all entries older than a time? -/
def allBorn (l : List ME) (c : Nat) : Bool := List.rec (motive := fun _ => Bool) true (fun e _ ih => band (lt e.born c) ih) l
/-- Behind the round of the one entry. -/
def oneLeft (b c id : Nat) (m : Id) (e : Env) (s : St) (i : Blk) : Res := match i with
  | .mcur m' b' c' => Bool.rec (motive := fun _ => Res) (.fail 162) (match s.at m with
    | .map [y] _ => Bool.rec (motive := fun _ => Res) (.fail 162) (.exit id e s) (Nat.beq y.born b)
    | .map [] _ => .exit id e s
    | _ => .fail 163) (band (Nat.beq m'.num m.num) (band (Nat.beq b' b) (Nat.beq c' c)))
  | _ => .fail 162
def oneRound (ex : ExT) (rest : AC) (id : Nat) (e : Env) (s : St) (it m : Id) (x : ME) (c : Nat) : Res :=
  match ex rest e ⟨Heap.set it (.mcur m x.born c) s.h, s.n, s.ro⟩ with
  | .norm e' s' => oneLeft x.born c id m e' s' (s'.at it)
  | r => r
def mloopMap (ex : ExT) (rest : AC) (id : Nat) (e : Env) (s : St) (it m : Id) (since c : Nat) (l : List ME) : Res := match l with
  | [] => .exit id e s
  | [x] => Bool.rec (motive := fun _ => Res) (.fail 158) (oneRound ex rest id e s it m x c) (band (s.may it) (band (lt x.born since) (lt x.born c)))
  | l => Bool.rec (motive := fun _ => Res) (.fail 159) (leaves id (mSearch ex rest e s it m c none l)) (band (s.may it) (band (allBorn l since) (allBorn l c)))
def mloopAt (ex : ExT) (rest : AC) (top : List P2) (id : Nat) (e : Env) (s : St) (it : Id) : Res :=
  match s.at it with
  | .miter .nilm _ => .exit id (topAll top e) s
  | .miter (.map m) since => match s.at m with
    | .map l c => mloopMap ex rest id (topAll top e) s it m since c l
    | _ => .fail 164
  | _ => .fail 165

def mloopVia_o (_ex : ExT) (_rest : AC) (_top : List P2) (_id : Nat) (_e : Env) (_s : St) : Res := .fail 168
def mloopVia_ptr (i : Id) (off : Nat) (ex : ExT) (rest : AC) (top : List P2) (id : Nat) (e : Env) (s : St) : Res := Bool.rec (motive := fun _ => Res) (.fail 168) (mloopAt ex rest top id e s i) (Nat.beq off 0)
def mloopVia (x : AVal) (ex : ExT) (rest : AC) (top : List P2) (id : Nat) (e : Env) (s : St) : Res := AVal.rec (motive_1 := fun _ => (ExT) → (AC) → (List P2) → (Nat) → (Env) → (St) → Res) (motive_2 := fun _ => Unit) mloopVia_o mloopVia_o (fun _ => mloopVia_o) (fun _ _ => mloopVia_o) (fun _ _ => mloopVia_o) (fun _ _ => mloopVia_o) mloopVia_o mloopVia_ptr mloopVia_o (fun _ _ _ _ => mloopVia_o) (fun _ _ _ _ _ => mloopVia_o) mloopVia_o (fun _ => mloopVia_o) mloopVia_o (fun _ _ _ _ _ => mloopVia_o) mloopVia_o (fun _ _ _ => mloopVia_o) (fun _ _ => mloopVia_o) (fun _ _ _ => mloopVia_o) (fun _ _ => mloopVia_o) (fun _ => mloopVia_o) () (fun _ _ _ _ => ()) x ex rest top id e s

def condVia_o (_ex : ExT) (_a : AC) (_b : AC) (_e : Env) (_s : St) : Res := .fail 167
def condVia_bool (t : Bool) (ex : ExT) (a : AC) (b : AC) (e : Env) (s : St) : Res := ex (Bool.rec (motive := fun _ => AC) b a t) e s
def condVia (x : AVal) (ex : ExT) (a : AC) (b : AC) (e : Env) (s : St) : Res := AVal.rec (motive_1 := fun _ => (ExT) → (AC) → (AC) → (Env) → (St) → Res) (motive_2 := fun _ => Unit) condVia_o condVia_o condVia_bool (fun _ _ => condVia_o) (fun _ _ => condVia_o) (fun _ _ => condVia_o) condVia_o (fun _ _ => condVia_o) condVia_o (fun _ _ _ _ => condVia_o) (fun _ _ _ _ _ => condVia_o) condVia_o (fun _ => condVia_o) condVia_o (fun _ _ _ _ _ => condVia_o) condVia_o (fun _ _ _ => condVia_o) (fun _ _ => condVia_o) (fun _ _ _ => condVia_o) (fun _ _ => condVia_o) (fun _ => condVia_o) () (fun _ _ _ _ => ()) x ex a b e s


abbrev CT := Tab → ExT → Env → St → Res
def cBad : CT := fun _ _ _ _ => .fail 166
def cSkip : CT := fun _ _ e s => .norm e s
def cDrawR (l : List DOp) : CT := fun T ex e s => runDraw T (callWith T ex) l [] e s [s]
def cOpsR (l : List AOp) : CT := fun T ex e s => runOps T (callWith T ex) l [] e s
def seqK (r : Res) (b : AC) (ex : ExT) : Res := Res.rec (motive := fun _ => AC → ExT → Res) (fun e s b ex => ex b e s) (fun i e s _ _ => .exit i e s) (fun e s _ _ => .ret e s) (fun w _ _ => .fail w) r b ex
def cSeq (a b : AC) : CT := fun _ ex e s => seqK (ex a e s) b ex
def cCond (x : AOpd) (a b : AC) : CT := fun _ ex e s => condVia (ev x [] e) ex a b e s
def blockK (r : Res) (id : Nat) : Res := Res.rec (motive := fun _ => Nat → Res) (fun e s _ => .norm e s) (fun id' e s id => Bool.rec (motive := fun _ => Nat → Env → St → Res) .exit (fun _ => .norm) (Nat.beq id' id) id' e s) (fun e s _ => .ret e s) (fun w _ => .fail w) r id
def cBlock (id : Nat) (b : AC) : CT := fun _ ex e s => blockK (ex b e s) id
def cLoop (b : AC) : CT := fun _ ex e s => seqK (ex b e s) (.loop b) ex
def cMloop (it : AOpd) (top : List P2) (id : Nat) (rest : AC) : CT := fun _ ex e s => mloopVia (ev it [] e) ex rest top id e s
def cExit (id : Nat) : CT := fun _ _ e s => .exit id e s
def cRet : CT := fun _ _ e s => .ret e s
def cSeqT (a b : AC) (_ _ : CT) : CT := cSeq a b
def cCondT (x : AOpd) (a b : AC) (_ _ : CT) : CT := cCond x a b
def cBlockT (id : Nat) (b : AC) (_ : CT) : CT := cBlock id b
def cLoopT (b : AC) (_ : CT) : CT := cLoop b
def cMloopT (it : AOpd) (top : List P2) (id : Nat) (rest : AC) (_ : CT) : CT := cMloop it top id rest
def codeOf (c : AC) (T : Tab) (ex : ExT) (e : Env) (s : St) : Res := AC.rec (motive := fun _ => CT) cBad cSkip cOpsR cDrawR cSeqT cCondT cBlockT cLoopT cMloopT cExit cRet c T ex e s
def exec (T : Tab) (n : Nat) : ExT := Nat.rec (motive := fun _ => Tab → ExT) (fun _ _ _ _ => .fail 169) (fun _ ih T c e s => codeOf c T (ih T) e s) n T

def methOf (P : Program) (t : Nat) (ms : String) : Option Nat :=
  match P.info? t, P.underlying t with
  | some i, some (.pointer _) => match i.methods.find? (·.name == ms) with
    | some m => match m.path.toList, m.func with
      | [], some (f, true) => some f
      | _, _ => none
    | none => none
  | _, _ => none
def VR.isTrue (r : VR) : Nat := match r with | .ok (.bool true) _ => 0 | .ok _ _ => 1 | .fail w => w + 2
end
end Go.Cx

/-! ## The abstract machine: what is taken as known of single functions. -/
namespace Go.Cx
noncomputable section
def insInt (x : Int) : List Int → List Int
  | [] => [x]
  | y :: l => Bool.rec (y :: insInt x l) (x :: y :: l) (ilt x y)
def sortInts : List Int → List Int
  | [] => []
  | x :: l => insInt x (sortInts l)
def intKeys : List ME → Option (List Int)
  | [] => some []
  | e :: l => match e.key, intKeys l with
    | .int .i64 n, some r => some (n :: r)
    | _, _ => none
def packInts : List Int → Option Nat
  | [] => some 0
  | n :: l => match packInts l, encO .i64 n with
    | some d, some u => some (Nat.add u (Nat.mul 18446744073709551616 d))
    | _, _ => none
/-- slices.Sorted of the keys of a map. -/
def sumSorted (keys : List Nat) (args : List AVal) (s : St) : VR := match args with
  | [.func (.func k) [] [.ptr c o]] => if keys.contains k then match (s.at c).cell o with
      | .nilm => .ok .nils s
      | .map m => match s.at m with
        | .map [] _ => .ok .nils s
        | .map l _ => match intKeys l with
          | some r => match packInts (sortInts r) with
            | some d => s.alloc (.ints .i64 l.length d) fun i s => .ok (.slicu i 0 l.length l.length 1) s
            | none => .fail 170
          | none => .fail 171
        | _ => .fail 172
      | _ => .fail 173
    else .fail 174
  | _ => .fail 175
end
end Go.Cx

/-! ## The abstract machine: what single functions come to at once. -/
namespace Go.Cx
noncomputable section
/-- A byte more of a sum. -/
def crcStep (tab s b : Nat) : Nat := Nat.xor (dcut 32 tab (Nat.mod (Nat.xor s b) 256) 1) (Nat.shiftRight s 8)
def crcGo (tab n : Nat) (d s : Nat) : Nat :=
  Nat.rec (motive := fun _ => Nat → Nat → Nat) (fun _ s => s) (fun _ ih d s => ih (Nat.div d 256) (crcStep tab s (Nat.mod d 256))) n d s
def crcOf (tab n d : Nat) (s : St) : VR := .ok (.int .u32 (.ofNat (Nat.sub 4294967295 (crcGo tab n d 4294967295)))) s
def sumAt (tab : Nat) (b : Blk) (off len : Nat) (s : St) : VR := match b with
  | .ints .u8 n d => ifv (band (Nat.ble (Nat.add off len) n) (Nat.ble len 1099511627776)) (crcOf tab len (dcut 8 d off len) s) (.fail 185)
  | _ => .fail 186
/-- bytes.Sum. -/
def sumSum (args : List AVal) (s : St) : VR := match args with
  | [.ptr t 0, b] => match s.at t with
    | .ints .u32 256 tab => match b with
      | .nils => crcOf tab 0 0 s
      | .slice i off len _ => sumAt tab (s.at i) off len s
      | .slicu i off len _ _ => sumAt tab (s.at i) off len s
      | _ => .fail 187
    | _ => .fail 188
  | _ => .fail 189
def findGo (n : Nat) (d i : Nat) : Int :=
  Nat.rec (motive := fun _ => Nat → Nat → Int) (fun _ _ => .negSucc 0) (fun _ ih d i => Bool.rec (motive := fun _ => Int) (.ofNat i) (ih (Nat.div d 256) (Nat.succ i)) (Nat.beq (Nat.mod d 256) 0)) n d i
def findOf (n d : Nat) (s : St) : VR := .ok (.int .i64 (Bool.rec (motive := fun _ => Int) (findGo n d 0) (.negSucc 0) (Nat.beq d 0))) s
def findAt (b : Blk) (off len : Nat) (s : St) : VR := match b with
  | .ints .u8 n d => ifv (band (Nat.ble (Nat.add off len) n) (Nat.ble len 1099511627776)) (findOf len (dcut 8 d off len) s) (.fail 190)
  | _ => .fail 191
/-- slices.IndexFunc of bytes that are not 0. -/
def sumFind (look : Nat) (args : List AVal) (s : St) : VR := match args with
  | [b, .func (.func k) [] []] => ifv (Nat.beq k look) (match b with
      | .nils => .ok (.int .i64 (.negSucc 0)) s
      | .slice i off len _ => findAt (s.at i) off len s
      | .slicu i off len _ _ => findAt (s.at i) off len s
      | _ => .fail 192) (.fail 193)
  | _ => .fail 194
def idxGo (c n : Nat) (d i : Nat) : Int :=
  Nat.rec (motive := fun _ => Nat → Nat → Int) (fun _ _ => .negSucc 0) (fun _ ih d i => Bool.rec (motive := fun _ => Int) (ih (Nat.div d 256) (Nat.succ i)) (.ofNat i) (Nat.beq (Nat.mod d 256) c)) n d i
/-- The place of a byte in a string. -/
def sumIdx (args : List AVal) (s : St) : VR := match args with
  | [.str n d, .int .u8 (.ofNat c)] => ifv (lt c 256) (.ok (.int .i64 (idxGo c n d 0)) s) (.fail 196)
  | _ => .fail 197
/-- Of a quotient of two floats its bits, or one word. -/
def sumBits (args : List AVal) (s : St) : VR := match args with
  | [.float .f64 a, .float .f64 b] => match FloatKind.f64.format.div a b with
    | none => .ok (.int .u64 (.ofNat 9221120237041090561)) s
    | some r => match FloatKind.f64.format.order r r with
      | some .eq => .ok (.int .u64 (.ofNat r)) s
      | _ => .ok (.int .u64 (.ofNat 9221120237041090561)) s
  | _ => .fail 195
def bornIn (b : Nat) (l : List ME) : Bool := List.rec (motive := fun _ => Bool) false (fun e _ ih => bor (Nat.beq e.born b) ih) l
def stampOk (c : Nat) (l : List ME) : Bool := List.rec (motive := fun _ => Bool) true (fun e l ih => band (lt e.born c) (band (bnot (bornIn e.born l)) ih)) l
def intIn (n : Int) (l : List Int) : Bool := List.rec (motive := fun _ => Bool) false (fun m _ ih => bor (ieq m n) ih) l
def keysOk (l : List Int) : Bool := List.rec (motive := fun _ => Bool) true (fun n l ih => band (bnot (intIn n l)) ih) l
def sortedBlk (n : Nat) (o : Option Nat) (s : St) : VR := match o with
  | some d => s.alloc (.ints .i64 n d) fun i s => .ok (.slicu i 0 n n 1) s
  | none => .fail 171
def keysOf (l : List ME) (c : Nat) (s : St) : VR := match intKeys l with
  | some r => ifv (band (stampOk c l) (band (keysOk r) (Nat.ble l.length 4294967296))) (sortedBlk l.length (packInts (sortInts r)) s) (.fail 170)
  | none => .fail 172
def keysAt (b : Blk) (s : St) : VR := match b with
  | .map [] _ => .ok .nils s
  | .map l c => keysOf l c s
  | _ => .fail 173
/-- maps.Keys. -/
def sumMk (k : Nat) (args : List AVal) (s : St) : VR := match args with
  | [.nilm] => s.alloc (.kvar .nilm) fun i s => .ok (.func (.func k) [] [.ptr i 0]) s
  | [.map m] => s.alloc (.kvar (.map m)) fun i s => .ok (.func (.func k) [] [.ptr i 0]) s
  | _ => .fail 177
def keysVia (v : AVal) (s : St) : VR := match v with
  | .nilm => .ok .nils s
  | .map m => keysAt (s.at m) s
  | _ => .fail 174
/-- slices.Sorted of the keys of a map. -/
def sumKeys (keys : List Nat) (args : List AVal) (s : St) : VR := match args with
  | [.func (.func k) [] [.ptr c 0]] => ifv (has k keys) (match s.at c with
      | .kvar v => keysVia v s
      | _ => .fail 178) (.fail 175)
  | _ => .fail 176
end
end Go.Cx
