/- What small functions give, one fact for each form of a value. -/
import Derived.Test.YtakdhioafodhcaaGreatDoorGiQ
set_option linter.unusedVariables false
namespace Go.Gi
open Go

theorem oneA_int (k : IntKind) (n : Int) : oneA (.int k n) = true := rfl
theorem cellsA_int (k : IntKind) (n : Int) : cellsA (.int k n) = [.int k n] := rfl
theorem frz_int (k : IntKind) (n : Int) (hp : HP) : frz hp (.int k n) = some (.int k n) := rfl
theorem fresh_int (k : IntKind) (n : Int) (hp : HP) : fresh hp (.int k n) = some (.int k n) := rfl
theorem nid_int (k : IntKind) (n : Int) : nid (.int k n) = true := rfl
theorem oneA_bool (b : Bool) : oneA (.bool b) = true := rfl
theorem cellsA_bool (b : Bool) : cellsA (.bool b) = [.bool b] := rfl
theorem frz_bool (b : Bool) (hp : HP) : frz hp (.bool b) = some (.bool b) := rfl
theorem fresh_bool (b : Bool) (hp : HP) : fresh hp (.bool b) = some (.bool b) := rfl
theorem nid_bool (b : Bool) : nid (.bool b) = true := rfl
theorem oneA_str (s : List UInt8) : oneA (.str s) = true := rfl
theorem cellsA_str (s : List UInt8) : cellsA (.str s) = [.str s] := rfl
theorem frz_str (s : List UInt8) (hp : HP) : frz hp (.str s) = some (.str s) := rfl
theorem fresh_str (s : List UInt8) (hp : HP) : fresh hp (.str s) = some (.str s) := rfl
theorem nid_str (s : List UInt8) : nid (.str s) = true := rfl
theorem oneA_nilp  : oneA (.nilp) = true := rfl
theorem cellsA_nilp  : cellsA (.nilp) = [.nilp] := rfl
theorem frz_nilp  (hp : HP) : frz hp (.nilp) = some (.nilp) := rfl
theorem fresh_nilp  (hp : HP) : fresh hp (.nilp) = some (.nilp) := rfl
theorem nid_nilp  : nid (.nilp) = true := rfl
theorem oneA_ptr (i o : Nat) : oneA (.ptr i o) = true := rfl
theorem cellsA_ptr (i o : Nat) : cellsA (.ptr i o) = [.ptr i o] := rfl
theorem nid_ptr (i o : Nat) : nid (.ptr i o) = false := rfl
theorem oneA_fptr (cs : List AV) (o : Nat) : oneA (.fptr cs o) = true := rfl
theorem cellsA_fptr (cs : List AV) (o : Nat) : cellsA (.fptr cs o) = [.fptr cs o] := rfl
theorem nid_fptr (cs : List AV) (o : Nat) : nid (.fptr cs o) = nidL cs := rfl
theorem oneA_nils  : oneA (.nils) = true := rfl
theorem cellsA_nils  : cellsA (.nils) = [.nils] := rfl
theorem frz_nils (hp : HP) : frz hp .nils = some (.fsl [] 0) := rfl
theorem fresh_nils (hp : HP) : fresh hp .nils = some (.fsl [] 0) := rfl
theorem nid_nils  : nid (.nils) = true := rfl
theorem oneA_sl (i o len sz lo : Nat) (ex : Bool) : oneA (.sl i o len sz lo ex) = true := rfl
theorem cellsA_sl (i o len sz lo : Nat) (ex : Bool) : cellsA (.sl i o len sz lo ex) = [.sl i o len sz lo ex] := rfl
theorem nid_sl (i o len sz lo : Nat) (ex : Bool) : nid (.sl i o len sz lo ex) = false := rfl
theorem oneA_fsl (cs : List AV) (len : Nat) : oneA (.fsl cs len) = true := rfl
theorem cellsA_fsl (cs : List AV) (len : Nat) : cellsA (.fsl cs len) = [.fsl cs len] := rfl
theorem nid_fsl (cs : List AV) (len : Nat) : nid (.fsl cs len) = nidL cs := rfl
theorem oneA_esl  : oneA (.esl) = true := rfl
theorem cellsA_esl  : cellsA (.esl) = [.esl] := rfl
theorem frz_esl (hp : HP) : frz hp .esl = some (.fsl [] 0) := rfl
theorem fresh_esl (hp : HP) : fresh hp .esl = some (.fsl [] 0) := rfl
theorem nid_esl  : nid (.esl) = true := rfl
theorem oneA_enn  : oneA (.enn) = true := rfl
theorem cellsA_enn  : cellsA (.enn) = [.enn] := rfl
theorem frz_enn (hp : HP) : frz hp .enn = some (.fsl [] 0) := rfl
theorem fresh_enn (hp : HP) : fresh hp .enn = some (.fsl [] 0) := rfl
theorem nid_enn  : nid (.enn) = true := rfl
theorem oneA_nilm  : oneA (.nilm) = true := rfl
theorem cellsA_nilm  : cellsA (.nilm) = [.nilm] := rfl
theorem frz_nilm  (hp : HP) : frz hp (.nilm) = some (.nilm) := rfl
theorem fresh_nilm  (hp : HP) : fresh hp (.nilm) = some (.nilm) := rfl
theorem nid_nilm  : nid (.nilm) = true := rfl
theorem oneA_map (i : Nat) : oneA (.map i) = true := rfl
theorem cellsA_map (i : Nat) : cellsA (.map i) = [.map i] := rfl
theorem nid_map (i : Nat) : nid (.map i) = false := rfl
theorem oneA_func (f : FuncId) (cs : List AV) : oneA (.func f cs) = true := rfl
theorem cellsA_func (f : FuncId) (cs : List AV) : cellsA (.func f cs) = [.func f cs] := rfl
theorem nid_func (f : FuncId) (cs : List AV) : nid (.func f cs) = nidL cs := rfl
theorem oneA_nilf  : oneA (.nilf) = true := rfl
theorem cellsA_nilf  : cellsA (.nilf) = [.nilf] := rfl
theorem frz_nilf  (hp : HP) : frz hp (.nilf) = some (.nilf) := rfl
theorem fresh_nilf  (hp : HP) : fresh hp (.nilf) = some (.nilf) := rfl
theorem nid_nilf  : nid (.nilf) = true := rfl
theorem oneA_iface (t : TypeId) (a : AV) : oneA (.iface t a) = true := rfl
theorem cellsA_iface (t : TypeId) (a : AV) : cellsA (.iface t a) = [.iface t a] := rfl
theorem nid_iface (t : TypeId) (a : AV) : nid (.iface t a) = nid a := rfl
theorem oneA_nili  : oneA (.nili) = true := rfl
theorem cellsA_nili  : cellsA (.nili) = [.nili] := rfl
theorem frz_nili  (hp : HP) : frz hp (.nili) = some (.nili) := rfl
theorem fresh_nili  (hp : HP) : fresh hp (.nili) = some (.nili) := rfl
theorem nid_nili  : nid (.nili) = true := rfl
theorem oneA_agg (cs : List AV) : oneA (.agg cs) = false := rfl
theorem cellsA_agg (cs : List AV) : cellsA (.agg cs) = cs := rfl
theorem nid_agg (cs : List AV) : nid (.agg cs) = nidL cs := rfl
theorem oneA_tup (cs : List AV) : oneA (.tup cs) = false := rfl
theorem nid_tup (cs : List AV) : nid (.tup cs) = nidL cs := rfl
theorem lenA_str (hp : HP) (s : List UInt8) : lenA hp (.str s) = some (.int .i64 s.length) := rfl
theorem lenA_nils (hp : HP) : lenA hp .nils = some (.int .i64 0) := rfl
theorem lenA_esl (hp : HP) : lenA hp .esl = some (.int .i64 0) := rfl
theorem lenA_enn (hp : HP) : lenA hp .enn = some (.int .i64 0) := rfl
theorem lenA_sl (hp : HP) (i o len sz lo : Nat) (ex : Bool) : lenA hp (.sl i o len sz lo ex) = some (.int .i64 len) := rfl
theorem lenA_fsl (hp : HP) (cs : List AV) (len : Nat) : lenA hp (.fsl cs len) = some (.int .i64 len) := rfl
theorem lenFits_str (s : List UInt8) : lenFits .str (.str s) = true := rfl
theorem lenFits_nils  : lenFits .slice (.nils) = true := rfl
theorem lenFits_sl (i o len sz lo : Nat) (ex : Bool) : lenFits .slice (.sl i o len sz lo ex) = true := rfl
theorem lenFits_fsl (cs : List AV) (len : Nat) : lenFits .slice (.fsl cs len) = true := rfl
theorem lenFits_esl  : lenFits .slice (.esl) = true := rfl
theorem lenFits_enn  : lenFits .slice (.enn) = true := rfl
theorem isStrA_str (s : List UInt8) : isStrA (.str s) = true := rfl
theorem isStrA_nils  : isStrA (.nils) = false := rfl
theorem isStrA_sl (i o len sz lo : Nat) (ex : Bool) : isStrA (.sl i o len sz lo ex) = false := rfl
theorem isStrA_fsl (cs : List AV) (len : Nat) : isStrA (.fsl cs len) = false := rfl
theorem isStrA_esl  : isStrA (.esl) = false := rfl
theorem isStrA_enn  : isStrA (.enn) = false := rfl
theorem frz_func (f : FuncId) (cs : List AV) (hp : HP) : frz hp (.func f cs) = (match frzL hp cs with
    | some cs' => some (.func f cs')
    | none => none) := rfl
theorem frz_agg (cs : List AV) (hp : HP) : frz hp (.agg cs) = (match frzL hp cs with
    | some cs' => some (.agg cs')
    | none => none) := rfl
theorem frz_tup (cs : List AV) (hp : HP) : frz hp (.tup cs) = (match frzL hp cs with
    | some cs' => some (.tup cs')
    | none => none) := rfl
theorem frz_iface (t : TypeId) (a : AV) (hp : HP) : frz hp (.iface t a) = (match frz hp a with
    | some a' => some (.iface t a')
    | none => none) := rfl
theorem fresh_func (f : FuncId) (cs : List AV) (hp : HP) : fresh hp (.func f cs) = (match freshL hp cs with
    | some cs' => some (.func f cs')
    | none => none) := rfl
theorem fresh_agg (cs : List AV) (hp : HP) : fresh hp (.agg cs) = (match freshL hp cs with
    | some cs' => some (.agg cs')
    | none => none) := rfl
theorem fresh_tup (cs : List AV) (hp : HP) : fresh hp (.tup cs) = (match freshL hp cs with
    | some cs' => some (.tup cs')
    | none => none) := rfl
theorem fresh_iface (t : TypeId) (a : AV) (hp : HP) : fresh hp (.iface t a) = (match fresh hp a with
    | some a' => some (.iface t a')
    | none => none) := rfl
theorem frz_fsl (cs : List AV) (len : Nat) (hp : HP) : frz hp (.fsl cs len) = if nidL cs = true then some (.fsl cs len) else none := rfl
theorem frz_fptr (cs : List AV) (o : Nat) (hp : HP) : frz hp (.fptr cs o) = if nidL cs = true then some (.fptr cs o) else none := rfl
theorem frz_ptr (i o : Nat) (hp : HP) : frz hp (.ptr i o) = (match hp[i]? with
    | some (some (.row _ cs)) => if nidL cs = true then some (.fptr cs o) else none
    | _ => none) := rfl
theorem frz_sl (i o len sz lo : Nat) (ex : Bool) (hp : HP) : frz hp (.sl i o len sz lo ex) = (match hp[i]? with
    | some (some (.row _ cs)) => if (decide (o + len * sz ≤ cs.length) && nidL cs) = true then some (.fsl ((cs.drop o).take (len * sz)) len) else none
    | _ => none) := rfl
theorem fresh_sl (i o len sz lo : Nat) (ex : Bool) (hp : HP) : fresh hp (.sl i o len sz lo ex) = (match hp[i]? with
    | some (some (.row _ cs)) => if (decide (o + len * sz ≤ cs.length) && plainL cs) = true then some (.fsl ((cs.drop o).take (len * sz)) len) else none
    | _ => none) := rfl

def notTup : AV → Bool
  | .tup _ => false
  | _ => true
theorem notTup_int (k : IntKind) (n : Int) : notTup (.int k n) = true := rfl
theorem notTup_bool (b : Bool) : notTup (.bool b) = true := rfl
theorem notTup_str (s : List UInt8) : notTup (.str s) = true := rfl
theorem notTup_nilp  : notTup (.nilp) = true := rfl
theorem notTup_ptr (i o : Nat) : notTup (.ptr i o) = true := rfl
theorem notTup_fptr (cs : List AV) (o : Nat) : notTup (.fptr cs o) = true := rfl
theorem notTup_nils  : notTup (.nils) = true := rfl
theorem notTup_sl (i o len sz lo : Nat) (ex : Bool) : notTup (.sl i o len sz lo ex) = true := rfl
theorem notTup_fsl (cs : List AV) (len : Nat) : notTup (.fsl cs len) = true := rfl
theorem notTup_esl  : notTup (.esl) = true := rfl
theorem notTup_enn  : notTup (.enn) = true := rfl
theorem notTup_nilm  : notTup (.nilm) = true := rfl
theorem notTup_map (i : Nat) : notTup (.map i) = true := rfl
theorem notTup_func (f : FuncId) (cs : List AV) : notTup (.func f cs) = true := rfl
theorem notTup_nilf  : notTup (.nilf) = true := rfl
theorem notTup_iface (t : TypeId) (a : AV) : notTup (.iface t a) = true := rfl
theorem notTup_nili  : notTup (.nili) = true := rfl
theorem notTup_agg (cs : List AV) : notTup (.agg cs) = true := rfl
theorem notTup_tup (cs : List AV) : notTup (.tup cs) = false := rfl
theorem storeA_eq (hp : HP) (n id off : Nat) (v : AV) : storeA hp n (.ptr id off) v = (match hp[id]? with
    | some (some (.row e cs)) => if (notTup v && decide ((cellsA v).length = n ∧ off + n ≤ cs.length)) = true then some (hp.set id (some (.row e (over cs off (cellsA v))))) else none
    | _ => none) := by
  simp only [storeA]
  rcases hp[id]? with _ | _ | ⟨e, cs⟩ | _ | _ | _
  · rfl
  · rfl
  · cases v <;> simp [notTup]
  · rfl
  · rfl
  · rfl
theorem boxA_eq (hp : HP) (e : TypeId) (x : AV) : boxA hp e x = if notTup x = true then some (.ptr hp.length 0, hp ++ [some (.row e (cellsA x))]) else none := by
  cases x <;> simp [boxA, notTup]
theorem partsOk_nil (sz : Nat) : partsOk sz [] = true := rfl
theorem partsOk_cons (sz : Nat) (x : AV) (xs : List AV) : partsOk sz (x :: xs) = (notTup x && ((cellsA x).length == sz && partsOk sz xs)) := by
  cases x <;> simp [partsOk, notTup]

variable {α : Type}
theorem Enc.S_one (E : Enc α) (l : List α) : oneA (E.S l) = true := rfl
theorem Enc.S_cells (E : Enc α) (l : List α) : cellsA (E.S l) = [E.S l] := rfl
theorem Enc.S_str (E : Enc α) (l : List α) : isStrA (E.S l) = false := rfl
theorem osl_str (id len sz : Nat) : isStrA (osl id len sz) = false := by
  unfold osl
  split <;> rfl
theorem Enc.S_notTup (E : Enc α) (l : List α) : notTup (E.S l) = true := rfl
theorem osl_notTup (id len sz : Nat) : notTup (osl id len sz) = true := by
  unfold osl
  split <;> rfl

/-- What small functions give, in one. -/
theorem tz : (∀ (k : IntKind) (n : Int), notTup (AV.int k n) = true) ∧
  (∀ (b : Bool), notTup (AV.bool b) = true) ∧
  (∀ (s : List UInt8), notTup (AV.str s) = true) ∧
  (notTup AV.nilp = true) ∧
  (∀ (i o : Nat), notTup (AV.ptr i o) = true) ∧
  (∀ (cs : List AV) (o : Nat), notTup (AV.fptr cs o) = true) ∧
  (notTup AV.nils = true) ∧
  (∀ (i o len sz lo : Nat) (ex : Bool), notTup (AV.sl i o len sz lo ex) = true) ∧
  (∀ (cs : List AV) (len : Nat), notTup (AV.fsl cs len) = true) ∧
  (notTup AV.esl = true) ∧
  (notTup AV.enn = true) ∧
  (notTup AV.nilm = true) ∧
  (∀ (i : Nat), notTup (AV.map i) = true) ∧
  (∀ (f : FuncId) (cs : List AV), notTup (AV.func f cs) = true) ∧
  (notTup AV.nilf = true) ∧
  (∀ (t : TypeId) (a : AV), notTup (AV.iface t a) = true) ∧
  (notTup AV.nili = true) ∧
  (∀ (cs : List AV), notTup (AV.agg cs) = true) ∧
  (∀ (cs : List AV), notTup (AV.tup cs) = false) ∧
  (∀ (k : IntKind) (n : Int), oneA (AV.int k n) = true) ∧
  (∀ (k : IntKind) (n : Int), cellsA (AV.int k n) = [AV.int k n]) ∧
  (∀ (k : IntKind) (n : Int) (hp : HP), frz hp (AV.int k n) = some (AV.int k n)) ∧
  (∀ (k : IntKind) (n : Int) (hp : HP), fresh hp (AV.int k n) = some (AV.int k n)) ∧
  (∀ (k : IntKind) (n : Int), nid (AV.int k n) = true) ∧
  (∀ (b : Bool), oneA (AV.bool b) = true) ∧
  (∀ (b : Bool), cellsA (AV.bool b) = [AV.bool b]) ∧
  (∀ (b : Bool) (hp : HP), frz hp (AV.bool b) = some (AV.bool b)) ∧
  (∀ (b : Bool) (hp : HP), fresh hp (AV.bool b) = some (AV.bool b)) ∧
  (∀ (b : Bool), nid (AV.bool b) = true) ∧
  (∀ (s : List UInt8), oneA (AV.str s) = true) ∧
  (∀ (s : List UInt8), cellsA (AV.str s) = [AV.str s]) ∧
  (∀ (s : List UInt8) (hp : HP), frz hp (AV.str s) = some (AV.str s)) ∧
  (∀ (s : List UInt8) (hp : HP), fresh hp (AV.str s) = some (AV.str s)) ∧
  (∀ (s : List UInt8), nid (AV.str s) = true) ∧
  (oneA AV.nilp = true) ∧
  (cellsA AV.nilp = [AV.nilp]) ∧
  (∀ (hp : HP), frz hp AV.nilp = some AV.nilp) ∧
  (∀ (hp : HP), fresh hp AV.nilp = some AV.nilp) ∧
  (nid AV.nilp = true) ∧
  (∀ (i o : Nat), oneA (AV.ptr i o) = true) ∧
  (∀ (i o : Nat), cellsA (AV.ptr i o) = [AV.ptr i o]) ∧
  (∀ (i o : Nat), nid (AV.ptr i o) = false) ∧
  (∀ (cs : List AV) (o : Nat), oneA (AV.fptr cs o) = true) ∧
  (∀ (cs : List AV) (o : Nat), cellsA (AV.fptr cs o) = [AV.fptr cs o]) ∧
  (∀ (cs : List AV) (o : Nat), nid (AV.fptr cs o) = nidL cs) ∧
  (oneA AV.nils = true) ∧
  (cellsA AV.nils = [AV.nils]) ∧
  (∀ (hp : HP), frz hp AV.nils = some (AV.fsl [] 0)) ∧
  (∀ (hp : HP), fresh hp AV.nils = some (AV.fsl [] 0)) ∧
  (nid AV.nils = true) ∧
  (∀ (i o len sz lo : Nat) (ex : Bool), oneA (AV.sl i o len sz lo ex) = true) ∧
  (∀ (i o len sz lo : Nat) (ex : Bool), cellsA (AV.sl i o len sz lo ex) = [AV.sl i o len sz lo ex]) ∧
  (∀ (i o len sz lo : Nat) (ex : Bool), nid (AV.sl i o len sz lo ex) = false) ∧
  (∀ (cs : List AV) (len : Nat), oneA (AV.fsl cs len) = true) ∧
  (∀ (cs : List AV) (len : Nat), cellsA (AV.fsl cs len) = [AV.fsl cs len]) ∧
  (∀ (cs : List AV) (len : Nat), nid (AV.fsl cs len) = nidL cs) ∧
  (oneA AV.esl = true) ∧
  (cellsA AV.esl = [AV.esl]) ∧
  (∀ (hp : HP), frz hp AV.esl = some (AV.fsl [] 0)) ∧
  (∀ (hp : HP), fresh hp AV.esl = some (AV.fsl [] 0)) ∧
  (nid AV.esl = true) ∧
  (oneA AV.enn = true) ∧
  (cellsA AV.enn = [AV.enn]) ∧
  (∀ (hp : HP), frz hp AV.enn = some (AV.fsl [] 0)) ∧
  (∀ (hp : HP), fresh hp AV.enn = some (AV.fsl [] 0)) ∧
  (nid AV.enn = true) ∧
  (oneA AV.nilm = true) ∧
  (cellsA AV.nilm = [AV.nilm]) ∧
  (∀ (hp : HP), frz hp AV.nilm = some AV.nilm) ∧
  (∀ (hp : HP), fresh hp AV.nilm = some AV.nilm) ∧
  (nid AV.nilm = true) ∧
  (∀ (i : Nat), oneA (AV.map i) = true) ∧
  (∀ (i : Nat), cellsA (AV.map i) = [AV.map i]) ∧
  (∀ (i : Nat), nid (AV.map i) = false) ∧
  (∀ (f : FuncId) (cs : List AV), oneA (AV.func f cs) = true) ∧
  (∀ (f : FuncId) (cs : List AV), cellsA (AV.func f cs) = [AV.func f cs]) ∧
  (∀ (f : FuncId) (cs : List AV), nid (AV.func f cs) = nidL cs) ∧
  (oneA AV.nilf = true) ∧
  (cellsA AV.nilf = [AV.nilf]) ∧
  (∀ (hp : HP), frz hp AV.nilf = some AV.nilf) ∧
  (∀ (hp : HP), fresh hp AV.nilf = some AV.nilf) ∧
  (nid AV.nilf = true) ∧
  (∀ (t : TypeId) (a : AV), oneA (AV.iface t a) = true) ∧
  (∀ (t : TypeId) (a : AV), cellsA (AV.iface t a) = [AV.iface t a]) ∧
  (∀ (t : TypeId) (a : AV), nid (AV.iface t a) = nid a) ∧
  (oneA AV.nili = true) ∧
  (cellsA AV.nili = [AV.nili]) ∧
  (∀ (hp : HP), frz hp AV.nili = some AV.nili) ∧
  (∀ (hp : HP), fresh hp AV.nili = some AV.nili) ∧
  (nid AV.nili = true) ∧
  (∀ (cs : List AV), oneA (AV.agg cs) = false) ∧
  (∀ (cs : List AV), cellsA (AV.agg cs) = cs) ∧
  (∀ (cs : List AV), nid (AV.agg cs) = nidL cs) ∧
  (∀ (cs : List AV), oneA (AV.tup cs) = false) ∧
  (∀ (cs : List AV), nid (AV.tup cs) = nidL cs) ∧
  (∀ (hp : HP) (s : List UInt8), lenA hp (AV.str s) = some (AV.int IntKind.i64 ↑s.length)) ∧
  (∀ (hp : HP), lenA hp AV.nils = some (AV.int IntKind.i64 0)) ∧
  (∀ (hp : HP), lenA hp AV.esl = some (AV.int IntKind.i64 0)) ∧
  (∀ (hp : HP), lenA hp AV.enn = some (AV.int IntKind.i64 0)) ∧
  (∀ (hp : HP) (cs : List AV) (len : Nat), lenA hp (AV.fsl cs len) = some (AV.int IntKind.i64 ↑len)) ∧
  (∀ (s : List UInt8), lenFits LenK.str (AV.str s) = true) ∧
  (lenFits LenK.slice AV.nils = true) ∧
  (∀ (i o len sz lo : Nat) (ex : Bool), lenFits LenK.slice (AV.sl i o len sz lo ex) = true) ∧
  (∀ (cs : List AV) (len : Nat), lenFits LenK.slice (AV.fsl cs len) = true) ∧
  (lenFits LenK.slice AV.esl = true) ∧
  (lenFits LenK.slice AV.enn = true) ∧
  (∀ (s : List UInt8), isStrA (AV.str s) = true) ∧
  (isStrA AV.nils = false) ∧
  (∀ (i o len sz lo : Nat) (ex : Bool), isStrA (AV.sl i o len sz lo ex) = false) ∧
  (∀ (cs : List AV) (len : Nat), isStrA (AV.fsl cs len) = false) ∧
  (isStrA AV.esl = false) ∧
  (isStrA AV.enn = false) :=
  ⟨@notTup_int, @notTup_bool, @notTup_str, @notTup_nilp, @notTup_ptr, @notTup_fptr, @notTup_nils, @notTup_sl, @notTup_fsl, @notTup_esl, @notTup_enn, @notTup_nilm, @notTup_map, @notTup_func, @notTup_nilf, @notTup_iface, @notTup_nili, @notTup_agg, @notTup_tup, @oneA_int, @cellsA_int, @frz_int, @fresh_int, @nid_int, @oneA_bool, @cellsA_bool, @frz_bool, @fresh_bool, @nid_bool, @oneA_str, @cellsA_str, @frz_str, @fresh_str, @nid_str, @oneA_nilp, @cellsA_nilp, @frz_nilp, @fresh_nilp, @nid_nilp, @oneA_ptr, @cellsA_ptr, @nid_ptr, @oneA_fptr, @cellsA_fptr, @nid_fptr, @oneA_nils, @cellsA_nils, @frz_nils, @fresh_nils, @nid_nils, @oneA_sl, @cellsA_sl, @nid_sl, @oneA_fsl, @cellsA_fsl, @nid_fsl, @oneA_esl, @cellsA_esl, @frz_esl, @fresh_esl, @nid_esl, @oneA_enn, @cellsA_enn, @frz_enn, @fresh_enn, @nid_enn, @oneA_nilm, @cellsA_nilm, @frz_nilm, @fresh_nilm, @nid_nilm, @oneA_map, @cellsA_map, @nid_map, @oneA_func, @cellsA_func, @nid_func, @oneA_nilf, @cellsA_nilf, @frz_nilf, @fresh_nilf, @nid_nilf, @oneA_iface, @cellsA_iface, @nid_iface, @oneA_nili, @cellsA_nili, @frz_nili, @fresh_nili, @nid_nili, @oneA_agg, @cellsA_agg, @nid_agg, @oneA_tup, @nid_tup, @lenA_str, @lenA_nils, @lenA_esl, @lenA_enn, @lenA_fsl, @lenFits_str, @lenFits_nils, @lenFits_sl, @lenFits_fsl, @lenFits_esl, @lenFits_enn, @isStrA_str, @isStrA_nils, @isStrA_sl, @isStrA_fsl, @isStrA_esl, @isStrA_enn⟩

/-- The other plain facts of the stepper's list, as one name. -/
theorem ty :
  (∀ (e : Env) (i j : Nat) (v : AV), upd e i v j = if j = i then v else e j) ∧
  (∀ {n : Int}, -9223372036854775808 ≤ n → n ≤ 9223372036854775807 → IntKind.i64.wrap n = n) ∧
  ((false = true) = False) ∧
  ((true = false) = False) ∧
  ((!false) = true) ∧
  ((!true) = false) ∧
  (∀ (xs : List AV) (i : Nat), start xs i = xs.getD i (AV.tup [])) ∧
  (∀ (n : Nat), n * 1 = n) ∧
  (∀ (hp : HP) (e : TypeId) (x : AV), boxA hp e x = if notTup x = true then some (AV.ptr (List.length hp) 0, hp ++ [some (Blk.row e (cellsA x))]) else none) ∧
  (∀ (sz : Nat), partsOk sz [] = true) ∧
  (∀ (sz : Nat) (x : AV) (xs : List AV), partsOk sz (x :: xs) = (notTup x && ((cellsA x).length == sz && partsOk sz xs))) ∧
  (∀ {α : Type} (E : Enc α) (l : List α), notTup (E.S l) = true) ∧
  (∀ (id len sz : Nat), notTup (osl id len sz) = true) ∧
  (∀ (p : Prop), (p ∧ p) = p) ∧
  (∀ (n : Nat), 0 + n = n) ∧
  (∀ (b : Bool), (b && b) = b) ∧
  (∀ (b : Bool), (b && true) = b) ∧
  (∀ (hp : HP) (i o len sz lo : Nat) (ex : Bool), lenA hp (AV.sl i o len sz lo ex) = some (AV.int IntKind.i64 ↑len)) ∧
  (∀ (cs : List AV) (len : Nat) (hp : HP), frz hp (AV.fsl cs len) = if nidL cs = true then some (AV.fsl cs len) else none) ∧
  (∀ (cs : List AV) (o : Nat) (hp : HP), frz hp (AV.fptr cs o) = if nidL cs = true then some (AV.fptr cs o) else none) ∧
  (∀ {α : Type} (E : Enc α) (l : List α), oneA (E.S l) = true) ∧
  (∀ {α : Type} (E : Enc α) (l : List α), cellsA (E.S l) = [E.S l]) ∧
  (∀ {α : Type} (E : Enc α) (l : List α), isStrA (E.S l) = false) ∧
  (∀ {α : Type} (E : Enc α) (hp : HP) (l : List α), lenA hp (E.S l) = some (AV.int IntKind.i64 ↑l.length)) ∧
  (∀ {α : Type} (E : Enc α) (l : List α), lenFits LenK.slice (E.S l) = true) ∧
  (∀ {α : Type} (E : Enc α) (l : List α), nid (E.S l) = true) ∧
  (∀ {α : Type} (E : Enc α) (hp : HP) (l : List α), frz hp (E.S l) = some (E.S l)) ∧
  (∀ {α : Type} (E : Enc α) (hp : HP) (l : List α), srcA hp E.sz (E.S l) = some (E.cs l, l.length)) ∧
  (∀ {α : Type} (E : Enc α) {l : List α} {i : Nat} {k : IntKind}, i < l.length → iaddrA E.sz (E.S l) (AV.int k ↑i) = some (AV.fptr (E.cs l) (i * E.sz))) ∧
  (∀ (id len sz : Nat), oneA (osl id len sz) = true) ∧
  (∀ (id len sz : Nat), cellsA (osl id len sz) = [osl id len sz]) ∧
  (∀ (id len sz : Nat), isStrA (osl id len sz) = false) ∧
  (∀ (hp : HP) (id len sz : Nat), lenA hp (osl id len sz) = some (AV.int IntKind.i64 ↑len)) ∧
  (∀ (id len sz : Nat), lenFits LenK.slice (osl id len sz) = true) ∧
  (∀ (b : Bool), (b && false) = false) ∧
  (∀ (b : Bool), (false && b) = false) ∧
  (∀ (b : Bool), (true && b) = b) ∧
  (∀ (b : Bool), (b || true) = true) ∧
  (∀ (b : Bool), (true || b) = true) ∧
  (∀ (b : Bool), (b || false) = b) ∧
  (∀ (b : Bool), (false || b) = b) :=
  ⟨@upd_app, @wrap_i64, @Bool.false_eq_true, @Bool.true_eq_false, @Bool.not_false, @Bool.not_true, @start_app, @Nat.mul_one, @boxA_eq, @partsOk_nil, @partsOk_cons, @Enc.S_notTup, @osl_notTup, @and_self, @Nat.zero_add, @Bool.and_self, @Bool.and_true, @lenA_sl, @frz_fsl, @frz_fptr, @Enc.S_one, @Enc.S_cells, @Enc.S_str, @Enc.S_len, @Enc.S_fits, @Enc.S_nid, @Enc.S_frz, @Enc.S_src, @Enc.S_iaddr, @osl_one, @osl_cells, @osl_str, @osl_len, @osl_fits, @Bool.and_false, @Bool.false_and, @Bool.true_and, @Bool.or_true, @Bool.true_or, @Bool.or_false, @Bool.false_or⟩

attribute [go_sem] exC exOps exOp evE evsE putE wantedE ROp.run same binA intA strA eqA indexSA byteA unA bounds3 Option.map_some Option.map_none dec_true dec_false Int.toNat_natCast Int.natCast_nonneg beq_self_eq_true List.append_nil beq_iff_eq List.getD_cons_zero List.getD_cons_succ loadA rowA pickA bslA litV storeA_eq decide_true flatA List.length_cons List.length_nil List.flatMap_cons List.flatMap_nil BEq.rfl List.cons_append List.nil_append if_pos if_neg ordered List.getElem?_cons_zero List.getElem?_cons_succ frzL nidL frz_func frz_agg frz_tup frz_iface fresh_func fresh_agg fresh_tup fresh_iface frz_ptr frz_sl fresh_sl Cls.isFree Cls.makes callCls chain cond_true tz ty faddrA allocA over List.take_succ_cons List.take_zero List.drop_succ_cons List.drop_zero List.drop_nil List.set_cons_zero List.set_cons_succ and_self

end Go.Gi
