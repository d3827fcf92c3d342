/- What small functions give, one fact for each form of a value. -/
import Derived.Test.YtmehgdpbcafboaaGiQ
set_option linter.unusedVariables false
namespace Go.Gi
open Go

theorem oneA_int (k : IntKind) (n : Int) : oneA (.int k n) = true := rfl
theorem cellsA_int (k : IntKind) (n : Int) : cellsA (.int k n) = [.int k n] := rfl
theorem frz_int (k : IntKind) (n : Int) (hp : HP) : frz hp (.int k n) = some (.int k n) := rfl
theorem fresh_int (k : IntKind) (n : Int) (hp : HP) : fresh hp (.int k n) = some (.int k n) := rfl
theorem nid_int (k : IntKind) (n : Int) : nid (.int k n) = true := rfl
theorem oneA_bool (b : Bool) : oneA (.bool b) = true := rfl
theorem cellsA_bool (b : Bool) : cellsA (.bool b) = [.bool b] := rfl
theorem frz_bool (b : Bool) (hp : HP) : frz hp (.bool b) = some (.bool b) := rfl
theorem fresh_bool (b : Bool) (hp : HP) : fresh hp (.bool b) = some (.bool b) := rfl
theorem nid_bool (b : Bool) : nid (.bool b) = true := rfl
theorem oneA_str (s : List UInt8) : oneA (.str s) = true := rfl
theorem cellsA_str (s : List UInt8) : cellsA (.str s) = [.str s] := rfl
theorem frz_str (s : List UInt8) (hp : HP) : frz hp (.str s) = some (.str s) := rfl
theorem fresh_str (s : List UInt8) (hp : HP) : fresh hp (.str s) = some (.str s) := rfl
theorem nid_str (s : List UInt8) : nid (.str s) = true := rfl
theorem oneA_nilp  : oneA (.nilp) = true := rfl
theorem cellsA_nilp  : cellsA (.nilp) = [.nilp] := rfl
theorem frz_nilp  (hp : HP) : frz hp (.nilp) = some (.nilp) := rfl
theorem fresh_nilp  (hp : HP) : fresh hp (.nilp) = some (.nilp) := rfl
theorem nid_nilp  : nid (.nilp) = true := rfl
theorem oneA_ptr (i o : Nat) : oneA (.ptr i o) = true := rfl
theorem cellsA_ptr (i o : Nat) : cellsA (.ptr i o) = [.ptr i o] := rfl
theorem nid_ptr (i o : Nat) : nid (.ptr i o) = false := rfl
theorem oneA_fptr (cs : List AV) (o : Nat) : oneA (.fptr cs o) = true := rfl
theorem cellsA_fptr (cs : List AV) (o : Nat) : cellsA (.fptr cs o) = [.fptr cs o] := rfl
theorem nid_fptr (cs : List AV) (o : Nat) : nid (.fptr cs o) = nidL cs := rfl
theorem oneA_nils  : oneA (.nils) = true := rfl
theorem cellsA_nils  : cellsA (.nils) = [.nils] := rfl
theorem frz_nils (hp : HP) : frz hp .nils = some (.fsl [] 0) := rfl
theorem fresh_nils (hp : HP) : fresh hp .nils = some (.fsl [] 0) := rfl
theorem nid_nils  : nid (.nils) = true := rfl
theorem oneA_sl (i o len sz lo : Nat) (ex : Bool) : oneA (.sl i o len sz lo ex) = true := rfl
theorem cellsA_sl (i o len sz lo : Nat) (ex : Bool) : cellsA (.sl i o len sz lo ex) = [.sl i o len sz lo ex] := rfl
theorem nid_sl (i o len sz lo : Nat) (ex : Bool) : nid (.sl i o len sz lo ex) = false := rfl
theorem oneA_fsl (cs : List AV) (len : Nat) : oneA (.fsl cs len) = true := rfl
theorem cellsA_fsl (cs : List AV) (len : Nat) : cellsA (.fsl cs len) = [.fsl cs len] := rfl
theorem nid_fsl (cs : List AV) (len : Nat) : nid (.fsl cs len) = nidL cs := rfl
theorem oneA_esl  : oneA (.esl) = true := rfl
theorem cellsA_esl  : cellsA (.esl) = [.esl] := rfl
theorem frz_esl (hp : HP) : frz hp .esl = some (.fsl [] 0) := rfl
theorem fresh_esl (hp : HP) : fresh hp .esl = some (.fsl [] 0) := rfl
theorem nid_esl  : nid (.esl) = true := rfl
theorem oneA_enn  : oneA (.enn) = true := rfl
theorem cellsA_enn  : cellsA (.enn) = [.enn] := rfl
theorem frz_enn (hp : HP) : frz hp .enn = some (.fsl [] 0) := rfl
theorem fresh_enn (hp : HP) : fresh hp .enn = some (.fsl [] 0) := rfl
theorem nid_enn  : nid (.enn) = true := rfl
theorem oneA_nilm  : oneA (.nilm) = true := rfl
theorem cellsA_nilm  : cellsA (.nilm) = [.nilm] := rfl
theorem frz_nilm  (hp : HP) : frz hp (.nilm) = some (.nilm) := rfl
theorem fresh_nilm  (hp : HP) : fresh hp (.nilm) = some (.nilm) := rfl
theorem nid_nilm  : nid (.nilm) = true := rfl
theorem oneA_map (i : Nat) : oneA (.map i) = true := rfl
theorem cellsA_map (i : Nat) : cellsA (.map i) = [.map i] := rfl
theorem nid_map (i : Nat) : nid (.map i) = false := rfl
theorem oneA_func (f : FuncId) (cs : List AV) : oneA (.func f cs) = true := rfl
theorem cellsA_func (f : FuncId) (cs : List AV) : cellsA (.func f cs) = [.func f cs] := rfl
theorem nid_func (f : FuncId) (cs : List AV) : nid (.func f cs) = nidL cs := rfl
theorem oneA_nilf  : oneA (.nilf) = true := rfl
theorem cellsA_nilf  : cellsA (.nilf) = [.nilf] := rfl
theorem frz_nilf  (hp : HP) : frz hp (.nilf) = some (.nilf) := rfl
theorem fresh_nilf  (hp : HP) : fresh hp (.nilf) = some (.nilf) := rfl
theorem nid_nilf  : nid (.nilf) = true := rfl
theorem oneA_iface (t : TypeId) (a : AV) : oneA (.iface t a) = true := rfl
theorem cellsA_iface (t : TypeId) (a : AV) : cellsA (.iface t a) = [.iface t a] := rfl
theorem nid_iface (t : TypeId) (a : AV) : nid (.iface t a) = nid a := rfl
theorem oneA_nili  : oneA (.nili) = true := rfl
theorem cellsA_nili  : cellsA (.nili) = [.nili] := rfl
theorem frz_nili  (hp : HP) : frz hp (.nili) = some (.nili) := rfl
theorem fresh_nili  (hp : HP) : fresh hp (.nili) = some (.nili) := rfl
theorem nid_nili  : nid (.nili) = true := rfl
theorem oneA_agg (cs : List AV) : oneA (.agg cs) = false := rfl
theorem cellsA_agg (cs : List AV) : cellsA (.agg cs) = cs := rfl
theorem nid_agg (cs : List AV) : nid (.agg cs) = nidL cs := rfl
theorem oneA_tup (cs : List AV) : oneA (.tup cs) = false := rfl
theorem nid_tup (cs : List AV) : nid (.tup cs) = nidL cs := rfl
theorem lenA_str (hp : HP) (s : List UInt8) : lenA hp (.str s) = some (.int .i64 s.length) := rfl
theorem lenA_nils (hp : HP) : lenA hp .nils = some (.int .i64 0) := rfl
theorem lenA_esl (hp : HP) : lenA hp .esl = some (.int .i64 0) := rfl
theorem lenA_enn (hp : HP) : lenA hp .enn = some (.int .i64 0) := rfl
theorem lenA_sl (hp : HP) (i o len sz lo : Nat) (ex : Bool) : lenA hp (.sl i o len sz lo ex) = some (.int .i64 len) := rfl
theorem lenA_fsl (hp : HP) (cs : List AV) (len : Nat) : lenA hp (.fsl cs len) = some (.int .i64 len) := rfl
theorem lenFits_str (s : List UInt8) : lenFits .str (.str s) = true := rfl
theorem lenFits_nils  : lenFits .slice (.nils) = true := rfl
theorem lenFits_sl (i o len sz lo : Nat) (ex : Bool) : lenFits .slice (.sl i o len sz lo ex) = true := rfl
theorem lenFits_fsl (cs : List AV) (len : Nat) : lenFits .slice (.fsl cs len) = true := rfl
theorem lenFits_esl  : lenFits .slice (.esl) = true := rfl
theorem lenFits_enn  : lenFits .slice (.enn) = true := rfl
theorem isStrA_str (s : List UInt8) : isStrA (.str s) = true := rfl
theorem isStrA_nils  : isStrA (.nils) = false := rfl
theorem isStrA_sl (i o len sz lo : Nat) (ex : Bool) : isStrA (.sl i o len sz lo ex) = false := rfl
theorem isStrA_fsl (cs : List AV) (len : Nat) : isStrA (.fsl cs len) = false := rfl
theorem isStrA_esl  : isStrA (.esl) = false := rfl
theorem isStrA_enn  : isStrA (.enn) = false := rfl
theorem frz_func (f : FuncId) (cs : List AV) (hp : HP) : frz hp (.func f cs) = (match frzL hp cs with
    | some cs' => some (.func f cs')
    | none => none) := rfl
theorem frz_agg (cs : List AV) (hp : HP) : frz hp (.agg cs) = (match frzL hp cs with
    | some cs' => some (.agg cs')
    | none => none) := rfl
theorem frz_tup (cs : List AV) (hp : HP) : frz hp (.tup cs) = (match frzL hp cs with
    | some cs' => some (.tup cs')
    | none => none) := rfl
theorem frz_iface (t : TypeId) (a : AV) (hp : HP) : frz hp (.iface t a) = (match frz hp a with
    | some a' => some (.iface t a')
    | none => none) := rfl
theorem fresh_func (f : FuncId) (cs : List AV) (hp : HP) : fresh hp (.func f cs) = (match freshL hp cs with
    | some cs' => some (.func f cs')
    | none => none) := rfl
theorem fresh_agg (cs : List AV) (hp : HP) : fresh hp (.agg cs) = (match freshL hp cs with
    | some cs' => some (.agg cs')
    | none => none) := rfl
theorem fresh_tup (cs : List AV) (hp : HP) : fresh hp (.tup cs) = (match freshL hp cs with
    | some cs' => some (.tup cs')
    | none => none) := rfl
theorem fresh_iface (t : TypeId) (a : AV) (hp : HP) : fresh hp (.iface t a) = (match fresh hp a with
    | some a' => some (.iface t a')
    | none => none) := rfl
theorem frz_fsl (cs : List AV) (len : Nat) (hp : HP) : frz hp (.fsl cs len) = if nidL cs = true then some (.fsl cs len) else none := rfl
theorem frz_fptr (cs : List AV) (o : Nat) (hp : HP) : frz hp (.fptr cs o) = if nidL cs = true then some (.fptr cs o) else none := rfl
theorem frz_ptr (i o : Nat) (hp : HP) : frz hp (.ptr i o) = (match hp[i]? with
    | some (some (.row _ cs)) => if nidL cs = true then some (.fptr cs o) else none
    | _ => none) := rfl
theorem frz_sl (i o len sz lo : Nat) (ex : Bool) (hp : HP) : frz hp (.sl i o len sz lo ex) = (match hp[i]? with
    | some (some (.row _ cs)) => if (decide (o + len * sz ≤ cs.length) && nidL cs) = true then some (.fsl ((cs.drop o).take (len * sz)) len) else none
    | _ => none) := rfl
theorem fresh_sl (i o len sz lo : Nat) (ex : Bool) (hp : HP) : fresh hp (.sl i o len sz lo ex) = (match hp[i]? with
    | some (some (.row _ cs)) => if (decide (o + len * sz ≤ cs.length) && plainL cs) = true then some (.fsl ((cs.drop o).take (len * sz)) len) else none
    | _ => none) := rfl

def notTup : AV → Bool
  | .tup _ => false
  | _ => true
theorem notTup_int (k : IntKind) (n : Int) : notTup (.int k n) = true := rfl
theorem notTup_bool (b : Bool) : notTup (.bool b) = true := rfl
theorem notTup_str (s : List UInt8) : notTup (.str s) = true := rfl
theorem notTup_nilp  : notTup (.nilp) = true := rfl
theorem notTup_ptr (i o : Nat) : notTup (.ptr i o) = true := rfl
theorem notTup_fptr (cs : List AV) (o : Nat) : notTup (.fptr cs o) = true := rfl
theorem notTup_nils  : notTup (.nils) = true := rfl
theorem notTup_sl (i o len sz lo : Nat) (ex : Bool) : notTup (.sl i o len sz lo ex) = true := rfl
theorem notTup_fsl (cs : List AV) (len : Nat) : notTup (.fsl cs len) = true := rfl
theorem notTup_esl  : notTup (.esl) = true := rfl
theorem notTup_enn  : notTup (.enn) = true := rfl
theorem notTup_nilm  : notTup (.nilm) = true := rfl
theorem notTup_map (i : Nat) : notTup (.map i) = true := rfl
theorem notTup_func (f : FuncId) (cs : List AV) : notTup (.func f cs) = true := rfl
theorem notTup_nilf  : notTup (.nilf) = true := rfl
theorem notTup_iface (t : TypeId) (a : AV) : notTup (.iface t a) = true := rfl
theorem notTup_nili  : notTup (.nili) = true := rfl
theorem notTup_agg (cs : List AV) : notTup (.agg cs) = true := rfl
theorem notTup_tup (cs : List AV) : notTup (.tup cs) = false := rfl
theorem storeA_eq (hp : HP) (n id off : Nat) (v : AV) : storeA hp n (.ptr id off) v = (match hp[id]? with
    | some (some (.row e cs)) => if (notTup v && decide ((cellsA v).length = n ∧ off + n ≤ cs.length)) = true then some (hp.set id (some (.row e (over cs off (cellsA v))))) else none
    | _ => none) := by
  simp only [storeA]
  rcases hp[id]? with _ | _ | ⟨e, cs⟩ | _ | _ | _
  · rfl
  · rfl
  · cases v <;> simp [notTup]
  · rfl
  · rfl
  · rfl
theorem boxA_eq (hp : HP) (e : TypeId) (x : AV) : boxA hp e x = if notTup x = true then some (.ptr hp.length 0, hp ++ [some (.row e (cellsA x))]) else none := by
  cases x <;> simp [boxA, notTup]
theorem partsOk_nil (sz : Nat) : partsOk sz [] = true := rfl
theorem partsOk_cons (sz : Nat) (x : AV) (xs : List AV) : partsOk sz (x :: xs) = (notTup x && ((cellsA x).length == sz && partsOk sz xs)) := by
  cases x <;> simp [partsOk, notTup]

variable {α : Type}
theorem Enc.S_one (E : Enc α) (l : List α) : oneA (E.S l) = true := rfl
theorem Enc.S_cells (E : Enc α) (l : List α) : cellsA (E.S l) = [E.S l] := rfl
theorem Enc.S_str (E : Enc α) (l : List α) : isStrA (E.S l) = false := rfl
theorem osl_str (id len sz : Nat) : isStrA (osl id len sz) = false := by
  unfold osl
  split <;> rfl
theorem Enc.S_notTup (E : Enc α) (l : List α) : notTup (E.S l) = true := rfl
theorem osl_notTup (id len sz : Nat) : notTup (osl id len sz) = true := by
  unfold osl
  split <;> rfl

end Go.Gi
