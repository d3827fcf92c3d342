/- What small functions give, one fact for each form of a value. -/
/- Copies in memory of their own: slices.Clone. -/
/- What a call makes in an empty memory, it makes behind any memory. -/
/- Tables by types: what functions give, told by data that the arguments stand for. -/
/- Stepping with branches. -/
/- Loops over functions: what the statement does, and what a round does. -/
/- What printed functions need of the machine: hints as a list, the numbers of loops over functions. -/
import Derived.Test.YtakdhioafodhcaaGreatDoorGiQ
import Derived.Test.YtakdhioafodhcaaGreatDoorGiN
set_option linter.unusedVariables false
set_option linter.unusedSimpArgs false
namespace Go.Gi
open _root_.Bool renaming false_eq_true → qA, true_eq_false → zD, and_eq_true → qp, false_and → xR, not_false → xS, and_false → zf, and_self → xb, not_true → xB, and_true → xP, true_and → xQ, false_or → xZ, or_false → zl, true_or → zj
open _root_.Int renaming natCast_nonneg → zE, toNat_natCast → xk
open _root_.List renaming getElem?_cons_zero → ql, getElem?_cons_succ → qw, getD_cons_zero → qF, getD_cons_succ → xF, set_cons_zero → xA, flatMap_cons → zA, length_cons → qr, cons_append → qZ, append_nil → qt, length_nil → qx, nil_append → qz, take_zero → xi, drop_zero → xJ
open _root_.Nat renaming zero_add → qY
open _root_.Option renaming map_some → qh
section
set_option linter.unusedSectionVars false
variable [Mx]
open Go
theorem oneA_int (k:IntKind) (n:Int):oneA (.int k n)=true:=rfl
theorem cellsA_int (k:IntKind) (n:Int):cellsA (.int k n)=[.int k n]:=rfl
theorem frz_int (k:IntKind) (n:Int) (hp:HP):frz hp (.int k n)=some (.int k n):=rfl
theorem fresh_int (k:IntKind) (n:Int) (hp:HP):fresh hp (.int k n)=some (.int k n):=rfl
theorem nid_int (k:IntKind) (n:Int):nid (.int k n)=true:=rfl
theorem oneA_bool (b:Bool):oneA (.bool b)=true:=rfl
theorem cellsA_bool (b:Bool):cellsA (.bool b)=[.bool b]:=rfl
theorem frz_bool (b:Bool) (hp:HP):frz hp (.bool b)=some (.bool b):=rfl
theorem fresh_bool (b:Bool) (hp:HP):fresh hp (.bool b)=some (.bool b):=rfl
theorem nid_bool (b:Bool):nid (.bool b)=true:=rfl
theorem oneA_str (s:List UInt8):oneA (.str s)=true:=rfl
theorem cellsA_str (s:List UInt8):cellsA (.str s)=[.str s]:=rfl
theorem frz_str (s:List UInt8) (hp:HP):frz hp (.str s)=some (.str s):=rfl
theorem fresh_str (s:List UInt8) (hp:HP):fresh hp (.str s)=some (.str s):=rfl
theorem nid_str (s:List UInt8):nid (.str s)=true:=rfl
theorem oneA_nilp  : oneA (.nilp)=true:=rfl
theorem cellsA_nilp  : cellsA (.nilp)=[.nilp]:=rfl
theorem frz_nilp  (hp:HP):frz hp (.nilp)=some (.nilp):=rfl
theorem fresh_nilp  (hp:HP):fresh hp (.nilp)=some (.nilp):=rfl
theorem nid_nilp  : nid (.nilp)=true:=rfl
theorem oneA_ptr (i o:Nat):oneA (.ptr i o)=true:=rfl
theorem cellsA_ptr (i o:Nat):cellsA (.ptr i o)=[.ptr i o]:=rfl
theorem nid_ptr (i o:Nat):nid (.ptr i o)=false:=rfl
theorem oneA_fptr (cs:List AV) (o:Nat):oneA (.fptr cs o)=true:=rfl
theorem cellsA_fptr (cs:List AV) (o:Nat):cellsA (.fptr cs o)=[.fptr cs o]:=rfl
theorem nid_fptr (cs:List AV) (o:Nat):nid (.fptr cs o)=nidL cs:=rfl
theorem oneA_nils  : oneA (.nils)=true:=rfl
theorem cellsA_nils  : cellsA (.nils)=[.nils]:=rfl
theorem frz_nils (hp:HP):frz hp .nils=some (.fsl [] 0):=rfl
theorem fresh_nils (hp:HP):fresh hp .nils=some (.fsl [] 0):=rfl
theorem nid_nils  : nid (.nils)=true:=rfl
theorem oneA_sl (i o len sz lo:Nat) (ex:Bool):oneA (.sl i o len sz lo ex)=true:=rfl
theorem cellsA_sl (i o len sz lo:Nat) (ex:Bool):cellsA (.sl i o len sz lo ex)=[.sl i o len sz lo ex]:=rfl
theorem nid_sl (i o len sz lo:Nat) (ex:Bool):nid (.sl i o len sz lo ex)=false:=rfl
theorem oneA_fsl (cs:List AV) (len:Nat):oneA (.fsl cs len)=true:=rfl
theorem cellsA_fsl (cs:List AV) (len:Nat):cellsA (.fsl cs len)=[.fsl cs len]:=rfl
theorem nid_fsl (cs:List AV) (len:Nat):nid (.fsl cs len)=nidL cs:=rfl
theorem oneA_esl  : oneA (.esl)=true:=rfl
theorem cellsA_esl  : cellsA (.esl)=[.esl]:=rfl
theorem frz_esl (hp:HP):frz hp .esl=some (.fsl [] 0):=rfl
theorem fresh_esl (hp:HP):fresh hp .esl=some (.fsl [] 0):=rfl
theorem nid_esl  : nid (.esl)=true:=rfl
theorem oneA_enn  : oneA (.enn)=true:=rfl
theorem cellsA_enn  : cellsA (.enn)=[.enn]:=rfl
theorem frz_enn (hp:HP):frz hp .enn=some (.fsl [] 0):=rfl
theorem fresh_enn (hp:HP):fresh hp .enn=some (.fsl [] 0):=rfl
theorem nid_enn  : nid (.enn)=true:=rfl
theorem oneA_nilm  : oneA (.nilm)=true:=rfl
theorem cellsA_nilm  : cellsA (.nilm)=[.nilm]:=rfl
theorem frz_nilm  (hp:HP):frz hp (.nilm)=some (.nilm):=rfl
theorem fresh_nilm  (hp:HP):fresh hp (.nilm)=some (.nilm):=rfl
theorem nid_nilm  : nid (.nilm)=true:=rfl
theorem oneA_map (i:Nat):oneA (.map i)=true:=rfl
theorem cellsA_map (i:Nat):cellsA (.map i)=[.map i]:=rfl
theorem nid_map (i:Nat):nid (.map i)=false:=rfl
theorem oneA_func (f:FuncId) (cs:List AV):oneA (.func f cs)=true:=rfl
theorem cellsA_func (f:FuncId) (cs:List AV):cellsA (.func f cs)=[.func f cs]:=rfl
theorem nid_func (f:FuncId) (cs:List AV):nid (.func f cs)=nidL cs:=rfl
theorem oneA_nilf  : oneA (.nilf)=true:=rfl
theorem cellsA_nilf  : cellsA (.nilf)=[.nilf]:=rfl
theorem frz_nilf  (hp:HP):frz hp (.nilf)=some (.nilf):=rfl
theorem fresh_nilf  (hp:HP):fresh hp (.nilf)=some (.nilf):=rfl
theorem nid_nilf  : nid (.nilf)=true:=rfl
theorem oneA_iface (t:TypeId) (a:AV):oneA (.iface t a)=true:=rfl
theorem cellsA_iface (t:TypeId) (a:AV):cellsA (.iface t a)=[.iface t a]:=rfl
theorem nid_iface (t:TypeId) (a:AV):nid (.iface t a)=nid a:=rfl
theorem oneA_nili  : oneA (.nili)=true:=rfl
theorem cellsA_nili  : cellsA (.nili)=[.nili]:=rfl
theorem frz_nili  (hp:HP):frz hp (.nili)=some (.nili):=rfl
theorem fresh_nili  (hp:HP):fresh hp (.nili)=some (.nili):=rfl
theorem nid_nili  : nid (.nili)=true:=rfl
theorem oneA_agg (cs:List AV):oneA (.agg cs)=false:=rfl
theorem cellsA_agg (cs:List AV):cellsA (.agg cs)=cs:=rfl
theorem nid_agg (cs:List AV):nid (.agg cs)=nidL cs:=rfl
theorem oneA_tup (cs:List AV):oneA (.tup cs)=false:=rfl
theorem nid_tup (cs:List AV):nid (.tup cs)=nidL cs:=rfl
theorem lenA_str (hp:HP) (s:List UInt8):lenA hp (.str s)=some (.int .i64 s.length):=rfl
theorem lenA_nils (hp:HP):lenA hp .nils=some (.int .i64 0):=rfl
theorem lenA_esl (hp:HP):lenA hp .esl=some (.int .i64 0):=rfl
theorem lenA_enn (hp:HP):lenA hp .enn=some (.int .i64 0):=rfl
theorem lenA_sl (hp:HP) (i o len sz lo:Nat) (ex:Bool):lenA hp (.sl i o len sz lo ex)=some (.int .i64 len):=rfl
theorem lenA_fsl (hp:HP) (cs:List AV) (len:Nat):lenA hp (.fsl cs len)=some (.int .i64 len):=rfl
theorem lenFits_str (s:List UInt8):lenFits .str (.str s)=true:=rfl
theorem lenFits_nils  : lenFits .slice (.nils)=true:=rfl
theorem lenFits_sl (i o len sz lo:Nat) (ex:Bool):lenFits .slice (.sl i o len sz lo ex)=true:=rfl
theorem lenFits_fsl (cs:List AV) (len:Nat):lenFits .slice (.fsl cs len)=true:=rfl
theorem lenFits_esl  : lenFits .slice (.esl)=true:=rfl
theorem lenFits_enn  : lenFits .slice (.enn)=true:=rfl
theorem isStrA_str (s:List UInt8):isStrA (.str s)=true:=rfl
theorem isStrA_nils  : isStrA (.nils)=false:=rfl
theorem isStrA_sl (i o len sz lo:Nat) (ex:Bool):isStrA (.sl i o len sz lo ex)=false:=rfl
theorem isStrA_fsl (cs:List AV) (len:Nat):isStrA (.fsl cs len)=false:=rfl
theorem isStrA_esl  : isStrA (.esl)=false:=rfl
theorem isStrA_enn  : isStrA (.enn)=false:=rfl
theorem frz_func (f:FuncId) (cs:List AV) (hp:HP):frz hp (.func f cs)=(match frzL hp cs with
  | some cs'=>some (.func f cs')
  | none=>none):=rfl
theorem frz_agg (cs:List AV) (hp:HP):frz hp (.agg cs)=(match frzL hp cs with
  | some cs'=>some (.agg cs')
  | none=>none):=rfl
theorem frz_tup (cs:List AV) (hp:HP):frz hp (.tup cs)=(match frzL hp cs with
  | some cs'=>some (.tup cs')
  | none=>none):=rfl
theorem frz_iface (t:TypeId) (a:AV) (hp:HP):frz hp (.iface t a)=(match frz hp a with
  | some a'=>some (.iface t a')
  | none=>none):=rfl
theorem fresh_func (f:FuncId) (cs:List AV) (hp:HP):fresh hp (.func f cs)=(match freshL hp cs with
  | some cs'=>some (.func f cs')
  | none=>none):=rfl
theorem fresh_agg (cs:List AV) (hp:HP):fresh hp (.agg cs)=(match freshL hp cs with
  | some cs'=>some (.agg cs')
  | none=>none):=rfl
theorem fresh_tup (cs:List AV) (hp:HP):fresh hp (.tup cs)=(match freshL hp cs with
  | some cs'=>some (.tup cs')
  | none=>none):=rfl
theorem fresh_iface (t:TypeId) (a:AV) (hp:HP):fresh hp (.iface t a)=(match fresh hp a with
  | some a'=>some (.iface t a')
  | none=>none):=rfl
theorem frz_fsl (cs:List AV) (len:Nat) (hp:HP):frz hp (.fsl cs len)=if nidL cs=true then some (.fsl cs len) else none:=rfl
theorem frz_fptr (cs:List AV) (o:Nat) (hp:HP):frz hp (.fptr cs o)=if nidL cs=true then some (.fptr cs o) else none:=rfl
theorem frz_ptr (i o:Nat) (hp:HP):frz hp (.ptr i o)=(match hp[i]? with
  | some (some (.row _ cs))=>if nidL cs=true then some (.fptr cs o) else none
  | _=>none):=rfl
theorem frz_sl (i o len sz lo:Nat) (ex:Bool) (hp:HP):frz hp (.sl i o len sz lo ex)=(match hp[i]? with
  | some (some (.row _ cs))=>if (decide (o+len*sz≤cs.length) && nidL cs)=true then some (.fsl ((cs.drop o).take (len*sz)) len) else none
  | _=>none):=rfl
theorem fresh_sl (i o len sz lo:Nat) (ex:Bool) (hp:HP):fresh hp (.sl i o len sz lo ex)=(match hp[i]? with
  | some (some (.row _ cs))=>if (decide (o+len*sz≤cs.length) && plainL cs)=true then some (.fsl ((cs.drop o).take (len*sz)) len) else none
  | _=>none):=rfl
def notTup:AV→Bool
 | .tup _=>false
 | _=>true
theorem notTup_int (k:IntKind) (n:Int):notTup (.int k n)=true:=rfl
theorem notTup_bool (b:Bool):notTup (.bool b)=true:=rfl
theorem notTup_str (s:List UInt8):notTup (.str s)=true:=rfl
theorem notTup_nilp  : notTup (.nilp)=true:=rfl
theorem notTup_ptr (i o:Nat):notTup (.ptr i o)=true:=rfl
theorem notTup_fptr (cs:List AV) (o:Nat):notTup (.fptr cs o)=true:=rfl
theorem notTup_nils  : notTup (.nils)=true:=rfl
theorem notTup_sl (i o len sz lo:Nat) (ex:Bool):notTup (.sl i o len sz lo ex)=true:=rfl
theorem notTup_fsl (cs:List AV) (len:Nat):notTup (.fsl cs len)=true:=rfl
theorem notTup_esl  : notTup (.esl)=true:=rfl
theorem notTup_enn  : notTup (.enn)=true:=rfl
theorem notTup_nilm  : notTup (.nilm)=true:=rfl
theorem notTup_map (i:Nat):notTup (.map i)=true:=rfl
theorem notTup_func (f:FuncId) (cs:List AV):notTup (.func f cs)=true:=rfl
theorem notTup_nilf  : notTup (.nilf)=true:=rfl
theorem notTup_iface (t:TypeId) (a:AV):notTup (.iface t a)=true:=rfl
theorem notTup_nili  : notTup (.nili)=true:=rfl
theorem notTup_agg (cs:List AV):notTup (.agg cs)=true:=rfl
theorem notTup_tup (cs:List AV):notTup (.tup cs)=false:=rfl
theorem storeA_eq (hp:HP) (n id off:Nat) (v:AV):storeA hp n (.ptr id off) v=(match hp[id]? with
  | some (some (.row e cs))=>if (notTup v && decide ((cellsA v).length=n∧off+n≤cs.length))=true then some (hp.set id (some (.row e (over cs off (cellsA v))))) else none
  | _=>none):=by
 simp only[storeA]
 rcases hp[id]? with _|_|⟨e,cs⟩|_|_|_
 ·rfl
 ·rfl
 ·cases v<;>simp[notTup]
 ·rfl
 ·rfl
 ·rfl
theorem boxA_eq (hp:HP) (e:TypeId) (x:AV):boxA hp e x=if notTup x=true then some (.ptr hp.length 0,hp++[some (.row e (cellsA x))]) else none:=by
 cases x<;>simp[boxA,notTup]
theorem partsOk_nil (sz:Nat):partsOk sz []=true:=rfl
theorem partsOk_cons (sz:Nat) (x:AV) (xs:List AV):partsOk sz (x :: xs)=(notTup x && ((cellsA x).length == sz && partsOk sz xs)):=by
 cases x<;>simp[partsOk,notTup]
variable {α:Type}
theorem Enc.S_one (E:Enc α) (l:List α):oneA (E.S l)=true:=rfl
theorem Enc.S_cells (E:Enc α) (l:List α):cellsA (E.S l)=[E.S l]:=rfl
theorem Enc.S_str (E:Enc α) (l:List α):isStrA (E.S l)=false:=rfl
theorem osl_str (id len sz:Nat):isStrA (osl id len sz)=false:=by
 unfold osl
 split<;>rfl
theorem Enc.S_notTup (E:Enc α) (l:List α):notTup (E.S l)=true:=rfl
theorem osl_notTup (id len sz:Nat):notTup (osl id len sz)=true:=by
 unfold osl
 split<;>rfl
theorem tz:(∀ (k:IntKind) (n:Int),notTup (AV.int k n)=true) ∧
 (∀ (b:Bool),notTup (AV.bool b)=true) ∧
 (∀ (s:List UInt8),notTup (AV.str s)=true) ∧
 (notTup AV.nilp=true) ∧
 (∀ (i o:Nat),notTup (AV.ptr i o)=true) ∧
 (∀ (cs:List AV) (o:Nat),notTup (AV.fptr cs o)=true) ∧
 (notTup AV.nils=true) ∧
 (∀ (i o len sz lo:Nat) (ex:Bool),notTup (AV.sl i o len sz lo ex)=true) ∧
 (∀ (cs:List AV) (len:Nat),notTup (AV.fsl cs len)=true) ∧
 (notTup AV.esl=true) ∧
 (notTup AV.enn=true) ∧
 (notTup AV.nilm=true) ∧
 (∀ (i:Nat),notTup (AV.map i)=true) ∧
 (∀ (f:FuncId) (cs:List AV),notTup (AV.func f cs)=true) ∧
 (notTup AV.nilf=true) ∧
 (∀ (t:TypeId) (a:AV),notTup (AV.iface t a)=true) ∧
 (notTup AV.nili=true) ∧
 (∀ (cs:List AV),notTup (AV.agg cs)=true) ∧
 (∀ (cs:List AV),notTup (AV.tup cs)=false) ∧
 (∀ (k:IntKind) (n:Int),oneA (AV.int k n)=true) ∧
 (∀ (k:IntKind) (n:Int),cellsA (AV.int k n)=[AV.int k n]) ∧
 (∀ (k:IntKind) (n:Int) (hp:HP),frz hp (AV.int k n)=some (AV.int k n)) ∧
 (∀ (k:IntKind) (n:Int) (hp:HP),fresh hp (AV.int k n)=some (AV.int k n)) ∧
 (∀ (k:IntKind) (n:Int),nid (AV.int k n)=true) ∧
 (∀ (b:Bool),oneA (AV.bool b)=true) ∧
 (∀ (b:Bool),cellsA (AV.bool b)=[AV.bool b]) ∧
 (∀ (b:Bool) (hp:HP),frz hp (AV.bool b)=some (AV.bool b)) ∧
 (∀ (b:Bool) (hp:HP),fresh hp (AV.bool b)=some (AV.bool b)) ∧
 (∀ (b:Bool),nid (AV.bool b)=true) ∧
 (∀ (s:List UInt8),oneA (AV.str s)=true) ∧
 (∀ (s:List UInt8),cellsA (AV.str s)=[AV.str s]) ∧
 (∀ (s:List UInt8) (hp:HP),frz hp (AV.str s)=some (AV.str s)) ∧
 (∀ (s:List UInt8) (hp:HP),fresh hp (AV.str s)=some (AV.str s)) ∧
 (∀ (s:List UInt8),nid (AV.str s)=true) ∧
 (oneA AV.nilp=true) ∧
 (cellsA AV.nilp=[AV.nilp]) ∧
 (∀ (hp:HP),frz hp AV.nilp=some AV.nilp) ∧
 (∀ (hp:HP),fresh hp AV.nilp=some AV.nilp) ∧
 (nid AV.nilp=true) ∧
 (∀ (i o:Nat),oneA (AV.ptr i o)=true) ∧
 (∀ (i o:Nat),cellsA (AV.ptr i o)=[AV.ptr i o]) ∧
 (∀ (i o:Nat),nid (AV.ptr i o)=false) ∧
 (∀ (cs:List AV) (o:Nat),oneA (AV.fptr cs o)=true) ∧
 (∀ (cs:List AV) (o:Nat),cellsA (AV.fptr cs o)=[AV.fptr cs o]) ∧
 (∀ (cs:List AV) (o:Nat),nid (AV.fptr cs o)=nidL cs) ∧
 (oneA AV.nils=true) ∧
 (cellsA AV.nils=[AV.nils]) ∧
 (∀ (hp:HP),frz hp AV.nils=some (AV.fsl [] 0)) ∧
 (∀ (hp:HP),fresh hp AV.nils=some (AV.fsl [] 0)) ∧
 (nid AV.nils=true) ∧
 (∀ (i o len sz lo:Nat) (ex:Bool),oneA (AV.sl i o len sz lo ex)=true) ∧
 (∀ (i o len sz lo:Nat) (ex:Bool),cellsA (AV.sl i o len sz lo ex)=[AV.sl i o len sz lo ex]) ∧
 (∀ (i o len sz lo:Nat) (ex:Bool),nid (AV.sl i o len sz lo ex)=false) ∧
 (∀ (cs:List AV) (len:Nat),oneA (AV.fsl cs len)=true) ∧
 (∀ (cs:List AV) (len:Nat),cellsA (AV.fsl cs len)=[AV.fsl cs len]) ∧
 (∀ (cs:List AV) (len:Nat),nid (AV.fsl cs len)=nidL cs) ∧
 (oneA AV.esl=true) ∧
 (cellsA AV.esl=[AV.esl]) ∧
 (∀ (hp:HP),frz hp AV.esl=some (AV.fsl [] 0)) ∧
 (∀ (hp:HP),fresh hp AV.esl=some (AV.fsl [] 0)) ∧
 (nid AV.esl=true) ∧
 (oneA AV.enn=true) ∧
 (cellsA AV.enn=[AV.enn]) ∧
 (∀ (hp:HP),frz hp AV.enn=some (AV.fsl [] 0)) ∧
 (∀ (hp:HP),fresh hp AV.enn=some (AV.fsl [] 0)) ∧
 (nid AV.enn=true) ∧
 (oneA AV.nilm=true) ∧
 (cellsA AV.nilm=[AV.nilm]) ∧
 (∀ (hp:HP),frz hp AV.nilm=some AV.nilm) ∧
 (∀ (hp:HP),fresh hp AV.nilm=some AV.nilm) ∧
 (nid AV.nilm=true) ∧
 (∀ (i:Nat),oneA (AV.map i)=true) ∧
 (∀ (i:Nat),cellsA (AV.map i)=[AV.map i]) ∧
 (∀ (i:Nat),nid (AV.map i)=false) ∧
 (∀ (f:FuncId) (cs:List AV),oneA (AV.func f cs)=true) ∧
 (∀ (f:FuncId) (cs:List AV),cellsA (AV.func f cs)=[AV.func f cs]) ∧
 (∀ (f:FuncId) (cs:List AV),nid (AV.func f cs)=nidL cs) ∧
 (oneA AV.nilf=true) ∧
 (cellsA AV.nilf=[AV.nilf]) ∧
 (∀ (hp:HP),frz hp AV.nilf=some AV.nilf) ∧
 (∀ (hp:HP),fresh hp AV.nilf=some AV.nilf) ∧
 (nid AV.nilf=true) ∧
 (∀ (t:TypeId) (a:AV),oneA (AV.iface t a)=true) ∧
 (∀ (t:TypeId) (a:AV),cellsA (AV.iface t a)=[AV.iface t a]) ∧
 (∀ (t:TypeId) (a:AV),nid (AV.iface t a)=nid a) ∧
 (oneA AV.nili=true) ∧
 (cellsA AV.nili=[AV.nili]) ∧
 (∀ (hp:HP),frz hp AV.nili=some AV.nili) ∧
 (∀ (hp:HP),fresh hp AV.nili=some AV.nili) ∧
 (nid AV.nili=true) ∧
 (∀ (cs:List AV),oneA (AV.agg cs)=false) ∧
 (∀ (cs:List AV),cellsA (AV.agg cs)=cs) ∧
 (∀ (cs:List AV),nid (AV.agg cs)=nidL cs) ∧
 (∀ (cs:List AV),oneA (AV.tup cs)=false) ∧
 (∀ (cs:List AV),nid (AV.tup cs)=nidL cs) ∧
 (∀ (hp:HP) (s:List UInt8),lenA hp (AV.str s)=some (AV.int IntKind.i64 ↑s.length)) ∧
 (∀ (hp:HP),lenA hp AV.nils=some (AV.int IntKind.i64 0)) ∧
 (∀ (hp:HP),lenA hp AV.esl=some (AV.int IntKind.i64 0)) ∧
 (∀ (hp:HP),lenA hp AV.enn=some (AV.int IntKind.i64 0)) ∧
 (∀ (hp:HP) (cs:List AV) (len:Nat),lenA hp (AV.fsl cs len)=some (AV.int IntKind.i64 ↑len)) ∧
 (∀ (s:List UInt8),lenFits LenK.str (AV.str s)=true) ∧
 (lenFits LenK.slice AV.nils=true) ∧
 (∀ (i o len sz lo:Nat) (ex:Bool),lenFits LenK.slice (AV.sl i o len sz lo ex)=true) ∧
 (∀ (cs:List AV) (len:Nat),lenFits LenK.slice (AV.fsl cs len)=true) ∧
 (lenFits LenK.slice AV.esl=true) ∧
 (lenFits LenK.slice AV.enn=true) ∧
 (∀ (s:List UInt8),isStrA (AV.str s)=true) ∧
 (isStrA AV.nils=false) ∧
 (∀ (i o len sz lo:Nat) (ex:Bool),isStrA (AV.sl i o len sz lo ex)=false) ∧
 (∀ (cs:List AV) (len:Nat),isStrA (AV.fsl cs len)=false) ∧
 (isStrA AV.esl=false) ∧
 (isStrA AV.enn=false):=
 ⟨(by first|exact @notTup_int|exact @notTup_int _),(by first|exact @notTup_bool|exact @notTup_bool _),(by first|exact @notTup_str|exact @notTup_str _),(by first|exact @notTup_nilp|exact @notTup_nilp _),(by first|exact @notTup_ptr|exact @notTup_ptr _),(by first|exact @notTup_fptr|exact @notTup_fptr _),(by first|exact @notTup_nils|exact @notTup_nils _),(by first|exact @notTup_sl|exact @notTup_sl _),(by first|exact @notTup_fsl|exact @notTup_fsl _),(by first|exact @notTup_esl|exact @notTup_esl _),(by first|exact @notTup_enn|exact @notTup_enn _),(by first|exact @notTup_nilm|exact @notTup_nilm _),(by first|exact @notTup_map|exact @notTup_map _),(by first|exact @notTup_func|exact @notTup_func _),(by first|exact @notTup_nilf|exact @notTup_nilf _),(by first|exact @notTup_iface|exact @notTup_iface _),(by first|exact @notTup_nili|exact @notTup_nili _),(by first|exact @notTup_agg|exact @notTup_agg _),(by first|exact @notTup_tup|exact @notTup_tup _),(by first|exact @oneA_int|exact @oneA_int _),(by first|exact @cellsA_int|exact @cellsA_int _),(by first|exact @frz_int|exact @frz_int _),(by first|exact @fresh_int|exact @fresh_int _),(by first|exact @nid_int|exact @nid_int _),(by first|exact @oneA_bool|exact @oneA_bool _),(by first|exact @cellsA_bool|exact @cellsA_bool _),(by first|exact @frz_bool|exact @frz_bool _),(by first|exact @fresh_bool|exact @fresh_bool _),(by first|exact @nid_bool|exact @nid_bool _),(by first|exact @oneA_str|exact @oneA_str _),(by first|exact @cellsA_str|exact @cellsA_str _),(by first|exact @frz_str|exact @frz_str _),(by first|exact @fresh_str|exact @fresh_str _),(by first|exact @nid_str|exact @nid_str _),(by first|exact @oneA_nilp|exact @oneA_nilp _),(by first|exact @cellsA_nilp|exact @cellsA_nilp _),(by first|exact @frz_nilp|exact @frz_nilp _),(by first|exact @fresh_nilp|exact @fresh_nilp _),(by first|exact @nid_nilp|exact @nid_nilp _),(by first|exact @oneA_ptr|exact @oneA_ptr _),(by first|exact @cellsA_ptr|exact @cellsA_ptr _),(by first|exact @nid_ptr|exact @nid_ptr _),(by first|exact @oneA_fptr|exact @oneA_fptr _),(by first|exact @cellsA_fptr|exact @cellsA_fptr _),(by first|exact @nid_fptr|exact @nid_fptr _),(by first|exact @oneA_nils|exact @oneA_nils _),(by first|exact @cellsA_nils|exact @cellsA_nils _),(by first|exact @frz_nils|exact @frz_nils _),(by first|exact @fresh_nils|exact @fresh_nils _),(by first|exact @nid_nils|exact @nid_nils _),(by first|exact @oneA_sl|exact @oneA_sl _),(by first|exact @cellsA_sl|exact @cellsA_sl _),(by first|exact @nid_sl|exact @nid_sl _),(by first|exact @oneA_fsl|exact @oneA_fsl _),(by first|exact @cellsA_fsl|exact @cellsA_fsl _),(by first|exact @nid_fsl|exact @nid_fsl _),(by first|exact @oneA_esl|exact @oneA_esl _),(by first|exact @cellsA_esl|exact @cellsA_esl _),(by first|exact @frz_esl|exact @frz_esl _),(by first|exact @fresh_esl|exact @fresh_esl _),(by first|exact @nid_esl|exact @nid_esl _),(by first|exact @oneA_enn|exact @oneA_enn _),(by first|exact @cellsA_enn|exact @cellsA_enn _),(by first|exact @frz_enn|exact @frz_enn _),(by first|exact @fresh_enn|exact @fresh_enn _),(by first|exact @nid_enn|exact @nid_enn _),(by first|exact @oneA_nilm|exact @oneA_nilm _),(by first|exact @cellsA_nilm|exact @cellsA_nilm _),(by first|exact @frz_nilm|exact @frz_nilm _),(by first|exact @fresh_nilm|exact @fresh_nilm _),(by first|exact @nid_nilm|exact @nid_nilm _),(by first|exact @oneA_map|exact @oneA_map _),(by first|exact @cellsA_map|exact @cellsA_map _),(by first|exact @nid_map|exact @nid_map _),(by first|exact @oneA_func|exact @oneA_func _),(by first|exact @cellsA_func|exact @cellsA_func _),(by first|exact @nid_func|exact @nid_func _),(by first|exact @oneA_nilf|exact @oneA_nilf _),(by first|exact @cellsA_nilf|exact @cellsA_nilf _),(by first|exact @frz_nilf|exact @frz_nilf _),(by first|exact @fresh_nilf|exact @fresh_nilf _),(by first|exact @nid_nilf|exact @nid_nilf _),(by first|exact @oneA_iface|exact @oneA_iface _),(by first|exact @cellsA_iface|exact @cellsA_iface _),(by first|exact @nid_iface|exact @nid_iface _),(by first|exact @oneA_nili|exact @oneA_nili _),(by first|exact @cellsA_nili|exact @cellsA_nili _),(by first|exact @frz_nili|exact @frz_nili _),(by first|exact @fresh_nili|exact @fresh_nili _),(by first|exact @nid_nili|exact @nid_nili _),(by first|exact @oneA_agg|exact @oneA_agg _),(by first|exact @cellsA_agg|exact @cellsA_agg _),(by first|exact @nid_agg|exact @nid_agg _),(by first|exact @oneA_tup|exact @oneA_tup _),(by first|exact @nid_tup|exact @nid_tup _),(by first|exact @lenA_str|exact @lenA_str _),(by first|exact @lenA_nils|exact @lenA_nils _),(by first|exact @lenA_esl|exact @lenA_esl _),(by first|exact @lenA_enn|exact @lenA_enn _),(by first|exact @lenA_fsl|exact @lenA_fsl _),(by first|exact @lenFits_str|exact @lenFits_str _),(by first|exact @lenFits_nils|exact @lenFits_nils _),(by first|exact @lenFits_sl|exact @lenFits_sl _),(by first|exact @lenFits_fsl|exact @lenFits_fsl _),(by first|exact @lenFits_esl|exact @lenFits_esl _),(by first|exact @lenFits_enn|exact @lenFits_enn _),(by first|exact @isStrA_str|exact @isStrA_str _),(by first|exact @isStrA_nils|exact @isStrA_nils _),(by first|exact @isStrA_sl|exact @isStrA_sl _),(by first|exact @isStrA_fsl|exact @isStrA_fsl _),(by first|exact @isStrA_esl|exact @isStrA_esl _),(by first|exact @isStrA_enn|exact @isStrA_enn _)⟩
theorem ty :
 (∀ (e:Env) (i j:Nat) (v:AV),upd e i v j=if j=i then v else e j) ∧
 (∀ {n:Int},-9223372036854775808≤n→n≤9223372036854775807→IntKind.i64.wrap n=n) ∧
 ((false=true)=False) ∧
 ((true=false)=False) ∧
 ((!false)=true) ∧
 ((!true)=false) ∧
 (∀ (xs:List AV) (i:Nat),start xs i=xs.getD i (AV.tup [])) ∧
 (∀ (n:Nat),n*1=n) ∧
 (∀ (hp:HP) (e:TypeId) (x:AV),boxA hp e x=if notTup x=true then some (AV.ptr (List.length hp) 0,hp++[some (Blk.row e (cellsA x))]) else none) ∧
 (∀ (sz:Nat),partsOk sz []=true) ∧
 (∀ (sz:Nat) (x:AV) (xs:List AV),partsOk sz (x :: xs)=(notTup x && ((cellsA x).length == sz && partsOk sz xs))) ∧
 (∀ {α:Type} (E:Enc α) (l:List α),notTup (E.S l)=true) ∧
 (∀ (id len sz:Nat),notTup (osl id len sz)=true) ∧
 (∀ (p:Prop),(p∧p)=p) ∧
 (∀ (n:Nat),0+n=n) ∧
 (∀ (b:Bool),(b && b)=b) ∧
 (∀ (b:Bool),(b && true)=b) ∧
 (∀ (hp:HP) (i o len sz lo:Nat) (ex:Bool),lenA hp (AV.sl i o len sz lo ex)=some (AV.int IntKind.i64 ↑len)) ∧
 (∀ (cs:List AV) (len:Nat) (hp:HP),frz hp (AV.fsl cs len)=if nidL cs=true then some (AV.fsl cs len) else none) ∧
 (∀ (cs:List AV) (o:Nat) (hp:HP),frz hp (AV.fptr cs o)=if nidL cs=true then some (AV.fptr cs o) else none) ∧
 (∀ {α:Type} (E:Enc α) (l:List α),oneA (E.S l)=true) ∧
 (∀ {α:Type} (E:Enc α) (l:List α),cellsA (E.S l)=[E.S l]) ∧
 (∀ {α:Type} (E:Enc α) (l:List α),isStrA (E.S l)=false) ∧
 (∀ {α:Type} (E:Enc α) (hp:HP) (l:List α),lenA hp (E.S l)=some (AV.int IntKind.i64 ↑l.length)) ∧
 (∀ {α:Type} (E:Enc α) (l:List α),lenFits LenK.slice (E.S l)=true) ∧
 (∀ {α:Type} (E:Enc α) (l:List α),nid (E.S l)=true) ∧
 (∀ {α:Type} (E:Enc α) (hp:HP) (l:List α),frz hp (E.S l)=some (E.S l)) ∧
 (∀ {α:Type} (E:Enc α) (hp:HP) (l:List α),srcA hp E.sz (E.S l)=some (E.cs l,l.length)) ∧
 (∀ {α:Type} (E:Enc α) {l:List α} {i:Nat} {k:IntKind},i<l.length→iaddrA E.sz (E.S l) (AV.int k ↑i)=some (AV.fptr (E.cs l) (i*E.sz))) ∧
 (∀ (id len sz:Nat),oneA (osl id len sz)=true) ∧
 (∀ (id len sz:Nat),cellsA (osl id len sz)=[osl id len sz]) ∧
 (∀ (id len sz:Nat),isStrA (osl id len sz)=false) ∧
 (∀ (hp:HP) (id len sz:Nat),lenA hp (osl id len sz)=some (AV.int IntKind.i64 ↑len)) ∧
 (∀ (id len sz:Nat),lenFits LenK.slice (osl id len sz)=true) ∧
 (∀ (b:Bool),(b && false)=false) ∧
 (∀ (b:Bool),(false && b)=false) ∧
 (∀ (b:Bool),(true && b)=b) ∧
 (∀ (b:Bool),(b || true)=true) ∧
 (∀ (b:Bool),(true || b)=true) ∧
 (∀ (b:Bool),(b || false)=b) ∧
 (∀ (b:Bool),(false || b)=b):=
 ⟨(by first|exact @upd_app|exact @upd_app _),(by first|exact @wrap_i64|exact @wrap_i64 _),(by first|exact @qA|exact @qA _),(by first|exact @zD|exact @zD _),(by first|exact @xS|exact @xS _),(by first|exact @xB|exact @xB _),(by first|exact @start_app|exact @start_app _),(by first|exact @Nat.mul_one|exact @Nat.mul_one _),(by first|exact @boxA_eq|exact @boxA_eq _),(by first|exact @partsOk_nil|exact @partsOk_nil _),(by first|exact @partsOk_cons|exact @partsOk_cons _),(by first|exact @Enc.S_notTup|exact @Enc.S_notTup _),(by first|exact @osl_notTup|exact @osl_notTup _),(by first|exact @and_self|exact @and_self _),(by first|exact @qY|exact @qY _),(by first|exact @xb|exact @xb _),(by first|exact @xP|exact @xP _),(by first|exact @lenA_sl|exact @lenA_sl _),(by first|exact @frz_fsl|exact @frz_fsl _),(by first|exact @frz_fptr|exact @frz_fptr _),(by first|exact @Enc.S_one|exact @Enc.S_one _),(by first|exact @Enc.S_cells|exact @Enc.S_cells _),(by first|exact @Enc.S_str|exact @Enc.S_str _),(by first|exact @Enc.S_len|exact @Enc.S_len _),(by first|exact @Enc.S_fits|exact @Enc.S_fits _),(by first|exact @Enc.S_nid|exact @Enc.S_nid _),(by first|exact @Enc.S_frz|exact @Enc.S_frz _),(by first|exact @Enc.S_src|exact @Enc.S_src _),(by first|exact @Enc.S_iaddr|exact @Enc.S_iaddr _),(by first|exact @osl_one|exact @osl_one _),(by first|exact @osl_cells|exact @osl_cells _),(by first|exact @osl_str|exact @osl_str _),(by first|exact @osl_len|exact @osl_len _),(by first|exact @osl_fits|exact @osl_fits _),(by first|exact @zf|exact @zf _),(by first|exact @xR|exact @xR _),(by first|exact @xQ|exact @xQ _),(by first|exact @Bool.or_true|exact @Bool.or_true _),(by first|exact @zj|exact @zj _),(by first|exact @zl|exact @zl _),(by first|exact @xZ|exact @xZ _)⟩
attribute [go_sem] exC exOps exOp evE evsE putE wantedE ROp.run same binA intA strA eqA indexSA byteA unA bounds3 qh Option.map_none dec_true dec_false xk zE beq_self_eq_true qt beq_iff_eq qF xF loadA rowA pickA bslA litV storeA_eq decide_true flatA qr qx zA List.flatMap_nil BEq.rfl qZ qz if_pos if_neg ordered ql qw frzL nidL frz_func frz_agg frz_tup frz_iface fresh_func fresh_agg fresh_tup fresh_iface frz_ptr frz_sl fresh_sl Cls.isFree Cls.makes callCls chain cond_true tz ty faddrA allocA over List.take_succ_cons xi List.drop_succ_cons xJ List.drop_nil xA List.set_cons_succ and_self
attribute [go_sem] exC exOps exOp evE evsE putE wantedE ROp.run same binA intA strA eqA indexSA byteA unA bounds3 qh Option.map_none dec_true dec_false xk zE beq_self_eq_true qt beq_iff_eq qF xF loadA rowA pickA bslA litV storeA_eq decide_true flatA qr qx zA List.flatMap_nil BEq.rfl qZ qz if_pos if_neg ordered ql qw frzL nidL frz_func frz_agg frz_tup frz_iface fresh_func fresh_agg fresh_tup fresh_iface frz_ptr frz_sl fresh_sl Cls.isFree Cls.makes callCls chain cond_true tz ty faddrA allocA over List.take_succ_cons xi List.drop_succ_cons xJ List.drop_nil xA List.set_cons_succ and_self
end
section
set_option linter.unusedSectionVars false
variable [Mx]
open Go
variable {α:Type}
def Weak (r:AV) (hp:HP) (r':AV) (hp':HP):Prop:=∀ (Δ:Cx) (v:Value),HSim Δ hp→VRel Δ r v→∃ Δ':Cx,Δ'.w=Δ.w∧HSim Δ' hp'∧VRel Δ' r' v∧Ev Δ hp Δ' hp'
theorem Weak.trans {r r' r'':AV} {hp hp' hp'':HP} (h:Weak r hp r' hp') (k:Weak r' hp' r'' hp''):Weak r hp r'' hp'':=fun Δ v h1 h2=>by
 obtain⟨Δ',e1,h3,h4,h5⟩:=h Δ v h1 h2
 obtain⟨Δ'',e2,h6,h7,h8⟩:=k Δ' v h3 h4
 exact⟨Δ'',e2.trans e1,h6,h7,h5.trans h8⟩
theorem Weak.forget {r r':AV} {hp hp':HP} (hl:hp'.length=hp.length) (hg:∀ (i:Nat) (x:Blk),hp'[i]? = some (some x)→hp[i]? = some (some x)) (hr:∀ Δ v,HSim Δ hp→VRel Δ r v→VRel Δ r' v):Weak r hp r' hp':=fun Δ v h1 h2 =>
 ⟨Δ,rfl,(h1.forget hp' hl hg).1,hr Δ v h1 h2,(h1.forget hp' hl hg).2⟩
theorem ACalls.empty {P:Program} {f:FuncId} {hp:HP} {K:AV→HP→Prop} (h:ACalls P f [.nils] hp K) (k:ACalls P f [.enn] hp K):ACalls P f [.fsl [] 0] hp K:=
 ⟨h.1,fun Γ vs hh hl hv=>by
  simp only[VRels,VRel] at hv
  obtain⟨v,vs',rfl,hv,rfl⟩:=hv
  rcases hv with ⟨hv|⟨a,hv⟩,_⟩|⟨b,o,c,hv,_⟩
  ·exact h.2 Γ _ hh hl (by simp only[VRels,VRel]; exact⟨_,_,rfl,hv,rfl⟩)
  ·exact k.2 Γ _ hh hl (by simp only[VRels,VRel]; exact⟨_,_,rfl,⟨a,0,hv,.inl rfl⟩,rfl⟩)
  ·exact k.2 Γ _ hh hl (by simp only[VRels,VRel]; exact⟨_,_,rfl,⟨_,c,hv,.inr rfl⟩,rfl⟩)⟩
end
section
set_option linter.unusedSectionVars false
variable [Mx]
open Go
mutual
def shiftA (k:Nat):AV→AV
 | .ptr id off=>.ptr (id+k) off
 | .sl id off len sz lo ex=>.sl (id+k) off len sz lo ex
 | .map id=>.map (id+k)
 | .yld id=>.yld (id+k)
 | .bound f cs=>.bound f (shiftL k cs)
 | .fptr cs off=>.fptr (shiftL k cs) off
 | .fsl cs len=>.fsl (shiftL k cs) len
 | .func f cs=>.func f (shiftL k cs)
 | .agg cs=>.agg (shiftL k cs)
 | .tup cs=>.tup (shiftL k cs)
 | .iface t a=>.iface t (shiftA k a)
 | a=>a
def shiftL (k:Nat):List AV→List AV
 | []=>[]
 | a :: as=>shiftA k a :: shiftL k as
end
mutual
theorem shift_rel {Γ Δ:Cx} {k:Nat} (hw:Δ.w=Γ.w) (hn:Γ.n+k≤Δ.n) (hβ:∀ i,i<Γ.n→Δ.β (i+k)=Γ.β i) (hf:∀ b,Γ.Fz b→Δ.Fz b):∀ {a:AV} {v:Value},VRel Γ a v→VRel Δ (shiftA k a) v
 | .int _ _,_,h | .bool _,_,h | .str _,_,h | .nilp,_,h | .nils,_,h | .esl,_,h | .enn,_,h | .nilm,_,h | .nilf,_,h | .nili,_,h | .unk,_,h=>by simpa only[shiftA,VRel] using h
 | .ptr id off,v,h=>by
  simp only[shiftA,VRel] at h ⊢
  rw[hβ id h.1]
  exact⟨by omega,h.2⟩
 | .map id,v,h=>by
  simp only[shiftA,VRel] at h ⊢
  rw[hβ id h.1]
  exact⟨by omega,h.2⟩
 | .yld id,v,h=>by
  simp only[shiftA,VRel] at h ⊢
  rw[hβ id h.1]
  exact⟨by omega,h.2⟩
 | .bound f cs,v,h=>by
  simp only[shiftA,VRel] at h ⊢
  obtain⟨vs,h1,h2⟩:=h
  exact⟨vs,h1,shiftL_rel hw hn hβ hf h2⟩
 | .sl id off len sz lo ex,v,h=>by
  simp only[shiftA,VRel] at h ⊢
  rw[hβ id h.1,hw]
  exact⟨by omega,h.2⟩
 | .fptr cs off,v,h=>by
  simp only[shiftA,VRel] at h ⊢
  obtain⟨b,o,h1,h2,h3⟩:=h
  exact⟨b,o,h1,hf b h2,shiftC_rel hw hn hβ hf h3⟩
 | .fsl cs len,v,h=>by
  simp only[shiftA,VRel] at h ⊢
  rcases h with ⟨h1,h2,h3⟩|⟨b,o,c,h1,h2,h3,h4⟩
  ·subst h3
   exact .inl ⟨h1,h2,by simp only[shiftL]⟩
  ·refine .inr ⟨b,o,c,h1,h2,?_,shiftC_rel hw hn hβ hf h4⟩
   rcases h3 with rfl|h3
   ·exact .inl (by simp only[shiftL])
   ·exact .inr (hf b h3)
 | .func f cs,v,h=>by
  simp only[shiftA,VRel] at h ⊢
  obtain⟨vs,h1,h2⟩:=h
  exact⟨vs,h1,shiftL_rel hw hn hβ hf h2⟩
 | .agg cs,v,h=>by
  simp only[shiftA,VRel] at h ⊢
  obtain⟨vs,h1,h2,h3⟩:=h
  exact⟨vs,h1,shiftL_rel hw hn hβ hf h2,h3⟩
 | .tup cs,v,h=>by
  simp only[shiftA,VRel] at h ⊢
  obtain⟨vs,h1,h2⟩:=h
  exact⟨vs,h1,shiftL_rel hw hn hβ hf h2⟩
 | .iface t a,v,h=>by
  simp only[shiftA,VRel] at h ⊢
  obtain⟨u,h1,h2⟩:=h
  exact⟨u,h1,shift_rel hw hn hβ hf h2⟩
theorem shiftL_rel {Γ Δ:Cx} {k:Nat} (hw:Δ.w=Γ.w) (hn:Γ.n+k≤Δ.n) (hβ:∀ i,i<Γ.n→Δ.β (i+k)=Γ.β i) (hf:∀ b,Γ.Fz b→Δ.Fz b):∀ {as:List AV} {vs:List Value},VRels Γ as vs→VRels Δ (shiftL k as) vs
 | [],vs,h=>by simpa only[shiftL,VRels] using h
 | a :: as,vs,h=>by
  simp only[shiftL,VRels] at h ⊢
  obtain⟨u,us,h1,h2,h3⟩:=h
  exact⟨u,us,h1,shift_rel hw hn hβ hf h2,shiftL_rel hw hn hβ hf h3⟩
theorem shiftC_rel {Γ Δ:Cx} {k:Nat} (hw:Δ.w=Γ.w) (hn:Γ.n+k≤Δ.n) (hβ:∀ i,i<Γ.n→Δ.β (i+k)=Γ.β i) (hf:∀ b,Γ.Fz b→Δ.Fz b):∀ {as:List AV} {b o:Nat},CellsAt Γ as b o→CellsAt Δ (shiftL k as) b o
 | [],b,o,_=>by simp only[shiftL,CellsAt]
 | a :: as,b,o,h=>by
  simp only[shiftL,CellsAt] at h ⊢
  obtain⟨⟨v,h1,h2,h3⟩,h4⟩:=h
  exact⟨⟨v,by rw[hw]; exact h1,h2,shift_rel hw hn hβ hf h3⟩,shiftC_rel hw hn hβ hf h4⟩
end
mutual
theorem shift_nid (k:Nat):∀ {a:AV},nid a=true→shiftA k a=a
 | .int _ _,_ | .bool _,_ | .str _,_ | .nilp,_ | .nils,_ | .esl,_ | .enn,_ | .nilm,_ | .nilf,_ | .nili,_ | .unk,_=>by simp only[shiftA]
 | .ptr _ _,h | .sl ..,h | .map _,h | .yld _,h=>by simp[nid] at h
 | .bound _ cs,h=>by simp only[nid] at h; simp only[shiftA,shiftL_nid k h]
 | .fptr cs _,h=>by simp only[nid] at h; simp only[shiftA,shiftL_nid k h]
 | .fsl cs _,h=>by simp only[nid] at h; simp only[shiftA,shiftL_nid k h]
 | .func _ cs,h=>by simp only[nid] at h; simp only[shiftA,shiftL_nid k h]
 | .agg cs,h=>by simp only[nid] at h; simp only[shiftA,shiftL_nid k h]
 | .tup cs,h=>by simp only[nid] at h; simp only[shiftA,shiftL_nid k h]
 | .iface _ a,h=>by simp only[nid] at h; simp only[shiftA,shift_nid k h]
theorem shiftL_nid (k:Nat):∀ {as:List AV},nidL as=true→shiftL k as=as
 | [],_=>by simp only[shiftL]
 | a :: as,h=>by
  simp only[nidL,qp] at h
  simp only[shiftL,shift_nid k h.1,shiftL_nid k h.2]
end
end
section
set_option linter.unusedSectionVars false
variable [Mx]
open Go
variable {α β:Type}
structure R1 (α:Type) where
 v:α→AV
 un:AV→Option α
 un_v:∀ a,un (v a)=some a
 un_some:∀ x a,un x=some a→x=v a
structure Rp (α:Type) where
 v:α→List AV
 un:List AV→Option α
 un_v:∀ a,un (v a)=some a
 un_some:∀ x a,un x=some a→x=v a
def R1.i64:R1 Int where
 v:=.int .i64
 un:=fun
  | .int .i64 n=>some n
  | _=>none
 un_v _:=rfl
 un_some x a h:=by
  split at h
  ·cases h; rfl
  ·cases h
def R1.int (k:IntKind):R1 Int where
 v:=.int k
 un:=fun
  | .int k' n=>if k'=k then some n else none
  | _=>none
 un_v _:=if_pos rfl
 un_some x a h:=by
  split at h
  ·split at h
   ·rename_i e; cases h; rw[e]
   ·cases h
  ·cases h
def R1.bool:R1 Bool where
 v:=.bool
 un:=fun
  | .bool b=>some b
  | _=>none
 un_v _:=rfl
 un_some x a h:=by
  split at h
  ·cases h; rfl
  ·cases h
def R1.str:R1 (List UInt8) where
 v:=.str
 un:=fun
  | .str s=>some s
  | _=>none
 un_v _:=rfl
 un_some x a h:=by
  split at h
  ·cases h; rfl
  ·cases h
def R1.S (E:Enc α):R1 (List α):=⟨E.S,E.un,E.un_S,fun _ _ h=>E.un_some h⟩
def R1.agg (E:Enc α):R1 α where
 v a:=.agg (E.c a)
 un:=fun
  | .agg cs=>E.dec cs
  | _=>none
 un_v a:=E.dec_c a
 un_some x a h:=by
  split at h
  ·rw[E.dec_some _ _ h]
  ·cases h
def R1.fp1 (r:R1 α):R1 α where
 v a:=.fptr [r.v a] 0
 un:=fun
  | .fptr [x] 0=>r.un x
  | _=>none
 un_v a:=r.un_v a
 un_some x a h:=by
  split at h
  ·rw[r.un_some _ _ h]
  ·cases h
def Rp.nil:Rp Unit where
 v _:=[]
 un:=fun
  | []=>some ()
  | _=>none
 un_v _:=rfl
 un_some x a h:=by
  split at h
  ·rfl
  ·cases h
def Rp.cons (r:R1 α) (s:Rp β):Rp (α × β) where
 v p:=r.v p.1 :: s.v p.2
 un:=fun
  | x :: xs=>match r.un x,s.un xs with
   | some a,some b=>some (a,b)
   | _,_=>none
  | []=>none
 un_v p:=by simp only[r.un_v,s.un_v]
 un_some x a h:=by
  split at h
  ·split at h
   ·rename_i h1 h2
    cases h
    rw[r.un_some _ _ h1,s.un_some _ _ h2]
   ·cases h
  ·cases h
def R1.fn (f:FuncId) (s:Rp α):R1 α where
 v a:=.func f (s.v a)
 un:=fun
  | .func g cs=>if g=f then s.un cs else none
  | _=>none
 un_v a:=by show (if f=f then s.un (s.v a) else none)=_; rw[if_pos rfl]; exact s.un_v a
 un_some x a h:=by
  split at h
  ·split at h
   ·rename_i e; rw[s.un_some _ _ h,e]
   ·cases h
  ·cases h
def R1.map (r:R1 α) (f:β→α) (g:α→Option β) (hg:∀ b,g (f b)=some b) (hf:∀ a b,g a=some b→a=f b):R1 β where
 v b:=r.v (f b)
 un x:=(r.un x).bind g
 un_v b:=by rw[r.un_v]; exact hg b
 un_some x b h:=by
  cases hx:r.un x with
  | none=>rw[hx] at h; cases h
  | some a=>rw[hx] at h; rw[r.un_some _ _ hx,hf a b h]
def Tab.addR (T:Tab) (f:FuncId) (R:Rp α) (s:α→Res):Tab:=T.add f fun xs=>match R.un xs with
 | some a=>some (s a)
 | .none=>.none
theorem Tab.addR_self (T:Tab) (f:FuncId) (R:Rp α) (s:α→Res) (a:α):T.addR f R s f (R.v a)=some (s a):=by
 simp only[Tab.addR,Tab.add,if_true,R.un_v]
theorem Tab.addR_ne (T:Tab) (f:FuncId) (R:Rp α) (s:α→Res) {g:FuncId} (h:Nat.beq g f=false) (xs:List AV):T.addR f R s g xs=T g xs:=by
 simp only[Tab.addR,Tab.add]
 rw[if_neg (by rintro rfl; simp at h)]
theorem TabOk.addR {P:Program} {T:Tab} (h:TabOk P T) {f:FuncId} {R:Rp α} {s:α→Res} (hs:∀ a,(s a).Ok P f (R.v a)):TabOk P (T.addR f R s):=h.add fun xs r hr=>by
 split at hr
 ·rename_i a ha
  cases hr
  rw[R.un_some _ _ ha]
  exact hs a
 ·cases hr
def Tab.addO (T:Tab) (f:FuncId) (R:Rp α) (s:α→Option Res):Tab:=T.add f fun xs=>match R.un xs with
 | some a=>s a
 | .none=>.none
theorem Tab.addO_self (T:Tab) (f:FuncId) (R:Rp α) (s:α→Option Res) (a:α):T.addO f R s f (R.v a)=s a:=by
 simp only[Tab.addO,Tab.add,if_true,R.un_v]
theorem Tab.addO_ne (T:Tab) (f:FuncId) (R:Rp α) (s:α→Option Res) {g:FuncId} (h:Nat.beq g f=false) (xs:List AV):T.addO f R s g xs=T g xs:=by
 simp only[Tab.addO,Tab.add]
 rw[if_neg (by rintro rfl; simp at h)]
theorem TabOk.addO {P:Program} {T:Tab} (h:TabOk P T) {f:FuncId} {R:Rp α} {s:α→Option Res} (hs:∀ a r,s a=some r→r.Ok P f (R.v a)):TabOk P (T.addO f R s):=h.add fun xs r hr=>by
 split at hr
 ·rename_i a ha
  rw[R.un_some _ _ ha]
  exact hs a r hr
 ·cases hr
end
section
set_option linter.unusedSectionVars false
variable [Mx]
open Go
variable {P:Program} {hint:Nat→Nat} {T:Tab} {n:Nat}
theorem vcE.condB {c:Opd} {a b:IC} {tm:Env} {hp:HP} {Q:Exit→Env→HP→Prop} (t:Bool) (ht:evE tm c=.bool t) (h1:t=true→vcE P hint T n a tm hp Q) (h2:t=false→vcE P hint T n b tm hp Q):vcE P hint T n (.cond c a b) tm hp Q:=vcE.cond t ht h1 h2
theorem vcE.condD {c:Opd} {a b:IC} {tm:Env} {hp:HP} {Q:Exit→Env→HP→Prop} (p:Prop) [Decidable p] (ht:evE tm c=.bool (decide p)) (h1:p→vcE P hint T n a tm hp Q) (h2:¬ p→vcE P hint T n b tm hp Q):vcE P hint T n (.cond c a b) tm hp Q:=
 vcE.cond _ ht (fun h=>h1 (of_decide_eq_true h)) (fun h=>h2 (of_decide_eq_false h))
theorem vcE.condNB {c:Opd} {a b:IC} {tm:Env} {hp:HP} {Q:Exit→Env→HP→Prop} (t:Bool) (ht:evE tm c=.bool (!t)) (h1:t=false→vcE P hint T n a tm hp Q) (h2:t=true→vcE P hint T n b tm hp Q):vcE P hint T n (.cond c a b) tm hp Q:=
 vcE.cond _ ht (fun h=>h1 (by simpa using h)) (fun h=>h2 (by simpa using h))
theorem vcE.condND {c:Opd} {a b:IC} {tm:Env} {hp:HP} {Q:Exit→Env→HP→Prop} (p:Prop) [Decidable p] (ht:evE tm c=.bool (!decide p)) (h1:¬ p→vcE P hint T n a tm hp Q) (h2:p→vcE P hint T n b tm hp Q):vcE P hint T n (.cond c a b) tm hp Q:=
 vcE.condNB _ ht (fun h=>h1 (of_decide_eq_false h)) (fun h=>h2 (of_decide_eq_true h))
theorem vcE.condTrue {c:Opd} {a b:IC} {tm:Env} {hp:HP} {Q:Exit→Env→HP→Prop} (ht:evE tm c=.bool true) (h1:vcE P hint T n a tm hp Q):vcE P hint T n (.cond c a b) tm hp Q:=vcE.cond true ht (fun _=>h1) (fun h=>nomatch h)
theorem vcE.condFalse {c:Opd} {a b:IC} {tm:Env} {hp:HP} {Q:Exit→Env→HP→Prop} (ht:evE tm c=.bool false) (h1:vcE P hint T n b tm hp Q):vcE P hint T n (.cond c a b) tm hp Q:=vcE.cond false ht (fun h=>nomatch h) (fun _=>h1)
theorem vcE.count {c:IC} {tm:Env} {hp:HP} {Q:Exit→Env→HP→Prop} (hng:∀ l tm hp,¬ Q (.goto l) tm hp) (I:Nat→Env→HP→Prop) (m:Nat) (h0:I 0 tm hp)
  (step:∀ i tm hp,i<m→I i tm hp→vcE P hint T n c tm hp fun e tm' hp'=>match e with
   | .normal=>I (i+1) tm' hp'
   | e=>Q e tm' hp')
  (last:∀ tm hp,I m tm hp→vcE P hint T n c tm hp fun e tm' hp'=>match e with
   | .normal=>False
   | e=>Q e tm' hp'):vcE P hint T n (.loop c) tm hp Q:=by
 refine vcE.loop hng (fun k tm hp => ∃ i,i≤m∧k=m - i∧I i tm hp) m ⟨0,Nat.zero_le _,rfl,h0⟩ ?_
 rintro k tm hp ⟨i,h1,h2,h3⟩
 by_cases hi:i<m
 ·refine (step i tm hp hi h3).mono ?_
  intro e tm' hp' h
  cases e with
  | normal=>exact⟨m - (i+1),by omega,i+1,hi,rfl,h⟩
  | _=>exact h
 ·obtain rfl:i=m:=by omega
  refine (last tm hp h3).mono ?_
  intro e tm' hp' h
  cases e with
  | normal=>exact h.elim
  | _=>exact h
theorem set_concat {β:Type} (l:List β) (x y:β):(l++[x]).set l.length y=l++[y]:=by
 rw[List.set_append_right _ _ (Nat.le_refl _),Nat.sub_self]
 rfl
end
section
set_option linter.unusedSectionVars false
variable [Mx]
open Go
theorem HSim.newOther {Γ:Cx} {hp:HP} (h:HSim Γ hp) (o:Obj):HSim (Γ.alloc o) hp∧Ev Γ hp (Γ.alloc o) hp:=by
 have le:Le Γ (Γ.alloc o):=Le.alloc h.fz o
 refine⟨⟨h.len,fun i y hy=>?_,h.inj,fun b hb=>?_,h.gl.le le⟩,⟨le,rfl,rfl,rfl,by simp[Cx.alloc],fun b hb _=>alloc_old _ _ hb,fun b hb=>.inr hb,fun b hb=>.inl hb,rfl⟩⟩
 ·obtain⟨h1,h2,h3⟩:=h.blk i y hy
  exact⟨BRel.le le (alloc_old _ _ h3) h1,h2,by simp only[Cx.alloc,alloc_size]; exact Nat.lt_succ_of_lt h3⟩
 ·simp only[Cx.alloc,alloc_size]
  exact Nat.lt_succ_of_lt (h.fz b hb)
theorem loop_turn {Γ:Cx} {hp:HP} (h:HSim Γ hp) {id:Nat} {tms:List AV} {key:Nat} {st:LoopState} {pend:Option (Option Nat)} (hi:hp[id]? = some (some (.loop tms key st pend))) :
  ∃ (fn:FuncId) (vs:List Value) (d:Nat),Γ.w.heap[(Γ.β id).1]? = some (.loop { state:=st,pending:=pendC pend,fn:=fn,tmps:=⟨vs⟩,params:=(Γ.lc key).params,assign:=(Γ.lc key).assign,body:=(Γ.lc key).body,defers:=d })∧VRels Γ tms vs ∧
   ∀ st' pend',let o:Obj:=.loop { state:=st',pending:=pendC pend',fn:=fn,tmps:=⟨vs⟩,params:=(Γ.lc key).params,assign:=(Γ.lc key).assign,body:=(Γ.lc key).body,defers:=d }
    HSim (Γ.setB (Γ.β id).1 o) (hp.set id (some (.loop tms key st' pend')))∧Ev Γ hp (Γ.setB (Γ.β id).1 o) (hp.set id (some (.loop tms key st' pend'))):=by
 obtain⟨h1,h2,h3⟩:=h.blk id _ hi
 simp only[BRel] at h1
 obtain⟨fn,vs,d,e1,e2⟩:=h1
 refine⟨fn,vs,d,e1,e2,fun st' pend'=>?_⟩
 refine h.write hi _ _ (by intro s hs; simp[World.shape?,e1] at hs) ?_
 simp only[BRel]
 have le:Le Γ (Γ.setB (Γ.β id).1 (.loop { state:=st',pending:=pendC pend',fn:=fn,tmps:=⟨vs⟩,params:=(Γ.lc key).params,assign:=(Γ.lc key).assign,body:=(Γ.lc key).body,defers:=d })):=Le.setB h2 (by intro s hs; simp[World.shape?,e1] at hs)
 exact⟨fn,vs,d,setB_eq _ _ h3,e2.le le⟩
def RCall (P:Program) (fv:AV) (id:Nat) (hp:HP) (K:AV→HP→Prop):Prop:=
 match fv with
 | .func g caps=>ACalls P g (.yld id :: caps) hp K
 | .bound g first=>ACalls P g (first++[.yld id]) hp K
 | _=>False
theorem AW.range {P:Program} {f:Operand} {o:Opd} (ho:opdP f=some o) {key:Nat} {ps:Array Tmp} {assign body:Code} (hk:lcP P key=⟨ps,assign,body⟩) {st:St} {fv:AV} (hv:o.ev st.tm=fv) {r:AV} {hp2:HP} {tms':List AV} {key':Nat} {ls:LoopState} {pend:Option (Option Nat)}
  (hcall:RCall P fv st.hp.length (st.hp++[some (.loop st.tm key .ready none)]) fun a b=>a=r∧b=hp2)
  (hb:hp2[st.hp.length]? = some (some (.loop tms' key' ls pend))) (hne:ls≠.busy) {Q:Exit→St→Prop} (hq:match pend with
   | none=>Q .normal ⟨st.tm,hp2.set st.hp.length (some (.loop tms' key' .exhausted pend))⟩
   | some none=>Q .ret ⟨st.tm,hp2.set st.hp.length (some (.loop tms' key' .exhausted pend))⟩
   | some (some i)=>Q (.exit i) ⟨st.tm,hp2.set st.hp.length (some (.loop tms' key' .exhausted pend))⟩):AW P (.rangeFunc f ps assign body) st Q:=by
 intro q Γ a hp hs hl
 have hq0:q=none:=hp.resolve_right (by simp[plainC])
 subst hq0
 show (Code.rangeFunc f ps assign body).wpIn Fence.wide 0 P _ a Γ.w
 refine wpIn_rangeFunc ?_
 intro fn _
 -- the two new blocks
 obtain⟨hA,eA⟩:=hs.hp.newOther (.deferred (some []))
 let Γ1:Cx:=Γ.alloc (.deferred (some []))
 let obj:Obj:=.loop { state:=.ready,pending:=none,fn:=fn,tmps:=a.tmps,params:=ps,assign:=assign,body:=body,defers:=Γ.w.heap.size }
 have hlc:Γ.lc key=⟨ps,assign,body⟩:=by rw[hl,hk]
 let Γ2:Cx:=(Γ1.alloc obj).know (Γ1.w.heap.size,0)
 have hsz:Γ1.w.heap.size=Γ.w.heap.size+1:=by simp[Γ1,Cx.alloc]
 have le12:Le Γ1 Γ2:=(Le.alloc hA.fz obj).trans (Le.know _ _)
 have hB:HSim Γ2 (st.hp++[some (.loop st.tm key .ready none)])∧Ev Γ1 st.hp Γ2 (st.hp++[some (.loop st.tm key .ready none)]):=by
  refine hA.new obj (.loop st.tm key .ready none) ?_
  simp only[BRel]
  refine⟨fn,a.tmps.toList,Γ.w.heap.size,?_,(hs.tm.le eA.le).le le12⟩
  have:(Γ2.w).heap[Γ1.w.heap.size]? = some obj:=alloc_new _ _
  have hl2:Γ2.lc key=⟨ps,assign,body⟩:=hlc
  show Γ2.w.heap[Γ1.w.heap.size]? = _
  rw[this,hl2]
  simp only[obj,pendC]
 obtain⟨hB1,eB⟩:=hB
 have eAB:Ev Γ st.hp Γ2 (st.hp++[some (.loop st.tm key .ready none)]):=eA.trans eB
 have hn:Γ1.n=st.hp.length:=hA.len.symm
 have hyld:VRel Γ2 (.yld st.hp.length) (.func (.yield (Γ.w.heap.size+1)) #[] #[]):=by
  simp only[VRel]
  refine⟨by show st.hp.length<Γ1.n+1; omega,?_⟩
  have:(Γ2.β st.hp.length).1=Γ1.w.heap.size:=by simp[Γ2,Cx.know,Cx.alloc,hn]
  rw[this,hsz]
 have hfv:VRel Γ fv (a.eval f):=by rw[← hv]; exact opd_rel hs.hp.gl hs.tm ho
 -- what the call's function is
 have hfun:∃ (g:FuncId) (xs:List AV) (first caps:List Value),a.eval f=.func (.func g) ⟨first⟩ ⟨caps⟩∧VRels Γ2 xs (first++.func (.yield (Γ.w.heap.size+1)) #[] #[] :: caps)∧ACalls P g xs (st.hp++[some (.loop st.tm key .ready none)]) fun a b=>a=r∧b=hp2:=by
  cases fv<;>simp only[RCall] at hcall
  case func g caps =>
   simp only[VRel] at hfv
   obtain⟨vs,h1,h2⟩:=hfv
   refine⟨g,_,[],vs,h1,?_,hcall⟩
   simp only[qz,VRels]
   exact⟨_,_,rfl,hyld,h2.le eAB.le⟩
  case bound g first =>
   simp only[VRel] at hfv
   obtain⟨vs,h1,h2⟩:=hfv
   refine⟨g,_,vs,[],h1,?_,hcall⟩
   exact (h2.le eAB.le).append (by simp only[VRels]; exact⟨_,_,rfl,hyld,rfl⟩)
 obtain⟨g,xs,first,caps,hf,hxs,hac⟩:=hfun
 obtain⟨⟨gfn,hgfn,hname,hbody⟩,hc⟩:=hac
 have hw2:Γ2.w=(Γ.w.alloc (.deferred (some []))).alloc obj:=rfl
 refine⟨Γ.w.heap.size+1,[{ target:=.collected Γ.w.heap.size,args:=#[] }],Γ2.w,{ target:=.fn (.func g) ⟨caps⟩,args:=⟨first⟩ ++ #[.func (.yield (Γ.w.heap.size+1)) #[] #[]] },Γ2.w,g,⟨first++.func (.yield (Γ.w.heap.size+1)) #[] #[] :: caps⟩,Γ2.w,?_,?_,fun _ _=>trivial,?_,(by intro h; cases h),?_⟩
 ·exact run_enterLoop_outer _ _ _ _ _
 ·simp only[resolve,hf]
  simp[Deferred.ofValue,Act.eval]
 ·have hn' : ¬ gfn.name = "runtime.NumGoroutine" := by simpa using hname
  have hb':¬ gfn.body=none:=by intro hb; rw[hb] at hbody; cases hbody
  simp[invoke,callFunc,hgfn,hn',hb']
 ·refine Fw_calls none (Calls.mono (hc Γ2 _ hB1 (eAB.le.lc.trans hl) hxs) ?_)
  rintro e w' ⟨v,a2,b2,Δ,rfl,rfl,h5,h6,h7,rfl,rfl⟩
  obtain⟨fn',vs',d',e1,e2,turn⟩:=loop_turn h6 hb
  obtain⟨hT,eT⟩:=turn .exhausted pend
  have hβ:(Δ.β st.hp.length).1=Γ.w.heap.size+1:=by
   rw[h7.le.β _ (by show st.hp.length<Γ1.n+1; omega)]
   have:(Γ2.β st.hp.length).1=Γ1.w.heap.size:=by simp[Γ2,Cx.know,Cx.alloc,hn]
   rw[this,hsz]
  have hend:=run_endLoop (P:=P) e1 hne
  rw[hβ] at hend
  refine⟨pendC pend,_,hend,?_⟩
  -- the state behind
  let o':Obj:=.loop { state:=.exhausted,pending:=pendC pend,fn:=fn',tmps:=⟨vs'⟩,params:=(Δ.lc key').params,assign:=(Δ.lc key').assign,body:=(Δ.lc key').body,defers:=d' }
  let Θ:Cx:=Δ.setB (Δ.β st.hp.length).1 o'
  have eΘ:Ev Γ st.hp Θ (b2.set st.hp.length (some (.loop tms' key' .exhausted pend))):=(eAB.trans h7).trans eT
  have hwΘ:Θ.w=Δ.w.putObj (Γ.w.heap.size+1) o':=by
   show setB Δ.w (Δ.β st.hp.length).1 o'=_
   rw[hβ]
   rfl
  have marks:MarksOk Θ (b2.set st.hp.length (some (.loop tms' key' .exhausted pend))) ({ target:=.collected Γ.w.heap.size,args:=#[] } :: a.defers):=by
   obtain⟨q0,ks,q1,q2,q3⟩:=hs.df.ev eΘ
   have old:=hs.df
   have hk0:Γ1.w.heap[Γ.w.heap.size]? = some (.deferred (some [])):=alloc_new _ _
   have hk1:MarksOk Γ1 st.hp [{ target:=.collected Γ.w.heap.size,args:=#[] }]:=by
    refine⟨Nat.le_trans hs.df.1 eA.size,[Γ.w.heap.size],rfl,by simp,fun k hk=>?_⟩
    simp only[List.mem_singleton] at hk
    subst hk
    refine⟨hk0,?_,?_,hs.df.1⟩
    ·rintro⟨i,x,hx,e⟩
     have:=(hs.hp.blk i x hx).2.2
     have e':(Γ.β i).1=Γ.w.heap.size:=e
     omega
    ·intro hf
     have:=hs.hp.fz _ hf
     omega
   obtain⟨_,ks1,p1,p2,p3⟩:=hk1.ev ((eB.trans h7).trans eT)
   have hks1:ks1=[Γ.w.heap.size]:=by
    rcases ks1 with _|⟨x,_|⟨y,l⟩⟩<;>simp at p1
    rw[← p1]
   refine⟨q0,Γ.w.heap.size :: ks,by rw[q1]; rfl,?_,?_⟩
   ·rw[List.nodup_cons]
    refine⟨fun hm=>?_,q2⟩
    obtain⟨_,ks0,o1,o2,o3⟩:=old
    have hsame:ks0=ks:=by
     have:(ks0.map fun k=>({ target:=.collected k,args:=#[] }:Deferred))=ks.map fun k=>({ target:=.collected k,args:=#[] }:Deferred):=by rw[← o1,← q1]
     exact (List.map_inj_right (fun x y hxy=>by simpa using hxy)).1 this
    subst hsame
    have:=(Array.getElem?_eq_some_iff.1 (o3 _ hm).1).1
    omega
   ·intro k hk
    rcases List.mem_cons.1 hk with rfl|hk
    ·exact p3 _ (by rw[hks1]; simp)
    ·exact q3 k hk
  have hss:SSim Θ ⟨st.tm,b2.set st.hp.length (some (.loop tms' key' .exhausted pend))⟩ { a with defers:=[{ target:=.collected Γ.w.heap.size,args:=#[] }]++a.defers }:=⟨hs.tm.le eΘ.le,hT,marks⟩
  rw[← hwΘ]
  cases pend with
  | none=>exact⟨Θ,_,rfl,hss,eΘ,hq⟩
  | some p=>cases p with
   | none=>exact wpIn_ret ⟨Θ,_,rfl,hss,eΘ,hq⟩
   | some i=>exact wpIn_exit ⟨Θ,_,rfl,hss,eΘ,hq⟩
def pendOf:Exit→Option (Option (Option Nat))
 | .normal=>some none
 | .ret=>some (some none)
 | .exit i=>some (some (some i))
 | _=>none
def setPs (tms:List AV):List Nat→List AV→List AV
 | p :: ps,x :: xs=>setPs (tms.set p x) ps xs
 | _,_=>tms
theorem setPs_rel {Γ:Cx}:∀ {ps:List Nat} {xs tms:List AV} {vs us:List Value},VRels Γ tms us→VRels Γ xs vs→VRels Γ (setPs tms ps xs) ((ps.zip vs).foldl (fun t (x:Nat × Value)=>t.set x.1 x.2) us)
 | [],xs,tms,vs,us,h,k=>by simpa[setPs] using h
 | p :: ps,[],tms,vs,us,h,k=>by
  simp only[VRels] at k
  subst k
  simpa[setPs] using h
 | p :: ps,x :: xs,tms,vs,us,h,k=>by
  simp only[VRels] at k
  obtain⟨v,vs',rfl,h1,h2⟩:=k
  simp only[setPs,List.zip_cons_cons,List.foldl_cons]
  exact setPs_rel (VRels.set h1 h p) h2
theorem ARound.of {P:Program} {id:Nat} {xs:List AV} {hp:HP} {tms:List AV} {key:Nat} (hb:hp[id]? = some (some (.loop tms key .ready none))) {ps:Array Tmp} {assign body:Code} (hk:lcP P key=⟨ps,assign,body⟩) (hpl:(plainC assign && plainC body)=true) (hps:xs.length=ps.size)
  {t1:List AV→Prop} {hp1 hp3:HP} {tms1:List AV} {key1:Nat} {pd1:Option (Option Nat)} (ha:AW P assign ⟨setPs tms ps.toList xs,hp⟩ fun e st'=>e=.normal∧t1 st'.tm∧st'.hp=hp1) (hb1:hp1[id]? = some (some (.loop tms1 key1 .ready pd1)))
  {e:Exit} {pe:Option (Option Nat)} (hpe:pendOf e=some pe) (hbody:∀ tm,t1 tm→AW P body ⟨tm,hp1.set id (some (.loop tms1 key1 .busy pd1))⟩ fun e' st'=>e'=e∧st'.hp=hp3)
  {tms3:List AV} {key3:Nat} {ls3:LoopState} {pd3:Option (Option Nat)} (hb3:hp3[id]? = some (some (.loop tms3 key3 ls3 pd3))) :
  ARound P id xs hp fun r hp'=>r=.bool pe.isNone∧hp'=hp3.set id (some (.loop tms3 key3 (if pe.isNone then .ready else .done) pe)):=by
 intro q Γ vs hh hl hv hid
 simp only[qp] at hpl
 obtain⟨h1,h2,h3⟩:=hh.blk id _ hb
 simp only[BRel] at h1
 obtain⟨fn,us,d,e1,e2⟩:=h1
 have hlc:Γ.lc key=⟨ps,assign,body⟩:=by rw[hl,hk]
 rw[hlc] at e1
 have hsize:(⟨vs⟩:Array Value).size=ps.size:=by have:=hv.length; simp only[List.size_toArray]; omega
 refine⟨fn,_,assign,body,run_yield e1 hsize,?_⟩
 have hQ:(Fw q).inRound (Γ.β id).1=Fw (some (Γ.β id).1):=by cases q<;>rfl
 refine roundIn_of_wpIn (Fw_fn q fn) ?_
 rw[hQ]
 have hrel:VRels Γ (setPs tms ps.toList xs) ((ps.zip ⟨vs⟩).foldl (fun (t:Array Value) (x:Nat × Value)=>t.setIfInBounds x.1 x.2) (⟨us⟩:Array Value)).toList:=by
  have:=setPs_rel (ps:=ps.toList) e2 hv
  have key:∀ (l:List (Nat × Value)) (t:Array Value),(l.foldl (fun t (x:Nat × Value)=>t.setIfInBounds x.1 x.2) t).toList=l.foldl (fun t (x:Nat × Value)=>t.set x.1 x.2) t.toList:=by
   intro l
   induction l with
   | nil=>intro t; rfl
   | cons x l ih=>intro t; simp only[List.foldl_cons]; rw[ih]; simp
  rw[← Array.foldl_toList,key]
  have hz:(ps.zip ⟨vs⟩).toList=ps.toList.zip vs:=by simp
  rw[hz]
  exact this
 let Γ0:=Γ.from_ Γ.w.heap.size
 have hs0:SSim Γ0 ⟨setPs tms ps.toList xs,hp⟩ { tmps:=(ps.zip ⟨vs⟩).foldl (fun (t:Array Value) (x:Nat × Value)=>t.setIfInBounds x.1 x.2) (⟨us⟩:Array Value),defers:=[] }:=⟨hrel.le (Le.from_ _ _),hh.from_ _,MarksOk.nil (Nat.le_refl _) _⟩
 refine wpIn_mono (ha (some (Γ.β id).1) Γ0 _ (.inr hpl.1) hs0 hl) ?_
 rintro e0 a1 w1 ⟨Δ,st1,rfl,k1,k2,rfl,k3,k4⟩
 have hβ1:Δ.β id=Γ.β id:=k2.le.β id hid
 have hh1:HSim Δ hp1:=by rw[← k4]; exact k1.hp
 obtain⟨fn1,us1,d1,f1,f2,turn1⟩:=loop_turn hh1 hb1
 obtain⟨hT1,eT1⟩:=turn1 .busy pd1
 rw[hβ1] at f1
 refine⟨_,run_beginRound f1 rfl,?_⟩
 let Δ1:Cx:=Δ.setB (Δ.β id).1 (.loop { state:=.busy,pending:=pendC pd1,fn:=fn1,tmps:=⟨us1⟩,params:=(Δ.lc key1).params,assign:=(Δ.lc key1).assign,body:=(Δ.lc key1).body,defers:=d1 })
 have hw1:Δ1.w=Δ.w.putObj (Γ.β id).1 (.loop { state:=.busy,pending:=pendC pd1,fn:=fn1,tmps:=⟨us1⟩,params:=(Δ.lc key1).params,assign:=(Δ.lc key1).assign,body:=(Δ.lc key1).body,defers:=d1 }):=by
  show setB Δ.w (Δ.β id).1 _=_
  rw[hβ1]
  rfl
 have e01:Ev Γ0 hp Δ1 (hp1.set id (some (.loop tms1 key1 .busy pd1))):=by
  have k2':Ev Γ0 hp Δ hp1:=by rw[← k4]; exact k2
  exact k2'.trans eT1
 have hs1:SSim Δ1 ⟨st1.tm,hp1.set id (some (.loop tms1 key1 .busy pd1))⟩ a1:=⟨k1.tm.le eT1.le,hT1,by
  have:=k1.df
  rw[k4] at this
  exact this.ev eT1⟩
 rw[← hw1]
 refine wpIn_mono (hbody st1.tm k3 (some (Γ.β id).1) Δ1 a1 (.inr hpl.2) hs1 (e01.le.lc.trans hl)) ?_
 rintro e' a2 w2 ⟨Θ,st2,rfl,m1,m2,rfl,m4⟩
 have hh3:HSim Θ hp3:=by rw[← m4]; exact m1.hp
 have m2':Ev Δ1 (hp1.set id (some (.loop tms1 key1 .busy pd1))) Θ hp3:=by rw[← m4]; exact m2
 have hβ3:Θ.β id=Γ.β id:=(e01.trans m2').le.β id hid
 obtain⟨fn3,us3,d3,g1,g2,turn3⟩:=loop_turn hh3 hb3
 rw[hβ3] at g1
 have fin:∀ (jump:Option Code),jump=pendC pe→(jump.isNone=pe.isNone)→∃ v w',(Instr.endRound (Γ.β id).1 jump).run P Θ.w=.ok v w'∧∃ v' r hp' Δ',Ending.returned v=.returned v'∧Δ'.w=w'∧VRel Δ' r v'∧HSim Δ' hp'∧Ev Γ hp Δ' hp'∧r=.bool pe.isNone∧hp'=hp3.set id (some (.loop tms3 key3 (if pe.isNone then .ready else .done) pe)):=by
  rintro jump rfl hj
  obtain⟨hT3,eT3⟩:=turn3 (if pe.isNone then .ready else .done) pe
  refine⟨_,_,run_endRound (pendC pe) g1,?_⟩
  let Ψ:Cx:=Θ.setB (Θ.β id).1 (.loop { state:=if pe.isNone then .ready else .done,pending:=pendC pe,fn:=fn3,tmps:=⟨us3⟩,params:=(Θ.lc key3).params,assign:=(Θ.lc key3).assign,body:=(Θ.lc key3).body,defers:=d3 })
  have eAll:Ev Γ0 hp Ψ (hp3.set id (some (.loop tms3 key3 (if pe.isNone then .ready else .done) pe))):=(e01.trans m2').trans eT3
  refine⟨_,.bool pe.isNone,_,Ψ.from_ Γ.s0,rfl,?_,by simp only[VRel,hj],hT3.from_ _,eAll.from_,rfl,rfl⟩
  show setB Θ.w (Θ.β id).1 _=_
  rw[hβ3,hj]
  rfl
 cases e'<;>simp only[pendOf,Option.some.injEq,reduceCtorEq] at hpe<;>subst hpe<;>simp only[roundPost]
 ·exact fin none rfl rfl
 ·exact fin _ rfl rfl
 ·exact fin _ rfl rfl
end
section
set_option linter.unusedSectionVars false
variable [Mx]
open Go
def hintL (l:List (Nat × Nat)) (i:Nat):Nat:=(l.lookup i).getD 0
def keysL (P:Program) (hint:Nat→Nat) (f:FuncId):List LC:=match (P.funcs[f]?).bind (·.body) with
 | some c=>(keysOf hint c).map fun x=>lcP P x.1
 | none=>[]
def keysR (P:Program) (hint:Nat→Nat) (f:FuncId):List LC:=match (P.funcs[f]?).bind (·.body) with
 | some c=>(keysOf hint c).map (·.2)
 | none=>[]
theorem keysF_of {P:Program} {hint:Nat→Nat} {f:FuncId} (h:keysL P hint f=keysR P hint f):KeysF P hint f:=fun fn c h1 h2 x hx=>by
 unfold keysL keysR at h
 rw[h1] at h
 simp only[Option.bind_some,h2] at h
 exact (List.map_inj_left.1 h) x hx
structure LI where
 nt:Nat
 ps:List Nat
 a:IC
 b:IC
def LOk (P:Program) (key:Nat) (li:LI):Prop:=∃ hint,(lcP P key).params.toList=li.ps∧(plainC (lcP P key).assign && plainC (lcP P key).body)=true∧compC P hint (lcP P key).assign=some li.a∧compC P hint (lcP P key).body=some li.b∧(okS li.nt li.a && okS li.nt li.b)=true
theorem plain_keys {hint:Nat→Nat}:∀ {c:Code},plainC c=true→keysOf hint c=[]
 | .skip,_ | .label _,_ | .region _ _ _,_ | .exit _,_ | .ret,_ | .goto _,_ | .refuse _,_=>by simp only[keysOf]
 | .seq a b,h | .cond _ a b,h=>by
  simp only[plainC,qp] at h
  simp only[keysOf,plain_keys h.1,plain_keys h.2,qt]
 | .block _ c,h | .loop c,h | .scope c,h=>by
  simp only[plainC] at h
  simp only[keysOf,plain_keys h]
 | .rangeFunc ..,h=>by simp[plainC] at h
def exitOf:Option (Option Nat)→Exit
 | none=>.normal
 | some none=>.ret
 | some (some i)=>.exit i
end
end Go.Gi
