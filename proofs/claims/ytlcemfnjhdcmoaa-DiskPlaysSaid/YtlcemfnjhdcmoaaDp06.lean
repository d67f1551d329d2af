/- Part 6 of the proof: see its last file. -/
import Derived.Orders
import Derived.Below
import Derived.Laws.Entries
import Derived.Laws.Cells
import Derived.Laws.IdiomCopy
import Derived.Scope
import Derived.Calls
import Derived.Laws.Tables
import Derived.Laws.MakeOwn
import Derived.Laws.BytesString
import Derived.ArgAppend
import Derived.WalkSpells
import Derived.Lib.SlBytesConst
import Derived.Lib.ConvBytes
import Derived.WalkKit
import Derived.ProofKit
import Derived.OpenShut
import Derived.ShutString
import Derived.ChangeOld
import Derived.Lib.SmallJoins
import Derived.Test.YtlcemfnjhdcmoaaDp05
set_option linter.unusedSimpArgs false
set_option linter.unusedVariables false
namespace Go.OT
@[simp] theorem runSg_nil (r:Option SL):runSg [] r=r:=rfl
@[simp] theorem runSg_o (l:List COp) (s:List Sg) (r:Option SL):runSg (.o l :: s) r=runSg s (runL l r):=rfl
@[simp] theorem runSg_g (t:Nat) (w:Bool) (l:List COp) (s:List Sg) (r:Option SL):runSg (.g t w l :: s) r=runSg s (runG t w l r):=rfl
@[simp] theorem runL_nil (r:Option SL):runL [] r=r:=rfl
@[simp] theorem runL_cons (c:COp) (l:List COp) (r:Option SL):runL (c :: l) r=runL l (stpO r c):=rfl
@[simp] theorem runG_nil (t:Nat) (w:Bool) (r:Option SL):runG t w [] r=r:=rfl
@[simp] theorem runG_cons (t:Nat) (w:Bool) (c:COp) (l:List COp) (r:Option SL):runG t w (c :: l) r=runG t w l (stpGO t w r c):=rfl
@[simp] theorem stpO_some (L:SL) (c:COp):stpO (some L) c=stpL L c:=rfl
def stpB (L:SL)(c:COp):Option Bool→Option SL
 | some true=>stpL L c
 | some false=>some (skipL L c)
 | none=>none
@[simp] theorem stpGO_some (t:Nat) (w:Bool) (L:SL) (c:COp):stpGO t w (some L) c=stpB L c (gv w (fnL L (100 * t)).2):=by
 simp only[stpGO,stpG]
 cases gv w (fnL L (100 * t)).2 with
 | none=>rfl
 | some b=>cases b<;>rfl
@[simp] theorem stpB_true (L:SL) (c:COp):stpB L c (some true)=stpL L c:=rfl
@[simp] theorem stpB_false (L:SL) (c:COp):stpB L c (some false)=some (skipL L c):=rfl
@[simp] theorem gv_bool (w b:Bool):gv w (.sc (.bool b))=some (b == w):=rfl
@[simp] theorem gv_undef (w:Bool) (x:Array Value):gv w (.sc (.tuple x))=some false:=rfl
@[simp] theorem gv_undef' (w:Bool):gv w (.sc undef)=some false:=rfl
def putO (L:SL)(d:Nat):Option AU→Option SL
 | some v=>some (setL L (100 * d) v)
 | none=>none
@[simp] theorem putO_some (L:SL) (d:Nat) (v:AU):putO L d (some v)=some (setL L (100 * d) v):=rfl
theorem putO_eq (L:SL)(c:COp):(pval (fnL L) c).map (fun v=>setL L (100 * dOf c) v)=putO L (dOf c) (pval (fnL L) c):=by
 cases pval (fnL L) c<;>rfl
def nown (v:AU):Option AU:=if noOwn v=true then some v else none
section
variable (L:SL) (d:Nat)
@[simp] theorem stpL_mov (c:COd):stpL L (.mov d c)=putO L d (nown (rd (fnL L) c)):=putO_eq L _
@[simp] theorem stpL_chk (c:COd):stpL L (.chk d c)=putO L d (if sureP (fnL L) (rd (fnL L) c)=true then some (rd (fnL L) c) else none):=putO_eq L _
def pickV (X:XF Unit)(a b:COd):AU→Option AU
 | .sc (.bool t)=>if t=true then nown (rd X a) else nown (rd X b)
 | _=>none
@[simp] theorem pickV_true (X:XF Unit) (a b:COd):pickV X a b (.sc (.bool true))=nown (rd X a):=rfl
@[simp] theorem pickV_false (X:XF Unit) (a b:COd):pickV X a b (.sc (.bool false))=nown (rd X b):=rfl
@[simp] theorem stpL_pick (c a b:COd):stpL L (.pick d c a b)=putO L d (pickV (fnL L) a b (rd (fnL L) c)):=by
 refine (putO_eq L _).trans ?_
 simp only[dOf,pval]
 congr 1
 generalize rd (fnL L) c=v
 cases v with
 | sc v=>cases v with
  | bool t=>cases t<;>rfl
  | _=>rfl
 | _=>rfl
def unV (op:UnOp):AU→Option AU
 | .sc u=>(scUn op u).map fun r=>.sc r
 | _=>none
@[simp] theorem unV_not (b:Bool):unV .not (.sc (.bool b))=some (.sc (.bool !b)):=rfl
@[simp] theorem unV_neg (k:IntKind) (n:Int):unV .neg (.sc (.int k n))=some (.sc (.int k (k.wrap (0 - n)))):=rfl
@[simp] theorem stpL_un (op:UnOp) (c:COd):stpL L (.un d op c)=putO L d (unV op (rd (fnL L) c)):=by
 refine (putO_eq L _).trans ?_
 simp only[dOf,pval,unV]
 rfl
def binV (op:BinOp):AU→AU→Option AU
 | .sc u,.sc v=>(scBin op u v).map fun r=>.sc r
 | _,_=>none
@[simp] theorem binV_int (op:BinOp) (k k':IntKind) (a b:Int):binV op (.sc (.int k a)) (.sc (.int k' b))=(scBin op (.int k a) (.int k' b)).map fun r=>.sc r:=rfl
@[simp] theorem binV_str (op:BinOp) (a b:ByteArray):binV op (.sc (.string a)) (.sc (.string b))=(scBin op (.string a) (.string b)).map fun r=>.sc r:=rfl
@[simp] theorem stpL_bin (op:BinOp) (a b:COd):stpL L (.bin d op a b)=putO L d (binV op (rd (fnL L) a) (rd (fnL L) b)):=by
 refine (putO_eq L _).trans ?_
 simp only[dOf,pval,binV]
 rfl
def beqV (eq:Bool):AU→AU→Option AU
 | .sc (.bool u),.sc (.bool v)=>some (.sc (.bool (if eq=true then u == v else !(u == v))))
 | _,_=>none
@[simp] theorem beqV_b (eq u v:Bool):beqV eq (.sc (.bool u)) (.sc (.bool v))=some (.sc (.bool (if eq=true then u == v else !(u == v)))):=rfl
@[simp] theorem stpL_beq (eq:Bool) (a b:COd):stpL L (.beq d eq a b)=putO L d (beqV eq (rd (fnL L) a) (rd (fnL L) b)):=by
 refine (putO_eq L _).trans ?_
 simp only[dOf,pval,beqV]
 rfl
def convV (k:IntKind):AU→Option AU
 | .sc (.int _ n)=>some (.sc (.int k (k.wrap n)))
 | _=>none
@[simp] theorem convV_i (k k':IntKind) (n:Int):convV k (.sc (.int k' n))=some (.sc (.int k (k.wrap n))):=rfl
@[simp] theorem stpL_conv (k:IntKind) (c:COd):stpL L (.conv d k c)=putO L d (convV k (rd (fnL L) c)):=by
 refine (putO_eq L _).trans ?_
 simp only[dOf,pval,convV]
 rfl
def mxV (mx:Bool):AU→AU→Option AU
 | .sc u,.sc v=>(scMx mx u v).map fun r=>.sc r
 | _,_=>none
@[simp] theorem mxV_int (mx:Bool) (k k':IntKind) (a b:Int):mxV mx (.sc (.int k a)) (.sc (.int k' b))=(scMx mx (.int k a) (.int k' b)).map fun r=>.sc r:=rfl
@[simp] theorem stpL_mx (mx:Bool) (a b:COd):stpL L (.mx d mx a b)=putO L d (mxV mx (rd (fnL L) a) (rd (fnL L) b)):=by
 refine (putO_eq L _).trans ?_
 simp only[dOf,pval,mxV]
 rfl
def ldR (ag:Bool):Option (List AU)→Option AU
 | some cs=>nown (if ag=true then AV.agg cs else cs.getD 0 .non)
 | none=>none
@[simp] theorem ldR_true (cs:List AU):ldR true (some cs)=nown (.agg cs):=rfl
@[simp] theorem ldR_one (c:AU):ldR false (some [c])=nown c:=rfl
@[simp] theorem stpL_ld (n:Nat) (ag:Bool) (c:COd):stpL L (.ld d n ag c)=putO L d (ldR ag (ldCells (fnL L) (rd (fnL L) c) n)):=by
 refine (putO_eq L _).trans ?_
 simp only[dOf,pval]
 cases ldCells (fnL L) (rd (fnL L) c) n<;>rfl
@[simp] theorem stpL_faddr (off:Nat) (c:COd):stpL L (.faddr d off c)=putO L d (faddrV (fnL L) off (rd (fnL L) c)):=putO_eq L _
def ixV (X:XF Unit)(s:Nat)(v:AU):AU→Option AU
 | .sc (.int _ j)=>iaddrV X s v j
 | _=>none
@[simp] theorem ixV_i (X:XF Unit) (s:Nat) (v:AU) (k:IntKind) (j:Int):ixV X s v (.sc (.int k j))=iaddrV X s v j:=rfl
@[simp] theorem stpL_iaddr (s:Nat) (c i:COd):stpL L (.iaddr d s c i)=putO L d (ixV (fnL L) s (rd (fnL L) c) (rd (fnL L) i)):=by
 refine (putO_eq L _).trans ?_
 simp only[dOf,pval,ixV]
 rfl
def lenR:Option Nat→Option AU
 | some n=>some (.sc (.int .i64 (n:Int)))
 | none=>none
@[simp] theorem lenR_some (n:Nat):lenR (some n)=some (.sc (.int .i64 (n:Int))):=rfl
@[simp] theorem stpL_len (c:COd):stpL L (.len d c)=putO L d (lenR (lenV (fnL L) (rd (fnL L) c))):=by
 refine (putO_eq L _).trans ?_
 simp only[dOf,pval]
 cases lenV (fnL L) (rd (fnL L) c)<;>rfl
def slenV:AU→Option AU
 | .sc (.string s)=>some (.sc (.int .i64 s.size))
 | _=>none
@[simp] theorem slenV_s (s:ByteArray):slenV (.sc (.string s))=some (.sc (.int .i64 s.size)):=rfl
@[simp] theorem stpL_slen (c:COd):stpL L (.slen d c)=putO L d (slenV (rd (fnL L) c)):=by
 refine (putO_eq L _).trans ?_
 simp only[dOf,pval,slenV]
 rfl
def bndV (dflt:Nat):Option AU→Option Nat
 | none=>some dflt
 | some (.sc (.int _ j))=>if 0≤j then some j.toNat else none
 | _=>none
@[simp] theorem bndV_none (n:Nat):bndV n none=some n:=rfl
@[simp] theorem bndV_some (n:Nat) (k:IntKind) (j:Int):bndV n (some (.sc (.int k j)))=if 0≤j then some j.toNat else none:=rfl
theorem bnd_eq (X:XF Unit)(n:Nat)(c:Option COd):bnd X n c=bndV n (c.map (rd X)):=by
 cases c with
 | none=>rfl
 | some c =>
  simp only[bnd,Option.map_some]
  generalize rd X c=v
  cases v with
  | sc v=>cases v<;>rfl
  | _=>rfl
def sliR (X:XF Unit)(s:Nat)(v:AU)(l:Option AU)(h:Option AU):Option Nat→Option AU
 | some n=>match bndV 0 l,bndV n h with
  | some lo,some hi=>sliceV X s lo hi v
  | _,_=>none
 | none=>none
def sliH (X:XF Unit)(s:Nat)(v:AU):Option Nat→Option Nat→Option AU
 | some lo,some hi=>sliceV X s lo hi v
 | _,_=>none
@[simp] theorem sliR_some (X:XF Unit) (s:Nat) (v:AU) (l h:Option AU) (n:Nat):sliR X s v l h (some n)=sliH X s v (bndV 0 l) (bndV n h):=rfl
@[simp] theorem sliH_some (X:XF Unit) (s:Nat) (v:AU) (lo hi:Nat):sliH X s v (some lo) (some hi)=sliceV X s lo hi v:=rfl
@[simp] theorem stpL_slice (s:Nat) (c:COd) (l h:Option COd):stpL L (.slice d s c l h)=putO L d (sliR (fnL L) s (rd (fnL L) c) (l.map (rd (fnL L))) (h.map (rd (fnL L))) (lenV (fnL L) (rd (fnL L) c))):=by
 refine (putO_eq L _).trans ?_
 simp only[dOf,pval]
 cases lenV (fnL L) (rd (fnL L) c) with
 | none=>rfl
 | some n =>
  simp only[Option.bind_some,sliR,bnd_eq]
  cases bndV 0 (l.map (rd (fnL L))) with
  | none=>rfl
  | some lo =>
   cases bndV n (h.map (rd (fnL L))) with
   | none=>rfl
   | some hi=>rfl
def aggR:Option (List AU)→Option AU
 | some cs=>if noOwnL cs=true then some (.agg cs) else none
 | none=>none
@[simp] theorem aggR_some (cs:List AU):aggR (some cs)=if noOwnL cs=true then some (.agg cs) else none:=rfl
@[simp] theorem stpL_build (zs:List AU) (ps:List (Nat × Nat × COd)):stpL L (.build d zs ps)=putO L d (aggR (fillU zs (ps.map fun p=>(p.1,p.2.1,rdC (fnL L) p.2.2)))):=by
 refine (putO_eq L _).trans ?_
 simp only[dOf,pval]
 cases fillU zs (ps.map fun p=>(p.1,p.2.1,rdC (fnL L) p.2.2))<;>rfl
def mkV (s bytes:Nat)(zs:List AU):AU→AU→Option AU
 | .sc (.int _ a),.sc (.int _ b)=>if 0≤a∧a≤b∧bytes * b.toNat≤281474976710656∧b≤9223372036854775807 then some (.sl true () s a.toNat (repL zs a.toNat)) else none
 | _,_=>none
@[simp] theorem mkV_i (s bytes:Nat) (zs:List AU) (k k':IntKind) (a b:Int):mkV s bytes zs (.sc (.int k a)) (.sc (.int k' b))=if 0≤a∧a≤b∧bytes * b.toNat≤281474976710656∧b≤9223372036854775807 then some (.sl true () s a.toNat (repL zs a.toNat)) else none:=rfl
@[simp] theorem stpL_make (s b:Nat) (zs:List AU) (l c:COd):stpL L (.make d s b zs l c)=putO L d (mkV s b zs (rd (fnL L) l) (rd (fnL L) c)):=by
 refine (putO_eq L _).trans ?_
 simp only[dOf,pval,mkV]
 rfl
def strR:Option (List AU)→Option AU
 | some cs=>(u8L cs).map fun ns=>.sc (.string (b2s ns))
 | none=>none
@[simp] theorem strR_some (cs:List AU):strR (some cs)=(u8L cs).map fun ns=>.sc (.string (b2s ns)):=rfl
@[simp] theorem stpL_b2s (c:COd):stpL L (.b2s d c)=putO L d (strR (cellsV (fnL L) 1 (rd (fnL L) c))):=by
 refine (putO_eq L _).trans ?_
 simp only[dOf,pval]
 cases cellsV (fnL L) 1 (rd (fnL L) c)<;>rfl
@[simp] theorem stpL_bs0 (s:Nat):stpL L (.bs0 d s)=some (setL L (100 * d) (.sl true () s 0 [])):=rfl
@[simp] theorem stpL_asg (c:COd):stpL L (.asg d c)=if ownRaw (fnL L) c=true then asgS L d c else putO L d (nown (rd (fnL L) c)):=by
 simp only[stpL,putVS,putO,nown]
 split
 ·rfl
 ·split<;>rfl
@[simp] theorem stpL_st (n:Nat) (a v:COd):stpL L (.st n a v)=stS L n a v:=rfl
@[simp] theorem stpL_ext (n i:Nat):stpL L (.ext d n i)=extS L d n i:=rfl
@[simp] theorem stpL_box (c:COd):stpL L (.box d c)=boxS L d c:=rfl
@[simp] theorem stpL_alloc (zs:List AU):stpL L (.alloc d zs)=allocS L d zs:=rfl
@[simp] theorem stpL_bs1 (s:Nat) (c:COd):stpL L (.bs1 d s c)=bsS L d s c:=rfl
@[simp] theorem stpL_app (s b:Nat) (x y:COd):stpL L (.app d s b x y)=if plainX (fnL L) s y=true then appS L d s b x y else appOS L d s b x y:=rfl
end
-- without projections: the kernel's arithmetic stops at terms with variables
@[simp] theorem filtL_nil (dead:List Nat):filtL dead []=[]:=rfl
@[simp] theorem filtB_nil (dead:List Nat):filtB dead []=[]:=rfl
@[simp] theorem filtL_cons (dead:List Nat) (k g:Nat) (v:AU) (l:SL):filtL dead ((k,g,v) :: l)=if keepE dead k=true then (k,g,v) :: filtL dead l else filtL dead l:=by rw[filtL]
@[simp] theorem filtB_cons (rs:List Nat) (k g:Nat) (v:AU) (l:SL):filtB rs ((k,g,v) :: l)=if keepB rs k=true then (k,g,v) :: filtB rs l else filtB rs l:=by rw[filtB]
attribute [simp] skipL dOf rd rdK ldV fnL_nil_app fnL_cons_app setL updL clrL gathL tkLS takeVS finBL boxM boxM.boxN boxE_eq nx AV.isNode AV.isNon AV.parts? noOwn noOwnL flat treeV Value.oneCell' scBin scUn scMx faddrV iaddrV ldCells lenV szAt getN AV.cells? AV.withCells setN sureP sliceV H RS keepE handB sortK insK rootsS roots rootsL genL initL argsL ghL cellsGL resAS finG ownRaw ownQ AV.own? cellsU setR fillU nown
@[simp] theorem rng2:List.range 2=[0,1]:=rfl
@[simp] theorem rng3:List.range 3=[0,1,2]:=rfl
@[simp] theorem rng4:List.range 4=[0,1,2,3]:=rfl
@[simp] theorem rng5:List.range 5=[0,1,2,3,4]:=rfl
@[simp] theorem rng6:List.range 6=[0,1,2,3,4,5]:=rfl
@[simp] theorem rng7:List.range 7=[0,1,2,3,4,5,6]:=rfl
@[simp] theorem rng8:List.range 8=[0,1,2,3,4,5,6,7]:=rfl
@[simp] theorem rng9:List.range 9=[0,1,2,3,4,5,6,7,8]:=rfl
@[simp] theorem rng10:List.range 10=[0,1,2,3,4,5,6,7,8,9]:=rfl
@[simp] theorem rng11:List.range 11=[0,1,2,3,4,5,6,7,8,9,10]:=rfl
@[simp] theorem rng12:List.range 12=[0,1,2,3,4,5,6,7,8,9,10,11]:=rfl
@[simp] theorem rng13:List.range 13=[0,1,2,3,4,5,6,7,8,9,10,11,12]:=rfl
@[simp] theorem one_le_sub (a b:Nat):(1≤a - b)=(b < a):=by
 rw[eq_iff_iff];omega
@[simp] theorem take1_drop {α:Type} {l:List α} {i:Nat} (h:i < l.length):List.take 1 (List.drop i l)=[l[i]]:=by
 rw[List.drop_eq_getElem_cons h];rfl
@[simp] theorem take1_drop_map {α β:Type} {f:α→β} {l:List α} {i:Nat} (h:i < l.length):List.take 1 (List.drop i (List.map f l))=[f l[i]]:=by
 rw[take1_drop (by simpa using h)];simp
-- the cases of what is taken
@[simp] theorem tkS_view (L:SL) (k g off len h:Nat) (p:List Nat):tkS L (.view k g p off len) h=if (fnL L k).1=g∧k ≠ 100 * h then
   match getN (fnL L k).2 p with
   | some (.sl true _ sz _ cs)=>if ownQ (fnL L k).2 p=true then some (setL (setL L k (setN (fnL L k).2 p .dead)) (100 * h) (.sl true () sz len ((cs.drop off).take (len * sz)))) else none
   | some (.sl false _ sz _ cs)=>some (setL L (100 * h) (.sl false () sz len ((cs.drop off).take (len * sz))))
   | _=>none
  else none:=rfl
@[simp] theorem tkS_sc (L:SL) (v:Value) (h:Nat):tkS L (.sc v) h=some (setL L (100 * h) (.sc v)):=rfl
@[simp] theorem tkS_slf (L:SL) (u:Unit) (sz n h:Nat) (cs:List AU):tkS L (.sl false u sz n cs) h=some (setL L (100 * h) (.sl false u sz n cs)):=rfl
@[simp] theorem tkS_sl0 (L:SL) (u:Unit) (sz h:Nat):tkS L (.sl true u sz 0 []) h=some (setL L (100 * h) (.sl true () sz 0 [])):=rfl
@[simp] theorem tkS_bptr (L:SL) (b g i h:Nat):tkS L (.bptr b g i) h=some (setL L (100 * h) (.bptr b g i)):=rfl
@[simp] theorem tkS_vptr (L:SL) (u:Unit) (h:Nat) (cs:List AU):tkS L (.vptr u cs) h=some (setL L (100 * h) (.vptr u cs)):=rfl
@[simp] theorem tkS_ptr (L:SL) (k g i h:Nat) (p:List Nat):tkS L (.ptr k g p i) h=if (fnL L k).1=g∧i=0∧k ≠ 100 * h then
   match getN (fnL L k).2 p with
   | some (.bx true _ cs)=>if ownQ (fnL L k).2 p=true then some (setL (setL L k (setN (fnL L k).2 p .dead)) (100 * h) (.bx true () cs)) else none
   | _=>none
  else none:=rfl
def takeR (L:SL)(n:Nat):AU→Option SL
 | .agg vs=>if noOwnL vs then takeVS L (.agg vs) else some (setL (setL L (100 * H) (.agg vs)) (100 * n) .non)
 | .tuple _=>none
 | _=>takeVS L (rd (fnL L) (.t n))
@[simp] theorem takeR_agg (L:SL) (n:Nat) (vs:List AU):takeR L n (.agg vs)=if noOwnL vs then takeVS L (.agg vs) else some (setL (setL L (100 * H) (.agg vs)) (100 * n) .non):=rfl
@[simp] theorem takeR_sc (L:SL) (n:Nat) (v:Value):takeR L n (.sc v)=takeVS L (rd (fnL L) (.t n)):=rfl
@[simp] theorem takeR_sl (L:SL) (n:Nat) (o:Bool) (u:Unit) (s m:Nat) (cs:List AU):takeR L n (.sl o u s m cs)=takeVS L (rd (fnL L) (.t n)):=rfl
@[simp] theorem takeR_bx (L:SL) (n:Nat) (o:Bool) (u:Unit) (cs:List AU):takeR L n (.bx o u cs)=takeVS L (rd (fnL L) (.t n)):=rfl
@[simp] theorem takeR_view (L:SL) (n k g off len:Nat) (p:List Nat):takeR L n (.view k g p off len)=takeVS L (rd (fnL L) (.t n)):=rfl
@[simp] theorem takeR_ptr (L:SL) (n k g i:Nat) (p:List Nat):takeR L n (.ptr k g p i)=takeVS L (rd (fnL L) (.t n)):=rfl
@[simp] theorem takeR_bptr (L:SL) (n b g i:Nat):takeR L n (.bptr b g i)=takeVS L (rd (fnL L) (.t n)):=rfl
@[simp] theorem takeR_vptr (L:SL) (n:Nat) (u:Unit) (cs:List AU):takeR L n (.vptr u cs)=takeVS L (rd (fnL L) (.t n)):=rfl
@[simp] theorem takeCS_t (L:SL) (n:Nat):takeCS L (.t n)=if flat (rd (fnL L) (.t n))=true then takeR L n (fnL L (100 * n)).2 else none:=by
 simp only[takeCS]
 generalize hv:(fnL L (100 * n)).2=v
 cases v<;>rfl
@[simp] theorem takeCS_c (L:SL) (v:AU):takeCS L (.c v)=if flat v=true then takeVS L v else none:=rfl
@[simp] theorem put1S_b (L:SL) (b g i h:Nat):put1S L (.bptr b g i) h=if (fnL L (100 * b+99)).1=g∧i < 98∧(fnL L (100 * b+1+i)).2.isNon=false∧treeV (fnL L (100 * h)).2=true then
   some (setL (setL L (100 * b+1+i) (fnL L (100 * h)).2) (100 * h) .non) else none:=rfl
def putP (L:SL)(k h:Nat)(p:List Nat):Option AU→Option SL
 | some u=>some (setL (if u.isNode then setL L k (setN (fnL L k).2 p (fnL L (100 * h)).2) else updL L k (setN (fnL L k).2 p (fnL L (100 * h)).2)) (100 * h) .non)
 | none=>none
@[simp] theorem putP_some (L:SL) (k h:Nat) (p:List Nat) (u:AU):putP L k h p (some u)=some (setL (if u.isNode then setL L k (setN (fnL L k).2 p (fnL L (100 * h)).2) else updL L k (setN (fnL L k).2 p (fnL L (100 * h)).2)) (100 * h) .non):=rfl
@[simp] theorem put1S_p (L:SL) (k g i h:Nat) (p:List Nat):put1S L (.ptr k g p i) h=if (fnL L k).1=g∧k ≠ 100 * h∧treeV (fnL L (100 * h)).2=true∧ownQ (fnL L k).2 (p ++ [i])=true then putP L k h (p ++ [i]) (getN (fnL L k).2 (p ++ [i])) else none:=by
 simp only[put1S,putP]
 rfl
@[simp] theorem putAS_nil (L:SL) (a:AU) (i:Nat):putAS L a i []=some L:=rfl
@[simp] theorem putAS_cons (L:SL) (a:AU) (i:Nat) (c:AU) (cs:List AU):putAS L a i (c :: cs)=(put1S (setL (setL L (100 * H) (.agg (List.replicate (i+1) .dead ++ cs))) (100 * (H+1)) c) (shiftA i a) (H+1)).bind fun X2=>putAS X2 a (i+1) cs:=rfl
@[simp] theorem shiftA_b (i b g j:Nat):shiftA i (.bptr b g j)=.bptr b g (j+i):=rfl
@[simp] theorem shiftA_p (i k g j:Nat) (p:List Nat):shiftA i (.ptr k g p j)=.ptr k g p (j+i):=rfl
def stH (L:SL)(n:Nat)(a:COd):AU→Option SL
 | .agg vs=>if vs.length=n∧n ≠ 0 then (putAS L (rd (fnL L) a) 0 vs).map fun X2=>setL X2 (100 * H) .non else none
 | _=>if n=1 then put1S L (rd (fnL L) a) H else none
@[simp] theorem stH_agg (L:SL) (n:Nat) (a:COd) (vs:List AU):stH L n a (.agg vs)=if vs.length=n∧n ≠ 0 then (putAS L (rd (fnL L) a) 0 vs).map fun X2=>setL X2 (100 * H) .non else none:=rfl
@[simp] theorem stH_sc (L:SL) (n:Nat) (a:COd) (v:Value):stH L n a (.sc v)=if n=1 then put1S L (rd (fnL L) a) H else none:=rfl
@[simp] theorem stH_sl (L:SL) (n:Nat) (a:COd) (o:Bool) (u:Unit) (s m:Nat) (cs:List AU):stH L n a (.sl o u s m cs)=if n=1 then put1S L (rd (fnL L) a) H else none:=rfl
@[simp] theorem stH_bx (L:SL) (n:Nat) (a:COd) (o:Bool) (u:Unit) (cs:List AU):stH L n a (.bx o u cs)=if n=1 then put1S L (rd (fnL L) a) H else none:=rfl
def stT (n:Nat)(a:COd):Option SL→Option SL
 | some X1=>stH X1 n a (fnL X1 (100 * H)).2
 | none=>none
@[simp] theorem stT_some (n:Nat) (a:COd) (L:SL):stT n a (some L)=stH L n a (fnL L (100 * H)).2:=rfl
@[simp] theorem stS_eq (L:SL) (n:Nat) (a v:COd):stS L n a v=stT n a (takeCS L v):=by
 simp only[stS]
 cases takeCS L v with
 | none=>rfl
 | some X =>
  simp only[Option.bind_some,stT]
  generalize (fnL X (100 * H)).2=v
  cases v<;>rfl
def exV (L:SL)(d n i:Nat):AU→Option SL
 | .tuple vs=>match vs[i]? with
  | some c=>if d ≠ n then some (setL (setL L (100 * n) (.tuple (vs.set i .dead))) (100 * d) c) else none
  | none=>none
 | _=>none
@[simp] theorem exV_t (L:SL) (d n i:Nat) (vs:List AU):exV L d n i (.tuple vs)=match vs[i]? with
  | some c=>if d ≠ n then some (setL (setL L (100 * n) (.tuple (vs.set i .dead))) (100 * d) c) else none
  | none=>none:=rfl
@[simp] theorem extS_eq (L:SL) (d n i:Nat):extS L d n i=exV L d n i (fnL L (100 * n)).2:=by
 simp only[extS,exV]
 rfl
def bxH (L:SL)(d:Nat):AU→Option SL
 | .agg vs=>if vs.length≤98∧vs.all treeV=true then some (finBL (boxM d vs L) d ((fnL L (100 * d+99)).1+1)) else none
 | v=>if treeV v=true then some (finBL (boxM d [v] L) d ((fnL L (100 * d+99)).1+1)) else none
@[simp] theorem bxH_agg (L:SL) (d:Nat) (vs:List AU):bxH L d (.agg vs)=if vs.length≤98∧vs.all treeV=true then some (finBL (boxM d vs L) d ((fnL L (100 * d+99)).1+1)) else none:=rfl
@[simp] theorem bxH_sc (L:SL) (d:Nat) (v:Value):bxH L d (.sc v)=if treeV (.sc v:AU)=true then some (finBL (boxM d [.sc v] L) d ((fnL L (100 * d+99)).1+1)) else none:=rfl
@[simp] theorem bxH_sl (L:SL) (d:Nat) (o:Bool) (u:Unit) (s m:Nat) (cs:List AU):bxH L d (.sl o u s m cs)=some (finBL (boxM d [.sl o u s m cs] L) d ((fnL L (100 * d+99)).1+1)):=by simp[bxH,treeV]
def bxT (d:Nat):Option SL→Option SL
 | some X1=>bxH X1 d (fnL X1 (100 * H)).2
 | none=>none
@[simp] theorem bxT_some (d:Nat) (L:SL):bxT d (some L)=bxH L d (fnL L (100 * H)).2:=rfl
@[simp] theorem boxS_eq (L:SL) (d:Nat) (c:COd):boxS L d c=bxT d (takeCS L c):=by
 simp only[boxS]
 cases takeCS L c with
 | none=>rfl
 | some X =>
  simp only[Option.bind_some,bxT]
  generalize (fnL X (100 * H)).2=v
  cases v<;>rfl
@[simp] theorem allocS_eq (L:SL) (d:Nat) (zs:List AU):allocS L d zs=if zs.length≤98 then some (finBL (boxM d zs (setL L (100 * H) (.agg zs))) d ((fnL L (100 * d+99)).1+1)) else none:=rfl
def bsH (L:SL)(d s:Nat):AU→Option SL
 | .agg vs=>if vs.length=s∧vs.all treeV=true then some (setL (setL L (100 * d) (.sl true () s 1 vs)) (100 * H) .non) else none
 | v=>if s=1∧treeV v=true then some (setL (setL L (100 * d) (.sl true () s 1 [v])) (100 * H) .non) else none
@[simp] theorem bsH_agg (L:SL) (d s:Nat) (vs:List AU):bsH L d s (.agg vs)=if vs.length=s∧vs.all treeV=true then some (setL (setL L (100 * d) (.sl true () s 1 vs)) (100 * H) .non) else none:=rfl
@[simp] theorem bsH_sc (L:SL) (d s:Nat) (v:Value):bsH L d s (.sc v)=if s=1∧treeV (.sc v:AU)=true then some (setL (setL L (100 * d) (.sl true () s 1 [.sc v])) (100 * H) .non) else none:=rfl
@[simp] theorem bsH_sl (L:SL) (d s:Nat) (o:Bool) (u:Unit) (s' m:Nat) (cs:List AU):bsH L d s (.sl o u s' m cs)=if s=1 then some (setL (setL L (100 * d) (.sl true () s 1 [.sl o u s' m cs])) (100 * H) .non) else none:=by simp[bsH,treeV]
@[simp] theorem bsH_bx (L:SL) (d s:Nat) (o:Bool) (u:Unit) (cs:List AU):bsH L d s (.bx o u cs)=if s=1 then some (setL (setL L (100 * d) (.sl true () s 1 [.bx o u cs])) (100 * H) .non) else none:=by simp[bsH,treeV]
def bsT (d s:Nat):Option SL→Option SL
 | some X1=>bsH X1 d s (fnL X1 (100 * H)).2
 | none=>none
@[simp] theorem bsT_some (d s:Nat) (L:SL):bsT d s (some L)=bsH L d s (fnL L (100 * H)).2:=rfl
@[simp] theorem bsS_eq (L:SL) (d s:Nat) (c:COd):bsS L d s c=bsT d s (takeCS L c):=by
 simp only[bsS]
 cases takeCS L c with
 | none=>rfl
 | some X =>
  simp only[Option.bind_some,bsT]
  generalize (fnL X (100 * H)).2=v
  cases v<;>rfl
def asT (d:Nat):Option SL→Option SL
 | some X1=>some (setL (setL X1 (100 * d) (fnL X1 (100 * H)).2) (100 * H) .non)
 | none=>none
@[simp] theorem asT_some (d:Nat) (L:SL):asT d (some L)=some (setL (setL L (100 * d) (fnL L (100 * H)).2) (100 * H) .non):=rfl
@[simp] theorem asgS_eq (L:SL) (d:Nat) (c:COd):asgS L d c=asT d (takeCS L c):=by
 simp only[asgS]
 cases takeCS L c<;>rfl
def apH (L:SL)(d s bytes:Nat)(news:List AU):AU→Option SL
 | .sl true _ s' n cs=>if s'=s∧(n+news.length / s) * bytes≤140737488355328∧n+news.length / s≤maxLen then
     some (setL (setL (setL L (100 * H) (fnL L (100 * H)).2) (100 * d) (.sl true () s (n+news.length / s) (cs ++ news))) (100 * H) .non) else none
 | _=>none
@[simp] theorem apH_sl (L:SL) (d s bytes:Nat) (news:List AU) (u:Unit) (s' n:Nat) (cs:List AU):apH L d s bytes news (.sl true u s' n cs)=if s'=s∧(n+news.length / s) * bytes≤140737488355328∧n+news.length / s≤maxLen then
     some (setL (setL (setL L (100 * H) (fnL L (100 * H)).2) (100 * d) (.sl true () s (n+news.length / s) (cs ++ news))) (100 * H) .non) else none:=rfl
def apT (d s bytes:Nat)(news:List AU):Option SL→Option SL
 | some X1=>apH X1 d s bytes news (fnL X1 (100 * H)).2
 | none=>none
@[simp] theorem apT_some (d s bytes:Nat) (news:List AU) (L:SL):apT d s bytes news (some L)=apH L d s bytes news (fnL L (100 * H)).2:=rfl
def apN (L:SL)(d s bytes:Nat)(cx:COd):Option (List AU)→Option SL
 | some news=>if news.all plainC=true then apT d s bytes news (takeCS L cx) else none
 | none=>none
@[simp] theorem apN_some (L:SL) (d s bytes:Nat) (cx:COd) (news:List AU):apN L d s bytes cx (some news)=if news.all plainC=true then apT d s bytes news (takeCS L cx) else none:=rfl
@[simp] theorem appS_eq (L:SL) (d s bytes:Nat) (cx cy:COd):appS L d s bytes cx cy=apN L d s bytes cx (cellsV (fnL L) s (rd (fnL L) cy)):=by
 simp only[appS]
 cases cellsV (fnL L) s (rd (fnL L) cy) with
 | none=>rfl
 | some news =>
  simp only[Option.bind_some,apN]
  split
  ·cases takeCS L cx with
   | none=>rfl
   | some X =>
    simp only[Option.bind_some,apT,apH]
    rfl
  ·rfl
-- what is kept
def finR (L:SL)(dead:List Nat):Option SL:=if (rootsS L).all (keepE dead)=true then some (genL (rootsS L) (filtB (rootsS L) L)) else none
@[simp] theorem finR_eq (L:SL) (dead:List Nat):finR L dead=if (rootsS L).all (keepE dead)=true then some (genL (rootsS L) (filtB (rootsS L) L)) else none:=rfl
@[simp] theorem finL_eq (dead:List Nat) (L:SL):finL dead L=finR (sortK (filtL dead L)) dead:=rfl
-- what is given back
@[simp] theorem resS1_t (L:SL) (n:Nat):resS1 L (.t n)=takeCS L (.t n):=rfl
def rsC (L:SL)(ag:Bool):Option (List AU)→Option SL
 | some cs=>if flat (if ag=true then AV.agg cs else cs.getD 0 .non)=true∧noOwn (if ag=true then AV.agg cs else cs.getD 0 .non)=true then takeVS L (if ag=true then AV.agg cs else cs.getD 0 .non) else none
 | none=>none
@[simp] theorem rsC_some (L:SL) (ag:Bool) (cs:List AU):rsC L ag (some cs)=if flat (if ag=true then AV.agg cs else cs.getD 0 .non)=true∧noOwn (if ag=true then AV.agg cs else cs.getD 0 .non)=true then takeVS L (if ag=true then AV.agg cs else cs.getD 0 .non) else none:=rfl
@[simp] theorem resS1_c (L:SL) (a n:Nat) (ag:Bool):resS1 L (.cell a n ag)=rsC L ag (ldCells (fnL L) (rd (fnL L) (.t a)) n):=by
 simp only[resS1]
 cases ldCells (fnL L) (rd (fnL L) (.t a)) n<;>rfl
def rsX (k:Nat):Option SL→Option SL
 | some X=>some (if k=1 then setL (setL X (100 * RS) (fnL X (100 * (RS+1))).2) (100 * (RS+1)) .non
  else clrL (setL X (100 * RS) (.tuple (gathL X (RS+1) k))) (RS+1) k)
 | none=>none
@[simp] theorem rsX_some (k:Nat) (X:SL):rsX k (some X)=some (if k=1 then setL (setL X (100 * RS) (fnL X (100 * (RS+1))).2) (100 * (RS+1)) .non
  else clrL (setL X (100 * RS) (.tuple (gathL X (RS+1) k))) (RS+1) k):=rfl
@[simp] theorem resXS_eq (L:SL) (rs:List CRV):resXS L rs=rsX rs.length (resAS L 0 rs):=by
 simp only[resXS]
 cases resAS L 0 rs<;>rfl
attribute [simp] RetOk
-- drawn regions
def dR (p ex:Bool)(ft:List Nat)(d:Nat):Option SL→Option (SL × List Nat × List Nat)
 | some L1=>if p=true then (if (roots (fnL L1 (100 * d)).2).all (fun r=>!handB r)=true then some (L1,ft,[2 * d]) else none)
  else if okR (dropH L1)=true∧ex=true then some (dropH L1,ft,ft) else none
 | none=>none
@[simp] theorem dR_pure (ex:Bool) (ft:List Nat) (d:Nat) (L1:SL):dR true ex ft d (some L1)=if (roots (fnL L1 (100 * d)).2).all (fun r=>!handB r)=true then some (L1,ft,[2 * d]) else none:=rfl
@[simp] theorem dR_hand (ex:Bool) (ft:List Nat) (d:Nat) (L1:SL):dR false ex ft d (some L1)=if okR (dropH L1)=true∧ex=true then some (dropH L1,ft,ft) else none:=rfl
@[simp] theorem stpD_eq (L:SL) (c:COp):stpD L c=dR (isPure L c) (extra L c) (foot (fnL L) c) (dOf c) (stpL L c):=by
 simp only[stpD]
 cases stpL L c<;>rfl
def dF (fs:Fs):Option (SL × List Nat × List Nat)→Option (SL × Fs)
 | some p=>some (p.1,p.2 :: fs)
 | none=>none
@[simp] theorem dF_some (fs:Fs) (L:SL) (a b:List Nat):dF fs (some (L,a,b))=some (L,(a,b) :: fs):=rfl
@[simp] theorem stpDO_some (L:SL) (fs:Fs) (c:COp):stpDO (some (L,fs)) c=dF fs (stpD L c):=by
 simp only[stpDO]
 cases stpD L c<;>rfl
@[simp] theorem stpDGO_some (t:Nat) (w:Bool) (L:SL) (fs:Fs) (c:COp):stpDGO t w (some (L,fs)) c=dF fs (stpDG t w L c (gv w (fnL L (100 * t)).2)):=by
 simp only[stpDGO]
 cases stpDG t w L c (gv w (fnL L (100 * t)).2)<;>rfl
def dT (t:Nat):Option (SL × List Nat × List Nat)→Option (SL × List Nat × List Nat)
 | some p=>some (p.1,2 * t :: p.2.1,p.2.2)
 | none=>none
@[simp] theorem dT_some (t:Nat) (L:SL) (a b:List Nat):dT t (some (L,a,b))=some (L,2 * t :: a,b):=rfl
@[simp] theorem stpDG_true (t:Nat) (w:Bool) (L:SL) (c:COp):stpDG t w L c (some true)=dT t (stpD L c):=by
 simp only[stpDG]
 cases stpD L c<;>rfl
def skD (t:Nat)(L:SL):COp→Option (SL × List Nat × List Nat)
 | .st _ _ _=>some (L,[2 * t],[])
 | c=>some (setL L (100 * dOf c) (.sc undef),[2 * t,2 * dOf c],[2 * dOf c])
@[simp] theorem stpDG_false (t:Nat) (w:Bool) (L:SL) (c:COp):stpDG t w L c (some false)=skD t L c:=by
 cases c<;>rfl
@[simp] theorem runD_nil (r:Option (SL × Fs)):runD [] r=r:=rfl
@[simp] theorem runD_cons (c:COp) (l:List COp) (r:Option (SL × Fs)):runD (c :: l) r=runD l (stpDO r c):=rfl
@[simp] theorem runDG_nil (t:Nat) (w:Bool) (r:Option (SL × Fs)):runDG t w [] r=r:=rfl
@[simp] theorem runDG_cons (t:Nat) (w:Bool) (c:COp) (l:List COp) (r:Option (SL × Fs)):runDG t w (c :: l) r=runDG t w l (stpDGO t w r c):=rfl
@[simp] theorem runDS_nil (r:Option (SL × Fs)):runDS [] r=r:=rfl
@[simp] theorem runDS_o (l:List COp) (s:List Sg) (r:Option (SL × Fs)):runDS (.o l :: s) r=runDS s (runD l r):=rfl
@[simp] theorem runDS_g (t:Nat) (w:Bool) (l:List COp) (s:List Sg) (r:Option (SL × Fs)):runDS (.g t w l :: s) r=runDS s (runDG t w l r):=rfl
def exR (L:SL)(n:Nat)(a v:COd):Option SL→Bool
 | some L1=>(uO (fnL L1) a ++ bu (rd (fnL L1) a) n).all fun u=>(foot (fnL L) (.st n a v)).contains u
 | none=>false
@[simp] theorem exR_some (L:SL) (n:Nat) (a v:COd) (L1:SL):exR L n a v (some L1)=(uO (fnL L1) a ++ bu (rd (fnL L1) a) n).all fun u=>(foot (fnL L) (.st n a v)).contains u:=rfl
@[simp] theorem extra_st (L:SL) (n:Nat) (a v:COd):extra L (.st n a v)=exR L n a v (takeCS L v):=by
 simp only[extra,exR]
 cases takeCS L v<;>rfl
attribute [simp] skD isPure foot uR uO uOs uO? ru unitK dropH okR cellU bu luK luR luO luOs
end Go.OT
namespace Go.OT
section
variable (L:SL) (d:Nat)
def mkfV (f:Nat)(cs:List AU):Option AU:=if capsOk cs=true then some (.clos f cs) else none
@[simp] theorem mkfV_eq (f:Nat) (cs:List AU):mkfV f cs=if capsOk cs=true then some (.clos f cs) else none:=rfl
@[simp] theorem stpL_mkf (f:Nat) (cs:List COd):stpL L (.mkf d f cs)=putO L d (mkfV f (caps (fnL L) cs)):=putO_eq L _
def fldV (off:Nat):AU→Option AU
 | .agg cs=>(cs[off]?).bind fun u=>nown u
 | _=>none
@[simp] theorem fldV_agg (off:Nat) (cs:List AU):fldV off (.agg cs)=(cs[off]?).bind fun u=>nown u:=rfl
@[simp] theorem stpL_fld (off:Nat) (c:COd):stpL L (.fld d off c)=putO L d (fldV off (rd (fnL L) c)):=by
 refine (putO_eq L _).trans ?_
 simp only[dOf,pval]
 generalize rd (fnL L) c=v
 cases v<;>rfl
def bsnV (cs:List AU):Option AU:=if cs.all plainC=true then some (.sl true () 1 cs.length cs) else none
@[simp] theorem bsnV_eq (cs:List AU):bsnV cs=if cs.all plainC=true then some (.sl true () 1 cs.length cs) else none:=rfl
theorem caps_length (X:XF Unit):∀ cs:List COd,(caps X cs).length=cs.length
 | []=>rfl
 | _ :: cs=>by simp only[caps,List.length_cons,caps_length X cs]
@[simp] theorem stpL_bsn (cs:List COd):stpL L (.bsn d cs)=putO L d (bsnV (caps (fnL L) cs)):=by
 refine (putO_eq L _).trans ?_
 simp only[dOf,pval,bsnV,caps_length]
def bsaV (s m:Nat):Option (List AU)→Option AU
 | some l=>some (.sl true () s m l)
 | none=>none
@[simp] theorem bsaV_some (s m:Nat) (l:List AU):bsaV s m (some l)=some (.sl true () s m l):=rfl
@[simp] theorem aggF_nil (s:Nat):aggF s ([]:List AU)=some []:=rfl
@[simp] theorem aggF_cons (s:Nat) (l:List AU) (r:List AU):aggF s (.agg l :: r)=if l.length=s∧l.all plainC=true then (aggF s r).map (fun q=>l ++ q) else none:=rfl
@[simp] theorem stpL_bsa (s:Nat) (cs:List COd):stpL L (.bsa d s cs)=putO L d (bsaV s cs.length (aggF s (caps (fnL L) cs))):=by
 refine (putO_eq L _).trans ?_
 simp only[dOf,pval]
 cases aggF s (caps (fnL L) cs)<;>rfl
@[simp] theorem funV_nil (eq:Bool):funV eq (.sc .nilFunc)=some (.sc (.bool eq)):=rfl
@[simp] theorem funV_clos (eq:Bool) (f:Nat) (cs:List AU):funV eq (.clos f cs)=some (.sc (.bool (!eq))):=rfl
@[simp] theorem stpL_funq (eq:Bool) (c:COd):stpL L (.funq d eq c)=putO L d (funV eq (rd (fnL L) c)):=putO_eq L _
@[simp] theorem pnV_nil (X:XF Unit) (eq:Bool):pnV X eq (.sc (.pointer none))=some (.sc (.bool eq)):=rfl
@[simp] theorem pnV_ptr (X:XF Unit) (eq:Bool) (k g i:Nat) (p:List Nat):pnV X eq (.ptr k g p i)=if sureP X (.ptr k g p i)=true then some (.sc (.bool (!eq))) else none:=rfl
@[simp] theorem pnV_bptr (X:XF Unit) (eq:Bool) (b g i:Nat):pnV X eq (.bptr b g i)=if sureP X (.bptr b g i)=true then some (.sc (.bool (!eq))) else none:=rfl
@[simp] theorem pnV_vptr (X:XF Unit) (eq:Bool) (u:Unit) (cs:List AU):pnV X eq (.vptr u cs)=some (.sc (.bool (!eq))):=rfl
@[simp] theorem stpL_pnq (eq:Bool) (c:COd):stpL L (.pnq d eq c)=putO L d (pnV (fnL L) eq (rd (fnL L) c)):=putO_eq L _
def axV (X:XF Unit)(s n:Nat)(v:AU):AU→Option AU
 | .sc (.int _ j)=>aaddrV X s n v j
 | _=>none
@[simp] theorem axV_i (X:XF Unit) (s n:Nat) (v:AU) (k:IntKind) (j:Int):axV X s n v (.sc (.int k j))=if 0≤j∧j < n∧1 < n then faddrV X (j.toNat * s) v else none:=rfl
@[simp] theorem stpL_aaddr (s n:Nat) (c i:COd):stpL L (.aaddr d s n c i)=putO L d (axV (fnL L) s n (rd (fnL L) c) (rd (fnL L) i)):=by
 refine (putO_eq L _).trans ?_
 simp only[dOf,pval,axV]
 rfl
@[simp] theorem cvbV_sl (m g n:Nat) (u:Unit) (cs:List AU):cvbV m g (.sl true u 1 (n+1) cs)=some (.view (100 * m) g [] 0 (n+1)):=rfl
@[simp] theorem stpL_cvb (m:Nat):stpL L (.cvb d m)=putO L d (cvbV m (fnL L (100 * m)).1 (fnL L (100 * m)).2):=putO_eq L _
@[simp] theorem s2bV_s (s:ByteArray):s2bV (.sc (.string s))=if s.size≤9223372036854775807 then some (.sl true () 1 s.size (strC s)) else none:=rfl
@[simp] theorem stpL_s2b (c:COd):stpL L (.s2b d c)=putO L d (s2bV (rd (fnL L) c)):=putO_eq L _
def sslR (s:ByteArray):Option Nat→Option Nat→Option AU
 | some lo,some hi=>if lo≤hi∧hi≤s.size then some (.sc (.string (s.extract lo hi))) else none
 | _,_=>none
@[simp] theorem sslR_some (s:ByteArray) (lo hi:Nat):sslR s (some lo) (some hi)=if lo≤hi∧hi≤s.size then some (.sc (.string (s.extract lo hi))) else none:=rfl
def sslW (l h:Option AU):AU→Option AU
 | .sc (.string s)=>sslR s (bndV 0 l) (bndV s.size h)
 | _=>none
@[simp] theorem sslW_s (l h:Option AU) (s:ByteArray):sslW l h (.sc (.string s))=sslR s (bndV 0 l) (bndV s.size h):=rfl
@[simp] theorem stpL_ssl (c:COd) (l h:Option COd):stpL L (.ssl d c l h)=putO L d (sslW (l.map (rd (fnL L))) (h.map (rd (fnL L))) (rd (fnL L) c)):=by
 refine (putO_eq L _).trans ?_
 simp only[dOf,pval]
 congr 1
 generalize rd (fnL L) c=v
 unfold sslV sslW
 split
 ·rename_i s
  simp only[bnd_eq]
  cases bndV 0 (l.map (rd (fnL L))) with
  | none=>rfl
  | some lo=>cases bndV s.size (h.map (rd (fnL L)))<;>rfl
 ·rename_i hs
  split
  ·exact absurd rfl (hs _)
  ·rfl
@[simp] theorem sixV_s (s:ByteArray) (k:IntKind) (j:Int):sixV (.sc (.string s)) (.sc (.int k j))=if 0≤j then (s[j.toNat]?).map fun b=>.sc (.int .u8 b.toNat) else none:=rfl
@[simp] theorem stpL_six (c i:COd):stpL L (.six d c i)=putO L d (sixV (rd (fnL L) c) (rd (fnL L) i)):=putO_eq L _
@[simp] theorem stpL_cpy (s:Nat) (a b:COd):stpL L (.cpy d s a b)=cpVL L d s a b:=rfl
def cpN (s:Nat)(dst:AU):Option (List AU)→Option SL
 | some news=>if news.all isSc=true∧0 < s then cpDL L d s news dst else none
 | none=>none
@[simp] theorem cpN_some (s:Nat) (dst:AU) (news:List AU):cpN L d s dst (some news)=if news.all isSc=true∧0 < s then cpDL L d s news dst else none:=rfl
@[simp] theorem cpVL_eq (s:Nat) (a b:COd):cpVL L d s a b=cpN L d s (rd (fnL L) a) (cellsV (fnL L) s (rd (fnL L) b)):=by
 simp only[cpVL]
 cases cellsV (fnL L) s (rd (fnL L) b)<;>rfl
@[simp] theorem cpDL_view (s k g off n:Nat) (p:List Nat) (news:List AU):cpDL L d s news (.view k g p off n)=if (fnL L k).1=g∧k ≠ 100 * hh∧ownQ (fnL L k).2 p=true then cpKL L d k n s p news (cpT n off s news (getN (fnL L k).2 p)) else none:=rfl
@[simp] theorem cpKL_some (k n s:Nat) (p:List Nat) (news:List AU) (N:AU):cpKL L d k n s p news (some N)=some (setL (updL (setL L (100 * hh) .non) k (setN (fnL L k).2 p N)) (100 * d) (.sc (.int .i64 (min (news.length / s) n:Nat)))):=rfl
end
def aoT (L0:SL)(d s b:Nat):Option SL→Option SL
 | some X1=>apOL X1 d s b (fnL (mvHL L0) (100 * hh)).1 (fnL X1 (100 * H)).2 (fnL X1 (100 * hh)).2
 | none=>none
@[simp] theorem aoT_some (L0:SL) (d s b:Nat) (X1:SL):aoT L0 d s b (some X1)=apOL X1 d s b (fnL (mvHL L0) (100 * hh)).1 (fnL X1 (100 * H)).2 (fnL X1 (100 * hh)).2:=rfl
def aoS (d s b:Nat)(cx:COd):Option SL→Option SL
 | some X0=>if slB (fnL X0 (100 * H)).2=false then none else aoT X0 d s b (takeCS (mvHL X0) cx)
 | none=>none
@[simp] theorem aoS_some (d s b:Nat) (cx:COd) (X0:SL):aoS d s b cx (some X0)=if slB (fnL X0 (100 * H)).2=false then none else aoT X0 d s b (takeCS (mvHL X0) cx):=rfl
@[simp] theorem appOS_eq (L:SL) (d s b:Nat) (cx cy:COd):appOS L d s b cx cy=aoS d s b cx (takeCS L cy):=by
 simp only[appOS]
 cases takeCS L cy with
 | none=>rfl
 | some X0 =>
  simp only[Option.bind_some,aoS]
  split
  ·rfl
  ·cases takeCS (mvHL X0) cx<;>rfl
def plR:Option (List AU)→Bool
 | some news=>news.all plainC
 | none=>false
@[simp] theorem plR_some (news:List AU):plR (some news)=news.all plainC:=rfl
@[simp] theorem plainX_eq (X:XF Unit) (s:Nat) (c:COd):plainX X s c=plR (cellsV X s (rd X c)):=rfl
def exA (L:SL)(d s b:Nat)(x y:COd):Option SL→Bool
 | some L0=>(uO (fnL (mvHL L0)) x).all fun u=>(foot (fnL L) (.app d s b x y)).contains u
 | none=>false
@[simp] theorem exA_some (L:SL) (d s b:Nat) (x y:COd) (L0:SL):exA L d s b x y (some L0)=(uO (fnL (mvHL L0)) x).all fun u=>(foot (fnL L) (.app d s b x y)).contains u:=rfl
@[simp] theorem extra_bs1 (L:SL) (d s:Nat) (c:COd):extra L (.bs1 d s c)=true:=rfl
@[simp] theorem extra_bs0 (L:SL) (d s:Nat):extra L (.bs0 d s)=true:=rfl
@[simp] theorem extra_bsn (L:SL) (d:Nat) (cs:List COd):extra L (.bsn d cs)=true:=rfl
@[simp] theorem extra_cpy (L:SL) (d s:Nat) (a b:COd):extra L (.cpy d s a b)=true:=rfl
@[simp] theorem extra_make (L:SL) (d s b:Nat) (zs:List AU) (l c:COd):extra L (.make d s b zs l c)=true:=rfl
@[simp] theorem extra_b2s (L:SL) (d:Nat) (c:COd):extra L (.b2s d c)=true:=rfl
@[simp] theorem extra_app (L:SL) (d s b:Nat) (x y:COd):extra L (.app d s b x y)=if plainX (fnL L) s y=true then true else exA L d s b x y (takeCS L y):=by
 simp only[extra]
 split
 ·rfl
 ·cases takeCS L y<;>rfl
attribute [simp] mvHL apOL slB liveV rdC keepB
attribute [simp] caps capsOk plainC hh cpT isSc cellsV u8L trArgs trA trL keyOf lend lendL idxL lentK boxFrom sideOk ghsOk ghOk ghImm noImm noImmL opL backL nodeAfter frzL ghAt
end Go.OT
namespace Go.OT
theorem WL.count {P:Program}{nt:Nat}{L:SL}{Q:Ex→SL→Prop}{a:Cd}(N:Nat)(S:Nat→SL)(Pr:Nat→Prop)(hL:L=S 0)(h0:Pr 0)
  (h:∀ i,i≤N→Pr i→WL P nt a (S i) (Ex.thenL (fun L'=>i < N∧L'=S (i+1)∧Pr (i+1)) Q)):WL P nt (.loop a) L Q:=by
 refine WL.loop (ι:={i:Nat // i≤N∧Pr i}) (fun i=>S i.1) (fun i=>N - i.1) ⟨0,Nat.zero_le _,h0⟩ hL fun i=>?_
 refine (h i.1 i.2.1 i.2.2).mono fun e L' hq=>?_
 cases e with
 | nrm =>
  obtain⟨h1,h2,h3⟩:=hq
  exact⟨⟨i.1+1,h1,h3⟩,h2,by simp only;omega⟩
 | ext id=>exact hq
 | ret=>exact hq
theorem Ex.thenL_nrm (next:SL→Prop)(Q:Ex→SL→Prop)(L:SL):Ex.thenL next Q .nrm L=next L:=rfl
theorem Ex.thenL_ret (next:SL→Prop)(Q:Ex→SL→Prop)(L:SL):Ex.thenL next Q .ret L=Q .ret L:=rfl
theorem Ex.thenL_ext (next:SL→Prop)(Q:Ex→SL→Prop)(id:Nat)(L:SL):Ex.thenL next Q (.ext id) L=Q (.ext id) L:=rfl
theorem Ex.blkL_nrm (Q:Ex→SL→Prop)(id:Nat)(L:SL):Ex.blkL id Q .nrm L=Q .nrm L:=rfl
theorem Ex.blkL_ret (Q:Ex→SL→Prop)(id:Nat)(L:SL):Ex.blkL id Q .ret L=Q .ret L:=rfl
theorem Ex.blkL_ext (Q:Ex→SL→Prop)(id id':Nat)(L:SL):Ex.blkL id Q (.ext id') L=if id'=id then Q .nrm L else Q (.ext id') L:=rfl
attribute [simp] Ex.thenL_nrm Ex.thenL_ret Ex.thenL_ext Ex.blkL_nrm Ex.blkL_ret Ex.blkL_ext
end Go.OT
namespace Go.OT
def finO (dead:List Nat):Option SL→Option SL
 | some L=>finL dead L
 | none=>none
@[simp] theorem finO_some (dead:List Nat) (L:SL):finO dead (some L)=finR (sortK (filtL dead L)) dead:=rfl
end Go.OT
namespace Go.OT
@[simp] theorem lendL_map {α L:Type} (f:α→AV L) (l:List α):lendL (l.map f)=l.map fun x=>lend (f x):=by
 rw[lendL_eq,List.map_map];rfl
end Go.OT
