/- Part 6 of the proof: see its last file. -/
import Derived.Orders
import Derived.Below
import Derived.Laws.Entries
import Derived.Laws.Cells
import Derived.Laws.IdiomCopy
import Derived.Scope
import Derived.Calls
import Derived.Laws.Tables
import Derived.Laws.MakeOwn
import Derived.Laws.BytesString
import Derived.ArgAppend
import Derived.WalkSpells
import Derived.Lib.SlBytesConst
import Derived.Lib.ConvBytes
import Derived.WalkKit
import Derived.ProofKit
import Derived.OpenShut
import Derived.ShutString
import Derived.ChangeOld
import Derived.Lib.SmallJoins
import Derived.Test.YtlcemfnjhdcmoaaWl05
set_option linter.unusedSimpArgs false
set_option linter.unusedVariables false
namespace Go.OT
@[simp] theorem y3x (r:Option SL):z5o [] r=r:=rfl
@[simp] theorem ymq (l:List COp) (s:List Sg) (r:Option SL):z5o (.o l :: s) r=z5o s (znl l r):=rfl
@[simp] theorem ymr (t:Nat) (w:Bool) (l:List COp) (s:List Sg) (r:Option SL):z5o (.g t w l :: s) r=z5o s (znn t w l r):=rfl
@[simp] theorem yko (r:Option SL):znl [] r=r:=rfl
@[simp] theorem y3y (c:COp) (l:List COp) (r:Option SL):znl (c :: l) r=znl l (ykn r c):=rfl
@[simp] theorem ykp (t:Nat) (w:Bool) (r:Option SL):znn t w [] r=r:=rfl
@[simp] theorem y3z (t:Nat) (w:Bool) (c:COp) (l:List COp) (r:Option SL):znn t w (c :: l) r=znn t w l (znm t w r c):=rfl
@[simp] theorem y40 (L:SL) (c:COp):ykn (some L) c=z3t L c:=rfl
def yms (L:SL)(c:COp):Option Bool→Option SL
 | some true=>z3t L c
 | some false=>some (zfm L c)
 | none=>none
@[simp] theorem y27 (t:Nat) (w:Bool) (L:SL) (c:COp):znm t w (some L) c=yms L c (gv w (fnL L (100 * t)).2):=by
 simp only[znm,y3t]
 cases gv w (fnL L (100 * t)).2 with
 | none=>rfl
 | some b=>cases b<;>rfl
@[simp] theorem y41 (L:SL) (c:COp):yms L c (some true)=z3t L c:=rfl
@[simp] theorem y28 (L:SL) (c:COp):yms L c (some false)=some (zfm L c):=rfl
@[simp] theorem ymt (w b:Bool):gv w (.sc (.bool b))=some (b == w):=rfl
@[simp] theorem ykq (w:Bool) (x:Array Value):gv w (.sc (.tuple x))=some false:=rfl
@[simp] theorem y42 (w:Bool):gv w (.sc undef)=some false:=rfl
def z77 (L:SL)(d:Nat):Option AU→Option SL
 | some v=>some (z0j L (100 * d) v)
 | none=>none
@[simp] theorem y43 (L:SL) (d:Nat) (v:AU):z77 L d (some v)=some (z0j L (100 * d) v):=rfl
theorem z14 (L:SL)(c:COp):(z1n (fnL L) c).map (fun v=>z0j L (100 * dOf c) v)=z77 L (dOf c) (z1n (fnL L) c):=by
 cases z1n (fnL L) c<;>rfl
def zl0 (v:AU):Option AU:=if z0b v=true then some v else none
section
variable (L:SL) (d:Nat)
@[simp] theorem ykr (c:COd):z3t L (.mov d c)=z77 L d (zl0 (rd (fnL L) c)):=z14 L _
@[simp] theorem yks (c:COd):z3t L (.chk d c)=z77 L d (if zag (fnL L) (rd (fnL L) c)=true then some (rd (fnL L) c) else none):=z14 L _
def zwc (X:XF Unit)(a b:COd):AU→Option AU
 | .sc (.bool t)=>if t=true then zl0 (rd X a) else zl0 (rd X b)
 | _=>none
@[simp] theorem y29 (X:XF Unit) (a b:COd):zwc X a b (.sc (.bool true))=zl0 (rd X a):=rfl
@[simp] theorem zwd (X:XF Unit) (a b:COd):zwc X a b (.sc (.bool false))=zl0 (rd X b):=rfl
@[simp] theorem y44 (c a b:COd):z3t L (.pick d c a b)=z77 L d (zwc (fnL L) a b (rd (fnL L) c)):=by
 refine (z14 L _).trans ?_
 simp only[dOf,z1n]
 congr 1
 generalize rd (fnL L) c=v
 cases v with
 | sc v=>cases v with
  | bool t=>cases t<;>rfl
  | _=>rfl
 | _=>rfl
def unV (op:UnOp):AU→Option AU
 | .sc u=>(zvb op u).map fun r=>.sc r
 | _=>none
@[simp] theorem ymu (b:Bool):unV .not (.sc (.bool b))=some (.sc (.bool !b)):=rfl
@[simp] theorem ymv (k:IntKind) (n:Int):unV .neg (.sc (.int k n))=some (.sc (.int k (k.wrap (0 - n)))):=rfl
@[simp] theorem ymw (op:UnOp) (c:COd):z3t L (.un d op c)=z77 L d (unV op (rd (fnL L) c)):=by
 refine (z14 L _).trans ?_
 simp only[dOf,z1n,unV]
 rfl
def ykt (op:BinOp):AU→AU→Option AU
 | .sc u,.sc v=>(zdb op u v).map fun r=>.sc r
 | _,_=>none
@[simp] theorem yku (op:BinOp) (k k':IntKind) (a b:Int):ykt op (.sc (.int k a)) (.sc (.int k' b))=(zdb op (.int k a) (.int k' b)).map fun r=>.sc r:=rfl
@[simp] theorem ykv (op:BinOp) (a b:ByteArray):ykt op (.sc (.string a)) (.sc (.string b))=(zdb op (.string a) (.string b)).map fun r=>.sc r:=rfl
@[simp] theorem ykw (op:BinOp) (a b:COd):z3t L (.bin d op a b)=z77 L d (ykt op (rd (fnL L) a) (rd (fnL L) b)):=by
 refine (z14 L _).trans ?_
 simp only[dOf,z1n,ykt]
 rfl
def ymx (eq:Bool):AU→AU→Option AU
 | .sc (.bool u),.sc (.bool v)=>some (.sc (.bool (if eq=true then u == v else !(u == v))))
 | _,_=>none
@[simp] theorem ywt (eq u v:Bool):ymx eq (.sc (.bool u)) (.sc (.bool v))=some (.sc (.bool (if eq=true then u == v else !(u == v)))):=rfl
@[simp] theorem ykx (eq:Bool) (a b:COd):z3t L (.beq d eq a b)=z77 L d (ymx eq (rd (fnL L) a) (rd (fnL L) b)):=by
 refine (z14 L _).trans ?_
 simp only[dOf,z1n,ymx]
 rfl
def zwe (k:IntKind):AU→Option AU
 | .sc (.int _ n)=>some (.sc (.int k (k.wrap n)))
 | _=>none
@[simp] theorem ymy (k k':IntKind) (n:Int):zwe k (.sc (.int k' n))=some (.sc (.int k (k.wrap n))):=rfl
@[simp] theorem y45 (k:IntKind) (c:COd):z3t L (.conv d k c)=z77 L d (zwe k (rd (fnL L) c)):=by
 refine (z14 L _).trans ?_
 simp only[dOf,z1n,zwe]
 rfl
def mxV (mx:Bool):AU→AU→Option AU
 | .sc u,.sc v=>(zvc mx u v).map fun r=>.sc r
 | _,_=>none
@[simp] theorem ymz (mx:Bool) (k k':IntKind) (a b:Int):mxV mx (.sc (.int k a)) (.sc (.int k' b))=(zvc mx (.int k a) (.int k' b)).map fun r=>.sc r:=rfl
@[simp] theorem yn0 (mx:Bool) (a b:COd):z3t L (.mx d mx a b)=z77 L d (mxV mx (rd (fnL L) a) (rd (fnL L) b)):=by
 refine (z14 L _).trans ?_
 simp only[dOf,z1n,mxV]
 rfl
def ldR (ag:Bool):Option (List AU)→Option AU
 | some cs=>zl0 (if ag=true then AV.agg cs else cs.getD 0 .non)
 | none=>none
@[simp] theorem yky (cs:List AU):ldR true (some cs)=zl0 (.agg cs):=rfl
@[simp] theorem yn1 (c:AU):ldR false (some [c])=zl0 c:=rfl
@[simp] theorem yn2 (n:Nat) (ag:Bool) (c:COd):z3t L (.ld d n ag c)=z77 L d (ldR ag (z21 (fnL L) (rd (fnL L) c) n)):=by
 refine (z14 L _).trans ?_
 simp only[dOf,z1n]
 cases z21 (fnL L) (rd (fnL L) c) n<;>rfl
@[simp] theorem y2a (off:Nat) (c:COd):z3t L (.faddr d off c)=z77 L d (z3o (fnL L) off (rd (fnL L) c)):=z14 L _
def ixV (X:XF Unit)(s:Nat)(v:AU):AU→Option AU
 | .sc (.int _ j)=>z3p X s v j
 | _=>none
@[simp] theorem yxx (X:XF Unit) (s:Nat) (v:AU) (k:IntKind) (j:Int):ixV X s v (.sc (.int k j))=z3p X s v j:=rfl
@[simp] theorem y2b (s:Nat) (c i:COd):z3t L (.iaddr d s c i)=z77 L d (ixV (fnL L) s (rd (fnL L) c) (rd (fnL L) i)):=by
 refine (z14 L _).trans ?_
 simp only[dOf,z1n,ixV]
 rfl
def ywu:Option Nat→Option AU
 | some n=>some (.sc (.int .i64 (n:Int)))
 | none=>none
@[simp] theorem y46 (n:Nat):ywu (some n)=some (.sc (.int .i64 (n:Int))):=rfl
@[simp] theorem ykz (c:COd):z3t L (.len d c)=z77 L d (ywu (z6p (fnL L) (rd (fnL L) c))):=by
 refine (z14 L _).trans ?_
 simp only[dOf,z1n]
 cases z6p (fnL L) (rd (fnL L) c)<;>rfl
def zwf:AU→Option AU
 | .sc (.string s)=>some (.sc (.int .i64 s.size))
 | _=>none
@[simp] theorem yn3 (s:ByteArray):zwf (.sc (.string s))=some (.sc (.int .i64 s.size)):=rfl
@[simp] theorem y47 (c:COd):z3t L (.slen d c)=z77 L d (zwf (rd (fnL L) c)):=by
 refine (z14 L _).trans ?_
 simp only[dOf,z1n,zwf]
 rfl
def zhz (dflt:Nat):Option AU→Option Nat
 | none=>some dflt
 | some (.sc (.int _ j))=>if 0≤j then some j.toNat else none
 | _=>none
@[simp] theorem y48 (n:Nat):zhz n none=some n:=rfl
@[simp] theorem y49 (n:Nat) (k:IntKind) (j:Int):zhz n (some (.sc (.int k j)))=if 0≤j then some j.toNat else none:=rfl
theorem zu3 (X:XF Unit)(n:Nat)(c:Option COd):bnd X n c=zhz n (c.map (rd X)):=by
 cases c with
 | none=>rfl
 | some c =>
  simp only[bnd,Option.map_some]
  generalize rd X c=v
  cases v with
  | sc v=>cases v<;>rfl
  | _=>rfl
def yn4 (X:XF Unit)(s:Nat)(v:AU)(l:Option AU)(h:Option AU):Option Nat→Option AU
 | some n=>match zhz 0 l,zhz n h with
  | some lo,some hi=>z37 X s lo hi v
  | _,_=>none
 | none=>none
def ywv (X:XF Unit)(s:Nat)(v:AU):Option Nat→Option Nat→Option AU
 | some lo,some hi=>z37 X s lo hi v
 | _,_=>none
@[simp] theorem y4a (X:XF Unit) (s:Nat) (v:AU) (l h:Option AU) (n:Nat):yn4 X s v l h (some n)=ywv X s v (zhz 0 l) (zhz n h):=rfl
@[simp] theorem y4b (X:XF Unit) (s:Nat) (v:AU) (lo hi:Nat):ywv X s v (some lo) (some hi)=z37 X s lo hi v:=rfl
@[simp] theorem y2c (s:Nat) (c:COd) (l h:Option COd):z3t L (.slice d s c l h)=z77 L d (yn4 (fnL L) s (rd (fnL L) c) (l.map (rd (fnL L))) (h.map (rd (fnL L))) (z6p (fnL L) (rd (fnL L) c))):=by
 refine (z14 L _).trans ?_
 simp only[dOf,z1n]
 cases z6p (fnL L) (rd (fnL L) c) with
 | none=>rfl
 | some n =>
  simp only[Option.bind_some,yn4,zu3]
  cases zhz 0 (l.map (rd (fnL L))) with
  | none=>rfl
  | some lo =>
   cases zhz n (h.map (rd (fnL L))) with
   | none=>rfl
   | some hi=>rfl
def yww:Option (List AU)→Option AU
 | some cs=>if z0l cs=true then some (.agg cs) else none
 | none=>none
@[simp] theorem y4c (cs:List AU):yww (some cs)=if z0l cs=true then some (.agg cs) else none:=rfl
@[simp] theorem y2d (zs:List AU) (ps:List (Nat × Nat × COd)):z3t L (.build d zs ps)=z77 L d (yww (zc3 zs (ps.map fun p=>(p.1,p.2.1,rdC (fnL L) p.2.2)))):=by
 refine (z14 L _).trans ?_
 simp only[dOf,z1n]
 cases zc3 zs (ps.map fun p=>(p.1,p.2.1,rdC (fnL L) p.2.2))<;>rfl
def mkV (s bytes:Nat)(zs:List AU):AU→AU→Option AU
 | .sc (.int _ a),.sc (.int _ b)=>if 0≤a∧a≤b∧bytes * b.toNat≤281474976710656∧b≤9223372036854775807 then some (.sl true () s a.toNat (z8i zs a.toNat)) else none
 | _,_=>none
@[simp] theorem yxy (s bytes:Nat) (zs:List AU) (k k':IntKind) (a b:Int):mkV s bytes zs (.sc (.int k a)) (.sc (.int k' b))=if 0≤a∧a≤b∧bytes * b.toNat≤281474976710656∧b≤9223372036854775807 then some (.sl true () s a.toNat (z8i zs a.toNat)) else none:=rfl
@[simp] theorem y4d (s b:Nat) (zs:List AU) (l c:COd):z3t L (.make d s b zs l c)=z77 L d (mkV s b zs (rd (fnL L) l) (rd (fnL L) c)):=by
 refine (z14 L _).trans ?_
 simp only[dOf,z1n,mkV]
 rfl
def ywx:Option (List AU)→Option AU
 | some cs=>(u8L cs).map fun ns=>.sc (.string (b2s ns))
 | none=>none
@[simp] theorem y4e (cs:List AU):ywx (some cs)=(u8L cs).map fun ns=>.sc (.string (b2s ns)):=rfl
@[simp] theorem yl0 (c:COd):z3t L (.b2s d c)=z77 L d (ywx (z1s (fnL L) 1 (rd (fnL L) c))):=by
 refine (z14 L _).trans ?_
 simp only[dOf,z1n]
 cases z1s (fnL L) 1 (rd (fnL L) c)<;>rfl
@[simp] theorem yl1 (s:Nat):z3t L (.bs0 d s)=some (z0j L (100 * d) (.sl true () s 0 [])):=rfl
@[simp] theorem yl2 (c:COd):z3t L (.asg d c)=if z7t (fnL L) c=true then ztz L d c else z77 L d (zl0 (rd (fnL L) c)):=by
 simp only[z3t,zng,z77,zl0]
 split
 ·rfl
 ·split<;>rfl
@[simp] theorem yn5 (n:Nat) (a v:COd):z3t L (.st n a v)=stS L n a v:=rfl
@[simp] theorem yl3 (n i:Nat):z3t L (.ext d n i)=y20 L d n i:=rfl
@[simp] theorem yl4 (c:COd):z3t L (.box d c)=y21 L d c:=rfl
@[simp] theorem y2e (zs:List AU):z3t L (.alloc d zs)=zco L d zs:=rfl
@[simp] theorem yl5 (s:Nat) (c:COd):z3t L (.bs1 d s c)=bsS L d s c:=rfl
@[simp] theorem yl6 (s b:Nat) (x y:COd):z3t L (.app d s b x y)=if z6r (fnL L) s y=true then y22 L d s b x y else zkt L d s b x y:=rfl
end
-- without projections: the kernel's arithmetic stops at terms with variables
@[simp] theorem y4f (dead:List Nat):z5y dead []=[]:=rfl
@[simp] theorem y4g (dead:List Nat):z73 dead []=[]:=rfl
@[simp] theorem y2f (dead:List Nat) (k g:Nat) (v:AU) (l:SL):z5y dead ((k,g,v) :: l)=if zdn dead k=true then (k,g,v) :: z5y dead l else z5y dead l:=by rw[z5y]
@[simp] theorem y2g (rs:List Nat) (k g:Nat) (v:AU) (l:SL):z73 rs ((k,g,v) :: l)=if zhs rs k=true then (k,g,v) :: z73 rs l else z73 rs l:=by rw[z73]
attribute [simp] zfm dOf rd rdK ldV zhj zfg z0j z9k zw0 zho y1z z2z z7v zc5 zc5.boxN zvy nx AV.isNode AV.isNon AV.parts? z0b z0l zkj z0o Value.oneCell' zdb zvb zvc z3o z3p z21 z6p ztr z0m AV.cells? AV.withCells z17 zag z37 H RS zdn z2w z9l zm4 z48 roots z1g zqw zs1 zdk ghL z5h zfr zqx z7t z4g AV.own? z7r setR zc3 zl0
@[simp] theorem yzm:List.range 2=[0,1]:=rfl
@[simp] theorem yzn:List.range 3=[0,1,2]:=rfl
@[simp] theorem yzo:List.range 4=[0,1,2,3]:=rfl
@[simp] theorem yzp:List.range 5=[0,1,2,3,4]:=rfl
@[simp] theorem yzq:List.range 6=[0,1,2,3,4,5]:=rfl
@[simp] theorem yzr:List.range 7=[0,1,2,3,4,5,6]:=rfl
@[simp] theorem yzs:List.range 8=[0,1,2,3,4,5,6,7]:=rfl
@[simp] theorem yzt:List.range 9=[0,1,2,3,4,5,6,7,8]:=rfl
@[simp] theorem yxz:List.range 10=[0,1,2,3,4,5,6,7,8,9]:=rfl
@[simp] theorem yy0:List.range 11=[0,1,2,3,4,5,6,7,8,9,10]:=rfl
@[simp] theorem yy1:List.range 12=[0,1,2,3,4,5,6,7,8,9,10,11]:=rfl
@[simp] theorem yy2:List.range 13=[0,1,2,3,4,5,6,7,8,9,10,11,12]:=rfl
@[simp] theorem y2h (a b:Nat):(1≤a - b)=(b < a):=by
 rw[eq_iff_iff];omega
@[simp] theorem zl1 {α:Type} {l:List α} {i:Nat} (h:i < l.length):List.take 1 (List.drop i l)=[l[i]]:=by
 rw[List.drop_eq_getElem_cons h];rfl
@[simp] theorem zqy {α β:Type} {f:α→β} {l:List α} {i:Nat} (h:i < l.length):List.take 1 (List.drop i (List.map f l))=[f l[i]]:=by
 rw[zl1 (by simpa using h)];simp
-- the cases of what is taken
@[simp] theorem yl7 (L:SL) (k g off len h:Nat) (p:List Nat):tkS L (.view k g p off len) h=if (fnL L k).1=g∧k ≠ 100 * h then
   match z0m (fnL L k).2 p with
   | some (.sl true _ sz _ cs)=>if z4g (fnL L k).2 p=true then some (z0j (z0j L k (z17 (fnL L k).2 p .dead)) (100 * h) (.sl true () sz len ((cs.drop off).take (len * sz)))) else none
   | some (.sl false _ sz _ cs)=>some (z0j L (100 * h) (.sl false () sz len ((cs.drop off).take (len * sz))))
   | _=>none
  else none:=rfl
@[simp] theorem ywy (L:SL) (v:Value) (h:Nat):tkS L (.sc v) h=some (z0j L (100 * h) (.sc v)):=rfl
@[simp] theorem yn6 (L:SL) (u:Unit) (sz n h:Nat) (cs:List AU):tkS L (.sl false u sz n cs) h=some (z0j L (100 * h) (.sl false u sz n cs)):=rfl
@[simp] theorem yn7 (L:SL) (u:Unit) (sz h:Nat):tkS L (.sl true u sz 0 []) h=some (z0j L (100 * h) (.sl true () sz 0 [])):=rfl
@[simp] theorem yl8 (L:SL) (b g i h:Nat):tkS L (.bptr b g i) h=some (z0j L (100 * h) (.bptr b g i)):=rfl
@[simp] theorem yl9 (L:SL) (u:Unit) (h:Nat) (cs:List AU):tkS L (.vptr u cs) h=some (z0j L (100 * h) (.vptr u cs)):=rfl
@[simp] theorem yn8 (L:SL) (k g i h:Nat) (p:List Nat):tkS L (.ptr k g p i) h=if (fnL L k).1=g∧i=0∧k ≠ 100 * h then
   match z0m (fnL L k).2 p with
   | some (.bx true _ cs)=>if z4g (fnL L k).2 p=true then some (z0j (z0j L k (z17 (fnL L k).2 p .dead)) (100 * h) (.bx true () cs)) else none
   | _=>none
  else none:=rfl
def zdw (L:SL)(n:Nat):AU→Option SL
 | .agg vs=>if z0l vs then z2z L (.agg vs) else some (z0j (z0j L (100 * H) (.agg vs)) (100 * n) .non)
 | .tuple _=>none
 | _=>z2z L (rd (fnL L) (.t n))
@[simp] theorem y4h (L:SL) (n:Nat) (vs:List AU):zdw L n (.agg vs)=if z0l vs then z2z L (.agg vs) else some (z0j (z0j L (100 * H) (.agg vs)) (100 * n) .non):=rfl
@[simp] theorem yla (L:SL) (n:Nat) (v:Value):zdw L n (.sc v)=z2z L (rd (fnL L) (.t n)):=rfl
@[simp] theorem ylb (L:SL) (n:Nat) (o:Bool) (u:Unit) (s m:Nat) (cs:List AU):zdw L n (.sl o u s m cs)=z2z L (rd (fnL L) (.t n)):=rfl
@[simp] theorem ylc (L:SL) (n:Nat) (o:Bool) (u:Unit) (cs:List AU):zdw L n (.bx o u cs)=z2z L (rd (fnL L) (.t n)):=rfl
@[simp] theorem y2i (L:SL) (n k g off len:Nat) (p:List Nat):zdw L n (.view k g p off len)=z2z L (rd (fnL L) (.t n)):=rfl
@[simp] theorem y4i (L:SL) (n k g i:Nat) (p:List Nat):zdw L n (.ptr k g p i)=z2z L (rd (fnL L) (.t n)):=rfl
@[simp] theorem y2j (L:SL) (n b g i:Nat):zdw L n (.bptr b g i)=z2z L (rd (fnL L) (.t n)):=rfl
@[simp] theorem y2k (L:SL) (n:Nat) (u:Unit) (cs:List AU):zdw L n (.vptr u cs)=z2z L (rd (fnL L) (.t n)):=rfl
@[simp] theorem yld (L:SL) (n:Nat):z0x L (.t n)=if zkj (rd (fnL L) (.t n))=true then zdw L n (fnL L (100 * n)).2 else none:=by
 simp only[z0x]
 generalize hv:(fnL L (100 * n)).2=v
 cases v<;>rfl
@[simp] theorem yle (L:SL) (v:AU):z0x L (.c v)=if zkj v=true then z2z L v else none:=rfl
@[simp] theorem yn9 (L:SL) (b g i h:Nat):put1S L (.bptr b g i) h=if (fnL L (100 * b+99)).1=g∧i < 98∧(fnL L (100 * b+1+i)).2.isNon=false∧z0o (fnL L (100 * h)).2=true then
   some (z0j (z0j L (100 * b+1+i) (fnL L (100 * h)).2) (100 * h) .non) else none:=rfl
def yna (L:SL)(k h:Nat)(p:List Nat):Option AU→Option SL
 | some u=>some (z0j (if u.isNode then z0j L k (z17 (fnL L k).2 p (fnL L (100 * h)).2) else z9k L k (z17 (fnL L k).2 p (fnL L (100 * h)).2)) (100 * h) .non)
 | none=>none
@[simp] theorem y4j (L:SL) (k h:Nat) (p:List Nat) (u:AU):yna L k h p (some u)=some (z0j (if u.isNode then z0j L k (z17 (fnL L k).2 p (fnL L (100 * h)).2) else z9k L k (z17 (fnL L k).2 p (fnL L (100 * h)).2)) (100 * h) .non):=rfl
@[simp] theorem ynb (L:SL) (k g i h:Nat) (p:List Nat):put1S L (.ptr k g p i) h=if (fnL L k).1=g∧k ≠ 100 * h∧z0o (fnL L (100 * h)).2=true∧z4g (fnL L k).2 (p ++ [i])=true then yna L k h (p ++ [i]) (z0m (fnL L k).2 (p ++ [i])) else none:=by
 simp only[put1S,yna]
 rfl
@[simp] theorem y4k (L:SL) (a:AU) (i:Nat):zc6 L a i []=some L:=rfl
@[simp] theorem y2l (L:SL) (a:AU) (i:Nat) (c:AU) (cs:List AU):zc6 L a i (c :: cs)=(put1S (z0j (z0j L (100 * H) (.agg (List.replicate (i+1) .dead ++ cs))) (100 * (H+1)) c) (z2c i a) (H+1)).bind fun X2=>zc6 X2 a (i+1) cs:=rfl
@[simp] theorem ylf (i b g j:Nat):z2c i (.bptr b g j)=.bptr b g (j+i):=rfl
@[simp] theorem ylg (i k g j:Nat) (p:List Nat):z2c i (.ptr k g p j)=.ptr k g p (j+i):=rfl
def stH (L:SL)(n:Nat)(a:COd):AU→Option SL
 | .agg vs=>if vs.length=n∧n ≠ 0 then (zc6 L (rd (fnL L) a) 0 vs).map fun X2=>z0j X2 (100 * H) .non else none
 | _=>if n=1 then put1S L (rd (fnL L) a) H else none
@[simp] theorem ync (L:SL) (n:Nat) (a:COd) (vs:List AU):stH L n a (.agg vs)=if vs.length=n∧n ≠ 0 then (zc6 L (rd (fnL L) a) 0 vs).map fun X2=>z0j X2 (100 * H) .non else none:=rfl
@[simp] theorem ywz (L:SL) (n:Nat) (a:COd) (v:Value):stH L n a (.sc v)=if n=1 then put1S L (rd (fnL L) a) H else none:=rfl
@[simp] theorem yx0 (L:SL) (n:Nat) (a:COd) (o:Bool) (u:Unit) (s m:Nat) (cs:List AU):stH L n a (.sl o u s m cs)=if n=1 then put1S L (rd (fnL L) a) H else none:=rfl
@[simp] theorem yx1 (L:SL) (n:Nat) (a:COd) (o:Bool) (u:Unit) (cs:List AU):stH L n a (.bx o u cs)=if n=1 then put1S L (rd (fnL L) a) H else none:=rfl
def stT (n:Nat)(a:COd):Option SL→Option SL
 | some X1=>stH X1 n a (fnL X1 (100 * H)).2
 | none=>none
@[simp] theorem ylh (n:Nat) (a:COd) (L:SL):stT n a (some L)=stH L n a (fnL L (100 * H)).2:=rfl
@[simp] theorem yx2 (L:SL) (n:Nat) (a v:COd):stS L n a v=stT n a (z0x L v):=by
 simp only[stS]
 cases z0x L v with
 | none=>rfl
 | some X =>
  simp only[Option.bind_some,stT]
  generalize (fnL X (100 * H)).2=v
  cases v<;>rfl
def exV (L:SL)(d n i:Nat):AU→Option SL
 | .tuple vs=>match vs[i]? with
  | some c=>if d ≠ n then some (z0j (z0j L (100 * n) (.tuple (vs.set i .dead))) (100 * d) c) else none
  | none=>none
 | _=>none
@[simp] theorem yy3 (L:SL) (d n i:Nat) (vs:List AU):exV L d n i (.tuple vs)=match vs[i]? with
  | some c=>if d ≠ n then some (z0j (z0j L (100 * n) (.tuple (vs.set i .dead))) (100 * d) c) else none
  | none=>none:=rfl
@[simp] theorem ynd (L:SL) (d n i:Nat):y20 L d n i=exV L d n i (fnL L (100 * n)).2:=by
 simp only[y20,exV]
 rfl
def bxH (L:SL)(d:Nat):AU→Option SL
 | .agg vs=>if vs.length≤98∧vs.all z0o=true then some (z7v (zc5 d vs L) d ((fnL L (100 * d+99)).1+1)) else none
 | v=>if z0o v=true then some (z7v (zc5 d [v] L) d ((fnL L (100 * d+99)).1+1)) else none
@[simp] theorem yne (L:SL) (d:Nat) (vs:List AU):bxH L d (.agg vs)=if vs.length≤98∧vs.all z0o=true then some (z7v (zc5 d vs L) d ((fnL L (100 * d+99)).1+1)) else none:=rfl
@[simp] theorem yx3 (L:SL) (d:Nat) (v:Value):bxH L d (.sc v)=if z0o (.sc v:AU)=true then some (z7v (zc5 d [.sc v] L) d ((fnL L (100 * d+99)).1+1)) else none:=rfl
@[simp] theorem yx4 (L:SL) (d:Nat) (o:Bool) (u:Unit) (s m:Nat) (cs:List AU):bxH L d (.sl o u s m cs)=some (z7v (zc5 d [.sl o u s m cs] L) d ((fnL L (100 * d+99)).1+1)):=by simp[bxH,z0o]
def bxT (d:Nat):Option SL→Option SL
 | some X1=>bxH X1 d (fnL X1 (100 * H)).2
 | none=>none
@[simp] theorem yli (d:Nat) (L:SL):bxT d (some L)=bxH L d (fnL L (100 * H)).2:=rfl
@[simp] theorem ynf (L:SL) (d:Nat) (c:COd):y21 L d c=bxT d (z0x L c):=by
 simp only[y21]
 cases z0x L c with
 | none=>rfl
 | some X =>
  simp only[Option.bind_some,bxT]
  generalize (fnL X (100 * H)).2=v
  cases v<;>rfl
@[simp] theorem y4l (L:SL) (d:Nat) (zs:List AU):zco L d zs=if zs.length≤98 then some (z7v (zc5 d zs (z0j L (100 * H) (.agg zs))) d ((fnL L (100 * d+99)).1+1)) else none:=rfl
def bsH (L:SL)(d s:Nat):AU→Option SL
 | .agg vs=>if vs.length=s∧vs.all z0o=true then some (z0j (z0j L (100 * d) (.sl true () s 1 vs)) (100 * H) .non) else none
 | v=>if s=1∧z0o v=true then some (z0j (z0j L (100 * d) (.sl true () s 1 [v])) (100 * H) .non) else none
@[simp] theorem yng (L:SL) (d s:Nat) (vs:List AU):bsH L d s (.agg vs)=if vs.length=s∧vs.all z0o=true then some (z0j (z0j L (100 * d) (.sl true () s 1 vs)) (100 * H) .non) else none:=rfl
@[simp] theorem yx5 (L:SL) (d s:Nat) (v:Value):bsH L d s (.sc v)=if s=1∧z0o (.sc v:AU)=true then some (z0j (z0j L (100 * d) (.sl true () s 1 [.sc v])) (100 * H) .non) else none:=rfl
@[simp] theorem yx6 (L:SL) (d s:Nat) (o:Bool) (u:Unit) (s' m:Nat) (cs:List AU):bsH L d s (.sl o u s' m cs)=if s=1 then some (z0j (z0j L (100 * d) (.sl true () s 1 [.sl o u s' m cs])) (100 * H) .non) else none:=by simp[bsH,z0o]
@[simp] theorem yx7 (L:SL) (d s:Nat) (o:Bool) (u:Unit) (cs:List AU):bsH L d s (.bx o u cs)=if s=1 then some (z0j (z0j L (100 * d) (.sl true () s 1 [.bx o u cs])) (100 * H) .non) else none:=by simp[bsH,z0o]
def bsT (d s:Nat):Option SL→Option SL
 | some X1=>bsH X1 d s (fnL X1 (100 * H)).2
 | none=>none
@[simp] theorem ylj (d s:Nat) (L:SL):bsT d s (some L)=bsH L d s (fnL L (100 * H)).2:=rfl
@[simp] theorem yx8 (L:SL) (d s:Nat) (c:COd):bsS L d s c=bsT d s (z0x L c):=by
 simp only[bsS]
 cases z0x L c with
 | none=>rfl
 | some X =>
  simp only[Option.bind_some,bsT]
  generalize (fnL X (100 * H)).2=v
  cases v<;>rfl
def asT (d:Nat):Option SL→Option SL
 | some X1=>some (z0j (z0j X1 (100 * d) (fnL X1 (100 * H)).2) (100 * H) .non)
 | none=>none
@[simp] theorem ylk (d:Nat) (L:SL):asT d (some L)=some (z0j (z0j L (100 * d) (fnL L (100 * H)).2) (100 * H) .non):=rfl
@[simp] theorem ynh (L:SL) (d:Nat) (c:COd):ztz L d c=asT d (z0x L c):=by
 simp only[ztz]
 cases z0x L c<;>rfl
def apH (L:SL)(d s bytes:Nat)(news:List AU):AU→Option SL
 | .sl true _ s' n cs=>if s'=s∧(n+news.length / s) * bytes≤140737488355328∧n+news.length / s≤maxLen then
     some (z0j (z0j (z0j L (100 * H) (fnL L (100 * H)).2) (100 * d) (.sl true () s (n+news.length / s) (cs ++ news))) (100 * H) .non) else none
 | _=>none
@[simp] theorem yx9 (L:SL) (d s bytes:Nat) (news:List AU) (u:Unit) (s' n:Nat) (cs:List AU):apH L d s bytes news (.sl true u s' n cs)=if s'=s∧(n+news.length / s) * bytes≤140737488355328∧n+news.length / s≤maxLen then
     some (z0j (z0j (z0j L (100 * H) (fnL L (100 * H)).2) (100 * d) (.sl true () s (n+news.length / s) (cs ++ news))) (100 * H) .non) else none:=rfl
def apT (d s bytes:Nat)(news:List AU):Option SL→Option SL
 | some X1=>apH X1 d s bytes news (fnL X1 (100 * H)).2
 | none=>none
@[simp] theorem yll (d s bytes:Nat) (news:List AU) (L:SL):apT d s bytes news (some L)=apH L d s bytes news (fnL L (100 * H)).2:=rfl
def apN (L:SL)(d s bytes:Nat)(cx:COd):Option (List AU)→Option SL
 | some news=>if news.all z1k=true then apT d s bytes news (z0x L cx) else none
 | none=>none
@[simp] theorem ylm (L:SL) (d s bytes:Nat) (cx:COd) (news:List AU):apN L d s bytes cx (some news)=if news.all z1k=true then apT d s bytes news (z0x L cx) else none:=rfl
@[simp] theorem yni (L:SL) (d s bytes:Nat) (cx cy:COd):y22 L d s bytes cx cy=apN L d s bytes cx (z1s (fnL L) s (rd (fnL L) cy)):=by
 simp only[y22]
 cases z1s (fnL L) s (rd (fnL L) cy) with
 | none=>rfl
 | some news =>
  simp only[Option.bind_some,apN]
  split
  ·cases z0x L cx with
   | none=>rfl
   | some X =>
    simp only[Option.bind_some,apT,apH]
    rfl
  ·rfl
-- what is kept
def ynj (L:SL)(dead:List Nat):Option SL:=if (z48 L).all (zdn dead)=true then some (zqw (z48 L) (z73 (z48 L) L)) else none
@[simp] theorem ynk (L:SL) (dead:List Nat):ynj L dead=if (z48 L).all (zdn dead)=true then some (zqw (z48 L) (z73 (z48 L) L)) else none:=rfl
@[simp] theorem ynl (dead:List Nat) (L:SL):zni dead L=ynj (z9l (z5y dead L)) dead:=rfl
-- what is given zf0
@[simp] theorem ynm (L:SL) (n:Nat):zku L (.t n)=z0x L (.t n):=rfl
def rsC (L:SL)(ag:Bool):Option (List AU)→Option SL
 | some cs=>if zkj (if ag=true then AV.agg cs else cs.getD 0 .non)=true∧z0b (if ag=true then AV.agg cs else cs.getD 0 .non)=true then z2z L (if ag=true then AV.agg cs else cs.getD 0 .non) else none
 | none=>none
@[simp] theorem yln (L:SL) (ag:Bool) (cs:List AU):rsC L ag (some cs)=if zkj (if ag=true then AV.agg cs else cs.getD 0 .non)=true∧z0b (if ag=true then AV.agg cs else cs.getD 0 .non)=true then z2z L (if ag=true then AV.agg cs else cs.getD 0 .non) else none:=rfl
@[simp] theorem ynn (L:SL) (a n:Nat) (ag:Bool):zku L (.cell a n ag)=rsC L ag (z21 (fnL L) (rd (fnL L) (.t a)) n):=by
 simp only[zku]
 cases z21 (fnL L) (rd (fnL L) (.t a)) n<;>rfl
def rsX (k:Nat):Option SL→Option SL
 | some X=>some (if k=1 then z0j (z0j X (100 * RS) (fnL X (100 * (RS+1))).2) (100 * (RS+1)) .non
  else zw0 (z0j X (100 * RS) (.tuple (zho X (RS+1) k))) (RS+1) k)
 | none=>none
@[simp] theorem ylo (k:Nat) (X:SL):rsX k (some X)=some (if k=1 then z0j (z0j X (100 * RS) (fnL X (100 * (RS+1))).2) (100 * (RS+1)) .non
  else zw0 (z0j X (100 * RS) (.tuple (zho X (RS+1) k))) (RS+1) k):=rfl
@[simp] theorem ylp (L:SL) (rs:List CRV):znq L rs=rsX rs.length (zfr L 0 rs):=by
 simp only[znq]
 cases zfr L 0 rs<;>rfl
attribute [simp] RetOk
-- drawn regions
def dR (p ex:Bool)(ft:List Nat)(d:Nat):Option SL→Option (SL × List Nat × List Nat)
 | some L1=>if p=true then (if (roots (fnL L1 (100 * d)).2).all (fun r=>!z2w r)=true then some (L1,ft,[2 * d]) else none)
  else if okR (z7z L1)=true∧ex=true then some (z7z L1,ft,ft) else none
 | none=>none
@[simp] theorem yno (ex:Bool) (ft:List Nat) (d:Nat) (L1:SL):dR true ex ft d (some L1)=if (roots (fnL L1 (100 * d)).2).all (fun r=>!z2w r)=true then some (L1,ft,[2 * d]) else none:=rfl
@[simp] theorem ynp (ex:Bool) (ft:List Nat) (d:Nat) (L1:SL):dR false ex ft d (some L1)=if okR (z7z L1)=true∧ex=true then some (z7z L1,ft,ft) else none:=rfl
@[simp] theorem ynq (L:SL) (c:COp):zm5 L c=dR (z31 L c) (z60 L c) (z1q (fnL L) c) (dOf c) (z3t L c):=by
 simp only[zm5]
 cases z3t L c<;>rfl
def dF (fs:Fs):Option (SL × List Nat × List Nat)→Option (SL × Fs)
 | some p=>some (p.1,p.2 :: fs)
 | none=>none
@[simp] theorem ynr (fs:Fs) (L:SL) (a b:List Nat):dF fs (some (L,a,b))=some (L,(a,b) :: fs):=rfl
@[simp] theorem y2m (L:SL) (fs:Fs) (c:COp):zo7 (some (L,fs)) c=dF fs (zm5 L c):=by
 simp only[zo7]
 cases zm5 L c<;>rfl
@[simp] theorem zwg (t:Nat) (w:Bool) (L:SL) (fs:Fs) (c:COp):zfw t w (some (L,fs)) c=dF fs (z9n t w L c (gv w (fnL L (100 * t)).2)):=by
 simp only[zfw]
 cases z9n t w L c (gv w (fnL L (100 * t)).2)<;>rfl
def dT (t:Nat):Option (SL × List Nat × List Nat)→Option (SL × List Nat × List Nat)
 | some p=>some (p.1,2 * t :: p.2.1,p.2.2)
 | none=>none
@[simp] theorem yns (t:Nat) (L:SL) (a b:List Nat):dT t (some (L,a,b))=some (L,2 * t :: a,b):=rfl
@[simp] theorem y2n (t:Nat) (w:Bool) (L:SL) (c:COp):z9n t w L c (some true)=dT t (zm5 L c):=by
 simp only[z9n]
 cases zm5 L c<;>rfl
def skD (t:Nat)(L:SL):COp→Option (SL × List Nat × List Nat)
 | .st _ _ _=>some (L,[2 * t],[])
 | c=>some (z0j L (100 * dOf c) (.sc undef),[2 * t,2 * dOf c],[2 * dOf c])
@[simp] theorem zwh (t:Nat) (w:Bool) (L:SL) (c:COp):z9n t w L c (some false)=skD t L c:=by
 cases c<;>rfl
@[simp] theorem ylq (r:Option (SL × Fs)):zo8 [] r=r:=rfl
@[simp] theorem y4m (c:COp) (l:List COp) (r:Option (SL × Fs)):zo8 (c :: l) r=zo8 l (zo7 r c):=rfl
@[simp] theorem y4n (t:Nat) (w:Bool) (r:Option (SL × Fs)):zb8 t w [] r=r:=rfl
@[simp] theorem y2o (t:Nat) (w:Bool) (c:COp) (l:List COp) (r:Option (SL × Fs)):zb8 t w (c :: l) r=zb8 t w l (zfw t w r c):=rfl
@[simp] theorem y4o (r:Option (SL × Fs)):z76 [] r=r:=rfl
@[simp] theorem ynt (l:List COp) (s:List Sg) (r:Option (SL × Fs)):z76 (.o l :: s) r=z76 s (zo8 l r):=rfl
@[simp] theorem ynu (t:Nat) (w:Bool) (l:List COp) (s:List Sg) (r:Option (SL × Fs)):z76 (.g t w l :: s) r=z76 s (zb8 t w l r):=rfl
def exR (L:SL)(n:Nat)(a v:COd):Option SL→Bool
 | some L1=>(uO (fnL L1) a ++ bu (rd (fnL L1) a) n).all fun u=>(z1q (fnL L) (.st n a v)).contains u
 | none=>false
@[simp] theorem ylr (L:SL) (n:Nat) (a v:COd) (L1:SL):exR L n a v (some L1)=(uO (fnL L1) a ++ bu (rd (fnL L1) a) n).all fun u=>(z1q (fnL L) (.st n a v)).contains u:=rfl
@[simp] theorem yls (L:SL) (n:Nat) (a v:COd):z60 L (.st n a v)=exR L n a v (z0x L v):=by
 simp only[z60,exR]
 cases z0x L v<;>rfl
attribute [simp] skD z31 z1q uR uO uOs uO? ru z0z z7z okR z9m bu luK luR luO zfx
end Go.OT
namespace Go.OT
section
variable (L:SL) (d:Nat)
def yxa (f:Nat)(cs:List AU):Option AU:=if z7s cs=true then some (.clos f cs) else none
@[simp] theorem ynv (f:Nat) (cs:List AU):yxa f cs=if z7s cs=true then some (.clos f cs) else none:=rfl
@[simp] theorem ylt (f:Nat) (cs:List COd):z3t L (.mkf d f cs)=z77 L d (yxa f (caps (fnL L) cs)):=z14 L _
def yxb (off:Nat):AU→Option AU
 | .agg cs=>(cs[off]?).bind fun u=>zl0 u
 | _=>none
@[simp] theorem ylu (off:Nat) (cs:List AU):yxb off (.agg cs)=(cs[off]?).bind fun u=>zl0 u:=rfl
@[simp] theorem ylv (off:Nat) (c:COd):z3t L (.fld d off c)=z77 L d (yxb off (rd (fnL L) c)):=by
 refine (z14 L _).trans ?_
 simp only[dOf,z1n]
 generalize rd (fnL L) c=v
 cases v<;>rfl
def ynw (cs:List AU):Option AU:=if cs.all z1k=true then some (.sl true () 1 cs.length cs) else none
@[simp] theorem ynx (cs:List AU):ynw cs=if cs.all z1k=true then some (.sl true () 1 cs.length cs) else none:=rfl
theorem zbc (X:XF Unit):∀ cs:List COd,(caps X cs).length=cs.length
 | []=>rfl
 | _ :: cs=>by simp only[caps,List.length_cons,zbc X cs]
@[simp] theorem ylw (cs:List COd):z3t L (.bsn d cs)=z77 L d (ynw (caps (fnL L) cs)):=by
 refine (z14 L _).trans ?_
 simp only[dOf,z1n,ynw,zbc]
def yxc (s m:Nat):Option (List AU)→Option AU
 | some l=>some (.sl true () s m l)
 | none=>none
@[simp] theorem y4p (s m:Nat) (l:List AU):yxc s m (some l)=some (.sl true () s m l):=rfl
@[simp] theorem ylx (s:Nat):zkp s ([]:List AU)=some []:=rfl
@[simp] theorem y4q (s:Nat) (l:List AU) (r:List AU):zkp s (.agg l :: r)=if l.length=s∧l.all z1k=true then (zkp s r).map (fun q=>l ++ q) else none:=rfl
@[simp] theorem yly (s:Nat) (cs:List COd):z3t L (.bsa d s cs)=z77 L d (yxc s cs.length (zkp s (caps (fnL L) cs))):=by
 refine (z14 L _).trans ?_
 simp only[dOf,z1n]
 cases zkp s (caps (fnL L) cs)<;>rfl
@[simp] theorem ylz (eq:Bool):zrs eq (.sc .nilFunc)=some (.sc (.bool eq)):=rfl
@[simp] theorem y4r (eq:Bool) (f:Nat) (cs:List AU):zrs eq (.clos f cs)=some (.sc (.bool (!eq))):=rfl
@[simp] theorem y4s (eq:Bool) (c:COd):z3t L (.funq d eq c)=z77 L d (zrs eq (rd (fnL L) c)):=z14 L _
def axV (X:XF Unit)(s n:Nat)(v:AU):AU→Option AU
 | .sc (.int _ j)=>zcj X s n v j
 | _=>none
@[simp] theorem yy4 (X:XF Unit) (s n:Nat) (v:AU) (k:IntKind) (j:Int):axV X s n v (.sc (.int k j))=if 0≤j∧j < n∧1 < n then z3o X (j.toNat * s) v else none:=rfl
@[simp] theorem y2p (s n:Nat) (c i:COd):z3t L (.aaddr d s n c i)=z77 L d (axV (fnL L) s n (rd (fnL L) c) (rd (fnL L) i)):=by
 refine (z14 L _).trans ?_
 simp only[dOf,z1n,axV]
 rfl
@[simp] theorem yny (m g n:Nat) (u:Unit) (cs:List AU):y3l m g (.sl true u 1 (n+1) cs)=some (.view (100 * m) g [] 0 (n+1)):=rfl
@[simp] theorem ym0 (m:Nat):z3t L (.cvb d m)=z77 L d (y3l m (fnL L (100 * m)).1 (fnL L (100 * m)).2):=z14 L _
@[simp] theorem yxd (s:ByteArray):y3m (.sc (.string s))=some (.sl true () 1 s.size (y1x s)):=rfl
@[simp] theorem ym1 (c:COd):z3t L (.s2b d c)=z77 L d (y3m (rd (fnL L) c)):=z14 L _
def ynz (s:ByteArray):Option Nat→Option Nat→Option AU
 | some lo,some hi=>if lo≤hi∧hi≤s.size then some (.sc (.string (s.extract lo hi))) else none
 | _,_=>none
@[simp] theorem y4t (s:ByteArray) (lo hi:Nat):ynz s (some lo) (some hi)=if lo≤hi∧hi≤s.size then some (.sc (.string (s.extract lo hi))) else none:=rfl
def yo0 (l h:Option AU):AU→Option AU
 | .sc (.string s)=>ynz s (zhz 0 l) (zhz s.size h)
 | _=>none
@[simp] theorem yxe (l h:Option AU) (s:ByteArray):yo0 l h (.sc (.string s))=ynz s (zhz 0 l) (zhz s.size h):=rfl
@[simp] theorem ym2 (c:COd) (l h:Option COd):z3t L (.ssl d c l h)=z77 L d (yo0 (l.map (rd (fnL L))) (h.map (rd (fnL L))) (rd (fnL L) c)):=by
 refine (z14 L _).trans ?_
 simp only[dOf,z1n]
 congr 1
 generalize rd (fnL L) c=v
 unfold y3n yo0
 split
 ·rename_i s
  simp only[zu3]
  cases zhz 0 (l.map (rd (fnL L))) with
  | none=>rfl
  | some lo=>cases zhz s.size (h.map (rd (fnL L)))<;>rfl
 ·rename_i hs
  split
  ·exact absurd rfl (hs _)
  ·rfl
@[simp] theorem yxf (s:ByteArray) (k:IntKind) (j:Int):y3o (.sc (.string s)) (.sc (.int k j))=if 0≤j then (s[j.toNat]?).map fun b=>.sc (.int .u8 b.toNat) else none:=rfl
@[simp] theorem ym3 (c i:COd):z3t L (.six d c i)=z77 L d (y3o (rd (fnL L) c) (rd (fnL L) i)):=z14 L _
@[simp] theorem ym4 (s:Nat) (a b:COd):z3t L (.cpy d s a b)=y25 L d s a b:=rfl
def cpN (s:Nat)(dst:AU):Option (List AU)→Option SL
 | some news=>if news.all zj5=true∧0 < s then y24 L d s news dst else none
 | none=>none
@[simp] theorem ym5 (s:Nat) (dst:AU) (news:List AU):cpN L d s dst (some news)=if news.all zj5=true∧0 < s then y24 L d s news dst else none:=rfl
@[simp] theorem yo1 (s:Nat) (a b:COd):y25 L d s a b=cpN L d s (rd (fnL L) a) (z1s (fnL L) s (rd (fnL L) b)):=by
 simp only[y25]
 cases z1s (fnL L) s (rd (fnL L) b)<;>rfl
@[simp] theorem y4u (s k g off n:Nat) (p:List Nat) (news:List AU):y24 L d s news (.view k g p off n)=if (fnL L k).1=g∧k ≠ 100 * hh∧z4g (fnL L k).2 p=true then ykm L d k n s p news (cpT n off s news (z0m (fnL L k).2 p)) else none:=rfl
@[simp] theorem y4v (k n s:Nat) (p:List Nat) (news:List AU) (N:AU):ykm L d k n s p news (some N)=some (z0j (z9k (z0j L (100 * hh) .non) k (z17 (fnL L k).2 p N)) (100 * d) (.sc (.int .i64 (min (news.length / s) n:Nat)))):=rfl
end
def aoT (L0:SL)(d s b:Nat):Option SL→Option SL
 | some X1=>y23 X1 d s b (fnL (zks L0) (100 * hh)).1 (fnL X1 (100 * H)).2 (fnL X1 (100 * hh)).2
 | none=>none
@[simp] theorem ym6 (L0:SL) (d s b:Nat) (X1:SL):aoT L0 d s b (some X1)=y23 X1 d s b (fnL (zks L0) (100 * hh)).1 (fnL X1 (100 * H)).2 (fnL X1 (100 * hh)).2:=rfl
def aoS (d s b:Nat)(cx:COd):Option SL→Option SL
 | some X0=>if slB (fnL X0 (100 * H)).2=false then none else aoT X0 d s b (z0x (zks X0) cx)
 | none=>none
@[simp] theorem ym7 (d s b:Nat) (cx:COd) (X0:SL):aoS d s b cx (some X0)=if slB (fnL X0 (100 * H)).2=false then none else aoT X0 d s b (z0x (zks X0) cx):=rfl
@[simp] theorem ym8 (L:SL) (d s b:Nat) (cx cy:COd):zkt L d s b cx cy=aoS d s b cx (z0x L cy):=by
 simp only[zkt]
 cases z0x L cy with
 | none=>rfl
 | some X0 =>
  simp only[Option.bind_some,aoS]
  split
  ·rfl
  ·cases z0x (zks X0) cx<;>rfl
def plR:Option (List AU)→Bool
 | some news=>news.all z1k
 | none=>false
@[simp] theorem ym9 (news:List AU):plR (some news)=news.all z1k:=rfl
@[simp] theorem y4w (X:XF Unit) (s:Nat) (c:COd):z6r X s c=plR (z1s X s (rd X c)):=rfl
def exA (L:SL)(d s b:Nat)(x y:COd):Option SL→Bool
 | some L0=>(uO (fnL (zks L0)) x).all fun u=>(z1q (fnL L) (.app d s b x y)).contains u
 | none=>false
@[simp] theorem yma (L:SL) (d s b:Nat) (x y:COd) (L0:SL):exA L d s b x y (some L0)=(uO (fnL (zks L0)) x).all fun u=>(z1q (fnL L) (.app d s b x y)).contains u:=rfl
@[simp] theorem y4x (L:SL) (d s:Nat) (c:COd):z60 L (.bs1 d s c)=true:=rfl
@[simp] theorem y4y (L:SL) (d s:Nat):z60 L (.bs0 d s)=true:=rfl
@[simp] theorem y4z (L:SL) (d:Nat) (cs:List COd):z60 L (.bsn d cs)=true:=rfl
@[simp] theorem y50 (L:SL) (d s:Nat) (a b:COd):z60 L (.cpy d s a b)=true:=rfl
@[simp] theorem y2q (L:SL) (d s b:Nat) (zs:List AU) (l c:COd):z60 L (.make d s b zs l c)=true:=rfl
@[simp] theorem y51 (L:SL) (d:Nat) (c:COd):z60 L (.b2s d c)=true:=rfl
@[simp] theorem y52 (L:SL) (d s b:Nat) (x y:COd):z60 L (.app d s b x y)=if z6r (fnL L) s y=true then true else exA L d s b x y (z0x L y):=by
 simp only[z60]
 split
 ·rfl
 ·cases z0x L y<;>rfl
attribute [simp] zks y23 slB z70 rdC zhs
attribute [simp] caps z7s z1k hh cpT zj5 z1s u8L z15 trA trL zmo z1r z18 ztu z9i z0v z1a z6l zvl z5c z0y z1y opL z5g z3q y3v z9j
end Go.OT
namespace Go.OT
theorem WL.count {P:Program}{nt:Nat}{L:SL}{Q:Ex→SL→Prop}{a:Cd}(N:Nat)(S:Nat→SL)(Pr:Nat→Prop)(hL:L=S 0)(h0:Pr 0)
  (h:∀ i,i≤N→Pr i→WL P nt a (S i) (Ex.thenL (fun L'=>i < N∧L'=S (i+1)∧Pr (i+1)) Q)):WL P nt (.loop a) L Q:=by
 refine WL.loop (ι:={i:Nat // i≤N∧Pr i}) (fun i=>S i.1) (fun i=>N - i.1) ⟨0,Nat.zero_le _,h0⟩ hL fun i=>?_
 refine (h i.1 i.2.1 i.2.2).mono fun e L' hq=>?_
 cases e with
 | nrm =>
  obtain⟨h1,h2,h3⟩:=hq
  exact⟨⟨i.1+1,h1,h3⟩,h2,by simp only;omega⟩
 | ext id=>exact hq
 | ret=>exact hq
theorem Ex.thenL_nrm (next:SL→Prop)(Q:Ex→SL→Prop)(L:SL):Ex.thenL next Q .nrm L=next L:=rfl
theorem Ex.thenL_ret (next:SL→Prop)(Q:Ex→SL→Prop)(L:SL):Ex.thenL next Q .ret L=Q .ret L:=rfl
theorem Ex.thenL_ext (next:SL→Prop)(Q:Ex→SL→Prop)(id:Nat)(L:SL):Ex.thenL next Q (.ext id) L=Q (.ext id) L:=rfl
theorem Ex.blkL_nrm (Q:Ex→SL→Prop)(id:Nat)(L:SL):Ex.blkL id Q .nrm L=Q .nrm L:=rfl
theorem Ex.blkL_ret (Q:Ex→SL→Prop)(id:Nat)(L:SL):Ex.blkL id Q .ret L=Q .ret L:=rfl
theorem Ex.blkL_ext (Q:Ex→SL→Prop)(id id':Nat)(L:SL):Ex.blkL id Q (.ext id') L=if id'=id then Q .nrm L else Q (.ext id') L:=rfl
attribute [simp] Ex.thenL_nrm Ex.thenL_ret Ex.thenL_ext Ex.blkL_nrm Ex.blkL_ret Ex.blkL_ext
end Go.OT
namespace Go.OT
def yo2 (dead:List Nat):Option SL→Option SL
 | some L=>zni dead L
 | none=>none
@[simp] theorem y53 (dead:List Nat) (L:SL):yo2 dead (some L)=ynj (z9l (z5y dead L)) dead:=rfl
theorem WL.regEq {P:Program}{nt:Nat}{L L':SL}{dead:List Nat}{segs:List Sg}(h:yo2 dead (z5o segs (some L))=some L'):WL P nt (.reg dead segs) L fun e L1=>e=.nrm∧L1=L':=by
 cases hr:z5o segs (some L) with
 | none=>rw [hr] at h;cases h
 | some L1=>rw [hr] at h;exact WL.reg (RL.run hr ⟨L',h,rfl,rfl⟩)
theorem WL.ifEq {P:Program}{nt:Nat}{L:SL}{Q:Ex→SL→Prop}{dead:List Nat}{segs:List Sg}{c:COd}{a y:Cd}(b:Bool)(L':SL)(h:yo2 dead (z5o segs (some L))=some L')(hb:rd (fnL L') c=.sc (.bool b))(ht:b=true→WL P nt a L' Q)(hf:b=false→WL P nt y L' Q) :
  WL P nt (.seq (.reg dead segs) (.cond c a y)) L Q :=
 WL.join L' (WL.regEq h) (WL.cond hb ht hf)
end Go.OT
namespace Go.OT
@[simp] theorem y54 {α L:Type} (f:α→AV L) (l:List α):z18 (l.map f)=l.map fun x=>z1r (f x):=by
 rw[z4m,List.map_map];rfl
end Go.OT
