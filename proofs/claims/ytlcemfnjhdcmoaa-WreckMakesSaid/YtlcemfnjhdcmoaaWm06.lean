/- Part 6 of the proof: see its last file. -/
import Derived.Test.YtlcemfnjhdcmoaaWm05
set_option linter.unusedSimpArgs false
set_option linter.unusedVariables false
namespace Go.OT
@[simp] theorem y58 (r:Option SL):z5s [] r=r:=rfl
@[simp] theorem yoq (l:List COp) (s:List Sg) (r:Option SL):z5s (.o l :: s) r=z5s s (znj l r):=rfl
@[simp] theorem yor (t:Nat) (w:Bool) (l:List COp) (s:List Sg) (r:Option SL):z5s (.g t w l :: s) r=z5s s (znl t w l r):=rfl
@[simp] theorem ymn (r:Option SL):znj [] r=r:=rfl
@[simp] theorem y59 (c:COp) (l:List COp) (r:Option SL):znj (c :: l) r=znj l (ymm r c):=rfl
@[simp] theorem ymo (t:Nat) (w:Bool) (r:Option SL):znl t w [] r=r:=rfl
@[simp] theorem y5a (t:Nat) (w:Bool) (c:COp) (l:List COp) (r:Option SL):znl t w (c :: l) r=znl t w l (znk t w r c):=rfl
@[simp] theorem y5b (L:SL) (c:COp):ymm (some L) c=z3u L c:=rfl
def yos (L:SL)(c:COp):Option Bool→Option SL
 | some true=>z3u L c
 | some false=>some (zfl L c)
 | none=>none
@[simp] theorem y3e (t:Nat) (w:Bool) (L:SL) (c:COp):znk t w (some L) c=yos L c (gv w (fnL L (100 * t)).2):=by
 simp only[znk,y54]
 cases gv w (fnL L (100 * t)).2 with
 | none=>rfl
 | some b=>cases b<;>rfl
@[simp] theorem y5c (L:SL) (c:COp):yos L c (some true)=z3u L c:=rfl
@[simp] theorem y3f (L:SL) (c:COp):yos L c (some false)=some (zfl L c):=rfl
@[simp] theorem yot (w b:Bool):gv w (.sc (.bool b))=some (b == w):=rfl
@[simp] theorem ymp (w:Bool) (x:Array Value):gv w (.sc (.tuple x))=some false:=rfl
@[simp] theorem y5d (w:Bool):gv w (.sc undef)=some false:=rfl
def z7c (L:SL)(d:Nat):Option AU→Option SL
 | some v=>some (z0k L (100 * d) v)
 | none=>none
@[simp] theorem y5e (L:SL) (d:Nat) (v:AU):z7c L d (some v)=some (z0k L (100 * d) v):=rfl
theorem z14 (L:SL)(c:COp):(z1n (fnL L) c).map (fun v=>z0k L (100 * dOf c) v)=z7c L (dOf c) (z1n (fnL L) c):=by
 cases z1n (fnL L) c<;>rfl
def zl0 (v:AU):Option AU:=if z0b v=true then some v else none
section
variable (L:SL) (d:Nat)
@[simp] theorem ymq (c:COd):z3u L (.mov d c)=z7c L d (zl0 (rd (fnL L) c)):=z14 L _
@[simp] theorem ymr (c:COd):z3u L (.chk d c)=z7c L d (if za7 (fnL L) (rd (fnL L) c)=true then some (rd (fnL L) c) else none):=z14 L _
def zwk (X:XF Unit)(a b:COd):AU→Option AU
 | .sc (.bool t)=>if t=true then zl0 (rd X a) else zl0 (rd X b)
 | _=>none
@[simp] theorem y3g (X:XF Unit) (a b:COd):zwk X a b (.sc (.bool true))=zl0 (rd X a):=rfl
@[simp] theorem zwl (X:XF Unit) (a b:COd):zwk X a b (.sc (.bool false))=zl0 (rd X b):=rfl
@[simp] theorem y5f (c a b:COd):z3u L (.pick d c a b)=z7c L d (zwk (fnL L) a b (rd (fnL L) c)):=by
 refine (z14 L _).trans ?_
 simp only[dOf,z1n]
 congr 1
 generalize rd (fnL L) c=v
 cases v with
 | sc v=>cases v with
  | bool t=>cases t<;>rfl
  | _=>rfl
 | _=>rfl
def unV (op:UnOp):AU→Option AU
 | .sc u=>(zvj op u).map fun r=>.sc r
 | _=>none
@[simp] theorem you (b:Bool):unV .not (.sc (.bool b))=some (.sc (.bool !b)):=rfl
@[simp] theorem yov (k:IntKind) (n:Int):unV .neg (.sc (.int k n))=some (.sc (.int k (k.wrap (0 - n)))):=rfl
@[simp] theorem yow (op:UnOp) (c:COd):z3u L (.un d op c)=z7c L d (unV op (rd (fnL L) c)):=by
 refine (z14 L _).trans ?_
 simp only[dOf,z1n,unV]
 rfl
def yms (op:BinOp):AU→AU→Option AU
 | .sc u,.sc v=>(zd9 op u v).map fun r=>.sc r
 | _,_=>none
@[simp] theorem ymt (op:BinOp) (k k':IntKind) (a b:Int):yms op (.sc (.int k a)) (.sc (.int k' b))=(zd9 op (.int k a) (.int k' b)).map fun r=>.sc r:=rfl
@[simp] theorem ymu (op:BinOp) (a b:ByteArray):yms op (.sc (.string a)) (.sc (.string b))=(zd9 op (.string a) (.string b)).map fun r=>.sc r:=rfl
@[simp] theorem ymv (op:BinOp) (a b:COd):z3u L (.bin d op a b)=z7c L d (yms op (rd (fnL L) a) (rd (fnL L) b)):=by
 refine (z14 L _).trans ?_
 simp only[dOf,z1n,yms]
 rfl
def yox (eq:Bool):AU→AU→Option AU
 | .sc (.bool u),.sc (.bool v)=>some (.sc (.bool (if eq=true then u == v else !(u == v))))
 | _,_=>none
@[simp] theorem yzi (eq u v:Bool):yox eq (.sc (.bool u)) (.sc (.bool v))=some (.sc (.bool (if eq=true then u == v else !(u == v)))):=rfl
@[simp] theorem ymw (eq:Bool) (a b:COd):z3u L (.beq d eq a b)=z7c L d (yox eq (rd (fnL L) a) (rd (fnL L) b)):=by
 refine (z14 L _).trans ?_
 simp only[dOf,z1n,yox]
 rfl
def zwm (k:IntKind):AU→Option AU
 | .sc (.int _ n)=>some (.sc (.int k (k.wrap n)))
 | _=>none
@[simp] theorem yoy (k k':IntKind) (n:Int):zwm k (.sc (.int k' n))=some (.sc (.int k (k.wrap n))):=rfl
@[simp] theorem y5g (k:IntKind) (c:COd):z3u L (.conv d k c)=z7c L d (zwm k (rd (fnL L) c)):=by
 refine (z14 L _).trans ?_
 simp only[dOf,z1n,zwm]
 rfl
def mxV (mx:Bool):AU→AU→Option AU
 | .sc u,.sc v=>(zvk mx u v).map fun r=>.sc r
 | _,_=>none
@[simp] theorem yoz (mx:Bool) (k k':IntKind) (a b:Int):mxV mx (.sc (.int k a)) (.sc (.int k' b))=(zvk mx (.int k a) (.int k' b)).map fun r=>.sc r:=rfl
@[simp] theorem yp0 (mx:Bool) (a b:COd):z3u L (.mx d mx a b)=z7c L d (mxV mx (rd (fnL L) a) (rd (fnL L) b)):=by
 refine (z14 L _).trans ?_
 simp only[dOf,z1n,mxV]
 rfl
def ldR (ag:Bool):Option (List AU)→Option AU
 | some cs=>zl0 (if ag=true then AV.agg cs else cs.getD 0 .non)
 | none=>none
@[simp] theorem ymx (cs:List AU):ldR true (some cs)=zl0 (.agg cs):=rfl
@[simp] theorem yp1 (c:AU):ldR false (some [c])=zl0 c:=rfl
@[simp] theorem yp2 (n:Nat) (ag:Bool) (c:COd):z3u L (.ld d n ag c)=z7c L d (ldR ag (z23 (fnL L) (rd (fnL L) c) n)):=by
 refine (z14 L _).trans ?_
 simp only[dOf,z1n]
 cases z23 (fnL L) (rd (fnL L) c) n<;>rfl
@[simp] theorem y3h (off:Nat) (c:COd):z3u L (.faddr d off c)=z7c L d (z3o (fnL L) off (rd (fnL L) c)):=z14 L _
def ixV (X:XF Unit)(s:Nat)(v:AU):AU→Option AU
 | .sc (.int _ j)=>z3p X s v j
 | _=>none
@[simp] theorem x0o (X:XF Unit) (s:Nat) (v:AU) (k:IntKind) (j:Int):ixV X s v (.sc (.int k j))=z3p X s v j:=rfl
@[simp] theorem y3i (s:Nat) (c i:COd):z3u L (.iaddr d s c i)=z7c L d (ixV (fnL L) s (rd (fnL L) c) (rd (fnL L) i)):=by
 refine (z14 L _).trans ?_
 simp only[dOf,z1n,ixV]
 rfl
def yzj:Option Nat→Option AU
 | some n=>some (.sc (.int .i64 (n:Int)))
 | none=>none
@[simp] theorem y5h (n:Nat):yzj (some n)=some (.sc (.int .i64 (n:Int))):=rfl
@[simp] theorem ymy (c:COd):z3u L (.len d c)=z7c L d (yzj (z6w (fnL L) (rd (fnL L) c))):=by
 refine (z14 L _).trans ?_
 simp only[dOf,z1n]
 cases z6w (fnL L) (rd (fnL L) c)<;>rfl
def zwn:AU→Option AU
 | .sc (.string s)=>some (.sc (.int .i64 s.size))
 | _=>none
@[simp] theorem yp3 (s:ByteArray):zwn (.sc (.string s))=some (.sc (.int .i64 s.size)):=rfl
@[simp] theorem y5i (c:COd):z3u L (.slen d c)=z7c L d (zwn (rd (fnL L) c)):=by
 refine (z14 L _).trans ?_
 simp only[dOf,z1n,zwn]
 rfl
def zhu (dflt:Nat):Option AU→Option Nat
 | none=>some dflt
 | some (.sc (.int _ j))=>if 0≤j then some j.toNat else none
 | _=>none
@[simp] theorem y5j (n:Nat):zhu n none=some n:=rfl
@[simp] theorem y5k (n:Nat) (k:IntKind) (j:Int):zhu n (some (.sc (.int k j)))=if 0≤j then some j.toNat else none:=rfl
theorem zu8 (X:XF Unit)(n:Nat)(c:Option COd):bnd X n c=zhu n (c.map (rd X)):=by
 cases c with
 | none=>rfl
 | some c =>
  simp only[bnd,qd]
  generalize rd X c=v
  cases v with
  | sc v=>cases v<;>rfl
  | _=>rfl
def yp4 (X:XF Unit)(s:Nat)(v:AU)(l:Option AU)(h:Option AU):Option Nat→Option AU
 | some n=>match zhu 0 l,zhu n h with
  | some lo,some hi=>z39 X s lo hi v
  | _,_=>none
 | none=>none
def yzk (X:XF Unit)(s:Nat)(v:AU):Option Nat→Option Nat→Option AU
 | some lo,some hi=>z39 X s lo hi v
 | _,_=>none
@[simp] theorem y5l (X:XF Unit) (s:Nat) (v:AU) (l h:Option AU) (n:Nat):yp4 X s v l h (some n)=yzk X s v (zhu 0 l) (zhu n h):=rfl
@[simp] theorem y5m (X:XF Unit) (s:Nat) (v:AU) (lo hi:Nat):yzk X s v (some lo) (some hi)=z39 X s lo hi v:=rfl
@[simp] theorem y3j (s:Nat) (c:COd) (l h:Option COd):z3u L (.slice d s c l h)=z7c L d (yp4 (fnL L) s (rd (fnL L) c) (l.map (rd (fnL L))) (h.map (rd (fnL L))) (z6w (fnL L) (rd (fnL L) c))):=by
 refine (z14 L _).trans ?_
 simp only[dOf,z1n]
 cases z6w (fnL L) (rd (fnL L) c) with
 | none=>rfl
 | some n =>
  simp only[pt,yp4,zu8]
  cases zhu 0 (l.map (rd (fnL L))) with
  | none=>rfl
  | some lo =>
   cases zhu n (h.map (rd (fnL L))) with
   | none=>rfl
   | some hi=>rfl
def yzl:Option (List AU)→Option AU
 | some cs=>if z0m cs=true then some (.agg cs) else none
 | none=>none
@[simp] theorem y5n (cs:List AU):yzl (some cs)=if z0m cs=true then some (.agg cs) else none:=rfl
@[simp] theorem y3k (zs:List AU) (ps:List (Nat × Nat × COd)):z3u L (.build d zs ps)=z7c L d (yzl (zby zs (ps.map fun p=>(p.1,p.2.1,rdC (fnL L) p.2.2)))):=by
 refine (z14 L _).trans ?_
 simp only[dOf,z1n]
 cases zby zs (ps.map fun p=>(p.1,p.2.1,rdC (fnL L) p.2.2))<;>rfl
def mkV (s bytes:Nat)(zs:List AU):AU→AU→Option AU
 | .sc (.int _ a),.sc (.int _ b)=>if 0≤a∧a≤b∧bytes * b.toNat≤281474976710656∧b≤9223372036854775807 then some (.sl true () s a.toNat (z8k zs a.toNat)) else none
 | _,_=>none
@[simp] theorem x0p (s bytes:Nat) (zs:List AU) (k k':IntKind) (a b:Int):mkV s bytes zs (.sc (.int k a)) (.sc (.int k' b))=if 0≤a∧a≤b∧bytes * b.toNat≤281474976710656∧b≤9223372036854775807 then some (.sl true () s a.toNat (z8k zs a.toNat)) else none:=rfl
@[simp] theorem y5o (s b:Nat) (zs:List AU) (l c:COd):z3u L (.make d s b zs l c)=z7c L d (mkV s b zs (rd (fnL L) l) (rd (fnL L) c)):=by
 refine (z14 L _).trans ?_
 simp only[dOf,z1n,mkV]
 rfl
def yzm:Option (List AU)→Option AU
 | some cs=>(u8L cs).map fun ns=>.sc (.string (b2s ns))
 | none=>none
@[simp] theorem y5p (cs:List AU):yzm (some cs)=(u8L cs).map fun ns=>.sc (.string (b2s ns)):=rfl
@[simp] theorem ymz (c:COd):z3u L (.b2s d c)=z7c L d (yzm (z1u (fnL L) 1 (rd (fnL L) c))):=by
 refine (z14 L _).trans ?_
 simp only[dOf,z1n]
 cases z1u (fnL L) 1 (rd (fnL L) c)<;>rfl
@[simp] theorem yn0 (s:Nat):z3u L (.bs0 d s)=some (z0k L (100 * d) (.sl true () s 0 [])):=rfl
@[simp] theorem yn1 (c:COd):z3u L (.asg d c)=if z7w (fnL L) c=true then zu4 L d c else z7c L d (zl0 (rd (fnL L) c)):=by
 simp only[z3u,zne,z7c,zl0]
 split
 ·rfl
 ·split<;>rfl
@[simp] theorem yp5 (n:Nat) (a v:COd):z3u L (.st n a v)=stS L n a v:=rfl
@[simp] theorem yn2 (n i:Nat):z3u L (.ext d n i)=y37 L d n i:=rfl
@[simp] theorem yn3 (c:COd):z3u L (.box d c)=y38 L d c:=rfl
@[simp] theorem y3l (zs:List AU):z3u L (.alloc d zs)=zcm L d zs:=rfl
@[simp] theorem yn4 (s:Nat) (c:COd):z3u L (.bs1 d s c)=bsS L d s c:=rfl
@[simp] theorem yn5 (s b:Nat) (x y:COd):z3u L (.app d s b x y)=if z6y (fnL L) s y=true then y39 L d s b x y else zkt L d s b x y:=rfl
end
-- without projections: the kernel's arithmetic stops at terms with variables
@[simp] theorem y5q (dead:List Nat):z63 dead []=[]:=rfl
@[simp] theorem y5r (dead:List Nat):z78 dead []=[]:=rfl
@[simp] theorem y3m (dead:List Nat) (k g:Nat) (v:AU) (l:SL):z63 dead ((k,g,v) :: l)=if zdl dead k=true then (k,g,v) :: z63 dead l else z63 dead l:=by rw[z63]
@[simp] theorem y3n (rs:List Nat) (k g:Nat) (v:AU) (l:SL):z78 rs ((k,g,v) :: l)=if zhn rs k=true then (k,g,v) :: z78 rs l else z78 rs l:=by rw[z78]
attribute [simp] zfl dOf rd rdK ldV zhe zff z0k z9h zw8 zhj y36 z33 z7y zc0 zc0.boxN zw6 nx AV.isNode AV.isNon AV.parts? z0b z0m zkj z0q Value.oneCell' zd9 zvj zvk z3o z3p z23 z6w ztw z0n AV.cells? AV.withCells z18 za7 z39 H RS zdl z30 z9i zm2 z4a roots z1f zqy zs2 zdi ghL z5l zfq zqz z7w z4k AV.own? z7u setR zby zl0
@[simp] theorem x2e:List.range 2=[0,1]:=rfl
@[simp] theorem x2f:List.range 3=[0,1,2]:=rfl
@[simp] theorem x2g:List.range 4=[0,1,2,3]:=rfl
@[simp] theorem x2h:List.range 5=[0,1,2,3,4]:=rfl
@[simp] theorem x2i:List.range 6=[0,1,2,3,4,5]:=rfl
@[simp] theorem x2j:List.range 7=[0,1,2,3,4,5,6]:=rfl
@[simp] theorem x2k:List.range 8=[0,1,2,3,4,5,6,7]:=rfl
@[simp] theorem x2l:List.range 9=[0,1,2,3,4,5,6,7,8]:=rfl
@[simp] theorem x0q:List.range 10=[0,1,2,3,4,5,6,7,8,9]:=rfl
@[simp] theorem x0r:List.range 11=[0,1,2,3,4,5,6,7,8,9,10]:=rfl
@[simp] theorem x0s:List.range 12=[0,1,2,3,4,5,6,7,8,9,10,11]:=rfl
@[simp] theorem x0t:List.range 13=[0,1,2,3,4,5,6,7,8,9,10,11,12]:=rfl
@[simp] theorem y3o (a b:Nat):(1≤a - b)=(b < a):=by
 rw[eq_iff_iff];omega
@[simp] theorem zl1 {α:Type} {l:List α} {i:Nat} (h:i < l.length):List.take 1 (List.drop i l)=[l[i]]:=by
 rw[qx h];rfl
@[simp] theorem zr0 {α β:Type} {f:α→β} {l:List α} {i:Nat} (h:i < l.length):List.take 1 (List.drop i (List.map f l))=[f l[i]]:=by
 rw[zl1 (by simpa using h)];simp
-- the cases of what is taken
@[simp] theorem yn6 (L:SL) (k g off len h:Nat) (p:List Nat):tkS L (.view k g p off len) h=if (fnL L k).1=g∧k ≠ 100 * h then
   match z0n (fnL L k).2 p with
   | some (.sl true _ sz _ cs)=>if z4k (fnL L k).2 p=true then some (z0k (z0k L k (z18 (fnL L k).2 p .dead)) (100 * h) (.sl true () sz len ((cs.drop off).take (len * sz)))) else none
   | some (.sl false _ sz _ cs)=>some (z0k L (100 * h) (.sl false () sz len ((cs.drop off).take (len * sz))))
   | _=>none
  else none:=rfl
@[simp] theorem yzn (L:SL) (v:Value) (h:Nat):tkS L (.sc v) h=some (z0k L (100 * h) (.sc v)):=rfl
@[simp] theorem yp6 (L:SL) (u:Unit) (sz n h:Nat) (cs:List AU):tkS L (.sl false u sz n cs) h=some (z0k L (100 * h) (.sl false u sz n cs)):=rfl
@[simp] theorem yp7 (L:SL) (u:Unit) (sz h:Nat):tkS L (.sl true u sz 0 []) h=some (z0k L (100 * h) (.sl true () sz 0 [])):=rfl
@[simp] theorem yn7 (L:SL) (b g i h:Nat):tkS L (.bptr b g i) h=some (z0k L (100 * h) (.bptr b g i)):=rfl
@[simp] theorem yn8 (L:SL) (u:Unit) (h:Nat) (cs:List AU):tkS L (.vptr u cs) h=some (z0k L (100 * h) (.vptr u cs)):=rfl
@[simp] theorem yp8 (L:SL) (k g i h:Nat) (p:List Nat):tkS L (.ptr k g p i) h=if (fnL L k).1=g∧i=0∧k ≠ 100 * h then
   match z0n (fnL L k).2 p with
   | some (.bx true _ cs)=>if z4k (fnL L k).2 p=true then some (z0k (z0k L k (z18 (fnL L k).2 p .dead)) (100 * h) (.bx true () cs)) else none
   | _=>none
  else none:=rfl
def zdu (L:SL)(n:Nat):AU→Option SL
 | .agg vs=>if z0m vs then z33 L (.agg vs) else some (z0k (z0k L (100 * H) (.agg vs)) (100 * n) .non)
 | .tuple _=>none
 | _=>z33 L (rd (fnL L) (.t n))
@[simp] theorem y5s (L:SL) (n:Nat) (vs:List AU):zdu L n (.agg vs)=if z0m vs then z33 L (.agg vs) else some (z0k (z0k L (100 * H) (.agg vs)) (100 * n) .non):=rfl
@[simp] theorem yn9 (L:SL) (n:Nat) (v:Value):zdu L n (.sc v)=z33 L (rd (fnL L) (.t n)):=rfl
@[simp] theorem yna (L:SL) (n:Nat) (o:Bool) (u:Unit) (s m:Nat) (cs:List AU):zdu L n (.sl o u s m cs)=z33 L (rd (fnL L) (.t n)):=rfl
@[simp] theorem ynb (L:SL) (n:Nat) (o:Bool) (u:Unit) (cs:List AU):zdu L n (.bx o u cs)=z33 L (rd (fnL L) (.t n)):=rfl
@[simp] theorem y3p (L:SL) (n k g off len:Nat) (p:List Nat):zdu L n (.view k g p off len)=z33 L (rd (fnL L) (.t n)):=rfl
@[simp] theorem y5t (L:SL) (n k g i:Nat) (p:List Nat):zdu L n (.ptr k g p i)=z33 L (rd (fnL L) (.t n)):=rfl
@[simp] theorem y3q (L:SL) (n b g i:Nat):zdu L n (.bptr b g i)=z33 L (rd (fnL L) (.t n)):=rfl
@[simp] theorem y3r (L:SL) (n:Nat) (u:Unit) (cs:List AU):zdu L n (.vptr u cs)=z33 L (rd (fnL L) (.t n)):=rfl
@[simp] theorem ync (L:SL) (n:Nat):z0z L (.t n)=if zkj (rd (fnL L) (.t n))=true then zdu L n (fnL L (100 * n)).2 else none:=by
 simp only[z0z]
 generalize hv:(fnL L (100 * n)).2=v
 cases v<;>rfl
@[simp] theorem ynd (L:SL) (v:AU):z0z L (.c v)=if zkj v=true then z33 L v else none:=rfl
@[simp] theorem yp9 (L:SL) (b g i h:Nat):put1S L (.bptr b g i) h=if (fnL L (100 * b+99)).1=g∧i < 98∧(fnL L (100 * b+1+i)).2.isNon=false∧z0q (fnL L (100 * h)).2=true then
   some (z0k (z0k L (100 * b+1+i) (fnL L (100 * h)).2) (100 * h) .non) else none:=rfl
def ypa (L:SL)(k h:Nat)(p:List Nat):Option AU→Option SL
 | some u=>some (z0k (if u.isNode then z0k L k (z18 (fnL L k).2 p (fnL L (100 * h)).2) else z9h L k (z18 (fnL L k).2 p (fnL L (100 * h)).2)) (100 * h) .non)
 | none=>none
@[simp] theorem y5u (L:SL) (k h:Nat) (p:List Nat) (u:AU):ypa L k h p (some u)=some (z0k (if u.isNode then z0k L k (z18 (fnL L k).2 p (fnL L (100 * h)).2) else z9h L k (z18 (fnL L k).2 p (fnL L (100 * h)).2)) (100 * h) .non):=rfl
@[simp] theorem ypb (L:SL) (k g i h:Nat) (p:List Nat):put1S L (.ptr k g p i) h=if (fnL L k).1=g∧k ≠ 100 * h∧z0q (fnL L (100 * h)).2=true∧z4k (fnL L k).2 (p ++ [i])=true then ypa L k h (p ++ [i]) (z0n (fnL L k).2 (p ++ [i])) else none:=by
 simp only[put1S,ypa]
 rfl
@[simp] theorem y5v (L:SL) (a:AU) (i:Nat):zc1 L a i []=some L:=rfl
@[simp] theorem y3s (L:SL) (a:AU) (i:Nat) (c:AU) (cs:List AU):zc1 L a i (c :: cs)=(put1S (z0k (z0k L (100 * H) (.agg (List.replicate (i+1) .dead ++ cs))) (100 * (H+1)) c) (z2h i a) (H+1)).bind fun X2=>zc1 X2 a (i+1) cs:=rfl
@[simp] theorem yne (i b g j:Nat):z2h i (.bptr b g j)=.bptr b g (j+i):=rfl
@[simp] theorem ynf (i k g j:Nat) (p:List Nat):z2h i (.ptr k g p j)=.ptr k g p (j+i):=rfl
def stH (L:SL)(n:Nat)(a:COd):AU→Option SL
 | .agg vs=>if vs.length=n∧n ≠ 0 then (zc1 L (rd (fnL L) a) 0 vs).map fun X2=>z0k X2 (100 * H) .non else none
 | _=>if n=1 then put1S L (rd (fnL L) a) H else none
@[simp] theorem ypc (L:SL) (n:Nat) (a:COd) (vs:List AU):stH L n a (.agg vs)=if vs.length=n∧n ≠ 0 then (zc1 L (rd (fnL L) a) 0 vs).map fun X2=>z0k X2 (100 * H) .non else none:=rfl
@[simp] theorem yzo (L:SL) (n:Nat) (a:COd) (v:Value):stH L n a (.sc v)=if n=1 then put1S L (rd (fnL L) a) H else none:=rfl
@[simp] theorem yzp (L:SL) (n:Nat) (a:COd) (o:Bool) (u:Unit) (s m:Nat) (cs:List AU):stH L n a (.sl o u s m cs)=if n=1 then put1S L (rd (fnL L) a) H else none:=rfl
@[simp] theorem yzq (L:SL) (n:Nat) (a:COd) (o:Bool) (u:Unit) (cs:List AU):stH L n a (.bx o u cs)=if n=1 then put1S L (rd (fnL L) a) H else none:=rfl
def stT (n:Nat)(a:COd):Option SL→Option SL
 | some X1=>stH X1 n a (fnL X1 (100 * H)).2
 | none=>none
@[simp] theorem yng (n:Nat) (a:COd) (L:SL):stT n a (some L)=stH L n a (fnL L (100 * H)).2:=rfl
@[simp] theorem yzr (L:SL) (n:Nat) (a v:COd):stS L n a v=stT n a (z0z L v):=by
 simp only[stS]
 cases z0z L v with
 | none=>rfl
 | some X =>
  simp only[pt,stT]
  generalize (fnL X (100 * H)).2=v
  cases v<;>rfl
def exV (L:SL)(d n i:Nat):AU→Option SL
 | .tuple vs=>match vs[i]? with
  | some c=>if d ≠ n then some (z0k (z0k L (100 * n) (.tuple (vs.set i .dead))) (100 * d) c) else none
  | none=>none
 | _=>none
@[simp] theorem x0u (L:SL) (d n i:Nat) (vs:List AU):exV L d n i (.tuple vs)=match vs[i]? with
  | some c=>if d ≠ n then some (z0k (z0k L (100 * n) (.tuple (vs.set i .dead))) (100 * d) c) else none
  | none=>none:=rfl
@[simp] theorem ypd (L:SL) (d n i:Nat):y37 L d n i=exV L d n i (fnL L (100 * n)).2:=by
 simp only[y37,exV]
 rfl
def bxH (L:SL)(d:Nat):AU→Option SL
 | .agg vs=>if vs.length≤98∧vs.all z0q=true then some (z7y (zc0 d vs L) d ((fnL L (100 * d+99)).1+1)) else none
 | v=>if z0q v=true then some (z7y (zc0 d [v] L) d ((fnL L (100 * d+99)).1+1)) else none
@[simp] theorem ype (L:SL) (d:Nat) (vs:List AU):bxH L d (.agg vs)=if vs.length≤98∧vs.all z0q=true then some (z7y (zc0 d vs L) d ((fnL L (100 * d+99)).1+1)) else none:=rfl
@[simp] theorem yzs (L:SL) (d:Nat) (v:Value):bxH L d (.sc v)=if z0q (.sc v:AU)=true then some (z7y (zc0 d [.sc v] L) d ((fnL L (100 * d+99)).1+1)) else none:=rfl
@[simp] theorem yzt (L:SL) (d:Nat) (o:Bool) (u:Unit) (s m:Nat) (cs:List AU):bxH L d (.sl o u s m cs)=some (z7y (zc0 d [.sl o u s m cs] L) d ((fnL L (100 * d+99)).1+1)):=by simp[bxH,z0q]
def bxT (d:Nat):Option SL→Option SL
 | some X1=>bxH X1 d (fnL X1 (100 * H)).2
 | none=>none
@[simp] theorem ynh (d:Nat) (L:SL):bxT d (some L)=bxH L d (fnL L (100 * H)).2:=rfl
@[simp] theorem ypf (L:SL) (d:Nat) (c:COd):y38 L d c=bxT d (z0z L c):=by
 simp only[y38]
 cases z0z L c with
 | none=>rfl
 | some X =>
  simp only[pt,bxT]
  generalize (fnL X (100 * H)).2=v
  cases v<;>rfl
@[simp] theorem y5w (L:SL) (d:Nat) (zs:List AU):zcm L d zs=if zs.length≤98 then some (z7y (zc0 d zs (z0k L (100 * H) (.agg zs))) d ((fnL L (100 * d+99)).1+1)) else none:=rfl
def bsH (L:SL)(d s:Nat):AU→Option SL
 | .agg vs=>if vs.length=s∧vs.all z0q=true then some (z0k (z0k L (100 * d) (.sl true () s 1 vs)) (100 * H) .non) else none
 | v=>if s=1∧z0q v=true then some (z0k (z0k L (100 * d) (.sl true () s 1 [v])) (100 * H) .non) else none
@[simp] theorem ypg (L:SL) (d s:Nat) (vs:List AU):bsH L d s (.agg vs)=if vs.length=s∧vs.all z0q=true then some (z0k (z0k L (100 * d) (.sl true () s 1 vs)) (100 * H) .non) else none:=rfl
@[simp] theorem yzu (L:SL) (d s:Nat) (v:Value):bsH L d s (.sc v)=if s=1∧z0q (.sc v:AU)=true then some (z0k (z0k L (100 * d) (.sl true () s 1 [.sc v])) (100 * H) .non) else none:=rfl
@[simp] theorem yzv (L:SL) (d s:Nat) (o:Bool) (u:Unit) (s' m:Nat) (cs:List AU):bsH L d s (.sl o u s' m cs)=if s=1 then some (z0k (z0k L (100 * d) (.sl true () s 1 [.sl o u s' m cs])) (100 * H) .non) else none:=by simp[bsH,z0q]
@[simp] theorem yzw (L:SL) (d s:Nat) (o:Bool) (u:Unit) (cs:List AU):bsH L d s (.bx o u cs)=if s=1 then some (z0k (z0k L (100 * d) (.sl true () s 1 [.bx o u cs])) (100 * H) .non) else none:=by simp[bsH,z0q]
def bsT (d s:Nat):Option SL→Option SL
 | some X1=>bsH X1 d s (fnL X1 (100 * H)).2
 | none=>none
@[simp] theorem yni (d s:Nat) (L:SL):bsT d s (some L)=bsH L d s (fnL L (100 * H)).2:=rfl
@[simp] theorem yzx (L:SL) (d s:Nat) (c:COd):bsS L d s c=bsT d s (z0z L c):=by
 simp only[bsS]
 cases z0z L c with
 | none=>rfl
 | some X =>
  simp only[pt,bsT]
  generalize (fnL X (100 * H)).2=v
  cases v<;>rfl
def asT (d:Nat):Option SL→Option SL
 | some X1=>some (z0k (z0k X1 (100 * d) (fnL X1 (100 * H)).2) (100 * H) .non)
 | none=>none
@[simp] theorem ynj (d:Nat) (L:SL):asT d (some L)=some (z0k (z0k L (100 * d) (fnL L (100 * H)).2) (100 * H) .non):=rfl
@[simp] theorem yph (L:SL) (d:Nat) (c:COd):zu4 L d c=asT d (z0z L c):=by
 simp only[zu4]
 cases z0z L c<;>rfl
def apH (L:SL)(d s bytes:Nat)(news:List AU):AU→Option SL
 | .sl true _ s' n cs=>if s'=s∧(n+news.length / s) * bytes≤140737488355328∧n+news.length / s≤maxLen then
     some (z0k (z0k (z0k L (100 * H) (fnL L (100 * H)).2) (100 * d) (.sl true () s (n+news.length / s) (cs ++ news))) (100 * H) .non) else none
 | _=>none
@[simp] theorem yzy (L:SL) (d s bytes:Nat) (news:List AU) (u:Unit) (s' n:Nat) (cs:List AU):apH L d s bytes news (.sl true u s' n cs)=if s'=s∧(n+news.length / s) * bytes≤140737488355328∧n+news.length / s≤maxLen then
     some (z0k (z0k (z0k L (100 * H) (fnL L (100 * H)).2) (100 * d) (.sl true () s (n+news.length / s) (cs ++ news))) (100 * H) .non) else none:=rfl
def apT (d s bytes:Nat)(news:List AU):Option SL→Option SL
 | some X1=>apH X1 d s bytes news (fnL X1 (100 * H)).2
 | none=>none
@[simp] theorem ynk (d s bytes:Nat) (news:List AU) (L:SL):apT d s bytes news (some L)=apH L d s bytes news (fnL L (100 * H)).2:=rfl
def apN (L:SL)(d s bytes:Nat)(cx:COd):Option (List AU)→Option SL
 | some news=>if news.all z1k=true then apT d s bytes news (z0z L cx) else none
 | none=>none
@[simp] theorem ynl (L:SL) (d s bytes:Nat) (cx:COd) (news:List AU):apN L d s bytes cx (some news)=if news.all z1k=true then apT d s bytes news (z0z L cx) else none:=rfl
@[simp] theorem ypi (L:SL) (d s bytes:Nat) (cx cy:COd):y39 L d s bytes cx cy=apN L d s bytes cx (z1u (fnL L) s (rd (fnL L) cy)):=by
 simp only[y39]
 cases z1u (fnL L) s (rd (fnL L) cy) with
 | none=>rfl
 | some news =>
  simp only[pt,apN]
  split
  ·cases z0z L cx with
   | none=>rfl
   | some X =>
    simp only[pt,apT,apH]
    rfl
  ·rfl
-- what is kept
def ypj (L:SL)(dead:List Nat):Option SL:=if (z4a L).all (zdl dead)=true then some (zqy (z4a L) (z78 (z4a L) L)) else none
@[simp] theorem ypk (L:SL) (dead:List Nat):ypj L dead=if (z4a L).all (zdl dead)=true then some (zqy (z4a L) (z78 (z4a L) L)) else none:=rfl
@[simp] theorem ypl (dead:List Nat) (L:SL):zng dead L=ypj (z9i (z63 dead L)) dead:=rfl
-- what is given zez
@[simp] theorem ypm (L:SL) (n:Nat):zku L (.t n)=z0z L (.t n):=rfl
def rsC (L:SL)(ag:Bool):Option (List AU)→Option SL
 | some cs=>if zkj (if ag=true then AV.agg cs else cs.getD 0 .non)=true∧z0b (if ag=true then AV.agg cs else cs.getD 0 .non)=true then z33 L (if ag=true then AV.agg cs else cs.getD 0 .non) else none
 | none=>none
@[simp] theorem ynm (L:SL) (ag:Bool) (cs:List AU):rsC L ag (some cs)=if zkj (if ag=true then AV.agg cs else cs.getD 0 .non)=true∧z0b (if ag=true then AV.agg cs else cs.getD 0 .non)=true then z33 L (if ag=true then AV.agg cs else cs.getD 0 .non) else none:=rfl
@[simp] theorem ypn (L:SL) (a n:Nat) (ag:Bool):zku L (.cell a n ag)=rsC L ag (z23 (fnL L) (rd (fnL L) (.t a)) n):=by
 simp only[zku]
 cases z23 (fnL L) (rd (fnL L) (.t a)) n<;>rfl
def rsX (k:Nat):Option SL→Option SL
 | some X=>some (if k=1 then z0k (z0k X (100 * RS) (fnL X (100 * (RS+1))).2) (100 * (RS+1)) .non
  else zw8 (z0k X (100 * RS) (.tuple (zhj X (RS+1) k))) (RS+1) k)
 | none=>none
@[simp] theorem ynn (k:Nat) (X:SL):rsX k (some X)=some (if k=1 then z0k (z0k X (100 * RS) (fnL X (100 * (RS+1))).2) (100 * (RS+1)) .non
  else zw8 (z0k X (100 * RS) (.tuple (zhj X (RS+1) k))) (RS+1) k):=rfl
@[simp] theorem yno (L:SL) (rs:List CRV):zno L rs=rsX rs.length (zfq L 0 rs):=by
 simp only[zno]
 cases zfq L 0 rs<;>rfl
attribute [simp] RetOk
-- drawn regions
def dR (p ex:Bool)(ft:List Nat)(d:Nat):Option SL→Option (SL × List Nat × List Nat)
 | some L1=>if p=true then (if (roots (fnL L1 (100 * d)).2).all (fun r=>!z30 r)=true then some (L1,ft,[2 * d]) else none)
  else if okR (z82 L1)=true∧ex=true then some (z82 L1,ft,ft) else none
 | none=>none
@[simp] theorem ypo (ex:Bool) (ft:List Nat) (d:Nat) (L1:SL):dR true ex ft d (some L1)=if (roots (fnL L1 (100 * d)).2).all (fun r=>!z30 r)=true then some (L1,ft,[2 * d]) else none:=rfl
@[simp] theorem ypp (ex:Bool) (ft:List Nat) (d:Nat) (L1:SL):dR false ex ft d (some L1)=if okR (z82 L1)=true∧ex=true then some (z82 L1,ft,ft) else none:=rfl
@[simp] theorem ypq (L:SL) (c:COp):zm3 L c=dR (z36 L c) (z65 L c) (z1r (fnL L) c) (dOf c) (z3u L c):=by
 simp only[zm3]
 cases z3u L c<;>rfl
def dF (fs:Fs):Option (SL × List Nat × List Nat)→Option (SL × Fs)
 | some p=>some (p.1,p.2 :: fs)
 | none=>none
@[simp] theorem ypr (fs:Fs) (L:SL) (a b:List Nat):dF fs (some (L,a,b))=some (L,(a,b) :: fs):=rfl
@[simp] theorem y3t (L:SL) (fs:Fs) (c:COp):zo5 (some (L,fs)) c=dF fs (zm3 L c):=by
 simp only[zo5]
 cases zm3 L c<;>rfl
@[simp] theorem zwo (t:Nat) (w:Bool) (L:SL) (fs:Fs) (c:COp):zfv t w (some (L,fs)) c=dF fs (z9k t w L c (gv w (fnL L (100 * t)).2)):=by
 simp only[zfv]
 cases z9k t w L c (gv w (fnL L (100 * t)).2)<;>rfl
def dT (t:Nat):Option (SL × List Nat × List Nat)→Option (SL × List Nat × List Nat)
 | some p=>some (p.1,2 * t :: p.2.1,p.2.2)
 | none=>none
@[simp] theorem yps (t:Nat) (L:SL) (a b:List Nat):dT t (some (L,a,b))=some (L,2 * t :: a,b):=rfl
@[simp] theorem y3u (t:Nat) (w:Bool) (L:SL) (c:COp):z9k t w L c (some true)=dT t (zm3 L c):=by
 simp only[z9k]
 cases zm3 L c<;>rfl
def skD (t:Nat)(L:SL):COp→Option (SL × List Nat × List Nat)
 | .st _ _ _=>some (L,[2 * t],[])
 | c=>some (z0k L (100 * dOf c) (.sc undef),[2 * t,2 * dOf c],[2 * dOf c])
@[simp] theorem zwp (t:Nat) (w:Bool) (L:SL) (c:COp):z9k t w L c (some false)=skD t L c:=by
 cases c<;>rfl
@[simp] theorem ynp (r:Option (SL × Fs)):zo6 [] r=r:=rfl
@[simp] theorem y5x (c:COp) (l:List COp) (r:Option (SL × Fs)):zo6 (c :: l) r=zo6 l (zo5 r c):=rfl
@[simp] theorem y5y (t:Nat) (w:Bool) (r:Option (SL × Fs)):zaz t w [] r=r:=rfl
@[simp] theorem y3v (t:Nat) (w:Bool) (c:COp) (l:List COp) (r:Option (SL × Fs)):zaz t w (c :: l) r=zaz t w l (zfv t w r c):=rfl
@[simp] theorem y5z (r:Option (SL × Fs)):z7b [] r=r:=rfl
@[simp] theorem ypt (l:List COp) (s:List Sg) (r:Option (SL × Fs)):z7b (.o l :: s) r=z7b s (zo6 l r):=rfl
@[simp] theorem ypu (t:Nat) (w:Bool) (l:List COp) (s:List Sg) (r:Option (SL × Fs)):z7b (.g t w l :: s) r=z7b s (zaz t w l r):=rfl
def exR (L:SL)(n:Nat)(a v:COd):Option SL→Bool
 | some L1=>(uO (fnL L1) a ++ bu (rd (fnL L1) a) n).all fun u=>(z1r (fnL L) (.st n a v)).contains u
 | none=>false
@[simp] theorem ynq (L:SL) (n:Nat) (a v:COd) (L1:SL):exR L n a v (some L1)=(uO (fnL L1) a ++ bu (rd (fnL L1) a) n).all fun u=>(z1r (fnL L) (.st n a v)).contains u:=rfl
@[simp] theorem ynr (L:SL) (n:Nat) (a v:COd):z65 L (.st n a v)=exR L n a v (z0z L v):=by
 simp only[z65,exR]
 cases z0z L v<;>rfl
attribute [simp] skD z36 z1r uR uO uOs uO? ru z13 z82 okR z9j bu luK luR luO zfw
section
variable (L:SL) (d:Nat)
def yzz (f:Nat)(cs:List AU):Option AU:=if z7v cs=true then some (.clos f cs) else none
@[simp] theorem ypv (f:Nat) (cs:List AU):yzz f cs=if z7v cs=true then some (.clos f cs) else none:=rfl
@[simp] theorem yns (f:Nat) (cs:List COd):z3u L (.mkf d f cs)=z7c L d (yzz f (caps (fnL L) cs)):=z14 L _
def x00 (off:Nat):AU→Option AU
 | .agg cs=>(cs[off]?).bind fun u=>zl0 u
 | _=>none
@[simp] theorem ynt (off:Nat) (cs:List AU):x00 off (.agg cs)=(cs[off]?).bind fun u=>zl0 u:=rfl
@[simp] theorem ynu (off:Nat) (c:COd):z3u L (.fld d off c)=z7c L d (x00 off (rd (fnL L) c)):=by
 refine (z14 L _).trans ?_
 simp only[dOf,z1n]
 generalize rd (fnL L) c=v
 cases v<;>rfl
def ypw (cs:List AU):Option AU:=if cs.all z1k=true then some (.sl true () 1 cs.length cs) else none
@[simp] theorem ypx (cs:List AU):ypw cs=if cs.all z1k=true then some (.sl true () 1 cs.length cs) else none:=rfl
theorem zb3 (X:XF Unit):∀ cs:List COd,(caps X cs).length=cs.length
 | []=>rfl
 | _ :: cs=>by simp only[caps,se,zb3 X cs]
@[simp] theorem ynv (cs:List COd):z3u L (.bsn d cs)=z7c L d (ypw (caps (fnL L) cs)):=by
 refine (z14 L _).trans ?_
 simp only[dOf,z1n,ypw,zb3]
def x01 (s m:Nat):Option (List AU)→Option AU
 | some l=>some (.sl true () s m l)
 | none=>none
@[simp] theorem y60 (s m:Nat) (l:List AU):x01 s m (some l)=some (.sl true () s m l):=rfl
@[simp] theorem ynw (s:Nat):zkp s ([]:List AU)=some []:=rfl
@[simp] theorem y61 (s:Nat) (l:List AU) (r:List AU):zkp s (.agg l :: r)=if l.length=s∧l.all z1k=true then (zkp s r).map (fun q=>l ++ q) else none:=rfl
@[simp] theorem ynx (s:Nat) (cs:List COd):z3u L (.bsa d s cs)=z7c L d (x01 s cs.length (zkp s (caps (fnL L) cs))):=by
 refine (z14 L _).trans ?_
 simp only[dOf,z1n]
 cases zkp s (caps (fnL L) cs)<;>rfl
@[simp] theorem yny (eq:Bool):zrt eq (.sc .nilFunc)=some (.sc (.bool eq)):=rfl
@[simp] theorem y62 (eq:Bool) (f:Nat) (cs:List AU):zrt eq (.clos f cs)=some (.sc (.bool (!eq))):=rfl
@[simp] theorem y63 (eq:Bool) (c:COd):z3u L (.funq d eq c)=z7c L d (zrt eq (rd (fnL L) c)):=z14 L _
def axV (X:XF Unit)(s n:Nat)(v:AU):AU→Option AU
 | .sc (.int _ j)=>zch X s n v j
 | _=>none
@[simp] theorem x0v (X:XF Unit) (s n:Nat) (v:AU) (k:IntKind) (j:Int):axV X s n v (.sc (.int k j))=if 0≤j∧j < n∧1 < n then z3o X (j.toNat * s) v else none:=rfl
@[simp] theorem y3w (s n:Nat) (c i:COd):z3u L (.aaddr d s n c i)=z7c L d (axV (fnL L) s n (rd (fnL L) c) (rd (fnL L) i)):=by
 refine (z14 L _).trans ?_
 simp only[dOf,z1n,axV]
 rfl
@[simp] theorem ypy (m g n:Nat) (u:Unit) (cs:List AU):y4w m g (.sl true u 1 (n+1) cs)=some (.view (100 * m) g [] 0 (n+1)):=rfl
@[simp] theorem ynz (m:Nat):z3u L (.cvb d m)=z7c L d (y4w m (fnL L (100 * m)).1 (fnL L (100 * m)).2):=z14 L _
@[simp] theorem x02 (s:ByteArray):y4x (.sc (.string s))=some (.sl true () 1 s.size (y34 s)):=rfl
@[simp] theorem yo0 (c:COd):z3u L (.s2b d c)=z7c L d (y4x (rd (fnL L) c)):=z14 L _
def ypz (s:ByteArray):Option Nat→Option Nat→Option AU
 | some lo,some hi=>if lo≤hi∧hi≤s.size then some (.sc (.string (s.extract lo hi))) else none
 | _,_=>none
@[simp] theorem y64 (s:ByteArray) (lo hi:Nat):ypz s (some lo) (some hi)=if lo≤hi∧hi≤s.size then some (.sc (.string (s.extract lo hi))) else none:=rfl
def yq0 (l h:Option AU):AU→Option AU
 | .sc (.string s)=>ypz s (zhu 0 l) (zhu s.size h)
 | _=>none
@[simp] theorem x03 (l h:Option AU) (s:ByteArray):yq0 l h (.sc (.string s))=ypz s (zhu 0 l) (zhu s.size h):=rfl
@[simp] theorem yo1 (c:COd) (l h:Option COd):z3u L (.ssl d c l h)=z7c L d (yq0 (l.map (rd (fnL L))) (h.map (rd (fnL L))) (rd (fnL L) c)):=by
 refine (z14 L _).trans ?_
 simp only[dOf,z1n]
 congr 1
 generalize rd (fnL L) c=v
 unfold y4y yq0
 split
 ·rename_i s
  simp only[zu8]
  cases zhu 0 (l.map (rd (fnL L))) with
  | none=>rfl
  | some lo=>cases zhu s.size (h.map (rd (fnL L)))<;>rfl
 ·rename_i hs
  split
  ·exact absurd rfl (hs _)
  ·rfl
@[simp] theorem x04 (s:ByteArray) (k:IntKind) (j:Int):y4z (.sc (.string s)) (.sc (.int k j))=if 0≤j then (s[j.toNat]?).map fun b=>.sc (.int .u8 b.toNat) else none:=rfl
@[simp] theorem yo2 (c i:COd):z3u L (.six d c i)=z7c L d (y4z (rd (fnL L) c) (rd (fnL L) i)):=z14 L _
@[simp] theorem yo3 (s:Nat) (a b:COd):z3u L (.cpy d s a b)=y3c L d s a b:=rfl
def cpN (s:Nat)(dst:AU):Option (List AU)→Option SL
 | some news=>if news.all zj1=true∧0 < s then y3b L d s news dst else none
 | none=>none
@[simp] theorem yo4 (s:Nat) (dst:AU) (news:List AU):cpN L d s dst (some news)=if news.all zj1=true∧0 < s then y3b L d s news dst else none:=rfl
@[simp] theorem yq1 (s:Nat) (a b:COd):y3c L d s a b=cpN L d s (rd (fnL L) a) (z1u (fnL L) s (rd (fnL L) b)):=by
 simp only[y3c]
 cases z1u (fnL L) s (rd (fnL L) b)<;>rfl
@[simp] theorem y65 (s k g off n:Nat) (p:List Nat) (news:List AU):y3b L d s news (.view k g p off n)=if (fnL L k).1=g∧k ≠ 100 * hh∧z4k (fnL L k).2 p=true then yml L d k n s p news (cpT n off s news (z0n (fnL L k).2 p)) else none:=rfl
@[simp] theorem y66 (k n s:Nat) (p:List Nat) (news:List AU) (N:AU):yml L d k n s p news (some N)=some (z0k (z9h (z0k L (100 * hh) .non) k (z18 (fnL L k).2 p N)) (100 * d) (.sc (.int .i64 (min (news.length / s) n:Nat)))):=rfl
end
def aoT (L0:SL)(d s b:Nat):Option SL→Option SL
 | some X1=>y3a X1 d s b (fnL (zks L0) (100 * hh)).1 (fnL X1 (100 * H)).2 (fnL X1 (100 * hh)).2
 | none=>none
@[simp] theorem yo5 (L0:SL) (d s b:Nat) (X1:SL):aoT L0 d s b (some X1)=y3a X1 d s b (fnL (zks L0) (100 * hh)).1 (fnL X1 (100 * H)).2 (fnL X1 (100 * hh)).2:=rfl
def aoS (d s b:Nat)(cx:COd):Option SL→Option SL
 | some X0=>if slB (fnL X0 (100 * H)).2=false then none else aoT X0 d s b (z0z (zks X0) cx)
 | none=>none
@[simp] theorem yo6 (d s b:Nat) (cx:COd) (X0:SL):aoS d s b cx (some X0)=if slB (fnL X0 (100 * H)).2=false then none else aoT X0 d s b (z0z (zks X0) cx):=rfl
@[simp] theorem yo7 (L:SL) (d s b:Nat) (cx cy:COd):zkt L d s b cx cy=aoS d s b cx (z0z L cy):=by
 simp only[zkt]
 cases z0z L cy with
 | none=>rfl
 | some X0 =>
  simp only[pt,aoS]
  split
  ·rfl
  ·cases z0z (zks X0) cx<;>rfl
def plR:Option (List AU)→Bool
 | some news=>news.all z1k
 | none=>false
@[simp] theorem yo8 (news:List AU):plR (some news)=news.all z1k:=rfl
@[simp] theorem y67 (X:XF Unit) (s:Nat) (c:COd):z6y X s c=plR (z1u X s (rd X c)):=rfl
def exA (L:SL)(d s b:Nat)(x y:COd):Option SL→Bool
 | some L0=>(uO (fnL (zks L0)) x).all fun u=>(z1r (fnL L) (.app d s b x y)).contains u
 | none=>false
@[simp] theorem yo9 (L:SL) (d s b:Nat) (x y:COd) (L0:SL):exA L d s b x y (some L0)=(uO (fnL (zks L0)) x).all fun u=>(z1r (fnL L) (.app d s b x y)).contains u:=rfl
@[simp] theorem y68 (L:SL) (d s:Nat) (c:COd):z65 L (.bs1 d s c)=true:=rfl
@[simp] theorem y69 (L:SL) (d s:Nat):z65 L (.bs0 d s)=true:=rfl
@[simp] theorem y6a (L:SL) (d:Nat) (cs:List COd):z65 L (.bsn d cs)=true:=rfl
@[simp] theorem y6b (L:SL) (d s:Nat) (a b:COd):z65 L (.cpy d s a b)=true:=rfl
@[simp] theorem y3x (L:SL) (d s b:Nat) (zs:List AU) (l c:COd):z65 L (.make d s b zs l c)=true:=rfl
@[simp] theorem y6c (L:SL) (d:Nat) (c:COd):z65 L (.b2s d c)=true:=rfl
@[simp] theorem y6d (L:SL) (d s b:Nat) (x y:COd):z65 L (.app d s b x y)=if z6y (fnL L) s y=true then true else exA L d s b x y (z0z L y):=by
 simp only[z65]
 split
 ·rfl
 ·cases z0z L y<;>rfl
attribute [simp] zks y3a slB z75 rdC zhn
attribute [simp] caps z7v z1k hh cpT zj1 z1u u8L z15 trA trL zmm z1t z19 ztz z9f z0w z17 z6u zvt z5g z12 z20 opL z5k z3q y56 z9g
theorem wd {P:Program}{nt:Nat}{L:SL}{Q:Ex→SL→Prop}{a:Cd}(N:Nat)(S:Nat→SL)(Pr:Nat→Prop)(hL:L=S 0)(h0:Pr 0)
  (h:∀ i,i≤N→Pr i→WL P nt a (S i) (wg (fun L'=>i < N∧L'=S (i+1)∧Pr (i+1)) Q)):WL P nt (.loop a) L Q:=by
 refine WL.loop (ι:={i:Nat // i≤N∧Pr i}) (fun i=>S i.1) (fun i=>N - i.1) ⟨0,r9 _,h0⟩ hL fun i=>?_
 refine (h i.1 i.2.1 i.2.2).mono fun e L' hq=>?_
 cases e with
 | nrm =>
  obtain⟨h1,h2,h3⟩:=hq
  exact⟨⟨i.1+1,h1,h3⟩,h2,by simp only;omega⟩
 | ext id=>exact hq
 | ret=>exact hq
theorem wq (next:SL→Prop)(Q:Ex→SL→Prop)(L:SL):wg next Q .nrm L=next L:=rfl
theorem nh (next:SL→Prop)(Q:Ex→SL→Prop)(L:SL):wg next Q .ret L=Q .ret L:=rfl
theorem wx (next:SL→Prop)(Q:Ex→SL→Prop)(id:Nat)(L:SL):wg next Q (.ext id) L=Q (.ext id) L:=rfl
theorem nm (Q:Ex→SL→Prop)(id:Nat)(L:SL):wm id Q .nrm L=Q .nrm L:=rfl
theorem nl (Q:Ex→SL→Prop)(id:Nat)(L:SL):wm id Q .ret L=Q .ret L:=rfl
theorem n4 (Q:Ex→SL→Prop)(id id':Nat)(L:SL):wm id Q (.ext id') L=if id'=id then Q .nrm L else Q (.ext id') L:=rfl
attribute [simp] wq nh wx nm nl n4
def yq2 (dead:List Nat):Option SL→Option SL
 | some L=>zng dead L
 | none=>none
@[simp] theorem y6e (dead:List Nat) (L:SL):yq2 dead (some L)=ypj (z9i (z63 dead L)) dead:=rfl
theorem na {P:Program}{nt:Nat}{L L':SL}{dead:List Nat}{segs:List Sg}(h:yq2 dead (z5s segs (some L))=some L'):WL P nt (.reg dead segs) L fun e L1=>e=.nrm∧L1=L':=by
 cases hr:z5s segs (some L) with
 | none=>rw [hr] at h;cases h
 | some L1=>rw [hr] at h;exact WL.reg (RL.run hr ⟨L',h,rfl,rfl⟩)
theorem ni {P:Program}{nt:Nat}{L:SL}{Q:Ex→SL→Prop}{dead:List Nat}{segs:List Sg}{c:COd}{a y:Cd}(b:Bool)(L':SL)(h:yq2 dead (z5s segs (some L))=some L')(hb:rd (fnL L') c=.sc (.bool b))(ht:b=true→WL P nt a L' Q)(hf:b=false→WL P nt y L' Q) :
  WL P nt (.seq (.reg dead segs) (.cond c a y)) L Q :=
 ww L' (na h) (WL.cond hb ht hf)
@[simp] theorem y6f {α L:Type} (f:α→AV L) (l:List α):z19 (l.map f)=l.map fun x=>z1t (f x):=by
 rw[z4q,rz];rfl
end Go.OT
