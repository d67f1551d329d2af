/- Part 6 of the proof: see its last file. -/
import Derived.Test.YtlcemfnjhdcmoaaWs05
set_option linter.unusedSimpArgs false
set_option linter.unusedVariables false
namespace Go.OT
@[simp] theorem y4g (r:Option SL):z5p [] r=r:=rfl
@[simp] theorem yn8 (l:List COp) (s:List Sg) (r:Option SL):z5p (.o l :: s) r=z5p s (znx l r):=rfl
@[simp] theorem yn9 (t:Nat) (w:Bool) (l:List COp) (s:List Sg) (r:Option SL):z5p (.g t w l :: s) r=z5p s (znz t w l r):=rfl
@[simp] theorem yl3 (r:Option SL):znx [] r=r:=rfl
@[simp] theorem y4h (c:COp) (l:List COp) (r:Option SL):znx (c :: l) r=znx l (yl2 r c):=rfl
@[simp] theorem yl4 (t:Nat) (w:Bool) (r:Option SL):znz t w [] r=r:=rfl
@[simp] theorem y4i (t:Nat) (w:Bool) (c:COp) (l:List COp) (r:Option SL):znz t w (c :: l) r=znz t w l (zny t w r c):=rfl
@[simp] theorem y4j (L:SL) (c:COp):yl2 (some L) c=z3v L c:=rfl
def yna (L:SL)(c:COp):Option Bool→Option SL
 | some true=>z3v L c
 | some false=>some (zfs L c)
 | none=>none
@[simp] theorem y2p (t:Nat) (w:Bool) (L:SL) (c:COp):zny t w (some L) c=yna L c (gv w (fnL L (100 * t)).2):=by
 simp only[zny,y4c]
 cases gv w (fnL L (100 * t)).2 with
 | none=>rfl
 | some b=>cases b<;>rfl
@[simp] theorem y4k (L:SL) (c:COp):yna L c (some true)=z3v L c:=rfl
@[simp] theorem y2q (L:SL) (c:COp):yna L c (some false)=some (zfs L c):=rfl
@[simp] theorem ynb (w b:Bool):gv w (.sc (.bool b))=some (b == w):=rfl
@[simp] theorem yl5 (w:Bool) (x:Array Value):gv w (.sc (.tuple x))=some false:=rfl
@[simp] theorem y4l (w:Bool):gv w (.sc undef)=some false:=rfl
def z72 (L:SL)(d:Nat):Option AU→Option SL
 | some v=>some (z0l L (100 * d) v)
 | none=>none
@[simp] theorem y4m (L:SL) (d:Nat) (v:AU):z72 L d (some v)=some (z0l L (100 * d) v):=rfl
theorem z0y (L:SL)(c:COp):(z1l (fnL L) c).map (fun v=>z0l L (100 * dOf c) v)=z72 L (dOf c) (z1l (fnL L) c):=by
 cases z1l (fnL L) c<;>rfl
def zlg (v:AU):Option AU:=if z0a v=true then some v else none
section
variable (L:SL) (d:Nat)
@[simp] theorem yl6 (c:COd):z3v L (.mov d c)=z72 L d (zlg (rd (fnL L) c)):=z0y L _
@[simp] theorem yl7 (c:COd):z3v L (.chk d c)=z72 L d (if zaf (fnL L) (rd (fnL L) c)=true then some (rd (fnL L) c) else none):=z0y L _
def zwh (X:XF Unit)(a b:COd):AU→Option AU
 | .sc (.bool t)=>if t=true then zlg (rd X a) else zlg (rd X b)
 | _=>none
@[simp] theorem y2r (X:XF Unit) (a b:COd):zwh X a b (.sc (.bool true))=zlg (rd X a):=rfl
@[simp] theorem zwi (X:XF Unit) (a b:COd):zwh X a b (.sc (.bool false))=zlg (rd X b):=rfl
@[simp] theorem y4n (c a b:COd):z3v L (.pick d c a b)=z72 L d (zwh (fnL L) a b (rd (fnL L) c)):=by
 refine (z0y L _).trans ?_
 simp only[dOf,z1l]
 congr 1
 generalize rd (fnL L) c=v
 cases v with
 | sc v=>cases v with
  | bool t=>cases t<;>rfl
  | _=>rfl
 | _=>rfl
def unV (op:UnOp):AU→Option AU
 | .sc u=>(zvg op u).map fun r=>.sc r
 | _=>none
@[simp] theorem ync (b:Bool):unV .not (.sc (.bool b))=some (.sc (.bool !b)):=rfl
@[simp] theorem ynd (k:IntKind) (n:Int):unV .neg (.sc (.int k n))=some (.sc (.int k (k.wrap (0 - n)))):=rfl
@[simp] theorem yne (op:UnOp) (c:COd):z3v L (.un d op c)=z72 L d (unV op (rd (fnL L) c)):=by
 refine (z0y L _).trans ?_
 simp only[dOf,z1l,unV]
 rfl
def yl8 (op:BinOp):AU→AU→Option AU
 | .sc u,.sc v=>(zde op u v).map fun r=>.sc r
 | _,_=>none
@[simp] theorem yl9 (op:BinOp) (k k':IntKind) (a b:Int):yl8 op (.sc (.int k a)) (.sc (.int k' b))=(zde op (.int k a) (.int k' b)).map fun r=>.sc r:=rfl
@[simp] theorem yla (op:BinOp) (a b:ByteArray):yl8 op (.sc (.string a)) (.sc (.string b))=(zde op (.string a) (.string b)).map fun r=>.sc r:=rfl
@[simp] theorem ylb (op:BinOp) (a b:COd):z3v L (.bin d op a b)=z72 L d (yl8 op (rd (fnL L) a) (rd (fnL L) b)):=by
 refine (z0y L _).trans ?_
 simp only[dOf,z1l,yl8]
 rfl
def ynf (eq:Bool):AU→AU→Option AU
 | .sc (.bool u),.sc (.bool v)=>some (.sc (.bool (if eq=true then u == v else !(u == v))))
 | _,_=>none
@[simp] theorem yvy (eq u v:Bool):ynf eq (.sc (.bool u)) (.sc (.bool v))=some (.sc (.bool (if eq=true then u == v else !(u == v)))):=rfl
@[simp] theorem ylc (eq:Bool) (a b:COd):z3v L (.beq d eq a b)=z72 L d (ynf eq (rd (fnL L) a) (rd (fnL L) b)):=by
 refine (z0y L _).trans ?_
 simp only[dOf,z1l,ynf]
 rfl
def zwj (k:IntKind):AU→Option AU
 | .sc (.int _ n)=>some (.sc (.int k (k.wrap n)))
 | _=>none
@[simp] theorem yng (k k':IntKind) (n:Int):zwj k (.sc (.int k' n))=some (.sc (.int k (k.wrap n))):=rfl
@[simp] theorem y4o (k:IntKind) (c:COd):z3v L (.conv d k c)=z72 L d (zwj k (rd (fnL L) c)):=by
 refine (z0y L _).trans ?_
 simp only[dOf,z1l,zwj]
 rfl
def mxV (mx:Bool):AU→AU→Option AU
 | .sc u,.sc v=>(zvh mx u v).map fun r=>.sc r
 | _,_=>none
@[simp] theorem ynh (mx:Bool) (k k':IntKind) (a b:Int):mxV mx (.sc (.int k a)) (.sc (.int k' b))=(zvh mx (.int k a) (.int k' b)).map fun r=>.sc r:=rfl
@[simp] theorem yni (mx:Bool) (a b:COd):z3v L (.mx d mx a b)=z72 L d (mxV mx (rd (fnL L) a) (rd (fnL L) b)):=by
 refine (z0y L _).trans ?_
 simp only[dOf,z1l,mxV]
 rfl
def ldR (ag:Bool):Option (List AU)→Option AU
 | some cs=>zlg (if ag=true then AV.agg cs else cs.getD 0 .non)
 | none=>none
@[simp] theorem yld (cs:List AU):ldR true (some cs)=zlg (.agg cs):=rfl
@[simp] theorem ynj (c:AU):ldR false (some [c])=zlg c:=rfl
@[simp] theorem ynk (n:Nat) (ag:Bool) (c:COd):z3v L (.ld d n ag c)=z72 L d (ldR ag (z1x (fnL L) (rd (fnL L) c) n)):=by
 refine (z0y L _).trans ?_
 simp only[dOf,z1l]
 cases z1x (fnL L) (rd (fnL L) c) n<;>rfl
@[simp] theorem y2s (off:Nat) (c:COd):z3v L (.faddr d off c)=z72 L d (z3p (fnL L) off (rd (fnL L) c)):=z0y L _
def ixV (X:XF Unit)(s:Nat)(v:AU):AU→Option AU
 | .sc (.int _ j)=>z3q X s v j
 | _=>none
@[simp] theorem yx4 (X:XF Unit) (s:Nat) (v:AU) (k:IntKind) (j:Int):ixV X s v (.sc (.int k j))=z3q X s v j:=rfl
@[simp] theorem y2t (s:Nat) (c i:COd):z3v L (.iaddr d s c i)=z72 L d (ixV (fnL L) s (rd (fnL L) c) (rd (fnL L) i)):=by
 refine (z0y L _).trans ?_
 simp only[dOf,z1l,ixV]
 rfl
def yvz:Option Nat→Option AU
 | some n=>some (.sc (.int .i64 (n:Int)))
 | none=>none
@[simp] theorem y4p (n:Nat):yvz (some n)=some (.sc (.int .i64 (n:Int))):=rfl
@[simp] theorem yle (c:COd):z3v L (.len d c)=z72 L d (yvz (z6n (fnL L) (rd (fnL L) c))):=by
 refine (z0y L _).trans ?_
 simp only[dOf,z1l]
 cases z6n (fnL L) (rd (fnL L) c)<;>rfl
def zwk:AU→Option AU
 | .sc (.string s)=>some (.sc (.int .i64 s.size))
 | _=>none
@[simp] theorem ynl (s:ByteArray):zwk (.sc (.string s))=some (.sc (.int .i64 s.size)):=rfl
@[simp] theorem y4q (c:COd):z3v L (.slen d c)=z72 L d (zwk (rd (fnL L) c)):=by
 refine (z0y L _).trans ?_
 simp only[dOf,z1l,zwk]
 rfl
def zi8 (dflt:Nat):Option AU→Option Nat
 | none=>some dflt
 | some (.sc (.int _ j))=>if 0≤j then some j.toNat else none
 | _=>none
@[simp] theorem y4r (n:Nat):zi8 n none=some n:=rfl
@[simp] theorem y4s (n:Nat) (k:IntKind) (j:Int):zi8 n (some (.sc (.int k j)))=if 0≤j then some j.toNat else none:=rfl
theorem zu8 (X:XF Unit)(n:Nat)(c:Option COd):bnd X n c=zi8 n (c.map (rd X)):=by
 cases c with
 | none=>rfl
 | some c =>
  simp only[bnd,px]
  generalize rd X c=v
  cases v with
  | sc v=>cases v<;>rfl
  | _=>rfl
def ynm (X:XF Unit)(s:Nat)(v:AU)(l:Option AU)(h:Option AU):Option Nat→Option AU
 | some n=>match zi8 0 l,zi8 n h with
  | some lo,some hi=>z37 X s lo hi v
  | _,_=>none
 | none=>none
def yw0 (X:XF Unit)(s:Nat)(v:AU):Option Nat→Option Nat→Option AU
 | some lo,some hi=>z37 X s lo hi v
 | _,_=>none
@[simp] theorem y4t (X:XF Unit) (s:Nat) (v:AU) (l h:Option AU) (n:Nat):ynm X s v l h (some n)=yw0 X s v (zi8 0 l) (zi8 n h):=rfl
@[simp] theorem y4u (X:XF Unit) (s:Nat) (v:AU) (lo hi:Nat):yw0 X s v (some lo) (some hi)=z37 X s lo hi v:=rfl
@[simp] theorem y2u (s:Nat) (c:COd) (l h:Option COd):z3v L (.slice d s c l h)=z72 L d (ynm (fnL L) s (rd (fnL L) c) (l.map (rd (fnL L))) (h.map (rd (fnL L))) (z6n (fnL L) (rd (fnL L) c))):=by
 refine (z0y L _).trans ?_
 simp only[dOf,z1l]
 cases z6n (fnL L) (rd (fnL L) c) with
 | none=>rfl
 | some n =>
  simp only[po,ynm,zu8]
  cases zi8 0 (l.map (rd (fnL L))) with
  | none=>rfl
  | some lo =>
   cases zi8 n (h.map (rd (fnL L))) with
   | none=>rfl
   | some hi=>rfl
def yw1:Option (List AU)→Option AU
 | some cs=>if z0n cs=true then some (.agg cs) else none
 | none=>none
@[simp] theorem y4v (cs:List AU):yw1 (some cs)=if z0n cs=true then some (.agg cs) else none:=rfl
@[simp] theorem y2v (zs:List AU) (ps:List (Nat × Nat × COd)):z3v L (.build d zs ps)=z72 L d (yw1 (zc3 zs (ps.map fun p=>(p.1,p.2.1,rdC (fnL L) p.2.2)))):=by
 refine (z0y L _).trans ?_
 simp only[dOf,z1l]
 cases zc3 zs (ps.map fun p=>(p.1,p.2.1,rdC (fnL L) p.2.2))<;>rfl
def mkV (s bytes:Nat)(zs:List AU):AU→AU→Option AU
 | .sc (.int _ a),.sc (.int _ b)=>if 0≤a∧a≤b∧bytes * b.toNat≤281474976710656∧b≤9223372036854775807 then some (.sl true () s a.toNat (z8d zs a.toNat)) else none
 | _,_=>none
@[simp] theorem yx5 (s bytes:Nat) (zs:List AU) (k k':IntKind) (a b:Int):mkV s bytes zs (.sc (.int k a)) (.sc (.int k' b))=if 0≤a∧a≤b∧bytes * b.toNat≤281474976710656∧b≤9223372036854775807 then some (.sl true () s a.toNat (z8d zs a.toNat)) else none:=rfl
@[simp] theorem y4w (s b:Nat) (zs:List AU) (l c:COd):z3v L (.make d s b zs l c)=z72 L d (mkV s b zs (rd (fnL L) l) (rd (fnL L) c)):=by
 refine (z0y L _).trans ?_
 simp only[dOf,z1l,mkV]
 rfl
def yw2:Option (List AU)→Option AU
 | some cs=>(u8L cs).map fun ns=>.sc (.string (b2s ns))
 | none=>none
@[simp] theorem y4x (cs:List AU):yw2 (some cs)=(u8L cs).map fun ns=>.sc (.string (b2s ns)):=rfl
@[simp] theorem ylf (c:COd):z3v L (.b2s d c)=z72 L d (yw2 (z1q (fnL L) 1 (rd (fnL L) c))):=by
 refine (z0y L _).trans ?_
 simp only[dOf,z1l]
 cases z1q (fnL L) 1 (rd (fnL L) c)<;>rfl
@[simp] theorem ylg (s:Nat):z3v L (.bs0 d s)=some (z0l L (100 * d) (.sl true () s 0 [])):=rfl
@[simp] theorem ylh (c:COd):z3v L (.asg d c)=if z7n (fnL L) c=true then zu4 L d c else z72 L d (zlg (rd (fnL L) c)):=by
 simp only[z3v,znt,z72,zlg]
 split
 ·rfl
 ·split<;>rfl
@[simp] theorem ynn (n:Nat) (a v:COd):z3v L (.st n a v)=stS L n a v:=rfl
@[simp] theorem yli (n i:Nat):z3v L (.ext d n i)=y2i L d n i:=rfl
@[simp] theorem ylj (c:COd):z3v L (.box d c)=y2j L d c:=rfl
@[simp] theorem y2w (zs:List AU):z3v L (.alloc d zs)=zco L d zs:=rfl
@[simp] theorem ylk (s:Nat) (c:COd):z3v L (.bs1 d s c)=bsS L d s c:=rfl
@[simp] theorem yll (s b:Nat) (x y:COd):z3v L (.app d s b x y)=if z6p (fnL L) s y=true then y2k L d s b x y else zl9 L d s b x y:=rfl
end
-- without projections: the kernel's arithmetic stops at terms with variables
@[simp] theorem y4y (dead:List Nat):z5z dead []=[]:=rfl
@[simp] theorem y4z (dead:List Nat):z6y dead []=[]:=rfl
@[simp] theorem y2x (dead:List Nat) (k g:Nat) (v:AU) (l:SL):z5z dead ((k,g,v) :: l)=if zdq dead k=true then (k,g,v) :: z5z dead l else z5z dead l:=by rw[z5z]
@[simp] theorem y2y (rs:List Nat) (k g:Nat) (v:AU) (l:SL):z6y rs ((k,g,v) :: l)=if zi0 rs k=true then (k,g,v) :: z6y rs l else z6y rs l:=by rw[z6y]
attribute [simp] zfs dOf rd rdK ldV zhr zfm z0l z9h zw5 zhw y2h z31 z7p zc5 zc5.boxN zw3 nx AV.isNode AV.isNon AV.parts? z0a z0n zkz z0q Value.oneCell' zde zvg zvh z3p z3q z1x z6n ztw z0o AV.cells? AV.withCells z0z zaf z37 H RS zdq z2y z9i zmf z4c roots z1a zr3 zs5 zdn ghL z5i zfx zr4 z7n z4k AV.own? z7l setR zc3 zlg
@[simp] theorem yym:List.range 2=[0,1]:=rfl
@[simp] theorem yyn:List.range 3=[0,1,2]:=rfl
@[simp] theorem yyo:List.range 4=[0,1,2,3]:=rfl
@[simp] theorem yyp:List.range 5=[0,1,2,3,4]:=rfl
@[simp] theorem yyq:List.range 6=[0,1,2,3,4,5]:=rfl
@[simp] theorem yyr:List.range 7=[0,1,2,3,4,5,6]:=rfl
@[simp] theorem yys:List.range 8=[0,1,2,3,4,5,6,7]:=rfl
@[simp] theorem yyt:List.range 9=[0,1,2,3,4,5,6,7,8]:=rfl
@[simp] theorem yx6:List.range 10=[0,1,2,3,4,5,6,7,8,9]:=rfl
@[simp] theorem yx7:List.range 11=[0,1,2,3,4,5,6,7,8,9,10]:=rfl
@[simp] theorem yx8:List.range 12=[0,1,2,3,4,5,6,7,8,9,10,11]:=rfl
@[simp] theorem yx9:List.range 13=[0,1,2,3,4,5,6,7,8,9,10,11,12]:=rfl
@[simp] theorem y2z (a b:Nat):(1≤a - b)=(b < a):=by
 rw[eq_iff_iff];omega
@[simp] theorem zlh {α:Type} {l:List α} {i:Nat} (h:i < l.length):List.take 1 (List.drop i l)=[l[i]]:=by
 rw[s6 h];rfl
@[simp] theorem zr5 {α β:Type} {f:α→β} {l:List α} {i:Nat} (h:i < l.length):List.take 1 (List.drop i (List.map f l))=[f l[i]]:=by
 rw[zlh (by simpa using h)];simp
-- the cases of what is taken
@[simp] theorem ylm (L:SL) (k g off len h:Nat) (p:List Nat):tkS L (.view k g p off len) h=if (fnL L k).1=g∧k ≠ 100 * h then
   match z0o (fnL L k).2 p with
   | some (.sl true _ sz _ cs)=>if z4k (fnL L k).2 p=true then some (z0l (z0l L k (z0z (fnL L k).2 p .dead)) (100 * h) (.sl true () sz len ((cs.drop off).take (len * sz)))) else none
   | some (.sl false _ sz _ cs)=>some (z0l L (100 * h) (.sl false () sz len ((cs.drop off).take (len * sz))))
   | _=>none
  else none:=rfl
@[simp] theorem yw3 (L:SL) (v:Value) (h:Nat):tkS L (.sc v) h=some (z0l L (100 * h) (.sc v)):=rfl
@[simp] theorem yno (L:SL) (u:Unit) (sz n h:Nat) (cs:List AU):tkS L (.sl false u sz n cs) h=some (z0l L (100 * h) (.sl false u sz n cs)):=rfl
@[simp] theorem ynp (L:SL) (u:Unit) (sz h:Nat):tkS L (.sl true u sz 0 []) h=some (z0l L (100 * h) (.sl true () sz 0 [])):=rfl
@[simp] theorem yln (L:SL) (b g i h:Nat):tkS L (.bptr b g i) h=some (z0l L (100 * h) (.bptr b g i)):=rfl
@[simp] theorem ylo (L:SL) (u:Unit) (h:Nat) (cs:List AU):tkS L (.vptr u cs) h=some (z0l L (100 * h) (.vptr u cs)):=rfl
@[simp] theorem ynq (L:SL) (k g i h:Nat) (p:List Nat):tkS L (.ptr k g p i) h=if (fnL L k).1=g∧i=0∧k ≠ 100 * h then
   match z0o (fnL L k).2 p with
   | some (.bx true _ cs)=>if z4k (fnL L k).2 p=true then some (z0l (z0l L k (z0z (fnL L k).2 p .dead)) (100 * h) (.bx true () cs)) else none
   | _=>none
  else none:=rfl
def ze0 (L:SL)(n:Nat):AU→Option SL
 | .agg vs=>if z0n vs then z31 L (.agg vs) else some (z0l (z0l L (100 * H) (.agg vs)) (100 * n) .non)
 | .tuple _=>none
 | _=>z31 L (rd (fnL L) (.t n))
@[simp] theorem y50 (L:SL) (n:Nat) (vs:List AU):ze0 L n (.agg vs)=if z0n vs then z31 L (.agg vs) else some (z0l (z0l L (100 * H) (.agg vs)) (100 * n) .non):=rfl
@[simp] theorem ylp (L:SL) (n:Nat) (v:Value):ze0 L n (.sc v)=z31 L (rd (fnL L) (.t n)):=rfl
@[simp] theorem ylq (L:SL) (n:Nat) (o:Bool) (u:Unit) (s m:Nat) (cs:List AU):ze0 L n (.sl o u s m cs)=z31 L (rd (fnL L) (.t n)):=rfl
@[simp] theorem ylr (L:SL) (n:Nat) (o:Bool) (u:Unit) (cs:List AU):ze0 L n (.bx o u cs)=z31 L (rd (fnL L) (.t n)):=rfl
@[simp] theorem y30 (L:SL) (n k g off len:Nat) (p:List Nat):ze0 L n (.view k g p off len)=z31 L (rd (fnL L) (.t n)):=rfl
@[simp] theorem y51 (L:SL) (n k g i:Nat) (p:List Nat):ze0 L n (.ptr k g p i)=z31 L (rd (fnL L) (.t n)):=rfl
@[simp] theorem y31 (L:SL) (n b g i:Nat):ze0 L n (.bptr b g i)=z31 L (rd (fnL L) (.t n)):=rfl
@[simp] theorem y32 (L:SL) (n:Nat) (u:Unit) (cs:List AU):ze0 L n (.vptr u cs)=z31 L (rd (fnL L) (.t n)):=rfl
@[simp] theorem yls (L:SL) (n:Nat):z0w L (.t n)=if zkz (rd (fnL L) (.t n))=true then ze0 L n (fnL L (100 * n)).2 else none:=by
 simp only[z0w]
 generalize hv:(fnL L (100 * n)).2=v
 cases v<;>rfl
@[simp] theorem ylt (L:SL) (v:AU):z0w L (.c v)=if zkz v=true then z31 L v else none:=rfl
@[simp] theorem ynr (L:SL) (b g i h:Nat):put1S L (.bptr b g i) h=if (fnL L (100 * b+99)).1=g∧i < 98∧(fnL L (100 * b+1+i)).2.isNon=false∧z0q (fnL L (100 * h)).2=true then
   some (z0l (z0l L (100 * b+1+i) (fnL L (100 * h)).2) (100 * h) .non) else none:=rfl
def yns (L:SL)(k h:Nat)(p:List Nat):Option AU→Option SL
 | some u=>some (z0l (if u.isNode then z0l L k (z0z (fnL L k).2 p (fnL L (100 * h)).2) else z9h L k (z0z (fnL L k).2 p (fnL L (100 * h)).2)) (100 * h) .non)
 | none=>none
@[simp] theorem y52 (L:SL) (k h:Nat) (p:List Nat) (u:AU):yns L k h p (some u)=some (z0l (if u.isNode then z0l L k (z0z (fnL L k).2 p (fnL L (100 * h)).2) else z9h L k (z0z (fnL L k).2 p (fnL L (100 * h)).2)) (100 * h) .non):=rfl
@[simp] theorem ynt (L:SL) (k g i h:Nat) (p:List Nat):put1S L (.ptr k g p i) h=if (fnL L k).1=g∧k ≠ 100 * h∧z0q (fnL L (100 * h)).2=true∧z4k (fnL L k).2 (p ++ [i])=true then yns L k h (p ++ [i]) (z0o (fnL L k).2 (p ++ [i])) else none:=by
 simp only[put1S,yns]
 rfl
@[simp] theorem y53 (L:SL) (a:AU) (i:Nat):zc6 L a i []=some L:=rfl
@[simp] theorem y33 (L:SL) (a:AU) (i:Nat) (c:AU) (cs:List AU):zc6 L a i (c :: cs)=(put1S (z0l (z0l L (100 * H) (.agg (List.replicate (i+1) .dead ++ cs))) (100 * (H+1)) c) (z2d i a) (H+1)).bind fun X2=>zc6 X2 a (i+1) cs:=rfl
@[simp] theorem ylu (i b g j:Nat):z2d i (.bptr b g j)=.bptr b g (j+i):=rfl
@[simp] theorem ylv (i k g j:Nat) (p:List Nat):z2d i (.ptr k g p j)=.ptr k g p (j+i):=rfl
def stH (L:SL)(n:Nat)(a:COd):AU→Option SL
 | .agg vs=>if vs.length=n∧n ≠ 0 then (zc6 L (rd (fnL L) a) 0 vs).map fun X2=>z0l X2 (100 * H) .non else none
 | _=>if n=1 then put1S L (rd (fnL L) a) H else none
@[simp] theorem ynu (L:SL) (n:Nat) (a:COd) (vs:List AU):stH L n a (.agg vs)=if vs.length=n∧n ≠ 0 then (zc6 L (rd (fnL L) a) 0 vs).map fun X2=>z0l X2 (100 * H) .non else none:=rfl
@[simp] theorem yw4 (L:SL) (n:Nat) (a:COd) (v:Value):stH L n a (.sc v)=if n=1 then put1S L (rd (fnL L) a) H else none:=rfl
@[simp] theorem yw5 (L:SL) (n:Nat) (a:COd) (o:Bool) (u:Unit) (s m:Nat) (cs:List AU):stH L n a (.sl o u s m cs)=if n=1 then put1S L (rd (fnL L) a) H else none:=rfl
@[simp] theorem yw6 (L:SL) (n:Nat) (a:COd) (o:Bool) (u:Unit) (cs:List AU):stH L n a (.bx o u cs)=if n=1 then put1S L (rd (fnL L) a) H else none:=rfl
def stT (n:Nat)(a:COd):Option SL→Option SL
 | some X1=>stH X1 n a (fnL X1 (100 * H)).2
 | none=>none
@[simp] theorem ylw (n:Nat) (a:COd) (L:SL):stT n a (some L)=stH L n a (fnL L (100 * H)).2:=rfl
@[simp] theorem yw7 (L:SL) (n:Nat) (a v:COd):stS L n a v=stT n a (z0w L v):=by
 simp only[stS]
 cases z0w L v with
 | none=>rfl
 | some X =>
  simp only[po,stT]
  generalize (fnL X (100 * H)).2=v
  cases v<;>rfl
def exV (L:SL)(d n i:Nat):AU→Option SL
 | .tuple vs=>match vs[i]? with
  | some c=>if d ≠ n then some (z0l (z0l L (100 * n) (.tuple (vs.set i .dead))) (100 * d) c) else none
  | none=>none
 | _=>none
@[simp] theorem yxa (L:SL) (d n i:Nat) (vs:List AU):exV L d n i (.tuple vs)=match vs[i]? with
  | some c=>if d ≠ n then some (z0l (z0l L (100 * n) (.tuple (vs.set i .dead))) (100 * d) c) else none
  | none=>none:=rfl
@[simp] theorem ynv (L:SL) (d n i:Nat):y2i L d n i=exV L d n i (fnL L (100 * n)).2:=by
 simp only[y2i,exV]
 rfl
def bxH (L:SL)(d:Nat):AU→Option SL
 | .agg vs=>if vs.length≤98∧vs.all z0q=true then some (z7p (zc5 d vs L) d ((fnL L (100 * d+99)).1+1)) else none
 | v=>if z0q v=true then some (z7p (zc5 d [v] L) d ((fnL L (100 * d+99)).1+1)) else none
@[simp] theorem ynw (L:SL) (d:Nat) (vs:List AU):bxH L d (.agg vs)=if vs.length≤98∧vs.all z0q=true then some (z7p (zc5 d vs L) d ((fnL L (100 * d+99)).1+1)) else none:=rfl
@[simp] theorem yw8 (L:SL) (d:Nat) (v:Value):bxH L d (.sc v)=if z0q (.sc v:AU)=true then some (z7p (zc5 d [.sc v] L) d ((fnL L (100 * d+99)).1+1)) else none:=rfl
@[simp] theorem yw9 (L:SL) (d:Nat) (o:Bool) (u:Unit) (s m:Nat) (cs:List AU):bxH L d (.sl o u s m cs)=some (z7p (zc5 d [.sl o u s m cs] L) d ((fnL L (100 * d+99)).1+1)):=by simp[bxH,z0q]
def bxT (d:Nat):Option SL→Option SL
 | some X1=>bxH X1 d (fnL X1 (100 * H)).2
 | none=>none
@[simp] theorem ylx (d:Nat) (L:SL):bxT d (some L)=bxH L d (fnL L (100 * H)).2:=rfl
@[simp] theorem ynx (L:SL) (d:Nat) (c:COd):y2j L d c=bxT d (z0w L c):=by
 simp only[y2j]
 cases z0w L c with
 | none=>rfl
 | some X =>
  simp only[po,bxT]
  generalize (fnL X (100 * H)).2=v
  cases v<;>rfl
@[simp] theorem y54 (L:SL) (d:Nat) (zs:List AU):zco L d zs=if zs.length≤98 then some (z7p (zc5 d zs (z0l L (100 * H) (.agg zs))) d ((fnL L (100 * d+99)).1+1)) else none:=rfl
def bsH (L:SL)(d s:Nat):AU→Option SL
 | .agg vs=>if vs.length=s∧vs.all z0q=true then some (z0l (z0l L (100 * d) (.sl true () s 1 vs)) (100 * H) .non) else none
 | v=>if s=1∧z0q v=true then some (z0l (z0l L (100 * d) (.sl true () s 1 [v])) (100 * H) .non) else none
@[simp] theorem yny (L:SL) (d s:Nat) (vs:List AU):bsH L d s (.agg vs)=if vs.length=s∧vs.all z0q=true then some (z0l (z0l L (100 * d) (.sl true () s 1 vs)) (100 * H) .non) else none:=rfl
@[simp] theorem ywa (L:SL) (d s:Nat) (v:Value):bsH L d s (.sc v)=if s=1∧z0q (.sc v:AU)=true then some (z0l (z0l L (100 * d) (.sl true () s 1 [.sc v])) (100 * H) .non) else none:=rfl
@[simp] theorem ywb (L:SL) (d s:Nat) (o:Bool) (u:Unit) (s' m:Nat) (cs:List AU):bsH L d s (.sl o u s' m cs)=if s=1 then some (z0l (z0l L (100 * d) (.sl true () s 1 [.sl o u s' m cs])) (100 * H) .non) else none:=by simp[bsH,z0q]
@[simp] theorem ywc (L:SL) (d s:Nat) (o:Bool) (u:Unit) (cs:List AU):bsH L d s (.bx o u cs)=if s=1 then some (z0l (z0l L (100 * d) (.sl true () s 1 [.bx o u cs])) (100 * H) .non) else none:=by simp[bsH,z0q]
def bsT (d s:Nat):Option SL→Option SL
 | some X1=>bsH X1 d s (fnL X1 (100 * H)).2
 | none=>none
@[simp] theorem yly (d s:Nat) (L:SL):bsT d s (some L)=bsH L d s (fnL L (100 * H)).2:=rfl
@[simp] theorem ywd (L:SL) (d s:Nat) (c:COd):bsS L d s c=bsT d s (z0w L c):=by
 simp only[bsS]
 cases z0w L c with
 | none=>rfl
 | some X =>
  simp only[po,bsT]
  generalize (fnL X (100 * H)).2=v
  cases v<;>rfl
def asT (d:Nat):Option SL→Option SL
 | some X1=>some (z0l (z0l X1 (100 * d) (fnL X1 (100 * H)).2) (100 * H) .non)
 | none=>none
@[simp] theorem ylz (d:Nat) (L:SL):asT d (some L)=some (z0l (z0l L (100 * d) (fnL L (100 * H)).2) (100 * H) .non):=rfl
@[simp] theorem ynz (L:SL) (d:Nat) (c:COd):zu4 L d c=asT d (z0w L c):=by
 simp only[zu4]
 cases z0w L c<;>rfl
def apH (L:SL)(d s bytes:Nat)(news:List AU):AU→Option SL
 | .sl true _ s' n cs=>if s'=s∧(n+news.length / s) * bytes≤140737488355328∧n+news.length / s≤maxLen then
     some (z0l (z0l (z0l L (100 * H) (fnL L (100 * H)).2) (100 * d) (.sl true () s (n+news.length / s) (cs ++ news))) (100 * H) .non) else none
 | _=>none
@[simp] theorem ywe (L:SL) (d s bytes:Nat) (news:List AU) (u:Unit) (s' n:Nat) (cs:List AU):apH L d s bytes news (.sl true u s' n cs)=if s'=s∧(n+news.length / s) * bytes≤140737488355328∧n+news.length / s≤maxLen then
     some (z0l (z0l (z0l L (100 * H) (fnL L (100 * H)).2) (100 * d) (.sl true () s (n+news.length / s) (cs ++ news))) (100 * H) .non) else none:=rfl
def apT (d s bytes:Nat)(news:List AU):Option SL→Option SL
 | some X1=>apH X1 d s bytes news (fnL X1 (100 * H)).2
 | none=>none
@[simp] theorem ym0 (d s bytes:Nat) (news:List AU) (L:SL):apT d s bytes news (some L)=apH L d s bytes news (fnL L (100 * H)).2:=rfl
def apN (L:SL)(d s bytes:Nat)(cx:COd):Option (List AU)→Option SL
 | some news=>if news.all z1b=true then apT d s bytes news (z0w L cx) else none
 | none=>none
@[simp] theorem ym1 (L:SL) (d s bytes:Nat) (cx:COd) (news:List AU):apN L d s bytes cx (some news)=if news.all z1b=true then apT d s bytes news (z0w L cx) else none:=rfl
@[simp] theorem yo0 (L:SL) (d s bytes:Nat) (cx cy:COd):y2k L d s bytes cx cy=apN L d s bytes cx (z1q (fnL L) s (rd (fnL L) cy)):=by
 simp only[y2k]
 cases z1q (fnL L) s (rd (fnL L) cy) with
 | none=>rfl
 | some news =>
  simp only[po,apN]
  split
  ·cases z0w L cx with
   | none=>rfl
   | some X =>
    simp only[po,apT,apH]
    rfl
  ·rfl
-- what is kept
def yo1 (L:SL)(dead:List Nat):Option SL:=if (z4c L).all (zdq dead)=true then some (zr3 (z4c L) (z6y (z4c L) L)) else none
@[simp] theorem yo2 (L:SL) (dead:List Nat):yo1 L dead=if (z4c L).all (zdq dead)=true then some (zr3 (z4c L) (z6y (z4c L) L)) else none:=rfl
@[simp] theorem yo3 (dead:List Nat) (L:SL):zmg dead L=yo1 (z9i (z5z dead L)) dead:=rfl
-- what is given zf6
@[simp] theorem yo4 (L:SL) (n:Nat):zla L (.t n)=z0w L (.t n):=rfl
def rsC (L:SL)(ag:Bool):Option (List AU)→Option SL
 | some cs=>if zkz (if ag=true then AV.agg cs else cs.getD 0 .non)=true∧z0a (if ag=true then AV.agg cs else cs.getD 0 .non)=true then z31 L (if ag=true then AV.agg cs else cs.getD 0 .non) else none
 | none=>none
@[simp] theorem ym2 (L:SL) (ag:Bool) (cs:List AU):rsC L ag (some cs)=if zkz (if ag=true then AV.agg cs else cs.getD 0 .non)=true∧z0a (if ag=true then AV.agg cs else cs.getD 0 .non)=true then z31 L (if ag=true then AV.agg cs else cs.getD 0 .non) else none:=rfl
@[simp] theorem yo5 (L:SL) (a n:Nat) (ag:Bool):zla L (.cell a n ag)=rsC L ag (z1x (fnL L) (rd (fnL L) (.t a)) n):=by
 simp only[zla]
 cases z1x (fnL L) (rd (fnL L) (.t a)) n<;>rfl
def rsX (k:Nat):Option SL→Option SL
 | some X=>some (if k=1 then z0l (z0l X (100 * RS) (fnL X (100 * (RS+1))).2) (100 * (RS+1)) .non
  else zw5 (z0l X (100 * RS) (.tuple (zhw X (RS+1) k))) (RS+1) k)
 | none=>none
@[simp] theorem ym3 (k:Nat) (X:SL):rsX k (some X)=some (if k=1 then z0l (z0l X (100 * RS) (fnL X (100 * (RS+1))).2) (100 * (RS+1)) .non
  else zw5 (z0l X (100 * RS) (.tuple (zhw X (RS+1) k))) (RS+1) k):=rfl
@[simp] theorem ym4 (L:SL) (rs:List CRV):zo2 L rs=rsX rs.length (zfx L 0 rs):=by
 simp only[zo2]
 cases zfx L 0 rs<;>rfl
attribute [simp] RetOk
-- drawn regions
def dR (p ex:Bool)(ft:List Nat)(d:Nat):Option SL→Option (SL × List Nat × List Nat)
 | some L1=>if p=true then (if (roots (fnL L1 (100 * d)).2).all (fun r=>!z2y r)=true then some (L1,ft,[2 * d]) else none)
  else if okR (z7t L1)=true∧ex=true then some (z7t L1,ft,ft) else none
 | none=>none
@[simp] theorem yo6 (ex:Bool) (ft:List Nat) (d:Nat) (L1:SL):dR true ex ft d (some L1)=if (roots (fnL L1 (100 * d)).2).all (fun r=>!z2y r)=true then some (L1,ft,[2 * d]) else none:=rfl
@[simp] theorem yo7 (ex:Bool) (ft:List Nat) (d:Nat) (L1:SL):dR false ex ft d (some L1)=if okR (z7t L1)=true∧ex=true then some (z7t L1,ft,ft) else none:=rfl
@[simp] theorem yo8 (L:SL) (c:COp):zmh L c=dR (z33 L c) (z61 L c) (z1o (fnL L) c) (dOf c) (z3v L c):=by
 simp only[zmh]
 cases z3v L c<;>rfl
def dF (fs:Fs):Option (SL × List Nat × List Nat)→Option (SL × Fs)
 | some p=>some (p.1,p.2 :: fs)
 | none=>none
@[simp] theorem yo9 (fs:Fs) (L:SL) (a b:List Nat):dF fs (some (L,a,b))=some (L,(a,b) :: fs):=rfl
@[simp] theorem y34 (L:SL) (fs:Fs) (c:COp):zoj (some (L,fs)) c=dF fs (zmh L c):=by
 simp only[zoj]
 cases zmh L c<;>rfl
@[simp] theorem zwl (t:Nat) (w:Bool) (L:SL) (fs:Fs) (c:COp):zg2 t w (some (L,fs)) c=dF fs (z9k t w L c (gv w (fnL L (100 * t)).2)):=by
 simp only[zg2]
 cases z9k t w L c (gv w (fnL L (100 * t)).2)<;>rfl
def dT (t:Nat):Option (SL × List Nat × List Nat)→Option (SL × List Nat × List Nat)
 | some p=>some (p.1,2 * t :: p.2.1,p.2.2)
 | none=>none
@[simp] theorem yoa (t:Nat) (L:SL) (a b:List Nat):dT t (some (L,a,b))=some (L,2 * t :: a,b):=rfl
@[simp] theorem y35 (t:Nat) (w:Bool) (L:SL) (c:COp):z9k t w L c (some true)=dT t (zmh L c):=by
 simp only[z9k]
 cases zmh L c<;>rfl
def skD (t:Nat)(L:SL):COp→Option (SL × List Nat × List Nat)
 | .st _ _ _=>some (L,[2 * t],[])
 | c=>some (z0l L (100 * dOf c) (.sc undef),[2 * t,2 * dOf c],[2 * dOf c])
@[simp] theorem zwm (t:Nat) (w:Bool) (L:SL) (c:COp):z9k t w L c (some false)=skD t L c:=by
 cases c<;>rfl
@[simp] theorem ym5 (r:Option (SL × Fs)):zok [] r=r:=rfl
@[simp] theorem y55 (c:COp) (l:List COp) (r:Option (SL × Fs)):zok (c :: l) r=zok l (zoj r c):=rfl
@[simp] theorem y56 (t:Nat) (w:Bool) (r:Option (SL × Fs)):zb9 t w [] r=r:=rfl
@[simp] theorem y36 (t:Nat) (w:Bool) (c:COp) (l:List COp) (r:Option (SL × Fs)):zb9 t w (c :: l) r=zb9 t w l (zg2 t w r c):=rfl
@[simp] theorem y57 (r:Option (SL × Fs)):z71 [] r=r:=rfl
@[simp] theorem yob (l:List COp) (s:List Sg) (r:Option (SL × Fs)):z71 (.o l :: s) r=z71 s (zok l r):=rfl
@[simp] theorem yoc (t:Nat) (w:Bool) (l:List COp) (s:List Sg) (r:Option (SL × Fs)):z71 (.g t w l :: s) r=z71 s (zb9 t w l r):=rfl
def exR (L:SL)(n:Nat)(a v:COd):Option SL→Bool
 | some L1=>(uO (fnL L1) a ++ bu (rd (fnL L1) a) n).all fun u=>(z1o (fnL L) (.st n a v)).contains u
 | none=>false
@[simp] theorem ym6 (L:SL) (n:Nat) (a v:COd) (L1:SL):exR L n a v (some L1)=(uO (fnL L1) a ++ bu (rd (fnL L1) a) n).all fun u=>(z1o (fnL L) (.st n a v)).contains u:=rfl
@[simp] theorem ym7 (L:SL) (n:Nat) (a v:COd):z61 L (.st n a v)=exR L n a v (z0w L v):=by
 simp only[z61,exR]
 cases z0w L v<;>rfl
attribute [simp] skD z33 z1o uR uO uOs uO? ru z14 z7t okR z9j bu luK luR luO zi7
section
variable (L:SL) (d:Nat)
def ywf (f:Nat)(cs:List AU):Option AU:=if z7m cs=true then some (.clos f cs) else none
@[simp] theorem yod (f:Nat) (cs:List AU):ywf f cs=if z7m cs=true then some (.clos f cs) else none:=rfl
@[simp] theorem ym8 (f:Nat) (cs:List COd):z3v L (.mkf d f cs)=z72 L d (ywf f (caps (fnL L) cs)):=z0y L _
def ywg (off:Nat):AU→Option AU
 | .agg cs=>(cs[off]?).bind fun u=>zlg u
 | _=>none
@[simp] theorem ym9 (off:Nat) (cs:List AU):ywg off (.agg cs)=(cs[off]?).bind fun u=>zlg u:=rfl
@[simp] theorem yma (off:Nat) (c:COd):z3v L (.fld d off c)=z72 L d (ywg off (rd (fnL L) c)):=by
 refine (z0y L _).trans ?_
 simp only[dOf,z1l]
 generalize rd (fnL L) c=v
 cases v<;>rfl
def yoe (cs:List AU):Option AU:=if cs.all z1b=true then some (.sl true () 1 cs.length cs) else none
@[simp] theorem yof (cs:List AU):yoe cs=if cs.all z1b=true then some (.sl true () 1 cs.length cs) else none:=rfl
theorem zbd (X:XF Unit):∀ cs:List COd,(caps X cs).length=cs.length
 | []=>rfl
 | _ :: cs=>by simp only[caps,sd,zbd X cs]
@[simp] theorem ymb (cs:List COd):z3v L (.bsn d cs)=z72 L d (yoe (caps (fnL L) cs)):=by
 refine (z0y L _).trans ?_
 simp only[dOf,z1l,yoe,zbd]
def ywh (s m:Nat):Option (List AU)→Option AU
 | some l=>some (.sl true () s m l)
 | none=>none
@[simp] theorem y58 (s m:Nat) (l:List AU):ywh s m (some l)=some (.sl true () s m l):=rfl
@[simp] theorem ymc (s:Nat):zl5 s ([]:List AU)=some []:=rfl
@[simp] theorem y59 (s:Nat) (l:List AU) (r:List AU):zl5 s (.agg l :: r)=if l.length=s∧l.all z1b=true then (zl5 s r).map (fun q=>l ++ q) else none:=rfl
@[simp] theorem ymd (s:Nat) (cs:List COd):z3v L (.bsa d s cs)=z72 L d (ywh s cs.length (zl5 s (caps (fnL L) cs))):=by
 refine (z0y L _).trans ?_
 simp only[dOf,z1l]
 cases zl5 s (caps (fnL L) cs)<;>rfl
@[simp] theorem yme (eq:Bool):zrw eq (.sc .nilFunc)=some (.sc (.bool eq)):=rfl
@[simp] theorem y5a (eq:Bool) (f:Nat) (cs:List AU):zrw eq (.clos f cs)=some (.sc (.bool (!eq))):=rfl
@[simp] theorem y5b (eq:Bool) (c:COd):z3v L (.funq d eq c)=z72 L d (zrw eq (rd (fnL L) c)):=z0y L _
def axV (X:XF Unit)(s n:Nat)(v:AU):AU→Option AU
 | .sc (.int _ j)=>zcj X s n v j
 | _=>none
@[simp] theorem yxb (X:XF Unit) (s n:Nat) (v:AU) (k:IntKind) (j:Int):axV X s n v (.sc (.int k j))=if 0≤j∧j < n∧1 < n then z3p X (j.toNat * s) v else none:=rfl
@[simp] theorem y37 (s n:Nat) (c i:COd):z3v L (.aaddr d s n c i)=z72 L d (axV (fnL L) s n (rd (fnL L) c) (rd (fnL L) i)):=by
 refine (z0y L _).trans ?_
 simp only[dOf,z1l,axV]
 rfl
@[simp] theorem yog (m g n:Nat) (u:Unit) (cs:List AU):y44 m g (.sl true u 1 (n+1) cs)=some (.view (100 * m) g [] 0 (n+1)):=rfl
@[simp] theorem ymf (m:Nat):z3v L (.cvb d m)=z72 L d (y44 m (fnL L (100 * m)).1 (fnL L (100 * m)).2):=z0y L _
@[simp] theorem ywi (s:ByteArray):y45 (.sc (.string s))=some (.sl true () 1 s.size (y2f s)):=rfl
@[simp] theorem ymg (c:COd):z3v L (.s2b d c)=z72 L d (y45 (rd (fnL L) c)):=z0y L _
def yoh (s:ByteArray):Option Nat→Option Nat→Option AU
 | some lo,some hi=>if lo≤hi∧hi≤s.size then some (.sc (.string (s.extract lo hi))) else none
 | _,_=>none
@[simp] theorem y5c (s:ByteArray) (lo hi:Nat):yoh s (some lo) (some hi)=if lo≤hi∧hi≤s.size then some (.sc (.string (s.extract lo hi))) else none:=rfl
def yoi (l h:Option AU):AU→Option AU
 | .sc (.string s)=>yoh s (zi8 0 l) (zi8 s.size h)
 | _=>none
@[simp] theorem ywj (l h:Option AU) (s:ByteArray):yoi l h (.sc (.string s))=yoh s (zi8 0 l) (zi8 s.size h):=rfl
@[simp] theorem ymh (c:COd) (l h:Option COd):z3v L (.ssl d c l h)=z72 L d (yoi (l.map (rd (fnL L))) (h.map (rd (fnL L))) (rd (fnL L) c)):=by
 refine (z0y L _).trans ?_
 simp only[dOf,z1l]
 congr 1
 generalize rd (fnL L) c=v
 unfold y46 yoi
 split
 ·rename_i s
  simp only[zu8]
  cases zi8 0 (l.map (rd (fnL L))) with
  | none=>rfl
  | some lo=>cases zi8 s.size (h.map (rd (fnL L)))<;>rfl
 ·rename_i hs
  split
  ·exact absurd rfl (hs _)
  ·rfl
@[simp] theorem ywk (s:ByteArray) (k:IntKind) (j:Int):y47 (.sc (.string s)) (.sc (.int k j))=if 0≤j then (s[j.toNat]?).map fun b=>.sc (.int .u8 b.toNat) else none:=rfl
@[simp] theorem ymi (c i:COd):z3v L (.six d c i)=z72 L d (y47 (rd (fnL L) c) (rd (fnL L) i)):=z0y L _
@[simp] theorem ymj (s:Nat) (a b:COd):z3v L (.cpy d s a b)=y2n L d s a b:=rfl
def cpN (s:Nat)(dst:AU):Option (List AU)→Option SL
 | some news=>if news.all zjc=true∧0 < s then y2m L d s news dst else none
 | none=>none
@[simp] theorem ymk (s:Nat) (dst:AU) (news:List AU):cpN L d s dst (some news)=if news.all zjc=true∧0 < s then y2m L d s news dst else none:=rfl
@[simp] theorem yoj (s:Nat) (a b:COd):y2n L d s a b=cpN L d s (rd (fnL L) a) (z1q (fnL L) s (rd (fnL L) b)):=by
 simp only[y2n]
 cases z1q (fnL L) s (rd (fnL L) b)<;>rfl
@[simp] theorem y5d (s k g off n:Nat) (p:List Nat) (news:List AU):y2m L d s news (.view k g p off n)=if (fnL L k).1=g∧k ≠ 100 * hh∧z4k (fnL L k).2 p=true then yl1 L d k n s p news (cpT n off s news (z0o (fnL L k).2 p)) else none:=rfl
@[simp] theorem y5e (k n s:Nat) (p:List Nat) (news:List AU) (N:AU):yl1 L d k n s p news (some N)=some (z0l (z9h (z0l L (100 * hh) .non) k (z0z (fnL L k).2 p N)) (100 * d) (.sc (.int .i64 (min (news.length / s) n:Nat)))):=rfl
end
def aoT (L0:SL)(d s b:Nat):Option SL→Option SL
 | some X1=>y2l X1 d s b (fnL (zl8 L0) (100 * hh)).1 (fnL X1 (100 * H)).2 (fnL X1 (100 * hh)).2
 | none=>none
@[simp] theorem yml (L0:SL) (d s b:Nat) (X1:SL):aoT L0 d s b (some X1)=y2l X1 d s b (fnL (zl8 L0) (100 * hh)).1 (fnL X1 (100 * H)).2 (fnL X1 (100 * hh)).2:=rfl
def aoS (d s b:Nat)(cx:COd):Option SL→Option SL
 | some X0=>if slB (fnL X0 (100 * H)).2=false then none else aoT X0 d s b (z0w (zl8 X0) cx)
 | none=>none
@[simp] theorem ymm (d s b:Nat) (cx:COd) (X0:SL):aoS d s b cx (some X0)=if slB (fnL X0 (100 * H)).2=false then none else aoT X0 d s b (z0w (zl8 X0) cx):=rfl
@[simp] theorem ymn (L:SL) (d s b:Nat) (cx cy:COd):zl9 L d s b cx cy=aoS d s b cx (z0w L cy):=by
 simp only[zl9]
 cases z0w L cy with
 | none=>rfl
 | some X0 =>
  simp only[po,aoS]
  split
  ·rfl
  ·cases z0w (zl8 X0) cx<;>rfl
def plR:Option (List AU)→Bool
 | some news=>news.all z1b
 | none=>false
@[simp] theorem ymo (news:List AU):plR (some news)=news.all z1b:=rfl
@[simp] theorem y5f (X:XF Unit) (s:Nat) (c:COd):z6p X s c=plR (z1q X s (rd X c)):=rfl
def exA (L:SL)(d s b:Nat)(x y:COd):Option SL→Bool
 | some L0=>(uO (fnL (zl8 L0)) x).all fun u=>(z1o (fnL L) (.app d s b x y)).contains u
 | none=>false
@[simp] theorem ymp (L:SL) (d s b:Nat) (x y:COd) (L0:SL):exA L d s b x y (some L0)=(uO (fnL (zl8 L0)) x).all fun u=>(z1o (fnL L) (.app d s b x y)).contains u:=rfl
@[simp] theorem y5g (L:SL) (d s:Nat) (c:COd):z61 L (.bs1 d s c)=true:=rfl
@[simp] theorem y5h (L:SL) (d s:Nat):z61 L (.bs0 d s)=true:=rfl
@[simp] theorem y5i (L:SL) (d:Nat) (cs:List COd):z61 L (.bsn d cs)=true:=rfl
@[simp] theorem y5j (L:SL) (d s:Nat) (a b:COd):z61 L (.cpy d s a b)=true:=rfl
@[simp] theorem y38 (L:SL) (d s b:Nat) (zs:List AU) (l c:COd):z61 L (.make d s b zs l c)=true:=rfl
@[simp] theorem y5k (L:SL) (d:Nat) (c:COd):z61 L (.b2s d c)=true:=rfl
@[simp] theorem y5l (L:SL) (d s b:Nat) (x y:COd):z61 L (.app d s b x y)=if z6p (fnL L) s y=true then true else exA L d s b x y (z0w L y):=by
 simp only[z61]
 split
 ·rfl
 ·cases z0w L y<;>rfl
attribute [simp] zl8 y2l slB z6w rdC zi0
attribute [simp] caps z7m z1b hh cpT zjc z1q u8L z13 trA trL zn1 z1p z0x ztz z9g z0s z1d z6j zvq z5o z17 z1v opL z6k z3r y4e z9u
theorem we {P:Program}{nt:Nat}{L:SL}{Q:Ex→SL→Prop}{a:Cd}(N:Nat)(S:Nat→SL)(Pr:Nat→Prop)(hL:L=S 0)(h0:Pr 0)
  (h:∀ i,i≤N→Pr i→WL P nt a (S i) (wg (fun L'=>i < N∧L'=S (i+1)∧Pr (i+1)) Q)):WL P nt (.loop a) L Q:=by
 refine WL.loop (ι:={i:Nat // i≤N∧Pr i}) (fun i=>S i.1) (fun i=>N - i.1) ⟨0,rh _,h0⟩ hL fun i=>?_
 refine (h i.1 i.2.1 i.2.2).mono fun e L' hq=>?_
 cases e with
 | nrm =>
  obtain⟨h1,h2,h3⟩:=hq
  exact⟨⟨i.1+1,h1,h3⟩,h2,by simp only;omega⟩
 | ext id=>exact hq
 | ret=>exact hq
theorem wq (next:SL→Prop)(Q:Ex→SL→Prop)(L:SL):wg next Q .nrm L=next L:=rfl
theorem nb (next:SL→Prop)(Q:Ex→SL→Prop)(L:SL):wg next Q .ret L=Q .ret L:=rfl
theorem wx (next:SL→Prop)(Q:Ex→SL→Prop)(id:Nat)(L:SL):wg next Q (.ext id) L=Q (.ext id) L:=rfl
theorem nj (Q:Ex→SL→Prop)(id:Nat)(L:SL):wj id Q .nrm L=Q .nrm L:=rfl
theorem ni (Q:Ex→SL→Prop)(id:Nat)(L:SL):wj id Q .ret L=Q .ret L:=rfl
theorem n4 (Q:Ex→SL→Prop)(id id':Nat)(L:SL):wj id Q (.ext id') L=if id'=id then Q .nrm L else Q (.ext id') L:=rfl
attribute [simp] wq nb wx nj ni n4
def yok (dead:List Nat):Option SL→Option SL
 | some L=>zmg dead L
 | none=>none
@[simp] theorem y5m (dead:List Nat) (L:SL):yok dead (some L)=yo1 (z9i (z5z dead L)) dead:=rfl
theorem pa {P:Program}{nt:Nat}{L L':SL}{dead:List Nat}{segs:List Sg}(h:yok dead (z5p segs (some L))=some L'):WL P nt (.reg dead segs) L fun e L1=>e=.nrm∧L1=L':=by
 cases hr:z5p segs (some L) with
 | none=>rw [hr] at h;cases h
 | some L1=>rw [hr] at h;exact WL.reg (RL.run hr ⟨L',h,rfl,rfl⟩)
theorem nc {P:Program}{nt:Nat}{L:SL}{Q:Ex→SL→Prop}{dead:List Nat}{segs:List Sg}{c:COd}{a y:Cd}(b:Bool)(L':SL)(h:yok dead (z5p segs (some L))=some L')(hb:rd (fnL L') c=.sc (.bool b))(ht:b=true→WL P nt a L' Q)(hf:b=false→WL P nt y L' Q) :
  WL P nt (.seq (.reg dead segs) (.cond c a y)) L Q :=
 ww L' (pa h) (WL.cond hb ht hf)
@[simp] theorem y5n {α L:Type} (f:α→AV L) (l:List α):z0x (l.map f)=l.map fun x=>z1p (f x):=by
 rw[z3n,rr];rfl
end Go.OT
