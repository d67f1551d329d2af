/- Part 1 of the proof: see its last file. -/
import Derived.Orders
import Derived.Below
import Derived.Laws.Entries
import Derived.Laws.Cells
import Derived.Laws.IdiomCopy
set_option linter.unusedSimpArgs false
set_option linter.unusedVariables false
namespace Go.OT
structure Loc where
 b:Nat
 o:Nat
 cap:Nat
abbrev LO:=Option Loc
inductive AV (L:Type) where
 | sc (v:Value)
 | sl (own:Bool) (l:L) (sz len:Nat) (cells:List (AV L))
 | bx (own:Bool) (l:L) (cells:List (AV L))
 | view (k g:Nat) (p:List Nat) (off len:Nat)
 | ptr (k g:Nat) (p:List Nat) (i:Nat)
 | bptr (b g i:Nat)
 | vptr (l:L) (cells:List (AV L))
 | agg (cells:List (AV L))
 | tuple (vs:List (AV L))
 | clos (f:FuncId) (caps:List (AV L))
 | mp (own:Bool) (l:L) (cells:List (AV L))
 | mv (k g:Nat) (p:List Nat)
 | dead
 | non
 deriving Inhabited
abbrev AU:=AV Unit
abbrev AL:=AV LO
section
variable {L:Type}
def AV.cells?:AV L→Option (List (AV L))
 | .sl _ _ _ _ cs=>some cs
 | .bx _ _ cs=>some cs
 | _=>none
def getN:AV L→List Nat→Option (AV L)
 | v,[]=>some v
 | v,i :: p=>match v.cells? with
  | some cs=>match cs[i]? with
   | some u=>getN u p
   | none=>none
  | none=>none
def AV.withCells:AV L→List (AV L)→AV L
 | .sl o l s n _,cs=>.sl o l s n cs
 | .bx o l _,cs=>.bx o l cs
 | v,_=>v
def setN:AV L→List Nat→AV L→AV L
 | _,[],u=>u
 | v,i :: p,u=>match v.cells? with
  | some cs=>v.withCells (cs.set i (setN (cs.getD i .non) p u))
  | none=>v
end
mutual
def er:AL→AU
 | .sc v=>.sc v
 | .sl o _ s n cs=>.sl o () s n (erL cs)
 | .bx o _ cs=>.bx o () (erL cs)
 | .view k g p off len=>.view k g p off len
 | .ptr k g p i=>.ptr k g p i
 | .bptr b g i=>.bptr b g i
 | .vptr _ cs=>.vptr () (erL cs)
 | .agg cs=>.agg (erL cs)
 | .tuple vs=>.tuple (erL vs)
 | .clos f caps=>.clos f (erL caps)
 | .mp o _ cs=>.mp o () (erL cs)
 | .mv k g p=>.mv k g p
 | .dead=>.dead
 | .non=>.non
def erL:List AL→List AU
 | []=>[]
 | c :: cs=>er c :: erL cs
end
theorem erL_eq (cs:List AL):erL cs=cs.map er:=by
 induction cs with
 | nil=>rfl
 | cons c cs ih=>simp [erL,ih]
theorem er_cells (v:AL):(er v).cells?=v.cells?.map (·.map er):=by
 cases v<;>simp [er,AV.cells?,erL_eq]
theorem er_getN (p:List Nat):∀ v:AL,getN (er v) p=(getN v p).map er:=by
 induction p with
 | nil=>intro v;simp[getN]
 | cons i p ih =>
  intro v
  simp only[getN,er_cells]
  cases hc:v.cells? with
  | none=>simp
  | some cs =>
   simp only[Option.map_some,List.getElem?_map]
   cases hi:cs[i]? with
   | none=>simp
   | some u=>simpa using ih u
theorem er_withCells (v:AL)(cs:List AL):er (v.withCells cs)=(er v).withCells (cs.map er):=by
 cases v<;>simp [er,AV.withCells,erL_eq]
theorem er_setN (p:List Nat)(u:AL):∀ v:AL,er (setN v p u)=setN (er v) p (er u):=by
 induction p with
 | nil=>intro v;simp[setN]
 | cons i p ih =>
  intro v
  simp only[setN,er_cells]
  cases hc:v.cells? with
  | none=>simp
  | some cs =>
   simp only[Option.map_some,er_withCells,List.map_set,ih]
   congr 3
   simp only[List.getD_eq_getElem?_getD,List.getElem?_map]
   cases cs[i]?<;>simp [er]
mutual
def fp:AL→Nat→Nat→Prop
 | .sl true (some l) sz _ cs,b,o=>(b=l.b∧l.o≤o∧o < l.o+l.cap * sz)∨fpL cs b o
 | .bx true (some l) cs,b,o=>(b=l.b∧l.o≤o∧o < l.o+cs.length)∨fpL cs b o
 | .agg cs,b,o=>fpL cs b o
 | .tuple cs,b,o=>fpL cs b o
 | .mp true (some l) _,b,o=>b=l.b∧o=0
 | _,_,_=>False
def fpL:List AL→Nat→Nat→Prop
 | [],_,_=>False
 | c :: cs,b,o=>fp c b o∨fpL cs b o
end
theorem fpL_iff {cs:List AL}{b o:Nat}:fpL cs b o ↔ ∃ c ∈ cs,fp c b o:=by
 induction cs with
 | nil=>simp [fpL]
 | cons c cs ih=>simp [fpL,ih]
mutual
def Sep:AL→Prop
 | .sl true (some l) sz _ cs=>(∀ j,j < l.cap * sz→¬ fpL cs l.b (l.o+j))∧SepL cs
 | .bx true (some l) cs=>(∀ j,j < cs.length→¬ fpL cs l.b (l.o+j))∧SepL cs
 | .agg cs=>SepL cs
 | .tuple cs=>SepL cs
 | _=>True
def SepL:List AL→Prop
 | []=>True
 | c :: cs=>Sep c∧SepL cs∧∀ b o,fp c b o→fpL cs b o→False
end
def CR:AL→Value→Prop
 | .sc v,x=>x=v
 | .sl o none _ n _,x=>(x=.slice none 0 0∨o=false∧∃ a,x=.slice a 0 0)∧n=0
 | .sl _ (some l) _ n _,x=>x=.slice (some ⟨l.b,l.o,none⟩) n l.cap
 | .bx _ (some l) _,x=>x=.pointer (some ⟨l.b,l.o,none⟩)
 | .mp _ (some l) _,x=>x=.map (some l.b)
 | .dead,_=>True
 | _,_=>False
inductive Hp where
 | v (y:Value)
 | m (es:Array MapEntry) (ck:Nat)
def _root_.Go.World.at (w:World)(b o:Nat):Option Hp :=
 match w.heap[b]? with
 | some (.cells c _ _)=>(c[o]?).map Hp.v
 | some (.map es ck)=>if o=0 then some (.m es ck) else none
 | _=>none
theorem at_v {w:World}{b o:Nat}{y:Value}:w.at b o=some (.v y) ↔ w.cell? ⟨b,o,none⟩=some y:=by
 unfold World.at World.cell?
 split<;>simp_all
theorem at_m {w:World}{b o:Nat}{es:Array MapEntry}{ck:Nat}:w.at b o=some (.m es ck) ↔ o=0∧w.heap[b]?=some (.map es ck):=by
 unfold World.at
 split<;>simp_all
def flatE:List MapEntry→List Value
 | []=>[]
 | e :: l=>e.key :: e.val :: flatE l
def EOk (es:Array MapEntry)(ck:Nat):Prop:=(es.toList.map (·.born)).Nodup∧∀ e ∈ es.toList,e.born < ck
def _root_.Go.World.fz (w:World)(b o:Nat):Bool :=
 match w.heap[b]? with
 | some (.cells _ _ (lo,hi))=>decide (lo ≠ hi) && decide (lo≤o)
 | _=>false
theorem fz_frozen {w:World}{b o:Nat}(h:w.fz b o=false):w.frozen? ⟨b,o,none⟩=false:=by
 unfold World.fz at h
 unfold World.frozen?
 split at h
 ·rename_i c e lo hi hc
  simp only[hc]
  simp only[Bool.and_eq_false_iff,decide_eq_false_iff_not] at h ⊢
  omega
 ·rename_i hc
  split
  ·rename_i c e lo hi hc'
   exact absurd hc' (hc _ _ _ _)
  ·rfl
def RoomC (w:World)(b o n:Nat):Prop:=∀ j,j < n→∃ y,w.at b (o+j)=some (.v y)
theorem RoomC.sub {w:World}{b o n off m:Nat}(h:RoomC w b o n)(hm:off+m≤n):RoomC w b (o+off) m:=fun j hj=>by
 have:=h (off+j) (by omega)
 rwa [← Nat.add_assoc] at this
theorem RoomC.zero {w:World}{b o:Nat}:RoomC w b o 0:=fun j hj=>absurd hj (Nat.not_lt_zero _)
mutual
def Mem (w:World)(I:Nat→Nat→Prop):AL→Prop
 | .sl _ none _ n cs=>n=0∧cs=[]
 | .sl own (some l) sz n cs=>cs.length=n * sz∧n≤l.cap∧MemL w I own cs l.b l.o∧(own=true→RoomC w l.b l.o (l.cap * sz)∧(0 < sz→l.cap≤9223372036854775807))
 | .bx own (some l) cs=>MemL w I own cs l.b l.o
 | .bx _ none _=>False
 | .vptr (some l) cs=>MemL w I false cs l.b l.o
 | .vptr none _=>False
 | .agg cs=>MemA w I cs
 | .tuple cs=>MemA w I cs
 | .clos _ cs=>MemA w I cs∧∀ b o,¬ fpL cs b o
 | .mp own (some l) cs=>(∃ es ck,w.at l.b 0=some (.m es ck)∧EOk es ck∧MemK w I cs (flatE es.toList))∧(own=false→I l.b 0)
 | .mp _ none _=>False
 | _=>True
def MemL (w:World)(I:Nat→Nat→Prop)(own:Bool):List AL→Nat→Nat→Prop
 | [],_,_=>True
 | c :: cs,b,o=>(∃ y,w.at b o=some (.v y)∧CR c y)∧Mem w I c∧(own=false→I b o∧∀ b' o',¬ fp c b' o')∧MemL w I own cs b (o+1)
def MemA (w:World)(I:Nat→Nat→Prop):List AL→Prop
 | []=>True
 | c :: cs=>Mem w I c∧MemA w I cs
def MemK (w:World)(I:Nat→Nat→Prop):List AL→List Value→Prop
 | [],ys=>ys=[]
 | c :: cs,ys=>∃ y r,ys=y :: r∧CR c y∧Mem w I c∧(∀ b o,¬ fp c b o)∧MemK w I cs r
end
theorem MemA_iff {w:World}{I:Nat→Nat→Prop}{cs:List AL}:MemA w I cs ↔ ∀ c ∈ cs,Mem w I c:=by
 induction cs with
 | nil=>simp [MemA]
 | cons c cs ih=>simp [MemA,ih]
theorem MemL_iff {w:World}{I:Nat→Nat→Prop}{own:Bool}{cs:List AL}{b o:Nat} :
  MemL w I own cs b o ↔ ∀ i c,cs[i]?=some c→(∃ y,w.at b (o+i)=some (.v y)∧CR c y)∧Mem w I c∧(own=false→I b (o+i)∧∀ b' o',¬ fp c b' o'):=by
 induction cs generalizing o with
 | nil=>simp [MemL]
 | cons c cs ih =>
  simp only[MemL,ih]
  constructor
  ·rintro⟨h1,h2,h3,h4⟩ i u hu
   cases i with
   | zero=>simp at hu;subst hu;exact⟨h1,h2,h3⟩
   | succ i=>simp at hu;have:=h4 i u hu;rwa [Nat.add_assoc,Nat.add_comm 1 i] at this
  ·intro h
   have h0:=h 0 c rfl
   refine⟨h0.1,h0.2.1,h0.2.2,fun i u hu=>?_⟩
   have:=h (i+1) u (by simpa using hu)
   rwa [Nat.add_assoc,Nat.add_comm 1 i]
theorem SepL_iff {cs:List AL}:SepL cs ↔ (∀ c ∈ cs,Sep c)∧∀ (i j:Nat) (u v:AL),i < j→cs[i]?=some u→cs[j]?=some v→∀ b o,fp u b o→fp v b o→False:=by
 induction cs with
 | nil=>simp [SepL]
 | cons c cs ih =>
  simp only[SepL,ih]
  constructor
  ·rintro⟨h1,⟨h2,h3⟩,h4⟩
   refine⟨by intro d hd;rcases List.mem_cons.1 hd with rfl | hd;exact h1;exact h2 d hd,?_⟩
   intro i j u v hij hu hv b o hub hvb
   cases j with
   | zero=>omega
   | succ j =>
    simp at hv
    cases i with
    | zero=>simp at hu;subst hu;exact h4 b o hub (fpL_iff.2 ⟨v,List.mem_of_getElem? hv,hvb⟩)
    | succ i=>simp at hu;exact h3 i j u v (by omega) hu hv b o hub hvb
  ·rintro⟨h1,h2⟩
   refine⟨h1 c (by simp),⟨fun d hd=>h1 d (by simp[hd]),fun i j u v hij hu hv=>h2 (i+1) (j+1) u v (by omega) (by simpa using hu) (by simpa using hv)⟩,?_⟩
   intro b o hc hcs
   obtain⟨d,hd,hdb⟩:=fpL_iff.1 hcs
   obtain⟨j,hj⟩:=List.getElem?_of_mem hd
   exact h2 0 (j+1) c d (by omega) rfl (by simpa using hj) b o hc hdb
end Go.OT
namespace Go.OT
abbrev ASet:=Nat→Nat→Prop
mutual
theorem Mem_frame {w w':World}{I I':ASet}:∀ (v:AL),Mem w I v→(∀ b o,fp v b o→w'.at b o=w.at b o) →
  (∀ b o,I b o→w'.at b o=w.at b o∧I' b o)→Mem w' I' v
 | .sl own none sz n cs,h,_,_=>by simpa [Mem] using h
 | .sl true (some l) sz n cs,h,hf,hi=>by
  simp only[Mem] at h ⊢
  refine⟨h.1,h.2.1,MemL_frame true cs l.b l.o h.2.2.1 (fun i hlt=>hf _ _ ?_) (fun b o hb=>hf b o ?_) hi,fun _=>⟨fun j hj=>?_,(h.2.2.2 trivial).2⟩⟩
  rotate_right
  ·rw[hf l.b (l.o+j) (by simp only[fp];exact .inl ⟨trivial,by omega,by omega⟩)]
   exact (h.2.2.2 trivial).1 j hj
  ·simp only[fp];refine .inl ⟨trivial,by omega,?_⟩
   have:=Nat.mul_le_mul_right sz h.2.1
   omega
  ·simp only[fp];exact .inr hb
 | .sl false (some l) sz n cs,h,_,hi=>by
  simp only[Mem] at h ⊢
  exact⟨h.1,h.2.1,MemI_frame cs l.b l.o h.2.2.1 hi,fun e=>by cases e⟩
 | .bx true (some l) cs,h,hf,hi=>by
  simp only[Mem] at h ⊢
  refine MemL_frame true cs l.b l.o h (fun i hlt=>hf _ _ ?_) (fun b o hb=>hf b o ?_) hi
  ·simp only[fp];exact .inl ⟨trivial,by omega,by omega⟩
  ·simp only[fp];exact .inr hb
 | .bx false (some l) cs,h,_,hi=>by
  simp only[Mem] at h ⊢
  exact MemI_frame cs l.b l.o h hi
 | .bx own none cs,h,_,_=>by simp[Mem] at h
 | .vptr (some l) cs,h,_,hi=>by
  simp only[Mem] at h ⊢
  exact MemI_frame cs l.b l.o h hi
 | .vptr none cs,h,_,_=>by simp[Mem] at h
 | .agg cs,h,hf,hi=>by
  simp only[Mem,fp] at h hf ⊢
  exact MemA_frame cs h hf hi
 | .tuple cs,h,hf,hi=>by
  simp only[Mem,fp] at h hf ⊢
  exact MemA_frame cs h hf hi
 | .clos f cs,h,_,hi=>by
  simp only[Mem] at h ⊢
  exact⟨MemA_frame cs h.1 (fun b o hb=>absurd hb (h.2 b o)) hi,h.2⟩
 | .mp true (some l) cs,h,hf,hi=>by
  simp only[Mem] at h ⊢
  obtain⟨⟨es,ck,h1,h2,h3⟩,_⟩:=h
  exact⟨⟨es,ck,by rw[hf l.b 0 (by simp[fp])];exact h1,h2,MemK_frame cs _ h3 hi⟩,fun e=>by cases e⟩
 | .mp false (some l) cs,h,_,hi=>by
  simp only[Mem] at h ⊢
  obtain⟨⟨es,ck,h1,h2,h3⟩,h4⟩:=h
  exact⟨⟨es,ck,by rw[(hi l.b 0 (h4 trivial)).1];exact h1,h2,MemK_frame cs _ h3 hi⟩,fun e=>(hi l.b 0 (h4 trivial)).2⟩
 | .mp _ none cs,h,_,_=>by simp[Mem] at h
 | .mv k g p,_,_,_=>by simp[Mem]
 | .sc v,_,_,_=>by simp[Mem]
 | .view k g p off len,_,_,_=>by simp[Mem]
 | .ptr k g p i,_,_,_=>by simp[Mem]
 | .bptr b g i,_,_,_=>by simp[Mem]
 | .dead,_,_,_=>by simp[Mem]
 | .non,_,_,_=>by simp[Mem]
theorem MemL_frame {w w':World}{I I':ASet}(own:Bool):∀ (cs:List AL) (b o:Nat),MemL w I own cs b o→(∀ i,i < cs.length→w'.at b (o+i)=w.at b (o+i)) →
  (∀ b o,fpL cs b o→w'.at b o=w.at b o)→(∀ b o,I b o→w'.at b o=w.at b o∧I' b o)→MemL w' I' own cs b o
 | [],_,_,_,_,_,_=>by simp[MemL]
 | c :: cs,b,o,h,ha,hf,hi=>by
  simp only[MemL] at h ⊢
  obtain⟨⟨y,hy,hc⟩,hm,hn,hr⟩:=h
  refine⟨⟨y,?_,hc⟩,Mem_frame c hm (fun b o hb=>hf b o (by simp[fpL,hb])) hi,fun e=>⟨(hi _ _ (hn e).1).2,(hn e).2⟩,?_⟩
  ·have:=ha 0 (by simp);simp at this;rw[this];exact hy
  ·refine MemL_frame own cs b (o+1) hr (fun i hlt=>?_) (fun b o hb=>hf b o (by simp[fpL,hb])) hi
   have:=ha (i+1) (by simp;omega)
   rwa [Nat.add_assoc,Nat.add_comm 1 i]
theorem MemI_frame {w w':World}{I I':ASet}:∀ (cs:List AL) (b o:Nat),MemL w I false cs b o →
  (∀ b o,I b o→w'.at b o=w.at b o∧I' b o)→MemL w' I' false cs b o
 | [],_,_,_,_=>by simp[MemL]
 | c :: cs,b,o,h,hi=>by
  simp only[MemL] at h ⊢
  obtain⟨⟨y,hy,hc⟩,hm,hn,hr⟩:=h
  have hn':=hn trivial
  exact⟨⟨y,by rw[(hi _ _ hn'.1).1];exact hy,hc⟩,Mem_frame c hm (fun b o hb=>absurd hb (hn'.2 b o)) hi,fun _=>⟨(hi _ _ hn'.1).2,hn'.2⟩,MemI_frame cs b (o+1) hr hi⟩
theorem MemA_frame {w w':World}{I I':ASet}:∀ (cs:List AL),MemA w I cs→(∀ b o,fpL cs b o→w'.at b o=w.at b o) →
  (∀ b o,I b o→w'.at b o=w.at b o∧I' b o)→MemA w' I' cs
 | [],_,_,_=>by simp[MemA]
 | c :: cs,h,hf,hi=>by
  simp only[MemA] at h ⊢
  exact⟨Mem_frame c h.1 (fun b o hb=>hf b o (by simp[fpL,hb])) hi,MemA_frame cs h.2 (fun b o hb=>hf b o (by simp[fpL,hb])) hi⟩
theorem MemK_frame {w w':World}{I I':ASet}:∀ (cs:List AL) (ys:List Value),MemK w I cs ys →
  (∀ b o,I b o→w'.at b o=w.at b o∧I' b o)→MemK w' I' cs ys
 | [],_,h,_=>by simpa [MemK] using h
 | c :: cs,ys,h,hi=>by
  simp only[MemK] at h ⊢
  obtain⟨y,r,h1,h2,h3,h4,h5⟩:=h
  exact⟨y,r,h1,h2,Mem_frame c h3 (fun b o hb=>absurd hb (h4 b o)) hi,h4,MemK_frame cs r h5 hi⟩
end
def AV.own? {L:Type}:AV L→Bool
 | .sl true _ _ _ _=>true
 | .bx true _ _=>true
 | _=>false
def AV.loc?:AL→LO
 | .sl _ l _ _ _=>l
 | .bx _ l _=>l
 | .mp _ l _=>l
 | _=>none
def addr:AL→List Nat→Option (Nat × Nat)
 | _,[]=>none
 | v,[i]=>v.loc?.map fun l=>(l.b,l.o+i)
 | v,i :: j :: q=>match v.cells? with
  | some cs=>match cs[i]? with
   | some u=>addr u (j :: q)
   | none=>none
  | none=>none
def ownQ {L:Type}:AV L→List Nat→Bool
 | _,[]=>true
 | v,i :: q=>v.own? && match v.cells? with
  | some cs=>match cs[i]? with
   | some u=>ownQ u q
   | none=>false
  | none=>false
theorem er_ownQ (q:List Nat):∀ v:AL,ownQ (er v) q=ownQ v q:=by
 induction q with
 | nil=>intro v;rfl
 | cons i q ih =>
  intro v
  have h1:(er v).own?=v.own?:=by
   cases v with
   | sl o l s n cs=>cases o<;>rfl
   | bx o l cs=>cases o<;>rfl
   | _=>rfl
  simp only[ownQ,h1,er_cells]
  cases v.cells? with
  | none=>rfl
  | some cs =>
   simp only[Option.map_some,List.getElem?_map]
   cases cs[i]? with
   | none=>rfl
   | some u=>simp [ih u]
theorem CR_withCells {v:AL}{cs:List AL}{x:Value}:CR (v.withCells cs) x ↔ CR v x:=by
 cases v with
 | sl o l s n c=>cases l<;>rfl
 | bx o l c=>cases l<;>rfl
 | _=>rfl
theorem CR_setN {v u:AL}{q:List Nat}(hq:q ≠ []){x:Value}:CR (setN v q u) x ↔ CR v x:=by
 cases q with
 | nil=>exact absurd rfl hq
 | cons i q =>
  simp only[setN]
  cases v.cells? with
  | none=>rfl
  | some cs=>exact CR_withCells
theorem loc_of_Mem {w:World}{I:ASet}{v c:AL}{cs:List AL}{i:Nat}(h:Mem w I v)(hc:v.cells?=some cs)(hi:cs[i]?=some c):∃ l,v.loc?=some l:=by
 cases v with
 | sl own l s n k =>
  cases l with
  | none=>simp only[AV.cells?,Option.some.injEq] at hc;subst hc;simp[Mem] at h;simp[h.2] at hi
  | some l=>exact ⟨l,rfl⟩
 | bx own l k =>
  cases l with
  | none=>simp [Mem] at h
  | some l=>exact ⟨l,rfl⟩
 | _=>simp [AV.cells?] at hc
structure NodeFacts (w:World) (I:ASet) (v:AL) (cs:List AL) (l:Loc) (R:Nat) (B:Prop):Prop where
 hc:v.cells?=some cs
 ho:v.own?=true
 hl:v.loc?=some l
 len:cs.length≤R
 fpI:∀ cs',cs'.length=cs.length→∀ b o,fp (v.withCells cs') b o ↔ (b=l.b∧l.o≤o∧o < l.o+R)∨fpL cs' b o
 sepI:∀ cs',cs'.length=cs.length→(Sep (v.withCells cs') ↔ (∀ j,j < R→¬ fpL cs' l.b (l.o+j))∧SepL cs')
 memI:∀ w' I' cs',cs'.length=cs.length→(Mem w' I' (v.withCells cs') ↔ MemL w' I' true cs' l.b l.o∧RoomC w' l.b l.o R∧B)
theorem withCells_self {L:Type}{v:AV L}{cs:List (AV L)}(h:v.cells?=some cs):v.withCells cs=v:=by
 cases v<;>simp [AV.cells?] at h<;>subst h<;>rfl
theorem nodeFacts {w:World}{I:ASet}{v:AL}{cs:List AL}{l:Loc}(h:Mem w I v)(hc:v.cells?=some cs)(ho:v.own?=true)(hl:v.loc?=some l):∃ R B,NodeFacts w I v cs l R B:=by
 cases v with
 | sl own l' s n k =>
  cases own with
  | false=>simp [AV.own?] at ho
  | true =>
   simp only[AV.loc?] at hl;subst hl
   simp only[AV.cells?,Option.some.injEq] at hc;subst hc
   simp only[Mem] at h
   have hle:=Nat.mul_le_mul_right s h.2.1
   refine⟨l.cap * s,0 < s→l.cap≤9223372036854775807,rfl,rfl,rfl,by omega,fun cs' hcs b o=>by simp[AV.withCells,fp],fun cs' hcs=>by simp[AV.withCells,Sep],fun w' I' cs' hcs=>?_⟩
   simp only[AV.withCells,Mem,hcs]
   exact⟨fun hh=>⟨hh.2.2.1,hh.2.2.2 trivial⟩,fun hh=>⟨h.1,h.2.1,hh.1,fun _=>hh.2⟩⟩
 | bx own l' k =>
  cases own with
  | false=>simp [AV.own?] at ho
  | true =>
   simp only[AV.loc?] at hl;subst hl
   simp only[AV.cells?,Option.some.injEq] at hc;subst hc
   refine⟨k.length,True,rfl,rfl,rfl,by omega,fun cs' hcs b o=>by simp[AV.withCells,fp,hcs],fun cs' hcs=>by simp[AV.withCells,Sep,hcs],fun w' I' cs' hcs=>?_⟩
   simp only[AV.withCells,Mem]
   refine⟨fun hh=>⟨hh,fun j hj=>?_,trivial⟩,fun hh=>hh.1⟩
   obtain⟨⟨y,hy,_⟩,_⟩:=MemL_iff.1 hh j (cs'[j]'(by omega)) (List.getElem?_eq_getElem (by omega))
   exact⟨y,hy⟩
 | _=>simp [AV.cells?] at hc
structure Repl (w:World) (I:ASet) (v:AL) (q:List Nat) (u:AL):Prop where
 sub:∀ b o,fp u b o→fp v b o
 ad:q ≠ []→∃ b o y,addr v q=some (b,o)∧fp v b o∧¬ fp u b o∧w.at b o=some (.v y)∧CR u y
 mem:Mem w I u
 sep:Sep u
 fps:∀ u' b o,fp (setN v q u') b o→(fp v b o∧¬ fp u b o)∨fp u' b o
 fpsI:∀ u' b o,(fp v b o∧¬ fp u b o)→fp (setN v q u') b o
 seps:∀ u',Sep u'→(∀ b o,fp u' b o→fp v b o→fp u b o)→Sep (setN v q u')
 mems:∀ u' w' I',Mem w' I' u'→(∀ b o,addr v q=some (b,o)→∃ y,w'.at b o=some (.v y)∧CR u' y) →
  (∀ b o,fp v b o→¬ fp u b o→addr v q ≠ some (b,o)→w'.at b o=w.at b o)→(∀ b o,I b o→w'.at b o=w.at b o∧I' b o)→Mem w' I' (setN v q u')
theorem repl {w:World}{I:ASet}{u:AL}(q:List Nat):∀ v:AL,Mem w I v→Sep v→ownQ v q=true→getN v q=some u→Repl w I v q u:=by
 induction q with
 | nil =>
  intro v hm hs _ hg
  simp only[getN,Option.some.injEq] at hg;subst hg
  refine⟨fun _ _ h=>h,fun h=>absurd rfl h,hm,hs,fun u' b o h=>.inr h,?_,fun u' h _=>h,fun u' w' I' h _ _ _=>h⟩
  intro u' b o h;exact absurd h.1 h.2
 | cons i q ih =>
  intro v hm hs hq hg
  simp only[ownQ,Bool.and_eq_true] at hq
  obtain⟨ho,hq⟩:=hq
  simp only[getN] at hg
  cases hc:v.cells? with
  | none=>simp [hc] at hg
  | some cs =>
   simp only[hc] at hg hq
   cases hi:cs[i]? with
   | none=>simp [hi] at hg
   | some c =>
    simp only[hi] at hg hq
    obtain⟨l,hl⟩:=loc_of_Mem hm hc hi
    obtain⟨R,B,F⟩:=nodeFacts hm hc ho hl
    have hlt:i < cs.length:=(List.getElem?_eq_some_iff.1 hi).1
    have hv:=withCells_self hc
    have hmR:=(F.memI w I cs rfl).1 (by rw[hv];exact hm)
    have hmL:MemL w I true cs l.b l.o:=hmR.1
    have hsL:=(F.sepI cs rfl).1 (by rw[hv];exact hs)
    have hfp:∀ b o,fp v b o ↔ (b=l.b∧l.o≤o∧o < l.o+R)∨fpL cs b o:=fun b o=>by have:=F.fpI cs rfl b o;rwa [hv] at this
    have hcm:=(MemL_iff.1 hmL) i c hi
    have hcs:=(SepL_iff.1 hsL.2).1 c (List.mem_of_getElem? hi)
    have r:=ih c hcm.2.1 hcs hq hg
    have hsub:∀ b o,fp u b o→fpL cs b o:=fun b o h=>fpL_iff.2 ⟨c,List.mem_of_getElem? hi,r.sub b o h⟩
    have hnode:∀ b o,(b=l.b∧l.o≤o∧o < l.o+R)→¬ fpL cs b o:=by
     rintro b o ⟨rfl,h1,h2⟩ h
     exact hsL.1 (o - l.o) (by omega) (by rwa [Nat.add_sub_cancel' h1])
    -- other children
    have hother:∀ j d,j ≠ i→cs[j]?=some d→∀ b o,fp d b o→¬ fp c b o:=by
     intro j d hj hd b o h1 h2
     rcases Nat.lt_or_gt_of_ne hj with h | h
     ·exact (SepL_iff.1 hsL.2).2 j i d c h hd hi b o h1 h2
     ·exact (SepL_iff.1 hsL.2).2 i j c d h hi hd b o h2 h1
    have hset:∀ u',setN v (i :: q) u'=v.withCells (cs.set i (setN c q u')):=by
     intro u'
     simp only[setN,hc]
     congr 3
     simp[List.getD_eq_getElem?_getD,hi]
    have hlen:∀ u',(cs.set i (setN c q u')).length=cs.length:=fun u'=>by simp
    have hgetset:∀ u' j d,(cs.set i (setN c q u'))[j]?=some d→(j=i∧d=setN c q u')∨(j ≠ i∧cs[j]?=some d):=by
     intro u' j d hd
     by_cases e:j=i
     ·subst e;rw[List.getElem?_set_self (by omega)] at hd;exact .inl ⟨rfl,(Option.some.inj hd).symm⟩
     ·rw[List.getElem?_set_ne (Ne.symm e)] at hd;exact .inr ⟨e,hd⟩
    have hadr:q=[]→addr v (i :: q)=some (l.b,l.o+i):=by
     rintro rfl;simp[addr,hl]
    have hadr2:q ≠ []→addr v (i :: q)=addr c q:=by
     intro hne
     cases q with
     | nil=>exact absurd rfl hne
     | cons j q'=>simp [addr,hc,hi]
    obtain⟨y0,hy0,hcr0⟩:=hcm.1
    refine⟨fun b o h=>(hfp b o).2 (.inr (hsub b o h)),?_,r.mem,r.sep,?_,?_,?_,?_⟩
    ·intro _
     by_cases hne:q=[]
     ·subst hne
      simp only[getN,Option.some.injEq] at hg;subst hg
      refine⟨l.b,l.o+i,y0,hadr rfl,(hfp _ _).2 (.inl ⟨rfl,by omega,by have:=F.len;omega⟩),fun h=>hnode _ _ ⟨rfl,by omega,by have:=F.len;omega⟩ (hsub _ _ h),hy0,hcr0⟩
     ·obtain⟨b,o,y,h1,h2,h3,h4,h5⟩:=r.ad hne
      exact⟨b,o,y,(hadr2 hne).trans h1,(hfp b o).2 (.inr (fpL_iff.2 ⟨c,List.mem_of_getElem? hi,h2⟩)),h3,h4,h5⟩
    ·intro u' b o h
     rw[hset] at h
     rcases (F.fpI _ (hlen u') b o).1 h with h | h
     ·exact .inl ⟨(hfp b o).2 (.inl h),fun h'=>hnode b o h (hsub b o h')⟩
     ·obtain⟨d,hd,hdb⟩:=fpL_iff.1 h
      obtain⟨j,hj⟩:=List.getElem?_of_mem hd
      rcases hgetset u' j d hj with ⟨rfl,rfl⟩ | ⟨hne,hj'⟩
      ·rcases r.fps u' b o hdb with ⟨h1,h2⟩ | h1
       ·exact .inl ⟨(hfp b o).2 (.inr (fpL_iff.2 ⟨c,List.mem_of_getElem? hi,h1⟩)),h2⟩
       ·exact .inr h1
      ·exact .inl ⟨(hfp b o).2 (.inr (fpL_iff.2 ⟨d,List.mem_of_getElem? hj',hdb⟩)),fun h'=>hother j d hne hj' b o hdb (r.sub b o h')⟩
    ·intro u' b o ⟨h1,h2⟩
     rw[hset]
     refine (F.fpI _ (hlen u') b o).2 ?_
     rcases (hfp b o).1 h1 with h | h
     ·exact .inl h
     ·obtain⟨d,hd,hdb⟩:=fpL_iff.1 h
      obtain⟨j,hj⟩:=List.getElem?_of_mem hd
      by_cases e:j=i
      ·subst e
       rw[hi] at hj;cases hj
       exact .inr (fpL_iff.2 ⟨_,List.mem_of_getElem? (List.getElem?_set_self (by omega)),r.fpsI u' b o ⟨hdb,h2⟩⟩)
      ·exact .inr (fpL_iff.2 ⟨d,List.mem_of_getElem? (i:=j) (by rw[List.getElem?_set_ne (Ne.symm e)];exact hj),hdb⟩)
    ·intro u' hsu hdis
     rw[hset]
     have hcdis:∀ b o,fp u' b o→fp c b o→fp u b o:=fun b o h1 h2=>hdis b o h1 ((hfp b o).2 (.inr (fpL_iff.2 ⟨c,List.mem_of_getElem? hi,h2⟩)))
     refine (F.sepI _ (hlen u')).2 ⟨?_,SepL_iff.2 ⟨?_,?_⟩⟩
     ·intro j hj hb
      obtain⟨d,hd,hdb⟩:=fpL_iff.1 hb
      obtain⟨k,hk⟩:=List.getElem?_of_mem hd
      have hin:fp v l.b (l.o+j):=(hfp _ _).2 (.inl ⟨rfl,by omega,by omega⟩)
      have hnd:=hnode l.b (l.o+j) ⟨rfl,by omega,by omega⟩
      rcases hgetset u' k d hk with ⟨rfl,rfl⟩ | ⟨hne,hk'⟩
      ·rcases r.fps u' _ _ hdb with ⟨h1,_⟩ | h1
       ·exact hnd (fpL_iff.2 ⟨c,List.mem_of_getElem? hi,h1⟩)
       ·exact hnd (hsub _ _ (hdis _ _ h1 hin))
      ·exact hnd (fpL_iff.2 ⟨d,List.mem_of_getElem? hk',hdb⟩)
     ·intro d hd
      obtain⟨k,hk⟩:=List.getElem?_of_mem hd
      rcases hgetset u' k d hk with ⟨rfl,rfl⟩ | ⟨hne,hk'⟩
      ·exact r.seps u' hsu hcdis
      ·exact (SepL_iff.1 hsL.2).1 d (List.mem_of_getElem? hk')
     ·have key:∀ k d,k ≠ i→cs[k]?=some d→∀ b o,fp (setN c q u') b o→fp d b o→False:=by
       intro k d hk hd b o h1 h2
       rcases r.fps u' b o h1 with ⟨h3,_⟩ | h3
       ·exact hother k d hk hd b o h2 h3
       ·have:=hdis b o h3 ((hfp b o).2 (.inr (fpL_iff.2 ⟨d,List.mem_of_getElem? hd,h2⟩)))
        exact hother k d hk hd b o h2 (r.sub b o this)
      intro j k a d hjk ha hd b o h1 h2
      rcases hgetset u' j a ha with ⟨ej,ea⟩ | ⟨hj,ha'⟩
      ·subst ej ea
       rcases hgetset u' k d hd with ⟨ek,_⟩ | ⟨hk,hd'⟩
       ·omega
       ·exact key k d hk hd' b o h1 h2
      ·rcases hgetset u' k d hd with ⟨ek,ed⟩ | ⟨hk,hd'⟩
       ·subst ek ed
        exact key j a hj ha' b o h2 h1
       ·exact (SepL_iff.1 hsL.2).2 j k a d hjk ha' hd' b o h1 h2
    ·intro u' w' I' hmu hnew hold hI
     rw[hset]
     refine (F.memI w' I' _ (hlen u')).2 ⟨MemL_iff.2 fun j d hd=>?_,fun j hj=>?_,hmR.2.2⟩
     rotate_left
     ·have hin:fp v l.b (l.o+j):=(hfp _ _).2 (.inl ⟨rfl,by omega,by omega⟩)
      have hnd:=hnode l.b (l.o+j) ⟨rfl,by omega,by omega⟩
      by_cases ha:addr v (i :: q)=some (l.b,l.o+j)
      ·obtain⟨y,hy,_⟩:=hnew _ _ ha
       exact⟨y,hy⟩
      ·rw[hold _ _ hin (fun h=>hnd (hsub _ _ h)) ha]
       exact hmR.2.1 j hj
     rcases hgetset u' j d hd with ⟨ej,ed⟩ | ⟨hj,hd'⟩
     ·subst ej ed
      have hin:fp v l.b (l.o+j):=(hfp _ _).2 (.inl ⟨rfl,by omega,by have:=F.len;omega⟩)
      have hnd:=hnode l.b (l.o+j) ⟨rfl,by omega,by have:=F.len;omega⟩
      refine⟨?_,?_,fun h=>absurd h (by simp)⟩
      ·by_cases hne:q=[]
       ·subst hne
        exact hnew _ _ (hadr rfl)
       ·refine⟨y0,?_,(CR_setN hne).2 hcr0⟩
        rw[hold _ _ hin (fun h=>hnd (hsub _ _ h)) ?_]
        ·exact hy0
        ·rw[hadr2 hne]
         intro he
         obtain⟨b,o,y,h1,h2,_⟩:=r.ad hne
         rw[he] at h1;cases h1
         exact hnd (fpL_iff.2 ⟨c,List.mem_of_getElem? hi,h2⟩)
      ·refine r.mems u' w' I' hmu ?_ ?_ hI
       ·intro b o hb
        by_cases hne:q=[]
        ·subst hne;simp[addr] at hb
        ·exact hnew b o ((hadr2 hne).trans hb)
       ·intro b o h1 h2 h3
        refine hold b o ((hfp b o).2 (.inr (fpL_iff.2 ⟨c,List.mem_of_getElem? hi,h1⟩))) h2 ?_
        by_cases hne:q=[]
        ·rw[hadr hne]
         intro he
         cases he
         exact hnd (fpL_iff.2 ⟨c,List.mem_of_getElem? hi,h1⟩)
        ·rw[hadr2 hne];exact h3
     ·have hdm:=(MemL_iff.1 hmL) j d hd'
      have hjl:j < cs.length:=(List.getElem?_eq_some_iff.1 hd').1
      have hin:fp v l.b (l.o+j):=(hfp _ _).2 (.inl ⟨rfl,by omega,by have:=F.len;omega⟩)
      have hnd:=hnode l.b (l.o+j) ⟨rfl,by omega,by have:=F.len;omega⟩
      obtain⟨y,hy,hcr⟩:=hdm.1
      refine⟨⟨y,?_,hcr⟩,Mem_frame d hdm.2.1 (fun b o hb=>?_) hI,fun h=>absurd h (by simp)⟩
      ·rw[hold _ _ hin (fun h=>hnd (hsub _ _ h)) ?_]
       ·exact hy
       ·by_cases hne:q=[]
        ·rw[hadr hne];intro he;simp at he;omega
        ·rw[hadr2 hne]
         intro he
         obtain⟨b,o,y,h1,h2,_⟩:=r.ad hne
         rw[he] at h1;cases h1
         exact hnd (fpL_iff.2 ⟨c,List.mem_of_getElem? hi,h2⟩)
      ·refine hold b o ((hfp b o).2 (.inr (fpL_iff.2 ⟨d,List.mem_of_getElem? hd',hb⟩))) (fun h=>hother j d hj hd' b o hb (r.sub b o h)) ?_
       by_cases hne:q=[]
       ·rw[hadr hne]
        intro he;cases he
        exact hnode l.b (l.o+i) ⟨rfl,by omega,by have:=F.len;omega⟩ (fpL_iff.2 ⟨d,List.mem_of_getElem? hd',hb⟩)
       ·rw[hadr2 hne]
        intro he
        obtain⟨b',o',y,h1,h2,_⟩:=r.ad hne
        rw[he] at h1;cases h1
        exact hother j d hj hd' b o hb h2
end Go.OT
namespace Go.OT
def hd:AL→Option (Bool × LO × Nat × Nat)
 | .sl _ l s n _=>some (true,l,s,n)
 | .bx _ l _=>some (false,l,0,0)
 | .mp _ l _=>some (false,l,1,0)
 | _=>none
abbrev XF (L:Type):=Nat→Nat × AV L
def SV (l:LO)(sz n off len:Nat)(x:Value):Prop :=
 ∃ xa cap,x=.slice xa len cap∧match l with
  | none=>xa=none∧cap=0∧len=0
  | some l=>off+len * sz≤n * sz∧len≤cap∧off+cap * sz≤l.cap * sz∧∃ o',xa=some ⟨l.b,o',none⟩∧(cap ≠ 0→o'=l.o+off)
mutual
def RR (X:XF LO) (β:Nat→Nat × Nat):AL→Value→Prop
 | .view k g p off len,x=>g≤(X k).1∧((X k).1=g→∃ l sz n,(getN (X k).2 p).bind hd=some (true,l,sz,n)∧SV l sz n off len x)
 | .ptr k g p i,x=>g≤(X k).1∧((X k).1=g→∃ s l sz n,(getN (X k).2 p).bind hd=some (s,some l,sz,n)∧x=.pointer (some ⟨l.b,l.o+i,none⟩))
 | .mv k g p,x=>g≤(X k).1∧((X k).1=g→∃ l,(getN (X k).2 p).bind hd=some (false,some l,1,0)∧x=.map (some l.b))
 | .bptr b g i,x=>g≤(X (100 * b+99)).1∧((X (100 * b+99)).1=g→x=.pointer (some ⟨(β b).1,(β b).2+i,none⟩))
 | .vptr l _,x=>∃ l',l=some l'∧x=.pointer (some ⟨l'.b,l'.o,none⟩)
 | .agg cs,x=>∃ xs:List Value,x=.agg xs.toArray∧RRL X β cs xs
 | .tuple cs,x=>∃ xs:List Value,x=.tuple xs.toArray∧RRL X β cs xs
 | .clos f caps,x=>∃ xs:List Value,x=.func (.func f) #[] xs.toArray∧RRL X β caps xs
 | .non,_=>True
 | .dead,_=>True
 | .sc v,x=>x=v
 | .sl o l s n cs,x=>CR (.sl o l s n cs) x
 | .bx o l cs,x=>CR (.bx o l cs) x
 | .mp o l cs,x=>CR (.mp o l cs) x
def RRL (X:XF LO) (β:Nat→Nat × Nat):List AL→List Value→Prop
 | [],xs=>xs=[]
 | c :: cs,xs=>∃ y ys,xs=y :: ys∧RR X β c y∧RRL X β cs ys
end
theorem RR_of_CR {X:XF LO} {β:Nat→Nat × Nat}{v:AL}{x:Value}(h:CR v x):RR X β v x:=by
 cases v<;>simp [RR]<;>first | exact h | (simp [CR] at h)
structure Keeps (X X':XF LO) (β β':Nat→Nat × Nat):Prop where
 gen:∀ k,(X k).1≤(X' k).1
 hd:∀ k,(X' k).1=(X k).1→∀ p h,(getN (X k).2 p).bind hd=some h→(getN (X' k).2 p).bind hd=some h
 box:∀ b,(X' (100 * b+99)).1=(X (100 * b+99)).1→β' b=β b
mutual
theorem RR_keep {X X':XF LO} {β β':Nat→Nat × Nat}(K:Keeps X X' β β'):∀ (v:AL) (x:Value),RR X β v x→RR X' β' v x
 | .view k g p off len,x,h=>by
  simp only[RR] at h ⊢
  have hk:=K.gen k
  refine⟨by omega,fun he=>?_⟩
  have e1:(X k).1=g:=by omega
  obtain⟨l,sz,n,h1,h2⟩:=h.2 e1
  exact⟨l,sz,n,K.hd k (by omega) p _ h1,h2⟩
 | .ptr k g p i,x,h=>by
  simp only[RR] at h ⊢
  have hk:=K.gen k
  refine⟨by omega,fun he=>?_⟩
  have e1:(X k).1=g:=by omega
  obtain⟨s,l,sz,n,h1,h2⟩:=h.2 e1
  exact⟨s,l,sz,n,K.hd k (by omega) p _ h1,h2⟩
 | .mv k g p,x,h=>by
  simp only[RR] at h ⊢
  have hk:=K.gen k
  refine⟨by omega,fun he=>?_⟩
  have e1:(X k).1=g:=by omega
  obtain⟨l,h1,h2⟩:=h.2 e1
  exact⟨l,K.hd k (by omega) p _ h1,h2⟩
 | .bptr b g i,x,h=>by
  simp only[RR] at h ⊢
  have hk:=K.gen (100 * b+99)
  refine⟨by omega,fun he=>?_⟩
  have e1:(X (100 * b+99)).1=g:=by omega
  rw[K.box b (by omega)]
  exact h.2 e1
 | .vptr l cs,x,h=>by simpa [RR] using h
 | .agg cs,x,h=>by
  simp only[RR] at h ⊢
  obtain⟨xs,h1,h2⟩:=h
  exact⟨xs,h1,RRL_keep K cs xs h2⟩
 | .tuple cs,x,h=>by
  simp only[RR] at h ⊢
  obtain⟨xs,h1,h2⟩:=h
  exact⟨xs,h1,RRL_keep K cs xs h2⟩
 | .clos f cs,x,h=>by
  simp only[RR] at h ⊢
  obtain⟨xs,h1,h2⟩:=h
  exact⟨xs,h1,RRL_keep K cs xs h2⟩
 | .non,_,_=>by simp[RR]
 | .dead,_,_=>by simp[RR]
 | .sc v,x,h=>by simpa [RR] using h
 | .sl o l s n cs,x,h=>by simpa [RR] using h
 | .bx o l cs,x,h=>by simpa [RR] using h
 | .mp o l cs,x,h=>by simpa [RR] using h
theorem RRL_keep {X X':XF LO} {β β':Nat→Nat × Nat}(K:Keeps X X' β β'):∀ (vs:List AL) (xs:List Value),RRL X β vs xs→RRL X' β' vs xs
 | [],_,h=>by simpa [RRL] using h
 | v :: vs,xs,h=>by
  simp only[RRL] at h ⊢
  obtain⟨y,ys,h1,h2,h3⟩:=h
  exact⟨y,ys,h1,RR_keep K v y h2,RRL_keep K vs ys h3⟩
end
structure Ctx where
 P:Program
 nt:Nat
 w0:World
 K:ASet
 I0:ASet
 β0:Nat→Nat × Nat
 rg0:Nat→Value
 hnt:nt≤9000
structure Frame (K:ASet) (w0 w:World):Prop where
 os:w.os=w0.os
 tape:w.tape=w0.tape
 output:w.output=w0.output
 size:w0.heap.size≤w.heap.size
 block:∀ b,b < w0.heap.size→(∀ o,¬ K b o)→w.heap[b]?=w0.heap[b]?
 cell:∀ b o,b < w0.heap.size→¬ K b o→w.at b o=w0.at b o
 some:∀ b o,b < w0.heap.size→(w.at b o).isSome=(w0.at b o).isSome
 fz:∀ b o,b < w0.heap.size→(w0.at b o).isSome=true→w.fz b o=w0.fz b o
theorem Frame.refl (K:ASet)(w:World):Frame K w w:=⟨rfl,rfl,rfl,Nat.le_refl _,fun _ _ _=>rfl,fun _ _ _ _=>rfl,fun _ _ _=>rfl,fun _ _ _ _=>rfl⟩
theorem Frame.trans {K K':ASet}{w0 w w':World}(h:Frame K w0 w)(h':Frame K' w w')(hk:∀ b o,K' b o→K b o∨w0.heap.size≤b):Frame K w0 w' :=
 ⟨h'.os.trans h.os,h'.tape.trans h.tape,h'.output.trans h.output,Nat.le_trans h.size h'.size,
  fun b hb hn=>(h'.block b (Nat.lt_of_lt_of_le hb h.size) (fun o ho=>(hk b o ho).elim (hn o) (fun hh=>by omega))).trans (h.block b hb hn),
  fun b o hb hn=>(h'.cell b o (Nat.lt_of_lt_of_le hb h.size) (fun ho=>(hk b o ho).elim hn (fun hh=>by omega))).trans (h.cell b o hb hn),
  fun b o hb=>(h'.some b o (Nat.lt_of_lt_of_le hb h.size)).trans (h.some b o hb),
  fun b o hb hs=>(h'.fz b o (Nat.lt_of_lt_of_le hb h.size) (by rw[h.some b o hb];exact hs)).trans (h.fz b o hb hs)⟩
theorem Frame.mono {K K':ASet}{w w':World}(h:Frame K w w')(hk:∀ b o,b < w.heap.size→K b o→K' b o):Frame K' w w' :=
 ⟨h.os,h.tape,h.output,h.size,fun b hb hn=>h.block b hb (fun o ho=>hn o (hk b o hb ho)),fun b o hb hn=>h.cell b o hb (fun ho=>hn (hk b o hb ho)),h.some,h.fz⟩
def isCell (k:Nat):Prop:=k % 100 ≠ 0∧k % 100 ≠ 99
def cellAt (β:Nat→Nat × Nat)(k b o:Nat):Prop:=b=(β (k / 100)).1∧o=(β (k / 100)).2+(k % 100 - 1)
def kfp (β:Nat→Nat × Nat)(X:XF LO)(k b o:Nat):Prop :=
 fp (X k).2 b o∨(isCell k∧(X k).2 ≠ .non∧cellAt β k b o)
def isVw {L:Type}:AV L→Bool
 | .view _ _ _ _ _=>true
 | .ptr _ _ _ _=>true
 | .bptr _ _ _=>true
 | _=>false
def CX (X:XF LO) (β:Nat→Nat × Nat)(v:AL)(y:Value):Prop:=CR v y∨(isVw v=true∧RR X β v y)
theorem CX.rr {X:XF LO} {β:Nat→Nat × Nat}{v:AL}{y:Value}(h:CX X β v y):RR X β v y:=h.elim RR_of_CR (·.2)
theorem CX.cr {X:XF LO} {β:Nat→Nat × Nat}{v:AL}{y:Value}(h:CX X β v y)(hv:isVw v=false):CR v y:=h.elim id fun h=>by rw[hv] at h;cases h.1
theorem CX.keep {X X':XF LO} {β β':Nat→Nat × Nat}(K:Keeps X X' β β'){v:AL}{y:Value}(h:CX X β v y):CX X' β' v y:=h.imp id fun h=>⟨h.1,RR_keep K _ _ h.2⟩
structure KeyOk (β:Nat→Nat × Nat) (X:XF LO) (I:ASet) (w:World) (k:Nat):Prop where
 mem:Mem w I (X k).2
 sep:Sep (X k).2
 cell:isCell k→(X k).2 ≠ .non→(∃ y,w.at (β (k / 100)).1 ((β (k / 100)).2+(k % 100 - 1))=some (.v y)∧CX X β (X k).2 y)∧¬ fp (X k).2 (β (k / 100)).1 ((β (k / 100)).2+(k % 100 - 1))
 live:∀ b o,kfp β X k b o→b < w.heap.size∧w.fz b o=false∧(w.at b o).isSome
 last:k % 100=99→(X k).2=.non
structure RelL (C:Ctx) (X:XF LO) (β:Nat→Nat × Nat) (I:ASet) (rg:Nat→Value) (w:World):Prop where
 reg:∀ t,RR X β (X (100 * t)).2 (rg t)
 key:∀ k,KeyOk β X I w k
 disj:∀ k k',k ≠ k'→∀ b o,kfp β X k b o→kfp β X k' b o→False
 imm:∀ b o,I b o→b < w.heap.size∧∀ k,¬ kfp β X k b o
 frK:∀ k b o,kfp β X k b o→C.K b o∨C.w0.heap.size≤b
 frI:∀ b o,I b o→C.I0 b o∨C.K b o∨C.w0.heap.size≤b
 frI0:∀ b o,C.I0 b o→I b o
 fr:Frame C.K C.w0 w
 gh:∀ b,10000≤b→β b=C.β0 b
 gr:∀ t,10000≤t→rg t=C.rg0 t
theorem RelL.change {C:Ctx}{X X':XF LO} {β β':Nat→Nat × Nat}{I I':ASet}{rg rg':Nat→Value}{w w':World}(R:RelL C X β I rg w)
  (D:Nat→Prop)
  (hX:∀ k,¬ D k→X' k=X k)
  (hK:Keeps X X' β β')
  (hβ:∀ k,¬ D k→isCell k→β' (k / 100)=β (k / 100)∨(X k).2=.non)
  (hgh:∀ b,10000≤b→β' b=β b)
  (hrg:∀ t,¬ D (100 * t)∨10000≤t→rg' t=rg t)
  (hreg:∀ t,D (100 * t)→RR X' β' (X' (100 * t)).2 (rg' t))
  (hkey:∀ k,D k→KeyOk β' X' I' w' k)
  (hdisj:∀ k k',D k→D k'→k ≠ k'→∀ b o,kfp β' X' k b o→kfp β' X' k' b o→False)
  (hsub:∀ k,D k→∀ b o,kfp β' X' k b o→(∃ k0,D k0∧kfp β X k0 b o)∨w.heap.size≤b)
  (hI:∀ b o,I b o→I' b o)
  (hI':∀ b o,I' b o→I b o∨(b < w'.heap.size∧((∃ k0,D k0∧kfp β X k0 b o)∨w.heap.size≤b)∧∀ k,D k→¬ kfp β' X' k b o))
  (hw:Frame (fun b o=>∃ k,D k∧kfp β X k b o) w w') :
  RelL C X' β' I' rg' w':=by
 have hkfp:∀ k,¬ D k→∀ b o,kfp β' X' k b o→kfp β X k b o:=by
  intro k hk b o h
  rw[kfp,hX k hk] at h
  rcases h with h | ⟨h1,h2,h3⟩
  ·exact .inl h
  ·refine .inr ⟨h1,h2,?_⟩
   rcases hβ k hk h1 with e | e
   ·simpa [cellAt,e] using h3
   ·exact absurd e h2
 have hkfp':∀ k,¬ D k→∀ b o,kfp β X k b o→kfp β' X' k b o:=by
  intro k hk b o h
  rw[kfp,hX k hk]
  rcases h with h | ⟨h1,h2,h3⟩
  ·exact .inl h
  ·refine .inr ⟨h1,h2,?_⟩
   rcases hβ k hk h1 with e | e
   ·simpa [cellAt,e] using h3
   ·exact absurd e h2
 have hat:∀ k,¬ D k→∀ b o,kfp β X k b o→w'.at b o=w.at b o:=fun k hk b o h =>
  hw.cell b o ((R.key k).live b o h).1 (fun ⟨k0,h0,h1⟩=>R.disj k k0 (fun e=>hk (e ▸ h0)) b o h h1)
 have hatI:∀ b o,I b o→w'.at b o=w.at b o:=fun b o h=>hw.cell b o (R.imm b o h).1 (fun ⟨k0,_,h1⟩=>(R.imm b o h).2 k0 h1)
 refine⟨?_,?_,?_,?_,?_,?_,fun b o h=>hI b o (R.frI0 b o h),?_,fun b hb=>(hgh b hb).trans (R.gh b hb),fun t ht=>(hrg t (.inr ht)).trans (R.gr t ht)⟩
 ·intro t
  by_cases hd:D (100 * t)
  ·exact hreg t hd
  ·rw[hrg t (.inl hd),hX _ hd]
   exact RR_keep hK _ _ (R.reg t)
 ·intro k
  by_cases hd:D k
  ·exact hkey k hd
  ·have h:=R.key k
   have hx:=hX k hd
   refine⟨?_,by rw[hx];exact h.sep,?_,?_,fun e=>by rw[hx];exact h.last e⟩
   ·rw[hx]
    exact Mem_frame _ h.mem (fun b o hb=>hat k hd b o (.inl hb)) (fun b o hb=>⟨hatI b o hb,hI b o hb⟩)
   ·intro hc hn
    rw[hx] at hn ⊢
    have hb:β' (k / 100)=β (k / 100):=(hβ k hd hc).resolve_right hn
    obtain⟨⟨y,hy,hcr⟩,hnf⟩:=h.cell hc hn
    rw[hb]
    exact⟨⟨y,by rw[hat k hd _ _ (.inr ⟨hc,hn,rfl,rfl⟩)];exact hy,hcr.keep hK⟩,hnf⟩
   ·intro b o hb
    have hb':=hkfp k hd b o hb
    obtain⟨h1,h2,h3⟩:=h.live b o hb'
    exact⟨Nat.lt_of_lt_of_le h1 hw.size,by rw[hw.fz b o h1 h3];exact h2,by rw[hw.some b o h1];exact h3⟩
 ·intro k k' hne b o h1 h2
  by_cases hd:D k
  ·by_cases hd':D k'
   ·exact hdisj k k' hd hd' hne b o h1 h2
   ·have h2':=hkfp k' hd' b o h2
    rcases hsub k hd b o h1 with ⟨k0,h0,hk0⟩ | hfresh
    ·exact R.disj k0 k' (fun e=>hd' (e ▸ h0)) b o hk0 h2'
    ·have:=((R.key k').live b o h2').1;omega
  ·have h1':=hkfp k hd b o h1
   by_cases hd':D k'
   ·rcases hsub k' hd' b o h2 with ⟨k0,h0,hk0⟩ | hfresh
    ·exact R.disj k0 k (fun e=>hd (e ▸ h0)) b o hk0 h1'
    ·have:=((R.key k).live b o h1').1;omega
   ·exact R.disj k k' hne b o h1' (hkfp k' hd' b o h2)
 ·intro b o h
  rcases hI' b o h with h | ⟨h1,h2,h3⟩
  ·refine⟨Nat.lt_of_lt_of_le (R.imm b o h).1 hw.size,fun k hk=>?_⟩
   by_cases hd:D k
   ·rcases hsub k hd b o hk with ⟨k0,_,hk0⟩ | hfresh
    ·exact (R.imm b o h).2 k0 hk0
    ·have:=(R.imm b o h).1;omega
   ·exact (R.imm b o h).2 k (hkfp k hd b o hk)
  ·refine⟨h1,fun k hk=>?_⟩
   by_cases hd:D k
   ·exact h3 k hd hk
   ·have hk':=hkfp k hd b o hk
    rcases h2 with ⟨k0,h0,hk0⟩ | hfresh
    ·exact R.disj k0 k (fun e=>hd (e ▸ h0)) b o hk0 hk'
    ·have:=((R.key k).live b o hk').1;omega
 ·intro k b o h
  by_cases hd:D k
  ·rcases hsub k hd b o h with ⟨k0,_,hk0⟩ | hfresh
   ·exact R.frK k0 b o hk0
   ·exact .inr (Nat.le_trans R.fr.size hfresh)
  ·exact R.frK k b o (hkfp k hd b o h)
 ·intro b o h
  rcases hI' b o h with h | ⟨_,h2,_⟩
  ·exact R.frI b o h
  ·rcases h2 with ⟨k0,_,hk0⟩ | hfresh
   ·exact .inr (R.frK k0 b o hk0)
   ·exact .inr (.inr (Nat.le_trans R.fr.size hfresh))
 ·exact R.fr.trans hw (fun b o ⟨k,_,hk⟩=>R.frK k b o hk)
end Go.OT
namespace Go.OT
def AV.isNode {L:Type}:AV L→Bool
 | .sl _ _ _ _ _=>true
 | .bx _ _ _=>true
 | .mp _ _ _=>true
 | _=>false
def nx {L:Type}(e:Nat × AV L):Nat:=if e.2.isNode then e.1+1 else e.1
def XF.set {L:Type}(X:XF L)(k:Nat)(v:AV L):XF L:=fun j=>if j=k then (nx (X k),v) else X j
def XF.upd {L:Type}(X:XF L)(k:Nat)(v:AV L):XF L:=fun j=>if j=k then ((X k).1,v) else X j
theorem er_isNode (v:AL):(er v).isNode=v.isNode:=by cases v<;>rfl
mutual
def noOwn {L:Type}:AV L→Bool
 | .sl o _ _ _ _=>!o
 | .bx o _ _=>!o
 | .agg cs=>noOwnL cs
 | .tuple cs=>noOwnL cs
 | .mp o _ _=>!o
 | _=>true
def noOwnL {L:Type}:List (AV L)→Bool
 | []=>true
 | c :: cs=>noOwn c && noOwnL cs
end
mutual
theorem er_noOwn:∀ v:AL,noOwn (er v)=noOwn v
 | .agg cs=>by simp only[er,noOwn];exact er_noOwnL cs
 | .tuple cs=>by simp only[er,noOwn];exact er_noOwnL cs
 | .sl _ _ _ _ _ | .bx _ _ _ | .sc _ | .view _ _ _ _ _ | .ptr _ _ _ _ | .bptr _ _ _ | .vptr _ _ | .clos _ _ | .mp _ _ _ | .mv _ _ _ | .dead | .non=>by simp[er,noOwn]
theorem er_noOwnL:∀ vs:List AL,noOwnL (erL vs)=noOwnL vs
 | []=>rfl
 | v :: vs=>by simp only[erL,noOwnL,er_noOwn v,er_noOwnL vs]
end
mutual
theorem noOwn_spec:∀ v:AL,noOwn v=true→(∀ b o,¬ fp v b o)∧Sep v
 | .agg cs,h=>by
  simp only[noOwn] at h
  have:=noOwnL_spec cs h
  simpa [fp,Sep] using this
 | .tuple cs,h=>by
  simp only[noOwn] at h
  have:=noOwnL_spec cs h
  simpa [fp,Sep] using this
 | .sl true _ _ _ _,h=>by simp[noOwn] at h
 | .sl false _ _ _ _,_=>by simp[fp,Sep]
 | .bx true _ _,h=>by simp[noOwn] at h
 | .bx false _ _,_=>by simp[fp,Sep]
 | .mp true _ _,h=>by simp[noOwn] at h
 | .mp false _ _,_=>by simp[fp,Sep]
 | .mv _ _ _,_ | .sc _,_ | .view _ _ _ _ _,_ | .ptr _ _ _ _,_ | .bptr _ _ _,_ | .vptr _ _,_ | .clos _ _,_ | .dead,_ | .non,_=>by simp[fp,Sep]
theorem noOwnL_spec:∀ vs:List AL,noOwnL vs=true→(∀ b o,¬ fpL vs b o)∧SepL vs
 | [],_=>by simp[fpL,SepL]
 | v :: vs,h=>by
  simp only[noOwnL,Bool.and_eq_true] at h
  have h1:=noOwn_spec v h.1
  have h2:=noOwnL_spec vs h.2
  refine⟨fun b o hb=>?_,by simp only[SepL];exact⟨h1.2,h2.2,fun b o hb=>absurd hb (h1.1 b o)⟩⟩
  simp only[fpL] at hb
  exact hb.elim (h1.1 b o) (h2.1 b o)
end
theorem hd_isNode {v:AL}{h:Bool × LO × Nat × Nat}(e:hd v=some h):v.isNode=true:=by
 cases v<;>simp [hd] at e<;>rfl
theorem getN_hd_isNode {v:AL}{p:List Nat}{h:Bool × LO × Nat × Nat}(e:(getN v p).bind hd=some h):v.isNode=true:=by
 cases p with
 | nil=>simp only[getN,Option.bind_some] at e;exact hd_isNode e
 | cons i p=>cases v<;>simp [getN,AV.cells?] at e<;>rfl
theorem nx_ge {L:Type}(e:Nat × AV L):e.1≤nx e:=by unfold nx;split<;>omega
theorem XF.set_self {L:Type}(X:XF L)(k:Nat)(v:AV L):X.set k v k=(nx (X k),v):=by simp[XF.set]
theorem XF.set_ne {L:Type}(X:XF L){k j:Nat}(v:AV L)(h:j ≠ k):X.set k v j=X j:=by simp[XF.set,h]
theorem XF.upd_self {L:Type}(X:XF L)(k:Nat)(v:AV L):X.upd k v k=((X k).1,v):=by simp[XF.upd]
theorem XF.upd_ne {L:Type}(X:XF L){k j:Nat}(v:AV L)(h:j ≠ k):X.upd k v j=X j:=by simp[XF.upd,h]
theorem Keeps.refl (X:XF LO) (β:Nat→Nat × Nat):Keeps X X β β:=⟨fun _=>Nat.le_refl _,fun _ _ _ _ h=>h,fun _ _=>rfl⟩
theorem Keeps.trans {X X' X'':XF LO} {β β' β'':Nat→Nat × Nat}(h:Keeps X X' β β')(h':Keeps X' X'' β' β''):Keeps X X'' β β'' :=
 ⟨fun k=>Nat.le_trans (h.gen k) (h'.gen k),
  fun k e p a ha=>by
  have h1:=h.gen k;have h2:=h'.gen k
  exact h'.hd k (by omega) p a (h.hd k (by omega) p a ha),
  fun b e=>by
  have h1:=h.gen (100 * b+99);have h2:=h'.gen (100 * b+99)
  exact (h'.box b (by omega)).trans (h.box b (by omega))⟩
theorem keeps_set (X:XF LO) (β:Nat→Nat × Nat)(k:Nat)(v:AL):Keeps X (X.set k v) β β:=by
 refine⟨fun j=>?_,fun j e p a ha=>?_,fun b _=>rfl⟩
 ·by_cases h:j=k
  ·subst h;rw[XF.set_self];exact nx_ge _
  ·rw[XF.set_ne _ _ h];exact Nat.le_refl _
 ·by_cases h:j=k
  ·subst h
   rw[XF.set_self] at e
   have hn:=getN_hd_isNode ha
   simp[nx,hn] at e
  ·rw[XF.set_ne _ _ h];exact ha
theorem hd_setN {u u':AL}(hu:u.isNode=false)(q:List Nat):∀ (v:AL),q ≠ []→getN v q=some u→∀ p h,(getN v p).bind hd=some h→(getN (setN v q u') p).bind hd=some h:=by
 induction q with
 | nil=>intro v hq;exact absurd rfl hq
 | cons i q ih =>
  intro v _ hg p h hp
  simp only[getN] at hg
  cases hc:v.cells? with
  | none=>simp [hc] at hg
  | some cs =>
   simp only[hc] at hg
   cases hi:cs[i]? with
   | none=>simp [hi] at hg
   | some c =>
    simp only[hi] at hg
    have hlt:i < cs.length:=(List.getElem?_eq_some_iff.1 hi).1
    have hset:setN v (i :: q) u'=v.withCells (cs.set i (setN c q u')):=by
     simp only[setN,hc];congr 3;simp[List.getD_eq_getElem?_getD,hi]
    rw[hset]
    cases p with
    | nil =>
     simp only[getN,Option.bind_some] at hp ⊢
     cases v<;>simp [AV.cells?] at hc<;>simpa [AV.withCells,hd] using hp
    | cons j p =>
     have hwc:(v.withCells (cs.set i (setN c q u'))).cells?=some (cs.set i (setN c q u')):=by
      cases v<;>simp [AV.cells?] at hc<;>rfl
     simp only[getN,hc] at hp
     simp only[getN,hwc]
     by_cases e:j=i
     ·subst e
      rw[hi] at hp
      rw[List.getElem?_set_self hlt]
      simp only at hp ⊢
      by_cases hq:q=[]
      ·subst hq
       simp only[getN,Option.some.injEq] at hg;subst hg
       have:=getN_hd_isNode hp
       rw[hu] at this;cases this
      ·exact ih c hq hg p h hp
     ·rw[List.getElem?_set_ne (Ne.symm e)]
      exact hp
theorem isCell_reg (t:Nat):¬ isCell (100 * t):=by unfold isCell;omega
theorem RelL.world {C:Ctx}{X:XF LO} {β:Nat→Nat × Nat}{I:ASet}{rg:Nat→Value}{w w':World}(R:RelL C X β I rg w)
  (hw:Frame (fun _ _=>False) w w'):RelL C X β I rg w' :=
 R.change (fun _=>False) (fun _ _=>rfl) (Keeps.refl X β) (fun _ _ _=>.inl rfl) (fun _ _=>rfl) (fun _ _=>rfl) (fun _ h=>h.elim) (fun _ h=>h.elim)
  (fun _ _ h=>h.elim) (fun _ h=>h.elim) (fun _ _ h=>h) (fun _ _ h=>.inl h) (hw.mono fun _ _ _ h=>h.elim)
theorem frame_drew (K:ASet)(w:World):Frame K w { w with drawn:=w.drawn+1 } :=
 ⟨rfl,rfl,rfl,Nat.le_refl _,fun _ _ _=>rfl,fun _ _ _ _=>rfl,fun _ _ _=>rfl,fun _ _ _ _=>rfl⟩
theorem frame_alloc (K:ASet)(w:World)(ob:Obj):Frame K w { w with heap:=w.heap.push ob }:=by
 have hb:∀ b,b < w.heap.size→(w.heap.push ob)[b]?=w.heap[b]?:=fun b h=>by rw[Array.getElem?_push,if_neg (by omega)]
 refine⟨rfl,rfl,rfl,by simp,fun b h _=>hb b h,fun b o h _=>?_,fun b o h=>?_,fun b o h _=>?_⟩
 ·simp only[World.at,hb b h]
 ·simp only[World.at,hb b h]
 ·simp only[World.fz,hb b h]
theorem RelL.setR {C:Ctx}{X:XF LO} {β:Nat→Nat × Nat}{I:ASet}{rg:Nat→Value}{w:World}(R:RelL C X β I rg w)(t:Nat)(htl:t < 10000){v:AL}{x:Value}
  (hv:noOwn v=true) (hm:Mem w I v) (hr:RR X β v x):RelL C (X.set (100 * t) v) β I (fun s=>if s=t then x else rg s) w:=by
 have hn:=noOwn_spec v hv
 refine R.change (fun k=>k=100 * t) (fun k hk=>XF.set_ne _ _ hk) (keeps_set X β _ v) (fun _ _ _=>.inl rfl) (fun _ _=>rfl) ?_ ?_ ?_ ?_ ?_ (fun _ _ h=>h) (fun _ _ h=>.inl h)
  ((Frame.refl _ w).mono fun _ _ _ h=>h)
 ·intro s hs;rw[if_neg (fun e=>hs.elim (fun hs=>hs (by rw[e])) (fun hs=>by omega))]
 ·intro s hs
  have e:s=t:=by omega
  subst e
  rw[XF.set_self,if_pos rfl]
  exact RR_keep (keeps_set X β _ v) _ _ hr
 ·rintro k rfl
  have hx:(X.set (100 * t) v (100 * t)).2=v:=by rw[XF.set_self]
  refine⟨by rw[hx];exact hm,by rw[hx];exact hn.2,fun hc=>absurd hc (isCell_reg t),?_,fun h=>by omega⟩
  intro b o hb
  rcases hb with hb | ⟨hc,_⟩
  ·rw[hx] at hb;exact absurd hb (hn.1 b o)
  ·exact absurd hc (isCell_reg t)
 ·rintro k k' rfl rfl hne;exact absurd rfl hne
 ·rintro k rfl b o hb
  rcases hb with hb | ⟨hc,_⟩
  ·rw[XF.set_self] at hb;exact absurd hb (hn.1 b o)
  ·exact absurd hc (isCell_reg t)
theorem RelL.fresh {C:Ctx}{X:XF LO} {β:Nat→Nat × Nat}{I:ASet}{rg:Nat→Value}{w w':World}(R:RelL C X β I rg w)(t:Nat)(htl:t < 10000)(hs:List Nat)(ht:t ∉ hs){v:AL}{x:Value}
  (hw:Frame (fun _ _=>False) w w') (hm:Mem w' I v) (hsep:Sep v) (hr:RR X β v x)
  (hfp:∀ b o,fp v b o→(w.heap.size≤b∧b < w'.heap.size∧w'.fz b o=false∧(w'.at b o).isSome)∨∃ h ∈ hs,fp (X (100 * h)).2 b o) :
  RelL C (hs.foldl (fun Y h=>Y.set (100 * h) .non) (X.set (100 * t) v)) β I (fun s=>if s=t then x else rg s) w':=by
 have hX:∀ (l:List Nat) (Y:XF LO) (k:Nat),(∀ h ∈ l,k ≠ 100 * h)→(l.foldl (fun Y h=>Y.set (100 * h) .non) Y) k=Y k:=by
  intro l
  induction l with
  | nil=>intro Y k _;rfl
  | cons a l ih =>
   intro Y k hk
   rw[List.foldl_cons,ih _ _ (fun h hh=>hk h (by simp[hh])),XF.set_ne _ _ (hk a (by simp))]
 have hX2:∀ (l:List Nat) (Y:XF LO) (h:Nat),h ∈ l→((l.foldl (fun Y h=>Y.set (100 * h) .non) Y) (100 * h)).2=.non:=by
  intro l
  induction l with
  | nil=>intro Y h hh;cases hh
  | cons a l ih =>
   intro Y h hh
   rw[List.foldl_cons]
   by_cases hin:h ∈ l
   ·exact ih _ h hin
   ·have:h=a:=by simpa [hin] using hh
    subst this
    rw[hX _ _ _ (fun h' hh' e=>hin (by have:h=h':=(by omega);rw[this];exact hh')),XF.set_self]
 have hK:∀ (l:List Nat) (Y:XF LO),Keeps Y (l.foldl (fun Y h=>Y.set (100 * h) .non) Y) β β:=by
  intro l
  induction l with
  | nil=>intro Y;exact Keeps.refl Y β
  | cons a l ih=>intro Y;exact (keeps_set Y β _ _).trans (ih _)
 have hKK:=(keeps_set X β (100 * t) v).trans (hK hs (X.set (100 * t) v))
 have hxt:(hs.foldl (fun Y h=>Y.set (100 * h) .non) (X.set (100 * t) v)) (100 * t)=(nx (X (100 * t)),v):=by
  rw[hX _ _ _ (fun h hh e=>ht (by have:t=h:=(by omega);rw[this];exact hh)),XF.set_self]
 have hD:∀ k,(k=100 * t∨∃ h ∈ hs,k=100 * h)→¬ isCell k:=by
  rintro k (rfl | ⟨h,_,rfl⟩)<;>exact isCell_reg _
 refine R.change (fun k=>k=100 * t∨∃ h ∈ hs,k=100 * h) ?_ hKK (fun _ _ _=>.inl rfl) (fun _ _=>rfl) ?_ ?_ ?_ ?_ ?_ (fun _ _ h=>h) (fun _ _ h=>.inl h) (hw.mono fun _ _ _ h=>h.elim)
 ·intro k hk
  rw[hX _ _ _ (fun h hh e=>hk (.inr ⟨h,hh,e⟩)),XF.set_ne _ _ (fun e=>hk (.inl e))]
 ·intro s hs';rw[if_neg (fun e=>hs'.elim (fun hs'=>hs' (.inl (by rw[e]))) (fun hs'=>by omega))]
 ·rintro s (e | ⟨h,hh,e⟩)
  ·have e:s=t:=by omega
   subst e
   rw[hxt,if_pos rfl]
   exact RR_keep hKK _ _ hr
  ·have e:s=h:=by omega
   subst e
   rw[hX2 _ _ _ hh]
   simp[RR]
 ·intro k hk
  rcases hk with rfl | ⟨h,hh,rfl⟩
  ·refine⟨by rw[hxt];exact hm,by rw[hxt];exact hsep,fun hc=>absurd hc (isCell_reg t),?_,fun h=>by omega⟩
   intro b o hb
   rcases hb with hb | ⟨hc,_⟩
   ·rw[hxt] at hb
    rcases hfp b o hb with ⟨_,h2,h3,h4⟩ | ⟨h,hh,hb⟩
    ·exact⟨h2,h3,h4⟩
    ·obtain⟨h1,h2,h3⟩:=(R.key (100 * h)).live b o (.inl hb)
     exact⟨Nat.lt_of_lt_of_le h1 hw.size,by rw[hw.fz b o h1 h3];exact h2,by rw[hw.some b o h1];exact h3⟩
   ·exact absurd hc (isCell_reg t)
  ·refine⟨by rw[hX2 _ _ _ hh];simp[Mem],by rw[hX2 _ _ _ hh];simp[Sep],fun hc=>absurd hc (isCell_reg h),?_,fun _=>hX2 _ _ _ hh⟩
   intro b o hb
   rcases hb with hb | ⟨hc,_⟩
   ·rw[hX2 _ _ _ hh] at hb;simp[fp] at hb
   ·exact absurd hc (isCell_reg h)
 ·intro k k' hk hk' hne b o hb hb'
  have hnon:∀ h ∈ hs,¬ kfp β (hs.foldl (fun Y h=>Y.set (100 * h) .non) (X.set (100 * t) v)) (100 * h) b o:=by
   intro h hh hb
   rcases hb with hb | ⟨hc,_⟩
   ·rw[hX2 _ _ _ hh] at hb;simp[fp] at hb
   ·exact absurd hc (isCell_reg h)
  rcases hk with rfl | ⟨h,hh,rfl⟩
  ·rcases hk' with rfl | ⟨h',hh',rfl⟩
   ·exact hne rfl
   ·exact hnon h' hh' hb'
  ·exact hnon h hh hb
 ·intro k hk b o hb
  rcases hb with hb | ⟨hc,_⟩
  ·rcases hk with rfl | ⟨h,hh,rfl⟩
   ·rw[hxt] at hb
    rcases hfp b o hb with ⟨h1,_⟩ | ⟨h,hh,hb⟩
    ·exact .inr h1
    ·exact .inl ⟨100 * h,.inr ⟨h,hh,rfl⟩,.inl hb⟩
   ·rw[hX2 _ _ _ hh] at hb;simp[fp] at hb
  ·exact absurd hc (hD k hk)
end Go.OT
namespace Go.OT
theorem isNode_ne_non {L:Type}{v:AV L}(h:v.isNode=true):v ≠ .non:=by rintro rfl;simp[AV.isNode] at h
theorem getN_isNode {v N:AL}{p:List Nat}(h:getN v p=some N)(hn:N.isNode=true):v.isNode=true:=by
 cases p with
 | nil=>simp only[getN,Option.some.injEq] at h;rwa [h]
 | cons i p=>cases v<;>simp [getN,AV.cells?] at h<;>rfl
theorem vw_node {v:AL}(h:v.isNode=true):isVw v=false:=by cases v<;>simp [AV.isNode] at h<;>rfl
theorem RelL.takeP {C:Ctx}{X:XF LO} {β:Nat→Nat × Nat}{I:ASet}{rg:Nat→Value}{w:World}(R:RelL C X β I rg w)(k h:Nat)(hhl:h < 10000)(p:List Nat)(hk:k ≠ 100 * h)
  {N v:AL} {x:Value} (hg:getN (X k).2 p=some N) (hn:N.isNode=true) (ho:ownQ (X k).2 p=true) (hm:Mem w I v) (hs:Sep v) (hf:∀ b o,fp v b o→fp N b o)
  (hr:RR X β v x) :
  RelL C ((X.set k (setN (X k).2 p .dead)).set (100 * h) v) β I (fun s=>if s=h then x else rg s) w:=by
 have hKk:=R.key k
 have r:=repl p (X k).2 hKk.mem hKk.sep ho hg
 have hK:=(keeps_set X β k (setN (X k).2 p .dead)).trans (keeps_set _ β (100 * h) v)
 have hx1:((X.set k (setN (X k).2 p .dead)).set (100 * h) v) k=(nx (X k),setN (X k).2 p .dead):=by rw[XF.set_ne _ _ hk,XF.set_self]
 have hx2:((X.set k (setN (X k).2 p .dead)).set (100 * h) v) (100 * h)=(nx (X (100 * h)),v):=by rw[XF.set_self,XF.set_ne _ _ (Ne.symm hk)]
 have hnon:(X k).2 ≠ .non:=isNode_ne_non (getN_isNode hg hn)
 have hfps:∀ b o,fp (setN (X k).2 p .dead) b o→fp (X k).2 b o∧¬ fp N b o:=fun b o hb=>(r.fps .dead b o hb).elim id (fun hb=>by simp[fp] at hb)
 have hlive:∀ b o,kfp β ((X.set k (setN (X k).2 p .dead)).set (100 * h) v) k b o→kfp β X k b o∧¬ fp N b o:=by
  intro b o hb
  rcases hb with hb | ⟨h1,h2,h3⟩
  ·rw[hx1] at hb
   have:=hfps b o hb
   exact⟨.inl this.1,this.2⟩
  ·refine⟨.inr ⟨h1,hnon,h3⟩,fun hb=>(hKk.cell h1 hnon).2 ?_⟩
   have:=r.sub b o hb
   rwa [h3.1,h3.2] at this
 refine R.change (fun j=>j=k∨j=100 * h) ?_ hK (fun _ _ _=>.inl rfl) (fun _ _=>rfl) ?_ ?_ ?_ ?_ ?_ (fun _ _ h=>h) (fun _ _ h=>.inl h) ((Frame.refl _ w).mono fun _ _ _ h=>h)
 ·intro j hj;rw[XF.set_ne _ _ (fun e=>hj (.inr e)),XF.set_ne _ _ (fun e=>hj (.inl e))]
 ·intro s hs';rw[if_neg (fun e=>hs'.elim (fun hs'=>hs' (.inr (by rw[e]))) (fun hs'=>by omega))]
 ·rintro s (e | e)
  ·rw[e,hx1,if_neg (by rintro rfl;exact hk e.symm)]
   have hreg:=R.reg s
   rw[e] at hreg
   by_cases hp:p=[]
   ·subst hp;simp[setN,RR]
   ·have hnode:=getN_isNode hg hn
    have hcr:CR (setN (X k).2 p .dead) (rg s):=by
     rw[CR_setN hp]
     generalize (X k).2=V at hreg hnode
     cases V<;>simp [AV.isNode] at hnode<;>simpa [RR] using hreg
    exact RR_of_CR hcr
  ·have e:s=h:=by omega
   subst e
   rw[hx2,if_pos rfl]
   exact RR_keep hK _ _ hr
 ·rintro j (rfl | rfl)
  ·refine⟨?_,?_,?_,fun b o hb=>hKk.live b o (hlive b o hb).1,?_⟩
   ·rw[hx1]
    refine r.mems .dead w I (by simp[Mem]) (fun b o hb=>?_) (fun _ _ _ _ _=>rfl) (fun _ _ hI=>⟨rfl,hI⟩)
    by_cases hp:p=[]
    ·subst hp;simp[addr] at hb
    ·obtain⟨b',o',y,h1,_,_,h4,_⟩:=r.ad hp
     rw[hb] at h1;cases h1
     exact⟨y,h4,by simp[CR]⟩
   ·rw[hx1]
    exact r.seps .dead (by simp[Sep]) (fun b o hb=>by simp[fp] at hb)
   ·intro hc _
    obtain⟨⟨y,hy,hcr⟩,hnf⟩:=hKk.cell hc hnon
    have hcr:=hcr.cr (vw_node (getN_isNode hg hn))
    rw[hx1]
    refine⟨⟨y,hy,.inl ?_⟩,fun hb=>hnf (hfps _ _ hb).1⟩
    by_cases hp:p=[]
    ·subst hp;simp[setN,CR]
    ·rw[CR_setN hp];exact hcr
   ·intro h99;exact absurd (hKk.last h99) hnon
  ·refine⟨by rw[hx2];exact hm,by rw[hx2];exact hs,fun hc=>absurd hc (isCell_reg h),?_,fun h=>by omega⟩
   intro b o hb
   rcases hb with hb | ⟨hc,_⟩
   ·rw[hx2] at hb;exact hKk.live b o (.inl (r.sub b o (hf b o hb)))
   ·exact absurd hc (isCell_reg h)
 ·have key:∀ b o,kfp β ((X.set k (setN (X k).2 p .dead)).set (100 * h) v) k b o→kfp β ((X.set k (setN (X k).2 p .dead)).set (100 * h) v) (100 * h) b o→False:=by
   intro b o h1 h2
   rcases h2 with h2 | ⟨hc,_⟩
   ·rw[hx2] at h2;exact (hlive b o h1).2 (hf b o h2)
   ·exact isCell_reg h hc
  rintro j j' (rfl | rfl) (rfl | rfl) hne b o h1 h2
  ·exact hne rfl
  ·exact key b o h1 h2
  ·exact key b o h2 h1
  ·exact hne rfl
 ·rintro j (rfl | rfl) b o hb
  ·exact .inl ⟨_,.inl rfl,(hlive b o hb).1⟩
  ·rcases hb with hb | ⟨hc,_⟩
   ·rw[hx2] at hb;exact .inl ⟨k,.inl rfl,.inl (r.sub b o (hf b o hb))⟩
   ·exact absurd hc (isCell_reg h)
theorem frame_setCell (K:ASet)(w:World)(b o:Nat)(x:Value)(hk:K b o)(hs:(w.at b o).isSome):Frame K w (w.setCell ⟨b,o,none⟩ x):=by
 have hne:∀ b',b' ≠ b→(w.setCell ⟨b,o,none⟩ x).heap[b']?=w.heap[b']?:=fun b' h=>by
  simp only[World.setCell,Array.getElem?_modify];rw[if_neg (by omega)]
 refine⟨rfl,rfl,rfl,by simp[World.setCell],fun b' _ hn=>hne b' (fun e=>hn o (e ▸ hk)),?_,?_,?_⟩
 ·intro b' o' _ hn
  by_cases e:b'=b
  ·subst e
   have hoo:o' ≠ o:=fun e=>hn (e ▸ hk)
   simp only[World.at,World.setCell,Array.getElem?_modify]
   rw[if_pos trivial]
   cases w.heap[b']? with
   | none=>rfl
   | some ob=>cases ob<;>simp [Array.getElem?_setIfInBounds_ne (Ne.symm hoo)]
  ·simp only[World.at,hne b' e]
 ·intro b' o' _
  by_cases e:b'=b
  ·subst e
   simp only[World.at,World.setCell,Array.getElem?_modify]
   rw[if_pos trivial]
   cases w.heap[b']? with
   | none=>rfl
   | some ob =>
    cases ob<;>simp
    rename_i c _ _
    by_cases h:o' < c.size<;>simp [h]
  ·simp only[World.at,hne b' e]
 ·intro b' o' _ _
  by_cases e:b'=b
  ·subst e
   simp only[World.fz,World.setCell,Array.getElem?_modify]
   rw[if_pos trivial]
   cases w.heap[b']? with
   | none=>rfl
   | some ob=>cases ob<;>simp
  ·simp only[World.fz,hne b' e]
theorem at_setCell_self (w:World)(b o:Nat)(x:Value){y:Value}(hs:w.at b o=some (.v y)):(w.setCell ⟨b,o,none⟩ x).at b o=some (.v x):=by
 rw[at_v] at hs ⊢
 simp only[World.cell?] at hs
 simp only[World.cell?,World.setCell,Array.getElem?_modify]
 rw[if_pos trivial]
 cases hb:w.heap[b]? with
 | none=>simp [hb] at hs
 | some ob =>
  cases ob<;>simp [hb] at hs ⊢
  rw[Array.getElem?_setIfInBounds_self_of_lt (Array.getElem?_eq_some_iff.1 hs).1]
def treeV {L:Type}:AV L→Bool
 | .sc v=>v.oneCell'
 | .sl _ _ _ _ _=>true
 | .bx _ _ _=>true
 | .mp _ _ _=>true
 | _=>false
theorem er_treeV (v:AL):treeV (er v)=treeV v:=by cases v<;>rfl
theorem CR_of_RR {X:XF LO} {β:Nat→Nat × Nat}{v:AL}{x:Value}(ht:treeV v=true)(h:RR X β v x):CR v x:=by
 cases v<;>simp [treeV] at ht<;>simpa [RR,CR] using h
theorem RelL.putT {C:Ctx}{X:XF LO} {β:Nat→Nat × Nat}{I:ASet}{rg:Nat→Value}{w:World}(R:RelL C X β I rg w)(k h:Nat)(q:List Nat)(hk:k ≠ 100 * h)(hq:q ≠ [])
  {u:AL} (hg:getN (X k).2 q=some u) (ho:ownQ (X k).2 q=true) (ht:treeV (X (100 * h)).2=true) (bump:Bool) (hb:bump=false→u.isNode=false) :
  ∃ b o,addr (X k).2 q=some (b,o)∧(kfp β X k b o∧(w.cell? ⟨b,o,none⟩).isSome=true) ∧
  RelL C (((if bump then X.set k (setN (X k).2 q (X (100 * h)).2) else X.upd k (setN (X k).2 q (X (100 * h)).2))).set (100 * h) .non) β I rg (w.setCell ⟨b,o,none⟩ (rg h)):=by
 have hKk:=R.key k
 have hKh:=R.key (100 * h)
 have r:=repl q (X k).2 hKk.mem hKk.sep ho hg
 obtain⟨b,o,y0,had,hfb,hnu,hy0,_⟩:=r.ad hq
 refine⟨b,o,had,⟨.inl hfb,by rw[at_v.1 hy0];rfl⟩,?_⟩
 generalize hv:(X (100 * h)).2=v at *
 have hcr:CR v (rg h):=CR_of_RR ht (by have:=R.reg h;rwa [hv] at this)
 have hsome:(w.at b o).isSome:=by rw[hy0];rfl
 have hnode:(X k).2.isNode=true:=by
  cases q with
  | nil=>exact absurd rfl hq
  | cons i q=>generalize (X k).2=V at hg;cases V<;>simp [getN,AV.cells?] at hg<;>rfl
 have hnon:(X k).2 ≠ .non:=isNode_ne_non hnode
 generalize hY:(if bump then X.set k (setN (X k).2 q v) else X.upd k (setN (X k).2 q v))=Y
 have hYk:(Y k).2=setN (X k).2 q v:=by subst hY;cases bump<;>simp [XF.set,XF.upd]
 have hYne:∀ j,j ≠ k→Y j=X j:=by intro j hj;subst hY;cases bump<;>simp [XF.set,XF.upd,hj]
 have hKY:Keeps X Y β β:=by
  subst hY
  cases bump with
  | true=>exact keeps_set X β k _
  | false =>
   refine⟨fun j=>?_,fun j _ p a ha=>?_,fun _ _=>rfl⟩
   ·by_cases e:j=k
    ·subst e;simp[XF.upd]
    ·simp[XF.upd,e]
   ·by_cases e:j=k
    ·subst e
     simp only[Bool.false_eq_true,if_false,XF.upd_self]
     exact hd_setN (hb rfl) q _ hq hg p a ha
    ·simp only[Bool.false_eq_true,if_false,XF.upd_ne _ _ e];exact ha
 have hK:=hKY.trans (keeps_set Y β (100 * h) .non)
 have hx1:(Y.set (100 * h) .non k).2=setN (X k).2 q v:=by rw[XF.set_ne _ _ hk,hYk]
 have hx2:(Y.set (100 * h) .non (100 * h)).2=.non:=by rw[XF.set_self]
 have hdis:∀ b' o',fp v b' o'→fp (X k).2 b' o'→False:=fun b' o' h1 h2=>R.disj (100 * h) k (Ne.symm hk) b' o' (.inl (by rw[hv];exact h1)) (.inl h2)
 have hw:=frame_setCell (fun b o=>∃ j,(j=k∨j=100 * h)∧kfp β X j b o) w b o (rg h) ⟨k,.inl rfl,.inl hfb⟩ hsome
 have hat:∀ b' o',(b',o') ≠ (b,o)→(w.setCell ⟨b,o,none⟩ (rg h)).at b' o'=w.at b' o':=by
  intro b' o' hne
  by_cases hlt:b' < w.heap.size
  ·exact (frame_setCell (fun b1 o1=>(b1,o1)=(b,o)) w b o (rg h) rfl hsome).cell b' o' hlt hne
  ·have h1:w.heap[b']?=none:=Array.getElem?_eq_none (by omega)
   have h2:(w.setCell ⟨b,o,none⟩ (rg h)).heap[b']?=none:=Array.getElem?_eq_none (by simp[World.setCell];omega)
   simp[World.at,h1,h2]
 have hsubk:∀ b' o',kfp β (Y.set (100 * h) .non) k b' o'→kfp β X k b' o'∨kfp β X (100 * h) b' o':=by
  intro b' o' hb'
  rcases hb' with hb' | ⟨h1,_,h3⟩
  ·rw[hx1] at hb'
   rcases r.fps v b' o' hb' with h | h
   ·exact .inl (.inl h.1)
   ·exact .inr (.inl (by rw[hv];exact h))
  ·exact .inl (.inr ⟨h1,hnon,h3⟩)
 have hnoh:∀ b' o',¬ kfp β (Y.set (100 * h) .non) (100 * h) b' o':=by
  intro b' o' hb'
  rcases hb' with hb' | ⟨hc,_⟩
  ·rw[hx2] at hb';simp[fp] at hb'
  ·exact isCell_reg h hc
 refine R.change (fun j=>j=k∨j=100 * h) ?_ hK (fun _ _ _=>.inl rfl) (fun _ _=>rfl) (fun _ _=>rfl) ?_ ?_ ?_ ?_ (fun _ _ h=>h) (fun _ _ h=>.inl h) hw
 ·intro j hj;rw[XF.set_ne _ _ (fun e=>hj (.inr e)),hYne j (fun e=>hj (.inl e))]
 ·rintro s (e | e)
  ·rw[e,hx1]
   have hreg:=R.reg s
   rw[e] at hreg
   refine RR_of_CR ((CR_setN hq).2 ?_)
   generalize (X k).2=V at hreg hnode
   cases V<;>simp [AV.isNode] at hnode<;>simpa [RR] using hreg
  ·rw[e,hx2];simp[RR]
 ·rintro j (rfl | rfl)
  ·refine⟨?_,?_,?_,?_,?_⟩
   ·rw[hx1]
    refine r.mems v _ I ?_ ?_ ?_ ?_
    ·refine Mem_frame v (hv ▸ hKh.mem) (fun b' o' hb'=>hat b' o' ?_) (fun b' o' hI=>⟨hat b' o' ?_,hI⟩)
     ·intro e;cases e;exact hdis b o hb' hfb
     ·intro e;cases e;exact (R.imm b o hI).2 j (.inl hfb)
    ·intro b' o' hb'
     rw[had] at hb';cases hb'
     exact⟨rg h,at_setCell_self w b o _ hy0,hcr⟩
    ·intro b' o' _ _ hne
     exact hat b' o' (fun e=>hne (by rw[had,← e]))
    ·intro b' o' hI
     exact⟨hat b' o' (fun e=>by cases e;exact (R.imm b o hI).2 j (.inl hfb)),hI⟩
   ·rw[hx1]
    exact r.seps v (by rw[← hv];exact hKh.sep) (fun b' o' h1 h2=>(hdis b' o' h1 h2).elim)
   ·intro hc _
    obtain⟨⟨y,hy,hcy⟩,hnf⟩:=hKk.cell hc hnon
    rw[hx1]
    have hcy:=hcy.cr (vw_node hnode)
    refine⟨⟨y,?_,.inl ((CR_setN hq).2 hcy)⟩,?_⟩
    ·rw[hat _ _ (fun e=>hnf (by cases e;exact hfb))];exact hy
    ·intro hb'
     rcases r.fps v _ _ hb' with h1 | h1
     ·exact hnf h1.1
     ·exact R.disj j (100 * h) hk _ _ (.inr ⟨hc,hnon,rfl,rfl⟩) (.inl (by rw[hv];exact h1))
   ·intro b' o' hb'
    have hl:b' < w.heap.size∧w.fz b' o'=false∧(w.at b' o').isSome:=by
     rcases hsubk b' o' hb' with h1 | h1
     ·exact hKk.live b' o' h1
     ·exact hKh.live b' o' h1
    exact⟨Nat.lt_of_lt_of_le hl.1 hw.size,by rw[hw.fz b' o' hl.1 hl.2.2];exact hl.2.1,by rw[hw.some b' o' hl.1];exact hl.2.2⟩
   ·intro h99;exact absurd (hKk.last h99) hnon
  ·refine⟨by rw[hx2];simp[Mem],by rw[hx2];simp[Sep],fun hc=>absurd hc (isCell_reg h),fun b' o' hb'=>absurd hb' (hnoh b' o'),fun h=>by omega⟩
 ·rintro j j' (rfl | rfl) (rfl | rfl) hne b' o' h1 h2
  ·exact hne rfl
  ·exact hnoh b' o' h2
  ·exact hnoh b' o' h1
  ·exact hne rfl
 ·rintro j (rfl | rfl) b' o' hb'
  ·rcases hsubk b' o' hb' with h1 | h1
   ·exact .inl ⟨j,.inl rfl,h1⟩
   ·exact .inl ⟨100 * h,.inr rfl,h1⟩
  ·exact absurd hb' (hnoh b' o')
theorem RelL.putC {C:Ctx}{X:XF LO} {β:Nat→Nat × Nat}{I:ASet}{rg:Nat→Value}{w:World}(R:RelL C X β I rg w)(k h:Nat)(hk:isCell k)
  (hn:(X k).2 ≠ .non) (ht:treeV (X (100 * h)).2=true) :
  (kfp β X k (β (k / 100)).1 ((β (k / 100)).2+(k % 100 - 1))∧(w.cell? ⟨(β (k / 100)).1,(β (k / 100)).2+(k % 100 - 1),none⟩).isSome=true) ∧
  RelL C ((X.set k (X (100 * h)).2).set (100 * h) .non) β I rg (w.setCell ⟨(β (k / 100)).1,(β (k / 100)).2+(k % 100 - 1),none⟩ (rg h)):=by
 have hkh:k ≠ 100 * h:=fun e=>isCell_reg h (e ▸ hk)
 have hKk:=R.key k
 have hKh:=R.key (100 * h)
 obtain⟨⟨y0,hy0,_⟩,hnf⟩:=hKk.cell hk hn
 generalize hb:(β (k / 100)).1=b at *
 generalize ho:(β (k / 100)).2+(k % 100 - 1)=o at *
 have hkc:kfp β X k b o:=.inr ⟨hk,hn,hb.symm,ho.symm⟩
 refine⟨⟨hkc,by rw[at_v.1 hy0];rfl⟩,?_⟩
 generalize hv:(X (100 * h)).2=v at *
 have hcr:CR v (rg h):=CR_of_RR ht (by have:=R.reg h;rwa [hv] at this)
 have hsome:(w.at b o).isSome:=by rw[hy0];rfl
 have hvn:v ≠ .non:=by rintro rfl;simp[treeV] at ht
 have hK:=(keeps_set X β k v).trans (keeps_set _ β (100 * h) .non)
 have hx1:((X.set k v).set (100 * h) .non k).2=v:=by rw[XF.set_ne _ _ hkh,XF.set_self]
 have hx2:((X.set k v).set (100 * h) .non (100 * h)).2=.non:=by rw[XF.set_self]
 have hfv:∀ b' o',fp v b' o'→kfp β X (100 * h) b' o':=fun b' o' h'=>.inl (by rw[hv];exact h')
 have hvb:¬ fp v b o:=fun h'=>R.disj k (100 * h) hkh b o hkc (hfv b o h')
 have hw:=frame_setCell (fun b o=>∃ j,(j=k∨j=100 * h)∧kfp β X j b o) w b o (rg h) ⟨k,.inl rfl,hkc⟩ hsome
 have hat:∀ b' o',(b',o') ≠ (b,o)→(w.setCell ⟨b,o,none⟩ (rg h)).at b' o'=w.at b' o':=by
  intro b' o' hne
  by_cases hlt:b' < w.heap.size
  ·exact (frame_setCell (fun b1 o1=>(b1,o1)=(b,o)) w b o (rg h) rfl hsome).cell b' o' hlt hne
  ·have h1:w.heap[b']?=none:=Array.getElem?_eq_none (by omega)
   have h2:(w.setCell ⟨b,o,none⟩ (rg h)).heap[b']?=none:=Array.getElem?_eq_none (by simp[World.setCell];omega)
   simp[World.at,h1,h2]
 have hsubk:∀ b' o',kfp β ((X.set k v).set (100 * h) .non) k b' o'→(b'=b∧o'=o)∨fp v b' o':=by
  intro b' o' hb'
  rcases hb' with hb' | ⟨_,_,h3⟩
  ·rw[hx1] at hb';exact .inr hb'
  ·exact .inl ⟨h3.1.trans hb,h3.2.trans ho⟩
 have hnoh:∀ b' o',¬ kfp β ((X.set k v).set (100 * h) .non) (100 * h) b' o':=by
  intro b' o' hb'
  rcases hb' with hb' | ⟨hc,_⟩
  ·rw[hx2] at hb';simp[fp] at hb'
  ·exact isCell_reg h hc
 have hsub2:∀ b' o',kfp β ((X.set k v).set (100 * h) .non) k b' o'→∃ j,(j=k∨j=100 * h)∧kfp β X j b' o':=by
  intro b' o' hb'
  rcases hsubk b' o' hb' with ⟨rfl,rfl⟩ | h'
  ·exact⟨k,.inl rfl,hkc⟩
  ·exact⟨100 * h,.inr rfl,hfv b' o' h'⟩
 refine R.change (fun j=>j=k∨j=100 * h) ?_ hK (fun _ _ _=>.inl rfl) (fun _ _=>rfl) (fun _ _=>rfl) ?_ ?_ ?_ ?_ (fun _ _ h=>h) (fun _ _ h=>.inl h) hw
 ·intro j hj;rw[XF.set_ne _ _ (fun e=>hj (.inr e)),XF.set_ne _ _ (fun e=>hj (.inl e))]
 ·rintro s (e | e)
  ·exact absurd (e ▸ hk) (isCell_reg s)
  ·rw[e,hx2];simp[RR]
 ·rintro j (rfl | rfl)
  ·refine⟨?_,by rw[hx1,← hv];exact hKh.sep,?_,?_,?_⟩
   ·rw[hx1]
    refine Mem_frame v (hv ▸ hKh.mem) (fun b' o' hb'=>hat b' o' ?_) (fun b' o' hI=>⟨hat b' o' ?_,hI⟩)
    ·intro e;cases e;exact hvb hb'
    ·intro e;cases e;exact (R.imm b o hI).2 j hkc
   ·intro _ _
    rw[hx1,hb,ho]
    exact⟨⟨rg h,at_setCell_self w b o _ hy0,.inl hcr⟩,hvb⟩
   ·intro b' o' hb'
    obtain⟨j',hj',hk'⟩:=hsub2 b' o' hb'
    have hl:=(R.key j').live b' o' hk'
    exact⟨Nat.lt_of_lt_of_le hl.1 hw.size,by rw[hw.fz b' o' hl.1 hl.2.2];exact hl.2.1,by rw[hw.some b' o' hl.1];exact hl.2.2⟩
   ·intro h99;exact absurd h99 hk.2
  ·exact⟨by rw[hx2];simp[Mem],by rw[hx2];simp[Sep],fun hc=>absurd hc (isCell_reg h),fun b' o' hb'=>absurd hb' (hnoh b' o'),fun h=>by omega⟩
 ·rintro j j' (rfl | rfl) (rfl | rfl) hne b' o' h1 h2
  ·exact hne rfl
  ·exact hnoh b' o' h2
  ·exact hnoh b' o' h1
  ·exact hne rfl
 ·rintro j (rfl | rfl) b' o' hb'
  ·exact .inl (hsub2 b' o' hb')
  ·exact absurd hb' (hnoh b' o')
end Go.OT
namespace Go.OT
def XF.box {L:Type}(X:XF L)(b:Nat)(cs:List (AV L)):XF L:=fun k =>
 if k / 100=b∧k % 100 ≠ 0 then (if k % 100=99 then ((X k).1+1,.non) else (nx (X k),cs.getD (k % 100 - 1) .non)) else X k
theorem RelL.newbox {C:Ctx}{X:XF LO} {β:Nat→Nat × Nat}{I:ASet}{rg:Nat→Value}{w:World}(R:RelL C X β I rg w)(b h:Nat)(hb:b < 10000)(e:TypeId)(cs:List AL)(xs:List Value)
  (hfp:∀ b o,fpL cs b o→fp (X (100 * h)).2 b o) (hmem:MemA w I cs) (hsep:SepL cs) (hlen:cs.length=xs.length)
  (hcr:∀ (i:Nat) (c:AL) (x:Value),cs[i]?=some c→xs[i]?=some x→CX X β c x) :
  RelL C ((X.box b cs).set (100 * h) .non) (fun j=>if j=b then (w.heap.size,0) else β j) I rg { w with heap:=w.heap.push (.cells xs.toArray e (0,0)) }:=by
 have hw:=frame_alloc (fun _ _=>False) w (.cells xs.toArray e (0,0))
 generalize hw':({ w with heap:=w.heap.push (.cells xs.toArray e (0,0)) }:World)=w' at hw ⊢
 have hnewat:∀ i,w'.at w.heap.size i=(xs[i]?).map Hp.v:=by
  intro i;subst hw';simp[World.at]
 have hnewfz:∀ i,w'.fz w.heap.size i=false:=by
  intro i;subst hw';simp[World.fz]
 have hsize:w'.heap.size=w.heap.size+1:=by subst hw';simp
 generalize hβ':(fun j=>if j=b then (w.heap.size,0) else β j)=β'
 have hβb:β' b=(w.heap.size,0):=by subst hβ';simp
 have hβn:∀ j,j ≠ b→β' j=β j:=by intro j hj;subst hβ';simp[hj]
 have hKY:Keeps X (X.box b cs) β β':=by
  refine⟨fun k=>?_,fun k he p a ha=>?_,fun b' he=>?_⟩
  ·simp only[XF.box];split
   ·split
    ·simp
    ·exact nx_ge _
   ·exact Nat.le_refl _
  ·simp only[XF.box] at he ⊢
   split at he
   ·rename_i hc
    rw[if_pos hc]
    split at he
    ·omega
    ·have:=getN_hd_isNode ha
     simp[nx,this] at he
   ·rename_i hc;rw[if_neg hc];exact ha
  ·by_cases hbb:b'=b
   ·subst hbb
    simp only[XF.box] at he
    rw[if_pos ⟨by omega,by omega⟩,if_pos (by omega)] at he
    omega
   ·exact hβn b' hbb
 have hK:=hKY.trans (keeps_set (X.box b cs) β' (100 * h) .non)
 have hkey:∀ i,i < 98→((X.box b cs).set (100 * h) .non (100 * b+1+i)).2=cs.getD i .non:=by
  intro i hi
  rw[XF.set_ne _ _ (by omega)]
  simp only[XF.box]
  rw[if_pos ⟨by omega,by omega⟩,if_neg (by omega)]
  simp only[show (100 * b+1+i) % 100 - 1=i by omega]
 have hform:∀ k,k / 100=b→k % 100 ≠ 0→k % 100 ≠ 99→∃ i,i < 98∧k=100 * b+1+i:=fun k h1 h2 h3=>⟨k % 100 - 1,by omega,by omega⟩
 have hhnon:((X.box b cs).set (100 * h) .non (100 * h)).2=.non:=by rw[XF.set_self]
 have h99:((X.box b cs).set (100 * h) .non (100 * b+99)).2=.non:=by
  rw[XF.set_ne _ _ (by omega)]
  simp only[XF.box]
  rw[if_pos ⟨by omega,by omega⟩,if_pos (by omega)]
 have hnok:∀ b' o',¬ kfp β' ((X.box b cs).set (100 * h) .non) (100 * h) b' o':=by
  intro b' o' hb'
  rcases hb' with hb' | ⟨hc,_⟩
  ·rw[hhnon] at hb';simp[fp] at hb'
  ·exact isCell_reg h hc
 have hno99:∀ b' o',¬ kfp β' ((X.box b cs).set (100 * h) .non) (100 * b+99) b' o':=by
  intro b' o' hb'
  rcases hb' with hb' | ⟨hc,_⟩
  ·rw[h99] at hb';simp[fp] at hb'
  ·exact hc.2 (by omega)
 have hgetD:∀ i c,cs[i]?=some c→cs.getD i .non=c:=fun i c hc=>by simp[List.getD_eq_getElem?_getD,hc]
 have hcase:∀ i,i < 98→∀ b' o',kfp β' ((X.box b cs).set (100 * h) .non) (100 * b+1+i) b' o'→∃ c,cs[i]?=some c∧(fp c b' o'∨(b'=w.heap.size∧o'=i)):=by
  intro i hi b' o' hb'
  cases hc:cs[i]? with
  | none =>
   have hg:cs.getD i .non=.non:=by simp[List.getD_eq_getElem?_getD,hc]
   rcases hb' with hb' | ⟨_,hne,_⟩
   ·rw[hkey i hi,hg] at hb';simp[fp] at hb'
   ·exact absurd ((hkey i hi).trans hg) hne
  | some c =>
   refine⟨c,rfl,?_⟩
   rcases hb' with hb' | ⟨_,_,h3⟩
   ·rw[hkey i hi,hgetD i c hc] at hb';exact .inl hb'
   ·simp only[cellAt,show (100 * b+1+i) / 100=b by omega,hβb,show (100 * b+1+i) % 100 - 1=i by omega] at h3
    exact .inr ⟨h3.1,by omega⟩
 have hold:∀ c b' o',c ∈ cs→fp c b' o'→kfp β X (100 * h) b' o':=fun c b' o' hc hb'=>.inl (hfp b' o' (fpL_iff.2 ⟨c,hc,hb'⟩))
 refine R.change (fun k=>(k / 100=b∧k % 100 ≠ 0)∨k=100 * h) ?_ hK ?_ ?_ ?_ ?_ ?_ ?_ ?_ (fun _ _ h=>h) (fun _ _ h=>.inl h) (hw.mono fun _ _ _ h=>h.elim)
 ·intro k hk
  rw[XF.set_ne _ _ (fun e=>hk (.inr e))]
  simp only[XF.box]
  rw[if_neg (fun e=>hk (.inl e))]
 ·intro k hk hc
  exact .inl (hβn _ (fun e=>hk (.inl ⟨e,hc.1⟩)))
 ·intro j hj;exact hβn j (by omega)
 ·intro s hs;rfl
 ·rintro s (⟨_,h2⟩ | e)
  ·omega
  ·rw[e,hhnon];simp[RR]
 ·rintro k (⟨h1,h2⟩ | rfl)
  ·by_cases h3:k % 100=99
   ·have:k=100 * b+99:=by omega
    subst this
    exact⟨by rw[h99];simp[Mem],by rw[h99];simp[Sep],fun hc=>absurd h3 hc.2,fun b' o' hb'=>absurd hb' (hno99 b' o'),fun _=>h99⟩
   ·obtain⟨i,hi,rfl⟩:=hform k h1 h2 h3
    cases hc:cs[i]? with
    | none =>
     have hg:((X.box b cs).set (100 * h) .non (100 * b+1+i)).2=.non:=(hkey i hi).trans (by simp[List.getD_eq_getElem?_getD,hc])
     refine⟨by rw[hg];simp[Mem],by rw[hg];simp[Sep],fun _ hne=>absurd hg hne,fun b' o' hb'=>?_,fun h=>absurd h h3⟩
     obtain⟨c,hc',_⟩:=hcase i hi b' o' hb'
     rw[hc] at hc';cases hc'
    | some c =>
     have hg:((X.box b cs).set (100 * h) .non (100 * b+1+i)).2=c:=(hkey i hi).trans (hgetD i c hc)
     have hlt:i < cs.length:=(List.getElem?_eq_some_iff.1 hc).1
     have hx:xs[i]?=some xs[i]:=List.getElem?_eq_getElem (by omega)
     have hcx:=hcr i c _ hc hx
     have hin:=List.mem_of_getElem? hc
     refine⟨?_,by rw[hg];exact (SepL_iff.1 hsep).1 c hin,fun _ _=>?_,fun b' o' hb'=>?_,fun h=>absurd h h3⟩
     ·rw[hg]
      refine Mem_frame c (MemA_iff.1 hmem c hin) (fun b' o' hb'=>?_) (fun b' o' hI=>⟨?_,hI⟩)
      ·exact hw.cell b' o' ((R.key (100 * h)).live b' o' (hold c b' o' hin hb')).1 (fun h=>h)
      ·exact hw.cell b' o' (R.imm b' o' hI).1 (fun h=>h)
     ·rw[hg]
      simp only[show (100 * b+1+i) / 100=b by omega,hβb,show (100 * b+1+i) % 100 - 1=i by omega,Nat.zero_add]
      refine⟨⟨xs[i],by rw[hnewat,hx];rfl,hcx.keep hK⟩,fun hb'=>?_⟩
      have:=((R.key (100 * h)).live _ _ (hold c _ _ hin hb')).1
      omega
     ·obtain⟨c',hc',h'⟩:=hcase i hi b' o' hb'
      rw[hc] at hc';cases hc'
      rcases h' with h' | ⟨rfl,rfl⟩
      ·obtain⟨l1,l2,l3⟩:=(R.key (100 * h)).live b' o' (hold c b' o' hin h')
       exact⟨by omega,by rw[hw.fz b' o' l1 l3];exact l2,by rw[hw.some b' o' l1];exact l3⟩
      ·exact⟨by omega,hnewfz _,by rw[hnewat,hx];rfl⟩
  ·exact⟨by rw[hhnon];simp[Mem],by rw[hhnon];simp[Sep],fun hc=>absurd hc (isCell_reg h),fun b' o' hb'=>absurd hb' (hnok b' o'),fun h=>by omega⟩
 ·have hcell:∀ k,(k / 100=b∧k % 100 ≠ 0)→∀ b' o',kfp β' ((X.box b cs).set (100 * h) .non) k b' o'→∃ i c,i < 98∧k=100 * b+1+i∧cs[i]?=some c∧(fp c b' o'∨(b'=w.heap.size∧o'=i)):=by
   rintro k ⟨h1,h2⟩ b' o' hb'
   by_cases h3:k % 100=99
   ·have:k=100 * b+99:=by omega
    subst this;exact absurd hb' (hno99 b' o')
   ·obtain⟨i,hi,rfl⟩:=hform k h1 h2 h3
    obtain⟨c,hc,h'⟩:=hcase i hi b' o' hb'
    exact⟨i,c,hi,rfl,hc,h'⟩
  rintro k k' (hk | rfl) (hk' | rfl) hne b' o' h1 h2
  ·obtain⟨i,c,hi,rfl,hc,hh⟩:=hcell k hk b' o' h1
   obtain⟨j,d,hj,rfl,hd,hh'⟩:=hcell k' hk' b' o' h2
   have hij:i ≠ j:=fun e=>hne (by rw[e])
   have hlive:∀ c,c ∈ cs→fp c b' o'→b' < w.heap.size:=fun c hc hb'=>((R.key (100 * h)).live _ _ (hold c _ _ hc hb')).1
   rcases hh with hh | ⟨e1,e2⟩
   ·rcases hh' with hh' | ⟨e1,e2⟩
    ·rcases Nat.lt_or_gt_of_ne hij with hlt | hlt
     ·exact (SepL_iff.1 hsep).2 i j c d hlt hc hd b' o' hh hh'
     ·exact (SepL_iff.1 hsep).2 j i d c hlt hd hc b' o' hh' hh
    ·have:=hlive c (List.mem_of_getElem? hc) hh;omega
   ·rcases hh' with hh' | ⟨e3,e4⟩
    ·have:=hlive d (List.mem_of_getElem? hd) hh';omega
    ·omega
  ·exact hnok b' o' h2
  ·exact hnok b' o' h1
  ·exact hne rfl
 ·rintro k (⟨h1,h2⟩ | rfl) b' o' hb'
  ·by_cases h3:k % 100=99
   ·have:k=100 * b+99:=by omega
    subst this;exact absurd hb' (hno99 b' o')
   ·obtain⟨i,hi,rfl⟩:=hform k h1 h2 h3
    obtain⟨c,hc,h'⟩:=hcase i hi b' o' hb'
    rcases h' with h' | ⟨rfl,_⟩
    ·exact .inl ⟨100 * h,.inr rfl,hold c b' o' (List.mem_of_getElem? hc) h'⟩
    ·exact .inr (Nat.le_refl _)
  ·exact absurd hb' (hnok b' o')
def AV.parts? {L:Type}:AV L→Option (List (AV L))
 | .agg cs=>some cs
 | .tuple cs=>some cs
 | _=>none
def AV.withParts {L:Type}:AV L→List (AV L)→AV L
 | .agg _,cs=>.agg cs
 | .tuple _,cs=>.tuple cs
 | v,_=>v
theorem er_parts (v:AL):(er v).parts?=v.parts?.map (·.map er):=by
 cases v<;>simp [er,AV.parts?,erL_eq]
theorem RRL_iff {X:XF LO} {β:Nat→Nat × Nat}{cs:List AL}{xs:List Value}:RRL X β cs xs ↔ cs.length=xs.length∧∀ (i:Nat) (c:AL) (x:Value),cs[i]?=some c→xs[i]?=some x→RR X β c x:=by
 induction cs generalizing xs with
 | nil=>simp [RRL,eq_comm]
 | cons c cs ih =>
  simp only[RRL,ih]
  constructor
  ·rintro⟨y,ys,rfl,h1,h2,h3⟩
   refine⟨by simp[h2],fun i d x hd hx=>?_⟩
   cases i with
   | zero=>simp at hd hx;subst hd hx;exact h1
   | succ i=>simp at hd hx;exact h3 i d x hd hx
  ·rintro⟨h1,h2⟩
   cases xs with
   | nil=>simp at h1
   | cons y ys=>exact ⟨y,ys,rfl,h2 0 c y rfl rfl,by simpa using h1,fun i d x hd hx=>h2 (i+1) d x (by simpa using hd) (by simpa using hx)⟩
theorem RelL.takeA {C:Ctx}{X:XF LO} {β:Nat→Nat × Nat}{I:ASet}{rg:Nat→Value}{w:World}(R:RelL C X β I rg w)(t h i:Nat)(hhl:h < 10000)(hth:t ≠ h)
  {cs:List AL} {c:AL} (hp:(X (100 * t)).2.parts?=some cs) (hi:cs[i]?=some c) {x:Value} (hr:RR X β c x) :
  RelL C ((X.set (100 * t) ((X (100 * t)).2.withParts (cs.set i .dead))).set (100 * h) c) β I (fun s=>if s=h then x else rg s) w:=by
 have hKt:=R.key (100 * t)
 have hRt:=R.reg t
 have hlt:i < cs.length:=(List.getElem?_eq_some_iff.1 hi).1
 have hin:=List.mem_of_getElem? hi
 generalize hV:(X (100 * t)).2=V at *
 have hfpV:∀ l,fp (V.withParts l)=fun b o=>fpL l b o:=by intro l;cases V<;>simp [AV.parts?] at hp<;>(funext b o;simp[AV.withParts,fp])
 have hsepV:∀ l,Sep (V.withParts l) ↔ SepL l:=by intro l;cases V<;>simp [AV.parts?] at hp<;>simp [AV.withParts,Sep]
 have hmemV:∀ l,Mem w I (V.withParts l) ↔ MemA w I l:=by intro l;cases V<;>simp [AV.parts?] at hp<;>simp [AV.withParts,Mem]
 have hself:V.withParts cs=V:=by cases V<;>simp [AV.parts?] at hp<;>subst hp<;>rfl
 have hmem0:MemA w I cs:=(hmemV cs).1 (by rw[hself,← hV];exact hKt.mem)
 have hsep0:SepL cs:=(hsepV cs).1 (by rw[hself,← hV];exact hKt.sep)
 have hfp0:∀ b o,fp V b o ↔ fpL cs b o:=fun b o=>by rw[← hself,hfpV]
 have hset:∀ j d,(cs.set i (.dead:AL))[j]?=some d→(j=i∧d=.dead)∨(j ≠ i∧cs[j]?=some d):=by
  intro j d hd
  by_cases e:j=i
  ·subst e;rw[List.getElem?_set_self hlt] at hd;exact .inl ⟨rfl,(Option.some.inj hd).symm⟩
  ·rw[List.getElem?_set_ne (Ne.symm e)] at hd;exact .inr ⟨e,hd⟩
 have hfps:∀ b o,fpL (cs.set i .dead) b o→fpL cs b o∧¬ fp c b o:=by
  intro b o hb
  obtain⟨d,hd,hdb⟩:=fpL_iff.1 hb
  obtain⟨j,hj⟩:=List.getElem?_of_mem hd
  rcases hset j d hj with ⟨_,rfl⟩ | ⟨hne,hj'⟩
  ·simp[fp] at hdb
  ·refine⟨fpL_iff.2 ⟨d,List.mem_of_getElem? hj',hdb⟩,fun hc=>?_⟩
   rcases Nat.lt_or_gt_of_ne hne with h | h
   ·exact (SepL_iff.1 hsep0).2 j i d c h hj' hi b o hdb hc
   ·exact (SepL_iff.1 hsep0).2 i j c d h hi hj' b o hc hdb
 have hne:(100 * t) ≠ 100 * h:=by omega
 have hK:=(keeps_set X β (100 * t) (V.withParts (cs.set i .dead))).trans (keeps_set _ β (100 * h) c)
 have hx1:((X.set (100 * t) (V.withParts (cs.set i .dead))).set (100 * h) c (100 * t)).2=V.withParts (cs.set i .dead):=by rw[XF.set_ne _ _ hne,XF.set_self]
 have hx2:((X.set (100 * t) (V.withParts (cs.set i .dead))).set (100 * h) c (100 * h)).2=c:=by rw[XF.set_self]
 have hk1:∀ b o,kfp β ((X.set (100 * t) (V.withParts (cs.set i .dead))).set (100 * h) c) (100 * t) b o→kfp β X (100 * t) b o∧¬ fp c b o:=by
  intro b o hb
  rcases hb with hb | ⟨hc,_⟩
  ·rw[hx1,hfpV] at hb
   have:=hfps b o hb
   exact⟨.inl (by rw[hV];exact (hfp0 b o).2 this.1),this.2⟩
  ·exact absurd hc (isCell_reg t)
 have hk2:∀ b o,kfp β ((X.set (100 * t) (V.withParts (cs.set i .dead))).set (100 * h) c) (100 * h) b o→fp c b o:=by
  intro b o hb
  rcases hb with hb | ⟨hc,_⟩
  ·rwa [hx2] at hb
  ·exact absurd hc (isCell_reg h)
 have hck:∀ b o,fp c b o→kfp β X (100 * t) b o:=fun b o hb=>.inl (by rw[hV];exact (hfp0 b o).2 (fpL_iff.2 ⟨c,hin,hb⟩))
 refine R.change (fun k=>k=100 * t∨k=100 * h) ?_ hK (fun _ _ _=>.inl rfl) (fun _ _=>rfl) ?_ ?_ ?_ ?_ ?_ (fun _ _ h=>h) (fun _ _ h=>.inl h) ((Frame.refl _ w).mono fun _ _ _ h=>h)
 ·intro k hk;rw[XF.set_ne _ _ (fun e=>hk (.inr e)),XF.set_ne _ _ (fun e=>hk (.inl e))]
 ·intro s hs;rw[if_neg (fun e=>hs.elim (fun hs=>hs (.inr (by rw[e]))) (fun hs=>by omega))]
 ·rintro s (e | e)
  ·have e:s=t:=by omega
   subst e
   rw[hx1,if_neg hth]
   have key:∀ xs:List Value,RRL X β cs xs→RRL ((X.set (100 * s) (V.withParts (cs.set i .dead))).set (100 * h) c) β (cs.set i .dead) xs:=by
    intro xs hxs
    rw[RRL_iff] at hxs ⊢
    refine⟨by simpa using hxs.1,fun j d y hd hy=>?_⟩
    rcases hset j d hd with ⟨_,rfl⟩ | ⟨_,hj'⟩
    ·simp[RR]
    ·exact RR_keep hK _ _ (hxs.2 j d y hj' hy)
   cases V<;>simp [AV.parts?] at hp
   ·subst hp
    simp only[RR] at hRt
    obtain⟨xs,h1,h2⟩:=hRt
    simp only[AV.withParts,RR]
    exact⟨xs,h1,key xs h2⟩
   ·subst hp
    simp only[RR] at hRt
    obtain⟨xs,h1,h2⟩:=hRt
    simp only[AV.withParts,RR]
    exact⟨xs,h1,key xs h2⟩
  ·have e:s=h:=by omega
   subst e
   rw[hx2,if_pos rfl]
   exact RR_keep hK _ _ hr
 ·rintro k (rfl | rfl)
  ·have m1:MemA w I (cs.set i .dead):=by
    refine MemA_iff.2 fun d hd=>?_
    obtain⟨j,hj⟩:=List.getElem?_of_mem hd
    rcases hset j d hj with ⟨_,rfl⟩ | ⟨_,hj'⟩
    ·simp[Mem]
    ·exact MemA_iff.1 hmem0 d (List.mem_of_getElem? hj')
   have m2:SepL (cs.set i .dead):=by
    refine SepL_iff.2 ⟨fun d hd=>?_,fun a b' u v hab hu hv b o h1 h2=>?_⟩
    ·obtain⟨j,hj⟩:=List.getElem?_of_mem hd
     rcases hset j d hj with ⟨_,rfl⟩ | ⟨_,hj'⟩
     ·simp[Sep]
     ·exact (SepL_iff.1 hsep0).1 d (List.mem_of_getElem? hj')
    ·rcases hset a u hu with ⟨_,rfl⟩ | ⟨_,ha'⟩
     ·simp[fp] at h1
     ·rcases hset b' v hv with ⟨_,rfl⟩ | ⟨_,hb'⟩
      ·simp[fp] at h2
      ·exact (SepL_iff.1 hsep0).2 a b' u v hab ha' hb' b o h1 h2
   refine⟨by rw[hx1,hmemV];exact m1,by rw[hx1,hsepV];exact m2,fun hc=>absurd hc (isCell_reg t),fun b o hb=>hKt.live b o (hk1 b o hb).1,fun h=>by omega⟩
  ·refine⟨by rw[hx2];exact MemA_iff.1 hmem0 c hin,by rw[hx2];exact (SepL_iff.1 hsep0).1 c hin,fun hc=>absurd hc (isCell_reg h),fun b o hb=>hKt.live b o (hck b o (hk2 b o hb)),fun h=>by omega⟩
 ·rintro k k' (rfl | rfl) (rfl | rfl) hne' b o h1 h2
  ·exact hne' rfl
  ·exact (hk1 b o h1).2 (hk2 b o h2)
  ·exact (hk1 b o h2).2 (hk2 b o h1)
  ·exact hne' rfl
 ·rintro k (rfl | rfl) b o hb
  ·exact .inl ⟨_,.inl rfl,(hk1 b o hb).1⟩
  ·exact .inl ⟨_,.inl rfl,hck b o (hk2 b o hb)⟩
def erF (X:XF LO):XF Unit:=fun k=>((X k).1,er (X k).2)
theorem erF_set (X:XF LO)(k:Nat)(v:AL):erF (X.set k v)=(erF X).set k (er v):=by
 funext j
 by_cases h:j=k
 ·subst h;simp[erF,XF.set,nx,er_isNode]
 ·simp[erF,XF.set,h]
theorem erF_upd (X:XF LO)(k:Nat)(v:AL):erF (X.upd k v)=(erF X).upd k (er v):=by
 funext j
 by_cases h:j=k
 ·subst h;simp[erF,XF.upd]
 ·simp[erF,XF.upd,h]
theorem erF_box (X:XF LO)(b:Nat)(cs:List AL):erF (X.box b cs)=(erF X).box b (cs.map er):=by
 funext j
 simp only[erF,XF.box]
 split
 ·split
  ·simp[er]
  ·simp only[nx,er_isNode,List.getD_eq_getElem?_getD,List.getElem?_map]
   cases cs[j % 100 - 1]?<;>simp [er]
 ·rfl
end Go.OT
namespace Go.OT
inductive COd where
 | t (n:Nat)
 | c (v:AU)
 deriving Inhabited
def ldV {L:Type}(k g:Nat)(p:List Nat)(c:AV L):AV L :=
 match c with
 | .sl true _ _ n _=>.view k g p 0 n
 | .bx true _ _=>.ptr k g p 0
 | .mp true _ _=>.mv k g p
 | c=>c
theorem er_ldV (k g:Nat)(p:List Nat)(c:AL):er (ldV k g p c)=ldV k g p (er c):=by
 cases c with
 | sl o l s n cs=>cases o<;>simp [ldV,er]
 | bx o l cs=>cases o<;>simp [ldV,er]
 | mp o l cs=>cases o<;>simp [ldV,er]
 | _=>simp [ldV,er]
abbrev rdK {L:Type}(k:Nat)(e:Nat × AV L):AV L:=ldV k e.1 [] e.2
def rd (X:XF Unit):COd→AU
 | .t n=>rdK (100 * n) (X (100 * n))
 | .c v=>v
section
variable {lv:AL}
theorem er_sc {v:Value}(h:er lv=.sc v):lv=.sc v:=by cases lv<;>simp [er] at h;exact congrArg _ h
theorem er_view {k g off len:Nat}{p:List Nat}(h:er lv=.view k g p off len):lv=.view k g p off len:=by
 cases lv<;>simp [er] at h;obtain ⟨rfl,rfl,rfl,rfl,rfl⟩:=h;rfl
theorem er_ptr {k g i:Nat}{p:List Nat}(h:er lv=.ptr k g p i):lv=.ptr k g p i:=by
 cases lv<;>simp [er] at h;obtain ⟨rfl,rfl,rfl,rfl⟩:=h;rfl
theorem er_bptr {b g i:Nat}(h:er lv=.bptr b g i):lv=.bptr b g i:=by
 cases lv<;>simp [er] at h;obtain ⟨rfl,rfl,rfl⟩:=h;rfl
theorem er_sl {o:Bool}{s n:Nat}{cs:List AU}(h:er lv=.sl o () s n cs):∃ l lcs,lv=.sl o l s n lcs∧lcs.map er=cs:=by
 cases lv<;>simp [er] at h;obtain ⟨rfl,rfl,rfl,rfl⟩:=h;exact⟨_,_,rfl,(erL_eq _).symm⟩
theorem er_bx {o:Bool}{cs:List AU}(h:er lv=.bx o () cs):∃ l lcs,lv=.bx o l lcs∧lcs.map er=cs:=by
 cases lv<;>simp [er] at h;obtain ⟨rfl,rfl⟩:=h;exact⟨_,_,rfl,(erL_eq _).symm⟩
theorem er_vptr {cs:List AU}(h:er lv=.vptr () cs):∃ l lcs,lv=.vptr l lcs∧lcs.map er=cs:=by
 cases lv<;>simp [er] at h;subst h;exact⟨_,_,rfl,(erL_eq _).symm⟩
theorem er_mp {o:Bool}{cs:List AU}(h:er lv=.mp o () cs):∃ l lcs,lv=.mp o l lcs∧lcs.map er=cs:=by
 cases lv<;>simp [er] at h;obtain ⟨rfl,rfl⟩:=h;exact⟨_,_,rfl,(erL_eq _).symm⟩
theorem er_mv {k g:Nat}{p:List Nat}(h:er lv=.mv k g p):lv=.mv k g p:=by
 cases lv<;>simp [er] at h;obtain ⟨rfl,rfl,rfl⟩:=h;rfl
theorem er_agg {cs:List AU}(h:er lv=.agg cs):∃ lcs,lv=.agg lcs∧lcs.map er=cs:=by
 cases lv<;>simp [er] at h;subst h;exact⟨_,rfl,(erL_eq _).symm⟩
theorem er_tuple {cs:List AU}(h:er lv=.tuple cs):∃ lcs,lv=.tuple lcs∧lcs.map er=cs:=by
 cases lv<;>simp [er] at h;subst h;exact⟨_,rfl,(erL_eq _).symm⟩
theorem er_clos {f:FuncId}{cs:List AU}(h:er lv=.clos f cs):∃ lcs,lv=.clos f lcs∧lcs.map er=cs:=by
 cases lv<;>simp [er] at h;obtain ⟨rfl,rfl⟩:=h;exact⟨_,rfl,(erL_eq _).symm⟩
end
def evR (rg:Nat→Value):Operand→Value
 | .tmp t=>rg t
 | .const v=>v
 | .global g=>.pointer (some ⟨g,0,none⟩)
 | .func f=>.func (.func f) #[] #[]
def plainV:Value→Bool
 | .agg _ | .tuple _=>false
 | .slice (some _) _ _=>false
 | _=>true
def cst (sz:Nat)(v:Value):AU :=
 match v with
 | .slice none 0 0=>.sl true () sz 0 []
 | v=>.sc v
def compOd (nt sz:Nat):Operand→Option COd
 | .tmp t=>if t < nt then some (.t t) else none
 | .const v=>if plainV v then some (.c (cst sz v)) else none
 | .func f=>some (.c (.clos f []))
 | .global _=>none
theorem cst_ok {X:XF LO} {β:Nat→Nat × Nat}{w:World}{I:ASet}(sz:Nat)(v:Value):∃ lv,er lv=cst sz v∧RR X β lv v∧Mem w I lv∧CR lv v∧(∀ b o,¬ fp lv b o)∧Sep lv:=by
 by_cases h:v=.slice none 0 0
 ·subst h
  exact⟨.sl true none sz 0 [],rfl,by simp[RR,CR],by simp[Mem],by simp[CR],by simp[fp],by simp[Sep]⟩
 ·refine⟨.sc v,?_,by simp[RR],by simp[Mem],by simp[CR],by simp[fp],by simp[Sep]⟩
  unfold cst
  split
  ·exact absurd rfl h
  ·rfl
theorem rd_ok {C:Ctx}{X:XF LO} {β:Nat→Nat × Nat}{I:ASet}{rg:Nat→Value}{w:World}(R:RelL C X β I rg w){nt sz:Nat}{x:Operand}{c:COd}(h:compOd nt sz x=some c) :
  ∃ lv,er lv=rd (erF X) c∧RR X β lv (evR rg x)∧Mem w I lv∧(lv.parts?=none→∀ b o,¬ fp lv b o):=by
 cases x with
 | tmp t =>
  simp only[compOd] at h
  split at h
  ·cases h
   have hr:=R.reg t
   have hm:=(R.key (100 * t)).mem
   simp only[rd,erF,evR]
   generalize hv:X (100 * t)=e at *
   obtain⟨g,v⟩:=e
   cases v with
   | sl o l s n cs =>
    cases o with
    | false=>exact ⟨_,by simp[er,rdK,ldV],hr,hm,fun _ b o=>by simp[fp]⟩
    | true =>
     refine⟨.view (100 * t) g [] 0 n,by simp[er,rdK,ldV],?_,by simp[Mem],fun _ b o=>by simp[fp]⟩
     simp only[RR,hv,Nat.le_refl,true_and]
     intro _
     refine⟨l,s,n,by simp[getN,hd],?_⟩
     simp only[RR] at hr
     cases l with
     | none =>
      simp only[CR] at hr
      exact⟨none,0,by rw[hr.1.resolve_right (by simp),hr.2],rfl,rfl,hr.2⟩
     | some l =>
      simp only[CR] at hr
      simp only[Mem] at hm
      exact⟨_,_,hr,by omega,hm.2.1,by omega,l.o,rfl,fun _=>by omega⟩
   | bx o l cs =>
    cases o with
    | false=>exact ⟨_,by simp[er,rdK,ldV],hr,hm,fun _ b o=>by simp[fp]⟩
    | true =>
     refine⟨.ptr (100 * t) g [] 0,by simp[er,rdK,ldV],?_,by simp[Mem],fun _ b o=>by simp[fp]⟩
     simp only[RR,hv,Nat.le_refl,true_and]
     intro _
     cases l with
     | none=>simp [Mem] at hm
     | some l =>
      simp only[RR,CR] at hr
      exact⟨false,l,0,0,by simp[getN,hd],by simpa using hr⟩
   | mp o l cs =>
    cases o with
    | false=>exact ⟨_,by simp[er,rdK,ldV],hr,hm,fun _ b o=>by simp[fp]⟩
    | true =>
     refine⟨.mv (100 * t) g [],by simp[er,rdK,ldV],?_,by simp[Mem],fun _ b o=>by simp[fp]⟩
     simp only[RR,hv,Nat.le_refl,true_and]
     intro _
     cases l with
     | none=>simp [Mem] at hm
     | some l =>
      simp only[RR,CR] at hr
      exact⟨l,by simp[getN,hd],hr⟩
   | _=>exact ⟨_,by simp[er,rdK,ldV],hr,hm,fun hp b o=>by simp[fp,AV.parts?] at hp ⊢⟩
  ·cases h
 | const v =>
  simp only[compOd] at h
  split at h
  ·cases h
   obtain⟨lv,h1,h2,h3,_,h4,_⟩:=cst_ok (X:=X) (β:=β) (w:=w) (I:=I) sz v
   exact⟨lv,h1,h2,h3,fun _=>h4⟩
  ·cases h
 | func f =>
  simp only[compOd,Option.some.injEq] at h
  subst h
  exact⟨.clos f [],by simp[er,erL,rd],by simp[RR,RRL,evR],by simp[Mem,MemA,fpL],fun _ b o=>by simp[fp]⟩
 | global g=>simp [compOd] at h
def RelT (C:Ctx)(X:XF Unit)(tm:Array Value)(w:World):Prop :=
 ∃ XL β I rg,erF XL=X∧RelL C XL β I rg w∧tm.size=C.nt∧∀ t,t < C.nt→tm.getD t undef=rg t
def OpOk (C:Ctx)(o:Oper)(X X':XF Unit):Prop :=
 ∀ (a:Act) (w:World),a.defers=[]→RelT C X a.tmps w→∀ (K:Act→World→Prop) (Q:Exit→Act→World→Prop),
  (∀ a' w',a'.defers=[]→RelT C X' a'.tmps w'→K a' w')→o.wp C.P a w K Q
def isSelect:Op→Bool
 | .select _ _=>true
 | _=>false
def opsIn (nt:Nat)(o:Oper):Bool :=
 !isSelect o.op && o.op.operands.all fun x=>match x with | .tmp t=>decide (t < nt) | _=>true
theorem evR_of {C:Ctx}{a:Act}{rg:Nat→Value}{o:Oper}(hin:opsIn C.nt o=true)(h:∀ t,t < C.nt→a.tmps.getD t undef=rg t):execOp a.eval o=execOp (evR rg) o:=by
 simp only[opsIn,Bool.and_eq_true] at hin
 refine execOp_congr o (fun cs b he=>by rw[he] at hin;simp[isSelect] at hin) (fun x hx=>?_)
 have:=Array.all_eq_true_iff_forall_mem.1 hin.2 x hx
 cases x with
 | tmp t=>simp only[decide_eq_true_eq] at this;exact h t this
 | _=>rfl
theorem OpOk.of_val {C:Ctx}{o:Oper}{X X':XF Unit}{d:Nat}(hd:o.dst=some d)(hlt:d < C.nt)(hin:opsIn C.nt o=true)
  (h:∀ XL β I rg w,erF XL=X→RelL C XL β I rg w→∃ x w' XL' β' I' rg',(execOp (evR rg) o).run C.P w=.ok (.value x) w'∧erF XL'=X'∧RelL C XL' β' I' rg' w'∧rg' d=x∧∀ t,t ≠ d→t < C.nt→rg' t=rg t) :
  OpOk C o X X':=by
 rintro a w hdef ⟨XL,β,I,rg,he,R,hs,ht⟩ K Q hK
 obtain⟨x,w',XL',β',I',rg',hrun,he',R',hx,hrg⟩:=h XL β I rg w he R
 unfold Oper.wp
 rw[evR_of hin ht,hrun,Oper.upon_value]
 refine hK _ _ (by simp[Act.put,hd,hdef]) ⟨XL',β',I',rg',he',R',?_,?_⟩
 ·simp[Act.put,hd,hs]
 ·intro t hlt'
  simp only[Act.put,hd]
  by_cases e:t=d
  ·subst e;simp[Array.getD_eq_getD_getElem?,hs,hlt',hx]
  ·rw[hrg t e hlt',← ht t hlt']
   simp[Array.getD_eq_getD_getElem?,Array.getElem?_setIfInBounds_ne (Ne.symm e)]
theorem OpOk.of_skip {C:Ctx}{o:Oper}{X X':XF Unit}(hd:o.dst=none)(hin:opsIn C.nt o=true)
  (h:∀ XL β I rg w,erF XL=X→RelL C XL β I rg w→∃ w' XL' β' I' rg',(execOp (evR rg) o).run C.P w=.ok .skip w'∧erF XL'=X'∧RelL C XL' β' I' rg' w'∧∀ t,t < C.nt→rg' t=rg t) :
  OpOk C o X X':=by
 rintro a w hdef ⟨XL,β,I,rg,he,R,hs,ht⟩ K Q hK
 obtain⟨w',XL',β',I',rg',hrun,he',R',hrg⟩:=h XL β I rg w he R
 unfold Oper.wp
 rw[evR_of hin ht,hrun,Oper.upon_skip]
 exact hK _ _ (by simp[Act.put,hd,hdef]) ⟨XL',β',I',rg',he',R',by simp[Act.put,hd,hs],fun t hlt'=>by simp only[Act.put,hd];rw[hrg t hlt'];exact ht t hlt'⟩
theorem OpOk.of_pure {C:Ctx}{o:Oper}{X:XF Unit}{d:Nat}{v:AU}(hd:o.dst=some d)(hlt:d < C.nt)(hin:opsIn C.nt o=true)(hv:noOwn v=true)
  (h:∀ XL β I rg w,erF XL=X→RelL C XL β I rg w→∃ lv x,er lv=v∧(execOp (evR rg) o).run C.P w=.ok (.value x) w∧Mem w I lv∧RR XL β lv x) :
  OpOk C o X (X.set (100 * d) v):=by
 refine OpOk.of_val hd hlt hin fun XL β I rg w he R=>?_
 obtain⟨lv,x,h1,h2,h3,h4⟩:=h XL β I rg w he R
 exact⟨x,w,_,β,I,_,h2,by rw[erF_set,he,h1],R.setR d (by have:=C.hnt;omega) (by rw[← er_noOwn,h1];exact hv) h3 h4,by simp,fun t ht _=>by simp[ht]⟩
def scBin (op:BinOp):Value→Value→Option Value
 | .int k a,.int k' b =>
  match op with
  | .shl=>if b < 0 then none else some (.int k (k.wrap (a * 2 ^ (min b.toNat k.bits))))
  | .shr=>if b < 0 then none else some (.int k (a.fdiv (2 ^ (min b.toNat k.bits))))
  | .add=>if k=k' then some (.int k (k.wrap (a+b))) else none
  | .sub=>if k=k' then some (.int k (k.wrap (a - b))) else none
  | .mul=>if k=k' then some (.int k (k.wrap (a * b))) else none
  | .quo=>if k=k'∧b ≠ 0 then some (.int k (k.wrap (a.tdiv b))) else none
  | .rem=>if k=k'∧b ≠ 0 then some (.int k (a.tmod b)) else none
  | .and=>if k=k' then some (.int k (k.wrap (BitVec.ofInt k.bits a &&& BitVec.ofInt k.bits b).toNat)) else none
  | .or=>if k=k' then some (.int k (k.wrap (BitVec.ofInt k.bits a ||| BitVec.ofInt k.bits b).toNat)) else none
  | .xor=>if k=k' then some (.int k (k.wrap (BitVec.ofInt k.bits a ^^^ BitVec.ofInt k.bits b).toNat)) else none
  | .andNot=>if k=k' then some (.int k (k.wrap (BitVec.ofInt k.bits a &&& ~~~BitVec.ofInt k.bits b).toNat)) else none
  | .eql=>if k=k' then some (.bool (a == b)) else none
  | .neq=>if k=k' then some (.bool (a != b)) else none
  | .lss=>if k=k' then some (.bool (decide (a < b))) else none
  | .leq=>if k=k' then some (.bool (decide (a≤b))) else none
  | .gtr=>if k=k' then some (.bool (decide (a > b))) else none
  | .geq=>if k=k' then some (.bool (decide (a ≥ b))) else none
 | .string a,.string b =>
  match op with
  | .add=>if a.size+b.size≤4611686018427387904 then some (.string (a ++ b)) else none
  | .eql=>some (.bool (a.toList == b.toList))
  | .neq=>some (.bool !(a.toList == b.toList))
  | _=>none
 | _,_=>none
theorem run_scBin {P:Program}{w:World}{op:BinOp}{t:TypeId}{x y r:Value}{ox oy:Operand}(h:scBin op x y=some r) :
  (do eqGuard op t ox oy x y;binOp op t x y).run P w=.ok r w:=by
 cases x<;>cases y<;>simp [scBin] at h
 ·cases op<;>simp at h <;>
   first
    | (obtain ⟨⟨rfl,h0⟩,rfl⟩:=h;simp[eqGuard,binOp,Op.intDiv,h0])
    | (obtain ⟨rfl,rfl⟩:=h;simp[eqGuard,binOp,Op.intArith,Op.intBits,Op.intCmp])
    | (obtain ⟨h0,rfl⟩:=h;simp[eqGuard,binOp,Op.shift];intro h1;omega)
 ·cases op<;>simp at h <;>
   first
    | (obtain ⟨h0,rfl⟩:=h;simp[eqGuard,binOp,Op.stringOp,IntKind.max,IntKind.bits,IntKind.signed];omega)
    | (subst h;simp[eqGuard,binOp,Op.stringOp])
def scUn (op:UnOp):Value→Option Value
 | .bool b=>match op with
  | .not=>some (.bool !b)
  | _=>none
 | .int k n=>match op with
  | .neg=>some (.int k (k.wrap (0 - n)))
  | .xor=>some (.int k (k.wrap (BitVec.ofInt k.bits (if k.signed then -1 else k.max) ^^^ BitVec.ofInt k.bits n).toNat))
  | _=>none
 | _=>none
theorem run_scUn {P:Program}{w:World}{op:UnOp}{x r:Value}(h:scUn op x=some r):(Op.unary op x).run P w=.ok r w:=by
 cases x<;>simp [scUn] at h<;>cases op<;>simp at h<;>subst h<;>simp [Op.unary,Op.intArith,Op.intBits]
def scMx (mx:Bool):Value→Value→Option Value
 | .int k a,.int k' b=>if k=k' then some (.int k (if mx then (if b > a then b else a) else (if b < a then b else a))) else none
 | _,_=>none
end Go.OT
namespace Go.OT
def sizeT (P:Program)(t:TypeId):Option Nat:=(P.info? t).map (·.size)
section
variable {C:Ctx} {X:XF LO} {β:Nat→Nat × Nat} {I:ASet} {rg:Nat→Value} {w:World}
theorem run_sizeOf {P:Program}{t:TypeId}{n:Nat}(h:sizeT P t=some n)(w:World):(sizeOf t).run P w=.ok n w:=by
 unfold sizeT at h
 cases hi:P.info? t with
 | none=>simp [hi] at h
 | some i=>simp [hi] at h;subst h;simp[sizeOf,typeInfo,hi]
structure Opd (X:XF LO) (β:Nat→Nat × Nat) (I:ASet) (w:World) (v:AU) (x:Value):Prop where
 ex:∃ lv,er lv=v∧RR X β lv x∧Mem w I lv
theorem opd (R:RelL C X β I rg w){nt sz:Nat}{x:Operand}{c:COd}(h:compOd nt sz x=some c):Opd X β I w (rd (erF X) c) (evR rg x):=by
 obtain⟨lv,h1,h2,h3,_⟩:=rd_ok R h
 exact⟨lv,h1,h2,h3⟩
theorem Opd.sc {v x:Value}(h:Opd X β I w (.sc v) x):x=v:=by
 obtain⟨lv,h1,h2,_⟩:=h.ex
 rw[er_sc h1] at h2
 simpa [RR] using h2
theorem Opd.bptr {b g i:Nat}{x:Value}(h:Opd X β I w (.bptr b g i) x)(hg:(erF X (100 * b+99)).1=g):x=.pointer (some ⟨(β b).1,(β b).2+i,none⟩):=by
 obtain⟨lv,h1,h2,_⟩:=h.ex
 rw[er_bptr h1] at h2
 simp only[RR] at h2
 exact h2.2 hg
theorem Opd.ptr {k g i:Nat}{p:List Nat}{x:Value}(h:Opd X β I w (.ptr k g p i) x)(hg:(erF X k).1=g) :
  ∃ s l sz n,(getN (X k).2 p).bind hd=some (s,some l,sz,n)∧x=.pointer (some ⟨l.b,l.o+i,none⟩):=by
 obtain⟨lv,h1,h2,_⟩:=h.ex
 rw[er_ptr h1] at h2
 simp only[RR] at h2
 exact h2.2 hg
theorem Opd.view {k g off n:Nat}{p:List Nat}{x:Value}(h:Opd X β I w (.view k g p off n) x)(hg:(erF X k).1=g) :
  ∃ l sz m,(getN (X k).2 p).bind hd=some (true,l,sz,m)∧SV l sz m off n x:=by
 obtain⟨lv,h1,h2,_⟩:=h.ex
 rw[er_view h1] at h2
 simp only[RR] at h2
 exact h2.2 hg
theorem Opd.vptr {cs:List AU}{x:Value}(h:Opd X β I w (.vptr () cs) x):∃ (l:Loc) (lcs:List AL),lcs.map er=cs∧x=.pointer (some ⟨l.b,l.o,none⟩)∧MemL w I false lcs l.b l.o:=by
 obtain⟨lv,h1,h2,h3⟩:=h.ex
 obtain⟨l,lcs,rfl,h4⟩:=er_vptr h1
 simp only[RR] at h2
 obtain⟨l',rfl,h5⟩:=h2
 simp only[Mem] at h3
 exact⟨l',lcs,h4,h5,h3⟩
theorem Opd.slI {sz n:Nat}{cs:List AU}{x:Value}(h:Opd X β I w (.sl false () sz n cs) x) :
  ((∃ a,x=.slice a 0 0)∧n=0∧cs=[])∨∃ (l:Loc) (lcs:List AL),lcs.map er=cs∧x=.slice (some ⟨l.b,l.o,none⟩) n l.cap∧n≤l.cap∧lcs.length=n * sz∧MemL w I false lcs l.b l.o:=by
 obtain⟨lv,h1,h2,h3⟩:=h.ex
 obtain⟨l,lcs,rfl,h4⟩:=er_sl h1
 simp only[RR] at h2
 cases l with
 | none =>
  simp only[CR] at h2
  simp only[Mem] at h3
  exact .inl ⟨h2.1.elim (fun h=>⟨none,h⟩) (·.2),h3.1,by rw[← h4,h3.2];rfl⟩
 | some l =>
  simp only[CR] at h2
  simp only[Mem] at h3
  exact .inr ⟨l,lcs,h4,h2,h3.2.1,h3.1,h3.2.2.1⟩
theorem Opd.slO {sz n:Nat}{cs:List AU}{x:Value}(h:Opd X β I w (.sl true () sz n cs) x):∃ a cap,x=.slice a n cap∧(n=0∨a.isSome):=by
 obtain⟨lv,h1,h2,h3⟩:=h.ex
 obtain⟨l,lcs,rfl,h4⟩:=er_sl h1
 simp only[RR] at h2
 cases l with
 | none=>simp only[CR] at h2;exact⟨none,0,by rw[h2.1.resolve_right (by simp),h2.2],.inl h2.2⟩
 | some l=>simp only[CR] at h2;exact⟨_,_,h2,.inr rfl⟩
theorem node_sl {k:Nat}{p:List Nat}{o:Bool}{sz n:Nat}{cs:List AU}(h:getN (erF X k).2 p=some (.sl o () sz n cs)):∃ l lcs,getN (X k).2 p=some (.sl o l sz n lcs)∧lcs.map er=cs:=by
 simp only[erF,er_getN] at h
 cases hg:getN (X k).2 p with
 | none=>simp [hg] at h
 | some v =>
  simp only[hg,Option.map_some,Option.some.injEq] at h
  obtain⟨l,lcs,rfl,h4⟩:=er_sl h
  exact⟨l,lcs,rfl,h4⟩
theorem node_bx {k:Nat}{p:List Nat}{o:Bool}{cs:List AU}(h:getN (erF X k).2 p=some (.bx o () cs)):∃ l lcs,getN (X k).2 p=some (.bx o l lcs)∧lcs.map er=cs:=by
 simp only[erF,er_getN] at h
 cases hg:getN (X k).2 p with
 | none=>simp [hg] at h
 | some v =>
  simp only[hg,Option.map_some,Option.some.injEq] at h
  obtain⟨l,lcs,rfl,h4⟩:=er_bx h
  exact⟨l,lcs,rfl,h4⟩
theorem node_mp {k:Nat}{p:List Nat}{o:Bool}{cs:List AU}(h:getN (erF X k).2 p=some (.mp o () cs)):∃ l lcs,getN (X k).2 p=some (.mp o l lcs)∧lcs.map er=cs:=by
 simp only[erF,er_getN] at h
 cases hg:getN (X k).2 p with
 | none=>simp [hg] at h
 | some v =>
  simp only[hg,Option.map_some,Option.some.injEq] at h
  obtain⟨l,lcs,rfl,h4⟩:=er_mp h
  exact⟨l,lcs,rfl,h4⟩
theorem Mem_getN {p:List Nat}:∀ {v u:AL},Mem w I v→getN v p=some u→Mem w I u:=by
 induction p with
 | nil=>intro v u h hg;simp only[getN,Option.some.injEq] at hg;exact hg ▸ h
 | cons i p ih =>
  intro v u h hg
  simp only[getN] at hg
  cases hc:v.cells? with
  | none=>simp [hc] at hg
  | some cs =>
   simp only[hc] at hg
   cases hi:cs[i]? with
   | none=>simp [hi] at hg
   | some c =>
    simp only[hi] at hg
    refine ih ?_ hg
    cases v with
    | sl o l s n k =>
     simp only[AV.cells?,Option.some.injEq] at hc;subst hc
     cases l with
     | none=>simp [Mem] at h;simp[h.2] at hi
     | some l=>simp only[Mem] at h;exact ((MemL_iff.1 h.2.2.1) i c hi).2.1
    | bx o l k =>
     simp only[AV.cells?,Option.some.injEq] at hc;subst hc
     cases l with
     | none=>simp [Mem] at h
     | some l=>simp only[Mem] at h;exact ((MemL_iff.1 h) i c hi).2.1
    | _=>simp [AV.cells?] at hc
end
theorem ok_mov {C:Ctx}{o:Oper}{X:XF Unit}{d sz:Nat}{x:Operand}{c:COd}(ho:o.op=.move x∨o.op=.assign x)(hd:o.dst=some d)(hlt:d < C.nt)(hin:opsIn C.nt o=true)
  (hc:compOd C.nt sz x=some c) (hv:noOwn (rd X c)=true):OpOk C o X (X.set (100 * d) (rd X c)) :=
 OpOk.of_pure hd hlt hin hv fun XL β I rg w he R=>by
  obtain⟨lv,h1,h2,h3,_⟩:=rd_ok R hc
  rw[he] at h1
  exact⟨lv,_,h1,by rcases ho with ho | ho<;>simp [execOp,ho],h3,h2⟩
def sureP (X:XF Unit):AU→Bool
 | .ptr k g _ _=>(X k).1 == g
 | .bptr b g _=>(X (100 * b+99)).1 == g
 | .vptr _ _=>true
 | _=>false
theorem sure_ptr {X:XF LO} {β:Nat→Nat × Nat}{I:ASet}{w:World}{v:AU}{x:Value}(h:Opd X β I w v x)(hs:sureP (erF X) v=true):∃ a,x=.pointer (some a):=by
 cases v<;>simp [sureP] at hs
 ·obtain⟨s,l,sz,n,_,h2⟩:=h.ptr hs;exact⟨_,h2⟩
 ·exact⟨_,h.bptr hs⟩
 ·obtain⟨l,_,_,h2,_⟩:=h.vptr;exact⟨_,h2⟩
theorem ok_chk {C:Ctx}{o:Oper}{X:XF Unit}{d sz:Nat}{x:Operand}{c:COd}(ho:o.op=.nilCheck x)(hd:o.dst=some d)(hlt:d < C.nt)(hin:opsIn C.nt o=true)
  (hc:compOd C.nt sz x=some c) (hv:sureP X (rd X c)=true):OpOk C o X (X.set (100 * d) (rd X c)) :=
 OpOk.of_pure hd hlt hin (by generalize rd X c=v at *;cases v<;>simp [sureP] at hv<;>rfl) fun XL β I rg w he R=>by
  obtain⟨lv,h1,h2,h3,_⟩:=rd_ok R hc
  have h:=opd R hc
  rw[he] at h1 h
  obtain⟨a,ha⟩:=sure_ptr h (by rw[he];exact hv)
  refine⟨lv,_,h1,?_,h3,h2⟩
  simp[execOp,ho,ha]
theorem ok_pick {C:Ctx}{o:Oper}{X:XF Unit}{d sz:Nat}{x a b:Operand}{c ca cb:COd}{t:Bool}(ho:o.op=.pick x a b)(hd:o.dst=some d)(hlt:d < C.nt)(hin:opsIn C.nt o=true)
  (hc:compOd C.nt sz x=some c) (ha:compOd C.nt sz a=some ca) (hb:compOd C.nt sz b=some cb) (hx:rd X c=.sc (.bool t))
  (hv:noOwn (if t then rd X ca else rd X cb)=true):OpOk C o X (X.set (100 * d) (if t then rd X ca else rd X cb)) :=
 OpOk.of_pure hd hlt hin hv fun XL β I rg w he R=>by
  have h:=opd R hc
  rw[he,hx] at h
  have hxx:=h.sc
  cases t with
  | true =>
   obtain⟨lv,h1,h2,h3,_⟩:=rd_ok R ha
   rw[he] at h1
   exact⟨lv,_,by simpa using h1,by simp[execOp,ho,hxx,asBool],h3,h2⟩
  | false =>
   obtain⟨lv,h1,h2,h3,_⟩:=rd_ok R hb
   rw[he] at h1
   exact⟨lv,_,by simpa using h1,by simp[execOp,ho,hxx,asBool],h3,h2⟩
theorem OpOk.of_sc {C:Ctx}{o:Oper}{X:XF Unit}{d:Nat}{v:Value}(hd:o.dst=some d)(hlt:d < C.nt)(hin:opsIn C.nt o=true)
  (h:∀ XL β I rg w,erF XL=X→RelL C XL β I rg w→(execOp (evR rg) o).run C.P w=.ok (.value v) w):OpOk C o X (X.set (100 * d) (.sc v)) :=
 OpOk.of_pure hd hlt hin rfl fun XL β I rg w he R=>⟨.sc v,v,rfl,h XL β I rg w he R,by simp[Mem],by simp[RR]⟩
theorem ok_un {C:Ctx}{o:Oper}{X:XF Unit}{d sz:Nat}{op:UnOp}{t:TypeId}{x:Operand}{c:COd}{u r:Value}(ho:o.op=.unOp op t x)(hd:o.dst=some d)(hlt:d < C.nt)(hin:opsIn C.nt o=true)
  (hc:compOd C.nt sz x=some c) (hx:rd X c=.sc u) (hr:scUn op u=some r):OpOk C o X (X.set (100 * d) (.sc r)) :=
 OpOk.of_sc hd hlt hin fun XL β I rg w he R=>by
  have h:=opd R hc
  rw[he,hx] at h
  simp[execOp,ho,h.sc,run_scUn hr]
theorem ok_bin {C:Ctx}{o:Oper}{X:XF Unit}{d sz:Nat}{op:BinOp}{t t':TypeId}{x y:Operand}{c e:COd}{u v r:Value}(ho:o.op=.binOp op t x y t')(hd:o.dst=some d)(hlt:d < C.nt)(hin:opsIn C.nt o=true)
  (hc:compOd C.nt sz x=some c) (hy:compOd C.nt sz y=some e) (hx:rd X c=.sc u) (hx':rd X e=.sc v) (hr:scBin op u v=some r):OpOk C o X (X.set (100 * d) (.sc r)) :=
 OpOk.of_sc hd hlt hin fun XL β I rg w he R=>by
  have h:=opd R hc
  have h':=opd R hy
  rw[he,hx] at h
  rw[he,hx'] at h'
  have:=run_scBin (P:=C.P) (w:=w) (t:=t) (ox:=x) (oy:=y) hr
  simp only[execOp,ho,h.sc,h'.sc]
  simp only[Sem.run_bind] at this ⊢
  rw[this];rfl
theorem run_equal_bool {P:Program}{t:TypeId}(ht:P.underlying t=some .bool)(u v:Bool)(w:World):(Op.equal t (.bool u) (.bool v)).run P w=.ok (u == v) w:=by
 show (Op.equalIn (9999+1) t (.bool u) (.bool v)).run P w=_
 generalize 9999=n
 simp[Op.equalIn,run_underlying ht]
theorem ok_beq {C:Ctx}{o:Oper}{X:XF Unit}{d sz:Nat}{op:BinOp}{t t':TypeId}{x y:Operand}{c e:COd}{u v:Bool}(ho:o.op=.binOp op t x y t')(hd:o.dst=some d)(hlt:d < C.nt)(hin:opsIn C.nt o=true)
  (hop:op=.eql∨op=.neq) (ht:C.P.underlying t=some .bool)
  (hc:compOd C.nt sz x=some c) (hy:compOd C.nt sz y=some e) (hx:rd X c=.sc (.bool u)) (hx':rd X e=.sc (.bool v)):OpOk C o X (X.set (100 * d) (.sc (.bool (if op=.eql then u == v else !(u == v))))) :=
 OpOk.of_sc hd hlt hin fun XL β I rg w he R=>by
  have h:=opd R hc
  have h':=opd R hy
  rw[he,hx] at h
  rw[he,hx'] at h'
  rcases hop with rfl | rfl<;>simp [execOp,ho,h.sc,h'.sc,eqGuard,binOp,run_equal_bool ht]
theorem ok_conv {C:Ctx}{o:Oper}{X:XF Unit}{d sz:Nat}{s t:TypeId}{k k':IntKind}{ds:TypeDesc}{n:Int}{x:Operand}{c:COd}(ho:o.op=.convert s t x)(hd:o.dst=some d)(hlt:d < C.nt)(hin:opsIn C.nt o=true)
  (hs:C.P.underlying s=some ds) (ht:C.P.underlying t=some (.int k)) (hc:compOd C.nt sz x=some c) (hx:rd X c=.sc (.int k' n)):OpOk C o X (X.set (100 * d) (.sc (.int k (k.wrap n)))) :=
 OpOk.of_sc hd hlt hin fun XL β I rg w he R=>by
  have h:=opd R hc
  rw[he,hx] at h
  simp[execOp,ho,h.sc,convert,run_underlying ht,run_underlying hs,Conv.intToInt]
end Go.OT
namespace Go.OT
def isAggT (P:Program)(t:TypeId):Option Bool :=
 (P.underlying t).map fun d=>match d with
  | .struct _ | .array _ _=>true
  | _=>false
theorem run_isAgg {P:Program}{t:TypeId}{b:Bool}(h:isAggT P t=some b)(w:World):(isAgg t).run P w=.ok b w:=by
 unfold isAggT at h
 cases hd:P.underlying t with
 | none=>simp [hd] at h
 | some d =>
  simp only[hd,Option.map_some,Option.some.injEq] at h
  unfold isAgg
  simp only[Sem.run_bind,run_underlying hd,Result.andThen_ok]
  subst h
  cases d<;>rfl
def AV.isNon {L:Type}:AV L→Bool
 | .non=>true
 | _=>false
theorem range_none {n j:Nat}(h:¬ j < n):(List.range n)[j]?=none:=by simp;omega
def ldCells (X:XF Unit)(x:AU)(n:Nat):Option (List AU) :=
 match x with
 | .bptr b g i=>if (X (100 * b+99)).1=g∧i+n≤98∧(List.range n).all (fun j=>!(X (100 * b+1+(i+j))).2.isNon)=true then
   some ((List.range n).map fun j=>rdK (100 * b+1+(i+j)) (X (100 * b+1+(i+j)))) else none
 | .ptr k g p i=>if (X k).1=g then match (getN (X k).2 p).bind AV.cells? with
   | some cs=>if i+n≤cs.length then some ((List.range n).map fun j=>ldV k g (p ++ [i+j]) (cs.getD (i+j) .non)) else none
   | none=>none
  else none
 | .vptr _ cs=>if n≤cs.length then some (cs.take n) else none
 | _=>none
section
variable {C:Ctx} {X:XF LO} {β:Nat→Nat × Nat} {I:ASet} {rg:Nat→Value} {w:World}
theorem ldV_RR {k:Nat}{p:List Nat}{c:AL}{y:Value}(hg:getN (X k).2 p=some c)(hm:Mem w I c)(hc:CR c y):RR X β (ldV k (X k).1 p c) y:=by
 cases c with
 | sl o l s n cs =>
  cases o with
  | false=>exact RR_of_CR hc
  | true =>
   simp only[ldV,RR,Nat.le_refl,true_and]
   intro _
   refine⟨l,s,n,by simp[hg,hd],?_⟩
   cases l with
   | none=>simp only[CR] at hc;exact⟨none,0,by rw[hc.1.resolve_right (by simp),hc.2],rfl,rfl,hc.2⟩
   | some l =>
    simp only[CR] at hc
    simp only[Mem] at hm
    exact⟨_,_,hc,by omega,hm.2.1,by omega,l.o,rfl,fun _=>by omega⟩
 | bx o l cs =>
  cases o with
  | false=>exact RR_of_CR hc
  | true =>
   cases l with
   | none=>simp [Mem] at hm
   | some l =>
    simp only[ldV,RR,Nat.le_refl,true_and]
    intro _
    simp only[CR] at hc
    exact⟨false,l,0,0,by simp[hg,hd],by simpa using hc⟩
 | mp o l cs =>
  cases o with
  | false=>exact RR_of_CR hc
  | true =>
   cases l with
   | none=>simp [Mem] at hm
   | some l =>
    simp only[ldV,RR,Nat.le_refl,true_and]
    intro _
    simp only[CR] at hc
    exact⟨l,by simp[hg,hd],hc⟩
 | dead=>simp [ldV,RR]
 | non=>simp [CR] at hc
 | _=>simp only[ldV];exact RR_of_CR hc
theorem ldV_CX {k:Nat}{y:Value}(hm:Mem w I (X k).2)(hc:CX X β (X k).2 y):RR X β (rdK k (X k)) y:=by
 rcases hc with hc | ⟨hv,hr⟩
 ·exact ldV_RR (by simp[getN]) hm hc
 ·have:rdK k (X k)=(X k).2:=by
   simp only[rdK]
   generalize (X k).2=v at hv
   cases v<;>simp [isVw] at hv<;>rfl
  rw[this];exact hr
theorem ldV_Mem {k g:Nat}{p:List Nat}{c:AL}(hm:Mem w I c):Mem w I (ldV k g p c):=by
 cases c with
 | sl o l s n cs=>cases o<;>simp only[ldV]<;>first | exact hm | simp [Mem]
 | bx o l cs=>cases o<;>simp only[ldV]<;>first | exact hm | simp [Mem]
 | mp o l cs=>cases o<;>simp only[ldV]<;>first | exact hm | simp [Mem]
 | _=>simpa only [ldV] using hm
theorem getN_append (p:List Nat)(i:Nat):∀ (v N:AL) (cs:List AL) (c:AL),getN v p=some N→N.cells?=some cs→cs[i]?=some c→getN v (p ++ [i])=some c:=by
 induction p with
 | nil=>intro v N cs c hg hc hi;simp only[getN,Option.some.injEq] at hg;subst hg;simp[getN,hc,hi]
 | cons j p ih =>
  intro v N cs c hg hc hi
  simp only[getN,List.cons_append] at hg ⊢
  cases hv:v.cells? with
  | none=>simp [hv] at hg
  | some ds =>
   simp only[hv] at hg ⊢
   cases hj:ds[j]? with
   | none=>simp [hj] at hg
   | some d=>simp only[hj] at hg ⊢;exact ih d N cs c hg hc hi
theorem cells_at {N:AL}{cs:List AL}{l:Loc}(hm:Mem w I N)(hc:N.cells?=some cs)(hl:N.loc?=some l)(i:Nat)(c:AL)(hi:cs[i]?=some c):(∃ y,w.at l.b (l.o+i)=some (.v y)∧CR c y)∧Mem w I c:=by
 cases N with
 | sl o l' s n k =>
  simp only[AV.cells?,Option.some.injEq] at hc;subst hc
  simp only[AV.loc?] at hl;subst hl
  simp only[Mem] at hm
  have:=(MemL_iff.1 hm.2.2.1) i c hi
  exact⟨this.1,this.2.1⟩
 | bx o l' k =>
  simp only[AV.cells?,Option.some.injEq] at hc;subst hc
  simp only[AV.loc?] at hl;subst hl
  simp only[Mem] at hm
  have:=(MemL_iff.1 hm) i c hi
  exact⟨this.1,this.2.1⟩
 | _=>simp [AV.cells?] at hc
theorem hd_loc {N:AL}{s:Bool}{l:LO}{sz n:Nat}(h:hd N=some (s,l,sz,n)):N.loc?=l:=by
 cases N<;>simp [hd] at h<;>simp [AV.loc?,h]
theorem ldCells_ok (R:RelL C X β I rg w){v:AU}{x:Value}{n:Nat}{cs:List AU}(h:Opd X β I w v x)(hl:ldCells (erF X) v n=some cs) :
  ∃ (b o:Nat) (xs:List Value) (lcs:List AL),x=.pointer (some ⟨b,o,none⟩)∧xs.length=n∧(∀ j y,xs[j]?=some y→w.at b (o+j)=some (.v y))∧lcs.map er=cs∧RRL X β lcs xs∧MemA w I lcs:=by
 -- from a function that tells each cell
 have build:∀ (b o:Nat) (f:Nat→AL),(∀ j,j < n→∃ y,w.at b (o+j)=some (.v y)∧RR X β (f j) y∧Mem w I (f j)) →
   ∃ (xs:List Value),xs.length=n∧(∀ j y,xs[j]?=some y→w.at b (o+j)=some (.v y))∧RRL X β ((List.range n).map f) xs∧MemA w I ((List.range n).map f):=by
  intro b o f hf
  refine⟨(List.range n).map fun j=>(w.cell? ⟨b,o+j,none⟩).getD undef,by simp,?_,?_,?_⟩
  ·intro j y hy
   simp only[List.getElem?_map,List.getElem?_range] at hy
   by_cases hj:j < n
   ·obtain⟨z,hz,_⟩:=hf j hj
    have hz':=at_v.1 hz
    simp[List.getElem?_range,hj,hz'] at hy
    rw[hz,hy]
   ·simp[range_none hj] at hy
  ·rw[RRL_iff]
   refine⟨by simp,fun j c y hc hy=>?_⟩
   by_cases hj:j < n
   ·obtain⟨z,hz,hr,_⟩:=hf j hj
    have hz':=at_v.1 hz
    simp[List.getElem?_range,hj,hz'] at hc hy
    rw[← hc,← hy];exact hr
   ·simp[range_none hj] at hc
  ·rw[MemA_iff]
   intro c hc
   obtain⟨j,hj,rfl⟩:=List.mem_map.1 hc
   exact (hf j (by simpa using hj)).choose_spec.2.2
 cases v with
 | bptr b g i =>
  simp only[ldCells] at hl
  split at hl
  ·rename_i hcond
   obtain⟨hg,hi,hall⟩:=hcond
   simp only[Option.some.injEq] at hl
   have hx:=h.bptr hg
   obtain⟨xs,h1,h2,h3,h4⟩:=build (β b).1 ((β b).2+i) (fun j=>rdK (100 * b+1+(i+j)) (X (100 * b+1+(i+j)))) (by
    intro j hj
    have hnn:=(List.all_eq_true.1 hall) j (by simpa using hj)
    have hne:(X (100 * b+1+(i+j))).2 ≠ .non:=by
     intro e;simp[erF,e,er,AV.isNon] at hnn
    have hK:=R.key (100 * b+1+(i+j))
    obtain⟨⟨y,hy,hcr⟩,_⟩:=hK.cell (by unfold isCell;omega) hne
    rw[show (100 * b+1+(i+j)) / 100=b by omega,show (100 * b+1+(i+j)) % 100 - 1=i+j by omega] at hy
    exact⟨y,by rw[Nat.add_assoc];exact hy,ldV_CX hK.mem hcr,ldV_Mem hK.mem⟩)
   refine⟨_,_,xs,_,hx,h1,h2,?_,h3,h4⟩
   rw[← hl,List.map_map]
   refine List.map_congr_left fun j _=>?_
   simp only[Function.comp,rdK,er_ldV,erF]
  ·cases hl
 | ptr k g p i =>
  simp only[ldCells] at hl
  split at hl
  ·rename_i hg
   obtain⟨s,l,sz,m,hhd,hx⟩:=h.ptr hg
   cases hN:getN (X k).2 p with
   | none=>simp [hN] at hhd
   | some N =>
    simp only[hN,Option.bind_some] at hhd
    have hloc:=hd_loc hhd
    simp only[erF,er_getN,hN,Option.map_some,Option.bind_some,er_cells] at hl
    cases hcs:N.cells? with
    | none=>simp [hcs] at hl
    | some ks =>
     simp only[hcs,Option.map_some,List.length_map] at hl
     split at hl
     ·rename_i hlen
      simp only[Option.some.injEq] at hl
      have hMN:Mem w I N:=Mem_getN (R.key k).mem hN
      obtain⟨xs,h1,h2,h3,h4⟩:=build l.b (l.o+i) (fun j=>ldV k g (p ++ [i+j]) (ks.getD (i+j) .non)) (by
       intro j hj
       have hlt:i+j < ks.length:=by omega
       have hk:ks[i+j]?=some (ks.getD (i+j) .non):=by simp[List.getD_eq_getElem?_getD,hlt]
       obtain⟨⟨y,hy,hcr⟩,hmc⟩:=cells_at hMN hcs hloc (i+j) _ hk
       have hgg:g=(X k).1:=hg.symm
       rw[hgg]
       exact⟨y,by rw[Nat.add_assoc];exact hy,ldV_RR (getN_append p (i+j) _ N ks _ hN hcs hk) hmc hcr,ldV_Mem hmc⟩)
      refine⟨_,_,xs,_,hx,h1,h2,?_,h3,h4⟩
      rw[← hl,List.map_map]
      refine List.map_congr_left fun j _=>?_
      simp only[Function.comp,er_ldV,List.getD_eq_getElem?_getD,List.getElem?_map]
      cases ks[i+j]?<;>simp [er]
     ·cases hl
  ·cases hl
 | vptr u cs' =>
  simp only[ldCells] at hl
  split at hl
  ·rename_i hlen
   simp only[Option.some.injEq] at hl
   obtain⟨l,lcs,h1,hx,hm⟩:=h.vptr
   have hlen':n≤lcs.length:=by rw[← h1] at hlen;simpa using hlen
   obtain⟨xs,h2,h3,h4,h5⟩:=build l.b l.o (fun j=>lcs.getD j .non) (by
    intro j hj
    have hlt:j < lcs.length:=by omega
    have hk:lcs[j]?=some (lcs.getD j .non):=by simp[List.getD_eq_getElem?_getD,hlt]
    obtain⟨⟨y,hy,hcr⟩,hmc,_⟩:=(MemL_iff.1 hm) j _ hk
    exact⟨y,hy,RR_of_CR hcr,hmc⟩)
   have he:(List.range n).map (fun j=>lcs.getD j .non)=lcs.take n:=by
    apply List.ext_getElem?
    intro j
    by_cases hj:j < n
    ·simp[List.getElem?_range,hj,List.getElem?_take,List.getD_eq_getElem?_getD,show j < lcs.length by omega]
    ·simp[range_none hj,List.getElem?_take,hj]
   rw[he] at h4 h5
   exact⟨_,_,xs,lcs.take n,hx,h2,h3,by rw[← hl,← h1,List.map_take],h4,h5⟩
  ·cases hl
 | _=>simp [ldCells] at hl
end
theorem run_loadVar {P:Program}{w:World}{t:TypeId}{ag:Bool}{n b o:Nat}{xs:List Value}(hag:isAggT P t=some ag)(hn:sizeT P t=some n)(h1:ag=false→n=1)
  (hlen:xs.length=n) (hx:∀ j y,xs[j]?=some y→w.at b (o+j)=some (.v y)) :
  (loadVar t ⟨b,o,none⟩).run P w=.ok (if ag then .agg xs.toArray else xs.getD 0 undef) w:=by
 unfold loadVar
 simp only[Sem.run_bind,run_isAgg hag,Result.andThen_ok]
 cases ag with
 | true =>
  have:=run_loadCells_list (P:=P) (w:=w) ⟨b,o,none⟩ xs (fun j v hv=>by rw[Addr.add_lit];exact at_v.1 (hx j v hv))
  simp only[if_true,Sem.run_bind,run_sizeOf hn,Result.andThen_ok,← hlen,this]
  rfl
 | false =>
  have hl1:xs.length=1:=by rw[hlen];exact h1 rfl
  match xs,hl1 with
  | [y],_ =>
   have:=at_v.1 (hx 0 y rfl)
   simp only[Bool.false_eq_true,if_false,run_load]
   simp only[Nat.add_zero] at this
   simp[this]
theorem ok_ld {C:Ctx}{o:Oper}{X:XF Unit}{d sz n:Nat}{t:TypeId}{ag:Bool}{x:Operand}{c:COd}{cs:List AU}(ho:o.op=.load t x)(hd:o.dst=some d)(hlt:d < C.nt)(hin:opsIn C.nt o=true)
  (hag:isAggT C.P t=some ag) (hn:sizeT C.P t=some n) (h1:ag=false→n=1)
  (hc:compOd C.nt sz x=some c) (hl:ldCells X (rd X c) n=some cs) (hv:noOwn (if ag then AV.agg cs else cs.getD 0 .non)=true):OpOk C o X (X.set (100 * d) (if ag then .agg cs else cs.getD 0 .non)) :=
 OpOk.of_pure hd hlt hin hv fun XL β I rg w he R=>by
  have h:=opd R hc
  rw[he] at h
  obtain⟨b,off,xs,lcs,hx,h2,h3,h4,h5,h6⟩:=ldCells_ok R h (by rw[he];exact hl)
  have hrun:=run_loadVar (P:=C.P) hag hn h1 h2 h3
  refine⟨if ag then .agg lcs else lcs.getD 0 .non,if ag then .agg xs.toArray else xs.getD 0 undef,?_,?_,?_,?_⟩
  ·cases ag with
   | true=>simp [er,erL_eq,h4]
   | false =>
    simp only[Bool.false_eq_true,if_false,← h4,List.getD_eq_getElem?_getD,List.getElem?_map]
    cases lcs[0]?<;>simp [er]
  ·simp only[execOp,ho,Instr.loadAt,hx,Instr.sureAddr,Sem.run_bind,Sem.run_pure,Result.andThen_ok,hrun]
  ·cases ag with
   | true=>simpa [Mem] using h6
   | false =>
    simp only[Bool.false_eq_true,if_false,List.getD_eq_getElem?_getD]
    cases hh:lcs[0]? with
    | none=>simp [Mem]
    | some c0=>exact MemA_iff.1 h6 c0 (List.mem_of_getElem? hh)
  ·cases ag with
   | true=>simp only[if_true,RR];exact⟨xs,rfl,h5⟩
   | false =>
    simp only[Bool.false_eq_true,if_false,List.getD_eq_getElem?_getD]
    rw[RRL_iff] at h5
    cases hh:lcs[0]? with
    | none=>simp [RR]
    | some c0 =>
     have hlt0:0 < xs.length:=by rw[← h5.1];exact (List.getElem?_eq_some_iff.1 hh).1
     have hx0:xs[0]?=some xs[0]:=List.getElem?_eq_getElem hlt0
     rw[hx0]
     exact h5.2 0 c0 _ hh hx0
end Go.OT
namespace Go.OT
def faddrV (X:XF Unit)(off:Nat):AU→Option AU
 | .bptr b g i=>if (X (100 * b+99)).1=g then some (.bptr b g (i+off)) else none
 | .ptr k g p i=>if (X k).1=g then some (.ptr k g p (i+off)) else none
 | .vptr _ cs=>if off≤cs.length then some (.vptr () (cs.drop off)) else none
 | _=>none
def szAt (X:XF Unit)(k:Nat)(p:List Nat):Option Nat :=
 match getN (X k).2 p with
 | some (.sl _ _ s _ _)=>some s
 | _=>none
def iaddrV (X:XF Unit)(sz:Nat):AU→Int→Option AU
 | .view k g p off n,j=>if (X k).1=g∧0≤j∧j < n∧szAt X k p=some sz then some (.ptr k g p (off+j.toNat * sz)) else none
 | .sl false _ sz' n cs,j=>if sz'=sz∧0≤j∧j < n then some (.vptr () (cs.drop (j.toNat * sz))) else none
 | _,_=>none
section
variable {C:Ctx} {X:XF LO} {β:Nat→Nat × Nat} {I:ASet} {rg:Nat→Value} {w:World}
theorem MemL_drop {own:Bool}{cs:List AL}{b o:Nat}(h:MemL w I own cs b o)(k:Nat):MemL w I own (cs.drop k) b (o+k):=by
 rw[MemL_iff] at h ⊢
 intro i c hc
 rw[List.getElem?_drop] at hc
 have:=h (k+i) c hc
 rwa [Nat.add_assoc]
theorem MemL_take {own:Bool}{cs:List AL}{b o:Nat}(h:MemL w I own cs b o)(k:Nat):MemL w I own (cs.take k) b o:=by
 rw[MemL_iff] at h ⊢
 intro i c hc
 rw[List.getElem?_take] at hc
 split at hc
 ·exact h i c hc
 ·cases hc
theorem faddr_ok {off:Nat}{v r:AU}{x:Value}(h:Opd X β I w v x)(hr:faddrV (erF X) off v=some r) :
  ∃ (b o:Nat),x=.pointer (some ⟨b,o,none⟩)∧Opd X β I w r (.pointer (some ⟨b,o+off,none⟩)):=by
 cases v with
 | bptr b g i =>
  simp only[faddrV] at hr
  split at hr<;>cases hr
  rename_i hg
  refine⟨_,_,h.bptr hg,⟨.bptr b g (i+off),rfl,?_,by simp[Mem]⟩⟩
  simp only[RR]
  have hg':(X (100 * b+99)).1=g:=hg
  exact⟨by omega,fun _=>by rw[Nat.add_assoc]⟩
 | ptr k g p i =>
  simp only[faddrV] at hr
  split at hr<;>cases hr
  rename_i hg
  obtain⟨s,l,sz,n,h1,h2⟩:=h.ptr hg
  refine⟨_,_,h2,⟨.ptr k g p (i+off),rfl,?_,by simp[Mem]⟩⟩
  simp only[RR]
  have hg':(X k).1=g:=hg
  exact⟨by omega,fun _=>⟨s,l,sz,n,h1,by rw[Nat.add_assoc]⟩⟩
 | vptr u cs =>
  simp only[faddrV] at hr
  split at hr<;>cases hr
  rename_i hle
  obtain⟨l,lcs,h1,h2,h3⟩:=h.vptr
  refine⟨_,_,h2,⟨.vptr (some ⟨l.b,l.o+off,0⟩) (lcs.drop off),by simp[er,erL_eq,← h1],?_,?_⟩⟩
  ·simp only[RR];exact⟨_,rfl,rfl⟩
  ·simp only[Mem];exact MemL_drop h3 off
 | _=>simp [faddrV] at hr
theorem iaddr_ok {sz:Nat}{v r:AU}{x:Value}{j:Int}(h:Opd X β I w v x)(hr:iaddrV (erF X) sz v j=some r) :
  ∃ (b o n cap:Nat),x=.slice (some ⟨b,o,none⟩) n cap∧0≤j∧j < n∧Opd X β I w r (.pointer (some ⟨b,o+j.toNat * sz,none⟩)):=by
 cases v with
 | view k g p off n =>
  simp only[iaddrV] at hr
  split at hr<;>cases hr
  rename_i hc
  obtain⟨hg,h0,hn,hsz⟩:=hc
  obtain⟨l,s,m,h1,xa,cap,h2,h3⟩:=h.view hg
  cases l with
  | none=>simp only at h3;omega
  | some l =>
   simp only at h3
   obtain⟨h4,h5,h6,o',h7,h8⟩:=h3
   have ho:=h8 (by omega)
   subst ho h7
   refine⟨_,_,n,cap,h2,h0,hn,⟨.ptr k g p (off+j.toNat * sz),rfl,?_,by simp[Mem]⟩⟩
   simp only[RR]
   have hg':(X k).1=g:=hg
   exact⟨by omega,fun _=>⟨true,l,s,m,h1,by rw[Nat.add_assoc]⟩⟩
 | sl o u s n cs =>
  cases o with
  | true=>simp [iaddrV] at hr
  | false =>
   simp only[iaddrV] at hr
   split at hr<;>cases hr
   rename_i hc
   obtain⟨rfl,h0,hn⟩:=hc
   rcases h.slI with ⟨_,h1,_⟩ | ⟨l,lcs,h1,h2,h3,h4,h5⟩
   ·omega
   ·refine⟨_,_,n,_,h2,h0,hn,⟨.vptr (some ⟨l.b,l.o+j.toNat * s,0⟩) (lcs.drop (j.toNat * s)),by simp[er,erL_eq,← h1],?_,?_⟩⟩
    ·simp only[RR];exact⟨_,rfl,rfl⟩
    ·simp only[Mem];exact MemL_drop h5 _
 | _=>simp [iaddrV] at hr
def lenV (X:XF Unit):AU→Option Nat
 | .view k g _ _ n=>if (X k).1=g then some n else none
 | .sl _ _ _ n _=>some n
 | _=>none
theorem len_ok {v:AU}{x:Value}{n:Nat}(h:Opd X β I w v x)(hr:lenV (erF X) v=some n):∃ a cap,x=.slice a n cap:=by
 cases v with
 | view k g p off m =>
  simp only[lenV] at hr
  split at hr<;>cases hr
  rename_i hg
  obtain⟨l,s,m',h1,xa,cap,h2,h3⟩:=h.view hg
  exact⟨_,_,h2⟩
 | sl o u s m cs =>
  simp only[lenV,Option.some.injEq] at hr
  subst hr
  cases o with
  | true=>obtain ⟨a,cap,h1,_⟩:=h.slO;exact⟨a,cap,h1⟩
  | false =>
   rcases h.slI with ⟨⟨a,h1⟩,h2,_⟩ | ⟨l,lcs,h1,h2,_⟩
   ·exact⟨a,0,by rw[h1,h2]⟩
   ·exact⟨_,_,h2⟩
 | _=>simp [lenV] at hr
def sliceV (X:XF Unit)(sz lo hi:Nat):AU→Option AU
 | .view k g p off n=>if (X k).1=g∧lo≤hi∧hi≤n∧szAt X k p=some sz then some (.view k g p (off+lo * sz) (hi - lo)) else none
 | .sl false _ sz' n cs=>if sz'=sz∧lo≤hi∧hi≤n then some (.sl false () sz (hi - lo) ((cs.drop (lo * sz)).take ((hi - lo) * sz))) else none
 | _=>none
theorem szAt_hd {k:Nat}{p:List Nat}{sz s n:Nat}{l:LO}(h:szAt (erF X) k p=some sz)(h1:(getN (X k).2 p).bind hd=some (true,l,s,n)):s=sz:=by
 simp only[szAt,erF,er_getN] at h
 cases hN:getN (X k).2 p with
 | none=>simp [hN] at h
 | some N =>
  simp only[hN,Option.map_some,Option.bind_some] at h h1
  cases N<;>simp [er,hd] at h h1
  omega
theorem slice_ok {sz lo hi:Nat}{v r:AU}{x:Value}(h:Opd X β I w v x)(hr:sliceV (erF X) sz lo hi v=some r) :
  ∃ a n cap,x=.slice a n cap∧lo≤hi∧hi≤n∧n≤cap∧lenV (erF X) v=some n∧Opd X β I w r (.slice (if cap=lo then a else a.map (·.add (lo * sz))) (hi - lo) (cap - lo)):=by
 cases v with
 | view k g p off n =>
  simp only[sliceV] at hr
  split at hr<;>cases hr
  rename_i hc
  obtain⟨hg,h0,hn,hsz⟩:=hc
  obtain⟨l,s,m,h1,xa,cap,h2,h3⟩:=h.view hg
  have hs:=szAt_hd hsz h1
  subst hs
  have hg':(X k).1=g:=hg
  cases l with
  | none =>
   simp only at h3
   obtain⟨rfl,rfl,rfl⟩:=h3
   have:lo=0:=by omega
   subst this
   have:hi=0:=by omega
   subst this
   refine⟨none,0,0,h2,h0,hn,Nat.le_refl _,by simp[lenV,hg],⟨.view k g p (off+0 * s) (0 - 0),rfl,?_,by simp[Mem]⟩⟩
   simp only[RR]
   exact⟨by omega,fun _=>⟨none,s,m,h1,none,0,by simp,rfl,rfl,rfl⟩⟩
  | some l =>
   simp only at h3
   obtain⟨h4,h5,h6,o',h7,h8⟩:=h3
   subst h7
   refine⟨_,n,cap,h2,h0,hn,h5,by simp[lenV,hg],⟨.view k g p (off+lo * s) (hi - lo),rfl,?_,by simp[Mem]⟩⟩
   simp only[RR]
   refine⟨by omega,fun _=>⟨some l,s,m,h1,_,_,rfl,?_⟩⟩
   have e1:lo * s+(hi - lo) * s=hi * s:=by rw[← Nat.add_mul];congr 1;omega
   have e2:lo * s+(cap - lo) * s=cap * s:=by rw[← Nat.add_mul];congr 1;omega
   have e3:hi * s≤n * s:=Nat.mul_le_mul_right s hn
   refine⟨by omega,by omega,by omega,if cap=lo then o' else o'+lo * s,?_,?_⟩
   ·split
    ·rfl
    ·simp[Addr.add_lit]
   ·intro hne
    rw[if_neg (by omega)]
    rw[h8 (by omega)];omega
 | sl o u s n cs =>
  cases o with
  | true=>simp [sliceV] at hr
  | false =>
   simp only[sliceV] at hr
   split at hr<;>cases hr
   rename_i hc
   obtain⟨rfl,h0,hn⟩:=hc
   rcases h.slI with ⟨⟨a,h1⟩,h2,h3⟩ | ⟨l,lcs,h1,h2,h3,h4,h5⟩
   ·subst h2 h3
    have:lo=0:=by omega
    subst this
    have:hi=0:=by omega
    subst this
    exact⟨a,0,0,h1,h0,hn,Nat.le_refl _,by simp[lenV],⟨.sl false none s 0 [],by simp[er,erL],by simp[RR,CR],by simp[Mem]⟩⟩
   ·have e1:lo * s+(hi - lo) * s=hi * s:=by rw[← Nat.add_mul];congr 1;omega
    have e3:hi * s≤n * s:=Nat.mul_le_mul_right s hn
    refine⟨_,n,_,h2,h0,hn,h3,by simp[lenV],⟨.sl false (some ⟨l.b,if l.cap=lo then l.o else l.o+lo * s,l.cap - lo⟩) s (hi - lo) ((lcs.drop (lo * s)).take ((hi - lo) * s)),by simp[er,erL_eq,← h1],?_,?_⟩⟩
    ·simp only[RR,CR]
     split
     ·rfl
     ·simp[Addr.add_lit]
    ·simp only[Mem]
     refine⟨by simp[h4];omega,by omega,?_,fun e=>by cases e⟩
     split
     ·rename_i e
      have:hi - lo=0:=by omega
      rw[this];simp[MemL]
     ·exact MemL_take (MemL_drop h5 _) _
 | _=>simp [sliceV] at hr
end
theorem ok_faddr {C:Ctx}{o:Oper}{X:XF Unit}{d sz f n:Nat}{s:TypeId}{fs:Array Field}{fd:Field}{x:Operand}{c:COd}{v:AU}(ho:o.op=.fieldAddr s x f)(hd:o.dst=some d)(hlt:d < C.nt)(hin:opsIn C.nt o=true)
  (hs:C.P.underlying s=some (.struct fs)) (hf:fs[f]?=some fd) (hn:sizeT C.P fd.type=some n) (hn0:n ≠ 0)
  (hc:compOd C.nt sz x=some c) (hr:faddrV X fd.offset (rd X c)=some v):OpOk C o X (X.set (100 * d) v) :=
 OpOk.of_pure hd hlt hin (by revert hr;generalize rd X c=u;intro hr;cases u<;>simp [faddrV] at hr<;>obtain ⟨_,rfl⟩:=hr<;>rfl) fun XL β I rg w he R=>by
  have h:=opd R hc
  rw[he] at h
  obtain⟨b,off,h1,⟨lv,h2,h3,h4⟩⟩:=faddr_ok h (by rw[he];exact hr)
  refine⟨lv,_,h2,?_,h4,h3⟩
  simp[execOp,ho,Instr.fieldAt,run_underlying hs,hf,h1,Instr.sureAddr,fieldPlace,run_sizeOf hn,hn0,Addr.add_lit]
theorem ok_iaddr {C:Ctx}{o:Oper}{X:XF Unit}{d sz s:Nat}{t e:TypeId}{x i:Operand}{c ci:COd}{k:IntKind}{j:Int}{v:AU}(ho:o.op=.indexAddr t x i)(hd:o.dst=some d)(hlt:d < C.nt)(hin:opsIn C.nt o=true)
  (ht:C.P.underlying t=some (.slice e)) (hs:sizeT C.P e=some s)
  (hc:compOd C.nt sz x=some c) (hci:compOd C.nt sz i=some ci) (hi:rd X ci=.sc (.int k j)) (hr:iaddrV X s (rd X c) j=some v):OpOk C o X (X.set (100 * d) v) :=
 OpOk.of_pure hd hlt hin (by
   revert hr;generalize rd X c=u;intro hr
   cases u with
   | sl o _ _ _ _=>cases o<;>simp [iaddrV] at hr;obtain ⟨_,rfl⟩:=hr;rfl
   | view _ _ _ _ _=>simp [iaddrV] at hr;obtain ⟨_,rfl⟩:=hr;rfl
   | _=>simp [iaddrV] at hr) fun XL β I rg w he R=>by
  have h:=opd R hc
  have h':=opd R hci
  rw[he] at h h'
  rw[hi] at h'
  obtain⟨b,off,n,cap,h1,h0,hn,⟨lv,h2,h3,h4⟩⟩:=iaddr_ok h (by rw[he];exact hr)
  refine⟨lv,_,h2,?_,h4,h3⟩
  simp[execOp,ho,Instr.indexAt,run_underlying ht,h1,h'.sc,asIntOf,h0,hn,run_sizeOf hs,Addr.add_lit]
theorem ok_len {C:Ctx}{o:Oper}{X:XF Unit}{d sz n:Nat}{t e:TypeId}{x:Operand}{c:COd}(ho:o.op=.call { callee:=.builtin .len,args:=#[x],argTypes:=#[t] })(hd:o.dst=some d)(hlt:d < C.nt)(hin:opsIn C.nt o=true)
  (ht:C.P.underlying t=some (.slice e)) (hc:compOd C.nt sz x=some c) (hr:lenV X (rd X c)=some n):OpOk C o X (X.set (100 * d) (.sc (.int .i64 n))) :=
 OpOk.of_sc hd hlt hin fun XL β I rg w he R=>by
  have h:=opd R hc
  rw[he] at h
  obtain⟨a,cap,h1⟩:=len_ok h (by rw[he];exact hr)
  simp[execOp,ho,resolve,invoke,builtin,Builtin.len_,run_underlying ht,h1,goInt]
theorem ok_slen {C:Ctx}{o:Oper}{X:XF Unit}{d sz:Nat}{t:TypeId}{s:ByteArray}{x:Operand}{c:COd}(ho:o.op=.call { callee:=.builtin .len,args:=#[x],argTypes:=#[t] })(hd:o.dst=some d)(hlt:d < C.nt)(hin:opsIn C.nt o=true)
  (ht:C.P.underlying t=some .string) (hc:compOd C.nt sz x=some c) (hr:rd X c=.sc (.string s)):OpOk C o X (X.set (100 * d) (.sc (.int .i64 s.size))) :=
 OpOk.of_sc hd hlt hin fun XL β I rg w he R=>by
  have h:=opd R hc
  rw[he,hr] at h
  simp[execOp,ho,resolve,invoke,builtin,Builtin.len_,run_underlying ht,h.sc,goInt]
def bnd (X:XF Unit)(dflt:Nat):Option COd→Option Nat
 | none=>some dflt
 | some c=>match rd X c with
  | .sc (.int _ j)=>if 0≤j then some j.toNat else none
  | _=>none
def compOd? (nt:Nat):Option Operand→Option (Option COd)
 | none=>some none
 | some x=>(compOd nt 0 x).map some
theorem ok_slice {C:Ctx}{o:Oper}{X:XF Unit}{d sz s n lo hi:Nat}{t e:TypeId}{x:Operand}{l h:Option Operand}{c:COd}{cl ch:Option COd}{v:AU}(ho:o.op=.slice t x l h none)(hd:o.dst=some d)(hlt:d < C.nt)(hin:opsIn C.nt o=true)
  (ht:C.P.underlying t=some (.slice e)) (hs:sizeT C.P e=some s)
  (hc:compOd C.nt sz x=some c) (hcl:compOd? C.nt l=some cl) (hch:compOd? C.nt h=some ch) (hn:lenV X (rd X c)=some n) (hl:bnd X 0 cl=some lo) (hh:bnd X n ch=some hi)
  (hr:sliceV X s lo hi (rd X c)=some v):OpOk C o X (X.set (100 * d) v) :=
 OpOk.of_pure hd hlt hin (by
   revert hr;generalize rd X c=u;intro hr
   cases u with
   | sl o _ _ _ _=>cases o<;>simp [sliceV] at hr;obtain ⟨_,rfl⟩:=hr;rfl
   | view _ _ _ _ _=>simp [sliceV] at hr;obtain ⟨_,rfl⟩:=hr;rfl
   | _=>simp [sliceV] at hr) fun XL β I rg w he R=>by
  have hx:=opd R hc
  rw[he] at hx
  obtain⟨a,m,cap,h1,h2,h3,h4,h5,⟨lv,h6,h7,h8⟩⟩:=slice_ok hx (by rw[he];exact hr)
  rw[he,hn] at h5
  cases h5
  refine⟨lv,_,h6,?_,h8,h7⟩
  have hbnd:∀ (y:Operand) (co:Option COd) (dflt r:Nat),compOd? C.nt (some y)=some co→bnd X dflt co=some r→∃ k j,evR rg y=.int k j∧0≤j∧j.toNat=r:=by
   intro y co dflt r hco hb
   simp only[compOd?,Option.map_eq_some_iff] at hco
   obtain⟨cy,hcy,rfl⟩:=hco
   have hy:=opd R hcy
   rw[he] at hy
   simp only[bnd] at hb
   split at hb
   ·rename_i k j hrd
    split at hb<;>cases hb
    rw[hrd] at hy
    exact⟨k,j,hy.sc,by assumption,rfl⟩
   ·cases hb
  have hL:∀ y,l=some y→∃ k j,evR rg y=.int k j∧0≤j∧j.toNat=lo:=fun y hy=>hbnd y cl 0 lo (hy ▸ hcl) hl
  have hH:∀ y,h=some y→∃ k j,evR rg y=.int k j∧0≤j∧j.toNat=hi:=fun y hy=>hbnd y ch n hi (hy ▸ hch) hh
  have hl0:l=none→lo=0:=by rintro rfl;simp only[compOd?,Option.some.injEq] at hcl;subst hcl;simpa [bnd] using hl.symm
  have hh0:h=none→hi=n:=by rintro rfl;simp only[compOd?,Option.some.injEq] at hch;subst hch;simpa [bnd] using hh.symm
  have hb:(Instr.sliceBounds true n cap (l.map (evR rg)) (h.map (evR rg)) none).run C.P w=.ok (lo,hi,cap) w:=by
   cases l with
   | none =>
    have e0:=hl0 rfl
    subst e0
    cases h with
    | none=>have e1:=hh0 rfl;subst e1;simp[Instr.sliceBounds]
    | some y =>
     obtain⟨k,j,e1,e2,e3⟩:=hH y rfl
     simp[Instr.sliceBounds,Instr.sliceBound,e1,asIntOf,e2,show j≤cap by omega,e3]
   | some z =>
    obtain⟨k',j',f1,f2,f3⟩:=hL z rfl
    cases h with
    | none=>have e1:=hh0 rfl;subst e1;simp[Instr.sliceBounds,Instr.sliceBound,f1,asIntOf,f2,show j'≤hi by omega,f3]
    | some y =>
     obtain⟨k,j,e1,e2,e3⟩:=hH y rfl
     simp[Instr.sliceBounds,Instr.sliceBound,e1,f1,asIntOf,e2,f2,show j≤cap by omega,e3,f3,show j'≤hi by omega]
  simp only[execOp,ho,Instr.sliceAt,Sem.run_bind,run_underlying ht,Result.andThen_ok,h1,Instr.slice,Option.map_none,hb,run_sizeOf hs,Sem.run_pure]
end Go.OT
namespace Go.OT
def H:Nat:=9000
def RS:Nat:=9500
def tk (X:XF Unit)(v:AU)(h:Nat):Option (XF Unit) :=
 match v with
 | .view k g p off len =>
  if (X k).1=g∧k ≠ 100 * h then
   match getN (X k).2 p with
   | some (.sl true _ sz _ cs)=>if ownQ (X k).2 p=true then some ((X.set k (setN (X k).2 p .dead)).set (100 * h) (.sl true () sz len ((cs.drop off).take (len * sz)))) else none
   | some (.sl false _ sz _ cs)=>some (X.set (100 * h) (.sl false () sz len ((cs.drop off).take (len * sz))))
   | _=>none
  else none
 | .ptr k g p i =>
  if (X k).1=g∧i=0∧k ≠ 100 * h then
   match getN (X k).2 p with
   | some (.bx true _ cs)=>if ownQ (X k).2 p=true then some ((X.set k (setN (X k).2 p .dead)).set (100 * h) (.bx true () cs)) else none
   | _=>none
  else none
 | .mv k g p =>
  if (X k).1=g∧k ≠ 100 * h then
   match getN (X k).2 p with
   | some (.mp true _ cs)=>if ownQ (X k).2 p=true then some ((X.set k (setN (X k).2 p .dead)).set (100 * h) (.mp true () cs)) else none
   | _=>none
  else none
 | .sl true _ sz 0 []=>some (X.set (100 * h) (.sl true () sz 0 []))
 | .agg _=>none
 | .tuple _=>none
 | .non=>none
 | .dead=>none
 | v=>if noOwn v then some (X.set (100 * h) v) else none
section
variable {C:Ctx} {X:XF LO} {β:Nat→Nat × Nat} {I:ASet} {rg:Nat→Value} {w:World}
theorem sub_node {l:Loc}{sz n off len o' cap:Nat}{cs:List AL}(hm:Mem w I (.sl true (some l) sz n cs))(hs:Sep (.sl true (some l) sz n cs))
  (h4:off+len * sz≤n * sz) (h5:len≤cap) (h6:off+cap * sz≤l.cap * sz) (h8:cap ≠ 0→o'=l.o+off) :
  Mem w I (.sl true (some ⟨l.b,o',cap⟩) sz len ((cs.drop off).take (len * sz)))∧Sep (.sl true (some ⟨l.b,o',cap⟩) sz len ((cs.drop off).take (len * sz))) ∧
  ∀ b o,fp (.sl true (some ⟨l.b,o',cap⟩) sz len ((cs.drop off).take (len * sz))) b o→fp (.sl true (some l) sz n cs) b o:=by
 simp only[Mem] at hm
 simp only[Sep] at hs
 have hsub:∀ i c,((cs.drop off).take (len * sz))[i]?=some c→cs[off+i]?=some c∧i < len * sz:=by
  intro i c hc
  rw[List.getElem?_take] at hc
  split at hc
  ·rw[List.getElem?_drop] at hc;exact⟨hc,by assumption⟩
  ·cases hc
 have hfpL:∀ b o,fpL ((cs.drop off).take (len * sz)) b o→fpL cs b o:=by
  intro b o hb
  obtain⟨c,hc,hcb⟩:=fpL_iff.1 hb
  obtain⟨i,hi⟩:=List.getElem?_of_mem hc
  exact fpL_iff.2 ⟨c,List.mem_of_getElem? (hsub i c hi).1,hcb⟩
 have hsep:SepL ((cs.drop off).take (len * sz)):=by
  refine SepL_iff.2 ⟨fun c hc=>?_,fun i j u v hij hu hv=>?_⟩
  ·obtain⟨i,hi⟩:=List.getElem?_of_mem hc
   exact (SepL_iff.1 hs.2).1 c (List.mem_of_getElem? (hsub i c hi).1)
  ·exact (SepL_iff.1 hs.2).2 (off+i) (off+j) u v (by omega) (hsub i u hu).1 (hsub j v hv).1
 by_cases hc0:cap=0
 ·subst hc0
  have hl0:len=0:=by omega
  subst hl0
  refine⟨by simp[Mem,MemL,RoomC.zero],by simp[Sep,SepL],fun b o hb=>?_⟩
  simp[fp,fpL] at hb
  omega
 ·have ho:=h8 hc0
  subst ho
  refine⟨?_,?_,?_⟩
  ·simp only[Mem]
   exact⟨by simp[hm.1];omega,h5,MemL_take (MemL_drop hm.2.2.1 off) _,fun _=>⟨(hm.2.2.2 trivial).1.sub h6,fun hz=>by
    have h1:=(hm.2.2.2 trivial).2 hz
    have h2:cap * sz≤l.cap * sz:=by omega
    have h3:=Nat.le_of_mul_le_mul_right h2 hz
    omega⟩⟩
  ·simp only[Sep]
   refine⟨fun j hj hb=>?_,hsep⟩
   have:=hs.1 (off+j) (by omega)
   rw[← Nat.add_assoc] at this
   exact this (hfpL _ _ hb)
  ·intro b o hb
   simp only[fp] at hb ⊢
   rcases hb with ⟨h1,h2,h3⟩ | hb
   ·exact .inl ⟨h1,by omega,by omega⟩
   ·exact .inr (hfpL b o hb)
theorem tk_ok (R:RelL C X β I rg w){v:AU}{x:Value}{h:Nat}(hhl:h < 10000){X':XF Unit}(hv:∃ lv,er lv=v∧RR X β lv x∧Mem w I lv∧(lv.parts?=none→∀ b o,¬ fp lv b o))(ht:tk (erF X) v h=some X') :
  ∃ XL rg',erF XL=X'∧RelL C XL β I rg' w∧Keeps X XL β β∧rg' h=x∧(∀ t,t ≠ h→rg' t=rg t):=by
 obtain⟨lv,h1,h2,h3,h3'⟩:=hv
 have plain:noOwn v=true→X'=(erF X).set (100 * h) v→∃ XL rg',erF XL=X'∧RelL C XL β I rg' w∧Keeps X XL β β∧rg' h=x∧(∀ t,t ≠ h→rg' t=rg t):=by
  intro hn he
  exact⟨_,_,by rw[erF_set,h1,he],R.setR h hhl (by rw[← er_noOwn,h1];exact hn) h3 h2,keeps_set X β _ _,by simp,fun t ht=>by simp[ht]⟩
 cases v with
 | view k g p off len =>
  simp only[tk] at ht
  split at ht
  ·rename_i hc
   obtain⟨hg,hkh⟩:=hc
   have hg':(X k).1=g:=hg
   have hop:Opd X β I w (.view k g p off len) x:=⟨lv,h1,h2,h3⟩
   obtain⟨l,s,m,hh,hsv⟩:=hop.view hg
   split at ht
   ·rename_i sz m' cs hN
    split at ht
    ·rename_i hq
     simp only[Option.some.injEq] at ht
     obtain⟨l',lcs,hN',hlcs⟩:=node_sl hN
     simp only[hN',Option.bind_some,hd,Option.some.injEq,Prod.mk.injEq,true_and] at hh
     obtain⟨rfl,rfl,rfl⟩:=hh
     have hq':ownQ (X k).2 p=true:=by rw[← er_ownQ];exact hq
     have r:=repl p (X k).2 (R.key k).mem (R.key k).sep hq' hN'
     have key:∀ (v':AL),er v'=.sl true () sz len ((cs.drop off).take (len * sz))→Mem w I v'→Sep v'→(∀ b o,fp v' b o→fp (.sl true l' sz m' lcs) b o)→RR X β v' x →
       ∃ XL rg',erF XL=X'∧RelL C XL β I rg' w∧Keeps X XL β β∧rg' h=x∧(∀ t,t ≠ h→rg' t=rg t):=by
      intro v' e1 e2 e3 e4 e5
      refine⟨_,_,?_,R.takeP k h hhl p hkh hN' rfl hq' e2 e3 e4 e5,(keeps_set X β k _).trans (keeps_set _ β _ _),by simp,fun t ht=>by simp[ht]⟩
      rw[erF_set,erF_set,er_setN,e1,← ht]
      rfl
     obtain⟨xa,cap,e1,e2⟩:=hsv
     cases l' with
     | none =>
      simp only at e2
      obtain⟨rfl,rfl,rfl⟩:=e2
      have hm0:=r.mem
      simp only[Mem] at hm0
      refine key (.sl true none sz 0 []) ?_ (by simp[Mem]) (by simp[Sep]) (by simp[fp]) (by simp[RR,CR,e1])
      simp[er,erL]
     | some l =>
      simp only at e2
      obtain⟨h4,h5,h6,o',rfl,h8⟩:=e2
      obtain⟨f1,f2,f3⟩:=sub_node r.mem r.sep h4 h5 h6 h8
      refine key _ ?_ f1 f2 f3 (by simp[RR,CR,e1])
      simp[er,erL_eq,← hlcs,List.map_take,List.map_drop]
    ·cases ht
   ·rename_i sz m' cs hN
    simp only[Option.some.injEq] at ht
    obtain⟨l',lcs,hN',hlcs⟩:=node_sl hN
    simp only[hN',Option.bind_some,hd,Option.some.injEq,Prod.mk.injEq,true_and] at hh
    obtain⟨rfl,rfl,rfl⟩:=hh
    have hm:=Mem_getN (R.key k).mem hN'
    have key:∀ (v':AL),er v'=.sl false () sz len ((cs.drop off).take (len * sz))→Mem w I v'→RR X β v' x →
      ∃ XL rg',erF XL=X'∧RelL C XL β I rg' w∧Keeps X XL β β∧rg' h=x∧(∀ t,t ≠ h→rg' t=rg t):=by
     intro v' e1 e2 e3
     refine⟨_,_,?_,R.setR h hhl (by rw[← er_noOwn,e1];rfl) e2 e3,keeps_set X β _ _,by simp,fun t ht=>by simp[ht]⟩
     rw[erF_set,e1,← ht]
    obtain⟨xa,cap,e1,e2⟩:=hsv
    cases l' with
    | none =>
     simp only at e2
     obtain⟨rfl,rfl,rfl⟩:=e2
     exact key (.sl false none sz 0 []) (by simp[er,erL]) (by simp[Mem]) (by simp[RR,CR,e1])
    | some l =>
     simp only at e2
     obtain⟨h4,h5,h6,o',rfl,h8⟩:=e2
     simp only[Mem] at hm
     refine key (.sl false (some ⟨l.b,o',cap⟩) sz len ((lcs.drop off).take (len * sz))) (by simp[er,erL_eq,← hlcs,List.map_take,List.map_drop]) ?_ (by simp[RR,CR,e1])
     by_cases hc0:cap=0
     ·have hl0:len=0:=by omega
      subst hc0 hl0
      simp[Mem,MemL]
     ·have:=h8 hc0;subst this
      simp only[Mem]
      exact⟨by simp[hm.1];omega,h5,MemL_take (MemL_drop hm.2.2.1 off) _,fun e=>by cases e⟩
   ·cases ht
  ·cases ht
 | ptr k g p i =>
  simp only[tk] at ht
  split at ht
  ·rename_i hc
   obtain⟨hg,rfl,hkh⟩:=hc
   have hg':(X k).1=g:=hg
   have hop:Opd X β I w (.ptr k g p 0) x:=⟨lv,h1,h2,h3⟩
   obtain⟨s,l,sz,n,hh,hx⟩:=hop.ptr hg
   split at ht
   ·rename_i cs hN
    split at ht
    ·rename_i hq
     simp only[Option.some.injEq] at ht
     obtain⟨l',lcs,hN',hlcs⟩:=node_bx hN
     simp only[hN',Option.bind_some,hd,Option.some.injEq,Prod.mk.injEq] at hh
     obtain⟨rfl,rfl,rfl,rfl⟩:=hh
     have hq':ownQ (X k).2 p=true:=by rw[← er_ownQ];exact hq
     have r:=repl p (X k).2 (R.key k).mem (R.key k).sep hq' hN'
     refine⟨_,_,?_,R.takeP k h hhl p hkh hN' rfl hq' r.mem r.sep (fun _ _ h=>h) (by simp[RR,CR,hx]:RR X β (.bx true (some l) lcs) x),(keeps_set X β k _).trans (keeps_set _ β _ _),by simp,fun t ht=>by simp[ht]⟩
     rw[erF_set,erF_set,er_setN,← ht]
     simp[er,erL_eq,hlcs,erF]
    ·cases ht
   ·cases ht
  ·cases ht
 | mv k g p =>
  simp only[tk] at ht
  split at ht
  ·rename_i hc
   obtain⟨hg,hkh⟩:=hc
   have hg':(X k).1=g:=hg
   obtain rfl:=er_mv h1
   simp only[RR] at h2
   obtain⟨l,hh,hx⟩:=h2.2 hg'
   split at ht
   ·rename_i cs hN
    split at ht
    ·rename_i hq
     simp only[Option.some.injEq] at ht
     obtain⟨l',lcs,hN',hlcs⟩:=node_mp hN
     simp only[hN',Option.bind_some,hd,Option.some.injEq,Prod.mk.injEq] at hh
     obtain⟨_,rfl,_,_⟩:=hh
     have hq':ownQ (X k).2 p=true:=by rw[← er_ownQ];exact hq
     have r:=repl p (X k).2 (R.key k).mem (R.key k).sep hq' hN'
     refine⟨_,_,?_,R.takeP k h hhl p hkh hN' rfl hq' r.mem r.sep (fun _ _ h=>h) (by simp[RR,CR,hx]:RR X β (.mp true (some l) lcs) x),(keeps_set X β k _).trans (keeps_set _ β _ _),by simp,fun t ht=>by simp[ht]⟩
     rw[erF_set,erF_set,er_setN,← ht]
     simp[er,erL_eq,hlcs,erF]
    ·cases ht
   ·cases ht
  ·cases ht
 | mp o _ _ =>
  cases o with
  | true=>simp [tk,noOwn] at ht
  | false=>simp only[tk,noOwn] at ht;exact plain rfl (by simpa using ht.symm)
 | sl o u sz n cs =>
  cases o with
  | true =>
   cases n with
   | zero =>
    cases cs with
    | nil =>
     simp only[tk,Option.some.injEq] at ht
     obtain⟨l,lcs,rfl,h5⟩:=er_sl h1
     have hl:lcs=[]:=by simpa using h5
     subst hl
     have hnf:=h3' rfl
     exact⟨_,_,by rw[List.foldl_nil,erF_set,h1,ht],R.fresh h hhl [] (by simp) (Frame.refl _ w) h3 (by cases l<;>simp [Sep,SepL,fpL]) h2 (fun b o hb=>absurd hb (hnf b o)),keeps_set X β _ _,by simp,fun t ht=>by simp[ht]⟩
    | cons c cs=>simp [tk,noOwn] at ht
   | succ n=>simp [tk,noOwn] at ht
  | false=>simp only[tk,noOwn] at ht;exact plain rfl (by simpa using ht.symm)
 | bx o u cs =>
  cases o with
  | true=>simp [tk,noOwn] at ht
  | false=>simp only[tk,noOwn] at ht;exact plain rfl (by simpa using ht.symm)
 | agg _=>simp [tk] at ht
 | tuple _=>simp [tk] at ht
 | non=>simp [tk] at ht
 | dead=>simp [tk] at ht
 | sc _=>simp only[tk,noOwn] at ht;exact plain rfl (by simpa using ht.symm)
 | bptr _ _ _=>simp only[tk,noOwn] at ht;exact plain rfl (by simpa using ht.symm)
 | vptr _ _=>simp only[tk,noOwn] at ht;exact plain rfl (by simpa using ht.symm)
 | clos _ _=>simp only[tk,noOwn] at ht;exact plain rfl (by simpa using ht.symm)
end
def tkL (X:XF Unit)(h:Nat):List AU→Option (XF Unit)
 | []=>some X
 | v :: vs=>(tk X v h).bind fun X1=>tkL X1 (h+1) vs
def gather {L:Type}(X:XF L)(h n:Nat):List (AV L):=(List.range n).map fun j=>(X (100 * (h+j))).2
def clr {L:Type}(X:XF L)(h n:Nat):XF L:=((List.range n).map (h+·)).foldl (fun Y h=>Y.set (100 * h) .non) X
def takeV (X:XF Unit)(v:AU):Option (XF Unit) :=
 match v with
 | .agg vs=>(if vs.length≤400 then tkL X (H+1) vs else none).map fun X1=>clr (X1.set (100 * H) (.agg (gather X1 (H+1) vs.length))) (H+1) vs.length
 | v=>tk X v H
def takeO (X:XF Unit):COd→Option (XF Unit)
 | .t n=>match (X (100 * n)).2 with
  | .agg vs=>if noOwnL vs then takeV X (.agg vs) else some ((X.set (100 * H) (.agg vs)).set (100 * n) .non)
  | .tuple _=>none
  | _=>takeV X (rd X (.t n))
 | .c v=>takeV X v
theorem erF_clr (X:XF LO)(h n:Nat):erF (clr X h n)=clr (erF X) h n:=by
 unfold clr
 generalize (List.range n).map (h+·)=l
 induction l generalizing X with
 | nil=>rfl
 | cons a l ih=>simp only[List.foldl_cons];rw[ih,erF_set];rfl
section
variable {C:Ctx} {X:XF LO} {β:Nat→Nat × Nat} {I:ASet} {rg:Nat→Value} {w:World}
theorem tkL_ok:∀ (vs:List AU) (X:XF LO) (rg:Nat→Value) (h:Nat) (X':XF Unit) (lvs:List AL) (xs:List Value),h+vs.length≤10000→RelL C X β I rg w→lvs.map er=vs→RRL X β lvs xs→MemA w I lvs→noOwnL lvs=true→(∀ l ∈ lvs,l.parts?=none) →
  tkL (erF X) h vs=some X'→∃ XL rg',erF XL=X'∧RelL C XL β I rg' w∧Keeps X XL β β∧(∀ j y,xs[j]?=some y→rg' (h+j)=y)∧(∀ t,t < h∨h+vs.length≤t→rg' t=rg t)
 | [],X,rg,h,X',lvs,xs,hhl,R,he,hr,_,_,_,ht=>by
  have:lvs=[]:=by simpa using he
  subst this
  simp only[RRL] at hr
  subst hr
  simp only[tkL,Option.some.injEq] at ht
  exact⟨X,rg,ht,R,Keeps.refl X β,by simp,fun _ _=>rfl⟩
 | v :: vs,X,rg,h,X',lvs,xs,hhl,R,he,hr,hm,hn,hp,ht=>by
  cases lvs with
  | nil=>simp at he
  | cons lv lvs =>
   simp only[List.map_cons,List.cons.injEq] at he
   simp only[RRL] at hr
   obtain⟨y,ys,rfl,hr1,hr2⟩:=hr
   simp only[MemA] at hm
   simp only[noOwnL,Bool.and_eq_true] at hn
   simp only[tkL] at ht
   cases h1:tk (erF X) v h with
   | none=>simp [h1] at ht
   | some X1 =>
    simp only[h1,Option.bind_some] at ht
    obtain⟨XL,rg1,e1,R1,K1,e2,e3⟩:=tk_ok R (by simp at hhl;omega) ⟨lv,he.1,hr1,hm.1,fun _=>(noOwn_spec lv hn.1).1⟩ h1
    rw[← e1] at ht
    obtain⟨XL2,rg2,f1,R2,K2,f2,f3⟩:=tkL_ok vs XL rg1 (h+1) X' lvs ys (by simp at hhl;omega) R1 he.2 (RRL_keep K1 _ _ hr2) hm.2 hn.2 (fun l hl=>hp l (by simp[hl])) ht
    refine⟨XL2,rg2,f1,R2,K1.trans K2,fun j z hz=>?_,fun t ht=>by simp at ht;rw[f3 t (by omega),e3 t (by omega)]⟩
    cases j with
    | zero=>simp at hz;subst hz;rw[Nat.add_zero,f3 h (.inl (by omega))];exact e2
    | succ j=>simp at hz;have:=f2 j z hz;rwa [Nat.add_assoc,Nat.add_comm 1 j] at this
theorem gather_ok (R:RelL C X β I rg w)(t h n:Nat)(htl:t < 10000)(ht:∀ j,j < n→t ≠ h+j) :
  RelL C (clr (X.set (100 * t) (.agg (gather X h n))) h n) β I (fun s=>if s=t then .agg ((List.range n).map fun j=>rg (h+j)).toArray else rg s) w:=by
 have hget:∀ j c,(gather X h n)[j]?=some c→j < n∧c=(X (100 * (h+j))).2:=by
  intro j c hc
  simp only[gather,List.getElem?_map] at hc
  by_cases hj:j < n
  ·simp[hj] at hc;exact⟨hj,hc.symm⟩
  ·simp[range_none hj] at hc
 refine R.fresh t htl ((List.range n).map (h+·)) (by simp;intro x hx e;exact ht x hx (by omega)) (Frame.refl _ w) ?_ ?_ ?_ ?_
 ·simp only[Mem]
  refine MemA_iff.2 fun c hc=>?_
  obtain⟨j,hj⟩:=List.getElem?_of_mem hc
  obtain⟨_,rfl⟩:=hget j c hj
  exact (R.key _).mem
 ·simp only[Sep]
  refine SepL_iff.2 ⟨fun c hc=>?_,fun i j u v hij hu hv b o h1 h2=>?_⟩
  ·obtain⟨j,hj⟩:=List.getElem?_of_mem hc
   obtain⟨_,rfl⟩:=hget j c hj
   exact (R.key _).sep
  ·obtain⟨_,rfl⟩:=hget i u hu
   obtain⟨_,rfl⟩:=hget j v hv
   exact R.disj (100 * (h+i)) (100 * (h+j)) (by omega) b o (.inl h1) (.inl h2)
 ·simp only[RR]
  refine⟨_,rfl,RRL_iff.2 ⟨by simp[gather],fun j c y hc hy=>?_⟩⟩
  obtain⟨hj,rfl⟩:=hget j c hc
  simp[hj] at hy
  rw[← hy]
  exact R.reg _
 ·intro b o hb
  simp only[fp] at hb
  obtain⟨c,hc,hcb⟩:=fpL_iff.1 hb
  obtain⟨j,hj⟩:=List.getElem?_of_mem hc
  obtain⟨hj',rfl⟩:=hget j c hj
  exact .inr ⟨h+j,by simp;exact hj',hcb⟩
theorem gatherT_ok (R:RelL C X β I rg w)(t h n:Nat)(htl:t < 10000)(ht:∀ j,j < n→t ≠ h+j) :
  RelL C (clr (X.set (100 * t) (.tuple (gather X h n))) h n) β I (fun s=>if s=t then .tuple ((List.range n).map fun j=>rg (h+j)).toArray else rg s) w:=by
 have hget:∀ j c,(gather X h n)[j]?=some c→j < n∧c=(X (100 * (h+j))).2:=by
  intro j c hc
  simp only[gather,List.getElem?_map] at hc
  by_cases hj:j < n
  ·simp[hj] at hc;exact⟨hj,hc.symm⟩
  ·simp[range_none hj] at hc
 refine R.fresh t htl ((List.range n).map (h+·)) (by simp;intro x hx e;exact ht x hx (by omega)) (Frame.refl _ w) ?_ ?_ ?_ ?_
 ·simp only[Mem]
  refine MemA_iff.2 fun c hc=>?_
  obtain⟨j,hj⟩:=List.getElem?_of_mem hc
  obtain⟨_,rfl⟩:=hget j c hj
  exact (R.key _).mem
 ·simp only[Sep]
  refine SepL_iff.2 ⟨fun c hc=>?_,fun i j u v hij hu hv b o h1 h2=>?_⟩
  ·obtain⟨j,hj⟩:=List.getElem?_of_mem hc
   obtain⟨_,rfl⟩:=hget j c hj
   exact (R.key _).sep
  ·obtain⟨_,rfl⟩:=hget i u hu
   obtain⟨_,rfl⟩:=hget j v hv
   exact R.disj (100 * (h+i)) (100 * (h+j)) (by omega) b o (.inl h1) (.inl h2)
 ·simp only[RR]
  refine⟨_,rfl,RRL_iff.2 ⟨by simp[gather],fun j c y hc hy=>?_⟩⟩
  obtain⟨hj,rfl⟩:=hget j c hc
  simp[hj] at hy
  rw[← hy]
  exact R.reg _
 ·intro b o hb
  simp only[fp] at hb
  obtain⟨c,hc,hcb⟩:=fpL_iff.1 hb
  obtain⟨j,hj⟩:=List.getElem?_of_mem hc
  obtain⟨hj',rfl⟩:=hget j c hj
  exact .inr ⟨h+j,by simp;exact hj',hcb⟩
theorem takeV_ok (R:RelL C X β I rg w){v:AU}{x:Value}{X':XF Unit}(hv:∃ lv,er lv=v∧RR X β lv x∧Mem w I lv∧(lv.parts?=none→∀ b o,¬ fp lv b o)∧(∀ vs,lv=.agg vs→noOwnL vs=true))
  (hpp:∀ vs,v=.agg vs→vs.all (fun u=>u.parts?.isNone)=true) (ht:takeV (erF X) v=some X') :
  ∃ XL rg',erF XL=X'∧RelL C XL β I rg' w∧Keeps X XL β β∧rg' H=x∧(∀ t,t < H∨RS≤t→rg' t=rg t):=by
 obtain⟨lv,h1,h2,h3,h4,h5⟩:=hv
 have single:tk (erF X) v H=some X'→∃ XL rg',erF XL=X'∧RelL C XL β I rg' w∧Keeps X XL β β∧rg' H=x∧(∀ t,t < H∨RS≤t→rg' t=rg t):=by
  intro h
  obtain⟨XL,rg1,e1,R1,K1,e2,e3⟩:=tk_ok R (by decide) ⟨lv,h1,h2,h3,h4⟩ h
  exact⟨XL,rg1,e1,R1,K1,e2,fun t ht=>e3 t (by unfold H RS at *;omega)⟩
 cases v with
 | agg vs =>
  obtain⟨lvs,rfl,e⟩:=er_agg h1
  simp only[takeV,Option.map_eq_some_iff] at ht
  obtain⟨X1,g1,g2⟩:=ht
  split at g1
  case isFalse=>cases g1
  rename_i hle
  simp only[RR] at h2
  obtain⟨xs,hx,h2⟩:=h2
  simp only[Mem] at h3
  obtain⟨XL,rg1,e1,R1,K1,e2,e3⟩:=tkL_ok vs X rg (H+1) X1 lvs xs (by unfold H;omega) R e h2 h3 (h5 lvs rfl) (fun l hl=>by
   have:=hpp vs rfl
   rw[List.all_eq_true] at this
   have:=this (er l) (by rw[← e];exact List.mem_map_of_mem hl)
   rw[er_parts] at this
   cases hq:l.parts?<;>simp [hq] at this ⊢) g1
  have hlen:vs.length=xs.length:=by rw[← e];simpa using (RRL_iff.1 h2).1
  refine⟨_,_,?_,gather_ok R1 H (H+1) vs.length (by decide) (fun j _=>by omega),?_,?_,fun t ht=>?_⟩
  ·rw[erF_clr,erF_set,e1,← g2]
   congr 2
   simp only[er,erL_eq,gather,List.map_map]
   congr 1
   refine List.map_congr_left fun j _=>?_
   simp only[Function.comp,← e1,erF]
  ·refine K1.trans ((keeps_set XL β (100 * H) (.agg (gather XL (H+1) vs.length))).trans ?_)
   have hk:∀ (l:List Nat) (Y:XF LO),Keeps Y (l.foldl (fun Y h=>Y.set (100 * h) .non) Y) β β:=by
    intro l
    induction l with
    | nil=>intro Y;exact Keeps.refl Y β
    | cons a l ih=>intro Y;exact (keeps_set Y β _ _).trans (ih _)
   exact hk _ _
  ·simp only[if_true,hx]
   congr 2
   apply List.ext_getElem?
   intro j
   by_cases hj:j < vs.length
   ·have hj':xs[j]?=some xs[j]:=List.getElem?_eq_getElem (by omega)
    simp[List.getElem?_map,hj,hj',e2 j _ hj']
   ·simp[range_none hj,List.getElem?_eq_none (Nat.le_of_not_lt (hlen ▸ hj))]
  ·show (if t=H then _ else rg1 t)=rg t
   rw[if_neg (by unfold H RS at *;omega)]
   exact e3 t (by unfold H RS at *;omega)
 | _=>exact single ht
def flat:AU→Bool
 | .agg vs=>vs.all fun u=>u.parts?.isNone
 | _=>true
def takeC (X:XF Unit)(c:COd):Option (XF Unit):=if flat (rd X c) then takeO X c else none
theorem takeO_ok (R:RelL C X β I rg w){sz:Nat}{x:Operand}{c:COd}(hnt:C.nt≤H)(hc:compOd C.nt sz x=some c){X':XF Unit}(ht:takeC (erF X) c=some X') :
  ∃ XL rg',erF XL=X'∧RelL C XL β I rg' w∧Keeps X XL β β∧rg' H=evR rg x∧(∀ t,t < H∨RS≤t→rg' t=rg t):=by
 unfold takeC at ht
 split at ht
 case isFalse=>cases ht
 rename_i hfl
 obtain⟨lv,h1,h2,h3,h4⟩:=rd_ok R hc
 cases c with
 | c v =>
  simp only[takeO,rd] at ht h1 hfl
  refine takeV_ok R ⟨lv,h1,h2,h3,h4,fun vs e=>?_⟩ (fun vs e=>by subst e;simpa [flat] using hfl) ht
  -- a constant is no aggregate
  exfalso
  subst e
  cases x with
  | tmp t=>simp only[compOd] at hc;split at hc<;>cases hc
  | const u =>
   simp only[compOd] at hc
   split at hc<;>cases hc
   unfold cst at h1
   split at h1<;>simp [er] at h1
  | func f=>simp only[compOd,Option.some.injEq] at hc;cases hc;simp[er] at h1
  | global g=>simp [compOd] at hc
 | t n =>
  have hx:x=.tmp n∧n < C.nt:=by
   cases x with
   | tmp t=>simp only[compOd] at hc;split at hc<;>cases hc;exact⟨rfl,by assumption⟩
   | const u=>simp only[compOd] at hc;split at hc<;>cases hc
   | func f=>simp [compOd] at hc
   | global g=>simp [compOd] at hc
  obtain⟨rfl,hn⟩:=hx
  simp only[takeO] at ht
  have hrd:rd (erF X) (.t n)=ldV (100 * n) (X (100 * n)).1 [] (er (X (100 * n)).2):=rfl
  split at ht
  ·rename_i vs hraw
   have hraw':er (X (100 * n)).2=.agg vs:=hraw
   split at ht
   ·rename_i hno
    rw[hrd,hraw'] at h1
    refine takeV_ok R ⟨lv,h1,h2,h3,h4,fun ws e=>?_⟩ (fun ws e=>?_) ht
    ·subst e
     simp only[ldV,er,AV.agg.injEq] at h1
     rw[← er_noOwnL,h1];exact hno
    ·cases e
     rw[hrd,hraw'] at hfl
     simpa [ldV,flat] using hfl
   ·simp only[Option.some.injEq] at ht
    have hRn:=R.reg n
    have hKn:=R.key (100 * n)
    refine⟨_,_,?_,R.fresh H (by decide) [n] (by simp;omega) (Frame.refl _ w) hKn.mem hKn.sep hRn (fun b o hb=>.inr ⟨n,by simp,hb⟩),(keeps_set X β _ _).trans (keeps_set _ β _ _),by simp[evR],fun t ht=>by simp[show t ≠ H by unfold H RS at *;omega]⟩
    simp only[List.foldl_cons,List.foldl_nil]
    rw[erF_set,erF_set,hraw',← ht];rfl
  ·cases ht
  ·rename_i hna _
   refine takeV_ok R ⟨lv,h1,h2,h3,h4,fun ws e=>?_⟩ (fun ws e=>?_) ht
   ·exfalso
    subst e
    rw[hrd] at h1
    have hna':∀ vs,er (X (100 * n)).2 ≠ .agg vs:=hna
    cases hq:er (X (100 * n)).2 with
    | agg vs=>exact hna' vs hq
    | sl o u s m cs=>cases o<;>simp [hq,ldV,er] at h1
    | bx o u cs=>cases o<;>simp [hq,ldV,er] at h1
    | mp o u cs=>cases o<;>simp [hq,ldV,er] at h1
    | _=>simp [hq,ldV,er] at h1
   ·exfalso
    rw[hrd] at e
    have hna':∀ vs,er (X (100 * n)).2 ≠ .agg vs:=hna
    cases hq:er (X (100 * n)).2 with
    | agg vs=>exact hna' vs hq
    | sl o u s m cs=>cases o<;>simp [hq,ldV] at e
    | bx o u cs=>cases o<;>simp [hq,ldV] at e
    | mp o u cs=>cases o<;>simp [hq,ldV] at e
    | _=>simp [hq,ldV] at e
end
end Go.OT
namespace Go.OT
theorem oneCell_of_CR {v:AL}{x:Value}(ht:treeV v=true)(h:CR v x):x.oneCell'=true:=by
 cases v with
 | sc u=>simp only[CR] at h;subst h;exact ht
 | sl o l s n cs =>
  cases l with
  | none=>simp only[CR] at h;rcases h.1 with e | ⟨_,a,e⟩<;>rw [e]<;>rfl
  | some l=>simp only[CR] at h;rw[h];rfl
 | bx o l cs =>
  cases l with
  | none=>simp [CR] at h
  | some l=>simp only[CR] at h;rw[h];rfl
 | mp o l cs =>
  cases l with
  | none=>simp [CR] at h
  | some l=>simp only[CR] at h;rw[h];rfl
 | _=>simp [treeV] at ht
def put1 (X:XF Unit)(a:AU)(h:Nat):Option (XF Unit) :=
 match a with
 | .bptr b g i =>
  if (X (100 * b+99)).1=g∧i < 98∧(X (100 * b+1+i)).2.isNon=false∧treeV (X (100 * h)).2=true then
   some ((X.set (100 * b+1+i) (X (100 * h)).2).set (100 * h) .non) else none
 | .ptr k g p i =>
  if (X k).1=g∧k ≠ 100 * h∧treeV (X (100 * h)).2=true∧ownQ (X k).2 (p ++ [i])=true then
   match getN (X k).2 (p ++ [i]) with
   | some u=>some ((if u.isNode then X.set k (setN (X k).2 (p ++ [i]) (X (100 * h)).2) else X.upd k (setN (X k).2 (p ++ [i]) (X (100 * h)).2)).set (100 * h) .non)
   | none=>none
  else none
 | _=>none
def shiftA (i:Nat):AU→AU
 | .bptr b g j=>.bptr b g (j+i)
 | .ptr k g p j=>.ptr k g p (j+i)
 | v=>v
def putA (X:XF Unit)(a:AU):Nat→List AU→Option (XF Unit)
 | _,[]=>some X
 | i,c :: cs=>(put1 ((X.set (100 * H) (.agg (List.replicate (i+1) .dead ++ cs))).set (100 * (H+1)) c) (shiftA i a) (H+1)).bind fun X2=>putA X2 a (i+1) cs
def stV (X:XF Unit)(n:Nat)(a v:COd):Option (XF Unit) :=
 (takeC X v).bind fun X1=>match (X1 (100 * H)).2 with
  | .agg vs=>if vs.length=n∧n ≠ 0 then (putA X1 (rd X1 a) 0 vs).map fun X2=>X2.set (100 * H) .non else none
  | _=>if n=1 then put1 X1 (rd X1 a) H else none
section
variable {C:Ctx} {X:XF LO} {β:Nat→Nat × Nat} {I:ASet} {rg:Nat→Value} {w:World}
theorem getN_snoc {p:List Nat}{i:Nat}:∀ {v u:AL},getN v (p ++ [i])=some u→∃ N cs,getN v p=some N∧N.cells?=some cs∧cs[i]?=some u:=by
 induction p with
 | nil =>
  intro v u h
  simp only[List.nil_append,getN] at h
  cases hc:v.cells? with
  | none=>simp [hc] at h
  | some cs =>
   simp only[hc] at h
   cases hi:cs[i]? with
   | none=>simp [hi] at h
   | some c=>simp only[hi,Option.some.injEq] at h;exact⟨v,cs,rfl,hc,by rw[hi,h]⟩
 | cons j p ih =>
  intro v u h
  simp only[List.cons_append,getN] at h ⊢
  cases hc:v.cells? with
  | none=>simp [hc] at h
  | some cs =>
   simp only[hc] at h ⊢
   cases hi:cs[j]? with
   | none=>simp [hi] at h
   | some c=>simp only[hi] at h ⊢;exact ih h
theorem addr_snoc {p:List Nat}{i:Nat}:∀ {v N:AL} {l:Loc},getN v p=some N→N.loc?=some l→addr v (p ++ [i])=some (l.b,l.o+i):=by
 induction p with
 | nil=>intro v N l h hl;simp only[getN,Option.some.injEq] at h;subst h;simp[addr,hl]
 | cons j p ih =>
  intro v N l h hl
  simp only[getN] at h
  cases hc:v.cells? with
  | none=>simp [hc] at h
  | some cs =>
   simp only[hc] at h
   cases hi:cs[j]? with
   | none=>simp [hi] at h
   | some c =>
    simp only[hi] at h
    have:=ih h hl
    cases hq:p ++ [i] with
    | nil=>simp at hq
    | cons a q=>rw [hq] at this;simp[addr,hq,hc,hi,this]
theorem put1_ok (R:RelL C X β I rg w){a:AU}{x:Value}{h:Nat}{X':XF Unit}(ha:Opd X β I w a x)(hp:put1 (erF X) a h=some X') :
  ∃ b o XL,x=.pointer (some ⟨b,o,none⟩)∧erF XL=X'∧RelL C XL β I rg (w.setCell ⟨b,o,none⟩ (rg h))∧Keeps X XL β β∧(w.cell? ⟨b,o,none⟩).isSome∧w.fz b o=false∧(rg h).oneCell'=true:=by
 cases a with
 | bptr b g i =>
  simp only[put1] at hp
  split at hp
  ·rename_i hc
   obtain⟨hg,hi,hn,ht⟩:=hc
   simp only[Option.some.injEq] at hp
   have hx:=ha.bptr hg
   have hk:isCell (100 * b+1+i):=by unfold isCell;omega
   have hne:(X (100 * b+1+i)).2 ≠ .non:=by intro e;simp[erF,e,er,AV.isNon] at hn
   have ht':treeV (X (100 * h)).2=true:=by rw[← er_treeV];exact ht
   obtain⟨⟨h1,l3⟩,h2⟩:=R.putC (100 * b+1+i) h hk hne ht'
   rw[show (100 * b+1+i) / 100=b by omega,show (100 * b+1+i) % 100 - 1=i by omega] at h1 h2 l3
   obtain⟨_,l2,_⟩:=(R.key _).live _ _ h1
   refine⟨_,_,_,hx,?_,h2,(keeps_set X β _ _).trans (keeps_set _ β _ _),l3,l2,oneCell_of_CR ht' (CR_of_RR ht' (R.reg h))⟩
   rw[erF_set,erF_set,← hp];rfl
  ·cases hp
 | ptr k g p i =>
  simp only[put1] at hp
  split at hp
  ·rename_i hc
   obtain⟨hg,hkh,ht,ho⟩:=hc
   have ht':treeV (X (100 * h)).2=true:=by rw[← er_treeV];exact ht
   have ho':ownQ (X k).2 (p ++ [i])=true:=by rw[← er_ownQ];exact ho
   obtain⟨s,l,sz,n,hh,hx⟩:=ha.ptr hg
   cases hu:getN (X k).2 (p ++ [i]) with
   | none=>simp [erF,er_getN,hu] at hp
   | some u =>
    simp only[erF,er_getN,hu,Option.map_some,er_isNode] at hp
    obtain⟨N,cs,hN,hcs,hi⟩:=getN_snoc hu
    simp only[hN,Option.bind_some] at hh
    have hl:=hd_loc hh
    obtain⟨b,o,h1,⟨h2,l3⟩,h3⟩:=R.putT k h (p ++ [i]) hkh (by simp) hu ho' ht' u.isNode (fun e=>e)
    rw[addr_snoc hN hl] at h1
    cases h1
    obtain⟨_,l2,_⟩:=(R.key _).live _ _ h2
    refine⟨_,_,_,hx,?_,h3,?_,l3,l2,oneCell_of_CR ht' (CR_of_RR ht' (R.reg h))⟩
    ·simp only[Option.some.injEq] at hp
     rw[← hp,erF_set]
     cases u.isNode<;>simp [erF_set,erF_upd,er_setN,er]<;>rfl
    ·refine Keeps.trans ?_ (keeps_set _ β _ _)
     cases hb:u.isNode with
     | true=>exact keeps_set X β k _
     | false =>
      simp only[Bool.false_eq_true,if_false]
      refine⟨fun j=>?_,fun j _ p' a ha'=>?_,fun _ _=>rfl⟩
      ·by_cases e:j=k
       ·subst e;simp[XF.upd]
       ·simp[XF.upd,e]
      ·by_cases e:j=k
       ·subst e;rw[XF.upd_self];exact hd_setN hb _ _ (by simp) hu p' a ha'
       ·rw[XF.upd_ne _ _ e];exact ha'
  ·cases hp
 | _=>simp [put1] at hp
theorem Opd.keep {X':XF LO} {β':Nat→Nat × Nat}(K:Keeps X X' β β'){v:AU}{x:Value}(h:Opd X β I w v x)(hv:∀ lv,er lv=v→Mem w I lv→∀ w',Mem w' I lv)(w':World):Opd X' β' I w' v x:=by
 obtain⟨lv,h1,h2,h3⟩:=h.ex
 exact⟨lv,h1,RR_keep K _ _ h2,hv lv h1 h3 w'⟩
def isPl:AU→Bool
 | .bptr _ _ _=>true
 | .ptr _ _ _ _=>true
 | _=>false
theorem Opd.keepP {X':XF LO} {β':Nat→Nat × Nat}(K:Keeps X X' β β'){v:AU}{x:Value}(h:Opd X β I w v x)(hv:isPl v=true)(w':World):Opd X' β' I w' v x:=by
 refine h.keep K (fun lv e _ w'=>?_) w'
 cases v<;>simp [isPl] at hv
 ·rw[er_ptr e];simp[Mem]
 ·rw[er_bptr e];simp[Mem]
theorem isPl_of_put1 {X:XF Unit}{a:AU}{h:Nat}{X':XF Unit}(hp:put1 X a h=some X'):isPl a=true:=by
 cases a<;>simp [put1] at hp<;>rfl
theorem Opd.shift {a:AU}{x:Value}{i:Nat}{b o:Nat}(h:Opd X β I w a x)(hx:x=.pointer (some ⟨b,o,none⟩))(hp:isPl a=true):Opd X β I w (shiftA i a) (.pointer (some ⟨b,o+i,none⟩)):=by
 obtain⟨lv,h1,h2,h3⟩:=h.ex
 subst hx
 cases a<;>simp [isPl] at hp
 ·rename_i k g p j
  have:=er_ptr h1;subst this
  refine⟨.ptr k g p (j+i),rfl,?_,by simp[Mem]⟩
  simp only[RR] at h2 ⊢
  refine⟨h2.1,fun e=>?_⟩
  obtain⟨s,l,sz,n,e1,e2⟩:=h2.2 e
  simp only[Value.pointer.injEq,Option.some.injEq,Addr.mk.injEq,and_true] at e2
  exact⟨s,l,sz,n,e1,by rw[e2.1,e2.2,Nat.add_assoc]⟩
 ·rename_i b' g j
  have:=er_bptr h1;subst this
  refine⟨.bptr b' g (j+i),rfl,?_,by simp[Mem]⟩
  simp only[RR] at h2 ⊢
  refine⟨h2.1,fun e=>?_⟩
  have e2:=h2.2 e
  simp only[Value.pointer.injEq,Option.some.injEq,Addr.mk.injEq,and_true] at e2
  rw[e2.1,e2.2,Nat.add_assoc]
theorem run_store_at {P:Program}{w:World}{b o:Nat}{x:Value}(h1:(w.cell? ⟨b,o,none⟩).isSome)(h2:w.fz b o=false)(h3:x.oneCell'=true):(store ⟨b,o,none⟩ x).run P w=.ok () (w.setCell ⟨b,o,none⟩ x):=by
 rw[run_store P w _ x _ h3]
 have h2:=fz_frozen h2
 cases hc:w.cell? ⟨b,o,none⟩ with
 | none=>simp [hc] at h1
 | some v=>simp [h2]
theorem ownQ_agg (vs:List AU)(p:List Nat)(i:Nat):ownQ (.agg vs:AU) (p ++ [i])=false:=by cases p<;>simp [ownQ,AV.own?]
theorem putA_ok:∀ (cs:List AU) (i:Nat) (X:XF LO) (rg:Nat→Value) (w:World) (xs:List Value) (pre:List Value) (a:AU) (b o:Nat) (X':XF Unit),RelL C X β I rg w →
  (erF X (100 * H)).2=.agg (List.replicate i .dead ++ cs)→rg H=.agg (pre ++ xs).toArray→pre.length=i→cs.length=xs.length →
  Opd X β I w a (.pointer (some ⟨b,o,none⟩))→(cs ≠ []→isPl a=true)→putA (erF X) a i cs=some X' →
  ∃ XL rg' w',erF XL=X'∧RelL C XL β I rg' w'∧(storeCells ⟨b,o,none⟩ xs i).run C.P w=.ok () w'∧(∀ t,t < H→rg' t=rg t)
 | [],i,X,rg,w,xs,pre,a,b,o,X',R,hX,hrg,hpre,hlen,ha,hpl,hp=>by
  have:xs=[]:=by simpa using hlen.symm
  subst this
  simp only[putA,Option.some.injEq] at hp
  exact⟨X,rg,w,hp,R,rfl,fun _ _=>rfl⟩
 | c :: cs,i,X,rg,w,xs,pre,a,b,o,X',R,hX,hrg,hpre,hlen,ha,hpl,hp=>by
  cases xs with
  | nil=>simp at hlen
  | cons x xs =>
   simp only[putA] at hp
   obtain⟨lvs,hV,he⟩:=er_agg (lv:=(X (100 * H)).2) hX
   have hlvs:lvs.length=i+(cs.length+1):=by
    have:=congrArg List.length he
    simpa using this
   have hRH:=R.reg H
   rw[hV,hrg] at hRH
   simp only[RR] at hRH
   obtain⟨ys,hys,hRL⟩:=hRH
   have hys':ys=pre ++ x :: xs:=by simpa using hys.symm
   subst hys'
   have hpp:(X (100 * H)).2.parts?=some lvs:=by rw[hV];rfl
   have hli:lvs[i]?=some lvs[i]:=List.getElem?_eq_getElem (by omega)
   have hxi:(pre ++ x :: xs)[i]?=some x:=by rw[List.getElem?_append_right (by omega)];simp[hpre]
   have hri:=(RRL_iff.1 hRL).2 i _ _ hli hxi
   have hei:er lvs[i]=c:=by
    have:(lvs.map er)[i]?=some c:=by rw[he,List.getElem?_append_right (by simp)];simp
    rw[List.getElem?_map,hli] at this
    simpa using this
   have R1:=R.takeA H (H+1) i (by decide) (by decide) hpp hli hri
   have K1:Keeps X ((X.set (100 * H) ((X (100 * H)).2.withParts (lvs.set i .dead))).set (100 * (H+1)) lvs[i]) β β:=(keeps_set X β _ _).trans (keeps_set _ β _ _)
   have hE:erF ((X.set (100 * H) ((X (100 * H)).2.withParts (lvs.set i .dead))).set (100 * (H+1)) lvs[i])=((erF X).set (100 * H) (.agg (List.replicate (i+1) .dead ++ cs))).set (100 * (H+1)) c:=by
    rw[erF_set,erF_set,hei,hV]
    congr 2
    simp only[AV.withParts,er,erL_eq,List.map_set,he]
    congr 1
    rw[List.set_append_right _ _ (by simp)]
    simp[List.replicate_succ']
   cases h1:put1 (((erF X).set (100 * H) (.agg (List.replicate (i+1) .dead ++ cs))).set (100 * (H+1)) c) (shiftA i a) (H+1) with
   | none=>simp [h1] at hp
   | some X2 =>
    simp only[h1,Option.bind_some] at hp
    have hpl':=hpl (by simp)
    have ha1:=(ha.shift (i:=i) rfl hpl').keepP K1 (by cases a<;>simp [isPl] at hpl'<;>rfl) w
    rw[← hE] at h1
    obtain⟨b',o',XL1,e1,e2,R2,K2,l1,l2,l3⟩:=put1_ok R1 ha1 h1
    simp only[Value.pointer.injEq,Option.some.injEq,Addr.mk.injEq,and_true] at e1
    obtain⟨rfl,rfl⟩:=e1
    simp only[if_true] at R2 l3
    have hne:(100 * H) ≠ 100 * (H+1):=by decide
    have hH2:(erF XL1 (100 * H)).2=.agg (List.replicate (i+1) .dead ++ cs):=by
     rw[e2]
     rw[hE] at h1
     have:∀ (Y:XF Unit) a' Z,put1 Y a' (H+1)=some Z→isPl a'=true→(∀ k g p i',a'=.ptr k g p i'→k ≠ 100 * H)→(∀ b g i',a'=.bptr b g i'→100 * b+1+i' ≠ 100 * H)→(Z (100 * H)).2=(Y (100 * H)).2:=by
      intro Y a' Z hz hp' hk hb
      cases a'<;>simp [isPl] at hp'
      ·rename_i k g p i'
       have hk':=hk k g p i' rfl
       simp only[put1] at hz
       split at hz
       ·split at hz
        ·simp only[Option.some.injEq] at hz
         subst hz
         rw[XF.set_ne _ _ hne]
         split
         ·rw[XF.set_ne _ _ (Ne.symm hk')]
         ·rw[XF.upd_ne _ _ (Ne.symm hk')]
        ·cases hz
       ·cases hz
      ·rename_i b g i'
       have hb':=hb b g i' rfl
       simp only[put1] at hz
       split at hz
       ·simp only[Option.some.injEq] at hz
        subst hz
        rw[XF.set_ne _ _ hne,XF.set_ne _ _ (Ne.symm hb')]
       ·cases hz
     rw[this _ _ _ h1 (by cases a<;>simp [isPl] at hpl'<;>rfl) ?_ ?_]
     ·rw[XF.set_ne _ _ hne,XF.set_self]
     ·intro k g p i' e hk
      -- the place lies in the hand: then no node is there
      subst hk
      cases a<;>simp [isPl] at hpl'<;>simp [shiftA] at e
      obtain⟨rfl,rfl,rfl,rfl⟩:=e
      simp only[shiftA,put1] at h1
      split at h1
      ·rename_i hc
       have:=hc.2.2.2
       rw[XF.set_ne _ _ hne,XF.set_self,ownQ_agg] at this
       cases this
      ·cases h1
     ·intro b g i' e hk
      cases a<;>simp [isPl] at hpl'<;>simp [shiftA] at e
      obtain⟨rfl,rfl,rfl⟩:=e
      simp only[shiftA,put1] at h1
      split at h1
      ·rename_i hc
       have:=hc.2.1
       omega
      ·cases h1
    have hrec:=putA_ok cs (i+1) XL1 _ _ xs (pre ++ [x]) a b o X' R2 hH2 (by simp[show H ≠ H+1 by decide,hrg]) (by simp[hpre]) (by simpa using hlen) (ha.keepP (K1.trans K2) hpl' _) (fun _=>hpl') (by rw[e2];exact hp)
    obtain⟨XL,rg',w',f1,f2,f3,f4⟩:=hrec
    refine⟨XL,rg',w',f1,f2,?_,fun t ht=>by rw[f4 t ht];simp[show t ≠ H+1 by omega]⟩
    simp only[storeCells,Sem.run_bind,Addr.add_lit]
    rw[run_store_at l1 l2 l3,Result.andThen_ok]
    exact f3
end
end Go.OT
namespace Go.OT
theorem cellsOf_oneCell {x:Value}(h:x.oneCell'=true):x.cells=#[x]:=by cases x<;>simp [Value.oneCell'] at h<;>rfl
theorem ok_st {C:Ctx}{o:Oper}{X X':XF Unit}{sa sv n:Nat}{t:TypeId}{x v:Operand}{ca cv:COd}(ho:o.op=.store t x v)(hd:o.dst=none)(hin:opsIn C.nt o=true)(hnt:C.nt≤H)
  (hn:sizeT C.P t=some n) (hca:compOd C.nt sa x=some ca) (hcv:compOd C.nt sv v=some cv) (hr:stV X n ca cv=some X'):OpOk C o X X' :=
 OpOk.of_skip hd hin fun XL β I rg w he R=>by
  subst he
  simp only[stV] at hr
  cases h1:takeC (erF XL) cv with
  | none=>simp [h1] at hr
  | some X1 =>
   simp only[h1,Option.bind_some] at hr
   obtain⟨XL1,rg1,e1,R1,K1,e2,e3⟩:=takeO_ok R hnt hcv h1
   subst e1
   have ha:=opd R1 hca
   have hxe:evR rg1 x=evR rg x:=by
    cases x with
    | tmp t =>
     by_cases hlt:t < C.nt
     ·exact e3 t (.inl (Nat.lt_of_lt_of_le hlt hnt))
     ·simp[compOd,hlt] at hca
    | _=>rfl
   rw[hxe] at ha
   have single:∀ X'',n=1→put1 (erF XL1) (rd (erF XL1) ca) H=some X''→∃ w' XL' β' I' rg',(execOp (evR rg) o).run C.P w=.ok .skip w'∧erF XL'=X''∧RelL C XL' β' I' rg' w'∧∀ t,t < C.nt→rg' t=rg t:=by
    intro X'' h1n hp
    obtain⟨b,off,XL2,hx,f1,R2,_,l1,l2,l3⟩:=put1_ok R1 ha hp
    rw[e2] at R2 l3
    refine⟨_,XL2,β,I,rg1,?_,f1,R2,fun t ht=>e3 t (.inl (by omega))⟩
    simp only[execOp,ho,Instr.storeAt,hx,Instr.sureAddr,Sem.run_bind,Sem.run_pure,Result.andThen_ok,storeVar,run_sizeOf hn,cellsOf_oneCell l3,h1n]
    simp only[List.size_toArray,List.length_singleton,ne_eq,not_true_eq_false,if_false,storeCells,Addr.add_zero',Sem.run_bind,run_store_at l1 l2 l3,Result.andThen_ok,Sem.run_pure,pure_bind]
   cases hV:(erF XL1 (100 * H)).2 with
   | agg vs =>
    simp only[hV] at hr
    split at hr
    ·rename_i hlen
     obtain⟨hlen,hn0⟩:=hlen
     simp only[Option.map_eq_some_iff] at hr
     obtain⟨X2,hr,hr2⟩:=hr
     obtain⟨lvs,hV',hlvs⟩:=er_agg (lv:=(XL1 (100 * H)).2) hV
     have hRH:=R1.reg H
     rw[hV'] at hRH
     simp only[RR] at hRH
     obtain⟨ys,hys,hRL⟩:=hRH
     have hly:vs.length=ys.length:=by rw[← hlvs];simpa using (RRL_iff.1 hRL).1
     have hpl:isPl (rd (erF XL1) ca)=true:=by
      cases vs with
      | nil=>simp at hlen;omega
      | cons c cs =>
       simp only[putA] at hr
       cases hp:put1 (((erF XL1).set (100 * H) (.agg (List.replicate (0+1) .dead ++ cs))).set (100 * (H+1)) c) (shiftA 0 (rd (erF XL1) ca)) (H+1) with
       | none=>rw [hp] at hr;cases hr
       | some Z =>
        have:=isPl_of_put1 hp
        revert this
        cases rd (erF XL1) ca<;>simp [shiftA,isPl]
     -- the address
     obtain⟨b,off,hx⟩:∃ b off,evR rg x=.pointer (some ⟨b,off,none⟩):=by
      cases vs with
      | nil=>simp at hlen;omega
      | cons c cs =>
       have hr':=hr
       simp only[putA] at hr'
       cases hp:put1 (((erF XL1).set (100 * H) (.agg (List.replicate (0+1) .dead ++ cs))).set (100 * (H+1)) c) (shiftA 0 (rd (erF XL1) ca)) (H+1) with
       | none=>rw [hp] at hr';cases hr'
       | some Z =>
        generalize rd (erF XL1) ca=a at *
        have hne:(100 * H) ≠ 100 * (H+1):=by decide
        cases a<;>simp [isPl] at hpl
        ·rename_i k g p j
         simp only[shiftA,put1] at hp
         split at hp
         ·rename_i hc
          have hk1:k ≠ 100 * H:=by
           rintro rfl
           have:=hc.2.2.2
           rw[XF.set_ne _ _ hne,XF.set_self,ownQ_agg] at this
           cases this
          have hg:=hc.1
          rw[XF.set_ne _ _ hc.2.1,XF.set_ne _ _ hk1] at hg
          obtain⟨s,l,sz,m,_,h2⟩:=ha.ptr hg
          exact⟨_,_,h2⟩
         ·cases hp
        ·rename_i b g j
         simp only[shiftA,put1] at hp
         split at hp
         ·rename_i hc
          have hg:=hc.1
          rw[XF.set_ne _ _ (by omega),XF.set_ne _ _ (by omega)] at hg
          exact⟨_,_,ha.bptr hg⟩
         ·cases hp
     rw[hx] at ha
     obtain⟨XL2,rg2,w',f1,R2,f3,f4⟩:=putA_ok vs 0 XL1 rg1 w ys [] (rd (erF XL1) ca) b off X2 R1 (by simpa using hV) (by simpa using hys) rfl hly ha (fun _=>hpl) hr
     refine⟨w',XL2.set (100 * H) .non,β,I,_,?_,by rw[erF_set,f1,← hr2];rfl,R2.setR H (by decide) rfl (by simp[Mem]) (by simp[RR]:RR XL2 β .non undef),fun t ht=>?_⟩
     ·rw[e2] at hys
      simp only[execOp,ho,Instr.storeAt,hx,Instr.sureAddr,Sem.run_bind,Sem.run_pure,Result.andThen_ok,storeVar,run_sizeOf hn,hys,Value.cells]
      rw[if_neg (by simp;omega)]
      simp only[Sem.run_bind,Sem.run_pure,pure_bind,f3,Result.andThen_ok]
     ·simp only[show t ≠ H by omega,if_false]
      rw[f4 t (by omega),e3 t (.inl (by omega))]
    ·cases hr
   | _ =>
    simp only[hV] at hr
    split at hr
    ·exact single _ (by assumption) hr
    ·cases hr
end Go.OT
