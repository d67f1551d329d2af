/- Part 10 of the proof: see its last file. -/
import Derived.Test.YtlcemfnjhdcmoaaWm09
set_option linter.unusedSimpArgs false
set_option linter.unusedVariables false
set_option maxHeartbeats 64000000
namespace Go.OT
theorem RelT.wipe1 {C:Ctx}{X:XF Unit}{tm:Array Value}{w:World}(h:RelT C X tm w)(k:Nat)(p:List Nat)(hk:k % 100=0)(hkH:k ≠ 100 * H)(hH:(X (100 * H)).2=.non){N:AU}(hN:z0n (X k).2 p=some N)(hn:N.isNode=true)(ho:z4k (X k).2 p=true)
  (hsm:z4e (X k).2 (z18 (X k).2 p .dead)=true) (h2:∀ t,z4o [k] (X (100 * t)).2=true) (h3:∀ k',z2g k'→noR [k] (X k').2=true):RelT C (X.upd k (z18 (X k).2 p .dead)) tm w:=by
 obtain⟨XL,β,I,rg,he,R,hs,ht⟩:=h
 subst he
 obtain⟨NL,hNL,hNe⟩:∃ NL,z0n (XL k).2 p=some NL∧er NL=N:=by
  have:=hN
  simp only[erF,z70] at this
  cases hc:z0n (XL k).2 p with
  | none=>simp [hc] at this
  | some NL =>
   rw[hc] at this
   exact⟨NL,rfl,by simpa using this⟩
 have hnL:NL.isNode=true:=by rw[← hNe,z7i] at hn;exact hn
 have hoL:z4k (XL k).2 p=true:=by rw[← z8n];exact ho
 have hHL:(XL (100 * H)).2=.non:=by
  have:er (XL (100 * H)).2=.non:=hH
  revert this
  generalize (XL (100 * H)).2=v
  intro h;cases v<;>simp [er] at h;rfl
 have R1:=R.takeP k H (by decide) p hkH (v:=.non) (x:=rg H) hNL hnL hoL (by simp[Mem]) (by simp[Sep]) (fun b o hb=>by simp[fp] at hb) (by simp[RR])
 have erg:(fun s=>if s=H then rg H else rg s)=rg:=by funext s;split<;>simp_all
 rw[erg] at R1
 have hM1:∀ j,j ≠ k→((XL.set k (z18 (XL k).2 p .dead)).set (100 * H) .non) j=XL j:=fun j hj=>by
  by_cases e:j=100 * H
  ·subst e
   rw[wa,w9 _ _ hj]
   have:XL (100 * H)=((XL (100 * H)).1,.non):=by rw[← hHL]
   rw[this];rfl
  ·rw[w9 _ _ e,w9 _ _ hj]
 have hM2:(((XL.set k (z18 (XL k).2 p .dead)).set (100 * H) .non) k).2=z18 (XL k).2 p .dead:=by
  rw[w9 _ _ hkH,wa]
 have hsmL:z4e (er (XL k).2) (er (z18 (XL k).2 p .dead))=true:=by rw[z71];exact hsm
 have hroot:z4o [k] (z18 (XL k).2 p .dead)=true:=by
  rw[← z8c]
  revert hsmL
  generalize er (z18 (XL k).2 p .dead)=z
  generalize er (XL k).2=y
  intro h
  cases y<;>cases z<;>simp [z4e] at h<;>rfl
 have R2:=R.regen R1 [k] H (fun j hj=>by simp at hj;subst hj;exact⟨hk,hkH⟩) (fun _ _=>rfl) (by
   rw[hM1 _ (Ne.symm hkH),hHL];rfl) (fun j hj _=>by
   rw[hM1 j (by intro e;subst e;simp at hj)]) (fun t=>by
   by_cases e:100 * t=k
   ·rw[e,hM2];exact hroot
   ·rw[hM1 _ e,← z8c];exact h2 t) (fun j hj=>by
   have:j ≠ k:=by intro e;subst e;unfold z2g at hj;omega
   rw[hM1 _ this,← zp7];exact h3 j hj) (fun j hj=>by
   simp at hj;subst hj;rw[hM2];exact hsmL)
 refine⟨_,β,I,rg,?_,R2,hs,ht⟩
 rw[zbe]
 funext j
 by_cases e:j=k
 ·subst e
  simp only[z4f,List.contains_cons,beq_self_eq_true,Bool.true_or,if_true,wc,erF]
  rw[hM2,z71];rfl
 ·have hc:[k].contains j=false:=by simp[e]
  simp only[z4f,hc,py,if_false,we _ _ e,erF,hM1 j e]
section
variable {P:Program} {nt:Nat} {L:SL} {Q:Ex→SL→Prop}
def yze:Option AU→Bool
 | some N=>N.isNode
 | none=>false
@[simp] theorem ym8 (N:AU):yze (some N)=N.isNode:=rfl
def zgm (k:Nat)(p:List Nat)(L:SL):Bool:=decide (k % 100=0) && (!decide (k=100 * H) && ((fnL L (100 * H)).2.isNon && (yze (z0n (fnL L k).2 p) && (z4k (fnL L k).2 p && (z4e (fnL L k).2 (z18 (fnL L k).2 p .dead) && L.all fun e=>z4o [k] e.2.2 && (decide (e.1 % 100=0) || noR [k] e.2.2))))))
theorem RelT.wipe1L {C:Ctx}{tm:Array Value}{w:World}(h:RelT C (fnL L) tm w)(k:Nat)(p:List Nat)(hB:zgm k p L=true):RelT C (fnL (z9h L k (z18 (fnL L k).2 p .dead))) tm w:=by
 simp only[zgm,pp,decide_eq_true_eq,qp,decide_eq_false_iff_not,qh,qr] at hB
 obtain⟨a1,a2,a3,a5,a6,a7,a4⟩:=hB
 have a3':(fnL L (100 * H)).2=.non:=by
  revert a3
  generalize (fnL L (100 * H)).2=v
  intro h;cases v<;>simp [AV.isNon] at h;rfl
 obtain⟨N,hN,hn⟩:∃ N,z0n (fnL L k).2 p=some N∧N.isNode=true:=by
  revert a5
  generalize z0n (fnL L k).2 p=o
  intro h
  cases o with
  | none=>simp [yze] at h
  | some N=>exact ⟨N,rfl,h⟩
 have:=h.wipe1 k p a1 a2 a3' hN hn a6 a7 (fun t=>?_) (fun k' hc=>?_)
 ·rwa [z49] at this
 ·rcases z92 L (100 * t) with h | ⟨e,he,_,h⟩
  ·rw[h];rfl
  ·rw[h];exact (a4 e he).1
 ·rcases z92 L k' with h | ⟨e,he,e1,h⟩
  ·rw[h];rfl
  ·rw[h]
   rcases (a4 e he).2 with q | q
   ·rw[e1] at q;exact absurd q hc.1
   ·exact q
theorem WL.wipe1 {cc:Cd}(k:Nat)(p:List Nat)(hB:zgm k p L=true)(h:WL P nt cc (z9h L k (z18 (fnL L k).2 p .dead)) Q):WL P nt cc L Q:=by
 intro C code hP hn hc a w hd hR
 exact h C code hP hn hc a w hd (hR.wipe1L k p hB)
theorem RL.wipe1 {K:SL→Prop}{segs:List Sg}(k:Nat)(p:List Nat)(hB:zgm k p L=true)(h:RL P nt segs (z9h L k (z18 (fnL L k).2 p .dead)) K):RL P nt segs L K:=by
 intro C ops idx hP hnt hc a w Q hd hR hK
 exact h C ops idx hP hnt hc a w Q hd (hR.wipe1L k p hB) hK
theorem n9 {K:SL→Fs→Prop}{rest:List Sg}{d f:Nat}{cs:List COd}{gs gs':List (Gh Unit)}{vs:List AU}{r:AU}{fs:Fs}(own:Bool)(ls:List (Nat × List Nat))(hfn:FnC P f gs vs gs' r)(hgs:ls.mapM (z9g (fnL L))=some gs)(hnd:(ls.map (·.1)).Nodup)
  (has:z15 (fnL L) ls own cs=some vs) (hs:z17 own gs gs' r=true) (hcl:z05 (z0k (z5k L (ls.zip gs')) (100 * d) (z1t r))=true)
  (h:DL P nt rest (z0k (z5k L (ls.zip gs')) (100 * d) (z1t r)) ((2 * d :: (ls.map (fun e=>z13 e.1) ++ (uOs (fnL L) cs ++ zfw (fnL L) own cs)),2 * d :: ls.map (fun e=>z13 e.1)) :: fs) K):DL P nt (.call none d f cs :: rest) L fs K:=by
 refine DL.cons (it:=.call none d f cs) (rest:=rest) (by simp[z26]) (fun C ops i o hP hn hc0 hi hit=>?_) h
 have hzip:∀ e ∈ ls.zip gs',e.1 ∈ ls:=fun e he=>(List.of_mem_zip (a:=e.1) (b:=e.2) he).1
 have hcx:=z83 hcl
 have e0:fnL (z0k (z5k L (ls.zip gs')) (100 * d) (z1t r))=(z1y (fnL L) (ls.zip gs')).set (100 * d) (z1t r):=by rw[← z08,z4u]
 rw[e0] at hcx ⊢
 refine⟨fun u hu=>?_,fun k hk=>?_,hcx,fun X hX ha=>?_⟩
 ·simp only[ql,qj] at hu ⊢
  rcases hu with hu | hu
  ·exact .inl hu
  ·exact .inr (.inl hu)
 ·have h1:k ≠ 100 * d:=fun e=>hk (by rw[e,z0i];simp)
  rw[w9 _ _ h1]
  refine z6s fun e he e'=>hk ?_
  rw[← e']
  exact qe _ (s7.2 ⟨e.1,hzip e he,rfl⟩)
 ·have hls:∀ e ∈ ls,X e.1=fnL L e.1:=fun e he=>ha e.1 (by
   simp only[ql,qj]
   exact .inr (.inl (s7.2 ⟨e,he,rfl⟩)))
  have hzs:∀ e ∈ ls.zip gs',X e.1.1=fnL L e.1.1:=fun e he=>hls _ (hzip e he)
  have hag:agr (uOs (fnL L) cs ++ zfw (fnL L) own cs) X (fnL L):=fun k hk=>ha k (by
   simp only[ql,qj] at hk ⊢
   exact .inr (.inr hk))
  have hd0:X (100 * d)=fnL L (100 * d):=ha _ (by rw[z0i];simp)
  have hsk0:=z9t (ls:=ls) (gs:=gs) (gs':=gs') own hP hn hi hit hfn (by rw[ze4 hls];exact hgs) hnd (by rw[z3g hag];exact has) hs
  have hsk:SOk C ops i X ((z1y X (ls.zip gs')).set (100 * d) (z1t r)):=hsk0.weak fun tm w hR=>by
   have h2:=hR.freeze (100 * d)
   have e:((z1y X (ls.zip gs')).set (100 * d) r).upd (100 * d) (z1t (((z1y X (ls.zip gs')).set (100 * d) r) (100 * d)).2)=(z1y X (ls.zip gs')).set (100 * d) (z1t r):=by
    funext j
    by_cases ej:j=100 * d
    ·subst ej;simp[wc,wa,XF.set,XF.upd]
    ·rw[we _ _ ej,w9 _ _ ej,w9 _ _ ej]
   rw[e] at h2
   exact h2
  have:mix (2 * d :: ls.map (fun e=>z13 e.1)) ((z1y (fnL L) (ls.zip gs')).set (100 * d) (z1t r)) X=(z1y X (ls.zip gs')).set (100 * d) (z1t r):=by
   funext k
   unfold mix
   by_cases hk:z13 k ∈ 2 * d :: ls.map (fun e=>z13 e.1)
   ·rw[if_pos hk]
    have hXk:X k=fnL L k:=by
     rcases ql.1 hk with hk | hk
     ·rw[← z0i d] at hk
      rw[z8b hk]
      exact hd0
     ·obtain⟨e,he,hke⟩:=s7.1 hk
      rw[← z8b hke]
      exact hls e he
    have hb:=zbd hzs k hXk
    by_cases e:k=100 * d
    ·subst e
     simp only[XF.set,if_true,hb]
    ·rw[w9 _ _ e,w9 _ _ e,hb]
   ·rw[if_neg hk]
    have h1:k ≠ 100 * d:=fun e=>hk (by rw[e,z0i];simp)
    rw[w9 _ _ h1,z6s fun e he e'=>hk (by
     rw[← e']
     exact qe _ (s7.2 ⟨e.1,hzip e he,rfl⟩))]
  rw[this]
  exact hsk
end
attribute [simp] zgm
theorem DStep.conv {C:Ctx}{ops:Array Oper}{i:Nat}{R D:List Nat}{Y Y':XF Unit}(h:DStep C ops i R D Y Y')(k:Nat)(hk:z13 k ∈ D)(hh:z30 k=false)(v:AU)(hr:∀ r ∈ roots v,r ∈ roots (Y' k).2)
  (hc:∀ (X:XF Unit) tm w,X k=Y' k→RelT C X tm w→RelT C (X.upd k v) tm w):DStep C ops i R D Y (Y'.upd k v):=by
 have hu:∀ j,(Y'.upd k v) j=if j=k then ((Y' k).1,v) else Y' j:=fun j=>by
  by_cases e:j=k
  ·subst e;rw[wc];simp
  ·rw[we _ _ e];simp[e]
 refine⟨h.sub,fun j hj=>?_,fun j=>?_,fun X hX ha=>?_⟩
 ·have e:j ≠ k:=fun e=>hj (e ▸ hk)
  rw[we _ _ e];exact h.out j hj
 ·rw[hu]
  by_cases e:j=k
  ·subst e
   simp only[if_true]
   exact⟨fun z=>(by rw[hh] at z;cases z),fun r hr'=>(h.cl j).2 r (hr r hr')⟩
  ·simp only[e,if_false];exact h.cl j
 ·refine (h.step X hX ha).weak fun tm w r=>?_
  have hm:(mix D Y' X) k=Y' k:=by unfold mix;rw[if_pos hk]
  have:=hc (mix D Y' X) tm w hm r
  have e:mix D (Y'.upd k v) X=(mix D Y' X).upd k v:=by
   funext j
   by_cases e:j=k
   ·subst e;rw[wc];simp only[mix,hk,if_true,wc]
   ·rw[we _ _ e];simp only[mix,we _ _ e]
  rw[e];exact this
section
variable {P:Program} {nt:Nat}
theorem WL.eqL {cc:Cd}{L L':SL}{Q:Ex→SL→Prop}(e:L=L')(h:WL P nt cc L' Q):WL P nt cc L Q:=e ▸ h
theorem RL.eqL {segs:List Sg}{L L':SL}{K:SL→Prop}(e:L=L')(h:RL P nt segs L' K):RL P nt segs L K:=e ▸ h
theorem DL.cut {L:SL}{fs:Fs}{K:SL→Fs→Prop}{segs segs':List Sg}(e:z26 segs=z26 segs')(h:DL P nt segs' L fs K):DL P nt segs L fs K:=by
 intro C ops i n hP hn hc0 hc
 exact h C ops i n hP hn hc0 (by rw[← e];exact hc)
end
open Go.Proofs
abbrev opQ (p:List UInt8 × Int):Ex→SL→Prop:=fun e L=>e=Ex.ret∧RetOk zgh.rs [] (.tuple [sU true p.1,i64 p.2]) L
theorem zt8 {b:List UInt8}(h24:b.length=24)(h:∀ j (hj:j < b.length),b[j]=0):b=z24:=by
 refine List.ext_getElem (by simp[h24]) fun j h1 h2=>?_
 rw[h j h1]
 have:∀ j (hj:j < z24.length),(0:UInt8)=z24[j]:=by decide
 exact this j h2
theorem zq0 (id:Int)(hp:isP id=true)(b:List UInt8)(h24:b.length=24)(hne:b ≠ z24):WL Try.prog zgh.nt zpm [(0,0,i64 id),(100,0,sU false b),(3200,0,bl false)] (opQ (z1v id b)):=by
 have eO:z1v id b=if zbt id (b.drop 8)=b then (b.drop 8,0) else ([],10):=by simp[z1v,hp,h24,hne]
 rw[eO]
 clear eO
 obtain⟨bd,ebd⟩:∃ x,x=b.drop 8:=⟨_,rfl⟩
 have hl8:bd.length=16:=by simp[ebd,h24]
 have hsl:=zi7 id bd (by omega)
 have eS:z3w id bd=(zbt id bd,0):=by simp[z3w,hp,hl8]
 rw[eS] at hsl
 have hcl:=z5m bd (by unfold z0c;omega)
 have heq:=z3h (zbt id bd) b
 have hil:=zeb id bd
 have tk:List.take 16 (List.drop 8 (List.map (fun b=>u8 (b.toNat:Int)) b))=bm bd:=by rw[ebd,bm,sr,pr (by simp[h24])]
 have tk2:List.take 16 (bm bd)=bm bd:=pr (by simp[hl8])
 rw[← ebd]
 clear ebd
 refine w7 (RL.o (by simp[h24];rfl) (RL.call0 false hcl (by simp[h24,tk,hl8]) (by simp) (RL.o (by simp;rfl) (RL.nil ⟨_,by simp;rfl,?_⟩))))
 refine WL.eqL (L':=[(0,0,i64 id),(100,0,sU false b),(700,0,.sl true () 1 16 (bm bd))]) (by simp[hl8,tk2]) ?_
 refine WL.seq (w7 (RL.o (by simp;rfl) (RL.call0 true hsl (by simp[hl8,tk2]) (by simp[zg3]) (n5 (by decide) (RL.o (by simp;rfl) (RL.nil ⟨_,by simp;rfl,?_⟩))))))
 generalize zbt id bd=img at *
 have tk3:List.take img.length (bm img)=bm img:=pr (by simp)
 by_cases r:img=b
 ·rw[if_pos r]
  have rb:(img == b)=true:=by simp[r]
  rw[rb] at heq
  refine w7 (RL.o (by simp;rfl) (RL.call0 true heq (by simp[tk3]) (by simp) (RL.o (by simp;rfl) (RL.nil ⟨_,by simp;rfl,?_⟩))))
  refine WL.cond (t:=false) (by simp) (by simp) fun _=>WL.skip ?_
  refine w7 (n5 (by decide) (RL.o (by simp;rfl) (RL.nil ⟨_,by simp;rfl,WL.ret ⟨rfl,?_⟩⟩)))
  simp[zgh,hl8]
  rw[tk2,tk2]
 ·rw[if_neg r]
  have rb:(img == b)=false:=by simp[r]
  rw[rb] at heq
  refine w7 (RL.o (by simp;rfl) (RL.call0 true heq (by simp[tk3]) (by simp) (RL.o (by simp;rfl) (RL.nil ⟨_,by simp;rfl,?_⟩))))
  refine WL.cond (t:=true) (by simp) (fun _=>?_) (by simp)
  refine WL.sreg (by simp;rfl) (by simp;rfl) (WL.ret ⟨rfl,?_⟩)
  simp[zgh]
theorem y26 (id:Int)(b:List UInt8)(hb:b.length≤1000000):FnC Try.prog 117 [] [i64 id,sU false b] [] (.tuple [sU true (z1v id b).1,i64 (z1v id b).2]):=by
 refine wb yyz rfl ?_
 refine WL.mono (Q':=opQ (z1v id b)) ?_ fun e L h=>⟨.inr h.1,h.2⟩
 refine WL.sreg (by simp;rfl) (by simp;rfl) ?_
 refine WL.scope (WL.seq (w7 (RL.o (by simp;rfl) (RL.call0 false (zpy id) (by simp) (by simp) ?_))))
 cases hp:isP id with
 | false =>
  refine RL.o (by simp;rfl) (RL.g (by simp;rfl) (RL.o (by simp;rfl) (RL.nil ⟨_,by simp;rfl,?_⟩)))
  refine WL.cond (t:=true) (by simp) (fun _=>?_) (by simp)
  refine WL.sreg (by simp;rfl) (by simp;rfl) (WL.ret ⟨rfl,?_⟩)
  simp[zgh,z1v,hp]
 | true =>
 by_cases h24:b.length=24
 ·refine RL.o (by simp;rfl) (RL.g (by simp[h24];rfl) (RL.o (by simp;rfl) (RL.nil ⟨_,by simp;rfl,?_⟩)))
  refine WL.cond (t:=false) (by simp) (by simp) fun _=>WL.skip ?_
  refine WL.sreg (by simp;rfl) (by simp;rfl) ?_
  refine WL.seq (WL.label ?_)
  refine WL.seq (WL.block (wd 24 (fun i=>[(0,0,i64 id),(100,0,sU false b),(600,0,i64 i)]) (fun i=>∀ j (hj:j < b.length),j < i→b[j]=0) (by simp) (fun j _ h=>absurd h (rx _)) fun i hi hz=>?_))
  by_cases h:i < 24
  ·have h':(i:Int) < 24:=by omega
   have w:IntKind.wrap .i64 ((i:Int)+1)=((i+1:Nat):Int):=by rw[z01 (by omega) (by omega)];omega
   have hib:i < b.length:=by omega
   have f1:List.drop i (List.map (fun b=>u8 (b.toNat:Int)) b)=u8 (b[i].toNat:Int) :: List.drop (i+1) (bm b):=by
    rw[← sr,qx hib,bm,← sr];rfl
   refine WL.seq (WL.sreg (by simp[h24];rfl) (by simp;rfl) ?_)
   refine WL.cond (t:=true) (by simp[h',h24]) (fun _=>WL.skip ?_) (by simp)
   refine WL.block (WL.seq ?_)
   by_cases q:b[i]=0
   ·have q':((b[i].toNat:Int) != 0)=false:=by simp[q]
    refine WL.sreg (by simp[h24,hib,h,h',f1,q'];rfl) (by simp;rfl) ?_
    refine WL.cond (t:=false) (by simp[q]) (by simp) fun _=>WL.skip ?_
    refine WL.reg (RL.run (by simp[w];rfl) ⟨_,by simp;rfl,h,by simp,fun j hj hji=>?_⟩)
    by_cases e:j=i
    ·subst e;exact q
    ·exact hz j hj (by omega)
   ·have qn:¬ b[i].toNat=0:=fun e=>q (UInt8.toNat_inj.1 e)
    have q':((b[i].toNat:Int) != 0)=true:=by simp;omega
    refine WL.sreg (by simp[h24,hib,h,h',f1,q'];rfl) (by simp;rfl) ?_
    refine WL.cond (t:=true) (by simp[qn]) (fun _=>WL.fin [26] (by simp;rfl) (WL.exit ?_)) (by simp)
    have hne:b ≠ z24:=fun e=>q (by
     have:∀ j (hj:j < z24.length),z24[j]=0:=by decide
     subst e
     exact this i hib)
    have h24i:((i:Int) == 24)=false:=beq_false_of_ne (by omega)
    refine WL.seq (WL.sreg (by simp[h24,h24i];rfl) (by simp;rfl) ?_)
    refine WL.cond (t:=false) (by simp[h24i]) (by simp) fun _=>WL.skip ?_
    refine WL.eqL ?_ (zq0 id hp b h24 hne)
    simp[h24i]
  ·obtain rfl:i=24:=by omega
   have hz24:=zt8 h24 fun j hj=>hz j hj (by omega)
   refine WL.seq (WL.sreg (by simp[h24];rfl) (by simp;rfl) ?_)
   refine WL.cond (t:=false) (by simp[h24]) (by simp) fun _=>WL.exit ?_
   refine WL.seq (WL.sreg (by simp[h24];rfl) (by simp;rfl) ?_)
   refine WL.cond (t:=true) (by simp) (fun _=>?_) (by simp)
   refine WL.sreg (by simp;rfl) (by simp;rfl) (WL.ret ⟨rfl,?_⟩)
   simp[zgh,z1v,hp,hz24]
 ·refine RL.o (by simp;rfl) (RL.g (by simp;rfl) (RL.o (by simp;rfl) (RL.nil ⟨_,by simp;rfl,?_⟩)))
  refine WL.cond (t:=true) (by simp;omega) (fun _=>?_) (by simp)
  refine WL.sreg (by simp;rfl) (by simp;rfl) (WL.ret ⟨rfl,?_⟩)
  simp[zgh,z1v,h24]
theorem y27 (o r:Bool)(l:List Ev):(z19 (l.flatMap (z02 o r)):List AU)=l.flatMap (z02 false false):=by
 rw[z4q]
 induction l with
 | nil=>rfl
 | cons a l ih=>rw [sj,r6,ih,sj];simp[z1t,Function.comp_def]
theorem zec {l:List Ev}{i:Nat}(h:i < l.length):zbj l (i:Int)=l[i].Stamp:=by
 simp[zbj,h]
theorem zq1 (l:List Ev)(a b:Int)(ha:∃ i:Nat,i < l.length∧a=i)(hb:∃ i:Nat,i < l.length∧b=i):FnC Try.prog 92 [] [i64 a,i64 b,.vptr () [sEv l]] [] (i64 (zgz (zbj l a) (zbj l b))):=by
 obtain⟨i,hi,rfl⟩:=ha
 obtain⟨j,hj,rfl⟩:=hb
 rw[zec hi,zec hj]
 have f1:=z0y (o:=false) (r:=false) hi
 have f2:=z0y (o:=false) (r:=false) hj
 have g1:14≤l.length * 14 - i * 14:=by omega
 have g2:14≤l.length * 14 - j * 14:=by omega
 refine wb x1u rfl ?_
 refine WL.sreg (by simp;rfl) (by simp;rfl) ?_
 refine WL.seq (WL.draw z0p (by simp[z05,noH]) (DL.o (by simp[hi,hj,f1,f2,g1,g2];exact⟨rfl,rfl⟩) (DL.call0 false (yhv l[i].Stamp l[j].Stamp) (by simp) (by simp) (DL.o (by simp;exact⟨rfl,rfl⟩) (DL.nil ⟨by kernel_rfl,_,by simp;rfl,?_⟩)))))
 refine WL.ret ⟨.inr rfl,?_⟩
 simp[x0e]
abbrev orS (l:List Ev)(i:Nat):SL:=[(100,0,.bptr 1 1 0),(101,0,sEv l),(199,1,.non),(300,0,sI true (z9y l i)),(600,0,sEv l),(700,0,i64 l.length),(800,0,i64 i)]
theorem zed (l:List Ev)(hn:l.length≤1000):FnC Try.prog 33 [] [sEv l] [] (sI true (z0s l)):=by
 refine wb x1j rfl ?_
 refine WL.sreg (by simp;rfl) (by simp;rfl) ?_
 refine WL.sreg (by simp;rfl) (by simp;rfl) ?_
 refine WL.seq (WL.sreg (by simp;rfl) (by simp;rfl) ?_)
 refine WL.block (wd l.length (fun i=>orS l i) (fun _=>True) (by simp[z9y]) trivial fun i hi _=>?_)
 by_cases hlt:i < l.length
 ·have f1:=z0y (o:=false) (r:=false) hlt
  have g1:14≤l.length * 14 - i * 14:=by omega
  have w:IntKind.wrap .i64 ((i:Int)+1)=((i+1:Nat):Int):=by rw[z01 (by omega) (by omega)];omega
  have hst:(l.map (·.Stamp)).getD i 0=l[i].Stamp:=by simp[hlt]
  have hps:=zbk l i
  rw[hst] at hps
  have hlen:=za1 l i
  refine WL.sreg (by simp[hlt];rfl) (by simp;rfl) ?_
  refine WL.seq (WL.cond (t:=true) (by simp[hlt]) (fun _=>WL.skip ?_) (by simp))
  refine WL.seq (WL.block (WL.sreg (by simp[hlt,f1,g1];rfl) (by simp;rfl) ?_))
  by_cases hs:0 < l[i].Stamp
  ·rw[if_pos hs] at hps
   have m1:((z9y l i).length+1) * 8≤140737488355328:=by omega
   have m2:(z9y l i).length+1≤maxLen:=by unfold maxLen;omega
   refine WL.sreg (by simp[hs];rfl) (by simp;rfl) ?_
   refine WL.cond (t:=true) (by simp) (fun _=>?_) (by simp)
   refine WL.reg (RL.run (by simp[m1,m2];rfl) ⟨_,by simp;rfl,?_⟩)
   refine WL.reg (RL.run (by simp[w];rfl) ⟨_,by simp;rfl,hlt,?_,trivial⟩)
   simp[hps]
   exact pr (by simp)
  ·rw[if_neg hs] at hps
   refine WL.sreg (by simp[hs];rfl) (by simp;rfl) ?_
   refine WL.cond (t:=false) (by simp) (by simp) fun _=>WL.skip ?_
   refine WL.reg (RL.run (by simp[w];rfl) ⟨_,by simp;rfl,hlt,?_,trivial⟩)
   simp[hps]
 ·obtain rfl:i=l.length:=by omega
  refine WL.sreg (by simp;rfl) (by simp;rfl) ?_
  refine WL.seq (WL.cond (t:=false) (by simp) (by simp) fun _=>WL.exit ?_)
  have hlen:=za1 l l.length
  have hc:=y0h (key:=zbj l) (g:=92) (cs:=[sEv l]) (z9y l l.length) (za0 l _) (by omega) (fun a b ha hb=>by
   obtain⟨i,h1,h2,_⟩:=z9z ha
   obtain⟨j,h3,h4,_⟩:=z9z hb
   exact zq1 l a b ⟨i,h1,h2⟩ ⟨j,h3,h4⟩)
  refine w7 (RL.o (by simp;rfl) (RL.call true [(300,[])] hc (by simp) (by simp) (by simp[z31,y27]) (by simp[y3z]) (RL.nil ⟨_,by simp;rfl,?_⟩)))
  refine w7 (n5 (by decide) (RL.o (by simp;rfl) (RL.nil ⟨_,by simp;rfl,WL.ret ⟨.inr rfl,?_⟩⟩)))
  simp[x09,z0s,yoe]
def z7f (k code:Int):Bool:=if code=8 then decide (k=1) || decide (k=2) else if code=9 then decide (k=1) || (decide (k=2) || (decide (k=6) || decide (k=7))) else if code=10 then decide (k=2) else false
theorem zq2 (q:Op)(code:Int):FnC Try.prog 37 [] [zr1 false q,i64 code] [] (bl (z7f q.Kind code)):=by
 refine wb x1m rfl ?_
 refine WL.sreg (by simp;rfl) (by simp;rfl) ?_
 refine WL.seq (WL.sreg (by simp;rfl) (by simp;rfl) ?_)
 refine WL.block ?_
 by_cases c8:code=8
 ·refine WL.sreg (by simp[c8];rfl) (by simp;rfl) (WL.cond (t:=true) (by simp) (fun _=>?_) (by simp))
  by_cases k1:q.Kind=1
  ·refine WL.sreg (by simp[k1];rfl) (by simp;rfl) (WL.ret ⟨.inr rfl,?_⟩)
   simp[zsl,z7f,c8,k1]
  ·refine WL.sreg (by simp[beq_false_of_ne k1];rfl) (by simp;rfl) (WL.ret ⟨.inr rfl,?_⟩)
   by_cases k2:q.Kind=2<;>simp [zsl,z7f,c8,k1,k2]
 refine WL.sreg (by simp[beq_false_of_ne c8];rfl) (by simp;rfl) (WL.cond (t:=false) (by simp[c8]) (by simp) fun _=>?_)
 by_cases c9:code=9
 ·refine WL.sreg (by simp[c9];rfl) (by simp;rfl) (WL.cond (t:=true) (by simp) (fun _=>?_) (by simp))
  by_cases k1:q.Kind=1
  ·refine WL.sreg (by simp[k1];rfl) (by simp;rfl) (WL.ret ⟨.inr rfl,?_⟩)
   simp[zsl,z7f,c9,k1]
  ·by_cases k2:q.Kind=2
   ·refine WL.sreg (by simp[beq_false_of_ne k1,k2];rfl) (by simp;rfl) (WL.ret ⟨.inr rfl,?_⟩)
    simp[zsl,z7f,c9,k1,k2]
   ·by_cases k6:q.Kind=6
    ·refine WL.sreg (by simp[beq_false_of_ne k1,beq_false_of_ne k2,k6];rfl) (by simp;rfl) (WL.ret ⟨.inr rfl,?_⟩)
     simp[zsl,z7f,c9,k1,k2,k6]
    ·refine WL.sreg (by simp[beq_false_of_ne k1,beq_false_of_ne k2,beq_false_of_ne k6];rfl) (by simp;rfl) (WL.ret ⟨.inr rfl,?_⟩)
     by_cases k7:q.Kind=7<;>simp [zsl,z7f,c9,k1,k2,k6,k7]
 refine WL.sreg (by simp[beq_false_of_ne c9];rfl) (by simp;rfl) (WL.cond (t:=false) (by simp[c9]) (by simp) fun _=>?_)
 by_cases c10:code=10
 ·refine WL.sreg (by simp[c10];rfl) (by simp;rfl) (WL.cond (t:=true) (by simp) (fun _=>?_) (by simp))
  refine WL.sreg (by simp;rfl) (by simp;rfl) (WL.ret ⟨.inr rfl,?_⟩)
  by_cases k2:q.Kind=2<;>simp [zsl,z7f,c10,k2]
 refine WL.sreg (by simp[beq_false_of_ne c10];rfl) (by simp;rfl) (WL.cond (t:=false) (by simp[c10]) (by simp) fun _=>WL.skip ?_)
 refine WL.sreg (by simp;rfl) (by simp;rfl) (WL.ret ⟨.inr rfl,?_⟩)
 simp[zsl,z7f,c8,c9,c10]
def z4h (l:List Ev)(i:Nat)(e:Ev):Bool:=decide (0 < i) && decide (e.Begin < (l.getD (i - 1) e).Begin)
def z58 (l:List Ev)(i:Nat)(c:Int)(e:Ev):Bool:=decide (e.Client < 0) || (decide (c≤e.Client) || (decide (e.Begin < 1) || (z4h l i e || decide (e.End < 0))))
def z1s (e:Ev):Bool:=(decide (0 < e.End) && (decide (e.Stamp < e.Begin) || decide (e.End < e.Stamp))) || (decide (e.End=0) && (decide (e.Stamp ≠ 0) && decide (e.Stamp < e.Begin)))
def z2c (e o:Ev):Bool:=decide (o.Client=e.Client) && (decide (o.End < 1) || decide (e.Begin≤o.End))
def z28 (l:List Ev)(i:Nat)(c:Int)(e:Ev):Bool:=!z58 l i c e && (!z1s e && !(l.take i).any (z2c e))
def z1w (l:List Ev)(i:Nat)(c:Int):Bool:=match l[i]? with
 | some e=>z28 l i c e
 | none=>true
theorem z6a {l:List Ev}{i:Nat}(h:i < l.length)(c:Int):z1w l i c=z28 l i c l[i]:=by
 simp[z1w,h]
abbrev bxE (b:Nat)(e:Ev):SL:=[(100 * b,0,.bptr b 1 0),(100 * b+1,0,i64 e.Client),(100 * b+2,0,i64 e.op.Kind),(100 * b+3,0,i64 e.op.Page),(100 * b+4,0,i64 e.op.Handle),(100 * b+5,0,i64 e.op.Off),(100 * b+6,0,i64 e.op.N),(100 * b+7,0,sU false e.op.Data),(100 * b+8,0,i64 e.res.Code),(100 * b+9,0,i64 e.res.Page),(100 * b+10,0,i64 e.res.Handle),(100 * b+11,0,sU false e.res.Data),(100 * b+12,0,i64 e.Begin),(100 * b+13,0,i64 e.Stamp),(100 * b+14,0,i64 e.End),(100 * b+99,1,.non)]
abbrev tmS (l:List Ev)(i:Nat)(r:SL):SL:=[(0,0,sEv l),(100,0,i64 i)] ++ r
abbrev tmQ (v:Bool):Ex→SL→Prop:=fun e L=>e=Ex.ret∧RetOk z4n.rs [] (bl v) L
theorem zt9 (o r:Bool)(l:List Ev)(i:Nat):(l.flatMap (z02 o r)).take (i * 14)=(l.take i).flatMap (z02 o r):=by
 induction l generalizing i with
 | nil=>simp
 | cons a l ih =>
  cases i with
  | zero=>simp
  | succ i =>
   rw[sj,List.take_append,pr (by simp;omega),List.take_succ_cons,sj]
   congr 1
   have:(i+1) * 14 - (z02 o r a).length=i * 14:=by simp;omega
   rw[this,ih]
theorem z8g {α:Type}{p:α→Bool}{l:List α}{k:Nat}(h:k < l.length)(hp:(l.take k).any p=false)(hk:p l[k]=false):(l.take (k+1)).any p=false:=by
 rw[z6z h,List.any_append,hp]
 simp[hk]
theorem zgn {α:Type}{p:α→Bool}{l:List α}{k:Nat}(h:k < l.length)(hk:p l[k]=true):l.any p=true:=t6.2 ⟨_,qc h,hk⟩
abbrev tmT (m:List Ev)(e:Ev)(k:Nat):SL:=bxE 7 e ++ [(8500,0,sEv m),(8600,0,i64 m.length),(8700,0,i64 k)]
theorem zlk (l:List Ev)(hn:l.length≤1000)(i:Nat)(hi:i < l.length)(e:Ev):WL Try.prog z4n.nt zb9 (tmS l i (bxE 7 e ++ [(6700,0,bl false)])) (tmQ (!(l.take i).any (z2c e))):=by
 have hlen:=z2l false false l
 have htk:=zt9 false false l i
 have hmi:min i l.length=i:=by omega
 obtain⟨m,hm⟩:∃ m,m=l.take i:=⟨_,rfl⟩
 have hml:m.length=i:=by rw[hm,s8];omega
 refine WL.seq (WL.label ?_)
 refine WL.seq (WL.sreg (by simp[hi,Nat.le_of_lt hi,htk];rfl) (by simp;rfl) ?_)
 rw[← hm]
 refine WL.block (wd m.length (fun k=>tmT m e k) (fun k=>(m.take k).any (z2c e)=false) (by simp[hml]) (by simp) fun k hk hp=>?_)
 by_cases hlt:k < m.length
 ·have f1:=z0y (o:=false) (r:=false) hlt
  have g1:14≤m.length * 14 - k * 14:=by omega
  have w:IntKind.wrap .i64 ((k:Int)+1)=((k+1:Nat):Int):=by rw[z01 (by omega) (by omega)];omega
  refine WL.sreg (by simp[hlt];rfl) (by simp;rfl) ?_
  refine WL.seq (WL.cond (t:=true) (by simp[hlt]) (fun _=>WL.skip ?_) (by simp))
  refine WL.seq (WL.block (WL.sreg (by simp[hlt,f1,g1];rfl) (by simp;rfl) ?_))
  have next:∀ (h:z2c e m[k]=false),WL Try.prog z4n.nt zou (tmT m e k) (wg (fun L'=>k < m.length∧L'=tmT m e (k+1)∧(m.take (k+1)).any (z2c e)=false) (wm 1 (wg (fun L'=>WL Try.prog z4n.nt zov L' (tmQ (!m.any (z2c e)))) (tmQ (!m.any (z2c e)))))):=fun h=>by
   refine WL.reg (RL.run (by simp[w];rfl) ⟨_,by simp;rfl,hlt,?_,z8g hlt hp h⟩)
   simp
  have stop:∀ (h:z2c e m[k]=true) (L:SL),L=tmT m e k ++ [(10500,0,bl true)]→WL Try.prog z4n.nt zun (tmT m e k ++ [(10500,0,bl true)]) (tmQ (!m.any (z2c e))):=fun h L _=>by
   rw[zgn hlt h]
   refine WL.sreg (by simp;rfl) (by simp;rfl) (WL.ret ⟨rfl,?_⟩)
   simp[z4n]
  generalize ho:m[k]=o at next stop ⊢
  by_cases c1:o.Client=e.Client
  ·have c1':(o.Client != e.Client)=false:=by simp[c1]
   refine WL.seq (WL.sreg (by simp[c1'];rfl) (by simp;rfl) ?_)
   refine WL.cond (t:=false) (by simp) (by simp) fun _=>WL.skip ?_
   by_cases c2:o.End < 1
   ·refine WL.sreg (by simp[c2];rfl) (by simp;rfl) ?_
    refine WL.cond (t:=true) (by simp) (fun _=>?_) (by simp)
    refine WL.mono (Q':=tmQ (!m.any (z2c e))) ?_ fun x L h=>?_
    ·exact stop (by simp[z2c,c1,c2]) _ rfl
    ·obtain⟨rfl,h⟩:=h;exact⟨rfl,h⟩
   ·by_cases c3:e.Begin≤o.End
    ·refine WL.sreg (by simp[c2,c3];rfl) (by simp;rfl) ?_
     refine WL.cond (t:=true) (by simp) (fun _=>?_) (by simp)
     refine WL.mono (Q':=tmQ (!m.any (z2c e))) ?_ fun x L h=>?_
     ·exact stop (by simp[z2c,c1,c2,c3]) _ rfl
     ·obtain⟨rfl,h⟩:=h;exact⟨rfl,h⟩
    ·refine WL.sreg (by simp[c2,c3];rfl) (by simp;rfl) ?_
     refine WL.cond (t:=false) (by simp) (by simp) fun _=>WL.skip ?_
     have:=next (by simp[z2c,c1,c2,c3])
     refine WL.fin [105] (by simp;rfl) ?_
     exact this
  ·have c1':(o.Client != e.Client)=true:=by simp[c1]
   refine WL.seq (WL.sreg (by simp[c1'];rfl) (by simp;rfl) ?_)
   refine WL.cond (t:=true) (by simp) (fun _=>WL.exit ?_) (by simp)
   have:=next (by simp[z2c,c1])
   refine WL.fin [9,95] (by simp;rfl) ?_
   exact this
 ·obtain rfl:k=m.length:=by omega
  rw[List.take_length] at hp
  refine WL.sreg (by simp;rfl) (by simp;rfl) ?_
  refine WL.seq (WL.cond (t:=false) (by simp) (by simp) fun _=>WL.exit ?_)
  rw[hp]
  refine WL.sreg (by simp;rfl) (by simp;rfl) (WL.ret ⟨rfl,?_⟩)
  simp[z4n]
def z5o (r:Rs):Bool:=decide (r.Page=0) && (decide (r.Handle=0) && decide (r.Data=[]))
def z0d (s:St)(e:Ev):Bool × St :=
 if (decide (0 < e.End) && z7f e.op.Kind e.res.Code)=true then (z5o e.res,s) else (decide (e.End=0) || z1d (DoB s e.Client e.op).2.2 e.res,(DoB s e.Client e.op).2.1)
def z1z (s:St)(e:Ev):Option St :=
 if (decide (e.End=0) || z1d (DoB s e.Client e.op).2.2 e.res)=true then some (DoB s e.Client e.op).2.1
 else if (!z7f e.op.Kind e.res.Code || !z1d e.res (rsE e.res.Code))=true then none else some s
theorem zq3 (s:St)(c:Nat)(q:Op):(z4d s c q).2.Code=0:=by
 simp only[z4d]
 repeat' split
 all_goals rfl
theorem zq4 (s:St)(l:List Int)(q:Op):0≤z06 s l q∧z06 s l q≤7:=by
 simp only[z06]
 repeat' split
 all_goals decide
theorem zta (s:St)(cl:Int)(q:Op):0≤(DoB s cl q).2.2.Code∧(DoB s cl q).2.2.Code≤7:=by
 unfold DoB
 split
 ·simp[rsE]
 ·split
  ·rw[zq3];exact⟨by decide,by decide⟩
  ·exact zq4 _ _ _
theorem zq5 {k c:Int}(h:z7f k c=true):8≤c:=by
 unfold z7f at h
 split at h
 ·omega
 ·split at h
  ·omega
  ·split at h
   ·omega
   ·cases h
theorem zk2 (s:St)(e:Ev)(h0:0≤e.End):z1z s e=if (z0d s e).1=true then some (z0d s e).2 else none:=by
 have hc:=zta s e.Client e.op
 unfold z1z z0d
 by_cases p0:e.End=0
 ·have p1:¬ (0 < e.End):=by omega
  simp[p0]
 ·have p1:0 < e.End:=by omega
  cases hb:z7f e.op.Kind e.res.Code with
  | true =>
   have h8:=zq5 hb
   have hs:z1d (DoB s e.Client e.op).2.2 e.res=false:=by
    have:((DoB s e.Client e.op).2.2.Code == e.res.Code)=false:=beq_false_of_ne (by omega)
    simp[z1d,this]
   have hp:z1d e.res (rsE e.res.Code)=z5o e.res:=by
    simp[z1d,z5o,rsE]
    by_cases z1:e.res.Page=0<;>by_cases z2:e.res.Handle=0<;>by_cases z3:e.res.Data=[]<;>simp [z1,z2,z3]
   simp only[hs,hp,p0,p1,decide_true,decide_false,Bool.or_false,Bool.not_true,tw,ri,if_true]
   cases z5o e.res<;>simp
  | false =>
   simp only[p0,p1,decide_true,decide_false,Bool.and_false,Bool.not_false,Bool.true_or,tw,if_true,py,if_false]
def atE (l:List Ev)(x:Int):Ev:=(l[x.toNat]?).getD ⟨0,⟨0,0,0,0,0,[]⟩,⟨0,0,0,[]⟩,0,0,0⟩
theorem z3s {l:List Ev}{i:Nat}(h:i < l.length):atE l (i:Int)=l[i]:=by simp[atE,h]
def goW {σ:Type}(l:List Ev)(see:σ→Int→St→σ):St→σ→List Int→Int × St × σ
 | s,a,[]=>(0,s,a)
 | s,a,x :: r=>if (z0d s (atE l x)).1=true then goW l see (z0d s (atE l x)).2 (see a x (z0d s (atE l x)).2) r else (x+1,s,a)
theorem za3 {σ τ:Type}(l:List Ev)(f:σ→Int→St→σ)(g:τ→Int→St→τ):∀ (o:List Int) (s:St) (a:σ) (b:τ),(goW l f s a o).1=(goW l g s b o).1∧(goW l f s a o).2.1=(goW l g s b o).2.1
 | [],s,a,b=>⟨rfl,rfl⟩
 | x :: r,s,a,b=>by
  simp only[goW]
  split
  ·exact za3 l f g r _ _ _
  ·exact⟨rfl,rfl⟩
theorem zk3 (l:List Ev):∀ (o:List Int) (s:St),(goW l (fun _ _ t=>t) s s o).2.2=(goW l (fun _ _ t=>t) s s o).2.1
 | [],s=>rfl
 | x :: r,s=>by
  simp only[goW]
  split
  ·exact zk3 l r _
  ·rfl
def z4w (l:List Ev)(c:Int):Option Nat:=(List.range l.length).find? fun i=>!z1w l i c
theorem z40 {l:List Ev}{c:Int}{i:Nat}(hi:i < l.length)(h:∀ j,j < i→z1w l j c=true)(hb:z1w l i c=false):z4w l c=some i:=by
 unfold z4w
 rw[List.find?_range_eq_some]
 exact⟨by simp[hb],qw.2 hi,fun j hj=>by simp[h j hj]⟩
theorem z41 {l:List Ev}{c:Int}(h:∀ j,j < l.length→z1w l j c=true):z4w l c=none:=by
 unfold z4w
 rw[List.find?_eq_none]
 intro j hj
 simp[h j (qw.1 hj)]
theorem zgo {l:List Ev}{c:Int}(h:z4w l c=none):∀ j,j < l.length→z1w l j c=true:=by
 unfold z4w at h
 rw[List.find?_eq_none] at h
 intro j hj
 simpa using h j (qw.2 hj)
def z1g {σ:Type}(see:σ→Int→St→σ)(a:σ)(l:List Ev)(p c:Int):Int × St × σ :=
 if z0u p c=true then (-1,z0r p c,a) else match z4w l c with
  | some i=>(i+1,z0r p c,a)
  | none=>goW l see (z0r p c) a (z0s l)
def z6b:Unit→Int→St→Unit:=fun _ _ _=>()
def z6t (l:List Ev)(p c:Int):Int:=(z1g z6b () l p c).1
def zbn (l:List Ev)(p c:Int):St × Bool:=if z6t l p c=0 then ((z1g z6b () l p c).2.1,true) else (⟨[],[],[]⟩,false)
theorem z59 {σ:Type}(see:σ→Int→St→σ)(a:σ)(l:List Ev)(p c:Int):(z1g see a l p c).1=z6t l p c:=by
 unfold z6t z1g
 split
 ·rfl
 ·split
  ·rfl
  ·exact (za3 l see z6b _ _ a ()).1
theorem zll (l:List Ev)(p c:Int):(z1g (fun _ _ t=>t) (z0r p c) l p c).2.2=(z1g z6b () l p c).2.1:=by
 unfold z1g
 split
 ·rfl
 ·split
  ·rfl
  ·rw[zk3];exact (za3 l _ z6b _ _ _ ()).2
theorem z37 {s:St}(h:OkSt s)(e:Ev):OkSt (z0d s e).2:=by
 unfold z0d
 split
 ·exact h
 ·exact h.doB _ _
structure EvOk (l:List Ev):Prop where
 n:l.length≤1000
 d:∀ e ∈ l,e.op.Data.length≤1000
theorem zgp (q:Op)(code:Int):FnC Try.prog 38 [] [zr1 false q,i64 code] [] (bl (z7f q.Kind code)):=by
 refine wb x1n rfl ?_
 refine WL.sreg (by simp;rfl) (by simp;rfl) ?_
 refine WL.seq (WL.sreg (by simp;rfl) (by simp;rfl) ?_)
 refine WL.block ?_
 by_cases c8:code=8
 ·refine WL.sreg (by simp[c8];rfl) (by simp;rfl) (WL.cond (t:=true) (by simp) (fun _=>?_) (by simp))
  by_cases k1:q.Kind=1
  ·refine WL.sreg (by simp[k1];rfl) (by simp;rfl) (WL.ret ⟨.inr rfl,?_⟩)
   simp[zsm,z7f,c8,k1]
  ·refine WL.sreg (by simp[beq_false_of_ne k1];rfl) (by simp;rfl) (WL.ret ⟨.inr rfl,?_⟩)
   by_cases k2:q.Kind=2<;>simp [zsm,z7f,c8,k1,k2]
 refine WL.sreg (by simp[beq_false_of_ne c8];rfl) (by simp;rfl) (WL.cond (t:=false) (by simp[c8]) (by simp) fun _=>?_)
 by_cases c9:code=9
 ·refine WL.sreg (by simp[c9];rfl) (by simp;rfl) (WL.cond (t:=true) (by simp) (fun _=>?_) (by simp))
  by_cases k1:q.Kind=1
  ·refine WL.sreg (by simp[k1];rfl) (by simp;rfl) (WL.ret ⟨.inr rfl,?_⟩)
   simp[zsm,z7f,c9,k1]
  ·by_cases k2:q.Kind=2
   ·refine WL.sreg (by simp[beq_false_of_ne k1,k2];rfl) (by simp;rfl) (WL.ret ⟨.inr rfl,?_⟩)
    simp[zsm,z7f,c9,k1,k2]
   ·by_cases k6:q.Kind=6
    ·refine WL.sreg (by simp[beq_false_of_ne k1,beq_false_of_ne k2,k6];rfl) (by simp;rfl) (WL.ret ⟨.inr rfl,?_⟩)
     simp[zsm,z7f,c9,k1,k2,k6]
    ·refine WL.sreg (by simp[beq_false_of_ne k1,beq_false_of_ne k2,beq_false_of_ne k6];rfl) (by simp;rfl) (WL.ret ⟨.inr rfl,?_⟩)
     by_cases k7:q.Kind=7<;>simp [zsm,z7f,c9,k1,k2,k6,k7]
 refine WL.sreg (by simp[beq_false_of_ne c9];rfl) (by simp;rfl) (WL.cond (t:=false) (by simp[c9]) (by simp) fun _=>?_)
 by_cases c10:code=10
 ·refine WL.sreg (by simp[c10];rfl) (by simp;rfl) (WL.cond (t:=true) (by simp) (fun _=>?_) (by simp))
  refine WL.sreg (by simp;rfl) (by simp;rfl) (WL.ret ⟨.inr rfl,?_⟩)
  by_cases k2:q.Kind=2<;>simp [zsm,z7f,c10,k2]
 refine WL.sreg (by simp[beq_false_of_ne c10];rfl) (by simp;rfl) (WL.cond (t:=false) (by simp[c10]) (by simp) fun _=>WL.skip ?_)
 refine WL.sreg (by simp;rfl) (by simp;rfl) (WL.ret ⟨.inr rfl,?_⟩)
 simp[zsm,z7f,c8,c9,c10]
abbrev spS (s:St)(e:Ev)(r:SL):SL:=[(200,0,.bptr 2 1 0),(201,0,.view 1000000 0 [] 0 s.There.length),(202,0,.view 1000100 0 [] 0 s.Body.length),(203,0,.view 1000200 0 [] 0 s.Handles.length),(299,1,.non)] ++ (bxE 3 e ++ (r ++ ghT s))
abbrev spQ (s':St)(v:Bool):Ex→SL→Prop:=fun e L=>e=Ex.ret∧RetOk zuj.rs (gsT s') (bl v) L
theorem zlm (s:St)(h:OkSt s)(e:Ev)(hD:e.op.Data.length≤1000):WL Try.prog zuj.nt yfm (spS s e [(1600,0,bl false)]) (spQ (DoB s e.Client e.op).2.1 (decide (e.End=0) || z1d (DoB s e.Client e.op).2.2 e.res)):=by
 have hdo:=z8f s h e.Client e.op (by unfold z0c;omega)
 generalize DoB s e.Client e.op=dd at hdo ⊢
 obtain⟨o',t,r⟩:=dd
 simp only at hdo ⊢
 refine w7 (RL.o (by simp;rfl) ?_)
 refine RL.call true [(1000000,[]),(1000100,[]),(1000200,[])] hdo (by simp) (by simp) (by simp[z31]) (zbi s t r) ?_
 refine RL.o (by simp;rfl) (RL.nil ⟨_,by simp;rfl,?_⟩)
 by_cases p:e.End=0
 ·have z:(e.End == 0)=true:=by simp[p]
  refine w7 (RL.o (by simp[z];rfl) (RL.g (by simp;rfl) (RL.callN (by simp) (RL.o (by simp;rfl) (RL.nil ⟨_,by simp;rfl,WL.ret ⟨rfl,?_⟩⟩)))))
  simp[zuj,p]
 ·have z:(e.End == 0)=false:=beq_false_of_ne p
  refine w7 (RL.o (by simp[z];rfl) (RL.g (by simp;rfl) (RL.callY0 true (by simp) (zom r e.res) (by simp) (by simp) (RL.o (by simp;rfl) (RL.nil ⟨_,by simp;rfl,WL.ret ⟨rfl,?_⟩⟩)))))
  simp[zuj,p]
theorem zln (s:St)(h:OkSt s)(e:Ev)(hD:e.op.Data.length≤1000):FnC Try.prog 90 (gsT s) [vwT s,.agg (z02 false false e)] (gsT (z0d s e).2) (bl (z0d s e).1):=by
 refine wb x1s rfl ?_
 refine WL.mono (Q':=spQ (z0d s e).2 (z0d s e).1) ?_ fun x L h=>⟨.inr h.1,h.2⟩
 refine w7 (n8 (by simp;rfl) (by simp) (by simp[zes]) (by simp) (RL.o (by simp;rfl) (RL.nil ⟨_,by simp;rfl,?_⟩)))
 have hdo:=zlm s h e hD
 refine WL.seq ?_
 by_cases p:0 < e.End
 ·have hb:=zgp e.op e.res.Code
  cases hbad:z7f e.op.Kind e.res.Code with
  | false =>
   rw[hbad] at hb
   refine w7 (RL.o (by simp[p];rfl) (RL.g (by simp;rfl) (RL.callY0 false (by simp) hb (by simp) (by simp) (RL.o (by simp;rfl) (RL.nil ⟨_,by simp;rfl,?_⟩)))))
   refine WL.cond (t:=false) (by simp) (by simp) fun _=>WL.skip ?_
   simpa [z0d,p,hbad] using hdo
  | true =>
   rw[hbad] at hb
   refine w7 (RL.o (by simp[p];rfl) (RL.g (by simp;rfl) (RL.callY0 false (by simp) hb (by simp) (by simp) (RL.o (by simp;rfl) (RL.nil ⟨_,by simp;rfl,?_⟩)))))
   refine WL.cond (t:=true) (by simp) (fun _=>?_) (by simp)
   by_cases z1:e.res.Page=0
   ·have y1:(e.res.Page == 0)=true:=by simp[z1]
    by_cases z2:e.res.Handle=0
    ·have y2:(e.res.Handle == 0)=true:=by simp[z2]
     refine WL.sreg (by simp[y1,y2];rfl) (by simp;rfl) (WL.ret ⟨rfl,?_⟩)
     by_cases z3:e.res.Data=[]<;>simp [zuj,z0d,z5o,p,hbad,z1,z2,z3]
    ·have y2:(e.res.Handle == 0)=false:=beq_false_of_ne z2
     refine WL.sreg (by simp[y1,y2];rfl) (by simp;rfl) (WL.ret ⟨rfl,?_⟩)
     simp[zuj,z0d,z5o,p,hbad,z1,z2]
   ·have y1:(e.res.Page == 0)=false:=beq_false_of_ne z1
    refine WL.sreg (by simp[y1];rfl) (by simp;rfl) (WL.ret ⟨rfl,?_⟩)
    simp[zuj,z0d,z5o,p,hbad,z1]
 ·refine w7 (RL.o (by simp[p];rfl) (RL.g (by simp;rfl) (RL.callN (by simp) (RL.o (by simp;rfl) (RL.nil ⟨_,by simp;rfl,?_⟩)))))
  refine WL.cond (t:=false) (by simp) (by simp) fun _=>WL.skip ?_
  simpa [z0d,p] using hdo
@[simp] theorem ym9 (L:SL) (d:Nat) (c:COd):z65 L (.asg d c)=true:=rfl
theorem zq6 (key:Int→Int)(x:Int):∀ (l:List Int) (k:Nat),k≤l.length→(∀ j (h:j < l.length),j < k→¬ key x < key l[j])→(∀ (h:k < l.length),key x < key l[k])→zgy key x l=l.take k ++ x :: l.drop k
 | [],k,hk,_,_=>by simp[zgy]
 | y :: r,0,_,_,h2=>by
  have:=h2 (by simp)
  simp only[List.getElem_cons_zero] at this
  simp[zgy,this]
 | y :: r,k+1,hk,h1,h2=>by
  have:=h1 0 (by simp) (by omega)
  simp only[List.getElem_cons_zero] at this
  have ih:=zq6 key x r k (by simpa using hk) (fun j hj hjk=>by have:=h1 (j+1) (by simpa using hj) (by omega);simpa using this) (fun h=>by have:=h2 (by simpa using h);simpa using this)
  simp[zgy,this,ih]
abbrev yzf (l:List Ev)(i:Nat)(r:SL):SL:=[(0,0,sEv l),(300,0,sI true (zbb (zbj l) (z9y l i))),(400,0,i64 i)] ++ r
theorem zi8 {key:Int→Int}{O:List Int}(h:O.Pairwise (lexLt key)){j k:Nat}(hj:j≤k)(hk:k < O.length):key O[j]≤key O[k]:=by
 by_cases e:j=k
 ·subst e;exact Int.le_refl _
 ·have:=List.pairwise_iff_getElem.1 h j k (by omega) hk (by omega)
  unfold lexLt at this;omega
theorem zi9 (l:List Ev)(hn:l.length≤1000)(i:Nat)(hi:i < l.length)(hs:0 < l[i].Stamp)(Q:Ex→SL→Prop)(hq:Q .nrm [(0,0,sEv l),(300,0,sI true (zbb (zbj l) (z9y l (i+1)))),(400,0,i64 i)]) :
  WL Try.prog yoc.nt ye0 (yzf l i [(1800,0,bl false)]) Q:=by
 obtain⟨sp1,sp2⟩:=z68 (zbj l) (za0 l i)
 have hnx:zbb (zbj l) (z9y l (i+1))=zgy (zbj l) i (zbb (zbj l) (z9y l i)):=by
  rw[zbk,show (l.map (·.Stamp)).getD i 0=l[i].Stamp by simp[hi],if_pos hs,zp3]
 have hOl:(zbb (zbj l) (z9y l i)).length≤i:=by rw[sp1.length_eq];exact za1 l i
 have hmem:∀ j (h:j < (zbb (zbj l) (z9y l i)).length),∃ u:Nat,u < l.length∧(zbb (zbj l) (z9y l i))[j]=(u:Int):=fun j h=>by
  obtain⟨u,h1,h2,_⟩:=z9z (sp1.subset (qc h))
  exact⟨u,by omega,h2⟩
 have hki:zbj l (i:Int)=l[i].Stamp:=zec hi
 have f1:=z0y (o:=false) (r:=false) hi
 have g1:14≤l.length * 14 - i * 14:=by omega
 unfold yzf
 rw[hnx] at hq
 generalize zbb (zbj l) (z9y l i)=O at sp1 sp2 hOl hmem hq ⊢
 refine WL.sreg (by simp;rfl) (by simp;rfl) ?_
 refine WL.seq (WL.block (WL.loop (ι:={k:Nat // k≤O.length∧∀ j (h:j < O.length),k≤j→l[i].Stamp < zbj l O[j]}) (fun k=>[(0,0,sEv l),(300,0,sI true O),(400,0,i64 i),(500,0,i64 k.1)]) (fun k=>k.1) ⟨O.length,qa _,fun j h h'=>by omega⟩ (by simp) fun x=>?_))
 obtain⟨k,hk,hgt⟩:=x
 simp only
 have fin:(∀ j (h:j < O.length),j < k→¬ l[i].Stamp < zbj l O[j])→WL Try.prog yoc.nt ydz [(0,0,sEv l),(300,0,sI true O),(400,0,i64 i),(500,0,i64 k)] Q:=fun hle=>by
  rw[zq6 (zbj l) i O k hk (fun j h h'=>by rw[hki];exact hle j h h') (fun h=>by rw[hki];exact hgt k h (qa _))] at hq
  have e1:min k O.length=k:=by omega
  have m1:k * 8≤140737488355328:=by omega
  have m2:k≤maxLen:=by unfold maxLen;omega
  have m3:(k+1) * 8≤140737488355328:=by omega
  have m4:k+1≤maxLen:=by unfold maxLen;omega
  have e2:k+1+(O.length - k)=O.length+1:=by omega
  have m5:(O.length+1) * 8≤140737488355328:=by omega
  have m6:O.length+1≤maxLen:=by unfold maxLen;omega
  have p1:(List.take k (List.map i64 O)).all z1k=true:=qh.2 fun x hx=>by
   obtain⟨y,_,rfl⟩:=s7.1 (t8 hx)
   rfl
  have p2:(List.take (O.length - k) (List.drop k (List.map i64 O))).all z1k=true:=qh.2 fun x hx=>by
   obtain⟨y,_,rfl⟩:=s7.1 (List.mem_of_mem_drop (t8 hx))
   rfl
  refine WL.sreg (by simp[hk,e1,m1,m2,p1];rfl) (by simp;rfl) ?_
  refine WL.draw z0p (by simp[z05,noH]) (DL.run (by simp[hk,e1,e2,m1,m2,m3,m4,m5,m6,p1,p2];exact⟨rfl,rfl⟩) ⟨by kernel_rfl,_,by simp;rfl,?_⟩)
  have e3:List.take k (List.map i64 O)=(O.take k).map i64:=List.map_take.symm
  have e4:List.take (O.length - k) (List.drop k (List.map i64 O))=(O.drop k).map i64:=by rw[← sr,pr (by simp)]
  have e5:(List.take k O ++ (i:Int) :: List.drop k O).length=O.length+1:=by simp;omega
  have e6:List.take k (List.take k (List.take k (List.map i64 O)))=(O.take k).map i64:=by rw[List.take_take,List.take_take,Nat.min_self,Nat.min_self,e3]
  have eL:List.take (O.length+1) (List.take (k+1) (List.take k (List.take k (List.take k (List.map i64 O))) ++ [AV.sc (Value.int IntKind.i64 ↑i)]) ++ List.take (O.length - k) (List.drop k (List.map i64 O)))=(List.take k O ++ (i:Int) :: List.drop k O).map i64:=by
   rw[e6,e4,pr (l:=List.map i64 (List.take k O) ++ _) (by simp;omega),pr (by simp;omega)]
   simp
  rw[eL,← e5]
  exact hq
 by_cases hk0:0 < k
 ·obtain⟨p,hp⟩:∃ p,p=k - 1:=⟨_,rfl⟩
  have w:IntKind.wrap .i64 ((k:Int) - 1)=(p:Int):=by rw[z01 (by omega) (by omega)];omega
  have hpl:p < O.length:=by omega
  have hpl':p+1≤O.length:=hpl
  obtain⟨u,hu,eu⟩:=hmem p hpl
  have f2:=z0y (o:=false) (r:=false) hu
  have g2:14≤l.length * 14 - u * 14:=by omega
  have hku:zbj l O[p]=l[u].Stamp:=by rw[eu];exact zec hu
  refine WL.seq (WL.seq ?_)
  by_cases hc:l[i].Stamp < l[u].Stamp
  ·refine WL.draw z0p (by simp[z05,noH]) (DL.run (by simp[hk0,w,hpl,hpl',eu,hu,hi,f1,f2,g1,g2,hc];exact⟨rfl,rfl⟩) ⟨by kernel_rfl,_,by simp;rfl,?_⟩)
   refine WL.cond (t:=true) (by simp) (fun _=>WL.skip ?_) (by simp)
   refine WL.block (WL.reg (RL.run (by simp[w];rfl) ⟨_,by simp;rfl,?_⟩))
   refine⟨⟨p,by omega,fun j h h'=>?_⟩,by simp,by simp only;omega⟩
   by_cases e:j=p
   ·subst e;rw[hku];exact hc
   ·exact hgt j h (by omega)
  ·refine WL.draw z0p (by simp[z05,noH]) (DL.run (by simp[hk0,w,hpl,hpl',eu,hu,hi,f1,f2,g1,g2,hc];exact⟨rfl,rfl⟩) ⟨by kernel_rfl,_,by simp;rfl,?_⟩)
   refine WL.cond (t:=false) (by simp) (by simp) fun _=>WL.exit ?_
   refine WL.fin [39] (by simp;rfl) ?_
   refine fin fun j h h'=>?_
   have:=zi8 sp2 (j:=j) (k:=p) (by omega) hpl
   rw[hku] at this
   omega
 ·obtain rfl:k=0:=by omega
  refine WL.seq (WL.seq ?_)
  refine WL.draw z0p (by simp[z05,noH]) (DL.run (by simp;exact⟨rfl,rfl⟩) ⟨by kernel_rfl,_,by simp;rfl,?_⟩)
  refine WL.cond (t:=false) (by simp) (by simp) fun _=>WL.exit ?_
  refine WL.fin [39] (by simp;rfl) ?_
  exact fin fun j h h'=>by omega
theorem z4i (l:List Ev)(hn:l.length≤1000):FnC Try.prog 34 [] [sEv l] [] (sI true (z0s l)):=by
 refine wb x1k rfl ?_
 refine WL.sreg (by simp;rfl) (by simp;rfl) ?_
 refine WL.sreg (by simp;rfl) (by simp;rfl) ?_
 refine WL.seq (WL.sreg (by simp;rfl) (by simp;rfl) ?_)
 refine WL.block (wd l.length (fun i=>yzf l i []) (fun _=>True) (by simp[z9y,zbb]) trivial fun i hi _=>?_)
 by_cases hlt:i < l.length
 ·have f1:=z0y (o:=false) (r:=false) hlt
  have g1:14≤l.length * 14 - i * 14:=by omega
  have w:IntKind.wrap .i64 ((i:Int)+1)=((i+1:Nat):Int):=by rw[z01 (by omega) (by omega)];omega
  refine WL.seq (WL.sreg (by simp[hlt];rfl) (by simp;rfl) ?_)
  refine WL.cond (t:=true) (by simp[hlt]) (fun _=>WL.skip ?_) (by simp)
  by_cases hs:l[i].Stamp≤0
  ·have hps:=zbk l i
   rw[show (l.map (·.Stamp)).getD i 0=l[i].Stamp by simp[hlt],if_neg (by omega),List.append_nil] at hps
   refine WL.seq (WL.block (WL.seq (WL.sreg (by simp[hlt,f1,g1,hs];rfl) (by simp;rfl) ?_)))
   refine WL.cond (t:=true) (by simp) (fun _=>WL.exit ?_) (by simp)
   refine WL.fin [18] (by simp;rfl) ?_
   refine WL.reg (RL.run (by simp[w];rfl) ⟨_,by simp;rfl,hlt,?_,trivial⟩)
   simp[hps]
  ·refine WL.seq (WL.block (WL.seq (WL.sreg (by simp[hlt,f1,g1,hs];rfl) (by simp;rfl) ?_)))
   refine WL.cond (t:=false) (by simp) (by simp) fun _=>WL.skip ?_
   refine zi9 l hn i hlt (by omega) _ ?_
   refine WL.reg (RL.run (by simp[w];rfl) ⟨_,by simp;rfl,hlt,?_,trivial⟩)
   simp
 ·obtain rfl:i=l.length:=by omega
  refine WL.seq (WL.sreg (by simp;rfl) (by simp;rfl) ?_)
  refine WL.cond (t:=false) (by simp) (by simp) fun _=>WL.exit ?_
  refine w7 (n5 (by decide) (RL.o (by simp;rfl) (RL.nil ⟨_,by simp;rfl,WL.ret ⟨.inr rfl,?_⟩⟩)))
  simp[yoc,z0s,yoe]
abbrev alQ (v:Bool):Ex→SL→Prop:=fun e L=>e=Ex.ret∧RetOk zg9.rs [] (bl v) L
abbrev alT (l:List Ev)(i:Nat)(e:Ev)(k:Nat):SL:=[(0,0,sEv l),(100,0,i64 i)] ++ (bxE 7 e ++ [(800,0,i64 k)])
theorem zlo (l:List Ev)(hn:l.length≤1000)(i:Nat)(hi:i < l.length)(e:Ev)(x:Nat)(hx:x=56∨x=71):WL Try.prog zg9.nt zor (tmS l i (bxE 7 e ++ [(100 * x,0,bl false)])) (alQ (!(l.take i).any (z2c e))):=by
 have hmi:min i l.length=i:=by omega
 refine WL.seq (ww (alT l i e 0) ?_ ?_)
 ·rcases hx with rfl | rfl
  ·exact na (by simp)
  ·exact na (by simp)
 refine WL.block (wd i (fun k=>alT l i e k) (fun k=>(l.take k).any (z2c e)=false) rfl (by simp) fun k hk hp=>?_)
 by_cases hlt:k < i
 ·have hkl:k < l.length:=by omega
  have f1:=z0y (o:=false) (r:=false) hkl
  have g1:14≤l.length * 14 - k * 14:=by omega
  have w:IntKind.wrap .i64 ((k:Int)+1)=((k+1:Nat):Int):=by rw[z01 (by omega) (by omega)];omega
  refine WL.seq (WL.sreg (by simp[hlt];rfl) (by simp;rfl) ?_)
  refine WL.cond (t:=true) (by simp[hlt]) (fun _=>WL.skip ?_) (by simp)
  have hin:z2c e l[k]=true→(l.take i).any (z2c e)=true:=fun h=>by
   have hk':k < (l.take i).length:=by rw[s8];omega
   exact zgn hk' (by simpa using h)
  have nx:=fun (h:z2c e l[k]=false)=>z8g hkl hp h
  refine WL.seq (WL.block (WL.seq ?_))
  by_cases c1:l[k].Client=e.Client
  ·have z1:(l[k].Client == e.Client)=true:=by simp[c1]
   by_cases c2:l[k].End≤0
   ·have hv:=hin (by simp[z2c,c1];left;omega)
    refine WL.draw z0p (by simp[z05,noH]) (DL.run (by simp[hlt,hkl,f1,g1,z1,c2];exact⟨rfl,rfl⟩) ⟨by kernel_rfl,_,by simp;rfl,?_⟩)
    refine WL.cond (t:=true) (by simp) (fun _=>?_) (by simp)
    refine WL.sreg (by simp;rfl) (by simp;rfl) (WL.ret ⟨rfl,?_⟩)
    simp[zg9,hv]
   ·by_cases c3:e.Begin≤l[k].End
    ·have hv:=hin (by simp[z2c,c1,c3])
     refine WL.draw z0p (by simp[z05,noH]) (DL.run (by simp[hlt,hkl,f1,g1,z1,c2,c3];exact⟨rfl,rfl⟩) ⟨by kernel_rfl,_,by simp;rfl,?_⟩)
     refine WL.cond (t:=true) (by simp) (fun _=>?_) (by simp)
     refine WL.sreg (by simp;rfl) (by simp;rfl) (WL.ret ⟨rfl,?_⟩)
     simp[zg9,hv]
    ·have hv:=nx (by simp[z2c,c1,c3];omega)
     refine WL.draw z0p (by simp[z05,noH]) (DL.run (by simp[hlt,hkl,f1,g1,z1,c2,c3];exact⟨rfl,rfl⟩) ⟨by kernel_rfl,_,by simp;rfl,?_⟩)
     refine WL.cond (t:=false) (by simp) (by simp) fun _=>WL.skip ?_
     refine WL.reg (RL.run (by simp[w];rfl) ⟨_,by simp;rfl,hlt,?_,hv⟩)
     simp
  ·have z1:(l[k].Client == e.Client)=false:=beq_false_of_ne c1
   have hv:=nx (by simp[z2c,c1])
   refine WL.draw z0p (by simp[z05,noH]) (DL.run (by simp[hlt,hkl,f1,g1,z1];exact⟨rfl,rfl⟩) ⟨by kernel_rfl,_,by simp;rfl,?_⟩)
   refine WL.cond (t:=false) (by simp) (by simp) fun _=>WL.skip ?_
   refine WL.reg (RL.run (by simp[w];rfl) ⟨_,by simp;rfl,hlt,?_,hv⟩)
   simp
 ·obtain rfl:k=i:=by omega
  refine WL.seq (WL.sreg (by simp;rfl) (by simp;rfl) ?_)
  refine WL.cond (t:=false) (by simp) (by simp) fun _=>WL.exit ?_
  rw[hp]
  refine WL.sreg (by simp;rfl) (by simp;rfl) (WL.ret ⟨rfl,?_⟩)
  simp[zg9]
theorem zlp (l:List Ev)(i:Nat)(e:Ev)(v:Bool)(hs:(z1s e || decide (e.End < 0))=true→v=false)(hl:(z1s e || decide (e.End < 0))=false→∀ x,x=56∨x=71→WL Try.prog zg9.nt zor (tmS l i (bxE 7 e ++ [(100 * x,0,bl false)])) (alQ v)) :
  WL Try.prog zg9.nt zos (tmS l i (bxE 7 e ++ [(4100,0,bl false)])) (alQ v):=by
 refine WL.seq ?_
 by_cases p1:0 < e.End
 ·refine WL.sreg (by simp[p1];rfl) (by simp;rfl) ?_
  refine WL.cond (t:=true) (by simp) (fun _=>?_) (by simp)
  by_cases p2:e.Stamp < e.Begin
  ·have hv:=hs (by simp[z1s,p1,p2])
   refine WL.sreg (by simp[p2];rfl) (by simp;rfl) ?_
   refine WL.cond (t:=true) (by simp) (fun _=>?_) (by simp)
   refine WL.sreg (by simp;rfl) (by simp;rfl) (WL.ret ⟨rfl,?_⟩)
   simp[zg9,hv]
  ·by_cases p3:e.End < e.Stamp
   ·have hv:=hs (by simp[z1s,p1,p2,p3])
    refine WL.sreg (by simp[p2,p3];rfl) (by simp;rfl) ?_
    refine WL.cond (t:=true) (by simp) (fun _=>?_) (by simp)
    refine WL.sreg (by simp;rfl) (by simp;rfl) (WL.ret ⟨rfl,?_⟩)
    simp[zg9,hv]
   ·refine WL.sreg (by simp[p2,p3];rfl) (by simp;rfl) ?_
    refine WL.cond (t:=false) (by simp) (by simp) fun _=>WL.skip ?_
    exact hl (by simp[z1s,p1,p2,p3];omega) 56 (.inl rfl)
 ·refine WL.sreg (by simp[p1];rfl) (by simp;rfl) ?_
  refine WL.cond (t:=false) (by simp) (by simp) fun _=>?_
  by_cases p0:e.End < 0
  ·have hv:=hs (by simp[p0])
   refine WL.sreg (by simp[p0];rfl) (by simp;rfl) ?_
   refine WL.cond (t:=true) (by simp) (fun _=>?_) (by simp)
   refine WL.sreg (by simp;rfl) (by simp;rfl) (WL.ret ⟨rfl,?_⟩)
   simp[zg9,hv]
  ·have pz:e.End=0:=by omega
   by_cases p2:e.Stamp=0
   ·have z2:(e.Stamp != 0)=false:=by simp[p2]
    refine WL.sreg (by simp[p0,z2];rfl) (by simp;rfl) ?_
    refine WL.cond (t:=false) (by simp) (by simp) fun _=>WL.skip ?_
    exact hl (by simp[z1s,p1,p0,p2]) 71 (.inr rfl)
   ·have z2:(e.Stamp != 0)=true:=by simp[p2]
    by_cases p3:e.Stamp < e.Begin
    ·have hv:=hs (by simp[z1s,pz,p2,p3])
     refine WL.sreg (by simp[p0,z2,p3];rfl) (by simp;rfl) ?_
     refine WL.cond (t:=true) (by simp) (fun _=>?_) (by simp)
     refine WL.sreg (by simp;rfl) (by simp;rfl) (WL.ret ⟨rfl,?_⟩)
     simp[zg9,hv]
    ·refine WL.sreg (by simp[p0,z2,p3];rfl) (by simp;rfl) ?_
     refine WL.cond (t:=false) (by simp) (by simp) fun _=>WL.skip ?_
     exact hl (by simp[z1s,p1,p0,p2,p3]) 71 (.inr rfl)
theorem ztb (l:List Ev)(hn:l.length≤1000)(i:Nat)(hi:i < l.length)(c:Int):FnC Try.prog 94 [] [sEv l,i64 i,i64 c] [] (bl (z1w l i c)):=by
 rw[z6a hi]
 have f1:=z0y (o:=false) (r:=false) hi
 have g1:14≤l.length * 14 - i * 14:=by omega
 refine wb x1w rfl ?_
 refine WL.mono (Q':=alQ (z28 l i c l[i])) ?_ fun x L h=>⟨.inr h.1,h.2⟩
 refine WL.sreg (by simp;rfl) (by simp;rfl) ?_
 refine WL.sreg (by simp[hi,f1,g1];rfl) (by simp;rfl) ?_
 have loop:=zlo l hn i hi l[i]
 generalize l[i]=e at loop ⊢
 clear f1 g1
 have rest:z58 l i c e=(decide (e.End < 0))→WL Try.prog zg9.nt zos (tmS l i (bxE 7 e ++ [(4100,0,bl false)])) (alQ (z28 l i c e)):=fun hb =>
  zlp l i e _ (fun h=>by
   rcases (by simpa only [qr] using h:z1s e=true∨decide (e.End < 0)=true) with h | h
   ·simp[z28,h]
   ·simp[z28,hb,h]) (fun h x hx=>by
   obtain⟨h1,h2⟩:=qm.1 h
   simpa [z28,hb,h1,h2] using loop x hx)
 refine WL.seq (WL.seq ?_)
 by_cases q1:e.Client < 0
 ·refine WL.draw z0p (by simp[z05,noH]) (DL.run (by simp[q1];exact⟨rfl,rfl⟩) ⟨by kernel_rfl,_,by simp;rfl,?_⟩)
  refine WL.cond (t:=true) (by simp) (fun _=>?_) (by simp)
  refine WL.sreg (by simp;rfl) (by simp;rfl) (WL.ret ⟨rfl,?_⟩)
  simp[zg9,z28,z58,z4h,q1]
 by_cases q2:c≤e.Client
 ·refine WL.draw z0p (by simp[z05,noH]) (DL.run (by simp[q1,q2];exact⟨rfl,rfl⟩) ⟨by kernel_rfl,_,by simp;rfl,?_⟩)
  refine WL.cond (t:=true) (by simp) (fun _=>?_) (by simp)
  refine WL.sreg (by simp;rfl) (by simp;rfl) (WL.ret ⟨rfl,?_⟩)
  simp[zg9,z28,z58,z4h,q1,q2]
 by_cases q3:e.Begin≤0
 ·have q3x:e.Begin < 1:=by omega
  refine WL.draw z0p (by simp[z05,noH]) (DL.run (by simp[q1,q2,q3,q3x];exact⟨rfl,rfl⟩) ⟨by kernel_rfl,_,by simp;rfl,?_⟩)
  refine WL.cond (t:=true) (by simp) (fun _=>?_) (by simp)
  refine WL.sreg (by simp;rfl) (by simp;rfl) (WL.ret ⟨rfl,?_⟩)
  simp[zg9,z28,z58,z4h,q1,q2,q3,q3x]
 have q3x:¬ e.Begin < 1:=by omega
 by_cases q4:0 < i
 ·obtain⟨j,hj⟩:∃ j,j=i - 1:=⟨_,rfl⟩
  have w:IntKind.wrap .i64 ((i:Int) - 1)=(j:Int):=by rw[z01 (by omega) (by omega)];omega
  have hjl:j < l.length:=by omega
  have f2:=z0y (o:=false) (r:=false) hjl
  have g2:14≤l.length * 14 - j * 14:=by omega
  have hgd:l.getD j e=l[j]:=by simp[hjl]
  by_cases q5:e.Begin < l[j].Begin
  ·refine WL.draw z0p (by simp[z05,noH]) (DL.run (by simp[q1,q2,q3,q4,q5,w,hjl,f2,g2,← hj,hgd];exact⟨rfl,rfl⟩) ⟨by kernel_rfl,_,by simp;rfl,?_⟩)
   refine WL.cond (t:=true) (by simp) (fun _=>?_) (by simp)
   refine WL.sreg (by simp;rfl) (by simp;rfl) (WL.ret ⟨rfl,?_⟩)
   simp[zg9,z28,z58,z4h,q1,q2,q3,q4,q5,w,hjl,f2,g2,← hj,hgd]
  ·refine WL.draw z0p (by simp[z05,noH]) (DL.run (by simp[q1,q2,q3,q4,q5,w,hjl,f2,g2,← hj,hgd];exact⟨rfl,rfl⟩) ⟨by kernel_rfl,_,by simp;rfl,?_⟩)
   refine WL.cond (t:=false) (by simp) (by simp) fun _=>WL.skip ?_
   exact rest (by simp[z58,z4h,q1,q2,q3,q3x,q4,q5,w,hjl,f2,g2,← hj,hgd])
 ·obtain rfl:i=0:=by omega
  refine WL.draw z0p (by simp[z05,noH]) (DL.run (by simp[q1,q2,q3,q4];exact⟨rfl,rfl⟩) ⟨by kernel_rfl,_,by simp;rfl,?_⟩)
  refine WL.cond (t:=false) (by simp) (by simp) fun _=>WL.skip ?_
  exact rest (by simp[z58,z4h,q1,q2,q3,q3x,q4])
theorem zlq (p c:Int):z0u p c=decide ((z0r p c).There.length=0):=by
 unfold z0r
 cases h:z0u p c with
 | true=>simp
 | false =>
  simp only[z0u,qm,decide_eq_false_iff_not] at h
  simp;omega
theorem z1x {p c:Int}(h:z0u p c=false):OkSt (z0r p c):=by
 have hb':=h
 simp only[z0u,qm,decide_eq_false_iff_not] at hb'
 obtain⟨n,rfl⟩:=pu (a:=p) (by omega)
 obtain⟨m,rfl⟩:=pu (a:=c) (by omega)
 exact zt2 (by omega) (by omega) (by omega) (by omega)
theorem zgq (s':St)(v:Bool)(s:St):z17 true (gsT s) (gsT s') (bl v:AU)=true:=by
 have e1:z12 (sB true s'.There:AU)=true:=by simp only[z12,ywp,rr]
 have e2:z12 (sS true s'.Body:AU)=true:=by simp only[z12,ywq,rr]
 have e3:z12 (sII true s'.Handles:AU)=true:=by simp only[z12,zsv,rr]
 simp only[z17,List.all_cons,List.all_nil,z5g,e1,e2,e3]
 simp
theorem z6c {l:List Ev}{j:Nat}(h:j < (z0s l).length):∃ u:Nat,∃ hu:u < l.length,(z0s l)[j]=(u:Int):=by
 obtain⟨u,h1,h2,_⟩:=zt3 (qc h)
 exact⟨u,h1,h2⟩
abbrev rcB (b:Nat)(s:St):SL:=[(100 * b,0,.bptr b 1 0),(100 * b+1,0,sB true s.There),(100 * b+2,0,sS true s.Body),(100 * b+3,0,sII true s.Handles),(100 * b+99,1,.non)]
abbrev rcQ (v:Int):Ex→SL→Prop:=fun e L=>e=Ex.ret∧RetOk zy4.rs [] (i64 v) L
abbrev rcS (l:List Ev)(c:Int)(s:St)(r:SL):SL:=[(0,0,sEv l),(200,0,i64 c)] ++ (rcB 7 s ++ r)
abbrev rcT (l:List Ev)(s:St)(j:Nat):SL:=[(0,0,sEv l)] ++ (rcB 7 s ++ [(900,0,sI true (z0s l)),(1000,0,i64 j)])
theorem zgr (l:List Ev)(hE:EvOk l)(s0:St)(h0:OkSt s0):WL Try.prog zy4.nt zuh ([(0,0,sEv l)] ++ (rcB 7 s0 ++ [(900,0,sI true (z0s l))])) (rcQ (goW l z6b s0 () (z0s l)).1):=by
 have hn:=hE.n
 have hOl:=z3z l
 refine WL.seq (WL.sreg (by simp;rfl) (by simp;rfl) ?_)
 refine WL.block (WL.loop (ι:={x:Nat × St // x.1≤(z0s l).length∧OkSt x.2∧(goW l z6b x.2 () ((z0s l).drop x.1)).1=(goW l z6b s0 () (z0s l)).1}) (fun x=>rcT l x.1.2 x.1.1) (fun x=>(z0s l).length - x.1.1) ⟨(0,s0),r9 _,h0,rfl⟩ (by simp) fun x=>?_)
 obtain⟨⟨j,s⟩,hj,hs,hg⟩:=x
 simp only at hj hs hg ⊢
 by_cases hlt:j < (z0s l).length
 ·obtain⟨u,hu,eu⟩:=z6c hlt
  have f1:=z0y (o:=false) (r:=false) hu
  have g1:14≤l.length * 14 - u * 14:=by omega
  have hlt':j+1≤(z0s l).length:=hlt
  have w:IntKind.wrap .i64 ((j:Int)+1)=((j+1:Nat):Int):=by rw[z01 (by omega) (by omega)];omega
  have w2:IntKind.wrap .i64 ((u:Int)+1)=(u:Int)+1:=by rw[z01 (by omega) (by omega)]
  have hst:=zln s hs l[u] (hE.d _ (qc hu))
  rw[qx hlt] at hg
  simp only[goW,eu,z3s hu] at hg
  have hok:=z37 hs l[u]
  generalize z0d s l[u]=dd at hst hg hok
  obtain⟨v,t⟩:=dd
  simp only at hst hg hok
  refine WL.seq (WL.sreg (by simp[hlt];rfl) (by simp;rfl) ?_)
  refine WL.cond (t:=true) (by simp[hlt]) (fun _=>WL.skip ?_) (by simp)
  refine WL.seq (WL.block (WL.seq ?_))
  refine WL.draw z0p (by simp[z05,noH]) (DL.o (by simp[hlt,hlt',eu,hu,f1,g1];exact⟨rfl,rfl⟩) ?_)
  refine pf true [(701,[]),(702,[]),(703,[])] hst (by simp) (by simp) (by simp[z31]) (zgq t v s) (by simp[z05,noH]) ?_
  refine DL.o (by simp;exact⟨rfl,rfl⟩) (DL.nil ⟨by kernel_rfl,_,by simp;rfl,?_⟩)
  cases v with
  | true =>
   simp only[if_true] at hg
   refine WL.cond (t:=false) (by simp) (by simp) fun _=>WL.skip ?_
   refine WL.reg (RL.run (by simp[w];rfl) ⟨_,by simp;rfl,?_⟩)
   refine⟨⟨(j+1,t),hlt,hok,?_⟩,by simp,by simp only;omega⟩
   rw[← hg]
  | false =>
   simp only[py,if_false] at hg
   refine WL.cond (t:=true) (by simp) (fun _=>?_) (by simp)
   refine WL.sreg (by simp[hlt,hlt',eu,w2];rfl) (by simp;rfl) (WL.ret ⟨rfl,?_⟩)
   simp[zy4,← hg]
 ·obtain rfl:j=(z0s l).length:=by omega
  rw[tz] at hg
  simp only[goW] at hg
  refine WL.seq (WL.sreg (by simp;rfl) (by simp;rfl) ?_)
  refine WL.cond (t:=false) (by simp) (by simp) fun _=>WL.exit ?_
  refine WL.sreg (by simp;rfl) (by simp;rfl) (WL.ret ⟨rfl,?_⟩)
  simp[zy4,← hg]
theorem zgs (l:List Ev)(hE:EvOk l)(p c:Int):FnC Try.prog 35 [] [sEv l,i64 p,i64 c] [] (i64 (z6t l p c)):=by
 have hn:=hE.n
 have hlen:=zlq p c
 refine wb x1l rfl ?_
 refine WL.mono (Q':=rcQ (z6t l p c)) ?_ fun x L h=>⟨.inr h.1,h.2⟩
 refine WL.sreg (by simp;rfl) (by simp;rfl) ?_
 refine w7 (RL.o (by simp;rfl) (RL.call0 false (z56 p c) (by simp) (by simp) (RL.o (by simp;rfl) (RL.nil ⟨_,by simp;rfl,?_⟩))))
 cases hb:z0u p c with
 | true =>
  rw[hb] at hlen
  have hl0:(z0r p c).There.length=0:=by simpa using hlen.symm
  have z:((z0r p c).There == [])=true:=by simpa using hl0
  refine WL.seq (WL.sreg (by simp[hl0];rfl) (by simp;rfl) ?_)
  refine WL.cond (t:=true) (by simp) (fun _=>?_) (by simp)
  refine WL.sreg (by simp;rfl) (by simp;rfl) (WL.ret ⟨rfl,?_⟩)
  simp[zy4,z6t,z1g,hb]
 | false =>
  rw[hb] at hlen
  have hl0:¬ (z0r p c).There.length=0:=by simpa using hlen.symm
  have hok:=z1x hb
  have hz:(((z0r p c).There.length:Int) == 0)=false:=beq_false_of_ne (by omega)
  refine WL.seq (WL.sreg (by simp[hz];rfl) (by simp;rfl) ?_)
  refine WL.cond (t:=false) (by simp) (by simp) fun _=>WL.skip ?_
  refine WL.seq (WL.sreg (by simp;rfl) (by simp;rfl) ?_)
  have hchk:∀ v,z6t l p c=v→z6t l p c=v:=fun _ h=>h
  unfold z6t z1g at hchk ⊢
  rw[hb] at hchk ⊢
  simp only[py,if_false] at hchk ⊢
  generalize z0r p c=s0 at hok hchk ⊢
  refine WL.block (wd l.length (fun i=>rcS l c s0 [(800,0,i64 i)]) (fun i=>∀ j,j < i→z1w l j c=true) rfl (fun j h=>absurd h (rx _)) fun i hi hp=>?_)
  by_cases hlt:i < l.length
  ·have w:IntKind.wrap .i64 ((i:Int)+1)=((i+1:Nat):Int):=by rw[z01 (by omega) (by omega)];omega
   have ha:=ztb l hn i hlt c
   refine WL.seq (WL.sreg (by simp[hlt];rfl) (by simp;rfl) ?_)
   refine WL.cond (t:=true) (by simp[hlt]) (fun _=>WL.skip ?_) (by simp)
   cases ht:z1w l i c with
   | true =>
    rw[ht] at ha
    refine WL.seq (WL.block (w7 (RL.o (by simp;rfl) (RL.call0 false ha (by simp) (by simp) (RL.o (by simp;rfl) (RL.nil ⟨_,by simp;rfl,?_⟩))))))
    refine WL.cond (t:=false) (by simp) (by simp) fun _=>WL.skip ?_
    refine WL.reg (RL.run (by simp[w];rfl) ⟨_,by simp;rfl,hlt,?_,fun j hj=>?_⟩)
    ·simp
    ·by_cases e:j=i
     ·subst e;exact ht
     ·exact hp j (by omega)
   | false =>
    rw[ht] at ha
    have hf:=z40 hlt hp ht
    refine WL.seq (WL.block (w7 (RL.o (by simp;rfl) (RL.call0 false ha (by simp) (by simp) (RL.o (by simp;rfl) (RL.nil ⟨_,by simp;rfl,?_⟩))))))
    refine WL.cond (t:=true) (by simp) (fun _=>?_) (by simp)
    refine WL.sreg (by simp[w];rfl) (by simp;rfl) (WL.ret ⟨rfl,?_⟩)
    simp[zy4,hf]
  ·obtain rfl:i=l.length:=by omega
   have hf:=z41 hp
   refine WL.seq (WL.sreg (by simp;rfl) (by simp;rfl) ?_)
   refine WL.cond (t:=false) (by simp) (by simp) fun _=>WL.exit ?_
   rw[hf]
   refine w7 (RL.o (by simp;rfl) (RL.call0 false (z4i l hn) (by simp) (by simp) (RL.o (by simp;rfl) (RL.nil ⟨_,by simp;rfl,?_⟩))))
   have:=zgr l hE s0 hok
   exact this
theorem zlr (l:List Ev)(i:Nat)(e:Ev)(v:Bool)(hs:z1s e=true→v=false)(hl:z1s e=false→WL Try.prog z4n.nt zb9 (tmS l i (bxE 7 e ++ [(6700,0,bl false)])) (tmQ v)) :
  WL Try.prog z4n.nt zot (tmS l i (bxE 7 e ++ [(1400,0,bl false)])) (wm 0 (wg (fun L'=>WL Try.prog z4n.nt zb9 L' (tmQ v)) (tmQ v))):=by
 by_cases p1:0 < e.End
 ·have z:(e.End == 0)=false:=beq_false_of_ne (by omega)
  by_cases p2:e.Stamp < e.Begin
  ·have hv:=hs (by simp[z1s,p1,p2])
   refine WL.sreg (by simp[p1,p2];rfl) (by simp;rfl) ?_
   refine WL.cond (t:=true) (by simp) (fun _=>?_) (by simp)
   refine WL.sreg (by simp;rfl) (by simp;rfl) (WL.ret ⟨rfl,?_⟩)
   simp[z4n,hv]
  ·by_cases p3:e.End < e.Stamp
   ·have hv:=hs (by simp[z1s,p1,p2,p3])
    refine WL.sreg (by simp[p1,p2,p3];rfl) (by simp;rfl) ?_
    refine WL.cond (t:=true) (by simp) (fun _=>?_) (by simp)
    refine WL.sreg (by simp;rfl) (by simp;rfl) (WL.ret ⟨rfl,?_⟩)
    simp[z4n,hv]
   ·refine WL.sreg (by simp[p1,p2,p3];rfl) (by simp;rfl) ?_
    refine WL.cond (t:=false) (by simp) (by simp) fun _=>?_
    refine WL.sreg (by simp[z];rfl) (by simp;rfl) ?_
    refine WL.cond (t:=false) (by simp) (by simp) fun _=>WL.skip ?_
    exact hl (by first | (simp [z1s,p1,p2,p3];done) | (simp [z1s,p1,p2,p3];omega))
 ·by_cases p0:e.End=0
  ·have z0:(e.End == 0)=true:=by simp[p0]
   by_cases p2:e.Stamp=0
   ·have z2:(e.Stamp != 0)=false:=by simp[p2]
    refine WL.sreg (by simp[p1];rfl) (by simp;rfl) ?_
    refine WL.cond (t:=false) (by simp) (by simp) fun _=>?_
    refine WL.sreg (by simp[z0,z2];rfl) (by simp;rfl) ?_
    refine WL.cond (t:=false) (by simp) (by simp) fun _=>WL.skip ?_
    exact hl (by simp[z1s,p1,p0,p2])
   ·have z2:(e.Stamp != 0)=true:=by simp[p2]
    by_cases p3:e.Stamp < e.Begin
    ·have hv:=hs (by simp[z1s,p0,p2,p3])
     refine WL.sreg (by simp[p1];rfl) (by simp;rfl) ?_
     refine WL.cond (t:=false) (by simp) (by simp) fun _=>?_
     refine WL.sreg (by simp[z0,z2,p3];rfl) (by simp;rfl) ?_
     refine WL.cond (t:=true) (by simp) (fun _=>?_) (by simp)
     refine WL.sreg (by simp;rfl) (by simp;rfl) (WL.ret ⟨rfl,?_⟩)
     simp[z4n,hv]
    ·refine WL.sreg (by simp[p1];rfl) (by simp;rfl) ?_
     refine WL.cond (t:=false) (by simp) (by simp) fun _=>?_
     refine WL.sreg (by simp[z0,z2,p3];rfl) (by simp;rfl) ?_
     refine WL.cond (t:=false) (by simp) (by simp) fun _=>WL.skip ?_
     exact hl (by simp[z1s,p1,p0,p2,p3])
  ·have z:(e.End == 0)=false:=beq_false_of_ne p0
   refine WL.sreg (by simp[p1];rfl) (by simp;rfl) ?_
   refine WL.cond (t:=false) (by simp) (by simp) fun _=>?_
   refine WL.sreg (by simp[z];rfl) (by simp;rfl) ?_
   refine WL.cond (t:=false) (by simp) (by simp) fun _=>WL.skip ?_
   exact hl (by simp[z1s,p1,p0])
theorem zee (l:List Ev)(hn:l.length≤1000)(i:Nat)(hi:i < l.length)(c:Int):FnC Try.prog 135 [] [sEv l,i64 i,i64 c] [] (bl (z1w l i c)):=by
 rw[z6a hi]
 have f1:=z0y (o:=false) (r:=false) hi
 have g1:14≤l.length * 14 - i * 14:=by omega
 refine wb ywi rfl ?_
 refine WL.mono (Q':=tmQ (z28 l i c l[i])) ?_ fun x L h=>⟨.inr h.1,h.2⟩
 refine WL.sreg (by simp;rfl) (by simp;rfl) ?_
 refine WL.scope (WL.sreg (by simp[hi,f1,g1];rfl) (by simp;rfl) ?_)
 have loop:=zlk l hn i hi l[i]
 generalize l[i]=e at loop ⊢
 clear f1 g1
 have rest:z58 l i c e=false→WL Try.prog z4n.nt zot (tmS l i (bxE 7 e ++ [(1400,0,bl false)])) (wm 0 (wg (fun L'=>WL Try.prog z4n.nt zb9 L' (tmQ (z28 l i c e))) (tmQ (z28 l i c e)))):=fun hb =>
  zlr l i e _ (fun h=>by simp[z28,h]) (fun h=>by simpa [z28,hb,h] using loop)
 refine WL.seq (WL.block (WL.seq ?_))
 by_cases q1:e.Client < 0
 ·refine WL.draw z0p (by simp[z05,noH]) (DL.run (by simp[q1];exact⟨rfl,rfl⟩) ⟨by kernel_rfl,_,by simp;rfl,?_⟩)
  refine WL.cond (t:=true) (by simp) (fun _=>?_) (by simp)
  refine WL.sreg (by simp;rfl) (by simp;rfl) (WL.ret ⟨rfl,?_⟩)
  simp[z4n,z28,z58,z4h,q1]
 by_cases q2:c≤e.Client
 ·refine WL.draw z0p (by simp[z05,noH]) (DL.run (by simp[q1,q2];exact⟨rfl,rfl⟩) ⟨by kernel_rfl,_,by simp;rfl,?_⟩)
  refine WL.cond (t:=true) (by simp) (fun _=>?_) (by simp)
  refine WL.sreg (by simp;rfl) (by simp;rfl) (WL.ret ⟨rfl,?_⟩)
  simp[z4n,z28,z58,z4h,q1,q2]
 by_cases q3:e.Begin < 1
 ·refine WL.draw z0p (by simp[z05,noH]) (DL.run (by simp[q1,q2,q3];exact⟨rfl,rfl⟩) ⟨by kernel_rfl,_,by simp;rfl,?_⟩)
  refine WL.cond (t:=true) (by simp) (fun _=>?_) (by simp)
  refine WL.sreg (by simp;rfl) (by simp;rfl) (WL.ret ⟨rfl,?_⟩)
  simp[z4n,z28,z58,z4h,q1,q2,q3]
 by_cases q4:0 < i
 ·obtain⟨j,hj⟩:∃ j,j=i - 1:=⟨_,rfl⟩
  have w:IntKind.wrap .i64 ((i:Int) - 1)=(j:Int):=by rw[z01 (by omega) (by omega)];omega
  have hjl:j < l.length:=by omega
  have f2:=z0y (o:=false) (r:=false) hjl
  have g2:14≤l.length * 14 - j * 14:=by omega
  have hgd:l.getD j e=l[j]:=by simp[hjl]
  by_cases q5:e.Begin < l[j].Begin
  ·refine WL.draw z0p (by simp[z05,noH]) (DL.run (by simp[q1,q2,q3,q4,q5,w,hjl,f2,g2,← hj,hgd];exact⟨rfl,rfl⟩) ⟨by kernel_rfl,_,by simp;rfl,?_⟩)
   refine WL.cond (t:=true) (by simp) (fun _=>?_) (by simp)
   refine WL.sreg (by simp;rfl) (by simp;rfl) (WL.ret ⟨rfl,?_⟩)
   simp[z4n,z28,z58,z4h,q1,q2,q3,q4,q5,w,hjl,f2,g2,← hj,hgd]
  ·by_cases q6:e.End < 0
   ·refine WL.draw z0p (by simp[z05,noH]) (DL.run (by simp[q1,q2,q3,q4,q5,q6,w,hjl,f2,g2,← hj,hgd];exact⟨rfl,rfl⟩) ⟨by kernel_rfl,_,by simp;rfl,?_⟩)
    refine WL.cond (t:=true) (by simp) (fun _=>?_) (by simp)
    refine WL.sreg (by simp;rfl) (by simp;rfl) (WL.ret ⟨rfl,?_⟩)
    simp[z4n,z28,z58,z4h,q1,q2,q3,q4,q5,q6,w,hjl,f2,g2,← hj,hgd]
   ·refine WL.draw z0p (by simp[z05,noH]) (DL.run (by simp[q1,q2,q3,q4,q5,q6,w,hjl,f2,g2,← hj,hgd];exact⟨rfl,rfl⟩) ⟨by kernel_rfl,_,by simp;rfl,?_⟩)
    refine WL.cond (t:=false) (by simp) (by simp) fun _=>?_
    exact rest (by simp[z58,z4h,q1,q2,q3,q4,q5,q6,w,hjl,f2,g2,← hj,hgd])
 ·obtain rfl:i=0:=by omega
  by_cases q6:e.End < 0
  ·refine WL.draw z0p (by simp[z05,noH]) (DL.run (by simp[q1,q2,q3,q6];exact⟨rfl,rfl⟩) ⟨by kernel_rfl,_,by simp;rfl,?_⟩)
   refine WL.cond (t:=true) (by simp) (fun _=>?_) (by simp)
   refine WL.sreg (by simp;rfl) (by simp;rfl) (WL.ret ⟨rfl,?_⟩)
   simp[z4n,z28,z58,z4h,q1,q2,q3,q6]
  ·refine WL.draw z0p (by simp[z05,noH]) (DL.run (by simp[q1,q2,q3,q6];exact⟨rfl,rfl⟩) ⟨by kernel_rfl,_,by simp;rfl,?_⟩)
   refine WL.cond (t:=false) (by simp) (by simp) fun _=>?_
   exact rest (by simp[z58,z4h,q1,q2,q3,q6])
inductive Sh | nil | one | two
@[simp] def Sh.fv:Sh→Nat→List AU→AU
 | .nil,_,_=>.sc .nilFunc
 | _,f,cps=>.clos f cps
@[simp] def Sh.gh:Sh→List AU→List AU→SL
 | .nil,_,_=>[]
 | .one,b,_=>[(1000000,0,.bx true () b)]
 | .two,b,d=>[(1000000,0,.bx true () b),(1000100,0,.bx true () d)]
@[simp] def Sh.gs:Sh→List AU→List AU→List (Gh Unit)
 | .nil,_,_=>[]
 | .one,b,_=>[.nod (.bx true () b)]
 | .two,b,d=>[.nod (.bx true () b),.nod (.bx true () d)]
@[simp] def Sh.ks:Sh→List (Nat × List Nat)
 | .nil=>[]
 | .one=>[(1000000,[])]
 | .two=>[(1000000,[]),(1000100,[])]
theorem zia (p c:Int):May (z0r p c)=!z0u p c:=by
 cases h:z0u p c with
 | false=>exact (zb7 _).2 (z1x h)
 | true=>unfold z0r;rw[h];rfl
theorem z6d {l:List Ev}{u:Nat}{c:Int}(hu:u < l.length)(h:z1w l u c=true):0≤l[u].End:=by
 rw[z6a hu] at h
 simp only[z28,z58,pp,qp,qm,decide_eq_false_iff_not] at h
 omega
structure SeeOk {σ:Type} (l:List Ev) (sh:Sh) (f:Nat) (cps:List AU) (B D:σ→List AU) (see:σ→Int→St→σ) (Inv:σ→St→Prop):Prop where
 no:z0m cps=true
 root:z5q (sh.ks.map (·.1)) cps=true
 roots:z1f cps=sh.ks.map (·.1)
 len:cps.length≤1000
 tr:∀ (X:XF Unit) (k:Nat),(∀ e ∈ sh.ks,(X e.1).1=0∧∃ b,(X e.1).2=.bx true () b)→trL X sh.ks false k cps=some cps
 inv:∀ a s (u:Nat) (hu:u < l.length),OkSt s→Inv a s→(z0d s l[u]).1=true→Inv (see a u (z0d s l[u]).2) (z0d s l[u]).2
 fn:sh ≠ .nil→∀ a s (u:Nat) (hu:u < l.length),OkSt s→Inv a s→(z0d s l[u]).1=true →
  FnC Try.prog f (sh.gs (B a) (D a)) ([i64 u,z6v false (z0d s l[u]).2] ++ cps) (sh.gs (B (see a u (z0d s l[u]).2)) (D (see a u (z0d s l[u]).2))) (.tuple [])
abbrev rcF (b:Nat)(s:St):SL:=[(100 * b,0,.bptr b 1 0),(100 * b+1,0,sB false s.There),(100 * b+2,0,sUU false s.Body),(100 * b+3,0,sII false s.Handles),(100 * b+99,1,.non)]
abbrev wkS (l:List Ev)(c:Int)(fv:AU)(s:St)(r:SL):SL:=[(0,0,sEv l),(200,0,i64 c),(300,0,fv)] ++ (rcF 9 s ++ r)
abbrev wkT (l:List Ev)(fv:AU)(s:St)(j:Nat)(r:SL):SL:=[(0,0,sEv l),(300,0,fv)] ++ (rcF 9 s ++ ([(3600,0,sI true (z0s l)),(3700,0,i64 (z0s l).length),(3800,0,i64 j)] ++ r))
abbrev wkQ (gs:List (Gh Unit))(v:Int):Ex→SL→Prop:=fun e L=>e=Ex.ret∧RetOk z8l.rs gs (i64 v) L
section
variable {σ:Type} {l:List Ev} {sh:Sh} {f:Nat} {cps:List AU} {B D:σ→List AU} {see:σ→Int→St→σ} {Inv:σ→St→Prop}
theorem zk4 (hS:SeeOk l sh f cps B D see Inv)(s:St)(h:OkSt s)(a:σ)(hi:Inv a s)(u:Nat)(hu:u < l.length)(hr:(z0d s l[u]).1=true)(j:Nat)(K:SL→Prop)
  (hK:K (wkT l (sh.fv f cps) (z0d s l[u]).2 j (sh.gh (B (see a u (z0d s l[u]).2)) (D (see a u (z0d s l[u]).2))))) :
  WL Try.prog z8l.nt zd1 ([(0,0,sEv l),(300,0,sh.fv f cps)] ++ (rcF 9 (z0d s l[u]).2 ++ ([(1200,0,i64 u),(3600,0,sI true (z0s l)),(3700,0,i64 (z0s l).length),(3800,0,i64 j)] ++ sh.gh (B a) (D a)))) (fun e L=>(e=.nrm∨e=.ext 3)∧K L):=by
 have e1:=hS.no
 have e2:=hS.root
 have e3:=hS.tr
 have e4:=hS.len
 have e5:=hS.roots
 have hf:=fun h'=>hS.fn h' a s u hu h hi hr
 generalize (z0d s l[u]).2=t at *
 cases sh with
 | nil =>
  refine WL.seq (WL.sreg (by simp;rfl) (by simp;rfl) ?_)
  refine WL.cond (t:=true) (by simp) (fun _=>?_) (by simp)
  refine WL.fin [12,87] (by simp;rfl) (WL.exit ⟨.inr rfl,?_⟩)
  simpa using hK
 | one =>
  have hf:=hf (by simp)
  simp at e2 e3 e5 hf
  refine WL.seq (WL.sreg (by simp[e1];rfl) (by simp[e5];rfl) ?_)
  refine WL.cond (t:=false) (by simp) (by simp) fun _=>WL.skip ?_
  refine WL.reg (RL.o (by simp[e1];rfl) (nj (f:=f) (cps:=cps) false [(1000000,[])] (by simp) hf (by simp) (by simp) ?_ (by simp;omega) ?_ ?_ (RL.nil ⟨_,by simp[e5];rfl,?_⟩)))
  ·simp[e1]
   rw[e3 _ _ (by simp) _ (by simp;rfl)]
   simp
  ·simp
  ·simp[e2]
  ·simpa using hK
 | two =>
  have hf:=hf (by simp)
  simp at e2 e3 e5 hf
  refine WL.seq (WL.sreg (by simp[e1];rfl) (by simp[e5];rfl) ?_)
  refine WL.cond (t:=false) (by simp) (by simp) fun _=>WL.skip ?_
  refine WL.reg (RL.o (by simp[e1];rfl) (nj (f:=f) (cps:=cps) false [(1000000,[]),(1000100,[])] (by simp) hf (by simp) (by simp) ?_ (by simp;omega) ?_ ?_ (RL.nil ⟨_,by simp[e5];rfl,?_⟩)))
  ·simp[e1]
   rw[e3 _ _ (by simp) _ (by simp;rfl) (by simp) _ (by simp;rfl)]
   simp
  ·simp
  ·simp[e2]
  ·simpa using hK
theorem z43 {s t:St}{e:Ev}(h0:0≤e.End)(h:z1z s e=some t):(z0d s e).1=true∧(z0d s e).2=t:=by
 rw[zk2 s e h0] at h
 split at h
 ·rename_i h1;exact⟨h1,by simpa using h⟩
 ·cases h
theorem z44 {s:St}{e:Ev}(h0:0≤e.End)(h:z1z s e=none):(z0d s e).1=false:=by
 rw[zk2 s e h0] at h
 split at h
 ·cases h
 ·rename_i h1;simpa using h1
theorem zib (hE:EvOk l)(hS:SeeOk l Sh.nil f cps B D see Inv)(s0:St)(h0:OkSt s0)(a0:σ)(i0:Inv a0 s0)(c:Int)(hT:∀ j,j < l.length→z1w l j c=true)(n:Nat) :
  WL Try.prog z8l.nt zjp (wkS l c (Sh.nil.fv f cps) s0 ([(2300,0,i64 n),(2400,0,i64 n),(2500,0,bl false)] ++ Sh.nil.gh (B a0) (D a0))) (wkQ (Sh.nil.gs (B (goW l see s0 a0 (z0s l)).2.2) (D (goW l see s0 a0 (z0s l)).2.2)) (goW l see s0 a0 (z0s l)).1):=by
 have hn:=hE.n
 have hOl:=z3z l
 have hsee:=fun s h a hi u hu hr j=>zk4 hS s h a hi u hu hr j
 have hI:=fun a s u hu h hi hr=>hS.inv a s u hu h hi hr
 refine WL.seq (w7 (RL.o (by simp;rfl) (RL.call0 false (zed l hn) (by simp) (by simp) (RL.o (by simp;rfl) (RL.nil ⟨_,by simp;rfl,?_⟩)))))
 refine WL.block (WL.loop (ι:={x:Nat × St × σ // x.1≤(z0s l).length∧OkSt x.2.1∧Inv x.2.2 x.2.1∧goW l see x.2.1 x.2.2 ((z0s l).drop x.1)=goW l see s0 a0 (z0s l)}) (fun x=>wkT l (Sh.nil.fv f cps) x.1.2.1 x.1.1 (Sh.nil.gh (B x.1.2.2) (D x.1.2.2))) (fun x=>(z0s l).length - x.1.1) ⟨(0,s0,a0),r9 _,h0,i0,rfl⟩ (by simp) fun x=>?_)
 obtain⟨⟨j,s,a⟩,hj,hs,hia,hg⟩:=x
 simp only at hj hs hg hia ⊢
 by_cases hlt:j < (z0s l).length
 ·obtain⟨u,hu,eu⟩:=z6c hlt
  have f1:=z0y (o:=false) (r:=false) hu
  have g1:14≤l.length * 14 - u * 14:=by omega
  have hlt':j+1≤(z0s l).length:=hlt
  have w:IntKind.wrap .i64 ((j:Int)+1)=((j+1:Nat):Int):=by rw[z01 (by omega) (by omega)];omega
  have w2:IntKind.wrap .i64 ((u:Int)+1)=(u:Int)+1:=by rw[z01 (by omega) (by omega)]
  have hE0:=z6d hu (hT u hu)
  have hse:=hsee s hs a hia u hu
  have hI':=hI a s u hu hs hia
  rw[qx hlt] at hg
  simp only[goW,eu,z3s hu] at hg
  have hok:=z37 hs l[u]
  have tail:∀ t,z1z s l[u]=some t→∀ Q,(∀ e,(e=.nrm∨e=.ext 3)→Q e (wkT l (Sh.nil.fv f cps) t j (Sh.nil.gh (B (see a u t)) (D (see a u t)))))→WL Try.prog z8l.nt zd1 ([(0,0,sEv l),(300,0,Sh.nil.fv f cps)] ++ (rcF 9 t ++ ([(1200,0,i64 u),(3600,0,sI true (z0s l)),(3700,0,i64 (z0s l).length),(3800,0,i64 j)] ++ Sh.nil.gh (B a) (D a)))) Q:=by
   intro t ht Q hQ
   obtain⟨q1,q2⟩:=z43 hE0 ht
   have:=hse q1 j (fun L=>L=wkT l (Sh.nil.fv f cps) t j (Sh.nil.gh (B (see a u t)) (D (see a u t)))) (by rw[q2])
   rw[q2] at this
   refine WL.mono this ?_
   rintro e L ⟨he,rfl⟩
   exact hQ e he
  refine WL.sreg (by simp[hlt];rfl) (by simp;rfl) ?_
  refine WL.seq (WL.cond (t:=true) (by simp[hlt]) (fun _=>WL.skip ?_) (by simp))
  refine WL.seq (WL.block (WL.sreg (by simp[hlt,hlt',eu];rfl) (by simp;rfl) ?_))
  refine WL.sreg (by simp[hlt,hlt',eu,hu,f1,g1];rfl) (by simp;rfl) ?_
  refine w7 (RL.o (by simp;rfl) (nw s hs.sized l[u].Client l[u].op (by simp) (RL.o (by simp;rfl) (RL.nil ⟨_,by simp;rfl,?_⟩))))
  have adv:∀ t,z1z s l[u]=some t→∀ Q,(∀ L,(∃ y:{x:Nat × St × σ // x.1≤(z0s l).length∧OkSt x.2.1∧Inv x.2.2 x.2.1∧goW l see x.2.1 x.2.2 ((z0s l).drop x.1)=goW l see s0 a0 (z0s l)},L=wkT l (Sh.nil.fv f cps) y.1.2.1 y.1.1 (Sh.nil.gh (B y.1.2.2) (D y.1.2.2))∧(z0s l).length - y.1.1 < (z0s l).length - j)→Q Ex.nrm L)→WL Try.prog z8l.nt zjo (wkT l (Sh.nil.fv f cps) t j (Sh.nil.gh (B (see a u t)) (D (see a u t)))) Q:=by
   intro t ht Q hQ
   obtain⟨q1,q2⟩:=z43 hE0 ht
   have hI2:=hI' q1
   rw[q1] at hg
   simp only[if_true] at hg
   rw[q2] at hg hI2 hok
   refine WL.reg (RL.run (by simp[w];rfl) ⟨_,by simp;rfl,hQ _ ?_⟩)
   exact⟨⟨(j+1,t,see a u t),hlt,hok,hI2,hg⟩,by simp,by simp only;omega⟩
  refine WL.seq ?_
  by_cases p:l[u].End=0
  ·have z:(l[u].End == 0)=true:=by simp[p]
   have ht:z1z s l[u]=some (DoB s l[u].Client l[u].op).2.1:=by simp[z1z,p]
   refine WL.block (w7 (RL.o (by simp[z];rfl) (RL.g (by simp;rfl) (RL.callN (by simp) (RL.o (by simp;rfl) (RL.nil ⟨_,by simp;rfl,?_⟩))))))
   refine WL.cond (t:=true) (by simp) (fun _=>?_) (by simp)
   refine WL.reg (RL.run (by simp;rfl) ⟨_,by simp;rfl,?_⟩)
   refine tail _ ht _ ?_
   intro e he
   rcases he with rfl | rfl
   ·exact adv _ ht _ fun L h=>h
   ·exact adv _ ht _ fun L h=>h
  ·have z:(l[u].End == 0)=false:=beq_false_of_ne p
   have hsr:=z42 (DoB s l[u].Client l[u].op).2.2 l[u].res
   cases hv:z1d (DoB s l[u].Client l[u].op).2.2 l[u].res with
   | true =>
    rw[hv] at hsr
    have ht:z1z s l[u]=some (DoB s l[u].Client l[u].op).2.1:=by simp[z1z,hv]
    refine WL.block (w7 (RL.o (by simp[z];rfl) (RL.g (by simp;rfl) (RL.callY0 false (by simp) hsr (by simp) (by simp) (RL.o (by simp;rfl) (RL.nil ⟨_,by simp;rfl,?_⟩))))))
    refine WL.cond (t:=true) (by simp) (fun _=>?_) (by simp)
    refine WL.reg (RL.run (by simp;rfl) ⟨_,by simp;rfl,?_⟩)
    refine tail _ ht _ ?_
    intro e he
    rcases he with rfl | rfl
    ·exact adv _ ht _ fun L h=>h
    ·exact adv _ ht _ fun L h=>h
   | false =>
    rw[hv] at hsr
    refine WL.block (w7 (RL.o (by simp[z];rfl) (RL.g (by simp;rfl) (RL.callY0 false (by simp) hsr (by simp) (by simp) (RL.o (by simp;rfl) (RL.nil ⟨_,by simp;rfl,?_⟩))))))
    refine WL.cond (t:=false) (by simp) (by simp) fun _=>?_
    have hb:=zq2 l[u].op l[u].res.Code
    have hp:=z42 l[u].res (rsE l[u].res.Code)
    cases hbad:z7f l[u].op.Kind l[u].res.Code with
    | false =>
     rw[hbad] at hb
     have ht:z1z s l[u]=none:=by simp[z1z,p,hv,hbad]
     have hr:=z44 hE0 ht
     rw[hr] at hg
     simp only[py,if_false] at hg
     refine w7 (RL.o (by simp;rfl) (RL.call0 false hb (by simp) (by simp) (RL.o (by simp;rfl) (RL.g (by simp;rfl) (RL.callN (by simp) (RL.g (by simp;rfl) (RL.o (by simp;rfl) (RL.nil ⟨_,by simp;rfl,?_⟩))))))))
     refine WL.cond (t:=true) (by simp) (fun _=>?_) (by simp)
     refine WL.sreg (by simp[w2];rfl) (by simp;rfl) (WL.ret ⟨rfl,?_⟩)
     simp[z8l,← hg]
    | true =>
     rw[hbad] at hb
     cases hpl:z1d l[u].res (rsE l[u].res.Code) with
     | false =>
      rw[hpl] at hp
      have ht:z1z s l[u]=none:=by simp[z1z,p,hv,hbad,hpl]
      have hr:=z44 hE0 ht
      rw[hr] at hg
      simp only[py,if_false] at hg
      refine w7 (RL.o (by simp;rfl) (RL.call0 false hb (by simp) (by simp) (RL.o (by simp;rfl) (RL.g (by simp;rfl) (RL.nilA 80 3 1 (by simp;rfl) rfl rfl (RL.callY0 false (by simp) hp (by simp[rsE]) (by simp) (RL.g (by simp;rfl) (RL.o (by simp;rfl) (RL.nil ⟨_,by simp;rfl,?_⟩)))))))))
      refine WL.cond (t:=true) (by simp) (fun _=>?_) (by simp)
      refine WL.sreg (by simp[w2];rfl) (by simp;rfl) (WL.ret ⟨rfl,?_⟩)
      simp[z8l,← hg]
     | true =>
      rw[hpl] at hp
      have ht:z1z s l[u]=some s:=by simp[z1z,p,hv,hbad,hpl]
      refine w7 (RL.o (by simp;rfl) (RL.call0 false hb (by simp) (by simp) (RL.o (by simp;rfl) (RL.g (by simp;rfl) (RL.nilA 80 3 1 (by simp;rfl) rfl rfl (RL.callY0 false (by simp) hp (by simp[rsE]) (by simp) (RL.g (by simp;rfl) (RL.o (by simp;rfl) (RL.nil ⟨_,by simp;rfl,?_⟩)))))))))
      refine WL.cond (t:=false) (by simp) (by simp) fun _=>WL.skip ?_
      refine WL.fin [66] (by simp) (tail _ ht _ ?_)
      intro e he
      rcases he with rfl | rfl
      ·exact adv _ ht _ fun L h=>h
      ·exact adv _ ht _ fun L h=>h
 ·obtain rfl:j=(z0s l).length:=by omega
  rw[tz] at hg
  simp only[goW] at hg
  refine WL.sreg (by simp;rfl) (by simp;rfl) ?_
  refine WL.seq (WL.cond (t:=false) (by simp) (by simp) fun _=>WL.exit ?_)
  refine WL.sreg (by simp;rfl) (by simp;rfl) (WL.ret ⟨rfl,?_⟩)
  simp[z8l,← hg]
theorem zic (hE:EvOk l)(hS:SeeOk l Sh.one f cps B D see Inv)(s0:St)(h0:OkSt s0)(a0:σ)(i0:Inv a0 s0)(c:Int)(hT:∀ j,j < l.length→z1w l j c=true)(n:Nat) :
  WL Try.prog z8l.nt zjp (wkS l c (Sh.one.fv f cps) s0 ([(2300,0,i64 n),(2400,0,i64 n),(2500,0,bl false)] ++ Sh.one.gh (B a0) (D a0))) (wkQ (Sh.one.gs (B (goW l see s0 a0 (z0s l)).2.2) (D (goW l see s0 a0 (z0s l)).2.2)) (goW l see s0 a0 (z0s l)).1):=by
 have hn:=hE.n
 have hOl:=z3z l
 have e1:=hS.no
 have e5:=hS.roots
 simp at e5
 have hsee:=fun s h a hi u hu hr j=>zk4 hS s h a hi u hu hr j
 have hI:=fun a s u hu h hi hr=>hS.inv a s u hu h hi hr
 refine WL.seq (w7 (RL.o (by simp;rfl) (RL.call0 false (zed l hn) (by simp) (by simp) (RL.o (by simp;rfl) (RL.nil ⟨_,by simp[e5];rfl,?_⟩)))))
 refine WL.block (WL.loop (ι:={x:Nat × St × σ // x.1≤(z0s l).length∧OkSt x.2.1∧Inv x.2.2 x.2.1∧goW l see x.2.1 x.2.2 ((z0s l).drop x.1)=goW l see s0 a0 (z0s l)}) (fun x=>wkT l (Sh.one.fv f cps) x.1.2.1 x.1.1 (Sh.one.gh (B x.1.2.2) (D x.1.2.2))) (fun x=>(z0s l).length - x.1.1) ⟨(0,s0,a0),r9 _,h0,i0,rfl⟩ (by simp) fun x=>?_)
 obtain⟨⟨j,s,a⟩,hj,hs,hia,hg⟩:=x
 simp only at hj hs hg hia ⊢
 by_cases hlt:j < (z0s l).length
 ·obtain⟨u,hu,eu⟩:=z6c hlt
  have f1:=z0y (o:=false) (r:=false) hu
  have g1:14≤l.length * 14 - u * 14:=by omega
  have hlt':j+1≤(z0s l).length:=hlt
  have w:IntKind.wrap .i64 ((j:Int)+1)=((j+1:Nat):Int):=by rw[z01 (by omega) (by omega)];omega
  have w2:IntKind.wrap .i64 ((u:Int)+1)=(u:Int)+1:=by rw[z01 (by omega) (by omega)]
  have hE0:=z6d hu (hT u hu)
  have hse:=hsee s hs a hia u hu
  have hI':=hI a s u hu hs hia
  rw[qx hlt] at hg
  simp only[goW,eu,z3s hu] at hg
  have hok:=z37 hs l[u]
  have tail:∀ t,z1z s l[u]=some t→∀ Q,(∀ e,(e=.nrm∨e=.ext 3)→Q e (wkT l (Sh.one.fv f cps) t j (Sh.one.gh (B (see a u t)) (D (see a u t)))))→WL Try.prog z8l.nt zd1 ([(0,0,sEv l),(300,0,Sh.one.fv f cps)] ++ (rcF 9 t ++ ([(1200,0,i64 u),(3600,0,sI true (z0s l)),(3700,0,i64 (z0s l).length),(3800,0,i64 j)] ++ Sh.one.gh (B a) (D a)))) Q:=by
   intro t ht Q hQ
   obtain⟨q1,q2⟩:=z43 hE0 ht
   have:=hse q1 j (fun L=>L=wkT l (Sh.one.fv f cps) t j (Sh.one.gh (B (see a u t)) (D (see a u t)))) (by rw[q2])
   rw[q2] at this
   refine WL.mono this ?_
   rintro e L ⟨he,rfl⟩
   exact hQ e he
  refine WL.sreg (by simp[hlt];rfl) (by simp[e5];rfl) ?_
  refine WL.seq (WL.cond (t:=true) (by simp[hlt]) (fun _=>WL.skip ?_) (by simp))
  refine WL.seq (WL.block (WL.sreg (by simp[hlt,hlt',eu];rfl) (by simp[e5];rfl) ?_))
  refine WL.sreg (by simp[hlt,hlt',eu,hu,f1,g1];rfl) (by simp[e5];rfl) ?_
  refine w7 (RL.o (by simp;rfl) (nw s hs.sized l[u].Client l[u].op (by simp) (RL.o (by simp;rfl) (RL.nil ⟨_,by simp[e5];rfl,?_⟩))))
  have adv:∀ t,z1z s l[u]=some t→∀ Q,(∀ L,(∃ y:{x:Nat × St × σ // x.1≤(z0s l).length∧OkSt x.2.1∧Inv x.2.2 x.2.1∧goW l see x.2.1 x.2.2 ((z0s l).drop x.1)=goW l see s0 a0 (z0s l)},L=wkT l (Sh.one.fv f cps) y.1.2.1 y.1.1 (Sh.one.gh (B y.1.2.2) (D y.1.2.2))∧(z0s l).length - y.1.1 < (z0s l).length - j)→Q Ex.nrm L)→WL Try.prog z8l.nt zjo (wkT l (Sh.one.fv f cps) t j (Sh.one.gh (B (see a u t)) (D (see a u t)))) Q:=by
   intro t ht Q hQ
   obtain⟨q1,q2⟩:=z43 hE0 ht
   have hI2:=hI' q1
   rw[q1] at hg
   simp only[if_true] at hg
   rw[q2] at hg hI2 hok
   refine WL.reg (RL.run (by simp[w];rfl) ⟨_,by simp[e5];rfl,hQ _ ?_⟩)
   exact⟨⟨(j+1,t,see a u t),hlt,hok,hI2,hg⟩,by simp,by simp only;omega⟩
  refine WL.seq ?_
  by_cases p:l[u].End=0
  ·have z:(l[u].End == 0)=true:=by simp[p]
   have ht:z1z s l[u]=some (DoB s l[u].Client l[u].op).2.1:=by simp[z1z,p]
   refine WL.block (w7 (RL.o (by simp[z];rfl) (RL.g (by simp;rfl) (RL.callN (by simp) (RL.o (by simp;rfl) (RL.nil ⟨_,by simp[e5];rfl,?_⟩))))))
   refine WL.cond (t:=true) (by simp) (fun _=>?_) (by simp)
   refine WL.reg (RL.run (by simp;rfl) ⟨_,by simp[e5];rfl,?_⟩)
   refine tail _ ht _ ?_
   intro e he
   rcases he with rfl | rfl
   ·exact adv _ ht _ fun L h=>h
   ·exact adv _ ht _ fun L h=>h
  ·have z:(l[u].End == 0)=false:=beq_false_of_ne p
   have hsr:=z42 (DoB s l[u].Client l[u].op).2.2 l[u].res
   cases hv:z1d (DoB s l[u].Client l[u].op).2.2 l[u].res with
   | true =>
    rw[hv] at hsr
    have ht:z1z s l[u]=some (DoB s l[u].Client l[u].op).2.1:=by simp[z1z,hv]
    refine WL.block (w7 (RL.o (by simp[z];rfl) (RL.g (by simp;rfl) (RL.callY0 false (by simp) hsr (by simp) (by simp) (RL.o (by simp;rfl) (RL.nil ⟨_,by simp[e5];rfl,?_⟩))))))
    refine WL.cond (t:=true) (by simp) (fun _=>?_) (by simp)
    refine WL.reg (RL.run (by simp;rfl) ⟨_,by simp[e5];rfl,?_⟩)
    refine tail _ ht _ ?_
    intro e he
    rcases he with rfl | rfl
    ·exact adv _ ht _ fun L h=>h
    ·exact adv _ ht _ fun L h=>h
   | false =>
    rw[hv] at hsr
    refine WL.block (w7 (RL.o (by simp[z];rfl) (RL.g (by simp;rfl) (RL.callY0 false (by simp) hsr (by simp) (by simp) (RL.o (by simp;rfl) (RL.nil ⟨_,by simp[e5];rfl,?_⟩))))))
    refine WL.cond (t:=false) (by simp) (by simp) fun _=>?_
    have hb:=zq2 l[u].op l[u].res.Code
    have hp:=z42 l[u].res (rsE l[u].res.Code)
    cases hbad:z7f l[u].op.Kind l[u].res.Code with
    | false =>
     rw[hbad] at hb
     have ht:z1z s l[u]=none:=by simp[z1z,p,hv,hbad]
     have hr:=z44 hE0 ht
     rw[hr] at hg
     simp only[py,if_false] at hg
     refine w7 (RL.o (by simp;rfl) (RL.call0 false hb (by simp) (by simp) (RL.o (by simp;rfl) (RL.g (by simp;rfl) (RL.callN (by simp) (RL.g (by simp;rfl) (RL.o (by simp;rfl) (RL.nil ⟨_,by simp[e5];rfl,?_⟩))))))))
     refine WL.cond (t:=true) (by simp) (fun _=>?_) (by simp)
     refine WL.sreg (by simp[w2];rfl) (by simp[e5];rfl) (WL.ret ⟨rfl,?_⟩)
     simp[z8l,← hg]
    | true =>
     rw[hbad] at hb
     cases hpl:z1d l[u].res (rsE l[u].res.Code) with
     | false =>
      rw[hpl] at hp
      have ht:z1z s l[u]=none:=by simp[z1z,p,hv,hbad,hpl]
      have hr:=z44 hE0 ht
      rw[hr] at hg
      simp only[py,if_false] at hg
      refine w7 (RL.o (by simp;rfl) (RL.call0 false hb (by simp) (by simp) (RL.o (by simp;rfl) (RL.g (by simp;rfl) (RL.nilA 80 3 1 (by simp;rfl) rfl rfl (RL.callY0 false (by simp) hp (by simp[rsE]) (by simp) (RL.g (by simp;rfl) (RL.o (by simp;rfl) (RL.nil ⟨_,by simp[e5];rfl,?_⟩)))))))))
      refine WL.cond (t:=true) (by simp) (fun _=>?_) (by simp)
      refine WL.sreg (by simp[w2];rfl) (by simp[e5];rfl) (WL.ret ⟨rfl,?_⟩)
      simp[z8l,← hg]
     | true =>
      rw[hpl] at hp
      have ht:z1z s l[u]=some s:=by simp[z1z,p,hv,hbad,hpl]
      refine w7 (RL.o (by simp;rfl) (RL.call0 false hb (by simp) (by simp) (RL.o (by simp;rfl) (RL.g (by simp;rfl) (RL.nilA 80 3 1 (by simp;rfl) rfl rfl (RL.callY0 false (by simp) hp (by simp[rsE]) (by simp) (RL.g (by simp;rfl) (RL.o (by simp;rfl) (RL.nil ⟨_,by simp[e5];rfl,?_⟩)))))))))
      refine WL.cond (t:=false) (by simp) (by simp) fun _=>WL.skip ?_
      refine WL.fin [66] (by simp[e5]) (tail _ ht _ ?_)
      intro e he
      rcases he with rfl | rfl
      ·exact adv _ ht _ fun L h=>h
      ·exact adv _ ht _ fun L h=>h
 ·obtain rfl:j=(z0s l).length:=by omega
  rw[tz] at hg
  simp only[goW] at hg
  refine WL.sreg (by simp;rfl) (by simp[e5];rfl) ?_
  refine WL.seq (WL.cond (t:=false) (by simp) (by simp) fun _=>WL.exit ?_)
  refine WL.sreg (by simp;rfl) (by simp[e5];rfl) (WL.ret ⟨rfl,?_⟩)
  simp[z8l,← hg]
theorem ztc (hE:EvOk l)(hS:SeeOk l Sh.nil f cps B D see Inv)(p c:Int)(a:σ)(hI:z0u p c=false→Inv a (z0r p c)) :
  FnC Try.prog 88 (Sh.nil.gs (B a) (D a)) [sEv l,i64 p,i64 c,Sh.nil.fv f cps] (Sh.nil.gs (B (z1g see a l p c).2.2) (D (z1g see a l p c).2.2)) (i64 (z1g see a l p c).1):=by
 have hn:=hE.n
 have hms:=zcw (z0r p c) (z7d p c)
 rw[zia] at hms
 refine wb yvj rfl ?_
 refine WL.mono (Q':=wkQ (Sh.nil.gs (B (z1g see a l p c).2.2) (D (z1g see a l p c).2.2)) (z1g see a l p c).1) ?_ fun x L h=>⟨.inr h.1,h.2⟩
 refine WL.sreg (by simp;rfl) (by simp;rfl) ?_
 refine WL.scope ?_
 refine w7 (RL.o (by simp;rfl) (nc p c (by simp) (RL.o (by simp;rfl) (RL.nil ⟨_,by simp;rfl,?_⟩))))
 cases hb:z0u p c with
 | true =>
  rw[hb] at hms
  refine WL.seq (w7 (RL.o (by simp;rfl) (RL.call0 false hms (by simp) (by simp) (RL.o (by simp;rfl) (RL.nil ⟨_,by simp;rfl,?_⟩)))))
  refine WL.cond (t:=true) (by simp) (fun _=>?_) (by simp)
  refine WL.sreg (by simp;rfl) (by simp;rfl) (WL.ret ⟨rfl,?_⟩)
  simp[z8l,z1g,hb]
 | false =>
  rw[hb] at hms
  have hok:=z1x hb
  have i0:=hI hb
  refine WL.seq (w7 (RL.o (by simp;rfl) (RL.call0 false hms (by simp) (by simp) (RL.o (by simp;rfl) (RL.nil ⟨_,by simp;rfl,?_⟩)))))
  refine WL.cond (t:=false) (by simp) (by simp) fun _=>WL.skip ?_
  refine WL.seq (WL.sreg (by simp;rfl) (by simp;rfl) ?_)
  unfold z1g
  rw[hb]
  simp only[py,if_false]
  generalize z0r p c=s0 at hok i0 ⊢
  refine WL.block (wd l.length (fun i=>wkS l c (Sh.nil.fv f cps) s0 ([(2300,0,i64 l.length),(2400,0,i64 i)] ++ Sh.nil.gh (B a) (D a))) (fun i=>∀ j,j < i→z1w l j c=true) rfl (fun j h=>absurd h (rx _)) fun i hi hp=>?_)
  by_cases hlt:i < l.length
  ·have w:IntKind.wrap .i64 ((i:Int)+1)=((i+1:Nat):Int):=by rw[z01 (by omega) (by omega)];omega
   have ha:=zee l hn i hlt c
   refine WL.sreg (by simp[hlt];rfl) (by simp;rfl) ?_
   refine WL.seq (WL.cond (t:=true) (by simp[hlt]) (fun _=>WL.skip ?_) (by simp))
   refine WL.seq (WL.block (WL.sreg (by simp[hlt];rfl) (by simp;rfl) ?_))
   cases ht:z1w l i c with
   | true =>
    rw[ht] at ha
    refine w7 (RL.o (by simp;rfl) (RL.call0 false ha (by simp) (by simp) (RL.o (by simp;rfl) (RL.nil ⟨_,by simp;rfl,?_⟩))))
    refine WL.cond (t:=false) (by simp) (by simp) fun _=>WL.skip ?_
    refine WL.reg (RL.run (by simp[w];rfl) ⟨_,by simp;rfl,hlt,?_,fun j hj=>?_⟩)
    ·simp
    ·by_cases e:j=i
     ·subst e;exact ht
     ·exact hp j (by omega)
   | false =>
    rw[ht] at ha
    have hf:=z40 hlt hp ht
    refine w7 (RL.o (by simp;rfl) (RL.call0 false ha (by simp) (by simp) (RL.o (by simp;rfl) (RL.nil ⟨_,by simp;rfl,?_⟩))))
    refine WL.cond (t:=true) (by simp) (fun _=>?_) (by simp)
    refine WL.sreg (by simp[w];rfl) (by simp;rfl) (WL.ret ⟨rfl,?_⟩)
    simp[z8l,hf]
  ·obtain rfl:i=l.length:=by omega
   have hf:=z41 hp
   rw[hf]
   refine WL.sreg (by simp;rfl) (by simp;rfl) ?_
   refine WL.seq (WL.cond (t:=false) (by simp) (by simp) fun _=>WL.exit ?_)
   refine WL.seq (WL.label ?_)
   exact zib hE hS s0 hok a i0 c hp l.length
theorem zk5 (hE:EvOk l)(hS:SeeOk l Sh.one f cps B D see Inv)(p c:Int)(a:σ)(hI:z0u p c=false→Inv a (z0r p c)) :
  FnC Try.prog 88 (Sh.one.gs (B a) (D a)) [sEv l,i64 p,i64 c,Sh.one.fv f cps] (Sh.one.gs (B (z1g see a l p c).2.2) (D (z1g see a l p c).2.2)) (i64 (z1g see a l p c).1):=by
 have hn:=hE.n
 have e5:=hS.roots
 simp at e5
 have hms:=zcw (z0r p c) (z7d p c)
 rw[zia] at hms
 refine wb yvj rfl ?_
 refine WL.mono (Q':=wkQ (Sh.one.gs (B (z1g see a l p c).2.2) (D (z1g see a l p c).2.2)) (z1g see a l p c).1) ?_ fun x L h=>⟨.inr h.1,h.2⟩
 refine WL.sreg (by simp;rfl) (by simp[e5];rfl) ?_
 refine WL.scope ?_
 refine w7 (RL.o (by simp;rfl) (nc p c (by simp) (RL.o (by simp;rfl) (RL.nil ⟨_,by simp[e5];rfl,?_⟩))))
 cases hb:z0u p c with
 | true =>
  rw[hb] at hms
  refine WL.seq (w7 (RL.o (by simp;rfl) (RL.call0 false hms (by simp) (by simp) (RL.o (by simp;rfl) (RL.nil ⟨_,by simp[e5];rfl,?_⟩)))))
  refine WL.cond (t:=true) (by simp) (fun _=>?_) (by simp)
  refine WL.sreg (by simp;rfl) (by simp[e5];rfl) (WL.ret ⟨rfl,?_⟩)
  simp[z8l,z1g,hb]
 | false =>
  rw[hb] at hms
  have hok:=z1x hb
  have i0:=hI hb
  refine WL.seq (w7 (RL.o (by simp;rfl) (RL.call0 false hms (by simp) (by simp) (RL.o (by simp;rfl) (RL.nil ⟨_,by simp[e5];rfl,?_⟩)))))
  refine WL.cond (t:=false) (by simp) (by simp) fun _=>WL.skip ?_
  refine WL.seq (WL.sreg (by simp;rfl) (by simp[e5];rfl) ?_)
  unfold z1g
  rw[hb]
  simp only[py,if_false]
  generalize z0r p c=s0 at hok i0 ⊢
  refine WL.block (wd l.length (fun i=>wkS l c (Sh.one.fv f cps) s0 ([(2300,0,i64 l.length),(2400,0,i64 i)] ++ Sh.one.gh (B a) (D a))) (fun i=>∀ j,j < i→z1w l j c=true) rfl (fun j h=>absurd h (rx _)) fun i hi hp=>?_)
  by_cases hlt:i < l.length
  ·have w:IntKind.wrap .i64 ((i:Int)+1)=((i+1:Nat):Int):=by rw[z01 (by omega) (by omega)];omega
   have ha:=zee l hn i hlt c
   refine WL.sreg (by simp[hlt];rfl) (by simp[e5];rfl) ?_
   refine WL.seq (WL.cond (t:=true) (by simp[hlt]) (fun _=>WL.skip ?_) (by simp))
   refine WL.seq (WL.block (WL.sreg (by simp[hlt];rfl) (by simp[e5];rfl) ?_))
   cases ht:z1w l i c with
   | true =>
    rw[ht] at ha
    refine w7 (RL.o (by simp;rfl) (RL.call0 false ha (by simp) (by simp) (RL.o (by simp;rfl) (RL.nil ⟨_,by simp[e5];rfl,?_⟩))))
    refine WL.cond (t:=false) (by simp) (by simp) fun _=>WL.skip ?_
    refine WL.reg (RL.run (by simp[w];rfl) ⟨_,by simp[e5];rfl,hlt,?_,fun j hj=>?_⟩)
    ·simp
    ·by_cases e:j=i
     ·subst e;exact ht
     ·exact hp j (by omega)
   | false =>
    rw[ht] at ha
    have hf:=z40 hlt hp ht
    refine w7 (RL.o (by simp;rfl) (RL.call0 false ha (by simp) (by simp) (RL.o (by simp;rfl) (RL.nil ⟨_,by simp[e5];rfl,?_⟩))))
    refine WL.cond (t:=true) (by simp) (fun _=>?_) (by simp)
    refine WL.sreg (by simp[w];rfl) (by simp[e5];rfl) (WL.ret ⟨rfl,?_⟩)
    simp[z8l,hf]
  ·obtain rfl:i=l.length:=by omega
   have hf:=z41 hp
   rw[hf]
   refine WL.sreg (by simp;rfl) (by simp[e5];rfl) ?_
   refine WL.seq (WL.cond (t:=false) (by simp) (by simp) fun _=>WL.exit ?_)
   refine WL.seq (WL.label ?_)
   exact zic hE hS s0 hok a i0 c hp l.length
end
theorem ztd (l:List Ev):SeeOk l .nil 0 [] (fun _:Unit=>[]) (fun _=>[]) z6b (fun _ _=>True) :=
 ⟨rfl,rfl,rfl,by simp,fun _ _ _=>rfl,fun _ _ _ _ _ _ _=>trivial,fun h=>absurd rfl h⟩
theorem yma (l:List Ev)(hE:EvOk l)(p c:Int):FnC Try.prog 28 [] [sEv l,i64 p,i64 c] [] (i64 (z6t l p c)):=by
 have hw:=ztc hE (ztd l) p c () (fun _=>trivial)
 rw[z59] at hw
 simp only[Sh.gs,Sh.fv] at hw
 refine wb x1h rfl ?_
 refine WL.sreg (by simp;rfl) (by simp;rfl) ?_
 refine w7 (RL.o (by simp;rfl) (RL.call0 false hw (by simp) (by simp) (RL.o (by simp;rfl) (RL.nil ⟨_,by simp;rfl,WL.ret ⟨.inr rfl,?_⟩⟩))))
 simp[x08]
theorem zq7 (i:Int)(s t:St):FnC Try.prog 89 [.nod (.bx true () (zcv false s))] [i64 i,z6v false t,.ptr 1000000 0 [] 0] [.nod (.bx true () (zcv false t))] (.tuple []):=by
 refine wb x1r rfl ?_
 refine WL.sreg (by simp;rfl) (by simp;rfl) ?_
 refine WL.wipe 1000000 (by simp;rfl) (by simp) ?_
 refine WL.reg (RL.run (by simp;rfl) ⟨_,by simp;rfl,?_⟩)
 refine⟨.inl rfl,?_⟩
 simp[x0c]
theorem zls (l:List Ev):SeeOk l .one 89 [.ptr 1000000 0 [] 0] (fun s:St=>zcv false s) (fun _=>[]) (fun _ _ t=>t) (fun _ _=>True) :=
 ⟨rfl,rfl,rfl,by simp,fun X k h=>by
  obtain⟨h1,b,h2⟩:=h (1000000,[]) (by simp)
  simp at h1 h2
  simp[h1,h2,z31],fun _ _ _ _ _ _ _=>trivial,fun _ a s u hu _ _ _=>zq7 u a (z0d s l[u]).2⟩
theorem ymb (l:List Ev)(hE:EvOk l)(p c:Int):FnC Try.prog 30 [] [sEv l,i64 p,i64 c] [] (.tuple [z6v false (zbn l p c).1,bl (zbn l p c).2]):=by
 have hw:=zk5 hE (zls l) p c (z0r p c) (fun _=>trivial)
 rw[z59] at hw
 simp only[Sh.gs,Sh.fv] at hw
 refine wb x1i rfl ?_
 refine WL.sreg (by simp;rfl) (by simp;rfl) ?_
 refine w7 (RL.o (by simp;rfl) (nc p c (by simp) (RL.o (by simp;rfl) (RL.nil ⟨_,by simp;rfl,?_⟩))))
 rw[zll] at hw
 refine WL.raise 8 3 (by simp) (by simp;rfl) (by simp) ?_
 by_cases h0:z6t l p c=0
 ·have z:(z6t l p c != 0)=false:=by simp[h0]
  have hfin:zbn l p c=((z1g z6b () l p c).2.1,true):=by unfold zbn;rw[if_pos h0]
  rw[hfin]
  generalize (z1g z6b () l p c).2.1=s at hw ⊢
  generalize z0r p c=s0 at hw ⊢
  refine WL.seq (w7 (RL.o (by simp;rfl) (wn false [(800,[])] hw (by simp) (by simp) (by simp[z31]) (by simp) (by simp) (RL.o (by simp[z];rfl) (RL.nil ⟨_,by simp;rfl,?_⟩)))))
  refine WL.cond (t:=false) (by simp) (by simp) fun _=>WL.skip ?_
  refine WL.sreg (by simp;rfl) (by simp;rfl) (WL.ret ⟨.inr rfl,?_⟩)
  simp[ytb]
 ·have z:(z6t l p c != 0)=true:=by simp[h0]
  have hfin:zbn l p c=(⟨[],[],[]⟩,false):=by unfold zbn;rw[if_neg h0]
  rw[hfin]
  generalize (z1g z6b () l p c).2.1=s at hw ⊢
  generalize z0r p c=s0 at hw ⊢
  refine WL.seq (w7 (RL.o (by simp;rfl) (wn false [(800,[])] hw (by simp) (by simp) (by simp[z31]) (by simp) (by simp) (RL.o (by simp[z];rfl) (RL.nil ⟨_,by simp;rfl,?_⟩)))))
  refine WL.cond (t:=true) (by simp) (fun _=>?_) (by simp)
  refine WL.sreg (by simp;rfl) (by simp;rfl) (WL.nil1 601 false 1 (by simp) (WL.nil1 602 false 1 (by simp) (WL.nil1 603 false 1 (by simp) (WL.ret ⟨.inr rfl,?_⟩))))
  simp[ytb]
def flQ (e:Ev)(p:Int):Bool:=decide (e.op.Kind=7) || (decide (e.op.Kind=6) && decide (e.op.Page=p))
def thQ (t:St)(p:Int):Bool:=decide (0≤p) && t.There.getD p.toNat false
def zc5 (l:List Ev)(p:Int)(a:Int)(x:Int)(t:St):Int :=
 if (flQ (atE l x) p && (decide (0 < (atE l x).End) && (decide ((atE l x).res.Code=0) && thQ t p)))=true then max a (atE l x).Stamp else a
abbrev f1S (l:List Ev)(p a:Int)(t:St)(e:Ev)(r:SL):SL:=[(300,0,.vptr () [i64 p]),(400,0,.ptr 1000000 0 [] 0)] ++ (rcF 6 t ++ (bxE 7 e ++ (r ++ [(1000000,0,.bx true () [i64 a])])))
abbrev f1Q (v:Int):Ex→SL→Prop:=fun e L=>(e=Ex.nrm∨e=Ex.ret)∧RetOk zi6.rs [.nod (.bx true () [i64 v])] (.tuple []) L
theorem zlt (l:List Ev)(p a:Int)(t:St)(e:Ev)(fl:Bool)(v:Int)
  (hv:v=if (fl && (decide (0 < e.End) && (decide (e.res.Code=0) && thQ t p)))=true then max a e.Stamp else a) :
  WL Try.prog zi6.nt zpk (f1S l p a t e [(800,0,bl fl)]) (f1Q v):=by
 have stop:∀ L,L=[(400,0,.ptr 1000000 0 [] 0)] ++ (bxE 7 e ++ [(5900,0,bl false),(1000000,0,.bx true () [i64 a])])→v=a→WL Try.prog zi6.nt zv4 L (f1Q v):=by
  rintro L rfl rfl
  refine WL.cond (t:=false) (by simp) (by simp) fun _=>WL.skip ⟨.inl rfl,?_⟩
  simp[zi6]
 cases fl with
 | false =>
  refine WL.sreg (by simp;rfl) (by simp;rfl) (stop _ (by simp) (by rw[hv];simp))
 | true =>
 by_cases k1:0 < e.End
 ·by_cases k2:e.res.Code=0
  ·have k2':(e.res.Code == 0)=true:=by simp[k2]
   by_cases k3:0≤p
   ·obtain⟨n,rfl⟩:=pu k3
    by_cases k4:n < t.There.length
    ·cases k5:t.There[n] with
     | true =>
      have ht:thQ t (n:Int)=true:=by simp[thQ,k4,k5]
      have hv':v=max a e.Stamp:=by rw[hv];simp[k1,k2,ht]
      refine WL.sreg (by simp[k1,k2',k4,k5];rfl) (by simp;rfl) ?_
      refine WL.cond (t:=true) (by simp) (fun _=>?_) (by simp)
      refine WL.reg (RL.run (by simp;rfl) ⟨_,by simp;rfl,.inl rfl,?_⟩)
      simp[zi6,hv']
      split<;>omega
     | false =>
      have ht:thQ t (n:Int)=false:=by simp[thQ,k4,k5]
      refine WL.sreg (by simp[k1,k2',k4,k5];rfl) (by simp;rfl) (stop _ (by simp) (by rw[hv];simp[ht]))
    ·have ht:thQ t (n:Int)=false:=by simp[thQ,k4]
     refine WL.sreg (by simp[k1,k2',k4];rfl) (by simp;rfl) (stop _ (by simp) (by rw[hv];simp[ht]))
   ·have ht:thQ t p=false:=by simp[thQ,k3]
    refine WL.sreg (by simp[k1,k2',k3];rfl) (by simp;rfl) (stop _ (by simp) (by rw[hv];simp[ht]))
  ·have k2':(e.res.Code == 0)=false:=beq_false_of_ne k2
   refine WL.sreg (by simp[k1,k2'];rfl) (by simp;rfl) (stop _ (by simp) (by rw[hv];simp[k2]))
 ·refine WL.sreg (by simp[k1];rfl) (by simp;rfl) (stop _ (by simp) (by rw[hv];simp[k1]))
theorem zq8 (l:List Ev)(p a:Int)(t:St)(u:Nat)(hu:u < l.length) :
  FnC Try.prog 114 [.nod (.bx true () [i64 a])] [i64 u,z6v false t,.vptr () [sEv l],.vptr () [i64 p],.ptr 1000000 0 [] 0] [.nod (.bx true () [i64 (zc5 l p a u t)])] (.tuple []):=by
 have f1:=z0y (o:=false) (r:=false) hu
 have g1:14≤l.length * 14 - u * 14:=by omega
 have hat:atE l (u:Int)=l[u]:=z3s hu
 refine wb yyw rfl ?_
 refine WL.sreg (by simp;rfl) (by simp;rfl) ?_
 refine WL.sreg (by simp[hu,f1,g1];rfl) (by simp;rfl) ?_
 have hsee:∀ fl,flQ l[u] p=fl→zc5 l p a u t=if (fl && (decide (0 < l[u].End) && (decide (l[u].res.Code=0) && thQ t p)))=true then max a l[u].Stamp else a:=fun fl hf=>by
  unfold zc5;rw[hat,hf]
 generalize zc5 l p a u t=v at hsee ⊢
 clear f1 g1 hat
 generalize l[u]=e at hsee ⊢
 have fin:∀ fl,flQ e p=fl→∀ L,L=f1S l p a t e [(800,0,bl fl)]→WL Try.prog zi6.nt zpk L (f1Q v):=fun fl hf L hL=>by
  rw[hL];exact zlt l p a t e fl v (hsee fl hf)
 by_cases k7:e.op.Kind=7
 ·have k7':(e.op.Kind == 7)=true:=by simp[k7]
  refine WL.sreg (by simp[k7'];rfl) (by simp;rfl) (fin true (by simp[flQ,k7]) _ (by simp))
 ·have k7':(e.op.Kind == 7)=false:=beq_false_of_ne k7
  by_cases k6:e.op.Kind=6
  ·have k6':(e.op.Kind == 6)=true:=by simp[k6]
   by_cases kp:e.op.Page=p
   ·have kp':(e.op.Page == p)=true:=by simp[kp]
    refine WL.sreg (by simp[k7',k6',kp'];rfl) (by simp;rfl) (fin true (by simp[flQ,k6,kp]) _ (by simp))
   ·have kp':(e.op.Page == p)=false:=beq_false_of_ne kp
    refine WL.sreg (by simp[k7',k6',kp'];rfl) (by simp;rfl) (fin false (by simp[flQ,k6,kp]) _ (by simp))
  ·have k6':(e.op.Kind == 6)=false:=beq_false_of_ne k6
   refine WL.sreg (by simp[k7',k6'];rfl) (by simp;rfl) (fin false (by simp[flQ,k6,k7]) _ (by simp))
def z2d (l:List Ev)(p c q:Int):Int:=if z6t l p c ≠ 0 then -1 else (z1g (zc5 l q) 0 l p c).2.2
theorem zid (l:List Ev)(q:Int):SeeOk l .one 114 [.vptr () [sEv l],.vptr () [i64 q],.ptr 1000000 0 [] 0] (fun a:Int=>[i64 a]) (fun _=>[]) (zc5 l q) (fun _ _=>True) :=
 ⟨rfl,rfl,rfl,by simp,fun X k h=>by
  obtain⟨h1,b,h2⟩:=h (1000000,[]) (by simp)
  simp at h1 h2
  simp[h1,h2,z31],fun _ _ _ _ _ _ _=>trivial,fun _ a s u hu _ _ _=>zq8 l q a (z0d s l[u]).2 u hu⟩
theorem zef (l:List Ev)(hE:EvOk l)(p c q:Int):FnC Try.prog 67 [] [sEv l,i64 p,i64 c,i64 q] [] (i64 (z2d l p c q)):=by
 have hw:=zk5 hE (zid l q) p c 0 (fun _=>trivial)
 rw[z59] at hw
 simp only[Sh.gs,Sh.fv] at hw
 refine wb x24 rfl ?_
 refine WL.sreg (by simp;rfl) (by simp;rfl) ?_
 refine WL.sreg (by simp;rfl) (by simp;rfl) ?_
 refine WL.raise 9 1 (by simp) (by simp;rfl) (by simp) ?_
 have eF:z2d l p c q=if z6t l p c ≠ 0 then -1 else (z1g (zc5 l q) 0 l p c).2.2:=rfl
 generalize (z1g (zc5 l q) 0 l p c).2.2=v at hw eF
 generalize z2d l p c q=r at eF ⊢
 refine w7 (RL.o (by simp;rfl) (wn true [(900,[])] hw (by simp) (by simp) (by simp[z31,y27]) (by simp) (by simp) (RL.o (by simp;rfl) (RL.nil ⟨_,by simp;rfl,?_⟩))))
 by_cases h0:z6t l p c=0
 ·have z:(z6t l p c != 0)=false:=by simp[h0]
  have er:r=v:=by rw[eF,if_neg (by simpa using h0)]
  refine WL.seq (WL.sreg (by simp[z];rfl) (by simp;rfl) ?_)
  refine WL.cond (t:=false) (by simp) (by simp) fun _=>WL.skip ?_
  refine WL.sreg (by simp;rfl) (by simp;rfl) (WL.ret ⟨.inr rfl,?_⟩)
  simp[yxj,er]
 ·have z:(z6t l p c != 0)=true:=by simp[h0]
  have er:r=-1:=by rw[eF,if_pos h0]
  refine WL.seq (WL.sreg (by simp[z];rfl) (by simp;rfl) ?_)
  refine WL.cond (t:=true) (by simp) (fun _=>?_) (by simp)
  refine WL.sreg (by simp;rfl) (by simp;rfl) (WL.ret ⟨.inr rfl,?_⟩)
  simp[yxj,er]
theorem zte (s:St)(c:Nat)(q:Op):(z4d s c q).1.There.length=s.There.length:=by
 simp only[z4d]
 repeat' split
 all_goals simp
theorem zk6 (s:St)(cl:Int)(q:Op):(DoB s cl q).2.1.There.length=s.There.length:=by
 unfold DoB
 repeat' split
 all_goals first | rfl | exact zte _ _ _
theorem z45 (s:St)(e:Ev):(z0d s e).2.There.length=s.There.length:=by
 unfold z0d
 split
 ·rfl
 ·exact zk6 _ _ _
theorem zq9 (s:St)(cl:Int)(q:Op)(hk:q.Kind=6∨q.Kind=7):(DoB s cl q).2.1=s:=by
 unfold DoB
 split
 ·rfl
 ·split
  ·simp only[z4d]
   rcases hk with hk | hk<;>simp [hk]
  ·rfl
theorem zbo (s:St)(e:Ev)(hk:e.op.Kind=6∨e.op.Kind=7):(z0d s e).2=s:=by
 unfold z0d
 split
 ·rfl
 ·exact zq9 _ _ _ hk
theorem zqa (k:Int):z7f k 0=false:=by simp[z7f]
theorem zie (s:St)(e:Ev)(hk:e.op.Kind=6)(hE:0 < e.End)(hc:e.res.Code=0)(hr:(z0d s e).1=true):thQ s e.op.Page=true:=by
 unfold z0d at hr
 rw[hc,zqa] at hr
 have hE':decide (e.End=0)=false:=by simp;omega
 simp only[Bool.and_false,py,if_false,hE',tw] at hr
 have h0:(DoB s e.Client e.op).2.2.Code=0:=by
  simp only[z1d,pp,beq_iff_eq] at hr
  rw[hr.1,hc]
 unfold DoB at h0
 split at h0
 ·simp[rsE] at h0
 ·split at h0
  ·rename_i hcd
   simp only[z06,hk] at hcd
   simp only[show ¬ ((6:Int)=1) by decide,if_false,show ((6:Int)=2∨(6:Int)=6∨(6:Int)=8) by decide,if_true,show ¬ ((6:Int)=2) by decide,false_and,show ¬ ((6:Int)=8) by decide] at hcd
   by_cases h1:z34 s e.op.Page=false
   ·simp[h1] at hcd
   ·by_cases h2:z2j s e.op.Page=false
    ·simp[h1,h2] at hcd
    ·have g1:z34 s e.op.Page=true:=by simpa using h1
     have g2:z2j s e.op.Page=true:=by simpa using h2
     exact g2
  ·rename_i hcd
   simp only[rsE] at h0
   exact absurd h0 hcd
theorem zgt (s:St)(h:OkSt s)(e:Ev)(hE:0≤e.End)(hD:e.op.Data.length≤1000):FnC Try.prog 115 (gsT s) [vwT s,.agg (z02 false false e)] (gsT (z0d s e).2) (.tuple []):=by
 have hdo:=z8f s h e.Client e.op (by unfold z0c;omega)
 have hb:=zgp e.op e.res.Code
 refine wb yyx rfl ?_
 refine w7 (n8 (by simp;rfl) (by simp) (by simp[zes]) (by simp) (RL.o (by simp;rfl) (RL.nil ⟨_,by simp;rfl,?_⟩)))
 have does:(z0d s e).2=(DoB s e.Client e.op).2.1→WL Try.prog zpl.nt zv5 (spS s e [(1500,0,bl true)]) (fun x L=>(x=Ex.nrm∨x=Ex.ret)∧RetOk zpl.rs (gsT (z0d s e).2) (.tuple []) L):=fun hs=>by
  rw[hs]
  generalize DoB s e.Client e.op=dd at hdo
  obtain⟨o',t,r⟩:=dd
  simp only at hdo ⊢
  refine WL.cond (t:=true) (by simp) (fun _=>?_) (by simp)
  refine WL.reg (RL.o (by simp;rfl) (RL.call true [(1000000,[]),(1000100,[]),(1000200,[])] hdo (by simp) (by simp) (by simp[z31]) (zbi s t r) (RL.nil ⟨_,by simp;rfl,.inl rfl,?_⟩)))
  simp[zpl]
 by_cases p:e.End=0
 ·have z:(e.End == 0)=true:=by simp[p]
  refine w7 (RL.o (by simp[z];rfl) (RL.g (by simp;rfl) (RL.callN (by simp) (RL.g (by simp;rfl) (RL.o (by simp;rfl) (RL.nil ⟨_,by simp;rfl,?_⟩))))))
  refine WL.eqL ?_ (does (by simp[z0d,p]))
  simp[p]
 ·have z:(e.End == 0)=false:=beq_false_of_ne p
  have hpos:0 < e.End:=by omega
  cases hbad:z7f e.op.Kind e.res.Code with
  | false =>
   rw[hbad] at hb
   refine w7 (RL.o (by simp[z];rfl) (RL.g (by simp;rfl) (RL.callY0 false (by simp) hb (by simp) (by simp) (RL.g (by simp;rfl) (RL.o (by simp;rfl) (RL.nil ⟨_,by simp;rfl,?_⟩))))))
   refine WL.eqL ?_ (does (by simp[z0d,hpos,hbad]))
   simp
  | true =>
   rw[hbad] at hb
   refine w7 (RL.o (by simp[z];rfl) (RL.g (by simp;rfl) (RL.callY0 false (by simp) hb (by simp) (by simp) (RL.g (by simp;rfl) (RL.o (by simp;rfl) (RL.nil ⟨_,by simp;rfl,?_⟩))))))
   refine WL.cond (t:=false) (by simp) (by simp) fun _=>WL.skip ⟨.inl rfl,?_⟩
   simp[zpl,z0d,hpos,hbad]
theorem RL.cut {P:Program}{nt:Nat}{L:SL}{K:SL→Prop}{segs segs':List Sg}(e:z26 segs=z26 segs')(h:RL P nt segs' L K):RL P nt segs L K:=by
 intro C ops idx hP hn hc
 rw[e] at hc
 exact h C ops idx hP hn hc
@[simp] theorem x2d:List.range 14=[0,1,2,3,4,5,6,7,8,9,10,11,12,13]:=rfl
theorem zif {l:List Ev}(hn:l.length≤1000)(hd:∀ e ∈ l,e.op.Data=[]):EvOk l:=⟨hn,fun e he=>by rw[hd e he];simp⟩
def rfQ (e:Ev)(p q:Int)(s:St):Bool:=decide (0 < e.End) && (decide (e.res.Code=0) && ((decide (e.op.Kind=6) && decide (e.op.Page=q)) || (decide (e.op.Kind=7) && (decide (0≤q) && (decide (q < p) && s.There.getD q.toNat false)))))
theorem ymc (l:List Ev)(p q:Int)(s:St)(hp:(s.There.length:Int)=p)(a:Int)(u:Nat)(hu:u < l.length)(hr:(z0d s l[u]).1=true) :
  zc5 l q a u (z0d s l[u]).2=if rfQ l[u] p q s=true then max a l[u].Stamp else a:=by
 unfold zc5
 rw[z3s hu]
 have:(flQ l[u] q && (decide (0 < l[u].End) && (decide (l[u].res.Code=0) && thQ (z0d s l[u]).2 q)))=rfQ l[u] p q s:=by
  generalize l[u]=e at *
  unfold flQ rfQ
  by_cases k7:e.op.Kind=7
  ·have hs:=zbo s e (.inr k7)
   have n6:¬ e.op.Kind=6:=by omega
   rw[hs]
   simp only[k7,decide_true,Bool.true_or,ri,show ¬ ((7:Int)=6) by decide,decide_false,Bool.false_and,tw]
   unfold thQ
   by_cases z:q < p
   ·simp[z]
   ·have:s.There.getD q.toNat false=false∨¬ 0≤q:=by
     by_cases z0:0≤q
     ·left
      rw[pk,qq (by omega)]
      rfl
     ·exact .inr z0
    rw[pk] at this
    rcases this with h | h<;>simp [z,h]
  ·by_cases k6:e.op.Kind=6
   ·have hs:=zbo s e (.inl k6)
    rw[hs]
    by_cases hE:0 < e.End
    ·by_cases hc:e.res.Code=0
     ·have:=zie s e k6 hE hc hr
      by_cases hq:e.op.Page=q
      ·subst hq;simp[k6,hE,hc,this]
      ·simp[k6,hq]
     ·simp[hc]
    ·simp[hE]
   ·simp[k6,k7]
 rw[this]
theorem zeg (s' s:St):z17 true (gsT s) (gsT s') (.tuple []:AU)=true:=by
 have:=zgq s' true s
 simpa using this
abbrev rgT (l:List Ev)(p q:Int)(s:St)(b:Int)(j:Nat):SL:=[(0,0,sEv l),(100,0,i64 p),(300,0,i64 q)] ++ (rcB 9 s ++ [(1000,0,sI true (z0s l)),(1100,0,i64 b),(1200,0,i64 j)])
theorem z4x {σ:Type}(see:σ→Int→St→σ)(a:σ){l:List Ev}{p c:Int}(h0:z6t l p c=0):z0u p c=false∧z1g see a l p c=goW l see (z0r p c) a (z0s l)∧(goW l see (z0r p c) a (z0s l)).1=0∧∀ j,j < l.length→z1w l j c=true:=by
 have h1:=z59 see a l p c
 rw[h0] at h1
 cases hb:z0u p c with
 | true=>unfold z1g at h1;rw[hb] at h1;simp at h1
 | false =>
  unfold z1g at h1 ⊢
  rw[hb] at h1 ⊢
  simp only[py,if_false] at h1 ⊢
  cases hf:z4w l c with
  | some i=>rw [hf] at h1;simp only at h1;omega
  | none=>rw [hf] at h1;exact⟨trivial,rfl,h1,zgo hf⟩
theorem zqb (l:List Ev)(p q:Int)(s:St)(hlen:(s.There.length:Int)=p)(a:Int)(j:Nat)(e:Ev)(Q:Ex→SL→Prop)
  (hK:∀ r L,(r=[]∨r=[(8000,0,bl false)])→L=rgT l p q s (if rfQ e p q s=true then max a e.Stamp else a) j ++ (bxE 13 e ++ r)→WL Try.prog zjw.nt zt4 L Q):WL Try.prog zjw.nt y0j (rgT l p q s a j ++ bxE 13 e) Q:=by
 have mx:(if a < e.Stamp then e.Stamp else a)=max a e.Stamp:=by split<;>omega
 have yes:rfQ e p q s=true→∀ L,L=rgT l p q s a j ++ (bxE 13 e ++ [(8000,0,bl true)])→WL Try.prog zjw.nt y0i L (wg (fun L'=>WL Try.prog zjw.nt zt4 L' Q) Q):=fun h L hL=>by
  subst hL
  refine WL.cond (t:=true) (by simp) (fun _=>?_) (by simp)
  refine WL.reg (RL.run (by simp;rfl) ⟨_,by simp;rfl,hK [] _ (.inl rfl) ?_⟩)
  simp[h,mx]
 have no:rfQ e p q s=false→∀ L,L=rgT l p q s a j ++ (bxE 13 e ++ [(8000,0,bl false)])→WL Try.prog zjw.nt y0i L (wg (fun L'=>WL Try.prog zjw.nt zt4 L' Q) Q):=fun h L hL=>by
  subst hL
  refine WL.cond (t:=false) (by simp) (by simp) fun _=>WL.skip (hK _ _ (.inr rfl) ?_)
  simp[h]
 by_cases k1:0 < e.End
 ·by_cases k2:e.res.Code=0
  ·have k2':(e.res.Code == 0)=true:=by simp[k2]
   have tail:(decide (e.op.Kind=6) && decide (e.op.Page=q))=false→∀ (f6:Bool) (f7:Bool),(e.op.Kind == 6)=f6→(e.op.Page == q)=f7→WL Try.prog zjw.nt y0j (rgT l p q s a j ++ bxE 13 e) Q:=fun hz f6 f7 e6 e7=>by
    have hf:(f6 && f7)=false:=by
     rw[← e6,← e7]
     by_cases h1:e.op.Kind=6
     ·by_cases h2:e.op.Page=q
      ·simp[h1,h2] at hz
      ·simp[h2]
     ·simp[h1]
    by_cases k7:e.op.Kind=7
    ·have k7':(e.op.Kind == 7)=true:=by simp[k7]
     have f60:f6=false:=by rw[← e6];exact beq_false_of_ne (by omega)
     subst f60
     by_cases k3:0≤q
     ·obtain⟨n,rfl⟩:=pu k3
      by_cases k4:(n:Int) < p
      ·have k5:n < s.There.length:=by omega
       have k5':n+1≤s.There.length:=k5
       cases k6:s.There[n] with
       | true=>refine WL.seq (WL.sreg (by simp[k1,k2',e6,k7',k4,k5,k5',k6];rfl) (by simp;rfl) (yes (by simp[rfQ,k1,k2,k7,k4,k5,k6]) _ (by simp)))
       | false=>refine WL.seq (WL.sreg (by simp[k1,k2',e6,k7',k4,k5,k5',k6];rfl) (by simp;rfl) (no (by simp[rfQ,k1,k2,k7,k4,k5,k6]) _ (by simp)))
      ·refine WL.seq (WL.sreg (by simp[k1,k2',e6,k7',k4];rfl) (by simp;rfl) (no (by simp[rfQ,k7,k4]) _ (by simp)))
     ·refine WL.seq (WL.sreg (by simp[k1,k2',e6,k7',k3];rfl) (by simp;rfl) (no (by simp[rfQ,k7,k3]) _ (by simp)))
    ·have k7':(e.op.Kind == 7)=false:=beq_false_of_ne k7
     have hno:rfQ e p q s=false:=by
      unfold rfQ;rw[hz];simp[k7]
     cases f6 with
     | false=>refine WL.seq (WL.sreg (by simp[k1,k2',e6,k7'];rfl) (by simp;rfl) (no hno _ (by simp)))
     | true =>
      simp only[ri] at hf
      subst hf
      refine WL.seq (WL.sreg (by simp[k1,k2',e6,e7,k7'];rfl) (by simp;rfl) (no hno _ (by simp)))
   by_cases k6:e.op.Kind=6
   ·have k6':(e.op.Kind == 6)=true:=by simp[k6]
    by_cases kp:e.op.Page=q
    ·have kp':(e.op.Page == q)=true:=by simp[kp]
     refine WL.seq (WL.sreg (by simp[k1,k2',k6',kp'];rfl) (by simp;rfl) (yes (by simp[rfQ,k1,k2,k6,kp]) _ (by simp)))
    ·exact tail (by simp[kp]) _ _ k6' (beq_false_of_ne kp)
   ·exact tail (by simp[k6]) _ _ (beq_false_of_ne k6) rfl
  ·have k2':(e.res.Code == 0)=false:=beq_false_of_ne k2
   refine WL.seq (WL.sreg (by simp[k1,k2'];rfl) (by simp;rfl) (no (by simp[rfQ,k2]) _ (by simp)))
 ·refine WL.seq (WL.sreg (by simp[k1];rfl) (by simp;rfl) (no (by simp[rfQ,k1]) _ (by simp)))
theorem zig (l:List Ev)(hE:EvOk l)(p c q:Int):FnC Try.prog 68 [] [sEv l,i64 p,i64 c,i64 q] [] (i64 (z2d l p c q)):=by
 have hn:=hE.n
 have hOl:=z3z l
 have hchk:=zgs l hE p c
 refine wb x25 rfl ?_
 refine WL.sreg (by simp;rfl) (by simp;rfl) ?_
 refine WL.seq (w7 (RL.o (by simp;rfl) (RL.call0 false hchk (by simp) (by simp) ?_)))
 by_cases h0:z6t l p c=0
 ·have z:(z6t l p c != 0)=false:=by simp[h0]
  refine RL.o (by simp[z];rfl) (RL.nil ⟨_,by simp;rfl,?_⟩)
  refine WL.cond (t:=false) (by simp) (by simp) fun _=>WL.skip ?_
  obtain⟨hb,hw,hg0,htm⟩:=z4x (zc5 l q) 0 h0
  have eF:z2d l p c q=(goW l (zc5 l q) (z0r p c) 0 (z0s l)).2.2:=by unfold z2d;rw[if_neg (by simpa using h0),hw]
  rw[eF]
  have hok:=z1x hb
  have hlen0:((z0r p c).There.length:Int)=p:=by
   have:1≤p:=by
    simp only[z0u,qm,decide_eq_false_iff_not] at hb
    omega
   have e:z0r p c=⟨List.replicate p.toNat false,List.replicate p.toNat z16,List.replicate c.toNat [-1,-1,-1,-1,-1,-1]⟩:=by unfold z0r;rw[hb];rfl
   rw[e];simp;omega
  refine w7 (RL.o (by simp;rfl) (RL.call0 false (z56 p c) (by simp) (by simp) (RL.o (by simp;rfl) (RL.nil ⟨_,by simp;rfl,?_⟩))))
  clear hw z hchk hb eF
  generalize z0r p c=s0 at hok hg0 hlen0 ⊢
  refine w7 (RL.o (by simp;rfl) (RL.call0 false (z4i l hn) (by simp) (by simp) (RL.o (by simp;rfl) (RL.nil ⟨_,by simp;rfl,?_⟩))))
  refine WL.sreg (by simp;rfl) (by simp;rfl) ?_
  refine WL.seq (WL.sreg (by simp;rfl) (by simp;rfl) ?_)
  refine WL.block (WL.loop (ι:={x:Nat × St × Int // x.1≤(z0s l).length∧OkSt x.2.1∧(x.2.1.There.length:Int)=p∧(goW l (zc5 l q) x.2.1 x.2.2 ((z0s l).drop x.1)).1=0∧(goW l (zc5 l q) x.2.1 x.2.2 ((z0s l).drop x.1)).2.2=(goW l (zc5 l q) s0 0 (z0s l)).2.2}) (fun x=>rgT l p q x.1.2.1 x.1.2.2 x.1.1) (fun x=>(z0s l).length - x.1.1) ⟨(0,s0,0),r9 _,hok,hlen0,hg0,rfl⟩ (by simp) fun x=>?_)
  obtain⟨⟨j,s,a⟩,hj,hs,hlen,hg1,hg2⟩:=x
  simp only at hj hs hlen hg1 hg2 ⊢
  by_cases hlt:j < (z0s l).length
  ·obtain⟨u,hu,eu⟩:=z6c hlt
   have f1:=z0y (o:=false) (r:=false) hu
   have g1:14≤l.length * 14 - u * 14:=by omega
   have hlt':j+1≤(z0s l).length:=hlt
   have w:IntKind.wrap .i64 ((j:Int)+1)=((j+1:Nat):Int):=by rw[z01 (by omega) (by omega)];omega
   have hE0:=z6d hu (htm u hu)
   have hst:=zgt s hs l[u] hE0 (hE.d _ (qc hu))
   have hsee:=ymc l p q s hlen a u hu
   have htl:=z45 s l[u]
   have hok:=z37 hs l[u]
   rw[qx hlt] at hg1 hg2
   simp only[goW,eu,z3s hu] at hg1 hg2
   generalize z0d s l[u]=dd at hst hg1 hg2 hok hsee htl
   obtain⟨v,t⟩:=dd
   simp only at hst hg1 hg2 hok hsee htl
   cases v with
   | false=>simp only[py,if_false] at hg1;omega
   | true =>
    simp only[if_true] at hg1 hg2
    have hsee:=hsee rfl
    refine WL.seq (WL.sreg (by simp[hlt];rfl) (by simp;rfl) ?_)
    refine WL.cond (t:=true) (by simp[hlt]) (fun _=>WL.skip ?_) (by simp)
    refine WL.seq (WL.block ?_)
    refine WL.sreg (by simp[hlt,hlt',eu,hu,f1,g1];rfl) (by simp;rfl) ?_
    refine WL.eqL (L':=rgT l p q s a j ++ bxE 13 l[u]) (by simp) (zqb l p q s hlen a j l[u] _ fun r L hr hL=>?_)
    subst hL
    rw[← hsee]
    generalize zc5 l q a u t=b at hg1 hg2 ⊢
    have fin:∀ L',L'=rgT l p q t b j→WL Try.prog zjw.nt yi5 L' (wg (fun L'=>∃ i:{x:Nat × St × Int // x.1≤(z0s l).length∧OkSt x.2.1∧(x.2.1.There.length:Int)=p∧(goW l (zc5 l q) x.2.1 x.2.2 ((z0s l).drop x.1)).1=0∧(goW l (zc5 l q) x.2.1 x.2.2 ((z0s l).drop x.1)).2.2=(goW l (zc5 l q) s0 0 (z0s l)).2.2},L'=rgT l p q i.1.2.1 i.1.2.2 i.1.1∧(z0s l).length - i.1.1 < (z0s l).length - j) (wm 0 (wg (fun L'=>WL Try.prog zjw.nt zuw L' fun e L=>(e=Ex.nrm∨e=Ex.ret)∧RetOk zjw.rs [] (i64 (goW l (zc5 l q) s0 0 (z0s l)).2.2) L) fun e L=>(e=Ex.nrm∨e=Ex.ret)∧RetOk zjw.rs [] (i64 (goW l (zc5 l q) s0 0 (z0s l)).2.2) L))):=fun L' hL'=>by
     subst hL'
     refine WL.reg (RL.run (by simp[w];rfl) ⟨_,by simp;rfl,?_⟩)
     exact⟨⟨(j+1,t,b),hlt,hok,by rw[htl];exact hlen,hg1,hg2⟩,by simp,by simp only;omega⟩
    rcases hr with rfl | rfl
    ·refine WL.reg (RL.o (by simp;rfl) (RL.call true [(901,[]),(902,[]),(903,[])] hst (by simp) (by simp) (by simp[z31]) (zeg t s) (RL.nil ⟨_,by simp;rfl,fin _ (by simp)⟩)))
    ·refine WL.reg (RL.o (by simp;rfl) (RL.call true [(901,[]),(902,[]),(903,[])] hst (by simp) (by simp) (by simp[z31]) (zeg t s) (RL.nil ⟨_,by simp;rfl,fin _ (by simp)⟩)))
  ·obtain rfl:j=(z0s l).length:=by omega
   rw[tz] at hg2
   simp only[goW] at hg2
   refine WL.seq (WL.sreg (by simp;rfl) (by simp;rfl) ?_)
   refine WL.cond (t:=false) (by simp) (by simp) fun _=>WL.exit ?_
   refine WL.sreg (by simp;rfl) (by simp;rfl) (WL.ret ⟨.inr rfl,?_⟩)
   simp[zjw,← hg2]
 ·have z:(z6t l p c != 0)=true:=by simp[h0]
  have er:z2d l p c q=-1:=by unfold z2d;rw[if_pos h0]
  refine RL.o (by simp[z];rfl) (RL.nil ⟨_,by simp;rfl,?_⟩)
  refine WL.cond (t:=true) (by simp) (fun _=>?_) (by simp)
  refine WL.sreg (by simp;rfl) (by simp;rfl) (WL.ret ⟨.inr rfl,?_⟩)
  simp[zjw,er]
def wrF (e:Ev)(s:St)(p:Int):Bool:=decide (e.op.Kind=4) && (decide (0≤e.op.Handle) && (decide (e.op.Handle < 6) && decide ((s.Handles.getD e.Client.toNat []).getD e.op.Handle.toNat 0=p)))
theorem zk7 (e:Ev)(s:St)(h:OkSt s)(hc0:0≤e.Client)(hc1:e.Client < s.Handles.length)(p:Int):FnC Try.prog 155 [] [.agg (z02 false false e),z6v false s,i64 p] [] (bl (wrF e s p)):=by
 obtain⟨c,hc⟩:=pu hc0
 have hcl:c < s.Handles.length:=by omega
 have hcl':c+1≤s.Handles.length:=hcl
 have h6:s.Handles[c].length=6:=h.l6 _ (qc hcl)
 refine wb yz7 rfl ?_
 refine WL.sreg (by simp;rfl) (by simp;rfl) ?_
 refine WL.sreg (by simp;rfl) (by simp;rfl) ?_
 by_cases k4:e.op.Kind=4
 ·have k4':(e.op.Kind == 4)=true:=by simp[k4]
  by_cases k1:0≤e.op.Handle
  ·obtain⟨n,hn⟩:=pu k1
   by_cases k2:n < 6
   ·have k2':(n:Int) < 6:=by omega
    have k2s:n+1≤6:=k2
    refine WL.sreg (by simp[k4',hn,k2,k2',k2s,hc,hcl,hcl',h6];rfl) (by simp;rfl) (WL.ret ⟨.inr rfl,?_⟩)
    simp[zpu,wrF,k4,hn,k2',hc,hcl,k2,h6]
    rfl
   ·have k2':¬ (n:Int) < 6:=by omega
    refine WL.sreg (by simp[k4',hn,k2,k2'];rfl) (by simp;rfl) (WL.ret ⟨.inr rfl,?_⟩)
    simp[zpu,wrF,k4,hn,k2']
  ·refine WL.sreg (by simp[k4',k1];rfl) (by simp;rfl) (WL.ret ⟨.inr rfl,?_⟩)
   simp[zpu,wrF,k1]
 ·have k4':(e.op.Kind == 4)=false:=beq_false_of_ne k4
  refine WL.sreg (by simp[k4'];rfl) (by simp;rfl) (WL.ret ⟨.inr rfl,?_⟩)
  simp[zpu,wrF,k4]
def zqc (bs:List (List UInt8))(b:List UInt8):Bool:=bs.any (· == b) || (bs.any (fun x=>x.take 4 == b.take 4) && bs.any (fun x=>x.drop 4 == b.drop 4))
abbrev myS (bs:List (List UInt8))(b:List UInt8)(f r:Bool)(i:Nat):SL:=[(100,0,sU false b),(500,0,bl f),(600,0,bl r),(1000,0,sUU false bs),(1100,0,i64 bs.length),(1200,0,i64 i)]
abbrev myQ (v:Bool):Ex→SL→Prop:=fun e L=>e=Ex.ret∧RetOk zle.rs [] (bl v) L
theorem y28 (bs:List (List UInt8))(hn:bs.length≤100000)(h16:∀ x ∈ bs,x.length=16)(tn:Bool)(b:List UInt8)(hb:b.length=16):FnC Try.prog 118 [] [.agg [sUU false bs,bl tn],sU false b] [] (bl (zqc bs b)):=by
 refine wb yz0 rfl ?_
 refine WL.mono (Q':=myQ (zqc bs b)) ?_ fun e L h=>⟨.inr h.1,h.2⟩
 refine WL.sreg (by simp;rfl) (by simp;rfl) ?_
 refine WL.scope (WL.sreg (by simp;rfl) (by simp;rfl) ?_)
 refine WL.seq (WL.label ?_)
 refine WL.seq (WL.sreg (by simp;rfl) (by simp;rfl) ?_)
 refine WL.block (wd bs.length (fun i=>myS bs b ((bs.take i).any (fun x=>x.take 4 == b.take 4)) ((bs.take i).any (fun x=>x.drop 4 == b.drop 4)) i) (fun i=>(bs.take i).any (· == b)=false) (by simp) (by simp) fun i hi hno=>?_)
 by_cases h:i < bs.length
 ·have w:IntKind.wrap .i64 ((i:Int)+1)=((i+1:Nat):Int):=by rw[z01 (by omega) (by omega)];omega
  have hx:=h16 _ (qc h)
  have e1:∀ p:List UInt8→Bool,(bs.take (i+1)).any p=((bs.take i).any p || p bs[i]):=fun p=>by
   rw[sf h,List.any_append];simp
  have heq:=z3h bs[i] b
  have ha:=z3h (bs[i].take 4) (b.take 4)
  have hz:=z3h (bs[i].drop 4) (b.drop 4)
  rw[e1,e1,e1]
  have hany:bs.any (· == b)=true∨(bs[i] == b)=false:=by
   cases hq:(bs[i] == b) with
   | false=>exact .inr rfl
   | true=>exact .inl (t6.2 ⟨_,qc h,hq⟩)
  generalize (bs.take i).any (fun x=>x.take 4 == b.take 4)=f
  generalize (bs.take i).any (fun x=>x.drop 4 == b.drop 4)=r
  clear e1
  generalize hbx:bs[i]=x at hx hany heq ha hz ⊢
  have t1:List.take 4 (List.map (fun b=>u8 (b.toNat:Int)) x)=bm (x.take 4):=by rw[bm,ra]
  have t2:List.take 4 (List.map (fun b=>u8 (b.toNat:Int)) b)=bm (b.take 4):=by rw[bm,ra]
  have t3:List.take 12 (List.drop 4 (List.map (fun b=>u8 (b.toNat:Int)) x))=bm (x.drop 4):=by rw[bm,sr,pr (by simp[hx])]
  have t4:List.take 12 (List.drop 4 (List.map (fun b=>u8 (b.toNat:Int)) b))=bm (b.drop 4):=by rw[bm,sr,pr (by simp[hb])]
  have l1:(x.take 4).length=4:=by simp[hx]
  have l2:(b.take 4).length=4:=by simp[hb]
  have l3:(x.drop 4).length=12:=by simp[hx]
  have l4:(b.drop 4).length=12:=by simp[hb]
  refine WL.sreg (by simp[h];rfl) (by simp;rfl) ?_
  refine WL.seq (WL.cond (t:=true) (by simp[h]) (fun _=>WL.skip ?_) (by simp))
  refine WL.seq (WL.block (WL.sreg (by simp[h,hbx];rfl) (by simp;rfl) ?_))
  refine WL.seq (w7 (RL.o (by simp;rfl) (RL.call0 false heq (by simp) (by simp) (RL.nil ⟨_,by simp;rfl,?_⟩))))
  cases q0:(x == b) with
  | true =>
   refine WL.cond (t:=true) (by simp[q0]) (fun _=>?_) (by simp)
   refine WL.sreg (by simp;rfl) (by simp;rfl) (WL.ret ⟨rfl,?_⟩)
   have:zqc bs b=true:=by
    rcases hany with hany | hany
    ·simp[zqc,hany]
    ·rw[q0] at hany;cases hany
   simp[zle,this]
  | false =>
   refine WL.cond (t:=false) (by simp[q0]) (by simp) fun _=>WL.skip ?_
   refine WL.seq (WL.seq ?_)
   generalize x.take 4=xa at *
   generalize b.take 4=ba at *
   generalize x.drop 4=xd at *
   generalize b.drop 4=bd at *
   have hno':(((bs.take i).any fun x=>x == b) || false)=false:=by rw[hno];rfl
   have last:∀ f',f'=(f || xa == ba)→∀ L,L=[(100,0,sU false b),(500,0,bl f'),(600,0,bl r),(800,0,sU false x),(1000,0,sUU false bs),(1100,0,i64 bs.length),(1200,0,i64 i)]→∀ Q,(∀ L',L'=myS bs b (f || xa == ba) (r || xd == bd) (i+1)→Q Ex.nrm L') →
     WL Try.prog zle.nt zv8 L (wm 1 (wg (fun L'=>WL Try.prog zle.nt zv9 L' Q) Q)):=fun f' hf L hL Q hQ=>by
    subst hL hf
    refine WL.seq (WL.seq (WL.draw z0p (by simp[z05,noH]) (DL.o (by simp[hx,hb,t3,t4];exact⟨rfl,rfl⟩) (DL.call0 false hz (by simp[l3,l4]) (by simp) (DL.o (by simp;exact⟨rfl,rfl⟩) (DL.nil ⟨by kernel_rfl,_,by simp;rfl,?_⟩))))))
    cases q2:(xd == bd) with
    | true =>
     refine WL.cond (t:=false) (by simp) (by simp) fun _=>WL.skip ?_
     refine WL.reg (RL.run (by simp;rfl) ⟨_,by simp;rfl,?_⟩)
     refine WL.reg (RL.run (by simp[w];rfl) ⟨_,by simp;rfl,hQ _ (by simp[q2])⟩)
    | false =>
     refine WL.cond (t:=true) (by simp) (fun _=>WL.fin [29] (by simp;rfl) (WL.exit ?_)) (by simp)
     refine WL.reg (RL.run (by simp[w];rfl) ⟨_,by simp;rfl,hQ _ (by simp[q2])⟩)
   refine WL.draw z0p (by simp[z05,noH]) (DL.o (by simp[hx,hb,t1,t2];exact⟨rfl,rfl⟩) (DL.call0 false ha (by simp[l1,l2]) (by simp) (DL.nil ⟨by kernel_rfl,_,by simp;rfl,?_⟩)))
   cases q1:(xa == ba) with
   | true =>
    refine WL.cond (t:=true) (by simp[q1]) (fun _=>?_) (by simp)
    refine WL.reg (RL.run (by simp;rfl) ⟨_,by simp;rfl,?_⟩)
    refine last true (by simp[q1]) _ (by simp[hx]) _ fun L' hL'=>⟨h,?_,hno'⟩
    rw[hL',q1]
   | false =>
    refine WL.cond (t:=false) (by simp[q1]) (by simp) fun _=>WL.skip ?_
    refine WL.fin [23] (by simp;rfl) (last f (by simp[q1]) _ (by simp[hx]) _ fun L' hL'=>⟨h,?_,hno'⟩)
    rw[hL',q1]
 ·obtain rfl:i=bs.length:=by omega
  rw[List.take_length] at hno ⊢
  refine WL.sreg (by simp;rfl) (by simp;rfl) ?_
  refine WL.seq (WL.cond (t:=false) (by simp) (by simp) fun _=>WL.exit ?_)
  have hv:zqc bs b=(bs.any (fun x=>x.take 4 == b.take 4) && bs.any (fun x=>x.drop 4 == b.drop 4)):=by unfold zqc;rw[hno];rfl
  rw[hv]
  generalize bs.any (fun x=>x.take 4 == b.take 4)=f
  generalize bs.any (fun x=>x.drop 4 == b.drop 4)=r
  cases f<;>refine WL.sreg (by simp;rfl) (by simp;rfl) (WL.ret ⟨rfl,?_⟩)<;>simp [zle]
structure SeeN {σ:Type} (l:List Ev) (c:Int) (f:Nat) (cps:List AU) (B D:σ→List AU) (see:σ→Int→St→σ) (Inv:Nat→σ→St→Prop):Prop where
 no:z0m cps=true
 root:z5q (Sh.two.ks.map (·.1)) cps=true
 roots:z1f cps=Sh.two.ks.map (·.1)
 len:cps.length≤1000
 tr:∀ (X:XF Unit) (k:Nat),(∀ e ∈ Sh.two.ks,(X e.1).1=0∧∃ b,(X e.1).2=.bx true () b)→trL X Sh.two.ks false k cps=some cps
 inv:∀ j a s (u:Nat) (hu:u < l.length),z1w l u c=true→OkSt s→Inv j a s→(z0d s l[u]).1=true→Inv (j+1) (see a u (z0d s l[u]).2) (z0d s l[u]).2
 fn:∀ j a s (u:Nat) (hu:u < l.length),j < l.length→z1w l u c=true→OkSt s→Inv j a s→(z0d s l[u]).1=true →
  FnC Try.prog f (Sh.two.gs (B a) (D a)) ([i64 u,z6v false (z0d s l[u]).2] ++ cps) (Sh.two.gs (B (see a u (z0d s l[u]).2)) (D (see a u (z0d s l[u]).2))) (.tuple [])
section
variable {σ:Type} {l:List Ev} {c:Int} {f:Nat} {cps:List AU} {B D:σ→List AU} {see:σ→Int→St→σ} {Inv:Nat→σ→St→Prop}
theorem zqd (hS:SeeN l c f cps B D see Inv)(s:St)(h:OkSt s)(a:σ)(j0:Nat)(hj0:j0 < l.length)(hi:Inv j0 a s)(u:Nat)(hu:u < l.length)(ht:z1w l u c=true)(hr:(z0d s l[u]).1=true)(j:Nat)(K:SL→Prop)
  (hK:K (wkT l (Sh.two.fv f cps) (z0d s l[u]).2 j (Sh.two.gh (B (see a u (z0d s l[u]).2)) (D (see a u (z0d s l[u]).2))))) :
  WL Try.prog z8l.nt zd1 ([(0,0,sEv l),(300,0,Sh.two.fv f cps)] ++ (rcF 9 (z0d s l[u]).2 ++ ([(1200,0,i64 u),(3600,0,sI true (z0s l)),(3700,0,i64 (z0s l).length),(3800,0,i64 j)] ++ Sh.two.gh (B a) (D a)))) (fun e L=>(e=.nrm∨e=.ext 3)∧K L):=by
 have e1:=hS.no
 have e2:=hS.root
 have e3:=hS.tr
 have e4:=hS.len
 have e5:=hS.roots
 have hf:=hS.fn j0 a s u hu hj0 ht h hi hr
 generalize (z0d s l[u]).2=t at *
 simp at e2 e3 e5 hf
 refine WL.seq (WL.sreg (by simp[e1];rfl) (by simp[e5];rfl) ?_)
 refine WL.cond (t:=false) (by simp) (by simp) fun _=>WL.skip ?_
 refine WL.reg (RL.o (by simp[e1];rfl) (nj (f:=f) (cps:=cps) false [(1000000,[]),(1000100,[])] (by simp) hf (by simp) (by simp) ?_ (by simp;omega) ?_ ?_ (RL.nil ⟨_,by simp[e5];rfl,?_⟩)))
 ·simp[e1]
  rw[e3 _ _ (by simp) _ (by simp;rfl) (by simp) _ (by simp;rfl)]
  simp
 ·simp
 ·simp[e2]
 ·simpa using hK
theorem zgu (hE:EvOk l)(hS:SeeN l c f cps B D see Inv)(s0:St)(h0:OkSt s0)(a0:σ)(i0:Inv 0 a0 s0)(hT:∀ j,j < l.length→z1w l j c=true)(n:Nat) :
  WL Try.prog z8l.nt zjp (wkS l c (Sh.two.fv f cps) s0 ([(2300,0,i64 n),(2400,0,i64 n),(2500,0,bl false)] ++ Sh.two.gh (B a0) (D a0))) (wkQ (Sh.two.gs (B (goW l see s0 a0 (z0s l)).2.2) (D (goW l see s0 a0 (z0s l)).2.2)) (goW l see s0 a0 (z0s l)).1):=by
 have hn:=hE.n
 have hOl:=z3z l
 have e1:=hS.no
 have e5:=hS.roots
 simp at e5
 have hsee:=fun s h a j0 hj0 hi u hu ht hr j=>zqd hS s h a j0 hj0 hi u hu ht hr j
 have hI:=fun j a s u hu ht h hi hr=>hS.inv j a s u hu ht h hi hr
 refine WL.seq (w7 (RL.o (by simp;rfl) (RL.call0 false (zed l hn) (by simp) (by simp) (RL.o (by simp;rfl) (RL.nil ⟨_,by simp[e5];rfl,?_⟩)))))
 refine WL.block (WL.loop (ι:={x:Nat × St × σ // x.1≤(z0s l).length∧OkSt x.2.1∧Inv x.1 x.2.2 x.2.1∧goW l see x.2.1 x.2.2 ((z0s l).drop x.1)=goW l see s0 a0 (z0s l)}) (fun x=>wkT l (Sh.two.fv f cps) x.1.2.1 x.1.1 (Sh.two.gh (B x.1.2.2) (D x.1.2.2))) (fun x=>(z0s l).length - x.1.1) ⟨(0,s0,a0),r9 _,h0,i0,rfl⟩ (by simp) fun x=>?_)
 obtain⟨⟨j,s,a⟩,hj,hs,hia,hg⟩:=x
 simp only at hj hs hg hia ⊢
 by_cases hlt:j < (z0s l).length
 ·obtain⟨u,hu,eu⟩:=z6c hlt
  have f1:=z0y (o:=false) (r:=false) hu
  have g1:14≤l.length * 14 - u * 14:=by omega
  have hlt':j+1≤(z0s l).length:=hlt
  have w:IntKind.wrap .i64 ((j:Int)+1)=((j+1:Nat):Int):=by rw[z01 (by omega) (by omega)];omega
  have w2:IntKind.wrap .i64 ((u:Int)+1)=(u:Int)+1:=by rw[z01 (by omega) (by omega)]
  have hE0:=z6d hu (hT u hu)
  have hse:=hsee s hs a j (by omega) hia u hu (hT u hu)
  have hI':=hI j a s u hu (hT u hu) hs hia
  rw[qx hlt] at hg
  simp only[goW,eu,z3s hu] at hg
  have hok:=z37 hs l[u]
  have tail:∀ t,z1z s l[u]=some t→∀ Q,(∀ e,(e=.nrm∨e=.ext 3)→Q e (wkT l (Sh.two.fv f cps) t j (Sh.two.gh (B (see a u t)) (D (see a u t)))))→WL Try.prog z8l.nt zd1 ([(0,0,sEv l),(300,0,Sh.two.fv f cps)] ++ (rcF 9 t ++ ([(1200,0,i64 u),(3600,0,sI true (z0s l)),(3700,0,i64 (z0s l).length),(3800,0,i64 j)] ++ Sh.two.gh (B a) (D a)))) Q:=by
   intro t ht Q hQ
   obtain⟨q1,q2⟩:=z43 hE0 ht
   have:=hse q1 j (fun L=>L=wkT l (Sh.two.fv f cps) t j (Sh.two.gh (B (see a u t)) (D (see a u t)))) (by rw[q2])
   rw[q2] at this
   refine WL.mono this ?_
   rintro e L ⟨he,rfl⟩
   exact hQ e he
  refine WL.sreg (by simp[hlt];rfl) (by simp[e5];rfl) ?_
  refine WL.seq (WL.cond (t:=true) (by simp[hlt]) (fun _=>WL.skip ?_) (by simp))
  refine WL.seq (WL.block (WL.sreg (by simp[hlt,hlt',eu];rfl) (by simp[e5];rfl) ?_))
  refine WL.sreg (by simp[hlt,hlt',eu,hu,f1,g1];rfl) (by simp[e5];rfl) ?_
  refine w7 (RL.o (by simp;rfl) (nw s hs.sized l[u].Client l[u].op (by simp) (RL.o (by simp;rfl) (RL.nil ⟨_,by simp[e5];rfl,?_⟩))))
  have adv:∀ t,z1z s l[u]=some t→∀ Q,(∀ L,(∃ y:{x:Nat × St × σ // x.1≤(z0s l).length∧OkSt x.2.1∧Inv x.1 x.2.2 x.2.1∧goW l see x.2.1 x.2.2 ((z0s l).drop x.1)=goW l see s0 a0 (z0s l)},L=wkT l (Sh.two.fv f cps) y.1.2.1 y.1.1 (Sh.two.gh (B y.1.2.2) (D y.1.2.2))∧(z0s l).length - y.1.1 < (z0s l).length - j)→Q Ex.nrm L)→WL Try.prog z8l.nt zjo (wkT l (Sh.two.fv f cps) t j (Sh.two.gh (B (see a u t)) (D (see a u t)))) Q:=by
   intro t ht Q hQ
   obtain⟨q1,q2⟩:=z43 hE0 ht
   have hI2:=hI' q1
   rw[q1] at hg
   simp only[if_true] at hg
   rw[q2] at hg hI2 hok
   refine WL.reg (RL.run (by simp[w];rfl) ⟨_,by simp[e5];rfl,hQ _ ?_⟩)
   exact⟨⟨(j+1,t,see a u t),hlt,hok,hI2,hg⟩,by simp,by simp only;omega⟩
  refine WL.seq ?_
  by_cases p:l[u].End=0
  ·have z:(l[u].End == 0)=true:=by simp[p]
   have ht:z1z s l[u]=some (DoB s l[u].Client l[u].op).2.1:=by simp[z1z,p]
   refine WL.block (w7 (RL.o (by simp[z];rfl) (RL.g (by simp;rfl) (RL.callN (by simp) (RL.o (by simp;rfl) (RL.nil ⟨_,by simp[e5];rfl,?_⟩))))))
   refine WL.cond (t:=true) (by simp) (fun _=>?_) (by simp)
   refine WL.reg (RL.run (by simp;rfl) ⟨_,by simp[e5];rfl,?_⟩)
   refine tail _ ht _ ?_
   intro e he
   rcases he with rfl | rfl
   ·exact adv _ ht _ fun L h=>h
   ·exact adv _ ht _ fun L h=>h
  ·have z:(l[u].End == 0)=false:=beq_false_of_ne p
   have hsr:=z42 (DoB s l[u].Client l[u].op).2.2 l[u].res
   cases hv:z1d (DoB s l[u].Client l[u].op).2.2 l[u].res with
   | true =>
    rw[hv] at hsr
    have ht:z1z s l[u]=some (DoB s l[u].Client l[u].op).2.1:=by simp[z1z,hv]
    refine WL.block (w7 (RL.o (by simp[z];rfl) (RL.g (by simp;rfl) (RL.callY0 false (by simp) hsr (by simp) (by simp) (RL.o (by simp;rfl) (RL.nil ⟨_,by simp[e5];rfl,?_⟩))))))
    refine WL.cond (t:=true) (by simp) (fun _=>?_) (by simp)
    refine WL.reg (RL.run (by simp;rfl) ⟨_,by simp[e5];rfl,?_⟩)
    refine tail _ ht _ ?_
    intro e he
    rcases he with rfl | rfl
    ·exact adv _ ht _ fun L h=>h
    ·exact adv _ ht _ fun L h=>h
   | false =>
    rw[hv] at hsr
    refine WL.block (w7 (RL.o (by simp[z];rfl) (RL.g (by simp;rfl) (RL.callY0 false (by simp) hsr (by simp) (by simp) (RL.o (by simp;rfl) (RL.nil ⟨_,by simp[e5];rfl,?_⟩))))))
    refine WL.cond (t:=false) (by simp) (by simp) fun _=>?_
    have hb:=zq2 l[u].op l[u].res.Code
    have hp:=z42 l[u].res (rsE l[u].res.Code)
    cases hbad:z7f l[u].op.Kind l[u].res.Code with
    | false =>
     rw[hbad] at hb
     have ht:z1z s l[u]=none:=by simp[z1z,p,hv,hbad]
     have hr:=z44 hE0 ht
     rw[hr] at hg
     simp only[py,if_false] at hg
     refine w7 (RL.o (by simp;rfl) (RL.call0 false hb (by simp) (by simp) (RL.o (by simp;rfl) (RL.g (by simp;rfl) (RL.callN (by simp) (RL.g (by simp;rfl) (RL.o (by simp;rfl) (RL.nil ⟨_,by simp[e5];rfl,?_⟩))))))))
     refine WL.cond (t:=true) (by simp) (fun _=>?_) (by simp)
     refine WL.sreg (by simp[w2];rfl) (by simp[e5];rfl) (WL.ret ⟨rfl,?_⟩)
     simp[z8l,← hg]
    | true =>
     rw[hbad] at hb
     cases hpl:z1d l[u].res (rsE l[u].res.Code) with
     | false =>
      rw[hpl] at hp
      have ht:z1z s l[u]=none:=by simp[z1z,p,hv,hbad,hpl]
      have hr:=z44 hE0 ht
      rw[hr] at hg
      simp only[py,if_false] at hg
      refine w7 (RL.o (by simp;rfl) (RL.call0 false hb (by simp) (by simp) (RL.o (by simp;rfl) (RL.g (by simp;rfl) (RL.nilA 80 3 1 (by simp;rfl) rfl rfl (RL.callY0 false (by simp) hp (by simp[rsE]) (by simp) (RL.g (by simp;rfl) (RL.o (by simp;rfl) (RL.nil ⟨_,by simp[e5];rfl,?_⟩)))))))))
      refine WL.cond (t:=true) (by simp) (fun _=>?_) (by simp)
      refine WL.sreg (by simp[w2];rfl) (by simp[e5];rfl) (WL.ret ⟨rfl,?_⟩)
      simp[z8l,← hg]
     | true =>
      rw[hpl] at hp
      have ht:z1z s l[u]=some s:=by simp[z1z,p,hv,hbad,hpl]
      refine w7 (RL.o (by simp;rfl) (RL.call0 false hb (by simp) (by simp) (RL.o (by simp;rfl) (RL.g (by simp;rfl) (RL.nilA 80 3 1 (by simp;rfl) rfl rfl (RL.callY0 false (by simp) hp (by simp[rsE]) (by simp) (RL.g (by simp;rfl) (RL.o (by simp;rfl) (RL.nil ⟨_,by simp[e5];rfl,?_⟩)))))))))
      refine WL.cond (t:=false) (by simp) (by simp) fun _=>WL.skip ?_
      refine WL.fin [66] (by simp[e5]) (tail _ ht _ ?_)
      intro e he
      rcases he with rfl | rfl
      ·exact adv _ ht _ fun L h=>h
      ·exact adv _ ht _ fun L h=>h
 ·obtain rfl:j=(z0s l).length:=by omega
  rw[tz] at hg
  simp only[goW] at hg
  refine WL.sreg (by simp;rfl) (by simp[e5];rfl) ?_
  refine WL.seq (WL.cond (t:=false) (by simp) (by simp) fun _=>WL.exit ?_)
  refine WL.sreg (by simp;rfl) (by simp[e5];rfl) (WL.ret ⟨rfl,?_⟩)
  simp[z8l,← hg]
theorem zqe (hE:EvOk l)(hS:SeeN l c f cps B D see Inv)(p:Int)(a:σ)(hI:z0u p c=false→Inv 0 a (z0r p c)) :
  FnC Try.prog 88 (Sh.two.gs (B a) (D a)) [sEv l,i64 p,i64 c,Sh.two.fv f cps] (Sh.two.gs (B (z1g see a l p c).2.2) (D (z1g see a l p c).2.2)) (i64 (z1g see a l p c).1):=by
 have hn:=hE.n
 have e5:=hS.roots
 simp at e5
 have hms:=zcw (z0r p c) (z7d p c)
 rw[zia] at hms
 refine wb yvj rfl ?_
 refine WL.mono (Q':=wkQ (Sh.two.gs (B (z1g see a l p c).2.2) (D (z1g see a l p c).2.2)) (z1g see a l p c).1) ?_ fun x L h=>⟨.inr h.1,h.2⟩
 refine WL.sreg (by simp;rfl) (by simp[e5];rfl) ?_
 refine WL.scope ?_
 refine w7 (RL.o (by simp;rfl) (nc p c (by simp) (RL.o (by simp;rfl) (RL.nil ⟨_,by simp[e5];rfl,?_⟩))))
 cases hb:z0u p c with
 | true =>
  rw[hb] at hms
  refine WL.seq (w7 (RL.o (by simp;rfl) (RL.call0 false hms (by simp) (by simp) (RL.o (by simp;rfl) (RL.nil ⟨_,by simp[e5];rfl,?_⟩)))))
  refine WL.cond (t:=true) (by simp) (fun _=>?_) (by simp)
  refine WL.sreg (by simp;rfl) (by simp[e5];rfl) (WL.ret ⟨rfl,?_⟩)
  simp[z8l,z1g,hb]
 | false =>
  rw[hb] at hms
  have hok:=z1x hb
  have i0:=hI hb
  refine WL.seq (w7 (RL.o (by simp;rfl) (RL.call0 false hms (by simp) (by simp) (RL.o (by simp;rfl) (RL.nil ⟨_,by simp[e5];rfl,?_⟩)))))
  refine WL.cond (t:=false) (by simp) (by simp) fun _=>WL.skip ?_
  refine WL.seq (WL.sreg (by simp;rfl) (by simp[e5];rfl) ?_)
  unfold z1g
  rw[hb]
  simp only[py,if_false]
  generalize z0r p c=s0 at hok i0 ⊢
  refine WL.block (wd l.length (fun i=>wkS l c (Sh.two.fv f cps) s0 ([(2300,0,i64 l.length),(2400,0,i64 i)] ++ Sh.two.gh (B a) (D a))) (fun i=>∀ j,j < i→z1w l j c=true) rfl (fun j h=>absurd h (rx _)) fun i hi hp=>?_)
  by_cases hlt:i < l.length
  ·have w:IntKind.wrap .i64 ((i:Int)+1)=((i+1:Nat):Int):=by rw[z01 (by omega) (by omega)];omega
   have ha:=zee l hn i hlt c
   refine WL.sreg (by simp[hlt];rfl) (by simp[e5];rfl) ?_
   refine WL.seq (WL.cond (t:=true) (by simp[hlt]) (fun _=>WL.skip ?_) (by simp))
   refine WL.seq (WL.block (WL.sreg (by simp[hlt];rfl) (by simp[e5];rfl) ?_))
   cases ht:z1w l i c with
   | true =>
    rw[ht] at ha
    refine w7 (RL.o (by simp;rfl) (RL.call0 false ha (by simp) (by simp) (RL.o (by simp;rfl) (RL.nil ⟨_,by simp[e5];rfl,?_⟩))))
    refine WL.cond (t:=false) (by simp) (by simp) fun _=>WL.skip ?_
    refine WL.reg (RL.run (by simp[w];rfl) ⟨_,by simp[e5];rfl,hlt,?_,fun j hj=>?_⟩)
    ·simp
    ·by_cases e:j=i
     ·subst e;exact ht
     ·exact hp j (by omega)
   | false =>
    rw[ht] at ha
    have hf:=z40 hlt hp ht
    refine w7 (RL.o (by simp;rfl) (RL.call0 false ha (by simp) (by simp) (RL.o (by simp;rfl) (RL.nil ⟨_,by simp[e5];rfl,?_⟩))))
    refine WL.cond (t:=true) (by simp) (fun _=>?_) (by simp)
    refine WL.sreg (by simp[w];rfl) (by simp[e5];rfl) (WL.ret ⟨rfl,?_⟩)
    simp[z8l,hf]
  ·obtain rfl:i=l.length:=by omega
   have hf:=z41 hp
   rw[hf]
   refine WL.sreg (by simp;rfl) (by simp[e5];rfl) ?_
   refine WL.seq (WL.cond (t:=false) (by simp) (by simp) fun _=>WL.exit ?_)
   refine WL.seq (WL.label ?_)
   exact zgu hE hS s0 hok a i0 hp l.length
end
section
variable {C:Ctx} {X:XF LO} {β:Nat→Nat × Nat} {I:z1a} {rg:Nat→Value} {w:World}
theorem RelL.down (R:RelL C X β I rg w)(r b:Nat)(hb:b < 10000)(l:Loc)(cs:List AL)(hX:(X (100 * r)).2=.bx true (some l) cs)(hp:(X (100 * b)).2=.ptr (100 * r) (X (100 * r)).1 [] 0)(hn:cs.length≤98) :
  RelL C (((X.box b cs).set (100 * r) (.bptr b ((X (100 * b+99)).1+1) 0)).set (100 * b) (.bptr b ((X (100 * b+99)).1+1) 0)) (fun j=>if j=b then (l.b,l.o) else β j) I rg w:=by
 have hk:=R.key (100 * r)
 have hm:=hk.mem
 have hs:=hk.sep
 have hr:=R.reg r
 have hrb:=R.reg b
 rw[hX] at hm hs hr
 rw[hp] at hrb
 simp only[Mem] at hm
 simp only[Sep] at hs
 simp only[RR,CR] at hr
 simp only[RR] at hrb
 have hrb:=hrb.2 trivial
 rw[show (z0n (X (100 * r)).2 [])=some (X (100 * r)).2 from rfl,hX] at hrb
 simp only[pt,Go.OT.hd,ph,qv] at hrb
 obtain⟨s0,l0,z0,n0,⟨_,e1,_,_⟩,hrb⟩:=hrb
 subst e1
 have hmem:=z0f.1 hm
 have hsep:=z0a.1 hs.2
 have hfpX:∀ b' o',fp (.bx true (some l) cs) b' o'→kfp β X (100 * r) b' o':=fun b' o' h=>.inl (by rw[hX];exact h)
 have hown:∀ i,i < cs.length→kfp β X (100 * r) l.b (l.o+i):=fun i hi=>hfpX _ _ (by simp only[fp];exact .inl ⟨trivial,by omega,by omega⟩)
 have hold:∀ c b' o',c ∈ cs→fp c b' o'→kfp β X (100 * r) b' o':=fun c b' o' hc h=>hfpX _ _ (by simp only[fp];exact .inr (z04.2 ⟨c,hc,h⟩))
 generalize hβ':(fun j=>if j=b then (l.b,l.o) else β j)=β'
 have hβb:β' b=(l.b,l.o):=by subst hβ';simp
 have hβn:∀ j,j ≠ b→β' j=β j:=by intro j hj;subst hβ';simp[hj]
 have hKY:Keeps X (X.box b cs) β β':=by
  refine⟨fun k=>?_,fun k he p a ha=>?_,fun b' he=>?_⟩
  ·simp only[XF.box];split
   ·split
    ·simp
    ·exact zvh _
   ·exact qa _
  ·simp only[XF.box] at he ⊢
   split at he
   ·rename_i hc
    rw[if_pos hc]
    split at he
    ·omega
    ·have:=z3m ha
     have e1:nx (X k)=(X k).1+1:=by unfold nx;rw[this];rfl
     simp only[e1] at he
     omega
   ·rename_i hc;rw[if_neg hc];exact ha
  ·by_cases hbb:b'=b
   ·subst hbb
    simp only[XF.box] at he
    rw[if_pos ⟨by omega,by omega⟩,if_pos (by omega)] at he
    omega
   ·exact hβn b' hbb
 generalize hg':(X (100 * b+99)).1+1=g'
 generalize hZ:((X.box b cs).set (100 * r) (.bptr b g' 0)).set (100 * b) (.bptr b g' 0)=Z
 have hK:Keeps X Z β β':=by
  rw[← hZ]
  exact (hKY.trans (z07 _ β' (100 * r) _)).trans (z07 _ β' (100 * b) _)
 have hcellZ:∀ k,k % 100 ≠ 0→Z k=(X.box b cs) k:=fun k hk=>by
  rw[← hZ,w9 _ _ (by omega),w9 _ _ (by omega)]
 have hkey:∀ i,i < 98→(Z (100 * b+1+i)).2=cs.getD i .non:=by
  intro i hi
  rw[hcellZ _ (by omega)]
  simp only[XF.box]
  rw[if_pos ⟨by omega,by omega⟩,if_neg (by omega)]
  simp only[show (100 * b+1+i) % 100 - 1=i by omega]
 have hform:∀ k,k / 100=b→k % 100 ≠ 0→k % 100 ≠ 99→∃ i,i < 98∧k=100 * b+1+i:=fun k h1 h2 h3=>⟨k % 100 - 1,by omega,by omega⟩
 have hZ99:Z (100 * b+99)=(g',.non):=by
  rw[hcellZ _ (by omega)]
  simp only[XF.box]
  rw[if_pos ⟨by omega,by omega⟩,if_pos (by omega),hg']
 have h99:(Z (100 * b+99)).2=.non:=by rw[hZ99]
 have hZr:∀ t,t=r∨t=b→(Z (100 * t)).2=.bptr b g' 0:=by
  rintro t ht
  rw[← hZ]
  by_cases e:t=b
  ·subst e;rw[wa]
  ·rcases ht with rfl | ht
   ·rw[w9 _ _ (by omega),wa]
   ·exact absurd ht e
 have hno:∀ t,t=r∨t=b→∀ b' o',¬ kfp β' Z (100 * t) b' o':=by
  intro t ht b' o' hb'
  rcases hb' with hb' | ⟨hc,_⟩
  ·rw[hZr t ht] at hb';simp[fp] at hb'
  ·exact z0e t hc
 have hno99:∀ b' o',¬ kfp β' Z (100 * b+99) b' o':=by
  intro b' o' hb'
  rcases hb' with hb' | ⟨hc,_⟩
  ·rw[h99] at hb';simp[fp] at hb'
  ·exact hc.2 (by omega)
 have hgetD:∀ i c,cs[i]?=some c→cs.getD i .non=c:=fun i c hc=>by simp[pk,hc]
 have hcase:∀ i,i < 98→∀ b' o',kfp β' Z (100 * b+1+i) b' o'→∃ c,cs[i]?=some c∧(fp c b' o'∨(b'=l.b∧o'=l.o+i)):=by
  intro i hi b' o' hb'
  cases hc:cs[i]? with
  | none =>
   have hg:cs.getD i .non=.non:=by simp[pk,hc]
   rcases hb' with hb' | ⟨_,hne,_⟩
   ·rw[hkey i hi,hg] at hb';simp[fp] at hb'
   ·exact absurd ((hkey i hi).trans hg) hne
  | some c =>
   refine⟨c,rfl,?_⟩
   rcases hb' with hb' | ⟨_,_,h3⟩
   ·rw[hkey i hi,hgetD i c hc] at hb';exact .inl hb'
   ·simp only[zc9,show (100 * b+1+i) / 100=b by omega,hβb,show (100 * b+1+i) % 100 - 1=i by omega] at h3
    exact .inr ⟨h3.1,h3.2⟩
 have hcell:∀ k,(k / 100=b∧k % 100 ≠ 0)→∀ b' o',kfp β' Z k b' o'→∃ i c,i < 98∧k=100 * b+1+i∧cs[i]?=some c∧(fp c b' o'∨(b'=l.b∧o'=l.o+i)):=by
  rintro k ⟨h1,h2⟩ b' o' hb'
  by_cases h3:k % 100=99
  ·have:k=100 * b+99:=by omega
   subst this;exact absurd hb' (hno99 b' o')
  ·obtain⟨i,hi,rfl⟩:=hform k h1 h2 h3
   obtain⟨c,hc,h'⟩:=hcase i hi b' o' hb'
   exact⟨i,c,hi,rfl,hc,h'⟩
 have hD:∀ t,(100 * t / 100=b∧100 * t % 100 ≠ 0)∨100 * t=100 * r∨100 * t=100 * b→t=r∨t=b:=by
  rintro t (⟨_,h2⟩ | h | h)<;>omega
 refine R.change (fun k=>(k / 100=b∧k % 100 ≠ 0)∨k=100 * r∨k=100 * b) ?_ hK ?_ ?_ (fun _ _=>rfl) ?_ ?_ ?_ ?_ (fun _ _ h=>h) (fun _ _ h=>.inl h) ((Frame.refl _ w).mono fun _ _ _ h=>h)
 ·intro k hk
  rw[← hZ,w9 _ _ (fun e=>hk (.inr (.inr e))),w9 _ _ (fun e=>hk (.inr (.inl e)))]
  simp only[XF.box]
  rw[if_neg (fun e=>hk (.inl e))]
 ·intro k hk hc
  exact .inl (hβn _ (fun e=>hk (.inl ⟨e,hc.1⟩)))
 ·intro j hj;exact hβn j (by omega)
 ·intro t ht
  have ht:=hD t ht
  rw[hZr t ht]
  simp only[RR]
  refine⟨by rw[hZ99];exact qa _,fun _=>?_⟩
  rw[hβb]
  rcases ht with rfl | rfl
  ·rw[hr];rfl
  ·exact hrb
 ·rintro k hk
  rcases hk with ⟨h1,h2⟩ | hk
  ·by_cases h3:k % 100=99
   ·have:k=100 * b+99:=by omega
    subst this
    exact⟨by rw[h99];simp[Mem],by rw[h99];simp[Sep],fun hc=>absurd h3 hc.2,fun b' o' hb'=>absurd hb' (hno99 b' o'),fun _=>h99⟩
   ·obtain⟨i,hi,rfl⟩:=hform k h1 h2 h3
    cases hc:cs[i]? with
    | none =>
     have hg:(Z (100 * b+1+i)).2=.non:=(hkey i hi).trans (by simp[pk,hc])
     refine⟨by rw[hg];simp[Mem],by rw[hg];simp[Sep],fun _ hne=>absurd hg hne,fun b' o' hb'=>?_,fun h=>absurd h h3⟩
     obtain⟨c,hc',_⟩:=hcase i hi b' o' hb'
     rw[hc] at hc';cases hc'
    | some c =>
     have hg:(Z (100 * b+1+i)).2=c:=(hkey i hi).trans (hgetD i c hc)
     have hlt:i < cs.length:=(pn.1 hc).1
     have hin:=pm hc
     obtain⟨⟨y,hy,hcy⟩,hmc,_⟩:=hmem i c hc
     refine⟨by rw[hg];exact hmc,by rw[hg];exact hsep.1 c hin,fun _ _=>?_,fun b' o' hb'=>?_,fun h=>absurd h h3⟩
     ·rw[hg]
      simp only[show (100 * b+1+i) / 100=b by omega,hβb,show (100 * b+1+i) % 100 - 1=i by omega]
      exact⟨⟨y,hy,.inl hcy⟩,fun hbad=>hs.1 i hlt (z04.2 ⟨c,hin,hbad⟩)⟩
     ·obtain⟨c',hc',h'⟩:=hcase i hi b' o' hb'
      rw[hc] at hc';cases hc'
      rcases h' with h' | ⟨rfl,rfl⟩
      ·exact (R.key (100 * r)).live _ _ (hold c b' o' hin h')
      ·exact (R.key (100 * r)).live _ _ (hown i hlt)
  ·obtain⟨t,ht,rfl⟩:∃ t,(t=r∨t=b)∧k=100 * t:=by
    rcases hk with h | h
    ·exact⟨r,.inl rfl,h⟩
    ·exact⟨b,.inr rfl,h⟩
   exact⟨by rw[hZr t ht];simp[Mem],by rw[hZr t ht];simp[Sep],fun hc=>absurd hc (z0e t),fun b' o' hb'=>absurd hb' (hno t ht b' o'),fun h=>by omega⟩
 ·rintro k k' hk hk' hne b' o' h1 h2
  have hreg:∀ q,q=100 * r∨q=100 * b→kfp β' Z q b' o'→False:=fun q hq h=>by
   rcases hq with rfl | rfl
   ·exact hno r (.inl rfl) b' o' h
   ·exact hno b (.inr rfl) b' o' h
  rcases hk with hk | hk
  ·rcases hk' with hk' | hk'
   ·obtain⟨i,c,hi,rfl,hc,hh⟩:=hcell k hk b' o' h1
    obtain⟨j,d,hj,rfl,hd,hh'⟩:=hcell k' hk' b' o' h2
    have hij:i ≠ j:=fun e=>hne (by rw[e])
    have hli:i < cs.length:=(pn.1 hc).1
    have hlj:j < cs.length:=(pn.1 hd).1
    rcases hh with hh | ⟨e1,e2⟩
    ·rcases hh' with hh' | ⟨e1,e2⟩
     ·rcases Nat.lt_or_gt_of_ne hij with hlt | hlt
      ·exact hsep.2 i j c d hlt hc hd b' o' hh hh'
      ·exact hsep.2 j i d c hlt hd hc b' o' hh' hh
     ·subst e1 e2
      exact hs.1 j hlj (z04.2 ⟨c,pm hc,hh⟩)
    ·rcases hh' with hh' | ⟨e3,e4⟩
     ·subst e1 e2
      exact hs.1 i hli (z04.2 ⟨d,pm hd,hh'⟩)
     ·omega
   ·exact hreg k' hk' h2
  ·exact hreg k hk h1
 ·rintro k hk b' o' hb'
  rcases hk with hk | hk
  ·obtain⟨i,c,hi,rfl,hc,hh⟩:=hcell k hk b' o' hb'
   rcases hh with hh | ⟨e1,e2⟩
   ·exact .inl ⟨100 * r,.inr (.inl rfl),hold c b' o' (pm hc) hh⟩
   ·subst e1 e2
    exact .inl ⟨100 * r,.inr (.inl rfl),hown i (pn.1 hc).1⟩
  ·exfalso
   rcases hk with rfl | rfl
   ·exact hno r (.inl rfl) b' o' hb'
   ·exact hno b (.inr rfl) b' o' hb'
theorem RelL.upR (R:RelL C X β I rg w)(r b:Nat)(hr:(X (100 * r)).2=.bptr b (X (100 * b+99)).1 0)(cs:List AL)(hn:cs.length≤98)
  (hcs:∀ i c,cs[i]?=some c→(X (100 * b+1+i)).2=c∧z0q c=true) :
  RelL C ((zc3 X b cs.length).set (100 * r) (.bx true (some ⟨(β b).1,(β b).2,0⟩) cs)) β I rg w:=by
 have hc:∀ i,i < cs.length→∃ c,cs[i]?=some c∧(X (100 * b+1+i)).2=c∧z0q c=true∧c ≠ .non∧z2g (100 * b+1+i)∧(100 * b+1+i) / 100=b∧(100 * b+1+i) % 100 - 1=i:=by
  intro i hi
  obtain⟨h1,h2⟩:=hcs i _ (po hi)
  refine⟨_,po hi,h1,h2,fun e=>?_,⟨by omega,by omega⟩,by omega,by omega⟩
  rw[e] at h2;simp[z0q] at h2
 have hat:∀ i c,cs[i]?=some c→(∃ y,w.at (β b).1 ((β b).2+i)=some y∧CR c y)∧¬ fp c (β b).1 ((β b).2+i)∧Mem w I c∧Sep c:=by
  intro i c hi
  obtain⟨c',h1,h2,h3,h4,h5,h6,h7⟩:=hc i (pn.1 hi).1
  rw[hi] at h1
  cases h1
  have hk:=R.key (100 * b+1+i)
  obtain⟨⟨y,hy,hx⟩,hnf⟩:=hk.cell h5 (by rw[h2];exact h4)
  rw[h6,h7] at hy hnf
  rw[h2] at hx hnf
  exact⟨⟨y,hy,hx.cr (by cases c<;>simp [z0q] at h3<;>rfl)⟩,hnf,by rw[← h2];exact hk.mem,by rw[← h2];exact hk.sep⟩
 have haddr:∀ i,i < cs.length→kfp β X (100 * b+1+i) (β b).1 ((β b).2+i):=by
  intro i hi
  obtain⟨c,h1,h2,h3,h4,h5,h6,h7⟩:=hc i hi
  exact .inr ⟨h5,by rw[h2];exact h4,by rw[h6],by rw[h6,h7]⟩
 have hin:∀ i c,cs[i]?=some c→∀ b' o',fp c b' o'→kfp β X (100 * b+1+i) b' o':=by
  intro i c hi b' o' h
  left
  rw[(hcs i c hi).1];exact h
 have hfp:∀ b' o',fp (.bx true (some ⟨(β b).1,(β b).2,0⟩) cs) b' o'→∃ i,i < cs.length∧kfp β X (100 * b+1+i) b' o':=by
  intro b' o' h
  simp only[fp] at h
  rcases h with ⟨rfl,h1,h2⟩ | h
  ·refine⟨o' - (β b).2,by omega,?_⟩
   have:=haddr (o' - (β b).2) (by omega)
   rwa [show (β b).2+(o' - (β b).2)=o' by omega] at this
  ·obtain⟨c,hc',hcb⟩:=z04.1 h
   obtain⟨i,hi⟩:=px hc'
   exact⟨i,(pn.1 hi).1,hin i c hi _ _ hcb⟩
 have hself:((zc3 X b cs.length).set (100 * r) (.bx true (some ⟨(β b).1,(β b).2,0⟩) cs) (100 * r)).2=.bx true (some ⟨(β b).1,(β b).2,0⟩) cs:=by rw[wa]
 have hoth:∀ k,100 * b+1≤k∧k < 100 * b+1+cs.length→((zc3 X b cs.length).set (100 * r) (.bx true (some ⟨(β b).1,(β b).2,0⟩) cs) k).2=.non:=by
  intro k hk
  rw[w9 _ _ (by omega),z8z,if_pos hk]
 have hK:Keeps X ((zc3 X b cs.length).set (100 * r) (.bx true (some ⟨(β b).1,(β b).2,0⟩) cs)) β β:=(z90 X β b _).trans (z07 _ β _ _)
 refine R.change (fun k=>k=100 * r∨(100 * b+1≤k∧k < 100 * b+1+cs.length)) (fun k hk=>?_) hK (fun _ _ _=>.inl rfl) (fun _ _=>rfl) (fun _ _=>rfl) (fun t ht=>?_) (fun k hk=>?_) (fun k k' hk hk' hne b' o' h1 h2=>?_) (fun k hk b' o' h=>?_)
  (fun _ _ h=>h) (fun _ _ h=>.inl h) ((Frame.refl _ w).mono fun _ _ _ h=>h)
 ·rw[w9 _ _ (fun e=>hk (.inl e)),z8z,if_neg (fun e=>hk (.inr e))]
 ·have e:t=r:=by omega
  subst e
  rw[hself]
  have:=R.reg t
  rw[hr] at this
  simp only[RR] at this
  have h2:=this.2 trivial
  simp only[RR,CR]
  simpa using h2
 ·rcases hk with rfl | hk
  ·refine⟨?_,?_,fun h=>absurd h.1 (by omega),fun b' o' h=>?_,fun h=>by omega⟩
   ·rw[hself]
    simp only[Mem]
    exact z0f.2 fun i c hi=>⟨(hat i c hi).1,(hat i c hi).2.2.1,by simp⟩
   ·rw[hself]
    simp only[Sep]
    refine⟨fun i hi hbad=>?_,z0a.2 ⟨fun c hc'=>?_,fun i j u v hij hu hv b' o' g1 g2=>?_⟩⟩
    ·obtain⟨c,hc',hcb⟩:=z04.1 hbad
     obtain⟨i',hi'⟩:=px hc'
     by_cases hii:i=i'
     ·subst hii;exact (hat i c hi').2.1 hcb
     ·exact R.disj (100 * b+1+i) (100 * b+1+i') (by omega) _ _ (haddr i hi) (hin i' c hi' _ _ hcb)
    ·obtain⟨i',hi'⟩:=px hc'
     exact (hat i' c hi').2.2.2
    ·exact R.disj (100 * b+1+i) (100 * b+1+j) (by omega) b' o' (hin i u hu _ _ g1) (hin j v hv _ _ g2)
   ·rcases h with h | ⟨h,_⟩
    ·rw[hself] at h
     obtain⟨i,_,hi⟩:=hfp _ _ h
     exact (R.key _).live _ _ hi
    ·exact absurd h.1 (by omega)
  ·have h0:=hoth k hk
   refine⟨by rw[h0];simp[Mem],by rw[h0];simp[Sep],fun _ h=>absurd h0 h,fun b' o' h=>?_,fun _=>h0⟩
   rcases h with h | ⟨_,h,_⟩
   ·rw[h0] at h;simp[fp] at h
   ·exact absurd h0 h
 ·have only:∀ k,(k=100 * r∨(100 * b+1≤k∧k < 100 * b+1+cs.length))→kfp β ((zc3 X b cs.length).set (100 * r) (.bx true (some ⟨(β b).1,(β b).2,0⟩) cs)) k b' o'→k=100 * r:=by
   intro k hk h
   rcases hk with e | hk
   ·exact e
   ·have h0:=hoth k hk
    rcases h with h | ⟨_,h,_⟩
    ·rw[h0] at h;simp[fp] at h
    ·exact absurd h0 h
  exact hne ((only k hk h1).trans (only k' hk' h2).symm)
 ·rcases hk with rfl | hk
  ·rcases h with h | ⟨h,_⟩
   ·rw[hself] at h
    obtain⟨i,hi,hi'⟩:=hfp _ _ h
    exact .inl ⟨_,.inr ⟨by omega,by omega⟩,hi'⟩
   ·exact absurd h.1 (by omega)
  ·have h0:=hoth k hk
   rcases h with h | ⟨_,h,_⟩
   ·rw[h0] at h;simp[fp] at h
   ·exact absurd h0 h
end
theorem RelT.down {C:Ctx}{X:XF Unit}{tm:Array Value}{w:World}(h:RelT C X tm w)(r b:Nat)(hb:b < 10000)(cs:List AU)(hX:(X (100 * r)).2=.bx true () cs)(hp:(X (100 * b)).2=.ptr (100 * r) (X (100 * r)).1 [] 0)(hn:cs.length≤98) :
  RelT C (((X.box b cs).set (100 * r) (.bptr b ((X (100 * b+99)).1+1) 0)).set (100 * b) (.bptr b ((X (100 * b+99)).1+1) 0)) tm w:=by
 obtain⟨XL,β,I,rg,he,R,hs,ht⟩:=h
 subst he
 obtain⟨l,lcs,hXL,hl⟩:∃ l lcs,(XL (100 * r)).2=.bx true l lcs∧lcs.map er=cs:=by
  have hX':er (XL (100 * r)).2=.bx true () cs:=hX
  revert hX'
  generalize (XL (100 * r)).2=v
  intro h
  cases v<;>simp [er,z0g] at h
  obtain⟨h1,h2⟩:=h
  subst h1
  exact⟨_,_,rfl,h2⟩
 have hm:=(R.key (100 * r)).mem
 rw[hXL] at hm
 cases l with
 | none=>simp [Mem] at hm
 | some l =>
  have hp':(XL (100 * b)).2=.ptr (100 * r) (XL (100 * r)).1 [] 0:=by
   have hp2:er (XL (100 * b)).2=.ptr (100 * r) (XL (100 * r)).1 [] 0:=hp
   revert hp2
   generalize (XL (100 * b)).2=v
   intro h
   cases v<;>simp [er] at h
   obtain⟨h1,h2,h3,h4⟩:=h
   subst h1 h2 h3 h4
   rfl
  have R':=R.down r b hb l lcs hXL hp' (by rw[← hl] at hn;simpa using hn)
  refine⟨_,_,I,rg,?_,R',hs,ht⟩
  rw[z03,z03,zd7,hl]
  rfl
theorem RelT.upR {C:Ctx}{X:XF Unit}{tm:Array Value}{w:World}(h:RelT C X tm w)(r b:Nat)(hr:(X (100 * r)).2=.bptr b (X (100 * b+99)).1 0)(cs:List AU)(hn:cs.length≤98)
  (hcs:∀ i c,cs[i]?=some c→(X (100 * b+1+i)).2=c∧z0q c=true):RelT C ((zc3 X b cs.length).set (100 * r) (.bx true () cs)) tm w:=by
 obtain⟨XL,β,I,rg,he,R,hs,ht⟩:=h
 subst he
 have hr':(XL (100 * r)).2=.bptr b (XL (100 * b+99)).1 0:=by
  simp only[erF] at hr
  revert hr
  cases (XL (100 * r)).2<;>simp [er]
 have hget:∀ i c,((List.range cs.length).map fun i=>(XL (100 * b+1+i)).2)[i]?=some c→i < cs.length∧c=(XL (100 * b+1+i)).2:=by
  intro i c hc
  have hi:i < cs.length:=by
   have:=(pn.1 hc).1
   simpa using this
  simp[hi] at hc
  exact⟨hi,hc.symm⟩
 have R':=R.upR r b hr' ((List.range cs.length).map fun i=>(XL (100 * b+1+i)).2) (by simpa using hn) (fun i c hc=>by
  obtain⟨hi,rfl⟩:=hget i c hc
  refine⟨rfl,?_⟩
  obtain⟨h1,h2⟩:=hcs i _ (po hi)
  rw[← z2u]
  have h1':er (XL (100 * b+1+i)).2=cs[i]:=h1
  rw[h1'];exact h2)
 rw[show ((List.range cs.length).map fun i=>(XL (100 * b+1+i)).2).length=cs.length by simp] at R'
 refine⟨_,β,_,rg,?_,R',hs,ht⟩
 rw[z03,ze5]
 congr 1
 simp only[er,z0g,rz]
 congr 1
 apply rm
 intro i
 by_cases hi:i < cs.length
 ·have h1:er (XL (100 * b+1+i)).2=cs[i]:=(hcs i _ (po hi)).1
  simp[hi,h1]
 ·rw[qq (by simpa using Nat.le_of_not_lt hi),qq (by omega:cs.length≤i)]
section
variable {P:Program} {nt:Nat} {L:SL} {Q:Ex→SL→Prop}
def upRL (L:SL)(r b:Nat)(cs:List AU):SL:=z0k (zl9 L b cs.length) (100 * r) (.bx true () cs)
def downL (L:SL)(r b:Nat)(cs:List AU):SL:=z0k (z0k (zc0 b cs L) (100 * r) (.bptr b ((fnL L (100 * b+99)).1+1) 0)) (100 * b) (.bptr b ((fnL L (100 * b+99)).1+1) 0)
attribute [simp] upRL downL
theorem RelT.upRL {C:Ctx}{tm:Array Value}{w:World}(h:RelT C (fnL L) tm w)(r b n:Nat)(cs:List AU)(hr:(fnL L (100 * r)).2=.bptr b (fnL L (100 * b+99)).1 0)(hn:n≤98)
  (hcs:z0w (fnL L) b 0 n=cs) (ht:cs.all z0q=true):RelT C (fnL (upRL L r b cs)) tm w:=by
 have hlen:cs.length≤n:=by
  rw[← hcs]
  have:∀ m i,(z0w (fnL L) b i m).length≤m:=by
   intro m
   induction m with
   | zero=>intro i;simp[z0w]
   | succ m ih=>intro i;simp only[z0w];split<;>simp [ih]
  exact this n 0
 have:=h.upR r b hr cs (by omega) (fun i c hi=>⟨by
  rw[← hcs] at hi
  have:=z91 n 0 i c hi
  rwa [sy] at this,qh.1 ht c (pm hi)⟩)
 rw[ze6,z08] at this
 exact this
theorem RelT.downL {C:Ctx}{tm:Array Value}{w:World}(h:RelT C (fnL L) tm w)(r b:Nat)(hb:b < 10000)(cs:List AU)(hX:(fnL L (100 * r)).2=.bx true () cs)(hp:(fnL L (100 * b)).2=.ptr (100 * r) (fnL L (100 * r)).1 [] 0)(hn:cs.length≤98) :
  RelT C (fnL (downL L r b cs)) tm w:=by
 have:=h.down r b hb cs hX hp hn
 rw[z9r b cs _ hn,z08,z08] at this
 exact this
theorem WL.lower {cc:Cd}(r b:Nat){cs:List AU}(hX:(fnL L (100 * r)).2=.bx true () cs)(hp:(fnL L (100 * b)).2=.ptr (100 * r) (fnL L (100 * r)).1 [] 0)(h:WL P nt cc (downL L r b cs) Q)(hn:cs.length≤98:=by simp)(hb:b < 10000:=by decide):WL P nt cc L Q:=by
 intro C code hP hnt hc a w hd hR
 exact h C code hP hnt hc a w hd (hR.downL r b hb cs hX hp hn)
theorem WL.lift {cc:Cd}(r b n:Nat){cs:List AU}(hr:(fnL L (100 * r)).2=.bptr b (fnL L (100 * b+99)).1 0)(hcs:z0w (fnL L) b 0 n=cs)(ht:cs.all z0q=true)
  (h:WL P nt cc (upRL L r b cs) Q) (hn:n≤98:=by decide):WL P nt cc L Q:=by
 intro C code hP hnt hc a w hd hR
 exact h C code hP hnt hc a w hd (hR.upRL r b n cs hr hn hcs ht)
theorem RL.lower {K:SL→Prop}{segs:List Sg}(r b:Nat){cs:List AU}(hX:(fnL L (100 * r)).2=.bx true () cs)(hp:(fnL L (100 * b)).2=.ptr (100 * r) (fnL L (100 * r)).1 [] 0)(h:RL P nt segs (downL L r b cs) K)(hn:cs.length≤98:=by simp)(hb:b < 10000:=by decide):RL P nt segs L K:=by
 intro C ops idx hP hnt hc a w Q hd hR hK
 exact h C ops idx hP hnt hc a w Q hd (hR.downL r b hb cs hX hp hn) hK
theorem RL.lift {K:SL→Prop}{segs:List Sg}(r b n:Nat){cs:List AU}(hr:(fnL L (100 * r)).2=.bptr b (fnL L (100 * b+99)).1 0)(hcs:z0w (fnL L) b 0 n=cs)(ht:cs.all z0q=true)
  (h:RL P nt segs (upRL L r b cs) K) (hn:n≤98:=by decide):RL P nt segs L K:=by
 intro C ops idx hP hnt hc a w Q hd hR hK
 exact h C ops idx hP hnt hc a w Q hd (hR.upRL r b n cs hr hn hcs ht) hK
end
abbrev Pst:=List (List UInt8) × Bool × Bool
def z0t (t:St)(p:Nat):Bool:=t.There.getD p false
def zr3 (l:List Ev)(fl:Int)(p:Nat)(a:Pst)(x:Int)(t:St):List (List UInt8):=if (decide (fl≤(atE l x).Stamp) && z0t t p)=true then a.1 ++ [t.Body.getD p []] else a.1
def y43 (l:List Ev)(fl:Int)(p:Nat)(a:Pst)(x:Int)(t:St):Bool:=a.2.1 || (decide (fl < (atE l x).Stamp) && ((decide ((atE l x).op.Kind=1) && (z0t t p && !a.2.2)) || wrF (atE l x) t p))
def z5d (l:List Ev)(fl:Int)(p:Nat)(a:Pst)(x:Int)(t:St):Pst:=(zr3 l fl p a x t,y43 l fl p a x t,z0t t p)
abbrev psS (fl:Int)(p:Nat)(bs:List (List UInt8))(tn ws:Bool)(t:St)(e:Ev)(r:SL):SL :=
 [(300,0,.vptr () [i64 fl]),(400,0,.vptr () [i64 p]),(500,0,.bptr 5 1 0),(501,0,sUU true bs),(502,0,bl tn),(599,1,.non),(600,0,.ptr 1000100 0 [] 0)] ++ (rcF 8 t ++ (bxE 9 e ++ (r ++ [(1000000,0,.bptr 5 1 0),(1000100,0,.bx true () [bl ws])])))
abbrev psQ (a:Pst):Ex→SL→Prop:=fun e L=>(e=Ex.nrm∨e=Ex.ret)∧RetOk zea.rs [.nod (.bx true () [sUU true a.1,bl a.2.1]),.nod (.bx true () [bl a.2.2])] (.tuple []) L
theorem zih (fl:Int)(p:Nat)(bs:List (List UInt8))(tn ws:Bool)(t:St)(ht:OkSt t)(hp:p < t.There.length)(e:Ev)(hc0:0≤e.Client)(hc1:e.Client < t.Handles.length)(tn':Bool)(r:SL)(hr:r=[]∨r=[(2500,0,bl false)])
  (htn:tn'=(tn || (decide (fl < e.Stamp) && ((decide (e.op.Kind=1) && (z0t t p && !ws)) || wrF e t p)))) :
  WL Try.prog zea.nt zjy (psS fl p bs tn ws t e r) (psQ (bs,tn',z0t t p)):=by
 have hwr:=zk7 e t ht hc0 hc1 p
 have hp':p+1≤t.There.length:=hp
 obtain⟨th,hth⟩:∃ th,t.There[p]=th:=⟨_,rfl⟩
 have eth:z0t t p=th:=by simp[z0t,hp,hth]
 rw[eth] at htn ⊢
 -- the last region
 have last:∀ L,L=[(400,0,.vptr () [i64 p]),(501,0,sUU true bs),(502,0,bl tn'),(599,1,.non),(600,0,.ptr 1000100 0 [] 0)] ++ (rcF 8 t ++ [(1000000,0,.bptr 5 1 0),(1000100,0,.bx true () [bl ws])])→WL Try.prog zea.nt zvc L (psQ (bs,tn',th)):=fun L hL=>by
  subst hL
  refine WL.lift 10000 5 2 (by simp) (by simp;rfl) (by simp) ?_
  refine WL.reg (RL.run (by simp[hp,hp',hth];rfl) ⟨_,by simp;rfl,.inl rfl,?_⟩)
  simp[zea]
 -- ahead of it
 have mid:∀ (md:Bool),md=(decide (e.op.Kind=1) && (th && !ws))→∀ L,L=psS fl p bs tn ws t e [(1000,0,bl md)]→WL Try.prog zea.nt zvd L (psQ (bs,tn',th)):=fun md hmd L hL=>by
  subst hL
  rw[← hmd] at htn
  cases tn with
  | true =>
   refine w7 (RL.o (by simp;rfl) (RL.g (by simp;rfl) (RL.g (by simp;rfl) (RL.g (by simp;rfl) (RL.callN (by simp) (RL.g (by simp;rfl) (RL.g (by simp;rfl) (RL.o (by simp;rfl) (RL.nil ⟨_,by simp;rfl,last _ ?_⟩)))))))))
   simp[htn]
  | false =>
   simp only[tw] at htn
   by_cases k:fl < e.Stamp
   ·cases md with
    | true =>
     refine w7 (RL.o (by simp;rfl) (RL.g (by simp[k];rfl) (RL.g (by simp;rfl) (RL.g (by simp;rfl) (RL.callN (by simp) (RL.g (by simp;rfl) (RL.g (by simp;rfl) (RL.o (by simp;rfl) (RL.nil ⟨_,by simp;rfl,last _ ?_⟩)))))))))
     simp[htn,k]
    | false =>
     refine w7 (RL.o (by simp;rfl) (RL.g (by simp[k];rfl) (RL.g (by simp;rfl) (RL.g (by simp;rfl) (RL.callY0 false (by simp) hwr (by simp) (by simp) (RL.g (by simp;rfl) (RL.g (by simp;rfl) (RL.o (by simp;rfl) (RL.nil ⟨_,by simp;rfl,last _ ?_⟩)))))))))
     simp[htn,k]
   ·refine w7 (RL.o (by simp;rfl) (RL.g (by simp[k];rfl) (RL.g (by simp;rfl) (RL.g (by simp;rfl) (RL.callN (by simp) (RL.g (by simp;rfl) (RL.g (by simp;rfl) (RL.o (by simp;rfl) (RL.nil ⟨_,by simp;rfl,last _ ?_⟩)))))))))
    simp[htn,k]
 clear last
 have go:∀ (k1:Bool),(e.op.Kind == 1)=k1→decide (e.op.Kind=1)=k1→WL Try.prog zea.nt zjy (psS fl p bs tn ws t e r) (psQ (bs,tn',th)):=fun k1 e1 e2=>by
  rw[e2] at mid
  rcases hr with rfl | rfl
  all_goals
   cases k1 with
   | false=>exact WL.sreg (by simp[e1];rfl) (by simp;rfl) (mid false (by simp) _ (by simp))
   | true =>
    cases th with
    | false=>exact WL.sreg (by simp[e1,hp,hp',hth];rfl) (by simp;rfl) (mid false (by simp) _ (by simp))
    | true =>
     cases ws with
     | true=>exact WL.sreg (by simp[e1,hp,hp',hth];rfl) (by simp;rfl) (mid false (by simp) _ (by simp))
     | false=>exact WL.sreg (by simp[e1,hp,hp',hth];rfl) (by simp;rfl) (mid true (by simp) _ (by simp))
 by_cases k1:e.op.Kind=1
 ·exact go true (by simp[k1]) (by simp[k1])
 ·exact go false (beq_false_of_ne k1) (by simp[k1])
theorem zqf (l:List Ev)(fl:Int)(p:Nat)(a:Pst)(t:St)(ht:OkSt t)(hp:p < t.There.length)(u:Nat)(hu:u < l.length)(hbs:a.1.length≤100000)(hc0:0≤l[u].Client)(hc1:l[u].Client < t.Handles.length) :
  FnC Try.prog 154 [.nod (.bx true () [sUU true a.1,bl a.2.1]),.nod (.bx true () [bl a.2.2])] [i64 u,z6v false t,.vptr () [sEv l],.vptr () [i64 fl],.vptr () [i64 p],.ptr 1000000 0 [] 0,.ptr 1000100 0 [] 0]
   [.nod (.bx true () [sUU true (z5d l fl p a u t).1,bl (z5d l fl p a u t).2.1]),.nod (.bx true () [bl (z5d l fl p a u t).2.2])] (.tuple []):=by
 have f1:=z0y (o:=false) (r:=false) hu
 have g1:14≤l.length * 14 - u * 14:=by omega
 have hat:atE l (u:Int)=l[u]:=z3s hu
 refine wb yz6 rfl ?_
 refine WL.sreg (by simp;rfl) (by simp;rfl) ?_
 refine WL.lower 10000 5 (by simp;rfl) (by simp) ?_
 refine WL.sreg (by simp[hu,f1,g1];rfl) (by simp;rfl) ?_
 have eP:z5d l fl p a u t=(zr3 l fl p a u t,y43 l fl p a u t,z0t t p):=rfl
 have eB:zr3 l fl p a u t=if (decide (fl≤l[u].Stamp) && z0t t p)=true then a.1 ++ [t.Body.getD p []] else a.1:=by unfold zr3;rw[hat]
 have eT:y43 l fl p a u t=(a.2.1 || (decide (fl < l[u].Stamp) && ((decide (l[u].op.Kind=1) && (z0t t p && !a.2.2)) || wrF l[u] t p))):=by unfold y43;rw[hat]
 rw[eP]
 generalize zr3 l fl p a u t=bs' at eB ⊢
 generalize y43 l fl p a u t=tn' at eT ⊢
 obtain⟨bs,tn,ws⟩:=a
 simp only at eB eT hbs ⊢
 clear f1 g1 hat eP
 generalize l[u]=e at *
 have rest:=fun bs r hr=>zih fl p bs tn ws t ht hp e hc0 hc1 tn' r hr eT
 have hp':p+1≤t.There.length:=hp
 have hpb:p < t.Body.length:=by rw[ht.bn];exact hp
 have hpb':p+1≤t.Body.length:=hpb
 obtain⟨th,hth⟩:∃ th,t.There[p]=th:=⟨_,rfl⟩
 have eth:z0t t p=th:=by simp[z0t,hp,hth]
 have hbd:t.Body.getD p []=t.Body[p]:=by simp[hpb]
 rw[eth,hbd] at eB
 have no:bs'=bs→∀ L,L=psS fl p bs tn ws t e [(2500,0,bl false)]→WL Try.prog zea.nt zvb L (wg (fun L'=>WL Try.prog zea.nt zjy L' (psQ (bs',tn',z0t t p))) (psQ (bs',tn',z0t t p))):=fun hb L hL=>by
  subst hL hb
  refine WL.cond (t:=false) (by simp) (by simp) fun _=>WL.skip ?_
  exact rest bs' _ (.inr rfl)
 by_cases k:fl≤e.Stamp
 ·cases th with
  | true =>
   refine WL.seq (WL.sreg (by simp[k,hp,hp',hth];rfl) (by simp;rfl) ?_)
   refine WL.cond (t:=true) (by simp) (fun _=>?_) (by simp)
   have hb1:z0c (t.Body[p]).length:=by have:=ht.b16 _ (qc hpb);unfold z0c;omega
   have hm1:(bs.length+1) * 24≤140737488355328:=by omega
   have hm2:bs.length+1≤maxLen:=by unfold maxLen;omega
   have eB':bs'=bs ++ [t.Body[p]]:=by rw[eB];simp[k]
   refine WL.draw z0p (by simp[z05,noH]) (DL.o (by simp[hp,hp',hpb,hpb'];exact⟨rfl,rfl⟩) ?_)
   refine DL.call0 false (z5m t.Body[p] hb1) (by simp) (by simp) ?_
   refine DL.o (by simp[hm1,hm2];exact⟨rfl,rfl⟩) (DL.nil ⟨by kernel_rfl,_,by simp;rfl,?_⟩)
   refine WL.eqL ?_ (rest bs' [] (.inl rfl))
   simp[eB']
   exact pr (by simp)
  | false=>refine WL.seq (WL.sreg (by simp[k,hp,hp',hth];rfl) (by simp;rfl) (no (by simp[eB]) _ (by simp)))
 ·refine WL.seq (WL.sreg (by simp[k];rfl) (by simp;rfl) (no (by simp[eB,k]) _ (by simp)))
theorem zvf {σ:Type}(l:List Ev)(see:σ→Int→St→σ):∀ (o:List Int) (s:St) (a:σ),OkSt s→OkSt (goW l see s a o).2.1
 | [],s,a,h=>h
 | x :: r,s,a,h=>by
  simp only[goW]
  split
  ·exact zvf l see r _ _ (z37 h _)
  ·exact h
theorem zqg {l:List Ev}{p c:Int}(h:(zbn l p c).2=true):OkSt (zbn l p c).1:=by
 unfold zbn at h ⊢
 split at h
 ·rename_i h0
  rw[if_pos h0]
  cases hb:z0u p c with
  | true=>unfold z6t z1g at h0;rw[hb] at h0;simp at h0
  | false =>
   have hok:=z1x hb
   unfold z1g
   rw[hb]
   simp only[py,if_false]
   split
   ·exact hok
   ·exact zvf _ _ _ _ _ hok
 ·cases h
theorem zgv {α:Type}(f:α→AU)(h:∀ a,z12 (f a)=true):∀ l:List α,z20 (l.map f)=true
 | []=>rfl
 | a :: l=>by simp only[s4,z20,h a,zgv f h l,rr]
end Go.OT
