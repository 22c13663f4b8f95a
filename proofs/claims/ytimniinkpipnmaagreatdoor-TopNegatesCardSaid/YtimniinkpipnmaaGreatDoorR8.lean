/- A part of the proof of TopNegates. -/
import Derived.Test.YtimniinkpipnmaaGreatDoorR7
set_option maxRecDepth 100000
set_option maxHeartbeats 8000000
set_option linter.all false
namespace Go.Proofs.YtimniinkpipnmaaGreatDoor
open Go.RowKit Go.Own
section
open Go.Shelf
attribute [local go_sem] Oper.semAt_some
def ee(n:Nat)(g:Nat->Nat):List Value:=(List.range n).map λj=>IV (g j:Int)
def Jy(w:WD)(A:Au)(e:Ending)(c:WD):Prop:=
 BW w c/\∃D v E b a,e=RT v/\yT c w.heap.size D v/\fS D/\Jv A E/\y9 A D (Mk A E) b a/\gw A D
def yR{P:Program}{c:Code}{K:Act->WD->Prop}{Q:Exit->Act->WD->Prop}{a:Act}{w:WD}(h:c.wp P (Exit.then K (λ_ _ _=>False)) a w):c.wp P (Exit.then K Q) a w:=
 wp_mono h λe a w b=>by
  cases e with
  |normal=>exact b
  |_=>exact b.elim
def pM{w a:WD}{e:TypeId}{v:Value}{n:Nat}{b:List Value}(h:Sl w e v n b)(c:BW w a):Sl a e v n b:=h.aA (aj.aF c) (λg e s=>by have:=h.lt g e;omega)
def Ag(d:WD)(b:List Nat)(v:Value)(w:WD):Prop:=∃a m c,v=.slice a m c/\aE .i64 3 d w (.slice a m c) (aH b)
def Ag.af{f w d:WD}{b:List Nat}{v:Value}(h:Ag f b v w)(g:BW w d):Ag f b v d:=by obtain ⟨a,m,c,e,i⟩:=h;exact ⟨a,m,c,e,jK i g⟩
def CB(n:Nat)(g:Nat->Nat)(i v:Nat)(a:i<n):(ee n g).set i (IV v)=ee n (up g i v):=by refine SZ λj=>?_;unfold ee;rw [List.getElem?_set,Oh];by_cases b:j<n;rw [Oh,Pt b];by_cases e:i=j;subst e;rw [Oa rfl,Oa (by simp;exact a)];simp [aB];rw [Of e];simp only [Ti];rw [an _ _ _ _ (P4 e)];rw [Oh,O7 (l:=List.range n) (by rw [OQ];omega)];rw [Of (by omega)];rfl
def Cz(n:Nat)(g:Nat->Nat):(ee n g).length=n:=by simp [ee]
def hH{n:Nat}{g h:Nat->Nat}(e:∀j,j<n->g j=h j):ee n g=ee n h:=
 Q6 λj a=>by rw [e j (Oq.1 a)]
def rf:∀n,List.replicate n (IV 0)=ee n λ_=>0:=λn=>by unfold ee;refine (List.eq_replicate_iff.2 ⟨by simp,λx a=>?_⟩).symm;obtain ⟨_,-,rfl⟩:=OC.1 a;rfl
def Eh{w:WD}{b n i:Nat}{g:Nat->Nat}(h:Sl w 3 (SV b n n) n (ee n g))(c:i<n)(v:Nat):Sl (w.setCell (AD b i) (IV v)) 3 (SV b n n) n (ee n (up g i v))/\w.cell? (AD b i)=some (IV (g i:Int))/\w.frozen? (AD b i)=false:=by have a:=fG h;refine ⟨?_,?_,NA a i⟩;rw [<-CB n g i v c];refine gQ ?_ (by simp [Cz]) (dT h).2.1;simp [HC,World.setCell,Ow,a];rw [Nt a];simp [ee,c]
structure xq (b wr:WD) (d c a N:Nat) (f:Nat->Bool) (i:Nat):Prop where
 set:∃W,dY wr d c N (λj=>decide (j<i)&&f j) W
 arr:Sl wr 3 (SV a N N) N (ee N λj=>if j<i then fV f j else 0)
 aA:aj (λk=>k=c\/k=a) b wr
 apart:d≠a/\c≠a
def xq.no{a wr:WD}{g k b N:Nat}{f:Nat->Bool}{i:Nat}(h:xq a wr g k b N f i)(d:f i=false):xq a wr g k b N f (i+1):=by
 obtain ⟨W,l⟩:=h.set;refine ⟨⟨W,?_⟩,?_,h.aA,h.apart⟩;have e:(λj=>decide (j<i+1)&&f j)=λj=>decide (j<i)&&f j:=funext λj=>by by_cases e:j=i;subst e;rw [d];simp;rw [show decide (j<i+1)=decide (j<i)from Qb.2 (by omega)]
 rw [e];exact l;have e:(ee N λj=>if j<i+1 then fV f j else 0)=ee N λj=>if j<i then fV f j else 0:=hH λj _=>by by_cases e:j=i;subst e;rw [Oa (by omega),Of (by omega)];unfold fV;rw [d];rfl;by_cases c:j<i;rw [Oa c,Oa (by omega)];rw [Of c,Of (by omega)]
 rw [e];exact h.arr
def xq.yes{c wr b w2:WD}{m l a N:Nat}{f:Nat->Bool}{i:Nat}(h:xq c wr m l a N f i)(w:i<N)(o:f i=true){W:List Nat}(x:dY b m l N (up (λj=>decide (j<i)&&f j) i true) W)(q:aj (λk=>k=l) wr b)
 (n:w2=b.setCell (AD a i) (IV (kq f i:Int))):xq c w2 m l a N f (i+1)/\b.cell? (AD a i)=some (IV 0)/\b.frozen? (AD a i)=false:=by
 have v:=h.arr.aA q (λg e s=>by have:=ig e;exact h.apart.2 (by omega))
 obtain ⟨t,d,u⟩:=Eh v w (kq f i)
 have r:aj (λk=>k=a) b w2:=by rw [n];exact (aj.refl (λk=>k=a) b).setCell (p:=(AD a i)) (λ_=>rfl) _
 refine ⟨⟨⟨W,?_⟩,?_,(h.aA.then q (λ_ _ e=>.inl e)).then r (λ_ _ e=>.inr e),h.apart⟩,?_,u⟩
 have e:(λj=>decide (j<i+1)&&f j)=up (λj=>decide (j<i)&&f j) i true:=funext λj=>by by_cases e:j=i;subst e;rw [aB,o];simp;rw [an _ _ _ _ e,show decide (j<i+1)=decide (j<i)from Qb.2 (by omega)]
 rw [e];exact x.aA r h.apart.1 h.apart.2
 have e:(ee N λj=>if j<i+1 then fV f j else 0)=ee N (up (λj=>if j<i then fV f j else 0) i (kq f i)):=hH λj _=>by by_cases e:j=i;subst e;rw [Oa (by omega),aB,pF o];rw [an _ _ _ _ e];by_cases d:j<i;rw [Oa d,Oa (by omega)];rw [Of d,Of (by omega)]
 rw [e,n];exact t
 rw [d,Of (by omega)];rfl
def BF(w:WD)(A:Au)(ia:OA)(il ic:Nat)(na:OA)(d nc:Nat)(hv:bY w A ia il na d)(hA:fS A)(dA:eG w):
 CL 80 #[.agg #[IV A.sets,.slice ia il ic,.slice na d nc]] w (Jy w A):=by
 obtain ⟨i3,ex,eD,eB,bU⟩:=Ol Tryz.ed
 obtain ⟨q,hq⟩:=EX w.heap.size
 obtain ⟨N,bI⟩:=EX ((w.alloc (.cells #[IV A.sets,.slice ia il ic,.slice na d nc] 36)).alloc (.cells #[IV 0,SN,SN] 36))
 have be:BW w N:=bI▸aa (ag _ _) (ag _ _)
 have s1:N.heap.size=q+1+1:=by rw [<-bI,NG,NG,hq]
 have aW:N.heap[q]? =some (.cells #[IV A.sets,.slice ia il ic,.slice na d nc] 36 (0,0)):=by rw [<-bI,<-hq,(ND _ _).2 _ (by rw [NG];omega)];exact (ND w _).1
 have dE:N.heap[q+1]? =some (.cells #[IV 0,SN,SN] 36 (0,0)):=by rw [<-bI,<-hq,<-NG w (.cells #[IV A.sets,.slice ia il ic,.slice na d nc] 36)];exact (ND _ _).1
 have c6:=Nq (ft N A ia il ic na d nc (hv.af be) hA)
 have dm:Hid (∀w2,BW N w2->CL 32 #[.agg #[IV A.sets,.slice ia il ic,.slice na d nc]] w2 (yZ w2 A)):=λw2 hb=>Iv w2 A ia il ic na d nc (hv.af (aa be hb)) hA
 have aR:Hid (∀t,BW N t->t.cell? (AD q 0)=some (IV A.sets)/\t.cell? (AD q 1)=some (.slice ia il ic)/\t.cell? (AD q 2)=some (.slice na d nc)):=λt h=>by have h2:=(h.block q (Nu.1 aW).1).trans aW;exact ⟨CH h2,CH h2,CH h2⟩
 have HV:Hid (∀t,BW N t->bY t A ia il na d):=λt h=>hv.af (aa be h)
 have HA:=Nq hA
 have er:Hid (eG N):=dA.af be
 have ed:=Nq be
 have eg:=Nq dE
 have HQ:=Nq hq
 have dt:=Nq s1
 have eQ:d<=256:=by rw [<-hv.bC];exact hA.many
 have bS:Hid (A.ah.length=d):=hv.bC
 have ey:il<=16777216:=by have:=hv.aJ.1;rw [aC]at this;rw [<-this];exact hA.il
 obtain ⟨c0,c1,c2⟩:=aR.o N (Nx _ _)
 clear hv hA be aW dE s1 dA
 refine (Q8 (n:=0)).1 (SS Tryz.func80 rfl PO ?_ rfl)
 rw [Sh]
 simp only [Tryz.ntmps80,Rk,Ou,PA,Nat.reduceAdd,Nat.reduceSub,Ss,Su,S1,Sy,PU,OW]
 go_upto_region 3 with(go_at_call 23;refine c6.o.mono ?_;rintro e w2 ⟨rfl,bf⟩;have cD:=Nq bf;have c7:=Nq (dm.o w2 bf);clear bf)
 clear bI hq c0 c1 c2 c6
 obtain ⟨d0,d1,d2⟩:=aR.o w2 cD.o
 go_upto_region 4 with(go_at_call 32;refine c7.o.mono ?_;rintro e w3 ⟨W,X,ac,I,ae,ce,E,la,lc,L,aq,au,IN,rfl,bh,dV,dM,hI,hL,bU⟩;have cW:=Nq bU;have dp:=Nq bh;have ck:=Nq dV;have ej:=Nq dM;have HI:=Nq hI;clear bU bh dV dM hI hL;unfold mr)
 have bh:=dp.o
 rw [bS.o]at bh⊢
 obtain ⟨M,hM⟩:=EX (((2^A.sets-1:Nat):Int))
 rw [hM]
 obtain ⟨p,hp⟩:=EX w3.heap.size
 obtain ⟨w4,bL⟩:=EX (w3.alloc (.cells #[.slice W X ac,.slice ae d ce,.slice la d lc,.slice aq d au,UV M] 57))
 have cM:BW w3 w4:=bL▸ag _ _
 have s4:w4.heap.size=p+1:=by rw [<-bL,NG,hp]
 have bD:w4.heap[p]? =some (.cells #[.slice W X ac,.slice ae d ce,.slice la d lc,.slice aq d au,UV M] 57 (0,0)):=by rw [<-bL,<-hp];exact (ND w3 _).1
 have en:Hid (N.heap.size<=p):=by have h1:=cD.o.size;have h2:=cW.o.size;show N.heap.size<=p;omega
 rw [hp,bL]
 have dr:Hid (∀t,BW w4 t->t.cell? (AD p 0)=some (.slice W X ac)/\t.cell? (AD p 1)=some (.slice ae d ce)/\t.cell? (AD p 2)=some (.slice la d lc)/\t.cell? (AD p 3)=some (.slice aq d au)/\t.cell? (AD p 4)=some (UV M)):=λt h=>by have h2:=(h.block p (Nu.1 bD).1).trans bD;exact ⟨CH h2,CH h2,CH h2,CH h2,CH h2⟩
 have cl:Hid (∀t,BW w4 t->qR t W X I ae d E la L aq IN):=λt h=>bh.af (aa cM h)
 have cf:Hid (BW N w4):=aa cD.o (aa cW.o cM)
 have el:=Nq hM
 have du:=Nq s4
 have cj:=Nq (Db w4 d (by omega))
 obtain ⟨f0,f1,f2⟩:=aR.o w4 cf.o
 clear bh hM hp bL cM s4 bD d0 d1 d2 dp c7 dm
 go_upto_region 5 with(go_at_call 92;refine cj.o.mono ?_;rintro e w5 ⟨rfl,cx,dB⟩;have bt:=Nq cx;have cY:=Nq dB;clear cx dB)
 rw [du.o]at bt⊢
 obtain ⟨ub,bH⟩:=EX w5.heap.size
 obtain ⟨Q,bM⟩:=EX (w5.alloc (.cells #[PT (p+1+1)] 134))
 have aE:BW w5 Q:=bM▸ag _ _
 have s6:Q.heap.size=ub+1:=by rw [<-bM,NG,bH]
 have dH:Q.cell? (AD ub 0)=some (PT (p+1+1)):=by rw [<-bM,<-bH,Nt (ND w5 _).1];rfl
 rw [bH,bM]
 have et:=Nq bH
 have cE:=Nq dH
 have eP:=Nq s6
 have a1:Hid (BW w4 Q):=aa cY.o aE
 have cG:=bt
 have aS:Hid (dY Q (p+1+1) (p+1) d (λ_=>false) (List.replicate (gU d) 0)):=bt.o.af aE
 have aB:Hid (∀t,Below Q.drew.heap.size Q.drew t->t.cell? (AD p 0)=some (.slice W X ac)/\t.cell? (AD p 1)=some (.slice ae d ce)/\t.cell? (AD p 2)=some (.slice la d lc)/\t.cell? (AD p 3)=some (.slice aq d au)/\t.cell? (AD p 4)=some (UV M)):=λt h=>dr.o t (aa a1.o ((Nx _ Q).drew.trans h))
 have ds:Hid (∀t,Below Q.drew.heap.size Q.drew t->CL 112 #[.agg #[.slice W X ac,.slice ae d ce,.slice la d lc],.slice W X ac] t (iQ E I d t)):=λt h=>by have hp:=cl.o t (aa a1.o ((Nx _ Q).drew.trans h));exact yx t _ _ ae d ce E hp.pg.gr W X ac I hp.nW hp.Mo hp.il
 have dc:Hid (∀t,Below Q.drew.heap.size Q.drew t->CL 51 #[.agg #[.slice W X ac,.slice ae d ce,.slice la d lc,.slice aq d au,UV M]] t (yX E IN A.sets d t)):=λt h=>by have hp:=cl.o t (aa a1.o ((Nx _ Q).drew.trans h));have:=rh t W X ac I ae d ce E la lc L aq au IN A.sets HA.o.sets hp;unfold mr at this;rw [el.o]at this;exact this
 obtain ⟨e0,e1,e2,e3,e4⟩:=aB.o Q.drew (Nx _ _)
 clear bH bM aE s6 dH f0 f1 f2 cj dr
 refine yR ?_
 refine av 9 (S:=λT=>T.cell? (AD p 0)=some (.slice W X ac)/\T.cell? (AD p 1)=some (.slice ae d ce)/\T.cell? (AD p 2)=some (.slice la d lc)/\T.cell? (AD p 3)=some (.slice aq d au)/\T.cell? (AD p 4)=some (UV M)) (by kernel_rfl) (⟨e0,e1,e2,e3,e4⟩) (λal=>?_)
 refine' az 0 ?_
 refine' az 1 ?_
 refine' az 2 ?_
 refine' az 3 ?_
 refine' az 4 ?_
 refine' az 6 ?_
 refine aI 5 λK H=>?_
 rw [Oa (by rfl)]
 apply aY.o
 refine aN (f:=112) (ds.o Q.drew (Nx _ _)) ?_ (λe w7 an=>?_)
 ·clear H;go_simp
 obtain ⟨v5,F,rfl,ez,dX⟩:=an
 obtain ⟨b5,rfl,cy,am,dJ⟩:=ez
 refine ⟨_,rfl,?_⟩
 refine H.o _ _ (λ_=>aB.o w7 am) ?_
 clear H K al
 try walk_nrm
 refine aI 7 λK H=>?_
 rw [Oa (by rfl)]
 apply aY.o
 refine aN (f:=51) (dc.o w7 am) ?_ (λe w8 an=>?_)
 ·clear H;go_simp
 obtain ⟨v6,G,rfl,bg,dZ⟩:=an
 obtain ⟨b6,rfl,cz,bx,dK⟩:=bg
 refine ⟨_,rfl,?_⟩
 refine H.o _ _ (λ_=>aB.o w8 (aa am bx)) ?_
 clear H K
 try walk_nrm
 refine aI 8 λK H=>?_
 go_simp
 refine H.o _ _ (λ_=>aB.o w8 (aa am bx)) ?_
 clear H K
 try walk_nrm
 refine aI 9 λK H=>?_
 go_simp
 refine H.o _ _ (λe=>nomatch e) ?_
 clear H K
 try walk_nrm
 refine ay (by kernel_rfl) ?_
 have eo:=Nq dX
 have ep:=Nq dZ
 have ax:Hid (BW Q w8):=(Nx _ Q).drew.trans (aa am bx)
 have cm:Hid (Sl w8 4 (SV b5 d d) d (bA d F)):=pM cy bx
 have cn:=Nq cz
 have cF:Hid (p+1<b5/\p+1<b6/\p+1<ub/\p+1+1<ub):=by have h1:=aS.o.eE;have h2:=cY.o.size;have h3:Q.drew.heap.size=Q.heap.size:=rfl;have h4:=am.size;have h5:=du.o;have h6:=cG.o.eE;have h7:=et.o;exact ⟨by omega,by omega,by omega,by omega⟩
 clear cy cz am bx dJ dK dX dZ e0 e1 e2 e3 e4 ds dc aB
 simp only [Exit.then]
 have a0:Hid (BW N w8):=aa cf.o (aa a1.o ax.o)
 obtain ⟨f0,f1,f2⟩:=aR.o w8 a0.o
 obtain ⟨J,b4⟩:=EX w8.heap.size
 obtain ⟨wa,ca⟩:=EX (w8.alloc (.cells (madeCells #[IV 0] d) 3))
 obtain ⟨ai,a9⟩:=EX (wa.alloc (.cells #[SV J d d] 33))
 have sa:wa.heap.size=J+1:=by rw [<-ca,NG,b4]
 have d9:ai.heap.size=J+1+1:=by rw [<-a9,NG,sa]
 have dD:BW w8 wa:=ca▸ag _ _
 have bv:BW wa ai:=a9▸ag _ _
 have aV:BW w8 ai:=aa dD bv
 have dI:ai.cell? (AD (J+1) 0)=some (SV J d d):=by rw [<-a9,<-sa,Nt (ND wa _).1];rfl
 have ak:=Nq aV
 have eJ:=Nq d9
 have ei:=Nq dI
 have db:=Nq b4
 go_upto_region 7 with(at_make;refine bJ rfl _ _ 33 rfl 3 i3 (IV 0) 1 OE ex eD eB _ _ _ _ d rfl rfl rfl rfl (by rw [bU];omega) (by unfold maxLen;omega) ?_;rintro w9 rfl hs;have dg:=Nq hs;clear hs)
 have dS:Sl wa 3 (SV J d d) d (ee d λ_=>0):=by
  have h1:=dg.o;have h2:=bZ (IV 0) rfl d;have h3:w8.alloc (.cells (madeCells (IV 0).cells (d*1)) 3)=wa:=by rw [<-ca,PZ];rfl
  rw [h3,h2,rf,b4]at h1;exact h1
 have dO:=(aS.o.af ax.o).eE
 have dx:xq ai ai (p+1+1) (p+1) J d (λj=>F j&&G j) 0:=⟨⟨_,by
  have:=(aS.o.af ax.o).af aV;have e:(λj=>decide (j<0)&&(F j&&G j))=λ_=>false:=funext λj=>by simp
  rw [e];exact this⟩,by
  have e:(ee d λj=>if j<0 then fV (λj=>F j&&G j) j else 0)=ee d λ_=>0:=hH λj _=>by rw [Of (by omega)]
  rw [e];exact pM dS bv,aj.refl _ _,by omega,by omega⟩
 have di:=Nq dx
 clear dS dO dx ca a9 sa d9 dD bv aV dI b4 f0 f1 f2 dg
 obtain ⟨f0,f1,f2⟩:=aR.o ai (aa a0.o ak.o)
 have bo:Hid (b5<J/\b6<J/\ub<J):=by have h1:=cm.o.lt b5 rfl;have h2:=cn.o.lt b6 rfl;have h3:=db.o;have h4:=Nr Q _ cE.o;have h5:=ax.o.size;simp only at h4;exact ⟨by omega,by omega,by omega⟩
 have bn:Hid (∀(wr:WD)(i:Nat),xq ai wr (p+1+1) (p+1) J d (λj=>F j&&G j) i->(∀j,j<d->wr.cell? (AD b5 j)=some (.bool (F j))/\wr.cell? (AD b6 j)=some (.bool (G j)))/\wr.cell? (AD ub 0)=some (PT (p+1+1))/\wr.cell? (AD (J+1) 0)=some (SV J d d)):=λwr i h=>by
  have hl:=bo.o;have hn:=cF.o;have k1:=h.aA;have k5:=(pM cm.o ak.o).aA k1 (λg e s=>by have:=ig e;omega);have k6:=(pM cn.o ak.o).aA k1 (λg e s=>by have:=ig e;omega);have cu:=(aa ax.o ak.o).cell (Nr Q _ cE.o);refine ⟨λj hj=>⟨?_,?_⟩,?_,?_⟩
  ·rw [Nt (fG k5)];simp [bA,hj]
  ·rw [Nt (fG k6)];simp [bA,hj]
  ·exact k1.aq (cu.trans cE.o) (by simp only;omega)
  ·exact k1.aq ei.o (by simp only;omega)
 go_wp2
 go_loopw [8,39] (λv8 v wr=>∃i:Nat,i<=d/\v=IV i/\v8=IV ((kq (λj=>F j&&G j) i:Nat):Int)/\Hid (xq ai wr (p+1+1) (p+1) J d (λj=>F j&&G j) i)) (λ_ v _=>d-(intOf v).toNat)
 exact ⟨0,NS _,rfl,rfl,di⟩
 clear di f0 f1 f2
 obtain ⟨i,hi,rfl,rfl,Z⟩:=hrel
 by_cases cN:i<d
 ·have dQ:(i:Int)<(d:Int):=by omega
  obtain ⟨cr,cu,cv⟩:=bn.o wr i Z.o;obtain ⟨k5,k6⟩:=cr i cN;have bX:=ye (λj=>F j&&G j) i;have dG:=zf (λj=>F j&&G j) i;obtain ⟨fi,ah⟩:=EX ((F i&&G i));have bc:Hid ((λj=>F j&&G j) i=fi):=ah;rw [ah]at bX;obtain ⟨c,hc⟩:=EX (kq (λj=>F j&&G j) i);rw [hc]at bX dG⊢;have eh:=Nq hc;have bb:=Nq bX;clear cr bX hc;cases h5:F i
  ·rw [h5]at k5 ah;have aK:fi=false:=by rw [<-ah];rfl
   rw [aK]at bb bc;have br:=Nq (Z.o.no bc.o);clear ah aK h5 cu cv k6;go_wp2;go_roundw;exact ⟨i+1,by omega,by go_num,by rw [bb.o];rfl,br⟩;simp [intOf];omega
  ·rw [h5]at k5 ah;cases h6:G i
   ·rw [h6]at k6 ah;have aK:fi=false:=by rw [<-ah];rfl
    rw [aK]at bb bc;have br:=Nq (Z.o.no bc.o);clear ah aK h5 h6 cu cv;go_wp2;go_roundw;exact ⟨i+1,by omega,by go_num,by rw [bb.o];rfl,br⟩;simp [intOf];omega
   ·rw [h6]at k6 ah;have aK:fi=true:=by rw [<-ah];rfl
    rw [aK]at bb bc;obtain ⟨Ws,aL⟩:=Z.o.set;have dn:=Nq (Dc wr (p+1+1) (p+1) d _ Ws aL (by omega) i cN (by simp));have em:Hid (∀N,GN wr (p+1+1) (p+1) d (λj=>decide (j<i)&&(F j&&G j)) i (RT (.bool true)) N->xq ai (N.setCell (AD J i) (IV c)) (p+1+1) (p+1) J d (λj=>F j&&G j) (i+1)/\N.cell? (AD J i)=some (IV 0)/\N.frozen? (AD J i)=false/\N.cell? (AD (J+1) 0)=some (SV J d d)):=λN ⟨_,W2,eA,dN⟩=>by have h:=Z.o.yes cN bc.o eA dN (w2:=N.setCell (AD J i) (IV c)) (by rw [eh.o]);exact ⟨h.1,h.2.1,h.2.2,dN.aq cv (by have:=bo.o;have:=cF.o;simp only;omega)⟩
    clear ah aK h5 h6 aL cv;go_wp2_with (go_at_call 93;refine dn.o.mono ?_;rintro e eH cS;obtain rfl:=cS.1;obtain ⟨dT,g0,g1,g2⟩:=em.o eH cS;have br:=Nq dT;clear dT cS);go_roundw;exact ⟨i+1,by omega,by go_num,by rw [bb.o];go_num,br⟩;simp [intOf];omega
 ·obtain rfl:d=i:=by omega
  have dQ:¬((d:Int)<(d:Int)):=by omega
  have ba:Hid (BW N wr):=by have h1:=aa a0.o ak.o;exact h1.trans (Z.o.aA.af h1.size (λk hk s=>by have:=en.o;have:=db.o;have:=a0.o.size;rcases s with s|s<;>omega))
  obtain ⟨-,cu,cv⟩:=bn.o wr d Z.o;obtain ⟨Ws,aL⟩:=Z.o.set;have d4:dY wr (p+1+1) (p+1) d (λj=>F j&&G j) Ws:=⟨aL.dp,aL.words,aL.lt,λk=>(aL.bit k).trans (by
   by_cases e:k<d
   ·rw [N6 e];simp
   ·rw [NX e];simp)⟩
  have bR:Hid (uY wr ub (J+1) (p+1+1) (p+1) J d (λj=>F j&&G j) Ws (fV λj=>F j&&G j)):=⟨cu,cv,d4,λk hk=>by rw [Nt (fG Z.o.arr)];simp [ee,hk]⟩
  have de:Hid (∀t,BW wr t->∀(la:OA)(ll lc:Nat)(l:List Nat),aG .i64 t la ll (aH l)->ll<=16777216->(∀k∈l,k<A.ah.length)->CL 113 #[.slice la ll lc,PT ub,PT (J+1)] t (yY t (dP (λj=>F j&&G j) (fV λj=>F j&&G j) l))):=λt hb la ll lc l hr hl hk=>
   Hy t la ll lc l ub (J+1) (p+1+1) (p+1) J d _ Ws _ hr hl (by rw [bS.o]at hk;exact hk) (by omega) (bR.o.af hb)
  obtain ⟨cb,bz⟩:=EX wr.heap.size;obtain ⟨z,aM⟩:=EX (wr.alloc (.cells #[.func (.func 113) #[] #[PT ub,PT (J+1)]] 133));have cp:BW wr z:=aM▸ag _ _;have ea:z.heap.size=cb+1:=by rw [<-aM,NG,bz]
  have bW:z.cell? (AD cb 0)=some (.func (.func 113) #[] #[PT ub,PT (J+1)]):=by rw [<-aM,<-bz,Nt (ND wr _).1];rfl
  have Y:=Nq cp;have bl:=Nq bW;have eK:=Nq ea;have eO:=Nq bz;have bs:Hid (∀T,Below z.drew.heap.size z.drew T->T.cell? (AD q 0)=some (IV A.sets)/\T.cell? (AD q 1)=some (.slice ia il ic)/\T.cell? (AD cb 0)=some (.func (.func 113) #[] #[PT ub,PT (J+1)])):=λt hb=>by have hb:BW z t:=(Nx _ z).drew.trans hb;have h:=aR.o t (aa ba.o (aa Y.o hb));exact ⟨h.1,h.2.1,(hb.cell (Nr z _ bW)).trans bW⟩
  have ch:Hid (∀t,Below z.drew.heap.size z.drew t->CL 113 #[.slice ia il ic,PT ub,PT (J+1)] t λe bi=>∃u,e=RT u/\BW t bi/\Ag z (dP (λj=>F j&&G j) (fV λj=>F j&&G j) A.aJ) u bi):=λt hb=>by have hb:BW z t:=(Nx _ z).drew.trans hb;have bf:=aa Y.o hb;refine (de.o t bf ia il ic A.aJ ((HV.o t (aa ba.o bf)).aJ) ey HA.o.aJ).mono ?_;rintro e bi ⟨a,m,c,rfl,hm⟩;exact ⟨_,rfl,hm.2.1,a,m,c,rfl,iJ hb hm⟩
  obtain ⟨e0,e1,e2⟩:=bs.o z.drew (Nx _ _);clear cu cv aL d4 cp ea bW;go_upto_region 17 with(fail);try rw [bz,aM]
  clear aM bz;refine yR ?_;refine av 8 (S:=λT=>T.cell? (AD q 0)=some (IV A.sets)/\T.cell? (AD q 1)=some (.slice ia il ic)/\T.cell? (AD cb 0)=some (.func (.func 113) #[] #[PT ub,PT (J+1)])) (by kernel_rfl) (⟨e0,e1,e2⟩) (λal=>?_);refine' az 0 ?_;refine' az 1 ?_;refine' az 2 ?_;refine' az 3 ?_;refine' az 4 ?_;clear al e0 e1 e2;refine cA [5,6,7] (λi=>if i=5 then 68 else if i=6 then 69 else 11) #[true,true,true,true,true,true,true,true,false] 1
   (λi u w=>match i with|5=>Ag z (dP (λj=>F j&&G j) (fV λj=>F j&&G j) A.aJ) u w|6=>∃x,u=.agg #[IV A.sets,x,SN]/\Ag z (dP (λj=>F j&&G j) (fV λj=>F j&&G j) A.aJ) x w|_=>∃b,u=PT b/\z.heap.size<=b/\w.heap[b]? =some (.cells #[IV 0,SN,SN] 36 (0,0))) (by kernel_rfl) (by kernel_rfl) rfl (by decide) ?st1 ?st2 (by decide) ?st3 ?st4
  case st1=>
   intro i u w4 w5 hu hb;split at hu
   ·exact hu.af hb
   ·obtain ⟨x,e,h⟩:=hu;exact ⟨x,e,h.af hb⟩
   ·obtain ⟨b,e,h1,h⟩:=hu;exact ⟨b,e,h1,(hb.block b (Nu.1 h).1).trans h⟩
  case st2=>exact bs.o
  case st3=>
   rintro l V t i o hl dG hi ho hr hJ K H;simp only [N8,O5,QD]at hi;rcases hi with rfl|rfl|rfl
   ·simp only [NT,NN,NO,N0]at ho;subst ho
    refine aN (R:=λe bi=>∃u,e=RT u/\BW t bi/\Ag z (dP (λj=>F j&&G j) (fV λj=>F j&&G j) A.aJ) u bi) (f:=113) (args:=#[.slice ia il ic,PT ub,PT (J+1)]) (ch.o t hJ.aM) ?_ (λe w4 ⟨u,he,hb,hu⟩=>⟨u,he,H u w4 hb hu⟩);clear H;simp only [NQ,NZ,aP,Act.put,reduceIte,Nat.reduceEqDiff,NB,NR,NM];go_simp
   ·simp only [NT,NN,NO,N0]at ho;subst ho
    have h5:Ag _ _ _ _:=hJ.mS 5 (by decide) (aU (l:=[5]) (by kernel_rfl) hr 5 (by simp));refine bT (v:=.agg #[IV A.sets,V 68,SN]) (w':=t) ?_ (H _ _ (Nx _ _) ⟨_,rfl,h5⟩);obtain ⟨_,_,_,e5,-⟩:=h5;change V 68=_ at e5;clear H;simp only [NQ,NZ,aP,Act.put,reduceIte,Nat.reduceEqDiff,NB,NR,NM];rw [e5];go_simp
   ·simp only [NT,NN,NO,N0]at ho;subst ho
    refine bT (v:=PT t.heap.size) (w':=t.alloc (.cells #[IV 0,SN,SN] 36)) ?_ (H _ _ ((Nx _ _).alloc (Nz _) _) ⟨_,rfl,hJ.aM.size,(ND t _).1⟩);clear H;simp only [NQ,NZ,aP,Act.put,reduceIte,Nat.reduceEqDiff,NB,NR,NM];go_simp
  case st4=>
   intro V t dC hV;simp only [NQ,NZ,aP,Act.put,reduceIte,Nat.reduceEqDiff,NB,NR,NM];obtain ⟨xv,e6,h6⟩:=hV 6 (by decide);obtain ⟨ob,e7,aZ,aQ⟩:=hV 7 (by decide);change V 69=_ at e6;change V 11=_ at e7;rw [e6,e7];generalize V 68=eF;obtain ⟨xa,xm,xc,rfl,h6⟩:=h6;have cq:BW z t:=(Nx _ _).drew.trans dC;have c0:t.cell? (AD ob 0)=some (IV 0):=CH aQ;have c1:t.cell? (AD ob 1)=some (SN):=CH aQ;have c2:t.cell? (AD ob 2)=some (SN):=CH aQ;have z0:t.frozen? (AD ob 0)=false:=NA aQ 0;have z1:t.frozen? (AD ob 1)=false:=NA aQ 1;have z2:t.frozen? (AD ob 2)=false:=NA aQ 2;refine aI 8 λK H=>?_;go_simp;refine H.o _ _ (λe=>nomatch e) ?_;clear H K;try walk_nrm
   refine ay (by kernel_rfl) ?_;simp only [Exit.then];obtain ⟨ad,bK⟩:=EX (((t.setCell (AD ob 0) (IV A.sets)).setCell (AD ob 1) (.slice xa xm xc)).setCell (AD ob 2) (SN));rw [bK];have cV:q+1<z.heap.size:=by have:=dt.o;have:=ba.o.size;have:=Y.o.size;omega
   have eu:Hid (∀b,(Value.slice xa xm xc).ownBlock=some b->z.heap.size<=b):=h6.2.2;have bB:(dP (λj=>F j&&G j) (fV λj=>F j&&G j) A.aJ).length<=16777216:=N5 (iI _ _ _) HA.o.il;have hL:=iR.aK (sets:=A.sets) (src:=([]:List Nat).map A.aw) (C:=λl js=>js=dP (λj=>F j&&G j) (fV λj=>F j&&G j) l) (ini0:=A.aJ) (x0:=q+1) cV aZ cq aQ h6 bB rfl bK.symm;have bd:=Nq cV;have es:Hid (kx z (q+1) A (λj=>F j&&G j) ob (xa,xm,xc) (dP (λj=>F j&&G j) (fV λj=>F j&&G j) A.aJ) [] (Ai ob (SN) (xa,xm,xc) []) ad):=⟨_,_,hL,rfl,λk=>Ry⟩;have ar:Hid (BW z ad):=hL.aM;have df:=Nq aZ;clear e6 e7 h6 aZ aQ cq c0 c1 c2 z0 z1 z2 bK dC hV hL cV bB ch bs;have cC:Hid (BW N ad):=aa ba.o (aa Y.o ar.o);have bj:Hid (BW wr ad):=aa Y.o ar.o;have cu:=(bR.o.af bj.o).MO;obtain ⟨ab,bu⟩:=EX ad.heap.size;obtain ⟨aw,aO⟩:=EX (ad.alloc (.cells #[PT (p+1+1)] 134));have aD:BW ad aw:=aO▸ag _ _;have eb:aw.heap.size=ab+1:=by rw [<-aO,NG,bu]
   have dF:aw.cell? (AD ab 0)=some (PT (p+1+1)):=by rw [<-aO,<-bu,Nt (ND ad _).1];rfl
   have dh:Hid (CL 115 #[PT (p+1+1)] ad λe t=>e=RT (.func (.func 152) #[] #[PT ab])/\t=aw):=by have h:=EF ad (p+1+1);rw [bu,aO]at h;exact h
   have cH:Hid (kx z (q+1) A (λj=>F j&&G j) ob (xa,xm,xc) (dP (λj=>F j&&G j) (fV λj=>F j&&G j) A.aJ) [] (Ai ob (SN) (xa,xm,xc) []) aw):=
    es.o.hold (B:=z.heap.size) (Nz _) ((aj.aF aD).mono λk hk s=>absurd hk (by omega))
   have ek:Hid (Af Tryz.prog 152 #[PT ab] aw (λx:Nat=>#[IV x]) (λbN x _=>bN.length<=x/\x<d/\(F x&&G x)=true) (Ai ob (SN) (xa,xm,xc) []) (λxs=>xs=(List.range d).filter λj=>F j&&G j)):=by
    refine EE aw ab (p+1+1) (p+1) d _ Ws (by omega) ((er.o.af cC.o).af aD) ((bR.o.af bj.o).set.af aD) dF _ (λk s=>?_);have h1:z.heap.size<=k:=by
     rcases s with(s|s)|s|⟨x,hx,-⟩
     ·have:=df.o;omega
     ·cases s
     ·obtain ⟨-,o,e⟩:=s;exact eu.o k (by rw [show xa=_ from e];rfl)
     ·cases hx
    have h2:=cF.o;have h3:=bo.o;have h4:=bd.o;have h5:=(bR.o.set).eE;have h6:=Y.o.size;omega
   have bO:=Nq aD;have eL:=Nq eb;have eN:=Nq bu;clear aD eb dF aO bu;go_wp2_with (go_at_call 115;refine dh.o.mono ?_;rintro e eI ⟨rfl,rfl⟩);have cB:z.heap.size<=eI.heap.size:=by have:=ar.o.size;have:=bO.o.size;omega
   have co:=Nq cB;refine oe (gf:=152) (lb:=#[PT ab]) rfl (enters_of Tryz.func152 (by kernel_rfl) rfl) ek.o (λ_=>rfl) (kx z (q+1) A (λj=>F j&&G j) ob (xa,xm,xc) (dP (λj=>F j&&G j) (fV (λj=>F j&&G j)) A.aJ))
    (λbN S B C h hk=>h.hold cB hk) (λbN S B h=>h.cells) (λbN x B C h hk=>h) cH.o
    (λx=>{tmps:=#[Value.agg #[Value.int IntKind.i64 ↑A.sets,Value.slice ia il ic,Value.slice na d nc],Value.pointer (some {block:=q,off:=0}),Value.pointer (some {block:=q+1,off:=0}),Value.pointer (some {block:=p,off:=0}),Value.pointer (some {block:=ub,off:=0}),Value.slice (some {block:=b5,off:=0}) d d,Value.slice (some {block:=b6,off:=0}) d d,Value.pointer (some {block:=J+1,off:=0}),Value.int IntKind.i64 ↑(kq (λj=>F j&&G j) d),u9,Value.pointer (some {block:=cb,off:=0}),Value.pointer (some {block:=ob,off:=0}),IV x,undef,Value.agg #[Value.int IntKind.i64 ↑A.sets,Value.slice ia il ic,Value.slice na d nc],Value.int IntKind.i64 0,Value.bool false,undef,Value.agg #[Value.int IntKind.i64 ↑A.sets,Value.slice ia il ic,Value.slice na d nc],Value.agg #[Value.slice W X ac,Value.slice ae d ce,Value.slice la d lc,Value.slice aq d au,Value.int IntKind.u64 M],Value.pointer (some {block:=q,off:=2}),Value.slice na d nc,Value.int IntKind.i64 ↑d,Value.pointer (some {block:=p+1+1,off:=0}),Value.pointer (some {block:=p,off:=0}),Value.agg #[Value.slice W X ac,Value.slice ae d ce,Value.slice la d lc],Value.pointer (some {block:=p,off:=0}),Value.pointer (some {block:=p,off:=0}),Value.slice W X ac,Value.slice (some {block:=b5,off:=0}) d d,Value.agg #[Value.slice W X ac,Value.slice ae d ce,Value.slice la d lc,Value.slice aq d au,Value.int IntKind.u64 M],Value.slice (some {block:=b6,off:=0}) d d,Value.pointer (some {block:=q,off:=2}),Value.slice na d nc,Value.int IntKind.i64 ↑d,Value.slice (some {block:=J,off:=0}) d d,Value.pointer (some {block:=q,off:=2}),Value.slice na d nc,Value.int IntKind.i64 ↑d,Value.int IntKind.i64 ↑d,Value.bool false,u41,u42,u43,u44,u45,u46,u47,u48,u49,u50,u51,u52,u53,u54,u55,u56,u57,u58,u59,u60,u61,Value.func (Fn.func 113) #[] #[Value.pointer (some {block:=ub,off:=0}),Value.pointer (some {block:=J+1,off:=0})],Value.pointer (some {block:=q,off:=0}),Value.int IntKind.i64 ↑A.sets,Value.func (Fn.func 113) #[] #[Value.pointer (some {block:=ub,off:=0}),Value.pointer (some {block:=J+1,off:=0})],Value.pointer (some {block:=q,off:=1}),Value.slice ia il ic,eF,Value.agg #[Value.int IntKind.i64 ↑A.sets,Value.slice xa xm xc,SN],Value.pointer (some {block:=p+1+1,off:=0}),Value.func (Fn.func 152) #[] #[Value.pointer (some {block:=ab,off:=0})],IV x,undef,undef,undef,undef,undef,undef,undef,undef,undef,undef,undef,undef,undef,undef,undef,undef,undef,undef,undef,undef,undef,undef],defers:=[]}) ?assign ?body ?done
   case assign=>intro l x B K2 ev;gi_wp2;exact ev
   case body=>
    rintro l bN S x B hl ⟨ov,O,hm,cs,hs⟩ ⟨bD,cd,ew⟩;have eM:(x:Int)<(d:Int):=by omega
    have cg:Hid (BW N B):=aa ba.o (aa Y.o hm.aM);have c3:Hid (BW wr B):=aa Y.o hm.aM;have hv:=HV.o B cg.o;obtain ⟨nb,no,U,rfl,cO,-,-,ta,tl,tc,k0,k1,k2,k3,bE⟩:=hv.nd (j:=x) (by rw [hv.bC];exact cd);have a6:U∈A.ah:=NI cO;have dU:A.aw x=U:=by unfold Au.aw;rw [Nw,cO];rfl
    have d5:tl<=16777216:=by have:=bE.1;rw [aC]at this;rw [<-this];exact HA.o.tl U a6
    obtain ⟨oa,oc,rfl⟩:=bw hm.o.cK;obtain ⟨g0,g1,g2⟩:=aR.o B cg.o;obtain ⟨xb,eC⟩:=EX B.heap.size;obtain ⟨wx,d7⟩:=EX (B.alloc (.cells #[UV U.ak,UV U.aD,UV U.aT,.slice ta tl tc] 62));have aW:BW B wx:=d7▸ag _ _;have ap:=bp B #[UV U.ak,UV U.aD,UV U.aT,.slice ta tl tc] 62;rw [d7,eC]at ap;have aF:BW B wx.drew:=aW.trans ((Nx _ _).drew.mono aW.size);have bk:=Nq aF;have HM:=Nq hm;have dd:=Nq cs;have eq:=Nq hs;have ci:=Nq dU;have dk:=Nq a6;have o2:B.cell? (AD ob 2)=some (.slice oa O.length oc):=CH hm.o.dp;have o5:=(aF.cell (Nr _ _ o2)).trans o2;have cc:=(hm.aM.cell (Nr _ _ bl.o)).trans bl.o;have c5:=(aF.cell (Nr _ _ cc)).trans cc;have b0:wx.drew.cell? _=_:=(ap 0 _ rfl).1;have b1:wx.drew.cell? _=_:=(ap 1 _ rfl).1;have b2:wx.drew.cell? _=_:=(ap 2 _ rfl).1;have b3:wx.drew.cell? _=_:=(ap 3 _ rfl).1;have c4:Hid (CL 113 #[.slice ta tl tc,PT ub,PT (J+1)] wx.drew (yY wx.drew (dP (λj=>F j&&G j) (fV (λj=>F j&&G j)) (bV.tO U)))):=
     de.o wx.drew (aa c3.o aF) ta tl tc (bV.tO U) (bE.af aF) d5 (λk hk=>HA.o.lN U a6 k hk)
    have dz:O.length+1<=33554432:=by omega
    clear hv cO a6 bE d5 aW ap o2 cc hm cs hs dU bD ew;gi_wp2;refine tN 14 (S:=λT=>T.cell? (AD ob 2)=some (.slice oa O.length oc)/\T.cell? (AD xb 0)=some (UV U.ak)/\T.cell? (AD xb 1)=some (UV U.aD)/\T.cell? (AD xb 2)=some (UV U.aT)/\T.cell? (AD xb 3)=some (.slice ta tl tc)/\T.cell? (AD cb 0)=some (.func (.func 113) #[] #[PT ub,PT (J+1)])) (by kernel_rfl) (by kernel_rfl) (λ_ _ h=>h) (⟨o5,b0,b1,b2,b3,c5⟩) (λal=>?_);refine' az 0 ?_ [1,0];refine' az 1 ?_;refine' az 2 ?_ [13,12,3,2];refine' az 3 ?_ [13,12,3];refine' az 4 ?_ [13,12,5,4];refine' az 5 ?_ [13,12,5];refine' az 6 ?_ [13,12,7,6];refine' az 7 ?_ [13,12,7];refine' az 8 ?_ [11,8];refine' az 9 ?_ [11,10,9];refine' az 10 ?_ [11,10];clear al;have bP:Hid (∀T,Below wx.drew.heap.size wx.drew T->(λT=>T.cell? (AD ob 2)=some (.slice oa O.length oc)/\T.cell? (AD xb 0)=some (UV U.ak)/\T.cell? (AD xb 1)=some (UV U.aD)/\T.cell? (AD xb 2)=some (UV U.aT)/\T.cell? (AD xb 3)=some (.slice ta tl tc)/\T.cell? (AD cb 0)=some (.func (.func 113) #[] #[PT ub,PT (J+1)])) T):=λT hb=>⟨(hb.cell (Nr _ _ o5)).trans o5,(hb.cell (Nr _ _ b0)).trans b0,(hb.cell (Nr _ _ b1)).trans b1,(hb.cell (Nr _ _ b2)).trans b2,(hb.cell (Nr _ _ b3)).trans b3,(hb.cell (Nr _ _ c5)).trans c5⟩;clear b0 b1 b2 b3 o5 c5;refine aI 11 λK H=>?_;rw [Oa (by rfl)];apply aY.o;refine aN (f:=113) c4.o ?_ (λe Q an=>?_)
    ·clear H;go_simp
    obtain ⟨a2,l2,c2,rfl,bg⟩:=an;have aE:Below wx.drew.heap.size wx.drew Q:=bg.2.1;refine ⟨_,rfl,?_⟩;refine H.o _ _ (λ_=>bP.o Q aE) ?_;clear H K;try walk_nrm
    refine aI 12 λK H=>?_;go_simp;refine H.o _ _ (λ_=>bP.o Q aE) ?_;clear H K;try walk_nrm
    obtain ⟨w7,cT⟩:=EX (Q.alloc (.cells #[UV U.ak,UV U.aD,UV U.aT,.slice a2 l2 c2] 62));have ap:=bp Q #[UV U.ak,UV U.aD,UV U.aT,.slice a2 l2 c2] 62;rw [cT]at ap;have am:BW Q w7:=cT▸ag _ _;have a5:Below wx.drew.heap.size wx.drew w7:=aa aE am;refine aI 13 λK H=>?_;go_simp;refine H.o _ _ (λ_=>bP.o w7 a5) ?_;clear H K;try walk_nrm
    have a4:BW B w7:=aa bk.o a5;have bC:w7.ownsRow 0 62 4 (.slice oa O.length oc) O.length (cX O):=bm HM.o.o.cK (aj.aF a4) (λg e s=>OI _ (NL (dj HM.o.o.cK g e) s));have q7:=(bP.o w7 a5).1;have f7:w7.frozen? (AD ob 2)=false:=NA ((a4.block ob HM.o.o.Bb).trans HM.o.o.dp) 2;have cQ:¬(Value.slice oa O.length oc).ownBlock=some ob:=λe=>HM.o.o.nY ob e rfl;refine aI 14 λK H=>?_;rw [Oa (by rfl)];apply aY.o;refine j6 (.tmp 79) (.tmp 91) rfl (.slice oa O.length oc) O.length (cX O) rfl bC (AD Q.heap.size 0) 1 [UV U.ak,UV U.aD,UV U.aT,.slice a2 l2 c2] rfl rfl (λj u hj=>?_) (by simp [Value.oneCell']) dz (λa8 c8 eR dR b7 d6=>?_)
    ·rw [O4,Od];exact (ap j u (by simpa using hj)).1
    have q8:=b7.aq q7 cQ;have f8:=(N7 (b7.block ob (Nr _ _ q7) cQ)).trans f7;have bF:=(HM.o.row bd.o bk.o bg (N5 (iI _ _ _) (HA.o.tl U dk.o))).aA (w1:=w7) (S':=oX ob (.slice oa O.length oc) (λk=>k<=q+1)) (aj.aF am) (λk s=>.inr s) (λk s=>.inl s);have HN:=Nq (kx.dB HM.o dd.o eq.o x (y:=(jF A (λj=>F j&&G j) x,(a2,l2,c2))) rfl a4 (by unfold jF;rw [ci.o];exact bF) (λk r=>by
     obtain ⟨-,o,e⟩:=r;have:=bg.2.2 k (by rw [show a2=_ from e];rfl);have:=bk.o.size;omega) (by
     have e:rp (jF A (λj=>F j&&G j) x,(a2,l2,c2))=[UV U.ak,UV U.aD,UV U.aT,.slice a2 l2 c2]:=by unfold jF rp;rw [ci.o]
     rw [e];exact dR) b7 d6 rfl)
    refine H.o _ _ (λe=>nomatch e) ?_;clear H K aE bg cT ap am a5 a4 bC q7 f7 cQ dR b7 d6 bF;try walk_nrm
    refine aI 15 λK H=>?_;go_simp;refine H.o _ _ (λe=>nomatch e) ?_;clear H K;try walk_nrm
    refine aI 16 λK H=>?_;go_simp;refine H.o _ _ (λe=>nomatch e) ?_;clear H K;try walk_nrm
    refine ay (by kernel_rfl) ?_;(try simp only [Exit.inBlock]);exact HN.o
   case done=>
    rintro D xs S B hD rfl hi dw;have dL:kx z (q+1) A (λj=>F j&&G j) ob (xa,xm,xc) (dP (λj=>F j&&G j) (fV (λj=>F j&&G j)) A.aJ) (dy (λj=>F j&&G j) A.ah.length) S B:=by rw [bS.o];exact hi
    obtain ⟨ov,O,a7,ct,cw,bG⟩:=dL.done;obtain ⟨oa,oc,rfl⟩:=bw a7.cK;have a3:=a7.dp;have cJ:BW N B:=aa ba.o (aa Y.o cw);have ao:B.heap[q+1]? =some (.cells #[IV 0,SN,SN] 36 (0,0)):=(cJ.block _ (by have:=dt.o;omega)).trans eg.o;have o0:B.cell? (AD ob 0)=some (IV A.sets):=CH a3;have o1:B.cell? (AD ob 1)=some (.slice xa xm xc):=CH a3;have o2:B.cell? (AD ob 2)=some (.slice oa O.length oc):=CH a3;have c0:B.cell? (AD (q+1) 0)=some (IV 0):=CH ao;have c1:B.cell? (AD (q+1) 1)=some (SN):=CH ao;have c2:B.cell? (AD (q+1) 2)=some (SN):=CH ao;have z0:B.frozen? (AD (q+1) 0)=false:=NA ao 0;have z1:B.frozen? (AD (q+1) 1)=false:=NA ao 1;have z2:B.frozen? (AD (q+1) 2)=false:=NA ao 2;have da:=Nq dw;have c9:=Nq hD;have dl:=Nq a7;have bq:=Nq ct;have cI:=Nq bG;have cZ:=Nq cJ;clear dw hD a7 ct cw bG a3 hi dL cJ ao;simp only [];go_wp2;obtain ⟨w9,cU⟩:=EX (((B.setCell (AD (q+1) 0) (IV A.sets)).setCell (AD (q+1) 1) (.slice xa xm xc)).setCell (AD (q+1) 2) (.slice oa O.length oc));rw [cU];obtain ⟨d0,d1,d2,b8⟩:=bQ c0 c1 c2 w9 cU.symm;have b9:q+1≠D:=by have:=bd.o;have:=c9.o;have:=co.o;omega
    have cK:w9.heap[D]? =some (.deferred (some [])):=(b8.block D (Nu.1 da.o).1 (λe=>b9 e.symm)).trans da.o;have aX:=dq w9 D (.deferred none);have d3:=Tm (P:=Tryz.prog) cK;obtain ⟨wz,d8⟩:=EX (w9.putObj D (.deferred none));rw [d8]at aX d3;have y0:=aX.aq d0 b9;have y1:=aX.aq d1 b9;have y2:=aX.aq d2 b9;have dv:BW w wz:=by have h1:=aa ed.o cZ.o;have h2:=h1.trans (b8.af h1.size (λk hk e=>by have:=HQ.o;omega));exact h2.trans (aX.af h2.size (λk hk e=>by have:=c9.o;have:=co.o;have:=bd.o;have:=HQ.o;omega))
    have cR:=dl.o.aA b8 (λk e s=>by have:=bq.o k s;have:=bd.o;omega) (λk e=>.inl (Nat.le_of_eq e));have dW:=cR.AU aX (λk e s=>by subst e;obtain ⟨o,h1,h2⟩:=cR.cells s;rw [cK]at h1;cases h1;cases h2)
    have cL:=dW.Nd (B:=w.heap.size) (λk hk=>by have:=HQ.o;show k<=q+1;omega) (λk s=>by have:=bq.o k s;have:=bd.o;have:=HQ.o;omega);rw [<-cI.o]at cL;have ec:=Nq cL;have ef:=Nq dv;clear cU c0 c1 c2 z0 z1 z2 o0 o1 o2 d0 d1 d2 b8 cK aX d8 dv cR dW cL;refine ⟨by simp,.inl ⟨_,_,rfl,d3,?_⟩⟩;refine ⟨.agg #[IV A.sets,.slice xa xm xc,.slice oa O.length oc],?_,ef.o,_,_,E,_,_,rfl,ec.o,Jb HA.o _,ck.o,Dt HA.o (λj=>F j&&G j) (Mk A E) (λx hx=>?_),Dr HA.o _⟩
    ·rw [cP rfl];go_simp
    ·have cd:x<d:=by rw [<-bS.o];exact hx
     have h5:=eo.o x cd;have h6:=ep.o x cd;simp only [OB];rw [h5,h6];unfold Mk;have hE:E.length=A.ah.length:=ck.o.bC;rw [qi (hit:=λs x=>(IN x).testBit s=true) (hit':=λs x=>(A.aw x).aT.testBit s=true) (λs y hy=>by rw [ej.o y (by rw [<-hE];exact hy)])];refine and_congr_left λ_=>⟨?_,?_⟩
     ·rintro ⟨g,hg,hr⟩;rw [HI.o]at hg
      obtain ⟨g1,g2⟩:=Og.1 hg;exact ⟨g,g1,lh.1 g2,hr⟩
     ·rintro ⟨g,g1,g2,hr⟩;exact ⟨g,by rw [HI.o];exact Og.2 ⟨g1,lh.2 g2⟩,hr⟩
end
def EK(w:WD)(q:Nat):BW w (w.drewN q):=by have h:=Nx w.heap.size w;exact ⟨h.os,h.tape,h.output,h.size,h.block⟩
def vG(w:WD)(i k:OA)(n c m d:Nat)(f g:List Nat)(v:aG .i64 w i n (aH f))(x:aG .i64 w k m (aH g))(H:n<=16777216)(G:m<=16777216):
 CL 120 #[.slice i n c,.slice k m d] w λe o=>e=RT (.bool (decide (f=g)))/\BW w o:=by
 have D:f.length=n:=by have:=v.1;rwa [aC]at this
 have a:g.length=m:=by have:=x.1;rwa [aC]at this
 by_cases b:n=m
 subst b
 rcases OT n with u|u
 subst u
 refine (Tryz.slices_Equal_int_empty i k c 0 d w (by omega)).mono ?_
 rintro e o ⟨rfl,rfl⟩
 have A:=OV D
 have B:=OV a
 subst A B
 exact ⟨rfl,Nx _ _⟩
 obtain ⟨-,C|⟨y,E,rfl,p⟩⟩:=v
 omega
 obtain ⟨-,C|⟨z,F,rfl,r⟩⟩:=x
 omega
 refine (Tryz.slices_Equal_int y E n c z F n d (aH f) (aH g) w (by rw [aC];omega) (by rw [aC];omega) (by omega) (by omega) (λj s=>p j (by rw [aC]at s;omega)) (λj s=>r j (by rw [aC]at s;omega))).mono ?_
 rintro e o ⟨rfl,q,rfl⟩
 refine ⟨?_,EK w q⟩
 rw [Oe (by rw [aC];omega),Oe (by rw [aC];omega)]
 congr 2
 by_cases e:f=g
 subst e;simp
 rw [NX e]
 refine NC.2 λh=>e ?_
 have t:∀(l a:List Nat),aH l=aH a->l=a:=λl a h=>by
  have:(aH l).map Int.toNat=(aH a).map Int.toNat:=by rw [h]
  simpa [aH,Function.comp_def]using this
 exact t _ _ h
 refine (Tryz.slices_Equal_int_lens i k n c m d w b).mono ?_
 rintro e o ⟨rfl,rfl⟩
 refine ⟨?_,Nx _ _⟩
 rw [NX]
 intro e;subst e;omega
def Mi(w:WD)(x y:bV)(e:Ending)(a:WD):Prop:=∃B,e=RT (.bool B)/\(B=true↔x=y)/\BW w a
def Mu{x y:bV}:x=y↔x.ak=y.ak/\x.aD=y.aD/\x.aT=y.aT/\x.tO=y.tO:=by cases x;cases y;simp
def FX(w:WD)(x y:bV)(l o:OA)(j n m v:Nat)(O:aG .i64 w l j (aH (bV.tO x)))(P:aG .i64 w o m (aH (bV.tO y)))(J:j<=16777216)(K:m<=16777216):
 CL 122 #[.agg #[UV x.ak,UV x.aD,UV x.aT,.slice l j n],.agg #[UV y.ak,UV y.aD,UV y.aT,.slice o m v]] w (Mi w x y):=by
 obtain ⟨q,I⟩:=EX w.heap.size
 obtain ⟨a,d⟩:=EX ((w.alloc (.cells #[UV x.ak,UV x.aD,UV x.aT,.slice l j n] 62)).alloc (.cells #[UV y.ak,UV y.aD,UV y.aT,.slice o m v] 62))
 have i:BW w a:=d▸aa (ag _ _) (ag _ _)
 have b:a.heap[q]? =some (.cells #[UV x.ak,UV x.aD,UV x.aT,.slice l j n] 62 (0,0)):=by rw [<-d,<-I,(ND _ _).2 _ (by rw [NG];omega)];exact (ND w _).1
 have c:a.heap[q+1]? =some (.cells #[UV y.ak,UV y.aD,UV y.aT,.slice o m v] 62 (0,0)):=by rw [<-d,<-I,<-NG w (.cells #[UV x.ak,UV x.aD,UV x.aT,.slice l j n] 62)];exact (ND _ _).1
 have X:a.cell? (AD q 0)=some (UV x.ak):=CH b
 have Y:a.cell? (AD q 1)=some (UV x.aD):=CH b
 have Z:a.cell? (AD q 2)=some (UV x.aT):=CH b
 have x3:a.cell? (AD q 3)=some (.slice l j n):=CH b
 have y0:a.cell? (AD (q+1) 0)=some (UV y.ak):=CH c
 have y1:a.cell? (AD (q+1) 1)=some (UV y.aD):=CH c
 have y2:a.cell? (AD (q+1) 2)=some (UV y.aT):=CH c
 have y3:a.cell? (AD (q+1) 3)=some (.slice o m v):=CH c
 have p:=Nq (vG a l o j n m v _ _ (O.af i) (P.af i) J K)
 have g:Hid (x=y↔x.ak=y.ak/\x.aD=y.aD/\x.aT=y.aT/\bV.tO x=bV.tO y):=Mu
 have f:=Nq i
 clear O P b c i
 generalize x.ak=u at *
 generalize y.ak=N at *
 generalize x.aD=s at *
 generalize y.aD=L at *
 generalize x.aT=t at *
 generalize y.aT=M at *
 obtain ⟨C,k⟩:=EX (decide (bV.tO x=bV.tO y))
 rw [k]at p
 have E:=Nq k
 clear k
 go_enter Tryz.func122,Tryz.ntmps122
 go_upto_region 1 with(fail)
 try rw [d]
 clear d I
 by_cases z:u=N
 subst z
 have Q:((u:Int)==(u:Int))=true:=Qa _
 by_cases A:s=L
 subst A
 have S:((s:Int)==(s:Int))=true:=Qa _
 by_cases B:t=M
 subst B
 have U:((t:Int)==(t:Int))=true:=Qa _
 go_wp2_with (go_at_call 120;refine p.o.mono ?_;rintro e W ⟨rfl,r⟩;have D:=Nq r;clear r)
 go_ret
 refine ⟨C,rfl,?_,aa f.o D.o⟩
 rw [g.o,<-E.o];simp
 have U:((t:Int)==(M:Int))=false:=NC.2 (by omega)
 have V:(t==M)=false:=NC.2 B
 have H:=Nq B
 clear B
 go_wp2
 go_ret
 exact ⟨false,rfl,⟨λh=>(by cases h),λh=>absurd (g.o.1 h).2.2.1 H.o⟩,f.o⟩
 have S:((s:Int)==(L:Int))=false:=NC.2 (by omega)
 have T:(s==L)=false:=NC.2 A
 have G:=Nq A
 clear A
 go_wp2
 go_ret
 exact ⟨false,rfl,⟨λh=>(by cases h),λh=>absurd (g.o.1 h).2.1 G.o⟩,f.o⟩
 have Q:((u:Int)==(N:Int))=false:=NC.2 (by omega)
 have R:(u==N)=false:=NC.2 z
 have F:=Nq z
 clear z
 go_wp2
 go_ret
 exact ⟨false,rfl,⟨λh=>(by cases h),λh=>absurd (g.o.1 h).1 F.o⟩,f.o⟩
def KQ(w:WD)(l k:List bV)(e:Ending)(a:WD):Prop:=∃B,e=RT (.bool B)/\(B=true↔l=k)/\BW w a
def xG(w:WD)(A D:Au)(ia ja na ma:OA)(il jl d nc F mc:Nat)(r:bY w A ia il na d)(hw:bY w D ja jl ma F)(Y:fS A)(Z:fS D):
 CL 121 #[.slice na d nc,.slice ma F mc,.func (.func 122) #[] #[]] w (KQ w A.ah D.ah):=by
 have HV:=Nq r
 have HW:=Nq hw
 have HA:=Nq Y
 have HD:=Nq Z
 have L:Hid (A.ah.length=d):=r.bC
 have K:Hid (D.ah.length=F):=hw.bC
 have ah:d<=256:=by rw [<-r.bC];exact Y.many
 have af:F<=256:=by rw [<-hw.bC];exact Z.many
 clear r hw Y Z
 go_enter Tryz.func121,Tryz.ntmps121
 by_cases e:d=F
 ·subst e;have t1:((d:Int)!=(d:Int))=false:=by simp
  go_wp2;go_loopw [17] (λv wr=>∃i:Nat,i<=d/\v=IV i/\Hid (BW w wr)/\Hid (A.ah.take i=D.ah.take i)) (λv _=>d-(intOf v).toNat);exact ⟨0,NS _,rfl,Nq (Nx _ _),Nq rfl⟩;obtain ⟨i,hi,rfl,N,Q⟩:=hrel;by_cases P:i<d
  ·have ae:(i:Int)<(d:Int):=by omega
   have r:=HV.o.af N.o;have hw:=HW.o.af N.o;obtain ⟨b,o,x,rfl,S,-,-,ta,V,tc,k0,k1,k2,k3,m⟩:=r.nd (j:=i) (by rw [r.bC];exact P);obtain ⟨b',o',y,rfl,U,-,-,G,q,H,u,z,C,E,a⟩:=hw.nd (j:=i) (by rw [hw.bC];exact P);have ad:V<=16777216:=by have:=m.1;rw [aC]at this;rw [<-this];exact HA.o.tl x (NI S)
   have R:q<=16777216:=by have:=a.1;rw [aC]at this;rw [<-this];exact HD.o.tl y (NI U)
   obtain ⟨l,n⟩:=EX (wr.alloc (.cells #[UV x.ak,UV x.aD,UV x.aT,.slice ta V tc] 62));obtain ⟨wc,p⟩:=EX (l.alloc (.cells #[UV y.ak,UV y.aD,UV y.aT,.slice G q H] 62));have k:BW wr l:=n▸ag _ _;have s:BW l wc:=p▸ag _ _;have c:=aa k s;have J:=Nq c;have HC:=Nq (FX wc x y ta G V tc q H (m.af c) (a.af c) ad R);have X:Hid (x=y->A.ah.take (i+1)=D.ah.take (i+1)):=λe=>by rw [OG,OG,S,U,Q.o,e]
   have W:Hid (A.ah=D.ah->x=y):=λe=>by rw [e,U]at S;exact (OJ S).symm
   obtain ⟨M,t⟩:=EX wr.heap.size;have sb:l.heap.size=M+1:=by rw [<-n,NG,t]
   have f:=bp wr #[UV x.ak,UV x.aD,UV x.aT,.slice ta V tc] 62;have g:=bp l #[UV y.ak,UV y.aD,UV y.aT,.slice G q H] 62;rw [n,t]at f;rw [p,sb]at g;have T:∀(i:Nat)(v:Value),CA l M i v->CA wc M i v:=λi v h=>(s.cell (Nr l _ h)).trans h;have p0:=T _ _ (f 0 _ rfl).1;have p1:=T _ _ (f 1 _ rfl).1;have p2:=T _ _ (f 2 _ rfl).1;have p3:=T _ _ (f 3 _ rfl).1;have r0:=(g 0 _ rfl).1;have r1:=(g 1 _ rfl).1;have r2:=(g 2 _ rfl).1;have r3:=(g 3 _ rfl).1;have KB:l.cell? (AD b' (o'+i*4))=l.cell? (AD b' (o'+i*4)):=rfl;have j0:=(k.cell (Nr wr _ u)).trans u;have j1:=(k.cell (Nr wr _ z)).trans z;have j2:=(k.cell (Nr wr _ C)).trans C;have j3:=(k.cell (Nr wr _ E)).trans E;clear r hw S U m a k s c f g T KB u z C E;go_upto_region 6 with(fail);try rw [n]
   go_upto_region 7 with(fail);try rw [p]
   clear n p t sb;go_wp2_with (go_at_call 122;refine HC.o.mono ?_;rintro e w6 ⟨B,rfl,hB,O⟩;have HB:=Nq hB;have I:=Nq O;clear hB O)
   ·rename_i h;have ab:B=false:=by simpa using h
    go_ret;refine ⟨false,rfl,⟨λh=>(by cases h),λh=>?_⟩,aa N.o (aa J.o I.o)⟩;have:=HB.o.2 (W.o h);rw [ab]at this;cases this
   ·rename_i h;have ac:B=true:=by simpa using h
    refine ⟨⟨i+1,by omega,by go_num,aa N.o (aa J.o I.o),X.o (HB.o.1 ac)⟩,?_⟩;simp [intOf];omega
  ·obtain rfl:d=i:=by omega
   go_wp2;go_ret;refine ⟨true,rfl,⟨λ_=>?_,λ_=>rfl⟩,N.o⟩;have:=Q.o;rwa [Oe (by rw [L.o];exact Nz _),Oe (by rw [K.o];exact Nz _)]at this
 ·have t1:((d:Int)!=(F:Int))=true:=by simp;omega
  have t2:(d !=F)=true:=by simp;exact e
  have HE:=Nq e;clear e;go_wp2;go_ret;exact ⟨false,rfl,⟨λh=>(by cases h),λh=>absurd (by rw [<-L.o,<-K.o,h]) HE.o⟩,Nx _ _⟩
def Mh(w:WD)(A D:Au)(e:Ending)(a:WD):Prop:=∃B,e=RT (.bool B)/\(B=true↔A=D)/\BW w a
def Ml{x y:Au}:x=y↔x.sets=y.sets/\x.aJ=y.aJ/\x.ah=y.ah:=by cases x;cases y;simp
def Da(w:WD)(A D:Au)(k u m v:OA)(j C l H n y x E:Nat)(K:bY w A k j m n)(hw:bY w D u l v x)(X:fS A)(Z:fS D):
 CL 83 #[.agg #[IV A.sets,.slice k j C,.slice m n y],.agg #[IV D.sets,.slice u l H,.slice v x E]] w (Mh w A D):=by
 obtain ⟨q,T⟩:=EX w.heap.size
 obtain ⟨f,d⟩:=EX ((w.alloc (.cells #[IV A.sets,.slice k j C,.slice m n y] 36)).alloc (.cells #[IV D.sets,.slice u l H,.slice v x E] 36))
 have c:BW w f:=d▸aa (ag _ _) (ag _ _)
 have s:f.heap[q]? =some (.cells #[IV A.sets,.slice k j C,.slice m n y] 36 (0,0)):=by rw [<-d,<-T,(ND _ _).2 _ (by rw [NG];omega)];exact (ND w _).1
 have t:f.heap[q+1]? =some (.cells #[IV D.sets,.slice u l H,.slice v x E] 36 (0,0)):=by rw [<-d,<-T,<-NG w (.cells #[IV A.sets,.slice k j C,.slice m n y] 36)];exact (ND _ _).1
 have F:Hid (∀b,BW f b->(b.cell? (AD q 0)=some (IV A.sets)/\b.cell? (AD q 1)=some (.slice k j C)/\b.cell? (AD q 2)=some (.slice m n y))/\b.cell? (AD (q+1) 0)=some (IV D.sets)/\b.cell? (AD (q+1) 1)=some (.slice u l H)/\b.cell? (AD (q+1) 2)=some (.slice v x E)):=λb h=>by have P:=(h.block q (Nu.1 s).1).trans s;have Q:=(h.block (q+1) (Nu.1 t).1).trans t;exact ⟨⟨CH P,CH P,CH P⟩,CH Q,CH Q,CH Q⟩
 have R:j<=16777216:=by have:=K.aJ.1;rw [aC]at this;rw [<-this];exact X.il
 have S:l<=16777216:=by have:=hw.aJ.1;rw [aC]at this;rw [<-this];exact Z.il
 have g:=Nq (vG f k u j C l H _ _ (K.af c).aJ (hw.af c).aJ R S)
 have O:Hid (∀b,BW f b->CL 121 #[.slice m n y,.slice v x E,.func (.func 122) #[] #[]] b (KQ b A.ah D.ah)):=λb h=>xG b A D k u m v j l n y x E (K.af (aa c h)) (hw.af (aa c h)) X Z
 have i:Hid (A=D↔A.sets=D.sets/\A.aJ=D.aJ/\A.ah=D.ah):=Ml
 have o:=Nq c
 obtain ⟨⟨x0,x1,x2⟩,y0,y1,y2⟩:=F.o f (Nx _ _)
 clear K hw s t c
 generalize A.sets=I at *
 generalize D.sets=U at *
 go_enter Tryz.func83,Tryz.ntmps83
 go_upto_region 1 with(fail)
 try rw [d]
 clear d T
 by_cases J:I=U
 subst J
 have t1:((I:Int)==(I:Int))=true:=Qa _
 by_cases z:A.aJ=D.aJ
 rw [N6 z]at g
 have r:=Nq z
 clear z
 go_wp2_with (first|(go_at_call 120;refine g.o.mono ?_;rintro e V ⟨rfl,a⟩;obtain ⟨⟨u0,u1,u2⟩,v0,v1,v2⟩:=F.o V a;have N:=Nq (O.o V a);have p:=Nq a;clear a)|(go_at_call 121;refine N.o.mono ?_;rintro e w3 ⟨B,rfl,Y,G⟩;have W:=Nq Y;have L:=Nq G;clear Y G))
 go_ret
 exact ⟨B,rfl,⟨λh=>i.o.2 ⟨by trivial,r.o,W.o.1 h⟩,λh=>W.o.2 (i.o.1 h).2.2⟩,aa o.o (aa p.o L.o)⟩
 rw [NX z]at g
 have r:=Nq z
 clear z
 go_wp2_with (go_at_call 120;refine g.o.mono ?_;rintro e V ⟨rfl,a⟩;have p:=Nq a;clear a)
 go_ret
 exact ⟨false,rfl,⟨λh=>(by cases h),λh=>absurd (i.o.1 h).2.1 r.o⟩,aa o.o p.o⟩
 have t1:((I:Int)==(U:Int))=false:=NC.2 (by omega)
 have ab:(I==U)=false:=NC.2 J
 have M:=Nq J
 clear J
 go_wp2
 go_ret
 exact ⟨false,rfl,⟨λh=>(by cases h),λh=>absurd (i.o.1 h).1 M.o⟩,o.o⟩
section
open Go.Maps
def Jw(w:WD)(A:Au)(e:Ending)(a:WD):Prop:=
 BW w a/\∃D v,e=RT v/\yT a w.heap.size D v/\fS D/\∀u,jR D u↔jR A u
def fS.Jh{A:Au}(h:fS A):Valid A:=⟨h.aJ,λn a q b=>h.lN _ (eh a) q b⟩
structure Gu (w wr:WD) (A D:Au) (ia:OA) (il ic:Nat) (na:OA) (nl nc:Nat):Prop where
 aM:BW w wr
 box:wr.heap[w.heap.size]? =some (.cells #[IV D.sets,.slice ia il ic,.slice na nl nc] 36 (0,0))
 wL:wr.heap[w.heap.size+1]? =some (.cells #[IV 0,SN,SN] 36 (0,0))
 at_:bY wr D ia il na nl
 ok:fS D
 acc:∀u,jR D u↔jR A u
section
variable {w wr w1:WD} {A D:Au} {ia:OA} {il ic:Nat} {na:OA} {nl nc:Nat}
def Gu.af(h:Gu w wr A D ia il ic na nl nc)(a:BW wr w1):Gu w w1 A D ia il ic na nl nc:=
 ⟨aa h.aM a,(a.block _ (Nu.1 h.box).1).trans h.box,(a.block _ (Nu.1 h.wL).1).trans h.wL,h.at_.af a,h.ok,h.acc⟩
def Gu.cells(h:Gu w wr A D ia il ic na nl nc):CA wr w.heap.size 0 (IV D.sets)/\CA wr w.heap.size 1 (.slice ia il ic)/\CA wr w.heap.size 2 (.slice na nl nc):=
 ⟨CH h.box,CH h.box,CH h.box⟩
def Gu.M9(h:Gu w wr A D ia il ic na nl nc):CA wr (w.heap.size+1) 0 (IV 0)/\CA wr (w.heap.size+1) 1 (SN)/\CA wr (w.heap.size+1) 2 (SN)/\FZ wr (w.heap.size+1) 0/\FZ wr (w.heap.size+1) 1/\FZ wr (w.heap.size+1) 2:=
 ⟨CH h.wL,CH h.wL,CH h.wL,NA h.wL 0,NA h.wL 1,NA h.wL 2⟩
def Gu.Ll(h:Gu w wr A D ia il ic na nl nc)(i:Nat):FZ wr w.heap.size i:=NA h.box i
end
def CX(w:WD)(A:Au)(ia:OA)(il ic:Nat)(na:OA)(nl nc:Nat)(i:bY w A ia il na nl)(hA:fS A)(au:eG w):
 CL 44 #[.agg #[IV A.sets,.slice ia il ic,.slice na nl nc]] w (Jw w A):=by
 obtain ⟨q,hq⟩:=EX w.heap.size
 obtain ⟨w1,E⟩:=EX ((w.alloc (.cells #[IV A.sets,.slice ia il ic,.slice na nl nc] 36)).alloc (.cells #[IV 0,SN,SN] 36))
 have y:BW w w1:=E▸aa (ag _ _) (ag _ _)
 have ay:w1.heap[w.heap.size]? =some (.cells #[IV A.sets,.slice ia il ic,.slice na nl nc] 36 (0,0)):=by rw [<-E,(ND _ _).2 _ (by rw [NG];omega)];exact (ND w _).1
 have ax:w1.heap[w.heap.size+1]? =some (.cells #[IV 0,SN,SN] 36 (0,0)):=by rw [<-E,<-NG w (.cells #[IV A.sets,.slice ia il ic,.slice na nl nc] 36)];exact (ND _ _).1
 have R:Hid (Gu w w1 A A ia il ic na nl nc):=⟨y,ay,ax,i.af y,hA,λu=>Ry⟩
 have ae:=Nq (ft w1 A ia il ic na nl nc (i.af y) hA)
 have ap:Hid (∀M,BW w M->eG M):=λM h=>au.af h
 have N:=Nq hq
 obtain ⟨c0,c1,c2⟩:=R.o.cells
 rw [hq]at c0 c1 c2
 clear i hA y ay ax au
 go_enter Tryz.func44,Tryz.ntmps44
 go_upto_region 3 with(go_at_call 23;refine ae.o.mono ?_;rintro e w2 ⟨rfl,aw⟩;have af:=Nq (R.o.af aw);clear aw)
 clear E hq c0 c1 c2 ae R
 go_loopg [] A.wt (λg wr=>∃(D:Au)(ja:OA)(jl jc:Nat)(ma:OA)(ml mc:Nat),Hid (D.wt=g)/\Hid (Gu w wr A D ja jl jc ma ml mc))
 exact ⟨A,ia,il,ic,na,nl,nc,rfl,af⟩
 clear af
 obtain ⟨D,ja,jl,jc,ma,ml,mc,hg,o⟩:=hrel
 obtain ⟨e0,e1,e2⟩:=o.o.cells
 rw [N.o]at e0 e1 e2
 have aq:=Nq (BF wr D ja jl jc ma ml mc o.o.at_ o.o.ok (ap.o wr o.o.aM))
 go_upto_region 4 with(first
  |(go_at_call 80;refine ar.o.mono ?_;rintro e U ⟨j,b,v,E4,ba,aV,rfl,i,f,ho,s,r⟩;obtain ⟨G,I,H,J,L,K,rfl,-⟩:=i.B6;have aF:=Nq j;have S:=Nq i;have Q:=Nq f;have Y:Hid (∀u,jR b u↔jR D3 u):=λu=>rF ho s aI.o.Jh u;have ao:=Nq r;clear j i f ho s r)
  |(go_at_call 80;refine aq.o.mono ?_;rintro e w3 ⟨j,D1,v,E1,a8,aT,rfl,i,f,ho,s,r⟩;obtain ⟨aN,aW,aQ,aZ,a5,a2,rfl,aC⟩:=i.B6;have l:=Nq j;have aH:=Nq f;have ah:=Nq (FB w3 D1 aN aW aQ aZ a5 a2 aC f);have V:Hid (∀u,jR D1 u↔jR D u):=λu=>rF ho s o.o.ok.Jh u;have al:=Nq r;clear j i aC f ho s r)
  |(go_at_call 82;refine ah.o.mono ?_;rintro e w4 ⟨j,D2,v,R2,a9,aU,rfl,i,f,az,s,r⟩;obtain ⟨aO,aX,aR,a0,a6,a3,rfl,aD⟩:=i;have m:=Nq j;have bb:=Nq f;have ai:=Nq (FO w4 D2 aO aX aR a0 a6 a3 aD f);have W:Hid (∀u,jR D2 u↔jR D1 u):=λu=>CM s az aH.o.Jh u;have am:=Nq r;clear j aD f az s r)
  |(go_at_call 81;refine ai.o.mono ?_;rintro e w5 ⟨j,D3,v,R3,rfl,i,f,aB,s,r⟩;obtain ⟨aP,aY,aS,a1,a7,a4,rfl,aE⟩:=i;have t:=Nq j;have aI:=Nq f;have ar:=Nq (BF w5 D3 aP aY aS a1 a7 a4 aE f (ap.o w5 (aa o.o.aM (aa l.o (aa m.o j)))));have X:Hid (∀u,jR D3 u↔jR D2 u):=λu=>CW s aB u;have an:=Nq r;clear j aE f aB s r))
 clear e0 e1 e2 aq ah ai ar
 have aG:Hid (BW w w5):=aa o.o.aM (aa l.o (aa m.o t.o))
 have ab:Hid (BW wr U):=aa l.o (aa m.o (aa t.o aF.o))
 have ak:Hid (q+1<w5.heap.size):=by have h:=(Nu.1 o.o.wL).1;have h1:=l.o.size;have h2:=m.o.size;have h3:=t.o.size;have h4:=N.o;show q+1<w5.heap.size;omega
 have aK:Hid (gw D b):=al.o.trans (am.o.trans (an.o.trans ao.o))
 have Z:Hid (∀u,jR b u↔jR A u):=λu=>(Y.o u).trans ((X.o u).trans ((W.o u).trans ((V.o u).trans (o.o.acc u))))
 obtain ⟨O,F⟩:=EX (U.alloc (.cells #[IV b.sets,.slice G I H,.slice J L K] 36))
 obtain ⟨p,hp⟩:=EX U.heap.size
 have z:BW U O:=F▸ag _ _
 have T:O.heap[p]? =some (.cells #[IV b.sets,.slice G I H,.slice J L K] 36 (0,0)):=by rw [<-F,<-hp];exact (ND U _).1
 have x:=Nq (o.o.af (aa ab.o z))
 have aJ:=Nq (Da O D b ja G ma J jl jc I H ml mc L K x.o.at_ ((S.o.af z).B6.get.1) x.o.ok Q.o)
 have aj:Hid (∀M,BW O M->M.cell? (AD p 0)=some (IV b.sets)/\M.cell? (AD p 1)=some (.slice G I H)/\M.cell? (AD p 2)=some (.slice J L K)):=λM h=>by have h2:=(h.block p (Nu.1 T).1).trans T;exact ⟨CH h2,CH h2,CH h2⟩
 obtain ⟨f0,f1,f2⟩:=x.o.cells
 rw [N.o]at f0 f1 f2
 obtain ⟨g0,g1,g2⟩:=aj.o O (Nx _ _)
 have ac:=Nq z
 rw [hp,F]
 clear F hp z T V W X Y al am an ao l m t o
 go_wp2_with (go_at_call 83;refine aJ.o.mono ?_;rintro e w8 ⟨B,rfl,hB,C⟩;have HB:=Nq hB;have a:=Nq (x.o.af C);obtain ⟨k0,k1,k2⟩:=aj.o w8 C;have ad:=Nq (aa ac.o C);clear hB C;obtain ⟨r0,r1,r2,z0,z1,z2⟩:=a.o.M9;obtain ⟨b0,b1,b2⟩:=a.o.cells;have y0:=a.o.Ll 0;have y1:=a.o.Ll 1;have y2:=a.o.Ll 2;rw [N.o]at r0 r1 r2 z0 z1 z2 b0 b1 b2 y0 y1 y2;cases B)
 obtain ⟨P,c⟩:=EX (((w8.setCell (AD q 0) (IV b.sets)).setCell (AD q 1) (.slice G I H)).setCell (AD q 2) (.slice J L K))
 rw [c]
 obtain ⟨d0,d1,d2,d⟩:=bQ b0 b1 b2 P c.symm
 have aM:=ak.o
 have bd:b.wt<D.wt:=by
  have h:=aK.o;have aL:b≠D:=λe=>by have:=HB.o.2 e.symm;cases this
  rcases O8 b.wt D.wt with h1|h1;exact h1;exact absurd (h.2 (Sk h.1 h1)) aL
 have av:=((S.o.af ad.o).aA (d.mono λk _ e=>by omega)).B6.get.1
 have n:=a.o.box
 have HN:Hid (Gu w P A b G I H J L K):=⟨a.o.aM.trans (d.af a.o.aM.size λk hk e=>by have:=N.o;omega),by rw [<-c];rw [N.o]at n⊢;simp [HC,World.setCell,Ow,n],(d.block _ (Nu.1 a.o.wL).1 (λe=>by have:=N.o;omega)).trans a.o.wL,av,Q.o,Z.o⟩
 have bc:=hg.o
 clear c d0 d1 d2 d av n b0 b1 b2 k0 k1 k2 r0 r1 r2 z0 z1 z2 y0 y1 y2
 go_roundg b.wt
 case measure=>omega
 case rel=>exact ⟨b,G,I,H,J,L,K,rfl,HN⟩
 obtain ⟨P,c⟩:=EX (((w8.setCell (AD (q+1) 0) (IV b.sets)).setCell (AD (q+1) 1) (.slice G I H)).setCell (AD (q+1) 2) (.slice J L K))
 rw [c]
 obtain ⟨d0,d1,d2,d⟩:=bQ r0 r1 r2 P c.symm
 have aM:=ak.o
 clear c b0 b1 b2 k0 k1 k2 r0 r1 r2 z0 z1 z2 y0 y1 y2
 (try simp only [Exit.inBlock,Exit.then])
 refine OS (v:=.agg #[IV b.sets,.slice G I H,.slice J L K]) ?_ rfl ⟨?_,b,_,rfl,?_,Q.o,Z.o⟩
 rw [cP rfl]
 go_simp
 exact a.o.aM.trans (d.af a.o.aM.size λk hk e=>by have:=N.o;omega)
 exact ((S.o.af ad.o).aA (d.mono λk _ e=>by omega)).less aG.o.size
end
section
open Go.Maps
def CK(w0 w:WD)(m:Nat)(fv:Value)(A:Au)(ia:OA)(il ic:Nat)(na:OA)(nl nc:Nat)(zv:Value)(k:Nat)(h:kN w0 w m fv (A.sets:Int) (.slice ia il ic) (.slice na nl nc) zv k 0)(hA:bY w A ia il na nl)(hC:fS A)(Q:eG w)(hk:k<=100):
 CL 22 #[PT m] w λe w'=>e=RT (.tuple #[])/\∃s' Z ab aa ac ae ad af,kN w0 w' m fv s' (.slice Z ab aa) (.slice ac ae ad) af (k+1) 0/\k8 m zv af w w'/\∃D,yT w' w.heap.size D (.agg #[IV s',.slice Z ab aa,.slice ac ae ad])/\fS D/\∀u,jR D u↔jR A u:=by
 obtain ⟨i3,al,an,am,ak⟩:=Ol Tryz.ed
 have HN:=Nq (CX w A ia il ic na nl nc hA hC Q)
 have HM:=Nq h
 obtain ⟨c0,c1,c2,ai,-,-⟩:=h.cells
 clear h hA hC Q
 go_enter Tryz.func22,Tryz.ntmps22
 go_upto_region 1 with(go_at_call 44;refine HN.o.mono ?_;rintro e w3 ⟨hb,D,v,rfl,hv,hr⟩;obtain ⟨E,G,F,r,d,t,rfl,-⟩:=hv.B6;have HV:=Nq hv;have HR:=Nq hr;have L:=Nq hb;clear hr hb hv;have j:=Nq (HM.o.af L.o);obtain ⟨e0,e1,e2,e3,e4,e5⟩:=j.o.cells;have z1:=j.o.free 1;have z2:=j.o.free 2;have z3:=j.o.free 3)
 clear HN c0 c1 c2 ai e0 e1 e2 e3 e4 e5 z1 z2 z3
 obtain ⟨T,V⟩:=j.o.MA (D.sets:Int) (.slice E G F) (.slice r d t)
 have n:=Nq T
 have M:=Nq V
 have O:=Nq HM.o.eE
 clear T V HM j
 generalize ((w3.setCell (AD m 1) (IV D.sets)).setCell (AD m 2) (.slice E G F)).setCell (AD m 3) (.slice r d t)=p at *
 obtain ⟨q0,q1,q2,q3,q4,q5⟩:=n.o.cells
 obtain ⟨xs,C⟩:=n.o.K0
 have y:=Nq C
 obtain ⟨I,J,ao⟩:∃I J,zv=.slice I k J:=by obtain ⟨a,c,e,-⟩:=C.shape;exact ⟨a,c,e⟩
 subst ao
 clear C q0 q1 q2 q5
 refine av 15 (S:=λW=>W.cell? (AD m 3)=some (.slice r d t)/\W.cell? (AD m 4)=some (.slice I k J)) (by kernel_rfl) (⟨q3,q4⟩) (λz=>?_)
 refine' az 0 ?_
 refine' az 1 ?_
 refine' az 2 ?_
 refine' az 3 ?_
 refine' az 4 ?_
 refine' az 5 ?_
 refine' az 6 ?_
 refine' az 7 ?_
 refine' az 8 ?_
 refine' az 9 ?_
 refine' az 10 ?_
 have i:Hid (BW p ((p.alloc (.cells #[IV d] 3)).drew)):=((Nx _ _).alloc (Nz _) _).drew
 have c5:(p.alloc (.cells #[IV d] 3)).drew.cell? (AD p.heap.size 0)=some (IV d):=OK (w:=p) _ 3 p.heap.size 0 rfl
 have H:=(i.o.cell (Nr _ _ q3)).trans q3
 have x:=(i.o.cell (Nr _ _ q4)).trans q4
 refine aI 11 λK f=>?_
 go_simp
 refine f.o _ _ (λ_=>⟨H,x⟩) ?_
 clear f K
 try walk_nrm
 have P:Hid (Sl (p.alloc (.cells #[IV d] 3)).drew 3 (.slice I k J) k xs):=y.o.aA (aj.aF i.o) (λg e s=>by have:=y.o.lt g e;omega)
 clear z q3 q4
 generalize (p.alloc (.cells #[IV d] 3)).drew=w5 at *
 generalize p.heap.size=h5 at c5⊢
 refine aI 12 λK f=>?_
 rw [Oa (by rfl)]
 apply aY.o
 refine gz (.tmp 14) (.tmp 21) 33 rfl 3 i3 (IV 0) 8 OE al an am ak rfl (by decide) (.slice I k J) k _ rfl P.o (AD h5 0) (IV d) rfl rfl c5 (by omega) (λv6 w6 B o Y=>?_)
 have q:¬(Value.slice I k J).ownBlock=some m:=λe=>(n.o.Jo m e).2 rfl
 have r0:=o.aq H q
 have r4:=o.aq x q
 have f6:w6.frozen? (AD m 4)=false:=(N7 (o.block m (Nr _ _ x) q)).trans (NA (n.o.af i.o).dp 4)
 obtain ⟨a6,l6,c6,e6⟩:∃a l c,v6=.slice a l c:=by obtain ⟨a,c,e,-⟩:=B.shape;exact ⟨a,_,c,e⟩
 subst e6
 obtain ⟨U,X,R⟩:=n.o.grow i.o B o Y
 have ah:=Nq U
 have N:=Nq X
 have ag:=Nq R
 clear U X R B Y o H x c5 q y P
 refine f.o _ _ (λ_=>⟨r0,r4⟩) ?_
 clear f K
 try walk_nrm
 refine aI 13 λK f=>?_
 go_simp
 refine f.o _ _ (λ_=>⟨r0,r4⟩) ?_
 clear f K
 try walk_nrm
 refine aI 14 λK f=>?_
 go_simp
 refine f.o _ _ (λ_=>⟨r0,r4⟩) ?_
 clear f K
 try walk_nrm
 refine aI 15 λK f=>?_
 go_simp
 refine f.o _ _ (λe=>nomatch e) ?_
 clear f K
 try walk_nrm
 refine ay (by kernel_rfl) ?_
 clear r0 r4 f6 i
 generalize w6.setCell (AD m 4) (.slice a6 l6 c6)=w7 at *
 go_wp2
 refine QC (PW (by kernel_rfl) ..) rfl ?_
 have hk:aj (λb=>b<w.heap.size) w3 w7:=(M.o.mono (λb _ e=>by have:=(O.o m (.inl rfl)).1;omega)).then N.o (λb _ s=>(O.o b s).1)
 exact ⟨rfl,_,E,G,F,r,d,t,_,ah.o,k8.of L.o M.o N.o ag.o,D,HV.o.aA hk,HR.o.1,HR.o.2⟩
end
section
open Go.Maps
def qu(f:Fm):Fm:=Fm.et false (.neg f)
def GG(F:List (Int×Int))(n:Nat):Prop:=
 (24<n\/∀f,¬jr F f)\/∃f g,jr F f/\mI (Fm.size (qu f)) (qu f) g/\((50<Fm.size g\/16<(dG g (Fm.size g)).length\/lP g (Fm.size g))\/∃A,fS A/\A.sets=(dG g (Fm.size g)).length/\jM A)
def MR(w0 W:WD)(F:List (Int×Int))(n m:Nat)(l:Value)(a:OA)(c:Nat)(s:Int)(d:OA)(e j:Nat)(h:OA)(i k:Nat):Nat->Prop
 |0=>n<=24/\c=n/\(∃f,jr F f)/\bB W a c F
 |1=>∃f,n<=24/\jr F f/\FA W a c (qu f)
 |2=>∃f g,n<=24/\jr F f/\FA W a c g/\mI (Fm.size (qu f)) (qu f) g/\∀b,eM m l b->∀o,a≠some (AD b o)
 |3=>∃f g A,n<=24/\jr F f/\mI (Fm.size (qu f)) (qu f) g/\(∃_:kv g A,True)/\s=(A.sets:Int)/\bY W A d e h i/\fS A/\A.sets=(dG g (Fm.size g)).length
 |_=>∃f A,n<=24/\jr F f/\yT W w0.heap.size A (.agg #[IV s,.slice d e j,.slice h i k])/\fS A/\∀u,jR A u↔¬Fm.dI u f 0
def NJ(w0:WD)(F:List (Int×Int))(n m b:Nat)(arr:Array Value)(i:Nat)(a:Int)(W:WD):Prop:=
 ∃d e o s f h g j l k c,kN w0 W m (.slice d e o) s (.slice f h g) (.slice j l k) c (i+1) a/\¬eM m c b/\W.heap[b]? =some (.cells arr 49 (0,0))/\
  (a=0->MR w0 W F n m c d e s f h g j l k i)/\(a≠0->GG F n)
def yo{F:List (Int×Int)}{f:Fm}{n:Nat}(g:F.length=n)(a:jr F f)(h:n<=24):Fm.size (qu f)<=50:=by
 have c:=Fm.mX (.neg f) false;have d:=pj a;have e:Fm.size (.neg f)=Fm.size f+1:=by unfold Fm.size;rw [Fm.One.neg.aQ,NH];rfl
 unfold qu;omega
def D7{F:List (Int×Int)}{f:Fm}(a:jr F f):Fm.gI (qu f)/\dV (qu f):=⟨Fm.Kd _ _,Ke (DV a 0).2 false⟩
def Ih(u:Nat->Nat)(f:Fm)(i:Nat):Fm.dI u (qu f) i↔¬Fm.dI u f i:=(Fm.Kf u (.neg f) i).1
section
variable {w0 W:WD} {F:List (Int×Int)} {n m b:Nat} {arr:Array Value}
def ni{i a:Value}{d:WD}(f:¬eM m i b)(e:HC W b arr 49)(g:k8 m i a W d):¬eM m a b/\HC d b arr 49:=by have c:=(Nu.1 e).1;exact ⟨λh=>(g.2 b h).elim f (λj=>by omega),(g.1.block b c f).trans e⟩
def FH(Z:eG w0)(K:F.length=n)(i:Nat)(hi:i<4)(hJ:NJ w0 F n m b arr i 0 W):
 CL (18+i) #[PT m] W λe M=>e=RT (.tuple #[])/\∃H,NJ w0 F n m b arr (i+1) H M:=by
 obtain ⟨I,fn,J,s,P,R,Q,S,U,T,V,G,O,N,j,-⟩:=hJ
 have j:=j rfl
 match i,hi with
 |0,_=>
  obtain ⟨l,rfl,⟨f,d⟩,hF⟩:=j
  refine (CP w0 W m I fn J F f s _ _ V 1 G hF d (by omega) (by omega)).mono ?_
  rintro e M ⟨rfl,X,n',Y,c,o,p,k⟩
  obtain ⟨q,r⟩:=ni O N k
  exact ⟨rfl,0,X,n',Y,s,P,R,Q,S,U,T,c,o,q,r,λ_=>⟨f,l,d,p⟩,λh=>absurd rfl h⟩
 |1,_=>
  obtain ⟨f,l,d,hF⟩:=j
  have w:=hF.size
  have aa:=yo K d l
  have v:=w
  subst v
  refine (Bx w0 W m I _ J (qu f) s _ _ V 2 G hF (D7 d).1 (D7 d).2 (by omega) (by omega)).mono ?_
  rintro e M ⟨rfl,X,n',Y,c,g,o,p,k,q,r⟩
  obtain ⟨h6,h7⟩:=ni O N r
  exact ⟨rfl,0,X,n',Y,s,P,R,Q,S,U,T,c,o,h6,h7,λ_=>⟨f,g,l,d,p,k,q⟩,λh=>absurd rfl h⟩
 |2,_=>
  obtain ⟨f,g,l,d,hF,a,L⟩:=j
  have w:=hF.size
  have aa:=yo K d l
  have ac:=a.size
  have v:=w
  subst v
  refine (Gg w0 W m I _ J g s P R Q S U T V 3 G hF L (Z.af G.aM) a.gI a.ok (by omega) (by omega)).mono ?_
  rintro e M ⟨rfl,s',x,z,y,B,E,C,H,c,o,p,k⟩
  obtain ⟨q,r⟩:=ni O N p
  refine ⟨rfl,H,I,_,J,s',x,z,y,B,E,C,c,o,q,r,λt=>?_,λt=>?_⟩
  obtain ⟨-,A,q1,q2,q3,q4,q5⟩:=k.resolve_right (λh=>h.1 t)
  exact ⟨f,g,A,l,d,a,q1,q2,q3,q4,q5⟩
  obtain ⟨-,h⟩:=k.resolve_left (λh=>t h.1)
  exact .inr ⟨f,g,d,a,.inl h⟩
 |3,_=>
  obtain ⟨f,g,A,l,d,a,⟨tb,-⟩,rfl,hA,hC,ab⟩:=j
  refine (Kh w0 W m _ A P R Q S U T V 4 G hA hC (by omega)).mono ?_
  rintro e M ⟨rfl,s',x,z,y,B,E,C,H,c,o,p,k⟩
  obtain ⟨q,r⟩:=ni O N p
  refine ⟨rfl,H,I,_,J,s',x,z,y,B,E,C,c,o,q,r,λt=>?_,λt=>?_⟩
  obtain ⟨-,D,⟨dg,-⟩,q2,q3⟩:=k.resolve_right (λh=>h.1 t)
  refine ⟨f,D,l,d,q2.less G.aM.size,q3,λu=>?_⟩
  rw [JN dg,Ky tb a.gI,a.dI]
  exact Ih u f 0
  obtain ⟨-,h⟩:=k.resolve_left (λh=>t h.1)
  exact .inr ⟨f,g,d,a,.inr ⟨A,hC,ab,h⟩⟩
end
end
section
open Go.Maps
def QJ:=@Go.wpAnyH_take
def SE:=@Go.AllReadyH.cons
def SW:=@Go.AllReadyH.nil
def Tc:=@Go.wpAnyH_ready
def Lc(w:WD)(F:List (Int×Int))(n:Nat)(e:Ending)(h:WD):Prop:=
 BW w h/\∃s b c i d g j a,e=RT (.tuple #[.agg #[IV s,.slice b c i,.slice d g j],IV a])/\
  (a=0->∃A f,s=(A.sets:Int)/\bY h A b c d g/\fS A/\jr F f/\n<=24/\∀u,jR A u↔¬Fm.dI u f 0)/\(a≠0->GG F n)
def Me(K:Nat)(j:WD)(F:List (Int×Int))(n m:Nat)(a:Int)(W:WD):Prop:=
 ∃k b c o s d f e g i h l,k<=K/\kN j W m (.slice b c o) s (.slice d f e) (.slice g i h) l k a/\(a=0->MR j W F n m l b c s d f e g i h 4)/\(a≠0->GG F n)
def NJ.end_{e W:WD}{F:List (Int×Int)}{n m b:Nat}{a:Array Value}{i:Nat}{c:Int}(h:NJ e F n m b a i c W)(o:i=4\/i<=4/\c≠0):Me 10 e F n m c W:=by obtain ⟨f,j,g,s,q,t,r,u,w,v,x,p,-,-,k,l⟩:=h;refine ⟨i+1,f,j,g,s,q,t,r,u,w,v,x,by omega,p,λd=>?_,l⟩;obtain rfl:i=4:=o.resolve_right (λh=>h.2 d);exact k d
def L9(q:WD)(F:List (Int×Int))(n m b:Nat)(a:Array Value)(i:Nat)(c:Int)(W:WD):Prop:=
 i<=1/\∃k e f r s g j h l p o d,k<=10+i/\kN q W m (.slice e f r) s (.slice g j h) (.slice l p o) d k c/\¬eM m d b/\W.heap[b]? =some (.cells a 49 (0,0))/\(c=0->MR q W F n m d e f s g j h l p o 4)/\(c≠0->GG F n)
def L9.end_{d W:WD}{F:List (Int×Int)}{n m b:Nat}{a:Array Value}{i:Nat}{c:Int}(h:L9 d F n m b a i c W):Me 11 d F n m c W:=by obtain ⟨x,k,e,g,f,s,p,r,q,t,v,u,w,y,o,-,-,j,l⟩:=h;exact ⟨k,e,g,f,s,p,r,q,t,v,u,w,by omega,o,j,l⟩
def FG{d W:WD}{F:List (Int×Int)}{n m b:Nat}{a:Array Value}(g:eG d)(i:Nat)(hi:i<1)(P:L9 d F n m b a i 0 W):
 CL 22 #[PT m] W λe y=>e=RT (.tuple #[])/\∃z,L9 d F n m b a (i+1) z y:=by
 obtain ⟨-,k,B,E,C,s,U,X,V,Y,nl,Z,zv,hk,l,R,Q,o,-⟩:=P
 obtain ⟨f,A,T,S,N,O,c⟩:=o rfl
 obtain ⟨j,rfl⟩:=N.B6.get
 refine (CK d W m _ A U X V Y nl Z zv k l j O (g.af l.aM) (by omega)).mono ?_
 rintro e y ⟨rfl,s',p,r,q,t,w,v,x,G,H,D,I,J,K⟩
 obtain ⟨L,M⟩:=ni R Q H
 exact ⟨rfl,0,by omega,k+1,B,E,C,s',p,r,q,t,w,v,x,by omega,G,L,M,λ_=>⟨f,D,T,S,I.less l.aM.size,J,λu=>(K u).trans (c u)⟩,λh=>absurd rfl h⟩
def lD{f:FuncId}{d:Func}(h:Tryz.prog.funcs[f]? =some d)(b:(d.name== "runtime.NumGoroutine")=false)(e:d.body.isSome=true)(a:Array Value)(w:WD):
 (callFunc f a).run Tryz.prog w=.ok (.enter f a) w:=by
 obtain ⟨c,e⟩:=Option.isSome_iff_exists.1 e
 have g:d.name≠ "runtime.NumGoroutine":=by simpa using b
 simp [callFunc,h,g,e]
def nG(w:WD)(a:OA)(n c:Nat)(F:List (Int×Int))(V:Bool)(hF:bB w a n F)(hn:n<=4611686018427387903)(av:eG w):
 CL 9 #[.slice a n c,.bool V] w (Lc w F n):=by
 obtain ⟨q,hq⟩:=EX w.heap.size
 obtain ⟨X,af⟩:=EX (w.alloc (.cells #[IV 0,SN,SN] 36))
 have N:BW w X:=af▸ag _ _
 have s1:X.heap.size=q+1:=by rw [<-af,NG,hq]
 have aw:X.heap[q]? =some (.cells #[IV 0,SN,SN] 36 (0,0)):=by rw [<-af,<-hq];exact (ND w _).1
 have aq:=Nq (EJ X a n c F (hF.af N) hn)
 have aA:=Nq (hF.af N)
 have aB:Hid (F.length=n):=hF.1
 have au:Hid (eG X):=av.af N
 have ab:=Nq N
 have D:=Nq s1
 have ar:=Nq aw
 have HQ:=Nq hq
 clear hF av N s1 aw
 go_enter Tryz.func9,Tryz.ntmps9
 go_upto_region 2 with(go_at_call 16;refine aq.o.mono ?_;rintro e w2 ⟨m,er,zv,rfl,t,hr⟩;have Y:=Nq t;have HR:=Nq hr;clear t hr)
 clear af hq aq
 obtain ⟨b,hb⟩:=EX w2.heap.size
 obtain ⟨w3,ah⟩:=EX (w2.alloc (.cells #[.func (.func 18) #[] #[],.func (.func 19) #[] #[],.func (.func 20) #[] #[],.func (.func 21) #[] #[]] 49))
 have ae:BW w2 w3:=ah▸ag _ _
 have y:w3.heap[b]? =some (.cells #[.func (.func 18) #[] #[],.func (.func 19) #[] #[],.func (.func 20) #[] #[],.func (.func 21) #[] #[]] 49 (0,0)):=by rw [<-ah,<-hb];exact (ND w2 _).1
 have G:Hid (NJ X F n m b #[.func (.func 18) #[] #[],.func (.func 19) #[] #[],.func (.func 20) #[] #[],.func (.func 21) #[] #[]] 0 er w3):=by refine ⟨a,n,c,0,none,0,0,none,0,0,zv,Y.o.af ae,λh=>by have:=(Y.o.eE b h).1;omega,y,λC=>?_,λC=>?_⟩;obtain ⟨-,I,h2⟩:=HR.o.resolve_right (λh=>h.1 C);exact ⟨I,rfl,h2,aA.o.af (aa Y.o.aM ae)⟩;obtain ⟨-,h⟩:=HR.o.resolve_left (λh=>C h.1);exact .inl h
 have u:=Nq (Ef w3 m b 4 (λi=>18+i) (NJ X F n m b #[.func (.func 18) #[] #[],.func (.func 19) #[] #[],.func (.func 20) #[] #[],.func (.func 21) #[] #[]]) (by omega) (λi er W hJ=>by
  obtain ⟨fa,fn,fc,s,O,Q,P,R,U,T,zv,t,-,ha,-⟩:=hJ;refine ⟨t.cells.2.2.2.2.2,λj hj=>?_⟩;try unfold CA
  rw [Nt ha];match j,hj with
  |0,_=>rfl
  |1,_=>rfl
  |2,_=>rfl
  |3,_=>rfl) (λi W hi hJ=>FH au.o aB.o i hi hJ) (λi x W hi=>by
  match i,hi with
  |0,_=>exact lD Tryz.func18 (by kernel_rfl) (by kernel_rfl) x W
  |1,_=>exact lD Tryz.func19 (by kernel_rfl) (by kernel_rfl) x W
  |2,_=>exact lD Tryz.func20 (by kernel_rfl) (by kernel_rfl) x W
  |3,_=>exact lD Tryz.func21 (by kernel_rfl) (by kernel_rfl) x W) er G.o)
 subst hb
 clear G HR Y
 go_upto_region 3 with(go_at_call 17;refine u.o.mono ?_;rintro e z ⟨rfl,i4,B,ay,ax⟩;have ad:=Nq ay;have ac:=Nq ax;clear ay ax)
 cases V with
 |false=>
  have HE:=Nq (ad.o.end_ ac.o)
  clear ad ac u ae y ah
  go_upto_region 5 with(fail)
  obtain ⟨k,fa,fn,fc,s,O,Q,P,R,U,T,zv,hk,t,h0,I⟩:=HE.o
  obtain ⟨c0,c1,c2,c3,c4,c5⟩:=t.cells
  have Y:=Nq t
  have H0:=Nq h0
  have H1:=Nq I
  have g:HC z q #[IV 0,SN,SN] 36:=(t.aM.block q (by have:=D.o;omega)).trans ar.o
  have ai:Hid (q<m):=by have I:=t.lo;have h2:=D.o;show q<m;omega
  have r0:CA z q 0 (IV 0):=CH g
  have r1:CA z q 1 (SN):=CH g
  have r2:CA z q 2 (SN):=CH g
  have z0:FZ z q 0:=NA g 0
  have z1:FZ z q 1:=NA g 1
  have z2:FZ z q 2:=NA g 2
  clear t h0 I g
  by_cases C:B=0
  subst C
  have ak:=Nq (H0.o rfl)
  clear H0 H1
  go_wp2
  (try simp only [Exit.inBlock,Exit.then])
  obtain ⟨r,o⟩:=EX (((z.setCell (AD q 0) (IV s)).setCell (AD q 1) (.slice O Q P)).setCell (AD q 2) (.slice R U T))
  rw [o]
  obtain ⟨d0,d1,d2,l⟩:=bQ r0 r1 r2 r o.symm
  clear o c0 c1 c2 c3 c4 c5 r0 r1 r2 z0 z1 z2
  have J:=aa ab.o Y.o.aM
  refine OS (v:=.tuple #[.agg #[IV s,.slice O Q P,.slice R U T],IV 0]) ?_ rfl ⟨J.trans (l.af J.size (λk hk e=>by have:=HQ.o;omega)),s,O,Q,P,R,U,T,0,rfl,λ_=>?_,λh=>absurd rfl h⟩
  rw [PI rfl]
  go_simp
  obtain ⟨f,A,hn,hf,hA,hC,M⟩:=ak.o
  obtain ⟨al,ao⟩:=(hA r (l.mono λk _ e=>by have:=D.o;omega)).get
  exact ⟨A,f,ao,al,hC,hf,hn,M⟩
  have aC:(B==0)=false:=NC.2 C
  go_upto_region 6 with(fail)
  refine wp_region_held_drew (S:=λW=>CA W m 5 (IV B)) (by kernel_rfl) (c5) (λp=>?_)
  refine' QJ (i:=0) (v:=_) rfl (by kernel_rfl) (by kernel_rfl) (by kernel_rfl) (λ_ _ _ h=>h) (Or.inl ⟨by rfl,?hy0⟩) (by assumption) ?rest0
  case hy0=>(intro w' d;(try dsimp only at d);go_simp;(try with_reducible rfl))
  try walk_nrm
  refine' QJ (i:=1) (v:=_) rfl (by kernel_rfl) (by kernel_rfl) (by kernel_rfl) (λ_ _ _ h=>h) (Or.inl ⟨by rfl,?hy1⟩) (by assumption) ?rest1
  case hy1=>(intro w' d;(try dsimp only at d);go_simp;(try with_reducible rfl))
  try walk_nrm
  refine' QJ (i:=2) (v:=_) rfl (by kernel_rfl) (by kernel_rfl) (by kernel_rfl) (λ_ _ _ h=>h) (Or.inl ⟨by rfl,?hy2⟩) (by assumption) ?rest2
  case hy2=>(intro w' d;(try dsimp only at d);go_simp;(try with_reducible rfl))
  try walk_nrm
  refine' QJ (i:=3) (v:=_) rfl (by kernel_rfl) (by kernel_rfl) (by kernel_rfl) (λ_ _ _ h=>h) (Or.inl ⟨by rfl,?hy3⟩) (by assumption) ?rest3
  case hy3=>(intro w' d;(try dsimp only at d);go_simp;(try with_reducible rfl))
  try walk_nrm
  refine' QJ (i:=4) (v:=_) rfl (by kernel_rfl) (by kernel_rfl) (by kernel_rfl) (λ_ _ _ h=>h) (Or.inl ⟨by rfl,?hy4⟩) (by assumption) ?rest4
  case hy4=>(intro w' d;(try dsimp only at d);go_simp;(try with_reducible rfl))
  try walk_nrm
  have an:¬m=q:=by have:=ai.o;omega
  have H:(((z.setCell (AD q 0) (IV 0)).setCell (AD q 1) (SN)).setCell (AD q 2) (SN)).cell? (AD m 5)=some (IV B):=by obtain ⟨-,-,-,l⟩:=bQ r0 r1 r2 _ rfl;exact l.aq c5 (λe=>an e)
  refine Tc (rs:=[5]) (by kernel_rfl) (by simp) (SE rfl (λK L=>?_) SW)
  go_simp
  refine L.o _ _ (H) (λp=>?_)
  clear L K
  try walk_nrm
  refine Tc (rs:=[6]) (by kernel_rfl) (by simp) (SE rfl (λK L=>?_) SW)
  go_simp
  refine L.o _ _ (H) (λp=>?_)
  clear L K
  try walk_nrm
  refine wpAnyH_done (by kernel_rfl) ?_ _
  go_wp2
  (try simp only [Exit.inBlock,Exit.then])
  obtain ⟨r,o⟩:=EX (((z.setCell (AD q 0) (IV 0)).setCell (AD q 1) (SN)).setCell (AD q 2) (SN))
  rw [o]
  obtain ⟨d0,d1,d2,l⟩:=bQ r0 r1 r2 r o.symm
  have d0:CA r.drew q 0 (IV 0):=d0
  have d1:CA r.drew q 1 (SN):=d1
  have d2:CA r.drew q 2 (SN):=d2
  have J:=aa ab.o Y.o.aM
  refine OS (v:=.tuple #[.agg #[IV 0,SN,SN],IV B]) ?_ rfl ⟨(J.trans (l.af J.size (λk hk e=>by have:=HQ.o;omega))).drew,0,none,0,0,none,0,0,B,rfl,λh=>absurd h C,λ_=>H1.o C⟩
  rw [PI rfl]
  go_simp
 |true=>
  have HE:=Nq (ad.o.end_ ac.o)
  clear ad ac u ae y ah
  obtain ⟨w5,ap⟩:=EX (z.alloc (.cells #[.func (.func 22) #[] #[]] 49))
  have am:BW z w5:=ap▸ag _ _
  have y:w5.heap[z.heap.size]? =some (.cells #[.func (.func 22) #[] #[]] 49 (0,0)):=by rw [<-ap];exact (ND z _).1
  have G:Hid (L9 X F n m z.heap.size #[.func (.func 22) #[] #[]] 0 B w5):=by obtain ⟨k,fa,fn,fc,s,O,Q,P,R,U,T,zv,hk,t,h0,I⟩:=HE.o;refine ⟨by omega,k,fa,fn,fc,s,O,Q,P,R,U,T,zv,hk,t.af am,λh=>by have:=(t.eE _ h).1;omega,y,λC=>?_,I⟩;obtain ⟨f,A,g1,g2,g3,g4,g5⟩:=h0 C;exact ⟨f,A,g1,g2,g3.aA (aj.mono (aj.aF am) (λk hk e=>by omega)),g4,g5⟩
  have u:=Nq (Ef w5 m z.heap.size 1 (λi=>22+i) (L9 X F n m z.heap.size #[.func (.func 22) #[] #[]]) (by omega) (λi er W hJ=>by
   obtain ⟨-,k,fa,fn,fc,s,O,Q,P,R,U,T,zv,hk,t,-,ha,-⟩:=hJ;refine ⟨t.cells.2.2.2.2.2,λj hj=>?_⟩;try unfold CA
   rw [Nt ha];match j,hj with
   |0,_=>rfl) (λi W hi hJ=>by
   match i,hi with
   |0,_=>exact FG au.o 0 (by omega) hJ) (λi x W hi=>by
   match i,hi with
   |0,_=>exact lD Tryz.func22 (by kernel_rfl) (by kernel_rfl) x W) B G.o)
  clear G HE
  go_upto_region 5 with(go_at_call 17;refine u.o.mono ?_;rintro e Z ⟨rfl,i6,E,az,-⟩;have HE:=Nq az.end_;clear az)
  clear ap am y u
  obtain ⟨k,fa,fn,fc,s,O,Q,P,R,U,T,zv,hk,t,h0,I⟩:=HE.o
  obtain ⟨c0,c1,c2,c3,c4,c5⟩:=t.cells
  have Y:=Nq t
  have H0:=Nq h0
  have H1:=Nq I
  have g:HC Z q #[IV 0,SN,SN] 36:=(t.aM.block q (by have:=D.o;omega)).trans ar.o
  have ai:Hid (q<m):=by have I:=t.lo;have h2:=D.o;show q<m;omega
  have r0:CA Z q 0 (IV 0):=CH g
  have r1:CA Z q 1 (SN):=CH g
  have r2:CA Z q 2 (SN):=CH g
  have z0:FZ Z q 0:=NA g 0
  have z1:FZ Z q 1:=NA g 1
  have z2:FZ Z q 2:=NA g 2
  clear t h0 I g
  by_cases C:E=0
  subst C
  have ak:=Nq (H0.o rfl)
  clear H0 H1
  go_wp2
  (try simp only [Exit.inBlock,Exit.then])
  obtain ⟨r,o⟩:=EX (((Z.setCell (AD q 0) (IV s)).setCell (AD q 1) (.slice O Q P)).setCell (AD q 2) (.slice R U T))
  rw [o]
  obtain ⟨d0,d1,d2,l⟩:=bQ r0 r1 r2 r o.symm
  clear o c0 c1 c2 c3 c4 c5 r0 r1 r2 z0 z1 z2
  have J:=aa ab.o Y.o.aM
  refine OS (v:=.tuple #[.agg #[IV s,.slice O Q P,.slice R U T],IV 0]) ?_ rfl ⟨J.trans (l.af J.size (λk hk e=>by have:=HQ.o;omega)),s,O,Q,P,R,U,T,0,rfl,λ_=>?_,λh=>absurd rfl h⟩
  rw [PI rfl]
  go_simp
  obtain ⟨f,A,hn,hf,hA,hC,M⟩:=ak.o
  obtain ⟨al,ao⟩:=(hA r (l.mono λk _ e=>by have:=D.o;omega)).get
  exact ⟨A,f,ao,al,hC,hf,hn,M⟩
  have aC:(E==0)=false:=NC.2 C
  go_upto_region 6 with(fail)
  refine wp_region_held_drew (S:=λW=>CA W m 5 (IV E)) (by kernel_rfl) (c5) (λp=>?_)
  refine' QJ (i:=0) (v:=_) rfl (by kernel_rfl) (by kernel_rfl) (by kernel_rfl) (λ_ _ _ h=>h) (Or.inl ⟨by rfl,?hyb0⟩) (by assumption) ?restb0
  case hyb0=>(intro w' d;(try dsimp only at d);go_simp;(try with_reducible rfl))
  try walk_nrm
  refine' QJ (i:=1) (v:=_) rfl (by kernel_rfl) (by kernel_rfl) (by kernel_rfl) (λ_ _ _ h=>h) (Or.inl ⟨by rfl,?hyb1⟩) (by assumption) ?restb1
  case hyb1=>(intro w' d;(try dsimp only at d);go_simp;(try with_reducible rfl))
  try walk_nrm
  refine' QJ (i:=2) (v:=_) rfl (by kernel_rfl) (by kernel_rfl) (by kernel_rfl) (λ_ _ _ h=>h) (Or.inl ⟨by rfl,?hyb2⟩) (by assumption) ?restb2
  case hyb2=>(intro w' d;(try dsimp only at d);go_simp;(try with_reducible rfl))
  try walk_nrm
  refine' QJ (i:=3) (v:=_) rfl (by kernel_rfl) (by kernel_rfl) (by kernel_rfl) (λ_ _ _ h=>h) (Or.inl ⟨by rfl,?hyb3⟩) (by assumption) ?restb3
  case hyb3=>(intro w' d;(try dsimp only at d);go_simp;(try with_reducible rfl))
  try walk_nrm
  refine' QJ (i:=4) (v:=_) rfl (by kernel_rfl) (by kernel_rfl) (by kernel_rfl) (λ_ _ _ h=>h) (Or.inl ⟨by rfl,?hyb4⟩) (by assumption) ?restb4
  case hyb4=>(intro w' d;(try dsimp only at d);go_simp;(try with_reducible rfl))
  try walk_nrm
  have an:¬m=q:=by have:=ai.o;omega
  have H:(((Z.setCell (AD q 0) (IV 0)).setCell (AD q 1) (SN)).setCell (AD q 2) (SN)).cell? (AD m 5)=some (IV E):=by obtain ⟨-,-,-,l⟩:=bQ r0 r1 r2 _ rfl;exact l.aq c5 (λe=>an e)
  refine Tc (rs:=[5]) (by kernel_rfl) (by simp) (SE rfl (λK L=>?_) SW)
  go_simp
  refine L.o _ _ (H) (λp=>?_)
  clear L K
  try walk_nrm
  refine Tc (rs:=[6]) (by kernel_rfl) (by simp) (SE rfl (λK L=>?_) SW)
  go_simp
  refine L.o _ _ (H) (λp=>?_)
  clear L K
  try walk_nrm
  refine wpAnyH_done (by kernel_rfl) ?_ _
  go_wp2
  (try simp only [Exit.inBlock,Exit.then])
  obtain ⟨r,o⟩:=EX (((Z.setCell (AD q 0) (IV 0)).setCell (AD q 1) (SN)).setCell (AD q 2) (SN))
  rw [o]
  obtain ⟨d0,d1,d2,l⟩:=bQ r0 r1 r2 r o.symm
  have d0:CA r.drew q 0 (IV 0):=d0
  have d1:CA r.drew q 1 (SN):=d1
  have d2:CA r.drew q 2 (SN):=d2
  have J:=aa ab.o Y.o.aM
  refine OS (v:=.tuple #[.agg #[IV 0,SN,SN],IV E]) ?_ rfl ⟨(J.trans (l.af J.size (λk hk e=>by have:=HQ.o;omega))).drew,0,none,0,0,none,0,0,E,rfl,λh=>absurd h C,λ_=>H1.o C⟩
  rw [PI rfl]
  go_simp
end
section
open Fm
def M7:∀(n m:Nat)(f:Nat->Nat),(∀i,i<m->f i<n)->(∀i j,i<m->j<m->f i=f j->i=j)->m<=n
 |0,m,f,a,_=>by rcases OT m with h|h;omega;exact absurd (a 0 h) (by omega)
 |n+1,0,_,_,_=>NS _
 |n+1,m+1,f,a,b=>by
  have h:=M7 n m (λi=>if f i=n then f m else f i) (λi h=>by
   have g:=a i (by omega);have k:=a m (by omega);have c:f i≠f m:=λe=>by have:=b i m (by omega) (by omega) e;omega
   show(if f i=n then f m else f i)<n;split<;>omega) (λi j h d e=>by
   have c:f i≠f m:=λe=>by have:=b i m (by omega) (by omega) e;omega
   have l:f j≠f m:=λe=>by have:=b j m (by omega) (by omega) e;omega
   have e:(if f i=n then f m else f i)=(if f j=n then f m else f j):=e;refine b i j (by omega) (by omega) ?_;split at e<;>split at e<;>omega)
  omega
def Aj(f:Fm)(k:Nat):Prop:=∀x∈aQ f,∀n,x=Fm.prop n->n=k
def bF(f:Fm):0<size f:=by cases f<;>simp only [size,aQ,NH,Ou,PA]<;>omega
def wT{f:Fm}(h:size f<=2)(j:gI f):(∃k,Aj f k)/\∀x∈aQ f,Jr x=false:=by
 have d:∀a:Fm,size a<=1->(∃k,Aj a k)/\∀x∈aQ a,Jr x=false:=by
  intro a l;cases a with
  |tt=>exact ⟨⟨0,λx c n e=>by rw [Nv.1 c]at e;cases e⟩,λx c=>by rw [Nv.1 c];rfl⟩
  |ff=>exact ⟨⟨0,λx c n e=>by rw [Nv.1 c]at e;cases e⟩,λx c=>by rw [Nv.1 c];rfl⟩
  |prop m=>exact ⟨⟨m,λx c n e=>by rw [Nv.1 c]at e;cases e;rfl⟩,λx c=>by rw [Nv.1 c];rfl⟩
  |neg a|cM a|fin a|ep a=>have:=bF a;simp only [size,aQ,NH,Ou,PA]at *;omega
  |and a b|or a b|imp a b|dw a b|rel a b=>have:=bF a;have:=bF b;simp only [size,aQ,NH,Ou,PA]at *;omega
 cases f with
 |tt|ff|prop m=>exact d _ (by simp [size,aQ])
 |neg a|cM a|fin a|ep a=>obtain ⟨⟨k,g⟩,i⟩:=d a (by simp only [size,aQ,NH,Ou,PA]at *;omega);refine ⟨⟨k,λx c n e=>?_⟩,λx c=>?_⟩;rcases NY.1 c with c|c;exact g x c n e;rw [Nv.1 c]at e;cases e;rcases NY.1 c with c|c;exact i x c;rw [Nv.1 c];rfl
 |and a b|or a b|imp a b|dw a b|rel a b=>have:=bF a;have:=bF b;simp only [size,aQ,NH,Ou,PA]at *;omega
def Df{f:Fm}(h:∀x∈aQ f,Jr x=false)(k:Nat):dG f k=[]:=by
 unfold dG;rw [Sf.2,NZ];intro p _;cases a:(aQ f)[p]? with
 |none=>decide
 |some x=>rw [Ti,h x (NI a)];decide
def BZ(k:Nat)(w:Wy):Prop:=(w.ak=0\/w.ak=2^k)/\(w.aD=0\/w.aD=2^k)
def Iu{a k:Nat}(h:a=0\/a=2^k):a|||2^k=0\/a|||2^k=2^k:=by rcases h with rfl|rfl;exact .inr (Nat.zero_or _);exact .inr (Nat.or_self _)
def Di{f:Fm}{x:Fm}{p k:Nat}{w c:Wy}(d:Aj f k)(e:(Fm.aQ f)[p]? =some x)(hw:BZ k w)(h:c∈split x p w):BZ k c:=by have g:=NI e;unfold split at h;split at h;rw [Nv.1 h];exact hw;rename_i n;rw [hO h];obtain rfl:=d _ g n rfl;exact ⟨Iu hw.1,hw.2⟩;rename_i n;have b:=(Fm.fR (Fm.One.neg (a:=Fm.prop n)) f p e).2;rw [hO h];obtain rfl:=d _ (NI b) n rfl;exact ⟨hw.1,Iu hw.2⟩;rw [Nv.1 h];exact hw;rcases N8.1 h with rfl|h;exact hw;rw [Nv.1 h];exact hw;rw [Nv.1 h];exact hw;rcases N8.1 h with rfl|h;exact hw;rw [Nv.1 h];exact hw;rcases N8.1 h with rfl|h;exact hw;rw [Nv.1 h];exact hw;cases h
def qg{f:Fm}{k:Nat}(d:Aj f k):∀(m:Nat)(w:Wy),BZ k w->∀z∈ey f m w,BZ k z
 |0,_,_,z,a=>by cases a
 |m+1,w,hw,z,a=>by
  unfold ey at a;split at a;rw [Nv.1 a];exact hw;rename_i p r g;cases b:(aQ f)[p]? with
  |none=>rw [b]at a;cases a
  |some x=>rw [b]at a;obtain ⟨c,e,a⟩:=Sb.1 a;exact qg d m c (Di (w:=Wy.dE {w with bS:=r} p) d b hw e) z a
def DH{f:Fm}{n k:Nat}(a:Aj f k){W:Wy}(h:GC f n W):BZ k W:=by
 cases h with
 |aJ h=>exact qg a _ _ ⟨.inl rfl,.inl rfl⟩ W h
 |next _ h=>exact qg a _ _ ⟨.inl rfl,.inl rfl⟩ W h
def bn(b:Bool):Nat:=if b then 1 else 0
def K5(w:Wy):Nat:=bn (decide (w.ak=0))+2*bn (decide (w.aD=0))+4*bn (w.bz 0)+8*bn (w.bz 1)+16*bn (w.next 0)+32*bn (w.next 1)
def iz(b:Bool):bn b<=1:=by cases b<;>decide
def qf{a b:Bool}(h:bn a=bn b):a=b:=by cases a<;>cases b<;>first|rfl|exact absurd h (by decide)
def L5(w:Wy):K5 w<64:=by have a:=iz (decide (w.ak=0));have b:=iz (decide (w.aD=0));have c:=iz (w.bz 0);have d:=iz (w.bz 1);have e:=iz (w.next 0);have f:=iz (w.next 1);unfold K5;omega
def DN{a b:Nat->Bool}(c:a 0=b 0)(d:a 1=b 1){n:Nat}(f:n<=2):(List.range n).filter a=(List.range n).filter b:=
 Rj (λx e=>by have:=Oq.1 e;rcases (by omega:x=0\/x=1)with rfl|rfl;exact c;exact d)
def Ip{a b k:Nat}(c:a=0\/a=2^k)(d:b=0\/b=2^k)(h:decide (a=0)=decide (b=0)):a=b:=by have h:=Qb.1 h;rcases c with rfl|rfl;exact (h.1 rfl).symm;rcases d with rfl|rfl;exact h.2 rfl;rfl
def KO{x y:Wy}{k n:Nat}(b:BZ k x)(c:BZ k y)(a:n<=2)(h:K5 x=K5 y):bH n x=bH n y:=by have l:=iz (decide (x.ak=0));have m:=iz (decide (x.aD=0));have o:=iz (x.bz 0);have p:=iz (x.bz 1);have q:=iz (x.next 0);have r:=iz (x.next 1);have s:=iz (decide (y.ak=0));have t:=iz (decide (y.aD=0));have u:=iz (y.bz 0);have v:=iz (y.bz 1);have w:=iz (y.next 0);have z:=iz (y.next 1);unfold K5 at h;have d:=qf (by omega:bn (decide (x.ak=0))=bn (decide (y.ak=0)));have e:=qf (by omega:bn (decide (x.aD=0))=bn (decide (y.aD=0)));have f:=qf (by omega:bn (x.bz 0)=bn (y.bz 0));have g:=qf (by omega:bn (x.bz 1)=bn (y.bz 1));have i:=qf (by omega:bn (x.next 0)=bn (y.next 0));have j:=qf (by omega:bn (x.next 1)=bn (y.next 1));unfold bH;rw [Ip b.1 c.1 d,Ip b.2 c.2 e,DN i j a,DN f g a]
def Ct{f:Fm}(h:size f<=2)(p:gI f):¬lP f (size f):=by
 rintro ⟨L,r,o,d⟩;obtain ⟨⟨k,l⟩,-⟩:=wT h p;have g:∀i,i<L.length->∃x,L[i]? =some x/\x∈L:=λi a=>⟨_,Ny a,OR a⟩;have:=M7 64 L.length (λi=>K5 ((L[i]?).getD ⟨0,0,λ_=>false,λ_=>false,[]⟩)) (λi a=>L5 _) (λi j a q e=>by obtain ⟨x,m,b⟩:=g i a;obtain ⟨y,n,c⟩:=g j q;have e:K5 ((L[i]?).getD _)=K5 ((L[j]?).getD _):=e;rw [m,n,OU,OU]at e;exact o i j x y m n (KO (DH l (d x b)) (DH l (d y c)) h e))
 omega
def EY{A:Au}(q:fS A)(u:A.sets=0):¬jM A:=by
 rintro ⟨P,s,o,d⟩;have f:∀i,i<P.length->∃x,P[i]? =some x/\x∈P:=λi b=>⟨_,Ny b,OR b⟩;have k:∀p,oG A p->p.1<A.ah.length/\p.2=0:=λp l=>⟨l.1,l.2.elim (λh=>h.2) (λh=>by omega)⟩;have t:=q.many;have:=M7 256 P.length (λi=>((P[i]?).getD (0,0)).1) (λi b=>by
  obtain ⟨x,c,a⟩:=f i b;show((P[i]?).getD (0,0)).1<256;rw [c,OU];have:=(k x (d x a)).1;omega) (λi j b r e=>by
  obtain ⟨x,c,a⟩:=f i b;obtain ⟨y,m,g⟩:=f j r;have e:((P[i]?).getD (0,0)).1=((P[j]?).getD (0,0)).1:=e;rw [c,m,OU,OU]at e;have n:x=y:=Prod.ext e ((k x (d x a)).2.trans (k y (d y g)).2.symm);exact o i j x c (n▸m))
 omega
def zy:jr [(3,0)] (Fm.prop 0):=⟨by decide,λx a n e=>by rw [Nv.1 a]at e;cases e;decide⟩
def AT{F:List (Int×Int)}{f g:Fm}(a:jr F f)(b:jr F g):f=g:=Fm.uK (a.1.symm.trans b.1)
def Lk:¬GG [(3,0)] 1:=by rintro ((h|h)|⟨f,g,i,a,h⟩);omega;exact h _ zy;obtain rfl:=AT i zy;have c:size g<=2:=a.size;have d:=Df (wT c a.gI).2 (size g);rcases h with(h|h|h)|⟨A,e,b,h⟩;omega;rw [d]at h;exact absurd h (by decide);exact Ct c a.gI h;rw [d]at b;exact EY e b h
end
def JG{A:Au}{f:Fm}(a:jr [(3,0)] f)(h:∀u,jR A u↔¬Fm.dI u f 0)(b:Nat)(c:b<2):jR A (cJ [] [b])↔b=0:=by obtain rfl:=AT a zy;rw [h];show¬((cJ [] [b] 0).testBit 0=true)↔_;have e:cJ [] [b] 0=b:=rfl;rw [e];rcases (by omega:b=0\/b=1)with rfl|rfl<;>decide
def EN(w:WD)(p:eG w):CL 7 #[] w λe H=>e=RT (.bool true)/\BW w H:=by
 have k:BW w (w.alloc (.cells #[IV 3,IV 0] 32)):=ag _ _;have T:=Nq (nG (w.alloc (.cells #[IV 3,IV 0] 32)) (some (AD w.heap.size 0)) 1 1 [(3,0)] true (by
  have F:=(ND w (.cells #[IV 3,IV 0] 32)).1;refine ⟨rfl,.inr ⟨_,_,rfl,λi hi=>?_⟩⟩;obtain rfl:i=0:=by omega
  rw [Nt F,Nt F];exact ⟨rfl,rfl⟩) (by decide) (p.af k))
 have I:=Nq k;clear k p;go_enter Tryz.func7,Tryz.ntmps7;go_upto_region 1 with(fail);go_upto_region 2 with(go_at_call 9;refine T.o.mono ?_;rintro e E ⟨r,s,u,z,y,B,D,C,er,rfl,V,X⟩;have m:=Nq r;have Q:=Nq V;have R:=Nq X;clear r V X);obtain rfl:er=0:=PG (λh=>Lk (R.o h));obtain ⟨A,f,rfl,G,Z,hf,-,j⟩:=Q.o rfl;obtain ⟨q,O⟩:=EX E.heap.size;obtain ⟨a,g⟩:=EX (E.alloc (.cells #[IV A.sets,.slice u z y,.slice B D C] 36));have l:BW E a:=g▸ag _ _;have d:a.heap[q]? =some (.cells #[IV A.sets,.slice u z y,.slice B D C] 36 (0,0)):=by rw [<-g,<-O];exact (ND E _).1
 have S:Hid (∀W:WD,BW a W->W.cell? (AD q 0)=some (IV A.sets)/\W.cell? (AD q 1)=some (.slice u z y)/\W.cell? (AD q 2)=some (.slice B D C)):=λW h=>by have M:=(h.block q (Nu.1 d).1).trans d;rw [Nt M,Nt M,Nt M];exact ⟨rfl,rfl,rfl⟩
 have U:Hid (∀(W:WD)(b:Nat),BW a W->b<2->CL 10 #[.agg #[IV A.sets,.slice u z y,.slice B D C],.agg #[SN,SV W.heap.size 1 1]] (W.alloc (.cells #[UV b] 45)) λe H=>e=RT (.bool (decide (b=0)))/\BW a H):=λW b hW hb=>by
  have c:BW W (W.alloc (.cells #[UV b] 45)):=ag _ _;have F:=(ND W (.cells #[UV b] 45)).1;have o:=aa hW c;refine (BC _ A u z y B D C ((G.af l).af o) Z none 0 0 (some (AD W.heap.size 0)) 1 1 [] [b] ⟨rfl,.inl rfl⟩ ⟨rfl,.inr ⟨_,_,rfl,λi hi=>?_⟩⟩ ⟨λx P=>(by cases P),λx P=>by rw [Nv.1 P];omega⟩ (by decide) (by decide)).mono ?_;obtain rfl:i=0:=by omega
  rw [Nt F];rfl;rintro e H ⟨v,rfl,G,N⟩;refine ⟨?_,aa o N⟩;have Y:=G.trans (JG hf j b hb);cases v with
  |true=>rw [N6 (Y.1 rfl)]
  |false=>rw [NX (λh=>by cases Y.2 h)]
 have J:Hid (BW w a):=aa (aa I.o m.o) l;obtain ⟨c0,c1,c2⟩:=S.o a (Nx _ _);rw [g,O];clear g l d G Z hf j Q R m T O;have n:=Nq (U.o a 0 (Nx _ _) (by decide));go_wp2_with (go_at_call 10;first|(refine n.o.mono ?_;rintro e w4 ⟨rfl,c⟩;obtain ⟨d0,d1,d2⟩:=S.o w4 c;have L:=Nq (U.o w4 1 c (by decide));clear n c0 c1 c2)|(refine L.o.mono ?_;rintro e w5 ⟨rfl,t⟩;have K:=Nq t;clear t c));go_ret;exact ⟨rfl,aa J.o K.o⟩
def JB{a b:Nat}(c:a<18446744073709551616)(d:b<18446744073709551616):(a&&&b=a)↔pD a b=0:=by
 rw [pE c d];constructor;intro h k e;have:(a&&&b).testBit k=true:=by rw [h];exact e
 rw [PB,OB]at this;exact this.2;intro h;refine Qx λk=>?_;rw [PB];cases c:a.testBit k
 rfl;rw [h k c];rfl
def C7(w:WD)(x:bV)(l:OA)(n m u:Nat)(k:x.ak<18446744073709551616/\x.aD<18446744073709551616)(j:u<18446744073709551616):
 CL 29 #[.agg #[UV x.ak,UV x.aD,UV x.aT,.slice l n m],UV u] w λe v=>e=RT (.bool (me x.ak x.aD u))/\BW w v:=by
 have s:bits .and .u64 (x.ak:Int) (u:Int)=((x.ak&&&u:Nat):Int):=Pw _ _ k.1 j
 have t:bits .and .u64 (x.aD:Int) (u:Int)=((x.aD&&&u:Nat):Int):=Pw _ _ k.2 j
 have i:Hid (me x.ak x.aD u=(decide (x.ak&&&u=x.ak)&&decide (x.aD&&&u=0))):=by show me x.ak x.aD u=_;unfold me;rw [Qb.2 (JB k.1 j)]
 have p:((((x.ak&&&u:Nat):Int))==(x.ak:Int))=decide (x.ak&&&u=x.ak):=by
  by_cases e:x.ak&&&u=x.ak
  ·rw [N6 e,e];simp
  ·rw [NX e];simp;omega
 have q:((((x.aD&&&u:Nat):Int))==0)=decide (x.aD&&&u=0):=by
  by_cases e:x.aD&&&u=0
  ·rw [N6 e,e];rfl
  ·rw [NX e];simp;omega
 obtain ⟨o,h⟩:=EX (w.alloc (.cells #[UV x.ak,UV x.aD,UV x.aT,.slice l n m] 62))
 have b:Hid (BW w o):=h▸ag _ _
 have a:=bp w #[UV x.ak,UV x.aD,UV x.aT,.slice l n m] 62
 rw [h]at a
 have C:=(a 0 _ rfl).1
 have D:=(a 1 _ rfl).1
 obtain ⟨r,c⟩:=EX (decide (x.ak&&&u=x.ak))
 obtain ⟨y,d⟩:=EX (decide (x.aD&&&u=0))
 rw [c]at p i
 rw [d]at q i
 obtain ⟨z,f⟩:=EX (x.ak&&&u)
 obtain ⟨A,g⟩:=EX (x.aD&&&u)
 rw [f]at s p
 rw [g]at t q
 rw [i.o]
 clear c d f g a k j i
 generalize x.ak=E at *
 generalize x.aD=F at *
 cases r
 ·go_enter Tryz.func29,Tryz.ntmps29;go_wp2
  go_ret;exact ⟨rfl,b.o⟩
 ·go_enter Tryz.func29,Tryz.ntmps29;go_wp2
  go_ret;exact ⟨rfl,b.o⟩
def Ko(w:WD)(A:Au)(h:OA)(j p:Nat)(k:OA)(g q i s:Nat)(n:bY w A h j k g)(t:i<A.ah.length)(I:s<64)(r:fS A):
 CL 87 #[.agg #[IV A.sets,.slice h j p,.slice k g q],IV i,IV s] w λe G=>e=RT (.bool ((A.aw i).aT.testBit s))/\BW w G:=by
 obtain ⟨l,f⟩:=EX (w.alloc (.cells #[IV A.sets,.slice h j p,.slice k g q] 36))
 have a:BW w l:=f▸ag _ _
 have c:kW l w.heap.size A h j p k g q:=⟨by rw [<-f];exact (ND w _).1,n.af a⟩
 obtain ⟨v,x,H⟩:=c.cells
 obtain ⟨b,o,K,M,L,rfl,u,D,E,J,F,d⟩:=c.nd t
 have B:(i:Int)<(g:Int):=by have:=n.bC;omega
 have m:=Nq a
 have C:=(r.vY (NI u))
 generalize (A.aw i).aT=N at *
 clear n r t a c u D E F d v x
 go_enter Tryz.func87,Tryz.ntmps87
 go_wp2
 go_ret
 refine ⟨?_,m.o⟩
 have y:((N:Int)/2^s)=((N/2^s:Nat):Int):=by rw [Int.natCast_ediv,Int.natCast_pow];rfl
 have z:(((N/2^s:Nat):Int)).tmod 2=((N/2^s%2:Nat):Int):=rfl
 rw [y,z,Nat.testBit_eq_decide_div_mod_eq]
 congr 2
 by_cases e:N/2^s%2=1
 rw [e];rfl
 rw [NX e];simp;omega
def nX(A:Au)(a:List Nat)(z:Nat->Bool)(k x:Nat):Bool:=z x&&(decide (k=0)||(A.aw (a.getD x 0)).aT.testBit (k-1))
structure Ew (a wr:WD) (N i:Nat) (r:Nat->Bool):Prop where
 aM:BW a wr
 row:Sl wr 4 (SV a.heap.size N N) N (bA N λx=>decide (x<i)&&r x)
def Ew.aK{a b:WD}{N:Nat}{r:Nat->Bool}(c:Sl (a.alloc (.cells (madeCells (Value.bool false).cells (N*1)) 4)) 4 (SV a.heap.size N N) N (madeCells (Value.bool false).cells (N*1)).toList)(e:b=a.alloc (.cells (madeCells #[Value.bool false] N) 4)):Ew a b N 0 r:=by
 have f:a.alloc (.cells (madeCells (Value.bool false).cells (N*1)) 4)=b:=by rw [e,PZ];rfl
 have d:=bZ (.bool false) rfl N;rw [f,d,<-Scc.fH]at c;refine ⟨e▸ag _ _,?_⟩;rw [eI (g:=λ_=>false) (λj _=>by simp)];exact c
def Ew.af{b wr c:WD}{N i:Nat}{r:Nat->Bool}(h:Ew b wr N i r)(a:BW wr c):Ew b c N i r:=
 ⟨h.aM.trans (a.mono h.aM.size),h.row.aA (aj.aF a) (λg e s=>by have:=h.row.lt g e;omega)⟩
def Ew.set{a wr b:WD}{N i:Nat}{r:Nat->Bool}(h:Ew a wr N i r)(o:BW wr b)(q:i<N){v:Bool}(s:v=r i):Ew a (b.setCell (AD a.heap.size i) (.bool v)) N (i+1) r/\FZ b a.heap.size i/\∃t,CA b a.heap.size i t:=by have c:=h.af o;obtain ⟨l,m,n⟩:=mg c.row q v;have f:aj (λk=>k=a.heap.size) b (b.setCell (AD a.heap.size i) (.bool v)):=(aj.refl (λk=>k=a.heap.size) b).setCell (p:=(AD a.heap.size i)) (λ_=>rfl) _;refine ⟨⟨c.aM.trans (f.af c.aM.size λk f e=>by omega),?_⟩,n,_,m⟩;rw [eI (g:=up (λx=>decide (x<i)&&r x) i v) (λj _=>?_)];exact l;subst s;by_cases e:j=i;subst e;rw [aB];simp;rw [an _ _ _ _ e];by_cases d:j<i;rw [N6 d,N6 (by omega)];rw [NX d,NX (by omega)]
def Ew.done{w a wr:WD}{N:Nat}{r:Nat->Bool}(h:Ew a wr N N r)(b:BW w a):oV w wr (SV a.heap.size N N) N r:=by refine ⟨_,rfl,?_,aa b h.aM,b.size⟩;rw [eI (g:=λx=>decide (x<N)&&r x) (λj c=>by rw [N6 c,OM])];exact h.row
def FU(w:WD)(A:Au)(s:OA)(u J:Nat)(y:OA)(C L:Nat)(hv:bY w A s u y C)(hA:fS A)(za:OA)(zc N:Nat)(z:Nat->Bool)(hz:dW w za N z)(oa:OA)(oc:Nat)(n:List Nat)(ho:aG .i64 w oa N (aH n))(hj:∀x∈n,x<A.ah.length)(k:Nat)(hk:k<=16)(hN:N<=65536)(t:Int)(ht:t=(k:Int)-1):
 CL 55 #[.agg #[IV A.sets,.slice s u J,.slice y C L],.slice za N zc,.slice oa N oc,IV t] w λe c=>∃v,e=RT v/\oV w c v N (nX A n z k):=by
 obtain ⟨i4,ap,au,aq,ao⟩:=Ol Scc.Tryz.nV
 obtain ⟨q,hq⟩:=EX w.heap.size
 obtain ⟨d,G⟩:=EX (w.alloc (.cells #[IV A.sets,.slice s u J,.slice y C L] 36))
 have m:BW w d:=G▸ag _ _
 have s1:d.heap.size=q+1:=by rw [<-G,NG,hq]
 have ab:kW d q A s u J y C L:=⟨by rw [<-G,<-hq];exact (ND w _).1,hv.af m⟩
 have al:Hid (∀c:WD,BW d c->CA c q 0 (IV A.sets)/\CA c q 1 (.slice s u J)/\CA c q 2 (.slice y C L)):=λc h=>(ab.af h).cells
 have HV:Hid (∀c,BW d c->bY c A s u y C):=λc h=>hv.af (aa m h)
 have HZ:Hid (∀c,BW d c->dW c za N z):=λc h=>hz.af (aa m h)
 have HO:Hid (∀c,BW d c->aG .i64 c oa N (aH n)):=λc h=>ho.af (aa m h)
 have U:Hid (n.length=N):=by have:=ho.1;rw [aC]at this;exact this
 have HJ:=Nq hj
 have HA:=Nq hA
 have ak:=Nq m
 have aw:=Nq s1
 have M:=Nq ht
 clear hv hA hz ho hj m s1 ab ht
 go_enter Tryz.func55,Tryz.ntmps55
 go_upto_region 3 with(at_make;refine bJ rfl _ _ 67 rfl 4 i4 (.bool false) 1 P0 ap au aq _ _ _ _ N rfl rfl rfl rfl (by rw [ao];omega) (by unfold maxLen;omega) ?_;rintro w3 rfl hs;have V:=Nq hs;clear hs)
 have T:Hid (Ew d (d.alloc (.cells (madeCells #[Value.bool false] N) 4)) N 0 (nX A n z k)):=Ew.aK V.o rfl
 clear V G hq
 generalize d.alloc (.cells (madeCells #[Value.bool false] N) 4)=w2 at *
 go_loopw [10] (λv wr=>∃i:Nat,v=IV i/\i<=N/\Hid (Ew d wr N i (nX A n z k))) (λv _=>N-(intOf v).toNat)
 exact ⟨0,rfl,NS _,T⟩
 clear T
 obtain ⟨i,rfl,ax,P⟩:=hrel
 by_cases r:i<N
 have ai:(i:Int)<(N:Int):=by omega
 obtain ⟨zb,zo,rfl,aj⟩:=HZ.o wr P.o.aM
 have R:=aj i r
 clear aj
 have a:=Nq (λD (hb:BW wr D)=>P.o.set hb r (v:=nX A n z k i) rfl)
 have l:Hid (nX A n z k i=(z i&&(decide (k=0)||(A.aw (n.getD i 0)).aT.testBit (k-1)))):=rfl
 cases H:z i
 rw [H]at R l
 rw [l.o,Pe]at a
 obtain ⟨I,hf,v0,ac⟩:=a.o wr (Nx _ wr)
 have X:=Nq I
 clear I a H l
 go_upto_region 5 with(fail)
 refine av 20 (S:=λW=>CA W zb (zo+i) (.bool false)) (by kernel_rfl) (R) (λb=>?_)
 refine' az 0 ?_
 refine' az 1 ?_
 refine' az 2 ?_
 refine' az 3 ?_
 refine' az 4 ?_
 refine' az 5 ?_
 refine' az 6 ?_
 refine' jC 7 ?_
 refine' jC 8 ?_
 refine' jC 9 ?_
 refine' jC 10 ?_
 refine' jC 11 ?_
 refine' jC 12 ?_
 refine' jC 13 ?_
 refine' jC 14 ?_
 refine' jC 15 ?_
 refine' jC 16 ?_
 refine' jC 17 ?_
 refine' az 18 ?_
 refine' az 19 ?_
 clear b
 refine aI 20 λK o=>?_
 go_simp
 refine o.o _ _ (λe=>nomatch e) ?_
 clear o K
 try walk_nrm
 refine ay (by kernel_rfl) ?_
 go_wp2
 go_roundw
 exact ⟨i+1,by go_num,by omega,Nq (X.o.af (Nx _ _).drew)⟩
 simp [intOf];omega
 rw [H]at R l
 rw [l.o,OM]at a
 clear H l
 by_cases F:k=0
 have ar:t<0:=by have:=M.o;omega
 rw [N6 F,Sd]at a
 obtain ⟨I,hf,v0,ac⟩:=a.o wr (Nx _ wr)
 have X:=Nq I
 clear I a F
 go_upto_region 5 with(fail)
 refine av 20 (S:=λW=>CA W zb (zo+i) (.bool true)) (by kernel_rfl) (R) (λb=>?_)
 refine' az 0 ?_
 refine' az 1 ?_
 refine' az 2 ?_
 refine' az 3 ?_
 refine' az 4 ?_
 refine' az 5 ?_
 refine' az 6 ?_
 refine' az 7 ?_
 refine' az 8 ?_
 refine' az 9 ?_
 refine' jC 10 ?_
 refine' jC 11 ?_
 refine' jC 12 ?_
 refine' jC 13 ?_
 refine' jC 14 ?_
 refine' jC 15 ?_
 refine' jC 16 ?_
 refine' az 17 ?_
 refine' az 18 ?_
 refine' az 19 ?_
 clear b
 refine aI 20 λK o=>?_
 go_simp
 refine o.o _ _ (λe=>nomatch e) ?_
 clear o K
 try walk_nrm
 refine ay (by kernel_rfl) ?_
 go_wp2
 go_roundw
 exact ⟨i+1,by go_num,by omega,Nq (X.o.af (Nx _ _).drew)⟩
 simp [intOf];omega
 have ar:¬t<0:=by have:=M.o;omega
 rw [NX F,Ra]at a
 obtain ⟨-,h0|⟨jb,jo,rfl,ad⟩⟩:=HO.o wr P.o.aM
 omega
 obtain ⟨j,E⟩:=EX (n.getD i 0)
 have ah:n[i]? =some j:=by
  have:i<n.length:=by rw [U.o];exact r
  rw [<-E,Nw,Ny this];rfl
 have ae:=HJ.o j (NI ah)
 have cj:CA wr jb (jo+i) (IV j):=by have:=ad i r;rw [cH (by rw [U.o];exact r),E]at this;exact this
 rw [E]at a
 obtain ⟨b0,b1,b2⟩:=al.o wr P.o.aM
 have am:Hid (CL 87 #[.agg #[IV A.sets,.slice s u J,.slice y C L],IV j,IV t] wr.drew λe c=>e=RT (.bool ((A.aw j).aT.testBit (k-1)))/\Below wr.drew.heap.size wr.drew c):=by
  have h:=Ko wr.drew A s u J y C L j (k-1) ((HV.o wr P.o.aM).af (Nx _ wr).drew) ae (by omega) HA.o;have e:((k-1:Nat):Int)=t:=by have:=M.o;omega
  rw [e]at h;exact h
 have O:=And.intro R (And.intro cj (And.intro b0 (And.intro b1 b2)))
 have an:Hid (∀D,BW wr D->CA D zb (zo+i) (.bool true)/\CA D jb (jo+i) (IV j)/\CA D q 0 (IV A.sets)/\CA D q 1 (.slice s u J)/\CA D q 2 (.slice y C L)):=λD hb=>
  have kc:∀{g j:Nat}{v:Value},CA wr g j v->CA D g j v:=λh=>(hb.cell (Nr wr _ h)).trans h
  ⟨kc O.1,kc O.2.1,kc O.2.2.1,kc O.2.2.2.1,kc O.2.2.2.2⟩
 clear ad E ah ae F
 go_upto_region 5 with(fail)
 refine av 20 (S:=λW=>CA W zb (zo+i) (.bool true)/\CA W jb (jo+i) (IV j)/\CA W q 0 (IV A.sets)/\CA W q 1 (.slice s u J)/\CA W q 2 (.slice y C L)) (by kernel_rfl) (O) (λb=>?_)
 refine' az 0 ?_
 refine' az 1 ?_
 refine' az 2 ?_
 refine' az 3 ?_
 refine' az 4 ?_
 refine' az 5 ?_
 refine' az 6 ?_
 refine' az 7 ?_
 refine' az 8 ?_
 refine' az 9 ?_
 refine' az 10 ?_
 refine' az 11 ?_
 refine' az 12 ?_
 refine' az 13 ?_
 refine' az 14 ?_
 refine' az 15 ?_
 clear b R cj b0 b1 b2
 refine aI 16 λK o=>?_
 rw [Oa (by rfl)]
 apply aY.o
 refine aN (f:=87) am.o ?_ (λe w5 Q=>?_)
 clear o
 go_simp
 obtain ⟨rfl,Z⟩:=Q
 refine ⟨_,rfl,?_⟩
 have p:BW wr w5:=(Nx _ wr).drew.trans Z
 have Y:=an.o w5 p
 obtain ⟨I,hf,v0,ac⟩:=a.o w5 p
 have X:=Nq I
 clear I O Z p
 generalize (A.aw j).aT.testBit (k-1)=B at *
 refine o.o _ _ (λ_=>Y) ?_
 clear o K
 try walk_nrm
 refine' az 17 ?_
 refine' az 18 ?_
 refine' az 19 ?_
 clear Y
 refine aI 20 λK o=>?_
 go_simp
 refine o.o _ _ (λe=>nomatch e) ?_
 clear o K
 try walk_nrm
 refine ay (by kernel_rfl) ?_
 go_wp2
 go_roundw
 exact ⟨i+1,by go_num,by omega,X⟩
 simp [intOf];omega
 obtain rfl:i=N:=by omega
 have ai:¬(i:Int)<(i:Int):=by omega
 have HD:=Nq (P.o.done ak.o)
 clear P
 go_wp2
 go_ret
 exact ⟨_,rfl,HD.o⟩
end Go.Proofs.YtimniinkpipnmaaGreatDoor
namespace Go.Own
inductive ju (R:Nat->Nat->Prop):Nat->Nat->Prop
 |refl (x:Nat):ju R x x
 |oA {x y z:Nat}:R x y->ju R y z->ju R x z
theorem ju.trans{R:Nat->Nat->Prop}{x y z:Nat}(h:ju R x y)(k:ju R y z):ju R x z:=by
 induction h with
 |refl x=>exact k
 |oA h _ a=>exact .oA h (a k)
theorem ju.tail{R:Nat->Nat->Prop}{x y z:Nat}(h:ju R x y)(k:R y z):ju R x z:=h.trans (.oA k (.refl z))
def kQ(E:List (List Int))(z:Nat->Prop)(x y:Nat):Prop:=gS E x y/\z x/\z y
theorem ju.reach{E:List (List Int)}{z:Nat->Prop}{x y:Nat}(h:ju (kQ E z) x y):Own.br E x y:=by
 induction h with
 |refl x=>exact Own.br.refl E x
 |oA h _ a=>exact Own.br.oA h.1 a
def K8(E:List (List Int))(z g:Nat->Prop)(n:Nat):Prop:=∃m,kQ E z n m/\∃y,ju (kQ E z) m y/\g y
theorem JE{E:List (List Int)}{z g:Nat->Prop}{n:Nat}(h:K8 E z g n):z n:=h.elim λ_ h=>h.1.2.1
def L7(a:Nat->Nat->Prop)(z:Nat->Prop)(i n:Nat):Prop:=z n/\(i=0\/a (i-1) n)
theorem JD{E:List (List Int)}{b:Nat->Nat->Prop}{S:Nat}{z:Nat->Prop}(c:∀q,rG E b S q->z q){i:Nat}(u:i<=S){q:Nat}(h:rG E b S q):K8 E z (L7 b z i) q:=by
 obtain ⟨p,rfl,f,n⟩:=h;have a:∀k,rG E b S (p k):=λk=>⟨λi=>p (k+i),rfl,λi=>f (k+i),λs r i=>by
  obtain ⟨j,o,d⟩:=n s r (k+i);refine ⟨j-k,by omega,?_⟩;have e:k+(j-k)=j:=by omega
  show b s (p (k+(j-k)));rw [e];exact d⟩
 have g:∀m k,ju (kQ E z) (p k) (p (k+m)):=by
  intro m;induction m with
  |zero=>intro k;exact .refl _
  |succ m t=>intro k;exact (t k).tail ⟨f (k+m),c _ (a _),c _ (a _)⟩
 refine ⟨p 1,⟨f 0,c _ (a _),c _ (a _)⟩,?_⟩;rcases Nat.eq_zero_or_pos i with l|l;exact ⟨p 1,.refl _,c _ (a _),.inl l⟩;obtain ⟨j,o,d⟩:=n (i-1) (by omega) 1;refine ⟨p j,?_,c _ (a _),.inr d⟩;have:=g (j-1) 1;have e:1+(j-1)=j:=by omega
 rwa [e]at this
theorem LH{P:Nat->Prop}(f:Nat->Nat){q:Nat}(h:P q):∃v,P v/\∀y,P y->f v<=f y:=by
 have:∀n q,P q->f q<=n->∃v,P v/\∀y,P y->f v<=f y:=by
  intro n;induction n with
  |zero=>intro q h d;exact ⟨q,h,λy _=>by omega⟩
  |succ n e=>intro q h d;by_cases a:∃y,P y/\f y<=n;obtain ⟨y,c,b⟩:=a;exact e y c b;exact ⟨q,h,λy c=>by by_cases b:f y<=n;exact absurd ⟨y,c,b⟩ a;omega⟩
 exact this (f q) q h (P9 _)
open Classical in
theorem G2{E:List (List Int)}{b:Nat->Nat->Prop}{S:Nat}{z:Nat->Prop}(t:∀q,z q->∀i,i<=S->K8 E z (L7 b z i) q){q:Nat}(u:z q):rG E b S q:=by
 let f:Nat->Nat:=λv=>((List.range E.length).filter λy=>decide (ju (kQ E z) v y)).length;obtain ⟨v,⟨d,l⟩,c⟩:=LH (P:=λv=>ju (kQ E z) q v/\z v) f ⟨.refl q,u⟩;have k:∀{x y:Nat},ju (kQ E z) x y->z x->z y:=by
  intro x y h;induction h with
  |refl x=>exact id
  |oA h _ w=>intro _;exact w h.2.2
 have r:∀x,z x->x<E.length:=λx n=>by obtain ⟨m,h,_⟩:=t x n 0 (Nat.zero_le _);exact h.1.1
 have a:∀y,ju (kQ E z) v y->ju (kQ E z) y v:=λy g=>by
  by_cases j:ju (kQ E z) y v;exact j;exfalso;have B:=c y ⟨d.trans g,k g l⟩;have C:f y<f v:=jU (p:=λx=>decide (ju (kQ E z) y x)) (q:=λx=>decide (ju (kQ E z) v x)) (λx n=>by rw [OP]at n⊢;exact g.trans n) (List.range E.length) ⟨v,List.mem_range.2 (r v l),decide_eq_true (.refl v),decide_eq_false j⟩
  omega
 refine AR d.reach ⟨?_,λs D=>?_⟩;obtain ⟨m,h,_⟩:=t v l 0 (Nat.zero_le _);exact ⟨m,h.1,(a m (.oA h (.refl m))).reach⟩;obtain ⟨m,h,y,g,_,o⟩:=t v l (s+1) (by omega);have e:ju (kQ E z) v y:=.oA h g;rcases o with A|o;omega;exact ⟨y,⟨e.reach,(a y e).reach⟩,o⟩
end Go.Own
