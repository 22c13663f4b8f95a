/- A part of the proof of TopNegates. -/
import Derived.Test.YtimniinkpipnmaaGreatDoorR9
import Derived.Deep.Fields
import Derived.Deep.SlicePairs
import Derived.LaidMore
set_option maxRecDepth 100000
set_option maxHeartbeats 8000000
set_option linter.all false
namespace Go.Proofs.YtimniinkpipnmaaGreatDoor
open Go.RowKit Go.Own
def Ib{w l:WD}{v:Value}{a:OA}{n c:Nat}{m:List Value}{e:TypeId}{s:Nat}(k:l.ownsRow 0 e s (.slice a (n+1) c) (n+1) m)(h:∀b,(Value.slice a (n+1) c).ownBlock=some b->v.ownBlock=some b\/w.heap.size<=b):dC w v (.slice a (n+1) c):=by rcases k.2 with⟨f,d⟩|⟨g,i,j,f,-⟩;omega;rw [f]at h⊢;rcases h g rfl with d|d;exact .inl (by rw [d];rfl);exact .inr ⟨g,rfl,d⟩
def Dp(L a z:Nat):Nat:=if z<a then z/L else 0
def LX{L n k:Nat}(a:k<L):∀j,up (Dp L (n*L+k)) (n*L+k) n j=Dp L (n*L+k+1) j:=λj=>by by_cases e:j=n*L+k;subst e;rw [aB];unfold Dp;rw [Oa (Q2 _),(dm a).1];rw [an _ _ _ _ e];unfold Dp;by_cases h:j<n*L+k;rw [Oa h,Oa (by omega)];rw [Of h,Of (by omega)]
def tR.congr{b wr:WD}{g h N:Nat}{V:Nat->Value}{C:Nat->List (Int×Int)}{f a:Nat->Nat}(k:tR b wr g h N V C f)(e:∀j,j<N->a j=f j):tR b wr g h N V C a:=⟨k.ew,by rw [hH e];exact k.LL,k.gh,k.row⟩
def yA(w:WD)(A:Au)(ia:OA)(il ic:Nat)(na:OA)(O nc:Nat)(hv:bY w A ia il na O)(hA:fS A)(sa:OA)(ns cs:Nat)(la:OA)(np cp:Nat)(l d:List Nat)(b9:aG .u64 w sa ns (aH l))(b4:aG .u64 w la np (aH d))(hL:gV l d)(hp:0<np)(hN:ns+np<=255):
 CL 11 #[.agg #[IV A.sets,.slice ia il ic,.slice na O nc],.agg #[.slice sa ns cs,.slice la np cp]] w (Ak A l d w):=by
 obtain ⟨i3,cG,c7,cX,aX⟩:=Ol Tryz.ed
 obtain ⟨dq,cI,c8,cY,cB⟩:=Ol Tryz.qj
 obtain ⟨q,hq⟩:=EX w.heap.size
 obtain ⟨wa,bm⟩:=EX (w.alloc (.cells #[IV A.sets,.slice ia il ic,.slice na O nc] 36))
 obtain ⟨H,ca⟩:=EX (wa.alloc (.cells #[.slice sa ns cs,.slice la np cp] 25))
 have cC:BW w wa:=bm▸ag _ _
 have bT:BW wa H:=ca▸ag _ _
 have da:wa.heap.size=q+1:=by rw [<-bm,NG,hq]
 have aK:BW w H:=aa cC bT
 have cD:HC H q #[IV A.sets,.slice ia il ic,.slice na O nc] 36:=(bT.block q (by omega)).trans (by rw [<-bm,<-hq];exact (ND w _).1)
 have bU:HC H (q+1) #[.slice sa ns cs,.slice la np cp] 25:=by rw [<-ca,<-da];exact (ND wa _).1
 have E:Hid (∀u,BW H u->kW u q A ia il ic na O nc):=λu hb=>(kW.mk cD (hv.af aK)).af hb
 have ah:Hid (∀u:WD,BW H u->CA u (q+1) 0 (.slice sa ns cs)/\CA u (q+1) 1 (.slice la np cp)):=λu hb=>by have h3:=(hb.block (q+1) (Nu.1 bU).1).trans bU;exact ⟨CH h3,CH h3⟩
 have co:Hid (l.length=ns):=by have:=b9.1;rw [aC]at this;exact this
 have ba:Hid (d.length=np):=by have:=b4.1;rw [aC]at this;exact this
 have dn:O<=256:=by rw [<-hv.bC];exact hA.many
 have al:Hid (A.ah.length=O):=hv.bC
 have dH:il<=16777216:=by have:=hv.aJ.1;rw [aC]at this;rw [<-this];exact hA.il
 have aM:Hid (A.aJ.length=il):=by have:=hv.aJ.1;rw [aC]at this;exact this
 obtain ⟨L,bQ⟩:=EX (ns+np)
 have ac:Hid (l.length+d.length=L):=by rw [co.o,ba.o];exact bQ
 have dl:0<L:=by omega
 have bd:L<=255:=by omega
 have dv:ns<L:=by omega
 have cf:=Nq (Bi H A ia il ic na O nc (hv.af aK) hA)
 have cu:Hid (∀u:WD,CL 5 #[.agg #[.slice sa ns cs,.slice la np cp]] u λe J=>e=RT (IV 0)/\BW u J):=λu=>by refine (wI sa ns cs la np cp u (by omega) (by omega)).mono ?_;rintro e J ⟨rfl,hb⟩;refine ⟨?_,hb⟩;unfold dM;rw [Of (by omega),Of (by omega)]
 have bs:Hid (∀u:WD,CL 28 #[.agg #[.slice sa ns cs,.slice la np cp]] u λe J=>e=RT (IV L)/\BW u J):=λu=>by refine (IJ sa ns cs la np cp u (by omega) (by omega)).mono ?_;rintro e J ⟨rfl,hb⟩;exact ⟨by rw [<-bQ];rfl,hb⟩
 have bx:Hid (∀(u:WD)(k:Nat),BW H u->k<=1000000->CL 30 #[.agg #[.slice sa ns cs,.slice la np cp],IV k] u λe J=>e=RT (UV ((cJ l d k:Nat):Int))/\BW u J):=λu k hb hk=>by have:=Kn sa ns cs la np cp (aH l) (aH d) k u (by omega) (by omega) hk (b9.af (aa aK hb)) (b4.af (aa aK hb)) hp;rw [AY l d k (by rw [ba.o];exact hp)]at this;exact this
 have bK:Hid (∀(u:WD)(i k:Nat)(ta:OA)(U tc:Nat),i<O->CL 29 #[.agg #[UV ((A.aw i).ak:Int),UV ((A.aw i).aD:Int),UV ((A.aw i).aT:Int),.slice ta U tc],UV ((cJ l d k:Nat):Int)] u λe J=>e=RT (.bool (iB A l d i k))/\BW u J):=λu i k ta U tc hi=>
  C7 u (A.aw i) ta U tc (cJ l d k) (hA.bits _ (dO (by rw [al.o];exact hi))) (hL.lt k (by rw [ba.o];exact hp))
 have bH:Hid (∀i,i<O->∃b o ta U tc,na=some (AD b o)/\∀W,BW H W->(CA W b (o+i*4) (UV ((A.aw i).ak:Int))/\CA W b (o+i*4+1) (UV ((A.aw i).aD:Int))/\CA W b (o+i*4+2) (UV ((A.aw i).aT:Int))/\CA W b (o+i*4+3) (.slice ta U tc))/\aG .i64 W ta U (aH (bV.tO (A.aw i)))):=λi hi=>by obtain ⟨b,o,ta,U,tc,e,-,k0,k1,k2,k3,hr⟩:=(E.o H (Nx _ _)).nd (i:=i) (by rw [al.o];exact hi);refine ⟨b,o,ta,U,tc,e,λW hW=>?_⟩;have kc:∀{g j:Nat}{v:Value},CA H g j v->CA W g j v:=λh=>(hW.cell (Nr H _ h)).trans h;exact ⟨⟨kc k0,kc k1,kc k2,kc k3⟩,hr.af hW⟩
 have HA:=Nq hA
 have bG:=Nq hL
 have aQ:Hid (0<d.length):=by rw [ba.o];exact hp
 have cc:=Nq aK
 obtain ⟨N,aW⟩:=EX (O*L)
 have dm:N<=65536:=by rw [<-aW];exact N5 (QW dn bd) (by decide)
 have xN:IntKind.i64.wrap ((O:Int)*(L:Int))=(N:Int):=by
  have e:((O:Int)*(L:Int))=((O*L:Nat):Int):=by simp
  rw [e,aW,Pv];omega
 have a8:=Nq aW
 have cm:Hid (∀n k,n<O->k<L->n*L+k<N):=λn k hn hk=>by have Q:(n+1)*L<=O*L:=PY _ hn;rw [Qz,aW]at Q;omega
 obtain ⟨c0,c1,c2⟩:=(E.o H (Nx _ _)).cells
 obtain ⟨v0,v1⟩:=ah.o H (Nx _ _)
 clear hv hA b9 b4 hL cC bT aK cD bU bQ aW
 go_enter Tryz.func11,Tryz.ntmps11
 go_upto_region 4 with(first
  |(go_at_call 27;refine cf.o.mono ?_;rintro e w2 ⟨rfl,cx⟩;have bz:=Nq cx;clear cx;obtain ⟨d0,d1,d2⟩:=(E.o w2 bz.o).cells;obtain ⟨d3,d4⟩:=ah.o w2 bz.o;have cq:=Nq (cu.o w2))
  |(go_at_call 5;refine cq.o.mono ?_;rintro e w3 ⟨rfl,aX⟩;have bA:=Nq (aa bz.o aX);clear aX;obtain ⟨e0,e1,e2⟩:=(E.o w3 bA.o).cells;obtain ⟨e3,e4⟩:=ah.o w3 bA.o;have ct:=Nq (bs.o w3))
  |(go_at_call 28;refine ct.o.mono ?_;rintro e w4 ⟨rfl,cA⟩;have aF:=Nq (aa bA.o cA);clear cA;obtain ⟨f0,f1,f2⟩:=(E.o w4 aF.o).cells))
 clear c0 c1 c2 v0 v1 d0 d1 d2 d3 d4 e0 e1 e2 e3 e4 cq ct cf cu bs ca bm hq da
 go_upto_region 5 with(at_make;refine bJ rfl _ _ 53 rfl 64 dq (SN) 1 Rb cI c8 cY _ _ _ _ N rfl rfl rfl rfl (by rw [cB];omega) (by unfold maxLen;omega) ?_;rintro w5 rfl hs;have aP:=Nq hs;clear hs)
 obtain ⟨w5,a5⟩:=EX (w4.alloc (.cells (madeCells #[SN] N) 64))
 have bD:Hid (EW w4 w5 w4.heap.size (λ_=>SN) N (λ_=>[])):=by
  have h3:w4.alloc (.cells (madeCells (SN).cells (N*1)) 64)=w5:=by rw [<-a5,PZ];rfl
  have Q:=aP.o;rw [h3]at Q;exact ⟨ES.aK Q (Nz _),a5▸ag _ _⟩
 rw [a5]
 obtain ⟨g,hg⟩:=EX w4.heap.size
 have s5:w5.heap.size=g+1:=by rw [<-a5,NG,hg]
 rw [hg]at bD⊢
 have HG:=Nq hg
 clear aP a5 hg f0 f1 f2 xN
 go_upto_region 7 with(at_make;refine bJ rfl _ _ 33 rfl 3 i3 (IV 0) 1 OE cG c7 cX _ _ _ _ N rfl rfl rfl rfl (by rw [aX];omega) (by unfold maxLen;omega) ?_;rintro w6 rfl hs;have aP:=Nq hs;clear hs)
 obtain ⟨w6,bl⟩:=EX (w5.alloc (.cells (madeCells #[IV 0] N) 3))
 have bM:Hid (tR w4 w6 g w5.heap.size N (λ_=>SN) (λ_=>[]) (Dp L (0*L))):=by
  have h3:w5.alloc (.cells (madeCells (IV 0).cells (N*1)) 3)=w6:=by rw [<-bl,PZ];rfl
  have Q:=aP.o;rw [h3,bZ (IV 0) rfl N,rf]at Q;refine ⟨bD.o.af (bl▸ag _ _),?_,by omega,λi b hi e=>by cases e⟩;rw [hH (h:=λ_=>0) (λj _=>by unfold Dp;rw [Q4,Of (QL j)])];exact Q
 rw [bl]
 obtain ⟨h,hh⟩:=EX (g+1)
 rw [s5,hh]at bM
 rw [hh]
 have bt:Hid (rI A l d N (0*L) [] (λ_=>[])):=by rw [Q4];exact rI.aK A l d N
 clear aP bl hh s5 bD
 go_loopw [8] (λv wr=>∃(n:Nat)(V:Nat->Value)(C:Nat->List (Int×Int)),n<=O/\v=IV n/\Hid (tR w4 wr g h N V C (Dp L (n*L)))/\Hid (rI A l d N (n*L) [] C)) (λv _=>O-(intOf v).toNat)
 exact ⟨0,_,_,NS _,rfl,bM,bt⟩
 clear bM bt
 obtain ⟨n,V,C,hn,rfl,G,B⟩:=hrel
 obtain ⟨c0,c1,c2⟩:=(E.o wr (aa aF.o G.o.ew.aM)).cells
 by_cases bj:n<O
 ·have cV:(n:Int)<(O:Int):=by omega
  obtain ⟨b,o,ta,U,tc,rfl,aJ⟩:=bH.o n bj;have cl:=Nq aJ;have aU:Hid ((A.aw n).tO.length=U):=by have:=(aJ H (Nx _ _)).2.1;rw [aC]at this;exact this
  have aA:=dO (A:=A) (i:=n) (by rw [al.o];exact bj);have dp:U<=16777216:=by have:=HA.o.tl _ aA;have:=aU.o;omega
  have db:Hid (∀t∈(A.aw n).tO,t<O):=λt ht=>by have:=HA.o.lN _ aA t ht;rw [al.o]at this;exact this
  obtain ⟨XX,bg⟩:=EX (n*L);have dF:XX<=65536:=by rw [<-bg];exact N5 (QW (by omega:n<=256) bd) (by decide)
  have x1:IntKind.i64.wrap ((n:Int)*(L:Int))=(XX:Int):=by
   have e:((n:Int)*(L:Int))=((n*L:Nat):Int):=by simp
   rw [e,bg,Pv];omega
  have ap:=Nq bg;clear aJ aA bg;go_upto_region 9 with(fail);clear c0 c1 c2;go_wp2;go_loopw [9] (λv wr=>∃(k:Nat)(V:Nat->Value)(C:Nat->List (Int×Int)),k<=L/\v=IV k/\Hid (tR w4 wr g h N V C (Dp L (n*L+k)))/\Hid (rI A l d N (n*L+k) [] C)) (λv _=>L-(intOf v).toNat);exact ⟨0,V,C,NS _,rfl,G,B⟩;clear G B;obtain ⟨k,V,C,hk,rfl,G,B⟩:=hrel;by_cases bi:k<L
  ·have cQ:(k:Int)<(L:Int):=by omega
   obtain ⟨nx,b7⟩:=EX (gi l d k);have df:=Nq b7;have aj:nx=if k+1=L then ns else k+1:=by rw [<-b7];unfold gi;rw [ac.o,co.o]
   have dw:nx<L:=by rw [aj];split<;>omega
   obtain ⟨wk,rfl⟩:∃wk:WD,wk=wr:=⟨_,rfl⟩;obtain ⟨dk,-⟩:=ah.o wk (aa aF.o G.o.ew.aM);clear b7;go_upto_if 53 with(fail);go_cut [10]from 44 to 126 (λv wc=>v=IV nx/\wc=wk);case first=>
    by_cases cP:k+1=L
    ·rw [Oa cP]at aj;have t0:(((k:Int)+1)==(L:Int))=true:=by rw [RP];omega
     subst aj;go_wp2;go_meet;case rel=>exact ⟨rfl,rfl⟩
    ·rw [Of cP]at aj;have t0:(((k:Int)+1)==(L:Int))=false:=by rw [NC];omega
     subst aj;go_wp2;go_meet;case rel=>exact ⟨by go_num,rfl⟩
   case rest=>
    obtain ⟨rfl,rfl⟩:=hcut;obtain ⟨wk,rfl⟩:∃wk:WD,wk=wc:=⟨_,rfl⟩;clear aj dk;have aw:=cm.o n k bj bi;rw [ap.o]at G B aw;obtain ⟨Z,hZ⟩:=EX (XX+k);have x2:IntKind.i64.wrap ((XX:Int)+(k:Int))=(Z:Int):=by rw [Pv];omega
    rw [hZ]at G B aw;have dG:(Z:Int)<(N:Int):=by omega
    obtain ⟨bv,cz,fz⟩:=G.o.set aw n;have bb:Hid (tR w4 (wk.setCell (AD h Z) (IV n)) g h N V C (Dp L (Z+1))):=bv.congr (λj _=>by have:=LX (L:=L) (n:=n) bi j;rw [ap.o,hZ]at this;exact this.symm)
    have HZ:=Nq hZ;clear bv hZ G;go_upto_region 16 with(fail);clear cz fz;generalize wk.setCell (AD h Z) (IV n)=wd at *;have bC:=Nq (aa aF.o bb.o.ew.aM);have M:Hid (∀W,BW H W->CA W q 2 (.slice (some (AD b o)) O nc)/\CA W (q+1) 0 (.slice sa ns cs)/\CA W (q+1) 1 (.slice la np cp)/\CA W b (o+n*4) (UV ((A.aw n).ak:Int))/\CA W b (o+n*4+1) (UV ((A.aw n).aD:Int))/\CA W b (o+n*4+2) (UV ((A.aw n).aT:Int))/\CA W b (o+n*4+3) (.slice ta U tc)):=λW hW=>⟨(E.o W hW).cells.2.2,(ah.o W hW).1,(ah.o W hW).2,(cl.o W hW).1⟩;have hS:=M.o wd bC.o;have an:=Nq (bx.o wd.drew k bC.o.drew (by omega));have ao:Hid (∀u:WD,CL 29 #[.agg #[UV ((A.aw n).ak:Int),UV ((A.aw n).aD:Int),UV ((A.aw n).aT:Int),.slice ta U tc],UV ((cJ l d k:Nat):Int)] u λe J=>e=RT (.bool (iB A l d n k))/\BW u J):=λu=>bK.o u n k ta U tc bj;refine av 9 (S:=λW=>CA W q 2 (.slice (some (AD b o)) O nc)/\CA W (q+1) 0 (.slice sa ns cs)/\CA W (q+1) 1 (.slice la np cp)/\CA W b (o+n*4) (UV ((A.aw n).ak:Int))/\CA W b (o+n*4+1) (UV ((A.aw n).aD:Int))/\CA W b (o+n*4+2) (UV ((A.aw n).aT:Int))/\CA W b (o+n*4+3) (.slice ta U tc)) (by kernel_rfl) (hS) (λad=>?_);refine' az 0 ?_ [8,4,3,1,0];refine' az 1 ?_ [8,4,3,1];refine' az 2 ?_ [8,4,3,2];refine' az 3 ?_ [8,4,3];refine' az 4 ?_ [8,4];refine' az 5 ?_ [8,7,5];refine' az 6 ?_ [8,7,6];clear ad hS;refine aI 7 λK R=>?_;rw [Oa (by rfl)];apply aY.o;refine aN (f:=30) an.o ?_ (λe w7 D=>?_)
    ·clear R;go_simp
    obtain ⟨rfl,aq⟩:=D;refine ⟨_,rfl,?_⟩;have ab:Hid (BW wd w7):=(Nx _ wd).drew.trans aq;have I:Hid (BW H w7):=aa bC.o ab.o;clear aq;refine R.o _ _ (λ_=>M.o w7 I.o) ?_;clear R K;try walk_nrm
    refine aI 8 λK R=>?_;rw [Oa (by rfl)];apply aY.o;refine aN (f:=29) (ao.o w7) ?_ (λe w8 D=>?_)
    ·clear R;go_simp
    obtain ⟨rfl,ae⟩:=D;refine ⟨_,rfl,?_⟩;have a6:=Nq ae;have T:Hid (tR w4 w8 g h N V C (Dp L (Z+1))):=bb.o.af (aa ab.o ae);clear ae;refine R.o _ _ (λ_=>M.o w8 (aa I.o a6.o)) ?_;clear R K;try walk_nrm
    refine aI 9 λK R=>?_;go_simp;refine R.o _ _ (λe=>nomatch e) ?_;clear R K;try walk_nrm
    refine ay (by kernel_rfl) ?_;clear an ao ab I a6;clear M;obtain ⟨wx,rfl⟩:∃wx:WD,wx=w8:=⟨_,rfl⟩;cases am:iB A l d n k
    ·have HE:Hid (LZ A l d Z=[]):=by rw [<-HZ.o,<-ap.o,<-ac.o,Dq (by rw [ac.o];exact bi)];unfold xJ;rw [Of (by rw [am];decide)];exact Nq rfl
     have aR:Hid (rI A l d N (n*L+(k+1)) [] C):=by have Q:=B.o;rw [<-HE.o]at Q;have h2:=Q.next;rw [show n*L+(k+1)=Z+1 by rw [<-Qe,ap.o,HZ.o]];exact h2
     have bO:Hid (tR w4 wx g h N V C (Dp L (n*L+(k+1)))):=by rw [show n*L+(k+1)=Z+1 by rw [<-Qe,ap.o,HZ.o]];exact T
     clear B T am bb;go_wp2;go_roundw;exact ⟨k+1,V,C,by omega,by go_num,bO,aR⟩;simp [intOf];omega
    ·have di:=Nq am;clear am
     go_wp2;go_loopw [11] (λv wr=>∃(j:Nat)(V:Nat->Value)(C:Nat->List (Int×Int)),j<=U/\v=IV j/\Hid (tR w4 wr g h N V C (Dp L (Z+1)))/\Hid (rI A l d N Z (xJ A l d n k j) C)) (λv _=>U-(intOf v).toNat);exact ⟨0,V,C,NS _,rfl,T,by rw [I5];exact B⟩;clear B T bb;obtain ⟨j,V,C,hj,rfl,G,B⟩:=hrel;have P:=Nq (aa aF.o G.o.ew.aM);obtain ⟨c0,c1,c2⟩:=(E.o wr P.o).cells;obtain ⟨⟨-,-,-,k3⟩,au⟩:=cl.o wr P.o;by_cases b3:j<U
     ·have cO:(j:Int)<(U:Int):=by omega
      obtain ⟨-,h0|⟨tb,tq,rfl,c3⟩⟩:=au
      ·omega
      obtain ⟨t,ht⟩:∃t,(A.aw n).tO[j]? =some t:=⟨_,Ny (by rw [aU.o];exact b3)⟩;have ck:CA wr tb (tq+j) (IV t):=by have:=c3 j b3;rw [cH (by rw [aU.o];exact b3),Nw,ht]at this;exact this
      have c4:t<O:=db.o t (NI ht);have dx:(t:Int)<(O:Int):=by omega
      have aV:=Nq (I4 di.o ht);obtain ⟨b2,o2,bn,bp,bo,e,cw⟩:=bH.o t c4;cases e
      have dd:=Nq cw;clear c3 ht cw;go_upto_region 21 with(fail);clear c0 c1 c2 k3 ck;have M:Hid (∀W,BW H W->CA W q 2 (.slice (some (AD b o)) O nc)/\CA W (q+1) 0 (.slice sa ns cs)/\CA W (q+1) 1 (.slice la np cp)/\CA W b (o+t*4) (UV ((A.aw t).ak:Int))/\CA W b (o+t*4+1) (UV ((A.aw t).aD:Int))/\CA W b (o+t*4+2) (UV ((A.aw t).aT:Int))/\CA W b (o+t*4+3) (.slice bn bp bo)):=λW hW=>⟨(E.o W hW).cells.2.2,(ah.o W hW).1,(ah.o W hW).2,(dd.o W hW).1⟩;have hS:=M.o wr P.o;have an:=Nq (bx.o wr.drew nx P.o.drew (by omega));have ao:Hid (∀u:WD,CL 29 #[.agg #[UV ((A.aw t).ak:Int),UV ((A.aw t).aD:Int),UV ((A.aw t).aT:Int),.slice bn bp bo],UV ((cJ l d nx:Nat):Int)] u λe J=>e=RT (.bool (iB A l d t nx))/\BW u J):=λu=>bK.o u t nx bn bp bo c4;refine av 8 (S:=λW=>CA W q 2 (.slice (some (AD b o)) O nc)/\CA W (q+1) 0 (.slice sa ns cs)/\CA W (q+1) 1 (.slice la np cp)/\CA W b (o+t*4) (UV ((A.aw t).ak:Int))/\CA W b (o+t*4+1) (UV ((A.aw t).aD:Int))/\CA W b (o+t*4+2) (UV ((A.aw t).aT:Int))/\CA W b (o+t*4+3) (.slice bn bp bo)) (by kernel_rfl) (hS) (λad=>?_);refine' az 0 ?_ [4,3,1,0];refine' az 1 ?_ [4,3,1];refine' az 2 ?_ [4,3,2];refine' az 3 ?_ [4,3];refine' az 4 ?_;refine' az 5 ?_ [7,5];refine' az 6 ?_ [7,6];clear ad hS;refine aI 7 λK R=>?_;rw [Oa (by rfl)];apply aY.o;refine aN (f:=30) an.o ?_ (λe w7 D=>?_)
      ·clear R;go_simp
      obtain ⟨rfl,aq⟩:=D;refine ⟨_,rfl,?_⟩;have ab:Hid (BW wr w7):=(Nx _ wr).drew.trans aq;have I:Hid (BW H w7):=aa P.o ab.o;clear aq;refine R.o _ _ (λ_=>M.o w7 I.o) ?_;clear R K;try walk_nrm
      refine aI 8 λK R=>?_;rw [Oa (by rfl)];apply aY.o;refine aN (f:=29) (ao.o w7) ?_ (λe w8 D=>?_)
      ·clear R;go_simp
      obtain ⟨rfl,ae⟩:=D;refine ⟨_,rfl,?_⟩;have a6:=Nq ae;have T:Hid (tR w4 w8 g h N V C (Dp L (Z+1))):=G.o.af (aa ab.o ae);clear ae;refine R.o _ _ (λe=>nomatch e) ?_;clear R K;try walk_nrm
      refine ay (by kernel_rfl) ?_;clear an ao ab I a6 M G;obtain ⟨wy,rfl⟩:∃wy:WD,wy=w8:=⟨_,rfl⟩;rw [df.o]at aV;cases bk:iB A l d t nx
      ·have bI:Hid (rI A l d N Z (xJ A l d n k (j+1)) C):=by rw [aV.o,Of (by rw [bk];decide),Om];exact B
       clear bk B aV;go_wp2;go_roundw;exact ⟨j+1,V,C,by omega,by go_num,T,bI⟩;simp [intOf];omega
      ·obtain ⟨TT,bf⟩:=EX (t*L);have dE:TT<=65536:=by rw [<-bf];exact N5 (QW (by omega:t<=256) bd) (by decide)
       have y2:IntKind.i64.wrap ((t:Int)*(L:Int))=(TT:Int):=by
        have e:((t:Int)*(L:Int))=((t*L:Nat):Int):=by simp
        rw [e,bf,Pv];omega
       obtain ⟨Y,hY⟩:=EX (TT+nx);have y3:IntKind.i64.wrap ((TT:Int)+(nx:Int))=(Y:Int):=by rw [Pv];omega
       have bI:Hid (xJ A l d n k (j+1)=xJ A l d n k j++[Y]):=by rw [aV.o,Oa bk,ac.o,bf,hY];exact Nq rfl
       have bF:Hid ((C Z).length<=4000000000000):=by have Q:=B.o.bC HA.o (by rw [al.o,ac.o,a8.o]) (N5 (El A l d n k j) (by rw [aU.o];exact dp)) aw;show _<=_;omega
       obtain ⟨ar,lr,cr,hv⟩:=gL (T.o.ew.es.row Z aw);obtain ⟨cb,a3⟩:=EX ((C Z).length);obtain rfl:lr=cb:=by have Q:=T.o.ew.es.row Z aw;rw [hv]at Q;obtain ⟨_,_,e⟩:=bw Q;rw [a3]at e;exact (On e).2.1
       obtain ⟨q2,bL,a7,dg⟩:=T.o.facts aw hv a3;rw [a3]at bF;have du:=bF.o;have ci:=Nq a3;clear hv a3 bF bf hY bk aV;go_wp2_with (at_builtin;refine ki rfl (.tmp 117) (.tmp 124) rfl (.slice ar lr cr) lr (C Z) ci.o rfl (bL.o _ T.o) (e0 Y) rfl (by omega) ?_;intro a9 c9 w9 ho hk cT;obtain ⟨dC,dz,-⟩:=a7.o _ _ T.o hk;have de:=Nq (dg.o _ _ _ _ T.o ho hk (Ib ho cT));clear ho hk cT);have aR:Hid (rI A l d N Z (xJ A l d n k (j+1)) (up C Z (C Z++[e0 Y]))):=by rw [bI.o];exact B.o.dB Y 0
       clear B;refine ⟨?_,?measure⟩;(repeat apply Exists.intro);refine ⟨?rel,rfl⟩;exact ⟨j+1,_,_,by omega,by go_num,de,aR⟩;simp [intOf];omega
     ·obtain rfl:j=U:=by omega
      have cO:¬(j:Int)<(j:Int):=by omega
      have aR:Hid (rI A l d N (n*L+(k+1)) [] C):=by
       have Q:=B.o;have h3:LZ A l d Z=xJ A l d n k j:=by rw [<-HZ.o,<-ap.o,<-ac.o,Dq (by rw [ac.o];exact bi),aU.o]
       rw [<-h3]at Q;have h2:=Q.next;rw [show n*L+(k+1)=Z+1 by rw [<-Qe,ap.o,HZ.o]];exact h2
      have bO:Hid (tR w4 wr g h N V C (Dp L (n*L+(k+1)))):=by rw [show n*L+(k+1)=Z+1 by rw [<-Qe,ap.o,HZ.o]];exact G
      clear B G au;go_wp2;go_roundw;exact ⟨k+1,V,C,by omega,by go_num,bO,aR⟩;simp [intOf];omega
  ·obtain rfl:k=L:=by omega
   have cQ:¬(k:Int)<(k:Int):=by omega
   have HE:Hid (n*k+k=(n+1)*k):=by rw [Qz];exact Nq rfl
   rw [HE.o]at G B;go_wp2;go_roundw;exact ⟨n+1,_,_,by omega,by go_num,G,B⟩;simp [intOf];omega
 ·obtain rfl:n=O:=by omega
  have cV:¬(n:Int)<(n:Int):=by omega
  rw [a8.o]at G B;go_upto_region 26 with(fail);obtain ⟨gb,bW⟩:=EX wr.heap.size;obtain ⟨ai,aB⟩:=EX (wr.alloc (.cells #[SN,SV g N N,SN] 55));have bu:BW wr ai:=aB▸ag _ _;have aZ:HC ai gb #[SN,SV g N N,SN] 55:=by rw [<-aB,<-bW];exact (ND wr _).1
  have bN:=Nq (G.o.af bu);have cd:=Nq (aa aF.o bN.o.ew.aM);have ch:Hid (∀W:WD,BW ai W->CA W gb 0 (SN)/\CA W gb 1 (SV g N N)/\CA W gb 2 (SN)):=λW hW=>by have h2:=(hW.block gb (Nu.1 aZ).1).trans aZ;exact ⟨CH h2,CH h2,CH h2⟩
  clear G bu aZ;rw [aB,bW];clear c0 c1 c2 aB bW;go_loopw [14,15] (λdr ds wb=>∃(i:Nat)(a:OA)(m c:Nat),i<=il/\ds=IV i/\dr=.slice a m c/\m<=i/\Hid (aE .i64 3 ai wb (.slice a m c) (aH (((A.aJ.take i).filter λx=>iB A l d x 0).map λx=>x*L)))) (λ_ v _=>il-(intOf v).toNat);exact ⟨0,none,0,0,NS _,rfl,rfl,Nz _,Nq (iZ _ _ _)⟩;obtain ⟨i,a,m,c,hi,rfl,rfl,dI,hm⟩:=hrel;have P:Hid (BW H wr):=aa cd.o hm.o.2.1;obtain ⟨c0,c1,c2⟩:=(E.o wr P.o).cells;by_cases b5:i<il
  ·have cS:(i:Int)<(il:Int):=by omega
   obtain ⟨-,h0|⟨ib,io,rfl,cK⟩⟩:=(E.o H (Nx _ _)).Ao.aJ
   ·omega
   obtain ⟨j,hj⟩:∃j,A.aJ[i]? =some j:=⟨_,Ny (by rw [aM.o];exact b5)⟩;have bP:CA H ib (io+i) (IV j):=by have:=cK i b5;rw [cH (by rw [aM.o];exact b5),Nw,hj]at this;exact this
   have cM:j<n:=by have:=HA.o.aJ j (NI hj);rw [al.o]at this;exact this
   have dt:(j:Int)<(n:Int):=by omega
   obtain ⟨b,o,ta,U,tc,rfl,aJ⟩:=bH.o j cM;have aS:Hid (((A.aJ.take (i+1)).filter λx=>iB A l d x 0).map (λx=>x*L)=((A.aJ.take i).filter λx=>iB A l d x 0).map (λx=>x*L)++(if iB A l d j 0=true then [j*L]else [])):=by
    rw [OG,hj,OL,Oy];refine Nq ?_;congr 1;by_cases h:iB A l d j 0=true
    ·rw [Oa h];simp [h]
    ·rw [Of h];simp [h]
   have M:Hid (∀W,BW H W->CA W q 1 (.slice (some (AD ib io)) il ic)/\CA W q 2 (.slice (some (AD b o)) n nc)/\CA W (q+1) 0 (.slice sa ns cs)/\CA W (q+1) 1 (.slice la np cp)/\CA W ib (io+i) (IV j)/\CA W b (o+j*4) (UV ((A.aw j).ak:Int))/\CA W b (o+j*4+1) (UV ((A.aw j).aD:Int))/\CA W b (o+j*4+2) (UV ((A.aw j).aT:Int))/\CA W b (o+j*4+3) (.slice ta U tc)):=λW hW=>⟨(E.o W hW).cells.2.1,(E.o W hW).cells.2.2,(ah.o W hW).1,(ah.o W hW).2,(hW.cell (Nr H _ bP)).trans bP,(aJ W hW).1⟩;have hS:=M.o wr P.o;have cj:=hS.2.2.2.2.1;have an:=Nq (bx.o wr.drew 0 P.o.drew (by omega));have ao:Hid (∀u:WD,CL 29 #[.agg #[UV ((A.aw j).ak:Int),UV ((A.aw j).aD:Int),UV ((A.aw j).aT:Int),.slice ta U tc],UV ((cJ l d 0:Nat):Int)] u λe J=>e=RT (.bool (iB A l d j 0))/\BW u J):=λu=>bK.o u j 0 ta U tc cM;obtain ⟨JJ,bc⟩:=EX (j*L);have dD:JJ<=65536:=by rw [<-bc];exact N5 (QW (by omega:j<=256) bd) (by decide)
   have y2:IntKind.i64.wrap ((j:Int)*(L:Int))=(JJ:Int):=by
    have e:((j:Int)*(L:Int))=((j*L:Nat):Int):=by simp
    rw [e,bc,Pv];omega
   rw [bc]at aS;clear cK hj aJ bP bc;go_upto_region 28 with(fail);clear c0 c1 c2 cj;refine av 11 (S:=λW=>CA W q 1 (.slice (some (AD ib io)) il ic)/\CA W q 2 (.slice (some (AD b o)) n nc)/\CA W (q+1) 0 (.slice sa ns cs)/\CA W (q+1) 1 (.slice la np cp)/\CA W ib (io+i) (IV j)/\CA W b (o+j*4) (UV ((A.aw j).ak:Int))/\CA W b (o+j*4+1) (UV ((A.aw j).aD:Int))/\CA W b (o+j*4+2) (UV ((A.aw j).aT:Int))/\CA W b (o+j*4+3) (.slice ta U tc)) (by kernel_rfl) (hS) (λad=>?_);refine' az 0 ?_ [8,7,1,0];refine' az 1 ?_ [8,7,1];refine' az 2 ?_ [8,7,6,5,3,2];refine' az 3 ?_ [8,7,6,5,3];refine' az 4 ?_ [8,7,6,5,4];refine' az 5 ?_ [8,7,6,5];refine' az 6 ?_ [8,7,6];refine' az 7 ?_ [8,7];refine' az 8 ?_;refine' az 9 ?_ [10,9];clear ad hS;refine aI 10 λK R=>?_;rw [Oa (by rfl)];apply aY.o;refine aN (f:=30) an.o ?_ (λe w7 D=>?_)
   ·clear R;go_simp
   obtain ⟨rfl,aq⟩:=D;refine ⟨_,rfl,?_⟩;have ab:Hid (BW wr w7):=(Nx _ wr).drew.trans aq;have I:Hid (BW H w7):=aa P.o ab.o;clear aq;refine R.o _ _ (λ_=>M.o w7 I.o) ?_;clear R K;try walk_nrm
   refine aI 11 λK R=>?_;rw [Oa (by rfl)];apply aY.o;refine aN (f:=29) (ao.o w7) ?_ (λe w8 D=>?_)
   ·clear R;go_simp
   obtain ⟨rfl,ae⟩:=D;refine ⟨_,rfl,?_⟩;have ce:Hid (BW H w8):=aa I.o ae;have aO:Hid (aE .i64 3 ai w8 (.slice a m c) (aH (((A.aJ.take i).filter λx=>iB A l d x 0).map λx=>x*L))):=jK hm.o (aa ab.o ae);clear ae;refine R.o _ _ (λe=>nomatch e) ?_;clear R K;try walk_nrm
   refine ay (by kernel_rfl) ?_;clear an ao ab I;obtain ⟨wx,rfl⟩:∃wx:WD,wx=w8:=⟨_,rfl⟩;cases am:iB A l d j 0
   ·have HN:Hid (aE .i64 3 ai wx (.slice a m c) (aH (((A.aJ.take (i+1)).filter λx=>iB A l d x 0).map λx=>x*L))):=by rw [aS.o,Of (by rw [am];decide),Om];exact aO
    clear am hm aS aO M;go_wp2;go_roundw;exact ⟨i+1,a,m,c,by omega,by go_num,rfl,by omega,HN⟩;simp [intOf];omega
   ·have dj:Hid (aH (((A.aJ.take (i+1)).filter λx=>iB A l d x 0).map λx=>x*L)=aH (((A.aJ.take i).filter λx=>iB A l d x 0).map λx=>x*L)++[(JJ:Int)]):=by rw [aS.o,Oa am,je];exact Nq rfl
    have bR:=M.o wx ce.o;have c1:=bR.1;have cj:=bR.2.2.2.2.1;have b6:=eV aO.o;have HO:Hid (Sl wx 3 (.slice a m c) m ((aH (((A.aJ.take i).filter λx=>iB A l d x 0).map λx=>x*L)).map (Value.int .i64))):=by have:=aO.o.1;rw [b6]at this;exact this
    have dc:=Nq b6;clear am hm aS M bR b6;go_wp2_with (at_builtin;refine ax rfl (.tmp 148) (.tmp 156) 33 rfl 3 i3 (IV 0) 8 OE cG c7 cX aX rfl (by decide) (.slice a m c) _ _ rfl HO.o _ rfl rfl (by omega) ?_;intro g1 c9 w9 hs cR cU;have HS:=Nq (dA aO.o dc.o hs cR cU);clear hs cR cU);go_roundw;exact ⟨i+1,_,m+1,c9,by omega,by go_num,rfl,by omega,by rw [dj.o];exact HS⟩;simp [intOf];omega
  ·obtain rfl:i=il:=by omega
   have cS:¬(i:Int)<(i:Int):=by omega
   have be:N=A.ah.length*(l.length+d.length):=by rw [al.o,ac.o,a8.o]
   obtain ⟨F,hF⟩:=EX ((A.aJ.filter λx=>iB A l d x 0).map (λx=>x*L));have a7:Hid (aE .i64 3 ai wr (.slice a m c) (aH F)):=by have Q:=hm.o;rw [Oe (by rw [aM.o];exact Nz _),hF]at Q;exact Q
   have cv:F.length=m:=by have:=eV a7.o;rw [aC]at this;exact this
   have cg:Hid (∀y∈F,y<N):=λy hy=>by rw [<-hF]at hy;obtain ⟨j,Q,rfl⟩:=OC.1 hy;have h2:=cm.o j 0 (by have:=HA.o.aJ j (Og.1 Q).1;rw [al.o]at this;exact this) dl;exact h2
   have bS:=bN.o.af hm.o.2.1;have a2:∀z,z<N->(C z).length<=16777216:=λz X=>B.o.bC HA.o be (NS _) X;have cF:dS wr (some (AD g 0)) N (vz C N):=⟨fO C N,bS.ew.es.eB,B.o.inr HA.o aQ.o be,λz X=>by rw [fO]at X;rw [jV C X,NU];have:=a2 z X;omega,dm⟩
   obtain ⟨js,bh⟩:=EX ((List.range N).map (λz=>z/L));have bX:js.length=N:=by rw [<-bh,NU,OQ]
   have a1:∀z,z<N->js.getD z 0=z/L:=λz X=>by rw [<-bh,Nw,Oh,Pt X];rfl
   have au:aG .i64 wr (some (AD h 0)) N (aH js):=by
    refine ⟨by rw [aC,bX],.inr ⟨h,0,rfl,λz X=>?_⟩⟩;obtain ⟨a',c',e,hc⟩:=bS.LL.shape;cases e
    obtain ⟨h',e,-,h2⟩:=hc z X;cases e
    rw [Od,h2,cH (by rw [bX];exact X),a1 z X];simp [ee,X,Dp]
   have br:=Nq (ID wr A ia i ic na n nc (E.o wr P.o).Ao HA.o (some (AD g 0)) N N (vz C N) cF (λz X=>by rw [jV C X,NU];exact a2 z X) (some (AD h 0)) N js au (λx hx=>by rw [<-bh]at hx;obtain ⟨z,X,rfl⟩:=OC.1 hx;rw [al.o];exact RB (by rw [RJ,a8.o];exact Oq.1 X)))
   have bq:Hid (jR A (cJ l d)↔∃y∈F,rG (vz C N) (vN A js) A.sets y):=by
    have Q:=xX (B.o.along HA.o aQ.o bG.o be) (x4 HA.o) aQ.o;have cL:∀y,rG (vz C N) (vN A js) A.sets y↔rG (vz C N) (λs x=>(A.aw (x/(l.length+d.length))).aT.testBit s=true) A.sets y:=λy=>qi λs x hx=>by rw [fO]at hx;unfold vN;rw [a1 x hx,ac.o]
    refine Nq (Q.trans ⟨?_,?_⟩)
    ·rintro ⟨p,h2,h3,h4⟩;have b8:=HA.o.aJ p h2
     refine ⟨p*L,?_,?_⟩
     ·rw [<-hF];exact OC.2 ⟨p,Og.2 ⟨h2,(iK (HA.o.bits _ (dO b8)).1 (bG.o.lt 0 aQ.o)).2 h3⟩,rfl⟩
     ·rw [cL];rw [ac.o]at h4⊢
      exact h4
    ·rintro ⟨y,h2,h3⟩;rw [<-hF]at h2
     obtain ⟨p,h4,rfl⟩:=OC.1 h2;obtain ⟨h5,h6⟩:=Og.1 h4;have b8:=HA.o.aJ p h5;refine ⟨p,h5,(iK (HA.o.bits _ (dO b8)).1 (bG.o.lt 0 aQ.o)).1 h6,?_⟩;rw [cL]at h3;rw [ac.o]at h3⊢;exact h3
   obtain ⟨b0,b1,b2⟩:=ch.o wr hm.o.2.1;have bE:=Nq cv;clear be hF cv bS a2 cF bh bX a1 au hm B bN ch;go_upto_region 31 with(go_at_call 31;refine br.o.mono ?_;rintro e wz ⟨v,r,rfl,⟨rb,rfl,hs,hb,hl⟩,hr⟩;have bL:=Nq hs;have bB:=Nq hb;have cn:=Nq hr;clear hs hb hl hr);clear c0 c1 c2 b0 b1 b2 br;go_wp2;go_loopw [17] (λv wy=>∃i:Nat,i<=m/\v=IV i/\Hid (BW wz wy)/\Hid (∀y∈F.take i,r y=false)) (λv _=>m-(intOf v).toNat);exact ⟨0,NS _,rfl,Nq (Nx _ _),Nq (λy hy=>by cases hy)⟩;obtain ⟨x,hx,rfl,a0,a4⟩:=hrel;by_cases aA:x<m
   ·have c5:(x:Int)<(m:Int):=by omega
    obtain ⟨y,hy⟩:∃y,F[x]? =some y:=⟨_,Ny (by rw [bE.o];exact aA)⟩;have c6:=cg.o y (NI hy);have dy:(y:Int)<(N:Int):=by omega
    obtain ⟨-,h0|⟨fb,fo,rfl,cE⟩⟩:=(cN a7.o).af (aa bB.o a0.o)
    ·omega
    have cy:=cE x aA;rw [cH (by rw [bE.o];exact aA),Nw,hy]at cy;have dB:CA wr fb (fo+x) (IV y):=cy;obtain ⟨dJ,dK,e,cW⟩:=(kK bL.o).af a0.o;cases e
    have cr:=cW y c6;rw [Od]at cr;have HY:=Nq hy;clear cE cW hy cy;cases aL:r y
    ·rw [aL]at cr;have dh:Hid (∀z∈F.take (x+1),r z=false):=λz X=>by
      rw [OG,HY.o]at X;rcases NY.1 X with X|X
      ·exact a4.o z X
      ·rw [Nv.1 X];exact aL
     clear aL a4;go_wp2;go_roundw;exact ⟨x+1,by omega,by go_num,a0,dh⟩;simp [intOf];omega
    ·rw [aL]at cr;have HT:Hid (jR A (cJ l d)):=bq.o.2 ⟨y,NI HY.o,(cn.o y c6).1 aL⟩
     clear aL a4;go_wp2;(try simp only [Exit.inBlock,Exit.then]);go_ret;exact ⟨true,rfl,⟨λ_=>HT.o,λ_=>rfl⟩,aa cc.o (aa P.o (aa bB.o a0.o))⟩
   ·obtain rfl:x=m:=by omega
    have c5:¬(x:Int)<(x:Int):=by omega
    have HT:Hid (¬jR A (cJ l d)):=λh=>by obtain ⟨y,Q,h2⟩:=bq.o.1 h;have h3:=a4.o y (by rw [Oe (by rw [bE.o];exact Nz _)];exact Q);rw [(cn.o y (cg.o y Q)).2 h2]at h3;cases h3
    clear a4;go_wp2;go_ret;exact ⟨false,rfl,⟨λh=>(by cases h),λh=>absurd h HT.o⟩,aa cc.o (aa P.o (aa bB.o a0.o))⟩
def C8(a:Int)(w:WD):CL 37 #[IV a] w λe g=>e=RT (IV (tk a))/\g=w:=by
 by_cases h:a=1\/a=2\/a=3\/a=4\/a=5\/a=6\/a=7\/a=8\/a=9\/a=10\/a=11\/a=12
 ·rcases h with rfl|rfl|rfl|rfl|rfl|rfl|rfl|rfl|rfl|rfl|rfl|rfl;all_goals
   go_enter Tryz.func37,Tryz.ntmps37
   go_wp2
   go_ret
   exact ⟨rfl,rfl⟩
 ·have i:(a==1)=false:=NC.2 (by omega);have j:(a==2)=false:=NC.2 (by omega)
  have k:(a==3)=false:=NC.2 (by omega);have l:(a==4)=false:=NC.2 (by omega);have m:(a==5)=false:=NC.2 (by omega);have n:(a==6)=false:=NC.2 (by omega);have o:(a==7)=false:=NC.2 (by omega);have p:(a==8)=false:=NC.2 (by omega);have q:(a==9)=false:=NC.2 (by omega);have b:(a==10)=false:=NC.2 (by omega);have c:(a==11)=false:=NC.2 (by omega);have d:(a==12)=false:=NC.2 (by omega);have f:Hid (tk a=-1):=by show _=_;unfold tk;rw [Of (by omega),Of (by omega),Of (by omega)]
  clear h;go_enter Tryz.func37,Tryz.ntmps37;go_wp2;go_ret;exact ⟨by rw [f.o];rfl,rfl⟩
def MS(n:Nat)(w:WD)(e:Ending)(b:WD):Prop:=∃a:Int,e=RT (IV a)/\b=w/\(a=0->0<n)
def GK(n:Nat)(w:WD)(e:Ending)(b:WD):Prop:=∃a:Int,e=RT (IV a)/\b=w/\(a=0->0<n/\n<=24)
def C9(a:OA)(n c:Nat)(F:List (Int×Int))(w:WD)(hF:bB w a n F)(P:n<=1000):
 CL 15 #[.slice a n c] w (MS n w):=by
 have u:=λl (w:WD)=>Nq (C8 l w)
 rcases OT n with g|g
 ·subst g;go_enter Tryz.func15,Tryz.ntmps15
  go_wp2;go_ret;exact ⟨_,rfl,rfl,λh=>absurd h (by decide)⟩
 ·obtain ⟨b,f,rfl,v⟩:∃b f,a=some (AD b f)/\∀i,i<n->CA w b (f+i*2) (IV (F.getD i (0,0)).1)/\CA w b (f+i*2+1) (IV (F.getD i (0,0)).2):=hF.2.resolve_left (by omega);have y:=Nq v
  have E:((n:Int)==0)=false:=NC.2 (by omega);have G:(n==0)=false:=NC.2 (by omega);clear hF v;go_enter Tryz.func15,Tryz.ntmps15;go_upto_region 5 with(fail);go_loopw [3,4] (λH s wr=>∃(d i:Nat),H=IV d/\s=IV i/\d<=i/\i<=n/\wr=w) (λ_ s _=>n-(intOf s).toNat);exact ⟨0,0,rfl,rfl,Nz _,NS _,rfl⟩;obtain ⟨d,i,rfl,rfl,A,C,rfl⟩:=hrel;by_cases B:i<n
  ·have r:(i:Int)<(n:Int):=by omega
   obtain ⟨I,J⟩:=y.o i B;generalize (F.getD i (0,0)).1=l at *;generalize (F.getD i (0,0)).2=N at *;have m:=u l wr;obtain ⟨t,j⟩:=EX (tk l);rw [j]at m;by_cases K:t<0
   ·go_wp2_with (go_at_call 37;refine m.o.mono ?_;rintro e x ⟨rfl,rfl⟩);(try simp only [Exit.inBlock,Exit.then])
    go_ret;exact ⟨_,rfl,rfl,λ_=>g⟩
   ·obtain ⟨k,rfl⟩:∃k:Nat,t=(k:Int):=⟨t.toNat,by omega⟩;have D:k<=2:=by
     unfold tk at j;split at j
     ·omega
     ·split at j
      ·omega
      ·split at j<;>omega
    clear j;by_cases L:d<k
    ·have o:(d:Int)<(k:Int):=by omega
     go_wp2_with (go_at_call 37;refine m.o.mono ?_;rintro e x ⟨rfl,rfl⟩);(try simp only [Exit.inBlock,Exit.then]);go_ret;exact ⟨_,rfl,rfl,λ_=>g⟩
    ·have o:¬(d:Int)<(k:Int):=by omega
     go_upto_region 12 with(go_at_call 37;refine m.o.mono ?_;rintro e x ⟨rfl,rfl⟩);clear m u;by_cases p:l=3
     ·subst p;by_cases M:N<0
      ·go_wp2;(try simp only [Exit.inBlock,Exit.then])
       go_ret;exact ⟨_,rfl,rfl,λ_=>g⟩
      ·by_cases O:8<=N
       ·go_wp2;(try simp only [Exit.inBlock,Exit.then])
        go_ret;exact ⟨_,rfl,rfl,λ_=>g⟩
       ·go_wp2;go_roundw
        exact ⟨d-k+1,i+1,by go_num,by go_num,by omega,by omega,by trivial⟩;simp [intOf];omega
     ·have z:(l==3)=false:=NC.2 p;go_wp2
      go_roundw;exact ⟨d-k+1,i+1,by go_num,by go_num,by omega,by omega,by trivial⟩;simp [intOf];omega
  ·obtain rfl:i=n:=by omega
   have r:¬(i:Int)<(i:Int):=by omega
   by_cases p:1<d
   ·have q:(1:Int)<(d:Int):=by omega
    go_wp2;(try simp only [Exit.inBlock,Exit.then]);go_ret;exact ⟨_,rfl,rfl,λ_=>g⟩
   ·have q:¬(1:Int)<(d:Int):=by omega
    go_wp2;(try simp only [Exit.inBlock,Exit.then]);go_ret;exact ⟨_,rfl,rfl,λ_=>g⟩
def rA(a:OA)(n c:Nat)(F:List (Int×Int))(w:WD)(hF:bB w a n F)(j:n<=4611686018427387903):
 CL 6 #[.slice a n c] w (GK n w):=by
 by_cases h:24<n
 ·have i:(24:Int)<(n:Int):=by omega
  go_enter Tryz.func6,Tryz.ntmps6;go_wp2;go_ret;exact ⟨5,rfl,rfl,λh=>absurd h (by decide)⟩
 ·have i:¬(24:Int)<(n:Int):=by omega
  have b:=Nq (C9 a n c F w hF (by omega));clear hF;go_enter Tryz.func6,Tryz.ntmps6;go_wp2_with (go_at_call 15;refine b.o.mono ?_;rintro e k ⟨d,rfl,rfl,g⟩);go_ret;exact ⟨d,rfl,rfl,λf=>⟨g f,by omega⟩⟩
def JZ{F G:List (Int×Int)}{f g k:Fm}(a:jr F f)(b:jr G g)(c:jr (F++G++[(5,0)]) k):k=Fm.and f g:=by refine Fm.uK (c.1.symm.trans ?_);rw [Oy,Oy,a.1,b.1,Ov];show _=List.map Fm.aO (Fm.aQ f++(Fm.aQ g++[Fm.and f g]));rw [Oy,Oy];rfl
def Kb{F G:List (Int×Int)}{f g k:Fm}{A B C:Au}(d:jr F f)(e:jr G g)(h:jr (F++G++[(5,0)]) k)(a:∀u,jR A u↔¬Fm.dI u f 0)(b:∀u,jR B u↔¬Fm.dI u g 0)(c:∀u,jR C u↔¬Fm.dI u k 0)(u:Nat->Nat):jR C u↔(jR A u\/jR B u):=by rw [a,b,c,JZ d e h];show¬(Fm.dI u f 0/\Fm.dI u g 0)↔_;exact Classical.not_and_iff_not_or_not
def A7(w:WD)(a:OA)(n c:Nat)(F:List (Int×Int))(b:OA)(m d:Nat)(G:List (Int×Int))(sa:OA)(M cs:Nat)(la:OA)(L cp:Nat)(st lp:List Nat)(hF:bB w a n F)(hn:n<=4611686018427387903)(hG:bB w b m G)(hm:m<=4611686018427387903)(bY:aG .u64 w sa M (aH st))(bX:aG .u64 w la L (aH lp))(hL:gV st lp)(cb:M<=4611686018427387903)(ca:L<=4611686018427387903)(bk:eG w):
 CL 3 #[.slice a n c,.slice b m d,.agg #[.slice sa M cs,.slice la L cp]] w λe O=>e=RT (.bool true)/\BW w O:=by
 obtain ⟨q,hq⟩:=EX w.heap.size
 obtain ⟨s,bn⟩:=EX (w.alloc (.cells #[.slice sa M cs,.slice la L cp] 25))
 have N:BW w s:=bn▸ag _ _
 have bl:s.heap[q]? =some (.cells #[.slice sa M cs,.slice la L cp] 25 (0,0)):=by rw [<-bn,<-hq];exact (ND w _).1
 have aR:Hid (∀O:WD,BW s O->O.cell? (AD q 0)=some (.slice sa M cs)/\O.cell? (AD q 1)=some (.slice la L cp)):=λO t=>by have h3:=(t.block q (Nu.1 bl).1).trans bl;exact ⟨CH h3,CH h3⟩
 have E:Hid (∀W:WD,BW s W->CL 7 #[] W λe O=>e=RT (.bool true)/\BW W O):=λW hW=>by refine (EN W ((bk.af N).af hW)).mono ?_;rintro e O ⟨rfl,t⟩;exact ⟨rfl,t⟩
 obtain ⟨k,hk⟩:=EX (dM M L)
 have aZ:Hid (∀W:WD,BW s W->CL 5 #[.agg #[.slice sa M cs,.slice la L cp]] W λe O=>e=RT (IV k)/\BW s O):=λW hW=>by refine (wI sa M cs la L cp W cb ca).mono ?_;rintro e O ⟨rfl,t⟩;exact ⟨by rw [hk],aa hW t⟩
 have bp:Hid (∀W:WD,BW s W->CL 6 #[.slice a n c] W (GK n W)):=λW hW=>rA a n c F W ((hF.af N).af hW) hn
 have bq:Hid (∀W:WD,BW s W->CL 6 #[.slice b m d] W (GK m W)):=λW hW=>rA b m d G W ((hG.af N).af hW) hm
 have a3:=Nq (hF.af N)
 have a4:=Nq (hG.af N)
 have bc:=Nq (bY.af N)
 have a8:=Nq (bX.af N)
 have a9:=Nq hL
 have bd:=Nq (bk.af N)
 have D:=Nq N
 have b8:=Nq hk
 have aJ:Hid (BW s s):=Nx _ _
 obtain ⟨c0,c1⟩:=aR.o s aJ.o
 clear hF hG bY bX hL bk N bl hn hm hk
 go_enter Tryz.func3,Tryz.ntmps3
 go_upto_region 1 with(fail)
 clear bn hq
 by_cases t0:(24:Int)<wrap64 (wrap64 ((n:Int)+(m:Int))+2)
 ·go_wp2_with (go_at_call 7;refine (E.o s aJ.o).mono ?_;rintro e w2 ⟨rfl,z⟩;have o:=Nq z;clear z);go_ret
  exact ⟨rfl,aa D.o o.o⟩
 by_cases t1:10<M
 ·have cc:(10:Int)<(M:Int):=by omega
  go_wp2_with (go_at_call 7;refine (E.o s aJ.o).mono ?_;rintro e w2 ⟨rfl,z⟩;have o:=Nq z;clear z);go_ret;exact ⟨rfl,aa D.o o.o⟩
 have cc:¬(10:Int)<(M:Int):=by omega
 by_cases t2:10<L
 ·have cd:(10:Int)<(L:Int):=by omega
  go_wp2_with (go_at_call 7;refine (E.o s aJ.o).mono ?_;rintro e w2 ⟨rfl,z⟩;have o:=Nq z;clear z);go_ret;exact ⟨rfl,aa D.o o.o⟩
 have cd:¬(10:Int)<(L:Int):=by omega
 by_cases t3:k=0
 ·subst t3;go_upto_region 3 with(go_at_call 5;refine (aZ.o s aJ.o).mono ?_;rintro e w2 ⟨rfl,z⟩;have o:=Nq z;clear z;obtain ⟨d0,d1⟩:=aR.o w2 o.o)
  refine (bp.o w2 o.o).mono ?_;rintro e w3 ⟨er,rfl,rfl,he⟩;rename_i l;refine l _ _ ?_;clear l;by_cases bT:er=0
  ·subst bT;have HE:=Nq (he rfl)
   clear he;go_upto_region 3 with(fail);refine (bq.o w3 o.o).mono ?_;rintro e w4 ⟨eg,rfl,rfl,he⟩;rename_i l;refine l _ _ ?_;clear l;by_cases bS:eg=0
   ·subst bS;have bs:=Nq (he rfl)
    clear he;have ck:=HE.o.2;have cj:=bs.o.2;obtain ⟨ab,ao,rfl,-⟩:=a3.o.2.resolve_left (by have:=HE.o.1;omega);obtain ⟨bb,bo,rfl,-⟩:=a4.o.2.resolve_left (by have:=bs.o.1;omega);have aP:0<L:=Nat.pos_of_ne_zero (λh=>by have:=b8.o;unfold dM at this;rw [Oa h]at this;cases this)
    go_upto_region 3 with(fail);have br:=Nq (vv (some (AD ab ao)) n c F w4 (a3.o.af o.o) (λh=>by cases h) (by omega));clear d0 d1 c0 c1 aZ bp bq;go_upto_region 4 with(first
     |(go_at_call 8;refine br.o.mono ?_;rintro e w5 ⟨a5,c5,rfl,hm⟩;have bx:=Nq hm;have bt:=Nq (a4.o.af (aa o.o hm.aM));clear hm)
     |(at_builtin;refine gn rfl (.tmp 50) (.tmp 51) rfl _ n F rfl bx.o (AD bb bo) m d G rfl bt.o (by omega) ?_;intro a6 c6 w6 hm hk hv;have bz:=Nq hm;clear hm hk hv)
     |(at_builtin;refine gn rfl (.tmp 52) (.tmp 54) rfl _ (n+m) (F++G) rfl (bz.o.alloc _) (AD w6.heap.size 0) 1 1 [(5,0)] rfl (bN.xF w6 5 0) (by omega) ?_;intro a7 c7 w7 hm hk hv;have ba:=Nq hm;clear hm hk hv))
    have aX:Hid (BW s w7):=aa o.o ba.o.aM;have bu:=Nq (ba.o.ah);clear br bx bt bz ba;have bA:=Nq (nG w7 (some (AD ab ao)) n c F true (a3.o.af aX.o) (by omega) (bd.o.af aX.o));go_upto_region 5 with(go_at_call 9;refine bA.o.mono ?_;rintro e P ⟨aA,sA,Q,Y,U,ad,al,ai,bH,rfl,h0,-⟩;have I:=Nq aA;have bE:=Nq h0;clear aA h0);clear bA;obtain ⟨qA,hq⟩:=EX P.heap.size;obtain ⟨wA,hw⟩:=EX (P.alloc (.cells #[IV sA,.slice Q Y U,.slice ad al ai] 36));have bg:Hid (BW P wA):=hw▸ag _ _;have b5:Hid (∀W:WD,BW wA W->W.cell? (AD qA 0)=some (IV sA)/\W.cell? (AD qA 1)=some (.slice Q Y U)/\W.cell? (AD qA 2)=some (.slice ad al ai)):=λW h=>by
     have h1:wA.heap[qA]? =some (.cells #[IV sA,.slice Q Y U,.slice ad al ai] 36 (0,0)):=by rw [<-hw,<-hq];exact (ND P _).1
     have h2:=(h.block qA (Nu.1 h1).1).trans h1;rw [Nt h2,Nt h2,Nt h2];exact ⟨rfl,rfl,rfl⟩
    rw [hw,hq];have aL:Hid (BW s wA):=aa aX.o (aa I.o bg.o);have bv:=Nq (bu.o.af (aa I.o bg.o));clear bu;clear hw hq I;obtain ⟨cm,rfl⟩:∃x:WD,x=P:=⟨_,rfl⟩;have bC:=Nq (nG wA (some (AD bb bo)) m d G true (a4.o.af aL.o) (by omega) (bd.o.af aL.o));go_upto_region 6 with(go_at_call 9;refine bC.o.mono ?_;rintro e P ⟨aA,sB,R,Z,V,ae,am,aj,bI,rfl,h0,-⟩;have I:=Nq aA;have bF:=Nq h0;clear aA h0);clear bC;obtain ⟨qB,hq⟩:=EX P.heap.size;obtain ⟨wB,hw⟩:=EX (P.alloc (.cells #[IV sB,.slice R Z V,.slice ae am aj] 36));have bh:Hid (BW P wB):=hw▸ag _ _;have b6:Hid (∀W:WD,BW wB W->W.cell? (AD qB 0)=some (IV sB)/\W.cell? (AD qB 1)=some (.slice R Z V)/\W.cell? (AD qB 2)=some (.slice ae am aj)):=λW h=>by
     have h1:wB.heap[qB]? =some (.cells #[IV sB,.slice R Z V,.slice ae am aj] 36 (0,0)):=by rw [<-hw,<-hq];exact (ND P _).1
     have h2:=(h.block qB (Nu.1 h1).1).trans h1;rw [Nt h2,Nt h2,Nt h2];exact ⟨rfl,rfl,rfl⟩
    rw [hw,hq];have aV:Hid (BW s wB):=aa aL.o (aa I.o bh.o);have aW:Hid (BW wA wB):=aa I.o bh.o;have bw:=Nq (bv.o.af aW.o);clear bv;clear hw hq I;obtain ⟨cn,rfl⟩:∃x:WD,x=P:=⟨_,rfl⟩;have bD:=Nq (nG wB a7 (n+m+1) c7 (F++G++[(5,0)]) false bw.o (by omega) (bd.o.af aV.o));go_upto_region 7 with(go_at_call 9;refine bD.o.mono ?_;rintro e P ⟨aA,sC,T,ac,X,ah,an,ak,bJ,rfl,h0,-⟩;have I:=Nq aA;have bG:=Nq h0;clear aA h0);clear bD;obtain ⟨qC,hq⟩:=EX P.heap.size;obtain ⟨r,hw⟩:=EX (P.alloc (.cells #[IV sC,.slice T ac X,.slice ah an ak] 36));have bi:Hid (BW P r):=hw▸ag _ _;have b7:Hid (∀W:WD,BW r W->W.cell? (AD qC 0)=some (IV sC)/\W.cell? (AD qC 1)=some (.slice T ac X)/\W.cell? (AD qC 2)=some (.slice ah an ak)):=λW h=>by
     have h1:r.heap[qC]? =some (.cells #[IV sC,.slice T ac X,.slice ah an ak] 36 (0,0)):=by rw [<-hw,<-hq];exact (ND P _).1
     have h2:=(h.block qC (Nu.1 h1).1).trans h1;rw [Nt h2,Nt h2,Nt h2];exact ⟨rfl,rfl,rfl⟩
    rw [hw,hq];have j:Hid (BW s r):=aa aV.o (aa I.o bi.o);have aQ:Hid (BW wB r):=aa I.o bi.o;clear bw;clear hw hq I;obtain ⟨co,rfl⟩:∃x:WD,x=P:=⟨_,rfl⟩;by_cases aT:bH=0
    ·by_cases bm:bI=0
     ·by_cases bR:bJ=0
      ·subst aT bm bR;go_upto_region 9 with(fail)
       obtain ⟨A,f,rfl,bZ,bO,bU,-,bK⟩:=bE.o rfl;obtain ⟨B,g,rfl,b3,bP,bV,-,bL⟩:=bF.o rfl;obtain ⟨C,k,rfl,b4,bQ,bW,-,bM⟩:=bG.o rfl;obtain ⟨vA,hA⟩:∃v:Bool,v=true↔jR A (cJ st lp):=by
        by_cases h:jR A (cJ st lp)
        ·exact ⟨true,λ_=>h,λ_=>rfl⟩
        ·exact ⟨false,λh=>(by cases h),λh'=>absurd h' h⟩
       obtain ⟨vB,hB⟩:∃v:Bool,v=true↔jR B (cJ st lp):=by
        by_cases h:jR B (cJ st lp)
        ·exact ⟨true,λ_=>h,λ_=>rfl⟩
        ·exact ⟨false,λh=>(by cases h),λh'=>absurd h' h⟩
       obtain ⟨vC,aU⟩:∃v:Bool,v=(vA||vB):=⟨_,rfl⟩;have hC:vC=true↔jR C (cJ st lp):=by rw [aU,Kb bU bV bW bK bL bM,<-hA,<-hB,Py]
       have aS:∀{v v':Bool}{p:Prop},(v=true↔p)->(v'=true↔p)->v=v':=λh h'=>Bool.eq_iff_iff.2 (h.trans h'.symm);have b9:Hid (∀W:WD,BW s W->BW r W->CL 10 #[.agg #[IV C.sets,.slice T ac X,.slice ah an ak],.agg #[.slice sa M cs,.slice la L cp]] W λe O=>e=RT (.bool vC)/\BW W O):=λW h1 h2=>
        (BC W C T ac X ah an ak (b4.af (aa bi.o h2)) bQ sa M cs la L cp st lp (bc.o.af h1) (a8.o.af h1) a9.o aP (by omega)).mono (by rintro e O ⟨v,rfl,h3,h4⟩;exact ⟨by rw [aS h3 hC],h4⟩)
       have be:Hid (∀W:WD,BW s W->BW r W->CL 11 #[.agg #[IV A.sets,.slice Q Y U,.slice ad al ai],.agg #[.slice sa M cs,.slice la L cp]] W λe O=>e=RT (.bool vA)/\BW W O):=λW h1 h2=>
        (yA W A Q Y U ad al ai (bZ.af (aa bg.o (aa aW.o (aa aQ.o h2)))) bO sa M cs la L cp st lp (bc.o.af h1) (a8.o.af h1) a9.o aP (by omega)).mono (by rintro e O ⟨v,rfl,h3,h4⟩;exact ⟨by rw [aS h3 hA],h4⟩)
       have bf:Hid (∀W:WD,BW s W->BW r W->CL 11 #[.agg #[IV B.sets,.slice R Z V,.slice ae am aj],.agg #[.slice sa M cs,.slice la L cp]] W λe O=>e=RT (.bool vB)/\BW W O):=λW h1 h2=>
        (yA W B R Z V ae am aj (b3.af (aa bh.o (aa aQ.o h2))) bP sa M cs la L cp st lp (bc.o.af h1) (a8.o.af h1) a9.o aP (by omega)).mono (by rintro e O ⟨v,rfl,h3,h4⟩;exact ⟨by rw [aS h3 hB],h4⟩)
       have H:Hid (∀W:WD,BW r W->W.cell? (AD q 0)=some (.slice sa M cs)/\W.cell? (AD q 1)=some (.slice la L cp)/\W.cell? (AD qA 0)=some (IV A.sets)/\W.cell? (AD qA 1)=some (.slice Q Y U)/\W.cell? (AD qA 2)=some (.slice ad al ai)/\W.cell? (AD qB 0)=some (IV B.sets)/\W.cell? (AD qB 1)=some (.slice R Z V)/\W.cell? (AD qB 2)=some (.slice ae am aj)/\W.cell? (AD qC 0)=some (IV C.sets)/\W.cell? (AD qC 1)=some (.slice T ac X)/\W.cell? (AD qC 2)=some (.slice ah an ak)):=λW h=>by obtain ⟨a0,a1,a2⟩:=b5.o W (aa aW.o (aa aQ.o h));obtain ⟨b0,b1,b2⟩:=b6.o W (aa aQ.o h);obtain ⟨g0,g1,g2⟩:=b7.o W h;obtain ⟨d0,d1⟩:=aR.o W (aa j.o h);exact ⟨d0,d1,a0,a1,a2,b0,b1,b2,g0,g1,g2⟩
       have ar:Hid (BW r r.drew):=(Nx _ _).drew;have hS:=H.o r (Nx _ _);have aE:=Nq (b9.o r.drew (aa j.o ar.o) ar.o);clear bZ b3 b4 hA hB hC aS bK bL bM bU bV bW bO bP bQ bE bF bG;cases vA with
       |true=>
        obtain rfl:vC=true:=aU;refine av 15 (S:=λW=>W.cell? (AD q 0)=some (.slice sa M cs)/\W.cell? (AD q 1)=some (.slice la L cp)/\W.cell? (AD qA 0)=some (IV A.sets)/\W.cell? (AD qA 1)=some (.slice Q Y U)/\W.cell? (AD qA 2)=some (.slice ad al ai)/\W.cell? (AD qB 0)=some (IV B.sets)/\W.cell? (AD qB 1)=some (.slice R Z V)/\W.cell? (AD qB 2)=some (.slice ae am aj)/\W.cell? (AD qC 0)=some (IV C.sets)/\W.cell? (AD qC 1)=some (.slice T ac X)/\W.cell? (AD qC 2)=some (.slice ah an ak)) (by kernel_rfl) (hS) (λJ=>?_);refine' az 0 ?_;refine' az 1 ?_;refine' az 3 ?_;refine' az 4 ?_;clear J hS;refine aI 2 λK l=>?_;rw [Oa (by rfl)];apply aY.o;refine aN (f:=10) aE.o ?_ (λe v2 i=>?_)
        ·clear l;go_simp
        obtain ⟨rfl,t⟩:=i;refine ⟨_,rfl,?_⟩;have u:Hid (BW r v2):=aa ar.o t;have au:=H.o v2 u.o;have aq:=Nq (be.o v2 (aa j.o u.o) u.o);clear t aE ar;refine l.o _ _ (λ_=>au) ?_;clear l K;try walk_nrm
        refine aI 5 λK l=>?_;rw [Oa (by rfl)];apply aY.o;refine aN (f:=11) aq.o ?_ (λe v5 i=>?_)
        ·clear l;go_simp
        obtain ⟨rfl,t⟩:=i;refine ⟨_,rfl,?_⟩;have y:Hid (BW r v5):=aa u.o t;have aD:=H.o v5 y.o;have aF:=Nq (bf.o v5 (aa j.o y.o) y.o);clear t aq u au;refine l.o _ _ (λ_=>aD) ?_;clear l K;try walk_nrm
        refine' az 6 ?_;refine' jC 7 ?_;refine' jC 8 ?_;refine' jC 9 ?_;refine' az 10 ?_;refine' az 11 ?_;refine' az 12 ?_;have aO:=Nq (E.o v5 (aa j.o y.o));refine aI 13 λK l=>?_;rw [Oa (by rfl)];apply aY.o;refine aN (f:=7) aO.o ?_ (λe vx i=>?_)
        ·clear l;go_simp
        obtain ⟨rfl,t⟩:=i;refine ⟨_,rfl,?_⟩;have ap:=Nq (aa y.o t);have aw:=H.o vx ap.o;clear t;refine l.o _ _ (λ_=>aw) ?_;clear l K;try walk_nrm
        refine' az 14 ?_;clear aw;refine aI 15 λK l=>?_;go_simp;refine l.o _ _ (λe=>nomatch e) ?_;clear l K;try walk_nrm
        refine ay (by kernel_rfl) ?_;go_wp2;go_ret;exact ⟨rfl,aa (aa D.o j.o) ap.o⟩
       |false=>
        cases vB with
        |true=>
         obtain rfl:vC=true:=aU;refine av 15 (S:=λW=>W.cell? (AD q 0)=some (.slice sa M cs)/\W.cell? (AD q 1)=some (.slice la L cp)/\W.cell? (AD qA 0)=some (IV A.sets)/\W.cell? (AD qA 1)=some (.slice Q Y U)/\W.cell? (AD qA 2)=some (.slice ad al ai)/\W.cell? (AD qB 0)=some (IV B.sets)/\W.cell? (AD qB 1)=some (.slice R Z V)/\W.cell? (AD qB 2)=some (.slice ae am aj)/\W.cell? (AD qC 0)=some (IV C.sets)/\W.cell? (AD qC 1)=some (.slice T ac X)/\W.cell? (AD qC 2)=some (.slice ah an ak)) (by kernel_rfl) (hS) (λJ=>?_);refine' az 0 ?_;refine' az 1 ?_;refine' az 3 ?_;refine' az 4 ?_;clear J hS;refine aI 2 λK l=>?_;rw [Oa (by rfl)];apply aY.o;refine aN (f:=10) aE.o ?_ (λe v2 i=>?_)
         ·clear l;go_simp
         obtain ⟨rfl,t⟩:=i;refine ⟨_,rfl,?_⟩;have u:Hid (BW r v2):=aa ar.o t;have au:=H.o v2 u.o;have aq:=Nq (be.o v2 (aa j.o u.o) u.o);clear t aE ar;refine l.o _ _ (λ_=>au) ?_;clear l K;try walk_nrm
         refine aI 5 λK l=>?_;rw [Oa (by rfl)];apply aY.o;refine aN (f:=11) aq.o ?_ (λe v5 i=>?_)
         ·clear l;go_simp
         obtain ⟨rfl,t⟩:=i;refine ⟨_,rfl,?_⟩;have y:Hid (BW r v5):=aa u.o t;have aD:=H.o v5 y.o;have aF:=Nq (bf.o v5 (aa j.o y.o) y.o);clear t aq u au;refine l.o _ _ (λ_=>aD) ?_;clear l K;try walk_nrm
         refine' az 6 ?_;refine' az 7 ?_;refine' az 8 ?_;refine aI 9 λK l=>?_;rw [Oa (by rfl)];apply aY.o;refine aN (f:=11) aF.o ?_ (λe v9 i=>?_)
         ·clear l;go_simp
         obtain ⟨rfl,t⟩:=i;refine ⟨_,rfl,?_⟩;have aC:Hid (BW r v9):=aa y.o t;have bj:=H.o v9 aC.o;clear t aF y aD;refine l.o _ _ (λ_=>bj) ?_;clear l K;try walk_nrm
         refine' az 10 ?_;refine' az 11 ?_;refine' az 12 ?_;have aO:=Nq (E.o v9 (aa j.o aC.o));refine aI 13 λK l=>?_;rw [Oa (by rfl)];apply aY.o;refine aN (f:=7) aO.o ?_ (λe vx i=>?_)
         ·clear l;go_simp
         obtain ⟨rfl,t⟩:=i;refine ⟨_,rfl,?_⟩;have ap:=Nq (aa aC.o t);have aw:=H.o vx ap.o;clear t;refine l.o _ _ (λ_=>aw) ?_;clear l K;try walk_nrm
         refine' az 14 ?_;clear aw;refine aI 15 λK l=>?_;go_simp;refine l.o _ _ (λe=>nomatch e) ?_;clear l K;try walk_nrm
         refine ay (by kernel_rfl) ?_;go_wp2;go_ret;exact ⟨rfl,aa (aa D.o j.o) ap.o⟩
        |false=>
         obtain rfl:vC=false:=aU;refine av 15 (S:=λW=>W.cell? (AD q 0)=some (.slice sa M cs)/\W.cell? (AD q 1)=some (.slice la L cp)/\W.cell? (AD qA 0)=some (IV A.sets)/\W.cell? (AD qA 1)=some (.slice Q Y U)/\W.cell? (AD qA 2)=some (.slice ad al ai)/\W.cell? (AD qB 0)=some (IV B.sets)/\W.cell? (AD qB 1)=some (.slice R Z V)/\W.cell? (AD qB 2)=some (.slice ae am aj)/\W.cell? (AD qC 0)=some (IV C.sets)/\W.cell? (AD qC 1)=some (.slice T ac X)/\W.cell? (AD qC 2)=some (.slice ah an ak)) (by kernel_rfl) (hS) (λJ=>?_);refine' az 0 ?_;refine' az 1 ?_;refine' az 3 ?_;refine' az 4 ?_;clear J hS;refine aI 2 λK l=>?_;rw [Oa (by rfl)];apply aY.o;refine aN (f:=10) aE.o ?_ (λe v2 i=>?_)
         ·clear l;go_simp
         obtain ⟨rfl,t⟩:=i;refine ⟨_,rfl,?_⟩;have u:Hid (BW r v2):=aa ar.o t;have au:=H.o v2 u.o;have aq:=Nq (be.o v2 (aa j.o u.o) u.o);clear t aE ar;refine l.o _ _ (λ_=>au) ?_;clear l K;try walk_nrm
         refine aI 5 λK l=>?_;rw [Oa (by rfl)];apply aY.o;refine aN (f:=11) aq.o ?_ (λe v5 i=>?_)
         ·clear l;go_simp
         obtain ⟨rfl,t⟩:=i;refine ⟨_,rfl,?_⟩;have y:Hid (BW r v5):=aa u.o t;have aD:=H.o v5 y.o;have aF:=Nq (bf.o v5 (aa j.o y.o) y.o);clear t aq u au;refine l.o _ _ (λ_=>aD) ?_;clear l K;try walk_nrm
         refine' az 6 ?_;refine' az 7 ?_;refine' az 8 ?_;refine aI 9 λK l=>?_;rw [Oa (by rfl)];apply aY.o;refine aN (f:=11) aF.o ?_ (λe v9 i=>?_)
         ·clear l;go_simp
         obtain ⟨rfl,t⟩:=i;refine ⟨_,rfl,?_⟩;have aC:Hid (BW r v9):=aa y.o t;have bj:=H.o v9 aC.o;clear t aF y aD;refine l.o _ _ (λ_=>bj) ?_;clear l K;try walk_nrm
         refine' az 10 ?_;refine' az 11 ?_;refine' az 12 ?_;have aO:=Nq (E.o v9 (aa j.o aC.o));refine aI 13 λK l=>?_;rw [Oa (by rfl)];apply aY.o;refine aN (f:=7) aO.o ?_ (λe vx i=>?_)
         ·clear l;go_simp
         obtain ⟨rfl,t⟩:=i;refine ⟨_,rfl,?_⟩;have ap:=Nq (aa aC.o t);have aw:=H.o vx ap.o;clear t;refine l.o _ _ (λ_=>aw) ?_;clear l K;try walk_nrm
         refine' az 14 ?_;clear aw;refine aI 15 λK l=>?_;go_simp;refine l.o _ _ (λe=>nomatch e) ?_;clear l K;try walk_nrm
         refine ay (by kernel_rfl) ?_;go_wp2;go_ret;exact ⟨rfl,aa (aa D.o j.o) ap.o⟩
      ·have cg:(bJ==0)=false:=NC.2 bR;subst aT bm
       (go_wp2_with (go_at_call 7;refine (E.o r j.o).mono ?_;rintro e wz ⟨rfl,aB⟩;have aM:=Nq (aa j.o aB);clear aB);go_ret;exact ⟨rfl,aa D.o aM.o⟩)
     ·have cf:(bI==0)=false:=NC.2 bm;subst aT
      (go_wp2_with (go_at_call 7;refine (E.o r j.o).mono ?_;rintro e wz ⟨rfl,aB⟩;have aM:=Nq (aa j.o aB);clear aB);go_ret;exact ⟨rfl,aa D.o aM.o⟩)
    ·have ce:(bH==0)=false:=NC.2 aT;(go_wp2_with (go_at_call 7;refine (E.o r j.o).mono ?_;rintro e wz ⟨rfl,aB⟩;have aM:=Nq (aa j.o aB);clear aB);go_ret;exact ⟨rfl,aa D.o aM.o⟩)
   ·have ch:(eg==0)=false:=NC.2 bS;go_wp2_with (go_at_call 7;refine (E.o w4 o.o).mono ?_;rintro e w5 ⟨rfl,ax⟩;have aK:=Nq (aa o.o ax);clear ax)
    go_ret;exact ⟨rfl,aa D.o aK.o⟩
  ·have ci:(er==0)=false:=NC.2 bT;go_wp2_with (go_at_call 7;refine (E.o w3 o.o).mono ?_;rintro e w4 ⟨rfl,ax⟩;have aK:=Nq (aa o.o ax);clear ax)
   go_ret;exact ⟨rfl,aa D.o aK.o⟩
 ·have cl:(k==0)=false:=NC.2 t3;go_wp2_with (first
   |(go_at_call 5;refine (aZ.o s aJ.o).mono ?_;rintro e w2 ⟨rfl,z⟩;have o:=Nq z;clear z;obtain ⟨d0,d1⟩:=aR.o w2 o.o)
   |(go_at_call 7;refine (E.o w2 o.o).mono ?_;rintro e w3 ⟨rfl,ax⟩;have aK:=Nq (aa o.o ax);clear ax))
  go_ret;exact ⟨rfl,aa D.o aK.o⟩
end Go.Proofs.YtimniinkpipnmaaGreatDoor
namespace Go.Own
open Go.RowKit Go.ChangeShapes Go.WideShapes Go.ChangeAt Go.Deep
section
section
variable {H:Type} {enc:TypeId×Value->H} {P:Program} {w:WD} {base:Nat} {spare:Nat->Bool} {held:Bool}
def EZ{t:TypeId}{d:Array Field}{a:Nat}{i:List Value}{x:DataW H×List MemPlace}(r:P.underlying t=some (.struct d))(b:oneCellFields P d=true)(h:DataW.trod enc P w base spare held a t i=some x):
 ∃n,∀(j:Nat)(f:Field)(c:Value),d[j]? =some f->i[j]? =some c->∃y,DataW.trod enc P w base spare held n f.type [c]=some y:=by
 obtain ⟨u,n,_,_,_,s,m⟩:=DataW.trod_struct r h
 refine ⟨n,λj f c e l=>?_⟩
 obtain ⟨q,p⟩:=hone_of b j f e
 have k:=m j f e
 obtain ⟨g,rfl⟩:=List.getElem?_eq_some_iff.1 l
 have o:j<d.size:=(Nu.1 e).1
 rw [q,p,List.drop_eq_getElem_cons g,List.take_succ_cons,List.take_zero]at k
 exact ⟨u[j]'(by omega),by rw [k];exact List.getElem?_eq_getElem (by omega)⟩
def z8{t e:TypeId}{v:Array Field}{a:OA}{g o:Nat}{d:DataW H}{p:List MemPlace}{bytes k:Nat}
 (S:P.underlying t=some (.slice e)) (Y:P.underlying e=some (.struct v)) (C:oneCellFields P v=true) (hk:v.size=k) (aa:0<k) (V:P.cellsOf e=k) (W:P.bytesOf e=bytes)
 (h:DataW.Trod enc P w 0 (λ_=>true) true t (.slice a g o) d p) (hw:∀n∈d.weights P t,n<=reachBytes):
 g<=o/\o<=maxLen/\o*bytes<=140737488351232/\(a=none->g=0/\o=0)/\(g=0\/∃b s,a=some (AD b s)/\∀i,i<g->∃n,∀(j:Nat)(f:Field),v[j]? =some f->
  ∃c y,CA w b (s+i*k+j) c/\DataW.trod enc P w 0 (λ_=>true) true n f.type [c]=some y):=by
 obtain ⟨Q,Z⟩:=h
 rcases open_slice S Z with⟨r,N⟩|⟨x,l,c,m,n,D,Pl,r,_,hl,hm,B,N,A⟩
 simp [Value.cells]at r
 obtain ⟨rfl,rfl,rfl⟩:=r
 exact ⟨Nz _,by simp [maxLen],by simp,λ_=>⟨rfl,rfl⟩,.inl rfl⟩
 simp [Value.cells]at r
 obtain ⟨rfl,rfl,rfl⟩:=r
 simp only [if_true]at B
 subst B
 simp only [Prod.mk.injEq]at N
 obtain ⟨rfl,_⟩:=N
 have E:=hw ((g+(m-g))*bytes) (by simp [DataW.weights,S,W])
 rw [show g+(m-g)=m by omega]at E
 refine ⟨hl,hm,E,(λh=>by cases h),?_⟩
 rcases Nat.eq_zero_or_pos g with I|I
 exact .inl I
 right
 rw [V]at A
 have q:∀i,i<g->∃n,∀(j:Nat)(f:Field),v[j]? =some f->∃c y,w.cell? (x.add (i*k+j))=some c/\DataW.trod enc P w 0 (λ_=>true) true n f.type [c]=some y:=by
  intro i R;obtain ⟨z,T,U⟩:=A i (by omega);obtain ⟨_,X,J⟩:=World.cells?_some T;obtain ⟨n',M⟩:=EZ Y C U;refine ⟨n',λj f G=>?_⟩;have K:j<k:=by have:=(Nu.1 G).1;omega
  have u:z[j]? =some (z[j]'(by omega)):=List.getElem?_eq_getElem (by omega);obtain ⟨y,O⟩:=M j f _ G u;exact ⟨_,y,by rw [<-Go.Deep.add_add,J j K,u],O⟩
 obtain ⟨b,s,F⟩:=x
 have hs:F=none:=by obtain ⟨n,L⟩:=q 0 I;obtain ⟨c,y,u,_⟩:=L 0 (v[0]'(by omega)) (by simp);simpa [Addr.add]using World.cell?_spot u
 subst hs
 refine ⟨b,s,rfl,λi R=>?_⟩
 obtain ⟨n,L⟩:=q i R
 refine ⟨n,λj f G=>?_⟩
 obtain ⟨c,y,u,O⟩:=L j f G
 rw [Addr.add_lit,<-Nat.add_assoc]at u
 exact ⟨c,y,u,O⟩
end
end
end Go.Own
namespace Go.Proofs.YtimniinkpipnmaaGreatDoor
open Go.RowKit Go.Own Go.ChangeShapes Go.WideShapes Go.ChangeAt Go.Deep
section
def Sx:=@Go.Proofs.Tryz.underlying25
def ET{α:Type}{n:Nat}{Q:Nat->α->Prop}(d:α)(h:∀i,i<n->∃z,Q i z):∃Z:Nat->α,∀i,i<n->Q i (Z i):=
 ⟨λi=>if a:i<n then Classical.choose (h i a)else d,λi b=>by show Q i (if a:i<n then Classical.choose (h i a)else d);rw [dif_pos b];exact QM (h i b)⟩
section
variable {H:Type} {enc:TypeId×Value->H} {W:WD}
def wY{a:OA}{c l:Nat}{d:DataW H}{p:List MemPlace}(h:DataW.Trod enc Tryz.prog W 0 (λ_=>true) true 22 (.slice a c l) d p)(hw:∀n∈d.weights Tryz.prog 22,n<=reachBytes):
 ∃F,bB W a c F/\c<=4611686018427387903:=by
 obtain ⟨D,E,G,_,m⟩:=z8 (bytes:=16) (k:=2) QF Tryz.underlying32 (by kernel_rfl) rfl (by decide) (by kernel_rfl) (by kernel_rfl) h hw
 have f:c<=4611686018427387903:=by omega
 rcases m with rfl|⟨b,g,rfl,m⟩
 exact ⟨[],⟨rfl,.inl rfl⟩,f⟩
 have x:∀i,i<c->∃z:Int×Int,CA W b (g+i*2) (IV z.1)/\CA W b (g+i*2+1) (IV z.2):=λi j=>by obtain ⟨n,r⟩:=m i j;obtain ⟨B,I,u,s⟩:=r 0 _ rfl;obtain ⟨C,J,v,t⟩:=r 1 _ rfl;obtain ⟨y,o,_⟩:=DataW.trod_int QO s;obtain ⟨A,q,_⟩:=DataW.trod_int QO t;simp only [Pz,and_true]at o q;subst o q;exact ⟨(y,A),u,v⟩
 obtain ⟨Z,w⟩:=ET (0,0) x
 refine ⟨(List.range c).map Z,⟨by simp,.inr ⟨b,g,rfl,λi j=>?_⟩⟩,f⟩
 have e:((List.range c).map Z).getD i (0,0)=Z i:=by simp [List.getD,j]
 rw [e]
 exact w i j
def Lj{α:Type}(a:Array α)(h:a.size=2):∃b c,a=#[b,c]:=by
 obtain ⟨l⟩:=a;match l,h with
 |[b,c],_=>exact ⟨b,c,rfl⟩
def Eo(a:List Int)(h:∀z∈a,(Lit.int .u64 z).wf=true):∃c:List Nat,a=aH c/\∀x∈c,x<18446744073709551616:=by refine ⟨a.map Int.toNat,?_,λx d=>?_⟩;unfold aH;rw [RH];symm;refine (Q6 λz b=>?_).trans (List.map_id a);have:=bounds_u64 (h z b);show((z.toNat:Nat):Int)=z;omega;obtain ⟨z,b,rfl⟩:=OC.1 d;have:=bounds_u64 (h z b);omega
def Gq{e:Nat}{v:Value}{d:DataW H}{p:List MemPlace}(Q:Value.okWide Tryz.prog W .any e 25 v)(h:DataW.Trod enc Tryz.prog W 0 (λ_=>true) true 25 v d p)(hw:∀n∈d.weights Tryz.prog 25,n<=reachBytes):
 ∃(V:OA)(E r:Nat)(U:OA)(D Z:Nat)(q o:List Nat),v=.agg #[.slice V E r,.slice U D Z]/\aG .u64 W V E (aH q)/\aG .u64 W U D (aH o)/\gV q o/\E<=4611686018427387903/\D<=4611686018427387903:=by
 obtain ⟨r,rfl,l⟩:=okWide_struct Sx Q
 have s:Tryz.prog.cellsOf 25=2:=by kernel_rfl
 obtain ⟨x0,x1,rfl⟩:=Lj r (l.trans s)
 obtain ⟨K,P⟩:=h
 obtain ⟨a,n,_,R,_,m,c⟩:=DataW.trod_struct Sx P
 simp only [Prod.mk.injEq]at R
 obtain ⟨rfl,_⟩:=R
 have N:=c 0 _ rfl
 have O:=c 1 _ rfl
 have aa:Tryz.prog.cellsOf 23=1:=by kernel_rfl
 have f:0<a.length:=by rw [m];decide
 have g:1<a.length:=by rw [m];decide
 have L:DataW.trod enc Tryz.prog W 0 (λ_=>true) true n 23 [x0]=some a[0]:=(N.trans (Ny f))
 have M:DataW.trod enc Tryz.prog W 0 (λ_=>true) true n 23 [x1]=some a[1]:=(O.trans (Ny g))
 clear N O c P Q l
 have i:∀{x y},DataW.trod enc Tryz.prog W 0 (λ_=>true) true n 23 [x]=some y->∃X C Y,x=.slice X C Y:=λh=>by
  rcases open_slice PC h with⟨b,_⟩|⟨y,l',c',m',n',D',P',b,_⟩;all_goals
   simp only [Pz,and_true]at b
   exact ⟨_,_,_,b⟩
 obtain ⟨F,S,I,rfl⟩:=i L
 obtain ⟨G,T,J,rfl⟩:=i M
 have u:DataW.Trod enc Tryz.prog W 0 (λ_=>true) true 23 (.slice F S I) (a[0]).1 (a[0]).2:=⟨n,L⟩
 have w:DataW.Trod enc Tryz.prog W 0 (λ_=>true) true 23 (.slice G T J) (a[1]).1 (a[1]).2:=⟨n,M⟩
 obtain ⟨z0,r0,f0,u0,v0,s0,-⟩:=yM (bytes:=8) PC Tryz.underlying45 (by kernel_rfl) (by kernel_rfl) u (λk z=>hw k (by simp only [DataW.weights,Sx];exact Sp (j:=0) (t:=23) (d:=(a[0]).1) rfl (by simp [f]) k z))
 obtain ⟨z1,r1,f1,u1,v1,s1,-⟩:=yM (bytes:=8) PC Tryz.underlying45 (by kernel_rfl) (by kernel_rfl) w (λk z=>hw k (by simp only [DataW.weights,Sx];exact Sp (j:=1) (t:=23) (d:=(a[1]).1) rfl (by simp [g]) k z))
 obtain ⟨q,rfl,B⟩:=Eo z0 f0
 obtain ⟨o,rfl,A⟩:=Eo z1 f1
 exact ⟨F,S,I,G,T,J,q,o,rfl,r0,r1,⟨B,A⟩,by omega,by omega⟩
end
def Kc(w:WD)(a:OA)(n c:Nat)(F:List (Int×Int))(b:OA)(m d:Nat)(G:List (Int×Int))(q:OA)(g t:Nat)(o:OA)(f s:Nat)(r p:List Nat)(hF:bB w a n F)(y:n<=4611686018427387903)(u:bB w b m G)(x:m<=4611686018427387903)(l:aG .u64 w q g (aH r))(i:aG .u64 w o f (aH p))(v:gV r p)(k:g<=4611686018427387903)(j:f<=4611686018427387903)(h:eG w):
 CL 3 #[.slice a n c,.slice b m d,.agg #[.slice q g t,.slice o f s]] w λe z=>e=RT (.bool true)/\BW w z:=
 A7 w a n c F b m d G q g t o f s r p hF y u x l i v k j h
end
end Go.Proofs.YtimniinkpipnmaaGreatDoor
