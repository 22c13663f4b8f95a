/- A part of the proof of TopNegates. -/
import Derived.Test.YtimniinkpipnmaaGreatDoorR6
set_option maxRecDepth 100000
set_option maxHeartbeats 8000000
set_option linter.all false
namespace Go.Proofs.YtimniinkpipnmaaGreatDoor
open Go.RowKit Go.Own
def Pv:=@Go.IntKind.wrap_i64
def QW:=@Nat.mul_le_mul
def RB:=@Nat.div_lt_of_lt_mul
def EH(w:WD)(A:Au)(ia:OA)(il ic:Nat)(na:OA)(G nc:Nat)(hv:bY w A ia il na G)(hA:fS A)(sa:OA)(ns cs:Nat)(la:OA)(np cp:Nat)(l d:List Nat)(T:aG .u64 w sa ns (aH l))(b6:aG .u64 w la np (aH d))(hL:gV l d)(D:0<np)(hN:ns+np<=255):
 CL 25 #[.agg #[IV A.sets,.slice ia il ic,.slice na G nc],.agg #[.slice sa ns cs,.slice la np cp]] w (Ad w A l d):=by
 obtain ⟨i3,dN,dX,dV,dM⟩:=Ol Tryz.ed
 obtain ⟨dY,cY,dj,dg,cS⟩:=Ol Tryz.qj
 obtain ⟨dk,bv,bF,bB,bt⟩:=Ol Tryz.vO
 obtain ⟨q,hq⟩:=EX w.heap.size
 obtain ⟨wa,bh⟩:=EX (w.alloc (.cells #[IV A.sets,.slice ia il ic,.slice na G nc] 36))
 obtain ⟨wb,ap⟩:=EX (wa.alloc (.cells #[.slice sa ns cs,.slice la np cp] 25))
 obtain ⟨I,aW⟩:=EX (wb.alloc (.cells #[SN,SN,SN,SN,UV 0] 57))
 have cT:BW w wa:=bh▸ag _ _
 have b3:BW wa wb:=ap▸ag _ _
 have bd:BW wb I:=aW▸ag _ _
 have bj:wa.heap.size=q+1:=by rw [<-bh,NG,hq]
 have bk:wb.heap.size=q+1+1:=by rw [<-ap,NG,bj]
 have s1:I.heap.size=q+1+1+1:=by rw [<-aW,NG,bk]
 have aP:BW w I:=aa cT (aa b3 bd)
 have cX:HC I q #[IV A.sets,.slice ia il ic,.slice na G nc] 36:=(bd.block q (by omega)).trans ((b3.block q (by omega)).trans (by rw [<-bh,<-hq];exact (ND w _).1))
 have cV:HC I (q+1) #[.slice sa ns cs,.slice la np cp] 25:=(bd.block (q+1) (by omega)).trans (by rw [<-ap,<-bj];exact (ND wa _).1)
 have cU:HC I (q+2) #[SN,SN,SN,SN,UV 0] 57:=by rw [<-aW,<-(show wb.heap.size=q+2 from bk)];exact (ND wb _).1
 have P:Hid (∀u,BW I u->kW u q A ia il ic na G nc):=λu hb=>(kW.mk cX (hv.af aP)).af hb
 have bU:Hid (∀u,BW I u->Ez u (q+1) sa ns cs la np cp l d):=λu hb=>(Ez.mk cV (T.af aP) (b6.af aP)).af hb
 have cC:Hid (l.length=ns):=by have:=T.1;rw [aC]at this;exact this
 have bP:Hid (d.length=np):=by have:=b6.1;rw [aC]at this;exact this
 have bH:Hid (CL 47 #[.agg #[IV A.sets,.slice ia il ic,.slice na G nc]] I λe u=>e=RT (UV ((2^A.sets-1:Nat):Int))/\BW I u):=yf I A.sets hA.sets _ _
 have bQ:Hid (∀(u:WD)(i k:Nat),BW I u->i<G->k<=1000000->CL 49 #[IV i,IV k,PT (q+1),PT q] u λe aq=>e=RT (.bool (iB A l d i k))/\BW u aq):=λu i k hb hi hk=>FT u (q+1) q sa ns cs la np cp l d A ia il ic na G nc hA (P.o u hb) (bU.o u hb) hL (by omega) (by omega) D i k (by rw [hv.bC];exact hi) hk
 have cF:Hid (∀u,CL 48 #[.agg #[.slice sa ns cs,.slice la np cp]] u λe aq=>e=RT (IV ((ns:Int)+(np:Int)))/\BW u aq):=λu=>Jm sa ns cs la np cp u (by omega) (by omega)
 have dU:=D
 have HA:=Nq hA
 have du:=Nq hL
 have dq:=Nq aP
 have dt:=Nq cU
 have HQ:=Nq hq
 have cB:=Nq s1
 have b9:G<=256:=by rw [<-hv.bC];exact hA.many
 have ae:Hid (A.ah.length=G):=hv.bC
 have ej:il<=16777216:=by have:=hv.aJ.1;rw [aC]at this;rw [<-this];exact hA.il
 have ar:Hid (A.aJ.length=il):=by have:=hv.aJ.1;rw [aC]at this;exact this
 obtain ⟨c0,c1,c2⟩:=(P.o I (Nx _ _)).cells
 clear D hv hA aP cX cU cV s1 T b6 hL cT b3 bd
 go_enter Tryz.func25,Tryz.ntmps25
 go_upto_region 1 with(fail)
 (try rw [aW])
 (try rw [hq])
 (try rw [bj])
 (try rw [bk])
 clear bj bk
 obtain ⟨M,hM⟩:=EX (((2^A.sets-1:Nat):Int))
 rw [hM]at bH
 have dv:=Nq hM
 clear hM aW hq bh ap
 go_upto_region 2 with(go_at_call 47;refine bH.o.mono ?_;rintro e w2 ⟨rfl,cR⟩;have dr:=Nq cR;clear cR)
 obtain ⟨g,hg⟩:=EX w2.heap.size
 obtain ⟨w3,bg⟩:=EX (w2.alloc (.cells #[SN,SN,SN,SN,UV M] 57))
 (try rw [bg])
 (try rw [hg])
 have bL:Hid (PM w2 w3 g (wE M) [] [] [] [] [] M):=PM.aK (bg▸ag _ _) (by omega) (by rw [<-bg,<-hg];exact (ND w2 _).1)
 have aM:Hid (BW I w2):=dr.o
 have aJ:Hid (∀u,BW w2 u->BW I u):=λu hb=>aa aM.o hb
 have a9:Hid (∀u,BW w3 u->CA u (q+1) 0 (.slice sa ns cs)/\CA u (q+1) 1 (.slice la np cp)/\CA u q 2 (.slice na G nc)):=λu hb=>by have h:=aJ.o u (aa bL.o.aM hb);have h2:=(bU.o u h).dp;exact ⟨CH h2,CH h2,(P.o u h).cells.2.2⟩
 obtain ⟨e0,e1,e2⟩:=a9.o w3 (Nx _ _)
 clear bg hg bH c0 c1 c2
 refine av 6 (S:=λW'=>CA W' (q+1) 0 (.slice sa ns cs)/\CA W' (q+1) 1 (.slice la np cp)/\CA W' q 2 (.slice na G nc)) (by kernel_rfl) (⟨e0,e1,e2⟩) (λb1=>?_)
 refine' az 0 ?_
 refine' az 2 ?_
 refine' az 3 ?_
 refine' az 4 ?_
 clear b1 e0 e1 e2
 refine aI 1 λK hK=>?_
 rw [Oa (by rfl)]
 apply aY.o
 refine aN (f:=48) (cF.o w3.drew) ?_ (λe w4 cd=>?_)
 ·clear hK;go_simp
 obtain ⟨rfl,E⟩:=cd
 have au:BW w3 w4:=(Nx _ w3).drew.trans E
 have bN:=Nq (bL.o.af au)
 have bR:=Nq (a9.o w4 au)
 refine ⟨_,rfl,?_⟩
 refine hK.o _ _ (λ_=>a9.o w4 au) ?_
 clear hK K E au bL a9 cF
 try walk_nrm
 refine aI 5 λK hK=>?_
 go_simp
 refine hK.o _ _ (λ_=>bR.o) ?_
 clear hK K
 try walk_nrm
 refine aI 6 λK hK=>?_
 go_simp
 refine hK.o _ _ (λe=>nomatch e) ?_
 clear hK K
 try walk_nrm
 refine ay (by kernel_rfl) ?_
 obtain ⟨n0,da⟩:=EX (ns+np)
 have bz:(ns:Int)+(np:Int)=(n0:Int):=by omega
 rw [bz]
 have a5:=Nq da
 have cz:Hid (∀(u:WD)(i:Nat),BW I u->i<G->CL 49 #[IV i,IV 0,PT (q+1),PT q] u λe aq=>e=RT (.bool (iB A l d i 0))/\BW u aq):=λu i hb hi=>bQ.o u i 0 hb hi (by omega)
 have b7:n0<=255:=by omega
 obtain ⟨U,Z,-⟩:=bR.o
 obtain ⟨-,d1,-⟩:=(P.o w4 (aJ.o w4 bN.o.aM)).cells
 clear bR da bz hN
 go_wp2
 go_loopw [30] (λv wr=>∃(k:Nat)(C:Nat->Value),k<=il/\v=IV k/\Hid (PM w2 wr g C ((A.aJ.take k).filter (λi=>iB A l d i 0)) [] [] [] [] M)) (λv _=>il-(intOf v).toNat)
 exact ⟨0,_,NS _,rfl,bN⟩
 clear bN d1 U Z
 obtain ⟨k,C,hk,rfl,D⟩:=hrel
 have H:=Nq (aJ.o wr D.o.aM)
 have L:=P.o wr H.o
 by_cases ao:k<il
 ·have c7:(k:Int)<(il:Int):=by omega
  obtain ⟨i,hi⟩:∃i,A.aJ[k]? =some i:=⟨_,Ny (by rw [ar.o];exact ao)⟩;have dP:i<G:=by rw [<-ae.o];exact HA.o.aJ i (NI hi)
  obtain ⟨-,h0|⟨ib,io,rfl,hc⟩⟩:=L.Ao.aJ
  ·omega
  have ck:CA wr ib (io+k) (IV i):=by have:=hc k ao;rw [cH (by rw [ar.o];exact ao),Nw,hi]at this;exact this
  have T:=kA (p:=λi=>iB A l d i 0) hi;have HC:=Nq (cz.o wr i H.o dP);clear hc L hi;cases aw:iB A l d i 0
  ·rw [aw]at HC T;have O:Hid ((A.aJ.take (k+1)).filter (λi=>iB A l d i 0)=(A.aJ.take k).filter (λi=>iB A l d i 0)):=by rw [T];exact Nq (Om _)
   clear T aw;go_wp2_with (go_at_call 49;refine HC.o.mono ?_;rintro e w4 ⟨rfl,E⟩;have ai:=Nq E;clear E);go_roundw;exact ⟨k+1,C,by omega,by go_num,by rw [O.o];exact Nq (D.o.af ai.o)⟩;simp [intOf];omega
  ·rw [aw]at HC T;obtain ⟨J,hJ⟩:=EX ((A.aJ.take k).filter (λi=>iB A l d i 0))
   have cO:J.length<=k:=by rw [<-hJ];exact N5 (OD _ _) (by rw [Pd];omega)
   rw [hJ]at D T;have O:Hid ((A.aJ.take (k+1)).filter (λi=>iB A l d i 0)=J++[i]):=T;clear T aw hJ;go_upto_region 8 with(go_at_call 49;refine HC.o.mono ?_;rintro e w4 ⟨rfl,E⟩;have a6:=Nq (D.o.af E);clear E);clear ck D;obtain ⟨a0,cI,bX,cb,dI⟩:=a6.o.sl 0 (by omega);obtain ⟨m,hm⟩:=EX ((XP J [] [] [] 0).length);rw [hm]at bX cb dI;have co:Hid (m=J.length):=by show m=_;rw [<-hm];exact bW J
   have en:m<=k:=by rw [co.o];exact cO
   have HO:Hid (Sl w4 3 (.slice a0 m cI) m (bI J)):=cb;have a4:=Nq bX;clear cb hm bX cO;go_wp2_with (at_builtin;refine ax rfl (.tmp 39) (.tmp 41) 33 rfl 3 i3 (IV 0) 8 OE dN dX dV dM rfl (by decide) (.slice a0 m cI) _ _ rfl HO.o _ rfl rfl (by omega) ?_;intro g1 c1 w5 hs R ah;obtain ⟨q5,f5⟩:=a6.o.cW (k:=0) (by omega) (by rw [a4.o];exact R);rw [a4.o]at q5;have ct:=Nq (a6.o.upd (k:=0) (v:=SV g1 (m+1) c1) (xs:=bI J++[IV i]) (by omega) (by rw [NH,bW,<-co.o];exact hs) (by rw [a4.o];exact R) ⟨g1,rfl,by rw [a4.o];exact ah⟩ (Ni i) rfl a6.o.nI rfl).1;clear hs R ah);go_roundw;exact ⟨k+1,_,by omega,by go_num,by rw [O.o];exact ct⟩;simp [intOf];omega
 ·obtain rfl:k=il:=by omega
  obtain ⟨-,d1,d2⟩:=L.cells;have bM:Hid (PM w2 wr g C (A.aJ.filter (λi=>iB A l d i 0)) [] [] [] [] M):=by have:=D.o;rw [Oe (by rw [ar.o];exact Nz _)]at this;exact this
  clear D L;obtain ⟨J,hJ⟩:=EX (A.aJ.filter (λi=>iB A l d i 0));rw [hJ]at bM;have HJ:=Nq hJ;clear hJ cz;obtain ⟨wo,rfl⟩:∃wo:WD,wo=wr:=⟨_,rfl⟩;go_wp2;go_loopg [47] n0 (λgh v wr=>∃(k:Nat)(C:Nat->Value)(B:List Value),k+gh=n0/\v=IV k/\Hid (PM w2 wr g C J B ((List.range (k*G)).map (fq A l d)) [] ((List.range (k*G)).map (Jq A)) M));exact ⟨0,C,[],Od _,rfl,by rw [Q4];exact bM⟩;clear bM d1 d2;obtain ⟨k,C,B,ek,rfl,D⟩:=hrel;generalize gk=gO at *;have H:=Nq (aJ.o wr D.o.aM);by_cases el:k<n0
  ·have ea:(k:Int)<(n0:Int):=by omega
   obtain ⟨nx,ca⟩:=EX (gi l d k);have dz:=Nq ca;have Y:nx=if k+1=n0 then ns else k+1:=by rw [<-ca];unfold gi;rw [cC.o,bP.o,a5.o]
   have dd:nx<=255:=by rw [Y];have:=a5.o;split<;>omega
   obtain ⟨wk,rfl⟩:∃wk:WD,wk=wr:=⟨_,rfl⟩;have ap:=(bU.o wk H.o).dp;have U:CA wk (q+1) 0 (.slice sa ns cs):=CH ap;obtain ⟨-,-,d2⟩:=(P.o wk H.o).cells;clear ap ca;go_upto_if 54 with(fail);go_cut [12]from 48 to 109 (λv wc=>v=IV nx/\wc=wk);case first=>
    by_cases c3:k+1=n0
    ·rw [Oa c3]at Y;have t0:(((k:Int)+1)==(n0:Int))=true:=by rw [RP];omega
     subst Y;go_wp2;go_meet;case rel=>exact ⟨rfl,rfl⟩
    ·rw [Of c3]at Y;have t0:(((k:Int)+1)==(n0:Int))=false:=by rw [NC];omega
     subst Y;go_wp2;go_meet;case rel=>exact ⟨by go_num,rfl⟩
   case rest=>
    obtain ⟨rfl,rfl⟩:=hcut;clear Y;obtain ⟨z0,bi⟩:=EX (k*G);rw [bi]at D;have cG:=Nq bi;obtain ⟨XX,bc⟩:=EX (nx*G);have d8:XX<=65536:=by rw [<-bc];exact N5 (QW dd b9) (by decide)
    have eu:z0+G<=65536:=by have h1:(k+1)*G<=255*256:=QW (by omega) b9;rw [Qz,bi]at h1;omega
    have x1:IntKind.i64.wrap ((nx:Int)*(G:Int))=(XX:Int):=by
     have e:((nx:Int)*(G:Int))=((nx*G:Nat):Int):=by simp
     rw [e,bc,Pv];omega
    have dH:=Nq bc;clear bi bc;go_wp2;go_loopg [61] G (λgh v wr=>∃(x:Nat)(C:Nat->Value)(B:List Value),x+gh=G/\v=IV x/\Hid (PM w2 wr g C J B ((List.range (z0+x)).map (fq A l d)) [] ((List.range (z0+x)).map (Jq A)) M));exact ⟨0,C,B,Od _,rfl,D⟩;clear D d2 H;obtain ⟨x,C,B,es,rfl,D⟩:=hrel;have H:=Nq (aJ.o wr D.o.aM);have L:=P.o wr H.o;obtain ⟨Ns,Q⟩:=EX ((List.range (z0+x)).map (Jq A));obtain ⟨Rs,V⟩:=EX ((List.range (z0+x)).map (fq A l d));rw [Q,V]at D;by_cases ao:x<G
    ·have c7:(x:Int)<(G:Int):=by omega
     obtain ⟨b,o,ta,tl,tc,rfl,dc,k0,k1,k2,k3,aE⟩:=L.nd (i:=x) (by rw [ae.o];exact ao);have ch:A.aw x∈A.ah:=NI dc;have er:tl<=16777216:=by have:=aE.1;rw [aC]at this;rw [<-this];exact HA.o.tl _ ch
     have ba:Hid ((A.aw x).tO.length=tl):=by have:=aE.1;rw [aC]at this;exact this
     have cD:Hid (∀t∈(A.aw x).tO,t<G):=λt ht=>by rw [<-ae.o];exact HA.o.lN _ ch t ht
     have dE:Hid (jT A l d k x=fp A l d k x tl):=by unfold jT fp;rw [Oe (by rw [ba.o];exact Nz _)];exact Nq rfl
     obtain ⟨y,hy⟩:=EX (z0+x);have aR:=dm (n:=G) (k:=k) ao;rw [cG.o,hy]at aR;have dw:Hid ((List.range (z0+(x+1))).map (Jq A)=Ns++[(A.aw x).aT]):=by
      rw [<-Qe,hy,OZ,Oy,<-Q,hy];have e:Jq A y=(A.aw x).aT:=by unfold Jq;rw [ae.o,aR.2]
      show _++[Jq A y]=_;rw [e]
     have dD:Hid ((List.range (z0+(x+1))).map (fq A l d)=Rs++[jT A l d k x]):=by
      rw [<-Qe,hy,OZ,Oy,<-V,hy];have e:fq A l d y=jT A l d k x:=by unfold fq;rw [ae.o,aR.1,aR.2]
      show _++[fq A l d y]=_;rw [e]
     have cu:Hid (Ns.length=y):=by show _=_;rw [<-Q,<-hy];simp
     have cA:Hid (B.length=y):=by show _=_;rw [D.o.cO,<-V,<-hy];simp
     have et:y+1<=65536:=by omega
     clear aR hy;have cw:Hid (∀j t,(A.aw x).tO[j]? =some t->fp A l d k x (j+1)=fp A l d k x j++(if iB A l d x k&&iB A l d t nx then [XX+t]else [])):=λj t h=>by
      unfold fp;rw [kA h,dz.o,ae.o,dH.o];cases iB A l d x k
      ·simp
      ·cases iB A l d t nx<;>simp
     have bT:Hid (∀u,BW wr u->aG .i64 u ta tl (aH (A.aw x).tO)):=λu hb=>aE.af hb;obtain ⟨bl,bE⟩:=EX ((A.aw x).tO);rw [bE]at ba cD cw bT;obtain ⟨wq,aZ⟩:=EX (wr.alloc (.cells #[UV ((A.aw x).ak:Int),UV ((A.aw x).aD:Int),UV ((A.aw x).aT:Int),.slice ta tl tc] 62));obtain ⟨nb,b8⟩:=EX wr.heap.size;have be:BW wr wq:=aZ▸ag _ _;have an:=bp wr #[UV ((A.aw x).ak:Int),UV ((A.aw x).aD:Int),UV ((A.aw x).aT:Int),.slice ta tl tc] 62;rw [aZ,b8]at an;have n2:=(an 2 _ rfl).1;have n3:=(an 3 _ rfl).1;have cq:Hid (¬eN qF g C nb):=λs=>by have:=D.o.oN.kB nb s;omega
     have cx:=Nq (D.o.af be);have cE:Hid (∀u,BW wq u->aG .i64 u ta tl (aH bl)):=λu hb=>bT.o u (aa be hb);have ds:Hid (BW I wq):=aa H.o be;have ec:nb<wq.heap.size:=by rw [<-aZ,NG];omega
     generalize (A.aw x).ak=d7 at *;generalize (A.aw x).aD=eh at *;generalize (A.aw x).aT=bG at *;clear Q V dc aE ch an be bE bT L D H;go_upto_region 20 with(fail);(try rw [aZ]);(try rw [b8]);clear aZ b8 k0 k1 k2 k3;go_wp2;go_loopw [15,69] (λlv v wx=>∃(j:Nat)(a:OA)(m c:Nat),j<=tl/\v=IV j/\lv=.slice a m c/\m<=j/\Hid (oo wq wx (.slice a m c) (fp A l d k x j))/\Hid (m=(fp A l d k x j).length)) (λ_ v _=>tl-(intOf v).toNat);case atStart=>exact ⟨0,none,0,0,NS _,rfl,rfl,Nz _,by
      have:fp A l d k x 0=[]:=by unfold fp;cases iB A l d x k<;>simp
      rw [this];exact Nq (oo.nil wq),by
      have:fp A l d k x 0=[]:=by unfold fp;cases iB A l d x k<;>simp
      rw [this];exact Nq rfl⟩
     case round=>
      clear n3;obtain ⟨j,a,m,c,hj,rfl,rfl,em,X,ac⟩:=hrel;by_cases b5:j<tl
      ·have d9:(j:Int)<(tl:Int):=by omega
       obtain ⟨t,ht⟩:∃t,bl[j]? =some t:=⟨_,Ny (by rw [ba.o];exact b5)⟩;have dW:=cD.o t (NI ht);obtain ⟨-,h0|⟨tb,d5,rfl,hc⟩⟩:=cE.o wr X.o.aM
       ·omega
       have ck:CA wr tb (d5+j) (IV t):=by have:=hc j b5;rw [cH (by rw [ba.o];exact b5),Nw,ht]at this;exact this
       have HB:=Nq (aa ds.o X.o.aM);have N:=Nq (bQ.o wr x k HB.o ao (by omega));have aF:Hid (∀u,BW wr u->CL 49 #[IV t,IV nx,PT (q+1),PT q] u λe aq=>e=RT (.bool (iB A l d t nx))/\BW u aq):=λu hb=>bQ.o u t nx (aa HB.o hb) dW (by omega);have HS:=Nq (cw.o j t ht);clear hc ht n2;cases aQ:iB A l d x k
       ·rw [aQ]at N HS;have O:Hid (fp A l d k x (j+1)=fp A l d k x j):=by rw [HS.o];exact Nq (Om _)
        clear aQ HS;go_wp2_with (go_at_call 49;refine N.o.mono ?_;rintro e w4 ⟨rfl,E⟩;have ai:=Nq E;clear E);go_roundw;exact ⟨j+1,a,m,c,by omega,by go_num,rfl,by omega,by rw [O.o];exact Nq (X.o.af ai.o),by rw [O.o];exact ac⟩;simp [intOf];omega
       ·rw [aQ]at N HS;cases bf:iB A l d t nx
        ·rw [bf]at aF HS;have O:Hid (fp A l d k x (j+1)=fp A l d k x j):=by rw [HS.o];exact Nq (Om _)
         clear aQ bf HS;go_wp2_with (first|(go_at_call 49;refine N.o.mono ?_;rintro e w4 ⟨rfl,E⟩;have ai:=Nq E;have ad:=Nq (aF.o w4 E);clear E N)|(go_at_call 49;refine ad.o.mono ?_;rintro e w5 ⟨rfl,W⟩;have a2:=Nq W;clear W));go_roundw;exact ⟨j+1,a,m,c,by omega,by go_num,rfl,by omega,by rw [O.o];exact Nq (X.o.af (aa ai.o a2.o)),by rw [O.o];exact ac⟩;simp [intOf];omega
        ·rw [bf]at aF HS;have O:Hid (fp A l d k x (j+1)=fp A l d k x j++[XX+t]):=by rw [HS.o];exact Nq rfl
         clear aQ bf HS;go_upto_region 24 with(first|(go_at_call 49;refine N.o.mono ?_;rintro e w4 ⟨rfl,E⟩;have ai:=Nq E;have ad:=Nq (aF.o w4 E);clear E N)|(go_at_call 49;refine ad.o.mono ?_;rintro e w5 ⟨rfl,W⟩;have br:=Nq (X.o.af (aa ai.o W));clear W));have HO:Hid (w5.ownsRow 0 66 2 (.slice a m c) m (bD ((fp A l d k x j).map e0))):=by have:=br.o.cK;rw [<-ac.o]at this;exact this
         have ed:t<=256:=by omega
         have x2:IntKind.i64.wrap ((XX:Int)+(t:Int))=((XX+t:Nat):Int):=by rw [Pv];omega
         clear ck;go_wp2_with (at_builtin;refine ki rfl (.tmp 83) (.tmp 90) rfl (.slice a m c) m ((fp A l d k x j).map e0) (by rw [NU];exact ac.o.symm) rfl HO.o (e0 (XX+t)) rfl (by omega) ?_;intro a8 c8 w8 ho hk c9;have dx:=Nq (br.o.dB (t:=XX+t) (by rw [<-ac.o];exact ho) hk (by rw [<-ac.o];exact c9));clear ho hk c9);go_roundw;exact ⟨j+1,a8,m+1,c8,by omega,by go_num,rfl,by omega,by rw [O.o,ac.o];exact dx,by rw [O.o,NH,<-ac.o];exact Nq rfl⟩;simp [intOf];omega
      ·obtain rfl:j=tl:=by omega
       obtain ⟨wx,rfl⟩:∃wx:WD,wx=wr:=⟨_,rfl⟩;have dF:Hid (oo wq wx (.slice a m c) (jT A l d k x)):=by rw [dE.o];exact X
       have cy:=Nq (cx.o.af X.o.aM);have p2:=(X.o.aM.cell (by simp only;omega)).trans n2;have db:nb<wx.heap.size:=by have:=X.o.aM.size;omega
       clear n2 X ac;obtain ⟨a1,cJ,b0,cc,cK⟩:=cy.o.sl 1 (by omega);have aS:(XP J B [] Ns 1).length=y:=cA.o;rw [aS]at b0 cc cK;have dA:Hid (Sl wx 64 (.slice a1 y cJ) y B):=cc;have N:=Nq b0;clear aS b0 cc;go_upto_region 27 with(at_builtin;refine ax rfl (.tmp 95) (.tmp 97) 53 rfl 64 dY (SN) 24 Rb cY dj dg cS rfl (by decide) (.slice a1 y cJ) _ _ rfl dA.o _ rfl rfl (by omega) ?_;intro g1 c1 w7 hs R ah;obtain ⟨q7,f7⟩:=cy.o.cW (k:=1) (by omega) (by rw [N.o];exact R);rw [N.o]at q7;obtain ⟨w8,cf⟩:=EX (w7.setCell (AD g 1) (SV g1 (y+1) c1));obtain ⟨m1,m2,m3⟩:=cx.o.GS dF.o (v:=SV g1 (y+1) c1) (by rw [cA.o];exact hs) (by rw [N.o];exact R) ⟨g1,rfl,by rw [N.o];exact ah⟩ cf.symm;have al:=Nq m1;have bK:=Nq m2;have cn:=Nq m3;clear hs R ah m1 m2 m3);(try rw [cf]);have dZ:=bK.o.aq p2 cq.o;have cr:Hid (¬eN qF g (up C 1 (SV g1 (y+1) c1)) nb):=λs=>(cn.o nb s).elim cq.o (λh=>by omega);have eb:nb<w8.heap.size:=by have:=bK.o.size;omega
       clear cf p2 cK q7 f7 bK cn db;obtain ⟨C2,bs⟩:=EX (up C 1 (SV g1 (y+1) c1));rw [bs]at al cr;clear bs;obtain ⟨a3,bV,aL,aV,aO⟩:=al.o.sl 3 (by omega);have ab:(XP J (B++[.slice a m c]) [] Ns 3).length=y:=by show(dK Ns).length=y;unfold dK;rw [NU];exact cu.o
       rw [ab]at aL aV aO;have dB:Hid (Sl w8 45 (.slice a3 y bV) y (dK Ns)):=aV;have ad:=Nq aL;clear ab aL aV;go_wp2_with (at_builtin;refine ax rfl (.tmp 102) (.tmp 105) 23 rfl 45 dk (UV 0) 8 PC bv bF bB bt rfl (by decide) (.slice a3 y bV) _ _ rfl dB.o _ rfl rfl (by omega) ?_;intro g3 c4 d6 hs R ah;obtain ⟨dl,dJ⟩:=al.o.cW (k:=3) (by omega) (by rw [ad.o];exact R);rw [ad.o]at dl;obtain ⟨dn,aX⟩:=EX (d6.setCell (AD g 3) (SV g3 (y+1) c4));obtain ⟨m1,m2,m3⟩:=al.o.upd (k:=3) (v:=SV g3 (y+1) c4) (xs:=dK Ns++[UV bG]) (by omega) (by rw [NH,dK,NU,cu.o];exact hs) (by rw [ad.o];exact R) ⟨g3,rfl,by rw [ad.o];exact ah⟩ (Nj bG) al.o.cO al.o.nI aX.symm;have dG:=Nq m1;clear hs R ah m1 m2 m3);(try rw [aX]);clear aX dZ aO dl dJ al;go_roundg (gk-1);case measure=>omega
       case rel=>exact ⟨x+1,_,_,by omega,by go_num,by rw [dD.o,dw.o];exact dG⟩
    ·obtain rfl:x=G:=by omega
     have dC:Hid (PM w2 wr g C J B ((List.range ((k+1)*x)).map (fq A l d)) [] ((List.range ((k+1)*x)).map (Jq A)) M):=by
      have e:(k+1)*x=z0+x:=by rw [Qz,cG.o]
      rw [e,V,Q];exact D
     clear D Q V L;go_wp2;go_roundg (gO-1);case measure=>omega
     case rel=>exact ⟨k+1,C,B,by omega,by go_num,dC⟩
  ·obtain rfl:k=n0:=by omega
   obtain ⟨n,hn⟩:=EX (k*G);have dT:n<=65536:=by rw [<-hn];exact N5 (QW b7 b9) (by decide)
   rw [hn]at D;have cv:=Nq hn;obtain ⟨Ns,Q⟩:=EX ((List.range n).map (Jq A));obtain ⟨Rs,V⟩:=EX ((List.range n).map (fq A l d));rw [Q,V]at D;have ab:Ns.length=n:=by rw [<-Q];simp
   obtain ⟨a3,bV,aL,aV,aO⟩:=D.o.sl 3 (by omega);have di:(XP J B [] Ns 3).length=n:=by show(dK Ns).length=n;unfold dK;rw [NU];exact ab
   rw [di]at aL aO;have aF:=Nq (D.o.oN.cell 2 (by omega));obtain ⟨b2,ei,dL,-,bb⟩:=D.o.sl 2 (by omega);have cM:=D.o.oN.mB 2;have dy:=Nq Q;have a7:=Nq V;have cm:=Nq ab;clear hn Q V ab aV aL di dL;go_upto_region 31 with(at_make;refine bJ rfl _ _ 23 rfl 45 dk (UV 0) 1 PC bv bF bB _ _ _ _ n rfl rfl rfl rfl (by rw [bt];omega) (by unfold maxLen;omega) ?_;intro w5 he hs;have W:BW wr w5:=he▸ag _ _;have bS:=Nq hs;have a2:=Nq W;have q5:=(W.cell (Nr _ _ bb)).trans bb;have f5:=(N7 (W.block g (Nr _ _ bb))).trans cM;clear he hs W);obtain ⟨lb,c6⟩:=EX wr.heap.size;rw [c6]at bS⊢;obtain ⟨w6,ce⟩:=EX (w5.setCell (AD g 2) (SV lb n n));rw [ce];have aA:(madeCells (UV 0).cells (n*1)).toList=dK (List.replicate n 0):=by rw [bZ (UV 0) rfl n];unfold dK;rw [List.map_replicate];rfl
   have dh:Sl w5 45 (SV lb n n) (dK (List.replicate n 0)).length (dK (List.replicate n 0)):=by
    have h1:=bS.o;rw [aA]at h1;have h2:(dK (List.replicate n 0)).length=n:=by simp [dK]
    rw [h2];exact h1
   have hX:∀j,up (XP J B [] Ns) 2 (dK (List.replicate n 0)) j=XP J B (List.replicate n 0) Ns j:=λj=>by
    match j with
    |0=>rfl
    |1=>rfl
    |2=>rw [aB];rfl
    |3=>rfl
    |j+4=>rfl
   have bO:=Nq (D.o.upd (k:=2) (by omega) dh ((aj.aF a2.o).mono λk hk s=>absurd hk (by omega)) ⟨lb,rfl,.inr (by omega)⟩ hX D.o.cO D.o.nI ce.symm).1;clear aA dh hX ce c6 bS a2 q5 f5 bb aO aF cM D;obtain ⟨C6,cN⟩:=EX (up C 2 (SV lb n n));rw [cN]at bO;clear cN;have D:=bO;clear bO;have ci:=Nq (aJ.o w6 D.o.aM);obtain ⟨va,vc,ve,bm,vl,bn,vn,bo,aK,U,Z,am,r0,r1,r2,r3⟩:=D.o.KG;have g0:=D.o.oN.cell 0 (by omega);have g1:=D.o.oN.cell 1 (by omega);have g2:=D.o.oN.cell 2 (by omega);have g3:=D.o.oN.cell 3 (by omega);have g4:=D.o.oN.cell 4 (by omega);have cL:=D.o.all;rw [aK]at g0;rw [U]at g1;rw [Z]at g2;rw [am]at g3;rw [cL]at g4;have aS:Rs.length=n:=by rw [<-a7.o];simp
   have c5:(List.replicate n 0).length=n:=List.length_replicate;have ab:=cm.o;rw [aS]at g1 U;rw [c5]at g2 Z;rw [ab]at g3 am;have F:HC w6 (q+2) #[SN,SN,SN,SN,UV 0] 57:=(ci.o.block _ (by have:=cB.o;omega)).trans dt.o;have z0:CA w6 (q+2) 0 (SN):=CH F;have z1:CA w6 (q+2) 1 (SN):=CH F;have z2:CA w6 (q+2) 2 (SN):=CH F;have z3:CA w6 (q+2) 3 (SN):=CH F;have z4:CA w6 (q+2) 4 (UV 0):=CH F;have y0:FZ w6 (q+2) 0:=NA F 0;have y1:FZ w6 (q+2) 1:=NA F 1;have y2:FZ w6 (q+2) 2:=NA F 2;have y3:FZ w6 (q+2) 3:=NA F 3;have y4:FZ w6 (q+2) 4:=NA F 4;have bq:=Nq F;have cj:Hid (C6 0=.slice va J.length vc/\C6 1=.slice ve n bm/\C6 2=.slice vl n bn/\C6 3=.slice vn n bo):=⟨aK,U,Z,am⟩;obtain ⟨jl,b4⟩:=EX J.length;rw [b4]at g0 cj;have cl:=Nq b4;clear F r0 r1 r2 r3 aK U Z am cL aS c5 ab b4;rw [show q+1+1=q+2 from rfl];go_wp2;(try simp only [Exit.inBlock,Exit.then]);obtain ⟨w9,cg⟩:=EX (((((w6.setCell (AD (q+2) 0) (.slice va jl vc)).setCell (AD (q+2) 1) (.slice ve n bm)).setCell (AD (q+2) 2) (.slice vl n bn)).setCell (AD (q+2) 3) (.slice vn n bo)).setCell (AD (q+2) 4) (UV M));rw [cg];obtain ⟨d0,d1,d2,d3,d4,dR⟩:=AL bq.o w9 cg.symm;clear cg z0 z1 z2 z3 z4 y0 y1 y2 y3 y4 g0 g1 g2 g3 g4;refine OS (v:=.agg #[.slice va jl vc,.slice ve n bm,.slice vl n bn,.slice vn n bo,UV M]) ?_ rfl ?_
   ·rw [cP rfl];go_simp
   ·have cW:BW w w2:=aa dq.o aM.o;have eq:=aM.o.size
    have ep:=cB.o;have eo:=HQ.o;have de:=D.o.result cW (r:=q+2) (by omega) (by omega) bq.o dR;obtain ⟨ev,ew,ex,ee,ey,ef,ez,eg,aK,U,Z,am,r0,r1,r2,r3⟩:=de.KG;obtain ⟨f0,f1,f2,f3⟩:=cj.o;rw [f0]at aK;rw [f1]at U;rw [f2]at Z;rw [f3]at am;obtain ⟨rfl,-,rfl⟩:=On aK;obtain ⟨rfl,-,rfl⟩:=On U;obtain ⟨rfl,-,rfl⟩:=On Z;obtain ⟨rfl,-,rfl⟩:=On am;have bA:0<d.length:=by rw [bP.o];exact dU
    have aU:(l.length+d.length)*A.ah.length=n:=by rw [cC.o,bP.o,a5.o,ae.o,cv.o]
    have dQ:0<k:=by have:=a5.o;omega
    have an:=GW HA.o bA du.o;rw [aU,a7.o]at an;have dS:Rs.length=n:=by rw [<-a7.o];simp
    have cQ:∀z,z<n->(vD Rs).getD z []=(fq A l d z).map λ(t:Nat)=>(t:Int):=λz hz=>vE _ (by rw [<-a7.o,Oh,Pt hz];rfl);have bx:∀z,z<n->z/A.ah.length<l.length+d.length/\z%A.ah.length<A.ah.length:=λz hz=>by
     have df:0<A.ah.length:=by
      rcases OT A.ah.length with h|h
      ·rw [h,Nat.mul_zero]at aU;omega
      ·exact h
     exact ⟨RB (by rw [RJ,aU];exact hz),QV _ df⟩
    have bC:∀z,z<n->(∀t∈fq A l d z,t<n)/\(fq A l d z).length<=16777216:=λz hz=>by
     obtain ⟨m1,m2⟩:=bx z hz;have h1:=HA.o.tl _ (dO m2);have h2:=HA.o.lN _ (dO m2);unfold fq jT;cases iB A l d (z%A.ah.length) (z/A.ah.length)
     ·exact ⟨λt h=>by simp at h,by simp⟩
     ·simp only [Qo];refine ⟨λt h=>?_,?_⟩
      ·obtain ⟨s,h3,rfl⟩:=OC.1 h;have h4:=h2 s (Og.1 h3).1
       have h5:=pC bA m1;have h6:(gi l d (z/A.ah.length)+1)*A.ah.length<=(l.length+d.length)*A.ah.length:=PY _ h5;rw [Qz,aU]at h6;omega
      ·rw [NU];exact N5 (OD _ _) h1
    have bu:∀z,z<n->((vD Rs).getD z []).length<=16777216:=λz hz=>by rw [cQ z hz,NU];exact (bC z hz).2
    have bw:(vD Rs).length=n:=by unfold vD;rw [NU];exact dS
    refine ⟨va,jl,vc,J,ve,bm,vD Rs,vl,bn,aH (List.replicate n 0),vn,bo,Jq A,n,aU.symm,?_,⟨⟨⟨bw,r1,λz hz y hy=>?_,λz hz=>?_,dT⟩,?_,λz hz=>?_,bu⟩,?_,?_,?_,λi hi=>?_⟩,an,λz _=>rfl,HJ.o.symm,?_⟩
    ·unfold mr;rw [dv.o]
    ·rw [cQ z hz]at hy;obtain ⟨t,ht,rfl⟩:=OC.1 hy
     have:=(bC z hz).1 t ht;omega
    ·have:=bu z (by rw [<-bw];exact hz);omega
    ·rw [cm.o]at r3;rw [dy.o];exact r3
    ·have h1:=HA.o.aT _ (dO (bx z hz).2);have h2:=O1 (n:=2) (by decide) HA.o.sets
     exact NL h1 (N5 h2 (by decide))
    ·rw [cl.o]at r0;exact r0
    ·rw [List.length_replicate]at r2;exact r2
    ·rw [<-cl.o,<-HJ.o];exact N5 (OD _ _) (by rw [ar.o];omega)
    ·rw [<-HJ.o]at hi;have h1:=HA.o.aJ i (Og.1 hi).1
     have h2:1*G<=k*G:=PY _ dQ;rw [Nat.one_mul,cv.o]at h2;rw [ae.o]at h1;omega
    ·exact de.aM
def x4{A:Au}(h:fS A):Valid A:=⟨h.aJ,λn a q b=>h.lN _ (dO a) q b⟩
def qi{E:List (List Int)}{hit hit':Nat->Nat->Prop}{S q:Nat}(h:∀s x,x<E.length->(hit s x↔hit' s x)):rG E hit S q↔rG E hit' S q:=by constructor;rintro ⟨p,b,a,c⟩;exact ⟨p,b,a,λs f i=>by obtain ⟨j,e,d⟩:=c s f i;exact ⟨j,e,(h s _ (a j).1).1 d⟩⟩;rintro ⟨p,b,a,c⟩;exact ⟨p,b,a,λs f i=>by obtain ⟨j,e,d⟩:=c s f i;exact ⟨j,e,(h s _ (a j).1).2 d⟩⟩
def Ak(A:Au)(c a:List Nat)(w:WD)(e:Ending)(d:WD):Prop:=∃b,e=RT (.bool b)/\(b=true↔jR A (cJ c a))/\BW w d
def BC(w:WD)(A:Au)(k:OA)(l J:Nat)(m:OA)(o K:Nat)(hv:bY w A k l m o)(hA:fS A)(B:OA)(p D:Nat)(z:OA)(f C:Nat)(st T:List Nat)(ah:aG .u64 w B p (aH st))(d:aG .u64 w z f (aH T))(hL:gV st T)(hp:0<f)(hN:p+f<=255):
 CL 10 #[.agg #[IV A.sets,.slice k l J,.slice m o K],.agg #[.slice B p D,.slice z f C]] w (Ak A st T w):=by
 obtain ⟨q,hq⟩:=EX w.heap.size
 obtain ⟨M,y⟩:=EX (w.alloc (.cells #[IV A.sets,.slice k l J,.slice m o K] 36))
 obtain ⟨c,v⟩:=EX (M.alloc (.cells #[.slice B p D,.slice z f C] 25))
 have af:BW w M:=y▸ag _ _
 have P:BW M c:=v▸ag _ _
 have U:M.heap.size=q+1:=by rw [<-y,NG,hq]
 have g:BW w c:=aa af P
 have R:HC c q #[IV A.sets,.slice k l J,.slice m o K] 36:=(P.block q (by omega)).trans (by rw [<-y,<-hq];exact (ND w _).1)
 have Q:HC c (q+1) #[.slice B p D,.slice z f C] 25:=by rw [<-v,<-U];exact (ND M _).1
 have O:Hid (∀a:WD,BW c a->CA a q 0 (IV A.sets)/\CA a q 1 (.slice k l J)/\CA a q 2 (.slice m o K)/\CA a (q+1) 0 (.slice B p D)/\CA a (q+1) 1 (.slice z f C)):=λa h=>by have F:=(h.block q (Nu.1 R).1).trans R;have G:=(h.block (q+1) (Nu.1 Q).1).trans Q;exact ⟨CH F,CH F,CH F,CH G,CH G⟩
 have HV:Hid (∀a,BW c a->bY a A k l m o):=λa h=>hv.af (aa g h)
 have ao:Hid (CL 23 #[.agg #[IV A.sets,.slice k l J,.slice m o K]] c λe a=>e=RT (IV 0)/\BW c a):=ft c A k l J m o K (HV.o c (Nx _ _)) hA
 have ar:Hid (∀a:WD,CL 24 #[.agg #[.slice B p D,.slice z f C]] a λe ai=>e=RT (IV 0)/\BW a ai):=λa=>by refine (Dv B p D z f C a (by omega) (by omega)).mono ?_;rintro e ai ⟨rfl,hb⟩;refine ⟨?_,hb⟩;unfold dM;rw [Of (by omega),Of (by omega)]
 have ak:Hid (∀a,BW c a->CL 25 #[.agg #[IV A.sets,.slice k l J,.slice m o K],.agg #[.slice B p D,.slice z f C]] a (Ad a A st T)):=λa h=>
  EH a A k l J m o K (HV.o a h) hA B p D z f C st T (ah.af (aa g h)) (d.af (aa g h)) hL hp hN
 have Y:Hid (T.length=f):=by have:=d.1;rw [aC]at this;exact this
 have V:=Nq hA
 have X:=Nq hL
 have HP:=Nq hp
 have al:=Nq g
 obtain ⟨b0,b1,b2,b3,b4⟩:=O.o c (Nx _ _)
 clear hv hA ah d hL hp hN af P g R Q
 go_enter Tryz.func10,Tryz.ntmps10
 go_upto_region 1 with(fail)
 (try rw [v])
 (try rw [hq])
 (try rw [U])
 clear v hq y U
 have ay:((0:Int)==0)=true:=rfl
 go_wp2_with (first|(go_at_call 23;refine ao.o.mono ?_;rintro e w2 ⟨rfl,ab⟩;have W:=Nq ab;clear ab;obtain ⟨c0,c1,c2,c3,c4⟩:=O.o w2 W.o;have aq:=Nq (ar.o w2))|(go_at_call 24;refine aq.o.mono ?_;rintro e w3 ⟨rfl,ac⟩;have N:=Nq (aa W.o ac);clear ac;obtain ⟨d0,d1,d2,d3,d4⟩:=O.o w3 N.o;have aj:=Nq (ak.o w3 N.o))|(go_at_call 25;refine aj.o.mono ?_;rintro e w4 ⟨xa,xl,xc,I,ae,ce,E,au,av,L,aw,ax,IN,n,hn,rfl,j,r,u,Z,t⟩;have ap:=Nq (Dm w4 xa xl xc I ae n ce E au av L aw ax IN A.sets V.o.sets j);have HX:=Nq (And.intro hn (And.intro j (And.intro r (And.intro u (And.intro Z t)))));clear hn j r u Z t;unfold mr)|(go_at_call 26;refine ap.o.mono ?_;rintro e w5 ⟨b,rfl,hb,ad⟩;have an:=Nq hb;have am:=Nq ad;clear hb ad))
 go_ret
 obtain ⟨hn,j,r,u,Z,t⟩:=HX.o
 refine ⟨_,rfl,?_,aa al.o (aa N.o (aa t am.o))⟩
 rw [an.o,xX r (x4 V.o) (by rw [Y.o];exact HP.o)]
 have d:0<T.length:=by rw [Y.o];exact HP.o
 have H:∀i,rG E (λs x=>(IN x).testBit s=true) A.sets i↔rG E (λs x=>(A.aw (x%A.ah.length)).aT.testBit s=true) A.sets i:=λi=>qi λs x hx=>by rw [j.pg.gr.bC]at hx;rw [u x hx]
 constructor
 rintro ⟨i,h1,F⟩
 rw [Z]at h1
 obtain ⟨G,h4⟩:=Og.1 h1
 have S:=V.o.aJ i G
 refine ⟨i,G,(iK (V.o.bits _ (dO S)).1 (X.o.lt 0 d)).1 h4,?_⟩
 rw [Q4,Od]
 exact (H i).1 F
 rintro ⟨i,G,h4,F⟩
 have S:=V.o.aJ i G
 rw [Q4,Od]at F
 refine ⟨i,?_,(H i).2 F⟩
 rw [Z]
 exact Og.2 ⟨G,(iK (V.o.bits _ (dO S)).1 (X.o.lt 0 d)).2 h4⟩
section
def gU(n:Nat):Nat:=(n+63)/64
structure dY (w:WD) (sb wb n:Nat) (f:Nat->Bool) (W:List Nat):Prop where
 dp:w.heap[sb]? =some (.cells #[IV n,SV wb (gU n) (gU n)] 178 (0,0))
 words:Sl w 45 (SV wb (gU n) (gU n)) (gU n) (dK W)
 lt:∀x∈W,x<18446744073709551616
 bit:∀i,(W.getD (i/64) 0).testBit (i%64)=(decide (i<n)&&f i)
section
variable {w w1:WD} {sb wb n:Nat} {f:Nat->Bool} {W:List Nat}
def dY.L4(h:dY w sb wb n f W):W.length=gU n:=by have:=h.words.1;simpa [dK]using this
def dY.eE(h:dY w sb wb n f W):sb<w.heap.size/\wb<w.heap.size:=⟨(Nu.1 h.dp).1,h.words.lt wb rfl⟩
def dY.ne(h:dY w sb wb n f W):wb≠sb:=λe=>Rg h.words h.dp (by decide) (by rw [<-e];rfl)
def dY.aA{T:Nat->Prop}(h:dY w sb wb n f W)(a:aj T w w1)(b:¬T sb)(c:¬T wb):dY w1 sb wb n f W:=
 ⟨(a.block sb h.eE.1 b).trans h.dp,h.words.aA a (λg e s=>by have:=ig e;subst this;exact c s),h.lt,h.bit⟩
def dY.af(h:dY w sb wb n f W)(a:BW w w1):dY w1 sb wb n f W:=h.aA (aj.aF a) (by have:=h.eE;omega) (by have:=h.eE;omega)
def dY.cells(h:dY w sb wb n f W):CA w sb 0 (IV n)/\CA w sb 1 (SV wb (gU n) (gU n)):=⟨CH h.dp,CH h.dp⟩
def dY.word(h:dY w sb wb n f W){j:Nat}(b:j<gU n):w.cell? (AD wb j)=some (UV ((W.getD j 0:Nat):Int))/\w.frozen? (AD wb j)=false/\W.getD j 0<18446744073709551616:=by have a:=fG h.words;have c:=h.L4;have hw:W[j]? =some W[j]:=Ny (by omega);refine ⟨?_,NA a j,?_⟩;rw [Nt a];simp [dK,Nw,hw];rw [Nw,hw];exact h.lt _ (NI hw)
end
def wR(w:WD)(sb wb n:Nat)(f:Nat->Bool)(W:List Nat)(h:dY w sb wb n f W):CL 130 #[PT sb] w λe a=>e=RT (IV n)/\a=w:=by obtain ⟨b,-⟩:=h.cells;clear h;go_enter Tryz.func130,Tryz.ntmps130;go_wp2;go_ret;exact ⟨rfl,rfl⟩
def DM(i:Nat):Int.tdiv (i:Int) 64=((i/64:Nat):Int)/\(i:Int)/64=((i/64:Nat):Int)/\Int.tmod (i:Int) 64=((i%64:Nat):Int)/\(i:Int)%64=((i%64:Nat):Int):=by refine ⟨?_,by simp,?_,by simp⟩;rw [Int.tdiv_eq_ediv_of_nonneg (by omega)];simp;rw [Pm (by omega)];simp
def wQ(w:WD)(sb wb n:Nat)(f:Nat->Bool)(W:List Nat)(h:dY w sb wb n f W)(G:n<=65536)(i:Nat)(z:i<n):CL 114 #[PT sb,IV i] w λe C=>e=RT (.bool (f i))/\BW w C:=by
 have q:=Nq (wR w sb wb n f W h);obtain ⟨D,s⟩:=h.cells;obtain ⟨j,g⟩:=EX (i/64);obtain ⟨r,l⟩:=EX (i%64);obtain ⟨k,o⟩:=EX (gU n);have c:j<gU n:=by unfold gU;omega
 obtain ⟨E,-,d⟩:=h.word c;obtain ⟨t,u,v,y⟩:=DM i;have a:=h.bit i;rw [g,l,N6 z,OM]at a;rw [g]at t u;rw [l]at v y;rw [o]at s c;have b:=DD (W.getD j 0) r d;rw [a]at b;generalize f i=F at *;generalize W.getD j 0=x at *;have m:(j:Int)<(k:Int):=by omega
 have A:(i:Int)<(n:Int):=by omega
 have p:r<64:=by omega
 have B:j<=65536:=by omega
 clear h g l o a d;go_enter Tryz.func114,Tryz.ntmps114;go_wp2_with (go_at_call 130;refine q.o.mono ?_;rintro e H ⟨rfl,rfl⟩);go_ret;exact ⟨rfl,Nx _ _⟩
def GM(w:WD)(n:Nat)(e:Ending)(a:WD):Prop:=e=RT (PT (w.heap.size+1))/\dY a (w.heap.size+1) w.heap.size n (λ_=>false) (List.replicate (gU n) 0)/\BW w a
def Db(w:WD)(n:Nat)(K:n<=65536):CL 92 #[IV n] w (GM w n):=by
 obtain ⟨z,m,t,p,j⟩:=Ol Tryz.vO;have J:decide ((65536:Int)<(n:Int))=false:=NX (by omega);have F:decide (65536<n)=false:=NX (by omega);obtain ⟨k,o⟩:=EX (gU n);have G:k<=1024:=by rw [<-o];unfold gU;omega
 have c:(n+63)/64=k:=o;have L:Int.tdiv ((n:Int)+64-1) 64=(k:Int):=by
  have e:((n:Int)+64-1)=((n+63:Nat):Int):=by omega
  rw [e,(DM (n+63)).1,c]
 have M:Int.tdiv ((n:Int)+63) 64=(k:Int):=by
  have e:((n:Int)+63)=((n+63:Nat):Int):=by omega
  rw [e,(DM (n+63)).1,c]
 have N:((n:Int)+64-1)/64=(k:Int):=by omega
 have O:((n:Int)+63)/64=(k:Int):=by omega
 obtain ⟨q,y⟩:=EX w.heap.size;obtain ⟨a,d⟩:=EX (w.alloc (.cells (madeCells #[UV 0] k) 45));have I:a.heap.size=q+1:=by rw [<-d,NG,y]
 have l:BW w a:=d▸ag _ _;obtain ⟨u,r⟩:=EX (a.alloc (.cells #[IV n,SV q k k] 178));have b:BW a u:=r▸ag _ _;have B:(madeCells #[UV 0] k).toList=dK (List.replicate k 0):=by have h:=bZ (UV 0) rfl k;rw [PZ]at h;have E:(Value.int IntKind.u64 0).cells=#[UV 0]:=rfl;rw [E]at h;rw [h];unfold dK;rw [List.map_replicate];rfl
 have v:Sl a 45 (SV q k k) k (dK (List.replicate k 0)):=by refine gQ ?_ (by simp [dK]) (by unfold maxLen;omega);rw [<-d,<-y,<-B];exact (ND w _).1
 have D:Hid (dY u (q+1) q n (λ_=>false) (List.replicate (gU n) 0)):=by
  refine ⟨?_,?_,λx H=>?_,λi=>?_⟩;rw [o,<-r,<-I];exact (ND a _).1;rw [o];exact v.aA (aj.aF b) (λg e s=>by have:=ig e;omega);rw [List.eq_of_mem_replicate H];decide;have e:(List.replicate (gU n) 0).getD (i/64) 0=0:=by rw [Nw,List.getElem?_replicate];split<;>rfl
  rw [e,PF,QQ]
 have C:Hid (BW w u):=aa l b;have A:=Nq y;clear o c l b B v;go_enter Tryz.func92,Tryz.ntmps92;go_wp2_with (at_make;refine bJ rfl _ _ 23 rfl 45 z (UV 0) 1 PC m t p _ _ _ _ k rfl rfl rfl rfl (by rw [j];omega) (by unfold maxLen;omega) ?_;rintro P rfl v;clear v);go_ret;unfold GM;rw [A.o];exact ⟨rfl,D.o,by(try rw [<-A.o]);exact C.o⟩
def GN(w:WD)(sb wb n:Nat)(f:Nat->Bool)(i:Nat)(e:Ending)(a:WD):Prop:=e=RT (.bool true)/\∃W,dY a sb wb n (up f i true) W/\aj (λk=>k=wb) w a
def Kv{W:List Nat}{n i:Nat}{f:Nat->Bool}(d:∀i,(W.getD (i/64) 0).testBit (i%64)=(decide (i<n)&&f i))(g:i<n)(j:i/64<W.length)(m:Nat):
 ((W.set (i/64) (W.getD (i/64) 0|||2^(i%64))).getD (m/64) 0).testBit (m%64)=(decide (m<n)&&up f i true m):=by
 by_cases e:m/64=i/64
 rw [e]
 have b:(W.set (i/64) (W.getD (i/64) 0|||2^(i%64))).getD (i/64) 0=W.getD (i/64) 0|||2^(i%64):=by rw [Nw,Qn j];rfl
 rw [b,Nat.testBit_or,Sz]
 have c:=d m
 rw [e]at c
 rw [c]
 by_cases a:m=i
 subst a;rw [aB];simp [g]
 rw [an _ _ _ _ a]
 have:¬(i%64=m%64):=λh=>a (by omega)
 simp [this]
 have b:(W.set (i/64) (W.getD (i/64) 0|||2^(i%64))).getD (m/64) 0=W.getD (m/64) 0:=by rw [Nw,QT (λh=>e h.symm),<-Nw]
 rw [b,d m,an _ _ _ _ (λh=>e (by rw [h]))]
def Dc(w:WD)(sb wb n:Nat)(f:Nat->Bool)(W:List Nat)(h:dY w sb wb n f W)(hn:n<=65536)(i:Nat)(X:i<n)(hf:f i=false):CL 93 #[PT sb,IV i] w (GN w sb wb n f i):=by
 have HL:=Nq (wR w sb wb n f W h);have Z:Hid (CL 114 #[PT sb,IV i] w λe a=>e=RT (.bool false)/\BW w a):=by have:=wQ w sb wb n f W h hn i X;rw [hf]at this;exact this
 have HS:Hid (∀a,BW w a->dY a sb wb n f W):=λa B=>h.af B;have HI:=Nq X;obtain ⟨c0,T⟩:=h.cells;obtain ⟨j,M⟩:=EX (i/64);obtain ⟨r,O⟩:=EX (i%64);obtain ⟨k,N⟩:=EX (gU n);have b:j<gU n:=by unfold gU;omega
 obtain ⟨H,I,l⟩:=h.word b;obtain ⟨d1,d2,d3,d4⟩:=DM i;have E:Hid (j<W.length):=by show j<_;rw [h.L4];exact b
 rw [M]at d1 d2;rw [O]at d3 d4;have Q:=Nq M;have HR:=Nq O;have R:=Nq N;rw [N]at T b;have d:r<64:=by omega
 obtain ⟨y,C⟩:=EX (W.getD j 0|||2^r);have ac:=wv l d C;have HY:=Nq C;have G:Hid (y<18446744073709551616):=by have v:2^r<2^64:=Qy (by decide) d;have A:W.getD j 0|||2^r<2^64:=Rm l v;show y<_;rw [<-C];exact A
 have D:Hid (∀a,BW w a->CA a sb 1 (SV wb k k)/\CA a wb j (UV ((W.getD j 0:Nat):Int))/\FZ a wb j):=λa B=>by have v:=(h.af B).cells.2;have A:=(h.af B).word (j:=j) (by rw [R.o];exact b);rw [R.o]at v;exact ⟨v,A.1,A.2.1⟩
 have Y:(j:Int)<(k:Int):=by omega
 have aa:(i:Int)<(n:Int):=by omega
 have ab:j<=65536:=by omega
 clear h M O N l C H I;go_enter Tryz.func93,Tryz.ntmps93;go_upto_region 3 with(first|(go_at_call 130;refine HL.o.mono ?_;rintro e w2 ⟨rfl,rfl⟩)|(go_at_call 114;refine Z.o.mono ?_;rintro e o ⟨rfl,q⟩;have g:=Nq q;clear q));obtain ⟨p1,p2,p3⟩:=D.o o g.o;have wj:IntKind.i64.wrap (j:Int)=(j:Int):=by rw [Pv];omega
 have wr:IntKind.i64.wrap (r:Int)=(r:Int):=by rw [Pv];omega
 generalize u:W.getD j 0=x at *;have F:=Nq u;clear u c0 T;refine av 13 (S:=λa=>CA a sb 1 (SV wb k k)/\CA a wb j (UV x)) (by kernel_rfl) (⟨p1,p2⟩) (λJ=>?_);refine' az 0 ?_;refine' az 1 ?_;refine' az 2 ?_;refine' az 3 ?_;refine' az 4 ?_;refine' az 5 ?_;refine' az 6 ?_;refine' az 7 ?_;refine' az 8 ?_;refine' az 9 ?_;refine' az 10 ?_;refine' az 11 ?_;refine' az 12 ?_;refine aI 13 λK V=>?_;go_simp;refine V.o _ _ (λe=>nomatch e) ?_;clear V K;try walk_nrm
 refine ay (by kernel_rfl) ?_;go_wp2;go_ret;have c:=HS.o o g.o;have t:aj (λm=>m=wb) o (o.setCell (AD wb j) (UV y)):=(aj.refl (λm=>m=wb) o).setCell (p:=(AD wb j)) (λ_=>rfl) _;have L:=fG c.words;refine ⟨rfl,W.set j y,⟨(t.block sb c.eE.1 (λe=>c.ne e.symm)).trans c.dp,?_,λz P=>?_,λm=>?_⟩,?_⟩;have e:dK (W.set j y)=(dK W).set j (UV y):=by unfold dK;rw [List.map_set]
 refine gQ (w:=o.setCell (AD wb j) (UV y)) ?_ (by rw [e,Qk];simp [dK,c.L4]) (dT c.words).2.1;rw [e];simp [HC,World.setCell,Ow,L];rcases RS P with P|rfl;exact c.lt z P;exact G.o;have U:=Kv c.bit HI.o (by rw [Q.o];exact E.o) m;rw [Q.o,HR.o,F.o,HY.o]at U;exact U;exact ((aj.aF g.o).mono (λm hm s=>absurd hm (by omega))).then t.drew (λm _ s=>s)
end
end Go.Proofs.YtimniinkpipnmaaGreatDoor
namespace Go.Own
open Go.RowKit
def Af(P:Program)(m:Nat)(n:Array Value)(w:WD){α:Type}(c:α->Array Value)(g:List α->α->WD->Prop)(j:Nat->Prop)(f:List α->Prop):Prop:=
 ∀(l:Nat)(J:List α->(Nat->Prop)->WD->Prop)(W:WD),BW w W->w.heap.size<=l->l<W.heap.size->
  (∀a S A B,J a S A->aj (λk=>W.heap.size<=k/\¬S k) A B->J a S B)->(∀a S A,J a S A->∀k,S k->∃o,A.heap[k]? =some o/\o.isCells=true)->
  (∀a S x b,J a S b->g a x b->YieldAt Fence.wide 0 P l (c x) b λe d=>e=RT (.bool true)/\∃h,J (a++[x]) h d/\aj S b d/\∀k,h k->S k\/b.heap.size<=k)->
  J [] j W->Calls P m (#[.func (.yield l) #[] #[]]++n) W λe d=>(∃v,e=RT v)/\∃i S,f i/\J i S d
def oe{α:Type}{P:Program}{g:Operand}{ps:Array Tmp}{assign body:Code}{Q:Exit->Act->WD->Prop}{a:Act}{w:WD}
 {gf:Nat} {lb:Array Value} (hg:a.eval g=.func (.func gf) #[] lb) (eg:∀args w,(callFunc gf args).run P w=.ok (.enter gf args) w)
 {i:α->Array Value} {L:List α->α->WD->Prop} {S0:Nat->Prop} {ae:List α->Prop} (au:Af P gf lb w i L S0 ae) (ay:∀x,(i x).size=ps.size)
 (I:List α->(Nat->Prop)->WD->Prop)
 (hI:∀b S A B,I b S A->aj (λk=>w.heap.size<=k/\¬S k) A B->I b S B)
 (u:∀b S A,I b S A->∀k,S k->∃o,A.heap[k]? =some o/\o.isCells=true)
 (ag:∀b x A B,L b x A->aj (λk=>∃o,A.heap[k]? =some o/\o.isCells=false) A B->L b x B)
 (h0:I [] S0 w) (a₁:α->Act)
 (C:∀(l:Nat)(x:α)(W:WD)(K:Act->WD->Prop),K (a₁ x) W->assign.wpIn (Fence.wide.inRound l) 0 P (Exit.then K (λ_ _ _=>False)) {tmps:=(ps.zip (i x)).foldl (λt (p,v)=>t.setIfInBounds p v) a.tmps,defers:=[]} W)
 (Y:∀(l:Nat)(b:List α)(S:Nat->Prop)(x:α)(W:WD),w.heap.size<=l->I b S W->L b x W->body.wpIn (Fence.wide.inRound l) 0 P (pH I (λ_=>False) S (b++[x]) W) (a₁ x) W)
 (Z:∀(D:Nat)(xs:List α)(S:Nat->Prop)(W:WD),w.heap.size<=D->ae xs->I xs S W->W.heap[D]? =some (.deferred (some []))->Q .normal {a with defers:={target:=.collected D,args:=#[]}::a.defers} W):
 (Code.rangeFunc g ps assign body).wp P Q a w:=by
 refine (Sh (n:=0)).1 (wpIn_rangeFunc λfn aq=>?_)
 obtain ⟨f,c⟩:∃f:LoopState->Option Code->Loop,f=λst pe=>{state:=st,pending:=pe,fn:=fn,tmps:=a.tmps,params:=ps,assign:=assign,body:=body,defers:=w.heap.size}:=⟨_,rfl⟩
 obtain ⟨D,hD⟩:=EX w.heap.size
 obtain ⟨m,y⟩:=EX ((w.alloc (.deferred (some []))).alloc (.loop (f .ready none)))
 have ah:BW w m:=by rw [<-y];exact ((Below.refl _ w).alloc (Nz _) _).alloc (by simp) _
 have aA:m.heap.size=D+2:=by rw [<-y,<-hD];simp [Tl]
 have af:m.heap[D+1]? =some (.loop (f .ready none)):=by rw [<-y,<-hD];have:=RF (w.alloc (.deferred (some []))) (.loop (f .ready none));rwa [Tl]at this
 have ao:m.heap[D]? =some (.deferred (some [])):=by rw [<-y,<-hD];exact (Below.heap_alloc _ _ _ (by simp)).trans (RF w _)
 let J:List α->(Nat->Prop)->WD->Prop:=λb S W=>I b S W/\W.heap[D+1]? =some (.loop (f .ready none))/\W.heap[D]? =some (.deferred (some []))
 have bk:∀{A B:WD}{k:Nat}{o:Obj},BW A B->A.heap[k]? =some o->B.heap[k]? =some o:=λX h=>(X.block _ (Nu.1 h).1).trans h
 have kb:∀{A B:WD}(T:Nat->Prop),BW A B->aj T A B:=λT X=>(aj.aF X).mono λk j s=>absurd j (by omega)
 have al:∀{b:List α}{S:Nat->Prop}{W:WD}{k:Nat}{o:Obj},I b S W->W.heap[k]? =some o->o.isCells=false->¬S k:=λH j ho s=>by obtain ⟨o',G,M⟩:=u _ _ _ H _ s;rw [j]at G;cases G;rw [ho]at M;cases M
 have V:∀b S A B,I b S A->aj (λk=>w.heap.size<=k/\∃o,A.heap[k]? =some o/\o.isCells=false) A B->I b S B:=λb S A B H j=>hI _ _ _ _ H (j.mono λk _ s=>⟨s.1,by obtain ⟨o,G,M⟩:=s.2;exact al H G M⟩)
 have an:J [] S0 m:=⟨hI _ _ _ _ h0 (kb _ ah),af,ao⟩
 have F:∀(W:WD)(o:Loop)(o':Obj),W.heap[D+1]? =some (.loop o)->aj (λk=>w.heap.size<=k/\∃o,W.heap[k]? =some o/\o.isCells=false) W (W.putObj (D+1) o'):=λW o o' h=>
  (dq W (D+1) o').mono λk _ e=>by subst e;exact ⟨by omega,_,h,rfl⟩
 have ak:∀{b:List α}{S:Nat->Prop}{W:WD}{k:Nat}{o:Obj},I b S W->W.heap[k]? =some o->o.isCells=false->¬S k:=λH j ho s=>by obtain ⟨o',G,M⟩:=u _ _ _ H _ s;rw [j]at G;cases G;rw [ho]at M;cases M
 refine ⟨D+1,[{target:=.collected D,args:=#[]}],m,{target:=.fn (.func gf) lb,args:=#[.func (.yield (D+1)) #[] #[]]},m,gf,#[.func (.yield (D+1)) #[] #[]]++lb,m,?_,?_,λ_ _=>trivial,?_,λh=>(by cases h),?_⟩
 rw [<-y,c,<-hD];exact run_enterLoop_outer _ _ _ _ _
 simp only [resolve,hg]
 simp [go_sem]
 simp [invoke,go_sem,eg]
 refine Q8.2 ((au (D+1) J m ah (by omega) (Nu.1 af).1 ?_ ?_ ?_ an).mono ?_)
 exact λb S A B h X=>⟨hI _ _ _ _ h.1 (X.mono λk _ s=>⟨by have:=s.1;omega,s.2⟩),(X.block _ (Nu.1 h.2.1).1 (λs=>by have:=s.1;omega)).trans h.2.1,(X.block _ (Nu.1 h.2.2).1 (λs=>by have:=s.1;omega)).trans h.2.2⟩
 exact λb S A h=>u _ _ _ h.1
 rintro b S x W ⟨H,U,j⟩ az
 have aw:D+1<W.heap.size:=(Nu.1 U).1
 have hy:=run_yield (P:=P) (args:=i x) U (by rw [c];exact ay x)
 rw [c]at hy
 refine ⟨fn,_,assign,body,hy,roundIn_of_wpIn aq (C _ x W _ ?_)⟩
 clear hy
 refine ⟨_,run_beginRound U (by rw [c]),?_⟩
 obtain ⟨q,z⟩:=EX (W.putObj (D+1) (.loop {f .ready none with state:=.busy}))
 rw [z]
 have O:aj (λk=>w.heap.size<=k/\∃o,W.heap[k]? =some o/\o.isCells=false) W q:=by rw [<-z];exact F W _ _ U
 have R:aj (λk=>k=D+1) W q:=by rw [<-z];exact dq _ _ _
 have ac:q.heap[D+1]? =some (.loop {f .ready none with state:=.busy}):=by rw [<-z];exact Ro aw
 have ab:q.heap[D]? =some (.deferred (some [])):=(R.block D (Nu.1 j).1 (by omega)).trans j
 have aa:=V _ _ _ _ H O
 have ax:=ag _ _ _ _ az (O.mono λk _ h=>h.2)
 have aB:q.heap.size=W.heap.size:=by rw [<-z];simp [World.putObj]
 refine wpIn_mono (Y (D+1) b S x q (by omega) aa ax) ?_
 have am:∀(d:Option Code)(r:WD),aj S q r->∃N,(Instr.endRound (D+1) d).run P r=.ok (.bool d.isNone) N/\N.heap[D+1]? =some (.loop (f (if d.isNone then .ready else .done) d))/\N.heap[D]? =some (.deferred (some []))/\
  aj (λk=>w.heap.size<=k/\∃o,r.heap[k]? =some o/\o.isCells=false) r N/\aj (λk=>k=D+1) r N/\r.heap.size<=N.heap.size:=λd r h3=>by
  have ad:=(h3.block (D+1) (Nu.1 ac).1 (ak aa ac rfl)).trans ac
  have av:=(h3.block D (Nu.1 ab).1 (ak aa ab rfl)).trans ab
  have hr:=run_endRound (P:=P) d ad
  rw [c]at hr
  refine ⟨_,hr,?_,?_,F r _ _ ad,dq _ _ _,(dq r (D+1) _).size⟩
  rw [c];exact Ro (Nu.1 ad).1
  exact (Ql (by omega)).trans av
 rintro e a3 r hp
 cases e with
 |normal=>
  obtain ⟨S',ar,ai,ap⟩:=hp
  obtain ⟨N,hr,G,M,h3,h4,h5⟩:=am none r ai
  refine ⟨_,N,hr,⟨rfl,S',⟨V _ _ _ _ ar h3,G,M⟩,?_,λk s=>?_⟩⟩
  have E:=((R.mono (T:=λk=>k=D+1\/S k) λk _ e=>.inl e).then ai (λk _ s=>.inr s)).then h4 (λk _ e=>.inl e)
  refine ⟨E.os,E.tape,E.output,E.size,λk j hn=>?_⟩
  by_cases e:k=D+1
  rw [e]
  exact G.trans (by simpa using U.symm)
  exact E.block k j (λs=>s.elim e hn)
  rcases ap k s with h|h
  exact .inl h
  exact .inr (by omega)
 |ret=>exact hp.2.elim
 |exit id=>exact hp.elim
 |goto t=>exact hp.elim
 |panic ch=>exact hp.elim
 |outgrown=>exact hp.elim
 rintro e q ⟨⟨v,rfl⟩,xs,S,hS,H,U,j⟩
 have hr:=run_endLoop (P:=P) U (by rw [c];simp)
 rw [c]at hr
 exact ⟨none,_,hr,Z D xs S _ (by omega) hS (V _ _ _ _ H (F q _ _ U)) ((Ql (by omega)).trans j)⟩
end Go.Own
namespace Go.Proofs.YtimniinkpipnmaaGreatDoor
open Go.RowKit Go.Own
def Th:=@Nat.two_pow_pos
def Tn:=@Nat.testBit_two_pow_mul_add
def G6{x:Nat}(a:x≠0)(h:x<2^64):∃m,x=2^Lib.ctz 64 x*(2*m+1)/\Lib.ctz 64 x<64:=by
 have:=Lib.ctzFrom_spec 64 x (by omega) h;have e:Lib.ctz 64 x=Lib.ctzFrom 64 x:=by simp [Lib.ctz,a]
 rw [e];exact this
def Ik(m:Nat):(2*m+1).testBit 0=true:=by rw [Nat.testBit_zero];simp
def qd(k a j:Nat):(2^k*a).testBit j=(decide (k<=j)&&a.testBit (j-k)):=by have h:=Tn a (b:=0) (i:=k) (Th k) j;rw [Rl]at h;rw [h];by_cases e:j<k;rw [Oa e,NX (by omega)];simp;rw [Of e,N6 (by omega)];simp
def J6{x k m:Nat}(h:x=2^k*(2*m+1))(j:Nat):(x&&&(x-1)).testBit j=(decide (k+1<=j)&&x.testBit j):=by
 have o:0<2^k:=Th k;have g:x-1=2^k*(2*m)+(2^k-1):=by rw [h,Nat.mul_add,PZ];omega
 rw [PB,g,Tn _ (by omega),h,qd];by_cases n:j<k;have a:decide (k<=j)=false:=NX (by omega);have b:decide (k+1<=j)=false:=NX (by omega);rw [a,b];simp;rw [Of n];have a:decide (k<=j)=true:=N6 (by omega);rw [a,OM];rcases O8 k j with b|b;have c:decide (k+1<=j)=true:=N6 (by omega);obtain ⟨i,d⟩:∃i,j-k=i+1:=⟨j-k-1,by omega⟩;have e:(2*m+1)/2=m:=by omega
 have f:(2*m)/2=m:=by omega
 rw [c,d,Nat.testBit_succ,Nat.testBit_succ,e,f];simp;have c:decide (k+1<=j)=false:=NX (by omega);have d:j-k=0:=by omega
 have l:(2*m).testBit 0=false:=by rw [Nat.testBit_zero];simp
 rw [c,d,l];simp
def LF{x k m:Nat}(h:x=2^k*(2*m+1)):x&&&(x-1)<x:=by
 have a:0<2^k:=Th k;have:x≠0:=by rw [h];exact Nat.mul_ne_zero (by omega) (by omega)
 have:=@Nat.and_le_right x (x-1);omega
def xV(u t x:Nat):Prop:=x<2^64/\∀i,x.testBit i=(decide (t<=i)&&u.testBit i)
def x6(u:Nat):List Nat:=(List.range 64).filter (u.testBit ·)
def xV.none{u t:Nat}(h:xV u t 0)(g:t<=64):(List.range t).filter (u.testBit ·)=x6 u:=by
 have a:∀d t,t+d=64->(∀i,t<=i->u.testBit i=false)->(List.range t).filter (u.testBit ·)=x6 u:=by
  intro d;induction d with
  |zero=>intro t e _;rw [show t=64 by omega];rfl
  |succ d f=>intro t e c;rw [<-f (t+1) (by omega) (λi b=>c i (by omega)),OZ,OL];simp [c t (Nz _)]
 refine a (64-t) t (by omega) λi b=>?_;have:=h.2 i;rw [PF,N6 b,OM]at this;exact this.symm
def xV.step{u t x:Nat}(h:xV u t x)(o:x≠0):
 t<=Lib.ctz 64 x/\Lib.ctz 64 x<64/\u.testBit (Lib.ctz 64 x)=true/\xV u (Lib.ctz 64 x+1) (x&&&(x-1))/\x&&&(x-1)<x/\
  (List.range (Lib.ctz 64 x+1)).filter (u.testBit ·)=(List.range t).filter (u.testBit ·)++[Lib.ctz 64 x]:=by
 obtain ⟨m,c,n⟩:=G6 o h.1
 obtain ⟨k,j⟩:=EX (Lib.ctz 64 x)
 rw [j]at c n⊢
 have p:x.testBit k=true:=by rw [c,qd];simp [Ik]
 have b:∀i,i<k->x.testBit i=false:=λi v=>by rw [c,qd,NX (by omega),Pe]
 have a:=h.2 k
 rw [p]at a
 have f:t<=k:=by by_cases e:t<=k;exact e;rw [NX e]at a;cases a
 have g:u.testBit k=true:=by rw [N6 f,OM]at a;exact a.symm
 have l:=LF c
 refine ⟨f,n,g,⟨by have:=h.1;omega,λi=>?_⟩,l,?_⟩
 rw [J6 c,h.2 i]
 by_cases e:k+1<=i
 rw [N6 e,N6 (show t<=i by omega)];simp
 rw [NX e];simp
 have q:∀d,t+d<=k->(List.range (t+d)).filter (u.testBit ·)=(List.range t).filter (u.testBit ·):=by
  intro d;induction d with
  |zero=>intro _;rfl
  |succ d s=>
   intro e;have r:u.testBit (t+d)=false:=by have:=h.2 (t+d);rw [b _ (by omega),N6 (show t<=t+d by omega),OM]at this;exact this.symm
   rw [show t+(d+1)=t+d+1 by omega,OZ,OL,s (by omega)];simp [r]
 have:=q (k-t) (by omega)
 rw [show t+(k-t)=k by omega]at this
 rw [OZ,OL,this]
 simp [g]
def eG.aA{T:Nat->Prop}{w c:WD}(h:eG w)(f:aj T w c)(d:¬T 0):eG c:=λj b=>by have a:=Nr w _ (h j b);have e:=f.block 0 a d;have:=h j b;simpa [World.cell?,e]using this
def eG.cQ{w:WD}(h:eG w):0<w.heap.size:=Nr w _ (h 0 (by decide))
def Cr(w:WD)(Z u:Nat)(hu:u<18446744073709551616)(j:eG w)(c:CA w Z 0 (UV u))(P:Nat->Prop)(F:∀k,P k->k≠0):
 Af Tryz.prog 94 #[PT Z] w (λx:Nat=>#[IV x]) (λa x _=>a.length<=x/\x<64/\u.testBit x=true) P (λxs=>xs=x6 u):=by
 intro l J W U ae af hJ D hY C
 have HJ:=Nq hJ
 have HY:=Nq hY
 have o:=Nq C
 have ad:=j.cQ
 have z:Hid (eG W):=j.af U
 have b0:CA W Z 0 (UV u):=(U.cell (Nr w _ c)).trans c
 have r:=Nq F
 have I:l≠0:=by omega
 have ac:=Nq I
 clear hJ D hY C F c U j I
 go_enter Tryz.func94,Tryz.ntmps94
 go_wp2
 go_loopw [3] (λv wr=>∃(x t:Nat)(a:List Nat)(T:Nat->Prop),v=UV x/\t<=64/\Hid (xV u t x)/\Hid (a=(List.range t).filter (u.testBit ·))/\Hid (J a T wr)/\Hid (eG wr)/\Hid (∀k,T k->k≠0)) (λv _=>(intOf v).toNat)
 exact ⟨u,0,[],P,rfl,NS _,⟨hu,λi=>by simp⟩,Nq rfl,o,z,r⟩
 clear o z r
 obtain ⟨x,t,a,T,rfl,ht,M,b,V,d,m⟩:=hrel
 have g:x<18446744073709551616:=M.o.1
 by_cases Y:x=0
 ·subst Y;have e0:(((0:Nat):Int)!=0)=false:=rfl
  go_wp2;go_end0;exact ⟨⟨_,rfl⟩,a,T,by rw [b.o];exact M.o.none ht,V.o⟩
 ·obtain ⟨h1,h2,Q,R,h5,S⟩:=M.o.step Y;have h:=Nq (BI x g Y wr d.o)
  obtain ⟨k,H⟩:=EX (Lib.ctz 64 x);rw [H]at h1 h2 Q R S h;have H4:=Nq R;have H6:=Nq S;have f:bits .and .u64 (x:Int) ((x-1:Nat):Int)=((x&&&(x-1):Nat):Int):=Pw _ _ g (by omega);obtain ⟨y,X⟩:=EX (x&&&(x-1));rw [X]at f H4 h5;have K:((x-1:Nat):Int)=(x:Int)-1:=by omega
  rw [K]at f;have ag:IntKind.u64.wrap ((x:Int)-1)=(x:Int)-1:=by simp [IntKind.wrap,IntKind.bits,IntKind.signed];omega
  have e0:((x:Int)!=0)=true:=by simp;omega
  have A:=Nq (HY.o a T k wr V.o ⟨by rw [b.o];have:=OD (u.testBit ·) (List.range t);rw [OQ]at this;omega,h2,Q⟩);clear Q R S H X M;go_upto_region 3 with(fail);refine (Sh (n:=0)).1 ?_;gi_wp2_with (refine ⟨PO,rfl,?_⟩;gi_at_call 95;refine (Q8.2 h.o).mono ?_;rintro e w4 ⟨rfl,rfl⟩;obtain ⟨fn,ab,L,aa,X,E⟩:=A.o;have q:=Nq E;clear E);refine ⟨rfl,q.o.mono ?_⟩;have p:Hid (a++[k]=(List.range (k+1)).filter (u.testBit ·)):=by show _=_;rw [H6.o,b.o]
  rintro e W' ⟨rfl,T',B,H,G⟩
  ·have N:=Nq B;have H0:Hid (eG W'):=d.o.aA H (λs=>m.o 0 s rfl)
   have O:Hid (∀k,T' k->k≠0):=λk s=>by
    rcases G k s with s|s
    ·exact m.o k s
    ·have:=d.o.cQ;omega
   clear B H G A h q V d m b H6;simp only [];gi_wp2;go_wp2;go_roundw;exact ⟨y,k+1,_,T',rfl,by omega,H4,p,N,H0,O⟩;simp [intOf];omega
section
def Cs(w:WD)(u:Nat):CL 65 #[UV u] w λe c=>e=RT (.func (.func 94) #[] #[PT w.heap.size])/\c=w.alloc (.cells #[UV u] 45):=by obtain ⟨b,a⟩:=EX (w.alloc (.cells #[UV u] 45));go_enter Tryz.func65,Tryz.ntmps65;go_wp2;go_ret;exact ⟨rfl,by first|exact a.symm|rfl|trivial⟩
def EF(w:WD)(sb:Nat):CL 115 #[PT sb] w λe c=>e=RT (.func (.func 152) #[] #[PT w.heap.size])/\c=w.alloc (.cells #[PT sb] 134):=by obtain ⟨b,a⟩:=EX (w.alloc (.cells #[PT sb] 134));go_enter Tryz.func115,Tryz.ntmps115;go_wp2;go_ret;exact ⟨rfl,by first|exact a.symm|rfl|trivial⟩
def gK(W:List Nat)(j:Nat):List Nat:=(List.range (j*64)).filter λi=>(W.getD (i/64) 0).testBit (i%64)
def Av(W:List Nat)(j:Nat):gK W (j+1)=gK W j++(x6 (W.getD j 0)).map (64*j+ ·):=by
 unfold gK x6;have e:(j+1)*64=j*64+64:=by omega
 rw [e,List.range_add,OL,List.filter_map];congr 1;rw [show(λx=>64*j+x)=(λx=>j*64+x)from funext λx=>by omega];congr 1;refine Rj λi a=>?_;have a:=Oq.1 a;have b:(j*64+i)/64=j:=by omega
 have c:(j*64+i)%64=i:=by omega
 simp only [Function.comp,b,c]
def B7{w:WD}{sb wb n:Nat}{f:Nat->Bool}{W:List Nat}(h:dY w sb wb n f W):gK W (gU n)=(List.range n).filter f:=by
 unfold gK;have d:n<=gU n*64:=by unfold gU;omega
 have e:gU n*64=n+(gU n*64-n):=by omega
 rw [e,List.range_add,OL];have a:((List.range (gU n*64-n)).map (n+ ·)).filter (λi=>(W.getD (i/64) 0).testBit (i%64))=[]:=by refine Sf.2 λx c=>?_;obtain ⟨y,-,rfl⟩:=OC.1 c;rw [h.bit,NX (by omega)];simp
 rw [a,Om];exact Rj λi b=>by rw [h.bit,N6 (Oq.1 b),OM]
structure yS (J:List Nat->(Nat->Prop)->WD->Prop) (Wz q sb wb n:Nat) (f:Nat->Bool) (W:List Nat) (yl:Value) (Ds:List Nat) (pre:List Nat) (S:Nat->Prop) (A:WD):Prop where
 j:J pre S A
 set:dY A sb wb n f W
 n8:eG A
 yc:A.cell? (AD q 0)=some yl
 cK:∀k,S k->k≠0/\k≠sb/\k≠wb/\k≠q
 marks:∀D∈Ds,Wz<=D/\A.heap[D]? =some (.deferred (some []))
section
variable {J:List Nat->(Nat->Prop)->WD->Prop} {Wz q sb wb n:Nat} {f:Nat->Bool} {W:List Nat} {yl:Value} {Ds pre pre':List Nat} {S S':Nat->Prop} {A B:WD}
def yS.hold{T:Nat->Prop}(h:yS J Wz q sb wb n f W yl Ds pre S A)(l:J pre' S' B)(b:aj T A B)(c:¬T 0)(d:¬T sb)(e:¬T wb)(g:¬T q)(i:∀D∈Ds,¬T D)(j:∀k,S' k->S k\/A.heap.size<=k):yS J Wz q sb wb n f W yl Ds pre' S' B:=
 ⟨l,h.set.aA b d e,h.n8.aA b c,b.aq h.yc g,λk s=>by rcases j k s with s|s;exact h.cK k s;have:=h.set.eE;have:=h.n8.cQ;have:=Nr A _ h.yc;simp only at this;omega,λD a=>⟨(h.marks D a).1,(b.block D (Nu.1 (h.marks D a).2).1 (i D a)).trans (h.marks D a).2⟩⟩
end
def KU(D:Nat):Deferred:={target:=.collected D,args:=#[]}
def zD{g:Func}{a:Array Value}{R:Ending->WD->Prop}(Ds:List Nat)(c:Ds.Nodup)(w:WD)(i:∀D∈Ds,w.heap[D]? =some (.deferred (some [])))
 (h:∀b,aj (λk=>k∈Ds) w b->LeavesInM Fence.wide 0 Tryz.prog g a R [] .returning b):LeavesInM Fence.wide 0 Tryz.prog g a R (Ds.map KU) .returning w:=by
 induction Ds generalizing w with
 |nil=>exact h w (aj.refl _ _)
 |cons D Ds o=>
  have l:=RC.1 c
  refine ⟨by simp,.inl ⟨_,_,rfl,Tm (i D (Ok ..)),?_⟩⟩
  refine o l.2 _ (λE j=>?_) λb m=>h b ?_
  have d:E≠D:=λe=>l.1 (e▸j)
  exact (Ql d).trans (i E (Ot _ j))
  exact ((dq w D _).mono (T:=λk=>k∈D::Ds) λk _ e=>by subst e;exact Ok ..).then m λk _ s=>Ot _ s
end
section
open Go.Shelf
attribute [local go_sem] Oper.semAt_some
def EE(w:WD)(pb d H n:Nat)(f:Nat->Bool)(g:List Nat)(hn:n<=65536)(aD:eG w)(hS:dY w d H n f g)(t:w.cell? (AD pb 0)=some (PT d))(S0:Nat->Prop)(aB:∀k,S0 k->k≠0/\k≠d/\k≠H):
 Af Tryz.prog 152 #[PT pb] w (λx:Nat=>#[IV x]) (λC x _=>C.length<=x/\x<n/\f x=true) S0 (λxs=>xs=(List.range n).filter f):=by
 intro l J W hW bg a7 hJ ai hY ah
 have HJ:=Nq hJ
 have X:=Nq ai
 have HY:=Nq hY
 obtain ⟨q,hq⟩:=EX W.heap.size
 have bh:pb<q:=by have:=Nr w _ t;have:=hW.size;simp only at *;omega
 obtain ⟨w1,P⟩:=EX (W.alloc (.cells #[.func (.yield l) #[] #[]] 83))
 have M:BW W w1:=P▸ag _ _
 have aH:w1.cell? (AD q 0)=some (.func (.yield l) #[] #[]):=by rw [<-P,<-hq,Nt (ND W _).1];rfl
 have aO:w1.heap.size=q+1:=by rw [<-P,NG,hq]
 have ar:=Nq aO
 have HQ:=Nq hq
 have b0:w1.cell? (AD pb 0)=some (PT d):=by have Z:=Nr w _ t;have h2:=(hW.cell Z).trans t;exact (M.cell (Nr W _ h2)).trans h2
 have aC:=hS.af hW
 have ad:Hid (yS J q q d H n f g (.func (.yield l) #[] #[]) [] (gK g 0) S0 w1):=⟨by
  have:gK g 0=[]:=by simp [gK]
  rw [this];refine HJ.o _ _ _ _ ah ((aj.aF M).mono λk p s=>absurd p (by omega)),aC.af M,(aD.af hW).af M,aH,λk s=>?_,λD r=>by cases r⟩
 case refine_1=>obtain ⟨o,ho,-⟩:=ai _ _ _ ah k s;have:=(Nu.1 ho).1;have:=aB k s;omega
 obtain ⟨c0,c1⟩:=ad.o.set.cells
 obtain ⟨K,hK⟩:=EX (gU n)
 have bd:K<=1024:=by rw [<-hK];unfold gU;omega
 rw [hK]at c1
 have aq:=Nq hK
 have HL:Hid (l<q):=by show l<q;omega
 clear hJ ai hY ah hS aB aD t hW aC hK aO M
 refine (Q8 (n:=0)).1 (SS Tryz.func152 rfl PO ?_ rfl)
 rw [Sh]
 simp only [Tryz.ntmps152,Rk,Ou,PA,Nat.reduceAdd,Nat.reduceSub,Ss,Su,S1,Sy,PU,OW]
 go_upto_region 1 with(fail)
 try rw [P]
 clear P
 go_wp2
 refine wp_loop_ghost_k (λm a wr=>∃(j:Nat)(I:List Nat)(T:Nat->Prop)(v3 v4 aQ aR aS aT aU aV ap:Value),j<=K/\m=K-j/\Hid (I.Nodup)/\Hid (yS J q q d H n f g (.func (.yield l) #[] #[]) I (gK g j) T wr)/\q+1<=wr.heap.size/\
  a={tmps:=#[.func (.yield l) #[] #[],PT pb,PT q,v3,v4,undef,PT d,.bool false,PT d,PT d,.pointer (some (AD d 1)),SV H K K,IV K,IV j,aQ,aR,aS,aT,aU,aV,undef,undef,undef,undef,undef,undef,undef,undef,ap],defers:=I.map KU}) K ?start ?round
 case start=>exact ⟨0,[],S0,undef,undef,undef,undef,undef,undef,undef,undef,undef,NS _,rfl,List.nodup_nil,ad,by rw [ar.o];exact Nz _,rfl⟩
 case round=>
  clear ad c0 c1 b0 aH ar;intro gk a wr hr;obtain ⟨j,I,T,v3,v4,aQ,aR,aS,aT,aU,aV,ap,hj,hm,aM,v,a9,aE⟩:=hr;subst aE hm;intro JJ KK az be;have a1:=Nq az;clear az;by_cases a6:j<K;have bb:(j:Int)<(K:Int):=by omega
  obtain ⟨cw,-,R⟩:=v.o.set.word (show j<gU n by rw [aq.o];exact a6);obtain ⟨b,O⟩:=EX wr.heap.size;obtain ⟨x,hx⟩:=EX (g.getD j 0);rw [hx]at cw R;have HX:=Nq hx;have aJ:=v.o.set.eE;have aN:=v.o.n8.cQ;have ae:Hid (∀D∈I,D<b):=λD r=>by rw [<-O];exact (Nu.1 (v.o.marks D r).2).1
  have av:Hid (∀k,T k->k<b):=λk s=>by obtain ⟨o,ho,-⟩:=X.o _ _ _ v.o.j k s;rw [<-O];exact (Nu.1 ho).1
  obtain ⟨G,ac⟩:=EX (wr.alloc (.cells #[IV j] 3));obtain ⟨F,Q⟩:=EX (G.alloc (.cells #[UV x] 45));have sa:G.heap.size=b+1:=by rw [<-ac,NG,O]
  have si:F.heap.size=b+2:=by rw [<-Q,NG,sa]
  have aF:BW wr G:=ac▸ag _ _;have ak:BW G F:=Q▸ag _ _;have al:BW wr F:=aa aF ak;have am:G.cell? (AD b 0)=some (IV j):=by rw [<-ac,<-O,Nt (ND wr _).1];rfl
  have aG:F.cell? (AD b 0)=some (IV j):=(ak.cell (Nr G _ am)).trans am;have aI:F.cell? (AD (b+1) 0)=some (UV x):=by rw [<-Q,<-sa,Nt (ND G _).1];rfl
  have V:Hid (yS J q q d H n f g (.func (.yield l) #[] #[]) I (gK g j) T F):=v.o.hold (HJ.o _ _ _ _ v.o.j ((aj.aF al).mono λk p s=>absurd p (by omega))) (aj.aF al) (by omega) (by omega) (by omega) (by omega) (λD r=>by have:=ae.o D r;omega) (λk s=>.inl s);have a0:Hid (Af Tryz.prog 94 #[PT (b+1)] F (λx:Nat=>#[IV x]) (λC y _=>C.length<=y/\y<64/\x.testBit y=true) T (λxs=>xs=x6 x)):=Cr F (b+1) x R V.o.n8 aI T (λk s=>(V.o.cK k s).1);have aX:Hid (CL 65 #[UV x] G λe w'=>e=RT (.func (.func 94) #[] #[PT (b+1)])/\w'=F):=by show Calls _ _ _ _ _;have:=Cs G x;rw [sa,Q]at this;exact this
  have au:=Nq si;have aZ:Hid (yS J q q d H n f g (.func (.yield l) #[] #[]) I (gK g j++([]:List Nat).map (64*j+ ·)) T F/\F.cell? (AD b 0)=some (IV j)/\(∀k,T k->k≠b)):=⟨by rw [NZ,Om];exact V.o,aG,λk s=>by have:=av.o k s;omega⟩;have L:Hid (d<b/\H<b/\q<b/\0<b):=⟨by omega,by omega,by omega,by omega⟩;have bf:j<=1024:=by omega
  clear hx aF ak al am aG aI V si Q aJ aN R a9 av;go_upto_region 5 with(fail);clear ac O sa cw;go_wp2_with (go_at_call 65;refine aX.o.mono ?_;rintro e w5 ⟨rfl,rfl⟩);refine oe (gf:=94) (lb:=#[PT (b+1)]) rfl (enters_of Tryz.func94 (by kernel_rfl) rfl) a0.o (λ_=>rfl)
   (λc S A=>yS J q q d H n f g (.func (.yield l) #[] #[]) I (gK g j++c.map (64*j+ ·)) S A/\A.cell? (AD b 0)=some (IV j)/\(∀k,S k->k≠b))
   (λC S A B h p=>?hI) (λC S A h=>X.o _ _ _ h.1.j) (λC x A B h p=>h) aZ.o
   (λy=>{tmps:=#[.func (.yield l) #[] #[],PT pb,PT q,PT b,UV x,IV y,PT d,.bool false,PT d,PT d,.pointer (some (AD d 1)),SV H K K,IV K,IV j,.bool true,IV j,.pointer (some (AD H j)),UV x,UV x,.func (.func 94) #[] #[PT (b+1)],IV y,undef,undef,undef,undef,undef,undef,undef,ap],defers:=[]}) ?assign ?body ?done
  case hI=>
   have hl:=L.o;have ba:=au.o;have hn:∀k,k<b+2->¬(w5.heap.size<=k/\¬S k):=λk p s=>by have:=s.1;omega
   refine ⟨h.1.hold (HJ.o _ _ _ _ h.1.j (p.mono λk _ s=>⟨by have:=s.1;have:=HQ.o;omega,λsk=>?_⟩)) p (hn _ (by omega)) (hn _ (by omega)) (hn _ (by omega)) (hn _ (by omega)) (λD r=>hn _ (by have:=ae.o D r;omega)) (λk s=>.inl s),p.aq h.2.1 (hn _ (by simp only;omega)),h.2.2⟩;exact s.2 sk
  case assign=>intro l2 y A K2 a5;gi_wp2;exact a5
  case body=>
   rintro l2 c T1 y A a7 U ⟨a8,bc,aP⟩;have N:=U.1.set.bit (64*j+y);have e1:(64*j+y)/64=j:=by omega
   have e2:(64*j+y)%64=y:=by omega
   rw [e1,e2,HX.o,aP]at N;have ao:64*j+y<n/\f (64*j+y)=true:=by have:=N.symm;simp only [OB,Rn]at this;exact this
   obtain ⟨z,hz⟩:=EX (64*j+y);rw [hz]at ao;have HZ:=Nq hz;have HI:=Nq U;have aL:(gK g j++c.map (64*j+ ·)).length<=z:=by rw [NH,NU];have:=OD (λi=>(g.getD (i/64) 0).testBit (i%64)) (List.range (j*64));rw [OQ]at this;unfold gK;omega
   have a3:=HY.o _ T1 z A U.1.j ⟨aL,ao⟩;have cq:=U.1.yc;have cj:=U.2.1;have w1:IntKind.i64.wrap ((j:Int)*64)=(j:Int)*64:=by rw [Pv];omega
   have w2:(j:Int)*64+(y:Int)=(z:Int):=by omega
   have w3:IntKind.i64.wrap (z:Int)=(z:Int):=by rw [Pv];omega
   have aY:=Nq U;obtain ⟨fn,tmps,Y,aw,bi,aA⟩:=a3;have a2:=Nq aA;clear aA U N e1 e2 hz ao aP a8 aL;gi_wp2;refine ⟨rfl,a2.o.mono ?_⟩;rintro e W' ⟨rfl,T',ay,p,ab⟩;have u:=aY.o;have hl:=L.o;have an:∀k,T1 k->k≠b:=u.2.2;have HP:Hid (pH (λc S A=>yS J q q d H n f g (.func (.yield l) #[] #[]) I (gK g j++c.map (64*j+ ·)) S A/\A.cell? (AD b 0)=some (IV j)/\(∀k,S k->k≠b)) (λ_=>False) T1 (c++[y]) A Exit.normal {tmps:=#[],defers:=[]} W'):=by
    refine ⟨T',⟨?_,p.aq u.2.1 (λs=>an _ s rfl),λk s=>?_⟩,p,ab⟩;rw [Oy,<-Ov];refine u.1.hold ?_ p (λs=>(u.1.cK _ s).1 rfl) (λs=>(u.1.cK _ s).2.1 rfl) (λs=>(u.1.cK _ s).2.2.1 rfl) (λs=>(u.1.cK _ s).2.2.2 rfl) (λD r s=>?_) ab;rw [NQ,NZ,HZ.o];exact ay;obtain ⟨o,ho,hc⟩:=X.o _ _ _ u.1.j D s;rw [(u.1.marks D r).2]at ho;cases ho;cases hc
    rcases ab k s with s|s;exact an k s;have:=Nr A _ u.2.1;simp only at this;omega
   clear ay p ab u an;simp only [];gi_wp2;exact HP.o
  case done=>rintro D xs T1 A r rfl U ax;have aW:=Nq ax;have HI:=Nq U;have a4:=Nq r;clear ax U r;go_wp2;have u:=HI.o;have hl:=L.o;have r:=a4.o;have ba:=au.o;refine Handed.intro (K-(j+1)) (by omega) (a1.o _ _ _ ⟨j+1,D::I,T1,_,_,_,_,_,_,_,_,_,by omega,rfl,?_,?_,?_,rfl⟩);exact RC.2 ⟨λh=>by have:=ae.o D h;omega,aM.o⟩;have Z:=u.1;rw [<-HX.o,<-Av]at Z;refine ⟨Z.j,Z.set,Z.n8,Z.yc,Z.cK,λE hE=>?_⟩;rcases N8.1 hE with rfl|hE;exact ⟨by omega,aW.o⟩;exact Z.marks E hE;have:=Nr A _ u.2.1;simp only at this;omega
  obtain rfl:j=K:=by omega
  go_wp2;refine zD I aM.o wr (λD r=>(v.o.marks D r).2) λw' p=>?_;refine ⟨_,PW rfl _ _ _,⟨_,rfl⟩,_,T,rfl,?_⟩;have e:=B7 v.o.set;rw [aq.o]at e;rw [<-e];refine HJ.o _ _ _ _ v.o.j (p.mono λk _ s=>⟨?_,λsk=>?_⟩);have:=(v.o.marks k s).1;have:=HQ.o;omega;obtain ⟨o,ho,hc⟩:=X.o _ _ _ v.o.j k sk;rw [(v.o.marks k s).2]at ho;cases ho;cases hc
end
end Go.Proofs.YtimniinkpipnmaaGreatDoor
namespace Go.Own
open Go.RowKit
section
section
variable {P:Program} {ops:Array Oper} {Q:Exit->Act->WD->Prop} {md:Region.Mode} {S:WD->Prop} {β:Nat}
def CU(l:Nat){n:Nat}{o:Oper}{a:Act}{w:WD}{K:Act->WD->Prop}(j:∀c,o.op≠.defer c)(h:o.wp P a w K Q):o.wpIn (Fence.wide.inRound l) n P a w K Q:=by
 refine ⟨λ_ _=>PO,?_⟩;rw [Fence.inRound_round,Oper.semAt_some l _ _ j];unfold Oper.wp at h;revert h;generalize (execOp a.eval o).run P w=r;intro h;match r,h with
 | .ok (.value v) b,h=>exact h
 | .ok .skip b,h=>exact h
 | .ok (.defer d) b,h=>exact h
 | .ok (.enter f g) b,h=>exact ⟨λe=>(by cases e),(Q8.2 h).inRound l⟩
 | .ok (.row k g) b,h=>exact ⟨λe=>(by cases e),λc i _=>let⟨v,b,r,s⟩:=h c i;⟨v,b,r,stepsIn_wide.2 s⟩⟩
 | .halt (.panic v) b,h=>exact h
def qT(l:Nat){n:Nat}(k:∀(j:Nat)(o:Oper),ops[j]? =some o->∀c,o.op≠.defer c)(g:¬LetsOut Q):∀(d:Nat)(b:Array Bool)(a:Act)(w:WD),wpAny P md ops Q d b a w->wpAnyIn (Fence.wide.inRound l) n P md ops Q d b a w
 |0,_,_,_,h=>h
 |d+1,b,a,w,h=>by
  refine ⟨h.1,λi q=>?_⟩;have e:=wpOp_mono (λm r p=>qT l (n:=n) k g d (b.setIfInBounds i true) m r p) (h.2 i q);unfold wpOp at e;unfold wpOpIn;cases f:ops[i]? with
  |none=>rw [f]at e;exact e
  |some o=>rw [f]at e;simp only at e⊢;split;rename_i hw;rw [Oa hw]at e;rcases e with e|e;exact CU l (k i o f) e;exact absurd e.2 g;rename_i hw;rw [Of hw]at e;exact ⟨λ_ _=>PO,e⟩
def D8(ops:Array Oper):Bool:=ops.all λo=>match o.op with| .defer _=>false|_=>true
def zK(h:D8 ops=true):∀(j:Nat)(o:Oper),ops[j]? =some o->∀c,o.op≠.defer c:=λj o b c e=>by have a:=SJ.1 h o (Array.mem_of_getElem? b);rw [e]at a;cases a
def tN{l n:Nat}{f:Nat}{a:Act}{w:WD}(β:Nat)(e:P.follows .mixedOrders=true)(d:D8 ops=true)(b:∀a w,¬Q .outgrown a w)(c:S w.drew)
 (h:S w.drew->dk P .any ops Q S β ops.size (Array.replicate ops.size false) a w.drew):(Code.region f ops true).wpIn (Fence.wide.inRound l) n P Q a w:=
 wpIn_region_any e (qT l (zK d) (λ⟨a,w,h⟩=>b a w h) _ _ _ _ (oM _ _ _ _ (h c)))
end
end
end Go.Own
namespace Go.Proofs.YtimniinkpipnmaaGreatDoor
open Go.RowKit Go.Own
def dP(f:Nat->Bool)(a:Nat->Nat)(l:List Nat):List Nat:=(l.filter f).map a
def CG(f:Nat->Bool)(a:Nat->Nat)(l:List Nat)(x:Nat):dP f a (l++[x])=dP f a l++(if f x then [a x]else []):=by unfold dP;rw [OL];cases h:f x<;>simp [h]
def iI(f:Nat->Bool)(a:Nat->Nat)(l:List Nat):(dP f a l).length<=l.length:=by unfold dP;rw [NU];exact OD _ _
structure uY (w:WD) (c d b e a n:Nat) (f:Nat->Bool) (W:List Nat) (aW:Nat->Nat):Prop where
 MO:w.cell? (AD c 0)=some (PT b)
 Nc:w.cell? (AD d 0)=some (SV a n n)
 set:dY w b e n f W
 vY:∀i,i<n->w.cell? (AD a i)=some (IV (aW i:Int))
def uY.af{w k:WD}{g j e l c n:Nat}{f:Nat->Bool}{W:List Nat}{a:Nat->Nat}(h:uY w g j e l c n f W a)(b:BW w k):uY k g j e l c n f W a:=
 ⟨(b.cell (Nr w _ h.MO)).trans h.MO,(b.cell (Nr w _ h.Nc)).trans h.Nc,h.set.af b,λi d=>(b.cell (Nr w _ (h.vY i d))).trans (h.vY i d)⟩
def yY(w:WD)(b:List Nat)(e:Ending)(d:WD):Prop:=∃a m c,e=RT (.slice a m c)/\aE .i64 3 w d (.slice a m c) (aH b)
def Hy(w:WD)(la:OA)(z lc:Nat)(l:List Nat)(ub vb sb wb gb n:Nat)(f:Nat->Bool)(W:List Nat)(d:Nat->Nat)(Y:aG .i64 w la z (aH l))(ad:z<=16777216)(p:∀q∈l,q<n)(hn:n<=65536)(hi:uY w ub vb sb wb gb n f W d):
 CL 113 #[.slice la z lc,PT ub,PT vb] w (yY w (dP f d l)):=by
 have B:Hid (l.length=z):=by have:=Y.1;rwa [aC]at this
 have HL:=Nq Y
 have R:=Nq p
 have HI:=Nq hi
 have H:Hid (∀G,BW w G->∀i:Nat,i<n->CL 114 #[PT sb,IV i] G λe ab=>e=RT (.bool (f i))/\BW G ab):=λG hb i b=>wQ G sb wb n f W (HI.o.af hb).set hn i b
 obtain ⟨i3,X,aa,Z,V⟩:=Ol Tryz.ed
 clear Y p hi
 go_enter Tryz.func113,Tryz.ntmps113
 go_wp2
 go_loopw [5,10] (λv5 v wr=>∃(k:Nat)(a:OA)(m c:Nat),k<=z/\v=IV k/\v5=.slice a m c/\Hid (aE .i64 3 w wr (.slice a m c) (aH (dP f d (l.take k))))) (λ_ v _=>z-(intOf v).toNat)
 exact ⟨0,none,0,0,NS _,rfl,rfl,Nq (iZ _ _ _)⟩
 obtain ⟨k,a,m,c,hk,rfl,rfl,g⟩:=hrel
 by_cases p:k<z
 ·have ac:(k:Int)<(z:Int):=by omega
  obtain ⟨t,P⟩:∃t,l[k]? =some t:=⟨_,Ny (by rw [B.o];exact p)⟩;have N:=R.o t (NI P);have af:(t:Int)<(n:Int):=by omega
  have A:Hid (BW w wr):=g.o.2.1;obtain ⟨-,h0|⟨lb,lo,rfl,hc⟩⟩:=HL.o.af A.o
  ·omega
  have ck:CA wr lb (lo+k) (IV t):=by have:=hc k p;rw [cH (by rw [B.o];exact p),Nw,P]at this;exact this
  have b:=HI.o.af A.o;have U:=b.MO;have O:=Nq (H.o wr A.o t N);have ek:l.take (k+1)=l.take k++[t]:=by rw [OG,P];rfl
  have j:=CG f d (l.take k) t;rw [<-ek]at j;obtain ⟨F,y⟩:=EX (dP f d (l.take k));obtain ⟨E,s⟩:=EX (dP f d (l.take (k+1)));have K:F.length<=k:=by rw [<-y];have:=iI f d (l.take k);rw [Pd]at this;omega
  rw [y,s]at j;rw [y]at g;have I:=Nq s;have Q:=Nq b;clear hc P ek y s b;cases o:f t
  ·rw [o]at O;rw [o,Of (by simp),Om]at j
   have C:=Nq j;clear j o;go_wp2_with (go_at_call 114;refine O.o.mono ?_;rintro e w4 ⟨rfl,r⟩;have x:=Nq r;clear r);go_roundw;exact ⟨k+1,a,m,c,by omega,by go_num,rfl,by rw [I.o,C.o];exact jK g.o x.o⟩;simp [intOf];omega
  ·rw [o]at O;rw [o,Oa rfl]at j
   have C:Hid (aH E=aH F++[(d t:Int)]):=by rw [j,je];exact Nq rfl
   have S:=Nq g.o;have D:(aH F).length=m:=eV g.o;have J:=Nq D;have ae:m<=k:=by rw [<-D,aC];exact K
   clear j o D K g;go_upto_region 6 with(go_at_call 114;refine O.o.mono ?_;rintro e w4 ⟨rfl,r⟩;have x:=Nq r;clear r);have b:=Q.o.af x.o;have c2:=b.Nc;have c3:=b.vY t N;have u:=jK S.o x.o;have T:=Nq u;have HO:Hid (Sl w4 3 (.slice a m c) m ((aH F).map (Value.int .i64))):=by have h:=u.1;rw [J.o]at h;exact h
   generalize d t=nt at *;clear b u U ck;go_wp2_with (at_builtin;refine ax rfl (.tmp 17) (.tmp 22) 33 rfl 3 i3 (IV 0) 8 OE X aa Z V rfl (by decide) _ _ _ rfl HO.o _ rfl rfl (by omega) ?_;intro g1 U w5 hs L M;have HE:=Nq (dA T.o J.o hs L M);clear hs L M);go_roundw;exact ⟨k+1,_,m+1,U,by omega,by go_num,rfl,by rw [I.o,C.o];exact HE⟩;simp [intOf];omega
 ·obtain rfl:k=z:=by omega
  have e:l.take k=l:=Oe (by rw [B.o];exact Nz _);rw [e]at g;go_wp2;go_ret;exact ⟨a,m,c,rfl,g.o⟩
def dy(f:Nat->Bool)(N:Nat):List Nat:=(List.range N).filter f
def kq(f:Nat->Bool)(i:Nat):Nat:=(dy f i).length
def fV(f:Nat->Bool)(j:Nat):Nat:=if f j then kq f j else 0
def oB(f:Nat->Bool)(i:Nat):dy f (i+1)=dy f i++(if f i then [i]else []):=by unfold dy;rw [OZ,OL];cases h:f i<;>simp [h]
def ye(f:Nat->Bool)(i:Nat):kq f (i+1)=kq f i+(if f i then 1 else 0):=by unfold kq;rw [oB,NH];cases h:f i<;>simp
def zf(f:Nat->Bool):∀i,kq f i<=i
 |0=>Nz _
 |i+1=>by rw [ye];have:=zf f i;split<;>omega
def vS(f:Nat->Bool){N i:Nat}(g:i<N)(e:f i=true):(dy f N)[kq f i]? =some i:=by
 have c:(dy f (i+1))[kq f i]? =some i:=by rw [oB,Oa e];unfold kq;exact OF
 have a:∀d,(dy f (i+1+d))[kq f i]? =some i:=by
  intro d;induction d with
  |zero=>exact c
  |succ d b=>rw [show i+1+(d+1)=i+1+d+1 by omega,oB,NP (NK.1 b).1];exact b
 have:=a (N-(i+1));rwa [show i+1+(N-(i+1))=N by omega]at this
def qk{f:Nat->Bool}{N x:Nat}:x∈dy f N↔x<N/\f x=true:=by unfold dy;rw [Og,Oq]
def Hr{f:Nat->Bool}{N p:Nat}(e:p<(dy f N).length):∃x,(dy f N)[p]? =some x/\x<N/\f x=true/\kq f x=p:=by have a:(dy f N)[p]? =some (dy f N)[p]:=Ny e;obtain ⟨x,g⟩:=EX ((dy f N)[p]);rw [g]at a;have b:=qk.1 (NI a);refine ⟨x,a,b.1,b.2,?_⟩;have c:=vS f b.1 b.2;have d:(dy f N).Nodup:=List.Pairwise.filter _ S8;exact (List.getElem?_inj (i:=kq f x) (j:=p) (NK.1 c).1 d).1 (c.trans a.symm)
def jF(A:Au)(f:Nat->Bool)(i:Nat):bV:=⟨(A.aw i).ak,(A.aw i).aD,(A.aw i).aT,dP f (fV f) (A.aw i).tO⟩
def jn(A:Au)(f:Nat->Bool):Au:=⟨A.sets,dP f (fV f) A.aJ,(dy f A.ah.length).map (jF A f)⟩
def Gk{A:Au}{f:Nat->Bool}{p:Nat}(a:p<(jn A f).ah.length):∃x,(dy f A.ah.length)[p]? =some x/\x<A.ah.length/\f x=true/\kq f x=p/\(jn A f).aw p=jF A f x:=by have a:p<((dy f A.ah.length).map (jF A f)).length:=a;rw [NU]at a;obtain ⟨x,b,c,d,e⟩:=Hr a;refine ⟨x,b,c,d,e,?_⟩;unfold Au.aw jn;(try dsimp only);rw [Nw,Oh,b];rfl
def jO{f:Nat->Bool}{a:Nat->Nat}{l:List Nat}{p:Nat}:p∈dP f a l↔∃q∈l,f q=true/\a q=p:=by unfold dP;rw [OC];constructor;rintro ⟨q,d,e⟩;have:=Og.1 d;exact ⟨q,this.1,this.2,e⟩;rintro ⟨q,b,c,e⟩;exact ⟨q,Og.2 ⟨b,c⟩,e⟩
def pF{f:Nat->Bool}{x:Nat}(h:f x=true):fV f x=kq f x:=by unfold fV;rw [Oa h]
def Dt{A:Au}(m:fS A)(f:Nat->Bool)(use:Nat->Prop)(l:∀q,q<A.ah.length->(f q=true↔use q)):y9 A (jn A f) use (fV f) (λp=>(dy f A.ah.length).getD p 0):=by
 have r:(jn A f).ah.length=(dy f A.ah.length).length:=NU ..;have b:∀p,p<(jn A f).ah.length->∃x,(dy f A.ah.length).getD p 0=x/\x<A.ah.length/\f x=true/\kq f x=p/\(jn A f).aw p=jF A f x:=λp a=>by obtain ⟨x,d,i⟩:=Gk a;exact ⟨x,by rw [Nw,d];rfl,i⟩
 have k:∀q,q<A.ah.length->f q=true->fV f q<(jn A f).ah.length/\(dy f A.ah.length).getD (fV f q) 0=q:=λq c g=>by have:=vS f c g;rw [pF g,r];exact ⟨(NK.1 this).1,by rw [Nw,this];rfl⟩
 refine ⟨rfl,λp a=>?_,λq c g=>k q c ((l q c).2 g),λp a=>?_,λp a=>?_,λp a=>?_,λp a=>?_,λq c g=>?_,λn o p a=>?_,λn o q c g=>?_⟩;obtain ⟨x,e,d,i,j,-⟩:=b p a;(try dsimp only);rw [e];exact ⟨d,by rw [pF i];exact j⟩;obtain ⟨x,e,-,-,-,h⟩:=b p a;(try dsimp only);rw [e,h];rfl;obtain ⟨x,e,-,-,-,h⟩:=b p a;(try dsimp only);rw [e,h];rfl;obtain ⟨x,e,-,-,-,h⟩:=b p a;(try dsimp only);rw [e,h];rfl;obtain ⟨q,d,i,j⟩:=jO.1 a;exact ⟨q,d,(l q (m.aJ q d)).1 i,j⟩;exact jO.2 ⟨q,c,(l q (m.aJ q c)).2 g,rfl⟩;obtain ⟨x,e,s,-,-,h⟩:=b n o;rw [h]at a;obtain ⟨q,d,i,j⟩:=jO.1 a;refine ⟨q,by(try dsimp only);rw [e];exact d,(l q (m.lN _ (dO s) q d)).1 i,j⟩;obtain ⟨x,e,s,-,-,h⟩:=b n o;(try dsimp only at c);rw [e]at c;rw [h];exact jO.2 ⟨q,c,(l q (m.lN _ (dO s) q c)).2 g,rfl⟩
def Jb{A:Au}(d:fS A)(f:Nat->Bool):fS (jn A f):=by
 have g:(jn A f).ah.length=(dy f A.ah.length).length:=NU ..;have e:∀q,q<A.ah.length->f q=true->fV f q<(jn A f).ah.length:=λq n l=>by rw [pF l,g];exact (NK.1 (vS f n l)).1
 have a:∀x∈(jn A f).ah,∃i,i<A.ah.length/\x=jF A f i:=λx c=>by obtain ⟨i,b,rfl⟩:=OC.1 c;exact ⟨i,(qk.1 b).1,rfl⟩
 refine ⟨d.sets,by rw [g];have:=zf f A.ah.length;have:=d.many;unfold kq at *;omega,λi b=>?_,λx c k m=>?_,λx c=>?_,λx c=>?_,λx c=>?_,?_⟩;obtain ⟨q,h,j,rfl⟩:=jO.1 b;exact e q (d.aJ q h) j;obtain ⟨i,b,rfl⟩:=a x c;obtain ⟨q,h,j,rfl⟩:=jO.1 m;exact e q (d.lN _ (dO b) q h) j;obtain ⟨i,b,rfl⟩:=a x c;exact d.aT (A.aw i) (dO b);obtain ⟨i,b,rfl⟩:=a x c;exact d.bits (A.aw i) (dO b);obtain ⟨i,b,rfl⟩:=a x c;exact N5 (iI _ _ _) (d.tl (A.aw i) (dO b));exact N5 (iI _ _ _) d.il
def Ig{A:Au}(g:Nat->bV)(a:∀i,(bV.tO (g i)).length<=(bV.tO (A.aw i)).length)(l:List Nat):iq (l.map g)<=iq (l.map A.aw):=by
 induction l with
 |nil=>exact Nz _
 |cons i l b=>have:=a i;simp only [iq,NQ,RZ]at *;omega
def Am{f:Nat->Bool}{N:Nat}(h:∀i,i<N->f i=true):dy f N=List.range N:=by unfold dy;exact List.filter_eq_self.2 λi a=>h i (Oq.1 a)
def JA{f:Nat->Bool}{N:Nat}(h:∀i,i<N->f i=true){i:Nat}(a:i<N):fV f i=i:=by rw [pF (h i a)];unfold kq;rw [Am (λj b=>h j (by omega)),OQ]
def An{f:Nat->Bool}{N:Nat}(h:∀i,i<N->f i=true){l:List Nat}(a:∀i∈l,i<N):dP f (fV f) l=l:=by unfold dP;rw [List.filter_eq_self.2 λi b=>h i (a i b)];exact qs λq c=>JA h (a q c)
def Dr{A:Au}(d:fS A)(f:Nat->Bool):gw A (jn A f):=by
 have p:(dP f (fV f) A.aJ).length<=A.aJ.length:=iI _ _ _;have q:iq ((dy f A.ah.length).map (jF A f))<=iq ((dy f A.ah.length).map A.aw):=Ig _ (λi=>iI _ _ _) _;have c:=D6 (l:=(dy f A.ah.length).map A.aw) (l2:=(List.range A.ah.length).map A.aw) (List.filter_sublist.map _);rw [gP]at c;have n:(jn A f).wt=(dP f (fV f) A.aJ).length+iq ((dy f A.ah.length).map (jF A f)):=rfl;have o:A.wt=A.aJ.length+iq A.ah:=rfl;refine ⟨by omega,λe=>?_⟩;have g:=c.2 (by omega);have a:∀i,i<A.ah.length->f i=true:=by
  have h:(dy f A.ah.length).length=A.ah.length:=by have:=Pp List.length g;rwa [NU]at this
  have m:(dy f A.ah.length).Sublist (List.range A.ah.length):=List.filter_sublist;have:=m.eq_of_length (by rw [h,OQ]);intro i b;have j:i∈dy f A.ah.length:=by rw [this];exact Oq.2 b
  exact (qk.1 j).2
 unfold jn;rw [An a d.aJ,Am a];have k:(List.range A.ah.length).map (jF A f)=A.ah:=by rw [<-gP A];rw [gP A];refine (Q6 λi b=>?_).trans (gP A);unfold jF;rw [An a (d.lN _ (dO (Oq.1 b)))]
 rw [k]
section
def Ti:=@Option.map_some
def y7(t:bu)(k:Nat):Prop:=0<t.2.1/\∃o,t.1=some (AD k o)
def Ai(ob:Nat)(a:Value)(t:bu)(O:List (bV×bu))(k:Nat):Prop:=gN ob a k\/y7 t k\/∃x∈O,y7 x.2 k
def fm.AU{w c:WD}{S R:Nat->Prop}{t:bu}{l:List Nat}(h:fm w S t l)(a:aj R w c)(g:∀k,R k->¬y7 t k):fm c S t l:=by refine ⟨?_,h.sep,λb o e=>NL (h.lt b o e) a.size,h.bC⟩;rcases OT t.2.1 with e|e;exact ⟨h.row.1,.inl e⟩;exact cF h.row a (λb o d s=>g b s ⟨e,o,d⟩)
def fm.cells{w:WD}{S:Nat->Prop}{t:bu}{l:List Nat}(h:fm w S t l){k:Nat}(d:y7 t k):∃o,w.heap[k]? =some o/\o.isCells=true:=by
 obtain ⟨g,o,e⟩:=d;obtain ⟨-,i|⟨b,j,a,c⟩⟩:=h.row;omega;rw [e]at a;cases a
 have:=cells_of_cell (c 0 g);exact this
def fT.AU{w j:WD}{ob:Nat}{X R:Nat->Prop}{a:Nat}{t:bu}{js:List Nat}{g:Value}{O:List (bV×bu)}(h:fT w ob X a t js g O)(d:aj R w j)(c:∀k,R k->¬Ai ob g t O k):fT j ob X a t js g O:=
 ⟨(d.block ob h.Bb (λs=>c _ s (.inl (.inl rfl)))).trans h.dp,bm h.cK d (λb e s=>c _ s (.inl (.inr e))),h.nY,h.nW.AU d (λk s r=>c k s (.inr (.inl r))),λx i=>(h.bG x i).AU d (λk s r=>c k s (.inr (.inr ⟨x,i,r⟩)))⟩
def fT.cells{w:WD}{ob:Nat}{X:Nat->Prop}{a:Nat}{t:bu}{js:List Nat}{c:Value}{O:List (bV×bu)}(h:fT w ob X a t js c O){k:Nat}(l:Ai ob c t O k):∃o,w.heap[k]? =some o/\o.isCells=true:=by rcases l with(rfl|e)|r|⟨x,m,r⟩;exact ⟨_,h.dp,rfl⟩;rcases h.cK.2 with⟨b,-⟩|⟨g,d,i,b,n,j,-⟩;rw [b]at e;cases e;rw [b]at e;obtain rfl:=ig e;exact ⟨_,j,rfl⟩;exact h.nW.cells r;exact (h.bG x m).cells r
def kx(w0:WD)(x0:Nat)(A:Au)(f:Nat->Bool)(ob:Nat)(t:bu)(js:List Nat)(pre:List Nat)(S:Nat->Prop)(W:WD):Prop:=
 ∃a O,iR w0 W x0 A.sets (pre.map A.aw) (λl js=>js=dP f (fV f) l) A.aJ ob t js a O/\O.length=pre.length/\∀k,S k↔Ai ob a t O k
section
variable {w0 W W1:WD} {x0:Nat} {A:Au} {f:Nat->Bool} {ob:Nat} {t:bu} {js pre:List Nat} {S:Nat->Prop}
def kx.hold(h:kx w0 x0 A f ob t js pre S W){B:Nat}(g:w0.heap.size<=B)(b:aj (λk=>B<=k/\¬S k) W W1):kx w0 x0 A f ob t js pre S W1:=by obtain ⟨e,O,a,d,c⟩:=h;exact ⟨e,O,⟨a.o.AU b (λk s r=>s.2 ((c k).2 r)),a.aM.trans (b.af a.aM.size λk _ s=>by have:=s.1;omega),a.bL,a.nW,a.cO,a.Ba⟩,d,c⟩
def kx.cells(h:kx w0 x0 A f ob t js pre S W):∀k,S k->∃o,W.heap[k]? =some o/\o.isCells=true:=by obtain ⟨d,O,a,c,b⟩:=h;exact λk s=>a.o.cells ((b k).1 s)
def kx.dB{m:Value}{O:List (bV×bu)}(i:iR w0 W x0 A.sets (pre.map A.aw) (λl js=>js=dP f (fV f) l) A.aJ ob t js m O)(C:O.length=pre.length)(q:∀k,S k↔Ai ob m t O k)(x:Nat){y:bV×bu}(J:y.1=jF A f x){n w2 w3:WD}{c:Value}(h:BW W n)
 (g:fm n (oX ob m (λk=>k<=x0)) y.2 (bV.tO y.1)) (p:∀k,y7 y.2 k->W.heap.size<=k) (d:w2.ownsRow 0 62 4 c (O.length+1) (cX O++rp y)) (v:aj (λk=>m.ownBlock=some k) n w2) (o:∀b,c.ownBlock=some b->m.ownBlock=some b\/n.heap.size<=b) (H:w3=w2.setCell (AD ob 2) c):
 ∃G,kx w0 x0 A f ob t js (pre++[x]) G w3/\aj S W w3/\∀k,G k->S k\/W.heap.size<=k:=by
 have D:iR w0 W x0 A.sets ((pre++[x]).map A.aw) (λl js=>js=dP f (fV f) l) A.aJ ob t js m O:=⟨i.o,i.aM,i.bL,i.nW,by rw [NU,NH];omega,λj a b I h=>i.Ba j a b (by rw [Oy,NP (by rw [NU,<-C];exact (NK.1 h).1)]at I;exact I) h⟩
 have r:((pre++[x]).map A.aw)[O.length]? =some (A.aw x):=by
  have e:O.length=(pre.map A.aw).length:=by rw [NU,C]
  rw [Oy,e];exact OF
 have F:=D.step r (y:=y) (by rw [J];exact ⟨rfl,rfl,rfl,rfl⟩) h g d v o H
 obtain ⟨-,B,E⟩:=(i.o.af h).dB y g (Nx _ n) d v o H
 have w:aj S W n:=aj.mono (aj.aF h) (λk v s=>absurd v (by omega))
 refine ⟨Ai ob c t (O++[y]),⟨c,O++[y],F,by rw [NH,NH,C];rfl,λk=>Ry⟩,w.then B λk _ s=>(q k).2 (.inl s),λk s=>?_⟩
 rcases s with(s|s)|s|⟨z,u,s⟩
 exact .inl ((q k).2 (.inl (.inl s)))
 rcases E k s with s|s
 exact .inl ((q k).2 (.inl (.inr s)))
 exact .inr (N5 h.size s)
 exact .inl ((q k).2 (.inr (.inl s)))
 rcases NY.1 u with u|u
 exact .inl ((q k).2 (.inr (.inr ⟨z,u,s⟩)))
 rw [Nv.1 u]at s
 exact .inr (p k s)
def kx.done(h:kx w0 x0 A f ob t js (dy f A.ah.length) S W):∃b O,fT W ob (λk=>k<=x0) A.sets t js b O/\(∀k,gN ob b k->w0.heap.size<=k)/\BW w0 W/\jn A f=⟨A.sets,js,O.map Prod.fst⟩:=by
 obtain ⟨b,O,a,v,-⟩:=h;refine ⟨b,O,a.o,a.bL,a.aM,?_⟩;have e:O.map Prod.fst=(dy f A.ah.length).map (jF A f):=by
  refine SZ λj=>?_;rw [Oh,Oh];by_cases c:j<O.length;have m:O[j]? =some O[j]:=Ny c;have n:(dy f A.ah.length)[j]? =some ((dy f A.ah.length)[j]'(by omega)):=Ny _;rw [m,n];have s:=a.Ba j _ _ (by rw [Oh,n];rfl) m;obtain ⟨d,g,i,l⟩:=s;simp only [Ti];congr 1;obtain ⟨z,u⟩:=EX (O[j]);rw [u]at d g i l⊢;obtain ⟨⟨o,p,q,r⟩,w⟩:=z;try dsimp only at d g i l
  unfold jF;show bV.mk o p q r=_;rw [show o=_ from d,show p=_ from g,show q=_ from i,show r=_ from l];rw [O7 (by omega),O7 (by omega)];rfl
 have c:js=dP f (fV f) A.aJ:=a.nW;unfold jn;rw [<-e,<-c]
end
end
end Go.Proofs.YtimniinkpipnmaaGreatDoor
