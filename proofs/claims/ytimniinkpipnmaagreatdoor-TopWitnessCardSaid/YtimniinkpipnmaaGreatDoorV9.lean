/- A part of the proof of TopWitness. -/
import Derived.Test.YtimniinkpipnmaaGreatDoorV8
set_option maxRecDepth 100000
set_option maxHeartbeats 8000000
set_option linter.all false
namespace Go.Proofs.YtimniinkpipnmaaGreatDoor
open Go.RowKit Go.Own Go.Proofs.Tryz
section
def HW.ax{d j w8 w w1 gh g R ib V C}(h:HW d j w8 w gh g V R C)(a:aj (λk=>k=ib) w w1)(c:ib≠gh)(l:ib≠g)(m:∀i,i<R->(V i).ownBlock≠some ib)(p:w8.heap.size<=ib):HW d j w8 w1 gh g V R C:=
 ⟨h.es.ax a (λe=>l e.symm) (λi b o e s=>m i o (by rw [e,s])),a.aq h.c0 (λe=>c e.symm),a.aq h.c1 (λe=>c e.symm),a.aq h.c2 (λe=>c e.symm),(PK (a.block gh (O9 w _ h.c2) (λe=>c e.symm))).trans h.fz,h.ne,h.Lw,h.aJ.trans (a.ag h.aJ.size (λk a e=>ZO))⟩
structure ED (w8 w:WD) (gh g ib n:Nat) (V:Nat->Value) (C:Nat->List (Int×Int)) (f:Nat->Bool):Prop where
 hw:HW (SN) (SN) w8 w gh g V n C
 row:Sl w 4 (SV ib n n) n (bB n f)
 ne:ib≠g
 Ox:ib≠gh
 bG:w8.heap.size<=ib
 off:∀i,i<n->(V i).ownBlock≠some ib
section
variable {w8 w w1:WD} {gh g ib n:Nat} {V:Nat->Value} {C:Nat->List (Int×Int)} {f:Nat->Bool}
def ED.ag(h:ED w8 w gh g ib n V C f)(a:BW w w1):ED w8 w1 gh g ib n V C f:=
 ⟨h.hw.ag a,h.row.ax (aj.aC a) (λk e s=>ZH (h.row.lt k e)),h.ne,h.Ox,h.bG,h.off⟩
def ED.set(h:ED w8 w gh g ib n V C f){x}(d:x<n):ED w8 (w.setCell (AD ib x) (.bool true)) gh g ib n V C (up f x true)/\FZ w ib x/\CA w ib x (.bool (f x)):=by have⟨a,b,c⟩:=mD h.row d true;exact ⟨⟨h.hw.ax ((aj.refl (λk=>k=ib) w).setCell (p:=(AD ib x)) (λ_=>rfl) _) h.Ox h.ne h.off h.bG,a,h.ne,h.Ox,h.bG,h.off⟩,c,b⟩
def ED.dT(h:ED w8 w gh g ib n V C f){i}(b:i<n){x u}(q:w1.ownsRow 0 66 2 u ((C i).length+1) (bK (C i++[x])))(l:aj (λk=>(V i).ownBlock=some k) w w1)(a:dQ w (V i) u):
 ED w8 (w1.setCell (AD g i) u) gh g ib n (up V i u) (up C i (C i++[x])) f:=by
 have c:aj (λk=>k=g) w1 (w1.setCell (AD g i) u):=(aj.refl (λk=>k=g) w1).setCell (p:=(AD g i)) (λ_=>rfl) u
 refine ⟨h.hw.dT b q l a,(h.row.ax l (λk e s=>?_)).ax c (λk e s=>?_),h.ne,h.Ox,h.bG,λj o e=>?_⟩
 cases e;exact h.off i b s
 cases e;exact h.ne s
 by_cases d:j=i
 subst d
 rw [aA]at e
 obtain a|⟨r,m,a⟩:=a
 rw [a]at e;exact h.off j b e
 rw [m]at e;cases e
 have:=h.row.lt ib rfl
 omega
 rw [an _ _ _ _ d]at e;exact h.off j o e
end
def Nz(E:List (List Int))(b:List Nat)(n i k:Nat)(C:Nat->List (Int×Int)):Prop:=∀a,a<n->(C a).map Prod.fst=mR E b i k a
def Iv(w:WD)(n:Nat)(E:List (List Int))(c:List Nat)(e:Ending)(b:WD):Prop:=
 ∃g a,e=RT (.agg #[SN,SV g n n,SN])/\eG b (some (AD g 0)) n a/\NL E a c/\(∀i,i<n->(a.getD i []).length<=16777216)/\BW w b
def GB(w vi vl ae n ce E)(hg:eG w ae n E)(bs:∀i,i<n->(E.getD i []).length<=16777216)(pa pm pc m)(M:aG .i64 w pa pm (aE m))(bo:∀x∈m,x<n)(hd:m.Nodup)(ca:pm<=65536):
 CL 63 #[.agg #[vi,SL ae n ce,vl],SL pa pm pc] w (Iv w n E m):=by
 obtain ⟨bY,bh,bv,bq,bb⟩:=P6 Tryz.AM
 obtain ⟨bZ,bi,bw,br,bc⟩:=P6 Tryz.DN
 obtain ⟨i4,bQ,bW,bR,bO⟩:=P6 Scc.Tryz.kM
 obtain ⟨q,hq⟩:=EX w.heap.size
 obtain ⟨w1,ao⟩:=EX ((w.alloc (CE #[vi,SL ae n ce,vl] 55)).alloc (CE #[SN,SN,SN] 55))
 have al:Below w.heap.size w w1:=ao▸af (ah _ _) (ah _ _)
 have s1:w1.heap.size=q+1+1:=by rw [<-ao,P3,P3,hq]
 have aL:w1.heap[q]? =some (.cells #[vi,SL ae n ce,vl] 55 (0,0)):=by rw [<-ao,<-hq,(Ph _ _).2 _ (by rw [P3];omega)];exact (Ph w _).1
 have bg:w1.heap[q+1]? =some (.cells #[SN,SN,SN] 55 (0,0)):=by rw [<-ao,<-hq,<-P3 w (CE #[vi,SL ae n ce,vl] 55)];exact (Ph _ _).1
 have av:Hid (∀D:WD,Below w1.heap.size w1 D->D.cell? (AD q 1)=some (SL ae n ce)):=λD h=>by have h2:=(h.block q (Pb.1 aL).1).trans aL;rw [Pa h2];rfl
 have ay:Hid (∀D,Below w1.heap.size w1 D->eG D ae n E):=λD Q=>hg.ag (af al Q)
 have a3:Hid (∀D,Below w1.heap.size w1 D->aG .i64 D pa pm (aE m)):=λD Q=>M.ag (af al Q)
 have aF:=O8 bo
 have HD:=O8 hd
 have aI:=O8 bs
 have ab:Hid (E.length=n):=hg.bA
 have P:Hid (m.length=pm):=by have:=M.1;rwa [aD]at this
 have bB:=O8 al
 have bD:=O8 bg
 have HQ:=O8 hq
 have H:=O8 s1
 have hn:=hg.uD
 have e1:=av.o w1 (PF _ _)
 clear hg M bo hd bs al aL bg s1
 go_enter func63,ntmps63
 go_upto_region 2 with(at_make;refine bu rfl _ _ 53 rfl 64 bY (SN) 1 Ve bh bv bq _ _ _ _ n rfl rfl rfl rfl (by rw [bb];omega) (by unfold maxLen;omega) ?_;rintro w3 rfl hs;have R:=O8 hs;clear hs)
 obtain ⟨wa,Z⟩:=EX (w1.alloc (CE (madeCells #[SN] n) 64))
 obtain ⟨wb,aa⟩:=EX (wa.alloc (CE #[SN,SV (q+1+1) n n,SN] 55))
 have sa:wa.heap.size=q+1+1+1:=by rw [<-Z,P3,H.o]
 have sb:wb.heap.size=q+1+1+1+1:=by rw [<-aa,P3,sa]
 have bd:Below w1.heap.size w1 wa:=Z▸ah _ _
 have aJ:Below wa.heap.size wa wb:=aa▸ah _ _
 have bt:Sl wa 64 (SV (q+1+1) n n) n (List.replicate n (SN)):=by
  have J:=R.o;rw [H.o]at J;have h2:=bM (SN) rfl n;have h3:w1.alloc (CE (madeCells (SN).cells (n*1)) 64)=wa:=by rw [<-Z,RL];rfl
  rw [h3,h2]at J;exact J
 have hW:HW (SN) (SN) w1 wb (q+1+1+1) (q+1+1) (λ_=>SN) n (λ_=>[]):=by have G:=(Ph wa (CE #[SN,SV (q+1+1) n n,SN] 55)).1;rw [aa,sa]at G;exact ⟨ES.Bh (bt.ax (aj.aC aJ) (λk e s=>by have:=cF e;omega)) (by have:=H.o;omega),CH G,CH G,CH G,Pg G 1,by omega,λi _ e=>(by cases e),af bd aJ⟩
 have a8:=O8 hW
 have a5:=O8 sb
 (try rw [H.o])
 rw [Z]
 (try rw [aa])
 have bL:=av.o wb hW.aJ
 clear Z aa sa sb bd aJ bt hW R e1
 go_upto_region 3 with(at_make;refine bu rfl _ _ 67 rfl 4 i4 (.bool false) 1 QM bQ bW bR _ _ _ _ n rfl rfl rfl rfl (by rw [bO];omega) (by unfold maxLen;omega) ?_;rintro w3 rfl hs;have R:=O8 hs;clear hs)
 obtain ⟨wc,ap⟩:=EX (wb.alloc (CE (madeCells #[Value.bool false] n) 4))
 have be:Below wb.heap.size wb wc:=ap▸ah _ _
 have aZ:Hid (ED w1 wc (q+1+1+1) (q+1+1) (q+1+1+1+1) n (λ_=>SN) (λ_=>[]) (λ_=>false)):=by
  have J:=R.o;rw [a5.o]at J;have h2:=bM (.bool false) rfl n;have h3:wb.alloc (CE (madeCells (Value.bool false).cells (n*1)) 4)=wc:=by rw [<-ap,RL];rfl
  rw [h3,h2,<-Scc.eR]at J;exact ⟨a8.o.ag be,J,by omega,by omega,by have:=H.o;omega,λi _ e=>(by cases e)⟩
 rw [a5.o,ap]
 clear ap be R a8 bL
 go_wp2
 go_loopw [24] (λv wr=>∃(k:Nat)(f:Nat->Bool),k<=pm/\v=IV (k:Int)/\Hid (ED w1 wr (q+1+1+1) (q+1+1) (q+1+1+1+1) n (λ_=>SN) (λ_=>[]) f)/\Hid (∀x,x<n->(f x=true↔x∈m.take k))) (λv _=>pm-(intOf v).toNat)
 exact ⟨0,_,Pz _,rfl,aZ,O8 (λx _=>⟨λh=>(ZC h),λh=>(ZC h)⟩)⟩
 clear aZ
 obtain ⟨k,f,hk,rfl,o,hf⟩:=hrel
 by_cases aP:k<pm
 ·have b4:(k:Int)<(pm:Int):=ZO;obtain ⟨-,h0|⟨fb,fo,rfl,W⟩⟩:=a3.o wr o.o.hw.aJ
  ·omega
  obtain ⟨x,A⟩:∃x,m[k]? =some x:=⟨_,Pe (ZR P.o aP)⟩;have bS:=aF.o x (Pm A);have cd:(x:Int)<(n:Int):=ZO;have ck:wr.cell? (AD fb (fo+k))=some (IV (x:Int)):=by have:=W k aP;rw [cG (ZR P.o aP),Pd,A]at this;exact this
  obtain ⟨J,h2,h3⟩:=o.o.set bS;have HN:=O8 J;have HF:Hid (∀y,y<n->(up f x true y=true↔y∈m.take (k+1))):=λy hy=>by
   rw [Qf,A];by_cases e:y=x
   ·subst e;rw [aA];simp
   ·rw [an _ _ _ _ e,hf.o y hy];simp [e]
  clear W A J o hf;generalize f x=fx at *;go_wp2;go_roundw;exact ⟨k+1,_,ZO,ZN,HN,HF⟩;simp [intOf];omega
 ·obtain rfl:k=pm:=ZO;have HF:Hid (∀x,x<n->(f x=true↔x∈m)):=λx A=>by rw [hf.o x A,PI (Q2 P.o)]
  have a1:Hid (Nz E m n 0 0 (λ_=>[])):=λa _=>(DO a).symm;clear hf;obtain ⟨wo,rfl⟩:∃wo:WD,wo=wr:=⟨_,rfl⟩;go_wp2;go_loopw [34] (λv wr=>∃(i:Nat)(V:Nat->Value)(C:Nat->List (Int×Int)),i<=k/\v=IV (i:Int)/\Hid (ED w1 wr (q+1+1+1) (q+1+1) (q+1+1+1+1) n V C f)/\Hid (Nz E m n i 0 C)) (λv _=>k-(intOf v).toNat);exact ⟨0,_,_,Pz _,rfl,o,a1⟩;clear a1 o;obtain ⟨i,V,C,b8,rfl,o,M⟩:=hrel;by_cases aO:i<k
  ·have b1:(i:Int)<(k:Int):=ZO;obtain ⟨-,h0|⟨fb,fo,rfl,W⟩⟩:=a3.o wr o.o.hw.aJ
   ·omega
   obtain ⟨a,ha⟩:∃a,m[i]? =some a:=⟨_,Pe (ZR P.o aO)⟩;have B:=aF.o a (Pm ha);have b6:(a:Int)<(n:Int):=ZO;have ci:wr.cell? (AD fb (fo+i))=some (IV (a:Int)):=by have:=W i aO;rw [cG (ZR P.o aO),Pd,ha]at this;exact this
   obtain ⟨b,b0,ai,bI,rfl,cr,aM⟩:=(ay.o w1 (PF _ _)).bC.at a (ZR ab.o B);obtain ⟨N,F⟩:=EX (E.getD a []);obtain ⟨d,hd⟩:=EX N.length;have T:=O8 F;have ax:=O8 hd;have a0:=O8 ha;rw [F,hd]at cr;rw [F]at aM;have HK:Hid (∀D,Below w1.heap.size w1 D->D.cell? (AD b (b0+a))=some (SL ai d bI)/\Scc.pO D ai N):=λD Q=>⟨(Q.cell (O9 _ _ cr)).trans cr,Scc.pO.ag (w:=w1) aM Q⟩;have b7:d<=16777216:=by have:=aI.o a B;rw [F,hd]at this;exact this
   have bK:=(HK.o wr o.o.hw.aJ).1;have bN:=av.o wr o.o.hw.aJ;clear cr aM F hd W ha;go_upto_region 12 with(fail);clear bK bN ci;go_wp2;go_loopw [44] (λv wr=>∃(j:Nat)(V:Nat->Value)(C:Nat->List (Int×Int)),j<=d/\v=IV (j:Int)/\Hid (ED w1 wr (q+1+1+1) (q+1+1) (q+1+1+1+1) n V C f)/\Hid (Nz E m n i j C)) (λv _=>d-(intOf v).toNat);exact ⟨0,V,C,Pz _,rfl,o,M⟩;clear o M V C;obtain ⟨j,V,C,hj,rfl,o,M⟩:=hrel;by_cases bk:j<d
   ·have b2:(j:Int)<(d:Int):=ZO;obtain ⟨b',b5,rfl,ck,p,bJ⟩:=(HK.o wr o.o.hw.aJ).2 j (ZR ax.o bk)
    obtain ⟨z,G⟩:=EX (N.getD j 0);rw [G]at ck;have bl:j<N.length:=ZR ax.o bk;have aU:N[j]? =some z:=by rw [<-G,Pd,Pe bl];rfl
    have bx:z∈E.getD a []:=ZR T.o (Pm aU);obtain ⟨bT,bU⟩:=(ay.o w1 (PF _ _)).inr a B z bx;obtain ⟨t,rfl⟩:∃t:Nat,z=(t:Int):=⟨z.toNat,ZO⟩;have ht:t<n:=ZO;have cc:(t:Int)<(n:Int):=ZO;have aH:Hid (∀b,mR E m i (j+1) b=if t∈m/\b=a then mR E m i j b++[(t:Int)]else mR E m i j b):=λb=>by have h:=GA (E:=E) HD.o (k:=j) a0.o (ZR T.o aU) b;rwa [SB]at h
    have ad:Hid ((C a).length<=4000000000000):=by have J:=B8 (E:=E) (ms:=m) i j a;rw [<-M.o a B,PB]at J;have h2:=aI.o a B;show _<=_;omega
    obtain ⟨qe,bp⟩:=EX wr.heap.size;obtain ⟨wq,aS⟩:=EX (wr.alloc (CE #[IV (t:Int),IV p] 66));have bf:Below wr.heap.size wr wq:=aS▸ah _ _;have ak:=aT wr #[IV (t:Int),IV p] 66;rw [aS,bp]at ak;have r3:=(ak 0 _ rfl).1;have r4:=(ak 1 _ rfl).1;have I:=O8 (o.o.ag bf);obtain ⟨-,-,ct⟩:=I.o.set ht;have ac:Hid (f t=true↔t∈m):=HF.o t ht;have HP:=O8 M.o;have a4:Hid (∀i,i<n->(V i).ownBlock≠some qe):=λi' aN e=>by have:=dx (o.o.hw.es.row i' aN) _ e;omega
    clear G bl aU bx bT bU bf ak M o;cases am:f t
    ·rw [am]at ct ac;have aC:Hid (Nz E m n i (j+1) C):=λb Q=>by rw [aH.o b,Qa (λh=>by cases ac.o.2 h.1)];exact HP.o b Q
     clear am ad;go_wp2;go_roundw;exact ⟨j+1,V,C,ZO,ZN,I,aC⟩;simp [intOf];omega
    ·rw [am]at ct ac;have aC:Hid (Nz E m n i (j+1) (up C a (C a++[((t:Int),p)]))):=λb Q=>by
      rw [aH.o b];by_cases e:b=a
      ·subst e;rw [PW ⟨ac.o.1 rfl,rfl⟩,aA,Qg,HP.o b Q];rfl
      ·rw [Qa (λh=>e h.2),an _ _ _ _ e];exact HP.o b Q
     clear am aH;go_upto_region 15 with(fail);clear aS bp ck bJ ct;obtain ⟨ar,lr,cr,hv⟩:=mB (I.o.hw.es.row a B);obtain ⟨aV,Y⟩:=EX ((C a).length);obtain rfl:lr=aV:=by have J:=I.o.hw.es.row a B;rw [hv]at J;obtain ⟨_,_,e⟩:=bF J;rw [Y]at e;exact (P8 e).2.1
     obtain ⟨q2,bH,bE,-⟩:=zP I.o.hw B hv Y;have a7:Hid (¬(SL ar lr cr).ownBlock=some qe):=λe=>a4.o a B (ZR hv e);have HV:=O8 hv;rw [Y]at ad;have b3:=ad.o;have aq:=O8 Y;have q1:=I.o.hw.c1;clear hv Y a4 ad;refine aw 11 (S:=λD=>D.cell? (AD (q+1+1+1) 1)=some (SV (q+1+1) n n)/\D.cell? (AD (q+1+1) a)=some (SL ar lr cr)/\D.cell? (AD qe 0)=some (IV (t:Int))/\D.cell? (AD qe 1)=some (IV p)) ZK (⟨q1,q2,r3,r4⟩) (λL=>?_);refine aB 0 ?_;refine aB 1 ?_;refine aB 2 ?_;refine aB 3 ?_;refine aB 4 ?_;refine aB 5 ?_;refine aB 6 ?_;refine aB 7 ?_;refine aB 8 ?_;have O:Hid (Below wq.heap.size wq (((wq).alloc (CE #[IV (t:Int),IV p] 66)).drew)):=((PF _ _).alloc (Pf _) _).drew;have c5:((wq).alloc (CE #[IV (t:Int),IV p] 66)).drew.cell? (AD wq.heap.size 0)=some (IV (t:Int)):=Py (w:=wq) _ 66 wq.heap.size 0 rfl;have ba:((wq).alloc (CE #[IV (t:Int),IV p] 66)).drew.cell? (AD wq.heap.size 1)=some (IV p):=Py (w:=wq) _ 66 wq.heap.size 1 rfl;have bz:=(O.o.cell (O9 _ _ q1)).trans q1;have bA:=(O.o.cell (O9 _ _ q2)).trans q2;have aW:=(O.o.cell (O9 _ _ r3)).trans r3;have aX:=(O.o.cell (O9 _ _ r4)).trans r4;have ag:=O8 (I.o.ag O.o);refine aK 9 λK U=>?_;go_simp;refine U.o _ _ (λ_=>⟨bz,bA,aW,aX⟩) ?_;clear U K;clear L q1 q2 r3 r4 O;generalize ((wq).alloc (CE #[IV (t:Int),IV p] 66)).drew=cf at *;(try unfold BW at *);generalize wq.heap.size=h5 at *;try walk_nrm
     refine aK 10 λK U=>?_;rw [PW (by rfl)];apply aY.o;refine xE (.tmp 60) (.tmp 62) rfl bZ _ bi bw br bc rfl (SL ar lr cr) lr (C a) aq.o rfl (bH.o _ ag.o.hw) h5 ((t:Int),p) rfl c5 ba ZO (λv6 w6 aQ X bn=>?_);obtain ⟨f6,q2,q1,b9⟩:=bE.o _ _ ag.o.hw X;have r3:=X.aq aW (λe=>a7.o e);have r4:=X.aq aX (λe=>a7.o e);have bG:=O8 (ED.dT (u:=v6) (x:=((t:Int),p)) ag.o B (ZR aq.o aQ) (ZR HV.o X) (ZR HV.o bn));obtain ⟨a6,l6,c6,e6⟩:∃a l c,v6=SL a l c:=mB aQ;clear aQ bn X bz bA aW aX c5 ba ag;subst e6;have L:=And.intro q1 (And.intro q2 (And.intro r3 r4));refine U.o _ _ (λ_=>L) ?_;clear U K;refine aK 11 λK U=>?_;go_simp;refine U.p ?_;clear U K;refine aK 12 λK U=>?_;go_simp;refine U.q ?_;clear U K;refine az ZK ?_;go_wp2;go_roundw;exact ⟨j+1,_,_,ZO,ZN,bG,aC⟩;simp [intOf];omega
   ·obtain rfl:j=d:=ZO;have a2:Hid (Nz E m n (i+1) 0 C):=λb Q=>by have h:=Gz (E:=E) HD.o a0.o (k:=j) (ZR T.o ax.o) b;rw [h];exact M.o b Q
    clear M;go_wp2;go_roundw;exact ⟨i+1,V,C,ZO,ZN,o,a2⟩;simp [intOf];omega
  ·obtain rfl:i=k:=ZO;have o0:=o.o.hw.c0
   have o1:=o.o.hw.c1;have o2:=o.o.hw.c2;have r:wr.heap[q+1]? =some (.cells #[SN,SN,SN] 55 (0,0)):=(o.o.hw.aJ.block _ (ZH H.o)).trans bD.o;have c0:wr.cell? (AD (q+1) 0)=some (SN):=CH r;have c1:wr.cell? (AD (q+1) 1)=some (SN):=CH r;have a9:wr.cell? (AD (q+1) 2)=some (SN):=CH r;have z0:wr.frozen? (AD (q+1) 0)=false:=Pg r 0;have z1:wr.frozen? (AD (q+1) 1)=false:=Pg r 1;have z2:wr.frozen? (AD (q+1) 2)=false:=Pg r 2;clear r;go_wp2;(try simp only [Exit.inBlock,Exit.then]);obtain ⟨w9,aR⟩:=EX (((wr.setCell (AD (q+1) 0) (SN)).setCell (AD (q+1) 1) (SV (q+1+1) n n)).setCell (AD (q+1) 2) (SN));rw [aR];obtain ⟨d0,d1,d2,bm⟩:=bX c0 c1 a9 w9 aR.symm;clear aR c0 c1 a9 z0 z1 z2 o0 o1 o2;refine Qz (v:=.agg #[SN,SV (q+1+1) n n,SN]) ?_ rfl ?_
   ·rw [cX rfl];go_simp
   ·have cb:=H.o;have bP:=o.o.hw.es.ax bm (λe=>ZO) (λi b aN e s=>ZH (o.o.hw.es.lM i b aN e))
    have au:∀x,x<n->((Gk C n).getD x []).length<=16777216:=λx A=>by rw [nw C A,M.o x A];exact PG (B8 _ _ _) (aI.o x A)
    have bj:NL E (Gk C n) m:=Gy (by rw [kJ,ab.o]) (λx A=>ZR ab.o (aF.o x A)) (λx A=>by rw [ab.o]at A;rw [nw C A,M.o x A,P.o]);refine ⟨_,Gk C n,rfl,⟨kJ C n,bP.fm,λx A z G=>?_,λx A=>?_,hn⟩,bj,au,?_⟩
    ·rw [nw C A,M.o x A]at G;have bV:z∈E.getD x []:=by
      unfold mR at G;split at G
      ·exact (PY.1 G).1
      ·split at G
       ·exact Tw (PY.1 G).1
       ·cases G
     exact (ay.o w1 (PF _ _)).inr x A z bV
    ·rw [kJ]at A;have:=au x A
     omega
    ·have hB:=af bB.o o.o.hw.aJ;exact hB.trans (bm.ag hB.size (λk hk e=>ZH HQ.o))
end
end Go.Proofs.YtimniinkpipnmaaGreatDoor
namespace Go.Own
open Go.RowKit
def Bu(P:Program)(m:Nat)(n:Array Value)(w:WD){α:Type}(c:α->Array Value)(g:List α->α->WD->Prop)(j:Nat->Prop)(f:List α->Prop):Prop:=
 ∀(l:Nat)(J:List α->(Nat->Prop)->WD->Prop)(W:WD),BW w W->w.heap.size<=l->l<W.heap.size->
  (∀a S A B,J a S A->aj (λk=>W.heap.size<=k/\¬S k) A B->J a S B)->(∀a S A,J a S A->∀k,S k->∃o,A.heap[k]? =some o/\o.isCells=true)->
  (∀a S x b,J a S b->g a x b->YieldAt Fence.wide 0 P l (c x) b λe d=>e=RT (.bool true)/\∃h,J (a++[x]) h d/\aj S b d/\∀k,h k->S k\/b.heap.size<=k)->
  J [] j W->Calls P m (#[.func (.yield l) #[] #[]]++n) W λe d=>(∃v,e=RT v)/\∃i S,f i/\J i S d
def ld{α P g ps assign body Q a w}
 {gf:Nat} {lb} (hg:a.eval g=.func (.func gf) #[] lb) (eg:∀args w,(callFunc gf args).run P w=.ok (.enter gf args) w)
 {i L S0 ae} (au:Bu P gf lb w i L S0 ae) (ay:∀x,(i x).size=ps.size)
 (I)
 (hI:∀b S A B,I b S A->aj (λk=>w.heap.size<=k/\¬S k) A B->I b S B)
 (u:∀b S A,I b S A->∀k,S k->∃o,A.heap[k]? =some o/\o.isCells=true)
 (ag:∀b x A B,L b x A->aj (λk=>∃o,A.heap[k]? =some o/\o.isCells=false) A B->L b x B)
 (h0:I [] S0 w) (a₁:α->Act)
 (C:∀l x W K,K (a₁ x) W->assign.wpIn (Fence.wide.inRound l) 0 P (Exit.then K (λ_ _ _=>False)) {tmps:=(ps.zip (i x)).foldl (λt (p,v)=>t.setIfInBounds p v) a.tmps,defers:=[]} W)
 (Y:∀l b S x W,w.heap.size<=l->I b S W->L b x W->body.wpIn (Fence.wide.inRound l) 0 P (nJ I (λ_=>False) S (b++[x]) W) (a₁ x) W)
 (Z:∀D xs S W,w.heap.size<=D->ae xs->I xs S W->W.heap[D]? =some (.deferred (some []))->Q .normal {a with defers:={target:=.collected D,args:=#[]}::a.defers} W):
 (Code.rangeFunc g ps assign body).wp P Q a w:=by
 refine (Ta (n:=0)).1 (wpIn_rangeFunc λfn aq=>?_)
 obtain ⟨f,c⟩:∃f:LoopState->Option Code->Loop,f=λst pe=>{state:=st,pending:=pe,fn:=fn,tmps:=a.tmps,params:=ps,assign:=assign,body:=body,defers:=w.heap.size}:=⟨_,rfl⟩
 have⟨D,hD⟩:=EX w.heap.size
 have⟨m,y⟩:=EX ((w.alloc (.deferred (some []))).alloc (.loop (f .ready none)))
 have ah:BW w m:=by rw [<-y];exact ((PF _ w).alloc (Pf _) _).alloc ZS _
 have aA:m.heap.size=D+2:=by rw [<-y,<-hD];simp [P3]
 have af:m.heap[D+1]? =some (.loop (f .ready none)):=by rw [<-y,<-hD];have:=Sk (w.alloc (.deferred (some []))) (.loop (f .ready none));rwa [P3]at this
 have ao:m.heap[D]? =some (.deferred (some [])):=by rw [<-y,<-hD];exact (UE _ _ _ ZS).trans (Sk w _)
 let J:List α->(Nat->Prop)->WD->Prop:=λb S W=>I b S W/\W.heap[D+1]? =some (.loop (f .ready none))/\W.heap[D]? =some (.deferred (some []))
 have bk:∀{A B:WD}{k:Nat}{o:Obj},BW A B->A.heap[k]? =some o->B.heap[k]? =some o:=λX h=>(X.block _ (Pb.1 h).1).trans h
 have kb:∀{A B:WD}(T:Nat->Prop),BW A B->aj T A B:=λT X=>(aj.aC X).mono λk j s=>absurd j ZO
 have al:∀{b:List α}{S:Nat->Prop}{W:WD}{k:Nat}{o:Obj},I b S W->W.heap[k]? =some o->o.isCells=false->¬S k:=λH j ho s=>by have⟨o',G,M⟩:=u _ _ _ H _ s;rw [j]at G;cases G;rw [ho]at M;cases M
 have V:∀b S A B,I b S A->aj (λk=>w.heap.size<=k/\∃o,A.heap[k]? =some o/\o.isCells=false) A B->I b S B:=λb S A B H j=>hI _ _ _ _ H (j.mono λk _ s=>⟨s.1,by obtain ⟨o,G,M⟩:=s.2;exact al H G M⟩)
 have an:J [] S0 m:=⟨hI _ _ _ _ h0 (kb _ ah),af,ao⟩
 have F:∀(W:WD)(o:Loop)(o':Obj),W.heap[D+1]? =some (.loop o)->aj (λk=>w.heap.size<=k/\∃o,W.heap[k]? =some o/\o.isCells=false) W (W.putObj (D+1) o'):=λW o o' h=>
  (bU W (D+1) o').mono λk _ e=>by subst e;exact ⟨ZO,_,h,rfl⟩
 have ak:∀{b:List α}{S:Nat->Prop}{W:WD}{k:Nat}{o:Obj},I b S W->W.heap[k]? =some o->o.isCells=false->¬S k:=λH j ho s=>by have⟨o',G,M⟩:=u _ _ _ H _ s;rw [j]at G;cases G;rw [ho]at M;cases M
 refine ⟨D+1,[{target:=.collected D,args:=#[]}],m,{target:=.fn (.func gf) lb,args:=#[.func (.yield (D+1)) #[] #[]]},m,gf,#[.func (.yield (D+1)) #[] #[]]++lb,m,?_,?_,λ_ _=>RW,?_,λh=>(by cases h),?_⟩
 rw [<-y,c,<-hD];exact UM _ _ _ _ _
 simp only [resolve,hg]
 simp [go_sem]
 simp [invoke,go_sem,eg]
 refine Rw.2 ((au (D+1) J m ah ZO (Pb.1 af).1 ?_ ?_ ?_ an).mono ?_)
 exact λb S A B h X=>⟨hI _ _ _ _ h.1 (X.mono λk _ s=>⟨ZH s.1,s.2⟩),(X.block _ (Pb.1 h.2.1).1 (λs=>ZH s.1)).trans h.2.1,(X.block _ (Pb.1 h.2.2).1 (λs=>ZH s.1)).trans h.2.2⟩
 exact λb S A h=>u _ _ _ h.1
 rintro b S x W ⟨H,U,j⟩ az
 have aw:D+1<W.heap.size:=(Pb.1 U).1
 have hy:=run_yield (P:=P) (args:=i x) U (by rw [c];exact ay x)
 rw [c]at hy
 refine ⟨fn,_,assign,body,hy,roundIn_of_wpIn aq (C _ x W _ ?_)⟩
 clear hy
 refine ⟨_,run_beginRound U (by rw [c]),?_⟩
 have⟨q,z⟩:=EX (W.putObj (D+1) (.loop {f .ready none with state:=.busy}))
 rw [z]
 have O:aj (λk=>w.heap.size<=k/\∃o,W.heap[k]? =some o/\o.isCells=false) W q:=by rw [<-z];exact F W _ _ U
 have R:aj (λk=>k=D+1) W q:=by rw [<-z];exact bU _ _ _
 have ac:q.heap[D+1]? =some (.loop {f .ready none with state:=.busy}):=by rw [<-z];exact R8 aw
 have ab:q.heap[D]? =some (.deferred (some [])):=(R.block D (Pb.1 j).1 ZO).trans j
 have aa:=V _ _ _ _ H O
 have ax:=ag _ _ _ _ az (O.mono λk _ h=>h.2)
 have aB:q.heap.size=W.heap.size:=by rw [<-z];simp [World.putObj]
 refine wpIn_mono (Y (D+1) b S x q ZO aa ax) ?_
 have am:∀(d:Option Code)(r:WD),aj S q r->∃N,(Instr.endRound (D+1) d).run P r=.ok (.bool d.isNone) N/\N.heap[D+1]? =some (.loop (f (if d.isNone then .ready else .done) d))/\N.heap[D]? =some (.deferred (some []))/\
  aj (λk=>w.heap.size<=k/\∃o,r.heap[k]? =some o/\o.isCells=false) r N/\aj (λk=>k=D+1) r N/\r.heap.size<=N.heap.size:=λd r h3=>by
  have ad:=(h3.block (D+1) (Pb.1 ac).1 (ak aa ac rfl)).trans ac
  have av:=(h3.block D (Pb.1 ab).1 (ak aa ab rfl)).trans ab
  have hr:=run_endRound (P:=P) d ad
  rw [c]at hr
  refine ⟨_,hr,?_,?_,F r _ _ ad,bU _ _ _,(bU r (D+1) _).size⟩
  rw [c];exact R8 (Pb.1 ad).1
  exact (Q8 ZO).trans av
 rintro e a3 r hp
 cases e with
 |normal=>
  obtain ⟨S',ar,ai,ap⟩:=hp
  have⟨N,hr,G,M,h3,h4,h5⟩:=am none r ai
  refine ⟨_,N,hr,⟨rfl,S',⟨V _ _ _ _ ar h3,G,M⟩,?_,λk s=>?_⟩⟩
  have E:=((R.mono (T:=λk=>k=D+1\/S k) λk _ e=>.inl e).then ai (λk _ s=>.inr s)).then h4 (λk _ e=>.inl e)
  refine ⟨E.os,E.tape,E.output,E.size,λk j hn=>?_⟩
  by_cases e:k=D+1
  rw [e]
  exact G.trans (by simpa using U.symm)
  exact E.block k j (λs=>s.elim e hn)
  obtain h|h:=ap k s
  exact .inl h
  exact .inr ZO
 |ret=>exact hp.2.elim
 |exit id=>exact hp.elim
 |goto t=>exact hp.elim
 |panic ch=>exact hp.elim
 |outgrown=>exact hp.elim
 rintro e q ⟨⟨v,rfl⟩,xs,S,hS,H,U,j⟩
 have hr:=Uv (P:=P) U (by rw [c];simp)
 rw [c]at hr
 exact ⟨none,_,hr,Z D xs S _ ZO hS (V _ _ _ _ H (F q _ _ U)) ((Q8 ZO).trans j)⟩
end Go.Own
namespace Go.Proofs.YtimniinkpipnmaaGreatDoor
open Go.RowKit Go.Own Go.Proofs.Tryz
def Vb:=@Nat.two_pow_pos
def Vh:=@Nat.testBit_two_pow_mul_add
def IY{x}(a:x≠0)(h:x<2^64):∃m,x=2^Lib.ctz 64 x*(2*m+1)/\Lib.ctz 64 x<64:=by
 have:=Lib.ctzFrom_spec 64 x ZO h;have e:Lib.ctz 64 x=Lib.ctzFrom 64 x:=by simp [Lib.ctz,a]
 rw [e];exact this
def JI(m):(2*m+1).testBit 0=true:=by rw [Nat.testBit_zero];simp
def qK(k a j):(2^k*a).testBit j=(decide (k<=j)&&a.testBit (j-k)):=by have h:=Vh a (b:=0) (i:=k) (Vb k) j;rw [SS]at h;rw [h];by_cases e:j<k;rw [PW e,PH ZO];simp;rw [Qa e,PX ZO];simp
def Lr{x k m}(h:x=2^k*(2*m+1))(j):(x&&&(x-1)).testBit j=(decide (k+1<=j)&&x.testBit j):=by
 have o:0<2^k:=Vb k;have g:x-1=2^k*(2*m)+(2^k-1):=by rw [h,Nat.mul_add,RL];omega
 rw [RM,g,Vh _ ZO,h,qK];by_cases n:j<k;have a:decide (k<=j)=false:=PH ZO;have b:decide (k+1<=j)=false:=PH ZO;rw [a,b];simp;rw [Qa n];have a:decide (k<=j)=true:=PX ZO;rw [a,Qu];obtain b|b:=Re k j;have c:decide (k+1<=j)=true:=PX ZO;obtain ⟨i,d⟩:∃i,j-k=i+1:=⟨j-k-1,ZO⟩;have e:(2*m+1)/2=m:=ZO;have f:(2*m)/2=m:=ZO;rw [c,d,Nat.testBit_succ,Nat.testBit_succ,e,f];simp;have c:decide (k+1<=j)=false:=PH ZO;have d:j-k=0:=ZO;have l:(2*m).testBit 0=false:=by rw [Nat.testBit_zero];simp
 rw [c,d,l];simp
def M7{x k m}(h:x=2^k*(2*m+1)):x&&&(x-1)<x:=by
 have a:0<2^k:=Vb k;have:x≠0:=by rw [h];exact Nat.mul_ne_zero (by omega) (by omega)
 have:=@Nat.and_le_right x (x-1);omega
def y9(u t x:Nat):Prop:=x<2^64/\∀i,x.testBit i=(decide (t<=i)&&u.testBit i)
def nh(u:Nat):List Nat:=(List.range 64).filter (u.testBit ·)
def y9.none{u t}(h:y9 u t 0)(g:t<=64):(List.range t).filter (u.testBit ·)=nh u:=by
 have a:∀d t,t+d=64->(∀i,t<=i->u.testBit i=false)->(List.range t).filter (u.testBit ·)=nh u:=by
  intro d;induction d with
  |zero=>intro t e _;rw [show t=64 by omega];rfl
  |succ d f=>intro t e c;rw [<-f (t+1) ZO (λi b=>c i ZO),QQ,QA];simp [c t (Pf _)]
 refine a (64-t) t ZO λi b=>?_;have:=h.2 i;rw [Rn,PX b,Qu]at this;exact this.symm
def y9.step{u t x}(h:y9 u t x)(o:x≠0):
 t<=Lib.ctz 64 x/\Lib.ctz 64 x<64/\u.testBit (Lib.ctz 64 x)=true/\y9 u (Lib.ctz 64 x+1) (x&&&(x-1))/\x&&&(x-1)<x/\
  (List.range (Lib.ctz 64 x+1)).filter (u.testBit ·)=(List.range t).filter (u.testBit ·)++[Lib.ctz 64 x]:=by
 have⟨m,c,n⟩:=IY o h.1
 have⟨k,j⟩:=EX (Lib.ctz 64 x)
 rw [j]at c n⊢
 have p:x.testBit k=true:=by rw [c,qK];simp [JI]
 have b:∀i,i<k->x.testBit i=false:=λi v=>by rw [c,qK,PH ZO,QX]
 have a:=h.2 k
 rw [p]at a
 have f:t<=k:=by by_cases e:t<=k;exact e;rw [PH e]at a;cases a
 have g:u.testBit k=true:=by rw [PX f,Qu]at a;exact a.symm
 have l:=M7 c
 refine ⟨f,n,g,⟨ZH h.1,λi=>?_⟩,l,?_⟩
 rw [Lr c,h.2 i]
 by_cases e:k+1<=i
 rw [PX e,PX (show t<=i by omega)];simp
 rw [PH e];simp
 have q:∀d,t+d<=k->(List.range (t+d)).filter (u.testBit ·)=(List.range t).filter (u.testBit ·):=by
  intro d;induction d with
  |zero=>intro _;rfl
  |succ d s=>
   intro e;have r:u.testBit (t+d)=false:=by have:=h.2 (t+d);rw [b _ ZO,PX (show t<=t+d by omega),Qu]at this;exact this.symm
   rw [show t+(d+1)=t+d+1 by omega,QQ,QA,s ZO];simp [r]
 have:=q (k-t) ZO
 rw [show t+(k-t)=k by omega]at this
 rw [QQ,QA,this]
 simp [g]
def ep.ax{T w c}(h:ep w)(f:aj T w c)(d:¬T 0):ep c:=λj b=>by have a:=O9 w _ (h j b);have e:=f.block 0 a d;have:=h j b;simpa [World.cell?,e]using this
def ep.cH{w}(h:ep w):0<w.heap.size:=O9 w _ (h 0 ZD)
def wN(w)(Z u:Nat)(hu:u<18446744073709551616)(j:ep w)(c:CA w Z 0 (UV u))(P)(F:∀k,P k->k≠0):
 Bu prog 94 #[PT Z] w (λx:Nat=>#[IV x]) (λa x _=>a.length<=x/\x<64/\u.testBit x=true) P (λxs=>xs=nh u):=by
 intro l J W U ae af hJ D hY C
 have HJ:=O8 hJ
 have HY:=O8 hY
 have o:=O8 C
 have ad:=j.cH
 have z:Hid (ep W):=j.ag U
 have b0:CA W Z 0 (UV u):=(U.cell (O9 w _ c)).trans c
 have r:=O8 F
 have I:l≠0:=ZO
 have ac:=O8 I
 clear hJ D hY C F c U j I
 go_enter func94,ntmps94
 go_wp2
 go_loopw [3] (λv wr=>∃(x t:Nat)(a:List Nat)(T:Nat->Prop),v=UV x/\t<=64/\Hid (y9 u t x)/\Hid (a=(List.range t).filter (u.testBit ·))/\Hid (J a T wr)/\Hid (ep wr)/\Hid (∀k,T k->k≠0)) (λv _=>(intOf v).toNat)
 exact ⟨u,0,[],P,rfl,Pz _,⟨hu,λi=>ZS⟩,O8 rfl,o,z,r⟩
 clear o z r
 obtain ⟨x,t,a,T,rfl,ht,M,b,V,d,m⟩:=hrel
 have g:x<18446744073709551616:=M.o.1
 by_cases Y:x=0
 ·subst Y;have e0:(((0:Nat):Int)!=0)=false:=rfl
  go_wp2;go_end0;exact ⟨⟨_,rfl⟩,a,T,ZR b.o (M.o.none ht),V.o⟩
 ·have⟨h1,h2,Q,R,h5,S⟩:=M.o.step Y;have h:=O8 (CY x g Y wr d.o)
  have⟨k,H⟩:=EX (Lib.ctz 64 x);rw [H]at h1 h2 Q R S h;have H4:=O8 R;have H6:=O8 S;have f:bits .and .u64 (x:Int) ((x-1:Nat):Int)=((x&&&(x-1):Nat):Int):=RC _ _ g ZO;have⟨y,X⟩:=EX (x&&&(x-1));rw [X]at f H4 h5;have K:((x-1:Nat):Int)=(x:Int)-1:=ZO;rw [K]at f;have ag:IntKind.u64.wrap ((x:Int)-1)=(x:Int)-1:=by simp [IntKind.wrap,IntKind.bits,IntKind.signed];omega
  have e0:((x:Int)!=0)=true:=by simp;omega
  have A:=O8 (HY.o a T k wr V.o ⟨by rw [b.o];have:=Qn (u.testBit ·) (List.range t);rw [Qp]at this;omega,h2,Q⟩);clear Q R S H X M;go_upto_region 3 with(fail);refine (Ta (n:=0)).1 ?_;gi_wp2_with (refine ⟨RW,rfl,?_⟩;gi_at_call 95;refine (Rw.2 h.o).mono ?_;rintro e w4 ⟨rfl,rfl⟩;have⟨fn,ab,L,aa,X,E⟩:=A.o;have q:=O8 E;clear E);refine ⟨rfl,q.o.mono ?_⟩;have p:Hid (a++[k]=(List.range (k+1)).filter (u.testBit ·)):=by show _=_;rw [H6.o,b.o]
  rintro e W' ⟨rfl,T',B,H,G⟩
  ·have N:=O8 B;have H0:Hid (ep W'):=d.o.ax H (λs=>m.o 0 s rfl)
   have O:Hid (∀k,T' k->k≠0):=λk s=>by
    obtain s|s:=G k s
    ·exact m.o k s
    ·have:=d.o.cH;omega
   clear B H G A h q V d m b H6;simp only [];gi_wp2;go_wp2;go_roundw;exact ⟨y,k+1,_,T',rfl,ZO,H4,p,N,H0,O⟩;simp [intOf];omega
section
def wO(w)(u:Nat):CL 65 #[UV u] w λe c=>e=RT (.func (.func 94) #[] #[PT w.heap.size])/\c=w.alloc (CE #[UV u] 45):=by have⟨b,a⟩:=EX (w.alloc (CE #[UV u] 45));go_enter func65,ntmps65;go_wp2;go_ret;exact ⟨rfl,by first|exact a.symm|rfl|trivial⟩
def FW(w sb):CL 115 #[PT sb] w λe c=>e=RT (.func (.func 152) #[] #[PT w.heap.size])/\c=w.alloc (CE #[PT sb] 134):=by have⟨b,a⟩:=EX (w.alloc (CE #[PT sb] 134));go_enter func115,ntmps115;go_wp2;go_ret;exact ⟨rfl,by first|exact a.symm|rfl|trivial⟩
def gT(W:List Nat)(j:Nat):List Nat:=(List.range (j*64)).filter λi=>(W.getD (i/64) 0).testBit (i%64)
def BI(W j):gT W (j+1)=gT W j++(nh (W.getD j 0)).map (64*j+ ·):=by unfold gT nh;have e:(j+1)*64=j*64+64:=ZO;rw [e,List.range_add,QA,List.filter_map];congr 1;rw [show(λx=>64*j+x)=(λx=>j*64+x)from funext λx=>by omega];congr 1;refine Td λi a=>?_;have a:=P5.1 a;have b:(j*64+i)/64=j:=ZO;have c:(j*64+i)%64=i:=ZO;simp only [Function.comp,b,c]
def Dl{w sb wb n f W}(h:dU w sb wb n f W):gT W (gW n)=(List.range n).filter f:=by
 unfold gT;have d:n<=gW n*64:=by unfold gW;omega
 have e:gW n*64=n+(gW n*64-n):=ZO;rw [e,List.range_add,QA];have a:((List.range (gW n*64-n)).map (n+ ·)).filter (λi=>(W.getD (i/64) 0).testBit (i%64))=[]:=by refine Ua.2 λx c=>?_;obtain ⟨y,-,rfl⟩:=Qx.1 c;rw [h.bit,PH ZO];simp
 rw [a,Qb];exact Td λi b=>by rw [h.bit,PX (P5.1 b),Qu]
structure Ah (J:List Nat->(Nat->Prop)->WD->Prop) (Wz q sb wb n:Nat) (f:Nat->Bool) (W:List Nat) (yl:Value) (Ds:List Nat) (pre:List Nat) (S:Nat->Prop) (A:WD):Prop where
 j:J pre S A
 set:dU A sb wb n f W
 oO:ep A
 yc:A.cell? (AD q 0)=some yl
 cO:∀k,S k->k≠0/\k≠sb/\k≠wb/\k≠q
 marks:∀D∈Ds,Wz<=D/\A.heap[D]? =some (.deferred (some []))
section
variable {J:List Nat->(Nat->Prop)->WD->Prop} {Wz q sb wb n:Nat} {f:Nat->Bool} {W:List Nat} {yl:Value} {Ds pre pre':List Nat} {S S':Nat->Prop} {A B:WD}
def Ah.hold{T}(h:Ah J Wz q sb wb n f W yl Ds pre S A)(l:J pre' S' B)(b:aj T A B)(c:¬T 0)(d:¬T sb)(e:¬T wb)(g:¬T q)(i:∀D∈Ds,¬T D)(j:∀k,S' k->S k\/A.heap.size<=k):Ah J Wz q sb wb n f W yl Ds pre' S' B:=
 ⟨l,h.set.ax b d e,h.oO.ax b c,b.aq h.yc g,λk s=>by obtain s|s:=j k s;exact h.cO k s;have:=h.set.dY;have:=h.oO.cH;have:=O9 A _ h.yc;simp only at this;omega,λD a=>⟨(h.marks D a).1,(b.block D (Pb.1 (h.marks D a).2).1 (i D a)).trans (h.marks D a).2⟩⟩
end
def Mr(D:Nat):Deferred:={target:=.collected D,args:=#[]}
def AR{g a R}(Ds:List Nat)(c:Ds.Nodup)(w)(i:∀D∈Ds,w.heap[D]? =some (.deferred (some [])))
 (h:∀b,aj (λk=>k∈Ds) w b->LeavesInM Fence.wide 0 prog g a R [] .returning b):LeavesInM Fence.wide 0 prog g a R (Ds.map Mr) .returning w:=by
 induction Ds generalizing w with
 |nil=>exact h w (aj.refl _ _)
 |cons D Ds o=>
  have l:=Sy.1 c
  refine ⟨ZS,.inl ⟨_,_,rfl,S1 (i D (P2 ..)),?_⟩⟩
  refine o l.2 _ (λE j=>?_) λb m=>h b ?_
  have d:E≠D:=λe=>l.1 (e▸j)
  exact (Q8 d).trans (i E (Qc _ j))
  exact ((bU w D _).mono (T:=λk=>k∈D::Ds) λk _ e=>by subst e;exact P2 ..).then m λk _ s=>Qc _ s
end
end Go.Proofs.YtimniinkpipnmaaGreatDoor
namespace Go.Own
open Go.RowKit
section
section
variable {P:Program} {ops:Array Oper} {Q:Exit->Act->WD->Prop} {md:Region.Mode} {S:WD->Prop} {β:Nat}
def Eb(l){n}{o:Oper}{a w K}(j:∀c,o.op≠.defer c)(h:o.wp P a w K Q):o.wpIn (Fence.wide.inRound l) n P a w K Q:=by
 refine ⟨λ_ _=>RW,?_⟩;rw [Fence.inRound_round,Oper.semAt_some l _ _ j];unfold Oper.wp at h;revert h;generalize (execOp a.eval o).run P w=r;intro h;match r,h with
 | .ok (.value v) b,h=>exact h
 | .ok .skip b,h=>exact h
 | .ok (.defer d) b,h=>exact h
 | .ok (.enter f g) b,h=>exact ⟨λe=>(ZC e),(Rw.2 h).inRound l⟩
 | .ok (.row k g) b,h=>exact ⟨λe=>(ZC e),λc i _=>let⟨v,b,r,s⟩:=h c i;⟨v,b,r,stepsIn_wide.2 s⟩⟩
 | .halt (.panic v) b,h=>exact h
def rL(l){n}(k:∀(j:Nat)(o),ops[j]? =some o->∀c,o.op≠.defer c)(g:¬LetsOut Q):∀d b a w,wpAny P md ops Q d b a w->wpAnyIn (Fence.wide.inRound l) n P md ops Q d b a w
 |0,_,_,_,h=>h
 |d+1,b,a,w,h=>by
  refine ⟨h.1,λi q=>?_⟩;have e:=wpOp_mono (λm r p=>rL l (n:=n) k g d (b.setIfInBounds i true) m r p) (h.2 i q);unfold wpOp at e;unfold wpOpIn;cases f:ops[i]? with
  |none=>rw [f]at e;exact e
  |some o=>rw [f]at e;simp only at e⊢;split;rename_i hw;rw [QZ hw]at e;obtain e|e:=e;exact Eb l (k i o f) e;exact absurd e.2 g;rename_i hw;rw [QN hw]at e;exact ⟨λ_ _=>RW,e⟩
def Fo(ops:Array Oper):Bool:=ops.all λo=>match o.op with| .defer _=>false|_=>true
def A1(h:Fo ops=true):∀(j:Nat)(o),ops[j]? =some o->∀c,o.op≠.defer c:=λj o b c e=>by have a:=UB.1 h o (Array.mem_of_getElem? b);rw [e]at a;cases a
def fQ{l n f a w}(β)(e:P.follows .mixedOrders=true)(d:Fo ops=true)(b:∀a w,¬Q .outgrown a w)(c:S w.drew)
 (h:S w.drew->dz P .any ops Q S β ops.size (Array.replicate ops.size false) a w.drew):(Code.region f ops true).wpIn (Fence.wide.inRound l) n P Q a w:=
 wpIn_region_any e (rL l (A1 d) (λ⟨a,w,h⟩=>b a w h) _ _ _ _ (pA _ _ _ _ (h c)))
end
end
end Go.Own
namespace Go.Proofs.YtimniinkpipnmaaGreatDoor
open Go.RowKit Go.Own Go.Proofs.Tryz
section
structure yw (w2 wr:WD) (B n a0:Nat) (E:List (List Int)) (g:Nat) (P:List Nat) (z xb ol oc:Nat) (f:Nat->Bool):Prop where
 aJ:Below B w2 wr
 NV:wr.heap[B]? =some (.cells #[SN,SV g n n,SN] 55 (0,0))
 Mt:wr.heap[B+2]? =some (.cells #[SV xb ol oc] 33 (0,0))
 j6:wr.heap[B+4]? =some (.cells #[SV (B+3) n n] 67 (0,0))
 NG:wr.heap[B+5]? =some (.cells #[.func (.func 64) #[] #[PT B,PT (B+2),PT (B+4)]] 1 (0,0))
 goal:Sl wr 4 (SV (B+3) n n) n (bB n f)
 o:Sl wr 3 (SV xb ol oc) ol ((aE P).map (Value.int .i64))
 bA:P.length=ol
 tr:Trail E a0 P z
 Nx:z<n
 OT:B<=xb
 NI:xb≠B/\xb≠B+2/\xb≠B+3/\xb≠B+4/\xb≠B+5
section
variable {w2 wr w':WD} {B n a0:Nat} {E:List (List Int)} {g:Nat} {P:List Nat} {z xb ol oc:Nat} {f:Nat->Bool}
def yw.size(h:yw w2 wr B n a0 E g P z xb ol oc f):B+5<wr.heap.size:=(Pb.1 h.NG).1
def yw.ax{T}(h:yw w2 wr B n a0 E g P z xb ol oc f)(d:B<=w2.heap.size)(b:aj T wr w')(c:∀k,k<wr.heap.size->T k->B+5<k/\k≠xb):yw w2 w' B n a0 E g P z xb ol oc f:=by
 have i:=h.size;have a:∀k,k<=B+5->¬T k:=λk b s=>by have:=c k ZO s;omega
 refine ⟨h.aJ.trans (b.ag ZO (λk b=>a k ZO)),(b.block _ ZO (a _ ZO)).trans h.NV,(b.block _ ZO (a _ ZO)).trans h.Mt,(b.block _ ZO (a _ ZO)).trans h.j6,(b.block _ ZO (a _ ZO)).trans h.NG,h.goal.ax b (λk e=>a k (ZH (cF e))),h.o.ax b (λk e s=>?_),h.bA,h.tr,h.Nx,h.OT,h.NI⟩;have:=c k (h.o.lt k e) s;have:=cF e;omega
def yw.ag(h:yw w2 wr B n a0 E g P z xb ol oc f)(a:B<=w2.heap.size)(b:BW wr w'):yw w2 w' B n a0 E g P z xb ol oc f:=
 h.ax a (aj.aC b) (λk c s=>ZO)
def yw.set(h:yw w2 wr B n a0 E g P z xb ol oc f)(m:B<=w2.heap.size){x}(j:x<n)(b):yw w2 (wr.setCell (AD (B+3) x) (.bool b)) B n a0 E g P z xb ol oc (up f x b)/\FZ wr (B+3) x/\CA wr (B+3) x (.bool (f x)):=by have⟨c,d,i⟩:=mD h.goal j b;have a:aj (λk=>k=B+3) wr (wr.setCell (AD (B+3) x) (.bool b)):=(aj.refl (λk=>k=B+3) wr).setCell (p:=(AD (B+3) x)) (λ_=>rfl) _;have o:=h.size;have l:=h.NI;exact ⟨⟨h.aJ.trans (a.ag ZO (λk a e=>ZO)),(a.block _ ZO ZO).trans h.NV,(a.block _ ZO ZO).trans h.Mt,(a.block _ ZO ZO).trans h.j6,(a.block _ ZO ZO).trans h.NG,c,h.o.ax a (λk e s=>ZH (cF e)),h.bA,h.tr,h.Nx,h.OT,h.NI⟩,i,d⟩
def yw.call(h:yw w2 wr B n a0 E g P z xb ol oc f)(d:B=w2.heap.size)(e:eG w2 (some (AD g 0)) n E)(c:∀i,i<n->(E.getD i []).length<=16777216)(b:∃y,y<n/\f y=true/\Own.aZ E z y)(a:ol<=60000):
 CL 64 #[PT B,PT (B+2),PT (B+4)] wr (pP wr E n a0 P f (B+2) xb):=by
 subst d
 exact Ie wr _ _ _ g n E xb ol oc P (w2.heap.size+3) f a0 z h.NV (e.ag h.aJ) c h.Mt h.o h.bA (CH h.j6) (Bc h.goal) h.tr h.Nx b a h.NI.2.1
def yw.walked{Q i b a c}(h:yw w2 wr B n a0 E g P z xb ol oc f)(v:B<=w2.heap.size)(r:Trail E a0 (P++Q) i)(u:i<n)(o:HC w' (B+2) #[SV b a c] 33)(l:(P++Q).length=a)(p:Sl w' 3 (SV b a c) a ((aE (P++Q)).map (Value.int .i64)))
 (d:aj (λk=>k=B+2\/k=xb) wr w') (j:b=xb\/wr.heap.size<=b):yw w2 w' B n a0 E g (P++Q) i b a c f:=by
 have q:=h.size
 have t:=h.NI
 have m:=h.OT
 refine ⟨h.aJ.trans (d.ag ZO (λk d e=>ZO)),(d.block _ ZO ZO).trans h.NV,o,(d.block _ ZO ZO).trans h.j6,(d.block _ ZO ZO).trans h.NG,h.goal.ax d (λk e s=>ZH (cF e)),p,l,r,u,?_,?_⟩
 rcases j with e|e<;>omega
 obtain e|e:=j
 rw [e];exact t
 omega
end
structure Mk (w2 W:WD) (B n a0:Nat) (E:List (List Int)) (g:Nat) (ms:List Nat) (IN:Nat->Nat) (pre:List Nat) (T:Nat->Prop):Prop where
 ex:∃P z xb ol oc f,yw w2 W B n a0 E g P z xb ol oc f/\(∀y,y<n->y∉ms->f y=false)/\(∀s∈pre,∃x∈P,(IN x).testBit s=true)/\ol<=1+pre.length*(n+2)/\(∀k,T k↔k=B+2\/k=B+3\/k=xb)
section
variable {w2 A W:WD} {B n a0:Nat} {E:List (List Int)} {g:Nat} {ms:List Nat} {IN:Nat->Nat} {pre:List Nat} {T:Nat->Prop}
def Mk.hold{b}(h:Mk w2 A B n a0 E g ms IN pre T)(l:B<=w2.heap.size)(o:B+5<b)(m:aj (λk=>b<=k/\¬T k) A W):Mk w2 W B n a0 E g ms IN pre T:=by have⟨P,z,xb,ol,oc,f,c,d,i,j,a⟩:=h.ex;exact ⟨P,z,xb,ol,oc,f,c.ax l m (λk _ s=>⟨ZO,λe=>s.2 ((a k).2 (.inr (.inr e)))⟩),d,i,j,a⟩
def Mk.cells(h:Mk w2 A B n a0 E g ms IN pre T)(k)(s:T k):∃o,A.heap[k]? =some o/\o.isCells=true:=by
 have⟨P,z,xb,ol,oc,f,a,l,m,p,d⟩:=h.ex;obtain e|e|e:=(d k).1 s;subst e;exact ⟨_,a.Mt,rfl⟩;subst e;exact ⟨_,eN a.goal,rfl⟩;subst e;obtain ⟨e,-⟩|⟨j,b,c,e,-,i,-⟩:=a.o.2;cases e
 cases e;exact ⟨_,i,rfl⟩
end
def F9{S s}(b:S<=16)(a:s<S):s∈nh (2^S-1):=by unfold nh;rw [PY,P5,SE];exact ⟨ZO,PX a⟩
def Ga(S)(a:S<=16):(nh (2^S-1)).length<=64:=by unfold nh;refine PG (Qn _ _) ?_;rw [Qp];exact Pf _
end
section
open Go.Shelf
attribute [local go_sem] TD
def FV(w pb d H n f g)(hn:n<=65536)(aD:ep w)(hS:dU w d H n f g)(t:w.cell? (AD pb 0)=some (PT d))(S0)(aB:∀k,S0 k->k≠0/\k≠d/\k≠H):
 Bu prog 152 #[PT pb] w (λx:Nat=>#[IV x]) (λC x _=>C.length<=x/\x<n/\f x=true) S0 (λxs=>xs=(List.range n).filter f):=by
 intro l J W hW bg a7 hJ ai hY ae
 have HJ:=O8 hJ
 have X:=O8 ai
 have HY:=O8 hY
 have⟨q,hq⟩:=EX W.heap.size
 have bh:pb<q:=by have:=O9 w _ t;have:=hW.size;simp only at *;omega
 have⟨w1,P⟩:=EX (W.alloc (.cells #[.func (.yield l) #[] #[]] 83))
 have M:BW W w1:=P▸ah _ _
 have aH:w1.cell? (AD q 0)=some (.func (.yield l) #[] #[]):=by rw [<-P,<-hq,Pa (Ph W _).1];rfl
 have aO:w1.heap.size=q+1:=ZW P hq
 have ar:=O8 aO
 have HQ:=O8 hq
 have b0:w1.cell? (AD pb 0)=some (PT d):=by have Z:=O9 w _ t;have h2:=(hW.cell Z).trans t;exact (M.cell (O9 W _ h2)).trans h2
 have aC:=hS.ag hW
 have ac:Hid (Ah J q q d H n f g (.func (.yield l) #[] #[]) [] (gT g 0) S0 w1):=⟨by
  have:gT g 0=[]:=by simp [gT]
  rw [this];refine HJ.o _ _ _ _ ae ((aj.aC M).mono λk p s=>absurd p ZO),aC.ag M,(aD.ag hW).ag M,aH,λk s=>?_,λD r=>ZC r⟩
 case refine_1=>obtain ⟨o,ho,-⟩:=ai _ _ _ ae k s;have:=(Pb.1 ho).1;have:=aB k s;omega
 have⟨c0,c1⟩:=ac.o.set.cells
 have⟨K,hK⟩:=EX (gW n)
 have bd:K<=1024:=by rw [<-hK];unfold gW;omega
 rw [hK]at c1
 have aq:=O8 hK
 have HL:Hid (l<q):=by show l<q;omega
 clear hJ ai hY ae hS aB aD t hW aC hK aO M
 refine (Rw (n:=0)).1 (S3 func152 rfl RW ?_ rfl)
 rw [Ta]
 simp only [ntmps152,Sd,P9,Ra,Nat.reduceAdd,Nat.reduceSub,SF,SG,Te,SU,QW,Qq]
 go_upto_region 1 with(fail)
 try rw [P]
 clear P
 go_wp2
 refine wp_loop_ghost_k (λm a wr=>∃(j:Nat)(I:List Nat)(T:Nat->Prop)(v3 v4 aQ aR aS aT aU aV ap:Value),j<=K/\m=K-j/\Hid (I.Nodup)/\Hid (Ah J q q d H n f g (.func (.yield l) #[] #[]) I (gT g j) T wr)/\q+1<=wr.heap.size/\
  a={tmps:=#[.func (.yield l) #[] #[],PT pb,PT q,v3,v4,undef,PT d,.bool false,PT d,PT d,.pointer (some (AD d 1)),SV H K K,IV K,IV j,aQ,aR,aS,aT,aU,aV,undef,undef,undef,undef,undef,undef,undef,undef,ap],defers:=I.map Mr}) K ?start ?round
 case start=>exact ⟨0,[],S0,undef,undef,undef,undef,undef,undef,undef,undef,undef,Pz _,rfl,List.nodup_nil,ac,by rw [ar.o];exact Pf _,rfl⟩
 case round=>
  clear ac c0 c1 b0 aH ar;intro gk a wr hr;obtain ⟨j,I,T,v3,v4,aQ,aR,aS,aT,aU,aV,ap,hj,hm,aL,v,a9,aE⟩:=hr;subst aE hm;intro JJ KK az be;have a1:=O8 az;clear az;by_cases a6:j<K;have bb:(j:Int)<K:=ZO;obtain ⟨cw,-,R⟩:=v.o.set.word (show j<gW n by rw [aq.o];exact a6);have⟨b,O⟩:=EX wr.heap.size;have⟨x,hx⟩:=EX (g.getD j 0);rw [hx]at cw R;have HX:=O8 hx;have aJ:=v.o.set.dY;have aN:=v.o.oO.cH;have ad:Hid (∀D∈I,D<b):=λD r=>by rw [<-O];exact (Pb.1 (v.o.marks D r).2).1
  have av:Hid (∀k,T k->k<b):=λk s=>by obtain ⟨o,ho,-⟩:=X.o _ _ _ v.o.j k s;rw [<-O];exact (Pb.1 ho).1
  have⟨G,ab⟩:=EX (wr.alloc (CE #[IV j] 3));have⟨F,Q⟩:=EX (G.alloc (CE #[UV x] 45));have sa:G.heap.size=b+1:=ZW ab O;have si:F.heap.size=b+2:=ZW Q sa;have aF:BW wr G:=ab▸ah _ _;have ak:BW G F:=Q▸ah _ _;have al:BW wr F:=af aF ak;have am:G.cell? (AD b 0)=some (IV j):=by rw [<-ab,<-O,Pa (Ph wr _).1];rfl
  have aG:F.cell? (AD b 0)=some (IV j):=(ak.cell (O9 G _ am)).trans am;have aI:F.cell? (AD (b+1) 0)=some (UV x):=by rw [<-Q,<-sa,Pa (Ph G _).1];rfl
  have V:Hid (Ah J q q d H n f g (.func (.yield l) #[] #[]) I (gT g j) T F):=v.o.hold (HJ.o _ _ _ _ v.o.j ((aj.aC al).mono λk p s=>absurd p ZO)) (aj.aC al) ZO ZO ZO ZO (λD r=>ZH (ad.o D r)) (λk s=>.inl s);have a0:Hid (Bu prog 94 #[PT (b+1)] F (λx:Nat=>#[IV x]) (λC y _=>C.length<=y/\y<64/\x.testBit y=true) T (λxs=>xs=nh x)):=wN F (b+1) x R V.o.oO aI T (λk s=>(V.o.cO k s).1);have aX:Hid (CL 65 #[UV x] G λe w'=>e=RT (.func (.func 94) #[] #[PT (b+1)])/\w'=F):=by show Calls _ _ _ _ _;have:=wO G x;rw [sa,Q]at this;exact this
  have au:=O8 si;have aZ:Hid (Ah J q q d H n f g (.func (.yield l) #[] #[]) I (gT g j++([]:List Nat).map (64*j+ ·)) T F/\F.cell? (AD b 0)=some (IV j)/\(∀k,T k->k≠b)):=⟨by rw [PE,Qb];exact V.o,aG,λk s=>ZH (av.o k s)⟩;have L:Hid (d<b/\H<b/\q<b/\0<b):=⟨ZO,ZO,ZO,ZO⟩;have bf:j<=1024:=ZO;clear hx aF ak al am aG aI V si Q aJ aN R a9 av;go_upto_region 5 with(fail);clear ab O sa cw;go_wp2_with (go_at_call 65;apply aX.o.mono;rintro e w5 ⟨rfl,rfl⟩);refine ld (gf:=94) (lb:=#[PT (b+1)]) rfl (UD func94 ZK rfl) a0.o (λ_=>rfl)
   (λc S A=>Ah J q q d H n f g (.func (.yield l) #[] #[]) I (gT g j++c.map (64*j+ ·)) S A/\A.cell? (AD b 0)=some (IV j)/\(∀k,S k->k≠b))
   (λC S A B h p=>?hI) (λC S A h=>X.o _ _ _ h.1.j) (λC x A B h p=>h) aZ.o
   (λy=>{tmps:=#[.func (.yield l) #[] #[],PT pb,PT q,PT b,UV x,IV y,PT d,.bool false,PT d,PT d,.pointer (some (AD d 1)),SV H K K,IV K,IV j,.bool true,IV j,.pointer (some (AD H j)),UV x,UV x,.func (.func 94) #[] #[PT (b+1)],IV y,undef,undef,undef,undef,undef,undef,undef,ap],defers:=[]}) ?assign ?body ?done
  case hI=>have hl:=L.o;have ba:=au.o;have hn:∀k,k<b+2->¬(w5.heap.size<=k/\¬S k):=λk p s=>ZH s.1;refine ⟨h.1.hold (HJ.o _ _ _ _ h.1.j (p.mono λk _ s=>⟨ZI s.1 HQ.o,λsk=>?_⟩)) p (hn _ ZO) (hn _ ZO) (hn _ ZO) (hn _ ZO) (λD r=>hn _ (ZH (ad.o D r))) (λk s=>.inl s),p.aq h.2.1 (hn _ (by simp only;omega)),h.2.2⟩;exact s.2 sk
  case assign=>intro l2 y A K2 a5;gi_wp2;exact a5
  case body=>
   rintro l2 c T1 y A a7 U ⟨a8,bc,aP⟩;have N:=U.1.set.bit (64*j+y);have e1:(64*j+y)/64=j:=ZO;have e2:(64*j+y)%64=y:=ZO;rw [e1,e2,HX.o,aP]at N;have ao:64*j+y<n/\f (64*j+y)=true:=by have:=N.symm;simp only [Qk,Ti]at this;exact this
   have⟨z,hz⟩:=EX (64*j+y);rw [hz]at ao;have HZ:=O8 hz;have HI:=O8 U;have aK:(gT g j++c.map (64*j+ ·)).length<=z:=by rw [Pk,PB];have:=Qn (λi=>(g.getD (i/64) 0).testBit (i%64)) (List.range (j*64));rw [Qp]at this;unfold gT;omega
   have a3:=HY.o _ T1 z A U.1.j ⟨aK,ao⟩;have cq:=U.1.yc;have cj:=U.2.1;have w1:IntKind.i64.wrap ((j:Int)*64)=(j:Int)*64:=by rw [SZ];omega
   have w2:(j:Int)*64+(y:Int)=z:=ZO;have w3:IntKind.i64.wrap (z:Int)=z:=by rw [SZ];omega
   have aY:=O8 U;obtain ⟨fn,tmps,Y,aw,bi,aA⟩:=a3;have a2:=O8 aA;clear aA U N e1 e2 hz ao aP a8 aK;gi_wp2;refine ⟨rfl,a2.o.mono ?_⟩;rintro e W' ⟨rfl,T',ay,p,aa⟩;have u:=aY.o;have hl:=L.o;have an:∀k,T1 k->k≠b:=u.2.2;have HP:Hid (nJ (λc S A=>Ah J q q d H n f g (.func (.yield l) #[] #[]) I (gT g j++c.map (64*j+ ·)) S A/\A.cell? (AD b 0)=some (IV j)/\(∀k,S k->k≠b)) (λ_=>False) T1 (c++[y]) A Exit.normal {tmps:=#[],defers:=[]} W'):=by
    refine ⟨T',⟨?_,p.aq u.2.1 (λs=>an _ s rfl),λk s=>?_⟩,p,aa⟩;rw [Qg,<-Qe];refine u.1.hold ?_ p (λs=>(u.1.cO _ s).1 rfl) (λs=>(u.1.cO _ s).2.1 rfl) (λs=>(u.1.cO _ s).2.2.1 rfl) (λs=>(u.1.cO _ s).2.2.2 rfl) (λD r s=>?_) aa;rw [Pv,PE,HZ.o];exact ay;have⟨o,ho,hc⟩:=X.o _ _ _ u.1.j D s;rw [(u.1.marks D r).2]at ho;cases ho;cases hc
    obtain s|s:=aa k s;exact an k s;have:=O9 A _ u.2.1;simp only at this;omega
   clear ay p aa u an;simp only [];gi_wp2;exact HP.o
  case done=>rintro D xs T1 A r rfl U ax;have aW:=O8 ax;have HI:=O8 U;have a4:=O8 r;clear ax U r;go_wp2;have u:=HI.o;have hl:=L.o;have r:=a4.o;have ba:=au.o;refine Handed.intro (K-(j+1)) ZO (a1.o _ _ _ ⟨j+1,D::I,T1,_,_,_,_,_,_,_,_,_,ZO,rfl,?_,?_,?_,rfl⟩);exact Sy.2 ⟨λh=>ZH (ad.o D h),aL.o⟩;have Z:=u.1;rw [<-HX.o,<-BI]at Z;refine ⟨Z.j,Z.set,Z.oO,Z.yc,Z.cO,λE hE=>?_⟩;obtain rfl|hE:=PO.1 hE;exact ⟨ZO,aW.o⟩;exact Z.marks E hE;have:=O9 A _ u.2.1;simp only at this;omega
  obtain rfl:j=K:=ZO;go_wp2;refine AR I aL.o wr (λD r=>(v.o.marks D r).2) λw' p=>?_;refine ⟨_,Rq rfl _ _ _,⟨_,rfl⟩,_,T,rfl,?_⟩;have e:=Dl v.o.set;rw [aq.o]at e;rw [<-e];refine HJ.o _ _ _ _ v.o.j (p.mono λk _ s=>⟨?_,λsk=>?_⟩);have:=(v.o.marks k s).1;have:=HQ.o;omega;have⟨o,ho,hc⟩:=X.o _ _ _ v.o.j k sk;rw [(v.o.marks k s).2]at ho;cases ho;cases hc
end
def dV(f:Nat->Bool)(a:Nat->Nat)(l:List Nat):List Nat:=(l.filter f).map a
def DV(f a l x):dV f a (l++[x])=dV f a l++(if f x then [a x]else []):=by unfold dV;rw [QA];cases h:f x<;>simp [h]
def iN(f a l):(dV f a l).length<=l.length:=by unfold dV;rw [PB];exact Qn _ _
structure vX (w:WD) (c d b e a n:Nat) (f:Nat->Bool) (W:List Nat) (aW:Nat->Nat):Prop where
 Oy:w.cell? (AD c 0)=some (PT b)
 OS:w.cell? (AD d 0)=some (SV a n n)
 set:dU w b e n f W
 yQ:∀i,i<n->w.cell? (AD a i)=some (IV (aW i:Int))
def vX.ag{w k g j e l c n f W a}(h:vX w g j e l c n f W a)(b:BW w k):vX k g j e l c n f W a:=
 ⟨(b.cell (O9 w _ h.Oy)).trans h.Oy,(b.cell (O9 w _ h.OS)).trans h.OS,h.set.ag b,λi d=>(b.cell (O9 w _ (h.yQ i d))).trans (h.yQ i d)⟩
def An(w:WD)(b:List Nat)(e:Ending)(d:WD):Prop:=∃a m c,e=RT (SL a m c)/\aF .i64 3 w d (SL a m c) (aE b)
def Jv(w la z lc l ub vb sb wb gb n f W d)(Y:aG .i64 w la z (aE l))(ad:z<=16777216)(p:∀q∈l,q<n)(hn:n<=65536)(hi:vX w ub vb sb wb gb n f W d):
 CL 113 #[SL la z lc,PT ub,PT vb] w (An w (dV f d l)):=by
 have B:Hid (l.length=z):=by have:=Y.1;rwa [aD]at this
 have HL:=O8 Y
 have R:=O8 p
 have HI:=O8 hi
 have H:Hid (∀G,BW w G->∀i:Nat,i<n->CL 114 #[PT sb,IV i] G λe ab=>e=RT (.bool (f i))/\BW G ab):=λG hb i b=>xY G sb wb n f W (HI.o.ag hb).set hn i b
 have⟨i3,X,aa,Z,V⟩:=P6 Tryz.eA
 clear Y p hi
 go_enter func113,ntmps113
 go_wp2
 go_loopw [5,10] (λv5 v wr=>∃(k:Nat)(a:OA)(m c:Nat),k<=z/\v=IV k/\v5=SL a m c/\Hid (aF .i64 3 w wr (SL a m c) (aE (dV f d (l.take k))))) (λ_ v _=>z-(intOf v).toNat)
 exact ⟨0,none,0,0,Pz _,rfl,rfl,O8 (lJ _ _ _)⟩
 obtain ⟨k,a,m,c,hk,rfl,rfl,g⟩:=hrel
 by_cases p:k<z
 ·have ac:(k:Int)<z:=ZO;obtain ⟨t,P⟩:∃t,l[k]? =some t:=⟨_,Pe (ZR B.o p)⟩
  have N:=R.o t (Pm P);have af:(t:Int)<n:=ZO;have A:Hid (BW w wr):=g.o.2.1;obtain ⟨-,h0|⟨lb,lo,rfl,hc⟩⟩:=HL.o.ag A.o
  ·omega
  have ck:CA wr lb (lo+k) (IV t):=by have:=hc k p;rw [cG (ZR B.o p),Pd,P]at this;exact this
  have b:=HI.o.ag A.o;have U:=b.Oy;have O:=O8 (H.o wr A.o t N);have ek:l.take (k+1)=l.take k++[t]:=by rw [Qf,P];rfl
  have j:=DV f d (l.take k) t;rw [<-ek]at j;have⟨F,y⟩:=EX (dV f d (l.take k));have⟨E,s⟩:=EX (dV f d (l.take (k+1)));have K:F.length<=k:=by rw [<-y];have:=iN f d (l.take k);rw [QI]at this;omega
  rw [y,s]at j;rw [y]at g;have I:=O8 s;have Q:=O8 b;clear hc P ek y s b;cases o:f t
  ·rw [o]at O;rw [o,Qa ZS,Qb]at j
   have C:=O8 j;clear j o;go_wp2_with (go_at_call 114;apply O.o.mono;rintro e w4 ⟨rfl,r⟩;have x:=O8 r;clear r);go_roundw;exact ⟨k+1,a,m,c,ZO,ZN,rfl,by rw [I.o,C.o];exact iu g.o x.o⟩;simp [intOf];omega
  ·rw [o]at O;rw [o,PW rfl]at j
   have C:Hid (aE E=aE F++[(d t:Int)]):=by rw [j,iz];exact O8 rfl
   have S:=O8 g.o;have D:(aE F).length=m:=gy g.o;have J:=O8 D;have ae:m<=k:=by rw [<-D,aD];exact K
   clear j o D K g;go_upto_region 6 with(go_at_call 114;apply O.o.mono;rintro e w4 ⟨rfl,r⟩;have x:=O8 r;clear r);have b:=Q.o.ag x.o;have c2:=b.OS;have c3:=b.yQ t N;have u:=iu S.o x.o;have T:=O8 u;have HO:Hid (Sl w4 3 (SL a m c) m ((aE F).map (Value.int .i64))):=by have h:=u.1;rw [J.o]at h;exact h
   generalize d t=nt at *;clear b u U ck;go_wp2_with (at_builtin;refine av rfl (.tmp 17) (.tmp 22) 33 rfl 3 i3 (IV 0) 8 QD X aa Z V rfl ZD _ _ _ rfl HO.o _ rfl rfl ZO ?_;intro g1 U w5 hs L M;have HE:=O8 (ef T.o J.o hs L M);clear hs L M);go_roundw;exact ⟨k+1,_,m+1,U,ZO,ZN,rfl,by rw [I.o,C.o];exact HE⟩;simp [intOf];omega
 ·obtain rfl:k=z:=ZO;have e:l.take k=l:=PI (by rw [B.o];exact Pf _)
  rw [e]at g;go_wp2;go_ret;exact ⟨a,m,c,rfl,g.o⟩
def dF(f:Nat->Bool)(N:Nat):List Nat:=(List.range N).filter f
def kB(f:Nat->Bool)(i:Nat):Nat:=(dF f i).length
def gg(f:Nat->Bool)(j:Nat):Nat:=if f j then kB f j else 0
def o8(f i):dF f (i+1)=dF f i++(if f i then [i]else []):=by unfold dF;rw [QQ,QA];cases h:f i<;>simp [h]
def zq(f i):kB f (i+1)=kB f i+(if f i then 1 else 0):=by unfold kB;rw [o8,Pk];cases h:f i<;>simp
def Ay(f):∀i,kB f i<=i
 |0=>Pf _
 |i+1=>by rw [zq];have:=Ay f i;split<;>omega
def xk(f){N i}(g:i<N)(e:f i=true):(dF f N)[kB f i]? =some i:=by
 have c:(dF f (i+1))[kB f i]? =some i:=by rw [o8,PW e];unfold kB;exact Qm
 have a:∀d,(dF f (i+1+d))[kB f i]? =some i:=by
  intro d;induction d with
  |zero=>exact c
  |succ d b=>rw [show i+1+(d+1)=i+1+d+1 by omega,o8,Pp (Po.1 b).1];exact b
 have:=a (N-(i+1));rwa [show i+1+(N-(i+1))=N by omega]at this
def qR{f N x}:x∈dF f N↔x<N/\f x=true:=by unfold dF;rw [PY,P5]
def Jo{f N p}(e:p<(dF f N).length):∃x,(dF f N)[p]? =some x/\x<N/\f x=true/\kB f x=p:=by have a:(dF f N)[p]? =some (dF f N)[p]:=Pe e;have⟨x,g⟩:=EX ((dF f N)[p]);rw [g]at a;have b:=qR.1 (Pm a);refine ⟨x,a,b.1,b.2,?_⟩;have c:=xk f b.1 b.2;have d:(dF f N).Nodup:=List.Pairwise.filter _ U2;exact (List.getElem?_inj (i:=kB f x) (j:=p) (Po.1 c).1 d).1 (c.trans a.symm)
def jJ(A:Au)(f:Nat->Bool)(i:Nat):dk:=⟨(A.ay i).need,(A.ay i).ban,(A.ay i).inn,dV f (gg f) (A.ay i).tO⟩
def jo(A:Au)(f:Nat->Bool):Au:=⟨A.sets,dV f (gg f) A.aP,(dF f A.ak.length).map (jJ A f)⟩
def Hz{A f p}(a:p<(jo A f).ak.length):∃x,(dF f A.ak.length)[p]? =some x/\x<A.ak.length/\f x=true/\kB f x=p/\(jo A f).ay p=jJ A f x:=by have a:p<((dF f A.ak.length).map (jJ A f)).length:=a;rw [PB]at a;have⟨x,b,c,d,e⟩:=Jo a;refine ⟨x,b,c,d,e,?_⟩;unfold Au.ay jo;(try dsimp only);rw [Pd,PZ,b];rfl
def jU{f a l p}:p∈dV f a l↔∃q∈l,f q=true/\a q=p:=by unfold dV;rw [Qx];constructor;rintro ⟨q,d,e⟩;have:=PY.1 d;exact ⟨q,this.1,this.2,e⟩;rintro ⟨q,b,c,e⟩;exact ⟨q,PY.2 ⟨b,c⟩,e⟩
def qh{f x}(h:f x=true):gg f x=kB f x:=by unfold gg;rw [PW h]
def Ev{A}(m:gL A)(f use)(l:∀q,q<A.ak.length->(f q=true↔use q)):As A (jo A f) use (gg f) (λp=>(dF f A.ak.length).getD p 0):=by
 have r:(jo A f).ak.length=(dF f A.ak.length).length:=PB ..;have b:∀p,p<(jo A f).ak.length->∃x,(dF f A.ak.length).getD p 0=x/\x<A.ak.length/\f x=true/\kB f x=p/\(jo A f).ay p=jJ A f x:=λp a=>by have⟨x,d,i⟩:=Hz a;exact ⟨x,by rw [Pd,d];rfl,i⟩
 have k:∀q,q<A.ak.length->f q=true->gg f q<(jo A f).ak.length/\(dF f A.ak.length).getD (gg f q) 0=q:=λq c g=>by have:=xk f c g;rw [qh g,r];exact ⟨(Po.1 this).1,by rw [Pd,this];rfl⟩
 refine ⟨rfl,λp a=>?_,λq c g=>k q c ((l q c).2 g),λp a=>?_,λp a=>?_,λp a=>?_,λp a=>?_,λq c g=>?_,λn o p a=>?_,λn o q c g=>?_⟩;obtain ⟨x,e,d,i,j,-⟩:=b p a;(try dsimp only);rw [e];exact ⟨d,by rw [qh i];exact j⟩;obtain ⟨x,e,-,-,-,h⟩:=b p a;(try dsimp only);rw [e,h];rfl;obtain ⟨x,e,-,-,-,h⟩:=b p a;(try dsimp only);rw [e,h];rfl;obtain ⟨x,e,-,-,-,h⟩:=b p a;(try dsimp only);rw [e,h];rfl;have⟨q,d,i,j⟩:=jU.1 a;exact ⟨q,d,(l q (m.aP q d)).1 i,j⟩;exact jU.2 ⟨q,c,(l q (m.aP q c)).2 g,rfl⟩;obtain ⟨x,e,s,-,-,h⟩:=b n o;rw [h]at a;have⟨q,d,i,j⟩:=jU.1 a;refine ⟨q,by(try dsimp only);rw [e];exact d,(l q (m.mZ _ (gJ s) q d)).1 i,j⟩;obtain ⟨x,e,s,-,-,h⟩:=b n o;(try dsimp only at c);rw [e]at c;rw [h];exact jU.2 ⟨q,c,(l q (m.mZ _ (gJ s) q c)).2 g,rfl⟩
def Ku{A}(d:gL A)(f):gL (jo A f):=by
 have g:(jo A f).ak.length=(dF f A.ak.length).length:=PB ..;have e:∀q,q<A.ak.length->f q=true->gg f q<(jo A f).ak.length:=λq n l=>by rw [qh l,g];exact (Po.1 (xk f n l)).1
 have a:∀x∈(jo A f).ak,∃i,i<A.ak.length/\x=jJ A f i:=λx c=>by obtain ⟨i,b,rfl⟩:=Qx.1 c;exact ⟨i,(qR.1 b).1,rfl⟩
 refine ⟨d.sets,by rw [g];have:=Ay f A.ak.length;have:=d.many;unfold kB at *;omega,λi b=>?_,λx c k m=>?_,λx c=>?_,λx c=>?_,λx c=>?_,?_⟩;obtain ⟨q,h,j,rfl⟩:=jU.1 b;exact e q (d.aP q h) j;obtain ⟨i,b,rfl⟩:=a x c;obtain ⟨q,h,j,rfl⟩:=jU.1 m;exact e q (d.mZ _ (gJ b) q h) j;obtain ⟨i,b,rfl⟩:=a x c;exact d.inn (A.ay i) (gJ b);obtain ⟨i,b,rfl⟩:=a x c;exact d.bits (A.ay i) (gJ b);obtain ⟨i,b,rfl⟩:=a x c;exact PG (iN _ _ _) (d.tl (A.ay i) (gJ b));exact PG (iN _ _ _) d.il
def JF{A:Au}(g)(a:∀i,(dk.tO (g i)).length<=(dk.tO (A.ay i)).length)(l:List Nat):iD (l.map g)<=iD (l.map A.ay):=by
 induction l with
 |nil=>exact Pf _
 |cons i l b=>have:=a i;simp only [iD,Pv,TV]at *;omega
def BC{f N}(h:∀i,i<N->f i=true):dF f N=List.range N:=by unfold dF;exact List.filter_eq_self.2 λi a=>h i (P5.1 a)
def KW{f N}(h:∀i,i<N->f i=true){i}(a:i<N):gg f i=i:=by rw [qh (h i a)];unfold kB;rw [BC (λj b=>h j ZO),Qp]
def BD{f N}(h:∀i,i<N->f i=true){l}(a:∀i∈l,i<N):dV f (gg f) l=l:=by unfold dV;rw [List.filter_eq_self.2 λi b=>h i (a i b)];exact qW λq c=>KW h (a q c)
def Eu{A}(d:gL A)(f):gG A (jo A f):=by
 have p:(dV f (gg f) A.aP).length<=A.aP.length:=iN _ _ _;have q:iD ((dF f A.ak.length).map (jJ A f))<=iD ((dF f A.ak.length).map A.ay):=JF _ (λi=>iN _ _ _) _;have c:=Fk (l:=(dF f A.ak.length).map A.ay) (l2:=(List.range A.ak.length).map A.ay) (List.filter_sublist.map _);rw [gZ]at c;have n:(jo A f).wt=(dV f (gg f) A.aP).length+iD ((dF f A.ak.length).map (jJ A f)):=rfl;have o:A.wt=A.aP.length+iD A.ak:=rfl;refine ⟨ZO,λe=>?_⟩;have g:=c.2 ZO;have a:∀i,i<A.ak.length->f i=true:=by
  have h:(dF f A.ak.length).length=A.ak.length:=by have:=Q7 List.length g;rwa [PB]at this
  have m:(dF f A.ak.length).Sublist (List.range A.ak.length):=List.filter_sublist;have:=m.eq_of_length (by rw [h,Qp]);intro i b;have j:i∈dF f A.ak.length:=by rw [this];exact P5.2 b
  exact (qR.1 j).2
 unfold jo;rw [BD a d.aP,BC a];have k:(List.range A.ak.length).map (jJ A f)=A.ak:=by rw [<-gZ A];rw [gZ A];refine (Sn λi b=>?_).trans (gZ A);unfold jJ;rw [BD a (d.mZ _ (gJ (P5.1 b)))]
 rw [k]
section
def Vc:=@Option.map_some
def Ap(t:dN)(k:Nat):Prop:=0<t.2.1/\∃o,t.1=some (AD k o)
def Bx(ob:Nat)(a:Value)(t:dN)(O:List (dk×dN))(k:Nat):Prop:=gX ob a k\/Ap t k\/∃x∈O,Ap x.2 k
def fF.Cb{w c S R t l}(h:fF w S t l)(a:aj R w c)(g:∀k,R k->¬Ap t k):fF c S t l:=by refine ⟨?_,h.sep,λb o e=>Ps (h.lt b o e) a.size,h.bA⟩;obtain e|e:=Qv t.2.1;exact ⟨h.row.1,.inl e⟩;exact cL h.row a (λb o d s=>g b s ⟨e,o,d⟩)
def fF.cells{w S t l}(h:fF w S t l){k}(d:Ap t k):∃o,w.heap[k]? =some o/\o.isCells=true:=by
 obtain ⟨g,o,e⟩:=d;obtain ⟨-,i|⟨b,j,a,c⟩⟩:=h.row;omega;rw [e]at a;cases a
 have:=cells_of_cell (c 0 g);exact this
def fZ.Cb{w j ob X R a t js g O}(h:fZ w ob X a t js g O)(d:aj R w j)(c:∀k,R k->¬Bx ob g t O k):fZ j ob X a t js g O:=
 ⟨(d.block ob h.Cr (λs=>c _ s (.inl (.inl rfl)))).trans h.dB,bp h.cO d (λb e s=>c _ s (.inl (.inr e))),h.oK,h.n8.Cb d (λk s r=>c k s (.inr (.inl r))),λx i=>(h.bC x i).Cb d (λk s r=>c k s (.inr (.inr ⟨x,i,r⟩)))⟩
def fZ.cells{w ob X a t js c O}(h:fZ w ob X a t js c O){k}(l:Bx ob c t O k):∃o,w.heap[k]? =some o/\o.isCells=true:=by rcases l with(rfl|e)|r|⟨x,m,r⟩;exact ⟨_,h.dB,rfl⟩;obtain ⟨b,-⟩|⟨g,d,i,b,n,j,-⟩:=h.cO.2;rw [b]at e;cases e;rw [b]at e;obtain rfl:=cF e;exact ⟨_,j,rfl⟩;exact h.n8.cells r;exact (h.bC x m).cells r
def kG(w0:WD)(x0:Nat)(A:Au)(f:Nat->Bool)(ob:Nat)(t:dN)(js:List Nat)(pre:List Nat)(S:Nat->Prop)(W:WD):Prop:=
 ∃a O,iU w0 W x0 A.sets (pre.map A.ay) (λl js=>js=dV f (gg f) l) A.aP ob t js a O/\O.length=pre.length/\∀k,S k↔Bx ob a t O k
section
variable {w0 W W1:WD} {x0:Nat} {A:Au} {f:Nat->Bool} {ob:Nat} {t:dN} {js pre:List Nat} {S:Nat->Prop}
def kG.hold(h:kG w0 x0 A f ob t js pre S W){B}(g:w0.heap.size<=B)(b:aj (λk=>B<=k/\¬S k) W W1):kG w0 x0 A f ob t js pre S W1:=by obtain ⟨e,O,a,d,c⟩:=h;exact ⟨e,O,⟨a.o.Cb b (λk s r=>s.2 ((c k).2 r)),a.aJ.trans (b.ag a.aJ.size λk _ s=>ZH s.1),a.bG,a.n8,a.cS,a.Cp⟩,d,c⟩
def kG.cells(h:kG w0 x0 A f ob t js pre S W):∀k,S k->∃o,W.heap[k]? =some o/\o.isCells=true:=by obtain ⟨d,O,a,c,b⟩:=h;exact λk s=>a.o.cells ((b k).1 s)
def kG.dT{m O}(i:iU w0 W x0 A.sets (pre.map A.ay) (λl js=>js=dV f (gg f) l) A.aP ob t js m O)(C:O.length=pre.length)(q:∀k,S k↔Bx ob m t O k)(x){y}(J:y.1=jJ A f x){n w2 w3 c}(h:BW W n)
 (g:fF n (pK ob m (λk=>k<=x0)) y.2 (dk.tO y.1)) (p:∀k,Ap y.2 k->W.heap.size<=k) (d:w2.ownsRow 0 62 4 c (O.length+1) (dp O++rZ y)) (v:aj (λk=>m.ownBlock=some k) n w2) (o:∀b,c.ownBlock=some b->m.ownBlock=some b\/n.heap.size<=b) (H:w3=w2.setCell (AD ob 2) c):
 ∃G,kG w0 x0 A f ob t js (pre++[x]) G w3/\aj S W w3/\∀k,G k->S k\/W.heap.size<=k:=by
 have D:iU w0 W x0 A.sets ((pre++[x]).map A.ay) (λl js=>js=dV f (gg f) l) A.aP ob t js m O:=⟨i.o,i.aJ,i.bG,i.n8,by rw [PB,Pk];omega,λj a b I h=>i.Cp j a b (by rw [Qg,Pp (by rw [PB,<-C];exact (Po.1 h).1)]at I;exact I) h⟩
 have r:((pre++[x]).map A.ay)[O.length]? =some (A.ay x):=by
  have e:O.length=(pre.map A.ay).length:=by rw [PB,C]
  rw [Qg,e];exact Qm
 have F:=D.step r (y:=y) (by rw [J];exact ⟨rfl,rfl,rfl,rfl⟩) h g d v o H
 obtain ⟨-,B,E⟩:=(i.o.ag h).dT y g (PF _ n) d v o H
 have w:aj S W n:=aj.mono (aj.aC h) (λk v s=>absurd v ZO)
 refine ⟨Bx ob c t (O++[y]),⟨c,O++[y],F,by rw [Pk,Pk,C];rfl,λk=>RE⟩,w.then B λk _ s=>(q k).2 (.inl s),λk s=>?_⟩
 rcases s with(s|s)|s|⟨z,u,s⟩
 exact .inl ((q k).2 (.inl (.inl s)))
 obtain s|s:=E k s
 exact .inl ((q k).2 (.inl (.inr s)))
 exact .inr (PG h.size s)
 exact .inl ((q k).2 (.inr (.inl s)))
 obtain u|u:=PC.1 u
 exact .inl ((q k).2 (.inr (.inr ⟨z,u,s⟩)))
 rw [Pc.1 u]at s
 exact .inr (p k s)
def kG.done(h:kG w0 x0 A f ob t js (dF f A.ak.length) S W):∃b O,fZ W ob (λk=>k<=x0) A.sets t js b O/\(∀k,gX ob b k->w0.heap.size<=k)/\BW w0 W/\jo A f=⟨A.sets,js,O.map Prod.fst⟩:=by
 obtain ⟨b,O,a,v,-⟩:=h;refine ⟨b,O,a.o,a.bG,a.aJ,?_⟩;have e:O.map Prod.fst=(dF f A.ak.length).map (jJ A f):=by
  refine Tc λj=>?_;rw [PZ,PZ];by_cases c:j<O.length;have m:O[j]? =some O[j]:=Pe c;have n:(dF f A.ak.length)[j]? =some ((dF f A.ak.length)[j]' ZO):=Pe _;rw [m,n];have s:=a.Cp j _ _ (by rw [PZ,n];rfl) m;obtain ⟨d,g,i,l⟩:=s;simp only [Vc];congr 1;have⟨z,u⟩:=EX (O[j]);rw [u]at d g i l⊢;obtain ⟨⟨o,p,q,r⟩,w⟩:=z;try dsimp only at d g i l
  unfold jJ;show dk.mk o p q r=_;rw [show o=_ from d,show p=_ from g,show q=_ from i,show r=_ from l];rw [Qs ZO,Qs ZO];rfl
 have c:js=dV f (gg f) A.aP:=a.n8;unfold jo;rw [<-e,<-c]
end
end
section
open Go.Shelf
attribute [local go_sem] TD
def eS(n:Nat)(g:Nat->Nat):List Value:=(List.range n).map λj=>IV (g j:Int)
def KS(w:WD)(A:Au)(e:Ending)(c:WD):Prop:=
 BW w c/\∃D v E b a,e=RT v/\Ai c w.heap.size D v/\gL D/\su A E/\As A D (NR A E) b a/\gG A D
def rI{P}{c:Code}{K Q a w}(h:c.wp P (Exit.then K (λ_ _ _=>False)) a w):c.wp P (Exit.then K Q) a w:=
 wp_mono h λe a w b=>by
  cases e with
  |normal=>exact b
  |_=>exact b.elim
def qp{w a e v n b}(h:Sl w e v n b)(c:BW w a):Sl a e v n b:=h.ax (aj.aC c) (λg e s=>ZH (h.lt g e))
def Bv(d:WD)(b:List Nat)(v:Value)(w:WD):Prop:=∃a m c,v=SL a m c/\aF .i64 3 d w (SL a m c) (aE b)
def Bv.ag{d w w' b v}(h:Bv d b v w)(f:BW w w'):Bv d b v w':=by obtain ⟨a,m,c,e,g⟩:=h;exact ⟨a,m,c,e,iu g f⟩
def DR(n g)(i v:Nat)(a:i<n):(eS n g).set i (IV v)=eS n (up g i v):=by refine Tc λj=>?_;unfold eS;rw [UR,PZ];by_cases b:j<n;rw [PZ,QV b];by_cases e:i=j;subst e;rw [PW rfl,PW (by simp;exact a)];simp [aA];rw [Qa e];simp only [Vc];rw [an _ _ _ _ (Rz e)];rw [PZ,Qs (l:=List.range n) (by rw [Qp];omega)];rw [Qa ZO];rfl
def DQ(n g):(eS n g).length=n:=by simp [eS]
def mm{n g h}(e:∀j,j<n->g j=h j):eS n g=eS n h:=
 Sn λj a=>by rw [e j (P5.1 a)]
def B9:∀n,List.replicate n (IV 0)=eS n λ_=>0:=λn=>by unfold eS;refine (List.eq_replicate_iff.2 ⟨ZS,λx a=>?_⟩).symm;obtain ⟨_,-,rfl⟩:=Qx.1 a;rfl
def LV{w b n i g}(h:Sl w 3 (SV b n n) n (eS n g))(c:i<n)(v:Nat):Sl (w.setCell (AD b i) (IV v)) 3 (SV b n n) n (eS n (up g i v))/\w.cell? (AD b i)=some (IV (g i:Int))/\w.frozen? (AD b i)=false:=by have a:=eN h;refine ⟨?_,?_,Pg a i⟩;rw [<-DR n g i v c];refine gC ?_ (by simp [DQ]) (de h).2.1;simp [HC,World.setCell,P7,a];rw [Pa a];simp [eS,c]
structure yA (b wr:WD) (d c a N:Nat) (f:Nat->Bool) (i:Nat):Prop where
 set:∃W,dU wr d c N (λj=>decide (j<i)&&f j) W
 arr:Sl wr 3 (SV a N N) N (eS N λj=>if j<i then gg f j else 0)
 ax:aj (λk=>k=c\/k=a) b wr
 apart:d≠a/\c≠a
def yA.no{a wr g k b N f i}(h:yA a wr g k b N f i)(d:f i=false):yA a wr g k b N f (i+1):=by
 have⟨W,l⟩:=h.set;refine ⟨⟨W,?_⟩,?_,h.ax,h.apart⟩;have e:(λj=>decide (j<i+1)&&f j)=λj=>decide (j<i)&&f j:=funext λj=>by by_cases e:j=i;subst e;rw [d];simp;rw [show decide (j<i+1)=decide (j<i)from Sr.2 ZO]
 rw [e];exact l;have e:(eS N λj=>if j<i+1 then gg f j else 0)=eS N λj=>if j<i then gg f j else 0:=mm λj _=>by by_cases e:j=i;subst e;rw [PW ZO,Qa ZO];unfold gg;rw [d];rfl;by_cases c:j<i;rw [PW c,PW ZO];rw [Qa c,Qa ZO]
 rw [e];exact h.arr
def yA.yes{c wr b w2 m l a N f i}(h:yA c wr m l a N f i)(w:i<N)(o:f i=true){W}(x:dU b m l N (up (λj=>decide (j<i)&&f j) i true) W)(q:aj (λk=>k=l) wr b)
 (n:w2=b.setCell (AD a i) (IV (kB f i:Int))):yA c w2 m l a N f (i+1)/\b.cell? (AD a i)=some (IV 0)/\b.frozen? (AD a i)=false:=by
 have v:=h.arr.ax q (λg e s=>by have:=cF e;exact h.apart.2 ZO)
 have⟨t,d,u⟩:=LV v w (kB f i)
 have r:aj (λk=>k=a) b w2:=by rw [n];exact (aj.refl (λk=>k=a) b).setCell (p:=(AD a i)) (λ_=>rfl) _
 refine ⟨⟨⟨W,?_⟩,?_,(h.ax.then q (λ_ _ e=>.inl e)).then r (λ_ _ e=>.inr e),h.apart⟩,?_,u⟩
 have e:(λj=>decide (j<i+1)&&f j)=up (λj=>decide (j<i)&&f j) i true:=funext λj=>by by_cases e:j=i;subst e;rw [aA,o];simp;rw [an _ _ _ _ e,show decide (j<i+1)=decide (j<i)from Sr.2 ZO]
 rw [e];exact x.ax r h.apart.1 h.apart.2
 have e:(eS N λj=>if j<i+1 then gg f j else 0)=eS N (up (λj=>if j<i then gg f j else 0) i (kB f i)):=mm λj _=>by by_cases e:j=i;subst e;rw [PW ZO,aA,qh o];rw [an _ _ _ _ e];by_cases d:j<i;rw [PW d,PW ZO];rw [Qa d,Qa ZO]
 rw [e,n];exact t
 rw [d,Qa ZO];rfl
def CV(w A ia il ic na d nc)(hv:cm w A ia il na d)(hA:gL A)(dz:ep w):
 CL 80 #[.agg #[IV A.sets,SL ia il ic,SL na d nc]] w (KS w A):=by
 have⟨i3,ez,eF,eD,bS⟩:=P6 Tryz.eA
 have⟨q,hq⟩:=EX w.heap.size
 have⟨N,bI⟩:=EX ((w.alloc (CE #[IV A.sets,SL ia il ic,SL na d nc] 36)).alloc (CE #[IV 0,SN,SN] 36))
 have bd:BW w N:=bI▸af (ah _ _) (ah _ _)
 have s1:N.heap.size=q+1+1:=by rw [<-bI,P3,P3,hq]
 have aV:N.heap[q]? =some (.cells #[IV A.sets,SL ia il ic,SL na d nc] 36 (0,0)):=by rw [<-bI,<-hq,(Ph _ _).2 _ (by rw [P3];omega)];exact (Ph w _).1
 have dD:N.heap[q+1]? =some (.cells #[IV 0,SN,SN] 36 (0,0)):=by rw [<-bI,<-hq,<-P3 w (CE #[IV A.sets,SL ia il ic,SL na d nc] 36)];exact (Ph _ _).1
 have c4:=O8 (dZ N A ia il ic na d nc (hv.ag bd) hA)
 have dl:Hid (∀w2,BW N w2->CL 32 #[.agg #[IV A.sets,SL ia il ic,SL na d nc]] w2 (pL w2 A)):=λw2 hb=>xJ w2 A ia il ic na d nc (hv.ag (af bd hb)) hA
 have aR:Hid (∀t,BW N t->t.cell? (AD q 0)=some (IV A.sets)/\t.cell? (AD q 1)=some (SL ia il ic)/\t.cell? (AD q 2)=some (SL na d nc)):=λt h=>by have h2:=(h.block q (Pb.1 aV).1).trans aV;exact ⟨CH h2,CH h2,CH h2⟩
 have HV:Hid (∀t,BW N t->cm t A ia il na d):=λt h=>hv.ag (af bd h)
 have HA:=O8 hA
 have et:Hid (ep N):=dz.ag bd
 have ef:=O8 bd
 have eh:=O8 dD
 have HQ:=O8 hq
 have ds:=O8 s1
 have eR:d<=256:=by rw [<-hv.bA];exact hA.many
 have bR:Hid (A.ak.length=d):=hv.bA
 have eA:il<=16777216:=by have:=hv.aP.1;rw [aD]at this;rw [<-this];exact hA.il
 have⟨c0,c1,c2⟩:=aR.o N (PF _ _)
 clear hv hA bd aV dD s1 dz
 refine (Rw (n:=0)).1 (S3 func80 rfl RW ?_ rfl)
 rw [Ta]
 simp only [ntmps80,Sd,P9,Ra,Nat.reduceAdd,Nat.reduceSub,SF,SG,Te,SU,QW,Qq]
 go_upto_region 3 with(go_at_call 23;apply c4.o.mono;rintro e w2 ⟨rfl,be⟩;have cC:=O8 be;have c6:=O8 (dl.o w2 be);clear be)
 clear bI hq c0 c1 c2 c4
 have⟨d0,d1,d2⟩:=aR.o w2 cC.o
 go_upto_region 4 with(go_at_call 32;apply c6.o.mono;rintro e w3 ⟨W,X,aa,I,ae,ce,E,la,lc,L,aq,au,IN,rfl,bg,dW,dM,hI,hL,bS⟩;have cV:=O8 bS;have dn:=O8 bg;have ci:=O8 dW;have ek:=O8 dM;have HI:=O8 hI;clear bS bg dW dM hI hL;unfold jj)
 have bg:=dn.o
 rw [bR.o]at bg⊢
 have⟨M,hM⟩:=EX (((2^A.sets-1:Nat):Int))
 rw [hM]
 have⟨p,hp⟩:=EX w3.heap.size
 have⟨w4,bK⟩:=EX (w3.alloc (CE #[SL W X aa,SL ae d ce,SL la d lc,SL aq d au,UV M] 57))
 have cM:BW w3 w4:=bK▸ah _ _
 have s4:w4.heap.size=p+1:=ZW bK hp
 have bC:w4.heap[p]? =some (.cells #[SL W X aa,SL ae d ce,SL la d lc,SL aq d au,UV M] 57 (0,0)):=by rw [<-bK,<-hp];exact (Ph w3 _).1
 have eo:Hid (N.heap.size<=p):=by have h1:=cC.o.size;have h2:=cV.o.size;show N.heap.size<=p;omega
 rw [hp,bK]
 have dq:Hid (∀t,BW w4 t->t.cell? (AD p 0)=some (SL W X aa)/\t.cell? (AD p 1)=some (SL ae d ce)/\t.cell? (AD p 2)=some (SL la d lc)/\t.cell? (AD p 3)=some (SL aq d au)/\t.cell? (AD p 4)=some (UV M)):=λt h=>by have h2:=(h.block p (Pb.1 bC).1).trans bC;exact ⟨CH h2,CH h2,CH h2,CH h2,CH h2⟩
 have cj:Hid (∀t,BW w4 t->pN t W X I ae d E la L aq IN):=λt h=>bg.ag (af cM h)
 have ca:Hid (BW N w4):=af cC.o (af cV.o cM)
 have em:=O8 hM
 have dt:=O8 s4
 have ch:=O8 (x4 w4 d ZO)
 have⟨f0,f1,f2⟩:=aR.o w4 ca.o
 clear bg hM hp bK cM s4 bC d0 d1 d2 dn c6 dl
 go_upto_region 5 with(go_at_call 92;apply ch.o.mono;rintro e w5 ⟨rfl,cw,dA⟩;have bs:=O8 cw;have cW:=O8 dA;clear cw dA)
 rw [dt.o]at bs⊢
 have⟨ub,bH⟩:=EX w5.heap.size
 have⟨Q,bL⟩:=EX (w5.alloc (CE #[PT (p+1+1)] 134))
 have aF:BW w5 Q:=bL▸ah _ _
 have s6:Q.heap.size=ub+1:=ZW bL bH
 have dH:Q.cell? (AD ub 0)=some (PT (p+1+1)):=by rw [<-bL,<-bH,Pa (Ph w5 _).1];rfl
 rw [bH,bL]
 have ev:=O8 bH
 have cD:=O8 dH
 have eQ:=O8 s6
 have a0:Hid (BW w4 Q):=af cW.o aF
 have cG:=bs
 have aS:Hid (dU Q (p+1+1) (p+1) d (λ_=>false) (List.replicate (gW d) 0)):=bs.o.ag aF
 have aA:Hid (∀t,Below Q.drew.heap.size Q.drew t->t.cell? (AD p 0)=some (SL W X aa)/\t.cell? (AD p 1)=some (SL ae d ce)/\t.cell? (AD p 2)=some (SL la d lc)/\t.cell? (AD p 3)=some (SL aq d au)/\t.cell? (AD p 4)=some (UV M)):=λt h=>dq.o t (af a0.o ((PF _ Q).drew.trans h))
 have dr:Hid (∀t,Below Q.drew.heap.size Q.drew t->CL 112 #[.agg #[SL W X aa,SL ae d ce,SL la d lc],SL W X aa] t (lh E I d t)):=λt h=>by have hp:=cj.o t (af a0.o ((PF _ Q).drew.trans h));exact zQ t _ _ ae d ce E hp.pg.gr W X aa I hp.n8 hp.Mo hp.il
 have db:Hid (∀t,Below Q.drew.heap.size Q.drew t->CL 51 #[.agg #[SL W X aa,SL ae d ce,SL la d lc,SL aq d au,UV M]] t (Am E IN A.sets d t)):=λt h=>by have hp:=cj.o t (af a0.o ((PF _ Q).drew.trans h));have:=rU t W X aa I ae d ce E la lc L aq au IN A.sets HA.o.sets hp;unfold jj at this;rw [em.o]at this;exact this
 have⟨e0,e1,e2,e3,e4⟩:=aA.o Q.drew (PF _ _)
 clear bH bL aF s6 dH f0 f1 f2 ch dq
 refine rI ?_
 refine aw 9 (S:=λT=>T.cell? (AD p 0)=some (SL W X aa)/\T.cell? (AD p 1)=some (SL ae d ce)/\T.cell? (AD p 2)=some (SL la d lc)/\T.cell? (AD p 3)=some (SL aq d au)/\T.cell? (AD p 4)=some (UV M)) ZK (⟨e0,e1,e2,e3,e4⟩) (λal=>?_)
 refine aB 0 ?_
 refine aB 1 ?_
 refine aB 2 ?_
 refine aB 3 ?_
 refine aB 4 ?_
 refine aB 6 ?_
 refine aK 5 λK H=>?_
 rw [PW (by rfl)]
 apply aY.o
 refine aO (f:=112) (dr.o Q.drew (PF _ _)) ?_ (λe w7 an=>?_)
 ·clear H;go_simp
 obtain ⟨v5,F,rfl,eB,d3⟩:=an
 obtain ⟨b5,rfl,cx,am,dJ⟩:=eB
 refine ⟨_,rfl,?_⟩
 refine H.o _ _ (λ_=>aA.o w7 am) ?_
 clear H K al
 try walk_nrm
 refine aK 7 λK H=>?_
 rw [PW (by rfl)]
 apply aY.o
 refine aO (f:=51) (db.o w7 am) ?_ (λe w8 an=>?_)
 ·clear H;go_simp
 obtain ⟨v6,G,rfl,bf,d4⟩:=an
 obtain ⟨b6,rfl,cy,bw,dK⟩:=bf
 refine ⟨_,rfl,?_⟩
 refine H.o _ _ (λ_=>aA.o w8 (af am bw)) ?_
 clear H K
 try walk_nrm
 refine aK 8 λK H=>?_
 go_simp
 refine H.o _ _ (λ_=>aA.o w8 (af am bw)) ?_
 clear H K
 try walk_nrm
 refine aK 9 λK H=>?_
 go_simp
 refine H.q ?_
 clear H K
 refine az ZK ?_
 have eq:=O8 d3
 have er:=O8 d4
 have ay:Hid (BW Q w8):=(PF _ Q).drew.trans (af am bw)
 have ck:Hid (Sl w8 4 (SV b5 d d) d (bB d F)):=qp cx bw
 have cl:=O8 cy
 have cE:Hid (p+1<b5/\p+1<b6/\p+1<ub/\p+1+1<ub):=by have h1:=aS.o.dY;have h2:=cW.o.size;have h3:Q.drew.heap.size=Q.heap.size:=rfl;have h4:=am.size;have h5:=dt.o;have h6:=cG.o.dY;have h7:=ev.o;exact ⟨ZO,ZO,ZO,ZO⟩
 clear cx cy am bw dJ dK d3 d4 e0 e1 e2 e3 e4 dr db aA
 simp only [Exit.then]
 have aZ:Hid (BW N w8):=af ca.o (af a0.o ay.o)
 have⟨f0,f1,f2⟩:=aR.o w8 aZ.o
 have⟨J,bW⟩:=EX w8.heap.size
 have⟨wa,b8⟩:=EX (w8.alloc (CE (madeCells #[IV 0] d) 3))
 have⟨ai,a7⟩:=EX (wa.alloc (CE #[SV J d d] 33))
 have sa:wa.heap.size=J+1:=ZW b8 bW
 have eb:ai.heap.size=J+1+1:=ZW a7 sa
 have dC:BW w8 wa:=b8▸ah _ _
 have bv:BW wa ai:=a7▸ah _ _
 have aU:BW w8 ai:=af dC bv
 have dI:ai.cell? (AD (J+1) 0)=some (SV J d d):=by rw [<-a7,<-sa,Pa (Ph wa _).1];rfl
 have ak:=O8 aU
 have eJ:=O8 eb
 have ej:=O8 dI
 have da:=O8 bW
 go_upto_region 7 with(at_make;refine bu rfl _ _ 33 rfl 3 i3 (IV 0) 1 QD ez eF eD _ _ _ _ d rfl rfl rfl rfl (by rw [bS];omega) (by unfold maxLen;omega) ?_;rintro w9 rfl hs;have df:=O8 hs;clear hs)
 have dR:Sl wa 3 (SV J d d) d (eS d λ_=>0):=by
  have h1:=df.o;have h2:=bM (IV 0) rfl d;have h3:w8.alloc (CE (madeCells (IV 0).cells (d*1)) 3)=wa:=by rw [<-b8,RL];rfl
  rw [h3,h2,B9,bW]at h1;exact h1
 have dO:=(aS.o.ag ay.o).dY
 have dw:yA ai ai (p+1+1) (p+1) J d (λj=>F j&&G j) 0:=⟨⟨_,by
  have:=(aS.o.ag ay.o).ag aU;have e:(λj=>decide (j<0)&&(F j&&G j))=λ_=>false:=funext λj=>ZS;rw [e];exact this⟩,by
  have e:(eS d λj=>if j<0 then gg (λj=>F j&&G j) j else 0)=eS d λ_=>0:=mm λj _=>by rw [Qa ZO]
  rw [e];exact qp dR bv,aj.refl _ _,by omega,by omega⟩
 have dh:=O8 dw
 clear dR dO dw b8 a7 sa eb dC bv aU dI bW f0 f1 f2 df
 have⟨f0,f1,f2⟩:=aR.o ai (af aZ.o ak.o)
 have bn:Hid (b5<J/\b6<J/\ub<J):=by have h1:=ck.o.lt b5 rfl;have h2:=cl.o.lt b6 rfl;have h3:=da.o;have h4:=O9 Q _ cD.o;have h5:=ay.o.size;simp only at h4;exact ⟨ZO,ZO,ZO⟩
 have bm:Hid (∀(wr:WD)(i:Nat),yA ai wr (p+1+1) (p+1) J d (λj=>F j&&G j) i->(∀j,j<d->wr.cell? (AD b5 j)=some (.bool (F j))/\wr.cell? (AD b6 j)=some (.bool (G j)))/\wr.cell? (AD ub 0)=some (PT (p+1+1))/\wr.cell? (AD (J+1) 0)=some (SV J d d)):=λwr i h=>by
  have hl:=bn.o;have hn:=cE.o;have k1:=h.ax;have k5:=(qp ck.o ak.o).ax k1 (λg e s=>ZH (cF e));have k6:=(qp cl.o ak.o).ax k1 (λg e s=>ZH (cF e));have cu:=(af ay.o ak.o).cell (O9 Q _ cD.o);refine ⟨λj hj=>⟨?_,?_⟩,?_,?_⟩
  ·rw [Pa (eN k5)];simp [bB,hj]
  ·rw [Pa (eN k6)];simp [bB,hj]
  ·exact k1.aq (cu.trans cD.o) (by simp only;omega)
  ·exact k1.aq ej.o (by simp only;omega)
 go_wp2
 go_loopw [8,39] (λv8 v wr=>∃i:Nat,i<=d/\v=IV i/\v8=IV ((kB (λj=>F j&&G j) i:Nat):Int)/\Hid (yA ai wr (p+1+1) (p+1) J d (λj=>F j&&G j) i)) (λ_ v _=>d-(intOf v).toNat)
 exact ⟨0,Pz _,rfl,rfl,dh⟩
 clear dh f0 f1 f2
 obtain ⟨i,hi,rfl,rfl,Z⟩:=hrel
 by_cases cN:i<d
 ·have dP:(i:Int)<d:=ZO;have⟨cq,cu,cv⟩:=bm.o wr i Z.o
  have⟨k5,k6⟩:=cq i cN;have bV:=zq (λj=>F j&&G j) i;have dG:=Ay (λj=>F j&&G j) i;have⟨fi,ad⟩:=EX ((F i&&G i));have bb:Hid ((λj=>F j&&G j) i=fi):=ad;rw [ad]at bV;have⟨c,hc⟩:=EX (kB (λj=>F j&&G j) i);rw [hc]at bV dG⊢;have ei:=O8 hc;have ba:=O8 bV;clear cq bV hc;cases h5:F i
  ·rw [h5]at k5 ad;have aI:fi=false:=by rw [<-ad];rfl
   rw [aI]at ba bb;have bq:=O8 (Z.o.no bb.o);clear ad aI h5 cu cv k6;go_wp2;go_roundw;exact ⟨i+1,ZO,ZN,by rw [ba.o];rfl,bq⟩;simp [intOf];omega
  ·rw [h5]at k5 ad;cases h6:G i
   ·rw [h6]at k6 ad;have aI:fi=false:=by rw [<-ad];rfl
    rw [aI]at ba bb;have bq:=O8 (Z.o.no bb.o);clear ad aI h5 h6 cu cv;go_wp2;go_roundw;exact ⟨i+1,ZO,ZN,by rw [ba.o];rfl,bq⟩;simp [intOf];omega
   ·rw [h6]at k6 ad;have aI:fi=true:=by rw [<-ad];rfl
    rw [aI]at ba bb;have⟨Ws,aJ⟩:=Z.o.set;have dm:=O8 (x5 wr (p+1+1) (p+1) d _ Ws aJ ZO i cN ZS);have en:Hid (∀N,ID wr (p+1+1) (p+1) d (λj=>decide (j<i)&&(F j&&G j)) i (RT (.bool true)) N->yA ai (N.setCell (AD J i) (IV c)) (p+1+1) (p+1) J d (λj=>F j&&G j) (i+1)/\N.cell? (AD J i)=some (IV 0)/\N.frozen? (AD J i)=false/\N.cell? (AD (J+1) 0)=some (SV J d d)):=λN ⟨_,W2,eC,dN⟩=>by have h:=Z.o.yes cN bb.o eC dN (w2:=N.setCell (AD J i) (IV c)) (by rw [ei.o]);exact ⟨h.1,h.2.1,h.2.2,dN.aq cv (by have:=bn.o;have:=cE.o;simp only;omega)⟩
    clear ad aI h5 h6 aJ cv;go_wp2_with (go_at_call 93;apply dm.o.mono;rintro e eH cR;obtain rfl:=cR.1;have⟨dS,g0,g1,g2⟩:=en.o eH cR;have bq:=O8 dS;clear dS cR);go_roundw;exact ⟨i+1,ZO,ZN,by rw [ba.o];go_num,bq⟩;simp [intOf];omega
 ·obtain rfl:d=i:=ZO;have dP:¬((d:Int)<d):=ZO
  have a9:Hid (BW N wr):=by have h1:=af aZ.o ak.o;exact h1.trans (Z.o.ax.ag h1.size (λk hk s=>by have:=eo.o;have:=da.o;have:=aZ.o.size;rcases s with s|s<;>omega))
  obtain ⟨-,cu,cv⟩:=bm.o wr d Z.o;have⟨Ws,aJ⟩:=Z.o.set;have d6:dU wr (p+1+1) (p+1) d (λj=>F j&&G j) Ws:=⟨aJ.dB,aJ.words,aJ.lt,λk=>(aJ.bit k).trans (by
   by_cases e:k<d
   ·rw [PX e];simp
   ·rw [PH e];simp)⟩
  have bQ:Hid (vX wr ub (J+1) (p+1+1) (p+1) J d (λj=>F j&&G j) Ws (gg λj=>F j&&G j)):=⟨cu,cv,d6,λk hk=>by rw [Pa (eN Z.o.arr)];simp [eS,hk]⟩
  have dd:Hid (∀t,BW wr t->∀(la:OA)(ll lc:Nat)(l:List Nat),aG .i64 t la ll (aE l)->ll<=16777216->(∀k∈l,k<A.ak.length)->CL 113 #[SL la ll lc,PT ub,PT (J+1)] t (An t (dV (λj=>F j&&G j) (gg λj=>F j&&G j) l))):=λt hb la ll lc l hr hl hk=>
   Jv t la ll lc l ub (J+1) (p+1+1) (p+1) J d _ Ws _ hr hl (by rw [bR.o]at hk;exact hk) ZO (bQ.o.ag hb)
  have⟨cb,bx⟩:=EX wr.heap.size;have⟨z,aL⟩:=EX (wr.alloc (.cells #[.func (.func 113) #[] #[PT ub,PT (J+1)]] 133));have co:BW wr z:=aL▸ah _ _;have ec:z.heap.size=cb+1:=ZW aL bx;have bT:z.cell? (AD cb 0)=some (.func (.func 113) #[] #[PT ub,PT (J+1)]):=by rw [<-aL,<-bx,Pa (Ph wr _).1];rfl
  have Y:=O8 co;have bl:=O8 bT;have eK:=O8 ec;have eP:=O8 bx;have br:Hid (∀T,Below z.drew.heap.size z.drew T->T.cell? (AD q 0)=some (IV A.sets)/\T.cell? (AD q 1)=some (SL ia il ic)/\T.cell? (AD cb 0)=some (.func (.func 113) #[] #[PT ub,PT (J+1)])):=λt hb=>by have hb:BW z t:=(PF _ z).drew.trans hb;have h:=aR.o t (af a9.o (af Y.o hb));exact ⟨h.1,h.2.1,(hb.cell (O9 z _ bT)).trans bT⟩
  have cf:Hid (∀t,Below z.drew.heap.size z.drew t->CL 113 #[SL ia il ic,PT ub,PT (J+1)] t λe bh=>∃u,e=RT u/\BW t bh/\Bv z (dV (λj=>F j&&G j) (gg λj=>F j&&G j) A.aP) u bh):=λt hb=>by have hb:BW z t:=(PF _ z).drew.trans hb;have be:=af Y.o hb;refine (dd.o t be ia il ic A.aP ((HV.o t (af a9.o be)).aP) eA HA.o.aP).mono ?_;rintro e bh ⟨a,m,c,rfl,hm⟩;exact ⟨_,rfl,hm.2.1,a,m,c,rfl,gY hb hm⟩
  have⟨e0,e1,e2⟩:=br.o z.drew (PF _ _);clear cu cv aJ d6 co ec bT;go_upto_region 17 with(fail);try rw [bx,aL]
  clear aL bx;refine rI ?_;refine aw 8 (S:=λT=>T.cell? (AD q 0)=some (IV A.sets)/\T.cell? (AD q 1)=some (SL ia il ic)/\T.cell? (AD cb 0)=some (.func (.func 113) #[] #[PT ub,PT (J+1)])) ZK (⟨e0,e1,e2⟩) (λal=>?_);refine aB 0 ?_;refine aB 1 ?_;refine aB 2 ?_;refine aB 3 ?_;refine aB 4 ?_;clear al e0 e1 e2;refine bY [5,6,7] (λi=>if i=5 then 68 else if i=6 then 69 else 11) #[true,true,true,true,true,true,true,true,false] 1
   (λi u w=>match i with|5=>Bv z (dV (λj=>F j&&G j) (gg λj=>F j&&G j) A.aP) u w|6=>∃x,u=.agg #[IV A.sets,x,SN]/\Bv z (dV (λj=>F j&&G j) (gg λj=>F j&&G j) A.aP) x w|_=>∃b,u=PT b/\z.heap.size<=b/\w.heap[b]? =some (.cells #[IV 0,SN,SN] 36 (0,0))) ZK ZK rfl ZD ?st1 ?st2 ZD ?st3 ?st4
  case st1=>
   intro i u w4 w5 hu hb;split at hu
   ·exact hu.ag hb
   ·obtain ⟨x,e,h⟩:=hu;exact ⟨x,e,h.ag hb⟩
   ·obtain ⟨b,e,h1,h⟩:=hu;exact ⟨b,e,h1,(hb.block b (Pb.1 h).1).trans h⟩
  case st2=>exact br.o
  case st3=>
   rintro l V t i o hl dG hi ho hr hJ K H;simp only [PO,QL,Sh]at hi;obtain rfl|rfl|rfl:=hi
   ·simp only [PA,Pt,Pu,PJ]at ho;subst ho
    refine aO (R:=λe bh=>∃u,e=RT u/\BW t bh/\Bv z (dV (λj=>F j&&G j) (gg λj=>F j&&G j) A.aP) u bh) (f:=113) (args:=#[SL ia il ic,PT ub,PT (J+1)]) (cf.o t hJ.aJ) ?_ (λe w4 ⟨u,he,hb,hu⟩=>⟨u,he,H u w4 hb hu⟩);clear H;refine ZY ?_;go_simp
   ·simp only [PA,Pt,Pu,PJ]at ho;subst ho
    have h5:Bv _ _ _ _:=hJ.oZ 5 ZD (bj (l:=[5]) ZK hr 5 ZS);refine cB (v:=.agg #[IV A.sets,V 68,SN]) (w':=t) ?_ (H _ _ (PF _ _) ⟨_,rfl,h5⟩);obtain ⟨_,_,_,e5,-⟩:=h5;change V 68=_ at e5;clear H;refine ZY ?_;rw [e5];go_simp
   ·simp only [PA,Pt,Pu,PJ]at ho;subst ho
    refine cB (v:=PT t.heap.size) (w':=t.alloc (CE #[IV 0,SN,SN] 36)) ?_ (H _ _ ((PF _ _).alloc (Pf _) _) ⟨_,rfl,hJ.aJ.size,(Ph t _).1⟩);clear H;refine ZY ?_;go_simp
  case st4=>
   intro V t dB hV;refine ZY ?_;have⟨xv,e6,h6⟩:=hV 6 ZD;have⟨ob,e7,aX,aQ⟩:=hV 7 ZD;change V 69=_ at e6;change V 11=_ at e7;rw [e6,e7];generalize V 68=eG;obtain ⟨xa,xm,xc,rfl,h6⟩:=h6;have cp:BW z t:=(PF _ _).drew.trans dB;have c0:t.cell? (AD ob 0)=some (IV 0):=CH aQ;have c1:t.cell? (AD ob 1)=some (SN):=CH aQ;have c2:t.cell? (AD ob 2)=some (SN):=CH aQ;have z0:t.frozen? (AD ob 0)=false:=Pg aQ 0;have z1:t.frozen? (AD ob 1)=false:=Pg aQ 1;have z2:t.frozen? (AD ob 2)=false:=Pg aQ 2;refine aK 8 λK H=>?_;go_simp;refine H.q ?_;clear H K;refine az ZK ?_;simp only [Exit.then];have⟨ac,bJ⟩:=EX (((t.setCell (AD ob 0) (IV A.sets)).setCell (AD ob 1) (SL xa xm xc)).setCell (AD ob 2) (SN));rw [bJ];have cU:q+1<z.heap.size:=by have:=ds.o;have:=a9.o.size;have:=Y.o.size;omega
   have ew:Hid (∀b,(SL xa xm xc).ownBlock=some b->z.heap.size<=b):=h6.2.2;have bz:(dV (λj=>F j&&G j) (gg λj=>F j&&G j) A.aP).length<=16777216:=PG (iN _ _ _) HA.o.il;have hL:=iU.aM (sets:=A.sets) (src:=([]:List Nat).map A.ay) (C:=λl js=>js=dV (λj=>F j&&G j) (gg λj=>F j&&G j) l) (ini0:=A.aP) (x0:=q+1) cU aX cp aQ h6 bz rfl bJ.symm;have bc:=O8 cU;have eu:Hid (kG z (q+1) A (λj=>F j&&G j) ob (xa,xm,xc) (dV (λj=>F j&&G j) (gg λj=>F j&&G j) A.aP) [] (Bx ob (SN) (xa,xm,xc) []) ac):=⟨_,_,hL,rfl,λk=>RE⟩;have ar:Hid (BW z ac):=hL.aJ;have de:=O8 aX;clear e6 e7 h6 aX aQ cp c0 c1 c2 z0 z1 z2 bJ dB hV hL cU bz cf br;have cA:Hid (BW N ac):=af a9.o (af Y.o ar.o);have bi:Hid (BW wr ac):=af Y.o ar.o;have cu:=(bQ.o.ag bi.o).Oy;have⟨ab,bt⟩:=EX ac.heap.size;have⟨av,aM⟩:=EX (ac.alloc (CE #[PT (p+1+1)] 134));have aC:BW ac av:=aM▸ah _ _;have ed:av.heap.size=ab+1:=ZW aM bt;have dE:av.cell? (AD ab 0)=some (PT (p+1+1)):=by rw [<-aM,<-bt,Pa (Ph ac _).1];rfl
   have dg:Hid (CL 115 #[PT (p+1+1)] ac λe t=>e=RT (.func (.func 152) #[] #[PT ab])/\t=av):=by have h:=FW ac (p+1+1);rw [bt,aM]at h;exact h
   have cH:Hid (kG z (q+1) A (λj=>F j&&G j) ob (xa,xm,xc) (dV (λj=>F j&&G j) (gg λj=>F j&&G j) A.aP) [] (Bx ob (SN) (xa,xm,xc) []) av):=
    eu.o.hold (B:=z.heap.size) (Pf _) ((aj.aC aC).mono λk hk s=>absurd hk ZO)
   have el:Hid (Bu prog 152 #[PT ab] av (λx:Nat=>#[IV x]) (λbN x _=>bN.length<=x/\x<d/\(F x&&G x)=true) (Bx ob (SN) (xa,xm,xc) []) (λxs=>xs=(List.range d).filter λj=>F j&&G j)):=by
    refine FV av ab (p+1+1) (p+1) d _ Ws ZO ((et.o.ag cA.o).ag aC) ((bQ.o.ag bi.o).set.ag aC) dE _ (λk s=>?_);have h1:z.heap.size<=k:=by
     rcases s with(s|s)|s|⟨x,hx,-⟩
     ·have:=de.o;omega
     ·cases s
     ·obtain ⟨-,o,e⟩:=s;exact ew.o k (by rw [show xa=_ from e];rfl)
     ·cases hx
    have h2:=cE.o;have h3:=bn.o;have h4:=bc.o;have h5:=(bQ.o.set).dY;have h6:=Y.o.size;omega
   have bO:=O8 aC;have eL:=O8 ed;have eO:=O8 bt;clear aC ed dE aM bt;go_wp2_with (go_at_call 115;apply dg.o.mono;rintro e eI ⟨rfl,rfl⟩);have cz:z.heap.size<=eI.heap.size:=ZI ar.o.size bO.o.size;have cn:=O8 cz;refine ld (gf:=152) (lb:=#[PT ab]) rfl (UD func152 ZK rfl) el.o (λ_=>rfl) (kG z (q+1) A (λj=>F j&&G j) ob (xa,xm,xc) (dV (λj=>F j&&G j) (gg (λj=>F j&&G j)) A.aP))
    (λbN S B C h hk=>h.hold cz hk) (λbN S B h=>h.cells) (λbN x B C h hk=>h) cH.o
    (λx=>{tmps:=#[Value.agg #[Value.int IntKind.i64 ↑A.sets,SL ia il ic,SL na d nc],Value.pointer (some {block:=q,off:=0}),Value.pointer (some {block:=q+1,off:=0}),Value.pointer (some {block:=p,off:=0}),Value.pointer (some {block:=ub,off:=0}),SL (some {block:=b5,off:=0}) d d,SL (some {block:=b6,off:=0}) d d,Value.pointer (some {block:=J+1,off:=0}),Value.int IntKind.i64 ↑(kB (λj=>F j&&G j) d),u9,Value.pointer (some {block:=cb,off:=0}),Value.pointer (some {block:=ob,off:=0}),IV x,undef,Value.agg #[Value.int IntKind.i64 ↑A.sets,SL ia il ic,SL na d nc],Value.int IntKind.i64 0,Value.bool false,undef,Value.agg #[Value.int IntKind.i64 ↑A.sets,SL ia il ic,SL na d nc],Value.agg #[SL W X aa,SL ae d ce,SL la d lc,SL aq d au,Value.int IntKind.u64 M],Value.pointer (some {block:=q,off:=2}),SL na d nc,Value.int IntKind.i64 ↑d,Value.pointer (some {block:=p+1+1,off:=0}),Value.pointer (some {block:=p,off:=0}),Value.agg #[SL W X aa,SL ae d ce,SL la d lc],Value.pointer (some {block:=p,off:=0}),Value.pointer (some {block:=p,off:=0}),SL W X aa,SL (some {block:=b5,off:=0}) d d,Value.agg #[SL W X aa,SL ae d ce,SL la d lc,SL aq d au,Value.int IntKind.u64 M],SL (some {block:=b6,off:=0}) d d,Value.pointer (some {block:=q,off:=2}),SL na d nc,Value.int IntKind.i64 ↑d,SL (some {block:=J,off:=0}) d d,Value.pointer (some {block:=q,off:=2}),SL na d nc,Value.int IntKind.i64 ↑d,Value.int IntKind.i64 ↑d,Value.bool false,u41,u42,u43,u44,u45,u46,u47,u48,u49,u50,u51,u52,u53,u54,u55,u56,u57,u58,u59,u60,u61,Value.func (Fn.func 113) #[] #[Value.pointer (some {block:=ub,off:=0}),Value.pointer (some {block:=J+1,off:=0})],Value.pointer (some {block:=q,off:=0}),Value.int IntKind.i64 ↑A.sets,Value.func (Fn.func 113) #[] #[Value.pointer (some {block:=ub,off:=0}),Value.pointer (some {block:=J+1,off:=0})],Value.pointer (some {block:=q,off:=1}),SL ia il ic,eG,Value.agg #[Value.int IntKind.i64 ↑A.sets,SL xa xm xc,SN],Value.pointer (some {block:=p+1+1,off:=0}),Value.func (Fn.func 152) #[] #[Value.pointer (some {block:=ab,off:=0})],IV x,undef,undef,undef,undef,undef,undef,undef,undef,undef,undef,undef,undef,undef,undef,undef,undef,undef,undef,undef,undef,undef,undef],defers:=[]}) ?assign ?body ?done
   case assign=>intro l x B K2 ex;gi_wp2;exact ex
   case body=>
    rintro l bN S x B hl ⟨ov,O,hm,cr,hs⟩ ⟨bC,b9,ey⟩;have eM:(x:Int)<d:=ZO;have cd:Hid (BW N B):=af a9.o (af Y.o hm.aJ);have cZ:Hid (BW wr B):=af Y.o hm.aJ;have hv:=HV.o B cd.o;obtain ⟨nb,no,U,rfl,cO,-,-,ta,tl,tc,k0,k1,k2,k3,bD⟩:=hv.nd (j:=x) (by rw [hv.bA];exact b9);have a5:U∈A.ak:=Pm cO;have dT:A.ay x=U:=by unfold Au.ay;rw [Pd,cO];rfl
    have d7:tl<=16777216:=by have:=bD.1;rw [aD]at this;rw [<-this];exact HA.o.tl U a5
    obtain ⟨oa,oc,rfl⟩:=bF hm.o.cO;have⟨g0,g1,g2⟩:=aR.o B cd.o;have⟨xb,eE⟩:=EX B.heap.size;have⟨wx,d9⟩:=EX (B.alloc (CE #[UV U.need,UV U.ban,UV U.inn,SL ta tl tc] 62));have aV:BW B wx:=d9▸ah _ _;have ap:=aT B #[UV U.need,UV U.ban,UV U.inn,SL ta tl tc] 62;rw [d9,eE]at ap;have aH:BW B wx.drew:=aV.trans ((PF _ _).drew.mono aV.size);have bk:=O8 aH;have HM:=O8 hm;have dc:=O8 cr;have es:=O8 hs;have cg:=O8 dT;have di:=O8 a5;have o2:B.cell? (AD ob 2)=some (SL oa O.length oc):=CH hm.o.dB;have o5:=(aH.cell (O9 _ _ o2)).trans o2;have cc:=(hm.aJ.cell (O9 _ _ bl.o)).trans bl.o;have c5:=(aH.cell (O9 _ _ cc)).trans cc;have b0:wx.drew.cell? _=_:=(ap 0 _ rfl).1;have b1:wx.drew.cell? _=_:=(ap 1 _ rfl).1;have b2:wx.drew.cell? _=_:=(ap 2 _ rfl).1;have b3:wx.drew.cell? _=_:=(ap 3 _ rfl).1;have c3:Hid (CL 113 #[SL ta tl tc,PT ub,PT (J+1)] wx.drew (An wx.drew (dV (λj=>F j&&G j) (gg (λj=>F j&&G j)) (dk.tO U)))):=
     dd.o wx.drew (af cZ.o aH) ta tl tc (dk.tO U) (bD.ag aH) d7 (λk hk=>HA.o.mZ U a5 k hk)
    have dy:O.length+1<=33554432:=ZO;clear hv cO a5 bD d7 aV ap o2 cc hm cr hs dT bC ey;gi_wp2;refine fQ 14 (S:=λT=>T.cell? (AD ob 2)=some (SL oa O.length oc)/\T.cell? (AD xb 0)=some (UV U.need)/\T.cell? (AD xb 1)=some (UV U.ban)/\T.cell? (AD xb 2)=some (UV U.inn)/\T.cell? (AD xb 3)=some (SL ta tl tc)/\T.cell? (AD cb 0)=some (.func (.func 113) #[] #[PT ub,PT (J+1)])) ZK ZK (λ_ _ h=>h) (⟨o5,b0,b1,b2,b3,c5⟩) (λal=>?_);refine aB 0 ?_ [1,0];refine aB 1 ?_;refine aB 2 ?_ [13,12,3,2];refine aB 3 ?_ [13,12,3];refine aB 4 ?_ [13,12,5,4];refine aB 5 ?_ [13,12,5];refine aB 6 ?_ [13,12,7,6];refine aB 7 ?_ [13,12,7];refine aB 8 ?_ [11,8];refine aB 9 ?_ [11,10,9];refine aB 10 ?_ [11,10];clear al;have bP:Hid (∀T,Below wx.drew.heap.size wx.drew T->(λT=>T.cell? (AD ob 2)=some (SL oa O.length oc)/\T.cell? (AD xb 0)=some (UV U.need)/\T.cell? (AD xb 1)=some (UV U.ban)/\T.cell? (AD xb 2)=some (UV U.inn)/\T.cell? (AD xb 3)=some (SL ta tl tc)/\T.cell? (AD cb 0)=some (.func (.func 113) #[] #[PT ub,PT (J+1)])) T):=λT hb=>⟨(hb.cell (O9 _ _ o5)).trans o5,(hb.cell (O9 _ _ b0)).trans b0,(hb.cell (O9 _ _ b1)).trans b1,(hb.cell (O9 _ _ b2)).trans b2,(hb.cell (O9 _ _ b3)).trans b3,(hb.cell (O9 _ _ c5)).trans c5⟩;clear b0 b1 b2 b3 o5 c5;refine aK 11 λK H=>?_;rw [PW (by rfl)];apply aY.o;refine aO (f:=113) c3.o ?_ (λe Q an=>?_)
    ·clear H;go_simp
    obtain ⟨a2,l2,c2,rfl,bf⟩:=an;have aF:Below wx.drew.heap.size wx.drew Q:=bf.2.1;refine ⟨_,rfl,?_⟩;refine H.o _ _ (λ_=>bP.o Q aF) ?_;clear H K;try walk_nrm
    refine aK 12 λK H=>?_;go_simp;refine H.o _ _ (λ_=>bP.o Q aF) ?_;clear H K;try walk_nrm
    have⟨w7,cS⟩:=EX (Q.alloc (CE #[UV U.need,UV U.ban,UV U.inn,SL a2 l2 c2] 62));have ap:=aT Q #[UV U.need,UV U.ban,UV U.inn,SL a2 l2 c2] 62;rw [cS]at ap;have am:BW Q w7:=cS▸ah _ _;have a4:Below wx.drew.heap.size wx.drew w7:=af aF am;refine aK 13 λK H=>?_;go_simp;refine H.o _ _ (λ_=>bP.o w7 a4) ?_;clear H K;try walk_nrm
    have a3:BW B w7:=af bk.o a4;have bA:w7.ownsRow 0 62 4 (SL oa O.length oc) O.length (dp O):=bp HM.o.o.cO (aj.aC a3) (λg e s=>QE _ (Ps (dx HM.o.o.cO g e) s));have q7:=(bP.o w7 a4).1;have f7:w7.frozen? (AD ob 2)=false:=Pg ((a3.block ob HM.o.o.Cr).trans HM.o.o.dB) 2;have cP:¬(SL oa O.length oc).ownBlock=some ob:=λe=>HM.o.o.oK ob e rfl;refine aK 14 λK H=>?_;rw [PW (by rfl)];apply aY.o;refine ke (.tmp 79) (.tmp 91) rfl (SL oa O.length oc) O.length (dp O) rfl bA (AD Q.heap.size 0) 1 [UV U.need,UV U.ban,UV U.inn,SL a2 l2 c2] rfl rfl (λj u hj=>?_) ZV dy (λa8 c8 eT dQ bZ d8=>?_)
    ·rw [QK,PU];exact (ap j u (ZX hj)).1
    have q8:=bZ.aq q7 cP;have f8:=(PK (bZ.block ob (O9 _ _ q7) cP)).trans f7;have bE:=(HM.o.row bc.o bk.o bf (PG (iN _ _ _) (HA.o.tl U di.o))).ax (w1:=w7) (S':=pK ob (SL oa O.length oc) (λk=>k<=q+1)) (aj.aC am) (λk s=>.inr s) (λk s=>.inl s);have HN:=O8 (kG.dT HM.o dc.o es.o x (y:=(jJ A (λj=>F j&&G j) x,(a2,l2,c2))) rfl a3 (by unfold jJ;rw [cg.o];exact bE) (λk r=>by
     obtain ⟨-,o,e⟩:=r;have:=bf.2.2 k (by rw [show a2=_ from e];rfl);have:=bk.o.size;omega) (by
     have e:rZ (jJ A (λj=>F j&&G j) x,(a2,l2,c2))=[UV U.need,UV U.ban,UV U.inn,SL a2 l2 c2]:=by unfold jJ rZ;rw [cg.o]
     rw [e];exact dQ) bZ d8 rfl)
    refine H.q ?_;clear H K aF bf cS ap am a4 a3 bA q7 f7 cP dQ bZ d8 bE;refine aK 15 λK H=>?_;go_simp;refine H.q ?_;clear H K;refine aK 16 λK H=>?_;go_simp;refine H.q ?_;clear H K;refine az ZK ?_;(try simp only [Exit.inBlock]);exact HN.o
   case done=>
    rintro D xs S B hD rfl hi dv;have dL:kG z (q+1) A (λj=>F j&&G j) ob (xa,xm,xc) (dV (λj=>F j&&G j) (gg (λj=>F j&&G j)) A.aP) (dF (λj=>F j&&G j) A.ak.length) S B:=by rw [bR.o];exact hi
    have⟨ov,O,a6,cs,ct,bG⟩:=dL.done;obtain ⟨oa,oc,rfl⟩:=bF a6.cO;have a1:=a6.dB;have cJ:BW N B:=af a9.o (af Y.o ct);have ao:B.heap[q+1]? =some (.cells #[IV 0,SN,SN] 36 (0,0)):=(cJ.block _ (ZH ds.o)).trans eh.o;have o0:B.cell? (AD ob 0)=some (IV A.sets):=CH a1;have o1:B.cell? (AD ob 1)=some (SL xa xm xc):=CH a1;have o2:B.cell? (AD ob 2)=some (SL oa O.length oc):=CH a1;have c0:B.cell? (AD (q+1) 0)=some (IV 0):=CH ao;have c1:B.cell? (AD (q+1) 1)=some (SN):=CH ao;have c2:B.cell? (AD (q+1) 2)=some (SN):=CH ao;have z0:B.frozen? (AD (q+1) 0)=false:=Pg ao 0;have z1:B.frozen? (AD (q+1) 1)=false:=Pg ao 1;have z2:B.frozen? (AD (q+1) 2)=false:=Pg ao 2;have c9:=O8 dv;have c7:=O8 hD;have dj:=O8 a6;have bo:=O8 cs;have cI:=O8 bG;have cY:=O8 cJ;clear dv hD a6 cs ct bG a1 hi dL cJ ao;simp only [];go_wp2;have⟨w9,cT⟩:=EX (((B.setCell (AD (q+1) 0) (IV A.sets)).setCell (AD (q+1) 1) (SL xa xm xc)).setCell (AD (q+1) 2) (SL oa O.length oc));rw [cT];have⟨d0,d1,d2,b4⟩:=bX c0 c1 c2 w9 cT.symm;have b7:q+1≠D:=by have:=bc.o;have:=c7.o;have:=cn.o;omega
    have cK:w9.heap[D]? =some (.deferred (some [])):=(b4.block D (Pb.1 c9.o).1 (λe=>b7 e.symm)).trans c9.o;have aW:=bU w9 D (.deferred none);have d5:=S1 (P:=prog) cK;have⟨wz,ea⟩:=EX (w9.putObj D (.deferred none));rw [ea]at aW d5;have y0:=aW.aq d0 b7;have y1:=aW.aq d1 b7;have y2:=aW.aq d2 b7;have du:BW w wz:=by have h1:=af ef.o cY.o;have h2:=h1.trans (b4.ag h1.size (λk hk e=>ZH HQ.o));exact h2.trans (aW.ag h2.size (λk hk e=>by have:=c7.o;have:=cn.o;have:=bc.o;have:=HQ.o;omega))
    have cQ:=dj.o.ax b4 (λk e s=>ZI (bo.o k s) bc.o) (λk e=>.inl (Q2 e));have dX:=cQ.Cb aW (λk e s=>by subst e;have⟨o,h1,h2⟩:=cQ.cells s;rw [cK]at h1;cases h1;cases h2)
    have cL:=dX.OU (B:=w.heap.size) (λk hk=>by have:=HQ.o;show k<=q+1;omega) (λk s=>by have:=bo.o k s;have:=bc.o;have:=HQ.o;omega);rw [<-cI.o]at cL;have ee:=O8 cL;have eg:=O8 du;clear cT c0 c1 c2 z0 z1 z2 o0 o1 o2 d0 d1 d2 b4 cK aW ea du cQ dX cL;refine ⟨ZS,.inl ⟨_,_,rfl,d5,?_⟩⟩;refine ⟨.agg #[IV A.sets,SL xa xm xc,SL oa O.length oc],?_,eg.o,_,_,E,_,_,rfl,ee.o,Ku HA.o _,ci.o,Ev HA.o (λj=>F j&&G j) (NR A E) (λx hx=>?_),Eu HA.o _⟩
    ·rw [cX rfl];go_simp
    ·have b9:x<d:=ZR bR.o.symm hx;have h5:=eq.o x b9
     have h6:=er.o x b9;simp only [Qk];rw [h5,h6];unfold NR;have hE:E.length=A.ak.length:=ci.o.bA;rw [qP (hit:=λs x=>(IN x).testBit s=true) (hit':=λs x=>(A.ay x).inn.testBit s=true) (λs y hy=>by rw [ek.o y (ZR hE.symm hy)])];refine and_congr_left λ_=>⟨?_,?_⟩
     ·rintro ⟨g,hg,hr⟩;rw [HI.o]at hg
      have⟨g1,g2⟩:=PY.1 hg;exact ⟨g,g1,j4.1 g2,hr⟩
     ·rintro ⟨g,g1,g2,hr⟩;exact ⟨g,by rw [HI.o];exact PY.2 ⟨g1,j4.2 g2⟩,hr⟩
end
section
attribute [local go_sem] TD
def Bz(w:WD)(E:List (List Int))(n S:Nat)(f:Nat->Nat)(a:Nat)(e:Ending)(b:WD):Prop:=
 ∃Q d l c,e=RT (SV d l c)/\Trail E a Q a/\Q.length=l+1/\1<=l/\l<=20000/\(∀s,s<S->∃x∈Q,(f x).testBit s=true)/\(∀x∈Q,x<n)/\aG .i64 b (some (AD d 0)) l (aE Q.dropLast)/\BW w b
def Hd(w ia il ic I ae n ce E la lc L na nc U S)(hS:S<=16)(hp:pN w ia il I ae n E la L na U)(cU:ep w)(el:n<=256)
 (pa V pc r) (o:aG .i64 w pa V (aE r)) (aL:Part E U S n r) (a) (ha:a∈r):
 CL 35 #[jj ia il ic ae n ce la lc na nc S,SL pa V pc,IV (a:Int)] w (Bz w E n S U a):=by
 obtain ⟨i3,dN,d1,dT,dJ⟩:=P6 Tryz.eA
 obtain ⟨i4,dO,d2,dU,dK⟩:=P6 Scc.Tryz.kM
 obtain ⟨q,hq⟩:=EX w.heap.size
 obtain ⟨M,hM⟩:=EX (2^S-1)
 unfold jj
 rw [hM]
 obtain ⟨H,aV⟩:=EX ((w.alloc (CE #[SL ia il ic,SL ae n ce,SL la n lc,SL na n nc,UV (M:Int)] 57)).alloc (CE #[SL pa V pc] 33))
 have aU:BW w H:=aV▸af (ah _ _) (ah _ _)
 have s1:H.heap.size=q+1+1:=by rw [<-aV,P3,P3,hq]
 have c0:H.heap[q]? =some (.cells #[SL ia il ic,SL ae n ce,SL la n lc,SL na n nc,UV (M:Int)] 57 (0,0)):=by rw [<-aV,<-hq,(Ph _ _).2 _ (by rw [P3];omega)];exact (Ph w _).1
 have cZ:H.heap[q+1]? =some (.cells #[SL pa V pc] 33 (0,0)):=by rw [<-aV,<-hq,<-P3 w (CE #[SL ia il ic,SL ae n ce,SL la n lc,SL na n nc,UV (M:Int)] 57)];exact (Ph _ _).1
 have aR:Hid (∀J:WD,BW H J->(J.cell? (AD q 0)=some (SL ia il ic)/\J.cell? (AD q 1)=some (SL ae n ce)/\J.cell? (AD q 2)=some (SL la n lc)/\J.cell? (AD q 3)=some (SL na n nc)/\J.cell? (AD q 4)=some (UV (M:Int)))/\J.cell? (AD (q+1) 0)=some (SL pa V pc)):=λJ h=>by have O:=(h.block q ZO).trans c0;have h3:=(h.block (q+1) ZO).trans cZ;exact ⟨⟨CH O,CH O,CH O,CH O,CH O⟩,CH h3⟩
 have aC:Hid (r.length=V):=by have:=o.1;rwa [aD]at this
 have dS:V<=65536:=by have c:=aL.nodup.length_le_of_subset (l₂:=List.range n) (λx hx=>P5.2 (aL.lt x hx));rw [Qp,aC.o]at c;omega
 have dB:Hid (∀J,BW H J->CL 63 #[.agg #[SL ia il ic,SL ae n ce,SL la n lc],SL pa V pc] J (Iv J n E r)):=λJ h=>
  have hb:=af aU h
  GB J _ _ ae n ce E (hp.pg.gr.ag hb) hp.pg.ND pa V pc r (o.ag hb) aL.lt aL.nodup dS
 have cC:Hid (∀J,BW H J->aG .i64 J pa V (aE r)):=λJ h=>o.ag (af aU h)
 have dD:Hid (∀J,BW H J->wh J ae n E na U):=λJ h=>hp.pg.ag (af aU h)
 have dF:Hid (∀J,BW H J->ep J):=λJ h=>cU.ag (af aU h)
 have ao:=O8 aL
 have HA:=O8 ha
 have cd:=O8 aU
 have ef:=O8 s1
 have HQ:=O8 hq
 have HM:=O8 hM
 have cV:a<n:=aL.lt a ha
 obtain ⟨⟨b0,b1,b2,b3,b4⟩,b5⟩:=aR.o H (PF _ _)
 have aS:=O8 (dB.o H (PF _ _))
 clear hp cU o aL ha aU s1 c0 cZ hM
 refine (Rw (n:=0)).1 (S3 func35 rfl RW ?_ rfl)
 rw [Ta]
 simp only [ntmps35,Sd,P9,Ra,Nat.reduceAdd,Nat.reduceSub,SF,SG,Te,SU,QW,Qq]
 go_upto_region 1 with(fail)
 (try rw [aV])
 (try rw [hq])
 clear aV hq
 go_upto_region 3 with(go_at_call 63;apply aS.o.mono;rintro e w2 ⟨g,E',rfl,c5,bL,dp,cX⟩;have ay:=O8 c5;have am:=O8 bL;have cD:=O8 dp;have cf:=O8 cX;clear c5 bL dp cX aS)
 obtain ⟨B,hB⟩:=EX w2.heap.size
 obtain ⟨w3,bh⟩:=EX (w2.alloc (CE #[SN,SV g n n,SN] 55))
 obtain ⟨w4,bi⟩:=EX (w3.alloc (CE #[IV (a:Int)] 3))
 obtain ⟨w5,bj⟩:=EX (w4.alloc (CE #[SV (B+1) 1 1] 33))
 have s3:w3.heap.size=B+1:=ZW bh hB
 have s4:w4.heap.size=B+2:=ZW bi s3
 have s5:w5.heap.size=B+3:=ZW bj s4
 have bJ:BW w2 w3:=bh▸ah _ _
 have ba:BW w3 w4:=bi▸ah _ _
 have bt:BW w4 w5:=bj▸ah _ _
 have k0:w3.heap[B]? =some (.cells #[SN,SV g n n,SN] 55 (0,0)):=by rw [<-bh,<-hB];exact (Ph w2 _).1
 have k1:aF .i64 3 w3 w4 (SV (B+1) 1 1) (aE [a]):=by have h:=xu .i64 3 w3 #[IV (a:Int)] [(a:Int)] 1 rfl rfl ZD;rw [s3,bi]at h;exact h
 have k2:w5.heap[B+2]? =some (.cells #[SV (B+1) 1 1] 33 (0,0)):=by rw [<-bj,<-s4];exact (Ph w4 _).1
 have dv:=(bt.block B ZO).trans ((ba.block B ZO).trans k0)
 have dw:=iu k1 bt
 have a9:BW w2 w5:=af bJ (af ba bt)
 have cH:Hid (BW H w2):=cf
 have cI:Hid (BW H w5):=af cf.o a9
 have bH:=O8 dv
 have bI:=O8 dw
 have cy:=O8 k2
 have bG:=O8 a9
 have a4:=O8 s5
 have aX:=O8 hB
 rw [hB,bh,bi,bj]
 clear b0 b1 b2 b3 b4 b5
 obtain ⟨⟨b0,b1,b2,b3,b4⟩,b5⟩:=aR.o w5 cI.o
 clear bh bi bj s3 s4 s5 bJ ba bt k0 k1 k2 dv dw a9 hB
 go_upto_region 5 with(at_make;refine bu rfl _ _ 67 rfl 4 i4 (.bool false) 1 QM dO d2 dU _ _ _ _ n rfl rfl rfl rfl (by rw [dK];omega) (by unfold maxLen;omega) ?_;rintro X rfl hs;have cA:=O8 hs;clear hs)
 rw [a4.o]
 rw [show B+1+1=B+2 from rfl,show B+3+1=B+4 from rfl]
 (try rw [show B+4+1=B+5 from rfl])
 obtain ⟨X,bk⟩:=EX (w5.alloc (CE (madeCells #[Value.bool false] n) 4))
 obtain ⟨w7,bl⟩:=EX (X.alloc (CE #[SV (B+3) n n] 67))
 obtain ⟨w8,bm⟩:=EX (w7.alloc (.cells #[.func (.func 64) #[] #[PT B,PT (B+2),PT (B+4)]] 1))
 obtain ⟨w9,bn⟩:=EX (w8.alloc (CE #[UV (M:Int)] 45))
 have s6:X.heap.size=B+4:=ZW bk a4.o
 have s7:w7.heap.size=B+5:=ZW bl s6
 have s8:w8.heap.size=B+6:=ZW bm s7
 have s9:w9.heap.size=B+7:=ZW bn s8
 have cY:BW w5 X:=bk▸ah _ _
 have bT:BW X w7:=bl▸ah _ _
 have bv:BW w7 w8:=bm▸ah _ _
 have bV:BW w8 w9:=bn▸ah _ _
 have aa:BW w5 w8:=af cY (af bT bv)
 have k3:Sl X 4 (SV (B+3) n n) n (bB n λ_=>false):=by
  have c:=cA.o;rw [a4.o]at c;have O:=bM (.bool false) rfl n;have h3:w5.alloc (CE (madeCells (Value.bool false).cells (n*1)) 4)=X:=by rw [<-bk,RL];rfl
  rw [h3,O,<-Scc.eR]at c;exact c
 have k4:w7.heap[B+4]? =some (.cells #[SV (B+3) n n] 67 (0,0)):=by rw [<-bl,<-s6];exact (Ph X _).1
 have k5:w8.heap[B+5]? =some (.cells #[.func (.func 64) #[] #[PT B,PT (B+2),PT (B+4)]] 1 (0,0)):=by rw [<-bm,<-s7];exact (Ph w7 _).1
 have dV:=a4.o
 have bW:=aX.o
 have dm:yw w2 w8 B n a E' g [a] a (B+1) 1 1 (λ_=>false):=by refine ⟨(bG.o.mono (Q2 bW.symm)).trans (aa.mono ZO),(aa.block B ZO).trans bH.o,(aa.block (B+2) ZO).trans cy.o,(bv.block (B+4) ZO).trans k4,k5,(k3.ax (aj.aC bT) (λk e s=>ZH (cF e))).ax (aj.aC bv) (λk e s=>ZH (cF e)),bI.o.1.ax (aj.aC aa) (λk e s=>ZH (cF e)),rfl,.one a,cV,ZO,ZO⟩
 have F:Hid (B<=w2.heap.size):=Q2 bW.symm
 have dn:Mk w2 w9 B n a E' g r U [] (λk=>k=B+2\/k=B+3\/k=B+1):=⟨[a],a,B+1,1,1,_,dm.ag F.o bV,λy _ _=>rfl,λs h=>(ZC h),ZS,λk=>RE⟩
 have bg:BW H w8:=af cI.o aa
 have dG:=O8 bg
 have cJ:Hid (BW H w9):=af bg bV
 have cT:M<18446744073709551616:=by have c:=QG (n:=2) ZD hS;have O:=HM.o;omega
 have c7:=wN w9 (B+6) M cT (dF.o w9 cJ.o) (by rw [<-bn,<-s8];exact (aT w8 #[UV (M:Int)] 45 0 _ rfl).1) (λk=>k=B+2\/k=B+3\/k=B+1) (λk h=>ZO)
 have cs:Hid (CL 65 #[UV (M:Int)] w8 λe dx=>e=RT (.func (.func 94) #[] #[PT (B+6)])/\dx=w9):=by refine (wO w8 M).mono ?_;rintro e dx ⟨rfl,rfl⟩;exact ⟨by rw [s8],bn⟩
 have cB:=O8 dn
 have cx:=O8 c7
 have bR:=O8 s9
 have eg:=O8 s8
 rw [bk,bl,bm]
 clear b0 b1 b2 b3 b4 b5
 obtain ⟨⟨b0,b1,b2,b3,b4⟩,b5⟩:=aR.o w8 dG.o
 clear bk bl bm bn s6 s7 s8 s9 cY bT bv bV aa k3 k4 k5 dV bW dm dn bg c7 cA bH bI cy bG a4
 go_wp2_with (go_at_call 65;apply cs.o.mono;rintro e d7 ⟨rfl,rfl⟩)
 have dy:Hid (B+5<d7.heap.size):=by have:=bR.o;show _<_;omega
 have a7:Hid (∀W' P z xb b oc f,yw w2 W' B n a E' g P z xb b oc f->BW H W'):=λW' P z xb b oc f h=>cH.o.trans (h.aJ.mono (ZI cH.o.size aX.o))
 refine ld (gf:=94) (lb:=#[PT (B+6)]) rfl (UD func94 ZK rfl) cx.o (λ_=>rfl) (λal T W=>Mk w2 W B n a E' g r U al T)
  (λal T A C h hk=>h.hold F.o dy.o hk) (λal T A h=>h.cells) (λal x A C h hk=>h) cB.o
  (λx=>{tmps:=#[.agg #[SL ia il ic,SL ae n ce,SL la n lc,SL na n nc,UV (M:Int)],SL pa V pc,IV (a:Int),PT q,PT (q+1),undef,SN,PT B,PT (B+2),PT (B+4),PT (B+5),IV (x:Int),undef,undef,undef,undef,undef,PT q,.agg #[SL ia il ic,SL ae n ce,SL la n lc],SL pa V pc,.agg #[SN,SV g n n,SN],IV (a:Int),SV (B+1) 1 1,.pointer (some (AD q 3)),SL na n nc,IV (n:Int),SV (B+3) n n,.func (.func 64) #[] #[PT B,PT (B+2),PT (B+4)],.pointer (some (AD q 4)),UV (M:Int),.func (.func 94) #[] #[PT (B+6)],IV (x:Int),undef,undef,undef,undef,undef,undef,undef,undef,undef,undef,undef,undef,undef,undef,undef,undef,undef,undef,undef,undef,undef,undef,undef,undef,undef,undef,undef,undef,undef,undef,undef,undef,undef,undef,undef,undef,undef,undef,undef,undef,undef,undef,undef,undef,undef,undef,undef,undef,undef,undef,undef,undef,undef,undef,undef,undef,undef,undef,undef,undef,undef],defers:=[]}) ?assign ?body ?done
 case assign=>intro l x W K hK;gi_wp2;exact hK
 case body=>
  rintro l al T x W hl hi ⟨em,ee,dr⟩;obtain ⟨P,z,xb,b,oc,f,c,O,h3,h4,h5⟩:=hi.ex;have dX:x<S:=by rw [<-HM.o,SE]at dr;exact Rf dr
  have dW:(x:Int)<64:=ZO;have R:=O8 c;have cj:=O8 O;have dA:=O8 h3;have cu:=O8 h4;have a3:=O8 h5;have cv:Hid (∀y∈r.take 0,f y=(U y).testBit x):=λy hy=>ZC hy;have cz:Hid (aj (λk=>k=B+3) W W):=aj.refl _ _;obtain ⟨-,b5⟩:=aR.o W (a7.o W _ _ _ _ _ _ c);clear hi c O h3 h4 h5 b0 b1 b2 b3 b4;gi_wp2;gi_loopw [34] (λv wr=>∃(j:Nat)(f:Nat->Bool),j<=V/\v=IV (j:Int)/\Hid (yw w2 wr B n a E' g P z xb b oc f)/\Hid (∀y,y<n->y∉r->f y=false)/\Hid (∀y∈r.take j,f y=(U y).testBit x)/\Hid (aj (λk=>k=B+3) W wr)) (λv _=>V-(intOf v).toNat);exact ⟨0,f,Pz _,rfl,R,cj,cv,cz⟩;clear R cj cv cz;obtain ⟨j,f,hj,rfl,hr,hf,ad,hk⟩:=hrel;have a8:=O8 (a7.o wr _ _ _ _ _ _ hr.o);by_cases aI:j<V
  ·have c9:(j:Int)<(V:Int):=ZO;obtain ⟨-,h0|⟨fb,fo,rfl,bb⟩⟩:=cC.o wr a8.o
   ·omega
   obtain ⟨y,hy⟩:∃y,r[j]? =some y:=⟨_,Pe (ZR aC.o aI)⟩;have aM:=Pm hy;have aN:=ao.o.lt y aM;have dY:(y:Int)<(n:Int):=ZO;have ck:wr.cell? (AD fb (fo+j))=some (IV (y:Int)):=by have:=bb j aI;rw [cG (ZR aC.o aI),Pd,hy]at this;exact this
   have b6:=dD.o wr a8.o;obtain ⟨-,h0|⟨nb,no,rfl,dc⟩⟩:=b6.inn
   ·omega
   have cn:wr.cell? (AD nb (no+y))=some (UV (U y:Int)):=by have:=dc y aN;rw [cG (by simp;exact aN),Pd,PZ,QV aN]at this;exact this
   have cW:=Aw (U y) x (b6.lt y aN);obtain ⟨au,f3,c3⟩:=hr.o.set F.o aN ((U y).testBit x);have a5:=O8 au;have bP:Hid (∀u,u<n->u∉r->up f y ((U y).testBit x) u=false):=λu hu hm=>by rw [an _ _ _ _ (λe=>hm (ZR e aM))];exact hf.o u hu hm
   have aS:Hid (∀u∈r.take (j+1),up f y ((U y).testBit x) u=(U u).testBit x):=λu hu=>by
    by_cases e:u=y
    ·subst e;rw [aA]
    ·rw [an _ _ _ _ e];rw [Qf,hy]at hu
     obtain hu|hu:=PC.1 hu
     ·exact ad.o u hu
     ·exact absurd (Pc.1 hu) e
   have dC:Hid (aj (λk=>k=B+3) W (wr.setCell (AD (B+3) y) (.bool ((U y).testBit x)))):=hk.o.setCell (p:=(AD (B+3) y)) (λ_=>rfl) _;obtain ⟨⟨-,-,-,d3,-⟩,-⟩:=aR.o wr a8.o;have d4:wr.cell? (AD (B+4) 0)=some (SV (B+3) n n):=CH hr.o.j6;clear bb dc b6 au hy aM hr hf ad hk;generalize (U y).testBit x=bx at *;generalize f y=fy at *;obtain ⟨iy,c8⟩:=EX (U y);rw [c8]at cn cW;clear c8;gi_wp2;refine fQ 12 (S:=λW'=>W'.cell? (AD (B+4) 0)=some (SV (B+3) n n)/\W'.cell? (AD q 3)=some (SL (some (AD nb no)) n nc)/\W'.cell? (AD nb (no+y))=some (UV (iy:Int))) ZK ZK (λ_ _ h=>h) (⟨d4,d3,cn⟩) (λaH=>?_);refine aB 0 ?_;refine aB 1 ?_;refine aB 2 ?_;refine aB 3 ?_;refine aB 4 ?_;refine aB 5 ?_;refine aB 6 ?_;refine aB 7 ?_;refine aB 8 ?_;refine aB 9 ?_;refine aB 10 ?_;refine aB 11 ?_;clear aH;refine aK 12 λK hK=>?_;go_simp;refine hK.q ?_;clear hK K;refine az ZK ?_;gi_wp2;go_roundw;exact ⟨j+1,_,ZO,ZN,O8 (a5.o.ag F.o (PF _ _).drew),bP,aS,O8 (dC.o.drew)⟩;simp [intOf];omega
  ·obtain rfl:j=V:=ZO;have a2:Hid (∀y,y∈r->f y=(U y).testBit x):=λy hy=>ad.o y (by rw [PI (Q2 aC.o)];exact hy)
   obtain ⟨yh,bE,dt⟩:=ao.o.iP x dX;have G:z∈r:=by have c:=hr.o.tr.mem (S:=λv=>v∈r) HA.o (λu v h=>((am.o u v).1 h).2.2);exact c z (Pm hr.o.tr.last)
   have df:b<=60000:=by have c:=cu.o;have O:al.length*(n+2)<=64*258:=TI ZO ZO;omega
   have br:Hid (CL 64 #[PT B,PT (B+2),PT (B+4)] wr (pP wr E' n a P f (B+2) xb)):=
    hr.o.call aX.o.symm ay.o cD.o ⟨yh,ao.o.lt yh bE,by rw [a2.o yh bE];exact dt,ao.o.inner am.o G bE⟩ df
   have cN:wr.cell? (AD (B+5) 0)=some (.func (.func 64) #[] #[PT B,PT (B+2),PT (B+4)]):=CH hr.o.NG;have bK:(callFunc 64 #[PT B,PT (B+2),PT (B+4)]).run prog wr=.ok (.enter 64 #[PT B,PT (B+2),PT (B+4)]) wr:=UD func64 ZK rfl _ _;have R:=O8 hr.o;have HF:=O8 hf.o;have HK:=O8 hk.o;clear hr hf ad hk bE dt G;have ch:Hid (∀w5,pP wr E' n a P f (B+2) xb (RT (.tuple #[])) w5->nJ (λal T W=>Mk w2 W B n a E' g r U al T) (λ_=>False) T (al++[x]) W .normal {tmps:=#[],defers:=[]} w5):=by
    rintro w5 ⟨-,Q,z',aP,bF,aO,ht,hz,ar,dk,bA,ab,bf,ag,ak⟩;have G:z'∈r:=QB λh=>by rw [HF.o z' hz h]at ar;cases ar
    have du:=a2.o z' G;rw [ar]at du;have d5:z'∈P++Q:=Pm ht.last;have en:=R.o.size;have bz:=R.o.bA;refine ⟨λk=>k=B+2\/k=B+3\/k=aP,⟨P++Q,z',aP,bF,aO,f,R.o.walked F.o ht hz bA ab bf ag ak,HF.o,λs hs=>?_,?_,λk=>RE⟩,?_,λk hk=>?_⟩
    ·obtain hs|hs:=PC.1 hs
     ·obtain ⟨u,c,O⟩:=dA.o s hs;exact ⟨u,P0 _ c,O⟩
     ·rw [Pc.1 hs];exact ⟨z',d5,du.symm⟩
    ·have c:=cu.o;rw [Pk]at ab
     rw [Pk,Qi,Tg];omega
    ·exact (HK.o.mono (T:=T) (λk _ e=>(a3.o k).2 (.inr (.inl e)))).then ag (λk _ e=>(a3.o k).2 ZO)
    ·have c:=HK.o.size;obtain e|e|e:=hk
     ·exact .inl ((a3.o k).2 (.inl e))
     ·exact .inl ((a3.o k).2 (.inr (.inl e)))
     ·obtain h|h:=ak
      ·exact .inl ((a3.o k).2 (.inr (.inr ZO)))
      ·exact .inr ZO
   gi_wp2_with (refine ⟨RW,rfl,?_⟩;refine ((Rw.2 br.o).inRound l).mono ?_;rintro e w5 aJ;obtain ⟨rfl,-⟩:=id aJ;have cp:=O8 (ch.o w5 aJ);clear aJ);exact cp.o
 case done=>
  rintro D xs T W hD rfl hi cS;obtain ⟨P,z,xb,b,oc,f,c,O,h3,h4,h5⟩:=hi.ex;have ac:Hid (∀s,s<S->∃x∈P,(U x).testBit s=true):=λs hs=>h3 s (ZR HM.o.symm (F9 hS hs));have df:b<=16600:=by have e1:=Ga S hS;rw [HM.o]at e1;have e2:(nh M).length*(n+2)<=64*258:=TI e1 ZO;omega
  have G:z∈r:=c.tr.mem (S:=λv=>v∈r) HA.o (λu v h=>((am.o u v).1 h).2.2) z (Pm c.tr.last);have dj:=c.tr.cH;have bz:=c.bA;obtain ⟨m,hm⟩:∃m,b=m+1:=⟨b-1,ZO⟩;have dq:IntKind.i64.wrap ((b:Int)-1)=(m:Int):=by have e:(b:Int)-1=(m:Int):=ZO;rw [e];exact Ql _ ZO
  have db:(m:Int)<(b:Int):=ZO;have co:W.cell? (AD (B+2) 0)=some (SV xb b oc):=CH c.Mt;have cl:W.cell? (AD xb m)=some (IV (z:Int)):=by rw [Qj (size:=1) c.o m ZO];have h:=c.tr.last;have e:P.length-1=m:=ZO;rw [e]at h;simp [aE,h]
  have R:=O8 c;have HF:=O8 O;have bs:=O8 G;have HD:=O8 hD;have Y:=O8 cS;have dg:((b:Int)==1)=true/\(b==1)=true/\b=1\/((b:Int)==1)=false/\(b==1)=false/\2<=b:=by
   by_cases e:b=1
   ·exact .inl ⟨by simp;omega,ZX e,e⟩
   ·exact .inr ⟨by simp;omega,ZX e,ZO⟩
  clear hi c O h3 h4 h5 hm G dj bz hD cS b0 b1 b2 b3 b4 b5 cx cB cs;go_upto_region 14 with(fail);clear cl;obtain ⟨b7,b8,bd⟩|⟨b7,b8,bd⟩:=dg;case' inl=>
   go_upto_region 15 with(fail)
   clear b7 b8
   have dE:=O8 bd
   clear bd
   obtain ⟨eh,es,ai,ci,dM,cr,bX⟩:=(ay.o.ag (w':=W) (R.o.aJ.mono (ZH aX.o))).bC.at z (by rw [ay.o.bA];exact R.o.Nx)
   cases dM
   obtain ⟨y1,ds⟩:=ao.o.qM am.o bs.o
   obtain ⟨bo,o⟩:=EX (E'.getD z [])
   obtain ⟨d,hd⟩:=EX bo.length
   rw [o,hd]at cr
   rw [o]at bX
   have c2:0<d:=by have h:=ds.2.2;rw [o]at h;rw [<-hd];exact List.length_pos_of_mem h
   obtain ⟨eb,eo,rfl,cq,-⟩:=bX 0 (ZR hd c2)
   obtain ⟨zz,cb⟩:=EX (bo.getD 0 0)
   rw [cb,Th,SS]at cq
   rw [PU]at cr
   have G:zz∈E'.getD z []:=by have h:0<bo.length:=ZR hd c2;rw [o,<-cb,Pd,Pe h];exact QF _
   obtain ⟨dZ,d0⟩:=ay.o.inr z R.o.Nx zz G
   obtain ⟨t,rfl⟩:∃t:Nat,zz=(t:Int):=⟨zz.toNat,ZO⟩
   have ht:t<n:=ZO
   have aW:Hid (Own.gn E' z t):=⟨by rw [ay.o.bA];exact R.o.Nx,by rw [ay.o.bA];exact ht,G⟩
   have d8:(0:Int)<(d:Int):=ZO
   have er:(z:Int)<(n:Int):=ZH R.o.Nx
   have cg:W.cell? (AD B 1)=some (SV g n n):=CH R.o.NV
   obtain ⟨qe,b9⟩:=EX W.heap.size
   obtain ⟨we,bD⟩:=EX ((W.alloc (CE #[IV (t:Int)] 3)).drew)
   have bw:BW W we:=bD▸((PF _ W).alloc (Pf _) _).drew
   have ct:we.cell? (AD qe 0)=some (IV (t:Int)):=by rw [<-bD,<-b9];exact (aT W #[IV (t:Int)] 3 0 _ rfl).1
   have Z:=O8 (R.o.ag F.o bw)
   have aZ:Hid (we.heap[D]? =some (.deferred (some []))):=(bw.block D (Pb.1 Y.o).1).trans Y.o
   have bQ:=O8 Z.o.o
   have ap:=O8 bw
   clear ds o hd bX cb G dZ d0 bw
   refine rI ?_
   refine aw 10 (S:=λW'=>W'.cell? (AD (B+2) 0)=some (SV xb b oc)/\W'.cell? (AD B 1)=some (SV g n n)/\W'.cell? (AD g z)=some (SL (some (AD eb eo)) d ci)/\W'.cell? (AD eb eo)=some (IV (t:Int))) ZK (⟨co,cg,cr,cq⟩) (λaH=>?_)
   refine aB 0 ?_
   refine aB 1 ?_ [9,8,7,6,5,4,2,1]
   refine aB 2 ?_ [9,8,7,6,5,4,2]
   refine aB 3 ?_ [9,8,7,6,5,4,3]
   refine aB 4 ?_ [9,8,7,6,5,4]
   refine aB 5 ?_ [9,8,7,6,5]
   refine aB 6 ?_ [9,8,7,6]
   refine aB 7 ?_ [9,8,7]
   refine aB 8 ?_ [9,8]
   clear aH
   obtain ⟨cO,cM,cQ,cP⟩:we.cell? (AD (B+2) 0)=some (SV xb b oc)/\we.cell? (AD B 1)=some (SV g n n)/\we.cell? (AD g z)=some (SL (some (AD eb eo)) d ci)/\we.cell? (AD eb eo)=some (IV (t:Int)):=⟨(ap.o.cell (O9 _ _ co)).trans co,(ap.o.cell (O9 _ _ cg)).trans cg,(ap.o.cell (O9 _ _ cr)).trans cr,(ap.o.cell (O9 _ _ cq)).trans cq⟩
   refine aK 9 λK hK=>?_
   go_simp
   try rw [b9]
   try rw [bD]
   refine hK.o _ _ (λ_=>⟨cO,cM,cQ,cP⟩) ?_
   clear hK K
   try walk_nrm
   refine aK 10 λK hK=>?_
   rw [PW (by rfl)]
   apply aY.o
   refine eI (.tmp 62) (.tmp 71) 33 rfl 3 i3 (IV 0) 8 QD dN d1 dT dJ rfl ZD (SV xb b oc) b _ rfl bQ.o (AD qe 0) (IV (t:Int)) rfl rfl ct ZO (λv6 X ca bY da=>?_)
   obtain ⟨a6,c6,rfl,c1⟩:=ca.shape
   obtain ⟨g6,rfl,-,-⟩:=c1 0 ZO
   have bN:=Z.o.NI
   have dd:¬(SV xb b oc).ownBlock=some (B+2):=λe=>bN.2.1 (cF e)
   have aQ:=(bY.block (B+2) (ZH Z.o.size) dd).trans Z.o.Mt
   have q6:X.cell? (AD (B+2) 0)=some (SV xb b oc):=CH aQ
   have z6:X.frozen? (AD (B+2) 0)=false:=Pg aQ 0
   have ak:g6=xb\/we.heap.size<=g6:=by
    obtain h|⟨g',h,O⟩:=da
    ·exact .inl (Qh (h:some g6=some xb))
    ·have e:g6=g':=Qh (h:some g6=some g');exact .inr (ZR e O)
   have bc:aj (λk=>k=B+2) X (X.setCell (AD (B+2) 0) (SV g6 (b+1) c6)):=(aj.refl (λk=>k=B+2) X).setCell (p:=(AD (B+2) 0)) (λ_=>rfl) _
   have bZ:aj (λk=>k=B+2\/k=xb) we (X.setCell (AD (B+2) 0) (SV g6 (b+1) c6)):=(bY.mono (T:=λk=>k=B+2\/k=xb) (λk _ e=>.inr (cF e).symm)).then bc (λk _ e=>.inl e)
   have dl:yw w2 (X.setCell (AD (B+2) 0) (SV g6 (b+1) c6)) B n a E' g (P++[t]) t g6 (b+1) c6 f:=by
    refine Z.o.walked F.o (Z.o.tr.snoc aW.o) ht ?_ (by rw [Pk,Z.o.bA];rfl) ((?_:Sl X 3 _ _ _).ax bc (λk e s=>?_)) bZ ak
    ·simp [HC,World.setCell,P7,aQ]
    ·rw [iz,Qg];exact ca
    ·have e2:=cF e;obtain h|h:=ak
     ·omega
     ·have:=Z.o.size;omega
   have c4:(X.setCell (AD (B+2) 0) (SV g6 (b+1) c6)).heap[D]? =some (.deferred (some [])):=by
    refine (bZ.block D (Pb.1 aZ.o).1 (λe=>?_)).trans aZ.o;obtain e|e:=e
    ·have h:=Z.o.Mt;rw [<-e,aZ.o]at h;cases h
    ·obtain ⟨h,-⟩|⟨g',cL,cR,h,-,hg,-⟩:=bQ.o.2
     ·cases h
     ·cases h
      rw [<-e,aZ.o]at hg;cases hg
   have bq:=O8 dl
   have bO:=O8 c4
   clear ca da c1 bY bN dd aQ ak bc bZ dl c4 cO cM cQ cP
   refine hK.p ?_
   clear hK K
   refine aK 11 λK hK=>?_
   go_simp
   refine hK.q ?_
   clear hK K
   refine az ZK ?_
   have dh:2<=b+1:=ZH dE.o
   have di:b+1<=16601:=ZO
   have bS:Hid (∀s,s<S->∃x∈P++[t],(U x).testBit s=true):=λs hs=>by obtain ⟨x,c,O⟩:=ac.o s hs;exact ⟨x,P0 _ c,O⟩
   have cK:Hid (t∈r):=((am.o z t).1 aW.o).2.2
   clear ac R bs Y aW Z aZ bQ ap co cg cr cq ct bD b9 dq db
   generalize X.setCell (AD (B+2) 0) (SV g6 (b+1) c6)=W' at *
   generalize dI:P++[t]=P' at *
   generalize dH:b+1=bF at *
   clear dI dH
   go_upto_region 16 with(fail)
  case' inr=>
   have dh:2<=b:=bd
   have di:b<=16601:=ZO
   go_upto_region 16 with(fail)
   clear b7 b8 bd co dq db
   have bq:=O8 R.o
   have bO:=O8 Y.o
   have bS:=O8 ac.o
   have cK:=O8 bs.o
   clear R Y ac bs
   generalize W=W' at *
   generalize P=P' at *
   generalize b=bF at *
   generalize xb=g6 at *
   generalize oc=c6 at *
   generalize d6:z=t at *
   clear d6
  all_goals
   obtain ⟨-,b5⟩:=aR.o W' (a7.o W' _ _ _ _ _ _ bq.o)
   have cw:Hid (∀y∈r.take 0,f y=decide (y=a)):=λy hy=>ZC hy
   go_wp2
   go_loopw [75] (λv wr=>∃(j:Nat)(f:Nat->Bool),j<=V/\v=IV (j:Int)/\Hid (yw w2 wr B n a E' g P' t g6 bF c6 f)/\Hid (∀y,y<n->y∉r->f y=false)/\Hid (∀y∈r.take j,f y=decide (y=a))/\Hid (wr.heap[D]? =some (.deferred (some [])))) (λv _=>V-(intOf v).toNat)
   exact ⟨0,f,Pz _,rfl,bq,HF,cw,bO⟩
   clear bq HF cw bO b5
   obtain ⟨j,f,hj,rfl,hr,hf,ad,aq⟩:=hrel
   have a8:=O8 (a7.o wr _ _ _ _ _ _ hr.o)
   by_cases aI:j<V
   ·have c9:(j:Int)<(V:Int):=ZO;obtain ⟨-,h0|⟨fb,fo,rfl,bb⟩⟩:=cC.o wr a8.o
    ·omega
    obtain ⟨y,hy⟩:∃y,r[j]? =some y:=⟨_,Pe (ZR aC.o aI)⟩;have aM:=Pm hy;have aN:=ao.o.lt y aM;have dY:(y:Int)<(n:Int):=ZO;have ck:wr.cell? (AD fb (fo+j))=some (IV (y:Int)):=by have:=bb j aI;rw [cG (ZR aC.o aI),Pd,hy]at this;exact this
    have ei:((y:Int)==(a:Int))=decide (y=a):=by
     by_cases e:y=a
     ·subst e;simp
     ·rw [PH e];simp;omega
    obtain ⟨au,f3,c3⟩:=hr.o.set F.o aN (decide (y=a));have a5:=O8 au;have bP:Hid (∀u,u<n->u∉r->up f y (decide (y=a)) u=false):=λu hu hm=>by rw [an _ _ _ _ (λe=>hm (ZR e aM))];exact hf.o u hu hm
    have aS:Hid (∀u∈r.take (j+1),up f y (decide (y=a)) u=decide (u=a)):=λu hu=>by
     by_cases e:u=y
     ·subst e;rw [aA]
     ·rw [an _ _ _ _ e];rw [Qf,hy]at hu
      obtain hu|hu:=PC.1 hu
      ·exact ad.o u hu
      ·exact absurd (Pc.1 hu) e
    have dz:Hid ((wr.setCell (AD (B+3) y) (.bool (decide (y=a)))).heap[D]? =some (.deferred (some []))):=by have bc:aj (λk=>k=B+3) wr (wr.setCell (AD (B+3) y) (.bool (decide (y=a)))):=(aj.refl (λk=>k=B+3) wr).setCell (p:=(AD (B+3) y)) (λ_=>rfl) _;exact (bc.block D (Pb.1 aq.o).1 (ZI HD.o bR.o)).trans aq.o
    have d4:wr.cell? (AD (B+4) 0)=some (SV (B+3) n n):=CH hr.o.j6;clear bb au hy aM hr hf ad aq;generalize decide (y=a)=bx at *;generalize f y=fy at *;go_wp2;go_roundw;exact ⟨j+1,_,ZO,ZN,a5,bP,aS,dz⟩;simp [intOf];omega
   ·obtain rfl:j=V:=ZO;have a2:Hid (∀y,y∈r->f y=decide (y=a)):=λy hy=>ad.o y (by rw [PI (Q2 aC.o)];exact hy)
    have br:Hid (CL 64 #[PT B,PT (B+2),PT (B+4)] wr (pP wr E' n a P' f (B+2) g6)):=
     hr.o.call aX.o.symm ay.o cD.o ⟨a,cV,by rw [a2.o a HA.o];exact PX rfl,ao.o.inner am.o cK.o HA.o⟩ ZO
    have cN:wr.cell? (AD (B+5) 0)=some (.func (.func 64) #[] #[PT B,PT (B+2),PT (B+4)]):=CH hr.o.NG;have bK:(callFunc 64 #[PT B,PT (B+2),PT (B+4)]).run prog wr=.ok (.enter 64 #[PT B,PT (B+2),PT (B+4)]) wr:=UD func64 ZK rfl _ _;have R:=O8 hr.o;have cm:=O8 hf.o;have Y:=O8 aq.o;clear hr hf ad aq;go_upto_region 22 with(fail);apply br.o.mono;rintro e cc ⟨rfl,Q,z',aP,av,aO,ht,hz,ar,dk,bA,ab,bf,ag,ak⟩;have G:z'∈r:=QB λh=>by rw [cm.o z' hz h]at ar;cases ar
    obtain rfl:z'=a:=by have h:=a2.o z' G;rw [ar]at h;exact Rf h.symm
    have bz:=R.o.bA;have be:=R.o.walked F.o ht hz bA ab bf ag ak;rw [Pk]at ab;obtain ⟨k,hk⟩:∃k,av=k+1:=⟨av-1,ZO⟩;have dP:1<=k:=ZO;have dQ:k<=20000:=ZO;have eq:IntKind.i64.wrap ((av:Int)-1)=(k:Int):=by have e:(av:Int)-1=(k:Int):=ZO;rw [e];exact Ql _ ZO
    have ed:IntKind.i64.wrap (k:Int)=(k:Int):=Ql _ ZO;have dL:=(de bf).1;have ek:k<=av:=ZO;have ea:(k:Int)<=(av:Int):=ZO;have ej:k<=aO:=ZO;have d9:(k:Int)<=(aO:Int):=ZO;have ec:(av:Int)<=(aO:Int):=ZO;have co:cc.cell? (AD (B+2) 0)=some (SV aP av aO):=CH be.Mt;have aq:cc.heap[D]? =some (.deferred (some [])):=by
     refine (ag.block D (Pb.1 Y.o).1 (λe=>?_)).trans Y.o;obtain e|e:=e
     ·have:=HD.o;have:=bR.o;omega
     ·obtain ⟨h,-⟩|⟨g',cL,cR,h,-,hg,-⟩:=R.o.o.2
      ·cases h
      ·cases h
       rw [<-e,Y.o]at hg;cases hg
    have N:=O8 be;have bp:=O8 hk;have a1:=O8 aq;have cE:Hid (∀s,s<S->∃x∈P'++Q,(U x).testBit s=true):=λs hs=>by obtain ⟨x,c,O⟩:=bS.o s hs;exact ⟨x,P0 _ c,O⟩
    clear ht hz ar dk bA ab bf ag ak be hk aq G bz br R cm Y bS cN bK dL;go_wp2;have dR:aP≠D:=λe=>by
     obtain ⟨h,-⟩|⟨g',cL,cR,h,-,hg,-⟩:=N.o.o.2
     ·cases h
     ·cases h
      rw [e,a1.o]at hg;cases hg
    have ag:=bU cc D (.deferred none);refine ⟨ZS,.inl ⟨_,_,rfl,S1 a1.o,?_⟩⟩;refine ⟨_,results_tmp rfl _ _ _,P'++Q,aP,k,aO,rfl,N.o.tr.mono (λu v h=>((am.o u v).1 h).1),by rw [N.o.bA];exact bp.o,dP,dQ,cE.o,λx hx=>ao.o.lt x (N.o.tr.mem (S:=λv=>v∈r) HA.o (λu v h=>((am.o u v).1 h).2.2) x hx),⟨?_,.inr ⟨aP,0,rfl,λi hi=>?_⟩⟩,?_⟩
    ·rw [aD,Sc,N.o.bA,bp.o];rfl
    ·have h:=(vK N.o.o i (ZH bp.o)).1;have e:(aE (P'++Q).dropLast).getD i 0=(aE (P'++Q)).getD i 0:=by have h5:=N.o.bA;have h6:=bp.o;unfold aE;rw [Pd,Pd,PZ,PZ,Ub,PW ZO]
     rw [e,PU];exact ag.aq h dR
    ·have c:=af cd.o (a7.o _ _ _ _ _ _ _ N.o);exact c.trans (ag.ag c.size (λk hk e=>ZI HD.o ((af cd.o cJ.o).size)))
end
section
def oD{F N P w m f o a Q}
 (M:o.guard=none) (l c t) (g:o.op=Op.makeSlice t l c)
 (e i z b) (A:P.underlying t=some (.slice e)) (B:P.info? e=some i) (D:i.zero=some z) (E:i.size=b)
 (y x L C) (n:Nat) (O:a.eval l=.int y L) (J:a.eval c=.int x C) (I:L=(n:Int)) (G:C=(n:Int)) (R:i.bytes*n<=281474976710656) (v:n<=maxLen)
 (H:∀u,u=w.alloc (CE (madeCells z.cells (n*b)) e)->u.ownsRow 0 e b (SV w.heap.size n n) n (madeCells z.cells (n*b)).toList->wpListIn F N P m Q f (a.put o.dst (SV w.heap.size n n)) u):
 wpListIn F N P m Q (o::f) a w:=by
 refine wpListIn_plain M λK r=>?_
 subst E
 have q:(n:Int)<=9223372036854775807:=by have h:=v;simp [maxLen]at h;omega
 have p:(i.bytes:Int)*(n:Int)<=281474976710656:=by have h:((i.bytes*n:Nat):Int)<=281474976710656:=ZO;rwa [Int.natCast_mul]at h
 have d:=run_make (P:=P) w t e i z A B D y x n n ZO (Int.le_refl _) p q
 simp only [SB]at d
 have j:=Sm (base:=0) (e:=e) w (madeCells z.cells (n*i.size)) n (Pz _) v (size_madeCells _ _)
 subst I
 subst G
 unfold Oper.wpIn
 refine ⟨?_,?_⟩
 simp [Oper.about,g]
 rw [Oper.semAt_plain F _ _ (by rw [g];intro c s;cases s)]
 simp [execOp,g,O,J,d,Result.andThen]
 exact r _ _ (H _ rfl j)
def Trail.reach{E a z P}(h:Trail E a P z):Own.aZ E a z:=by
 induction h with
 |one=>exact Own.aZ.refl E _
 |snoc _ e b=>exact b.trans (Own.aZ.qM e)
def oL{e}{p u:Tmp}{g f}(h:e.results=#[.cell p g,.cell u f])(b P w):
 (results e b).run P w=((asAddr (b.getD p undef)).run P w).andThen λa c=>((loadVar g a).run P c).andThen λv d=>((asAddr (b.getD u undef)).run P d).andThen λa c=>((loadVar f a).run P c).andThen λi d=>.ok (.tuple #[v,i]) d:=by
 simp only [results,h]
 simp [Rv,Result.andThen]
def vM{e t w a n c m k r l}(h:Sl w e (SL a n c) m r)(q:HC w k l t)(d:e≠t):(SL a n c).ownBlock≠some k:=λi=>by
 obtain ⟨b,-⟩|⟨g,j,o,b,-,f,-⟩:=h.2;cases b;cases i
 cases b
 have p:=cF i;subst p;rw [q]at f;cases f
 exact d rfl
structure Av (w1 w:WD) (wb k:Nat) (C:Nat->Value) (L:Nat->List Nat):Prop where
 rc:Rec 2 (λj=>j<2) (λ_=>45) w wb C (λj=>(aE (L j)).map (Value.int .u64))
 kp:aj (λb=>b=wb) w1 w
 Nb:∀b,(C k).ownBlock=some b->w1.heap.size<=b
section
variable {w1 w w2:WD} {wb k:Nat} {C:Nat->Value} {L:Nat->List Nat}
def Av.ag(h:Av w1 w wb k C L)(a:BW w w2):Av w1 w2 wb k C L:=
 ⟨h.rc.ax (aj.aC a) (λb c s=>ZH (h.rc.jO b c)),h.kp.then (aj.aC a) (λi d s=>ZH h.kp.size),h.Nb⟩
def Av.dT(h:Av w1 w wb k C L)(f:k<2){x:Nat}{v}(q:Sl w2 45 v ((L k).length+1) ((aE (L k)).map (Value.int .u64)++[UV x]))(m:aj (λb=>(C k).ownBlock=some b) w w2)(a:dQ w (C k) v):
 Av w1 (w2.setCell (AD wb k) v) wb k (up C k v) (up L k (L k++[x])):=by
 have n:(aE (L k)).map (Value.int .u64)++[UV x]=(aE (L k++[x])).map (Value.int .u64):=by rw [iz,Qg];rfl
 have o:((aE (L k++[x])).map (Value.int .u64)).length=(L k).length+1:=by rw [PB,aD,Pk];rfl
 refine ⟨?_,?_,λb c=>?_⟩
 have l:=h.rc.slice k f v ((aE (L k++[x])).map (Value.int .u64)) (by rw [o,<-n];exact q) m a
 have e:up (λj=>(aE (L j)).map (Value.int .u64)) k ((aE (L k++[x])).map (Value.int .u64))=λj=>(aE (up L k (L k++[x]) j)).map (Value.int .u64):=by funext j;by_cases d:j=k;subst d;rw [aA,aA];rw [an _ _ _ _ d,an _ _ _ _ d]
 rw [e]at l
 exact l
 exact (h.kp.then m (λi s e=>ZH (h.Nb i e))).setCell (p:=(AD wb k)) (λ_=>rfl) _
 rw [aA]at c
 obtain a|⟨g,a,r⟩:=a
 rw [a]at c;exact h.Nb b c
 rw [a]at c;cases c
 have:=h.kp.size;omega
def Av.shape(h:Av w1 w wb k C L)(j)(b:j<2):∃a c,C j=.slice a (L j).length c/\CA w wb j (C j)/\Sl w 45 (C j) (L j).length ((aE (L j)).map (Value.int .u64))/\(C j).ownBlock≠some wb:=by
 obtain ⟨a,c,e,-⟩:=h.rc.val j b;have d:=h.rc.cO j b;have f:((aE (L j)).map (Value.int .u64)).length=(L j).length:=by rw [PB,aD]
 rw [f]at e d;exact ⟨a,c,e,h.rc.cell j b,d,h.rc.off j b⟩
def Av.next(h:Av w1 w wb k C L)(j)(a:C j=SN):Av w w wb j C L:=⟨h.rc,aj.refl _ _,λb e=>(by rw [a]at e;cases e)⟩
end
def Av.aM(w:WD)(k):Av (w.alloc (CE #[SN,SN] 25)) (w.alloc (CE #[SN,SN] 25)) w.heap.size k (λ_=>SN) (λ_=>[]):=by
 have c:=(Ph w (CE #[SN,SN] 25)).1;refine ⟨⟨λj a=>?_,λj=>Pg c j,λj a=>a,λj _=>Qd _ _ _ _,λi j b _ _ e=>(ZC e),λi _ e=>(ZC e),ZD⟩,aj.refl _ _,λb e=>(ZC e)⟩;rw [Pa c];match j,a with
 |0,_=>rfl
 |1,_=>rfl
def Fx{k e w a n c d}(h:Sl w e (SL a n c) n (d.map (Value.int k))):aG k w a n d:=by
 refine ⟨Fw h,?_⟩;obtain b|b:=Qv n;exact .inl b;have⟨o,f,j,l⟩:=h.shape;cases j
 obtain ⟨g,rfl,-,-⟩:=l 0 b;exact .inr ⟨g,0,rfl,λi m=>by rw [PU];exact (vK h i m).1⟩
structure KT (b:WD) (E:List (List Int)) (n:Nat) (I:List Nat) (a:List (Nat×Value)) (T:Nat->Prop) (W:WD):Prop where
 aJ:BW b W
 eK:∀k,¬T k
 none:∀u∈a.map Prod.fst,∀i∈I,∀g∈mx E n u,¬Own.aZ E i g
structure FP (w:WD) (A:Au) (q:Nat) (W:WD):Prop where
 ex:∃(st c:List Nat)(d:OA)(sl f:Nat)(b:OA)(a e:Nat),W.heap[q+1]? =some (.cells #[SL d sl f,SL b a e] 25 (0,0))/\W.heap[q+2]? =some (.cells #[.bool true] 4 (0,0))/\aG .u64 W d sl (aE st)/\aG .u64 W b a (aE c)/\0<a/\sl+a<=65536/\lY A (aU st c)
 aJ:BW w W
def FP.ax{w A q b X Y}(h:FP w A q X)(u:q+3<=b)(hw:w.heap.size<=b)(a:aj (λk=>b<=k/\∃o,X.heap[k]? =some o/\o.isCells=false) X Y):FP w A q Y:=by have⟨t,m,n,r,p,i,l,j,c,d,e,f,g⟩:=h.ex;refine ⟨⟨t,m,n,r,p,i,l,j,(a.block _ (Pb.1 c).1 (λs=>ZO)).trans c,(a.block _ (Pb.1 d).1 (λs=>ZO)).trans d,jT (T:=λ_=>True) e (a.mono λk _ s=>⟨RW,s.2⟩),jT (T:=λ_=>True) f (a.mono λk _ s=>⟨RW,s.2⟩),g⟩,h.aJ.trans (a.ag h.aJ.size (λk _ s=>ZO))⟩
end
def Je(A:Au)(s x:Nat):Prop:=(A.ay x).inn.testBit s=true
def Iu(A:Au)(w:WD)(e:Ending)(a:WD):Prop:=∃b E,e=RT (.bool b)/\su A E/\E.length=A.ak.length/\(b=true↔¬∃i∈A.aP.filter (gU A),yv E (Je A) A.sets i)/\BW w a
def zr(w A f j t k l u)(Z:cm w A f j k l)(F:gL A):
 CL 13 #[.agg #[IV A.sets,SL f j t,SL k l u]] w (Iu A w):=by
 have⟨q,R⟩:=EX w.heap.size
 have⟨c,p⟩:=EX (w.alloc (CE #[IV A.sets,SL f j t,SL k l u] 36))
 have y:BW w c:=p▸ah _ _
 have z:HC c q #[IV A.sets,SL f j t,SL k l u] 36:=by rw [<-p,<-R];exact (Ph w _).1
 have B:Hid (∀a:WD,BW c a->CA a q 0 (IV A.sets)/\CA a q 1 (SL f j t)/\CA a q 2 (SL k l u)):=λa h=>by have Q:=(h.block q (Pb.1 z).1).trans z;exact ⟨CH Q,CH Q,CH Q⟩
 have W:Hid (∀a,BW c a->cm a A f j k l):=λa h=>Z.ag (af y h)
 have M:Hid (CL 23 #[.agg #[IV A.sets,SL f j t,SL k l u]] c λe a=>e=RT (IV 0)/\BW c a):=dZ c A f j t k l u (W.o c (PF _ _)) F
 have O:Hid (∀a,BW c a->CL 32 #[.agg #[IV A.sets,SL f j t,SL k l u]] a (pL a A)):=λa h=>xJ a A f j t k l u (W.o a h) F
 have HA:=O8 F
 have H:=O8 y
 have⟨b0,b1,b2⟩:=B.o c (PF _ _)
 clear Z F y z
 go_enter func13,ntmps13
 go_upto_region 1 with(fail)
 (try rw [p])
 (try rw [R])
 clear p R
 have aa:((0:Int)==0)=true:=rfl
 go_wp2_with (first|(go_at_call 23;apply M.o.mono;rintro e w2 ⟨rfl,C⟩;have v:=O8 C;clear C;have⟨c0,c1,c2⟩:=B.o w2 v.o;have N:=O8 (O.o w2 v.o))|(go_at_call 32;apply N.o.mono;rintro e w4 ⟨xa,xl,xc,I,ae,ce,E,S,T,L,U,V,X,rfl,d,o,n,G,hL,m⟩;have P:=O8 (x8 w4 xa xl xc I ae _ ce E S T L U V X A.sets HA.o.sets d);have HX:=O8 (And.intro d (And.intro o (And.intro n (And.intro G m))));clear d o n G hL m;unfold jj)|(go_at_call 26;apply P.o.mono;rintro e w5 ⟨b,rfl,Y,D⟩;have K:=O8 Y;have J:=O8 D;clear Y D))
 go_ret
 have⟨d,o,n,G,m⟩:=HX.o
 refine ⟨_,E,rfl,o,d.pg.gr.bA,?_,af H.o (af v.o (af m J.o))⟩
 have r:∀i,yv E (λs x=>(X x).testBit s=true) A.sets i↔yv E (Je A) A.sets i:=λi=>qP λs x hx=>by rw [d.pg.gr.bA]at hx;rw [n x hx];exact RE
 rw [RD,<-Bool.not_eq_true,K.o,G]
 exact T8 ⟨λ⟨i,h,g⟩=>⟨i,h,(r i).1 g⟩,λ⟨i,h,g⟩=>⟨i,h,(r i).2 g⟩⟩
section
attribute [local go_sem] TD
def MH(w:WD)(A:Au)(e:Ending)(c:WD):Prop:=BW w c/\
 ((e=RT (.tuple #[.agg #[SN,SN],.bool false])/\∃E,su A E/\¬∃i∈A.aP.filter (gU A),yv E (Je A) A.sets i)\/
 (∃(h f:List Nat)(g:OA)(b k:Nat)(d:OA)(a j:Nat),e=RT (.tuple #[.agg #[SL g b k,SL d a j],.bool true])/\aG .u64 c g b (aE h)/\aG .u64 c d a (aE f)/\0<a/\b+a<=65536/\lY A (aU h f)))
def C7(w A ia il ic na nl nc)(hv:cm w A ia il na nl)(hA:gL A)(dn:ep w):
 CL 12 #[.agg #[IV A.sets,SL ia il ic,SL na nl nc]] w (MH w A):=by
 have⟨i4,em,ev,er,bN⟩:=P6 Scc.Tryz.kM
 have⟨dP,b8,cb,b9,b3⟩:=P6 Tryz.xf
 have⟨q,hq⟩:=EX w.heap.size
 have⟨wx,bc⟩:=EX ((w.alloc (CE #[IV A.sets,SL ia il ic,SL na nl nc] 36)).alloc (CE #[SN,SN] 25))
 have⟨R,av⟩:=EX (wx.alloc (CE #[.bool false] 4))
 have sx:wx.heap.size=q+2:=by rw [<-bc,P3,P3,hq]
 have s1:R.heap.size=q+3:=ZW av sx
 have b5:BW w wx:=bc▸af (ah _ _) (ah _ _)
 have a3:BW wx R:=av▸ah _ _
 have bL:BW w R:=af b5 a3
 have k0:HC R q #[IV A.sets,SL ia il ic,SL na nl nc] 36:=by refine (a3.block q ZO).trans ?_;rw [<-bc,<-hq,(Ph _ _).2 _ (by rw [P3];omega)];exact (Ph w _).1
 have k1:HC R (q+1) #[SN,SN] 25:=by refine (a3.block (q+1) ZO).trans ?_;rw [<-bc,<-hq,<-P3 w (CE #[IV A.sets,SL ia il ic,SL na nl nc] 36)];exact (Ph _ _).1
 have k2:R.heap[q+2]? =some (.cells #[.bool false] 4 (0,0)):=by rw [<-av,<-sx];exact (Ph wx _).1
 have cM:Hid (∀B:WD,BW R B->CA B q 0 (IV A.sets)/\CA B q 1 (SL ia il ic)/\CA B q 2 (SL na nl nc)):=λB h=>by have t:=(h.block q ZO).trans k0;exact ⟨CH t,CH t,CH t⟩
 have ci:Hid (∀B:WD,BW R B->HC B (q+1) #[SN,SN] 25/\HC B (q+2) #[.bool false] 4):=λB h=>⟨(h.block _ ZO).trans k1,(h.block _ ZO).trans k2⟩
 have HV:Hid (∀B,BW R B->cm B A ia il na nl):=λB h=>hv.ag (af bL h)
 have ax:Hid (CL 23 #[.agg #[IV A.sets,SL ia il ic,SL na nl nc]] R λe B=>e=RT (IV 0)/\BW R B):=dZ R A ia il ic na nl nc (HV.o R (PF _ _)) hA
 have c4:Hid (∀B,BW R B->CL 32 #[.agg #[IV A.sets,SL ia il ic,SL na nl nc]] B (pL B A)):=λB h=>xJ B A ia il ic na nl nc (HV.o B h) hA
 have d9:Hid (∀B,BW R B->ep B):=λB h=>dn.ag (af bL h)
 have HA:=O8 hA
 have cc:=O8 bL
 have HQ:=O8 hq
 have d8:=O8 s1
 have⟨b0,b1,b2⟩:=cM.o R (PF _ _)
 have eF:((0:Int)==0)=true:=rfl
 clear hv hA dn bL s1 b5 a3 k0 k1 k2
 refine (Rw (n:=0)).1 (S3 func12 rfl RW ?_ rfl)
 rw [Ta]
 simp only [ntmps12,Sd,P9,Ra,Nat.reduceAdd,Nat.reduceSub,SF,SG,Te,SU,QW,Qq]
 go_upto_region 1 with(fail)
 (try rw [bc])
 (try rw [av])
 (try rw [hq])
 (try rw [sx])
 clear bc av hq sx
 go_upto_region 4 with(first|(go_at_call 23;apply ax.o.mono;rintro e w2 ⟨rfl,dp⟩;have cd:=O8 dp;clear dp;have⟨c0,c1,c2⟩:=cM.o w2 cd.o;have cY:=O8 (c4.o w2 cd.o))|(go_at_call 32;apply cY.o.mono;rintro e w4 ⟨xa,xl,xc,I,ae,ce,E,la,lc,L,Z,aa,IN,rfl,ad,dB,aV,hI,hL,bN⟩;unfold jj;have O:=O8 ad;have bT:=O8 dB;have bi:=O8 aV;have cU:=O8 hI;have cl:=O8 hL;have dU:=O8 bN;clear ad dB aV hI hL bN))
 have⟨n,cE⟩:=EX A.ak.length
 have⟨M,hM⟩:=EX (2^A.sets-1)
 rw [cE]at O bi cl⊢
 rw [hM]
 have⟨J,aW⟩:=EX w4.heap.size
 have⟨w5,bb⟩:=EX (w4.alloc (CE #[SL xa xl xc,SL ae n ce,SL la n lc,SL Z n aa,UV M] 57))
 have⟨w6,am⟩:=EX (w5.alloc (CE #[SL xa xl xc,SL ae n ce,SL la n lc,SL Z n aa,UV M] 57))
 have s5:w5.heap.size=J+1:=ZW bb aW
 have s6:w6.heap.size=J+2:=ZW am s5
 have dq:BW w4 w5:=bb▸ah _ _
 have a9:BW w5 w6:=am▸ah _ _
 have a2:=af dq a9
 have b4:w5.heap[J]? =some (.cells #[SL xa xl xc,SL ae n ce,SL la n lc,SL Z n aa,UV M] 57 (0,0)):=by rw [<-bb,<-aW];exact (Ph w4 _).1
 have bs:w6.heap[J+1]? =some (.cells #[SL xa xl xc,SL ae n ce,SL la n lc,SL Z n aa,UV ((2^A.sets-1:Nat):Int)] 57 (0,0)):=by rw [<-am,hM,<-s5];exact (Ph w5 _).1
 have a5:Hid (∀B:WD,BW w6 B->(CA B J 0 (SL xa xl xc)/\CA B J 1 (SL ae n ce)/\CA B J 2 (SL la n lc)/\CA B J 3 (SL Z n aa)/\CA B J 4 (UV M))):=λB h=>by have t:=(h.block J ZO).trans ((a9.block J ZO).trans b4);exact ⟨CH t,CH t,CH t,CH t,CH t⟩
 have dd:Hid (BW R w4):=af cd.o dU.o
 have de:Hid (BW R w6):=af dd.o a2
 have cL:=O8 a2
 have dD:q+3<=J:=ZI dd.o.size d8.o
 have cs:=O8 dD
 have d1:Hid (CL 33 #[.agg #[SL xa xl xc,SL ae n ce,SL la n lc,SL Z n aa,UV M]] w5 λe dQ=>e=RT (.func (.func 57) #[] #[PT (J+1)])/\dQ=w6):=by refine (qj w5 _ _ _ _ _).mono ?_;rintro e dQ ⟨rfl,rfl⟩;exact ⟨by rw [s5],am⟩
 have dz:=xe w4 w6 J (J+1) (SL xa xl xc) (SL la n lc) ae n ce E Z aa IN A.sets HA.o.sets aW O.o.pg (a2.mono (Q2 aW.symm)) bs (λ_=>False) (λk h=>h.elim)
 have d3:=O8 dz
 have d2:Hid (KT w6 E n I [] (λ_=>False) w6):=⟨PF _ _,λk h=>h,λu h=>ZC h⟩
 have cu:=O8 s6
 have HM:=O8 hM
 have d5:=O8 cE
 rw [aW,bb]
 have aQ:=aT w4 #[SL xa xl xc,SL ae n ce,SL la n lc,SL Z n aa,UV M] 57
 rw [bb,aW]at aQ
 have p0:=(aQ 0 _ rfl).1
 have p1:=(aQ 1 _ rfl).1
 have p2:=(aQ 2 _ rfl).1
 have p3:=(aQ 3 _ rfl).1
 have p4:=(aQ 4 _ rfl).1
 clear bb am s5 s6 dq a9 a2 b4 bs dz aQ hM cE aW dD b0 b1 b2 c0 c1 c2 cY ax c4 HV
 go_wp2_with (go_at_call 33;apply d1.o.mono;rintro e G ⟨rfl,rfl⟩)
 clear p0 p1 p2 p3 p4
 have ap:Hid (∀W,BW G W->BW w4 W/\BW R W):=λW h=>⟨af cL.o h,af de.o h⟩
 refine yU (gf:=57) (lb:=#[PT (J+1)]) rfl (UD func57 ZK rfl) d3.o (λ_=>rfl) (KT G E n I) (FP w A q)
  (λbR T X Y h hk=>⟨h.aJ.trans (hk.ag h.aJ.size (λk _ s=>ZO)),h.eK,h.none⟩) (λX Y h hk=>h.ax (ZI cu.o cs.o) (ZI cc.o.size de.o.size) hk)
  (λbR T X h k s=>(h.eK k s).elim) (λx X Y h hk=>?hPre) d2.o
  (λx=>{tmps:=#[.agg #[IV A.sets,SL ia il ic,SL na nl nc],PT q,PT (q+1),PT (q+2),PT J,x.2,undef,undef,undef,undef,undef,undef,undef,undef,undef,undef,.agg #[IV A.sets,SL ia il ic,SL na nl nc],IV 0,.bool false,undef,.agg #[IV A.sets,SL ia il ic,SL na nl nc],.agg #[SL xa xl xc,SL ae n ce,SL la n lc,SL Z n aa,UV M],.agg #[SL xa xl xc,SL ae n ce,SL la n lc,SL Z n aa,UV M],.func (.func 57) #[] #[PT (J+1)],x.2,undef,undef,undef,undef,undef,undef,undef,undef,undef,undef,undef,undef,undef,undef,undef,undef,undef,undef,undef,undef,undef,undef,undef,undef,undef,undef,undef,undef,undef,undef,undef,undef,undef,undef,undef,undef,undef,undef,undef,undef,undef,undef,undef,undef,undef,undef,undef,undef,undef,undef,undef,undef,undef,undef,undef,undef,undef,undef,undef,undef,undef,undef,undef,undef,undef,undef,undef,undef,undef,undef,undef,undef,undef,undef,undef,undef],defers:=[]}) ?assign ?body ?done ?stop
 case hPre=>obtain ⟨d,t,a,m,c,e,hr⟩:=h;exact ⟨d,t,a,m,c,e,jT (T:=λ_=>True) hr (hk.mono λk _ s=>⟨RW,s⟩)⟩
 case assign=>intro l x W K N;gi_wp2;exact N
 case body=>
  rintro l bR T ⟨u,v⟩ W hl hi ⟨hu,aR,a,m,c,e,aJ⟩;simp only at hu aR e aJ;subst e;have⟨ms,bO⟩:=EX (mx E n u);have bP:Part E IN A.sets n ms:=ZR bO.symm (Part.of O.o.pg.gr.bA aR);rw [bO]at aJ;have bG:=O8 bP;have d4:=O8 bO;have bE:Hid (ms.length=m):=by have:=aJ.1;rwa [aD]at this
  have db:=O8 aJ;have HI:=O8 hi;have eo:n<=256:=ZR d5.o.symm HA.o.many;have ba:m<=256:=by have d:=bP.nodup.length_le_of_subset (l₂:=List.range n) (λx H=>P5.2 (bP.lt x H));rw [Qp,bE.o]at d;omega
  have⟨p0,p1,p2,p3,p4⟩:=a5.o W hi.aJ;have⟨gb,bv⟩:=EX W.heap.size;have⟨Wg,bQ⟩:=EX (W.alloc (CE (madeCells #[Value.bool false] n) 4));have dr:BW W Wg:=bQ▸ah _ _;have cT:=O8 bv;have eb:=O8 bQ;have dW:=O8 dr;clear bP bO aJ hi hu aR dr p0 p1 p2 p4;gi_wp2_with (gi_at_make;refine oD rfl _ _ 67 rfl 4 i4 (.bool false) 1 QM em ev er _ _ _ _ n rfl rfl rfl rfl (by rw [bN];omega) (by unfold maxLen;omega) ?_;rintro w7 rfl hs;have cX:=O8 hs;clear hs);have cS:Hid (Sl Wg 4 (SV gb n n) n (bB n λ_=>false)):=by
   have d:=cX.o;rw [cT.o]at d;have t:=bM (.bool false) rfl n;have h3:W.alloc (CE (madeCells (Value.bool false).cells (n*1)) 4)=Wg:=by rw [<-eb.o,RL];rfl
   rw [h3,t,<-Scc.eR]at d;exact d
  (try rw [bv]);(try rw [bQ]);clear bv bQ cX p3;gi_loopw [31] (λv wr=>∃(j:Nat)(f:Nat->Bool),j<=m/\v=IV j/\Hid (Sl wr 4 (SV gb n n) n (bB n f))/\Hid (∀x,x<n->(f x=true↔x∈ms.take j))/\Hid (BW W wr)) (λv _=>m-(intOf v).toNat);exact ⟨0,_,Pz _,rfl,cS,O8 (λx _=>⟨λh=>(ZC h),λh=>(ZC h)⟩),dW⟩;clear cS;obtain ⟨j,f,hj,rfl,hg,hf,V⟩:=hrel;by_cases cB:j<m
  ·have ex:(j:Int)<m:=ZO;obtain ⟨-,h0|⟨fb,fo,rfl,dv⟩⟩:=db.o.ag V.o
   ·omega
   obtain ⟨y,hy⟩:∃y,ms[j]? =some y:=⟨_,Pe (ZR bE.o cB)⟩;have eu:=bG.o.lt y (Pm hy);have eO:(y:Int)<n:=ZO;have ck:CA wr fb (fo+j) (IV y):=by have:=dv j cB;rw [cG (ZR bE.o cB),Pd,hy]at this;exact this
   have⟨d,c3,f3⟩:=mD hg.o eu true;have d0:=O8 d;have dY:Hid (∀x,x<n->(up f y true x=true↔x∈ms.take (j+1))):=λx H=>by
    rw [Qf,hy];by_cases e:x=y
    ·subst e;rw [aA];simp
    ·rw [an _ _ _ _ e,hf.o x H];simp [e]
   have cK:Hid (BW W (wr.setCell (AD gb y) (.bool true))):=V.o.setCell (by show W.heap.size<=gb;rw [cT.o];exact Pf _) _;clear dv hy d hg hf V;generalize f y=fy at *;gi_wp2;go_roundw;exact ⟨j+1,_,ZO,ZN,d0,dY,cK⟩;simp [intOf];omega
  ·obtain rfl:j=m:=ZO;have cQ:Hid (∀x,x<n->(f x=true↔x∈ms)):=λx H=>by rw [hf.o x H,PI (Q2 bE.o)]
   have cf:=O8 V.o;have am:BW G wr:=af HI.o.aJ V.o;have bW:=O8 am;have ad:=O.o.ag (ap.o wr am).1;have bF:Hid (CL 34 #[.agg #[SL xa xl xc,SL ae n ce,SL la n lc],SL xa xl xc,SV gb n n] wr (pM wr E n I ((List.range n).filter f))):=
    Cv wr xa xl xc (aE I) la n lc L ae n ce E ad.pg.gr ad.n8 ad.NZ ad.il ZO ad.pg.ND xa xl xc I ad.n8 ad.Mo ad.il (some (AD gb 0)) n f (Bc hg.o)
   have b6:∀x,x∈(List.range n).filter f↔x∈ms:=λx=>by rw [PY,P5];exact ⟨λh=>(cQ.o x h.1).1 h.2,λh=>⟨bG.o.lt x h,(cQ.o x (bG.o.lt x h)).2 h⟩⟩
   have bg:=O8 b6;have⟨p0,p1,p2,p3,p4⟩:=a5.o wr am;clear hg hf V ad am b6;by_cases bu:∃i∈I,∃g∈ms,Own.aZ E i g
   ·have d7:Hid (CL 34 #[.agg #[SL xa xl xc,SL ae n ce,SL la n lc],SL xa xl xc,SV gb n n] wr λe B=>∃P i z g l c,e=RT (.tuple #[SV g l c,.bool true])/\P.length=l/\l<=n+3/\aF .i64 3 wr B (SV g l c) (aE P)/\Trail E i P z/\i∈I/\z∈ms):=by
     apply bF.o.mono;rintro e B (⟨-,-,eq⟩|⟨P,i,z,pa,l,c,rfl,d,t,h3,h4,h5,h6⟩)
     ·obtain ⟨i,hi,g,hg,hr⟩:=bu;exact absurd hr (eq i hi g ((bg.o g).2 hg))
     ·have hp:=h4.cH;obtain ⟨g,c',e,-⟩:=xw h3 (n:=l) (by rw [aD];exact d) ZO
      cases e
      exact ⟨P,i,z,g,l,c,rfl,d,t,h3,h4,h5,(bg.o z).1 h6⟩
    clear bu bF;gi_wp2_with (refine ⟨RW,rfl,?_⟩;gi_at_call 34;refine ((Rw.2 d7.o).inRound l).mono ?_;rintro e w8 ⟨P,i,z,g,l1,c1,rfl,d,t,h3,h4,h5,h6⟩;have a7:=O8 d;have eD:=O8 t;have bl:=O8 h3;have cw:=O8 h4;have cV:=O8 h5;have ec:=O8 h6;have dC:=h4.cH;have dt:=(Cg h3).1;obtain ⟨m1,dA⟩:∃m1,l1=m1+1:=⟨l1-1,ZO⟩;have bj:=O8 dA;have eN:IntKind.i64.wrap ((l1:Int)-1)=(m1:Int):=(by rw [show(l1:Int)-1=(m1:Int) by omega];exact Ql _ ZO);have eC:IntKind.i64.wrap (m1:Int)=m1:=Ql _ ZO;have eM:m1<=l1:=ZO;have eA:(m1:Int)<=l1:=ZO;have eL:m1<=c1:=ZO;have ez:(m1:Int)<=c1:=ZO;have ey:(l1:Int)<=c1:=ZO;have eK:m1<=n+2:=ZO;have⟨wb,cI⟩:=EX w8.heap.size;have⟨w9,cH⟩:=EX (w8.alloc (CE #[SN,SN] 25));have bJ:=O8 cI;have df:=O8 cH;clear d t h3 h4 h5 h6 dC dt dA);(try rw [cH]);(try rw [cI]);clear cI cH p0 p1 p2 p3 p4;have be:Hid (BW w8 w9):=df.o▸ah _ _;have bV:Hid (BW G w9):=af bW.o (af bl.o.2.1 be.o);have dM:Av w9 w9 wb 0 (λ_=>SN) (λ_=>[]):=by have h:=Av.aM w8 0;rw [df.o,bJ.o]at h;exact h
    have a8:=O8 dM;have bX:Hid (G.heap.size<=wb):=by have d:=bW.o.size;have t:=bl.o.2.1.size;have h3:=bJ.o;show _<=_;omega
    have cj:Hid (∀r,aj (λb=>b=wb) w9 r->BW G r):=λr hk=>bV.o.trans (hk.ag bV.o.size (λk d e=>ZH bX.o));have bY:Hid (W.heap.size<=wb):=by have d:=cf.o.size;have t:=bl.o.2.1.size;have h3:=bJ.o;show _<=_;omega
    have bK:Hid (∀r,aj (λb=>b=wb) w9 r->BW W r):=λr hk=>by have d:=af cf.o (af bl.o.2.1 be.o);exact d.trans (hk.ag d.size (λk d e=>ZH bY.o))
    have cr:Hid (∀r,aj (λb=>b=wb) w9 r->∀(i x:Nat),P[i]? =some x->r.cell? (AD g i)=some (IV x)):=λr hk i x H=>by
     have hs:=bl.o.1;rw [aD,a7.o]at hs;have en:i<l1:=by rw [<-a7.o];exact (Po.1 H).1
     have d:=(vK hs i en).1;have t:(aE P).getD i 0=(x:Int):=by simp [aE,Pd,H]
     rw [t]at d;have ek:=O9 _ _ d;exact hk.aq ((be.o.cell ek).trans d) (λe=>ZH bJ.o)
    have ao:Hid (P.dropLast.length=m1):=by rw [Sc,a7.o,bj.o];exact O8 rfl
    have bH:Hid (∀r,aj (λb=>b=wb) w9 r->∀(i x:Nat),P.dropLast[i]? =some x->r.cell? (AD g i)=some (IV x)):=λr hk i x H=>by
     have hl:i<m1:=by rw [<-ao.o];exact (Po.1 H).1
     rw [Ub,PW (by rw [a7.o,bj.o];omega)]at H;exact cr.o r hk i x H
    have bI:Hid (∀x∈P.dropLast,x<n):=λx H=>by have aV:i<n:=O.o.Mo i cV.o;exact cw.o.mem (S:=λv=>v<n) aV (λu v h=>by have:=h.2.1;rw [O.o.pg.gr.bA]at this;exact this) x (List.dropLast_subset _ H)
    have aH:Hid ((λ_=>SN:Nat->Value) 1=SN):=rfl;have ay:Hid ((λ_=>[]:Nat->List Nat) 0=(P.dropLast.take 0).map λx=>(A.ay x).need):=rfl;have eB:m1<=20000:=ZO;gi_loopw [57] (λv wr=>∃(i:Nat)(C:Nat->Value)(U:Nat->List Nat),i<=m1/\v=IV i/\Hid (Av w9 wr wb 0 C U)/\Hid (C 1=SN)/\Hid (U 0=(P.dropLast.take i).map λx=>(A.ay x).need)) (λv _=>m1-(intOf v).toNat);exact ⟨0,_,_,Pz _,rfl,a8,aH,ay⟩;clear a8 aH ay;obtain ⟨i,C,U,hi,rfl,hw,ak,ai⟩:=hrel;have F:=O8 (cj.o wr hw.o.kp);by_cases cA:i<m1
    ·have dx:(i:Int)<m1:=ZO;obtain ⟨x,H⟩:∃x,P.dropLast[i]? =some x:=⟨_,Pe (ZR ao.o cA)⟩
     have a0:x<n:=bI.o x (Pm H);have et:(x:Int)<n:=ZO;have ck:CA wr g i (IV x):=bH.o wr hw.o.kp i x H;have aI:=(O.o.ag (ap.o wr F.o).1).NZ;rw [cl.o]at aI;obtain ⟨-,h0|⟨lb,lo,bw,bx⟩⟩:=aI
     ·omega
     have cx:CA wr lb (lo+x) (UV ((A.ay x).need:Int)):=by have:=bx x a0;rw [cG (by simp;exact a0),Pd,PZ,QV a0]at this;exact this
     have aC:Hid ((P.dropLast.take (i+1)).map (λx=>(A.ay x).need)=U 0++[(A.ay x).need]):=by show _=_;rw [ai.o,Qf,H,Qg];rfl
     have⟨nx,bz⟩:=EX ((A.ay x).need);rw [bz]at cx aC;have⟨sa,sc,hC,cC,hS,hO⟩:=hw.o.shape 0 ZD;have⟨sl,au⟩:=EX ((U 0).length);have es:sl<=20000:=by have d:=ai.o;rw [<-au,d,PB,QI];omega
     rw [au]at hC hS;rw [hC]at cC hS hO;obtain ⟨-,-,p2,-,-⟩:=a5.o wr F.o;rw [bw]at p2;have⟨qe,aX⟩:=EX wr.heap.size;have⟨we,aw⟩:=EX ((wr.alloc (CE #[UV nx] 45)).drew);have ab:BW wr we:=aw▸((PF _ wr).alloc (Pf _) _).drew;have ct:we.cell? (AD qe 0)=some (UV nx):=by rw [<-aw,<-aX];exact (aT wr #[UV nx] 45 0 _ rfl).1
     have aN:=O8 (hw.o.ag ab);have cv:Hid (Sl we 45 (SL sa sl sc) sl ((aE (U 0)).map (Value.int .u64))):=hS.ax (aj.aC ab) (λg e s=>ZH (hS.lt g e));have bh:Hid (CA we wb 0 (SL sa sl sc)/\CA we J 2 (SL (some (AD lb lo)) n lc)/\CA we lb (lo+x) (UV nx)):=⟨(ab.cell (O9 _ _ cC)).trans cC,(ab.cell (O9 _ _ p2)).trans p2,(ab.cell (O9 _ _ cx)).trans cx⟩;have ax:=O8 hC;have bm:=O8 au;have bk:=O8 hO;have cp:=O8 ak.o;have dN:(0:Int)<=x:=ZO;subst bw;clear H bx bz hS hO au ab hw ak ai hC;gi_wp2;refine fQ 9 (S:=λr=>CA r wb 0 (SL sa sl sc)/\CA r J 2 (SL (some (AD lb lo)) n lc)/\CA r lb (lo+x) (UV nx)) ZK ZK (λ_ _ h=>h) (⟨cC,p2,cx⟩) (λag=>?_);refine aB 0 ?_ [1,0];refine aB 1 ?_;refine aB 2 ?_ [8,7,6,4,3,2];refine aB 3 ?_ [8,7,6,4,3];refine aB 4 ?_ [8,7,6,4];refine aB 5 ?_ [8,7,6,5];refine aB 6 ?_ [8,7,6];refine aB 7 ?_ [8,7];clear ag;refine aK 8 λK N=>?_;go_simp;try rw [aX]
     try rw [aw]
     refine N.o _ _ (λ_=>bh.o) ?_;clear N K;try walk_nrm
     refine aK 9 λK N=>?_;rw [PW (by rfl)];apply aY.o;refine eI (.tmp 62) (.tmp 69) 23 rfl 45 dP (UV 0) 8 RS b8 cb b9 b3 rfl ZD (SL sa sl sc) sl _ rfl cv.o (AD qe 0) (UV nx) rfl rfl ct ZO (λv6 w6 aZ aq ba=>?_);obtain ⟨a6,c6,rfl,-⟩:=aZ.shape;have br:=aq.block wb (by have:=aN.o.rc.lt;exact this) bk.o;have z6:FZ w6 wb 0:=(PK br).trans (aN.o.rc.lC 0);have q6:CA w6 wb 0 (SL sa sl sc):=aq.aq bh.o.1 bk.o;have cq:=O8 (Av.dT (x:=nx) (v:=SL a6 (sl+1) c6) aN.o ZD (ZR bm.o aZ) (ZR ax.o aq) (ZR ax.o ba));clear aZ aq ba br ct cC p2 cx aX aw;refine N.q ?_;clear N K;refine aK 10 λK N=>?_;go_simp;refine N.p ?_;clear N K;refine aK 11 λK N=>?_;go_simp;refine N.q ?_;clear N K;refine az ZK ?_;gi_wp2;go_roundw;exact ⟨i+1,_,_,ZO,ZN,cq,by rw [an _ _ _ _ ZD];exact cp,by rw [aA];exact aC.o.symm⟩;simp [intOf];omega
    ·obtain rfl:i=m1:=ZO;have c5:Hid (U 0=P.dropLast.map λx=>(A.ay x).need):=by have h:=ai.o;rw [PI (Q2 ao.o)]at h;exact h
     have cW:Hid (U 1=[]):=by obtain ⟨a1,ed,e1,-,-,-⟩:=hw.o.shape 1 ZD;rw [ak.o]at e1;exact Qy (P8 e1).2.1.symm
     have⟨p0,p1,p2,p3,p4⟩:=a5.o wr F.o;have cz:CA wr g i (IV z):=cr.o wr hw.o.kp i z (by
      have h:=cw.o.last;have e:P.length-1=i:=by rw [a7.o,bj.o];rfl
      rw [e]at h;exact h)
     have ew:(i:Int)<l1:=ZH bj.o;have c9:Hid (CL 35 #[.agg #[SL xa xl xc,SL ae n ce,SL la n lc,SL Z n aa,UV M],SL a j c,IV z] wr.drew (Bz wr.drew E n A.sets IN z)):=by
      have a9:BW G wr.drew:=F.o.trans ((PF _ wr).drew.mono F.o.size);have V:BW W wr.drew:=by have d:=bK.o wr hw.o.kp;exact d.trans ((PF _ wr).drew.mono d.size)
      have h:=Hd wr.drew xa xl xc I ae n ce E la lc L Z aa IN A.sets HA.o.sets (O.o.ag (ap.o _ a9).1) (d9.o _ (ap.o _ a9).2) eo a j c ms (db.o.ag V) bG.o z ec.o;unfold jj at h;rw [HM.o]at h;exact h
     have bS:Hid (∀r,Below wr.drew.heap.size wr.drew r->CA r J 0 (SL xa xl xc)/\CA r J 1 (SL ae n ce)/\CA r J 2 (SL la n lc)/\CA r J 3 (SL Z n aa)/\CA r J 4 (UV M)/\CA r g i (IV z)):=λr h=>by have d:BW wr r:=(PF _ wr).drew.trans h;have⟨u0,u1,u2,u3,u4⟩:=a5.o r (af F.o d);exact ⟨u0,u1,u2,u3,u4,(d.cell (O9 _ _ cz)).trans cz⟩
     have cy:=O8 hw.o;have cZ:=O8 ak.o;clear hw ak ai bH ao bI cr;gi_wp2;refine fQ 8 (S:=λr=>CA r J 0 (SL xa xl xc)/\CA r J 1 (SL ae n ce)/\CA r J 2 (SL la n lc)/\CA r J 3 (SL Z n aa)/\CA r J 4 (UV M)/\CA r g i (IV z)) ZK ZK (λ_ _ h=>h) (⟨p0,p1,p2,p3,p4,cz⟩) (λag=>?_);refine' aS (i:=10) (v:=_) rfl ZK (λ_ _ _ h=>h) (Or.inl ⟨by rfl,?hyR10⟩) (by assumption) ?restR10;case hyR10=>(intro B eG;go_simp;(try with_reducible rfl))
     try walk_nrm
     refine aB 0 ?_;refine aB 1 ?_;refine aB 2 ?_ [7,6,2];refine aB 3 ?_ [7,6,5,4,3];refine aB 4 ?_ [7,6,5,4];refine aB 5 ?_ [7,6,5];refine aB 6 ?_ [7,6];refine aB 7 ?_;clear ag p0 p1 p2 p3 p4 cz;refine aK 8 λK N=>?_;rw [PW (by rfl)];apply aY.o;refine aO (f:=35) (c9.o) ?_ (λe aL cF=>?_)
     ·clear N;go_simp
     obtain ⟨Q,xb,l2,c2,rfl,dI,dE,eH,eJ,ca,dF,bC,bZ⟩:=cF;refine ⟨_,rfl,?_⟩;have bd:=O8 bZ;have ea:=O8 dI;have c7:=O8 dE;have dc:=O8 ca;have c8:=O8 dF;have da:=O8 bC;clear bZ dI dE ca dF bC c9;refine N.o _ _ (λ_=>bS.o aL bd.o) ?_;clear N K;refine aK 9 λK N=>?_;go_simp;refine N.q ?_;clear N K;refine az ZK ?_;have aM:Hid (BW wr aL):=(PF _ wr).drew.trans bd.o;have bn:Hid (BW G aL):=af F.o aM.o;have bo:Hid (BW W aL):=af (bK.o wr cy.o.kp) aM.o;have a8:=O8 ((cy.o.ag aM.o).next 1 cZ.o);have cj:Hid (∀r,aj (λb=>b=wb) aL r->BW G r):=λr hk=>bn.o.trans (hk.ag bn.o.size (λk d e=>ZH bX.o));have bK:Hid (∀r,aj (λb=>b=wb) aL r->BW W r):=λr hk=>bo.o.trans (hk.ag bo.o.size (λk d e=>ZH bY.o));have ao:Hid (Q.dropLast.length=l2):=by rw [Sc,c7.o];exact O8 rfl
     have dO:xb≠wb:=λe=>by
      obtain ⟨-,h0|⟨b',o',e',hc⟩⟩:=da.o
      ·omega
      ·cases e'
       have d:=hc 0 ZO;obtain ⟨a1,ed,e1,t,-,-⟩:=a8.o.shape 0 ZD;rw [e1]at t;rw [e]at d;exact absurd (d.symm.trans t) (by intro h;cases h)
     have bH:Hid (∀r,aj (λb=>b=wb) aL r->∀(i x:Nat),Q.dropLast[i]? =some x->CA r xb i (IV x)):=λr hk i x H=>by
      have hl:i<l2:=by rw [<-ao.o];exact (Po.1 H).1
      obtain ⟨-,h0|⟨b',o',e',hc⟩⟩:=da.o
      ·omega
      ·cases e'
       have d:=hc i hl;have t:(aE Q.dropLast).getD i 0=(x:Int):=by unfold aE;rw [Pd,PZ,H];rfl
       rw [t,PU]at d;exact hk.aq d dO
     have bI:Hid (∀x∈Q.dropLast,x<n):=λx H=>c8.o x (List.dropLast_subset _ H);have aH:Hid (U 0=P.dropLast.map λx=>(A.ay x).need):=c5;have ay:Hid (U 1=(Q.dropLast.take 0).map λx=>(A.ay x).need):=cW;clear cy cZ c5 cW dO bS bd;gi_wp2;gi_loopw [83] (λv wr=>∃(i:Nat)(C:Nat->Value)(U:Nat->List Nat),i<=l2/\v=IV i/\Hid (Av aL wr wb 1 C U)/\Hid (U 0=P.dropLast.map λx=>(A.ay x).need)/\Hid (U 1=(Q.dropLast.take i).map λx=>(A.ay x).need)) (λv _=>l2-(intOf v).toNat);exact ⟨0,_,_,Pz _,rfl,a8,aH,ay⟩;clear a8 aH ay;obtain ⟨i,C,U,hi,rfl,hw,ak,ai⟩:=hrel;have F:=O8 (cj.o wr hw.o.kp);by_cases cA:i<l2
     ·have dx:(i:Int)<l2:=ZO;obtain ⟨x,H⟩:∃x,Q.dropLast[i]? =some x:=⟨_,Pe (ZR ao.o cA)⟩
      have a0:x<n:=bI.o x (Pm H);have et:(x:Int)<n:=ZO;have ck:CA wr xb i (IV x):=bH.o wr hw.o.kp i x H;have aI:=(O.o.ag (ap.o wr F.o).1).NZ;rw [cl.o]at aI;obtain ⟨-,h0|⟨lb,lo,bw,bx⟩⟩:=aI
      ·omega
      have cx:CA wr lb (lo+x) (UV ((A.ay x).need:Int)):=by have:=bx x a0;rw [cG (by simp;exact a0),Pd,PZ,QV a0]at this;exact this
      have aC:Hid ((Q.dropLast.take (i+1)).map (λx=>(A.ay x).need)=U 1++[(A.ay x).need]):=by show _=_;rw [ai.o,Qf,H,Qg];rfl
      have⟨nx,bz⟩:=EX ((A.ay x).need);rw [bz]at cx aC;have⟨sa,sc,hC,cC,hS,hO⟩:=hw.o.shape 1 ZD;have⟨sl,au⟩:=EX ((U 1).length);have es:sl<=20000:=by have d:=ai.o;rw [<-au,d,PB,QI];omega
      rw [au]at hC hS;rw [hC]at cC hS hO;obtain ⟨-,-,p2,-,-⟩:=a5.o wr F.o;rw [bw]at p2;have⟨qe,aX⟩:=EX wr.heap.size;have⟨we,aw⟩:=EX ((wr.alloc (CE #[UV nx] 45)).drew);have ab:BW wr we:=aw▸((PF _ wr).alloc (Pf _) _).drew;have ct:we.cell? (AD qe 0)=some (UV nx):=by rw [<-aw,<-aX];exact (aT wr #[UV nx] 45 0 _ rfl).1
      have aN:=O8 (hw.o.ag ab);have cv:Hid (Sl we 45 (SL sa sl sc) sl ((aE (U 1)).map (Value.int .u64))):=hS.ax (aj.aC ab) (λg e s=>ZH (hS.lt g e));have bh:Hid (CA we wb 1 (SL sa sl sc)/\CA we J 2 (SL (some (AD lb lo)) n lc)/\CA we lb (lo+x) (UV nx)):=⟨(ab.cell (O9 _ _ cC)).trans cC,(ab.cell (O9 _ _ p2)).trans p2,(ab.cell (O9 _ _ cx)).trans cx⟩;have ax:=O8 hC;have bm:=O8 au;have bk:=O8 hO;have cp:=O8 ak.o;have dN:(0:Int)<=x:=ZO;subst bw;clear H bx bz hS hO au ab hw ak ai hC;gi_wp2;refine fQ 9 (S:=λr=>CA r wb 1 (SL sa sl sc)/\CA r J 2 (SL (some (AD lb lo)) n lc)/\CA r lb (lo+x) (UV nx)) ZK ZK (λ_ _ h=>h) (⟨cC,p2,cx⟩) (λag=>?_);refine aB 0 ?_ [1,0];refine aB 1 ?_;refine aB 2 ?_ [8,7,6,4,3,2];refine aB 3 ?_ [8,7,6,4,3];refine aB 4 ?_ [8,7,6,4];refine aB 5 ?_ [8,7,6,5];refine aB 6 ?_ [8,7,6];refine aB 7 ?_ [8,7];clear ag;refine aK 8 λK N=>?_;go_simp;try rw [aX]
      try rw [aw]
      refine N.o _ _ (λ_=>bh.o) ?_;clear N K;try walk_nrm
      refine aK 9 λK N=>?_;rw [PW (by rfl)];apply aY.o;refine eI (.tmp 88) (.tmp 95) 23 rfl 45 dP (UV 0) 8 RS b8 cb b9 b3 rfl ZD (SL sa sl sc) sl _ rfl cv.o (AD qe 0) (UV nx) rfl rfl ct ZO (λv6 w6 aZ aq ba=>?_);obtain ⟨a6,c6,rfl,-⟩:=aZ.shape;have br:=aq.block wb (by have:=aN.o.rc.lt;exact this) bk.o;have z6:FZ w6 wb 1:=(PK br).trans (aN.o.rc.lC 1);have q6:CA w6 wb 1 (SL sa sl sc):=aq.aq bh.o.1 bk.o;have cq:=O8 (Av.dT (x:=nx) (v:=SL a6 (sl+1) c6) aN.o ZD (ZR bm.o aZ) (ZR ax.o aq) (ZR ax.o ba));clear aZ aq ba br ct cC p2 cx aX aw;refine N.q ?_;clear N K;refine aK 10 λK N=>?_;go_simp;refine N.p ?_;clear N K;refine aK 11 λK N=>?_;go_simp;refine N.q ?_;clear N K;refine az ZK ?_;gi_wp2;go_roundw;exact ⟨i+1,_,_,ZO,ZN,cq,by rw [an _ _ _ _ ZD];exact cp,by rw [aA];exact aC.o.symm⟩;simp [intOf];omega
     ·obtain rfl:i=l2:=ZO;have cn:Hid (U 1=Q.dropLast.map λx=>(A.ay x).need):=by have h:=ai.o;rw [PI (Q2 ao.o)]at h;exact h
      obtain ⟨sa,sc,dl,ee,bp,-⟩:=hw.o.shape 0 ZD;obtain ⟨sb,sd,dm,ef,bq,-⟩:=hw.o.shape 1 ZD;have dG:(U 0).length<=300:=by rw [ak.o,PB,Sc,a7.o,bj.o];omega
      have dH:(U 1).length=i:=by rw [cn.o,PB,ao.o]
      rw [dl]at ee bp;rw [dm]at ef bq;have⟨k1,k2⟩:=ci.o wr (ap.o wr F.o).2;have dg:CA wr (q+1) 0 (SN):=CH k1;have dh:CA wr (q+1) 1 (SN):=CH k1;have di:CA wr (q+2) 0 (.bool false):=CH k2;have dR:FZ wr (q+1) 0:=Pg k1 0;have dS:FZ wr (q+1) 1:=Pg k1 1;have dT:FZ wr (q+2) 0:=Pg k2 0;have⟨wz,al⟩:=EX (((wr.setCell (AD (q+1) 0) (.slice sa (U 0).length sc)).setCell (AD (q+1) 1) (.slice sb (U 1).length sd)).setCell (AD (q+2) 0) (.bool true));have ar:aj (λk=>k=q+1\/k=q+2) wr wz:=by rw [<-al];exact (((aj.refl (λk=>k=q+1\/k=q+2) wr).setCell (p:=(AD (q+1) 0)) (λ_=>.inl rfl) _).setCell (p:=(AD (q+1) 1)) (λ_=>.inl rfl) _).setCell (p:=(AD (q+2) 0)) (λ_=>.inr rfl) _
      have V:=bK.o wr hw.o.kp;have bf:Hid (qZ (KT G E n I) (FP w A q) T (bR++[(u,SL a j c)]) W .ret {tmps:=#[],defers:=[]} wz):=by
       have⟨e1,e2⟩:=ci.o W (ap.o W HI.o.aJ).2;refine ⟨⟨λk=>k=q+1\/k=q+2,((aj.aC V).mono (T:=λk=>k=q+1\/k=q+2) (λk d t=>ZO)).then ar (λk _ h=>h),λk hk=>?_⟩,⟨(U 0),(U 1),sa,(U 0).length,sc,sb,(U 1).length,sd,?_,?_,?_,?_,ZO,ZO,?_⟩,?_⟩
       ·obtain e|e:=hk
        ·subst e;exact ⟨_,e1,rfl⟩
        ·subst e;exact ⟨_,e2,rfl⟩
       ·rw [<-al];simp [HC,World.setCell,P7,k1]
       ·rw [<-al];simp [HC,World.setCell,P7,k2]
       ·exact Fx (bp.ax ar (λb e s=>by
         obtain s|s:=s
         ·subst s;exact vM bp k1 ZD e
         ·subst s;exact vM bp k2 ZD e))
       ·exact Fx (bq.ax ar (λb e s=>by
         obtain s|s:=s
         ·subst s;exact vM bq k1 ZD e
         ·subst s;exact vM bq k2 ZD e))
       ·rw [ak.o,cn.o];refine GF bT.o (PY.1 (cU.o▸cV.o)).1 cw.o ea.o (ZH c7.o) (λk hk=>?_)
        have⟨x,d,t⟩:=dc.o k hk;exact ⟨x,d,by rw [<-bi.o x (c8.o x d)];exact t⟩
       ·have d:=af cc.o (ap.o wr F.o).2;exact d.trans (ar.ag d.size (λk hk e=>ZH HQ.o))
      clear hw ak ai cn dl dm bp bq dG dH k1 k2 ar V;generalize (U 0).length=s0 at *;generalize (U 1).length=s1 at *;gi_wp2;(try rw [al]);exact bf.o
   ·have d6:Hid (CL 34 #[.agg #[SL xa xl xc,SL ae n ce,SL la n lc],SL xa xl xc,SV gb n n] wr λe B=>e=RT (.tuple #[SN,.bool false])/\BW wr B):=by
     apply bF.o.mono;rintro e B (⟨d,t,-⟩|⟨P,i,z,pa,l,c,rfl,d,t,h3,h4,h5,h6⟩)
     ·exact ⟨d,t⟩
     ·exact absurd ⟨i,h5,z,(bg.o z).1 h6,h4.reach⟩ bu
    have ch:=O8 bu;clear bu bF;gi_wp2_with (refine ⟨RW,rfl,?_⟩;gi_at_call 34;refine ((Rw.2 d6.o).inRound l).mono ?_;rintro e w8 ⟨rfl,t⟩;have dV:=O8 t;clear t);have bf:Hid (qZ (KT G E n I) (FP w A q) T (bR++[(u,SL a j c)]) W .normal {tmps:=#[],defers:=[]} w8):=by
     have V:=af cf.o dV.o;refine ⟨T,⟨af HI.o.aJ V,HI.o.eK,λu' dJ i hi g hg hr=>?_⟩,(aj.aC V).mono (λk d t=>ZO),λk s=>.inl s⟩;rw [Qg]at dJ;obtain h|h:=PC.1 dJ
     ·exact HI.o.none u' h i hi g hg hr
     ·rw [Pc.1 h]at hg;rw [d4.o]at hg
      exact ch.o ⟨i,hi,g,hg,hr⟩
    exact bf.o
 case done=>
  intro D xs T W hD b7 hi aP;have av:=(ap.o W hi.aJ).2;have⟨k1,k2⟩:=ci.o W av;have dg:CA W (q+1) 0 (SN):=CH k1;have dh:CA W (q+1) 1 (SN):=CH k1;have di:CA W (q+2) 0 (.bool false):=CH k2;have dR:FZ W (q+1) 0:=Pg k1 0;have dS:FZ W (q+1) 1:=Pg k1 1;have dT:FZ W (q+2) 0:=Pg k2 0;have⟨wz,al⟩:=EX (((W.setCell (AD (q+1) 0) (SN)).setCell (AD (q+1) 1) (SN)).setCell (AD (q+2) 0) (.bool false));have ar:aj (λk=>k=q+1\/k=q+2) W wz:=by rw [<-al];exact (((aj.refl (λk=>k=q+1\/k=q+2) W).setCell (p:=(AD (q+1) 0)) (λ_=>.inl rfl) _).setCell (p:=(AD (q+1) 1)) (λ_=>.inl rfl) _).setCell (p:=(AD (q+2) 0)) (λ_=>.inr rfl) _
  have a4:q+3<=D:=ZI cu.o cs.o;have e1:wz.heap[q+1]? =some (.cells #[SN,SN] 25 (0,0)):=by rw [<-al];simp [HC,World.setCell,P7,k1]
  have e2:wz.heap[q+2]? =some (.cells #[.bool false] 4 (0,0)):=by rw [<-al];simp [HC,World.setCell,P7,k2]
  have du:wz.heap[D]? =some (.deferred (some [])):=(ar.block D (Pb.1 aP).1 ZO).trans aP;have ds:BW w wz:=by have d:=af cc.o av;exact d.trans (ar.ag d.size (λk hk e=>ZH HQ.o))
  have cR:Hid (∃E,su A E/\¬∃i∈A.aP.filter (gU A),yv E (Je A) A.sets i):=by
   refine ⟨E,bT.o,?_⟩;rintro ⟨i,el,dy⟩;have⟨v,hr,dw⟩:=Fa.1 dy;have aV:i∈I:=ZR cU.o el;have dK:v<n:=by have h:=hr.lt (by rw [O.o.pg.gr.bA];exact O.o.Mo i aV);rw [O.o.pg.gr.bA]at h;exact h
   have⟨u,hu,dL⟩:=Fj (E:=E) dK;have ej:oT E (λs x=>(IN x).testBit s=true) A.sets v:=by
    refine ⟨dw.1,λs hs=>?_⟩;have⟨x,d,t⟩:=dw.2 s hs;refine ⟨x,d,?_⟩;have H:x<n:=by have h:=d.1.lt (by rw [O.o.pg.gr.bA];exact dK);rw [O.o.pg.gr.bA]at h;exact h
    show(IN x).testBit s=true;rw [bi.o x H];exact t
   have bv:=(pX (S:=A.sets) O.o.pg.gr.bA dL).2 ej;exact hi.none u (ZR b7 (PY.2 ⟨P5.2 hu,bv⟩)) i aV v dL hr
  have eE:=O8 al;have cO:=O8 e1;have cP:=O8 e2;have dX:=O8 du;have cN:=O8 ds;have co:=O8 a4;clear ar a4 e1 e2 du ds hi b7 aP av k1 k2 hD;go_wp2;(try rw [al]);clear al;have ac:=bU wz D (.deferred none);have bA:=S1 (P:=prog) dX.o;have⟨wy,bD⟩:=EX (wz.putObj D (.deferred none));rw [bD]at ac bA;have y1:=(ac.block (q+1) (Pb.1 cO.o).1 (ZH co.o)).trans cO.o;have y2:=(ac.block (q+2) (Pb.1 cP.o).1 (ZH co.o)).trans cP.o;have eg:CA wy (q+1) 0 (SN):=CH y1;have eh:CA wy (q+1) 1 (SN):=CH y1;have ei:CA wy (q+2) 0 (.bool false):=CH y2;have bt:BW w wy:=cN.o.trans (ac.ag cN.o.size (λk hk e=>ZI co.o HQ.o));have cg:=O8 bt;clear dg dh di dR dS dT y1 y2 ac bt bD;refine ⟨ZS,.inl ⟨_,_,rfl,bA,?_⟩⟩;refine ⟨.tuple #[.agg #[SN,SN],.bool false],?_,cg.o,.inl ⟨rfl,cR.o⟩⟩;rw [oL rfl];go_simp
 case stop=>intro D W hD H aP;have⟨st,lp,sa,sl,sc,lb,ll,cJ,d,t,h3,h4,h5,h6,h7⟩:=H.ex;have a4:q+3<=D:=ZI cu.o cs.o;have ac:=bU W D (.deferred none);have bA:=S1 (P:=prog) aP;have⟨wy,bD⟩:=EX (W.putObj D (.deferred none));rw [bD]at ac bA;have cD:aj (λk=>True/\∃o,W.heap[k]? =some o/\o.isCells=false) W wy:=ac.mono (λk _ e=>by subst e;exact ⟨RW,_,aP,rfl⟩);have dj:=jT h3 cD;have dk:=jT h4 cD;have y1:=(ac.block (q+1) (Pb.1 d).1 ZO).trans d;have y2:=(ac.block (q+2) (Pb.1 t).1 ZO).trans t;have eg:CA wy (q+1) 0 (SL sa sl sc):=CH y1;have eh:CA wy (q+1) 1 (SL lb ll cJ):=CH y1;have ei:CA wy (q+2) 0 (.bool true):=CH y2;have bt:BW w wy:=H.aJ.trans (ac.ag H.aJ.size (λk hk e=>ZH HQ.o));have cg:=O8 bt;have ch:Hid (aG .u64 wy sa sl (aE st)/\aG .u64 wy lb ll (aE lp)/\0<ll/\sl+ll<=65536/\lY A (aU st lp)):=⟨dj,dk,h5,h6,h7⟩;clear H d t h3 h4 h5 h6 h7 ac cD dj dk y1 y2 bt bD a4 aP;(try simp only [Exit.inBlock,Exit.then]);refine ⟨ZS,.inl ⟨_,_,rfl,bA,?_⟩⟩;refine ⟨.tuple #[.agg #[SL sa sl sc,SL lb ll cJ],.bool true],?_,cg.o,.inr ⟨st,lp,sa,sl,sc,lb,ll,cJ,rfl,ch.o⟩⟩;rw [oL rfl];go_simp
end
end Go.Proofs.YtimniinkpipnmaaGreatDoor
