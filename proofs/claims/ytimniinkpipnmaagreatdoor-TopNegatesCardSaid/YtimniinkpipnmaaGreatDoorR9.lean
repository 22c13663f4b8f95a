/- A part of the proof of TopNegates. -/
import Derived.Test.YtimniinkpipnmaaGreatDoorR8
set_option maxRecDepth 100000
set_option maxHeartbeats 8000000
set_option linter.all false
namespace Go.Proofs.YtimniinkpipnmaaGreatDoor
open Go.RowKit Go.Own
section
structure EW (w8 w:WD) (g:Nat) (V:Nat->Value) (R:Nat) (C:Nat->List (Int×Int)):Prop where
 es:ES w8 w g V R C
 aM:BW w8 w
section
variable {w8 w w1:WD} {g:Nat} {V:Nat->Value} {R:Nat} {C:Nat->List (Int×Int)}
def EW.af(h:EW w8 w g V R C)(a:BW w w1):EW w8 w1 g V R C:=⟨h.es.af a,h.aM.trans (a.mono h.aM.size)⟩
def EW.facts{i d l:Nat}{j:OA}(h:EW w8 w g V R C)(m:i<R)(o:V i=.slice j d l)(r:(C i).length=d):w.cell? (AD g i)=some (.slice j d l)/\
 Hid (∀W,EW w8 W g V R C->W.ownsRow 0 66 2 (.slice j d l) d (bD (C i)))/\
 Hid (∀W a,EW w8 W g V R C->aj (λk=>(Value.slice j d l).ownBlock=some k) W a->a.frozen? (AD g i)=false/\a.cell? (AD g i)=some (.slice j d l)/\BW w8 a)/\
 Hid (∀W a q x,EW w8 W g V R C->a.ownsRow 0 66 2 q (d+1) (bD (C i++[x]))->aj (λk=>(Value.slice j d l).ownBlock=some k) W a->dC W (.slice j d l) q->
  EW w8 (a.setCell (AD g i) q) g (up V i q) R (up C i (C i++[x]))):=by
 have f:∀W a,EW w8 W g V R C->aj (λk=>(V i).ownBlock=some k) W a->BW w8 a:=λW a b c=>b.aM.trans (c.af b.aM.size (λk y e=>by have:=b.es.jZ i k m e;omega))
 refine ⟨by rw [(h.es.at i m).1,o],λW b=>?_,λW a b c=>?_,λW a q x b t c s=>?_⟩
 have:=b.es.row i m
 rwa [o,r]at this
 rw [<-o]at c
 have p:¬(V i).ownBlock=some g:=b.es.off i m
 obtain ⟨u,v⟩:=b.es.at i m
 exact ⟨(N7 (c.block g b.es.lt p)).trans v,by rw [<-o];exact c.aq u p,f W a b c⟩
 rw [<-o]at c s
 rw [<-r]at t
 exact ⟨b.es.dB m t c s b.aM.size,(f W a b c).setCell h.es.dJ _⟩
end
def oI(E:List (List Int))(z:Nat->Bool)(x k:Nat):List Int:=if z x=true then((E.getD x []).take k).filter λt=>z t.toNat else []
structure fM (E:List (List Int)) (z:Nat->Bool) (n x k:Nat) (C:Nat->List (Int×Int)):Prop where
 row:∀i,i<n->(C i).map Prod.fst=if i<x then oI E z i (E.getD i []).length else if i=x then oI E z x k else []
section
variable {E:List (List Int)} {z:Nat->Bool} {n x k:Nat} {C:Nat->List (Int×Int)}
def fM.aK(E:List (List Int))(z:Nat->Bool)(n:Nat):fM E z n 0 0 (λ_=>[]):=⟨λi a=>by rw [Of (by omega)];unfold oI;split<;>(try split)<;>rfl⟩
def yz(a:z x=true)(b:k<(E.getD x []).length){t:Nat}(c:(E.getD x []).getD k 0=(t:Int)):oI E z x (k+1)=oI E z x k++(if z t=true then [(t:Int)]else []):=by unfold oI;rw [Oa a,Oa a,nK _ k b,c,OL];congr 1;by_cases h:z t=true;rw [Oa h];simp [h];rw [Of h];simp [h]
def fM.dB(h:fM E z n x k C)(m:z x=true){t:Nat}{a:Int}(j:k<(E.getD x []).length)(l:(E.getD x []).getD k 0=(t:Int))(b:z t=true):fM E z n x (k+1) (up C x (C x++[((t:Int),a)])):=⟨λi f=>by
 have c:=h.row i f;by_cases e:i=x;subst e;have d:(C i).map Prod.fst=oI E z i k:=by rw [c,Of (OI i),Oa rfl]
 rw [aB,Oy,d,Of (OI i),Oa rfl,yz m j l,Oa b];rfl;rw [an _ _ _ _ e,c,Of e,Of e]⟩
def fM.skip(h:fM E z n x k C)(e:z x=true){t:Nat}(c:k<(E.getD x []).length)(d:(E.getD x []).getD k 0=(t:Int))(a:z t=false):fM E z n x (k+1) C:=⟨λi b=>by rw [h.row i b,yz e c d,Of (show¬z t=true by rw [a];decide),Om]⟩
def fM.next(h:fM E z n x k C)(a:z x=false\/k=(E.getD x []).length):fM E z n (x+1) 0 C:=⟨λi e=>by
 rw [h.row i e];have d:∀i,oI E z i 0=[]:=λi=>by unfold oI;split<;>rfl
 by_cases b:i<x;rw [Oa b,Oa (by omega)];rw [Of b];by_cases c:i=x;subst c;rw [Oa rfl,Oa (by omega)];rcases a with a|a;unfold oI;rw [Of (by rw [a];decide),Of (by rw [a];decide)];rw [a];rw [Of c,Of (by omega),d];split<;>rfl⟩
def fM.at(h:fM E z n n 0 C){i:Nat}(a:i<n):(vz C n).getD i []=oI E z i (E.getD i []).length:=by rw [jV C a,h.row i a,Oa a]
def wM{i:Nat}{y:Int}:y∈oI E z i (E.getD i []).length↔z i=true/\y∈E.getD i []/\z y.toNat=true:=by unfold oI;by_cases h:z i=true;rw [Oa h,Q0,Og];simp [h];rw [Of h];simp [h]
def fM.gS(h:fM E z n n 0 C)(f:E.length=n)(i j:Nat):gS (vz C n) i j↔kQ E (λx=>z x=true) i j:=by unfold kQ Own.gS;rw [fO,f];constructor;rintro ⟨b,c,a⟩;rw [h.at b,wM]at a;exact ⟨⟨b,c,a.2.1⟩,a.1,by have:=a.2.2;rwa [Qj]at this⟩;rintro ⟨⟨b,c,a⟩,d,e⟩;exact ⟨b,c,by rw [h.at b,wM];exact ⟨d,a,by rw [Qj];exact e⟩⟩
def fM.bC(h:fM E z n x k C){i:Nat}(c:i<n):(C i).length<=(E.getD i []).length:=by
 have a:=Pp List.length (h.row i c);rw [NU]at a;rw [a];have b:∀k,(oI E z i k).length<=(E.getD i []).length:=λk=>by unfold oI;split;exact N5 (OD _ _) (by rw [Pd];exact Nat.min_le_right _ _);exact NS _
 split;exact b _;split;rename_i e;subst e;exact b _;exact NS _
end
def p7(w:WD)(n:Nat)(E:List (List Int))(z:Nat->Bool)(e:Ending)(c:WD):Prop:=
 ∃b d a,e=RT (.agg #[SN,.slice b n d,SN])/\dS c b n a/\(∀i j,gS a i j↔kQ E (λx=>z x=true) i j)/\(∀i,i<n->(a.getD i []).length<=16777216)/\BW w c
def Bs(w:WD)(vi vl:Value)(ae:OA)(n ce:Nat)(E:List (List Int))(hg:dS w ae n E)(aW:∀i,i<n->(E.getD i []).length<=16777216)(za:OA)(zc:Nat)(z:Nat->Bool)(hz:dW w za n z):
 CL 54 #[.agg #[vi,.slice ae n ce,vl],.slice za n zc] w (p7 w n E z):=by
 obtain ⟨bf,aO,a1,aU,aL⟩:=Ol Tryz.qj
 obtain ⟨bg,aP,a2,aV,aM⟩:=Ol Tryz.zw
 obtain ⟨q,hq⟩:=EX w.heap.size
 obtain ⟨w1,N⟩:=EX ((w.alloc (.cells #[vi,.slice ae n ce,vl] 55)).alloc (.cells #[SN,SN,SN] 55))
 have X:BW w w1:=N▸aa (ag _ _) (ag _ _)
 have s1:w1.heap.size=q+1+1:=by rw [<-N,NG,NG,hq]
 have am:w1.heap[q]? =some (.cells #[vi,.slice ae n ce,vl] 55 (0,0)):=by rw [<-N,<-hq,(ND _ _).2 _ (by rw [NG];omega)];exact (ND w _).1
 have aN:w1.heap[q+1]? =some (.cells #[SN,SN,SN] 55 (0,0)):=by rw [<-N,<-hq,<-NG w (.cells #[vi,.slice ae n ce,vl] 55)];exact (ND _ _).1
 have T:Hid (∀p,BW w1 p->p.cell? (AD q 1)=some (.slice ae n ce)):=λp h=>by have h2:=(h.block q (Nu.1 am).1).trans am;rw [Nt h2];rfl
 have HG:=Nq hg
 have af:=Nq aW
 have a8:Hid (∀p,BW w1 p->dS p ae n E):=λp hb=>hg.af (aa X hb)
 have HZ:Hid (∀p,BW w1 p->dW p za n z):=λp hb=>hz.af (aa X hb)
 have a3:=Nq X
 have a4:=Nq aN
 have HQ:=Nq hq
 have aE:=Nq s1
 have hn:=hg.pJ
 have e1:=T.o w1 (Nx _ _)
 clear hg hz aW X am aN s1
 go_enter Tryz.func54,Tryz.ntmps54
 go_upto_region 3 with(at_make;refine bJ rfl _ _ 53 rfl 64 bf (SN) 1 Rb aO a1 aU _ _ _ _ n rfl rfl rfl rfl (by rw [aL];omega) (by unfold maxLen;omega) ?_;rintro w3 rfl hs;have aD:=Nq hs;clear hs)
 obtain ⟨w2,Z⟩:=EX (w1.alloc (.cells (madeCells #[SN] n) 64))
 have ac:Hid (EW w1 w2 w1.heap.size (λ_=>SN) n (λ_=>[])):=by
  have h3:w1.alloc (.cells (madeCells (SN).cells (n*1)) 64)=w2:=by rw [<-Z,PZ];rfl
  have Q:=aD.o;rw [h3]at Q;exact ⟨ES.aK Q (Nz _),Z▸ag _ _⟩
 rw [Z]
 obtain ⟨g,ao⟩:=EX w1.heap.size
 rw [ao]at ac⊢
 have bi:=Nq ao
 clear aD Z N hq e1 ao
 go_loopw [6] (λv wr=>∃(x:Nat)(V:Nat->Value)(C:Nat->List (Int×Int)),x<=n/\v=IV x/\Hid (EW w1 wr g V n C)/\Hid (fM E z n x 0 C)) (λv _=>n-(intOf v).toNat)
 exact ⟨0,_,_,NS _,rfl,ac,Nq (fM.aK E z n)⟩
 clear ac
 obtain ⟨x,V,C,hx,rfl,hw,F⟩:=hrel
 have e1:=T.o wr hw.o.aM
 by_cases A:x<n
 ·have aX:(x:Int)<(n:Int):=by omega
  obtain ⟨b,O,ai,ci,rfl,cr,an⟩:=(a8.o w1 (Nx _ _)).bG.at x (by rw [HG.o.bC];exact A);obtain ⟨zb,zo,rfl,-⟩:=HZ.o w1 (Nx _ _);have aF:Hid (∀p,BW w1 p->∀i,i<n->CA p zb (zo+i) (.bool (z i))):=λp hb i H=>by obtain ⟨bo,bp,e,h⟩:=HZ.o p hb;cases e;exact h i H
  obtain ⟨P,B⟩:=EX (E.getD x []);obtain ⟨d,hd⟩:=EX P.length;have r:=Nq B;have HD:=Nq hd;rw [B,hd]at cr;rw [B]at an;have HK:Hid (∀p,BW w1 p->CA p b (O+x) (.slice ai d ci)/\Scc.mH p ai P):=λp hb=>⟨(hb.cell (Nr _ _ cr)).trans cr,Scc.mH.af (w:=w1) an hb⟩;have bj:d<=16777216:=by have:=af.o x A;rw [B,hd]at this;exact this
  clear cr an B hd;go_upto_region 5 with(fail);clear e1;go_wp2;go_loopw [7] (λv wr=>∃(k:Nat)(V:Nat->Value)(C:Nat->List (Int×Int)),k<=d/\v=IV k/\Hid (EW w1 wr g V n C)/\Hid (fM E z n x k C)) (λv _=>d-(intOf v).toNat);exact ⟨0,V,C,NS _,rfl,hw,F⟩;clear hw F;obtain ⟨k,V,C,hk,rfl,hw,F⟩:=hrel;have e1:=T.o wr hw.o.aM;have aJ:=(HK.o wr hw.o.aM).1;have cz:=aF.o wr hw.o.aM x A;by_cases L:k<d
  ·have aR:(k:Int)<(d:Int):=by omega
   cases D:z x
   ·rw [D]at cz;have I:Hid (fM E z n (x+1) 0 C):=F.o.next (.inl D)
    clear F D;go_wp2;go_roundw;exact ⟨x+1,_,_,by omega,by go_num,hw,I⟩;simp [intOf];omega
   ·rw [D]at cz;obtain ⟨b',f,rfl,ck,m,aj⟩:=(HK.o wr hw.o.aM).2 k (by rw [HD.o];exact L)
    obtain ⟨zt,G⟩:=EX (P.getD k 0);rw [G]at ck;have aw:zt∈E.getD x []:=by rw [r.o,<-G,Nw,Ny (by rw [HD.o];exact L)];exact OR _
    obtain ⟨aZ,a0⟩:=HG.o.inr x A zt aw;obtain ⟨t,rfl⟩:∃t:Nat,zt=(t:Int):=⟨zt.toNat,by omega⟩;have ht:t<n:=by omega
    have bm:(t:Int)<(n:Int):=by omega
    have ct:=aF.o wr hw.o.aM t ht;cases u:z t
    ·rw [u]at ct;have I:Hid (fM E z n x (k+1) C):=F.o.skip D (by rw [r.o,HD.o];exact L) (by rw [r.o];exact G) u
     clear F D G aw aZ a0 u;go_wp2;go_roundw;exact ⟨k+1,_,_,by omega,by go_num,hw,I⟩;simp [intOf];omega
    ·rw [u]at ct;have a9:Hid (fM E z n x (k+1) (up C x (C x++[((t:Int),m)]))):=F.o.dB D (by rw [r.o,HD.o];exact L) (by rw [r.o];exact G) u
     have ad:Hid ((C x).length<=4000000000000):=by have Q:=F.o.bC A;have h2:=af.o x A;show _<=_;omega
     have aB:Hid (∀W,BW w1 W->CA W b' (f+k*2) (IV t)/\CA W b' (f+k*2+1) (IV m)):=λW hW=>by
      obtain ⟨b2,o2,e,Q,aG,h2⟩:=(HK.o w1 (Nx _ _)).2 k (by rw [HD.o];exact L);cases e
      rw [G]at Q;have e2:aG=m:=by have h3:=(hw.o.aM.cell (Nr w1 _ h2)).trans h2;rw [aj]at h3;cases h3;rfl
      subst e2;exact ⟨(hW.cell (Nr w1 _ Q)).trans Q,(hW.cell (Nr w1 _ h2)).trans h2⟩
     clear F D G aw aZ a0 u;go_upto_region 9 with(fail);clear ct;obtain ⟨ar,lr,cr,hv⟩:=gL (hw.o.es.row x A);obtain ⟨ax,M⟩:=EX ((C x).length);obtain rfl:lr=ax:=by have Q:=hw.o.es.row x A;rw [hv]at Q;obtain ⟨_,_,e⟩:=bw Q;rw [M]at e;exact (On e).2.1
     obtain ⟨q2,bc,a7,bb⟩:=hw.o.facts A hv M;rw [M]at ad;have bh:=ad.o;have aC:=Nq M;have bd:=hw;clear hv M ad hw cz;have hS:=And.intro q2 (And.intro e1 (And.intro aJ (And.intro ck aj)));have ab:Hid (∀W,BW w1 W->(CA W q 1 (.slice (some (AD b O)) n ce)/\CA W b (O+x) (.slice (some (AD b' f)) d ci))):=λW hW=>⟨T.o W hW,(HK.o W hW).1⟩;refine av 17 (S:=λW=>CA W g x (.slice ar lr cr)/\CA W q 1 (.slice (some (AD b O)) n ce)/\CA W b (O+x) (.slice (some (AD b' f)) d ci)/\CA W b' (f+k*2) (IV t)/\CA W b' (f+k*2+1) (IV m)) (by kernel_rfl) (hS) (λak=>?_);refine' az 0 ?_;refine' az 1 ?_;refine' az 2 ?_;refine' az 3 ?_;refine' az 4 ?_;refine' az 5 ?_;refine' az 6 ?_;refine' az 7 ?_;refine' az 8 ?_;refine' az 9 ?_;refine' az 10 ?_;refine' az 11 ?_;refine' az 12 ?_;refine' az 13 ?_;have aA:Hid (BW wr (wr.alloc (.cells #[IV t,IV m] 66)).drew):=((Nx _ _).alloc (Nz _) _).drew;have c5:(wr.alloc (.cells #[IV t,IV m] 66)).drew.cell? (AD wr.heap.size 0)=some (IV t):=OK (w:=wr) _ 66 wr.heap.size 0 rfl;have ah:(wr.alloc (.cells #[IV t,IV m] 66)).drew.cell? (AD wr.heap.size 1)=some (IV m):=OK (w:=wr) _ 66 wr.heap.size 1 rfl;have kc:∀{g j:Nat}{v:Value},CA wr g j v->(wr.alloc (.cells #[IV t,IV m] 66)).drew.cell? (AD g j)=some v:=λh=>(aA.o.cell (Nr _ _ h)).trans h;have aK:=And.intro (kc hS.1) (And.intro (kc hS.2.1) (And.intro (kc hS.2.2.1) (And.intro (kc hS.2.2.2.1) (kc hS.2.2.2.2))));have U:=Nq (bd.o.af aA.o);refine aI 14 λK J=>?_;go_simp;refine J.o _ _ (λ_=>aK) ?_;clear J K;try walk_nrm
     clear ak q2 e1 aJ ck aj hS kc;have a5:Hid (∀W,BW w1 W->CA W b' (f+k*2) (IV t)/\CA W b' (f+k*2+1) (IV m)):=aB.o;generalize (wr.alloc (.cells #[IV t,IV m] 66)).drew=bn at *;generalize wr.heap.size=h5 at c5 ah⊢;refine aI 15 λK J=>?_;rw [Oa (by rfl)];apply aY.o;refine oF (.tmp 52) (.tmp 61) rfl bg _ aP a2 aV aM rfl (.slice ar lr cr) lr (C x) aC.o rfl (bc.o _ U.o) h5 ((t:Int),m) rfl c5 ah (by omega) (λv6 w6 aq ap aT=>?_);obtain ⟨f6,q2,Y⟩:=a7.o _ _ U.o ap;have ba:=Nq (bb.o _ _ _ _ U.o aq ap aT);obtain ⟨a6,l6,c6,e6⟩:∃a l c,v6=.slice a l c:=gL aq;have al:=And.intro q2 (And.intro (ab.o w6 Y).1 (And.intro (ab.o w6 Y).2 (a5.o w6 Y)));clear aq aT ap c5 ah U aK Y;subst e6;refine J.o _ _ (λ_=>al) ?_;clear J K;try walk_nrm
     refine aI 16 λK J=>?_;go_simp;refine J.o _ _ (λ_=>al) ?_;clear J K;try walk_nrm
     clear al;refine aI 17 λK J=>?_;go_simp;refine J.o _ _ (λe=>nomatch e) ?_;clear J K;try walk_nrm
     refine ay (by kernel_rfl) ?_;go_wp2;go_roundw;exact ⟨k+1,_,_,by omega,by go_num,ba,a9⟩;simp [intOf];omega
  ·obtain rfl:k=d:=by omega
   have aR:¬(k:Int)<(k:Int):=by omega
   have I:Hid (fM E z n (x+1) 0 C):=F.o.next (.inr (by rw [r.o,HD.o]));clear F;go_wp2;go_roundw;exact ⟨x+1,_,_,by omega,by go_num,hw,I⟩;simp [intOf];omega
 ·obtain rfl:x=n:=by omega
  have aX:¬(x:Int)<(x:Int):=by omega
  have o:HC wr (q+1) #[SN,SN,SN] 55:=(hw.o.aM.block _ (by have:=aE.o;omega)).trans a4.o;have c0:CA wr (q+1) 0 (SN):=CH o;have c1:CA wr (q+1) 1 (SN):=CH o;have aH:CA wr (q+1) 2 (SN):=CH o;have z0:FZ wr (q+1) 0:=NA o 0;have z1:FZ wr (q+1) 1:=NA o 1;have z2:FZ wr (q+1) 2:=NA o 2;clear o;go_wp2;(try simp only [Exit.inBlock,Exit.then]);obtain ⟨w9,au⟩:=EX (((wr.setCell (AD (q+1) 0) (SN)).setCell (AD (q+1) 1) (SV g x x)).setCell (AD (q+1) 2) (SN));rw [au];obtain ⟨d0,d1,d2,aQ⟩:=bQ c0 c1 aH w9 au.symm;clear au c0 c1 aH z0 z1 z2;refine OS (v:=.agg #[SN,SV g x x,SN]) ?_ rfl ?_
  ·rw [cP rfl];go_simp
  ·have bk:w1.heap.size<=g:=hw.o.es.dJ;have bl:=aE.o
   have be:=hw.o.es.aA aQ (λe=>by omega) (λi b H e s=>by have:=hw.o.es.jZ i b H e;omega);have aS:∀i,i<x->((vz C x).getD i []).length<=16777216:=λi H=>by rw [jV C H,NU];exact N5 (F.o.bC H) (af.o i H)
   refine ⟨_,_,vz C x,rfl,⟨fO C x,be.eB,λi H y hy=>?_,λi H=>?_,hn⟩,F.o.gS HG.o.bC,aS,?_⟩
   ·rw [F.o.at H,wM]at hy;exact HG.o.inr i H y hy.2.1
   ·rw [fO]at H;have:=aS i H
    omega
   ·have hB:=aa a3.o hw.o.aM;exact hB.trans (aQ.af hB.size (λk hk e=>by have:=HQ.o;omega))
end
def yy(w:WD)(c d:Value)(a:OA)(n b:Nat)(i:Nat)(h:i<n):
 CL 156 #[.agg #[c,.slice a n b,d],IV i] w λe g=>e=RT (.bool true)/\g=w.alloc (.cells #[c,.slice a n b,d] 55):=by
 have f:(i:Int)<(n:Int):=by omega
 go_enter Tryz.func156,Tryz.ntmps156
 go_wp2
 go_ret
 exact ⟨rfl,rfl⟩
def CZ(w:WD)(M N:Value)(A:OA)(n B:Nat)(F:OA)(W:Nat)(r:Nat->Bool)(Q:dW w F n r)(hn:n<=65536):
 CL 125 #[.agg #[M,.slice A n B,N],.slice F n W] w (oU w ((List.range n).filter r)):=by
 obtain ⟨Z,I,L,K,H⟩:=Ol Tryz.ed
 obtain ⟨e,l⟩:=EX (w.alloc (.cells #[M,.slice A n B,N] 55))
 have i:BW w e:=l▸ag _ _
 have g:=bp w #[M,.slice A n B,N] 55
 rw [l]at g
 have f:=(g 1 _ rfl).1
 obtain ⟨q,Y⟩:=EX w.heap.size
 rw [Y]at f
 have S:Hid (∀p,BW e p->CA p q 1 (.slice A n B)):=λp G=>(G.cell (Nr e _ f)).trans f
 have U:Hid (∀p,BW e p->dW p F n r):=λp G=>Q.af (aa i G)
 have C:=Nq i
 clear Q g i
 go_enter Tryz.func125,Tryz.ntmps125
 go_upto_region 3 with(fail)
 clear l
 go_loopw [5,6] (λo v wr=>∃(k:Nat)(a:OA)(m c:Nat),k<=n/\o=.slice a m c/\v=IV k/\m<=k/\Hid (aE .i64 3 e wr (.slice a m c) (aH ((List.range k).filter r)))) (λ_ v _=>n-(intOf v).toNat)
 exact ⟨0,none,0,0,NS _,rfl,rfl,Nz _,Nq (iZ _ _ _)⟩
 clear f
 obtain ⟨k,a,m,c,hk,rfl,rfl,X,u⟩:=hrel
 have f:=S.o wr u.o.2.1
 by_cases J:k<n
 ·have t:(k:Int)<(n:Int):=by omega
  obtain ⟨b,ab,rfl,P⟩:=U.o wr u.o.2.1;have O:=P k J;have d:(List.range (k+1)).filter r=(List.range k).filter r++(if r k then [k]else []):=by rw [OZ,OL];cases h:r k<;>simp [h]
  have z:=Nq u.o;clear P u;cases y:r k
  ·rw [y]at O d;have D:Hid ((List.range (k+1)).filter r=(List.range k).filter r):=by rw [d];exact Nq (Om _)
   clear d;go_wp2;go_roundw;exact ⟨k+1,_,m,_,by omega,rfl,by go_num,by omega,by rw [D.o];exact z⟩;simp [intOf];omega
  ·rw [y]at O d;have D:Hid (aH ((List.range (k+1)).filter r)=aH ((List.range k).filter r)++[(k:Int)]):=by rw [d,je];exact Nq rfl
   have j:=eV z.o;have T:Hid (Sl wr 3 (.slice a m c) m ((aH ((List.range k).filter r)).map (Value.int .i64))):=by have:=z.o.1;rw [j]at this;exact this
   have E:=Nq j;clear d j;go_wp2_with (at_builtin;refine ax rfl (.tmp 24) (.tmp 26) 33 rfl 3 Z (IV 0) 8 OE I L K H rfl (by decide) (.slice a m c) _ _ rfl T.o _ rfl rfl (by omega) ?_;intro g1 f w5 R s x;have V:=Nq (dA z.o E.o R s x);clear R s x);go_roundw;exact ⟨k+1,_,m+1,f,by omega,rfl,by go_num,by omega,by rw [D.o];exact V⟩;simp [intOf];omega
 ·obtain rfl:k=n:=by omega
  have t:¬(k:Int)<(k:Int):=by omega
  go_wp2;go_ret;exact ⟨_,_,_,rfl,iJ C.o u.o⟩
def yq{w:WD}{o:Oper}{a:Act}{K:Act->WD->Prop}{Q:Exit->Act->WD->Prop}(s x:Operand)(t e:TypeId)
 (d:o.op=.call {callee:=.builtin .append,args:=#[s,x],argTypes:=#[t,t]}) (j:Tryz.prog.underlying t=some (.slice e)) (i:TypeInfo) (c:Tryz.prog.info? e=some i)
 (b:Addr) (g:a.eval s=.slice (some b) 0 0) (k:a.eval x=SN) (h:K (a.put o.dst (.slice (some b) 0 0)) w):aY Tryz.prog o a w K Q:=by
 constructor
 have f:(Builtin.append_ #[t,t] o.type #[.slice (some b) 0 0,SN]).run Tryz.prog w=.ok (.slice (some b) 0 0) w:=by simp [Builtin.append_,RV j,sizeOf,typeInfo,c,storeCells,Builtin.lenOf,Builtin.firstCells]
 unfold Oper.wp execOp
 simp only [d,resolve,invoke,builtin,P8,Qt,Po,PE,NQ,NZ,g,k,f]
 exact h
def FV(w:WD)(Q:OA)(n R:Nat)(E:List (List Int))(hg:dS w Q n E)(bB:∀i,i<n->(E.getD i []).length<=16777216):
 CL 124 #[.agg #[SN,.slice Q n R,SN]] w (tS w n E):=by
 obtain ⟨i3,bX,-,-,-⟩:=Ol Tryz.ed
 obtain ⟨b0,bo,-,-,-⟩:=Ol Tryz.vO
 obtain ⟨b1,bq,bD,bz,bj⟩:=Ol Tryz.qj
 obtain ⟨b2,br,bE,bA,bk⟩:=Ol Tryz.zw
 obtain ⟨q,hq⟩:=EX w.heap.size
 obtain ⟨A,P⟩:=EX ((w.alloc (.cells #[SN,.slice Q n R,SN] 55)).alloc (.cells #[SN,SN,SN] 55))
 have aK:Below w.heap.size w A:=P▸aa (ag _ _) (ag _ _)
 have s1:A.heap.size=q+1+1:=by rw [<-P,NG,NG,hq]
 have aM:A.heap[q]? =some (.cells #[SN,.slice Q n R,SN] 55 (0,0)):=by rw [<-P,<-hq,(ND _ _).2 _ (by rw [NG];omega)];exact (ND w _).1
 have bm:A.heap[q+1]? =some (.cells #[SN,SN,SN] 55 (0,0)):=by rw [<-P,<-hq,<-NG w (.cells #[SN,.slice Q n R,SN] 55)];exact (ND _ _).1
 have X:Hid (∀f,Below A.heap.size A f->CA f q 0 (SN)/\CA f q 1 (.slice Q n R)/\CA f q 2 (SN)):=λf h=>by have h2:=(h.block q (Nu.1 aM).1).trans aM;exact ⟨CH h2,CH h2,CH h2⟩
 have HG:=Nq hg
 have bf:=Nq bB
 have bM:Hid (∀f,Below A.heap.size A f->dS f Q n E):=λf hb=>hg.af (aa aK hb)
 have bI:=Nq aK
 have bK:=Nq bm
 have HQ:=Nq hq
 have aF:=Nq s1
 have hn:=hg.pJ
 have bN:Hid (∀(f:WD)(t:Nat),t<n->CL 156 #[.agg #[SN,.slice Q n R,SN],IV t] f λe a5=>e=RT (.bool true)/\a5=f.alloc (.cells #[SN,.slice Q n R,SN] 55)):=λf t ht=>yy f _ _ Q n R t ht
 clear hg bB aK aM bm s1
 go_enter Tryz.func124,Tryz.ntmps124
 go_upto_region 1 with(fail)
 (try rw [P])
 (try rw [hq])
 clear P hq
 obtain ⟨e0,e1,e2⟩:=X.o A (Nx _ _)
 have bd:Hid (∀W',Below A.drew.heap.size A.drew W'->CA W' q 0 (SN)/\CA W' q 1 (.slice Q n R)/\CA W' q 2 (SN)):=λf hb=>X.o f ((Nx _ A).drew.trans hb)
 refine av 10 (S:=λW'=>CA W' q 0 (SN)/\CA W' q 1 (.slice Q n R)/\CA W' q 2 (SN)) (by kernel_rfl) (⟨e0,e1,e2⟩) (λJ=>?_)
 refine' az 1 ?_
 refine' az 2 ?_
 refine' az 5 ?_
 refine' az 6 ?_
 clear J e0 e1 e2
 refine cA [0,3,4,7,8,9] (λi=>if i=0 then 8 else if i=3 then 11 else if i=4 then 12 else if i=7 then 15 else if i=8 then 16 else 3) #[true,true,true,true,true,true,true,true,true,true,false] 1
  (λi u w=>match i with|0=>∃a,u=.slice (some a) 0 0|3=>∃a,u=.slice (some a) 0 0|4=>∃a,u=.slice (some a) 0 0|7=>∃a,u=.slice (some a) 0 0|8=>∃a a2,u=.agg #[.slice (some a) 0 0,SN,.slice (some a2) 0 0]|_=>∃b,u=PT b/\A.heap.size<=b/\HC w b #[SN,SN,SN] 55) (by kernel_rfl) (by kernel_rfl) rfl (by decide) ?st1 ?st2 (by decide) ?st3 ?st4
 case st1=>
  intro i u B w5 hu hb;split at hu
  ·exact hu
  ·exact hu
  ·exact hu
  ·exact hu
  ·exact hu
  ·obtain ⟨b,e,h1,h⟩:=hu;exact ⟨b,e,h1,(hb.block b (Nu.1 h).1).trans h⟩
 case st2=>exact bd.o
 case st3=>
  rintro l V f i o hl b8 T U hr hJ K j;simp only [N8,O5,QD]at T;rcases T with rfl|rfl|rfl|rfl|rfl|rfl
  ·simp only [NT,NN,NO,N0]at U;subst U
   refine bT (v:=SV f.heap.size 0 0) (w':=f.alloc (.cells #[] 3)) ?_ (j _ _ ((Nx _ _).alloc (Nz _) _) ⟨_,rfl⟩);clear j;simp only [NQ,NZ,aP,Act.put,reduceIte,Nat.reduceEqDiff,NB,NR,NM];go_simp
  ·simp only [NT,NN,NO,N0]at U;subst U
   obtain ⟨ad,e0⟩:∃a,V 8=.slice (some a) 0 0:=hJ.mS 0 (by decide) (aU (l:=[0]) (by kernel_rfl) hr 0 (by simp));refine yq (.tmp 8) (.tmp 10) 33 3 rfl OE i3 bX ad ?_ ?_ (j _ _ (Nx _ _) ⟨_,rfl⟩)
   ·clear j;rw [<-e0]
    simp only [NQ,NZ,aP,Act.put,reduceIte,Nat.reduceEqDiff,NB,NR,NM];rfl
   ·clear j;simp only [NQ,NZ,aP,Act.put,reduceIte,Nat.reduceEqDiff,NB,NR,NM]
    rfl
  ·simp only [NT,NN,NO,N0]at U;subst U
   refine bT (v:=SV f.heap.size 0 0) (w':=f.alloc (.cells #[] 45)) ?_ (j _ _ ((Nx _ _).alloc (Nz _) _) ⟨_,rfl⟩);clear j;simp only [NQ,NZ,aP,Act.put,reduceIte,Nat.reduceEqDiff,NB,NR,NM];go_simp
  ·simp only [NT,NN,NO,N0]at U;subst U
   obtain ⟨ad,e0⟩:∃a,V 12=.slice (some a) 0 0:=hJ.mS 4 (by decide) (aU (l:=[4]) (by kernel_rfl) hr 4 (by simp));refine yq (.tmp 12) (.tmp 14) 23 45 rfl PC b0 bo ad ?_ ?_ (j _ _ (Nx _ _) ⟨_,rfl⟩)
   ·clear j;rw [<-e0]
    simp only [NQ,NZ,aP,Act.put,reduceIte,Nat.reduceEqDiff,NB,NR,NM];rfl
   ·clear j;simp only [NQ,NZ,aP,Act.put,reduceIte,Nat.reduceEqDiff,NB,NR,NM]
    rfl
  ·simp only [NT,NN,NO,N0]at U;subst U
   obtain ⟨a,e3⟩:∃a,V 11=.slice (some a) 0 0:=hJ.mS 3 (by decide) (aU (l:=[3]) (by kernel_rfl) hr 3 (by simp));obtain ⟨a2,e7⟩:∃a,V 15=.slice (some a) 0 0:=hJ.mS 7 (by decide) (aU (l:=[7]) (by kernel_rfl) hr 7 (by simp));refine bT (v:=.agg #[.slice (some a) 0 0,SN,.slice (some a2) 0 0]) (w':=f) ?_ (j _ _ (Nx _ _) ⟨a,a2,rfl⟩);clear j;simp only [NQ,NZ,aP,Act.put,reduceIte,Nat.reduceEqDiff,NB,NR,NM];rw [e3,e7];go_simp
  ·simp only [NT,NN,NO,N0]at U;subst U
   refine bT (v:=PT f.heap.size) (w':=f.alloc (.cells #[SN,SN,SN] 55)) ?_ (j _ _ ((Nx _ _).alloc (Nz _) _) ⟨_,rfl,hJ.aM.size,(ND f _).1⟩);clear j;simp only [NQ,NZ,aP,Act.put,reduceIte,Nat.reduceEqDiff,NB,NR,NM];go_simp
 case st4=>
  intro V f bl hV;simp only [NQ,NZ,aP,Act.put,reduceIte,Nat.reduceEqDiff,NB,NR,NM];obtain ⟨xa,H,aH⟩:=hV 8 (by decide);obtain ⟨r,aJ,N,m⟩:=hV 9 (by decide);change V 16=_ at aH;change V 3=_ at aJ;rw [aH,aJ];generalize V 8=v8;generalize V 11=cg;generalize V 12=ch;generalize V 15=cj;have Z:Below A.heap.size A f:=(Nx _ _).drew.trans bl;have c0:CA f r 0 (SN):=CH m;have c1:CA f r 1 (SN):=CH m;have Y:CA f r 2 (SN):=CH m;have z0:FZ f r 0:=NA m 0;have z1:FZ f r 1:=NA m 1;have z2:FZ f r 2:=NA m 2;refine aI 10 λK j=>?_;go_simp;refine j.o _ _ (λe=>nomatch e) ?_;clear j K;try walk_nrm
  refine ay (by kernel_rfl) ?_;obtain ⟨B,aw⟩:=EX (((f.setCell (AD r 0) (.slice (some xa) 0 0)).setCell (AD r 1) (SN)).setCell (AD r 2) (.slice (some H) 0 0));rw [aw];obtain ⟨d0,d1,d2,bs⟩:=bQ c0 c1 Y B aw.symm;have aL:Below A.heap.size A B:=Z.trans (bs.af Z.size λk hk e=>by omega);have aO:B.heap[r]? =some (.cells #[.slice (some xa) 0 0,SN,.slice (some H) 0 0] 55 (0,0)):=by rw [<-aw];simp [HC,World.setCell,Ow,m]
  have aD:=Nq aO;have a8:=Nq N;have am:=Nq aL;obtain ⟨-,f1,-⟩:=X.o B aL;clear aH aJ N m Z c0 c1 Y z0 z1 z2 aw bl hV bd d0 d1 d2 bs aL aO;go_upto_region 4 with(at_make;refine bJ rfl _ _ 53 rfl 64 b1 (SN) 1 Rb bq bD bz _ _ _ _ n rfl rfl rfl rfl (by rw [bj];omega) (by unfold maxLen;omega) ?_;rintro w5 rfl hs;have bb:=Nq hs;clear hs);obtain ⟨w5,ax⟩:=EX (B.alloc (.cells (madeCells #[SN] n) 64));have aC:Hid (EW B w5 B.heap.size (λ_=>SN) n (λ_=>[])):=by
   have h3:B.alloc (.cells (madeCells (SN).cells (n*1)) 64)=w5:=by rw [<-ax,PZ];rfl
   have h1:=bb.o;rw [h3]at h1;exact ⟨ES.aK h1 (Nz _),ax▸ag _ _⟩
  rw [ax];obtain ⟨g,aQ⟩:=EX B.heap.size;rw [aQ]at aC⊢;have b5:=Nq aQ;clear bb ax f1 aQ;go_loopw [5] (λv wr=>∃(x:Nat)(V:Nat->Value)(C:Nat->List (Int×Int)),x<=n/\v=IV x/\Hid (EW B wr g V n C)/\Hid (gA E n x 0 C)) (λv _=>n-(intOf v).toNat);exact ⟨0,_,_,NS _,rfl,aC,Nq (gA.aK E n)⟩;clear aC;obtain ⟨x,V,C,hx,rfl,hw,hp⟩:=hrel;have F:Below A.heap.size A wr:=aa am.o hw.o.aM;obtain ⟨f0,f1,f2⟩:=X.o wr F;by_cases aB:x<n
  ·have bC:(x:Int)<(n:Int):=by omega
   obtain ⟨b,a1,ai,ci,rfl,cr,aN⟩:=(bM.o B am.o).bG.at x (by(try unfold BW);rw [HG.o.bC];exact aB);obtain ⟨al,G⟩:=EX (E.getD x []);obtain ⟨d,hd⟩:=EX al.length;have M:=Nq G;have HD:=Nq hd;rw [G,hd]at cr;rw [G]at aN;have HK:Hid (∀f,Below B.heap.size B f->CA f b (a1+x) (.slice ai d ci)/\Scc.mH f ai al):=λf hb=>⟨(hb.cell (Nr _ _ cr)).trans cr,Scc.mH.af (w:=B) aN hb⟩;have b9:d<=16777216:=by have:=bf.o x aB;rw [G,hd]at this;exact this
   have aG:=(HK.o wr hw.o.aM).1;clear cr aN G hd F;go_upto_region 6 with(fail);clear aG f0 f1 f2;go_wp2;go_loopw [6] (λv wr=>∃(k:Nat)(V:Nat->Value)(C:Nat->List (Int×Int)),k<=d/\v=IV k/\Hid (EW B wr g V n C)/\Hid (gA E n x k C)) (λv _=>d-(intOf v).toNat);exact ⟨0,V,C,NS _,rfl,hw,hp⟩;clear hw hp;obtain ⟨k,V,C,hk,rfl,hw,hp⟩:=hrel;obtain ⟨f0,f1,f2⟩:=X.o wr (aa am.o hw.o.aM);have aG:=(HK.o wr hw.o.aM).1;by_cases aR:k<d
   ·have bu:(k:Int)<(d:Int):=by omega
    obtain ⟨b',b4,rfl,ck,y,bV⟩:=(HK.o wr hw.o.aM).2 k (by(try unfold BW);rw [HD.o];exact aR);obtain ⟨zt,hz⟩:=EX (al.getD k 0);rw [hz]at ck;have bF:zt∈E.getD x []:=by rw [M.o,<-hz,Nw,Ny (by(try unfold BW);rw [HD.o];exact aR)];exact OR _
    obtain ⟨bY,bZ⟩:=HG.o.inr x aB zt bF;obtain ⟨t,rfl⟩:∃t:Nat,zt=(t:Int):=⟨zt.toNat,by omega⟩;have ht:t<n:=by omega
    have cf:(t:Int)<(n:Int):=by omega
    have bO:Hid (gA E n x (k+1) (up C t (C t++[((x:Int),y)]))):=hp.o.dB (by rw [M.o,HD.o];exact aR) (by(try unfold BW);rw [M.o];exact hz);have aE:Hid ((C t).length<=4000000000000):=by have:=hp.o.bC t ht;show _<=_;omega
    obtain ⟨qe,bx⟩:=EX wr.heap.size;obtain ⟨wq,aZ⟩:=EX (wr.alloc (.cells #[IV t,IV y] 66));have ab:Below wr.heap.size wr wq:=aZ▸ag _ _;have ap:=bp wr #[IV t,IV y] 66;rw [aZ,bx]at ap;have q3:=(ap 0 _ rfl).1;have q4:=(ap 1 _ rfl).1;obtain ⟨D,aX⟩:=EX (wq.alloc (.cells #[SN,.slice (some (AD b a1)) n R,SN] 55));have aq:Below wq.heap.size wq D:=aX▸ag _ _;have ac:=aa ab aq;have ao:=Nq (hw.o.af ac);have r3:=(aq.cell (Nr _ _ q3)).trans q3;have r4:=(aq.cell (Nr _ _ q4)).trans q4;have be:Hid (∀i,i<n->(V i).ownBlock≠some qe):=λi T e=>by have:=dj (hw.o.es.row i T) _ e;omega
    have bc:Hid (CL 156 #[.agg #[SN,.slice (some (AD b a1)) n R,SN],IV t] wq λe a5=>e=RT (.bool true)/\a5=D):=by rw [<-aX];exact bN.o wq t ht
    have b7:=Nq ac.size;have k0:=(ab.cell (Nr _ _ f0)).trans f0;have k1:=(ab.cell (Nr _ _ f1)).trans f1;have k2:=(ab.cell (Nr _ _ f2)).trans f2;clear hz bF bY bZ ap ab aq ac aX hp hw;go_upto_region 11 with(go_at_call 156;refine bc.o.mono ?_;rintro e D ⟨rfl,rfl⟩);clear aZ bx f0 f1 f2 k0 k1 k2 q3 q4 ck bV aG;obtain ⟨ar,lr,cr,hv⟩:=gL (ao.o.es.row t ht);obtain ⟨a0,ah⟩:=EX ((C t).length);obtain rfl:lr=a0:=by have h1:=ao.o.es.row t ht;rw [hv]at h1;obtain ⟨_,_,e⟩:=bw h1;rw [ah]at e;exact (On e).2.1
    obtain ⟨q2,bU,bL,bS⟩:=ao.o.facts ht hv ah;have bg:Hid (¬(Value.slice ar lr cr).ownBlock=some qe):=λe=>be.o t ht (by(try unfold BW);rw [hv];exact e);rw [ah]at aE;have b3:=aE.o;have ba:=Nq ah;clear hv ah be aE;refine av 15 (S:=λf=>CA f g t (.slice ar lr cr)/\CA f qe 0 (IV t)/\CA f qe 1 (IV y)) (by kernel_rfl) (⟨q2,r3,r4⟩) (λJ=>?_);refine' az 0 ?_;refine' az 1 ?_;refine' az 2 ?_;refine' az 3 ?_;refine' az 4 ?_;refine' az 5 ?_;refine' az 6 ?_;refine' az 7 ?_;refine' az 8 ?_;refine' az 9 ?_;refine' az 10 ?_;refine' az 11 ?_;have W:Hid (Below D.heap.size D ((D).alloc (.cells #[IV x,IV y] 66)).drew):=((Nx _ _).alloc (Nz _) _).drew;have c5:((D).alloc (.cells #[IV x,IV y] 66)).drew.cell? (AD D.heap.size 0)=some (IV x):=OK (w:=D) _ 66 D.heap.size 0 rfl;have bh:((D).alloc (.cells #[IV x,IV y] 66)).drew.cell? (AD D.heap.size 1)=some (IV y):=OK (w:=D) _ 66 D.heap.size 1 rfl;have bH:=(W.o.cell (Nr _ _ q2)).trans q2;have a3:=(W.o.cell (Nr _ _ r3)).trans r3;have a4:=(W.o.cell (Nr _ _ r4)).trans r4;have an:=Nq (ao.o.af W.o);refine aI 12 λK j=>?_;go_simp;refine j.o _ _ (λ_=>⟨bH,a3,a4⟩) ?_;clear j K;try walk_nrm
    clear J q2 r3 r4 W;generalize ((D).alloc (.cells #[IV x,IV y] 66)).drew=cl at *;(try unfold BW at *);generalize D.heap.size=h5 at *;refine aI 13 λK j=>?_;rw [Oa (by rfl)];apply aY.o;refine oF (.tmp 57) (.tmp 62) rfl b2 _ br bE bA bk rfl (.slice ar lr cr) lr (C t) ba.o rfl (bU.o _ an.o) h5 ((x:Int),y) rfl c5 bh (by omega) (λv6 w6 aV af bv=>?_);obtain ⟨f6,q2,cc⟩:=bL.o _ _ an.o af;have r3:=af.aq a3 (λe=>bg.o e);have r4:=af.aq a4 (λe=>bg.o e);have bP:=Nq (bS.o _ _ _ _ an.o aV af bv);obtain ⟨a6,l6,c6,e6⟩:∃a l c,v6=.slice a l c:=gL aV;clear aV bv af bH a3 a4 c5 bh an;subst e6;refine j.o _ _ (λ_=>⟨q2,r3,r4⟩) ?_;clear j K;try walk_nrm
    refine aI 14 λK j=>?_;go_simp;refine j.o _ _ (λ_=>⟨q2,r3,r4⟩) ?_;clear j K;try walk_nrm
    refine aI 15 λK j=>?_;go_simp;refine j.o _ _ (λe=>nomatch e) ?_;clear j K;try walk_nrm
    refine ay (by kernel_rfl) ?_;go_wp2;go_roundw;exact ⟨k+1,_,_,by omega,by go_num,bP,bO⟩;simp [intOf];omega
   ·obtain rfl:k=d:=by omega
    have bu:¬(k:Int)<(k:Int):=by omega
    have bR:Hid (gA E n (x+1) 0 C):=by have h1:=hp.o;rw [<-HD.o,<-M.o]at h1;exact h1.next (bf.o x aB)
    clear hp;go_wp2;go_roundw;exact ⟨x+1,_,_,by omega,by go_num,hw,bR⟩;simp [intOf];omega
  ·obtain rfl:x=n:=by omega
   have bC:¬(x:Int)<(x:Int):=by omega
   have O:HC wr r #[.slice (some xa) 0 0,SN,.slice (some H) 0 0] 55:=(hw.o.aM.block r (Nu.1 aD.o).1).trans aD.o;have o0:CA wr r 0 (.slice (some xa) 0 0):=CH O;have o1:CA wr r 1 (SN):=CH O;have o2:CA wr r 2 (.slice (some H) 0 0):=CH O;have oz:FZ wr r 1:=NA O 1;have ak:HC wr (q+1) #[SN,SN,SN] 55:=(F.block _ (by have:=aF.o;omega)).trans bK.o;have aT:q+1≠r:=by have:=aF.o;have:=a8.o;omega
   obtain ⟨I,aA⟩:=EX (wr.setCell (AD r 1) (SV g x x));have aS:aj (λk=>k=r) wr I:=by rw [<-aA];exact (aj.refl (λk=>k=r) wr).setCell (p:=(AD r 1)) (λ_=>rfl) _
   have au:I.heap[r]? =some (.cells #[.slice (some xa) 0 0,SV g x x,.slice (some H) 0 0] 55 (0,0)):=by rw [<-aA];simp [HC,World.setCell,Ow,O]
   have L:HC I (q+1) #[SN,SN,SN] 55:=(aS.block _ (Nu.1 ak).1 aT).trans ak;have m0:CA I r 0 (.slice (some xa) 0 0):=CH au;have m1:CA I r 1 (SV g x x):=CH au;have m2:CA I r 2 (.slice (some H) 0 0):=CH au;have c0:CA I (q+1) 0 (SN):=CH L;have c1:CA I (q+1) 1 (SN):=CH L;have Y:CA I (q+1) 2 (SN):=CH L;have z0:FZ I (q+1) 0:=NA L 0;have z1:FZ I (q+1) 1:=NA L 1;have z2:FZ I (q+1) 2:=NA L 2;have a9:=Nq aS;have b6:=Nq aT;have a7:=Nq F;clear ak O au L aS aT F;go_upto_region 13 with(fail);(try rw [aA]);clear aA o0 o1 o2 oz;go_wp2;(try simp only [Exit.inBlock,Exit.then]);obtain ⟨w9,aW⟩:=EX (((I.setCell (AD (q+1) 0) (.slice (some xa) 0 0)).setCell (AD (q+1) 1) (SV g x x)).setCell (AD (q+1) 2) (.slice (some H) 0 0));rw [aW];obtain ⟨d0,d1,d2,bt⟩:=bQ c0 c1 Y w9 aW.symm;clear aW c0 c1 Y z0 z1 z2 m0 m1 m2;refine OS (v:=.agg #[.slice (some xa) 0 0,SV g x x,.slice (some H) 0 0]) ?_ rfl ?_
   ·rw [cP rfl];go_simp
   ·have cb:B.heap.size<=g:=hw.o.es.dJ;have cd:=aF.o
    have ca:=a8.o;have aO:=(Nu.1 aD.o).1;have bn:=hw.o.es.aA a9.o (λe=>by omega) (λi b T e s=>by have:=hw.o.es.jZ i b T e;omega);have bW:=bn.aA bt (λe=>by omega) (λi b T e s=>by have:=hw.o.es.jZ i b T e;have:=am.o.size;omega);refine ⟨_,_,_,_,vz C x,rfl,⟨fO C x,bW.eB,hp.o.inr,λi T=>?_,hn⟩,hp.o.gS HG.o.bC,?_⟩
    ·rw [fO]at T;rw [jV C T,NU]
     have:=hp.o.bC i T;omega
    ·have hB:=aa bI.o a7.o;have bi:Below w.heap.size w I:=hB.trans (a9.o.af hB.size (λk hk e=>by have:=HQ.o;omega))
     exact bi.trans (bt.af bi.size (λk hk e=>by have:=HQ.o;omega))
section
structure GL (E:List (List Int)) (n:Nat) (F:List Nat) (aX:Nat->Bool) (op:List Nat):Prop where
 iff:∀x,aX x=true↔x∈op
 lt:∀x∈op,x<n
 cO:op.length+gD n aX<=n
 M8:∀x∈op,∃f∈F,Own.br E f x
section
variable {E:List (List Int)} {n:Nat} {F:List Nat} {seen:Nat->Bool} {op:List Nat}
def GL.aK(E:List (List Int))(n:Nat)(F:List Nat):GL E n F (λ_=>false) []:=
 ⟨λx=>⟨λh=>(by cases h),λh=>(by cases h)⟩,λx h=>(by cases h),by have:=List.countP_le_length (p:=λx=>!(λ_:Nat=>false) x) (l:=List.range n);rw [OQ]at this;unfold gD;rw [PA];omega,λx h=>(by cases h)⟩
def GL.dB(h:GL E n F seen op){t:Nat}(b:t<n)(d:seen t=false)(c:∃f∈F,Own.br E f t):GL E n F (up seen t true) (op++[t]):=by refine ⟨λx=>?_,λx a=>?_,?_,λx a=>?_⟩;rw [NY,Nv];by_cases e:x=t;subst e;rw [aB];exact ⟨λ_=>.inr rfl,λ_=>rfl⟩;rw [an _ _ _ _ e,h.iff];exact ⟨.inl,λh=>h.resolve_right e⟩;rcases NY.1 a with a|a;exact h.lt x a;rw [Nv.1 a];exact b;have g:=nL b d;have i:=h.cO;rw [NH,Oz];omega;rcases NY.1 a with a|a;exact h.M8 x a;rw [Nv.1 a];exact c
def kO(E:List (List Int))(seen:Nat->Bool)(op:List Nat)(a:Nat):Prop:=∀j,j<a->∀x,op[j]? =some x->∀y,Own.gS E x y->seen y=true
def kO.dB{a t:Nat}(h:kO E seen op a)(f:a<=op.length):kO E (up seen t true) (op++[t]) a:=λj c x b y d=>by rw [NP (by omega)]at b;by_cases e:y=t;subst e;exact aB _ _ _;rw [an _ _ _ _ e];exact h j c x b y d
def GL.fin(h:GL E n F seen op)(hF:∀f∈F,seen f=true)(g:kO E seen op op.length):∀x,x<n->(seen x=true↔∃f∈F,Own.br E f x):=λx m=>by refine ⟨λl=>h.M8 x ((h.iff x).1 l),λ⟨f,i,k⟩=>?_⟩;refine k.closed (S:=λy=>seen y=true) (λa b e c=>?_) (hF f i);obtain ⟨j,d⟩:=Pg ((h.iff a).1 e);exact g j (NK.1 d).1 a d b c
end
def qS(seen:Nat->Bool)(a:List Int)(k:Nat):Prop:=∀j,j<k->∀t:Nat,a.getD j 0=(t:Int)->seen t=true
def qS.up{seen:Nat->Bool}{a:List Int}{k t:Nat}(h:qS seen a k)(f:a.getD k 0=(t:Int)):qS (up seen t true) a (k+1):=λj g d b=>by
 by_cases e:d=t;subst e;exact aB _ _ _;rw [an _ _ _ _ e];refine h j ?_ d b;rcases O8 j k with c|c;exact c;have:j=k:=by omega
 subst this;rw [f]at b;exact absurd (by omega) e
def qS.next{seen:Nat->Bool}{a:List Int}{k t:Nat}(h:qS seen a k)(f:a.getD k 0=(t:Int))(e:seen t=true):qS seen a (k+1):=λj g d b=>by
 rcases O8 j k with c|c;exact h j c d b;have:j=k:=by omega
 subst this;rw [f]at b;have:t=d:=by omega
 exact this▸e
def kO.next{E:List (List Int)}{seen:Nat->Bool}{op:List Nat}{a x:Nat}(h:kO E seen op a)(i:op[a]? =some x)(g:qS seen (E.getD x []) (E.getD x []).length):kO E seen op (a+1):=λj m l b y f=>by
 rcases O8 j a with d|d;exact h j d l b y f;have:j=a:=by omega
 subst this;rw [i]at b;cases b;obtain ⟨k,e⟩:=Pg f.2.2;have c:=(NK.1 e).1;exact g k c y (by rw [Nw,e];rfl)
structure xj (w1 wr:WD) (ob n:Nat) (aX:Nat->Bool) (v:Value) (op:List Nat):Prop where
 aM:BW w1 wr
 Ea:w1.heap.size<=ob
 o:Sl wr 4 (SV ob n n) n (bA n aX)
 BQ:Sl wr 3 v op.length ((aH op).map (Value.int .i64))
 lo:∀b,v.ownBlock=some b->ob<b
section
variable {w1 wr wa wb wc:WD} {ob n:Nat} {seen:Nat->Bool} {v v':Value} {op:List Nat}
def xj.af(h:xj w1 wr ob n seen v op)(a:BW wr wa):xj w1 wa ob n seen v op:=
 ⟨h.aM.trans (a.mono h.aM.size),h.Ea,h.o.aA (aj.aF a) (λg e s=>by have:=h.o.lt g e;omega),h.BQ.aA (aj.aF a) (λg e s=>by have:=h.BQ.lt g e;omega),h.lo⟩
def xj.cell(h:xj w1 wr ob n seen v op){i:Nat}(a:i<n):CA wr ob i (.bool (seen i))/\FZ wr ob i:=⟨(mg h.o a true).2.1,(mg h.o a true).2.2⟩
def xj.mark(h:xj w1 wr ob n seen v op){t:Nat}(b:t<n):xj w1 (wr.setCell (AD ob t) (.bool true)) ob n (up seen t true) v op:=by have a:aj (λk=>k=ob) wr (wr.setCell (AD ob t) (.bool true)):=(aj.refl (λk=>k=ob) wr).setCell (p:=(AD ob t)) (λ_=>rfl) _;exact ⟨h.aM.trans (a.af h.aM.size λk a e=>by have:=h.Ea;omega),h.Ea,(mg h.o b true).1,h.BQ.aA a (λg e s=>by have:=h.lo g e;omega),h.lo⟩
def xj.dB(h:xj w1 wr ob n seen v op){t:Nat}(f:BW wr wa)(j:Sl wb 3 v' (op.length+1) ((aH op).map (Value.int .i64)++[IV t]))(d:aj (λk=>v.ownBlock=some k) wa wb)(i:dC wa v v'):xj w1 wb ob n seen v' (op++[t]):=by have a:=h.af f;refine ⟨a.aM.trans (d.af a.aM.size λk d e=>by have:=h.lo k e;have:=h.Ea;omega),h.Ea,a.o.aA d (λg e s=>by cases e;exact OI _ (h.lo _ s)),?_,λb e=>?_⟩;rw [NH,je,Oy];exact j;rcases i with c|⟨l,c,m⟩;exact h.lo b (by rw [<-c];exact e);rw [c]at e;cases e;have:=a.o.lt ob rfl;omega
def xj.KX(h:xj w1 wr ob n seen v op){t g c:Nat}(d:Sl wb 3 (SV g (op.length+1) c) (op.length+1) ((aH op).map (Value.int .i64)++[IV t]))(a:aj (λk=>v.ownBlock=some k) wr wb)(b:v.ownBlock=some g\/wr.heap.size<=g):xj w1 wb ob n seen (SV g (op.length+1) c) (op++[t]):=
 h.dB (Nx _ _) d a (b.imp (λe=>by rw [e];rfl) (λe=>⟨g,rfl,e⟩))
def xj.opAt(h:xj w1 wr ob n seen v op){j x:Nat}(d:op[j]? =some x):∃g c,v=SV g op.length c/\wr.cell? (AD g j)=some (IV x):=by have b:=(NK.1 d).1;obtain ⟨a,c,rfl,f⟩:=h.BQ.shape;obtain ⟨g,rfl,-,e⟩:=f j b;refine ⟨g,c,rfl,?_⟩;rw [e,Oh];unfold aH;rw [Oh,d];rfl
end
def C5(w:WD)(vi vl:Value)(ae:OA)(n ce:Nat)(E:List (List Int))(B:dS w ae n E)(fa:OA)(fl fc:Nat)(F:List Nat)(hf:aG .i64 w fa fl (aH F))(hF:∀f∈F,f<n)(bM:fl<=1000000000):
 CL 123 #[.agg #[vi,.slice ae n ce,vl],.slice fa fl fc] w (iQ E F n w):=by
 obtain ⟨i3,a8,bf,be,a6⟩:=Ol Tryz.ed
 obtain ⟨i4,br,bz,bv,bq⟩:=Ol Scc.Tryz.nV
 obtain ⟨q,hq⟩:=EX w.heap.size
 obtain ⟨w1,aQ⟩:=EX (w.alloc (.cells #[vi,.slice ae n ce,vl] 55))
 have am:BW w w1:=aQ▸ag _ _
 have Z:=bp w #[vi,.slice ae n ce,vl] 55
 rw [aQ,hq]at Z
 have a0:=(Z 0 _ rfl).1
 have a1:=(Z 1 _ rfl).1
 have a2:=(Z 2 _ rfl).1
 have aw:Hid (∀u:WD,BW w1 u->CA u q 0 vi/\CA u q 1 (.slice ae n ce)/\CA u q 2 vl):=λu T=>⟨(T.cell (Nr w1 _ a0)).trans a0,(T.cell (Nr w1 _ a1)).trans a1,(T.cell (Nr w1 _ a2)).trans a2⟩
 have HG:=Nq B
 have aV:Hid (∀u:WD,BW w1 u->aG .i64 u fa fl (aH F)):=λu T=>hf.af (aa am T)
 have al:Hid (F.length=fl):=by have:=hf.1;rw [aC]at this;exact this
 have HF:=Nq hF
 have bj:Hid (∀u:WD,BW w1 u->dS u ae n E):=λu T=>B.af (aa am T)
 have aS:=Nq am
 have hn:=B.pJ
 have aZ:Hid (∀(u:WD)(t:Nat),t<n->CL 156 #[.agg #[vi,.slice ae n ce,vl],IV t] u λe bh=>e=RT (.bool true)/\BW u bh):=λu t ht=>by refine (yy u vi vl ae n ce t ht).mono ?_;rintro e bh ⟨rfl,rfl⟩;exact ⟨rfl,ag _ _⟩
 clear B hf hF am Z
 go_enter Tryz.func123,Tryz.ntmps123
 go_upto_region 4 with(at_make;refine bJ rfl _ _ 67 rfl 4 i4 (.bool false) 1 P0 br bz bv _ _ _ _ n rfl rfl rfl rfl (by rw [bq];omega) (by unfold maxLen;omega) ?_;rintro w5 rfl hs;have aW:=Nq hs;clear hs)
 obtain ⟨w2,ao⟩:=EX (w1.alloc (.cells (madeCells #[Value.bool false] n) 4))
 have aD:Hid (xj w1 w2 w1.heap.size n (λ_=>false) (SN) []):=by
  have h1:w1.alloc (.cells (madeCells (Value.bool false).cells (n*1)) 4)=w2:=by rw [<-ao,PZ];rfl
  have h2:=aW.o;rw [h1,bZ (.bool false) rfl n,<-Scc.fH]at h2;exact ⟨ao▸ag _ _,Nz _,h2,Ox _ _ _ _,λb e=>by cases e⟩
 rw [ao]
 obtain ⟨ob,bc⟩:=EX w1.heap.size
 rw [bc]at aD⊢
 clear aW ao aQ hq bc a0 a1 a2
 go_loopw [6,7] (λo v wr=>∃(i:Nat)(seen:Nat->Bool)(op:List Nat),i<=fl/\v=IV i/\Hid (xj w1 wr ob n seen o op)/\Hid (GL E n F seen op)/\Hid (∀f∈F.take i,seen f=true)) (λ_ v _=>fl-(intOf v).toNat)
 exact ⟨0,_,_,NS _,rfl,aD,Nq (GL.aK E n F),Nq (λf h=>by cases h)⟩
 clear aD
 obtain ⟨i,seen,op,hi,rfl,l,r,s⟩:=hrel
 by_cases ad:i<fl
 ·have a9:(i:Int)<(fl:Int):=by omega
  obtain ⟨-,h0|⟨fb,fo,rfl,a7⟩⟩:=aV.o wr l.o.aM
  ·omega
  obtain ⟨f,ac⟩:∃f,F[i]? =some f:=⟨_,Ny (by rw [al.o];exact ad)⟩;have cf:CA wr fb (fo+i) (IV f):=by have:=a7 i ad;rw [cH (by rw [al.o];exact ad),Nw,ac]at this;exact this
  have aO:=NI ac;have O:=HF.o f aO;have bC:(f:Int)<(n:Int):=by omega
  obtain ⟨M,-⟩:=l.o.cell O;obtain ⟨b0,b1,b2⟩:=aw.o wr l.o.aM;have HN:=Nq (aZ.o wr.drew f O);have a4:Hid (F.take (i+1)=F.take i++[f]):=by rw [OG,ac];exact Nq rfl
  have bi:=Nq aO;have I:=And.intro b0 (And.intro b1 (And.intro b2 (And.intro cf M)));have aU:Hid (∀u:WD,BW w1 u->CA u fb (fo+i) (IV f)):=λu T=>by
   obtain ⟨-,h0|⟨bI,bK,e,hc⟩⟩:=aV.o u T
   ·omega
   ·cases e
    have:=hc i ad;rw [cH (by rw [al.o];exact ad),Nw,ac]at this;exact this
  clear a7 ac aO;go_upto_region 6 with(fail);refine av 15 (S:=λW=>CA W q 0 vi/\CA W q 1 (.slice ae n ce)/\CA W q 2 vl/\CA W fb (fo+i) (IV f)/\CA W ob f (.bool (seen f))) (by kernel_rfl) (I) (λH=>?_);refine' az 0 ?_ [6,5,0];refine' az 1 ?_ [6,5,4,3,1];refine' az 2 ?_ [6,5,4,3,2];refine' az 3 ?_ [6,5,4,3];refine' az 4 ?_ [6,5,4];clear H b0 b1 b2 cf M;refine aI 5 λK N=>?_;rw [Oa (by rfl)];apply aY.o;refine aN (f:=156) HN.o ?_ (λe w5 J=>?_)
  ·clear N;go_simp
  obtain ⟨rfl,ab⟩:=J;refine ⟨_,rfl,?_⟩;have A:BW wr w5:=(Nx _ wr).drew.trans ab;have Q:∀{g j:Nat}{v:Value},CA wr g j v->CA w5 g j v:=λh=>(A.cell (Nr wr _ h)).trans h;have Y:=And.intro (Q I.1) (And.intro (Q I.2.1) (And.intro (Q I.2.2.1) (And.intro (Q I.2.2.2.1) (Q I.2.2.2.2))));have z:=Nq (l.o.af A);clear ab A Q I;refine N.o _ _ (λ_=>Y) ?_;clear N K;try walk_nrm
  refine' az 6 ?_;refine' az 7 ?_ [14,13,12,7];refine' az 8 ?_ [14,13,12,11,10,8];refine' az 9 ?_ [14,13,12,11,10,9];refine' az 10 ?_ [14,13,12,11,10];refine' az 11 ?_ [14,13,12,11];refine' az 12 ?_ [14,13,12];refine' az 13 ?_ [14,13];refine' az 14 ?_;clear Y;refine aI 15 λK N=>?_;go_simp;refine N.o _ _ (λe=>nomatch e) ?_;clear N K;try walk_nrm
  refine ay (by kernel_rfl) ?_;clear l;have M:=(z.o.cell O).1;have fz:=(z.o.cell O).2;have cf:=aU.o w5 z.o.aM;cases y:seen f
  ·rw [y]at M;have D:=Nq (z.o.mark O)
   have V:=Nq (r.o.dB O y ⟨f,bi.o,Own.br.refl E f⟩);have X:Hid (∀g∈F.take (i+1),up seen f true g=true):=λg B=>by
    rw [a4.o]at B;by_cases e:g=f
    ·subst e;exact aB _ _ _
    ·rw [an _ _ _ _ e];rcases NY.1 B with B|B
     ·exact s.o g B
     ·exact absurd (Nv.1 B) e
   clear r s y;go_upto_region 8 with(fail);clear M fz;have cf:=aU.o _ D.o.aM;generalize w5.setCell (AD ob f) (.bool true)=w6 at *;have G:=Nq D.o.BQ;obtain ⟨oa,oc,aj⟩:∃a c,u6=.slice a op.length c:=by obtain ⟨a,c,e,-⟩:=G.o.shape;exact ⟨a,c,e⟩
   subst aj;have U:Hid (op.length<=65536):=by have:=V.o.cO;rw [NH]at this;show _<=_;omega
   obtain ⟨m,P⟩:=EX op.length;have aF:=Nq P;rw [P]at G U;have bs:=U.o;rw [P];clear P;go_wp2_with (at_builtin;refine ax rfl (.tmp 43) (.tmp 48) 33 rfl 3 i3 (IV 0) 8 OE a8 bf be a6 rfl (by decide) (.slice oa m oc) _ _ rfl G.o _ rfl rfl (by omega) ?_;intro g1 c1 w7 hs af ah;have HS:=Nq hs;have aE:=Nq af;have aJ:=Nq ah;clear hs af ah);have aK:Hid (xj w1 w7 ob n (up seen f true) (SV g1 (m+1) c1) (op++[f])):=by have h1:=D.o.KX (t:=f) (wb:=w7) (g:=g1) (c:=c1);rw [aF.o]at h1;exact h1 HS.o aE.o aJ.o
   go_roundw;exact ⟨i+1,_,_,by omega,by go_num,aK,V,X⟩;simp [intOf];omega
  ·rw [y]at M;have X:Hid (∀g∈F.take (i+1),seen g=true):=λg B=>by
    rw [a4.o]at B;rcases NY.1 B with B|B
    ·exact s.o g B
    ·rw [Nv.1 B];exact y
   clear s y;go_wp2;go_roundw;exact ⟨i+1,_,_,by omega,by go_num,z,r,X⟩;simp [intOf];omega
 ·obtain rfl:i=fl:=by omega
  have a9:¬(i:Int)<(i:Int):=by omega
  have a3:Hid (∀f∈F,seen f=true):=λf hf=>s.o f (by rw [Oe (by rw [al.o];exact Nz _)];exact hf);clear s;obtain ⟨bO,bQ,bd⟩:∃a c,u6=.slice a op.length c:=by obtain ⟨a,c,e,-⟩:=l.o.BQ.shape;exact ⟨a,c,e⟩
  subst bd;go_wp2;go_loopw [6,8] (λo v wr=>∃(j:Nat)(seen:Nat->Bool)(op:List Nat),j<=op.length/\v=IV j/\Hid (xj w1 wr ob n seen o op)/\Hid (GL E n F seen op)/\Hid (kO E seen op j)/\Hid (∀f∈F,seen f=true)) (λ_ v _=>n-(intOf v).toNat);exact ⟨0,seen,op,NS _,rfl,l,r,Nq (λj hj=>by omega),a3⟩;clear l r a3;obtain ⟨j,seen,op,hj,rfl,l,r,C,s⟩:=hrel;obtain ⟨oa,oc,aj⟩:∃a c,u6=.slice a op.length c:=by obtain ⟨a,c,e,-⟩:=l.o.BQ.shape;exact ⟨a,c,e⟩
  subst aj;have bu:op.length<=n:=by have:=r.o.cO;omega
  by_cases ba:j<op.length
  ·have ar:(j:Int)<(op.length:Int):=by omega
   obtain ⟨x,L⟩:∃x,op[j]? =some x:=⟨_,Ny ba⟩;have ap:=r.o.lt x (NI L);have bF:(x:Int)<(n:Int):=by omega
   obtain ⟨og,bP,bt,cx⟩:=l.o.opAt L;cases bt
   obtain ⟨b,bg,ai,ci,rfl,cr,aM⟩:=(bj.o w1 (Nx _ _)).bG.at x (by rw [HG.o.bC];exact ap);obtain ⟨R,p⟩:=EX (E.getD x []);obtain ⟨d,hd⟩:=EX R.length;have aq:=Nq p;have HD:=Nq hd;rw [p,hd]at cr;rw [p]at aM;have HK:Hid (∀u,BW w1 u->CA u b (bg+x) (.slice ai d ci)/\Scc.mH u ai R):=λu T=>⟨(T.cell (Nr _ _ cr)).trans cr,Scc.mH.af (w:=w1) aM T⟩;have bL:d<=4000000000000:=by have:=HG.o.short x (by rw [HG.o.bC];exact ap);rw [p,hd]at this;exact this
   have bo:=(HK.o wr l.o.aM).1;have b1:=(aw.o wr l.o.aM).2.1;have HX:=Nq L;obtain ⟨m,P⟩:=EX op.length;have aF:=Nq P;rw [P]at ba ar bu⊢;clear cr aM p hd L P hj;go_upto_region 12 with(fail);go_quiet (fail);clear bo b1 cx;go_wp2;go_loopw [6,10] (λo v wr=>∃(k:Nat)(seen:Nat->Bool)(op:List Nat),k<=d/\v=IV k/\Hid (xj w1 wr ob n seen o op)/\Hid (GL E n F seen op)/\Hid (kO E seen op j)/\Hid (∀f∈F,seen f=true)/\Hid (op[j]? =some x)/\Hid (qS seen R k)) (λ_ v _=>d-(intOf v).toNat);exact ⟨0,seen,op,NS _,rfl,by have h:=l;rw [aF.o]at h;exact Nq (h.o.af (Scc.below_drewN _ _)),r,C,s,HX,Nq (λj hj=>by omega)⟩;clear l r C s;obtain ⟨k,seen,op,hk,rfl,l,r,C,s,L,p⟩:=hrel;by_cases aP:k<d
   ·have bb:(k:Int)<(d:Int):=by omega
    obtain ⟨b',au,rfl,ck,bH,bn⟩:=(HK.o wr l.o.aM).2 k (by rw [HD.o];exact aP);obtain ⟨zt,ak⟩:=EX (R.getD k 0);rw [ak]at ck;have aR:zt∈E.getD x []:=by rw [aq.o,<-ak,Nw,Ny (by rw [HD.o];exact aP)];exact OR _
    obtain ⟨bw,bx⟩:=HG.o.inr x ap zt aR;obtain ⟨t,rfl⟩:∃t:Nat,zt=(t:Int):=⟨zt.toNat,by omega⟩;have ht:t<n:=by omega
    have bN:(t:Int)<(n:Int):=by omega
    have aT:Hid (∀W,BW w1 W->CA W b' (au+k*2) (IV t)):=λW hW=>by
     obtain ⟨b2,o2,e,h1,-⟩:=(HK.o W hW).2 k (by rw [HD.o];exact aP);cases e
     rw [ak]at h1;exact h1
    have a5:=Nq ak;have bm:=Nq aR;obtain ⟨M,-⟩:=l.o.cell ht;obtain ⟨b0,b1,b2⟩:=aw.o wr l.o.aM;have HN:=Nq (aZ.o wr.drew t ht);have I:=And.intro b0 (And.intro b1 (And.intro b2 (And.intro ck M)));clear ak aR bw bx bn;go_upto_region 16 with(fail);refine av 17 (S:=λW=>CA W q 0 vi/\CA W q 1 (.slice (some (AD b bg)) n ce)/\CA W q 2 vl/\CA W b' (au+k*2) (IV t)/\CA W ob t (.bool (seen t))) (by kernel_rfl) (I) (λH=>?_);refine' az 0 ?_ [7,6,0];refine' az 1 ?_ [7,6,5,4,3,1];refine' az 2 ?_ [7,6,5,4,3,2];refine' az 3 ?_ [7,6,5,4,3];refine' az 4 ?_ [7,6,5,4];refine' az 5 ?_ [7,6,5];clear H b0 b1 b2 ck M;refine aI 6 λK N=>?_;rw [Oa (by rfl)];apply aY.o;refine aN (f:=156) HN.o ?_ (λe w5 J=>?_)
    ·clear N;go_simp
    obtain ⟨rfl,ab⟩:=J;refine ⟨_,rfl,?_⟩;have A:BW wr w5:=(Nx _ wr).drew.trans ab;have Q:∀{g j:Nat}{v:Value},CA wr g j v->CA w5 g j v:=λh=>(A.cell (Nr wr _ h)).trans h;have Y:=And.intro (Q I.1) (And.intro (Q I.2.1) (And.intro (Q I.2.2.1) (And.intro (Q I.2.2.2.1) (Q I.2.2.2.2))));have z:=Nq (l.o.af A);clear ab A Q I;refine N.o _ _ (λ_=>Y) ?_;clear N K;try walk_nrm
    refine' az 7 ?_;refine' az 8 ?_ [16,15,14,8];refine' az 9 ?_ [16,15,14,13,12,11,9];refine' az 10 ?_ [16,15,14,13,12,11,10];refine' az 11 ?_ [16,15,14,13,12,11];refine' az 12 ?_ [16,15,14,13,12];refine' az 13 ?_ [16,15,14,13];refine' az 14 ?_ [16,15,14];refine' az 15 ?_ [16,15];refine' az 16 ?_;clear Y;refine aI 17 λK N=>?_;go_simp;refine N.o _ _ (λe=>nomatch e) ?_;clear N K;try walk_nrm
    refine ay (by kernel_rfl) ?_;clear l;have M:=(z.o.cell ht).1;have fz:=(z.o.cell ht).2;have ck:=aT.o w5 z.o.aM;cases y:seen t
    ·rw [y]at M;have D:=Nq (z.o.mark ht)
     have V:=Nq (r.o.dB ht y (by obtain ⟨f,hf,hr⟩:=r.o.M8 x (NI L.o);exact ⟨f,hf,hr.trans (Own.br.zn ⟨by rw [HG.o.bC];exact ap,by rw [HG.o.bC];exact ht,bm.o⟩)⟩))
     have aA:=Nq (C.o.dB (t:=t) (Sg (NK.1 L.o).1));have X:Hid (∀g∈F,up seen t true g=true):=λg B=>by
      by_cases e:g=t
      ·subst e;exact aB _ _ _
      ·rw [an _ _ _ _ e];exact s.o g B
     have bl:Hid ((op++[t])[j]? =some x):=by rw [NP (NK.1 L.o).1];exact L
     have aL:=Nq (p.o.up a5.o);clear r s y C L p;go_upto_region 18 with(fail);clear M fz;have ck:=aT.o _ D.o.aM;generalize w5.setCell (AD ob t) (.bool true)=w6 at *;have G:=Nq D.o.BQ;obtain ⟨bA,bB,aj⟩:∃a c,u6=.slice a op.length c:=by obtain ⟨a,c,e,-⟩:=G.o.shape;exact ⟨a,c,e⟩
     subst aj;have U:Hid (op.length<=65536):=by have:=V.o.cO;rw [NH]at this;show _<=_;omega
     obtain ⟨m6,P⟩:=EX op.length;have bk:=Nq P;rw [P]at G U;have bs:=U.o;rw [P];clear P;go_wp2_with (at_builtin;refine ax rfl (.tmp 95) (.tmp 101) 33 rfl 3 i3 (IV 0) 8 OE a8 bf be a6 rfl (by decide) (.slice bA m6 bB) _ _ rfl G.o _ rfl rfl (by omega) ?_;intro g1 c1 w7 hs af ah;have HS:=Nq hs;have aE:=Nq af;have aJ:=Nq ah;clear hs af ah);have aK:Hid (xj w1 w7 ob n (up seen t true) (SV g1 (m6+1) c1) (op++[t])):=by have h1:=D.o.KX (t:=t) (wb:=w7) (g:=g1) (c:=c1);rw [bk.o]at h1;exact h1 HS.o aE.o aJ.o
     go_roundw;exact ⟨k+1,_,_,by omega,by go_num,aK,V,aA,X,bl,aL⟩;simp [intOf];omega
    ·rw [y]at M;have aL:=Nq (p.o.next a5.o y)
     clear y p;go_wp2;go_roundw;exact ⟨k+1,_,_,by omega,by go_num,z,r,C,s,L,aL⟩;simp [intOf];omega
   ·obtain rfl:k=d:=by omega
    have bb:¬(k:Int)<(k:Int):=by omega
    have aA:Hid (kO E seen op (j+1)):=C.o.next L.o (by rw [aq.o,HD.o];exact p.o);have bD:=(NK.1 L.o).1;have bE:op.length<=n:=by have:=r.o.cO;omega
    clear p L C;go_wp2;go_roundw;exact ⟨j+1,_,_,by omega,by go_num,l,r,aA,s⟩;simp [intOf];omega
  ·obtain rfl:j=op.length:=by omega
   have ar:¬(op.length:Int)<(op.length:Int):=by omega
   go_wp2;go_ret;exact ⟨_,seen,rfl,⟨ob,rfl,l.o.o,aa aS.o l.o.aM,by have:=aS.o.size;have:=l.o.Ea;omega⟩,r.o.fin s.o C.o⟩
end
section
def FR(w:WD)(l:OA)(n o:Nat)(E:List (List Int))(hg:dS w l n E)(V:∀i,i<n->(E.getD i []).length<=16777216)(Z:OA)(gc:Nat)(r:Nat->Bool)(B:dW w Z n r):
 CL 86 #[.agg #[SN,.slice l n o,SN],.slice Z n gc] w (yU E n r w):=by
 obtain ⟨q,hq⟩:=EX w.heap.size
 obtain ⟨w1,p⟩:=EX (w.alloc (.cells #[SN,.slice l n o,SN] 55))
 have M:BW w w1:=p▸ag _ _
 have h:=bp w #[SN,.slice l n o,SN] 55
 rw [p,hq]at h
 have W:=(h 0 _ rfl).1
 have X:=(h 1 _ rfl).1
 have Y:=(h 2 _ rfl).1
 have hn:=hg.pJ
 have HQ:Hid (∀t:WD,Below w1.drew.heap.size w1.drew t->CA t q 0 (SN)/\CA t q 1 (.slice l n o)/\CA t q 2 (SN)):=λC L=>⟨(L.cell (Nr _ _ W)).trans W,(L.cell (Nr _ _ X)).trans X,(L.cell (Nr _ _ Y)).trans Y⟩
 have d:BW w w1.drew:=M.drew
 have HT:Hid (CL 124 #[.agg #[SN,.slice l n o,SN]] w1.drew (tS w1.drew n E)):=FV w1.drew l n o E (hg.af d) V
 have H:Hid (∀C,Below w1.drew.heap.size w1.drew C->CL 125 #[.agg #[SN,.slice l n o,SN],.slice Z n gc] C (oU C ((List.range n).filter r))):=λC L=>CZ C _ _ l n o Z gc r (B.af (aa d L)) hn
 have ab:=Nq d
 clear hg V B h M d
 go_enter Tryz.func86,Tryz.ntmps86
 go_upto_region 1 with(fail)
 (try rw [p])
 (try rw [hq])
 clear p hq
 refine av 5 (S:=λt=>CA t q 0 (SN)/\CA t q 1 (.slice l n o)/\CA t q 2 (SN)) (by kernel_rfl) (⟨W,X,Y⟩) (λz=>?_)
 refine' az 0 ?_ [1,0]
 refine' az 2 ?_ [4,2]
 refine' az 3 ?_ [4,3]
 clear z W X Y
 refine aI 1 λK c=>?_
 rw [Oa (by rfl)]
 apply aY.o
 refine aN (f:=124) HT.o ?_ (λe w2 a=>?_)
 clear c
 go_simp
 obtain ⟨vi,vl,I,J,E',rfl,P,u,N⟩:=a
 refine ⟨_,rfl,?_⟩
 have G:=Nq P
 have s:=Nq u
 have m:=Nq N
 clear P u N
 refine c.o _ _ (λ_=>HQ.o w2 m.o) ?_
 clear c K
 try walk_nrm
 refine aI 4 λK c=>?_
 rw [Oa (by rfl)]
 apply aY.o
 refine aN (f:=125) (H.o w2 m.o) ?_ (λe D a=>?_)
 clear c
 go_simp
 obtain ⟨fa,fl,fc,rfl,R⟩:=a
 refine ⟨_,rfl,?_⟩
 have g:Hid (Below w1.drew.heap.size w1.drew D):=aa m.o R.2.1
 have A:=eV R
 rw [aC]at A
 have ai:fl<=n:=by rw [<-A];have:=OD r (List.range n);rwa [OQ]at this
 have HR:Hid (CL 123 #[.agg #[vi,.slice I n J,vl],.slice fa fl fc] D (iQ E' ((List.range n).filter r) n D)):=
  C5 D vi vl I n J E' (G.o.af R.2.1) fa fl fc _ (cN R) (λf hf=>Oq.1 (Og.1 hf).1) (by omega)
 have F:Hid (BW w D):=aa ab.o g.o
 clear R A ai HT H G m
 refine c.o _ _ (λ_=>HQ.o D g.o) ?_
 clear c K
 try walk_nrm
 clear g HQ
 refine aI 5 λK c=>?_
 rw [Oa (by rfl)]
 apply aY.o
 refine aN (f:=123) HR.o ?_ (λe w4 a=>?_)
 clear c
 go_simp
 obtain ⟨v,r',rfl,aj,T⟩:=a
 refine ⟨_,rfl,?_⟩
 obtain ⟨b4,rfl,U,O,Q⟩:=aj
 have ah:=Nq U
 have ac:=Nq O
 have ad:=Nq Q
 have af:=Nq T
 clear U O Q T
 refine c.o _ _ (λe=>nomatch e) ?_
 clear c K
 try walk_nrm
 refine aI 6 λK c=>?_
 go_simp
 refine c.o _ _ (λe=>nomatch e) ?_
 clear c K
 try walk_nrm
 refine ay (by kernel_rfl) ?_
 go_wp2
 go_ret
 refine ⟨_,r',rfl,⟨b4,rfl,ah.o,aa F.o ac.o,by have:=F.o.size;have:=ad.o;omega⟩,λx hx=>?_⟩
 rw [af.o x hx]
 constructor
 rintro ⟨y,hy,B⟩
 obtain ⟨h1,h2⟩:=Og.1 hy
 exact ⟨y,Oq.1 h1,h2,l9 s.o B⟩
 rintro ⟨y,h1,h2,B⟩
 exact ⟨y,Og.2 ⟨Oq.2 h1,h2⟩,l9 (λi j=>(s.o j i).symm) B⟩
def KR(E:List (List Int))(b:Nat->Bool)(i k:Nat):Bool:=((E.getD i []).take k).any λt=>b t.toNat
def Eu(E:List (List Int))(b:Nat->Bool)(n x k:Nat)(f:Nat->Bool):Prop:=∀i,i<n->f i=if i<x then KR E b i (E.getD i []).length else if i=x then KR E b x k else false
section
variable {E:List (List Int)} {b f:Nat->Bool} {n x k:Nat}
def Eu.aK(E:List (List Int))(b:Nat->Bool)(n:Nat):Eu E b n 0 0 (λ_=>false):=λi a=>by rw [Of (QL i)];split;rename_i e;subst e;simp [KR];rfl
def Eu.dB(h:Eu E b n x k f){t:Nat}(d:k<(E.getD x []).length)(j:(E.getD x []).getD k 0=(t:Int))(l:x<n):Eu E b n x (k+1) (up f x (f x||b t)):=λi c=>by
 have g:KR E b x (k+1)=(KR E b x k||b t):=by unfold KR;rw [nK _ k d,j,List.any_append];simp
 by_cases e:i=x;subst e;have a:=h i l;rw [Of (OI i),Oa rfl]at a;rw [aB,Of (OI i),Oa rfl,g,a];rw [an _ _ _ _ e,h i c,Of e,Of e]
def Eu.next(h:Eu E b n x (E.getD x []).length f):Eu E b n (x+1) 0 f:=λi d=>by rw [h i d];by_cases a:i<x;rw [Oa a,Oa (by omega)];rw [Of a];by_cases c:i=x;subst c;rw [Oa rfl,Oa (by omega)];rw [Of c,Of (by omega)];split;rename_i e;subst e;simp [KR];rfl
end
structure BN (w1 wr:WD) (ob n:Nat) (f:Nat->Bool):Prop where
 aM:BW w1 wr
 Ea:w1.heap.size<=ob
 o:Sl wr 4 (SV ob n n) n (bA n f)
section
variable {w1 wr wa:WD} {ob n:Nat} {f:Nat->Bool}
def BN.af(h:BN w1 wr ob n f)(a:BW wr wa):BN w1 wa ob n f:=
 ⟨h.aM.trans (a.mono h.aM.size),h.Ea,h.o.aA (aj.aF a) (λg e s=>by have:=h.o.lt g e;omega)⟩
def BN.set(h:BN w1 wr ob n f){i:Nat}(j:i<n)(v:Bool):BN w1 (wr.setCell (AD ob i) (.bool v)) ob n (up f i v)/\CA wr ob i (.bool (f i))/\FZ wr ob i:=by obtain ⟨c,d,g⟩:=mg h.o j v;have a:aj (λk=>k=ob) wr (wr.setCell (AD ob i) (.bool v)):=(aj.refl (λk=>k=ob) wr).setCell (p:=(AD ob i)) (λ_=>rfl) _;exact ⟨⟨h.aM.trans (a.af h.aM.size λk a e=>by have:=h.Ea;omega),h.Ea,c⟩,d,g⟩
def BN.aK{a:WD}(c:Sl (w1.alloc (.cells (madeCells (Value.bool false).cells (n*1)) 4)) 4 (SV w1.heap.size n n) n (madeCells (Value.bool false).cells (n*1)).toList)(e:w1.alloc (.cells (madeCells #[Value.bool false] n) 4)=a):BN w1 a w1.heap.size n (λ_=>false):=by
 have d:w1.alloc (.cells (madeCells (Value.bool false).cells (n*1)) 4)=a:=by rw [<-e,PZ];rfl
 rw [d,bZ (.bool false) rfl n,<-Scc.fH]at c;exact ⟨e▸ag _ _,Nz _,c⟩
end
def K9(E:List (List Int))(n:Nat)(r:Nat->Bool)(w:WD)(e:Ending)(c:WD):Prop:=
 ∃v a,e=RT v/\oV w c v n a/\∀x,x<n->(a x=true↔∃m,Own.gS E x m/\∃y,y<n/\r y=true/\Own.br E m y)
def Bh(w:WD)(K:OA)(n ce:Nat)(E:List (List Int))(hg:dS w K n E)(N:∀i,i<n->(E.getD i []).length<=16777216)(ga:OA)(gc:Nat)(r:Nat->Bool)(hr:dW w ga n r):
 CL 53 #[.agg #[SN,.slice K n ce,SN],.slice ga n gc] w (K9 E n r w):=by
 obtain ⟨i4,ax,aB,aA,av⟩:=Ol Scc.Tryz.nV
 obtain ⟨q,hq⟩:=EX w.heap.size
 obtain ⟨w1,O⟩:=EX (w.alloc (.cells #[SN,.slice K n ce,SN] 55))
 have o:BW w w1:=O▸ag _ _
 have l:=bp w #[SN,.slice K n ce,SN] 55
 rw [O,hq]at l
 have e0:=(l 0 _ rfl).1
 have e1:=(l 1 _ rfl).1
 have e2:=(l 2 _ rfl).1
 have hn:=hg.pJ
 have HC:Hid (∀W':WD,BW w1 W'->CA W' q 1 (.slice K n ce)):=λG S=>(S.cell (Nr _ _ e1)).trans e1
 have X:=Nq (FR w1 K n ce E (hg.af o) N ga gc r (hr.af o))
 have R:=Nq hg
 have ar:=Nq N
 have ao:Hid (∀G:WD,BW w1 G->dS G K n E):=λG S=>hg.af (aa o S)
 have V:=Nq o
 clear hg N hr l o
 go_enter Tryz.func53,Tryz.ntmps53
 go_upto_region 2 with(go_at_call 86;refine X.o.mono ?_;rintro e I ⟨v,F,rfl,⟨bb,rfl,aj,ab,ay⟩,ah⟩;have aq:=Nq aj;have j:=Nq ab;have Z:=Nq ah;clear aj ab ay ah)
 clear e0 e2 O hq X e1
 go_upto_region 4 with(at_make;refine bJ rfl _ _ 67 rfl 4 i4 (.bool false) 1 P0 ax aB aA _ _ _ _ n rfl rfl rfl rfl (by rw [av];omega) (by unfold maxLen;omega) ?_;rintro w3 rfl hs;have Y:=Nq hs;clear hs)
 obtain ⟨w3,P⟩:=EX (I.alloc (.cells (madeCells #[Value.bool false] n) 4))
 have J:Hid (BN I w3 I.heap.size n (λ_=>false)):=BN.aK Y.o P
 rw [P]
 obtain ⟨ob,ad⟩:=EX I.heap.size
 rw [ad]at J⊢
 have an:Hid (∀(W:WD)(i:Nat),BW I W->i<n->CA W bb i (.bool (F i))):=λW i hW T=>by
  obtain ⟨b',o',e,hc⟩:=(kK aq.o).af hW;cases e
  have:=hc i T;rwa [Od]at this
 clear Y P ad
 go_loopw [7] (λv wr=>∃(x:Nat)(f:Nat->Bool),x<=n/\v=IV x/\Hid (BN I wr ob n f)/\Hid (Eu E F n x 0 f)) (λv _=>n-(intOf v).toNat)
 exact ⟨0,_,NS _,rfl,J,Nq (Eu.aK E F n)⟩
 clear J
 obtain ⟨x,f,hx,rfl,a,c⟩:=hrel
 by_cases p:x<n
 ·have ak:(x:Int)<(n:Int):=by omega
  obtain ⟨b,aC,ai,ci,rfl,cr,L⟩:=(ao.o w1 (Nx _ _)).bG.at x (by rw [R.o.bC];exact p);obtain ⟨s,g⟩:=EX (E.getD x []);obtain ⟨d,hd⟩:=EX s.length;have h:=Nq g;have HD:=Nq hd;rw [g,hd]at cr;rw [g]at L;have HK:Hid (∀G,BW w1 G->CA G b (aC+x) (.slice ai d ci)/\Scc.mH G ai s):=λG S=>⟨(S.cell (Nr _ _ cr)).trans cr,Scc.mH.af (w:=w1) L S⟩;have aG:d<=16777216:=by have:=ar.o x p;rw [g,hd]at this;exact this
  clear cr L g hd;go_upto_region 6 with(fail);go_wp2;go_loopw [8] (λv wr=>∃(k:Nat)(f:Nat->Bool),k<=d/\v=IV k/\Hid (BN I wr ob n f)/\Hid (Eu E F n x k f)) (λv _=>d-(intOf v).toNat);exact ⟨0,f,NS _,rfl,a,c⟩;clear a c;obtain ⟨k,f,hk,rfl,a,c⟩:=hrel;have e1:=HC.o wr (aa j.o a.o.aM);have aF:=(HK.o wr (aa j.o a.o.aM)).1;by_cases M:k<d
  ·have ac:(k:Int)<(d:Int):=by omega
   obtain ⟨b',aD,rfl,ck,aE,au⟩:=(HK.o wr (aa j.o a.o.aM)).2 k (by rw [HD.o];exact M);obtain ⟨U,C⟩:=EX (s.getD k 0);rw [C]at ck;have am:U∈E.getD x []:=by rw [h.o,<-C,Nw,Ny (by rw [HD.o];exact M)];exact OR _
   obtain ⟨Q,al⟩:=R.o.inr x p U am;obtain ⟨t,rfl⟩:∃t:Nat,U=(t:Int):=⟨U.toNat,by omega⟩;have ht:t<n:=by omega
   have aH:(t:Int)<(n:Int):=by omega
   have A:Hid (Eu E F n x (k+1) (up f x (f x||F t))):=c.o.dB (by rw [h.o,HD.o];exact M) (by rw [h.o];exact C) p;have ct:=an.o wr t a.o.aM ht;obtain ⟨H,cx,fx⟩:=a.o.set p (f x||F t);have u:=Nq H;clear H C am Q al au a c;generalize aw:f x=B at *;generalize az:F t=D at *;clear aw az;cases B
   ·rw [Ra]at u A;go_wp2
    go_roundw;exact ⟨k+1,_,by omega,by go_num,u,A⟩;simp [intOf];omega
   ·rw [Sd]at u A;go_wp2
    go_roundw;exact ⟨k+1,_,by omega,by go_num,u,A⟩;simp [intOf];omega
  ·obtain rfl:k=d:=by omega
   have ac:¬(k:Int)<(k:Int):=by omega
   have ap:Hid (Eu E F n (x+1) 0 f):=by have h1:=c.o;rw [<-HD.o,<-h.o]at h1;exact h1.next
   clear c;go_wp2;go_roundw;exact ⟨x+1,_,by omega,by go_num,a,ap⟩;simp [intOf];omega
 ·obtain rfl:x=n:=by omega
  have ak:¬(x:Int)<(x:Int):=by omega
  go_wp2;go_ret;refine ⟨_,f,rfl,⟨ob,rfl,a.o.o,aa V.o (aa j.o a.o.aM),by have:=V.o.size;have:=j.o.size;have:=a.o.Ea;omega⟩,λi T=>?_⟩;rw [c.o i T,Oa T];unfold KR;rw [Q0,Qq];constructor
  ·rintro ⟨z,hz,hr⟩;obtain ⟨Q,al⟩:=R.o.inr i T z hz
   have ht:z.toNat<x:=by omega
   obtain ⟨y,h1,h2,h3⟩:=(Z.o z.toNat ht).1 hr;exact ⟨z.toNat,⟨by rw [R.o.bC];exact T,by rw [R.o.bC];exact ht,by rw [Int.toNat_of_nonneg Q];exact hz⟩,y,h1,h2,h3⟩
  ·rintro ⟨m,⟨h1,h2,h3⟩,y,h4,h5,h6⟩;rw [R.o.bC]at h2
   exact ⟨(m:Int),h3,by rw [Qj];exact (Z.o m h2).2 ⟨y,h4,h5,h6⟩⟩
end
section
def vN(A:Au)(a:List Nat)(s x:Nat):Prop:=(A.aw (a.getD x 0)).aT.testBit s=true
def Gy(z:Nat->Bool)(x:Nat):Prop:=z x=true
def AZ(A:Au)(a:List Nat)(z:Nat->Bool)(k x:Nat):nX A a z k x=true↔Own.L7 (vN A a) (Gy z) k x:=by unfold nX vN Gy;rw [OB,Py,OP];exact Ry
def wJ{E e:List (List Int)}{z:Nat->Prop}(h:∀i j,Own.gS e i j↔kQ E z i j){x y:Nat}:Own.br e x y↔ju (kQ E z) x y:=by
 constructor;intro g;exact g.closed (S:=λv=>ju (kQ E z) x v) (λa b f c=>f.tail ((h a b).1 c)) (.refl x);intro l;induction l with
 |refl x=>exact Own.br.refl _ x
 |oA d _ m=>exact Own.br.oA ((h _ _).2 d) m
def Iz{A:Au}{b:List Nat}{E c:List (List Int)}{nx:Nat->Bool}{n k:Nat}(l:E.length=n)(h:∀i j,Own.gS c i j↔kQ E (Gy nx) i j)(x:Nat):
 (∃m,Own.gS c x m/\∃y,y<n/\nX A b nx k y=true/\Own.br c m y)↔K8 E (Gy nx) (Own.L7 (vN A b) (Gy nx) k) x:=by
 unfold K8
 constructor
 rintro ⟨m,a,y,-,d,f⟩
 exact ⟨m,(h x m).1 a,y,(wJ h).1 f,(AZ A b nx k y).1 d⟩
 rintro ⟨m,a,y,e,d⟩
 have g:=(wJ h).2 e
 refine ⟨m,(h x m).2 a,y,?_,(AZ A b nx k y).2 d,g⟩
 have:=e.reach.lt a.1.2.1
 omega
structure pW (E:List (List Int)) (gG:Nat->Nat->Prop) (S n k:Nat) (z nx:Nat->Bool):Prop where
 inf:∀x,rG E gG S x->nx x=true
 sub:∀x,nx x=true->z x=true
 lt:∀x,nx x=true->x<n
 cW:(∀x,z x=true->nx x=true)->∀i,i<k->∀x,z x=true->K8 E (Gy z) (Own.L7 gG (Gy z) i) x
section
variable {E:List (List Int)} {hit:Nat->Nat->Prop} {S n k:Nat} {z nx nx':Nat->Bool}
def pW.aK(a:∀x,rG E hit S x->z x=true)(b:∀x,z x=true->x<n):pW E hit S n 0 z z:=⟨a,λ_ h=>h,b,λ_ i c=>by omega⟩
def pW.pass(h:pW E hit S n k z nx)(r:k<=S)(e:∀x,nx' x=true->x<n)(c:∀x,x<n->(nx' x=true↔K8 E (Gy nx) (Own.L7 hit (Gy nx) k) x)):pW E hit S n (k+1) z nx':=by
 have j:∀x,nx' x=true->nx x=true:=λx a=>JE ((c x (e x a)).1 a);refine ⟨λx a=>?_,λx a=>h.sub x (j x a),e,λl i u x a=>?_⟩;have f:=h.inf x a;exact (c x (h.lt x f)).2 (JD (z:=Gy nx) (λq s=>h.inf q s) r a);have d:nx=z:=by
  funext y;cases b:z y
  cases g:nx y
  rfl;rw [h.sub y g]at b;cases b;exact j y (l y b)
 rcases O8 i k with m|m;exact h.cW (λy t=>j y (l y t)) i m x a;have:i=k:=by omega
 subst this;have o:=l x a;have p:=(c x (e x o)).1 o;rw [d]at p;exact p
def pW.fin(h:pW E hit S n (S+1) z nx)(c:∀x,z x=true->nx x=true)(x:Nat):z x=true↔rG E hit S x:=
 ⟨λa=>G2 (z:=Gy z) (λq b i d=>h.cW c i (by omega) q b) a,λa=>h.sub x (h.inf x a)⟩
end
def Ck(n:Nat)(z:Nat->Bool):Nat:=((List.range n).filter z).length
def G4{n:Nat}{z nx:Nat->Bool}(d:∀x,nx x=true->z x=true){x:Nat}(e:x<n)(a:z x≠nx x):Ck n nx<Ck n z:=
 jU d (List.range n) ⟨x,Oq.2 e,by
  cases c:z x
  cases b:nx x
  rw [c,b]at a;exact absurd rfl a;rw [d x b]at c;cases c;cases b:nx x
  exact ⟨rfl,rfl⟩;rw [c,b]at a;exact absurd rfl a⟩
def CO(z nx:Nat->Bool)(i:Nat):Bool:=(List.range i).any λx=>z x !=nx x
def FF(z nx:Nat->Bool)(i:Nat):CO z nx (i+1)=(CO z nx i||(z i !=nx i)):=by unfold CO;rw [OZ,List.any_append];simp
def K7(E:List (List Int))(hit:Nat->Nat->Prop)(S n:Nat)(w:WD)(e:Ending)(a:WD):Prop:=∃v r,e=RT v/\oV w a v n r/\∀x,x<n->(r x=true↔rG E hit S x)
def Lr{E:List (List Int)}{hit:Nat->Nat->Prop}{S x:Nat}(h:rG E hit S x):x<E.length:=by obtain ⟨p,rfl,a,-⟩:=h;exact (a 0).1
def ID(w:WD)(A:Au)(ia:OA)(il ic:Nat)(na:OA)(nl nc:Nat)(hv:bY w A ia il na nl)(hA:fS A)(N:OA)(n X:Nat)(E:List (List Int))(hg:dS w N n E)(a1:∀i,i<n->(E.getD i []).length<=16777216)
 (oa:OA) (oc:Nat) (J:List Nat) (ho:aG .i64 w oa n (aH J)) (hj:∀x∈J,x<A.ah.length):
 CL 31 #[.agg #[IV A.sets,.slice ia il ic,.slice na nl nc],.agg #[SN,.slice N n X,SN],.slice oa n oc] w (K7 E (vN A J) A.sets n w):=by
 obtain ⟨i4,bm,bu,br,bk⟩:=Ol Scc.Tryz.nV
 obtain ⟨q,hq⟩:=EX w.heap.size
 obtain ⟨wa,Q⟩:=EX (w.alloc (.cells #[IV A.sets,.slice ia il ic,.slice na nl nc] 36))
 obtain ⟨a,ao⟩:=EX (wa.alloc (.cells #[SN,.slice N n X,SN] 55))
 have aO:BW w wa:=Q▸ag _ _
 have ai:BW wa a:=ao▸ag _ _
 have a6:wa.heap.size=q+1:=by rw [<-Q,NG,hq]
 have H:BW w a:=aa aO ai
 have am:HC a q #[IV A.sets,.slice ia il ic,.slice na nl nc] 36:=(ai.block q (by omega)).trans (by rw [<-Q,<-hq];exact (ND w _).1)
 have ak:HC a (q+1) #[SN,.slice N n X,SN] 55:=by rw [<-ao,<-a6];exact (ND wa _).1
 have ac:Hid (∀d:WD,BW a d->CA d q 0 (IV A.sets)/\CA d q 1 (.slice ia il ic)/\CA d q 2 (.slice na nl nc)/\CA d (q+1) 0 (SN)/\CA d (q+1) 1 (.slice N n X)/\CA d (q+1) 2 (SN)):=λd h=>by have h2:=(h.block q (Nu.1 am).1).trans am;have h3:=(h.block (q+1) (Nu.1 ak).1).trans ak;exact ⟨CH h2,CH h2,CH h2,CH h3,CH h3,CH h3⟩
 have hn:=hg.pJ
 have bh:Hid (∀(d:WD)(R:OA)(zc:Nat)(z:Nat->Bool),BW a d->dW d R n z->CL 54 #[.agg #[SN,.slice N n X,SN],.slice R n zc] d (p7 d n E z)):=λd R zc z hb hz=>Bs d _ _ N n X E (hg.af (aa H hb)) a1 R zc z hz
 have bb:Hid (∀(d:WD)(R:OA)(zc:Nat)(z:Nat->Bool)(k:Nat)(t:Int),BW a d->dW d R n z->k<=16->t=(k:Int)-1->CL 55 #[.agg #[IV A.sets,.slice ia il ic,.slice na nl nc],.slice R n zc,.slice oa n oc,IV t] d λe bx=>∃v,e=RT v/\oV d bx v n (nX A J z k)):=λd R zc z k t hb hz hk ht=>FU d A ia il ic na nl nc (hv.af (aa H hb)) hA R zc n z hz oa oc J (ho.af (aa H hb)) hj k hk (by omega) t ht
 have ar:=Nq H
 have ax:Hid (E.length=n):=hg.bC
 have bz:A.sets<=16:=hA.sets
 clear hv hA hg a1 ho hj aO ai H am ak
 go_enter Tryz.func31,Tryz.ntmps31
 go_upto_region 3 with(at_make;refine bJ rfl _ _ 67 rfl 4 i4 (.bool false) 1 P0 bm bu br _ _ _ _ n rfl rfl rfl rfl (by rw [bk];omega) (by unfold maxLen;omega) ?_;rintro w3 rfl hs;have aD:=Nq hs;clear hs)
 obtain ⟨w2,ap⟩:=EX (a.alloc (.cells (madeCells #[Value.bool false] n) 4))
 have ad:Hid (BN a w2 a.heap.size n (λx=>decide (x<0))):=by have h:=BN.aK aD.o ap;exact ⟨h.aM,h.Ea,by rw [eI (g:=λ_=>false) (λj _=>by simp)];exact h.o⟩
 rw [ap]
 obtain ⟨ob,aW⟩:=EX a.heap.size
 rw [aW]at ad⊢
 clear aD ap ao Q hq a6 aW
 go_loopw [8] (λv wr=>∃x:Nat,x<=n/\v=IV x/\Hid (BN a wr ob n (λy=>decide (y<x)))) (λv _=>n-(intOf v).toNat)
 exact ⟨0,NS _,rfl,ad⟩
 clear ad
 obtain ⟨x,hx,rfl,C⟩:=hrel
 by_cases bs:x<n
 ·have a2:(x:Int)<(n:Int):=by omega
  obtain ⟨u,cx,fx⟩:=C.o.set bs true;have a9:Hid (BN a (wr.setCell (AD ob x) (.bool true)) ob n (λy=>decide (y<x+1))):=by
   refine ⟨u.aM,u.Ea,?_⟩;rw [eI (g:=up (λy=>decide (y<x)) x true) (λj _=>?_)]
   ·exact u.o
   ·by_cases e:j=x
    ·subst e;rw [aB];simp
    ·rw [an _ _ _ _ e];exact Qb.2 ⟨λh=>by omega,λh=>by omega⟩
  clear u C;go_wp2;go_roundw;exact ⟨x+1,by omega,by go_num,a9⟩;simp [intOf];omega
 ·obtain rfl:x=n:=by omega
  have a2:¬(x:Int)<(x:Int):=by omega
  have aJ:Hid (Sl wr 4 (SV ob x x) x (bA x λy=>decide (y<x))):=C.o.o;have aF:Hid (a.heap.size<=ob):=C.o.Ea;have aw:=Nq C.o.aM;clear C;go_wp2;go_loopg [7] (Ck x λy=>decide (y<x)) (λgk v wr=>∃(z:Nat->Bool)(zb:Nat),v=SV zb x x/\Hid (gk=Ck x z)/\Hid (Sl wr 4 (SV zb x x) x (bA x z))/\Hid (a.heap.size<=zb)/\Hid (BW a wr)/\Hid (pW E (vN A J) A.sets x 0 z z));exact ⟨_,ob,rfl,rfl,aJ,aF,aw,Nq (pW.aK (λy B=>N6 (by have:=Lr B;have:=ax.o;omega)) (λy B=>PL B))⟩;clear aJ aF aw;obtain ⟨z,zb,rfl,bl,P,a4,al,l⟩:=hrel;obtain ⟨wo,rfl⟩:∃wo:WD,wo=wr:=⟨_,rfl⟩;obtain ⟨gO,rfl⟩:∃gO:Nat,gO=gk:=⟨_,rfl⟩;have HZ:=Nq l.o;go_upto_region 8 with(fail);go_wp2;go_loopw [9,10] (λv9 aq wb=>∃(k:Nat)(nx:Nat->Bool)(I:Nat),k<=A.sets+1/\aq=IV ((k:Int)-1)/\v9=SV I x x/\Hid (Sl wb 4 (SV I x x) x (bA x nx))/\Hid (a.heap.size<=I)/\Hid (BW wo wb)/\Hid (pW E (vN A J) A.sets x k z nx)) (λ_ aq _=>((A.sets:Int)-intOf aq).toNat);exact ⟨0,z,zb,NS _,by go_num,rfl,P,a4,Nq (Nx _ _),l⟩;clear l;obtain ⟨k,nx,I,hk,rfl,rfl,D,aU,r,l⟩:=hrel;have o:Hid (BW a wr):=aa al.o r.o;obtain ⟨b0,b1,b2,b3,b4,b5⟩:=ac.o wr o.o;by_cases bn:k<=A.sets
  ·have aT:(k:Int)-1<(A.sets:Int):=by omega
   have aP:BW a wr.drew:=o.o.drew;have aK:Hid (CL 54 #[.agg #[SN,.slice N x X,SN],SV I x x] wr.drew (p7 wr.drew x E nx)):=bh.o wr.drew _ x nx aP ((kK D.o).af (Nx _ wr).drew);have V:Hid (∀W,BW wr W->dW W (some (AD I 0)) x nx):=λW hW=>(kK D.o).af hW;have hS:=And.intro b0 (And.intro b1 (And.intro b2 (And.intro b3 (And.intro b4 b5))));clear aP;go_upto_region 10 with(fail);refine av 8 (S:=λW=>CA W q 0 (IV A.sets)/\CA W q 1 (.slice ia il ic)/\CA W q 2 (.slice na nl nc)/\CA W (q+1) 0 (SN)/\CA W (q+1) 1 (.slice N x X)/\CA W (q+1) 2 (SN)) (by kernel_rfl) (hS) (λb=>?_);refine' az 0 ?_ [2,0];refine' az 1 ?_ [2,1];refine' az 3 ?_ [7,3];refine' az 4 ?_ [7,4];refine' az 5 ?_ [7,5];refine' az 6 ?_ [7,6];clear b b0 b1 b2 b3 b4 b5 hS;refine aI 2 λK m=>?_;rw [Oa (by rfl)];apply aY.o;refine aN (f:=54) aK.o ?_ (λe w5 c=>?_)
   ·clear m;go_simp
   obtain ⟨bi,bj,E',rfl,aQ,Y,Z,aL⟩:=c;refine ⟨_,rfl,?_⟩;have M:Hid (BW wr w5):=(Nx _ wr).drew.trans aL;have F:Hid (BW a w5):=aa o.o M.o;have aA:=Nq aQ;have T:Hid (∀i j,Own.gS E' i j↔kQ E (Gy nx) i j):=Y;have U:=Nq Z;have aC:=Nq (bb.o w5 (some (AD I 0)) x nx k ((k:Int)-1) F.o (V.o w5 M.o) (by omega) rfl);clear aQ Y Z aL;refine m.o _ _ (λ_=>ac.o w5 F.o) ?_;clear m K;try walk_nrm
   refine aI 7 λK m=>?_;rw [Oa (by rfl)];apply aY.o;refine aN (f:=55) aC.o ?_ (λe w6 c=>?_)
   ·clear m;go_simp
   obtain ⟨v,rfl,⟨b6,rfl,aZ,ah,bo⟩⟩:=c;refine ⟨_,rfl,?_⟩;have ab:Hid (BW wr w6):=aa M.o ah;have G:Hid (BW a w6):=aa o.o ab.o;have au:=Nq (Bh w6 bi x bj E' (aA.o.af ah) U.o (some (AD b6 0)) x (nX A J nx k) (kK aZ));clear aZ ah bo;refine m.o _ _ (λ_=>ac.o w6 G.o) ?_;clear m K;try walk_nrm
   refine aI 8 λK m=>?_;rw [Oa (by rfl)];apply aY.o;refine aN (f:=53) au.o ?_ (λe w7 c=>?_)
   ·clear m;go_simp
   obtain ⟨v,r',rfl,⟨b7,rfl,a0,aM,bp⟩,aX⟩:=c;refine ⟨_,rfl,?_⟩;have a7:Hid (BW wo w7):=aa r.o (aa ab.o aM);have bf:Hid (Sl w7 4 (SV b7 x x) x (bA x λy=>decide (y<x)&&r' y)):=by rw [eI (g:=r') (λj hj=>by rw [N6 hj,OM])];exact a0
   have ba:Hid (a.heap.size<=b7):=by have:=G.o.size;show _<=_;omega
   have be:Hid (pW E (vN A J) A.sets x (k+1) z λy=>decide (y<x)&&r' y):=by
    refine l.o.pass bn (λy B=>?_) (λy B=>?_)
    ·rw [OB,OP]at B;exact B.1
    ·rw [N6 B,OM,aX y B];exact Iz ax.o T.o y
   clear a0 aM bp aX;refine m.o _ _ (λe=>nomatch e) ?_;clear m K;try walk_nrm
   clear F G M ab aA T U aC au aK V l D aU r o;refine aI 9 λK m=>?_;go_simp;refine m.o _ _ (λe=>nomatch e) ?_;clear m K;try walk_nrm
   refine ay (by kernel_rfl) ?_;go_wp2;go_roundw;exact ⟨k+1,_,b7,by omega,by go_num,rfl,bf,ba,a7,be⟩;simp [intOf];omega
  ·obtain rfl:k=A.sets+1:=by omega
   have aT:¬(((A.sets+1:Nat):Int)-1)<(A.sets:Int):=by omega
   go_upto_region 13 with(fail);obtain ⟨wc,rfl⟩:∃wc:WD,wc=wr:=⟨_,rfl⟩;clear b0 b1 b2 b3 b4 b5;go_loopw [11,12] (λbv bw wb=>∃i:Nat,i<=x/\bw=IV i/\bv=.bool (CO z nx i)/\Hid (BW wc wb)) (λ_ v _=>x-(intOf v).toNat);exact ⟨0,NS _,rfl,rfl,Nq (Nx _ _)⟩;obtain ⟨i,hi,rfl,rfl,p⟩:=hrel;by_cases aR:i<x
   ·have aS:(i:Int)<(x:Int):=by omega
    have aE:=Nq (FF z nx i);obtain ⟨bD,bE,e,a5⟩:=(kK P.o).af (aa r.o p.o);cases e
    obtain ⟨bB,bC,e,aV⟩:=(kK D.o).af p.o;cases e
    have cz:=a5 i aR;have cn:=aV i aR;rw [Od]at cz cn;clear a5 aV;generalize CO z nx i=L at *;generalize z i=Bz at *;generalize nx i=Bn at *;have hS:=And.intro cz cn;cases L
    ·go_upto_region 15 with(fail);refine av 12 (S:=λW=>CA W zb i (.bool Bz)/\CA W I i (.bool Bn)) (by kernel_rfl) (hS) (λb=>?_)
     refine' az 0 ?_;refine' az 1 ?_;refine' az 2 ?_;refine' az 3 ?_;refine' az 4 ?_;refine' az 5 ?_;refine' az 6 ?_;refine' az 7 ?_;refine' az 8 ?_;refine' az 9 ?_;refine' az 10 ?_;refine' az 11 ?_;clear b;refine aI 12 λK m=>?_;go_simp;refine m.o _ _ (λe=>nomatch e) ?_;clear m K;try walk_nrm
     refine ay (by kernel_rfl) ?_;go_wp2;go_roundw;exact ⟨i+1,by omega,by go_num,by rw [aE.o];cases Bz<;>cases Bn<;>rfl,Nq p.o.drew⟩;simp [intOf];omega
    ·go_upto_region 15 with(fail);refine av 12 (S:=λW=>CA W zb i (.bool Bz)/\CA W I i (.bool Bn)) (by kernel_rfl) (hS) (λb=>?_)
     refine' az 0 ?_;refine' az 1 ?_;refine' jC 2 ?_;refine' jC 3 ?_;refine' jC 4 ?_;refine' jC 5 ?_;refine' jC 6 ?_;refine' jC 7 ?_;refine' jC 8 ?_;refine' jC 9 ?_;refine' jC 10 ?_;refine' az 11 ?_;clear b;refine aI 12 λK m=>?_;go_simp;refine m.o _ _ (λe=>nomatch e) ?_;clear m K;try walk_nrm
     refine ay (by kernel_rfl) ?_;go_wp2;go_roundw;exact ⟨i+1,by omega,by go_num,by rw [aE.o];rfl,Nq p.o.drew⟩;simp [intOf];omega
   ·obtain rfl:i=x:=by omega
    have aS:¬(i:Int)<(i:Int):=by omega
    cases O:CO z nx i
    ·have a8:Hid (∀y,z y=true->nx y=true):=λy B=>by
      have bt:=HZ.o.lt y B;cases bq:nx y
      ·have:CO z nx i=true:=Qq.2 ⟨y,Oq.2 bt,by rw [B,bq];rfl⟩;rw [O]at this;cases this
      ·rfl
     clear O;go_wp2;(try simp only [Exit.inBlock,Exit.then]);go_ret;exact ⟨_,z,rfl,⟨zb,rfl,P.o.aA (aj.aF (aa r.o p.o)) (λg e s=>by have:=P.o.lt g e;omega),aa ar.o (aa al.o (aa r.o p.o)),by have:=ar.o.size;have:=a4.o;omega⟩,λy _=>l.o.fin a8.o y⟩
    ·have bc:Hid (Ck i nx<gO):=by obtain ⟨y,B,a3⟩:=Qq.1 O;have h1:=G4 l.o.sub (Oq.1 B) (λe=>by rw [e]at a3;simp at a3);have h2:=bl.o;show Ck i nx<gO;omega
     have bd:Hid (pW E (vN A J) A.sets i 0 nx nx):=pW.aK l.o.inf l.o.lt;have bg:Hid (Sl wr 4 (SV I i i) i (bA i nx)):=D.o.aA (aj.aF p.o) (λg e s=>by have:=D.o.lt g e;omega);clear O;go_wp2;go_roundg (Ck i nx);case measure=>exact bc.o
     case rel=>exact ⟨nx,I,rfl,Nq rfl,bg,aU,Nq (aa al.o (aa r.o p.o)),bd⟩
end
def Bi(w:WD)(A:Au)(ia:OA)(r ic:Nat)(O:OA)(d L:Nat)(hv:bY w A ia r O d)(T:fS A):
 CL 27 #[.agg #[IV A.sets,.slice ia r ic,.slice O d L]] w λe l=>e=RT (IV 0)/\BW w l:=by
 obtain ⟨q,hq⟩:=EX w.heap.size
 obtain ⟨g,J⟩:=EX (w.alloc (.cells #[IV A.sets,.slice ia r ic,.slice O d L] 36))
 have E:BW w g:=J▸ag _ _
 have F:kW g q A ia r ic O d L:=⟨by rw [<-J,<-hq];exact (ND w _).1,hv.af E⟩
 have m:Hid (∀l:WD,BW g l->kW l q A ia r ic O d L):=λl h=>F.af h
 have af:=Nq E
 have HA:=Nq T
 have C:Hid (A.ah.length=d):=hv.bC
 have B:Hid (A.aJ.length=r):=by have:=hv.aJ.1;rw [aC]at this;exact this
 have aA:d<=256:=by rw [<-hv.bC];exact T.many
 have ax:r<=16777216:=by have:=T.il;have:=B.o;omega
 have aB:A.sets<=16:=T.sets
 have aw:¬((16:Int)<(A.sets:Int)):=by omega
 have ar:¬((256:Int)<(d:Int)):=by omega
 have au:¬((A.sets:Int)<0):=by omega
 obtain ⟨x,y,s⟩:=F.cells
 clear hv T E F
 go_enter Tryz.func27,Tryz.ntmps27
 go_upto_region 6 with(fail)
 clear J hq x y s
 go_loopw [3] (λv wr=>∃i:Nat,i<=r/\v=IV i/\Hid (BW g wr)) (λv _=>r-(intOf v).toNat)
 exact ⟨0,NS _,rfl,Nq (Nx _ _)⟩
 obtain ⟨i,hi,rfl,a⟩:=hrel
 obtain ⟨x,y,s⟩:=(m.o wr a.o).cells
 by_cases I:i<r
 ·have Y:(i:Int)<(r:Int):=by omega
  obtain ⟨-,h0|⟨ib,io,rfl,V⟩⟩:=(m.o wr a.o).Ao.aJ
  ·omega
  obtain ⟨j,G⟩:∃j,A.aJ[i]? =some j:=⟨_,Ny (by rw [B.o];exact I)⟩;have cj:CA wr ib (io+i) (IV j):=by have:=V i I;rw [cH (by rw [B.o];exact I),Nw,G]at this;exact this
  have am:j<d:=by have:=HA.o.aJ j (NI G);rw [C.o]at this;exact this
  have aj:¬((j:Int)<0):=by omega
  have ak:¬((d:Int)<=(j:Int)):=by omega
  have al:¬(d<=j):=by omega
  have U:=And.intro y (And.intro s cj);clear V G;go_upto_region 8 with(fail);refine av 16 (S:=λW=>CA W q 1 (.slice (some (AD ib io)) r ic)/\CA W q 2 (.slice O d L)/\CA W ib (io+i) (IV j)) (by kernel_rfl) (U) (λc=>?_);refine' az 0 ?_ [6,5,4,3,1,0];refine' az 1 ?_ [6,5,4,3,1];refine' az 2 ?_ [6,5,4,3,2];refine' az 3 ?_ [6,5,4,3];refine' az 4 ?_ [6,5,4];refine' az 5 ?_ [6,5];refine' az 6 ?_;refine' az 7 ?_ [15,11,10,8,7];refine' az 8 ?_ [15,11,10,8];refine' az 9 ?_ [15,11,10,9];refine' az 10 ?_ [15,11,10];refine' az 11 ?_ [15,11];refine' az 12 ?_ [15,14,13,12];refine' az 13 ?_ [15,14,13];refine' az 14 ?_ [15,14];refine' az 15 ?_;clear c;refine aI 16 λK z=>?_;go_simp;refine z.o _ _ (λe=>nomatch e) ?_;clear z K;try walk_nrm
  refine ay (by kernel_rfl) ?_;go_wp2;go_roundw;exact ⟨i+1,by omega,by go_num,Nq a.o.drew⟩;simp [intOf];omega
 ·obtain rfl:i=r:=by omega
  have Y:¬(i:Int)<(i:Int):=by omega
  go_wp2;obtain ⟨wo,rfl⟩:∃wo:WD,wo=wr:=⟨_,rfl⟩;clear x y s;go_loopw [4] (λv wr=>∃n:Nat,n<=d/\v=IV n/\Hid (BW g wr)) (λv _=>d-(intOf v).toNat);exact ⟨0,NS _,rfl,a⟩;clear a;obtain ⟨n,hn,rfl,a⟩:=hrel;by_cases an:n<d
  ·have ac:(n:Int)<(d:Int):=by omega
   have Z:n<A.ah.length:=by rw [C.o];exact an
   obtain ⟨b,o,P,p,tc,rfl,ab,-⟩:=(m.o g (Nx _ _)).nd Z;have u:=NI ab;have R:Hid (∀l:WD,BW g l->CA l b (o+n*4+2) (UV ((A.aw n).aT:Int))/\∃P p tc,CA l b (o+n*4+3) (.slice P p tc)/\aG .i64 l P p (aH (bV.tO (A.aw n)))):=λl hb=>by
    obtain ⟨b2,o2,ao,aq,ap,e,-,-,-,h2,h3,h4⟩:=(m.o l hb).nd Z;cases e
    exact ⟨h2,ao,aq,ap,h3,h4⟩
   obtain ⟨-,P,p,tc,k3,f⟩:=R.o g (Nx _ _);have ai:Hid (∀l:WD,BW g l->CA l b (o+n*4+3) (.slice P p tc)/\aG .i64 l P p (aH (bV.tO (A.aw n)))):=λl hb=>⟨(hb.cell (Nr _ _ k3)).trans k3,f.af hb⟩;have D:Hid ((bV.tO (A.aw n)).length=p):=by have:=f.1;rw [aC]at this;exact this
   have aD:p<=16777216:=by have:=HA.o.tl _ u;have:=D.o;omega
   have ah:Hid (∀t∈bV.tO (A.aw n),t<d):=λt ht=>by have:=HA.o.lN _ u t ht;rw [C.o]at this;exact this
   have Q:Hid ((A.aw n).aT<2^A.sets):=HA.o.aT _ u;obtain ⟨x,y,s⟩:=(m.o wr a.o).cells;clear ab u k3 f;go_upto_region 13 with(fail);clear x y s;go_wp2;go_loopw [5] (λv wr=>∃k:Nat,k<=p/\v=IV k/\Hid (BW g wr)) (λv _=>p-(intOf v).toNat);exact ⟨0,NS _,rfl,a⟩;clear a;obtain ⟨k,hk,rfl,a⟩:=hrel;obtain ⟨x,y,s⟩:=(m.o wr a.o).cells;obtain ⟨k3,f⟩:=ai.o wr a.o;by_cases H:k<p
   ·have X:(k:Int)<(p:Int):=by omega
    obtain ⟨-,h0|⟨tb,M,rfl,ae⟩⟩:=f
    ·omega
    obtain ⟨j,G⟩:∃j,(bV.tO (A.aw n))[k]? =some j:=⟨_,Ny (by rw [D.o];exact H)⟩;have cj:CA wr tb (M+k) (IV j):=by have:=ae k H;rw [cH (by rw [D.o];exact H),Nw,G]at this;exact this
    have am:j<d:=ah.o j (NI G);have aj:¬((j:Int)<0):=by omega
    have ak:¬((d:Int)<=(j:Int)):=by omega
    have al:¬(d<=j):=by omega
    have U:=And.intro s (And.intro k3 cj);clear ae G;go_upto_region 16 with(fail);refine av 24 (S:=λW=>CA W q 2 (.slice (some (AD b o)) d L)/\CA W b (o+n*4+3) (.slice (some (AD tb M)) p tc)/\CA W tb (M+k) (IV j)) (by kernel_rfl) (U) (λc=>?_);refine' az 0 ?_ [10,9,8,7,5,4,3,1,0];refine' az 1 ?_ [10,9,8,7,5,4,3,1];refine' az 2 ?_ [10,9,8,7,5,4,3,2];refine' az 3 ?_ [10,9,8,7,5,4,3];refine' az 4 ?_ [10,9,8,7,5,4];refine' az 5 ?_ [10,9,8,7,5];refine' az 6 ?_ [10,9,8,7,6];refine' az 7 ?_ [10,9,8,7];refine' az 8 ?_ [10,9,8];refine' az 9 ?_ [10,9];refine' az 10 ?_;refine' az 11 ?_ [23,19,18,16,15,14,12,11];refine' az 12 ?_ [23,19,18,16,15,14,12];refine' az 13 ?_ [23,19,18,16,15,14,13];refine' az 14 ?_ [23,19,18,16,15,14];refine' az 15 ?_ [23,19,18,16,15];refine' az 16 ?_ [23,19,18,16];refine' az 17 ?_ [23,19,18,17];refine' az 18 ?_ [23,19,18];refine' az 19 ?_ [23,19];refine' az 20 ?_ [23,22,21,20];refine' az 21 ?_ [23,22,21];refine' az 22 ?_ [23,22];refine' az 23 ?_;clear c;refine aI 24 λK z=>?_;go_simp;refine z.o _ _ (λe=>nomatch e) ?_;clear z K;try walk_nrm
    refine ay (by kernel_rfl) ?_;go_wp2;go_roundw;exact ⟨k+1,by omega,by go_num,Nq a.o.drew⟩;simp [intOf];omega
   ·obtain rfl:k=p:=by omega
    have X:¬(k:Int)<(k:Int):=by omega
    have k2:=(R.o wr a.o).1;have ad:((A.aw n).aT:Int)/2^A.sets=0:=by
     have h1:=Q.o;have e1:(((A.aw n).aT:Nat):Int)/2^A.sets=(((A.aw n).aT/2^A.sets:Nat):Int):=by rw [Int.natCast_ediv,Int.natCast_pow];rfl
     rw [e1,S9 h1];rfl
    have aE:(((A.aw n).aT:Int)/2^min (IntKind.u64.wrap (A.sets:Int)).toNat 64 !=0)=false:=by
     have e1:IntKind.u64.wrap (A.sets:Int)=(A.sets:Int):=by show(A.sets:Int)%18446744073709551616=_;omega
     rw [e1,Qj,RD (by omega),ad];rfl
    have U:=And.intro x (And.intro s k2);clear ad;clear f;generalize (A.aw n).aT=N at *;go_upto_region 18 with(fail);refine av 10 (S:=λW=>CA W q 0 (IV A.sets)/\CA W q 2 (.slice (some (AD b o)) d L)/\CA W b (o+n*4+2) (UV N)) (by kernel_rfl) (U) (λc=>?_);refine' az 0 ?_ [9,5,4,3,1,0];refine' az 1 ?_ [9,5,4,3,1];refine' az 2 ?_ [9,5,4,3,2];refine' az 3 ?_ [9,5,4,3];refine' az 4 ?_ [9,5,4];refine' az 5 ?_ [9,5];refine' az 6 ?_ [9,8,7,6];refine' az 7 ?_ [9,8,7];refine' az 8 ?_ [9,8];refine' az 9 ?_;clear c;refine aI 10 λK z=>?_;go_simp;refine z.o _ _ (λe=>nomatch e) ?_;clear z K;try walk_nrm
    refine ay (by kernel_rfl) ?_;go_wp2;go_roundw;exact ⟨n+1,by omega,by go_num,Nq a.o.drew⟩;simp [intOf];omega
  ·obtain rfl:n=d:=by omega
   have ac:¬(n:Int)<(n:Int):=by omega
   obtain ⟨x,y,s⟩:=(m.o wr a.o).cells;go_wp2;go_ret;exact ⟨rfl,aa af.o a.o⟩
section
def xJ(A:Au)(st lp:List Nat)(n k j:Nat):List Nat:=if iB A st lp n k=true then(((A.aw n).tO.take j).filter λt=>iB A st lp t (gi st lp k)).map λt=>t*(st.length+lp.length)+gi st lp k else []
def LZ(A:Au)(st lp:List Nat)(z:Nat):List Nat:=xJ A st lp (z/(st.length+lp.length)) (z%(st.length+lp.length)) (A.aw (z/(st.length+lp.length))).tO.length
def I5(A:Au)(st lp:List Nat)(n k:Nat):xJ A st lp n k 0=[]:=by unfold xJ;split<;>rfl
def I4{A:Au}{st lp:List Nat}{n k j t:Nat}(a:iB A st lp n k=true)(b:(A.aw n).tO[j]? =some t):
 xJ A st lp n k (j+1)=xJ A st lp n k j++(if iB A st lp t (gi st lp k)=true then [t*(st.length+lp.length)+gi st lp k]else []):=by
 unfold xJ
 rw [Oa a,Oa a,OG,b,OL,Oy]
 congr 1
 by_cases h:iB A st lp t (gi st lp k)=true
 rw [Oa h];simp [h]
 rw [Of h];simp [h]
def Dq{A:Au}{st lp:List Nat}{n k:Nat}(a:k<st.length+lp.length):LZ A st lp (n*(st.length+lp.length)+k)=xJ A st lp n k (A.aw n).tO.length:=by unfold LZ;rw [(dm a).1,(dm a).2]
def El(A:Au)(st lp:List Nat)(n k j:Nat):(xJ A st lp n k j).length<=(A.aw n).tO.length:=by unfold xJ;split;rw [NU];exact N5 (OD _ _) (by rw [Pd];exact Nat.min_le_right _ _);exact NS _
structure rI (A:Au) (st lp:List Nat) (N cur:Nat) (pt:List Nat) (C:Nat->List (Int×Int)):Prop where
 row:∀z,z<N->(C z).map Prod.fst=if z<cur then aH (LZ A st lp z)else if z=cur then aH pt else []
section
variable {A:Au} {st lp:List Nat} {N cur:Nat} {pt:List Nat} {C:Nat->List (Int×Int)}
def rI.aK(A:Au)(st lp:List Nat)(N:Nat):rI A st lp N 0 [] (λ_=>[]):=⟨λz a=>by rw [Of (QL z)];split<;>rfl⟩
def rI.dB(h:rI A st lp N cur pt C)(y:Nat)(a:Int):rI A st lp N cur (pt++[y]) (up C cur (C cur++[((y:Int),a)])):=⟨λz c=>by have b:=h.row z c;by_cases e:z=cur;subst e;rw [Of (OI z),Oa rfl]at b;rw [aB,Oy,b,Of (OI z),Oa rfl,je];rfl;rw [an _ _ _ _ e,b,Of e,Of e]⟩
def rI.next(h:rI A st lp N cur (LZ A st lp cur) C):rI A st lp N (cur+1) [] C:=⟨λz c=>by rw [h.row z c];by_cases a:z<cur;rw [Oa a,Oa (by omega)];rw [Of a];by_cases b:z=cur;subst b;rw [Oa rfl,Oa (by omega)];rw [Of b,Of (by omega)];split<;>rfl⟩
def rI.bC(h:rI A st lp N cur pt C)(c:fS A)(d:N=A.ah.length*(st.length+lp.length))(e:pt.length<=16777216){z:Nat}(a:z<N):(C z).length<=16777216:=by have b:=Pp List.length (h.row z a);rw [NU]at b;rw [b];split;rw [aC];refine N5 (El A st lp _ _ _) (c.tl _ (dO ?_));rw [d]at a;exact RB (by rw [RJ];exact a);split;rw [aC];exact e;exact NS _
def rI.at(h:rI A st lp N N [] C){z:Nat}(a:z<N):(vz C N).getD z []=aH (LZ A st lp z):=by rw [jV C a,h.row z a,Oa a]
def LY(e:fS A)(m:0<lp.length){n k j:Nat}(l:n<A.ah.length)(i:k<st.length+lp.length):∀y∈xJ A st lp n k j,y<A.ah.length*(st.length+lp.length):=λy a=>by unfold xJ at a;split at a;obtain ⟨t,b,rfl⟩:=OC.1 a;have c:=e.lN _ (dO l) t (RA (Og.1 b).1);have o:=pC m i;have d:(t+1)*(st.length+lp.length)<=A.ah.length*(st.length+lp.length):=PY _ c;rw [Qz]at d;omega;cases a
def rI.inr(h:rI A st lp N N [] C)(c:fS A)(j:0<lp.length)(e:N=A.ah.length*(st.length+lp.length)):∀i,i<N->∀z∈(vz C N).getD i [],0<=z/\z<(N:Int):=λi a z b=>by
 rw [h.at a]at b;obtain ⟨y,k,rfl⟩:=lC b;have d:0<st.length+lp.length:=by omega
 rw [e]at a;have:=LY c j (RB (by rw [RJ];exact a)) (QV i d) y k;omega
def rI.along(h:rI A st lp N N [] C)(m:fS A)(p:0<lp.length)(v:gV st lp)(B:N=A.ah.length*(st.length+lp.length)):
 Dw A st lp (vz C N) (λk q=>q*(st.length+lp.length)+k) (λz=>z%(st.length+lp.length)) (λz=>z/(st.length+lp.length)):=by
 have o:∀k q,k<st.length+lp.length->q<A.ah.length->q*(st.length+lp.length)+k<N:=λk q c e=>by have b:(q+1)*(st.length+lp.length)<=A.ah.length*(st.length+lp.length):=PY _ e;rw [Qz]at b;omega
 refine ⟨λk q c _=>(dm c).2,λk q c _=>(dm c).1,λk q c e y=>?_⟩
 have s:=o k q c e
 have a:∀i k,i<A.ah.length->(iB A st lp i k=true↔ji (A.aw i).ak (A.aw i).aD (cJ st lp k)):=λi k w=>iK (m.bits _ (dO w)).1 (v.lt k p)
 unfold Own.gS
 rw [fO,h.at s,Dq c]
 have x:((y:Int)∈aH (xJ A st lp q k (A.aw q).tO.length))↔y∈xJ A st lp q k (A.aw q).tO.length:=
  ⟨λd=>by obtain ⟨t,b,j⟩:=lC d;have:y=t:=(by omega);exact this▸b,λd=>OC.2 ⟨y,d,rfl⟩⟩
 rw [x]
 unfold xJ
 rw [Q0]
 constructor
 rintro ⟨_,_,d⟩
 by_cases n:iB A st lp q k=true
 rw [Oa n]at d
 obtain ⟨t,b,j⟩:=OC.1 d
 obtain ⟨l,u⟩:=Og.1 b
 exact ⟨t,l,(a q k e).1 n,(a t _ (m.lN _ (dO e) t l)).1 u,j.symm⟩
 rw [Of n]at d;cases d
 rintro ⟨t,b,j,l,rfl⟩
 have r:=m.lN _ (dO e) t b
 refine ⟨s,o _ t (pC p c) r,?_⟩
 rw [Oa ((a q k e).2 j)]
 exact OC.2 ⟨t,Og.2 ⟨b,(a t _ r).2 l⟩,rfl⟩
end
structure tR (w8 wr:WD) (g h N:Nat) (V:Nat->Value) (C:Nat->List (Int×Int)) (f:Nat->Nat):Prop where
 ew:EW w8 wr g V N C
 LL:Sl wr 3 (SV h N N) N (ee N f)
 gh:g<h
 row:∀i b,i<N->(V i).ownBlock=some b->h<b
section
variable {w8 wr w1 w6:WD} {g h N:Nat} {V:Nat->Value} {C:Nat->List (Int×Int)} {f:Nat->Nat}
def tR.af(k:tR w8 wr g h N V C f)(a:BW wr w1):tR w8 w1 g h N V C f:=
 ⟨k.ew.af a,k.LL.aA (aj.aF a) (λg e s=>by have:=k.LL.lt g e;omega),k.gh,k.row⟩
def tR.set(k:tR w8 wr g h N V C f){i:Nat}(m:i<N)(v:Nat):tR w8 (wr.setCell (AD h i) (IV v)) g h N V C (up f i v)/\CA wr h i (IV (f i:Int))/\FZ wr h i:=by obtain ⟨c,d,l⟩:=Eh k.LL m v;have a:aj (λb=>b=h) wr (wr.setCell (AD h i) (IV v)):=(aj.refl (λb=>b=h) wr).setCell (p:=(AD h i)) (λ_=>rfl) _;have q:=k.ew.es.dJ;refine ⟨⟨⟨k.ew.es.aA a (λe=>by have:=k.gh;omega) (λj b n e s=>by have:=k.row j b n e;omega),k.ew.aM.trans (a.af k.ew.aM.size λb o e=>by have:=k.gh;omega)⟩,c,k.gh,k.row⟩,d,l⟩
def tR.facts{i c l:Nat}{d:OA}(k:tR w8 wr g h N V C f)(u:i<N)(t:V i=.slice d c l)(F:(C i).length=c):CA wr g i (.slice d c l)/\
 Hid (∀W,tR w8 W g h N V C f->W.ownsRow 0 66 2 (.slice d c l) c (bD (C i)))/\
 Hid (∀W w6,tR w8 W g h N V C f->aj (λb=>(Value.slice d c l).ownBlock=some b) W w6->FZ w6 g i/\CA w6 g i (.slice d c l)/\BW w8 w6)/\
 Hid (∀W w6 m x,tR w8 W g h N V C f->w6.ownsRow 0 66 2 m (c+1) (bD (C i++[x]))->aj (λb=>(Value.slice d c l).ownBlock=some b) W w6->dC W (.slice d c l) m->
  tR w8 (w6.setCell (AD g i) m) g h N (up V i m) (up C i (C i++[x])) f):=by
 obtain ⟨y,z,B,D⟩:=k.ew.facts u t F
 refine ⟨y,λW a=>z.o W a.ew,λW w6 a o=>B.o W w6 a.ew o,λW w6 m x a G o n=>?_⟩
 have q:aj (λb=>b=g) w6 (w6.setCell (AD g i) m):=(aj.refl (λb=>b=g) w6).setCell (p:=(AD g i)) (λ_=>rfl) _
 have v:∀b,(Value.slice d c l).ownBlock=some b->h<b:=λb e=>a.row i b u (by rw [t];exact e)
 refine ⟨D.o W w6 m x a.ew G o n,(a.LL.aA o (λb e s=>by cases e;exact OI _ (v _ s))).aA q (λb e s=>by cases e;have I:h=g:=s;have:=a.gh;omega),a.gh,λj b E e=>?_⟩
 by_cases r:j=i
 subst r
 rw [aB]at e
 rcases n with n|⟨H,w,n⟩
 rw [n]at e;exact v b e
 rw [w]at e;cases e
 have:=a.LL.lt h rfl
 omega
 rw [an _ _ _ _ r]at e;exact a.row j b E e
end
end
end Go.Proofs.YtimniinkpipnmaaGreatDoor
