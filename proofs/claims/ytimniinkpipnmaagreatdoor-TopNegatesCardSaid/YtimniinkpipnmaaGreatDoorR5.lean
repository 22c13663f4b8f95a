/- A part of the proof of TopNegates. -/
import Derived.Test.YtimniinkpipnmaaGreatDoorR4
set_option maxRecDepth 100000
set_option maxHeartbeats 8000000
set_option linter.all false
namespace Go.Proofs.YtimniinkpipnmaaGreatDoor.Scc
open Go.RowKit Go.Own
section
section
variable {E:List (List Int)} {Z:Nat->Prop} {s:St}
def fk.bump(h:fk E Z s){x:Nat}{tz:Int}(c:x∈s.cR)(b:s.next x<kV E x)(a:(E.getD x []).getD (s.next x) 0=tz)
 (d:∀y:Nat,y<E.length->tz=(y:Int)->s.aW y≠0/\(y∈s.aS->s.bL x<=s.aW y)):fk E Z (s.bump x):=⟨h.inv.bump c b a d,h.cO,h.bC,h.aX⟩
def fk.lower(h:fk E Z s){x y:Nat}(b:x∈s.aS)(c:y∈s.aS)(a:Own.br E x y):fk E Z (s.lower x (s.aW y)):=⟨h.inv.lower b c a,h.cO,h.bC,h.aX⟩
def fk.mono{Z':Nat->Prop}(h:fk E Z s)(b:∀v,Z' v->Z v):fk E Z' s:=⟨h.inv,h.cO,h.bC,λv a=>h.aX v (b v a)⟩
def fk.step(h:fk E Z s){x y:Nat}{b:Int}(j:x∈s.cR)(m:s.next x<kV E x)(d:(E.getD x []).getD (s.next x) 0=b)(e:b=(y:Int))(q:y<E.length)(g:s.aW y=0)
 (o:∀v∈s.cR,Own.br E v y):fk E Z ((s.bump x).fU y):=by
 have k:=(h.fU q g o).mono (Z':=Z) (λv p=>.inl p)
 have a:=h.inv.eS j
 have f:x≠y:=λe=>(h.inv.mem x a).2 (by rw [e];exact g)
 have l:=k.bump (x:=x) (tz:=b) (by show x∈s.cR++[y];exact Oo _ j) m d (λc r t=>by
  have:c=y:=by omega
  subst this;have i:(s.fU c).aW c=s.cO+1:=aB _ _ _;refine ⟨by rw [i];omega,λ_=>?_⟩;have n:(s.fU c).bL x=s.bL x:=an _ _ _ _ f;rw [i,n];have:=(h.inv.bL x a).1;have:=h.inv.cO x (h.inv.mem x a).1;omega)
 exact l
def fk.back(h:fk E Z s){x y:Nat}{a:Int}(f:x∈s.cR)(k:s.next x<kV E x)(c:(E.getD x []).getD (s.next x) 0=a)(e:a=(y:Int))(g:y∈s.aS)
 (l:Own.br E x y):fk E Z ((s.bump x).lower x (s.aW y)):=by
 have d:=h.inv.eS f
 have i:=h.lower d g l
 have j:=i.bump (x:=x) (tz:=a) f k c (λb m n=>by
  have:b=y:=by omega
  subst this;refine ⟨(h.inv.mem b g).2,λ_=>?_⟩;show up s.bL x (min (s.bL x) (s.aW b)) x<=s.aW b;rw [aB];omega)
 exact j
def MQ(E:List (List Int))(s:St)(x:Nat):Prop:=s.next x=kV E x
def GU{x y k:Nat}(c:x<E.length)(d:y<E.length)(b:k<kV E x)(e:(E.getD x []).getD k 0=(y:Int)):gS E x y:=by refine ⟨c,d,?_⟩;have a:k<(E.getD x []).length:=b;rw [<-e,O6 (l:=E.getD x []),QA a];exact R9 a
end
def Jk(I w:WD)(g:Nat)(ae:OA)(n Y:Nat)(E:List (List Int))(s:St)(F:Nat->Prop)(Z:Nat->Prop)(hE:E.length=n)(he:eQ I ae E)(hn:n<=1000000)(aC:∀i,i<E.length->(E.getD i []).length<=1000000000)
 (h:qQ w g (.slice ae n Y) n s F) (hF:∀b,F b->I.heap.size<=b) (hb:Below I.heap.size I w) (c:fk E Z s) (hw:s.cR=[]) (N:Nat) (hx:N<n) (h0:s.aW N=0):
 Calls Tryz.prog 126 #[PT g,IV N] w λe w'=>e=RT (.tuple #[])/\
  ∃a F',qQ w' g (.slice ae n Y) n a F'/\(∀b,F' b->I.heap.size<=b)/\Below I.heap.size I w'/\fk E (λv=>Z v\/v=N) a/\a.cR=[]:=by
 have U:=Oi hE
 have bG:=Oi he
 have bM:=Oi aC
 have HP:=Oi c
 have a2:Hid (∀W,W=w.alloc (.cells #[PT g] 170)->WR I W g w.heap.size (.slice ae n Y) n s):=by rintro W rfl;have bf:Below w.heap.size w (w.alloc (.cells #[PT g] 170)):=(Nx _ w).alloc (Nz _) _;refine ⟨F,h.af bf,λb bc=>⟨hF b bc,λe=>?_⟩,hb.trans (bf.mono hb.size),OK (w:=w) _ 170 w.heap.size 0 rfl⟩;obtain ⟨C,X,h⟩:=h;have:=h.lt b bc;omega
 have ah:s.cO<=1000000000:=by have:=c.cO;omega
 have ao:s.aS.length<=1000000000:=by have:=c.bC;omega
 have aq:s.cR.length<=1000000000:=by have:=c.Du;omega
 have aV:=Oi λW (hW:WR I W g w.heap.size (.slice ae n Y) n s)=>Ep hW N hx (by omega) ah ao aq
 have a0:Hid (fk E (λv=>Z v\/v=N) (s.fU N)):=c.fU (by(try unfold BW);rw [hE];exact hx) h0 (λv hv=>by rw [hw]at hv;cases hv)
 have HW:Hid (s.cR=[]):=hw
 have HX:=Oi hx
 have HN:=Oi hn
 clear hE he aC h hF hb c hw h0 ah ao aq hx
 go_enter Tryz.func126,Tryz.ntmps126
 go_wp2_with fail
 go_step3
 go_wp2_with fail
 refine (aV.o _ (a2.o _ rfl)).mono ?_
 rintro e w2 ⟨rfl,aN⟩
 clear aV a2
 have H:=aN.o.bU
 (try unfold BW at *);generalize w.heap.size=q at *
 generalize bW:s.fU N=s1 at *
 clear bW
 go_wp2_with fail
 go_step3
 go_wp2_with fail
 clear H
 go_loopg [] (2*qJ n s1+s1.cR.length) (λk wr=>∃s,Hid (k=2*qJ n s+s.cR.length)/\Hid (WR I wr g q (.slice ae n Y) n s)/\Hid (fk E (λv=>Z v\/v=N) s))
 exact ⟨s1,rfl,aN,a0⟩
 clear HP HW aN a0
 obtain ⟨s,hk,V,c⟩:=hrel
 obtain ⟨wo,rfl⟩:∃wo:WD,wo=wr:=⟨_,rfl⟩
 generalize gk=k0 at *
 have H:=V.o.bU
 obtain ⟨a5,d5,c5,f5,l5,m5,a4,bY⟩:=V.o.IF
 have aS:=Oi a4
 clear a4 bY
 rcases Rr s.cR with hw|⟨W,x,hw⟩
 ·rw [hw,List.length_nil]at c5;have HF:Hid (∃a F',qQ wo g (.slice ae n Y) n a F'/\(∀b,F' b->I.heap.size<=b)/\Below I.heap.size I wo/\fk E (λv=>Z v\/v=N) a/\a.cR=[]):=by obtain ⟨F',h1,h2,h3,h4⟩:=V.o;exact ⟨s,F',h1,λb hb=>(h2 b hb).1,h3,c.o,hw⟩
  clear l5 m5 hw;go_wp2_with fail;rw [Exit.noGoto_normal];go_end0;exact ⟨rfl,HF.o⟩
 ·rw [Rq]at hw;have K:s.cR.length=W.length+1:=by rw [hw];simp
  obtain ⟨b5,rfl,cx⟩:=aS.o W.length (by omega);have bk:s.cR.getD W.length 0=x:=by rw [hw];simp [List.getD]
  rw [bk]at cx;rw [K]at c5 l5;have S:x∈s.cR:=by rw [hw];simp
  have bX:x<n:=by rw [<-U.o];exact (c.o.inv.mem x (c.o.inv.eS S)).1
  have aH:=Oi hw;have t:=Oi bX;have bx:(x:Int)<(n:Int):=by omega
  have be:Hid (W.length<=1000000):=by have h1:=c.o.Du;have h2:=c.o.cO;have h3:=U.o;have h4:=HN.o;show _<=_;omega
  have hm:=be.o;have al:(W.length:Int)<(W.length:Int)+1:=by omega
  have aD:wrap64 (W.length:Int)=(W.length:Int):=by unfold wrap64;omega
  clear aS K bk S hw l5 m5;generalize bd:W.length=m at *;have o:=Oi bd;clear bd;go_wp2_with fail;go_quiet (fail);have a1:=Oi (V.o.af (below_drewN wo nq));clear V H c5 f5 cx aD al bx;generalize wo.drewN nq=w4 at *;go_wp2_with fail;go_loopg [] (kV E x-s.next x) (λk wr=>∃a,Hid (k=kV E x-a.next x)/\Hid (WR I wr g q (.slice ae n Y) n a)/\Hid (fk E (λv=>Z v\/v=N) a)/\Hid (a.cR=W++[x])/\Hid (qJ n a=qJ n s));exact ⟨s,rfl,a1,c,aH,rfl⟩;clear a1 c;obtain ⟨a,bQ,V,c,d,ab⟩:=hrel;obtain ⟨wi,rfl⟩:∃wi:WD,wi=wr:=⟨_,rfl⟩;generalize gk=k1 at *;have S:Hid (x∈a.cR):=(show x∈a.cR by rw [d.o];simp);have aQ:Hid (x∈a.aS):=c.o.inv.eS S.o;have H:=V.o.bU;have bj:=V.o.eB;obtain ⟨b3,d3,c3,n3,f3,bA⟩:=V.o.IE x t.o;have a3:=Oi bA;obtain ⟨bE,oE,ai,ci,rfl,a9,ba⟩:=(bG.o.af V.o.aM).at x (by(try unfold BW);rw [U.o];exact t.o);have aF:=Oi ba;have ca:=bM.o x (by(try unfold BW);rw [U.o];exact t.o);have aM:a.next x<=kV E x:=c.o.inv.next x (by(try unfold BW);rw [U.o];exact t.o);unfold kV at aM;have bx:(x:Int)<(n:Int):=by have:=t.o;omega
  have b0:Hid (kV E x=(E.getD x []).length):=rfl;clear bA ba;by_cases D:a.next x<(E.getD x []).length
  ·obtain ⟨bR,oR,rfl,cz,_⟩:=aF.o _ D;have cd:(a.next x:Int)<((E.getD x []).length:Int):=by omega
   have bU:(a.next x:Int)<=1000000000:=by omega
   have b1:=Oi D;have aE:Hid (∀(_:∀y:Nat,y<E.length->(E.getD x []).getD (a.next x) 0=(y:Int)->a.aW y≠0/\(y∈a.aS->a.bL x<=a.aW y)),fk E (λv=>Z v\/v=N) (a.bump x)):=λhy=>c.o.bump S.o D rfl hy;have ay:Hid (∀y:Nat,y<E.length->(E.getD x []).getD (a.next x) 0=(y:Int)->gS E x y):=λy hy e=>GU (by(try unfold BW);rw [U.o];exact t.o) hy D e;have bF:Hid (∀y:Nat,y<E.length->(E.getD x []).getD (a.next x) 0=(y:Int)->a.aW y=0->fk E (λv=>Z v\/v=N) ((a.bump x).fU y)):=λy hy e h0=>
    c.o.step S.o D rfl e hy h0 (λv hv=>by
     have bh:=Own.br.zn (ay.o y hy e);have aL:=c.o.inv.mL;rw [d.o]at hv aL;rw [NY,Nv]at hv;rw [O2]at aL;rcases hv with hv|rfl
     ·exact (aL.2.2 v hv x (by simp)).trans bh
     ·exact bh)
   have bC:Hid (∀y:Nat,y<E.length->(E.getD x []).getD (a.next x) 0=(y:Int)->y∈a.aS->fk E (λv=>Z v\/v=N) ((a.bump x).lower x (a.aW y))):=λy hy e T=>
    c.o.back S.o D rfl e T (Own.br.zn (ay.o y hy e))
   have au:Hid (kV E x-(a.bump x).next x<k1):=by have h1:=bQ.o;have h2:(a.bump x).next x=a.next x+1:=aB _ _ _;have h3:a.next x<kV E x:=D;show _<_;omega
   have aA:=(c.o.inv.bL x aQ.o).1;have ac:=Oi aA;clear aM D aA;generalize hz:(E.getD x []).getD (a.next x) 0=z at *;have HZ:=Oi hz;clear hz;generalize (E.getD x []).length=L at *;generalize bq:a.next x=nx at *;have aZ:=Oi bq;clear bq;go_wp2_with fail;go_quiet (fail);go_wp2_with fail;go_quiet (fail);have ad:=Oi λq1 q2=>(V.o.af (below_drewN wi q1)).af (below_drewN (wi.drewN q1) q2);clear H bj c3 n3 f3 a3 a9 cz aF V;generalize ap:(wi.drewN _).drewN _=w6;have P:Hid (WR I w6 g q (.slice (some (AD bE oE)) n Y) n a):=by rw [<-ap];exact ad.o _ _
   clear ap ad;obtain ⟨b6,d6,c6,n6,f6,bB⟩:=P.o.IE x t.o;rw [aZ.o]at n6;have Q:=P.o.bU;have f:Hid (WR I (w6.setCell (AD b6 x) (IV ((nx:Int)+1))) g q (.slice (some (AD bE oE)) n Y) n (a.bump x)):=by
    have h:=bB (nx+1);rw [show((nx+1:Nat):Int)=(nx:Int)+1 by omega]at h;have e:(a.bump x)={a with next:=up a.next x (nx+1)}:=by unfold St.bump;rw [aZ.o]
    rw [e];exact h
   clear bB;go_upto_region 8 with(fail);generalize w6.setCell (AD b6 x) (IV ((nx:Int)+1))=w7 at *;clear c6 n6 f6 Q P;have R:=f.o.bU;have bZ:=f.o.eB;by_cases M:z<0
   ·have t0:decide (z<0)=true:=N6 M;have O:=Oi (aE.o (λy hy e=>by omega))
    clear M;go_wp2;go_roundg (kV E x-(a.bump x).next x);case measure=>exact au.o
    case rel=>exact ⟨a.bump x,rfl,f,O,d,ab⟩
   ·by_cases ag:(n:Int)<=z
    ·have t0:decide (z<0)=false:=NX M;have t1:decide ((n:Int)<=z)=true:=N6 ag
     have O:=Oi (aE.o (λy hy e=>by rw [U.o]at hy;omega));clear M ag;go_wp2;go_roundg (kV E x-(a.bump x).next x);case measure=>exact au.o
     case rel=>exact ⟨a.bump x,rfl,f,O,d,ab⟩
    ·obtain ⟨y,rfl⟩:=Int.eq_ofNat_of_zero_le (show 0<=z by omega);have ax:y<n:=by omega
     have cc:(y:Int)<(n:Int):=by omega
     have aw:Hid (y<E.length):=by show _<_;rw [U.o];exact ax
     have aI:=Oi ax;obtain ⟨bn,dn,cn,nn⟩:=f.o.rdNum y ax;have t0:decide ((y:Int)<0)=false:=NX (by omega);have t1:decide ((n:Int)<=(y:Int))=false:=NX (by omega);have t2:decide (n<=y)=false:=NX (by omega);have ez:(a.bump x).aW y=a.aW y:=rfl;rw [ez]at nn;clear M ag ax ez;by_cases h0:a.aW y=0
     ·have bK:=Oi (bF.o y aw.o rfl h0);have bg:=c.o.cO
      have bO:=c.o.bC;have bP:=c.o.Du;rw [U.o]at bg;have bD:=Oi (Ep f.o y aI.o (by omega) (by show a.cO<=_;omega) (by show a.aS.length<=_;omega) (by show a.cR.length<=_;omega));have bJ:Hid (2*qJ n ((a.bump x).fU y)+((a.bump x).fU y).cR.length<k0):=by
       have h1:=hk.o;have h2:qJ n (a.bump x)=qJ n ((a.bump x).fU y)+1:=BK n (a.bump x) y aI.o h0;have h3:qJ n (a.bump x)=qJ n s:=ab.o;have h4:((a.bump x).fU y).cR.length=a.cR.length+1:=by show(a.cR++[y]).length=_;simp
       have h5:a.cR.length=s.cR.length:=by rw [d.o,aH.o]
       show _<_;omega
      rw [h0]at nn;clear h0 bg bO bP;go_wp2_with fail;refine bD.o.mono ?_;rintro e w8 ⟨rfl,u⟩;go_wp2;go_roundg (2*qJ n ((a.bump x).fU y)+((a.bump x).fU y).cR.length);case measure=>exact bJ.o
      case rel=>exact ⟨_,rfl,u,bK⟩
     ·obtain ⟨bi,di,b2,aR⟩:=f.o.My y aI.o;have bb:(a.bump x).aT y=a.aT y:=rfl
      rw [bb]at aR;have hq:((a.aW y:Int)==0)=false:=Pk.2 (by omega);have b9:(a.aW y==0)=false:=Pk.2 h0;clear bb;by_cases aa:a.aT y=true
      ·have T:=(c.o.inv.aT y aw.o).1 aa;have O:=Oi (bC.o y aw.o rfl T)
       have bH:=Oi (xi f.o x (a.aW y) t.o);rw [aa]at aR;clear aa h0 T;generalize a.aW y=ny at *;go_wp2_with fail;refine bH.o.mono ?_;rintro e w8 ⟨rfl,u⟩;go_wp2;go_roundg (kV E x-(a.bump x).next x);case measure=>exact au.o
       case rel=>exact ⟨(a.bump x).lower x ny,rfl,u,O,d,ab⟩
      ·have az:a.aT y=false:=by simpa using aa
       have T:y∉a.aS:=λh=>aa ((c.o.inv.aT y aw.o).2 h);have O:=Oi (aE.o
        (λy' cb e=>(by obtain rfl:y'=y:=(by omega);exact ⟨h0,λh=>absurd h T⟩)))
       rw [az]at aR;clear aa az h0 T;generalize a.aW y=ny at *;go_wp2;go_roundg (kV E x-(a.bump x).next x);case measure=>exact au.o
       case rel=>exact ⟨_,rfl,f,O,d,ab⟩
  ·have aj:a.next x=kV E x:=Sk (c.o.inv.next x (by(try unfold BW);rw [U.o];exact t.o)) (by unfold kV;omega);have aX:Hid (MQ E a x):=aj
   have b4:¬((a.next x:Int)<((E.getD x []).length:Int)):=by omega
   have b8:decide (a.next x<(E.getD x []).length)=false:=NX D;have bI:=Oi (And.intro (c.o.inv.bL x aQ.o).1 (c.o.inv.L6 d.o));have bU:(a.next x:Int)<=1000000000:=by omega
   clear aM D aj aF;generalize (E.getD x []).length=L at *;generalize a.next x=nx at *;go_wp2_with fail;go_quiet (fail);have ad:=Oi λq1=>V.o.af (below_drewN wi q1);clear H bj c3 n3 f3 a3 a9 V;generalize ap:wi.drewN _=w6;have P:Hid (WR I w6 g q (.slice (some (AD bE oE)) n Y) n a):=by rw [<-ap];exact ad.o _
   clear ap ad;obtain ⟨a6,d6,c6,f6,l6,m6,a8,bz⟩:=P.o.IF;have K:a.cR.length=m+1:=by rw [d.o,Pj,o.o];rfl
   rw [K]at c6 l6;obtain ⟨b6,rfl,_⟩:=a8 0 (by omega);have Q:=P.o.bU;have f:Hid (WR I (w6.setCell (AD g 5) (SV b6 m d6)).drew g q (.slice (some (AD bE oE)) n Y) n {a with cR:=W}):=by have h:=bz m (by omega);rw [d.o,show(W++[x]).take m=W by rw [<-o.o,List.take_left]]at h;exact h.af (Nx _ _).drew
   clear bz a8 K;have hm:=be.o;have aD:wrap64 (m:Int)=(m:Int):=by unfold wrap64;omega
   have bT:(m:Int)<=(d6:Int):=by omega
   have bp:m<=d6:=by omega
   have al:(m:Int)<(m:Int)+1:=by omega
   go_upto_region 13 with(fail);refine dH 12 (by kernel_rfl) (by kernel_rfl) ?_;simp only [Q7,PQ,Q5,RK];repeat(go_big_quiet_step (fail))
   refine SG ?_;clear bI;go_upto_region 14 with(fail);generalize (w6.setCell (AD g 5) (SV b6 m d6)).drew=w7 at *;clear c6 f6 l6 m6 Q bT bp al P;have R:=f.o.bU;obtain ⟨a7,d7,c7,f7,l7,m7,aJ,_⟩:=f.o.IF;have aq:({a with cR:=W}:St).cR.length=m:=o.o;rw [aq]at c7 l7 aJ;have aU:=Oi aJ;obtain ⟨bl,dl,cl,nl⟩:=f.o.Mz x t.o;have bo:({a with cR:=W}:St).bL x=a.bL x:=rfl;rw [bo]at nl;have ah:=c.o.cO;rw [U.o]at ah;have bt:a.aS.length<=1000000000:=by have:=c.o.bC;omega
   have bv:qJ n a=qJ n s:=ab.o;have bm:2*qJ n a+m<k0:=by
    have h1:=hk.o;have h2:s.cR.length=m+1:=by rw [aH.o,Pj,o.o];rfl
    omega
   have aG:=Oi bm;have bN:=Oi bt;clear aJ f7 m7 aq bo ah bt bv bm;by_cases l:a.bL x=a.aW x
   ·obtain ⟨A,B,hs⟩:=List.append_of_mem aQ.o;have bs:=c.o.inv.root d.o aX.o l hs (A1 x B) (J8 x B)
    have bw:x∉B:=λhm=>by have bu:=c.o.inv.sorted;rw [hs,O2,SO]at bu;have:=bu.2.1.1 x hm;omega
    have ar:=Oi λw8 (h8:WR I w8 g q (.slice (some (AD bE oE)) n Y) n {a with cR:=W})=>KM h8 x A B hs bw (λv hv=>by rw [<-U.o];exact (c.o.inv.mem v (by rw [hs];exact OO _ hv)).1) l (by omega) bN.o
    have av:Hid (fk E (λv=>Z v\/v=N) (a.off W A (x::B) (pB (x::B)))):=⟨bs,c.o.cO,by have h1:=c.o.bC;rw [hs,Pj]at h1;show A.length<=a.cO;omega,c.o.aX⟩
    have aY:Hid (∀p∈W,a.bL p<=a.bL x):=λp G=>by have h1:=c.o.inv.MI d.o p G;have h2:=(c.o.inv.bL p (c.o.inv.eS (by rw [d.o];exact Oo _ G))).1;omega
    clear hs bs bw l;generalize pB (x::B)=mn at *;rcases Rr W with j|⟨W',p,j⟩
    ·have bS:m=0:=by rw [<-o.o,j];rfl
     subst bS;clear j l7;go_wp2_with fail;refine (ar.o _ f.o).mono ?_;rintro e w8 ⟨rfl,u⟩;go_wp2;go_roundg (2*qJ n a);case measure=>have:=aG.o;omega
     case rel=>exact ⟨a.off W A (x::B) mn,(by show 2*qJ n a=2*qJ n a+W.length;have:=o.o;omega),u,av⟩
    ·rw [Rq]at j;obtain ⟨r,rfl⟩:∃r,m=r+1:=⟨W'.length,by rw [<-o.o,j];simp⟩
     have ak:W.getD r 0=p:=by
      have:W'.length=r:=by have:=o.o;rw [j]at this;simpa using this
      rw [j,<-this];simp [List.getD]
     obtain ⟨b7,rfl,cp⟩:=aU.o r (by omega);have J:({a with cR:=W}:St).cR.getD r 0=p:=ak;rw [J]at cp;have G:p∈W:=by rw [j];simp
     have am:p<n:=by rw [<-U.o];exact (c.o.inv.mem p (c.o.inv.eS (by rw [d.o];exact Oo _ G))).1
     have ac:=Oi (xi (f.o.af (Nx _ _).drew) p (a.bL x) am);rw [CI _ _ _ (show({a with cR:=W}:St).bL p<=a.bL x from aY.o p G)]at ac;have bV:(p:Int)<(n:Int):=by omega
     have al:(r:Int)<(r:Int)+1:=by omega
     have aP:wrap64 (r:Int)=(r:Int):=by unfold wrap64;omega
     clear ak J G j am aY;generalize a.bL x=lx at *;go_wp2_with fail;refine dH 20 (by kernel_rfl) (by kernel_rfl) ?_;simp only [Q7,PQ,Q5,RK];repeat(go_big_quiet_step (fail))
     refine SG ?_;go_wp2_with fail;refine ac.o.mono ?_;rintro e w8 ⟨rfl,u⟩;have aK:=u.o.bU;clear c7 nl cl cp R;go_wp2_with fail;refine (ar.o _ u.o).mono ?_;rintro e w9 ⟨rfl,aO⟩;go_wp2;go_roundg (2*qJ n a+(r+1));case measure=>exact aG.o
     case rel=>exact ⟨a.off W A (x::B) mn,(by show 2*qJ n a+(r+1)=2*qJ n a+W.length;have:=o.o;omega),aO,av⟩
   ·obtain ⟨W',p,j,ao⟩:=c.o.inv.cW d.o aX.o l;obtain ⟨r,rfl⟩:∃r,m=r+1:=⟨W'.length,by rw [<-o.o,j];simp⟩
    have ak:W.getD r 0=p:=by
     have:W'.length=r:=by have:=o.o;rw [j]at this;simpa using this
     rw [j,<-this];simp [List.getD]
    obtain ⟨b7,rfl,cp⟩:=aU.o r (by omega);have J:({a with cR:=W}:St).cR.getD r 0=p:=ak;rw [J]at cp;have G:p∈W:=by rw [j];simp
    have am:p<n:=by rw [<-U.o];exact (c.o.inv.mem p (c.o.inv.eS (by rw [d.o];exact Oo _ G))).1
    have br:p≠x:=λe=>by have:=c.o.inv.MI d.o p G;rw [e]at this;omega
    have ac:=Oi (xi (f.o.af (Nx _ _).drew) p (a.bL x) am);have ar:=Oi λw8 (h8:WR I w8 g q (.slice (some (AD bE oE)) n Y) n (({a with cR:=W}:St).lower p (a.bL x)))=>KN h8 x t.o (by have e1:(({a with cR:=W}:St).lower p (a.bL x)).bL x=a.bL x:=an _ _ _ _ (P4 br);rw [e1];exact l)
    have av:Hid (fk E (λv=>Z v\/v=N) (({a with cR:=W}:St).lower p (a.bL x))):=⟨ao,c.o.cO,c.o.bC,c.o.aX⟩;have bV:(p:Int)<(n:Int):=by omega
    have al:(r:Int)<(r:Int)+1:=by omega
    have aP:wrap64 (r:Int)=(r:Int):=by unfold wrap64;omega
    clear ak J G j am l ao br;generalize a.bL x=lx at *;go_wp2_with fail;refine dH 20 (by kernel_rfl) (by kernel_rfl) ?_;simp only [Q7,PQ,Q5,RK];repeat(go_big_quiet_step (fail))
    refine SG ?_;go_wp2_with fail;refine ac.o.mono ?_;rintro e w8 ⟨rfl,u⟩;have aK:=u.o.bU;clear c7 nl cl cp R;go_wp2_with fail;refine (ar.o _ u.o).mono ?_;rintro e w9 ⟨rfl,aO⟩;go_wp2;go_roundg (2*qJ n a+(r+1));case measure=>exact aG.o
    case rel=>exact ⟨({a with cR:=W}:St).lower p lx,(by show 2*qJ n a+(r+1)=2*qJ n a+W.length;have:=o.o;omega),aO,av⟩
end
def QK:=@Nat.not_lt_zero
def Tryz.nV:(Tryz.prog.info? 4).map (λi=>(i.zero,i.size,i.bytes))=some (some (.bool false),1,1):=by kernel_rfl
def JH(a b c d e f:OA)(h g n:Nat):Tryz.prog.built 172 [(0,.slice a h g),(1,.slice b n n),(2,.slice c n n),(3,.slice d n n),(6,.slice e n n),(7,.slice f n n)]=
 some #[.slice a h g,.slice b n n,.slice c n n,.slice d n n,SN,SN,.slice e n n,.slice f n n,IV 0]:=by kernel_rfl
def St.aK:St:=⟨λ_=>0,λ_=>0,λ_=>0,λ_=>0,λ_=>false,[],[],0⟩
def jf(n:Nat):fK n (λ_=>0)=List.replicate n (IV 0):=by refine PD (by simp [fK]) λi a b=>?_;simp [fK]
def fH(n:Nat):bA n (λ_=>false)=List.replicate n (.bool false):=by refine PD (by simp [bA]) λi a b=>?_;simp [bA]
def fk.aK(E:List (List Int)):fk E (λ_=>False) St.aK where
 inv:={
  mem:=λv a=>by cases a
  aT:=λv _=>⟨λh=>(by cases h),λh=>(by cases h)⟩
  sorted:=List.Pairwise.nil
  sub:=List.Sublist.slnil
  cO:=λv _=>Nz _
  mL:=List.Pairwise.nil
  Ks:=λv a=>by cases a
  aX:=λv y _ h=>by have b:=h.2;rw [show St.aK.next v=0 from rfl,PQ]at b;cases b
  bL:=λv a=>by cases a
  done:=λv _ h=>absurd rfl h
  full:=λv _ h=>absurd rfl h
  next:=λv _=>NS _
  fresh:=λv _ _=>rfl}
 cO:=by
  show 0+qJ E.length St.aK=E.length;unfold qJ;rw [Od];have:(List.range E.length).countP (λv=>decide (St.aK.aW v=0))=(List.range E.length).length:=by rw [List.countP_eq_length];intro v _;rfl
  rw [this,List.length_range]
 bC:=Nz _
 aX:=λv h=>h.elim
def mw(E:List (List Int)):List Int:=(List.range E.length).map λi=>((oC E i i i:Nat):Int)
def fk.aR{E:List (List Int)}{Z:Nat->Prop}{s:St}(h:fk E Z s)(hw:s.cR=[])(a:∀v,v<E.length->s.aW v≠0):fK E.length s.part=(mw E).map (Value.int .i64):=by unfold fK mw;rw [List.map_map];refine List.map_congr_left λi d=>?_;have b:=Oq.1 d;have c:=(h.inv.done i b (a i b) (by rw [h.inv.empty hw];exact λh=>by cases h)).1;show IV (s.part i:Int)=IV _;rw [c.unique (py E i)]
def Lf(E:List (List Int))(w:WD)(e:Ending)(b:WD):Prop:=∃a c,e=RT (.slice a E.length c)/\aE .i64 3 w b (.slice a E.length c) (mw E)
def Ex(w a:WD)(g:Nat)(c:Value)(n:Nat)(E:List (List Int))(i:Nat):Prop:=
 ∃s F,qQ a g c n s F/\(∀b,F b->w.heap.size<=b)/\BW w a/\fk E (λv=>v<i) s/\s.cR=[]
def FY(E:List (List Int)):(mw E).length=E.length:=by simp [mw]
def Ex.end{w i:WD}{g:Nat}{l:Value}{E:List (List Int)}(h:Ex w i g l E.length E E.length):
 ∃a c,i.cell? (AD g 7)=some (.slice a E.length c)/\aE .i64 3 w i (.slice a E.length c) (mw E):=by
 obtain ⟨s,F,⟨C,X,d⟩,m,n,j,o⟩:=h
 have k:=j.aR o (λv q=>j.aX v q)
 obtain ⟨a,c,e,_⟩:=d.str.val 7 ⟨by decide,by decide⟩
 have r:(X 7).length=E.length:=by rw [d.part,cV]
 have f:=d.str.cK 7 ⟨by decide,by decide⟩
 rw [r]at e f
 rw [e,d.part,k]at f
 refine ⟨a,c,by rw [d.str.cell 7 (by decide),e],⟨by rw [FY];exact f,n,λb p=>m b (d.fe b (.inr ⟨7,⟨by decide,by decide⟩,by rw [e];exact p⟩))⟩⟩
def Ir{P:Program}{w:WD}{o:Oper}{a:Act}{K:Act->WD->Prop}{Q:Exit->Act->WD->Prop}(t:TypeId)(b:Array (Nat×Operand))(c:o.op=Op.build t b)(f:List (Nat×Value))
 (h:(b.map λ(i,x)=>(i,a.eval x)).toList=f) (d:Array Value) (e:P.built t f=some d) (g:K (a.put o.dst (.agg d)) w):aY P o a w K Q:=by
 subst h
 constructor
 refine wp_build t b c ?_ ?_
 rw [e];rfl
 rw [e];exact g
def Kq(P:Program)(t:TypeId)(a:Array Value)(w:WD):(Instr.box t (.agg a)).run P w=.ok (PT w.heap.size) (w.alloc (.cells a t)):=rfl
def LN{P:Program}{w:WD}{o:Oper}{a:Act}{K:Act->WD->Prop}{Q:Exit->Act->WD->Prop}(t:TypeId)(x:Operand)(b:o.op=Op.box t x)(c:Array Value)
 (e:a.eval x=.agg c) (d:K (a.put o.dst (PT w.heap.size)) (w.alloc (.cells c t))):aY P o a w K Q:=by
 constructor
 unfold Oper.wp
 simp only [execOp,b,e,Kq,P8,Po]
 exact d
abbrev MJ(n:Nat)(a:WD)(V:Nat->Value)(w:WD):Prop:=
 uZ [3,5,7,9,11] (λi=>i+9) (λi=>if i=9 then 4 else 3) (λi=>if i=9 then .bool false else IV 0) n a #[true,true,true,true,true,true,true,true,true,true,true,true,false,false,false] V w
def bP(f:Value)(n a b c d e:Nat):Array Value:=#[f,SV a n n,SV b n n,SV c n n,SN,SN,SV d n n,SV e n n,IV 0]
def BB(a:OA)(n g b c d e f:Nat):Tryz.prog.built 172 [(0,.slice a n g),(1,SV b n n),(2,SV c n n),(3,SV d n n),(6,SV e n n),(7,SV f n n)]=some (bP (.slice a n g) n b c d e f):=JH _ _ _ _ _ _ _ _ _
def jQ(n:Nat)(k:Nat):List Value:=if k=6 then List.replicate n (.bool false)else if k=4\/k=5 then []else List.replicate n (IV 0)
def vk{w b c:WD}(a:BW w b)(h:aj (λ_=>False) b c):BW w c:=
 a.trans (h.af a.size (λ_ _ h=>h.elim))
def FK{w O o:WD}{ev:Value}{n:Nat}{E:List (List Int)}{V:Nat->Value}{c d f g l:Nat}(N:BW w O)(a:MJ n O V o)
 (P:V 12=SV c n n) (Q:V 14=SV d n n) (R:V 16=SV f n n) (S:V 18=SV g n n) (T:V 20=SV l n n):
 Ex w (o.alloc (.cells (bP ev n c d f g l) 172)) o.heap.size ev n E 0:=by
 have s:=a.dE 3 (by simp) (by decide)
 have t:=a.dE 5 (by simp) (by decide)
 have u:=a.dE 7 (by simp) (by decide)
 have x:=a.dE 9 (by simp) (by decide)
 have y:=a.dE 11 (by simp) (by decide)
 have A:=a.apart 3 (by simp) 5 (by simp) (by decide) (by decide) (by decide)
 have B:=a.apart 3 (by simp) 7 (by simp) (by decide) (by decide) (by decide)
 have C:=a.apart 3 (by simp) 9 (by simp) (by decide) (by decide) (by decide)
 have D:=a.apart 3 (by simp) 11 (by simp) (by decide) (by decide) (by decide)
 have F:=a.apart 5 (by simp) 7 (by simp) (by decide) (by decide) (by decide)
 have G:=a.apart 5 (by simp) 9 (by simp) (by decide) (by decide) (by decide)
 have H:=a.apart 5 (by simp) 11 (by simp) (by decide) (by decide) (by decide)
 have I:=a.apart 7 (by simp) 9 (by simp) (by decide) (by decide) (by decide)
 have J:=a.apart 7 (by simp) 11 (by simp) (by decide) (by decide) (by decide)
 have K:=a.apart 9 (by simp) 11 (by simp) (by decide) (by decide) (by decide)
 simp only [Nat.reduceAdd,Nat.reduceEqDiff,if_true,if_false,P,Q,R,S,T,Value.ownBlock,ne_eq,PK]at s t u x y A B C D F G H I J K
 obtain ⟨s,_,W,l1⟩:=s
 obtain ⟨t,_,X,l2⟩:=t
 obtain ⟨u,_,Y,l3⟩:=u
 obtain ⟨x,_,Z,l6⟩:=x
 obtain ⟨y,_,q7,l7⟩:=y
 cases W;cases X;cases Y;cases Z;cases q7
 have t1:=s.lt c rfl
 have t2:=t.lt d rfl
 have t3:=u.lt f rfl
 have t6:=x.lt g rfl
 have t7:=y.lt l rfl
 have q:BW w o:=vk N a.aA
 have m:∀k,GA k->k=1\/k=2\/k=3\/k=4\/k=5\/k=6\/k=7:=λk ⟨z,M⟩=>by omega
 have p:Rec 9 GA L0 (o.alloc (.cells (bP ev n c d f g l) 172)) o.heap.size (λk=>(bP ev n c d f g l).getD k undef) (jQ n):={
  cell:=λk r=>by rw [OK _ 172 o.heap.size k rfl];have:k<(bP ev n c d f g l).size:=r;simp [this]
  mB:=λk=>World.frozen?_alloc_at _ 172 o.heap.size k rfl
  eE:=λk h=>by have:=h.2;omega
  cK:=λk r=>by rcases m k r with rfl|rfl|rfl|rfl|rfl|rfl|rfl;have:=s.alloc (.cells (bP ev n c d f g l) 172);simpa [jQ,bP,L0]using this;have:=t.alloc (.cells (bP ev n c d f g l) 172);simpa [jQ,bP,L0]using this;have:=u.alloc (.cells (bP ev n c d f g l) 172);simpa [jQ,bP,L0]using this;exact Ox _ _ _ _;exact Ox _ _ _ _;have:=x.alloc (.cells (bP ev n c d f g l) 172);simpa [jQ,bP,L0]using this;have:=y.alloc (.cells (bP ev n c d f g l) 172);simpa [jQ,bP,L0]using this
  apart:=λi j b L U z M=>by
   rcases m i L with rfl|rfl|rfl|rfl|rfl|rfl|rfl<;>rcases m j U with rfl|rfl|rfl|rfl|rfl|rfl|rfl<;>
    simp [bP,Value.ownBlock]at z M<;>first|rfl|omega
  off:=λi L z=>by rcases m i L with rfl|rfl|rfl|rfl|rfl|rfl|rfl<;>simp [bP,Value.ownBlock]at z<;>omega
  cQ:=by decide}
 refine ⟨St.aK,eN GA o.heap.size (λk=>(bP ev n c d f g l).getD k undef),⟨_,_,{
  str:=p,eB:=rfl,cO:=rfl
  aW:=(jf n).symm,bL:=(jf n).symm,next:=(jf n).symm,aS:=rfl,cR:=rfl,aT:=(fH n).symm,part:=(jf n).symm
  fe:=λ_ h=>h,lt:=p.kB}⟩,?_,q.alloc q.size _,(fk.aK E).mono (λv h=>absurd h (QK v)),rfl⟩
 rintro b (rfl|⟨k,r,e⟩)
 exact q.size
 have:=N.size
 rcases m k r with rfl|rfl|rfl|rfl|rfl|rfl|rfl<;>simp [bP,Value.ownBlock]at e<;>omega
def Ex.MX{w b:WD}{g n:Nat}{d:Value}{E:List (List Int)}(e:E.length=n)(h:Ex w b g d n E n):
 ∃a c,CA b g 7 (.slice a n c)/\aE .i64 3 w b (.slice a n c) (mw E):=by
 subst e;exact h.end
def Ex.rd{w d:WD}{g:Nat}{j:Value}{n:Nat}{E:List (List Int)}{i:Nat}(h:Ex w d g j n E i)(q:i<n):
 ∃b c m,d.cell? (AD g 1)=some (SV b n c)/\d.cell? (AD b i)=some (IV ((m:Nat):Int))/\
  (m≠0->Ex w d g j n E (i+1))/\(m=0->∃s F,qQ d g j n s F/\(∀b,F b->w.heap.size<=b)/\BW w d/\fk E (λv=>v<i) s/\s.cR=[]/\s.aW i=0):=by
 obtain ⟨s,F,⟨C,X,a⟩,l,o,f,p⟩:=h
 obtain ⟨b,c,e,r,_⟩:=a.arr 1 ⟨by decide,by decide⟩ (by rw [a.aW,cV]) (by omega)
 refine ⟨b,c,s.aW i,by rw [a.str.cell 1 (by decide),e],?_,λk=>?_,λk=>?_⟩
 rw [(r i q).1,a.aW,dX _ _ _ q]
 exact ⟨s,F,⟨C,X,a⟩,l,o,⟨f.inv,f.cO,f.bC,λv t=>by by_cases e:v=i;rw [e];exact k;exact f.aX v (by omega)⟩,p⟩
 exact ⟨s,F,⟨C,X,a⟩,l,o,f,p,k⟩
def Ex.call{w d:WD}{g:Nat}{c:OA}{n f:Nat}{E:List (List Int)}{i:Nat}(t:E.length=n)(u:eQ w c E)(y:n<=1000000)(a:∀i,i<E.length->(E.getD i []).length<=1000000000)(x:i<n)
 (h:∃s F,qQ d g (.slice c n f) n s F/\(∀b,F b->w.heap.size<=b)/\BW w d/\fk E (λv=>v<i) s/\s.cR=[]/\s.aW i=0):
 Calls Tryz.prog 126 #[PT g,IV i] d λe j=>e=RT (.tuple #[])/\Hid (Ex w j g (.slice c n f) n E (i+1)):=by
 obtain ⟨s,F,l,m,o,p,q,r⟩:=h
 refine (Jk w d g c n f E s F _ t u y a l m o p q i x r).mono ?_
 rintro e j ⟨rfl,G,k,z,A,B,C,D⟩
 exact ⟨rfl,G,k,z,A,B,C.mono (λv H=>by omega),D⟩
def CR(vi vl:Value)(q:OA)(n r:Nat)(E:List (List Int))(w:WD)(hE:E.length=n)(he:eQ w q E)(hn:n<=1000000)(J:∀i,i<E.length->(E.getD i []).length<=1000000000):
 Calls Tryz.prog 88 #[.agg #[vi,.slice q n r,vl]] w (Lf E w):=by
 subst hE
 obtain ⟨i3,C,F,D,A⟩:=S6 Tryz.ed
 obtain ⟨i4,ao,ar,ap,an⟩:=S6 Tryz.nV
 have ah:=Oi he
 have al:=Oi J
 have HN:=Oi hn
 have HB:Hid (∀W,W=w.alloc (.cells #[vi,.slice q E.length r,vl] 55)->Below w.heap.size w W):=by rintro W rfl;exact (Nx _ w).alloc (Nz _) _
 have aa:Hid (∀W,W=w.alloc (.cells #[vi,.slice q E.length r,vl] 55)->CA W w.heap.size 1 (.slice q E.length r)):=by rintro W rfl;exact OK (w:=w) _ 55 w.heap.size 1 rfl
 have y:Hid (E.length<=maxLen):=by have:=hn;show _<=_;unfold maxLen;omega
 clear he J
 have ai:Hid (∃n,n=E.length):=⟨_,rfl⟩
 generalize af:E.length=n at *
 have u:=Oi af
 clear af ai
 go_enter Tryz.func88,Tryz.ntmps88
 go_upto_region 2 with(fail)
 have U:=aa.o _ rfl
 have ag:=Oi (HB.o _ rfl)
 clear HB aa
 generalize w.alloc (.cells #[vi,.slice q n r,vl] 55)=w1 at *
 (try unfold BW at *);generalize ac:w.heap.size=gb at *
 have ak:=Oi ac
 clear ac
 have ab:=Oi U
 refine av 14 (S:=λf=>CA f gb 1 (.slice q n r)) (by kernel_rfl) (U) (λx=>?_)
 refine' az 0 ?_
 refine' az 1 ?_
 refine' az 2 ?_
 refine' az 4 ?_
 refine' az 6 ?_
 refine' az 8 ?_
 refine' az 10 ?_
 refine mj [3,5,7,9,11] (λi=>i+9) #[true,true,true,true,true,true,true,true,true,true,true,true,false,false,false] 3
  (λl V w=>l.size=15/\uZ [3,5,7,9,11] (λi=>i+9) (λi=>if i=9 then 4 else 3) (λi=>if i=9 then .bool false else IV 0) n w1 l V w) (by kernel_rfl) (by kernel_rfl) rfl ?c1 ?c2 ?c3 ?c4
 case c1=>
  refine ⟨by kernel_rfl,(aj.refl _ w1).drew,λj hj hl=>?_,λj hj k hk ax hl _=>?_⟩
  ·exfalso;simp only [N8,Sc,or_false]at hj
   rcases hj with rfl|rfl|rfl|rfl|rfl<;>exact absurd hl (by decide)
  ·exfalso;simp only [N8,Sc,or_false]at hj
   rcases hj with rfl|rfl|rfl|rfl|rfl<;>exact absurd hl (by decide)
 case c2=>rintro l V w ⟨_,s⟩;exact s.aA.aq ab.o (λh=>h)
 case c3=>
  rintro l V w i o hl aw hi z Z ⟨d,s⟩ K t;clear x U;simp only [N8,Sc,or_false]at hi;rcases hi with rfl|rfl|rfl|rfl|rfl
  ·simp only [Pu,Pb,Pn,PK]at z;subst z
   refine kI (.tmp 11) (.tmp 11) 33 rfl 3 i3 (IV 0) Qd C F D rfl n ((dF _ _ _ _ (by decide)).trans rfl) ((dF _ _ _ _ (by decide)).trans rfl) ?_ y.o (λf G H=>?_)
   ·rw [A];omega
   ·have p:=s.step (w':=f) 3 (by simp) (by decide) (by rw [d];decide) G H;exact t _ f ⟨by rw [O0];exact d,p⟩
  ·simp only [Pu,Pb,Pn,PK]at z;subst z
   refine kI (.tmp 13) (.tmp 13) 33 rfl 3 i3 (IV 0) Qd C F D rfl n ((dF _ _ _ _ (by decide)).trans rfl) ((dF _ _ _ _ (by decide)).trans rfl) ?_ y.o (λf G H=>?_)
   ·rw [A];omega
   ·have p:=s.step (w':=f) 5 (by simp) (by decide) (by rw [d];decide) G H;exact t _ f ⟨by rw [O0];exact d,p⟩
  ·simp only [Pu,Pb,Pn,PK]at z;subst z
   refine kI (.tmp 15) (.tmp 15) 33 rfl 3 i3 (IV 0) Qd C F D rfl n ((dF _ _ _ _ (by decide)).trans rfl) ((dF _ _ _ _ (by decide)).trans rfl) ?_ y.o (λf G H=>?_)
   ·rw [A];omega
   ·have p:=s.step (w':=f) 7 (by simp) (by decide) (by rw [d];decide) G H;exact t _ f ⟨by rw [O0];exact d,p⟩
  ·simp only [Pu,Pb,Pn,PK]at z;subst z
   refine kI (.tmp 17) (.tmp 17) 67 rfl 4 i4 (.bool false) Tryz.underlying67 ao ar ap rfl n ((dF _ _ _ _ (by decide)).trans rfl) ((dF _ _ _ _ (by decide)).trans rfl) ?_ y.o (λf G H=>?_)
   ·rw [an];omega
   ·have p:=s.step (w':=f) 9 (by simp) (by decide) (by rw [d];decide) G H;exact t _ f ⟨by rw [O0];exact d,p⟩
  ·simp only [Pu,Pb,Pn,PK]at z;subst z
   refine kI (.tmp 19) (.tmp 19) 33 rfl 3 i3 (IV 0) Qd C F D rfl n ((dF _ _ _ _ (by decide)).trans rfl) ((dF _ _ _ _ (by decide)).trans rfl) ?_ y.o (λf G H=>?_)
   ·rw [A];omega
   ·have p:=s.step (w':=f) 11 (by simp) (by decide) (by rw [d];decide) G H;exact t _ f ⟨by rw [O0];exact d,p⟩
 case c4=>
  rintro V L ⟨_,s⟩;clear x U;change dk _ _ _ _ _ _ _ _ (aP _ [12,14,16,18,20] V) L;simp only [aP,Act.put,QU,RM,RL];obtain ⟨-,N,e1,-⟩:=s.dE 3 (by simp) (by decide);obtain ⟨-,O,e2,-⟩:=s.dE 5 (by simp) (by decide);obtain ⟨-,P,e3,-⟩:=s.dE 7 (by simp) (by decide);obtain ⟨-,R,e6,-⟩:=s.dE 9 (by simp) (by decide);obtain ⟨-,T,e7,-⟩:=s.dE 11 (by simp) (by decide);replace e1:V 12=SV N n n:=e1;replace e2:V 14=SV O n n:=e2;replace e3:V 16=SV P n n:=e3;replace e6:V 18=SV R n n:=e6;replace e7:V 20=SV T n n:=e7;have HR:=Oi (FK (ev:=.slice q n r) (E:=E) (by(try unfold BW);rw [ak.o];exact ag.o) s e1 e2 e3 e6 e7);have B:CA L gb 1 (.slice q n r):=s.aA.aq ab.o (λh=>h);rw [e1,e2,e3,e6,e7];clear s e1 e2 e3 e6 e7 V;refine aI 12 λK t=>?_;rw [Oa (by rfl)];apply aY.o;refine Ir (Q:=_) 172 #[(0,.tmp 10),(1,.tmp 12),(2,.tmp 14),(3,.tmp 16),(6,.tmp 18),(7,.tmp 20)] rfl [(0,.slice q n r),(1,SV N n n),(2,SV O n n),(3,SV P n n),(6,SV R n n),(7,SV T n n)]
   (by simp [Act.eval]) (bP (.slice q n r) n N O P R T) (BB q n r N O P R T) ?_
  refine t.o _ _ (λ_=>B) ?_;clear t K;try walk_nrm
  refine aI 13 λK t=>?_;rw [Oa (by rfl)];apply aY.o;refine LN 172 (.tmp 21) rfl (bP (.slice q n r) n N O P R T) rfl ?_;have I:Hid (∀W,W=L.alloc (.cells (bP (.slice q n r) n N O P R T) 172)->CA W gb 1 (.slice q n r)):=by rintro W rfl;exact (((Nx L.heap.size L).alloc (Nz _) _).cell (Nr L _ B)).trans B
  generalize aq:bP (.slice q n r) n N O P R T=sc at *;clear aq;have X:=I.o _ rfl;refine t.o _ _ (λ_=>X) ?_;clear t K B I;generalize L.alloc (.cells sc 172)=w2 at *;(try unfold BW at *);generalize L.heap.size=g at *;try walk_nrm
  refine aI 14 λK t=>?_;go_simp;refine t.o _ _ (λ_=>X) ?_;clear t K;try walk_nrm
  refine ay (by kernel_rfl) ?_;go_wp2_with fail;go_loopw [26] (λv wr=>∃k:Nat,k<=n/\v=IV k/\Hid (Ex w wr g (.slice q n r) n E k)) (λv _=>n-(intOf v).toNat);exact ⟨0,NS _,rfl,HR⟩;clear HR X;obtain ⟨k,hk,rfl,Z⟩:=hrel;by_cases ad:k<n
  ·obtain ⟨b,c,m,U,c2,hs,hz⟩:=Z.o.rd ad;have au:(k:Int)<(n:Int):=by omega
   by_cases Y:m=0
   ·subst Y;have HC:=Oi (Ex.call u.o ah.o HN.o (λi h=>al.o i (by rw [<-u.o];exact h)) ad (hz rfl))
    have am:CA wr b k (IV 0):=c2;clear hs hz Z c2;go_wp2_with (go_at_call 126;refine HC.o.mono ?_;rintro e w3 ⟨rfl,M⟩;clear HC U am);go_roundw;exact ⟨k+1,by omega,by go_num,M⟩;simp [intOf];omega
   ·have M:=Oi (hs Y);have aA:((m:Int)==0)=false:=by simp [Y]
    have aB:(m==0)=false:=Pk.2 Y;clear hs hz Z;go_wp2;go_roundw;exact ⟨k+1,by omega,by go_num,M⟩;simp [intOf];omega
  ·obtain rfl:k=n:=by omega
   obtain ⟨a,c,c7,Y⟩:=Ex.MX u.o Z.o;have HM:=Oi Y;clear Y Z;go_wp2;go_ret;exact ⟨a,c,(by rw [u.o];rfl),by rw [u.o];exact HM.o⟩
end Go.Proofs.YtimniinkpipnmaaGreatDoor.Scc
namespace Go.Own
open Go.RowKit
section
def Si:=@List.map_append
def Sj:=@List.range_succ
def Sm:=@Nat.not_lt_zero
def Sw:=@List.mem_range
structure gE (B:Nat) (w:WD) (v:Value) (V:Nat->Value) (R K n:Nat) (M:Nat->Nat->Bool):Prop where
 dQ:Sl w 34 v R ((List.range R).map V)
 row:∀i,i<K->Sl w 4 (V i) n (bA n (M i))
 apart:∀i j b,i<K->j<K->(V i).ownBlock=some b->(V j).ownBlock=some b->i=j
 off:∀i b,i<K->(V i).ownBlock=some b->v.ownBlock≠some b
 dJ:∀b,v.ownBlock=some b->B<=b
 jZ:∀i b,i<K->(V i).ownBlock=some b->B<=b
section
variable {B:Nat} {w w1:WD} {v:Value} {V:Nat->Value} {R K n:Nat} {M M':Nat->Nat->Bool}
def gE.aK(B:Nat)(w:WD)(V:Nat->Value)(n:Nat)(M:Nat->Nat->Bool):gE B w (SN) V 0 0 n M:=
 ⟨Ox _ _ _ _,λi h=>absurd h (Sm i),λi _ _ h=>absurd h (Sm i),λi _ h=>absurd h (Sm i),λb h=>(by cases h),λi _ h=>absurd h (Sm i)⟩
def eI{n:Nat}{f g:Nat->Bool}(h:∀j,j<n->f j=g j):bA n f=bA n g:=by unfold bA;exact List.map_congr_left λj a=>by rw [h j (Sw.1 a)]
def gE.congr(h:gE B w v V R K n M)(b:∀i,i<K->∀j,j<n->M i j=M' i j):gE B w v V R K n M':=
 {h with row:=λi a=>by rw [<-eI (b i a)];exact h.row i a}
def gE.aA{S:Nat->Prop}(h:gE B w v V R K n M)(c:aj S w w1)(d:∀b,v.ownBlock=some b->¬S b)(f:∀i b,i<K->(V i).ownBlock=some b->¬S b):gE B w1 v V R K n M:=
 {h with dQ:=Sl.aA h.dQ c d,row:=λi a=>Sl.aA (h.row i a) c (λb e=>f i b a e)}
def gE.af(h:gE B w v V R K n M)(a:BW w w1):gE B w1 v V R K n M:=
 h.aA (aj.aF a) (λb e s=>by have:=h.dQ.lt b e;omega) (λi b c e s=>by have:=(h.row i c).lt b e;omega)
def gE.snoc(h:gE B w v V R (R+1) n M){f:Value}(l:Sl w1 34 f (R+1) ((List.range R).map V++[V R]))(j:aj (λk=>v.ownBlock=some k) w w1)(g:∀b,f.ownBlock=some b->v.ownBlock=some b\/w.heap.size<=b)(m:B<=w.heap.size):
 gE B w1 f V (R+1) (R+1) n M where
 dQ:=by rw [Sj,Si];exact l
 row i c:=Sl.aA (h.row i c) j (λb e d=>h.off i b c e d)
 apart:=h.apart
 off i b c e d:=by rcases g b d with a|a;exact h.off i b c e a;have:=(h.row i c).lt b e;omega
 dJ b e:=by rcases g b e with a|a;exact h.dJ b a;omega
 jZ:=h.jZ
def gE.set(h:gE B w v V R K n M){b c:Nat}{i j:Nat}(q:i<K)(g:V i=SV b n c)(s:j<n)(x:Bool):
 gE B (w.setCell (AD b j) (.bool x)) v V R K n (up M i (up (M i) j x)):=by
 have o:(V i).ownBlock=some b:=by rw [g];rfl
 have a:aj (λd=>d=b) w (w.setCell (AD b j) (.bool x)):=(aj.refl (λd=>d=b) w).setCell (p:=(AD b j)) (λ_=>rfl) _
 refine {dQ:=Sl.aA h.dQ a (λd e f=>h.off i b q o (by rw [e,f])),row:=λk l=>?_,apart:=h.apart,off:=h.off,dJ:=h.dJ,jZ:=h.jZ}
 by_cases e:k=i
 subst e
 rw [aB]
 have m:=h.row k l
 rw [g]at m
 have:=(Qh m j (.bool x)).1
 rw [ky _ _ _ _ s]at this
 rw [g];exact this
 rw [an _ _ _ _ e]
 exact Sl.aA (h.row k l) a (λd r f=>e (h.apart k i d l q r (by rw [o,f])))
def gE.wP{a:Nat}{f:WD}(h:gE B w v V R K n M)(d:Below a f w)(e:a<=B){b c i j:Nat}(k:i<K)(g:V i=SV b n c)(x:Value):Below a f (w.setCell (AD b j) x):=
 d.setCell (N5 e (h.jZ i b k (by rw [g];rfl))) _
def gE.val(h:gE B w v V R K n M)(i:Nat)(m:i<K)(o:0<n):
 ∃b c,V i=SV b n c/\∀j,j<n->CA w b j (.bool (M i j))/\FZ w b j:=by
 have d:=h.row i m
 obtain ⟨a,c,e,f⟩:=d.shape
 obtain ⟨b,rfl,_,_⟩:=f 0 o
 refine ⟨b,c,e,λj g=>?_⟩
 obtain ⟨p,k,_,l⟩:=f j g
 cases k
 rw [e]at d
 exact ⟨l.trans (fw _ _ _ g),PH (size:=1) d j⟩
def gE.at(h:gE B w v V R K n M)(i:Nat)(l:i<R):∃g c,v=SV g R c/\∀k,k<R->w.cell? (AD g k)=some (V k):=by
 obtain ⟨a,c,e,b⟩:=h.dQ.shape;obtain ⟨g,rfl,_,_⟩:=b i l;refine ⟨g,c,e,λk d=>?_⟩;obtain ⟨m,f,_,j⟩:=b k d;cases f
 rw [j];simp [d]
end
end
section
def QS:=@List.getD_eq_getElem?_getD
def S8:=@List.nodup_range
structure PS (w2 w:WD) (aV v:Value) (V:Nat->Value) (n R:Nat) (A:Nat->Nat) (X:Nat->List Int):Prop where
 dQ:Sl w 33 v R ((List.range R).map V)
 row:∀i,i<R->Sl w 3 (V i) (X i).length ((X i).map (Value.int .i64))
 apart:∀i j b,i<R->j<R->(V i).ownBlock=some b->(V j).ownBlock=some b->i=j
 off:∀i b,i<R->(V i).ownBlock=some b->v.ownBlock≠some b
 dJ:∀b,v.ownBlock=some b->w2.heap.size<=b
 jZ:∀i b,i<R->(V i).ownBlock=some b->w2.heap.size<=b
 arr:Sl w 3 aV n (fK n A)
 GY:∀b,aV.ownBlock=some b->v.ownBlock≠some b
 xY:∀i b,i<R->aV.ownBlock=some b->(V i).ownBlock≠some b
 GX:∀b,aV.ownBlock=some b->w2.heap.size<=b
 aM:BW w2 w
section
variable {w2 w w1:WD} {aV v:Value} {V:Nat->Value} {n R:Nat} {A:Nat->Nat} {X X':Nat->List Int}
def PS.congr(h:PS w2 w aV v V n R A X)(b:∀i,i<R->X i=X' i):PS w2 w aV v V n R A X':=
 {h with row:=λi a=>by rw [<-b i a];exact h.row i a}
def PS.drew(h:PS w2 w aV v V n R A X):PS w2 w.drew aV v V n R A X:=
 {h with dQ:=h.dQ,row:=h.row,arr:=h.arr,aM:=h.aM.drew}
def PS.snoc(h:PS w2 w aV v V n R A X){g o:Nat}(B:Sl w1 33 (SV g (R+1) o) (R+1) ((List.range R).map V++[SN]))(t:aj (λk=>v.ownBlock=some k) w w1)
 (f:v.ownBlock=some g\/w.heap.size<=g):PS w2 w1 aV (SV g (R+1) o) (up V R (SN)) n (R+1) A (up X R []):=by
 have r:∀i,i<R->up V R (SN) i=V i:=λi d=>an _ _ _ _ (by omega)
 have x:∀i,i<R->up X R [] i=X i:=λi d=>an _ _ _ _ (by omega)
 have s:∀b,(SV g (R+1) o).ownBlock=some b->b=g:=λb e=>by cases e;rfl
 have m:up V R (SN) R=SN:=aB _ _ _
 have a:∀i b,i<R+1->(up V R (SN) i).ownBlock=some b->i<R/\(V i).ownBlock=some b:=λi b d e=>by by_cases q:i=R;subst q;rw [m]at e;cases e;rw [r i (by omega)]at e;exact ⟨by omega,e⟩
 refine ⟨?_,λi d=>?_,λi j b d y p c=>?_,λi b d e c=>?_,λb e=>?_,λi b d e=>?_,Sl.aA h.arr t (λb e c=>h.GY b e c),λb e c=>?_,λi b d e c=>?_,h.GX,h.aM.trans (t.af h.aM.size (λk z e=>by have:=h.dJ k e;omega))⟩
 rw [Sj,Si]
 have:(List.range R).map (up V R (SN))=(List.range R).map V:=List.map_congr_left λi d=>r i (Sw.1 d)
 rw [this]
 simpa [m]using B
 by_cases q:i=R
 subst q;rw [m,aB];exact Ox _ _ _ _
 rw [r i (by omega),x i (by omega)]
 exact Sl.aA (h.row i (by omega)) t (λb e c=>h.off i b (by omega) e c)
 obtain ⟨l,p⟩:=a i b d p
 obtain ⟨u,c⟩:=a j b y c
 exact h.apart i j b l u p c
 obtain ⟨l,e⟩:=a i b d e
 obtain rfl:=s b c
 rcases f with f|f
 exact h.off i _ l e f
 have:=(h.row i l).lt _ e;omega
 obtain rfl:=s b e
 rcases f with f|f
 exact h.dJ _ f
 have:=h.aM.size;omega
 obtain ⟨l,e⟩:=a i b d e
 exact h.jZ i b l e
 obtain rfl:=s b c
 rcases f with f|f
 exact h.GY _ e f
 have:=h.arr.lt _ e;omega
 obtain ⟨l,c⟩:=a i b d c
 exact h.xY i b l e c
def PS.dB(h:PS w2 w aV v V n R A X){i:Nat}(t:i<R){x:Int}{u:Value}(K:Sl w1 3 u ((X i).length+1) ((X i).map (Value.int .i64)++[IV x]))(B:aj (λk=>(V i).ownBlock=some k) w w1)(y:dC w (V i) u)
 {g c:Nat} (G:v=SV g R c):PS w2 (w1.setCell (AD g i) u) aV v (up V i u) n R A (up X i (X i++[x])):=by
 have m:v.ownBlock=some g:=by rw [G];rfl
 have F:∀b,u.ownBlock=some b->(V i).ownBlock=some b\/w.heap.size<=b:=λb e=>by rcases y with y|⟨L,C,y⟩;rw [y]at e;exact .inl e;rw [C]at e;cases e;exact .inr y
 have E:u.ownBlock≠some g:=λe=>by rcases F g e with l|l;exact h.off i g t l m;have:=h.dQ.lt g m;omega
 have r:aj (λk=>k=g) w1 (w1.setCell (AD g i) u):=(aj.refl (λk=>k=g) w1).setCell (p:=(AD g i)) (λ_=>rfl) u
 have z:Sl w1 33 v R ((List.range R).map V):=Sl.aA h.dQ B (λb e d=>h.off i b t d e)
 have a:∀j b,j<R->(up V i u j).ownBlock=some b->((V j).ownBlock=some b)\/(j=i/\w.heap.size<=b):=λj b f e=>by by_cases q:j=i;subst q;rw [aB]at e;exact (F b e).imp id (λh=>⟨rfl,h⟩);rw [an _ _ _ _ q]at e;exact .inl e
 refine ⟨?_,λj f=>?_,λj k b f o H d=>?_,λj b f e d=>?_,h.dJ,λj b f e=>?_,?_,h.GY,λj b f e d=>?_,h.GX,?_⟩
 rw [G]at z⊢
 have:=(Qh z i u).1
 have e:((List.range R).map V).set i u=(List.range R).map (up V i u):=by refine PD (by simp) λj l s=>?_;simp only [Sa,Rv,Re,up];by_cases e:i=j;subst e;simp;rw [Of e,Of (λC=>e C.symm)]
 rw [e]at this
 exact this
 by_cases q:j=i
 subst q
 rw [aB,aB,List.length_append,Si]
 exact Sl.aA K r (λb e d=>E (by rw [e,d]))
 rw [an _ _ _ _ q,an _ _ _ _ q]
 exact Sl.aA (Sl.aA (h.row j f) B (λb e d=>q (h.apart j i b f t e d))) r (λb e d=>h.off j b f e (by rw [m,d]))
 rcases a j b f H with l|⟨l,I⟩
 rcases a k b o d with s|⟨s,D⟩
 exact h.apart j k b f o l s
 have:=(h.row j f).lt b l;omega
 rcases a k b o d with s|⟨s,D⟩
 have:=(h.row k o).lt b s;omega
 omega
 rcases a j b f e with l|⟨_,l⟩
 exact h.off j b f l d
 have:=h.dQ.lt b d;omega
 rcases a j b f e with l|⟨_,l⟩
 exact h.jZ j b f l
 have:=h.aM.size;omega
 exact Sl.aA (Sl.aA h.arr B (λb e d=>h.xY i b t e d)) r (λb e d=>h.GY b e (by rw [m,d]))
 rcases a j b f d with l|⟨_,l⟩
 exact h.xY j b f e l
 have:=h.arr.lt b e;omega
 exact (h.aM.trans (B.af h.aM.size (λk J e=>by have:=h.jZ i k t e;omega))).setCell (h.dJ g m) _
def PS.LS(h:PS w2 w aV v V n R A X){b c j:Nat}(l:aV=SV b n c)(o:j<n)(x:Nat):PS w2 (w.setCell (AD b j) (IV x)) aV v V n R (up A j x) X:=by
 have g:aV.ownBlock=some b:=by rw [l];rfl
 have a:aj (λd=>d=b) w (w.setCell (AD b j) (IV x)):=(aj.refl (λd=>d=b) w).setCell (p:=(AD b j)) (λ_=>rfl) _;refine {h with dQ:=Sl.aA h.dQ a (λd e f=>h.GY b g (by rw [<-f];exact e)),row:=λi m=>Sl.aA (h.row i m) a (λd e f=>h.xY i b m g (by rw [<-f];exact e)),arr:=?_,aM:=h.aM.setCell (h.GX b g) _};have k:=h.arr;rw [l]at k⊢;have:=(Qh k j (IV x)).1;rw [j5 _ _ _ _ o]at this;exact this
def PS.xZ(h:PS w2 w aV v V n R A X)(l:0<n):∃b c,aV=SV b n c/\∀j,j<n->CA w b j (IV ((A j:Nat):Int))/\FZ w b j:=by
 have d:=h.arr;obtain ⟨a,c,e,f⟩:=d.shape;obtain ⟨b,rfl,_,_⟩:=f 0 l;refine ⟨b,c,e,λj g=>?_⟩;obtain ⟨m,i,_,k⟩:=f j g;cases i
 rw [e]at d;exact ⟨k.trans (dX _ _ _ g),PH (size:=1) d j⟩
def PS.at(h:PS w2 w aV v V n R A X)(l:0<R):∃g c,v=SV g R c/\∀k,k<R->w.cell? (AD g k)=some (V k)/\w.frozen? (AD g k)=false:=by
 have b:=h.dQ;obtain ⟨a,c,e,d⟩:=b.shape;obtain ⟨g,rfl,_,_⟩:=d 0 l;refine ⟨g,c,e,λk f=>?_⟩;obtain ⟨m,i,_,j⟩:=d k f;cases i
 rw [e]at b;exact ⟨by rw [j];simp [f],PH (size:=1) b k⟩
end
def ef(f:Nat->Nat)(k:Nat):List Nat:=(List.range k).filter λv=>decide (f v=v)
def dN(f:Nat->Nat)(k:Nat):Nat:=(ef f k).length
def Gx(f:Nat->Nat)(k u:Nat):List Int:=((List.range k).filter λv=>decide (f v=u)).map λ(v:Nat)=>(v:Int)
def dD(f:Nat->Nat)(k i:Nat):List Int:=Gx f k ((ef f k).getD i 0)
def lX(f:Nat->Nat)(k:Nat):ef f (k+1)=ef f k++(if f k=k then [k]else []):=by unfold ef;rw [Sj,List.filter_append];by_cases h:f k=k<;>simp [h]
def ph(f:Nat->Nat)(k u:Nat):Gx f (k+1) u=Gx f k u++(if f k=u then [(k:Int)]else []):=by unfold Gx;rw [Sj,List.filter_append,Si];by_cases h:f k=u<;>simp [h]
def lj(f:Nat->Nat)(k:Nat):dN f (k+1)=dN f k+(if f k=k then 1 else 0):=by unfold dN;rw [lX,List.length_append];by_cases h:f k=k<;>simp [h]
def ze(f:Nat->Nat):∀k,dN f k<=k
 |0=>Nz _
 |k+1=>by rw [lj];have:=ze f k;split<;>omega
def lA{f:Nat->Nat}{u:Nat}(b:f u=u):∀k,u<k->dN f u<dN f k/\(ef f k).getD (dN f u) 0=u
 |0,h=>by omega
 |k+1,h=>by by_cases e:u=k;subst e;rw [lj,Px b,lX,Px b];refine ⟨by omega,?_⟩;simp [dN,List.getD];obtain ⟨c,d⟩:=lA b k (by omega);refine ⟨by rw [lj];omega,?_⟩;rw [lX];have a:dN f u<(ef f k).length:=c;rw [QS,List.getElem?_append_left a,<-QS];exact d
def Fq{f:Nat->Nat}{k i:Nat}(c:i<dN f k):f ((ef f k).getD i 0)=(ef f k).getD i 0/\(ef f k).getD i 0<k:=by
 have a:i<(ef f k).length:=c;have e:(ef f k).getD i 0=(ef f k)[i]:=by simp [List.getD,a]
 have b:(ef f k)[i]∈ef f k:=List.getElem_mem a;rw [e];unfold ef at b⊢;rw [List.mem_filter]at b;exact ⟨of_decide_eq_true b.2,Sw.1 b.1⟩
def qq{f:Nat->Nat}{k i:Nat}(b:i<dN f k):(ef f (k+1)).getD i 0=(ef f k).getD i 0:=by have a:i<(ef f k).length:=b;rw [lX,QS,List.getElem?_append_left a,<-QS]
def Fp{f:Nat->Nat}{k i u:Nat}(m:f u=u)(c:u<k)(l:i<dN f k)(e:(ef f k).getD i 0=u):i=dN f u:=by
 have d:=lA m k c;have b:(ef f k).Nodup:=List.Pairwise.filter _ S8;have a:i<(ef f k).length:=l;have g:dN f u<(ef f k).length:=d.1;have h:(ef f k).getD i 0=(ef f k)[i]:=by simp [List.getD,a]
 have j:(ef f k).getD (dN f u) 0=(ef f k)[dN f u]:=by simp [List.getD,g]
 exact (List.getElem_inj (h₀:=a) (h₁:=g) b).1 (by rw [<-h,<-j,e,d.2])
def AS{f:Nat->Nat}{k:Nat}(c:f (f k)=f k)(a:f k<k)(i:Nat)(b:i<dN f k):
 up (dD f k) (dN f (f k)) (dD f k (dN f (f k))++[(k:Int)]) i=dD f (k+1) i:=by
 have g:f k≠k:=by omega
 by_cases e:i=dN f (f k)
 subst e
 rw [aB]
 unfold dD
 rw [qq b,(lA c k a).2,ph,Px rfl]
 rw [an _ _ _ _ e]
 unfold dD
 rw [qq b,ph,Of (λd=>e (Fp c a b d.symm)),Om]
def Cw{f:Nat->Nat}(b:∀v,f v<=v){k:Nat}(c:f k=k)(i:Nat)(j:i<dN f k+1):
 up (up (dD f k) (dN f k) []) (dN f k) ((up (dD f k) (dN f k) []) (dN f k)++[(k:Int)]) i=dD f (k+1) i:=by
 have d:=lA c (k+1) (Nat.lt_succ_self k)
 by_cases e:i=dN f k
 subst e
 rw [aB,aB]
 unfold dD
 rw [d.2,ph,Px c]
 have:Gx f k k=[]:=by unfold Gx;rw [List.map_eq_nil_iff,List.filter_eq_nil_iff];intro v g h;have:=b v;have:=of_decide_eq_true h;have:=Sw.1 g;omega
 rw [this]
 rw [an _ _ _ _ e,an _ _ _ _ e]
 have a:i<dN f k:=by omega
 unfold dD
 rw [qq a,ph,Of,Om]
 have:=(Fq a).2
 omega
end
end Go.Own
namespace Go.Proofs.YtimniinkpipnmaaGreatDoor.Scc
open Go.RowKit Go.Own
def IS{E:List (List Int)}{i:Nat}(a:i<E.length):(mw E).getD i 0=((oC E i i i:Nat):Int):=by simp [mw,List.getD,a]
def cC(E:List (List Int))(v:Nat):Nat:=oC E v v v
def iH(E:List (List Int))(v:Nat):nQ E v (cC E v):=py E v
def zC(E:List (List Int))(v:Nat):cC E v<=v:=(iH E v).2 v (Scc.refl E v)
def yj(E:List (List Int))(v:Nat):cC E (cC E v)=cC E v:=by have h:=iH E v;exact (iH E (cC E v)).unique ⟨Scc.refl E _,λu a=>h.2 u (h.1.trans a)⟩
def IA{g w f:WD}{c v:Value}{V:Nat->Value}{n R:Nat}{A:Nat->Nat}{X:Nat->List Int}(h:PS g w c v V n R A X)(a:BW w f):PS g f c v V n R A X:=
 {h with dQ:=Sl.aA h.dQ (aj.aF a) (λb e s=>by have:=h.dQ.lt b e;omega),row:=λi d=>Sl.aA (h.row i d) (aj.aF a) (λb e s=>by have:=(h.row i d).lt b e;omega),arr:=Sl.aA h.arr (aj.aF a) (λb e s=>by have:=h.arr.lt b e;omega),aM:=h.aM.trans (a.mono h.aM.size)}
def _root_.Go.Own.PS.af{c w b:WD}{a v:Value}{V:Nat->Value}{n R:Nat}{A:Nat->Nat}{X:Nat->List Int}(h:PS c w a v V n R A X)(d:BW w b):PS c b a v V n R A X:=IA h d
def Kl{c f w:WD}{d v:Value}{V:Nat->Value}{n R:Nat}{A:Nat->Nat}{X:Nat->List Int}(h:PS f w d v V n R A X)(a:BW c f):PS c w d v V n R A X:=
 {h with dJ:=λb e=>N5 a.size (h.dJ b e),jZ:=λi b g e=>N5 a.size (h.jZ i b g e),GX:=λb e=>N5 a.size (h.GX b e),aM:=a.trans (h.aM.mono a.size)}
def IB{c d:WD}{n:Nat}{V:Nat->Value}{X:Nat->List Int}(g:d.ownsRow 0 3 1 (SV c.heap.size n n) n (madeCells (IV 0).cells (n*1)).toList)(a:c.grownBy d none):
 PS c d (SV c.heap.size n n) (SN) V n 0 (λ_=>0) X:=by
 have f:aj (λ_=>False) c d:=⟨a.os,a.tape,a.output,a.size,λk f _=>a.block k f (by simp)⟩
 rw [bZ (IV 0) rfl]at g
 exact ⟨Ox _ _ _ _,λi h=>absurd h (QK i),λi _ _ h=>absurd h (QK i),λi _ h=>absurd h (QK i),λb h=>(by cases h),λi _ h=>absurd h (QK i),
  by rw [jf];exact g,λb _ e=>(by cases e),λi _ h=>absurd h (QK i),λb e=>by cases e;exact Nz _,f.af (Nz _) (λ_ _ h=>h)⟩
def LQ{f w:WD}{b v:Value}{V:Nat->Value}{n R:Nat}{A:Nat->Nat}{X:Nat->List Int}(h:PS f w b v V n R A X)(r:Nat)(d:r<R):∃a c,V r=.slice a (X r).length c:=by obtain ⟨a,c,e,_⟩:=(h.row r d).shape;exact ⟨a,c,e⟩
def yw{v A:WD}{a d q n R u r k lr p:Nat}{o:OA}{m:Nat->Value}{l:Nat->Nat}{f:Nat->List Int}(h:PS v A (SV a n n) (SV d R q) m n R l f)(s:r<R)(I:u<n)(F:l u=r)
 (w:m r=.slice o lr p) (B:(f r).length=lr):A.cell? (AD a u)=some (IV r)/\A.cell? (AD d r)=some (.slice o lr p)/\
  Hid (∀W,PS v W (SV a n n) (SV d R q) m n R l f->Sl W 3 (.slice o lr p) lr ((f r).map (Value.int .i64)))/\
  Hid (∀W i,PS v W (SV a n n) (SV d R q) m n R l f->aj (λk=>(Value.slice o lr p).ownBlock=some k) W i->i.frozen? (AD d r)=false)/\
  Hid (∀W i t,PS v W (SV a n n) (SV d R q) m n R l f->Sl i 3 t (lr+1) ((f r).map (Value.int .i64)++[IV k])->aj (λk=>(Value.slice o lr p).ownBlock=some k) W i->dC W (.slice o lr p) t->
   PS v (i.setCell (AD d r) t) (SV a n n) (SV d R q) (up m r t) n R l (up f r (f r++[(k:Int)]))):=by
 obtain ⟨b,c,e,G⟩:=h.xZ (by omega)
 cases e
 obtain ⟨g,J,e,y⟩:=h.at (by omega)
 cases e
 refine ⟨by rw [(G u I).1,F],by rw [(y r s).1,w],λW j=>?_,λW i j x=>?_,λW i t j D x C=>?_⟩
 have:=j.row r s
 rwa [w,B]at this
 obtain ⟨K,E,e,z⟩:=j.at (by omega)
 cases e
 have H:d<W.heap.size:=j.dQ.lt d rfl
 exact (N7 (x.block d H (λe=>j.off r d s (by rw [w];exact e) rfl))).trans (z r s).2
 rw [<-w]at x C
 rw [<-B]at D
 exact j.dB s D x C rfl
def Tryz.Lt:(Tryz.prog.info? 33).map (λi=>(i.zero,i.size,i.bytes))=some (some (SN),1,24):=by kernel_rfl
def xR(E:List (List Int))(n:Nat)(w:WD)(e:Ending)(d:WD):Prop:=
 ∃a c b V A,e=RT (.slice a (dN (cC E) n) c)/\PS w d b (.slice a (dN (cC E) n) c) V n (dN (cC E) n) A (dD (cC E) n)
def JR(f:Nat->Nat)(k u:Nat):(Gx f k u).length<=k:=by unfold Gx;rw [NU];exact N5 (List.length_filter_le _ _) (by simp)
def lH(vi vl:Value)(ae:OA)(n ce:Nat)(E:List (List Int))(w:WD)(hE:E.length=n)(he:eQ w ae E)(hn:n<=1000000)(Q:∀i,i<E.length->(E.getD i []).length<=1000000000):
 Calls Tryz.prog 58 #[.agg #[vi,.slice ae n ce,vl]] w (xR E n w):=by
 obtain ⟨i3,ac,ah,ag,aa⟩:=S6 Tryz.ed
 obtain ⟨aX,aD,aM,aL,aA⟩:=S6 Tryz.Lt
 have HE:=Oi hE
 have HN:=Oi hn
 have HB:Hid (∀W,W=w.alloc (.cells #[vi,.slice ae n ce,vl] 55)->Below w.heap.size w W):=by rintro W rfl;exact (Nx _ w).alloc (Nz _) _
 have J:=Oi (HB.o _ rfl)
 have ak:Hid (Calls Tryz.prog 88 #[.agg #[vi,.slice ae n ce,vl]] (w.alloc (.cells #[vi,.slice ae n ce,vl] 55)) λe w'=>∃a c,e=RT (.slice a n c)/\aE .i64 3 (w.alloc (.cells #[vi,.slice ae n ce,vl] 55)) w' (.slice a n c) (mw E)):=by have h:=CR vi vl ae n ce E _ hE (he.af J.o) hn Q;subst hE;exact h
 clear HB he Q hE
 go_enter Tryz.func58,Tryz.ntmps58
 go_wp2_with (first|(go_at_call 88;refine ak.o.mono ?_;rintro e w2 ⟨al,cl,rfl,hM⟩;have HM:=Oi hM;clear hM)|(at_make;refine wpList_make_full _ rfl _ _ 33 rfl 0 3 i3 (IV 0) 1 Qd ac ah ag _ _ _ _ n rfl rfl rfl rfl (by rw [aa];omega) (by unfold maxLen;omega) (NS _) ?_;intro w3 hs hg;have am:=Oi (IB (V:=λ_=>undef) (X:=dD (cC E) 0) hs hg);clear hs hg))
 have aj:Hid (∀W aV v V R A X,PS w2 W aV v V n R A X->PS w W aV v V n R A X):=λW aV v V R A X h=>Kl h (J.o.trans ((aZ HM.o).mono J.o.size))
 have HL:Hid (aG .i64 w2 al n (mw E)):=cN HM.o
 clear HM ak J
 (try unfold BW at *);generalize w2.heap.size=y at *
 go_loopw [5,15] (λv x wr=>∃k:Nat,k<=n/\x=IV k/\∃V A,Hid (PS w2 wr (SV y n n) v V n (dN (cC E) k) A (dD (cC E) k))/\Hid (∀u,u<k->cC E u=u->A u=dN (cC E) u)) (λ_ x _=>n-(intOf x).toNat)
 exact ⟨0,NS _,rfl,_,_,am,λu h=>absurd h (QK u)⟩
 clear am
 obtain ⟨k,hk,rfl,V,A,H,hA⟩:=hrel
 obtain ⟨ap,cp,ev,-⟩:=H.o.dQ.shape
 by_cases z:k<n
 have a0:(k:Int)<(n:Int):=by omega
 subst ev
 obtain ⟨-,h0|⟨bl,ol,rfl,aC⟩⟩:=HL.o
 omega
 have M:=aC k z
 have aw:(mw E).getD k 0=((cC E k:Nat):Int):=IS (by(try unfold BW);rw [HE.o];exact z)
 rw [aw]at M
 have ao:=(H.o.aM.cell (Nr w2 _ M)).trans M
 have aH:=zC E k
 have a1:=ze (cC E) k
 clear aC M aw
 by_cases p:cC E k=k
 have aO:=Oi p
 rw [p]at ao
 have R1:Hid (dN (cC E) (k+1)=dN (cC E) k+1):=by show _=_;rw [lj,Oa p]
 obtain ⟨ba,ca,ea,ab⟩:=H.o.xZ (by omega)
 cases ea
 have fa:=(ab k z).2
 have aP:=(ab k z).1
 have T:=Oi (H.o.LS rfl z (dN (cC E) k))
 clear p ab aH
 have aS:dN (cC E) k<=1000000:=by omega
 generalize aK:dN (cC E) k=r at *
 have Z:=Oi aK
 clear aK
 go_upto_region 9 with(fail)
 generalize wr.setCell (AD y k) (IV r)=w3 at *
 go_upto_region 10 with(at_builtin;(refine ax rfl (.tmp 28) (.tmp 29) 93 rfl 33 aX (SN) 24 Tryz.underlying93 aD aM aL aA rfl (by decide) _ _ _ rfl T.o.dQ _ rfl rfl (by omega) ?_;intro g4 c4 O hs aF aJ;have U:=Oi (T.o.snoc hs aF aJ);clear hs aF aJ))
 have hr:r<r+1:=Nat.lt_succ_self r
 have aW:(r:Int)<(r:Int)+1:=by omega
 have P:Hid (up V r (SN) r=SN):=aB _ _ _
 obtain ⟨m,o,F,B,D⟩:=yw (k:=k) U.o hr z (aB _ _ _) P.o (lr:=0) (by rw [aB];rfl)
 have HP:=U
 have L:=Oi (λi (hi:i<r+1)=>Cw (zC E) aO.o i (by(try unfold BW);rw [Z.o];exact hi))
 rw [Z.o]at L
 clear U T H ao fa aP
 generalize up V r (SN)=V4 at *
 generalize aR:up (dD (cC E) k) r []=X4 at *
 clear aR
 generalize aq:up A k r=A4 at *
 have ai:=Oi aq
 clear aq
 refine av 15 (S:=λw'=>w'.cell? (AD y k)=some (IV r)/\w'.cell? (AD g4 r)=some (SN)) (by kernel_rfl) (⟨m,o⟩) (λb=>?_)
 refine' az 0 ?_
 refine' az 1 ?_
 refine' az 2 ?_
 refine' az 3 ?_
 refine' az 4 ?_
 refine' az 5 ?_
 refine' az 6 ?_
 refine' az 7 ?_
 refine' az 8 ?_
 refine' az 9 ?_
 refine' az 10 ?_
 refine' az 11 ?_
 refine' az 12 ?_
 have j:Hid (Below (O).heap.size (O) (((O).alloc (.cells #[IV k] 3)).drew)):=((Nx _ _).alloc (Nz _) _).drew
 have c5:((O).alloc (.cells #[IV k] 3)).drew.cell? (AD ((O).heap.size) 0)=some (IV k):=OK (w:=(O)) _ 3 (O).heap.size 0 rfl
 have s:=(j.o.cell (Nr _ _ m)).trans m
 have t:=(j.o.cell (Nr _ _ o)).trans o
 refine aI 13 λK f=>?_
 go_simp
 refine f.o _ _ (λ_=>⟨s,t⟩) ?_
 clear f K
 try walk_nrm
 have d:=Oi (HP.o.af j.o)
 clear b m o HP j
 generalize ((O).alloc (.cells #[IV k] 3)).drew=w5 at *
 (try unfold BW at *);generalize (O).heap.size=h5 at *
 refine aI 14 λK f=>?_
 rw [Oa (by rfl)]
 apply aY.o
 refine gz (.tmp 42) (.tmp 44) 33 rfl 3 i3 (IV 0) 8 Qd ac ah ag aa rfl (by decide) (SN) 0 _ rfl (F.o _ d.o) (AD h5 0) (IV k) rfl rfl c5 (by omega) (λv6 w6 q g G=>?_)
 have m:=g.aq s (λe=>d.o.xY r y hr rfl (by(try unfold BW);rw [P.o];exact e))
 have o:=g.aq t (λe=>d.o.off r g4 hr (by(try unfold BW);rw [P.o];exact e) rfl)
 have f6:=B.o _ _ d.o g
 have C:=Oi (D.o _ _ _ d.o q g G)
 obtain ⟨a6,l6,c6,e6⟩:∃a l c,v6=.slice a l c:=by obtain ⟨a,c,e,-⟩:=q.shape;exact ⟨a,_,c,e⟩
 clear q G g s t c5 d
 subst e6
 have b:=And.intro m o
 refine f.o _ _ (λ_=>⟨m,o⟩) ?_
 clear f K
 try walk_nrm
 refine aI 15 λK f=>?_
 go_simp
 refine f.o _ _ (λe=>nomatch e) ?_
 clear f K
 try walk_nrm
 refine aI 16 λK f=>?_
 go_simp
 refine f.o _ _ (λe=>nomatch e) ?_
 clear f K
 try walk_nrm
 refine ay (by kernel_rfl) ?_
 have Y:=Oi (C.o.congr L.o)
 clear b m o f6 C D B F P
 generalize w6.setCell (AD g4 r) (.slice a6 l6 c6)=w7 at *
 go_wp2_with fail
 go_roundw
 case rel=>exact ⟨k+1,by omega,by go_num,_,A4,by rw [R1.o];exact Y.o,λu hu h=>by by_cases e:u=k;subst e;rw [<-ai.o,aB,Z.o];rw [<-ai.o,an _ _ _ _ e];exact hA.o u (by omega) h⟩
 case measure=>simp [intOf];omega
 have I:cC E k<k:=by omega
 have N:=yj E k
 obtain ⟨af,aU⟩:=lA N k I
 have au:=hA.o (cC E k) I N
 have R1:Hid (dN (cC E) (k+1)=dN (cC E) k):=by show _=_;rw [lj,Of p,Nat.add_zero]
 have L:=Oi (λi (hi:i<dN (cC E) k)=>AS N I i hi)
 have aN:Hid (∀u,u<k+1->cC E u=u->A u=dN (cC E) u):=λu hu h=>by by_cases e:u=k;subst e;exact absurd h p;exact hA.o u (by omega) h
 obtain ⟨g4,c4,e,-⟩:=H.o.at (by omega)
 cases e
 obtain ⟨ar,cr,hv⟩:=LQ H.o (dN (cC E) (cC E k)) af
 have aT:(dD (cC E) k (dN (cC E) (cC E k))).length<=k:=JR _ _ _
 obtain ⟨lr,ad⟩:=EX ((dD (cC E) k (dN (cC E) (cC E k))).length)
 rw [ad]at hv aT
 obtain ⟨m,o,F,B,D⟩:=yw (k:=k) H.o af (by omega) au hv ad
 have P:=Oi hv
 have HP:=H
 clear hv ad aU hA au N H aH
 have aS:dN (cC E) k<=1000000:=by omega
 generalize dD (cC E) k=X4 at *
 generalize cC E k=u at *
 generalize dN (cC E) u=r at *
 generalize aQ:dN (cC E) k=R at *
 clear aQ
 have hr:=af
 have aW:(r:Int)<(R:Int):=by omega
 have a2:(u:Int)<(n:Int):=by omega
 have t0:((u:Int)==(k:Int))=false:=Pk.2 (by omega)
 have t1:(u==k)=false:=Pk.2 p
 go_upto_region 10 with(fail)
 refine av 15 (S:=λw'=>w'.cell? (AD y u)=some (IV r)/\w'.cell? (AD g4 r)=some (.slice ar lr cr)) (by kernel_rfl) (⟨m,o⟩) (λb=>?_)
 refine' az 0 ?_
 refine' az 1 ?_
 refine' az 2 ?_
 refine' az 3 ?_
 refine' az 4 ?_
 refine' az 5 ?_
 refine' az 6 ?_
 refine' az 7 ?_
 refine' az 8 ?_
 refine' az 9 ?_
 refine' az 10 ?_
 refine' az 11 ?_
 refine' az 12 ?_
 have j:Hid (Below (wr).heap.size (wr) (((wr).alloc (.cells #[IV k] 3)).drew)):=((Nx _ _).alloc (Nz _) _).drew
 have c5:((wr).alloc (.cells #[IV k] 3)).drew.cell? (AD ((wr).heap.size) 0)=some (IV k):=OK (w:=(wr)) _ 3 (wr).heap.size 0 rfl
 have s:=(j.o.cell (Nr _ _ m)).trans m
 have t:=(j.o.cell (Nr _ _ o)).trans o
 refine aI 13 λK f=>?_
 go_simp
 refine f.o _ _ (λ_=>⟨s,t⟩) ?_
 clear f K
 try walk_nrm
 have d:=Oi (HP.o.af j.o)
 clear b m o HP j
 generalize ((wr).alloc (.cells #[IV k] 3)).drew=w5 at *
 (try unfold BW at *);generalize (wr).heap.size=h5 at *
 refine aI 14 λK f=>?_
 rw [Oa (by rfl)]
 apply aY.o
 refine gz (.tmp 42) (.tmp 44) 33 rfl 3 i3 (IV 0) 8 Qd ac ah ag aa rfl (by decide) (.slice ar lr cr) lr _ rfl (F.o _ d.o) (AD h5 0) (IV k) rfl rfl c5 (by omega) (λv6 w6 q g G=>?_)
 have m:=g.aq s (λe=>d.o.xY r y hr rfl (by(try unfold BW);rw [P.o];exact e))
 have o:=g.aq t (λe=>d.o.off r g4 hr (by(try unfold BW);rw [P.o];exact e) rfl)
 have f6:=B.o _ _ d.o g
 have C:=Oi (D.o _ _ _ d.o q g G)
 obtain ⟨a6,l6,c6,e6⟩:∃a l c,v6=.slice a l c:=by obtain ⟨a,c,e,-⟩:=q.shape;exact ⟨a,_,c,e⟩
 clear q G g s t c5 d
 subst e6
 have b:=And.intro m o
 refine f.o _ _ (λ_=>⟨m,o⟩) ?_
 clear f K
 try walk_nrm
 refine aI 15 λK f=>?_
 go_simp
 refine f.o _ _ (λe=>nomatch e) ?_
 clear f K
 try walk_nrm
 refine aI 16 λK f=>?_
 go_simp
 refine f.o _ _ (λe=>nomatch e) ?_
 clear f K
 try walk_nrm
 refine ay (by kernel_rfl) ?_
 have Y:=Oi (C.o.congr L.o)
 clear b m o f6 C D B F P
 generalize w6.setCell (AD g4 r) (.slice a6 l6 c6)=w7 at *
 go_wp2_with fail
 go_roundw
 exact ⟨k+1,by omega,by go_num,_,A,by rw [R1.o];exact Y.o,aN⟩
 simp [intOf];omega
 obtain rfl:n=k:=by omega
 subst ev
 go_wp2_with fail
 go_ret
 exact ⟨ap,cp,_,V,A,rfl,aj.o _ _ _ _ _ _ _ H.o⟩
end Go.Proofs.YtimniinkpipnmaaGreatDoor.Scc
namespace Go.Proofs.YtimniinkpipnmaaGreatDoor
open Go.RowKit Go.Own Go.Maps
def CP(w0 w:WD)(m:Nat)(a:OA)(n c:Nat)(F:List (Int×Int))(f:Fm)(s:Int)(iv nv zv:Value)(k:Nat)(h:kN w0 w m (.slice a n c) s iv nv zv k 0)(hF:bB w a n F)(hf:jr F f)(hn:n<=1000)(hk:k<=100):
 CL 18 #[PT m] w λe w'=>e=RT (.tuple #[])/\∃P n' c' ad,kN w0 w' m (.slice P n' c') s iv nv ad (k+1) 0/\FA w' P n' (Fm.et false (.neg f))/\k8 m zv ad w w':=by
 obtain ⟨i3,ai,al,ak,ah⟩:=Ol Tryz.ed
 have ac:0<n:=by rw [<-hF.1,pj hf];exact Fm.bF f
 have HN:=Nq (Kg a n c F f w hF (λe=>by rcases hF.2 with h0|⟨b,o,h1,-⟩;omega;rw [e]at h1;cases h1) (by omega) hf)
 have N:Hid (∀(I:WD)(Q:OA)(R:Nat),bN w I (.slice Q (n+1) R) (n+1) (F++[(4,0)])->CL 39 #[.slice Q (n+1) R] I λe w'=>∃P m c',e=RT (.slice P m c')/\bN I w' (.slice P m c') m (Fm.enc (Fm.et false (.neg f)))):=λI Q R B=>FJ Q (n+1) R _ _ I B.ah (by omega) (DV hf 0)
 have HM:=Nq h
 obtain ⟨c0,-,-,-,-,-⟩:=h.cells
 clear h hF hf ac
 go_enter Tryz.func18,Tryz.ntmps18
 go_upto_region 1 with(first
  |(go_at_call 40;refine HN.o.mono ?_;rintro e I ⟨Q,R,rfl,B⟩;have q:=Nq B;clear B;have M:=Nq (N.o _ _ _ q.o))
  |(go_at_call 39;refine M.o.mono ?_;rintro e w3 ⟨a3,t,c3,rfl,B⟩;have j:=Nq B;clear B;have v:=Nq (HM.o.af (aa q.o.aM j.o.aM));obtain ⟨e0,-,-,-,-,-⟩:=v.o.cells;have z0:=v.o.free 0))
 clear HN N M c0 e0 z0
 obtain ⟨U,X⟩:=v.o.MB (.slice a3 t c3)
 have p:=Nq U
 have J:=Nq X
 have ag:=Nq HM.o.eE
 clear U X HM v
 generalize w3.setCell (AD m 0) (.slice a3 t c3)=u at *
 obtain ⟨q0,q1,q2,q3,q4,q5⟩:=p.o.cells
 obtain ⟨xs,D⟩:=p.o.K0
 have z:=Nq D
 obtain ⟨G,H,am⟩:∃G H,zv=.slice G k H:=by obtain ⟨a,c,e,-⟩:=D.shape;exact ⟨a,c,e⟩
 subst am
 clear D q1 q2 q3 q5
 refine av 14 (S:=λW=>W.cell? (AD m 0)=some (.slice a3 t c3)/\W.cell? (AD m 4)=some (.slice G k H)) (by kernel_rfl) (⟨q0,q4⟩) (λA=>?_)
 refine' az 0 ?_
 refine' az 1 ?_
 refine' az 2 ?_
 refine' az 3 ?_
 refine' az 4 ?_
 refine' az 5 ?_
 refine' az 6 ?_
 refine' az 7 ?_
 refine' az 8 ?_
 refine' az 9 ?_
 have i:Hid (BW u ((u.alloc (.cells #[IV t] 3)).drew)):=((Nx _ _).alloc (Nz _) _).drew
 have c5:(u.alloc (.cells #[IV t] 3)).drew.cell? (AD u.heap.size 0)=some (IV t):=OK (w:=u) _ 3 u.heap.size 0 rfl
 have E:=(i.o.cell (Nr _ _ q0)).trans q0
 have y:=(i.o.cell (Nr _ _ q4)).trans q4
 refine aI 10 λK d=>?_
 go_simp
 refine d.o _ _ (λ_=>⟨E,y⟩) ?_
 clear d K
 try walk_nrm
 have O:Hid (Sl (u.alloc (.cells #[IV t] 3)).drew 3 (.slice G k H) k xs):=z.o.aA (aj.aF i.o) (λg e s=>by have:=z.o.lt g e;omega)
 clear A q0 q4
 generalize (u.alloc (.cells #[IV t] 3)).drew=w5 at *
 generalize u.heap.size=h5 at c5⊢
 refine aI 11 λK d=>?_
 rw [Oa (by rfl)]
 apply aY.o
 refine gz (.tmp 15) (.tmp 21) 33 rfl 3 i3 (IV 0) 8 OE ai al ak ah rfl (by decide) (.slice G k H) k _ rfl O.o (AD h5 0) (IV t) rfl rfl c5 (by omega) (λv6 w6 C r ab=>?_)
 have x:¬(Value.slice G k H).ownBlock=some m:=λe=>(p.o.Jo m e).2 rfl
 have r0:=r.aq E x
 have r4:=r.aq y x
 have f6:w6.frozen? (AD m 4)=false:=(N7 (r.block m (Nr _ _ y) x)).trans (NA (p.o.af i.o).dp 4)
 obtain ⟨a6,l6,c6,e6⟩:∃a l c,v6=.slice a l c:=by obtain ⟨a,c,e,-⟩:=C.shape;exact ⟨a,_,c,e⟩
 subst e6
 obtain ⟨V,Y,T⟩:=p.o.grow i.o C r ab
 have af:=Nq V
 have L:=Nq Y
 have ae:=Nq T
 clear V Y T C ab r E y c5 x z O
 refine d.o _ _ (λ_=>⟨r0,r4⟩) ?_
 clear d K
 try walk_nrm
 refine aI 12 λK d=>?_
 go_simp
 refine d.o _ _ (λ_=>⟨r0,r4⟩) ?_
 clear d K
 try walk_nrm
 refine aI 13 λK d=>?_
 go_simp
 refine d.o _ _ (λ_=>⟨r0,r4⟩) ?_
 clear d K
 try walk_nrm
 refine aI 14 λK d=>?_
 go_simp
 refine d.o _ _ (λe=>nomatch e) ?_
 clear d K
 try walk_nrm
 refine ay (by kernel_rfl) ?_
 clear r0 r4 f6 i
 generalize w6.setCell (AD m 4) (.slice a6 l6 c6)=w7 at *
 go_wp2
 refine QC (PW (by kernel_rfl) ..) rfl ?_
 refine ⟨rfl,a3,t,c3,_,af.o,?_,k8.of (aa q.o.aM j.o.aM) J.o L.o ae.o⟩
 have Z:∀b,eM m (.slice G k H) b->b<w.heap.size:=λb hb=>(ag.o b hb).1
 exact yt (bm (bm j.o.cK J.o (λg e s=>by have:=j.o.dJ g e;have:=Z m (.inl rfl);have:=q.o.aM.size;omega)) L.o (λg e s=>by have:=j.o.dJ g e;have:=Z g s;have:=q.o.aM.size;omega)) j.o.bC
def Bx(w0 w:WD)(m:Nat)(a:OA)(n c:Nat)(f:Fm)(s:Int)(iv nv zv:Value)(k:Nat)(h:kN w0 w m (.slice a n c) s iv nv zv k 0)(hF:FA w a n f)(hN:Fm.gI f)(V:dV f)(hn:n<=1000)(hk:k<=100):
 CL 19 #[PT m] w λe w'=>e=RT (.tuple #[])/\∃a' n' c' H g,kN w0 w' m (.slice a' n' c') s iv nv H (k+1) 0/\FA w' a' n' g/\mI n f g/\(∀b,eM m H b->∀o,a'≠some (AD b o))/\k8 m zv H w w':=by
 obtain ⟨i3,ad,af,ae,ac⟩:=Ol Tryz.ed
 have HN:=Nq (Dd a n c f w hF hN V hn)
 have HM:=Nq h
 obtain ⟨c0,-,-,-,-,-⟩:=h.cells
 clear h hF hN V
 go_enter Tryz.func19,Tryz.ntmps19
 go_upto_region 1 with(go_at_call 41;refine HN.o.mono ?_;rintro e w3 ⟨X,r,Y,g,rfl,hm,hs⟩;have d:=Nq hm;have ab:=Nq hs;clear hm hs;have u:=Nq (HM.o.af d.o.aM);obtain ⟨e0,-,-,-,-,-⟩:=u.o.cells;have z0:=u.o.free 0)
 clear HN c0 e0 z0
 obtain ⟨P,R⟩:=u.o.MB (.slice X r Y)
 have p:=Nq P
 have B:=Nq R
 have L:=Nq HM.o.eE
 clear P R HM u
 generalize w3.setCell (AD m 0) (.slice X r Y)=t at *
 obtain ⟨Z,q1,q2,q3,q4,q5⟩:=p.o.cells
 obtain ⟨xs,F⟩:=p.o.K0
 have C:=Nq F
 obtain ⟨z,A,ag⟩:∃z A,zv=.slice z k A:=by obtain ⟨a,c,e,-⟩:=F.shape;exact ⟨a,c,e⟩
 subst ag
 clear F q1 q2 q3 q5
 refine av 14 (S:=λW=>W.cell? (AD m 0)=some (.slice X r Y)/\W.cell? (AD m 4)=some (.slice z k A)) (by kernel_rfl) (⟨Z,q4⟩) (λD=>?_)
 refine' az 0 ?_
 refine' az 1 ?_
 refine' az 2 ?_
 refine' az 3 ?_
 refine' az 4 ?_
 refine' az 5 ?_
 refine' az 6 ?_
 refine' az 7 ?_
 refine' az 8 ?_
 refine' az 9 ?_
 have j:Hid (BW t ((t.alloc (.cells #[IV r] 3)).drew)):=((Nx _ _).alloc (Nz _) _).drew
 have c5:(t.alloc (.cells #[IV r] 3)).drew.cell? (AD t.heap.size 0)=some (IV r):=OK (w:=t) _ 3 t.heap.size 0 rfl
 have G:=(j.o.cell (Nr _ _ Z)).trans Z
 have y:=(j.o.cell (Nr _ _ q4)).trans q4
 refine aI 10 λK i=>?_
 go_simp
 refine i.o _ _ (λ_=>⟨G,y⟩) ?_
 clear i K
 try walk_nrm
 have M:Hid (Sl (t.alloc (.cells #[IV r] 3)).drew 3 (.slice z k A) k xs):=C.o.aA (aj.aF j.o) (λg e s=>by have:=C.o.lt g e;omega)
 clear D Z q4
 generalize (t.alloc (.cells #[IV r] 3)).drew=w5 at *
 generalize t.heap.size=h5 at c5⊢
 refine aI 11 λK i=>?_
 rw [Oa (by rfl)]
 apply aY.o
 refine gz (.tmp 14) (.tmp 20) 33 rfl 3 i3 (IV 0) 8 OE ad af ae ac rfl (by decide) (.slice z k A) k _ rfl M.o (AD h5 0) (IV r) rfl rfl c5 (by omega) (λv6 w6 E q U=>?_)
 have x:¬(Value.slice z k A).ownBlock=some m:=λe=>(p.o.Jo m e).2 rfl
 have r0:=q.aq G x
 have r4:=q.aq y x
 have f6:w6.frozen? (AD m 4)=false:=(N7 (q.block m (Nr _ _ y) x)).trans (NA (p.o.af j.o).dp 4)
 obtain ⟨a6,l6,c6,e6⟩:∃a l c,v6=.slice a l c:=by obtain ⟨a,c,e,-⟩:=E.shape;exact ⟨a,_,c,e⟩
 subst e6
 obtain ⟨Q,T,O⟩:=p.o.grow j.o E q U
 have aa:=Nq Q
 have J:=Nq T
 have I:=Nq O
 clear Q T O E U q G y c5 x C M
 refine i.o _ _ (λ_=>⟨r0,r4⟩) ?_
 clear i K
 try walk_nrm
 refine aI 12 λK i=>?_
 go_simp
 refine i.o _ _ (λ_=>⟨r0,r4⟩) ?_
 clear i K
 try walk_nrm
 refine aI 13 λK i=>?_
 go_simp
 refine i.o _ _ (λ_=>⟨r0,r4⟩) ?_
 clear i K
 try walk_nrm
 refine aI 14 λK i=>?_
 go_simp
 refine i.o _ _ (λe=>nomatch e) ?_
 clear i K
 try walk_nrm
 refine ay (by kernel_rfl) ?_
 clear r0 r4 f6 j
 generalize w6.setCell (AD m 4) (.slice a6 l6 c6)=w7 at *
 go_wp2
 refine QC (PW (by kernel_rfl) ..) rfl ?_
 refine ⟨rfl,X,r,Y,_,g,aa.o,?_,ab.o,?_,k8.of d.o.aM B.o J.o I.o⟩
 have v:∀b,eM m (.slice z k A) b->b<w.heap.size:=λb N=>(L.o b N).1
 exact yt (bm (bm d.o.cK B.o (λb e s=>by have:=d.o.dJ b e;have:=v m (.inl rfl);omega)) J.o (λb e s=>by have:=d.o.dJ b e;have:=v b s;omega)) d.o.bC
 intro b N o e
 have v:∀b,eM m (.slice z k A) b->b<w.heap.size:=λb N=>(L.o b N).1
 have h1:=Iw d.o.cK e
 have h2:=d.o.dJ b h1
 have h3:=dj d.o.cK b h1
 rcases I.o b N with h4|h4
 have:=v b h4;omega
 have:=B.o.size
 omega
def Gg(w0 w:WD)(m:Nat)(a:OA)(n c:Nat)(f:Fm)(s:Int)(ia:OA)(il ic:Nat)(na:OA)(nl nc:Nat)(zv:Value)(k:Nat)(h:kN w0 w m (.slice a n c) s (.slice ia il ic) (.slice na nl nc) zv k 0)(hF:FA w a n f)(B:∀b,eM m zv b->∀o,a≠some (AD b o))(U:eG w)(hN:Fm.gI f)(ac:dV f)(hn:n<=1000)(hk:k<=100):
 CL 20 #[PT m] w λe w'=>e=RT (.tuple #[])/\∃s' ad ae au af ag aw D ah,kN w0 w' m (.slice a n c) s' (.slice ad ae au) (.slice af ag aw) ah (k+1) D/\k8 m zv ah w w'/\((D=0/\∃A,(∃_:kv f A,True)/\s'=(A.sets:Int)/\bY w' A ad ae af ag/\fS A/\A.sets=(dG f n).length)\/D≠0/\(50<n\/16<(dG f n).length\/lP f n)):=by
 obtain ⟨i3,ao,aq,ap,an⟩:=Ol Tryz.ed
 have HN:=Nq (Ge w n f a c hF U hN ac (by omega))
 have HM:=Nq h
 obtain ⟨c0,c1,c2,am,-,-⟩:=h.cells
 have T:=Nq B
 clear hF U hN ac B
 clear h
 go_enter Tryz.func20,Tryz.ntmps20
 go_upto_region 1 with(go_at_call 42;refine HN.o.mono ?_;intro e w3 t;obtain ⟨s3,H,J,I,x,d,y,D,rfl,hb,hr⟩:=t.one;clear t;have HR:=Nq hr;have O:=Nq hb;clear hr hb;have i:=Nq (HM.o.af O.o);obtain ⟨e0,e1,e2,e3,e4,e5⟩:=i.o.cells;have z1:=i.o.free 1;have z2:=i.o.free 2;have z3:=i.o.free 3;have z5:=i.o.free 5)
 clear HN c0 c1 c2 am e0 e1 e2 e3 e4 e5 z1 z2 z3 z5
 obtain ⟨X,Z⟩:=i.o.KZ s3 (.slice H J I) (.slice x d y) D
 have q:=Nq X
 have P:=Nq Z
 have al:=Nq HM.o.eE
 clear X Z HM i
 generalize (((w3.setCell (AD m 1) (IV s3)).setCell (AD m 2) (.slice H J I)).setCell (AD m 3) (.slice x d y)).setCell (AD m 5) (IV D)=u at *
 obtain ⟨q0,q1,q2,q3,q4,q5⟩:=q.o.cells
 obtain ⟨xs,G⟩:=q.o.K0
 have C:=Nq G
 obtain ⟨M,N,ar⟩:∃M N,zv=.slice M k N:=by obtain ⟨a,c,e,-⟩:=G.shape;exact ⟨a,c,e⟩
 subst ar
 clear G q0 q1 q2 q5
 refine av 15 (S:=λW=>W.cell? (AD m 3)=some (.slice x d y)/\W.cell? (AD m 4)=some (.slice M k N)) (by kernel_rfl) (⟨q3,q4⟩) (λE=>?_)
 refine' az 0 ?_
 refine' az 1 ?_
 refine' az 2 ?_
 refine' az 3 ?_
 refine' az 4 ?_
 refine' az 5 ?_
 refine' az 6 ?_
 refine' az 7 ?_
 refine' az 8 ?_
 refine' az 9 ?_
 refine' az 10 ?_
 have p:Hid (BW u ((u.alloc (.cells #[IV d] 3)).drew)):=((Nx _ _).alloc (Nz _) _).drew
 have c5:(u.alloc (.cells #[IV d] 3)).drew.cell? (AD u.heap.size 0)=some (IV d):=OK (w:=u) _ 3 u.heap.size 0 rfl
 have L:=(p.o.cell (Nr _ _ q3)).trans q3
 have z:=(p.o.cell (Nr _ _ q4)).trans q4
 refine aI 11 λK j=>?_
 go_simp
 refine j.o _ _ (λ_=>⟨L,z⟩) ?_
 clear j K
 try walk_nrm
 have R:Hid (Sl (u.alloc (.cells #[IV d] 3)).drew 3 (.slice M k N) k xs):=C.o.aA (aj.aF p.o) (λg e s=>by have:=C.o.lt g e;omega)
 clear E q3 q4
 generalize (u.alloc (.cells #[IV d] 3)).drew=w5 at *
 generalize u.heap.size=h5 at c5⊢
 refine aI 12 λK j=>?_
 rw [Oa (by rfl)]
 apply aY.o
 refine gz (.tmp 20) (.tmp 27) 33 rfl 3 i3 (IV 0) 8 OE ao aq ap an rfl (by decide) (.slice M k N) k _ rfl R.o (AD h5 0) (IV d) rfl rfl c5 (by omega) (λv6 w6 F r ab=>?_)
 have v:¬(Value.slice M k N).ownBlock=some m:=λe=>(q.o.Jo m e).2 rfl
 have r0:=r.aq L v
 have r4:=r.aq z v
 have f6:w6.frozen? (AD m 4)=false:=(N7 (r.block m (Nr _ _ z) v)).trans (NA (q.o.af p.o).dp 4)
 obtain ⟨a6,l6,c6,e6⟩:∃a l c,v6=.slice a l c:=by obtain ⟨a,c,e,-⟩:=F.shape;exact ⟨a,_,c,e⟩
 subst e6
 obtain ⟨Y,aa,V⟩:=q.o.grow p.o F r ab
 have ak:=Nq Y
 have Q:=Nq aa
 have ai:=Nq V
 clear Y aa V F ab r L z c5 v C R
 refine j.o _ _ (λ_=>⟨r0,r4⟩) ?_
 clear j K
 try walk_nrm
 refine aI 13 λK j=>?_
 go_simp
 refine j.o _ _ (λ_=>⟨r0,r4⟩) ?_
 clear j K
 try walk_nrm
 refine aI 14 λK j=>?_
 go_simp
 refine j.o _ _ (λ_=>⟨r0,r4⟩) ?_
 clear j K
 try walk_nrm
 refine aI 15 λK j=>?_
 go_simp
 refine j.o _ _ (λe=>nomatch e) ?_
 clear j K
 try walk_nrm
 refine ay (by kernel_rfl) ?_
 clear r0 r4 f6 p
 generalize w6.setCell (AD m 4) (.slice a6 l6 c6)=w7 at *
 go_wp2
 refine QC (PW (by kernel_rfl) ..) rfl ?_
 have hS:∀b,eM m (.slice M k N) b->nO w a b:=λb s=>⟨Sg (al.o b s).1,T.o b s⟩
 have hk:aj (nO w a) w3 w7:=(P.o.mono (λb _ e=>hS b (.inl e))).then Q.o (λb _ s=>hS b s)
 refine ⟨rfl,s3,H,J,I,x,d,y,D,_,ak.o,k8.of O.o P.o Q.o ai.o,?_⟩
 exact HR.o.imp (λh=>⟨h.1,by obtain ⟨-,A,h1,h2,h3,h4⟩:=h;obtain ⟨h5,h6⟩:=(h2 w7 hk).get;exact ⟨A,h1,h6,h5,h3,h4⟩⟩) id
def Kh(w0 w:WD)(m:Nat)(fv:Value)(A:Au)(ia:OA)(il ic:Nat)(na:OA)(nl nc:Nat)(zv:Value)(k:Nat)(h:kN w0 w m fv (A.sets:Int) (.slice ia il ic) (.slice na nl nc) zv k 0)(hA:bY w A ia il na nl)(hC:fS A)(hk:k<=100):
 CL 21 #[PT m] w λe w'=>e=RT (.tuple #[])/\∃s' X Z Y aa ac ab y ad,kN w0 w' m fv s' (.slice X Z Y) (.slice aa ac ab) ad (k+1) y/\k8 m zv ad w w'/\((y=0/\∃D,(∃_:Md A D,True)/\yT w' w.heap.size D (.agg #[IV s',.slice X Z Y,.slice aa ac ab])/\fS D)\/y≠0/\jM A):=by
 obtain ⟨i3,ak,am,al,ai⟩:=Ol Tryz.ed
 have HN:=Nq (Cp w A ia il ic na nl nc hA hC)
 have HM:=Nq h
 obtain ⟨c0,c1,c2,ah,-,-⟩:=h.cells
 clear hA hC
 clear h
 go_enter Tryz.func21,Tryz.ntmps21
 go_upto_region 1 with(go_at_call 43;refine HN.o.mono ?_;intro e w3 p;obtain ⟨s3,E,G,F,t,d,u,y,rfl,hb,hr⟩:=p.one;clear p;have HR:=Nq hr;have L:=Nq hb;clear hr hb;have f:=Nq (HM.o.af L.o);obtain ⟨e0,e1,e2,e3,e4,e5⟩:=f.o.cells;have z1:=f.o.free 1;have z2:=f.o.free 2;have z3:=f.o.free 3;have z5:=f.o.free 5)
 clear HN c0 c1 c2 ah e0 e1 e2 e3 e4 e5 z1 z2 z3 z5
 obtain ⟨Q,T⟩:=f.o.KZ s3 (.slice E G F) (.slice t d u) y
 have n:=Nq Q
 have M:=Nq T
 have ag:=Nq HM.o.eE
 clear Q T HM f
 generalize (((w3.setCell (AD m 1) (IV s3)).setCell (AD m 2) (.slice E G F)).setCell (AD m 3) (.slice t d u)).setCell (AD m 5) (IV y)=q at *
 obtain ⟨q0,q1,q2,q3,q4,q5⟩:=n.o.cells
 obtain ⟨xs,C⟩:=n.o.K0
 have x:=Nq C
 obtain ⟨I,J,an⟩:∃I J,zv=.slice I k J:=by obtain ⟨a,c,e,-⟩:=C.shape;exact ⟨a,c,e⟩
 subst an
 clear C q0 q1 q2 q5
 refine av 15 (S:=λW=>W.cell? (AD m 3)=some (.slice t d u)/\W.cell? (AD m 4)=some (.slice I k J)) (by kernel_rfl) (⟨q3,q4⟩) (λz=>?_)
 refine' az 0 ?_
 refine' az 1 ?_
 refine' az 2 ?_
 refine' az 3 ?_
 refine' az 4 ?_
 refine' az 5 ?_
 refine' az 6 ?_
 refine' az 7 ?_
 refine' az 8 ?_
 refine' az 9 ?_
 refine' az 10 ?_
 have j:Hid (BW q ((q.alloc (.cells #[IV d] 3)).drew)):=((Nx _ _).alloc (Nz _) _).drew
 have c5:(q.alloc (.cells #[IV d] 3)).drew.cell? (AD q.heap.size 0)=some (IV d):=OK (w:=q) _ 3 q.heap.size 0 rfl
 have H:=(j.o.cell (Nr _ _ q3)).trans q3
 have v:=(j.o.cell (Nr _ _ q4)).trans q4
 refine aI 11 λK i=>?_
 go_simp
 refine i.o _ _ (λ_=>⟨H,v⟩) ?_
 clear i K
 try walk_nrm
 have O:Hid (Sl (q.alloc (.cells #[IV d] 3)).drew 3 (.slice I k J) k xs):=x.o.aA (aj.aF j.o) (λg e s=>by have:=x.o.lt g e;omega)
 clear z q3 q4
 generalize (q.alloc (.cells #[IV d] 3)).drew=w5 at *
 generalize q.heap.size=h5 at c5⊢
 refine aI 12 λK i=>?_
 rw [Oa (by rfl)]
 apply aY.o
 refine gz (.tmp 20) (.tmp 27) 33 rfl 3 i3 (IV 0) 8 OE ak am al ai rfl (by decide) (.slice I k J) k _ rfl O.o (AD h5 0) (IV d) rfl rfl c5 (by omega) (λv6 w6 B o V=>?_)
 have r:¬(Value.slice I k J).ownBlock=some m:=λe=>(n.o.Jo m e).2 rfl
 have r0:=o.aq H r
 have r4:=o.aq v r
 have f6:w6.frozen? (AD m 4)=false:=(N7 (o.block m (Nr _ _ v) r)).trans (NA (n.o.af j.o).dp 4)
 obtain ⟨a6,l6,c6,e6⟩:∃a l c,v6=.slice a l c:=by obtain ⟨a,c,e,-⟩:=B.shape;exact ⟨a,_,c,e⟩
 subst e6
 obtain ⟨R,U,P⟩:=n.o.grow j.o B o V
 have af:=Nq R
 have N:=Nq U
 have ae:=Nq P
 clear R U P B V o H v c5 r x O
 refine i.o _ _ (λ_=>⟨r0,r4⟩) ?_
 clear i K
 try walk_nrm
 refine aI 13 λK i=>?_
 go_simp
 refine i.o _ _ (λ_=>⟨r0,r4⟩) ?_
 clear i K
 try walk_nrm
 refine aI 14 λK i=>?_
 go_simp
 refine i.o _ _ (λ_=>⟨r0,r4⟩) ?_
 clear i K
 try walk_nrm
 refine aI 15 λK i=>?_
 go_simp
 refine i.o _ _ (λe=>nomatch e) ?_
 clear i K
 try walk_nrm
 refine ay (by kernel_rfl) ?_
 clear r0 r4 f6 j
 generalize w6.setCell (AD m 4) (.slice a6 l6 c6)=w7 at *
 go_wp2
 refine QC (PW (by kernel_rfl) ..) rfl ?_
 have hS:∀b,eM m (.slice I k J) b->(λb=>b<w.heap.size) b:=λb s=>(ag.o b s).1
 have hk:aj ((λb=>b<w.heap.size)) w3 w7:=(M.o.mono (λb _ e=>hS b (.inl e))).then N.o (λb _ s=>hS b s)
 refine ⟨rfl,s3,E,G,F,t,d,u,y,_,af.o,k8.of L.o M.o N.o ae.o,?_⟩
 exact HR.o.imp (λh=>⟨h.1,by obtain ⟨-,D,h1,h2,h3⟩:=h;exact ⟨D,h1,h2.aA hk,h3⟩⟩) id
def EJ(w:WD)(a:OA)(n c:Nat)(F:List (Int×Int))(hF:bB w a n F)(B:n<=4611686018427387903):
 CL 16 #[.slice a n c] w λe C=>∃m h D,e=RT (PT m)/\kN w C m (.slice a n c) 0 (SN) (SN) D 1 h/\((h=0/\n<=24/\∃f,jr F f)\/(h≠0/\(24<n\/∀f,¬jr F f))):=by
 obtain ⟨o,j⟩:=EX (w.alloc (.cells #[IV n] 3))
 have i:BW w o:=j▸ag _ _
 have y:Hid (Sl o 3 (SV w.heap.size 1 1) 1 [IV n]):=by rw [<-j];exact QR w #[IV n] 1 (NS _) (by decide) rfl
 have u:=Nq i
 have v:=Nq (ER a n c F o (hF.af i) B)
 clear hF i
 go_enter Tryz.func16,Tryz.ntmps16
 go_wp2_with (go_at_call 38;refine v.o.mono ?_;rintro e l ⟨h,rfl,q,z⟩;have p:=Nq q;have A:=Nq z;clear q z)
 obtain ⟨t,k⟩:=EX (l.alloc (.cells #[.slice a n c,IV 0,SN,SN,SV w.heap.size 1 1,IV h] 51))
 have x:BW l t:=k▸ag _ _
 have r:HC t l.heap.size #[.slice a n c,IV 0,SN,SN,SV w.heap.size 1 1,IV h] 51:=by rw [<-k];exact (ND l _).1
 rw [k]
 go_ret
 have d:=aa p.o x
 have E:w.heap.size<o.heap.size:=by rw [<-j,NG];omega
 have G:=p.o.size
 exact ⟨l.heap.size,h,_,rfl,⟨aa u.o d,by omega,r,⟨_,y.o.aA (aj.aF d) (λg e s=>by have:=y.o.lt g e;omega)⟩,λb e=>by cases e;exact ⟨Nz _,show w.heap.size≠l.heap.size by omega⟩⟩,A.o⟩
def Ef(w:WD)(m b n:Nat)(o:Nat->Nat)(J:Nat->Int->WD->Prop)(I:n<=1000)
 (d:∀(i:Nat)(a:Int)(W:WD),J i a W->CA W m 5 (IV a)/\∀j,j<n->CA W b j (.func (.func (o j)) #[] #[]))
 (g:∀(i:Nat)(W:WD),i<n->J i 0 W->CL (o i) #[PT m] W λe z=>e=RT (.tuple #[])/\∃a,J (i+1) a z)
 (f:∀(i:Nat)(c:Array Value)(W:WD),i<n->(callFunc (o i) c).run Tryz.prog W=.ok (.enter (o i) c) W) (k:Int) (D:J 0 k w):
 CL 17 #[PT m,SV b n n] w λe z=>e=RT (.tuple #[])/\∃i a,J i a z/\(i=n\/i<=n/\a≠0):=by
 have A:=Nq d
 have h:=Nq g
 have B:=Nq D
 have q:=Nq f
 clear d g D f
 go_enter Tryz.func17,Tryz.ntmps17
 go_upto_region 1 with(fail)
 go_loopw [8] (λv wr=>∃(i:Nat)(a:Int),v=IV i/\i<=n/\Hid (J i a wr)) (λv _=>n-(intOf v).toNat)
 exact ⟨0,k,rfl,NS _,B⟩
 clear B
 obtain ⟨i,a,rfl,y,p⟩:=hrel
 by_cases u:i<n
 have x:(i:Int)<(n:Int):=by omega
 obtain ⟨G,C⟩:=A.o i a wr p.o
 have H:=C i u
 clear C
 by_cases t:a=0
 subst t
 have E:=Nq (h.o i wr u p.o)
 have f:=λc W=>q.o i c W u
 clear h A q
 go_wp2_with (with_reducible refine E.o.mono ?_;rintro e K ⟨rfl,s,l⟩;have r:=Nq l;clear l)
 go_roundw
 exact ⟨i+1,s,by go_num,by omega,r⟩
 simp [intOf];omega
 clear h q
 have F:((a==0)=false):=NC.2 t
 go_wp2
 (try simp only [Exit.inBlock,Exit.then])
 refine OS (PW (by kernel_rfl) ..) rfl ?_
 exact ⟨rfl,i,a,p.o,.inr ⟨y,t⟩⟩
 obtain rfl:i=n:=by omega
 have x:¬(i:Int)<(i:Int):=by omega
 go_wp2
 refine QC (PW (by kernel_rfl) ..) rfl ?_
 exact ⟨rfl,i,a,p.o,.inl rfl⟩
end Go.Proofs.YtimniinkpipnmaaGreatDoor
namespace Go.Proofs.YtimniinkpipnmaaGreatDoor.Scc
open Go.Own
section
open Go.RowKit
def Fu(b a t:Int)(q:Nat)(w:WD)(h:CA w q 0 (IV t)):
 Calls Tryz.prog 128 #[.agg #[IV b,IV a],PT q] w λe d=>e=RT (.bool (b==t))/\BW w d:=by
 have c:Hid (∀W,W=w.alloc (.cells #[IV b,IV a] 66)->BW w W):=by rintro W rfl;exact (Nx _ w).alloc (Nz _) _
 have f:(w.alloc (.cells #[IV b,IV a] 66)).cell? (AD q 0)=some (IV t):=((c.o _ rfl).cell (Nr w _ h)).trans h
 clear h
 go_enter Tryz.func128,Tryz.ntmps128
 go_wp2
 go_ret
 exact ⟨rfl,c.o _ rfl⟩
def mH(w:WD)(e:OA)(b:List Int):Prop:=
 ∀j,j<b.length->∃d a,e=some (AD d a)/\w.cell? (AD d (a+j*2))=some (IV (b.getD j 0))/\∃c,w.cell? (AD d (a+j*2+1))=some (IV c)
def mH.af{w k:WD}{e:OA}{a:List Int}(h:mH w e a)(i:BW w k):mH k e a:=λj l=>by obtain ⟨b,d,rfl,f,c,g⟩:=h j l;exact ⟨b,d,rfl,(i.cell (Nr w _ f)).trans f,c,(i.cell (Nr w _ g)).trans g⟩
def AA{row:List Int}{k:Nat}{t:Int}(a:k<row.length)(h:row.getD k 0=t):row.contains t=true:=by rw [PX];refine N6 ?_;rw [<-h,O6,QA a];exact R9 a
def zi{a:List Int}{t:Int}(h:∀j,j<a.length->a.getD j 0≠t):a.contains t=false:=by rw [PX];refine NX λc=>?_;obtain ⟨i,b,e⟩:=List.mem_iff_getElem.1 c;refine h i b ?_;rw [O6,QA b];exact e
def Ff(C:OA)(m H:Nat)(a:List Int)(t:Int)(q:Nat)(w:WD)(E:a.length=m)(F:mH w C a)(h:CA w q 0 (IV t))(P:m<=1000000000):
 Calls Tryz.prog 160 #[.slice C m H,.func (.func 128) #[] #[PT q]] w λe K=>(∃z:Int,e=RT (IV z)/\decide (0<=z)=a.contains t)/\BW w K:=by
 have s:=Oi E
 have G:=Oi F
 have B:=Oi h
 clear E F h
 go_enter Tryz.func160,Tryz.ntmps160
 go_wp2
 go_loopw [8] (λx wr=>∃k:Nat,k<=m/\x=IV k/\Hid (∀j,j<k->a.getD j 0≠t)/\Hid (BW w wr)) (λx _=>m-(intOf x).toNat)
 exact ⟨0,NS _,rfl,λj I=>by omega,Nx _ _⟩
 obtain ⟨k,O,rfl,g,f⟩:=hrel
 by_cases l:k<m
 have D:(k:Int)<(m:Int):=by omega
 obtain ⟨b,J,rfl,M,y,N⟩:=(G.o.af f.o) k (by rw [s.o];exact l)
 have o:=Oi (Fu (a.getD k 0) y t q wr ((f.o.cell (Nr w _ B.o)).trans B.o))
 have p:=Oi (λe=>AA (t:=t) (k:=k) (row:=a) (by rw [s.o];exact l) e)
 have u:Hid (a.getD k 0≠t->∀j,j<k+1->a.getD j 0≠t):=λA j I=>by by_cases e:j=k;subst e;exact A;exact g.o j (by omega)
 generalize a.getD k 0=x at *
 clear g
 by_cases n:x=t
 have r:=Oi (p.o n)
 clear p u
 subst n
 have i:(x==x)=true:=beq_self_eq_true x
 rw [i]at o
 clear i
 go_wp2_with (go_at_call 128;refine o.o.mono ?_;rintro e L ⟨rfl,c⟩;have d:=Oi (f.o.trans (c.mono f.o.size));clear c)
 go_ret
 exact ⟨⟨(k:Int),rfl,by rw [r.o];exact N6 (by omega)⟩,d.o⟩
 have i:(x==t)=false:=Pk.2 n
 rw [i]at o
 have v:=Oi (u.o n)
 clear i n u p
 go_wp2_with (go_at_call 128;refine o.o.mono ?_;rintro e L ⟨rfl,c⟩;have d:=Oi (f.o.trans (c.mono f.o.size));clear c)
 go_roundw
 exact ⟨k+1,by omega,by go_num,v,d⟩
 simp [intOf];omega
 obtain rfl:m=k:=by omega
 go_wp2
 go_ret
 exact ⟨⟨-1,rfl,by rw [zi (by rw [s.o];exact g.o)];rfl⟩,f.o⟩
def jJ(b:OA)(m c:Nat)(a:List Int)(t:Int)(q:Nat)(w:WD)(d:a.length=m)(f:mH w b a)(h:CA w q 0 (IV t))(n:m<=1000000000):
 Calls Tryz.prog 127 #[.slice b m c,.func (.func 128) #[] #[PT q]] w λe i=>e=RT (.bool (a.contains t))/\BW w i:=by
 have j:=Oi (Ff b m c a t q w d f h n)
 clear d f h
 go_enter Tryz.func127,Tryz.ntmps127
 go_wp2_with (go_at_call 160;refine j.o.mono ?_;rintro e i ⟨⟨z,rfl,g⟩,l⟩;have k:=Oi g;clear g)
 go_ret
 exact ⟨by rw [<-k.o];rfl,l⟩
def pK(E:List (List Int))(v:Nat):Bool:=(E.getD v []).contains (v:Int)
def Fv(g j:Value)(a:OA)(n d:Nat)(E:List (List Int))(v:Nat)(w:WD)(x:E.length=n)(z:eQ w a E)(B:v<n)(c:∀i,i<E.length->(E.getD i []).length<=1000000000):
 Calls Tryz.prog 89 #[.agg #[g,.slice a n d,j],IV v] w λe C=>e=RT (.bool (pK E v))/\Below w.heap.size w C:=by
 have J:(v:Int)<(n:Int):=by omega
 have k:Hid (∀W,W=(w.alloc (.cells #[g,.slice a n d,j] 55)).alloc (.cells #[IV v] 3)->Below w.heap.size w W):=by rintro W rfl;exact ((Nx _ w).alloc (Nz _) _).alloc (by simp) _
 have u:Hid (∀W,W=(w.alloc (.cells #[g,.slice a n d,j] 55)).alloc (.cells #[IV v] 3)->W.cell? (AD (w.heap.size+1) 0)=some (IV v)):=by rintro W rfl;exact OK (w:=w.alloc (.cells #[g,.slice a n d,j] 55)) _ 3 _ 0 (by simp)
 have t:Hid (∀W,W=(w.alloc (.cells #[g,.slice a n d,j] 55)).alloc (.cells #[IV v] 3)->W.cell? (AD w.heap.size 1)=some (.slice a n d)):=by rintro W rfl;rw [World.cell?_alloc_past _ _ _ (by simp)];exact OK (w:=w) _ 55 w.heap.size 1 rfl
 have l:Hid (∀W,Below w.heap.size w W->eQ W a E):=λW h=>z.af h
 have o:=Oi c
 have s:=Oi x
 clear z c x
 go_enter Tryz.func89,Tryz.ntmps89
 go_upto_region 1 with(fail)
 have f:=k.o _ rfl
 have I:=u.o _ rfl
 have N:=t.o _ rfl
 clear k u t
 generalize (w.alloc (.cells #[g,.slice a n d,j] 55)).alloc (.cells #[IV v] 3)=L at *
 (try unfold BW at *);generalize w.heap.size+1=q at *
 obtain ⟨b,K,G,H,rfl,M,A⟩:=(l.o _ f).at v (by(try unfold BW);rw [s.o];exact B)
 have D:=Oi (jJ G _ H (E.getD v []) (v:Int) q L rfl A I (o.o v (by(try unfold BW);rw [s.o];exact B)))
 have r:=Oi f
 have F:Hid (pK E v=(E.getD v []).contains (v:Int)):=rfl
 clear A f l o
 generalize (E.getD v []).contains (v:Int)=O at *
 generalize (E.getD v []).length=m at *
 go_wp2_with (go_at_call 127;refine D.o.mono ?_;rintro e C ⟨rfl,y⟩;have p:=Oi y;clear y)
 go_ret
 exact ⟨by rw [F.o];rfl,r.o.trans (p.o.mono r.o.size)⟩
def bM(E:List (List Int))(n:Nat)(a:Int):List Int->Bool
 |[]=>decide (0<=a)&&pK E a.toNat
 |v::r=>if v<0\/(n:Int)<=v\/v=a then bM E n a r else if 0<=a then true else bM E n v r
def zj{E:List (List Int)}{n k:Nat}{a:Int}{b:List Int}(c:k<b.length):bM E n a (b.drop k)=bM E n a (b.getD k 0::b.drop (k+1)):=by rw [List.drop_eq_getElem_cons c,O6,QA c];rfl
def gX{E:List (List Int)}{n:Nat}{a v:Int}{r:List Int}(h:v<0\/(n:Int)<=v\/v=a):bM E n a (v::r)=bM E n a r:=by
 conv=>lhs;unfold bM
 rw [Oa h]
def qW{E:List (List Int)}{n:Nat}{a v:Int}{r:List Int}(h:¬(v<0\/(n:Int)<=v\/v=a))(b:0<=a):bM E n a (v::r)=true:=by
 conv=>lhs;unfold bM
 rw [Of h,Oa b]
def mN{E:List (List Int)}{n:Nat}{a v:Int}{r:List Int}(h:¬(v<0\/(n:Int)<=v\/v=a))(b:¬0<=a):bM E n a (v::r)=bM E n v r:=by
 conv=>lhs;unfold bM
 rw [Of h,Of b]
def Cn(B C:Value)(q:OA)(n A:Nat)(E:List (List Int))(K:OA)(m T:Nat)(d:List Int)(w:WD)(L:E.length=n)(O:eQ w q E)(hn:n<=1000000)(p:∀i,i<E.length->(E.getD i []).length<=1000000000)(M:aG .i64 w K m d)(hm:m<=9223372036854775807):
 Calls Tryz.prog 59 #[.agg #[B,.slice q n A,C],.slice K m T] w λe Z=>e=RT (.bool (bM E n (-1) d))/\BW w Z:=by
 have HE:=Oi L
 have u:Hid (BW w (w.alloc (.cells #[B,.slice q n A,C] 55))):=(Nx _ w).alloc (Nz _) _
 have R:=Oi λ(v:Nat)(U:v<n)=>Fv B C q n A E v (w.alloc (.cells #[B,.slice q n A,C] 55)) L (O.af u.o) U p
 have S:Hid (aG .i64 (w.alloc (.cells #[B,.slice q n A,C] 55)) K m d):=M.af u.o
 have D:Hid (d.length=m):=M.1
 clear O p L M
 go_enter Tryz.func59,Tryz.ntmps59
 go_wp2_with fail
 go_loopw [5,10] (λo x wr=>∃(k:Nat)(a:Int),k<=m/\x=IV k/\o=IV a/\-1<=a/\a<n/\Hid (bM E n a (d.drop k)=bM E n (-1) d)/\wr=w.alloc (.cells #[B,.slice q n A,C] 55)) (λ_ x _=>m-(intOf x).toNat)
 exact ⟨0,-1,NS _,rfl,rfl,by omega,by omega,rfl,rfl⟩
 obtain ⟨k,a,hk,rfl,rfl,s,t,H,rfl⟩:=hrel
 by_cases G:k<m
 ·have P:(k:Int)<(m:Int):=by omega
  obtain ⟨-,h0|⟨b,V,rfl,N⟩⟩:=S.o
  ·omega
  have c1:=N k G;have f:Hid (bM E n a (d.getD k 0::d.drop (k+1))=bM E n (-1) d):=(zj (by rw [D.o];exact G)).symm.trans H.o;generalize d.getD k 0=z at *;clear N H;by_cases l:z<0
  ·have W:decide (z<0)=true:=N6 l;have h:Hid (bM E n a (d.drop (k+1))=bM E n (-1) d):=(gX (.inl l)).symm.trans f.o
   clear f;go_wp2_with fail;go_roundw;exact ⟨k+1,a,by omega,by go_num,rfl,s,t,h,PO⟩;simp [intOf];omega
  ·have W:decide (z<0)=false:=NX l;by_cases j:(n:Int)<=z
   ·have X:decide ((n:Int)<=z)=true:=N6 j;have h:Hid (bM E n a (d.drop (k+1))=bM E n (-1) d):=(gX (.inr (.inl j))).symm.trans f.o
    clear f;go_wp2_with fail;go_roundw;exact ⟨k+1,a,by omega,by go_num,rfl,s,t,h,PO⟩;simp [intOf];omega
   ·have X:decide ((n:Int)<=z)=false:=NX j;by_cases r:z=a
    ·have Y:(z==a)=true:=RP.2 r;have h:Hid (bM E n a (d.drop (k+1))=bM E n (-1) d):=(gX (.inr (.inr r))).symm.trans f.o
     clear f;go_wp2_with fail;go_roundw;exact ⟨k+1,a,by omega,by go_num,rfl,s,t,h,PO⟩;simp [intOf];omega
    ·have Y:(z==a)=false:=Pk.2 r;have g:¬(z<0\/(n:Int)<=z\/z=a):=by omega
     by_cases c:0<=a
     ·have I:decide (0<=a)=true:=N6 c;have h:Hid (bM E n (-1) d=true):=f.o.symm.trans (qW g c)
      clear f g;go_wp2_with fail;go_ret;exact ⟨by rw [h.o];rfl,u.o⟩
     ·have I:decide (0<=a)=false:=NX c;have h:Hid (bM E n z (d.drop (k+1))=bM E n (-1) d):=(mN g c).symm.trans f.o
      clear f g;go_wp2_with fail;go_roundw;exact ⟨k+1,z,by omega,by go_num,rfl,by omega,by omega,h,PO⟩;simp [intOf];omega
 ·obtain rfl:m=k:=by omega
  have f:Hid ((decide (0<=a)&&pK E a.toNat)=bM E n (-1) d):=by have:=H.o;rw [List.drop_of_length_le (by rw [D.o];exact Nz _)]at this;exact this
  clear H;by_cases c:0<=a
  ·obtain ⟨y,rfl⟩:∃y:Nat,a=(y:Int):=⟨a.toNat,by omega⟩;have I:decide (0<=(y:Int))=true:=N6 c
   have Q:=Oi (R.o y (by omega));have h:Hid (pK E y=bM E n (-1) d):=by have:=f.o;show pK E y=_;simpa using this
   clear f;go_wp2_with (go_at_call 89;refine Q.o.mono ?_;rintro e w3 ⟨rfl,F⟩;have J:=Oi F;clear F);go_ret;exact ⟨by rw [<-h.o];rfl,u.o.trans (J.o.mono u.o.size)⟩
  ·have I:decide (0<=a)=false:=NX c;have h:Hid (bM E n (-1) d=false):=by have:=f.o;rw [I]at this;exact this.symm
   clear f;go_wp2_with fail;go_ret;exact ⟨by rw [h.o];rfl,u.o⟩
end
def H5(E:List (List Int))(n v:Nat):Bool:=bM E n (-1) (Gx (cC E) n (cC E v))
def mm(n:Nat)(a:Int)(b:List Int)(u:Nat):Prop:=u<n/\((u:Int)=a\/(u:Int)∈b)
def lR{n u:Nat}{b v:Int}{r:List Int}(h:v<0\/(n:Int)<=v\/v=b):mm n b (v::r) u↔mm n b r u:=by unfold mm;rw [N8];constructor;rintro ⟨c,a|a|a⟩;exact ⟨c,.inl a⟩;exact ⟨c,.inl (by omega)⟩;exact ⟨c,.inr a⟩;rintro ⟨c,a|a⟩;exact ⟨c,.inl a⟩;exact ⟨c,.inr (.inr a)⟩
def nw{n u:Nat}{c v:Int}{r:List Int}(d:c=-1):mm n c (v::r) u↔mm n v r u:=by unfold mm;rw [N8];constructor;rintro ⟨b,a|a|a⟩;omega;exact ⟨b,.inl a⟩;exact ⟨b,.inr a⟩;rintro ⟨b,a|a⟩;exact ⟨b,.inr (.inl a)⟩;exact ⟨b,.inr (.inr a)⟩
def zl{E:List (List Int)}{n:Nat}:∀(i:List Int)(c:Int),-1<=c->c<n->∀a b,a≠b->mm n c i a->mm n c i b->bM E n c i=true
 |[],c,_,_,a,b,f,d,g=>by
  obtain ⟨_,d|d⟩:=d;obtain ⟨_,g|g⟩:=g;omega;cases g
  cases d
 |v::r,c,k,l,a,b,f,d,g=>by
  by_cases h:v<0\/(n:Int)<=v\/v=c;rw [gX h];exact zl r c k l a b f ((lR h).1 d) ((lR h).1 g);by_cases j:0<=c;exact qW h j;rw [mN h j];have e:c=-1:=by omega
  exact zl r v (by omega) (by omega) a b f ((nw e).1 d) ((nw e).1 g)
def zk{E:List (List Int)}{n:Nat}:∀(i:List Int)(c:Int),-1<=c->c<n->∀a,mm n c i a->(∀b,mm n c i b->b=a)->bM E n c i=pK E a
 |[],c,_,_,a,d,_=>by obtain ⟨_,d|d⟩:=d;unfold bM;rw [<-d];simp;cases d
 |v::r,c,k,l,a,d,f=>by
  by_cases h:v<0\/(n:Int)<=v\/v=c;rw [gX h];exact zk r c k l a ((lR h).1 d) (λb g=>f b ((lR h).2 g));by_cases j:0<=c;exfalso;have m:=f c.toNat ⟨by omega,.inl (by omega)⟩;have o:=f v.toNat ⟨by omega,.inr (N8.2 (.inl (by omega)))⟩;omega;rw [mN h j];have e:c=-1:=by omega
  exact zk r v (by omega) (by omega) a ((nw e).1 d) (λb g=>f b ((nw e).2 g))
def lq{f:Nat->Nat}{n t u:Nat}:mm n (-1) (Gx f n t) u↔u<n/\f u=t:=by
 unfold mm Gx;rw [OC];constructor;rintro ⟨a,b|⟨v,c,e⟩⟩;omega;rw [Og]at c;obtain rfl:v=u:=by omega
 exact ⟨a,PL c.2⟩;rintro ⟨a,b⟩;exact ⟨a,.inr ⟨u,Og.2 ⟨Oq.2 a,N6 b⟩,rfl⟩⟩
def vV(E:List (List Int))(v:Nat):Scc E v (cC E v):=(iH E v).1
def zB{E:List (List Int)}{u v:Nat}:cC E u=cC E v↔Scc E u v:=by constructor;intro h;exact (vV E u).trans (by rw [h];exact (vV E v).symm);intro h;refine nQ.unique (iH E u) ⟨h.trans (vV E v),λw hw=>(iH E v).2 w (h.symm.trans hw)⟩
def F4{E:List (List Int)}{v:Nat}(a:v<E.length):pK E v=true↔gS E v v:=by unfold pK gS;simp [a]
def Ft{E:List (List Int)}{v:Nat}(i:v<E.length):H5 E E.length v=mD E E.length v v:=by
 unfold H5;by_cases h:∃u,u<E.length/\u≠v/\cC E u=cC E v;obtain ⟨u,d,a,f⟩:=h;rw [zl _ _ (by omega) (by omega) u v a (lq.2 ⟨d,f⟩) (lq.2 ⟨i,rfl⟩)];have k:=zB.1 f;refine (kg.2 ?_).symm;rcases k.2.cR with e|c;exact absurd e.symm a;rcases k.1.cR with e|g;exact absurd e a;exact c.trans g;have d:∀u,u<E.length->cC E u=cC E v->u=v:=λu d f=>by by_cases e:u=v;exact e;exact absurd ⟨u,d,e,f⟩ h
 rw [zk _ _ (by omega) (by omega) v (lq.2 ⟨i,rfl⟩) (λb j=>d b (lq.1 j).1 (lq.1 j).2)];refine Bool.eq_iff_iff.2 ?_;rw [F4 i,kg];constructor;exact Al.zn;rintro ⟨z,c,g⟩;have e:z=v:=d z c.2.1 (zB.2 ⟨g,br.zn c⟩);rw [e]at c;exact c
end Go.Proofs.YtimniinkpipnmaaGreatDoor.Scc
namespace Go.Own
def S2:=@Nat.zero_mod
def Tg:=@Nat.mul_add_mod
def rG(E:List (List Int))(a:Nat->Nat->Prop)(S q:Nat):Prop:=∃p:Nat->Nat,p 0=q/\(∀i,gS E (p i) (p (i+1)))/\∀s,s<S->∀i,∃j,i<=j/\a s (p j)
def pZ(E:List (List Int))(a:Nat->Nat->Prop)(S v:Nat):Prop:=Al E v v/\∀s,s<S->∃x,Scc E v x/\a s x
theorem CV:∀(n:Nat)(p:Nat->Nat)(Q:Nat->Prop),(∀i,∃j,i<=j/\Q j/\p j<n)->∃x,x<n/\∀i,∃j,i<=j/\Q j/\p j=x
 |0,p,Q,h=>by obtain ⟨j,_,_,h⟩:=h 0;omega
 |n+1,p,Q,h=>by
  by_cases c:∀i,∃j,i<=j/\Q j/\p j=n;exact ⟨n,by omega,c⟩;obtain ⟨f,b⟩:=Classical.not_forall.1 c;obtain ⟨x,l,a⟩:=CV n p Q (λi=>by obtain ⟨j,g,a,k⟩:=h (max i f);have d:p j≠n:=λe=>b ⟨j,by omega,a,e⟩;exact ⟨j,by omega,a,by omega⟩)
  exact ⟨x,by omega,a⟩
theorem oH{E:List (List Int)}{p:Nat->Nat}(h:∀i,gS E (p i) (p (i+1)))(i:Nat):∀k,Own.br E (p i) (p (i+k))
 |0=>Own.br.refl E _
 |k+1=>(oH h i k).trans (Own.br.zn (h (i+k)))
theorem Hl{E:List (List Int)}{a:Nat->Nat->Prop}{S q:Nat}(h:rG E a S q):∃v,Own.br E q v/\pZ E a S v:=by
 obtain ⟨p,rfl,f,y⟩:=h;obtain ⟨v,A,l⟩:=CV E.length p (λ_=>True) (λi=>⟨i,P9 _,RX,(f i).1⟩);have g:∀i j,i<=j->Own.br E (p i) (p j):=λi j u=>by
  have:=oH f i (j-i);have e:i+(j-i)=j:=by omega
  rwa [e]at this
 obtain ⟨c,_,_,k⟩:=l 0;refine ⟨v,by rw [<-k];exact g 0 c (Nat.zero_le _),?_,λs z=>?_⟩;obtain ⟨o,b,_,d⟩:=l (c+1);refine ⟨p (c+1),by rw [<-k];exact f c,?_⟩;have:=g (c+1) o b;rwa [d]at this;obtain ⟨x,B,t⟩:=CV E.length p (λj=>a s (p j)) (λi=>by obtain ⟨j,w,m⟩:=y s z i;exact ⟨j,w,m,(f j).1⟩)
 obtain ⟨o,b,m,d⟩:=t c;obtain ⟨C,n,_,r⟩:=l o;refine ⟨x,⟨by rw [<-k,<-d];exact g _ _ b,by rw [<-d,<-r];exact g _ _ n⟩,by rw [<-d];exact m⟩
structure Walk (E:List (List Int)) (m x y:Nat) (w:Nat->Nat):Prop where
 aK:w 0=x
 stop:w m=y
 step:∀i,i<m->gS E (w i) (w (i+1))
theorem pR{E:List (List Int)}:∀(m x y:Nat),yF E m x y->∃w,Walk E m x y w
 |0,x,y,h=>⟨λ_=>x,rfl,h,λi c=>by omega⟩
 |m+1,x,y,⟨z,a,b⟩=>by obtain ⟨w,hw⟩:=pR m z y b;refine ⟨λi=>match i with|0=>x|i+1=>w i,rfl,hw.stop,λi c=>?_⟩;rcases i with _|i;show gS E x (w 0);rw [hw.aK];exact a;exact hw.step i (by omega)
theorem Walk.app{E:List (List Int)}{m k x y z:Nat}{w v:Nat->Nat}(h:Walk E m x y w)(g:Walk E k y z v):Walk E (m+k) x z (λi=>if i<m then w i else v (i-m)):=by
 refine ⟨?_,?_,λi j=>?_⟩;show(if 0<m then w 0 else v (0-m))=x;by_cases d:0<m;rw [Px d];exact h.aK;rw [Of d];have c:m=0:=by omega
 have b:=h.aK;have a:=h.stop;rw [c]at a;have e:0-m=0:=by omega
 rw [e,g.aK,<-a,b];show(if m+k<m then w (m+k)else v (m+k-m))=z;rw [Of (by omega)];have e:m+k-m=k:=by omega
 rw [e];exact g.stop;show gS E (if i<m then w i else v (i-m)) (if i+1<m then w (i+1)else v (i+1-m));by_cases b:i+1<m;rw [Px (by omega),Px b];exact h.step i (by omega);rw [Of b];by_cases a:i<m;rw [Px a];have e:i+1=m:=by omega
 have f:i+1-m=0:=by omega
 rw [f,g.aK];have:=h.step i a;rw [e,h.stop]at this;exact this;rw [Of a];have e:i+1-m=i-m+1:=by omega
 rw [e];exact g.step (i-m) (by omega)
theorem yd{E:List (List Int)}{c:Nat->Nat->Prop}{S v:Nat}(h:pZ E c S v):∀k,k<=S->∃L w,0<L/\Walk E L v v w/\∀s,s<k->∃i,i<L/\c s (w i)
 |0,_=>by obtain ⟨z,g,m,f⟩:=h.1;obtain ⟨w,hw⟩:=pR (m+1) v v ⟨z,g,f⟩;exact ⟨m+1,w,by omega,hw,λs l=>by omega⟩
 |k+1,B=>by obtain ⟨L,w,A,hw,l⟩:=yd h k (by omega);obtain ⟨x,⟨⟨a,g⟩,⟨b,f⟩⟩,n⟩:=h.2 k (by omega);obtain ⟨y,j⟩:=pR a v x g;obtain ⟨o,d⟩:=pR b x v f;have W:=(hw.app j).app d;refine ⟨L+a+b,_,by omega,W,λs u=>?_⟩;by_cases e:s=k;subst e;by_cases q:b=0;subst q;have p:x=v:=f;refine ⟨0,by omega,?_⟩;rw [W.aK,<-p];exact n;refine ⟨L+a,by omega,?_⟩;show c s (if L+a<L+a then _ else o (L+a-(L+a)));rw [Of (by omega),Qf,d.aK];exact n;obtain ⟨i,t,r⟩:=l s (by omega);refine ⟨i,by omega,?_⟩;show c s (if i<L+a then(if i<L then w i else y (i-L))else o (i-(L+a)));rw [Px (by omega),Px t];exact r
theorem A3{L:Nat}(a:0<L)(j:Nat):(j+1)%L=if j%L+1=L then 0 else j%L+1:=by
 have b:=Nat.div_add_mod j L;have c:=Nat.mod_lt j a;by_cases h:j%L+1=L;rw [Px h];have e:j+1=L*(j/L+1):=by rw [Nat.mul_add,Nat.mul_one];omega
 rw [e,Nat.mul_mod_right];rw [Of h];have e:j+1=L*(j/L)+(j%L+1):=by omega
 conv=>lhs;rw [e]
 rw [Tg,Q3 (by omega)]
theorem AR{E:List (List Int)}{c:Nat->Nat->Prop}{S q v:Nat}(z:Own.br E q v)(h:pZ E c S v):rG E c S q:=by
 obtain ⟨m,y⟩:=z;obtain ⟨f,a⟩:=pR m q v y;obtain ⟨L,w,g,hw,A⟩:=yd h S (P9 _);refine ⟨λi=>if i<m then f i else w ((i-m)%L),?_,λi=>?_,λs n i=>?_⟩;show(if 0<m then f 0 else w ((0-m)%L))=q;by_cases o:0<m;rw [Px o];exact a.aK;rw [Of o];have l:m=0:=by omega
 have e:0-m=0:=by omega
 have d:=a.stop;rw [l]at d;rw [e,S2,hw.aK,<-d,a.aK];show gS E (if i<m then f i else w ((i-m)%L)) (if i+1<m then f (i+1)else w ((i+1-m)%L));by_cases p:i+1<m;rw [Px (by omega),Px p];exact a.step i (by omega);rw [Of p];by_cases d:i<m;rw [Px d];have e:i+1=m:=by omega
 have r:i+1-m=0:=by omega
 rw [r,S2,hw.aK];have:=a.step i d;rw [e,a.stop]at this;exact this;rw [Of d];have e:i+1-m=i-m+1:=by omega
 have j:=Nat.mod_lt (i-m) g;have b:=hw.step ((i-m)%L) j;rw [e,A3 g];split;rename_i t;rw [t,hw.stop]at b;rw [hw.aK];exact b;exact b;obtain ⟨k,x,u⟩:=A s n;refine ⟨m+(L*i+k),?_,?_⟩;have:i<=L*i:=Nat.le_mul_of_pos_left i g;omega;show c s (if m+(L*i+k)<m then f (m+(L*i+k))else w ((m+(L*i+k)-m)%L));rw [Of (by omega)];have e:m+(L*i+k)-m=L*i+k:=by omega
 rw [e,Tg,Q3 x];exact u
theorem JU{E:List (List Int)}{a:Nat->Nat->Prop}{S q:Nat}:rG E a S q↔∃v,Own.br E q v/\pZ E a S v:=
 ⟨Hl,λ⟨_,b,c⟩=>AR b c⟩
def cJ(a b:List Nat)(i:Nat):Nat:=if i<a.length then a.getD i 0 else b.getD ((i-a.length)%b.length) 0
def gi(a b:List Nat)(k:Nat):Nat:=if k+1=a.length+b.length then a.length else k+1
def mY(b a:List Nat):Nat->Nat
 |0=>0
 |i+1=>gi b a (mY b a i)
theorem j9{st a:List Nat}(h:0<a.length):∀i,mY st a i<st.length+a.length
 |0=>by show 0<_;omega
 |i+1=>by have:=j9 (st:=st) h i;show gi st a (mY st a i)<_;unfold gi;split<;>omega
theorem Bf{a b:List Nat}(h:0<b.length):∀i,mY a b i=if i<a.length then i else a.length+(i-a.length)%b.length
 |0=>by
  show 0=_;by_cases c:0<a.length;rw [Px c];rw [Of c];have e:0-a.length=0:=by omega
  rw [e,S2];omega
 |i+1=>by
  show gi a b (mY a b i)=_;rw [Bf h i];unfold gi;by_cases d:i+1<a.length;rw [Px (by omega:i<a.length),Px d,Of (by omega)];rw [Of d];by_cases f:i<a.length;rw [Px f];have e:i+1-a.length=0:=by omega
  rw [e,S2];split<;>omega;rw [Of f];have e:i+1-a.length=i-a.length+1:=by omega
  rw [e,A3 h];by_cases g:(i-a.length)%b.length+1=b.length;rw [Px g,Px (by omega)];omega;rw [Of g,Of (by omega)];omega
theorem lY{a b:List Nat}(h:0<b.length)(i:Nat):cJ a b (mY a b i)=cJ a b i:=by
 rw [Bf h i];by_cases c:i<a.length;rw [Px c];rw [Of c];unfold cJ;rw [Of (by omega),Of c];have e:a.length+(i-a.length)%b.length-a.length=(i-a.length)%b.length:=by omega
 rw [e,Nat.mod_mod]
structure Dw (A:Au) (b a:List Nat) (E:List (List Int)) (nd:Nat->Nat->Nat) (pk pq:Nat->Nat):Prop where
 pk:∀k q,k<b.length+a.length->q<A.ah.length->pk (nd k q)=k
 pq:∀k q,k<b.length+a.length->q<A.ah.length->pq (nd k q)=q
 gS:∀k q,k<b.length+a.length->q<A.ah.length->∀y,gS E (nd k q) y↔
  ∃t∈(A.aw q).tO,ji (A.aw q).ak (A.aw q).aD (cJ b a k)/\ji (A.aw t).ak (A.aw t).aD (cJ b a (gi b a k))/\y=nd (gi b a k) t
theorem xX{A:Au}{c b:List Nat}{E:List (List Int)}{k:Nat->Nat->Nat}{L a:Nat->Nat}(h:Dw A c b E k L a)(n:Valid A)(d:0<b.length):
 jR A (cJ c b)↔∃q∈A.aJ,ji (A.aw q).ak (A.aw q).aD (cJ c b 0)/\rG E (λs x=>(A.aw (a x)).aT.testBit s=true) A.sets (k 0 q):=by
 constructor
 rintro ⟨r,R⟩
 refine ⟨r 0,R.aK,R.rd 0,λi=>k (mY c b i) (r i),rfl,λi=>?_,λs J i=>?_⟩
 rw [h.gS _ _ (j9 d i) (R.lt i)]
 refine ⟨r (i+1),R.step i,?_,?_,rfl⟩
 rw [lY d];exact R.rd i
 show ji _ _ (cJ c b (mY c b (i+1)))
 rw [lY d];exact R.rd (i+1)
 obtain ⟨j,H,G⟩:=R.vZ s J i
 refine ⟨j,H,?_⟩
 show(A.aw (a (k (mY c b j) (r j)))).aT.testBit s=true
 rw [h.pq _ _ (j9 d j) (R.lt j)];exact G
 rintro ⟨q,o,M,p,l,z,I⟩
 have v:∀i,∃t,t<A.ah.length/\p i=k (mY c b i) t:=by
  intro i;induction i with
  |zero=>exact ⟨q,n.aJ q o,l⟩
  |succ i K=>obtain ⟨t,g,e⟩:=K;have:=z i;rw [e,h.gS _ _ (j9 d i) g]at this;obtain ⟨B,u,_,_,C⟩:=this;exact ⟨B,n.tO t g B u,C⟩
 have f:∀i,a (p i)<A.ah.length/\p i=k (mY c b i) (a (p i)):=λi=>by obtain ⟨t,g,e⟩:=v i;rw [e,h.pq _ _ (j9 d i) g];exact ⟨g,rfl⟩
 have m:∀i,a (p (i+1))∈(A.aw (a (p i))).tO/\ji (A.aw (a (p i))).ak (A.aw (a (p i))).aD (cJ c b i):=λi=>by
  have w:=z i;have D:=(f i).2;rw [D,h.gS _ _ (j9 d i) (f i).1]at w;obtain ⟨t,g,y,_,e⟩:=w;have F:a (p (i+1))=t:=by rw [e];exact h.pq _ _ (j9 d (i+1)) (n.tO _ (f i).1 t g)
  rw [lY d]at y;exact ⟨by rw [F];exact g,y⟩
 refine ⟨λi=>a (p i),?_,λi=>(f i).1,λi=>(m i).1,λi=>(m i).2,I⟩
 show a (p 0)∈A.aJ
 rw [l,h.pq 0 q (by omega) (n.aJ q o)];exact o
def nA(x:bV):Prop:=∀k,¬(x.ak.testBit k=true/\x.aD.testBit k=true)
theorem qy{x:bV}{v:Nat}(h:ji x.ak x.aD v):nA x:=λk ⟨c,d⟩=>by have a:=(h k).1 c;have b:=(h k).2 d;rw [a]at b;cases b
structure Jv (A:Au) (E:List (List Int)):Prop where
 bC:E.length=A.ah.length
 gS:∀q y,q<A.ah.length->(gS E q y↔y∈(A.aw q).tO/\nA (A.aw q)/\nA (A.aw y))
structure y9 (A T:Au) (use:Nat->Prop) (aW aA:Nat->Nat):Prop where
 sets:T.sets=A.sets
 vT:∀p,p<T.ah.length->aA p<A.ah.length/\aW (aA p)=p
 rep:∀q,q<A.ah.length->use q->aW q<T.ah.length/\aA (aW q)=q
 ak:∀p,p<T.ah.length->(T.aw p).ak=(A.aw (aA p)).ak
 aD:∀p,p<T.ah.length->(T.aw p).aD=(A.aw (aA p)).aD
 aT:∀p,p<T.ah.length->(T.aw p).aT=(A.aw (aA p)).aT
 aJ:∀p∈T.aJ,∃q∈A.aJ,use q/\aW q=p
 gZ:∀q∈A.aJ,use q->aW q∈T.aJ
 tO:∀n,n<T.ah.length->∀p∈(T.aw n).tO,∃q∈(A.aw (aA n)).tO,use q/\aW q=p
 nm:∀n,n<T.ah.length->∀q∈(A.aw (aA n)).tO,use q->aW q∈(T.aw n).tO
def Mk(A:Au)(E:List (List Int))(q:Nat):Prop:=
 (∃s∈A.aJ,nA (A.aw s)/\Own.br E s q)/\rG E (λs x=>(A.aw x).aT.testBit s=true) A.sets q
theorem rF{A T:Au}{E:List (List Int)}{n f:Nat->Nat}(C:Jv A E)(h:y9 A T (Mk A E) n f)(y:Valid A)(u:Nat->Nat):jR T u↔jR A u:=by
 constructor;rintro ⟨r,a⟩;refine Fs a h.sets.symm (λp q=>p<T.ah.length/\f p=q) (λi p e=>?_) ?_ (λi p e=>?_);obtain ⟨g,rfl⟩:=e;exact ⟨(h.vT _ g).1,λk c=>by rw [h.ak _ g];exact c,λk c=>by rw [h.aD _ g];exact c,λs o c=>by rw [<-h.aT _ g];exact c⟩;obtain ⟨q,w,v,e⟩:=h.aJ _ a.aK;exact ⟨q,w,a.lt 0,by rw [<-e];exact (h.rep q (y.aJ q w) v).2⟩;obtain ⟨g,rfl⟩:=e;obtain ⟨t,x,v,z⟩:=h.tO _ g _ (a.step i);exact ⟨t,x,a.lt (i+1),by rw [<-z];exact (h.rep t (y.tO _ (h.vT _ g).1 t x) v).2⟩;rintro ⟨r,a⟩;have d:∀i,gS E (r i) (r (i+1)):=λi=>(C.gS _ _ (a.lt i)).2 ⟨a.step i,qy (a.rd i),qy (a.rd (i+1))⟩;have b:∀i,Mk A E (r i):=λi=>by
  refine ⟨⟨r 0,a.aK,qy (a.rd 0),?_⟩,λk=>r (i+k),rfl,λk=>d (i+k),λs o k=>?_⟩;have:=oH d 0 i;rwa [Nat.zero_add]at this;obtain ⟨j,D,B⟩:=a.vZ s o (i+k);refine ⟨j-i,by omega,?_⟩;have e:i+(j-i)=j:=by omega
  show(A.aw (r (i+(j-i)))).aT.testBit s=true;rw [e];exact B
 refine Fs a h.sets (λq p=>p=n q) (λi p e=>?_) ⟨_,h.gZ _ a.aK (b 0),rfl⟩ (λi p e=>?_);subst e;obtain ⟨l,m⟩:=h.rep _ (a.lt i) (b i);exact ⟨l,λk c=>by rw [h.ak _ l,m]at c;exact c,λk c=>by rw [h.aD _ l,m]at c;exact c,λs o c=>by rw [h.aT _ l,m];exact c⟩;subst e;obtain ⟨l,m⟩:=h.rep _ (a.lt i) (b i);exact ⟨_,h.nm _ l _ (by rw [m];exact a.step i) (b (i+1)),rfl⟩
end Go.Own
namespace Go.Proofs.YtimniinkpipnmaaGreatDoor
open Go.Own
def To:=@Nat.testBit_two_pow_sub_one
def Eb(b:Nat->Nat)(l:List Nat):Nat:=l.foldl (λa i=>a|||b i) 0
def It(a:Nat->Nat)(l:List Nat)(i:Nat):Eb a (l++[i])=Eb a l|||a i:=by unfold Eb;rw [List.foldl_append];rfl
def AM(c:Nat->Nat)(s:Nat):∀(l:List Nat)(a:Nat),(l.foldl (λa i=>a|||c i) a).testBit s=true↔a.testBit s=true\/∃x∈l,(c x).testBit s=true
 |[],a=>⟨.inl,λh=>h.elim id λ⟨_,h,_⟩=>by cases h⟩
 |i::l,a=>by rw [List.foldl_cons,AM c s l,Nat.testBit_or,Py];constructor;rintro ((h|h)|⟨x,b,h⟩);exact .inl h;exact .inr ⟨i,Ok ..,h⟩;exact .inr ⟨x,Ot _ b,h⟩;rintro (h|⟨x,b,h⟩);exact .inl (.inl h);rcases N8.1 b with rfl|b;exact .inl (.inr h);exact .inr ⟨x,b,h⟩
def Ec(a:Nat->Nat)(s:Nat)(l:List Nat):(Eb a l).testBit s=true↔∃x∈l,(a x).testBit s=true:=by unfold Eb;rw [AM,Nat.zero_testBit];exact ⟨λh=>h.elim (λh=>by cases h) id,.inr⟩
def Is(b:Nat->Nat)(l:List Nat)(h:∀x∈l,b x<2^64):Eb b l<2^64:=by
 have:∀(l:List Nat)(a:Nat),a<2^64->(∀x∈l,b x<2^64)->l.foldl (λa i=>a|||b i) a<2^64:=by
  intro l;induction l with
  |nil=>intro a h _;exact h
  |cons i l e=>intro a h c;exact e _ (Nat.or_lt_two_pow h (c i (Ok ..))) (λx d=>c x (Ot _ d))
 exact this l 0 (by decide) h
def GV{a S:Nat}:a&&&(2^S-1)=2^S-1↔∀s,s<S->a.testBit s=true:=by
 constructor;intro h s d;have b:(a&&&(2^S-1)).testBit s=(2^S-1).testBit s:=by rw [h]
 rw [Nat.testBit_and,To,N6 d,Bool.and_true]at b;exact b;intro h;refine Nat.eq_of_testBit_eq λk=>?_;rw [Nat.testBit_and,To];by_cases c:k<S;rw [h k c];rfl;rw [NX c,Bool.and_false]
def qt(E:List (List Int))(n u:Nat):List Nat:=(List.range n).filter λv=>decide (Scc.cC E v=(ef (Scc.cC E) n).getD u 0)
def A0(E:List (List Int))(n u:Nat):dD (Scc.cC E) n u=(qt E n u).map λ(v:Nat)=>(v:Int):=rfl
def kC(E:List (List Int))(a:Nat->Nat)(S n u:Nat):Bool:=decide (Eb a (qt E n u)&&&(2^S-1)=2^S-1)&&Scc.bM E n (-1) (dD (Scc.cC E) n u)
def D5{E:List (List Int)}{n u v:Nat}(h:v∈qt E n u):v<n:=Oq.1 (Og.1 h).1
def AQ{E:List (List Int)}{c:Nat->Nat}{S n u v:Nat}(m:E.length=n)(q:v∈qt E n u):kC E c S n u=true↔pZ E (λs x=>(c x).testBit s=true) S v:=by
 obtain ⟨k,l⟩:=Og.1 q;have f:=Oq.1 k;have i:Scc.cC E v=(ef (Scc.cC E) n).getD u 0:=PL l;have p:dD (Scc.cC E) n u=Gx (Scc.cC E) n (Scc.cC E v):=by unfold dD;rw [i]
 have o:Scc.bM E n (-1) (dD (Scc.cC E) n u)=true↔Own.Al E v v:=by subst m;have:=Scc.Ft (E:=E) f;unfold Scc.H5 at this;rw [p,this,kg]
 have j:∀x,x∈qt E n u↔Own.Scc E v x:=λx=>by unfold qt;rw [Og,Oq,OP,<-i,Scc.zB];constructor;rintro ⟨_,h⟩;exact h.symm;intro h;exact ⟨by have:=h.1.lt (by omega:v<E.length);omega,h.symm⟩
 unfold kC pZ;rw [OB,OP,o,GV];constructor;rintro ⟨a,b⟩;refine ⟨b,λs e=>?_⟩;obtain ⟨x,g,d⟩:=(Ec c s _).1 (a s e);exact ⟨x,(j x).1 g,d⟩;rintro ⟨b,a⟩;refine ⟨λs e=>?_,b⟩;obtain ⟨x,g,d⟩:=a s e;exact (Ec c s _).2 ⟨x,(j x).2 g,d⟩
def J7{E:List (List Int)}{n v:Nat}(a:v<n):∃u,u<dN (Scc.cC E) n/\v∈qt E n u:=by have h:=lA (Scc.yj E v) n (Nat.lt_of_le_of_lt (Scc.zC E v) a);exact ⟨_,h.1,Og.2 ⟨Oq.2 a,by rw [h.2];exact N6 rfl⟩⟩
section
open Go.RowKit
def QQ:=@Bool.and_false
def Rx:=@Bool.and_true
def SF:=@Go.u64_andNot_nat
def Tp:=@Nat.testBit_two_pow_sub_one
def pD(a b:Nat):Nat:=a&&&(18446744073709551615-b)
def uO{a b:Nat}(c:b<18446744073709551616)(k:Nat)(d:k<64):(pD a b).testBit k=(a.testBit k&&!b.testBit k):=by
 have e:18446744073709551615-b=2^64-(b+1):=by omega
 unfold pD;rw [PB,e,Nat.testBit_two_pow_sub_succ c,N6 d,OM]
def JF{a:Nat}(c:a<18446744073709551616){k:Nat}(b:a.testBit k=true):k<64:=by rcases O8 k 64 with h|h;exact h;rw [Nat.testBit_lt_two_pow (NL c (O1 (n:=2) (by decide) h))]at b;cases b
def pE{a b:Nat}(g:a<18446744073709551616)(i:b<18446744073709551616):pD a b=0↔∀k,a.testBit k=true->b.testBit k=true:=by
 constructor;intro h k d;have c:=JF g d;have e:=uO (a:=a) i k c;rw [h,PF,d,OM]at e;cases f:b.testBit k
 rw [f]at e;cases e;rfl;intro h;refine Qx λk=>?_;rw [PF];rcases O8 k 64 with c|c;rw [uO i k c];cases d:a.testBit k
 rfl;rw [h k d];rfl;unfold pD;rw [PB,Nat.testBit_lt_two_pow (NL g (O1 (n:=2) (by decide) c)),Pe]
def iE(a b:bV)(n:Nat):Bool:=decide (pD b.ak a.ak=0)&&(decide (pD b.aD a.aD=0)&&decide (pD a.aT b.aT&&&(2^n-1)=0))
def vg{a b:bV}{n:Nat}(l:n<=64)(i:a.ak<18446744073709551616/\a.aD<18446744073709551616/\a.aT<18446744073709551616)(c:b.ak<18446744073709551616/\b.aD<18446744073709551616/\b.aT<18446744073709551616):
 iE a b n=true↔(∀k,b.ak.testBit k=true->a.ak.testBit k=true)/\(∀k,b.aD.testBit k=true->a.aD.testBit k=true)/\∀k,k<n->a.aT.testBit k=true->b.aT.testBit k=true:=by
 unfold iE
 rw [OB,OB,OP,OP,OP,pE c.1 i.1,pE c.2.1 i.2.1]
 refine and_congr Ry (and_congr Ry ?_)
 constructor
 intro h k f e
 have d:(pD a.aT b.aT&&&(2^n-1)).testBit k=false:=by rw [h,PF]
 rw [PB,uO c.2.2 k (by omega),Tp,N6 f,e,Rx,OM]at d
 cases j:b.aT.testBit k
 rw [j]at d;cases d
 rfl
 intro h
 refine Qx λk=>?_
 rw [PF,PB,Tp]
 rcases O8 k n with g|g
 rw [N6 g,Rx,uO c.2.2 k (by omega)]
 cases f:a.aT.testBit k
 rfl
 rw [h k g f];rfl
 rw [NX (by omega),QQ]
def LK(a b:Nat)(c:a<18446744073709551616):pD a b<18446744073709551616:=Nat.lt_of_le_of_lt Nat.and_le_left c
def EG(w:WD)(a b:bV)(n:Nat)(u:OA)(x v:Nat)(z:OA)(C A:Nat)(hn:n<=16)(p:a.ak<18446744073709551616/\a.aD<18446744073709551616/\a.aT<18446744073709551616)(s:b.ak<18446744073709551616/\b.aD<18446744073709551616/\b.aT<18446744073709551616):
 CL 153 #[.agg #[UV a.ak,UV a.aD,UV a.aT,.slice u x v],.agg #[UV b.ak,UV b.aD,UV b.aT,.slice z C A],IV n] w λe X=>e=RT (.bool (iE a b n))/\BW w X:=by
 obtain ⟨d,h⟩:=EX ((w.alloc (.cells #[UV a.ak,UV a.aD,UV a.aT,.slice u x v] 62)).alloc (.cells #[UV b.ak,UV b.aD,UV b.aT,.slice z C A] 62))
 obtain ⟨q,L⟩:=EX w.heap.size
 have r:BW w d:=h▸aa (ag _ _) (ag _ _)
 have f:d.heap[q]? =some (.cells #[UV a.ak,UV a.aD,UV a.aT,.slice u x v] 62 (0,0)):=by rw [<-h,<-L,(ND _ _).2 _ (by rw [NG];omega)];exact (ND w _).1
 have g:d.heap[q+1]? =some (.cells #[UV b.ak,UV b.aD,UV b.aT,.slice z C A] 62 (0,0)):=by rw [<-h,<-L,<-NG w (.cells #[UV a.ak,UV a.aD,UV a.aT,.slice u x v] 62)];exact (ND _ _).1
 have a0:d.cell? (AD q 0)=some (UV a.ak):=CH f
 have a1:d.cell? (AD q 1)=some (UV a.aD):=CH f
 have a2:d.cell? (AD q 2)=some (UV a.aT):=CH f
 have b0:d.cell? (AD (q+1) 0)=some (UV b.ak):=CH g
 have b1:d.cell? (AD (q+1) 1)=some (UV b.aD):=CH g
 have b2:d.cell? (AD (q+1) 2)=some (UV b.aT):=CH g
 have U:bits .andNot .u64 (b.ak:Int) (a.ak:Int)=((pD b.ak a.ak:Nat):Int):=SF _ _ s.1 p.1
 have V:bits .andNot .u64 (b.aD:Int) (a.aD:Int)=((pD b.aD a.aD:Nat):Int):=SF _ _ s.2.1 p.2.1
 have W:bits .andNot .u64 (a.aT:Int) (b.aT:Int)=((pD a.aT b.aT:Nat):Int):=SF _ _ p.2.2 s.2.2
 have T:2^n<=65536:=O1 (n:=2) (by decide) (by omega:n<=16)
 have y:1<=2^n:=SP
 obtain ⟨M,K⟩:=EX (2^n-1)
 obtain ⟨j,o⟩:=EX (2^n)
 have m1:IntKind.u64.wrap ((2:Int)^n)=(j:Int):=by
  have e:((2:Int)^n)=((2^n:Nat):Int):=by simp
  rw [e,o,QE];exact Ri (Rd _) (by omega)
 have m2:IntKind.u64.wrap ((j:Int)-1)=(M:Int):=by
  have S:((j:Int)-1)=(M:Int):=by omega
  rw [S,QE];exact Ri (Rd _) (by omega)
 have O:bits .and .u64 ((pD a.aT b.aT:Nat):Int) (M:Int)=((pD a.aT b.aT&&&M:Nat):Int):=Pw _ _ (LK _ _ p.2.2) (by omega)
 have c:Hid (iE a b n=(decide (pD b.ak a.ak=0)&&(decide (pD b.aD a.aD=0)&&decide (pD a.aT b.aT&&&M=0)))):=by rw [<-K];exact Nq rfl
 obtain ⟨D,G⟩:=EX (pD b.ak a.ak)
 obtain ⟨E,H⟩:=EX (pD b.aD a.aD)
 obtain ⟨R,I⟩:=EX (pD a.aT b.aT)
 rw [G]at U c
 rw [H]at V c
 rw [I]at W O c
 obtain ⟨F,J⟩:=EX (R&&&M)
 rw [J]at O c
 have t:∀N:Nat,((N:Int)==0)=decide (N=0):=λN=>by
  by_cases e:N=0
  ·subst e;rfl
  ·rw [NX e];simp;omega
 have Y:=t D
 have Z:=t E
 have z4:=t F
 obtain ⟨P,k⟩:=EX (decide (D=0))
 obtain ⟨Q,l⟩:=EX (decide (E=0))
 obtain ⟨B4,m⟩:=EX (decide (F=0))
 rw [k]at Y c
 rw [l]at Z c
 rw [m]at z4 c
 rw [c.o]
 clear t G H I J k l m K o T y c
 have i:=Nq r
 clear f g r p s
 go_enter Tryz.func153,Tryz.ntmps153
 go_upto_region 1 with(fail)
 clear h
 go_upto_region 2 with(fail)
 cases P
 ·go_wp2;go_ret
  exact ⟨rfl,i.o⟩
 ·cases Q
  ·go_wp2;go_ret
   exact ⟨rfl,i.o⟩
  ·go_wp2;go_ret
   exact ⟨rfl,i.o⟩
def u5(w:WD)(a n:Nat)(r:Nat->Nat->Bool):Prop:=∀i k,i<n->k<n->w.cell? (AD a (i*256+k))=some (.bool (r i k))
def u5.af{w d:WD}{c n:Nat}{r:Nat->Nat->Bool}(h:u5 w c n r)(e:BW w d):u5 d c n r:=λi k a b=>(e.cell (Nr w _ (h i k a b))).trans (h i k a b)
def cU(A:Au)(r:Nat->Nat->Bool)(a b:Nat):Bool:=(bV.tO (A.aw a)).all λt=>(bV.tO (A.aw b)).any λu=>r t u
def xz(a:OA)(n c:Nat)(d:List Int)(q f:Value)(m:Int->Bool)(w:WD)(h:aG .i64 w a n d)(O:n<=4611686018427387903)
 (F:∀z∈d,CL 178 #[IV z,q,f] w λe B=>e=RT (.bool (m z))/\B=w):
 CL 84 #[.slice a n c,.func (.func 178) #[] #[q,f]] w λe B=>∃r:Int,e=RT (IV r)/\B=w/\decide (0<=r)=d.any m:=by
 have G:=Nq F
 have u:Hid (d.length=n):=h.1
 have H:=Nq h
 clear h F
 go_enter Tryz.func84,Tryz.ntmps84
 go_wp2
 go_loopw [8] (λx wr=>∃k:Nat,k<=n/\x=IV k/\wr=w/\Hid (∀i,i<k->m (d.getD i 0)=false)) (λx _=>n-(intOf x).toNat)
 exact ⟨0,NS _,rfl,rfl,Nq λi J=>by omega⟩
 obtain ⟨k,N,rfl,v,D⟩:=hrel
 subst v
 by_cases j:k<n
 have E:(k:Int)<(n:Int):=by omega
 obtain ⟨-,M|⟨b,K,rfl,C⟩⟩:=H.o
 omega
 have I:=C k j
 have s:=Nq (G.o _ (pf (i:=k) (by rw [u.o];exact j)))
 have t:Hid (∀p,m (d.getD k 0)=p->m (d.getD k 0)=p):=λp h=>h
 clear C
 obtain ⟨A,l⟩:=EX (m (d.getD k 0))
 rw [l]at s
 have g:=Nq l
 clear l t
 obtain ⟨z,y⟩:=EX (d.getD k 0)
 rw [y]at I s g
 have o:=Nq y
 clear y
 cases A
 go_wp2_with (go_at_call 178;refine s.o.mono ?_;rintro e L ⟨rfl,rfl⟩)
 go_roundw
 case rel=>exact ⟨k+1,by omega,by go_num,(by first|trivial|rfl),Nq λi J=>by by_cases e:i=k;subst e;rw [o.o];exact g.o;exact D.o i (by omega)⟩
 case measure=>simp [intOf];omega
 go_wp2_with (go_at_call 178;refine s.o.mono ?_;rintro e L ⟨rfl,rfl⟩)
 go_ret
 exact ⟨_,rfl,rfl,by rw [mJ (i:=k) (by rw [u.o];exact j) (by rw [o.o];exact g.o)];exact N6 (by omega)⟩
 obtain rfl:k=n:=by omega
 go_wp2
 go_ret
 exact ⟨_,rfl,rfl,by rw [ld (by rw [u.o];exact D.o)];rfl⟩
def zh(a:OA)(n c:Nat)(f:List Int)(d b:Value)(g:Int->Bool)(w:WD)(h:aG .i64 w a n f)(o:n<=4611686018427387903)
 (j:∀z∈f,CL 178 #[IV z,d,b] w λe i=>e=RT (.bool (g z))/\i=w):
 CL 46 #[.slice a n c,.func (.func 178) #[] #[d,b]] w λe i=>e=RT (.bool (f.any g))/\i=w:=by
 have l:=Nq (xz a n c f d b g w h o j)
 clear h j
 go_enter Tryz.func46,Tryz.ntmps46
 go_wp2_with (go_at_call 84;refine l.o.mono ?_;rintro e p ⟨r,rfl,rfl,k⟩;have m:=Nq k;clear k)
 go_ret
 exact ⟨by rw [<-m.o];rfl,rfl⟩
def Hb(z t:Nat)(b d f n c:Nat)(r:Nat->Nat->Bool)(w:WD)(j:CA w b 0 (SV f n c))(k:CA w d 0 (IV t))(a:u5 w f n r)(g:t<n)(h:z<n)(m:n<=256):
 CL 178 #[IV z,PT b,PT d] w λe i=>e=RT (.bool (r t z))/\i=w:=by
 have l:=a t z g h
 have o:(t:Int)<(n:Int):=by omega
 have p:(z:Int)<256:=by omega
 clear a
 go_enter Tryz.func178,Tryz.ntmps178
 go_wp2
 go_ret
 exact ⟨rfl,rfl⟩
def Ic(l:List Nat)(p:Nat->Bool):(aH l).any (λz=>p z.toNat)=l.any p:=by unfold aH;rw [List.any_map];rfl
def Lh{x:Nat}{l:List Nat}{p:Nat->Bool}{k:Nat}(a:l[k]? =some x)(h:p x=false):l.all p=false:=by rw [List.all_eq_false];exact ⟨x,NI a,by rw [h];decide⟩
def qY(w:WD)(A:Au)(ia:OA)(il ic:Nat)(T:OA)(f nc:Nat)(Q c:Nat)(r:Nat->Nat->Bool)(a b:Nat)(S:bY w A ia il T f)(R:fS A)(hm:u5 w Q f r)(ha:a<A.ah.length)(hb:b<A.ah.length):
 CL 154 #[.agg #[IV A.sets,.slice ia il ic,.slice T f nc],SV Q f c,IV a,IV b] w λe g=>e=RT (.bool (cU A r a b))/\BW w g:=by
 obtain ⟨l,D⟩:=EX ((w.alloc (.cells #[IV A.sets,.slice ia il ic,.slice T f nc] 36)).alloc (.cells #[SV Q f c] 209))
 obtain ⟨q,hq⟩:=EX w.heap.size
 have I:BW w l:=D▸aa (ag _ _) (ag _ _)
 have J:l.heap[q]? =some (.cells #[IV A.sets,.slice ia il ic,.slice T f nc] 36 (0,0)):=by rw [<-D,<-hq,(ND _ _).2 _ (by rw [NG];omega)];exact (ND w _).1
 have K:l.heap[q+1]? =some (.cells #[SV Q f c] 209 (0,0)):=by rw [<-D,<-hq,<-NG w (.cells #[IV A.sets,.slice ia il ic,.slice T f nc] 36)];exact (ND _ _).1
 have ak:f<=256:=by rw [<-S.bC];exact R.many
 have V:Hid (∀g,BW l g->g.cell? (AD q 2)=some (.slice T f nc)/\g.cell? (AD (q+1) 0)=some (SV Q f c)):=λg h=>
  ⟨by rw [Nt ((h.block q (Nu.1 J).1).trans J)];rfl,by rw [Nt ((h.block (q+1) (Nu.1 K).1).trans K)];rfl⟩
 obtain ⟨Z,o0,x,ad,hx,ae,C,ta,E,tc,-,-,-,e3,m⟩:=S.nd ha
 obtain ⟨aj,am,y,o,hy,af,ar,ua,ul,uc,-,-,-,f3,j⟩:=S.nd hb
 rw [ad]at o
 obtain ⟨rfl,rfl⟩:Z=aj/\o0=am:=by have:=OJ o;cases this;exact ⟨rfl,rfl⟩
 subst ad
 have O:=NI hx
 have P:=NI hy
 have av:ul<=16777216:=by have h:=j.1;rw [aC]at h;rw [<-h];exact R.tl y P
 have au:E<=16777216:=by have h:=m.1;rw [aC]at h;rw [<-h];exact R.tl x O
 have H:Hid ((bV.tO x).length=E):=by have h:=m.1;rwa [aC]at h
 have W:Hid (cU A r a b=(bV.tO x).all λt=>(bV.tO y).any λu=>r t u):=by unfold cU;rw [ae,af];exact Nq rfl
 have ap:(a:Int)<(f:Int):=by omega
 have aq:(b:Int)<(f:Int):=by omega
 have HK:Hid (∀g,BW l g->g.cell? (AD Z (o0+a*4+3))=some (.slice ta E tc)/\g.cell? (AD Z (o0+b*4+3))=some (.slice ua ul uc)/\aG .i64 g ta E (aH (bV.tO x))/\aG .i64 g ua ul (aH (bV.tO y))/\u5 g Q f r):=λg h=>by have h2:BW w g:=aa I h;have k:∀{i:Nat}{v:Value},w.cell? (AD Z i)=some v->g.cell? (AD Z i)=some v:=λh=>(h2.cell (Nr w _ h)).trans h;exact ⟨k e3,k f3,m.af h2,j.af h2,hm.af h2⟩
 have HX:Hid (∀t∈bV.tO x,t<f):=λt p=>by rw [<-S.bC];exact R.lN x O t p
 have HY:Hid (∀t∈bV.tO y,t<f):=λt p=>by rw [<-S.bC];exact R.lN y P t p
 have U:=Nq I
 rw [W.o]
 have a2:=(V.o l (Nx _ _)).1
 have n3:=(HK.o l (Nx _ _)).1
 clear S R hm J K hx hy ae af m j O P e3 f3 o I W
 go_enter Tryz.func154,Tryz.ntmps154
 go_upto_region 1 with(fail)
 clear D hq
 go_wp2
 go_loopw [18] (λv wr=>∃k:Nat,k<=E/\v=IV k/\Hid (BW l wr)/\Hid (∀i t,i<k->(bV.tO x)[i]? =some t->(bV.tO y).any (λu=>r t u)=true)) (λv _=>E-(intOf v).toNat)
 exact ⟨0,NS _,rfl,Nq (Nx _ _),Nq (λi t hi=>by omega)⟩
 clear a2 n3
 obtain ⟨k,hk,rfl,L,F⟩:=hrel
 by_cases M:k<E
 have ao:(k:Int)<(E:Int):=by omega
 obtain ⟨t,p⟩:∃t,(bV.tO x)[k]? =some t:=⟨_,Ny (by rw [H.o];exact M)⟩
 have al:t<f:=HX.o t (NI p)
 obtain ⟨-,h0|⟨tb,an,rfl,hc⟩⟩:=(HK.o wr L.o).2.2.1
 omega
 have ck:wr.cell? (AD tb (an+k))=some (IV t):=by have:=hc k M;rw [cH (by rw [H.o];exact M),Nw,p]at this;exact this
 obtain ⟨n,ah⟩:=EX (wr.alloc (.cells #[IV t] 3))
 have ab:BW wr n:=ah▸ag _ _
 have C:=(bp wr #[IV t] 3 0 _ rfl).1
 rw [ah]at C
 have s:Hid (BW l n):=aa L.o ab
 obtain ⟨m2,m0⟩:=V.o n s.o
 obtain ⟨-,m3,-,G,ac⟩:=HK.o n s.o
 have B:Hid (CL 46 #[.slice ua ul uc,.func (.func 178) #[] #[PT (q+1),PT wr.heap.size]] n λe g=>e=RT (.bool ((bV.tO y).any λu=>r t u))/\g=n):=by refine (zh ua ul uc (aH (bV.tO y)) (PT (q+1)) (PT wr.heap.size) (λz=>r t z.toNat) n G (by omega) (λz hz=>?_)).mono ?_;obtain ⟨u,hu,rfl⟩:=lC hz;exact Hb u t (q+1) wr.heap.size Q f c r n m0 C ac al (HY.o u hu) ak;rintro e g ⟨rfl,rfl⟩;exact ⟨by rw [Ic (bV.tO y) (λu=>r t u)],rfl⟩
 have X:=Nq p
 clear hc p C G ac ab
 cases d:(bV.tO y).any (λu=>r t u)
 rw [d]at B
 have ai:Hid ((bV.tO x).all (λt=>(bV.tO y).any λu=>r t u)=false):=Lh X.o d
 clear d
 go_wp2_with (go_at_call 46;refine B.o.mono ?_;rintro e n ⟨rfl,rfl⟩)
 go_ret
 exact ⟨by rw [ai.o];rfl,aa U.o s.o⟩
 rw [d]at B
 have HN:Hid (∀i t,i<k+1->(bV.tO x)[i]? =some t->(bV.tO y).any (λu=>r t u)=true):=λi t' hi N=>by
  by_cases e:i=k;subst e;rw [X.o]at N;cases N;exact d
  exact F.o i t' (by omega) N
 clear d
 go_wp2_with (go_at_call 46;refine B.o.mono ?_;rintro e n ⟨rfl,rfl⟩)
 go_roundw
 exact ⟨k+1,by omega,by go_num,s,HN⟩
 simp [intOf];omega
 obtain rfl:k=E:=by omega
 have Y:Hid ((bV.tO x).all (λt=>(bV.tO y).any λu=>r t u)=true):=by show(bV.tO x).all (λt=>(bV.tO y).any λu=>r t u)=true;rw [Ps];intro t p;obtain ⟨i,hi⟩:=Pg p;exact F.o i t (by have:=(NK.1 hi).1;have:=H.o;omega) hi
 go_wp2
 go_ret
 exact ⟨by rw [Y.o];rfl,aa U.o L.o⟩
end
section
open Go.RowKit
def qL(r:Nat->Nat->Bool)(i k:Nat)(v:Bool)(a b:Nat):Bool:=if a=i/\b=k then v else r a b
def qM(r:Nat->Nat->Bool)(i k:Nat)(v:Bool):qL r i k v i k=v:=by unfold qL;rw [Oa ⟨rfl,rfl⟩]
def mi{r:Nat->Nat->Bool}{i k:Nat}{v:Bool}{a b:Nat}(h:¬(a=i/\b=k)):qL r i k v a b=r a b:=by unfold qL;rw [Of h]
def En{r:Nat->Nat->Bool}{i k a b:Nat}(h:qL r i k false a b=true):r a b=true/\¬(a=i/\b=k):=by by_cases e:a=i/\b=k;unfold qL at h;rw [Oa e]at h;cases h;rw [mi e]at h;exact ⟨h,e⟩
def gq(w:WD)(rb n:Nat)(r:Nat->Nat->Bool):Prop:=∃a:Array Value,w.heap[rb]? =some (.cells a 212 (0,0))/\∀i k,i<n->k<n->a[i*256+k]? =some (.bool (r i k))
section
variable {w w1:WD} {rb n:Nat} {r:Nat->Nat->Bool}
def gq.lt(h:gq w rb n r):rb<w.heap.size:=by obtain ⟨b,a,-⟩:=h;exact (Nu.1 a).1
def gq.KV(h:gq w rb n r):u5 w rb n r:=λi k c d=>by obtain ⟨e,a,b⟩:=h;rw [Nt a];exact b i k c d
def gq.frozen(h:gq w rb n r)(j:Nat):FZ w rb j:=by obtain ⟨b,a,-⟩:=h;exact NA a j
def gq.af(h:gq w rb n r)(d:BW w w1):gq w1 rb n r:=by have e:=h.lt;obtain ⟨a,b,c⟩:=h;exact ⟨a,(d.block rb e).trans b,c⟩
def gq.ext(h:gq w rb n r){r':Nat->Nat->Bool}(f:∀i k,i<n->k<n->r' i k=r i k):gq w rb n r':=by obtain ⟨c,d,e⟩:=h;exact ⟨c,d,λi k a b=>by rw [f i k a b];exact e i k a b⟩
def gq.set(h:gq w rb n r)(o:n<=256){i k:Nat}(l:i<n)(m:k<n)(v:Bool):gq (w.setCell (AD rb (i*256+k)) (.bool v)) rb n (qL r i k v):=by obtain ⟨g,j,c⟩:=h;refine ⟨g.setIfInBounds (i*256+k) (.bool v),by simp [HC,World.setCell,Ow,j],λa b d f=>?_⟩;by_cases e:a=i/\b=k;obtain ⟨rfl,rfl⟩:=e;rw [qM,Array.getElem?_setIfInBounds_self_of_lt (Nu.1 (c a b d f)).1];rw [mi e,S3 (by omega)];exact c a b d f
def gq.wP(h:gq w rb n r){B:Nat}{a:WD}(b:B<=rb)(c:Below B a w)(j:Nat)(v:Value):Below B a (w.setCell (AD rb j) v):=c.setCell (p:=(AD rb j)) b v
end
def lS(n:Nat)(r:Nat->Nat->Bool):Nat:=((List.range (n*256)).filter λj=>decide (j%256<n)&&r (j/256) (j%256)).length
def JK{n:Nat}{r:Nat->Nat->Bool}(f:n<=256){i k:Nat}(e:i<n)(d:k<n)(h:r i k=true):lS n (qL r i k false)<lS n r:=by
 refine jU (λj c=>by rw [OB]at c⊢;exact ⟨c.1,(En c.2).1⟩) _ ⟨i*256+k,Oq.2 (by omega),?_,?_⟩;have a:(i*256+k)/256=i:=by omega
 have b:(i*256+k)%256=k:=by omega
 rw [a,b,h,N6 d];rfl;have a:(i*256+k)/256=i:=by omega
 have b:(i*256+k)%256=k:=by omega
 rw [a,b,qM,QQ]
open Classical in
noncomputable def n9(n:Nat)(v:Value)(w:WD):Nat:=((List.range (n*256)).filter λj=>decide (j%256<n)&&decide (∃b,v=SV b n n/\w.cell? (AD b ((j/256)*256+j%256))=some (.bool true))).length
def vI{α:Type}{p q:α->Bool}:∀(l:List α),(∀x∈l,p x=q x)->(l.filter p).length=(l.filter q).length
 |[],_=>rfl
 |a::l,h=>by
  have d:=vI l (λx e=>h x (Ot _ e));have c:=h a (Ok ..);cases b:p a
  rw [O9 (by rw [b];decide),O9 (by rw [<-c,b];decide)];exact d;rw [Pa b,Pa (by rw [<-c];exact b),Ou,Ou,d]
open Classical in
def gq.n9{w:WD}{rb n:Nat}{r:Nat->Nat->Bool}(h:gq w rb n r)(i:n<=256):n9 n (SV rb n n) w=lS n r:=by
 refine vI _ λj g=>?_;rw [Oq]at g;by_cases a:j%256<n;rw [N6 a,OM,OM];have d:=h.KV (j/256) (j%256) (by omega) a;cases f:r (j/256) (j%256)
 refine NX ?_;rintro ⟨b,e,c⟩;have:rb=b:=by cases e;rfl
 subst this;rw [d,f]at c;cases c
 exact N6 ⟨rb,rfl,by rw [d,f]⟩;rw [NX a,Pe,Pe]
structure pX (A:Au) (r:Nat->Nat->Bool):Prop where
 tM:∀i k,i<A.ah.length->k<A.ah.length->r i k=true->iE (A.aw i) (A.aw k) A.sets=true
 all:∀a,MU A a->∀q p,a q p->r q p=true
def eh{A:Au}{i:Nat}(h:i<A.ah.length):A.aw i∈A.ah:=by unfold Au.aw;rw [Nw,Ny h];exact OR h
def fS.vY{A:Au}(h:fS A){x:bV}(a:x∈A.ah):x.ak<18446744073709551616/\x.aD<18446744073709551616/\x.aT<18446744073709551616:=
 ⟨(h.bits x a).1,(h.bits x a).2,NL (h.aT x a) (O1 (n:=2) (by decide) (by have:=h.sets;omega:A.sets<=64))⟩
def pX.aK{A:Au}(h:fS A):pX A (λi k=>iE (A.aw i) (A.aw k) A.sets):=by refine ⟨λ_ _ _ _ h=>h,λd b q p a=>?_⟩;obtain ⟨c,hw⟩:=b.tM q p a;exact (vg (by have:=h.sets;omega) (h.vY (eh c)) (h.vY (eh hw.lt))).2 ⟨hw.ak,hw.aD,hw.aT⟩
def pX.cut{A:Au}{r:Nat->Nat->Bool}(h:pX A r){i k:Nat}(m:cU A r i k=false):pX A (qL r i k false):=by
 refine ⟨λa b j l o=>h.tM a b j l (En o).1,λf d q p c=>?_⟩;by_cases e:q=i/\p=k;obtain ⟨rfl,rfl⟩:=e;exfalso;have:cU A r q p=true:=by unfold cU;rw [Ps];intro t s;obtain ⟨v,u,g⟩:=d.step q p c t s;rw [Qq];exact ⟨v,u,h.all f d t v g⟩
 rw [m]at this;cases this;rw [mi e];exact h.all f d q p c
def pX.Mn{A:Au}{r:Nat->Nat->Bool}(h:pX A r)(d:fS A)(u:∀i k,i<A.ah.length->k<A.ah.length->r i k=true->cU A r i k=true):kX A (λi k=>i<A.ah.length/\k<A.ah.length/\r i k=true):=by refine ⟨⟨λq p ⟨a,c,f⟩=>?_,λq p ⟨a,c,f⟩ t l=>?_⟩,λo j q p e=>?_⟩;have b:=(vg (by have:=d.sets;omega) (d.vY (eh a)) (d.vY (eh c))).1 (h.tM q p a c f);exact ⟨a,c,b.1,b.2.1,b.2.2⟩;have b:=u q p a c f;unfold cU at b;rw [Ps]at b;have g:=b t l;rw [Qq]at g;obtain ⟨v,m,s⟩:=g;exact ⟨v,m,d.lN _ (eh a) t l,d.lN _ (eh c) v m,s⟩;obtain ⟨a,hw⟩:=j.tM q p e;exact ⟨a,hw.lt,h.all o j q p e⟩
def Ap(i k a b:Nat):Prop:=a<i\/a=i/\b<k
def iy(A:Au)(c:Nat)(i k:Nat)(r:Nat->Nat->Bool):Prop:=
 pX A r/\(lS A.ah.length r<c\/lS A.ah.length r=c/\∀a b,Ap i k a b->a<A.ah.length->b<A.ah.length->r a b=true->cU A r a b=true)
def iy.next{A:Au}{f i k:Nat}{r:Nat->Nat->Bool}(h:iy A f i k r)(o:r i k=true->cU A r i k=true):iy A f i (k+1) r:=by refine ⟨h.1,h.2.imp id λ⟨e,l⟩=>⟨e,λa b c m d g=>?_⟩⟩;by_cases j:a=i/\b=k;obtain ⟨rfl,rfl⟩:=j;exact o g;exact l a b (by rcases c with c|c;exact .inl c;exact .inr ⟨c.1,by omega⟩) m d g
def iy.row{A:Au}{f i:Nat}{r:Nat->Nat->Bool}(h:iy A f i A.ah.length r):iy A f (i+1) 0 r:=
 ⟨h.1,h.2.imp id λ⟨e,g⟩=>⟨e,λa b d j c k=>g a b (by rcases d with d|d;(rcases O8 a i with h|h;exact .inl h;exact .inr ⟨by omega,c⟩);omega) j c k⟩⟩
def iy.cut{A:Au}{a i k:Nat}{r:Nat->Nat->Bool}(h:iy A a i k r)(f:A.ah.length<=256)(d:i<A.ah.length)(e:k<A.ah.length)(g:r i k=true)(c:cU A r i k=false)(j l:Nat):iy A a j l (qL r i k false):=by have m:=JK f d e g;exact ⟨h.1.cut c,.inl (by rcases h.2 with b|b<;>omega)⟩
def iy.jump{A:Au}{b i k:Nat}{r:Nat->Nat->Bool}(h:iy A b A.ah.length 0 r)(c:i<A.ah.length)(e:k<A.ah.length)(f:r i k=true)(d:cU A r i k=false):lS A.ah.length r<b:=by rcases h.2 with a|⟨-,a⟩;exact a;have:=a i k (.inl c) c e f;rw [d]at this;cases this
end
section
open Go.RowKit
def Tryz.JY:(Tryz.prog.info? 212).map (λi=>(i.zero,i.size,i.bytes))=some (some (.agg (Array.replicate 256 (.bool false))),256,256):=by kernel_rfl
def gE(w:WD)(v:Value)(n:Nat)(r:Nat->Nat->Bool):Prop:=
 ∃a c,v=.slice a n c/\(n=0\/∃b o,a=some (AD b o)/\∀i,i<n->∃d f e,w.cell? (AD b (o+i))=some (.slice d n e)/\f=n/\dW w d n (r i))
def gE.af{w g:WD}{v:Value}{n:Nat}{r:Nat->Nat->Bool}(h:gE w v n r)(f:BW w g):gE g v n r:=by obtain ⟨a,c,e,h⟩:=h;refine ⟨a,c,e,h.imp id ?_⟩;rintro ⟨b,o,j,m⟩;refine ⟨b,o,j,λi p=>?_⟩;obtain ⟨q,t,s,d,k,l⟩:=m i p;exact ⟨q,t,s,(f.cell (Nr w _ d)).trans d,k,l.af f⟩
def uV(w:WD)(A:Au)(e:Ending)(a:WD):Prop:=
 BW w a/\∃v r,e=RT v/\gE a v A.ah.length r/\kX A λi k=>i<A.ah.length/\k<A.ah.length/\r i k=true
def xh{P:Program}{a:Act}{w:WD}{Q:Exit->Act->WD->Prop}{c b:Code}(l:Nat)(F:(Nat->Value)->Value->Act)(R:Value->WD->Prop)(μ:Value->WD->Nat)(p:findLabel c l=some (Code.skip.seq b))(o:∀U v,(F U v).tmps.getD 4 undef=v)
 (n:∀f (a:Act) d v w,Q (.panic f) (a.put d v) w->Q (.panic f) a w)
 (g:∀U v w,R v w->∀e:Exit->Act->WD->Prop,(∀f (a:Act) d v w,e (.panic f) (a.put d v) w->e (.panic f) a w)->Hid ((∀j i k,R i k->μ i k<μ v w->e (.goto l) (F j i) k)/\∀a w,Q .ret a w->e .ret a w)->b.wp P e (F U v) w)
 (first:∀e:Exit->Act->WD->Prop,(∀f (a:Act) d v w,e (.panic f) (a.put d v) w->e (.panic f) a w)->Hid (∀U v w,R v w->b.wp P e (F U v) w)->c.wp P e a w):(Code.scope c).wp P Q a w:=by
 refine wp_scope_jumps l (λa w=>∃U v,a=F U v/\R v w) (λa w=>μ (a.tmps.getD 4 undef) w) p ?_ ?_
 exact first _ n λU v w h=>g U v w h _ n ⟨λj i k m _=>⟨rfl,j,i,rfl,m⟩,λ_ _ h=>h⟩
 rintro a w ⟨U,v,rfl,h⟩
 refine wp_seq (wp_skip (g U v w h _ n ⟨λj i k m q=>⟨rfl,⟨j,i,rfl,m⟩,?_⟩,λ_ _ h=>h⟩))
 rw [o,o];exact q
def yh{F:(Nat->Value)->Value->Act}{R:Value->WD->Prop}{G:Act->WD->Prop}(h:∀U v w,R v w->G (F U v) w)(a:Act)(w:WD)(e:F (λn=>a.tmps.getD n undef) (a.tmps.getD 4 undef)=a)(b:R (a.tmps.getD 4 undef) w):G a w:=by rw [<-e];exact h _ _ _ b
def Tryz.Lv:(Tryz.prog.info? 67).map (λi=>(i.zero,i.size,i.bytes))=some (some (SN),1,24):=by kernel_rfl
structure nR (d:Nat) (e w:WD) (v:Value) (i n:Nat) (r:Nat->Nat->Bool) (a:List Value):Prop where
 bC:a.length=i
 o:Sl w 67 v i a
 bL:∀b,v.ownBlock=some b->e.heap.size<=b/\b≠d
 bG:∀j,j<i->∃g c,a[j]? =some (SV g n c)/\dW w (some (AD g 0)) n (r j)/\v.ownBlock≠some g/\g<w.heap.size
def nR.dB{q:Nat}{u w w2 w3:WD}{v t:Value}{i n g c:Nat}{r:Nat->Nat->Bool}{l:List Value}(h:nR q u w v i n r l)(D:q<w.heap.size)(G:u.heap.size<=w.heap.size)(a:oW w w2 g n (r i))(hw:0<n)(C:Sl w3 67 t (i+1) (l++[SV g n c]))(f:aj (λk=>v.ownBlock=some k) w2 w3)(m:∀b,t.ownBlock=some b->v.ownBlock=some b\/w2.heap.size<=b):
 nR q u w3 t (i+1) n r (l++[SV g n c]):=by
 have p:=h.o.lt
 have H:=a.aM.size
 refine ⟨by rw [NH,h.bC];rfl,C,λb e=>(m b e).elim (h.bL b) (λh=>⟨by omega,by omega⟩),λj F=>?_⟩
 by_cases e:j=i
 subst e
 have d:¬v.ownBlock=some g:=λe=>by have:=p g e;have:=a.dJ;omega
 refine ⟨g,c,by rw [<-h.bC];exact OF,a.row.aA f (λb o e s=>d (by cases e;exact s)),λe=>?_,NL a.lt f.size⟩
 rcases m g e with e|e
 exact d e
 have:=a.lt;omega
 obtain ⟨x,z,A,B,y,E⟩:=h.bG j (by omega)
 refine ⟨x,z,by rw [NP (by rw [h.bC];omega)];exact A,(B.af a.aM).aA f (λb o e s=>y (by cases e;exact s)),λe=>?_,by have:=f.size;omega⟩
 rcases m x e with e|e
 exact y e
 omega
def nR.fin{q:Nat}{s w:WD}{v:Value}{n:Nat}{r:Nat->Nat->Bool}{j:List Value}(h:nR q s w v n n r j):gE w v n r:=by
 obtain ⟨a,c,rfl,d⟩:=h.o.shape;refine ⟨a,c,rfl,?_⟩;rcases OT n with e|e;exact .inl e;obtain ⟨g,rfl,-,-⟩:=d 0 e;refine .inr ⟨g,0,rfl,λi f=>?_⟩;obtain ⟨t,l,-,p⟩:=d i f;cases l
 obtain ⟨b,k,m,o,-,-⟩:=h.bG i f;exact ⟨some (AD b 0),n,k,by rw [Od,p,m],rfl,o⟩
def nR.aK(a:Nat)(c w:WD)(n:Nat)(r:Nat->Nat->Bool):nR a c w (SN) 0 n r []:=⟨rfl,Ox _ _ _ _,λb e=>(by cases e),λj d=>by omega⟩
def gM(A:Au)(i k a b:Nat):Bool:=(decide (a<i)||(decide (a=i)&&decide (b<k)))&&iE (A.aw a) (A.aw b) A.sets
def Bq(A:Au)(a b:Nat):gM A 0 0 a b=false:=by unfold gM;rw [NX (QL a),NX (QL b),QQ,SD,Pe]
def Bp(A:Au)(i k a b:Nat):gM A i (k+1) a b=qL (gM A i k) i k (iE (A.aw i) (A.aw k) A.sets) a b:=by
 by_cases e:a=i/\b=k;obtain ⟨rfl,rfl⟩:=e;rw [qM];unfold gM;rw [N6 (rfl:a=a),N6 (Q2 b),Rx,Bool.or_true,OM];rw [mi e];unfold gM;have:(decide (a=i)&&decide (b<k+1))=(decide (a=i)&&decide (b<k)):=by by_cases c:a=i;have f:b≠k:=λh=>e ⟨c,h⟩;have d:decide (b<k+1)=decide (b<k):=Qb.2 (by omega);rw [d];rw [NX c,Pe,Pe]
 rw [this]
def C4(A:Au){n:Nat}(i a b:Nat)(c:b<n):gM A (i+1) 0 a b=gM A i n a b:=by
 unfold gM;have:(decide (a<i+1)||(decide (a=i+1)&&decide (b<0)))=(decide (a<i)||(decide (a=i)&&decide (b<n))):=by rw [NX (QL b),QQ,SD,N6 c,Rx,<-Bool.decide_or];exact Qb.2 (by omega)
 rw [this]
def C0(A:Au){n a b:Nat}(c:a<n):gM A n 0 a b=iE (A.aw a) (A.aw b) A.sets:=by unfold gM;rw [N6 c,Sd,OM]
def Fy{w:WD}{g n:Nat}(z:n<=256)(h:w.ownsRow 0 212 256 (SV g n n) n (madeCells (Value.agg (Array.replicate 256 (.bool false))).cells (n*256)).toList):gq w g n (λ_ _=>false):=by
 have v:(Value.agg (Array.replicate 256 (.bool false))).cells=Array.replicate 256 (.bool false):=by kernel_rfl
 rw [v]at h;rcases h.2 with⟨c,-⟩|⟨j,f,a,c,-,t,u,r,s,b⟩;cases (On c).1
 have e:g=j:=by have:=OJ (On c).1;cases this;rfl
 subst e;refine ⟨a,t,λi k x y=>?_⟩;have d:i*256+k<n*256:=by omega
 have l:(a.toList.take (n*256))[i*256+k]? =a[i*256+k]? :=by rw [List.getElem?_take_of_lt d,Array.getElem?_toList]
 rw [<-l,b,Array.getElem?_toList];unfold madeCells;rw [Array.getElem?_map];have o:(Array.range (n*256))[i*256+k]? =some (i*256+k):=by simp [d]
 rw [o];have q:∀m:Nat,(Array.replicate 256 (Value.bool false))[m%(Array.replicate 256 (Value.bool false)).size]! =Value.bool false:=λm=>by have p:m%(Array.replicate 256 (Value.bool false)).size<(Array.replicate 256 (Value.bool false)).size:=QV _ (by simp);rw [getElem!_pos (Array.replicate 256 (Value.bool false)) _ p];exact Array.getElem_replicate ..
 exact Pp some (q _)
def vy(w:WD)(A:Au)(ia:OA)(il ic:Nat)(na:OA)(m nc:Nat)(hv:bY w A ia il na m)(hA:fS A):
 CL 116 #[.agg #[IV A.sets,.slice ia il ic,.slice na m nc]] w (uV w A):=by
 obtain ⟨q,hq⟩:=EX w.heap.size
 obtain ⟨B,ar⟩:=EX (w.alloc (.cells #[IV A.sets,.slice ia il ic,.slice na m nc] 36))
 have am:BW w B:=ar▸ag _ _
 have aH:B.heap[q]? =some (.cells #[IV A.sets,.slice ia il ic,.slice na m nc] 36 (0,0)):=by rw [<-ar,<-hq];exact (ND w _).1
 have aD:=Nq (ft B A ia il ic na m nc (hv.af am) hA)
 have ac:Hid (∀p,BW B p->p.cell? (AD q 0)=some (IV A.sets)/\p.cell? (AD q 1)=some (.slice ia il ic)/\p.cell? (AD q 2)=some (.slice na m nc)):=λp h=>by have X:=(h.block q (Nu.1 aH).1).trans aH;exact ⟨CH X,CH X,CH X⟩
 have HV:Hid (∀p,BW B p->bY p A ia il na m):=λp h=>hv.af (aa am h)
 have HA:=Nq hA
 have bb:=Nq am
 have Q:m<=256:=by rw [<-hv.bC];exact hA.many
 have F:Hid (A.ah.length=m):=hv.bC
 have bq:A.sets<=16:=hA.sets
 obtain ⟨c0,c1,c2⟩:=ac.o B (Nx _ _)
 clear hv hA am aH
 go_enter Tryz.func116,Tryz.ntmps116
 go_wp2
 refine xh 0 (λ(U:Nat->Value)(v4:Value)=>({tmps:=#[.agg #[IV A.sets,.slice ia il ic,.slice na m nc],PT q,SN,IV m,v4,U 5,U 6,U 7,U 8,U 9,U 10,U 11,U 12,U 13,U 14,U 15,U 16,U 17,U 18,U 19,U 20,U 21,U 22,U 23,U 24,U 25,U 26,U 27,U 28,U 29,U 30,U 31,U 32,U 33,U 34,U 35,U 36,U 37,U 38,U 39,U 40,U 41,U 42,U 43,U 44,U 45,U 46,U 47,U 48,U 49,U 50,U 51,U 52,U 53,U 54,U 55,U 56,U 57,U 58,U 59,U 60,U 61,U 62,U 63,U 64,U 65,U 66,U 67,U 68,U 69,U 70,U 71,U 72,U 73,U 74,U 75,U 76,U 77,U 78,U 79,U 80,U 81,U 82,U 83,U 84,U 85,U 86,U 87,U 88,U 89,U 90,U 91,U 92,U 93,U 94,U 95,U 96,U 97,U 98,U 99,U 100,U 101,U 102,U 103,U 104,U 105,U 106,U 107,U 108,U 109,U 110,U 111,U 112,U 113,U 114,U 115,U 116],defers:=[]}:Act)) (λv4 wj=>∃(z:Nat)(r:Nat->Nat->Bool),v4=SV z m m/\Hid (BW B wj)/\Hid (B.heap.size<=z)/\Hid (gq wj z m r)/\Hid (pX A r)) (λv wj=>n9 m v wj) (by rfl) (λ_ _=>rfl) (λ_ _ d _ _ h=>by cases d<;>exact h) (λU v4 wj hJ Q1 N HQ=>?pass) (λQ1 N HQ=>?first)
 case pass=>
  obtain ⟨z,r0,rfl,aO,ae,aE,aR⟩:=hJ;have aP:Hid (n9 m (SV z m m) wj=lS m r0):=aE.o.n9 Q;have aU:Hid (iy A (lS m r0) 0 0 r0):=⟨aR.o,.inr ⟨by rw [F.o],λa b h=>by rcases h with h|h<;>omega⟩⟩;rw [aP.o]at HQ;dsimp only;clear c0 c1 c2 aD ar hq;go_wp2;go_loopg [50] m (λg v wr=>∃(i:Nat)(r:Nat->Nat->Bool),i+g=m/\v=IV i/\Hid (BW B wr)/\Hid (gq wr z m r)/\Hid (iy A (lS m r0) i 0 r));exact ⟨0,r0,Od _,rfl,aO,aE,aU⟩;clear aO aE aR aU;obtain ⟨i,r,aJ,rfl,n,o,L⟩:=hrel;cases gk with
  |zero=>
   obtain rfl:m=i:=by omega
   have ab:¬((m:Int)<(m:Int)):=by omega
   have be:Hid (n9 m (SV z m m) wr=lS m r):=o.o.n9 Q;have aQ:Hid (pX A r):=L.o.1;have aV:Hid (∀U v p,((∃(z:Nat)(r:Nat->Nat->Bool),v=SV z m m/\Hid (BW B p)/\Hid (B.heap.size<=z)/\Hid (gq p z m r)/\Hid (pX A r))/\n9 m v p<lS m r0)->(λa w=>Q1 (.goto 0) a w) ((λ(U:Nat->Value)(v4:Value)=>({tmps:=#[.agg #[IV A.sets,.slice ia il ic,.slice na m nc],PT q,SN,IV m,v4,U 5,U 6,U 7,U 8,U 9,U 10,U 11,U 12,U 13,U 14,U 15,U 16,U 17,U 18,U 19,U 20,U 21,U 22,U 23,U 24,U 25,U 26,U 27,U 28,U 29,U 30,U 31,U 32,U 33,U 34,U 35,U 36,U 37,U 38,U 39,U 40,U 41,U 42,U 43,U 44,U 45,U 46,U 47,U 48,U 49,U 50,U 51,U 52,U 53,U 54,U 55,U 56,U 57,U 58,U 59,U 60,U 61,U 62,U 63,U 64,U 65,U 66,U 67,U 68,U 69,U 70,U 71,U 72,U 73,U 74,U 75,U 76,U 77,U 78,U 79,U 80,U 81,U 82,U 83,U 84,U 85,U 86,U 87,U 88,U 89,U 90,U 91,U 92,U 93,U 94,U 95,U 96,U 97,U 98,U 99,U 100,U 101,U 102,U 103,U 104,U 105,U 106,U 107,U 108,U 109,U 110,U 111,U 112,U 113,U 114,U 115,U 116],defers:=[]}:Act)) U v) p):=λU v p h=>HQ.o.1 U v p h.1 h.2;have bl:Hid (∀a p,bodyPost Tryz.prog Tryz.f116 (uV w A) .ret a p->Q1 .ret a p):=HQ.o.2;clear HQ;go_wp2;go_loopg [79] m (λg v wr=>∃i:Nat,i+g=m/\v=IV i/\Hid (BW B wr)/\Hid (gq wr z m r)/\Hid (∀a b,Ap i 0 a b->a<m->b<m->r a b=true->cU A r a b=true));exact ⟨0,Od _,rfl,n,o,Nq (λa b h=>by rcases h with h|h<;>omega)⟩;clear n o;obtain ⟨i,aJ,rfl,n,o,T⟩:=hrel;cases gk with
   |zero=>
    obtain rfl:m=i:=by omega
    have HG:Hid (kX A λi k=>i<A.ah.length/\k<A.ah.length/\r i k=true):=aQ.o.Mn HA.o (by rw [F.o];exact λa b ha Y hr=>T.o a b (.inl ha) ha Y hr);obtain ⟨br,hi,hz,aq,an⟩:=Ol Tryz.Lv;clear aV T be aP;go_wp2;go_loopg [11,103] m (λg bt v wr=>∃(i:Nat)(a:OA)(l c:Nat)(Rs:List Value),i+g=m/\v=IV i/\bt=.slice a l c/\Hid (BW B wr)/\Hid (gq wr z m r)/\Hid (nR z B wr (.slice a l c) i m r Rs));exact ⟨0,none,0,0,[],Od _,rfl,rfl,n,o,nR.aK z B _ m r⟩;clear n o;obtain ⟨i,a,l,c,Rs,aJ,rfl,rfl,n,o,ap⟩:=hrel;cases gk with
    |zero=>
     obtain rfl:m=i:=by omega
     have ab:¬((m:Int)<(m:Int)):=by omega
     have bf:Hid (uV w A (RT (.slice a l c)) wr):=⟨aa bb.o n.o,_,r,rfl,by rw [F.o];exact ap.o.fin,HG.o⟩;clear ap;go_wp2;refine bl.o _ _ ?_;go_ret;exact bf.o
    |succ g=>
     have ab:(i:Int)<(m:Int):=by omega
     have a2:0<m:=by omega
     have P:dW wr (some (AD z (i*256))) m (r i):=⟨z,i*256,rfl,λk hk=>o.o.KV i k (by omega) hk⟩;have bd:Hid (∀c,CL 155 #[.slice (some (AD z (i*256))) m c] wr λe p=>∃g c',e=RT (SV g m c')/\m<=c'/\c'<=maxLen/\oW wr p g m (r i)):=λc=>ou _ m c (r i) wr P a2 (by omega);have bp:(m:Int)<=256:=by omega
     have ba:¬((256:Int)<(m:Int)):=by omega
     have af:=Nq ap.o;clear P ap;have a6:B.heap.size<=wr.heap.size:=n.o.size;have bk:Hid (∀J,BW wr J->Sl J 67 (.slice a l c) i Rs):=λJ Y=>af.o.o.aA (aj.aF Y) (λb e s=>by have:=af.o.o.lt b e;omega);have aS:Hid (∀(g1 c1:Nat)(J:WD),oW wr J g1 m (r i)->∀(I c2:Nat)(w5:WD),Sl w5 67 (SV I (i+1) c2) (i+1) (Rs++[SV g1 m c1])->aj (λk=>(Value.slice a l c).ownBlock=some k) J w5->((Value.slice a l c).ownBlock=some I\/J.heap.size<=I)->
      nR z B w5 (SV I (i+1) c2) (i+1) m r (Rs++[SV g1 m c1])/\BW B w5/\gq w5 z m r):=λg1 c1 J hn I c2 w5 h1 X h3=>by
      refine ⟨af.o.dB o.o.lt a6 hn a2 h1 X (λb e=>by rw [<-OJ e];exact h3),(aa n.o hn.aM).trans (X.af (N5 a6 hn.aM.size) (λk hk e=>by have:=(af.o.bL k e).1;omega)),?_⟩
      obtain ⟨cs,m1,m2⟩:=o.o.af hn.aM
      exact ⟨cs,(X.block z (Nu.1 m1).1 (λe=>(af.o.bL z e).2 rfl)).trans m1,m2⟩
     go_wp2_with (first
      |(go_at_call 155;refine (bd.o _).mono ?_;rintro e J ⟨g1,c1,rfl,-,-,aK⟩;have bi:=Nq aK;have HO:=Nq (bk.o J aK.aM);clear aK)
      |(at_builtin;refine ax rfl (.tmp 106) (.tmp 113) 76 rfl 67 br (SN) 24 Tryz.underlying76 hi hz aq an rfl (by decide) _ _ _ rfl HO.o _ rfl rfl (by omega) ?_;intro I c2 w5 hs a0 a1;have HE:=Nq (aS.o g1 c1 J bi.o I c2 w5 hs a0 a1);clear hs a0 a1))
     go_roundg g;case measure=>omega
     case rel=>exact ⟨i+1,_,_,_,_,by omega,by go_num,rfl,HE.o.2.1,HE.o.2.2,HE.o.1⟩
   |succ g=>
    have ab:(i:Int)<(m:Int):=by omega
    go_upto_region 27 with(fail);go_wp2;go_loopg [83] m (λI v wr=>∃k:Nat,k+I=m/\v=IV k/\Hid (BW B wr)/\Hid (gq wr z m r)/\Hid (∀a b,Ap i k a b->a<m->b<m->r a b=true->cU A r a b=true));exact ⟨0,Od _,rfl,n,o,T⟩;clear n o T;obtain ⟨k,aZ,rfl,n,o,T⟩:=hrel;cases gk with
    |zero=>
     obtain rfl:m=k:=by omega
     have ai:¬((m:Int)<(m:Int)):=by omega
     have ah:Hid (∀a b,Ap (i+1) 0 a b->a<m->b<m->r a b=true->cU A r a b=true):=λa b h ha Y hr=>T.o a b (by
      rcases h with h|h
      ·rcases O8 a i with X|X
       ·exact .inl X
       ·exact .inr ⟨by omega,Y⟩
      ·omega) ha Y hr
     go_wp2;go_roundg g;case measure=>omega
     case rel=>exact ⟨i+1,by omega,by go_num,n,o,ah⟩
    |succ I=>
     have ai:(k:Int)<(m:Int):=by omega
     have aw:(k:Int)<256:=by omega
     have D:i<A.ah.length:=by rw [F.o];omega
     have E:k<A.ah.length:=by rw [F.o];omega
     obtain ⟨e0,e1,e2⟩:=ac.o wr n.o;have Z:=o.o.KV i k (by omega) (by omega);have HF:Hid (CL 154 #[.agg #[IV A.sets,.slice ia il ic,.slice na m nc],SV z m m,IV i,IV k] wr λe p=>e=RT (.bool (cU A r i k))/\BW wr p):=qY wr A ia il ic na m nc z m r i k (HV.o wr n.o) HA.o o.o.KV D E;have al:Hid ((r i k=true->cU A r i k=true)->∀a b,Ap i (k+1) a b->a<m->b<m->r a b=true->cU A r a b=true):=λhf a b h ha Y hr=>by
      by_cases e:a=i/\b=k
      ·obtain ⟨rfl,rfl⟩:=e;exact hf hr
      ·exact T.o a b (by rcases h with h|h;exact .inl h;exact .inr ⟨h.1,by omega⟩) ha Y hr
     cases u:r i k
     ·rw [u]at Z;have HN:=Nq (al.o (λh=>by rw [u]at h;cases h))
      clear u D E;go_wp2;go_roundg I;case measure=>omega
      case rel=>exact ⟨k+1,by omega,by go_num,n,o,HN⟩
     ·rw [u]at Z;cases H:cU A r i k
      ·rw [H]at HF;have bg:Hid (lS m r<lS m r0):=by have h:=L.o;rw [<-F.o]at h⊢;exact h.jump D E u H
       clear u H D E;go_wp2_with (go_at_call 154;refine HF.o.mono ?_;rintro e J ⟨rfl,C⟩;have M:=Nq C;clear C);(try go_step3);refine yh (R:=λv p=>(∃(z:Nat)(r:Nat->Nat->Bool),v=SV z m m/\Hid (BW B p)/\Hid (B.heap.size<=z)/\Hid (gq p z m r)/\Hid (pX A r))/\n9 m v p<lS m r0) (G:=λa w=>Q1 (.goto 0) a w) aV.o _ _ ?_ ?_
       ·rfl
       ·have O:=o.o.af M.o;exact ⟨⟨z,r,rfl,aa n.o M.o,ae,O,aQ⟩,by have:=O.n9 Q;exact this▸bg.o⟩
      ·rw [H]at HF;have HN:=Nq (al.o (λ_=>H))
       clear u H D E;go_wp2_with (go_at_call 154;refine HF.o.mono ?_;rintro e J ⟨rfl,C⟩;have M:=Nq C;clear C);go_roundg I;case measure=>omega
       case rel=>exact ⟨k+1,by omega,by go_num,aa n.o M.o,o.o.af M.o,HN⟩
  |succ g=>
   have ab:(i:Int)<(m:Int):=by omega
   go_upto_region 17 with(fail);go_wp2;go_loopg [54] m (λI v wr=>∃k:Nat,k+I=m/\v=IV k/\Hid (BW B wr)/\Hid (gq wr z m r)/\Hid (iy A (lS m r0) i k r));exact ⟨0,Od _,rfl,n,o,L⟩;clear n o L;obtain ⟨k,aZ,rfl,n,o,L⟩:=hrel;cases gk with
   |zero=>
    obtain rfl:m=k:=by omega
    have ai:¬((m:Int)<(m:Int)):=by omega
    have P:iy A (lS m r0) (i+1) 0 r:=by have h:=L.o;rw [<-F.o]at h;have X:=h.row;rw [F.o]at X;exact X
    have ah:=Nq P;clear P;go_wp2;go_roundg g;case measure=>omega
    case rel=>exact ⟨i+1,r,by omega,by go_num,n,o,ah⟩
   |succ I=>
    have ai:(k:Int)<(m:Int):=by omega
    have aw:(k:Int)<256:=by omega
    have D:i<A.ah.length:=by rw [F.o];omega
    have E:k<A.ah.length:=by rw [F.o];omega
    obtain ⟨e0,e1,e2⟩:=ac.o wr n.o;have Z:=o.o.KV i k (by omega) (by omega);have bo:=o.o.frozen (i*256+k);have HF:Hid (CL 154 #[.agg #[IV A.sets,.slice ia il ic,.slice na m nc],SV z m m,IV i,IV k] wr λe p=>e=RT (.bool (cU A r i k))/\BW wr p):=qY wr A ia il ic na m nc z m r i k (HV.o wr n.o) HA.o o.o.KV D E;cases u:r i k
    ·rw [u]at Z;have HN:Hid (iy A (lS m r0) i (k+1) r):=L.o.next (λh=>by rw [u]at h;cases h)
     clear u D E;go_wp2;go_roundg I;case measure=>omega
     case rel=>exact ⟨k+1,by omega,by go_num,n,o,HN⟩
    ·rw [u]at Z;cases H:cU A r i k
     ·rw [H]at HF;have HN:Hid (iy A (lS m r0) (i+1) 0 (qL r i k false)):=L.o.cut (by rw [F.o];exact Q) D E u H (i+1) 0
      have bm:Hid (∀p,BW wr p->p.cell? (AD z (i*256+k))=some (.bool true)/\p.frozen? (AD z (i*256+k))=false/\BW B (p.setCell (AD z (i*256+k)) (.bool false))/\gq (p.setCell (AD z (i*256+k)) (.bool false)) z m (qL r i k false)):=λp Y=>
       have hm:=o.o.af Y
       ⟨by rw [hm.KV i k (by omega) (by omega),u],hm.frozen _,hm.wP ae.o (aa n.o Y) _ _,hm.set Q (by omega) (by omega) false⟩
      clear u H D E;go_wp2_with (go_at_call 154;refine HF.o.mono ?_;rintro e J ⟨rfl,C⟩;obtain ⟨bu,bv,au,az⟩:=bm.o J C;have aC:=Nq au;have bh:=Nq az;clear C au az);go_roundg g;case measure=>omega
      case rel=>exact ⟨i+1,_,by omega,by go_num,aC,bh,HN⟩
     ·rw [H]at HF;have HN:Hid (iy A (lS m r0) i (k+1) r):=L.o.next (λ_=>H)
      clear u H D E;go_wp2_with (go_at_call 154;refine HF.o.mono ?_;rintro e J ⟨rfl,C⟩;have M:=Nq C;clear C);go_roundg I;case measure=>omega
      case rel=>exact ⟨k+1,by omega,by go_num,aa n.o M.o,o.o.af M.o,HN⟩
 case first=>
  go_upto_region 3 with(go_at_call 23;refine aD.o.mono ?_;rintro e w2 ⟨rfl,aW⟩;have aB:=Nq aW;clear aW);clear ar hq c0 c1 c2 aD;obtain ⟨d0,d1,d2⟩:=ac.o w2 aB.o;obtain ⟨a9,hi,hz,aq,an⟩:=Ol Tryz.JY;go_upto_region 5 with(at_make;refine wpList_make_full _ rfl _ _ 209 rfl 0 212 a9 (.agg (Array.replicate 256 (.bool false))) 256 Tryz.underlying209 hi hz aq .i64 .i64 m m m rfl rfl rfl rfl (by rw [an];omega) (by unfold maxLen;omega) (NS _) ?_;intro w3 aA aX;have ad:=Nq aA;have W:=Nq aX;clear aA aX);obtain ⟨z,ao⟩:=EX w2.heap.size;rw [ao]at ad;rw [ao];have aM:Hid (BW B w3):=aa aB.o ⟨W.o.os,W.o.tape,W.o.output,W.o.size,λk hk=>W.o.block k hk (λe=>by cases e)⟩;have ae:Hid (B.heap.size<=z):=by rw [<-ao];exact aB.o.size
  have aT:Hid (gq w3 z m (gM A 0 0)):=(Fy Q ad.o).ext (λa b _ _=>Bq A a b);clear ad W hi hz aq an d0 d1 d2 ao;go_wp2;go_loopg [22] m (λg v wr=>∃i:Nat,i+g=m/\v=IV i/\Hid (BW B wr)/\Hid (gq wr z m (gM A i 0)));exact ⟨0,Od _,rfl,aM,aT⟩;clear aT aM;obtain ⟨i,aJ,rfl,n,o⟩:=hrel;cases gk with
  |zero=>
   obtain rfl:m=i:=by omega
   have ab:¬((m:Int)<(m:Int)):=by omega
   go_wp2;go_step3;apply_assumption;refine yh HQ.o _ _ ?_ ?_
   ·rfl
   exact ⟨z,_,rfl,n,ae,Nq (o.o.ext (r':=λa b=>iE (A.aw a) (A.aw b) A.sets) (λa b ha _=>(C0 A ha).symm)),pX.aK HA.o⟩
  |succ g=>
   have ab:(i:Int)<(m:Int):=by omega
   go_upto_region 8 with(fail);go_wp2;go_loopg [26] m (λI v wr=>∃k:Nat,k+I=m/\v=IV k/\Hid (BW B wr)/\Hid (gq wr z m (gM A i k)));exact ⟨0,Od _,rfl,n,o⟩;clear n o;obtain ⟨k,aZ,rfl,n,o⟩:=hrel;cases gk with
   |zero=>
    obtain rfl:k=m:=by omega
    have ai:¬((k:Int)<(k:Int)):=by omega
    go_wp2;go_roundg g;case measure=>omega
    case rel=>exact ⟨i+1,by omega,by go_num,n,Nq (o.o.ext (λa b _ Y=>C4 A i a b Y))⟩
   |succ I=>
    have ai:(k:Int)<(m:Int):=by omega
    have D:i<A.ah.length:=by rw [F.o];omega
    have E:k<A.ah.length:=by rw [F.o];omega
    obtain ⟨b0,o0,x,a3,hx,a4,-,ta,tl,tc,x0,x1,x2,x3,-⟩:=(HV.o wr n.o).nd D;obtain ⟨bn,bs,y,ak,hy,a5,-,ua,ul,uc,y0,y1,y2,y3,-⟩:=(HV.o wr n.o).nd E;rw [a3]at ak;obtain ⟨rfl,rfl⟩:b0=bn/\o0=bs:=by have:=OJ ak;cases this;exact ⟨rfl,rfl⟩
    subst a3;obtain ⟨e0,-,e2⟩:=ac.o wr n.o;have a7:=HA.o.vY (NI hx);have a8:=HA.o.vY (NI hy);have HC:Hid (CL 153 #[.agg #[UV x.ak,UV x.aD,UV x.aT,.slice ta tl tc],.agg #[UV y.ak,UV y.aD,UV y.aT,.slice ua ul uc],IV A.sets] wr.drew λe p=>e=RT (.bool (iE x y A.sets))/\Below wr.drew.heap.size wr.drew p):=EG wr.drew x y A.sets ta tl tc ua ul uc bq a7 a8;have al:=Nq a4;have bj:=Nq a5;have aw:(k:Int)<256:=by omega
    have hS:=And.intro e0 (And.intro e2 (And.intro x0 (And.intro x1 (And.intro x2 (And.intro x3 (And.intro y0 (And.intro y1 (And.intro y2 y3))))))));clear ak hx hy a4 a5 a7 a8 D E;go_upto_region 11 with(fail);refine av 18 (S:=λp=>p.cell? (AD q 0)=some (IV A.sets)/\p.cell? (AD q 2)=some (.slice (some (AD b0 o0)) m nc)/\p.cell? (AD b0 (o0+i*4))=some (UV x.ak)/\p.cell? (AD b0 (o0+i*4+1))=some (UV x.aD)/\p.cell? (AD b0 (o0+i*4+2))=some (UV x.aT)/\p.cell? (AD b0 (o0+i*4+3))=some (.slice ta tl tc)/\p.cell? (AD b0 (o0+k*4))=some (UV y.ak)/\p.cell? (AD b0 (o0+k*4+1))=some (UV y.aD)/\p.cell? (AD b0 (o0+k*4+2))=some (UV y.aT)/\p.cell? (AD b0 (o0+k*4+3))=some (.slice ua ul uc)) (by kernel_rfl) (hS) (λaF=>?_);refine' cD (i:=0) [0] (v:=_) rfl (by kernel_rfl) (λ_ _ _ h=>N _ _ _ _ _ h) (Or.inl ⟨by rfl,?hy0⟩) (by assumption) ?rest0;case hy0=>(intro p t;(try dsimp only at t);go_simp;(try with_reducible rfl))
    try walk_nrm
    refine' cD (i:=1) [1] (v:=_) rfl (by kernel_rfl) (λ_ _ _ h=>N _ _ _ _ _ h) (Or.inl ⟨by rfl,?hy1⟩) (by assumption) ?rest1;case hy1=>(intro p t;(try dsimp only at t);go_simp;(try with_reducible rfl))
    try walk_nrm
    refine' cD (i:=2) [2] (v:=_) rfl (by kernel_rfl) (λ_ _ _ h=>N _ _ _ _ _ h) (Or.inl ⟨by rfl,?hy2⟩) (by assumption) ?rest2;case hy2=>(intro p t;(try dsimp only at t);go_simp;(try with_reducible rfl))
    try walk_nrm
    refine' cD (i:=3) [3] (v:=_) rfl (by kernel_rfl) (λ_ _ _ h=>N _ _ _ _ _ h) (Or.inl ⟨by rfl,?hy3⟩) (by assumption) ?rest3;case hy3=>(intro p t;(try dsimp only at t);go_simp;(try with_reducible rfl))
    try walk_nrm
    refine' cD (i:=4) [4] (v:=_) rfl (by kernel_rfl) (λ_ _ _ h=>N _ _ _ _ _ h) (Or.inl ⟨by rfl,?hy4⟩) (by assumption) ?rest4;case hy4=>(intro p t;(try dsimp only at t);go_simp;(try with_reducible rfl))
    try walk_nrm
    refine' cD (i:=5) [5] (v:=_) rfl (by kernel_rfl) (λ_ _ _ h=>N _ _ _ _ _ h) (Or.inl ⟨by rfl,?hy5⟩) (by assumption) ?rest5;case hy5=>(intro p t;(try dsimp only at t);go_simp;(try with_reducible rfl))
    try walk_nrm
    refine' cD (i:=6) [6] (v:=_) rfl (by kernel_rfl) (λ_ _ _ h=>N _ _ _ _ _ h) (Or.inl ⟨by rfl,?hy6⟩) (by assumption) ?rest6;case hy6=>(intro p t;(try dsimp only at t);go_simp;(try with_reducible rfl))
    try walk_nrm
    refine' cD (i:=7) [7] (v:=_) rfl (by kernel_rfl) (λ_ _ _ h=>N _ _ _ _ _ h) (Or.inl ⟨by rfl,?hy7⟩) (by assumption) ?rest7;case hy7=>(intro p t;(try dsimp only at t);go_simp;(try with_reducible rfl))
    try walk_nrm
    refine' cD (i:=8) [8] (v:=_) rfl (by kernel_rfl) (λ_ _ _ h=>N _ _ _ _ _ h) (Or.inl ⟨by rfl,?hy8⟩) (by assumption) ?rest8;case hy8=>(intro p t;(try dsimp only at t);go_simp;(try with_reducible rfl))
    try walk_nrm
    refine' cD (i:=9) [9] (v:=_) rfl (by kernel_rfl) (λ_ _ _ h=>N _ _ _ _ _ h) (Or.inl ⟨by rfl,?hy9⟩) (by assumption) ?rest9;case hy9=>(intro p t;(try dsimp only at t);go_simp;(try with_reducible rfl))
    try walk_nrm
    refine' cD (i:=10) [10] (v:=_) rfl (by kernel_rfl) (λ_ _ _ h=>N _ _ _ _ _ h) (Or.inl ⟨by rfl,?hy10⟩) (by assumption) ?rest10;case hy10=>(intro p t;(try dsimp only at t);go_simp;(try with_reducible rfl))
    try walk_nrm
    refine' cD (i:=11) [11] (v:=_) rfl (by kernel_rfl) (λ_ _ _ h=>N _ _ _ _ _ h) (Or.inl ⟨by rfl,?hy11⟩) (by assumption) ?rest11;case hy11=>(intro p t;(try dsimp only at t);go_simp;(try with_reducible rfl))
    try walk_nrm
    refine' cD (i:=12) [12] (v:=_) rfl (by kernel_rfl) (λ_ _ _ h=>N _ _ _ _ _ h) (Or.inl ⟨by rfl,?hy12⟩) (by assumption) ?rest12;case hy12=>(intro p t;(try dsimp only at t);go_simp;(try with_reducible rfl))
    try walk_nrm
    refine' cD (i:=13) [13] (v:=_) rfl (by kernel_rfl) (λ_ _ _ h=>N _ _ _ _ _ h) (Or.inl ⟨by rfl,?hy13⟩) (by assumption) ?rest13;case hy13=>(intro p t;(try dsimp only at t);go_simp;(try with_reducible rfl))
    try walk_nrm
    refine' cD (i:=14) [14] (v:=_) rfl (by kernel_rfl) (λ_ _ _ h=>N _ _ _ _ _ h) (Or.inl ⟨by rfl,?hy14⟩) (by assumption) ?rest14;case hy14=>(intro p t;(try dsimp only at t);go_simp;(try with_reducible rfl))
    try walk_nrm
    refine' bc (i:=16) (v:=_) rfl (by kernel_rfl) (λ_ _ _ h=>N _ _ _ _ _ h) (Or.inl ⟨by rfl,?hy16⟩) (by assumption) ?rest16;case hy16=>(intro p t;go_simp;(try with_reducible rfl))
    try walk_nrm
    clear aF e0 e2 x0 x1 x2 x3 y0 y1 y2 y3;refine aI 15 λK hK=>?_;rw [Oa (by rfl)];apply aY.o;refine aN (f:=153) HC.o ?_ (λe J aL=>?_)
    ·clear hK;go_simp
    obtain ⟨rfl,C⟩:=aL;refine ⟨_,rfl,?_⟩;have V:BW wr J:=(Nx _ wr).drew.trans C;have kc:∀{g j:Nat}{v:Value},wr.cell? (AD g j)=some v->J.cell? (AD g j)=some v:=λh=>(V.cell (Nr wr _ h)).trans h;have aG:=And.intro (kc hS.1) (And.intro (kc hS.2.1) (And.intro (kc hS.2.2.1) (And.intro (kc hS.2.2.2.1) (And.intro (kc hS.2.2.2.2.1) (And.intro (kc hS.2.2.2.2.2.1) (And.intro (kc hS.2.2.2.2.2.2.1) (And.intro (kc hS.2.2.2.2.2.2.2.1) (And.intro (kc hS.2.2.2.2.2.2.2.2.1) (kc hS.2.2.2.2.2.2.2.2.2)))))))));refine hK.o _ _ (λ_=>aG) ?_;clear hK K;try walk_nrm
    have O:=o.o.af V;have Z:=O.KV i k (by omega) (by omega);have bo:=O.frozen (i*256+k);have HN:Hid (gq (J.setCell (AD z (i*256+k)) (.bool (iE x y A.sets))) z m (gM A i (k+1))):=(O.set Q (i:=i) (k:=k) (by omega) (by omega) _).ext (λa b _ _=>by rw [Bp,al.o,bj.o]);have aC:Hid (BW B (J.setCell (AD z (i*256+k)) (.bool (iE x y A.sets)))):=O.wP ae.o (aa n.o V) _ _;clear hS O C V kc;refine aI 17 λK hK=>?_;go_simp;refine hK.o _ _ (λ_=>aG) ?_;clear hK K;try walk_nrm
    clear aG;refine aI 18 λK hK=>?_;go_simp;refine hK.o _ _ (λe=>nomatch e) ?_;clear hK K;try walk_nrm
    refine ay (by kernel_rfl) ?_;go_wp2;go_roundg I;case measure=>omega
    case rel=>exact ⟨k+1,by omega,by go_num,aC,HN⟩
end
section
open Go.RowKit Go.Maps
def xp(P:Program)(k:TypeId)(w:WD)(b r n:Nat)(f:Value->Option Value)(left:Lit->Bool)(cnt:Nat):Prop:=
 ∃D:DataW Value,w.ranges P k pI b r n D left cnt/\∀a c,keyOf P k a=some c->Maps.has D c=(f a).isSome/\∀v,f a=some v->∀z,D.atKey c z=.held v
section
variable {P:Program} {k:TypeId} {w w':WD} {b r n cnt:Nat} {f:Value->Option Value} {left:Lit->Bool}
def xp.map(h:xp P k w b r n f left cnt):cE P k w b n f:=by obtain ⟨D,a,c⟩:=h;exact ⟨D,a.owns,c⟩
def cE.range{t e:TypeId}(h:cE P k w b n f)(K:Keyed P k)(p:P.underlying t=some (.map k e)):
 ∃w' left cnt,(Instr.range t (.map (some b))).run P w=.ok (PT w.heap.size) w'/\xp P k w' b w.heap.size n f left cnt/\BW w w'/\(∀a d,keyOf P k a=some d->left d=(f a).isSome)/\w'.heap.size=w.heap.size+1:=by
 obtain ⟨D,l,j⟩:=h
 obtain ⟨w',m,i,c,o⟩:=l.range K p
 exact ⟨w',_,_,m,⟨D,i,j⟩,⟨c.os,c.tape,c.output,c.size,λk g=>c.block k g (λe=>by cases e)⟩,λa d g=>(j a d g).1,o⟩
def xp.next(h:xp P k w b r n f left cnt)(K:Keyed P k)(A:TypeId):
 (cnt=0/\(∀g,left g=false)/\(Instr.next (PT r) false A).run P w=.ok (.tuple #[.bool false]) w)\/
 ∃a v g w' d,keyOf P k a=some g/\left g=true/\f a=some v/\(Instr.next (PT r) false A).run P w=.ok (.tuple #[.bool true,a,v]) w'/\
  xp P k w' b r n f (λx=>left x&&!x.sameKey g) d/\d<cnt/\aj (λk=>k=r) w w'/\(Instr.entry (PT r)).run P w'=.ok (.tuple #[a,v]) w':=by
 obtain ⟨D,z,B⟩:=h
 rcases z.next K A with⟨G,s,c⟩|⟨a,v,g,y,L,F,o,s,I,i,c,m,t,l,M,q⟩
 exact .inl ⟨G,s,c⟩
 refine .inr ⟨a,v,g,L,F,o,s,?_,c,⟨D,m,B⟩,t,⟨l.os,l.tape,l.output,l.size,λk o u=>l.block k o (λe=>u (by cases e;rfl))⟩,q⟩
 have J:y.1=.held v:=by have:pI v=some (y.1,y.2):=I;exact zS this
 obtain ⟨C,H⟩:=B a g o
 cases E:f a with
 |none=>
  exfalso
  rw [E]at C
  have j:=i (.held (.bool true))
  have p:=i (.held (.bool false))
  rw [atKey_of_not_has C]at j p
  rw [<-j]at p
  cases p
 |some x=>
  have j:=i (.held v)
  rw [H x E]at j
  rw [J]at j
  cases j;rfl
def xp.aA{S:Nat->Prop}(h:xp P k w b r n f left cnt)(a:BW w w'):xp P k w' b r n f left cnt:=by obtain ⟨D,c,d⟩:=h;exact ⟨D,c.kept (row:=none) ⟨a.os,a.tape,a.output,a.size,λi e _=>a.block i e⟩ (by simp) (by simp),d⟩
end
end
section
open Go.RowKit Go.Maps
def S7:=@List.nil_sublist
def ku(l:List Nat)(u:Nat):Nat:=l.findIdx (λx=>x==u)
def JT{l:List Nat}{k u:Nat}(a:l[k]? =some u)(d:u∉l.take k):ku l u=k:=by have c:=(NK.1 a).1;have b:=(NK.1 a).2;unfold ku;rw [List.findIdx_eq c];refine ⟨by rw [b];exact Qa u,λj f=>?_⟩;refine NC.2 λe=>d ?_;rw [<-e];exact Sv.2 ⟨j,by rw [Pd];omega,by rw [List.getElem_take]⟩
structure oT (w:WD) (a k:Nat) (l:List Nat) (n:Nat) (f:Value->Option Value):Prop where
 map:cE Tryz.prog 3 w a k f
 yes:∀u:Nat,u∈l.take k->f (IV u)=some (IV (ku l u:Int))
 no:∀u:Nat,u∉l.take k->f (IV u)=none
 key:∀x v,f x=some v->∃u:Nat,x=IV u
def oT.aK(w:WD)(l:List Nat)(n:Nat):oT (w.alloc (.map #[] 0)) w.heap.size 0 l n (λ_=>none):=
 ⟨cE.aK Tryz.prog 3 w,λu a=>(by cases a),λ_ _=>rfl,λx v h=>(by cases h)⟩
def gH{l:List Nat}{k u x:Nat}(a:l[k]? =some u):x∈l.take (k+1)↔x∈l.take k\/x=u:=by rw [OG,a,NY];simp
def oT.same{w:WD}{c k n u:Nat}{l:List Nat}{f:Value->Option Value}(h:oT w c k l n f)(b:l[k]? =some u)(g:u∈l.take k):oT w c (k+1) l n f:=
 ⟨h.map.mono (Nat.le_succ k),λx a=>h.yes x (((gH b).1 a).elim id (λe=>e▸g)),λx a=>h.no x (λd=>a ((gH b).2 (.inl d))),h.key⟩
def oT.put{w i:WD}{d k n u:Nat}{l:List Nat}{f:Value->Option Value}(h:oT w d k l n f)(a:l[k]? =some u)(o:u∉l.take k)(j:cE Tryz.prog 3 i d (k+1) (qK f (IV u) (some (IV k)))):oT i d (k+1) l n (qK f (IV u) (some (IV k))):=by refine ⟨j,λx b=>?_,λx b=>?_,λx v g=>?_⟩;by_cases e:x=u;subst e;rw [eZ,JT a o];rw [cT _ _ _ _ (λc=>e (by have:=(P7 c).2;omega))];exact h.yes x (((gH a).1 b).resolve_right e);have e:x≠u:=λe=>b ((gH a).2 (.inr e));rw [cT _ _ _ _ (λc=>e (by have:=(P7 c).2;omega))];exact h.no x (λm=>b ((gH a).2 (.inl m)));by_cases e:x=IV u;exact ⟨u,e⟩;rw [cT _ _ _ _ e]at g;exact h.key x v g
def oT.af{w b:WD}{a k n:Nat}{l:List Nat}{f:Value->Option Value}(h:oT w a k l n f)(c:BW w b):oT b a k l n f:=⟨h.map.af c,h.yes,h.no,h.key⟩
def xP(w:WD)(l:List Nat)(r:Nat->Nat->Bool)(e:Ending)(d:WD):Prop:=
 ∃a m c b,e=RT (.slice a m c)/\aE .i64 3 w d (.slice a m c) (aH b)/\b.Sublist l/\∀v∈l,(∀x∈l,iY r (ku l) v x=false)->v∈b
def Hk{l:List Nat}{u:Nat}(h:u∈l):l[ku l u]? =some u:=by have a:ku l u<l.length:=List.findIdx_lt_length_of_exists ⟨u,h,Qa u⟩;rw [Ny a];have:=List.findIdx_getElem (xs:=l) (p:=λx=>x==u) (w:=a);exact Pp some (eq_of_beq this)
def vW(w:World)(la:Option Addr)(E lc:Nat)(l:List Nat)(rv:Value)(n:Nat)(r:Nat->Nat->Bool)(hl:aG .i64 w la E (aH l))(bG:E<=16777216)(z:∀q∈l,q<n)(hr:gE w rv n r)(hn:n<=256):
 Calls Tryz.prog 117 #[.slice la E lc,rv] w (xP w l r):=by
 obtain ⟨ma,mc,rfl,av⟩:=hr
 obtain ⟨w0,aP⟩:∃w0,w.alloc (.map #[] 0)=w0:=⟨_,rfl⟩
 have aY:Below w.heap.size w w0:=aP▸ag _ _
 obtain ⟨mb,aF⟩:∃mb,w.heap.size=mb:=⟨_,rfl⟩
 have bt:=@RY Tryz.prog
 have N:Hid (l.length=E):=by have:=hl.1;rwa [aC]at this
 have aB:Hid (oT w0 mb 0 l n (λ_=>none)):=by rw [<-aP,<-aF];exact oT.aK w l n
 have HL:=Nq hl
 have ac:=Nq z
 have HM:Hid (n=0\/∃b o,ma=some ⟨b,o,none⟩/\∀i,i<n->∃ra rl rc,w.cell? ⟨b,o+i,none⟩=some (.slice ra n rc)/\rl=n/\dW w ra n (r i)):=av
 have aA:=Nq aY
 have bk:=Nq aF
 have bD:mb<w0.heap.size:=aB.o.map.lt
 obtain ⟨i3,bq,bv,bu,ad⟩:=Ol Tryz.ed
 clear hl z av aY
 go_enter Tryz.func117,Tryz.ntmps117
 go_upto_region 2 with(fail)
 clear bt aP aF
 go_wp2
 go_loopw [19] (λv wr=>∃(k:Nat)(f:Value->Option Value),k<=E/\v=.int .i64 k/\Hid (aj (λk=>k=mb) w0 wr)/\Hid (oT wr mb k l n f)) (λv _=>E-(intOf v).toNat)
 exact ⟨0,_,NS _,rfl,Nq (aj.refl _ _),aB⟩
 clear aB
 obtain ⟨k,f,hk,rfl,ah,y⟩:=hrel
 have M:Hid (Below w.heap.size w wr):=aA.o.trans (ah.o.af aA.o.size (λj hj e=>by have:=bk.o;omega))
 by_cases z:k<E
 ·have a7:(k:Int)<(E:Int):=by omega
  obtain ⟨u,D⟩:∃u,l[k]? =some u:=⟨_,Ny (by rw [N.o];exact z)⟩;obtain ⟨-,h0|⟨lb,lo,rfl,hc⟩⟩:=HL.o.af M.o
  ·omega
  have ck:wr.cell? ⟨lb,lo+k,none⟩=some (.int .i64 (u:Int)):=by have:=hc k z;rw [cH (by rw [N.o];exact z),Nw,D]at this;exact this
  have aO:=ac.o u (NI D);have ai:=iG (n:=u) (by omega);have s:=y.o.map.look_ok lW Pc (oh wr) ai;by_cases hm:u∈l.take k
  ·rw [y.o.yes u hm]at s;simp only [OU,SR]at s
   have F:=Nq (y.o.same D hm);clear hc D ai hm y M;go_wp2;go_roundw;exact ⟨k+1,f,by omega,by go_num,ah,F⟩;simp [intOf];omega
  ·rw [y.o.no u hm]at s;simp only [Rw,SQ]at s
   obtain ⟨w3,bE,a8,a3⟩:=y.o.map.put lW Pc (by unfold maxLen;omega) ai (.int .i64 (k:Int));have F:=Nq (y.o.put D hm a8);have HK:Hid (aj (λk=>k=mb) w0 w3):=ah.o.then a3 (λ_ _ e=>e);clear hc D ai hm y M a8 a3;go_wp2;go_roundw;exact ⟨k+1,_,by omega,by go_num,HK,F⟩;simp [intOf];omega
 ·obtain rfl:E=k:=by omega
  have a7:¬((E:Int)<(E:Int)):=by omega
  have Z:Hid (∀u:Nat,(u∈l->f (.int .i64 (u:Int))=some (.int .i64 (ku l u:Int)))/\(u∉l->f (.int .i64 (u:Int))=none)):=λu=>by have e:l.take E=l:=Oe (by rw [N.o];exact Nz _);have X:=y.o.yes u;have L:=y.o.no u;rw [e]at X L;exact ⟨X,L⟩
  have bh:=Nq y.o.key;have bi:=Nq y.o.map;clear y;obtain ⟨w2,rfl⟩:∃w2,w2=wr:=⟨_,rfl⟩;have aR:Hid (∀w',Below w2.heap.size w2 w'->∀t u,t<n->u<n->∃mo ao ap ro rc,ma=some ⟨ao,mo,none⟩/\w'.cell? ⟨ao,mo+t,none⟩=some (.slice (some ⟨ap,ro,none⟩) n rc)/\w'.cell? ⟨ap,ro+u,none⟩=some (.bool (r t u))):=λw' hb t u ht D=>by
   have aZ:=aa M.o hb;rcases HM.o with h0|⟨b,o,e,hc⟩
   ·omega
   ·obtain ⟨ra,rl,rc,X,-,⟨ap,ro,e2,L⟩⟩:=hc t ht;subst e2
    exact ⟨o,b,ap,ro,rc,e,(aZ.cell (Nr w _ X)).trans X,(aZ.cell (Nr w _ (L u D))).trans (L u D)⟩
  clear ah HM aA;go_wp2;go_loopw [10,38] (λbB v wr=>∃(k:Nat)(a:Option Addr)(m c:Nat)(A:List Nat),k<=E/\v=.int .i64 k/\bB=.slice a m c/\Hid (aE .i64 3 w2 wr (.slice a m c) (aH A))/\Hid (A.length<=k/\A.Sublist (l.take k)/\∀i t,i<k->l[i]? =some t->ku l t=i->(∀x∈l,iY r (ku l) t x=false)->t∈A)) (λ_ v _=>E-(intOf v).toNat);exact ⟨0,none,0,0,[],NS _,rfl,rfl,Nq (iZ _ _ _),Nq ⟨Nz _,S7 _,λi t hi=>by omega⟩⟩;obtain ⟨k,a,m,c,A,hk,rfl,rfl,P,af⟩:=hrel;by_cases z:k<E
  ·have bs:(k:Int)<(E:Int):=by omega
   obtain ⟨t,ht⟩:∃t,l[k]? =some t:=⟨_,Ny (by rw [N.o];exact z)⟩;have bc:=NI ht;have Y:Hid (Below w2.heap.size w2 wr):=P.o.2.1;obtain ⟨-,h0|⟨lb,lo,rfl,hc⟩⟩:=HL.o.af (aa M.o Y.o)
   ·omega
   have ck:wr.cell? ⟨lb,lo+k,none⟩=some (.int .i64 (t:Int)):=by have:=hc k z;rw [cH (by rw [N.o];exact z),Nw,ht]at this;exact this
   have bd:=ac.o t bc;have aJ:=bi.o.af Y.o;have s:=aJ.look lW Pc (oh wr) (iG (n:=t) (by omega));rw [(Z.o t).1 bc]at s;simp only [OU]at s;obtain ⟨d,hd⟩:∃d,ku l t=d:=⟨_,rfl⟩;rw [hd]at s;have HD:=Nq hd;obtain ⟨w3,W,aU,az,aw,ad,U,bb⟩:=cE.range aJ lW Pc;obtain ⟨B0,bo⟩:∃B0,((d:Int)==(k:Int))=B0:=⟨_,rfl⟩;have aq:Hid (B0=true↔d=k):=by show B0=true↔d=k;rw [<-bo,RP];omega
   have HT:=Nq ht;have R:=Nq aw;have ar:=Nq ad;have aQ:Hid (∀u∈l,W (.int .i64 (u:Int))=true):=λu D=>by rw [U _ _ (iG (n:=u) (by have:=ac.o u D;omega)),(Z.o u).1 D];rfl
   have aS:=Nq P.o;have ab:=Nq af.o;have a9:=P.o;clear hc ht aJ hd aw ad U bb P af a9;go_upto_region 14 with(fail);obtain ⟨rg,aL⟩:∃rg,wr.heap.size=rg:=⟨_,rfl⟩;rw [aL]at az R;have bn:=Nq aL;clear aL;go_wp2;obtain ⟨wo,rfl⟩:∃wo,wo=wr:=⟨_,rfl⟩;go_loopg [13] aU (λg v wx=>∃(left:Lit->Bool)(B:Bool),v=.bool B/\Hid (Below wo.heap.size wo wx)/\Hid (xp Tryz.prog 3 wx mb rg E f left g)/\Hid (B=true↔d=k/\∀u∈l,left (.int .i64 (u:Int))=false->iY r (ku l) t u=false));exact ⟨W,B0,rfl,ar,R,Nq ⟨λh=>⟨aq.o.1 h,λu D L=>by rw [aQ.o u D]at L;cases L⟩,λh=>aq.o.2 h.1⟩⟩;clear az R ar aQ s;obtain ⟨left,B,rfl,aD,aI,K⟩:=hrel;rcases aI.o.next lW 0 with⟨bp,U,aK⟩|⟨bw,v,kl,w4,H,a5,ak,O,aK,ay,I,a4,bC⟩
   ·have bf:Hid (B=true↔d=k/\∀u∈l,iY r (ku l) t u=false):=⟨λh=>⟨(K.o.1 h).1,λu D=>(K.o.1 h).2 u D (U _)⟩,λh=>K.o.2 ⟨h.1,λu D _=>h.2 u D⟩⟩;have V:=jK aS.o aD.o
    have am:(aH A).length=m:=eV aS.o;have aT:=Nq V;have bl:=Nq am;have a2:A.length=m:=by rw [<-aC];exact am
    have a1:A.length<=k:=ab.o.1;have HO:Hid (Sl wr 3 (.slice a m c) m ((aH A).map (Value.int .i64))):=by have h:=V.1;rw [am]at h;exact h
    have S:Hid (∀C:List Nat,C.length<=k+1->(C=A\/C=A++[t])->(∀j∈A,j∈C)->(B=true->t∈C)->C.length<=k+1/\C.Sublist (l.take (k+1))/\∀i t',i<k+1->l[i]? =some t'->ku l t'=i->(∀x∈l,iY r (ku l) t' x=false)->t'∈C):=λC X L h3 h4=>by
     refine ⟨X,?_,λi t' hi aM a0 hx=>?_⟩
     ·have ek:l.take (k+1)=l.take k++[t]:=by rw [OG,HT.o];rfl
      rw [ek];rcases L with rfl|rfl
      ·exact ab.o.2.1.trans (QB _ _)
      ·exact ab.o.2.1.append (RW _)
     by_cases e:i=k
     ·subst e;have ht:=HT.o
      rw [ht]at aM;cases aM
      exact h4 (bf.o.2 ⟨by rw [<-HD.o];exact a0,hx⟩)
     ·exact h3 _ (ab.o.2.2 i t' (by omega) aM a0 hx)
    clear bp U K aI V am;cases B
    ·have F:=Nq (S.o A (by omega) (.inl rfl) (λj hj=>hj) (λh=>by cases h));clear a2 a1
     go_wp2;go_roundw;exact ⟨k+1,a,m,c,A,by omega,by go_num,rfl,aT,F⟩;simp [intOf];omega
    ·have F:=Nq (S.o (A++[t]) (by rw [NH,Oz];omega) (.inr rfl) (λj hj=>Oo _ hj) (λ_=>OO _ (Nv.2 rfl)));have bm:Hid (aH (A++[t])=aH A++[(t:Int)]):=by rw [je];exact Nq rfl
     have bH:m<=k:=by omega
     clear a2 a1;go_wp2_with (at_builtin;refine ax rfl (.tmp 83) (.tmp 85) 33 rfl 3 i3 (.int .i64 0) 8 OE bq bv bu ad rfl (by decide) _ _ _ rfl HO.o _ rfl rfl (by omega) ?_;intro g1 c1 w5 hs a6 ba;have HE:=Nq (dA aT.o bl.o hs a6 ba);clear hs a6 ba);go_roundw;exact ⟨k+1,_,m+1,c1,A++[t],by omega,by go_num,rfl,by rw [bm.o];exact HE,F⟩;simp [intOf];omega
   ·obtain ⟨u,rfl⟩:=bh.o bw v O;have aN:u∈l:=by
     by_cases h:u∈l
     ·exact h
     ·rw [(Z.o u).2 h]at O;cases O
    have aO:=ac.o u aN;have br:kl=.int .i64 (u:Int):=by have:=iG (n:=u) (by omega);rw [a5]at this;exact OJ this
    subst br;obtain ⟨du,ae⟩:∃du,ku l u=du:=⟨_,rfl⟩;have hv:v=.int .i64 (du:Int):=by rw [(Z.o u).1 aN,ae]at O;exact (OJ O).symm
    subst hv;have J:Hid (Below wo.heap.size wo w4):=aD.o.trans (a4.af aD.o.size (λj hj e=>by have:=bn.o;omega));have Q:=Nq ay;have G:Hid (∀B':Bool,(d=k->(B'=true↔B=true/\iY r (ku l) t u=false))->(d≠k->(B'=true->B=true))->(B'=true↔d=k/\∀x∈l,(left (.int .i64 (x:Int))&&!(Lit.int .i64 (x:Int)).sameKey (.int .i64 (u:Int)))=false->iY r (ku l) t x=false)):=λB' X L=>by
     by_cases e:d=k
     ·rw [X e,K.o];constructor
      ·rintro ⟨⟨-,h3⟩,h4⟩;refine ⟨e,λx hx al=>?_⟩
       by_cases e2:x=u
       ·subst e2;exact h4
       ·refine h3 x hx ?_;rw [sameKey_ne (λe3=>e2 (by have:=(Lit.int.inj e3).2;omega)),Rh,Rx]at al
        exact al
      ·rintro ⟨-,h3⟩;refine ⟨⟨e,λx hx al=>h3 x hx (by rw [al,Pe])⟩,h3 u aN ?_⟩
       have:(Lit.int .i64 (u:Int)).sameKey (.int .i64 (u:Int))=true:=WideAt.sameKey_self PO;rw [this,SA,QQ]
     ·constructor
      ·intro h;exact absurd (K.o.1 (L e h)).1 e
      ·rintro ⟨h,-⟩;exact absurd h e
    obtain ⟨mo,ao,rt,ro,rc,aV,bK,bz⟩:=aR.o w4 (aa Y.o J.o) t u bd aO;obtain ⟨bx,be,ru,bN,bM,T,bL,bA⟩:=aR.o w4 (aa Y.o J.o) u t aO bd;rw [aV]at T;obtain ⟨rfl,rfl⟩:ao=be/\mo=bx:=by have:=OJ T;cases this;exact ⟨rfl,rfl⟩
    subst aV;have bJ:(u:Int)<(n:Int):=by omega
    have bI:(t:Int)<(n:Int):=by omega
    have bF:=Nq ae;have p:Hid (iY r (ku l) t u=(decide (u≠t)&&(r t u&&(!r u t||decide (du<d))))):=by unfold iY;rw [ae,HD.o];exact Nq rfl
    clear a5 ak O ay aI K T ae a4;obtain ⟨R1,aW⟩:∃R1,r t u=R1:=⟨_,rfl⟩;obtain ⟨R2,aX⟩:∃R2,r u t=R2:=⟨_,rfl⟩;rw [aW]at bz p;rw [aX]at bA p;clear aW aX;by_cases an:u=t
    ·have b0:((u:Int)!=(t:Int))=false:=by simp;omega
     have bj:Hid (iY r (ku l) t u=false):=by rw [p.o,NX (λh=>h an),Pe];exact Nq rfl
     have F:=Nq (G.o B (λ_=>⟨λh=>⟨h,bj.o⟩,λh=>h.1⟩) (λ_ h=>h));clear an;go_wp2;go_roundg H;case measure=>exact I
     case rel=>exact ⟨_,B,rfl,J,Q,F⟩
    ·have b0:((u:Int)!=(t:Int))=true:=by simp;omega
     have au:decide (u≠t)=true:=N6 an;rw [au,OM]at p;clear an au;cases R1
     ·rw [Pe]at p;have F:=Nq (G.o B (λ_=>⟨λh=>⟨h,p.o⟩,λh=>h.1⟩) (λ_ h=>h))
      go_wp2;go_roundg H;case measure=>exact I
      case rel=>exact ⟨_,B,rfl,J,Q,F⟩
     ·rw [OM]at p;cases R2
      ·rw [Rh,Sd]at p;have F:=Nq (G.o false (λ_=>⟨λh=>(by cases h),λh=>by rw [p.o]at h;cases h.2⟩) (λ_ h=>by cases h))
       go_wp2;go_roundg H;case measure=>exact I
       case rel=>exact ⟨_,false,rfl,J,Q,F⟩
      ·rw [SA,Ra]at p;by_cases ak:du<k
       ·have b1:decide (du<k)=true:=N6 ak;have F:=Nq (G.o false (λe=>⟨λh=>(by cases h),λh=>by rw [p.o,N6 (by omega)]at h;cases h.2⟩) (λ_ h=>by cases h))
        go_wp2;go_roundg H;case measure=>exact I
        case rel=>exact ⟨_,false,rfl,J,Q,F⟩
       ·have b1:decide (du<k)=false:=NX ak;have F:=Nq (G.o B (λe=>⟨λh=>⟨h,by rw [p.o];exact NX (by omega)⟩,λh=>h.1⟩) (λ_ h=>h))
        go_wp2;go_roundg H;case measure=>exact I
        case rel=>exact ⟨_,B,rfl,J,Q,F⟩
  ·obtain rfl:E=k:=by omega
   have bg:Hid (xP w l r (.returned (.slice a m c)) wr):=by obtain ⟨X,L,h3⟩:=af.o;refine ⟨a,m,c,A,rfl,iJ M.o P.o,L.trans (List.take_sublist _ _),λv hv hx=>?_⟩;have hi:=Hk hv;exact h3 (ku l v) v (by have:=(NK.1 hi).1;have:=N.o;omega) hi rfl hx
   clear af P;go_wp2;go_ret;exact bg.o
end
section
open Go.RowKit
def RZ:=@List.sum_cons
structure Cut (n:Nat) (r:Nat->Nat->Bool) (l a:List Nat):Prop where
 mh:a.Sublist l
 Nf:∀q∈l,∃p∈a,r q p=true
def Cut.sub{n:Nat}{r:Nat->Nat->Bool}{l a:List Nat}(h:Cut n r l a):∀j∈a,j∈l:=λj b=>h.mh.subset b
def Cut.bC{n:Nat}{r:Nat->Nat->Bool}{l a:List Nat}(h:Cut n r l a):a.length<=l.length:=h.mh.length_le
def iq(l:List bV):Nat:=(l.map λx=>(bV.tO x).length+1).sum
def _root_.Go.Own.Au.wt(A:Au):Nat:=A.aJ.length+iq A.ah
def gw(A D:Au):Prop:=D.wt<=A.wt/\(D.wt=A.wt->D=A)
def gw.trans{A B C:Au}(h:gw A B)(k:gw B C):gw A C:=
 ⟨N5 k.1 h.1,λe=>by have:=h.1;have:=k.1;have a:=k.2 (by omega);subst a;exact h.2 (by omega)⟩
def D6{l l2:List bV}(h:l.Sublist l2):iq l<=iq l2/\(iq l=iq l2->l=l2):=by
 induction h with
 |slnil=>exact ⟨Nz _,λ_=>rfl⟩
 |cons a _ b=>simp only [iq,NQ,RZ]at *;exact ⟨by omega,λe=>by omega⟩
 |cons_cons a _ b=>simp only [iq,NQ,RZ]at *;exact ⟨by omega,λe=>by rw [b.2 (by omega)]⟩
def uN:∀(l N:List bV),N.length=l.length->(∀(j:Nat)(x y:bV),l[j]? =some x->N[j]? =some y->(bV.tO y).length<=(bV.tO x).length)->iq N<=iq l
 |[],[],_,_=>Nz _
 |x::l,y::N,c,h=>by have f:=h 0 x y rfl rfl;have g:=uN l N (by simpa using c) (λj a b d e=>h (j+1) a b d e);simp only [iq,NQ,RZ]at *;omega
 |[],_::_,c,_=>by cases c
 |_::_,[],c,_=>by cases c
def A6:∀(l N:List bV),N.length=l.length->(∀(j:Nat)(x y:bV),l[j]? =some x->N[j]? =some y->y.ak=x.ak/\y.aD=x.aD/\y.aT=x.aT/\(bV.tO y).Sublist (bV.tO x))->iq N=iq l->N=l
 |[],[],_,_,_=>rfl
 |x::l,y::N,c,h,e=>by
  obtain ⟨g,i,k,m⟩:=h 0 x y rfl rfl;have q:=uN l N (by simpa using c) (λj a b d f=>(h (j+1) a b d f).2.2.2.length_le);have o:=m.length_le;have r:=A6 l N (by simpa using c) (λj a b d f=>h (j+1) a b d f);simp only [iq,NQ,RZ]at *;have n:=m.eq_of_length (by omega);have p:=r (by omega);subst p;cases x;cases y
  simp only at g i k n;subst g i k n;rfl
 |[],_::_,c,_,_=>by cases c
 |_::_,[],c,_,_=>by cases c
def rB{A:Au}{c:List Nat}{N:List bV}(d:c.Sublist A.aJ)(f:N.length=A.ah.length)(g:∀(j:Nat)(x y:bV),A.ah[j]? =some x->N[j]? =some y->y.ak=x.ak/\y.aD=x.aD/\y.aT=x.aT/\(bV.tO y).Sublist (bV.tO x)):gw A ⟨A.sets,c,N⟩:=by have k:=d.length_le;have l:=uN _ _ f (λj a b h i=>(g j a b h i).2.2.2.length_le);refine ⟨by show c.length+iq N<=A.aJ.length+iq A.ah;omega,λe=>?_⟩;have e:c.length+iq N=A.aJ.length+iq A.ah:=e;rw [d.eq_of_length (by omega),A6 _ _ f g (by omega)]
def G8{A:Au}{r:Nat->Nat->Bool}(C:fS A)(E:kX A λi k=>i<A.ah.length/\k<A.ah.length/\r i k=true){l B:List Nat}(m:∀q∈l,q<A.ah.length)(F:B.Sublist l)(G:∀v∈l,(∀x∈l,iY r (ku l) v x=false)->v∈B):Cut A.ah.length r l B:=by
 refine ⟨F,λq s=>?_⟩;have J:Valid A:=⟨C.aJ,λn I q s=>C.lN _ (eh I) q s⟩;obtain ⟨p,o⟩:∃p:Nat->Nat->Bool,∀a b,p a b=(decide (a=b)||(decide (a<A.ah.length)&&(decide (b<A.ah.length)&&r a b))):=⟨λa b=>_,λa b=>rfl⟩;have u:∀a b,a<A.ah.length->b<A.ah.length->p a b=r a b:=λa b D H=>by rw [o,N6 D,N6 H,OM,OM];by_cases e:a=b;subst e;rw [N6 rfl,(E.refl J D).2.2];rfl;rw [NX e,Ra]
 have j:∀a b,p a b=true↔a=b\/(a<A.ah.length/\b<A.ah.length/\r a b=true):=λa b=>by rw [o];simp only [Py,OB,OP]
 obtain ⟨v,g,w,y⟩:=Hz (r:=p) (idx:=ku l) (λt=>(j t t).2 (.inl rfl)) (λa b c d f=>by rw [j]at d f⊢;rcases d with rfl|d;exact f;rcases f with rfl|f;exact .inr d;exact .inr (E.trans d f)) l q s
 refine ⟨v,G v g (λx z=>?_),by rw [<-u q v (m q s) (m v g)];exact y⟩;have h:=w x z;unfold iY at h⊢;rw [u v x (m v g) (m x z),u x v (m x z) (m v g)]at h;exact h
def GJ(w:WD)(A:Au)(e:Ending)(a:WD):Prop:=
 BW w a/\∃D v R,e=RT v/\Et a D v/\fS D/\kX A R/\B3 A D R/\gw A D
def xM(n:Nat)(r:Nat->Nat->Bool)(x y:bV):Prop:=y.ak=x.ak/\y.aD=x.aD/\y.aT=x.aT/\Cut n r (bV.tO x) (bV.tO y)
def zR{A:Au}{r:Nat->Nat->Bool}{a:List Nat}{N:List bV}(b:Cut A.ah.length r A.aJ a)(c:N.length=A.ah.length)
 (d:∀(j:Nat)(x y:bV),A.ah[j]? =some x->N[j]? =some y->xM A.ah.length r x y):gw A ⟨A.sets,a,N⟩:=
 rB b.mh c λj x y e f=>by have h:=d j x y e f;exact ⟨h.1,h.2.1,h.2.2.1,h.2.2.2.mh⟩
def FP{A:Au}{r:Nat->Nat->Bool}(d:fS A)(D:kX A λi k=>i<A.ah.length/\k<A.ah.length/\r i k=true){m:List Nat}{N:List bV}(s:Cut A.ah.length r A.aJ m)(v:N.length=A.ah.length)
 (e:∀(j:Nat)(x y:bV),A.ah[j]? =some x->N[j]? =some y->xM A.ah.length r x y):
 B3 A ⟨A.sets,m,N⟩ (λi k=>i<A.ah.length/\k<A.ah.length/\r i k=true)/\fS ⟨A.sets,m,N⟩:=by
 have c:∀j,j<A.ah.length->xM A.ah.length r (A.aw j) ((⟨A.sets,m,N⟩:Au).aw j):=λj t=>by
  have o:A.ah[j]? =some A.ah[j]:=Ny t;have w:N[j]? =some N[j]:=Ny (by omega);have z:A.aw j=A.ah[j]:=by unfold Au.aw;rw [Nw,o];rfl
  have B:(⟨A.sets,m,N⟩:Au).aw j=N[j]:=by unfold Au.aw;rw [Nw,w];rfl
  rw [z,B];exact e j _ _ o w
 have a:∀j,¬j<A.ah.length->A.aw j=bV.zero/\(⟨A.sets,m,N⟩:Au).aw j=bV.zero:=λj t=>by constructor;unfold Au.aw;rw [Nw,O7 (by omega)];rfl;unfold Au.aw;rw [Nw,O7 (by show N.length<=j;omega)];rfl
 have b:∀y∈N,∃x∈A.ah,xM A.ah.length r x y:=λy f=>by obtain ⟨j,t⟩:=Pg f;have o:A.ah[j]? =some (A.ah[j]'(by have:=(NK.1 t).1;omega)):=Ny _;exact ⟨_,NI o,e j _ _ o t⟩
 refine ⟨⟨rfl,v,λn=>?_,λn=>?_,λn=>?_,s.sub,λq g=>?_,λn e q g=>(c n e).2.2.2.sub q g,λn e q g=>?_⟩,⟨d.sets,by show N.length<=256;rw [v];exact d.many,λi h=>by show i<N.length;rw [v];exact d.aJ i (s.sub i h),λy f k C=>?_,λy f=>?_,λy f=>?_,λy f=>?_,N5 s.bC d.il⟩⟩
 by_cases h:n<A.ah.length
 exact (c n h).1
 rw [(a n h).1,(a n h).2]
 by_cases h:n<A.ah.length
 exact (c n h).2.1
 rw [(a n h).1,(a n h).2]
 by_cases h:n<A.ah.length
 exact (c n h).2.2.1
 rw [(a n h).1,(a n h).2]
 obtain ⟨p,u,h⟩:=s.Nf q g
 exact ⟨p,u,d.aJ q g,d.aJ p (s.sub p u),h⟩
 obtain ⟨p,u,h⟩:=(c n e).2.2.2.Nf q g
 exact ⟨p,u,d.lN _ (eh e) q g,d.lN _ (eh e) p ((c n e).2.2.2.sub p u),h⟩
 obtain ⟨x,l,h⟩:=b y f
 show k<N.length
 rw [v];exact d.lN x l k (h.2.2.2.sub k C)
 obtain ⟨x,l,h⟩:=b y f
 rw [h.2.2.1];exact d.aT x l
 obtain ⟨x,l,h⟩:=b y f
 rw [h.1,h.2.1];exact d.bits x l
 obtain ⟨x,l,h⟩:=b y f
 exact N5 h.2.2.2.bC (d.tl x l)
def Rg:=@Go.Lib.ownBlock_ne
def xo(d:WD)(n:Nat)(r:Nat->Nat->Bool)(l:List Nat)(v:Value)(w:WD):Prop:=
 ∃a m c b,v=.slice a m c/\aE .i64 3 d w (.slice a m c) (aH b)/\Cut n r l b
def xo.af{d w b:WD}{n:Nat}{r:Nat->Nat->Bool}{l:List Nat}{v:Value}(h:xo d n r l v w)(f:BW w b):xo d n r l v b:=by obtain ⟨a,m,c,j,e,i,g⟩:=h;exact ⟨a,m,c,j,e,jK i f,g⟩
def pz{i w:WD}{a:OA}{m c:Nat}{g:List Nat}{S:Nat->Prop}(h:aE .i64 3 i w (.slice a m c) (aH g))(k:g.length<=16777216)(j:∀b,(Value.slice a m c).ownBlock=some b->i.heap.size<=b->¬S b):fm w S (a,m,c) g:=by
 have d:∀b o,a=some (AD b o)->(Value.slice a m c).ownBlock=some b:=λb o e=>by subst e;rfl
 have f:=eV h;rw [aC]at f;exact ⟨cN h,λb o e=>j b (d b o e) (h.2.2 b (d b o e)),λb o e=>h.1.lt b (d b o e),by show m<=_;omega⟩
structure jt (w wr:WD) (d:Nat) (A:Au) (r:Nat->Nat->Bool) (b:Nat) (t:bu) (a:List Nat) (c:Value) (O:List (bV×bu)):Prop where
 o:fT wr b (λk=>k=d) A.sets t a c O
 aM:BW w wr
 bL:∀k,gN b c k->w.heap.size<=k
 nW:Cut A.ah.length r A.aJ a
 cO:O.length<=A.ah.length
 Ba:∀(j:Nat)(x:bV)(y:bV×bu),A.ah[j]? =some x->O[j]? =some y->xM A.ah.length r x y.1
def jt.af{w wr e:WD}{f:Nat}{A:Au}{r:Nat->Nat->Bool}{c:Nat}{t:bu}{b:List Nat}{d:Value}{O:List (bV×bu)}(h:jt w wr f A r c t b d O)(a:BW wr e):jt w e f A r c t b d O:=
 ⟨h.o.af a,h.aM.trans (a.mono h.aM.size),h.bL,h.nW,h.cO,h.Ba⟩
def jt.aK{w f p:WD}{x0:Nat}{A:Au}{r:Nat->Nat->Bool}{d:Nat}{x:Value}(F:fS A)(J:x0<w.heap.size)(H:w.heap.size<=d)(q:BW w f)(i:HC f d #[IV 0,SN,SN] 36)
 (I:xo w A.ah.length r A.aJ x f) (e:p=((f.setCell (AD d 0) (IV A.sets)).setCell (AD d 1) x).setCell (AD d 2) (SN)):
 ∃a m c l,x=.slice a m c/\jt w p x0 A r d (a,m,c) l (SN) []:=by
 obtain ⟨a,m,c,l,rfl,v,t⟩:=I
 have z:CA f d 0 (IV 0):=CH i
 have B:CA f d 1 (SN):=CH i
 have C:CA f d 2 (SN):=CH i
 obtain ⟨-,-,-,u⟩:=bQ z B C p e
 have g:l.length<=16777216:=N5 t.bC F.il
 have o:∀b,(Value.slice a m c).ownBlock=some b->b≠d:=λb n D=>Rg v.1 i (by decide) (D▸n)
 have G:=pz (S:=λk=>k=d\/k=x0) v g (λb n E s=>s.elim (o b n) (λs=>by omega))
 refine ⟨a,m,c,l,rfl,fT.aK ?_ (G.aA u (λk s=>.inl (.inl s)) (λk s=>.inl s)),q.trans (u.af q.size (λk E K=>by omega)),λk s=>?_,t,NS _,λj x y _ h=>(by cases h)⟩
 rw [e];simp [HC,World.setCell,Ow,i]
 rcases s with s|s
 omega
 cases s
def jt.step{w wr g q D:WD}{u:Nat}{A:Au}{r:Nat->Nat->Bool}{l:Nat}{t:bu}{C:List Nat}{m d:Value}{O:List (bV×bu)}(h:jt w wr u A r l t C m O){x:bV}(B:A.ah[O.length]? =some x){y:bV×bu}(J:xM A.ah.length r x y.1)(F:BW wr g)
 (f:fm g (oX l m (λk=>k=u)) y.2 (bV.tO y.1)) (e:q.ownsRow 0 62 4 d (O.length+1) (cX O++rp y)) (v:aj (λk=>m.ownBlock=some k) g q) (H:∀b,d.ownBlock=some b->m.ownBlock=some b\/g.heap.size<=b) (E:D=q.setCell (AD l 2) d):
 jt w D u A r l t C d (O++[y]):=by
 have i:=h.af F
 obtain ⟨I,o,p⟩:=i.o.dB y f (Nx _ g) e v H E
 refine ⟨I,i.aM.trans (o.af i.aM.size (λk v s=>by have:=h.bL k s;omega)),λk s=>?_,h.nW,?_,λj a b n c=>?_⟩
 rcases s with s|s
 exact h.bL k (.inl s)
 rcases p k s with s|s
 exact h.bL k (.inr s)
 have:=i.aM.size;omega
 have:=(NK.1 B).1
 rw [NH,Oz];omega
 rcases O8 j O.length with z|z
 rw [NP z]at c;exact h.Ba j a b n c
 have G:j=O.length:=by have:=(NK.1 c).1;rw [NH,Oz]at this;omega
 subst G
 rw [OF]at c
 cases c
 rw [B]at n;cases n
 exact J
def jt.row{w wr g w1:WD}{d:Nat}{A:Au}{r:Nat->Nat->Bool}{e:Nat}{t:bu}{p:List Nat}{f:Value}{O:List (bV×bu)}(h:jt w wr d A r e t p f O)(o:d<w.heap.size)(i:BW wr g){a:OA}{m c:Nat}{l:List Nat}
 (n:aE .i64 3 g w1 (.slice a m c) (aH l)) (j:l.length<=16777216):fm w1 (oX e f (λk=>k=d)) (a,m,c) l:=
 pz n j λb q u s=>by have:=h.aM.size;have:=i.size;rcases s with s|s;have:=h.o.eE b s;omega;omega
def FO(w:WD)(A:Au)(T:OA)(J X:Nat)(na:OA)(L nc:Nat)(hv:bY w A T J na L)(hA:fS A):
 CL 81 #[.agg #[IV A.sets,.slice T J X,.slice na L nc]] w (GJ w A):=by
 obtain ⟨q,hq⟩:=EX w.heap.size
 obtain ⟨M,ak⟩:=EX ((w.alloc (.cells #[IV A.sets,.slice T J X,.slice na L nc] 36)).alloc (.cells #[IV 0,SN,SN] 36))
 have ac:BW w M:=ak▸aa (ag _ _) (ag _ _)
 have s1:M.heap.size=q+1+1:=by rw [<-ak,NG,NG,hq]
 have aK:M.heap[q]? =some (.cells #[IV A.sets,.slice T J X,.slice na L nc] 36 (0,0)):=by rw [<-ak,<-hq,(ND _ _).2 _ (by rw [NG];omega)];exact (ND w _).1
 have ba:M.heap[q+1]? =some (.cells #[IV 0,SN,SN] 36 (0,0)):=by rw [<-ak,<-hq,<-NG w (.cells #[IV A.sets,.slice T J X,.slice na L nc] 36)];exact (ND _ _).1
 have aZ:=Nq (ft M A T J X na L nc (hv.af ac) hA)
 have a1:Hid (∀w2,BW M w2->CL 116 #[.agg #[IV A.sets,.slice T J X,.slice na L nc]] w2 (uV w2 A)):=λw2 C=>vy w2 A T J X na L nc (hv.af (aa ac C)) hA
 have Y:Hid (∀d,BW M d->d.cell? (AD q 0)=some (IV A.sets)/\d.cell? (AD q 1)=some (.slice T J X)/\d.cell? (AD q 2)=some (.slice na L nc)):=λd h=>by have h2:=(h.block q (Nu.1 aK).1).trans aK;exact ⟨CH h2,CH h2,CH h2⟩
 have HV:Hid (∀d,BW M d->bY d A T J na L):=λd h=>hv.af (aa ac h)
 have HA:=Nq hA
 have bk:=Nq ac
 have bn:=Nq ba
 have HQ:=Nq hq
 have a5:=Nq s1
 have bh:L<=256:=by rw [<-hv.bC];exact hA.many
 have Z:Hid (A.ah.length=L):=hv.bC
 have bt:J<=16777216:=by have:=hv.aJ.1;rw [aC]at this;rw [<-this];exact hA.il
 obtain ⟨c0,c1,c2⟩:=Y.o M (Nx _ _)
 clear hv hA ac aK ba s1
 go_enter Tryz.func81,Tryz.ntmps81
 go_upto_region 3 with(go_at_call 23;refine aZ.o.mono ?_;rintro e w2 ⟨rfl,aD⟩;have aW:=Nq aD;have a0:=Nq (a1.o w2 aD);clear aD)
 clear ak hq c0 c1 c2 aZ
 obtain ⟨d0,d1,d2⟩:=Y.o w2 aW.o
 go_upto_region 4 with(go_at_call 116;refine a0.o.mono ?_;rintro e G ⟨a7,v,r,rfl,bg,hg⟩;have bl:=Nq a7;have a3:=Nq bg;have HG:=Nq hg;clear a7 bg hg)
 clear d0 d1 d2 a1 a0
 have B:Hid (BW M G):=aa aW.o bl.o
 obtain ⟨e0,e1,e2⟩:=Y.o G B.o
 have bq:Hid (∀(la:OA)(ll lc:Nat)(l:List Nat)(d:WD),BW G d->aG .i64 d la ll (aH l)->ll<=16777216->(∀k∈l,k<A.ah.length)->CL 117 #[.slice la ll lc,v] d λe t=>∃u,e=RT u/\BW d t/\xo G A.ah.length r l u t):=λla ll lc l d C hr D hk=>
  (vW d la ll lc l v A.ah.length r hr D hk (a3.o.af C) (by rw [Z.o];exact bh)).mono λe t ⟨a,m,c,js,he,hm,h2,h3⟩=>⟨_,he,hm.2.1,a,m,c,js,rfl,iJ C hm,G8 HA.o HG.o hk h2 h3⟩
 have aX:Hid (∀d,Below G.drew.heap.size G.drew d->CL 117 #[.slice T J X,v] d λe t=>∃u,e=RT u/\BW d t/\xo G A.ah.length r A.aJ u t):=λd C=>by have C:BW G d:=(Nx _ _).drew.trans C;exact bq.o T J X A.aJ d C ((HV.o d (aa B.o C)).aJ) bt HA.o.aJ
 have a4:Hid (∀p,Below G.drew.heap.size G.drew p->p.cell? (AD q 0)=some (IV A.sets)/\p.cell? (AD q 1)=some (.slice T J X)):=λd C=>by have h:=Y.o d (aa B.o ((Nx _ G).drew.trans C));exact ⟨h.1,h.2.1⟩
 refine av 8 (S:=λp=>p.cell? (AD q 0)=some (IV A.sets)/\p.cell? (AD q 1)=some (.slice T J X)) (by kernel_rfl) (⟨e0,e1⟩) (λQ=>?_)
 refine' az 0 ?_
 refine' az 1 ?_
 refine' az 2 ?_
 refine' az 3 ?_
 refine' az 4 ?_
 clear Q e0 e1 e2
 refine cA [5,6,7] (λi=>if i=5 then 18 else if i=6 then 19 else 4) #[true,true,true,true,true,true,true,true,false] 1
  (λi u w=>match i with|5=>xo G A.ah.length r A.aJ u w|6=>∃x,u=.agg #[IV A.sets,x,SN]/\xo G A.ah.length r A.aJ x w|_=>∃b,u=PT b/\G.heap.size<=b/\w.heap[b]? =some (.cells #[IV 0,SN,SN] 36 (0,0))) (by kernel_rfl) (by kernel_rfl) rfl (by decide) ?st1 ?st2 (by decide) ?st3 ?st4
 case st1=>
  intro i u w4 P hu C;split at hu
  ·exact hu.af C
  ·obtain ⟨x,e,h⟩:=hu;exact ⟨x,e,h.af C⟩
  ·obtain ⟨b,e,h1,h⟩:=hu;exact ⟨b,e,h1,(C.block b (Nu.1 h).1).trans h⟩
 case st2=>exact a4.o
 case st3=>
  rintro l V d i o D bB hi ho hr hJ K n;simp only [N8,O5,QD]at hi;rcases hi with rfl|rfl|rfl
  ·simp only [NT,NN,NO,N0]at ho;subst ho
   refine aN (R:=λe t=>∃u,e=RT u/\BW d t/\xo G A.ah.length r A.aJ u t) (f:=117) (args:=#[.slice T J X,v]) (aX.o d hJ.aM) ?_ (λe w4 ⟨u,he,C,hu⟩=>⟨u,he,n u w4 C hu⟩);clear n;simp only [NQ,NZ,aP,Act.put,reduceIte,Nat.reduceEqDiff,NB,NR,NM];go_simp
  ·simp only [NT,NN,NO,N0]at ho;subst ho
   have h5:xo _ _ _ _ _ _:=hJ.mS 5 (by decide) (aU (l:=[5]) (by kernel_rfl) hr 5 (by simp));refine bT (v:=.agg #[IV A.sets,V 18,SN]) (w':=d) ?_ (n _ _ (Nx _ _) ⟨_,rfl,h5⟩);obtain ⟨_,_,_,_,e5,-⟩:=h5;change V 18=_ at e5;clear n;simp only [NQ,NZ,aP,Act.put,reduceIte,Nat.reduceEqDiff,NB,NR,NM];rw [e5];go_simp
  ·simp only [NT,NN,NO,N0]at ho;subst ho
   refine bT (v:=PT d.heap.size) (w':=d.alloc (.cells #[IV 0,SN,SN] 36)) ?_ (n _ _ ((Nx _ _).alloc (Nz _) _) ⟨_,rfl,hJ.aM.size,(ND d _).1⟩);clear n;simp only [NQ,NZ,aP,Act.put,reduceIte,Nat.reduceEqDiff,NB,NR,NM];go_simp
 case st4=>
  intro V d a9 hV;simp only [NQ,NZ,aP,Act.put,reduceIte,Nat.reduceEqDiff,NB,NR,NM];obtain ⟨xv,e6,h6⟩:=hV 6 (by decide);obtain ⟨F,e7,ae,I⟩:=hV 7 (by decide);change V 19=_ at e6;change V 4=_ at e7;rw [e6,e7];generalize V 18=bC;have bs:=h6;obtain ⟨xa,xm,xc,bD,rfl,-,-⟩:=bs;have ar:BW G d:=(Nx _ _).drew.trans a9;have c0:d.cell? (AD F 0)=some (IV 0):=CH I;have c1:d.cell? (AD F 1)=some (SN):=CH I;have c2:d.cell? (AD F 2)=some (SN):=CH I;have z0:d.frozen? (AD F 0)=false:=NA I 0;have z1:d.frozen? (AD F 1)=false:=NA I 1;have z2:d.frozen? (AD F 2)=false:=NA I 2;refine aI 8 λK n=>?_;go_simp;refine n.o _ _ (λe=>nomatch e) ?_;clear n K;try walk_nrm
  refine ay (by kernel_rfl) ?_;obtain ⟨w4,aQ⟩:=EX (((d.setCell (AD F 0) (IV A.sets)).setCell (AD F 1) (.slice xa xm xc)).setCell (AD F 2) (SN));rw [aQ];have aT:q+1<G.heap.size:=by have:=a5.o;have:=B.o.size;omega
  obtain ⟨ja,jl,jc,js,ej,hL⟩:=jt.aK (x0:=q+1) HA.o aT ae ar I h6 aQ.symm;obtain ⟨rfl,rfl,rfl⟩:=On ej;clear ej;have aB:=Nq aT;obtain ⟨-,-,f2⟩:=Y.o w4 (aa B.o hL.aM);have HL:=Nq hL;clear e6 e7 h6 ae I ar c0 c1 c2 z0 z1 z2 aQ a9 hV hL aT aX a4;go_wp2;go_loopw [23] (λx wr=>∃(i:Nat)(ov:Value)(O:List (bV×bu)),x=IV i/\O.length=i/\Hid (jt G wr (q+1) A r F (xa,xm,xc) js ov O)) (λx _=>L-(intOf x).toNat);exact ⟨0,_,[],rfl,rfl,HL⟩;clear HL f2;obtain ⟨i,ov,O,rfl,am,D⟩:=hrel;obtain ⟨oa,oc,rfl⟩:=bw D.o.o.cK;by_cases bd:i<L
  ·have bz:(i:Int)<(L:Int):=by omega
   have aq:Hid (BW G wr):=D.o.aM;have hv:=HV.o wr (aa B.o aq.o);obtain ⟨b,o,x,rfl,hx,-,-,ta,tl,tc,k0,k1,k2,k3,ai⟩:=hv.nd (j:=i) (by rw [hv.bC];exact bd);have al:x∈A.ah:=NI hx;have bi:tl<=16777216:=by have:=ai.1;rw [aC]at this;rw [<-this];exact HA.o.tl x al
   obtain ⟨P,ap⟩:=EX (wr.alloc (.cells #[UV x.ak,UV x.aD,UV x.aT,.slice ta tl tc] 62));have ad:BW wr P:=ap▸ag _ _;obtain ⟨xb,aV⟩:=EX wr.heap.size;have H:=bp wr #[UV x.ak,UV x.aD,UV x.aT,.slice ta tl tc] 62;rw [ap,aV]at H;have au:=Nq ad;have HX:=Nq hx;have br:=Nq al;have ab:=Nq am;have o2:wr.cell? (AD F 2)=some (.slice oa O.length oc):=CH D.o.o.dp;have ax:Hid (∀p,Below P.drew.heap.size P.drew p->p.cell? (AD F 2)=some (.slice oa O.length oc)):=λp C=>by have h2:=aa ad ((Nx _ _).drew.trans C);exact (h2.cell (Nr _ _ o2)).trans o2
   have bo:Hid (CL 117 #[.slice ta tl tc,v] P.drew λe t=>∃u,e=RT u/\Below P.drew.heap.size P.drew t/\∃a m c js,u=.slice a m c/\aE .i64 3 P.drew t (.slice a m c) (aH js)/\Cut A.ah.length r (bV.tO x) js):=
    (vW P.drew ta tl tc (bV.tO x) v A.ah.length r (((ai.af ad)).af (Nx _ _).drew) bi (λk hk=>HA.o.lN x al k hk) ((a3.o.af (aa aq.o ad)).af (Nx _ _).drew) (by rw [Z.o];exact bh)).mono λe t ⟨a,m,c,js,he,hm,h2,h3⟩=>⟨_,he,hm.2.1,a,m,c,js,rfl,hm,G8 HA.o HG.o (λk hk=>HA.o.lN x al k hk) h2 h3⟩
   have o5:=ax.o P.drew (Nx _ _);have b0:=(H 0 _ rfl).1;have b1:=(H 1 _ rfl).1;have b2:=(H 2 _ rfl).1;have b3:=(H 3 _ rfl).1;have a6:O.length+1<=33554432:=by omega
   clear hv hx al ai bi ad H am o2;go_upto_region 8 with(fail);(try rw [aV]);(try rw [ap]);clear ap aV;refine av 14 (S:=λp=>p.cell? (AD F 2)=some (.slice oa O.length oc)/\p.cell? (AD xb 0)=some (UV x.ak)/\p.cell? (AD xb 1)=some (UV x.aD)/\p.cell? (AD xb 2)=some (UV x.aT)/\p.cell? (AD xb 3)=some (.slice ta tl tc)) (by kernel_rfl) (⟨o5,b0,b1,b2,b3⟩) (λQ=>?_);refine' az 0 ?_ [1,0];refine' az 1 ?_;refine' az 2 ?_ [13,12,3,2];refine' az 3 ?_ [13,12,3];refine' az 4 ?_ [13,12,5,4];refine' az 5 ?_ [13,12,5];refine' az 6 ?_ [13,12,7,6];refine' az 7 ?_ [13,12,7];refine' az 8 ?_ [11,9,8];refine' az 9 ?_ [11,9];refine' bc (i:=10) (v:=_) rfl (by kernel_rfl) (λ_ _ _ h=>h) (Or.inl ⟨by rfl,?hyL10⟩) (by assumption) ?restL10;case hyL10=>(intro d bA;go_simp;(try with_reducible rfl))
   try walk_nrm
   clear Q;have aw:Hid (∀p,Below P.drew.heap.size P.drew p->(λp=>p.cell? (AD F 2)=some (.slice oa O.length oc)/\p.cell? (AD xb 0)=some (UV x.ak)/\p.cell? (AD xb 1)=some (UV x.aD)/\p.cell? (AD xb 2)=some (UV x.aT)/\p.cell? (AD xb 3)=some (.slice ta tl tc)) p):=λp C=>⟨ax.o p C,(C.cell (Nr _ _ b0)).trans b0,(C.cell (Nr _ _ b1)).trans b1,(C.cell (Nr _ _ b2)).trans b2,(C.cell (Nr _ _ b3)).trans b3⟩;clear b0 b1 b2 b3 o5;refine aI 11 λK n=>?_;rw [Oa (by rfl)];apply aY.o;refine aN (f:=117) bo.o ?_ (λe w6 aO=>?_)
   ·clear n;go_simp
   obtain ⟨u,rfl,an,a2,l2,c2,ks,rfl,be,aL⟩:=aO;refine ⟨_,rfl,?_⟩;refine n.o _ _ (λ_=>aw.o w6 an) ?_;clear n K;try walk_nrm
   refine aI 12 λK n=>?_;go_simp;refine n.o _ _ (λ_=>aw.o w6 an) ?_;clear n K;try walk_nrm
   obtain ⟨w7,aR⟩:=EX (w6.alloc (.cells #[UV x.ak,UV x.aD,UV x.aT,.slice a2 l2 c2] 62));have H:=bp w6 #[UV x.ak,UV x.aD,UV x.aT,.slice a2 l2 c2] 62;rw [aR]at H;have aF:BW w6 w7:=aR▸ag _ _;have U:Below P.drew.heap.size P.drew w7:=aa an aF;refine aI 13 λK n=>?_;go_simp;refine n.o _ _ (λ_=>aw.o w7 U) ?_;clear n K;try walk_nrm
   have W:BW wr w7:=aa au.o ((Nx _ _).drew.trans U);have ah:w7.ownsRow 0 62 4 (.slice oa O.length oc) O.length (cX O):=bm D.o.o.cK (aj.aF W) (λg e s=>OI _ (NL (dj D.o.o.cK g e) s));have q7:=ax.o w7 U;have f7:w7.frozen? (AD F 2)=false:=NA ((W.block F D.o.o.Bb).trans D.o.o.dp) 2;have aM:¬(Value.slice oa O.length oc).ownBlock=some F:=λe=>D.o.o.nY F e rfl;refine aI 14 λK n=>?_;rw [Oa (by rfl)];apply aY.o;refine j6 (.tmp 28) (.tmp 40) rfl (.slice oa O.length oc) O.length (cX O) rfl ah (AD w6.heap.size 0) 1 [UV x.ak,UV x.aD,UV x.aT,.slice a2 l2 c2] rfl rfl (λj u hj=>?_) (by simp [Value.oneCell']) a6 (λa8 c8 w8 bf ao bj=>?_)
   ·rw [O4,Od];exact (H j u (by simpa using hj)).1
   have q8:=ao.aq q7 aM;have f8:=(N7 (ao.block F (Nr _ _ q7) aM)).trans f7;have HN:=Nq (D.o.step (x:=x) (y:=(⟨x.ak,x.aD,x.aT,ks⟩,(a2,l2,c2))) (by rw [ab.o];exact HX.o) ⟨rfl,rfl,rfl,aL⟩ W ((D.o.row aB.o (au.o.trans ((Nx _ _).drew.mono au.o.size)) be (N5 aL.bC (HA.o.tl x br.o))).aA (aj.aF aF) (λk s=>.inr s) (λk s=>.inl s)) bf ao bj rfl);refine n.o _ _ (λe=>nomatch e) ?_;clear n K an be aL aR H aF U W ah q7 f7 aM bf ao bj;try walk_nrm
   refine aI 15 λK n=>?_;go_simp;refine n.o _ _ (λe=>nomatch e) ?_;clear n K;try walk_nrm
   refine aI 16 λK n=>?_;go_simp;refine n.o _ _ (λe=>nomatch e) ?_;clear n K;try walk_nrm
   refine ay (by kernel_rfl) ?_;go_wp2;go_roundw;exact ⟨i+1,_,_,by go_num,by rw [NH,ab.o];rfl,HN⟩;simp [intOf];omega
  ·obtain rfl:i=L:=by have:=D.o.cO;have:=Z.o;omega
   have o0:wr.cell? (AD F 0)=some (IV A.sets):=CH D.o.o.dp;have o1:wr.cell? (AD F 1)=some (.slice xa xm xc):=CH D.o.o.dp;have o2:wr.cell? (AD F 2)=some (.slice oa O.length oc):=CH D.o.o.dp;have E:wr.heap[q+1]? =some (.cells #[IV 0,SN,SN] 36 (0,0)):=(D.o.aM.block _ aB.o).trans ((B.o.block _ (by have:=a5.o;omega)).trans bn.o);have c0:wr.cell? (AD (q+1) 0)=some (IV 0):=CH E;have c1:wr.cell? (AD (q+1) 1)=some (SN):=CH E;have c2:wr.cell? (AD (q+1) 2)=some (SN):=CH E;have z0:wr.frozen? (AD (q+1) 0)=false:=NA E 0;have z1:wr.frozen? (AD (q+1) 1)=false:=NA E 1;have z2:wr.frozen? (AD (q+1) 2)=false:=NA E 2;have ab:=Nq am;clear E am bd;go_wp2;(try simp only [Exit.inBlock,Exit.then]);obtain ⟨w9,aS⟩:=EX (((wr.setCell (AD (q+1) 0) (IV A.sets)).setCell (AD (q+1) 1) (.slice xa xm xc)).setCell (AD (q+1) 2) (.slice oa O.length oc));rw [aS];obtain ⟨d0,d1,d2,bb⟩:=bQ c0 c1 c2 w9 aS.symm;clear aS c0 c1 c2 z0 z1 z2 o0 o1 o2;refine OS (v:=.agg #[IV A.sets,.slice xa xm xc,.slice oa O.length oc]) ?_ rfl ⟨?_,?_⟩
   ·rw [cP rfl];go_simp
   ·have hB:=aa bk.o (aa B.o D.o.aM);exact hB.trans (bb.af hB.size (λk hk e=>by have:=HQ.o;omega))
   ·have bv:¬gN F (.slice oa O.length oc) (q+1):=λs=>by have:=D.o.bL _ s;have:=aB.o;omega
    have bx:=D.o.o.aA bb (λk e s=>bv (e▸s)) (λk e=>.inl e);obtain ⟨p1,p2⟩:=FP (N:=O.map Prod.fst) HA.o HG.o D.o.nW (by rw [NU,ab.o,Z.o]) (λj x y hx hy=>by rw [Oh]at hy;obtain ⟨z,hz,rfl⟩:=Ph.1 hy;exact D.o.Ba j x z hx hz)
    exact ⟨_,_,_,rfl,bx.B6,p2,HG.o,p1,zR (N:=O.map Prod.fst) D.o.nW (by rw [NU,ab.o,Z.o]) (λj x y hx hy=>by rw [Oh]at hy;obtain ⟨z,hz,rfl⟩:=Ph.1 hy;exact D.o.Ba j x z hx hz)⟩
end
section
open Go.RowKit Go.Maps
def CR(w:WD)(a b c:Int)(t:bu):CL 118 #[.agg #[UV a,UV b,UV c,jP t]] w λe E=>e=RT (.agg #[UV a,UV b,UV c])/\BW w E:=by
 obtain ⟨q,m⟩:=EX w.heap.size;obtain ⟨n,p,o⟩:=t;obtain ⟨d,h⟩:=EX ((w.alloc (.cells #[UV a,UV b,UV c,.slice n p o] 62)).alloc (.cells #[UV 0,UV 0,UV 0] 164));have l:BW w d:=h▸aa (ag _ _) (ag _ _);have D:d.heap.size=q+1+1:=by rw [<-h,NG,NG,m]
 have g:d.heap[q]? =some (.cells #[UV a,UV b,UV c,.slice n p o] 62 (0,0)):=by rw [<-h,<-m,(ND _ _).2 _ (by rw [NG];omega)];exact (ND w _).1
 have f:d.heap[q+1]? =some (.cells #[UV 0,UV 0,UV 0] 164 (0,0)):=by rw [<-h,<-m,<-NG w (.cells #[UV a,UV b,UV c,.slice n p o] 62)];exact (ND _ _).1
 have A:d.cell? (AD q 0)=some (UV a):=CH g;have B:d.cell? (AD q 1)=some (UV b):=CH g;have C:d.cell? (AD q 2)=some (UV c):=CH g;have u:d.cell? (AD (q+1) 0)=some (UV 0):=CH f;have x:d.cell? (AD (q+1) 1)=some (UV 0):=CH f;have y:d.cell? (AD (q+1) 2)=some (UV 0):=CH f;have F:d.frozen? (AD (q+1) 0)=false:=NA f 0;have G:d.frozen? (AD (q+1) 1)=false:=NA f 1;have H:d.frozen? (AD (q+1) 2)=false:=NA f 2;have j:=Nq l;have z:=Nq m;clear l g f D;show CL 118 #[.agg #[UV a,UV b,UV c,.slice n p o]] w _;go_enter Tryz.func118,Tryz.ntmps118;go_wp2;(try simp only [Exit.inBlock,Exit.then]);obtain ⟨s,i⟩:=EX (((d.setCell (AD (q+1) 0) (UV a)).setCell (AD (q+1) 1) (UV b)).setCell (AD (q+1) 2) (UV c));rw [i];obtain ⟨I,J,K,r⟩:=bQ u x y s i.symm;clear i u x y F G H A B C;refine OS (v:=.agg #[UV a,UV b,UV c]) ?_ rfl ⟨rfl,?_⟩;rw [cP rfl];go_simp;exact j.o.trans (r.af j.o.size (λk L e=>by have:=z.o;omega))
structure yV (w wr:WD) (a:Nat) (aW:Nat->Nat) (l:List Nat) (k:Nat) (v:Value) (b:List Nat) (g:Value->Option Value):Prop where
 ym:aE .i64 3 w wr v (aH b)
 map:cE Tryz.prog 3 wr a k g
 cK:w.heap.size<=a
 sep:v.ownBlock≠some a
 MZ:∀j:Nat,g (IV j)=if j∈b then some (.bool true)else none
 gG:∀j∈b,∃q∈l,aW q=j
 all:∀q∈l.take k,aW q∈b
 mh:b.Sublist ((l.take k).map aW)
def yV.bC{w wr:WD}{a:Nat}{b:Nat->Nat}{l:List Nat}{k:Nat}{v:Value}{c:List Nat}{g:Value->Option Value}(h:yV w wr a b l k v c g):c.length<=k:=by have:=h.mh.length_le;rw [NU,Pd]at this;omega
def pA{a:Nat->Nat}{l:List Nat}{k q:Nat}(b:l[k]? =some q):(l.take (k+1)).map a=(l.take k).map a++[a q]:=by rw [OG,b,Oy];rfl
def yV.put{w wr i B:WD}{d:Nat}{a:Nat->Nat}{l:List Nat}{k:Nat}{v:Value}{c:List Nat}{g:Value->Option Value}(h:yV w wr d a l k v c g){q:Nat}(z:l[k]? =some q)(M:a q∉c)(H:cE Tryz.prog 3 i d (k+1) (qK g (IV (a q:Int)) (some (.bool true))))(s:aj (λb=>b=d) wr i)
 {m C:Nat} (J:Sl B 3 (SV m (c.length+1) C) (c.length+1) ((aH c).map (Value.int .i64)++[IV (a q:Int)])) (n:aj (λb=>v.ownBlock=some b) i B) (o:v.ownBlock=some m\/i.heap.size<=m):
 yV w B d a l (k+1) (SV m (c.length+1) C) (c++[a q]) (qK g (IV (a q:Int)) (some (.bool true))):=by
 obtain ⟨E,D,F⟩:=h.ym
 have r:BW w i:=D.trans (s.af D.size (λb L e=>by have:=h.cK;omega))
 have I:=h.map.lt
 have x:(aH c).length=c.length:=aC c
 have t:aE .i64 3 w i v (aH c):=⟨E.aA s (λb e p=>h.sep (p▸e)),r,F⟩
 have u:=dA t x J n o
 have y:m≠d:=λe=>by rcases o with f|f;exact h.sep (e▸f);have:=s.size;omega
 refine ⟨by simpa [aH]using u,H.aA n (λe=>h.sep e),h.cK,λe=>y (OJ e),λj=>?_,λj G=>?_,λK A=>?_,by rw [pA z];exact h.mh.append (RW _)⟩
 by_cases e:j=a q
 subst e
 rw [eZ,Oa (OO _ (Nv.2 rfl))]
 rw [cT _ _ _ _ (λp=>e (by have:=(P7 p).2;omega)),h.MZ j]
 have:j∈c++[a q]↔j∈c:=by simp [e]
 simp only [this]
 rcases NY.1 G with f|f
 exact h.gG j f
 rw [Nv.1 f];exact ⟨q,NI z,rfl⟩
 rcases pO z A with f|rfl
 exact Oo _ (h.all K f)
 exact OO _ (Nv.2 rfl)
def GB(w:WD)(b:Nat->Nat)(l:List Nat)(e:Ending)(f:WD):Prop:=
 ∃a m c d,e=RT (.slice a m c)/\aE .i64 3 w f (.slice a m c) (aH d)/\d.Sublist (l.map b)/\(∀j∈d,∃q∈l,b q=j)/\∀q∈l,b q∈d
def Cf(w:WD)(la:OA)(A lc:Nat)(l:List Nat)(T mb n:Nat)(f:Value->Option Value)(d:Nat->Nat)(Z:aG .i64 w la A (aH l))(ak:A<=16777216)(hg:CA w T 0 (.map (some mb)))(hm:cE Tryz.prog 3 w mb n f)
 (hf:∀q∈l,f (IV q)=some (IV (d q:Int))) (t:∀q∈l,q<=1000000/\d q<=1000000):
 CL 119 #[.slice la A lc,PT T] w (GB w d l):=by
 obtain ⟨Q,I⟩:=EX (w.alloc (.map #[] 0))
 have V:BW w Q:=I▸ag _ _
 obtain ⟨s,aa⟩:=EX w.heap.size
 have ac:=@RY Tryz.prog
 have D:Hid (l.length=A):=by have:=Z.1;rwa [aC]at this
 have U:yV w Q s d l 0 (SN) [] (λ_=>none):=by rw [<-I,<-aa];exact ⟨⟨Ox _ _ _ _,ag _ _,λg e=>(by cases e)⟩,cE.aK Tryz.prog 3 w,Nz _,λe=>(by cases e),λj=>rfl,λj hj=>(by cases hj),λq t=>(by cases t),S7 _⟩
 have H0:=Nq U
 have HL:=Nq Z
 have HG:=Nq hg
 have HM:=Nq hm
 have HF:=Nq hf
 have HQ:=Nq t
 obtain ⟨i3,Y,af,ae,W⟩:=Ol Tryz.ed
 clear U Z hg hm hf t V
 go_enter Tryz.func119,Tryz.ntmps119
 go_upto_region 3 with(fail)
 clear ac I
 go_wp2
 go_loopw [4,12] (λv x wr=>∃(k:Nat)(a:OA)(m c:Nat)(o:List Nat)(g:Value->Option Value),k<=A/\x=IV k/\v=.slice a m c/\Hid (yV w wr s d l k (.slice a m c) o g)) (λ_ x _=>A-(intOf x).toNat)
 exact ⟨0,none,0,0,[],_,NS _,rfl,rfl,H0⟩
 clear H0
 obtain ⟨k,a,m,c,o,g,hk,rfl,rfl,i⟩:=hrel
 have ab:o.length=m:=by have:=eV i.o.ym;rwa [aC]at this
 subst ab
 by_cases H:k<A
 ·have ah:(k:Int)<(A:Int):=by omega
  obtain ⟨q,t⟩:∃q,l[k]? =some q:=⟨_,Ny (by rw [D.o];exact H)⟩;have u:BW w wr:=aZ i.o.ym;obtain ⟨-,U|⟨lb,lo,rfl,F⟩⟩:=HL.o.af u
  ·omega
  have ck:CA wr lb (lo+k) (IV q):=by have:=F k H;rw [cH (by rw [D.o];exact H),Nw,t]at this;exact this
  have z:=NI t;obtain ⟨al,ad⟩:=HQ.o q z;have cg:CA wr T 0 (.map (some mb)):=(u.cell (Nr w _ HG.o)).trans HG.o;have y:=(HM.o.af u).look lW Pc (oh wr) (iG (n:=q) (by omega));rw [HF.o q z]at y;simp only [OU]at y;have p:=i.o.map.look lW Tryz.underlying166 (K6 wr) (iG (n:=d q) (by omega));rw [i.o.MZ]at p;have ai:=i.o.bC;by_cases r:d q∈o
  ·rw [Oa r]at p;simp only [OU]at p
   have HN:Hid (yV w wr s d l (k+1) (.slice a o.length c) o g):=⟨i.o.ym,i.o.map.mono (Nat.le_succ k),i.o.cK,i.o.sep,i.o.MZ,i.o.gG,λq' h=>(pO t h).elim (i.o.all q') (λe=>e▸r),by rw [pA t];exact i.o.mh.trans (QB _ _)⟩;generalize d q=nq at y p;clear F t u z r i;go_wp2;go_roundw;exact ⟨k+1,_,_,_,o,g,by omega,by go_num,rfl,HN⟩;simp [intOf];omega
  ·rw [Of r]at p;simp only [Rw]at p
   obtain ⟨w3,P,M,G⟩:=i.o.map.put lW Tryz.underlying166 (by unfold maxLen;omega) (iG (n:=d q) (by omega)) (.bool true);have HO:Hid (Sl w3 3 (.slice a o.length c) o.length ((aH o).map (Value.int .i64))):=by have h:=(i.o.ym.1.aA G (λb e e2=>i.o.sep (e2▸e)));rwa [aC]at h
   have B:Hid (∀(E K:Nat)(J:WD),Sl J 3 (SV E (o.length+1) K) (o.length+1) ((aH o).map (Value.int .i64)++[IV (d q:Int)])->aj (λk=>(Value.slice a o.length c).ownBlock=some k) w3 J->((Value.slice a o.length c).ownBlock=some E\/w3.heap.size<=E)->
    ∃S,yV w J s d l (k+1) (SV E (o.length+1) K) (o++[d q]) S):=λE K J h1 h2 h3=>⟨_,i.o.put t r M G h1 h2 h3⟩
   obtain ⟨nq,O⟩:=EX (d q);rw [O]at y p P B ad;clear F t u z r i M G O;go_wp2_with (first
    |(at_builtin;refine ax rfl (.tmp 25) (.tmp 27) 33 rfl 3 i3 (IV 0) 8 OE Y af ae W rfl (by decide) _ _ _ rfl HO.o _ rfl rfl (by omega) ?_;intro E K J hs L N;have HE:=Nq (B.o E K J hs L N);clear hs L N))
   go_roundw;case rel=>obtain ⟨S,X⟩:=HE.o;exact ⟨k+1,_,_,_,_,S,by omega,by go_num,rfl,Nq X⟩
   case measure=>simp [intOf];omega
 ·obtain rfl:k=A:=by omega
  have R:Hid (GB w d l (RT (.slice a o.length c)) wr):=by have C:=i.o.all;rw [Oe (by rw [D.o];exact Nz _)]at C;exact ⟨_,_,_,o,rfl,i.o.ym,i.o.mh.trans ((List.take_sublist _ _).map _),i.o.gG,C⟩
  clear i;go_wp2;go_ret;exact R.o
end
end Go.Proofs.YtimniinkpipnmaaGreatDoor
