/- A part of the proof of TopWitness. -/
import Derived.Test.YtimniinkpipnmaaGreatDoorV6
import Derived.Shelf.RegionOpen
import Derived.OwnWalkIn
import Derived.LoopNIn
import Derived.LoopIn
set_option maxRecDepth 100000
set_option maxHeartbeats 8000000
set_option linter.all false
namespace Go.Proofs.YtimniinkpipnmaaGreatDoor.Scc
open Go.RowKit Go.Own Go.Proofs.Tryz
def Sz:=@Nat.not_lt_zero
def Tryz.kM:(prog.info? 4).map (λi=>(i.zero,i.size,i.bytes))=some (some (.bool false),1,1):=ZK
def K0(a b c d e f h g n):prog.built 172 [(0,SL a h g),(1,SL b n n),(2,SL c n n),(3,SL d n n),(6,SL e n n),(7,SL f n n)]=
 some #[SL a h g,SL b n n,SL c n n,SL d n n,SN,SN,SL e n n,SL f n n,IV 0]:=ZK
def St.aM:St:=⟨λ_=>0,λ_=>0,λ_=>0,λ_=>0,λ_=>false,[],[],0⟩
def jh(n):fU n (λ_=>0)=List.replicate n (IV 0):=by refine Rl (by simp [fU]) λi a b=>?_;simp [fU]
def eR(n):bB n (λ_=>false)=List.replicate n (.bool false):=by refine Rl (by simp [bB]) λi a b=>?_;simp [bB]
def fE.aM(E):fE E (λ_=>False) St.aM where
 inv:={
  mem:=λv a=>ZC a
  inn:=λv _=>⟨λh=>(ZC h),λh=>(ZC h)⟩
  sorted:=List.Pairwise.nil
  sub:=List.Sublist.slnil
  cS:=λv _=>Pf _
  nj:=List.Pairwise.nil
  LQ:=λv a=>ZC a
  bZ:=λv y _ h=>by have b:=h.2;rw [show St.aM.next v=0 from rfl,Ri]at b;cases b
  bG:=λv a=>ZC a
  done:=λv _ h=>absurd rfl h
  full:=λv _ h=>absurd rfl h
  next:=λv _=>Pz _
  fresh:=λv _ _=>rfl}
 cS:=by
  show 0+rC E.length St.aM=E.length;unfold rC;rw [PU];have:(List.range E.length).countP (λv=>decide (St.aM.aW v=0))=(List.range E.length).length:=by rw [List.countP_eq_length];intro v _;rfl
  rw [this,List.length_range]
 bA:=Pf _
 bZ:=λv h=>h.elim
def mL(E:List (List Int)):List Int:=(List.range E.length).map λi=>((o9 E i i i:Nat):Int)
def fE.aQ{E Z s}(h:fE E Z s)(hw:s.cQ=[])(a:∀v,v<E.length->s.aW v≠0):fU E.length s.part=(mL E).map (Value.int .i64):=by unfold fU mL;rw [List.map_map];refine List.map_congr_left λi d=>?_;have b:=P5.1 d;have c:=(h.inv.done i b (a i b) (by rw [h.inv.empty hw];exact λh=>ZC h)).1;show IV (s.part i:Int)=IV _;rw [c.unique (p7 E i)]
def MF(E:List (List Int))(w:WD)(e:Ending)(b:WD):Prop:=∃a c,e=RT (SL a E.length c)/\aF .i64 3 w b (SL a E.length c) (mL E)
def FK(w a:WD)(g:Nat)(c:Value)(n:Nat)(E:List (List Int))(i:Nat):Prop:=
 ∃s F,rK a g c n s F/\(∀b,F b->w.heap.size<=b)/\BW w a/\fE E (λv=>v<i) s/\s.cQ=[]
def Hh(E):(mL E).length=E.length:=by simp [mL]
def FK.end{w i g l E}(h:FK w i g l E.length E E.length):
 ∃a c,i.cell? (AD g 7)=some (SL a E.length c)/\aF .i64 3 w i (SL a E.length c) (mL E):=by
 obtain ⟨s,F,⟨C,X,d⟩,m,n,j,o⟩:=h
 have k:=j.aQ o (λv q=>j.bZ v q)
 have⟨a,c,e,_⟩:=d.str.val 7 ⟨ZD,ZD⟩
 have r:(X 7).length=E.length:=by rw [d.part,cZ]
 have f:=d.str.cO 7 ⟨ZD,ZD⟩
 rw [r]at e f
 rw [e,d.part,k]at f
 refine ⟨a,c,by rw [d.str.cell 7 ZD,e],⟨by rw [Hh];exact f,n,λb p=>m b (d.eK b (.inr ⟨7,⟨ZD,ZD⟩,ZR e p⟩))⟩⟩
def JQ{P w o a K Q}(t b)(c:o.op=Op.build t b)(f)
 (h:(b.map λ(i,x)=>(i,a.eval x)).toList=f) (d) (e:P.built t f=some d) (g:K (a.put o.dst (.agg d)) w):aY P o a w K Q:=by
 subst h
 constructor
 refine wp_build t b c ?_ ?_
 rw [e];rfl
 rw [e];exact g
def LN(P t a w):(Instr.box t (.agg a)).run P w=.ok (PT w.heap.size) (w.alloc (CE a t)):=rfl
def Ng{P w o a K Q}(t x)(b:o.op=Op.box t x)(c)
 (e:a.eval x=.agg c) (d:K (a.put o.dst (PT w.heap.size)) (w.alloc (CE c t))):aY P o a w K Q:=by
 constructor
 unfold Oper.wp
 simp only [execOp,b,e,LN,Rv,Q9]
 exact d
abbrev MJ(n:Nat)(a:WD)(V:Nat->Value)(w:WD):Prop:=
 vY [3,5,7,9,11] (λi=>i+9) (λi=>if i=9 then 4 else 3) (λi=>if i=9 then .bool false else IV 0) n a #[true,true,true,true,true,true,true,true,true,true,true,true,false,false,false] V w
def bO(f:Value)(n a b c d e:Nat):Array Value:=#[f,SV a n n,SV b n n,SV c n n,SN,SN,SV d n n,SV e n n,IV 0]
def CS(a n g b c d e f):prog.built 172 [(0,SL a n g),(1,SV b n n),(2,SV c n n),(3,SV d n n),(6,SV e n n),(7,SV f n n)]=some (bO (SL a n g) n b c d e f):=K0 _ _ _ _ _ _ _ _ _
def jX(n:Nat)(k:Nat):List Value:=if k=6 then List.replicate n (.bool false)else if k=4\/k=5 then []else List.replicate n (IV 0)
def wF{w b c}(a:BW w b)(h:aj (λ_=>False) b c):BW w c:=
 a.trans (h.ag a.size (λ_ _ h=>h.elim))
def G4{w O o ev n E V c d f g l}(N:BW w O)(a:MJ n O V o)
 (P:V 12=SV c n n) (Q:V 14=SV d n n) (R:V 16=SV f n n) (S:V 18=SV g n n) (T:V 20=SV l n n):
 FK w (o.alloc (CE (bO ev n c d f g l) 172)) o.heap.size ev n E 0:=by
 have s:=a.dI 3 ZS ZD
 have t:=a.dI 5 ZS ZD
 have u:=a.dI 7 ZS ZD
 have x:=a.dI 9 ZS ZD
 have y:=a.dI 11 ZS ZD
 have A:=a.apart 3 ZS 5 ZS ZD ZD ZD
 have B:=a.apart 3 ZS 7 ZS ZD ZD ZD
 have C:=a.apart 3 ZS 9 ZS ZD ZD ZD
 have D:=a.apart 3 ZS 11 ZS ZD ZD ZD
 have F:=a.apart 5 ZS 7 ZS ZD ZD ZD
 have G:=a.apart 5 ZS 9 ZS ZD ZD ZD
 have H:=a.apart 5 ZS 11 ZS ZD ZD ZD
 have I:=a.apart 7 ZS 9 ZS ZD ZD ZD
 have J:=a.apart 7 ZS 11 ZS ZD ZD ZD
 have K:=a.apart 9 ZS 11 ZS ZD ZD ZD
 simp only [Nat.reduceAdd,Nat.reduceEqDiff,if_true,if_false,P,Q,R,S,T,Value.ownBlock,ne_eq,Ru]at s t u x y A B C D F G H I J K
 obtain ⟨s,_,W,l1⟩:=s
 obtain ⟨t,_,X,l2⟩:=t
 obtain ⟨u,_,Y,l3⟩:=u
 obtain ⟨x,_,Z,l6⟩:=x
 obtain ⟨y,_,q7,l7⟩:=y
 cases W;cases X;cases Y;cases Z;cases q7
 have t1:=s.lt c rfl
 have t2:=t.lt d rfl
 have t3:=u.lt f rfl
 have t6:=x.lt g rfl
 have t7:=y.lt l rfl
 have q:BW w o:=wF N a.ax
 have m:∀k,Ip k->k=1\/k=2\/k=3\/k=4\/k=5\/k=6\/k=7:=λk ⟨z,M⟩=>ZO
 have p:Rec 9 Ip Nr (o.alloc (CE (bO ev n c d f g l) 172)) o.heap.size (λk=>(bO ev n c d f g l).getD k undef) (jX n):={
  cell:=λk r=>by rw [RA _ 172 o.heap.size k rfl];have:k<(bO ev n c d f g l).size:=r;simp [this]
  lC:=λk=>World.frozen?_alloc_at _ 172 o.heap.size k rfl
  dY:=λk h=>ZH h.2
  cO:=λk r=>by obtain rfl|rfl|rfl|rfl|rfl|rfl|rfl:=m k r;have:=s.alloc (CE (bO ev n c d f g l) 172);simpa [jX,bO,Nr]using this;have:=t.alloc (CE (bO ev n c d f g l) 172);simpa [jX,bO,Nr]using this;have:=u.alloc (CE (bO ev n c d f g l) 172);simpa [jX,bO,Nr]using this;exact Qd _ _ _ _;exact Qd _ _ _ _;have:=x.alloc (CE (bO ev n c d f g l) 172);simpa [jX,bO,Nr]using this;have:=y.alloc (CE (bO ev n c d f g l) 172);simpa [jX,bO,Nr]using this
  apart:=λi j b L U z M=>by
   rcases m i L with rfl|rfl|rfl|rfl|rfl|rfl|rfl<;>rcases m j U with rfl|rfl|rfl|rfl|rfl|rfl|rfl<;>
    simp [bO,Value.ownBlock]at z M<;>first|rfl|omega
  off:=λi L z=>by rcases m i L with rfl|rfl|rfl|rfl|rfl|rfl|rfl<;>simp [bO,Value.ownBlock]at z<;>omega
  cH:=by decide}
 refine ⟨St.aM,eW Ip o.heap.size (λk=>(bO ev n c d f g l).getD k undef),⟨_,_,{
  str:=p,fm:=rfl,cS:=rfl
  aW:=(jh n).symm,bG:=(jh n).symm,next:=(jh n).symm,aR:=rfl,cQ:=rfl,inn:=(eR n).symm,part:=(jh n).symm
  eK:=λ_ h=>h,lt:=p.jO}⟩,?_,q.alloc q.size _,(fE.aM E).mono (λv h=>absurd h (Sz v)),rfl⟩
 rintro b (rfl|⟨k,r,e⟩)
 exact q.size
 have:=N.size
 rcases m k r with rfl|rfl|rfl|rfl|rfl|rfl|rfl<;>simp [bO,Value.ownBlock]at e<;>omega
def FK.OH{w b g n d E}(e:E.length=n)(h:FK w b g d n E n):
 ∃a c,CA b g 7 (SL a n c)/\aF .i64 3 w b (SL a n c) (mL E):=by
 subst e;exact h.end
def FK.rd{w d g j n E i}(h:FK w d g j n E i)(q:i<n):
 ∃b c m,d.cell? (AD g 1)=some (SV b n c)/\d.cell? (AD b i)=some (IV ((m:Nat):Int))/\
  (m≠0->FK w d g j n E (i+1))/\(m=0->∃s F,rK d g j n s F/\(∀b,F b->w.heap.size<=b)/\BW w d/\fE E (λv=>v<i) s/\s.cQ=[]/\s.aW i=0):=by
 obtain ⟨s,F,⟨C,X,a⟩,l,o,f,p⟩:=h
 have⟨b,c,e,r,_⟩:=a.arr 1 ⟨ZD,ZD⟩ (by rw [a.aW,cZ]) ZO
 refine ⟨b,c,s.aW i,by rw [a.str.cell 1 ZD,e],?_,λk=>?_,λk=>?_⟩
 rw [(r i q).1,a.aW,en _ _ _ q]
 exact ⟨s,F,⟨C,X,a⟩,l,o,⟨f.inv,f.cS,f.bA,λv t=>by by_cases e:v=i;rw [e];exact k;exact f.bZ v ZO⟩,p⟩
 exact ⟨s,F,⟨C,X,a⟩,l,o,f,p,k⟩
def FK.call{w d g c n f E i}(t:E.length=n)(u:fe w c E)(y:n<=1000000)(a:∀i,i<E.length->(E.getD i []).length<=1000000000)(x:i<n)
 (h:∃s F,rK d g (SL c n f) n s F/\(∀b,F b->w.heap.size<=b)/\BW w d/\fE E (λv=>v<i) s/\s.cQ=[]/\s.aW i=0):
 Calls prog 126 #[PT g,IV i] d λe j=>e=RT (.tuple #[])/\Hid (FK w j g (SL c n f) n E (i+1)):=by
 obtain ⟨s,F,l,m,o,p,q,r⟩:=h
 refine (KF w d g c n f E s F _ t u y a l m o p q i x r).mono ?_
 rintro e j ⟨rfl,G,k,z,A,B,C,D⟩
 exact ⟨rfl,G,k,z,A,B,C.mono (λv H=>ZO),D⟩
def D8(vi vl q n r E w)(hE:E.length=n)(he:fe w q E)(hn:n<=1000000)(J:∀i,i<E.length->(E.getD i []).length<=1000000000):
 Calls prog 88 #[.agg #[vi,SL q n r,vl]] w (MF E w):=by
 subst hE
 have⟨i3,C,F,D,A⟩:=UZ Tryz.eA
 have⟨i4,ao,ar,ap,an⟩:=UZ Tryz.kM
 have ah:=P1 he
 have al:=P1 J
 have HN:=P1 hn
 have HB:Hid (∀W,W=w.alloc (CE #[vi,SL q E.length r,vl] 55)->Below w.heap.size w W):=by rintro W rfl;exact (Pn _ w).alloc (Pf _) _
 have aa:Hid (∀W,W=w.alloc (CE #[vi,SL q E.length r,vl] 55)->CA W w.heap.size 1 (SL q E.length r)):=by rintro W rfl;exact RA (w:=w) _ 55 w.heap.size 1 rfl
 have y:Hid (E.length<=maxLen):=by have:=hn;show _<=_;unfold maxLen;omega
 clear he J
 have ai:Hid (∃n,n=E.length):=⟨_,rfl⟩
 generalize af:E.length=n at *
 have u:=P1 af
 clear af ai
 go_enter func88,ntmps88
 go_upto_region 2 with(fail)
 have U:=aa.o _ rfl
 have ag:=P1 (HB.o _ rfl)
 clear HB aa
 generalize w.alloc (CE #[vi,SL q n r,vl] 55)=w1 at *
 (try unfold BW at *);generalize ac:w.heap.size=gb at *
 have ak:=P1 ac
 clear ac
 have ab:=P1 U
 refine aw 14 (S:=λf=>CA f gb 1 (SL q n r)) ZK (U) (λx=>?_)
 refine aB 0 ?_
 refine aB 1 ?_
 refine aB 2 ?_
 refine aB 4 ?_
 refine aB 6 ?_
 refine aB 8 ?_
 refine aB 10 ?_
 refine mH [3,5,7,9,11] (λi=>i+9) #[true,true,true,true,true,true,true,true,true,true,true,true,false,false,false] 3
  (λl V w=>l.size=15/\vY [3,5,7,9,11] (λi=>i+9) (λi=>if i=9 then 4 else 3) (λi=>if i=9 then .bool false else IV 0) n w1 l V w) ZK ZK rfl ?c1 ?c2 ?c3 ?c4
 case c1=>
  refine ⟨ZK,(aj.refl _ w1).drew,λj hj hl=>?_,λj hj k hk ax hl _=>?_⟩
  ·exfalso;simp only [PO,T7,or_false]at hj
   rcases hj with rfl|rfl|rfl|rfl|rfl<;>exact absurd hl ZD
  ·exfalso;simp only [PO,T7,or_false]at hj
   rcases hj with rfl|rfl|rfl|rfl|rfl<;>exact absurd hl ZD
 case c2=>rintro l V w ⟨_,s⟩;exact s.ax.aq ab.o (λh=>h)
 case c3=>
  rintro l V w i o hl av hi z Z ⟨d,s⟩ K t;clear x U;simp only [PO,T7,or_false]at hi;obtain rfl|rfl|rfl|rfl|rfl:=hi
  ·simp only [Rd,QU,Q6,Ru]at z;subst z
   refine kR (.tmp 11) (.tmp 11) 33 rfl 3 i3 (IV 0) SP C F D rfl n ((dK _ _ _ _ ZD).trans rfl) ((dK _ _ _ _ ZD).trans rfl) ?_ y.o (λf G H=>?_)
   ·rw [A];omega
   ·have p:=s.step (w':=f) 3 ZS ZD (by rw [d];decide) G H;exact t _ f ⟨by rw [QJ];exact d,p⟩
  ·simp only [Rd,QU,Q6,Ru]at z;subst z
   refine kR (.tmp 13) (.tmp 13) 33 rfl 3 i3 (IV 0) SP C F D rfl n ((dK _ _ _ _ ZD).trans rfl) ((dK _ _ _ _ ZD).trans rfl) ?_ y.o (λf G H=>?_)
   ·rw [A];omega
   ·have p:=s.step (w':=f) 5 ZS ZD (by rw [d];decide) G H;exact t _ f ⟨by rw [QJ];exact d,p⟩
  ·simp only [Rd,QU,Q6,Ru]at z;subst z
   refine kR (.tmp 15) (.tmp 15) 33 rfl 3 i3 (IV 0) SP C F D rfl n ((dK _ _ _ _ ZD).trans rfl) ((dK _ _ _ _ ZD).trans rfl) ?_ y.o (λf G H=>?_)
   ·rw [A];omega
   ·have p:=s.step (w':=f) 7 ZS ZD (by rw [d];decide) G H;exact t _ f ⟨by rw [QJ];exact d,p⟩
  ·simp only [Rd,QU,Q6,Ru]at z;subst z
   refine kR (.tmp 17) (.tmp 17) 67 rfl 4 i4 (.bool false) underlying67 ao ar ap rfl n ((dK _ _ _ _ ZD).trans rfl) ((dK _ _ _ _ ZD).trans rfl) ?_ y.o (λf G H=>?_)
   ·rw [an];omega
   ·have p:=s.step (w':=f) 9 ZS ZD (by rw [d];decide) G H;exact t _ f ⟨by rw [QJ];exact d,p⟩
  ·simp only [Rd,QU,Q6,Ru]at z;subst z
   refine kR (.tmp 19) (.tmp 19) 33 rfl 3 i3 (IV 0) SP C F D rfl n ((dK _ _ _ _ ZD).trans rfl) ((dK _ _ _ _ ZD).trans rfl) ?_ y.o (λf G H=>?_)
   ·rw [A];omega
   ·have p:=s.step (w':=f) 11 ZS ZD (by rw [d];decide) G H;exact t _ f ⟨by rw [QJ];exact d,p⟩
 case c4=>
  rintro V L ⟨_,s⟩;clear x U;change dz _ _ _ _ _ _ _ _ (aN _ [12,14,16,18,20] V) L;simp only [aN,Act.put,SK,TG,TF];obtain ⟨-,N,e1,-⟩:=s.dI 3 ZS ZD;obtain ⟨-,O,e2,-⟩:=s.dI 5 ZS ZD;obtain ⟨-,P,e3,-⟩:=s.dI 7 ZS ZD;obtain ⟨-,R,e6,-⟩:=s.dI 9 ZS ZD;obtain ⟨-,T,e7,-⟩:=s.dI 11 ZS ZD;replace e1:V 12=SV N n n:=e1;replace e2:V 14=SV O n n:=e2;replace e3:V 16=SV P n n:=e3;replace e6:V 18=SV R n n:=e6;replace e7:V 20=SV T n n:=e7;have HR:=P1 (G4 (ev:=SL q n r) (E:=E) (ZR ak.o ag.o) s e1 e2 e3 e6 e7);have B:CA L gb 1 (SL q n r):=s.ax.aq ab.o (λh=>h);rw [e1,e2,e3,e6,e7];clear s e1 e2 e3 e6 e7 V;refine aK 12 λK t=>?_;rw [PW (by rfl)];apply aY.o;refine JQ (Q:=_) 172 #[(0,.tmp 10),(1,.tmp 12),(2,.tmp 14),(3,.tmp 16),(6,.tmp 18),(7,.tmp 20)] rfl [(0,SL q n r),(1,SV N n n),(2,SV O n n),(3,SV P n n),(6,SV R n n),(7,SV T n n)]
   (by simp [Act.eval]) (bO (SL q n r) n N O P R T) (CS q n r N O P R T) ?_
  refine t.o _ _ (λ_=>B) ?_;clear t K;try walk_nrm
  refine aK 13 λK t=>?_;rw [PW (by rfl)];apply aY.o;refine Ng 172 (.tmp 21) rfl (bO (SL q n r) n N O P R T) rfl ?_;have I:Hid (∀W,W=L.alloc (CE (bO (SL q n r) n N O P R T) 172)->CA W gb 1 (SL q n r)):=by rintro W rfl;exact (((Pn L.heap.size L).alloc (Pf _) _).cell (O9 L _ B)).trans B
  generalize aq:bO (SL q n r) n N O P R T=sc at *;clear aq;have X:=I.o _ rfl;refine t.o _ _ (λ_=>X) ?_;clear t K B I;generalize L.alloc (CE sc 172)=w2 at *;(try unfold BW at *);generalize L.heap.size=g at *;try walk_nrm
  refine aK 14 λK t=>?_;go_simp;refine t.o _ _ (λ_=>X) ?_;clear t K;try walk_nrm
  refine az ZK ?_;go_wp2_with fail;go_loopw [26] (λv wr=>∃k:Nat,k<=n/\v=IV k/\Hid (FK w wr g (SL q n r) n E k)) (λv _=>n-(intOf v).toNat);exact ⟨0,Pz _,rfl,HR⟩;clear HR X;obtain ⟨k,hk,rfl,Z⟩:=hrel;by_cases ad:k<n
  ·have⟨b,c,m,U,c2,hs,hz⟩:=Z.o.rd ad;have au:(k:Int)<n:=ZO
   by_cases Y:m=0
   ·subst Y;have HC:=P1 (FK.call u.o ah.o HN.o (λi h=>al.o i (ZR u.o.symm h)) ad (hz rfl))
    have am:CA wr b k (IV 0):=c2;clear hs hz Z c2;go_wp2_with (go_at_call 126;apply HC.o.mono;rintro e w3 ⟨rfl,M⟩;clear HC U am);go_roundw;exact ⟨k+1,ZO,ZN,M⟩;simp [intOf];omega
   ·have M:=P1 (hs Y);have ay:((m:Int)==0)=false:=by simp [Y]
    have aA:(m==0)=false:=Q3.2 Y;clear hs hz Z;go_wp2;go_roundw;exact ⟨k+1,ZO,ZN,M⟩;simp [intOf];omega
  ·obtain rfl:k=n:=ZO;have⟨a,c,c7,Y⟩:=FK.OH u.o Z.o
   have HM:=P1 Y;clear Y Z;go_wp2;go_ret;exact ⟨a,c,(by rw [u.o];rfl),ZR u.o HM.o⟩
end Go.Proofs.YtimniinkpipnmaaGreatDoor.Scc
namespace Go.Own
open Go.RowKit
section
def Uf:=@List.map_append
def Ug:=@List.range_succ
def Uj:=@Nat.not_lt_zero
def Uq:=@List.mem_range
structure gM (B:Nat) (w:WD) (v:Value) (V:Nat->Value) (R K n:Nat) (M:Nat->Nat->Bool):Prop where
 dW:Sl w 34 v R ((List.range R).map V)
 row:∀i,i<K->Sl w 4 (V i) n (bB n (M i))
 apart:∀i j b,i<K->j<K->(V i).ownBlock=some b->(V j).ownBlock=some b->i=j
 off:∀i b,i<K->(V i).ownBlock=some b->v.ownBlock≠some b
 dJ:∀b,v.ownBlock=some b->B<=b
 lM:∀i b,i<K->(V i).ownBlock=some b->B<=b
section
variable {B:Nat} {w w1:WD} {v:Value} {V:Nat->Value} {R K n:Nat} {M M':Nat->Nat->Bool}
def gM.aM(B w V n M):gM B w (SN) V 0 0 n M:=
 ⟨Qd _ _ _ _,λi h=>absurd h (Uj i),λi _ _ h=>absurd h (Uj i),λi _ h=>absurd h (Uj i),λb h=>(by cases h),λi _ h=>absurd h (Uj i)⟩
def fR{n f g}(h:∀j,j<n->f j=g j):bB n f=bB n g:=by unfold bB;exact List.map_congr_left λj a=>by rw [h j (Uq.1 a)]
def gM.congr(h:gM B w v V R K n M)(b:∀i,i<K->∀j,j<n->M i j=M' i j):gM B w v V R K n M':=
 {h with row:=λi a=>by rw [<-fR (b i a)];exact h.row i a}
def gM.ax{S}(h:gM B w v V R K n M)(c:aj S w w1)(d:∀b,v.ownBlock=some b->¬S b)(f:∀i b,i<K->(V i).ownBlock=some b->¬S b):gM B w1 v V R K n M:=
 {h with dW:=Sl.ax h.dW c d,row:=λi a=>Sl.ax (h.row i a) c (λb e=>f i b a e)}
def gM.ag(h:gM B w v V R K n M)(a:BW w w1):gM B w1 v V R K n M:=
 h.ax (aj.aC a) (λb e s=>ZH (h.dW.lt b e)) (λi b c e s=>ZH ((h.row i c).lt b e))
def gM.snoc(h:gM B w v V R (R+1) n M){f}(l:Sl w1 34 f (R+1) ((List.range R).map V++[V R]))(j:aj (λk=>v.ownBlock=some k) w w1)(g:∀b,f.ownBlock=some b->v.ownBlock=some b\/w.heap.size<=b)(m:B<=w.heap.size):
 gM B w1 f V (R+1) (R+1) n M where
 dW:=by rw [Ug,Uf];exact l
 row i c:=Sl.ax (h.row i c) j (λb e d=>h.off i b c e d)
 apart:=h.apart
 off i b c e d:=by obtain a|a:=g b d;exact h.off i b c e a;have:=(h.row i c).lt b e;omega
 dJ b e:=by obtain a|a:=g b e;exact h.dJ b a;omega
 lM:=h.lM
def gM.set(h:gM B w v V R K n M){b c i j}(q:i<K)(g:V i=SV b n c)(s:j<n)(x):
 gM B (w.setCell (AD b j) (.bool x)) v V R K n (up M i (up (M i) j x)):=by
 have o:(V i).ownBlock=some b:=by rw [g];rfl
 have a:aj (λd=>d=b) w (w.setCell (AD b j) (.bool x)):=(aj.refl (λd=>d=b) w).setCell (p:=(AD b j)) (λ_=>rfl) _
 refine {dW:=Sl.ax h.dW a (λd e f=>h.off i b q o (by rw [e,f])),row:=λk l=>?_,apart:=h.apart,off:=h.off,dJ:=h.dJ,lM:=h.lM}
 by_cases e:k=i
 subst e
 rw [aA]
 have m:=h.row k l
 rw [g]at m
 have:=(RU m j (.bool x)).1
 rw [kH _ _ _ _ s]at this
 rw [g];exact this
 rw [an _ _ _ _ e]
 exact Sl.ax (h.row k l) a (λd r f=>e (h.apart k i d l q r (by rw [o,f])))
def gM.xX{a f}(h:gM B w v V R K n M)(d:Below a f w)(e:a<=B){b c i j}(k:i<K)(g:V i=SV b n c)(x):Below a f (w.setCell (AD b j) x):=
 d.setCell (PG e (h.lM i b k (by rw [g];rfl))) _
def gM.val(h:gM B w v V R K n M)(i)(m:i<K)(o:0<n):
 ∃b c,V i=SV b n c/\∀j,j<n->CA w b j (.bool (M i j))/\FZ w b j:=by
 have d:=h.row i m
 have⟨a,c,e,f⟩:=d.shape
 obtain ⟨b,rfl,_,_⟩:=f 0 o
 refine ⟨b,c,e,λj g=>?_⟩
 have⟨p,k,_,l⟩:=f j g
 cases k
 rw [e]at d
 exact ⟨l.trans (eQ _ _ _ g),Ro (size:=1) d j⟩
def gM.at(h:gM B w v V R K n M)(i)(l:i<R):∃g c,v=SV g R c/\∀k,k<R->w.cell? (AD g k)=some (V k):=by
 have⟨a,c,e,b⟩:=h.dW.shape;obtain ⟨g,rfl,_,_⟩:=b i l;refine ⟨g,c,e,λk d=>?_⟩;have⟨m,f,_,j⟩:=b k d;cases f
 rw [j];simp [d]
end
end
section
def SH:=@List.getD_eq_getElem?_getD
def UF:=@List.filter_append
def U2:=@List.nodup_range
structure PS (w2 w:WD) (aV v:Value) (V:Nat->Value) (n R:Nat) (A:Nat->Nat) (X:Nat->List Int):Prop where
 dW:Sl w 33 v R ((List.range R).map V)
 row:∀i,i<R->Sl w 3 (V i) (X i).length ((X i).map (Value.int .i64))
 apart:∀i j b,i<R->j<R->(V i).ownBlock=some b->(V j).ownBlock=some b->i=j
 off:∀i b,i<R->(V i).ownBlock=some b->v.ownBlock≠some b
 dJ:∀b,v.ownBlock=some b->w2.heap.size<=b
 lM:∀i b,i<R->(V i).ownBlock=some b->w2.heap.size<=b
 arr:Sl w 3 aV n (fU n A)
 IQ:∀b,aV.ownBlock=some b->v.ownBlock≠some b
 zf:∀i b,i<R->aV.ownBlock=some b->(V i).ownBlock≠some b
 IP:∀b,aV.ownBlock=some b->w2.heap.size<=b
 aJ:BW w2 w
section
variable {w2 w w1:WD} {aV v:Value} {V:Nat->Value} {n R:Nat} {A:Nat->Nat} {X X':Nat->List Int}
def PS.congr(h:PS w2 w aV v V n R A X)(b:∀i,i<R->X i=X' i):PS w2 w aV v V n R A X':=
 {h with row:=λi a=>by rw [<-b i a];exact h.row i a}
def PS.drew(h:PS w2 w aV v V n R A X):PS w2 w.drew aV v V n R A X:=
 {h with dW:=h.dW,row:=h.row,arr:=h.arr,aJ:=h.aJ.drew}
def PS.snoc(h:PS w2 w aV v V n R A X){g o}(B:Sl w1 33 (SV g (R+1) o) (R+1) ((List.range R).map V++[SN]))(t:aj (λk=>v.ownBlock=some k) w w1)
 (f:v.ownBlock=some g\/w.heap.size<=g):PS w2 w1 aV (SV g (R+1) o) (up V R (SN)) n (R+1) A (up X R []):=by
 have r:∀i,i<R->up V R (SN) i=V i:=λi d=>an _ _ _ _ ZO
 have x:∀i,i<R->up X R [] i=X i:=λi d=>an _ _ _ _ ZO
 have s:∀b,(SV g (R+1) o).ownBlock=some b->b=g:=λb e=>by cases e;rfl
 have m:up V R (SN) R=SN:=aA _ _ _
 have a:∀i b,i<R+1->(up V R (SN) i).ownBlock=some b->i<R/\(V i).ownBlock=some b:=λi b d e=>by by_cases q:i=R;subst q;rw [m]at e;cases e;rw [r i ZO]at e;exact ⟨ZO,e⟩
 refine ⟨?_,λi d=>?_,λi j b d y p c=>?_,λi b d e c=>?_,λb e=>?_,λi b d e=>?_,Sl.ax h.arr t (λb e c=>h.IQ b e c),λb e c=>?_,λi b d e c=>?_,h.IP,h.aJ.trans (t.ag h.aJ.size (λk z e=>ZH (h.dJ k e)))⟩
 rw [Ug,Uf]
 have:(List.range R).map (up V R (SN))=(List.range R).map V:=List.map_congr_left λi d=>r i (Uq.1 d)
 rw [this]
 simpa [m]using B
 by_cases q:i=R
 subst q;rw [m,aA];exact Qd _ _ _ _
 rw [r i ZO,x i ZO]
 exact Sl.ax (h.row i ZO) t (λb e c=>h.off i b ZO e c)
 have⟨l,p⟩:=a i b d p
 have⟨u,c⟩:=a j b y c
 exact h.apart i j b l u p c
 have⟨l,e⟩:=a i b d e
 obtain rfl:=s b c
 obtain f|f:=f
 exact h.off i _ l e f
 have:=(h.row i l).lt _ e;omega
 obtain rfl:=s b e
 obtain f|f:=f
 exact h.dJ _ f
 have:=h.aJ.size;omega
 have⟨l,e⟩:=a i b d e
 exact h.lM i b l e
 obtain rfl:=s b c
 obtain f|f:=f
 exact h.IQ _ e f
 have:=h.arr.lt _ e;omega
 have⟨l,c⟩:=a i b d c
 exact h.zf i b l e c
def PS.dT(h:PS w2 w aV v V n R A X){i}(t:i<R){x u}(K:Sl w1 3 u ((X i).length+1) ((X i).map (Value.int .i64)++[IV x]))(B:aj (λk=>(V i).ownBlock=some k) w w1)(y:dQ w (V i) u)
 {g c} (G:v=SV g R c):PS w2 (w1.setCell (AD g i) u) aV v (up V i u) n R A (up X i (X i++[x])):=by
 have m:v.ownBlock=some g:=by rw [G];rfl
 have F:∀b,u.ownBlock=some b->(V i).ownBlock=some b\/w.heap.size<=b:=λb e=>by obtain y|⟨L,C,y⟩:=y;rw [y]at e;exact .inl e;rw [C]at e;cases e;exact .inr y
 have E:u.ownBlock≠some g:=λe=>by obtain l|l:=F g e;exact h.off i g t l m;have:=h.dW.lt g m;omega
 have r:aj (λk=>k=g) w1 (w1.setCell (AD g i) u):=(aj.refl (λk=>k=g) w1).setCell (p:=(AD g i)) (λ_=>rfl) u
 have z:Sl w1 33 v R ((List.range R).map V):=Sl.ax h.dW B (λb e d=>h.off i b t d e)
 have a:∀j b,j<R->(up V i u j).ownBlock=some b->((V j).ownBlock=some b)\/(j=i/\w.heap.size<=b):=λj b f e=>by by_cases q:j=i;subst q;rw [aA]at e;exact (F b e).imp id (λh=>⟨rfl,h⟩);rw [an _ _ _ _ q]at e;exact .inl e
 refine ⟨?_,λj f=>?_,λj k b f o H d=>?_,λj b f e d=>?_,h.dJ,λj b f e=>?_,?_,h.IQ,λj b f e d=>?_,h.IP,?_⟩
 rw [G]at z⊢
 have:=(RU z i u).1
 have e:((List.range R).map V).set i u=(List.range R).map (up V i u):=by refine Rl ZS λj l s=>?_;simp only [T5,Tp,S6,up];by_cases e:i=j;subst e;simp;rw [QN e,QN (λC=>e C.symm)]
 rw [e]at this
 exact this
 by_cases q:j=i
 subst q
 rw [aA,aA,List.length_append,Uf]
 exact Sl.ax K r (λb e d=>E (by rw [e,d]))
 rw [an _ _ _ _ q,an _ _ _ _ q]
 exact Sl.ax (Sl.ax (h.row j f) B (λb e d=>q (h.apart j i b f t e d))) r (λb e d=>h.off j b f e (by rw [m,d]))
 obtain l|⟨l,I⟩:=a j b f H
 obtain s|⟨s,D⟩:=a k b o d
 exact h.apart j k b f o l s
 have:=(h.row j f).lt b l;omega
 obtain s|⟨s,D⟩:=a k b o d
 have:=(h.row k o).lt b s;omega
 omega
 obtain l|⟨_,l⟩:=a j b f e
 exact h.off j b f l d
 have:=h.dW.lt b d;omega
 obtain l|⟨_,l⟩:=a j b f e
 exact h.lM j b f l
 have:=h.aJ.size;omega
 exact Sl.ax (Sl.ax h.arr B (λb e d=>h.zf i b t e d)) r (λb e d=>h.IQ b e (by rw [m,d]))
 obtain l|⟨_,l⟩:=a j b f d
 exact h.zf j b f e l
 have:=h.arr.lt b e;omega
 exact (h.aJ.trans (B.ag h.aJ.size (λk J e=>ZH (h.lM i k t e)))).setCell (h.dJ g m) _
def PS.Nl(h:PS w2 w aV v V n R A X){b c j}(l:aV=SV b n c)(o:j<n)(x:Nat):PS w2 (w.setCell (AD b j) (IV x)) aV v V n R (up A j x) X:=by
 have g:aV.ownBlock=some b:=by rw [l];rfl
 have a:aj (λd=>d=b) w (w.setCell (AD b j) (IV x)):=(aj.refl (λd=>d=b) w).setCell (p:=(AD b j)) (λ_=>rfl) _;refine {h with dW:=Sl.ax h.dW a (λd e f=>h.IQ b g (by rw [<-f];exact e)),row:=λi m=>Sl.ax (h.row i m) a (λd e f=>h.zf i b m g (by rw [<-f];exact e)),arr:=?_,aJ:=h.aJ.setCell (h.IP b g) _};have k:=h.arr;rw [l]at k⊢;have:=(RU k j (IV x)).1;rw [kd _ _ _ _ o]at this;exact this
def PS.zh(h:PS w2 w aV v V n R A X)(l:0<n):∃b c,aV=SV b n c/\∀j,j<n->CA w b j (IV ((A j:Nat):Int))/\FZ w b j:=by
 have d:=h.arr;have⟨a,c,e,f⟩:=d.shape;obtain ⟨b,rfl,_,_⟩:=f 0 l;refine ⟨b,c,e,λj g=>?_⟩;have⟨m,i,_,k⟩:=f j g;cases i
 rw [e]at d;exact ⟨k.trans (en _ _ _ g),Ro (size:=1) d j⟩
def PS.at(h:PS w2 w aV v V n R A X)(l:0<R):∃g c,v=SV g R c/\∀k,k<R->w.cell? (AD g k)=some (V k)/\w.frozen? (AD g k)=false:=by
 have b:=h.dW;have⟨a,c,e,d⟩:=b.shape;obtain ⟨g,rfl,_,_⟩:=d 0 l;refine ⟨g,c,e,λk f=>?_⟩;have⟨m,i,_,j⟩:=d k f;cases i
 rw [e]at b;exact ⟨by rw [j];simp [f],Ro (size:=1) b k⟩
end
def ee(f:Nat->Nat)(k:Nat):List Nat:=(List.range k).filter λv=>decide (f v=v)
def dS(f:Nat->Nat)(k:Nat):Nat:=(ee f k).length
def Im(f:Nat->Nat)(k u:Nat):List Int:=((List.range k).filter λv=>decide (f v=u)).map λ(v:Nat)=>(v:Int)
def dH(f:Nat->Nat)(k i:Nat):List Int:=Im f k ((ee f k).getD i 0)
def mr(f k):ee f (k+1)=ee f k++(if f k=k then [k]else []):=by unfold ee;rw [Ug,UF];by_cases h:f k=k<;>simp [h]
def pY(f k u):Im f (k+1) u=Im f k u++(if f k=u then [(k:Int)]else []):=by unfold Im;rw [Ug,UF,Uf];by_cases h:f k=u<;>simp [h]
def lA(f k):dS f (k+1)=dS f k+(if f k=k then 1 else 0):=by unfold dS;rw [mr,List.length_append];by_cases h:f k=k<;>simp [h]
def Ax(f):∀k,dS f k<=k
 |0=>Pf _
 |k+1=>by rw [lA];have:=Ax f k;split<;>omega
def lI{f u}(b:f u=u):∀k,u<k->dS f u<dS f k/\(ee f k).getD (dS f u) 0=u
 |0,h=>ZO
 |k+1,h=>by by_cases e:u=k;subst e;rw [lA,QZ b,mr,QZ b];refine ⟨ZO,?_⟩;simp [dS,List.getD];have⟨c,d⟩:=lI b k ZO;refine ⟨by rw [lA];omega,?_⟩;rw [mr];have a:dS f u<(ee f k).length:=c;rw [SH,List.getElem?_append_left a,<-SH];exact d
def GM{f k i}(c:i<dS f k):f ((ee f k).getD i 0)=(ee f k).getD i 0/\(ee f k).getD i 0<k:=by
 have a:i<(ee f k).length:=c;have e:(ee f k).getD i 0=(ee f k)[i]:=by simp [List.getD,a]
 have b:(ee f k)[i]∈ee f k:=List.getElem_mem a;rw [e];unfold ee at b⊢;rw [List.mem_filter]at b;exact ⟨of_decide_eq_true b.2,Uq.1 b.1⟩
def qV{f k i}(b:i<dS f k):(ee f (k+1)).getD i 0=(ee f k).getD i 0:=by have a:i<(ee f k).length:=b;rw [mr,SH,List.getElem?_append_left a,<-SH]
def GL{f k i u}(m:f u=u)(c:u<k)(l:i<dS f k)(e:(ee f k).getD i 0=u):i=dS f u:=by
 have d:=lI m k c;have b:(ee f k).Nodup:=List.Pairwise.filter _ U2;have a:i<(ee f k).length:=l;have g:dS f u<(ee f k).length:=d.1;have h:(ee f k).getD i 0=(ee f k)[i]:=by simp [List.getD,a]
 have j:(ee f k).getD (dS f u) 0=(ee f k)[dS f u]:=by simp [List.getD,g]
 exact (List.getElem_inj (h₀:=a) (h₁:=g) b).1 (by rw [<-h,<-j,e,d.2])
def B7{f k}(c:f (f k)=f k)(a:f k<k)(i)(b:i<dS f k):
 up (dH f k) (dS f (f k)) (dH f k (dS f (f k))++[(k:Int)]) i=dH f (k+1) i:=by
 have g:f k≠k:=ZO
 by_cases e:i=dS f (f k)
 subst e
 rw [aA]
 unfold dH
 rw [qV b,(lI c k a).2,pY,QZ rfl]
 rw [an _ _ _ _ e]
 unfold dH
 rw [qV b,pY,QN (λd=>e (GL c a b d.symm)),Qb]
def DL{f}(b:∀v,f v<=v){k}(c:f k=k)(i)(j:i<dS f k+1):
 up (up (dH f k) (dS f k) []) (dS f k) ((up (dH f k) (dS f k) []) (dS f k)++[(k:Int)]) i=dH f (k+1) i:=by
 have d:=lI c (k+1) (Nat.lt_succ_self k)
 by_cases e:i=dS f k
 subst e
 rw [aA,aA]
 unfold dH
 rw [d.2,pY,QZ c]
 have:Im f k k=[]:=by unfold Im;rw [List.map_eq_nil_iff,List.filter_eq_nil_iff];intro v g h;have:=b v;have:=of_decide_eq_true h;have:=Uq.1 g;omega
 rw [this]
 rw [an _ _ _ _ e,an _ _ _ _ e]
 have a:i<dS f k:=ZO
 unfold dH
 rw [qV a,pY,QN,Qb]
 have:=(GM a).2
 omega
end
end Go.Own
namespace Go.Proofs.YtimniinkpipnmaaGreatDoor.Scc
open Go.RowKit Go.Own Go.Proofs.Tryz
def Kb{E i}(a:i<E.length):(mL E).getD i 0=((o9 E i i i:Nat):Int):=by simp [mL,List.getD,a]
def cD(E:List (List Int))(v:Nat):Nat:=o9 E v v v
def iM(E v):oF E v (cD E v):=p7 E v
def AQ(E v):cD E v<=v:=(iM E v).2 v (Scc.refl E v)
def zD(E v):cD E (cD E v)=cD E v:=by have h:=iM E v;exact (iM E (cD E v)).unique ⟨Scc.refl E _,λu a=>h.2 u (h.1.trans a)⟩
def JW{g w f c v V n R A X}(h:PS g w c v V n R A X)(a:BW w f):PS g f c v V n R A X:=
 {h with dW:=Sl.ax h.dW (aj.aC a) (λb e s=>ZH (h.dW.lt b e)),row:=λi d=>Sl.ax (h.row i d) (aj.aC a) (λb e s=>ZH ((h.row i d).lt b e)),arr:=Sl.ax h.arr (aj.aC a) (λb e s=>ZH (h.arr.lt b e)),aJ:=h.aJ.trans (a.mono h.aJ.size)}
def _root_.Go.Own.PS.ag{c w b:WD}{a v:Value}{V:Nat->Value}{n R:Nat}{A:Nat->Nat}{X:Nat->List Int}(h:PS c w a v V n R A X)(d:BW w b):PS c b a v V n R A X:=JW h d
def LJ{c f w d v V n R A X}(h:PS f w d v V n R A X)(a:BW c f):PS c w d v V n R A X:=
 {h with dJ:=λb e=>PG a.size (h.dJ b e),lM:=λi b g e=>PG a.size (h.lM i b g e),IP:=λb e=>PG a.size (h.IP b e),aJ:=a.trans (h.aJ.mono a.size)}
def JX{c d n V X}(g:d.ownsRow 0 3 1 (SV c.heap.size n n) n (madeCells (IV 0).cells (n*1)).toList)(a:c.grownBy d none):
 PS c d (SV c.heap.size n n) (SN) V n 0 (λ_=>0) X:=by
 have f:aj (λ_=>False) c d:=⟨a.os,a.tape,a.output,a.size,λk f _=>a.block k f ZS⟩
 rw [bM (IV 0) rfl]at g
 exact ⟨Qd _ _ _ _,λi h=>absurd h (Sz i),λi _ _ h=>absurd h (Sz i),λi _ h=>absurd h (Sz i),λb h=>(ZC h),λi _ h=>absurd h (Sz i),
  by rw [jh];exact g,λb _ e=>(ZC e),λi _ h=>absurd h (Sz i),λb e=>by cases e;exact Pf _,f.ag (Pf _) (λ_ _ h=>h)⟩
def Nj{f w b v V n R A X}(h:PS f w b v V n R A X)(r)(d:r<R):∃a c,V r=.slice a (X r).length c:=by have⟨a,c,e,_⟩:=(h.row r d).shape;exact ⟨a,c,e⟩
def zO{v A}{a d q n R u r k lr p:Nat}{o m l f}(h:PS v A (SV a n n) (SV d R q) m n R l f)(s:r<R)(I:u<n)(F:l u=r)
 (w:m r=SL o lr p) (B:(f r).length=lr):A.cell? (AD a u)=some (IV r)/\A.cell? (AD d r)=some (SL o lr p)/\
  Hid (∀W,PS v W (SV a n n) (SV d R q) m n R l f->Sl W 3 (SL o lr p) lr ((f r).map (Value.int .i64)))/\
  Hid (∀W i,PS v W (SV a n n) (SV d R q) m n R l f->aj (λk=>(SL o lr p).ownBlock=some k) W i->i.frozen? (AD d r)=false)/\
  Hid (∀W i t,PS v W (SV a n n) (SV d R q) m n R l f->Sl i 3 t (lr+1) ((f r).map (Value.int .i64)++[IV k])->aj (λk=>(SL o lr p).ownBlock=some k) W i->dQ W (SL o lr p) t->
   PS v (i.setCell (AD d r) t) (SV a n n) (SV d R q) (up m r t) n R l (up f r (f r++[(k:Int)]))):=by
 have⟨b,c,e,G⟩:=h.zh ZO
 cases e
 have⟨g,J,e,y⟩:=h.at ZO
 cases e
 refine ⟨by rw [(G u I).1,F],by rw [(y r s).1,w],λW j=>?_,λW i j x=>?_,λW i t j D x C=>?_⟩
 have:=j.row r s
 rwa [w,B]at this
 have⟨K,E,e,z⟩:=j.at ZO
 cases e
 have H:d<W.heap.size:=j.dW.lt d rfl
 exact (PK (x.block d H (λe=>j.off r d s (ZR w e) rfl))).trans (z r s).2
 rw [<-w]at x C
 rw [<-B]at D
 exact j.dT s D x C rfl
def Tryz.MU:(prog.info? 33).map (λi=>(i.zero,i.size,i.bytes))=some (some (SN),1,24):=ZK
def y5(E:List (List Int))(n:Nat)(w:WD)(e:Ending)(d:WD):Prop:=
 ∃a c b V A,e=RT (SL a (dS (cD E) n) c)/\PS w d b (SL a (dS (cD E) n) c) V n (dS (cD E) n) A (dH (cD E) n)
def Ld(f k u):(Im f k u).length<=k:=by unfold Im;rw [PB];exact PG (List.length_filter_le _ _) ZS
def lP(vi vl ae n ce E w)(hE:E.length=n)(he:fe w ae E)(hn:n<=1000000)(Q:∀i,i<E.length->(E.getD i []).length<=1000000000):
 Calls prog 58 #[.agg #[vi,SL ae n ce,vl]] w (y5 E n w):=by
 have⟨i3,ac,ah,ag,aa⟩:=UZ Tryz.eA
 have⟨aZ,aD,aM,aL,ay⟩:=UZ Tryz.MU
 have HE:=P1 hE
 have HN:=P1 hn
 have HB:Hid (∀W,W=w.alloc (CE #[vi,SL ae n ce,vl] 55)->Below w.heap.size w W):=by rintro W rfl;exact (Pn _ w).alloc (Pf _) _
 have J:=P1 (HB.o _ rfl)
 have ak:Hid (Calls prog 88 #[.agg #[vi,SL ae n ce,vl]] (w.alloc (CE #[vi,SL ae n ce,vl] 55)) λe w'=>∃a c,e=RT (SL a n c)/\aF .i64 3 (w.alloc (CE #[vi,SL ae n ce,vl] 55)) w' (SL a n c) (mL E)):=by have h:=D8 vi vl ae n ce E _ hE (he.ag J.o) hn Q;subst hE;exact h
 clear HB he Q hE
 go_enter func58,ntmps58
 go_wp2_with (first|(go_at_call 88;refine ak.o.mono ?_;rintro e w2 ⟨al,cl,rfl,hM⟩;have HM:=P1 hM;clear hM)|(at_make;refine wpList_make_full _ rfl _ _ 33 rfl 0 3 i3 (IV 0) 1 SP ac ah ag _ _ _ _ n rfl rfl rfl rfl (by rw [aa];omega) (by unfold maxLen;omega) (Pz _) ?_;intro w3 hs hg;have am:=P1 (JX (V:=λ_=>undef) (X:=dH (cD E) 0) hs hg);clear hs hg))
 have aj:Hid (∀W aV v V R A X,PS w2 W aV v V n R A X->PS w W aV v V n R A X):=λW aV v V R A X h=>LJ h (J.o.trans ((aX HM.o).mono J.o.size))
 have HL:Hid (aG .i64 w2 al n (mL E)):=cT HM.o
 clear HM ak J
 (try unfold BW at *);generalize w2.heap.size=y at *
 go_loopw [5,15] (λv x wr=>∃k:Nat,k<=n/\x=IV k/\∃V A,Hid (PS w2 wr (SV y n n) v V n (dS (cD E) k) A (dH (cD E) k))/\Hid (∀u,u<k->cD E u=u->A u=dS (cD E) u)) (λ_ x _=>n-(intOf x).toNat)
 exact ⟨0,Pz _,rfl,_,_,am,λu h=>absurd h (Sz u)⟩
 clear am
 obtain ⟨k,hk,rfl,V,A,H,hA⟩:=hrel
 obtain ⟨ap,cp,ev,-⟩:=H.o.dW.shape
 by_cases z:k<n
 have a0:(k:Int)<n:=ZO
 subst ev
 obtain ⟨-,h0|⟨bl,ol,rfl,aC⟩⟩:=HL.o
 omega
 have M:=aC k z
 have ax:(mL E).getD k 0=((cD E k:Nat):Int):=Kb (ZR HE.o z)
 rw [ax]at M
 have ao:=(H.o.aJ.cell (O9 w2 _ M)).trans M
 have aH:=AQ E k
 have a1:=Ax (cD E) k
 clear aC M ax
 by_cases p:cD E k=k
 have aO:=P1 p
 rw [p]at ao
 have R1:Hid (dS (cD E) (k+1)=dS (cD E) k+1):=by show _=_;rw [lA,PW p]
 have⟨ba,ca,ea,ab⟩:=H.o.zh ZO
 cases ea
 have fa:=(ab k z).2
 have aP:=(ab k z).1
 have T:=P1 (H.o.Nl rfl z (dS (cD E) k))
 clear p ab aH
 have aS:dS (cD E) k<=1000000:=ZO
 generalize aJ:dS (cD E) k=r at *
 have Z:=P1 aJ
 clear aJ
 go_upto_region 9 with(fail)
 generalize wr.setCell (AD y k) (IV r)=w3 at *
 go_upto_region 10 with(at_builtin;(refine av rfl (.tmp 28) (.tmp 29) 93 rfl 33 aZ (SN) 24 underlying93 aD aM aL ay rfl ZD _ _ _ rfl T.o.dW _ rfl rfl ZO ?_;intro g4 c4 O hs aE aI;have U:=P1 (T.o.snoc hs aE aI);clear hs aE aI))
 have hr:r<r+1:=Nat.lt_succ_self r
 have aW:(r:Int)<r+1:=ZO
 have P:Hid (up V r (SN) r=SN):=aA _ _ _
 have⟨m,o,F,B,D⟩:=zO (k:=k) U.o hr z (aA _ _ _) P.o (lr:=0) (by rw [aA];rfl)
 have HP:=U
 have L:=P1 (λi (hi:i<r+1)=>DL (AQ E) aO.o i (ZR Z.o hi))
 rw [Z.o]at L
 clear U T H ao fa aP
 generalize up V r (SN)=V4 at *
 generalize aR:up (dH (cD E) k) r []=X4 at *
 clear aR
 generalize aq:up A k r=A4 at *
 have ai:=P1 aq
 clear aq
 refine aw 15 (S:=λw'=>w'.cell? (AD y k)=some (IV r)/\w'.cell? (AD g4 r)=some (SN)) ZK (⟨m,o⟩) (λb=>?_)
 refine aB 0 ?_
 refine aB 1 ?_
 refine aB 2 ?_
 refine aB 3 ?_
 refine aB 4 ?_
 refine aB 5 ?_
 refine aB 6 ?_
 refine aB 7 ?_
 refine aB 8 ?_
 refine aB 9 ?_
 refine aB 10 ?_
 refine aB 11 ?_
 refine aB 12 ?_
 have j:Hid (Below (O).heap.size (O) (((O).alloc (CE #[IV k] 3)).drew)):=((Pn _ _).alloc (Pf _) _).drew
 have c5:((O).alloc (CE #[IV k] 3)).drew.cell? (AD ((O).heap.size) 0)=some (IV k):=RA (w:=(O)) _ 3 (O).heap.size 0 rfl
 have s:=(j.o.cell (O9 _ _ m)).trans m
 have t:=(j.o.cell (O9 _ _ o)).trans o
 refine aK 13 λK f=>?_
 go_simp
 refine f.o _ _ (λ_=>⟨s,t⟩) ?_
 clear f K
 try walk_nrm
 have d:=P1 (HP.o.ag j.o)
 clear b m o HP j
 generalize ((O).alloc (CE #[IV k] 3)).drew=w5 at *
 (try unfold BW at *);generalize (O).heap.size=h5 at *
 refine aK 14 λK f=>?_
 rw [PW (by rfl)]
 apply aY.o
 refine eI (.tmp 42) (.tmp 44) 33 rfl 3 i3 (IV 0) 8 SP ac ah ag aa rfl ZD (SN) 0 _ rfl (F.o _ d.o) (AD h5 0) (IV k) rfl rfl c5 ZO (λv6 w6 q g G=>?_)
 have m:=g.aq s (λe=>d.o.zf r y hr rfl (ZR P.o e))
 have o:=g.aq t (λe=>d.o.off r g4 hr (ZR P.o e) rfl)
 have f6:=B.o _ _ d.o g
 have C:=P1 (D.o _ _ _ d.o q g G)
 obtain ⟨a6,l6,c6,e6⟩:∃a l c,v6=SL a l c:=by obtain ⟨a,c,e,-⟩:=q.shape;exact ⟨a,_,c,e⟩
 clear q G g s t c5 d
 subst e6
 have b:=And.intro m o
 refine f.o _ _ (λ_=>⟨m,o⟩) ?_
 clear f K
 try walk_nrm
 refine aK 15 λK f=>?_
 go_simp
 refine f.q ?_
 clear f K
 refine aK 16 λK f=>?_
 go_simp
 refine f.q ?_
 clear f K
 refine az ZK ?_
 have Y:=P1 (C.o.congr L.o)
 clear b m o f6 C D B F P
 generalize w6.setCell (AD g4 r) (SL a6 l6 c6)=w7 at *
 go_wp2_with fail
 go_roundw
 case rel=>exact ⟨k+1,ZO,ZN,_,A4,by rw [R1.o];exact Y.o,λu hu h=>by by_cases e:u=k;subst e;rw [<-ai.o,aA,Z.o];rw [<-ai.o,an _ _ _ _ e];exact hA.o u ZO h⟩
 case measure=>simp [intOf];omega
 have I:cD E k<k:=ZO
 have N:=zD E k
 have⟨af,aU⟩:=lI N k I
 have au:=hA.o (cD E k) I N
 have R1:Hid (dS (cD E) (k+1)=dS (cD E) k):=by show _=_;rw [lA,Qa p,Nat.add_zero]
 have L:=P1 (λi (hi:i<dS (cD E) k)=>B7 N I i hi)
 have aN:Hid (∀u,u<k+1->cD E u=u->A u=dS (cD E) u):=λu hu h=>by by_cases e:u=k;subst e;exact absurd h p;exact hA.o u ZO h
 obtain ⟨g4,c4,e,-⟩:=H.o.at ZO
 cases e
 have⟨ar,cr,hv⟩:=Nj H.o (dS (cD E) (cD E k)) af
 have aT:(dH (cD E) k (dS (cD E) (cD E k))).length<=k:=Ld _ _ _
 have⟨lr,ad⟩:=EX ((dH (cD E) k (dS (cD E) (cD E k))).length)
 rw [ad]at hv aT
 have⟨m,o,F,B,D⟩:=zO (k:=k) H.o af ZO au hv ad
 have P:=P1 hv
 have HP:=H
 clear hv ad aU hA au N H aH
 have aS:dS (cD E) k<=1000000:=ZO
 generalize dH (cD E) k=X4 at *
 generalize cD E k=u at *
 generalize dS (cD E) u=r at *
 generalize aQ:dS (cD E) k=R at *
 clear aQ
 have hr:=af
 have aW:(r:Int)<R:=ZO
 have a2:(u:Int)<n:=ZO
 have t0:((u:Int)==(k:Int))=false:=Q3.2 ZO
 have t1:(u==k)=false:=Q3.2 p
 go_upto_region 10 with(fail)
 refine aw 15 (S:=λw'=>w'.cell? (AD y u)=some (IV r)/\w'.cell? (AD g4 r)=some (SL ar lr cr)) ZK (⟨m,o⟩) (λb=>?_)
 refine aB 0 ?_
 refine aB 1 ?_
 refine aB 2 ?_
 refine aB 3 ?_
 refine aB 4 ?_
 refine aB 5 ?_
 refine aB 6 ?_
 refine aB 7 ?_
 refine aB 8 ?_
 refine aB 9 ?_
 refine aB 10 ?_
 refine aB 11 ?_
 refine aB 12 ?_
 have j:Hid (Below (wr).heap.size (wr) (((wr).alloc (CE #[IV k] 3)).drew)):=((Pn _ _).alloc (Pf _) _).drew
 have c5:((wr).alloc (CE #[IV k] 3)).drew.cell? (AD ((wr).heap.size) 0)=some (IV k):=RA (w:=(wr)) _ 3 (wr).heap.size 0 rfl
 have s:=(j.o.cell (O9 _ _ m)).trans m
 have t:=(j.o.cell (O9 _ _ o)).trans o
 refine aK 13 λK f=>?_
 go_simp
 refine f.o _ _ (λ_=>⟨s,t⟩) ?_
 clear f K
 try walk_nrm
 have d:=P1 (HP.o.ag j.o)
 clear b m o HP j
 generalize ((wr).alloc (CE #[IV k] 3)).drew=w5 at *
 (try unfold BW at *);generalize (wr).heap.size=h5 at *
 refine aK 14 λK f=>?_
 rw [PW (by rfl)]
 apply aY.o
 refine eI (.tmp 42) (.tmp 44) 33 rfl 3 i3 (IV 0) 8 SP ac ah ag aa rfl ZD (SL ar lr cr) lr _ rfl (F.o _ d.o) (AD h5 0) (IV k) rfl rfl c5 ZO (λv6 w6 q g G=>?_)
 have m:=g.aq s (λe=>d.o.zf r y hr rfl (ZR P.o e))
 have o:=g.aq t (λe=>d.o.off r g4 hr (ZR P.o e) rfl)
 have f6:=B.o _ _ d.o g
 have C:=P1 (D.o _ _ _ d.o q g G)
 obtain ⟨a6,l6,c6,e6⟩:∃a l c,v6=SL a l c:=by obtain ⟨a,c,e,-⟩:=q.shape;exact ⟨a,_,c,e⟩
 clear q G g s t c5 d
 subst e6
 have b:=And.intro m o
 refine f.o _ _ (λ_=>⟨m,o⟩) ?_
 clear f K
 try walk_nrm
 refine aK 15 λK f=>?_
 go_simp
 refine f.q ?_
 clear f K
 refine aK 16 λK f=>?_
 go_simp
 refine f.q ?_
 clear f K
 refine az ZK ?_
 have Y:=P1 (C.o.congr L.o)
 clear b m o f6 C D B F P
 generalize w6.setCell (AD g4 r) (SL a6 l6 c6)=w7 at *
 go_wp2_with fail
 go_roundw
 exact ⟨k+1,ZO,ZN,_,A,by rw [R1.o];exact Y.o,aN⟩
 simp [intOf];omega
 obtain rfl:n=k:=ZO
 subst ev
 go_wp2_with fail
 go_ret
 exact ⟨ap,cp,_,V,A,rfl,aj.o _ _ _ _ _ _ _ H.o⟩
def GP(b a t q w)(h:CA w q 0 (IV t)):
 Calls prog 128 #[.agg #[IV b,IV a],PT q] w λe d=>e=RT (.bool (b==t))/\BW w d:=by
 have c:Hid (∀W,W=w.alloc (CE #[IV b,IV a] 66)->BW w W):=by rintro W rfl;exact (Pn _ w).alloc (Pf _) _
 have f:(w.alloc (CE #[IV b,IV a] 66)).cell? (AD q 0)=some (IV t):=((c.o _ rfl).cell (O9 w _ h)).trans h
 clear h
 go_enter func128,ntmps128
 go_wp2
 go_ret
 exact ⟨rfl,c.o _ rfl⟩
def pO(w:WD)(e:OA)(b:List Int):Prop:=
 ∀j,j<b.length->∃d a,e=some (AD d a)/\w.cell? (AD d (a+j*2))=some (IV (b.getD j 0))/\∃c,w.cell? (AD d (a+j*2+1))=some (IV c)
def pO.ag{w w' e a}(h:pO w e a)(i:BW w w'):pO w' e a:=λj k=>by obtain ⟨b,d,rfl,f,c,g⟩:=h j k;exact ⟨b,d,rfl,(i.cell (O9 w _ f)).trans f,c,(i.cell (O9 w _ g)).trans g⟩
def BN{row:List Int}{k t}(a:k<row.length)(h:row.getD k 0=t):row.contains t=true:=by rw [Rx];refine Rj ?_;rw [<-h,QR,Si a];exact T2 a
def AB{a:List Int}{t}(h:∀j,j<a.length->a.getD j 0≠t):a.contains t=false:=by rw [Rx];refine Q4 λc=>?_;have⟨i,b,e⟩:=List.mem_iff_getElem.1 c;refine h i b ?_;rw [QR,Si b];exact e
def Gx(C m H a t q w)(E:a.length=m)(F:pO w C a)(h:CA w q 0 (IV t))(P:m<=1000000000):
 Calls prog 160 #[SL C m H,.func (.func 128) #[] #[PT q]] w λe K=>(∃z,e=RT (IV z)/\decide (0<=z)=a.contains t)/\BW w K:=by
 have s:=P1 E
 have G:=P1 F
 have B:=P1 h
 clear E F h
 go_enter func160,ntmps160
 go_wp2
 go_loopw [8] (λx wr=>∃k:Nat,k<=m/\x=IV k/\Hid (∀j,j<k->a.getD j 0≠t)/\Hid (BW w wr)) (λx _=>m-(intOf x).toNat)
 exact ⟨0,Pz _,rfl,λj I=>ZO,Pn _ _⟩
 obtain ⟨k,O,rfl,g,f⟩:=hrel
 by_cases l:k<m
 have D:(k:Int)<m:=ZO
 obtain ⟨b,J,rfl,M,y,N⟩:=(G.o.ag f.o) k (ZR s.o l)
 have o:=P1 (GP (a.getD k 0) y t q wr ((f.o.cell (O9 w _ B.o)).trans B.o))
 have p:=P1 (λe=>BN (t:=t) (k:=k) (row:=a) (ZR s.o l) e)
 have u:Hid (a.getD k 0≠t->∀j,j<k+1->a.getD j 0≠t):=λA j I=>by by_cases e:j=k;subst e;exact A;exact g.o j ZO
 generalize a.getD k 0=x at *
 clear g
 by_cases n:x=t
 have r:=P1 (p.o n)
 clear p u
 subst n
 have i:(x==x)=true:=beq_self_eq_true x
 rw [i]at o
 clear i
 go_wp2_with (go_at_call 128;apply o.o.mono;rintro e L ⟨rfl,c⟩;have d:=P1 (f.o.trans (c.mono f.o.size));clear c)
 go_ret
 exact ⟨⟨(k:Int),rfl,by rw [r.o];exact Rj (by omega)⟩,d.o⟩
 have i:(x==t)=false:=Q3.2 n
 rw [i]at o
 have v:=P1 (u.o n)
 clear i n u p
 go_wp2_with (go_at_call 128;apply o.o.mono;rintro e L ⟨rfl,c⟩;have d:=P1 (f.o.trans (c.mono f.o.size));clear c)
 go_roundw
 exact ⟨k+1,ZO,ZN,v,d⟩
 simp [intOf];omega
 obtain rfl:m=k:=ZO
 go_wp2
 go_ret
 exact ⟨⟨-1,rfl,by rw [AB (ZR s.o g.o)];rfl⟩,f.o⟩
def jN(b m c a t q w)(d:a.length=m)(f:pO w b a)(h:CA w q 0 (IV t))(n:m<=1000000000):
 Calls prog 127 #[SL b m c,.func (.func 128) #[] #[PT q]] w λe i=>e=RT (.bool (a.contains t))/\BW w i:=by
 have j:=P1 (Gx b m c a t q w d f h n)
 clear d f h
 go_enter func127,ntmps127
 go_wp2_with (go_at_call 160;apply j.o.mono;rintro e i ⟨⟨z,rfl,g⟩,l⟩;have k:=P1 g;clear g)
 go_ret
 exact ⟨by rw [<-k.o];rfl,l⟩
def ql(E:List (List Int))(v:Nat):Bool:=(E.getD v []).contains (v:Int)
def GQ(g j a n d E v w)(x:E.length=n)(z:fe w a E)(B:v<n)(c:∀i,i<E.length->(E.getD i []).length<=1000000000):
 Calls prog 89 #[.agg #[g,SL a n d,j],IV v] w λe C=>e=RT (.bool (ql E v))/\Below w.heap.size w C:=by
 have J:(v:Int)<n:=ZO
 have k:Hid (∀W,W=(w.alloc (CE #[g,SL a n d,j] 55)).alloc (CE #[IV v] 3)->Below w.heap.size w W):=by rintro W rfl;exact ((Pn _ w).alloc (Pf _) _).alloc ZS _
 have u:Hid (∀W,W=(w.alloc (CE #[g,SL a n d,j] 55)).alloc (CE #[IV v] 3)->W.cell? (AD (w.heap.size+1) 0)=some (IV v)):=by rintro W rfl;exact RA (w:=w.alloc (CE #[g,SL a n d,j] 55)) _ 3 _ 0 ZS
 have t:Hid (∀W,W=(w.alloc (CE #[g,SL a n d,j] 55)).alloc (CE #[IV v] 3)->W.cell? (AD w.heap.size 1)=some (SL a n d)):=by rintro W rfl;rw [World.cell?_alloc_past _ _ _ ZS];exact RA (w:=w) _ 55 w.heap.size 1 rfl
 have l:Hid (∀W,Below w.heap.size w W->fe W a E):=λW h=>z.ag h
 have o:=P1 c
 have s:=P1 x
 clear z c x
 go_enter func89,ntmps89
 go_upto_region 1 with(fail)
 have f:=k.o _ rfl
 have I:=u.o _ rfl
 have N:=t.o _ rfl
 clear k u t
 generalize (w.alloc (CE #[g,SL a n d,j] 55)).alloc (CE #[IV v] 3)=L at *
 (try unfold BW at *);generalize w.heap.size+1=q at *
 obtain ⟨b,K,G,H,rfl,M,A⟩:=(l.o _ f).at v (ZR s.o B)
 have D:=P1 (jN G _ H (E.getD v []) (v:Int) q L rfl A I (o.o v (ZR s.o B)))
 have r:=P1 f
 have F:Hid (ql E v=(E.getD v []).contains (v:Int)):=rfl
 clear A f l o
 generalize (E.getD v []).contains (v:Int)=O at *
 generalize (E.getD v []).length=m at *
 go_wp2_with (go_at_call 127;apply D.o.mono;rintro e C ⟨rfl,y⟩;have p:=P1 y;clear y)
 go_ret
 exact ⟨by rw [F.o];rfl,r.o.trans (p.o.mono r.o.size)⟩
def bL(E:List (List Int))(n:Nat)(a:Int):List Int->Bool
 |[]=>decide (0<=a)&&ql E a.toNat
 |v::r=>if v<0\/(n:Int)<=v\/v=a then bL E n a r else if 0<=a then true else bL E n v r
def AE{E n k a}{b:List Int}(c:k<b.length):bL E n a (b.drop k)=bL E n a (b.getD k 0::b.drop (k+1)):=by rw [List.drop_eq_getElem_cons c,QR,Si c];rfl
def im{E}{n:Nat}{a v r}(h:v<0\/(n:Int)<=v\/v=a):bL E n a (v::r)=bL E n a r:=by
 conv=>lhs;unfold bL
 rw [PW h]
def rO{E}{n:Nat}{a v r}(h:¬(v<0\/(n:Int)<=v\/v=a))(b:0<=a):bL E n a (v::r)=true:=by
 conv=>lhs;unfold bL
 rw [Qa h,PW b]
def nu{E}{n:Nat}{a v r}(h:¬(v<0\/(n:Int)<=v\/v=a))(b:¬0<=a):bL E n a (v::r)=bL E n v r:=by
 conv=>lhs;unfold bL
 rw [Qa h,Qa b]
def DF(B C q n A E K m T d w)(L:E.length=n)(O:fe w q E)(hn:n<=1000000)(p:∀i,i<E.length->(E.getD i []).length<=1000000000)(M:aG .i64 w K m d)(hm:m<=9223372036854775807):
 Calls prog 59 #[.agg #[B,SL q n A,C],SL K m T] w λe Z=>e=RT (.bool (bL E n (-1) d))/\BW w Z:=by
 have HE:=P1 L
 have u:Hid (BW w (w.alloc (CE #[B,SL q n A,C] 55))):=(Pn _ w).alloc (Pf _) _
 have R:=P1 λ(v:Nat)(U:v<n)=>GQ B C q n A E v (w.alloc (CE #[B,SL q n A,C] 55)) L (O.ag u.o) U p
 have S:Hid (aG .i64 (w.alloc (CE #[B,SL q n A,C] 55)) K m d):=M.ag u.o
 have D:Hid (d.length=m):=M.1
 clear O p L M
 go_enter func59,ntmps59
 go_wp2_with fail
 go_loopw [5,10] (λo x wr=>∃(k:Nat)(a:Int),k<=m/\x=IV k/\o=IV a/\-1<=a/\a<n/\Hid (bL E n a (d.drop k)=bL E n (-1) d)/\wr=w.alloc (CE #[B,SL q n A,C] 55)) (λ_ x _=>m-(intOf x).toNat)
 exact ⟨0,-1,Pz _,rfl,rfl,ZO,ZO,rfl,rfl⟩
 obtain ⟨k,a,hk,rfl,rfl,s,t,H,rfl⟩:=hrel
 by_cases G:k<m
 ·have P:(k:Int)<m:=ZO;obtain ⟨-,h0|⟨b,V,rfl,N⟩⟩:=S.o
  ·omega
  have c1:=N k G;have f:Hid (bL E n a (d.getD k 0::d.drop (k+1))=bL E n (-1) d):=(AE (ZR D.o G)).symm.trans H.o;generalize d.getD k 0=z at *;clear N H;by_cases l:z<0
  ·have W:decide (z<0)=true:=Rj l;have h:Hid (bL E n a (d.drop (k+1))=bL E n (-1) d):=(im (.inl l)).symm.trans f.o
   clear f;go_wp2_with fail;go_roundw;exact ⟨k+1,a,ZO,ZN,rfl,s,t,h,UU⟩;simp [intOf];omega
  ·have W:decide (z<0)=false:=Q4 l;by_cases j:(n:Int)<=z
   ·have X:decide ((n:Int)<=z)=true:=Rj j;have h:Hid (bL E n a (d.drop (k+1))=bL E n (-1) d):=(im (.inr (.inl j))).symm.trans f.o
    clear f;go_wp2_with fail;go_roundw;exact ⟨k+1,a,ZO,ZN,rfl,s,t,h,UU⟩;simp [intOf];omega
   ·have X:decide ((n:Int)<=z)=false:=Q4 j;by_cases r:z=a
    ·have Y:(z==a)=true:=Ud.2 r;have h:Hid (bL E n a (d.drop (k+1))=bL E n (-1) d):=(im (.inr (.inr r))).symm.trans f.o
     clear f;go_wp2_with fail;go_roundw;exact ⟨k+1,a,ZO,ZN,rfl,s,t,h,UU⟩;simp [intOf];omega
    ·have Y:(z==a)=false:=Q3.2 r;have g:¬(z<0\/(n:Int)<=z\/z=a):=ZO
     by_cases c:0<=a
     ·have I:decide (0<=a)=true:=Rj c;have h:Hid (bL E n (-1) d=true):=f.o.symm.trans (rO g c)
      clear f g;go_wp2_with fail;go_ret;exact ⟨by rw [h.o];rfl,u.o⟩
     ·have I:decide (0<=a)=false:=Q4 c;have h:Hid (bL E n z (d.drop (k+1))=bL E n (-1) d):=(nu g c).symm.trans f.o
      clear f g;go_wp2_with fail;go_roundw;exact ⟨k+1,z,ZO,ZN,rfl,ZO,ZO,h,UU⟩;simp [intOf];omega
 ·obtain rfl:m=k:=ZO;have f:Hid ((decide (0<=a)&&ql E a.toNat)=bL E n (-1) d):=by have:=H.o;rw [List.drop_of_length_le (by rw [D.o];exact Pf _)]at this;exact this
  clear H;by_cases c:0<=a
  ·obtain ⟨y,rfl⟩:∃y:Nat,a=(y:Int):=⟨a.toNat,ZO⟩;have I:decide (0<=(y:Int))=true:=Rj c
   have Q:=P1 (R.o y ZO);have h:Hid (ql E y=bL E n (-1) d):=by have:=f.o;show ql E y=_;simpa using this
   clear f;go_wp2_with (go_at_call 89;apply Q.o.mono;rintro e w3 ⟨rfl,F⟩;have J:=P1 F;clear F);go_ret;exact ⟨by rw [<-h.o];rfl,u.o.trans (J.o.mono u.o.size)⟩
  ·have I:decide (0<=a)=false:=Q4 c;have h:Hid (bL E n (-1) d=false):=by have:=f.o;rw [I]at this;exact this.symm
   clear f;go_wp2_with fail;go_ret;exact ⟨by rw [h.o];rfl,u.o⟩
end Go.Proofs.YtimniinkpipnmaaGreatDoor.Scc
namespace Go.Proofs.YtimniinkpipnmaaGreatDoor
open Go.RowKit Go.Own Go.Proofs.Tryz
section
def U9:=@List.take_left'
structure sy (w:WD) (qb n:Nat) (lv:Value) (l:List Nat):Prop where
 dB:w.heap[qb]? =some (.cells #[.bool true,IV n,lv] 243 (0,0))
 cO:Sl w 3 lv l.length (bI l)
def y8(qb:Nat)(lv:Value)(k:Nat):Prop:=k=qb\/lv.ownBlock=some k
section
variable {w w1 w2:WD} {qb n:Nat} {lv lv':Value} {l l':List Nat}
def sy.lt(h:sy w qb n lv l):qb<w.heap.size:=(Pb.1 h.dB).1
def sy.dY(h:sy w qb n lv l):∀k,y8 qb lv k->k<w.heap.size:=λk a=>by obtain rfl|a:=a;exact h.lt;exact h.cO.lt k a
def sy.ne(h:sy w qb n lv l):∀b,lv.ownBlock=some b->b≠qb:=λb a c=>S8 h.cO h.dB ZD (c▸a)
def sy.ax{R}(h:sy w qb n lv l)(b:aj R w w1)(a:∀k,y8 qb lv k->¬R k):sy w1 qb n lv l:=
 ⟨(b.block qb h.lt (a qb (.inl rfl))).trans h.dB,h.cO.ax b (λg e=>a g (.inr e))⟩
def sy.ag(h:sy w qb n lv l)(a:BW w w1):sy w1 qb n lv l:=h.ax (aj.aC a) (λk s=>ZH (h.dY k s))
def sy.cells(h:sy w qb n lv l):CA w qb 0 (.bool true)/\CA w qb 1 (IV n)/\CA w qb 2 lv/\FZ w qb 2:=
 ⟨CH h.dB,CH h.dB,CH h.dB,Pg h.dB 2⟩
def sy.set(h:sy w qb n lv l)(c:aj (λk=>lv.ownBlock=some k) w w1)(o:Sl w1 3 lv' l'.length (bI l'))(m:∀b,lv'.ownBlock=some b->lv.ownBlock=some b\/w.heap.size<=b)(e:w2=w1.setCell (AD qb 2) lv'):
 sy w2 qb n lv' l'/\aj (y8 qb lv) w w2:=by
 have f:=(c.block qb h.lt (λe=>h.ne qb e rfl)).trans h.dB
 have i:HC w2 qb #[.bool true,IV n,lv'] 243:=by rw [e];simp [HC,World.setCell,P7,f]
 have d:aj (λk=>k=qb) w1 w2:=by rw [e];exact (aj.refl (λk=>k=qb) w1).setCell (p:=(AD qb 2)) (λ_=>rfl) _
 refine ⟨⟨i,o.ax d (λg j s=>?_)⟩,(c.mono (λk _ s=>.inr s)).then d (λk _ s=>.inl s)⟩
 obtain a|a:=m g j
 exact h.ne g a s
 have:=h.lt;omega
end
def y7(w:WD)(qb n:Nat)(lv:Value)(l':List Nat)(a:WD):Prop:=∃lv',sy a qb n lv' l'/\aj (y8 qb lv) w a/\∀b,lv'.ownBlock=some b->lv.ownBlock=some b\/w.heap.size<=b
def Cz(w)(n:Nat)(d:n<=65536):
 CL 174 #[IV n] w λe a=>e=RT (PT w.heap.size)/\a=w.alloc (CE #[.bool true,IV n,SN] 243):=by
 have b:max (n:Int) 0=n:=ZO
 have c:min (n:Int) 65536=n:=ZO
 go_enter func174,ntmps174
 go_wp2
 go_ret
 exact ⟨rfl,rfl⟩
def I7(w qb n lv l)(h:sy w qb n lv l)(k:l.length<n)(o:n<=65536):
 CL 187 #[PT qb] w λe d=>e=RT (.bool false)/\BW w d:=by
 obtain ⟨f,g,i,-⟩:=h.cells
 obtain ⟨a,c,rfl,-⟩:=h.cO.shape
 have j:decide ((n:Int)<=l.length)=false:=PH ZO
 have b:decide (n<=l.length)=false:=PH ZO
 generalize l.length=m at *
 clear h
 go_enter func187,ntmps187
 go_wp2
 go_quiet (fail)
 go_wp2
 go_ret
 exact ⟨rfl,Scc.below_drewN _ _⟩
def CC(w qb n lv l)(x:Nat)(h:sy w qb n lv l)(G:l.length<n)(S:n<=65536):
 CL 176 #[PT qb,IV x] w λe p=>e=RT (.bool true)/\y7 w qb n lv (l++[x]) p:=by
 have⟨T,u,B,z,t⟩:=P6 Tryz.eA
 have C:=O8 (I7 w qb n lv l h G S)
 have q:Hid (∀p,BW w p->sy p qb n lv l):=λp Q=>h.ag Q
 obtain ⟨a,c,rfl,-⟩:=h.cO.shape
 have⟨m,y⟩:=EX l.length
 rw [y]at q G⊢
 have D:=O8 y
 clear h y
 go_enter func176,ntmps176
 go_upto_region 3 with(go_at_call 187;apply C.o.mono;rintro e w1 ⟨rfl,i⟩;have g:=O8 i;clear i)
 have⟨w2,A⟩:=EX (w1.alloc (CE #[IV x] 3))
 have d:=O8 (q.o w1 g.o)
 have⟨L,r,M,N⟩:=d.o.cells
 have J:Hid (Sl w1 3 (SL a m c) m (bI l)):=by have:=d.o.cO;rw [D.o]at this;exact this
 have v:=d.o.lt
 have o:¬(SL a m c).ownBlock=some qb:=λe=>d.o.ne qb e rfl
 clear C q L r A w2
 go_wp2_with (at_builtin;refine av rfl (.tmp 11) (.tmp 13) 33 rfl 3 T (IV 0) 8 QD u B z t rfl ZD (SL a m c) _ _ rfl J.o _ rfl rfl ZO ?_;intro F r W H f j;have K:=O8 H;have I:=O8 f;have E:=O8 j;have V:=f.aq M o;have U:=(PK (f.block qb v o)).trans N;clear H f j)
 go_ret
 have⟨O,P⟩:=d.o.set (l':=l++[x]) (lv':=SV F (m+1) r) I.o (by rw [kP,Pk,D.o];exact K.o) (λb e=>by cases e;exact E.o) rfl
 refine ⟨rfl,_,O,((aj.aC g.o).mono (λk R s=>absurd R ZO)).then P (λk _ s=>s),λb e=>?_⟩
 obtain rfl:F=b:=by cases e;rfl
 obtain e|e:=E.o
 exact .inl e
 have:=g.o.size;exact .inr ZO
def oM{g e d}:∀(c o)(w:WD)(a),w.heap[g]? =some (.cells a e d)->o+c.length<=a.size->
 ∃b,(w.setCells g o c).heap[g]? =some (.cells b e d)/\b.size=a.size/\b.toList.take (o+c.length)=a.toList.take o++c
 |[],o,w,a,h,_=>⟨a,h,rfl,ZS⟩
 |v::r,o,w,a,h,s=>by
  rw [P9]at s;have k:(w.setCell (AD g o) v).heap[g]? =some (.cells (a.setIfInBounds o v) e d):=by simp [HC,World.setCell,P7,h]
  have⟨b,m,p,q⟩:=oM r (o+1) _ _ k (by simp;omega);refine ⟨b,m,by rw [p];simp,?_⟩;have i:o+(v::r).length=o+1+r.length:=by simp;omega
  rw [i,q];have j:(a.setIfInBounds o v).toList.take (o+1)=a.toList.take o++[v]:=by
   rw [Qf];have f:o<a.toList.length:=by simp;omega
   simp [List.take_set_of_le,RZ f]
  rw [j,Qe];rfl
def CO{w e g n c s vs}(h:Sl w e (SV g n c) n s)(q:vs.length=n):Sl (w.setCells g 0 vs) e (SV g n c) n vs:=by
 refine ⟨ZO,?_⟩;obtain ⟨f,_⟩|⟨b,j,d,f,k,m,o,p,t,u⟩:=h.2;cases f
 right;cases f
 have⟨a,r,v,i⟩:=oM vs 0 w d m ZO;refine ⟨g,c,a,rfl,k,r,o,p,ZO,?_⟩;rw [PU,q,Ri,QW]at i;rw [RL];exact i
def yL(g o a w):aj (λk=>k=g) w (w.setCells g o a):=by
 induction a generalizing o w with
 |nil=>exact aj.refl _ _
 |cons v r b=>exact ((aj.refl (λk=>k=g) w).setCell (p:=(AD g o)) (λ_=>rfl) v).trans (b (o+1) _)
def Cy(w qb n lv l)(h:sy w qb n lv l):
 CL 197 #[PT qb] w λe b=>e=RT (IV l.length)/\b=w:=by
 obtain ⟨d,f,g,-⟩:=h.cells
 obtain ⟨a,c,rfl,-⟩:=h.cO.shape
 generalize l.length=m at *
 clear h
 go_enter func197,ntmps197
 go_wp2
 go_ret
 exact ⟨rfl,rfl⟩
def NO(w:WD)(qb n:Nat)(lv:Value):List Nat->Ending->WD->Prop
 |[],e,a=>e=RT (.tuple #[IV 0,.bool false])/\a=w
 |x::r,e,a=>e=RT (.tuple #[IV x,.bool true])/\y7 w qb n lv r a
def CB(w qb n lv l)(h:sy w qb n lv l)(X:l.length<=65536):
 CL 188 #[PT qb,IV 0] w (NO w qb n lv l):=by
 have C:=O8 (Cy w qb n lv l h)
 cases l with
 |nil=>
  go_enter func188,ntmps188
  go_wp2_with (go_at_call 197;apply C.o.mono;rintro e w1 ⟨rfl,rfl⟩)
  go_ret2
  exact ⟨rfl,rfl⟩
 |cons x r=>
  have⟨m,J⟩:=EX r.length
  have t:Hid ((x::r).length=m+1):=by show _=_;rw [P9,J]
  have f:=O8 J
  rw [t.o]at C X
  obtain ⟨a,c,rfl,p⟩:=h.cO.shape
  obtain ⟨g,rfl,W,u⟩:=p 0 (ZH t.o)
  have P:=O8 h
  have D:Hid (Sl w 3 (SV g (m+1) c) (m+1) (bI (x::r))):=by have:=h.cO;rw [t.o]at this;exact this
  obtain ⟨F,G,-⟩:=de D.o
  have⟨c0,c1,O,U⟩:=h.cells
  rw [t.o]at O
  have cx:w.cell? (AD g 0)=some (IV x):=by rw [u];rfl
  have I:=h.lt
  have y:qb≠g:=λe=>h.ne g W e.symm
  have N:Hid (∀j,j<(aE (x::r)).length->w.cell? (AD g (0+j))=some (IV ((aE (x::r)).getD j 0))):=λj v=>by
   rw [aD]at v;rw [PU,cG v];obtain ⟨g',S,-,o⟩:=p j v;cases S
   rw [o,od _ _ v]
  have M:Hid (∀j,j<m+1->w.frozen? (AD g (0+j))=false):=λj v=>by
   obtain ⟨i,_⟩|⟨b,Q,R,i,o,V,_⟩:=D.o.2;cases i
   cases i;exact Pg V (0+j)
  have A:Hid (CL 198 #[SV g (m+1) c,IV 0,IV 1] w λe L=>e=RT (SV g m c)/\Sl L 3 (SV g m c) m (bI r)/\aj (λk=>k=g) w L):=by
   have Y:(aE (x::r)).length=m+1:=by rw [aD,t.o]
   refine (Tryz.slices_Delete_int_cells g 0 (m+1) c 0 1 (aE (x::r)) w ZO F (by unfold maxLen at G;omega) ZO ZO N.o M.o).mono ?_;rintro e L ⟨rfl,q,rfl⟩;have K:Sl (w.drewN q) 3 (SV g (m+1) c) (m+1) (bI (x::r)):=D.o;have H:((((aE (x::r)).take (m+1)).take 0++((aE (x::r)).take (m+1)).drop 1++List.replicate (1-0) 0).map (Value.int .i64))=bI r++[IV 0]:=by have T:(aE (x::r)).take (m+1)=aE (x::r):=PI ZO;rw [T];show(aE r++[0]).map (Value.int .i64)=_;rw [Qg];congr 1;unfold aE bI;rw [TA];rfl
   refine ⟨rfl,?_,?_⟩;rw [H];have i:=CO (vs:=bI r++[IV 0]) K (by simp [bV,f.o]);have o:=nM i (m:=m) ZO;rw [U9 (by rw [bV];exact f.o)]at o;exact o;have Z:aj (λk=>k=g) w (w.drewN q):=⟨rfl,rfl,rfl,Pf _,λ_ _ _=>rfl⟩;exact Z.trans (yL _ _ _ _)
  clear h J p u N M
  go_enter func188,ntmps188
  go_upto_region 5 with(go_at_call 197;apply C.o.mono;rintro e w1 ⟨rfl,rfl⟩)
  go_wp2_with (go_at_call 198;apply A.o.mono;rintro e w1 ⟨rfl,z,d⟩;have q2:=d.aq O y;have z2:=(PK (d.block qb I y)).trans U;have E:=O8 z;have B:=O8 d;clear z d)
  go_ret2
  have⟨i,o⟩:=P.o.set (l':=r) (lv':=SV g m c) (B.o.mono λk _ s=>by rw [s];rfl) (ZR f.o E.o) (λb e=>.inl e) rfl
  exact ⟨rfl,_,i,o,λb e=>.inl e⟩
def Bb(w qb n lv l)(h:sy w qb n lv l)(d:l.length<=65536):
 CL 177 #[PT qb] w (NO w qb n lv l):=by
 have a:=O8 (CB w qb n lv l h d)
 cases l with
 |nil=>
  go_enter func177,ntmps177
  go_wp2_with (go_at_call 188;apply a.o.mono;rintro e w1 ⟨rfl,rfl⟩)
  go_ret2
  exact ⟨rfl,rfl⟩
 |cons x r=>
  go_enter func177,ntmps177
  go_wp2_with (go_at_call 188;apply a.o.mono;rintro e w1 ⟨rfl,b⟩;have c:=O8 b;clear b)
  go_ret2
  exact ⟨rfl,c.o⟩
end
section
structure Zf where
 bZ:Nat->Bool
 l:List Nat
def dh(n:Nat)(f:Nat->Bool):Nat:=(List.range n).countP λx=>!f x
def dC(s:Zf)(i:Nat):Zf:=if s.bZ i then s else⟨up s.bZ i true,s.l++[i]⟩
def ou{n i f}(a:i<n)(h:f i=false):dh n f=dh n (up f i true)+1:=
 mh (p:=λx=>!f x) (q:=λx=>!up f i true x) (i:=i) (by simp [h]) (by simp [aA]) (λj b=>by show(!up f i true j)=!f j;rw [an _ _ _ _ b]) _ U2 (P5.2 a)
structure vU (w0 w:WD) (q n:Nat) (lv:Value) (s:Zf):Prop where
 cn:w.cell? (AD q 0)=some (IV n)
 cs:w.cell? (AD (q+2) 0)=some (SV (q+1) n n)
 cp:w.cell? (AD (q+4) 0)=some (PT (q+3))
 arr:Sl w 4 (SV (q+1) n n) n (bB n s.bZ)
 Mu:sy w (q+3) n lv s.l
 dJ:∀b,lv.ownBlock=some b->q+4<b
 aJ:Below q w0 w
 cS:s.l.length+dh n s.bZ<=n
section
variable {w0 w w1:WD} {q n:Nat} {lv:Value} {s:Zf}
def vU.ag(h:vU w0 w q n lv s)(a:BW w w1):vU w0 w1 q n lv s:=by
 have k:∀{b i:Nat}{v:Value},CA w b i v->CA w1 b i v:=λh=>(a.cell (O9 w _ h)).trans h;have:=h.aJ.size;have c:q<=w.heap.size:=by have:=O9 w _ h.cn;simp only at this;omega
 exact ⟨k h.cn,k h.cs,k h.cp,h.arr.ax (aj.aC a) (λg e s=>ZH (h.arr.lt g e)),h.Mu.ag a,h.dJ,h.aJ.trans (a.mono c),h.cS⟩
def vU.seenAt(h:vU w0 w q n lv s){i}(f:i<n):w.cell? (AD (q+1) i)=some (.bool (s.bZ i))/\w.frozen? (AD (q+1) i)=false:=by
 have⟨a,c,e,o⟩:=h.arr.shape;cases e
 obtain ⟨g,e,-,l⟩:=o i f;cases e
 refine ⟨by rw [l,eQ _ _ _ f],?_⟩;obtain ⟨d,_⟩|⟨b,j,k,d,_,m,_⟩:=h.arr.2;cases d
 cases d;exact Pg m i
def vU.mark(h:vU w0 w q n lv s){i}(u:i<n)(x:s.bZ i=false){r}(C:∀w1,w1=w.setCell (AD (q+1) i) (.bool true)->y7 w1 (q+3) n lv (s.l++[i]) r):∃d,vU w0 r q n d (dC s i):=by
 obtain ⟨w1,c⟩:∃w1,w1=w.setCell (AD (q+1) i) (.bool true):=⟨_,rfl⟩;have⟨d,z,f,B⟩:=C w1 c;have o:aj (λk=>k=q+1) w w1:=by rw [c];exact (aj.refl (λk=>k=q+1) w).setCell (p:=(AD (q+1) i)) (λ_=>rfl) _
 have j:∀k,k=q\/k=q+1\/k=q+2\/k=q+4->¬y8 (q+3) lv k:=λk f s=>by obtain s|s:=s;omega;have:=h.dJ k s;omega
 have a:∀{b i:Nat}{v:Value},b=q\/b=q+2\/b=q+4->CA w b i v->CA r b i v:=λt h=>f.aq (o.aq h (by simp only;omega)) (j _ (by simp only;omega));have l:Sl w1 4 (SV (q+1) n n) n (bB n (up s.bZ i true)):=by have t:=eN h.arr;rw [<-kH n s.bZ i true u];refine gC ?_ (by simp [ed]) (de h.arr).2.1;rw [c];simp [HC,World.setCell,P7,t]
 have D:dC s i=⟨up s.bZ i true,s.l++[i]⟩:=by unfold dC;rw [x];rfl
 have m:q<=w.heap.size:=by have:=O9 w _ h.cn;simp only at this;omega
 rw [D];refine ⟨d,a (.inl rfl) h.cn,a (.inr (.inl rfl)) h.cs,a (.inr (.inr rfl)) h.cp,l.ax f (λg e=>?_),z,λb e=>?_,h.aJ.trans (((o.mono (T:=λk=>q<=k) (λk _ s=>ZO)).then f (λk A s=>?_)).ag m (λk f s=>ZO)),?_⟩;cases e;exact j _ (.inr (.inl rfl))
 obtain e|e:=B b e;exact h.dJ b e;have y:=O9 w _ h.cp;have:=o.size;simp only at y;omega;obtain s|s:=s;omega;have:=h.dJ k s;omega;have:=h.cS;have:=ou u x;simp only [Pk,Qi];omega
end
def yX(w0:WD)(q n:Nat)(s:Zf)(e:Ending)(a:WD):Prop:=e=RT (.tuple #[])/\∃lv,vU w0 a q n lv s
def Af(w0 w q n lv s)(h:vU w0 w q n lv s)(i)(g:i<n)(y:n<=65536):
 CL 175 #[IV i,PT q,PT (q+2),PT (q+4)] w (yX w0 q n (dC s i)):=by
 have x:(i:Int)<n:=ZO
 have A:=h.cn
 have B:=h.cs
 have u:=h.cp
 have⟨j,C⟩:=h.seenAt g
 have b:=O8 h
 clear h
 cases a:s.bZ i
 rw [a]at j
 have f:=O8 a
 have t:=ou g a
 have m:=b.o.cS
 have v:(w.setCell (AD (q+1) i) (.bool true)).cell? (AD (q+4) 0)=some (PT (q+3)):=by rw [PQ _ _ _ _ (by intro e;cases e)];exact u
 have o:Hid (∀w1,w1=w.setCell (AD (q+1) i) (.bool true)->CL 176 #[PT (q+3),IV i] w1 λe z=>e=RT (.bool true)/\y7 w1 (q+3) n lv (s.l++[i]) z):=by intro w1 e;refine CC w1 (q+3) n lv s.l i (b.o.Mu.ax (w1:=w1) (R:=λk=>k=q+1) ?_ (λk c e=>?_)) ZO y;rw [e];exact (aj.refl (λk=>k=q+1) w).setCell (p:=(AD (q+1) i)) (λ_=>rfl) _;obtain c|c:=c;omega;have:=b.o.dJ k c;omega
 clear t m a
 go_enter func175,ntmps175
 go_upto_region 2 with(fail)
 have d:=O8 (o.o _ rfl)
 go_wp2_with (go_at_call 176;apply d.o.mono;rintro e D ⟨rfl,l⟩;have r:=O8 l;clear l)
 go_end0
 exact ⟨rfl,b.o.mark g f.o (λw1 e=>by subst e;exact r.o)⟩
 rw [a]at j
 have f:Hid (dC s i=s):=by unfold dC;rw [a];exact O8 rfl
 clear a
 go_enter func175,ntmps175
 go_wp2
 go_end0
 exact ⟨rfl,lv,ZR f.o b.o⟩
end
def SD:=@List.foldl_append
def eD(s:Zf)(a:List Int):Zf:=a.foldl (λs z=>dC s z.toNat) s
def C4(s a z):eD s (a++[z])=dC (eD s a) z.toNat:=by unfold eD;rw [SD];rfl
def z7(l:List Int)(k)(h:k<l.length):l.take (k+1)=l.take k++[l.getD k 0]:=z8 l k h
structure Ny (w:WD) (c:Nat) (a:OA) (n b:Nat) (E:List (List Int)):Prop where
 bA:E.length=n
 cell:w.cell? (AD c 1)=some (SL a n b)
 bC:Scc.fe w a E
 inr:∀i,i<n->∀z∈E.getD i [],0<=z/\z<(n:Int)
 short:∀i,i<E.length->(E.getD i []).length<=4000000000000
def Ny.ag{w w' c a n b E}(h:Ny w c a n b E)(d:BW w w'):Ny w' c a n b E:=
 ⟨h.bA,(d.cell (O9 w _ h.cell)).trans h.cell,h.bC.ag d,h.inr,h.short⟩
def Ef(d w q n W s)(h:vU d w q n W s)(L S U E)(l:Ny d L S n U E)(G:d.heap.size=q)(x)(M:x<n)(hn:n<=65536):
 CL 151 #[IV x,.func (.func 175) #[] #[PT q,PT (q+2),PT (q+4)],PT L] w (yX d q n (eD s (E.getD x []))):=by
 have H:=O8 h
 have Z:Hid (∀i,Below q d i->Ny i L S n U E):=λi p=>l.ag (ZR G p)
 have J:=O8 l.bA
 have r:=O8 l.inr
 have u:Hid ((E.getD x []).length<=4000000000000):=l.short x (by rw [l.bA];exact M)
 have HQ:=O8 G
 have ab:(x:Int)<n:=ZO
 have g1:=(Z.o w H.o.aJ).cell
 obtain ⟨b,Q,T,ci,rfl,A,j⟩:=l.bC.at x (ZR J.o M)
 have⟨a,c⟩:=EX (E.getD x [])
 have HR:Hid (∀z∈a,0<=z/\z<(n:Int)):=λz hz=>r.o x M z (ZR c hz)
 have⟨m,F⟩:=EX a.length
 rw [c]at A j
 rw [F]at A
 have D:=O8 F
 have aa:m<=4000000000000:=by have:=u.o;rw [c,F]at this;exact this
 have R:Hid (∀i,Below q d i->CA i b (Q+x) (SL T m ci)/\Scc.pO i T a):=λi p=>by have p:Below d.heap.size d i:=ZR G p;exact ⟨(p.cell (O9 d _ A)).trans A,Scc.pO.ag (w:=d) j p⟩
 have cw:=(R.o w H.o.aJ).1
 rw [c]
 clear h l G c F u A j
 go_enter func151,ntmps151
 go_wp2
 go_loopw [13] (λv wr=>∃(k:Nat)(g:Value),k<=m/\v=IV k/\Hid (vU d wr q n g (eD s (a.take k)))) (λv _=>m-(intOf v).toNat)
 exact ⟨0,W,Pz _,rfl,H⟩
 clear g1 cw
 obtain ⟨k,g,hk,rfl,f⟩:=hrel
 by_cases o:k<m
 ·have V:(k:Int)<m:=ZO;obtain ⟨b',X,rfl,c2,K,c3⟩:=(R.o wr f.o.aJ).2 k (ZR D.o o)
  have C:a.getD k 0∈a:=by rw [Pd,Pe (ZR D.o o)];exact QF _
  have⟨N,O⟩:=HR.o _ C;have y:Hid (eD s (a.take (k+1))=dC (eD s (a.take k)) (a.getD k 0).toNat):=by rw [z7 a k (ZR D.o o),C4];exact O8 rfl
  generalize a.getD k 0=z at *;obtain ⟨t,rfl⟩:∃t:Nat,z=(t:Int):=⟨z.toNat,ZO⟩;have ht:t<n:=ZO;have HV:Hid (CL 175 #[IV t,PT q,PT (q+2),PT (q+4)] (wr.alloc (CE #[IV t,IV K] 66)) (yX d q n (eD s (a.take (k+1))))):=by rw [y.o,SB];exact Af d _ q n g _ (f.o.ag (ah _ _)) t ht hn
  clear C N O y f;go_wp2_with (go_at_call 175;apply HV.o.mono;rintro e w2 ⟨rfl,P,B⟩;have I:=O8 B;clear B);go_roundw;exact ⟨k+1,P,ZO,ZN,I⟩;simp [intOf];omega
 ·obtain rfl:k=m:=ZO;have Y:Hid (vU d wr q n g (eD s a)):=by have:=f.o;rw [PI (by rw [D.o];exact Pf _)]at this;exact this
  clear f;go_wp2;go_end0;exact ⟨rfl,g,Y.o⟩
section
def bu{P w j f o a Q}
 (M:o.guard=none) (l c t) (q:o.op=Op.makeSlice t l c)
 (e i z b) (y:P.underlying t=some (.slice e)) (A:P.info? e=some i) (B:i.zero=some z) (D:i.size=b)
 (x v L C) (n:Nat) (N:a.eval l=.int x L) (J:a.eval c=.int v C) (I:L=(n:Int)) (G:C=(n:Int)) (O:i.bytes*n<=281474976710656) (u:n<=maxLen)
 (H:∀r,r=w.alloc (CE (madeCells z.cells (n*b)) e)->r.ownsRow 0 e b (SV w.heap.size n n) n (madeCells z.cells (n*b)).toList->wpList P j Q f (a.put o.dst (SV w.heap.size n n)) r):
 wpList P j Q (o::f) a w:=by
 refine wpList_plain M λK p=>?_
 subst D
 have m:(n:Int)<=9223372036854775807:=by have h:=u;simp [maxLen]at h;omega
 have k:(i.bytes:Int)*(n:Int)<=281474976710656:=by have h:((i.bytes*n:Nat):Int)<=281474976710656:=ZO;rwa [Int.natCast_mul]at h
 have d:=run_make (P:=P) w t e i z y A B x v n n ZO (Int.le_refl _) k m
 simp only [SB]at d
 have g:=Sm (base:=0) (e:=e) w (madeCells z.cells (n*i.size)) n (Pz _) u (size_madeCells _ _)
 subst I
 subst G
 unfold Oper.wp
 simp [execOp,q,N,J,d,Result.andThen]
 exact p _ _ (H _ rfl g)
structure Bt (E:List (List Int)) (n:Nat) (F:List Nat) (Z:Nat->Prop) (s:Zf):Prop where
 src:∀x,s.bZ x=true->x<n/\∃f∈F,Own.aZ E f x
 Mu:∀x∈s.l,s.bZ x=true
 IW:∀x,s.bZ x=true->x∉s.l->¬Z x->∀y,gn E x y->s.bZ y=true
section
variable {E:List (List Int)} {n:Nat} {F:List Nat} {Z:Nat->Prop} {s:Zf}
def pz{i x}(h:s.bZ x=true):(dC s i).bZ x=true:=by unfold dC;split;exact h;show up s.bZ i true x=true;by_cases e:x=i;subst e;exact aA _ _ _;rw [an _ _ _ _ e];exact h
def yk{i}:(dC s i).bZ i=true:=by unfold dC;split;assumption;exact aA _ _ _
def Bt.visit(h:Bt E n F Z s){i}(k:i<n)(m:∃f∈F,Own.aZ E f i):Bt E n F Z (dC s i):=by
 cases j:s.bZ i
 have e:dC s i=⟨up s.bZ i true,s.l++[i]⟩:=by unfold dC;rw [j];rfl
 have b:∀x,s.bZ x=true->up s.bZ i true x=true:=λx a=>by have:=pz (i:=i) a;rw [e]at this;exact this
 rw [e];refine ⟨λx a=>?_,λx a=>?_,λx a g p y o=>?_⟩;by_cases d:x=i;subst d;exact ⟨k,m⟩;have a:up s.bZ i true x=true:=a;rw [an _ _ _ _ d]at a;exact h.src x a;obtain a|a:=PC.1 a;exact b x (h.Mu x a);rw [Pc.1 a];exact aA _ _ _;have c:x≠i:=λe=>g (by rw [e];exact Qt _ (Pc.2 rfl));have a:up s.bZ i true x=true:=a;rw [an _ _ _ _ c]at a;exact b y (h.IW x a (λl=>g (P0 _ l)) p y o);have e:dC s i=s:=by unfold dC;rw [j];rfl
 rw [e];exact h
def Bt.KD:∀b s,Bt E n F Z s->(∀z∈b,0<=z/\z<(n:Int))->(∀z∈b,∃f∈F,Own.aZ E f z.toNat)->Bt E n F Z (eD s b)/\(∀x,s.bZ x=true->(eD s b).bZ x=true)/\∀z∈b,(eD s b).bZ z.toNat=true
 |[],s,h,_,_=>⟨h,λ_ h=>h,λz g=>ZC g⟩
 |z::b,s,h,c,d=>by have⟨i,e,j⟩:=Bt.KD b (dC s z.toNat) (h.visit (ZH (c z (P2 ..))) (d z (P2 ..))) (λx a=>c x (Qc _ a)) (λx a=>d x (Qc _ a));refine ⟨i,λx a=>e x (pz a),λx a=>?_⟩;obtain rfl|a:=PO.1 a;exact e _ yk;exact j x a
def Bt.round(h:Bt E n F (λ_=>False) s){x r}(j:s.l=x::r)(A:E.length=n)(b:∀i,i<n->∀z∈E.getD i [],0<=z/\z<(n:Int)):
 Bt E n F (λ_=>False) (eD ⟨s.bZ,r⟩ (E.getD x []))/\(∀y,s.bZ y=true->(eD ⟨s.bZ,r⟩ (E.getD x [])).bZ y=true)/\x<n:=by
 have u:=h.Mu x (ZR j (P2 ..))
 have⟨a,f,q,g⟩:=h.src x u
 have p:Bt E n F (λy=>y=x) ⟨s.bZ,r⟩:=⟨h.src,λy c=>h.Mu y (by rw [j];exact Qc _ c),λy c l d=>h.IW y c (by rw [j];intro k;obtain e|k:=PO.1 k;exact d e;exact l k) id⟩
 have⟨m,v,w⟩:=Bt.KD (E.getD x []) _ p (b x a) (λz d=>⟨f,q,g.trans (Own.aZ.qM ⟨ZO,ZH (b x a z d),by have:=b x a z d;rw [Int.toNat_of_nonneg this.1];exact d⟩)⟩)
 refine ⟨⟨m.src,m.Mu,λy c l _ t o=>?_⟩,v,a⟩
 by_cases e:y=x
 subst e
 have:=w _ o.2.2
 rwa [SB]at this
 exact m.IW y c l e t o
def Bt.done(h:Bt E n F (λ_=>False) s)(g:s.l=[])(hF:∀f∈F,s.bZ f=true)(x):s.bZ x=true↔∃f∈F,Own.aZ E f x:=by constructor;exact λj=>(h.src x j).2;rintro ⟨f,e,i⟩;exact i.closed (S:=λx=>s.bZ x=true) (λa b d c=>h.IW a d (by rw [g];intro h;cases h) id b c) (hF f e)
end
def Bl{n i s}(b:i<n):2*dh n (dC s i).bZ+(dC s i).l.length<=2*dh n s.bZ+s.l.length:=by
 cases a:s.bZ i
 have e:dC s i=⟨up s.bZ i true,s.l++[i]⟩:=by unfold dC;rw [a];rfl
 have:=ou b a;rw [e];simp only [Pk,Qi];omega;have e:dC s i=s:=by unfold dC;rw [a];rfl
 rw [e];exact Pf _
def oQ{n:Nat}:∀a s,(∀z∈a,0<=z/\z<(n:Int))->2*dh n (eD s a).bZ+(eD s a).l.length<=2*dh n s.bZ+s.l.length
 |[],s,_=>Pf _
 |z::a,s,h=>PG (oQ a (dC s z.toNat) (λx b=>h x (Qc _ b))) (Bl (ZH (h z (P2 ..))))
end
section
structure gm (E:List (List Int)) (n:Nat) (G:List Nat) (d:Nat) (bT:Nat->Int) (dn:Nat->Bool) (cI next:List Nat):Prop where
 bG:∀x,x<n->bT x=-1\/∃k:Nat,bT x=(k:Int)/\k<=d
 zero:∀x,x<n->(bT x=0↔x∈G)
 step:∀x k,x<n->bT x=((k+1:Nat):Int)->∃y,y<n/\gn E x y/\bT y=((k:Nat):Int)
 cur:∀y∈cI,y<n/\bT y=((d-1:Nat):Int)
 cy:∀y∈next,y<n/\bT y=(d:Int)
 closed:∀y,y<n->0<=bT y->y∈cI\/y∈next\/∀x,x<n->gn E x y->0<=bT x
 nodup:(cI++next).Nodup
 fresh:∀y∈cI++next,dn y=false
 marks:∀x,x<n->dn x=true->0<=bT x
 cH:1<=d
section
variable {E:List (List Int)} {n d a x:Nat} {G:List Nat} {far:Nat->Int} {dn:Nat->Bool} {rest next:List Nat}
def gm.mark(h:gm E n G d far dn (a::rest) next):∀y∈rest++next,up dn a true y=false:=λy c=>by
 have b:¬y=a:=by rintro rfl;have:=h.nodup;rw [Qq,Sy]at this;exact this.1 c
 rw [an _ _ _ _ b];exact h.fresh y (by rw [Qq];exact Qc _ c)
def gm.O5(h:gm E n G d far dn (a::rest) next)(q:x<n)(B:far x<0)(v:gn E x a):gm E n G d (up far x (d:Int)) dn (a::rest) (next++[x]):=by
 have A:=h.cH;have w:far x=-1:=by obtain e|⟨k,e,-⟩:=h.bG x q;exact e;omega
 have c:∀y,0<=far y->up far x (d:Int) y=far y:=λy b=>an _ _ _ _ (by rintro rfl;omega);have f:∀y,0<=far y->0<=up far x (d:Int) y:=λy b=>by rw [c y b];exact b
 have i:∀y∈(a::rest)++next,0<=far y:=λy b=>by obtain b|b:=PC.1 b;rw [(h.cur y b).2];omega;rw [(h.cy y b).2];omega
 have r:x∉(a::rest)++next:=λb=>ZH (i x b);refine ⟨λy b=>?_,λy b=>?_,λy k b p=>?_,λy b=>?_,λy b=>?_,λy b t=>?_,?_,λy b=>?_,λy b o=>?_,A⟩;by_cases e:y=x;subst e;rw [aA];exact .inr ⟨d,rfl,Pf _⟩;rw [an _ _ _ _ e];exact h.bG y b;by_cases e:y=x;subst e;rw [aA];exact ⟨λe=>absurd e ZO,λe=>absurd ((h.zero y b).2 e) ZO⟩;rw [an _ _ _ _ e];exact h.zero y b;by_cases e:y=x;subst e;rw [aA]at p;have⟨l,m⟩:=h.cur a (P2 ..);refine ⟨a,l,v,?_⟩;rw [c a ZO,m];have:d=k+1:=ZO;rw [this];rfl;rw [an _ _ _ _ e]at p;have⟨z,l,m,u⟩:=h.step y k b p;exact ⟨z,l,m,by rw [c z ZO];exact u⟩;have:=h.cur y b;rw [c y ZO];exact this;obtain b|b:=PC.1 b;have:=h.cy y b;rw [c y ZO];exact this;rw [Pc]at b;subst b;rw [aA];exact ⟨q,rfl⟩;by_cases e:y=x;exact .inr (.inl (by rw [e];simp));rw [an _ _ _ _ e]at t;obtain g|g|g:=h.closed y b t;exact .inl g;exact .inr (.inl (P0 _ g));exact .inr (.inr λz j s=>f z (g z j s));rw [<-Qe];refine List.nodup_append.2 ⟨h.nodup,ZS,λy b z j e=>?_⟩;rw [Pc]at j;subst j e;exact r b;rw [<-Qe]at b;obtain b|b:=PC.1 b;exact h.fresh y b;rw [Pc]at b;subst b;cases o:dn y
 rfl;have:=h.marks y q o;omega;exact f y (h.marks y b o)
def gm.go(h:gm E n G d far dn (a::rest) next)(i:∀x,x<n->gn E x a->0<=far x):gm E n G d far (up dn a true) rest next:=by refine ⟨h.bG,h.zero,h.step,λy b=>h.cur y (Qc _ b),h.cy,λy b f=>?_,?_,h.mark,λx j c=>?_,h.cH⟩;obtain g|g|g:=h.closed y b f;obtain e|g:=PO.1 g;subst e;exact .inr (.inr i);exact .inl g;exact .inr (.inl g);exact .inr (.inr g);have:=h.nodup;rw [Qq,Sy]at this;exact this.2;by_cases e:x=a;subst e;have:=(h.cur x (P2 ..)).2;omega;rw [an _ _ _ _ e]at c;exact h.marks x j c
def gm.gQ(h:gm E n G d far dn [] next):gm E n G (d+1) far dn next []:=by
 refine ⟨λx f=>(h.bG x f).imp id λ⟨k,e,i⟩=>⟨k,e,ZO⟩,h.zero,h.step,λy b=>by have:=h.cy y b;rw [Su];exact this,λy b=>(ZC b),λy b c=>?_,?_,λy b=>?_,h.marks,ZO⟩;obtain g|g|g:=h.closed y b c;cases g
 exact .inl g;exact .inr (.inr g);rw [Qb];have:=h.nodup;rwa [QW]at this;rw [Qb]at b;exact h.fresh y (by rw [QW];exact b)
structure nU (E:List (List Int)) (n:Nat) (G:List Nat) (bT:Nat->Int):Prop where
 bG:∀x,x<n->bT x=-1\/∃k:Nat,bT x=(k:Int)/\k<=n+2
 zero:∀x,x<n->(bT x=0↔x∈G)
 step:∀x k,x<n->bT x=((k+1:Nat):Int)->∃y,y<n/\gn E x y/\bT y=((k:Nat):Int)
 whole:∀x g,x<n->g∈G->Own.aZ E x g->0<=bT x
def gm.done(h:gm E n G d far dn [] [])(q:E.length=n)(r:∀g∈G,g<n)(m:d<=n+2):nU E n G far:=by
 refine ⟨λx b=>(h.bG x b).imp id λ⟨k,e,f⟩=>⟨k,e,PG f m⟩,h.zero,h.step,λx g b o i=>?_⟩;obtain ⟨k,f⟩:=i;induction k generalizing x with
 |zero=>have e:x=g:=f;rw [e]at b⊢;rw [(h.zero g b).2 o];exact Int.le_refl _
 |succ k p=>
  obtain ⟨y,j,i⟩:=f;have c:y<n:=ZH j.2.1;have l:=p y c i;obtain g|g|g:=h.closed y c l;cases g
  cases g
  exact g x b j
def gm.aM(j:∀g∈G,g<n)(l:G.Nodup)(f:∀x,x<n->far x=if x∈G then 0 else-1):gm E n G 1 far (λ_=>false) G []:=by refine ⟨λx c=>?_,λx c=>?_,λx k c e=>?_,λy b=>⟨j y b,?_⟩,λy b=>(ZC b),λy b i=>.inl ?_,(by rw [Qb];exact l),λy _=>rfl,λx _ e=>(ZC e),Pf _⟩;rw [f x c];by_cases e:x∈G;rw [PW e];exact .inr ⟨0,rfl,ZO⟩;rw [Qa e];exact .inl rfl;rw [f x c];by_cases e:x∈G;rw [PW e];exact ⟨λ_=>e,λ_=>rfl⟩;rw [Qa e];exact ⟨λh=>absurd h ZD,λh=>absurd h e⟩;rw [f x c]at e;split at e<;>omega;rw [f y (j y b),PW b];rfl;rw [f y b]at i;by_cases e:y∈G;exact e;rw [Qa e]at i;omega
end
def nU.cQ{E n G far}(h:nU E n G far):∀k x,x<n->far x=((k:Nat):Int)->∃g∈G,Own.aZ E x g
 |0,x,b,e=>⟨x,(h.zero x b).1 e,Own.aZ.refl E x⟩
 |k+1,x,b,e=>by have⟨y,l,c,f⟩:=h.step x k b e;have⟨g,i,j⟩:=h.cQ k y l f;exact ⟨g,i,Own.aZ.Gw c j⟩
def nU.iff{E n G far}(h:nU E n G far){x}(b:x<n):0<=far x↔∃g∈G,Own.aZ E x g:=by constructor;intro i;obtain e|⟨k,e,-⟩:=h.bG x b;omega;exact h.cQ k x b e;rintro ⟨g,c,f⟩;exact h.whole x g b c f
end
def dP(w a:WD)(v:Value)(n:Nat)(r:Nat->Bool):Prop:=∃b,v=SV b n n/\Sl a 4 v n (bB n r)/\BW w a/\w.heap.size<=b
def Gr(w q n)(p:w.heap.size=q)(K:n<=65536)(g)
 (e:((((w.alloc (CE #[IV n] 3)).alloc (CE (madeCells #[Value.bool false] n) 4)).alloc (CE #[SV (q+1) n n] 67)).alloc (CE #[.bool true,IV n,SN] 243)).alloc (CE #[PT (q+1+1+1)] 232)=g):
 vU w g q n (SN) ⟨λ_=>false,[]⟩:=by
 have⟨a,k⟩:=EX (w.alloc (CE #[IV n] 3))
 rw [k]at e
 have⟨c,l⟩:=EX (a.alloc (CE (madeCells #[Value.bool false] n) 4))
 rw [l]at e
 have⟨d,m⟩:=EX (c.alloc (CE #[SV (q+1) n n] 67))
 rw [m]at e
 have⟨f,o⟩:=EX (d.alloc (CE #[.bool true,IV n,SN] 243))
 rw [o]at e
 have s:a.heap.size=q+1:=ZW k p
 have t:c.heap.size=q+2:=ZW l s
 have u:d.heap.size=q+3:=ZW m t
 have J:f.heap.size=q+4:=ZW o u
 have v:BW w a:=k▸ah _ _
 have x:BW a c:=l▸ah _ _
 have y:BW c d:=m▸ah _ _
 have z:BW d f:=o▸ah _ _
 have r:BW f g:=e▸ah _ _
 have A:HC a q #[IV n] 3:=by rw [<-k,<-p];exact (Ph w _).1
 have B:HC c (q+1) (madeCells #[Value.bool false] n) 4:=by rw [<-l,<-s];exact (Ph a _).1
 have C:HC d (q+2) #[SV (q+1) n n] 67:=by rw [<-m,<-t];exact (Ph c _).1
 have D:HC f (q+3) #[.bool true,IV n,SN] 243:=by rw [<-o,<-u];exact (Ph d _).1
 have E:HC g (q+4) #[PT (q+3)] 232:=by rw [<-e,<-J];exact (Ph f _).1
 have j:BW d g:=af z r
 have i:BW c g:=af y j
 have h:BW a g:=af x i
 have F:=(h.block q ZO).trans A
 have G:=(i.block (q+1) ZO).trans B
 have H:=(j.block (q+2) ZO).trans C
 have I:=(r.block (q+3) ZO).trans D
 refine ⟨CH F,CH H,CH E,?_,⟨I,Qd _ _ _ _⟩,λb e=>(ZC e),p▸af v h,?_⟩
 have:=bM (.bool false) rfl n
 refine gC (xs:=bB n λ_=>false) ?_ (ed _ _) (by unfold maxLen;omega)
 rw [G,Scc.eR,<-this,RL]
 rfl
 show([]:List Nat).length+dh n (λ_=>false)<=n
 unfold dh
 simp
def Gs(E n F):Bt E n F (λ_=>False) ⟨λ_=>false,[]⟩:=⟨λx h=>(ZC h),λx h=>(ZC h),λx h=>(ZC h)⟩
def lh(E:List (List Int))(F:List Nat)(n:Nat)(w:WD)(e:Ending)(a:WD):Prop:=∃v r,e=RT v/\dP w a v n r/\∀x,x<n->(r x=true↔∃f∈F,Own.aZ E f x)
def vU.done{a w q n c s}(h:vU a w q n c s)(b:a.heap.size=q):dP a w (SV (q+1) n n) n s.bZ:=
 ⟨q+1,rfl,h.arr,(by(try unfold BW);rw [b];exact h.aJ),ZO⟩
def vU.take{j w i q n f s}(h:vU j w q n f s){r x}(o:s.l=x::r)(m:y7 w (q+3) n f r i):∃d,vU j i q n d ⟨s.bZ,r⟩:=by
 obtain ⟨d,l,c,p⟩:=m;have a:∀k,k=q\/k=q+1\/k=q+2\/k=q+4->¬y8 (q+3) f k:=λk c s=>by obtain s|s:=s;omega;have:=h.dJ k s;omega
 have t:q+4<w.heap.size:=O9 w _ h.cp;refine ⟨d,c.aq h.cn (a _ (.inl rfl)),c.aq h.cs (a _ (.inr (.inr (.inl rfl)))),c.aq h.cp (a _ (.inr (.inr (.inr rfl)))),h.arr.ax c (λg e=>by cases e;exact a _ (.inr (.inl rfl))),l,λb e=>?_,h.aJ.trans (c.ag ZO (λk c s=>?_)),?_⟩;obtain e|e:=p b e;exact h.dJ b e;omega;obtain s|s:=s;omega;have:=h.dJ k s;omega;have:=h.cS;rw [o,P9]at this;show r.length+dh n s.bZ<=n;omega
def Gt(w K ae n ce E)(m:Ny w K ae n ce E)(Y o fc F)(D:aG .i64 w Y o (aE F))(hF:∀f∈F,f<n)(R:n<=65536)(ak:o<=1000000000):
 CL 150 #[IV n,SL Y o fc,.func (.func 151) #[] #[PT K]] w (lh E F n w):=by
 have⟨i4,aa,ac,ab,Z⟩:=P6 Scc.Tryz.kM
 have⟨q,O⟩:=EX w.heap.size
 have U:=O8 m
 have HF:=O8 hF
 have HQ:=O8 O
 have A:Hid (F.length=o):=by have:=D.1;rw [aD]at this;exact this
 have HR:Hid (∀d,Below q w d->aG .i64 d Y o (aE F)):=λd hb=>D.ag (ZR O hb)
 have HV:Hid (∀d j s i,vU w d q n j s->i<n->CL 175 #[IV i,PT q,PT (q+2),PT (q+4)] d (yX w q n (dC s i))):=λd j s i h hi=>Af w d q n j s h i hi R
 have HB:Hid (∀d j s x,vU w d q n j s->x<n->CL 151 #[IV x,.func (.func 175) #[] #[PT q,PT (q+2),PT (q+4)],PT K] d (yX w q n (eD s (E.getD x [])))):=λd j s x h hx=>Ef w d q n j s h K ae ce E m O x hx R
 have HS:=O8 (Gr w q n O R)
 have HN:Hid (∀d,CL 174 #[IV n] d λe ah=>e=RT (PT d.heap.size)/\ah=d.alloc (CE #[.bool true,IV n,SN] 243)):=λd=>Cz d n R
 clear m hF D
 go_enter func150,ntmps150
 go_upto_region 4 with(first|(go_at_call 174;refine (HN.o _).mono ?_;rintro e p ⟨rfl,rfl⟩)|(at_make;refine bu rfl _ _ 67 rfl 4 i4 (.bool false) 1 QM aa ac ab _ _ _ _ n rfl rfl rfl rfl (by rw [Z];omega) (by unfold maxLen;omega) ?_;rintro w3 rfl hs;clear hs))
 have⟨w5,H⟩:=EX (((((w.alloc (CE #[IV n] 3)).alloc (CE (madeCells #[Value.bool false] n) 4)).alloc (CE #[SV (q+1) n n] 67)).alloc (CE #[.bool true,IV n,SN] 243)).alloc (CE #[PT (q+1+1+1)] 232))
 rw [H,show q+1+1+1+1=q+4 from rfl,show q+1+1+1=q+3 from rfl,show q+1+1=q+2 from rfl]
 have J:=O8 (HS.o w5 H)
 clear HS HN H O
 go_wp2
 go_loopw [21] (λv wr=>∃(k:Nat)(j:Value)(s:Zf),k<=o/\v=IV k/\Hid (vU w wr q n j s)/\Hid (Bt E n F (λ_=>False) s)/\Hid (∀f∈F.take k,s.bZ f=true)) (λv _=>o-(intOf v).toNat)
 exact ⟨0,_,_,Pz _,rfl,J,O8 (Gs E n F),O8 (λf h=>ZC h)⟩
 clear J
 obtain ⟨k,j,s,hk,rfl,a,b,c⟩:=hrel
 by_cases G:k<o
 ·have aj:(k:Int)<o:=ZO;obtain ⟨-,h0|⟨fb,fo,rfl,hc⟩⟩:=HR.o wr a.o.aJ
  ·omega
  obtain ⟨f,u⟩:∃f,F[k]? =some f:=⟨_,Pe (ZR A.o G)⟩;have ck:CA wr fb (fo+k) (IV f):=by have:=hc k G;rw [cG (ZR A.o G),Pd,u]at this;exact this
  have y:=Pm u;have X:=O8 (HV.o wr j s f a.o (HF.o f y));have B:=O8 (b.o.visit (HF.o f y) ⟨f,y,Own.aZ.refl E f⟩);have C:Hid (∀g∈F.take (k+1),(dC s f).bZ g=true):=λg m=>by
   rw [Qf,u]at m;obtain m|m:=PC.1 m
   ·exact pz (c.o g m)
   ·rw [Pc.1 m];exact yk
  clear hc u y a b c;go_wp2_with (go_at_call 175;apply X.o.mono;rintro e p ⟨rfl,af,M⟩;have V:=O8 M;clear M);go_roundw;exact ⟨k+1,af,_,ZO,ZN,V,B,C⟩;simp [intOf];omega
 ·obtain rfl:k=o:=ZO;have HT:Hid (∀f∈F,s.bZ f=true):=λf D=>c.o f (by rw [PI (by rw [A.o];exact Pf _)];exact D)
  clear c;go_wp2;obtain ⟨wo,rfl⟩:∃wo:WD,wo=wr:=⟨_,rfl⟩;go_loopg [] (2*dh n s.bZ+s.l.length) (λg wr=>∃(j:Value)(s:Zf),Hid (g=2*dh n s.bZ+s.l.length)/\Hid (vU w wr q n j s)/\Hid (Bt E n F (λ_=>False) s)/\Hid (∀f∈F,s.bZ f=true));exact ⟨j,s,O8 rfl,a,b,HT⟩;clear a b HT;obtain ⟨j,s,m,a,b,c⟩:=hrel;have cp:=a.o.cp;have cs:=a.o.cs;have t:=O8 (Bb wr (q+3) n j s.l a.o.Mu (ZH a.o.cS));cases z:s.l with
  |nil=>rw [z]at t;have I:Hid (lh E F n w (RT (SV (q+1) n n)) wr):=⟨_,_,rfl,a.o.done HQ.o,λx _=>b.o.done z c.o x⟩;clear m a b c z;go_wp2_with (go_at_call 177;apply t.o.mono;rintro e p ⟨rfl,rfl⟩);go_ret;exact I.o
  |cons x r=>
   rw [z]at t;have⟨h1,h2,P⟩:=b.o.round z U.o.bA U.o.inr;have T:Hid (∀p,y7 wr (q+3) n j r p->CA p (q+2) 0 (SV (q+1) n n)/\CL 151 #[IV x,.func (.func 175) #[] #[PT q,PT (q+2),PT (q+4)],PT K] p (yX w q n (eD ⟨s.bZ,r⟩ (E.getD x [])))):=λp Q=>by have⟨ad,h⟩:=a.o.take z Q;exact ⟨h.cs,HB.o p ad _ x h P⟩
   have B:=O8 h1;have C:Hid (∀f∈F,(eD ⟨s.bZ,r⟩ (E.getD x [])).bZ f=true):=λf D=>h2 f (c.o f D);have HM:Hid (2*dh n (eD ⟨s.bZ,r⟩ (E.getD x [])).bZ+(eD ⟨s.bZ,r⟩ (E.getD x [])).l.length<gk):=by have h3:=oQ (n:=n) (E.getD x []) ⟨s.bZ,r⟩ (U.o.inr x P);have h4:=m.o;rw [z,P9]at h4;show _<gk;simp only at h3;omega
   clear m a b c z h1 h2;go_wp2_with (first|(go_at_call 177;apply t.o.mono;rintro e p ⟨rfl,Q⟩;have⟨ai,L⟩:=T.o p Q;have S:=O8 L;clear L Q)|(go_at_call 151;apply S.o.mono;rintro e w3 ⟨rfl,ag,N⟩;have W:=O8 N;clear N));go_roundg (2*dh n (eD ⟨s.bZ,r⟩ (E.getD x [])).bZ+(eD ⟨s.bZ,r⟩ (E.getD x [])).l.length);case measure=>exact HM.o
   case rel=>exact ⟨ag,_,O8 rfl,W,B,C⟩
structure eG (w:WD) (a:OA) (n:Nat) (E:List (List Int)):Prop where
 bA:E.length=n
 bC:Scc.fe w a E
 inr:∀i,i<n->∀z∈E.getD i [],0<=z/\z<(n:Int)
 short:∀i,i<E.length->(E.getD i []).length<=4000000000000
 uD:n<=65536
def eG.ag{w w' a n E}(h:eG w a n E)(b:BW w w'):eG w' a n E:=⟨h.bA,h.bC.ag b,h.inr,h.short,h.uD⟩
def GD(w c d a n b)(j:n<=65536):
 CL 148 #[.agg #[c,SL a n b,d]] w λe h=>e=RT (.bool false)/\BW w h:=by
 have i:decide ((65536:Int)<n)=false:=PH ZO
 have g:decide (65536<n)=false:=PH ZO
 have f:Hid (BW w (w.alloc (CE #[c,SL a n b,d] 55))):=ah _ _
 go_enter func148,ntmps148
 go_wp2
 go_ret
 exact ⟨rfl,f.o⟩
def zQ(w x y i n k E)(g:eG w i n E)(p m C F)(G:aG .i64 w p m (aE F))(hF:∀f∈F,f<n)(D:m<=1000000000):
 CL 112 #[.agg #[x,SL i n k,y],SL p m C] w (lh E F n w):=by
 have⟨q,H⟩:=EX w.heap.size
 have⟨h,j⟩:=EX (w.alloc (CE #[x,SL i n k,y] 55))
 have o:BW w h:=j▸ah _ _
 have c:=aT w #[x,SL i n k,y] 55
 rw [j,H]at c
 have M:=(c 0 _ rfl).1
 have l:=(c 1 _ rfl).1
 have N:=(c 2 _ rfl).1
 have L:=O8 (GD h x y i n k g.uD)
 have B:Hid (∀d,BW h d->CL 150 #[IV n,SL p m C,.func (.func 151) #[] #[PT q]] d (lh E F n w)):=λd u=>by have a:=af o u;refine (Gt d q i n k E ⟨g.bA,(u.cell (O9 _ _ l)).trans l,g.bC.ag a,g.inr,g.short⟩ p m C F (G.ag a) hF g.uD D).mono ?_;rintro e R ⟨v,r,rfl,⟨b,s,t,O,P⟩,Q⟩;exact ⟨v,r,rfl,⟨b,s,t,af a O,PG a.size P⟩,Q⟩
 have T:=g.uD
 clear g G hF c o
 go_enter func112,ntmps112
 go_upto_region 1 with(fail)
 have K:Hid (∀d,BW h d->CA d q 1 (SL i n k)):=λd u=>(u.cell (O9 _ _ l)).trans l
 go_upto_region 3 with(go_at_call 148;apply L.o.mono;rintro e d ⟨rfl,a⟩;have z:=O8 (K.o d a);have A:=O8 (B.o d a);clear a)
 clear j H M l N
 have S:=z.o
 go_wp2_with (go_at_call 150;apply A.o.mono;rintro e R ⟨v,r,rfl,s,t⟩;have I:=O8 s;have J:=O8 t;clear s t)
 go_ret
 exact ⟨_,r,rfl,I.o,J.o⟩
def Cq(w c d a n b i)(h:i<n):
 CL 62 #[.agg #[c,SL a n b,d],IV i] w λe g=>e=RT (.bool true)/\g=w.alloc (CE #[c,SL a n b,d] 55):=by
 have f:(i:Int)<n:=ZO
 go_enter func62,ntmps62
 go_wp2
 go_ret
 exact ⟨rfl,rfl⟩
def RS:=@Go.Proofs.Tryz.underlying23
def ze(w:WD)(e:Ending)(b:WD):Prop:=∃a l c,e=RT (SL a l c)/\BW w b
def Dz(w a n c r)(h:aG .i64 w a n r)(A:n<=1000000000):CL 91 #[SL a n c] w (ze w):=by
 cases a with
 |none=>exact (Tryz.slices_Clone_int_nil n c w).mono λe o ⟨d,f⟩=>⟨none,0,0,d,by rw [f];exact Pn _ _⟩
 |some s=>
  have i:∀k o (m:Nat) (q:List Value),World.ownsRow o w.heap.size 3 1 k m q->∃a l c,k=SL a l c:=λk o m q h=>by obtain ⟨d,-⟩|⟨g,t,u,d,-⟩:=h.2;exact ⟨none,0,0,d⟩;exact ⟨_,_,_,d⟩
  obtain rfl|B:=Qv n;refine (Tryz.slices_Clone_int_zero s c w).mono ?_;rintro e o ⟨k,rfl,d,-,f⟩;obtain ⟨a,l,c,rfl⟩:=i _ _ _ _ d;exact ⟨a,l,c,rfl,f⟩;obtain ⟨z,x|⟨b,p,e,v⟩⟩:=h;omega;cases e
  refine (Tryz.slices_Clone_int b p n c r w ZO ZO (λj y=>v j ZO)).mono ?_;rintro e o ⟨k,rfl,d,-,f⟩;obtain ⟨a,l,c,rfl⟩:=i _ _ _ _ d;exact ⟨a,l,c,rfl,f⟩
def Tryz.xf:(prog.info? 45).map (λi=>(i.zero,i.size,i.bytes))=some (some (UV 0),1,8):=ZK
def Dy(w a n c f)(h:aG .u64 w a n f)(s:n<=1000000000):CL 129 #[SL a n c] w (ze w):=by
 have⟨b,m,p,o,k⟩:=P6 Tryz.xf;have l:=λW=>Rb (P:=prog) W 23 45 a n c 0 0 RS;cases a with
 |none=>clear h;go_enter func129,ntmps129;go_wp2;go_ret;exact ⟨none,0,0,rfl,Pn _ _⟩
 |some j=>have i:=O8 h;clear h;go_enter func129,ntmps129;go_wp2_with (at_builtin;refine qE rfl (.tmp 5) (.tmp 6) 23 rfl .u64 45 b (UV 0) 8 RS m p o k rfl ZD rfl (some j) n c f rfl i.o (λe=>ZC e) ZO ?_;intro q r t d;have g:=O8 d;clear d);go_ret;exact ⟨_,_,_,rfl,g.o.2.1⟩
def vV(w:WD)(l:List Nat)(e:Ending)(b:WD):Prop:=∃a m c,e=RT (SL a m c)/\aF .i64 3 w b (SL a m c) (aE l)
def zB(w J K A n C D U r)(P:dq w D n r)(hn:n<=65536):
 CL 61 #[.agg #[J,SL A n C,K],SL D n U] w (vV w ((List.range n).filter r)):=by
 have⟨X,F,I,H,E⟩:=P6 Tryz.eA
 have⟨j,i⟩:=EX (w.alloc (CE #[J,SL A n C,K] 55))
 have f:BW w j:=i▸ah _ _
 have e:=aT w #[J,SL A n C,K] 55
 rw [i]at e
 have B:=(e 1 _ rfl).1
 have S:Hid (∀L,BW j L->dq L D n r):=λL V=>P.ag (af f V)
 have x:=O8 f
 have p:min (n:Int) (n:Int)=n:=Int.min_self _
 clear P e f
 go_enter func61,ntmps61
 go_upto_region 1 with(fail)
 clear i
 go_wp2
 go_loopw [5,13] (λo v wr=>∃(k:Nat)(a:OA)(m c:Nat),k<=n/\o=SL a m c/\v=IV k/\m<=k/\Hid (aF .i64 3 j wr (SL a m c) (aE ((List.range k).filter r)))) (λ_ v _=>n-(intOf v).toNat)
 exact ⟨0,none,0,0,Pz _,rfl,rfl,Pf _,O8 (lJ _ _ _)⟩
 clear B
 obtain ⟨k,a,m,c,hk,rfl,rfl,W,u⟩:=hrel
 by_cases G:k<n
 ·have O:(k:Int)<n:=ZO;obtain ⟨b,Y,rfl,N⟩:=S.o wr u.o.2.1
  have M:=N k G;have d:(List.range (k+1)).filter r=(List.range k).filter r++(if r k then [k]else []):=by rw [QQ,QA];cases h:r k<;>simp [h]
  have t:=O8 u.o;clear N u;cases s:r k
  ·rw [s]at M d;have y:Hid ((List.range (k+1)).filter r=(List.range k).filter r):=by rw [d];exact O8 (Qb _)
   clear d;go_wp2;go_roundw;exact ⟨k+1,_,m,_,ZO,rfl,ZN,ZO,ZR y.o t⟩;simp [intOf];omega
  ·rw [s]at M d;have y:Hid (aE ((List.range (k+1)).filter r)=aE ((List.range k).filter r)++[(k:Int)]):=by rw [d,iz];exact O8 rfl
   have g:=gy t.o;have R:Hid (Sl wr 3 (SL a m c) m ((aE ((List.range k).filter r)).map (Value.int .i64))):=by have:=t.o.1;rw [g]at this;exact this
   have z:=O8 g;clear d g;go_wp2_with (at_builtin;refine av rfl (.tmp 20) (.tmp 22) 33 rfl 3 X (IV 0) 8 QD F I H E rfl ZD (SL a m c) _ _ rfl R.o _ rfl rfl ZO ?_;intro Z B w5 Q l q;have T:=O8 (ef t.o z.o Q l q);clear Q l q);go_roundw;exact ⟨k+1,_,m+1,B,ZO,rfl,ZN,ZO,ZR y.o T⟩;simp [intOf];omega
 ·obtain rfl:k=n:=ZO;clear p
  go_wp2;go_ret;exact ⟨_,_,_,rfl,gY x.o u.o⟩
section
def Tryz.AM:(prog.info? 64).map (λi=>(i.zero,i.size,i.bytes))=some (some (SN),1,24):=ZK
def Tryz.DN:(prog.info? 66).map (λi=>(i.zero,i.size,i.bytes))=some (some (.agg #[IV 0,IV 0]),2,16):=ZK
def bK:List (Int×Int)->List Value
 |[]=>[]
 |t::r=>IV t.1::IV t.2::bK r
def oJ:∀l:List (Int×Int),(bK l).length=l.length*2
 |[]=>rfl
 |t::r=>by show(bK r).length+1+1=(r.length+1)*2;rw [oJ r];omega
def j5(x):∀l:List (Int×Int),bK (l++[x])=bK l++[IV x.1,IV x.2]
 |[]=>rfl
 |t::r=>by show _::_::bK (r++[x])=_;rw [j5 x r];rfl
def mi:∀l j,j<l.length->(bK l)[j*2]? =some (IV ((l.map Prod.fst).getD j 0))/\∃a,(bK l)[j*2+1]? =some (IV a)
 |[],j,h=>by simp at h
 |t::r,0,_=>⟨rfl,_,rfl⟩
 |t::r,j+1,h=>by have c:j<r.length:=ZX h;have⟨d,e⟩:=mi r j c;have b:(j+1)*2=j*2+1+1:=ZO;rw [b];exact ⟨d,e⟩
def xE{w o a K Q}(s x)
 (I:o.op=.call {callee:=.builtin .append,args:=#[s,x],argTypes:=#[64,64]})
 (i z) (F:prog.info? 66=some i) (N:i.zero=some z)
 (d:i.size=2) (u:i.bytes=16) (D:z.cells.size=2)
 (v n X) (S:X.length=n) (L:a.eval s=v) (m:w.ownsRow 0 66 2 v n (bK X))
 (b y) (M:a.eval x=SV b 1 1) (A:CA w b 0 (IV y.1)) (B:CA w b 1 (IV y.2)) (t:n<=4000000000000)
 (h:∀q r,r.ownsRow 0 66 2 q (n+1) (bK (X++[y]))->aj (λk=>v.ownBlock=some k) w r->dQ w v q->K (a.put o.dst q) r):aY prog o a w K Q:=by
 constructor
 have⟨q,r,J,E,f,_,l⟩:=Tk (P:=prog) w 0 64 o.type 66 i z 2 16 underlying64 F N d u D ZD v n (bK X) m (AD b 0) 1 1 [IV y.1,IV y.2] rfl (by
  intro j O c;match j,c with
  |0,c=>
   simp at c;subst c;have:((AD b 0):Addr).add 0=(AD b 0):=by simp [Addr.add]
   rw [this];exact A
  |1,c=>
   simp at c;subst c;have:((AD b 0):Addr).add 1=(AD b 1):=by simp [Addr.add]
   rw [this];exact B
  |j+2,c=>simp at c) (by intro O p;simp at p;rcases p with rfl|rfl<;>rfl) (by unfold maxLen;omega) ZO (Pz _)
 unfold Oper.wp execOp
 simp only [I,resolve,invoke,builtin,Rv,R6,Q9,Rm,Pv,PE,L,M,J]
 refine h q r (by rw [j5];exact E) ⟨f.os,f.tape,f.output,f.size,λk G H=>f.block k G (λe=>H e.symm)⟩ ?_
 obtain l|l:=l
 exact .inl l
 exact .inr ⟨_,l,Pf _⟩
structure ES (w2 w:WD) (g:Nat) (V:Nat->Value) (R:Nat) (C:Nat->List (Int×Int)):Prop where
 dW:Sl w 64 (SV g R R) R ((List.range R).map V)
 row:∀i,i<R->w.ownsRow 0 66 2 (V i) (C i).length (bK (C i))
 apart:∀i j b,i<R->j<R->(V i).ownBlock=some b->(V j).ownBlock=some b->i=j
 off:∀i,i<R->(V i).ownBlock≠some g
 dJ:w2.heap.size<=g
 lM:∀i b,i<R->(V i).ownBlock=some b->w2.heap.size<=b
section
variable {w2 w w1:WD} {g:Nat} {V:Nat->Value} {R:Nat} {C:Nat->List (Int×Int)}
def ES.ax{S}(h:ES w2 w g V R C)(c:aj S w w1)(d:¬S g)(f:∀i b,i<R->(V i).ownBlock=some b->¬S b):ES w2 w1 g V R C:=
 {h with dW:=Sl.ax h.dW c (λb e=>by cases e;exact d),row:=λi a=>bp (h.row i a) c (λb e=>f i b a e)}
def ES.lt(h:ES w2 w g V R C):g<w.heap.size:=h.dW.lt g rfl
def ES.ag(h:ES w2 w g V R C)(a:BW w w1):ES w2 w1 g V R C:=
 h.ax (aj.aC a) (λe=>ZH h.lt) (λi b c e s=>ZH (dx (h.row i c) b e))
def ES.at(h:ES w2 w g V R C)(i)(d:i<R):w.cell? (AD g i)=some (V i)/\w.frozen? (AD g i)=false:=by
 have b:=h.dW;have⟨a,c,e,k⟩:=b.shape;cases e
 have⟨l,f,_,j⟩:=k i d;cases f
 exact ⟨by rw [j];simp [d],Ro (size:=1) b i⟩
def ES.dT(h:ES w2 w g V R C){i}(t:i<R){x u}(E:w1.ownsRow 0 66 2 u ((C i).length+1) (bK (C i++[x])))(z:aj (λk=>(V i).ownBlock=some k) w w1)(q:dQ w (V i) u)(hw:w2.heap.size<=w.heap.size):
 ES w2 (w1.setCell (AD g i) u) g (up V i u) R (up C i (C i++[x])):=by
 have A:∀b,u.ownBlock=some b->(V i).ownBlock=some b\/w.heap.size<=b:=λb e=>by obtain q|⟨F,r,q⟩:=q;rw [q]at e;exact .inl e;rw [r]at e;cases e;exact .inr q
 have y:u.ownBlock≠some g:=λe=>by obtain d|d:=A g e;exact h.off i t d;have:=h.lt;omega
 have o:aj (λk=>k=g) w1 (w1.setCell (AD g i) u):=(aj.refl (λk=>k=g) w1).setCell (p:=(AD g i)) (λ_=>rfl) u
 have v:Sl w1 64 (SV g R R) R ((List.range R).map V):=Sl.ax h.dW z (λb e f=>by cases e;exact h.off i t f)
 have a:∀j b,j<R->(up V i u j).ownBlock=some b->((V j).ownBlock=some b)\/(j=i/\w.heap.size<=b):=λj b c e=>by by_cases m:j=i;subst m;rw [aA]at e;exact (A b e).imp id (λh=>⟨rfl,h⟩);rw [an _ _ _ _ m]at e;exact .inl e
 refine ⟨?_,λj c=>?_,λj k b c l B f=>?_,λj c e=>?_,h.dJ,λj b c e=>?_⟩
 have:=(RU v i u).1
 have e:((List.range R).map V).set i u=(List.range R).map (up V i u):=by refine Rl ZS λj d n=>?_;simp only [T5,Tp,S6,up];by_cases e:i=j;subst e;simp;rw [Qa e,Qa (λr=>e r.symm)]
 rw [e]at this
 exact this
 by_cases m:j=i
 subst m
 rw [aA,aA,Pk]
 exact bp E o (λb e f=>y (by rw [e,f]))
 rw [an _ _ _ _ m,an _ _ _ _ m]
 exact bp (bp (h.row j c) z (λb e f=>m (h.apart j i b c t e f))) o (λb e f=>h.off j c (by rw [e,f]))
 obtain d|⟨d,D⟩:=a j b c B
 obtain n|⟨n,s⟩:=a k b l f
 exact h.apart j k b c l d n
 have:=dx (h.row j c) b d;omega
 obtain n|⟨n,s⟩:=a k b l f
 have:=dx (h.row k l) b n;omega
 omega
 obtain d|⟨_,d⟩:=a j g c e
 exact h.off j c d
 have:=h.lt;omega
 obtain d|⟨_,d⟩:=a j b c e
 exact h.lM j b c d
 omega
def Gk(C:Nat->List (Int×Int))(R:Nat):List (List Int):=(List.range R).map λi=>(C i).map Prod.fst
def kJ(C R):(Gk C R).length=R:=by simp [Gk]
def nw(C){R i}(a:i<R):(Gk C R).getD i []=(C i).map Prod.fst:=by simp [Gk,Pd,a]
def ES.fm(h:ES w2 w g V R C):Scc.fe w (some (AD g 0)) (Gk C R):=by refine .inr ⟨g,0,rfl,λi a=>?_⟩;rw [kJ]at a;rw [nw C a];refine ⟨V i,by rw [PU];exact (h.at i a).1,?_⟩;have c:=h.row i a;obtain ⟨e,k⟩|⟨b,f,n,e,m⟩:=c.2;exact ⟨none,0,by rw [e,PB,k],.inl (by rw [PB];exact k)⟩;refine ⟨some (AD b 0),f,by rw [PB];exact e,.inr ⟨b,0,rfl,λj l=>?_⟩⟩;rw [PB]at l;rw [e]at c;have⟨o,d,p⟩:=mi (C i) j l;refine ⟨?_,d,?_⟩;rw [PU,Qj (size:=2) c (j*2) ZO];exact o;rw [PU,Qj (size:=2) c (j*2+1) ZO];exact p
def ES.aM(a:w1.ownsRow 0 64 1 (SV w.heap.size R R) R (madeCells (SN).cells (R*1)).toList)(hw:w2.heap.size<=w.heap.size):
 ES w2 w1 w.heap.size (λ_=>SN) R (λ_=>[]):=by
 rw [bM (SN) rfl]at a
 refine ⟨?_,λi _=>Qd _ _ _ _,λi j b _ _ e=>(ZC e),λi _ e=>(ZC e),hw,λi b _ e=>(ZC e)⟩
 have:(List.range R).map (λ_=>SN)=List.replicate R (SN):=by refine Rl ZS λi c d=>ZS
 rw [this];exact a
end
structure HW (x0 x2:Value) (w8 w:WD) (gh g:Nat) (V:Nat->Value) (R:Nat) (C:Nat->List (Int×Int)):Prop where
 es:ES w8 w g V R C
 c0:w.cell? (AD gh 0)=some x0
 c1:w.cell? (AD gh 1)=some (SV g R R)
 c2:w.cell? (AD gh 2)=some x2
 fz:w.frozen? (AD gh 1)=false
 ne:gh≠g
 Lw:∀i,i<R->(V i).ownBlock≠some gh
 aJ:BW w8 w
section
variable {x0 x2:Value} {w8 w w1:WD} {gh g:Nat} {V:Nat->Value} {R:Nat} {C:Nat->List (Int×Int)}
def HW.ag(h:HW x0 x2 w8 w gh g V R C)(a:BW w w1):HW x0 x2 w8 w1 gh g V R C:=
 ⟨h.es.ag a,(a.cell (O9 w _ h.c0)).trans h.c0,(a.cell (O9 w _ h.c1)).trans h.c1,(a.cell (O9 w _ h.c2)).trans h.c2,(PK (a.block gh (O9 w _ h.c2))).trans h.fz,h.ne,h.Lw,h.aJ.trans (a.mono h.aJ.size)⟩
def HW.dT(h:HW x0 x2 w8 w gh g V R C){i}(b:i<R){x u}(q:w1.ownsRow 0 66 2 u ((C i).length+1) (bK (C i++[x])))(c:aj (λk=>(V i).ownBlock=some k) w w1)(f:dQ w (V i) u):
 HW x0 x2 w8 (w1.setCell (AD g i) u) gh g (up V i u) R (up C i (C i++[x])):=by
 have a:aj (λk=>k=g) w1 (w1.setCell (AD g i) u):=(aj.refl (λk=>k=g) w1).setCell (p:=(AD g i)) (λ_=>rfl) u
 have d:gh<w.heap.size:=O9 w _ h.c0
 refine ⟨h.es.dT b q c f h.aJ.size,a.aq (c.aq h.c0 (h.Lw i b)) h.ne,a.aq (c.aq h.c1 (h.Lw i b)) h.ne,a.aq (c.aq h.c2 (h.Lw i b)) h.ne,(PK (a.block gh (Ps d c.size) h.ne)).trans ((PK (c.block gh d (h.Lw i b))).trans h.fz),h.ne,λj n e=>?_,?_⟩
 by_cases l:j=i
 subst l
 rw [aA]at e
 obtain f|⟨r,m,f⟩:=f
 rw [f]at e;exact h.Lw j b e
 rw [m]at e;cases e;omega
 rw [an _ _ _ _ l]at e;exact h.Lw j n e
 exact (h.aJ.trans (c.ag h.aJ.size (λk o e=>ZH (h.es.lM i k b e)))).setCell h.es.dJ _
def zP{i c j f}(h:HW x0 x2 w8 w gh g V R C)(l:i<R)(m:V i=SL f c j)(p:(C i).length=c):w.cell? (AD g i)=some (SL f c j)/\
 Hid (∀W,HW x0 x2 w8 W gh g V R C->W.ownsRow 0 66 2 (SL f c j) c (bK (C i)))/\
 Hid (∀W b,HW x0 x2 w8 W gh g V R C->aj (λk=>(SL f c j).ownBlock=some k) W b->b.frozen? (AD g i)=false/\b.cell? (AD g i)=some (SL f c j)/\b.cell? (AD gh 1)=some (SV g R R)/\BW w8 b)/\
 Hid (∀W b o x,HW x0 x2 w8 W gh g V R C->b.ownsRow 0 66 2 o (c+1) (bK (C i++[x]))->aj (λk=>(SL f c j).ownBlock=some k) W b->dQ W (SL f c j) o->
  HW x0 x2 w8 (b.setCell (AD g i) o) gh g (up V i o) R (up C i (C i++[x]))):=by
 refine ⟨by rw [(h.es.at i l).1,m],λW a=>?_,λW b a d=>?_,λW b o x a r d q=>?_⟩
 have:=a.es.row i l
 rwa [m,p]at this
 rw [<-m]at d
 have n:¬(V i).ownBlock=some g:=a.es.off i l
 have⟨s,t⟩:=a.es.at i l
 refine ⟨(PK (d.block g a.es.lt n)).trans t,ZR m.symm (d.aq s n),d.aq a.c1 (a.Lw i l),a.aJ.trans (d.ag a.aJ.size (λk u e=>ZH (a.es.lM i k l e)))⟩
 rw [<-m]at d q
 rw [<-p]at r
 exact a.dT l r d q
end
end
section
def Ve:=@Go.Proofs.Tryz.underlying53
structure iW (E:List (List Int)) (n x k:Nat) (C:Nat->List (Int×Int)):Prop where
 mem:∀i,i<n->∀z:Int,z∈(C i).map Prod.fst↔∃a:Nat,z=(a:Int)/\((a<x/\(i:Int)∈E.getD a [])\/(a=x/\(i:Int)∈(E.getD x []).take k))
 bA:∀i,i<n->(C i).length<=x*16777216+k
section
variable {E:List (List Int)} {n x k:Nat} {C:Nat->List (Int×Int)}
def iW.aM(E n):iW E n 0 0 (λ_=>[]):=⟨λi b z=>⟨λh=>(ZC h),λ⟨a,_,h⟩=>by obtain ⟨h,_⟩|⟨_,h⟩:=h;omega;cases h⟩,λi b=>Pz _⟩
def iW.dT(h:iW E n x k C){t:Nat}{g}(j:k<(E.getD x []).length)(l:(E.getD x []).getD k 0=(t:Int)):iW E n x (k+1) (up C t (C t++[((x:Int),g)])):=by refine ⟨λi f z=>?_,λi f=>?_⟩;rw [z7 _ k j,l];by_cases e:i=t;subst e;rw [aA,Qg,PC,h.mem i f z];constructor;rintro (⟨a,d,b|⟨b,c⟩⟩|b);exact ⟨a,d,.inl b⟩;exact ⟨a,d,.inr ⟨b,P0 _ c⟩⟩;exact ⟨x,Pc.1 b,.inr ⟨rfl,Qt _ (Pc.2 rfl)⟩⟩;rintro ⟨a,d,b|⟨b,c⟩⟩;exact .inl ⟨a,d,.inl b⟩;obtain c|c:=PC.1 c;exact .inl ⟨a,d,.inr ⟨b,c⟩⟩;subst b;exact .inr (Pc.2 d);rw [an _ _ _ _ e,h.mem i f z];constructor;rintro ⟨a,d,b|⟨b,c⟩⟩;exact ⟨a,d,.inl b⟩;exact ⟨a,d,.inr ⟨b,P0 _ c⟩⟩;rintro ⟨a,d,b|⟨b,c⟩⟩;exact ⟨a,d,.inl b⟩;obtain c|c:=PC.1 c;exact ⟨a,d,.inr ⟨b,c⟩⟩;have:=Pc.1 c;omega;have:=h.bA i f;by_cases e:i=t;subst e;rw [aA,Pk,Qi];omega;rw [an _ _ _ _ e];omega
def iW.next(h:iW E n x (E.getD x []).length C)(j:(E.getD x []).length<=16777216):iW E n (x+1) 0 C:=by
 have f:∀i,i<n->(C i).length<=(x+1)*16777216+0:=λi g=>by have c:=h.bA i g;rw [Tg];exact PG c (Nat.add_le_add_left j _)
 refine ⟨λi g z=>?_,f⟩;rw [h.mem i g z,SR];constructor;rintro ⟨a,d,⟨c,b⟩|⟨c,b⟩⟩;exact ⟨a,d,.inl ⟨ZO,b⟩⟩;subst c;exact ⟨a,d,.inl ⟨ZO,b⟩⟩;rintro ⟨a,d,⟨c,b⟩|⟨_,b⟩⟩;by_cases e:a=x;subst e;exact ⟨a,d,.inr ⟨rfl,b⟩⟩;exact ⟨a,d,.inl ⟨ZO,b⟩⟩;cases b
def iW.gn(h:iW E n n 0 C)(f:E.length=n)(i j):gn (Gk C n) i j↔gn E j i:=by
 unfold Own.gn;rw [kJ,f];constructor;rintro ⟨b,c,d⟩;rw [nw C b,h.mem i b]at d;obtain ⟨a,l,⟨g,e⟩|⟨_,e⟩⟩:=d;have:j=a:=ZO;subst this;exact ⟨c,b,e⟩;cases e
 rintro ⟨b,c,d⟩;refine ⟨c,b,?_⟩;rw [nw C c,h.mem i c];exact ⟨j,rfl,.inl ⟨b,d⟩⟩
def iW.inr(h:iW E n n 0 C):∀i,i<n->∀z∈(Gk C n).getD i [],0<=z/\z<(n:Int):=λi c z d=>by rw [nw C c,h.mem i c]at d;obtain ⟨a,f,⟨e,b⟩|⟨_,b⟩⟩:=d;omega;cases b
end
def xQ{E d}(h:∀i j,gn d i j↔gn E j i){x y}(f:Own.aZ d x y):Own.aZ E y x:=
 f.closed (S:=λz=>Own.aZ E z x) (λa b e c=>Own.aZ.Gw ((h a b).1 c) e) (Own.aZ.refl E x)
def ES.Bh{w2 a g R}(c:Sl a 64 (SV g R R) R (List.replicate R (SN)))(hw:w2.heap.size<=g):ES w2 a g (λ_=>SN) R (λ_=>[]):=by
 refine ⟨?_,λi _=>Qd _ _ _ _,λi j b _ _ e=>(ZC e),λi _ e=>(ZC e),hw,λi b _ e=>(ZC e)⟩;have:(List.range R).map (λ_=>SN)=List.replicate R (SN):=by refine Rl ZS λi d f=>ZS
 rw [this];exact c
def HW.Bh{d w l g a n x0 x2}(p:Sl w 64 (SV g n n) n (List.replicate n (SN)))(y:d.heap.size<=g)(m:BW d w)(z:d.heap.size<=a)
 (h:HC w a #[SN,SN,SN] 55) (e:l=((w.setCell (AD a 0) x0).setCell (AD a 1) (SV g n n)).setCell (AD a 2) x2):
 HW x0 x2 d l a g (λ_=>SN) n (λ_=>[]):=by
 have q:CA w a 0 (SN):=CH h
 have r:CA w a 1 (SN):=CH h
 have s:CA w a 2 (SN):=CH h
 have⟨t,u,v,o⟩:=bX q r s l e
 have f:a≠g:=λc=>S8 p h ZD (by rw [<-c];rfl)
 have j:=(ES.Bh (w2:=d) p y).ax o (λc=>f c.symm) (λi b _ c=>ZC c)
 refine ⟨j,t,u,v,?_,f,λi _ c=>(ZC c),m.trans (o.ag m.size (λk A B=>ZO))⟩
 rw [e]
 simp only [Qo]
 exact Pg h 1
def mB{w:WD}{e b v n f}(h:w.ownsRow 0 e b v n f):∃a l c,v=SL a l c:=by have⟨a,c,d⟩:=bF h;exact ⟨a,n,c,d⟩
def Mn(w:WD)(n:Nat)(E:List (List Int))(e:Ending)(d:WD):Prop:=
 ∃g h c f b,e=RT (.agg #[g,SL c n f,h])/\eG d c n b/\(∀i j,gn b i j↔gn E j i)/\BW w d/\∀a,aj (λk=>k<w.heap.size) d a->eG a c n b
def EG(w:WD)(n:Nat)(E:List (List Int))(e:Ending)(c:WD):Prop:=
 ∃f g b d a,e=RT (.agg #[f,SL b n d,g])/\eG c b n a/\(∀i j,gn a i j↔gn E j i)/\BW w c
def Aa(w O J U I P M W L ae n ce E)(hg:eG w ae n E)(hI:aG .i64 w O J I)(hL:aG .u64 w P M L)(bI:J<=1000000000)(bK:M<=1000000000)(ak:∀i,i<n->(E.getD i []).length<=16777216):
 CL 90 #[.agg #[SL O J U,SL ae n ce,SL P M W]] w (Mn w n E):=by
 have⟨bN,bh,bp,bn,bc⟩:=P6 Tryz.AM
 have⟨bO,bi,bq,bo,bd⟩:=P6 Tryz.DN
 have⟨q,hq⟩:=EX w.heap.size
 have⟨m,N⟩:=EX ((w.alloc (CE #[SL O J U,SL ae n ce,SL P M W] 55)).alloc (CE #[SN,SN,SN] 55))
 have ab:Below w.heap.size w m:=N▸af (ah _ _) (ah _ _)
 have s1:m.heap.size=q+1+1:=by rw [<-N,PL,PL,hq]
 have aH:m.heap[q]? =some (.cells #[SL O J U,SL ae n ce,SL P M W] 55 (0,0)):=by rw [<-N,<-hq,(Ph _ _).2 _ (by rw [PL];omega)];exact (Ph w _).1
 have bf:m.heap[q+1]? =some (.cells #[SN,SN,SN] 55 (0,0)):=by rw [<-N,<-hq,<-PL w (CE #[SL O J U,SL ae n ce,SL P M W] 55)];exact (Ph _ _).1
 have am:Hid (∀j,Below m.heap.size m j->j.cell? (AD q 0)=some (SL O J U)/\j.cell? (AD q 1)=some (SL ae n ce)/\j.cell? (AD q 2)=some (SL P M W)):=λj h=>by have h2:=(h.block q (Pb.1 aH).1).trans aH;exact ⟨CH h2,CH h2,CH h2⟩
 have a0:Hid (∀j,Below m.heap.size m j->CL 91 #[SL O J U] j (ze j)):=λj F=>Dz j O J U I (hI.ag (af ab F)) bI
 have a1:Hid (∀j,Below m.heap.size m j->CL 129 #[SL P M W] j (ze j)):=λj F=>Dy j P M W L (hL.ag (af ab F)) bK
 have HG:=O8 hg
 have a9:=O8 ak
 have bw:Hid (∀j,Below m.heap.size m j->eG j ae n E):=λj F=>hg.ag (af ab F)
 have aZ:=O8 ab
 have bu:=O8 bf
 have HQ:=O8 hq
 have a8:=O8 s1
 have hn:=hg.uD
 have bx:Hid (∀j t,t<n->CL 62 #[.agg #[SL O J U,SL ae n ce,SL P M W],IV t] j λe av=>e=RT (.bool true)/\av=j.alloc (CE #[SL O J U,SL ae n ce,SL P M W] 55)):=λj t ht=>Cq j _ _ ae n ce t ht
 clear hg hI hL ak ab aH bf s1
 go_enter func90,ntmps90
 go_upto_region 1 with(fail)
 (try rw [N])
 (try rw [hq])
 clear N hq
 have⟨e0,e1,e2⟩:=am.o m (Pn _ _)
 have a5:Hid (∀W',Below m.drew.heap.size m.drew W'->W'.cell? (AD q 0)=some (SL O J U)/\W'.cell? (AD q 1)=some (SL ae n ce)/\W'.cell? (AD q 2)=some (SL P M W)):=λj F=>am.o j ((Pn _ m).drew.trans F)
 refine aw 12 (S:=λW'=>W'.cell? (AD q 0)=some (SL O J U)/\W'.cell? (AD q 1)=some (SL ae n ce)/\W'.cell? (AD q 2)=some (SL P M W)) ZK (⟨e0,e1,e2⟩) (λy=>?_)
 refine aB 0 ?_
 refine aB 1 ?_
 refine aB 3 ?_
 refine aB 4 ?_
 refine aB 6 ?_
 refine aB 7 ?_
 refine aB 8 ?_
 clear y e0 e1 e2
 refine bY [2,5,9,10,11] (λi=>if i=2 then 10 else if i=5 then 13 else if i=9 then 17 else if i=10 then 18 else 3) #[true,true,true,true,true,true,true,true,true,true,true,true,false] 1
  (λi u w=>match i with|2=>∃a l c,u=SL a l c|5=>∃a l c,u=SL a l c|9=>∃g,u=SV g n n/\m.heap.size<=g/\Sl w 64 (SV g n n) n (List.replicate n (SN))|10=>∃a l c Y l2 Z g,u=.agg #[SL a l c,SV g n n,SL Y l2 Z]/\m.heap.size<=g/\Sl w 64 (SV g n n) n (List.replicate n (SN))|_=>∃b,u=PT b/\m.heap.size<=b/\w.heap[b]? =some (.cells #[SN,SN,SN] 55 (0,0))) ZK ZK rfl ZD ?st1 ?st2 ZD ?st3 ?st4
 case st1=>intro i u w4 w5 hu F;split at hu;exact hu;exact hu;obtain ⟨g,e,h1,h⟩:=hu;exact ⟨g,e,h1,h.ax (aj.aC F) (λk e2 s=>ZH (h.lt k e2))⟩;obtain ⟨a,l,c,Y,l2,Z,g,e,h1,h⟩:=hu;exact ⟨a,l,c,Y,l2,Z,g,e,h1,h.ax (aj.aC F) (λk e2 s=>ZH (h.lt k e2))⟩;obtain ⟨b,e,h1,h⟩:=hu;exact ⟨b,e,h1,(F.block b (Pb.1 h).1).trans h⟩
 case st2=>exact a5.o
 case st3=>rintro l V j i o hl bV hi ho hr hJ K p;simp only [PO,QL,Sh]at hi;obtain rfl|rfl|rfl|rfl|rfl:=hi;simp only [PA,Pt,Pu,PJ]at ho;subst ho;refine aO (R:=ze j) (f:=91) (args:=#[SL O J U]) (a0.o j ((Pn _ m).drew.trans hJ.aJ)) ?_ (λe w4 ⟨a,l,c,he,F⟩=>⟨_,he,p _ w4 F ⟨a,l,c,rfl⟩⟩);clear p;refine ZY ?_;go_simp;simp only [PA,Pt,Pu,PJ]at ho;subst ho;refine aO (R:=ze j) (f:=129) (args:=#[SL P M W]) (a1.o j ((Pn _ m).drew.trans hJ.aJ)) ?_ (λe w4 ⟨a,l,c,he,F⟩=>⟨_,he,p _ w4 F ⟨a,l,c,rfl⟩⟩);clear p;refine ZY ?_;go_simp;simp only [PA,Pt,Pu,PJ]at ho;subst ho;refine kR (.tmp 16) (.tmp 16) 53 rfl 64 bN (SN) Ve bh bp bn rfl n ?_ ?_ (by rw [bc];omega) (by unfold maxLen;omega) (λw4 hs hk=>p _ w4 (hk.ag (Pf _) (λ_ _ h=>h)) ⟨_,rfl,hJ.aJ.size,hs⟩);clear p;refine ZY ?_;rfl;clear p;refine ZY ?_;rfl;simp only [PA,Pt,Pu,PJ]at ho;subst ho;obtain ⟨a,l,c,e2⟩:∃a l c,V 10=SL a l c:=hJ.oZ 2 ZD (bj (l:=[2]) ZK hr 2 ZS);obtain ⟨Y,l2,Z,e5⟩:∃a l c,V 13=SL a l c:=hJ.oZ 5 ZD (bj (l:=[5]) ZK hr 5 ZS);obtain ⟨g,e9,h9,k9⟩:∃g,V 17=SV g n n/\m.heap.size<=g/\Sl j 64 (SV g n n) n (List.replicate n (SN)):=hJ.oZ 9 ZD (bj (l:=[9]) ZK hr 9 ZS);refine cB (v:=.agg #[SL a l c,SV g n n,SL Y l2 Z]) (w':=j) ?_ (p _ _ (Pn _ _) ⟨a,l,c,Y,l2,Z,g,rfl,h9,k9⟩);clear p;refine ZY ?_;rw [e2,e5,e9];go_simp;simp only [PA,Pt,Pu,PJ]at ho;subst ho;refine cB (v:=PT j.heap.size) (w':=j.alloc (CE #[SN,SN,SN] 55)) ?_ (p _ _ ((Pn _ _).alloc (Pf _) _) ⟨_,rfl,hJ.aJ.size,(Ph j _).1⟩);clear p;refine ZY ?_;go_simp
 case st4=>
  intro V j be hV;refine ZY ?_;have⟨a,l,c,Y,l2,Z,g,aD,T,ay⟩:=hV 10 ZD;have⟨gh,aE,D,r⟩:=hV 11 ZD;change V 18=_ at aD;change V 3=_ at aE;rw [aD,aE];generalize V 10=b3;generalize V 13=b4;generalize V 17=b5;have ax:Below m.heap.size m j:=(Pn _ _).drew.trans be;have c0:j.cell? (AD gh 0)=some (SN):=CH r;have c1:j.cell? (AD gh 1)=some (SN):=CH r;have ao:j.cell? (AD gh 2)=some (SN):=CH r;have z0:j.frozen? (AD gh 0)=false:=Pg r 0;have z1:j.frozen? (AD gh 1)=false:=Pg r 1;have z2:j.frozen? (AD gh 2)=false:=Pg r 2;refine aK 12 λK p=>?_;go_simp;refine p.q ?_;clear p K;refine az ZK ?_;have⟨w4,aP⟩:=EX (((j.setCell (AD gh 0) (SL a l c)).setCell (AD gh 1) (SV g n n)).setCell (AD gh 2) (SL Y l2 Z));rw [aP];have aC:=O8 (HW.Bh (x0:=SL a l c) (x2:=SL Y l2 Z) ay T ax D r aP.symm);have bT:=O8 D;obtain ⟨-,f1,-⟩:=am.o w4 aC.o.aJ;clear aD aE T ay D r ax c0 c1 ao z0 z1 z2 aP be hV a0 a1 a5;go_wp2;go_loopw [22] (λv wr=>∃(x:Nat)(V:Nat->Value)(C:Nat->List (Int×Int)),x<=n/\v=IV x/\Hid (HW (SL a l c) (SL Y l2 Z) m wr gh g V n C)/\Hid (iW E n x 0 C)) (λv _=>n-(intOf v).toNat);exact ⟨0,_,_,Pz _,rfl,aC,O8 (iW.aM E n)⟩;clear aC f1;obtain ⟨x,V,C,hx,rfl,hw,hp⟩:=hrel;by_cases au:x<n
  ·have bR:(x:Int)<n:=ZO;obtain ⟨b,aV,ai,ci,rfl,cr,aI⟩:=(bw.o m (Pn _ _)).bC.at x (by(try unfold BW);rw [HG.o.bA];exact au)
   have⟨al,H⟩:=EX (E.getD x []);have⟨d,hd⟩:=EX al.length;have Q:=O8 H;have HD:=O8 hd;rw [H,hd]at cr;rw [H]at aI;have HK:Hid (∀j,Below m.heap.size m j->j.cell? (AD b (aV+x))=some (SL ai d ci)/\Scc.pO j ai al):=λj F=>⟨(F.cell (O9 _ _ cr)).trans cr,Scc.pO.ag (w:=m) aI F⟩;have bW:d<=16777216:=by have:=a9.o x au;rw [H,hd]at this;exact this
   have bH:=(HK.o wr hw.o.aJ).1;clear cr aI H hd;go_upto_region 5 with(fail);clear bH;go_wp2;go_loopw [29] (λv wr=>∃(k:Nat)(V:Nat->Value)(C:Nat->List (Int×Int)),k<=d/\v=IV k/\Hid (HW (SL a l c) (SL Y l2 Z) m wr gh g V n C)/\Hid (iW E n x k C)) (λv _=>d-(intOf v).toNat);exact ⟨0,V,C,Pz _,rfl,hw,hp⟩;clear hw hp;obtain ⟨k,V,C,hk,rfl,hw,hp⟩:=hrel;by_cases aL:k<d
   ·have bP:(k:Int)<d:=ZO;obtain ⟨b',bS,rfl,ck,B,bG⟩:=(HK.o wr hw.o.aJ).2 k (ZR HD.o aL)
    have⟨z,hz⟩:=EX (al.getD k 0);rw [hz]at ck;have br:z∈E.getD x []:=by rw [Q.o,<-hz,Pd,Pe (ZR HD.o aL)];exact QF _
    have⟨bL,bM⟩:=HG.o.inr x au z br;obtain ⟨t,rfl⟩:∃t:Nat,z=(t:Int):=⟨z.toNat,ZO⟩;have ht:t<n:=ZO;have b2:(t:Int)<n:=ZO;have bz:Hid (iW E n x (k+1) (up C t (C t++[((x:Int),B)]))):=hp.o.dT (by rw [Q.o,HD.o];exact aL) (ZR Q.o hz);have aA:Hid ((C t).length<=4000000000000):=by have:=hp.o.bA t ht;show _<=_;omega
    have⟨qe,bm⟩:=EX wr.heap.size;have⟨wq,aS⟩:=EX (wr.alloc (CE #[IV t,IV B] 66));have aF:Below wr.heap.size wr wq:=aS▸ah _ _;have ap:=aT wr #[IV t,IV B] 66;rw [aS,bm]at ap;have q3:=(ap 0 _ rfl).1;have q4:=(ap 1 _ rfl).1;have⟨G,aR⟩:=EX (wq.alloc (CE #[SL O J U,SL (some (AD b aV)) n ce,SL P M W] 55));have aq:Below wq.heap.size wq G:=aR▸ah _ _;have ac:=af aF aq;have aa:=O8 (hw.o.ag ac);have⟨f0,f1,f2⟩:=am.o wq (hw.o.ag aF).aJ;have r3:=(aq.cell (O9 _ _ q3)).trans q3;have r4:=(aq.cell (O9 _ _ q4)).trans q4;have a7:Hid (∀i,i<n->(V i).ownBlock≠some qe):=λi hi e=>by have:=dx (hw.o.es.row i hi) _ e;omega
    have a4:Hid (CL 62 #[.agg #[SL O J U,SL (some (AD b aV)) n ce,SL P M W],IV t] wq λe av=>e=RT (.bool true)/\av=G):=by rw [<-aR];exact bx.o wq t ht
    have bU:=O8 ac.size;clear hz br bL bM ap aF aq ac aR hp hw;go_upto_region 9 with(go_at_call 62;apply a4.o.mono;rintro e G ⟨rfl,rfl⟩);clear aS bm f0 f1 f2 q3 q4 ck bG;have⟨ar,lr,cr,hv⟩:=mB (aa.o.es.row t ht);have⟨aU,ag⟩:=EX ((C t).length);obtain rfl:lr=aU:=by have h1:=aa.o.es.row t ht;rw [hv]at h1;have⟨_,_,e⟩:=bF h1;rw [ag]at e;exact (P8 e).2.1
    have⟨q2,bE,bv,bD⟩:=zP aa.o ht hv ag;have ba:Hid (¬(SL ar lr cr).ownBlock=some qe):=λe=>a7.o t ht (ZR hv e);have HV:=O8 hv;rw [ag]at aA;have bQ:=aA.o;have a3:=O8 ag;have q1:=aa.o.c1;clear hv ag a7 aA;refine aw 16 (S:=λj=>j.cell? (AD gh 1)=some (SV g n n)/\j.cell? (AD g t)=some (SL ar lr cr)/\j.cell? (AD qe 0)=some (IV t)/\j.cell? (AD qe 1)=some (IV B)) ZK (⟨q1,q2,r3,r4⟩) (λy=>?_);refine aB 0 ?_;refine aB 1 ?_;refine aB 2 ?_;refine aB 3 ?_;refine aB 4 ?_;refine aB 5 ?_;refine aB 6 ?_;refine aB 7 ?_;refine aB 8 ?_;refine aB 9 ?_;refine aB 10 ?_;refine aB 11 ?_;refine aB 12 ?_;refine aB 13 ?_;have X:Hid (Below G.heap.size G (((G).alloc (CE #[IV x,IV B] 66)).drew)):=((Pn _ _).alloc (Pf _) _).drew;have c5:((G).alloc (CE #[IV x,IV B] 66)).drew.cell? (AD G.heap.size 0)=some (IV x):=Py (w:=G) _ 66 G.heap.size 0 rfl;have bb:((G).alloc (CE #[IV x,IV B] 66)).drew.cell? (AD G.heap.size 1)=some (IV B):=Py (w:=G) _ 66 G.heap.size 1 rfl;have bs:=(X.o.cell (O9 _ _ q1)).trans q1;have bt:=(X.o.cell (O9 _ _ q2)).trans q2;have aW:=(X.o.cell (O9 _ _ r3)).trans r3;have aX:=(X.o.cell (O9 _ _ r4)).trans r4;have an:=O8 (aa.o.ag X.o);refine aK 14 λK p=>?_;go_simp;refine p.o _ _ (λ_=>⟨bs,bt,aW,aX⟩) ?_;clear p K;try walk_nrm
    clear y q1 q2 r3 r4 X;generalize ((G).alloc (CE #[IV x,IV B] 66)).drew=b6 at *;(try unfold BW at *);generalize G.heap.size=h5 at *;refine aK 15 λK p=>?_;rw [PW (by rfl)];apply aY.o;refine xE (.tmp 46) (.tmp 51) rfl bO _ bi bq bo bd rfl (SL ar lr cr) lr (C t) a3.o rfl (bE.o _ an.o) h5 ((x:Int),B) rfl c5 bb ZO (λv6 w6 aM ad bl=>?_);have⟨f6,q2,q1,b0⟩:=bv.o _ _ an.o ad;have r3:=ad.aq aW (λe=>ba.o e);have r4:=ad.aq aX (λe=>ba.o e);have bA:=O8 (bD.o _ _ _ _ an.o aM ad bl);obtain ⟨a6,l6,c6,e6⟩:∃a l c,v6=SL a l c:=mB aM;clear aM bl ad bs bt aW aX c5 bb an;subst e6;have y:=And.intro q1 (And.intro q2 (And.intro r3 r4));refine p.o _ _ (λ_=>y) ?_;clear p K;try walk_nrm
    refine aK 16 λK p=>?_;go_simp;refine p.q ?_;clear p K;refine aK 17 λK p=>?_;go_simp;refine p.q ?_;clear p K;refine az ZK ?_;go_wp2;go_roundw;exact ⟨k+1,_,_,ZO,ZN,bA,bz⟩;simp [intOf];omega
   ·obtain rfl:k=d:=ZO;have bB:Hid (iW E n (x+1) 0 C):=by have h1:=hp.o;rw [<-HD.o,<-Q.o]at h1;exact h1.next (a9.o x au)
    clear hp;go_wp2;go_roundw;exact ⟨x+1,_,_,ZO,ZN,hw,bB⟩;simp [intOf];omega
  ·obtain rfl:x=n:=ZO;have o0:=hw.o.c0
   have o1:=hw.o.c1;have o2:=hw.o.c2;have A:wr.heap[q+1]? =some (.cells #[SN,SN,SN] 55 (0,0)):=(hw.o.aJ.block _ (ZH a8.o)).trans bu.o;have c0:wr.cell? (AD (q+1) 0)=some (SN):=CH A;have c1:wr.cell? (AD (q+1) 1)=some (SN):=CH A;have ao:wr.cell? (AD (q+1) 2)=some (SN):=CH A;have z0:wr.frozen? (AD (q+1) 0)=false:=Pg A 0;have z1:wr.frozen? (AD (q+1) 1)=false:=Pg A 1;have z2:wr.frozen? (AD (q+1) 2)=false:=Pg A 2;clear A;go_wp2;(try simp only [Exit.inBlock,Exit.then]);have⟨w9,aQ⟩:=EX (((wr.setCell (AD (q+1) 0) (SL a l c)).setCell (AD (q+1) 1) (SV g x x)).setCell (AD (q+1) 2) (SL Y l2 Z));rw [aQ];have⟨d0,d1,d2,bk⟩:=bX c0 c1 ao w9 aQ.symm;clear aQ c0 c1 ao z0 z1 z2 o0 o1 o2;refine Qz (v:=.agg #[SL a l c,SV g x x,SL Y l2 Z]) ?_ rfl ?_;rw [cX rfl];go_simp;have bZ:m.heap.size<=g:=hw.o.es.dJ;have b1:=a8.o;have bg:=hw.o.es.ax bk (λe=>ZO) (λi b hi e s=>ZH (hw.o.es.lM i b hi e));have ak:∀i,i<(Gk C x).length->((Gk C x).getD i []).length<=4000000000000:=λi hi=>by rw [kJ]at hi;rw [nw C hi,PB];have:=hp.o.bA i hi;omega
   have N:=aZ.o.size;refine ⟨_,_,_,_,Gk C x,rfl,⟨kJ C x,bg.fm,hp.o.inr,ak,hn⟩,hp.o.gn HG.o.bA,?_,λav bJ=>⟨kJ C x,(bg.ax bJ (λe=>ZO) (λi b hi e s=>ZH (hw.o.es.lM i b hi e))).fm,hp.o.inr,ak,hn⟩⟩;have hB:=af aZ.o hw.o.aJ;exact hB.trans (bk.ag hB.size (λk hk e=>ZH HQ.o))
def Kv(w l a p I m b q L c n o E)(A:eG w c n E)(y:aG .i64 w l a I)(z:aG .u64 w m b L)(g:a<=1000000000)(h:b<=1000000000)(j:∀i,i<n->(E.getD i []).length<=16777216):
 CL 90 #[.agg #[SL l a p,SL c n o,SL m b q]] w (EG w n E):=by
 refine (Aa w l a p I m b q L c n o E A y z g h j).mono ?_
 rintro e F ⟨B,D,d,f,r,s,t,u,v,-⟩
 exact ⟨B,D,d,f,r,s,t,u,v⟩
end
end Go.Proofs.YtimniinkpipnmaaGreatDoor
namespace Go.Proofs.YtimniinkpipnmaaGreatDoor.Scc
open Go.Own
def Jy(E:List (List Int))(n v:Nat):Bool:=bL E n (-1) (Im (cD E) n (cD E v))
def mJ(n:Nat)(a:Int)(b:List Int)(u:Nat):Prop:=u<n/\((u:Int)=a\/(u:Int)∈b)
def mf{n u:Nat}{b v r}(h:v<0\/(n:Int)<=v\/v=b):mJ n b (v::r) u↔mJ n b r u:=by unfold mJ;rw [PO];constructor;rintro ⟨c,a|a|a⟩;exact ⟨c,.inl a⟩;exact ⟨c,.inl ZO⟩;exact ⟨c,.inr a⟩;rintro ⟨c,a|a⟩;exact ⟨c,.inl a⟩;exact ⟨c,.inr (.inr a)⟩
def nV{n u c v r}(d:c=-1):mJ n c (v::r) u↔mJ n v r u:=by unfold mJ;rw [PO];constructor;rintro ⟨b,a|a|a⟩;omega;exact ⟨b,.inl a⟩;exact ⟨b,.inr a⟩;rintro ⟨b,a|a⟩;exact ⟨b,.inr (.inl a)⟩;exact ⟨b,.inr (.inr a)⟩
def AG{E}{n:Nat}:∀(i)(c:Int),-1<=c->c<n->∀a b,a≠b->mJ n c i a->mJ n c i b->bL E n c i=true
 |[],c,_,_,a,b,f,d,g=>by
  obtain ⟨_,d|d⟩:=d;obtain ⟨_,g|g⟩:=g;omega;cases g
  cases d
 |v::r,c,k,l,a,b,f,d,g=>by by_cases h:v<0\/(n:Int)<=v\/v=c;rw [im h];exact AG r c k l a b f ((mf h).1 d) ((mf h).1 g);by_cases j:0<=c;exact rO h j;rw [nu h j];have e:c=-1:=ZO;exact AG r v ZO ZO a b f ((nV e).1 d) ((nV e).1 g)
def AF{E}{n:Nat}:∀(i)(c:Int),-1<=c->c<n->∀a,mJ n c i a->(∀b,mJ n c i b->b=a)->bL E n c i=ql E a
 |[],c,_,_,a,d,_=>by obtain ⟨_,d|d⟩:=d;unfold bL;rw [<-d];simp;cases d
 |v::r,c,k,l,a,d,f=>by by_cases h:v<0\/(n:Int)<=v\/v=c;rw [im h];exact AF r c k l a ((mf h).1 d) (λb g=>f b ((mf h).2 g));by_cases j:0<=c;exfalso;have m:=f c.toNat ⟨ZO,.inl ZO⟩;have o:=f v.toNat ⟨ZO,.inr (PO.2 (.inl ZO))⟩;omega;rw [nu h j];have e:c=-1:=ZO;exact AF r v ZO ZO a ((nV e).1 d) (λb g=>f b ((nV e).2 g))
def lD{f n t u}:mJ n (-1) (Im f n t) u↔u<n/\f u=t:=by unfold mJ Im;rw [Uc];constructor;rintro ⟨a,b|⟨v,c,e⟩⟩;omega;rw [PY]at c;obtain rfl:v=u:=ZO;exact ⟨a,Rf c.2⟩;rintro ⟨a,b⟩;exact ⟨a,.inr ⟨u,PY.2 ⟨P5.2 a,Rj b⟩,rfl⟩⟩
def xq(E v):Scc E v (cD E v):=(iM E v).1
def vE{E u v}:cD E u=cD E v↔Scc E u v:=by constructor;intro h;exact (xq E u).trans (ZR h ((xq E v).symm));intro h;refine oF.unique (iM E u) ⟨h.trans (xq E v),λw hw=>(iM E v).2 w (h.symm.trans hw)⟩
def Hi{E v}(a:v<E.length):ql E v=true↔gn E v v:=by unfold ql gn;simp [a]
def GO{E v}(i:v<E.length):Jy E E.length v=mT E E.length v v:=by
 unfold Jy;by_cases h:∃u,u<E.length/\u≠v/\cD E u=cD E v;obtain ⟨u,d,a,f⟩:=h;rw [AG _ _ ZO ZO u v a (lD.2 ⟨d,f⟩) (lD.2 ⟨i,rfl⟩)];have k:=vE.1 f;refine (ku.2 ?_).symm;obtain e|c:=k.2.cQ;exact absurd e.symm a;obtain e|g:=k.1.cQ;exact absurd e a;exact c.trans g;have d:∀u,u<E.length->cD E u=cD E v->u=v:=λu d f=>by by_cases e:u=v;exact e;exact absurd ⟨u,d,e,f⟩ h
 rw [AF _ _ ZO ZO v (lD.2 ⟨i,rfl⟩) (λb j=>d b (lD.1 j).1 (lD.1 j).2)];refine Bool.eq_iff_iff.2 ?_;rw [Hi i,ku];constructor;exact Br.qM;rintro ⟨z,c,g⟩;have e:z=v:=d z c.2.1 (vE.2 ⟨g,aZ.qM c⟩);rw [e]at c;exact c
end Go.Proofs.YtimniinkpipnmaaGreatDoor.Scc
namespace Go.Own
def TC:=@Nat.zero_mod
def Va:=@Nat.mul_add_mod
def yv(E:List (List Int))(a:Nat->Nat->Prop)(S q:Nat):Prop:=∃p:Nat->Nat,p 0=q/\(∀i,gn E (p i) (p (i+1)))/\∀s,s<S->∀i,∃j,i<=j/\a s (p j)
def oT(E:List (List Int))(a:Nat->Nat->Prop)(S v:Nat):Prop:=Br E v v/\∀s,s<S->∃x,Scc E v x/\a s x
theorem Ec:∀(n)(p:Nat->Nat)(Q:Nat->Prop),(∀i,∃j,i<=j/\Q j/\p j<n)->∃x,x<n/\∀i,∃j,i<=j/\Q j/\p j=x
 |0,p,Q,h=>by obtain ⟨j,_,_,h⟩:=h 0;omega
 |n+1,p,Q,h=>by
  by_cases c:∀i,∃j,i<=j/\Q j/\p j=n;exact ⟨n,by omega,c⟩;obtain ⟨f,b⟩:=Classical.not_forall.1 c;obtain ⟨x,l,a⟩:=Ec n p Q (λi=>by obtain ⟨j,g,a,k⟩:=h (max i f);have d:p j≠n:=λe=>b ⟨j,by omega,a,e⟩;exact ⟨j,by omega,a,by omega⟩)
  exact ⟨x,by omega,a⟩
theorem ph{E}{p:Nat->Nat}(h:∀i,gn E (p i) (p (i+1)))(i):∀k,Own.aZ E (p i) (p (i+k))
 |0=>Own.aZ.refl E _
 |k+1=>(ph h i k).trans (Own.aZ.qM (h (i+k)))
theorem Jg{E a S q}(h:yv E a S q):∃v,Own.aZ E q v/\oT E a S v:=by
 obtain ⟨p,rfl,f,y⟩:=h;obtain ⟨v,A,l⟩:=Ec E.length p (λ_=>True) (λi=>⟨i,Rt _,RN,(f i).1⟩);have g:∀i j,i<=j->Own.aZ E (p i) (p j):=λi j u=>by
  have:=ph f i (j-i);have e:i+(j-i)=j:=by omega
  rwa [e]at this
 obtain ⟨c,_,_,k⟩:=l 0;refine ⟨v,by rw [<-k];exact g 0 c (Nat.zero_le _),?_,λs z=>?_⟩;obtain ⟨o,b,_,d⟩:=l (c+1);refine ⟨p (c+1),by rw [<-k];exact f c,?_⟩;have:=g (c+1) o b;rwa [d]at this;obtain ⟨x,B,t⟩:=Ec E.length p (λj=>a s (p j)) (λi=>by obtain ⟨j,w,m⟩:=y s z i;exact ⟨j,w,m,(f j).1⟩)
 obtain ⟨o,b,m,d⟩:=t c;obtain ⟨C,n,_,r⟩:=l o;refine ⟨x,⟨by rw [<-k,<-d];exact g _ _ b,by rw [<-d,<-r];exact g _ _ n⟩,by rw [<-d];exact m⟩
structure Walk (E:List (List Int)) (m x y:Nat) (w:Nat->Nat):Prop where
 aM:w 0=x
 stop:w m=y
 step:∀i,i<m->gn E (w i) (w (i+1))
theorem qz{E}:∀m x y,zV E m x y->∃w,Walk E m x y w
 |0,x,y,h=>⟨λ_=>x,rfl,h,λi c=>by omega⟩
 |m+1,x,y,⟨z,a,b⟩=>by obtain ⟨w,hw⟩:=qz m z y b;refine ⟨λi=>match i with|0=>x|i+1=>w i,rfl,hw.stop,λi c=>?_⟩;rcases i with _|i;show gn E x (w 0);rw [hw.aM];exact a;exact hw.step i (by omega)
theorem Walk.app{E m k x y z w v}(h:Walk E m x y w)(g:Walk E k y z v):Walk E (m+k) x z (λi=>if i<m then w i else v (i-m)):=by
 refine ⟨?_,?_,λi j=>?_⟩;show(if 0<m then w 0 else v (0-m))=x;by_cases d:0<m;rw [QZ d];exact h.aM;rw [QN d];have c:m=0:=by omega
 have b:=h.aM;have a:=h.stop;rw [c]at a;have e:0-m=0:=by omega
 rw [e,g.aM,<-a,b];show(if m+k<m then w (m+k)else v (m+k-m))=z;rw [QN (by omega)];have e:m+k-m=k:=by omega
 rw [e];exact g.stop;show gn E (if i<m then w i else v (i-m)) (if i+1<m then w (i+1)else v (i+1-m));by_cases b:i+1<m;rw [QZ (by omega),QZ b];exact h.step i (by omega);rw [QN b];by_cases a:i<m;rw [QZ a];have e:i+1=m:=by omega
 have f:i+1-m=0:=by omega
 rw [f,g.aM];have:=h.step i a;rw [e,h.stop]at this;exact this;rw [QN a];have e:i+1-m=i-m+1:=by omega
 rw [e];exact g.step (i-m) (by omega)
theorem zn{E c S v}(h:oT E c S v):∀k,k<=S->∃L w,0<L/\Walk E L v v w/\∀s,s<k->∃i,i<L/\c s (w i)
 |0,_=>by obtain ⟨z,g,m,f⟩:=h.1;obtain ⟨w,hw⟩:=qz (m+1) v v ⟨z,g,f⟩;exact ⟨m+1,w,by omega,hw,λs l=>by omega⟩
 |k+1,B=>by obtain ⟨L,w,A,hw,l⟩:=zn h k (by omega);obtain ⟨x,⟨⟨a,g⟩,⟨b,f⟩⟩,n⟩:=h.2 k (by omega);obtain ⟨y,j⟩:=qz a v x g;obtain ⟨o,d⟩:=qz b x v f;have W:=(hw.app j).app d;refine ⟨L+a+b,_,by omega,W,λs u=>?_⟩;by_cases e:s=k;subst e;by_cases q:b=0;subst q;have p:x=v:=f;refine ⟨0,by omega,?_⟩;rw [W.aM,<-p];exact n;refine ⟨L+a,by omega,?_⟩;show c s (if L+a<L+a then _ else o (L+a-(L+a)));rw [QN (by omega),RG,d.aM];exact n;obtain ⟨i,t,r⟩:=l s (by omega);refine ⟨i,by omega,?_⟩;show c s (if i<L+a then(if i<L then w i else y (i-L))else o (i-(L+a)));rw [QZ (by omega),QZ t];exact r
theorem xx{L}(a:0<L)(j):(j+1)%L=if j%L+1=L then 0 else j%L+1:=by
 have b:=Nat.div_add_mod j L;have c:=UI j a;by_cases h:j%L+1=L;rw [QZ h];have e:j+1=L*(j/L+1):=by rw [Nat.mul_add,Nat.mul_one];omega
 rw [e,Nat.mul_mod_right];rw [QN h];have e:j+1=L*(j/L)+(j%L+1):=by omega
 conv=>lhs;rw [e]
 rw [Va,Sq (by omega)]
theorem I9{E c S q v}(z:Own.aZ E q v)(h:oT E c S v):yv E c S q:=by
 obtain ⟨m,y⟩:=z;obtain ⟨f,a⟩:=qz m q v y;obtain ⟨L,w,g,hw,A⟩:=zn h S (Rt _);refine ⟨λi=>if i<m then f i else w ((i-m)%L),?_,λi=>?_,λs n i=>?_⟩;show(if 0<m then f 0 else w ((0-m)%L))=q;by_cases o:0<m;rw [QZ o];exact a.aM;rw [QN o];have l:m=0:=by omega
 have e:0-m=0:=by omega
 have d:=a.stop;rw [l]at d;rw [e,TC,hw.aM,<-d,a.aM];show gn E (if i<m then f i else w ((i-m)%L)) (if i+1<m then f (i+1)else w ((i+1-m)%L));by_cases p:i+1<m;rw [QZ (by omega),QZ p];exact a.step i (by omega);rw [QN p];by_cases d:i<m;rw [QZ d];have e:i+1=m:=by omega
 have r:i+1-m=0:=by omega
 rw [r,TC,hw.aM];have:=a.step i d;rw [e,a.stop]at this;exact this;rw [QN d];have e:i+1-m=i-m+1:=by omega
 have j:=UI (i-m) g;have b:=hw.step ((i-m)%L) j;rw [e,xx g];split;rename_i t;rw [t,hw.stop]at b;rw [hw.aM];exact b;exact b;obtain ⟨k,x,u⟩:=A s n;refine ⟨m+(L*i+k),?_,?_⟩;have:i<=L*i:=Nat.le_mul_of_pos_left i g;omega;show c s (if m+(L*i+k)<m then f (m+(L*i+k))else w ((m+(L*i+k)-m)%L));rw [QN (by omega)];have e:m+(L*i+k)-m=L*i+k:=by omega
 rw [e,Va,Sq x];exact u
theorem Fa{E a S q}:yv E a S q↔∃v,Own.aZ E q v/\oT E a S v:=
 ⟨Jg,λ⟨_,b,c⟩=>I9 b c⟩
def aU(a b:List Nat)(i:Nat):Nat:=if i<a.length then a.getD i 0 else b.getD ((i-a.length)%b.length) 0
def jH(a b:List Nat)(k:Nat):Nat:=if k+1=a.length+b.length then a.length else k+1
def nK(b a:List Nat):Nat->Nat
 |0=>0
 |i+1=>jH b a (nK b a i)
theorem kh{st a}(h:0<a.length):∀i,nK st a i<st.length+a.length
 |0=>by show 0<_;omega
 |i+1=>by have:=kh (st:=st) h i;show jH st a (nK st a i)<_;unfold jH;split<;>omega
theorem Cw{a b}(h:0<b.length):∀i,nK a b i=if i<a.length then i else a.length+(i-a.length)%b.length
 |0=>by
  show 0=_;by_cases c:0<a.length;rw [QZ c];rw [QN c];have e:0-a.length=0:=by omega
  rw [e,TC];omega
 |i+1=>by
  show jH a b (nK a b i)=_;rw [Cw h i];unfold jH;by_cases d:i+1<a.length;rw [QZ (by omega:i<a.length),QZ d,QN (by omega)];rw [QN d];by_cases f:i<a.length;rw [QZ f];have e:i+1-a.length=0:=by omega
  rw [e,TC];split<;>omega;rw [QN f];have e:i+1-a.length=i-a.length+1:=by omega
  rw [e,xx h];by_cases g:(i-a.length)%b.length+1=b.length;rw [QZ g,QZ (by omega)];omega;rw [QN g,QN (by omega)];omega
theorem mw{a b}(h:0<b.length)(i):aU a b (nK a b i)=aU a b i:=by
 rw [Cw h i];by_cases c:i<a.length;rw [QZ c];rw [QN c];unfold aU;rw [QN (by omega),QN c];have e:a.length+(i-a.length)%b.length-a.length=(i-a.length)%b.length:=by omega
 rw [e,Nat.mod_mod]
structure Iq (A:Au) (st a:List Nat) (E:List (List Int)) (nd:Nat->Nat->Nat) (pk pq:Nat->Nat):Prop where
 pk:∀k q,k<st.length+a.length->q<A.ak.length->pk (nd k q)=k
 pq:∀k q,k<st.length+a.length->q<A.ak.length->pq (nd k q)=q
 gn:∀k q,k<st.length+a.length->q<A.ak.length->∀y,gn E (nd k q) y↔
  ∃t∈(A.ay q).tO,jI (A.ay q).need (A.ay q).ban (aU st a k)/\jI (A.ay t).need (A.ay t).ban (aU st a (jH st a k))/\y=nd (jH st a k) t
theorem FY{A c b E k L a}(h:Iq A c b E k L a)(n:Valid A)(d:0<b.length):
 lY A (aU c b)↔∃q∈A.aP,jI (A.ay q).need (A.ay q).ban (aU c b 0)/\yv E (λs x=>(A.ay (a x)).inn.testBit s=true) A.sets (k 0 q):=by
 constructor
 rintro ⟨r,R⟩
 refine ⟨r 0,R.aM,R.rd 0,λi=>k (nK c b i) (r i),rfl,λi=>?_,λs J i=>?_⟩
 rw [h.gn _ _ (kh d i) (R.lt i)]
 refine ⟨r (i+1),R.step i,?_,?_,rfl⟩
 rw [mw d];exact R.rd i
 show jI _ _ (aU c b (nK c b (i+1)))
 rw [mw d];exact R.rd (i+1)
 obtain ⟨j,H,G⟩:=R.r7 s J i
 refine ⟨j,H,?_⟩
 show(A.ay (a (k (nK c b j) (r j)))).inn.testBit s=true
 rw [h.pq _ _ (kh d j) (R.lt j)];exact G
 rintro ⟨q,o,M,p,l,z,I⟩
 have v:∀i,∃t,t<A.ak.length/\p i=k (nK c b i) t:=by
  intro i;induction i with
  |zero=>exact ⟨q,n.aP q o,l⟩
  |succ i K=>obtain ⟨t,g,e⟩:=K;have:=z i;rw [e,h.gn _ _ (kh d i) g]at this;obtain ⟨B,u,_,_,C⟩:=this;exact ⟨B,n.tO t g B u,C⟩
 have f:∀i,a (p i)<A.ak.length/\p i=k (nK c b i) (a (p i)):=λi=>by obtain ⟨t,g,e⟩:=v i;rw [e,h.pq _ _ (kh d i) g];exact ⟨g,rfl⟩
 have m:∀i,a (p (i+1))∈(A.ay (a (p i))).tO/\jI (A.ay (a (p i))).need (A.ay (a (p i))).ban (aU c b i):=λi=>by
  have w:=z i;have D:=(f i).2;rw [D,h.gn _ _ (kh d i) (f i).1]at w;obtain ⟨t,g,y,_,e⟩:=w;have F:a (p (i+1))=t:=by rw [e];exact h.pq _ _ (kh d (i+1)) (n.tO _ (f i).1 t g)
  rw [mw d]at y;exact ⟨by rw [F];exact g,y⟩
 refine ⟨λi=>a (p i),?_,λi=>(f i).1,λi=>(m i).1,λi=>(m i).2,I⟩
 show a (p 0)∈A.aP
 rw [l,h.pq 0 q (by omega) (n.aP q o)];exact o
def kI(x:dk):Prop:=∀k,¬(x.need.testBit k=true/\x.ban.testBit k=true)
theorem jV{x v}(h:jI x.need x.ban v):kI x:=λk ⟨c,d⟩=>by have a:=(h k).1 c;have b:=(h k).2 d;rw [a]at b;cases b
structure su (A:Au) (E:List (List Int)):Prop where
 bA:E.length=A.ak.length
 gn:∀q y,q<A.ak.length->(gn E q y↔y∈(A.ay q).tO/\kI (A.ay q)/\kI (A.ay y))
structure As (A T:Au) (use:Nat->Prop) (aW ax:Nat->Nat):Prop where
 sets:T.sets=A.sets
 xo:∀p,p<T.ak.length->ax p<A.ak.length/\aW (ax p)=p
 rep:∀q,q<A.ak.length->use q->aW q<T.ak.length/\ax (aW q)=q
 need:∀p,p<T.ak.length->(T.ay p).need=(A.ay (ax p)).need
 ban:∀p,p<T.ak.length->(T.ay p).ban=(A.ay (ax p)).ban
 inn:∀p,p<T.ak.length->(T.ay p).inn=(A.ay (ax p)).inn
 aP:∀p∈T.aP,∃q∈A.aP,use q/\aW q=p
 ir:∀q∈A.aP,use q->aW q∈T.aP
 tO:∀n,n<T.ak.length->∀p∈(T.ay n).tO,∃q∈(A.ay (ax n)).tO,use q/\aW q=p
 nQ:∀n,n<T.ak.length->∀q∈(A.ay (ax n)).tO,use q->aW q∈(T.ay n).tO
def NR(A:Au)(E:List (List Int))(q:Nat):Prop:=
 (∃s∈A.aP,kI (A.ay s)/\Own.aZ E s q)/\yv E (λs x=>(A.ay x).inn.testBit s=true) A.sets q
theorem ss{A T E n f}(C:su A E)(h:As A T (NR A E) n f)(y:Valid A)(u):lY T u↔lY A u:=by
 constructor;rintro ⟨r,a⟩;refine GN a h.sets.symm (λp q=>p<T.ak.length/\f p=q) (λi p e=>?_) ?_ (λi p e=>?_);obtain ⟨g,rfl⟩:=e;exact ⟨(h.xo _ g).1,λk c=>by rw [h.need _ g];exact c,λk c=>by rw [h.ban _ g];exact c,λs o c=>by rw [<-h.inn _ g];exact c⟩;obtain ⟨q,w,v,e⟩:=h.aP _ a.aM;exact ⟨q,w,a.lt 0,by rw [<-e];exact (h.rep q (y.aP q w) v).2⟩;obtain ⟨g,rfl⟩:=e;obtain ⟨t,x,v,z⟩:=h.tO _ g _ (a.step i);exact ⟨t,x,a.lt (i+1),by rw [<-z];exact (h.rep t (y.tO _ (h.xo _ g).1 t x) v).2⟩;rintro ⟨r,a⟩;have d:∀i,gn E (r i) (r (i+1)):=λi=>(C.gn _ _ (a.lt i)).2 ⟨a.step i,jV (a.rd i),jV (a.rd (i+1))⟩;have b:∀i,NR A E (r i):=λi=>by
  refine ⟨⟨r 0,a.aM,jV (a.rd 0),?_⟩,λk=>r (i+k),rfl,λk=>d (i+k),λs o k=>?_⟩;have:=ph d 0 i;rwa [Nat.zero_add]at this;obtain ⟨j,D,B⟩:=a.r7 s o (i+k);refine ⟨j-i,by omega,?_⟩;have e:i+(j-i)=j:=by omega
  show(A.ay (r (i+(j-i)))).inn.testBit s=true;rw [e];exact B
 refine GN a h.sets (λq p=>p=n q) (λi p e=>?_) ⟨_,h.ir _ a.aM (b 0),rfl⟩ (λi p e=>?_);subst e;obtain ⟨l,m⟩:=h.rep _ (a.lt i) (b i);exact ⟨l,λk c=>by rw [h.need _ l,m]at c;exact c,λk c=>by rw [h.ban _ l,m]at c;exact c,λs o c=>by rw [h.inn _ l,m];exact c⟩;subst e;obtain ⟨l,m⟩:=h.rep _ (a.lt i) (b i);exact ⟨_,h.nQ _ l _ (by rw [m];exact a.step i) (b (i+1)),rfl⟩
end Go.Own
namespace Go.Proofs.YtimniinkpipnmaaGreatDoor
open Go.Own Go.RowKit Go.Proofs.Tryz
def Vi:=@Nat.testBit_two_pow_sub_one
def Fq(b:Nat->Nat)(l:List Nat):Nat:=l.foldl (λa i=>a|||b i) 0
def JS(a l i):Fq a (l++[i])=Fq a l|||a i:=by unfold Fq;rw [List.foldl_append];rfl
def BZ(c:Nat->Nat)(s):∀(l:List Nat)(a),(l.foldl (λa i=>a|||c i) a).testBit s=true↔a.testBit s=true\/∃x∈l,(c x).testBit s=true
 |[],a=>⟨.inl,λh=>h.elim id λ⟨_,h,_⟩=>ZC h⟩
 |i::l,a=>by rw [List.foldl_cons,BZ c s l,Nat.testBit_or,QP];constructor;rintro ((h|h)|⟨x,b,h⟩);exact .inl h;exact .inr ⟨i,P2 ..,h⟩;exact .inr ⟨x,Qc _ b,h⟩;rintro (h|⟨x,b,h⟩);exact .inl (.inl h);obtain rfl|b:=PO.1 b;exact .inl (.inr h);exact .inr ⟨x,b,h⟩
def A3(a s l):(Fq a l).testBit s=true↔∃x∈l,(a x).testBit s=true:=by unfold Fq;rw [BZ,Nat.zero_testBit];exact ⟨λh=>h.elim (λh=>ZC h) id,.inr⟩
def JR(b l)(h:∀x∈l,b x<2^64):Fq b l<2^64:=by
 have:∀(l:List Nat)(a:Nat),a<2^64->(∀x∈l,b x<2^64)->l.foldl (λa i=>a|||b i) a<2^64:=by
  intro l;induction l with
  |nil=>intro a h _;exact h
  |cons i l e=>intro a h c;exact e _ (Nat.or_lt_two_pow h (c i (P2 ..))) (λx d=>c x (Qc _ d))
 exact this l 0 ZD h
def BB{a S}:a&&&(2^S-1)=2^S-1↔∀s,s<S->a.testBit s=true:=by
 constructor;intro h s d;have b:(a&&&(2^S-1)).testBit s=(2^S-1).testBit s:=by rw [h]
 rw [Nat.testBit_and,Vi,Rj d,Bool.and_true]at b;exact b;intro h;refine Nat.eq_of_testBit_eq λk=>?_;rw [Nat.testBit_and,Vi];by_cases c:k<S;rw [h k c];rfl;rw [Q4 c,Bool.and_false]
def mx(E:List (List Int))(n u:Nat):List Nat:=(List.range n).filter λv=>decide (Scc.cD E v=(ee (Scc.cD E) n).getD u 0)
def Ch(E n u):dH (Scc.cD E) n u=(mx E n u).map λ(v:Nat)=>(v:Int):=rfl
def jG(E:List (List Int))(a:Nat->Nat)(S n u:Nat):Bool:=decide (Fq a (mx E n u)&&&(2^S-1)=2^S-1)&&Scc.bL E n (-1) (dH (Scc.cD E) n u)
def AW{E n u v}(h:v∈mx E n u):v<n:=P5.1 (PY.1 h).1
def pX{E c S n u v}(m:E.length=n)(q:v∈mx E n u):jG E c S n u=true↔oT E (λs x=>(c x).testBit s=true) S v:=by
 have⟨k,l⟩:=PY.1 q;have f:=P5.1 k;have i:Scc.cD E v=(ee (Scc.cD E) n).getD u 0:=Rf l;have p:dH (Scc.cD E) n u=Im (Scc.cD E) n (Scc.cD E v):=by unfold dH;rw [i]
 have o:Scc.bL E n (-1) (dH (Scc.cD E) n u)=true↔Own.Br E v v:=by subst m;have:=Scc.GO (E:=E) f;unfold Scc.Jy at this;rw [p,this,ku]
 have j:∀x,x∈mx E n u↔Own.Scc E v x:=λx=>by unfold mx;rw [PY,P5,Qw,<-i,Scc.vE];constructor;rintro ⟨_,h⟩;exact h.symm;intro h;exact ⟨by have:=h.1.lt (by omega:v<E.length);omega,h.symm⟩
 unfold jG oT;rw [Qk,Qw,o,BB];constructor;rintro ⟨a,b⟩;refine ⟨b,λs e=>?_⟩;have⟨x,g,d⟩:=(A3 c s _).1 (a s e);exact ⟨x,(j x).1 g,d⟩;rintro ⟨b,a⟩;refine ⟨λs e=>?_,b⟩;have⟨x,g,d⟩:=a s e;exact (A3 c s _).2 ⟨x,(j x).2 g,d⟩
def Fj{E n v}(a:v<n):∃u,u<dS (Scc.cD E) n/\v∈mx E n u:=by have h:=lI (Scc.zD E v) n (Nat.lt_of_le_of_lt (Scc.AQ E v) a);exact ⟨_,h.1,PY.2 ⟨P5.2 a,ZR h.2 (Rj rfl)⟩⟩
def EB(E:List (List Int))(n:Nat)(r:Nat->Bool)(w:WD)(e:Ending)(b:WD):Prop:=
 ∃v a,e=RT v/\dP w b v n a/\∀x,x<n->(a x=true↔∃y,y<n/\r y=true/\Own.aZ E x y)
def IT(w t m C I u o D L l n p E)(hg:eG w l n E)(hI:aG .i64 w t m I)(hL:aG .u64 w u o L)(aj:m<=1000000000)(ak:o<=1000000000)(ab:∀i,i<n->(E.getD i []).length<=16777216)
 (ga gc r) (hr:dq w ga n r):
 CL 85 #[.agg #[SL t m C,SL l n p,SL u o D],SL ga n gc] w (EB E n r w):=by
 have⟨q,hq⟩:=EX w.heap.size
 have⟨g,s⟩:=EX (w.alloc (CE #[SL t m C,SL l n p,SL u o D] 55))
 have W:BW w g:=s▸ah _ _
 have k:=aT w #[SL t m C,SL l n p,SL u o D] 55
 rw [s,hq]at k
 have e0:=(k 0 _ rfl).1
 have e1:=(k 1 _ rfl).1
 have e2:=(k 2 _ rfl).1
 have hn:=hg.uD
 have HQ:Hid (∀A,Below g.drew.heap.size g.drew A->CA A q 0 (SL t m C)/\CA A q 1 (SL l n p)/\CA A q 2 (SL u o D)):=λN V=>⟨(V.cell (O9 _ _ e0)).trans e0,(V.cell (O9 _ _ e1)).trans e1,(V.cell (O9 _ _ e2)).trans e2⟩
 have c:BW w g.drew:=W.drew
 have HT:Hid (CL 90 #[.agg #[SL t m C,SL l n p,SL u o D]] g.drew (EG g.drew n E)):=Kv g.drew t m C I u o D L l n p E (hg.ag c) (hI.ag c) (hL.ag c) aj ak ab
 have R:Hid (∀N,Below g.drew.heap.size g.drew N->CL 61 #[.agg #[SL t m C,SL l n p,SL u o D],SL ga n gc] N (vV N ((List.range n).filter r))):=λN V=>zB N _ _ l n p ga gc r (hr.ag (af c V)) hn
 have ac:=O8 c
 clear hg hI hL ab hr k W c
 go_enter func85,ntmps85
 go_upto_region 1 with(fail)
 (try rw [s])
 (try rw [hq])
 clear s hq
 refine aw 5 (S:=λA=>CA A q 0 (SL t m C)/\CA A q 1 (SL l n p)/\CA A q 2 (SL u o D)) ZK (⟨e0,e1,e2⟩) (λG=>?_)
 refine aB 0 ?_ [1,0]
 refine aB 2 ?_ [4,2]
 refine aB 3 ?_ [4,3]
 clear G e0 e1 e2
 refine aK 1 λK d=>?_
 rw [PW (by rfl)]
 apply aY.o
 refine aO (f:=90) HT.o ?_ (λe w2 a=>?_)
 clear d
 go_simp
 obtain ⟨vi,vl,T,U,E',rfl,X,B,H⟩:=a
 have Q:=O8 X
 have z:=O8 B
 have F:=O8 H
 refine ⟨_,rfl,?_⟩
 refine d.o _ _ (λ_=>HQ.o w2 H) ?_
 clear d K X B H
 try walk_nrm
 refine aK 4 λK d=>?_
 rw [PW (by rfl)]
 apply aY.o
 refine aO (f:=61) (R.o w2 F.o) ?_ (λe O a=>?_)
 clear d
 go_simp
 obtain ⟨fa,fl,fc,rfl,Y⟩:=a
 have J:Below g.drew.heap.size g.drew O:=af F.o Y.2.1
 have M:=gy Y
 rw [aD]at M
 have ai:fl<=n:=by rw [<-M];have:=Qn r (List.range n);rwa [Qp]at this
 have HR:Hid (CL 112 #[.agg #[vi,SL T n U,vl],SL fa fl fc] O (lh E' ((List.range n).filter r) n O)):=
  zQ O vi vl T n U E' (Q.o.ag Y.2.1) fa fl fc _ (cT Y) (λf hf=>P5.1 (PY.1 hf).1) ZO
 have P:Hid (BW w O):=af ac.o J
 refine ⟨_,rfl,?_⟩
 refine d.o _ _ (λ_=>HQ.o O J) ?_
 clear d K Y J M ai HT R HQ Q F
 try walk_nrm
 refine aK 5 λK d=>?_
 rw [PW (by rfl)]
 apply aY.o
 refine aO (f:=112) HR.o ?_ (λe w4 a=>?_)
 clear d
 go_simp
 obtain ⟨v,r',rfl,Z,aa⟩:=a
 have ad:=O8 Z
 have ag:=O8 aa
 refine ⟨_,rfl,?_⟩
 refine d.q ?_
 clear d K Z aa HR
 refine aK 6 λK d=>?_
 go_simp
 refine d.q ?_
 clear d K
 refine az ZK ?_
 go_wp2
 go_ret
 have⟨b,h1,h2,h3,h4⟩:=ad.o
 refine ⟨v,r',rfl,⟨b,h1,h2,af P.o h3,PG P.o.size h4⟩,λx hx=>?_⟩
 rw [ag.o x hx]
 constructor
 rintro ⟨f,hf,h⟩
 have⟨k1,k2⟩:=PY.1 hf
 exact ⟨f,P5.1 k1,k2,xQ z.o h⟩
 rintro ⟨y,hy,k1,k2⟩
 exact ⟨y,PY.2 ⟨P5.2 hy,k1⟩,xQ (λi j=>(z.o j i).symm) k2⟩
section
structure PV (w:WD) (v:Value) (V:Nat->Value) (R:Nat) (X:Nat->List Int):Prop where
 dW:Sl w 33 v R ((List.range R).map V)
 row:∀i,i<R->Sl w 3 (V i) (X i).length ((X i).map (Value.int .i64))
def NN(v:Value)(V:Nat->Value)(R k:Nat):Prop:=v.ownBlock=some k\/∃i,i<R/\(V i).ownBlock=some k
section
variable {w w1:WD} {v:Value} {V:Nat->Value} {R:Nat} {X:Nat->List Int}
def PV.ax{T}(h:PV w v V R X)(c:aj T w w1)(a:∀k,NN v V R k->¬T k):PV w1 v V R X:=
 ⟨h.dW.ax c (λg e=>a g (.inl e)),λi b=>(h.row i b).ax c (λg e=>a g (.inr ⟨i,b,e⟩))⟩
def PV.dY(h:PV w v V R X):∀k,NN v V R k->k<w.heap.size:=λk a=>by obtain a|⟨i,b,a⟩:=a;exact h.dW.lt k a;exact (h.row i b).lt k a
def PV.ag(h:PV w v V R X)(a:BW w w1):PV w1 v V R X:=h.ax (aj.aC a) (λk s b=>ZH (h.dY k s))
def PV.at{a c}(h:PV w (SL a R c) V R X){i}(f:i<R):∃g,a=some (AD g 0)/\w.cell? (AD g i)=some (V i)/\∃b k,V i=.slice b (X i).length k/\aG .i64 w b (X i).length (X i):=by
 have⟨y,z,e,u⟩:=h.dW.shape;obtain ⟨g,p,-,s⟩:=u i f;cases e
 refine ⟨g,p,by rw [s];simp [f],?_⟩;have x:=h.row i f;have⟨b,k,q,n⟩:=x.shape;refine ⟨b,k,q,rfl,?_⟩;obtain d|d:=Qv (X i).length;exact .inl d;obtain ⟨r,l,-,-⟩:=n 0 d;refine .inr ⟨r,0,l,λj o=>?_⟩;obtain ⟨A,m,-,t⟩:=n j o;rw [l]at m;cases m;rw [PU,t];simp [Pd,o]
end
structure wh (b:WD) (c:OA) (n:Nat) (E:List (List Int)) (na:OA) (a:Nat->Nat):Prop where
 gr:eG b c n E
 inn:aG .u64 b na n (aE ((List.range n).map a))
 lt:∀i,i<n->a i<2^64
 ND:∀i,i<n->(E.getD i []).length<=16777216
def wh.ag{a w c n E e b}(h:wh a c n E e b)(d:BW a w):wh w c n E e b:=⟨h.gr.ag d,h.inn.ag d,h.lt,h.ND⟩
def KQ(E:List (List Int))(b:Nat->Nat)(S n R:Nat)(x:Nat×Value)(W:WD):Prop:=
 x.1<R/\jG E b S n x.1=true/\∃a m c,x.2=SL a m c/\aG .i64 W a m (aE (mx E n x.1))
def EC(E:List (List Int))(a:Nat->Nat)(S n R:Nat)(b:List (Nat×Value)):Prop:=b.map Prod.fst=(List.range R).filter (jG E a S n)
def JE(l):aE l=l.map λ(v:Nat)=>(v:Int):=rfl
structure GI (c W:WD) (b a R:Nat) (v:Value) (V:Nat->Value) (X:Nat->List Int) (w:WD) (T:Nat->Prop):Prop where
 aJ:Below b c w
 box:w.heap[a]? =W.heap[a]?
 pv:PV w v V R X
 off:∀k,T k->b<=k/\k≠a/\¬NN v V R k
def GI.ag{d W c a R v V X w w1 T}(h:GI d W c a R v V X w T)(e:c<=w.heap.size)(f:a<w.heap.size)(b:BW w w1):GI d W c a R v V X w1 T:=
 ⟨h.aJ.trans (b.mono e),(b.block a f).trans h.box,h.pv.ag b,h.off⟩
def GI.round{g W c b R l v V X w w1 T f}(h:GI g W c b R v V X w T)(j:c<=w.heap.size)(m:b<w.heap.size)(n:c<=l)(d:b≠l)(e:¬NN v V R l)
 (a:aj (λk=>k=l\/T k) w w1) (i:∀k,f k->T k\/w.heap.size<=k):GI g W c b R v V X w1 f:=by
 refine ⟨h.aJ.trans (a.ag j λk a s=>?_),(a.block b m λs=>?_).trans h.box,h.pv.ax a λk a s=>?_,λk s=>?_⟩
 obtain s|s:=s
 omega
 have:=h.off k s;omega
 obtain s|s:=s
 exact d s
 exact (h.off b s).2.1 rfl
 obtain s|s:=s
 exact e (s▸a)
 exact (h.off k s).2.2 a
 obtain s|s:=i k s
 exact h.off k s
 exact ⟨ZO,ZO,λa=>ZH (h.pv.dY k a)⟩
def xe(v0 w P D vi vl ae n ce E na nc q S)(hS:S<=16)(h0:v0.heap.size=P)(hp:wh v0 ae n E na q)(hb:Below P v0 w)
 (Y:w.heap[D]? =some (.cells #[vi,SL ae n ce,vl,SL na n nc,UV ((2^S-1:Nat):Int)] 57 (0,0))) (S0) (aI:∀k,S0 k->P<=k/\k≠D):
 Iw prog 57 #[PT D] w (λx:Nat×Value=>#[x.2]) (KQ E q S n (dS (Scc.cD E) n)) S0 (EC E q S n (dS (Scc.cD E) n)):=by
 intro l J Jx W hW bm bn hJ aC ac hY aB
 have HJ:=O8 hJ
 have bi:=O8 aC
 have aZ:=O8 ac
 have HY:=O8 hY
 have ah:=O8 aB
 have aO:D<w.heap.size:=(Pb.1 Y).1
 have H:=(hW.block D aO).trans Y
 have aM:P<=w.heap.size:=ZR h0.symm hb.size
 have an:Below P v0 W:=hb.trans (hW.mono aM)
 have⟨M,hM⟩:=EX (2^S-1)
 have aF:M<2^64:=by have:=QG (n:=2) ZD hS;omega
 rw [hM]at H
 have au:Hid (∀B:WD,B.heap[D]? =W.heap[D]? ->B.cell? (AD D 0)=some vi/\B.cell? (AD D 1)=some (SL ae n ce)/\B.cell? (AD D 2)=some vl/\B.cell? (AD D 3)=some (SL na n nc)/\B.cell? (AD D 4)=some (UV M)):=λB e=>by have h2:=e.trans H;exact ⟨CH h2,CH h2,CH h2,CH h2,CH h2⟩
 have ak:Hid (∀B,Below P v0 B->wh B ae n E na q):=λB hb=>hp.ag (ZR h0 hb)
 have hn:=hp.gr.uD
 have HP:=O8 hp
 have ab:=O8 hp.gr.bA
 have ay:Hid (CL 58 #[.agg #[vi,SL ae n ce,vl]] W (Scc.y5 E n W)):=Scc.lP vi vl ae n ce E W hp.gr.bA (ak.o W an).gr.bC ZO (λi hi=>by have:=hp.ND i (by rw [<-hp.gr.bA];exact hi);omega)
 have aW:Hid (∀B (ap:OA) (m cp:Nat) (zs:List Int),Below P v0 B->aG .i64 B ap m zs->m<=65536->CL 59 #[.agg #[vi,SL ae n ce,vl],SL ap m cp] B λe bd=>e=RT (.bool (Scc.bL E n (-1) zs))/\BW B bd):=λB ap m cp zs hb hr hm=>
  Scc.DF vi vl ae n ce E ap m cp zs B ab.o (ak.o B hb).gr.bC ZO (λi hi=>by have:=HP.o.ND i (ZR ab.o.symm hi);omega) hr ZO
 have az:=O8 aI
 have ar:=O8 an
 have⟨b0,b1,b2,b3,b4⟩:=au.o W rfl
 have a0:=O8 hM
 have aP:D<W.heap.size:=Ps aO hW.size
 have bb:D≠l:=ZO
 have a9:P<=l:=ZO
 clear hJ aC ac hY aB hp an aI hM H Y hW hb aM h0
 go_enter func57,ntmps57
 go_upto_region 1 with(go_at_call 58;apply ay.o.mono;rintro e w2 ⟨a,c,aV,V,A,rfl,aQ⟩;have p:=O8 aQ;clear aQ)
 have⟨R,hR⟩:=EX (dS (Scc.cD E) n)
 have a2:=O8 hR
 rw [hR]at p HY⊢
 have bj:R<=65536:=ZH (Ax (Scc.cD E) n)
 have aq:P<=W.heap.size/\P<=w2.heap.size/\D<w2.heap.size:=ZH p.o.aJ.size
 have aT:¬NN (SL a R c) V R l:=λs=>by
  obtain s|⟨i,hi,s⟩:=s
  ·have:=p.o.dJ l s;omega
  ·have:=p.o.lM i l hi s;omega
 have a3:=O8 aT
 have L:=O8 aq
 have av:Hid (GI v0 W P D R (SL a R c) V (dH (Scc.cD E) n) w2 S0):=⟨ar.o.trans (p.o.aJ.mono aq.1),p.o.aJ.block D aP,⟨p.o.dW,p.o.row⟩,λk s=>by
  have h1:=az.o k s;refine ⟨h1.1,h1.2,λhk=>?_⟩;have h2:=aZ.o _ _ _ ah.o k s;obtain hk|⟨i,hi,hk⟩:=hk
  ·have:=p.o.dJ k hk;omega
  ·have:=p.o.lM i k hi hk;omega⟩
 have aw:Hid (J [] S0 w2):=HJ.o _ _ _ _ ah.o p.o.aJ
 clear b0 b1 b2 b3 b4 ay az ar aq aT hR ah p
 go_wp2
 go_loopw [12] (λv wr=>∃(u:Nat)(r:List (Nat×Value))(T:Nat->Prop),u<=R/\v=IV u/\Hid (r.map Prod.fst=(List.range u).filter (jG E q S n))/\Hid (J r T wr)/\Hid (GI v0 W P D R (SL a R c) V (dH (Scc.cD E) n) wr T)/\w2.heap.size<=wr.heap.size) (λv _=>R-(intOf v).toNat)
 exact ⟨0,[],S0,Pz _,rfl,O8 rfl,aw,av,Pf _⟩
 clear aw av
 obtain ⟨u,r,T,hu,rfl,f,hj,C,bc⟩:=hrel
 by_cases aL:u<R
 ·have bg:(u:Int)<R:=ZO;obtain ⟨g,rfl,cu,ra,rc,hV,K⟩:=C.o.pv.at aL
  rw [hV]at cu;have⟨z,Z⟩:=EX (mx E n u);have hX:dH (Scc.cD E) n u=aE z:=by rw [<-Z];exact Ch E n u
  rw [hX,aD]at K;have Q:Hid (∀v∈z,v<n):=λv hv=>AW (E:=E) (u:=u) (ZR Z hv);have⟨m,hm⟩:=EX z.length;have a8:m<=65536:=by rw [<-hm,<-Z];have:=Qn (λv=>decide (Scc.cD E v=(ee (Scc.cD E) n).getD u 0)) (List.range n);rw [Qp]at this;show(List.filter _ (List.range n)).length<=65536;omega
  have a7:V u=SL ra m rc:=by rw [hV,hX,aD,hm]
  have bk:wr.cell? (AD g u)=some (SL ra m rc):=by rw [cu,hX,aD,hm]
  rw [hm]at K;have U:=O8 K;have ax:=O8 Z;have ai:=O8 hm;have⟨b0,b1,b2,b3,b4⟩:=au.o wr C.o.box;clear cu hX hV a7 K Z hm;go_upto_region 4 with(fail);obtain ⟨wo,rfl⟩:∃wo:WD,wo=wr:=⟨_,rfl⟩;go_wp2;go_loopw [5,18] (λa6 v wr=>∃j:Nat,j<=m/\v=IV j/\a6=UV ((Fq q (z.take j):Nat):Int)/\wr=wo) (λ_ v _=>m-(intOf v).toNat);exact ⟨0,Pz _,rfl,rfl,rfl⟩;obtain ⟨j,bl,rfl,rfl,rfl⟩:=hrel;by_cases ao:j<m
  ·have bf:(j:Int)<m:=ZO;obtain ⟨x,hx⟩:∃x,z[j]? =some x:=⟨_,Pe (ZR ai.o ao)⟩
   have aa:=Q.o x (Pm hx);have bo:(x:Int)<n:=ZO;obtain ⟨-,h0|⟨rb,ro,rfl,hc⟩⟩:=U.o
   ·omega
   have ck:wr.cell? (AD rb (ro+j))=some (IV x):=by have:=hc j ao;rw [cG (ZR ai.o ao),Pd,hx]at this;exact this
   obtain ⟨-,h0|⟨nb,no,rfl,aN⟩⟩:=(ak.o wr C.o.aJ).inn
   ·omega
   have cn:wr.cell? (AD nb (no+x))=some (UV (q x:Int)):=by have:=aN x aa;rw [cG (by simp;exact aa),Pd,PZ,QV aa]at this;exact this
   have aR:z.take (j+1)=z.take j++[x]:=by rw [Qf,hx];rfl
   have ba:bits .or .u64 ((Fq q (z.take j):Nat):Int) (q x:Int)=((Fq q (z.take (j+1)):Nat):Int):=by rw [aR,JS];exact bits_or_u64_nat _ _ (JR q _ λy hy=>HP.o.lt y (Q.o y (Tw hy))) (HP.o.lt x aa)
   have⟨o2,O⟩:=EX (Fq q (z.take (j+1)));rw [O]at ba;have a1:=O8 O;clear O;generalize Fq q (z.take j)=o1 at *;generalize q x=ix at *;clear hc aN hx aR;go_wp2;go_roundw;exact ⟨j+1,ZO,ZN,by rw [a1.o],RW⟩;simp [intOf];omega
  ·obtain rfl:j=m:=ZO;have aS:z.take j=z:=PI (by rw [ai.o];exact Pf _)
   rw [aS];have ag:Fq q z<2^64:=JR q _ λy hy=>HP.o.lt y (Q.o y hy);have⟨o,ho⟩:=EX (Fq q z);rw [ho]at ag⊢;have aK:bits .and .u64 (o:Int) (M:Int)=((o&&&M:Nat):Int):=RC _ _ ag aF;have d:Hid (jG E q S n u=(decide (o&&&M=M)&&Scc.bL E n (-1) (aE z))):=by show _=_;unfold jG;rw [Ch,ax.o,a0.o,ho,JE]
   have af:(List.range (u+1)).filter (jG E q S n)=(List.range u).filter (jG E q S n)++(if jG E q S n u then [u]else []):=by rw [QQ,QA];cases h:jG E q S n u<;>simp [h]
   have b:=O8 af;have⟨o2,O⟩:=EX (o&&&M);rw [O]at aK d;have HC:=O8 (aW.o wr ra j rc (aE z) C.o.aJ U.o a8);clear aS ho af O;by_cases I:o2=M
   ·subst I;have e0:(((o2:Nat):Int)==(o2:Int))=true:=RP _
    rw [PX rfl,Qu]at d;cases G:Scc.bL E n (-1) (aE z)
    ·rw [G]at d HC;rw [d.o]at b
     have F:Hid (r.map Prod.fst=(List.range (u+1)).filter (jG E q S n)):=by show _=_;rw [b.o,f.o];simp
     clear G b d f;go_wp2_with (go_at_call 59;apply HC.o.mono;rintro e w4 ⟨rfl,N⟩;have t:=O8 N;clear N);go_roundw;exact ⟨u+1,r,T,ZO,ZN,F,HJ.o _ _ _ _ hj.o t.o,C.o.ag (ZH L.o) (ZH L.o) t.o,ZH t.o.size⟩;simp [intOf];omega
    ·rw [G]at d HC;have am:Hid (∀w4,BW wr w4->YieldAt Fence.wide 0 prog l #[SL ra j rc] w4 λe W'=>(e=RT (.bool true)/\∃T',J (r++[(u,SL ra j rc)]) T' W'/\aj (λk=>k=l\/T k) w4 W'/\∀k,T' k->T k\/w4.heap.size<=k)\/(e=RT (.bool false)/\Jx W')):=λw4 hb=>
      HY.o r T (u,SL ra j rc) w4 (HJ.o _ _ _ _ hj.o hb) ⟨aL,d.o,ra,j,rc,rfl,ZR ax.o (U.o.ag hb)⟩
     go_upto_region 9 with(fail);refine (Ta (n:=0)).1 ?_;gi_wp2_with (refine ⟨RW,rfl,?_⟩;gi_at_call 59;refine (Rw.2 HC.o).mono ?_;rintro e w4 ⟨rfl,N⟩;have⟨fn,bh,aU,be,hy,aH⟩:=am.o w4 N;have al:=O8 aH;have t:=O8 N;clear N aH);refine ⟨rfl,al.o.mono ?_⟩;have F:Hid ((r++[(u,SL ra j rc)]).map Prod.fst=(List.range (u+1)).filter (jG E q S n)):=by show _=_;rw [b.o,d.o,Qg,f.o];rfl
     rintro e W' (⟨rfl,T',aA,hk,aJ⟩|⟨rfl,ad⟩)
     ·have aY:=O8 aA;have aX:Hid (GI v0 W P D R (SV g R c) V (dH (Scc.cD E) n) W' T'):=(C.o.ag (ZH L.o) (ZH L.o) t.o).round (ZI L.o t.o.size) (ZI L.o t.o.size) a9 bb a3.o hk aJ
      have a4:w2.heap.size<=W'.heap.size:=ZI t.o.size hk.size;clear aA hk aJ am b d G HC al t hj C f;simp only [];gi_wp2;go_wp2;go_roundw;exact ⟨u+1,_,T',ZO,ZN,F,aY,aX,a4⟩;simp [intOf];omega
     ·have a5:=O8 ad;clear ad am b d G HC al t hj C f
      simp only [];gi_wp2;go_wp2;refine Qz (Rq rfl _ _ _) rfl ?_;exact ⟨⟨_,rfl⟩,.inr a5.o⟩
   ·have e0:(((o2:Nat):Int)==(M:Int))=false:=Pq.2 ZO;have e1:(o2==M)=false:=Pq.2 I
    rw [PH I,QX]at d;rw [d.o]at b;have F:Hid (r.map Prod.fst=(List.range (u+1)).filter (jG E q S n)):=by show _=_;rw [b.o,f.o];simp
    clear b d f I HC;go_wp2;go_roundw;exact ⟨u+1,r,T,ZO,ZN,F,hj,C,bc⟩;simp [intOf];omega
 ·obtain rfl:u=R:=ZO;go_wp2
  go_end0;exact ⟨⟨_,rfl⟩,.inl ⟨r,T,by unfold EC;rw [a2.o];exact f.o,hj.o⟩⟩
end
end Go.Proofs.YtimniinkpipnmaaGreatDoor
