/- A part of the proof of TopWitness. -/
import Derived.Test.YtimniinkpipnmaaGreatDoorV1
import Derived.Conc.WalkWords
import Derived.Lib.AppendZeros
import Derived.Deep.Light
import Derived.Laws.EntriesVeiled
set_option maxRecDepth 100000
set_option maxHeartbeats 8000000
set_option linter.all false
namespace Go.Proofs.YtimniinkpipnmaaGreatDoor
open Go.RowKit Go.Own Go.Proofs.Tryz
def PZ:=@List.getElem?_map
def Qh:=@Option.some.inj
def Qs:=@List.getElem?_eq_none
def QC:=@Option.getD_some
def R7:=@Go.World.frozen?_alloc_at
def Hj{l}(h:0<l.length):0<bm l:=by
 cases l with
 |nil=>simp at h
 |cons f r=>have:=Fm.br f;show 0<Fm.size f+bm r;omega
def IU{F l}(h:F.map ig=fI l)(e:l.length≠1):∀f,¬jQ F f:=by
 intro f d;have a:=Fm.om f [] [];rw [Qb,<-d.1,h]at a;have b:=xV l [] [];rw [Qb,a]at b;have c:[f]=l.reverse:=by simpa [Fm.run]using b
 have:=RH List.length c;simp at this;omega
def KX:∀f,¬jQ [] f:=λf b=>by have a:=RH List.length b.1;rw [Fm.dt]at a;have:=Fm.br f;simp at a;omega
def FL(F:List (Int×Int))(n:Nat)(w:WD)(e:Ending)(d:WD):Prop:=
 (∃b:Int,e=RT (.tuple #[SN,IV b])/\b≠0/\BW w d/\∀f,¬jQ F f)\/
 ∃f a c,e=RT (.tuple #[SL a n c,IV 0])/\jQ F f/\aF .i64 3 w d (SL a n c) (kT 0 f)
def zT(a n c F w)(hF:bD w a n F)(J:n<=1000000):
 CL 70 #[SL a n c] w (FL F n w):=by
 have d:Hid (F.length=n):=hF.1
 by_cases v:n=0
 ·subst v;have q:Hid (F=[]):=Qy d.o
  go_enter func70,ntmps70;go_wp2;go_ret2;exact .inl ⟨4,rfl,ZD,Pn _ _,ZR q.o KX⟩
 ·have R:((n:Int)==0)=false:=Pq.2 ZO;have S:(n==0)=false:=Pq.2 v
  have y:BW w (w.alloc (CE #[SN] 33)):=(Pn _ w).alloc (Pf _) _;have A:(w.alloc (CE #[SN] 33)).cell? (AD w.heap.size 0)=some (SN):=Py (w:=w) _ 33 w.heap.size 0 rfl;have b:Hid (WI w (w.alloc (CE #[SN] 33)) w.heap.size (SN) (SN) F 0 []):=
   ⟨Qd _ _ _ _,A,R7 _ _ _ _ rfl,Qd _ _ _ _,by simp [Value.ownBlock],by simp [Value.ownBlock],by simp [Value.ownBlock],by simp [Value.ownBlock],by simp [Value.ownBlock],Pf _,y,rfl,ZS⟩
  have C:=O8 (KI a n c F w.heap.size w _ hF J b.o);clear y A b hF;go_enter func70,ntmps70;go_upto_region 4 with(fail);generalize w.alloc (CE #[SN] 33)=U at *;go_wp2_with (go_at_call 100;apply C.o.mono;rintro e V (⟨H,rfl,s,z,g⟩|⟨P,N,Q,T,l,rfl,hw⟩);all_goals (first|(have h:=O8 g;have B:=O8 z;clear z g)|(have b:=O8 hw;have m:N=l.length:=(de hw.mN).2.2;have i:=O8 m;have o:=hw.size (by rw [d.o];exact Pf _);have j:=O8 o;obtain ⟨L,M,K,-⟩:=hw.o.shape;subst K;have r:=hw.cell;clear hw m o)))
  ·go_ret2;exact .inl ⟨H,rfl,s,B.o,h.o⟩
  ·rename_i I;have u:F.take n=F:=PI (by rw [d.o];exact Pf _)
   have k:=b.o.NH;rw [u]at k;go_ret2;exact .inl ⟨5,rfl,ZD,b.o.aJ,IU k (ZH i.o)⟩
  ·rename_i I;have u:F.take n=F:=PI (by rw [d.o];exact Pf _)
   have k:=b.o.NH;rw [u]at k;go_ret2;right;have t:l.length=1:=by
    have p:=j.o;have O:=i.o;obtain x|x:=Qv l.length
    ·have:l=[]:=Qy x;rw [this]at p
     have:bm []=0:=rfl;omega
    ·omega
   obtain ⟨f,rfl⟩:=List.length_eq_one_iff.1 t;have p:=b.o.o;have D:fI [f]=Fm.enc f:=Qb _;have E:fV 0 [f]=kT 0 f:=Qb _;have G:(kT 0 f).length=n:=by rw [vO];have:=j.o;exact this
   rw [E]at p;exact ⟨f,L,M,rfl,⟨k.trans D,b.o.ok f ZS⟩,by unfold aF;rw [G];exact ⟨p,b.o.aJ,b.o.Cn⟩⟩
def Gg(a n c F w)(hF:bD w a n F)(u:n<=4611686018427387903):
 CL 38 #[SL a n c] w λe t=>∃g,e=RT (IV g)/\BW w t/\((g=0/\n<=24/\∃f,jQ F f)\/(g≠0/\(24<n\/∀f,¬jQ F f))):=by
 by_cases h:24<n
 ·have r:(24:Int)<n:=ZO;go_enter func38,ntmps38
  go_wp2;go_ret;exact ⟨5,rfl,Pn _ _,.inr ⟨ZD,.inl h⟩⟩
 ·have r:¬(24:Int)<n:=ZO;have s:n<=24:=ZO
  have p:=O8 (zT a n c F w hF ZO);clear hF;go_enter func38,ntmps38;go_wp2_with (go_at_call 70;apply p.o.mono;rintro e y h;obtain ⟨g,rfl,j,k,b⟩|⟨f,v,x,rfl,l,m⟩:=h;all_goals (first|(have d:=O8 b;have o:=O8 k;clear k b)|(have i:=O8 l;have q:=O8 m;clear l m)))
  ·go_ret;exact ⟨g,rfl,o.o,.inr ⟨j,.inr d.o⟩⟩
  ·go_ret;exact ⟨0,rfl,aX q.o,.inl ⟨rfl,s,f,i.o⟩⟩
def lq(a n c F f w)(hF:bD w a n F)(r:n<=1000000)(i:jQ F f):
 CL 72 #[SL a n c] w λe s=>∃j k,e=RT (SL j n k)/\aF .i64 3 w s (SL j n k) (kT 0 f):=by
 have m:=O8 (zT a n c F w hF r)
 have b:=O8 i
 clear hF i
 go_enter func72,ntmps72
 go_wp2_with (go_at_call 70;apply m.o.mono;rintro e v h;obtain ⟨t,rfl,q,u,g⟩|⟨p,j,k,rfl,i,l⟩:=h;all_goals (first|(exact absurd b.o (g f))|(have d:=O8 i;have o:=O8 l;clear i l)))
 go_ret
 have e:p=f:=Fm.AI (d.o.1.symm.trans b.o.1)
 rw [<-e]
 exact ⟨j,k,rfl,o.o⟩
def qQ{F f x p}(c:jQ F f)(d:(Fm.aI f)[p]? =some x):ig (F.getD p (0,0))=Fm.aH x/\p<F.length:=by
 have a:(F.map ig)[p]? =some (Fm.aH x):=by rw [c.1];unfold Fm.enc;rw [PZ,d];rfl
 rw [PZ]at a;have b:p<F.length:=by by_cases b:p<F.length;exact b;rw [Qs ZO]at a;cases a
 refine ⟨?_,b⟩;rw [Pe b]at a;rw [Pd,Pe b];exact Qh a
def xg{F f x p}(a:jQ F f)(b:(Fm.aI f)[p]? =some x):(F.getD p (0,0)).1=(Fm.aH x).1:=by have h:=(qQ a b).1;rw [<-h];unfold ig;split<;>rfl
def kN{F f}(a:jQ F f):F.length=Fm.size f:=by have:=RH List.length a.1;rw [Fm.dt]at this;simpa using this
def ye{a x}(h:Fm.One a x):tk (Fm.aH x).1=1:=by cases h<;>simp [Fm.aH,tk]
def yf{a b x}(h:Fm.gj a b x):tk (Fm.aH x).1=2:=by cases h<;>simp [Fm.aH,tk]
def qt{x}(h:Fm.mQ x):tk (Fm.aH x).1=0:=by cases h<;>simp [Fm.aH,tk]
def qS:Fm->Nat->Int
 | .neg _,p| .cy _,p| .fin _,p| .ec _,p=>(p:Int)-1
 | .and _ b,p| .or _ b,p| .imp _ b,p| .dA _ b,p| .rel _ b,p=>(p:Int)-1-Fm.size b
 |_,_=>-1
def uB:Fm->Nat->Int
 | .and _ _,p| .or _ _,p| .imp _ _,p| .dA _ _,p| .rel _ _,p=>(p:Int)-1
 |_,_=>-1
def gx(a n c F f x)(p:Nat)(w)(hF:bD w a n F)(hn:n<=1000000)(u:jQ F f)(m:(Fm.aI f)[p]? =some x):
 CL 166 #[SL a n c,IV p] w λe N=>e=RT (.tuple #[IV (qS x p),IV (uB x p)])/\BW w N:=by
 have I:=O8 (lq a n c F f w hF hn u)
 have L:p<n:=by rw [<-hF.1];exact (qQ u m).2
 have aa:(p:Int)<n:=ZO
 have t0:decide ((p:Int)<0)=false:=PH ZO
 have t1:decide ((n:Int)<=p)=false:=PH ZO
 have t2:decide (n<=p)=false:=PH ZO
 have t3:¬n<=p:=ZO
 obtain ⟨-,Z|⟨b,ab,rfl,H⟩⟩:=hF
 omega
 have t:=(H p L).1
 rw [xg u m]at t
 have HX:=O8 m
 have U:=O8 u
 clear H
 have z:∀k:Int,tk (Fm.aH x).1=k->Hid (∀W,CL 131 #[IV (Fm.aH x).1] W λe N=>e=RT (IV k)/\N=W):=λk hk W=>by have:=lW (Fm.aH x).1 W;rwa [hk]at this
 obtain h|⟨x1,h⟩|⟨x1,G,h⟩:=Fm.yM x
 have i:=z 0 (qt h)
 have j:Hid (qS x p=-1/\uB x p=-1):=by cases h<;>exact ⟨rfl,rfl⟩
 clear z h m u
 generalize (Fm.aH x).1=S at *
 go_enter func166,ntmps166
 go_wp2_with (first|(go_at_call 72;apply I.o.mono;rintro e y ⟨v,A,rfl,d⟩;have B:=O8 d;have O:=((aX d).cell (O9 w _ t)).trans t;clear d)|(go_at_call 131;refine (i.o _).mono ?_;rintro e T ⟨rfl,rfl⟩))
 go_ret2
 exact ⟨by rw [j.o.1,j.o.2];rfl,aX B.o⟩
 have i:=z 1 (ye h)
 have C:=(Fm.fY h f p m).1
 have j:Hid (qS x p=(p:Int)-1/\uB x p=-1):=by cases h<;>exact ⟨rfl,rfl⟩
 clear z h m u
 generalize (Fm.aH x).1=S at *
 go_enter func166,ntmps166
 go_wp2_with (first|(go_at_call 72;apply I.o.mono;rintro e y ⟨v,A,rfl,d⟩;have B:=O8 d;have O:=((aX d).cell (O9 w _ t)).trans t;clear d)|(go_at_call 131;refine (i.o _).mono ?_;rintro e T ⟨rfl,rfl⟩))
 go_ret2
 exact ⟨by rw [j.o.1,j.o.2];go_num,aX B.o⟩
 have i:=z 2 (yf h)
 obtain ⟨C,D,-⟩:=Fm.dR h f p m
 have j:Hid (qS x p=(p:Int)-1-Fm.size G/\uB x p=(p:Int)-1):=by cases h<;>exact ⟨rfl,rfl⟩
 have E:=Km f 0 (p-1) G D
 have s:Hid ((kT 0 f).getD (p-1) 0=(p:Int)-Fm.size G):=by show _=_;rw [Pd,E];simp only [QC];omega
 have⟨r,R⟩:=EX (Fm.size G)
 have M:=Fm.br G
 have tp:(0:Int)<=p-1:=ZO
 have ac:(p:Int)-1<(n:Int):=ZO
 rw [R]at s j C M
 clear z h m u E D R
 generalize (Fm.aH x).1=S at *
 obtain ⟨l,rfl⟩:∃l,p=l+1:=⟨p-1,ZO⟩
 have K:l<n:=ZO
 have Q:(l:Int)<n:=ZO
 have V:Hid (l+1-1=l):=by show _=_;omega
 rw [V.o]at s
 have q:Hid (∀y v A,aF .i64 3 w y (SL v n A) (kT 0 f)->∃g,v=some (AD g 0)/\y.cell? (AD g l)=some (IV ((l:Int)+1-(r:Int)))):=λy v A d=>by
  obtain ⟨-,Z|⟨g,o,rfl,H⟩⟩:=cT d;omega;have P:=d.1;have hl:(kT 0 f).length=n:=gy d;rw [hl]at P;have⟨a',c',Y,J⟩:=P.shape;cases Y
  obtain ⟨g',X,-,-⟩:=J 0 ZO;cases X
  have:=H l K;rw [s.o,PU]at this;refine ⟨g,rfl,?_⟩;rw [this];simp
 go_enter func166,ntmps166
 go_wp2_with (first|(go_at_call 72;apply I.o.mono;rintro e y ⟨v,A,rfl,d⟩;have B:=O8 d;obtain ⟨g,rfl,cg⟩:=q.o y v A d;have O:=((aX d).cell (O9 w _ t)).trans t;clear d)|(go_at_call 131;refine (i.o _).mono ?_;rintro e T ⟨rfl,rfl⟩))
 go_ret2
 exact ⟨by rw [j.o.1,j.o.2];go_num,aX B.o⟩
def Qn:=@List.length_filter_le
def QA:=@List.filter_append
def QQ:=@List.range_succ
def Tz:=@Go.wpList_append_own_at
def TH:=@Nat.mod_two_eq_zero_or_one
def T9:=@Go.Proofs.Tryz.underlying22
def Tryz.AL:(prog.info? 32).map (λi=>(i.zero,i.size,i.bytes))=some (some (.agg #[IV 0,IV 0]),2,16):=ZK
def bW:List (Int×Int)->List Value
 |[]=>[]
 |x::r=>IV x.1::IV x.2::bW r
def eT:∀l,(bW l).length=l.length*2
 |[]=>rfl
 |x::r=>by show(bW r).length+1+1=(r.length+1)*2;rw [eT r];omega
def iQ:∀l m,bW (l++m)=bW l++bW m
 |[],m=>rfl
 |x::r,m=>by show _::_::bW (r++m)=_;rw [iQ r m];rfl
def gI:∀l j,j<l.length->(bW l)[j*2]? =some (IV (l.getD j (0,0)).1)/\(bW l)[j*2+1]? =some (IV (l.getD j (0,0)).2)
 |[],j,h=>by simp at h
 |x::r,0,_=>⟨rfl,rfl⟩
 |x::r,j+1,h=>by have b:j<r.length:=ZX h;have⟨c,d⟩:=gI r j b;have a:(j+1)*2=j*2+1+1:=ZO;rw [a];exact ⟨c,d⟩
def iR:∀l,∀u∈bW l,u.oneCell'=true
 |[],u,h=>ZC h
 |x::r,u,h=>by obtain rfl|h:=PO.1 h;rfl;obtain rfl|h:=PO.1 h;rfl;exact iR r u h
structure bP (w a:WD) (v:Value) (n:Nat) (F:List (Int×Int)):Prop where
 cO:a.ownsRow 0 32 2 v n (bW F)
 bA:F.length=n
 aJ:BW w a
 dJ:∀b,v.ownBlock=some b->w.heap.size<=b
def bp{S w i e a v n j}(h:w.ownsRow 0 e a v n j)(m:aj S w i)(o:∀g,v.ownBlock=some g->¬S g):i.ownsRow 0 e a v n j:=by refine ⟨h.1,?_⟩;obtain k|⟨g,c,d,rfl,l,f,b⟩:=h.2;exact .inl k;exact .inr ⟨g,c,d,rfl,l,by rw [m.block g (Pb.1 f).1 (o g rfl)];exact f,b⟩
def bF{w:WD}{e b v n k}(h:w.ownsRow 0 e b v n k):∃a c,v=SL a n c:=by obtain ⟨d,j⟩|⟨g,f,i,d,_⟩:=h.2;exact ⟨none,0,by rw [d,j]⟩;exact ⟨_,_,d⟩
def bP.nil(w):bP w w (SN) 0 []:=⟨Qd _ _ _ _,rfl,Pn _ _,λb e=>ZC e⟩
def bP.ak{w k a n c F}(h:bP w k (SL a n c) n F):bD k a n F:=by refine ⟨h.bA,?_⟩;obtain ⟨_,o⟩|⟨b,l,m,e,i⟩:=h.cO.2;exact .inl o;injection e with d f e3;subst d;right;refine ⟨b,0,rfl,λj p=>?_⟩;have g:=h.cO;have⟨d,f⟩:=gI F j (by rw [h.bA];exact p);refine ⟨?_,?_⟩;rw [PU,Qj (size:=2) g (j*2) ZO];exact d;rw [PU,Qj (size:=2) g (j*2+1) ZO];exact f
def ky{K w z f o a Q}(D:o.guard=none)(s x)
 (U:o.op=.call {callee:=.builtin .append,args:=#[s,x],argTypes:=#[22,22]})
 (v n F) (V:a.eval s=v) (i:bP K w v n F)
 (A m c G) (W:a.eval x=SL (some A) m c) (y:bD w (some A) m G) (J:n+m<=1000000000)
 (h:∀q r p,bP K p (SL q (n+m) r) (n+m) (F++G)->aj (λk=>v.ownBlock=some k) w p->(∀b,(SL q (n+m) r).ownBlock=some b->v.ownBlock=some b\/w.heap.size<=b)->wpList prog z Q f (a.put o.dst (SL q (n+m) r)) p):
 wpList prog z Q (o::f) a w:=by
 have⟨I,S,X,H,P⟩:=P6 Tryz.AL
 have l:∀j u,(bW G)[j]? =some u->w.cell? (A.add j)=some u:=by
  intro j u g;have E:j<(bW G).length:=(Po.1 g).1;rw [eT,y.1]at E;obtain Z|⟨b,Y,e,R⟩:=y.2;omega;cases e
  have⟨L,M⟩:=R (j/2) ZO;have⟨N,O⟩:=gI G (j/2) (ZH y.1);rw [QK];obtain B|B:=TH j;have e:j=j/2*2:=ZO;rw [e]at g;rw [N]at g;rw [e,<-g];exact L;have e:j=j/2*2+1:=ZO;rw [e]at g;rw [O]at g;rw [e,<-g,<-QH];exact M
 refine Tz w D s x 22 U 0 32 I (.agg #[IV 0,IV 0]) 2 16 T9 S X H P rfl ZD v n (bW F) V i.cO A m c (bW G) W (by rw [eT,y.1]) l (iR G) (by unfold maxLen;omega) ZO (Pz _) ?_
 intro v' p B t _ d
 have C:aj (λk=>v.ownBlock=some k) w p:=⟨t.os,t.tape,t.output,t.size,λk C J=>t.block k C (λe=>J e.symm)⟩
 obtain ⟨q,r,rfl⟩:=bF B
 refine h q r p ⟨by rw [iQ];exact B,by rw [Pk,i.bA,y.1],i.aJ.trans (C.ag i.aJ.size (λk T e=>ZH (i.dJ k e))),λb e=>?_⟩ C (λb e=>?_)
 obtain d|d:=d
 rw [d]at e;exact i.dJ b e
 rw [d]at e;cases e;exact i.aJ.size
 obtain d|d:=d
 rw [d]at e;exact .inl e
 rw [d]at e;cases e;exact .inr (Pf _)
def bP.zE(w:WD)(a n):bD (w.alloc (CE #[IV a,IV n] 32)) (some (AD w.heap.size 0)) 1 [(a,n)]:=by refine ⟨rfl,.inr ⟨_,0,rfl,λi b=>?_⟩⟩;obtain rfl:i=0:=ZO;exact ⟨Py (w:=w) _ 32 w.heap.size 0 rfl,Py (w:=w) _ 32 w.heap.size 1 rfl⟩
def bP.alloc{a w v n F}(h:bP a w v n F)(o):bP a (w.alloc o) v n F:=
 ⟨bp h.cO ((aj.refl (λ_=>False) w).alloc o) (λ_ _ h=>h),h.bA,h.aJ.alloc h.aJ.size o,h.dJ⟩
def bP.empty(w):bP w (w.alloc (CE #[] 32)) (SV w.heap.size 0 0) 0 []:=
 ⟨Sm (e:=32) (size:=2) w #[] 0 (Pz _) (by simp [maxLen]) rfl,rfl,(Pn _ w).alloc (Pf _) _,λb e=>by cases e;exact Pf _⟩
def bP.from{c w d v n F}(h:bP w d v n F)(a:BW c w):bP c d v n F:=
 ⟨h.cO,h.bA,a.trans (h.aJ.mono a.size),λb e=>PG a.size (h.dJ b e)⟩
def Dx(a n c F w)(hF:bD w a n F)(b:a=none->n=0/\c=0)(q:n<=1000000000):
 CL 8 #[SL a n c] w λe l=>∃d f,e=RT (SL d n f)/\bP w l (SL d n f) n F:=by
 cases a with
 |none=>
  obtain ⟨rfl,rfl⟩:=b rfl
  have g:Hid (F=[]):=Qy hF.1
  have j:=λW=>Rb (P:=prog) W 22 32 none 0 0 0 0 T9
  go_enter func8,ntmps8
  go_wp2
  go_ret
  exact ⟨none,0,rfl,ZR g.o (bP.nil w)⟩
 |some i=>
  have j:=λW=>Rb (P:=prog) W 22 32 (some i) n c 0 0 T9
  have g:Hid (bD (w.alloc (CE #[] 32)) (some i) n F):=hF.ag ((Pn _ w).alloc (Pf _) _)
  have m:=O8 (bP.empty w)
  clear hF
  go_enter func8,ntmps8
  go_wp2_with (at_builtin;refine ky rfl (.tmp 5) (.tmp 6) rfl _ 0 [] rfl m.o i n c F rfl g.o ZO ?_;intro d f l k o p;have h:=O8 k;clear k o p)
  go_ret
  have:=h.o
  rw [PU]at this
  exact ⟨d,f,rfl,this⟩
def Fc{F f}(b:jQ F f)(n):jQ (F++[(4,n)]) (.neg f):=by refine ⟨?_,λx a k e=>?_⟩;rw [Qg,b.1,Fm.nY Fm.One.neg];rfl;rw [Fm.One.neg.aI]at a;obtain a|a:=PC.1 a;exact b.2 x a k e;rw [Pc]at a;subst a;cases e
def LB(a n c F f w)(hF:bD w a n F)(d:a=none->n=0/\c=0)(G:n<=1000000)(u:jQ F f):
 CL 40 #[SL a n c] w λe v=>∃i j,e=RT (SL i (n+1) j)/\bP w v (SL i (n+1) j) (n+1) (F++[(4,0)]):=by
 have A:=O8 (lq a n c F f w hF G u)
 have y:0<n:=by rw [<-hF.1,kN u];exact Fm.br f
 have q:Hid (∀W,BW w W->CL 8 #[SL a n c] W λe v=>∃i j,e=RT (SL i n j)/\bP W v (SL i n j) n F):=λW h=>Dx a n c F W (hF.ag h) d ZO
 have t:Hid (∀l k p,aF .i64 3 w l (SL k n p) (kT 0 f)->∃m,k=some m):=λl k p b=>by obtain ⟨-,K|⟨g,o,rfl,-⟩⟩:=cT b;omega;exact ⟨_,rfl⟩
 have D:=λ(W:WD)(m:Addr)(n c:Nat)=>Rb (P:=prog) W 33 3 (some m) n c 0 0 Rg
 clear hF u d
 go_enter func40,ntmps40
 go_wp2_with (first
  |(go_at_call 72;apply A.o.mono;rintro e l ⟨k,p,rfl,b⟩;have x:=O8 (aX b);obtain ⟨m,rfl⟩:=t.o l k p b;clear b)
  |(go_at_call 8;refine (q.o l x.o).mono ?_;rintro e z ⟨I,J,rfl,b⟩;have r:=O8 b;clear b)
  |(at_builtin;refine ky rfl (.tmp 7) (.tmp 9) rfl _ n F rfl (r.o.alloc _) (AD z.heap.size 0) 1 1 [(4,0)] rfl (bP.zE z 4 0) ZO ?_;intro B C L b E H;have s:=O8 b;clear b E H))
 go_ret
 exact ⟨B,C,rfl,s.o.from x.o⟩
def KN:Fm->Bool| .dA _ _=>true|_=>false
def dL(f:Fm)(k:Nat):List Int:=((List.range k).filter λp=>((Fm.aI f)[p]?.map KN).getD false).map λ(p:Nat)=>(p:Int)
def Ib(f k x)(a:(Fm.aI f)[k]? =some x):dL f (k+1)=dL f k++(if KN x then [(k:Int)]else []):=by unfold dL;rw [QQ,QA,Qg];cases h:KN x<;>simp [a,h]
def CZ(f k):(dL f k).length<=k:=by unfold dL;rw [PB];exact PG (Qn _ _) ZS
def MY(x):KN x=decide ((Fm.aH x).1=9):=by cases x<;>simp [KN,Fm.aH]
def yj(a n c F f w)(hF:bD w a n F)(U:n<=1000000)(p:jQ F f):
 CL 75 #[SL a n c] w λe X=>∃K m L,e=RT (SL K m L)/\aF .i64 3 w X (SL K m L) (dL f n):=by
 have⟨V,B,H,D,A⟩:=P6 Tryz.eA
 have R:=O8 (lq a n c F f w hF U p)
 have r:=O8 hF
 have s:=O8 p
 have t:Hid (Fm.size f=n):=(kN p).symm.trans hF.1
 clear hF p
 go_enter func75,ntmps75
 go_wp2_with (go_at_call 72;apply R.o.mono;rintro e Y ⟨sa,sc,rfl,h⟩;have I:=O8 (aX h);clear h)
 have q:=O8 (r.o.ag I.o)
 go_loopw [3,8] (λv x wr=>∃k:Nat,k<=n/\x=IV k/\Hid (aF .i64 3 Y wr v (dL f k))) (λ_ x _=>n-(intOf x).toNat)
 exact ⟨0,Pz _,rfl,lJ _ _ _⟩
 obtain ⟨k,hk,rfl,h⟩:=hrel
 obtain ⟨S,T,N,-⟩:=lK h.o
 have E:=CZ f k
 by_cases C:k<n
 have P:(k:Int)<n:=ZO
 obtain ⟨-,h0|⟨b,W,rfl,O⟩⟩:=q.o.ag (aX h.o)
 omega
 have M:=(O k C).1
 obtain ⟨x,G⟩:∃x,(Fm.aI f)[k]? =some x:=⟨_,Pe (by have:=t.o;unfold Fm.size at this;omega)⟩
 rw [xg s.o G]at M
 have g:=O8 (Ib f k x G)
 have J:=O8 h.o.1
 have d:=MY x
 have⟨m,j⟩:=EX ((dL f k).length)
 have u:=O8 j
 rw [j]at J N E
 clear O G j
 by_cases i:(Fm.aH x).1=9
 rw [i]at M d
 have z:Hid (dL f (k+1)=dL f k++[(k:Int)]):=by have:=g.o;rw [d]at this;exact this
 clear d i g
 go_wp2_with (at_builtin;refine av rfl (.tmp 17) (.tmp 19) 33 rfl 3 V (IV 0) 8 Rg B H D A rfl ZD _ _ _ rfl J.o _ rfl rfl ZO ?_;intro g1 Z w4 Q l o;have y:=O8 (ef h.o u.o Q l o);clear Q l o)
 go_roundw
 exact ⟨k+1,by omega,by go_num,by rw [z.o];exact y.o⟩
 simp [intOf];omega
 have z:Hid (dL f (k+1)=dL f k):=by have:=g.o;rw [d,PH i]at this;show _=_;rw [this];simp
 have t0:((Fm.aH x).1==9)=false:=Pq.2 i
 clear d g
 generalize (Fm.aH x).1=op at *
 go_wp2_with fail
 go_roundw
 exact ⟨k+1,ZO,ZN,ZR z.o h⟩
 simp [intOf];omega
 obtain rfl:n=k:=ZO
 subst N
 go_wp2_with fail
 go_ret
 exact ⟨S,_,T,rfl,gY I.o h.o⟩
end Go.Proofs.YtimniinkpipnmaaGreatDoor
namespace Go.Own
open Go.RowKit
section
def Qc:=@List.mem_cons_of_mem
def Qu:=@Bool.true_and
def QJ:=@Array.size_setIfInBounds
def QS:=@List.filter_cons_of_neg
def QT:=@List.filter_cons_of_pos
def Q4:=@decide_eq_false
def Re:=@Nat.lt_or_ge
def Rf:=@of_decide_eq_true
def Rj:=@decide_eq_true
def Rx:=@List.contains_eq_mem
def RV:=@Go.getD_set_ne
def Sy:=@List.nodup_cons
def S2:=@Array.setIfInBounds_comm
def Ti:=@decide_eq_true_eq
def Tu:=@Bool.false_or
def TT:=@Bool.or_false
def TZ:=@List.countP_cons_of_neg
def T0:=@List.countP_cons_of_pos
def Ua:=@List.filter_eq_nil_iff
def Uc:=@List.mem_map
def Un:=@Go.ready_mono
def UB:=@Array.all_eq_true'
def UU:=@trivial
def UW:=@Array.getElem?_setIfInBounds_ne
section
variable {P:Program} {ops:Array Oper} {Q:Exit->Act->WD->Prop} {md:Region.Mode} {S:WD->Prop} {β:Nat}
def dz(P:Program)(md:Region.Mode)(ops:Array Oper)(Q:Exit->Act->WD->Prop)(S:WD->Prop)(β:Nat):Nat->Array Bool->Act->WD->Prop
 |0,b,a,w=>Region.ready md ops b=[]/\Q .normal a w
 |c+1,b,a,w=>
  (Region.ready md ops b=[]->Q .normal a w)/\
  ∀i∈Region.ready md ops b,wpOp P ops Q i (λe d=>((b.setIfInBounds i true).getD β false=false->S d)/\dz P md ops Q S β c (b.setIfInBounds i true) e d) a w
def pA:∀b c a w,dz P md ops Q S β b c a w->wpAny P md ops Q b c a w
 |0,_,_,_,h=>h
 |b+1,_,_,_,h=>⟨h.1,λi f=>wpOp_mono (λd g e=>pA b _ d g e.2) (h.2 i f)⟩
def iH(md:Region.Mode)(ops:Array Oper)(a:Array Bool):Prop:=
 ∀j b,ops[j]? =some b->a.getD j false=true->∀e∈b.after,Region.binds md e=true->a.getD e.on false=true
def getD_none(n j):(Array.replicate n false).getD j false=false:=by obtain h|h:=Re j n;simp [h];simp [h]
def iH.aM(n):iH md ops (Array.replicate n false):=λj b _ a=>by rw [getD_none]at a;cases a
def iH.set{a i}(h:iH md ops a)(n:i∈Region.ready md ops a):iH md ops (a.setIfInBounds i true):=by intro j m k l e g f;have⟨_,o,d,b⟩:=TK.1 n;by_cases c:i=j;subst c;have:m=o:=Option.some.inj (k.symm.trans d);subst this;exact getD_set_true (b e g f);rw [RV false c]at l;exact getD_set_true (h j m k l e g f)
def zM(md:Region.Mode)(ops:Array Oper):List Nat->Bool
 |x::y::l=>(match ops[x]? with|some o=>o.after.any λe=>Region.binds md e&&e.on==y|none=>false)&&zM md ops (y::l)
 |_=>true
def qT:Nat->List Nat->Nat
 |x,[]=>x
 |_,y::l=>qT y l
def nm{a}(h:iH md ops a):∀l x,zM md ops (x::l)=true->a.getD x false=true->a.getD (qT x l) false=true
 |[],x,_,g=>g
 |y::l,x,f,g=>by
  unfold zM at f;rw [Qk]at f;obtain ⟨b,i⟩:=f;refine nm h l y i ?_;cases d:ops[x]? with
  |none=>rw [d]at b;cases b
  |some o=>rw [d]at b;dsimp only at b;have⟨e,j,c⟩:=Array.any_eq_true'.1 b;rw [Qk,Ud]at c;have:=h x o d g e j c.1;rwa [c.2]at this
def nz{a:Array Bool}{i}(h:a.getD i true=false):a.getD i false=false:=by obtain b|b:=Re i a.size;simp [b]at h⊢;exact h;simp [Array.getElem?_eq_none b]at h
def Bp{i x v}(V:ops[i]? =some x)(t:∀(j:Nat)(o) z b,ops[j]? =some o->o.op≠.select z b)
 (hQ:∀c a w,Q (.panic c) (a.put x.dst v) w->Q (.panic c) a w) (W:i≠β) (p) (hp:zM md ops (β::p)=true) (hl:qT β p=i):
 ∀g d a w,iH md ops d->
  (∀j y,ops[j]? =some y->j≠i->d.getD j true=false->(∀e∈y.after,Region.binds md e=true->e.on≠i)->x.apart ops y=true)->
  i∈Region.ready md ops d->YieldsIf P ops S x v a->S w->
  dz P md ops Q S β g (d.setIfInBounds i true) (a.put x.dst v) w->dz P md ops Q S β (g+1) d a w:=by
 have E:∀l:Array Bool,iH md ops l->l.getD i false=false->l.getD β false=false:=λl hc hf=>by
  by_cases M:l.getD β false=true
  ·have:=nm hc p β hp M;rw [hl,hf]at this;cases this
  ·simpa using M
 intro g
 induction g with
 |zero=>
  intro d a w _ _ s N B H
  refine ⟨λh=>(by rw [h]at s;cases s),λj G=>?_⟩
  by_cases f:j=i
  ·subst f;exact N.wpOp V B ⟨λ_=>B,H⟩
  ·have:=Un G f;rw [H.1]at this
   cases this
 |succ g ih=>
  intro d a w T m s N B H
  refine ⟨λh=>(by rw [h]at s;cases s),λj G=>?_⟩
  by_cases f:j=i
  ·subst f;exact N.wpOp V B ⟨λ_=>B,H⟩
  ·have A:=H.2 j (Un G f);have⟨r,y,u,D⟩:=TK.1 G
   have J:∀e∈y.after,Region.binds md e=true->e.on≠i:=λe he M U=>by have A:=D e he M;have h0:=(TK.1 s).1;rw [U]at A;rw [nz h0]at A;cases A
   have h2:=wpOp_putIf u (m j y u f r J) (λz b=>t i x z b V) (λz b=>t j y z b u) hQ N A;have n:∀k L,ops[k]? =some L->k≠i->(d.setIfInBounds j true).getD k true=false->
    (∀e∈L.after,Region.binds md e=true->e.on≠i)->x.apart ops L=true:=λk L hk Y K Z=>by
    refine m k L hk Y ?_ Z
    by_cases I:j=k
    ·subst I;exact r
    ·rw [RV true I]at K;exact K
   have q:=T.set G;have X:(d.setIfInBounds j true).getD i false=false:=by rw [RV false f];exact nz (TK.1 s).1
   have R:=E _ q X;have F:((d.setIfInBounds i true).setIfInBounds j true).getD β false=false:=by rw [S2 _ _ (Rz f),RV false W];exact R
   refine wpOp_mono (λa' w' O=>?_) h2;have C:=O.2.1 F;refine ⟨λ_=>C,ih (d.setIfInBounds j true) a' w' q n (Un s (Rz f)) O.1 C ?_⟩;rw [S2 _ _ f];exact O.2.2
def nX(md:Region.Mode)(ops:Array Oper)(a:Array Bool):Bool:=(List.range ops.size).all λj=>!a.getD j false||(match ops[j]? with|some o=>o.after.all λe=>!Region.binds md e||a.getD e.on false|none=>true)
def DC{a}(h:iH md ops a):nX md ops a=true:=by
 refine Rc.2 λj f=>?_;have b:j<ops.size:=P5.1 f;rw [Array.getElem?_eq_getElem b,Tx];cases g:a.getD j false with
 |false=>exact .inl rfl
 |true=>
  refine .inr (UB.2 λe d=>?_);rw [Tx];cases c:Region.binds md e with
  |false=>exact .inl rfl
  |true=>exact .inr (h j ops[j] (Array.getElem?_eq_getElem b) g e d c)
def pS{a}(h:nX md ops a=true):iH md ops a:=by intro j k d i e g f;have b:=Rc.1 h j (P5.2 (Pb.1 d).1);rw [d,i]at b;simp only [Bool.not_true,Tu]at b;have c:=UB.1 b e g;rw [f]at c;simpa using c
def cJ{i}(p){e v d b a w}(g:ops[i]? =some e)
 (f:(Region.noSelect ops&&nX md ops b&&Region.free md ops b i&&(Region.ready md ops b).contains i&&zM md ops (β::p)&&decide (qT β p=i)&&decide (i≠β))=true)
 (r:∀c a w,Q (.panic c) (a.put e.dst v) w->Q (.panic c) a w) (t:YieldsIf P ops S e v a) (s:S w)
 (h:dz P md ops Q S β d (b.setIfInBounds i true) (a.put e.dst v) w):dz P md ops Q S β (d+1) b a w:=by
 simp only [Qk,Ti]at f
 obtain ⟨⟨⟨⟨⟨⟨j,k⟩,l⟩,m⟩,n⟩,o⟩,q⟩:=f
 exact Bp g (Region.noSelect_spec j) r q p n o d b a w (pS k) (Region.free_spec g l) (ZX m) t s h
def yT{i t v}(L:ops[i]? =some t)(p:∀(j:Nat)(o) x b,ops[j]? =some o->o.op≠.select x b)
 (V:∀c a w,Q (.panic c) (a.put t.dst v) w->Q (.panic c) a w) (q:i≠β):
 ∀g d a w,
  (∀j u,ops[j]? =some u->j≠i->d.getD j true=false->(∀e∈u.after,Region.binds md e=true->e.on≠i)->t.apart ops u=true)->
  i∈Region.ready md ops d->YieldsIf P ops (λ_=>True) t v a->(d.getD β false=false->S w)->
  dz P md ops Q S β g (d.setIfInBounds i true) (a.put t.dst v) w->dz P md ops Q S β (g+1) d a w:=by
 intro g
 induction g with
 |zero=>
  intro d a w _ s G J H
  refine ⟨λh=>(by rw [h]at s;cases s),λj F=>?_⟩
  by_cases f:j=i
  ·subst f;exact G.wpOp L UU ⟨λe=>J (by rwa [RV false q]at e),H⟩
  ·have:=Un F f;rw [H.1]at this
   cases this
 |succ g Z=>
  intro d a w l s G J H
  refine ⟨λh=>(by rw [h]at s;cases s),λj F=>?_⟩
  by_cases f:j=i
  ·subst f;exact G.wpOp L UU ⟨λe=>J (by rwa [RV false q]at e),H⟩
  ·have y:=H.2 j (Un F f);have⟨n,u,r,A⟩:=TK.1 F
   have C:∀e∈u.after,Region.binds md e=true->e.on≠i:=λe X W K=>by have y:=A e X W;have T:=(TK.1 s).1;rw [K]at y;rw [nz T]at y;cases y
   have U:=wpOp_putIf r (l j u r f n C) (λx b=>p i t x b L) (λx b=>p j u x b r) V G y;have m:∀k E,ops[k]? =some E->k≠i->(d.setIfInBounds j true).getD k true=false->
    (∀e∈E.after,Region.binds md e=true->e.on≠i)->t.apart ops E=true:=λk E Y M D N=>by
    refine l k E Y M ?_ N
    by_cases B:j=k
    ·subst B;exact n
    ·rw [RV true B]at D;exact D
   refine wpOp_mono (λR O I=>?_) U;have z:(d.setIfInBounds j true).getD β false=false->S O:=λe=>I.2.1 (by rw [S2 _ _ (Rz f),RV false q];exact e);refine ⟨z,Z (d.setIfInBounds j true) R O m (Un s (Rz f)) I.1 z ?_⟩;rw [S2 _ _ f];exact I.2.2
def aS{i e v d b a w}(g:ops[i]? =some e)
 (f:(Region.noSelect ops&&Region.free md ops b i&&(Region.ready md ops b).contains i&&decide (i≠β))=true)
 (n:∀c a w,Q (.panic c) (a.put e.dst v) w->Q (.panic c) a w) (p:YieldsIf P ops (λ_=>True) e v a) (o:S w)
 (h:dz P md ops Q S β d (b.setIfInBounds i true) (a.put e.dst v) w):dz P md ops Q S β (d+1) b a w:=by
 simp only [Qk,Ti]at f
 obtain ⟨⟨⟨j,k⟩,l⟩,m⟩:=f
 exact yT g (Region.noSelect_spec j) n m d b a w (Region.free_spec g k) (ZX l) p (λ_=>o) h
def fj(P:Program)(md:Region.Mode)(ops:Array Oper)(Q:Exit->Act->WD->Prop)(S:WD->Prop)(β:Nat)(c:Nat)(b:Array Bool)(a:Act)(w:WD)(f:List Nat):Prop:=
 ∀i∈f,wpOp P ops Q i (λe d=>((b.setIfInBounds i true).getD β false=false->S d)/\dz P md ops Q S β c (b.setIfInBounds i true) e d) a w
def fj.nil{c b a w}:fj P md ops Q S β c b a w []:=λ_ h=>ZC h
def fj.cons{c b a w i o f}(m:ops[i]? =some o)
 (h:∀d:Act->WD->Prop,Shut (∀a w,((b.setIfInBounds i true).getD β false=false->S w)->dz P md ops Q S β c (b.setIfInBounds i true) a w->d a w)->if Region.wanted o (yielded ops a.tmps)=true then Oper.wp P o a w d Q else d (a.put o.dst undef) w)
 (n:fj P md ops Q S β c b a w f):fj P md ops Q S β c b a w (i::f):=λj e=>by
 obtain rfl|e:=PO.1 e
 exact wpOp_step m (λd g=>h d (λa w k l=>g a w ⟨k,l⟩))
 exact n j e
def qC{rs c b a w}(e:Region.ready md ops b=rs)(d:rs≠[])
 (h:fj P md ops Q S β c b a w rs):dz P md ops Q S β (c+1) b a w:=
 ⟨λf=>absurd (e▸f) d,e▸h⟩
def az{c b a w}(e:Region.ready md ops b=[])(h:Q .normal a w):dz P md ops Q S β c b a w:=by
 cases c with
 |zero=>exact ⟨e,h⟩
 |succ f=>exact ⟨λ_=>h,λi d=>by rw [e]at d;cases d⟩
def aw{d a w}(β)(c:P.follows .mixedOrders=true)(b:S w.drew)
 (h:S w.drew->dz P .any ops Q S β ops.size (Array.replicate ops.size false) a w.drew):(Code.region d ops true).wp P Q a w:=
 wp_region_any c (pA _ _ _ _ (h b))
def aN(a:Act):List Nat->(Nat->Value)->Act
 |[],_=>a
 |t::b,V=>(aN a b V).put (some t) (V t)
def zN(a):∀b V t v,t∉b->aN a b (up V t v)=aN a b V
 |[],_,_,_,_=>rfl
 |s::b,V,t,v,h=>by unfold aN;have d:s≠t:=λe=>h (ZR e P2);rw [zN a b V t v (λc=>h (Qc _ c)),an _ _ _ _ d]
def LK(a:Act)(t:Nat)(v u):(a.put (some t) v).put (some t) u=a.put (some t) u:=by simp [Act.put]
def xP(a):∀(b V)(t:Nat)(v),t∈b->b.Nodup->(aN a b V).put (some t) v=aN a b (up V t v)
 |s::b,V,t,v,h,f=>by rw [Sy]at f;unfold aN;by_cases e:t=s;subst e;rw [LK,zN a b V t v f.1,aA];rw [Act.put_comm _ _ _ (λd g=>by cases g;intro c;cases c;exact e rfl),xP a b V t v ((PO.1 h).resolve_left e) f.2,an _ _ _ _ (λc=>e c.symm)]
def JY(a:Act)(t:Nat):a.put (some t) (a.tmps.getD t undef)=a:=by
 unfold Act.put;have:a.tmps.setIfInBounds t (a.tmps.getD t undef)=a.tmps:=by refine Array.ext ZS λi b c=>?_;simp only [QJ]at b;rw [Array.getElem_setIfInBounds];split;rename_i e;subst e;simp [b];rfl
 dsimp only;rw [this]
def sf(a):∀b,aN a b (λt=>a.tmps.getD t undef)=a
 |[]=>rfl
 |t::b=>by unfold aN;rw [sf a b];exact JY a t
def dK(a V)(t:Nat):∀b,t∉b->(aN a b V).eval (.tmp t)=a.eval (.tmp t)
 |[],_=>rfl
 |s::b,h=>by have f:=dK a V t b (λc=>h (Qc _ c));have d:s≠t:=λe=>h (ZR e P2);unfold aN;rw [<-f];simp [Act.eval,Act.put,UW d]
def yb:List Nat->List (List Nat)
 |[]=>[[]]
 |x::l=>yb l++(yb l).map (x:: ·)
def nB(p):∀l,l.filter p∈yb l
 |[]=>Pc.2 rfl
 |x::l=>by unfold yb;rw [PC];by_cases h:p x=true;rw [QT h];exact .inr (Uc.2 ⟨_,nB p l,rfl⟩);rw [QS h];exact .inl (nB p l)
def fg(l:Array Bool)(u:List Nat):Array Bool:=Array.ofFn (n:=l.size) λi=>l.getD i false&&!u.contains i.val
def A6(md:Region.Mode)(ops:Array Oper)(R:List Nat)(b:Nat->Nat)(a:Array Bool):Bool:=
 decide (a.size=ops.size)&&decide R.Nodup&&decide (R.map b).Nodup&&(R.all λr=>a.getD r false&&(match ops[r]? with|some o=>o.guard.isNone&&o.dst==some (b r)|none=>false))&&
 nX md ops (fg a R)&&(yb R).all λu=>u.isEmpty||!nX md ops (fg a u)||(!(Region.ready md ops (fg a u)).isEmpty&&(Region.ready md ops (fg a u)).all λi=>R.contains i)
def mh{p q i}(d:p i=true)(f:q i=false)(a:∀j,j≠i->q j=p j):∀(R:List Nat),R.Nodup->i∈R->R.countP p=R.countP q+1
 |x::l,c,b=>by rw [Sy]at c;obtain rfl|b:=PO.1 b;rw [T0 d,TZ (by rw [f];decide)];congr 1;refine List.countP_congr λj m=>?_;rw [a j (λe=>c.1 (e▸m))];have g:x≠i:=λe=>c.1 (e▸b);have k:=mh d f a l c.2 b;by_cases h:p x=true;rw [T0 h,T0 (by rw [a x g];exact h),k];rw [TZ h,TZ (by rw [a x g];exact h),k]
def mH{A G w0 k}(R a f c)(J:Array Bool->(Nat->Value)->WD->Prop)
 (hB:A6 md ops R a f=true) (y:G=fg f R) (hf:k=c+R.length)
 (hJ:J G (λt=>A.tmps.getD t undef) w0) (hS:∀l V w,J l V w->S w)
 (E:∀l V w i o,l.size=ops.size->iH md ops l->i∈R->ops[i]? =some o->i∈Region.ready md ops l->J l V w->
  ∀K:Act->WD->Prop,(∀v w',J (l.setIfInBounds i true) (up V (a i) v) w'->K ((aN A (R.map a) V).put o.dst v) w')->aY P o (aN A (R.map a) V) w K Q)
 (C:∀V w,J f V w->dz P md ops Q S β c f (aN A (R.map a) V) w):dz P md ops Q S β k G A w0:=by
 simp only [A6,Qk,Ti]at hB
 obtain ⟨⟨⟨⟨⟨F,af⟩,Y⟩,hR⟩,N⟩,Z⟩:=hB
 have aa:∀r∈R,f.getD r false=true:=λr z=>by have:=Rc.1 hR r z;rw [Qk]at this;exact this.1
 have I:∀r∈R,∃o,ops[r]? =some o/\o.guard=none/\o.dst=some (a r):=λr z=>by
  have:=Rc.1 hR r z;rw [Qk]at this;cases D:ops[r]? with
  |none=>rw [D]at this;cases this.2
  |some o=>rw [D]at this;have u:=this.2;dsimp only at u;rw [Qk,Ud,Option.isNone_iff_eq_none]at u;exact ⟨o,rfl,u.1,u.2⟩
 have s:∀l:Array Bool,l.size=ops.size->(∀j,j∉R->l.getD j false=f.getD j false)->l=fg f (R.filter λr=>!l.getD r true):=by
  intro l b g;refine Array.ext (by simp [fg,b,F]) λj H u=>?_;have ai:j<f.size:=ZO;have e1:l.getD j false=l[j]:=by simp [H]
  have e2:l.getD j true=l[j]:=by simp [H]
  simp only [fg,Array.getElem_ofFn];by_cases d:j∈R;rw [aa j d,Qu];cases X:l[j]with
  |true=>
   have:(R.filter λr=>!l.getD r true).contains j=false:=by rw [Rx];refine Q4 λhm=>?_;have:=(PY.1 hm).2;rw [e2,X]at this;cases this
   rw [this];rfl
  |false=>
   have:(R.filter λr=>!l.getD r true).contains j=true:=by rw [Rx];exact Rj (PY.2 ⟨d,by rw [e2,X];rfl⟩)
   rw [this];rfl
  have:(R.filter λr=>!l.getD r true).contains j=false:=by rw [Rx];exact Q4 λhm=>d (PY.1 hm).1
  rw [this,<-e1,g j d];simp
 have ah:∀(m:Nat)(l:Array Bool)(V:Nat->Value)(w:WD),l.size=ops.size->iH md ops l->(∀j,j∉R->l.getD j false=f.getD j false)->R.countP (λr=>!l.getD r true)=m->J l V w->
  dz P md ops Q S β (c+m) l (aN A (R.map a) V) w:=by
  intro m
  induction m with
  |zero=>
   intro l V w b x g M B
   have L:R.filter (λr=>!l.getD r true)=[]:=by rw [Ua];exact λr z h=>by have:=List.countP_eq_zero.1 M r z;exact this h
   have:=s l b g
   rw [L]at this
   have he:fg f []=f:=by refine Array.ext (by simp [fg]) λj H u=>?_;simp only [fg,Array.getElem_ofFn];simp [u]
   rw [he]at this
   subst this
   exact C V w B
  |succ m ih=>
   intro l V w b x g M B
   have ag:(R.filter λr=>!l.getD r true)≠[]:=λe=>by
    have:R.countP (λr=>!l.getD r true)=0:=by rw [List.countP_eq_length_filter,e];rfl
    omega
   have H:=Rc.1 Z _ (nB (λr=>!l.getD r true) R)
   rw [<-s l b g,DC x,Bool.not_true,TT,Tx,Qk]at H
   have⟨u,h3⟩:=H.resolve_left (λe=>ag (List.isEmpty_iff.1 e))
   refine ⟨λh0=>(by rw [h0]at u;cases u),λi O=>?_⟩
   have n:i∈R:=by have:=Rc.1 h3 i O;rw [Rx]at this;exact Rf this
   have⟨o,D,hg,hd⟩:=I i n
   refine Me D (Bo hg) (E l V w i o b x n D O B _ λv w' T=>⟨λ_=>hS _ _ _ T,?_⟩).o
   rw [hd,xP A _ V (a i) v (Uc.2 ⟨i,n,rfl⟩) Y]
   refine ih _ _ _ (by rw [QJ];exact b) (x.set O) (λj d=>?_) ?_ T
   have ac:i≠j:=λe=>d (e▸n)
   rw [RV false ac];exact g j d
   have ad:i<l.size:=ZR b (J1 O)
   have:=mh (p:=λr=>!l.getD r true) (q:=λr=>!(l.setIfInBounds i true).getD r true) (i:=i) (by rw [rh O];rfl) (by simp [ad]) (λj B=>by rw [RV true (Rz B)]) R af n
   omega
 have U:∀j,j∉R->G.getD j false=f.getD j false:=λj B=>by
  subst y;obtain h|h:=Re j f.size;have M:R.contains j=false:=by rw [Rx];exact Q4 B
  simp [fg,h,M];intro _;simpa using B;simp [fg,h]
 have W:G.size=ops.size:=by subst y;simp [fg,F]
 have ab:R.countP (λr=>!G.getD r true)=R.length:=by
  rw [List.countP_eq_length];intro r z;subst y;have ae:r<f.size:=by have⟨o,D,_⟩:=I r z;rw [F];exact (Pb.1 D).1
  have M:R.contains r=true:=by rw [Rx];exact Rj z
  simp [fg,ae,z]
 rw [hf]
 have:=ah R.length G (λt=>A.tmps.getD t undef) w0 W (ZR y (pS N)) U ab hJ
 rwa [sf]at this
end
end
end Go.Own
namespace Go
def Shut.q{B:Type}{b:Bool}{S:B->Prop}{W K:Act->B->Prop}(h:Shut (∀a w,(b=false->S w)->W a w->K a w)){a a2:Act}{w:B}(k:W a2 w)(e:b=true:=by rfl)(ha:a=a2:=by((try walk_nrm);exact rfl)):K a w:=ha▸h.p (ha▸k) e
end Go
namespace Go.Own
open Go.RowKit
theorem ZY{p q:Prop}(k:q)(h:p=q:=by(simp only [List.map_cons,List.map_nil,aN,Act.put,reduceIte,Nat.reduceEqDiff,List.setIfInBounds_toArray,List.set_cons_zero,List.set_cons_succ];try exact rfl)):p:=h.mpr k
section
section
variable {P:Program} {ops:Array Oper} {Q:Exit->Act->WD->Prop} {md:Region.Mode} {S:WD->Prop} {β:Nat}
def aB(i){e v d b a f w}
 (h:dz P md ops Q S β d (b.setIfInBounds i true) f w) (p:=[i]) (n:ops[i]? =some e:=by exact rfl)
 (m:Region.wanted e (yielded ops a.tmps)=true:=by rfl)
 (o:∀w,S w->(execOp a.eval e).run P w=.ok (.value v) w:=by(intro w' hSw;(try dsimp only at hSw);go_simp;(try with_reducible rfl)))
 (g:(Region.noSelect ops&&nX md ops b&&Region.free md ops b i&&(Region.ready md ops b).contains i&&zM md ops (β::p)&&decide (qT β p=i)&&decide (i≠β))=true:=by kernel_rfl)
 (j:∀c a w,Q (.panic c) (a.put e.dst v) w->Q (.panic c) a w:=by exact λ_ _ _ h=>h) (k:S w:=by assumption) (l:a.put e.dst v=f:=by((try walk_nrm);exact rfl)):
 dz P md ops Q S β (d+1) b a w:=cJ p n g j (Or.inl ⟨m,o⟩) k (l▸h)
def fB(i){e d b a f w}
 (h:dz P md ops Q S β d (b.setIfInBounds i true) f w) (n:ops[i]? =some e:=by exact rfl)
 (m:Region.wanted e (yielded ops a.tmps)=false:=by rfl)
 (g:(Region.noSelect ops&&Region.free md ops b i&&(Region.ready md ops b).contains i&&decide (i≠β))=true:=by kernel_rfl)
 (j:∀c a w,Q (.panic c) (a.put e.dst undef) w->Q (.panic c) a w:=by exact λ_ _ _ h=>h) (k:S w:=by assumption) (l:a.put e.dst undef=f:=by((try walk_nrm);exact rfl)):
 dz P md ops Q S β (d+1) b a w:=aS n g j (Or.inr ⟨m,rfl⟩) k (l▸h)
def aK(i){c b a w o}
 (h:∀d:Act->WD->Prop,Shut (∀a w,((b.setIfInBounds i true).getD β false=false->S w)->dz P md ops Q S β c (b.setIfInBounds i true) a w->d a w)->if Region.wanted o (yielded ops a.tmps)=true then Oper.wp P o a w d Q else d (a.put o.dst undef) w)
 (e:ops[i]? =some o:=by exact rfl) (f:Region.ready md ops b=[i]:=by kernel_rfl):dz P md ops Q S β (c+1) b a w:=
 qC f (by simp) (fj.cons e h fj.nil)
end
end
end Go.Own
namespace Go.Proofs.YtimniinkpipnmaaGreatDoor
open Go.RowKit Go.Own Go.Proofs.Tryz
section
def Qi:=@List.length_singleton
def Tk:=@Go.run_append_own_at
def xG{w0 w o a K Q}(s x)
 (T:o.op=.call {callee:=.builtin .append,args:=#[s,x],argTypes:=#[22,22]})
 (v n F) (V:a.eval s=v) (g:bP w0 w v n F)
 (z m c G) (W:a.eval x=SL (some z) m c) (y:bD w (some z) m G) (H:n+m<=1000000000)
 (h:∀q r l,bP w0 l (SL q (n+m) r) (n+m) (F++G)->aj (λk=>v.ownBlock=some k) w l->(∀b,(SL q (n+m) r).ownBlock=some b->v.ownBlock=some b\/w.heap.size<=b)->K (a.put o.dst (SL q (n+m) r)) l):aY prog o a w K Q:=by
 have⟨E,R,X,D,N⟩:=P6 Tryz.AL
 have i:∀j u,(bW G)[j]? =some u->w.cell? (z.add j)=some u:=by
  intro j u f;have C:j<(bW G).length:=(Po.1 f).1;rw [eT,y.1]at C;obtain Z|⟨b,Y,e,O⟩:=y.2;omega;cases e
  have⟨I,J⟩:=O (j/2) ZO;have⟨L,M⟩:=gI G (j/2) (ZH y.1);rw [QK];obtain A|A:=TH j;have e:j=j/2*2:=ZO;rw [e]at f;rw [L]at f;rw [e,<-f];exact I;have e:j=j/2*2+1:=ZO;rw [e]at f;rw [M]at f;rw [e,<-f,<-QH];exact J
 constructor
 have⟨v',l,U,A,t,_,d⟩:=Tk (P:=prog) w 0 22 o.type 32 E (.agg #[IV 0,IV 0]) 2 16 T9 R X D N rfl ZD v n (bW F) g.cO z m c (bW G) (by rw [eT,y.1]) i (iR G) (by unfold maxLen;omega) ZO (Pz _)
 unfold Oper.wp execOp
 simp only [T,resolve,invoke,builtin,Rv,R6,Q9,Rm,Pv,PE,V,W,U]
 have B:aj (λk=>v.ownBlock=some k) w l:=⟨t.os,t.tape,t.output,t.size,λk B H=>t.block k B (λe=>H e.symm)⟩
 obtain ⟨q,r,rfl⟩:=bF A
 refine h q r l ⟨by rw [iQ];exact A,by rw [Pk,g.bA,y.1],g.aJ.trans (B.ag g.aJ.size (λk S e=>ZH (g.dJ k e))),λb e=>?_⟩ B (λb e=>?_)
 obtain d|d:=d
 rw [d]at e;exact g.dJ b e
 rw [d]at e;cases e;exact g.aJ.size
 obtain d|d:=d
 rw [d]at e;exact .inl e
 rw [d]at e;cases e;exact .inr (Pf _)
structure NW (w0 w:WD) (p:Nat) (vf vs vo:Value) (m:Nat) (G:List (Int×Int)):Prop where
 c0:w.cell? (AD p 0)=some vf
 c1:w.cell? (AD p 1)=some vs
 c2:w.cell? (AD p 2)=some vo
 fr:w.frozen? (AD p 2)=false
 o:bP w0 w vo m G
 ne:vo.ownBlock≠some p
 dJ:w0.heap.size<=p
section
variable {w0 w w1:WD} {p:Nat} {vf vs vo:Value} {m:Nat} {G:List (Int×Int)}
def NW.lt(h:NW w0 w p vf vs vo m G):p<w.heap.size:=O9 w _ h.c0
def NW.ag(h:NW w0 w p vf vs vo m G)(a:BW w w1):NW w0 w1 p vf vs vo m G:=by have c:=h.lt;refine ⟨(a.cell c).trans h.c0,(a.cell c).trans h.c1,(a.cell c).trans h.c2,?_,⟨bp h.o.cO (aj.aC a) (λb e s=>?_),h.o.bA,h.o.aJ.trans (a.mono h.o.aJ.size),h.o.dJ⟩,h.ne,h.dJ⟩;exact (PK ((aj.aC a).block p c (λe=>QE _ (Ps c e)))).trans h.fr;have:=(Vg h.o.cO b e).2;omega
def NW.Ov(h:NW w0 w p vf vs vo m G)(a:aj (λk=>vo.ownBlock=some k) w w1):FZ w1 p 2:=(PK (a.block p h.lt h.ne)).trans h.fr
def NW.dT{c a d q}(h:NW w0 w p vf vs vo m G)(i:bP w0 w1 (SL c a d) a q)(g:aj (λk=>vo.ownBlock=some k) w w1)(s:∀b,(SL c a d).ownBlock=some b->vo.ownBlock=some b\/w.heap.size<=b):
 NW w0 (w1.setCell (AD p 2) (SL c a d)) p vf vs (SL c a d) a q:=by
 have l:aj (λk=>k=p) w1 (w1.setCell (AD p 2) (SL c a d)):=(aj.refl (λk=>k=p) w1).setCell (p:=(AD p 2)) (λ_=>rfl) _
 have f:(SL c a d).ownBlock≠some p:=λe=>by obtain j|j:=s p e;exact h.ne j;exact QE _ (Ps h.lt j)
 have n:((AD p 2):Addr)≠(AD p 0):=λe=>ZC e
 have o:((AD p 2):Addr)≠(AD p 1):=λe=>ZC e
 refine ⟨?_,?_,P4 (h:=g.aq h.c2 h.ne) ..,?_,⟨bp i.cO l (λb e r=>f (by rw [e,r])),i.bA,i.aJ.setCell h.dJ _,i.dJ⟩,f,h.dJ⟩
 rw [PQ (h:=n) ..];exact g.aq h.c0 h.ne
 rw [PQ (h:=o) ..];exact g.aq h.c1 h.ne
 rw [Qo];exact h.Ov g
def NW.aM(w vf vs):NW w (w.alloc (CE #[vf,vs,SN] 145)) w.heap.size vf vs (SN) 0 []:=
 ⟨Py (w:=w) _ 145 w.heap.size 0 rfl,Py (w:=w) _ 145 w.heap.size 1 rfl,Py (w:=w) _ 145 w.heap.size 2 rfl,R7 _ _ _ _ rfl,
  ⟨Qd _ _ _ _,rfl,(Pn _ w).alloc (Pf _) _,λb e=>ZC e⟩,(λe=>ZC e),Pf _⟩
end
def kg(b x y w):CL 133 #[.bool b,IV x,IV y] w λe a=>e=RT (IV (if b then y else x))/\a=w:=by
 cases b
 all_goals
  go_enter func133,ntmps133
  go_wp2
  go_ret
  exact ⟨rfl,rfl⟩
def jY(w0:WD)(p:Nat)(vf vs:Value)(G:List (Int×Int))(e:Ending)(a:WD):Prop:=e=RT (.tuple #[])/\∃vo m,NW w0 a p vf vs vo m G
def j8(w0 w p vf vs vo m G b)(h:NW w0 w p vf vs vo m G)(d:m<=1000000):
 CL 132 #[PT p,IV b] w (jY w0 p vf vs (G++[(b,0)])):=by
 have⟨k,l,j⟩:=bF h.o.cO
 subst j
 have n:=O8 h
 have r:=h.c2
 have g:=O8 (bP.zE w b 0)
 have f:Hid (BW w (w.alloc (CE #[IV b,IV 0] 32))):=(Pn _ _).alloc (Pf _) _
 have a:=O8 (h.ag f.o)
 clear h
 go_enter func132,ntmps132
 go_wp2_with (at_builtin;refine ky rfl (.tmp 8) (.tmp 11) rfl (SL k m l) m G rfl a.o.o (AD w.heap.size 0) 1 1 [(b,0)] rfl g.o ZO ?_;intro o q u d c e;have t:=a.o.Ov c;have s:=c.aq a.o.c2 a.o.ne;have i:=O8 (a.o.dT d c e);clear d c e)
 go_end0
 exact ⟨rfl,_,_,i.o⟩
structure NF (w0:WD) (a:OA) (n:Nat) (F:List (Int×Int)) (f:Fm) (b:OA):Prop where
 ak:bD w0 a n F
 Ow:jQ F f
 Om:aG .i64 w0 b n (kT 0 f)
 small:n<=1000000
def Ao(w0:WD)(p:Nat)(a:OA)(n c:Nat)(b:OA)(d:Nat)(k:Nat)(x:Fm):Prop:=
 ∀(s:Bool)(w:WD)(vo:Value)(m:Nat)(G:List (Int×Int)),NW w0 w p (SL a n c) (SL b n d) vo m G->m+2*Fm.size x<=1000000->
  CL 102 #[PT p,IV k,.bool s] w (jY w0 p (SL a n c) (SL b n d) (G++Fm.enc (Fm.eF s x)))
def fS{w0 w p vf vs vo m G}(h:NW w0 w p vf vs vo m G):G.length=m:=h.o.bA
def ni(w0 w p a n c M s F f x l r k q t L vo m G)
 (hF:NF w0 a n F f M) (R:Fm.gj l r x) (Y:(Fm.aI f)[k]? =some x) (N:Ao w0 p a n c M s (k-1-Fm.size r) l) (S:Ao w0 p a n c M s (k-1) r)
 (h:NW w0 w p (SL a n c) (SL M n s) vo m G) (hm:m+2*Fm.size x<=1000000):
 CL 134 #[PT p,IV k,.bool q,.bool t,IV L] w (jY w0 p (SL a n c) (SL M n s) (G++(Fm.enc (Fm.eF q l)++(Fm.enc (Fm.eF t r)++[(L,0)])))):=by
 obtain ⟨T,hr,-⟩:=Fm.dR R f k Y
 have X:=R.size
 have D:=Km f 0 (k-1) r hr
 have ae:=Fm.br r
 have ad:=Fm.br l
 have U:k<n:=by rw [<-hF.ak.1];exact (qQ hF.Ow Y).2
 obtain ⟨-,h0|⟨g,o,rfl,hc⟩⟩:=hF.Om
 omega
 have B:=hc (k-1) ZO
 rw [Pd,D]at B
 simp only [QC]at B
 obtain ⟨b,rfl⟩:∃b,k=b+1:=⟨k-1,ZO⟩
 have e0:b+1-1=b:=ZO
 rw [e0]at B N S
 have e1:(0:Int)+(b:Int)+1-(Fm.size r:Int)=(b:Int)+1-(Fm.size r:Int):=ZO
 have u:CA w0 g (o+b) (IV ((b:Int)+1-(Fm.size r:Int))):=by rw [<-e1];exact B
 have c2:=(h.o.aJ.cell (O9 w0 _ u)).trans u
 have ag:(0:Int)<=b:=ZO
 have ah:(b:Int)<n:=ZO
 have d1:=h.c1
 obtain ⟨j,hj⟩:∃j:Nat,(b:Int)+1-(Fm.size r:Int)-1=(j:Int):=⟨b-Fm.size r,ZO⟩
 have C:b-Fm.size r=j:=ZO
 obtain ⟨z,hz⟩:∃z:Nat,(b:Int)+1-(Fm.size r:Int)=(z:Int):=⟨b+1-Fm.size r,ZO⟩
 rw [hz]at c2 hj
 have Z:z=j+1:=ZO
 subst Z
 rw [C]at N
 have HL:Hid (CL 102 #[PT p,IV j,.bool q] w (jY w0 p (SL a n c) (SL (some (AD g o)) n s) (G++Fm.enc (Fm.eF q l)))):=N q w vo m G h ZO
 have af:=hF.small
 have ac:b<=1000000:=ZO
 have ab:j<=1000000:=ZO
 have V:=Fm.nI l q
 have W:=Fm.nI r t
 have A:Hid (G.length=m):=fS h
 have HR:Hid (∀v d J,NW w0 v p (SL a n c) (SL (some (AD g o)) n s) d J (G++Fm.enc (Fm.eF q l))->CL 102 #[PT p,IV b,.bool t] v (jY w0 p (SL a n c) (SL (some (AD g o)) n s) ((G++Fm.enc (Fm.eF q l))++Fm.enc (Fm.eF t r)))):=λv d J hw=>by have:=fS hw;rw [Pk,Fm.dt,A.o]at this;exact S t v d J _ hw ZO
 have HF:Hid (∀y i K,NW w0 y p (SL a n c) (SL (some (AD g o)) n s) i K ((G++Fm.enc (Fm.eF q l))++Fm.enc (Fm.eF t r))->CL 132 #[PT p,IV L] y (jY w0 p (SL a n c) (SL (some (AD g o)) n s) (((G++Fm.enc (Fm.eF q l))++Fm.enc (Fm.eF t r))++[(L,0)]))):=λy i K hw=>by have:=fS hw;rw [Pk,Pk,Fm.dt,Fm.dt,A.o]at this;exact j8 w0 y p _ _ i K _ L hw ZO
 clear N S hF Y R D hr B u hc e0 e1 T hj hz C h V W hm X U
 go_enter func134,ntmps134
 go_wp2_with (first
  |(go_at_call 102;apply HL.o.mono;rintro e v ⟨rfl,d,J,E⟩;have O:=O8 E;clear E c2 d1 HL)
  |(go_at_call 102;refine (HR.o v d J O.o).mono ?_;rintro e y ⟨rfl,i,K,H⟩;have P:=O8 H;clear H HR)
  |(go_at_call 132;refine (HF.o y i K P.o).mono ?_;rintro e w4 ⟨rfl,aa,m4,I⟩;have Q:=O8 I;clear I))
 go_end0
 exact ⟨rfl,aa,m4,by have:=Q.o;rw [Qe,Qe]at this;exact this⟩
def BV(w0 w p a n c i j)(x y:Fm)(k s B vo m G)
 (N:1<=k) (O:k<=1000000) (F:Ao w0 p a n c i j (k-1) y)
 (h:NW w0 w p (SL a n c) (SL i n j) vo m G) (P:m+2*Fm.size y+2<=1000000):
 CL 135 #[PT p,IV k,.bool s,.bool B] w (jY w0 p (SL a n c) (SL i n j) (G++([(if B then 1 else 2,0)]++(Fm.enc (Fm.eF s y)++[(if B then 9 else 10,0)])))):=by
 obtain ⟨v,rfl⟩:∃v,k=v+1:=⟨k-1,ZO⟩
 have L:v+1-1=v:=ZO
 rw [L]at F
 have H:=Fm.nI y s
 have q:Hid (G.length=m):=fS h
 have J:Hid (∀b:Int,CL 132 #[PT p,IV b] w (jY w0 p (SL a n c) (SL i n j) (G++[(b,0)]))):=λb=>j8 w0 w p _ _ vo m G b h ZO
 have K:Hid (∀(b:Int) l d z,NW w0 l p (SL a n c) (SL i n j) d z (G++[(b,0)])->CL 102 #[PT p,IV v,.bool s] l (jY w0 p (SL a n c) (SL i n j) ((G++[(b,0)])++Fm.enc (Fm.eF s y)))):=λb l d z hw=>by have:=fS hw;rw [Pk,q.o]at this;simp only [Qi]at this;exact F s l d z _ hw ZO
 have M:Hid (∀(b g:Int) o f A,NW w0 o p (SL a n c) (SL i n j) f A ((G++[(b,0)])++Fm.enc (Fm.eF s y))->CL 132 #[PT p,IV g] o (jY w0 p (SL a n c) (SL i n j) (((G++[(b,0)])++Fm.enc (Fm.eF s y))++[(g,0)]))):=λb g o f A hw=>by have:=fS hw;rw [Pk,Pk,Fm.dt,q.o]at this;simp only [Qi]at this;exact j8 w0 o p _ _ f A _ g hw ZO
 clear F h H P L
 cases B
 all_goals
  go_enter func135,ntmps135
  go_wp2_with (first
   |(go_at_call 132;refine (J.o _).mono ?_;rintro e l ⟨rfl,d,z,r⟩;have C:=O8 r;clear r J)
   |(go_at_call 102;refine (K.o _ l d z C.o).mono ?_;rintro e o ⟨rfl,f,A,t⟩;have D:=O8 t;clear t K)
   |(go_at_call 132;refine (M.o _ _ o f A D.o).mono ?_;rintro e R ⟨rfl,I,Q,u⟩;have E:=O8 u;clear u))
  go_end0
  exact ⟨rfl,I,Q,by have:=E.o;simpa using this⟩
end
def Tj:=@Go.Proofs.Tryz.ntmps102
def TP:=@Go.Proofs.Tryz.func102
def eJ{h w a n F f x t k}(hF:NF h a n F f t)(i:(Fm.aI f)[k]? =some x)(q:BW h w):
 ∃b c l,a=some (AD b c)/\CA w b (c+k*2) (IV (Fm.aH x).1)/\CA w b (c+k*2+1) (IV l)/\k<n/\∀j,x=Fm.prop j->l=(j:Int):=by
 have⟨g,v⟩:=qQ hF.Ow i
 have d:=xg hF.Ow i
 have y:=hF.ak.1
 obtain ⟨-,u|⟨b,c,e,r⟩⟩:=hF.ak.ag q
 omega
 have⟨m,o⟩:=r k ZO
 refine ⟨b,c,_,e,ZR d.symm m,o,ZO,λj s=>?_⟩
 subst s
 have p:(F.getD k (0,0)).1=3:=d
 unfold ig at g
 rw [PW p]at g
 rw [g];rfl
def JV(Y p a n c sa sc F f)(hF:NF Y a n F f sa):
 ∀x k,(Fm.aI f)[k]? =some x->Ao Y p a n c sa sc k x:=by
 intro x
 induction x with
 |tt=>
  intro k u s w U m G h Q
  obtain ⟨b,i,D,rfl,L,cn,P,J⟩:=eJ hF u h.o.aJ
  change CA w b (i+k*2) (IV 1)at L
  have R:=hF.small
  have C:(k:Int)<n:=ZO
  have d:BW w (w.alloc (CE #[IV 1,IV D] 32)):=(Pn _ _).alloc (Pf _) _
  have t:=O8 (h.ag d)
  have e0:=h.c0
  rw [show Fm.size Fm.tt=1 from rfl]at Q
  cases s
  all_goals
   have HL:Hid (∀W:Int,CL 132 #[PT p,IV W] (w.alloc (CE #[IV 1,IV D] 32)) (jY Y p (SL (some (AD b i)) n c) (SL sa n sc) (G++[(W,0)]))):=λW=>j8 Y _ p _ _ U m G W t.o ZO
   clear h hF d u
   go_enter TP,Tj
   go_wp2_with (first|(go_at_call 133;refine (kg _ _ _ _).mono ?_;rintro e w' ⟨rfl,rfl⟩)|(go_at_call 132;refine (HL.o _).mono ?_;rintro e w2 ⟨rfl,A,T,g⟩;have z:=O8 g;clear g HL))
   go_end0
   exact ⟨rfl,A,T,z.o⟩
 |ff=>
  intro k u s w U m G h Q
  obtain ⟨b,i,D,rfl,L,cn,P,J⟩:=eJ hF u h.o.aJ
  change CA w b (i+k*2) (IV 2)at L
  have R:=hF.small
  have C:(k:Int)<n:=ZO
  have d:BW w (w.alloc (CE #[IV 2,IV D] 32)):=(Pn _ _).alloc (Pf _) _
  have t:=O8 (h.ag d)
  have e0:=h.c0
  rw [show Fm.size Fm.ff=1 from rfl]at Q
  cases s
  all_goals
   have HL:Hid (∀W:Int,CL 132 #[PT p,IV W] (w.alloc (CE #[IV 2,IV D] 32)) (jY Y p (SL (some (AD b i)) n c) (SL sa n sc) (G++[(W,0)]))):=λW=>j8 Y _ p _ _ U m G W t.o ZO
   clear h hF d u
   go_enter TP,Tj
   go_wp2_with (first|(go_at_call 133;refine (kg _ _ _ _).mono ?_;rintro e w' ⟨rfl,rfl⟩)|(go_at_call 132;refine (HL.o _).mono ?_;rintro e w2 ⟨rfl,A,T,g⟩;have z:=O8 g;clear g HL))
   go_end0
   exact ⟨rfl,A,T,z.o⟩
 |prop j=>
  intro k u s w U m G h Q
  obtain ⟨b,i,D,rfl,L,cn,P,J⟩:=eJ hF u h.o.aJ
  change CA w b (i+k*2) (IV 3)at L
  have R:=hF.small
  have C:(k:Int)<n:=ZO
  have d:BW w (w.alloc (CE #[IV 3,IV D] 32)):=(Pn _ _).alloc (Pf _) _
  have t:=O8 (h.ag d)
  have e0:=h.c0
  obtain rfl:=J j rfl
  have⟨oa,oc,ev⟩:=bF h.o.cO
  subst ev
  rw [show Fm.size (Fm.prop j)=1 from rfl]at Q
  have hQ:(w.alloc (CE #[IV 3,IV j] 32)).cell? (AD w.heap.size 1)=some (IV j):=Py (w:=w) _ 32 w.heap.size 1 rfl
  have ah:Hid ((SL oa m oc).ownBlock≠some w.heap.size):=λe=>by have:=(Vg h.o.cO _ e).2;omega
  have ac:Hid (∀w3 X m3,NW Y w3 p (SL (some (AD b i)) n c) (SL sa n sc) X m3 (G++[(3,(j:Int))])->CL 132 #[PT p,IV 4] w3 (jY Y p (SL (some (AD b i)) n c) (SL sa n sc) ((G++[(3,(j:Int))])++[(4,0)]))):=λw3 X m3 hw=>by have h1:=fS hw;have h2:=fS h;rw [Pk]at h1;simp only [Qi]at h1;exact j8 Y w3 p _ _ X m3 _ 4 hw ZO
  clear h hF d u J
  cases s
  go_enter TP,Tj
  go_upto_region 16 with(fail)
  clear L cn e0
  generalize w.alloc (CE #[IV 3,IV j] 32)=Z at *
  generalize w.heap.size=q at *
  have q1:=t.o.c2
  have q2:=hQ
  clear hQ
  refine aw 10 (S:=λw'=>CA w' p 2 (SL oa m oc)/\CA w' q 1 (IV j)) ZK (⟨q1,q2⟩) (λN=>?_)
  refine aB 0 ?_
  refine aB 1 ?_
  refine aB 2 ?_
  refine aB 3 ?_
  refine aB 4 ?_
  refine aB 5 ?_
  refine aB 6 ?_
  refine aB 7 ?_
  have V:Hid (BW Z ((Z.alloc (CE #[IV 3,IV j] 32)).drew)):=((Pn _ _).alloc (Pf _) _).drew
  have aa:=(V.o.cell (O9 _ _ q1)).trans q1
  have ab:=(V.o.cell (O9 _ _ q2)).trans q2
  have ad:Hid (bD ((Z.alloc (CE #[IV 3,IV j] 32)).drew) (some (AD Z.heap.size 0)) 1 [(3,(j:Int))]):=bP.zE Z 3 (j:Int)
  have M:=O8 (t.o.ag V.o)
  refine aK 8 λK E=>?_
  go_simp
  refine E.o _ _ (λ_=>⟨aa,ab⟩) ?_
  clear E K
  try walk_nrm
  clear N q1 q2 V
  generalize ((Z.alloc (CE #[IV 3,IV j] 32)).drew)=w5 at *
  generalize Z.heap.size=h5 at *
  refine aK 9 λK E=>?_
  rw [PW (by rfl)]
  apply aY.o
  refine xG (.tmp 49) (.tmp 53) rfl (SL oa m oc) m G rfl M.o.o (AD h5 0) 1 1 [(3,(j:Int))] rfl ad.o ZO (λa6 c6 w6 ae O af=>?_)
  have q1:=O.aq aa M.o.ne
  have q2:=O.aq ab (λe=>ah.o e)
  have ag:=O8 (M.o.dT ae O af)
  have f6:=M.o.Ov O
  clear ae O af aa ab M ad
  have N:=And.intro q1 q2
  refine E.o _ _ (λ_=>⟨q1,q2⟩) ?_
  clear E K
  try walk_nrm
  refine aK 10 λK E=>?_
  go_simp
  refine E.q ?_
  clear E K
  refine aK 11 λK E=>?_
  go_simp
  refine E.q ?_
  clear E K
  refine aK 12 λK E=>?_
  go_simp
  refine E.q ?_
  clear E K
  refine az ZK ?_
  generalize w6.setCell (AD p 2) (SL a6 (m+1) c6)=w7 at *
  go_wp2_with fail
  go_end0
  exact ⟨rfl,_,_,ag.o⟩
  go_enter TP,Tj
  go_upto_region 16 with(fail)
  clear L cn e0
  generalize w.alloc (CE #[IV 3,IV j] 32)=Z at *
  generalize w.heap.size=q at *
  have q1:=t.o.c2
  have q2:=hQ
  clear hQ
  refine aw 10 (S:=λw'=>CA w' p 2 (SL oa m oc)/\CA w' q 1 (IV j)) ZK (⟨q1,q2⟩) (λN=>?_)
  refine aB 0 ?_
  refine aB 1 ?_
  refine aB 2 ?_
  refine aB 3 ?_
  refine aB 4 ?_
  refine aB 5 ?_
  refine aB 6 ?_
  refine aB 7 ?_
  have V:Hid (BW Z ((Z.alloc (CE #[IV 3,IV j] 32)).drew)):=((Pn _ _).alloc (Pf _) _).drew
  have aa:=(V.o.cell (O9 _ _ q1)).trans q1
  have ab:=(V.o.cell (O9 _ _ q2)).trans q2
  have ad:Hid (bD ((Z.alloc (CE #[IV 3,IV j] 32)).drew) (some (AD Z.heap.size 0)) 1 [(3,(j:Int))]):=bP.zE Z 3 (j:Int)
  have M:=O8 (t.o.ag V.o)
  refine aK 8 λK E=>?_
  go_simp
  refine E.o _ _ (λ_=>⟨aa,ab⟩) ?_
  clear E K
  try walk_nrm
  clear N q1 q2 V
  generalize ((Z.alloc (CE #[IV 3,IV j] 32)).drew)=w5 at *
  generalize Z.heap.size=h5 at *
  refine aK 9 λK E=>?_
  rw [PW (by rfl)]
  apply aY.o
  refine xG (.tmp 49) (.tmp 53) rfl (SL oa m oc) m G rfl M.o.o (AD h5 0) 1 1 [(3,(j:Int))] rfl ad.o ZO (λa6 c6 w6 ae O af=>?_)
  have q1:=O.aq aa M.o.ne
  have q2:=O.aq ab (λe=>ah.o e)
  have ag:=O8 (M.o.dT ae O af)
  have f6:=M.o.Ov O
  clear ae O af aa ab M ad
  have N:=And.intro q1 q2
  refine E.o _ _ (λ_=>⟨q1,q2⟩) ?_
  clear E K
  try walk_nrm
  refine aK 10 λK E=>?_
  go_simp
  refine E.q ?_
  clear E K
  refine aK 11 λK E=>?_
  go_simp
  refine E.q ?_
  clear E K
  refine aK 12 λK E=>?_
  go_simp
  refine E.q ?_
  clear E K
  refine az ZK ?_
  generalize w6.setCell (AD p 2) (SL a6 (m+1) c6)=w7 at *
  go_wp2_with (go_at_call 132;refine (ac.o w7 _ _ ag.o).mono ?_;rintro e w8 ⟨rfl,A,T,g⟩;have z:=O8 g;clear g ac)
  go_end0
  exact ⟨rfl,A,T,by have:=z.o;rw [Qe]at this;exact this⟩
 |neg y ih=>
  intro k u s w U m G h Q
  have⟨B,hy⟩:=Fm.fY Fm.One.neg f k u
  obtain ⟨b,i,D,rfl,L,cn,P,J⟩:=eJ hF u h.o.aJ
  change CA w b (i+k*2) (IV 4)at L
  have R:=hF.small
  have C:(k:Int)<n:=ZO
  have d:BW w (w.alloc (CE #[IV 4,IV D] 32)):=(Pn _ _).alloc (Pf _) _
  have t:=O8 (h.ag d)
  have e0:=h.c0
  rw [Fm.iB]at Q
  obtain ⟨k',rfl⟩:∃k',k=k'+1:=⟨k-1,ZO⟩
  have ek:k'+1-1=k':=ZO
  rw [ek]at hy
  have o:=O8 (ih _ hy (!s) (w.alloc (CE #[IV 4,IV D] 32)) U m G t.o ZO)
  clear h hF d u ih hy B ek
  cases s
  all_goals
   go_enter TP,Tj
   go_wp2_with (go_at_call 102;apply o.o.mono;rintro e w2 ⟨rfl,A,T,g⟩;have z:=O8 g;clear g o)
   go_end0
   exact ⟨rfl,A,T,z.o⟩
 |cy y ih=>
  intro k u s w U m G h Q
  have⟨B,hy⟩:=Fm.fY Fm.One.cy f k u
  obtain ⟨b,i,D,rfl,L,cn,P,J⟩:=eJ hF u h.o.aJ
  change CA w b (i+k*2) (IV 8)at L
  have R:=hF.small
  have C:(k:Int)<n:=ZO
  have d:BW w (w.alloc (CE #[IV 8,IV D] 32)):=(Pn _ _).alloc (Pf _) _
  have t:=O8 (h.ag d)
  have e0:=h.c0
  rw [Fm.fp]at Q
  obtain ⟨k',rfl⟩:∃k',k=k'+1:=⟨k-1,ZO⟩
  have ek:k'+1-1=k':=ZO
  rw [ek]at hy
  have o:=O8 (ih _ hy s (w.alloc (CE #[IV 8,IV D] 32)) U m G t.o ZO)
  have ak:=fS h
  have al:=Fm.nI y s
  have ac:Hid (∀w3 X m3,NW Y w3 p (SL (some (AD b i)) n c) (SL sa n sc) X m3 (G++Fm.enc (Fm.eF s y))->CL 132 #[PT p,IV 8] w3 (jY Y p (SL (some (AD b i)) n c) (SL sa n sc) ((G++Fm.enc (Fm.eF s y))++[(8,0)]))):=λw3 X m3 hw=>by have h1:=fS hw;rw [Pk,Fm.dt]at h1;exact j8 Y w3 p _ _ X m3 _ 8 hw ZO
  have v:Hid (Fm.enc (Fm.eF s (Fm.cy y))=Fm.enc (Fm.eF s y)++[(8,0)]):=Fm.nY Fm.One.cy
  rw [v.o]
  clear h hF d u ih hy B ek ak al v
  go_enter TP,Tj
  go_wp2_with (first|(go_at_call 102;apply o.o.mono;rintro e w2 ⟨rfl,A,T,g⟩;have z:=O8 g;clear g o)|(go_at_call 132;refine (ac.o w2 _ _ z.o).mono ?_;rintro e w8 ⟨rfl,X,m3,ai⟩;have aj:=O8 ai;clear ai ac))
  go_end0
  exact ⟨rfl,X,m3,by have:=aj.o;rw [Qe]at this;exact this⟩
 |and l r H I=>
  intro k u s w U m G h Q
  have⟨B,hr,hl⟩:=Fm.dR Fm.gj.and f k u
  obtain ⟨b,i,D,rfl,L,cn,P,J⟩:=eJ hF u h.o.aJ
  change CA w b (i+k*2) (IV 5)at L
  have R:=hF.small
  have C:(k:Int)<n:=ZO
  have d:BW w (w.alloc (CE #[IV 5,IV D] 32)):=(Pn _ _).alloc (Pf _) _
  have t:=O8 (h.ag d)
  have e0:=h.c0
  have o:=O8 λ(W:Int)=>ni Y (w.alloc (CE #[IV 5,IV D] 32)) p _ n c sa sc F f _ l r k s s W U m G hF Fm.gj.and u (H _ hl) (I _ hr) t.o Q
  have v:Hid (Fm.enc (Fm.eF s (Fm.and l r))=Fm.enc (Fm.eF s l)++(Fm.enc (Fm.eF s r)++[((if s then 6 else 5:Int),0)])):=by show _=_;cases s<;>exact Fm.gH (by constructor)
  rw [v.o]
  clear h hF d u H I hr hl B v
  cases s
  all_goals
   go_enter TP,Tj
   go_wp2_with (first|(go_at_call 133;refine (kg _ _ _ _).mono ?_;rintro e w' ⟨rfl,rfl⟩)|(go_at_call 134;refine (o.o _).mono ?_;rintro e w2 ⟨rfl,A,T,g⟩;have z:=O8 g;clear g o))
   go_end0
   exact ⟨rfl,A,T,z.o⟩
 |or l r H I=>
  intro k u s w U m G h Q
  have⟨B,hr,hl⟩:=Fm.dR Fm.gj.or f k u
  obtain ⟨b,i,D,rfl,L,cn,P,J⟩:=eJ hF u h.o.aJ
  change CA w b (i+k*2) (IV 6)at L
  have R:=hF.small
  have C:(k:Int)<n:=ZO
  have d:BW w (w.alloc (CE #[IV 6,IV D] 32)):=(Pn _ _).alloc (Pf _) _
  have t:=O8 (h.ag d)
  have e0:=h.c0
  have o:=O8 λ(W:Int)=>ni Y (w.alloc (CE #[IV 6,IV D] 32)) p _ n c sa sc F f _ l r k s s W U m G hF Fm.gj.or u (H _ hl) (I _ hr) t.o Q
  have v:Hid (Fm.enc (Fm.eF s (Fm.or l r))=Fm.enc (Fm.eF s l)++(Fm.enc (Fm.eF s r)++[((if s then 5 else 6:Int),0)])):=by show _=_;cases s<;>exact Fm.gH (by constructor)
  rw [v.o]
  clear h hF d u H I hr hl B v
  cases s
  all_goals
   go_enter TP,Tj
   go_wp2_with (first|(go_at_call 133;refine (kg _ _ _ _).mono ?_;rintro e w' ⟨rfl,rfl⟩)|(go_at_call 134;refine (o.o _).mono ?_;rintro e w2 ⟨rfl,A,T,g⟩;have z:=O8 g;clear g o))
   go_end0
   exact ⟨rfl,A,T,z.o⟩
 |imp l r H I=>
  intro k u s w U m G h Q
  have⟨B,hr,hl⟩:=Fm.dR Fm.gj.imp f k u
  obtain ⟨b,i,D,rfl,L,cn,P,J⟩:=eJ hF u h.o.aJ
  change CA w b (i+k*2) (IV 7)at L
  have R:=hF.small
  have C:(k:Int)<n:=ZO
  have d:BW w (w.alloc (CE #[IV 7,IV D] 32)):=(Pn _ _).alloc (Pf _) _
  have t:=O8 (h.ag d)
  have e0:=h.c0
  have o:=O8 λ(W:Int)=>ni Y (w.alloc (CE #[IV 7,IV D] 32)) p _ n c sa sc F f _ l r k (!s) s W U m G hF Fm.gj.imp u (H _ hl) (I _ hr) t.o Q
  have v:Hid (Fm.enc (Fm.eF s (Fm.imp l r))=Fm.enc (Fm.eF (!s) l)++(Fm.enc (Fm.eF s r)++[((if s then 5 else 6:Int),0)])):=by show _=_;cases s<;>exact Fm.gH (by constructor)
  rw [v.o]
  clear h hF d u H I hr hl B v
  cases s
  all_goals
   go_enter TP,Tj
   go_wp2_with (first|(go_at_call 133;refine (kg _ _ _ _).mono ?_;rintro e w' ⟨rfl,rfl⟩)|(go_at_call 134;refine (o.o _).mono ?_;rintro e w2 ⟨rfl,A,T,g⟩;have z:=O8 g;clear g o))
   go_end0
   exact ⟨rfl,A,T,z.o⟩
 |dA l r H I=>
  intro k u s w U m G h Q
  have⟨B,hr,hl⟩:=Fm.dR Fm.gj.dA f k u
  obtain ⟨b,i,D,rfl,L,cn,P,J⟩:=eJ hF u h.o.aJ
  change CA w b (i+k*2) (IV 9)at L
  have R:=hF.small
  have C:(k:Int)<n:=ZO
  have d:BW w (w.alloc (CE #[IV 9,IV D] 32)):=(Pn _ _).alloc (Pf _) _
  have t:=O8 (h.ag d)
  have e0:=h.c0
  have o:=O8 λ(W:Int)=>ni Y (w.alloc (CE #[IV 9,IV D] 32)) p _ n c sa sc F f _ l r k s s W U m G hF Fm.gj.dA u (H _ hl) (I _ hr) t.o Q
  have v:Hid (Fm.enc (Fm.eF s (Fm.dA l r))=Fm.enc (Fm.eF s l)++(Fm.enc (Fm.eF s r)++[((if s then 10 else 9:Int),0)])):=by show _=_;cases s<;>exact Fm.gH (by constructor)
  rw [v.o]
  clear h hF d u H I hr hl B v
  cases s
  all_goals
   go_enter TP,Tj
   go_wp2_with (first|(go_at_call 133;refine (kg _ _ _ _).mono ?_;rintro e w' ⟨rfl,rfl⟩)|(go_at_call 134;refine (o.o _).mono ?_;rintro e w2 ⟨rfl,A,T,g⟩;have z:=O8 g;clear g o))
   go_end0
   exact ⟨rfl,A,T,z.o⟩
 |rel l r H I=>
  intro k u s w U m G h Q
  have⟨B,hr,hl⟩:=Fm.dR Fm.gj.rel f k u
  obtain ⟨b,i,D,rfl,L,cn,P,J⟩:=eJ hF u h.o.aJ
  change CA w b (i+k*2) (IV 10)at L
  have R:=hF.small
  have C:(k:Int)<n:=ZO
  have d:BW w (w.alloc (CE #[IV 10,IV D] 32)):=(Pn _ _).alloc (Pf _) _
  have t:=O8 (h.ag d)
  have e0:=h.c0
  have o:=O8 λ(W:Int)=>ni Y (w.alloc (CE #[IV 10,IV D] 32)) p _ n c sa sc F f _ l r k s s W U m G hF Fm.gj.rel u (H _ hl) (I _ hr) t.o Q
  have v:Hid (Fm.enc (Fm.eF s (Fm.rel l r))=Fm.enc (Fm.eF s l)++(Fm.enc (Fm.eF s r)++[((if s then 9 else 10:Int),0)])):=by show _=_;cases s<;>exact Fm.gH (by constructor)
  rw [v.o]
  clear h hF d u H I hr hl B v
  cases s
  all_goals
   go_enter TP,Tj
   go_wp2_with (first|(go_at_call 133;refine (kg _ _ _ _).mono ?_;rintro e w' ⟨rfl,rfl⟩)|(go_at_call 134;refine (o.o _).mono ?_;rintro e w2 ⟨rfl,A,T,g⟩;have z:=O8 g;clear g o))
   go_end0
   exact ⟨rfl,A,T,z.o⟩
 |fin y ih=>
  intro k u s w U m G h Q
  have⟨B,hy⟩:=Fm.fY Fm.One.fin f k u
  obtain ⟨b,i,D,rfl,L,cn,P,J⟩:=eJ hF u h.o.aJ
  change CA w b (i+k*2) (IV 11)at L
  have R:=hF.small
  have C:(k:Int)<n:=ZO
  have d:BW w (w.alloc (CE #[IV 11,IV D] 32)):=(Pn _ _).alloc (Pf _) _
  have t:=O8 (h.ag d)
  have e0:=h.c0
  rw [Fm.nL]at Q
  have o:=O8 (BV Y (w.alloc (CE #[IV 11,IV D] 32)) p _ n c sa sc y y k s (!s) U m G B ZO (ih _ hy) t.o ZO)
  have v:Hid (Fm.enc (Fm.eF s (Fm.fin y))=[((if(!s)then 1 else 2:Int),0)]++(Fm.enc (Fm.eF s y)++[((if(!s)then 9 else 10:Int),0)])):=by
   show _=_;cases s
   exact Fm.gH (a:=.tt) Fm.gj.dA;exact Fm.gH (a:=.ff) Fm.gj.rel
  rw [v.o]
  clear h hF d u ih hy B v
  cases s
  all_goals
   go_enter TP,Tj
   go_wp2_with (go_at_call 135;apply o.o.mono;rintro e w2 ⟨rfl,A,T,g⟩;have z:=O8 g;clear g o)
   go_end0
   exact ⟨rfl,A,T,z.o⟩
 |ec y ih=>
  intro k u s w U m G h Q
  have⟨B,hy⟩:=Fm.fY Fm.One.ec f k u
  obtain ⟨b,i,D,rfl,L,cn,P,J⟩:=eJ hF u h.o.aJ
  change CA w b (i+k*2) (IV 12)at L
  have R:=hF.small
  have C:(k:Int)<n:=ZO
  have d:BW w (w.alloc (CE #[IV 12,IV D] 32)):=(Pn _ _).alloc (Pf _) _
  have t:=O8 (h.ag d)
  have e0:=h.c0
  rw [Fm.lS]at Q
  have o:=O8 (BV Y (w.alloc (CE #[IV 12,IV D] 32)) p _ n c sa sc y y k s s U m G B ZO (ih _ hy) t.o ZO)
  have v:Hid (Fm.enc (Fm.eF s (Fm.ec y))=[((if s then 1 else 2:Int),0)]++(Fm.enc (Fm.eF s y)++[((if s then 9 else 10:Int),0)])):=by
   show _=_;cases s
   exact Fm.gH (a:=.ff) Fm.gj.rel;exact Fm.gH (a:=.tt) Fm.gj.dA
  rw [v.o]
  clear h hF d u ih hy B v
  cases s
  all_goals
   go_enter TP,Tj
   go_wp2_with (go_at_call 135;apply o.o.mono;rintro e w2 ⟨rfl,A,T,g⟩;have z:=O8 g;clear g o)
   go_end0
   exact ⟨rfl,A,T,z.o⟩
def Sn:=@List.map_congr_left
def TA:=@List.map_map
def fJ{f}(h:eh f):jQ (Fm.enc f) f:=by refine ⟨?_,h⟩;unfold Fm.enc;rw [TA];refine Sn λx _=>?_;show ig (Fm.aH x)=Fm.aH x;cases x<;>simp [ig,Fm.aH]
def dD{a b f}(h:Fm.gj a b f)(d:eh a)(g:eh b):eh f:=λx c n e=>by rw [h.aI]at c;obtain c|c:=PC.1 c;exact d x c n e;obtain c|c:=PC.1 c;exact g x c n e;rw [Pc]at c;subst c;subst e;cases h
def mA{a f}(h:Fm.One a f)(c:eh a):eh f:=λx b n e=>by rw [h.aI]at b;obtain b|b:=PC.1 b;exact c x b n e;rw [Pc]at b;subst b;subst e;cases h
def gA{a f}(h:Fm.One a f)(b:eh f):eh a:=λx c n e=>b x (by rw [h.aI];exact P0 _ c) n e
def fK{a b f}(h:Fm.gj a b f)(d:eh f):eh a/\eh b:=⟨λx c n e=>d x (by rw [h.aI];exact P0 _ c) n e,λx c n e=>d x (by rw [h.aI];exact Qt _ (P0 _ c)) n e⟩
def xD:eh .tt:=λx a n e=>by simp [Fm.aI]at a;subst a;cases e
def xA:eh .ff:=λx a n e=>by simp [Fm.aI]at a;subst a;cases e
def Lz{f}:eh f->∀s,eh (Fm.eF s f):=by
 induction f with
 |tt|ff=>intro _ s;cases s<;>first|exact xD|exact xA
 |prop n=>intro h s;cases s;exact h;exact mA .neg h
 |neg a i=>intro h s;exact i (gA .neg h) _
 |cy a i=>intro h s;exact mA .cy (i (gA .cy h) s)
 |fin a i=>
  intro h s;have j:=i (gA .fin h) s;cases s
  exact dD .dA xD j;exact dD .rel xA j
 |ec a i=>
  intro h s;have j:=i (gA .ec h) s;cases s
  exact dD .rel xA j;exact dD .dA xD j
 |and a b c d=>
  intro h s;have⟨e,g⟩:=fK .and h;cases s
  exact dD .and (c e _) (d g _);exact dD .or (c e _) (d g _)
 |or a b c d=>
  intro h s;have⟨e,g⟩:=fK .or h;cases s
  exact dD .or (c e _) (d g _);exact dD .and (c e _) (d g _)
 |imp a b c d=>
  intro h s;have⟨e,g⟩:=fK .imp h;cases s
  exact dD .or (c e _) (d g _);exact dD .and (c e _) (d g _)
 |dA a b c d=>
  intro h s;have⟨e,g⟩:=fK .dA h;cases s
  exact dD .dA (c e _) (d g _);exact dD .rel (c e _) (d g _)
 |rel a b c d=>
  intro h s;have⟨e,g⟩:=fK .rel h;cases s
  exact dD .rel (c e _) (d g _);exact dD .dA (c e _) (d g _)
def I6(a n c F f s w)(hF:bD w a n F)(I:n<=100000)(q:jQ F f):
 CL 71 #[SL a n c,.bool s] w λe E=>∃v m x,e=RT (SL v m x)/\bP w E (SL v m x) m (Fm.enc (Fm.eF s f)):=by
 have z:=O8 (lq a n c F f w hF ZO q)
 have p:Fm.size f=n:=(kN q).symm.trans hF.1
 have l:=Fm.br f
 have J:((n:Int)==0)=false:=Pq.2 ZO
 have K:(n==0)=false:=Pq.2 ZO
 have i:Hid (∀b d g,aF .i64 3 w b (SL d n g) (kT 0 f)->CL 102 #[PT b.heap.size,IV ((n-1:Nat):Int),.bool s] (b.alloc (CE #[SL a n c,SL d n g,SN] 145)) (jY b b.heap.size (SL a n c) (SL d n g) ([]++Fm.enc (Fm.eF s f)))/\
  (b.alloc (CE #[SL a n c,SL d n g,SN] 145)).cell? (AD b.heap.size 1)=some (SL d n g)):=λb d g j=>
  ⟨JV b b.heap.size a n c d g F f ⟨hF.ag (aX j),q,cT j,ZO⟩ f (n-1) (ZR p.symm (Fm.cP f)) s _ _ 0 [] (NW.aM b _ _) ZO,Py (w:=b) _ 145 b.heap.size 1 rfl⟩
 have o:(n:Int)-1=((n-1:Nat):Int):=ZO
 clear hF q p l
 go_enter func71,ntmps71
 go_upto_region 2 with(go_at_call 72;apply z.o.mono;rintro e b ⟨d,g,rfl,j⟩;have t:=O8 j;clear j)
 have⟨k,G⟩:=i.o b d g t.o
 have u:=O8 k
 clear k i
 obtain ⟨h,r⟩:∃h,n=h+1:=⟨n-1,ZO⟩
 subst r
 have y:h+1-1=h:=ZO
 rw [y]at u
 clear y o
 generalize b.alloc (CE #[SL a (h+1) c,SL d (h+1) g,SN] 145)=M at *
 go_wp2_with (go_at_call 102;apply u.o.mono;rintro e N ⟨rfl,L,m,hw⟩;have A:=O8 hw;have H:=hw.c2;have⟨C,D,B⟩:=bF hw.o.cO;subst B;clear hw)
 go_ret
 have:=A.o.o.from (aX t.o)
 rw [QW]at this
 exact ⟨C,m,D,rfl,this⟩
def G3(a n c F f w)(hF:bD w a n F)(k:n<=100000)(g:jQ F f):
 CL 39 #[SL a n c] w λe l=>∃b m d,e=RT (SL b m d)/\bP w l (SL b m d) m (Fm.enc (Fm.eF false f)):=by
 have i:=O8 (I6 a n c F f false w hF k g)
 clear hF g
 go_enter func39,ntmps39
 go_wp2_with (go_at_call 71;apply i.o.mono;rintro e o ⟨b,m,d,rfl,h⟩;have j:=O8 h;clear h)
 go_ret
 exact ⟨b,m,d,rfl,j.o⟩
def Su:=@Nat.add_sub_cancel
def Th:=@Nat.zero_mul
def La(a n c F b m d G w)(hF:bD w a n F)(C:bD w b m G)(hn:n<=4611686018427387903)(hm:m<=4611686018427387903):
 CL 189 #[SL a n c,SL b m d] w λe Y=>e=RT (.bool (decide (F=G)))/\BW w Y:=by
 by_cases g:n=m
 ·subst g;have L:=O8 hF
  have P:=O8 C;clear hF C;go_enter func189,ntmps189;go_wp2;go_loopw [13] (λx wr=>∃k:Nat,k<=n/\x=IV k/\Hid (BW w wr)/\Hid (∀i,i<k->F.getD i (0,0)=G.getD i (0,0))) (λx _=>n-(intOf x).toNat);exact ⟨0,Pz _,rfl,O8 (Pn _ _),O8 λi X=>ZO⟩;obtain ⟨k,Z,rfl,q,S⟩:=hrel;by_cases z:k<n
  ·have T:(k:Int)<n:=ZO;obtain ⟨-,V|⟨o,r,rfl,u⟩⟩:=L.o.ag q.o
   ·omega
   obtain ⟨-,V|⟨p,s,rfl,v⟩⟩:=P.o.ag q.o
   ·omega
   have⟨D,E⟩:=u k z;have⟨H,I⟩:=v k z;clear u v;have⟨x,N⟩:=EX (F.getD k (0,0));have⟨y,O⟩:=EX (G.getD k (0,0));have Q:=O8 N;have R:=O8 O;rw [N]at D E;rw [O]at H I;clear N O;obtain ⟨f,t⟩:=x;obtain ⟨J,K⟩:=y;by_cases j:f=J/\t=K
   ·obtain ⟨rfl,rfl⟩:=j;go_upto_region 6 with(fail)
    go_region_held3 (λW=>CA W o (r+k*2) (IV f)/\CA W o (r+k*2+1) (IV t)/\CA W p (s+k*2) (IV f)/\CA W p (s+k*2+1) (IV t))
     (exact ⟨D,E,H,I⟩)
     (fail)
    go_wp2_with fail;go_roundw;case rel=>exact ⟨k+1,ZO,ZN,O8 q.o.drew,O8 λi X=>by
     by_cases h:i=k
     ·subst h;rw [Q.o,R.o]
     ·exact S.o i ZO⟩
    case measure=>simp [intOf];omega
   ·have l:Hid (decide (F=G)=false):=PH (λe=>j (by have:=Q.o;rw [e,R.o]at this;injection this with B M;exact ⟨B.symm,M.symm⟩));by_cases A:f=J
    ·subst A;have U:(t==K)=false:=Pq.2 (λe=>j ⟨rfl,e⟩)
     go_upto_region 6 with(fail);go_region_held3 (λW=>CA W o (r+k*2) (IV f)/\CA W o (r+k*2+1) (IV t)/\CA W p (s+k*2) (IV f)/\CA W p (s+k*2+1) (IV K))
      (exact ⟨D,E,H,I⟩)
      (fail)
     go_wp2_with fail;go_ret;exact ⟨by rw [l.o];rfl,q.o.drew⟩
    ·have U:(f==J)=false:=Pq.2 A;go_upto_region 6 with(fail)
     go_region_held3 (λW=>CA W o (r+k*2) (IV f)/\CA W o (r+k*2+1) (IV t)/\CA W p (s+k*2) (IV J)/\CA W p (s+k*2+1) (IV K))
      (exact ⟨D,E,H,I⟩)
      (fail)
     go_wp2_with fail;go_ret;exact ⟨by rw [l.o];rfl,q.o.drew⟩
  ·obtain rfl:k=n:=ZO;go_wp2_with fail
   go_ret;have l:decide (F=G)=true:=PX (Rl (by rw [L.o.1,P.o.1]) λi B M=>by have:=S.o i (ZR L.o.1.symm B);simpa [Pd,B,M]using this)
   exact ⟨by rw [l];rfl,q.o⟩
 ·have U:((n:Int)==(m:Int))=false:=Pq.2 ZO;have t1:(n==m)=false:=Pq.2 g
  have l:Hid (decide (F=G)=false):=PH (λe=>g (by rw [<-hF.1,<-C.1,e]));clear hF C;go_enter func189,ntmps189;go_wp2;go_ret;exact ⟨by rw [l.o];rfl,Pn _ _⟩
def Lb(a n c F b m d G w)(hF:bD w a n F)(C:bD w b m G)(hn:n<=4611686018427387903)(hm:m<=4611686018427387903):
 CL 74 #[SL a n c,SL b m d] w λe Y=>e=RT (.bool (decide (F=G)))/\BW w Y:=by
 by_cases g:n=m
 ·subst g;have L:=O8 hF
  have P:=O8 C;clear hF C;go_enter func74,ntmps74;go_wp2;go_loopw [13] (λx wr=>∃k:Nat,k<=n/\x=IV k/\Hid (BW w wr)/\Hid (∀i,i<k->F.getD i (0,0)=G.getD i (0,0))) (λx _=>n-(intOf x).toNat);exact ⟨0,Pz _,rfl,O8 (Pn _ _),O8 λi X=>ZO⟩;obtain ⟨k,Z,rfl,q,S⟩:=hrel;by_cases z:k<n
  ·have T:(k:Int)<n:=ZO;obtain ⟨-,V|⟨o,r,rfl,u⟩⟩:=L.o.ag q.o
   ·omega
   obtain ⟨-,V|⟨p,s,rfl,v⟩⟩:=P.o.ag q.o
   ·omega
   have⟨D,E⟩:=u k z;have⟨H,I⟩:=v k z;clear u v;have⟨x,N⟩:=EX (F.getD k (0,0));have⟨y,O⟩:=EX (G.getD k (0,0));have Q:=O8 N;have R:=O8 O;rw [N]at D E;rw [O]at H I;clear N O;obtain ⟨f,t⟩:=x;obtain ⟨J,K⟩:=y;by_cases j:f=J/\t=K
   ·obtain ⟨rfl,rfl⟩:=j;go_upto_region 6 with(fail)
    go_region_held3 (λW=>CA W o (r+k*2) (IV f)/\CA W o (r+k*2+1) (IV t)/\CA W p (s+k*2) (IV f)/\CA W p (s+k*2+1) (IV t))
     (exact ⟨D,E,H,I⟩)
     (fail)
    go_wp2_with fail;go_roundw;case rel=>exact ⟨k+1,ZO,ZN,O8 q.o.drew,O8 λi X=>by
     by_cases h:i=k
     ·subst h;rw [Q.o,R.o]
     ·exact S.o i ZO⟩
    case measure=>simp [intOf];omega
   ·have l:Hid (decide (F=G)=false):=PH (λe=>j (by have:=Q.o;rw [e,R.o]at this;injection this with B M;exact ⟨B.symm,M.symm⟩));by_cases A:f=J
    ·subst A;have U:(t==K)=false:=Pq.2 (λe=>j ⟨rfl,e⟩)
     go_upto_region 6 with(fail);go_region_held3 (λW=>CA W o (r+k*2) (IV f)/\CA W o (r+k*2+1) (IV t)/\CA W p (s+k*2) (IV f)/\CA W p (s+k*2+1) (IV K))
      (exact ⟨D,E,H,I⟩)
      (fail)
     go_wp2_with fail;go_ret;exact ⟨by rw [l.o];rfl,q.o.drew⟩
    ·have U:(f==J)=false:=Pq.2 A;go_upto_region 6 with(fail)
     go_region_held3 (λW=>CA W o (r+k*2) (IV f)/\CA W o (r+k*2+1) (IV t)/\CA W p (s+k*2) (IV J)/\CA W p (s+k*2+1) (IV K))
      (exact ⟨D,E,H,I⟩)
      (fail)
     go_wp2_with fail;go_ret;exact ⟨by rw [l.o];rfl,q.o.drew⟩
  ·obtain rfl:k=n:=ZO;go_wp2_with fail
   go_ret;have l:decide (F=G)=true:=PX (Rl (by rw [L.o.1,P.o.1]) λi B M=>by have:=S.o i (ZR L.o.1.symm B);simpa [Pd,B,M]using this)
   exact ⟨by rw [l];rfl,q.o⟩
 ·have U:((n:Int)==(m:Int))=false:=Pq.2 ZO;have t1:(n==m)=false:=Pq.2 g
  have l:Hid (decide (F=G)=false):=PH (λe=>g (by rw [<-hF.1,<-C.1,e]));clear hF C;go_enter func74,ntmps74;go_wp2;go_ret;exact ⟨by rw [l.o];rfl,Pn _ _⟩
def FA(w:WD)(a:OA)(n:Nat)(x:Fm):Prop:=bD w a n (Fm.enc x)
def FA.ag{w w' a n x}(h:FA w a n x)(b:BW w w'):FA w' a n x:=bD.ag h b
def FA.size{w a n x}(h:FA w a n x):Fm.size x=n:=by have:=h.1;rwa [Fm.dt]at this
def bP.fa{w b a n c x}(h:bP w b (SL a n c) n (Fm.enc x)):FA b a n x:=h.ak
def BR{f x p}(a:(Fm.aI f)[p]? =some x):(Fm.enc f).getD p (0,0)=Fm.aH x:=by unfold Fm.enc;rw [Pd,PZ,a];rfl
def FA.at{w a n f x p}(h:FA w a n f)(g:(Fm.aI f)[p]? =some x):∃b o,a=some (AD b o)/\p<n/\CA w b (o+p*2) (IV (Fm.aH x).1)/\CA w b (o+p*2+1) (IV (Fm.aH x).2):=by
 have e:p<n:=by rw [<-h.size];unfold Fm.size;exact (Po.1 g).1
 obtain j|⟨b,o,rfl,i⟩:=h.2;omega;have⟨c,d⟩:=i p e;rw [BR g]at c d;exact ⟨b,o,rfl,e,c,d⟩
def kZ(a n c x w)(h:FA w a n x)(k:n<=1000000):
 CL 162 #[SL a n c] w λe j=>e=RT (IV (Fm.aH x).1)/\j=w:=by
 obtain ⟨b,o,rfl,i,g,-⟩:=h.at (Fm.cP x)
 have f:=h.size
 obtain ⟨d,rfl⟩:∃d,n=d+1:=⟨n-1,ZO⟩
 rw [f,Su]at g
 have m:(0:Int)<=d:=ZO
 clear h i f
 generalize (Fm.aH x).1=l at *
 go_enter func162,ntmps162
 go_wp2
 go_ret
 exact ⟨rfl,rfl⟩
def wE(a n c x w)(h:FA w a n x)(l:n<=1000000):
 CL 137 #[SL a n c] w λe p=>e=RT (.bool ((Fm.jD x||Fm.jC x)))/\p=w:=by
 have d:=O8 (kZ a n c x w h l)
 have f:Hid ((Fm.jD x||Fm.jC x)=((Fm.aH x).1==1||(Fm.aH x).1==2)):=by show _=_;cases x<;>simp [Fm.aH,Fm.jD,Fm.jC]
 clear h
 rw [f.o]
 clear f
 generalize (Fm.aH x).1=b at *
 by_cases g:b=1
 subst g
 go_enter func137,ntmps137
 go_wp2_with (go_at_call 162;apply d.o.mono;rintro e j ⟨rfl,rfl⟩)
 go_ret
 exact ⟨rfl,rfl⟩
 have m:(b==1)=false:=Pq.2 g
 by_cases i:b=2
 subst i
 go_enter func137,ntmps137
 go_wp2_with (go_at_call 162;apply d.o.mono;rintro e j ⟨rfl,rfl⟩)
 go_ret
 exact ⟨rfl,rfl⟩
 have o:(b==2)=false:=Pq.2 i
 have k:Hid ((b==1||b==2)=false):=by show _=_;rw [m,o];rfl
 go_enter func137,ntmps137
 go_wp2_with (go_at_call 162;apply d.o.mono;rintro e j ⟨rfl,rfl⟩)
 go_ret
 exact ⟨by rw [k.o];rfl,rfl⟩
def jm(a n c x b m d y w)(h:FA w a n x)(g:FA w b m y)(o:n<=1000000)(l:m<=1000000):
 CL 180 #[SL a n c,SL b m d] w λe j=>e=RT (.bool (Fm.same x y))/\BW w j:=by
 have f:=O8 (La a n c _ b m d _ w h g ZO ZO)
 change Hid (CL 189 _ w λe j=>e=RT (.bool (Fm.same x y))/\_)at f
 clear h g
 go_enter func180,ntmps180
 go_wp2_with (go_at_call 189;apply f.o.mono;rintro e p ⟨rfl,i⟩;have k:=O8 i;clear i)
 go_ret
 exact ⟨rfl,k.o⟩
def AT(x:Fm):Value:=match Fm.zE x with
 |some (n,b)=>.tuple #[IV n,.bool b,.bool true]
 |none=>.tuple #[IV 0,.bool false,.bool false]
def oN{x}(h:Fm.size x=1):Fm.mQ x:=by obtain c|⟨a,c⟩|⟨a,b,c⟩:=Fm.yM x;exact c;have:=c.size;have:=Fm.br a;omega;have:=c.size;have:=Fm.br a;have:=Fm.br b;omega
def rW(a n c x w)(h:FA w a n x)(F:n<=1000000):
 CL 190 #[SL a n c] w λe D=>e=RT (AT x)/\D=w:=by
 have m:=h.size
 by_cases l:n=1
 ·subst l;obtain ⟨b,o,rfl,v,q,t⟩:=h.at (Fm.cP x)
  rw [m]at q t;simp only [RG,Th,SS]at q t;have u:=oN m;clear h m v;by_cases d:(Fm.aH x).1=3
  ·have g:Hid (AT x=.tuple #[IV (Fm.aH x).2,.bool false,.bool true]):=by
    show _=_;cases u with
    |prop k=>rfl
    |tt=>simp [Fm.aH]at d
    |ff=>simp [Fm.aH]at d
   rw [d]at q;rw [g.o];clear g u d;generalize (Fm.aH x).2=k at *;go_enter func190,ntmps190;go_wp2;go_ret3;exact ⟨rfl,rfl⟩
  ·have g:Hid (AT x=.tuple #[IV 0,.bool false,.bool false]):=by
    show _=_;cases u with
    |prop k=>simp [Fm.aH]at d
    |tt=>rfl
    |ff=>rfl
   have H:((Fm.aH x).1==3)=false:=Pq.2 d;rw [g.o];clear g u d;generalize (Fm.aH x).1=k at *;go_enter func190,ntmps190;go_wp2;go_ret3;exact ⟨rfl,rfl⟩
 ·have I:((n:Int)==1)=false:=Pq.2 ZO;have J:(n==1)=false:=Pq.2 l
  by_cases A:n=2
  ·subst A;obtain ⟨y,p⟩:∃y,Fm.One y x:=by
    obtain l|⟨a,l⟩|⟨a,b,l⟩:=Fm.yM x
    ·have:=l.size;omega
    ·exact ⟨a,l⟩
    ·have:=l.size;have:=Fm.br a;have:=Fm.br b;omega
   have s:Fm.size y=1:=ZH p.size;have i:=oN s;have j:=Fm.cP x;rw [m]at j;have r:=(Fm.fY p x _ j).2;obtain ⟨b,o,rfl,v,q,t⟩:=h.at r;obtain ⟨E,G,e,-,z,-⟩:=h.at j;cases e
   simp only [Nat.reduceSub,Th,Nat.one_mul,SS]at q t z;clear h m v j r s;by_cases d:(Fm.aH y).1=3
   ·by_cases f:(Fm.aH x).1=4
    ·have g:Hid (AT x=.tuple #[IV (Fm.aH y).2,.bool true,.bool true]):=by
      show _=_;cases p with
      |neg=>
       cases i with
       |prop k=>rfl
       |tt=>simp [Fm.aH]at d
       |ff=>simp [Fm.aH]at d
      |cy=>simp [Fm.aH]at f
      |fin=>simp [Fm.aH]at f
      |ec=>simp [Fm.aH]at f
     rw [d]at q;rw [f]at z;rw [g.o];clear g i d p f;generalize (Fm.aH y).2=k at *;go_enter func190,ntmps190;go_wp2;go_ret3;exact ⟨rfl,rfl⟩
    ·have g:Hid (AT x=.tuple #[IV 0,.bool false,.bool false]):=by
      show _=_;cases p with
      |neg=>simp [Fm.aH]at f
      |cy=>rfl
      |fin=>rfl
      |ec=>rfl
     have B:((Fm.aH x).1==4)=false:=Pq.2 f;rw [d]at q;rw [g.o];clear g i d p f;generalize (Fm.aH x).1=k at *;generalize (Fm.aH y).2=C at *;go_enter func190,ntmps190;go_wp2;go_ret3;exact ⟨rfl,rfl⟩
   ·have g:Hid (AT x=.tuple #[IV 0,.bool false,.bool false]):=by
     show _=_;cases p with
     |neg=>
      cases i with
      |prop k=>simp [Fm.aH]at d
      |tt=>rfl
      |ff=>rfl
     |cy=>rfl
     |fin=>rfl
     |ec=>rfl
    have B:((Fm.aH y).1==3)=false:=Pq.2 d;rw [g.o];clear g i d p;generalize (Fm.aH x).1=k at *;generalize (Fm.aH y).1=C at *;go_enter func190,ntmps190;go_wp2;go_ret3;exact ⟨rfl,rfl⟩
  ·have B:((n:Int)==2)=false:=Pq.2 ZO;have K:(n==2)=false:=Pq.2 A
   have g:Hid (AT x=.tuple #[IV 0,.bool false,.bool false]):=by
    show _=_;unfold AT;have:Fm.zE x=none:=by
     unfold Fm.zE;split
     ·simp [Fm.lT]at m;omega
     ·rw [Fm.iB,Fm.lT]at m;omega
     ·rfl
    rw [this]
   rw [g.o];clear g h m;go_enter func190,ntmps190;go_wp2;go_ret3;exact ⟨rfl,rfl⟩
def zK(a n c x b m d y w)(h:FA w a n x)(s:FA w b m y)(v:n<=1000000)(u:m<=1000000):
 CL 181 #[SL a n c,SL b m d] w λe A=>e=RT (.bool (Fm.kf x y))/\A=w:=by
 have f:=O8 (rW a n c x w h v)
 have g:=O8 (rW b m d y w s u)
 clear h s
 unfold AT at f g
 unfold Fm.kf
 rcases o:Fm.zE x with _|⟨k,p⟩
 ·rcases i:Fm.zE y with _|⟨j,q⟩;all_goals
   simp only [o,i]at f g⊢
   clear o i
   go_enter func181,ntmps181
   go_wp2_with (first|(go_at_call 190;apply f.o.mono;rintro e l ⟨rfl,rfl⟩;clear f)|(go_at_call 190;apply g.o.mono;rintro e l ⟨rfl,rfl⟩;clear g))
   go_ret
   exact ⟨rfl,rfl⟩
 ·rcases i:Fm.zE y with _|⟨j,q⟩
  ·simp only [o,i]at f g⊢;clear o i
   go_enter func181,ntmps181;go_wp2_with (first|(go_at_call 190;apply f.o.mono;rintro e l ⟨rfl,rfl⟩;clear f)|(go_at_call 190;apply g.o.mono;rintro e l ⟨rfl,rfl⟩;clear g));go_ret;exact ⟨rfl,rfl⟩
  ·simp only [o,i]at f g⊢;clear o i
   by_cases r:k=j
   ·subst r;cases p<;>cases q
    all_goals
     go_enter func181,ntmps181
     go_wp2_with (first|(go_at_call 190;apply f.o.mono;rintro e l ⟨rfl,rfl⟩;clear f)|(go_at_call 190;apply g.o.mono;rintro e l ⟨rfl,rfl⟩;clear g))
     go_ret
     exact ⟨ZS,rfl⟩
   ·have B:((k:Int)==(j:Int))=false:=Pq.2 ZO;have z:(k==j)=false:=Pq.2 r
    have t:Hid ((k==j&&p !=q)=false):=by show _=_;rw [z];rfl
    go_enter func181,ntmps181;go_wp2_with (first|(go_at_call 190;apply f.o.mono;rintro e l ⟨rfl,rfl⟩;clear f)|(go_at_call 190;apply g.o.mono;rintro e l ⟨rfl,rfl⟩;clear g));go_ret;exact ⟨by rw [t.o];rfl,rfl⟩
def FA.aQ{w b o n x l r}(h:FA w (some (AD b o)) n x)(c:Fm.gj l r x):FA w (some (AD b o)) (Fm.size l) l/\FA w (some (AD b (o+Fm.size l*2))) (Fm.size r) r:=by
 have p:=h.size;have j:=c.size;obtain m|⟨k,q,e,d⟩:=h.2;omega;cases e
 have f:Fm.enc x=Fm.enc l++(Fm.enc r++[Fm.aH x]):=Fm.gH c;refine ⟨⟨Fm.dt l,.inr ⟨b,o,rfl,λi a=>?_⟩⟩,⟨Fm.dt r,.inr ⟨b,o+Fm.size l*2,rfl,λi a=>?_⟩⟩⟩;have:=d i ZO;rw [f]at this;have e:(Fm.enc l++(Fm.enc r++[Fm.aH x])).getD i (0,0)=(Fm.enc l).getD i (0,0):=by rw [Pd,Pd,Pp (by rw [Fm.dt];exact a)]
 rw [e]at this;exact this;have:=d (Fm.size l+i) ZO;rw [f]at this;have e:(Fm.enc l++(Fm.enc r++[Fm.aH x])).getD (Fm.size l+i) (0,0)=(Fm.enc r).getD i (0,0):=by rw [Pd,Pd,PD (by rw [Fm.dt];omega),Fm.dt,Nat.add_sub_cancel_left,Pp (by rw [Fm.dt];exact a)]
 rw [e]at this;have g:o+(Fm.size l+i)*2=o+Fm.size l*2+i*2:=ZO;rw [g]at this;exact this
def FA.Ow{x}(h:eh x):jQ (Fm.enc x) x:=fJ h
def lP(b o n c x l r w)(h:FA w (some (AD b o)) n x)(f:Fm.gj l r x)(d:eh x)(G:n<=1000000)(T:n<=c)(g:c<=maxLen):
 CL 183 #[SL (some (AD b o)) n c] w λe I=>e=RT (.tuple #[SL (some (AD b o)) (Fm.size l) c,SL (some (AD b (o+Fm.size l*2))) (Fm.size r) (c-Fm.size l)])/\BW w I:=by
 have C:=h.size
 have k:=f.size
 have i:=Fm.br l
 have j:=Fm.br r
 have m:=Fm.cP x
 rw [C]at m
 have a:=O8 (gx (some (AD b o)) n c _ x x (n-1) w h G (fJ d) m)
 have t:qS x (n-1)=(Fm.size l:Int)-1:=by
  have:qS x (n-1)=((n-1:Nat):Int)-1-Fm.size r:=by cases f<;>rfl
  rw [this];omega
 have u:uB x (n-1)=(Fm.size l:Int)+(Fm.size r:Int)-1:=by
  have:uB x (n-1)=((n-1:Nat):Int)-1:=by cases f<;>rfl
  rw [this];omega
 rw [t,u]at a
 obtain ⟨s,rfl⟩:∃s,n=s+1:=⟨n-1,ZO⟩
 rw [Su]at a
 clear h f d m t u
 obtain ⟨p,A⟩:∃p,Fm.size l=p+1:=⟨Fm.size l-1,ZO⟩
 obtain ⟨q,B⟩:∃q,Fm.size r=q+1:=⟨Fm.size r-1,ZO⟩
 rw [A,B]at a⊢
 have v:((p+1:Nat):Int)-1=(p:Int):=ZO
 have y:((p+1:Nat):Int)+((q+1:Nat):Int)-1=((p+q+1:Nat):Int):=ZO
 rw [v,y]at a
 have H:p+q+2<=s:=ZO
 unfold maxLen at g
 clear v y C k A B i j
 have K:(p:Int)+1<=(c:Int):=ZO
 have L:(p:Int)+(q:Int)+1+1<=(c:Int):=ZO
 have M:(p:Int)+1<=(p:Int)+(q:Int)+1+1:=ZO
 have N:p+1<c:=ZO
 have O:¬c=p+1:=ZO
 have P:(0:Int)<=p+1:=ZO
 have Q:(0:Int)<=p+(q:Int)+1:=ZO
 have R:(0:Int)<=p+(q:Int)+1+1:=ZO
 have S:(p:Int)+1<=max ((p:Int)+(q:Int)+1+1) 0:=ZO
 have F:(0:Int)<=p:=ZO
 have E:Hid (((p:Int)+(q:Int)+1+1).toNat-(p+1)=q+1):=by show _=_;omega
 have U:IntKind.i64.wrap ((p:Int)+1)=(p:Int)+1:=Ql _ ZO
 have J:IntKind.i64.wrap ((p:Int)+(q:Int)+1+1)=(p:Int)+(q:Int)+1+1:=Ql _ ZO
 go_enter func183,ntmps183
 go_upto_region 6 with(go_at_call 166;apply a.o.mono;rintro e J ⟨rfl,z⟩;have D:=O8 z;clear z)
 go_region_held3 (λW=>True)
  (exact trivial)
  (fail)
 go_wp2_with fail
 go_ret2
 exact ⟨by show RT (.tuple #[SL (some (AD b o)) (p+1) c,SL (some (AD b (o+(p+1)*2))) (((p:Int)+(q:Int)+1+1).toNat-(p+1)) (c-(p+1))])=_;rw [E.o],D.o.drew⟩
def JP(c:Bool):Int:=if c then 5 else 6
def Jb(c x y)(h:(Fm.aH x).1≠JP c):Fm.has c x y=false:=by cases x<;>first|rfl|(cases c<;>simp [Fm.aH,JP,Fm.has]at *)
def Lf(c x y)(h:(Fm.aH x).1=JP c):∃l r,Fm.gj l r x/\Fm.has c x y=(Fm.same l y||Fm.same r y):=by
 cases x with
 |and l r=>refine ⟨l,r,.and,?_⟩;cases c<;>simp [Fm.aH,JP,Fm.has]at *
 |or l r=>refine ⟨l,r,.or,?_⟩;cases c<;>simp [Fm.aH,JP,Fm.has]at *
 |_=>cases c<;>simp [Fm.aH,JP]at h
def vD(q a n c x b m d y w)(h:FA w a n x)(A:FA w b m y)(G:eh x)(L:n<=1000000)(K:m<=1000000)(O:n<=c)(F:c<=maxLen):
 CL 182 #[SL a n c,IV (JP q),SL b m d] w λe v=>e=RT (.bool (Fm.has q x y))/\BW w v:=by
 have s:=O8 (kZ a n c x w h L)
 by_cases g:(Fm.aH x).1=JP q
 have⟨l,r,B,M⟩:=Lf q x y g
 obtain ⟨E,o,rfl,-⟩:=h.at (Fm.cP x)
 have⟨J,u⟩:=h.aQ B
 have z:=O8 (lP E o n c x l r w h B G L O F)
 have P:=B.size
 have H:=h.size
 have p:Hid (∀i,BW w i->CL 180 #[SL (some (AD E o)) (Fm.size l) c,SL b m d] i λe v=>e=RT (.bool (Fm.same l y))/\BW i v):=λi f=>jm _ _ _ l b m d y i (J.ag f) (A.ag f) ZO K
 have D:Hid (∀i,BW w i->CL 180 #[SL (some (AD E (o+Fm.size l*2))) (Fm.size r) (c-Fm.size l),SL b m d] i λe v=>e=RT (.bool (Fm.same r y))/\BW i v):=λi f=>jm _ _ _ r b m d y i (u.ag f) (A.ag f) ZO K
 rw [M]
 rw [g]at s
 clear h A B M J u P H g
 generalize JP q=Q at *
 generalize Fm.size l=V at *
 generalize Fm.size r=W at *
 generalize Fm.same l y=R at *
 generalize Fm.same r y=U at *
 cases R
 go_enter func182,ntmps182
 go_wp2_with (first
  |(go_at_call 162;apply s.o.mono;rintro e N ⟨rfl,rfl⟩;clear s)
  |(go_at_call 183;apply z.o.mono;rintro e S ⟨rfl,f⟩;have t:=O8 f;clear f z)
  |(go_at_call 180;refine (p.o _ t.o).mono ?_;rintro e T ⟨rfl,f⟩;have j:=O8 (af t.o f);clear f p)
  |(go_at_call 180;refine (D.o _ j.o).mono ?_;rintro e Y ⟨rfl,f⟩;have C:=O8 (af j.o f);clear f))
 go_ret
 exact ⟨rfl,C.o⟩
 go_enter func182,ntmps182
 go_wp2_with (first
  |(go_at_call 162;apply s.o.mono;rintro e N ⟨rfl,rfl⟩;clear s)
  |(go_at_call 183;apply z.o.mono;rintro e S ⟨rfl,f⟩;have t:=O8 f;clear f z)
  |(go_at_call 180;refine (p.o _ t.o).mono ?_;rintro e T ⟨rfl,f⟩;have j:=O8 (af t.o f);clear f p))
 go_ret
 exact ⟨rfl,j.o⟩
 have I:=O8 (Jb q x y g)
 have X:((Fm.aH x).1==JP q)=false:=Pq.2 g
 rw [I.o]
 clear h A g I
 generalize JP q=Q at *
 generalize (Fm.aH x).1=k at *
 go_enter func182,ntmps182
 go_wp2_with (go_at_call 162;apply s.o.mono;rintro e N ⟨rfl,rfl⟩)
 go_ret
 exact ⟨rfl,Pn _ _⟩
def Ur:=@Go.Proofs.Tryz.underlying148
def kx{L w A f o a Q}(E:o.guard=none)(s x t)(X:prog.underlying t=some (.slice 32))
 (V:o.op=.call {callee:=.builtin .append,args:=#[s,x],argTypes:=#[t,t]})
 (v n F) (W:a.eval s=v) (i:bP L w v n F)
 (B m c G) (Y:a.eval x=SL (some B) m c) (z:bD w (some B) m G) (K:n+m<=1000000000)
 (h:∀q r p,bP L p (SL q (n+m) r) (n+m) (F++G)->aj (λk=>v.ownBlock=some k) w p->(∀b,(SL q (n+m) r).ownBlock=some b->v.ownBlock=some b\/w.heap.size<=b)->wpList prog A Q f (a.put o.dst (SL q (n+m) r)) p):
 wpList prog A Q (o::f) a w:=by
 have⟨J,T,Z,I,R⟩:=P6 Tryz.AL
 have l:∀j u,(bW G)[j]? =some u->w.cell? (B.add j)=some u:=by
  intro j u g;have H:j<(bW G).length:=(Po.1 g).1;rw [eT,z.1]at H;obtain h0|⟨b,aa,e,S⟩:=z.2;omega;cases e
  have⟨M,N⟩:=S (j/2) ZO;have⟨O,P⟩:=gI G (j/2) (ZH z.1);rw [QK];obtain C|C:=TH j;have e:j=j/2*2:=ZO;rw [e]at g;rw [O]at g;rw [e,<-g];exact M;have e:j=j/2*2+1:=ZO;rw [e]at g;rw [P]at g;rw [e,<-g,<-QH];exact N
 refine Tz w E s x t V 0 32 J (.agg #[IV 0,IV 0]) 2 16 X T Z I R rfl ZD v n (bW F) W i.cO B m c (bW G) Y (by rw [eT,z.1]) l (iR G) (by unfold maxLen;omega) ZO (Pz _) ?_
 intro v' p C y _ d
 have D:aj (λk=>v.ownBlock=some k) w p:=⟨y.os,y.tape,y.output,y.size,λk D K=>y.block k D (λe=>K e.symm)⟩
 obtain ⟨q,r,rfl⟩:=bF C
 refine h q r p ⟨by rw [iQ];exact C,by rw [Pk,i.bA,z.1],i.aJ.trans (D.ag i.aJ.size (λk U e=>ZH (i.dJ k e))),λb e=>?_⟩ D (λb e=>?_)
 obtain d|d:=d
 rw [d]at e;exact i.dJ b e
 rw [d]at e;cases e;exact i.aJ.size
 obtain d|d:=d
 rw [d]at e;exact .inl e
 rw [d]at e;cases e;exact .inr (Pf _)
def Ja(n:Nat)(w)(j:0<n)(t:n<=1000000):
 CL 161 #[SN,IV n] w λe s=>∃d f,e=RT (SL d 0 f)/\bP w s (SL d 0 f) 0 []:=by
 have⟨c,o,r,q,k⟩:=P6 Tryz.AL
 have p:=Go.Lib.run_append_nil_zeros (P:=Tryz.prog) w 148 3 148 32 c _ .i64 .i64 Ur Tryz.underlying3 o r n j (by omega) (by omega) (by rw [k];omega)
 have m:=grownCap_ge w n 0 32
 have a:=grownCap_le_maxLen w n 0 32 (by unfold maxLen;omega)
 have h:(0:Int)<n:=ZO
 have i:Hid (bP w (w.drew.alloc (CE (Builtin.zeroCells (Value.agg #[IV 0,IV 0]).cells n++Builtin.zeroCells (Value.agg #[IV 0,IV 0]).cells (grownCap w n 0 32-n)) 32)) (SV w.heap.size 0 (grownCap w n 0 32)) 0 []):=by refine ⟨⟨rfl,.inr ⟨w.heap.size,_,_,rfl,Pz _,heap_alloc_new w.drew _,Pz _,a,?_,?_⟩⟩,rfl,(Pn _ w).drew.alloc (Pf _) _,λb e=>by cases e;exact Pf _⟩;rw [Array.size_append,size_zeroCells,size_zeroCells];have:(Value.agg #[IV 0,IV 0]).cells.size=2:=rfl;rw [this];omega;rw [Th];rfl
 generalize grownCap w n 0 32=g at *
 generalize (w.drew.alloc (CE (Builtin.zeroCells (Value.agg #[IV 0,IV 0]).cells n++Builtin.zeroCells (Value.agg #[IV 0,IV 0]).cells (g-n)) 32))=u at *
 have l:(0:Int)<=g:=ZO
 go_enter func161,ntmps161
 go_wp2_with (at_builtin;refine Go.Lib.wpList_append_run _ rfl _ _ _ _ rfl _ _ rfl rfl _ _ p ?_)
 go_ret
 exact ⟨_,_,rfl,i.o⟩
def pH(w:WD)(b a:Nat)(L:List (OA×Nat×Nat×Fm)):Prop:=
 ∀i p,L[i]? =some p->w.cell? (AD b (a+i))=some (SL p.1 p.2.1 p.2.2.1)/\FA w p.1 p.2.1 p.2.2.2
def pH.ag{w w' b a L}(h:pH w b a L)(d:BW w w'):pH w' b a L:=λi p c=>
 ⟨(d.cell (O9 w _ (h i p c).1)).trans (h i p c).1,(h i p c).2.ag d⟩
def dr(L:List (OA×Nat×Nat×Fm)):List Fm:=L.map (·.2.2.2)
def mM(l:List Fm)(k x)(h:l[k]? =some x):bm (l.take (k+1))=bm (l.take k)+Fm.size x:=by rw [Qf,h,rk];show _+(Fm.size x+0)=_;omega
def wR(l:List Fm)(k x)(h:l[k]? =some x):fI (l.take (k+1))=fI (l.take k)++Fm.enc x:=by rw [Qf,h,lB];show _++(Fm.enc x++[])=_;rw [Qb]
def iT(l k):bm (l.take k)<=bm l:=by have:=rk (l.take k) (l.drop k);rw [Tn]at this;omega
def DD(b H n c L w)(h:pH w b H L)(P:L.length=n)(h0:0<n)(aa:n<=1000000)(hs:bm (dr L)<=1000000):
 CL 136 #[SL (some (AD b H)) n c] w λe w'=>∃r t,e=RT (SL r (bm (dr L)) t)/\bP w w' (SL r (bm (dr L)) t) (bm (dr L)) (fI (dr L)):=by
 have S:=O8 h
 have U:=O8 P
 have C:(dr L).length=n:=by unfold dr;rw [PB];exact P
 have B:=O8 C
 have q:0<bm (dr L):=Hj ZO
 have T:=λw1=>O8 (Ja (bm (dr L)) w1 q ZO)
 have⟨N,M⟩:=EX (bm (dr L))
 have g:=O8 M
 rw [M]at hs q T⊢
 clear h P C M
 go_enter func136,ntmps136
 go_wp2
 go_loop [3,11] (λs x=>∃k:Nat,k<=n/\x=IV k/\s=IV (bm ((dr L).take k):Nat)) (λ_ x=>n-(intOf x).toNat)
 exact ⟨0,Pz _,rfl,rfl⟩
 obtain ⟨k,hk,rfl,rfl⟩:=hrel
 have l:=iT (dr L) k
 rw [g.o]at l
 by_cases u:k<n
 have D:(k:Int)<n:=ZO
 obtain ⟨p,y⟩:∃p,L[k]? =some p:=⟨_,Pe (ZR U.o u)⟩
 have⟨K,d⟩:=S.o k p y
 have m:=d.size
 have i:(dr L)[k]? =some p.2.2.2:=by unfold dr;rw [PZ,y];rfl
 have a:=mM _ _ _ i
 rw [m]at a
 have f:=iT (dr L) (k+1)
 rw [g.o]at f
 have o:=O8 a
 obtain ⟨pa,R,V,px⟩:=p
 simp only at a K
 rw [a]at f
 have W:¬(((bm ((dr L).take k):Nat):Int)+(R:Int)<0):=ZO
 clear y d m i a
 generalize bm ((dr L).take k)=z at *
 go_wp2_with fail
 go_round
 exact ⟨k+1,ZO,ZN,by rw [o.o];go_num⟩
 simp [intOf];omega
 obtain rfl:k=n:=ZO
 have G:(dr L).take k=dr L:=PI (by rw [B.o];exact Pf _)
 rw [G,g.o]
 clear G l
 go_wp2_with (go_at_call 161;refine (T _).o.mono ?_;rintro e w2 ⟨ga,gc,rfl,v⟩;have X:=O8 v;clear v)
 go_loopw [6,27] (λs x wr=>∃j:Nat,∃r t,j<=k/\x=IV j/\s=SL r (bm ((dr L).take j)) t/\Hid (bP w wr (SL r (bm ((dr L).take j)) t) (bm ((dr L).take j)) (fI ((dr L).take j)))) (λ_ x _=>k-(intOf x).toNat)
 exact ⟨0,ga,gc,Pz _,rfl,rfl,X⟩
 obtain ⟨j,r,t,hj,rfl,rfl,v⟩:=hrel
 have l:=iT (dr L) j
 rw [g.o]at l
 by_cases u:j<k
 have D:(j:Int)<k:=ZO
 obtain ⟨p,y⟩:∃p,L[j]? =some p:=⟨_,Pe (ZR U.o u)⟩
 have⟨K,d⟩:=(S.o.ag v.o.aJ) j p y
 have m:=d.size
 obtain ⟨pb,po,F,-⟩:=d.at (Fm.cP _)
 have i:(dr L)[j]? =some p.2.2.2:=by unfold dr;rw [PZ,y];rfl
 have a:=mM _ _ _ i
 rw [m]at a
 have f:=iT (dr L) (j+1)
 rw [g.o]at f
 have o:=O8 a
 have A:=O8 (wR _ _ _ i)
 obtain ⟨pa,R,V,px⟩:=p
 simp only at a K F d A
 subst F
 rw [a]at f
 have I:=O8 d
 clear y d m i a
 generalize hz:bm ((dr L).take j)=z at *
 go_wp2_with (at_builtin;refine kx rfl (.tmp 31) (.tmp 32) 148 Ur rfl _ z _ rfl v.o (AD pb po) R V _ rfl I.o ZO ?_;intro Y Z w4 E O Q;have J:=O8 E;clear E O Q)
 go_roundw
 exact ⟨j+1,Y,Z,ZO,ZN,by rw [o.o],by rw [o.o,A.o];exact J⟩
 simp [intOf];omega
 obtain rfl:j=k:=ZO
 have G:(dr L).take j=dr L:=PI (by rw [B.o];exact Pf _)
 rw [G,g.o]at v⊢
 clear G l
 go_wp2_with fail
 go_ret
 exact ⟨r,t,rfl,v.o⟩
def C5(g b a n c L w)(h:pH w b a L)(r:L.length=n)(q:0<n)(f:n<=1000000)(y:bm (dr L)<=1000000):
 CL 103 #[IV g,SL (some (AD b a)) n c] w λe z=>∃k l,e=RT (SL k (bm (dr L)+1) l)/\bP w z (SL k (bm (dr L)+1) l) (bm (dr L)+1) (fI (dr L)++[(g,0)]):=by
 have t:=O8 (DD b a n c L w h r q f y)
 clear h r q f
 generalize bm (dr L)=N at *
 go_enter func103,ntmps103
 go_wp2_with (first
  |(go_at_call 136;apply t.o.mono;rintro e s ⟨k,l,rfl,o⟩;have A:=O8 o;have u:=O8 (bP.zE s g 0);have i:=O8 (o.alloc (CE #[IV g,IV 0] 32));clear o)
  |(at_builtin;refine kx rfl (.tmp 6) (.tmp 9) 148 Ur rfl _ N _ rfl i.o (AD s.heap.size 0) 1 1 [(g,0)] rfl u.o ZO ?_;intro v x B d m p;have j:=O8 d;clear d m p))
 go_ret
 exact ⟨v,x,rfl,j.o⟩
def Ag{x y}(f:Fm.One y x)(b c a n d w)(o:CA w b 0 (SL a n d))(h:FA w a n y)(r:n<=999999):
 CL 103 #[IV (Fm.aH x).1,SV b 1 c] w λe q=>∃j k,e=RT (SL j (Fm.size x) k)/\bP w q (SL j (Fm.size x) k) (Fm.size x) (Fm.enc x):=by
 have s:=h.size
 have e:bm (dr [(a,n,d,y)])=Fm.size y:=by show Fm.size y+0=_;omega
 have l:fI (dr [(a,n,d,y)])=Fm.enc y:=by show Fm.enc y++[]=_;rw [Qb]
 have:=C5 (Fm.aH x).1 b 0 1 c [(a,n,d,y)] w (λi p g=>by obtain _|i:=i;simp at g;subst g;exact ⟨o,h⟩;simp at g) rfl ZD ZD (ZH e)
 rw [e,l,<-f.size]at this
 have m:Fm.enc y++[((Fm.aH x).1,0)]=Fm.enc x:=by rw [Fm.nY f];cases f<;>rfl
 rw [m]at this
 exact this
def Ig{x l r}(m:Fm.gj l r x)(b c a n k f d j w)(y:CA w b 0 (SL a n k))(o:CA w b 1 (SL f d j))(h:FA w a n l)(t:FA w f d r)(B:n+d<=999999):
 CL 103 #[IV (Fm.aH x).1,SV b 2 c] w λe A=>∃q s,e=RT (SL q (Fm.size x) s)/\bP w A (SL q (Fm.size x) s) (Fm.size x) (Fm.enc x):=by
 have C:=h.size
 have z:=t.size
 have e:bm (dr [(a,n,k,l),(f,d,j,r)])=Fm.size l+Fm.size r:=by show Fm.size l+(Fm.size r+0)=_;omega
 have u:fI (dr [(a,n,k,l),(f,d,j,r)])=Fm.enc l++Fm.enc r:=by show Fm.enc l++(Fm.enc r++[])=_;rw [Qb]
 have:=C5 (Fm.aH x).1 b 0 2 c [(a,n,k,l),(f,d,j,r)] w (λi p g=>by obtain _|_|i:=i;simp at g;subst g;exact ⟨y,h⟩;simp at g;subst g;exact ⟨o,t⟩;simp at g) rfl ZD ZD (ZH e)
 rw [e,u,<-m.size]at this
 have v:Fm.enc l++Fm.enc r++[((Fm.aH x).1,0)]=Fm.enc x:=by rw [Fm.gH m,Qe];cases m<;>rfl
 rw [v]at this
 exact this
def aL(w:WD)(S:Nat->Prop)(x:Fm)(e:Ending)(f:WD):Prop:=∃a d c,e=RT (SL a d c)/\d<=c/\c<=maxLen/\FA f a d x/\BW w f/\∀b o,a=some (AD b o)->w.heap.size<=b\/S b
def bP.bS{w j a n c F}(h:bP w j (SL a n c) n F):n<=c/\c<=maxLen:=by
 obtain ⟨e,k⟩|⟨g,b,d,e,-,-,f,i,-⟩:=h.cO.2;cases e;exact ⟨Pf _,Pz _⟩
 cases e;exact ⟨f,i⟩
def aL.dI{w d S a n c x}(h:bP w d (SL a n c) n (Fm.enc x)):aL w S x (RT (SL a n c)) d:=
 ⟨a,n,c,rfl,h.bS.1,h.bS.2,h.ak,h.aJ,λb o e=>.inl (h.dJ b (by subst e;rfl))⟩
def aL.MK{w g S a n c x}(h:FA w a n x)(j:n<=c)(d:c<=maxLen)(i:∀b o,a=some (AD b o)->S b)(f:BW w g):aL w S x (RT (SL a n c)) g:=
 ⟨a,n,c,rfl,j,d,h.ag f,f,λb o e=>.inr (i b o e)⟩
def aL.shape{w b S x e}(h:aL w S x e b):∃a n c,e=RT (SL a n c):=by obtain ⟨a,n,c,e,-⟩:=h;exact ⟨a,n,c,e⟩
def aL.ag{w w' S x e}(h:aL w S x e w'):BW w w':=by obtain ⟨a,n,c,e,-,-,-,h,-⟩:=h;exact h
def aL.fa{w b S x a n c}(h:aL w S x (RT (SL a n c)) b):FA b a n x/\n<=c/\c<=maxLen:=by obtain ⟨a,n,c,e,d,f,g,-⟩:=h;cases e;exact ⟨g,d,f⟩
def aL.later{w b W S x e}(h:aL w S x e b)(d:BW b W):aL w S x e W:=by obtain ⟨a,n,c,e,f,g,i,j,k⟩:=h;exact ⟨a,n,c,e,f,g,i.ag d,af j d,k⟩
def aL.from{w g f S x e}(d:BW w g)(h:aL g S x e f):aL w S x e f:=by obtain ⟨a,n,c,e,i,j,k,l,m⟩:=h;exact ⟨a,n,c,e,i,j,k,af d l,λb o e=>(m b o e).imp (PG d.size) id⟩
def JH(a n c x w)(h:FA w a n x)(y:n<=999999)(u:n<=c)(f:c<=maxLen)(S)(t:∀b o,a=some (AD b o)->S b):
 CL 104 #[SL a n c] w (aL w S (Fm.j9 x)):=by
 have d:=O8 (wE a n c x w h ZO)
 have r:Hid (aL w S x (RT (SL a n c)) w):=aL.MK h u f t (Pn _ _)
 have s:Hid (∀W,W=w.alloc (CE #[SL a n c] 148)->CL 103 #[IV 8,SV w.heap.size 1 1] W λe m=>aL w S (.cy x) e m):=by rintro W rfl;have k:BW w (w.alloc (CE #[SL a n c] 148)):=(Pn _ _).alloc (Pf _) _;refine (Ag Fm.One.cy w.heap.size 1 a n c _ (Py (w:=w) _ 148 w.heap.size 0 rfl) (h.ag k) y).mono ?_;rintro e m ⟨g,i,rfl,v⟩;exact aL.from k (aL.dI v)
 unfold Fm.j9
 clear h
 cases l:(Fm.jD x||Fm.jC x)
 rw [l]at d
 go_enter func104,ntmps104
 go_wp2_with (first|(go_at_call 137;apply d.o.mono;rintro e p ⟨rfl,rfl⟩)|(go_at_call 103;refine (s.o _ rfl).mono ?_;rintro e p ⟨g,z,i,rfl,j⟩;have q:=O8 j;clear j))
 go_ret
 exact ⟨g,z,i,rfl,q.o⟩
 rw [l]at d
 go_enter func104,ntmps104
 go_wp2_with (first|(go_at_call 137;apply d.o.mono;rintro e p ⟨rfl,rfl⟩))
 go_ret
 exact r.o
end Go.Proofs.YtimniinkpipnmaaGreatDoor
namespace Go.Own
open Go.RowKit
section
section
variable {P:Program} {a:Act} {w:World} {Q:Exit->Act->World->Prop}
theorem GC{l J}(h:J a w):Exit.jump l J Q (.goto l) a w:=⟨rfl,h⟩
theorem yr{c b}(l)(d:findLabel c l=some b)(first:c.wp P (Exit.jump l (λa w=>b.wp P (Exit.noGoto Q) a w) Q) a w):(Code.scope c).wp P Q a w:=
 wp_scope_jumps l _ (λ_ _=>0) d first λa w h=>Code.wp_mono (λe a w h=>by cases e<;>first|exact h|exact (h:False).elim) h
theorem jP{c b}(l)(e:findLabel c l=some b)
 (first:∀d:Exit->Act->World->Prop,Hid ((∀a w,b.wp P (Exit.noGoto Q) a w->d (.goto l) a w)/\(∀a w,Q .ret a w->d .ret a w)/\(∀a w,Q .normal a w->d .normal a w))->c.wp P d a w):(Code.scope c).wp P Q a w:=
 yr l e (first _ ⟨λ_ _ h=>GC h,λ_ _ h=>h,λ_ _ h=>h⟩)
end
end
end Go.Own
namespace Go.Proofs.YtimniinkpipnmaaGreatDoor
open Go.RowKit Go.Own Go.Proofs.Tryz
def Sa:=@Int.add_sub_cancel
def lG(x):Fm.jD x=((Fm.aH x).1==1):=by cases x<;>rfl
def lF(x):Fm.jC x=((Fm.aH x).1==2):=by cases x<;>rfl
def hH{S x l r}(j:Fm.gj l r x)(a n f c b d w)(h:FA w a n l)(i:FA w c b r)(m:n+b<=999999):
 CL 103 #[IV (Fm.aH x).1,SV w.heap.size 2 2] (w.alloc (CE #[SL a n f,SL c b d] 148)) (aL w S x):=by
 have g:BW w (w.alloc (CE #[SL a n f,SL c b d] 148)):=(Pn _ w).alloc (Pf _) _
 refine (Ig j w.heap.size 2 a n f c b d _ (Py (w:=w) _ 148 w.heap.size 0 rfl) (Py (w:=w) _ 148 w.heap.size 1 rfl) (h.ag g) (i.ag g) m).mono ?_
 rintro e q ⟨o,p,rfl,k⟩
 exact aL.from g (aL.dI k)
def nS{S x y}(d:Fm.One y x)(a n b w)(h:FA w a n y)(g:n<=999999):
 CL 103 #[IV (Fm.aH x).1,SV w.heap.size 1 1] (w.alloc (CE #[SL a n b] 148)) (aL w S x):=by
 have c:BW w (w.alloc (CE #[SL a n b] 148)):=(Pn _ w).alloc (Pf _) _
 refine (Ag d w.heap.size 1 a n b _ (Py (w:=w) _ 148 w.heap.size 0 rfl) (h.ag c) g).mono ?_
 rintro e k ⟨i,j,rfl,f⟩
 exact aL.from c (aL.dI f)
def A2{x}(h:(Fm.aH x).1=8):∃y,x=Fm.cy y:=by
 cases x<;>simp [Fm.aH]at h
 exact ⟨_,rfl⟩
def zm{c x y}(h:¬((Fm.aH x).1=8/\(Fm.aH y).1=8)):Fm.mK c x y=Fm.mk c x y:=by unfold Fm.mK;split;exact absurd ⟨rfl,rfl⟩ h;rfl
def FA.one{w a n x y}(h:FA w a (n+1) x)(c:Fm.One y x):FA w a n y:=by
 have f:=h.size;rw [c.size]at f;refine ⟨by rw [Fm.dt];omega,?_⟩;obtain g|⟨b,o,rfl,d⟩:=h.2;omega;refine .inr ⟨b,o,rfl,λi j=>?_⟩;have:=d i ZO;rw [Fm.nY c]at this;have e:(Fm.enc y++[Fm.aH x]).getD i (0,0)=(Fm.enc y).getD i (0,0):=by rw [Pd,Pd,Pp (by rw [Fm.dt];omega)]
 rw [e]at this;exact this
def zw{S}(d){x}(g:Fm.mQ x)(c:Fm.aH x=(d,0)){w a}(f:BW w a):aL w S x (RT (SV a.heap.size 1 1)) (a.alloc (CE #[IV d,IV 0] 32)):=
 ⟨_,_,_,rfl,Pf _,by simp [maxLen],by unfold FA;rw [Fm.BS g,c];exact bP.zE a d 0,jd f _,λb o e=>by cases e;exact .inl f.size⟩
def EL{S R w a}(b:BW w a)(e:R=Fm.ff):aL w S R (RT (SV a.heap.size 1 1)) (a.alloc (CE #[IV 2,IV 0] 32)):=by subst e;exact zw 2 .ff rfl b
def EM{S R w a}(b:BW w a)(e:R=Fm.tt):aL w S R (RT (SV a.heap.size 1 1)) (a.alloc (CE #[IV 1,IV 0] 32)):=by subst e;exact zw 1 .tt rfl b
def jB{S R x w W v}(h:∀W,BW w W->aL w S x (RT v) W)(a:BW w W)(e:R=x):aL w S R (RT v) W:=by subst e;exact h W a
def BK(a n c b m d x y w)(E:FA w a n x)(F:FA w b m y)(O:eh x)(P:eh y)(hn:n+m<=100000)(hc:n<=c)(X:c<=maxLen)(hd:m<=d)(Y:d<=maxLen)(S)(ac:∀g o,a=some (AD g o)->S g)(ad:∀g o,b=some (AD g o)->S g):
 CL 163 #[IV 5,SL a n c,SL b m d] w (aL w S (Fm.gq true x y)):=by
 have L:Hid (CL 103 #[IV 5,SV w.heap.size 2 2] (w.alloc (CE #[SL a n c,SL b m d] 148)) (aL w S (Fm.and x y))):=hH Fm.gj.and a n c b m d w E F ZO
 have l:Hid (∀W,BW w W->CL 162 #[SL a n c] W λe C=>e=RT (IV (Fm.aH x).1)/\C=W):=λW i=>kZ a n c x W (E.ag i) ZO
 have p:Hid (∀W,BW w W->CL 162 #[SL b m d] W λe C=>e=RT (IV (Fm.aH y).1)/\C=W):=λW i=>kZ b m d y W (F.ag i) ZO
 have K:Hid (∀W,BW w W->CL 180 #[SL a n c,SL b m d] W λe C=>e=RT (.bool (Fm.same x y))/\BW W C):=λW i=>jm a n c x b m d y W (E.ag i) (F.ag i) ZO ZO
 have J:Hid (∀W,BW w W->CL 181 #[SL a n c,SL b m d] W λe C=>e=RT (.bool (Fm.kf x y))/\C=W):=λW i=>zK a n c x b m d y W (E.ag i) (F.ag i) ZO ZO
 have q:Hid (∀W,BW w W->CL 182 #[SL b m d,IV 6,SL a n c] W λe C=>e=RT (.bool (Fm.has false y x))/\BW W C):=λW i=>vD false b m d y a n c x W (F.ag i) (E.ag i) P ZO ZO hd Y
 have r:Hid (∀W,BW w W->CL 182 #[SL a n c,IV 6,SL b m d] W λe C=>e=RT (.bool (Fm.has false x y))/\BW W C):=λW i=>vD false a n c x b m d y W (E.ag i) (F.ag i) O ZO ZO hc X
 have s:Hid (∀W,BW w W->aL w S x (RT (SL a n c)) W):=λW i=>aL.MK E hc X ac i
 have t:Hid (∀W,BW w W->aL w S y (RT (SL b m d)) W):=λW i=>aL.MK F hd Y ad i
 have HR:Hid (Fm.gq true x y=if((Fm.aH x).1==2)||((Fm.aH y).1==2)then Fm.ff else if((Fm.aH x).1==1)then y else if((Fm.aH y).1==1)||Fm.same x y then x else if Fm.kf x y then Fm.ff else if Fm.has false y x then x else if Fm.has false x y then y else Fm.mK true x y):=by show _=_;rw [<-lG,<-lG,<-lF,<-lF];rfl
 by_cases Q:(Fm.aH x).1=8/\(Fm.aH y).1=8
 ·obtain ⟨A,rfl⟩:=A2 Q.1;obtain ⟨B,rfl⟩:=A2 Q.2
  have Z:=E.size;have aa:=F.size;rw [Fm.fp]at Z aa;obtain ⟨H,rfl⟩:∃H,n=H+1:=⟨n-1,ZO⟩;obtain ⟨G,rfl⟩:∃G,m=G+1:=⟨m-1,ZO⟩;have U:=O8 (E.one Fm.One.cy);have V:=O8 (F.one Fm.One.cy);obtain ⟨ab,ao,rfl,-⟩:=E.at (Fm.cP _);obtain ⟨bb,bo,rfl,-⟩:=F.at (Fm.cP _);have u:Hid (∀W,BW w W->CL 103 #[IV 5,SV W.heap.size 2 2] (W.alloc (CE #[SL (some (AD ab ao)) H c,SL (some (AD bb bo)) G d] 148)) (aL W S (Fm.and A B))):=λW i=>hH Fm.gj.and _ H c _ G d W (U.o.ag i) (V.o.ag i) ZO;have v:Hid (∀W a n c,FA W a n (Fm.and A B)->CL 103 #[IV 8,SV W.heap.size 1 1] (W.alloc (CE #[SL a n c] 148)) (aL W S (Fm.cy (Fm.and A B)))):=λW a n c h=>nS Fm.One.cy a n c W h (by have:=h.size;rw [Fm.ki]at this;omega);rw [HR.o];change Calls _ _ _ _ (aL w S (if((8:Int)==2)||((8:Int)==2)then Fm.ff else if((8:Int)==1)then Fm.cy B else if((8:Int)==1)||Fm.same (Fm.cy A) (Fm.cy B)then Fm.cy A else if Fm.kf (Fm.cy A) (Fm.cy B)then Fm.ff else if Fm.has false (Fm.cy B) (Fm.cy A)then Fm.cy A else if Fm.has false (Fm.cy A) (Fm.cy B)then Fm.cy B else Fm.cy (Fm.and A B)));change Hid (∀W,BW w W->CL 162 _ W λe C=>e=RT (IV 8)/\C=W)at l;change Hid (∀W,BW w W->CL 162 _ W λe C=>e=RT (IV 8)/\C=W)at p;clear E F O P HR Q Z aa U V;generalize Fm.same (Fm.cy A) (Fm.cy B)=p1 at *;generalize Fm.kf (Fm.cy A) (Fm.cy B)=p2 at *;generalize Fm.has false (Fm.cy B) (Fm.cy A)=p3 at *;generalize Fm.has false (Fm.cy A) (Fm.cy B)=p4 at *;generalize Fm.cy A=x at *;generalize Fm.cy B=y at *;have⟨R,M⟩:=EX ((if((8:Int)==2)||((8:Int)==2)then Fm.ff else if((8:Int)==1)then y else if((8:Int)==1)||p1 then x else if p2 then Fm.ff else if p3 then x else if p4 then y else Fm.cy (Fm.and A B)));rw [M];have j:=O8 M;clear M;have t1:(H:Int)<=c:=ZO;have t2:(G:Int)<=d:=ZO;have t3:(0:Int)<=H:=ZO;have t4:(0:Int)<=G:=ZO;have t5:H<=c:=ZO;have t6:G<=d:=ZO;have u1:IntKind.i64.wrap (H:Int)=H:=Ql _ ZO;have u2:IntKind.i64.wrap (G:Int)=G:=Ql _ ZO;have u3:IntKind.i64.wrap ((H:Int)+1-1)=(H:Int):=by rw [Sa];exact u1
  have u4:IntKind.i64.wrap ((G:Int)+1-1)=(G:Int):=by rw [Sa];exact u2
  go_enter func163,ntmps163;go_wp2;refine jP 0 rfl (λQ1 D=>?_);go_wp2_with (first
  |(go_at_call 103;apply L.o.mono;rintro e w2 z;obtain ⟨a',n',c',rfl⟩:=z.shape;have k:=O8 z;have f:=O8 z.ag;clear z)
  |(go_at_call 162;with_reducible refine (l.o _ f.o).mono ?_;rintro e I ⟨rfl,rfl⟩)
  |(go_at_call 162;with_reducible refine (p.o _ f.o).mono ?_;rintro e I ⟨rfl,rfl⟩)
  |(go_at_call 180;refine (K.o _ f.o).mono ?_;rintro e I ⟨rfl,i⟩;have f:=O8 (af f.o i);have k:=O8 (k.o.later i);clear i)
  |(go_at_call 181;refine (J.o _ f.o).mono ?_;rintro e I ⟨rfl,rfl⟩)
  |(go_at_call 182;with_reducible refine (q.o _ f.o).mono ?_;rintro e I ⟨rfl,i⟩;have f:=O8 (af f.o i);have k:=O8 (k.o.later i);clear i)
  |(go_at_call 182;with_reducible refine (r.o _ f.o).mono ?_;rintro e I ⟨rfl,i⟩;have f:=O8 (af f.o i);have k:=O8 (k.o.later i);clear i))
  all_goals first
   |(go_step3
     change Q1 (Exit.goto 0) _ _;refine D.o.1 _ _ ?_;go_light;go_wp2;go_ret;first
      |(refine EL f.o ?_;have N:=j.o;clear j s t f k;(try clear L);(try clear l);(try clear p);(try clear K);(try clear J);(try clear q);(try clear r);(try clear u);(try clear v);(try clear D);simp_all;done)
      |(refine jB s.o f.o ?_;have N:=j.o;clear j s t f k;(try clear L);(try clear l);(try clear p);(try clear K);(try clear J);(try clear q);(try clear r);(try clear u);(try clear v);(try clear D);simp_all;done)
      |(refine jB t.o f.o ?_;have N:=j.o;clear j s t f k;(try clear L);(try clear l);(try clear p);(try clear K);(try clear J);(try clear q);(try clear r);(try clear u);(try clear v);(try clear D);simp_all;done))
   |skip
  have f:=O8 f.o.drew;go_region_held3 (λW=>Hid (BW w W))
   (first|assumption|exact O8 (jd (Hid.o (by assumption)) _))
   (first
    |(go_at_call 103;refine (u.o _ f.o).mono ?_;clear u;rintro e w5 z;obtain ⟨a5,n5,c5,rfl⟩:=z.shape;have k:=O8 (aL.from f.o z);have f:=O8 k.o.ag;clear z)
    |(go_at_call 103;refine (v.o _ _ _ _ k.o.fa.1).mono ?_;rintro e w6 z;obtain ⟨a6,n6,c6,rfl⟩:=z.shape;have k:=O8 (aL.from f.o z);have f:=O8 k.o.ag;clear z))
  go_wp2;go_step3;go_wp2;refine D.o.2.1 _ _ ?_;go_light;go_ret;rw [show R=Fm.cy (Fm.and A B)from by have N:=j.o;clear j s t f k;(try clear L);(try clear l);(try clear p);(try clear K);(try clear J);(try clear q);(try clear r);(try clear u);(try clear v);(try clear D);simp_all];exact k.o
 ·have T:Hid (Fm.mK true x y=Fm.and x y):=zm (c:=true) Q;rw [HR.o,T.o]
  clear E F O P HR T;generalize (Fm.aH x).1=ox at *;generalize (Fm.aH y).1=oy at *;generalize Fm.same x y=p1 at *;generalize Fm.kf x y=p2 at *;generalize Fm.has false y x=p3 at *;generalize Fm.has false x y=p4 at *;have⟨R,M⟩:=EX ((if(ox==2)||(oy==2)then Fm.ff else if(ox==1)then y else if(oy==1)||p1 then x else if p2 then Fm.ff else if p3 then x else if p4 then y else Fm.and x y));rw [M];have j:=O8 M;clear M;have h9:(ox==8&&oy==8)=false:=ZX Q;have ae:ox=8->(oy==8)=false:=ZX Q;go_enter func163,ntmps163;go_wp2;refine jP 0 rfl (λQ1 D=>?_);go_wp2_with (first
  |(go_at_call 103;apply L.o.mono;rintro e w2 z;obtain ⟨a',n',c',rfl⟩:=z.shape;have k:=O8 z;have f:=O8 z.ag;clear z)
  |(go_at_call 162;with_reducible refine (l.o _ f.o).mono ?_;rintro e I ⟨rfl,rfl⟩)
  |(go_at_call 162;with_reducible refine (p.o _ f.o).mono ?_;rintro e I ⟨rfl,rfl⟩)
  |(go_at_call 180;refine (K.o _ f.o).mono ?_;rintro e I ⟨rfl,i⟩;have f:=O8 (af f.o i);have k:=O8 (k.o.later i);clear i)
  |(go_at_call 181;refine (J.o _ f.o).mono ?_;rintro e I ⟨rfl,rfl⟩)
  |(go_at_call 182;with_reducible refine (q.o _ f.o).mono ?_;rintro e I ⟨rfl,i⟩;have f:=O8 (af f.o i);have k:=O8 (k.o.later i);clear i)
  |(go_at_call 182;with_reducible refine (r.o _ f.o).mono ?_;rintro e I ⟨rfl,i⟩;have f:=O8 (af f.o i);have k:=O8 (k.o.later i);clear i))
  all_goals first
   |(go_step3
     change Q1 (Exit.goto 0) _ _;refine D.o.1 _ _ ?_;go_light;go_wp2;go_ret;first
      |(refine EL f.o ?_;have N:=j.o;clear j s t f k;(try clear L);(try clear l);(try clear p);(try clear K);(try clear J);(try clear q);(try clear r);(try clear u);(try clear v);(try clear D);simp_all;done)
      |(refine jB s.o f.o ?_;have N:=j.o;clear j s t f k;(try clear L);(try clear l);(try clear p);(try clear K);(try clear J);(try clear q);(try clear r);(try clear u);(try clear v);(try clear D);simp_all;done)
      |(refine jB t.o f.o ?_;have N:=j.o;clear j s t f k;(try clear L);(try clear l);(try clear p);(try clear K);(try clear J);(try clear q);(try clear r);(try clear u);(try clear v);(try clear D);simp_all;done))
   |skip
  all_goals
   go_step3
   go_wp2
   refine D.o.2.1 _ _ ?_
   go_light
   go_ret
   rw [show R=Fm.and x y from by have N:=j.o;clear j s t f k;(try clear L);(try clear l);(try clear p);(try clear K);(try clear J);(try clear q);(try clear r);(try clear u);(try clear v);(try clear D);simp_all]
   exact k.o
def Dr(a n c b m d x y w)(E:FA w a n x)(F:FA w b m y)(O:eh x)(P:eh y)(hn:n+m<=100000)(hc:n<=c)(X:c<=maxLen)(hd:m<=d)(Y:d<=maxLen)(S)(ac:∀g o,a=some (AD g o)->S g)(ad:∀g o,b=some (AD g o)->S g):
 CL 163 #[IV 6,SL a n c,SL b m d] w (aL w S (Fm.gq false x y)):=by
 have L:Hid (CL 103 #[IV 6,SV w.heap.size 2 2] (w.alloc (CE #[SL a n c,SL b m d] 148)) (aL w S (Fm.or x y))):=hH Fm.gj.or a n c b m d w E F ZO
 have l:Hid (∀W,BW w W->CL 162 #[SL a n c] W λe C=>e=RT (IV (Fm.aH x).1)/\C=W):=λW i=>kZ a n c x W (E.ag i) ZO
 have p:Hid (∀W,BW w W->CL 162 #[SL b m d] W λe C=>e=RT (IV (Fm.aH y).1)/\C=W):=λW i=>kZ b m d y W (F.ag i) ZO
 have K:Hid (∀W,BW w W->CL 180 #[SL a n c,SL b m d] W λe C=>e=RT (.bool (Fm.same x y))/\BW W C):=λW i=>jm a n c x b m d y W (E.ag i) (F.ag i) ZO ZO
 have J:Hid (∀W,BW w W->CL 181 #[SL a n c,SL b m d] W λe C=>e=RT (.bool (Fm.kf x y))/\C=W):=λW i=>zK a n c x b m d y W (E.ag i) (F.ag i) ZO ZO
 have q:Hid (∀W,BW w W->CL 182 #[SL b m d,IV 5,SL a n c] W λe C=>e=RT (.bool (Fm.has true y x))/\BW W C):=λW i=>vD true b m d y a n c x W (F.ag i) (E.ag i) P ZO ZO hd Y
 have r:Hid (∀W,BW w W->CL 182 #[SL a n c,IV 5,SL b m d] W λe C=>e=RT (.bool (Fm.has true x y))/\BW W C):=λW i=>vD true a n c x b m d y W (E.ag i) (F.ag i) O ZO ZO hc X
 have s:Hid (∀W,BW w W->aL w S x (RT (SL a n c)) W):=λW i=>aL.MK E hc X ac i
 have t:Hid (∀W,BW w W->aL w S y (RT (SL b m d)) W):=λW i=>aL.MK F hd Y ad i
 have HR:Hid (Fm.gq false x y=if((Fm.aH x).1==1)||((Fm.aH y).1==1)then Fm.tt else if((Fm.aH x).1==2)then y else if((Fm.aH y).1==2)||Fm.same x y then x else if Fm.kf x y then Fm.tt else if Fm.has true y x then x else if Fm.has true x y then y else Fm.mK false x y):=by show _=_;rw [<-lG,<-lG,<-lF,<-lF];rfl
 by_cases Q:(Fm.aH x).1=8/\(Fm.aH y).1=8
 ·obtain ⟨A,rfl⟩:=A2 Q.1;obtain ⟨B,rfl⟩:=A2 Q.2
  have Z:=E.size;have aa:=F.size;rw [Fm.fp]at Z aa;obtain ⟨H,rfl⟩:∃H,n=H+1:=⟨n-1,ZO⟩;obtain ⟨G,rfl⟩:∃G,m=G+1:=⟨m-1,ZO⟩;have U:=O8 (E.one Fm.One.cy);have V:=O8 (F.one Fm.One.cy);obtain ⟨ab,ao,rfl,-⟩:=E.at (Fm.cP _);obtain ⟨bb,bo,rfl,-⟩:=F.at (Fm.cP _);have u:Hid (∀W,BW w W->CL 103 #[IV 6,SV W.heap.size 2 2] (W.alloc (CE #[SL (some (AD ab ao)) H c,SL (some (AD bb bo)) G d] 148)) (aL W S (Fm.or A B))):=λW i=>hH Fm.gj.or _ H c _ G d W (U.o.ag i) (V.o.ag i) ZO;have v:Hid (∀W a n c,FA W a n (Fm.or A B)->CL 103 #[IV 8,SV W.heap.size 1 1] (W.alloc (CE #[SL a n c] 148)) (aL W S (Fm.cy (Fm.or A B)))):=λW a n c h=>nS Fm.One.cy a n c W h (by have:=h.size;rw [Fm.mC]at this;omega);rw [HR.o];change Calls _ _ _ _ (aL w S (if((8:Int)==1)||((8:Int)==1)then Fm.tt else if((8:Int)==2)then Fm.cy B else if((8:Int)==2)||Fm.same (Fm.cy A) (Fm.cy B)then Fm.cy A else if Fm.kf (Fm.cy A) (Fm.cy B)then Fm.tt else if Fm.has true (Fm.cy B) (Fm.cy A)then Fm.cy A else if Fm.has true (Fm.cy A) (Fm.cy B)then Fm.cy B else Fm.cy (Fm.or A B)));change Hid (∀W,BW w W->CL 162 _ W λe C=>e=RT (IV 8)/\C=W)at l;change Hid (∀W,BW w W->CL 162 _ W λe C=>e=RT (IV 8)/\C=W)at p;clear E F O P HR Q Z aa U V;generalize Fm.same (Fm.cy A) (Fm.cy B)=p1 at *;generalize Fm.kf (Fm.cy A) (Fm.cy B)=p2 at *;generalize Fm.has true (Fm.cy B) (Fm.cy A)=p3 at *;generalize Fm.has true (Fm.cy A) (Fm.cy B)=p4 at *;generalize Fm.cy A=x at *;generalize Fm.cy B=y at *;have⟨R,M⟩:=EX ((if((8:Int)==1)||((8:Int)==1)then Fm.tt else if((8:Int)==2)then y else if((8:Int)==2)||p1 then x else if p2 then Fm.tt else if p3 then x else if p4 then y else Fm.cy (Fm.or A B)));rw [M];have j:=O8 M;clear M;have t1:(H:Int)<=c:=ZO;have t2:(G:Int)<=d:=ZO;have t3:(0:Int)<=H:=ZO;have t4:(0:Int)<=G:=ZO;have t5:H<=c:=ZO;have t6:G<=d:=ZO;have u1:IntKind.i64.wrap (H:Int)=H:=Ql _ ZO;have u2:IntKind.i64.wrap (G:Int)=G:=Ql _ ZO;have u3:IntKind.i64.wrap ((H:Int)+1-1)=(H:Int):=by rw [Sa];exact u1
  have u4:IntKind.i64.wrap ((G:Int)+1-1)=(G:Int):=by rw [Sa];exact u2
  go_enter func163,ntmps163;go_wp2;refine jP 0 rfl (λQ1 D=>?_);go_wp2_with (first
  |(go_at_call 103;apply L.o.mono;rintro e w2 z;obtain ⟨a',n',c',rfl⟩:=z.shape;have k:=O8 z;have f:=O8 z.ag;clear z)
  |(go_at_call 162;with_reducible refine (l.o _ f.o).mono ?_;rintro e I ⟨rfl,rfl⟩)
  |(go_at_call 162;with_reducible refine (p.o _ f.o).mono ?_;rintro e I ⟨rfl,rfl⟩)
  |(go_at_call 180;refine (K.o _ f.o).mono ?_;rintro e I ⟨rfl,i⟩;have f:=O8 (af f.o i);have k:=O8 (k.o.later i);clear i)
  |(go_at_call 181;refine (J.o _ f.o).mono ?_;rintro e I ⟨rfl,rfl⟩)
  |(go_at_call 182;with_reducible refine (q.o _ f.o).mono ?_;rintro e I ⟨rfl,i⟩;have f:=O8 (af f.o i);have k:=O8 (k.o.later i);clear i)
  |(go_at_call 182;with_reducible refine (r.o _ f.o).mono ?_;rintro e I ⟨rfl,i⟩;have f:=O8 (af f.o i);have k:=O8 (k.o.later i);clear i))
  all_goals first
   |(go_step3
     change Q1 (Exit.goto 0) _ _;refine D.o.1 _ _ ?_;go_light;go_wp2;go_ret;first
      |(refine EM f.o ?_;have N:=j.o;clear j s t f k;(try clear L);(try clear l);(try clear p);(try clear K);(try clear J);(try clear q);(try clear r);(try clear u);(try clear v);(try clear D);simp_all;done)
      |(refine jB s.o f.o ?_;have N:=j.o;clear j s t f k;(try clear L);(try clear l);(try clear p);(try clear K);(try clear J);(try clear q);(try clear r);(try clear u);(try clear v);(try clear D);simp_all;done)
      |(refine jB t.o f.o ?_;have N:=j.o;clear j s t f k;(try clear L);(try clear l);(try clear p);(try clear K);(try clear J);(try clear q);(try clear r);(try clear u);(try clear v);(try clear D);simp_all;done))
   |skip
  have f:=O8 f.o.drew;go_region_held3 (λW=>Hid (BW w W))
   (first|assumption|exact O8 (jd (Hid.o (by assumption)) _))
   (first
    |(go_at_call 103;refine (u.o _ f.o).mono ?_;clear u;rintro e w5 z;obtain ⟨a5,n5,c5,rfl⟩:=z.shape;have k:=O8 (aL.from f.o z);have f:=O8 k.o.ag;clear z)
    |(go_at_call 103;refine (v.o _ _ _ _ k.o.fa.1).mono ?_;rintro e w6 z;obtain ⟨a6,n6,c6,rfl⟩:=z.shape;have k:=O8 (aL.from f.o z);have f:=O8 k.o.ag;clear z))
  go_wp2;go_step3;go_wp2;refine D.o.2.1 _ _ ?_;go_light;go_ret;rw [show R=Fm.cy (Fm.or A B)from by have N:=j.o;clear j s t f k;(try clear L);(try clear l);(try clear p);(try clear K);(try clear J);(try clear q);(try clear r);(try clear u);(try clear v);(try clear D);simp_all];exact k.o
 ·have T:Hid (Fm.mK false x y=Fm.or x y):=zm (c:=false) Q;rw [HR.o,T.o]
  clear E F O P HR T;generalize (Fm.aH x).1=ox at *;generalize (Fm.aH y).1=oy at *;generalize Fm.same x y=p1 at *;generalize Fm.kf x y=p2 at *;generalize Fm.has true y x=p3 at *;generalize Fm.has true x y=p4 at *;have⟨R,M⟩:=EX ((if(ox==1)||(oy==1)then Fm.tt else if(ox==2)then y else if(oy==2)||p1 then x else if p2 then Fm.tt else if p3 then x else if p4 then y else Fm.or x y));rw [M];have j:=O8 M;clear M;have h9:(ox==8&&oy==8)=false:=ZX Q;have ae:ox=8->(oy==8)=false:=ZX Q;go_enter func163,ntmps163;go_wp2;refine jP 0 rfl (λQ1 D=>?_);go_wp2_with (first
  |(go_at_call 103;apply L.o.mono;rintro e w2 z;obtain ⟨a',n',c',rfl⟩:=z.shape;have k:=O8 z;have f:=O8 z.ag;clear z)
  |(go_at_call 162;with_reducible refine (l.o _ f.o).mono ?_;rintro e I ⟨rfl,rfl⟩)
  |(go_at_call 162;with_reducible refine (p.o _ f.o).mono ?_;rintro e I ⟨rfl,rfl⟩)
  |(go_at_call 180;refine (K.o _ f.o).mono ?_;rintro e I ⟨rfl,i⟩;have f:=O8 (af f.o i);have k:=O8 (k.o.later i);clear i)
  |(go_at_call 181;refine (J.o _ f.o).mono ?_;rintro e I ⟨rfl,rfl⟩)
  |(go_at_call 182;with_reducible refine (q.o _ f.o).mono ?_;rintro e I ⟨rfl,i⟩;have f:=O8 (af f.o i);have k:=O8 (k.o.later i);clear i)
  |(go_at_call 182;with_reducible refine (r.o _ f.o).mono ?_;rintro e I ⟨rfl,i⟩;have f:=O8 (af f.o i);have k:=O8 (k.o.later i);clear i))
  all_goals first
   |(go_step3
     change Q1 (Exit.goto 0) _ _;refine D.o.1 _ _ ?_;go_light;go_wp2;go_ret;first
      |(refine EM f.o ?_;have N:=j.o;clear j s t f k;(try clear L);(try clear l);(try clear p);(try clear K);(try clear J);(try clear q);(try clear r);(try clear u);(try clear v);(try clear D);simp_all;done)
      |(refine jB s.o f.o ?_;have N:=j.o;clear j s t f k;(try clear L);(try clear l);(try clear p);(try clear K);(try clear J);(try clear q);(try clear r);(try clear u);(try clear v);(try clear D);simp_all;done)
      |(refine jB t.o f.o ?_;have N:=j.o;clear j s t f k;(try clear L);(try clear l);(try clear p);(try clear K);(try clear J);(try clear q);(try clear r);(try clear u);(try clear v);(try clear D);simp_all;done))
   |skip
  all_goals
   go_step3
   go_wp2
   refine D.o.2.1 _ _ ?_
   go_light
   go_ret
   rw [show R=Fm.or x y from by have N:=j.o;clear j s t f k;(try clear L);(try clear l);(try clear p);(try clear K);(try clear J);(try clear q);(try clear r);(try clear u);(try clear v);(try clear D);simp_all]
   exact k.o
def Sv:=@Go.rounds_succ
def Uz:=@Go.wp_loop_rounds
def FU{y}(h:(Fm.aH y).1=9)(x):∃l q,Fm.gj l q y/\Fm.again false x y=Fm.same l x:=by
 cases y<;>simp [Fm.aH]at h
 exact ⟨_,_,.dA,by simp [Fm.again]⟩
def FT{y}(h:(Fm.aH y).1=10)(x):∃l q,Fm.gj l q y/\Fm.again true x y=Fm.same l x:=by
 cases y<;>simp [Fm.aH]at h
 exact ⟨_,_,.rel,by simp [Fm.again]⟩
def FR{y}(h:¬(Fm.aH y).1=9)(x):Fm.again false x y=false:=by cases y<;>first|rfl|exact absurd rfl h
def FQ{y}(h:¬(Fm.aH y).1=10)(x):Fm.again true x y=false:=by cases y<;>first|rfl|exact absurd rfl h
def GJ(a n c b m d x y w)(I:FA w a n x)(A:FA w b m y)(E:eh y)(hn:n+m<=100000)(T:m<=d)(M:d<=maxLen)(S)(O:∀g o,b=some (AD g o)->S g):
 CL 164 #[IV 9,SL a n c,SL b m d] w (aL w S (Fm.eL false x y)):=by
 have k:Hid (∀W,BW w W->CL 137 #[SL b m d] W λe B=>e=RT (.bool (Fm.jD y||Fm.jC y))/\B=W):=λW f=>wE b m d y W (A.ag f) ZO
 have p:Hid (∀W,BW w W->CL 162 #[SL a n c] W λe B=>e=RT (IV (Fm.aH x).1)/\B=W):=λW f=>kZ a n c x W (I.ag f) ZO
 have j:Hid (∀W,BW w W->CL 162 #[SL b m d] W λe B=>e=RT (IV (Fm.aH y).1)/\B=W):=λW f=>kZ b m d y W (A.ag f) ZO
 have G:Hid (∀W,BW w W->CL 180 #[SL a n c,SL b m d] W λe B=>e=RT (.bool (Fm.same x y))/\BW W B):=λW f=>jm a n c x b m d y W (I.ag f) (A.ag f) ZO ZO
 have H:Hid (∀W,BW w W->CL 103 #[IV 9,SV W.heap.size 2 2] (W.alloc (CE #[SL a n c,SL b m d] 148)) (aL W S (Fm.dA x y))):=λW f=>hH Fm.gj.dA a n c b m d W (I.ag f) (A.ag f) ZO
 have r:Hid (∀W,BW w W->aL w S y (RT (SL b m d)) W):=λW f=>aL.MK A T M O f
 have h:Hid (BW w w):=Pn _ _
 have C:Hid (Fm.jC x=((Fm.aH x).1==2)):=lF x
 by_cases t:(Fm.aH y).1=9
 ·have⟨l,q,N,z⟩:=FU t x;have X:=N.size
  have Q:=A.size;obtain ⟨K,L,rfl,-⟩:=A.at (Fm.cP _);have F:Hid (∀W,BW w W->CL 183 #[SL (some (AD K L)) m d] W λe B=>e=RT (.tuple #[SL (some (AD K L)) (Fm.size l) d,SL (some (AD K (L+Fm.size l*2))) (Fm.size q) (d-Fm.size l)])/\BW W B):=λW f=>lP K L m d y l q W (A.ag f) N E ZO T M;have s:Hid (∀W,BW w W->CL 180 #[SL (some (AD K L)) (Fm.size l) d,SL a n c] W λe B=>e=RT (.bool (Fm.same l x))/\BW W B):=λW f=>jm _ _ d l a n c x W ((A.aQ N).1.ag f) (I.ag f) ZO ZO;have⟨R,v⟩:=EX (Fm.eL false x y);rw [v];unfold Fm.eL at v;rw [show Fm.Gj false x=Fm.jC x from rfl,C.o,z]at v;rw [t]at j;have i:Hid ((if(Fm.jD y||Fm.jC y||((Fm.aH x).1==2)||Fm.same x y)=true then y else if Fm.same l x=true then y else Fm.dA x y)=R):=v;clear v I A E C N t X Q z;generalize (Fm.jD y||Fm.jC y)=p1 at *;generalize (Fm.aH x).1=Z at *;generalize Fm.same x y=p2 at *;generalize Fm.same l x=p3 at *;generalize Fm.size l=sl at *;generalize Fm.size q=sq at *;go_enter func164,ntmps164;go_wp2_with (first
   |(go_at_call 137;refine (k.o _ h.o).mono ?_;rintro e u ⟨rfl,rfl⟩)
   |(go_at_call 162;with_reducible refine (p.o _ h.o).mono ?_;rintro e u ⟨rfl,rfl⟩)
   |(go_at_call 162;with_reducible refine (j.o _ h.o).mono ?_;rintro e u ⟨rfl,rfl⟩)
   |(go_at_call 183;refine (F.o _ h.o).mono ?_;rintro e u ⟨rfl,f⟩;have h:=O8 (af h.o f);clear f)
   |(go_at_call 180;with_reducible refine (G.o _ h.o).mono ?_;rintro e u ⟨rfl,f⟩;have h:=O8 (af h.o f);clear f)
   |(go_at_call 180;with_reducible refine (s.o _ h.o).mono ?_;rintro e u ⟨rfl,f⟩;have h:=O8 (af h.o f);clear f)
   |(go_at_call 103;refine (H.o _ h.o).mono ?_;rintro e u D;obtain ⟨U,Y,V,rfl⟩:=D.shape;have J:=O8 (aL.from h.o D);clear D))
  all_goals
   go_ret
   first
    |(refine jB r.o h.o ?_;have P:=i.o;clear i r h;(try clear k);(try clear p);(try clear j);(try clear G);(try clear s);(try clear F);(try clear H);simp_all;done)
    |(rw [show R=Fm.dA x y from by have P:=i.o;clear i r h J;(try clear k);(try clear p);(try clear j);(try clear G);(try clear s);(try clear F);(try clear H);simp_all]
      exact J.o)
 ·have z:Fm.again false x y=false:=FR t x;have⟨R,v⟩:=EX (Fm.eL false x y)
  rw [v];unfold Fm.eL at v;rw [show Fm.Gj false x=Fm.jC x from rfl,C.o,z]at v;have i:Hid ((if(Fm.jD y||Fm.jC y||((Fm.aH x).1==2)||Fm.same x y)=true then y else Fm.dA x y)=R):=by show _=_;rw [<-v];simp only [Qr,RI];rfl
  have t0:((Fm.aH y).1==9)=false:=Pq.2 t;clear v I A E C z t;generalize (Fm.jD y||Fm.jC y)=p1 at *;generalize (Fm.aH x).1=Z at *;generalize (Fm.aH y).1=oy at *;generalize Fm.same x y=p2 at *;go_enter func164,ntmps164;go_wp2_with (first
   |(go_at_call 137;refine (k.o _ h.o).mono ?_;rintro e u ⟨rfl,rfl⟩)
   |(go_at_call 162;with_reducible refine (p.o _ h.o).mono ?_;rintro e u ⟨rfl,rfl⟩)
   |(go_at_call 162;with_reducible refine (j.o _ h.o).mono ?_;rintro e u ⟨rfl,rfl⟩)
   |(go_at_call 183;refine (F.o _ h.o).mono ?_;rintro e u ⟨rfl,f⟩;have h:=Lib.hid (af h.o f);clear f)
   |(go_at_call 180;with_reducible refine (G.o _ h.o).mono ?_;rintro e u ⟨rfl,f⟩;have h:=O8 (af h.o f);clear f)
   |(go_at_call 180;with_reducible refine (s.o _ h.o).mono ?_;rintro e u ⟨rfl,f⟩;have h:=Lib.hid (af h.o f);clear f)
   |(go_at_call 103;refine (H.o _ h.o).mono ?_;rintro e u D;obtain ⟨U,Y,V,rfl⟩:=D.shape;have J:=O8 (aL.from h.o D);clear D))
  all_goals
   go_ret
   first
    |(refine jB r.o h.o ?_;have P:=i.o;clear i r h;(try clear k);(try clear p);(try clear j);(try clear G);(try clear s);(try clear F);(try clear H);simp_all;done)
    |(rw [show R=Fm.dA x y from by have P:=i.o;clear i r h J;(try clear k);(try clear p);(try clear j);(try clear G);(try clear s);(try clear F);(try clear H);simp_all]
      exact J.o)
def GH(a n c b m d x y w)(I:FA w a n x)(A:FA w b m y)(E:eh y)(hn:n+m<=100000)(T:m<=d)(M:d<=maxLen)(S)(O:∀g o,b=some (AD g o)->S g):
 CL 164 #[IV 10,SL a n c,SL b m d] w (aL w S (Fm.eL true x y)):=by
 have k:Hid (∀W,BW w W->CL 137 #[SL b m d] W λe B=>e=RT (.bool (Fm.jD y||Fm.jC y))/\B=W):=λW f=>wE b m d y W (A.ag f) ZO
 have p:Hid (∀W,BW w W->CL 162 #[SL a n c] W λe B=>e=RT (IV (Fm.aH x).1)/\B=W):=λW f=>kZ a n c x W (I.ag f) ZO
 have j:Hid (∀W,BW w W->CL 162 #[SL b m d] W λe B=>e=RT (IV (Fm.aH y).1)/\B=W):=λW f=>kZ b m d y W (A.ag f) ZO
 have G:Hid (∀W,BW w W->CL 180 #[SL a n c,SL b m d] W λe B=>e=RT (.bool (Fm.same x y))/\BW W B):=λW f=>jm a n c x b m d y W (I.ag f) (A.ag f) ZO ZO
 have H:Hid (∀W,BW w W->CL 103 #[IV 10,SV W.heap.size 2 2] (W.alloc (CE #[SL a n c,SL b m d] 148)) (aL W S (Fm.rel x y))):=λW f=>hH Fm.gj.rel a n c b m d W (I.ag f) (A.ag f) ZO
 have r:Hid (∀W,BW w W->aL w S y (RT (SL b m d)) W):=λW f=>aL.MK A T M O f
 have h:Hid (BW w w):=Pn _ _
 have C:Hid (Fm.jD x=((Fm.aH x).1==1)):=lG x
 by_cases t:(Fm.aH y).1=10
 ·have⟨l,q,N,z⟩:=FT t x;have X:=N.size
  have Q:=A.size;obtain ⟨K,L,rfl,-⟩:=A.at (Fm.cP _);have F:Hid (∀W,BW w W->CL 183 #[SL (some (AD K L)) m d] W λe B=>e=RT (.tuple #[SL (some (AD K L)) (Fm.size l) d,SL (some (AD K (L+Fm.size l*2))) (Fm.size q) (d-Fm.size l)])/\BW W B):=λW f=>lP K L m d y l q W (A.ag f) N E ZO T M;have s:Hid (∀W,BW w W->CL 180 #[SL (some (AD K L)) (Fm.size l) d,SL a n c] W λe B=>e=RT (.bool (Fm.same l x))/\BW W B):=λW f=>jm _ _ d l a n c x W ((A.aQ N).1.ag f) (I.ag f) ZO ZO;have⟨R,v⟩:=EX (Fm.eL true x y);rw [v];unfold Fm.eL at v;rw [show Fm.Gj true x=Fm.jD x from rfl,C.o,z]at v;rw [t]at j;have i:Hid ((if(Fm.jD y||Fm.jC y||((Fm.aH x).1==1)||Fm.same x y)=true then y else if Fm.same l x=true then y else Fm.rel x y)=R):=v;clear v I A E C N t X Q z;generalize (Fm.jD y||Fm.jC y)=p1 at *;generalize (Fm.aH x).1=Z at *;generalize Fm.same x y=p2 at *;generalize Fm.same l x=p3 at *;generalize Fm.size l=sl at *;generalize Fm.size q=sq at *;go_enter func164,ntmps164;go_wp2_with (first
   |(go_at_call 137;refine (k.o _ h.o).mono ?_;rintro e u ⟨rfl,rfl⟩)
   |(go_at_call 162;with_reducible refine (p.o _ h.o).mono ?_;rintro e u ⟨rfl,rfl⟩)
   |(go_at_call 162;with_reducible refine (j.o _ h.o).mono ?_;rintro e u ⟨rfl,rfl⟩)
   |(go_at_call 183;refine (F.o _ h.o).mono ?_;rintro e u ⟨rfl,f⟩;have h:=O8 (af h.o f);clear f)
   |(go_at_call 180;with_reducible refine (G.o _ h.o).mono ?_;rintro e u ⟨rfl,f⟩;have h:=O8 (af h.o f);clear f)
   |(go_at_call 180;with_reducible refine (s.o _ h.o).mono ?_;rintro e u ⟨rfl,f⟩;have h:=O8 (af h.o f);clear f)
   |(go_at_call 103;refine (H.o _ h.o).mono ?_;rintro e u D;obtain ⟨U,Y,V,rfl⟩:=D.shape;have J:=O8 (aL.from h.o D);clear D))
  all_goals
   go_ret
   first
    |(refine jB r.o h.o ?_;have P:=i.o;clear i r h;(try clear k);(try clear p);(try clear j);(try clear G);(try clear s);(try clear F);(try clear H);simp_all;done)
    |(rw [show R=Fm.rel x y from by have P:=i.o;clear i r h J;(try clear k);(try clear p);(try clear j);(try clear G);(try clear s);(try clear F);(try clear H);simp_all]
      exact J.o)
 ·have z:Fm.again true x y=false:=FQ t x;have⟨R,v⟩:=EX (Fm.eL true x y)
  rw [v];unfold Fm.eL at v;rw [show Fm.Gj true x=Fm.jD x from rfl,C.o,z]at v;have i:Hid ((if(Fm.jD y||Fm.jC y||((Fm.aH x).1==1)||Fm.same x y)=true then y else Fm.rel x y)=R):=by show _=_;rw [<-v];simp only [Qr,RI];rfl
  have t0:((Fm.aH y).1==10)=false:=Pq.2 t;clear v I A E C z t;generalize (Fm.jD y||Fm.jC y)=p1 at *;generalize (Fm.aH x).1=Z at *;generalize (Fm.aH y).1=oy at *;generalize Fm.same x y=p2 at *;go_enter func164,ntmps164;go_wp2_with (first
   |(go_at_call 137;refine (k.o _ h.o).mono ?_;rintro e u ⟨rfl,rfl⟩)
   |(go_at_call 162;with_reducible refine (p.o _ h.o).mono ?_;rintro e u ⟨rfl,rfl⟩)
   |(go_at_call 162;with_reducible refine (j.o _ h.o).mono ?_;rintro e u ⟨rfl,rfl⟩)
   |(go_at_call 183;refine (F.o _ h.o).mono ?_;rintro e u ⟨rfl,f⟩;have h:=Lib.hid (af h.o f);clear f)
   |(go_at_call 180;with_reducible refine (G.o _ h.o).mono ?_;rintro e u ⟨rfl,f⟩;have h:=O8 (af h.o f);clear f)
   |(go_at_call 180;with_reducible refine (s.o _ h.o).mono ?_;rintro e u ⟨rfl,f⟩;have h:=Lib.hid (af h.o f);clear f)
   |(go_at_call 103;refine (H.o _ h.o).mono ?_;rintro e u D;obtain ⟨U,Y,V,rfl⟩:=D.shape;have J:=O8 (aL.from h.o D);clear D))
  all_goals
   go_ret
   first
    |(refine jB r.o h.o ?_;have P:=i.o;clear i r h;(try clear k);(try clear p);(try clear j);(try clear G);(try clear s);(try clear F);(try clear H);simp_all;done)
    |(rw [show R=Fm.rel x y from by have P:=i.o;clear i r h J;(try clear k);(try clear p);(try clear j);(try clear G);(try clear s);(try clear F);(try clear H);simp_all]
      exact J.o)
def EF(w:WD)(g:Nat):Prop:=w.cell? (AD g 0)=some (IV 5)/\w.cell? (AD g 1)=some (.func (.func 163) #[] #[])/\w.cell? (AD g 2)=some (IV 6)/\w.cell? (AD g 3)=some (.func (.func 163) #[] #[])/\
 w.cell? (AD g 4)=some (IV 9)/\w.cell? (AD g 5)=some (.func (.func 164) #[] #[])/\w.cell? (AD g 6)=some (IV 10)/\w.cell? (AD g 7)=some (.func (.func 164) #[] #[])
def He(w):CL 138 #[] w λe a=>∃g,e=RT (SV g 4 4)/\BW w a/\EF a g:=by
 have b:Hid (∀W,W=w.alloc (.cells #[IV 5,.func (.func 163) #[] #[],IV 6,.func (.func 163) #[] #[],IV 9,.func (.func 164) #[] #[],IV 10,.func (.func 164) #[] #[]] 188)->BW w W/\EF W w.heap.size):=by rintro W rfl;exact ⟨(Pn _ w).alloc (Pf _) _,Py (w:=w) _ 188 w.heap.size 0 rfl,Py (w:=w) _ 188 w.heap.size 1 rfl,Py (w:=w) _ 188 w.heap.size 2 rfl,Py (w:=w) _ 188 w.heap.size 3 rfl,Py (w:=w) _ 188 w.heap.size 4 rfl,Py (w:=w) _ 188 w.heap.size 5 rfl,Py (w:=w) _ 188 w.heap.size 6 rfl,Py (w:=w) _ 188 w.heap.size 7 rfl⟩
 go_enter func138,ntmps138;go_wp2;go_ret;exact ⟨_,rfl,b.o _ rfl⟩
def CX(a:Int)(x y:Fm):Fm:=if a=5 then Fm.gq true x y else if a=6 then Fm.gq false x y else if a=9 then Fm.eL false x y else Fm.eL true x y
def L5(z)(aa:z=5\/z=6\/z=9\/z=10)(a n c b m d x y w)(T:FA w a n x)(U:FA w b m y)(M:eh x)(G:eh y)(X:n+m<=100000)(hc:n<=c)(Q:c<=maxLen)(V:m<=d)(I:d<=maxLen)(S)(L:∀g o,a=some (AD g o)->S g)(F:∀g o,b=some (AD g o)->S g):
 CL 105 #[IV z,SL a n c,SL b m d] w (aL w S (CX z x y)):=by
 have l:Hid (∀W,BW w W->(z=5\/z=6)->CL 163 #[IV z,SL a n c,SL b m d] W (aL W S (CX z x y))):=by
  rintro W k (rfl|rfl)
  ·exact BK a n c b m d x y W (T.ag k) (U.ag k) M G X hc Q V I S L F
  ·exact Dr a n c b m d x y W (T.ag k) (U.ag k) M G X hc Q V I S L F
 have p:Hid (∀W,BW w W->(z=9\/z=10)->CL 164 #[IV z,SL a n c,SL b m d] W (aL W S (CX z x y))):=by
  rintro W k (rfl|rfl)
  ·exact GJ a n c b m d x y W (T.ag k) (U.ag k) G X V I S F
  ·exact GH a n c b m d x y W (T.ag k) (U.ag k) G X V I S F
 have B:Hid (∀W Y e,BW w W->aL W S (CX z x y) e Y->aL w S (CX z x y) e Y):=λW Y e k h=>aL.from k h
 have i:Hid (BW w w):=Pn _ _
 have q:Hid (∀W o,BW w W->BW w (W.alloc o)):=λW o h=>jd h o
 clear T U M G L F
 generalize CX z x y=R at *
 have H:=λW=>O8 (He W)
 obtain rfl|rfl|rfl|rfl:=aa
 ·have J:=λW k=>O8 (l.o W k (.inl rfl));clear l p
  go_enter func105,ntmps105;go_wp2_with (go_at_call 138;refine (H _).o.mono ?_;rintro e j ⟨g,rfl,k,O,P,C,D,t,u,r,s⟩;have i:=O8 k;clear k);refine Uz 4 ?_;rw [Sv];have i:=O8 (q.o _ (.cells #[IV 5,.func (.func 163) #[] #[]] 188) i.o);go_wp2_with (go_at_call 163;refine (J _ i.o).o.mono ?_;rintro e w9 A;obtain ⟨Z,n',c',rfl⟩:=A.shape;have K:=O8 (B.o _ _ _ i.o A);clear A);go_ret;exact K.o
 ·have J:=λW k=>O8 (l.o W k (.inr rfl));clear l p
  go_enter func105,ntmps105;go_wp2_with (go_at_call 138;refine (H _).o.mono ?_;rintro e j ⟨g,rfl,k,O,P,C,D,t,u,r,s⟩;have i:=O8 k;clear k);refine Uz 4 ?_;rw [Sv];go_wp2;have E:=O8 (q.o _ (.cells #[IV 5,.func (.func 163) #[] #[]] 188) i.o);have f:BW j (j.alloc (.cells #[IV 5,.func (.func 163) #[] #[]] 188)):=(Pn _ _).alloc (Pf _) _;replace C:=(f.cell (O9 j _ C)).trans C;replace D:=(f.cell (O9 j _ D)).trans D;replace t:=(f.cell (O9 j _ t)).trans t;replace u:=(f.cell (O9 j _ u)).trans u;replace r:=(f.cell (O9 j _ r)).trans r;replace s:=(f.cell (O9 j _ s)).trans s;clear i f O P;generalize j.alloc (.cells #[IV 5,.func (.func 163) #[] #[]] 188)=v at *;have i:=O8 E.o;rw [Sv];have i:=O8 (q.o _ (.cells #[IV 6,.func (.func 163) #[] #[]] 188) i.o);go_wp2_with (go_at_call 163;refine (J _ i.o).o.mono ?_;rintro e w9 A;obtain ⟨Z,n',c',rfl⟩:=A.shape;have K:=O8 (B.o _ _ _ i.o A);clear A);go_ret;exact K.o
 ·have J:=λW k=>O8 (p.o W k (.inl rfl));clear l p
  go_enter func105,ntmps105;go_wp2_with (go_at_call 138;refine (H _).o.mono ?_;rintro e j ⟨g,rfl,k,O,P,C,D,t,u,r,s⟩;have i:=O8 k;clear k);refine Uz 4 ?_;rw [Sv];go_wp2;have E:=O8 (q.o _ (.cells #[IV 5,.func (.func 163) #[] #[]] 188) i.o);have f:BW j (j.alloc (.cells #[IV 5,.func (.func 163) #[] #[]] 188)):=(Pn _ _).alloc (Pf _) _;replace C:=(f.cell (O9 j _ C)).trans C;replace D:=(f.cell (O9 j _ D)).trans D;replace t:=(f.cell (O9 j _ t)).trans t;replace u:=(f.cell (O9 j _ u)).trans u;replace r:=(f.cell (O9 j _ r)).trans r;replace s:=(f.cell (O9 j _ s)).trans s;clear i f O P;generalize j.alloc (.cells #[IV 5,.func (.func 163) #[] #[]] 188)=v at *;have i:=O8 E.o;rw [Sv];go_wp2;have E:=O8 (q.o _ (.cells #[IV 6,.func (.func 163) #[] #[]] 188) i.o);have f:BW v (v.alloc (.cells #[IV 6,.func (.func 163) #[] #[]] 188)):=(Pn _ _).alloc (Pf _) _;replace t:=(f.cell (O9 v _ t)).trans t;replace u:=(f.cell (O9 v _ u)).trans u;replace r:=(f.cell (O9 v _ r)).trans r;replace s:=(f.cell (O9 v _ s)).trans s;clear i f C D;generalize v.alloc (.cells #[IV 6,.func (.func 163) #[] #[]] 188)=N at *;have i:=O8 E.o;rw [Sv];have i:=O8 (q.o _ (.cells #[IV 9,.func (.func 164) #[] #[]] 188) i.o);go_wp2_with (go_at_call 164;refine (J _ i.o).o.mono ?_;rintro e w9 A;obtain ⟨Z,n',c',rfl⟩:=A.shape;have K:=O8 (B.o _ _ _ i.o A);clear A);go_ret;exact K.o
 ·have J:=λW k=>O8 (p.o W k (.inr rfl));clear l p
  go_enter func105,ntmps105;go_wp2_with (go_at_call 138;refine (H _).o.mono ?_;rintro e j ⟨g,rfl,k,O,P,C,D,t,u,r,s⟩;have i:=O8 k;clear k);refine Uz 4 ?_;rw [Sv];go_wp2;have E:=O8 (q.o _ (.cells #[IV 5,.func (.func 163) #[] #[]] 188) i.o);have f:BW j (j.alloc (.cells #[IV 5,.func (.func 163) #[] #[]] 188)):=(Pn _ _).alloc (Pf _) _;replace C:=(f.cell (O9 j _ C)).trans C;replace D:=(f.cell (O9 j _ D)).trans D;replace t:=(f.cell (O9 j _ t)).trans t;replace u:=(f.cell (O9 j _ u)).trans u;replace r:=(f.cell (O9 j _ r)).trans r;replace s:=(f.cell (O9 j _ s)).trans s;clear i f O P;generalize j.alloc (.cells #[IV 5,.func (.func 163) #[] #[]] 188)=v at *;have i:=O8 E.o;rw [Sv];go_wp2;have E:=O8 (q.o _ (.cells #[IV 6,.func (.func 163) #[] #[]] 188) i.o);have f:BW v (v.alloc (.cells #[IV 6,.func (.func 163) #[] #[]] 188)):=(Pn _ _).alloc (Pf _) _;replace t:=(f.cell (O9 v _ t)).trans t;replace u:=(f.cell (O9 v _ u)).trans u;replace r:=(f.cell (O9 v _ r)).trans r;replace s:=(f.cell (O9 v _ s)).trans s;clear i f C D;generalize v.alloc (.cells #[IV 6,.func (.func 163) #[] #[]] 188)=N at *;have i:=O8 E.o;rw [Sv];go_wp2;have E:=O8 (q.o _ (.cells #[IV 9,.func (.func 164) #[] #[]] 188) i.o);have f:BW N (N.alloc (.cells #[IV 9,.func (.func 164) #[] #[]] 188)):=(Pn _ _).alloc (Pf _) _;replace r:=(f.cell (O9 N _ r)).trans r;replace s:=(f.cell (O9 N _ s)).trans s;clear i f t u;generalize N.alloc (.cells #[IV 9,.func (.func 164) #[] #[]] 188)=w4 at *;have i:=O8 E.o;rw [Sv];have i:=O8 (q.o _ (.cells #[IV 10,.func (.func 164) #[] #[]] 188) i.o);go_wp2_with (go_at_call 164;refine (J _ i.o).o.mono ?_;rintro e w9 A;obtain ⟨Z,n',c',rfl⟩:=A.shape;have K:=O8 (B.o _ _ _ i.o A);clear A);go_ret;exact K.o
end Go.Proofs.YtimniinkpipnmaaGreatDoor
namespace Go.Own
open Fm
def Sb:=@List.mem_singleton
def SA:=@Classical.choose_spec
def TM:=@List.getElem?_eq_some_iff
structure dk where
 need:Nat
 ban:Nat
 inn:Nat
 tO:List Nat
structure Au where
 sets:Nat
 aP:List Nat
 ak:List dk
def dk.zero:dk:=⟨0,0,0,[]⟩
def Au.ay(A:Au)(n:Nat):dk:=A.ak.getD n dk.zero
def jI(a b v:Nat):Prop:=∀k,(a.testBit k=true->v.testBit k=true)/\(b.testBit k=true->v.testBit k=false)
structure OD (A:Au) (u r:Nat->Nat):Prop where
 aM:r 0∈A.aP
 lt:∀i,r i<A.ak.length
 step:∀i,r (i+1)∈(A.ay (r i)).tO
 rd:∀i,jI (A.ay (r i)).need (A.ay (r i)).ban (u i)
 r7:∀s,s<A.sets->∀i,∃j,i<=j/\(A.ay (r j)).inn.testBit s=true
def lY(A:Au)(u:Nat->Nat):Prop:=∃r,OD A u r
structure Mi where
 need:Nat
 ban:Nat
 next:List Nat
 bw:List Nat
def At(f:Fm)(p:Nat)(x:Fm):Prop:=(aI f)[p]? =some x
def Tr(u:Nat->Nat)(f:Fm)(i p:Nat):Prop:=∃x,At f p x/\cR u x i
structure It (f:Fm) (c:Mi):Prop where
 ff:∀p∈c.bw,¬At f p ff
 prop:∀p∈c.bw,∀n,At f p (prop n)->c.need.testBit n=true
 neg:∀p∈c.bw,∀n,At f p (neg (Fm.prop n))->c.ban.testBit n=true
 and:∀p∈c.bw,∀a b,At f p (Fm.and a b)->p-1∈c.bw/\p-1-size b∈c.bw
 or:∀p∈c.bw,∀a b,At f p (Fm.or a b)->p-1∈c.bw\/p-1-size b∈c.bw
 cy:∀p∈c.bw,∀a,At f p (Fm.cy a)->p-1∈c.next
 dA:∀p∈c.bw,∀a b,At f p (Fm.dA a b)->p-1∈c.bw\/(p-1-size b∈c.bw/\p∈c.next)
 rel:∀p∈c.bw,∀a b,At f p (Fm.rel a b)->p-1∈c.bw/\(p-1-size b∈c.bw\/p∈c.next)
structure vP (u:Nat->Nat) (f:Fm) (i:Nat) (c:Mi):Prop where
 rd:jI c.need c.ban (u i)
 next:∀p∈c.next,Tr u f (i+1) p
 bw:∀p∈c.bw,Tr u f i p
 dA:∀p∈c.bw,∀a b,At f p (Fm.dA a b)->cR u b i->p-1∈c.bw
structure Db (f:Fm) (aQ:List Nat) (L:Mi->Prop):Prop where
 ok:∀c,L c->It f c/\∀p∈aQ,p∈c.bw
 all:∀u i,(∀p∈aQ,Tr u f i p)->∃c,L c/\vP u f i c
structure kF (f:Fm) (A:Au)where
 pT:Nat->Mi
 L:List Nat->Mi->Prop
 oY:∀aQ,(∀p∈aQ,p<size f)->Db f aQ (L aQ)
 A0:∀n,n<A.ak.length->∀p∈(pT n).next,p<size f
 need:∀n,n<A.ak.length->(A.ay n).need=(pT n).need
 ban:∀n,n<A.ak.length->(A.ay n).ban=(pT n).ban
 Jk:∀n∈A.aP,n<A.ak.length
 Oo:∀n,n<A.ak.length->∀m∈(A.ay n).tO,m<A.ak.length
 aP:∀n∈A.aP,L [size f-1] (pT n)
 tO:∀n,n<A.ak.length->∀m∈(A.ay n).tO,L (pT n).next (pT m)
 ir:∀c,L [size f-1] c->∃n∈A.aP,pT n=c
 nQ:∀n,n<A.ak.length->∀c,L (pT n).next c->∃m∈(A.ay n).tO,pT m=c
 yg:Nat->Nat
 dA:∀p a b,At f p (Fm.dA a b)->∃s,s<A.sets/\yg s=p
 Mp:∀s,s<A.sets->∃a b,At f (yg s) (Fm.dA a b)
 inn:∀n,n<A.ak.length->∀s,s<A.sets->((A.ay n).inn.testBit s=true↔(yg s∉(pT n).bw\/yg s-1∈(pT n).bw))
theorem At.inj{f p x y}(h:At f p x)(k:At f p y):x=y:=by unfold At at h k;rw [h]at k;exact Option.some.inj k
theorem At.lt{f p x}(h:At f p x):p<size f:=by unfold At at h;exact (TM.1 h).1
theorem Tr.cR{u f i p x}(h:Tr u f i p)(a:At f p x):cR u x i:=by obtain ⟨y,b,h⟩:=h;rw [a.inj b];exact h
theorem Hu{f A}(T:kF f A){u r}(R:OD A u r)
 (v:∀p x,At f p x->gR x):∀x p i,At f p x->p∈(T.pT (r i)).bw->cR u x i:=by
 have d:∀i,It f (T.pT (r i)):=by
  intro i;rcases i with _|i
  ·exact ((T.oY [size f-1] (λp g=>by rw [Sb]at g;have:=br f;omega)).ok _ (T.aP _ R.aM)).1
  ·exact ((T.oY _ (T.A0 _ (R.lt i))).ok _ (T.tO _ (R.lt i) _ (R.step i))).1
 have q:∀i p,p∈(T.pT (r i)).next->p∈(T.pT (r (i+1))).bw:=λi p g=>
  ((T.oY _ (T.A0 _ (R.lt i))).ok _ (T.tO _ (R.lt i) _ (R.step i))).2 p g
 intro x
 induction x with
 |tt=>intro p i _ _;trivial
 |ff=>intro p i h g;exact absurd h ((d i).ff p g)
 |prop n=>
  intro p i h g
  have c:=(d i).prop p g n h
  have o:=(R.rd i n).1
  rw [T.need _ (R.lt i)]at o
  exact o c
 |neg a L=>
  intro p i h g
  have y:=v p _ h
  cases a with
  |prop n=>
   have c:=(d i).neg p g n h
   have o:=(R.rd i n).2
   rw [T.ban _ (R.lt i)]at o
   have C:=o c
   show¬(u i).testBit n=true
   rw [C];simp
  |_=>exact y.elim
 |and a b t l=>
  intro p i h g
  obtain ⟨c,o⟩:=(d i).and p g a b h
  obtain ⟨_,z,y⟩:=dR (gj.and (a:=a) (b:=b)) f p h
  exact ⟨t _ i y o,l _ i z c⟩
 |or a b t l=>
  intro p i h g
  obtain ⟨_,z,y⟩:=dR (gj.or (a:=a) (b:=b)) f p h
  rcases (d i).or p g a b h with c|c
  ·exact .inr (l _ i z c)
  ·exact .inl (t _ i y c)
 |imp a b=>intro p i h _;exact (v p _ h).elim
 |fin a=>intro p i h _;exact (v p _ h).elim
 |ec a=>intro p i h _;exact (v p _ h).elim
 |cy a L=>
  intro p i h g
  have c:=(d i).cy p g a h
  exact L _ (i+1) (fY One.cy f p h).2 (q i _ c)
 |dA a b t l=>
  intro p i h g
  obtain ⟨_,z,y⟩:=dR (gj.dA (a:=a) (b:=b)) f p h
  refine QB λJ=>?_
  have w:∀k,p∈(T.pT (r (i+k))).bw/\p-1∉(T.pT (r (i+k))).bw/\∀j,j<k->cR u a (i+j):=by
   intro k;induction k with
   |zero=>refine ⟨g,λc=>J ⟨0,l _ _ z c,λj E=>by omega⟩,λj E=>by omega⟩
   |succ k G=>
    obtain ⟨c,o,C⟩:=G;rcases (d (i+k)).dA p c a b h with D|⟨D,M⟩
    ·exact absurd D o
    ·have I:∀j,j<k+1->cR u a (i+j):=λj E=>by
      by_cases e:j=k
      ·subst e;exact t _ _ y D
      ·exact C j (by omega)
     refine ⟨q _ _ M,λN=>J ⟨k+1,l _ _ z N,I⟩,I⟩
  obtain ⟨s,K,F⟩:=T.dA p a b h
  obtain ⟨j,E,B⟩:=R.r7 s K i
  rw [T.inn _ (R.lt j) s K,F]at B
  obtain ⟨c,o,_⟩:=w (j-i)
  have e:i+(j-i)=j:=by omega
  rw [e]at c o
  exact B.elim (λh=>h c) o
 |rel a b t l=>
  intro p i h g k O
  obtain ⟨_,z,y⟩:=dR (gj.rel (a:=a) (b:=b)) f p h
  have w:∀m,m<=k->p∈(T.pT (r (i+m))).bw:=by
   intro m;induction m with
   |zero=>intro _;exact g
   |succ m H=>
    intro P;have c:=H (by omega);obtain ⟨_,o|o⟩:=(d (i+m)).rel p c a b h
    ·exact absurd (t _ _ y o) (O m (by omega))
    ·exact q _ _ o
  exact l _ _ z ((d (i+k)).rel p (w k (Rt _)) a b h).1
theorem Bj{f A}(T:kF f A){u}(h:cR u f 0):lY A u:=by
 have E:=br f;obtain ⟨G,v,z⟩:=(T.oY [size f-1] (λp t=>by rw [Sb]at t;omega)).all u 0 (λp t=>by rw [Sb]at t;subst t;exact ⟨f,cP f,h⟩)
 obtain ⟨F,q,H⟩:=T.ir G v;have g:∀i n,n<A.ak.length->vP u f i (T.pT n)->∃m,m∈(A.ay n).tO/\m<A.ak.length/\vP u f (i+1) (T.pT m):=by intro i n w L;obtain ⟨c,K,M⟩:=(T.oY _ (T.A0 n w)).all u (i+1) L.next;obtain ⟨m,D,e⟩:=T.nQ n w c K;exact ⟨m,D,T.Oo n w m D,by rw [e];exact M⟩
 let r:={x:Nat×Nat//x.2<A.ak.length/\vP u f x.1 (T.pT x.2)};let O:r->r:=λx=>⟨(x.1.1+1,Classical.choose (g x.1.1 x.1.2 x.2.1 x.2.2)),(SA (g x.1.1 x.1.2 x.2.1 x.2.2)).2⟩;let P:r:=⟨(0,F),T.Jk F q,by rw [H];exact z⟩;let d:Nat->r:=λk=>Nat.rec P (λ_ x=>O x) k;have o:∀k,(d k).1.1=k:=by
  intro k;induction k with
  |zero=>rfl
  |succ k N=>show(d k).1.1+1=k+1;rw [N]
 have j:∀k,vP u f k (T.pT (d k).1.2):=λk=>by have:=(d k).2.2;rwa [o k]at this
 refine ⟨λk=>(d k).1.2,q,λk=>(d k).2.1,λk=>(SA (g (d k).1.1 (d k).1.2 (d k).2.1 (d k).2.2)).1,λk=>?_,λs y i=>?_⟩
 ·rw [T.need _ (d k).2.1,T.ban _ (d k).2.1];exact (j k).rd
 ·obtain ⟨a,b,l⟩:=T.Mp s y;by_cases B:T.yg s∈(T.pT (d i).1.2).bw
  ·have I:=((j i).bw _ B).cR l;obtain ⟨k,J,_⟩:=I
   refine ⟨i+k,by omega,?_⟩;rw [T.inn _ (d (i+k)).2.1 s y];by_cases C:T.yg s∈(T.pT (d (i+k)).1.2).bw
   ·exact .inr ((j (i+k)).dA _ C a b l J)
   ·exact .inl C
  ·exact ⟨i,Rt _,(T.inn _ (d i).2.1 s y).2 (.inl B)⟩
theorem Lm{f}:gR f->∀p x,At f p x->(∀n,f≠neg (prop n))->gR x:=by
 induction f with
 |tt|ff|prop n=>intro _ p x h _;rcases p with _|p;simp [At,aI]at h;subst h;trivial;simp [At,aI]at h
 |neg a r=>
  intro h p x _ g;cases a with
  |prop n=>exact absurd rfl (g n)
  |_=>exact h.elim
 |imp a b=>intro h;exact h.elim
 |fin a=>intro h;exact h.elim
 |ec a=>intro h;exact h.elim
 |cy a r=>
  intro h p x d _;unfold At at d;rw [One.cy.aI]at d;rcases RF p (aI a).length with k|o|s;rw [Pp k]at d;by_cases g:∃n,a=neg (prop n);obtain ⟨n,rfl⟩:=g;rcases p with _|_|p;simp [aI]at d;subst d;trivial;simp [aI]at d;subst d;trivial;simp [aI]at k;omega;exact r h p x d (λn e=>g ⟨n,e⟩);rw [o,PD (Rt _),RG]at d;simp at d;subst d;exact h;rw [PD (by omega)]at d;have:p-(aI a).length=(p-(aI a).length-1)+1:=by omega
  rw [this]at d;simp at d
 |and a b i j|or a b i j|dA a b i j|rel a b i j=>
  intro h p x d _;have m:∀(c:Fm),gR c->(∀p x,At c p x->(∀n,c≠neg (prop n))->gR x)->∀p,(aI c)[p]? =some x->p<(aI c).length->gR x:=by intro c t q p d k;by_cases g:∃n,c=neg (prop n);obtain ⟨n,rfl⟩:=g;rcases p with _|_|p;simp [aI]at d;subst d;trivial;simp [aI]at d;subst d;trivial;simp [aI]at k;omega;exact q p x d (λn e=>g ⟨n,e⟩)
  unfold At aI at d;by_cases k:p<(aI a).length;rw [Pp k]at d;exact m a h.1 (λp x=>i h.1 p x) p d k;rw [PD (by omega)]at d;rcases RF (p-(aI a).length) (aI b).length with l|o|s;rw [Pp l]at d;exact m b h.2 (λp x=>j h.2 p x) _ d l;rw [o,PD (Rt _),RG]at d;simp at d;subst d;exact h;rw [PD (by omega)]at d;have:p-(aI a).length-(aI b).length=(p-(aI a).length-(aI b).length-1)+1:=by omega
  rw [this]at d;simp at d
theorem nE{f}(h:gR f)(p x)(a:At f p x):gR x:=by by_cases b:∃n,f=neg (prop n);obtain ⟨n,rfl⟩:=b;unfold At at a;rcases p with _|_|p;simp [aI]at a;subst a;trivial;simp [aI]at a;subst a;trivial;simp [aI]at a;exact Lm h p x a (λn e=>b ⟨n,e⟩)
theorem LY{f A}(T:kF f A)(b:gR f)(u):lY A u↔cR u f 0:=by
 constructor
 ·rintro ⟨r,R⟩;refine Hu T R (nE b) f (size f-1) 0 (cP f) ?_
  have a:=br f;exact ((T.oY [size f-1] (λp c=>by rw [Sb]at c;omega)).ok _ (T.aP _ R.aM)).2 _ (Sb.2 rfl)
 ·exact Bj T
end Go.Own
namespace Go.Proofs.YtimniinkpipnmaaGreatDoor
open Go.RowKit Go.Own Go.Proofs.Tryz
def Jm{x}(h:Fm.gR x):¬(Fm.aH x).1=7/\¬(Fm.aH x).1=11/\¬(Fm.aH x).1=12:=by cases x<;>simp [Fm.aH]<;>exact h.elim
def Ll{x}(h:Fm.gR x)(b:(Fm.aH x).1=4):∃k,x=Fm.neg (Fm.prop k):=by
 cases x<;>simp [Fm.aH]at b
 rename_i a;cases a<;>first|exact ⟨_,rfl⟩|exact h.elim
def AO(a n c f w)(h:FA w a n f)(G:Fm.gR f)(t:eh f)(T:n<=1000000):
 CL 76 #[SL a n c] w λe Z=>e=RT (.bool true)/\BW w Z:=by
 have O:=O8 (lq a n c _ f w h T (fJ t))
 have M:0<n:=by rw [<-h.size];exact Fm.br f
 have t0:((n:Int)==0)=false:=Pq.2 ZO
 have t1:(n==0)=false:=Pq.2 ZO
 have m:=O8 h
 have A:=O8 G
 clear h G t
 go_enter func76,ntmps76
 go_wp2_with (go_at_call 72;apply O.o.mono;rintro e w2 ⟨sa,sc,rfl,L⟩;have N:=O8 (aX L);clear L)
 go_loopw [11] (λx wr=>∃k:Nat,k<=n/\x=IV k/\Hid (BW w wr)) (λx _=>n-(intOf x).toNat)
 exact ⟨0,Pz _,rfl,N⟩
 obtain ⟨k,hk,rfl,z⟩:=hrel
 by_cases S:k<n
 ·have K:(k:Int)<n:=ZO;obtain ⟨x,u⟩:∃x,(Fm.aI f)[k]? =some x:=⟨_,Pe (by have:=m.o.size;unfold Fm.size at this;omega)⟩
  obtain ⟨C,D,rfl,-,E,F⟩:=(m.o.ag z.o).at u;have g:=nE A.o k x u;have⟨B,r,s⟩:=Jm g;have i:Hid (∀o,BW w (wr.alloc o)):=λo=>jd z.o o;by_cases d:(Fm.aH x).1=4
  ·obtain ⟨j,rfl⟩:=Ll g d;have⟨R,q⟩:=Fm.fY Fm.One.neg f k u
   obtain ⟨b,rfl⟩:∃b,k=b+1:=⟨k-1,ZO⟩;rw [Su]at q;obtain ⟨b2,o2,e,-,v,y⟩:=(m.o.ag z.o).at q;cases e
   change wr.cell? _=some (IV 3)at v;change wr.cell? _=some (IV j)at y;change wr.cell? _=some (IV 4)at E;change wr.cell? _=some (IV 0)at F;have J:(b:Int)<n:=ZO;have I:b<n:=ZO;have H:(0:Int)<=b:=ZO;have u0:IntKind.i64.wrap (b:Int)=b:=Ql _ ZO;have u1:IntKind.i64.wrap ((b:Int)+1-1)=(b:Int):=by rw [Sa];exact Ql _ ZO
   clear u q d B r s g;go_upto_region 8 with(fail);have p:BW wr (wr.alloc (CE #[IV 4,IV 0] 32)):=(Pn _ _).alloc (Pf _) _;have P:=(p.cell (O9 wr _ v)).trans v;have Q:=(p.cell (O9 wr _ y)).trans y;have l:=O8 (i.o (CE #[IV 4,IV 0] 32));clear E F v y p i;generalize wr.alloc (CE #[IV 4,IV 0] 32)=w1 at *;go_region_held3 (λW=>CA W C (D+b*2) (IV 3)/\CA W C (D+b*2+1) (IV j))
    (exact ⟨P,Q⟩)
    (fail)
   go_wp2;go_roundw;exact ⟨b+1+1,ZO,ZN,O8 l.o.drew⟩;simp [intOf];omega
  ·have t4:((Fm.aH x).1==4)=false:=Pq.2 d;have t7:((Fm.aH x).1==7)=false:=Pq.2 B
   have X:((Fm.aH x).1==11)=false:=Pq.2 r;have Y:((Fm.aH x).1==12)=false:=Pq.2 s;clear u d B r s g;generalize (Fm.aH x).1=V at *;generalize (Fm.aH x).2=U at *;have l:=O8 (i.o (CE #[IV V,IV U] 32));go_wp2;go_roundw;exact ⟨k+1,ZO,ZN,l⟩;simp [intOf];omega
 ·obtain rfl:k=n:=ZO;go_wp2
  go_ret;exact ⟨rfl,z.o⟩
def Dw(a n c f w)(h:FA w a n f)(s:n<=1000000):
 CL 106 #[SL a n c] w λe l=>∃b d,e=RT (SL b n d)/\bP w l (SL b n d) n (Fm.enc f):=by
 obtain ⟨i,j,rfl,-⟩:=h.at (Fm.cP f)
 have p:=λW=>Rb (P:=prog) W 148 32 (some (AD i j)) n c 0 0 Ur
 have m:Hid (bD (w.alloc (CE #[] 32)) (some (AD i j)) n (Fm.enc f)):=h.ag ((Pn _ w).alloc (Pf _) _)
 have o:=O8 (bP.empty w)
 clear h
 go_enter func106,ntmps106
 go_wp2_with (at_builtin;refine kx rfl (.tmp 5) (.tmp 6) 148 Ur rfl _ 0 [] rfl o.o (AD i j) n c (Fm.enc f) rfl m.o ZO ?_;intro b d l k q r;have g:=O8 k;clear k q r)
 go_ret
 have:=g.o
 rw [PU]at this
 exact ⟨b,d,rfl,this⟩
def Bd:∀a b c,Fm.run (a++b) c=(Fm.run a c).bind (Fm.run b)
 |[],b,c=>rfl
 |x::a,b,c=>by
  show(Fm.step x c).bind (Fm.run (a++b))=((Fm.step x c).bind (Fm.run a)).bind _;cases Fm.step x c with
  |none=>rfl
  |some s=>exact Bd a b s
def Ft(f):Fm.run (Fm.enc f) []=some [f]:=by have:=Fm.om f [] [];rwa [Qb]at this
def J8{f i}:∃a,Fm.run ((Fm.enc f).take i) []=some a:=by
 have h:=Ft f;rw [<-Tn i (Fm.enc f),Bd]at h;cases b:Fm.run ((Fm.enc f).take i) []with
 |none=>rw [b]at h;cases h
 |some a=>exact ⟨a,rfl⟩
def J7{f i c}(h:Fm.run ((Fm.enc f).take i) []=some c)(k:i<Fm.size f):
 ∃a,Fm.step ((Fm.enc f).getD i (0,0)) c=some a/\Fm.run ((Fm.enc f).take (i+1)) []=some a:=by
 have⟨a,d⟩:=J8 (f:=f) (i:=i+1)
 have g:i<(Fm.enc f).length:=by rw [Fm.dt];exact k
 have e:(Fm.enc f).take (i+1)=(Fm.enc f).take i++[(Fm.enc f).getD i (0,0)]:=by rw [Qf,Pe g,Pd,Pe g];rfl
 have b:=d
 rw [e,Bd,h]at b
 refine ⟨a,?_,d⟩
 simp only [Option.bind_some,Fm.run]at b
 cases j:Fm.step ((Fm.enc f).getD i (0,0)) c with
 |none=>rw [j]at b;cases b
 |some s=>rw [j]at b;simpa using b
def LO{f a}(h:Fm.run ((Fm.enc f).take (Fm.size f)) []=some a):a=[f]:=by rw [PI (by rw [Fm.dt];exact Pf _),Ft]at h;exact (Qh h).symm
def Hr{p b a}(h:Fm.step p b=some a):bm a=bm b+1:=by
 unfold Fm.step at h;split at h<;>first
  |(cases h;done)
  |(have h:=Qh h
    subst h;simp only [bm,Fm.vJ,Fm.vI,Fm.lT,Fm.iB,Fm.ki,Fm.mC,Fm.qo,Fm.fp,Fm.km,Fm.kj,Fm.nL,Fm.lS];omega)
end Go.Proofs.YtimniinkpipnmaaGreatDoor
