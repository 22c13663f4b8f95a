/- A part of the proof of TopNegates. -/
import Derived.Test.YtimniinkpipnmaaGreatDoorR2
import Derived.Lib.TrailingZeros
import Derived.WideKeyEntry
set_option maxRecDepth 100000
set_option maxHeartbeats 8000000
set_option linter.all false
namespace Go.Proofs.YtimniinkpipnmaaGreatDoor
open Go.RowKit Go.Own
def NB:=@List.setIfInBounds_toArray
def NM:=@List.set_cons_succ
def NN:=@List.getElem?_cons_succ
def NO:=@List.getElem?_cons_zero
def NR:=@List.set_cons_zero
def NT:=@List.getElem?_toArray
def O5:=@List.not_mem_nil
def Pw:=@Go.bits_and_u64_nat
def Qy:=@Nat.pow_lt_pow_right
def QD:=@or_false
def QE:=@Go.IntKind.wrap_u64
def QH:=@Go.Proofs.Tryz.ntmps142
def QX:=@Go.Proofs.Tryz.func142
def Rd:=@Int.natCast_nonneg
def Ri:=@Int.emod_eq_of_lt
def Rm:=@Nat.or_lt_two_pow
def aH(l:List Nat):List Int:=l.map λ(x:Nat)=>(x:Int)
def aC(l:List Nat):(aH l).length=l.length:=by unfold aH;rw [NU]
def je(l m:List Nat):aH (l++m)=aH l++aH m:=by unfold aH;rw [Oy]
def nP(S:Nat->Prop)(a:OA):Prop:=∀b o,a=some (AD b o)->¬S b
def nP.dJ{S:Nat->Prop}{g o n:Nat}(h:∀k,S k->k<n)(a:n<=g):nP S (some (AD g o)):=λb o e s=>by cases e;have:=h _ s;omega
structure mE (S:Nat->Prop) (w:WD) (na:OA) (n:Nat) (d a:OA) (tl c:Nat) (W:Wy):Prop where
 bz:dW w na n W.bz
 next:dW w d n W.next
 bS:aG .i64 w a tl (aH W.bS)
 pP:∃b e,a=some (AD b e)/\b<w.heap.size
 bU:tl<=c/\c<=maxLen
 bits:W.ak<18446744073709551616/\W.aD<18446744073709551616
 eE:∀k,S k->k<w.heap.size
 sep:nP S na/\nP S d/\nP S a
def mE.af{S:Nat->Prop}{w g:WD}{b:OA}{n:Nat}{i c:OA}{f d:Nat}{W:Wy}(h:mE S w b n i c f d W)(a:BW w g):mE S g b n i c f d W:=
 ⟨h.bz.af a,h.next.af a,h.bS.af a,by obtain ⟨m,o,e,l⟩:=h.pP;exact ⟨m,o,e,NL l a.size⟩,h.bU,h.bits,λk j=>NL (h.eE k j) a.size,h.sep⟩
def mE.bC{S:Nat->Prop}{w:WD}{b:OA}{n:Nat}{e c:OA}{a d:Nat}{W:Wy}(h:mE S w b n e c a d W):W.bS.length=a:=by have:=h.bS.1;rwa [aC]at this
def km(S:Nat->Prop)(w:WD)(v:Value)(n:Nat)(W:Wy):Prop:=∃a f e g b d c,v=fW W.ak W.aD a n f e g b d c/\mE S w a n e b d c W
def km.af{S:Nat->Prop}{w a:WD}{v:Value}{n:Nat}{W:Wy}(h:km S w v n W)(b:BW w a):km S a v n W:=by obtain ⟨c,d,j,k,f,i,g,e,h⟩:=h;exact ⟨c,d,j,k,f,i,g,e,h.af b⟩
def iD(S:Nat->Prop)(w:WD)(n:Nat)(W:Wy)(e:Ending)(a:WD):Prop:=∃v,e=RT v/\km S a v n W/\BW w a
def kh{S:Nat->Prop}{w:WD}{j:OA}{n nc:Nat}{m:OA}{xc:Nat}{x:OA}{f t:Nat}{W:Wy}(h:mE S w j n m x f t W)(l:List Nat)(s:OA)(d v:Nat)(E:aG .i64 w s d (aH l))(z:0<d)(D:d+f<=1000000):
 CL 167 #[fW W.ak W.aD j n nc m xc x f t,.slice s d v] w (iD S w n (W.dh l)):=by
 obtain ⟨F,G,rfl,r⟩:=h.pP
 refine (Gs W.ak W.aD j n nc m xc F G f t (aH W.bS) s d v (aH l) w h.bS r E z D).mono ?_
 rintro e y ⟨g,c,rfl,u,p,q,i,B⟩
 refine ⟨_,rfl,⟨j,nc,m,xc,some (AD g 0),d+f,c,rfl,⟨h.bz.af i,h.next.af i,?_,?_,⟨p,q⟩,h.bits,λk C=>NL (h.eE k C) i.size,h.sep.1,h.sep.2.1,nP.dJ h.eE B⟩⟩,i⟩
 show aG .i64 y _ _ (aH (l++W.bS))
 rw [je];exact u
 rcases u.2 with A|⟨b,o,e,a⟩
 omega
 cases e
 exact ⟨g,0,rfl,Nr y _ (a 0 (by omega))⟩
def qw{S:Nat->Prop}{w:WD}{b:OA}{n nc:Nat}{i:OA}{xc:Nat}{d:OA}{tl f:Nat}{W:Wy}(h:mE S w b n i d tl f W)(p:Nat)(q:p<n)(o:n<=1000000):
 CL 168 #[fW W.ak W.aD b n nc i xc d tl f,IV p] w (iD S w n (W.jh p)):=by
 refine (FM W.ak W.aD b n nc i xc d tl f W.next p w h.next q o).mono ?_
 rintro e u ⟨g,c,rfl,r,a,j⟩
 exact ⟨_,rfl,⟨b,nc,some (AD g 0),c,d,tl,f,rfl,⟨h.bz.af a,r,h.bS.af a,by obtain ⟨s,t,e,m⟩:=h.pP;exact ⟨s,t,e,NL m a.size⟩,h.bU,h.bits,λk l=>NL (h.eE k l) a.size,h.sep.1,nP.dJ h.eE j,h.sep.2.2⟩⟩,a⟩
def Ia{S:Nat->Prop}{w:WD}{j:OA}{n m:Nat}{i:OA}{l:Nat}{b:OA}{f d:Nat}{W:Wy}(h:mE S w j n i b f d W)(p:Nat)(t:p<n)(s:n<=1000000):
 CL 141 #[fW W.ak W.aD j n m i l b f d,IV p] w (iD S w n (W.dE p)):=by
 refine (H7 W.ak W.aD j n m i l b f d W.bz p w h.bz t s).mono ?_
 rintro e y ⟨g,c,rfl,u,a,o⟩
 exact ⟨_,rfl,⟨some (AD g 0),c,i,l,b,f,d,rfl,⟨u,h.next.af a,h.bS.af a,by obtain ⟨v,x,e,r⟩:=h.pP;exact ⟨v,x,e,NL r a.size⟩,h.bU,h.bits,λk q=>NL (h.eE k q) a.size,nP.dJ h.eE o,h.sep.2.1,h.sep.2.2⟩⟩,a⟩
def kP(S:Nat->Prop)(w:WD)(a:OA)(k n:Nat)(l:List Wy):Prop:=l.length=k/\(k=0\/∃b c,a=some (AD b c)/\¬S b/\∀i W,l[i]? =some W->∃d j h m e g f,mE S w d n h e g f W/\
 w.cell? (AD b (c+i*5))=some (UV W.ak)/\w.cell? (AD b (c+i*5+1))=some (UV W.aD)/\w.cell? (AD b (c+i*5+2))=some (.slice d n j)/\w.cell? (AD b (c+i*5+3))=some (.slice h n m)/\w.cell? (AD b (c+i*5+4))=some (.slice e g f))
def cG(S:Nat->Prop)(w:WD)(n:Nat)(l:List Wy)(e:Ending)(b:WD):Prop:=∃a k c,e=RT (.slice a k c)/\kP S b a k n l/\BW w b
def cG.from{S:Nat->Prop}{w b a:WD}{n:Nat}{l:List Wy}{e:Ending}(f:BW w b)(h:cG S b n l e a):cG S w n l e a:=by obtain ⟨g,k,i,e,c,d⟩:=h;exact ⟨g,k,i,e,c,aa f d⟩
def xe{S:Nat->Prop}(w:WD)(n:Nat):cG S w n [] (RT (SN)) w:=⟨none,0,0,rfl,⟨rfl,.inl rfl⟩,Nx _ _⟩
def nr{S:Nat->Prop}{w:WD}{a:OA}{n nc:Nat}{e:OA}{xc:Nat}{b:OA}{d c:Nat}{W:Wy}(h:mE S w a n e b d c W):
 cG S w n [W] (RT (SV w.heap.size 1 1)) (w.alloc (.cells #[UV W.ak,UV W.aD,.slice a n nc,.slice e n xc,.slice b d c] 193)):=by
 have f:BW w (w.alloc (.cells #[UV W.ak,UV W.aD,.slice a n nc,.slice e n xc,.slice b d c] 193)):=(Nx _ w).alloc (Nz _) _
 refine ⟨_,_,_,rfl,⟨rfl,.inr ⟨_,0,rfl,λs=>OI _ (h.eE _ s),λi j g=>?_⟩⟩,f⟩
 rcases i with _|i
 cases g
 exact ⟨a,nc,e,xc,b,d,c,h.af f,NV (w:=w) _ 193 w.heap.size 0 rfl,NV (w:=w) _ 193 w.heap.size 1 rfl,NV (w:=w) _ 193 w.heap.size 2 rfl,NV (w:=w) _ 193 w.heap.size 3 rfl,NV (w:=w) _ 193 w.heap.size 4 rfl⟩
 simp at g
def xf{S:Nat->Prop}{w:WD}{k:OA}{n t:Nat}{p:OA}{u:Nat}{l:OA}{o m:Nat}{W:Wy}{a:OA}{f:Nat}{e:OA}{g:Nat}{b:OA}{d c:Nat}{j:Wy}(h:mE S w k n p l o m W)(x:mE S w a n e b d c j):
 cG S w n [W,j] (RT (SV w.heap.size 2 2)) (w.alloc (.cells #[UV W.ak,UV W.aD,.slice k n t,.slice p n u,.slice l o m,UV j.ak,UV j.aD,.slice a n f,.slice e n g,.slice b d c] 193)):=by
 have q:BW w (w.alloc (.cells #[UV W.ak,UV W.aD,.slice k n t,.slice p n u,.slice l o m,UV j.ak,UV j.aD,.slice a n f,.slice e n g,.slice b d c] 193)):=(Nx _ w).alloc (Nz _) _
 refine ⟨_,_,_,rfl,⟨rfl,.inr ⟨_,0,rfl,λs=>OI _ (h.eE _ s),λi v r=>?_⟩⟩,q⟩
 rcases i with _|_|i
 cases r
 exact ⟨k,t,p,u,l,o,m,h.af q,NV (w:=w) _ 193 w.heap.size 0 rfl,NV (w:=w) _ 193 w.heap.size 1 rfl,NV (w:=w) _ 193 w.heap.size 2 rfl,NV (w:=w) _ 193 w.heap.size 3 rfl,NV (w:=w) _ 193 w.heap.size 4 rfl⟩
 cases r
 exact ⟨a,f,e,g,b,d,c,x.af q,NV (w:=w) _ 193 w.heap.size 5 rfl,NV (w:=w) _ 193 w.heap.size 6 rfl,NV (w:=w) _ 193 w.heap.size 7 rfl,NV (w:=w) _ 193 w.heap.size 8 rfl,NV (w:=w) _ 193 w.heap.size 9 rfl⟩
 simp at r
def pw(w:WD)(z:Int):aG .i64 (w.alloc (.cells #[IV z] 3)) (some (AD w.heap.size 0)) 1 [z]:=⟨rfl,.inr ⟨_,0,rfl,λi a=>by
 obtain rfl:i=0:=by omega
 exact NV (w:=w) _ 3 w.heap.size 0 rfl⟩⟩
def DY(w:WD)(z y:Int):aG .i64 (w.alloc (.cells #[IV z,IV y] 3)) (some (AD w.heap.size 0)) 2 [z,y]:=⟨rfl,.inr ⟨_,0,rfl,λi a=>by rcases i with _|_|i;exact NV (w:=w) _ 3 w.heap.size 0 rfl;exact NV (w:=w) _ 3 w.heap.size 1 rfl;omega⟩⟩
def vr(w:WD)(b c d e f:Value)(t:TypeId)(a:WD)(h:a=w.alloc (.cells #[b,c,d,e,f] t)):
 BW w a/\a.heap.size=w.heap.size+1/\(∀i v,(#[b,c,d,e,f]:Array Value)[i]? =some v->CA a w.heap.size i v/\FZ a w.heap.size i):=by
 subst h
 exact ⟨(Nx _ w).alloc (Nz _) _,NG ..,λi v g=>⟨(NV (w:=w) _ t w.heap.size i rfl).trans g,Qu _ _ _ _ rfl⟩⟩
def wv{a k N:Nat}(d:a<18446744073709551616)(f:k<64)(c:a|||2^k=N):bits BinOp.or IntKind.u64 (a:Int) (IntKind.u64.wrap (2^k))=(N:Int):=by
 have b:2^k<18446744073709551616:=Qy (by decide) f;have e:IntKind.u64.wrap ((2:Int)^k)=((2^k:Nat):Int):=by
  rw [QE];have:((2:Int)^k)=((2^k:Nat):Int):=by simp
  rw [this];exact Ri (Rd _) (Int.ofNat_lt.2 b)
 rw [e,bits_or_u64_nat _ _ d b,c]
def I1(S:Nat->Prop)(A:OA)(n I:Nat)(D:OA)(J:Nat)(B:OA)(k C:Nat)(W:Wy)(M:OA)(Q:Nat)(f:Fm)(p:Nat)(w:WD)(h:mE S w A n D B k C W)(G:FA w M n f)(g:dV f)(H:(Fm.aQ f)[p]? =some (Fm.tt))(hn:n<=1000)(ac:k<=100000):
 CL 142 #[fW W.ak W.aD A n I D J B k C,.slice M n Q,IV p] w (cG S w n (split (Fm.tt) p W)):=by
 have m:=Nq λd (Y:Below w.heap.size w d)=>gd M n Q _ f (Fm.tt) p d (G.af Y) (by omega) (fA g) H
 obtain ⟨E,F,rfl,ab,u,x⟩:=G.at H
 have Z:(p:Int)<(n:Int):=by omega
 have L:=Nq h
 have U:=Nq G
 have HX:=Nq H
 have V:=Nq g
 change CA w E (F+p*2) (IV 1)at u
 change CA w E (F+p*2+1) (IV 0)at x
 obtain ⟨R,N⟩:=EX (split (Fm.tt) p W)
 rw [N]
 have K:=Nq N
 clear h G H g N
 go_enter QX,QH
 go_upto_region 1 with(fail)
 obtain ⟨d,j⟩:=EX (w.alloc (.cells #[UV W.ak,UV W.aD,.slice A n I,.slice D n J,.slice B k C] 193))
 rw [j]
 obtain ⟨b,O,T⟩:=vr _ _ _ _ _ _ _ d j.symm
 have l:=Nq (m.o d b)
 have s:Hid (∀c,Below d.heap.size d c->Hid (Below w.heap.size w c)/\(CA c E (F+p*2) (IV 1)/\CA c E (F+p*2+1) (IV 0))/\Hid (w.heap.size<c.heap.size)/\
  ∀i v,(#[UV W.ak,UV W.aD,.slice A n I,.slice D n J,.slice B k C]:Array Value)[i]? =some v->CA c w.heap.size i v/\FZ c w.heap.size i):=λc a=>
  ⟨Nq (aa b a),⟨((aa b a).cell (Nr w _ u)).trans u,((aa b a).cell (Nr w _ x)).trans x⟩,Nq (by have:=a.size;omega),λi v hv=>cW a (T i v hv)⟩
 clear j b O T m u x
 (try unfold BW at *);generalize z:w.heap.size=q at *
 have r:=Nq z
 clear z
 go_upto_region 2 with(go_at_call 166;refine l.o.mono ?_;rintro e c ⟨rfl,a⟩;obtain ⟨P,⟨u,x⟩,X,y⟩:=s.o c a;have o:=Nq y;clear a y)
 clear s l
 have t:=Nq (L.o.af (by(try unfold BW);rw [r.o];exact P.o))
 obtain ⟨q0,f0⟩:=o.o 0 (UV W.ak) rfl
 obtain ⟨q1,f1⟩:=o.o 1 (UV W.aD) rfl
 have q2:=(o.o 2 (.slice A n I) rfl).1
 have q3:=(o.o 3 (.slice D n J) rfl).1
 have q4:=(o.o 4 (.slice B k C) rfl).1
 go_wp2
 go_ret
 rw [<-K.o]
 exact cG.from (by(try unfold BW);rw [r.o];exact P.o) (nr t.o)
def IX(S:Nat->Prop)(z:OA)(n H:Nat)(C:OA)(I:Nat)(A:OA)(k B:Nat)(W:Wy)(L:OA)(Q:Nat)(f:Fm)(p:Nat)(w:WD)(h:mE S w z n C A k B W)(F:FA w L n f)(g:dV f)(G:(Fm.aQ f)[p]? =some (Fm.ff))(hn:n<=1000)(ac:k<=100000):
 CL 142 #[fW W.ak W.aD z n H C I A k B,.slice L n Q,IV p] w (cG S w n (split (Fm.ff) p W)):=by
 have m:=Nq λd (Y:Below w.heap.size w d)=>gd L n Q _ f (Fm.ff) p d (F.af Y) (by omega) (fA g) G
 obtain ⟨D,E,rfl,ab,t,u⟩:=F.at G
 have Z:(p:Int)<(n:Int):=by omega
 have K:=Nq h
 have U:=Nq F
 have HX:=Nq G
 have V:=Nq g
 change CA w D (E+p*2) (IV 2)at t
 change CA w D (E+p*2+1) (IV 0)at u
 obtain ⟨R,M⟩:=EX (split (Fm.ff) p W)
 rw [M]
 have J:=Nq M
 clear h F G g M
 go_enter QX,QH
 go_upto_region 1 with(fail)
 obtain ⟨d,j⟩:=EX (w.alloc (.cells #[UV W.ak,UV W.aD,.slice z n H,.slice C n I,.slice A k B] 193))
 rw [j]
 obtain ⟨b,N,T⟩:=vr _ _ _ _ _ _ _ d j.symm
 have l:=Nq (m.o d b)
 have s:Hid (∀c,Below d.heap.size d c->Hid (Below w.heap.size w c)/\(CA c D (E+p*2) (IV 2)/\CA c D (E+p*2+1) (IV 0))/\Hid (w.heap.size<c.heap.size)/\
  ∀i v,(#[UV W.ak,UV W.aD,.slice z n H,.slice C n I,.slice A k B]:Array Value)[i]? =some v->CA c w.heap.size i v/\FZ c w.heap.size i):=λc a=>
  ⟨Nq (aa b a),⟨((aa b a).cell (Nr w _ t)).trans t,((aa b a).cell (Nr w _ u)).trans u⟩,Nq (by have:=a.size;omega),λi v hv=>cW a (T i v hv)⟩
 clear j b N T m t u
 (try unfold BW at *);generalize y:w.heap.size=q at *
 have r:=Nq y
 clear y
 go_upto_region 2 with(go_at_call 166;refine l.o.mono ?_;rintro e c ⟨rfl,a⟩;obtain ⟨O,⟨t,u⟩,X,x⟩:=s.o c a;have o:=Nq x;clear a x)
 clear s l
 have P:=Nq (K.o.af (by(try unfold BW);rw [r.o];exact O.o))
 obtain ⟨q0,f0⟩:=o.o 0 (UV W.ak) rfl
 obtain ⟨q1,f1⟩:=o.o 1 (UV W.aD) rfl
 have q2:=(o.o 2 (.slice z n H) rfl).1
 have q3:=(o.o 3 (.slice C n I) rfl).1
 have q4:=(o.o 4 (.slice A k B) rfl).1
 go_wp2
 go_ret
 rw [<-J.o]
 exact cG.from (by(try unfold BW);rw [r.o];exact O.o) (xe _ _)
def Dj(k:Nat)(S:Nat->Prop)(B:OA)(n C:Nat)(F:OA)(G:Nat)(D:OA)(z E:Nat)(W:Wy)(fa:OA)(fc:Nat)(f:Fm)(p:Nat)(w:WD)(h:mE S w B n F D z E W)(hf:FA w fa n f)(g:dV f)(Z:(Fm.aQ f)[p]? =some (Fm.prop k))(hn:n<=1000)(an:z<=100000):
 CL 142 #[fW W.ak W.aD B n C F G D z E,.slice fa n fc,IV p] w (cG S w n (split (Fm.prop k) p W)):=by
 have I:=Nq λj (hb:Below w.heap.size w j)=>gd fa n fc _ f (Fm.prop k) p j (hf.af hb) (by omega) (fA g) Z
 obtain ⟨T,U,rfl,am,Q,A⟩:=hf.at Z
 have al:(p:Int)<(n:Int):=by omega
 have P:=Nq h
 have ag:=Nq hf
 have HX:=Nq Z
 have ah:=Nq g
 change CA w T (U+p*2) (IV 3)at Q
 change CA w T (U+p*2+1) (IV k)at A
 have aj:k<8:=g _ (NI (Z)) k rfl
 obtain ⟨N,hN⟩:=EX (W.ak|||2^k)
 have o:k<64:=by omega
 have r:2^k<18446744073709551616:=Qy (by decide) o
 have x:N<18446744073709551616:=by rw [<-hN];exact Rm (n:=64) h.bits.1 r
 have ad:Hid (bits BinOp.or IntKind.u64 (W.ak:Int) (IntKind.u64.wrap (2^k))=(N:Int)):=wv h.bits.1 o hN
 have c:Hid (bits BinOp.and IntKind.u64 ((N:Int)) ((W.aD:Int))=((N&&&W.aD:Nat):Int)):=Pw _ _ x h.bits.2
 have ac:=Nq x
 have ab:=Nq hN
 clear hN x r
 obtain ⟨R,hR⟩:=EX (split (Fm.prop k) p W)
 rw [hR]
 have M:=Nq hR
 clear h hf Z g hR
 go_enter QX,QH
 go_upto_region 1 with(fail)
 obtain ⟨j,y⟩:=EX (w.alloc (.cells #[UV W.ak,UV W.aD,.slice B n C,.slice F n G,.slice D z E] 193))
 rw [y]
 obtain ⟨d,ae,hq⟩:=vr _ _ _ _ _ _ _ j y.symm
 have H:=Nq (I.o j d)
 have O:Hid (∀b,Below j.heap.size j b->Hid (Below w.heap.size w b)/\(CA b T (U+p*2) (IV 3)/\CA b T (U+p*2+1) (IV k))/\Hid (w.heap.size<b.heap.size)/\
  ∀i v,(#[UV W.ak,UV W.aD,.slice B n C,.slice F n G,.slice D z E]:Array Value)[i]? =some v->CA b w.heap.size i v/\FZ b w.heap.size i):=λb a=>
  ⟨Nq (aa d a),⟨((aa d a).cell (Nr w _ Q)).trans Q,((aa d a).cell (Nr w _ A)).trans A⟩,Nq (by have:=a.size;omega),λi v hv=>cW a (hq i v hv)⟩
 clear y d ae hq I Q A
 (try unfold BW at *);generalize Y:w.heap.size=q at *
 have L:=Nq Y
 clear Y
 go_upto_region 2 with(go_at_call 166;refine H.o.mono ?_;rintro e b ⟨rfl,a⟩;obtain ⟨HB,⟨Q,A⟩,ai,X⟩:=O.o b a;have J:=Nq X;clear a X)
 clear O H
 have af:=Nq (P.o.af (by(try unfold BW);rw [L.o];exact HB.o))
 obtain ⟨q0,f0⟩:=J.o 0 (UV W.ak) rfl
 obtain ⟨q1,f1⟩:=J.o 1 (UV W.aD) rfl
 have q2:=(J.o 2 (.slice B n C) rfl).1
 have q3:=(J.o 3 (.slice F n G) rfl).1
 have q4:=(J.o 4 (.slice D z E) rfl).1
 go_upto_region 7 with(fail)
 refine av 10 (S:=λW'=>CA W' q 0 (UV W.ak)/\CA W' T (U+p*2+1) (IV k)) (by kernel_rfl) (⟨q0,A⟩) (λu=>?_)
 refine' az 0 ?_
 refine' az 1 ?_
 refine' az 2 ?_
 refine' az 3 ?_
 refine' az 4 ?_
 refine' az 5 ?_
 refine' az 6 ?_
 refine' az 7 ?_
 refine' az 8 ?_
 refine' az 9 ?_
 clear u
 rw [ad.o]
 refine aI 10 λK hK=>?_
 go_simp
 refine hK.o _ _ (λe=>nomatch e) ?_
 clear hK K
 try walk_nrm
 refine ay (by kernel_rfl) ?_
 have s:Hid (Below w.heap.size w (b.drew.setCell (AD q 0) (UV N))):=by have:=L.o;rw [this];exact (HB.o.drew).setCell (p:=(AD q 0)) (Nz _) _
 have e:(W.kH k).ak=N:=ab.o
 have l:Hid (mE S (b.drew.setCell (AD q 0) (UV N)) B n F D z E (W.kH k)):=by have m:=P.o.af s.o;exact ⟨m.bz,m.next,m.bS,m.pP,m.bU,⟨by rw [e];exact ac.o,m.bits.2⟩,m.eE,m.sep⟩
 by_cases hz:N&&&W.aD=0
 ·rw [hz]at c;have t:Hid (split (Fm.prop k) p W=[W.kH k]):=by show Wy.pure (W.kH k)=_;unfold Wy.pure;rw [Oa (by show(W.kH k).ak&&&W.aD=0;rw [e];exact hz)]
  have HR:=Nq (nr (nc:=C) (xc:=G) l.o);rw [show((W.kH k).ak:Int)=(N:Int)from by rw [e]]at HR;rw [show(b.drew.setCell (AD q 0) (UV N)).heap.size=b.heap.size from P1 ..]at HR;have V:bits BinOp.and IntKind.u64 (N:Int) (W.aD:Int)=0:=c.o;clear e hz;go_wp2;go_ret;rw [<-M.o,t.o];exact cG.from s.o HR.o
 ·have t:Hid (split (Fm.prop k) p W=[]):=by show Wy.pure (W.kH k)=_;unfold Wy.pure;rw [Of (by show¬(W.kH k).ak&&&W.aD=0;rw [e];exact hz)]
  have ao:(((N&&&W.aD:Nat):Int)==0)=false:=NC.2 (by omega);have ap:((N&&&W.aD)==0)=false:=NC.2 hz;have V:=c.o;clear e l;go_wp2;go_ret;rw [<-M.o,t.o];exact cG.from s.o (xe _ _)
def F8(k:Nat)(S:Nat->Prop)(D:OA)(n E:Nat)(H:OA)(I:Nat)(F:OA)(C G:Nat)(W:Wy)(fa:OA)(fc:Nat)(f:Fm)(p:Nat)(w:WD)(h:mE S w D n H F C G W)(hf:FA w fa n f)(j:dV f)(hx:(Fm.aQ f)[p]? =some (Fm.neg (Fm.prop k)))(hn:n<=1000)(ar:C<=100000):
 CL 142 #[fW W.ak W.aD D n E H I F C G,.slice fa n fc,IV p] w (cG S w n (split (Fm.neg (Fm.prop k)) p W)):=by
 have L:=Nq λl (hb:Below w.heap.size w l)=>gd fa n fc _ f (Fm.neg (Fm.prop k)) p l (hf.af hb) (by omega) (fA j) hx
 obtain ⟨V,X,rfl,aq,T,U⟩:=hf.at hx
 have ap:(p:Int)<(n:Int):=by omega
 have Q:=Nq h
 have ac:=Nq hf
 have HX:=Nq hx
 have am:=Nq j
 change CA w V (X+p*2) (IV 4)at T
 change CA w V (X+p*2+1) (IV 0)at U
 have ao:k<8:=j _ (NI (Fm.fR Fm.One.neg f p hx|>.2)) k rfl
 obtain ⟨N,hN⟩:=EX (W.aD|||2^k)
 have r:k<64:=by omega
 have s:2^k<18446744073709551616:=Qy (by decide) r
 have z:N<18446744073709551616:=by rw [<-hN];exact Rm (n:=64) h.bits.2 s
 have af:Hid (bits BinOp.or IntKind.u64 (W.aD:Int) (IntKind.u64.wrap (2^k))=(N:Int)):=wv h.bits.2 r hN
 have d:Hid (bits BinOp.and IntKind.u64 ((W.ak:Int)) ((N:Int))=((W.ak&&&N:Nat):Int)):=Pw _ _ h.bits.1 z
 have ae:=Nq z
 have ad:=Nq hN
 clear hN z s
 obtain ⟨R,hR⟩:=EX (split (Fm.neg (Fm.prop k)) p W)
 rw [hR]
 have O:=Nq hR
 clear h hf hx j hR
 go_enter QX,QH
 go_upto_region 1 with(fail)
 obtain ⟨l,A⟩:=EX (w.alloc (.cells #[UV W.ak,UV W.aD,.slice D n E,.slice H n I,.slice F C G] 193))
 rw [A]
 obtain ⟨g,ah,hq⟩:=vr _ _ _ _ _ _ _ l A.symm
 have J:=Nq (L.o l g)
 have P:Hid (∀b,Below l.heap.size l b->Hid (Below w.heap.size w b)/\(CA b V (X+p*2) (IV 4)/\CA b V (X+p*2+1) (IV 0))/\Hid (w.heap.size<b.heap.size)/\
  ∀i v,(#[UV W.ak,UV W.aD,.slice D n E,.slice H n I,.slice F C G]:Array Value)[i]? =some v->CA b w.heap.size i v/\FZ b w.heap.size i):=λb a=>
  ⟨Nq (aa g a),⟨((aa g a).cell (Nr w _ T)).trans T,((aa g a).cell (Nr w _ U)).trans U⟩,Nq (by have:=a.size;omega),λi v hv=>cW a (hq i v hv)⟩
 clear A g ah hq L T U
 (try unfold BW at *);generalize ab:w.heap.size=q at *
 have u:=Nq ab
 clear ab
 go_upto_region 2 with(go_at_call 166;refine J.o.mono ?_;rintro e b ⟨rfl,a⟩;obtain ⟨HB,⟨T,U⟩,an,Z⟩:=P.o b a;have M:=Nq Z;clear a Z)
 clear P J
 have ai:=Nq (Q.o.af (by(try unfold BW);rw [u.o];exact HB.o))
 obtain ⟨q0,f0⟩:=M.o 0 (UV W.ak) rfl
 obtain ⟨q1,f1⟩:=M.o 1 (UV W.aD) rfl
 have q2:=(M.o 2 (.slice D n E) rfl).1
 have q3:=(M.o 3 (.slice H n I) rfl).1
 have q4:=(M.o 4 (.slice F C G) rfl).1
 obtain ⟨ag,B⟩:=Fm.fR Fm.One.neg f p HX.o
 obtain ⟨c,rfl⟩:∃c,p=c+1:=⟨p-1,by omega⟩
 rw [RN]at B
 obtain ⟨_,_,e,-,e0,e1⟩:=(ac.o.af (by(try unfold BW);rw [u.o];exact HB.o)).at B
 cases e
 change b.cell? _=some (IV k)at e1
 have al:c<n:=by omega
 have ak:(c:Int)<(n:Int):=by omega
 have aj:(0:Int)<=(c:Int):=by omega
 have u0:IntKind.i64.wrap (c:Int)=(c:Int):=Pf _ (by omega)
 have u1:IntKind.i64.wrap ((c:Int)+1-1)=(c:Int):=by rw [Qv];exact u0
 clear B e0 ag
 go_upto_region 9 with(fail)
 refine av 11 (S:=λW'=>CA W' q 1 (UV W.aD)/\CA W' V (X+c*2+1) (IV k)) (by kernel_rfl) (⟨q1,e1⟩) (λy=>?_)
 refine' az 0 ?_
 refine' az 1 ?_
 refine' az 2 ?_
 refine' az 3 ?_
 refine' az 4 ?_
 refine' az 5 ?_
 refine' az 6 ?_
 refine' az 7 ?_
 refine' az 8 ?_
 refine' az 9 ?_
 refine' az 10 ?_
 clear y
 rw [af.o]
 refine aI 11 λK hK=>?_
 go_simp
 refine hK.o _ _ (λe=>nomatch e) ?_
 clear hK K
 try walk_nrm
 refine ay (by kernel_rfl) ?_
 have t:Hid (Below w.heap.size w (b.drew.setCell (AD q 1) (UV N))):=by have:=u.o;rw [this];exact (HB.o.drew).setCell (p:=(AD q 1)) (Nz _) _
 have e:(W.oY k).aD=N:=ad.o
 have m:Hid (mE S (b.drew.setCell (AD q 1) (UV N)) D n H F C G (W.oY k)):=by have o:=Q.o.af t.o;exact ⟨o.bz,o.next,o.bS,o.pP,o.bU,⟨o.bits.1,by rw [e];exact ae.o⟩,o.eE,o.sep⟩
 by_cases hz:W.ak&&&N=0
 ·rw [hz]at d;have x:Hid (split (Fm.neg (Fm.prop k)) (c+1) W=[W.oY k]):=by show Wy.pure (W.oY k)=_;unfold Wy.pure;rw [Oa (by show W.ak&&&(W.oY k).aD=0;rw [e];exact hz)]
  have HR:=Nq (nr (nc:=E) (xc:=I) m.o);rw [show((W.oY k).aD:Int)=(N:Int)from by rw [e]]at HR;rw [show(b.drew.setCell (AD q 1) (UV N)).heap.size=b.heap.size from P1 ..]at HR;have Y:bits BinOp.and IntKind.u64 (W.ak:Int) (N:Int)=0:=d.o;clear e hz;go_wp2;go_ret;rw [<-O.o,x.o];exact cG.from t.o HR.o
 ·have x:Hid (split (Fm.neg (Fm.prop k)) (c+1) W=[]):=by show Wy.pure (W.oY k)=_;unfold Wy.pure;rw [Of (by show¬W.ak&&&(W.oY k).aD=0;rw [e];exact hz)]
  have au:(((W.ak&&&N:Nat):Int)==0)=false:=NC.2 (by omega);have aw:((W.ak&&&N)==0)=false:=NC.2 hz;have Y:=d.o;clear e m;go_wp2;go_ret;rw [<-O.o,x.o];exact cG.from t.o (xe _ _)
def F6(o k:Fm)(S:Nat->Prop)(Q:OA)(n u:Nat)(V:OA)(y:Nat)(T:OA)(x U:Nat)(W:Wy)(fa:OA)(fc:Nat)(f:Fm)(p:Nat)(w:WD)(h:mE S w Q n V T x U W)(Z:FA w fa n f)(s:dV f)(P:(Fm.aQ f)[p]? =some (Fm.and o k))(hn:n<=1000)(ap:x<=100000):
 CL 142 #[fW W.ak W.aD Q n u V y T x U,.slice fa n fc,IV p] w (cG S w n (split (Fm.and o k) p W)):=by
 have r:=Nq λm (hb:Below w.heap.size w m)=>gd fa n fc _ f (Fm.and o k) p m (Z.af hb) (by omega) (fA s) P
 obtain ⟨X,Y,rfl,ao,F,G⟩:=Z.at P
 have an:(p:Int)<(n:Int):=by omega
 have ag:=Nq h
 have al:=Nq Z
 have HX:=Nq P
 have am:=Nq s
 change CA w X (Y+p*2) (IV 5)at F
 change CA w X (Y+p*2+1) (IV 0)at G
 obtain ⟨ah,ak,aj⟩:=Fm.dL (Fm.gC.and (a:=o) (b:=k)) f p P
 obtain ⟨L,hL⟩:=EX (p-1-Fm.size k)
 obtain ⟨M,hM⟩:=EX (p-1)
 have I:ql (Fm.and o k) p=(L:Int):=by show(p:Int)-1-Fm.size k=_;omega
 have J:tJ (Fm.and o k) p=(M:Int):=by show(p:Int)-1=_;omega
 rw [I,J]at r
 have ad:Hid (split (Fm.and o k) p W=[W.dh [L,M]]):=by show _=_;rw [<-hL,<-hM];rfl
 clear I J aj ak ah hL hM
 obtain ⟨R,hR⟩:=EX (split (Fm.and o k) p W)
 rw [hR]
 have ae:=Nq hR
 clear h Z P s hR
 go_enter QX,QH
 go_upto_region 1 with(fail)
 obtain ⟨m,t⟩:=EX (w.alloc (.cells #[UV W.ak,UV W.aD,.slice Q n u,.slice V n y,.slice T x U] 193))
 rw [t]
 obtain ⟨j,ai,hq⟩:=vr _ _ _ _ _ _ _ m t.symm
 have z:=Nq (r.o m j)
 have D:Hid (∀d,Below m.heap.size m d->Hid (Below w.heap.size w d)/\(CA d X (Y+p*2) (IV 5)/\CA d X (Y+p*2+1) (IV 0))/\Hid (w.heap.size<d.heap.size)/\
  ∀i v,(#[UV W.ak,UV W.aD,.slice Q n u,.slice V n y,.slice T x U]:Array Value)[i]? =some v->CA d w.heap.size i v/\FZ d w.heap.size i):=λd c=>
  ⟨Nq (aa j c),⟨((aa j c).cell (Nr w _ F)).trans F,((aa j c).cell (Nr w _ G)).trans G⟩,Nq (by have:=c.size;omega),λi v hv=>cW c (hq i v hv)⟩
 clear t j ai hq r F G
 (try unfold BW at *);generalize N:w.heap.size=q at *
 have B:=Nq N
 clear N
 go_upto_region 2 with(go_at_call 166;refine z.o.mono ?_;rintro e d ⟨rfl,c⟩;obtain ⟨HB,⟨F,G⟩,C,K⟩:=D.o d c;have A:=Nq K;clear c K)
 clear D z
 have E:=Nq (ag.o.af (by(try unfold BW);rw [B.o];exact HB.o))
 obtain ⟨q0,f0⟩:=A.o 0 (UV W.ak) rfl
 obtain ⟨q1,f1⟩:=A.o 1 (UV W.aD) rfl
 have q2:=(A.o 2 (.slice Q n u) rfl).1
 have q3:=(A.o 3 (.slice V n y) rfl).1
 have q4:=(A.o 4 (.slice T x U) rfl).1
 have g:Below d.heap.size d (d.alloc (.cells #[IV L,IV M] 3)):=(Nx _ _).alloc (Nz _) _
 have HC:=Nq (kh (nc:=u) (xc:=y) (E.o.af g) [L,M] _ 2 2 (DY d L M) (by decide) (by omega))
 have ac:Hid (Below q w _):=HB.o.trans (g.mono (by have:=C.o;omega))
 have l:Hid (d.heap.size<=_):=g.size
 clear g
 go_wp2_with (go_at_call 167;refine HC.o.mono ?_;rintro e w3 ⟨v,rfl,⟨aq,ar,ax,ay,au,aw,av,rfl,O⟩,H⟩;have af:=Nq O;have ab:=Nq (ac.o.trans (H.mono (by have:=C.o;have:=l.o;omega)));clear O H)
 go_ret
 rw [<-ae.o,ad.o]
 exact cG.from (by(try unfold BW);rw [B.o];exact ab.o) (nr af.o)
def F9(o:Fm)(S:Nat->Prop)(I:OA)(n r:Nat)(M:OA)(s:Nat)(J:OA)(j K:Nat)(W:Wy)(Z:OA)(fc:Nat)(f:Fm)(p:Nat)(w:WD)(h:mE S w I n M J j K W)(P:FA w Z n f)(l:dV f)(H:(Fm.aQ f)[p]? =some (Fm.cM o))(hn:n<=1000)(aj:j<=100000):
 CL 142 #[fW W.ak W.aD I n r M s J j K,.slice Z n fc,IV p] w (cG S w n (split (Fm.cM o) p W)):=by
 have k:=Nq λg (hb:Below w.heap.size w g)=>gd Z n fc _ f (Fm.cM o) p g (P.af hb) (by omega) (fA l) H
 obtain ⟨N,O,rfl,ad,A,B⟩:=P.at H
 have ai:(p:Int)<(n:Int):=by omega
 have Y:=Nq h
 have ag:=Nq P
 have HX:=Nq H
 have ah:=Nq l
 change CA w N (O+p*2) (IV 8)at A
 change CA w N (O+p*2+1) (IV 0)at B
 obtain ⟨ac,af⟩:=Fm.fR (Fm.One.cM (a:=o)) f p H
 obtain ⟨L,hL⟩:=EX (p-1)
 have D:ql (Fm.cM o) p=(L:Int):=by show(p:Int)-1=_;omega
 rw [D]at k
 have ab:L<n:=by have:=ad;omega
 have T:Hid (split (Fm.cM o) p W=[W.jh L]):=by show _=_;rw [<-hL];rfl
 clear D af ac hL
 obtain ⟨R,hR⟩:=EX (split (Fm.cM o) p W)
 rw [hR]
 have V:=Nq hR
 clear h P H l hR
 go_enter QX,QH
 go_upto_region 1 with(fail)
 obtain ⟨g,m⟩:=EX (w.alloc (.cells #[UV W.ak,UV W.aD,.slice I n r,.slice M n s,.slice J j K] 193))
 rw [m]
 obtain ⟨c,ae,hq⟩:=vr _ _ _ _ _ _ _ g m.symm
 have t:=Nq (k.o g c)
 have y:Hid (∀d,Below g.heap.size g d->Hid (Below w.heap.size w d)/\(CA d N (O+p*2) (IV 8)/\CA d N (O+p*2+1) (IV 0))/\Hid (w.heap.size<d.heap.size)/\
  ∀i v,(#[UV W.ak,UV W.aD,.slice I n r,.slice M n s,.slice J j K]:Array Value)[i]? =some v->CA d w.heap.size i v/\FZ d w.heap.size i):=λd b=>
  ⟨Nq (aa c b),⟨((aa c b).cell (Nr w _ A)).trans A,((aa c b).cell (Nr w _ B)).trans B⟩,Nq (by have:=b.size;omega),λi v hv=>cW b (hq i v hv)⟩
 clear m c ae hq k A B
 (try unfold BW at *);generalize F:w.heap.size=q at *
 have x:=Nq F
 clear F
 go_upto_region 2 with(go_at_call 166;refine t.o.mono ?_;rintro e d ⟨rfl,b⟩;obtain ⟨HB,⟨A,B⟩,U,E⟩:=y.o d b;have u:=Nq E;clear b E)
 clear y t
 have z:=Nq (Y.o.af (by(try unfold BW);rw [x.o];exact HB.o))
 obtain ⟨q0,f0⟩:=u.o 0 (UV W.ak) rfl
 obtain ⟨q1,f1⟩:=u.o 1 (UV W.aD) rfl
 have q2:=(u.o 2 (.slice I n r) rfl).1
 have q3:=(u.o 3 (.slice M n s) rfl).1
 have q4:=(u.o 4 (.slice J j K) rfl).1
 have HC:=Nq (qw (nc:=r) (xc:=s) (tl:=j) z.o L ab (by omega))
 go_wp2_with (go_at_call 168;refine HC.o.mono ?_;rintro e w3 ⟨v,rfl,⟨ak,al,ap,aq,am,ao,an,rfl,G⟩,C⟩;have X:=Nq G;have Q:=Nq (HB.o.trans (C.mono (by have:=U.o;omega)));clear G C)
 go_ret
 rw [<-V.o,T.o]
 exact cG.from (by(try unfold BW);rw [x.o];exact Q.o) (nr X.o)
def I0(I A:Fm)(S:Nat->Prop)(B:OA)(n u:Nat)(F:OA)(x:Nat)(C:OA)(z D:Nat)(W:Wy)(fa:OA)(fc:Nat)(f:Fm)(p:Nat)(w:WD)(h:mE S w B n F C z D W)(hf:FA w fa n f)(O:dV f)(hx:(Fm.aQ f)[p]? =some (Fm.or I A))(hn:n<=1000)(aD:z<=100000):
 CL 142 #[fW W.ak W.aD B n u F x C z D,.slice fa n fc,IV p] w (cG S w n (split (Fm.or I A) p W)):=by
 have J:=Nq λE (d:Below w.heap.size w E)=>gd fa n fc _ f (Fm.or I A) p E (hf.af d) (by omega) (fA O) hx
 obtain ⟨fb,fo,rfl,aC,Z,c1⟩:=hf.at hx
 have aB:(p:Int)<(n:Int):=by omega
 have ao:=Nq h
 have aw:=Nq hf
 have HX:=Nq hx
 have ax:=Nq O
 change CA w fb (fo+p*2) (IV 6)at Z
 change CA w fb (fo+p*2+1) (IV 0)at c1
 obtain ⟨ap,au,ar⟩:=Fm.dL (Fm.gC.or (a:=I) (b:=A)) f p hx
 obtain ⟨L,hL⟩:=EX (p-1-Fm.size A)
 obtain ⟨M,hM⟩:=EX (p-1)
 have ac:ql (Fm.or I A) p=(L:Int):=by show(p:Int)-1-Fm.size A=_;omega
 have ad:tJ (Fm.or I A) p=(M:Int):=by show(p:Int)-1=_;omega
 rw [ac,ad]at J
 have aj:Hid (split (Fm.or I A) p W=[W.dh [L],W.dh [M]]):=by show _=_;rw [<-hL,<-hM];rfl
 clear ac ad ar au ap hL hM
 obtain ⟨R,hR⟩:=EX (split (Fm.or I A) p W)
 rw [hR]
 have al:=Nq hR
 clear h hf hx O hR
 go_enter QX,QH
 go_upto_region 1 with(fail)
 obtain ⟨E,P⟩:=EX (w.alloc (.cells #[UV W.ak,UV W.aD,.slice B n u,.slice F n x,.slice C z D] 193))
 rw [P]
 obtain ⟨r,aq,hq⟩:=vr _ _ _ _ _ _ _ E P.symm
 have Q:=Nq (J.o E r)
 have U:Hid (∀m,Below E.heap.size E m->Hid (Below w.heap.size w m)/\(CA m fb (fo+p*2) (IV 6)/\CA m fb (fo+p*2+1) (IV 0))/\Hid (w.heap.size<m.heap.size)/\
  ∀i v,(#[UV W.ak,UV W.aD,.slice B n u,.slice F n x,.slice C z D]:Array Value)[i]? =some v->CA m w.heap.size i v/\FZ m w.heap.size i):=λm c=>
  ⟨Nq (aa r c),⟨((aa r c).cell (Nr w _ Z)).trans Z,((aa r c).cell (Nr w _ c1)).trans c1⟩,Nq (by have:=c.size;omega),λi v t=>cW c (hq i v t)⟩
 clear P r aq hq J Z c1
 (try unfold BW at *);generalize af:w.heap.size=q at *
 have T:=Nq af
 clear af
 go_upto_region 2 with(go_at_call 166;refine Q.o.mono ?_;rintro e m ⟨rfl,c⟩;obtain ⟨HB,⟨Z,c1⟩,ak,ae⟩:=U.o m c;have y:=Nq ae;clear c ae)
 clear U Q
 have X:=Nq (ao.o.af (by(try unfold BW);rw [T.o];exact HB.o))
 obtain ⟨q0,f0⟩:=y.o 0 (UV W.ak) rfl
 obtain ⟨q1,f1⟩:=y.o 1 (UV W.aD) rfl
 have q2:=(y.o 2 (.slice B n u) rfl).1
 have q3:=(y.o 3 (.slice F n x) rfl).1
 have q4:=(y.o 4 (.slice C z D) rfl).1
 go_upto_region 13 with(fail)
 refine av 8 (S:=λY=>CA Y q 0 (UV W.ak)/\CA Y q 1 (UV W.aD)/\CA Y q 2 (.slice B n u)/\CA Y q 3 (.slice F n x)/\CA Y q 4 (.slice C z D)) (by kernel_rfl) (⟨q0,q1,q2,q3,q4⟩) (λN=>?_)
 refine' az 0 ?_ [3,0]
 refine' az 1 ?_ [3,2,1]
 refine' az 4 ?_ [7,4]
 refine' az 5 ?_ [7,6,5]
 have G:Hid (mE S m.drew B n F C z D W):=X.o.af (Nx _ _).drew
 clear N
 refine cA [2,3,6,7] (λi=>if i=2 then 61 else if i=3 then 62 else if i=6 then 65 else 66) #[true,true,true,true,true,true,true,true,false,false] 2
  (λi v w=>match i with|2=>∃b,v=SV b 1 1/\aG .i64 w (some (AD b 0)) 1 (aH [L])|6=>∃b,v=SV b 1 1/\aG .i64 w (some (AD b 0)) 1 (aH [M])|3=>km S w v n (W.dh [L])|_=>km S w v n (W.dh [M])) (by kernel_rfl) (by kernel_rfl) rfl (by decide) ?st1 ?st2 (by decide) ?st3 ?st4
 case st1=>
  intro i v w4 w5 t d;split at t
  ·obtain ⟨b,e,h⟩:=t;exact ⟨b,e,h.af d⟩
  ·obtain ⟨b,e,h⟩:=t;exact ⟨b,e,h.af d⟩
  ·exact km.af t d
  ·exact km.af t d
 case st2=>intro k d;exact ⟨(cW d (y.o 0 _ rfl)).1,(cW d (y.o 1 _ rfl)).1,(cW d (y.o 2 _ rfl)).1,(cW d (y.o 3 _ rfl)).1,(cW d (y.o 4 _ rfl)).1⟩
 case st3=>
  rintro l V k i o hl aA hi H hr hJ K j;simp only [N8,O5,QD]at hi;rcases hi with rfl|rfl|rfl|rfl
  ·simp only [NT,NN,NO,N0]at H;subst H
   refine bT (v:=SV k.heap.size 1 1) (w':=k.alloc (.cells #[IV L] 3)) ?_ (j _ _ ((Nx _ _).alloc (Nz _) _) ⟨_,rfl,pw k _⟩);clear j;simp only [NQ,NZ,aP,Act.put,reduceIte,Nat.reduceEqDiff,NB,NR,NM];go_simp
  ·simp only [NT,NN,NO,N0]at H;subst H
   obtain ⟨bl,g,s⟩:=hJ.mS 2 (by decide) (aU (l:=[2]) (by kernel_rfl) hr 2 (by simp));change V 61=_ at g;refine aN (R:=iD S k n (W.dh [L])) (f:=167) (args:=#[fW W.ak W.aD B n u F x C z D,V 61]) (by rw [g];exact kh (nc:=u) (xc:=x) (G.o.af hJ.aM) [L] _ 1 1 s (by decide) (by omega)) ?_ (λe w4 ⟨v,he,t,d⟩=>⟨v,he,j v w4 d t⟩);clear j g;simp only [NQ,NZ,aP,Act.put,reduceIte,Nat.reduceEqDiff,NB,NR,NM];go_simp
  ·simp only [NT,NN,NO,N0]at H;subst H
   refine bT (v:=SV k.heap.size 1 1) (w':=k.alloc (.cells #[IV M] 3)) ?_ (j _ _ ((Nx _ _).alloc (Nz _) _) ⟨_,rfl,pw k _⟩);clear j;simp only [NQ,NZ,aP,Act.put,reduceIte,Nat.reduceEqDiff,NB,NR,NM];go_simp
  ·simp only [NT,NN,NO,N0]at H;subst H
   obtain ⟨bl,g,s⟩:=hJ.mS 6 (by decide) (aU (l:=[6]) (by kernel_rfl) hr 6 (by simp));change V 65=_ at g;refine aN (R:=iD S k n (W.dh [M])) (f:=167) (args:=#[fW W.ak W.aD B n u F x C z D,V 65]) (by rw [g];exact kh (nc:=u) (xc:=x) (G.o.af hJ.aM) [M] _ 1 1 s (by decide) (by omega)) ?_ (λe w4 ⟨v,he,t,d⟩=>⟨v,he,j v w4 d t⟩);clear j g;simp only [NQ,NZ,aP,Act.put,reduceIte,Nat.reduceEqDiff,NB,NR,NM];go_simp
 case st4=>
  intro V k ab hV;simp only [NQ,NZ,aP,Act.put,reduceIte,Nat.reduceEqDiff,NB,NR,NM];obtain ⟨aE,aJ,aT,aW,aL,aR,aO,e5,ag⟩:=hV 3 (by decide);obtain ⟨aF,aK,aV,aX,aM,aS,aQ,e6,ah⟩:=hV 7 (by decide);change V 62=_ at e5;change V 66=_ at e6;rw [e5,e6];have am:=Nq ag;have an:=Nq ah;have ai:Hid (Below q w k):=HB.o.drew.trans (Below.mono ab (by have:=HB.o.size;have:=ak.o;show q<=m.heap.size;omega));clear hV e5 e6 ag ah ab;refine aI 8 λK j=>?_;go_simp;refine j.o _ _ (λe=>nomatch e) ?_;clear j K;try walk_nrm
  refine aI 9 λK j=>?_;go_simp;refine j.o _ _ (λe=>nomatch e) ?_;clear j K;try walk_nrm
  refine ay (by kernel_rfl) ?_;go_wp2;go_ret;rw [<-al.o,aj.o];exact cG.from (by(try unfold BW);rw [T.o];exact ai.o) (xf am.o an.o)
def Gc(J B:Fm)(S:Nat->Prop)(D:OA)(n u:Nat)(H:OA)(x:Nat)(E:OA)(A F:Nat)(W:Wy)(fa:OA)(fc:Nat)(f:Fm)(p:Nat)(w:WD)(h:mE S w D n H E A F W)(hf:FA w fa n f)(P:dV f)(hx:(Fm.aQ f)[p]? =some (Fm.dw J B))(hn:n<=1000)(aO:A<=100000):
 CL 142 #[fW W.ak W.aD D n u H x E A F,.slice fa n fc,IV p] w (cG S w n (split (Fm.dw J B) p W)):=by
 have N:=Nq λG (c:Below w.heap.size w G)=>gd fa n fc _ f (Fm.dw J B) p G (hf.af c) (by omega) (fA P) hx
 obtain ⟨fb,fo,rfl,aq,c0,c1⟩:=hf.at hx
 have aM:(p:Int)<(n:Int):=by omega
 have ao:=Nq h
 have aJ:=Nq hf
 have HX:=Nq hx
 have aK:=Nq P
 change CA w fb (fo+p*2) (IV 9)at c0
 change CA w fb (fo+p*2+1) (IV 0)at c1
 obtain ⟨ap,aw,au⟩:=Fm.dL (Fm.gC.dw (a:=J) (b:=B)) f p hx
 obtain ⟨L,hL⟩:=EX (p-1-Fm.size B)
 obtain ⟨M,hM⟩:=EX (p-1)
 have ad:ql (Fm.dw J B) p=(L:Int):=by show(p:Int)-1-Fm.size B=_;omega
 have ae:tJ (Fm.dw J B) p=(M:Int):=by show(p:Int)-1=_;omega
 rw [ad,ae]at N
 have aj:Hid (split (Fm.dw J B) p W=[W.dh [M],(W.dh [L]).jh p]):=by show _=_;rw [<-hL,<-hM];rfl
 clear ad ae au aw ap hL hM
 obtain ⟨R,hR⟩:=EX (split (Fm.dw J B) p W)
 rw [hR]
 have al:=Nq hR
 clear h hf hx P hR
 go_enter QX,QH
 go_upto_region 1 with(fail)
 obtain ⟨G,T⟩:=EX (w.alloc (.cells #[UV W.ak,UV W.aD,.slice D n u,.slice H n x,.slice E A F] 193))
 rw [T]
 obtain ⟨s,ar,hq⟩:=vr _ _ _ _ _ _ _ G T.symm
 have X:=Nq (N.o G s)
 have Z:Hid (∀r,Below G.heap.size G r->Hid (Below w.heap.size w r)/\(CA r fb (fo+p*2) (IV 9)/\CA r fb (fo+p*2+1) (IV 0))/\Hid (w.heap.size<r.heap.size)/\
  ∀i v,(#[UV W.ak,UV W.aD,.slice D n u,.slice H n x,.slice E A F]:Array Value)[i]? =some v->CA r w.heap.size i v/\FZ r w.heap.size i):=λr d=>
  ⟨Nq (aa s d),⟨((aa s d).cell (Nr w _ c0)).trans c0,((aa s d).cell (Nr w _ c1)).trans c1⟩,Nq (by have:=d.size;omega),λi v k=>cW d (hq i v k)⟩
 clear T s ar hq N c0 c1
 (try unfold BW at *);generalize ag:w.heap.size=q at *
 have Y:=Nq ag
 clear ag
 go_upto_region 2 with(go_at_call 166;refine X.o.mono ?_;rintro e r ⟨rfl,d⟩;obtain ⟨HB,⟨c0,c1⟩,ak,af⟩:=Z.o r d;have y:=Nq af;clear d af)
 clear Z X
 have ab:=Nq (ao.o.af (by(try unfold BW);rw [Y.o];exact HB.o))
 obtain ⟨q0,f0⟩:=y.o 0 (UV W.ak) rfl
 obtain ⟨q1,f1⟩:=y.o 1 (UV W.aD) rfl
 have q2:=(y.o 2 (.slice D n u) rfl).1
 have q3:=(y.o 3 (.slice H n x) rfl).1
 have q4:=(y.o 4 (.slice E A F) rfl).1
 go_upto_region 17 with(fail)
 refine av 10 (S:=λW'=>CA W' q 0 (UV W.ak)/\CA W' q 1 (UV W.aD)/\CA W' q 2 (.slice D n u)/\CA W' q 3 (.slice H n x)/\CA W' q 4 (.slice E A F)) (by kernel_rfl) (⟨q0,q1,q2,q3,q4⟩) (λO=>?_)
 refine' az 0 ?_ [3,0]
 refine' az 1 ?_ [3,2,1]
 refine' az 4 ?_ [9,7,4]
 refine' az 5 ?_ [9,7,6,5]
 refine' az 8 ?_ [9,8]
 have I:Hid (mE S r.drew D n H E A F W):=ab.o.af (Nx _ _).drew
 clear O
 refine cA [2,3,6,7,9] (λi=>if i=2 then 78 else if i=3 then 79 else if i=6 then 82 else if i=7 then 83 else 85) #[true,true,true,true,true,true,true,true,true,true,false,false] 2
  (λi v w=>match i with|2=>∃b,v=SV b 1 1/\aG .i64 w (some (AD b 0)) 1 (aH [M])|6=>∃b,v=SV b 1 1/\aG .i64 w (some (AD b 0)) 1 (aH [L])|3=>km S w v n (W.dh [M])|7=>km S w v n (W.dh [L])|_=>km S w v n ((W.dh [L]).jh p)) (by kernel_rfl) (by kernel_rfl) rfl (by decide) ?st1 ?st2 (by decide) ?st3 ?st4
 case st1=>
  intro i v U w5 k c;split at k
  ·obtain ⟨b,e,h⟩:=k;exact ⟨b,e,h.af c⟩
  ·obtain ⟨b,e,h⟩:=k;exact ⟨b,e,h.af c⟩
  ·exact km.af k c
  ·exact km.af k c
  ·exact km.af k c
 case st2=>intro m c;exact ⟨(cW c (y.o 0 _ rfl)).1,(cW c (y.o 1 _ rfl)).1,(cW c (y.o 2 _ rfl)).1,(cW c (y.o 3 _ rfl)).1,(cW c (y.o 4 _ rfl)).1⟩
 case st3=>
  rintro l V m i o hl aL hi z hr hJ K g;simp only [N8,O5,QD]at hi;rcases hi with rfl|rfl|rfl|rfl|rfl
  ·simp only [NT,NN,NO,N0]at z;subst z
   refine bT (v:=SV m.heap.size 1 1) (w':=m.alloc (.cells #[IV M] 3)) ?_ (g _ _ ((Nx _ _).alloc (Nz _) _) ⟨_,rfl,pw m _⟩);clear g;simp only [NQ,NZ,aP,Act.put,reduceIte,Nat.reduceEqDiff,NB,NR,NM];go_simp
  ·simp only [NT,NN,NO,N0]at z;subst z
   obtain ⟨bl,j,t⟩:=hJ.mS 2 (by decide) (aU (l:=[2]) (by kernel_rfl) hr 2 (by simp));change V 78=_ at j;refine aN (R:=iD S m n (W.dh [M])) (f:=167) (args:=#[fW W.ak W.aD D n u H x E A F,V 78]) (by rw [j];exact kh (nc:=u) (xc:=x) (I.o.af hJ.aM) [M] _ 1 1 t (by decide) (by omega)) ?_ (λe U ⟨v,he,k,c⟩=>⟨v,he,g v U c k⟩);clear g j;simp only [NQ,NZ,aP,Act.put,reduceIte,Nat.reduceEqDiff,NB,NR,NM];go_simp
  ·simp only [NT,NN,NO,N0]at z;subst z
   refine bT (v:=SV m.heap.size 1 1) (w':=m.alloc (.cells #[IV L] 3)) ?_ (g _ _ ((Nx _ _).alloc (Nz _) _) ⟨_,rfl,pw m _⟩);clear g;simp only [NQ,NZ,aP,Act.put,reduceIte,Nat.reduceEqDiff,NB,NR,NM];go_simp
  ·simp only [NT,NN,NO,N0]at z;subst z
   obtain ⟨bl,j,t⟩:=hJ.mS 6 (by decide) (aU (l:=[6]) (by kernel_rfl) hr 6 (by simp));change V 82=_ at j;refine aN (R:=iD S m n (W.dh [L])) (f:=167) (args:=#[fW W.ak W.aD D n u H x E A F,V 82]) (by rw [j];exact kh (nc:=u) (xc:=x) (I.o.af hJ.aM) [L] _ 1 1 t (by decide) (by omega)) ?_ (λe U ⟨v,he,k,c⟩=>⟨v,he,g v U c k⟩);clear g j;simp only [NQ,NZ,aP,Act.put,reduceIte,Nat.reduceEqDiff,NB,NR,NM];go_simp
  ·simp only [NT,NN,NO,N0]at z;subst z
   obtain ⟨ax,aA,aE,aF,aB,aD,aC,Q,C⟩:=hJ.mS 7 (by decide) (aU (l:=[7]) (by kernel_rfl) hr 7 (by simp));change V 83=_ at Q;refine aN (R:=iD S m n (Wy.jh (W.dh [L]) p)) (f:=168) (args:=#[V 83,IV p]) (by rw [Q];exact qw C p aq (by omega)) ?_ (λe U ⟨v,he,k,c⟩=>⟨v,he,g v U c k⟩);clear g Q;simp only [NQ,NZ,aP,Act.put,reduceIte,Nat.reduceEqDiff,NB,NR,NM];go_simp
 case st4=>
  intro V m ac hV;simp only [NQ,NZ,aP,Act.put,reduceIte,Nat.reduceEqDiff,NB,NR,NM];obtain ⟨ax,aA,aE,aF,aB,aD,aC,e5,C⟩:=hV 3 (by decide);obtain ⟨aQ,aR,aW,aX,aS,aV,aT,e6,ah⟩:=hV 9 (by decide);change V 79=_ at e5;change V 85=_ at e6;rw [e5,e6];have am:=Nq C;have an:=Nq ah;have ai:Hid (Below q w m):=HB.o.drew.trans (Below.mono ac (by have:=HB.o.size;have:=ak.o;show q<=r.heap.size;omega));clear hV e5 e6 C ah ac;refine aI 10 λK g=>?_;go_simp;refine g.o _ _ (λe=>nomatch e) ?_;clear g K;try walk_nrm
  refine aI 11 λK g=>?_;go_simp;refine g.o _ _ (λe=>nomatch e) ?_;clear g K;try walk_nrm
  refine ay (by kernel_rfl) ?_;go_wp2;go_ret;rw [<-al.o,aj.o];exact cG.from (by(try unfold BW);rw [Y.o];exact ai.o) (xf am.o an.o)
def Gb(J B:Fm)(S:Nat->Prop)(D:OA)(n u:Nat)(H:OA)(x:Nat)(E:OA)(A F:Nat)(W:Wy)(fa:OA)(fc:Nat)(f:Fm)(p:Nat)(w:WD)(h:mE S w D n H E A F W)(hf:FA w fa n f)(P:dV f)(hx:(Fm.aQ f)[p]? =some (Fm.rel J B))(hn:n<=1000)(aO:A<=100000):
 CL 142 #[fW W.ak W.aD D n u H x E A F,.slice fa n fc,IV p] w (cG S w n (split (Fm.rel J B) p W)):=by
 have N:=Nq λG (c:Below w.heap.size w G)=>gd fa n fc _ f (Fm.rel J B) p G (hf.af c) (by omega) (fA P) hx
 obtain ⟨fb,fo,rfl,aq,c0,c1⟩:=hf.at hx
 have aM:(p:Int)<(n:Int):=by omega
 have ao:=Nq h
 have aJ:=Nq hf
 have HX:=Nq hx
 have aK:=Nq P
 change CA w fb (fo+p*2) (IV 10)at c0
 change CA w fb (fo+p*2+1) (IV 0)at c1
 obtain ⟨ap,aw,au⟩:=Fm.dL (Fm.gC.rel (a:=J) (b:=B)) f p hx
 obtain ⟨L,hL⟩:=EX (p-1-Fm.size B)
 obtain ⟨M,hM⟩:=EX (p-1)
 have ad:ql (Fm.rel J B) p=(L:Int):=by show(p:Int)-1-Fm.size B=_;omega
 have ae:tJ (Fm.rel J B) p=(M:Int):=by show(p:Int)-1=_;omega
 rw [ad,ae]at N
 have aj:Hid (split (Fm.rel J B) p W=[W.dh [L,M],(W.dh [M]).jh p]):=by show _=_;rw [<-hL,<-hM];rfl
 clear ad ae au aw ap hL hM
 obtain ⟨R,hR⟩:=EX (split (Fm.rel J B) p W)
 rw [hR]
 have al:=Nq hR
 clear h hf hx P hR
 go_enter QX,QH
 go_upto_region 1 with(fail)
 obtain ⟨G,T⟩:=EX (w.alloc (.cells #[UV W.ak,UV W.aD,.slice D n u,.slice H n x,.slice E A F] 193))
 rw [T]
 obtain ⟨s,ar,hq⟩:=vr _ _ _ _ _ _ _ G T.symm
 have X:=Nq (N.o G s)
 have Z:Hid (∀r,Below G.heap.size G r->Hid (Below w.heap.size w r)/\(CA r fb (fo+p*2) (IV 10)/\CA r fb (fo+p*2+1) (IV 0))/\Hid (w.heap.size<r.heap.size)/\
  ∀i v,(#[UV W.ak,UV W.aD,.slice D n u,.slice H n x,.slice E A F]:Array Value)[i]? =some v->CA r w.heap.size i v/\FZ r w.heap.size i):=λr d=>
  ⟨Nq (aa s d),⟨((aa s d).cell (Nr w _ c0)).trans c0,((aa s d).cell (Nr w _ c1)).trans c1⟩,Nq (by have:=d.size;omega),λi v k=>cW d (hq i v k)⟩
 clear T s ar hq N c0 c1
 (try unfold BW at *);generalize ag:w.heap.size=q at *
 have Y:=Nq ag
 clear ag
 go_upto_region 2 with(go_at_call 166;refine X.o.mono ?_;rintro e r ⟨rfl,d⟩;obtain ⟨HB,⟨c0,c1⟩,ak,af⟩:=Z.o r d;have y:=Nq af;clear d af)
 clear Z X
 have ab:=Nq (ao.o.af (by(try unfold BW);rw [Y.o];exact HB.o))
 obtain ⟨q0,f0⟩:=y.o 0 (UV W.ak) rfl
 obtain ⟨q1,f1⟩:=y.o 1 (UV W.aD) rfl
 have q2:=(y.o 2 (.slice D n u) rfl).1
 have q3:=(y.o 3 (.slice H n x) rfl).1
 have q4:=(y.o 4 (.slice E A F) rfl).1
 go_upto_region 19 with(fail)
 refine av 11 (S:=λW'=>CA W' q 0 (UV W.ak)/\CA W' q 1 (UV W.aD)/\CA W' q 2 (.slice D n u)/\CA W' q 3 (.slice H n x)/\CA W' q 4 (.slice E A F)) (by kernel_rfl) (⟨q0,q1,q2,q3,q4⟩) (λO=>?_)
 refine' az 0 ?_ [4,0]
 refine' az 1 ?_ [4,3,1]
 refine' az 2 ?_ [4,3,2]
 refine' az 5 ?_ [10,8,5]
 refine' az 6 ?_ [10,8,7,6]
 refine' az 9 ?_ [10,9]
 have I:Hid (mE S r.drew D n H E A F W):=ab.o.af (Nx _ _).drew
 clear O
 refine cA [3,4,7,8,10] (λi=>if i=3 then 92 else if i=4 then 93 else if i=7 then 96 else if i=8 then 97 else 99) #[true,true,true,true,true,true,true,true,true,true,true,false,false] 2
  (λi v w=>match i with|3=>∃b,v=SV b 2 2/\aG .i64 w (some (AD b 0)) 2 (aH [L,M])|7=>∃b,v=SV b 1 1/\aG .i64 w (some (AD b 0)) 1 (aH [M])|4=>km S w v n (W.dh [L,M])|8=>km S w v n (W.dh [M])|_=>km S w v n ((W.dh [M]).jh p)) (by kernel_rfl) (by kernel_rfl) rfl (by decide) ?st1 ?st2 (by decide) ?st3 ?st4
 case st1=>
  intro i v U w5 k c;split at k
  ·obtain ⟨b,e,h⟩:=k;exact ⟨b,e,h.af c⟩
  ·obtain ⟨b,e,h⟩:=k;exact ⟨b,e,h.af c⟩
  ·exact km.af k c
  ·exact km.af k c
  ·exact km.af k c
 case st2=>intro m c;exact ⟨(cW c (y.o 0 _ rfl)).1,(cW c (y.o 1 _ rfl)).1,(cW c (y.o 2 _ rfl)).1,(cW c (y.o 3 _ rfl)).1,(cW c (y.o 4 _ rfl)).1⟩
 case st3=>
  rintro l V m i o hl aL hi z hr hJ K g;simp only [N8,O5,QD]at hi;rcases hi with rfl|rfl|rfl|rfl|rfl
  ·simp only [NT,NN,NO,N0]at z;subst z
   refine bT (v:=SV m.heap.size 2 2) (w':=m.alloc (.cells #[IV L,IV M] 3)) ?_ (g _ _ ((Nx _ _).alloc (Nz _) _) ⟨_,rfl,DY m _ _⟩);clear g;simp only [NQ,NZ,aP,Act.put,reduceIte,Nat.reduceEqDiff,NB,NR,NM];go_simp
  ·simp only [NT,NN,NO,N0]at z;subst z
   obtain ⟨bl,j,t⟩:=hJ.mS 3 (by decide) (aU (l:=[3]) (by kernel_rfl) hr 3 (by simp));change V 92=_ at j;refine aN (R:=iD S m n (W.dh [L,M])) (f:=167) (args:=#[fW W.ak W.aD D n u H x E A F,V 92]) (by rw [j];exact kh (nc:=u) (xc:=x) (I.o.af hJ.aM) [L,M] _ 2 2 t (by decide) (by omega)) ?_ (λe U ⟨v,he,k,c⟩=>⟨v,he,g v U c k⟩);clear g j;simp only [NQ,NZ,aP,Act.put,reduceIte,Nat.reduceEqDiff,NB,NR,NM];go_simp
  ·simp only [NT,NN,NO,N0]at z;subst z
   refine bT (v:=SV m.heap.size 1 1) (w':=m.alloc (.cells #[IV M] 3)) ?_ (g _ _ ((Nx _ _).alloc (Nz _) _) ⟨_,rfl,pw m _⟩);clear g;simp only [NQ,NZ,aP,Act.put,reduceIte,Nat.reduceEqDiff,NB,NR,NM];go_simp
  ·simp only [NT,NN,NO,N0]at z;subst z
   obtain ⟨bl,j,t⟩:=hJ.mS 7 (by decide) (aU (l:=[7]) (by kernel_rfl) hr 7 (by simp));change V 96=_ at j;refine aN (R:=iD S m n (W.dh [M])) (f:=167) (args:=#[fW W.ak W.aD D n u H x E A F,V 96]) (by rw [j];exact kh (nc:=u) (xc:=x) (I.o.af hJ.aM) [M] _ 1 1 t (by decide) (by omega)) ?_ (λe U ⟨v,he,k,c⟩=>⟨v,he,g v U c k⟩);clear g j;simp only [NQ,NZ,aP,Act.put,reduceIte,Nat.reduceEqDiff,NB,NR,NM];go_simp
  ·simp only [NT,NN,NO,N0]at z;subst z
   obtain ⟨ax,aA,aE,aF,aB,aD,aC,Q,C⟩:=hJ.mS 8 (by decide) (aU (l:=[8]) (by kernel_rfl) hr 8 (by simp));change V 97=_ at Q;refine aN (R:=iD S m n (Wy.jh (W.dh [M]) p)) (f:=168) (args:=#[V 97,IV p]) (by rw [Q];exact qw C p aq (by omega)) ?_ (λe U ⟨v,he,k,c⟩=>⟨v,he,g v U c k⟩);clear g Q;simp only [NQ,NZ,aP,Act.put,reduceIte,Nat.reduceEqDiff,NB,NR,NM];go_simp
 case st4=>
  intro V m ac hV;simp only [NQ,NZ,aP,Act.put,reduceIte,Nat.reduceEqDiff,NB,NR,NM];obtain ⟨ax,aA,aE,aF,aB,aD,aC,e5,C⟩:=hV 4 (by decide);obtain ⟨aQ,aR,aW,aX,aS,aV,aT,e6,ah⟩:=hV 10 (by decide);change V 93=_ at e5;change V 99=_ at e6;rw [e5,e6];have am:=Nq C;have an:=Nq ah;have ai:Hid (Below q w m):=HB.o.drew.trans (Below.mono ac (by have:=HB.o.size;have:=ak.o;show q<=r.heap.size;omega));clear hV e5 e6 C ah ac;refine aI 11 λK g=>?_;go_simp;refine g.o _ _ (λe=>nomatch e) ?_;clear g K;try walk_nrm
  refine aI 12 λK g=>?_;go_simp;refine g.o _ _ (λe=>nomatch e) ?_;clear g K;try walk_nrm
  refine ay (by kernel_rfl) ?_;go_wp2;go_ret;rw [<-al.o,aj.o];exact cG.from (by(try unfold BW);rw [Y.o];exact ai.o) (xf am.o an.o)
def Qa:=@beq_self_eq_true
def Qq:=@List.any_eq_true
def Sv:=@List.mem_iff_getElem
def ld{a:List Int}{c:Int->Bool}(h:∀i,i<a.length->c (a.getD i 0)=false):a.any c=false:=by rw [List.any_eq_false];intro z d;obtain ⟨i,b,rfl⟩:=Sv.1 d;have:=h i b;rw [Nw,Ny b]at this;simpa using this
def mJ{a:List Int}{c:Int->Bool}{i:Nat}(b:i<a.length)(h:c (a.getD i 0)=true):a.any c=true:=by rw [Qq];refine ⟨a.getD i 0,?_,h⟩;rw [Nw,Ny b];exact OR b
def pf{a:List Int}{i:Nat}(b:i<a.length):a.getD i 0∈a:=by rw [Nw,Ny b];exact OR b
def xy(a:OA)(n c:Nat)(d:List Int)(o:Value)(l:Int->Bool)(w:WD)(h:aG .i64 w a n d)(N:n<=4611686018427387903)
 (E:∀z∈d,CL 165 #[IV z,o] w λe A=>e=RT (.bool (l z))/\A=w):
 CL 84 #[.slice a n c,.func (.func 165) #[] #[o]] w λe A=>∃r:Int,e=RT (IV r)/\A=w/\decide (0<=r)=d.any l:=by
 have F:=Nq E
 have t:Hid (d.length=n):=h.1
 have G:=Nq h
 clear h E
 go_enter Tryz.func84,Tryz.ntmps84
 go_wp2
 go_loopw [8] (λx wr=>∃k:Nat,k<=n/\x=IV k/\wr=w/\Hid (∀i,i<k->l (d.getD i 0)=false)) (λx _=>n-(intOf x).toNat)
 exact ⟨0,NS _,rfl,rfl,Nq λi I=>by omega⟩
 obtain ⟨k,M,rfl,u,C⟩:=hrel
 subst u
 by_cases g:k<n
 have D:(k:Int)<(n:Int):=by omega
 obtain ⟨-,L|⟨b,J,rfl,B⟩⟩:=G.o
 omega
 have H:=B k g
 have q:=Nq (F.o _ (pf (i:=k) (by rw [t.o];exact g)))
 have s:Hid (∀p,l (d.getD k 0)=p->l (d.getD k 0)=p):=λp h=>h
 clear B
 obtain ⟨y,j⟩:=EX (l (d.getD k 0))
 rw [j]at q
 have f:=Nq j
 clear j s
 obtain ⟨z,v⟩:=EX (d.getD k 0)
 rw [v]at H q f
 have m:=Nq v
 clear v
 cases y
 go_wp2_with (go_at_call 165;refine q.o.mono ?_;rintro e K ⟨rfl,rfl⟩)
 go_roundw
 case rel=>exact ⟨k+1,by omega,by go_num,(by first|trivial|rfl),Nq λi I=>by by_cases e:i=k;subst e;rw [m.o];exact f.o;exact C.o i (by omega)⟩
 case measure=>simp [intOf];omega
 go_wp2_with (go_at_call 165;refine q.o.mono ?_;rintro e K ⟨rfl,rfl⟩)
 go_ret
 exact ⟨_,rfl,rfl,by rw [mJ (i:=k) (by rw [t.o];exact g) (by rw [m.o];exact f.o)];exact N6 (by omega)⟩
 obtain rfl:k=n:=by omega
 go_wp2
 go_ret
 exact ⟨_,rfl,rfl,by rw [ld (by rw [t.o];exact C.o)];rfl⟩
def zg(a:OA)(n c:Nat)(d:List Int)(b:Value)(f:Int->Bool)(w:WD)(h:aG .i64 w a n d)(m:n<=4611686018427387903)
 (i:∀z∈d,CL 165 #[IV z,b] w λe g=>e=RT (.bool (f z))/\g=w):
 CL 46 #[.slice a n c,.func (.func 165) #[] #[b]] w λe g=>e=RT (.bool (d.any f))/\g=w:=by
 have k:=Nq (xy a n c d b f w h m i)
 clear h i
 go_enter Tryz.func46,Tryz.ntmps46
 go_wp2_with (go_at_call 84;refine k.o.mono ?_;rintro e o ⟨r,rfl,rfl,j⟩;have l:=Nq j;clear j)
 go_ret
 exact ⟨by rw [<-l.o];rfl,rfl⟩
def zq(a:OA)(n c:Nat)(d:List Int)(o:Value)(l:Int->Bool)(w:WD)(h:aG .i64 w a n d)(N:n<=4611686018427387903)
 (E:∀z∈d,CL 45 #[IV z,o] w λe A=>e=RT (.bool (l z))/\A=w):
 CL 84 #[.slice a n c,.func (.func 45) #[] #[o]] w λe A=>∃r:Int,e=RT (IV r)/\A=w/\decide (0<=r)=d.any l:=by
 have F:=Nq E
 have t:Hid (d.length=n):=h.1
 have G:=Nq h
 clear h E
 go_enter Tryz.func84,Tryz.ntmps84
 go_wp2
 go_loopw [8] (λx wr=>∃k:Nat,k<=n/\x=IV k/\wr=w/\Hid (∀i,i<k->l (d.getD i 0)=false)) (λx _=>n-(intOf x).toNat)
 exact ⟨0,NS _,rfl,rfl,Nq λi I=>by omega⟩
 obtain ⟨k,M,rfl,u,C⟩:=hrel
 subst u
 by_cases g:k<n
 have D:(k:Int)<(n:Int):=by omega
 obtain ⟨-,L|⟨b,J,rfl,B⟩⟩:=G.o
 omega
 have H:=B k g
 have q:=Nq (F.o _ (pf (i:=k) (by rw [t.o];exact g)))
 have s:Hid (∀p,l (d.getD k 0)=p->l (d.getD k 0)=p):=λp h=>h
 clear B
 obtain ⟨y,j⟩:=EX (l (d.getD k 0))
 rw [j]at q
 have f:=Nq j
 clear j s
 obtain ⟨z,v⟩:=EX (d.getD k 0)
 rw [v]at H q f
 have m:=Nq v
 clear v
 cases y
 go_wp2_with (go_at_call 45;refine q.o.mono ?_;rintro e K ⟨rfl,rfl⟩)
 go_roundw
 case rel=>exact ⟨k+1,by omega,by go_num,(by first|trivial|rfl),Nq λi I=>by by_cases e:i=k;subst e;rw [m.o];exact f.o;exact C.o i (by omega)⟩
 case measure=>simp [intOf];omega
 go_wp2_with (go_at_call 45;refine q.o.mono ?_;rintro e K ⟨rfl,rfl⟩)
 go_ret
 exact ⟨_,rfl,rfl,by rw [mJ (i:=k) (by rw [t.o];exact g) (by rw [m.o];exact f.o)];exact N6 (by omega)⟩
 obtain rfl:k=n:=by omega
 go_wp2
 go_ret
 exact ⟨_,rfl,rfl,by rw [ld (by rw [t.o];exact C.o)];rfl⟩
def Ay(a:OA)(n c:Nat)(d:List Int)(b:Value)(f:Int->Bool)(w:WD)(h:aG .i64 w a n d)(m:n<=4611686018427387903)
 (i:∀z∈d,CL 45 #[IV z,b] w λe g=>e=RT (.bool (f z))/\g=w):
 CL 46 #[.slice a n c,.func (.func 45) #[] #[b]] w λe g=>e=RT (.bool (d.any f))/\g=w:=by
 have k:=Nq (zq a n c d b f w h m i)
 clear h i
 go_enter Tryz.func46,Tryz.ntmps46
 go_wp2_with (go_at_call 84;refine k.o.mono ?_;rintro e o ⟨r,rfl,rfl,j⟩;have l:=Nq j;clear j)
 go_ret
 exact ⟨by rw [<-l.o];rfl,rfl⟩
def zr(a:OA)(n c:Nat)(d:List Int)(o:Value)(l:Int->Bool)(w:WD)(h:aG .i64 w a n d)(N:n<=4611686018427387903)
 (E:∀z∈d,CL 52 #[IV z,o] w λe A=>e=RT (.bool (l z))/\A=w):
 CL 84 #[.slice a n c,.func (.func 52) #[] #[o]] w λe A=>∃r:Int,e=RT (IV r)/\A=w/\decide (0<=r)=d.any l:=by
 have F:=Nq E
 have t:Hid (d.length=n):=h.1
 have G:=Nq h
 clear h E
 go_enter Tryz.func84,Tryz.ntmps84
 go_wp2
 go_loopw [8] (λx wr=>∃k:Nat,k<=n/\x=IV k/\wr=w/\Hid (∀i,i<k->l (d.getD i 0)=false)) (λx _=>n-(intOf x).toNat)
 exact ⟨0,NS _,rfl,rfl,Nq λi I=>by omega⟩
 obtain ⟨k,M,rfl,u,C⟩:=hrel
 subst u
 by_cases g:k<n
 have D:(k:Int)<(n:Int):=by omega
 obtain ⟨-,L|⟨b,J,rfl,B⟩⟩:=G.o
 omega
 have H:=B k g
 have q:=Nq (F.o _ (pf (i:=k) (by rw [t.o];exact g)))
 have s:Hid (∀p,l (d.getD k 0)=p->l (d.getD k 0)=p):=λp h=>h
 clear B
 obtain ⟨y,j⟩:=EX (l (d.getD k 0))
 rw [j]at q
 have f:=Nq j
 clear j s
 obtain ⟨z,v⟩:=EX (d.getD k 0)
 rw [v]at H q f
 have m:=Nq v
 clear v
 cases y
 go_wp2_with (go_at_call 52;refine q.o.mono ?_;rintro e K ⟨rfl,rfl⟩)
 go_roundw
 case rel=>exact ⟨k+1,by omega,by go_num,(by first|trivial|rfl),Nq λi I=>by by_cases e:i=k;subst e;rw [m.o];exact f.o;exact C.o i (by omega)⟩
 case measure=>simp [intOf];omega
 go_wp2_with (go_at_call 52;refine q.o.mono ?_;rintro e K ⟨rfl,rfl⟩)
 go_ret
 exact ⟨_,rfl,rfl,by rw [mJ (i:=k) (by rw [t.o];exact g) (by rw [m.o];exact f.o)];exact N6 (by omega)⟩
 obtain rfl:k=n:=by omega
 go_wp2
 go_ret
 exact ⟨_,rfl,rfl,by rw [ld (by rw [t.o];exact C.o)];rfl⟩
def Az(a:OA)(n c:Nat)(d:List Int)(b:Value)(f:Int->Bool)(w:WD)(h:aG .i64 w a n d)(m:n<=4611686018427387903)
 (i:∀z∈d,CL 52 #[IV z,b] w λe g=>e=RT (.bool (f z))/\g=w):
 CL 46 #[.slice a n c,.func (.func 52) #[] #[b]] w λe g=>e=RT (.bool (d.any f))/\g=w:=by
 have k:=Nq (zr a n c d b f w h m i)
 clear h i
 go_enter Tryz.func46,Tryz.ntmps46
 go_wp2_with (go_at_call 84;refine k.o.mono ?_;rintro e o ⟨r,rfl,rfl,j⟩;have l:=Nq j;clear j)
 go_ret
 exact ⟨by rw [<-l.o];rfl,rfl⟩
def Cx(a:OA)(n c:Nat)(j:List Int)(x:Int)(w:WD)(h:aG .i64 w a n j)(F:n<=4611686018427387903):
 CL 147 #[.slice a n c,IV x] w λe C=>∃r:Int,e=RT (IV r)/\C=w/\decide (0<=r)=j.any (λz=>x==z):=by
 have o:Hid (j.length=n):=h.1
 have t:=Nq h
 clear h
 go_enter Tryz.func147,Tryz.ntmps147
 go_wp2
 go_loopw [8] (λy wr=>∃k:Nat,k<=n/\y=IV k/\wr=w/\Hid (∀i,i<k->(λz=>x==z) (j.getD i 0)=false)) (λy _=>n-(intOf y).toNat)
 exact ⟨0,NS _,rfl,rfl,Nq λi v=>by omega⟩
 obtain ⟨k,E,rfl,l,q⟩:=hrel
 subst l
 by_cases g:k<n
 have s:(k:Int)<(n:Int):=by omega
 obtain ⟨-,D|⟨b,A,rfl,p⟩⟩:=t.o
 omega
 have u:=p k g
 clear p
 obtain ⟨z,m⟩:=EX (j.getD k 0)
 rw [m]at u
 have f:=Nq m
 clear m
 by_cases d:x=z
 subst d
 go_wp2
 go_ret
 refine ⟨_,rfl,rfl,?_⟩
 rw [mJ (i:=k) (by rw [o.o];exact g) (by rw [f.o];exact Qa x)]
 exact N6 (by omega)
 have B:(x==z)=false:=NC.2 d
 have G:(z==x)=false:=NC.2 (λe=>d e.symm)
 go_wp2
 go_roundw
 case rel=>exact ⟨k+1,by omega,by go_num,(by first|trivial|rfl),Nq λi v=>by by_cases e:i=k;subst e;show(x==_)=false;rw [f.o];exact B;exact q.o i (by omega)⟩
 case measure=>simp [intOf];omega
 obtain rfl:k=n:=by omega
 go_wp2
 go_ret
 exact ⟨_,rfl,rfl,by rw [ld (by rw [o.o];exact q.o)];rfl⟩
def jJ(a:OA)(n c:Nat)(b:List Int)(x:Int)(w:WD)(h:aG .i64 w a n b)(j:n<=4611686018427387903):
 CL 110 #[.slice a n c,IV x] w λe l=>e=RT (.bool (decide (x∈b)))/\l=w:=by
 have g:=Nq (Cx a n c b x w h j)
 have d:Hid (b.any (λz=>x==z)=decide (x∈b)):=by show _=_;rw [Bool.eq_iff_iff,Qq,OP];exact ⟨λ⟨z,k,e⟩=>by rw [eq_of_beq e];exact k,λh=>⟨x,h,Qa x⟩⟩
 clear h
 go_enter Tryz.func110,Tryz.ntmps110
 go_wp2_with (go_at_call 147;refine g.o.mono ?_;rintro e m ⟨r,rfl,rfl,f⟩;have i:=Nq f;clear f)
 go_ret
 exact ⟨by rw [<-d.o,<-i.o];rfl,rfl⟩
def F7(x:Fm)(v:Fm.gI x)(S:Nat->Prop)(e:OA)(n o:Nat)(j:OA)(q:Nat)(g:OA)(c i:Nat)(W:Wy)(d:OA)(m:Nat)(f:Fm)(p:Nat)(w:WD)(h:mE S w e n j g c i W)(s:FA w d n f)(a:dV f)(u:(Fm.aQ f)[p]? =some x)(t:n<=1000)(b:c<=100000):
 CL 142 #[fW W.ak W.aD e n o j q g c i,.slice d n m,IV p] w (cG S w n (split x p W)):=by
 cases x with
 |tt=>exact I1 S e n o j q g c i W d m f p w h s a u t b
 |ff=>exact IX S e n o j q g c i W d m f p w h s a u t b
 |prop k=>exact Dj k S e n o j q g c i W d m f p w h s a u t b
 |neg y=>
  cases y with
  |prop k=>exact F8 k S e n o j q g c i W d m f p w h s a u t b
  |_=>exact v.elim
 |and l r=>exact F6 l r S e n o j q g c i W d m f p w h s a u t b
 |or l r=>exact I0 l r S e n o j q g c i W d m f p w h s a u t b
 |cM l=>exact F9 l S e n o j q g c i W d m f p w h s a u t b
 |dw l r=>exact Gc l r S e n o j q g c i W d m f p w h s a u t b
 |rel l r=>exact Gb l r S e n o j q g c i W d m f p w h s a u t b
 |imp l r=>exact v.elim
 |fin l=>exact v.elim
 |ep l=>exact v.elim
def Fe(z:Int)(q n c:Nat)(a:OA)(w:WD)(g:CA w q 0 (.slice a n c))(d:0<=z)(f:z<(n:Int))(h:n<=1000):
 CL 165 #[IV z,PT q] w λe b=>e=RT (.bool false)/\b=w:=by
 have i:decide (z<0)=false:=NX (by omega)
 have j:decide ((n:Int)<=z)=false:=NX (by omega)
 have k:¬(n:Int)<=z:=by omega
 have l:¬z<0:=by omega
 go_enter Tryz.func165,Tryz.ntmps165
 go_wp2
 go_ret
 exact ⟨rfl,rfl⟩
def Hf(b:OA)(n c:Nat)(f:Fm)(s:OA)(m u:Nat)(a:List Nat)(w:WD)(y:FA w b n f)(x:Fm.gI f)(l:dV f)(I:n<=50)(r:aG .i64 w s m (aH a))(k:∀p∈a,p<n)(H:m<=1000000):
 CL 139 #[.slice b n c,.slice s m u] w λe o=>e=RT (.bool true)/\BW w o:=by
 have j:Hid (∀h,h=w.alloc (.cells #[.slice b n c] 22)->CA h w.heap.size 0 (.slice b n c)/\BW w h/\CL 76 #[.slice b n c] h λe o=>e=RT (.bool true)/\BW h o):=by rintro h rfl;have d:BW w (w.alloc (.cells #[.slice b n c] 22)):=(Nx _ w).alloc (Nz _) _;exact ⟨NV (w:=w) _ 22 w.heap.size 0 rfl,d,zz b n c f _ (y.af d) x l (by omega)⟩
 have C:Hid (∀g,BW w g->CA g w.heap.size 0 (.slice b n c)->CL 46 #[.slice s m u,.func (.func 165) #[] #[PT w.heap.size]] g λe o=>e=RT (.bool false)/\o=g):=λg d q=>by
  have:=zg s m u (aH a) (PT w.heap.size) (λ_=>false) g (r.af d) (by omega) (λz A=>by unfold aH at A;obtain ⟨p,r,rfl⟩:=OC.1 A;exact Fe _ _ n c b g q (by omega) (by have:=k p r;omega) (by omega))
  rwa [ld (λ_ _=>rfl)]at this
 have G:(n:Int)<=50:=by omega
 clear y x l r k
 go_enter Tryz.func139,Tryz.ntmps139
 go_upto_region 1 with(fail)
 obtain ⟨v,d,q⟩:=j.o _ rfl
 have B:=Nq d
 have D:=Nq q
 have E:Hid (w.heap.size<(w.alloc (.cells #[.slice b n c] 22)).heap.size):=Nr _ _ v
 clear d q j
 generalize w.alloc (.cells #[.slice b n c] 22)=h at *
 go_wp2_with (first
  |(go_at_call 76;refine D.o.mono ?_;rintro e g ⟨rfl,d⟩;have F:=(d.cell E.o).trans v;have i:=Nq (aa B.o d);have t:=Nq (C.o g i.o F);clear d)
  |(go_at_call 46;refine t.o.mono ?_;rintro e J ⟨rfl,rfl⟩))
 go_ret
 exact ⟨rfl,i.o⟩
section
open Go.Maps
def Tj:=@Go.WalkArith.wf_i64
def Tryz.nE:laidOutB Tryz.prog=true:=by kernel_rfl
def Tryz.IK:(199:TypeId)<Tryz.prog.types.size:=PL (by kernel_rfl)
def Tryz.KJ:(match Tryz.prog.underlying 199 with|some (.array _ _)|some (.struct _)=>true|_=>false)=true:=by kernel_rfl
def Hw:Keyed Tryz.prog 199:=Keyed.of_law (deep_law_laid Tryz.nE (m:=2) (by omega) Tryz.IK (by kernel_rfl) Tryz.KJ)
def Tryz.LR:(127:TypeId)<Tryz.prog.types.size:=PL (by kernel_rfl)
def Tryz.KI:(match Tryz.prog.underlying 127 with|some (.array _ _)|some (.struct _)=>true|_=>false)=true:=by kernel_rfl
def Hv:Keyed Tryz.prog 127:=Keyed.of_law (deep_law_laid Tryz.nE (m:=2) (by omega) Tryz.LR (by kernel_rfl) Tryz.KI)
def lW:Keyed Tryz.prog 3:=int_keyed SL
def Mq:Keyed Tryz.prog 9:=string_keyed QP
def Bt:∃m,Tryz.prog.types.size=m+1:=⟨Tryz.prog.types.size-1,by have h:(199:Nat)<Tryz.prog.types.size:=Tryz.IK;omega⟩
def LB{z:Int}(h:(Lit.int .i64 z).wf=true):keyOf Tryz.prog 3 (.int .i64 z)=some (.int .i64 z):=keyOf_int_mk SL h
def iG{n:Nat}(h:n<=4611686018427387903):keyOf Tryz.prog 3 (.int .i64 (n:Int))=some (.int .i64 (n:Int)):=LB (Tj (by omega))
def Lz{a b:Int}(f:(Lit.int .i64 a).wf=true)(g:(Lit.int .i64 b).wf=true):∃i,keyOf Tryz.prog 127 (.agg #[IV a,IV b])=some i:=by
 obtain ⟨m,h⟩:=Bt;have d:Tryz.prog.keyType 127=true:=by kernel_rfl
 have c:Tryz.prog.cellsOf 127=2:=by kernel_rfl
 have e:Tryz.prog.cellsOf 3=1:=by kernel_rfl
 unfold keyOf;simp only [Tryz.underlying127,d,Value.formed,c,Value.cells];simp [h,Program.keyLits,Tryz.underlying127,SL,c,e,f,g,List.mapM_cons]
def LA{a b:Int}{s t:ByteArray}(g:(Lit.int .u64 a).wf=true)(h:(Lit.int .u64 b).wf=true)(j:s.size<=maxLen)(k:t.size<=maxLen):
 ∃l,keyOf Tryz.prog 199 (.agg #[UV a,UV b,.string s,.string t])=some l:=by
 obtain ⟨m,i⟩:=Bt
 have d:Tryz.prog.keyType 199=true:=by kernel_rfl
 have c:Tryz.prog.cellsOf 199=4:=by kernel_rfl
 have e:Tryz.prog.cellsOf 45=1:=by kernel_rfl
 have f:Tryz.prog.cellsOf 9=1:=by kernel_rfl
 unfold keyOf
 simp only [Tryz.underlying199,d,Value.formed,c,Value.cells]
 simp [i,Program.keyLits,Tryz.underlying199,Tryz.underlying45,QP,c,e,f,g,h,j,k,List.mapM_cons]
def O1:=@Nat.pow_le_pow_right
def PY:=@Nat.mul_le_mul_right
def Qz:=@Nat.succ_mul
def Rj:=@List.filter_congr
def SP:=@Nat.one_le_two_pow
def mC(n:Nat)(W:Wy):Value:=.agg #[UV W.ak,UV W.aD,.string (fX n W.next),.string (fX n W.bz)]
def x8{n:Nat}{f g:Nat->Bool}(h:fX n f=fX n g):(List.range n).filter f=(List.range n).filter g:=by
 have d:jD n f=jD n g:=by have:=P5 (λb:ByteArray=>b.data.toList) h;simpa [fX]using this
 refine Rj λi c=>?_;have c:i<n:=Oq.1 c;have a:(jD n f)[i]? =(jD n g)[i]? :=by rw [d]
 unfold jD at a;rw [Oh,Oh,Pt c]at a;have a:=OJ a;cases e:f i<;>cases j:g i<;>simp [e,j]at a⊢
def Ht{n:Nat}{W Z:Wy}(h:mC n W=mC n Z):bH n W=bH n Z:=by unfold mC at h;simp only [Value.agg.injEq,Array.mk.injEq,Pz,Value.int.injEq,Value.string.injEq,true_and,and_true]at h;obtain ⟨c,d,a,b⟩:=h;unfold bH;rw [x8 a,x8 b,show W.ak=Z.ak from by omega,show W.aD=Z.aD from by omega]
def By{x:Fm}{p:Nat}{w:Wy}:(split x p w).length<=2:=by
 unfold split;split<;>first
  |(simp;done)
  |(unfold Wy.pure;split<;>simp)
def Dk{x:Fm}{p:Nat}{w c:Wy}(h:c∈split x p w):c.bS.length<=w.bS.length+2:=by
 have a:∀{v c:Wy},c∈v.pure->c.bS=v.bS:=λh=>by rw [hO h]
 unfold split at h;split at h;rw [Nv.1 h];omega;rw [a h];show w.bS.length<=_;omega;rw [a h];show w.bS.length<=_;omega;rw [Nv.1 h];show([_,_]++w.bS).length<=_;simp;rcases N8.1 h with rfl|h;show([_]++w.bS).length<=_;simp;rw [Nv.1 h];show([_]++w.bS).length<=_;simp;rw [Nv.1 h];show w.bS.length<=_;omega;rcases N8.1 h with rfl|h;show([_]++w.bS).length<=_;simp;rw [Nv.1 h];show([_]++w.bS).length<=_;simp;rcases N8.1 h with rfl|h;show([_,_]++w.bS).length<=_;simp;rw [Nv.1 h];show([_]++w.bS).length<=_;simp;cases h
def IY{x:Fm}{p n:Nat}{w c:Wy}(g:p<n)(hw:∀q∈w.bS,q<n)(h:c∈split x p w):∀q∈c.bS,q<n:=by
 have d:∀{v c:Wy},c∈v.pure->c.bS=v.bS:=λh=>by rw [hO h]
 have a:∀(v:Wy)(l:List Nat),v.bS=l++w.bS->(∀q∈l,q<n)->∀q∈v.bS,q<n:=λv l e f q b=>by rw [e]at b;rcases NY.1 b with h|h;exact f q h;exact hw q h
 unfold split at h;split at h;rw [Nv.1 h];exact hw;rw [d h];exact hw;rw [d h];exact hw;rw [Nv.1 h];exact a _ [_,_] rfl (λq b=>by simp at b;omega);rcases N8.1 h with rfl|h;exact a _ [_] rfl (λq b=>by simp at b;omega);rw [Nv.1 h];exact a _ [_] rfl (λq b=>by simp at b;omega);rw [Nv.1 h];exact hw;rcases N8.1 h with rfl|h;exact a _ [_] rfl (λq b=>by simp at b;omega);rw [Nv.1 h];exact a _ [_] rfl (λq b=>by simp at b;omega);rcases N8.1 h with rfl|h;exact a _ [_,_] rfl (λq b=>by simp at b;omega);rw [Nv.1 h];exact a _ [_] rfl (λq b=>by simp at b;omega);cases h
def yE{x:Fm}{p:Nat}{w c:Wy}(h:c∈split x p w):c.bz=w.bz:=by
 have a:∀{v c:Wy},c∈v.pure->c.bz=v.bz:=λh=>by rw [hO h]
 unfold split at h;split at h;rw [Nv.1 h];rw [a h];rfl;rw [a h];rfl;rw [Nv.1 h];rfl;rcases N8.1 h with rfl|h;rfl;rw [Nv.1 h];rfl;rw [Nv.1 h];rfl;rcases N8.1 h with rfl|h;rfl;rw [Nv.1 h];rfl;rcases N8.1 h with rfl|h;rfl;rw [Nv.1 h];rfl;cases h
def vP(f:Fm)(p:Nat):Bool:=match(Fm.aQ f)[p]? with|some x=>tk (Fm.aO x).1==2|none=>false
def dx(f:Fm)(w:Wy):Nat:=((List.range (Fm.size f)).filter λp=>!w.bz p&&vP f p).length
def Ga{x:Fm}{p:Nat}{w:Wy}(h:tk (Fm.aO x).1≠2):(split x p w).length<=1:=by
 cases x with
 |tt=>exact Nz _
 |ff=>exact NS _
 |prop n=>show((w.kH n).pure).length<=1;unfold Wy.pure;split<;>simp
 |neg a=>
  cases a with
  |prop n=>show((w.oY n).pure).length<=1;unfold Wy.pure;split<;>simp
  |_=>exact NS _
 |cM a=>exact Nz _
 |fin a=>exact NS _
 |ep a=>exact NS _
 |and a b=>exact Nz _
 |or a b=>exact absurd rfl h
 |imp a b=>exact NS _
 |dw a b=>exact absurd rfl h
 |rel a b=>exact absurd rfl h
def mP{α:Type}{p q:α->Bool}(h:∀x,p x=true->q x=true):∀(l:List α),(l.filter p).length<=(l.filter q).length
 |[]=>Nz _
 |a::l=>by have d:=mP h l;by_cases b:p a=true;rw [Pa b,Pa (h a b),Ou,Ou];omega;rw [O9 b];by_cases c:q a=true;rw [Pa c,Ou];omega;rw [O9 c];exact d
def re{f:Fm}{w v:Wy}(h:∀q,w.bz q=true->v.bz q=true):dx f v<=dx f w:=by
 unfold dx;refine mP (λa b=>?_) _;rw [OB,QN]at b⊢;refine ⟨?_,b.2⟩;cases c:w.bz a
 rfl;rw [h a c]at b;cases b.1
def AN{f:Fm}{w:Wy}{p:Nat}(g:p<Fm.size f)(d:w.bz p=false)(c:vP f p=true):dx f (w.dE p)<dx f w:=by unfold dx;refine jU (λq b=>?_) _ ⟨p,Oq.2 g,by rw [d,c];rfl,?_⟩;rw [OB,QN]at b⊢;refine ⟨?_,b.2⟩;have a:up w.bz p true q=false:=b.1;by_cases e:q=p;subst e;rw [aB]at a;cases a;rwa [an _ _ _ _ e]at a;show(!up w.bz p true p&&vP f p)=false;rw [aB];rfl
def mR{α β:Type}{g:α->List β}{B:Nat}:∀(l:List α),(∀x∈l,(g x).length<=B)->(l.flatMap g).length<=l.length*B
 |[],_=>NS _
 |a::l,h=>by rw [List.flatMap_cons,NH,Ou,Qz];have c:=h a (Ok ..);have d:=mR l (λx b=>h x (Ot _ b));omega
def AK{f:Fm}:∀(m:Nat)(w:Wy),(ey f m w).length<=2^dx f w
 |0,w=>NS _
 |m+1,w=>by
  unfold ey;cases t:im w.bz w.bS with
  |nil=>exact SP
  |cons p r=>
   simp only;cases j:(Fm.aQ f)[p]? with
   |none=>exact NS _
   |some x=>
    simp only;have g:p<Fm.size f:=(NK.1 j).1;have b:=(qE t).1;have a:∀c∈split x p (Wy.dE {w with bS:=r} p),(ey f m c).length<=2^dx f (w.dE p):=λc s=>by refine N5 (AK m c) (O1 (by decide) (re λq h=>?_));rw [yE s];exact h
    by_cases i:tk (Fm.aO x).1=2;have k:=AN g b (by unfold vP;rw [j];simp [i]);have l:=mR _ a;have d:=By (x:=x) (p:=p) (w:=Wy.dE {w with bS:=r} p);have n:2^dx f (w.dE p)*2<=2^dx f w:=by rw [<-Nat.pow_succ];exact O1 (by decide) k
    have o:=PY (2^dx f (w.dE p)) d;omega;have l:=mR _ a;have d:=Ga (p:=p) (w:=Wy.dE {w with bS:=r} p) i;have n:2^dx f (w.dE p)<=2^dx f w:=O1 (by decide) (re λq h=>by show up w.bz p true q=true;by_cases e:q=p;subst e;exact aB _ _ _;rw [an _ _ _ _ e];exact h)
    have o:=PY (2^dx f (w.dE p)) d;omega
def KF:∀(f:Fm),2*((Fm.aQ f).filter λx=>tk (Fm.aO x).1==2).length+1<=Fm.size f:=by
 have g:∀{x:Fm},Fm.nN x->2*((Fm.aQ x).filter λx=>tk (Fm.aO x).1==2).length+1<=Fm.size x:=λ{x} h=>by
  have e:((Fm.aQ x).filter λx=>tk (Fm.aO x).1==2)=[]:=by rw [h.aQ,O9 (by rw [Em h];decide)];rfl
  rw [e,h.size];exact Nz _
 have j:∀{a x:Fm},Fm.One a x->2*((Fm.aQ a).filter λx=>tk (Fm.aO x).1==2).length+1<=Fm.size a->2*((Fm.aQ x).filter λx=>tk (Fm.aO x).1==2).length+1<=Fm.size x:=λ{a x} h k=>by rw [h.aQ,OL,NH,O9 (by rw [I7 h];decide),h.size];simp;omega
 have i:∀{a b x:Fm},Fm.gC a b x->2*((Fm.aQ a).filter λx=>tk (Fm.aO x).1==2).length+1<=Fm.size a->2*((Fm.aQ b).filter λx=>tk (Fm.aO x).1==2).length+1<=Fm.size b->2*((Fm.aQ x).filter λx=>tk (Fm.aO x).1==2).length+1<=Fm.size x:=λ{a b x} h c d=>by rw [h.aQ,OL,NH,OL,NH,Pa (by rw [I8 h];decide),h.size];simp;omega
 intro f;induction f with
 |tt=>exact g .tt
 |ff=>exact g .ff
 |prop n=>exact g (.prop n)
 |neg a k=>exact j .neg k
 |cM a k=>exact j .cM k
 |fin a k=>exact j .fin k
 |ep a k=>exact j .ep k
 |and a b c d=>exact i .and c d
 |or a b c d=>exact i .or c d
 |imp a b c d=>exact i .imp c d
 |dw a b c d=>exact i .dw c d
 |rel a b c d=>exact i .rel c d
def vH{α:Type}(P:α->Bool)(l:List α):∀n,n<=l.length->((List.range n).filter λp=>match l[p]? with|some x=>P x|none=>false).length=((l.take n).filter P).length
 |0,_=>rfl
 |n+1,h=>by have b:n<l.length:=h;rw [OZ,OL,NH,vH P l n (by omega),OG,Ny b,OL,NH];congr 1;by_cases a:P l[n]=true;rw [Pa (by rw [Ny b];exact a)];show _=(List.filter P [l[n]]).length;rw [Pa a];rfl;rw [O9 (by rw [Ny b];exact a)];show _=(List.filter P [l[n]]).length;rw [O9 a];rfl
def vJ{f:Fm}(m:Nat)(w:Wy)(j:Fm.size f<=50):(ey f m w).length<=16777216:=by
 have e:=AK (f:=f) m w;have g:dx f w<=24:=by
  have b:dx f w<=((List.range (Fm.size f)).filter λp=>vP f p).length:=by unfold dx;refine mP (λa d=>?_) _;rw [OB]at d;exact d.2
  have c:=vH (λx:Fm=>tk (Fm.aO x).1==2) (Fm.aQ f) (Fm.size f) (Nz _);rw [show(Fm.aQ f).take (Fm.size f)=Fm.aQ f from Oe (Nz _)]at c;have h:=KF f;have i:((List.range (Fm.size f)).filter λp=>vP f p).length=((Fm.aQ f).filter λx=>tk (Fm.aO x).1==2).length:=by rw [<-c];congr 1;refine Rj λp _=>?_;unfold vP;cases (Fm.aQ f)[p]? <;>rfl
  omega
 have b:2^dx f w<=2^24:=O1 (by decide) g;exact N5 e b
end
section
open Go.Maps
def Tryz.DU:(Tryz.prog.info? 119).map (λi=>(i.zero,i.size,i.bytes))=some (some (.agg #[UV 0,UV 0,SN,SN]),4,64):=by kernel_rfl
def dZ:List Wy->List (bu×bu)->List Value
 |W::L,r::rs=>UV W.ak::UV W.aD::jP r.1::jP r.2::dZ L rs
 |_,_=>[]
def pd:∀(L:List Wy)(rs:List (bu×bu))(W:Wy)(r:bu×bu),rs.length=L.length->dZ (L++[W]) (rs++[r])=dZ L rs++[UV W.ak,UV W.aD,jP r.1,jP r.2]
 |[],[],_,_,_=>rfl
 |_::L,_::rs,W,r,h=>by show _::_::_::_::dZ (L++[W]) (rs++[r])=_;rw [pd L rs W r (by simpa using h)];rfl
 |[],_::_,_,_,h=>by simp at h
 |_::_,[],_,_,h=>by simp at h
def qV:∀(L:List Wy)(rs:List (bu×bu))(j:Nat)(W:Wy)(r:bu×bu),L[j]? =some W->rs[j]? =some r->
 (dZ L rs)[j*4]? =some (UV W.ak)/\(dZ L rs)[j*4+1]? =some (UV W.aD)/\(dZ L rs)[j*4+2]? =some (jP r.1)/\(dZ L rs)[j*4+3]? =some (jP r.2)
 |W::L,r::rs,0,_,_,a,b=>by cases a;cases b;exact ⟨rfl,rfl,rfl,rfl⟩
 |_::L,_::rs,j+1,W,r,a,b=>by
  have c:=qV L rs j W r a b;have e:(j+1)*4=j*4+1+1+1+1:=by omega
  rw [e];exact c
 |[],_,_,_,_,a,_=>by simp at a
 |_::_,[],_,_,_,_,b=>by simp at b
def Lb(w:WD)(a:OA):Prop:=∀b o,a=some (AD b o)->b<w.heap.size
def fj(w:WD)(S:Nat->Prop)(n:Nat)(W:Wy)(r:bu×bu):Prop:=
 aG .i64 w r.1.1 r.1.2.1 (cI W.next n)/\aG .i64 w r.2.1 r.2.2.1 (cI W.bz n)/\nP S r.1.1/\nP S r.2.1/\Lb w r.1.1/\Lb w r.2.1/\(r.1.1=none->r.1.2.1=0/\r.1.2.2=0)/\(r.2.1=none->r.2.2.1=0/\r.2.2.2=0)
def cS(w:WD)(S:Nat->Prop)(n:Nat):List Wy->List (bu×bu)->Prop
 |[],[]=>True
 |W::L,r::rs=>fj w S n W r/\cS w S n L rs
 |_,_=>False
def cS.bC{w:WD}{S:Nat->Prop}{n:Nat}:∀{L:List Wy}{rs:List (bu×bu)},cS w S n L rs->rs.length=L.length
 |[],[],_=>rfl
 |_::L,_::rs,h=>by rw [Ou,Ou,cS.bC h.2]
 |[],_::_,h=>h.elim
 |_::_,[],h=>h.elim
def cS.map{w c:WD}{S a:Nat->Prop}{n:Nat}(b:∀W r,fj w S n W r->fj c a n W r):∀{L:List Wy}{rs:List (bu×bu)},cS w S n L rs->cS c a n L rs
 |[],[],_=>PO
 |_::L,_::rs,h=>⟨b _ _ h.1,cS.map b h.2⟩
 |[],_::_,h=>h
 |_::_,[],h=>h
def cS.snoc{w:WD}{S:Nat->Prop}{n:Nat}{W:Wy}{r:bu×bu}(hw:fj w S n W r):∀{L:List Wy}{rs:List (bu×bu)},cS w S n L rs->cS w S n (L++[W]) (rs++[r])
 |[],[],_=>⟨hw,PO⟩
 |_::L,_::rs,h=>⟨h.1,cS.snoc hw h.2⟩
 |[],_::_,h=>h.elim
 |_::_,[],h=>h.elim
def cS.at{w:WD}{S:Nat->Prop}{n:Nat}:∀{L:List Wy}{rs:List (bu×bu)},cS w S n L rs->∀(j:Nat)(W:Wy),L[j]? =some W->∃r,rs[j]? =some r/\fj w S n W r
 |[],[],_,_,_,h=>by simp at h
 |_::L,r::rs,h,0,_,e=>by cases e;exact ⟨r,rfl,h.1⟩
 |_::L,_::rs,h,j+1,W,e=>cS.at h.2 j W e
 |[],_::_,h,_,_,_=>h.elim
 |_::_,[],h,_,_,_=>h.elim
def cF{k:IntKind}{S:Nat->Prop}{w d:WD}{a:OA}{n:Nat}{f:List Int}(h:aG k w a n f)(m:aj S w d)(o:nP S a):aG k d a n f:=by refine ⟨h.1,?_⟩;rcases h.2 with g|⟨b,c,e,j⟩;exact .inl g;exact .inr ⟨b,c,e,λi l=>m.aq (j i l) (o b c e)⟩
def dW.aA{S:Nat->Prop}{w d:WD}{a:OA}{n:Nat}{f:Nat->Bool}(h:dW w a n f)(k:aj S w d)(l:nP S a):dW d a n f:=by obtain ⟨b,c,e,g⟩:=h;exact ⟨b,c,e,λi j=>k.aq (g i j) (l b c e)⟩
def La(w:WD)(a:OA):Prop:=∀b o,a=some (AD b o)->w.heap.size<=b
def eL(bo mb:Nat)(vo:Value)(k:Nat):Prop:=k=bo\/k=mb\/vo.ownBlock=some k
open Classical in
noncomputable def tL(n:Nat)(L:List Wy)(a:Value):Option Value:=if∃W∈L,a=mC n W then some (.bool true)else none
def BE{n:Nat}{L:List Wy}{W Z:Wy}(h:W∈L)(e:mC n Z=mC n W):tL n L (mC n Z)=some (.bool true):=by unfold tL;rw [Oa ⟨W,h,e⟩]
def KA{n:Nat}{L:List Wy}{Z:Wy}(h:∀W∈L,mC n Z≠mC n W):tL n L (mC n Z)=none:=by unfold tL;rw [Of (λ⟨W,a,e⟩=>h W a e)]
def Gj{n:Nat}{L:List Wy}{Z:Wy}(x:Value):tL n (L++[Z]) x=qK (tL n L) (mC n Z) (some (.bool true)) x:=by by_cases e:x=mC n Z;subst e;rw [eZ];exact BE (W:=Z) (by simp) rfl;rw [cT _ _ _ _ e];unfold tL;by_cases h:∃W∈L,x=mC n W;rw [Oa h,Oa];obtain ⟨W,b,e⟩:=h;exact ⟨W,Oo _ b,e⟩;rw [Of h,Of];rintro ⟨W,b,c⟩;rcases NY.1 b with a|a;exact h ⟨W,a,c⟩;rw [Nv]at a;subst a;exact e c
structure Gt (w0 w:WD) (n bf bg bt bo mb:Nat) (fv gv vo:Value) (L:List Wy) (rs:List (bu×bu)):Prop where
 cf:w.cell? (AD bf 0)=some fv
 cg:w.cell? (AD bg 0)=some gv
 ct:w.cell? (AD bt 0)=some (.map (some mb))
 co:w.cell? (AD bo 0)=some vo
 fo:w.frozen? (AD bo 0)=false
 cK:w.ownsRow 0 119 4 vo L.length (dZ L rs)
 bG:cS w (eL bo mb vo) n L rs
 map:cE Tryz.prog 199 w mb L.length (tL n L)
 ap:(bf≠bo/\bg≠bo/\bt≠bo/\mb≠bo)/\bf≠mb/\bg≠mb/\bt≠mb
 GZ:∀k,vo.ownBlock=some k->k≠bf/\k≠bg/\k≠bt/\k≠bo/\k≠mb
 dJ:w0.heap.size<=bo/\w0.heap.size<=mb/\∀k,vo.ownBlock=some k->w0.heap.size<=k
 aM:BW w0 w
 bL:∀r∈rs,La w0 r.1.1/\La w0 r.2.1
section
variable {w0 w w1:WD} {n bf bg bt bo mb:Nat} {fv gv vo:Value} {L:List Wy} {rs:List (bu×bu)}
def Gt.eE(h:Gt w0 w n bf bg bt bo mb fv gv vo L rs):∀k,eL bo mb vo k->k<w.heap.size:=λk a=>by rcases a with rfl|rfl|a;exact Nr w _ h.co;exact h.map.lt;exact dj h.cK k a
def fj.af{S:Nat->Prop}{W:Wy}{r:bu×bu}(h:fj w S n W r)(a:BW w w1):fj w1 S n W r:=⟨h.1.af a,h.2.1.af a,h.2.2.1,h.2.2.2.1,λb o e=>NL (h.2.2.2.2.1 b o e) a.size,λb o e=>NL (h.2.2.2.2.2.1 b o e) a.size,h.2.2.2.2.2.2⟩
def Gt.af(h:Gt w0 w n bf bg bt bo mb fv gv vo L rs)(a:BW w w1):Gt w0 w1 n bf bg bt bo mb fv gv vo L rs:=
 ⟨(a.cell (Nr w _ h.cf)).trans h.cf,(a.cell (Nr w _ h.cg)).trans h.cg,(a.cell (Nr w _ h.ct)).trans h.ct,(cW a ⟨h.co,h.fo⟩).1,(cW a ⟨h.co,h.fo⟩).2,
  bm h.cK (aj.aF a) (λg e s=>OI _ (NL (dj h.cK g e) s)),cS.map (λ_ _ h=>h.af a) h.bG,h.map.af a,h.ap,h.GZ,h.dJ,h.aM.trans (a.mono h.aM.size),h.bL⟩
def Gt.dB{w2 w3 w4:WD}{Z:Wy}{c:Value}{G H:OA}{K Y M yc:Nat}(h:Gt w0 w n bf bg bt bo mb fv gv vo L rs)
 (hm:cE Tryz.prog 199 w2 mb (L.length+1) (qK (tL n L) (mC n Z) (some (.bool true)))) (V:aj (λk=>k=mb) w w2) (N:BW w2 w3)
 (hx:aG .i64 w3 G K (cI Z.next n)) (x:∀b o,G=some (AD b o)->w2.heap.size<=b/\b<w3.heap.size) (Q:G=none->K=0/\Y=0) (hy:aG .i64 w3 H M (cI Z.bz n)) (y:∀b o,H=some (AD b o)->w2.heap.size<=b/\b<w3.heap.size) (R:H=none->M=0/\yc=0)
 (h4:w4.ownsRow 0 119 4 c (L.length+1) (dZ L rs++[UV Z.ak,UV Z.aD,.slice G K Y,.slice H M yc])) (X:aj (λk=>vo.ownBlock=some k) w3 w4) (m4:∀k,c.ownBlock=some k->vo.ownBlock=some k\/w3.heap.size<=k):
 Gt w0 (w4.setCell (AD bo 0) c) n bf bg bt bo mb fv gv c (L++[Z]) (rs++[((G,K,Y),(H,M,yc))])/\aj (eL bo mb vo) w (w4.setCell (AD bo 0) c)/\(∀k,c.ownBlock=some k->vo.ownBlock=some k\/w.heap.size<=k):=by
 have j:=h.eE
 have l:∀{q:Nat}{v:Value},CA w q 0 v->q<w.heap.size:=λhc=>Nr w _ hc
 have s2:=V.size
 have s3:=N.size
 have s4:=X.size
 have U:aj (λk=>k=mb) w w3:=V.then (T:=λk=>w2.heap.size<=k) (aj.aF N) (λi hi hT=>by omega)
 have C:aj (λk=>k=mb\/vo.ownBlock=some k) w w4:=(U.mono (λ_ _ e=>.inl e)).then (T:=λk=>vo.ownBlock=some k) X (λ_ _ e=>.inr e)
 have d:aj (eL bo mb vo) w (w4.setCell (AD bo 0) c):=(C.mono (T:=eL bo mb vo) (λ_ _ e=>.inr e)).setCell (p:=(AD bo 0)) (λ_=>.inl rfl) _
 have F:∀k,c.ownBlock=some k->vo.ownBlock=some k\/w.heap.size<=k:=λk m=>(m4 k m).imp id (λh=>by omega)
 have D:c.ownBlock≠some bo:=λe=>by rcases F bo e with e|e;exact (h.GZ bo e).2.2.2.1 rfl;have:=l h.co;omega
 have O:CA w4 bo 0 vo:=C.aq h.co (λe=>by rcases e with e|e;exact h.ap.1.2.2.2 e.symm;exact (h.GZ bo e).2.2.2.1 rfl)
 have B:∀{q:Nat},q≠bo->q≠mb->(∀k,vo.ownBlock=some k->k≠q)->¬eL bo mb vo q:=λI J h3 e=>by rcases e with e|e|e;exact I e;exact J e;exact h3 _ e rfl
 have A:∀{a:OA},(∀b o,a=some (AD b o)->w2.heap.size<=b/\b<w3.heap.size)->nP (eL bo mb c) a:=λP b o e s=>by obtain ⟨I,J⟩:=P b o e;rcases s with s|s|s;have:=j bo (.inl rfl);omega;have:=j mb (.inr (.inl rfl));omega;rcases m4 b s with s|s;have:=j b (.inr (.inr s));omega;omega
 have u:aj (λk=>k=bo\/vo.ownBlock=some k) w3 (w4.setCell (AD bo 0) c):=(X.mono (T:=λk=>k=bo\/vo.ownBlock=some k) (λ_ _ e=>.inr e)).setCell (p:=(AD bo 0)) (λ_=>.inl rfl) _
 have t:∀{a:OA},(∀b o,a=some (AD b o)->w2.heap.size<=b/\b<w3.heap.size)->nP (λk=>k=bo\/vo.ownBlock=some k) a:=λP b o e s=>by obtain ⟨I,J⟩:=P b o e;rcases s with s|s;have:=j bo (.inl rfl);omega;have:=j b (.inr (.inr s));omega
 refine ⟨⟨?_,?_,?_,?_,?_,?_,?_,?_,h.ap,?_,⟨h.dJ.1,h.dJ.2.1,?_⟩,?_,?_⟩,d,F⟩
 exact d.aq h.cf (B h.ap.1.1 h.ap.2.1 (λk m=>(h.GZ k m).1))
 exact d.aq h.cg (B h.ap.1.2.1 h.ap.2.2.1 (λk m=>(h.GZ k m).2.1))
 exact d.aq h.ct (B h.ap.1.2.2.1 h.ap.2.2.2 (λk m=>(h.GZ k m).2.2.1))
 exact Oj (h:=O) ..
 rw [OH]
 exact (N7 (C.block bo (l h.co) (λe=>by rcases e with e|e;exact h.ap.1.2.2.2 e.symm;exact (h.GZ bo e).2.2.2.1 rfl))).trans h.fo
 rw [NH,pd L rs Z _ (cS.bC h.bG)]
 exact bm h4 ((aj.refl (λk=>k=bo) w4).setCell (p:=(AD bo 0)) (λ_=>rfl) _) (λg e s=>D (by rw [e,s]))
 refine cS.snoc ⟨cF hx u (t x),cF hy u (t y),A x,A y,λb o e=>by rw [P1];have:=(x b o e).2;omega,λb o e=>by rw [P1];have:=(y b o e).2;omega,Q,R⟩ (cS.map (λW r f=>?_) h.bG)
 have z:∀k,k<w.heap.size->eL bo mb c k->eL bo mb vo k:=λk m e=>by rcases e with e|e|e;exact .inl e;exact .inr (.inl e);rcases F k e with e|e;exact .inr (.inr e);omega
 have E:w.heap.size<=(w4.setCell (AD bo 0) c).heap.size:=d.size
 exact ⟨cF f.1 d f.2.2.1,cF f.2.1 d f.2.2.2.1,λb o e s=>f.2.2.1 b o e (z b (f.2.2.2.2.1 b o e) s),λb o e s=>f.2.2.2.1 b o e (z b (f.2.2.2.2.2.1 b o e) s),λb o e=>NL (f.2.2.2.2.1 b o e) E,λb o e=>NL (f.2.2.2.2.2.1 b o e) E,f.2.2.2.2.2.2⟩
 refine cE.ext ?_ (Gj (L:=L) (Z:=Z))
 rw [NH]
 refine (hm.af N).aA (S:=λk=>k=bo\/vo.ownBlock=some k) u (λe=>?_)
 rcases e with e|e
 exact h.ap.1.2.2.2 e
 exact (h.GZ mb e).2.2.2.2 rfl
 intro k m
 rcases F k m with e|e
 exact h.GZ k e
 have I:=l h.cf
 have J:=l h.cg
 have h3:=l h.ct
 have h4:=l h.co
 have h5:=h.map.lt
 omega
 intro k m
 rcases F k m with e|e
 exact h.dJ.2.2 k e
 exact N5 h.aM.size e
 refine h.aM.trans (d.af h.aM.size (λk l e=>?_))
 rcases e with e|e|e
 have:=h.dJ.1;omega
 have:=h.dJ.2.1;omega
 have:=h.dJ.2.2 k e;omega
 intro r f
 rcases NY.1 f with f|f
 exact h.bL r f
 rw [Nv]at f;subst f
 have:=h.aM.size
 have:=V.size
 exact ⟨λb o e=>by have:=(x b o e).1;omega,λb o e=>by have:=(y b o e).1;omega⟩
end
end
section
open Go.Maps
def On:=@Go.Value.slice.inj
def PW:=@Go.results_none
def QC:=@Go.bodyPost_end
def Rk:=@List.size_toArray
def xk(n:Nat)(L a F:List Wy):Prop:=(∀Z∈a,Z∈L\/Z∈F)/\(∀Z∈L,Z∈a)/\(∀Z∈F,∃Y∈a,bH n Y=bH n Z)/\a.length<=L.length+F.length
def xk.refl(n:Nat)(L:List Wy):xk n L L []:=⟨λ_ h=>.inl h,λ_ h=>h,λ_ h=>(by cases h),Nz _⟩
def xk.trans{n:Nat}{A B C F G:List Wy}(h:xk n A B F)(k:xk n B C G):xk n A C (F++G):=by refine ⟨λZ b=>?_,λZ b=>k.2.1 Z (h.2.1 Z b),λZ b=>?_,by rw [NH];have:=h.2.2.2;have:=k.2.2.2;omega⟩;rcases k.1 Z b with a|a;exact (h.1 Z a).imp id (Oo _);exact .inr (OO _ a);rcases NY.1 b with a|a;obtain ⟨Y,c,e⟩:=h.2.2.1 Z a;exact ⟨Y,k.2.1 Y c,e⟩;exact k.2.2.1 Z a
def BV(q w:WD)(n i j m d f:Nat)(o p g:Value)(L F:List Wy)(e:Ending)(h:WD):Prop:=
 e=RT (.tuple #[])/\∃a c b,Gt q h n i j m d f o p a c b/\xk n L c F/\aj (eL d f g) w h/\∀k,a.ownBlock=some k->g.ownBlock=some k\/w.heap.size<=k
abbrev Gw(a b d c:Nat):Value:=.func (.func 140) #[] #[PT a,PT b,PT d,PT c]
structure Gv (S:Nat->Prop) (w:WD) (na:OA) (n:Nat) (xa ta:OA) (tl tc:Nat) (W:Wy):Prop where
 bz:dW w na n W.bz
 next:dW w xa n W.next
 bS:aG .i64 w ta tl (aH W.bS)
 BD:(∃a b,ta=some (AD a b)/\a<w.heap.size)\/ta=none/\tl=0
 bU:tl<=tc/\tc<=maxLen
 bits:W.ak<18446744073709551616/\W.aD<18446744073709551616
 eE:∀k,S k->k<w.heap.size
 sep:nP S na/\nP S xa/\nP S ta
def mE.zero{S:Nat->Prop}{w:WD}{na:OA}{n:Nat}{xa ta:OA}{tl tc:Nat}{W:Wy}(h:mE S w na n xa ta tl tc W):Gv S w na n xa ta tl tc W:=⟨h.bz,h.next,h.bS,.inl h.pP,h.bU,h.bits,h.eE,h.sep⟩
def Gv.bC{S:Nat->Prop}{w:WD}{na:OA}{n:Nat}{xa ta:OA}{tl tc:Nat}{W:Wy}(h:Gv S w na n xa ta tl tc W):W.bS.length=tl:=by have:=h.bS.1;rwa [aC]at this
def Gv.af{S:Nat->Prop}{w b:WD}{na:OA}{n:Nat}{xa ta:OA}{tl tc:Nat}{W:Wy}(h:Gv S w na n xa ta tl tc W)(a:BW w b):Gv S b na n xa ta tl tc W:=
 ⟨h.bz.af a,h.next.af a,h.bS.af a,h.BD.imp (λ⟨f,g,e,d⟩=>⟨f,g,e,NL d a.size⟩) id,h.bU,h.bits,λk c=>NL (h.eE k c) a.size,h.sep⟩
def BX(j:WD)(h:OA)(n i:Nat)(f:Fm)(b c d a e m:Nat):Prop:=
 ∀(w:WD)(v g:Value)(W:Wy)(L:List Wy)(k:List (bu×bu)),Gt j w n b c d a e (.slice h n i) (Gw b c d a) g L k->(∃na nc xa xc ta tl tc,v=fW W.ak W.aD na n nc xa xc ta tl tc/\Gv (eL a e g) w na n xa ta tl tc W)->fresh n W<m->W.bS.length+m<=100000->(∀p∈W.bS,p<n)->
  L.length+(ey f m W).length<=33554432->
  CL 140 #[v,PT b,PT c,PT d,PT a] w (BV j w n b c d a e (.slice h n i) (Gw b c d a) g L (ey f m W))
structure L1 (S:Nat->Prop) (w wr:WD) (n:Nat) (W:Wy) (na:OA) (nc:Nat) (xa:OA) (xc:Nat) (ta:OA) (tl tc:Nat) (l:List Nat):Prop where
 q:∀i v,(#[UV W.ak,UV W.aD,.slice na n nc,.slice xa n xc,.slice ta tl tc]:Array Value)[i]? =some v->wr.cell? (AD w.heap.size i)=some v/\wr.frozen? (AD w.heap.size i)=false
 aM:BW w wr
 row:aG .i64 w ta tl (aH l)
 skip:im W.bz l=im W.bz W.bS
 sub:∀p∈l,p∈W.bS
 bC:l.length<=W.bS.length
 BD:(∃a b,ta=some (AD a b)/\a<w.heap.size)\/ta=none/\tl=0
 bU:tl<=tc/\tc<=maxLen
 sep:nP S ta
section
variable {S:Nat->Prop} {w wr:WD} {n:Nat} {W:Wy} {na:OA} {nc:Nat} {xa:OA} {xc:Nat} {ta:OA} {tl tc:Nat} {l:List Nat}
def L1.M0(h:L1 S w wr n W na nc xa xc ta tl tc l)(d:0<tl):∃b c,ta=some (AD b c)/\b<w.heap.size:=by rcases h.BD with a|a;exact a;omega
def L1.tail{p:Nat}{r:List Nat}{f g:Nat}{d:OA}(h:L1 S w wr n W na nc xa xc (some (AD f g)) (r.length+1) tc (p::r))(A:W.bz p=true)(y:tc=1->d=some (AD f g))(t:tc≠1->d=some (AD f (g+1))):
 L1 S w (wr.setCell (AD w.heap.size 4) (.slice d r.length (tc-1))) n W na nc xa xc d r.length (tc-1) r:=by
 have G:=h.bU
 have j:∃o,d=some (AD f o):=by by_cases e:tc=1;exact ⟨_,y e⟩;exact ⟨_,t e⟩
 have k:∀i v,(#[UV W.ak,UV W.aD,.slice na n nc,.slice xa n xc,.slice d r.length (tc-1)]:Array Value)[i]? =some v->FZ wr w.heap.size i:=λi v a=>by
  match i,a with
  |0,a=>exact (h.q 0 _ rfl).2
  |1,a=>exact (h.q 1 _ rfl).2
  |2,a=>exact (h.q 2 _ rfl).2
  |3,a=>exact (h.q 3 _ rfl).2
  |4,a=>exact (h.q 4 _ rfl).2
  |i+5,a=>simp at a
 refine ⟨λi v a=>⟨?_,(OH ..).trans (k i v a)⟩,h.aM.setCell (Nz _) _,⟨aC r,?_⟩,?_,λq B=>h.sub q (Ot _ B),by have:=h.bC;rw [Ou]at this;omega,?_,⟨by omega,by omega⟩,?_⟩
 by_cases e:i=4
 subst e
 cases a
 exact Oj (h:=(h.q 4 _ rfl).1) ..
 rw [Oc _ _ _ _ (dR e)]
 refine (h.q i v ?_).1
 match i,a,e with
 |0,a,_=>exact a
 |1,a,_=>exact a
 |2,a,_=>exact a
 |3,a,_=>exact a
 |4,a,e=>exact absurd rfl e
 |i+5,a,_=>exact a
 rcases OT r.length with m|m
 exact .inl m
 rcases h.row.2 with F|⟨b,C,e,c⟩
 omega
 cases e
 refine .inr ⟨f,g+1,t (by omega),λi H=>?_⟩
 have:=c (i+1) (by omega)
 have x:g+(i+1)=g+1+i:=by omega
 rw [x]at this
 rw [this];rfl
 rw [<-h.skip]
 show _=im W.bz (p::r)
 conv=>rhs;unfold im
 rw [Oa A]
 obtain ⟨D,E,e,z⟩:=h.M0 (by omega)
 cases e
 obtain ⟨o,e⟩:=j
 exact .inl ⟨f,o,e,z⟩
 intro b o e s
 obtain ⟨I,u⟩:=j
 rw [u]at e;cases e
 exact h.sep _ _ rfl s
def L1.drewN(h:L1 S w wr n W na nc xa xc ta tl tc l)(q:Nat):L1 S w (wr.drewN q) n W na nc xa xc ta tl tc l:=
 ⟨h.q,below_drewN h.aM q,h.row,h.skip,h.sub,h.bC,h.BD,h.bU,h.sep⟩
def Bu(l:List Nat):im (λ_=>true) l=[]:=by
 induction l with
 |nil=>rfl
 |cons p r a=>unfold im;rw [Oa rfl];exact a
def L1.any(h:L1 S w wr n W na nc xa xc ta tl tc l):L1 S w wr n {W with bz:=λ_=>true} na nc xa xc ta tl tc l:=
 ⟨h.q,h.aM,h.row,(Bu _).trans (Bu _).symm,h.sub,h.bC,h.BD,h.bU,h.sep⟩
def L1.Nh{f:Wy}{d c b}(h:L1 S w wr n f na nc xa xc ta tl tc l)(a:Gv S w na n xa d c b W):Gv S wr na n xa ta tl tc {W with bS:=l}:=
 ⟨a.bz.af h.aM,a.next.af h.aM,h.row.af h.aM,h.BD.imp (λ⟨j,m,e,i⟩=>⟨j,m,e,NL i h.aM.size⟩) id,h.bU,a.bits,λk g=>NL (a.eE k g) h.aM.size,⟨a.sep.1,a.sep.2.1,h.sep⟩⟩
def L1.wy{f:Wy}{d c b}(h:L1 S w wr n f na nc xa xc ta tl tc l)(g:Gv S w na n xa d c b W)(i:∃e j,ta=some (AD e j)/\e<wr.heap.size):mE S wr na n xa ta tl tc {W with bS:=l}:=by have a:=h.Nh g;exact ⟨a.bz,a.next,a.bS,i,a.bU,a.bits,a.eE,a.sep⟩
def L1.drew(h:L1 S w wr n W na nc xa xc ta tl tc l):L1 S w wr.drew n W na nc xa xc ta tl tc l:=
 ⟨h.q,h.aM.drew,h.row,h.skip,h.sub,h.bC,h.BD,h.bU,h.sep⟩
end
def E3{f:Fm}{m p:Nat}{W:Wy}{r:List Nat}{x:Fm}(h:im W.bz W.bS=p::r)(a:(Fm.aQ f)[p]? =some x):ey f (m+1) W=(split x p (Wy.dE {W with bS:=r} p)).flatMap (ey f m):=by
 conv=>lhs;unfold ey
 rw [h];dsimp only;rw [a]
def E0{f:Fm}{m:Nat}{W:Wy}(h:im W.bz W.bS=[]):ey f (m+1) W=[{W with bS:=[]}]:=by
 conv=>lhs;unfold ey
 rw [h]
def kP.af{S:Nat->Prop}{w p:WD}{a:OA}{k n:Nat}{l:List Wy}(h:kP S w a k n l)(c:BW w p):kP S p a k n l:=by refine ⟨h.1,?_⟩;rcases h.2 with q|⟨b,d,e,t,r⟩;exact .inl q;refine .inr ⟨b,d,e,t,λi W s=>?_⟩;obtain ⟨na,nc,xa,xc,ta,tl,tc,hw,f,g,j,m,o⟩:=r i W s;exact ⟨na,nc,xa,xc,ta,tl,tc,hw.af c,(c.cell (Nr w _ f)).trans f,(c.cell (Nr w _ g)).trans g,(c.cell (Nr w _ j)).trans j,(c.cell (Nr w _ m)).trans m,(c.cell (Nr w _ o)).trans o⟩
def vt{w:WD}{S a:Nat->Prop}(h:∀k,a k->S k\/w.heap.size<=k){b:Nat}(d:¬S b)(e:b<w.heap.size):¬a b:=λs=>by rcases h b s with c|c;exact d c;omega
def nP.from{w:WD}{S c:Nat->Prop}(h:∀k,c k->S k\/w.heap.size<=k){a:OA}(f:nP S a)(d:∀b o,a=some (AD b o)->b<w.heap.size):nP c a:=λb o e=>vt h (f b o e) (d b o e)
def dW.lt{w:WD}{a:OA}{n:Nat}{f:Nat->Bool}(h:dW w a n f)(g:0<n):∀b o,a=some (AD b o)->b<w.heap.size:=λb o e=>by obtain ⟨i,j,c,d⟩:=h;rw [c]at e;cases e;exact Nr w _ (d 0 g)
def mE.aA{S S':Nat->Prop}{w f:WD}{na:OA}{n:Nat}{xa ta:OA}{tl tc:Nat}{W:Wy}(h:mE S w na n xa ta tl tc W)(g:0<n)(c:aj S w f)(d:∀k,S' k->S k\/w.heap.size<=k)(a:∀k,S' k->k<f.heap.size):mE S' f na n xa ta tl tc W:=
 ⟨h.bz.aA c h.sep.1,h.next.aA c h.sep.2.1,cF h.bS c h.sep.2.2,by obtain ⟨i,j,e,a⟩:=h.pP;exact ⟨i,j,e,NL a c.size⟩,h.bU,h.bits,a,
  h.sep.1.from d (h.bz.lt g),h.sep.2.1.from d (h.next.lt g),h.sep.2.2.from d (λb o e=>by obtain ⟨i,j,m,a⟩:=h.pP;rw [m]at e;cases e;exact a)⟩
def kP.aA{S S':Nat->Prop}{w m:WD}{a:OA}{k n:Nat}{l:List Wy}(h:kP S w a k n l)(y:0<n)(c:aj S w m)(o:∀k,S' k->S k\/w.heap.size<=k)(x:∀k,S' k->k<m.heap.size):kP S' m a k n l:=by refine ⟨h.1,?_⟩;rcases h.2 with f|⟨b,j,e,d,p⟩;exact .inl f;rcases OT k with f|f;exact .inl f;refine .inr ⟨b,j,e,?_,λi W v=>?_⟩;obtain ⟨W,u⟩:∃W,l[0]? =some W:=⟨_,Ny (by rw [h.1];exact f)⟩;obtain ⟨_,_,_,_,_,_,_,_,g,_⟩:=p 0 W u;exact vt o d (Nr w _ g);obtain ⟨na,nc,xa,xc,ta,tl,tc,hw,g,q,r,s,t⟩:=p i W v;exact ⟨na,nc,xa,xc,ta,tl,tc,hw.aA y c o x,c.aq g d,c.aq q d,c.aq r d,c.aq s d,c.aq t d⟩
def LP(s h:WD)(n i j m c d:Nat)(o p g:Value)(L F b:List Wy)(r:OA)(q:Nat)(wr:WD):Prop:=
 ∃a f e,Gt s wr n i j m c d o p a f e/\xk n L f F/\aj (eL c d g) h wr/\(∀k,a.ownBlock=some k->g.ownBlock=some k\/h.heap.size<=k)/\kP (eL c d a) wr r q n b
def LP.call{K q wr c M:WD}{n x y z d f:Nat}{A B p a:Value}{L F G v b:List Wy}{J:OA}{I:Nat}{e:Ending}(Q:0<n)
 (s:xk n L v F) (E:aj (eL d f p) q wr) (H:∀k,a.ownBlock=some k->p.ownBlock=some k\/q.heap.size<=k) (hw:kP (eL d f a) wr J I n b) (D:BW wr c)
 (h:BV K c n x y z d f A B a v G e M):e=RT (.tuple #[])/\LP K q n x y z d f A B p L (F++G) b J I M:=by
 obtain ⟨O,u,N,t,g,r,m,o⟩:=h
 have j:aj (eL d f p) q c:=E.then (T:=λk=>wr.heap.size<=k) (aj.aF D) (λi P C=>by have:=E.size;omega)
 refine ⟨O,u,N,t,g,s.trans r,j.then (T:=eL d f a) m (λi P C=>?_),λk h=>?_,(hw.af D).aA Q m (λk h=>?_) g.eE⟩
 rcases C with h|h|h
 exact .inl h
 exact .inr (.inl h)
 rcases H i h with h|h
 exact .inr (.inr h)
 omega
 rcases o k h with h|h
 exact H k h
 exact .inr (N5 j.size h)
 rcases h with h|h|h
 exact .inl (.inl h)
 exact .inl (.inr (.inl h))
 exact (o k h).imp (λh=>.inr (.inr h)) id
def Gh{α β:Type}(g:α->List β)(l:List α)(j:Nat)(c:α)(h:l[j]? =some c):(l.take (j+1)).flatMap g=(l.take j).flatMap g++g c:=by rw [OG,h];simp
def zZ{α β:Type}(g:α->List β)(l:List α)(j:Nat):((l.take j).flatMap g).length<=(l.flatMap g).length:=by
 have:l.flatMap g=(l.take j).flatMap g++(l.drop j).flatMap g:=by rw [<-List.flatMap_append,Rt]
 rw [this,NH];omega
def Tryz.JX:(Tryz.prog.info? 199).map (λi=>(i.zero,i.size,i.bytes))=some (some (.agg #[UV 0,UV 0,.string .empty,.string .empty]),4,48):=by kernel_rfl
def bp(w:WD)(a:Array Value)(t:TypeId)(i:Nat)(v:Value)(h:a[i]? =some v):(w.alloc (.cells a t)).cell? (AD w.heap.size i)=some v/\(w.alloc (.cells a t)).frozen? (AD w.heap.size i)=false:=
 ⟨(NV (w:=w) _ t w.heap.size i rfl).trans h,Qu _ _ _ _ rfl⟩
def vL{w:WD}{g:Nat}{q r s t f k m o:Value}(u:w.cell? (AD g 0)=some q)(x:w.cell? (AD g 1)=some r)(y:w.cell? (AD g 2)=some s)(z:w.cell? (AD g 3)=some t)(b:WD)
 (e:b=(((w.setCell (AD g 0) f).setCell (AD g 1) k).setCell (AD g 2) m).setCell (AD g 3) o):
 b.cell? (AD g 0)=some f/\b.cell? (AD g 1)=some k/\b.cell? (AD g 2)=some m/\b.cell? (AD g 3)=some o/\∀B d,B<=g->Below B d w->Below B d b:=by
 subst e
 have C:∀{i j:Nat},i≠j->((AD g i):Addr)≠(AD g j):=λh e=>h (by cases e;rfl)
 have a:∀(W:WD)(i j:Nat)(v:Value),i≠j->(W.setCell (AD g i) v).cell? (AD g j)=W.cell? (AD g j):=λW i j v h=>Oc _ _ _ _ (dR (P4 h))
 refine ⟨?_,?_,?_,?_,λB d c A=>(((A.setCell (p:=(AD g 0)) c _).setCell (p:=(AD g 1)) c _).setCell (p:=(AD g 2)) c _).setCell (p:=(AD g 3)) c _⟩
 rw [a _ _ _ _ (by decide),a _ _ _ _ (by decide),a _ _ _ _ (by decide)]
 exact Oj (h:=u) ..
 rw [a _ _ _ _ (by decide),a _ _ _ _ (by decide)]
 exact Oj (h:=(a _ _ _ _ (by decide)).trans x) ..
 rw [a _ _ _ _ (by decide)]
 exact Oj (h:=(a _ _ _ _ (by decide)).trans ((a _ _ _ _ (by decide)).trans y)) ..
 exact Oj (h:=(a _ _ _ _ (by decide)).trans ((a _ _ _ _ (by decide)).trans ((a _ _ _ _ (by decide)).trans z))) ..
def PR(d:Nat)(f:Nat->Bool)(n:Nat)(v:Value)(w:WD):Prop:=∃a m c,v=.slice a m c/\aG .i64 w a m (cI f n)/\(∀b o,a=some (AD b o)->d<=b/\b<w.heap.size)/\(a=none->m=0/\c=0)
def PR.af{d:Nat}{f:Nat->Bool}{n:Nat}{v:Value}{w j:WD}(h:PR d f n v w)(i:BW w j):PR d f n v j:=by obtain ⟨a,m,c,e,p,g,k⟩:=h;exact ⟨a,m,c,e,p.af i,λb o e=>⟨(g b o e).1,NL (g b o e).2 i.size⟩,k⟩
def PR.dE{i:Nat}{f:Nat->Bool}{n m c:Nat}{a:OA}{w j:WD}(r:i<=w.heap.size)(h:aE .i64 3 w j (.slice a m c) (cI f n)):PR i f n (.slice a m c) j:=by
 obtain ⟨t,u,e,s⟩:=lB h;cases e
 refine ⟨_,_,_,rfl,s,λb o e=>?_,λe=>?_⟩;subst e;exact ⟨N5 r (h.2.2 b rfl),h.1.lt b rfl⟩;subst e;rcases h.1.2 with⟨d,q⟩|⟨g,k,p,d,-⟩;exact ⟨q,(On d).2.2⟩;cases (On d).1
def CS{w:WD}{o:Oper}{a:Act}{K:Act->WD->Prop}{Q:Exit->Act->WD->Prop}(s x:Operand)
 (H:o.op=.call {callee:=.builtin .append,args:=#[s,x],argTypes:=#[153,153]})
 (v:Value) (n:Nat) (A:List Value) (J:a.eval s=v) (G:w.ownsRow 0 119 4 v n A)
 (t:Addr) (c:Nat) (d:List Value) (L:a.eval x=.slice (some t) 1 c) (N:d.length=4) (f:∀j u,d[j]? =some u->w.cell? (t.add j)=some u) (D:∀u∈d,u.oneCell'=true) (C:n+1<=33554432)
 (h:∀i m g,g.ownsRow 0 119 4 (.slice i (n+1) m) (n+1) (A++d)->aj (λk=>v.ownBlock=some k) w g->(∀b,(Value.slice i (n+1) m).ownBlock=some b->v.ownBlock=some b\/w.heap.size<=b)->K (a.put o.dst (.slice i (n+1) m)) g):aY Tryz.prog o a w K Q:=by
 obtain ⟨r,F,M,z,E⟩:=Ol Tryz.DU
 constructor
 obtain ⟨O,g,I,B,p,_,q⟩:=Rp (P:=Tryz.prog) w 0 153 o.type 119 r _ 4 64 Tryz.underlying153 F M z E rfl (by decide) v n A G t 1 c d (by omega) f D (by unfold maxLen;omega) (by omega) (NS _)
 unfold Oper.wp execOp
 simp only [H,resolve,invoke,builtin,P8,Qt,Po,PE,NQ,NZ,J,L,I]
 have y:aj (λk=>v.ownBlock=some k) w g:=⟨p.os,p.tape,p.output,p.size,λk y C=>p.block k y (λe=>C e.symm)⟩
 obtain ⟨i,m,rfl⟩:=bw B
 refine h i m g B y (λb e=>?_)
 rcases q with q|q
 rw [q]at e;exact .inl e
 rw [q]at e;cases e;exact .inr (Nz _)
def K6(w:WD):(zeroValue 4).run Tryz.prog w=.ok (.bool false) w:=by
 have a:Tryz.t4.zero=some (Value.bool false):=by kernel_rfl
 unfold zeroValue;simp [a]
def D0{n:Nat}(h:n<18446744073709551616):(Lit.int .u64 n).wf=true:=by show(decide (IntKind.u64.min<=(n:Int))&&decide ((n:Int)<=IntKind.u64.max))=true;have a:IntKind.u64.min=0:=rfl;have b:IntKind.u64.max=18446744073709551615:=rfl;rw [a,b,OB];exact ⟨N6 (by omega),N6 (by omega)⟩
def vm(n:Nat)(f:Nat->Bool):(fX n f).size=n:=by show(jD n f).toArray.size=n;rw [Rk,nz]
def Fb(w0:WD)(fa:OA)(n fc:Nat)(f:Fm)(hf:FA w0 fa n f)(hN:Fm.gI f)(cC:dV f)(hn:n<=50)(bf bg bt M mb m:Nat)(IH:BX w0 fa n fc f bf bg bt M mb m):BX w0 fa n fc f bf bg bt M mb (m+1):=by
 intro w v vo W L rs hI ⟨na,nc,xa,xc,ta,tl,tc,I,hW⟩ cw dD a7 ar;subst I;have HF:=Nq hf;have c3:=Nq hN;have c5:=Nq cC;have cU:=Nq IH;have HI:=Nq hI;have HW:=Nq hW;have cT:=Nq cw;have bu:=Nq a7;have aL:=Nq ar;have ck:Hid (0<n):=by rw [<-hf.size];exact Fm.bF f
 have dz:=hW.bC;have a2:Hid (∀w1,w1=w.alloc (.cells #[UV W.ak,UV W.aD,.slice na n nc,.slice xa n xc,.slice ta tl tc] 193)->L1 (eL M mb vo) w w1 n W na nc xa xc ta tl tc W.bS):=λw1 e=>by obtain ⟨dl,-,hq⟩:=vr _ _ _ _ _ _ _ w1 e;exact ⟨hq,dl,hW.bS,rfl,λ_ h=>h,Nz _,hW.BD,hW.bU,hW.sep.2.2⟩
 clear hf hN cC IH hI hW cw a7 ar;obtain ⟨F,hF⟩:=EX (ey f (m+1) W);rw [hF]at aL⊢;have cb:=Nq hF;clear hF;go_enter Tryz.func140,Tryz.ntmps140;go_upto_block 0 with(fail);go_cut []from 10 to 27 (λwc=>∃ab ae ac l,Hid (L1 (eL M mb vo) w wc n W na nc xa xc ab ae ac l)/\Hid (CA wc w.heap.size 4 (.slice ab ae ac))/\Hid (l=[]\/∃p r,l=p::r/\W.bz p=false));case rest=>
  clear a2;obtain ⟨bW,an,D,l,C,aS,bM⟩:=hcut;have al:l.length=an:=by have:=C.o.row.1;rwa [aC]at this
  have c4:=aS.o;have f4:=(C.o.q 4 (.slice bW an D) rfl).2;have aq:=C.o.bU;have ak:=C.o.bC;cases l with
  |nil=>
   obtain rfl:an=0:=by simpa using al.symm
   clear al;have ax:Hid (F=[{W with bS:=[]}]):=by show F=_;rw [<-cb.o];exact E0 (C.o.skip.symm.trans rfl)
   have aG:=Nq (HI.o.af C.o.aM);have ao:=Nq (C.o.Nh HW.o);have b8:Hid (BW w wc):=C.o.aM;have a3:Hid (w.heap.size<wc.heap.size):=Nr _ _ c4;have q0:=(C.o.q 0 (UV W.ak) rfl).1;have q1:=(C.o.q 1 (UV W.aD) rfl).1;have q2:=(C.o.q 2 (.slice na n nc) rfl).1;have q3:=(C.o.q 3 (.slice xa n xc) rfl).1;have HQ:Hid (∀B,Below wc.drew.heap.size wc.drew B->CA B w.heap.size 0 (UV W.ak)/\CA B w.heap.size 1 (UV W.aD)/\CA B w.heap.size 2 (.slice na n nc)/\CA B w.heap.size 3 (.slice xa n xc)):=λd z=>by have z:BW wc d:=(Nx _ _).drew.trans z;have k1:∀{q i:Nat}{v:Value},CA wc q i v->CA d q i v:=λh=>(z.cell (Nr wc _ h)).trans h;exact ⟨k1 q0,k1 q1,k1 q2,k1 q3⟩
   have a1:Hid (∀d,Below wc.drew.heap.size wc.drew d->CL 143 #[.slice xa n xc] d λe A=>e=RT (.string (fX n W.next))/\BW d A):=λd z=>Aw xa n xc W.next d (ao.o.next.af ((Nx _ _).drew.trans z)) (by omega);have aF:Hid (∀d,Below wc.drew.heap.size wc.drew d->CL 143 #[.slice na n nc] d λe A=>e=RT (.string (fX n W.bz))/\BW d A):=λd z=>Aw na n nc W.bz d (ao.o.bz.af ((Nx _ _).drew.trans z)) (by omega);obtain ⟨dv,bF,bQ,bL,bC⟩:=Ol Tryz.JX;clear C aS bM f4 aq ak;go_upto_region 11 with(fail);refine av 12 (S:=λB=>CA B w.heap.size 0 (UV W.ak)/\CA B w.heap.size 1 (UV W.aD)/\CA B w.heap.size 2 (.slice na n nc)/\CA B w.heap.size 3 (.slice xa n xc)) (by kernel_rfl) (⟨q0,q1,q2,q3⟩) (λP=>?_);refine' az 0 ?_;refine' az 1 ?_;refine' az 2 ?_;refine' az 3 ?_;refine' az 4 ?_;refine' az 5 ?_;refine' az 7 ?_;refine' az 8 ?_;clear P;refine cA [6,9,10,11] (λi=>if i=6 then 61 else if i=9 then 64 else if i=10 then 65 else 9) #[true,true,true,true,true,true,true,true,true,true,true,true,false] 1
    (λi v w=>match i with|6=>v=.string (fX n W.next)|9=>v=.string (fX n W.bz)|10=>v=mC n W|_=>∃b,v=PT b/\wc.heap.size<=b/\∀i v,(#[UV 0,UV 0,.string .empty,.string .empty]:Array Value)[i]? =some v->CA w b i v/\FZ w b i) (by kernel_rfl) (by kernel_rfl) rfl (by decide) ?sL1 ?sL2 (by decide) ?sL3 ?sL4
   case sL1=>
    intro i v w4 O I z;split at I
    ·exact I
    ·exact I
    ·exact I
    ·obtain ⟨b,e,h1,h⟩:=I;exact ⟨b,e,h1,λi v I=>cW z (h i v I)⟩
   case sL2=>exact HQ.o
   case sL3=>
    rintro l V d i o C cu hi T hr hJ K G;simp only [N8,O5,QD]at hi;rcases hi with rfl|rfl|rfl|rfl
    ·simp only [NT,NN,NO,N0]at T;subst T
     refine aN (R:=λe A=>e=RT (.string (fX n W.next))/\BW d A) (f:=143) (args:=#[.slice xa n xc]) (a1.o d hJ.aM) ?_ (λe w4 ⟨he,z⟩=>⟨_,he,G _ w4 z rfl⟩);clear G;simp only [NQ,NZ,aP,Act.put,reduceIte,Nat.reduceEqDiff,NB,NR,NM];go_simp
    ·simp only [NT,NN,NO,N0]at T;subst T
     refine aN (R:=λe A=>e=RT (.string (fX n W.bz))/\BW d A) (f:=143) (args:=#[.slice na n nc]) (aF.o d hJ.aM) ?_ (λe w4 ⟨he,z⟩=>⟨_,he,G _ w4 z rfl⟩);clear G;simp only [NQ,NZ,aP,Act.put,reduceIte,Nat.reduceEqDiff,NB,NR,NM];go_simp
    ·simp only [NT,NN,NO,N0]at T;subst T
     have h6:=hJ.mS 6 (by decide) (aU (l:=[6,9]) (by kernel_rfl) hr 6 (by simp));have h9:=hJ.mS 9 (by decide) (aU (l:=[6,9]) (by kernel_rfl) hr 9 (by simp));change V 61=_ at h6;change V 64=_ at h9;refine bT (v:=mC n W) (w':=d) ?_ (G _ _ (Nx _ _) rfl);clear G;simp only [NQ,NZ,aP,Act.put,reduceIte,Nat.reduceEqDiff,NB,NR,NM];rw [h6,h9];go_simp;rfl
    ·simp only [NT,NN,NO,N0]at T;subst T
     refine bT (v:=PT d.heap.size) (w':=d.alloc (.cells #[UV 0,UV 0,.string .empty,.string .empty] 199)) ?_ (G _ _ ((Nx _ _).alloc (Nz _) _) ⟨_,rfl,hJ.aM.size,bp d _ _⟩);clear G;simp only [NQ,NZ,aP,Act.put,reduceIte,Nat.reduceEqDiff,NB,NR,NM];go_simp;rfl
   case sL4=>
    intro V d ap hV;simp only [NQ,NZ,aP,Act.put,reduceIte,Nat.reduceEqDiff,NB,NR,NM];have aH:=hV 10 (by decide);obtain ⟨gb,aJ,cx,aT⟩:=hV 11 (by decide);change V 65=.agg #[UV W.ak,UV W.aD,.string (fX n W.next),.string (fX n W.bz)]at aH;change V 9=_ at aJ;rw [aH,aJ];obtain ⟨b0,g0⟩:=aT 0 (UV 0) rfl;obtain ⟨b1,g1⟩:=aT 1 (UV 0) rfl;obtain ⟨b2,g2⟩:=aT 2 (.string .empty) rfl;obtain ⟨b3,g3⟩:=aT 3 (.string .empty) rfl;have HG:=Nq cx;have b9:Hid (BW wc d):=(Nx _ _).drew.trans ap;clear hV aH aJ aT ap cx;refine aI 12 λK G=>?_;go_simp;refine G.o _ _ (λe=>nomatch e) ?_;clear G K;try walk_nrm
    refine ay (by kernel_rfl) ?_;obtain ⟨w8,bP⟩:=EX (((((d.setCell (AD gb 0) (UV W.ak)).setCell (AD gb 1) (UV W.aD)).setCell (AD gb 2) (.string (fX n W.next))).setCell (AD gb 3) (.string (fX n W.bz))));rw [bP];obtain ⟨k0,k1,k2,k3,cs⟩:=vL b0 b1 b2 b3 w8 bP.symm;have ah:Hid (BW wc w8):=cs _ _ HG.o b9.o;have E:=Nq (aG.o.af ah.o);have dk:=E.o.ct;obtain ⟨kl,bH⟩:=LA (a:=(W.ak:Int)) (b:=(W.aD:Int)) (s:=fX n W.next) (t:=fX n W.bz) (D0 ao.o.bits.1) (D0 ao.o.bits.2) (by rw [vm];unfold maxLen;omega) (by rw [vm];unfold maxLen;omega);have cX:=Nq bH;have Q:=E.o.map.look Hw Tryz.underlying190 (K6 w8) bH;clear bH bP cs b0 b1 b2 b3 g0 g1 g2 g3 b9;have ca:Hid (aj (eL M mb vo) w w8):=aj.mono (aj.aF (aa b8.o ah.o)) λk hk h=>absurd h (by omega);have cl:Hid (w.heap.size<=w8.heap.size):=N5 b8.o.size ah.o.size;by_cases hY:∃Y∈L,mC n W=mC n Y
    ·obtain ⟨Y,aO,bB⟩:=hY;have HY:=Nq (And.intro aO bB)
     rw [show tL n L (.agg #[UV W.ak,UV W.aD,.string (fX n W.next),.string (fX n W.bz)])=some (.bool true)from BE aO bB]at Q;change _=Result.ok (Value.bool true) w8 at Q;clear aO bB;go_wp2;refine QC (PW (by kernel_rfl) ..) rfl ?_;refine ⟨rfl,vo,L,rs,E.o,?_,ca.o,λk h=>.inl h⟩;rw [ax.o];exact ⟨λZ h=>.inl h,λZ h=>h,λZ h=>by rw [Nv]at h;subst h;exact ⟨Y,HY.o.1,(Ht HY.o.2).symm⟩,by simp⟩
    ·rw [show tL n L (.agg #[UV W.ak,UV W.aD,.string (fX n W.next),.string (fX n W.bz)])=none from KA (Z:=W) (λY aO e=>hY ⟨Y,aO,e⟩)]at Q;change _=Result.ok (Value.bool false) w8 at Q
     have dw:=Nq hY;have ce:Hid (L.length+1<=33554432):=by have:=aL.o;rw [ax.o]at this;exact this
     obtain ⟨J,cH,cB,cy⟩:=E.o.map.put Hw Tryz.underlying190 (by have:=ce.o;unfold maxLen;omega) cX.o (.bool true);have c0:=Nq cB;have X:=Nq cy;clear hY cB cy;go_upto_region 14 with(fail);have au:w.heap.size≠mb:=by have:=HI.o.map.lt;omega
     have bj:¬M=mb:=λe=>E.o.ap.1.2.2.2 e.symm;have r0:=X.o.aq ((ah.o.cell a3.o).trans q0) (λe=>au e);have r1:=X.o.aq ((ah.o.cell a3.o).trans q1) (λe=>au e);have r2:=X.o.aq ((ah.o.cell a3.o).trans q2) (λe=>au e);have r3:=X.o.aq ((ah.o.cell a3.o).trans q3) (λe=>au e);have r4:=X.o.aq E.o.co (λe=>bj e);have cS:Hid (FZ J M 0):=(N7 (X.o.block M (Nr _ _ E.o.co) bj)).trans E.o.fo;have cR:=Nq r4;have be:Hid (J.ownsRow 0 119 4 vo L.length (dZ L rs)):=bm E.o.cK X.o (λg e s=>(E.o.GZ g e).2.2.2.2 s);have dc:Hid (dW J xa n W.next):=((ao.o.next.af ah.o).aA X.o (λb o e s=>ao.o.sep.2.1 b o e (.inr (.inl s))));have db:Hid (dW J na n W.bz):=((ao.o.bz.af ah.o).aA X.o (λb o e s=>ao.o.sep.1 b o e (.inr (.inl s))));have c9:Hid (∀B,Below J.drew.heap.size J.drew B->CA B w.heap.size 0 (UV W.ak)/\CA B w.heap.size 1 (UV W.aD)/\CA B w.heap.size 2 (.slice na n nc)/\CA B w.heap.size 3 (.slice xa n xc)/\CA B M 0 vo):=λd z=>by have z:BW J d:=(Nx _ _).drew.trans z;have k1:∀{q i:Nat}{v:Value},CA J q i v->CA d q i v:=λh=>(z.cell (Nr J _ h)).trans h;exact ⟨k1 r0,k1 r1,k1 r2,k1 r3,k1 r4⟩
     have c7:Hid (∀d,Below J.drew.heap.size J.drew d->CL 144 #[.slice xa n xc] d λe A=>∃v,e=RT v/\PR J.heap.size W.next n v A/\BW d A):=λd z=>(wD xa n xc W.next d (dc.o.af ((Nx _ _).drew.trans z)) (by omega)).mono λe A ⟨a',m',c',he,hm⟩=>⟨_,he,PR.dE z.size hm,hm.2.1⟩;have cj:Hid (∀d,Below J.drew.heap.size J.drew d->CL 144 #[.slice na n nc] d λe A=>∃v,e=RT v/\PR J.heap.size W.bz n v A/\BW d A):=λd z=>(wD na n nc W.bz d (db.o.af ((Nx _ _).drew.trans z)) (by omega)).mono λe A ⟨a',m',c',he,hm⟩=>⟨_,he,PR.dE z.size hm,hm.2.1⟩;obtain ⟨du,dp,dr,dq,dm⟩:=Ol Tryz.DU;clear Q cH k0 k1 k2 k3 dk au q0 q1 q2 q3 c4 bF bQ bL bC;refine av 13 (S:=λB=>CA B w.heap.size 0 (UV W.ak)/\CA B w.heap.size 1 (UV W.aD)/\CA B w.heap.size 2 (.slice na n nc)/\CA B w.heap.size 3 (.slice xa n xc)/\CA B M 0 vo) (by kernel_rfl) (⟨r0,r1,r2,r3,r4⟩) (λP=>?_);refine' az 0 ?_;refine' az 1 ?_ [12,11,2,1];refine' az 2 ?_ [12,11,2];refine' az 3 ?_ [12,11,4,3];refine' az 4 ?_ [12,11,4];refine' az 5 ?_ [10,7,6,5];refine' az 6 ?_ [10,7,6];refine' az 8 ?_ [10,9,8];refine' az 9 ?_ [10,9];clear P;refine cA [7,10,11,12] (λi=>if i=7 then 79 else if i=10 then 82 else if i=11 then 83 else 84) #[true,true,true,true,true,true,true,true,true,true,true,true,true,false,false] 2
      (λi v w=>match i with|7=>PR J.heap.size W.next n v w|10=>PR J.heap.size W.bz n v w|11=>∃x y,v=.agg #[UV W.ak,UV W.aD,x,y]/\PR J.heap.size W.next n x w/\PR J.heap.size W.bz n y w|_=>∃b x y,v=SV b 1 1/\(∀i u,(#[UV W.ak,UV W.aD,x,y]:Array Value)[i]? =some u->CA w b i u/\FZ w b i)/\PR J.heap.size W.next n x w/\PR J.heap.size W.bz n y w) (by kernel_rfl) (by kernel_rfl) rfl (by decide) ?sM1 ?sM2 (by decide) ?sM3 ?sM4
     case sM1=>
      intro i v w4 O I z;split at I
      ·exact PR.af I z
      ·exact PR.af I z
      ·obtain ⟨x,y,e,h1,h2⟩:=I;exact ⟨x,y,e,h1.af z,h2.af z⟩
      ·obtain ⟨b,x,y,e,h,h1,h2⟩:=I;exact ⟨b,x,y,e,λi u hu=>cW z (h i u hu),h1.af z,h2.af z⟩
     case sM2=>exact c9.o
     case sM3=>
      rintro l V d i o C cu hi T hr hJ K G;simp only [N8,O5,QD]at hi;rcases hi with rfl|rfl|rfl|rfl
      ·simp only [NT,NN,NO,N0]at T;subst T
       refine aN (R:=λe A=>∃v,e=RT v/\PR J.heap.size W.next n v A/\BW d A) (f:=144) (args:=#[.slice xa n xc]) (c7.o d hJ.aM) ?_ (λe w4 ⟨v,he,I,z⟩=>⟨v,he,G v w4 z I⟩);clear G;simp only [NQ,NZ,aP,Act.put,reduceIte,Nat.reduceEqDiff,NB,NR,NM];go_simp
      ·simp only [NT,NN,NO,N0]at T;subst T
       refine aN (R:=λe A=>∃v,e=RT v/\PR J.heap.size W.bz n v A/\BW d A) (f:=144) (args:=#[.slice na n nc]) (cj.o d hJ.aM) ?_ (λe w4 ⟨v,he,I,z⟩=>⟨v,he,G v w4 z I⟩);clear G;simp only [NQ,NZ,aP,Act.put,reduceIte,Nat.reduceEqDiff,NB,NR,NM];go_simp
      ·simp only [NT,NN,NO,N0]at T;subst T
       have h7:PR _ _ _ _ _:=hJ.mS 7 (by decide) (aU (l:=[7,10]) (by kernel_rfl) hr 7 (by simp));have cr:PR _ _ _ _ _:=hJ.mS 10 (by decide) (aU (l:=[7,10]) (by kernel_rfl) hr 10 (by simp));refine bT (v:=.agg #[UV W.ak,UV W.aD,V 79,V 82]) (w':=d) ?_ (G _ _ (Nx _ _) ⟨_,_,rfl,h7,cr⟩);obtain ⟨_,_,_,e7,-⟩:=h7;obtain ⟨_,_,_,aH,-⟩:=cr;change V 79=_ at e7;change V 82=_ at aH;clear G;simp only [NQ,NZ,aP,Act.put,reduceIte,Nat.reduceEqDiff,NB,NR,NM];rw [e7,aH];go_simp
      ·simp only [NT,NN,NO,N0]at T;subst T
       obtain ⟨x,y,aJ,hx,hy⟩:=hJ.mS 11 (by decide) (aU (l:=[11]) (by kernel_rfl) hr 11 (by simp));change V 83=_ at aJ;have z:BW d (d.alloc (.cells #[UV W.ak,UV W.aD,x,y] 119)):=(Nx _ _).alloc (Nz _) _;refine bT (v:=SV d.heap.size 1 1) (w':=d.alloc (.cells #[UV W.ak,UV W.aD,x,y] 119)) ?_ (G _ _ z ⟨_,x,y,rfl,bp d _ _,hx.af z,hy.af z⟩);obtain ⟨_,_,_,rfl,-⟩:=hx;obtain ⟨_,_,_,rfl,-⟩:=hy;clear G;simp only [NQ,NZ,aP,Act.put,reduceIte,Nat.reduceEqDiff,NB,NR,NM];rw [aJ];go_simp
     case sM4=>
      intro V d ap hV;simp only [NQ,NZ,aP,Act.put,reduceIte,Nat.reduceEqDiff,NB,NR,NM];obtain ⟨gl,x,y,bw,cv,⟨pa,pl,pc,rfl,cD,cE,cF⟩,⟨ra,rl,rc,rfl,cI,aX,cJ⟩⟩:=hV 12 (by decide);change V 84=_ at bw;have aF:BW J d:=(Nx _ _).drew.trans ap;have bd:d.ownsRow 0 119 4 vo L.length (dZ L rs):=bm be.o (aj.aF aF) (λg e s=>OI _ (NL (dj be.o g e) s));obtain ⟨o1,o2⟩:=cW aF ⟨cR.o,cS.o⟩;refine aI 13 λK G=>?_;rw [Oa (by rfl)];apply aY.o;refine CS (.tmp 72) (.tmp 84) rfl vo L.length (dZ L rs) rfl bd (AD gl 0) 1 [UV W.ak,UV W.aD,.slice pa pl pc,.slice ra rl rc] bw rfl (λj u hj=>?_) (by simp [Value.oneCell']) ce.o (λa6 c6 w6 cz a5 cM=>?_)
      ·rw [O4,Od];exact (cv j u (by simpa using hj)).1
      have bD:¬vo.ownBlock=some M:=λe=>(E.o.GZ M e).2.2.2.1 rfl;have o6:=a5.aq o1 bD;have f6:=(N7 (a5.block M (Nr _ _ o1) bD)).trans o2;have c8:=Nq (E.o.dB (Z:={W with bS:=[]}) (w2:=J) (w3:=d) (w4:=w6) c0.o X.o aF cD cE cF cI aX cJ cz a5 cM);refine G.o _ _ (λe=>nomatch e) ?_;clear G K hV bw cv cD cE cF cI aX cJ aF bd o1 o2 cz a5 cM bD ap;try walk_nrm
      refine aI 14 λK G=>?_;go_simp;refine G.o _ _ (λe=>nomatch e) ?_;clear G K;try walk_nrm
      refine ay (by kernel_rfl) ?_;refine QC (PW (by kernel_rfl) ..) rfl ?_;obtain ⟨p1,p2,p3⟩:=c8.o;refine ⟨rfl,_,_,_,p1,?_,ca.o.then p2 (λ_ _ h=>h),λk h=>(p3 k h).imp id (λh=>N5 cl.o h)⟩;rw [ax.o];exact ⟨λZ h=>NY.1 h,λZ h=>Oo _ h,λZ h=>⟨Z,OO _ h,rfl⟩,by simp⟩
  |cons p r=>
   obtain rfl:an=r.length+1:=by simpa using al.symm
   obtain ⟨U,tq,rfl,aw⟩:=C.o.M0 (Nat.succ_pos _);have bh:=Nq aw;clear aw;have aD:Hid (W.bz p=false):=by rcases bM.o with h|⟨_,_,h,h2⟩<;>cases h;exact h2
   have aW:p<n:=bu.o p (C.o.sub p (Ok ..));obtain ⟨x,hx⟩:∃x,(Fm.aQ f)[p]? =some x:=⟨_,Ny (by have:=HF.o.size;unfold Fm.size at this;omega)⟩;have HX:=Nq hx;have di:=Nq (mU c3.o p x hx);have ax:Hid (F=(split x p (Wy.dE {W with bS:=r} p)).flatMap (ey f m)):=by
    show F=_;rw [<-cb.o];refine E3 ?_ hx;rw [<-C.o.skip];conv=>lhs;unfold im
    rw [Of (by rw [aD.o];decide)]
   have da:Hid (∀q∈r,q<n):=λq hq=>bu.o q (C.o.sub q (Ot _ hq));clear hx;have hT:Hid (∀N,(D=1->N=some (AD U tq))->(D≠1->N=some (AD U (tq+1)))->L1 (eL M mb vo) w (wc.setCell (AD w.heap.size 4) (.slice N r.length (D-1))) n {W with bz:=λ_=>true} na nc xa xc N r.length (D-1) r):=λN h1 h2=>C.o.any.tail rfl h1 h2;obtain ⟨k,hk⟩:=EX r.length;have HK:=Nq hk;rw [hk]at c4 aq C hT;rw [Ou,hk]at ak;have ct:CA wc U tq (IV p):=by
    obtain ⟨-,h0|⟨b,ds,e,aB⟩⟩:=C.o.row.af C.o.aM
    ·omega
    ·cases e
     have:=aB 0 (by omega);rw [Rl]at this;exact this
   have bn:(0:Int)<(k:Int)+1:=by omega
   have aZ:0<k+1:=by omega
   clear al;go_upto_region 6 with(fail);obtain ⟨N,aQ⟩:=EX ((if D=1 then some (AD U tq)else some (AD U (tq+1)):OA));have ai:=Nq (hT.o N (λe=>by rw [<-aQ,Oa e]) (λe=>by rw [<-aQ,Of e]));rw [aQ];have bq:Hid (∃o,N=some (AD U o)):=by
    rw [<-aQ];split
    ·exact ⟨_,rfl⟩
    ·exact ⟨_,rfl⟩
   clear hT aQ c4 f4 ct bn aZ;obtain ⟨am,bl⟩:=EX (D-1);rw [bl]at ai⊢;obtain ⟨O,a8⟩:=EX (wc.setCell (AD w.heap.size 4) (.slice N k am));rw [a8]at ai⊢;clear a8 bM aS C aq bl;obtain ⟨S0,bA⟩:=EX (eL M mb vo);obtain ⟨H,aM⟩:=EX (Wy.dE {W with bS:=r} p);rw [aM]at ax;have cm:=Nq aM;have dd:=Nq bA;have a0:Hid (BW w O):=ai.o.aM;have b7:Hid (∃U tq,N=some (AD U tq)/\U<O.heap.size):=by obtain ⟨o,e⟩:=bq.o;exact ⟨U,o,e,NL bh.o a0.o.size⟩
   have co:Hid (mE S0 O.drew na n xa N k am {W with bS:=r}):=by rw [<-bA];exact (ai.o.wy HW.o b7.o).af (Nx _ _).drew
   have aG:=Nq (HI.o.af a0.o);have c1:Hid (∀d,Below O.drew.heap.size O.drew d->CL 141 #[fW W.ak W.aD na n nc xa xc N k am,IV p] d (iD S0 d n H)):=λd z=>by rw [<-aM];exact Ia (co.o.af z) p aW (by omega)
   have de:Hid (∀d a9 bU ba b5 ab ae ac,Below O.drew.heap.size O.drew d->mE S0 d a9 n ba ab ae ac H->CL 142 #[fW H.ak H.aD a9 n bU ba b5 ab ae ac,.slice fa n fc,IV p] d (cG S0 d n (split x p H))):=λd a9 bU ba b5 ab ae ac z hw=>by have ar:=hw.bC;rw [<-aM]at ar;change r.length=_ at ar;exact F7 x di.o S0 a9 n bU ba b5 ab ae ac H fa fc f p d hw (HF.o.af (aG.o.aM.trans (Below.mono (Below.trans (Nx _ _).drew z) aG.o.aM.size))) c5.o HX.o (by omega) (by omega)
   have q0:=(ai.o.q 0 (UV W.ak) rfl).1;have q1:=(ai.o.q 1 (UV W.aD) rfl).1;have q2:=(ai.o.q 2 (.slice na n nc) rfl).1;have q3:=(ai.o.q 3 (.slice xa n xc) rfl).1;have q4:=(ai.o.q 4 (.slice N k am) rfl).1;have cf:=aG.o.cf;have HQ:Hid (∀d,Below O.drew.heap.size O.drew d->CA d w.heap.size 0 (UV W.ak)/\CA d w.heap.size 1 (UV W.aD)/\CA d w.heap.size 2 (.slice na n nc)/\CA d w.heap.size 3 (.slice xa n xc)/\CA d w.heap.size 4 (.slice N k am)/\CA d bf 0 (.slice fa n fc)):=λd z=>by have z:BW O d:=(Nx _ _).drew.trans z;have k1:∀{q i:Nat}{v:Value},CA O q i v->CA d q i v:=λh=>(z.cell (Nr O _ h)).trans h;exact ⟨k1 q0,k1 q1,k1 q2,k1 q3,k1 q4,k1 cf⟩
   clear aM bA;refine av 6 (S:=λB=>CA B w.heap.size 0 (UV W.ak)/\CA B w.heap.size 1 (UV W.aD)/\CA B w.heap.size 2 (.slice na n nc)/\CA B w.heap.size 3 (.slice xa n xc)/\CA B w.heap.size 4 (.slice N k am)/\CA B bf 0 (.slice fa n fc)) (by kernel_rfl) (⟨q0,q1,q2,q3,q4,cf⟩) (λP=>?_);refine' az 0 ?_ [5,2,0];refine' az 1 ?_ [5,2,1];refine' az 3 ?_ [5,3];refine' az 4 ?_ [5,4];refine' bc (i:=7) (v:=_) rfl (by kernel_rfl) (λ_ _ _ h=>h) (Or.inl ⟨by rfl,?hy7⟩) (by assumption) ?rest7;case hy7=>(intro d dy;go_simp;(try with_reducible rfl))
   try walk_nrm
   clear P;refine cA [2,5] (λi=>if i=2 then 42 else 45) #[true,true,true,true,true,true,false,true] 1
    (λi v w=>match i with|2=>km S0 w v n H|_=>∃sa kk sc,v=.slice sa kk sc/\kP S0 w sa kk n (split x p H)) (by kernel_rfl) (by kernel_rfl) rfl (by decide) ?st1 ?st2 (by decide) ?st3 ?st4
   case st1=>
    intro i v w4 O I z;split at I
    ·exact km.af I z
    ·obtain ⟨sa,kk,sc,e,h⟩:=I;exact ⟨sa,kk,sc,e,h.af z⟩
   case st2=>exact HQ.o
   case st3=>
    rintro l V d i o C cu hi T hr hJ K G;simp only [N8,O5,QD]at hi;rcases hi with rfl|rfl
    ·simp only [NT,NN,NO,N0]at T;subst T
     refine aN (R:=iD S0 d n H) (f:=141) (args:=#[fW W.ak W.aD na n nc xa xc N k am,IV p]) (c1.o d hJ.aM) ?_ (λe w4 ⟨v,he,I,z⟩=>⟨v,he,G v w4 z I⟩);clear G;simp only [NQ,NZ,aP,Act.put,reduceIte,Nat.reduceEqDiff,NB,NR,NM];go_simp
    ·simp only [NT,NN,NO,N0]at T;subst T
     obtain ⟨dE,dF,dL,dM,dG,dI,dH,bN,a8⟩:=hJ.mS 2 (by decide) (aU (l:=[2]) (by kernel_rfl) hr 2 (by simp));change V 42=_ at bN;refine aN (R:=cG S0 d n (split x p H)) (f:=142) (args:=#[V 42,.slice fa n fc,IV p]) (by rw [bN];exact de.o d _ _ _ _ _ _ _ hJ.aM a8) ?_ (λe w4 ⟨sa,kk,sc,he,I,z⟩=>⟨_,he,G _ w4 z ⟨sa,kk,sc,rfl,I⟩⟩);clear G bN;simp only [NQ,NZ,aP,Act.put,reduceIte,Nat.reduceEqDiff,NB,NR,NM];go_simp
   case st4=>
    intro V d ap hV;simp only [NQ,NZ,aP,Act.put,reduceIte,Nat.reduceEqDiff,NB,NR,NM];obtain ⟨sa,kk,sc,e5,cO⟩:=hV 5 (by decide);change V 45=_ at e5;rw [e5];have bv:=Nq cO;have a1:Hid (BW O d):=(Nx _ _).drew.trans ap;clear hV e5 cO ap;refine aI 6 λK G=>?_;go_simp;refine G.o _ _ (λe=>nomatch e) ?_;clear G K;try walk_nrm
    refine ay (by kernel_rfl) ?_;have cY:Hid (LP w0 O n bf bg bt M mb (.slice fa n fc) (Gw bf bg bt M) vo L [] (split x p H) sa kk d):=by refine ⟨vo,L,rs,aG.o.af a1.o,xk.refl _ _,(aj.mono (aj.aF a1.o) λk hk h=>absurd h (by omega)),λk h=>.inl h,?_⟩;rw [dd.o];exact bv.o
    have cV:Hid (kk<=2):=by have:=bv.o.1;have:=By (x:=x) (p:=p) (w:=H);show kk<=2;omega
    have dB:=cV.o;have cd:Hid (∀c∈split x p H,fresh n c<m/\c.bS.length+m<=100000/\∀q∈c.bS,q<n):=λc hc=>by
     have h1:=Dk hc;have aX:H.bS=r:=by rw [<-cm.o];rfl
     rw [aX,HK.o]at h1;refine ⟨?_,by omega,IY aW (by rw [aX];exact λq hq=>da.o q hq) hc⟩;have h2:fresh n c=fresh n H:=by unfold fresh;rw [yE hc]
     have h3:fresh n H<fresh n W:=by rw [<-cm.o];exact vM (w:={W with bS:=r}) aW aD.o
     have:=cT.o;omega
    have dh:Hid (aj (eL M mb vo) w O):=aj.mono (aj.aF a0.o) λk hk h=>absurd h (by omega);clear bv;go_wp2;go_loopw [47] (λx1 wr=>∃j:Nat,j<=kk/\x1=IV j/\Hid (LP w0 O n bf bg bt M mb (.slice fa n fc) (Gw bf bg bt M) vo L (((split x p H).take j).flatMap (ey f m)) (split x p H) sa kk wr)) (λx1 _=>kk-(intOf x1).toNat);exact ⟨0,NS _,rfl,by simp only [PQ,List.flatMap_nil];exact cY⟩;obtain ⟨j,hj,rfl,bK⟩:=hrel;obtain ⟨cQ,cq,cP,a4,bE,bI,aV,ag⟩:=bK.o;have bb:=Nq a4;have bs:=Nq bE;have cc:=Nq bI;have ci:=Nq aV;have cn:=Nq ag;by_cases a7:j<kk
    ·have dt:(j:Int)<(kk:Int):=by omega
     obtain ⟨c,hc⟩:∃c,(split x p H)[j]? =some c:=⟨_,Ny (by rw [ag.1];exact a7)⟩;obtain ⟨wb,wo,rfl,-,aE⟩:=ag.2.resolve_left (by omega);obtain ⟨bR,bV,b4,b6,bX,bZ,bY,cN,e0,e1,e2,e3,e4⟩:=aE j c hc;have dg:=Nq cN;have HC:=Nq hc;have cg:=a4.cg;clear a4 bE bI aV ag aE cN hc bK;go_upto_region 9 with(fail);obtain ⟨w7,bO⟩:=EX (wr.alloc (.cells #[UV c.ak,UV c.aD,.slice bR n bV,.slice b4 n b6,.slice bX bZ bY] 193));rw [bO];obtain ⟨aR,-,aK⟩:=vr _ _ _ _ _ _ _ w7 bO.symm;have i0:=(aK 0 (UV c.ak) rfl).1;have i1:=(aK 1 (UV c.aD) rfl).1;have i2:=(aK 2 (.slice bR n bV) rfl).1;have i3:=(aK 3 (.slice b4 n b6) rfl).1;have i4:=(aK 4 (.slice bX bZ bY) rfl).1;have dx:=(aR.cell (Nr wr _ cg)).trans cg;have br:Hid (CL 140 #[fW c.ak c.aD bR n bV b4 b6 bX bZ bY,PT bf,PT bg,PT bt,PT M] w7 λe w2=>e=RT (.tuple #[])/\LP w0 O n bf bg bt M mb (.slice fa n fc) (Gw bf bg bt M) vo L (((split x p H).take (j+1)).flatMap (ey f m)) (split x p H) (some (AD wb wo)) kk w2):=by have dn:c∈split x p H:=NI HC.o;obtain ⟨l1,l2,l3⟩:=cd.o c dn;have dC:=aL.o;have dA:=bs.o.2.2.2;have cK:=Gh (ey f m) (split x p H) j c HC.o;have cL:=zZ (ey f m) (split x p H) (j+1);rw [cK,NH,<-ax.o]at cL;refine (cU.o w7 _ cQ c cq cP (bb.o.af aR) ⟨_,_,_,_,_,_,_,rfl,(dg.o.af aR).zero⟩ l1 l2 l3 (by omega)).mono λe w2 h=>?_;rw [cK];exact LP.call ck.o bs.o cc.o ci.o cn.o aR h
     clear bO aR aK cg e0 e1 e2 e3 e4;go_wp2_with (go_at_call 140;refine br.o.mono ?_;rintro e w8 ⟨rfl,bi⟩;have ch:=Nq bi;clear bi);go_roundw;exact ⟨j+1,by omega,by go_num,ch⟩;simp [intOf];omega
    ·obtain rfl:j=kk:=by omega
     have df:Hid ((split x p H).take j=split x p H):=Oe (by rw [ag.1];exact Nz _);clear a4 bE bI aV ag bK;go_wp2;refine OS (v:=.tuple #[]) (PW (by kernel_rfl) ..) rfl ?_;refine ⟨rfl,cQ,cq,cP,bb.o,?_,dh.o.then cc.o λ_ _ h=>h,λk h=>(ci.o k h).imp id λh=>N5 a0.o.size h⟩;have:=bs.o;rw [df.o]at this;rw [ax.o];exact this
 go_wp2;go_loopw [10] (λ_ wr=>∃ab ae ac l,Hid (L1 (eL M mb vo) w wr n W na nc xa xc ab ae ac l)/\Hid (CA wr w.heap.size 4 (.slice ab ae ac))) (λ_ wr=>lenOf ((wr.cell? (AD w.heap.size 4)).getD undef));exact ⟨ta,tl,tc,W.bS,Nq (a2.o _ rfl),Nq ((a2.o _ rfl).q 4 _ rfl).1⟩;clear a2;obtain ⟨bW,an,D,l,C,aS⟩:=hrel;have al:l.length=an:=by have:=C.o.row.1;rwa [aC]at this
 have c4:=aS.o;have f4:=(C.o.q 4 (.slice bW an D) rfl).2;have aq:=C.o.bU;have ak:=C.o.bC;cases l with
 |nil=>
  obtain rfl:an=0:=by simpa using al.symm
  clear al;go_upto_region 1 with(fail);have h0:decide ((0:Int)<0)=false:=rfl;go_quiet (fail);go_wp2;go_meet;case rel=>exact ⟨_,_,_,[],Nq (C.o.drewN _),Nq c4,Nq (.inl rfl)⟩
 |cons p r=>
  obtain rfl:an=r.length+1:=by simpa using al.symm
  obtain ⟨U,tq,rfl,aw⟩:=C.o.M0 (Nat.succ_pos _);have bh:=Nq aw;clear aw;obtain ⟨k,hk⟩:=EX r.length;have HK:=Nq hk;rw [hk]at c4 aq C;rw [Ou,hk]at ak;have aW:p<n:=bu.o p (C.o.sub p (Ok ..));obtain ⟨nb,no,rfl,bk⟩:=(HW.o.af C.o.aM).bz;have cp:=bk p aW;have ct:CA wr U tq (IV p):=by
   obtain ⟨-,h0|⟨b,ds,e,aB⟩⟩:=C.o.row.af C.o.aM
   ·omega
   ·cases e
    have:=aB 0 (by omega);rw [Rl]at this;exact this
  have c2:=(C.o.q 2 (.slice (some (AD nb no)) n nc) rfl).1;have bn:(0:Int)<(k:Int)+1:=by omega
  have aZ:0<k+1:=by omega
  have dK:(p:Int)<(n:Int):=by omega
  have dJ:(0:Int)<=(p:Int):=by omega
  clear bk al;cases aD:W.bz p
  ·rw [aD]at cp;go_upto_region 1 with(fail)
   go_region_held3 (λB=>CA B w.heap.size 4 (.slice (some (AD U tq)) (k+1) D)/\CA B w.heap.size 2 (.slice (some (AD nb no)) n nc)/\CA B U tq (IV p)/\CA B nb (no+p) (.bool false))
    (exact ⟨c4,c2,ct,cp⟩)
    (fail)
   go_wp2;go_meet;case rel=>have bJ:=C.o;have bG:=HK.o;subst bG;exact ⟨_,_,_,p::r,Nq bJ.drew,Nq c4,Nq (.inr ⟨p,r,rfl,aD⟩)⟩
  ·rw [aD]at cp;go_upto_region 1 with(fail)
   go_region_held3 (λB=>CA B w.heap.size 4 (.slice (some (AD U tq)) (k+1) D)/\CA B w.heap.size 2 (.slice (some (AD nb no)) n nc)/\CA B U tq (IV p)/\CA B nb (no+p) (.bool true))
    (exact ⟨c4,c2,ct,cp⟩)
    (fail)
   go_wp2;have bx:∀N,(D=1->N=some (AD U tq))->(D≠1->N=some (AD U (tq+1)))->L1 (eL M mb vo) w (wr.setCell (AD w.heap.size 4) (.slice N k (D-1))) n W (some (AD nb no)) nc xa xc N k (D-1) r:=λN h1 h2=>by have bJ:=C.o;have bG:=HK.o;subst bG;exact bJ.tail aD h1 h2
   go_roundw;case rel=>refine ⟨_,_,_,r,Nq (bx _ (λe=>by rw [Oa e]) (λe=>by rw [Of e])).drew,Nq ?_⟩;exact Oj (h:=c4) ..
   case measure=>have e1:(((wr.setCell (AD w.heap.size 4) (Value.slice (if D=1 then some (AD U tq)else some (AD U (tq+1))) k (D-1))).drew).cell? (AD w.heap.size 4))=some (Value.slice (if D=1 then some (AD U tq)else some (AD U (tq+1))) k (D-1)):=Oj (h:=c4) ..;rw [e1,c4];show(_:Nat)<_;simp [lenOf]
end
end Go.Proofs.YtimniinkpipnmaaGreatDoor
namespace Go.Own
open Go.RowKit
def kI{P:Program}{w:WD}{o:Oper}{a:Act}{K:Act->WD->Prop}{Q:Exit->Act->WD->Prop}(l c:Operand)(t:TypeId)(g:o.op=Op.makeSlice t l c)
 (e:TypeId) (i:TypeInfo) (z:Value) (p:P.underlying t=some (.slice e)) (q:P.info? e=some i) (r:i.zero=some z) (s:i.size=1) (A:z.cells=#[z]) (n:Nat)
 (y:a.eval l=IV n) (v:a.eval c=IV n) (j:i.bytes*n<=281474976710656) (m:n<=maxLen)
 (u:∀f,Sl f e (SV w.heap.size n n) n (List.replicate n z)->aj (λ_=>False) w f->K (a.put o.dst (SV w.heap.size n n)) f):aY P o a w K Q:=by
 constructor
 obtain ⟨f,b,h,d⟩:=run_make_full (P:=P) w 0 t e i z 1 p q r s .i64 .i64 n j m (NS _)
 rw [bZ z A]at h
 unfold Oper.wp
 simp [execOp,g,y,v,b,Result.andThen]
 exact u f h ⟨d.os,d.tape,d.output,d.size,λk x _=>d.block k x (by simp)⟩
structure uZ (R:List Nat) (a:Nat->Nat) (d:Nat->TypeId) (z:Nat->Value) (n:Nat) (c:WD) (l:Array Bool) (V:Nat->Value) (w:WD):Prop where
 aA:aj (λ_=>False) c w
 dE:∀j∈R,l.getD j false=true->Sl w (d j) (V (a j)) n (List.replicate n (z j))/\∃b,V (a j)=SV b n n/\c.heap.size<=b
 apart:∀j∈R,∀k∈R,j≠k->l.getD j false=true->l.getD k false=true->(V (a j)).ownBlock≠(V (a k)).ownBlock
def uZ.step{R:List Nat}{a:Nat->Nat}{C:Nat->TypeId}{z:Nat->Value}{n:Nat}{F w w':WD}{l:Array Bool}{V:Nat->Value}(h:uZ R a C z n F l V w)(i:Nat)(I:i∈R)(H:(R.map a).Nodup)(M:i<l.size)
 (J:Sl w' (C i) (SV w.heap.size n n) n (List.replicate n (z i))) (E:aj (λ_=>False) w w'):
 uZ R a C z n F (l.setIfInBounds i true) (up V (a i) (SV w.heap.size n n)) w':=by
 have g:∀j∈R,j≠i->a j≠a i:=by
  intro j m A e;have B:∀(L:List Nat),(L.map a).Nodup->i∈L->j∈L->False:=by
   intro L;induction L with
   |nil=>intro _ h;cases h
   |cons x L K=>intro u G D;rw [NQ,RC]at u;rcases N8.1 G with o|o;rcases N8.1 D with d|d;exact A (d.trans o.symm);exact u.1 (OC.2 ⟨j,d,by rw [e,o]⟩);rcases N8.1 D with d|d;exact u.1 (OC.2 ⟨i,o,by rw [<-e,d]⟩);exact K u.2 o d
  exact B R H I m
 have t:∀j∈R,l.getD j false=true->∀b,(V (a j)).ownBlock=some b->b<w.heap.size:=λj m c b e=>(h.dE j m c).1.lt b e
 have f:∀j,j≠i->(l.setIfInBounds i true).getD j false=l.getD j false:=λj m=>Qi false (P4 m)
 refine ⟨h.aA.trans E,λj m c=>?_,λj m k p s c q=>?_⟩
 by_cases e:j=i
 subst e
 rw [aB]
 exact ⟨J,w.heap.size,rfl,h.aA.size⟩
 rw [f j e]at c
 rw [an _ _ _ _ (g j m e)]
 exact ⟨Sl.aA (h.dE j m c).1 E (λ_ _ h=>h),(h.dE j m c).2⟩
 by_cases y:j=i
 subst y
 have r:k≠j:=P4 s
 rw [f k r]at q
 rw [aB,an _ _ _ _ (g k p r)]
 intro e
 have v:(V (a k)).ownBlock=some w.heap.size:=e.symm
 have:=t k p q _ v;omega
 rw [f j y]at c
 rw [an _ _ _ _ (g j m y)]
 by_cases r:k=i
 subst r
 rw [aB]
 intro e
 have v:(V (a j)).ownBlock=some w.heap.size:=e
 have:=t j m c _ v;omega
 rw [f k r]at q
 rw [an _ _ _ _ (g k p r)]
 exact h.apart j m k p s c q
end Go.Own
namespace Go.Proofs.YtimniinkpipnmaaGreatDoor
open Go.Own
section
open Go.RowKit Go.Maps
def PA:=@List.length_nil
def QL:=@Nat.not_lt_zero
def Q2:=@Nat.lt_succ_self
def RY:=@Go.RowKit.run_makeMap
def AP(c:WD)(b:OA)(n i:Nat)(f:Fm)(o:FA c b n f)(l:Fm.gI f)(a:dV f)(p:n<=50)(d e h g k:Nat):∀m,BX c b n i f d e h g k m
 |0=>λ_ _ _ _ _ _ _ _ j=>absurd j (QL _)
 |m+1=>Fb c b n i f o l a p d e h g k m (AP c b n i f o l a p d e h g k m)
def IW{w:WD}{g n:Nat}(h:Sl w 4 (SV g n n) n (List.replicate n (.bool false))):dW w (some (AD g 0)) n (λ_=>false):=by have a:=fG h;refine ⟨g,0,rfl,λi b=>?_⟩;rw [Od];simp [World.cell?,a,b]
def nT(g e:Nat)(d:List Nat)(v:Value)(w:WD):Prop:=∃a c,v=.slice a e c/\aG .i64 w a e (aH d)/\(∀b o,a=some (AD b o)->g<=b)/\((∃f h,a=some (AD f h)/\f<w.heap.size)\/a=none/\e=0)/\e<=c/\c<=maxLen
def nT.af{d g:Nat}{b:List Nat}{v:Value}{w i:WD}(h:nT d g b v w)(f:BW w i):nT d g b v i:=by obtain ⟨a,c,e,n,j,k,l⟩:=h;exact ⟨a,c,e,n.af f,j,k.imp (λ⟨o,p,e,m⟩=>⟨o,p,e,NL m f.size⟩) id,l⟩
def nT.dE{m j c:Nat}{d:List Nat}{a:OA}{w p:WD}(v:m<=w.heap.size)(h:aE .i64 3 w p (.slice a j c) (aH d)):nT m j d (.slice a j c) p:=by obtain ⟨x,y,e,n⟩:=lB h;obtain ⟨s,t,z⟩:=On e;rw [<-s,<-t]at n;refine ⟨a,c,rfl,n,λb o e=>?_,?_⟩;subst e;exact N5 v (h.2.2 b rfl);rcases h.1.2 with⟨i,u⟩|⟨g,q,r,i,-,u,A,B,-⟩;obtain ⟨f,k,l⟩:=On i;exact ⟨.inr ⟨f,k⟩,by omega,by rw [l];exact NS _⟩;obtain ⟨f,k,l⟩:=On i;refine ⟨.inl ⟨g,0,f,?_⟩,by omega,by omega⟩;exact h.1.lt g (by rw [f];rfl)
def Aq{w a:WD}(h:aj (λ_=>False) w a):BW w a:=h.af (Nz _) (λ_ _ h=>h)
def cS.Ms{w d:WD}{S b:Nat->Prop}{n:Nat}:∀{L:List Wy}{a:List (bu×bu)},(∀W r,r∈a->fj w S n W r->fj d b n W r)->cS w S n L a->cS d b n L a
 |[],[],_,_=>PO
 |_::L,_::a,c,h=>⟨c _ _ (Ok ..) h.1,cS.Ms (λW r e=>c W r (Ot _ e)) h.2⟩
 |[],_::_,_,h=>h
 |_::_,[],_,h=>h
def ag(w:WD)(o:Obj):BW w (w.alloc o):=(Nx _ _).alloc (Nz _) _
def Il{w a j:WD}{n C:Nat}{B:OA}(D:BW w a)(F:CA a w.heap.size 0 (.slice B n C))
 (e:j=(((a.alloc (.cells #[SN] 153)).alloc (.map #[] 0)).alloc (.cells #[.map (some (a.heap.size+1))] 190)).alloc (.cells #[Gw w.heap.size (a.heap.size+1+1+1) (a.heap.size+1+1) a.heap.size] 191)):
 Gt w j n w.heap.size (a.heap.size+1+1+1) (a.heap.size+1+1) a.heap.size (a.heap.size+1) (.slice B n C) (Gw w.heap.size (a.heap.size+1+1+1) (a.heap.size+1+1) a.heap.size) (SN) [] []/\BW a j:=by
 obtain ⟨b,l⟩:=EX (a.alloc (.cells #[SN] 153))
 obtain ⟨c,m⟩:=EX (b.alloc (.map #[] 0))
 obtain ⟨d,o⟩:=EX (c.alloc (.cells #[.map (some (a.heap.size+1))] 190))
 rw [l,m,o]at e
 have G:b.heap.size=a.heap.size+1:=by rw [<-l,NG]
 have H:c.heap.size=a.heap.size+1+1:=by rw [<-m,NG,G]
 have I:d.heap.size=a.heap.size+1+1+1:=by rw [<-o,NG,H]
 have N:j.heap.size=a.heap.size+1+1+1+1:=by rw [e,NG,I]
 have J:BW a b:=l▸ag _ _
 have K:BW b c:=m▸ag _ _
 have L:BW c d:=o▸ag _ _
 have u:BW d j:=e▸ag _ _
 have i:=aa L u
 have g:=aa K i
 have f:=aa J g
 have t:w.heap.size<a.heap.size:=Nr _ _ F
 obtain ⟨v,A⟩:=bp a #[SN] 153 0 _ rfl
 rw [l]at v A
 obtain ⟨p,q⟩:=cW g ⟨v,A⟩
 have E:=(cE.aK Tryz.prog 199 b).af (by rw [m];exact i)
 rw [G]at E
 have y:=(bp c #[.map (some (a.heap.size+1))] 190 0 _ rfl).1
 rw [o,H]at y
 have z:=(bp d #[Gw w.heap.size (a.heap.size+1+1+1) (a.heap.size+1+1) a.heap.size] 191 0 _ rfl).1
 rw [<-e,I]at z
 refine ⟨⟨(f.cell t).trans F,z,(u.cell (show a.heap.size+1+1<d.heap.size by omega)).trans y,p,q,Ox _ _ _ _,PO,cE.ext E (λx=>?_),⟨⟨by omega,by omega,by omega,by omega⟩,by omega,by omega,by omega⟩,λk s=>(by cases s),⟨by omega,by omega,λk s=>(by cases s)⟩,D.trans (f.mono D.size),λr M=>(by cases M)⟩,f⟩
 unfold tL
 rw [Of (λ⟨W,h,_⟩=>by cases h)]
def yW(w:WD)(n:Nat)(f:Fm)(d:List Nat)(e:Ending)(g:WD):Prop:=
 ∃a c L h,e=RT (.slice a (List.length L) c)/\BW w g/\g.ownsRow 0 119 4 (.slice a L.length c) L.length (dZ L h)/\(∀b,(Value.slice a L.length c).ownBlock=some b->w.heap.size<=b)/\cS g (λk=>k<w.heap.size) n L h/\L.length<=16777216/\(∀Z∈L,Z∈ey f (n+1) (Wy.aK d))/\(∀z∈ey f (n+1) (Wy.aK d),∃Y∈L,bH n Y=bH n z)/\BS f d λc=>∃Z∈L,bH n Z=c
def Cm(D:OA)(n E:Nat)(f:Fm)(Q:OA)(q pc:Nat)(d:List Nat)(w:WD)(hf:FA w D n f)(hN:Fm.gI f)(ad:dV f)(hn:n<=50)(hp:aG .i64 w Q q (aH d))(ac:∀p∈d,p<n)(aK:q<=1000)(M:Q=none->q=0/\pc=0):
 CL 107 #[.slice D n E,.slice Q q pc] w (yW w n f d):=by
 obtain ⟨ar,L,P,O,J⟩:=Ol Tryz.nV
 have aC:=@RY Tryz.prog
 have HF:=Nq hf
 have HN:=Nq hN
 have aB:=Nq ad
 have HP:=Nq hp
 have aj:=Nq ac
 have ak:=Nq M
 have HG:Hid (∀w1,BW w w1->CL 139 #[.slice D n E,.slice Q q pc] w1 λe j=>e=RT (.bool true)/\BW w1 j):=λw1 t=>Hf D n E f Q q pc d w1 (hf.af t) hN ad hn (hp.af t) ac (by omega)
 have aA:=Nq (HG.o (w.alloc (.cells #[.slice D n E] 22)) ((Nx _ _).alloc (Nz _) _))
 clear hf hN ad hp ac M HG
 go_enter Tryz.func107,Tryz.ntmps107
 go_upto_region 7 with(go_at_call 139;refine aA.o.mono ?_;rintro e G ⟨rfl,X⟩;have ag:=Nq (aa ((Nx _ w).alloc (Nz _) (.cells #[.slice D n E] 22)) X);have q0:=(X.cell (by rw [NG];exact Q2 _)).trans (NV (w:=w) #[.slice D n E] 22 w.heap.size 0 rfl);clear X)
 obtain ⟨g,hg⟩:=EX G.heap.size
 obtain ⟨h,hh⟩:=EX w.heap.size
 obtain ⟨m,af⟩:=EX ((((G.alloc (.cells #[SN] 153)).alloc (.map #[] 0)).alloc (.cells #[.map (some (G.heap.size+1))] 190)).alloc (.cells #[Gw w.heap.size (G.heap.size+1+1+1) (G.heap.size+1+1) G.heap.size] 191))
 obtain ⟨x,al⟩:=Il ag.o q0 af.symm
 rw [af]
 rw [hg,hh]at x⊢
 have aw:=Nq x
 have ah:=Nq (aa ag.o al)
 have HH:=Nq hh
 have H:Hid (∀k,eL g (g+1) (SN) k->k<m.heap.size):=x.eE
 have cf:=x.cf
 have cg:=x.cg
 have HQ:Hid (∀W',Below m.drew.heap.size m.drew W'->CA W' h 0 (.slice D n E)/\CA W' (g+1+1+1) 0 (Gw h (g+1+1+1) (g+1+1) g)):=λj t=>by have t:BW m j:=(Nx _ _).drew.trans t;exact ⟨(t.cell (Nr m _ cf)).trans cf,(t.cell (Nr m _ cg)).trans cg⟩
 have au:Hid (∀j,Below m.drew.heap.size m.drew j->CL 91 #[.slice Q q pc] j λe A=>∃v,e=RT v/\BW j A/\nT m.heap.size q d v A):=λj t=>by have I:BW m j:=(Nx _ _).drew.trans t;exact (eJ Q q pc (aH d) j (HP.o.af (ah.o.trans (I.mono ah.o.size))) ak.o (by omega)).mono λe A ⟨a',c',he,hm⟩=>⟨_,he,hm.2.1,nT.dE I.size hm⟩
 clear af x al q0 hg hh aC
 refine av 10 (S:=λW'=>CA W' h 0 (.slice D n E)/\CA W' (g+1+1+1) 0 (Gw h (g+1+1+1) (g+1+1) g)) (by kernel_rfl) (⟨cf,cg⟩) (λT=>?_)
 refine' az 0 ?_
 refine' az 1 ?_ [9,3,2,1]
 refine' az 2 ?_ [9,3,2]
 refine' az 4 ?_ [9,6,5,4]
 refine' az 5 ?_ [9,6,5]
 refine' az 7 ?_ [8,7]
 clear T cf cg
 refine cA [3,6,8,9] (λi=>if i=3 then 17 else if i=6 then 20 else if i=8 then 22 else 23) #[true,true,true,true,true,true,true,true,true,true,false] 1
  (λi v w=>match i with|3=>∃b,v=SV b n n/\m.heap.size<=b/\dW w (some (AD b 0)) n (λ_=>false)|6=>∃b,v=SV b n n/\m.heap.size<=b/\dW w (some (AD b 0)) n (λ_=>false)|8=>nT m.heap.size q d v w|_=>∃na nc xa xc ta tc,v=fW 0 0 na n nc xa xc ta q tc/\Gv (eL g (g+1) (SN)) w na n xa ta q tc (Wy.aK d)) (by kernel_rfl) (by kernel_rfl) rfl (by decide) ?st1 ?st2 (by decide) ?st3 ?st4
 case st1=>intro i v w4 w5 hv t;split at hv;obtain ⟨b,e,h1,h2⟩:=hv;exact ⟨b,e,h1,h2.af t⟩;obtain ⟨b,e,h1,h2⟩:=hv;exact ⟨b,e,h1,h2.af t⟩;exact nT.af hv t;obtain ⟨na,nc,xa,xc,ta,tc,e,h⟩:=hv;exact ⟨na,nc,xa,xc,ta,tc,e,h.af t⟩
 case st2=>exact HQ.o
 case st3=>
  rintro l V j i o hl aJ hi N hr U K F;simp only [N8,O5,QD]at hi;rcases hi with rfl|rfl|rfl|rfl;simp only [NT,NN,NO,N0]at N;subst N;refine kI (.tmp 16) (.tmp 16) 67 rfl 4 ar (.bool false) P0 L P O rfl n rfl rfl (by rw [J];omega) (by unfold maxLen;omega) (λG hs hk=>F _ G (Aq hk) ⟨_,rfl,U.aM.size,IW hs⟩);simp only [NT,NN,NO,N0]at N;subst N;refine kI (.tmp 19) (.tmp 19) 67 rfl 4 ar (.bool false) P0 L P O rfl n rfl rfl (by rw [J];omega) (by unfold maxLen;omega) (λG hs hk=>F _ G (Aq hk) ⟨_,rfl,U.aM.size,IW hs⟩);simp only [NT,NN,NO,N0]at N;subst N;refine aN (R:=λe A=>∃v,e=RT v/\BW j A/\nT m.heap.size q d v A) (f:=91) (args:=#[.slice Q q pc]) (au.o j U.aM) ?_ (λe w4 ⟨v,he,t,hv⟩=>⟨v,he,F v w4 t hv⟩);clear F;simp only [NQ,NZ,aP,Act.put,reduceIte,Nat.reduceEqDiff,NB,NR,NM];go_simp;simp only [NT,NN,NO,N0]at N;subst N;obtain ⟨b3,e3,l3,r3⟩:=U.mS 3 (by decide) (aU (l:=[3,6,8]) (by kernel_rfl) hr 3 (by simp));obtain ⟨b6,e6,l6,r6⟩:=U.mS 6 (by decide) (aU (l:=[3,6,8]) (by kernel_rfl) hr 6 (by simp));obtain ⟨a8,c8,e8,r8,l8,s8,p8⟩:=U.mS 8 (by decide) (aU (l:=[3,6,8]) (by kernel_rfl) hr 8 (by simp));change V 17=_ at e3;change V 20=_ at e6;change V 22=_ at e8;have y:Gv (eL g (g+1) (SN)) j (some (AD b3 0)) n (some (AD b6 0)) a8 q c8 (Wy.aK d):=
   ⟨r3,r6,r8,s8,p8,⟨(by decide:(0:Nat)<18446744073709551616),(by decide:(0:Nat)<18446744073709551616)⟩,λk hk=>NL (H.o k hk) U.aM.size,λb o e s=>by cases e;have:=H.o _ s;omega,λb o e s=>by cases e;have:=H.o _ s;omega,λb o e s=>by have:=l8 b o e;have:=H.o _ s;omega⟩
  refine bT (v:=fW 0 0 (some (AD b3 0)) n n (some (AD b6 0)) n a8 q c8) (w':=j) ?_ (F _ _ (Nx _ _) ⟨_,_,_,_,_,_,rfl,y⟩);clear F y;simp only [NQ,NZ,aP,Act.put,reduceIte,Nat.reduceEqDiff,NB,NR,NM];rw [e3,e6,e8];go_simp
 case st4=>
  intro V j am hV;simp only [NQ,NZ,aP,Act.put,reduceIte,Nat.reduceEqDiff,NB,NR,NM];obtain ⟨na,nc,xa,xc,ta,tc,e9,y⟩:=hV 9 (by decide);change V 23=_ at e9;have ai:BW m j:=(Nx _ _).drew.trans am;have B:CL 140 #[V 23,PT h,PT (g+1+1+1),PT (g+1+1),PT g] j (BV w j n h (g+1+1+1) (g+1+1) g (g+1) (.slice D n E) (Gw h (g+1+1+1) (g+1+1) g) (SN) [] (ey f (n+1) (Wy.aK d))):=by have ao:=y.bC;have aD:=vJ (f:=f) (n+1) (Wy.aK d) (by rw [HF.o.size];omega);refine AP w D n E f HF.o HN.o aB.o hn _ _ _ _ _ (n+1) j (V 23) (SN) (Wy.aK d) [] [] (aw.o.af ai) ⟨na,nc,xa,xc,ta,q,tc,e9,y⟩ ?_ (by omega) aj.o (by simp only [PA];omega);have:fresh n (Wy.aK d)<=(List.range n).length:=OD _ _;rw [OQ]at this;omega
  have ax:=Nq B;clear B e9 y hV am ai;refine aI 10 λK F=>?_;rw [Oa (by rfl)];apply aY.o;refine aN (f:=140) (args:=#[V 23,PT h,PT (g+1+1+1),PT (g+1+1),PT g]) ax.o ?_ (λe w8 ae=>?_);clear F;go_simp;obtain ⟨rfl,aF,L',aE,ab,an,-,ap⟩:=ae;refine ⟨_,rfl,?_⟩;refine F.o _ _ (λe=>nomatch e) ?_;clear F K;try walk_nrm
  have co:=ab.co;have u:=Nq ab;have C:=Nq an;clear ab an ap;refine ay (by kernel_rfl) ?_;go_wp2;go_ret;show yW w n f d (RT aF) w8;obtain ⟨a,c,rfl⟩:=bw u.o.cK;have aq:=HF.o.size;have ao:=C.o.2.2.2;have aD:=vJ (f:=f) (n+1) (Wy.aK d) (by omega);simp only [PA,Od]at ao;refine ⟨a,c,L',aE,rfl,u.o.aM,u.o.cK,λb e=>u.o.dJ.2.2 b e,cS.Ms (λW r hr h=>?_) u.o.bG,by omega,λZ hZ=>(C.o.1 Z hZ).resolve_left (λh=>by cases h),λz hz=>C.o.2.2.1 z hz,?_⟩;obtain ⟨l1,l2⟩:=u.o.bL r hr;exact ⟨h.1,h.2.1,λb o e s=>by have:=l1 b o e;omega,λb o e s=>by have:=l2 b o e;omega,h.2.2.2.2⟩;refine qX HN.o d (λp hp=>by rw [aq];exact aj.o p hp) (n+1) (by omega) _ (λc=>?_);rw [aq];exact ⟨λ⟨Z,hZ,e⟩=>⟨Z,(C.o.1 Z hZ).resolve_left (λh=>by cases h),e⟩,λ⟨z,hz,e⟩=>by obtain ⟨Y,hY,e2⟩:=C.o.2.2.1 z hz;exact ⟨Y,hY,e2.trans e⟩⟩
end
section
open Go.RowKit
def z7{f:Fm}{n j:Nat}(h:j<(dG f n).length):∃(p:Nat)(x:Fm),(dG f n)[j]? =some (p:Int)/\(Fm.aQ f)[p]? =some x/\Jr x=true/\p<n:=by
 obtain ⟨z,d⟩:∃z,(dG f n)[j]? =some z:=⟨_,Ny h⟩;have c:=NI d;unfold dG at c;obtain ⟨p,i,e⟩:=OC.1 c;obtain ⟨g,a⟩:=Og.1 i;cases b:(Fm.aQ f)[p]? with
 |none=>rw [b]at a;cases a
 |some x=>rw [b]at a;exact ⟨p,x,by rw [d,<-e],b,a,Oq.1 g⟩
def CN(b a:List Int)(s:Nat):Bool:=!decide (b.getD s 0∈a)||decide (b.getD s 0-1∈a)
def kM(b a:List Int)(k N:Nat):Prop:=N<18446744073709551616/\∀s,N.testBit s=(decide (s<k)&&CN b a s)
def kM.zero(b a:List Int):kM b a 0 0:=⟨by decide,λs=>by simp⟩
def kM.skip{b a:List Int}{k N:Nat}(h:kM b a k N)(c:CN b a k=false):kM b a (k+1) N:=by
 refine ⟨h.1,λs=>?_⟩;rw [h.2];by_cases e:s=k;subst e;simp [c];have:decide (s<k+1)=decide (s<k):=by simp;omega
 rw [this]
def kM.set{b a:List Int}{k N:Nat}(h:kM b a k N)(f:CN b a k=true)(g:k<64):kM b a (k+1) (N|||2^k):=by
 refine ⟨Rm (n:=64) h.1 (Qy (by decide) g),λs=>?_⟩;rw [Nat.testBit_or,h.2,Sz];by_cases e:s=k;subst e;simp [f];have c:decide (s<k+1)=decide (s<k):=by simp;omega
 have d:decide (k=s)=false:=NX (λh=>e h.symm);rw [c,d,SD]
def Fz(T:OA)(n fc:Nat)(f:Fm)(O al:Nat)(xa:OA)(xl xc:Nat)(G:OA)(E K:Nat)(c:List Int)(w:WD)(hf:FA w T n f)(hN:Fm.gI f)(J:dV f)(hn:n<=50)(hy:aG .i64 w G E c)(az:E<=1000):
 CL 146 #[.slice T n fc,.agg #[UV O,UV al,.slice xa xl xc,.slice G E K]] w λe D=>∃N:Nat,e=RT (UV N)/\BW w D/\kM (dG f n) c (dG f n).length N:=by
 obtain ⟨k,ab⟩:=EX (w.alloc (.cells #[UV O,UV al,.slice xa xl xc,.slice G E K] 119))
 have o:BW w k:=ab▸ag _ _
 have W:CA k w.heap.size 3 (.slice G E K):=by rw [<-ab];exact NV (w:=w) _ 119 w.heap.size 3 rfl
 have ae:=Nq (zz T n fc f k (hf.af o) hN J (by omega))
 have R:Hid (∀d,BW k d->CL 75 #[.slice T n fc] d λe D=>∃a' m c',e=RT (.slice a' m c')/\aE .i64 3 d D (.slice a' m c') (dG f n)):=λd U=>wX T n fc _ f d (hf.af (aa o U)) (by omega) (fA J)
 have au:Hid (∀(p:Nat)(x:Fm)(d:WD),BW k d->(Fm.aQ f)[p]? =some x->CL 166 #[.slice T n fc,IV p] d λe D=>e=RT (.tuple #[IV (ql x p),IV (tJ x p)])/\BW d D):=λp x d U hx=>gd T n fc _ f x p d (hf.af (aa o U)) (by omega) (fA J) hx
 have ad:Hid (∀d (z:Int),BW k d->CL 110 #[.slice G E K,IV z] d λe D=>e=RT (.bool (decide (z∈c)))/\D=d):=λd z U=>jJ G E K c z d (hy.af (aa o U)) (by omega)
 have aj:Hid ((dG f n).length<=50):=N5 (BJ f n) hn
 have ai:Hid (∀j,j<(dG f n).length->∃(p:Nat)(x:Fm),(dG f n)[j]? =some (p:Int)/\(Fm.aQ f)[p]? =some x/\Jr x=true/\p<n):=λj h=>z7 h
 have ap:=Nq o
 have ar:Hid (∀d,BW k d->CA d w.heap.size 3 (.slice G E K)):=λd U=>(U.cell (Nr _ _ W)).trans W
 obtain ⟨F,an⟩:=EX (dG f n)
 rw [an]at R aj ai⊢
 clear hf hN J hy o W an
 go_enter Tryz.func146,Tryz.ntmps146
 go_upto_region 1 with(fail)
 clear ab
 go_upto_region 5 with(first
  |(go_at_call 76;refine ae.o.mono ?_;rintro e d ⟨rfl,V⟩;have aq:=Nq V;have HU:=Nq (R.o d V);clear V)
  |(go_at_call 75;refine HU.o.mono ?_;rintro e w3 ⟨ua,P,uc,rfl,hm⟩;have HM:=Nq hm;clear hm))
 obtain ⟨Z,M⟩:F.length=P/\aG .i64 w3 ua P F:=by obtain ⟨a',c',e,hr⟩:=lB HM.o;obtain ⟨e1,e2,e3⟩:=On e;rw [<-e1,<-e2]at hr;exact ⟨e2.symm,hr⟩
 have ak:=Nq Z
 have af:=Nq M
 have ac:Hid (BW k w3):=aa aq.o HM.o.2.1
 have av:P<=50:=by rw [<-Z];exact aj.o
 clear Z M R HU ae
 go_wp2
 go_loopw [5,16] (λy x wr=>∃j N:Nat,j<=P/\x=IV j/\y=UV N/\Hid (BW w3 wr)/\Hid (kM F c j N)) (λ_ x _=>P-(intOf x).toNat)
 exact ⟨0,0,NS _,rfl,rfl,Nq (Nx _ _),Nq (kM.zero _ _)⟩
 obtain ⟨j,N,hj,rfl,rfl,v,q⟩:=hrel
 by_cases am:j<P
 ·have ax:(j:Int)<(P:Int):=by omega
  have aw:(j:Int)<64:=by omega
  obtain ⟨p,x,Y,hx,ao,ay⟩:=ai.o j (by rw [ak.o];exact am);obtain ⟨a0,b0,rfl⟩:∃a b,x=Fm.dw a b:=by cases x<;>first|exact ⟨_,_,rfl⟩|cases ao
  obtain ⟨-,h0|⟨ub,uo,rfl,C⟩⟩:=af.o.af v.o
  ·omega
  have cu:CA wr ub (uo+j) (IV p):=by have:=C j am;rw [Nw,Y]at this;exact this
  have l:=Nq (aa ac.o v.o);have HK:=Nq (au.o p _ wr l.o hx);obtain ⟨L,hL⟩:=EX (ql (Fm.dw a0 b0) p);have hR:tJ (Fm.dw a0 b0) p=(p:Int)-1:=rfl;rw [hL,hR]at HK;have s:Hid (CN F c j=(!decide ((p:Int)∈c)||decide ((p:Int)-1∈c))):=by show CN F c j=_;unfold CN;rw [Nw,Y];rfl
  have ah:Hid (∀r,BW wr r->CA r w.heap.size 3 (.slice G E K)/\Hid (BW w3 r)/\Hid (CL 110 #[.slice G E K,IV p] r λe D=>e=RT (.bool (decide ((p:Int)∈c)))/\D=r)/\Hid (CL 110 #[.slice G E K,IV ((p:Int)-1)] r λe D=>e=RT (.bool (decide ((p:Int)-1∈c)))/\D=r)):=λr i=>
   ⟨ar.o r (aa l.o i),Nq (v.o.trans (i.mono v.o.size)),Nq (ad.o r _ (aa l.o i)),Nq (ad.o r _ (aa l.o i))⟩
  clear C hx ao hL hR Y;go_upto_region 8 with(go_at_call 166;refine HK.o.mono ?_;rintro e r ⟨rfl,i⟩;obtain ⟨c3,Q,H,I⟩:=ah.o r i;clear i);clear ah HK;obtain ⟨A,hA⟩:=EX (decide ((p:Int)∈c));obtain ⟨B,hB⟩:=EX (decide ((p:Int)-1∈c));rw [hA]at H s;rw [hB]at I s;clear hA hB cu;cases A
  ·have t:Hid (bits BinOp.or IntKind.u64 (N:Int) (IntKind.u64.wrap (2^j))=((N|||2^j:Nat):Int)):=wv q.o.1 (by omega) rfl;have g:Hid (kM F c (j+1) (N|||2^j)):=q.o.set (s.o.trans rfl) (by omega)
   obtain ⟨S,u⟩:=EX (N|||2^j);rw [u]at t g;have X:=t.o;clear u;go_wp2_with (go_at_call 110;first|(with_reducible refine H.o.mono ?_;rintro e w5 ⟨rfl,rfl⟩)|(with_reducible refine I.o.mono ?_;rintro e w6 ⟨rfl,rfl⟩));go_roundw;exact ⟨j+1,S,by omega,by go_num,(by first|rfl|(rw [X])),Q,g⟩;simp [intOf];omega
  ·cases B
   ·have g:Hid (kM F c (j+1) N):=q.o.skip (s.o.trans rfl);go_wp2_with (go_at_call 110;first|(with_reducible refine H.o.mono ?_;rintro e w5 ⟨rfl,rfl⟩)|(with_reducible refine I.o.mono ?_;rintro e w6 ⟨rfl,rfl⟩))
    go_roundw;exact ⟨j+1,N,by omega,by go_num,rfl,Q,g⟩;simp [intOf];omega
   ·have t:Hid (bits BinOp.or IntKind.u64 (N:Int) (IntKind.u64.wrap (2^j))=((N|||2^j:Nat):Int)):=wv q.o.1 (by omega) rfl;have g:Hid (kM F c (j+1) (N|||2^j)):=q.o.set (s.o.trans rfl) (by omega)
    obtain ⟨S,u⟩:=EX (N|||2^j);rw [u]at t g;have X:=t.o;clear u;go_wp2_with (go_at_call 110;first|(with_reducible refine H.o.mono ?_;rintro e w5 ⟨rfl,rfl⟩)|(with_reducible refine I.o.mono ?_;rintro e w6 ⟨rfl,rfl⟩));go_roundw;exact ⟨j+1,S,by omega,by go_num,(by first|rfl|(rw [X])),Q,g⟩;simp [intOf];omega
 ·obtain rfl:j=P:=by omega
  go_wp2;go_ret;refine ⟨N,rfl,?_,by rw [ak.o];exact q.o⟩;exact aa ap.o (aa ac.o v.o)
end
def OW:=@List.cons_append
def uP{s:UInt8}:∀{a b x y:List UInt8},s∉a->s∉b->a++s::x=b++s::y->a=b/\x=y
 |[],[],x,y,_,_,h=>⟨rfl,by simpa using h⟩
 |[],c::b,x,y,_,f,h=>by simp only [PU,OW,Pz]at h;exact absurd (N8.2 (.inl h.1)) f
 |c::a,[],x,y,e,_,h=>by simp only [PU,OW,Pz]at h;exact absurd (N8.2 (.inl h.1.symm)) e
 |c::a,d::b,x,y,e,f,h=>by simp only [OW,Pz]at h;obtain ⟨g,i⟩:=uP (λm=>e (Ot _ m)) (λm=>f (Ot _ m)) h.2;exact ⟨by rw [h.1,g],i⟩
def Dg(l:List UInt8):Prop:=l≠[]/\(32:UInt8)∉l/\(59:UInt8)∉l
def eO(l:List (List UInt8)):List UInt8:=l.flatMap λx=>x++[32]
def jX(x:List UInt8)(l:List (List UInt8)):eO (x::l)=x++32::eO l:=by unfold eO;simp
def DK{x:List UInt8}(h:Dg x){r y:List UInt8}:¬(x++32::r=59::y):=by
 intro e;cases x with
 |nil=>exact h.1 rfl
 |cons c x=>simp only [OW,Pz]at e;exact h.2.2 (N8.2 (.inl e.1.symm))
def vR:∀{l m:List (List UInt8)}{x y:List UInt8},(∀z∈l,Dg z)->(∀z∈m,Dg z)->eO l++59::x=eO m++59::y->l=m/\x=y
 |[],[],x,y,_,_,h=>⟨rfl,by simpa [eO]using h⟩
 |[],z::m,x,y,_,b,h=>by rw [jX,Ov,OW]at h;exact absurd h.symm (DK (b z (Ok ..)))
 |z::l,[],x,y,a,_,h=>by rw [jX,Ov,OW]at h;exact absurd h (DK (a z (Ok ..)))
 |z::l,u::m,x,y,a,b,h=>by rw [jX,jX,Ov,Ov,OW,OW]at h;obtain ⟨d,e⟩:=uP (a z (Ok ..)).2.1 (b u (Ok ..)).2.1 h;obtain ⟨f,g⟩:=vR (λz c=>a z (Ot _ c)) (λz c=>b z (Ot _ c)) e;exact ⟨by rw [d,f],g⟩
def Hq{l m:List (List UInt8)}(a:∀z∈l,Dg z)(b:∀z∈m,Dg z)(h:eO l=eO m):l=m:=
 (vR a b (x:=[]) (y:=[]) (by rw [h])).1
def zG{α β:Type}{g:α->β}(a:∀x y,g x=g y->x=y):∀{l m:List α},l.map g=m.map g->l=m
 |[],[],_=>rfl
 |[],_::_,h=>by simp at h
 |_::_,[],h=>by simp at h
 |x::l,y::m,h=>by simp only [NQ,Pz]at h;rw [a x y h.1,zG a h.2]
def G9{d:Nat}(h:d<10):UInt8.ofNat (48+d)≠32/\UInt8.ofNat (48+d)≠59:=by
 have a:∀d:Fin 10,UInt8.ofNat (48+d.val)≠32/\UInt8.ofNat (48+d.val)≠59:=by decide
 exact a ⟨d,h⟩
def DJ{a b:Nat}(d:a<10)(e:b<10)(h:UInt8.ofNat (48+a)=UInt8.ofNat (48+b)):a=b:=by
 have c:∀a b:Fin 10,UInt8.ofNat (48+a.val)=UInt8.ofNat (48+b.val)->a=b:=by decide
 exact P5 Fin.val (c ⟨a,d⟩ ⟨b,e⟩ h)
def gY(u:Nat):Lib.decDigits u=if u<10 then [UInt8.ofNat (48+u)]else Lib.decDigits (u/10)++[UInt8.ofNat (48+u%10)]:=by
 conv=>lhs;unfold Lib.decDigits
 split<;>rfl
def Co(u:Nat):Dg (Lib.decDigits u):=by
 induction u using Nat.strongRecOn with
 |ind u c=>rw [gY];by_cases h:u<10;rw [Oa h];have:=G9 h;exact ⟨by simp,λm=>this.1 (Nv.1 m).symm,λm=>this.2 (Nv.1 m).symm⟩;rw [Of h];obtain ⟨e,a,b⟩:=c (u/10) (by omega);have:=G9 (d:=u%10) (by omega);refine ⟨by simp,λm=>?_,λm=>?_⟩;rcases NY.1 m with m|m;exact a m;exact this.1 (Nv.1 m).symm;rcases NY.1 m with m|m;exact b m;exact this.2 (Nv.1 m).symm
def lL{α:Type}{a b:List α}{x y:α}(h:a++[x]=b++[y]):a=b/\x=y:=by have:=P5 List.reverse h;simp only [List.reverse_append,PJ,List.reverse_nil,PU,OW,Pz,List.reverse_inj]at this;exact ⟨this.2,this.1⟩
def DI:∀(u v:Nat),Lib.decDigits u=Lib.decDigits v->u=v:=by
 intro u;induction u using Nat.strongRecOn with
 |ind u g=>intro v h;rw [gY u,gY v]at h;by_cases d:u<10;by_cases c:v<10;rw [Oa d,Oa c]at h;exact DJ d c (by simpa using h);rw [Oa d,Of c]at h;have:=(lL (a:=[]) h).1;exact absurd this.symm (Co _).1;by_cases c:v<10;rw [Of d,Oa c]at h;have:=(lL (b:=[]) h).1;exact absurd this (Co _).1;rw [Of d,Of c]at h;obtain ⟨e,f⟩:=lL h;have i:=g (u/10) (by omega) _ e;have j:=DJ (by omega) (by omega) f;omega
def gT(d:Nat):UInt8:=if d<10 then UInt8.ofNat (48+d)else UInt8.ofNat (87+d)
def eP(u:Nat):List UInt8:=if u<16 then [gT u]else eP (u/16)++[gT (u%16)]
termination_by u
decreasing_by omega
def kE(u:Nat):eP u=if u<16 then [gT u]else eP (u/16)++[gT (u%16)]:=by conv=>lhs;unfold eP
def Hj{d:Nat}(h:d<16):gT d≠32/\gT d≠59:=by
 have a:∀d:Fin 16,gT d.val≠32/\gT d.val≠59:=by decide
 exact a ⟨d,h⟩
def DT{a b:Nat}(d:a<16)(e:b<16)(h:gT a=gT b):a=b:=by
 have c:∀a b:Fin 16,gT a.val=gT b.val->a=b:=by decide
 exact P5 Fin.val (c ⟨a,d⟩ ⟨b,e⟩ h)
def qh(u:Nat):Dg (eP u):=by
 induction u using Nat.strongRecOn with
 |ind u c=>rw [kE];by_cases h:u<16;rw [Oa h];have:=Hj h;exact ⟨by simp,λm=>this.1 (Nv.1 m).symm,λm=>this.2 (Nv.1 m).symm⟩;rw [Of h];obtain ⟨e,a,b⟩:=c (u/16) (by omega);have:=Hj (d:=u%16) (by omega);refine ⟨by simp,λm=>?_,λm=>?_⟩;rcases NY.1 m with m|m;exact a m;exact this.1 (Nv.1 m).symm;rcases NY.1 m with m|m;exact b m;exact this.2 (Nv.1 m).symm
def DS:∀(u v:Nat),eP u=eP v->u=v:=by
 intro u;induction u using Nat.strongRecOn with
 |ind u g=>intro v h;rw [kE u,kE v]at h;by_cases d:u<16;by_cases c:v<16;rw [Oa d,Oa c]at h;exact DT d c (by simpa using h);rw [Oa d,Of c]at h;have:=(lL (a:=[]) h).1;exact absurd this.symm (qh _).1;by_cases c:v<16;rw [Of d,Oa c]at h;have:=(lL (b:=[]) h).1;exact absurd this (qh _).1;rw [Of d,Of c]at h;obtain ⟨e,f⟩:=lL h;have i:=g (u/16) (by omega) _ e;have j:=DT (by omega) (by omega) f;omega
def wO(a b:Nat)(next c:List Nat):List UInt8:=eP a++32::(eP b++59::(eO (next.map Lib.decDigits)++59::eO (c.map Lib.decDigits)))
def IQ{d g a c:Nat}{next i b f:List Nat}(h:wO d g next i=wO a c b f):d=a/\g=c/\next=b/\i=f:=by
 unfold wO at h;have j:∀(l:List Nat),∀z∈l.map Lib.decDigits,Dg z:=λl z p=>by obtain ⟨u,-,e⟩:=OC.1 p;rw [<-e];exact Co u
 obtain ⟨k,h⟩:=uP (qh _).2.1 (qh _).2.1 h;obtain ⟨m,h⟩:=uP (qh _).2.2 (qh _).2.2 h;obtain ⟨n,h⟩:=vR (j _) (j _) h;have o:=Hq (j _) (j _) h;exact ⟨DS _ _ k,DS _ _ m,zG DI n,zG DI o⟩
section
open Go.RowKit
def Nt:=@Go.Lib.cell_of_heap
def NA:=@Go.Lib.frozen_of_heap
def Ph:=@Option.map_eq_some_iff
def Tryz.Eg:(Tryz.prog.info? 223).map (λi=>i.size)=some 2:=by kernel_rfl
def Tryz.J5:liesAt Tryz.prog Tryz.prog.depth 223 (2/Tryz.prog.cellsOf 223) 0 223 1=true:=by kernel_rfl
def vu(w:WD)(b:Nat)(l:CA w b 0 (.pointer none))(c:w.shape? b=some (223,2))(f:FZ w b 0):
 CL 184 #[PT b] w λe g=>e=RT (.tuple #[])/\g=w.setCell (AD b 0) (PT b):=by
 obtain ⟨j,d,a⟩:=Ph.1 Tryz.Eg
 have h:=Lib.run_to_unsafe (P:=Tryz.prog) w (AD b 0) Tryz.underlying221 Tryz.underlying247 d (by rw [a];decide) c (Nat.zero_lt_succ 1)
 have k:=Lib.run_from_unsafe (P:=Tryz.prog) w (AD b 0) Tryz.underlying247 Tryz.underlying221 d c Tryz.J5
 have i:(callFunc 191 #[PT b]).run Tryz.prog w=.ok (.value (PT b)) w:=by rw [run_callFunc_extern Tryz.func191 (by kernel_rfl) (by kernel_rfl) (by kernel_rfl) (e:=Extern.AbiNoEscape.same) (by kernel_rfl),Lib.run_noEscape];rfl
 clear d a
 go_enter Tryz.func184,Tryz.ntmps184
 go_wp2
 refine QC (PW (by kernel_rfl) ..) rfl ?_
 exact ⟨rfl,rfl⟩
def xw(w:WD)(b:Nat)(f:CA w b 0 (PT b)):
 CL 184 #[PT b] w λe c=>e=RT (.tuple #[])/\c=w:=by
 obtain ⟨j,a,_⟩:=Ph.1 Tryz.Eg
 have d:=Lib.run_neq_ptr_same (P:=Tryz.prog) w (AD b 0) Tryz.underlying221 a
 go_enter Tryz.func184,Tryz.ntmps184
 go_wp2
 refine QC (PW (by kernel_rfl) ..) rfl ?_
 exact ⟨rfl,rfl⟩
abbrev BR(B b:Nat)(a:List Value)(w:WD):Prop:=Lib.IsBuilder 223 5 B b a w
abbrev Ev(B b:Nat)(a:List Value)(w:WD):Prop:=Lib.BuilderAt 223 5 B b (PT b) a w
def oZ(B b:Nat)(c:List Value)(w:WD)(h:BR B b c w):
 CL 184 #[PT b] w λe a=>e=RT (.tuple #[])/\Ev B b c a/\Below B w a:=by
 rcases h with h|h
 refine (vu w b h.cell0 h.shape h.frozen0).mono ?_
 rintro e a ⟨rfl,rfl⟩
 exact ⟨rfl,h.used _,(Nx B w).setCell (p:=(AD b 0)) h.1 _⟩
 refine (xw w b h.cell0).mono ?_
 rintro e a ⟨rfl,rfl⟩
 exact ⟨rfl,h,Nx B _⟩
def DE{B b:Nat}{v:Value}{e c:WD}(d:HC e b #[PT b,v] 223)(f:c.heap[b]? =e.heap[b]?):
 HC c b #[PT b,v] 223/\CA c b 1 v/\FZ c b 1:=by
 have a:=f.trans d
 exact ⟨a,CH a,NA a 1⟩
def Cb{b:Nat}{o:Obj}{w:WD}(h:w.heap[b]? =some o):b<w.heap.size:=by rcases O8 b w.heap.size with a|a;exact a;simp [Array.getElem?_eq_none a]at h
def mz(B b:Nat)(o:List Value)(s:ByteArray)(w:WD)(h:BR B b o w)(I:o.length+s.size<=140737488355328)(O:B<=w.heap.size):
 CL 169 #[PT b,.string s] w λe K=>e=RT (.tuple #[IV s.size,.nilIface])/\Ev B b (o++Lib.strCells s) K/\Below B w K:=by
 obtain ⟨R,P,C,D,E⟩:=Ol Tryz.Hm
 have M:=Nq (oZ B b o w h)
 clear h
 go_enter Tryz.func169,Tryz.ntmps169
 go_upto_region 2 with(go_at_call 184;refine M.o.mono ?_;rintro e U ⟨rfl,G,q⟩;have L:=Nq G;have i:=Nq q;clear G q)
 obtain ⟨H,v,l,f,t⟩:=L.o
 have n:=Nq l
 have d:=Nq f
 have y:=Nq t
 have m:=Nq H
 have V:CA U b 1 v:=CH l
 clear H l f t
 go_wp2_with (at_builtin;refine Lib.wpList_append_own_string _ rfl _ _ 220 9 rfl B 5 R QY QP P C D E _ _ _ rfl d.o s rfl ?c3 ?c4 ?c5 ?_)
 case c3=>unfold maxLen;omega
 case c4=>omega
 case c5=>have:=i.o.size;omega
 intro S Y c a _
 obtain ⟨r,W,X⟩:=DE (B:=B) n.o (a.block b (Cb n.o) (λe=>y.o e.symm))
 obtain ⟨F,J,j,rfl⟩:∃F J j,S=.slice F J j:=by rcases c.2 with⟨A,_⟩|⟨g,j,N,A,_⟩;exact ⟨_,_,_,A⟩;exact ⟨_,_,_,A⟩
 have z:=Nq c
 have u:=Nq a
 have x:=Nq r
 clear c a r
 go_wp2
 go_ret2
 refine ⟨rfl,?_,?_⟩
 exact Lib.BuilderAt.put (T:=223) (e:=5) m.o x.o (bs':=o++Lib.strCells s) (by simpa [Lib.strCells_length]using z.o) (by decide)
 exact (i.o.grown u.o (by have:=i.o.size;omega) (λk Q=>(d.o.lt k Q).1)).setCell (p:=(AD b 1)) m.o _
def xL(B b:Nat)(r:List Value)(c:Int)(w:WD)(h:BR B b r w)(M:r.length+1<=140737488355328)(V:B<=w.heap.size):
 CL 172 #[PT b,.int .u8 c] w λe P=>e=RT .nilIface/\Ev B b (r++[.int .u8 c]) P/\Below B w P:=by
 obtain ⟨Y,W,F,G,H⟩:=Ol Tryz.Hm
 have R:=Nq (oZ B b r w h)
 clear h
 go_enter Tryz.func172,Tryz.ntmps172
 go_upto_region 2 with(go_at_call 184;refine R.o.mono ?_;rintro e I ⟨rfl,K,s⟩;have Q:=Nq K;have f:=Nq s;clear K s)
 obtain ⟨L,v,o,l,x⟩:=Q.o
 have m:=Nq o
 have i:=Nq l
 have C:=Nq x
 have q:=Nq L
 have S:CA I b 1 v:=CH o
 clear L o l x
 go_wp2_with (at_builtin;refine wpList_append_own _ rfl _ _ 220 rfl B 5 Y (.int .u8 0) 1 1 QY W F G H rfl (by decide) _ _ _ rfl (i.o.alloc _) (AD I.heap.size 0) 1 1 [.int .u8 c] rfl rfl ?c1 ?c2 ?c3 ?c4 ?c5 ?_)
 case c1=>
  intro j u y;match j,y with
  |0,y=>simp at y;subst y;simp [Addr.add]
 case c2=>intro u N;simp at N;subst N;rfl
 case c3=>unfold maxLen;omega
 case c4=>omega
 case c5=>have:=f.o.size;rw [NG];omega
 intro Z w2 d a _
 obtain ⟨t,d1,f1⟩:=DE (B:=B) m.o ((a.block b (by rw [NG];have:=Cb m.o;omega) (λe=>C.o e.symm)).trans (Lib.alloc_old I _ b (Cb m.o)))
 obtain ⟨J,O,n,rfl⟩:∃J O n,Z=.slice J O n:=by rcases d.2 with⟨E,_⟩|⟨g,n,U,E,_⟩;exact ⟨_,_,_,E⟩;exact ⟨_,_,_,E⟩
 have D:=Nq d
 have z:=Nq a
 have A:=Nq t
 clear d a t
 go_wp2
 go_ret
 refine ⟨rfl,?_,?_⟩
 exact Lib.BuilderAt.put (T:=223) (e:=5) q.o A.o (bs':=r++[.int .u8 c]) (by simpa using D.o) (by decide)
 exact ((f.o.alloc (by have:=f.o.size;omega) _).grown z.o (by have:=f.o.size;rw [NG];omega) (λk X=>(i.o.lt k X).1)).setCell (p:=(AD b 1)) q.o _
end
section
open Fm
def u7(w:Wy):Prop:=w.ak<256/\w.aD<256
def Bd{a k:Nat}(b:a<256)(c:k<8):a|||2^k<256:=Rm (n:=8) b (Qy (by decide) c)
def BA{f:Fm}{x:Fm}{p:Nat}{w c:Wy}(b:dV f)(e:(Fm.aQ f)[p]? =some x)(hw:u7 w)(h:c∈split x p w):u7 c:=by have g:=NI e;unfold split at h;split at h;rw [Nv.1 h];exact hw;rw [hO h];exact ⟨Bd hw.1 (b _ g _ rfl),hw.2⟩;rename_i k;have d:=(Fm.fR (Fm.One.neg (a:=Fm.prop k)) f p e).2;rw [hO h];exact ⟨hw.1,Bd hw.2 (b _ (NI d) k rfl)⟩;rw [Nv.1 h];exact hw;rcases N8.1 h with rfl|h;exact hw;rw [Nv.1 h];exact hw;rw [Nv.1 h];exact hw;rcases N8.1 h with rfl|h;exact hw;rw [Nv.1 h];exact hw;rcases N8.1 h with rfl|h;exact hw;rw [Nv.1 h];exact hw;cases h
def lV{f:Fm}(b:dV f):∀(m:Nat)(w:Wy),u7 w->∀z∈ey f m w,u7 z
 |0,_,_,z,a=>by cases a
 |m+1,w,hw,z,a=>by
  unfold ey at a;split at a;rw [Nv.1 a];exact hw;rename_i p r g;cases d:(aQ f)[p]? with
  |none=>rw [d]at a;cases a
  |some x=>rw [d]at a;obtain ⟨c,e,a⟩:=Sb.1 a;exact lV b m c (BA (w:=Wy.dE {w with bS:=r} p) b d hw e) z a
def nh(a:List Nat):u7 (Wy.aK a):=⟨(by decide:(0:Nat)<256),(by decide:(0:Nat)<256)⟩
end
section
open Go.RowKit
def eG(w:WD):Prop:=∀j,j<Lib.deBruijn64tab.length->w.cell? (AD 0 j)=some (.int .u8 ((Lib.deBruijn64tab.getD j 0:Nat):Int))
def eG.af{w b:WD}(h:eG w)(c:BW w b):eG b:=λj a=>(c.cell (Nr w _ (h j a))).trans (h j a)
def L3(x a:Nat)(d:x<18446744073709551616)(e:x≠0)(b:x&&&(18446744073709551616-x)=a):
 IntKind.u64.wrap (bits BinOp.and IntKind.u64 (x:Int) (IntKind.u64.wrap (-(x:Int)))*285870213051353865)/288230376151711744=((a*285870213051353865%18446744073709551616/288230376151711744:Nat):Int):=by
 have c:IntKind.u64.wrap (-(x:Int))=((18446744073709551616-x:Nat):Int):=by rw [QE];omega
 rw [c,Pw x _ d (by omega),b,QE]
 omega
def Gn(x k a:Nat)(w:WD)(d:((x:Int)==0)=false)
 (c:IntKind.u64.wrap (bits BinOp.and IntKind.u64 (x:Int) (IntKind.u64.wrap (-(x:Int)))*285870213051353865)/288230376151711744=(a:Int))
 (g:a<64) (h:k<64) (b:CA w 0 a (.int .u8 k)):
 CL 95 #[UV x] w λe f=>e=RT (IV k)/\f=w:=by
 go_enter Tryz.func95,Tryz.ntmps95
 go_wp2_with (simp only [c])
 go_ret
 exact ⟨rfl,rfl⟩
def BI(x:Nat)(h:x<18446744073709551616)(d:x≠0)(w:WD)(i:eG w):
 CL 95 #[UV x] w λe j=>e=RT (IV ((Lib.ctz 64 x:Nat):Int))/\j=w:=by
 obtain ⟨b,g⟩:=Lib.lowest_bit 64 x d h
 obtain ⟨f,c⟩:=Lib.deBruijn64_at _ g
 have a:=i _ f
 rw [c]at a
 exact Gn x _ _ w (by simp;omega) (L3 x _ h d b) f g a
def Cq(u:Nat)(b:u<16)(h:u<(⟨#[48,49,50,51,52,53,54,55,56,57,97,98,99,100,101,102,103,104,105,106,107,108,109,110,111,112,113,114,115,116,117,118,119,120,121,122]⟩:ByteArray).size):(⟨#[48,49,50,51,52,53,54,55,56,57,97,98,99,100,101,102,103,104,105,106,107,108,109,110,111,112,113,114,115,116,117,118,119,120,121,122]⟩:ByteArray)[u]=gT u:=by
 have a:∀u:Fin 16,(⟨#[48,49,50,51,52,53,54,55,56,57,97,98,99,100,101,102,103,104,105,106,107,108,109,110,111,112,113,114,115,116,117,118,119,120,121,122]⟩:ByteArray)[u.val]'(NL u.isLt (by decide))=gT u.val:=by decide
 exact a ⟨u,b⟩
def zQ(w:WD):CL 202 #[IV 16] w λe a=>e=RT (.bool true)/\a=w:=by go_enter Tryz.func202,Tryz.ntmps202;go_wp2;go_ret;exact ⟨rfl,rfl⟩
def K4(w:WD)(b:eG w):CL 203 #[UV 16] w λe d=>e=RT (IV 4)/\d=w:=by
 have h:=BI 16 (by decide) (by decide) w b;have a:Lib.ctz 64 16=4:=by decide+kernel
 rw [a]at h;have c:=Nq h;clear h b a;go_enter Tryz.func203,Tryz.ntmps203;go_wp2_with (go_at_call 95;refine c.o.mono ?_;rintro e f ⟨rfl,rfl⟩);go_ret;exact ⟨rfl,rfl⟩
def xt(u:Nat)(k:u<16)(w:WD)(g:eG w):CL 195 #[SN,UV u,IV 16,.bool false,.bool false] w λe s=>e=RT (.tuple #[SN,.string ⟨(eP u).toArray⟩])/\BW w s:=by
 have n:=Nq (zQ w);have o:=Nq g;clear g;go_enter Tryz.func195,Tryz.ntmps195;go_upto_region 11 with(first
  |(go_at_call 202;refine (zQ _).mono ?_;rintro e t ⟨rfl,rfl⟩)
  |(go_at_call 203;refine (K4 _ (o.o.af (ag _ _))).mono ?_;rintro e v ⟨rfl,rfl⟩))
 obtain ⟨c,a⟩:=EX (w.alloc (.cells Tryz.zeroCells258 258));have l:Tryz.zeroCells258[64]? =some (.int .u8 0):=by kernel_rfl
 obtain ⟨b,f⟩:=bp w Tryz.zeroCells258 258 64 _ l;have d:Hid (BW w c):=a▸ag _ _;rw [a]at b f⊢;clear a l;have r:(u:Int)<16:=by omega
 go_loopw [1,13] (λx i wr=>x=UV u/\i=IV 65/\wr=c) (λ_ _ _=>0);exact ⟨rfl,rfl,rfl⟩;obtain ⟨rfl,rfl,rfl⟩:=hrel;go_wp2;simp only [Cq u k];have m:=Sr (P:=Tryz.prog) (wr.setCell (AD w.heap.size 64) (.int .u8 ((gT u).toNat:Int))) 220 9 5 (AD w.heap.size 64) 1 [gT u] QY SM QP (λj q=>by
  obtain rfl:j=0:=by simpa using q
  exact Oj (h:=b) ..)
 rw [show([gT u]:List UInt8).length=1 from rfl]at m;rw [m];simp only [Result.andThen];rw [Oper.upon_value];go_wp2;go_ret2;refine ⟨?_,d.o.setCell (p:=(AD w.heap.size 64)) (Nz _) _⟩;rw [kE,Oa k];rfl
def As(u:Nat)(O:u<256)(N:16<=u)(w:WD)(B:eG w):CL 195 #[SN,UV u,IV 16,.bool false,.bool false] w λe M=>e=RT (.tuple #[SN,.string ⟨(eP u).toArray⟩])/\BW w M:=by
 have I:=Nq (zQ w);have J:=Nq B;clear B;go_enter Tryz.func195,Tryz.ntmps195;go_upto_region 11 with(first
  |(go_at_call 202;refine (zQ _).mono ?_;rintro e Q ⟨rfl,rfl⟩)
  |(go_at_call 203;refine (K4 _ (J.o.af (ag _ _))).mono ?_;rintro e R ⟨rfl,rfl⟩))
 obtain ⟨a,c⟩:=EX (w.alloc (.cells Tryz.zeroCells258 258));have G:Tryz.zeroCells258[64]? =some (.int .u8 0):=by kernel_rfl
 have m:Tryz.zeroCells258[63]? =some (.int .u8 0):=by kernel_rfl
 obtain ⟨g,s⟩:=bp w Tryz.zeroCells258 258 63 _ m;obtain ⟨k,t⟩:=bp w Tryz.zeroCells258 258 64 _ G;have n:Hid (BW w a):=c▸ag _ _;rw [c]at k t g s⊢;clear c G m;have L:16<=(u:Int):=by omega
 obtain ⟨d,y⟩:=EX (u%16);obtain ⟨v,F⟩:=EX (u/16);have C:bits BinOp.and IntKind.u64 (u:Int) 15=(d:Int):=by have:=Pw u 15 (by omega) (by decide);rw [show u&&&15=u%16 from Nat.and_two_pow_sub_one_eq_mod u 4,y]at this;exact this
 have E:(u:Int)/16=(v:Int):=by omega
 have l:d<16:=by omega
 have D:(d:Int)<36:=by omega
 have z:d<36:=by omega
 have b:v<16:=by omega
 have A:(v:Int)<16:=by omega
 have f:Hid (eP u=[gT v,gT d]):=by show eP u=_;rw [kE,Of (by omega),F,y,kE,Oa b];rfl
 have o:Hid (v<u):=by show v<u;omega
 clear y F;go_loopw [1,13] (λx i wr=>(x=UV u/\i=IV 65/\wr=a)\/(x=UV v/\i=IV 64/\wr=a.setCell (AD w.heap.size 64) (.int .u8 ((gT d).toNat:Int)))) (λx _ _=>(intOf x).toNat);exact .inl ⟨rfl,rfl,rfl⟩;rcases hrel with⟨rfl,rfl,rfl⟩|⟨rfl,rfl,rfl⟩;go_wp2;go_roundw;exact .inr ⟨rfl,rfl,by simp only [Cq d l]⟩;simp [intOf];have:=o.o;omega;have q:(a.setCell (AD w.heap.size 64) (Value.int .u8 ((gT d).toNat:Int))).cell? (AD w.heap.size 63)=some (Value.int .u8 0):=(Oc _ _ _ _ (dR (by decide))).trans g;have r:(a.setCell (AD w.heap.size 64) (Value.int .u8 ((gT d).toNat:Int))).cell? (AD w.heap.size 64)=some (Value.int .u8 ((gT d).toNat:Int)):=Oj (h:=k) ..;go_wp2;simp only [Cq v b];have H:=Sr (P:=Tryz.prog) ((a.setCell (AD w.heap.size 64) (Value.int .u8 ((gT d).toNat:Int))).setCell (AD w.heap.size 63) (Value.int .u8 ((gT v).toNat:Int))) 220 9 5 (AD w.heap.size 63) 2 [gT v,gT d] QY SM QP (λj K=>by
  match j,K with
  |0,_=>exact Oj (h:=q) ..
  |1,_=>exact (Oc (a.setCell (AD w.heap.size 64) (Value.int .u8 ((gT d).toNat:Int))) (AD w.heap.size 63) (AD w.heap.size 64) _ (dR (by decide))).trans r)
 rw [show([gT v,gT d]:List UInt8).length=2 from rfl]at H;rw [H];simp only [Result.andThen];rw [Oper.upon_value];go_wp2;go_ret2;refine ⟨?_,(n.o.setCell (p:=(AD w.heap.size 64)) (Nz _) _).setCell (p:=(AD w.heap.size 63)) (Nz _) _⟩;rw [f.o];rfl
def Ar(u:Nat)(b:u<256)(w:WD)(a:eG w):CL 195 #[SN,UV u,IV 16,.bool false,.bool false] w λe c=>e=RT (.tuple #[SN,.string ⟨(eP u).toArray⟩])/\BW w c:=by by_cases h:u<16;exact xt u h w a;exact As u b (by omega) w a
def Lq(u:Nat)(f:u<256)(w:WD)(a:eG w):CL 185 #[UV u,IV 16] w λe g=>e=RT (.string ⟨(eP u).toArray⟩)/\BW w g:=by have d:=Nq (Ar u f w a);clear a;go_enter Tryz.func185,Tryz.ntmps185;go_wp2_with (go_at_call 195;refine d.o.mono ?_;rintro e h ⟨rfl,b⟩;have c:=Nq b;clear b);go_ret;exact ⟨rfl,c.o⟩
def Hi(u:Nat)(f:u<256)(w:WD)(a:eG w):CL 170 #[UV u,IV 16] w λe g=>e=RT (.string ⟨(eP u).toArray⟩)/\BW w g:=by have d:=Nq (Lq u f w a);clear a;go_enter Tryz.func170,Tryz.ntmps170;go_wp2_with (go_at_call 185;refine d.o.mono ?_;rintro e h ⟨rfl,b⟩;have c:=Nq b;clear b);go_ret;exact ⟨rfl,c.o⟩
def RA:=@List.mem_of_mem_take
def lf(a b:List UInt8):(⟨a.toArray⟩:ByteArray)++⟨b.toArray⟩=⟨(a++b).toArray⟩:=by apply ByteArray.ext;rw [ByteArray.data_append];simp
def xu(a b:List UInt8):Lib.byteCells a++Lib.byteCells b=Lib.byteCells (a++b):=by simp [Lib.byteCells]
def gF{u:Nat}(h:u<256):(eP u).length<=2:=by rw [kE];split;simp;rw [kE,Oa (by omega)];simp
def zm{u:Nat}(h:u<100):(Lib.decDigits u).length<=2:=by rw [gY];split;simp;rw [gY,Oa (by omega)];simp
def cH{l:List Nat}{k:Nat}(h:k<l.length):(aH l).getD k 0=(l.getD k 0:Nat):=by unfold aH;simp [Nw,h]
def vQ(l:List Nat)(k:Nat)(h:k<l.length):eO ((l.take (k+1)).map Lib.decDigits)=eO ((l.take k).map Lib.decDigits)++(Lib.decDigits (l.getD k 0)++[32]):=by
 have e:l.take (k+1)=l.take k++[l.getD k 0]:=by rw [OG,Nw,Ny h];rfl
 rw [e];simp [eO]
def lz(l:List Nat)(b:∀p∈l,p<100):(eO (l.map Lib.decDigits)).length<=3*l.length:=by
 induction l with
 |nil=>simp [eO]
 |cons a l d=>have e:=zm (b a (Ok ..));have f:=d (λp c=>b p (Ot _ c));rw [NQ,jX];simp only [NH,Ou];omega
def qU{T e:TypeId}{B b:Nat}{p:Value}{l:List Value}{w o:WD}(h:Lib.BuilderAt T e B b p l w)(m:BW w o):Lib.BuilderAt T e B b p l o:=by have s:=h.lt;obtain ⟨r,v,j,a,k⟩:=h;refine ⟨r,v,(m.block b s).trans j,⟨a.1,?_⟩,k⟩;rcases a.2 with q|⟨g,d,f,rfl,i,n,c⟩;exact .inl q;exact .inr ⟨g,d,f,rfl,i,(m.block g (Nu.1 n).1).trans n,c⟩
def Ca{B b:Nat}{a:List Value}{w d:WD}(h:BR B b a w)(c:BW w d):BR B b a d:=h.imp (λh=>qU h c) (λh=>qU h c)
structure nS (q:Nat) (a:WD) (l:List UInt8) (w:WD):Prop where
 Mb:Ev (q+1) (q+1) (Lib.byteCells l) w
 aM:Below (q+1) a w
 bC:l.length<=10000
def nS.put{q:Nat}{c w b:WD}{l:List UInt8}(h:nS q c l w)(a:List UInt8)(d:Ev (q+1) (q+1) (Lib.byteCells l++Lib.byteCells a) b)(e:Below (q+1) w b)(f:(l++a).length<=10000):nS q c (l++a) b:=
 ⟨xu l a▸d,h.aM.trans e,f⟩
def nS.write{q:Nat}{f w:WD}{l:List UInt8}(h:nS q f l w)(a:List UInt8)(c:(l++a).length<=10000):
 CL 169 #[PT (q+1),.string ⟨a.toArray⟩] w λe d=>e=RT (.tuple #[IV a.length,.nilIface])/\nS q f (l++a) d:=by
 have m:=h.Mb.lt
 have j:=h.bC
 have k:(Lib.byteCells l).length=l.length:=by simp [Lib.byteCells]
 have b:(⟨a.toArray⟩:ByteArray).size=a.length:=by simp [ByteArray.size]
 simp only [NH]at c
 refine (mz (q+1) (q+1) (Lib.byteCells l) ⟨a.toArray⟩ w (.inr h.Mb) (by omega) (by omega)).mono ?_
 rintro e d ⟨rfl,g,i⟩
 exact ⟨by rw [b],h.put a g i (by simpa using c)⟩
def IP(a c:Nat)(X:Option Addr)(y xc:Nat)(Y:Option Addr)(A yc:Nat)(next d:List Nat)(w:World)(hT:eG w)(hn:a<256)(G:c<256)(hx:aG .i64 w X y (aH next))(hy:aG .i64 w Y A (aH d))(aM:∀p∈next,p<100)(aO:∀p∈d,p<100)(a9:y<=1000)(ba:A<=1000):
 Calls Tryz.prog 145 #[.agg #[.int .u64 (a:Int),.int .u64 (c:Int),.slice X y xc,.slice Y A yc]] w λe b=>e=.returned (.string ⟨(wO a c next d).toArray⟩)/\Below w.heap.size w b:=by
 obtain ⟨q,P⟩:∃q,w.heap.size=q:=⟨_,rfl⟩
 obtain ⟨j,J⟩:∃j,(w.alloc (.cells #[.int .u64 (a:Int),.int .u64 (c:Int),.slice X y xc,.slice Y A yc] 119)).alloc (.cells #[.pointer none,.slice none 0 0] 223)=j:=⟨_,rfl⟩
 have aL:j.heap.size=q+1+1:=by rw [<-J,NG,NG,P]
 have am:=bp w #[.int .u64 (a:Int),.int .u64 (c:Int),.slice X y xc,.slice Y A yc] 119
 rw [P]at am
 have aB:Below (q+1) (w.alloc (.cells #[.int .u64 (a:Int),.int .u64 (c:Int),.slice X y xc,.slice Y A yc] 119)) j:=by rw [<-J,<-P];exact (Nx _ _).alloc (by rw [NG];exact Nz _) _
 have F:Below q w j:=by rw [<-P];exact aa (ag _ _) (J▸ag _ _)
 have D:Hid (∀i u,(#[.int .u64 (a:Int),.int .u64 (c:Int),.slice X y xc,.slice Y A yc]:Array Value)[i]? =some u->∀b,Below (q+1) j b->b.cell? ⟨q,i,none⟩=some u):=λi u hu b s=>((aB.trans s).cell (p:=⟨q,i,none⟩) (Q2 q)).trans (am i u hu).1
 have aT:Hid (BR (q+1) (q+1) [] j):=by have:=Lib.fresh_isBuilder 223 5 (w.alloc (.cells #[.int .u64 (a:Int),.int .u64 (c:Int),.slice X y xc,.slice Y A yc] 119));rw [NG,P]at this;rw [<-J];exact this
 have aQ:=Nq F
 have ah:=Nq aL
 have au:Hid (eG j):=hT.af (by unfold BW;rw [P];exact F)
 have HX:Hid (∀b,Below (q+1) j b->aG .i64 b X y (aH next)):=λb s=>hx.af (by unfold BW;rw [P];exact F.trans (s.mono (by omega)))
 have HY:Hid (∀b,Below (q+1) j b->aG .i64 b Y A (aH d)):=λb s=>hy.af (by unfold BW;rw [P];exact F.trans (s.mono (by omega)))
 have aj:Hid (next.length=y):=by have:=hx.1;rwa [aC]at this
 have aw:Hid (d.length=A):=by have:=hy.1;rwa [aC]at this
 have ak:=Nq aM
 have ax:=Nq aO
 clear hT hx hy aM aO aB F am aL
 go_enter Tryz.func145,Tryz.ntmps145
 go_upto_region 2 with(fail)
 have aZ:=Nq P
 have q0:j.cell? ⟨q,0,none⟩=some (.int .u64 (a:Int)):=D.o 0 _ rfl j (Nx _ _)
 have q1:j.cell? ⟨q,1,none⟩=some (.int .u64 (c:Int)):=D.o 1 _ rfl j (Nx _ _)
 have HQ:Hid (∀W',Below j.drew.heap.size j.drew W'->W'.cell? ⟨q,0,none⟩=some (.int .u64 (a:Int))/\W'.cell? ⟨q,1,none⟩=some (.int .u64 (c:Int))):=λb s=>
  have s:Below (q+1) j b:=((Nx _ _).drew.trans s).mono (by change q+1<=j.heap.size;rw [ah.o];omega)
  ⟨D.o 0 _ rfl b s,D.o 1 _ rfl b s⟩
 have ao:Hid (∀b,Below j.drew.heap.size j.drew b->Calls Tryz.prog 170 #[.int .u64 (a:Int),.int .i64 16] b λe r=>e=.returned (.string ⟨(eP a).toArray⟩)/\Below b.heap.size b r):=λb s=>Hi a hn b (au.o.af ((Nx _ _).drew.trans s))
 have ap:Hid (∀b,Below j.drew.heap.size j.drew b->Calls Tryz.prog 170 #[.int .u64 (c:Int),.int .i64 16] b λe r=>e=.returned (.string ⟨(eP c).toArray⟩)/\Below b.heap.size b r):=λb s=>Hi c G b (au.o.af ((Nx _ _).drew.trans s))
 clear J P
 refine av 9 (S:=λW'=>W'.cell? ⟨q,0,none⟩=some (.int .u64 (a:Int))/\W'.cell? ⟨q,1,none⟩=some (.int .u64 (c:Int))) (by kernel_rfl) (⟨q0,q1⟩) (λal=>?_)
 refine' az 0 ?_ [6,2,1,0]
 refine' az 1 ?_ [6,2,1]
 refine' az 4 ?_ [6,5,4]
 refine' az 5 ?_ [6,5]
 clear al q0 q1
 refine cA [2,3,6,7,8] (λi=>if i=2 then 10 else if i=3 then 11 else if i=6 then 14 else if i=7 then 15 else 16) #[true,true,true,true,true,true,true,true,true,false] 1
  (λi v w=>match i with|2=>v=.string ⟨(eP a).toArray⟩|3=>v=.string ⟨(eP a++[32]).toArray⟩|6=>v=.string ⟨(eP c).toArray⟩|7=>v=.string ⟨(eP a++[32]++eP c).toArray⟩|_=>v=.string ⟨(eP a++[32]++eP c++[59]).toArray⟩) (by kernel_rfl) (by kernel_rfl) rfl (by decide) ?st1 ?st2 (by decide) ?st3 ?st4
 case st1=>intro i v w4 w5 hv s;split at hv;exact hv;exact hv;exact hv;exact hv;exact hv
 case st2=>exact HQ.o
 case st3=>
  rintro l V b i o hl a7 hi O hr hJ K C;simp only [N8,O5,QD]at hi;rcases hi with rfl|rfl|rfl|rfl|rfl;simp only [NT,NN,NO,N0]at O;subst O;refine aN (R:=λe r=>e=.returned (.string ⟨(eP a).toArray⟩)/\Below b.heap.size b r) (f:=170) (args:=#[.int .u64 (a:Int),.int .i64 16]) (ao.o b hJ.aM) ?_ (λe w4 ⟨he,s⟩=>⟨_,he,C _ w4 s rfl⟩);clear C;simp only [NQ,NZ,aP,Act.put,reduceIte,Nat.reduceEqDiff,NB,NR,NM];go_simp;simp only [NT,NN,NO,N0]at O;subst O;have N:=hJ.mS 2 (by decide) (aU (l:=[2]) (by kernel_rfl) hr 2 (by simp));change V 10=_ at N;refine bT (v:=.string (⟨(eP a).toArray⟩++⟨#[32]⟩)) (w':=b) ?_ (C _ _ (Nx _ _) (Pp Value.string (lf (eP a) [32])));clear C;simp only [NQ,NZ,aP,Act.put,reduceIte,Nat.reduceEqDiff,NB,NR,NM];rw [N];go_simp;have M:=gF hn;have N:=gF G;try omega
  simp only [NT,NN,NO,N0]at O;subst O;refine aN (R:=λe r=>e=.returned (.string ⟨(eP c).toArray⟩)/\Below b.heap.size b r) (f:=170) (args:=#[.int .u64 (c:Int),.int .i64 16]) (ap.o b hJ.aM) ?_ (λe w4 ⟨he,s⟩=>⟨_,he,C _ w4 s rfl⟩);clear C;simp only [NQ,NZ,aP,Act.put,reduceIte,Nat.reduceEqDiff,NB,NR,NM];go_simp;simp only [NT,NN,NO,N0]at O;subst O;have h3:=hJ.mS 3 (by decide) (aU (l:=[3,6]) (by kernel_rfl) hr 3 (by simp));change V 11=_ at h3;have h6:=hJ.mS 6 (by decide) (aU (l:=[3,6]) (by kernel_rfl) hr 6 (by simp));change V 14=_ at h6;refine bT (v:=.string (⟨(eP a++[32]).toArray⟩++⟨(eP c).toArray⟩)) (w':=b) ?_ (C _ _ (Nx _ _) (Pp Value.string (lf (eP a++[32]) (eP c))));clear C;simp only [NQ,NZ,aP,Act.put,reduceIte,Nat.reduceEqDiff,NB,NR,NM];rw [h3,h6];go_simp;have M:=gF hn;have N:=gF G;try omega
  simp only [NT,NN,NO,N0]at O;subst O;have h7:=hJ.mS 7 (by decide) (aU (l:=[7]) (by kernel_rfl) hr 7 (by simp));change V 15=_ at h7;refine bT (v:=.string (⟨(eP a++[32]++eP c).toArray⟩++⟨#[59]⟩)) (w':=b) ?_ (C _ _ (Nx _ _) (Pp Value.string (lf (eP a++[32]++eP c) [59])));clear C;simp only [NQ,NZ,aP,Act.put,reduceIte,Nat.reduceEqDiff,NB,NR,NM];rw [h7];go_simp;have M:=gF hn;have N:=gF G;try omega
 case st4=>
  intro V b Q hV;simp only [NQ,NZ,aP,Act.put,reduceIte,Nat.reduceEqDiff,NB,NR,NM];have e8:=hV 8 (by decide);change V 16=_ at e8;obtain ⟨L,T⟩:∃L,(eP a++[32]++eP c++[59])=L:=⟨_,rfl⟩;rw [T]at e8;have a3:L.length<=6:=by rw [<-T];have:=gF hn;have:=gF G;simp;omega
  have aR:Hid (Below (q+1) j b):=((Nx _ _).drew.trans Q).mono (by change q+1<=j.heap.size;rw [ah.o];omega);have aA:BR (q+1) (q+1) [] b:=Ca aT.o ((Nx _ _).drew.trans Q);have a6:q+1+1<=b.heap.size:=by have h:=Q.size;have N:=ah.o;change j.heap.size<=_ at h;omega
  have aq:Hid (Calls Tryz.prog 169 #[.pointer (some ⟨q+1,0,none⟩),.string ⟨L.toArray⟩] b λe r=>∃z:Int,e=.returned (.tuple #[.int .i64 z,.nilIface])/\Ev (q+1) (q+1) (Lib.byteCells L) r/\Below (q+1) b r):=(mz (q+1) (q+1) [] ⟨L.toArray⟩ b aA (by simp [ByteArray.size];omega) (by omega)).mono λe r ⟨he,N,h3⟩=>⟨_,he,N,h3⟩;rw [e8];refine aI 9 λK C=>?_;rw [Oa (by rfl)];apply aY.o;refine aN (f:=169) aq.o ?_ (λe w3 an=>?_);clear C;go_simp;obtain ⟨bb,rfl,aF,aE⟩:=an;refine ⟨_,rfl,?_⟩;refine C.o _ _ (λe=>nomatch e) ?_;clear C K;try walk_nrm
  have af:Hid (eP a++32::(eP c++[59])=L):=Nq (by rw [<-T];simp);have ar:Hid (nS q j L w3):=⟨aF,aR.o.trans aE,by omega⟩;have q2:w3.cell? ⟨q,2,none⟩=some (.slice X y xc):=D.o 2 _ rfl w3 ar.o.aM;clear aF aE T aq ao ap HQ e8 Q hV aA;refine ay (by kernel_rfl) ?_;go_wp2;go_loopw [21] (λx wr=>∃k:Nat,k<=y/\x=.int .i64 k/\Hid (nS q j (L++eO ((next.take k).map Lib.decDigits)) wr)) (λx _=>y-(intOf x).toNat);exact ⟨0,NS _,rfl,by have e:eO ((next.take 0).map Lib.decDigits)=[]:=rfl;rw [e,Om];exact ar⟩;obtain ⟨k,hk,rfl,g⟩:=hrel;by_cases B:k<y;have aJ:(k:Int)<(y:Int):=by omega
  have m:k<next.length:=by rw [aj.o];exact B
  obtain ⟨-,h0|⟨rb,ro,rfl,hc⟩⟩:=HX.o wr g.o.aM;omega;have ck:=hc k B;rw [cH m]at ck;obtain ⟨p,E⟩:∃p,next.getD k 0=p:=⟨_,rfl⟩;have n:p<100:=ak.o p (by rw [<-E,Nw,Ny m];exact OR m);have HJ:Hid (eO ((next.take (k+1)).map Lib.decDigits)=eO ((next.take k).map Lib.decDigits)++(Lib.decDigits p++[32])):=by rw [<-E];exact vQ _ k m
  rw [E]at ck;have ac:=Nq (Tryz.strconv_Itoa_small p n wr);have ab:Hid ((⟨(Lib.decDigits p).toArray⟩:ByteArray)++⟨#[32]⟩=⟨(Lib.decDigits p++[32]).toArray⟩):=lf (Lib.decDigits p) [32];have t:(L++eO ((next.take k).map Lib.decDigits)++(Lib.decDigits p++[32])).length<=10000:=by
   have M:=lz (next.take (k+1)) (λp E=>ak.o p (RA E));rw [HJ.o]at M;have N:(next.take (k+1)).length<=k+1:=by rw [Pd];omega
   simp only [NH]at M⊢;omega
  have ai:=Nq (g.o.write (Lib.decDigits p++[32]) t);have a2:(Lib.decDigits p).length<=9223372036854775806:=by have:=zm n;omega
  clear hc E m t;go_wp2_with (first
   |(go_at_call 171;refine ac.o.mono ?_;rintro e w5 ⟨rfl,rfl⟩;have a1:=ab.o)
   |(go_at_call 169;refine ai.o.mono ?_;rintro e w6 ⟨rfl,H⟩;have ae:=Nq H;clear H))
  go_roundw;exact ⟨k+1,by omega,by go_num,by rw [HJ.o,<-Ov];exact ae⟩;simp [intOf];omega;obtain rfl:k=y:=by omega
  have I:next.take k=next:=Oe (by rw [aj.o];exact Nz _);rw [I]at g;clear I;obtain ⟨Z,U⟩:∃Z,L++eO (next.map Lib.decDigits)=Z:=⟨_,rfl⟩;have a4:Z.length<=4000:=by have M:=lz next ak.o;rw [aj.o]at M;rw [<-U,NH];omega
  have aW:=Nq U;rw [U]at g;have aV:Hid (Calls Tryz.prog 172 #[.pointer (some ⟨q+1,0,none⟩),.int .u8 59] wr λe b=>e=.returned .nilIface/\nS q j (Z++[59]) b):=by
   have B:=g.o.Mb.lt;have a8:(Lib.byteCells Z).length=Z.length:=by simp [Lib.byteCells]
   refine (xL (q+1) (q+1) (Lib.byteCells Z) 59 wr (.inr g.o.Mb) (by omega) (by omega)).mono ?_;rintro e b ⟨rfl,s,hk⟩;exact ⟨rfl,g.o.put [59] s hk (by simp only [NH,Ou,PA];omega)⟩
  clear U;go_upto_region 9 with(go_at_call 172;refine aV.o.mono ?_;rintro e w5 ⟨rfl,aK⟩;have ad:=Nq aK;clear aK);obtain ⟨l2,W⟩:∃l2,Z++[59]=l2:=⟨_,rfl⟩;rw [W]at ad;have a5:l2.length<=4001:=by rw [<-W,NH,Oz];omega
  have aX:=Nq W;clear W;have q3:w5.cell? ⟨q,3,none⟩=some (.slice Y A yc):=D.o 3 _ rfl w5 ad.o.aM;go_wp2;go_loopw [34] (λx wr=>∃k:Nat,k<=A/\x=.int .i64 k/\Hid (nS q j (l2++eO ((d.take k).map Lib.decDigits)) wr)) (λx _=>A-(intOf x).toNat);exact ⟨0,NS _,rfl,by have e:eO ((d.take 0).map Lib.decDigits)=[]:=rfl;rw [e,Om];exact ad⟩;obtain ⟨k,hk,rfl,g⟩:=hrel;by_cases B:k<A;have aJ:(k:Int)<(A:Int):=by omega
  have m:k<d.length:=by rw [aw.o];exact B
  obtain ⟨-,h0|⟨rb,ro,rfl,hc⟩⟩:=HY.o wr g.o.aM;omega;have ck:=hc k B;rw [cH m]at ck;obtain ⟨p,E⟩:∃p,d.getD k 0=p:=⟨_,rfl⟩;have n:p<100:=ax.o p (by rw [<-E,Nw,Ny m];exact OR m);have HJ:Hid (eO ((d.take (k+1)).map Lib.decDigits)=eO ((d.take k).map Lib.decDigits)++(Lib.decDigits p++[32])):=by rw [<-E];exact vQ _ k m
  rw [E]at ck;have ac:=Nq (Tryz.strconv_Itoa_small p n wr);have ab:Hid ((⟨(Lib.decDigits p).toArray⟩:ByteArray)++⟨#[32]⟩=⟨(Lib.decDigits p++[32]).toArray⟩):=lf (Lib.decDigits p) [32];have t:(l2++eO ((d.take k).map Lib.decDigits)++(Lib.decDigits p++[32])).length<=10000:=by
   have M:=lz (d.take (k+1)) (λp E=>ax.o p (RA E));rw [HJ.o]at M;have N:(d.take (k+1)).length<=k+1:=by rw [Pd];omega
   simp only [NH]at M⊢;omega
  have ai:=Nq (g.o.write (Lib.decDigits p++[32]) t);have a2:(Lib.decDigits p).length<=9223372036854775806:=by have:=zm n;omega
  clear hc E m t;go_wp2_with (first
   |(go_at_call 171;refine ac.o.mono ?_;rintro e w5 ⟨rfl,rfl⟩;have a1:=ab.o)
   |(go_at_call 169;refine ai.o.mono ?_;rintro e w6 ⟨rfl,H⟩;have ae:=Nq H;clear H))
  go_roundw;exact ⟨k+1,by omega,by go_num,by rw [HJ.o,<-Ov];exact ae⟩;simp [intOf];omega;obtain rfl:k=A:=by omega
  have I:d.take k=d:=Oe (by rw [aw.o];exact Nz _);rw [I]at g;clear I;have a0:Hid (Calls Tryz.prog 173 #[.pointer (some ⟨q+1,0,none⟩)] wr λe b=>e=.returned (.string ⟨(l2++eO (d.map Lib.decDigits)).toArray⟩)/\Below (q+1) wr b):=by have B:=g.o.Mb.lt;refine (Tryz.Builder_String_any (q+1) (q+1) (l2++eO (d.map Lib.decDigits)) wr (.inr g.o.Mb) (by omega)).mono ?_;rintro e b h;exact h
  go_wp2_with (go_at_call 173;refine a0.o.mono ?_;rintro e w6 ⟨rfl,aD⟩;have aS:=Nq aD;clear aD);go_ret;refine ⟨?_,?_⟩;rw [<-aX.o,<-aW.o,<-af.o];simp [wO];rw [aZ.o];exact aQ.o.trans ((g.o.aM.trans aS.o).mono (by omega))
end
section
open Go.RowKit Go.Maps
def OF:=@List.getElem?_concat_length
def P7:=@Go.Value.int.inj
def Tryz.Lu:(Tryz.prog.info? 62).map (λi=>(i.zero,i.size,i.bytes))=some (some (.agg #[UV 0,UV 0,UV 0,SN]),4,48):=by kernel_rfl
def lI(c:Jp):ByteArray:=⟨(wO c.ak c.aD c.next c.bz).toArray⟩
def yC{c d:Jp}(h:lI c=lI d):c=d:=by
 obtain ⟨a,b,e,g⟩:=IQ (by have:=Pp (λs=>s.data.toList) h;simpa [lI]using this)
 cases c;cases d;simp only at a b e g;subst a b e g;rfl
structure TN where
 W:Wy
 r:bu×bu
 N:Nat
 t:bu
 bh:List Nat
def I9(x:TN):List Value:=[UV x.W.ak,UV x.W.aD,UV x.N,jP x.t]
def eo:List TN->List Value
 |[]=>[]
 |x::l=>UV x.W.ak::UV x.W.aD::UV x.N::jP x.t::eo l
def rD:∀(l:List TN)(x:TN),eo (l++[x])=eo l++I9 x
 |[],x=>rfl
 |y::l,x=>by rw [OW];simp only [eo,rD l x,OW]
def oJ:∀(l:List TN)(j:Nat)(x:TN),l[j]? =some x->
 (eo l)[j*4]? =some (UV x.W.ak)/\(eo l)[j*4+1]? =some (UV x.W.aD)/\(eo l)[j*4+2]? =some (UV x.N)/\(eo l)[j*4+3]? =some (jP x.t)
 |_::l,0,_,h=>by cases h;exact ⟨rfl,rfl,rfl,rfl⟩
 |_::l,j+1,x,h=>by
  have a:=oJ l j x h;have e:(j+1)*4=j*4+1+1+1+1:=by omega
  rw [e];exact a
 |[],_,_,h=>by simp at h
def rE:∀(l:List TN)(j:Nat)(x:TN)(t:bu)(bh:List Nat),l[j]? =some x->(eo l).set (j*4+3) (jP t)=eo (l.set j {x with t:=t,bh:=bh})
 |_::l,0,x,t,bh,h=>by cases h;rfl
 |y::l,j+1,x,t,bh,h=>by
  have a:=rE l j x t bh h;have e:(j+1)*4+3=(j*4+3)+1+1+1+1:=by omega
  rw [e,NM];simp only [eo,NM,a]
 |[],_,_,_,_,h=>by simp at h
def cd(gk nb ob:Nat)(nv:Value)(k:Nat):Prop:=k=gk\/k=nb\/k=ob\/nv.ownBlock=some k
def lO(gk nb ob:Nat)(nv:Value)(X:Nat->Prop)(k:Nat):Prop:=cd gk nb ob nv k\/X k
def JL(W:Wy)(r:bu×bu):Value:=.agg #[UV W.ak,UV W.aD,jP r.1,jP r.2]
structure GQ (w:WD) (S:Nat->Prop) (n:Nat) (us:List Int) (x:TN):Prop where
 o9:fj w S n x.W x.r
 lN:aG .i64 w x.t.1 x.t.2.1 (aH x.bh)
 sep:nP S x.t.1
 lt:Lb w x.t.1
 met:kM us (cI x.W.bz n) us.length x.N
def Ld(n:Nat)(T:List TN)(g:Value->Option Value):Prop:=
 (∀(j:Nat)(x:TN),T[j]? =some x->g (.string (lI (bH n x.W)))=some (IV j))/\∀s v,g (.string s)=some v->∃(j:Nat)(x:TN),T[j]? =some x/\s=lI (bH n x.W)
def Dy(pos:Nat)(T:List TN)(g:Value->Option Value):Prop:=∀(j:Nat)(x:TN),T[j]? =some x->pos<=j->g (IV j)=some (JL x.W x.r)
structure eH (w:WD) (n gk nb ob cQ:Nat) (us:List Int) (f:Fm) (fa:OA) (fc:Nat) (sets:Int) (iv nv:Value) (T:List TN) (X:Nat->Prop):Prop where
 dp:w.heap[gk]? =some (.cells #[.slice fa n fc,.map (some nb),.map (some ob),IV sets,iv,nv] 116 (0,0))
 cK:w.ownsRow 0 62 4 nv T.length (eo T)
 ah:∀x∈T,GQ w (lO gk nb ob nv X) n us x
 aW:∃g,cE Tryz.prog 9 w nb T.length g/\Ld n T g
 BQ:∃g,cE Tryz.prog 3 w ob T.length g/\Dy cQ T g
 ne:gk≠nb/\gk≠ob/\nb≠ob
 nY:∀b,nv.ownBlock=some b->b≠gk/\b≠nb/\b≠ob
 uniq:∀(i j:Nat)(x y:TN),T[i]? =some x->T[j]? =some y->bH n x.W=bH n y.W->i=j
 Bg:∀k,cd gk nb ob nv k->0<k
 form:FA w fa n f
 ec:nP (lO gk nb ob nv X) fa
 qZ:Lb w fa
section
variable {w w1:WD} {n gk nb ob pos:Nat} {us:List Int} {f:Fm} {fa:OA} {fc:Nat} {sets:Int} {iv nv:Value} {T:List TN} {X:Nat->Prop}
def eH.tI(h:eH w n gk nb ob pos us f fa fc sets iv nv T X):gk<w.heap.size:=(Nu.1 h.dp).1
def eH.eE(h:eH w n gk nb ob pos us f fa fc sets iv nv T X):∀k,cd gk nb ob nv k->k<w.heap.size:=λk b=>by rcases b with rfl|rfl|rfl|b;exact h.tI;obtain ⟨g,a,-⟩:=h.aW;exact a.lt;obtain ⟨g,a,-⟩:=h.BQ;exact a.lt;exact dj h.cK k b
def fj.aA{S S':Nat->Prop}{W:Wy}{r:bu×bu}(h:fj w S n W r){R:Nat->Prop}(a:aj R w w1)(c:∀k,R k->S k)(d:∀k,S' k->S k\/w.heap.size<=k):fj w1 S' n W r:=
 ⟨cF h.1 a (λb o e s=>h.2.2.1 b o e (c _ s)),cF h.2.1 a (λb o e s=>h.2.2.2.1 b o e (c _ s)),nP.from d h.2.2.1 h.2.2.2.2.1,nP.from d h.2.2.2.1 h.2.2.2.2.2.1,
  λb o e=>NL (h.2.2.2.2.1 b o e) a.size,λb o e=>NL (h.2.2.2.2.2.1 b o e) a.size,h.2.2.2.2.2.2⟩
def GQ.aA{S S':Nat->Prop}{x:TN}(h:GQ w S n us x){R:Nat->Prop}(a:aj R w w1)(c:∀k,R k->S k)(d:∀k,S' k->S k\/w.heap.size<=k):GQ w1 S' n us x:=
 ⟨h.o9.aA a c d,cF h.lN a (λb o e s=>h.sep b o e (c _ s)),nP.from d h.sep h.lt,λb o e=>NL (h.lt b o e) a.size,h.met⟩
def eH.aA(h:eH w n gk nb ob pos us f fa fc sets iv nv T X){R:Nat->Prop}(l:aj R w w1)(p:∀k,R k->¬cd gk nb ob nv k)(j:∀k,R k->X k\/w.heap.size<=k):eH w1 n gk nb ob pos us f fa fc sets iv nv T X:=by have a:aj (λk=>X k/\¬cd gk nb ob nv k) w w1:=l.mono λk r m=>(j k m).elim (λh=>⟨h,p k m⟩) (λh=>by omega);have c:∀k,cd gk nb ob nv k->¬(X k/\¬cd gk nb ob nv k):=λk h s=>s.2 h;refine ⟨(a.block gk h.tI (c gk (.inl rfl))).trans h.dp,bm h.cK a (λb e=>c b (.inr (.inr (.inr e)))),λx q=>(h.ah x q).aA a (λ_ s=>.inr s.1) (λk=>.inl),?_,?_,h.ne,h.nY,h.uniq,h.Bg,h.form.aA a (λb o e s=>h.ec b o e (.inr s.1)),h.ec,λb o e=>NL (h.qZ b o e) l.size⟩;obtain ⟨g,d,i⟩:=h.aW;exact ⟨g,d.aA a (c nb (.inr (.inl rfl))),i⟩;obtain ⟨g,d,i⟩:=h.BQ;exact ⟨g,d.aA a (c ob (.inr (.inr (.inl rfl)))),i⟩
def eH.af(h:eH w n gk nb ob pos us f fa fc sets iv nv T X)(b:BW w w1):eH w1 n gk nb ob pos us f fa fc sets iv nv T X:=
 h.aA (aj.aF b) (λk a s=>by have:=h.eE k s;omega) (λk a=>.inr a)
def eH.dB(h:eH w n gk nb ob pos us f fa fc sets iv nv T X)(x:TN)(C:∀y∈T,bH n y.W≠bH n x.W){c:Value}(l:aj (cd gk nb ob nv) w w1)
 (r:HC w1 gk #[.slice fa n fc,.map (some nb),.map (some ob),IV sets,iv,c] 116)
 (u:w1.ownsRow 0 62 4 c (T.length+1) (eo T++I9 x)) {G H:Value->Option Value} (t:Ld n T G) (F:Dy pos T H)
 (D:cE Tryz.prog 9 w1 nb (T.length+1) (qK G (.string (lI (bH n x.W))) (some (IV T.length))))
 (E:cE Tryz.prog 3 w1 ob (T.length+1) (qK H (IV T.length) (some (JL x.W x.r))))
 (Q:GQ w1 (lO gk nb ob c X) n us x) (J:∀b,c.ownBlock=some b->nv.ownBlock=some b\/w.heap.size<=b):eH w1 n gk nb ob pos us f fa fc sets iv c (T++[x]) X:=by
 have m:∀b,c.ownBlock=some b->b≠gk/\b≠nb/\b≠ob:=λb M=>by rcases J b M with a|a;exact h.nY b a;exact ⟨λe=>by have:=h.eE gk (.inl rfl);omega,λe=>by have:=h.eE nb (.inr (.inl rfl));omega,λe=>by have:=h.eE ob (.inr (.inr (.inl rfl)));omega⟩
 have I:∀k,cd gk nb ob c k->cd gk nb ob nv k\/w.heap.size<=k:=λk l=>by rcases l with a|a|a|a;exact .inl (.inl a);exact .inl (.inr (.inl a));exact .inl (.inr (.inr (.inl a)));exact (J k a).imp (λp=>.inr (.inr (.inr p))) id
 have q:∀k,lO gk nb ob c X k->lO gk nb ob nv X k\/w.heap.size<=k:=λk l=>l.elim (λs=>(I k s).imp .inl id) (λs=>.inl (.inr s))
 have g:∀{j:Nat}{y:TN},(T++[x])[j]? =some y->T[j]? =some y\/j=T.length/\y=x:=λ{j y} d=>by rcases P3 j T.length with m|B|N;rw [NP m]at d;exact .inl d;subst B;rw [OF]at d;cases d;exact .inr ⟨rfl,rfl⟩;rw [O7 (by simp;omega)]at d;cases d
 refine ⟨r,by rw [rD,NH];exact u,λy A=>?_,⟨_,by rw [NH];exact D,?_,?_⟩,⟨_,by rw [NH];exact E,?_⟩,h.ne,m,?_,λk l=>?_,h.form.aA l (λb o e s=>h.ec b o e (.inl s)),?_,λb o e=>NL (h.qZ b o e) l.size⟩
 rcases NY.1 A with A|A
 exact (h.ah y A).aA l (λ_ s=>.inl s) q
 rw [Nv.1 A];exact Q
 intro j y d
 rcases g d with a|⟨rfl,rfl⟩
 rw [cT _ _ _ _ (λe=>C y (NI a) (yC (Value.string.inj e)))]
 exact t.1 j y a
 rw [eZ]
 intro s v K
 by_cases e:s=lI (bH n x.W)
 exact ⟨T.length,x,OF,e⟩
 rw [cT _ _ _ _ (λL=>e (Value.string.inj L))]at K
 obtain ⟨j,y,a,p⟩:=t.2 s v K
 exact ⟨j,y,by rw [NP (NK.1 a).1];exact a,p⟩
 intro j y d P
 rcases g d with a|⟨rfl,rfl⟩
 have R:=(NK.1 a).1
 rw [cT _ _ _ _ (λe=>by have:=(P7 e).2;omega)]
 exact F j y a P
 rw [eZ]
 intro i j y z O d e
 rcases g O with a|⟨rfl,rfl⟩<;>rcases g d with p|⟨rfl,rfl⟩
 exact h.uniq i j y z a p e
 exact absurd e (C y (NI a))
 exact absurd e.symm (C z (NI p))
 rfl
 rcases I k l with a|a
 exact h.Bg k a
 have:=h.tI;omega
 exact nP.from q h.ec h.qZ
def eH.off(h:eH w n gk nb ob pos us f fa fc sets iv nv T X){Y:Nat->Prop}(b:∀k,Y k->X k\/w.heap.size<=k):eH w n gk nb ob pos us f fa fc sets iv nv T Y:=by have a:∀k,lO gk nb ob nv Y k->lO gk nb ob nv X k\/w.heap.size<=k:=λk c=>c.elim (λs=>.inl (.inl s)) (λs=>(b k s).imp .inr id);exact ⟨h.dp,h.cK,λx d=>(h.ah x d).aA (aj.refl (λ_=>False) w) (λ_ s=>s.elim) a,h.aW,h.BQ,h.ne,h.nY,h.uniq,h.Bg,h.form,nP.from a h.ec h.qZ,h.qZ⟩
end
end
section
open Go.RowKit Go.Maps
def Ow:=@Array.getElem?_modify
def Qr:=@Go.MapKept.run_getObj_map
def Qs:=@Go.MapKept.run_setObj_map
def RE:=@Array.toList_modify
def RV:=@Go.run_underlying
def SU:=@Array.toList_push
section
open Go.ChangeShapes Go.WideShapes Go.MapKept Go.ChangeMaps Go.WideElems
variable {P:Program} {w:WD} {t k e:TypeId} {b n:Nat} {f:Value->Option Value}
def AI(K:Keyed P k)(C:P.underlying t=some (.map k e)){z:Value}(U:∀u:WD,(zeroValue e).run P u=.ok z u){g:Array MapEntry}{d:Nat}(i:w.heap[b]? =some (.map g d)){R:Value->Option (DataW Value×List MemPlace)}(F:Fit P k R g d)
 {key:Value} {V:Lit} (h:keyOf P k key=some V) (val:Value):
 ∃(Y:Value)(J:Int)(H L:WD),(Instr.mapEntry t (.map (some b)) key).run P w=.ok (.tuple #[Y,IV J]) H/\(Instr.entryStore t (.map (some b)) (IV J) val).run P H=.ok () L/\
  (Instr.mapUpdate t (.map (some b)) key val).run P w=.ok () L/\aj (λk=>k=b) w H:=by
 have O:b<w.heap.size:=(Nu.1 i).1
 have r:∀o,aj (λk=>k=b) w (setBlock w b o):=λo=>⟨rfl,rfl,rfl,by simp [setBlock],λj E G=>by simp [setBlock,P4 G]⟩
 obtain ⟨W,I,_⟩:=F.stamped
 rcases K.find w h g.toList F.keys with⟨A,v⟩|⟨j,s,A,v,B⟩
 refine ⟨z,d,setBlock w b (.map (g.push ⟨key,z,d⟩) (d+1)),setBlock w b (.map (g.push ⟨key,val,d⟩) (d+1)),?_,?_,?_,r _⟩
 simp [Instr.mapEntry,RV C,Qr i,K.check w false h,A,U,Qs _ i,Result.andThen,setBlock,goInt]
 have q:(setBlock w b (.map (g.push ⟨key,z,d⟩) (d+1))).heap[b]? =some (.map (g.push ⟨key,z,d⟩) (d+1)):=(MapKept.heap_set i).1
 have m:(g.push ⟨key,z,d⟩).findIdx? (λe=>((e.born:Nat):Int)==((d:Nat):Int))=some g.size:=by rw [findIdx_arr];refine findIdx_born (l:=(g.push ⟨key,z,d⟩).toList) (j:=g.size) (e0:=⟨key,z,d⟩) ?_ (by simp);simp only [SU,Oy,NQ,NZ];refine List.nodup_append.2 ⟨I,by simp,λa N c Q M=>?_⟩;rw [Nv.1 Q]at M;obtain ⟨x,S,rfl⟩:=OC.1 N;have:=W x S;omega
 have p:(g.push ⟨key,z,d⟩).modify g.size (λe=>{e with val:=val})=g.push ⟨key,val,d⟩:=by apply Array.ext';rw [RE,SU,SU,<-Array.length_toList,modify_last]
 simp [Instr.entryStore,Qr q,asInt,asIntOf,m,p,Qs _ q,Result.andThen]
 simp [setBlock]
 simp [Instr.mapUpdate,RV C,Qr i,K.check w false h,A,Qs _ i,Result.andThen,setBlock]
 have E:g[j]? =some s:=by simpa using v
 have y:g.modify j (λe=>{e with key:=key})=g:=by apply Array.ext';rw [RE,modify_eq_set _ _ _ _ v,show({s with key:=key}:MapEntry)=s by rw [<-B]];exact set_self _ _ _ v
 have p:g.modify j (λe=>{e with val:=val})=g.modify j (λD=>{D with key:=key,val:=val}):=by apply Array.ext';rw [RE,RE,modify_eq_set _ _ _ _ v,modify_eq_set _ _ _ _ v,<-B]
 have m:g.findIdx? (λe=>((e.born:Nat):Int)==((s.born:Nat):Int))=some j:=by rw [findIdx_arr];exact findIdx_born I v
 have q:(setBlock w b (.map g d)).heap[b]? =some (.map g d):=(MapKept.heap_set i).1
 refine ⟨s.val,s.born,setBlock w b (.map g d),setBlock w b (.map (g.modify j (λD=>{D with key:=key,val:=val})) d),?_,?_,?_,r _⟩
 simp [Instr.mapEntry,RV C,Qr i,K.check w false h,A,E,B,K.stays w h,y,Qs _ i,Result.andThen,setBlock,goInt]
 simp [Instr.entryStore,Qr q,asInt,asIntOf,m,p,Qs _ q,Result.andThen]
 simp [setBlock]
 simp [Instr.mapUpdate,RV C,Qr i,K.check w false h,A,E,B,K.stays w h,Qs _ i,Result.andThen,setBlock]
def cE.entry(h:cE P k w b n f)(K:Keyed P k)(o:P.underlying t=some (.map k e)){z:Value}(C:∀u:WD,(zeroValue e).run P u=.ok z u)(A:n<maxLen){c:Value}{E:Lit}(a:keyOf P k c=some E)(v:Value):
 ∃(l:Value)(g:Int)(d i:WD),(Instr.mapEntry t (.map (some b)) c).run P w=.ok (.tuple #[l,IV g]) d/\(Instr.entryStore t (.map (some b)) (IV g) v).run P d=.ok () i/\
  cE P k i b (n+1) (qK f c (some v))/\aj (λk=>k=b) w d/\aj (λk=>k=b) w i:=by
 obtain ⟨G,B,y,x⟩:=h.put K o A a v
 obtain ⟨D,⟨H,j,s,F,-,-⟩,-⟩:=h
 obtain ⟨l,g,d,i,p,q,m,r⟩:=AI K o C s F a v
 rw [B]at m
 cases m
 exact ⟨l,g,d,G,p,q,y,r,x⟩
end
def oh(w:WD):(zeroValue 3).run Tryz.prog w=.ok (IV 0) w:=by
 have a:Tryz.t3.zero=some (IV 0):=by kernel_rfl
 unfold zeroValue;simp [a]
def Es(w:WD):(zeroValue 119).run Tryz.prog w=.ok (.agg #[UV 0,UV 0,SN,SN]) w:=by
 have a:Tryz.t119.zero=some (.agg #[UV 0,UV 0,SN,SN]):=by kernel_rfl
 unfold zeroValue;simp [a]
def j6{w:WD}{o:Oper}{a:Act}{K:Act->WD->Prop}{Q:Exit->Act->WD->Prop}(s x:Operand)
 (I:o.op=.call {callee:=.builtin .append,args:=#[s,x],argTypes:=#[34,34]})
 (v:Value) (n:Nat) (B:List Value) (L:a.eval s=v) (H:w.ownsRow 0 62 4 v n B)
 (r:Addr) (c:Nat) (d:List Value) (M:a.eval x=.slice (some r) 1 c) (O:d.length=4) (g:∀j u,d[j]? =some u->w.cell? (r.add j)=some u) (E:∀u∈d,u.oneCell'=true) (D:n+1<=33554432)
 (h:∀l m i,i.ownsRow 0 62 4 (.slice l (n+1) m) (n+1) (B++d)->aj (λk=>v.ownBlock=some k) w i->(∀b,(Value.slice l (n+1) m).ownBlock=some b->v.ownBlock=some b\/w.heap.size<=b)->K (a.put o.dst (.slice l (n+1) m)) i):aY Tryz.prog o a w K Q:=by
 obtain ⟨A,G,N,z,F⟩:=Ol Tryz.Lu
 constructor
 obtain ⟨R,i,J,C,p,_,q⟩:=Rp (P:=Tryz.prog) w 0 34 o.type 62 A _ 4 48 Tryz.underlying34 G N z F rfl (by decide) v n B H r 1 c d (by omega) g E (by unfold maxLen;omega) (by omega) (NS _)
 unfold Oper.wp execOp
 simp only [I,resolve,invoke,builtin,P8,Qt,Po,PE,NQ,NZ,L,M,J]
 have y:aj (λk=>v.ownBlock=some k) w i:=⟨p.os,p.tape,p.output,p.size,λk y D=>p.block k y (λe=>D e.symm)⟩
 obtain ⟨l,m,rfl⟩:=bw C
 refine h l m i C y (λb e=>?_)
 rcases q with q|q
 rw [q]at e;exact .inl e
 rw [q]at e;cases e;exact .inr (Nz _)
def tQ(w:WD)(n gk nb ob pos:Nat)(us:List Int)(f:Fm)(fa:OA)(fc:Nat)(sets:Int)(iv nv:Value)(T:List TN)(X:Nat->Prop)(W:Wy)(e:Ending)(c:WD):Prop:=
 ∃(j:Nat)(nv':Value)(a:List TN),e=RT (IV j)/\eH c n gk nb ob pos us f fa fc sets iv nv' a X/\aj (cd gk nb ob nv) w c/\(∀b,nv'.ownBlock=some b->nv.ownBlock=some b\/w.heap.size<=b)/\
  (∃x,a[j]? =some x/\bH n x.W=bH n W)/\((a=T/\nv'=nv)\/j=T.length/\∃x:TN,x.W=W/\x.t=(none,0,0)/\x.bh=[]/\a=T++[x])
section
variable {w wd w5 w6 w7:WD} {n gk nb ob pos:Nat} {us:List Int} {f:Fm} {fa:OA} {fc:Nat} {sets:Int} {iv nv nv':Value} {T:List TN} {X:Nat->Prop}
def eH.dh(h:eH w n gk nb ob pos us f fa fc sets iv nv T X)(W:Wy)(r:bu×bu)(N:Nat)(hf:∀y∈T,bH n y.W≠bH n W)(u:aj (λk=>k=nb\/k=ob) w wd){K L:Value->Option Value}(D:Ld n T K)(E:Dy pos T L)
 (B:cE Tryz.prog 9 wd nb (T.length+1) (qK K (.string (lI (bH n W))) (some (IV T.length))))
 (C:cE Tryz.prog 3 wd ob (T.length+1) (qK L (IV T.length) (some (JL W r))))
 (j:BW wd w5) (v:w6.ownsRow 0 62 4 nv' (T.length+1) (eo T++I9 ⟨W,r,N,(none,0,0),[]⟩)) (a:aj (λk=>nv.ownBlock=some k) w5 w6)
 (M:∀b,nv'.ownBlock=some b->nv.ownBlock=some b\/w5.heap.size<=b) (J:w7=w6.setCell (AD gk 5) nv') (hr:fj w (lO gk nb ob nv X) n W r) (hN:kM us (cI W.bz n) us.length N):
 eH w7 n gk nb ob pos us f fa fc sets iv nv' (T++[⟨W,r,N,(none,0,0),[]⟩]) X/\aj (cd gk nb ob nv) w w7/\∀b,nv'.ownBlock=some b->nv.ownBlock=some b\/w.heap.size<=b:=by
 have H:w.heap.size<=w5.heap.size:=N5 u.size j.size
 have c:∀b,nv'.ownBlock=some b->nv.ownBlock=some b\/w.heap.size<=b:=λb e=>(M b e).imp id (λh=>N5 H h)
 have q:=h.tI
 have A:¬nv.ownBlock=some gk:=λe=>(h.nY gk e).1 rfl
 have F:¬nv.ownBlock=some nb:=λe=>(h.nY nb e).2.1 rfl
 have G:¬nv.ownBlock=some ob:=λe=>(h.nY ob e).2.2 rfl
 have kD:aj (cd gk nb ob nv) w wd:=u.mono λk _ s=>s.elim (λs=>.inr (.inl s)) (λs=>.inr (.inr (.inl s)))
 have k5:aj (cd gk nb ob nv) w w5:=kD.then (aj.aF j) (λi hi s=>by have:=u.size;omega)
 have k6:aj (cd gk nb ob nv) w w6:=k5.then a (λi _ s=>.inr (.inr (.inr s)))
 have d:aj (λk=>k=gk) w6 w7:=by rw [J];exact (aj.refl (λk=>k=gk) w6).setCell (p:=(AD gk 5)) (λ_=>rfl) _
 have I:aj (cd gk nb ob nv) w w7:=k6.then d (λi _ s=>.inl s)
 have l:gk<wd.heap.size:=NL q u.size
 have R:w5.heap[gk]? =some (.cells #[.slice fa n fc,.map (some nb),.map (some ob),IV sets,iv,nv] 116 (0,0)):=(j.block gk l).trans ((u.block gk q (λs=>s.elim h.ne.1 h.ne.2.1)).trans h.dp)
 have S:=(a.block gk (NL l j.size) A).trans R
 have U:w7.heap[gk]? =some (.cells #[.slice fa n fc,.map (some nb),.map (some ob),IV sets,iv,nv'] 116 (0,0)):=by rw [J];simp [World.setCell,Ow,S]
 have Q:∀{O:TypeId}{x m:Nat}{g:Value->Option Value},cE Tryz.prog O wd x m g->¬nv.ownBlock=some x->x≠gk->cE Tryz.prog O w7 x m g:=λV Y Z=>((V.af j).aA a Y).aA d Z
 have z:∀b,nv'.ownBlock=some b->b≠gk:=λb e=>by rcases M b e with e|e;exact (h.nY b e).1;have:=j.size;omega
 refine ⟨h.dB ⟨W,r,N,(none,0,0),[]⟩ hf I U (bm v d (λg e s=>z g e s)) D E (Q B F h.ne.1.symm) (Q C G h.ne.2.1.symm) ⟨?_,⟨rfl,.inl rfl⟩,λb o e=>(by cases e),λb o e=>(by cases e),hN⟩ c,I,c⟩
 refine hr.aA I (λ_ s=>.inl s) (λk s=>?_)
 rcases s with s|s
 case inr=>exact .inl (.inr s)
 rcases s with s|s|s|s
 exact .inl (.inl (.inl s))
 exact .inl (.inl (.inr (.inl s)))
 exact .inl (.inl (.inr (.inr (.inl s))))
 exact (c k s).imp (λs=>.inl (.inr (.inr (.inr s)))) id
end
end
section
open Go.RowKit Go.Maps
def Pg:=@List.getElem?_of_mem
def Rw:=@Option.getD_none
def SQ:=@Option.isSome_none
def SR:=@Option.isSome_some
def CQ(w:WD)(n gk t z am:Nat)(f:Fm)(fa:OA)(fc:Nat)(I:Int)(iv nv:Value)(T:List TN)(X:Nat->Prop)(W:Wy)(r:bu×bu)(aL:eH w n gk t z am (dG f n) f fa fc I iv nv T X)(aC:eG w)(hN:Fm.gI f)(bg:dV f)(hn:n<=50)
 (hr:fj w (lO gk t z nv X) n W r) (ad:u7 W) (bD:T.length<=1000):
 CL 108 #[PT gk,JL W r] w (tQ w n gk t z am (dG f n) f fa fc I iv nv T X W):=by
 obtain ⟨⟨J,E,L⟩,⟨F,D,M⟩⟩:=r
 show CL 108 #[PT gk,.agg #[UV W.ak,UV W.aD,.slice J E L,.slice F D M]] w _
 obtain ⟨Y,aM⟩:=EX (dG f n)
 rw [aM]at aL⊢
 obtain ⟨w1,aO⟩:=EX (w.alloc (.cells #[UV W.ak,UV W.aD,.slice J E L,.slice F D M] 119))
 have ah:BW w w1:=aO▸ag _ _
 have bL:E<=n:=by have h:=hr.1.1;simp only at h;rw [<-h];exact kJ _ _
 have bM:D<=n:=by have h:=hr.2.1.1;simp only at h;rw [<-h];exact kJ _ _
 obtain ⟨q,hq⟩:=EX w.heap.size
 have H:Hid (∀(i:Nat)(u:Value),(#[UV W.ak,UV W.aD,.slice J E L,.slice F D M]:Array Value)[i]? =some u->∀a,BW w1 a->CA a q i u):=λi u hu a O=>(cW O (by have h:=bp w #[UV W.ak,UV W.aD,.slice J E L,.slice F D M] 119 i u hu;rw [aO,hq]at h;exact h)).1
 have aW:Hid (CL 145 #[.agg #[UV W.ak,UV W.aD,.slice J E L,.slice F D M]] w1 λe a=>e=RT (.string (lI (bH n W)))/\BW w1 a):=
  IP W.ak W.aD J E L F D M ((List.range n).filter W.next) ((List.range n).filter W.bz) w1 (aC.af ah) ad.1 ad.2 (hr.1.af ah) (hr.2.1.af ah) (λp hp=>by have:=Oq.1 (Og.1 hp).1;omega) (λp hp=>by have:=Oq.1 (Og.1 hp).1;omega) (by omega) (by omega)
 have aX:Hid ((lI (bH n W)).size<=maxLen):=by have h1:=lz ((List.range n).filter W.next) (λp hp=>by have:=Oq.1 (Og.1 hp).1;omega);have h2:=lz ((List.range n).filter W.bz) (λp hp=>by have:=Oq.1 (Og.1 hp).1;omega);have h3:=OD W.next (List.range n);have h4:=OD W.bz (List.range n);have h5:=gF ad.1;have h6:=gF ad.2;rw [OQ]at h3 h4;show(lI (bH n W)).data.size<=maxLen;simp only [lI,bH,wO,Rk,NH,Ou];unfold maxLen;omega
 have aw:=Nq aL
 have HR:=Nq hr
 have bG:=Nq ad
 have bI:=Nq aC
 have bs:=Nq aM
 have HN:=Nq hN
 have bq:=Nq bg
 have aR:=Nq ah
 have HQ:=Nq hq
 have c0:=H.o 0 (UV W.ak) rfl w1 (Nx _ _)
 have c1:=H.o 1 (UV W.aD) rfl w1 (Nx _ _)
 have c2:=H.o 2 (.slice J E L) rfl w1 (Nx _ _)
 have c3:=H.o 3 (.slice F D M) rfl w1 (Nx _ _)
 obtain ⟨s,hs⟩:=EX (lI (bH n W))
 rw [hs]at aW aX
 have HS:=Nq hs
 clear aL aC hN bg hr ad aM ah hs
 go_enter Tryz.func108,Tryz.ntmps108
 go_upto_region 2 with(go_at_call 145;refine aW.o.mono ?_;rintro e B ⟨rfl,a2⟩;have Z:=Nq a2;clear a2)
 have U:=aw.o.af (aa aR.o Z.o)
 obtain ⟨g,hm,hg⟩:=U.aW
 have k1:CA B gk 1 (.map (some t)):=CH U.dp
 have aH:keyOf Tryz.prog 9 (.string s)=some (.string s.data.toList):=WideMaps.keyOf_string_mk QP aX.o
 have A:=hm.look_ok Mq Tryz.underlying113 (oh B) aH
 have c:=Nq U
 have HM:=Nq hm
 have HG:=Nq hg
 have bk:=Nq aH
 have G:Hid (BW w B):=aa aR.o Z.o
 clear U hm hg aH c0 c1 c2 c3 aO hq
 cases Q:g (.string s)with
 |some v=>
  obtain ⟨j,x,hj,aK⟩:=HG.o.2 s v Q
  have hv:v=IV j:=by have:=HG.o.1 j x hj;rw [<-aK,Q]at this;exact OJ this
  subst hv
  rw [Q]at A
  simp only [OU,SR]at A
  have HP:Hid (tQ w n gk t z am Y f fa fc I iv nv T X W (RT (IV j)) B):=⟨j,nv,T,rfl,c.o,aj.mono (aj.aF G.o) (λk hk s=>by omega),λb h=>.inl h,⟨x,hj,yC (aK.symm.trans HS.o.symm)⟩,.inl ⟨rfl,rfl⟩⟩
  clear hj aK Q
  go_wp2
  go_ret
  exact HP.o
 |none=>
  rw [Q]at A
  simp only [Rw,SQ]at A
  have HF:Hid (∀y∈T,bH n y.W≠bH n W):=λy hy e=>by obtain ⟨j,hj⟩:=Pg hy;have:=HG.o.1 j y hj;rw [e,HS.o,Q]at this;cases this
  obtain ⟨na,nc,rfl⟩:=bw c.o.cK
  have k5:CA B gk 5 (.slice na T.length nc):=CH c.o.dp
  clear Q
  go_upto_region 6 with(fail)
  obtain ⟨g2,bb,a7⟩:=c.o.BQ
  have ac:=c.o.ne
  have bC:w.heap.size=q:=HQ.o
  have bE:t<w.heap.size:=aw.o.eE t (.inr (.inl rfl))
  have bF:z<w.heap.size:=aw.o.eE z (.inr (.inr (.inl rfl)))
  have ax:BW B B.drew:=(Nx _ B).drew
  obtain ⟨v0,st,wa,wb,bv,bx,be,a8,aE⟩:=cE.entry (HM.o.af ax) Mq Tryz.underlying113 oh (by unfold maxLen;omega) bk.o (IV T.length)
  have ap:cE Tryz.prog 3 wb z T.length g2:=(bb.af ax).aA aE (λe=>ac.2.2 e.symm)
  obtain ⟨v1,bN,wc,C,bz,bA,bf,a9,aF⟩:=cE.entry ap lW Tryz.underlying114 Es (by unfold maxLen;omega) (iG (n:=T.length) (by omega)) (.agg #[UV W.ak,UV W.aD,.slice J E L,.slice F D M])
  have k2:CA B gk 2 (.map (some z)):=CH c.o.dp
  have c0:=H.o 0 (UV W.ak) rfl B Z.o
  have c1:=H.o 1 (UV W.aD) rfl B Z.o
  have c2:=H.o 2 (.slice J E L) rfl B Z.o
  have c3:=H.o 3 (.slice F D M) rfl B Z.o
  have ab:Hid (∀a,aj (λk=>k=t\/k=z) B.drew a->CA a q 0 (UV W.ak)/\CA a q 1 (UV W.aD)/\CA a q 2 (.slice J E L)/\CA a q 3 (.slice F D M)/\CA a gk 1 (.map (some t))/\CA a gk 2 (.map (some z))):=λa hk=>
   have nq:¬(q=t\/q=z):=by omega
   have ng:¬(gk=t\/gk=z):=by have:=ac.1;have:=ac.2.1;omega
   ⟨hk.aq c0 nq,hk.aq c1 nq,hk.aq c2 nq,hk.aq c3 nq,hk.aq k1 ng,hk.aq k2 ng⟩
  have aT:Hid (aj (λk=>k=t\/k=z) B.drew wa):=a8.mono λk _ s=>.inl s
  have au:Hid (aj (λk=>k=t\/k=z) B.drew wb):=aE.mono λk _ s=>.inl s
  have aV:Hid (aj (λk=>k=t\/k=z) B.drew wc):=au.o.then a9 (λ_ _ s=>.inr s)
  have m:Hid (aj (λk=>k=t\/k=z) B.drew C):=au.o.then aF (λ_ _ s=>.inr s)
  have bl:Hid (cE Tryz.prog 9 C t (T.length+1) (qK g (.string s) (some (IV T.length)))):=be.aA aF ac.2.2
  have bn:=Nq bf
  have bj:=Nq a7
  have ai:=Nq ac
  clear bb be a8 aE ap bf a9 aF a7 ac ax bC A
  refine av 17 (S:=λa=>CA a q 0 (UV W.ak)/\CA a q 1 (UV W.aD)/\CA a q 2 (.slice J E L)/\CA a q 3 (.slice F D M)/\CA a gk 1 (.map (some t))/\CA a gk 2 (.map (some z))) (by kernel_rfl) (⟨c0,c1,c2,c3,k1,k2⟩) (λP=>?_)
  refine' az 0 ?_
  refine' az 1 ?_
  refine' az 2 ?_
  refine' az 3 ?_
  refine' az 4 ?_
  refine' az 5 ?_
  refine' az 6 ?_
  refine' az 7 ?_
  refine' az 8 ?_
  refine' az 9 ?_
  refine' az 10 ?_
  refine' az 11 ?_
  clear P
  refine aI 12 λK d=>?_
  go_simp
  refine d.o _ _ (λ_=>ab.o wa aT.o) ?_
  clear d K
  try walk_nrm
  refine aI 13 λK d=>?_
  go_simp
  refine d.o _ _ (λ_=>ab.o wa aT.o) ?_
  clear d K
  try walk_nrm
  refine aI 14 λK d=>?_
  go_simp
  refine d.o _ _ (λ_=>ab.o wb au.o) ?_
  clear d K
  try walk_nrm
  refine aI 15 λK d=>?_
  go_simp
  refine d.o _ _ (λ_=>ab.o wc aV.o) ?_
  clear d K
  try walk_nrm
  refine aI 16 λK d=>?_
  go_simp
  refine d.o _ _ (λ_=>ab.o wc aV.o) ?_
  clear d K
  try walk_nrm
  refine aI 17 λK d=>?_
  go_simp
  refine d.o _ _ (λe=>nomatch e) ?_
  clear d K
  try walk_nrm
  refine ay (by kernel_rfl) ?_
  have k0:CA B gk 0 (.slice fa n fc):=CH c.o.dp
  have ng:¬(gk=t\/gk=z):=by have:=ai.o.1;have:=ai.o.2.1;omega
  have nf:∀k,(k=t\/k=z)->cd gk t z (.slice na T.length nc) k:=λk s=>s.elim (λs=>.inr (.inl s)) (λs=>.inr (.inr (.inl s)))
  obtain ⟨d0,d1,d2,d3,-,-⟩:=ab.o C m.o
  have d4:=m.o.aq k0 ng
  have d5:=m.o.aq k5 ng
  have ak:aj (λk=>k=t\/k=z) B C:=⟨m.o.os,m.o.tape,m.o.output,m.o.size,m.o.block⟩
  have aq:C.ownsRow 0 62 4 (.slice na T.length nc) T.length (eo T):=bm c.o.cK ak (λb e s=>by have:=c.o.nY b e;omega)
  have a5:FA C fa n f:=c.o.form.aA ak (λb o e s=>c.o.ec b o e (.inl (nf _ s)))
  have bh:aG .i64 C F D (cI W.bz n):=cF (HR.o.2.1.af G.o) ak (λb o e s=>HR.o.2.2.2.1 b o e (.inl (nf _ s)))
  have ba:D<=1000:=by omega
  have aS:Hid (∀a,Below C.drew.heap.size C.drew a->CL 146 #[.slice fa n fc,.agg #[UV W.ak,UV W.aD,.slice J E L,.slice F D M]] a λe aQ=>∃N:Nat,e=RT (UV N)/\BW a aQ/\kM Y (cI W.bz n) Y.length N):=λa O=>by have O:BW C a:=(Nx _ _).drew.trans O;have:=Fz fa n fc f W.ak W.aD J E L F D M (cI W.bz n) a (a5.af O) HN.o bq.o hn (bh.af O) ba;rw [bs.o]at this;exact this
  have br:Hid (∀a,Below C.drew.heap.size C.drew a->CA a q 0 (UV W.ak)/\CA a q 1 (UV W.aD)/\CA a q 2 (.slice J E L)/\CA a q 3 (.slice F D M)/\CA a gk 0 (.slice fa n fc)/\CA a gk 5 (.slice na T.length nc)):=λa O=>
   have O:BW C a:=(Nx _ _).drew.trans O
   have k1:∀{q i:Nat}{v:Value},CA C q i v->CA a q i v:=λh=>(O.cell (Nr C _ h)).trans h
   ⟨k1 d0,k1 d1,k1 d2,k1 d3,k1 d4,k1 d5⟩
  have ao:=Nq aq
  have ar:=Nq d5
  clear aq a5 bh ak ng nf bv bx bz bA k0 k1 k2 k5 c0 c1 c2 c3
  go_upto_region 7 with(fail)
  refine av 18 (S:=λa=>CA a q 0 (UV W.ak)/\CA a q 1 (UV W.aD)/\CA a q 2 (.slice J E L)/\CA a q 3 (.slice F D M)/\CA a gk 0 (.slice fa n fc)/\CA a gk 5 (.slice na T.length nc)) (by kernel_rfl) (⟨d0,d1,d2,d3,d4,d5⟩) (λP=>?_)
  refine' az 1 ?_ [5,4,3,2,1]
  refine' az 2 ?_ [5,4,3,2]
  refine' az 3 ?_ [5,4,3]
  refine' az 4 ?_ [5,4]
  refine' az 5 ?_
  refine' az 6 ?_ [17,16,7,6]
  refine' az 7 ?_ [17,16,7]
  refine' az 8 ?_ [17,16,9,8]
  refine' az 9 ?_ [17,16,9]
  refine' az 10 ?_ [15,13,12,11,10]
  refine' az 11 ?_ [15,13,12,11]
  refine' az 12 ?_ [15,13,12]
  refine' az 13 ?_ [15,13]
  refine' az 14 ?_ [15,14]
  refine' bc (i:=0) (v:=_) rfl (by kernel_rfl) (λ_ _ _ h=>h) (Or.inl ⟨by rfl,?hyS0⟩) (by assumption) ?restS0
  case hyS0=>(intro a bJ;go_simp;(try with_reducible rfl))
  try walk_nrm
  clear P d0 d1 d2 d3 d4 d5
  refine cA [15,16,17] (λi=>if i=15 then 59 else if i=16 then 60 else 61) #[true,true,true,true,true,true,true,true,true,true,true,true,true,true,true,true,true,true,false,false,false,false,false] 5
   (λi v w=>match i with|15=>∃N:Nat,v=UV N/\kM Y (cI W.bz n) Y.length N|16=>∃N:Nat,v=.agg #[UV W.ak,UV W.aD,UV N,SN]/\kM Y (cI W.bz n) Y.length N|_=>∃b N:Nat,v=SV b 1 1/\(∀(i:Nat)(u:Value),(#[UV W.ak,UV W.aD,UV N,SN]:Array Value)[i]? =some u->CA w b i u/\FZ w b i)/\kM Y (cI W.bz n) Y.length N) (by kernel_rfl) (by kernel_rfl) rfl (by decide) ?sS1 ?sS2 (by decide) ?sS3 ?sS4
  case sS1=>intro i v w4 w5 hv O;split at hv;exact hv;exact hv;obtain ⟨b,N,e,h,hN⟩:=hv;exact ⟨b,N,e,λi u hu=>cW O (h i u hu),hN⟩
  case sS2=>exact br.o
  case sS3=>rintro l V a i o hl bK hi ho hr hJ K d;simp only [N8,O5,QD]at hi;rcases hi with rfl|rfl|rfl;simp only [NT,NN,NO,N0]at ho;subst ho;refine aN (R:=λe aQ=>∃N:Nat,e=RT (UV N)/\BW a aQ/\kM Y (cI W.bz n) Y.length N) (f:=146) (args:=#[.slice fa n fc,.agg #[UV W.ak,UV W.aD,.slice J E L,.slice F D M]]) (aS.o a hJ.aM) ?_ (λe w4 ⟨N,he,O,hN⟩=>⟨_,he,d _ w4 O ⟨N,rfl,hN⟩⟩);clear d;simp only [NQ,NZ,aP,Act.put,reduceIte,Nat.reduceEqDiff,NB,NR,NM];go_simp;simp only [NT,NN,NO,N0]at ho;subst ho;obtain ⟨N,aZ,hN⟩:=hJ.mS 15 (by decide) (aU (l:=[15]) (by kernel_rfl) hr 15 (by simp));change V 59=_ at aZ;refine bT (v:=.agg #[UV W.ak,UV W.aD,UV N,SN]) (w':=a) ?_ (d _ _ (Nx _ _) ⟨N,rfl,hN⟩);clear d;simp only [NQ,NZ,aP,Act.put,reduceIte,Nat.reduceEqDiff,NB,NR,NM];rw [aZ];go_simp;simp only [NT,NN,NO,N0]at ho;subst ho;obtain ⟨N,a0,hN⟩:=hJ.mS 16 (by decide) (aU (l:=[16]) (by kernel_rfl) hr 16 (by simp));change V 60=_ at a0;have O:BW a (a.alloc (.cells #[UV W.ak,UV W.aD,UV N,SN] 62)):=(Nx _ _).alloc (Nz _) _;refine bT (v:=SV a.heap.size 1 1) (w':=a.alloc (.cells #[UV W.ak,UV W.aD,UV N,SN] 62)) ?_ (d _ _ O ⟨_,N,rfl,bp a _ _,hN⟩);clear d;simp only [NQ,NZ,aP,Act.put,reduceIte,Nat.reduceEqDiff,NB,NR,NM];rw [a0];go_simp
  case sS4=>
   intro V a a3 hV;simp only [NQ,NZ,aP,Act.put,reduceIte,Nat.reduceEqDiff,NB,NR,NM];obtain ⟨gl,N,aB,a4,a1⟩:=hV 17 (by decide);change V 61=_ at aB;have ae:BW C a:=(Nx _ _).drew.trans a3;have an:a.ownsRow 0 62 4 (.slice na T.length nc) T.length (eo T):=bm ao.o (aj.aF ae) (λg e s=>OI _ (NL (dj ao.o g e) s));have bB:gk<C.heap.size:=Nr C _ ar.o;obtain ⟨o1,-⟩:=(⟨(ae.cell (Nr C _ ar.o)).trans ar.o,PO⟩:CA a gk 5 (.slice na T.length nc)/\True);have f1:FZ a gk 5:=by
    have bt:HC a gk #[.slice fa n fc,.map (some t),.map (some z),IV I,iv,.slice na T.length nc] 116:=
     (ae.block gk bB).trans ((m.o.block gk (show gk<B.heap.size from c.o.tI) (by have:=ai.o.1;have:=ai.o.2.1;omega)).trans c.o.dp)
    exact NA bt 5
   refine aI 18 λK d=>?_;rw [Oa (by rfl)];apply aY.o;refine j6 (.tmp 49) (.tmp 61) rfl (.slice na T.length nc) T.length (eo T) rfl an (AD gl 0) 1 [UV W.ak,UV W.aD,UV N,SN] aB rfl (λj u hj=>?_) (by simp [Value.oneCell']) (by omega) (λa6 c6 w6 bd al bi=>?_);rw [O4,Od];exact (a4 j u (by simpa using hj)).1;have aD:¬(Value.slice na T.length nc).ownBlock=some gk:=λe=>(c.o.nY gk e).1 rfl;have o6:=al.aq o1 aD;have f6:=(N7 (al.block gk (Nr _ _ o1) aD)).trans f1;have bo:Hid (tQ w n gk t z am Y f fa fc I iv (.slice na T.length nc) T X W (RT (IV T.length)) (w6.setCell (AD gk 5) (.slice a6 (T.length+1) c6))):=by
    have aJ:=c.o.dh W ((J,E,L),(F,D,M)) N HF.o (⟨m.o.os,m.o.tape,m.o.output,m.o.size,m.o.block⟩:aj (λk=>k=t\/k=z) B C) HG.o bj.o (by rw [HS.o];exact bl.o) bn.o ae bd al bi rfl
     (fj.af HR.o G.o) a1
    refine ⟨T.length,_,_,rfl,aJ.1,(aj.mono (aj.aF G.o) (λk hk s=>by omega)).then aJ.2.1 (λ_ _ s=>s),λb e=>(aJ.2.2 b e).imp id (λh=>N5 G.o.size h),⟨_,OF,rfl⟩,.inr ⟨rfl,_,rfl,rfl,rfl,rfl⟩⟩
   refine d.o _ _ (λe=>nomatch e) ?_;clear d K hV aB a4 ae an o1 f1 bd al bi aD a3 a1;try walk_nrm
   refine aI 19 λK d=>?_;go_simp;refine d.o _ _ (λe=>nomatch e) ?_;clear d K;try walk_nrm
   refine aI 20 λK d=>?_;go_simp;refine d.o _ _ (λe=>nomatch e) ?_;clear d K;try walk_nrm
   refine aI 21 λK d=>?_;go_simp;refine d.o _ _ (λe=>nomatch e) ?_;clear d K;try walk_nrm
   refine aI 22 λK d=>?_;go_simp;refine d.o _ _ (λe=>nomatch e) ?_;clear d K;try walk_nrm
   refine ay (by kernel_rfl) ?_;go_wp2;go_ret;exact bo.o
end
end Go.Proofs.YtimniinkpipnmaaGreatDoor
