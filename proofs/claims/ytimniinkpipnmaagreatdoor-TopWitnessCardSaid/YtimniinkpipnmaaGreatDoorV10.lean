/- A part of the proof of TopWitness. -/
import Derived.Test.YtimniinkpipnmaaGreatDoorV9
set_option maxRecDepth 100000
set_option maxHeartbeats 8000000
set_option linter.all false
namespace Go.Proofs.YtimniinkpipnmaaGreatDoor
open Go.RowKit Go.Own Go.Proofs.Tryz
structure pB (a wr:WD) (N i:Nat) (r:Nat->Bool):Prop where
 aJ:BW a wr
 row:Sl wr 4 (SV a.heap.size N N) N (bB N λx=>decide (x<i)&&r x)
def pB.aM{a b N r}(c:Sl (a.alloc (CE (madeCells (Value.bool false).cells (N*1)) 4)) 4 (SV a.heap.size N N) N (madeCells (Value.bool false).cells (N*1)).toList)(e:b=a.alloc (CE (madeCells #[Value.bool false] N) 4)):pB a b N 0 r:=by
 have f:a.alloc (CE (madeCells (Value.bool false).cells (N*1)) 4)=b:=by rw [e,RL];rfl
 have d:=bM (.bool false) rfl N;rw [f,d,<-Scc.eR]at c;refine ⟨e▸ah _ _,?_⟩;rw [fR (g:=λ_=>false) (λj _=>ZS)];exact c
def pB.ag{b wr c N i r}(h:pB b wr N i r)(a:BW wr c):pB b c N i r:=
 ⟨h.aJ.trans (a.mono h.aJ.size),h.row.ax (aj.aC a) (λg e s=>ZH (h.row.lt g e))⟩
def pB.set{a wr b N i r}(h:pB a wr N i r)(o:BW wr b)(q:i<N){v}(s:v=r i):pB a (b.setCell (AD a.heap.size i) (.bool v)) N (i+1) r/\FZ b a.heap.size i/\∃t,CA b a.heap.size i t:=by have c:=h.ag o;have⟨l,m,n⟩:=mD c.row q v;have f:aj (λk=>k=a.heap.size) b (b.setCell (AD a.heap.size i) (.bool v)):=(aj.refl (λk=>k=a.heap.size) b).setCell (p:=(AD a.heap.size i)) (λ_=>rfl) _;refine ⟨⟨c.aJ.trans (f.ag c.aJ.size λk f e=>ZO),?_⟩,n,_,m⟩;rw [fR (g:=up (λx=>decide (x<i)&&r x) i v) (λj _=>?_)];exact l;subst s;by_cases e:j=i;subst e;rw [aA];simp;rw [an _ _ _ _ e];by_cases d:j<i;rw [PX d,PX ZO];rw [PH d,PH ZO]
def pB.done{w a wr N r}(h:pB a wr N N r)(b:BW w a):dP w wr (SV a.heap.size N N) N r:=by refine ⟨_,rfl,?_,af b h.aJ,b.size⟩;rw [fR (g:=λx=>decide (x<N)&&r x) (λj c=>by rw [PX c,Qu])];exact h.row
def wU(w)(n:Nat)(b)(C:n<=1000000):
 CL 96 #[IV n,.bool b] w λe B=>∃v,e=RT v/\dP w B v n (λ_=>b):=by
 have⟨A,k,p,o,g⟩:=P6 Scc.Tryz.kM
 go_enter func96,ntmps96
 go_upto_region 3 with(at_make;refine bu rfl _ _ 67 rfl 4 A (.bool false) 1 QM k p o _ _ _ _ n rfl rfl rfl rfl (by rw [g];omega) (by unfold maxLen;omega) ?_;rintro F rfl t;have c:=O8 t;clear t)
 have a:Hid (pB w (w.alloc (CE (madeCells #[Value.bool false] n) 4)) n 0 (λ_=>b)):=pB.aM c.o rfl
 clear c
 have⟨q,m⟩:=EX w.heap.size
 rw [m]
 have r:=O8 m
 clear m
 generalize w.alloc (CE (madeCells #[Value.bool false] n) 4)=E at *
 go_loopw [6] (λv wr=>∃i:Nat,v=IV i/\i<=n/\Hid (pB w wr n i (λ_=>b))) (λv _=>n-(intOf v).toNat)
 exact ⟨0,rfl,Pz _,a⟩
 clear a
 obtain ⟨i,rfl,z,d⟩:=hrel
 by_cases l:i<n
 have s:(i:Int)<n:=ZO
 have⟨f,y,D,h⟩:=d.o.set (PF _ wr) l (v:=b) rfl
 rw [r.o]at f y h
 have x:=O8 f
 clear f d
 go_wp2
 go_roundw
 exact ⟨i+1,ZN,ZO,x⟩
 simp [intOf];omega
 obtain rfl:i=n:=ZO
 have j:=d.o.done (PF _ w)
 rw [r.o]at j
 have u:=O8 j
 clear j d
 go_wp2
 go_ret
 exact ⟨_,rfl,u.o⟩
def lQ(w a n c f)(m:dq w a n f)(K:n<=1000000):
 CL 97 #[SL a n c] w λe l=>∃v,e=RT v/\dP w l v n (λk=>!f k):=by
 have⟨H,t,y,x,p⟩:=P6 Scc.Tryz.kM
 have D:Hid (∀l,BW w l->dq l a n f):=λl F=>m.ag F
 clear m
 go_enter func97,ntmps97
 go_upto_region 3 with(at_make;refine bu rfl _ _ 67 rfl 4 H (.bool false) 1 QM t y x _ _ _ _ n rfl rfl rfl rfl (by rw [p];omega) (by unfold maxLen;omega) ?_;rintro N rfl B;have d:=O8 B;clear B)
 have b:Hid (pB w (w.alloc (CE (madeCells #[Value.bool false] n) 4)) n 0 (λk=>!f k)):=pB.aM d.o rfl
 clear d
 have⟨q,u⟩:=EX w.heap.size
 rw [u]
 have z:=O8 u
 clear u
 generalize w.alloc (CE (madeCells #[Value.bool false] n) 4)=M at *
 go_loopw [4] (λv wr=>∃i:Nat,v=IV i/\i<=n/\Hid (pB w wr n i (λk=>!f k))) (λv _=>n-(intOf v).toNat)
 exact ⟨0,rfl,Pz _,b⟩
 clear b
 obtain ⟨i,rfl,G,g⟩:=hrel
 by_cases h:i<n
 have A:(i:Int)<n:=ZO
 obtain ⟨O,P,rfl,j⟩:=D.o wr g.o.aJ
 have I:=j i h
 clear j
 have⟨o,m,L,r⟩:=g.o.set (PF _ wr) h (v:=!f i) rfl
 rw [z.o]at o m r
 have E:=O8 o
 clear o g
 generalize f i=J at *
 go_wp2
 go_roundw
 exact ⟨i+1,ZN,ZO,E⟩
 simp [intOf];omega
 obtain rfl:i=n:=ZO
 have s:=g.o.done (PF _ w)
 rw [z.o]at s
 have C:=O8 s
 clear s g
 go_wp2
 go_ret
 exact ⟨_,rfl,C.o⟩
def zR(o c i q f p)(k:Nat)(w)(z:c<=1000000)(A:f<=1000000)(B:k<=1000000):
 CL 99 #[lX o c i q f p,IV k] w λe g=>e=RT (IV ((if k+1<c+f then k+1 else c:Nat):Int))/\BW w g:=by
 have⟨h,a⟩:=EX (w.alloc (CE #[SL o c i,SL q f p] 25))
 have l:BW w h:=a▸ah _ _
 have d:=aT w #[SL o c i,SL q f p] 25
 rw [a]at d
 have v:=(d 0 _ rfl).1
 have x:=(d 1 _ rfl).1
 have t:Hid (∀g,BW h g->BW w g/\CA g w.heap.size 0 (SL o c i)):=λg j=>⟨af l j,(j.cell (O9 _ _ v)).trans v⟩
 have u:=O8 (CD o c i q f p h ZO ZO)
 clear d l
 by_cases m:k+1<c+f
 ·have n:(k:Int)+1<(c:Int)+(f:Int):=ZO;rw [PW m]
  go_enter func99,ntmps99;go_upto_region 1 with(fail);(try rw [a]);clear a;go_wp2_with (go_at_call 28;apply u.o.mono;rintro e s ⟨rfl,b⟩;have r:=O8 (t.o s b).1;clear b);go_ret;exact ⟨ZN,r.o⟩
 ·have n:¬(k:Int)+1<(c:Int)+(f:Int):=ZO;rw [Qa m]
  go_enter func99,ntmps99;go_upto_region 1 with(fail);(try rw [a]);clear a;go_wp2_with (go_at_call 28;apply u.o.mono;rintro e s ⟨rfl,b⟩;have⟨j,y⟩:=t.o s b;have r:=O8 j;clear b j);go_ret;exact ⟨ZN,r.o⟩
end Go.Proofs.YtimniinkpipnmaaGreatDoor
namespace Go.Own
section
def UA:=@forall_congr'
def FN(A B:Nat->Prop)(k:Nat):Prop:=∃m,B (k+m)/\∀j,j<m->A (k+j)
theorem yi{A B k}:FN A B k↔B k\/(A k/\FN A B (k+1)):=by constructor;rintro ⟨m,d,c⟩;rcases m with _|m;exact .inl d;exact .inr ⟨c 0 (by omega),m,by rw [show k+1+m=k+(m+1) by omega];exact d,λj e=>by rw [show k+1+j=k+(j+1) by omega];exact c (j+1) (by omega)⟩;rintro (h|⟨h,m,d,c⟩);exact ⟨0,h,λj e=>by omega⟩;refine ⟨m+1,by rw [show k+(m+1)=k+1+m by omega];exact d,λj e=>?_⟩;rcases j with _|j;exact h;rw [show k+(j+1)=k+1+j by omega];exact c j (by omega)
def Kp(a b:Nat->Bool)(v:Bool)(n:Nat):Nat->Bool
 |0=>v
 |d+1=>b (n-(d+1))||(a (n-(d+1))&&Kp a b v n d)
def fC(a b:Nat->Bool)(n s:Nat):Nat->Nat->Bool
 |0,_=>false
 |t+1,k=>Kp a b (fC a b n s t s) n (n-k)
section
variable {A B:Nat->Prop} {a b:Nat->Bool} {n s p:Nat}
theorem oq(c:∀i,i<n->(a i=true↔A i))(e:∀i,i<n->(b i=true↔B i)){v}(f:v=true->FN A B n):∀d,d<=n->Kp a b v n d=true->FN A B (n-d)
 |0,_,h=>f h
 |d+1,j,h=>by unfold Kp at h;rw [QP,RO,c _ (by omega),e _ (by omega)]at h;rcases h with h|⟨h,g⟩;exact yi.2 (.inl h);refine yi.2 (.inr ⟨h,?_⟩);rw [show n-(d+1)+1=n-d by omega];exact oq c e f d (by omega) g
theorem rB(e:∀i,i<n->(a i=true↔A i))(f:∀i,i<n->(b i=true↔B i)){v}(g:FN A B n->v=true):∀d,d<=n->FN A B (n-d)->Kp a b v n d=true
 |0,_,h=>g h
 |d+1,j,h=>by unfold Kp;rw [QP,RO,e _ (by omega),f _ (by omega)];rcases yi.1 h with h|⟨h,c⟩;exact .inl h;rw [show n-(d+1)+1=n-d by omega]at c;exact .inr ⟨h,rB e f g d (by omega) c⟩
theorem zZ(e:∀i,i<n->(a i=true↔A i))(f:∀i,i<n->(b i=true↔B i)){v}:∀d m,d<=n->m<d->B (n-d+m)->(∀j,j<m->A (n-d+j))->Kp a b v n d=true
 |0,m,_,g,_,_=>by omega
 |d+1,m,k,g,h,c=>by unfold Kp;rw [QP,RO,e _ (by omega),f _ (by omega)];rcases m with _|m;exact .inl h;refine .inr ⟨c 0 (by omega),zZ e f d m (by omega) (by omega) (by rw [show n-d+m=n-(d+1)+(m+1) by omega];exact h) λj l=>?_⟩;rw [show n-d+j=n-(d+1)+(j+1) by omega];exact c (j+1) (by omega)
theorem Ia(d:∀i,s<=i->(A (i+p)↔A i))(e:∀i,s<=i->(B (i+p)↔B i)):FN A B (s+p)↔FN A B s:=by constructor;rintro ⟨m,h,g⟩;exact ⟨m,by rw [<-e _ (by omega),show s+m+p=s+p+m by omega];exact h,λj c=>by rw [<-d _ (by omega),show s+j+p=s+p+j by omega];exact g j c⟩;rintro ⟨m,h,g⟩;exact ⟨m,by rw [show s+p+m=s+m+p by omega,e _ (by omega)];exact h,λj c=>by rw [show s+p+j=s+j+p by omega,d _ (by omega)];exact g j c⟩
theorem zY(q:0<p)(o:n=s+p)(f:∀i,i<n->(a i=true↔A i))(g:∀i,i<n->(b i=true↔B i))(l:∀i,s<=i->(A (i+p)↔A i))(e:∀i,s<=i->(B (i+p)↔B i)){v}:∀N m,m<N->B (s+m)->(∀j,j<m->A (s+j))->Kp a b v n (n-s)=true
 |0,m,h,_,_=>by omega
 |N+1,m,h,c,d=>by by_cases r:m<p;refine zZ f g (n-s) m (by omega) (by omega) ?_ ?_;rw [show n-(n-s)+m=s+m by omega];exact c;intro j k;rw [show n-(n-s)+j=s+j by omega];exact d j k;refine zY q o f g l e N (m-p) (by omega) ?_ λj k=>?_;rw [<-e _ (by omega),show s+(m-p)+p=s+m by omega];exact c;exact d j (by omega)
theorem qw(u:0<p)(t:n=s+p)(c:∀i,i<n->(a i=true↔A i))(d:∀i,i<n->(b i=true↔B i))(q:∀i,s<=i->(A (i+p)↔A i))(r:∀i,s<=i->(B (i+p)↔B i)){k}(j:k<n):fC a b n s 3 k=true↔FN A B k:=by
 have f:FN A B n↔FN A B s:=by rw [t];exact Ia q r
 have e:∀k,k<n->n-(n-k)=k:=λk j=>by omega
 have l:fC a b n s 1 s=true↔FN A B s:=by constructor;intro h;have:=oq c d (v:=false) (λh=>by cases h) (n-s) (by omega) h;rwa [e s (by omega)]at this;rintro ⟨m,h,g⟩;exact zY u t c d q r (m+1) m (by omega) h g
 have o:fC a b n s 2 s=true↔FN A B s:=by constructor;intro h;have:=oq c d (λh=>f.2 (l.1 h)) (n-s) (by omega) h;rwa [e s (by omega)]at this;intro h;exact rB c d (λh=>l.2 (f.1 h)) (n-s) (by omega) (by rwa [e s (by omega)])
 constructor;intro h;have:=oq c d (λh=>f.2 (o.1 h)) (n-k) (by omega) h;rwa [e k j]at this;intro h;exact rB c d (λh=>o.2 (f.1 h)) (n-k) (by omega) (by rwa [e k j])
end
theorem Hg{u}:∀(f){i j},(∀k,u (i+k)=u (j+k))->(Fm.cR u f i↔Fm.cR u f j):=by
 intro f;induction f with
 |tt=>intro i j _;exact RE
 |ff=>intro i j _;exact RE
 |prop n=>intro i j h;show(u i).testBit n=true↔(u j).testBit n=true;have:=h 0;rw [US,US]at this;rw [this]
 |neg a e=>intro i j h;exact T8 (e h)
 |and a b c d=>intro i j h;exact U5 (c h) (d h)
 |or a b c d=>intro i j h;exact or_congr (c h) (d h)
 |imp a b c d=>intro i j h;exact imp_congr (c h) (d h)
 |cy a e=>intro i j h;exact e λk=>by rw [QH,QH];exact h _
 |dA a b c d=>intro i j h;exact exists_congr λk=>U5 (d λm=>by rw [QH,QH];exact h _) (UA λg=>imp_congr_right λ_=>c λm=>by rw [QH,QH];exact h _)
 |rel a b c d=>intro i j h;exact UA λk=>imp_congr (UA λg=>imp_congr_right λ_=>T8 (c λm=>by rw [QH,QH];exact h _)) (d λm=>by rw [QH,QH];exact h _)
 |fin a e=>intro i j h;exact exists_congr λk=>e λm=>by rw [QH,QH];exact h _
 |ec a e=>intro i j h;exact UA λk=>e λm=>by rw [QH,QH];exact h _
theorem AS{st lp i}(h:st.length<=i):aU st lp (i+lp.length)=aU st lp i:=by unfold aU;rw [QN (by omega),QN (by omega),show i+lp.length-st.length=i-st.length+lp.length by omega,Nat.add_mod_right]
theorem rj{st lp}(f){i}(h:st.length<=i):Fm.cR (aU st lp) f (i+lp.length)↔Fm.cR (aU st lp) f i:=
 Hg f λk=>by rw [show i+lp.length+k=i+k+lp.length by omega];exact AS (by omega)
def EK(c:Int)(n s:Nat)(a b:Nat->Bool)(k:Nat):Bool:=
 if c=5 then a k&&b k else if c=6 then a k||b k else if c=7 then !a k||b k else if c=9 then fC a b n s 3 k else !fC (λi=>!a i) (λi=>!b i) n s 3 k
def LC(c:Int)(n s:Nat)(a:Nat->Bool)(k:Nat):Bool:=
 if c=4 then !a k else if c=8 then a (if k+1<n then k+1 else s)else if c=11 then fC (λ_=>true) a n s 3 k else !fC (λ_=>true) (λi=>!a i) n s 3 k
section
variable {st lp:List Nat}
theorem LF(o:0<lp.length){a f}(h:Fm.One a f){r}(d:∀k,k<st.length+lp.length->(r k=true↔Fm.cR (aU st lp) a k)){k}(l:k<st.length+lp.length):
 LC (Fm.aH f).1 (st.length+lp.length) st.length r k=true↔Fm.cR (aU st lp) f k:=by
 have j:∀i,st.length<=i->(Fm.cR (aU st lp) a (i+lp.length)↔Fm.cR (aU st lp) a i):=λi c=>rj a c
 cases h with
 |neg=>
  show(!r k)=true↔¬Fm.cR (aU st lp) a k
  rw [<-d k l];cases r k<;>simp
 |cy=>
  show r (if k+1<st.length+lp.length then k+1 else st.length)=true↔Fm.cR (aU st lp) a (k+1)
  by_cases e:k+1<st.length+lp.length
  rw [QZ e];exact d _ e
  rw [QN e,d _ (by omega),show k+1=st.length+lp.length by omega]
  exact (j _ (Rt _)).symm
 |fin=>
  show fC (λ_=>true) r _ _ 3 k=true↔∃m,Fm.cR (aU st lp) a (k+m)
  rw [qw (A:=λ_=>True) (B:=Fm.cR (aU st lp) a) o rfl (λi _=>by simp) d (λi _=>RE) j l]
  exact ⟨λ⟨m,h,_⟩=>⟨m,h⟩,λ⟨m,h⟩=>⟨m,h,λ_ _=>RN⟩⟩
 |ec=>
  show(!fC (λ_=>true) (λi=>!r i) _ _ 3 k)=true↔∀m,Fm.cR (aU st lp) a (k+m)
  have q:=qw (A:=λ_=>True) (B:=λi=>¬Fm.cR (aU st lp) a i) (a:=λ_=>true) (b:=λi=>!r i) o rfl (λi _=>by simp) (λi c=>by rw [<-d i c];cases r i<;>simp) (λi _=>RE) (λi c=>T8 (j i c)) l
  rw [RD,<-Bool.not_eq_true,q]
  constructor
  intro h m
  exact QB λg=>h ⟨m,g,λ_ _=>RN⟩
  rintro h ⟨m,g,_⟩
  exact g (h m)
theorem L6(v:0<lp.length){a b f}(h:Fm.gj a b f){r t}(e:∀k,k<st.length+lp.length->(r k=true↔Fm.cR (aU st lp) a k))(l:∀k,k<st.length+lp.length->(t k=true↔Fm.cR (aU st lp) b k)){k}(d:k<st.length+lp.length):
 EK (Fm.aH f).1 (st.length+lp.length) st.length r t k=true↔Fm.cR (aU st lp) f k:=by
 have q:∀i,st.length<=i->(Fm.cR (aU st lp) a (i+lp.length)↔Fm.cR (aU st lp) a i):=λi c=>rj a c
 have u:∀i,st.length<=i->(Fm.cR (aU st lp) b (i+lp.length)↔Fm.cR (aU st lp) b i):=λi c=>rj b c
 cases h with
 |and=>show(r k&&t k)=true↔_/\_;rw [RO,e k d,l k d]
 |or=>show(r k||t k)=true↔_\/_;rw [QP,e k d,l k d]
 |imp=>
  show(!r k||t k)=true↔(Fm.cR (aU st lp) a k->Fm.cR (aU st lp) b k)
  rw [<-e k d,<-l k d];cases r k<;>cases t k<;>simp
 |dA=>
  show fC r t _ _ 3 k=true↔∃m,Fm.cR (aU st lp) b (k+m)/\∀j,j<m->Fm.cR (aU st lp) a (k+j)
  exact qw (A:=Fm.cR (aU st lp) a) (B:=Fm.cR (aU st lp) b) v rfl e l q u d
 |rel=>
  show(!fC (λi=>!r i) (λi=>!t i) _ _ 3 k)=true↔∀m,(∀j,j<m->¬Fm.cR (aU st lp) a (k+j))->Fm.cR (aU st lp) b (k+m)
  have w:=qw (A:=λi=>¬Fm.cR (aU st lp) a i) (B:=λi=>¬Fm.cR (aU st lp) b i) (a:=λi=>!r i) (b:=λi=>!t i) v rfl (λi c=>by rw [<-e i c];cases r i<;>simp) (λi c=>by rw [<-l i c];cases t i<;>simp) (λi c=>T8 (q i c)) (λi c=>T8 (u i c)) d
  rw [RD,<-Bool.not_eq_true,w]
  constructor
  intro h m g
  exact QB λo=>h ⟨m,o,g⟩
  rintro h ⟨m,o,g⟩
  exact o (h m g)
end
end
end Go.Own
namespace Go.Proofs.YtimniinkpipnmaaGreatDoor
open Go.RowKit Go.Own Go.Proofs.Tryz
structure uH (a wr:WD) (g N:Nat) (f:Nat->Bool):Prop where
 aJ:BW a wr
 dJ:a.heap.size<=g
 row:Sl wr 4 (SV g N N) N (bB N f)
def uH.ag{b wr c g N f}(h:uH b wr g N f)(a:BW wr c):uH b c g N f:=
 ⟨h.aJ.trans (a.mono h.aJ.size),h.dJ,h.row.ax (aj.aC a) (λg e s=>ZH (h.row.lt g e))⟩
def uH.congr{b wr g N f a}(h:uH b wr g N f)(c:∀k,k<N->f k=a k):uH b wr g N a:=⟨h.aJ,h.dJ,by rw [<-fR (f:=f) (g:=a) (λj d=>c j d)];exact h.row⟩
def uH.set{d wr a g N f}(h:uH d wr g N f)(n:BW wr a){i}(o:i<N)(v):uH d (a.setCell (AD g i) (.bool v)) g N (up f i v)/\FZ a g i/\CA a g i (.bool (f i)):=by have b:=h.ag n;have⟨j,l,m⟩:=mD b.row o v;have c:aj (λk=>k=g) a (a.setCell (AD g i) (.bool v)):=(aj.refl (λk=>k=g) a).setCell (p:=(AD g i)) (λ_=>rfl) _;have:=h.dJ;exact ⟨⟨b.aJ.trans (c.ag b.aJ.size λk c e=>ZO),h.dJ,j⟩,m,l⟩
def uH.at{d wr a g N f}(h:uH d wr g N f)(b:BW wr a){i}(c:i<N):CA a g i (.bool (f i)):=(h.set b c false).2.2
def uH.done{w b wr g N f}(h:uH b wr g N f)(a:BW w b):dP w wr (SV g N N) N f:=⟨g,rfl,h.row,af a h.aJ,ZI a.size h.dJ⟩
def uC(n s k:Nat):Nat:=if k+1<n then k+1 else s
def nH(a b:Nat->Bool)(n s i j:Nat)(x:Nat):Bool:=if j<=x then fC a b n s (i+1) x else fC a b n s i x
def H7(a b){n s i k}(c:k<n)(d:s<n):fC a b n s (i+1) k=(b k||(a k&&nH a b n s i (k+1) (uC n s k))):=by have e:n-k=(n-(k+1))+1:=ZO;show Kp a b (fC a b n s i s) n (n-k)=_;rw [e];unfold Kp;rw [show n-(n-(k+1)+1)=k by omega];congr 2;unfold nH uC;by_cases h:k+1<n;rw [PW h,PW (Pf _)];rfl;rw [Qa h,Qa ZO,show n-(k+1)=0 by omega];rfl
def M9(a b){n s i k}(x):up (nH a b n s i (k+1)) k (fC a b n s (i+1) k) x=nH a b n s i k x:=by by_cases e:x=k;subst e;rw [aA];unfold nH;rw [PW (Pf _)];rw [an _ _ _ _ e];unfold nH;by_cases h:k<=x;rw [PW h,PW ZO];rw [Qa h,Qa ZO]
def Lv(a b){n s i x}(c:x<n):fC a b n s i x=nH a b n s i n x:=by unfold nH;rw [Qa ZO]
def JC(a b){n s i}(x):nH a b n s i 0 x=fC a b n s (i+1) x:=by unfold nH;rw [PW (Pz _)]
def n9(w M c J L z I aa n ac a ba bc b)(ha:dq w aa n a)(hb:dq w ba n b)(hn:n=c+z)(h0:0<z)(hl:n<=100000):
 CL 98 #[lX M c J L z I,SL aa n ac,SL ba n bc] w λe s=>∃v,e=RT v/\dP w s v n (fC a b n c 3):=by
 have⟨i4,an,au,aq,am⟩:=P6 Scc.Tryz.kM
 have⟨q,hq⟩:=EX w.heap.size
 have⟨o,u⟩:=EX (w.alloc (CE #[SL M c J,SL L z I] 25))
 have E:BW w o:=u▸ah _ _
 have s1:o.heap.size=q+1:=ZW u hq
 have D:=aT w #[SL M c J,SL L z I] 25
 rw [u,hq]at D
 have c0:=(D 0 _ rfl).1
 have c1:=(D 1 _ rfl).1
 have ae:Hid (∀s:WD,BW o s->CA s q 0 (SL M c J)/\CA s q 1 (SL L z I)):=λs h=>⟨(h.cell (O9 _ _ c0)).trans c0,(h.cell (O9 _ _ c1)).trans c1⟩
 have HA:Hid (∀s,BW o s->dq s aa n a):=λs h=>ha.ag (af E h)
 have ad:Hid (∀s,BW o s->dq s ba n b):=λs h=>hb.ag (af E h)
 have Z:=O8 E
 have H:=O8 s1
 have ag:=O8 hn
 have m:n<=c+z:=ZO
 have aE:c+z<=n:=ZO
 clear ha hb E s1 D c0 c1 hn
 go_enter func98,ntmps98
 go_upto_region 3 with(at_make;refine bu rfl _ _ 67 rfl 4 i4 (.bool false) 1 QM an au aq _ _ _ _ n rfl rfl rfl rfl (by rw [am];omega) (by unfold maxLen;omega) ?_;rintro w3 rfl hs;have Q:=O8 hs;clear hs)
 have G:=pB.aM (r:=λ_=>false) Q.o rfl
 have P:Hid (uH o (o.alloc (CE (madeCells #[Value.bool false] n) 4)) (q+1) n (fC a b n c 0)):=by(try rw [u]at G);refine (uH.congr (f:=λx=>decide (x<0)&&false) ⟨G.aJ,Q2 H.o,?_⟩ λk _=>by rw [Sp];rfl);rw [<-H.o];exact G.row
 (try rw [u])
 rw [H.o]
 clear Q u hq G
 generalize o.alloc (CE (madeCells #[Value.bool false] n) 4)=w2 at *
 go_loopw [8,9] (λt k wr=>∃i:Nat,t=IV i/\i<=3/\Hid (uH o wr (q+1) n (fC a b n c i))) (λt _ _=>3-(intOf t).toNat)
 exact ⟨0,rfl,Pz _,P⟩
 clear P
 obtain ⟨i,rfl,aA,W⟩:=hrel
 obtain ⟨wo,rfl⟩:∃wo:WD,wo=wr:=⟨_,rfl⟩
 by_cases aD:i<3
 ·have aw:(i:Int)<3:=ZO;have S:Hid (uH o wo (q+1) n (nH a b n c i n)):=W.o.congr λk hk=>Lv a b hk
  have ay:=O8 W.o.aJ;clear W;go_upto_region 6 with(fail);go_loopw [9] (λv wr=>∃j:Nat,v=IV ((j:Int)-1)/\j<=n/\Hid (uH o wr (q+1) n (nH a b n c i j))) (λv _=>(intOf v+1).toNat);exact ⟨n,ZN,Pf _,S⟩;clear S;obtain ⟨j,rfl,aB,A⟩:=hrel;obtain _|k:=j
  ·have ax:¬(0:Int)<=((0:Nat):Int)-1:=ZO;have HE:Hid (uH o wr (q+1) n (fC a b n c (i+1))):=A.o.congr λk _=>JC a b k
   clear A;go_wp2;go_roundw;exact ⟨i+1,ZN,ZO,HE⟩;simp [intOf];omega
  ·have ek:(((k+1:Nat):Int))-1=(k:Int):=ZO;rw [ek]
   clear ek;have F:k<n:=ZO;have aC:(0:Int)<=k:=ZO;have av:(k:Int)<n:=ZO;obtain ⟨ab,ao,rfl,T⟩:=HA.o wr A.o.aJ;obtain ⟨bb,bo,rfl,U⟩:=ad.o wr A.o.aJ;have Y:=T k F;have cb:=U k F;have d:=H7 a b (i:=i) F (show c<n by omega);have l:Hid (∀p,BW wr p->uH o (p.setCell (AD (q+1) k) (.bool (fC a b n c (i+1) k))) (q+1) n (nH a b n c i k)/\FZ p (q+1) k/\CA p (q+1) k (.bool (nH a b n c i (k+1) k))):=λp ar=>by have⟨h1,h2,h3⟩:=A.o.set ar F (fC a b n c (i+1) k);exact ⟨h1.congr λx _=>M9 a b x,h2,h3⟩
   have⟨ak,al⟩:=ae.o wr A.o.aJ;clear T U;cases y:b k
   ·rw [y]at cb d;cases C:a k
    ·rw [C]at Y d;rw [QX,TT]at d
     rw [d]at l;have⟨m,hf,V⟩:=l.o wr (PF _ wr);have R:=O8 m;clear m l d y C A;go_wp2;go_roundw;exact ⟨k,ZN,ZO,R⟩;simp [intOf]
    ·rw [C]at Y d;rw [Qu,Tu]at d
     rw [d]at l;have ap:uC n c k<n:=by unfold uC;split<;>omega
     have ai:Hid (CL 99 #[.agg #[SL M c J,SL L z I],IV k] wr λe s=>e=RT (IV ((uC n c k:Nat):Int))/\BW wr s):=by have h:=zR M c J L z I k wr ZO ZO ZO;rw [<-ag.o]at h;exact h
     have O:Hid (∀p,BW wr p->CA p (q+1) (uC n c k) (.bool (nH a b n c i (k+1) (uC n c k)))):=λp h=>A.o.at h ap;have cx:=O.o wr (PF _ wr);have N:=And.intro cb (And.intro Y (And.intro ak (And.intro al cx)));have aj:Hid (∀p,BW wr p->CA p bb (bo+k) (.bool false)/\CA p ab (ao+k) (.bool true)/\CA p q 0 (SL M c J)/\CA p q 1 (SL L z I)/\CA p (q+1) (uC n c k) (.bool (nH a b n c i (k+1) (uC n c k)))):=λp h=>
      have X:∀{g j:Nat}{v:Value},CA wr g j v->CA p g j v:=λh'=>(h.cell (O9 wr _ h')).trans h'
      ⟨X N.1,X N.2.1,X N.2.2.1,X N.2.2.2.1,X N.2.2.2.2⟩
     have aF:((uC n c k:Nat):Int)<(n:Int):=ZO;generalize nH a b n c i (k+1) (uC n c k)=B at *;generalize uC n c k=nx at *;clear d y C A O;clear N;go_wp2_with (go_at_call 99;apply ai.o.mono;rintro e w5 ⟨rfl,K⟩;have⟨d0,d1,d2,d3,az⟩:=aj.o w5 K;have⟨m,hf,V⟩:=l.o w5 K;have R:=O8 m;clear m K d0 d1 d2 d3);go_roundw;exact ⟨k,ZN,ZO,R⟩;simp [intOf]
   ·rw [y]at cb d;rw [UO]at d
    rw [d]at l;have⟨m,hf,V⟩:=l.o wr (PF _ wr);have R:=O8 m;clear m l d y A Y;go_wp2;go_roundw;exact ⟨k,ZN,ZO,R⟩;simp [intOf]
 ·obtain rfl:i=3:=ZO;have HD:=O8 (W.o.done Z.o)
  clear W;go_wp2;go_ret;exact ⟨_,rfl,HD.o⟩
def dP.from{w c d v n r}(a:BW w c)(h:dP c d v n r):dP w d v n r:=by obtain ⟨b,e,f,g,i⟩:=h;exact ⟨b,e,f,af a g,PG a.size i⟩
def vL{w b n r}(h:Sl w 4 (SV b n n) n (bB n r)):dq w (some (AD b 0)) n r:=
 ⟨b,0,rfl,λi a=>by rw [PU,Qj (size:=1) h i ZO];exact eQ n r i a⟩
def RB(n:Nat)(r:Nat->Bool)(v:Value)(w:WD):Prop:=∃b,v=SV b n n/\dq w (some (AD b 0)) n r
def RB.ag{n r v w w'}(h:RB n r v w)(a:BW w w'):RB n r v w':=by obtain ⟨b,e,h⟩:=h;exact ⟨b,e,h.ag a⟩
def dP.rb{w a v n r}(h:dP w a v n r):RB n r v a:=by obtain ⟨b,e,c,-,-⟩:=h;subst e;exact ⟨b,rfl,vL c⟩
def dP.aJ{w a v n r}(h:dP w a v n r):BW w a:=by obtain ⟨b,-,-,h,-⟩:=h;exact h
def dP.congr{w c v n r a}(h:dP w c v n r)(i:∀k,k<n->r k=a k):dP w c v n a:=by obtain ⟨b,e,d,f,g⟩:=h;exact ⟨b,e,by rw [<-fR i];exact d,f,g⟩
def J3(w E d C D s A R n ac a)(ha:dq w R n a)(X)(au:X=4\/X=8\/X=11\/X=12)(hn:n=d+s)(h0:0<s)(hl:n<=100000):
 CL 68 #[IV X,lX E d C D s A,SL R n ac] w λe j=>∃v,e=RT v/\dP w j v n (LC X n d a):=by
 have⟨i4,ap,ax,av,an⟩:=P6 Scc.Tryz.kM
 have⟨q,O⟩:=EX w.heap.size
 have⟨c,m⟩:=EX (w.alloc (CE #[SL E d C,SL D s A] 25))
 have T:BW w c:=m▸ah _ _
 have J:=aT w #[SL E d C,SL D s A] 25
 rw [m,O]at J
 have c0:=(J 0 _ rfl).1
 have c1:=(J 1 _ rfl).1
 have H:Hid (∀j:WD,BW c j->CA j q 0 (SL E d C)/\CA j q 1 (SL D s A)):=λj h=>⟨(h.cell (O9 _ _ c0)).trans c0,(h.cell (O9 _ _ c1)).trans c1⟩
 have HA:Hid (∀j,BW c j->dq j R n a):=λj h=>ha.ag (af T h)
 have z:Hid (∀I,Below c.drew.heap.size c.drew I->CA I q 0 (SL E d C)/\CA I q 1 (SL D s A)):=λj hb=>H.o j ((PF _ c).drew.trans hb)
 have G:=O8 T
 have P:=O8 hn
 have W:n<=d+s:=ZO
 have aH:d+s<=n:=ZO
 clear ha T J c0 c1 hn
 obtain rfl|rfl|rfl|rfl:=au
 ·have HN:Hid (CL 97 #[SL R n ac] c λe j=>∃v,e=RT v/\dP c j v n (λk=>!a k)):=lQ c R n ac a (HA.o c (PF _ _)) ZO;go_enter func68,ntmps68
  go_upto_region 1 with(fail);(try rw [m]);clear m O;go_wp2_with (go_at_call 97;apply HN.o.mono;rintro e w2 ⟨v2,rfl,N⟩;have HM:=O8 N;clear N);go_ret;exact ⟨_,rfl,(dP.from G.o HM.o).congr λk _=>rfl⟩
 ·have Q:Hid (c.heap.size=q+1):=by rw [<-m,P3,O];exact O8 rfl
  go_enter func68,ntmps68;go_upto_region 1 with(fail);(try rw [m]);clear m O;go_upto_region 9 with(at_make;refine bu rfl _ _ 67 rfl 4 i4 (.bool false) 1 QM ap ax av _ _ _ _ n rfl rfl rfl rfl (by rw [an];omega) (by unfold maxLen;omega) ?_;rintro w3 rfl hs;have ad:=O8 hs;clear hs);have Z:Hid (pB c (c.alloc (CE (madeCells #[Value.bool false] n) 4)) n 0 (λk=>a (uC n d k))):=pB.aM ad.o rfl;rw [Q.o];clear ad;generalize c.alloc (CE (madeCells #[Value.bool false] n) 4)=w2 at *;go_loopw [8] (λv wr=>∃i:Nat,v=IV i/\i<=n/\Hid (pB c wr n i (λk=>a (uC n d k)))) (λv _=>n-(intOf v).toNat);exact ⟨0,rfl,Pz _,Z⟩;clear Z;obtain ⟨i,rfl,aF,M⟩:=hrel;by_cases aq:i<n
  ·have ay:(i:Int)<n:=ZO;have ar:uC n d i<n:=by unfold uC;split<;>omega
   have am:Hid (CL 99 #[.agg #[SL E d C,SL D s A],IV i] wr λe j=>e=RT (IV ((uC n d i:Nat):Int))/\BW wr j):=by have h:=zR E d C D s A i wr ZO ZO ZO;rw [<-P.o]at h;exact h
   obtain ⟨ab,ao,rfl,ag⟩:=HA.o wr M.o.aJ;have ca:=ag _ ar;have⟨aA,aC⟩:=H.o wr M.o.aJ;have ae:Hid (∀Y,BW wr Y->(pB c (Y.setCell (AD (q+1) i) (.bool (a (uC n d i)))) n (i+1) (λk=>a (uC n d k))/\FZ Y (q+1) i/\∃v0,CA Y (q+1) i v0)/\CA Y ab (ao+uC n d i) (.bool (a (uC n d i)))):=λY al=>by have h:=M.o.set al aq (v:=a (uC n d i)) rfl;rw [Q.o]at h;exact ⟨h,(al.cell (O9 _ _ ca)).trans ca⟩
   have aI:((uC n d i:Nat):Int)<(n:Int):=ZO;clear ag ca M;generalize a (uC n d i)=B at *;generalize uC n d i=nx at *;go_wp2_with (go_at_call 99;apply am.o.mono;rintro e F ⟨rfl,t⟩;have⟨⟨W,hf,v0,aD⟩,cx⟩:=ae.o F t;have HN:=O8 W;clear W t);go_roundw;exact ⟨i+1,ZN,ZO,HN⟩;simp [intOf];omega
  ·obtain rfl:i=n:=ZO;have hd:=M.o.done G.o
   rw [Q.o]at hd;have HD:=O8 hd;clear hd M;go_wp2;go_ret;exact ⟨_,rfl,HD.o.congr λk _=>rfl⟩
 ·go_enter func68,ntmps68;go_upto_region 1 with(fail)
  (try rw [m]);(try rw [O]);clear m O;have⟨e0,e1⟩:=H.o c (PF _ _);go_upto_region 4 with(fail);refine aw 6 (S:=λI=>CA I q 0 (SL E d C)/\CA I q 1 (SL D s A)) ZK (⟨e0,e1⟩) (λr=>?_);refine aB 0 ?_;refine aB 1 ?_;refine aB 2 ?_;refine aB 4 ?_;clear r e0 e1;have L:BW c c.drew:=(PF _ c).drew;refine aK 3 λK g=>?_;rw [PW (by rfl)];apply aY.o;refine aO (f:=96) (wU c.drew n true ZO) ?_ (λe F b=>?_)
  ·clear g;go_simp
  obtain ⟨v5,rfl,y⟩:=b;refine ⟨_,rfl,?_⟩;obtain ⟨b5,rfl,aj⟩:=y.rb;have t:BW c F:=L.trans y.aJ;refine g.o _ _ (λ_=>z.o F y.aJ) ?_;clear g K;try walk_nrm
  refine aK 5 λK g=>?_;rw [PW (by rfl)];apply aY.o;refine aO (f:=98) (n9 F E d C D s A (some (AD b5 0)) n n (λ_=>true) R ac a aj (HA.o F t) P.o h0 hl) ?_ (λe w6 b=>?_)
  ·clear g;go_simp
  obtain ⟨v6,rfl,p⟩:=b;refine ⟨_,rfl,?_⟩;refine g.o _ _ (λ_=>z.o w6 (y.aJ.trans (p.aJ.mono y.aJ.size))) ?_;clear g K;try walk_nrm
  refine aK 6 λK g=>?_;go_simp;refine g.q ?_;clear g K;refine az ZK ?_;have HM:=O8 (dP.from (af G.o t) p);clear y p aj t;go_wp2;go_ret;exact ⟨_,rfl,HM.o.congr λk _=>rfl⟩
 ·go_enter func68,ntmps68;go_upto_region 1 with(fail)
  (try rw [m]);(try rw [O]);clear m O;have⟨e0,e1⟩:=H.o c (PF _ _);go_upto_region 6 with(fail);refine aw 8 (S:=λI=>CA I q 0 (SL E d C)/\CA I q 1 (SL D s A)) ZK (⟨e0,e1⟩) (λr=>?_);refine aB 0 ?_;refine aB 1 ?_;refine aB 2 ?_;refine aB 4 ?_;clear r e0 e1;have L:BW c c.drew:=(PF _ c).drew;refine bY [3,5] (λi=>if i=3 then 26 else 28) #[true,true,true,true,true,true,false,false,false] 3 (λi u j=>match i with|3=>RB n (λ_=>true) u j|_=>RB n (λk=>!a k) u j) ZK ZK rfl ZD ?st1m ?st2m ZD ?st3m ?st4m;case st1m=>intro i u w4 F hu hb;split at hu;all_goals exact RB.ag hu hb
  case st2m=>exact z.o
  case st3m=>
   rintro l V j i o aG aE M ho hr hJ K g;simp only [PO,QL,Sh]at M;obtain rfl|rfl:=M
   ·simp only [PA,Pt,Pu,PJ]at ho;subst ho
    refine aO (f:=96) (wU j n true ZO) ?_ (λe F b=>?_)
    ·clear g;refine ZY ?_
     go_simp
    ·obtain ⟨v,rfl,N⟩:=b;exact ⟨v,rfl,g v F N.aJ N.rb⟩
   ·simp only [PA,Pt,Pu,PJ]at ho;subst ho
    refine aO (f:=97) (lQ j R n ac a (HA.o j (L.trans hJ.aJ)) ZO) ?_ (λe F b=>?_)
    ·clear g;refine ZY ?_
     go_simp
    ·obtain ⟨v,rfl,N⟩:=b;exact ⟨v,rfl,g v F N.aJ N.rb⟩
  case st4m=>
   intro V j x hV;refine ZY ?_;have⟨g1,x1,r1⟩:=hV 3 ZD;have⟨g2,x2,r2⟩:=hV 5 ZD;change V 26=_ at x1;change V 28=_ at x2;rw [x1,x2];clear x1 x2 hV;have ai:BW c j:=L.trans x;refine aK 6 λK g=>?_;rw [PW (by rfl)];apply aY.o;refine aO (f:=98) (n9 j E d C D s A (some (AD g1 0)) n n (λ_=>true) (some (AD g2 0)) n (λk=>!a k) r1 r2 P.o h0 hl) ?_ (λe w6 b=>?_)
   ·clear g;go_simp
   obtain ⟨v6,rfl,p⟩:=b;refine ⟨_,rfl,?_⟩;obtain ⟨b6,rfl,ak⟩:=p.rb;refine g.o _ _ (λ_=>z.o w6 (x.trans (p.aJ.mono x.size))) ?_;clear g K;try walk_nrm
   refine aK 7 λK g=>?_;rw [PW (by rfl)];apply aY.o;refine aO (f:=97) (lQ w6 (some (AD b6 0)) n n _ ak ZO) ?_ (λe w7 b=>?_)
   ·clear g;go_simp
   obtain ⟨v7,rfl,U⟩:=b;refine ⟨_,rfl,?_⟩;refine g.o _ _ (λ_=>z.o w7 ((x.trans (p.aJ.mono x.size)).trans (U.aJ.mono (PG x.size p.aJ.size)))) ?_;clear g K;try walk_nrm
   refine aK 8 λK g=>?_;go_simp;refine g.q ?_;clear g K;refine az ZK ?_;have HM:=O8 (dP.from (af (af G.o ai) p.aJ) U);clear p U ak ai r1 r2;go_wp2;go_ret;exact ⟨_,rfl,HM.o.congr λk _=>rfl⟩
def J6(w Q B M P E L aa n ac a)(ha:dq w aa n a)(ba bc b)(hb:dq w ba n b)(op)(au:op=5\/op=6\/op=7\/op=9\/op=10)(hn:n=B+E)(h0:0<E)(hl:n<=100000):
 CL 69 #[IV op,lX Q B M P E L,SL aa n ac,SL ba n bc] w λe j=>∃v,e=RT v/\dP w j v n (EK op n B a b):=by
 have⟨i4,aj,am,al,ag⟩:=P6 Scc.Tryz.kM
 have⟨q,J⟩:=EX w.heap.size
 have⟨c,g⟩:=EX (w.alloc (CE #[SL Q B M,SL P E L] 25))
 have O:BW w c:=g▸ah _ _
 have N:=aT w #[SL Q B M,SL P E L] 25
 rw [g,J]at N
 have c0:=(N 0 _ rfl).1
 have c1:=(N 1 _ rfl).1
 have W:Hid (∀j:WD,BW c j->CA j q 0 (SL Q B M)/\CA j q 1 (SL P E L)):=λj h=>⟨(h.cell (O9 _ _ c0)).trans c0,(h.cell (O9 _ _ c1)).trans c1⟩
 have HA:Hid (∀j,BW c j->dq j aa n a):=λj h=>ha.ag (af O h)
 have G:Hid (∀j,BW c j->dq j ba n b):=λj h=>hb.ag (af O h)
 have ad:Hid (∀W',Below c.drew.heap.size c.drew W'->CA W' q 0 (SL Q B M)/\CA W' q 1 (SL P E L)):=λj hb=>W.o j ((PF _ c).drew.trans hb)
 have F:=O8 O
 have an:=O8 hn
 have m:n<=B+E:=ZO
 have ay:B+E<=n:=ZO
 clear ha hb O N c0 c1 hn
 obtain rfl|rfl|rfl|rfl|rfl:=au
 ·have p:Hid (c.heap.size=q+1):=by rw [<-g,P3,J];exact O8 rfl
  go_enter func69,ntmps69;go_upto_region 1 with(fail);(try rw [g]);clear g J;go_upto_region 7 with(at_make;refine bu rfl _ _ 67 rfl 4 i4 (.bool false) 1 QM aj am al _ _ _ _ n rfl rfl rfl rfl (by rw [ag];omega) (by unfold maxLen;omega) ?_;rintro w3 rfl U;have x:=O8 U;clear U);have t:Hid (pB c (c.alloc (CE (madeCells #[Value.bool false] n) 4)) n 0 (λk=>a k&&b k)):=pB.aM x.o rfl;rw [p.o];clear x;generalize c.alloc (CE (madeCells #[Value.bool false] n) 4)=w2 at *;go_loopw [10] (λv wr=>∃i:Nat,v=IV i/\i<=n/\Hid (pB c wr n i (λk=>a k&&b k))) (λv _=>n-(intOf v).toNat);exact ⟨0,rfl,Pz _,t⟩;clear t;obtain ⟨i,rfl,aq,r⟩:=hrel;by_cases s:i<n
  ·have R:(i:Int)<n:=ZO;obtain ⟨ab,ao,rfl,y⟩:=HA.o wr r.o.aJ
   obtain ⟨bb,bo,rfl,z⟩:=G.o wr r.o.aJ;have ca:=y i s;have cb:=z i s;have⟨m,hf,v0,H⟩:=r.o.set (PF _ wr) s (v:=a i&&b i) rfl;rw [p.o]at m hf H;have Z:=O8 m;clear y z r m;generalize b i=Y at *;generalize a i=X at *;cases X
   all_goals
    cases Y
    all_goals
     go_wp2
     go_roundw
     exact ⟨i+1,ZN,ZO,Z⟩
     simp [intOf];omega
  ·obtain rfl:i=n:=ZO;have I:=r.o.done F.o
   rw [p.o]at I;have HD:=O8 I;clear I r;go_wp2;go_ret;exact ⟨_,rfl,HD.o.congr λk _=>rfl⟩
 ·have p:Hid (c.heap.size=q+1):=by rw [<-g,P3,J];exact O8 rfl
  go_enter func69,ntmps69;go_upto_region 1 with(fail);(try rw [g]);clear g J;go_upto_region 7 with(at_make;refine bu rfl _ _ 67 rfl 4 i4 (.bool false) 1 QM aj am al _ _ _ _ n rfl rfl rfl rfl (by rw [ag];omega) (by unfold maxLen;omega) ?_;rintro w3 rfl U;have x:=O8 U;clear U);have t:Hid (pB c (c.alloc (CE (madeCells #[Value.bool false] n) 4)) n 0 (λk=>a k||b k)):=pB.aM x.o rfl;rw [p.o];clear x;generalize c.alloc (CE (madeCells #[Value.bool false] n) 4)=w2 at *;go_loopw [10] (λv wr=>∃i:Nat,v=IV i/\i<=n/\Hid (pB c wr n i (λk=>a k||b k))) (λv _=>n-(intOf v).toNat);exact ⟨0,rfl,Pz _,t⟩;clear t;obtain ⟨i,rfl,aq,r⟩:=hrel;by_cases s:i<n
  ·have R:(i:Int)<n:=ZO;obtain ⟨ab,ao,rfl,y⟩:=HA.o wr r.o.aJ
   obtain ⟨bb,bo,rfl,z⟩:=G.o wr r.o.aJ;have ca:=y i s;have cb:=z i s;have⟨m,hf,v0,H⟩:=r.o.set (PF _ wr) s (v:=a i||b i) rfl;rw [p.o]at m hf H;have Z:=O8 m;clear y z r m;generalize b i=Y at *;generalize a i=X at *;cases X
   all_goals
    cases Y
    all_goals
     go_wp2
     go_roundw
     exact ⟨i+1,ZN,ZO,Z⟩
     simp [intOf];omega
  ·obtain rfl:i=n:=ZO;have I:=r.o.done F.o
   rw [p.o]at I;have HD:=O8 I;clear I r;go_wp2;go_ret;exact ⟨_,rfl,HD.o.congr λk _=>rfl⟩
 ·have p:Hid (c.heap.size=q+1):=by rw [<-g,P3,J];exact O8 rfl
  go_enter func69,ntmps69;go_upto_region 1 with(fail);(try rw [g]);clear g J;go_upto_region 7 with(at_make;refine bu rfl _ _ 67 rfl 4 i4 (.bool false) 1 QM aj am al _ _ _ _ n rfl rfl rfl rfl (by rw [ag];omega) (by unfold maxLen;omega) ?_;rintro w3 rfl U;have x:=O8 U;clear U);have t:Hid (pB c (c.alloc (CE (madeCells #[Value.bool false] n) 4)) n 0 (λk=>!a k||b k)):=pB.aM x.o rfl;rw [p.o];clear x;generalize c.alloc (CE (madeCells #[Value.bool false] n) 4)=w2 at *;go_loopw [10] (λv wr=>∃i:Nat,v=IV i/\i<=n/\Hid (pB c wr n i (λk=>!a k||b k))) (λv _=>n-(intOf v).toNat);exact ⟨0,rfl,Pz _,t⟩;clear t;obtain ⟨i,rfl,aq,r⟩:=hrel;by_cases s:i<n
  ·have R:(i:Int)<n:=ZO;obtain ⟨ab,ao,rfl,y⟩:=HA.o wr r.o.aJ
   obtain ⟨bb,bo,rfl,z⟩:=G.o wr r.o.aJ;have ca:=y i s;have cb:=z i s;have⟨m,hf,v0,H⟩:=r.o.set (PF _ wr) s (v:=!a i||b i) rfl;rw [p.o]at m hf H;have Z:=O8 m;clear y z r m;generalize b i=Y at *;generalize a i=X at *;cases X
   all_goals
    cases Y
    all_goals
     go_wp2
     go_roundw
     exact ⟨i+1,ZN,ZO,Z⟩
     simp [intOf];omega
  ·obtain rfl:i=n:=ZO;have I:=r.o.done F.o
   rw [p.o]at I;have HD:=O8 I;clear I r;go_wp2;go_ret;exact ⟨_,rfl,HD.o.congr λk _=>rfl⟩
 ·have Z:Hid (CL 98 #[.agg #[SL Q B M,SL P E L],SL aa n ac,SL ba n bc] c λe j=>∃v,e=RT v/\dP c j v n (fC a b n B 3)):=n9 c Q B M P E L aa n ac a ba bc b (HA.o c (PF _ _)) (G.o c (PF _ _)) an.o h0 hl;have⟨e0,e1⟩:=W.o c (PF _ _)
  go_enter func69,ntmps69;go_upto_region 1 with(fail);(try rw [g]);(try rw [J]);clear g J;go_wp2_with (go_at_call 98;apply Z.o.mono;rintro e w2 ⟨v2,rfl,T⟩;have HM:=O8 T;clear T);go_ret;exact ⟨_,rfl,(dP.from F.o HM.o).congr λk _=>rfl⟩
 ·go_enter func69,ntmps69;go_upto_region 1 with(fail)
  (try rw [g]);(try rw [J]);clear g J;have⟨e0,e1⟩:=W.o c (PF _ _);go_upto_region 4 with(fail);refine aw 7 (S:=λW'=>CA W' q 0 (SL Q B M)/\CA W' q 1 (SL P E L)) ZK (⟨e0,e1⟩) (λae=>?_);refine aB 0 ?_;refine aB 1 ?_;refine aB 3 ?_;clear ae e0 e1;have ai:BW c c.drew:=(PF _ c).drew;refine bY [2,4] (λi=>if i=2 then 21 else 23) #[true,true,true,true,true,false,false,false] 3 (λi u j=>match i with|2=>RB n (λk=>!a k) u j|_=>RB n (λk=>!b k) u j) ZK ZK rfl ZD ?st1n ?st2n ZD ?st3n ?st4n;case st1n=>intro i u w4 w5 hu hb;split at hu;all_goals exact RB.ag hu hb
  case st2n=>exact ad.o
  case st3n=>
   rintro l V j i o ax av r ho hr hJ K A;simp only [PO,QL,Sh]at r;obtain rfl|rfl:=r
   ·simp only [PA,Pt,Pu,PJ]at ho;subst ho
    refine aO (f:=97) (lQ j aa n ac a (HA.o j (ai.trans hJ.aJ)) ZO) ?_ (λe w5 d=>?_)
    ·clear A;refine ZY ?_
     go_simp
    ·obtain ⟨v,rfl,T⟩:=d;exact ⟨v,rfl,A v w5 T.aJ T.rb⟩
   ·simp only [PA,Pt,Pu,PJ]at ho;subst ho
    refine aO (f:=97) (lQ j ba n bc b (G.o j (ai.trans hJ.aJ)) ZO) ?_ (λe w5 d=>?_)
    ·clear A;refine ZY ?_
     go_simp
    ·obtain ⟨v,rfl,T⟩:=d;exact ⟨v,rfl,A v w5 T.aJ T.rb⟩
  case st4n=>
   intro V j C hV;refine ZY ?_;have⟨g1,x1,r1⟩:=hV 2 ZD;have⟨g2,x2,r2⟩:=hV 4 ZD;change V 21=_ at x1;change V 23=_ at x2;rw [x1,x2];clear x1 x2 hV;have ap:BW c j:=ai.trans C;refine aK 5 λK A=>?_;rw [PW (by rfl)];apply aY.o;refine aO (f:=98) (n9 j Q B M P E L (some (AD g1 0)) n n (λk=>!a k) (some (AD g2 0)) n (λk=>!b k) r1 r2 an.o h0 hl) ?_ (λe w6 d=>?_)
   ·clear A;go_simp
   obtain ⟨v6,rfl,D⟩:=d;refine ⟨_,rfl,?_⟩;obtain ⟨b6,rfl,ar⟩:=D.rb;refine A.o _ _ (λ_=>ad.o w6 (C.trans (D.aJ.mono C.size))) ?_;clear A K;try walk_nrm
   refine aK 6 λK A=>?_;rw [PW (by rfl)];apply aY.o;refine aO (f:=97) (lQ w6 (some (AD b6 0)) n n _ ar ZO) ?_ (λe w7 d=>?_)
   ·clear A;go_simp
   obtain ⟨v7,rfl,ak⟩:=d;refine ⟨_,rfl,?_⟩;refine A.o _ _ (λ_=>ad.o w7 ((C.trans (D.aJ.mono C.size)).trans (ak.aJ.mono (PG C.size D.aJ.size)))) ?_;clear A K;try walk_nrm
   refine aK 7 λK A=>?_;go_simp;refine A.q ?_;clear A K;refine az ZK ?_;have HM:=O8 (dP.from (af (af F.o ap) D.aJ) ak);clear D ak ar ap r1 r2;go_wp2;go_ret;exact ⟨_,rfl,HM.o.congr λk _=>rfl⟩
def Ce(a N:Int)(u:Nat->Nat)(k:Nat):Bool:=if a=3 then(u k).testBit N.toNat else decide (a=1)
def MM(N s:Nat):((((N:Int)/2^s).tmod 2)==1)=N.testBit s:=by
 have a:((N:Int)/2^s)=((N/2^s:Nat):Int):=by rw [Int.natCast_ediv,Int.natCast_pow];rfl
 have b:(((N/2^s:Nat):Int)).tmod 2=((N/2^s%2:Nat):Int):=rfl;rw [a,b,Nat.testBit_eq_decide_div_mod_eq];by_cases e:N/2^s%2=1;rw [e];rfl;rw [PH e];simp;omega
def dP.O2{a d wr v n r}(c:BW a d)(h:dP d wr v n r):∃g,v=SV g n n/\uH a wr g n r:=by obtain ⟨b,e,f,i,j⟩:=h;subst e;exact ⟨b,rfl,⟨af c i,PG c.size j,f⟩⟩
def Hb(w)(x N:Int)(s j z r d y F A)(hs:aG .u64 w s j (aE F))(hp:aG .u64 w r d (aE A))(n)(am:x=1\/x=2\/(x=3/\∃p:Nat,N=p/\p<64))(hn:n=j+d)(h0:0<d)(hl:n<=100000):
 CL 67 #[.agg #[IV x,IV N],lX s j z r d y] w λe G=>∃v,e=RT v/\dP w G v n (Ce x N (aU F A)):=by
 obtain ⟨q,hq⟩:=EX w.heap.size
 obtain ⟨b,E⟩:=EX ((w.alloc (CE #[IV x,IV N] 32)).alloc (CE #[SL s j z,SL r d y] 25))
 have H:BW w b:=E▸af (ah _ _) (ah _ _)
 have Y:b.heap[q]? =some (.cells #[IV x,IV N] 32 (0,0)):=by rw [<-E,<-hq,(Ph _ _).2 _ (by rw [P3];omega)];exact (Ph w _).1
 have Z:b.heap[q+1]? =some (.cells #[SL s j z,SL r d y] 25 (0,0)):=by rw [<-E,<-hq,<-P3 w (CE #[IV x,IV N] 32)];exact (Ph _ _).1
 have u:Hid (∀a:WD,BW b a->a.cell? (AD q 0)=some (IV x)/\a.cell? (AD q 1)=some (IV N)/\a.cell? (AD (q+1) 0)=some (SL s j z)/\a.cell? (AD (q+1) 1)=some (SL r d y)):=λa h=>by have h2:=(h.block q (Pb.1 Y).1).trans Y;have h3:=(h.block (q+1) (Pb.1 Z).1).trans Z;exact ⟨CH h2,CH h2,CH h3,CH h3⟩
 have au:Hid (∀a,BW b a->aG .u64 a s j (aE F)):=λG h=>hs.ag (af H h)
 have aq:Hid (∀a,BW b a->aG .u64 a r d (aE A)):=λG h=>hp.ag (af H h)
 have M:A.length=d:=by have:=hp.1;rwa [aD]at this
 have ap:=O8 M
 have R:Hid (∀a:WD,Below b.drew.heap.size b.drew a->a.cell? (AD q 0)=some (IV x)/\a.cell? (AD q 1)=some (IV N)/\a.cell? (AD (q+1) 0)=some (SL s j z)/\a.cell? (AD (q+1) 1)=some (SL r d y)):=λG hb=>u.o G ((PF _ b).drew.trans hb)
 have P:=O8 H
 have ar:=O8 am
 have aF:=O8 hn
 have aJ:n<=j+d:=ZO
 have aL:j+d<=n:=ZO
 have L:CL 28 #[.agg #[SL s j z,SL r d y]] b.drew λe G=>e=RT (IV (n:Int))/\Below b.drew.heap.size b.drew G:=by have h:=CD s j z r d y b.drew ZO ZO;have e:((j:Int)+(d:Int))=(n:Int):=ZO;rw [e]at h;exact h
 have ae:=O8 L
 obtain ⟨B1,ak⟩:=EX ((x==1))
 have Q:Hid (decide (x=1)=B1):=by rw [<-ak];exact O8 rfl
 obtain ⟨T,V,W,X⟩:=u.o b (PF _ _)
 clear hs hp H Y Z am hn L M
 go_enter func67,ntmps67
 go_upto_region 1 with(fail)
 (try rw [E])
 (try rw [hq])
 clear E hq
 refine aw 6 (S:=λa=>a.cell? (AD q 0)=some (IV x)/\a.cell? (AD q 1)=some (IV N)/\a.cell? (AD (q+1) 0)=some (SL s j z)/\a.cell? (AD (q+1) 1)=some (SL r d y)) ZK (⟨T,V,W,X⟩) (λm=>?_)
 refine aB 0 ?_
 refine aB 2 ?_
 refine aB 3 ?_
 refine aB 4 ?_
 clear m T V W X
 have o:BW b b.drew:=(PF _ b).drew
 refine aK 1 λK l=>?_
 rw [PW (by rfl)]
 apply aY.o
 refine aO (f:=28) ae.o ?_ (λe w5 c=>?_)
 ·clear l;go_simp
 obtain ⟨rfl,C⟩:=c
 refine ⟨_,rfl,?_⟩
 refine l.o _ _ (λ_=>R.o w5 C) ?_
 clear l K
 try walk_nrm
 refine aK 5 λK l=>?_
 rw [PW (by rfl)]
 apply aY.o
 refine aO (f:=96) (wU w5 n B1 ZO) ?_ (λe w6 c=>?_)
 ·clear l;go_simp
 obtain ⟨v6,rfl,ab⟩:=c
 refine ⟨_,rfl,?_⟩
 obtain ⟨g,rfl,al⟩:=ab.O2 (o.trans C)
 refine l.o _ _ (λ_=>R.o w6 (C.trans (ab.aJ.mono C.size))) ?_
 clear l K
 try walk_nrm
 refine aK 6 λK l=>?_
 go_simp
 refine l.q ?_
 clear l K
 refine az ZK ?_
 have t:=O8 al
 clear al ab C o R ae ak
 go_upto_region 3 with(fail)
 obtain h1|h1|⟨h1,J,hN,aM⟩:=ar.o
 ·subst h1;obtain ⟨T,V,W,X⟩:=u.o w6 t.o.aJ
  go_loopw [6] (λv wr=>v=IV 0/\wr=w6) (λ_ _=>0);exact ⟨rfl,rfl⟩;obtain ⟨rfl,rfl⟩:=hrel;have ay:(0:Int)<(n:Int):=ZO;go_wp2;go_ret;exact ⟨_,rfl,(t.o.done P.o).congr λk _=>by rw [<-Q.o];rfl⟩
 ·subst h1;obtain ⟨T,V,W,X⟩:=u.o w6 t.o.aJ
  go_loopw [6] (λv wr=>v=IV 0/\wr=w6) (λ_ _=>0);exact ⟨rfl,rfl⟩;obtain ⟨rfl,rfl⟩:=hrel;have ay:(0:Int)<(n:Int):=ZO;go_wp2;go_ret;exact ⟨_,rfl,(t.o.done P.o).congr λk _=>by rw [<-Q.o];rfl⟩
 ·subst h1 hN;have ad:Hid (uH b w6 g n λk=>decide (k<0)&&(aU F A k).testBit J):=t.o.congr λk _=>by rw [<-Q.o];rfl
  clear t;go_loopw [6] (λv wr=>∃i:Nat,v=IV i/\i<=n/\Hid (uH b wr g n λk=>decide (k<i)&&(aU F A k).testBit J)) (λv _=>n-(intOf v).toNat);exact ⟨0,rfl,Pz _,ad⟩;clear ad;obtain ⟨i,rfl,aI,D⟩:=hrel;obtain ⟨T,V,W,X⟩:=u.o wr D.o.aJ;by_cases aa:i<n
  ·have aC:(i:Int)<(n:Int):=ZO;have ao:Hid (CL 30 #[.agg #[SL s j z,SL r d y],IV (i:Int)] wr.drew λe G=>e=RT (UV ((aU F A i:Nat):Int))/\Below wr.drew.heap.size wr.drew G):=by have h:=LL s j z r d y (aE F) (aE A) i wr.drew ZO ZO ZO ((au.o wr D.o.aJ).ag (PF _ wr).drew) ((aq.o wr D.o.aJ).ag (PF _ wr).drew) h0;rw [Cf F A i (ZR ap.o h0)]at h;exact h
   have ax:min J 64=J:=ZO;have ai:Hid (∀a:WD,BW wr a->a.cell? (AD q 0)=some (IV 3)/\a.cell? (AD q 1)=some (IV (J:Int))/\a.cell? (AD (q+1) 0)=some (SL s j z)/\a.cell? (AD (q+1) 1)=some (SL r d y)):=λG hb=>u.o G (D.o.aJ.trans (hb.mono D.o.aJ.size));have aj:Hid (∀wb,BW wr wb->(∀B:Bool,B=(aU F A i).testBit J->uH b (wb.setCell (AD g i) (.bool B)) g n λk=>decide (k<i+1)&&(aU F A k).testBit J)/\wb.frozen? (AD g i)=false/\∃v0,wb.cell? (AD g i)=some v0):=λwb ac=>by
    refine ⟨λB hB=>?_,(D.o.set ac aa false).2.1,_,(D.o.set ac aa false).2.2⟩;subst hB;refine (D.o.set ac aa _).1.congr λk _=>?_;by_cases e:k=i
    ·subst e;rw [aA];simp
    ·rw [an _ _ _ _ e];by_cases h:k<i
     ·rw [PX h,PX ZO]
     ·rw [PH h,PH ZO]
   generalize aU F A i=U at *;clear D;go_upto_region 5 with(fail);refine aw 12 (S:=λa=>a.cell? (AD q 0)=some (IV 3)/\a.cell? (AD q 1)=some (IV (J:Int))/\a.cell? (AD (q+1) 0)=some (SL s j z)/\a.cell? (AD (q+1) 1)=some (SL r d y)) ZK (⟨T,V,W,X⟩) (λm=>?_);refine aB 0 ?_;refine aB 1 ?_;refine aB 2 ?_;refine aB 3 ?_;refine aB 5 ?_;refine aB 6 ?_;refine aB 7 ?_;clear m T V W X;have o:BW wr wr.drew:=(PF _ wr).drew;refine aK 4 λK l=>?_;rw [PW (by rfl)];apply aY.o;refine aO (f:=30) ao.o ?_ (λe w7 c=>?_)
   ·clear l;go_simp
   obtain ⟨rfl,I⟩:=c;refine ⟨_,rfl,?_⟩;obtain ⟨O,hf,v0,aH⟩:=aj.o w7 (o.trans I);have HN:=O8 O;have av:=ai.o w7 (o.trans I);clear O;refine l.o _ _ (λ_=>ai.o w7 (o.trans I)) ?_;clear l K;try walk_nrm
   refine aB 8 ?_;refine aB 9 ?_;refine aB 10 ?_;refine aB 11 ?_;clear av;refine aK 12 λK l=>?_;go_simp;refine l.q ?_;clear l K;refine az ZK ?_;clear I o;go_wp2;go_roundw;exact ⟨i+1,ZN,ZO,HN.o _ (ZR ax (MM U J))⟩;simp [intOf];omega
  ·obtain rfl:i=n:=ZO;have HD:=O8 (D.o.done P.o)
   clear D;go_wp2;go_ret;exact ⟨_,rfl,HD.o.congr λk hk=>by rw [PX hk,Qu];rfl⟩
def oC(l:List Fm)(x:Fm):List Fm:=x::l.drop (tk (Fm.aH x).1).toNat
def fL(f:Fm)(i:Nat):List Fm:=((Fm.aI f).take i).foldl oC []
def Kl{l x}(h:Fm.mQ x):oC l x=x::l:=by unfold oC;rw [qt h];rfl
def LW{l a x}(h:Fm.One a x):oC (a::l) x=x::l:=by unfold oC;rw [ye h];rfl
def LX{l a b x}(h:Fm.gj a b x):oC (b::a::l) x=x::l:=by unfold oC;rw [yf h];rfl
def vN(f):∀l,(Fm.aI f).foldl oC l=f::l:=by
 have d:∀n (f:Fm),Fm.size f<=n->∀l,(Fm.aI f).foldl oC l=f::l:=by
  intro n;induction n with
  |zero=>intro f h;have:=Fm.br f;omega
  |succ n c=>intro f e l;obtain h|⟨a,h⟩|⟨a,b,h⟩:=Fm.yM f;rw [h.aI];exact Kl h;rw [h.aI,SD,c a (ZH h.size)];exact LW h;rw [h.aI,SD,SD,c a (ZH h.size),c b (ZH h.size)];exact LX h
 exact d _ f (Pf _)
def Mm(x:Fm)(l:List Fm):Prop:=(∀a,Fm.One a x->∃r,l=a::r)/\∀a b,Fm.gj a b x->∃r,l=b::a::r
def JO{a b x}(h:Fm.One a x)(g:Fm.One b x):a=b:=by cases h<;>cases g<;>rfl
def Kx{a b c d x}(h:Fm.gj a b x)(g:Fm.gj c d x):a=c/\b=d:=by cases h<;>cases g<;>exact ⟨rfl,rfl⟩
def Np:∀n (f),Fm.size f<=n->∀l i x,(Fm.aI f)[i]? =some x->Mm x (((Fm.aI f).take i).foldl oC l):=by
 intro n;induction n with
 |zero=>intro f h;have:=Fm.br f;omega
 |succ n o=>
  intro f v l i x j;obtain h|⟨a,h⟩|⟨a,b,h⟩:=Fm.yM f;rw [h.aI]at j;have e:x=f:=by obtain _|i:=i;simp at j;exact j.symm;simp at j
  subst e;exact ⟨λa g=>(by cases h<;>cases g),λa b g=>(by cases h<;>cases g)⟩;have m:=h.size;rw [h.aI]at j⊢;have t:(Fm.aI a).length=Fm.size a:=rfl;by_cases r:i<Fm.size a;rw [Pp ZO]at j;rw [RR ZO];exact o a ZO l i x j;rw [PD ZO]at j;have k:i-(Fm.aI a).length=0:=by obtain e|e:=Qv (i-(Fm.aI a).length);exact e;rw [Qs (by simp;omega)]at j;cases j
  rw [k]at j;simp at j;subst j;have e:i=(Fm.aI a).length:=ZO;rw [e,U9 rfl,vN];exact ⟨λc g=>by rw [JO h g];exact ⟨_,rfl⟩,λc d g=>(by cases h<;>cases g)⟩;have m:=h.size;rw [h.aI]at j⊢;have t:(Fm.aI a).length=Fm.size a:=rfl;have u:(Fm.aI b).length=Fm.size b:=rfl;by_cases r:i<Fm.size a;rw [Pp ZO]at j;rw [RR ZO];exact o a ZO l i x j;rw [PD ZO]at j;rw [List.take_append,SD,PI ZO,vN];by_cases s:i-(Fm.aI a).length<Fm.size b;rw [Pp ZO]at j;rw [RR ZO];exact o b ZO _ _ x j;rw [PD ZO]at j;have k:i-(Fm.aI a).length-(Fm.aI b).length=0:=by obtain e|e:=Qv (i-(Fm.aI a).length-(Fm.aI b).length);exact e;rw [Qs (by simp;omega)]at j;cases j
  rw [k]at j;simp at j;subst j;have e:i-(Fm.aI a).length=(Fm.aI b).length:=ZO;rw [e,U9 rfl,vN];exact ⟨λc g=>(by cases h<;>cases g),λc d g=>by obtain ⟨p,q⟩:=Kx h g;rw [p,q];exact ⟨_,rfl⟩⟩
def Fy{f x i}(a:(Fm.aI f)[i]? =some x):Mm x (fL f i):=Np _ f (Pf _) [] i x a
def zX{f x i}(a:(Fm.aI f)[i]? =some x):fL f (i+1)=oC (fL f i) x:=by unfold fL;rw [Qf,a,SD];rfl
def Kk(f):fL f (Fm.size f)=[f]:=by show((Fm.aI f).take (Fm.aI f).length).foldl oC []=_;rw [SR];exact vN f []
def Bi{f x i}(c:(Fm.aI f)[i]? =some x):(tk (Fm.aH x).1).toNat<=(fL f i).length/\(fL f (i+1)).length=(fL f i).length-(tk (Fm.aH x).1).toNat+1:=by refine ⟨?_,by rw [zX c];unfold oC;rw [P9,List.length_drop]⟩;have h:=Fy c;obtain k|⟨a,k⟩|⟨a,b,k⟩:=Fm.yM x;rw [qt k];exact Pz _;have⟨r,e⟩:=h.1 a k;rw [e,ye k];simp;have⟨r,e⟩:=h.2 a b k;rw [e,yf k];simp
def Hc(a n c F f w)(hF:bD w a n F)(G:jQ F f)(Y:n<=1000):
 CL 66 #[SL a n c] w λe V=>e=RT (.bool true)/\V=w:=by
 have t:Fm.size f=n:=by rw [<-kN G];exact hF.1
 have B:=Fm.br f
 obtain ⟨b,k,rfl,K⟩:∃b k,a=some (AD b k)/\∀i,i<n->CA w b (k+i*2) (IV (F.getD i (0,0)).1)/\CA w b (k+i*2+1) (IV (F.getD i (0,0)).2):=by
  obtain h|h:=hF.2
  ·omega
  ·exact h
 have L:=O8 K
 have E:=O8 G
 have A:=O8 t
 clear hF K G B t
 go_enter func66,ntmps66
 go_upto_region 3 with(fail)
 go_loopw [3,4,5,6] (λU J _ _ wr=>∃(d i:Nat),U=IV d/\J=IV i/\Hid (d=(fL f i).length)/\d<=i/\i<=n/\wr=w) (λ_ J _ _ _=>n-(intOf J).toNat)
 exact ⟨0,0,rfl,rfl,rfl,Pf _,Pz _,rfl⟩
 obtain ⟨d,i,rfl,rfl,D,P,R,rfl⟩:=hrel
 by_cases Q:i<n
 ·have H:(i:Int)<n:=ZO;have⟨q,W⟩:=L.o i Q
  obtain ⟨x,C⟩:∃x,(Fm.aI f)[i]? =some x:=⟨_,Pe (show i<(Fm.aI f).length by have:=A.o;unfold Fm.size at this;omega)⟩;have⟨s,I⟩:=qQ E.o C;have v:=xg E.o C;have⟨j,g⟩:=Bi C;rw [<-D.o]at j g;have p:Hid (∀m,x=.prop m->(F.getD i (0,0)).2=(m:Int)/\m<8):=λm e=>by subst e;refine ⟨?_,E.o.2 _ (Pm C) m rfl⟩;have O:(F.getD i (0,0)).1=3:=v;unfold ig at s;rw [PW O]at s;exact Q7 Prod.snd s
  rw [v]at q;clear s I v C;generalize (F.getD i (0,0)).2=N at *;have⟨l,u⟩:=EX ((fL f (i+1)).length);rw [u]at g;have r:=O8 u;clear D u;cases x
  case prop m=>obtain ⟨rfl,X⟩:=p.o m rfl;change CA wr b (k+i*2) (IV 3)at q;replace g:l=d+1:=g;have S:¬(m:Int)<0:=ZO;have T:¬(8:Int)<=m:=ZO;clear p j;go_wp2;go_roundw;exact ⟨l,i+1,by rw [g];go_num,ZN,r.o.symm,ZO,ZO,by trivial⟩;simp [intOf];omega
  case tt=>change CA wr b (k+i*2) (IV 1)at q;replace g:l=d+1:=g;clear p j;go_wp2;go_roundw;exact ⟨l,i+1,by rw [g];go_num,ZN,r.o.symm,ZO,ZO,by trivial⟩;simp [intOf];omega
  case ff=>change CA wr b (k+i*2) (IV 2)at q;replace g:l=d+1:=g;clear p j;go_wp2;go_roundw;exact ⟨l,i+1,by rw [g];go_num,ZN,r.o.symm,ZO,ZO,by trivial⟩;simp [intOf];omega
  case neg y=>change CA wr b (k+i*2) (IV 4)at q;replace j:1<=d:=j;replace g:l=d-1+1:=g;have o:¬(d:Int)<1:=ZO;clear p;go_wp2;go_roundw;exact ⟨l,i+1,by rw [g];go_num,ZN,r.o.symm,ZO,ZO,by trivial⟩;simp [intOf];omega
  case cy y=>change CA wr b (k+i*2) (IV 8)at q;replace j:1<=d:=j;replace g:l=d-1+1:=g;have o:¬(d:Int)<1:=ZO;clear p;go_wp2;go_roundw;exact ⟨l,i+1,by rw [g];go_num,ZN,r.o.symm,ZO,ZO,by trivial⟩;simp [intOf];omega
  case fin y=>change CA wr b (k+i*2) (IV 11)at q;replace j:1<=d:=j;replace g:l=d-1+1:=g;have o:¬(d:Int)<1:=ZO;clear p;go_wp2;go_roundw;exact ⟨l,i+1,by rw [g];go_num,ZN,r.o.symm,ZO,ZO,by trivial⟩;simp [intOf];omega
  case ec y=>change CA wr b (k+i*2) (IV 12)at q;replace j:1<=d:=j;replace g:l=d-1+1:=g;have o:¬(d:Int)<1:=ZO;clear p;go_wp2;go_roundw;exact ⟨l,i+1,by rw [g];go_num,ZN,r.o.symm,ZO,ZO,by trivial⟩;simp [intOf];omega
  case and y z=>change CA wr b (k+i*2) (IV 5)at q;replace j:2<=d:=j;replace g:l=d-2+1:=g;have o:¬(d:Int)<2:=ZO;clear p;go_wp2;go_roundw;exact ⟨l,i+1,by rw [g];go_num,ZN,r.o.symm,ZO,ZO,by trivial⟩;simp [intOf];omega
  case or y z=>change CA wr b (k+i*2) (IV 6)at q;replace j:2<=d:=j;replace g:l=d-2+1:=g;have o:¬(d:Int)<2:=ZO;clear p;go_wp2;go_roundw;exact ⟨l,i+1,by rw [g];go_num,ZN,r.o.symm,ZO,ZO,by trivial⟩;simp [intOf];omega
  case imp y z=>change CA wr b (k+i*2) (IV 7)at q;replace j:2<=d:=j;replace g:l=d-2+1:=g;have o:¬(d:Int)<2:=ZO;clear p;go_wp2;go_roundw;exact ⟨l,i+1,by rw [g];go_num,ZN,r.o.symm,ZO,ZO,by trivial⟩;simp [intOf];omega
  case dA y z=>change CA wr b (k+i*2) (IV 9)at q;replace j:2<=d:=j;replace g:l=d-2+1:=g;have o:¬(d:Int)<2:=ZO;clear p;go_wp2;go_roundw;exact ⟨l,i+1,by rw [g];go_num,ZN,r.o.symm,ZO,ZO,by trivial⟩;simp [intOf];omega
  case rel y z=>change CA wr b (k+i*2) (IV 10)at q;replace j:2<=d:=j;replace g:l=d-2+1:=g;have o:¬(d:Int)<2:=ZO;clear p;go_wp2;go_roundw;exact ⟨l,i+1,by rw [g];go_num,ZN,r.o.symm,ZO,ZO,by trivial⟩;simp [intOf];omega
 ·obtain rfl:i=n:=ZO;have H:¬(i:Int)<i:=ZO
  have M:d=1:=by rw [D.o,<-A.o,Kk];rfl
  subst M;clear D;go_wp2;(try simp only [Exit.inBlock,Exit.then]);go_ret;exact ⟨rfl,rfl⟩
def Aq(n:Nat)(u:Nat->Nat)(X:Nat->Prop)(w:WD)(x:Fm)(v:Value):Prop:=
 ∃b r,v=SV b n n/\dq w (some (AD b 0)) n r/\(∀k,k<n->(r k=true↔Fm.cR u x k))/\¬X b/\b<w.heap.size
def Aq.ax{n u X Y S w i x v}(h:Aq n u X w x v)(g:aj S w i)(j:∀k,k<w.heap.size->S k->X k)(l:∀k,k<w.heap.size->Y k->X k):Aq n u Y i x v:=by obtain ⟨b,r,e,p,q,f,d⟩:=h;refine ⟨b,r,e,?_,q,λy=>f (l b d y),Ps d g.size⟩;obtain ⟨t,o,a,m⟩:=p;injection a with a;injection a with e1 e2;subst e1 e2;exact ⟨_,_,rfl,λk c=>g.aq (m k c) λs=>f (j _ d s)⟩
structure KL (d wr:WD) (n:Nat) (u:Nat->Nat) (f:Fm) (i:Nat) (c a:Value) (h e:List Value):Prop where
 aJ:BW d wr
 st:Sl wr 67 c (fL f i).length h
 o:Sl wr 67 a i e
 apart:∀g,c.ownBlock=some g->a.ownBlock≠some g
 Ol:∀g,c.ownBlock=some g->d.heap.size<=g
 Od:∀g,a.ownBlock=some g->d.heap.size<=g
 bC:∀k x,(fL f i)[k]? =some x->∃v,h[(fL f i).length-1-k]? =some v/\Aq n u (λb=>c.ownBlock=some b\/a.ownBlock=some b) wr x v
 last:0<i->∃x v,(Fm.aI f)[i-1]? =some x/\e[i-1]? =some v/\Aq n u (λb=>c.ownBlock=some b\/a.ownBlock=some b) wr x v
def KL.dT{w1 wr C L D n u f x i m b t E K d o q B J M r}
 (h:KL w1 wr n u f i (.slice q (fL f i).length t) B J M) (W:(Fm.aI f)[i]? =some x) (F:BW wr C)
 (hr:dq C (some (AD b 0)) n r) (ht:∀k,k<n->(r k=true↔Fm.cR u x k)) (af:wr.heap.size<=b) (O:b<C.heap.size) (hm:m=(fL f i).length-(tk (Fm.aH x).1).toNat)
 (h6:Sl L 67 (SV d (m+1) E) (m+1) (J.take m++[SV b n n])) (X:aj (λk=>(SL q m t).ownBlock=some k) C L) (a:(SL q m t).ownBlock=some d\/C.heap.size<=d)
 (h7:Sl D 67 (SV o (i+1) K) (i+1) (M++[SV b n n])) (Z:aj (λk=>B.ownBlock=some k) L D) (c:B.ownBlock=some o\/L.heap.size<=o):
 KL w1 D n u f (i+1) (SV d (m+1) E) (SV o (i+1) K) (J.take m++[SV b n n]) (M++[SV b n n]):=by
 have e1:(SL q m t).ownBlock=(Value.slice q (fL f i).length t).ownBlock:=by cases q<;>rfl
 rw [e1]at X a
 have T:=Bi W
 have R:=zX W
 have z:(fL f (i+1)).length=m+1:=by rw [T.2,hm]
 have p:=h.st.lt
 have l:=h.o.lt
 have ac:=X.size
 have ad:=Z.size
 have ak:=F.size
 have ag:d<L.heap.size:=h6.lt d rfl
 have ah:o<D.heap.size:=h7.lt o rfl
 have P:d≠o:=by intro e;rcases a with a|a<;>rcases c with c|c;exact h.apart d a (e▸c);have:=p _ a;omega;have:=l _ c;omega;omega
 have aa:¬b=d:=by rintro rfl;obtain a|a:=a;have:=p _ a;omega;omega
 have ab:¬b=o:=by rintro rfl;obtain c|c:=c;have:=l _ c;omega;omega
 have j:aj (λk=>(Value.slice q (fL f i).length t).ownBlock=some k\/B.ownBlock=some k) C D:=(X.mono λk _ s=>.inl s).trans (Z.mono λk _ s=>.inr s)
 have w:∀g,(SV d (m+1) E).ownBlock=some g->g=d:=λg e=>by cases e;rfl
 have G:∀g,(SV o (i+1) K).ownBlock=some g->g=o:=λg e=>by cases e;rfl
 have hY:∀k,k<C.heap.size->((SV d (m+1) E).ownBlock=some k\/(SV o (i+1) K).ownBlock=some k)->(Value.slice q (fL f i).length t).ownBlock=some k\/B.ownBlock=some k:=by rintro k hk (e|e);obtain rfl:=w k e;obtain a|a:=a;exact .inl a;omega;obtain rfl:=G k e;obtain c|c:=c;exact .inr c;omega
 have A:Aq n u (λb=>(SV d (m+1) E).ownBlock=some b\/(SV o (i+1) K).ownBlock=some b) D x (SV b n n):=by
  have h0:Aq n u (λb=>(Value.slice q (fL f i).length t).ownBlock=some b\/B.ownBlock=some b) C x (SV b n n):=by refine ⟨b,r,rfl,hr,ht,?_,O⟩;rintro (e|e);have:=p _ e;omega;have:=l _ e;omega
  exact h0.ax j (λk _ s=>s) hY
 have H:∀{y v},Aq n u (λb=>(Value.slice q (fL f i).length t).ownBlock=some b\/B.ownBlock=some b) wr y v->Aq n u (λb=>(SV d (m+1) E).ownBlock=some b\/(SV o (i+1) K).ownBlock=some b) D y v:=λ{y v} hh=>
  (hh.ax (Y:=λb=>(Value.slice q (fL f i).length t).ownBlock=some b\/B.ownBlock=some b) (aj.aC F) (λk hk s=>absurd s ZO) (λk _ y=>y)).ax j (λk _ s=>s) hY
 have V:=h.aJ.size
 have ae:J.length=(fL f i).length:=ZH h.st.1
 have U:Sl D 67 (SV d (m+1) E) (fL f (i+1)).length (J.take m++[SV b n n]):=by rw [z];refine h6.ax Z (λg e s=>?_);have e2:=w g e;subst e2;obtain a|a:=a;exact h.apart g a s;have:=l _ s;omega
 refine ⟨?_,U,h7,λg e s=>P ((w g e).symm.trans (G g s)),λg e=>?_,λg e=>?_,?_,λ_=>⟨x,_,W,?_,A⟩⟩
 refine (h.aJ.trans (F.mono V)).trans (j.ag ZO ?_)
 rintro k hk (s|s)
 have:=h.Ol _ s;omega
 have:=h.Od _ s;omega
 rw [w g e]
 obtain a|a:=a
 exact h.Ol _ a
 omega
 rw [G g e]
 obtain c|c:=c
 exact h.Od _ c
 omega
 intro k y I
 rw [R]at I
 unfold oC at I
 rw [z]
 have Q:(J.take m).length=m:=by rw [QI];omega
 obtain _|k:=k
 simp at I
 subst I
 refine ⟨_,?_,A⟩
 rw [show m+1-1-0=m by omega,PD ZO,Q];simp
 rw [Pt,List.getElem?_drop]at I
 have⟨v,hv,S⟩:=h.bC _ _ I
 have ai:(tk (Fm.aH x).1).toNat+k<(fL f i).length:=(Po.1 I).1
 refine ⟨v,?_,H S⟩
 rw [Pp ZO,List.getElem?_take]
 rw [PW ZO,<-hv]
 congr 1
 omega
 have N:M.length=i:=ZH h.o.1
 rw [Su,PD ZO,N];simp
def Ju{b a x N}(h:Fm.mQ x)(c:∀m,x=.prop m->N=(m:Int))(k):Ce (Fm.aH x).1 N (aU b a) k=true↔Fm.cR (aU b a) x k:=by
 cases h with
 |tt=>exact ⟨λ_=>RW,λ_=>rfl⟩
 |ff=>exact ⟨λh=>(ZC h),λh=>(ZC h)⟩
 |prop m=>rw [c m rfl];exact RE
def Hs(f i):(fL f i).length<=i:=by
 have h:∀(P:List Fm)(l:List Fm),(P.foldl oC l).length<=l.length+P.length:=by
  intro P;induction P with
  |nil=>intro l;exact Pf _
  |cons x P a=>intro l;rw [List.foldl_cons];refine PG (a _) ?_;unfold oC;rw [P9,List.length_drop,P9];omega
 refine PG (h _ _) ?_;rw [QI];simp;omega
def wu(w:WD)(i h:List Nat)(f:Fm)(d n:Nat)(e:Ending)(a:WD):Prop:=
 ∃(g c b:Nat)(r:Bool),e=RT (SV g d c)/\a.cell? (AD g (d-1))=some (SV b n n)/\a.cell? (AD b 0)=some (.bool r)/\(r=true↔Fm.cR (aU i h) f 0)/\BW w a
def Ko(f):(Fm.aI f)[Fm.size f-1]? =some f:=by obtain h|⟨a,h⟩|⟨a,b,h⟩:=Fm.yM f;unfold Fm.size;rw [h.aI];rfl;unfold Fm.size;rw [h.aI,Pk,PD ZS];simp;unfold Fm.size;rw [h.aI,<-Qe,Pk,PD ZS];simp
def KL.done{w p wr n a c g m l f C s q}(h:KL p wr n (aU m l) f a C (SV g a c) s q)(i:0<n)(y:Fm.size f=a)(t:BW w p):wu w m l f a n (RT (SV g a c)) wr:=by
 have j:=Fm.br f;obtain ⟨x,v,k,B,b,r,rfl,z,A,-,-⟩:=h.last ZO;have e:x=f:=by rw [<-y,Ko]at k;exact (Qh k).symm
 subst e;obtain ⟨D,o,d,u⟩:=z;injection d with d;injection d with e1 e2;subst e1 e2;refine ⟨g,c,b,r 0,rfl,?_,u 0 i,A 0 i,af t h.aJ⟩;rw [Qj (size:=1) h.o (a-1) ZO];exact B
def Ei(w a nf c F f)(hF:bD w a nf F)(hf:jQ F f)(bH:nf<=1000)(sa D cs la I cl Y X)(W:aG .u64 w sa D (aE Y))(hp:aG .u64 w la I (aE X))(h0:0<I)(hl:D+I<=65536):
 CL 36 #[SL a nf c,lX sa D cs la I cl] w (wu w Y X f nf (D+I)):=by
 have⟨n,hn⟩:=EX (D+I)
 rw [hn]
 have⟨aH,ab,ad,ac,aa⟩:=P6 Tryz.Jj
 have ba:Fm.size f=nf:=by rw [<-kN hf];exact hF.1
 have a0:=Fm.br f
 obtain ⟨fb,fo,rfl,hc⟩:∃b bh,a=some (AD b bh)/\∀i,i<nf->CA w b (bh+i*2) (IV (F.getD i (0,0)).1)/\CA w b (bh+i*2+1) (IV (F.getD i (0,0)).2):=by
  obtain h|h:=hF.2
  ·omega
  ·exact h
 have⟨q,hq⟩:=EX w.heap.size
 have⟨w1,bg⟩:=EX (w.alloc (CE #[SL sa D cs,SL la I cl] 25))
 have aC:BW w w1:=bg▸ah _ _
 have a7:=aT w #[SL sa D cs,SL la I cl] 25
 rw [bg,hq]at a7
 have c0:=(a7 0 _ rfl).1
 have c1:=(a7 1 _ rfl).1
 have a6:Hid (∀J:WD,BW w1 J->CA J q 0 (SL sa D cs)/\CA J q 1 (SL la I cl)):=λJ h=>⟨(h.cell (O9 _ _ c0)).trans c0,(h.cell (O9 _ _ c1)).trans c1⟩
 have HC:Hid (∀J:WD,BW w1 J->∀i,i<nf->CA J fb (fo+i*2) (IV (F.getD i (0,0)).1)/\CA J fb (fo+i*2+1) (IV (F.getD i (0,0)).2)):=λJ h i hi=>by have⟨h1,h2⟩:=hc i hi;have hb:=af aC h;exact ⟨(hb.cell (O9 _ _ h1)).trans h1,(hb.cell (O9 _ _ h2)).trans h2⟩
 have bB:Hid (∀j,BW w1 j->aG .u64 j sa D (aE Y)):=λJ h=>W.ag (af aC h)
 have bx:Hid (∀j,BW w1 j->aG .u64 j la I (aE X)):=λJ h=>hp.ag (af aC h)
 have B:Hid (X.length=I/\Y.length=D):=by have h1:=hp.1;have h2:=W.1;rw [aD]at h1 h2;exact ⟨h1,h2⟩
 have bi:Hid (CL 5 #[.agg #[SL sa D cs,SL la I cl]] w1 λe J=>e=RT (IV 0)/\BW w1 J):=by
  have h:=pj sa D cs la I cl w1 ZO ZO;have e:dj D I=0:=by unfold dj;rw [Qa ZO,Qa ZO]
  rw [e]at h;exact h
 have bk:Hid (∀J,BW w1 J->CL 66 #[SL (some (AD fb fo)) nf c] J λe aA=>e=RT (.bool true)/\aA=J):=λJ h=>Hc _ nf c F f J (hF.ag (af aC h)) hf bH
 have HF:=O8 hf
 have bc:=O8 ba
 have bv:=O8 aC
 have T:=O8 hn.symm
 have bV:n<=65536:=ZO
 have bG:0<n:=ZO
 clear hF hc hf a0 ba a7 aC W hp hn
 go_enter func36,ntmps36
 go_upto_region 5 with(first
  |(go_at_call 5;apply bi.o.mono;rintro e w2 ⟨rfl,bn⟩;have a5:=O8 bn;clear bn)
  |(go_at_call 66;refine (bk.o w2 a5.o).mono ?_;rintro e w3 ⟨rfl,rfl⟩))
 clear bi bk c0 c1
 (try clear bg)
 (try clear hq)
 have bj:Hid (KL w3 w3 n (aU Y X) f 0 (SN) (SN) [] []):=⟨PF _ _,Qd _ _ _ _,Qd _ _ _ _,λg e=>(ZC e),λg e=>(ZC e),λg e=>(ZC e),λk x e=>(ZC e),λe=>absurd e ZD⟩
 go_loopw [5,6,7,8,9,10] (λov sv v7 _ _ _ wr=>∃i SX OX,v7=IV ((i:Nat):Int)/\i<=nf/\Hid (KL w3 wr n (aU Y X) f i sv ov SX OX)) (λ_ _ v7 _ _ _ _=>nf-(intOf v7).toNat)
 exact ⟨0,_,_,rfl,Pz _,bj⟩
 clear bj
 obtain ⟨i,SX,OX,rfl,bU,hi⟩:=hrel
 by_cases bF:i<nf
 ·have bT:(i:Int)<nf:=ZO;have V:Hid (BW w1 wr):=a5.o.trans (hi.o.aJ.mono a5.o.size)
  have⟨k0,k1⟩:=HC.o wr V.o i bF;have⟨e0,e1⟩:=a6.o wr V.o;obtain ⟨x,hx⟩:∃x,(Fm.aI f)[i]? =some x:=⟨_,Pe (show i<(Fm.aI f).length by have:=bc.o;unfold Fm.size at this;omega)⟩;obtain ⟨a9,-⟩:=qQ HF.o hx;have bf:=xg HF.o hx;have HP:Hid (∀m,x=.prop m->(F.getD i (0,0)).2=(m:Int)/\m<8):=λm e=>by subst e;refine ⟨?_,HF.o.2 _ (Pm hx) m rfl⟩;have h3:(F.getD i (0,0)).1=3:=bf;unfold ig at a9;rw [PW h3]at a9;exact Q7 Prod.snd a9
  rw [bf]at k0;have HX:=O8 hx;have bm:=O8 (Fy hx);have bA:=O8 (Bi hx);clear a9 bf hx;generalize (F.getD i (0,0)).2=N at *;obtain ⟨sg,sc,bL,-⟩:=hi.o.st.shape;subst bL;have⟨d,hd⟩:=EX ((fL f i).length);have bS:d<=1000:=ZH (Hs f i);have HD:=O8 hd;rw [hd]at bA;obtain ⟨og,oc,bK,-⟩:=hi.o.o.shape;subst bK;have G:=O8 hi.o;have bI:=(de hi.o.o).2.1;have a1:=de hi.o.st;have bR:d<=sc:=ZH a1.1;rw [hd];clear hi a1 hd;obtain hk|⟨y,hk⟩|⟨y,z,hk⟩:=Fm.yM x
  ·have bJ:Fm.aH x=Fm.aH x:=rfl;have U:Hid ((Fm.aH x).1=1\/(Fm.aH x).1=2\/((Fm.aH x).1=3/\∃p:Nat,N=p/\p<64)):=by
    cases hk with
    |tt=>exact .inl rfl
    |ff=>exact .inr (.inl rfl)
    |prop m=>obtain ⟨h1,h2⟩:=HP.o m rfl;exact .inr (.inr ⟨rfl,m,h1,ZO⟩)
   have al:Hid (∀k,Ce (Fm.aH x).1 N (aU Y X) k=true↔Fm.cR (aU Y X) x k):=Ju hk λm e=>(HP.o m e).1;have bQ:(Fm.aH x).1<=3:=ZH U.o;have bo:(tk (Fm.aH x).1).toNat=0:=by rw [qt hk];rfl
   have ak:Hid (d=(fL f i).length-(tk (Fm.aH x).1).toNat):=by show _=_;rw [bo,HD.o];rfl
   have aI:Hid (∀j,BW wr j->CL 67 #[.agg #[IV (Fm.aH x).1,IV N],.agg #[SL sa D cs,SL la I cl]] j λe aA=>∃v,e=RT v/\dP j aA v n (Ce (Fm.aH x).1 N (aU Y X))):=λj h=>
    have hb:=V.o.trans (h.mono V.o.size)
    Hb j _ N sa D cs la I cl Y X (bB.o j hb) (bx.o j hb) n U.o T.o h0 ZO
   have aR:Hid (∀j:WD,BW wr j->CA j fb (fo+i*2) (IV (Fm.aH x).1)/\CA j fb (fo+i*2+1) (IV N)/\CA j q 0 (SL sa D cs)/\CA j q 1 (SL la I cl)):=λJ hb=>⟨(hb.cell (O9 _ _ k0)).trans k0,(hb.cell (O9 _ _ k1)).trans k1,a6.o J (V.o.trans (hb.mono V.o.size))⟩;have C:BW wr wr.drew:=(PF _ wr).drew;generalize ao:(Fm.aH x).1=op at *;have aJ:Hid (d=(fL f i).length-(tk (Fm.aH x).1).toNat):=ZR ao ak;clear bJ bo hk ao ak;go_upto_region 11 with(fail);refine aw 6 (S:=λj=>CA j fb (fo+i*2) (IV op)/\CA j fb (fo+i*2+1) (IV N)/\CA j q 0 (SL sa D cs)/\CA j q 1 (SL la I cl)) ZK (⟨k0,k1,e0,e1⟩) (λP=>?_);refine aB 0 ?_;refine aB 1 ?_;refine aB 2 ?_;refine aB 3 ?_;refine aB 4 ?_;clear P k0 k1 e0 e1;refine aK 5 λK Z=>?_;rw [PW (by rfl)];apply aY.o;refine aO (f:=67) (aI.o wr.drew C) ?_ (λe l Q=>?_)
   ·clear Z;go_simp
   obtain ⟨v5,rfl,ap⟩:=Q;refine ⟨_,rfl,?_⟩;refine Z.o _ _ (λ_=>aR.o l (C.trans ap.aJ)) ?_;clear Z K;try walk_nrm
   refine aK 6 λK Z=>?_;go_simp;refine Z.q ?_;clear Z K;refine az ZK ?_;obtain ⟨H,rfl,R,am,an⟩:=ap;have L:Hid (BW wr l):=C.trans am;have aS:Hid (dq l (some (AD H 0)) n _):=vL R;have ai:Hid (wr.heap.size<=H/\H<l.heap.size):=⟨an,R.lt H rfl⟩;have aX:Hid (∀k,k<n->(Ce op N (aU Y X) k=true↔Fm.cR (aU Y X) x k)):=λk _=>al.o k;clear R am an C;have aN:Hid (Sl l 67 (SL og i oc) i OX):=G.o.o.ax (aj.aC L.o) (λg e s=>ZH (G.o.o.lt g e));have aW:Hid (Sl l 67 (SL sg d sc) d (SX.take d)):=(nM (by have:=G.o.st;rw [HD.o]at this;exact this) ZO).ax (aj.aC L.o) (λg e s=>by
    have e2:(Value.slice sg (fL f i).length sc).ownBlock=some g:=by rw [<-e];cases sg<;>rfl
    have:=G.o.st.lt g e2;omega)
   have ag:Hid (∀M c6 u O c7 w7,Sl u 67 (SV M (d+1) c6) (d+1) (SX.take d++[SV H n n])->aj (λk=>(SL sg d sc).ownBlock=some k) l u->((SL sg d sc).ownBlock=some M\/l.heap.size<=M)->Sl w7 67 (SV O (i+1) c7) (i+1) (OX++[SV H n n])->aj (λk=>(SL og i oc).ownBlock=some k) u w7->((SL og i oc).ownBlock=some O\/u.heap.size<=O)->
    KL w3 w7 n (aU Y X) f (i+1) (SV M (d+1) c6) (SV O (i+1) c7) (SX.take d++[SV H n n]) (OX++[SV H n n])):=λM c6 u O c7 w7 h6 k6 n6 h7 k7 n7=>
    G.o.dT HX.o L.o aS.o aX.o ai.o.1 ai.o.2 aJ.o h6 k6 n6 h7 k7 n7
   have aP:Hid (∀u,aj (λk=>(SL sg d sc).ownBlock=some k) l u->Sl u 67 (SL og i oc) i OX):=λu k6=>aN.o.ax k6 (λg e s=>by
    have e2:(Value.slice sg (fL f i).length sc).ownBlock=some g:=by rw [<-s];cases sg<;>rfl
    exact G.o.apart g e2 e)
   go_wp2_with (first
    |(at_builtin;refine av rfl (.tmp 83) (.tmp 85) 76 rfl 67 aH (SN) 24 TR ab ad ac aa rfl ZD _ _ _ rfl aW.o _ rfl rfl ZO ?_;intro M c6 u W t A;have H6:=O8 W;have K6:=O8 t;have N6:=O8 A;have aM:=O8 (aP.o u t);clear W t A)
    |(at_builtin;refine av rfl (.tmp 87) (.tmp 89) 76 rfl 67 aH (SN) 24 TR ab ad ac aa rfl ZD _ _ _ rfl aM.o _ rfl rfl ZO ?_;intro O c7 w7 W t A;have HE:=O8 (ag.o M c6 u O c7 w7 H6.o K6.o N6.o W t A);clear W t A))
   go_roundw;exact ⟨i+1,_,_,ZN,ZO,HE⟩;simp [intOf];omega
  ·have aL:=HD.o;have⟨rs,ar⟩:=bm.o.1 y hk
   have bE:1<=d:=by have h:=Q7 List.length ar;rw [HD.o]at h;simp at h;omega
   obtain ⟨r,a2⟩:∃g,sg=some (AD g 0):=by have⟨a',c',e,aF⟩:=G.o.st.shape;injection e with e1 e2 e3;obtain ⟨g,hg,-⟩:=aF 0 (ZH HD.o);exact ⟨g,e1.trans hg⟩
   subst a2;obtain ⟨vy,ae,E,ry,a4,aq,a3,-,-⟩:=G.o.bC 0 _ (by rw [ar];rfl);subst a4;rw [HD.o]at ae;have⟨o,aZ⟩:=EX (d-1-0);rw [aZ]at ae;have bq:o+1<=d:=ZO;have br:d<=o+1:=ZO;have bM:IntKind.i64.wrap ((d:Int)-1)=(o:Int):=by have e:(d:Int)-1=(o:Int):=ZO;rw [e];exact Ql _ ZO
   have bp:(o:Int)<d:=ZO;have au:CA wr r o (SV E n n):=by have h:=Qj (size:=1) G.o.st o (ZH HD.o);exact h.trans ae
   have bd:=O8 a3;have aV:Hid (∀j,BW wr j->dq j (some (AD E 0)) n ry):=λj h=>aq.ag h;clear aZ ae a3 aq;have U:Hid ((Fm.aH x).1=4\/(Fm.aH x).1=8\/(Fm.aH x).1=11\/(Fm.aH x).1=12):=by cases hk<;>simp [Fm.aH,Hid]
   have ak:Hid (o=(fL f i).length-(tk (Fm.aH x).1).toNat):=by show _=_;rw [ye hk,HD.o];show o=d-1;omega
   have al:Hid (∀k,k<n->(LC (Fm.aH x).1 n D ry k=true↔Fm.cR (aU Y X) x k)):=by intro k ay;have h2:=LF (st:=Y) (lp:=X) (ZR B.o.1 h0) hk (λk ay=>bd.o k (by rw [B.o.1,B.o.2]at ay;have:=T.o;omega)) (k:=k) (by rw [B.o.1,B.o.2];have:=T.o;omega);rw [B.o.1,B.o.2,<-T.o]at h2;exact h2
   have aI:Hid (∀j,BW wr j->∀op:Int,op=(Fm.aH x).1->CL 68 #[IV op,.agg #[SL sa D cs,SL la I cl],SV E n n] j λe aA=>∃v,e=RT v/\dP j aA v n (LC op n D ry)):=λj h op e=>
    J3 j sa D cs la I cl (some (AD E 0)) n n ry (aV.o j h) op (ZR e U.o) T.o h0 ZO
   have aR:Hid (∀j:WD,BW wr j->CA j r o (SV E n n)/\CA j q 0 (SL sa D cs)/\CA j q 1 (SL la I cl)):=λJ hb=>⟨(hb.cell (O9 _ _ au)).trans au,a6.o J (V.o.trans (hb.mono V.o.size))⟩;have C:BW wr wr.drew:=(PF _ wr).drew;generalize ao:(Fm.aH x).1=op at *;have aJ:Hid (o=(fL f i).length-(tk (Fm.aH x).1).toNat):=ZR ao ak;have aQ:=U.o;clear hk ao ak U aL ar;obtain rfl|rfl|rfl|rfl:=aQ;all_goals
    go_upto_region 13 with(fail)
    refine aw 8 (S:=λj=>CA j r o (SV E n n)/\CA j q 0 (SL sa D cs)/\CA j q 1 (SL la I cl)) ZK (⟨au,e0,e1⟩) (λP=>?_)
    refine aB 0 ?_
    refine aB 1 ?_
    refine aB 2 ?_
    refine aB 3 ?_
    refine aB 4 ?_
    refine aB 5 ?_
    refine aB 6 ?_
    clear P k0 k1 e0 e1
    refine aK 7 λK Z=>?_
    rw [PW (by rfl)]
    apply aY.o
    refine aO (f:=68) (aI.o wr.drew C _ rfl) ?_ (λe l Q=>?_)
    ·clear Z;go_simp
    obtain ⟨v5,rfl,ap⟩:=Q
    refine ⟨_,rfl,?_⟩
    refine Z.o _ _ (λ_=>aR.o l (C.trans ap.aJ)) ?_
    clear Z K
    try walk_nrm
    refine aK 8 λK Z=>?_
    go_simp
    refine Z.q ?_
    clear Z K
    refine az ZK ?_
    obtain ⟨H,rfl,R,am,an⟩:=ap
    have L:Hid (BW wr l):=C.trans am
    have aS:Hid (dq l (some (AD H 0)) n _):=vL R
    have ai:Hid (wr.heap.size<=H/\H<l.heap.size):=⟨an,R.lt H rfl⟩
    have aX:=al
    clear R am an C
    have aN:Hid (Sl l 67 (SL og i oc) i OX):=G.o.o.ax (aj.aC L.o) (λg e s=>ZH (G.o.o.lt g e))
    have aW:Hid (Sl l 67 (SV r o sc) o (SX.take o)):=(nM (by have:=G.o.st;rw [HD.o]at this;exact this) ZO).ax (aj.aC L.o) (λg e s=>by
     have e2:(Value.slice (some (AD r 0)) (fL f i).length sc).ownBlock=some g:=by rw [<-e];rfl
     have:=G.o.st.lt g e2;omega)
    have ag:Hid (∀M c6 u O c7 w7,Sl u 67 (SV M (o+1) c6) (o+1) (SX.take o++[SV H n n])->aj (λk=>(SV r o sc).ownBlock=some k) l u->((SV r o sc).ownBlock=some M\/l.heap.size<=M)->Sl w7 67 (SV O (i+1) c7) (i+1) (OX++[SV H n n])->aj (λk=>(SL og i oc).ownBlock=some k) u w7->((SL og i oc).ownBlock=some O\/u.heap.size<=O)->
     KL w3 w7 n (aU Y X) f (i+1) (SV M (o+1) c6) (SV O (i+1) c7) (SX.take o++[SV H n n]) (OX++[SV H n n])):=λM c6 u O c7 w7 h6 k6 n6 h7 k7 n7=>
     G.o.dT HX.o L.o aS.o aX.o ai.o.1 ai.o.2 aJ.o h6 k6 n6 h7 k7 n7
    have aP:Hid (∀u,aj (λk=>(SV r o sc).ownBlock=some k) l u->Sl u 67 (SL og i oc) i OX):=λu k6=>aN.o.ax k6 (λg e s=>by
     have e2:(Value.slice (some (AD r 0)) (fL f i).length sc).ownBlock=some g:=by rw [<-s];rfl
     exact G.o.apart g e2 e)
    go_wp2_with (first
     |(at_builtin;refine av rfl (.tmp 83) (.tmp 85) 76 rfl 67 aH (SN) 24 TR ab ad ac aa rfl ZD _ _ _ rfl aW.o _ rfl rfl ZO ?_;intro M c6 u W t A;have H6:=O8 W;have K6:=O8 t;have N6:=O8 A;have aM:=O8 (aP.o u t);clear W t A)
     |(at_builtin;refine av rfl (.tmp 87) (.tmp 89) 76 rfl 67 aH (SN) 24 TR ab ad ac aa rfl ZD _ _ _ rfl aM.o _ rfl rfl ZO ?_;intro O c7 w7 W t A;have HE:=O8 (ag.o M c6 u O c7 w7 H6.o K6.o N6.o W t A);clear W t A))
    go_roundw
    exact ⟨i+1,_,_,ZN,ZO,HE⟩
    simp [intOf];omega
  ·have aL:=HD.o;have⟨rs,ar⟩:=bm.o.2 y z hk
   have bE:2<=d:=by have h:=Q7 List.length ar;rw [HD.o]at h;simp at h;omega
   obtain ⟨r,a2⟩:∃g,sg=some (AD g 0):=by have⟨a',c',e,aF⟩:=G.o.st.shape;injection e with e1 e2 e3;obtain ⟨g,hg,-⟩:=aF 0 (ZH HD.o);exact ⟨g,e1.trans hg⟩
   subst a2;obtain ⟨vz,a8,bz,rz,bu,bb,bt,-,-⟩:=G.o.bC 0 _ (by rw [ar];rfl);subst bu;rw [HD.o]at a8;have⟨mz,bs⟩:=EX (d-1-0);rw [bs]at a8;have bO:mz+1<=d:=ZO;have bP:d<=mz+1:=ZO;have bW:IntKind.i64.wrap ((d:Int)-1)=(mz:Int):=by have e:(d:Int)-1=(mz:Int):=ZO;rw [e];exact Ql _ ZO
   have bN:(mz:Int)<d:=ZO;have be:CA wr r mz (SV bz n n):=by have h:=Qj (size:=1) G.o.st mz (ZH HD.o);exact h.trans a8
   have bC:=O8 bt;have bl:Hid (∀j,BW wr j->dq j (some (AD bz 0)) n rz):=λj h=>bb.ag h;clear bs a8 bt bb;obtain ⟨vy,ae,E,ry,a4,aq,a3,-,-⟩:=G.o.bC 1 _ (by rw [ar];rfl);subst a4;rw [HD.o]at ae;have⟨o,aZ⟩:=EX (d-1-1);rw [aZ]at ae;have bq:o+2<=d:=ZO;have br:d<=o+2:=ZO;have bM:IntKind.i64.wrap ((d:Int)-2)=(o:Int):=by have e:(d:Int)-2=(o:Int):=ZO;rw [e];exact Ql _ ZO
   have bp:(o:Int)<d:=ZO;have au:CA wr r o (SV E n n):=by have h:=Qj (size:=1) G.o.st o (ZH HD.o);exact h.trans ae
   have bd:=O8 a3;have aV:Hid (∀j,BW wr j->dq j (some (AD E 0)) n ry):=λj h=>aq.ag h;clear aZ ae a3 aq;have U:Hid ((Fm.aH x).1=5\/(Fm.aH x).1=6\/(Fm.aH x).1=7\/(Fm.aH x).1=9\/(Fm.aH x).1=10):=by cases hk<;>simp [Fm.aH,Hid]
   have ak:Hid (o=(fL f i).length-(tk (Fm.aH x).1).toNat):=by show _=_;rw [yf hk,HD.o];show o=d-2;omega
   have al:Hid (∀k,k<n->(EK (Fm.aH x).1 n D ry rz k=true↔Fm.cR (aU Y X) x k)):=by intro k ay;have h2:=L6 (st:=Y) (lp:=X) (ZR B.o.1 h0) hk (λk ay=>bd.o k (by rw [B.o.1,B.o.2]at ay;have:=T.o;omega)) (λk ay=>bC.o k (by rw [B.o.1,B.o.2]at ay;have:=T.o;omega)) (k:=k) (by rw [B.o.1,B.o.2];have:=T.o;omega);rw [B.o.1,B.o.2,<-T.o]at h2;exact h2
   have aI:Hid (∀j,BW wr j->∀op:Int,op=(Fm.aH x).1->CL 69 #[IV op,.agg #[SL sa D cs,SL la I cl],SV E n n,SV bz n n] j λe aA=>∃v,e=RT v/\dP j aA v n (EK op n D ry rz)):=λj h op e=>
    J6 j sa D cs la I cl (some (AD E 0)) n n ry (aV.o j h) (some (AD bz 0)) n rz (bl.o j h) op (ZR e U.o) T.o h0 ZO
   have aR:Hid (∀j:WD,BW wr j->CA j r o (SV E n n)/\CA j r mz (SV bz n n)/\CA j q 0 (SL sa D cs)/\CA j q 1 (SL la I cl)):=λJ hb=>⟨(hb.cell (O9 _ _ au)).trans au,(hb.cell (O9 _ _ be)).trans be,a6.o J (V.o.trans (hb.mono V.o.size))⟩;have C:BW wr wr.drew:=(PF _ wr).drew;generalize ao:(Fm.aH x).1=op at *;have aJ:Hid (o=(fL f i).length-(tk (Fm.aH x).1).toNat):=ZR ao ak;have aQ:=U.o;clear hk ao ak U aL ar;obtain rfl|rfl|rfl|rfl|rfl:=aQ;all_goals
    go_upto_region 15 with(fail)
    refine aw 13 (S:=λj=>CA j r o (SV E n n)/\CA j r mz (SV bz n n)/\CA j q 0 (SL sa D cs)/\CA j q 1 (SL la I cl)) ZK (⟨au,be,e0,e1⟩) (λP=>?_)
    refine aB 0 ?_
    refine aB 1 ?_
    refine aB 2 ?_
    refine aB 3 ?_
    refine aB 4 ?_
    refine aB 5 ?_
    refine aB 6 ?_
    refine aB 7 ?_
    refine aB 8 ?_
    refine aB 9 ?_
    refine aB 10 ?_
    refine aB 11 ?_
    clear P k0 k1 e0 e1
    refine aK 12 λK Z=>?_
    rw [PW (by rfl)]
    apply aY.o
    refine aO (f:=69) (aI.o wr.drew C _ rfl) ?_ (λe l Q=>?_)
    ·clear Z;go_simp
    obtain ⟨v5,rfl,ap⟩:=Q
    refine ⟨_,rfl,?_⟩
    refine Z.o _ _ (λ_=>aR.o l (C.trans ap.aJ)) ?_
    clear Z K
    try walk_nrm
    refine aK 13 λK Z=>?_
    go_simp
    refine Z.q ?_
    clear Z K
    refine az ZK ?_
    obtain ⟨H,rfl,R,am,an⟩:=ap
    have L:Hid (BW wr l):=C.trans am
    have aS:Hid (dq l (some (AD H 0)) n _):=vL R
    have ai:Hid (wr.heap.size<=H/\H<l.heap.size):=⟨an,R.lt H rfl⟩
    have aX:=al
    clear R am an C
    have aN:Hid (Sl l 67 (SL og i oc) i OX):=G.o.o.ax (aj.aC L.o) (λg e s=>ZH (G.o.o.lt g e))
    have aW:Hid (Sl l 67 (SV r o sc) o (SX.take o)):=(nM (by have:=G.o.st;rw [HD.o]at this;exact this) ZO).ax (aj.aC L.o) (λg e s=>by
     have e2:(Value.slice (some (AD r 0)) (fL f i).length sc).ownBlock=some g:=by rw [<-e];rfl
     have:=G.o.st.lt g e2;omega)
    have ag:Hid (∀M c6 u O c7 w7,Sl u 67 (SV M (o+1) c6) (o+1) (SX.take o++[SV H n n])->aj (λk=>(SV r o sc).ownBlock=some k) l u->((SV r o sc).ownBlock=some M\/l.heap.size<=M)->Sl w7 67 (SV O (i+1) c7) (i+1) (OX++[SV H n n])->aj (λk=>(SL og i oc).ownBlock=some k) u w7->((SL og i oc).ownBlock=some O\/u.heap.size<=O)->
     KL w3 w7 n (aU Y X) f (i+1) (SV M (o+1) c6) (SV O (i+1) c7) (SX.take o++[SV H n n]) (OX++[SV H n n])):=λM c6 u O c7 w7 h6 k6 n6 h7 k7 n7=>
     G.o.dT HX.o L.o aS.o aX.o ai.o.1 ai.o.2 aJ.o h6 k6 n6 h7 k7 n7
    have aP:Hid (∀u,aj (λk=>(SV r o sc).ownBlock=some k) l u->Sl u 67 (SL og i oc) i OX):=λu k6=>aN.o.ax k6 (λg e s=>by
     have e2:(Value.slice (some (AD r 0)) (fL f i).length sc).ownBlock=some g:=by rw [<-s];rfl
     exact G.o.apart g e2 e)
    go_wp2_with (first
     |(at_builtin;refine av rfl (.tmp 83) (.tmp 85) 76 rfl 67 aH (SN) 24 TR ab ad ac aa rfl ZD _ _ _ rfl aW.o _ rfl rfl ZO ?_;intro M c6 u W t A;have H6:=O8 W;have K6:=O8 t;have N6:=O8 A;have aM:=O8 (aP.o u t);clear W t A)
     |(at_builtin;refine av rfl (.tmp 87) (.tmp 89) 76 rfl 67 aH (SN) 24 TR ab ad ac aa rfl ZD _ _ _ rfl aM.o _ rfl rfl ZO ?_;intro O c7 w7 W t A;have HE:=O8 (ag.o M c6 u O c7 w7 H6.o K6.o N6.o W t A);clear W t A))
    go_roundw
    exact ⟨i+1,_,_,ZN,ZO,HE⟩
    simp [intOf];omega
 ·obtain rfl:i=nf:=ZO;have a0:=Fm.br f
  have⟨a',c',e,aF⟩:=hi.o.o.shape;obtain ⟨g,hg,-⟩:=aF 0 (ZH bc.o);subst hg e;have bw:=O8 (hi.o.done bG bc.o (af bv.o a5.o));clear hi aF a0;go_wp2;go_ret;exact bw.o
def xU(w a d c F f)(hF:bD w a d F)(D:jQ F f)(G:d<=1000)(o k t m i s A z)(M:aG .u64 w o k (aE A))(K:aG .u64 w m i (aE z))(S:0<i)(I:k+i<=65536):
 CL 14 #[SL a d c,lX o k t m i s] w λe X=>∃r,e=RT (.bool r)/\(r=true↔Fm.cR (aU A z) f 0)/\BW w X:=by
 have v:Fm.size f=d:=by rw [<-kN D];exact hF.1
 have x:=Fm.br f
 have⟨p,y⟩:=EX (w.alloc (CE #[SL o k t,SL m i s] 25))
 have h:BW w p:=y▸ah _ _
 have l:=aT w #[SL o k t,SL m i s] 25
 rw [y]at l
 have P:=(l 0 _ rfl).1
 have Q:=(l 1 _ rfl).1
 have q:Hid (CL 36 #[SL a d c,.agg #[SL o k t,SL m i s]] p (wu p A z f d (k+i))):=Ei p a d c F f (hF.ag h) D G o k t m i s A z (M.ag h) (K.ag h) S I
 have B:=O8 h
 have⟨j,H⟩:=EX (d-1)
 have N:=O8 H
 have U:j<d:=ZO
 have T:(j:Int)<d:=ZO
 have V:(0:Int)<d:=ZO
 have W:IntKind.i64.wrap ((d:Int)-1)=(j:Int):=by have e:(d:Int)-1=(j:Int):=ZO;rw [e];exact Ql _ ZO
 have E:(0:Int)<((k+i:Nat):Int):=ZO
 have⟨n,J⟩:=EX (k+i)
 rw [J]at q E
 clear hF D M K h l v x H J I
 go_enter func14,ntmps14
 go_upto_region 2 with(go_at_call 36;apply q.o.mono;rintro e w2 ⟨g,Y,b,r,rfl,R,Z,L,u⟩;rw [N.o]at R;have O:=O8 L;have C:=O8 u;clear L u)
 clear P Q
 go_wp2
 go_ret
 exact ⟨_,rfl,O.o,af B.o C.o⟩
section
open Go.Maps
structure kV (w0 w:WD) (m:Nat) (fv:Value) (s:Int) (iv nv zv:Value) (k:Nat) (why:Int):Prop where
 aJ:BW w0 w
 lo:w0.heap.size<=m
 dB:w.heap[m]? =some (.cells #[fv,IV s,iv,nv,zv,IV why] 51 (0,0))
 Mw:∃a,Sl w 3 zv k a
 KJ:∀b,zv.ownBlock=some b->w0.heap.size<=b/\b≠m
def eV(m:Nat)(zv:Value)(k:Nat):Prop:=k=m\/zv.ownBlock=some k
section
variable {w0 w w1 w5 w6:WD} {m k:Nat} {fv iv nv zv zv':Value} {s why:Int} {ys:List Value}
def kV.lt(h:kV w0 w m fv s iv nv zv k why):m<w.heap.size:=(Pb.1 h.dB).1
def kV.dY(h:kV w0 w m fv s iv nv zv k why):∀b,eV m zv b->b<w.heap.size/\w0.heap.size<=b:=λb a=>by obtain rfl|a:=a;exact ⟨h.lt,h.lo⟩;have⟨d,c⟩:=h.Mw;exact ⟨c.lt b a,(h.KJ b a).1⟩
def kV.ag(h:kV w0 w m fv s iv nv zv k why)(a:BW w w1):kV w0 w1 m fv s iv nv zv k why:=by have⟨c,b⟩:=h.Mw;exact ⟨af h.aJ a,h.lo,(a.block _ h.lt).trans h.dB,⟨c,b.ax (aj.aC a) (λg e s=>ZH (b.lt g e))⟩,h.KJ⟩
def kV.cells(h:kV w0 w m fv s iv nv zv k why):w.cell? (AD m 0)=some fv/\w.cell? (AD m 1)=some (IV s)/\w.cell? (AD m 2)=some iv/\w.cell? (AD m 3)=some nv/\w.cell? (AD m 4)=some zv/\w.cell? (AD m 5)=some (IV why):=by refine ⟨?_,?_,?_,?_,?_,?_⟩<;>(rw [Pa h.dB];rfl)
def kV.free(h:kV w0 w m fv s iv nv zv k why)(i):FZ w m i:=Pg h.dB i
def kV.write(h:kV w0 w m fv s iv nv zv k why){c d f l a}(j:aj (λb=>b=m) w w1)(i:HC w1 m #[c,IV l,d,f,zv,IV a] 51):kV w0 w1 m c l d f zv k a:=by have⟨p,o⟩:=h.Mw;exact ⟨h.aJ.trans (j.ag h.aJ.size λb i e=>ZH h.lo),h.lo,i,⟨p,o.ax j (λg e n=>(h.KJ g e).2 n)⟩,h.KJ⟩
def kV.Oi(h:kV w0 w m fv s iv nv zv k why)(v):kV w0 (w.setCell (AD m 0) v) m v s iv nv zv k why/\aj (λb=>b=m) w (w.setCell (AD m 0) v):=by have a:aj (λb=>b=m) w (w.setCell (AD m 0) v):=(aj.refl (λb=>b=m) w).setCell (p:=(AD m 0)) (λ_=>rfl) _;exact ⟨h.write a (by simp [HC,World.setCell,P7,h.dB]),a⟩
def kV.Oh(h:kV w0 w m fv s iv nv zv k why)(d a c):kV w0 (((w.setCell (AD m 1) (IV d)).setCell (AD m 2) a).setCell (AD m 3) c) m fv d a c zv k why/\aj (λb=>b=m) w (((w.setCell (AD m 1) (IV d)).setCell (AD m 2) a).setCell (AD m 3) c):=by have e:aj (λb=>b=m) w (((w.setCell (AD m 1) (IV d)).setCell (AD m 2) a).setCell (AD m 3) c):=(((aj.refl (λb=>b=m) w).setCell (p:=(AD m 1)) (λ_=>rfl) _).setCell (p:=(AD m 2)) (λ_=>rfl) _).setCell (p:=(AD m 3)) (λ_=>rfl) _;exact ⟨h.write e (by simp [HC,World.setCell,P7,h.dB]),e⟩
def kV.OQ(h:kV w0 w m fv s iv nv zv k why)(e):kV w0 (w.setCell (AD m 5) (IV e)) m fv s iv nv zv k e/\aj (λb=>b=m) w (w.setCell (AD m 5) (IV e)):=by have a:aj (λb=>b=m) w (w.setCell (AD m 5) (IV e)):=(aj.refl (λb=>b=m) w).setCell (p:=(AD m 5)) (λ_=>rfl) _;exact ⟨h.write a (by simp [HC,World.setCell,P7,h.dB]),a⟩
def kV.grow(h:kV w0 w m fv s iv nv zv k why)(c:BW w w5)(l:Sl w6 3 zv' (k+1) ys)(d:aj (λb=>zv.ownBlock=some b) w5 w6)(i:dQ w5 zv zv'):
 kV w0 (w6.setCell (AD m 4) zv') m fv s iv nv zv' (k+1) why/\aj (eV m zv) w (w6.setCell (AD m 4) zv')/\∀b,eV m zv' b->eV m zv b\/w.heap.size<=b:=by
 have j:=h.ag c
 have u:=(d.block m j.lt (λe=>(h.KJ m e).2 rfl)).trans j.dB
 have f:aj (λb=>b=m) w6 (w6.setCell (AD m 4) zv'):=(aj.refl (λb=>b=m) w6).setCell (p:=(AD m 4)) (λ_=>rfl) _
 have n:aj (eV m zv) w w5:=aj.mono (aj.aC c) (λb c e=>ZO)
 have r:∀b,zv'.ownBlock=some b->w0.heap.size<=b/\b≠m:=λb e=>by
  obtain a|⟨t,a,o⟩:=i;exact h.KJ b (ZR a.symm e);rw [a]at e;cases e
  have v:=j.lt;have x:=j.aJ.size;exact ⟨ZO,ZO⟩
 have q:aj (eV m zv) w (w6.setCell (AD m 4) zv'):=(n.then d (λ_ _ e=>.inr e)).then f (λ_ _ e=>.inl e)
 refine ⟨⟨h.aJ.trans (q.ag h.aJ.size λb c e=>ZH ((h.dY b e).2)),h.lo,by simp [HC,World.setCell,P7,u],⟨ys,l.ax f (λg e a=>(r g e).2 a)⟩,r⟩,q,λb e=>?_⟩
 obtain e|e:=e
 exact .inl (.inl e)
 obtain a|⟨t,a,o⟩:=i
 exact .inl (.inr (ZR a.symm e))
 rw [a]at e;cases e;exact .inr (PG c.size o)
def eV.ax{S}(c:aj (eV m zv) w w1)(a:∀b,b<w.heap.size->eV m zv b->S b):aj S w w1:=c.mono a
end
def FI.get{w A s a b g c d n}(h:FI w A (.agg #[IV s,SL a b g,SL c d n])):cm w A a b c d/\s=(A.sets:Int):=by obtain ⟨f,j,i,l,p,o,e,h⟩:=h;simp only [Value.agg.injEq,Array.mk.injEq,Rk,Value.int.injEq,Value.slice.injEq,true_and,and_true]at e;obtain ⟨rfl,⟨rfl,rfl,rfl⟩,rfl,rfl,rfl⟩:=e;exact ⟨h,rfl⟩
def OF(w:WD)(b:OA)(n:Nat)(f:Fm)(j:WD)(s:Int)(c:OA)(e d:Nat)(g:OA)(i h:Nat)(a:Int):Prop:=
 a=0/\(∃A,(∃_:kF f A,True)/\Ou j (oA w b) A (.agg #[IV s,SL c e d,SL g i h])/\gL A/\A.sets=(dL f n).length)\/a≠0/\(50<n\/16<(dL f n).length\/l9 f n)
def Dj.one{w l o n f e}(h:Dj w o n f e l):∃s b d c g j i a,e=RT (.tuple #[.agg #[IV s,SL b d c,SL g j i],IV a])/\BW w l/\OF w o n f l s b d c g j i a:=by obtain ⟨p,⟨A,v,rfl,x,q,u,y⟩|⟨a,rfl,r,t⟩⟩:=h;obtain ⟨b,d,c,g,j,i,rfl,-⟩:=q.Dk;exact ⟨_,b,d,c,g,j,i,0,rfl,p,.inl ⟨rfl,A,x,q,u,y⟩⟩;exact ⟨0,none,0,0,none,0,0,a,rfl,p,.inr ⟨r,t⟩⟩
def Oz(w:WD)(A:Au)(h:WD)(s:Int)(b:OA)(d c:Nat)(e:OA)(g f:Nat)(a:Int):Prop:=
 a=0/\(∃D,(∃_:NK A D,True)/\Ai h w.heap.size D (.agg #[IV s,SL b d c,SL e g f])/\gL D)\/a≠0/\jR A
def Dc.one{w j A e}(h:Dc w A e j):∃s b d c f i g a,e=RT (.tuple #[.agg #[IV s,SL b d c,SL f i g],IV a])/\BW w j/\Oz w A j s b d c f i g a:=by obtain ⟨l,⟨D,v,rfl,r,n,q⟩|⟨a,rfl,o,p⟩⟩:=h;obtain ⟨b,d,c,f,i,g,rfl,-⟩:=n.Dk;exact ⟨_,b,d,c,f,i,g,0,rfl,l,.inl ⟨rfl,D,r,n,q⟩⟩;exact ⟨0,none,0,0,none,0,0,a,rfl,l,.inr ⟨o,p⟩⟩
def kV.Mv{w0 w m k fv iv nv zv s why}(h:kV w0 w m fv s iv nv zv k why)(d a c e):kV w0 ((((w.setCell (AD m 1) (IV d)).setCell (AD m 2) a).setCell (AD m 3) c).setCell (AD m 5) (IV e)) m fv d a c zv k e/\
 aj (λb=>b=m) w ((((w.setCell (AD m 1) (IV d)).setCell (AD m 2) a).setCell (AD m 3) c).setCell (AD m 5) (IV e)):=
 have f:=h.Oh d a c
 have g:=f.1.OQ e
 ⟨g.1,f.2.then g.2 (λ_ _ s=>s)⟩
def lu(m:Nat)(zv zv':Value)(w a:WD):Prop:=aj (eV m zv) w a/\∀b,eV m zv' b->eV m zv b\/w.heap.size<=b
def lu.of{m zv zv' w c d g}(a:BW w c)(f:aj (λb=>b=m) c d)(i:aj (eV m zv) d g)(j:∀b,eV m zv' b->eV m zv b\/d.heap.size<=b):lu m zv zv' w g:=
 ⟨((aj.mono (aj.aC a) (λb a e=>ZO):aj (eV m zv) w c).then f (λ_ _ s=>.inl s)).then i (λ_ _ s=>s),λb e=>(j b e).imp id (λh=>ZI a.size f.size)⟩
def JU{w:WD}{e d a n c b o p}(h:w.ownsRow 0 e d (SL a n c) n p)(i:a=some (AD b o)):(SL a n c).ownBlock=some b:=by obtain ⟨f,-⟩|⟨g,j,l,f,-⟩:=h.2;have:=(P8 f).1;rw [this]at i;cases i;have:=(P8 f).1;rw [this]at i;cases i;rw [f];rfl
def zL{w a n c F}(f:w.ownsRow 0 32 2 (SL a n c) n (bW F))(h:F.length=n):bD w a n F:=by refine ⟨h,?_⟩;obtain ⟨_,p⟩|⟨b,l,o,e,i⟩:=f.2;exact .inl p;injection e with d g e3;subst d;right;refine ⟨b,0,rfl,λj q=>?_⟩;have⟨d,g⟩:=gI F j (ZR h q);refine ⟨?_,?_⟩;rw [PU,Qj (size:=2) f (j*2) ZO];exact d;rw [PU,Qj (size:=2) f (j*2+1) ZO];exact g
end
section
open Go.Maps
def D6(w0 w m a n c F f s iv nv zv k)(h:kV w0 w m (SL a n c) s iv nv zv k 0)(hF:bD w a n F)(hf:jQ F f)(hn:n<=1000)(hk:k<=100):
 CL 18 #[PT m] w λe w'=>e=RT (.tuple #[])/\∃P n' c' ac,kV w0 w' m (SL P n' c') s iv nv ac (k+1) 0/\FA w' P n' (Fm.eF false (.neg f))/\lu m zv ac w w':=by
 have⟨i3,ai,al,ak,ah⟩:=P6 Tryz.eA
 have ab:0<n:=by rw [<-hF.1,kN hf];exact Fm.br f
 have HN:=O8 (LB a n c F f w hF (λe=>by obtain h0|⟨b,o,h1,-⟩:=hF.2;omega;rw [e]at h1;cases h1) ZO hf)
 have N:Hid (∀(I:WD)(Q:OA)(R:Nat),bP w I (SL Q (n+1) R) (n+1) (F++[(4,0)])->CL 39 #[SL Q (n+1) R] I λe w'=>∃P m c',e=RT (SL P m c')/\bP I w' (SL P m c') m (Fm.enc (Fm.eF false (.neg f)))):=λI Q R B=>G3 Q (n+1) R _ _ I B.ak ZO (Fc hf 0)
 have HM:=O8 h
 obtain ⟨c0,-,-,-,-,-⟩:=h.cells
 clear h hF hf ab
 go_enter func18,ntmps18
 go_upto_region 1 with(first
  |(go_at_call 40;apply HN.o.mono;rintro e I ⟨Q,R,rfl,B⟩;have q:=O8 B;clear B;have M:=O8 (N.o _ _ _ q.o))
  |(go_at_call 39;apply M.o.mono;rintro e w3 ⟨a3,t,c3,rfl,B⟩;have j:=O8 B;clear B;have v:=O8 (HM.o.ag (af q.o.aJ j.o.aJ));obtain ⟨e0,-,-,-,-,-⟩:=v.o.cells;have z0:=v.o.free 0))
 clear HN N M c0 e0 z0
 have⟨U,X⟩:=v.o.Oi (SL a3 t c3)
 have p:=O8 U
 have J:=O8 X
 have ag:=O8 HM.o.dY
 clear U X HM v
 generalize w3.setCell (AD m 0) (SL a3 t c3)=u at *
 have⟨q0,q1,q2,q3,q4,q5⟩:=p.o.cells
 have⟨xs,D⟩:=p.o.Mw
 have z:=O8 D
 obtain ⟨G,H,am⟩:∃G H,zv=SL G k H:=by obtain ⟨a,c,e,-⟩:=D.shape;exact ⟨a,c,e⟩
 subst am
 clear D q1 q2 q3 q5
 refine aw 14 (S:=λW=>W.cell? (AD m 0)=some (SL a3 t c3)/\W.cell? (AD m 4)=some (SL G k H)) ZK (⟨q0,q4⟩) (λA=>?_)
 refine aB 0 ?_
 refine aB 1 ?_
 refine aB 2 ?_
 refine aB 3 ?_
 refine aB 4 ?_
 refine aB 5 ?_
 refine aB 6 ?_
 refine aB 7 ?_
 refine aB 8 ?_
 refine aB 9 ?_
 have i:Hid (BW u ((u.alloc (CE #[IV t] 3)).drew)):=((Pn _ _).alloc (Pf _) _).drew
 have c5:(u.alloc (CE #[IV t] 3)).drew.cell? (AD u.heap.size 0)=some (IV t):=Py (w:=u) _ 3 u.heap.size 0 rfl
 have E:=(i.o.cell (O9 _ _ q0)).trans q0
 have y:=(i.o.cell (O9 _ _ q4)).trans q4
 refine aK 10 λK d=>?_
 go_simp
 refine d.o _ _ (λ_=>⟨E,y⟩) ?_
 clear d K
 try walk_nrm
 have O:Hid (Sl (u.alloc (CE #[IV t] 3)).drew 3 (SL G k H) k xs):=z.o.ax (aj.aC i.o) (λg e s=>ZH (z.o.lt g e))
 clear A q0 q4
 generalize (u.alloc (CE #[IV t] 3)).drew=w5 at *
 generalize u.heap.size=h5 at c5⊢
 refine aK 11 λK d=>?_
 rw [PW (by rfl)]
 apply aY.o
 refine eI (.tmp 15) (.tmp 21) 33 rfl 3 i3 (IV 0) 8 QD ai al ak ah rfl ZD (SL G k H) k _ rfl O.o (AD h5 0) (IV t) rfl rfl c5 ZO (λv6 w6 C r aa=>?_)
 have x:¬(SL G k H).ownBlock=some m:=λe=>(p.o.KJ m e).2 rfl
 have r0:=r.aq E x
 have r4:=r.aq y x
 have f6:w6.frozen? (AD m 4)=false:=(PK (r.block m (O9 _ _ y) x)).trans (Pg (p.o.ag i.o).dB 4)
 obtain ⟨a6,l6,c6,e6⟩:∃a l c,v6=SL a l c:=by obtain ⟨a,c,e,-⟩:=C.shape;exact ⟨a,_,c,e⟩
 subst e6
 have⟨V,Y,T⟩:=p.o.grow i.o C r aa
 have ae:=O8 V
 have L:=O8 Y
 have ad:=O8 T
 clear V Y T C aa r E y c5 x z O
 refine d.o _ _ (λ_=>⟨r0,r4⟩) ?_
 clear d K
 try walk_nrm
 refine aK 12 λK d=>?_
 go_simp
 refine d.o _ _ (λ_=>⟨r0,r4⟩) ?_
 clear d K
 try walk_nrm
 refine aK 13 λK d=>?_
 go_simp
 refine d.o _ _ (λ_=>⟨r0,r4⟩) ?_
 clear d K
 try walk_nrm
 refine aK 14 λK d=>?_
 go_simp
 refine d.q ?_
 clear d K
 refine az ZK ?_
 clear r0 r4 f6 i
 generalize w6.setCell (AD m 4) (SL a6 l6 c6)=w7 at *
 go_wp2
 refine R9 (Rq ZK ..) rfl ?_
 refine ⟨rfl,a3,t,c3,_,ae.o,?_,lu.of (af q.o.aJ j.o.aJ) J.o L.o ad.o⟩
 have Z:∀b,eV m (SL G k H) b->b<w.heap.size:=λb hb=>(ag.o b hb).1
 exact zL (bp (bp j.o.cO J.o (λg e s=>by have:=j.o.dJ g e;have:=Z m (.inl rfl);have:=q.o.aJ.size;omega)) L.o (λg e s=>by have:=j.o.dJ g e;have:=Z g s;have:=q.o.aJ.size;omega)) j.o.bA
def CP(w0 w m a n c f s iv nv zv k)(h:kV w0 w m (SL a n c) s iv nv zv k 0)(hF:FA w a n f)(hN:Fm.gR f)(V:eh f)(hn:n<=1000)(hk:k<=100):
 CL 19 #[PT m] w λe w'=>e=RT (.tuple #[])/\∃a' n' c' H g,kV w0 w' m (SL a' n' c') s iv nv H (k+1) 0/\FA w' a' n' g/\mX n f g/\(∀b,eV m H b->∀o,a'≠some (AD b o))/\lu m zv H w w':=by
 have⟨i3,ad,af,ae,ac⟩:=P6 Tryz.eA
 have HN:=O8 (Ek a n c f w hF hN V hn)
 have HM:=O8 h
 obtain ⟨c0,-,-,-,-,-⟩:=h.cells
 clear h hF hN V
 go_enter func19,ntmps19
 go_upto_region 1 with(go_at_call 41;apply HN.o.mono;rintro e w3 ⟨X,r,Y,g,rfl,hm,hs⟩;have d:=O8 hm;have ab:=O8 hs;clear hm hs;have u:=O8 (HM.o.ag d.o.aJ);obtain ⟨e0,-,-,-,-,-⟩:=u.o.cells;have z0:=u.o.free 0)
 clear HN c0 e0 z0
 have⟨P,R⟩:=u.o.Oi (SL X r Y)
 have p:=O8 P
 have B:=O8 R
 have L:=O8 HM.o.dY
 clear P R HM u
 generalize w3.setCell (AD m 0) (SL X r Y)=t at *
 have⟨Z,q1,q2,q3,q4,q5⟩:=p.o.cells
 have⟨xs,F⟩:=p.o.Mw
 have C:=O8 F
 obtain ⟨z,A,ag⟩:∃z A,zv=SL z k A:=by obtain ⟨a,c,e,-⟩:=F.shape;exact ⟨a,c,e⟩
 subst ag
 clear F q1 q2 q3 q5
 refine aw 14 (S:=λW=>W.cell? (AD m 0)=some (SL X r Y)/\W.cell? (AD m 4)=some (SL z k A)) ZK (⟨Z,q4⟩) (λD=>?_)
 refine aB 0 ?_
 refine aB 1 ?_
 refine aB 2 ?_
 refine aB 3 ?_
 refine aB 4 ?_
 refine aB 5 ?_
 refine aB 6 ?_
 refine aB 7 ?_
 refine aB 8 ?_
 refine aB 9 ?_
 have j:Hid (BW t ((t.alloc (CE #[IV r] 3)).drew)):=((Pn _ _).alloc (Pf _) _).drew
 have c5:(t.alloc (CE #[IV r] 3)).drew.cell? (AD t.heap.size 0)=some (IV r):=Py (w:=t) _ 3 t.heap.size 0 rfl
 have G:=(j.o.cell (O9 _ _ Z)).trans Z
 have y:=(j.o.cell (O9 _ _ q4)).trans q4
 refine aK 10 λK i=>?_
 go_simp
 refine i.o _ _ (λ_=>⟨G,y⟩) ?_
 clear i K
 try walk_nrm
 have M:Hid (Sl (t.alloc (CE #[IV r] 3)).drew 3 (SL z k A) k xs):=C.o.ax (aj.aC j.o) (λg e s=>ZH (C.o.lt g e))
 clear D Z q4
 generalize (t.alloc (CE #[IV r] 3)).drew=w5 at *
 generalize t.heap.size=h5 at c5⊢
 refine aK 11 λK i=>?_
 rw [PW (by rfl)]
 apply aY.o
 refine eI (.tmp 14) (.tmp 20) 33 rfl 3 i3 (IV 0) 8 QD ad af ae ac rfl ZD (SL z k A) k _ rfl M.o (AD h5 0) (IV r) rfl rfl c5 ZO (λv6 w6 E q U=>?_)
 have x:¬(SL z k A).ownBlock=some m:=λe=>(p.o.KJ m e).2 rfl
 have r0:=q.aq G x
 have r4:=q.aq y x
 have f6:w6.frozen? (AD m 4)=false:=(PK (q.block m (O9 _ _ y) x)).trans (Pg (p.o.ag j.o).dB 4)
 obtain ⟨a6,l6,c6,e6⟩:∃a l c,v6=SL a l c:=by obtain ⟨a,c,e,-⟩:=E.shape;exact ⟨a,_,c,e⟩
 subst e6
 have⟨Q,T,O⟩:=p.o.grow j.o E q U
 have aa:=O8 Q
 have J:=O8 T
 have I:=O8 O
 clear Q T O E U q G y c5 x C M
 refine i.o _ _ (λ_=>⟨r0,r4⟩) ?_
 clear i K
 try walk_nrm
 refine aK 12 λK i=>?_
 go_simp
 refine i.o _ _ (λ_=>⟨r0,r4⟩) ?_
 clear i K
 try walk_nrm
 refine aK 13 λK i=>?_
 go_simp
 refine i.o _ _ (λ_=>⟨r0,r4⟩) ?_
 clear i K
 try walk_nrm
 refine aK 14 λK i=>?_
 go_simp
 refine i.q ?_
 clear i K
 refine az ZK ?_
 clear r0 r4 f6 j
 generalize w6.setCell (AD m 4) (SL a6 l6 c6)=w7 at *
 go_wp2
 refine R9 (Rq ZK ..) rfl ?_
 refine ⟨rfl,X,r,Y,_,g,aa.o,?_,ab.o,?_,lu.of d.o.aJ B.o J.o I.o⟩
 have v:∀b,eV m (SL z k A) b->b<w.heap.size:=λb N=>(L.o b N).1
 exact zL (bp (bp d.o.cO B.o (λb e s=>ZI (d.o.dJ b e) (v m (.inl rfl)))) J.o (λb e s=>ZI (d.o.dJ b e) (v b s))) d.o.bA
 intro b N o e
 have v:∀b,eV m (SL z k A) b->b<w.heap.size:=λb N=>(L.o b N).1
 have h1:=JU d.o.cO e
 have h2:=d.o.dJ b h1
 have h3:=dx d.o.cO b h1
 obtain h4|h4:=I.o b N
 have:=v b h4;omega
 have:=B.o.size
 omega
def Hv(w0 w m a n c f s ia il ic na nl nc zv k)(h:kV w0 w m (SL a n c) s (SL ia il ic) (SL na nl nc) zv k 0)(hF:FA w a n f)(B:∀b,eV m zv b->∀o,a≠some (AD b o))(U:ep w)(hN:Fm.gR f)(ac:eh f)(hn:n<=1000)(hk:k<=100):
 CL 20 #[PT m] w λe w'=>e=RT (.tuple #[])/\∃s' ad ae au af ag av D ah,kV w0 w' m (SL a n c) s' (SL ad ae au) (SL af ag av) ah (k+1) D/\lu m zv ah w w'/\((D=0/\∃A,(∃_:kF f A,True)/\s'=(A.sets:Int)/\cm w' A ad ae af ag/\gL A/\A.sets=(dL f n).length)\/D≠0/\(50<n\/16<(dL f n).length\/l9 f n)):=by
 have⟨i3,ao,aq,ap,an⟩:=P6 Tryz.eA
 have HN:=O8 (Ht w n f a c hF U hN ac ZO)
 have HM:=O8 h
 obtain ⟨c0,c1,c2,am,-,-⟩:=h.cells
 have T:=O8 B
 clear hF U hN ac B
 clear h
 go_enter func20,ntmps20
 go_upto_region 1 with(go_at_call 42;apply HN.o.mono;intro e w3 t;obtain ⟨s3,H,J,I,x,d,y,D,rfl,hb,hr⟩:=t.one;clear t;have HR:=O8 hr;have O:=O8 hb;clear hr hb;have i:=O8 (HM.o.ag O.o);have⟨e0,e1,e2,e3,e4,e5⟩:=i.o.cells;have z1:=i.o.free 1;have z2:=i.o.free 2;have z3:=i.o.free 3;have z5:=i.o.free 5)
 clear HN c0 c1 c2 am e0 e1 e2 e3 e4 e5 z1 z2 z3 z5
 have⟨X,Z⟩:=i.o.Mv s3 (SL H J I) (SL x d y) D
 have q:=O8 X
 have P:=O8 Z
 have al:=O8 HM.o.dY
 clear X Z HM i
 generalize (((w3.setCell (AD m 1) (IV s3)).setCell (AD m 2) (SL H J I)).setCell (AD m 3) (SL x d y)).setCell (AD m 5) (IV D)=u at *
 have⟨q0,q1,q2,q3,q4,q5⟩:=q.o.cells
 have⟨xs,G⟩:=q.o.Mw
 have C:=O8 G
 obtain ⟨M,N,ar⟩:∃M N,zv=SL M k N:=by obtain ⟨a,c,e,-⟩:=G.shape;exact ⟨a,c,e⟩
 subst ar
 clear G q0 q1 q2 q5
 refine aw 15 (S:=λW=>W.cell? (AD m 3)=some (SL x d y)/\W.cell? (AD m 4)=some (SL M k N)) ZK (⟨q3,q4⟩) (λE=>?_)
 refine aB 0 ?_
 refine aB 1 ?_
 refine aB 2 ?_
 refine aB 3 ?_
 refine aB 4 ?_
 refine aB 5 ?_
 refine aB 6 ?_
 refine aB 7 ?_
 refine aB 8 ?_
 refine aB 9 ?_
 refine aB 10 ?_
 have p:Hid (BW u ((u.alloc (CE #[IV d] 3)).drew)):=((Pn _ _).alloc (Pf _) _).drew
 have c5:(u.alloc (CE #[IV d] 3)).drew.cell? (AD u.heap.size 0)=some (IV d):=Py (w:=u) _ 3 u.heap.size 0 rfl
 have L:=(p.o.cell (O9 _ _ q3)).trans q3
 have z:=(p.o.cell (O9 _ _ q4)).trans q4
 refine aK 11 λK j=>?_
 go_simp
 refine j.o _ _ (λ_=>⟨L,z⟩) ?_
 clear j K
 try walk_nrm
 have R:Hid (Sl (u.alloc (CE #[IV d] 3)).drew 3 (SL M k N) k xs):=C.o.ax (aj.aC p.o) (λg e s=>ZH (C.o.lt g e))
 clear E q3 q4
 generalize (u.alloc (CE #[IV d] 3)).drew=w5 at *
 generalize u.heap.size=h5 at c5⊢
 refine aK 12 λK j=>?_
 rw [PW (by rfl)]
 apply aY.o
 refine eI (.tmp 20) (.tmp 27) 33 rfl 3 i3 (IV 0) 8 QD ao aq ap an rfl ZD (SL M k N) k _ rfl R.o (AD h5 0) (IV d) rfl rfl c5 ZO (λv6 w6 F r ab=>?_)
 have v:¬(SL M k N).ownBlock=some m:=λe=>(q.o.KJ m e).2 rfl
 have r0:=r.aq L v
 have r4:=r.aq z v
 have f6:w6.frozen? (AD m 4)=false:=(PK (r.block m (O9 _ _ z) v)).trans (Pg (q.o.ag p.o).dB 4)
 obtain ⟨a6,l6,c6,e6⟩:∃a l c,v6=SL a l c:=by obtain ⟨a,c,e,-⟩:=F.shape;exact ⟨a,_,c,e⟩
 subst e6
 have⟨Y,aa,V⟩:=q.o.grow p.o F r ab
 have ak:=O8 Y
 have Q:=O8 aa
 have ai:=O8 V
 clear Y aa V F ab r L z c5 v C R
 refine j.o _ _ (λ_=>⟨r0,r4⟩) ?_
 clear j K
 try walk_nrm
 refine aK 13 λK j=>?_
 go_simp
 refine j.o _ _ (λ_=>⟨r0,r4⟩) ?_
 clear j K
 try walk_nrm
 refine aK 14 λK j=>?_
 go_simp
 refine j.o _ _ (λ_=>⟨r0,r4⟩) ?_
 clear j K
 try walk_nrm
 refine aK 15 λK j=>?_
 go_simp
 refine j.q ?_
 clear j K
 refine az ZK ?_
 clear r0 r4 f6 p
 generalize w6.setCell (AD m 4) (SL a6 l6 c6)=w7 at *
 go_wp2
 refine R9 (Rq ZK ..) rfl ?_
 have hS:∀b,eV m (SL M k N) b->oA w a b:=λb s=>⟨UT (al.o b s).1,T.o b s⟩
 have hk:aj (oA w a) w3 w7:=(P.o.mono (λb _ e=>hS b (.inl e))).then Q.o (λb _ s=>hS b s)
 refine ⟨rfl,s3,H,J,I,x,d,y,D,_,ak.o,lu.of O.o P.o Q.o ai.o,?_⟩
 exact HR.o.imp (λh=>⟨h.1,by obtain ⟨-,A,h1,h2,h3,h4⟩:=h;have⟨h5,h6⟩:=(h2 w7 hk).get;exact ⟨A,h1,h6,h5,h3,h4⟩⟩) id
def LD(w0 w m fv A ia il ic na nl nc zv k)(h:kV w0 w m fv (A.sets:Int) (SL ia il ic) (SL na nl nc) zv k 0)(hA:cm w A ia il na nl)(hC:gL A)(hk:k<=100):
 CL 21 #[PT m] w λe w'=>e=RT (.tuple #[])/\∃s' X Z Y aa ac ab y ad,kV w0 w' m fv s' (SL X Z Y) (SL aa ac ab) ad (k+1) y/\lu m zv ad w w'/\((y=0/\∃D,(∃_:NK A D,True)/\Ai w' w.heap.size D (.agg #[IV s',SL X Z Y,SL aa ac ab])/\gL D)\/y≠0/\jR A):=by
 have⟨i3,ak,am,al,ai⟩:=P6 Tryz.eA
 have HN:=O8 (DH w A ia il ic na nl nc hA hC)
 have HM:=O8 h
 obtain ⟨c0,c1,c2,ah,-,-⟩:=h.cells
 clear hA hC
 clear h
 go_enter func21,ntmps21
 go_upto_region 1 with(go_at_call 43;apply HN.o.mono;intro e w3 p;obtain ⟨s3,E,G,F,t,d,u,y,rfl,hb,hr⟩:=p.one;clear p;have HR:=O8 hr;have L:=O8 hb;clear hr hb;have f:=O8 (HM.o.ag L.o);have⟨e0,e1,e2,e3,e4,e5⟩:=f.o.cells;have z1:=f.o.free 1;have z2:=f.o.free 2;have z3:=f.o.free 3;have z5:=f.o.free 5)
 clear HN c0 c1 c2 ah e0 e1 e2 e3 e4 e5 z1 z2 z3 z5
 have⟨Q,T⟩:=f.o.Mv s3 (SL E G F) (SL t d u) y
 have n:=O8 Q
 have M:=O8 T
 have ag:=O8 HM.o.dY
 clear Q T HM f
 generalize (((w3.setCell (AD m 1) (IV s3)).setCell (AD m 2) (SL E G F)).setCell (AD m 3) (SL t d u)).setCell (AD m 5) (IV y)=q at *
 have⟨q0,q1,q2,q3,q4,q5⟩:=n.o.cells
 have⟨xs,C⟩:=n.o.Mw
 have x:=O8 C
 obtain ⟨I,J,an⟩:∃I J,zv=SL I k J:=by obtain ⟨a,c,e,-⟩:=C.shape;exact ⟨a,c,e⟩
 subst an
 clear C q0 q1 q2 q5
 refine aw 15 (S:=λW=>W.cell? (AD m 3)=some (SL t d u)/\W.cell? (AD m 4)=some (SL I k J)) ZK (⟨q3,q4⟩) (λz=>?_)
 refine aB 0 ?_
 refine aB 1 ?_
 refine aB 2 ?_
 refine aB 3 ?_
 refine aB 4 ?_
 refine aB 5 ?_
 refine aB 6 ?_
 refine aB 7 ?_
 refine aB 8 ?_
 refine aB 9 ?_
 refine aB 10 ?_
 have j:Hid (BW q ((q.alloc (CE #[IV d] 3)).drew)):=((Pn _ _).alloc (Pf _) _).drew
 have c5:(q.alloc (CE #[IV d] 3)).drew.cell? (AD q.heap.size 0)=some (IV d):=Py (w:=q) _ 3 q.heap.size 0 rfl
 have H:=(j.o.cell (O9 _ _ q3)).trans q3
 have v:=(j.o.cell (O9 _ _ q4)).trans q4
 refine aK 11 λK i=>?_
 go_simp
 refine i.o _ _ (λ_=>⟨H,v⟩) ?_
 clear i K
 try walk_nrm
 have O:Hid (Sl (q.alloc (CE #[IV d] 3)).drew 3 (SL I k J) k xs):=x.o.ax (aj.aC j.o) (λg e s=>ZH (x.o.lt g e))
 clear z q3 q4
 generalize (q.alloc (CE #[IV d] 3)).drew=w5 at *
 generalize q.heap.size=h5 at c5⊢
 refine aK 12 λK i=>?_
 rw [PW (by rfl)]
 apply aY.o
 refine eI (.tmp 20) (.tmp 27) 33 rfl 3 i3 (IV 0) 8 QD ak am al ai rfl ZD (SL I k J) k _ rfl O.o (AD h5 0) (IV d) rfl rfl c5 ZO (λv6 w6 B o V=>?_)
 have r:¬(SL I k J).ownBlock=some m:=λe=>(n.o.KJ m e).2 rfl
 have r0:=o.aq H r
 have r4:=o.aq v r
 have f6:w6.frozen? (AD m 4)=false:=(PK (o.block m (O9 _ _ v) r)).trans (Pg (n.o.ag j.o).dB 4)
 obtain ⟨a6,l6,c6,e6⟩:∃a l c,v6=SL a l c:=by obtain ⟨a,c,e,-⟩:=B.shape;exact ⟨a,_,c,e⟩
 subst e6
 have⟨R,U,P⟩:=n.o.grow j.o B o V
 have af:=O8 R
 have N:=O8 U
 have ae:=O8 P
 clear R U P B V o H v c5 r x O
 refine i.o _ _ (λ_=>⟨r0,r4⟩) ?_
 clear i K
 try walk_nrm
 refine aK 13 λK i=>?_
 go_simp
 refine i.o _ _ (λ_=>⟨r0,r4⟩) ?_
 clear i K
 try walk_nrm
 refine aK 14 λK i=>?_
 go_simp
 refine i.o _ _ (λ_=>⟨r0,r4⟩) ?_
 clear i K
 try walk_nrm
 refine aK 15 λK i=>?_
 go_simp
 refine i.q ?_
 clear i K
 refine az ZK ?_
 clear r0 r4 f6 j
 generalize w6.setCell (AD m 4) (SL a6 l6 c6)=w7 at *
 go_wp2
 refine R9 (Rq ZK ..) rfl ?_
 have hS:∀b,eV m (SL I k J) b->(λb=>b<w.heap.size) b:=λb s=>(ag.o b s).1
 have hk:aj ((λb=>b<w.heap.size)) w3 w7:=(M.o.mono (λb _ e=>hS b (.inl e))).then N.o (λb _ s=>hS b s)
 refine ⟨rfl,s3,E,G,F,t,d,u,y,_,af.o,lu.of L.o M.o N.o ae.o,?_⟩
 exact HR.o.imp (λh=>⟨h.1,by obtain ⟨-,D,h1,h2,h3⟩:=h;exact ⟨D,h1,h2.ax hk,h3⟩⟩) id
def F7(w a n c F)(hF:bD w a n F)(B:n<=4611686018427387903):
 CL 16 #[SL a n c] w λe C=>∃m h D,e=RT (PT m)/\kV w C m (SL a n c) 0 (SN) (SN) D 1 h/\((h=0/\n<=24/\∃f,jQ F f)\/(h≠0/\(24<n\/∀f,¬jQ F f))):=by
 have⟨o,j⟩:=EX (w.alloc (CE #[IV n] 3))
 have i:BW w o:=j▸ah _ _
 have y:Hid (Sl o 3 (SV w.heap.size 1 1) 1 [IV n]):=by rw [<-j];exact Sm w #[IV n] 1 (Pz _) ZD rfl
 have u:=O8 i
 have v:=O8 (Gg a n c F o (hF.ag i) B)
 clear hF i
 go_enter func16,ntmps16
 go_wp2_with (go_at_call 38;apply v.o.mono;rintro e l ⟨h,rfl,q,z⟩;have p:=O8 q;have A:=O8 z;clear q z)
 have⟨t,k⟩:=EX (l.alloc (CE #[SL a n c,IV 0,SN,SN,SV w.heap.size 1 1,IV h] 51))
 have x:BW l t:=k▸ah _ _
 have r:HC t l.heap.size #[SL a n c,IV 0,SN,SN,SV w.heap.size 1 1,IV h] 51:=by rw [<-k];exact (Ph l _).1
 rw [k]
 go_ret
 have d:=af p.o x
 have E:w.heap.size<o.heap.size:=by rw [<-j,PL];omega
 have G:=p.o.size
 exact ⟨l.heap.size,h,_,rfl,⟨af u.o d,ZO,r,⟨_,y.o.ax (aj.aC d) (λg e s=>ZH (y.o.lt g e))⟩,λb e=>by cases e;exact ⟨Pf _,show w.heap.size≠l.heap.size by omega⟩⟩,A.o⟩
def Fu(w m b n)(o:Nat->Nat)(J:Nat->Int->WD->Prop)(I:n<=1000)
 (d:∀i a W,J i a W->CA W m 5 (IV a)/\∀j,j<n->CA W b j (.func (.func (o j)) #[] #[]))
 (g:∀i W,i<n->J i 0 W->CL (o i) #[PT m] W λe z=>e=RT (.tuple #[])/\∃a,J (i+1) a z)
 (f:∀i c W,i<n->(callFunc (o i) c).run prog W=.ok (.enter (o i) c) W) (k) (D:J 0 k w):
 CL 17 #[PT m,SV b n n] w λe z=>e=RT (.tuple #[])/\∃i a,J i a z/\(i=n\/i<=n/\a≠0):=by
 have A:=O8 d
 have h:=O8 g
 have B:=O8 D
 have q:=O8 f
 clear d g D f
 go_enter func17,ntmps17
 go_upto_region 1 with(fail)
 go_loopw [8] (λv wr=>∃(i:Nat)(a:Int),v=IV i/\i<=n/\Hid (J i a wr)) (λv _=>n-(intOf v).toNat)
 exact ⟨0,k,rfl,Pz _,B⟩
 clear B
 obtain ⟨i,a,rfl,y,p⟩:=hrel
 by_cases u:i<n
 have x:(i:Int)<n:=ZO
 have⟨G,C⟩:=A.o i a wr p.o
 have H:=C i u
 clear C
 by_cases t:a=0
 subst t
 have E:=O8 (h.o i wr u p.o)
 have f:=λc W=>q.o i c W u
 clear h A q
 go_wp2_with (with_reducible refine E.o.mono ?_;rintro e K ⟨rfl,s,l⟩;have r:=O8 l;clear l)
 go_roundw
 exact ⟨i+1,s,ZN,ZO,r⟩
 simp [intOf];omega
 clear h q
 have F:((a==0)=false):=Pq.2 t
 go_wp2
 (try simp only [Exit.inBlock,Exit.then])
 refine Qz (Rq ZK ..) rfl ?_
 exact ⟨rfl,i,a,p.o,.inr ⟨y,t⟩⟩
 obtain rfl:i=n:=ZO
 have x:¬(i:Int)<i:=ZO
 go_wp2
 refine R9 (Rq ZK ..) rfl ?_
 exact ⟨rfl,i,a,p.o,.inl rfl⟩
end
def F8(w q):BW w (w.drewN q):=by have h:=PF w.heap.size w;exact ⟨h.os,h.tape,h.output,h.size,h.block⟩
def wS(w i k n c m d f g)(v:aG .i64 w i n (aE f))(x:aG .i64 w k m (aE g))(H:n<=16777216)(G:m<=16777216):
 CL 120 #[SL i n c,SL k m d] w λe o=>e=RT (.bool (decide (f=g)))/\BW w o:=by
 have D:f.length=n:=by have:=v.1;rwa [aD]at this
 have a:g.length=m:=by have:=x.1;rwa [aD]at this
 by_cases b:n=m
 subst b
 obtain u|u:=Qv n
 subst u
 refine (Tryz.slices_Equal_int_empty i k c 0 d w ZO).mono ?_
 rintro e o ⟨rfl,rfl⟩
 have A:=Qy D
 have B:=Qy a
 subst A B
 exact ⟨rfl,PF _ _⟩
 obtain ⟨-,C|⟨y,E,rfl,p⟩⟩:=v
 omega
 obtain ⟨-,C|⟨z,F,rfl,r⟩⟩:=x
 omega
 refine (Tryz.slices_Equal_int y E n c z F n d (aE f) (aE g) w (by rw [aD];omega) (by rw [aD];omega) ZO ZO (λj s=>p j (by rw [aD]at s;omega)) (λj s=>r j (by rw [aD]at s;omega))).mono ?_
 rintro e o ⟨rfl,q,rfl⟩
 refine ⟨?_,F8 w q⟩
 rw [PI (by rw [aD];omega),PI (by rw [aD];omega)]
 congr 2
 by_cases e:f=g
 subst e;simp
 rw [PH e]
 refine Pq.2 λh=>e ?_
 have t:∀(l a:List Nat),aE l=aE a->l=a:=λl a h=>by
  have:(aE l).map Int.toNat=(aE a).map Int.toNat:=by rw [h]
  simpa [aE,Function.comp_def]using this
 exact t _ _ h
 refine (Tryz.slices_Equal_int_lens i k n c m d w b).mono ?_
 rintro e o ⟨rfl,rfl⟩
 refine ⟨?_,PF _ _⟩
 rw [PH]
 intro e;subst e;omega
def NQ(w:WD)(x y:dk)(e:Ending)(a:WD):Prop:=∃B,e=RT (.bool B)/\(B=true↔x=y)/\BW w a
def N9{x y:dk}:x=y↔x.need=y.need/\x.ban=y.ban/\x.inn=y.inn/\x.tO=y.tO:=by cases x;cases y;simp
def Hf(w x y l o j n m v)(O:aG .i64 w l j (aE (dk.tO x)))(P:aG .i64 w o m (aE (dk.tO y)))(J:j<=16777216)(K:m<=16777216):
 CL 122 #[.agg #[UV x.need,UV x.ban,UV x.inn,SL l j n],.agg #[UV y.need,UV y.ban,UV y.inn,SL o m v]] w (NQ w x y):=by
 have⟨q,I⟩:=EX w.heap.size
 have⟨a,d⟩:=EX ((w.alloc (CE #[UV x.need,UV x.ban,UV x.inn,SL l j n] 62)).alloc (CE #[UV y.need,UV y.ban,UV y.inn,SL o m v] 62))
 have i:BW w a:=d▸af (ah _ _) (ah _ _)
 have b:a.heap[q]? =some (.cells #[UV x.need,UV x.ban,UV x.inn,SL l j n] 62 (0,0)):=by rw [<-d,<-I,(Ph _ _).2 _ (by rw [P3];omega)];exact (Ph w _).1
 have c:a.heap[q+1]? =some (.cells #[UV y.need,UV y.ban,UV y.inn,SL o m v] 62 (0,0)):=by rw [<-d,<-I,<-P3 w (CE #[UV x.need,UV x.ban,UV x.inn,SL l j n] 62)];exact (Ph _ _).1
 have X:a.cell? (AD q 0)=some (UV x.need):=CH b
 have Y:a.cell? (AD q 1)=some (UV x.ban):=CH b
 have Z:a.cell? (AD q 2)=some (UV x.inn):=CH b
 have x3:a.cell? (AD q 3)=some (SL l j n):=CH b
 have y0:a.cell? (AD (q+1) 0)=some (UV y.need):=CH c
 have y1:a.cell? (AD (q+1) 1)=some (UV y.ban):=CH c
 have y2:a.cell? (AD (q+1) 2)=some (UV y.inn):=CH c
 have y3:a.cell? (AD (q+1) 3)=some (SL o m v):=CH c
 have p:=O8 (wS a l o j n m v _ _ (O.ag i) (P.ag i) J K)
 have g:Hid (x=y↔x.need=y.need/\x.ban=y.ban/\x.inn=y.inn/\dk.tO x=dk.tO y):=N9
 have f:=O8 i
 clear O P b c i
 generalize x.need=u at *
 generalize y.need=N at *
 generalize x.ban=s at *
 generalize y.ban=L at *
 generalize x.inn=t at *
 generalize y.inn=M at *
 have⟨C,k⟩:=EX (decide (dk.tO x=dk.tO y))
 rw [k]at p
 have E:=O8 k
 clear k
 go_enter func122,ntmps122
 go_upto_region 1 with(fail)
 try rw [d]
 clear d I
 by_cases z:u=N
 subst z
 have Q:((u:Int)==(u:Int))=true:=RP _
 by_cases A:s=L
 subst A
 have S:((s:Int)==(s:Int))=true:=RP _
 by_cases B:t=M
 subst B
 have U:((t:Int)==(t:Int))=true:=RP _
 go_wp2_with (go_at_call 120;apply p.o.mono;rintro e W ⟨rfl,r⟩;have D:=O8 r;clear r)
 go_ret
 refine ⟨C,rfl,?_,af f.o D.o⟩
 rw [g.o,<-E.o];simp
 have U:((t:Int)==(M:Int))=false:=Pq.2 ZO
 have V:(t==M)=false:=Pq.2 B
 have H:=O8 B
 clear B
 go_wp2
 go_ret
 exact ⟨false,rfl,⟨λh=>(ZC h),λh=>absurd (g.o.1 h).2.2.1 H.o⟩,f.o⟩
 have S:((s:Int)==(L:Int))=false:=Pq.2 ZO
 have T:(s==L)=false:=Pq.2 A
 have G:=O8 A
 clear A
 go_wp2
 go_ret
 exact ⟨false,rfl,⟨λh=>(ZC h),λh=>absurd (g.o.1 h).2.1 G.o⟩,f.o⟩
 have Q:((u:Int)==(N:Int))=false:=Pq.2 ZO
 have R:(u==N)=false:=Pq.2 z
 have F:=O8 z
 clear z
 go_wp2
 go_ret
 exact ⟨false,rfl,⟨λh=>(ZC h),λh=>absurd (g.o.1 h).1 F.o⟩,f.o⟩
def Ml(w:WD)(l k:List dk)(e:Ending)(a:WD):Prop:=∃B,e=RT (.bool B)/\(B=true↔l=k)/\BW w a
def yR(w A D ia ja na ma il jl d nc F mc)(r:cm w A ia il na d)(hw:cm w D ja jl ma F)(Y:gL A)(Z:gL D):
 CL 121 #[SL na d nc,SL ma F mc,.func (.func 122) #[] #[]] w (Ml w A.ak D.ak):=by
 have HV:=O8 r
 have HW:=O8 hw
 have HA:=O8 Y
 have HD:=O8 Z
 have L:Hid (A.ak.length=d):=r.bA
 have K:Hid (D.ak.length=F):=hw.bA
 have ag:d<=256:=by rw [<-r.bA];exact Y.many
 have ae:F<=256:=by rw [<-hw.bA];exact Z.many
 clear r hw Y Z
 go_enter func121,ntmps121
 by_cases e:d=F
 ·subst e;have t1:((d:Int)!=(d:Int))=false:=ZS
  go_wp2;go_loopw [17] (λv wr=>∃i:Nat,i<=d/\v=IV i/\Hid (BW w wr)/\Hid (A.ak.take i=D.ak.take i)) (λv _=>d-(intOf v).toNat);exact ⟨0,Pz _,rfl,O8 (PF _ _),O8 rfl⟩;obtain ⟨i,hi,rfl,N,Q⟩:=hrel;by_cases P:i<d
  ·have ad:(i:Int)<d:=ZO;have r:=HV.o.ag N.o
   have hw:=HW.o.ag N.o;obtain ⟨b,o,x,rfl,S,-,-,ta,V,tc,k0,k1,k2,k3,m⟩:=r.nd (j:=i) (by rw [r.bA];exact P);obtain ⟨b',o',y,rfl,U,-,-,G,q,H,u,z,C,E,a⟩:=hw.nd (j:=i) (by rw [hw.bA];exact P);have ac:V<=16777216:=by have:=m.1;rw [aD]at this;rw [<-this];exact HA.o.tl x (Pm S)
   have R:q<=16777216:=by have:=a.1;rw [aD]at this;rw [<-this];exact HD.o.tl y (Pm U)
   have⟨l,n⟩:=EX (wr.alloc (CE #[UV x.need,UV x.ban,UV x.inn,SL ta V tc] 62));have⟨wc,p⟩:=EX (l.alloc (CE #[UV y.need,UV y.ban,UV y.inn,SL G q H] 62));have k:BW wr l:=n▸ah _ _;have s:BW l wc:=p▸ah _ _;have c:=af k s;have J:=O8 c;have HC:=O8 (Hf wc x y ta G V tc q H (m.ag c) (a.ag c) ac R);have X:Hid (x=y->A.ak.take (i+1)=D.ak.take (i+1)):=λe=>by rw [Qf,Qf,S,U,Q.o,e]
   have W:Hid (A.ak=D.ak->x=y):=λe=>by rw [e,U]at S;exact (Qh S).symm
   have⟨M,t⟩:=EX wr.heap.size;have sb:l.heap.size=M+1:=ZW n t;have f:=aT wr #[UV x.need,UV x.ban,UV x.inn,SL ta V tc] 62;have g:=aT l #[UV y.need,UV y.ban,UV y.inn,SL G q H] 62;rw [n,t]at f;rw [p,sb]at g;have T:∀(i:Nat)(v:Value),CA l M i v->CA wc M i v:=λi v h=>(s.cell (O9 l _ h)).trans h;have p0:=T _ _ (f 0 _ rfl).1;have p1:=T _ _ (f 1 _ rfl).1;have p2:=T _ _ (f 2 _ rfl).1;have p3:=T _ _ (f 3 _ rfl).1;have r0:=(g 0 _ rfl).1;have r1:=(g 1 _ rfl).1;have r2:=(g 2 _ rfl).1;have r3:=(g 3 _ rfl).1;have KB:l.cell? (AD b' (o'+i*4))=l.cell? (AD b' (o'+i*4)):=rfl;have j0:=(k.cell (O9 wr _ u)).trans u;have j1:=(k.cell (O9 wr _ z)).trans z;have j2:=(k.cell (O9 wr _ C)).trans C;have j3:=(k.cell (O9 wr _ E)).trans E;clear r hw S U m a k s c f g T KB u z C E;go_upto_region 6 with(fail);try rw [n]
   go_upto_region 7 with(fail);try rw [p]
   clear n p t sb;go_wp2_with (go_at_call 122;apply HC.o.mono;rintro e w6 ⟨B,rfl,hB,O⟩;have HB:=O8 hB;have I:=O8 O;clear hB O)
   ·rename_i h;have aa:B=false:=ZX h
    go_ret;refine ⟨false,rfl,⟨λh=>(ZC h),λh=>?_⟩,af N.o (af J.o I.o)⟩;have:=HB.o.2 (W.o h);rw [aa]at this;cases this
   ·rename_i h;have ab:B=true:=ZX h
    refine ⟨⟨i+1,ZO,ZN,af N.o (af J.o I.o),X.o (HB.o.1 ab)⟩,?_⟩;simp [intOf];omega
  ·obtain rfl:d=i:=ZO;go_wp2
   go_ret;refine ⟨true,rfl,⟨λ_=>?_,λ_=>rfl⟩,N.o⟩;have:=Q.o;rwa [PI (by rw [L.o];exact Pf _),PI (by rw [K.o];exact Pf _)]at this
 ·have t1:((d:Int)!=(F:Int))=true:=by simp;omega
  have t2:(d !=F)=true:=by simp;exact e
  have HE:=O8 e;clear e;go_wp2;go_ret;exact ⟨false,rfl,⟨λh=>(ZC h),λh=>absurd (by rw [<-L.o,<-K.o,h]) HE.o⟩,PF _ _⟩
def NP(w:WD)(A D:Au)(e:Ending)(a:WD):Prop:=∃B,e=RT (.bool B)/\(B=true↔A=D)/\BW w a
def NS{x y:Au}:x=y↔x.sets=y.sets/\x.aP=y.aP/\x.ak=y.ak:=by cases x;cases y;simp
def Ej(w A D k u m v j C l H n y x E)(K:cm w A k j m n)(hw:cm w D u l v x)(X:gL A)(Z:gL D):
 CL 83 #[.agg #[IV A.sets,SL k j C,SL m n y],.agg #[IV D.sets,SL u l H,SL v x E]] w (NP w A D):=by
 have⟨q,T⟩:=EX w.heap.size
 have⟨f,d⟩:=EX ((w.alloc (CE #[IV A.sets,SL k j C,SL m n y] 36)).alloc (CE #[IV D.sets,SL u l H,SL v x E] 36))
 have c:BW w f:=d▸af (ah _ _) (ah _ _)
 have s:f.heap[q]? =some (.cells #[IV A.sets,SL k j C,SL m n y] 36 (0,0)):=by rw [<-d,<-T,(Ph _ _).2 _ (by rw [P3];omega)];exact (Ph w _).1
 have t:f.heap[q+1]? =some (.cells #[IV D.sets,SL u l H,SL v x E] 36 (0,0)):=by rw [<-d,<-T,<-P3 w (CE #[IV A.sets,SL k j C,SL m n y] 36)];exact (Ph _ _).1
 have F:Hid (∀b,BW f b->(b.cell? (AD q 0)=some (IV A.sets)/\b.cell? (AD q 1)=some (SL k j C)/\b.cell? (AD q 2)=some (SL m n y))/\b.cell? (AD (q+1) 0)=some (IV D.sets)/\b.cell? (AD (q+1) 1)=some (SL u l H)/\b.cell? (AD (q+1) 2)=some (SL v x E)):=λb h=>by have P:=(h.block q (Pb.1 s).1).trans s;have Q:=(h.block (q+1) (Pb.1 t).1).trans t;exact ⟨⟨CH P,CH P,CH P⟩,CH Q,CH Q,CH Q⟩
 have R:j<=16777216:=by have:=K.aP.1;rw [aD]at this;rw [<-this];exact X.il
 have S:l<=16777216:=by have:=hw.aP.1;rw [aD]at this;rw [<-this];exact Z.il
 have g:=O8 (wS f k u j C l H _ _ (K.ag c).aP (hw.ag c).aP R S)
 have O:Hid (∀b,BW f b->CL 121 #[SL m n y,SL v x E,.func (.func 122) #[] #[]] b (Ml b A.ak D.ak)):=λb h=>yR b A D k u m v j l n y x E (K.ag (af c h)) (hw.ag (af c h)) X Z
 have i:Hid (A=D↔A.sets=D.sets/\A.aP=D.aP/\A.ak=D.ak):=NS
 have o:=O8 c
 have⟨⟨x0,x1,x2⟩,y0,y1,y2⟩:=F.o f (PF _ _)
 clear K hw s t c
 generalize A.sets=I at *
 generalize D.sets=U at *
 go_enter func83,ntmps83
 go_upto_region 1 with(fail)
 try rw [d]
 clear d T
 by_cases J:I=U
 subst J
 have t1:((I:Int)==(I:Int))=true:=RP _
 by_cases z:A.aP=D.aP
 rw [PX z]at g
 have r:=O8 z
 clear z
 go_wp2_with (first|(go_at_call 120;apply g.o.mono;rintro e V ⟨rfl,a⟩;have⟨⟨u0,u1,u2⟩,v0,v1,v2⟩:=F.o V a;have N:=O8 (O.o V a);have p:=O8 a;clear a)|(go_at_call 121;apply N.o.mono;rintro e w3 ⟨B,rfl,Y,G⟩;have W:=O8 Y;have L:=O8 G;clear Y G))
 go_ret
 exact ⟨B,rfl,⟨λh=>i.o.2 ⟨by trivial,r.o,W.o.1 h⟩,λh=>W.o.2 (i.o.1 h).2.2⟩,af o.o (af p.o L.o)⟩
 rw [PH z]at g
 have r:=O8 z
 clear z
 go_wp2_with (go_at_call 120;apply g.o.mono;rintro e V ⟨rfl,a⟩;have p:=O8 a;clear a)
 go_ret
 exact ⟨false,rfl,⟨λh=>(ZC h),λh=>absurd (i.o.1 h).2.1 r.o⟩,af o.o p.o⟩
 have t1:((I:Int)==(U:Int))=false:=Pq.2 ZO
 have aa:(I==U)=false:=Pq.2 J
 have M:=O8 J
 clear J
 go_wp2
 go_ret
 exact ⟨false,rfl,⟨λh=>(ZC h),λh=>absurd (i.o.1 h).1 M.o⟩,o.o⟩
section
open Go.Maps
def KR(w:WD)(A:Au)(e:Ending)(a:WD):Prop:=
 BW w a/\∃D v,e=RT v/\Ai a w.heap.size D v/\gL D/\∀u,lY D u↔lY A u
def gL.KC{A}(h:gL A):Valid A:=⟨h.aP,λn a q b=>h.mZ _ (eB a) q b⟩
structure Ij (w wr:WD) (A D:Au) (ia:OA) (il ic:Nat) (na:OA) (nl nc:Nat):Prop where
 aJ:BW w wr
 box:wr.heap[w.heap.size]? =some (.cells #[IV D.sets,SL ia il ic,SL na nl nc] 36 (0,0))
 xT:wr.heap[w.heap.size+1]? =some (.cells #[IV 0,SN,SN] 36 (0,0))
 at_:cm wr D ia il na nl
 ok:gL D
 acc:∀u,lY D u↔lY A u
section
variable {w wr w1:WD} {A D:Au} {ia:OA} {il ic:Nat} {na:OA} {nl nc:Nat}
def Ij.ag(h:Ij w wr A D ia il ic na nl nc)(a:BW wr w1):Ij w w1 A D ia il ic na nl nc:=
 ⟨af h.aJ a,(a.block _ (Pb.1 h.box).1).trans h.box,(a.block _ (Pb.1 h.xT).1).trans h.xT,h.at_.ag a,h.ok,h.acc⟩
def Ij.cells(h:Ij w wr A D ia il ic na nl nc):CA wr w.heap.size 0 (IV D.sets)/\CA wr w.heap.size 1 (SL ia il ic)/\CA wr w.heap.size 2 (SL na nl nc):=
 ⟨CH h.box,CH h.box,CH h.box⟩
def Ij.OP(h:Ij w wr A D ia il ic na nl nc):CA wr (w.heap.size+1) 0 (IV 0)/\CA wr (w.heap.size+1) 1 (SN)/\CA wr (w.heap.size+1) 2 (SN)/\FZ wr (w.heap.size+1) 0/\FZ wr (w.heap.size+1) 1/\FZ wr (w.heap.size+1) 2:=
 ⟨CH h.xT,CH h.xT,CH h.xT,Pg h.xT 0,Pg h.xT 1,Pg h.xT 2⟩
def Ij.MO(h:Ij w wr A D ia il ic na nl nc)(i):FZ wr w.heap.size i:=Pg h.box i
end
def Ee(w A ia il ic na nl nc)(i:cm w A ia il na nl)(hA:gL A)(au:ep w):
 CL 44 #[.agg #[IV A.sets,SL ia il ic,SL na nl nc]] w (KR w A):=by
 have⟨q,hq⟩:=EX w.heap.size
 have⟨w1,E⟩:=EX ((w.alloc (CE #[IV A.sets,SL ia il ic,SL na nl nc] 36)).alloc (CE #[IV 0,SN,SN] 36))
 have y:BW w w1:=E▸af (ah _ _) (ah _ _)
 have az:w1.heap[w.heap.size]? =some (.cells #[IV A.sets,SL ia il ic,SL na nl nc] 36 (0,0)):=by rw [<-E,(Ph _ _).2 _ (by rw [P3];omega)];exact (Ph w _).1
 have ay:w1.heap[w.heap.size+1]? =some (.cells #[IV 0,SN,SN] 36 (0,0)):=by rw [<-E,<-P3 w (CE #[IV A.sets,SL ia il ic,SL na nl nc] 36)];exact (Ph _ _).1
 have R:Hid (Ij w w1 A A ia il ic na nl nc):=⟨y,az,ay,i.ag y,hA,λu=>RE⟩
 have ad:=O8 (dZ w1 A ia il ic na nl nc (i.ag y) hA)
 have ap:Hid (∀M,BW w M->ep M):=λM h=>au.ag h
 have N:=O8 hq
 have⟨c0,c1,c2⟩:=R.o.cells
 rw [hq]at c0 c1 c2
 clear i hA y az ay au
 go_enter func44,ntmps44
 go_upto_region 3 with(go_at_call 23;apply ad.o.mono;rintro e w2 ⟨rfl,aw⟩;have ae:=O8 (R.o.ag aw);clear aw)
 clear E hq c0 c1 c2 ad R
 go_loopg [] A.wt (λg wr=>∃(D:Au)(ja:OA)(jl jc:Nat)(ma:OA)(ml mc:Nat),Hid (D.wt=g)/\Hid (Ij w wr A D ja jl jc ma ml mc))
 exact ⟨A,ia,il,ic,na,nl,nc,rfl,ae⟩
 clear ae
 obtain ⟨D,ja,jl,jc,ma,ml,mc,hg,o⟩:=hrel
 have⟨e0,e1,e2⟩:=o.o.cells
 rw [N.o]at e0 e1 e2
 have aq:=O8 (CV wr D ja jl jc ma ml mc o.o.at_ o.o.ok (ap.o wr o.o.aJ))
 go_upto_region 4 with(first
  |(go_at_call 80;apply ar.o.mono;rintro e U ⟨j,b,v,E4,ba,aV,rfl,i,f,ho,s,r⟩;obtain ⟨G,I,H,J,L,K,rfl,-⟩:=i.Dk;have aF:=O8 j;have S:=O8 i;have Q:=O8 f;have Y:Hid (∀u,lY b u↔lY D3 u):=λu=>ss ho s aI.o.KC u;have ao:=O8 r;clear j i f ho s r)
  |(go_at_call 80;apply aq.o.mono;rintro e w3 ⟨j,D1,v,E1,a8,aT,rfl,i,f,ho,s,r⟩;obtain ⟨aN,aW,aQ,aZ,a5,a2,rfl,aC⟩:=i.Dk;have l:=O8 j;have aH:=O8 f;have ag:=O8 (GW w3 D1 aN aW aQ aZ a5 a2 aC f);have V:Hid (∀u,lY D1 u↔lY D u):=λu=>ss ho s o.o.ok.KC u;have al:=O8 r;clear j i aC f ho s r)
  |(go_at_call 82;apply ag.o.mono;rintro e w4 ⟨j,D2,v,R2,a9,aU,rfl,i,f,aA,s,r⟩;obtain ⟨aO,aX,aR,a0,a6,a3,rfl,aD⟩:=i;have m:=O8 j;have bb:=O8 f;have ai:=O8 (G8 w4 D2 aO aX aR a0 a6 a3 aD f);have W:Hid (∀u,lY D2 u↔lY D1 u):=λu=>D0 s aA aH.o.KC u;have am:=O8 r;clear j aD f aA s r)
  |(go_at_call 81;apply ai.o.mono;rintro e w5 ⟨j,D3,v,R3,rfl,i,f,aB,s,r⟩;obtain ⟨aP,aY,aS,a1,a7,a4,rfl,aE⟩:=i;have t:=O8 j;have aI:=O8 f;have ar:=O8 (CV w5 D3 aP aY aS a1 a7 a4 aE f (ap.o w5 (af o.o.aJ (af l.o (af m.o j)))));have X:Hid (∀u,lY D3 u↔lY D2 u):=λu=>Ed s aB u;have an:=O8 r;clear j aE f aB s r))
 clear e0 e1 e2 aq ag ai ar
 have aG:Hid (BW w w5):=af o.o.aJ (af l.o (af m.o t.o))
 have aa:Hid (BW wr U):=af l.o (af m.o (af t.o aF.o))
 have ak:Hid (q+1<w5.heap.size):=by have h:=(Pb.1 o.o.xT).1;have h1:=l.o.size;have h2:=m.o.size;have h3:=t.o.size;have h4:=N.o;show q+1<w5.heap.size;omega
 have aK:Hid (gG D b):=al.o.trans (am.o.trans (an.o.trans ao.o))
 have Z:Hid (∀u,lY b u↔lY A u):=λu=>(Y.o u).trans ((X.o u).trans ((W.o u).trans ((V.o u).trans (o.o.acc u))))
 have⟨O,F⟩:=EX (U.alloc (CE #[IV b.sets,SL G I H,SL J L K] 36))
 have⟨p,hp⟩:=EX U.heap.size
 have z:BW U O:=F▸ah _ _
 have T:O.heap[p]? =some (.cells #[IV b.sets,SL G I H,SL J L K] 36 (0,0)):=by rw [<-F,<-hp];exact (Ph U _).1
 have x:=O8 (o.o.ag (af aa.o z))
 have aJ:=O8 (Ej O D b ja G ma J jl jc I H ml mc L K x.o.at_ ((S.o.ag z).Dk.get.1) x.o.ok Q.o)
 have aj:Hid (∀M,BW O M->M.cell? (AD p 0)=some (IV b.sets)/\M.cell? (AD p 1)=some (SL G I H)/\M.cell? (AD p 2)=some (SL J L K)):=λM h=>by have h2:=(h.block p (Pb.1 T).1).trans T;exact ⟨CH h2,CH h2,CH h2⟩
 have⟨f0,f1,f2⟩:=x.o.cells
 rw [N.o]at f0 f1 f2
 have⟨g0,g1,g2⟩:=aj.o O (PF _ _)
 have ab:=O8 z
 rw [hp,F]
 clear F hp z T V W X Y al am an ao l m t o
 go_wp2_with (go_at_call 83;apply aJ.o.mono;rintro e w8 ⟨B,rfl,hB,C⟩;have HB:=O8 hB;have a:=O8 (x.o.ag C);have⟨k0,k1,k2⟩:=aj.o w8 C;have ac:=O8 (af ab.o C);clear hB C;have⟨r0,r1,r2,z0,z1,z2⟩:=a.o.OP;have⟨b0,b1,b2⟩:=a.o.cells;have y0:=a.o.MO 0;have y1:=a.o.MO 1;have y2:=a.o.MO 2;rw [N.o]at r0 r1 r2 z0 z1 z2 b0 b1 b2 y0 y1 y2;cases B)
 have⟨P,c⟩:=EX (((w8.setCell (AD q 0) (IV b.sets)).setCell (AD q 1) (SL G I H)).setCell (AD q 2) (SL J L K))
 rw [c]
 have⟨d0,d1,d2,d⟩:=bX b0 b1 b2 P c.symm
 have aM:=ak.o
 have bd:b.wt<D.wt:=by
  have h:=aK.o;have aL:b≠D:=λe=>by have:=HB.o.2 e.symm;cases this
  obtain h1|h1:=Re b.wt D.wt;exact h1;exact absurd (h.2 (Uh h.1 h1)) aL
 have av:=((S.o.ag ac.o).ax (d.mono λk _ e=>ZO)).Dk.get.1
 have n:=a.o.box
 have HN:Hid (Ij w P A b G I H J L K):=⟨a.o.aJ.trans (d.ag a.o.aJ.size λk hk e=>ZH N.o),by rw [<-c];rw [N.o]at n⊢;simp [HC,World.setCell,P7,n],(d.block _ (Pb.1 a.o.xT).1 (λe=>ZH N.o)).trans a.o.xT,av,Q.o,Z.o⟩
 have bc:=hg.o
 clear c d0 d1 d2 d av n b0 b1 b2 k0 k1 k2 r0 r1 r2 z0 z1 z2 y0 y1 y2
 go_roundg b.wt
 case measure=>omega
 case rel=>exact ⟨b,G,I,H,J,L,K,rfl,HN⟩
 have⟨P,c⟩:=EX (((w8.setCell (AD (q+1) 0) (IV b.sets)).setCell (AD (q+1) 1) (SL G I H)).setCell (AD (q+1) 2) (SL J L K))
 rw [c]
 have⟨d0,d1,d2,d⟩:=bX r0 r1 r2 P c.symm
 have aM:=ak.o
 clear c b0 b1 b2 k0 k1 k2 r0 r1 r2 z0 z1 z2 y0 y1 y2
 (try simp only [Exit.inBlock,Exit.then])
 refine Qz (v:=.agg #[IV b.sets,SL G I H,SL J L K]) ?_ rfl ⟨?_,b,_,rfl,?_,Q.o,Z.o⟩
 rw [cX rfl]
 go_simp
 exact a.o.aJ.trans (d.ag a.o.aJ.size λk hk e=>ZH N.o)
 exact ((S.o.ag ac.o).ax (d.mono λk _ e=>ZO)).less aG.o.size
end
section
open Go.Maps
def DZ(w0 w m fv A ia il ic na nl nc zv k)(h:kV w0 w m fv (A.sets:Int) (SL ia il ic) (SL na nl nc) zv k 0)(hA:cm w A ia il na nl)(hC:gL A)(Q:ep w)(hk:k<=100):
 CL 22 #[PT m] w λe w'=>e=RT (.tuple #[])/\∃s' Z ab aa ac ae ad af,kV w0 w' m fv s' (SL Z ab aa) (SL ac ae ad) af (k+1) 0/\lu m zv af w w'/\∃D,Ai w' w.heap.size D (.agg #[IV s',SL Z ab aa,SL ac ae ad])/\gL D/\∀u,lY D u↔lY A u:=by
 have⟨i3,al,an,am,ak⟩:=P6 Tryz.eA
 have HN:=O8 (Ee w A ia il ic na nl nc hA hC Q)
 have HM:=O8 h
 obtain ⟨c0,c1,c2,ai,-,-⟩:=h.cells
 clear h hA hC Q
 go_enter func22,ntmps22
 go_upto_region 1 with(go_at_call 44;apply HN.o.mono;rintro e w3 ⟨hb,D,v,rfl,hv,hr⟩;obtain ⟨E,G,F,r,d,t,rfl,-⟩:=hv.Dk;have HV:=O8 hv;have HR:=O8 hr;have L:=O8 hb;clear hr hb hv;have j:=O8 (HM.o.ag L.o);have⟨e0,e1,e2,e3,e4,e5⟩:=j.o.cells;have z1:=j.o.free 1;have z2:=j.o.free 2;have z3:=j.o.free 3)
 clear HN c0 c1 c2 ai e0 e1 e2 e3 e4 e5 z1 z2 z3
 have⟨T,V⟩:=j.o.Oh (D.sets:Int) (SL E G F) (SL r d t)
 have n:=O8 T
 have M:=O8 V
 have O:=O8 HM.o.dY
 clear T V HM j
 generalize ((w3.setCell (AD m 1) (IV D.sets)).setCell (AD m 2) (SL E G F)).setCell (AD m 3) (SL r d t)=p at *
 have⟨q0,q1,q2,q3,q4,q5⟩:=n.o.cells
 have⟨xs,C⟩:=n.o.Mw
 have y:=O8 C
 obtain ⟨I,J,ao⟩:∃I J,zv=SL I k J:=by obtain ⟨a,c,e,-⟩:=C.shape;exact ⟨a,c,e⟩
 subst ao
 clear C q0 q1 q2 q5
 refine aw 15 (S:=λW=>W.cell? (AD m 3)=some (SL r d t)/\W.cell? (AD m 4)=some (SL I k J)) ZK (⟨q3,q4⟩) (λz=>?_)
 refine aB 0 ?_
 refine aB 1 ?_
 refine aB 2 ?_
 refine aB 3 ?_
 refine aB 4 ?_
 refine aB 5 ?_
 refine aB 6 ?_
 refine aB 7 ?_
 refine aB 8 ?_
 refine aB 9 ?_
 refine aB 10 ?_
 have i:Hid (BW p ((p.alloc (CE #[IV d] 3)).drew)):=((PF _ _).alloc (Pf _) _).drew
 have c5:(p.alloc (CE #[IV d] 3)).drew.cell? (AD p.heap.size 0)=some (IV d):=Py (w:=p) _ 3 p.heap.size 0 rfl
 have H:=(i.o.cell (O9 _ _ q3)).trans q3
 have x:=(i.o.cell (O9 _ _ q4)).trans q4
 refine aK 11 λK f=>?_
 go_simp
 refine f.o _ _ (λ_=>⟨H,x⟩) ?_
 clear f K
 try walk_nrm
 have P:Hid (Sl (p.alloc (CE #[IV d] 3)).drew 3 (SL I k J) k xs):=y.o.ax (aj.aC i.o) (λg e s=>ZH (y.o.lt g e))
 clear z q3 q4
 generalize (p.alloc (CE #[IV d] 3)).drew=w5 at *
 generalize p.heap.size=h5 at c5⊢
 refine aK 12 λK f=>?_
 rw [PW (by rfl)]
 apply aY.o
 refine eI (.tmp 14) (.tmp 21) 33 rfl 3 i3 (IV 0) 8 QD al an am ak rfl ZD (SL I k J) k _ rfl P.o (AD h5 0) (IV d) rfl rfl c5 ZO (λv6 w6 B o Y=>?_)
 have q:¬(SL I k J).ownBlock=some m:=λe=>(n.o.KJ m e).2 rfl
 have r0:=o.aq H q
 have r4:=o.aq x q
 have f6:w6.frozen? (AD m 4)=false:=(PK (o.block m (O9 _ _ x) q)).trans (Pg (n.o.ag i.o).dB 4)
 obtain ⟨a6,l6,c6,e6⟩:∃a l c,v6=SL a l c:=by obtain ⟨a,c,e,-⟩:=B.shape;exact ⟨a,_,c,e⟩
 subst e6
 have⟨U,X,R⟩:=n.o.grow i.o B o Y
 have ah:=O8 U
 have N:=O8 X
 have ag:=O8 R
 clear U X R B Y o H x c5 q y P
 refine f.o _ _ (λ_=>⟨r0,r4⟩) ?_
 clear f K
 try walk_nrm
 refine aK 13 λK f=>?_
 go_simp
 refine f.o _ _ (λ_=>⟨r0,r4⟩) ?_
 clear f K
 try walk_nrm
 refine aK 14 λK f=>?_
 go_simp
 refine f.o _ _ (λ_=>⟨r0,r4⟩) ?_
 clear f K
 try walk_nrm
 refine aK 15 λK f=>?_
 go_simp
 refine f.q ?_
 clear f K
 refine az ZK ?_
 clear r0 r4 f6 i
 generalize w6.setCell (AD m 4) (SL a6 l6 c6)=w7 at *
 go_wp2
 refine R9 (Rq ZK ..) rfl ?_
 have hk:aj (λb=>b<w.heap.size) w3 w7:=(M.o.mono (λb _ e=>ZH ((O.o m (.inl rfl)).1))).then N.o (λb _ s=>(O.o b s).1)
 exact ⟨rfl,_,E,G,F,r,d,t,_,ah.o,lu.of L.o M.o N.o ag.o,D,HV.o.ax hk,HR.o.1,HR.o.2⟩
end
section
open Go.Maps
def qX(f:Fm):Fm:=Fm.eF false (.neg f)
def Iz(F:List (Int×Int))(n:Nat):Prop:=
 (24<n\/∀f,¬jQ F f)\/∃f g,jQ F f/\mX (Fm.size (qX f)) (qX f) g/\((50<Fm.size g\/16<(dL g (Fm.size g)).length\/l9 g (Fm.size g))\/∃A,gL A/\A.sets=(dL g (Fm.size g)).length/\jR A)
def OC(w0 W:WD)(F:List (Int×Int))(n m:Nat)(l:Value)(a:OA)(c:Nat)(s:Int)(d:OA)(e j:Nat)(h:OA)(i k:Nat):Nat->Prop
 |0=>n<=24/\c=n/\(∃f,jQ F f)/\bD W a c F
 |1=>∃f,n<=24/\jQ F f/\FA W a c (qX f)
 |2=>∃f g,n<=24/\jQ F f/\FA W a c g/\mX (Fm.size (qX f)) (qX f) g/\∀b,eV m l b->∀o,a≠some (AD b o)
 |3=>∃f g A,n<=24/\jQ F f/\mX (Fm.size (qX f)) (qX f) g/\(∃_:kF g A,True)/\s=(A.sets:Int)/\cm W A d e h i/\gL A/\A.sets=(dL g (Fm.size g)).length
 |_=>∃f A,n<=24/\jQ F f/\Ai W w0.heap.size A (.agg #[IV s,SL d e j,SL h i k])/\gL A/\∀u,lY A u↔¬Fm.cR u f 0
def NJ(w0:WD)(F:List (Int×Int))(n m b:Nat)(arr:Array Value)(i:Nat)(a:Int)(W:WD):Prop:=
 ∃d e o s f h g j l k c,kV w0 W m (SL d e o) s (SL f h g) (SL j l k) c (i+1) a/\¬eV m c b/\W.heap[b]? =some (.cells arr 49 (0,0))/\
  (a=0->OC w0 W F n m c d e s f h g j l k i)/\(a≠0->Iz F n)
def zH{F f n}(g:F.length=n)(a:jQ F f)(h:n<=24):Fm.size (qX f)<=50:=by
 have c:=Fm.nI (.neg f) false;have d:=kN a;have e:Fm.size (.neg f)=Fm.size f+1:=by unfold Fm.size;rw [Fm.One.neg.aI,Pk];rfl
 unfold qX;omega
def Fl{F f}(a:jQ F f):Fm.gR (qX f)/\eh (qX f):=⟨Fm.Ly _ _,Lz (Fc a 0).2 false⟩
def JG(u f i):Fm.cR u (qX f) i↔¬Fm.cR u f i:=(Fm.LA u (.neg f) i).1
section
variable {w0 W:WD} {F:List (Int×Int)} {n m b:Nat} {arr:Array Value}
def nO{i a d}(f:¬eV m i b)(e:HC W b arr 49)(g:lu m i a W d):¬eV m a b/\HC d b arr 49:=by have c:=(Pb.1 e).1;exact ⟨λh=>(g.2 b h).elim f (λj=>ZO),(g.1.block b c f).trans e⟩
def G1(Z:ep w0)(K:F.length=n)(i)(hi:i<4)(hJ:NJ w0 F n m b arr i 0 W):
 CL (18+i) #[PT m] W λe M=>e=RT (.tuple #[])/\∃H,NJ w0 F n m b arr (i+1) H M:=by
 obtain ⟨I,fn,J,s,P,R,Q,S,U,T,V,G,O,N,j,-⟩:=hJ
 have j:=j rfl
 match i,hi with
 |0,_=>
  obtain ⟨l,rfl,⟨f,d⟩,hF⟩:=j
  refine (D6 w0 W m I fn J F f s _ _ V 1 G hF d ZO ZO).mono ?_
  rintro e M ⟨rfl,X,n',Y,c,o,p,k⟩
  have⟨q,r⟩:=nO O N k
  exact ⟨rfl,0,X,n',Y,s,P,R,Q,S,U,T,c,o,q,r,λ_=>⟨f,l,d,p⟩,λh=>absurd rfl h⟩
 |1,_=>
  obtain ⟨f,l,d,hF⟩:=j
  have w:=hF.size
  have aa:=zH K d l
  have v:=w
  subst v
  refine (CP w0 W m I _ J (qX f) s _ _ V 2 G hF (Fl d).1 (Fl d).2 ZO ZO).mono ?_
  rintro e M ⟨rfl,X,n',Y,c,g,o,p,k,q,r⟩
  have⟨h6,h7⟩:=nO O N r
  exact ⟨rfl,0,X,n',Y,s,P,R,Q,S,U,T,c,o,h6,h7,λ_=>⟨f,g,l,d,p,k,q⟩,λh=>absurd rfl h⟩
 |2,_=>
  obtain ⟨f,g,l,d,hF,a,L⟩:=j
  have w:=hF.size
  have aa:=zH K d l
  have ac:=a.size
  have v:=w
  subst v
  refine (Hv w0 W m I _ J g s P R Q S U T V 3 G hF L (Z.ag G.aJ) a.gR a.ok ZO ZO).mono ?_
  rintro e M ⟨rfl,s',x,z,y,B,E,C,H,c,o,p,k⟩
  have⟨q,r⟩:=nO O N p
  refine ⟨rfl,H,I,_,J,s',x,z,y,B,E,C,c,o,q,r,λt=>?_,λt=>?_⟩
  obtain ⟨-,A,q1,q2,q3,q4,q5⟩:=k.resolve_right (λh=>h.1 t)
  exact ⟨f,g,A,l,d,a,q1,q2,q3,q4,q5⟩
  obtain ⟨-,h⟩:=k.resolve_left (λh=>t h.1)
  exact .inr ⟨f,g,d,a,.inl h⟩
 |3,_=>
  obtain ⟨f,g,A,l,d,a,⟨tb,-⟩,rfl,hA,hC,ab⟩:=j
  refine (LD w0 W m _ A P R Q S U T V 4 G hA hC ZO).mono ?_
  rintro e M ⟨rfl,s',x,z,y,B,E,C,H,c,o,p,k⟩
  have⟨q,r⟩:=nO O N p
  refine ⟨rfl,H,I,_,J,s',x,z,y,B,E,C,c,o,q,r,λt=>?_,λt=>?_⟩
  obtain ⟨-,D,⟨dg,-⟩,q2,q3⟩:=k.resolve_right (λh=>h.1 t)
  refine ⟨f,D,l,d,q2.less G.aJ.size,q3,λu=>?_⟩
  rw [K9 dg,LY tb a.gR,a.cR]
  exact JG u f 0
  obtain ⟨-,h⟩:=k.resolve_left (λh=>t h.1)
  exact .inr ⟨f,g,d,a,.inr ⟨A,hC,ab,h⟩⟩
end
end
section
open Go.Maps
def Sw:=@Go.wpAnyH_take
def Ut:=@Go.AllReadyH.cons
def UP:=@Go.AllReadyH.nil
def U6:=@Go.wpAnyH_ready
def MD(w:WD)(F:List (Int×Int))(n:Nat)(e:Ending)(h:WD):Prop:=
 BW w h/\∃s b c i d g j a,e=RT (.tuple #[.agg #[IV s,SL b c i,SL d g j],IV a])/\
  (a=0->∃A f,s=(A.sets:Int)/\cm h A b c d g/\gL A/\jQ F f/\n<=24/\∀u,lY A u↔¬Fm.cR u f 0)/\(a≠0->Iz F n)
def NM(K:Nat)(j:WD)(F:List (Int×Int))(n m:Nat)(a:Int)(W:WD):Prop:=
 ∃k b c o s d f e g i h l,k<=K/\kV j W m (SL b c o) s (SL d f e) (SL g i h) l k a/\(a=0->OC j W F n m l b c s d f e g i h 4)/\(a≠0->Iz F n)
def NJ.end_{e W F n m b a i c}(h:NJ e F n m b a i c W)(o:i=4\/i<=4/\c≠0):NM 10 e F n m c W:=by obtain ⟨f,j,g,s,q,t,r,u,w,v,x,p,-,-,k,l⟩:=h;refine ⟨i+1,f,j,g,s,q,t,r,u,w,v,x,ZO,p,λd=>?_,l⟩;obtain rfl:i=4:=o.resolve_right (λh=>h.2 d);exact k d
def NA(q:WD)(F:List (Int×Int))(n m b:Nat)(a:Array Value)(i:Nat)(c:Int)(W:WD):Prop:=
 i<=1/\∃k e f r s g j h l p o d,k<=10+i/\kV q W m (SL e f r) s (SL g j h) (SL l p o) d k c/\¬eV m d b/\W.heap[b]? =some (.cells a 49 (0,0))/\(c=0->OC q W F n m d e f s g j h l p o 4)/\(c≠0->Iz F n)
def NA.end_{d W F n m b a i c}(h:NA d F n m b a i c W):NM 11 d F n m c W:=by obtain ⟨x,k,e,g,f,s,p,r,q,t,v,u,w,y,o,-,-,j,l⟩:=h;exact ⟨k,e,g,f,s,p,r,q,t,v,u,w,ZO,o,j,l⟩
def G0{d W F n m b a}(g:ep d)(i)(hi:i<1)(P:NA d F n m b a i 0 W):
 CL 22 #[PT m] W λe y=>e=RT (.tuple #[])/\∃z,NA d F n m b a (i+1) z y:=by
 obtain ⟨-,k,B,E,C,s,U,X,V,Y,nl,Z,zv,hk,l,R,Q,o,-⟩:=P
 have⟨f,A,T,S,N,O,c⟩:=o rfl
 obtain ⟨j,rfl⟩:=N.Dk.get
 refine (DZ d W m _ A U X V Y nl Z zv k l j O (g.ag l.aJ) ZO).mono ?_
 rintro e y ⟨rfl,s',p,r,q,t,w,v,x,G,H,D,I,J,K⟩
 have⟨L,M⟩:=nO R Q H
 exact ⟨rfl,0,ZO,k+1,B,E,C,s',p,r,q,t,w,v,x,ZO,G,L,M,λ_=>⟨f,D,T,S,I.less l.aJ.size,J,λu=>(K u).trans (c u)⟩,λh=>absurd rfl h⟩
def lL{f d}(h:prog.funcs[f]? =some d)(b:(d.name== "runtime.NumGoroutine")=false)(e:d.body.isSome=true)(a w):
 (callFunc f a).run prog w=.ok (.enter f a) w:=by
 have⟨c,e⟩:=Option.isSome_iff_exists.1 e
 have g:d.name≠ "runtime.NumGoroutine":=ZX b
 simp [callFunc,h,g,e]
def zI(w a n c F V)(hF:bD w a n F)(hn:n<=4611686018427387903)(av:ep w):
 CL 9 #[SL a n c,.bool V] w (MD w F n):=by
 have⟨q,hq⟩:=EX w.heap.size
 have⟨X,ae⟩:=EX (w.alloc (CE #[IV 0,SN,SN] 36))
 have N:BW w X:=ae▸ah _ _
 have s1:X.heap.size=q+1:=ZW ae hq
 have aw:X.heap[q]? =some (.cells #[IV 0,SN,SN] 36 (0,0)):=by rw [<-ae,<-hq];exact (Ph w _).1
 have aq:=O8 (F7 X a n c F (hF.ag N) hn)
 have aA:=O8 (hF.ag N)
 have aB:Hid (F.length=n):=hF.1
 have au:Hid (ep X):=av.ag N
 have aa:=O8 N
 have D:=O8 s1
 have ar:=O8 aw
 have HQ:=O8 hq
 clear hF av N s1 aw
 go_enter func9,ntmps9
 go_upto_region 2 with(go_at_call 16;apply aq.o.mono;rintro e w2 ⟨m,er,zv,rfl,t,hr⟩;have Y:=O8 t;have HR:=O8 hr;clear t hr)
 clear ae hq aq
 have⟨b,hb⟩:=EX w2.heap.size
 have⟨w3,ag⟩:=EX (w2.alloc (.cells #[.func (.func 18) #[] #[],.func (.func 19) #[] #[],.func (.func 20) #[] #[],.func (.func 21) #[] #[]] 49))
 have ad:BW w2 w3:=ag▸ah _ _
 have y:w3.heap[b]? =some (.cells #[.func (.func 18) #[] #[],.func (.func 19) #[] #[],.func (.func 20) #[] #[],.func (.func 21) #[] #[]] 49 (0,0)):=by rw [<-ag,<-hb];exact (Ph w2 _).1
 have G:Hid (NJ X F n m b #[.func (.func 18) #[] #[],.func (.func 19) #[] #[],.func (.func 20) #[] #[],.func (.func 21) #[] #[]] 0 er w3):=by refine ⟨a,n,c,0,none,0,0,none,0,0,zv,Y.o.ag ad,λh=>ZH ((Y.o.dY b h).1),y,λC=>?_,λC=>?_⟩;obtain ⟨-,I,h2⟩:=HR.o.resolve_right (λh=>h.1 C);exact ⟨I,rfl,h2,aA.o.ag (af Y.o.aJ ad)⟩;obtain ⟨-,h⟩:=HR.o.resolve_left (λh=>C h.1);exact .inl h
 have u:=O8 (Fu w3 m b 4 (λi=>18+i) (NJ X F n m b #[.func (.func 18) #[] #[],.func (.func 19) #[] #[],.func (.func 20) #[] #[],.func (.func 21) #[] #[]]) ZO (λi er W hJ=>by
  obtain ⟨fa,fn,fc,s,O,Q,P,R,U,T,zv,t,-,ha,-⟩:=hJ;refine ⟨t.cells.2.2.2.2.2,λj hj=>?_⟩;try unfold CA
  rw [Pa ha];match j,hj with
  |0,_=>rfl
  |1,_=>rfl
  |2,_=>rfl
  |3,_=>rfl) (λi W hi hJ=>G1 au.o aB.o i hi hJ) (λi x W hi=>by
  match i,hi with
  |0,_=>exact lL func18 ZK ZK x W
  |1,_=>exact lL func19 ZK ZK x W
  |2,_=>exact lL func20 ZK ZK x W
  |3,_=>exact lL func21 ZK ZK x W) er G.o)
 subst hb
 clear G HR Y
 go_upto_region 3 with(go_at_call 17;apply u.o.mono;rintro e z ⟨rfl,i4,B,ay,ax⟩;have ac:=O8 ay;have ab:=O8 ax;clear ay ax)
 cases V with
 |false=>
  have HE:=O8 (ac.o.end_ ab.o)
  clear ac ab u ad y ag
  go_upto_region 5 with(fail)
  have⟨k,fa,fn,fc,s,O,Q,P,R,U,T,zv,hk,t,h0,I⟩:=HE.o
  have⟨c0,c1,c2,c3,c4,c5⟩:=t.cells
  have Y:=O8 t
  have H0:=O8 h0
  have H1:=O8 I
  have g:HC z q #[IV 0,SN,SN] 36:=(t.aJ.block q (ZH D.o)).trans ar.o
  have ai:Hid (q<m):=by have I:=t.lo;have h2:=D.o;show q<m;omega
  have r0:CA z q 0 (IV 0):=CH g
  have r1:CA z q 1 (SN):=CH g
  have r2:CA z q 2 (SN):=CH g
  have z0:FZ z q 0:=Pg g 0
  have z1:FZ z q 1:=Pg g 1
  have z2:FZ z q 2:=Pg g 2
  clear t h0 I g
  by_cases C:B=0
  subst C
  have ak:=O8 (H0.o rfl)
  clear H0 H1
  go_wp2
  (try simp only [Exit.inBlock,Exit.then])
  have⟨r,o⟩:=EX (((z.setCell (AD q 0) (IV s)).setCell (AD q 1) (SL O Q P)).setCell (AD q 2) (SL R U T))
  rw [o]
  have⟨d0,d1,d2,l⟩:=bX r0 r1 r2 r o.symm
  clear o c0 c1 c2 c3 c4 c5 r0 r1 r2 z0 z1 z2
  have J:=af aa.o Y.o.aJ
  refine Qz (v:=.tuple #[.agg #[IV s,SL O Q P,SL R U T],IV 0]) ?_ rfl ⟨J.trans (l.ag J.size (λk hk e=>ZH HQ.o)),s,O,Q,P,R,U,T,0,rfl,λ_=>?_,λh=>absurd rfl h⟩
  rw [Rp rfl]
  go_simp
  have⟨f,A,hn,hf,hA,hC,M⟩:=ak.o
  have⟨al,ao⟩:=(hA r (l.mono λk _ e=>ZH D.o)).get
  exact ⟨A,f,ao,al,hC,hf,hn,M⟩
  have aC:(B==0)=false:=Pq.2 C
  go_upto_region 6 with(fail)
  refine wp_region_held_drew (S:=λW=>CA W m 5 (IV B)) ZK (c5) (λp=>?_)
  refine' Sw (i:=0) (v:=_) rfl ZK ZK ZK (λ_ _ _ h=>h) (Or.inl ⟨by rfl,?hy0⟩) (by assumption) ?rest0
  case hy0=>(intro w' d;(try dsimp only at d);go_simp;(try with_reducible rfl))
  try walk_nrm
  refine' Sw (i:=1) (v:=_) rfl ZK ZK ZK (λ_ _ _ h=>h) (Or.inl ⟨by rfl,?hy1⟩) (by assumption) ?rest1
  case hy1=>(intro w' d;(try dsimp only at d);go_simp;(try with_reducible rfl))
  try walk_nrm
  refine' Sw (i:=2) (v:=_) rfl ZK ZK ZK (λ_ _ _ h=>h) (Or.inl ⟨by rfl,?hy2⟩) (by assumption) ?rest2
  case hy2=>(intro w' d;(try dsimp only at d);go_simp;(try with_reducible rfl))
  try walk_nrm
  refine' Sw (i:=3) (v:=_) rfl ZK ZK ZK (λ_ _ _ h=>h) (Or.inl ⟨by rfl,?hy3⟩) (by assumption) ?rest3
  case hy3=>(intro w' d;(try dsimp only at d);go_simp;(try with_reducible rfl))
  try walk_nrm
  refine' Sw (i:=4) (v:=_) rfl ZK ZK ZK (λ_ _ _ h=>h) (Or.inl ⟨by rfl,?hy4⟩) (by assumption) ?rest4
  case hy4=>(intro w' d;(try dsimp only at d);go_simp;(try with_reducible rfl))
  try walk_nrm
  have an:¬m=q:=ZH ai.o
  have H:(((z.setCell (AD q 0) (IV 0)).setCell (AD q 1) (SN)).setCell (AD q 2) (SN)).cell? (AD m 5)=some (IV B):=by obtain ⟨-,-,-,l⟩:=bX r0 r1 r2 _ rfl;exact l.aq c5 (λe=>an e)
  refine U6 (rs:=[5]) ZK ZS (Ut rfl (λK L=>?_) UP)
  go_simp
  refine L.o _ _ (H) (λp=>?_)
  clear L K
  try walk_nrm
  refine U6 (rs:=[6]) ZK ZS (Ut rfl (λK L=>?_) UP)
  go_simp
  refine L.o _ _ (H) (λp=>?_)
  clear L K
  try walk_nrm
  refine wpAnyH_done ZK ?_ _
  go_wp2
  (try simp only [Exit.inBlock,Exit.then])
  have⟨r,o⟩:=EX (((z.setCell (AD q 0) (IV 0)).setCell (AD q 1) (SN)).setCell (AD q 2) (SN))
  rw [o]
  have⟨d0,d1,d2,l⟩:=bX r0 r1 r2 r o.symm
  have d0:CA r.drew q 0 (IV 0):=d0
  have d1:CA r.drew q 1 (SN):=d1
  have d2:CA r.drew q 2 (SN):=d2
  have J:=af aa.o Y.o.aJ
  refine Qz (v:=.tuple #[.agg #[IV 0,SN,SN],IV B]) ?_ rfl ⟨(J.trans (l.ag J.size (λk hk e=>ZH HQ.o))).drew,0,none,0,0,none,0,0,B,rfl,λh=>absurd h C,λ_=>H1.o C⟩
  rw [Rp rfl]
  go_simp
 |true=>
  have HE:=O8 (ac.o.end_ ab.o)
  clear ac ab u ad y ag
  have⟨w5,ap⟩:=EX (z.alloc (.cells #[.func (.func 22) #[] #[]] 49))
  have am:BW z w5:=ap▸ah _ _
  have y:w5.heap[z.heap.size]? =some (.cells #[.func (.func 22) #[] #[]] 49 (0,0)):=by rw [<-ap];exact (Ph z _).1
  have G:Hid (NA X F n m z.heap.size #[.func (.func 22) #[] #[]] 0 B w5):=by have⟨k,fa,fn,fc,s,O,Q,P,R,U,T,zv,hk,t,h0,I⟩:=HE.o;refine ⟨ZO,k,fa,fn,fc,s,O,Q,P,R,U,T,zv,hk,t.ag am,λh=>ZH ((t.dY _ h).1),y,λC=>?_,I⟩;have⟨f,A,g1,g2,g3,g4,g5⟩:=h0 C;exact ⟨f,A,g1,g2,g3.ax (aj.mono (aj.aC am) (λk hk e=>ZO)),g4,g5⟩
  have u:=O8 (Fu w5 m z.heap.size 1 (λi=>22+i) (NA X F n m z.heap.size #[.func (.func 22) #[] #[]]) ZO (λi er W hJ=>by
   obtain ⟨-,k,fa,fn,fc,s,O,Q,P,R,U,T,zv,hk,t,-,ha,-⟩:=hJ;refine ⟨t.cells.2.2.2.2.2,λj hj=>?_⟩;try unfold CA
   rw [Pa ha];match j,hj with
   |0,_=>rfl) (λi W hi hJ=>by
   match i,hi with
   |0,_=>exact G0 au.o 0 ZO hJ) (λi x W hi=>by
   match i,hi with
   |0,_=>exact lL func22 ZK ZK x W) B G.o)
  clear G HE
  go_upto_region 5 with(go_at_call 17;apply u.o.mono;rintro e Z ⟨rfl,i6,E,az,-⟩;have HE:=O8 az.end_;clear az)
  clear ap am y u
  have⟨k,fa,fn,fc,s,O,Q,P,R,U,T,zv,hk,t,h0,I⟩:=HE.o
  have⟨c0,c1,c2,c3,c4,c5⟩:=t.cells
  have Y:=O8 t
  have H0:=O8 h0
  have H1:=O8 I
  have g:HC Z q #[IV 0,SN,SN] 36:=(t.aJ.block q (ZH D.o)).trans ar.o
  have ai:Hid (q<m):=by have I:=t.lo;have h2:=D.o;show q<m;omega
  have r0:CA Z q 0 (IV 0):=CH g
  have r1:CA Z q 1 (SN):=CH g
  have r2:CA Z q 2 (SN):=CH g
  have z0:FZ Z q 0:=Pg g 0
  have z1:FZ Z q 1:=Pg g 1
  have z2:FZ Z q 2:=Pg g 2
  clear t h0 I g
  by_cases C:E=0
  subst C
  have ak:=O8 (H0.o rfl)
  clear H0 H1
  go_wp2
  (try simp only [Exit.inBlock,Exit.then])
  have⟨r,o⟩:=EX (((Z.setCell (AD q 0) (IV s)).setCell (AD q 1) (SL O Q P)).setCell (AD q 2) (SL R U T))
  rw [o]
  have⟨d0,d1,d2,l⟩:=bX r0 r1 r2 r o.symm
  clear o c0 c1 c2 c3 c4 c5 r0 r1 r2 z0 z1 z2
  have J:=af aa.o Y.o.aJ
  refine Qz (v:=.tuple #[.agg #[IV s,SL O Q P,SL R U T],IV 0]) ?_ rfl ⟨J.trans (l.ag J.size (λk hk e=>ZH HQ.o)),s,O,Q,P,R,U,T,0,rfl,λ_=>?_,λh=>absurd rfl h⟩
  rw [Rp rfl]
  go_simp
  have⟨f,A,hn,hf,hA,hC,M⟩:=ak.o
  have⟨al,ao⟩:=(hA r (l.mono λk _ e=>ZH D.o)).get
  exact ⟨A,f,ao,al,hC,hf,hn,M⟩
  have aC:(E==0)=false:=Pq.2 C
  go_upto_region 6 with(fail)
  refine wp_region_held_drew (S:=λW=>CA W m 5 (IV E)) ZK (c5) (λp=>?_)
  refine' Sw (i:=0) (v:=_) rfl ZK ZK ZK (λ_ _ _ h=>h) (Or.inl ⟨by rfl,?hyb0⟩) (by assumption) ?restb0
  case hyb0=>(intro w' d;(try dsimp only at d);go_simp;(try with_reducible rfl))
  try walk_nrm
  refine' Sw (i:=1) (v:=_) rfl ZK ZK ZK (λ_ _ _ h=>h) (Or.inl ⟨by rfl,?hyb1⟩) (by assumption) ?restb1
  case hyb1=>(intro w' d;(try dsimp only at d);go_simp;(try with_reducible rfl))
  try walk_nrm
  refine' Sw (i:=2) (v:=_) rfl ZK ZK ZK (λ_ _ _ h=>h) (Or.inl ⟨by rfl,?hyb2⟩) (by assumption) ?restb2
  case hyb2=>(intro w' d;(try dsimp only at d);go_simp;(try with_reducible rfl))
  try walk_nrm
  refine' Sw (i:=3) (v:=_) rfl ZK ZK ZK (λ_ _ _ h=>h) (Or.inl ⟨by rfl,?hyb3⟩) (by assumption) ?restb3
  case hyb3=>(intro w' d;(try dsimp only at d);go_simp;(try with_reducible rfl))
  try walk_nrm
  refine' Sw (i:=4) (v:=_) rfl ZK ZK ZK (λ_ _ _ h=>h) (Or.inl ⟨by rfl,?hyb4⟩) (by assumption) ?restb4
  case hyb4=>(intro w' d;(try dsimp only at d);go_simp;(try with_reducible rfl))
  try walk_nrm
  have an:¬m=q:=ZH ai.o
  have H:(((Z.setCell (AD q 0) (IV 0)).setCell (AD q 1) (SN)).setCell (AD q 2) (SN)).cell? (AD m 5)=some (IV E):=by obtain ⟨-,-,-,l⟩:=bX r0 r1 r2 _ rfl;exact l.aq c5 (λe=>an e)
  refine U6 (rs:=[5]) ZK ZS (Ut rfl (λK L=>?_) UP)
  go_simp
  refine L.o _ _ (H) (λp=>?_)
  clear L K
  try walk_nrm
  refine U6 (rs:=[6]) ZK ZS (Ut rfl (λK L=>?_) UP)
  go_simp
  refine L.o _ _ (H) (λp=>?_)
  clear L K
  try walk_nrm
  refine wpAnyH_done ZK ?_ _
  go_wp2
  (try simp only [Exit.inBlock,Exit.then])
  have⟨r,o⟩:=EX (((Z.setCell (AD q 0) (IV 0)).setCell (AD q 1) (SN)).setCell (AD q 2) (SN))
  rw [o]
  have⟨d0,d1,d2,l⟩:=bX r0 r1 r2 r o.symm
  have d0:CA r.drew q 0 (IV 0):=d0
  have d1:CA r.drew q 1 (SN):=d1
  have d2:CA r.drew q 2 (SN):=d2
  have J:=af aa.o Y.o.aJ
  refine Qz (v:=.tuple #[.agg #[IV 0,SN,SN],IV E]) ?_ rfl ⟨(J.trans (l.ag J.size (λk hk e=>ZH HQ.o))).drew,0,none,0,0,none,0,0,E,rfl,λh=>absurd h C,λ_=>H1.o C⟩
  rw [Rp rfl]
  go_simp
end
section
open Fm
def OO:∀(n m)(f:Nat->Nat),(∀i,i<m->f i<n)->(∀i j,i<m->j<m->f i=f j->i=j)->m<=n
 |0,m,f,a,_=>by obtain h|h:=Qv m;omega;exact absurd (a 0 h) ZO
 |n+1,0,_,_,_=>Pz _
 |n+1,m+1,f,a,b=>by
  have h:=OO n m (λi=>if f i=n then f m else f i) (λi h=>by
   have g:=a i ZO;have k:=a m ZO;have c:f i≠f m:=λe=>by have:=b i m ZO ZO e;omega
   show(if f i=n then f m else f i)<n;split<;>omega) (λi j h d e=>by
   have c:f i≠f m:=λe=>by have:=b i m ZO ZO e;omega
   have l:f j≠f m:=λe=>by have:=b j m ZO ZO e;omega
   have e:(if f i=n then f m else f i)=(if f j=n then f m else f j):=e;refine b i j ZO ZO ?_;split at e<;>split at e<;>omega)
  omega
def By(f:Fm)(k:Nat):Prop:=∀x∈aI f,∀n,x=Fm.prop n->n=k
def br(f):0<size f:=by cases f<;>simp only [size,aI,Pk,P9,Ra]<;>omega
def x6{f}(h:size f<=2)(j:gR f):(∃k,By f k)/\∀x∈aI f,KN x=false:=by
 have d:∀a:Fm,size a<=1->(∃k,By a k)/\∀x∈aI a,KN x=false:=by
  intro a l;cases a with
  |tt=>exact ⟨⟨0,λx c n e=>by rw [Pc.1 c]at e;cases e⟩,λx c=>by rw [Pc.1 c];rfl⟩
  |ff=>exact ⟨⟨0,λx c n e=>by rw [Pc.1 c]at e;cases e⟩,λx c=>by rw [Pc.1 c];rfl⟩
  |prop m=>exact ⟨⟨m,λx c n e=>by rw [Pc.1 c]at e;cases e;rfl⟩,λx c=>by rw [Pc.1 c];rfl⟩
  |neg a|cy a|fin a|ec a=>have:=br a;simp only [size,aI,Pk,P9,Ra]at *;omega
  |and a b|or a b|imp a b|dA a b|rel a b=>have:=br a;have:=br b;simp only [size,aI,Pk,P9,Ra]at *;omega
 cases f with
 |tt|ff|prop m=>exact d _ (by simp [size,aI])
 |neg a|cy a|fin a|ec a=>have⟨⟨k,g⟩,i⟩:=d a (by simp only [size,aI,Pk,P9,Ra]at *;omega);refine ⟨⟨k,λx c n e=>?_⟩,λx c=>?_⟩;obtain c|c:=PC.1 c;exact g x c n e;rw [Pc.1 c]at e;cases e;obtain c|c:=PC.1 c;exact i x c;rw [Pc.1 c];rfl
 |and a b|or a b|imp a b|dA a b|rel a b=>have:=br a;have:=br b;simp only [size,aI,Pk,P9,Ra]at *;omega
def Em{f}(h:∀x∈aI f,KN x=false)(k):dL f k=[]:=by
 unfold dL;rw [Ua.2,PE];intro p _;cases a:(aI f)[p]? with
 |none=>decide
 |some x=>rw [Vc,h x (Pm a)];decide
def Dh(k:Nat)(w:Wy):Prop:=(w.need=0\/w.need=2^k)/\(w.ban=0\/w.ban=2^k)
def JT{a k}(h:a=0\/a=2^k):a|||2^k=0\/a|||2^k=2^k:=by obtain rfl|rfl:=h;exact .inr (Nat.zero_or _);exact .inr (Nat.or_self _)
def Eo{f x p k w c}(d:By f k)(e:(Fm.aI f)[p]? =some x)(hw:Dh k w)(h:c∈split x p w):Dh k c:=by have g:=Pm e;unfold split at h;split at h;rw [Pc.1 h];exact hw;rename_i n;rw [iw h];obtain rfl:=d _ g n rfl;exact ⟨JT hw.1,hw.2⟩;rename_i n;have b:=(Fm.fY (Fm.One.neg (a:=Fm.prop n)) f p e).2;rw [iw h];obtain rfl:=d _ (Pm b) n rfl;exact ⟨hw.1,JT hw.2⟩;rw [Pc.1 h];exact hw;obtain rfl|h:=PO.1 h;exact hw;rw [Pc.1 h];exact hw;rw [Pc.1 h];exact hw;obtain rfl|h:=PO.1 h;exact hw;rw [Pc.1 h];exact hw;obtain rfl|h:=PO.1 h;exact hw;rw [Pc.1 h];exact hw;cases h
def qN{f k}(d:By f k):∀m w,Dh k w->∀z∈eH f m w,Dh k z
 |0,_,_,z,a=>ZC a
 |m+1,w,hw,z,a=>by
  unfold eH at a;split at a;rw [Pc.1 a];exact hw;rename_i p r g;cases b:(aI f)[p]? with
  |none=>rw [b]at a;cases a
  |some x=>rw [b]at a;have⟨c,e,a⟩:=T6.1 a;exact qN d m c (Eo (w:=Wy.dI {w with bQ:=r} p) d b hw e) z a
def EN{f n k}(a:By f k){W}(h:Is f n W):Dh k W:=by
 cases h with
 |aP h=>exact qN a _ _ ⟨.inl rfl,.inl rfl⟩ W h
 |next _ h=>exact qN a _ _ ⟨.inl rfl,.inl rfl⟩ W h
def bn(b:Bool):Nat:=if b then 1 else 0
def My(w:Wy):Nat:=bn (decide (w.need=0))+2*bn (decide (w.ban=0))+4*bn (w.bw 0)+8*bn (w.bw 1)+16*bn (w.next 0)+32*bn (w.next 1)
def iF(b):bn b<=1:=by cases b<;>decide
def qL{a b}(h:bn a=bn b):a=b:=by cases a<;>cases b<;>first|rfl|exact absurd h ZD
def Nv(w):My w<64:=by have a:=iF (decide (w.need=0));have b:=iF (decide (w.ban=0));have c:=iF (w.bw 0);have d:=iF (w.bw 1);have e:=iF (w.next 0);have f:=iF (w.next 1);unfold My;omega
def EW{a b}(c:a 0=b 0)(d:a 1=b 1){n}(f:n<=2):(List.range n).filter a=(List.range n).filter b:=
 Td (λx e=>by have:=P5.1 e;rcases (by omega:x=0\/x=1)with rfl|rfl;exact c;exact d)
def JN{a b k}(c:a=0\/a=2^k)(d:b=0\/b=2^k)(h:decide (a=0)=decide (b=0)):a=b:=by have h:=Sr.1 h;obtain rfl|rfl:=c;exact (h.1 rfl).symm;obtain rfl|rfl:=d;exact h.2 rfl;rfl
def Mh{x y k n}(b:Dh k x)(c:Dh k y)(a:n<=2)(h:My x=My y):bH n x=bH n y:=by have l:=iF (decide (x.need=0));have m:=iF (decide (x.ban=0));have o:=iF (x.bw 0);have p:=iF (x.bw 1);have q:=iF (x.next 0);have r:=iF (x.next 1);have s:=iF (decide (y.need=0));have t:=iF (decide (y.ban=0));have u:=iF (y.bw 0);have v:=iF (y.bw 1);have w:=iF (y.next 0);have z:=iF (y.next 1);unfold My at h;have d:=qL (by omega:bn (decide (x.need=0))=bn (decide (y.need=0)));have e:=qL (by omega:bn (decide (x.ban=0))=bn (decide (y.ban=0)));have f:=qL (by omega:bn (x.bw 0)=bn (y.bw 0));have g:=qL (by omega:bn (x.bw 1)=bn (y.bw 1));have i:=qL (by omega:bn (x.next 0)=bn (y.next 0));have j:=qL (by omega:bn (x.next 1)=bn (y.next 1));unfold bH;rw [JN b.1 c.1 d,JN b.2 c.2 e,EW i j a,EW f g a]
def DJ{f}(h:size f<=2)(p:gR f):¬l9 f (size f):=by
 rintro ⟨L,r,o,d⟩;obtain ⟨⟨k,l⟩,-⟩:=x6 h p;have g:∀i,i<L.length->∃x,L[i]? =some x/\x∈L:=λi a=>⟨_,Pe a,QF a⟩;have:=OO 64 L.length (λi=>My ((L[i]?).getD ⟨0,0,λ_=>false,λ_=>false,[]⟩)) (λi a=>Nv _) (λi j a q e=>by have⟨x,m,b⟩:=g i a;have⟨y,n,c⟩:=g j q;have e:My ((L[i]?).getD _)=My ((L[j]?).getD _):=e;rw [m,n,QC,QC]at e;exact o i j x y m n (Mh (EN l (d x b)) (EN l (d y c)) h e))
 omega
def Gl{A}(q:gL A)(u:A.sets=0):¬jR A:=by
 rintro ⟨P,s,o,d⟩;have f:∀i,i<P.length->∃x,P[i]? =some x/\x∈P:=λi b=>⟨_,Pe b,QF b⟩;have k:∀p,pf A p->p.1<A.ak.length/\p.2=0:=λp l=>⟨l.1,l.2.elim (λh=>h.2) (λh=>ZO)⟩;have t:=q.many;have:=OO 256 P.length (λi=>((P[i]?).getD (0,0)).1) (λi b=>by
  have⟨x,c,a⟩:=f i b;show((P[i]?).getD (0,0)).1<256;rw [c,QC];have:=(k x (d x a)).1;omega) (λi j b r e=>by
  have⟨x,c,a⟩:=f i b;have⟨y,m,g⟩:=f j r;have e:((P[i]?).getD (0,0)).1=((P[j]?).getD (0,0)).1:=e;rw [c,m,QC,QC]at e;have n:x=y:=Prod.ext e ((k x (d x a)).2.trans (k y (d y g)).2.symm);exact o i j x c (n▸m))
 omega
def AN:jQ [(3,0)] (Fm.prop 0):=⟨ZD,λx a n e=>by rw [Pc.1 a]at e;cases e;decide⟩
def Ca{F f g}(a:jQ F f)(b:jQ F g):f=g:=Fm.AI (a.1.symm.trans b.1)
def MN:¬Iz [(3,0)] 1:=by rintro ((h|h)|⟨f,g,i,a,h⟩);omega;exact h _ AN;obtain rfl:=Ca i AN;have c:size g<=2:=a.size;have d:=Em (x6 c a.gR).2 (size g);rcases h with(h|h|h)|⟨A,e,b,h⟩;omega;rw [d]at h;exact absurd h ZD;exact DJ c a.gR h;rw [d]at b;exact Gl e b h
end
def KZ{A:Au}{f}(a:jQ [(3,0)] f)(h:∀u,lY A u↔¬Fm.cR u f 0)(b)(c:b<2):lY A (aU [] [b])↔b=0:=by obtain rfl:=Ca a AN;rw [h];show¬((aU [] [b] 0).testBit 0=true)↔_;have e:aU [] [b] 0=b:=rfl;rw [e];rcases (by omega:b=0\/b=1)with rfl|rfl<;>decide
def Gd(w)(p:ep w):CL 7 #[] w λe H=>e=RT (.bool true)/\BW w H:=by
 have k:BW w (w.alloc (CE #[IV 3,IV 0] 32)):=ah _ _;have T:=O8 (zI (w.alloc (CE #[IV 3,IV 0] 32)) (some (AD w.heap.size 0)) 1 1 [(3,0)] true (by have F:=(Ph w (CE #[IV 3,IV 0] 32)).1;refine ⟨rfl,.inr ⟨_,_,rfl,λi hi=>?_⟩⟩;obtain rfl:i=0:=ZO;rw [Pa F,Pa F];exact ⟨rfl,rfl⟩) ZD (p.ag k))
 have I:=O8 k;clear k p;go_enter func7,ntmps7;go_upto_region 1 with(fail);go_upto_region 2 with(go_at_call 9;apply T.o.mono;rintro e E ⟨r,s,u,z,y,B,D,C,er,rfl,V,X⟩;have m:=O8 r;have Q:=O8 V;have R:=O8 X;clear r V X);obtain rfl:er=0:=QB (λh=>MN (R.o h));obtain ⟨A,f,rfl,G,Z,hf,-,j⟩:=Q.o rfl;have⟨q,O⟩:=EX E.heap.size;have⟨a,g⟩:=EX (E.alloc (CE #[IV A.sets,SL u z y,SL B D C] 36));have l:BW E a:=g▸ah _ _;have d:a.heap[q]? =some (.cells #[IV A.sets,SL u z y,SL B D C] 36 (0,0)):=by rw [<-g,<-O];exact (Ph E _).1
 have S:Hid (∀W:WD,BW a W->W.cell? (AD q 0)=some (IV A.sets)/\W.cell? (AD q 1)=some (SL u z y)/\W.cell? (AD q 2)=some (SL B D C)):=λW h=>by have M:=(h.block q (Pb.1 d).1).trans d;rw [Pa M,Pa M,Pa M];exact ⟨rfl,rfl,rfl⟩
 have U:Hid (∀(W:WD)(b:Nat),BW a W->b<2->CL 10 #[.agg #[IV A.sets,SL u z y,SL B D C],.agg #[SN,SV W.heap.size 1 1]] (W.alloc (CE #[UV b] 45)) λe H=>e=RT (.bool (decide (b=0)))/\BW a H):=λW b hW hb=>by
  have c:BW W (W.alloc (CE #[UV b] 45)):=ah _ _;have F:=(Ph W (CE #[UV b] 45)).1;have o:=af hW c;refine (Kq _ A u z y B D C ((G.ag l).ag o) Z none 0 0 (some (AD W.heap.size 0)) 1 1 [] [b] ⟨rfl,.inl rfl⟩ ⟨rfl,.inr ⟨_,_,rfl,λi hi=>?_⟩⟩ ⟨λx P=>(ZC P),λx P=>by rw [Pc.1 P];omega⟩ ZD ZD).mono ?_;obtain rfl:i=0:=ZO;rw [Pa F];rfl;rintro e H ⟨v,rfl,G,N⟩;refine ⟨?_,af o N⟩;have Y:=G.trans (KZ hf j b hb);cases v with
  |true=>rw [PX (Y.1 rfl)]
  |false=>rw [PH (λh=>by cases Y.2 h)]
 have J:Hid (BW w a):=af (af I.o m.o) l;have⟨c0,c1,c2⟩:=S.o a (PF _ _);rw [g,O];clear g l d G Z hf j Q R m T O;have n:=O8 (U.o a 0 (PF _ _) ZD);go_wp2_with (go_at_call 10;first|(apply n.o.mono;rintro e w4 ⟨rfl,c⟩;have⟨d0,d1,d2⟩:=S.o w4 c;have L:=O8 (U.o w4 1 c ZD);clear n c0 c1 c2)|(apply L.o.mono;rintro e w5 ⟨rfl,t⟩;have K:=O8 t;clear t c));go_ret;exact ⟨rfl,af J.o K.o⟩
end Go.Proofs.YtimniinkpipnmaaGreatDoor
