/- A part of the proof of TopNegates. -/
import Derived.Test.YtimniinkpipnmaaGreatDoorR3
set_option maxRecDepth 100000
set_option maxHeartbeats 8000000
set_option linter.all false
namespace Go.Proofs.YtimniinkpipnmaaGreatDoor
open Go.RowKit Go.Own
section
open Go.Maps
def AX(X:Nat->Prop)(sb B k:Nat):Prop:=X k\/k=sb\/B<=k
structure jG (w w1 wr:WD) (n gk nb ob cQ:Nat) (us:List Int) (f:Fm) (fa:OA) (fc:Nat) (sets:Int) (iv nv:Value) (T:List TN) (X:Nat->Prop) (aR:List Nat) (L:List Wy) (sb i:Nat) (nvi:Value) (R:List TN) (vo:Value) (js:List Nat):Prop where
 n8:eH wr n gk nb ob cQ us f fa fc sets iv nvi (T++R) (AX X sb w1.heap.size)
 dJ:∀x∈R,x.W∈ey f (n+1) (Wy.aK aR)/\x.t=(none,0,0)/\x.bh=[]
 kw:aj (λk=>cd gk nb ob nv k\/k=sb) w1 wr
 mv:∀b,nvi.ownBlock=some b->nv.ownBlock=some b\/w1.heap.size<=b
 o:Sl wr 3 vo js.length ((aH js).map (Value.int .i64))
 lG:∀b,vo.ownBlock=some b->w1.heap.size<=b/\nvi.ownBlock≠some b
 aX:∃g,cE Tryz.prog 3 wr sb i g/\∀j:Nat,(j∈js->∃m:Nat,1<=m/\m<=i/\g (IV j)=some (IV m))/\(j∉js->g (IV j)=none)
 xx:∀j∈js,∃x,(T++R)[j]? =some x/\∃Z∈L,bH n x.W=bH n Z
 done:∀Z∈L.take i,∃j∈js,∃x,(T++R)[j]? =some x/\bH n x.W=bH n Z
 many:(T++R).length<=256
 jl:js.length<=i
section
variable {w w1 wr w2:WD} {n gk nb ob pos:Nat} {us:List Int} {f:Fm} {fa:OA} {fc:Nat} {sets:Int} {iv nv nvi vo:Value} {T R:List TN} {parts:List Nat} {L:List Wy} {sb i:Nat} {js:List Nat} {X:Nat->Prop}
def fC{S:Nat->Prop}{nvi':Value}(h:∀b,nvi.ownBlock=some b->nv.ownBlock=some b\/S b){k:Nat}(d:cd gk nb ob nvi k):cd gk nb ob nv k\/S k:=by rcases d with a|a|a|a;exact .inl (.inl a);exact .inl (.inr (.inl a));exact .inl (.inr (.inr (.inl a)));exact (h k a).imp (λc=>.inr (.inr (.inr c))) id
def jG.aW(h:jG w w1 wr n gk nb ob pos us f fa fc sets iv nv T X parts L sb i nvi R vo js)(Y:sb<w1.heap.size)(B:¬cd gk nb ob nv sb)(d:∀k,cd gk nb ob nv k->k<w1.heap.size){G:WD}(H:BW wr G){W:Wy}{e:Ending}(O:W∈ey f (n+1) (Wy.aK parts))
 (V:tQ G n gk nb ob pos us f fa fc sets iv nvi (T++R) (AX X sb w1.heap.size) W e w2):
 ∃(j:Nat)(a:Value)(c:List TN),e=RT (IV j)/\(∃x,(T++c)[j]? =some x/\bH n x.W=bH n W)/\
  eH w2 n gk nb ob pos us f fa fc sets iv a (T++c) (AX X sb w1.heap.size)/\aj (λk=>cd gk nb ob nv k\/k=sb) w1 w2/\(∀b,a.ownBlock=some b->nv.ownBlock=some b\/w1.heap.size<=b)/\
  (∀x∈c,x.W∈ey f (n+1) (Wy.aK parts)/\x.t=(none,0,0)/\x.bh=[])/\(j<256->jG w w1 w2 n gk nb ob pos us f fa fc sets iv nv T X parts L sb i a c vo js):=by
 obtain ⟨j,a,K,rfl,p,r,U,hx,Q⟩:=V
 have s1:w1.heap.size<=wr.heap.size:=h.kw.size
 have s2:wr.heap.size<=G.heap.size:=H.size
 have F:aj (cd gk nb ob nvi) wr w2:=(aj.mono (aj.aF H) (λk r s=>by omega)).then r (λ_ _ s=>s)
 have z:∀b,a.ownBlock=some b->nvi.ownBlock=some b\/wr.heap.size<=b:=λb e=>(U b e).imp id (λh=>N5 s2 h)
 have l:∀b,a.ownBlock=some b->nv.ownBlock=some b\/w1.heap.size<=b:=λb e=>(z b e).elim (h.mv b) (λh=>.inr (by omega))
 have J:aj (λk=>cd gk nb ob nv k\/k=sb) w1 w2:=h.kw.then F (λk r s=>by rcases fC (nvi':=nvi) h.mv s with s|s;exact .inl s;omega)
 have N:∃c,K=T++c/\(∀x∈c,x.W∈ey f (n+1) (Wy.aK parts)/\x.t=(none,0,0)/\x.bh=[])/\(∀(k:Nat)(x:TN),(T++R)[k]? =some x->(T++c)[k]? =some x)/\(j<256->(T++c).length<=256):=by rcases Q with⟨rfl,-⟩|⟨I,x,C,E,D,rfl⟩;exact ⟨R,rfl,h.dJ,λ_ _ h=>h,λ_=>h.many⟩;refine ⟨R++[x],Ov ..,λy q=>?_,λk y q=>?_,λS=>?_⟩;rcases NY.1 q with q|q;exact h.dJ y q;rw [Nv.1 q,C];exact ⟨O,E,D⟩;rw [<-Ov,NP (NK.1 q).1];exact q;rw [<-Ov,NH,Oz];omega
 obtain ⟨c,rfl,m,o,t⟩:=N
 refine ⟨j,a,c,rfl,hx,p,J,l,m,λI=>⟨p,m,J,l,h.o.aA F (λg e s=>?_),λb e=>⟨(h.lG b e).1,λM=>?_⟩,?_,λk r=>?_,λZ P=>?_,t I,h.jl⟩⟩
 have A:=(h.lG g e).1
 rcases s with s|s|s|s
 have:=d g (.inl s);omega
 have:=d g (.inr (.inl s));omega
 have:=d g (.inr (.inr (.inl s)));omega
 exact (h.lG g e).2 s
 rcases z b M with A|A
 exact (h.lG b e).2 A
 have:=h.o.lt b e;omega
 obtain ⟨g,u,v⟩:=h.aX
 refine ⟨g,u.aA F (λs=>?_),v⟩
 rcases fC (nvi':=nvi) h.mv s with s|s
 exact B s
 omega
 obtain ⟨x,u,v⟩:=h.xx k r
 exact ⟨x,o k x u,v⟩
 obtain ⟨k,r,x,u,v⟩:=h.done Z P
 exact ⟨k,r,x,o k x u,v⟩
def jG.take{W:Wy}(a:L[i]? =some W){Z:Wy}(h:Z∈L.take (i+1)):Z∈L.take i\/Z=W:=by rw [OG,a]at h;rcases NY.1 h with h|h;exact .inl h;exact .inr (by simpa using h)
def jG.again(h:jG w w1 w2 n gk nb ob pos us f fa fc sets iv nv T X parts L sb i nvi R vo js)(z:sb<w1.heap.size)(o:¬cd gk nb ob nv sb){W:Wy}(v:L[i]? =some W){j m:Nat}(t:j∈js)(A:∃x,(T++R)[j]? =some x/\bH n x.W=bH n W)
 {g:Value->Option Value} (r:∀j:Nat,(j∈js->∃m:Nat,1<=m/\m<=i/\g (IV j)=some (IV m))/\(j∉js->g (IV j)=none)) (D:m<=i) {q:WD}
 (l:cE Tryz.prog 3 q sb (i+1) (qK g (IV j) (some (IV ((m+1:Nat):Int))))) (a:aj (λk=>k=sb) w2 q):jG w w1 q n gk nb ob pos us f fa fc sets iv nv T X parts L sb (i+1) nvi R vo js:=by
 have E:w1.heap.size<=w2.heap.size:=h.kw.size
 have p:∀k,cd gk nb ob nvi k->¬k=sb:=λk s e=>by subst e;rcases fC (nvi':=nvi) h.mv s with s|s;exact o s;omega
 refine ⟨?_,h.dJ,h.kw.then a (λ_ _ s=>.inr s),h.mv,h.o.aA a (λb e s=>by have:=(h.lG b e).1;omega),h.lG,⟨_,l,λk=>⟨λa=>?_,λa=>?_⟩⟩,h.xx,λZ y=>?_,h.many,Nat.le_succ_of_le h.jl⟩
 exact h.n8.aA a (λk e s=>p k s e) (λk e=>.inl (.inr (.inl e)))
 by_cases e:k=j
 subst e;exact ⟨m+1,by omega,by omega,eZ ..⟩
 obtain ⟨B,d,C,u⟩:=(r k).1 a
 exact ⟨B,d,by omega,(cT _ _ _ _ (λc=>e (by have:=(P7 c).2;omega))).trans u⟩
 have e:k≠j:=λe=>a (e▸t)
 exact (cT _ _ _ _ (λc=>e (by have:=(P7 c).2;omega))).trans ((r k).2 a)
 rcases jG.take v y with d|rfl
 exact h.done Z d
 exact ⟨j,t,A⟩
def jG.first(h:jG w w1 w2 n gk nb ob pos us f fa fc sets iv nv T X parts L sb i nvi R vo js)(J:sb<w1.heap.size)(B:¬cd gk nb ob nv sb)(c:∀k,cd gk nb ob nv k->k<w1.heap.size){W:Wy}(F:L[i]? =some W){j:Nat}(M:j∉js)(H:∃x,(T++R)[j]? =some x/\bH n x.W=bH n W)
 {g:Value->Option Value} (G:∀j:Nat,(j∈js->∃m:Nat,1<=m/\m<=i/\g (IV j)=some (IV m))/\(j∉js->g (IV j)=none)) {t E:WD}
 (y:cE Tryz.prog 3 t sb (i+1) (qK g (IV j) (some (IV 1)))) (a:aj (λk=>k=sb) w2 t)
 {l:Value} (A:Sl E 3 l (js.length+1) ((aH js).map (Value.int .i64)++[IV j])) (d:aj (λk=>vo.ownBlock=some k) t E) (z:∀b,l.ownBlock=some b->vo.ownBlock=some b\/t.heap.size<=b):
 jG w w1 E n gk nb ob pos us f fa fc sets iv nv T X parts L sb (i+1) nvi R l (js++[j]):=by
 have N:w1.heap.size<=w2.heap.size:=h.kw.size
 have O:w2.heap.size<=t.heap.size:=a.size
 have C:∀k,cd gk nb ob nvi k->¬k=sb:=λk s e=>by subst e;rcases fC (nvi':=nvi) h.mv s with s|s;exact B s;omega
 have D:∀k,vo.ownBlock=some k->¬cd gk nb ob nvi k:=λk e s=>by have v:=h.lG k e;rcases s with s|s|s|s;have:=c k (.inl s);omega;have:=c k (.inr (.inl s));omega;have:=c k (.inr (.inr (.inl s)));omega;exact v.2 s
 have q:=h.n8.aA a (λk e s=>C k s e) (λk e=>.inl (.inr (.inl e)))
 have r:=q.aA d D (λk e=>.inl (.inr (.inr (h.lG k e).1)))
 refine ⟨r,h.dJ,(h.kw.then a (λ_ _ s=>.inr s)).then d (λk a e=>by have:=(h.lG k e).1;omega),h.mv,by simpa [aH]using A,λb e=>?_,⟨_,y.aA d (λe=>?_),λk=>⟨λa=>?_,λa=>?_⟩⟩,λk a=>?_,λZ I=>?_,h.many,by rw [NH];have:=h.jl;simp only [Oz];omega⟩
 rcases z b e with e|e
 exact h.lG b e
 exact ⟨by omega,λo=>by have:=h.n8.eE b (.inr (.inr (.inr o)));omega⟩
 have:=(h.lG sb e).1;omega
 by_cases e:k=j
 subst e;exact ⟨1,by omega,by omega,eZ ..⟩
 obtain ⟨K,p,u,v⟩:=(G k).1 ((NY.1 a).resolve_right (λh=>e (Nv.1 h)))
 exact ⟨K,p,by omega,(cT _ _ _ _ (λo=>e (by have:=(P7 o).2;omega))).trans v⟩
 have e:k≠j:=λe=>a (OO _ (Nv.2 e))
 exact (cT _ _ _ _ (λo=>e (by have:=(P7 o).2;omega))).trans ((G k).2 (λh=>a (Oo _ h)))
 rcases NY.1 a with a|a
 exact h.xx k a
 obtain ⟨x,p,u⟩:=H
 rw [Nv.1 a]
 exact ⟨x,p,W,NI F,u⟩
 rcases jG.take F I with p|rfl
 obtain ⟨k,a,u⟩:=h.done Z p
 exact ⟨k,Oo _ a,u⟩
 exact ⟨j,OO _ (Nv.2 rfl),H⟩
end
end
section
open Go.Maps
def Pc:=@Go.Proofs.Tryz.underlying152
structure iS (w b:WD) (S:Nat->Prop) (a:OA) (l c:Nat) (js:List Nat):Prop where
 row:aG .i64 b a l (aH js)
 bL:La w a
 sep:nP S a
 lt:Lb b a
 bC:l<=16777216
 nil:a=none->l=0/\c=0
def gp(w:WD)(n gk nb ob pos:Nat)(us:List Int)(f:Fm)(fa:OA)(fc:Nat)(sets:Int)(iv nv:Value)(T:List TN)(X:Nat->Prop)(parts:List Nat)(e:Ending)(g:WD):Prop:=
 ∃(d:Value)(R:List TN),eH g n gk nb ob pos us f fa fc sets iv d (T++R) X/\aj (cd gk nb ob nv) w g/\(∀b,d.ownBlock=some b->nv.ownBlock=some b\/w.heap.size<=b)/\
  (∀x∈R,x.W∈ey f (n+1) (Wy.aK parts)/\x.t=(none,0,0)/\x.bh=[])/\
  ((∃a l c js,e=RT (.tuple #[.slice a l c,.bool true])/\(T++R).length<=256/\iS w g (lO gk nb ob d X) a l c js/\
   (∀j∈js,∃x,(T++R)[j]? =some x/\∃Z∈ey f (n+1) (Wy.aK parts),bH n x.W=bH n Z)/\(∀Z∈ey f (n+1) (Wy.aK parts),∃j∈js,∃x,(T++R)[j]? =some x/\bH n x.W=bH n Z))\/
   (e=RT (.tuple #[SN,.bool false])/\256<(T++R).length))
section
variable {w w0 w1 wr:WD} {n gk nb ob pos:Nat} {us:List Int} {f:Fm} {fa:OA} {fc:Nat} {sets:Int} {iv nv nvi vo:Value} {T R:List TN} {parts:List Nat} {L:List Wy} {sb i:Nat} {js:List Nat} {X:Nat->Prop}
def jG.aK(h:eH w n gk nb ob pos us f fa fc sets iv nv T X)(q:∀k,X k->k<w.heap.size)(o:T.length<=256)(a:w0=w.alloc (.map #[] 0))(c:BW w0 w1)(parts:List Nat)(L:List Wy):
 jG w w1 w1 n gk nb ob pos us f fa fc sets iv nv T X parts L w.heap.size 0 nv [] (SN) []:=by
 have r:w0.heap.size=w.heap.size+1:=by rw [a,NG]
 have d:BW w w0:=a▸ag _ _
 have g:=aa d c
 refine ⟨?_,λx p=>(by cases p),aj.refl _ _,λb e=>.inl e,Ox _ _ _ _,λb e=>(by cases e),⟨_,((a▸cE.aK Tryz.prog 3 w:cE Tryz.prog 3 w0 w.heap.size 0 _)).af c,λj=>⟨λh=>(by cases h),λ_=>rfl⟩⟩,λj m=>(by cases m),λZ l=>(by cases l),by rw [Om];exact o,Nz _⟩
 rw [Om]
 exact (h.off λk s=>by rcases s with s|rfl|s;exact .inl s;exact .inr (Nz _);exact .inr (by have:=c.size;omega)).af g
def jG.KT(c:w.heap.size<w1.heap.size)(b:BW w w1)(a:aj (λk=>cd gk nb ob nv k\/k=w.heap.size) w1 wr):aj (cd gk nb ob nv) w wr:=
 (aj.mono (aj.aF b) (λk a s=>by omega)).then a (λk a s=>s.elim id (λs=>by omega))
def jG.fin(h:jG w w1 wr n gk nb ob pos us f fa fc sets iv nv T X parts L w.heap.size L.length nvi R vo js)(D:w.heap.size<w1.heap.size)(H:BW w w1)(F:∀k,X k->k<w.heap.size)(m:∀k,cd gk nb ob nv k->k<w.heap.size)
 (v:∀Z∈L,Z∈ey f (n+1) (Wy.aK parts)) (q:∀z∈ey f (n+1) (Wy.aK parts),∃Y∈L,bH n Y=bH n z) (K:L.length<=16777216):
 gp w n gk nb ob pos us f fa fc sets iv nv T X parts (RT (.tuple #[vo,.bool true])) wr:=by
 refine ⟨nvi,R,h.n8.off (λk s=>.inl (.inl s)),jG.KT D H h.kw,λb e=>(h.mv b e).imp id (λh=>by omega),h.dJ,.inl ?_⟩
 obtain ⟨a,c,rfl,l⟩:=h.o.shape
 have p:∀b o,a=some (AD b o)->(Value.slice a js.length c).ownBlock=some b:=λb o e=>by subst e;rfl
 refine ⟨a,js.length,c,js,rfl,h.many,⟨⟨aC _,?_⟩,λb o e=>?_,λb o e s=>?_,λb o e=>h.o.lt b (p b o e),by have:=h.jl;omega,λe=>?_⟩,λj y=>?_,λZ G=>?_⟩
 rcases OT js.length with d|d
 exact .inl d
 obtain ⟨g,rfl,M,-⟩:=l 0 d
 refine .inr ⟨g,0,rfl,λi u=>?_⟩
 obtain ⟨J,C,-,I⟩:=l i u
 cases C
 rw [Od,I,Oh,Ny (by rw [aC];exact u),Nw,Ny (by rw [aC];exact u)]
 rfl
 have:=(h.lG b (p b o e)).1;omega
 have d:=(h.lG b (p b o e))
 rcases s with s|s
 rcases s with s|s|s|s
 have:=m b (.inl s);omega
 have:=m b (.inr (.inl s));omega
 have:=m b (.inr (.inr (.inl s)));omega
 exact d.2 s
 have:=F b s;omega
 subst e
 rcases h.o.2 with⟨d,r⟩|⟨g,A,B,d,-⟩
 exact ⟨(On d).2.1,(On d).2.2⟩
 cases (On d).1
 obtain ⟨x,d,Z,r,t⟩:=h.xx j y
 exact ⟨x,d,Z,v Z r,t⟩
 obtain ⟨Y,d,r⟩:=q Z G
 obtain ⟨j,y,x,t,E⟩:=h.done Y (by rw [Oe (Nz _)];exact d)
 exact ⟨j,y,x,t,E.trans r⟩
end
def DC(w:WD)(n gk nb ob pos:Nat)(f:Fm)(fa:OA)(fc:Nat)(sets:Int)(iv nv:Value)(T:List TN)(X:Nat->Prop)(pa:OA)(pl pc:Nat)(parts:List Nat)(Q:eH w n gk nb ob pos (dG f n) f fa fc sets iv nv T X)(hX:∀k,X k->k<w.heap.size)(aU:eG w)(hN:Fm.gI f)(aw:dV f)(hn:n<=50)
 (av:T.length<=256) (hp:aG .i64 w pa pl (aH parts)) (J:∀p∈parts,p<n) (bc:pl<=1000) (ah:pa=none->pl=0/\pc=0):
 CL 77 #[PT gk,.slice pa pl pc] w (gp w n gk nb ob pos (dG f n) f fa fc sets iv nv T X parts):=by
 obtain ⟨us,aA⟩:=EX (dG f n)
 rw [aA]at Q⊢
 obtain ⟨w0,aB⟩:=EX (w.alloc (.map #[] 0))
 have G:BW w w0:=aB▸ag _ _
 obtain ⟨sb,a3⟩:=EX w.heap.size
 have s0:w0.heap.size=sb+1:=by rw [<-aB,NG,a3]
 have bb:=@RY Tryz.prog
 have aF:Hid (CL 107 #[.slice fa n fc,.slice pa pl pc] w0 (yW w0 n f parts)):=Cm fa n fc f pa pl pc parts w0 (Q.form.af G) hN aw hn (hp.af G) J bc ah
 have k0:w0.cell? (AD gk 0)=some (.slice fa n fc):=by rw [Nt ((Q.af G).dp)];rfl
 have V:=Nq Q
 have HX:=Nq hX
 have aN:=Nq aU
 have HN:=Nq hN
 have aK:=Nq aw
 have aO:=Nq aA
 have U:=Nq a3
 have aP:=Nq aB
 have a4:=Nq G
 have ap:=Nq s0
 have bi:=Nq J
 obtain ⟨i3,a8,bf,bd,a7⟩:=Ol Tryz.ed
 clear Q hX aU hN aw aA G hp J ah s0
 go_enter Tryz.func77,Tryz.ntmps77
 go_upto_region 3 with(fail)
 clear bb
 go_upto_region 4 with(go_at_call 107;refine aF.o.mono ?_;rintro e w1 ⟨a,c,L,rs,rfl,Y,ai,af,O,hL,aZ,ae,-⟩)
 have s1:w0.heap.size<=w1.heap.size:=Y.size
 have aC:BW w w1:=aa a4.o Y
 have z:=U.o
 have ay:=ap.o
 have aJ:=Nq (jG.aK V.o HX.o av aP.o.symm Y parts L)
 rw [z]at aJ
 have ao:=Nq O
 have F:=Nq ai
 have ad:=Nq af
 have am:=Nq aZ
 have aE:=Nq ae
 have HL:=Nq hL
 have aQ:=Nq aC
 have aM:Hid (sb<w1.heap.size):=by show sb<w1.heap.size;omega
 have d:Hid (∀k,cd gk nb ob nv k->k<sb):=λk s=>by have:=V.o.eE k s;omega
 have aq:Hid (¬cd gk nb ob nv sb):=λs=>by have:=d.o sb s;omega
 have a6:Hid (eG w1):=aN.o.af aC
 obtain ⟨ln,ac⟩:=EX L.length
 have an:=Nq ac
 rw [ac]at F ad
 rw [ac]
 clear Y ai af O hL aZ ae aC ay s1 aF aP aN ac k0
 go_loopw [6,19] (λv x wr=>∃(i:Nat)(nvi:Value)(R:List TN)(js:List Nat)(vo:Value),i<=ln/\x=IV i/\vo=v/\Hid (jG w w1 wr n gk nb ob pos us f fa fc sets iv nv T X parts L sb i nvi R vo js)) (λ_ x _=>ln-(intOf x).toNat)
 exact ⟨0,nv,[],[],_,NS _,rfl,rfl,aJ⟩
 obtain ⟨i,nvi,R,js,vo,hi,rfl,rfl,l⟩:=hrel
 by_cases J:i<ln
 ·have bg:(i:Int)<(ln:Int):=by omega
  have aT:=HL.o;rw [an.o]at aT;obtain ⟨W,hW⟩:∃W,L[i]? =some W:=⟨_,Ny (by rw [an.o];exact J)⟩;obtain ⟨r,hr,ak⟩:=ao.o.at i W hW;obtain ⟨C,rfl⟩:∃C,a=some (AD C 0):=by
   rcases F.o.2 with⟨h1,h2⟩|⟨g,bj,bk,h1,-⟩
   ·have:=(On h1).2.1;omega
   ·exact ⟨g,(On h1).1⟩
  have be:sb<C:=by have:=ad.o C rfl;have:=ap.o;omega
  have o:wr.ownsRow 0 119 4 (SV C ln c) ln (dZ L rs):=bm F.o l.o.kw (λb e s=>by
   obtain rfl:C=b:=OJ e;rcases s with s|s
   ·have:=d.o C s;omega
   ·change C=sb at s;omega)
  obtain ⟨e0,e1,e2,e3⟩:=qV L rs i W r hW hr;have k0:=o.cells (g:=C) rfl _ _ e0;have k1:=o.cells (g:=C) rfl _ _ e1;have k2:=o.cells (g:=C) rfl _ _ e2;have k3:=o.cells (g:=C) rfl _ _ e3;rw [O4,Od]at k0 k1 k2 k3;obtain ⟨⟨xa,xl,xc⟩,⟨ya,yl,yc⟩⟩:=r;have aL:=Nq ak;have ar:=Nq hW;clear o e0 e1 e2 e3 hr ak hW be;go_upto_region 6 with(fail);obtain ⟨w5,aD⟩:=EX (wr.alloc (.cells #[UV W.ak,UV W.aD,.slice xa xl xc,.slice ya yl yc] 119));have A:=bp wr #[UV W.ak,UV W.aD,.slice xa xl xc,.slice ya yl yc] 119;rw [aD]at A⊢;have H:BW wr w5:=aD▸ag _ _;have c0:=(A 0 _ rfl).1;have c1:=(A 1 _ rfl).1;have c2:=(A 2 _ rfl).1;have c3:=(A 3 _ rfl).1;have au:W∈L:=NI ar.o;have aW:∀k,X k->k<sb:=λk h=>by have:=HX.o k h;have:=U.o;omega
  have az:=aM.o;have ay:=ap.o;have N:fj w5 (lO gk nb ob nvi (AX X sb w1.heap.size)) n W ((xa,xl,xc),(ya,yl,yc)):=fj.af (aL.o.aA l.o.kw (λk s=>by
   rcases s with s|s
   ·have:=d.o k s;show k<w0.heap.size;omega
   ·change k=sb at s;show k<w0.heap.size;omega) (λk s=>by
   show k<w0.heap.size\/w1.heap.size<=k;rcases s with s|s|s|s
   ·rcases fC (nvi':=nvi) l.o.mv s with s|s
    ·have:=d.o k s;exact .inl (by omega)
    ·exact .inr s
   ·have:=aW k s;exact .inl (by omega)
   ·exact .inl (by omega)
   ·exact .inr s)) H
  have aV:eG w5:=by
   have h1:eG wr:=λj hj=>l.o.kw.aq (a6.o j hj) (λs=>by
    rcases s with s|s
    ·exact absurd (V.o.Bg 0 s) (by decide)
    ·change 0=sb at s;have:=V.o.Bg gk (.inl rfl);have:=d.o gk (.inl rfl);omega)
   exact h1.af H
  have E:Hid (CL 108 #[PT gk,.agg #[UV W.ak,UV W.aD,.slice xa xl xc,.slice ya yl yc]] w5 λe w2=>∃(j:Nat)(t:Value)(S:List TN),e=RT (IV j)/\(∃x,(T++S)[j]? =some x/\bH n x.W=bH n W)/\
   eH w2 n gk nb ob pos us f fa fc sets iv t (T++S) (AX X sb w1.heap.size)/\aj (λk=>cd gk nb ob nv k\/k=sb) w1 w2/\(∀b,t.ownBlock=some b->nv.ownBlock=some b\/w1.heap.size<=b)/\
   (∀x∈S,x.W∈ey f (n+1) (Wy.aK parts)/\x.t=(none,0,0)/\x.bh=[])/\(j<256->jG w w1 w2 n gk nb ob pos us f fa fc sets iv nv T X parts L sb i t S vo js)):=by
   have h:=CQ w5 n gk nb ob pos f fa fc sets iv nvi (T++R) (AX X sb w1.heap.size) W ((xa,xl,xc),(ya,yl,yc)) (by rw [aO.o];exact l.o.n8.af H) aV HN.o aK.o hn N (lV aK.o _ _ (nh parts) W (am.o W au)) (by have:=l.o.many;omega)
   rw [aO.o]at h
   exact h.mono λe w2 hp=>l.o.aW az aq.o (λk s=>by have:=d.o k s;omega) H (am.o W au) hp
  clear A aD H N aV au aW ay k0 k1 k2 k3;go_upto_region 7 with(go_at_call 108;refine E.o.mono ?_;rintro e w2 ⟨j,t,S,rfl,hx,P,hk,hm,M,q⟩);by_cases hj:j<256
  ·have aS:=Nq hx;obtain ⟨g,K,hg⟩:=(q hj).aX
   have D:=Nq (q hj);have HG:=Nq hg;clear hx P hk hm M q l E c0 c1 c2 c3;have a9:¬((256:Int)<=(j:Int)):=by omega
   have u:=iG (n:=j) (by omega);have ab:=K.look lW Pc (oh w2) u;by_cases Z:j∈js
   ·obtain ⟨m,bn,ba,aY⟩:=(hg j).1 Z;rw [aY]at ab
    simp only [OU]at ab;obtain ⟨w3,a2,y,B⟩:=K.put lW Pc (by unfold maxLen;omega) u (IV ((m:Int)+1));have I:=y.look lW Pc (oh w3) u;rw [eZ]at I;simp only [OU]at I;have a5:Hid (jG w w1 w3 n gk nb ob pos us f fa fc sets iv nv T X parts L sb (i+1) t S vo js):=D.o.again az aq.o ar.o Z aS.o HG.o ba y B;have bo:¬((m:Int)+1=1):=by omega
    have bh:((m:Int)==0)=false:=by simp;omega
    clear K hg aY y B u;go_wp2;go_roundw;exact ⟨i+1,t,S,js,_,by omega,by go_num,rfl,a5⟩;simp [intOf];omega
   ·rw [(hg j).2 Z]at ab;simp only [Rw]at ab
    obtain ⟨w3,a2,y,B⟩:=K.put lW Pc (by unfold maxLen;omega) u (IV 1);have I:=y.look lW Pc (oh w3) u;rw [eZ]at I;simp only [OU]at I;have bl:=D.o.jl;have HO:Hid (Sl w3 3 vo js.length ((aH js).map (Value.int .i64))):=D.o.o.aA B (λb e s=>by have:=(D.o.lG b e).1;omega);have aI:Hid (∀(g1 c1:Nat)(w4:WD),Sl w4 3 (SV g1 (js.length+1) c1) (js.length+1) ((aH js).map (Value.int .i64)++[IV j])->aj (λk=>vo.ownBlock=some k) w3 w4->(vo.ownBlock=some g1\/w3.heap.size<=g1)->jG w w1 w4 n gk nb ob pos us f fa fc sets iv nv T X parts L sb (i+1) t S (SV g1 (js.length+1) c1) (js++[j])):=λg1 c1 w4 h1 h2 h3=>
     D.o.first az aq.o (λk s=>by have:=d.o k s;omega) ar.o Z aS.o HG.o y B h1 h2 (λb e=>by rw [<-OJ e];exact h3)
    clear K hg y B u;go_wp2_with (at_builtin;refine ax rfl (.tmp 36) (.tmp 38) 33 rfl 3 i3 (IV 0) 8 OE a8 bf bd a7 rfl (by decide) _ _ _ rfl HO.o _ rfl rfl (by omega) ?_;intro g1 c1 w4 hs a0 a1;have HE:=Nq (aI.o g1 c1 w4 hs a0 a1);clear hs a0 a1);go_roundw;exact ⟨i+1,t,S,js++[j],_,by omega,by go_num,rfl,HE⟩;simp [intOf];omega
  ·have al:Hid (gp w n gk nb ob pos us f fa fc sets iv nv T X parts (RT (.tuple #[SN,.bool false])) w2):=by have z:=U.o;refine ⟨t,S,P.off (λk s=>.inl (.inl s)),jG.KT (by omega) aQ.o (by rw [z];exact hk),λb e=>(hm b e).imp id (λh=>by omega),M,.inr ⟨rfl,?_⟩⟩;obtain ⟨x,hx,-⟩:=hx;have:=(NK.1 hx).1;omega
   have a9:(256:Int)<=(j:Int):=by omega
   clear hx P hk hm M q l E c0 c1 c2 c3;go_wp2;go_ret2;exact al.o
 ·obtain rfl:i=ln:=by omega
  have al:Hid (gp w n gk nb ob pos us f fa fc sets iv nv T X parts (RT (.tuple #[vo,.bool true])) wr):=by have z:=U.o;have h:=l.o;rw [<-z,<-an.o]at h;exact h.fin (by rw [z];exact aM.o) aQ.o HX.o (λk s=>by rw [z];exact d.o k s) am.o aE.o HL.o
  clear l;go_wp2;go_ret2;exact al.o
end
section
open Go.Maps
def Qn:=@List.getElem?_set_self
def QT:=@List.getElem?_set_ne
def RS:=@List.mem_or_eq_of_mem_set
def yp(n:Nat)(W:Wy):List Nat:=(List.range n).filter W.next
def qx(f:Fm)(n:Nat)(a:List Nat):List Wy:=ey f (n+1) (Wy.aK a)
inductive GC (f:Fm) (n:Nat):Wy->Prop
 |aJ {Z:Wy}:Z∈qx f n [n-1]->GC f n Z
 |next {W Z:Wy}:GC f n W->Z∈qx f n (yp n W)->GC f n Z
def mG(f:Fm)(n:Nat)(T:List TN)(a b:List Nat):Prop:=
 (∀j∈b,∃x,T[j]? =some x/\∃Z∈qx f n a,bH n x.W=bH n Z)/\∀Z∈qx f n a,∃j∈b,∃x,T[j]? =some x/\bH n x.W=bH n Z
def mG.mono{f:Fm}{n:Nat}{T i:List TN}{a l:List Nat}(h:mG f n T a l)(k:∀(j:Nat)(x:TN),T[j]? =some x->∃y,i[j]? =some y/\y.W=x.W):mG f n i a l:=by refine ⟨λj g=>?_,λZ o=>?_⟩;obtain ⟨x,b,Z,c,m⟩:=h.1 j g;obtain ⟨y,d,e⟩:=k j x b;exact ⟨y,d,Z,c,by rw [e];exact m⟩;obtain ⟨j,g,x,b,c⟩:=h.2 Z o;obtain ⟨y,d,e⟩:=k j x b;exact ⟨j,g,y,d,by rw [e];exact c⟩
def iS.aA{w w1 i:WD}{S S' R:Nat->Prop}{a:OA}{l c:Nat}{g:List Nat}(h:iS w w1 S a l c g)(d:aj R w1 i)(j:∀k,R k->S k)(m:∀k,S' k->S k\/w1.heap.size<=k):iS w i S' a l c g:=
 ⟨cF h.row d (λb o e s=>h.sep b o e (j _ s)),h.bL,nP.from m h.sep h.lt,λb o e=>NL (h.lt b o e) d.size,h.bC,h.nil⟩
section
variable {w w1:WD} {n gk nb ob pos:Nat} {us:List Int} {f:Fm} {fa:OA} {fc:Nat} {sets:Int} {iv nv:Value} {T:List TN} {X:Nat->Prop}
def eH.MC(h:eH w n gk nb ob pos us f fa fc sets iv nv T X)(a:Value):eH (w.setCell (AD gk 4) a) n gk nb ob pos us f fa fc sets a nv T X/\aj (cd gk nb ob nv) w (w.setCell (AD gk 4) a):=by have c:aj (λk=>k=gk) w (w.setCell (AD gk 4) a):=(aj.refl (λk=>k=gk) w).setCell (p:=(AD gk 4)) (λ_=>rfl) _;refine ⟨⟨?_,bm h.cK c (λb e s=>(h.nY b e).1 s),λx j=>(h.ah x j).aA c (λk s=>.inl (.inl s)) (λk s=>.inl s),?_,?_,h.ne,h.nY,h.uniq,h.Bg,h.form.aA c (λb o e s=>h.ec b o e (.inl (.inl s))),h.ec,λb o e=>NL (h.qZ b o e) c.size⟩,c.mono λk _ s=>.inl s⟩;simp [World.setCell,Ow,h.dp];obtain ⟨g,d,i⟩:=h.aW;exact ⟨g,d.aA c h.ne.1.symm,i⟩;obtain ⟨g,d,i⟩:=h.BQ;exact ⟨g,d.aA c h.ne.2.1.symm,i⟩
def eH.del(h:eH w n gk nb ob pos us f fa fc sets iv nv T X){g:Value->Option Value}(i:Dy pos T g)(m:cE Tryz.prog 3 w1 ob T.length (qK g (IV pos) none))(a:aj (λk=>k=ob) w w1):
 eH w1 n gk nb ob (pos+1) us f fa fc sets iv nv T X:=by
 refine ⟨(a.block gk h.tI h.ne.2.1).trans h.dp,bm h.cK a (λb e s=>(h.nY b e).2.2 s),λx p=>(h.ah x p).aA a (λk s=>.inl (.inr (.inr (.inl s)))) (λk s=>.inl s),?_,⟨_,m,λj x l q=>?_⟩,h.ne,h.nY,h.uniq,h.Bg,h.form.aA a (λb o e s=>h.ec b o e (.inl (.inr (.inr (.inl s))))),h.ec,λb o e=>NL (h.qZ b o e) a.size⟩
 obtain ⟨g,c,d⟩:=h.aW;exact ⟨g,c.aA a h.ne.2.2,d⟩
 rw [cT _ _ _ _ (λe=>by have:=(P7 e).2;omega)]
 exact i j x l (by omega)
def eH.MD{c A:Nat}(h:eH w n gk nb ob pos us f fa fc sets iv (SV c T.length A) T X){j:Nat}{x:TN}(u:T[j]? =some x)(t:bu)(bh:List Nat)
 (L:aG .i64 w t.1 t.2.1 (aH bh)) (F:nP (lO gk nb ob (SV c T.length A) X) t.1) (J:Lb w t.1):
 eH (w.setCell (AD c (j*4+3)) (jP t)) n gk nb ob pos us f fa fc sets iv (SV c T.length A) (T.set j {x with t:=t,bh:=bh}) X/\aj (cd gk nb ob (SV c T.length A)) w (w.setCell (AD c (j*4+3)) (jP t)):=by
 have d:aj (λk=>k=c) w (w.setCell (AD c (j*4+3)) (jP t)):=(aj.refl (λk=>k=c) w).setCell (p:=(AD c (j*4+3))) (λ_=>rfl) _
 have E:=h.nY c rfl
 have C:cd gk nb ob (SV c T.length A) c:=.inr (.inr (.inr rfl))
 have i:∀{k:Nat}{y:TN},(T.set j {x with t:=t,bh:=bh})[k]? =some y->∃z,T[k]? =some z/\y.W=z.W/\y.r=z.r:=λ{k y} d=>by
  by_cases e:j=k;subst e;rw [Qn (NK.1 u).1]at d;cases d
  exact ⟨x,u,rfl,rfl⟩;rw [QT e]at d;exact ⟨y,d,rfl,rfl⟩
 have D:∀{k:Nat}{z:TN},T[k]? =some z->∃y,(T.set j {x with t:=t,bh:=bh})[k]? =some y/\y.W=z.W/\y.r=z.r:=λ{k z} m=>by by_cases e:j=k;subst e;rw [u]at m;cases m;exact ⟨_,Qn (NK.1 u).1,rfl,rfl⟩;exact ⟨z,by rw [QT e];exact m,rfl,rfl⟩
 refine ⟨⟨(d.block gk h.tI (λe=>E.1 e.symm)).trans h.dp,?_,λy l=>?_,?_,?_,h.ne,h.nY,λa b y z H I e=>?_,h.Bg,h.form.aA d (λb o e s=>h.ec b o e (.inl (by have s:b=c:=s;rw [s];exact C))),h.ec,λb o e=>NL (h.qZ b o e) d.size⟩,d.mono λk _ s=>by subst s;exact C⟩
 rw [Qk,<-rE T j x t bh u]
 exact (h.cK.stored _ _).1
 rcases RS l with l|rfl
 exact (h.ah y l).aA d (λk s=>.inl (by have s:k=c:=s;rw [s];exact C)) (λk s=>.inl s)
 have q:=(h.ah x (NI u)).aA d (S':=lO gk nb ob (SV c T.length A) X) (λk s=>.inl (by have s:k=c:=s;rw [s];exact C)) (λk s=>.inl s)
 exact ⟨q.o9,cF L d (λb o e s=>F b o e (.inl (by have s:b=c:=s;rw [s];exact C))),F,λb o e=>NL (J b o e) d.size,q.met⟩
 obtain ⟨g,q,r⟩:=h.aW
 refine ⟨g,by rw [Qk];exact q.aA d E.2.1.symm,λk y l=>?_,λs v M=>?_⟩
 obtain ⟨z,m,e,-⟩:=i l
 rw [e];exact r.1 k z m
 obtain ⟨k,z,m,e⟩:=r.2 s v M
 obtain ⟨y,l,B,-⟩:=D m
 exact ⟨k,y,l,by rw [B];exact e⟩
 obtain ⟨g,q,r⟩:=h.BQ
 refine ⟨g,by rw [Qk];exact q.aA d E.2.2.symm,λk y l K=>?_⟩
 obtain ⟨z,m,e,B⟩:=i l
 rw [e,B];exact r k z m K
 obtain ⟨N,q,G,-⟩:=i H
 obtain ⟨O,r,B,-⟩:=i I
 exact h.uniq a b N O q r (by rw [<-G,<-B];exact e)
end
end
section
open Go.Maps
def Qj:=@Int.toNat_natCast
def GH(w:WD)(b o:Nat)(x:bV):Prop:=
 ∃a c d,w.cell? (AD b o)=some (UV x.ak)/\w.cell? (AD b (o+1))=some (UV x.aD)/\w.cell? (AD b (o+2))=some (UV x.aT)/\w.cell? (AD b (o+3))=some (.slice a c d)/\aG .i64 w a c (aH (bV.tO x))
structure bY (w:WD) (A:Au) (ia:OA) (il:Nat) (na:OA) (nl:Nat):Prop where
 aJ:aG .i64 w ia il (aH A.aJ)
 bC:A.ah.length=nl
 ah:nl=0\/∃b o,na=some (AD b o)/\∀(j:Nat)(x:bV),A.ah[j]? =some x->GH w b (o+j*4) x
def Et(w:WD)(A:Au)(v:Value):Prop:=∃ia il ic a b c,v=.agg #[IV A.sets,.slice ia il ic,.slice a b c]/\bY w A ia il a b
structure fS (A:Au):Prop where
 sets:A.sets<=16
 many:A.ah.length<=256
 aJ:∀i∈A.aJ,i<A.ah.length
 lN:∀x∈A.ah,∀k∈bV.tO x,k<A.ah.length
 aT:∀x∈A.ah,x.aT<2^A.sets
 bits:∀x∈A.ah,x.ak<18446744073709551616/\x.aD<18446744073709551616
 tl:∀x∈A.ah,(bV.tO x).length<=16777216
 il:A.aJ.length<=16777216
def GH.af{w a:WD}{b o:Nat}{x:bV}(h:GH w b o x)(c:BW w a):GH a b o x:=by obtain ⟨m,q,p,d,e,g,j,l⟩:=h;have k:∀{i:Nat}{v:Value},CA w b i v->CA a b i v:=λh=>(c.cell (Nr w _ h)).trans h;exact ⟨m,q,p,k d,k e,k g,k j,l.af c⟩
def bY.af{w g:WD}{A:Au}{ia:OA}{il:Nat}{c:OA}{d:Nat}(h:bY w A ia il c d)(a:BW w g):bY g A ia il c d:=
 ⟨h.aJ.af a,h.bC,h.ah.imp id (λ⟨b,o,e,i⟩=>⟨b,o,e,λj x k=>(i j x k).af a⟩)⟩
def Et.af{w a:WD}{A:Au}{v:Value}(h:Et w A v)(b:BW w a):Et a A v:=by obtain ⟨ia,il,ic,c,g,d,e,h⟩:=h;exact ⟨ia,il,ic,c,g,d,e,h.af b⟩
def nO(w:WD)(fa:OA)(k:Nat):Prop:=k<=w.heap.size/\∀o,fa≠some (AD k o)
def MK(w:WD)(S:Nat->Prop)(D:Au)(v:Value):Prop:=∀a,aj S w a->Et a D v
def MK.B6{w:WD}{S:Nat->Prop}{D:Au}{v:Value}(h:MK w S D v):Et w D v:=h w (aj.refl _ w)
def yT(w:WD)(B:Nat)(D:Au)(v:Value):Prop:=∀a,aj (λk=>k<B) w a->Et a D v
def yT.B6{w:WD}{B:Nat}{D:Au}{v:Value}(h:yT w B D v):Et w D v:=h w (aj.refl _ w)
def yT.aA{w w1:WD}{B:Nat}{D:Au}{v:Value}(h:yT w B D v)(b:aj (λk=>k<B) w w1):yT w1 B D v:=λc a=>h c (b.then a (λ_ _ s=>s))
def yT.af{w a:WD}{B:Nat}{D:Au}{v:Value}(h:yT w B D v)(b:BW w a):yT a B D v:=h.aA (aj.mono (aj.aF b) (λk c s=>by omega))
def yT.less{w:WD}{B C:Nat}{D:Au}{v:Value}(h:yT w B D v)(c:C<=B):yT w C D v:=λb a=>h b (a.mono λk _ s=>by omega)
def Gi(x:TN):bV:=⟨x.W.ak,x.W.aD,x.N,x.bh⟩
def xH(us:List Int)(js:List Nat)(T:List TN):Au:=⟨us.length,js,T.map Gi⟩
structure oq (w wr:WD) (n gk nb ob cQ:Nat) (us:List Int) (f:Fm) (fa:OA) (fc:Nat) (ia:OA) (il ic:Nat) (js:List Nat) (nv:Value) (T:List TN):Prop where
 n8:eH wr n gk nb ob cQ us f fa fc (us.length:Int) (.slice ia il ic) nv T (nO w fa)
 aM:BW w wr
 wL:wr.heap[w.heap.size]? =some (.cells #[IV 0,SN,SN] 36 (0,0))
 bL:∀k,cd gk nb ob nv k->w.heap.size<k
 nW:iS w wr (lO gk nb ob nv (nO w fa)) ia il ic js
 xA:mG f n T [n-1] js
 fin:∀(j:Nat)(x:TN),T[j]? =some x->j<cQ->mG f n T (yp n x.W) x.bh/\x.t.2.1<=16777216
 G3:∀x∈T,GC f n x.W
 many:T.length<=256
section
variable {w wr w3 w4:WD} {n gk nb ob pos:Nat} {us:List Int} {f:Fm} {fa:OA} {fc:Nat} {ia:OA} {il ic:Nat} {js:List Nat} {nv nv':Value} {T R:List TN}
def Gl{S:Nat->Prop}{a:Value}{X:Nat->Prop}(h:∀b,a.ownBlock=some b->nv.ownBlock=some b\/S b){k:Nat}(c:lO gk nb ob a X k):lO gk nb ob nv X k\/S k:=
 c.elim (λs=>(fC (nvi':=nv) h s).imp .inl id) (λs=>.inl (.inr s))
def oq.step(h:oq w wr n gk nb ob pos us f fa fc ia il ic js nv T){x:TN}(E:T[pos]? =some x)(v:aj (cd gk nb ob nv) wr w3)
 {o C:Nat} (O:eH w4 n gk nb ob (pos+1) us f fa fc (us.length:Int) (.slice ia il ic) (.slice (some (AD o 0)) (T++R).length C) (T++R) (nO w fa)) (A:aj (cd gk nb ob nv) w3 w4)
 (U:∀b,(Value.slice (some (AD o 0)) (T++R).length C).ownBlock=some b->nv.ownBlock=some b\/w3.heap.size<=b) (Q:∀y∈R,y.W∈ey f (n+1) (Wy.aK (yp n x.W))/\y.t=(none,0,0)/\y.bh=[])
 (g:(T++R).length<=256) {a:OA} {l c:Nat} {i:List Nat} (D:iS w3 w4 (lO gk nb ob (.slice (some (AD o 0)) (T++R).length C) (nO w fa)) a l c i) (S:mG f n (T++R) (yp n x.W) i):
 oq w (w4.setCell (AD o (pos*4+3)) (.slice a l c)) n gk nb ob (pos+1) us f fa fc ia il ic js (.slice (some (AD o 0)) (T++R).length C) ((T++R).set pos {x with t:=(a,l,c),bh:=i}):=by
 have H:=(NK.1 E).1
 have B:(T++R)[pos]? =some x:=by rw [NP H];exact E
 obtain ⟨P,G⟩:=O.MD B (a,l,c) i D.row D.sep D.lt
 have Y:=v.size
 have Z:=A.size
 have sw:=h.aM.size
 have I:w.heap.size<wr.heap.size:=(Nu.1 h.wL).1
 have W:aj (cd gk nb ob nv) wr w4:=v.then A (λ_ _ s=>s)
 have m:∀b,(Value.slice (some (AD o 0)) (T++R).length C).ownBlock=some b->nv.ownBlock=some b\/wr.heap.size<=b:=λb e=>(U b e).imp id (λh=>by omega)
 have K:aj (cd gk nb ob nv) wr (w4.setCell (AD o (pos*4+3)) (.slice a l c)):=W.then G (λk p s=>(fC (nvi':=nv) m s).resolve_right (by omega))
 have F:∀{k:Nat}{y:TN},((T++R).set pos {x with t:=(a,l,c),bh:=i})[k]? =some y->k=pos/\y={x with t:=(a,l,c),bh:=i}\/k≠pos/\(T++R)[k]? =some y:=λ{k y} p=>by
  by_cases e:pos=k;subst e;rw [Qn (by rw [NH];omega)]at p;cases p;exact .inl ⟨rfl,rfl⟩
  rw [QT e]at p;exact .inr ⟨λL=>e L.symm,p⟩
 have u:∀(k:Nat)(z:TN),(T++R)[k]? =some z->∃y,((T++R).set pos {x with t:=(a,l,c),bh:=i})[k]? =some y/\y.W=z.W:=λk z q=>by by_cases e:pos=k;subst e;rw [B]at q;cases q;exact ⟨_,Qn (by rw [NH];omega),rfl⟩;exact ⟨z,by rw [QT e];exact q,rfl⟩
 have r:∀(k:Nat)(z:TN),T[k]? =some z->∃y,((T++R).set pos {x with t:=(a,l,c),bh:=i})[k]? =some y/\y.W=z.W:=λk z q=>u k z (by rw [NP (NK.1 q).1];exact q)
 rw [NH]at g
 refine ⟨?_,h.aM.trans (K.af h.aM.size (λk p s=>by have:=h.bL k s;omega)),(K.block _ I (λs=>by have:=h.bL _ s;omega)).trans h.wL,λk s=>?_,h.nW.aA K (λk s=>.inl s) (λk s=>Gl m s),h.xA.mono r,λj y d X=>?_,λy d=>?_,by rw [Qk,NH];exact g⟩
 exact P
 rcases fC (nvi':=nv) m s with s|s
 exact h.bL k s
 omega
 rcases F d with⟨rfl,rfl⟩|⟨V,d⟩
 exact ⟨S.mono u,D.bC⟩
 have J:T[j]? =some y:=by rw [NP (by omega)]at d;exact d
 obtain ⟨M,N⟩:=h.fin j y J (by omega)
 exact ⟨M.mono r,N⟩
 rcases RS d with d|rfl
 rcases NY.1 d with d|d
 exact h.G3 y d
 exact .next (h.G3 x (NI E)) (Q y d).1
 exact h.G3 x (NI E)
def Jf{p:Nat}{a b:Fm}(h:At f p (Fm.dw a b))(g:p<n):∃s,s<(dG f n).length/\(dG f n)[s]? =some (p:Int):=by
 have d:(p:Int)∈dG f n:=by unfold dG;refine OC.2 ⟨p,Og.2 ⟨Oq.2 g,?_⟩,rfl⟩;unfold At at h;rw [h];rfl
 obtain ⟨s,c,e⟩:=Sv.1 d;exact ⟨s,c,by rw [Ny c,e]⟩
def rr{g:Nat->Bool}{p n:Nat}:(p:Int)∈cI g n↔p∈(List.range n).filter g:=by
 unfold cI;constructor;intro h;obtain ⟨q,a,e⟩:=OC.1 h;have:q=p:=by omega
 exact this▸a;intro h;exact OC.2 ⟨p,h,rfl⟩
def oq.Kz(h:oq w wr n gk nb ob pos (dG f n) f fa fc ia il ic js nv T)(J:Fm.gI f)(u:T.length<=pos):∃t:kv f (xH (dG f n) js T),True:=by
 have q:Fm.size f=n:=h.n8.form.size;have o:∀{j:Nat}{x:TN},T[j]? =some x->(xH (dG f n) js T).aw j=Gi x:=λ{j x} d=>by unfold Au.aw xH;rw [Nw,Oh,d];rfl
 have B:(xH (dG f n) js T).ah.length=T.length:=NU ..;have i:∀{j:Nat},j<(xH (dG f n) js T).ah.length->∃x,T[j]? =some x:=λ{j} l=>⟨_,Ny (by rw [B]at l;exact l)⟩;have g:∀{j:Nat}{x:TN},T[j]? =some x->(match T[j]? with|some x=>bH n x.W|none=>⟨0,0,[],[]⟩:Jp)=bH n x.W:=λ{j x} d=>by rw [d]
 refine ⟨{o9:=λj=>match T[j]? with|some x=>bH n x.W|none=>⟨0,0,[],[]⟩
          L:=λm c=>∃Z∈qx f n m,bH n Z=c
          ow:=λm u=>qX J m u (n+1) (by omega) _ (λc=>by rw [q];exact Ry)
          zJ:=λj l p u=>?_,ak:=λj l=>?_,aD:=λj l=>?_,Hn:=λj l=>?_,MG:=λj l k A=>?_,aJ:=λj l=>?_,tO:=λj l k A=>?_
          gZ:=λc D=>?_,nm:=λj l c D=>?_,wW:=λs=>((dG f n).getD s 0).toNat,dw:=λp a b u=>?_,KS:=λs v=>?_,aT:=λj l s v=>?_},PO⟩
 obtain ⟨x,d⟩:=i l;rw [g d]at u;rw [q];exact (jd.1 u).1;obtain ⟨x,d⟩:=i l;rw [g d,o d];rfl;obtain ⟨x,d⟩:=i l;rw [g d,o d];rfl;obtain ⟨x,d,-⟩:=h.xA.1 j l;rw [B];exact (NK.1 d).1;obtain ⟨x,d⟩:=i l;rw [o d]at A;obtain ⟨y,C,-⟩:=(h.fin j x d (by have:=(NK.1 d).1;omega)).1.1 k A;rw [B];exact (NK.1 C).1;obtain ⟨x,d,Z,r,e⟩:=h.xA.1 j l;rw [g d,q];exact ⟨Z,r,e.symm⟩;obtain ⟨x,d⟩:=i l;rw [o d]at A;obtain ⟨y,C,Z,r,e⟩:=(h.fin j x d (by have:=(NK.1 d).1;omega)).1.1 k A;rw [g d,g C];exact ⟨Z,r,e.symm⟩;obtain ⟨Z,r,rfl⟩:=D;rw [q]at r;obtain ⟨j,l,x,d,e⟩:=h.xA.2 Z r;exact ⟨j,l,by rw [g d];exact e⟩;obtain ⟨x,d⟩:=i l;rw [g d]at D;obtain ⟨Z,r,rfl⟩:=D;obtain ⟨k,A,y,C,e⟩:=(h.fin j x d (by have:=(NK.1 d).1;omega)).1.2 Z r;exact ⟨k,by rw [o d];exact A,by rw [g C];exact e⟩;obtain ⟨s,v,e⟩:=Jf u (by have:=u.lt;omega:p<n);exact ⟨s,v,by rw [Nw,e];rfl⟩;obtain ⟨p,x,E,F,G,-⟩:=z7 v;obtain ⟨a,b,rfl⟩:∃a b,x=Fm.dw a b:=by cases x<;>first|exact ⟨_,_,rfl⟩|cases G
 exact ⟨a,b,by rw [Nw,E];exact F⟩;obtain ⟨x,d⟩:=i l;have K:=(h.n8.ah x (NI d)).met;have v:s<(dG f n).length:=v;obtain ⟨p,z,E,F,G,N⟩:=z7 v;rw [o d,g d];show x.N.testBit s=true↔_;have H:(dG f n).getD s 0=(p:Int):=by rw [Nw,E];rfl
 rw [K.2 s,H];have M:1<=p:=by
  obtain ⟨a,b,rfl⟩:∃a b,z=Fm.dw a b:=by cases z<;>first|exact ⟨_,_,rfl⟩|cases G
  have:=(Fm.dL (Fm.gC.dw (a:=a) (b:=b)) f p F).1;omega
 have I:(p:Int)-1=((p-1:Nat):Int):=by omega
 unfold CN;rw [H,I];simp only [v,decide_true,OM,Py,QN,decide_eq_false_iff_not,Rn,Qj];rw [rr,rr];exact Ry
end
end
section
open Go.Maps
def ND:=@Go.MapKept.heap_alloc
def Pe:=@Bool.false_and
def PI:=@Go.results_cell_tmp
def GC.small{f:Fm}{n:Nat}(a:dV f){W:Wy}(h:GC f n W):u7 W:=by
 cases h with
 |aJ h=>exact lV a _ _ (nh _) W h
 |next _ h=>exact lV a _ _ (nh _) W h
section
variable {w wr w':WD} {n gk nb ob pos:Nat} {us:List Int} {f:Fm} {fa:OA} {fc:Nat} {ia:OA} {il ic:Nat} {js:List Nat} {nv:Value} {T:List TN}
def oq.B6(h:oq w wr n gk nb ob pos us f fa fc ia il ic js nv T)(k:aj (nO w fa) wr w'):Et w' (xH us js T) (.agg #[IV us.length,.slice ia il ic,nv]):=by
 obtain ⟨p,C,rfl⟩:=bw h.n8.cK;have m:=bm h.n8.cK k (λb e s=>by have:=h.bL b (.inr (.inr (.inr e)));have:=s.1;omega);refine ⟨ia,il,ic,p,T.length,C,rfl,cF h.nW.row k (λb o e s=>h.nW.sep b o e (.inr s)),NU ..,?_⟩;rcases m.2 with⟨d,-⟩|⟨g,q,r,d,-⟩;exact .inl (On d).2.1;have e:p=some (AD g 0):=(On d).1;subst e;refine .inr ⟨g,0,rfl,λj y a=>?_⟩;obtain ⟨x,l,rfl⟩:∃x,T[j]? =some x/\Gi x=y:=by have a:(T.map Gi)[j]? =some y:=a;rw [Oh]at a;exact Ph.1 a
 obtain ⟨t,v,z,A⟩:=oJ T j x l;have c:∀{i:Nat}{u:Value},(eo T)[i]? =some u->CA w' g i u:=λ{i u} B=>by have:=m.cells (g:=g) rfl i u B;rw [O4,Od]at this;exact this
 rw [Od];exact ⟨_,_,_,c t,c v,c z,c A,cF (h.n8.ah x (NI l)).lN k (λb o e s=>(h.n8.ah x (NI l)).sep b o e (.inr s))⟩
def oq.Nl(h:oq w wr n gk nb ob pos us f fa fc ia il ic js nv T)(l:dV f)(m:us.length<=16)(v:T.length<=pos):fS (xH us js T):=by
 have d:(xH us js T).ah.length=T.length:=NU ..;have b:∀y∈(xH us js T).ah,∃(j:Nat)(x:TN),T[j]? =some x/\Gi x=y:=λy c=>by obtain ⟨x,a,e⟩:=OC.1 (show y∈T.map Gi from c);obtain ⟨j,q⟩:=Pg a;exact ⟨j,x,q,e⟩
 refine ⟨m,by rw [d];exact h.many,λi o=>?_,λy c k r=>?_,λy c=>?_,λy c=>?_,λy c=>?_,?_⟩;obtain ⟨x,a,-⟩:=h.xA.1 i o;rw [d];exact (NK.1 a).1;obtain ⟨j,x,a,rfl⟩:=b y c;obtain ⟨z,t,-⟩:=(h.fin j x a (by have:=(NK.1 a).1;omega)).1.1 k r;rw [d];exact (NK.1 t).1;obtain ⟨j,x,a,rfl⟩:=b y c;have s:=(h.n8.ah x (NI a)).met;show x.N<2^us.length;refine Nat.lt_pow_two_of_testBit _ λi o=>?_;rw [s.2 i,NX (by omega),Pe];obtain ⟨j,x,a,rfl⟩:=b y c;have p:=(h.G3 x (NI a)).small l;exact ⟨by have:=p.1;show x.W.ak<_;omega,by have:=p.2;show x.W.aD<_;omega⟩;obtain ⟨j,x,a,rfl⟩:=b y c;have u:=(h.fin j x a (by have:=(NK.1 a).1;omega)).2;have g:=(h.n8.ah x (NI a)).lN.1;rw [aC]at g;show x.bh.length<=_;omega;have g:=h.nW.row.1;rw [aC]at g;have:=h.nW.bC;show js.length<=_;omega
end
def bQ{w:WD}{g:Nat}{m o q c d l:Value}(r:w.cell? (AD g 0)=some m)(s:w.cell? (AD g 1)=some o)(t:w.cell? (AD g 2)=some q)(b:WD)
 (e:b=((w.setCell (AD g 0) c).setCell (AD g 1) d).setCell (AD g 2) l):
 b.cell? (AD g 0)=some c/\b.cell? (AD g 1)=some d/\b.cell? (AD g 2)=some l/\aj (λk=>k=g) w b:=by
 subst e
 have a:∀(W:WD)(i j:Nat)(v:Value),i≠j->(W.setCell (AD g i) v).cell? (AD g j)=W.cell? (AD g j):=λW i j v h=>Oc _ _ _ _ (dR (P4 h))
 refine ⟨?_,?_,?_,(((aj.refl (λk=>k=g) w).setCell (p:=(AD g 0)) (λ_=>rfl) _).setCell (p:=(AD g 1)) (λ_=>rfl) _).setCell (p:=(AD g 2)) (λ_=>rfl) _⟩
 rw [a _ _ _ _ (by decide),a _ _ _ _ (by decide)]
 exact Oj (h:=r) ..
 rw [a _ _ _ _ (by decide)]
 exact Oj (h:=by rw [a _ _ _ _ (by decide)];exact s) ..
 exact Oj (h:=by rw [a _ _ _ _ (by decide),a _ _ _ _ (by decide)];exact t) ..
def lP(f:Fm)(n:Nat):Prop:=∃L:List Wy,256<L.length/\(∀(i j:Nat)(x y:Wy),L[i]? =some x->L[j]? =some y->bH n x=bH n y->i=j)/\∀x∈L,GC f n x
def eH.KC{w:WD}{n gk nb ob pos:Nat}{us:List Int}{f:Fm}{fa:OA}{fc:Nat}{c:Int}{p nv:Value}{T:List TN}{X:Nat->Prop}(h:eH w n gk nb ob pos us f fa fc c p nv T X)(o:256<T.length)(m:∀x∈T,GC f n x.W):lP f n:=by refine ⟨T.map TN.W,by rw [NU];exact o,λi j x y d g e=>?_,λx d=>?_⟩;rw [Oh]at d g;obtain ⟨a,k,rfl⟩:=Ph.1 d;obtain ⟨b,l,rfl⟩:=Ph.1 g;exact h.uniq i j a b k l e;obtain ⟨y,g,rfl⟩:=OC.1 d;exact m y g
def gp.shape{w w':WD}{n gk nb ob pos:Nat}{us:List Int}{f:Fm}{fa:OA}{fc:Nat}{g:Int}{j nv:Value}{T:List TN}{X:Nat->Prop}{d:List Nat}{e:Ending}(h:gp w n gk nb ob pos us f fa fc g j nv T X d e w'):
 ∃a l c b,e=RT (.tuple #[.slice a l c,.bool b])/\gp w n gk nb ob pos us f fa fc g j nv T X d (RT (.tuple #[.slice a l c,.bool b])) w':=by
 have i:=h
 obtain ⟨k,R,-,-,-,-,⟨a,l,c,js,rfl,-⟩|⟨rfl,-⟩⟩:=h
 exact ⟨a,l,c,true,rfl,i⟩
 exact ⟨none,0,0,false,rfl,i⟩
def gp.yes{w w':WD}{n gk nb ob pos:Nat}{us:List Int}{f:Fm}{fa:OA}{fc:Nat}{i:Int}{j nv:Value}{T:List TN}{X:Nat->Prop}{d:List Nat}{a:OA}{l c:Nat}(h:gp w n gk nb ob pos us f fa fc i j nv T X d (RT (.tuple #[.slice a l c,.bool true])) w'):
 ∃(g:Value)(R:List TN)(js:List Nat),eH w' n gk nb ob pos us f fa fc i j g (T++R) X/\aj (cd gk nb ob nv) w w'/\(∀b,g.ownBlock=some b->nv.ownBlock=some b\/w.heap.size<=b)/\
  (∀x∈R,x.W∈ey f (n+1) (Wy.aK d)/\x.t=(none,0,0)/\x.bh=[])/\(T++R).length<=256/\iS w w' (lO gk nb ob g X) a l c js/\mG f n (T++R) d js:=by
 obtain ⟨g,R,k,m,o,p,⟨u,y,v,js,e,q,r,s,t⟩|⟨e,-⟩⟩:=h
 cases e
 exact ⟨g,R,js,k,m,o,p,q,r,s,t⟩
 cases e
def gp.no{w w':WD}{n gk nb ob pos:Nat}{us:List Int}{f:Fm}{fa:OA}{fc:Nat}{d:Int}{q nv:Value}{T:List TN}{X:Nat->Prop}{b:List Nat}{a:OA}{l c:Nat}(h:gp w n gk nb ob pos us f fa fc d q nv T X b (RT (.tuple #[.slice a l c,.bool false])) w')
 (o:∀x∈T,GC f n x.W) (p:∀Z∈qx f n b,GC f n Z):lP f n/\aj (cd gk nb ob nv) w w':=by
 obtain ⟨r,R,i,j,u,k,⟨s,v,t,js,e,-⟩|⟨e,m⟩⟩:=h
 cases e
 exact ⟨i.KC m (λx g=>(NY.1 g).elim (o x) (λg=>p _ (k x g).1)),j⟩
def oq.aK{w i q:WD}{n gk nb ob:Nat}{us:List Int}{f:Fm}{fa:OA}{fc:Nat}{d:Value}{R:List TN}{a:OA}{l c:Nat}{js:List Nat}(r:BW w i)
 (h:HC i w.heap.size #[IV 0,SN,SN] 36) (g:∀k,cd gk nb ob (SN) k->w.heap.size<k)
 (z:eH q n gk nb ob 0 us f fa fc (us.length:Int) (SN) d R (nO w fa)) (A:aj (cd gk nb ob (SN)) i q) (B:∀b,d.ownBlock=some b->(SN).ownBlock=some b\/i.heap.size<=b)
 (C:∀x∈R,x.W∈ey f (n+1) (Wy.aK [n-1])/\x.t=(none,0,0)/\x.bh=[]) (G:R.length<=256) (D:iS i q (lO gk nb ob d (nO w fa)) a l c js) (E:mG f n R [n-1] js):
 oq w (q.setCell (AD gk 4) (.slice a l c)) n gk nb ob 0 us f fa fc a l c js d R:=by
 obtain ⟨F,u⟩:=z.MC (.slice a l c)
 have t:w.heap.size<i.heap.size:=(Nu.1 h).1
 have p:∀k,cd gk nb ob d k->w.heap.size<k:=λk s=>by rcases fC (nvi':=d) B s with s|s;exact g k s;omega
 have y:aj (λk=>w.heap.size<k) i (q.setCell (AD gk 4) (.slice a l c)):=(A.mono λk _ s=>g k s).then u (λk _ s=>p k s)
 have m:=D.aA u (λk s=>.inl s) (λk s=>.inl s)
 exact ⟨F,r.trans (y.af r.size (λk I s=>by omega)),(y.block _ t (λs=>by omega)).trans h,p,⟨m.row,λb o e=>N5 r.size (m.bL b o e),m.sep,m.lt,m.bC,m.nil⟩,E,λj x v H=>by omega,λx v=>.aJ (C x v).1,G⟩
def oq.cZ{w wr c:WD}{n gk nb ob pos:Nat}{us:List Int}{f:Fm}{fa:OA}{fc:Nat}{ia:OA}{il ic:Nat}{js:List Nat}{nv:Value}{T:List TN}(h:oq w wr n gk nb ob pos us f fa fc ia il ic js nv T)(a:aj (cd gk nb ob nv) wr c):
 BW w c/\HC c w.heap.size #[IV 0,SN,SN] 36:=by
 have b:w.heap.size<wr.heap.size:=(Nu.1 h.wL).1
 exact ⟨h.aM.trans (a.af h.aM.size (λk a s=>by have:=h.bL k s;omega)),(a.block _ b (λs=>by have:=h.bL _ s;omega)).trans h.wL⟩
def B5(w:WD)(fa:OA)(n:Nat)(f:Fm)(e:Ending)(w':WD):Prop:=
 BW w w'/\((∃A v,e=RT (.tuple #[v,IV 0])/\(∃_:kv f A,True)/\MK w' (nO w fa) A v/\fS A/\A.sets=(dG f n).length)\/
  ∃a:Int,e=RT (.tuple #[.agg #[IV 0,SN,SN],IV a])/\a≠0/\(50<n\/16<(dG f n).length\/lP f n))
def Ge(w:WD)(n:Nat)(f:Fm)(fa:OA)(fc:Nat)(hf:FA w fa n f)(a8:eG w)(hN:Fm.gI f)(ap:dV f)(hn:n<=1000000):
 CL 42 #[.slice fa n fc] w (B5 w fa n f):=by
 obtain ⟨us,aN⟩:=EX (dG f n)
 have bN:=@RY Tryz.prog
 have a3:Hid (∀w2,BW w w2->CL 75 #[.slice fa n fc] w2 λe w'=>∃a' m c',e=RT (.slice a' m c')/\aE .i64 3 w2 w' (.slice a' m c') us):=λw2 hb=>by rw [<-aN];exact wX fa n fc _ f w2 (hf.af hb) hn (fA ap)
 have aW:Hid (∀w2,BW w w2->CL 76 #[.slice fa n fc] w2 λe w'=>e=RT (.bool true)/\BW w2 w'):=λw2 hb=>zz fa n fc f w2 (hf.af hb) hN ap hn
 have bO:0<n:=by rw [<-hf.size];exact Fm.bF f
 have HF:=Nq hf
 have a0:=Nq a8
 have HN:=Nq hN
 have aA:=Nq ap
 have N:=Nq aN
 obtain ⟨i3,bM,bU,bP,aF⟩:=Ol Tryz.ed
 obtain ⟨w1,ar⟩:=EX (w.alloc (.cells #[IV 0,SN,SN] 36))
 have aD:BW w w1:=ar▸ag _ _
 have a1:=Nq (a3.o w1 aD)
 have aS:=Nq aD
 have aZ:Hid (w1.heap[w.heap.size]? =some (.cells #[IV 0,SN,SN] 36 (0,0))):=by rw [<-ar];exact (ND w _).1
 clear hf a8 hN ap aN aD
 go_enter Tryz.func42,Tryz.ntmps42
 go_upto_region 1 with(fail)
 go_upto_region 4 with(first
  |(go_at_call 75;refine a1.o.mono ?_;rintro e w2 ⟨ua,um,uc,rfl,ab⟩;have aY:=Nq ab;have aV:=Nq (aW.o w2 (aa aS.o ab.2.1));clear ab)
  |(go_at_call 76;refine aV.o.mono ?_;rintro e u ⟨rfl,aF⟩;have bn:=Nq aF;clear aF))
 have bR:um=us.length:=(eV aY.o).symm
 have H:Hid (BW w1 u):=aa aY.o.2.1 bn.o
 have aq:w.heap.size<w1.heap.size:=by rw [<-ar,NG];exact Q2 _
 have I:Hid (u.heap[w.heap.size]? =some (.cells #[IV 0,SN,SN] 36 (0,0))):=(H.o.block _ aq).trans aZ.o
 have V:u.cell? (AD w.heap.size 0)=some (IV 0):=CH I.o
 have X:u.cell? (AD w.heap.size 1)=some (SN):=CH I.o
 have C:u.cell? (AD w.heap.size 2)=some (SN):=CH I.o
 have z0:u.frozen? (AD w.heap.size 0)=false:=NA I.o 0
 have z1:u.frozen? (AD w.heap.size 1)=false:=NA I.o 1
 have z2:u.frozen? (AD w.heap.size 2)=false:=NA I.o 2
 have q:Hid (BW w u):=aa aS.o H.o
 clear ar a1 aV a3 aW
 by_cases a6:n<=50
 ·have a7:¬((50:Int)<(n:Int)):=by omega
  by_cases bJ:um<=16
  ·have a5:¬((16:Int)<(um:Int)):=by omega
   go_upto_region 8 with(fail);go_upto_region 9 with(fail);obtain ⟨gk,an⟩:=EX (u.heap.size+1+1);obtain ⟨w4,P⟩:=EX (((u.alloc (.map #[] 0)).alloc (.map #[] 0)).alloc (.cells #[.slice fa n fc,.map (some u.heap.size),.map (some (u.heap.size+1)),IV us.length,SN,SN] 116));rw [P,an];have al:BW u w4:=P▸((Nx _ u).alloc (Nz _) _|>.alloc (by rw [NG];omega) _|>.alloc (by rw [NG,NG];omega) _);have az:eH w4 n gk u.heap.size (u.heap.size+1) 0 us f fa fc (us.length:Int) (SN) (SN) [] (nO w fa):=by
    obtain ⟨wa,ha⟩:=EX (u.alloc (.map #[] 0));obtain ⟨wb,am⟩:=EX (wa.alloc (.map #[] 0));rw [ha,am]at P;have sa:wa.heap.size=u.heap.size+1:=by rw [<-ha,NG]
    have sb:wb.heap.size=u.heap.size+1+1:=by rw [<-am,NG,sa]
    have m1:cE Tryz.prog 9 wa u.heap.size 0 (λ_=>none):=ha▸cE.aK Tryz.prog 9 u;have m2:cE Tryz.prog 3 wb (u.heap.size+1) 0 (λ_=>none):=by have:=cE.aK Tryz.prog 3 wa;rw [am,sa]at this;exact this
    have bt:BW wa wb:=am▸ag _ _;have a4:BW wb w4:=P▸ag _ _;obtain ⟨fb,fo,rfl,bK⟩:=(HF.o.af q.o).lt;have bB:fb<w.heap.size:=by obtain ⟨bH,bI,e,h⟩:=HF.o.lt;cases e;exact h
    refine ⟨by rw [<-P,<-an,<-sb];exact (ND wb _).1,Ox _ _ _ _,λx hx=>(by cases hx),⟨_,(m1.af (aa bt a4)),λj x hx=>(by cases hx),λs v h=>(by cases h)⟩,⟨_,m2.af a4,λj x hx=>(by cases hx)⟩,⟨by omega,by omega,by omega⟩,λb e=>(by cases e),λi j x y hx=>(by cases hx),λk s=>?_,(HF.o.af q.o).af al,λb o e s=>?_,λb o e=>?_⟩
    ·have:=q.o.size;rcases s with s|s|s|s
     ·omega
     ·omega
     ·omega
     ·cases s
    ·cases e
     have:=q.o.size;rcases s with(s|s|s|s)|s
     ·omega
     ·omega
     ·omega
     ·cases s
     ·exact s.2 fo rfl
    ·cases e
     have:=al.size;omega
   have U:Hid (∀k,cd gk u.heap.size (u.heap.size+1) (SN) k->w.heap.size<k):=λk s=>by
    have:w.heap.size<u.heap.size:=NL aq H.o.size;rcases s with s|s|s|s
    ·omega
    ·omega
    ·omega
    ·cases s
   have bb:w4.heap.size=gk+1:=by rw [<-P,NG,NG,NG,an]
   obtain ⟨Q,ac⟩:=EX (w4.alloc (.cells #[IV ((n:Int)-1)] 3));have ad:=(bp w4 #[IV ((n:Int)-1)] 3 0 _ rfl).1;rw [ac,bb]at ad;have E:BW w4 Q:=ac▸ag _ _;have J:=aa al E;have aI:((n-1:Nat):Int)=(n:Int)-1:=by omega
   have ay:aG .i64 Q (some (AD (gk+1) 0)) 1 (aH [n-1]):=⟨rfl,.inr ⟨_,_,rfl,λi hi=>by
    obtain rfl:i=0:=by omega
    show Q.cell? (AD (gk+1) 0)=some (IV ((n-1:Nat):Int));rw [aI];exact ad⟩⟩
   have au:=Nq (az.af E);have aQ:Hid (CL 77 #[PT gk,SV (gk+1) 1 1] Q λe w'=>∃a l c b,e=RT (.tuple #[.slice a l c,.bool b])/\gp Q n gk u.heap.size (u.heap.size+1) 0 us f fa fc (us.length:Int) (SN) (SN) [] (nO w fa) [n-1] (RT (.tuple #[.slice a l c,.bool b])) w'):=by have bS:w.heap.size<Q.heap.size:=NL aq (N5 H.o.size J.size);have h:=DC Q n gk u.heap.size (u.heap.size+1) 0 f fa fc (us.length:Int) (SN) (SN) [] (nO w fa) (some (AD (gk+1) 0)) 1 1 [n-1] (by rw [N.o];exact au.o) (λk e=>by have:=e.1;omega) (a0.o.af (aa q.o J)) HN.o aA.o a6 (by decide) ay (λp hp=>by rw [Nv.1 hp];omega) (by decide) (λe=>by cases e);rw [N.o]at h;exact h.mono λe w' h=>h.shape
   have S:=Nq J;have ak:Hid (Q.heap[w.heap.size]? =some (.cells #[IV 0,SN,SN] 36 (0,0))):=(J.block _ (NL aq H.o.size)).trans I.o;clear az P al ad E J ay V X C z0 z1 z2;go_upto_region 10 with(go_at_call 77;refine aQ.o.mono ?_;rintro e w6 ⟨a,l,c,b,rfl,ae⟩;have L:=Nq ae;clear ae);cases b
   ·have K:=L.o.no (λx hx=>by cases hx) (λZ hZ=>.aJ hZ);have O:w6.heap[w.heap.size]? =some (.cells #[IV 0,SN,SN] 36 (0,0)):=(K.2.block _ (Nu.1 ak.o).1 (λs=>by have:=U.o _ s;omega)).trans ak.o
    have aT:Hid (BW w w6):=(aa q.o S.o).trans (K.2.af (aa q.o S.o).size (λk hk s=>by have:=U.o k s;omega));have M:=Nq K.1;have V:w6.cell? (AD w.heap.size 0)=some (IV 0):=CH O;have X:w6.cell? (AD w.heap.size 1)=some (SN):=CH O;have C:w6.cell? (AD w.heap.size 2)=some (SN):=CH O;have z0:w6.frozen? (AD w.heap.size 0)=false:=NA O 0;have z1:w6.frozen? (AD w.heap.size 1)=false:=NA O 1;have z2:w6.frozen? (AD w.heap.size 2)=false:=NA O 2;clear O K;go_wp2;(try simp only [Exit.inBlock,Exit.then]);obtain ⟨G,d⟩:=EX (((w6.setCell (AD w.heap.size 0) (IV 0)).setCell (AD w.heap.size 1) (SN)).setCell (AD w.heap.size 2) (SN));rw [d];obtain ⟨d0,d1,d2,B⟩:=bQ V X C G d.symm;clear d V X C;refine OS (v:=.tuple #[.agg #[IV 0,SN,SN],IV 11]) ?_ rfl ⟨?_,.inr ⟨11,rfl,by decide,.inr (.inr M.o)⟩⟩
    ·rw [PI rfl];go_simp
    ·exact aT.o.trans (B.af aT.o.size (λk hk e=>by omega))
   ·obtain ⟨nv,R,js,Y,h2,h3,h4,h5,h6,h7⟩:=L.o.yes;have HL:=Nq (oq.aK (aa q.o S.o) ak.o U.o Y h2 h3 h4 h5 h6 h7)
    have i4:w6.cell? (AD gk 4)=some (SN):=CH Y.dp;have y4:w6.frozen? (AD gk 4)=false:=NA Y.dp 4;clear Y h2 h3 h4 h5 h6 h7 L aQ;go_upto_region 13 with(fail);obtain ⟨w7,bl⟩:=EX (w6.setCell (AD gk 4) (.slice a l c));rw [bl]at HL⊢;clear bl i4 y4;go_wp2;obtain ⟨nb,bf⟩:=EX u.heap.size;obtain ⟨ob,bg⟩:=EX (nb+1);rw [bf,bg]at HL;rw [bf,bg];clear U aZ I ak S au an bb;go_loopw [8] (λx wr=>∃(pos:Nat)(nv:Value)(T:List TN),x=IV pos/\pos<=T.length/\Hid (oq w wr n gk nb ob pos us f fa fc a l c js nv T)) (λx _=>257-(intOf x).toNat);exact ⟨0,_,_,rfl,NS _,HL⟩;clear HL;obtain ⟨pos,nv,T,rfl,bD,D⟩:=hrel;obtain ⟨na,nc,rfl⟩:=bw D.o.n8.cK;have aM:=D.o.many;have k5:wr.cell? (AD gk 5)=some (.slice na T.length nc):=CH D.o.n8.dp;by_cases bd:pos<T.length
    ·have be:(pos:Int)<(T.length:Int):=by omega
     obtain ⟨x,hx⟩:∃x,T[pos]? =some x:=⟨_,Ny bd⟩;obtain ⟨g,hm,hg⟩:=D.o.n8.BQ;have bc:=hg pos x hx (Nz _);have k2:wr.cell? (AD gk 2)=some (.map (some ob)):=CH D.o.n8.dp;have aL:=iG (n:=pos) (by omega);have z:=hm.look lW Tryz.underlying114 (Es wr) aL;rw [bc]at z;simp only [OU]at z;obtain ⟨W,hW⟩:=EX x.W;obtain ⟨⟨⟨xa,xl,xc⟩,⟨ya,yl,yc⟩⟩,hr⟩:∃r,x.r=r:=⟨_,rfl⟩;rw [hW,hr]at z;change (Instr.lookup 114 (.map (some ob)) (IV pos) false).run Tryz.prog wr=.ok (.agg #[UV W.ak,UV W.aD,.slice xa xl xc,.slice ya yl yc]) wr at z;have HM:=Nq hm;have HG:=Nq hg;have HX:=Nq hx;have HW:=Nq hW;have bq:=Nq hr;have bo:=Nq aL;clear hm hg bc hx hW hr aL;go_upto_region 17 with(fail);obtain ⟨Q,ac⟩:=EX (wr.alloc (.cells #[UV W.ak,UV W.aD,.slice xa xl xc,.slice ya yl yc] 119));have aC:=(bp wr #[UV W.ak,UV W.aD,.slice xa xl xc,.slice ya yl yc] 119 2 _ rfl).1;rw [ac]at aC⊢;have E:BW wr Q:=ac▸ag _ _;have j2:Q.cell? (AD gk 2)=some (.map (some ob)):=by rw [Nt (D.o.n8.af E).dp];rfl
     obtain ⟨ai,ba,ab,ao⟩:=(HM.o.af E).del lW Tryz.underlying114 bo.o 0;have bi:ob<wr.heap.size:=HM.o.lt;have F:=(D.o.n8.af E).del HG.o ab ao;have aK:aj (cd gk nb ob (.slice na T.length nc)) wr ai:=(aj.mono (aj.aF E) (λk hk s=>by omega)).then ao (λk _ s=>.inr (.inr (.inl s)));have bu:=ao.aq aC (by show¬(wr.heap.size=ob);omega);obtain ⟨bj,ax⟩:=D.o.cZ aK;have aO:x∈T:=NI HX.o;have ah:=(F.ah x aO).o9;rw [HW.o,bq.o]at ah;have bE:w.heap.size<ai.heap.size:=(Nu.1 ax).1;have bT:xl<=n:=by have h:=ah.1.1;simp only at h;rw [<-h];exact kJ _ _
     have br:=Nq F;have aX:=Nq aK;have aR:Hid (CL 77 #[PT gk,.slice xa xl xc] ai λe w'=>∃a2 l2 C b2,e=RT (.tuple #[.slice a2 l2 C,.bool b2])/\gp ai n gk nb ob (pos+1) us f fa fc (us.length:Int) (.slice a l c) (.slice na T.length nc) T (nO w fa) (yp n W) (RT (.tuple #[.slice a2 l2 C,.bool b2])) w'):=by have h:=DC ai n gk nb ob (pos+1) f fa fc (us.length:Int) (.slice a l c) (.slice na T.length nc) T (nO w fa) xa xl xc (yp n W) (by rw [N.o];exact F) (λk e=>by have:=e.1;omega) (a0.o.af bj) HN.o aA.o a6 aM ah.1 (λp hp=>Oq.1 (Og.1 hp).1) (by omega) ah.2.2.2.2.2.2.1;rw [N.o]at h;exact h.mono λe w' h=>h.shape
     have bs:=Nq aO;clear F aK ab ao aC ac E z ah k2 k5 bj ax aO bi;go_upto_region 18 with(fail);clear j2 ba;go_upto_region 19 with(go_at_call 77;refine aR.o.mono ?_;rintro e w7 ⟨a2,l2,C,b2,rfl,ae⟩;have L:=Nq ae;clear ae);clear aR bu;cases b2
     ·have K:=L.o.no D.o.G3 (λZ hZ=>.next (D.o.G3 x bs.o) (by rw [HW.o];exact hZ));obtain ⟨bk,A⟩:=D.o.cZ (aX.o.then K.2 (λ_ _ s=>s))
      have aU:=Nq bk;have M:=Nq K.1;have V:w7.cell? (AD w.heap.size 0)=some (IV 0):=CH A;have X:w7.cell? (AD w.heap.size 1)=some (SN):=CH A;have C:w7.cell? (AD w.heap.size 2)=some (SN):=CH A;have z0:w7.frozen? (AD w.heap.size 0)=false:=NA A 0;have z1:w7.frozen? (AD w.heap.size 1)=false:=NA A 1;have z2:w7.frozen? (AD w.heap.size 2)=false:=NA A 2;clear bk A K;go_wp2;(try simp only [Exit.inBlock,Exit.then]);obtain ⟨G,d⟩:=EX (((w7.setCell (AD w.heap.size 0) (IV 0)).setCell (AD w.heap.size 1) (SN)).setCell (AD w.heap.size 2) (SN));rw [d];obtain ⟨d0,d1,d2,B⟩:=bQ V X C G d.symm;clear d V X C;refine OS (v:=.tuple #[.agg #[IV 0,SN,SN],IV 11]) ?_ rfl ⟨?_,.inr ⟨11,rfl,by decide,.inr (.inr M.o)⟩⟩
      ·rw [PI rfl];go_simp
      ·exact aU.o.trans (B.af aU.o.size (λk hk e=>by omega))
     ·obtain ⟨bV,R2,ks,Y,h2,h3,h4,h5,h6,h7⟩:=L.o.yes;obtain ⟨bz,bA,rfl⟩:=bw Y.cK
      obtain ⟨tb,rfl⟩:∃tb,bz=some (AD tb 0):=by
       rcases Y.cK.2 with⟨h8,-⟩|⟨g,bF,bG,h8,-⟩
       ·have:=(On h8).2.1;rw [NH]at this
        omega
       ·exact ⟨g,(On h8).1⟩
      have bm:(T++R2)[pos]? =some x:=by rw [NP bd];exact HX.o
      have bv:=Y.cK.cells (g:=tb) rfl _ _ (oJ (T++R2) pos x bm).2.2.2;rw [O4,Od]at bv;have bL:=Y.cK.frozenAt (pos*4+3);have i5:w7.cell? (AD gk 5)=some (.slice (some (AD tb 0)) (T++R2).length bA):=CH Y.dp;rw [<-HW.o]at h4 h7;have aB:=Nq (D.o.step HX.o aX.o Y h2 h3 h4 h5 h6 h7);have aw:((T++R2).set pos {x with t:=(a2,l2,C),bh:=ks}).length=(T++R2).length:=Qk;obtain ⟨T3,a9⟩:=EX ((T++R2).set pos {x with t:=(a2,l2,C),bh:=ks});rw [a9]at aB aw;have bx:pos<(T++R2).length:=by rw [NH];omega
      obtain ⟨aP,av⟩:=EX ((T++R2).length);rw [av]at aB aw i5 bx;have bC:(pos:Int)<(aP:Int):=by omega
      clear Y h2 h3 h4 h5 h6 h7 L a9 av bm;go_wp2;go_roundw;exact ⟨pos+1,_,T3,by go_num,by omega,aB⟩;simp [intOf];omega
    ·obtain rfl:pos=T.length:=by omega
     have be:¬((T.length:Int)<(T.length:Int)):=by omega
     have k3:wr.cell? (AD gk 3)=some (IV us.length):=CH D.o.n8.dp;have k4:wr.cell? (AD gk 4)=some (.slice a l c):=CH D.o.n8.dp;have hR:=D.o.wL;have V:wr.cell? (AD w.heap.size 0)=some (IV 0):=CH hR;have X:wr.cell? (AD w.heap.size 1)=some (SN):=CH hR;have C:wr.cell? (AD w.heap.size 2)=some (SN):=CH hR;have z0:wr.frozen? (AD w.heap.size 0)=false:=NA hR 0;have z1:wr.frozen? (AD w.heap.size 1)=false:=NA hR 1;have z2:wr.frozen? (AD w.heap.size 2)=false:=NA hR 2;clear hR;go_wp2;(try simp only [Exit.inBlock,Exit.then]);obtain ⟨G,d⟩:=EX (((wr.setCell (AD w.heap.size 0) (IV us.length)).setCell (AD w.heap.size 1) (.slice a l c)).setCell (AD w.heap.size 2) (.slice na T.length nc));rw [d];obtain ⟨d0,d1,d2,B⟩:=bQ V X C G d.symm;clear d V X C;refine OS (v:=.tuple #[.agg #[IV us.length,.slice a l c,.slice na T.length nc],IV 0]) ?_ rfl ⟨?_,.inl ⟨xH us js T,_,rfl,?_,(λw1 Y=>D.o.B6 ((B.mono (λk _ e=>⟨Nat.le_of_eq e,λo e2=>by obtain ⟨fb,fo,e3,h3⟩:=HF.o.lt;rw [e2]at e3;cases e3;omega⟩)).then Y (λk _ s=>s))),D.o.Nl aA.o (by omega) (Nz _),by rw [N.o];rfl⟩⟩
     ·rw [PI rfl];go_simp
     ·exact D.o.aM.trans (B.af D.o.aM.size (λk hk e=>by omega))
     ·have h:=D.o;rw [<-N.o]at h⊢
      exact h.Kz HN.o (Nz _)
  ·have a5:(16:Int)<(um:Int):=by omega
   go_wp2;(try simp only [Exit.inBlock,Exit.then]);obtain ⟨G,d⟩:=EX (((u.setCell (AD w.heap.size 0) (IV 0)).setCell (AD w.heap.size 1) (SN)).setCell (AD w.heap.size 2) (SN));rw [d];obtain ⟨d0,d1,d2,B⟩:=bQ V X C G d.symm;clear d V X C;refine OS (v:=.tuple #[.agg #[IV 0,SN,SN],IV 11]) ?_ rfl ⟨?_,.inr ⟨11,rfl,by decide,.inr (.inl (by rw [N.o];omega))⟩⟩
   ·rw [PI rfl];go_simp
   ·exact q.o.trans (B.af q.o.size (λk hk e=>by omega))
 ·have a7:(50:Int)<(n:Int):=by omega
  go_wp2;(try simp only [Exit.inBlock,Exit.then]);obtain ⟨G,d⟩:=EX (((u.setCell (AD w.heap.size 0) (IV 0)).setCell (AD w.heap.size 1) (SN)).setCell (AD w.heap.size 2) (SN));rw [d];obtain ⟨d0,d1,d2,B⟩:=bQ V X C G d.symm;clear d V X C;refine OS (v:=.tuple #[.agg #[IV 0,SN,SN],IV 5]) ?_ rfl ⟨?_,.inr ⟨5,rfl,by decide,.inl (by omega)⟩⟩
  ·rw [PI rfl];go_simp
  ·exact q.o.trans (B.af q.o.size (λk hk e=>by omega))
end
def S9:=@Nat.div_eq_of_lt
def Mx(z:Int)(q n:Nat)(w:WD)(d:CA w q 0 (IV n))(b:0<=z)(c:z<(n:Int)):
 CL 45 #[IV z,PT q] w λe a=>e=RT (.bool false)/\a=w:=by
 have f:decide (z<0)=false:=NX (by omega)
 have g:decide ((n:Int)<=z)=false:=NX (by omega)
 go_enter Tryz.func45,Tryz.ntmps45
 go_wp2
 go_ret
 exact ⟨rfl,rfl⟩
def EI{a:List Int}:a.any (λ_=>false)=false:=by induction a<;>simp_all
def lC{l:List Nat}{z:Int}(h:z∈aH l):∃k∈l,z=(k:Int):=by obtain ⟨k,a,b⟩:=OC.1 h;exact ⟨k,a,b.symm⟩
def Mp(a:OA)(l c:Nat)(b:List Nat)(q n:Nat)(w:WD)(i:aG .i64 w a l (aH b))(o:l<=16777216)(g:CA w q 0 (IV n))(h:∀j∈b,j<n):
 CL 46 #[.slice a l c,.func (.func 45) #[] #[PT q]] w λe d=>e=RT (.bool false)/\d=w:=by
 refine (Ay a l c (aH b) (PT q) (λ_=>false) w i (by omega) (λz m=>?_)).mono ?_
 obtain ⟨k,f,rfl⟩:=lC m
 exact Mx _ q n w g (by omega) (by have:=h k f;omega)
 rintro e d ⟨rfl,rfl⟩
 exact ⟨by rw [EI],rfl⟩
def ft(w:WD)(A:Au)(y:OA)(v G:Nat)(H:OA)(c R:Nat)(r:bY w A y v H c)(J:fS A):
 CL 23 #[.agg #[IV A.sets,.slice y v G,.slice H c R]] w λe f=>e=RT (IV 0)/\BW w f:=by
 obtain ⟨l,F⟩:=EX (w.alloc (.cells #[IV A.sets,.slice y v G,.slice H c R] 36))
 have B:BW w l:=F▸ag _ _
 have d:=bp w #[IV A.sets,.slice y v G,.slice H c R] 36
 rw [F]at d
 have U:=Nq B
 have Y:Hid (∀f,BW l f->bY f A y v H c):=λf I=>r.af (aa B I)
 have Q:=Nq J
 have g:Hid (∀(i:Nat)(u:Value),(#[IV A.sets,.slice y v G,.slice H c R]:Array Value)[i]? =some u->∀f,BW l f->CA f w.heap.size i u):=λi u hu f I=>(cW I (d i u hu)).1
 have af:c<=256:=by rw [<-r.bC];exact J.many
 have Z:v<=16777216:=by have:=r.aJ.1;rw [aC]at this;rw [<-this];exact J.il
 have ai:A.sets<=16:=J.sets
 have N:¬((16:Int)<(A.sets:Int)):=by omega
 have L:¬((256:Int)<(c:Int)):=by omega
 have M:¬((A.sets:Int)<0):=by omega
 have d0:decide ((256:Int)<(c:Int))=false:=NX L
 have d1:decide ((16:Int)<(A.sets:Int))=false:=NX N
 have d2:decide ((A.sets:Int)<0)=false:=NX M
 have a0:=g.o 0 _ rfl l (Nx _ _)
 have a1:=g.o 1 _ rfl l (Nx _ _)
 have a2:=g.o 2 _ rfl l (Nx _ _)
 clear r J B d
 go_enter Tryz.func23,Tryz.ntmps23
 go_upto_region 2 with(fail)
 obtain ⟨q,hq⟩:=EX l.heap.size
 obtain ⟨a,s⟩:=EX (l.alloc (.cells #[IV c] 3))
 have h:BW l a:=s▸ag _ _
 have E:=(bp l #[IV c] 3 0 _ rfl)
 rw [s,hq]at E
 rw [s,hq]
 have W:Hid (∀f,BW a f->CA f q 0 (IV c)):=λf I=>(cW I E).1
 have z:=Nq h
 have V:Hid (CL 46 #[.slice y v G,.func (.func 45) #[] #[PT q]] a λe f=>e=RT (.bool false)/\f=a):=
  Mp y v G A.aJ q c a (Y.o a h).aJ Z (W.o a (Nx _ _)) (λj hj=>by rw [<-(Y.o a h).bC];exact Q.o.aJ j hj)
 have b0:=g.o 0 _ rfl a h
 have b1:=g.o 1 _ rfl a h
 have b2:=g.o 2 _ rfl a h
 have bq:=W.o a (Nx _ _)
 clear a0 a1 a2 F s hq h E
 go_upto_region 7 with(go_at_call 46;refine V.o.mono ?_;rintro e a ⟨rfl,rfl⟩)
 go_wp2
 go_loopw [32] (λx wr=>∃j:Nat,j<=c/\x=IV j/\Hid (BW a wr)) (λx _=>c-(intOf x).toNat)
 exact ⟨0,NS _,rfl,Nq (Nx _ _)⟩
 obtain ⟨j,hj,rfl,D⟩:=hrel
 by_cases ac:j<c
 have ae:(j:Int)<(c:Int):=by omega
 have r:=Y.o wr (aa z.o D.o)
 obtain ⟨x,hx⟩:∃x,A.ah[j]? =some x:=⟨_,Ny (by rw [r.bC];exact ac)⟩
 obtain ⟨b,o,rfl,K⟩:=r.ah.resolve_left (by omega)
 obtain ⟨S,P,T,k0,k1,k2,k3,n⟩:=K j x hx
 have t:x∈A.ah:=NI hx
 have ad:P<=16777216:=by have:=n.1;rw [aC]at this;rw [<-this];exact Q.o.tl x t
 obtain ⟨p,O⟩:=EX (wr.alloc (.cells #[UV x.ak,UV x.aD,UV x.aT,.slice S P T] 62))
 have C:BW wr p:=O▸ag _ _
 have d:=bp wr #[UV x.ak,UV x.aD,UV x.aT,.slice S P T] 62
 rw [O]at d
 have m:Hid (BW a p):=aa D.o C
 have X:Hid (CL 46 #[.slice S P T,.func (.func 45) #[] #[PT q]] p λe f=>e=RT (.bool false)/\f=p):=
  Mp S P T (bV.tO x) q c p (n.af C) ad (W.o p m.o) (λk hk=>by rw [<-r.bC];exact Q.o.lN x t k hk)
 have ab:=Q.o.aT x t
 have ah:((x.aT:Int)/2^A.sets !=0)=false:=by
  have e:((x.aT:Int)/2^A.sets)=((x.aT/2^A.sets:Nat):Int):=by simp
  rw [e,S9 ab];rfl
 have e2:=(d 2 _ rfl).1
 have e3:=(d 3 _ rfl).1
 have e0:CA p w.heap.size 0 (IV A.sets):=g.o 0 _ rfl p (aa z.o m.o)
 clear r hx K n t C d
 go_upto_region 10 with(fail)
 go_wp2_with (go_at_call 46;refine X.o.mono ?_;rintro e p ⟨rfl,rfl⟩)
 go_roundw
 exact ⟨j+1,by omega,by go_num,m⟩
 simp [intOf];omega
 obtain rfl:j=c:=by omega
 go_wp2
 go_ret
 exact ⟨rfl,aa U.o (aa z.o D.o)⟩
section
open Go.Maps
def Tryz.JV:(Tryz.prog.info? 127).map (λi=>(i.zero,i.size,i.bytes))=some (some (.agg #[IV 0,IV 0]),2,16):=by kernel_rfl
def Gz(p:Nat×Nat):Value:=.agg #[IV p.1,IV p.2]
def iO:List (Nat×Nat)->List Value
 |[]=>[]
 |p::l=>IV p.1::IV p.2::iO l
def ry:∀(l:List (Nat×Nat))(p:Nat×Nat),iO (l++[p])=iO l++[IV p.1,IV p.2]
 |[],p=>rfl
 |y::l,p=>by rw [OW];simp only [iO,ry l p,OW]
def wF:∀(l:List (Nat×Nat))(j:Nat)(p:Nat×Nat),l[j]? =some p->(iO l)[j*2]? =some (IV p.1)/\(iO l)[j*2+1]? =some (IV p.2)
 |_::l,0,_,h=>by cases h;exact ⟨rfl,rfl⟩
 |_::l,j+1,p,h=>by
  have a:=wF l j p h;have e:(j+1)*2=j*2+1+1:=by omega
  rw [e];exact a
 |[],_,_,h=>by simp at h
def Ed{p q:Nat×Nat}(h:Gz p=Gz q):p=q:=by obtain ⟨a,b⟩:=p;obtain ⟨c,d⟩:=q;have e:=Value.agg.inj h;simp only [Array.mk.injEq,Pz,Value.int.injEq,true_and,and_true,Int.natCast_inj]at e;rw [e.1,e.2]
def J2{p:Nat×Nat}(b:p.1<=4611686018427387903)(c:p.2<=4611686018427387903):∃a,keyOf Tryz.prog 127 (Gz p)=some a:=Lz (Tj (by omega)) (Tj (by omega))
def cm(gk nb:Nat)(pv:Value)(k:Nat):Prop:=k=gk\/k=nb\/pv.ownBlock=some k
structure iw where
 ia:OA
 il:Nat
 ic:Nat
 na:OA
 nl:Nat
 nc:Nat
structure fJ (w0 w:WD) (gk nb:Nat) (A:Au) (s:iw) (pv:Value) (P:List (Nat×Nat)):Prop where
 dp:w.heap[gk]? =some (.cells #[IV A.sets,.slice s.ia s.il s.ic,.slice s.na s.nl s.nc,.map (some nb),pv] 124 (0,0))
 cK:w.ownsRow 0 127 2 pv P.length (iO P)
 aW:∃g,cE Tryz.prog 127 w nb P.length g/\(∀(j:Nat)(p:Nat×Nat),P[j]? =some p->g (Gz p)=some (IV j))/\∀p v,g (Gz p)=some v->∃j:Nat,P[j]? =some p
 ne:gk≠nb
 nY:∀b,pv.ownBlock=some b->b≠gk/\b≠nb
 aM:BW w0 w
 bL:∀k,cm gk nb pv k->w0.heap.size<=k
 Ao:bY w0 A s.ia s.il s.na s.nl
section
variable {w0 w w1:WD} {gk nb:Nat} {A:Au} {s:iw} {pv pv':Value} {P:List (Nat×Nat)}
def fJ.tI(h:fJ w0 w gk nb A s pv P):gk<w.heap.size:=(Nu.1 h.dp).1
def fJ.eE(h:fJ w0 w gk nb A s pv P):∀k,cm gk nb pv k->k<w.heap.size:=λk a=>by rcases a with rfl|rfl|a;exact h.tI;obtain ⟨g,b,-⟩:=h.aW;exact b.lt;exact dj h.cK k a
def fJ.aA(h:fJ w0 w gk nb A s pv P){R:Nat->Prop}(a:aj R w w1)(c:∀k,R k->¬cm gk nb pv k)(i:∀k,R k->w0.heap.size<=k):fJ w0 w1 gk nb A s pv P:=by refine ⟨(a.block gk h.tI (λs=>c _ s (.inl rfl))).trans h.dp,bm h.cK a (λb e s=>c _ s (.inr (.inr e))),?_,h.ne,h.nY,h.aM.trans (a.af h.aM.size (λk a s=>by have:=i k s;omega)),h.bL,h.Ao⟩;obtain ⟨g,d,f⟩:=h.aW;exact ⟨g,d.aA a (λs=>c _ s (.inr (.inl rfl))),f⟩
def fJ.af(h:fJ w0 w gk nb A s pv P)(a:BW w w1):fJ w0 w1 gk nb A s pv P:=
 h.aA (aj.aF a) (λk b s=>by have:=h.eE k s;omega) (λk b=>by have:=h.aM.size;omega)
def fZ{S:Nat->Prop}(h:∀b,pv'.ownBlock=some b->pv.ownBlock=some b\/S b){k:Nat}(d:cm gk nb pv' k):cm gk nb pv k\/S k:=by rcases d with a|a|a;exact .inl (.inl a);exact .inl (.inr (.inl a));exact (h k a).imp (λc=>.inr (.inr c)) id
def fJ.dh{q r t:WD}(h:fJ w0 w gk nb A s pv P)(p:Nat×Nat)(R:p∉P){g:Value->Option Value}(C:∀(j:Nat)(p:Nat×Nat),P[j]? =some p->g (Gz p)=some (IV j))(D:∀p v,g (Gz p)=some v->∃j:Nat,P[j]? =some p)
 (T:cE Tryz.prog 127 w1 nb (P.length+1) (qK g (Gz p) (some (IV P.length)))) (o:aj (λk=>k=nb) w w1) (x:BW w1 q)
 (u:r.ownsRow 0 127 2 pv' (P.length+1) (iO P++[IV p.1,IV p.2])) (d:aj (λk=>pv.ownBlock=some k) q r) (G:∀b,pv'.ownBlock=some b->pv.ownBlock=some b\/q.heap.size<=b)
 (I:t=r.setCell (AD gk 4) pv'):fJ w0 t gk nb A s pv' (P++[p])/\aj (cm gk nb pv) w t/\∀b,pv'.ownBlock=some b->pv.ownBlock=some b\/w.heap.size<=b:=by
 have J:w.heap.size<=q.heap.size:=N5 o.size x.size
 have f:∀b,pv'.ownBlock=some b->pv.ownBlock=some b\/w.heap.size<=b:=λb e=>(G b e).imp id (λh=>N5 J h)
 have c:=h.tI
 have E:¬pv.ownBlock=some gk:=λe=>(h.nY gk e).1 rfl
 have H:¬pv.ownBlock=some nb:=λe=>(h.nY nb e).2 rfl
 have V:aj (cm gk nb pv) w w1:=o.mono λk _ s=>.inr (.inl s)
 have W:aj (cm gk nb pv) w q:=V.then (aj.aF x) (λi Z s=>by have:=o.size;omega)
 have X:aj (cm gk nb pv) w r:=W.then d (λi _ s=>.inr (.inr s))
 have l:aj (λk=>k=gk) r t:=by rw [I];exact (aj.refl (λk=>k=gk) r).setCell (p:=(AD gk 4)) (λ_=>rfl) _
 have L:aj (cm gk nb pv) w t:=X.then l (λi _ s=>.inl s)
 have M:q.heap[gk]? =some (.cells #[IV A.sets,.slice s.ia s.il s.ic,.slice s.na s.nl s.nc,.map (some nb),pv] 124 (0,0)):=(x.block gk (NL c o.size)).trans ((o.block gk c h.ne).trans h.dp)
 have N:=(d.block gk (NL c J) E).trans M
 have O:t.heap[gk]? =some (.cells #[IV A.sets,.slice s.ia s.il s.ic,.slice s.na s.nl s.nc,.map (some nb),pv'] 124 (0,0)):=by rw [I];simp [World.setCell,Ow,N]
 have a:∀b,pv'.ownBlock=some b->b≠gk/\b≠nb:=λb e=>by rcases f b e with e|e;exact h.nY b e;have m:=h.eE gk (.inl rfl);have Y:=h.eE nb (.inr (.inl rfl));omega
 have z:∀{j:Nat}{y:Nat×Nat},(P++[p])[j]? =some y->P[j]? =some y\/j=P.length/\y=p:=λ{j y} n=>by rcases P3 j P.length with F|B|S;rw [NP F]at n;exact .inl n;subst B;rw [OF]at n;cases n;exact .inr ⟨rfl,rfl⟩;rw [O7 (by simp;omega)]at n;cases n
 refine ⟨⟨O,by rw [ry,NH];exact bm u l (λb e s=>(a b e).1 s),⟨_,by rw [NH];exact ((T.af x).aA d H).aA l h.ne.symm,λj y U=>?_,λy v K=>?_⟩,h.ne,a,h.aM.trans (L.af h.aM.size (λk o s=>by have:=h.bL k s;omega)),λk s=>?_,h.Ao⟩,L,f⟩
 rcases z U with m|⟨rfl,rfl⟩
 rw [cT _ _ _ _ (λe=>R (by rw [<-Ed e];exact NI m))]
 exact C j y m
 rw [eZ]
 by_cases e:y=p
 subst e;exact ⟨P.length,OF⟩
 rw [cT _ _ _ _ (λQ=>e (Ed Q))]at K
 obtain ⟨j,m⟩:=D y v K
 exact ⟨j,by rw [NP (NK.1 m).1];exact m⟩
 rcases fZ f s with s|s
 exact h.bL k s
 have:=h.aM.size;omega
end
def uU(w0 w:WD)(gk nb:Nat)(A:Au)(s:iw)(pv:Value)(P:List (Nat×Nat))(p:Nat×Nat)(e:Ending)(c:WD):Prop:=
 ∃(j:Nat)(pv':Value)(a:List (Nat×Nat)),e=RT (IV j)/\fJ w0 c gk nb A s pv' a/\aj (cm gk nb pv) w c/\(∀b,pv'.ownBlock=some b->pv.ownBlock=some b\/w.heap.size<=b)/\a[j]? =some p/\(a=P\/a=P++[p])
def CT{w:WD}{o:Oper}{a:Act}{K:Act->WD->Prop}{Q:Exit->Act->WD->Prop}(s x:Operand)
 (H:o.op=.call {callee:=.builtin .append,args:=#[s,x],argTypes:=#[122,122]})
 (v:Value) (n:Nat) (z:List Value) (J:a.eval s=v) (G:w.ownsRow 0 127 2 v n z)
 (r:Addr) (c:Nat) (d:List Value) (L:a.eval x=.slice (some r) 1 c) (N:d.length=2) (f:∀j u,d[j]? =some u->w.cell? (r.add j)=some u) (D:∀u∈d,u.oneCell'=true) (C:n+1<=67108864)
 (h:∀i l g,g.ownsRow 0 127 2 (.slice i (n+1) l) (n+1) (z++d)->aj (λk=>v.ownBlock=some k) w g->(∀b,(Value.slice i (n+1) l).ownBlock=some b->v.ownBlock=some b\/w.heap.size<=b)->K (a.put o.dst (.slice i (n+1) l)) g):aY Tryz.prog o a w K Q:=by
 obtain ⟨q,F,M,y,E⟩:=Ol Tryz.JV
 constructor
 obtain ⟨O,g,I,B,m,_,p⟩:=Rp (P:=Tryz.prog) w 0 122 o.type 127 q _ 2 16 Tryz.underlying122 F M y E rfl (by decide) v n z G r 1 c d (by omega) f D (by unfold maxLen;omega) (by omega) (NS _)
 unfold Oper.wp execOp
 simp only [H,resolve,invoke,builtin,P8,Qt,Po,PE,NQ,NZ,J,L,I]
 have t:aj (λk=>v.ownBlock=some k) w g:=⟨m.os,m.tape,m.output,m.size,λk t C=>m.block k t (λe=>C e.symm)⟩
 obtain ⟨i,l,rfl⟩:=bw B
 refine h i l g B t (λb e=>?_)
 rcases p with p|p
 rw [p]at e;exact .inl e
 rw [p]at e;cases e;exact .inr (Nz _)
def AB(w0 w:WD)(gk nb:Nat)(A:Au)(s:iw)(pv:Value)(P:List (Nat×Nat))(p:Nat×Nat)(hd:fJ w0 w gk nb A s pv P)(hP:P.length<=33554432)(h1:p.1<=1000000)(h2:p.2<=1000000):
 CL 109 #[PT gk,Gz p] w (uU w0 w gk nb A s pv P p):=by
 obtain ⟨l,m⟩:=p
 simp only at h1 h2
 show CL 109 #[PT gk,.agg #[IV l,IV m]] w _
 obtain ⟨w1,F⟩:=EX (w.alloc (.cells #[IV l,IV m] 127))
 have L:BW w w1:=F▸ag _ _
 obtain ⟨q,hq⟩:=EX w.heap.size
 have y:=bp w #[IV l,IV m] 127
 rw [F,hq]at y
 have B:=hd.af L
 obtain ⟨g,hm,ab,ac⟩:=B.aW
 obtain ⟨kl,O⟩:=J2 (p:=(l,m)) (by omega) (by omega)
 have a:=(hm.af (Nx _ w1).drew).look_ok Hv Tryz.underlying121 (oh _) O
 have c0:=(y 0 _ rfl).1
 have c1:=(y 1 _ rfl).1
 have k3:CA w1 gk 3 (.map (some nb)):=CH B.dp
 have k4:CA w1 gk 4 pv:=CH B.dp
 have HD:=Nq hd
 have I:=Nq B
 have X:=Nq L
 have HM:=Nq hm
 have J:=Nq ab
 have Z:=Nq ac
 have an:=Nq O
 have HQ:=Nq hq
 have aw:Hid (∀(i:Nat)(u:Value),(#[IV l,IV m]:Array Value)[i]? =some u->∀d,aj (λk=>k≠q) w1 d->CA d q i u):=λi u hu d hk=>hk.aq (y i u hu).1 (λh=>h rfl)
 clear hd B hm ab ac O L y
 go_enter Tryz.func109,Tryz.ntmps109
 go_upto_region 1 with(fail)
 cases t:g (Gz (l,m))with
 |some v=>
  obtain ⟨j,N⟩:=Z.o (l,m) v t
  have hv:v=IV j:=by have:=J.o j _ N;rw [t]at this;exact OJ this
  subst hv
  rw [t]at a
  simp only [OU,SR]at a
  change (Instr.lookup 121 (.map (some nb)) (.agg #[IV l,IV m]) true).run Tryz.prog w1.drew=_ at a
  have HJ:=Nq N
  clear N t F hq
  refine av 10 (S:=λd=>CA d q 0 (IV l)/\CA d q 1 (IV m)/\CA d gk 3 (.map (some nb))/\(Instr.lookup 121 (.map (some nb)) (.agg #[IV l,IV m]) true).run Tryz.prog d=.ok (.tuple #[IV j,.bool true]) d) (by kernel_rfl) (⟨c0,c1,k3,a⟩) (λc=>?_)
  refine' az 0 ?_
  refine' az 1 ?_
  refine' az 2 ?_
  refine' az 3 ?_
  refine' az 4 ?_
  refine' az 5 ?_
  refine' az 6 ?_
  refine' az 7 ?_
  refine' az 8 ?_
  refine' az 9 ?_
  clear c
  refine aI 10 λK f=>?_
  go_simp
  refine f.o _ _ (λe=>nomatch e) ?_
  clear f K
  try walk_nrm
  refine ay (by kernel_rfl) ?_
  go_wp2
  go_ret
  exact ⟨j,pv,P,rfl,I.o.af (Nx _ _).drew,aj.mono (aj.aF (aa X.o (Nx _ _).drew)) (λk hk s=>by omega),λb h=>.inl h,HJ.o,.inl rfl⟩
 |none=>
  rw [t]at a
  simp only [Rw,SQ]at a
  change (Instr.lookup 121 (.map (some nb)) (.agg #[IV l,IV m]) true).run Tryz.prog w1.drew=_ at a
  have HF:Hid ((l,m)∉P):=λhy=>by obtain ⟨j,N⟩:=Pg hy;have:=J.o j _ N;rw [t]at this;cases this
  obtain ⟨U,V,rfl⟩:=bw I.o.cK
  clear t F hq
  refine av 10 (S:=λd=>CA d q 0 (IV l)/\CA d q 1 (IV m)/\CA d gk 3 (.map (some nb))/\(Instr.lookup 121 (.map (some nb)) (.agg #[IV l,IV m]) true).run Tryz.prog d=.ok (.tuple #[IV 0,.bool false]) d) (by kernel_rfl) (⟨c0,c1,k3,a⟩) (λc=>?_)
  refine' az 0 ?_
  refine' az 1 ?_
  refine' az 2 ?_
  refine' az 3 ?_
  refine' az 4 ?_
  refine' az 5 ?_
  refine' az 6 ?_
  refine' az 7 ?_
  refine' az 8 ?_
  refine' az 9 ?_
  clear c
  refine aI 10 λK f=>?_
  go_simp
  refine f.o _ _ (λe=>nomatch e) ?_
  clear f K
  try walk_nrm
  refine ay (by kernel_rfl) ?_
  obtain ⟨W,R⟩:=EX w1.drew
  rw [R]
  have r:BW w1 W:=R▸(Nx _ _).drew
  have o:=Nq (I.o.af r)
  have Y:=Nq r
  have l0:=(r.cell (Nr w1 _ c0)).trans c0
  have l1:=(r.cell (Nr w1 _ c1)).trans c1
  have l3:=(r.cell (Nr w1 _ k3)).trans k3
  have l4:=(r.cell (Nr w1 _ k4)).trans k4
  clear c0 c1 k3 k4 a R r
  go_upto_region 4 with(fail)
  obtain ⟨C,H,ae,n⟩:=((HM.o.af Y.o).af (Nx _ W).drew).put Hv Tryz.underlying121 (by unfold maxLen;omega) an.o (IV P.length)
  change (Instr.mapUpdate 121 (.map (some nb)) (.agg #[IV l,IV m]) (IV P.length)).run Tryz.prog W.drew=_ at H
  have ai:¬q=nb:=by have h1:=HD.o.eE nb (.inr (.inl rfl));have h2:=HQ.o;omega
  have ad:¬gk=nb:=HD.o.ne
  have d0:=n.aq (p:=(AD q 0)) l0 ai
  have d1:=n.aq (p:=(AD q 1)) l1 ai
  have d4:=n.aq (p:=(AD gk 4)) l4 ad
  have ao:=Nq ae
  have D:Hid (aj (λk=>k=nb) W C):=⟨n.os,n.tape,n.output,n.size,n.block⟩
  have f4:FZ C gk 4:=NA ((D.o.block gk o.o.tI ad).trans o.o.dp) 4
  clear ae n l4
  refine av 6 (S:=λd=>CA d q 0 (IV l)/\CA d q 1 (IV m)/\CA d gk 3 (.map (some nb))) (by kernel_rfl) (⟨l0,l1,l3⟩) (λc=>?_)
  refine' az 0 ?_
  refine' az 1 ?_
  refine' az 2 ?_
  refine' az 3 ?_
  refine' az 4 ?_
  refine' az 5 ?_
  clear c l0 l1 l3
  refine aI 6 λK f=>?_
  go_simp
  refine f.o _ _ (λe=>nomatch e) ?_
  clear f K
  try walk_nrm
  refine ay (by kernel_rfl) ?_
  obtain ⟨T,al⟩:=EX (C.drew.alloc (.cells #[IV l,IV m] 127))
  have x:BW C T:=al▸(Nx _ C).drew.alloc (Nz _) _
  have z:=bp C.drew #[IV l,IV m] 127
  rw [al]at z
  have e0:=(x.cell (Nr C _ d0)).trans d0
  have e1:=(x.cell (Nr C _ d1)).trans d1
  have e4:=(x.cell (Nr C _ d4)).trans d4
  have ar:Hid (CA T q 0 (IV l)/\CA T q 1 (IV m)/\CA T gk 4 (.slice U P.length V)):=⟨e0,e1,e4⟩
  have am:=Nq x
  have aq:Hid (T.ownsRow 0 127 2 (.slice U P.length V) P.length (iO P)):=bm (bm o.o.cK D.o (λb e s=>(o.o.nY b e).2 s)) (aj.aF x) (λb e s=>by have:=dj o.o.cK b e;have:=D.o.size;omega)
  have g4:=(cW x ⟨d4,f4⟩).2
  have au:=d0
  go_upto_region 5 with(fail)
  refine av 7 (S:=λd=>CA d q 0 (IV l)/\CA d q 1 (IV m)/\CA d gk 4 (.slice U P.length V)) (by kernel_rfl) (⟨d0,d1,d4⟩) (λc=>?_)
  refine' az 1 ?_ [4,3,2,1]
  refine' az 2 ?_ [4,3,2]
  refine' az 3 ?_ [4,3]
  refine' az 4 ?_
  refine' az 5 ?_ [6,5]
  refine' bc (i:=0) (v:=_) rfl (by kernel_rfl) (λ_ _ _ h=>h) (Or.inl ⟨by rfl,?hyT0⟩) (by assumption) ?restT0
  case hyT0=>(intro d ax;go_simp;(try with_reducible rfl))
  try walk_nrm
  clear c d0 d1 d4 au e0 e1
  refine aI 6 λK f=>?_
  go_simp
  refine f.o _ _ (λ_=>ar.o) ?_
  clear f K
  try walk_nrm
  have M:¬(Value.slice U P.length V).ownBlock=some gk:=λe=>(o.o.nY gk e).1 rfl
  refine aI 7 λK f=>?_
  rw [Oa (by rfl)]
  apply aY.o
  refine CT (.tmp 33) (.tmp 35) rfl (.slice U P.length V) P.length (iO P) rfl aq.o (AD C.heap.size 0) 1 [IV l,IV m] rfl rfl (λj u N=>?_) (by simp [Value.oneCell']) (by omega) (λa6 c6 w6 ah E ak=>?_)
  rw [O4,Od]
  exact (z j u (by simpa using N)).1
  have o6:=E.aq e4 M
  have f6:=(N7 (E.block gk (Nr _ _ e4) M)).trans g4
  have ap:Hid (uU w0 w gk nb A s (.slice U P.length V) P (l,m) (RT (IV P.length)) (w6.setCell (AD gk 4) (.slice a6 (P.length+1) c6))):=by have Q:=o.o.dh (l,m) HF.o J.o Z.o ao.o D.o am.o ah E ak rfl;have G:=aa X.o Y.o;exact ⟨P.length,_,_,rfl,Q.1,(aj.mono (aj.aF G) (λk hk s=>by omega)).then Q.2.1 (λ_ _ s=>s),λb e=>(Q.2.2 b e).imp id (λh=>N5 G.size h),OF,.inr rfl⟩
  refine f.o _ _ (λe=>nomatch e) ?_
  clear f K z e4 g4 ah E ak M f4 H
  try walk_nrm
  refine aI 8 λK f=>?_
  go_simp
  refine f.o _ _ (λe=>nomatch e) ?_
  clear f K
  try walk_nrm
  refine aI 9 λK f=>?_
  go_simp
  refine f.o _ _ (λe=>nomatch e) ?_
  clear f K
  try walk_nrm
  refine aI 10 λK f=>?_
  go_simp
  refine f.o _ _ (λe=>nomatch e) ?_
  clear f K
  try walk_nrm
  refine ay (by kernel_rfl) ?_
  go_wp2
  go_ret
  exact ap.o
end
section
open Go.Maps
structure qP (w0 w wr:WD) (gk nb:Nat) (A:Au) (s:iw) (pv:Value) (P:List (Nat×Nat)) (ah:List Nat) (t k:Nat) (pvi:Value) (R:List (Nat×Nat)) (vo:Value) (js:List Nat):Prop where
 n8:fJ w0 wr gk nb A s pvi (P++R)
 kw:aj (cm gk nb pv) w wr
 mv:∀b,pvi.ownBlock=some b->pv.ownBlock=some b\/w.heap.size<=b
 o:Sl wr 3 vo js.length ((aH js).map (Value.int .i64))
 lG:∀b,vo.ownBlock=some b->w.heap.size<=b/\pvi.ownBlock≠some b
 dJ:∀x∈R,x.2=t/\x.1∈ah
 xx:∀j∈js,∃q∈ah,(P++R)[j]? =some (q,t)
 done:∀q∈ah.take k,∃j∈js,(P++R)[j]? =some (q,t)
 rl:R.length<=k
 jl:js.length<=k
def Bv{w:WD}{a:OA}{l c:Nat}{js:List Nat}(h:Sl w 3 (.slice a l c) js.length ((aH js).map (Value.int .i64))):l=js.length/\aG .i64 w a l (aH js):=by
 obtain ⟨n,o,e,b⟩:=h.shape;obtain ⟨rfl,rfl,rfl⟩:=On e;refine ⟨rfl,aC _,?_⟩;rcases OT js.length with d|d;exact .inl d;obtain ⟨g,rfl,q,-⟩:=b 0 d;refine .inr ⟨g,0,rfl,λi f=>?_⟩;obtain ⟨p,j,-,m⟩:=b i f;cases j
 rw [Od,m,Oh,Ny (by rw [aC];exact f),Nw,Ny (by rw [aC];exact f)];rfl
def oP(w0 w:WD)(gk nb:Nat)(A:Au)(s:iw)(pv:Value)(P:List (Nat×Nat))(nodes:List Nat)(t:Nat)(e:Ending)(f:WD):Prop:=
 ∃(d:Value)(R:List (Nat×Nat))(a:OA)(l c:Nat)(js:List Nat),e=RT (.slice a l c)/\fJ w0 f gk nb A s d (P++R)/\aj (cm gk nb pv) w f/\(∀b,d.ownBlock=some b->pv.ownBlock=some b\/w.heap.size<=b)/\
  iS w f (cm gk nb d) a l c js/\(∀x∈R,x.2=t/\x.1∈nodes)/\(∀j∈js,∃q∈nodes,(P++R)[j]? =some (q,t))/\(∀q∈nodes,∃j∈js,(P++R)[j]? =some (q,t))/\R.length<=nodes.length
section
variable {w0 w wr w1 w2:WD} {gk nb:Nat} {A:Au} {s:iw} {pv pvi:Value} {P R:List (Nat×Nat)} {nodes:List Nat} {t k:Nat} {vo:Value} {js:List Nat}
def qP.aK(h:fJ w0 w gk nb A s pv P):qP w0 w w gk nb A s pv P nodes t 0 pv [] (SN) []:=
 ⟨by rw [Om];exact h,aj.refl _ _,λb e=>.inl e,Ox _ _ _ _,λb e=>(by cases e),λx d=>(by cases d),λj a=>(by cases a),λq c=>(by cases c),Nz _,Nz _⟩
def qP.aW(h:qP w0 w wr gk nb A s pv P nodes t k pvi R vo js)(d:∀k,cm gk nb pv k->k<w.heap.size){q:Nat}(u:nodes[k]? =some q){e:Ending}(G:uU w0 wr gk nb A s pvi (P++R) (q,t) e w2):
 ∃(j:Nat)(c:Value)(a:List (Nat×Nat)),e=RT (IV j)/\(P++a)[j]? =some (q,t)/\fJ w0 w2 gk nb A s c (P++a)/\aj (cm gk nb pv) w w2/\(∀b,c.ownBlock=some b->pv.ownBlock=some b\/w.heap.size<=b)/\
  Sl w2 3 vo js.length ((aH js).map (Value.int .i64))/\(∀b,vo.ownBlock=some b->w.heap.size<=b/\c.ownBlock≠some b)/\(∀x∈a,x.2=t/\x.1∈nodes)/\(∀j∈js,∃q∈nodes,(P++a)[j]? =some (q,t))/\(∀q∈nodes.take k,∃j∈js,(P++a)[j]? =some (q,t))/\a.length<=k+1:=by
 obtain ⟨j,c,B,rfl,o,l,z,H,F⟩:=G
 have I:w.heap.size<=wr.heap.size:=h.kw.size
 have m:∀b,c.ownBlock=some b->pv.ownBlock=some b\/w.heap.size<=b:=λb e=>(z b e).elim (h.mv b) (λh=>.inr (by omega))
 have E:∃a,B=P++a/\(∀x∈a,x.2=t/\x.1∈nodes)/\(∀(k:Nat)(x:Nat×Nat),(P++R)[k]? =some x->(P++a)[k]? =some x)/\a.length<=k+1:=by rcases F with rfl|rfl;exact ⟨R,rfl,h.dJ,λ_ _ h=>h,Nat.le_succ_of_le h.rl⟩;refine ⟨R++[(q,t)],Ov ..,λy i=>?_,λk y i=>?_,by rw [NH];have:=h.rl;simp only [Oz];omega⟩;rcases NY.1 i with i|i;exact h.dJ y i;rw [Nv.1 i];exact ⟨rfl,NI u⟩;rw [<-Ov,NP (NK.1 i).1];exact i
 obtain ⟨a,rfl,n,f,v⟩:=E
 refine ⟨j,c,a,rfl,H,o,h.kw.then l (λk l s=>?_),m,h.o.aA l (λg e s=>?_),λb e=>⟨(h.lG b e).1,λC=>?_⟩,n,λk l=>?_,λq u=>?_,v⟩
 rcases fZ (pv:=pv) h.mv s with s|s
 exact s
 omega
 have p:=h.lG g e
 rcases s with s|s|s
 have:=d g (.inl s);omega
 have:=d g (.inr (.inl s));omega
 exact p.2 s
 rcases z b C with p|p
 exact (h.lG b e).2 p
 have:=h.o.lt b e;omega
 obtain ⟨q,D,r⟩:=h.xx k l
 exact ⟨q,D,f k _ r⟩
 obtain ⟨k,l,r⟩:=h.done q u
 exact ⟨k,l,f k _ r⟩
def pO{q a:Nat}(b:nodes[k]? =some q)(h:a∈nodes.take (k+1)):a∈nodes.take k\/a=q:=by rw [OG,b]at h;rcases NY.1 h with h|h;exact .inl h;exact .inr (by simpa using h)
end
def AE(w0 w:WD)(gk nb:Nat)(A:Au)(s:iw)(pv:Value)(P:List (Nat×Nat))(ra:OA)(K rc:Nat)(nodes:List Nat)(t:Nat)(hd:fJ w0 w gk nb A s pv P)(hP:P.length<=16777216)(hr:aG .i64 w0 ra K (aH nodes))(ar:K<=16777216)(M:∀q∈nodes,q<=1000000)(ht:t<=1000000):
 CL 78 #[PT gk,.slice ra K rc,IV t] w (oP w0 w gk nb A s pv P nodes t):=by
 have aa:nodes.length=K:=by have:=hr.1;rwa [aC]at this
 have HD:=Nq hd
 have HR:=Nq hr
 have HQ:=Nq M
 have J:=Nq aa
 have n:Hid (∀k,cm gk nb pv k->k<w.heap.size):=hd.eE
 have H0:=Nq (qP.aK (nodes:=nodes) (t:=t) hd)
 obtain ⟨i3,ad,ai,ag,ac⟩:=Ol Tryz.ed
 clear hd hr M aa
 go_enter Tryz.func78,Tryz.ntmps78
 go_wp2
 go_loopw [7,13] (λv x wr=>∃(k:Nat)(pvi:Value)(R:List (Nat×Nat))(a:OA)(l c:Nat)(js:List Nat),k<=K/\x=IV k/\v=.slice a l c/\Hid (qP w0 w wr gk nb A s pv P nodes t k pvi R (.slice a l c) js)) (λ_ x _=>K-(intOf x).toNat)
 exact ⟨0,pv,[],none,0,0,[],NS _,rfl,rfl,H0⟩
 clear H0
 obtain ⟨k,pvi,R,a,l,c,js,hk,rfl,rfl,u⟩:=hrel
 have ap:=u.o.jl
 have ao:=u.o.rl
 by_cases S:k<K
 ·have al:(k:Int)<(K:Int):=by omega
  obtain ⟨q,M⟩:∃q,nodes[k]? =some q:=⟨_,Ny (by rw [J.o];exact S)⟩;obtain ⟨-,h0|⟨rb,ro,rfl,hc⟩⟩:=HR.o.af u.o.n8.aM
  ·omega
  have ck:CA wr rb (ro+k) (IV q):=by have:=hc k S;rw [cH (by rw [J.o];exact S),Nw,M]at this;exact this
  have af:q<=1000000:=HQ.o q (NI M);have O:=Nq M;have D:Hid (CL 109 #[PT gk,.agg #[IV q,IV t]] wr λe w2=>∃(j:Nat)(m:Value)(E:List (Nat×Nat)),e=RT (IV j)/\(P++E)[j]? =some (q,t)/\fJ w0 w2 gk nb A s m (P++E)/\aj (cm gk nb pv) w w2/\(∀b,m.ownBlock=some b->pv.ownBlock=some b\/w.heap.size<=b)/\
   Sl w2 3 (.slice a l c) js.length ((aH js).map (Value.int .i64))/\(∀b,(Value.slice a l c).ownBlock=some b->w.heap.size<=b/\m.ownBlock≠some b)/\(∀x∈E,x.2=t/\x.1∈nodes)/\(∀j∈js,∃q∈nodes,(P++E)[j]? =some (q,t))/\(∀q∈nodes.take k,∃j∈js,(P++E)[j]? =some (q,t))/\E.length<=k+1):=
   (AB w0 wr gk nb A s pvi (P++R) (q,t) u.o.n8 (by rw [NH];omega) af ht).mono λe w2 hp=>u.o.aW n.o M hp
  clear hc M u;go_upto_region 6 with(go_at_call 109;refine D.o.mono ?_;rintro e w2 ⟨j,m,E,rfl,hx,z,F,B,r,f,C,i,d,N⟩);obtain ⟨rfl,y⟩:=Bv r;have I:=Nq (jJ a js.length c (aH js) (j:Int) w2 y (by omega));by_cases Q:j∈js
  ·have p:decide ((j:Int)∈aH js)=true:=N6 (OC.2 ⟨j,Q,rfl⟩);rw [p]at I
   have HN:Hid (qP w0 w w2 gk nb A s pv P nodes t (k+1) m E (.slice a js.length c) js):=⟨z,F,B,r,f,C,i,λq' T=>(pO O.o T).elim (d q') (λe=>⟨j,Q,by rw [e];exact hx⟩),N,by omega⟩;clear z F B r f C i d y hx D p;go_wp2_with (go_at_call 110;refine I.o.mono ?_;rintro e w2 ⟨rfl,rfl⟩);go_roundw;exact ⟨k+1,m,E,a,_,c,js,by omega,by go_num,rfl,HN⟩;simp [intOf];omega
  ·have p:decide ((j:Int)∈aH js)=false:=NX (λh=>Q (by obtain ⟨j',H,U⟩:=lC h;have:j=j':=(by omega);rw [this];exact H));rw [p]at I
   have HO:=Nq r;have W:Hid (∀(L X:Nat)(V:WD),Sl V 3 (SV L (js.length+1) X) (js.length+1) ((aH js).map (Value.int .i64)++[IV j])->aj (λk=>(Value.slice a js.length c).ownBlock=some k) w2 V->((Value.slice a js.length c).ownBlock=some L\/w2.heap.size<=L)->
    qP w0 w V gk nb A s pv P nodes t (k+1) m E (SV L (js.length+1) X) (js++[j])):=λL X V H U Y=>by
    have s1:=F.size
    have ak:∀k,(Value.slice a js.length c).ownBlock=some k->¬cm gk nb m k:=λb e s=>by
     have Y:=f b e;rcases s with s|s|s
     ·have:=n.o b (.inl s);omega
     ·have:=n.o b (.inr (.inl s));omega
     ·exact Y.2 s
    refine ⟨z.aA U ak (λb e=>by have:=(f b e).1;have:=HD.o.aM.size;omega),F.then U (λb hb e=>by have:=(f b e).1;omega),B,by simpa [aH]using H,λb e=>?_,C,λj' ae=>?_,λq' T=>?_,N,by rw [NH,Oz];omega⟩
    ·obtain rfl:L=b:=OJ e;rcases Y with e|e
     ·exact f _ e
     ·exact ⟨by omega,λe2=>by have:=z.eE _ (.inr (.inr e2));omega⟩
    ·rcases NY.1 ae with h|h
     ·exact i j' h
     ·rw [Nv.1 h];exact ⟨q,NI O.o,hx⟩
    ·rcases pO O.o T with h|rfl
     ·obtain ⟨j',H,U⟩:=d q' h;exact ⟨j',Oo _ H,U⟩
     ·exact ⟨j,OO _ (Nv.2 rfl),hx⟩
   clear z F B r f C i d y hx D p;go_wp2_with (first
    |(go_at_call 110;refine I.o.mono ?_;rintro e w2 ⟨rfl,rfl⟩)
    |(at_builtin;refine ax rfl (.tmp 26) (.tmp 28) 33 rfl 3 i3 (IV 0) 8 OE ad ai ag ac rfl (by decide) _ _ _ rfl HO.o _ rfl rfl (by omega) ?_;intro L X V hs Z B;have HE:=Nq (W.o L X V hs Z B);clear hs Z B))
   go_roundw;exact ⟨k+1,m,E,_,_,_,js++[j],by omega,by go_num,rfl,HE⟩;simp [intOf];omega
 ·obtain rfl:k=K:=by omega
  have ab:Hid (oP w0 w gk nb A s pv P nodes t (RT (.slice a l c)) wr):=by
   have h:=u.o;have G:∀b o,a=some (AD b o)->(Value.slice a l c).ownBlock=some b:=λb o e=>by subst e;rfl
   obtain ⟨aq,y⟩:=Bv h.o;have d:=h.done;rw [Oe (by rw [J.o];exact Nz _)]at d;refine ⟨pvi,R,a,l,c,js,rfl,h.n8,h.kw,h.mv,⟨y,λb o e=>(h.lG b (G b o e)).1,λb o e s=>?_,λb o e=>h.o.lt b (G b o e),by omega,λe=>?_⟩,h.dJ,h.xx,d,by rw [J.o];exact h.rl⟩
   ·have Y:=h.lG b (G b o e);rcases s with s|s|s
    ·have:=n.o b (.inl s);omega
    ·have:=n.o b (.inr (.inl s));omega
    ·exact Y.2 s
   ·subst e;rcases h.o.2 with⟨H,U⟩|⟨g,am,an,H,-⟩
    ·exact ⟨(On H).2.1,(On H).2.2⟩
    ·cases (On H).1
  clear u;go_wp2;go_ret;exact ab.o
end
section
open Go.Maps
def below_drewN(w:WD)(q:Nat):BW w (w.drewN q):=⟨rfl,rfl,rfl,Nz _,λ_ _=>rfl⟩
def DD(a k:Nat)(h:a<18446744073709551616):(bits BinOp.and IntKind.u64 ((a:Int)/2^k) 1==1)=a.testBit k:=by
 have e:((a:Int)/2^k)=((a/2^k:Nat):Int):=by simp
 have c:a/2^k<18446744073709551616:=Nat.lt_of_le_of_lt (Nat.div_le_self _ _) h;have d:=Pw (a/2^k) 1 c (by decide);rw [e,show((1:Int))=((1:Nat):Int)from rfl,d];rw [Nat.testBit,Nat.shiftRight_eq_div_pow,Nat.and_comm 1];have f:(a/2^k)&&&1=a/2^k%2:=Nat.and_one_is_mod _;rw [f];have i:a/2^k%2<2:=QV _ (by decide);rcases OT (a/2^k%2)with b|b;rw [b];rfl;have g:a/2^k%2=1:=by omega
 rw [g];rfl
def bY.nd{w:WD}{A:Au}{i:OA}{k:Nat}{c:OA}{d:Nat}(h:bY w A i k c d){j:Nat}(g:j<A.ah.length):∃b o x,c=some (AD b o)/\A.ah[j]? =some x/\A.aw j=x/\j<d/\GH w b (o+j*4) x:=by have l:=h.bC;obtain ⟨b,o,e,f⟩:=h.ah.resolve_left (by omega);have a:A.ah[j]? =some A.ah[j]:=Ny g;exact ⟨b,o,_,e,a,by unfold Au.aw;rw [Nw,a];rfl,by omega,f j _ a⟩
def DL(J w:WD)(gk G:Nat)(A:Au)(s:iw)(H:Value)(P:List (Nat×Nat))(p:Nat×Nat)(t:Nat)(y:fJ J w gk G A s H P)(n:fS A)(r:p.1<A.ah.length)(M:t<64):
 CL 111 #[PT gk,Gz p,IV t] w λe I=>e=RT (.bool ((A.aw p.1).aT.testBit t))/\BW w I:=by
 obtain ⟨l,u⟩:=p
 simp only at r
 show CL 111 #[PT gk,.agg #[IV l,IV u],IV t] w _
 obtain ⟨k,g⟩:=EX (w.alloc (.cells #[IV l,IV u] 127))
 have h:BW w k:=g▸ag _ _
 have f:=bp w #[IV l,IV u] 127
 rw [g]at f
 have c:=y.af h
 obtain ⟨b,o,x,i,z,a,F,O,Q,R,B,C,L,D,-⟩:=(c.Ao.af c.aM).nd r
 have K:=(f 0 _ rfl).1
 have N:k.cell? (AD gk 2)=some (.slice (some (AD b o)) s.nl s.nc):=by rw [Nt c.dp,<-i];rfl
 have E:(l:Int)<(s.nl:Int):=by omega
 have j:=NI z
 have q:x.aT<18446744073709551616:=NL (n.aT x j) (O1 (by decide) (by have:=n.sets;omega:A.sets<=64))
 have v:=DD x.aT t q
 have m:=Nq h
 have d:=Nq a
 clear y c f z j a i n r B C D
 go_enter Tryz.func111,Tryz.ntmps111
 go_upto_region 1 with(fail)
 clear g
 go_quiet (fail)
 go_wp2
 go_ret
 exact ⟨by rw [d.o];rfl,aa m.o (below_drewN k _)⟩
end
section
open Go.Maps
def Sd:=@Bool.true_or
def BP(A:Au)(p:Nat×Nat):Nat:=if A.sets=0\/(p.2=0/\(A.aw p.1).aT.testBit 0=true)then 1 else 0
def pY(w0 w:WD)(gk nb:Nat)(A:Au)(s:iw)(pv:Value)(P:List (Nat×Nat))(p:Nat×Nat)(e:Ending)(d:WD):Prop:=
 ∃(pv':Value)(R:List (Nat×Nat))(a:OA)(l c:Nat)(js:List Nat),e=RT (.agg #[UV ((A.aw p.1).ak:Int),UV ((A.aw p.1).aD:Int),UV (BP A p:Int),.slice a l c])/\fJ w0 d gk nb A s pv' (P++R)/\aj (cm gk nb pv) w d/\(∀b,pv'.ownBlock=some b->pv.ownBlock=some b\/w.heap.size<=b)/\
  iS w d (cm gk nb pv') a l c js/\(∀x∈R,x.2=iu A p.1 p.2/\x.1∈bV.tO (A.aw p.1))/\(∀j∈js,∃q∈bV.tO (A.aw p.1),(P++R)[j]? =some (q,iu A p.1 p.2))/\(∀q∈bV.tO (A.aw p.1),∃j∈js,(P++R)[j]? =some (q,iu A p.1 p.2))/\R.length<=(bV.tO (A.aw p.1)).length
def cP{d:Func}{p:Tmp}{e:TypeId}(h:d.results=#[.cell p e])(b:Array Value)(P:Program)(w:WD):
 (results d b).run P w=((asAddr (b.getD p undef)).run P w).andThen λa f=>(loadVar e a).run P f:=by
 simp only [results,h]
 simp [P8,Result.andThen]
structure mA (w0 wc w5:WD) (gk nb:Nat) (A:Au) (s:iw) (pv:Value) (P:List (Nat×Nat)) (ah:List Nat) (t ak aD aT b7:Nat) (pv':Value) (R:List (Nat×Nat)) (a:OA) (l c:Nat) (js:List Nat):Prop where
 dp:w5.heap[b7]? =some (.cells #[UV ak,UV aD,UV aT,.slice a l c] 62 (0,0))
 kV:fJ w0 w5 gk nb A s pv' (P++R)
 kw:aj (cm gk nb pv) wc w5
 mv:∀b,pv'.ownBlock=some b->pv.ownBlock=some b\/wc.heap.size<=b
 row:iS wc w5 (cm gk nb pv') a l c js
 dJ:∀x∈R,x.2=t/\x.1∈ah
 xx:∀j∈js,∃q∈ah,(P++R)[j]? =some (q,t)
 done:∀q∈ah,∃j∈js,(P++R)[j]? =some (q,t)
 rl:R.length<=ah.length
 bn:wc.heap.size<=b7
 bd:¬cm gk nb pv' b7
 ba:∀b o,a=some (AD b o)->b≠b7
section
variable {w0 wc w4 w5:WD} {gk nb:Nat} {A:Au} {s:iw} {pv:Value} {P:List (Nat×Nat)} {nodes:List Nat} {t need ban b7 inn inn':Nat} {pv':Value} {R:List (Nat×Nat)} {a:OA} {l c:Nat} {js:List Nat}
def mA.Mm(y:fJ w0 wc gk nb A s pv P)(f:fJ w0 w4 gk nb A s pv' (P++R))(g:aj (cm gk nb pv) wc w4)(n:∀b,pv'.ownBlock=some b->pv.ownBlock=some b\/wc.heap.size<=b)(h:iS wc w4 (cm gk nb pv') a l c js)
 (p:∀x∈R,x.2=t/\x.1∈nodes) (r:∀j∈js,∃q∈nodes,(P++R)[j]? =some (q,t)) (u:∀q∈nodes,∃j∈js,(P++R)[j]? =some (q,t)) (v:R.length<=nodes.length)
 (d:w5=w4.alloc (.cells #[UV need,UV ban,UV 0,.slice a l c] 62)):mA w0 wc w5 gk nb A s pv P nodes t need ban 0 w4.heap.size pv' R a l c js:=by
 have i:BW w4 w5:=d▸ag _ _
 have m:aj (λ_=>False) w4 w5:=aj.mono (aj.aF i) (λk z s=>by omega)
 exact ⟨by rw [d];exact (ND w4 _).1,f.af i,g.then m (λ_ _ s=>s.elim),n,h.aA m (λ_ s=>s.elim) (λ_ s=>.inl s),p,r,u,v,g.size,λs=>by have:=f.eE _ s;omega,λb o e w=>by have:=h.lt b o e;omega⟩
def mA.M5{g:WD}(C:fJ w0 wc gk nb A s pv P)(w:g=(wc.alloc (.cells #[UV 0,UV 0,UV 0,SN] 62)).drew)(D:fJ w0 w4 gk nb A s pv' (P++R))(z:aj (cm gk nb pv) g w4)(B:∀b,pv'.ownBlock=some b->pv.ownBlock=some b\/g.heap.size<=b)(f:iS g w4 (cm gk nb pv') a l c js)
 (E:∀x∈R,x.2=t/\x.1∈nodes) (F:∀j∈js,∃q∈nodes,(P++R)[j]? =some (q,t)) (G:∀q∈nodes,∃j∈js,(P++R)[j]? =some (q,t)) (H:R.length<=nodes.length)
 (y:w5=(((w4.setCell (AD wc.heap.size 0) (UV need)).setCell (AD wc.heap.size 1) (UV ban)).setCell (AD wc.heap.size 2) (UV 0)).setCell (AD wc.heap.size 3) (.slice a l c)):mA w0 wc w5 gk nb A s pv P nodes t need ban 0 wc.heap.size pv' R a l c js:=by
 have L:g.heap.size=wc.heap.size+1:=by rw [w];exact NG ..
 have u:BW wc g:=w▸(ag _ _).drew
 have m:¬cm gk nb pv wc.heap.size:=λs=>by have:=C.eE _ s;omega
 have d:¬cm gk nb pv' wc.heap.size:=λs=>by rcases fZ B s with s|s;exact m s;omega
 have i:w4.heap[wc.heap.size]? =some (.cells #[UV 0,UV 0,UV 0,SN] 62 (0,0)):=(z.block _ (by omega) m).trans (by rw [w];exact (ND wc _).1)
 have n:aj (λk=>k=wc.heap.size) w4 w5:=by rw [y];exact ((((aj.refl (λk=>k=wc.heap.size) w4).setCell (p:=(AD wc.heap.size 0)) (λ_=>rfl) _).setCell (p:=(AD wc.heap.size 1)) (λ_=>rfl) _).setCell (p:=(AD wc.heap.size 2)) (λ_=>rfl) _).setCell (p:=(AD wc.heap.size 3)) (λ_=>rfl) _
 have J:aj (cm gk nb pv) wc w4:=(aj.mono (aj.aF u) (λk I s=>by omega)).then z (λ_ _ s=>s)
 have v:∀b o,a=some (AD b o)->wc.heap.size<b:=λb o e=>by have:=f.bL b o e;omega
 have r:w5.heap[wc.heap.size]? =some (.cells #[UV need,UV ban,UV 0,.slice a l c] 62 (0,0)):=by rw [y];simp [HC,World.setCell,Ow,i]
 exact ⟨r,D.aA n (λk e s=>d (e▸s)) (λk e=>by have:=C.aM.size;omega),J.then n (λk I e=>by omega),λb e=>(B b e).imp id (λh=>by omega),
  ⟨cF f.row n (λb o e s=>by have:=v b o e;omega),λb o e=>by have:=v b o e;omega,f.sep,λb o e=>NL (f.lt b o e) n.size,f.bC,f.nil⟩,E,F,G,H,Nz _,d,λb o e K=>by have:=v b o e;omega⟩
def mA.aA{R':Nat->Prop}{g:WD}(h:mA w0 wc w5 gk nb A s pv P nodes t need ban inn b7 pv' R a l c js)(d:aj R' w5 g)(f:w0.heap.size<=wc.heap.size)(i:∀k,R' k->wc.heap.size<=k)(j:∀k,R' k->¬cm gk nb pv' k)(m:∀k,R' k->∀b o,a=some (AD b o)->b≠k){inn':Nat}
 (n:HC g b7 #[UV need,UV ban,UV inn',.slice a l c] 62):mA w0 wc g gk nb A s pv P nodes t need ban inn' b7 pv' R a l c js:=
 ⟨n,h.kV.aA d j (λk e=>N5 f (i k e)),h.kw.then d (λk d e=>by have:=i k e;omega),h.mv,⟨cF h.row.row d (λb o e s=>m b s b o e rfl),h.row.bL,h.row.sep,λb o e=>NL (h.row.lt b o e) d.size,h.row.bC,h.row.nil⟩,h.dJ,h.xx,h.done,h.rl,h.bn,h.bd,h.ba⟩
def mA.af{g:WD}(h:mA w0 wc w5 gk nb A s pv P nodes t need ban inn b7 pv' R a l c js)(d:w0.heap.size<=wc.heap.size)(f:BW w5 g):mA w0 wc g gk nb A s pv P nodes t need ban inn b7 pv' R a l c js:=
 h.aA (aj.aF f) d (λk e=>by have:=h.kw.size;omega) (λk e s=>by have:=h.kV.eE k s;omega) (λk e b o i=>by have:=h.row.lt b o i;omega) ((f.block b7 (Nu.1 h.dp).1).trans h.dp)
def mA.one(h:mA w0 wc w5 gk nb A s pv P nodes t need ban inn b7 pv' R a l c js)(d:w0.heap.size<=wc.heap.size)(inn':Nat):mA w0 wc (w5.setCell (AD b7 2) (UV inn')) gk nb A s pv P nodes t need ban inn' b7 pv' R a l c js:=
 h.aA (R':=λk=>k=b7) ((aj.refl (λk=>k=b7) w5).setCell (p:=(AD b7 2)) (λ_=>rfl) _) d (λk e=>e▸h.bn) (λk e=>e▸h.bd) (λk e b o f=>e▸h.ba b o f) (by simp [HC,World.setCell,Ow,h.dp])
def mA.o{w m:WD}{p:Nat×Nat}{g:Nat}(h:mA w0 wc w5 gk nb A s pv P nodes t need ban inn b7 pv' R a l c js)(hw:BW w wc)(y:w0.heap.size<=w.heap.size)(f:∀k,cm gk nb pv k->k<w.heap.size)(d:aj (λk=>k=g) w5 m)(z:w.heap.size<=g)(x:g<wc.heap.size)
 (n:need=(A.aw p.1).ak) (q:ban=(A.aw p.1).aD) (r:inn=BP A p) (u:nodes=bV.tO (A.aw p.1)) (v:t=iu A p.1 p.2):
 pY w0 w gk nb A s pv P p (RT (.agg #[UV need,UV ban,UV inn,.slice a l c])) m:=by
 subst n q r u v
 have i:¬cm gk nb pv' g:=λs=>by rcases fZ h.mv s with s|s;have:=f g s;omega;omega
 have j:=hw.size
 refine ⟨pv',R,a,l,c,js,rfl,h.kV.aA d (λk e s=>i (e▸s)) (λk e=>by omega),((aj.mono (aj.aF hw) (λk d s=>by omega)).then h.kw (λ_ _ s=>s)).then d (λk d e=>by omega),λb e=>(h.mv b e).imp id (λh=>by omega),⟨cF h.row.row d (λb o e s=>by have:=h.row.bL b o e;omega),λb o e=>N5 j (h.row.bL b o e),h.row.sep,λb o e=>NL (h.row.lt b o e) d.size,h.row.bC,h.row.nil⟩,h.dJ,h.xx,h.done,h.rl⟩
end
def EU(w0 w:WD)(gk nb:Nat)(A:Au)(s:iw)(pv:Value)(P:List (Nat×Nat))(p:Nat×Nat)(hd:fJ w0 w gk nb A s pv P)(hA:fS A)(hP:P.length<=16777216)(hp:p.1<A.ah.length)(bq:p.2<=16):
 CL 79 #[PT gk,Gz p] w (pY w0 w gk nb A s pv P p):=by
 obtain ⟨j,n⟩:=p
 simp only at hp bq
 show CL 79 #[PT gk,.agg #[IV j,IV n]] w _
 obtain ⟨I,an⟩:=EX ((w.alloc (.cells #[IV j,IV n] 127)).alloc (.cells #[UV 0,UV 0,UV 0,SN] 62))
 obtain ⟨q,hq⟩:=EX w.heap.size
 have a1:=ag w (.cells #[IV j,IV n] 127)
 have ax:=ag (w.alloc (.cells #[IV j,IV n] 127)) (.cells #[UV 0,UV 0,UV 0,SN] 62)
 have aK:BW w I:=an▸aa a1 ax
 have s1:I.heap.size=q+1+1:=by rw [<-an,NG,NG,hq]
 have aM:I.heap[q]? =some (.cells #[IV j,IV n] 127 (0,0)):=by rw [<-an,<-hq,(ND _ _).2 _ (by rw [NG];omega)];exact (ND w _).1
 have a5:I.heap[q+1]? =some (.cells #[UV 0,UV 0,UV 0,SN] 62 (0,0)):=by rw [<-an,<-hq,<-NG w (.cells #[IV j,IV n] 127)];exact (ND _ _).1
 have ar:=hd.af aK
 obtain ⟨b,o,x,a7,hx,am,bA,ta,tl,tc,e0,e1,e2,e3,aA⟩:=hd.Ao.nd hp
 have kc:∀{i:Nat}{v:Value},w0.cell? (AD b i)=some v->I.cell? (AD b i)=some v:=λh=>(ar.aM.cell (Nr w0 _ h)).trans h
 have n0:=kc e0
 have n1:=kc e1
 have n2:=kc e2
 have n3:=kc e3
 have c0:I.cell? (AD q 0)=some (IV j):=CH aM
 have k2:I.cell? (AD gk 2)=some (.slice (some (AD b o)) s.nl s.nc):=by rw [Nt ar.dp,<-a7];rfl
 have bz:(j:Int)<(s.nl:Int):=by omega
 have bd:=NI hx
 have HD:=Nq hd
 have bl:=Nq ar
 have HA:=Nq hA
 have D:=Nq am
 have aw:=Nq aA
 have a0:=Nq bd
 have aE:=Nq aM
 have bj:=Nq a5
 have aS:=Nq aK
 have HQ:=Nq hq
 have T:=Nq s1
 clear hd ar hA am aA bd aM a5 aK s1 a1 ax e0 e1 e2 e3 kc hx a7
 go_enter Tryz.func79,Tryz.ntmps79
 go_upto_region 1 with(fail)
 clear an hq
 have aX:Hid (∀u,BW I u->u.cell? (AD q 0)=some (IV j)/\u.cell? (AD gk 2)=some (.slice (some (AD b o)) s.nl s.nc)/\u.cell? (AD b (o+j*4))=some (UV x.ak)/\u.cell? (AD b (o+j*4+1))=some (UV x.aD)/\u.cell? (AD b (o+j*4+2))=some (UV x.aT)/\u.cell? (AD b (o+j*4+3))=some (.slice ta tl tc)):=λu hb=>
  have k:∀{g i:Nat}{v:Value},I.cell? (AD g i)=some v->u.cell? (AD g i)=some v:=λh=>(hb.cell (Nr I _ h)).trans h
  ⟨k c0,k k2,k n0,k n1,k n2,k n3⟩
 refine av 10 (S:=λu=>u.cell? (AD q 0)=some (IV j)/\u.cell? (AD gk 2)=some (.slice (some (AD b o)) s.nl s.nc)/\u.cell? (AD b (o+j*4))=some (UV x.ak)/\u.cell? (AD b (o+j*4+1))=some (UV x.aD)/\u.cell? (AD b (o+j*4+2))=some (UV x.aT)/\u.cell? (AD b (o+j*4+3))=some (.slice ta tl tc)) (by kernel_rfl) (⟨c0,k2,n0,n1,n2,n3⟩) (λU=>?_)
 refine' az 0 ?_
 refine' az 1 ?_
 refine' az 2 ?_
 refine' az 3 ?_
 refine' az 4 ?_
 refine' az 5 ?_
 refine' az 6 ?_
 refine' az 7 ?_
 refine' az 8 ?_
 clear U
 refine aI 9 λK F=>?_
 go_simp
 refine F.o _ _ (λ_=>aX.o _ ((Nx _ I).drew.alloc (Nz _) _)) ?_
 clear F K
 try walk_nrm
 refine aI 10 λK F=>?_
 go_simp
 refine F.o _ _ (λe=>nomatch e) ?_
 clear F K
 try walk_nrm
 refine ay (by kernel_rfl) ?_
 obtain ⟨Q,ao⟩:=EX ((I.alloc (.cells #[UV x.ak,UV x.aD,UV x.aT,.slice ta tl tc] 62)).drew)
 obtain ⟨m,ai⟩:=EX I.heap.size
 have af:BW I Q:=ao▸(ag I _).drew
 have a4:Q.heap[m]? =some (.cells #[UV x.ak,UV x.aD,UV x.aT,.slice ta tl tc] 62 (0,0)):=by rw [<-ao,<-ai];exact (ND I _).1
 have s2:Q.heap.size=m+1:=by rw [<-ao,<-ai];exact NG ..
 rw [ao,ai]
 have bk:=Nq ai
 have bf:=Nq af
 have bi:=Nq a4
 have bm:=Nq s2
 have aF:=Nq (bl.o.af af)
 have j0:Q.cell? (AD q 0)=some (IV j):=by rw [Nt ((af.block q (by rw [T.o];omega)).trans aE.o)];rfl
 have j1:Q.cell? (AD q 1)=some (IV n):=by rw [Nt ((af.block q (by rw [T.o];omega)).trans aE.o)];rfl
 have jg:Q.cell? (AD gk 0)=some (IV A.sets):=CH aF.o.dp
 have bD:A.sets<=16:=HA.o.sets
 clear ao ai af a4 s2 c0 k2 n0 n1 n2 n3
 obtain ⟨B,hB⟩:=EX ((decide (0<A.sets)&&(A.aw j).aT.testBit n))
 have aq:=Nq hB
 clear hB
 go_upto_region 3 with(fail)
 go_cut [31]from 17 to 31 (λv wc=>v=.bool B/\Hid (BW Q wc))
 case first=>
  by_cases h0:A.sets=0
  ·have hB:B=false:=by rw [<-aq.o,NX (by omega),Pe]
   subst hB;have g0:decide ((0:Int)<(A.sets:Int))=false:=NX (by omega);go_wp2;go_meet;case rel=>exact ⟨rfl,Nq (Nx _ _)⟩
  ·have g0:decide ((0:Int)<(A.sets:Int))=true:=N6 (by omega);have Z:Hid (CL 111 #[PT gk,.agg #[IV j,IV n],IV n] Q λe u=>e=RT (.bool ((A.aw j).aT.testBit n))/\BW Q u):=DL w0 Q gk nb A s pv P (j,n) n aF.o HA.o hp (by omega)
   have hB:(A.aw j).aT.testBit n=B:=by rw [<-aq.o,N6 (by omega),OM]
   rw [hB]at Z;clear hB;go_wp2_with (go_at_call 111;refine Z.o.mono ?_;rintro e d ⟨rfl,a2⟩;have bg:=Nq a2;clear a2);go_meet;case rel=>exact ⟨rfl,bg⟩
 case rest=>
  obtain ⟨rfl,ah⟩:=hcut;obtain ⟨t,ht⟩:=EX (iu A j n);have HT:Hid (if B=true then(n+1)%A.sets=t else n=t):=by
   rw [<-ht,<-aq.o];unfold iu;by_cases h0:0<A.sets/\(A.aw j).aT.testBit n=true
   ·rw [Oa h0,Oa (by rw [N6 h0.1,h0.2];rfl)];exact Nq rfl
   ·rw [Of h0,Of (by rw [OB,OP];exact h0)];exact Nq rfl
  have aH:=Nq ht;have l1:=(ah.o.cell (Nr Q _ j1)).trans j1;have lg:=(ah.o.cell (Nr Q _ jg)).trans jg;clear ht;go_upto_if 31 with(fail);go_cut [6]from 32 to 40 (λv wd=>v=IV t/\Hid (BW Q wd));case first=>
   cases B
   ·have ht:n=t:=HT.o;subst ht
    go_wp2;go_meet;case rel=>exact ⟨rfl,ah⟩
   ·have ht:(n+1)%A.sets=t:=HT.o;have h0:0<A.sets:=by have h:=aq.o;rw [OB,OP]at h;exact h.1
    have bv:Int.tmod ((n:Int)+1) (A.sets:Int)=(t:Int):=by rw [Pm (by omega),<-ht];simp
    have bB:((A.sets:Int)==0)=false:=by simp;omega
    have bC:¬(A.sets:Int)=0:=by omega
    clear ht;go_upto_region 4 with(fail);go_quiet (fail);go_wp2;go_meet;case rel=>exact ⟨rfl,Nq (aa ah.o (below_drewN _ _))⟩
  case rest=>
   clear l1 lg ah;obtain ⟨rfl,aL⟩:=hcut;obtain ⟨d,rfl⟩:∃d,d=wc:=⟨_,rfl⟩;have ad:=Nq (aF.o.af aL.o);have Y:Hid (d.heap[m]? =some (.cells #[UV x.ak,UV x.aD,UV x.aT,.slice ta tl tc] 62 (0,0))):=(aL.o.block m (by rw [bm.o];exact Q2 _)).trans bi.o;have bs:tl<=16777216:=by have h:=aw.o.1;rw [aC]at h;rw [<-h];exact HA.o.tl x a0.o
   have bb:t<=1000000:=by
    rw [<-aH.o];unfold iu;split
    ·have:=QV (n+1) (show 0<A.sets by omega);omega
    ·omega
   have aU:Hid (∀u,BW d u->CL 78 #[PT gk,.slice ta tl tc,IV t] u (oP w0 u gk nb A s pv P (bV.tO x) t)):=λu hb=>
    AE w0 u gk nb A s pv P ta tl tc (bV.tO x) t (ad.o.af hb) hP aw.o bs (λk hk=>by have:=HA.o.lN x a0.o k hk;have:=HA.o.many;omega) bb
   have m0:d.cell? (AD m 0)=some (UV x.ak):=CH Y.o;have m1:d.cell? (AD m 1)=some (UV x.aD):=CH Y.o;have m3:d.cell? (AD m 3)=some (.slice ta tl tc):=CH Y.o;have M:m<d.heap.size:=(Nu.1 Y.o).1;have ab:Hid (¬cm gk nb pv m):=λs=>by have:=HD.o.eE m s;have:=aS.o.size;have:=bk.o;omega
   go_upto_region 5 with(fail);go_cut [7,49]from 41 to 50 (λv7 bt wd=>∃(b7:Nat)(pv':Value)(R:List (Nat×Nat))(a:OA)(l c:Nat)(js:List Nat),v7=PT b7/\bt=.slice a l c/\Hid (mA w0 d wd gk nb A s pv P (bV.tO x) t x.ak x.aD 0 b7 pv' R a l c js));case first=>
    refine av 11 (S:=λu=>u.cell? (AD m 0)=some (UV x.ak)/\u.cell? (AD m 1)=some (UV x.aD)/\u.cell? (AD m 3)=some (.slice ta tl tc)) (by kernel_rfl) (⟨m0,m1,m3⟩) (λU=>?_);refine' az 0 ?_;refine' az 1 ?_;refine' az 2 ?_;refine' az 3 ?_;refine' az 4 ?_;refine' az 5 ?_;refine' az 6 ?_;refine' az 7 ?_;clear U;refine pT (rs:=[8,10]) (by kernel_rfl) (by simp) (eT.cons rfl (λK F=>?_) (eT.cons rfl (λK F=>?_) eT.nil))
    ·have E:Hid (BW d d.drew):=(Nx _ d).drew;rw [Oa (by rfl)]
     apply aY.o;refine aN (f:=78) (args:=#[PT gk,.slice ta tl tc,IV t]) (aU.o d.drew E.o) ?_ (λe w4 X=>?_)
     ·clear F;go_simp
     obtain ⟨pv',R,a,l,c,js,rfl,h1,H,h3,h4,h5,h6,h7,h8⟩:=X;refine ⟨_,rfl,?_⟩;have o0:=H.aq (p:=(AD m 0)) ((E.o.cell (p:=(AD m 0)) M).trans m0) ab.o;have o1:=H.aq (p:=(AD m 1)) ((E.o.cell (p:=(AD m 1)) M).trans m1) ab.o;have o3:=H.aq (p:=(AD m 3)) ((E.o.cell (p:=(AD m 3)) M).trans m3) ab.o;have aJ:=And.intro o0 (And.intro o1 o3);refine F.o _ _ (λ_=>aJ) ?_;clear F K;try walk_nrm
     refine' bc (i:=9) (v:=_) rfl (by kernel_rfl) (λ_ _ _ h=>h) (Or.inl ⟨by rfl,?hyA9⟩) (by assumption) ?restA9;case hyA9=>(intro u bo;go_simp;(try with_reducible rfl))
     try walk_nrm
     obtain ⟨w5,aQ⟩:=EX (w4.alloc (.cells #[UV x.ak,UV x.aD,UV 0,.slice a l c] 62));have aG:=Nq (mA.Mm (need:=x.ak) (ban:=x.aD) ad.o h1 (⟨H.os,H.tape,H.output,H.size,H.block⟩:aj (cm gk nb pv) d w4) h3 (⟨h4.row,h4.bL,h4.sep,h4.lt,h4.bC,h4.nil⟩:iS d w4 (cm gk nb pv') a l c js) h5 h6 h7 h8 aQ.symm);have z5:=ag w4 (.cells #[UV 0,UV 0,UV 0,SN] 62);have HZ:Hid ((w4.alloc (.cells #[UV 0,UV 0,UV 0,SN] 62)).cell? (AD m 0)=some (UV x.ak)/\(w4.alloc (.cells #[UV 0,UV 0,UV 0,SN] 62)).cell? (AD m 1)=some (UV x.aD)/\(w4.alloc (.cells #[UV 0,UV 0,UV 0,SN] 62)).cell? (AD m 3)=some (.slice ta tl tc)):=
      ⟨(z5.cell (Nr w4 _ o0)).trans o0,(z5.cell (Nr w4 _ o1)).trans o1,(z5.cell (Nr w4 _ o3)).trans o3⟩
     clear h1 H h3 h4 h5 h6 h7 h8 z5 o0 o1 o3;refine aI 10 λK F=>?_;go_simp;refine F.o _ _ (λ_=>HZ.o) ?_;clear F K;try walk_nrm
     refine aI 11 λK F=>?_;go_simp;refine F.o _ _ (λe=>nomatch e) ?_;clear F K;try walk_nrm
     refine ay (by kernel_rfl) ?_;go_wp2;go_meet;case rel=>exact ⟨_,_,_,_,_,_,_,rfl,rfl,aG⟩
    ·go_simp;obtain ⟨wz,ap⟩:=EX ((d.alloc (.cells #[UV 0,UV 0,UV 0,SN] 62)).drew)
     rw [ap];have E:Hid (BW d wz):=ap▸(ag _ _).drew;have aJ:=And.intro ((E.o.cell (p:=(AD m 0)) M).trans m0) (And.intro ((E.o.cell (p:=(AD m 1)) M).trans m1) ((E.o.cell (p:=(AD m 3)) M).trans m3));have aR:wz.heap[d.heap.size]? =some (.cells #[UV 0,UV 0,UV 0,SN] 62 (0,0)):=by rw [<-ap];exact (ND d _).1
     refine F.o _ _ (λ_=>aJ) ?_;clear F K;try walk_nrm
     refine aI 8 λK F=>?_;rw [Oa (by rfl)];apply aY.o;refine aN (f:=78) (args:=#[PT gk,.slice ta tl tc,IV t]) (aU.o wz E.o) ?_ (λe w4 X=>?_)
     ·clear F;go_simp
     obtain ⟨pv',R,a,l,c,js,rfl,h1,H,h3,h4,h5,h6,h7,h8⟩:=X;refine ⟨_,rfl,?_⟩;have o0:=H.aq (p:=(AD m 0)) ((E.o.cell (p:=(AD m 0)) M).trans m0) ab.o;have o1:=H.aq (p:=(AD m 1)) ((E.o.cell (p:=(AD m 1)) M).trans m1) ab.o;have o3:=H.aq (p:=(AD m 3)) ((E.o.cell (p:=(AD m 3)) M).trans m3) ab.o;have bn:=And.intro o0 (And.intro o1 o3);have be:d.heap.size<wz.heap.size:=(Nu.1 aR).1;have z:=(H.block _ be (λs=>by have:=ad.o.eE _ s;omega)).trans aR;refine F.o _ _ (λ_=>bn) ?_;clear F K;try walk_nrm
     refine' bc (i:=9) (v:=_) rfl (by kernel_rfl) (λ_ _ _ h=>h) (Or.inl ⟨by rfl,?hyB9⟩) (by assumption) ?restB9;case hyB9=>(intro u bo;go_simp;(try with_reducible rfl))
     try walk_nrm
     obtain ⟨w5,aQ⟩:=EX ((((w4.setCell (AD d.heap.size 0) (UV x.ak)).setCell (AD d.heap.size 1) (UV x.aD)).setCell (AD d.heap.size 2) (UV 0)).setCell (AD d.heap.size 3) (.slice a l c));have aG:=Nq (mA.M5 (need:=x.ak) (ban:=x.aD) ad.o ap.symm h1 H h3 h4 h5 h6 h7 h8 aQ.symm);have y0:w4.cell? (AD d.heap.size 0)=some (UV 0):=CH z;have y1:w4.cell? (AD d.heap.size 1)=some (UV 0):=CH z;have y2:w4.cell? (AD d.heap.size 2)=some (UV 0):=CH z;have y3:w4.cell? (AD d.heap.size 3)=some (SN):=CH z;have v0:w4.frozen? (AD d.heap.size 0)=false:=NA z 0;have v1:w4.frozen? (AD d.heap.size 1)=false:=NA z 1;have v2:w4.frozen? (AD d.heap.size 2)=false:=NA z 2;have v3:w4.frozen? (AD d.heap.size 3)=false:=NA z 3;clear h1 H h3 h4 h5 h6 h7 h8 aR z be ap;refine aI 11 λK F=>?_;go_simp;refine F.o _ _ (λe=>nomatch e) ?_;clear F K;try walk_nrm
     refine ay (by kernel_rfl) ?_;go_wp2;go_meet;case rel=>exact ⟨_,_,_,_,_,_,_,rfl,rfl,aG⟩
   case rest=>
    clear m0 m1 m3;obtain ⟨b7,pv',R,a,l,c,js,rfl,rfl,W⟩:=hcut;obtain ⟨w5,rfl⟩:∃w5,w5=wc:=⟨_,rfl⟩;have L:Hid (BW I d):=aa bf.o aL.o;have a8:¬cm gk nb pv q:=λs=>by have:=HD.o.eE q s;have:=HQ.o;omega
    have ba:¬cm gk nb pv (q+1):=λs=>by have:=HD.o.eE (q+1) s;have:=HQ.o;omega
    have aP:w5.heap[q]? =some (.cells #[IV j,IV n] 127 (0,0)):=(W.o.kw.block q (by have:=L.o.size;have:=T.o;omega) a8).trans ((L.o.block q (by have:=T.o;omega)).trans aE.o);have a9:w5.heap[q+1]? =some (.cells #[UV 0,UV 0,UV 0,SN] 62 (0,0)):=(W.o.kw.block (q+1) (by have:=L.o.size;have:=T.o;omega) ba).trans ((L.o.block (q+1) (by have:=T.o;omega)).trans bj.o);have r0:w5.cell? (AD q 0)=some (IV j):=CH aP;have r1:w5.cell? (AD q 1)=some (IV n):=CH aP;have rg:w5.cell? (AD gk 0)=some (IV A.sets):=CH W.o.kV.dp;have aW:=Nq a9;have aZ:Hid (BW w d):=aa aS.o L.o;obtain ⟨C,hC⟩:=EX ((decide (A.sets=0)||(decide (n=0)&&(A.aw j).aT.testBit 0)));have ac:=Nq hC;have Z:Hid (CL 111 #[PT gk,.agg #[IV j,IV n],IV 0] w5 λe u=>e=RT (.bool ((A.aw j).aT.testBit 0))/\BW w5 u):=DL w0 w5 gk nb A s pv' (P++R) (j,n) 0 W.o.kV HA.o hp (by decide);clear hC a8 ba aP a9;go_upto_region 6 with(fail);go_cut [66]from 51 to 66 (λv wd=>v=.bool C/\Hid (BW w5 wd));case first=>
     by_cases h0:A.sets=0
     ·have hC:C=true:=by rw [<-ac.o,N6 h0,Sd]
      subst hC;have g0:((A.sets:Int)==0)=true:=by simp;omega
      go_wp2;go_meet;case rel=>exact ⟨rfl,Nq (Nx _ _)⟩
     ·have g0:((A.sets:Int)==0)=false:=by simp;omega
      by_cases h1:n=0
      ·have hC:(A.aw j).aT.testBit 0=C:=by rw [<-ac.o,NX h0,Ra,N6 h1,OM]
       rw [hC]at Z;have g2:((n:Int)==0)=true:=by simp;omega
       clear hC h1;go_wp2_with (go_at_call 111;refine Z.o.mono ?_;rintro e G ⟨rfl,a3⟩;have bh:=Nq a3;clear a3);go_meet;case rel=>exact ⟨rfl,bh⟩
      ·have hC:C=false:=by rw [<-ac.o,NX h0,Ra,NX h1,Pe]
       subst hC;have g2:((n:Int)==0)=false:=by simp;omega
       go_wp2;go_meet;case rel=>exact ⟨rfl,Nq (Nx _ _)⟩
    case rest=>
     clear r0 r1 rg Z;obtain ⟨rfl,a6⟩:=hcut;obtain ⟨G,rfl⟩:∃G,G=wc:=⟨_,rfl⟩;have al:w0.heap.size<=d.heap.size:=ad.o.aM.size;have bu:=Nq al;have J:=W.o.af al a6.o;have r:G.heap[q+1]? =some (.cells #[UV 0,UV 0,UV 0,SN] 62 (0,0)):=(a6.o.block (q+1) (Nu.1 aW.o).1).trans aW.o;have br:q+1<d.heap.size:=by have:=L.o.size;have:=T.o;omega
     have aV:=Nq br;have bp:¬b7=q+1:=by have:=J.bn;omega
     cases C
     ·have hd:BP A (j,n)=0:=by
       have h:=ac.o;rw [Bool.or_eq_false_iff,decide_eq_false_iff_not]at h;unfold BP;rw [Of];rintro (H|⟨H,h3⟩)
       ·exact h.1 H
       ·have H:n=0:=H;have:=h.2
        rw [N6 H,OM]at this;rw [this]at h3;cases h3
      have ae:=Nq J;have bw:((0:Nat):Int)=0:=rfl;have u0:G.cell? (AD b7 0)=some (UV x.ak):=CH J.dp;have u1:G.cell? (AD b7 1)=some (UV x.aD):=CH J.dp;have u2:G.cell? (AD b7 2)=some (UV 0):=CH J.dp;have u3:G.cell? (AD b7 3)=some (.slice a l c):=CH J.dp;have y0:G.cell? (AD (q+1) 0)=some (UV 0):=CH r;have y1:G.cell? (AD (q+1) 1)=some (UV 0):=CH r;have y2:G.cell? (AD (q+1) 2)=some (UV 0):=CH r;have y3:G.cell? (AD (q+1) 3)=some (SN):=CH r;have v0:G.frozen? (AD (q+1) 0)=false:=NA r 0;have v1:G.frozen? (AD (q+1) 1)=false:=NA r 1;have v2:G.frozen? (AD (q+1) 2)=false:=NA r 2;have v3:G.frozen? (AD (q+1) 3)=false:=NA r 3;clear J r W;go_wp2;(try simp only [Exit.inBlock,Exit.then]);obtain ⟨w9,N⟩:=EX ((((G.setCell (AD (q+1) 0) (UV x.ak)).setCell (AD (q+1) 1) (UV x.aD)).setCell (AD (q+1) 2) (UV 0)).setCell (AD (q+1) 3) (.slice a l c));rw [N];obtain ⟨d0,d1,d2,d3,-⟩:=vL y0 y1 y2 y3 w9 N.symm;have aO:aj (λk=>k=q+1) G w9:=by rw [<-N];exact ((((aj.refl (λk=>k=q+1) G).setCell (p:=(AD (q+1) 0)) (λ_=>rfl) _).setCell (p:=(AD (q+1) 1)) (λ_=>rfl) _).setCell (p:=(AD (q+1) 2)) (λ_=>rfl) _).setCell (p:=(AD (q+1) 3)) (λ_=>rfl) _
      clear N u0 u1 u2 u3 y0 y1 y2 y3 v0 v1 v2 v3;refine OS (v:=.agg #[UV x.ak,UV x.aD,UV 0,.slice a l c]) ?_ rfl ?_
      ·rw [cP rfl];go_simp
      ·exact ae.o.o aZ.o HD.o.aM.size (λk s=>HD.o.eE k s) aO (by have:=HQ.o;omega) aV.o (by rw [D.o]) (by rw [D.o]) hd.symm (by rw [D.o]) aH.o.symm
     ·have hd:BP A (j,n)=1:=by have h:=ac.o;unfold BP;rw [Oa];rw [Py,OP,OB,OP]at h;exact h
      have i2:G.cell? (AD b7 2)=some (UV 0):=CH J.dp;have z2:G.frozen? (AD b7 2)=false:=NA J.dp 2;go_upto_region 8 with(fail);have V:=J.one al 1;obtain ⟨O,au⟩:=EX (G.setCell (AD b7 2) (UV 1));have aB:G.setCell (AD b7 2) (UV ((1:Nat):Int))=O:=au;rw [aB]at V;rw [au];have y:O.heap[q+1]? =some (.cells #[UV 0,UV 0,UV 0,SN] 62 (0,0)):=by rw [<-au];exact (Below.heap_setCell _ _ _ _ (λe=>bp e.symm)).trans r
      have ae:=Nq V;clear au aB i2 z2;have u0:O.cell? (AD b7 0)=some (UV x.ak):=CH V.dp;have u1:O.cell? (AD b7 1)=some (UV x.aD):=CH V.dp;have u2:O.cell? (AD b7 2)=some (UV 1):=CH V.dp;have u3:O.cell? (AD b7 3)=some (.slice a l c):=CH V.dp;have y0:O.cell? (AD (q+1) 0)=some (UV 0):=CH y;have y1:O.cell? (AD (q+1) 1)=some (UV 0):=CH y;have y2:O.cell? (AD (q+1) 2)=some (UV 0):=CH y;have y3:O.cell? (AD (q+1) 3)=some (SN):=CH y;have v0:O.frozen? (AD (q+1) 0)=false:=NA y 0;have v1:O.frozen? (AD (q+1) 1)=false:=NA y 1;have v2:O.frozen? (AD (q+1) 2)=false:=NA y 2;have v3:O.frozen? (AD (q+1) 3)=false:=NA y 3;clear V y W;go_wp2;(try simp only [Exit.inBlock,Exit.then]);obtain ⟨w9,N⟩:=EX ((((O.setCell (AD (q+1) 0) (UV x.ak)).setCell (AD (q+1) 1) (UV x.aD)).setCell (AD (q+1) 2) (UV 1)).setCell (AD (q+1) 3) (.slice a l c));rw [N];obtain ⟨d0,d1,d2,d3,-⟩:=vL y0 y1 y2 y3 w9 N.symm;have aO:aj (λk=>k=q+1) O w9:=by rw [<-N];exact ((((aj.refl (λk=>k=q+1) O).setCell (p:=(AD (q+1) 0)) (λ_=>rfl) _).setCell (p:=(AD (q+1) 1)) (λ_=>rfl) _).setCell (p:=(AD (q+1) 2)) (λ_=>rfl) _).setCell (p:=(AD (q+1) 3)) (λ_=>rfl) _
      clear N u0 u1 u2 u3 y0 y1 y2 y3 v0 v1 v2 v3;refine OS (v:=.agg #[UV x.ak,UV x.aD,UV 1,.slice a l c]) ?_ rfl ?_
      ·rw [cP rfl];go_simp
      ·exact ae.o.o aZ.o HD.o.aM.size (λk s=>HD.o.eE k s) aO (by have:=HQ.o;omega) aV.o (by rw [D.o]) (by rw [D.o]) hd.symm (by rw [D.o]) aH.o.symm
end
section
open Go.Maps
def rp(x:bV×bu):List Value:=[UV x.1.ak,UV x.1.aD,UV x.1.aT,jP x.2]
def cX:List (bV×bu)->List Value
 |[]=>[]
 |x::l=>UV x.1.ak::UV x.1.aD::UV x.1.aT::jP x.2::cX l
def rn:∀(l:List (bV×bu))(x:bV×bu),cX (l++[x])=cX l++rp x
 |[],_=>rfl
 |y::l,x=>by rw [OW];simp only [cX,rn l x,OW]
def vX:∀(l:List (bV×bu))(j:Nat)(x:bV×bu),l[j]? =some x->
 (cX l)[j*4]? =some (UV x.1.ak)/\(cX l)[j*4+1]? =some (UV x.1.aD)/\(cX l)[j*4+2]? =some (UV x.1.aT)/\(cX l)[j*4+3]? =some (jP x.2)
 |_::l,0,_,h=>by cases h;exact ⟨rfl,rfl,rfl,rfl⟩
 |_::l,j+1,x,h=>by
  have a:=vX l j x h;have e:(j+1)*4=j*4+1+1+1+1:=by omega
  rw [e];exact a
 |[],_,_,h=>by simp at h
def gN(ob:Nat)(ov:Value)(k:Nat):Prop:=k=ob\/ov.ownBlock=some k
def oX(ob:Nat)(ov:Value)(X:Nat->Prop)(k:Nat):Prop:=gN ob ov k\/X k
structure fm (w:WD) (S:Nat->Prop) (t:bu) (l:List Nat):Prop where
 row:aG .i64 w t.1 t.2.1 (aH l)
 sep:nP S t.1
 lt:Lb w t.1
 bC:t.2.1<=16777216
def fm.aA{w w1:WD}{S S' R:Nat->Prop}{t:bu}{l:List Nat}(h:fm w S t l)(c:aj R w w1)(d:∀k,R k->S k\/w.heap.size<=k)(f:∀k,S' k->S k\/w.heap.size<=k):fm w1 S' t l:=by have a:aj (λk=>R k/\k<w.heap.size) w w1:=c.mono λk g i=>⟨i,g⟩;exact ⟨cF h.row a (λb o e s=>(d b s.1).elim (h.sep b o e) (λh=>by omega)),nP.from f h.sep h.lt,λb o e=>NL (h.lt b o e) c.size,h.bC⟩
structure fT (w:WD) (ob:Nat) (X:Nat->Prop) (sets:Nat) (t:bu) (js:List Nat) (ov:Value) (O:List (bV×bu)):Prop where
 dp:w.heap[ob]? =some (.cells #[IV sets,jP t,ov] 36 (0,0))
 cK:w.ownsRow 0 62 4 ov O.length (cX O)
 nY:∀b,ov.ownBlock=some b->b≠ob
 nW:fm w (oX ob ov X) t js
 bG:∀x∈O,fm w (oX ob ov X) x.2 (bV.tO x.1)
section
variable {w w1 w2 w3:WD} {ob:Nat} {X:Nat->Prop} {sets:Nat} {t:bu} {js:List Nat} {ov ov':Value} {O:List (bV×bu)}
def fT.Bb(h:fT w ob X sets t js ov O):ob<w.heap.size:=(Nu.1 h.dp).1
def fT.eE(h:fT w ob X sets t js ov O):∀k,gN ob ov k->k<w.heap.size:=λk a=>by rcases a with rfl|a;exact h.Bb;exact dj h.cK k a
def fT.aA(h:fT w ob X sets t js ov O){R:Nat->Prop}(a:aj R w w1)(c:∀k,R k->¬gN ob ov k)(d:∀k,R k->X k\/w.heap.size<=k):fT w1 ob X sets t js ov O:=
 ⟨(a.block ob h.Bb (λs=>c _ s (.inl rfl))).trans h.dp,bm h.cK a (λb e s=>c _ s (.inr e)),h.nY,h.nW.aA a (λk s=>(d k s).imp .inr id) (λk s=>.inl s),λx f=>(h.bG x f).aA a (λk s=>(d k s).imp .inr id) (λk s=>.inl s)⟩
def fT.af(h:fT w ob X sets t js ov O)(b:BW w w1):fT w1 ob X sets t js ov O:=
 h.aA (aj.aF b) (λk a s=>by have:=h.eE k s;omega) (λk a=>.inr a)
def fT.off(h:fT w ob X sets t js ov O){Y:Nat->Prop}(b:∀k,Y k->X k\/w.heap.size<=k):fT w ob Y sets t js ov O:=by have a:∀k,oX ob ov Y k->oX ob ov X k\/w.heap.size<=k:=λk s=>s.elim (λs=>.inl (.inl s)) (λs=>(b k s).imp .inr id);exact ⟨h.dp,h.cK,h.nY,h.nW.aA (aj.refl (λ_=>False) w) (λ_ s=>s.elim) a,λx c=>(h.bG x c).aA (aj.refl (λ_=>False) w) (λ_ s=>s.elim) a⟩
def fT.aK(c:HC w ob #[IV sets,jP t,SN] 36)(a:fm w (λk=>k=ob\/X k) t js):fT w ob X sets t js (SN) []:=
 ⟨c,Ox _ _ _ _,λb e=>(by cases e),⟨a.row,λb o e s=>by
  rcases s with(s|s)|s;exact a.sep b o e (.inl s);cases s
  exact a.sep b o e (.inr s),a.lt,a.bC⟩,λx d=>(by cases d)⟩
def fT.dB(h:fT w ob X sets t js ov O)(x:bV×bu)(v:fm w (oX ob ov X) x.2 (bV.tO x.1))(j:BW w w1)(f:w2.ownsRow 0 62 4 ov' (O.length+1) (cX O++rp x))(n:aj (λk=>ov.ownBlock=some k) w1 w2)
 (u:∀b,ov'.ownBlock=some b->ov.ownBlock=some b\/w1.heap.size<=b) (q:w3=w2.setCell (AD ob 2) ov'):
 fT w3 ob X sets t js ov' (O++[x])/\aj (gN ob ov) w w3/\∀b,ov'.ownBlock=some b->ov.ownBlock=some b\/w.heap.size<=b:=by
 have d:=h.Bb
 have o:¬ov.ownBlock=some ob:=λe=>h.nY ob e rfl
 have z:aj (gN ob ov) w w1:=aj.mono (aj.aF j) (λk n s=>by omega)
 have A:aj (gN ob ov) w w2:=z.then n (λ_ _ s=>.inr s)
 have i:aj (λk=>k=ob) w2 w3:=by rw [q];exact (aj.refl (λk=>k=ob) w2).setCell (p:=(AD ob 2)) (λ_=>rfl) _
 have l:aj (gN ob ov) w w3:=A.then i (λ_ _ s=>.inl s)
 have r:=(n.block ob (NL d j.size) o).trans ((j.block ob d).trans h.dp)
 have c:∀b,ov'.ownBlock=some b->ov.ownBlock=some b\/w.heap.size<=b:=λb e=>(u b e).imp id (λh=>N5 j.size h)
 have a:∀b,ov'.ownBlock=some b->b≠ob:=λb e=>(c b e).elim (h.nY b) (λh=>by omega)
 have m:∀k,oX ob ov' X k->oX ob ov X k\/w.heap.size<=k:=λk s=>by rcases s with(s|s)|s;exact .inl (.inl (.inl s));exact (c k s).imp (λs=>.inl (.inr s)) id;exact .inl (.inr s)
 refine ⟨⟨by rw [q];simp [HC,World.setCell,Ow,r],by rw [rn,NH];exact bm f i (λb e s=>a b e s),a,h.nW.aA l (λk s=>.inl (.inl s)) m,λy g=>?_⟩,l,c⟩
 rcases NY.1 g with g|g
 exact (h.bG y g).aA l (λk s=>.inl (.inl s)) m
 rw [Nv.1 g]
 exact v.aA l (λk s=>.inl (.inl s)) m
def fT.B6(h:fT w ob X sets t js ov O):Et w ⟨sets,js,O.map Prod.fst⟩ (.agg #[IV sets,jP t,ov]):=by
 obtain ⟨f,r,rfl⟩:=bw h.cK;refine ⟨t.1,t.2.1,t.2.2,f,O.length,r,rfl,h.nW.row,NU ..,?_⟩;rcases h.cK.2 with⟨b,-⟩|⟨g,k,l,b,-⟩;exact .inl (On b).2.1;have e:f=some (AD g 0):=(On b).1;subst e;refine .inr ⟨g,0,rfl,λj y a=>?_⟩;obtain ⟨x,d,rfl⟩:∃x,O[j]? =some x/\x.1=y:=by have a:(O.map Prod.fst)[j]? =some y:=a;rw [Oh]at a;exact Ph.1 a
 obtain ⟨m,n,o,p⟩:=vX O j x d;have c:∀{i:Nat}{u:Value},(cX O)[i]? =some u->CA w g i u:=λ{i u} q=>by have:=h.cK.cells (g:=g) rfl i u q;rw [O4,Od]at this;exact this
 rw [Od];exact ⟨_,_,_,c m,c n,c o,c p,(h.bG x (NI d)).row⟩
def fT.Nd(h:fT w ob X sets t js ov O){B:Nat}(b:∀k,k<B->X k)(c:∀k,gN ob ov k->B<=k):yT w B ⟨sets,js,O.map Prod.fst⟩ (.agg #[IV sets,jP t,ov]):=λ_ a=>
 (h.aA a (λk a s=>by have:=c k s;omega) (λk a=>.inl (b k a))).B6
end
end
section
open Go.Maps
def oG(A:Au)(p:Nat×Nat):Prop:=p.1<A.ah.length/\(A.sets=0/\p.2=0\/p.2<A.sets)
def KD{A:Au}{q t:Nat}(h:A.sets=0/\t=0\/t<A.sets):A.sets=0/\iu A q t=0\/iu A q t<A.sets:=by unfold iu;rcases h with⟨a,b⟩|h;exact .inl ⟨a,by rw [Of (by omega)];exact b⟩;refine .inr ?_;split;exact QV _ (by omega);exact h
def p6(A:Au)(P:List (Nat×Nat))(x:bV)(p:Nat×Nat):Prop:=
 x.ak=(A.aw p.1).ak/\x.aD=(A.aw p.1).aD/\x.aT=BP A p/\(∀m∈bV.tO x,∃q∈bV.tO (A.aw p.1),P[m]? =some (q,iu A p.1 p.2))/\∀q∈bV.tO (A.aw p.1),∃m∈bV.tO x,P[m]? =some (q,iu A p.1 p.2)
def DX(gk nb:Nat)(pv:Value)(a k:Nat):Prop:=cm gk nb pv k\/k<=a
structure oQ (w wr:WD) (gk nb ob:Nat) (A:Au) (s:iw) (pv:Value) (P:List (Nat×Nat)) (t:bu) (js:List Nat) (ov:Value) (O:List (bV×bu)):Prop where
 kV:fJ w wr gk nb A s pv P
 o:fT wr ob (DX gk nb pv (w.heap.size+1)) 1 t js ov O
 sep:∀k,cm gk nb pv k->¬gN ob ov k
 bL:∀k,gN ob ov k->w.heap.size+1<k
 LG:∀k,cm gk nb pv k->w.heap.size+1<k
 wL:wr.heap[w.heap.size+1]? =some (.cells #[IV 0,SN,SN] 36 (0,0))
 cO:O.length<=P.length
 LO:∀p∈P,oG A p
 xA:∀j∈js,∃q∈A.aJ,P[j]? =some (q,0)
 Lw:∀q∈A.aJ,∃j∈js,P[j]? =some (q,0)
 Ba:∀(j:Nat)(x:bV×bu)(p:Nat×Nat),O[j]? =some x->P[j]? =some p->p6 A P x.1 p
section
variable {w wr w4 w5 w6 w7:WD} {gk nb ob:Nat} {A:Au} {s:iw} {pv pv':Value} {P R:List (Nat×Nat)} {t:bu} {js:List Nat} {ov ov':Value} {O:List (bV×bu)}
def wG{α:Type}{P R:List α}{j:Nat}{p:α}(h:P[j]? =some p):(P++R)[j]? =some p:=by rw [NP (NK.1 h).1];exact h
def p6.mono{x:bV}{p:Nat×Nat}(h:p6 A P x p):p6 A (P++R) x p:=by obtain ⟨c,d,f,g,i⟩:=h;refine ⟨c,d,f,λm a=>?_,λq b=>?_⟩;obtain ⟨q,b,e⟩:=g m a;exact ⟨q,b,wG e⟩;obtain ⟨m,a,e⟩:=i q b;exact ⟨m,a,wG e⟩
def oQ.step(h:oQ w wr gk nb ob A s pv P t js ov O)(hA:fS A){p:Nat×Nat}(Q:P[O.length]? =some p)(X:fJ w w4 gk nb A s pv' (P++R))(J:aj (cm gk nb pv) wr w4)(i:∀b,pv'.ownBlock=some b->pv.ownBlock=some b\/wr.heap.size<=b)
 {a:OA} {l c:Nat} {n:List Nat} (G:iS wr w4 (cm gk nb pv') a l c n) (D:∀x∈R,x.2=iu A p.1 p.2/\x.1∈bV.tO (A.aw p.1)) (u:∀j∈n,∃q∈bV.tO (A.aw p.1),(P++R)[j]? =some (q,iu A p.1 p.2)) (r:∀q∈bV.tO (A.aw p.1),∃j∈n,(P++R)[j]? =some (q,iu A p.1 p.2))
 (hb:BW w4 w5) (E:w6.ownsRow 0 62 4 ov' (O.length+1) (cX O++rp (⟨(A.aw p.1).ak,(A.aw p.1).aD,BP A p,n⟩,(a,l,c)))) (K:aj (λk=>ov.ownBlock=some k) w5 w6) (L:∀b,ov'.ownBlock=some b->ov.ownBlock=some b\/w5.heap.size<=b)
 (e7:w7=w6.setCell (AD ob 2) ov'):oQ w w7 gk nb ob A s pv' (P++R) t js ov' (O++[(⟨(A.aw p.1).ak,(A.aw p.1).aD,BP A p,n⟩,(a,l,c))]):=by
 have s1:=J.size
 have sw:=h.kV.aM.size
 have T:w.heap.size+1<wr.heap.size:=(Nu.1 h.wL).1
 have U:∀k,DX gk nb pv' (w.heap.size+1) k->DX gk nb pv (w.heap.size+1) k\/wr.heap.size<=k:=λk s=>s.elim (λs=>(fZ i s).imp .inl id) (λs=>.inl (.inr s))
 have M:fT w4 ob (DX gk nb pv' (w.heap.size+1)) 1 t js ov O:=
  ((h.o.off (Y:=λk=>DX gk nb pv (w.heap.size+1) k\/DX gk nb pv' (w.heap.size+1) k) (λk s=>s.elim .inl (U k))).aA J (λk s=>h.sep k s) (λk s=>.inl (.inl (.inl s)))).off (λk s=>.inl (.inr s))
 have B:∀k,gN ob ov k->k<wr.heap.size:=h.o.eE
 have F:fm w4 (oX ob ov (DX gk nb pv' (w.heap.size+1))) (a,l,c) n:=⟨G.row,λb o e s=>by have W:=G.bL b o e;rcases s with s|s|s;have:=B b s;omega;exact G.sep b o e s;omega,G.lt,G.bC⟩
 obtain ⟨N,z,C⟩:=M.dB (⟨(A.aw p.1).ak,(A.aw p.1).aD,BP A p,n⟩,(a,l,c)) F hb E K L e7
 have d:∀k,cm gk nb pv' k->¬gN ob ov k:=λk s f=>by rcases fZ i s with s|s;exact h.sep k s f;have:=B k f;omega
 have I:fJ w w7 gk nb A s pv' (P++R):=X.aA z (λk s f=>d k f s) (λk s=>by have:=h.bL k s;omega)
 have k7:aj (λk=>cm gk nb pv k\/gN ob ov k) wr w7:=(J.mono λ_ _ s=>.inl s).then z (λ_ _ s=>.inr s)
 have m:oG A p:=h.LO p (NI Q)
 refine ⟨I,N,λk s f=>?_,λk s=>?_,λk s=>?_,(k7.block _ T (λs=>s.elim (λs=>by have:=h.LG _ s;omega) (λs=>by have:=h.bL _ s;omega))).trans h.wL,?_,λy g=>?_,λj v=>?_,λq S=>?_,λj x y H g=>?_⟩
 rcases f with f|f
 exact d k s (.inl f)
 rcases C k f with f|f
 exact d k s (.inr f)
 have:=X.eE k s;omega
 rcases s with s|s
 exact h.bL k (.inl s)
 rcases C k s with s|s
 exact h.bL k (.inr s)
 omega
 rcases fZ i s with s|s
 exact h.LG k s
 omega
 have:=(NK.1 Q).1
 rw [NH,NH,Oz];omega
 rcases NY.1 g with g|g
 exact h.LO y g
 obtain ⟨W,h2⟩:=D y g
 have hn:A.aw p.1∈A.ah:=by unfold Au.aw;rw [Nw,Ny m.1];exact OR m.1
 exact ⟨hA.lN _ hn _ h2,by rw [W];exact KD m.2⟩
 obtain ⟨q,S,e⟩:=h.xA j v;exact ⟨q,S,wG e⟩
 obtain ⟨j,v,e⟩:=h.Lw q S;exact ⟨j,v,wG e⟩
 rcases O8 j O.length with Z|Z
 rw [NP Z]at H
 have V:P[j]? =some y:=by rw [NP (by have:=h.cO;omega)]at g;exact g
 exact (h.Ba j x y H V).mono
 have v:j=O.length:=by have:=(NK.1 H).1;rw [NH,Oz]at this;omega
 subst v
 rw [OF]at H
 cases H
 rw [wG Q]at g
 cases g
 exact ⟨rfl,rfl,rfl,u,r⟩
def jM(A:Au):Prop:=∃P:List (Nat×Nat),256<P.length/\(∀(i j:Nat)(p:Nat×Nat),P[i]? =some p->P[j]? =some p->i=j)/\∀p∈P,oG A p
def fJ.uniq{f w:WD}(h:fJ f w gk nb A s pv P)(i j:Nat)(p:Nat×Nat)(d:P[i]? =some p)(e:P[j]? =some p):i=j:=by obtain ⟨g,-,b,-⟩:=h.aW;have c:=b i p d;have a:=b j p e;rw [c]at a;have:=(P7 (OJ a)).2;omega
def oQ.many(h:oQ w wr gk nb ob A s pv P t js ov O)(a:256<P.length):jM A:=⟨P,a,h.kV.uniq,h.LO⟩
def JM(A:Au)(p:Nat×Nat):(BP A p).testBit 0=true↔(A.sets=0\/(p.2=0/\(A.aw p.1).aT.testBit 0=true)):=by unfold BP;split;rename_i h;exact ⟨λ_=>h,λ_=>by decide⟩;rename_i h;exact ⟨λe=>absurd e (show¬(Nat.testBit 0 0=true) by decide),λe=>absurd e h⟩
def oQ.fin(h:oQ w wr gk nb ob A s pv P t js ov O)(G:O.length=P.length)(K:P.length<=256)(F:fS A):(∃_:Md A ⟨1,js,O.map Prod.fst⟩,True)/\fS ⟨1,js,O.map Prod.fst⟩:=by
 have l:(⟨1,js,O.map Prod.fst⟩:Au).ah.length=P.length:=by rw [<-G];exact NU ..
 have b:∀{n:Nat},n<(⟨1,js,O.map Prod.fst⟩:Au).ah.length->∃x p,O[n]? =some x/\P[n]? =some p/\(⟨1,js,O.map Prod.fst⟩:Au).aw n=x.1/\P.getD n (0,0)=p/\p6 A P x.1 p/\oG A p:=λ{n} c=>by rw [l]at c;have B:O[n]? =some O[n]:=Ny (by omega);have r:P[n]? =some P[n]:=Ny c;refine ⟨_,_,B,r,?_,by rw [Nw,r];rfl,h.Ba n _ _ B r,h.LO _ (NI r)⟩;show(O.map Prod.fst).getD n bV.zero=_;rw [Nw,Oh,B];rfl
 have g:∀{n:Nat}{p:Nat×Nat},P[n]? =some p->P.getD n (0,0)=p:=λ{n p} e=>by rw [Nw,e];rfl
 have f:∀y∈(⟨1,js,O.map Prod.fst⟩:Au).ah,∃(n:Nat)(x:bV×bu)(p:Nat×Nat),O[n]? =some x/\x.1=y/\P[n]? =some p/\p6 A P y p/\oG A p:=λy z=>by
  obtain ⟨x,B,rfl⟩:=OC.1 (show y∈O.map Prod.fst from z);obtain ⟨n,c⟩:=Pg B;have D:n<P.length:=by have:=(NK.1 c).1;omega
  have r:P[n]? =some P[n]:=Ny D;exact ⟨n,x,_,c,rfl,r,h.Ba n _ _ c r,h.LO _ (NI r)⟩
 have E:∀{p:Nat×Nat},oG A p->A.aw p.1∈A.ah:=λ{p} r=>by unfold Au.aw;rw [Nw,Ny r.1];exact OR r.1
 refine ⟨⟨{nd:=λn=>(P.getD n (0,0)).1,tn:=λn=>(P.getD n (0,0)).2,sets:=rfl,lt:=λn c=>?_,ak:=λn c=>?_,aD:=λn c=>?_,aJ:=λn c=>?_,gZ:=λq v=>?_,tO:=λn c m C=>?_,nm:=λn c q v=>?_,aT:=λn c=>?_},PO⟩,?_⟩;obtain ⟨x,p,-,-,u,o,a,d⟩:=b c;rw [o];exact d.1;obtain ⟨x,p,-,-,u,o,a,d⟩:=b c;rw [u,o];exact a.1;obtain ⟨x,p,-,-,u,o,a,d⟩:=b c;rw [u,o];exact a.2.1;obtain ⟨q,v,e⟩:=h.xA n c;rw [l,g e];exact ⟨(NK.1 e).1,rfl,v⟩;obtain ⟨j,I,e⟩:=h.Lw q v;exact ⟨j,I,by rw [g e],by rw [g e]⟩;obtain ⟨x,p,-,-,u,o,a,d⟩:=b c;rw [u]at C;obtain ⟨q,v,e⟩:=a.2.2.2.1 m C;rw [l,o,g e];exact ⟨(NK.1 e).1,v,rfl⟩;obtain ⟨x,p,-,-,u,o,a,d⟩:=b c;rw [o]at v;obtain ⟨m,C,e⟩:=a.2.2.2.2 q v;rw [u,o];exact ⟨m,C,by rw [g e],by rw [g e]⟩;obtain ⟨x,p,-,-,u,o,a,d⟩:=b c;rw [u,o,a.2.2.1];exact JM A p;refine ⟨show(1:Nat)<=16 by decide,by rw [l];exact K,λi H=>?_,λy z k J=>?_,λy z=>?_,λy z=>?_,λy z=>?_,?_⟩;obtain ⟨q,v,e⟩:=h.xA i H;rw [l];exact (NK.1 e).1;obtain ⟨n,x,p,-,-,-,a,-⟩:=f y z;obtain ⟨q,v,e⟩:=a.2.2.2.1 k J;rw [l];exact (NK.1 e).1;obtain ⟨n,x,p,-,-,-,a,-⟩:=f y z;rw [a.2.2.1];unfold BP;show(if _ then 1 else 0:Nat)<2^1;split<;>decide;obtain ⟨n,x,p,-,-,-,a,d⟩:=f y z;rw [a.1,a.2.1];exact F.bits _ (E d);obtain ⟨n,x,p,B,rfl,-,-,-⟩:=f y z;have a:=h.o.bG x (NI B);have d:=a.row.1;rw [aC]at d;rw [d];exact a.bC;have d:=h.o.nW.row.1;rw [aC]at d;show js.length<=_;rw [d];exact h.o.nW.bC
end
end
section
open Go.Maps
def BU(w:WD)(A:Au)(e:Ending)(b:WD):Prop:=
 BW w b/\((∃D v,e=RT (.tuple #[v,IV 0])/\(∃_:Md A D,True)/\yT b w.heap.size D v/\fS D)\/∃a:Int,e=RT (.tuple #[.agg #[IV 0,SN,SN],IV a])/\a≠0/\jM A)
def oQ.cZ{w wr g:WD}{gk c d:Nat}{A:Au}{s:iw}{f:Value}{P:List (Nat×Nat)}{t:bu}{b:List Nat}{e:Value}{O:List (bV×bu)}(h:oQ w wr gk c d A s f P t b e O)(a:BW wr g):oQ w g gk c d A s f P t b e O:=
 ⟨h.kV.af a,h.o.af a,h.sep,h.bL,h.LG,(a.block _ (Nu.1 h.wL).1).trans h.wL,h.cO,h.LO,h.xA,h.Lw,h.Ba⟩
def oQ.aK{w t g y:WD}{gk m:Nat}{A:Au}{s:iw}{d:Value}{R:List (Nat×Nat)}{a:OA}{l c:Nat}{u:List Nat}(J:fS A)(P:fJ w t gk m A s (SN) [])
 (h:∀k,cm gk m (SN) k->w.heap.size+1<k) (i:HC t (w.heap.size+1) #[IV 0,SN,SN] 36)
 (z:fJ w g gk m A s d ([]++R)) (D:aj (cm gk m (SN)) t g) (I:∀b,d.ownBlock=some b->(SN).ownBlock=some b\/t.heap.size<=b) (r:iS t g (cm gk m d) a l c u)
 (K:∀x∈R,x.2=0/\x.1∈A.aJ) (F:∀j∈u,∃q∈A.aJ,([]++R)[j]? =some (q,0)) (E:∀q∈A.aJ,∃j∈u,([]++R)[j]? =some (q,0)) (C:y=g.alloc (.cells #[IV 1,.slice a l c,SN] 36)):
 oQ w y gk m g.heap.size A s d R (a,l,c) u (SN) []:=by
 rw [PU]at z F E
 have f:BW g y:=C▸ag _ _
 have B:w.heap.size+1<t.heap.size:=(Nu.1 i).1
 have O:=D.size
 have n:∀k,cm gk m d k->w.heap.size+1<k:=λk s=>by rcases fZ I s with s|s;exact h k s;omega
 have L:fT y g.heap.size (DX gk m d (w.heap.size+1)) 1 (a,l,c) u (SN) []:=fT.aK (by rw [C];exact (ND g _).1) ⟨r.row.af f,λb o e s=>by have Q:=r.bL b o e;have S:=r.lt b o e;rcases s with s|s|s;omega;exact r.sep b o e s;omega,λb o e=>NL (r.lt b o e) f.size,r.bC⟩
 refine ⟨z.af f,L,λk s v=>?_,λk s=>?_,n,(f.block _ (by omega)).trans ((D.block _ B (λs=>by have:=h _ s;omega)).trans i),NS _,λp M=>?_,F,E,λj x p N=>(by cases N)⟩
 rcases v with v|v
 have:=z.eE k s;omega
 cases v
 rcases s with s|s
 omega
 cases s
 obtain ⟨G,H⟩:=K p M
 exact ⟨J.aJ _ H,by rw [G];omega⟩
def Cp(w:WD)(A:Au)(t:OA)(r z:Nat)(F:OA)(G H:Nat)(hv:bY w A t r F G)(hA:fS A):
 CL 43 #[.agg #[IV A.sets,.slice t r z,.slice F G H]] w (BU w A):=by
 obtain ⟨q,hq⟩:=EX w.heap.size
 have bg:=@RY Tryz.prog
 obtain ⟨w1,Z⟩:=EX ((w.alloc (.cells #[IV A.sets,.slice t r z,.slice F G H] 36)).alloc (.cells #[IV 0,SN,SN] 36))
 have ax:BW w w1:=Z▸aa (ag _ _) (ag _ _)
 have s1:w1.heap.size=q+1+1:=by rw [<-Z,NG,NG,hq]
 have W:w1.heap[q]? =some (.cells #[IV A.sets,.slice t r z,.slice F G H] 36 (0,0)):=by rw [<-Z,<-hq,(ND _ _).2 _ (by rw [NG];omega)];exact (ND w _).1
 have aZ:w1.heap[q+1]? =some (.cells #[IV 0,SN,SN] 36 (0,0)):=by rw [<-Z,<-hq,<-NG w (.cells #[IV A.sets,.slice t r z,.slice F G H] 36)];exact (ND _ _).1
 have aO:=Nq (ft w1 A t r z F G H (hv.af ax) hA)
 have c0:w1.cell? (AD q 0)=some (IV A.sets):=CH W
 have c1:w1.cell? (AD q 1)=some (.slice t r z):=CH W
 have N:w1.cell? (AD q 2)=some (.slice F G H):=CH W
 have HV:=Nq hv
 have HA:=Nq hA
 have a9:=Nq ax
 have aL:=Nq W
 have aK:=Nq aZ
 have HQ:=Nq hq
 have ap:=Nq s1
 clear hv hA ax W aZ s1
 go_enter Tryz.func43,Tryz.ntmps43
 go_upto_region 2 with(go_at_call 23;refine aO.o.mono ?_;rintro e J ⟨rfl,aX⟩;have ac:=Nq aX;clear aX)
 clear Z c0 c1 N
 have ab:J.heap[q]? =some (.cells #[IV A.sets,.slice t r z,.slice F G H] 36 (0,0)):=(ac.o.block q (by have:=ap.o;omega)).trans aL.o
 have aR:Hid (J.heap[q+1]? =some (.cells #[IV 0,SN,SN] 36 (0,0))):=(ac.o.block (q+1) (by have:=ap.o;omega)).trans aK.o
 have Q:Hid (BW w J):=aa a9.o ac.o
 have k0:J.cell? (AD q 0)=some (IV A.sets):=CH ab
 have k1:J.cell? (AD q 1)=some (.slice t r z):=CH ab
 have k2:J.cell? (AD q 2)=some (.slice F G H):=CH ab
 have aU:=Nq ab
 clear ab hq
 go_upto_region 5 with(fail)
 clear bg
 obtain ⟨o,L⟩:=EX ((J.alloc (.map #[] 0)).alloc (.cells #[IV A.sets,.slice t r z,.slice F G H,.map (some J.heap.size),SN] 124))
 rw [L]
 obtain ⟨gk,aA⟩:=EX (J.heap.size+1)
 obtain ⟨M,ai⟩:=EX J.heap.size
 have ae:BW J o:=L▸aa (ag _ _) (ag _ _)
 have bq:q+1<M:=by have:=ac.o.size;have:=ap.o;omega
 have am:fJ w o gk M A ⟨t,r,z,F,G,H⟩ (SN) []:=by
  obtain ⟨wa,ha⟩:=EX (J.alloc (.map #[] 0));rw [ha]at L;have sa:wa.heap.size=gk:=by rw [<-ha,NG,aA]
  have m1:cE Tryz.prog 127 wa M 0 (λ_=>none):=by have:=cE.aK Tryz.prog 127 J;rw [ha,ai]at this;exact this
  have bb:BW wa o:=L▸ag _ _;refine ⟨by rw [<-L,<-sa,ai];exact (ND wa _).1,Ox _ _ _ _,⟨_,m1.af bb,λj p hp=>(by cases hp),λp v h=>(by cases h)⟩,by omega,λb e=>(by cases e),Q.o.trans (ae.mono Q.o.size),λk s=>?_,HV.o⟩;have:=Q.o.size;rcases s with s|s|s
  ·omega
  ·omega
  ·cases s
 have T:=Nq am
 have al:Hid (∀k,cm gk M (SN) k->w.heap.size+1<k):=λk s=>by
  have:=HQ.o;rcases s with s|s|s
  ·omega
  ·omega
  ·cases s
 have a8:o.heap[q]? =some (.cells #[IV A.sets,.slice t r z,.slice F G H] 36 (0,0)):=(ae.block q (by omega)).trans aU.o
 have aS:Hid (o.heap[w.heap.size+1]? =some (.cells #[IV 0,SN,SN] 36 (0,0))):=by rw [HQ.o];exact (ae.block (q+1) (by omega)).trans aR.o
 have i1:o.cell? (AD q 1)=some (.slice t r z):=CH a8
 have a1:r<=16777216:=by have:=HV.o.aJ.1;rw [aC]at this;rw [<-this];exact HA.o.il
 have aT:Hid (CL 78 #[PT gk,.slice t r z,IV 0] o (oP w o gk M A ⟨t,r,z,F,G,H⟩ (SN) [] A.aJ 0)):=
  AE w o gk M A ⟨t,r,z,F,G,H⟩ (SN) [] t r z A.aJ 0 T.o (by decide) HV.o.aJ a1 (λi hi=>by have:=HA.o.aJ i hi;have:=HA.o.many;omega) (by decide)
 rw [aA,ai]
 clear am L ae a8 k0 k1 k2 aA ai
 go_upto_region 6 with(go_at_call 78;refine aT.o.mono ?_;rintro e w5 ⟨pv,P,a,l,c,js,rfl,h1,h2,h3,h4,h5,h6,h7,-⟩)
 obtain ⟨w6,aJ⟩:=EX (w5.alloc (.cells #[IV 1,.slice a l c,SN] 36))
 rw [aJ]
 obtain ⟨C,aE⟩:=EX w5.heap.size
 have HL:=Nq (oQ.aK HA.o T.o al.o aS.o h1 h2 h3 h4 h5 h6 h7 aJ.symm)
 rw [aE]at HL
 rw [aE]
 obtain ⟨sl,a4⟩:=EX ((⟨t,r,z,F,G,H⟩:iw))
 rw [a4]at HL
 clear h1 h2 h3 h4 h5 h6 h7 aJ aE i1 aT T al aS aU aR aL aK aO a4 a1
 go_wp2
 go_loopw [23] (λx wr=>∃(i:Nat)(pv:Value)(P:List (Nat×Nat))(ov:Value)(O:List (bV×bu)),x=IV i/\O.length=i/\i<=256/\Hid (oQ w wr gk M C A sl pv P (a,l,c) js ov O)) (λx _=>257-(intOf x).toNat)
 exact ⟨0,_,_,_,[],rfl,rfl,by decide,HL⟩
 clear HL
 obtain ⟨i,pv,P,ov,O,rfl,au,hi,m⟩:=hrel
 obtain ⟨pa,pc,rfl⟩:=bw m.o.kV.cK
 have bk:(i:Int)<257:=by omega
 have k4:wr.cell? (AD gk 4)=some (.slice pa P.length pc):=CH m.o.kV.dp
 have y:=m.o.wL
 rw [HQ.o]at y
 have d:=Nq y
 have X:=m.o.kV.aM
 by_cases hm:256<P.length
 ·have bf:(256:Int)<(P.length:Int):=by omega
  have ao:=Nq (m.o.many hm);have c0:wr.cell? (AD (q+1) 0)=some (IV 0):=CH d.o;have c1:wr.cell? (AD (q+1) 1)=some (SN):=CH d.o;have N:wr.cell? (AD (q+1) 2)=some (SN):=CH d.o;have z0:wr.frozen? (AD (q+1) 0)=false:=NA d.o 0;have z1:wr.frozen? (AD (q+1) 1)=false:=NA d.o 1;have z2:wr.frozen? (AD (q+1) 2)=false:=NA d.o 2;clear y;go_wp2;(try simp only [Exit.inBlock,Exit.then]);obtain ⟨w9,E⟩:=EX (((wr.setCell (AD (q+1) 0) (IV 0)).setCell (AD (q+1) 1) (SN)).setCell (AD (q+1) 2) (SN));rw [E];obtain ⟨d0,d1,d2,ah⟩:=bQ c0 c1 N w9 E.symm;clear E c0 c1 N z0 z1 z2;refine OS (v:=.tuple #[.agg #[IV 0,SN,SN],IV 11]) ?_ rfl ⟨?_,?_⟩
  ·rw [PI rfl];go_simp
  ·exact X.trans (ah.af X.size (λk hk e=>by have:=HQ.o;omega))
  ·exact .inr ⟨11,rfl,by decide,ao.o⟩
 ·have bf:¬(256:Int)<(P.length:Int):=by omega
  by_cases he:i=P.length
  ·have bd:((i:Int)==(P.length:Int))=true:=by simp;omega
   obtain ⟨oa,oc,rfl⟩:=bw m.o.o.cK;have o0:wr.cell? (AD C 0)=some (IV 1):=CH m.o.o.dp;have o1:wr.cell? (AD C 1)=some (.slice a l c):=CH m.o.o.dp;have ar:O.length=P.length:=by omega
   have aQ:=Nq ar;have o2:wr.cell? (AD C 2)=some (.slice oa P.length oc):=by rw [Nt m.o.o.dp,<-ar];rfl
   clear ar au he;have c0:wr.cell? (AD (q+1) 0)=some (IV 0):=CH d.o;have c1:wr.cell? (AD (q+1) 1)=some (SN):=CH d.o;have N:wr.cell? (AD (q+1) 2)=some (SN):=CH d.o;have z0:wr.frozen? (AD (q+1) 0)=false:=NA d.o 0;have z1:wr.frozen? (AD (q+1) 1)=false:=NA d.o 1;have z2:wr.frozen? (AD (q+1) 2)=false:=NA d.o 2;clear y;go_wp2;(try simp only [Exit.inBlock,Exit.then]);obtain ⟨w9,E⟩:=EX (((wr.setCell (AD (q+1) 0) (IV 1)).setCell (AD (q+1) 1) (.slice a l c)).setCell (AD (q+1) 2) (.slice oa P.length oc));rw [E];obtain ⟨d0,d1,d2,ah⟩:=bQ c0 c1 N w9 E.symm;clear E c0 c1 N z0 z1 z2;refine OS (v:=.tuple #[.agg #[IV 1,.slice a l c,.slice oa P.length oc],IV 0]) ?_ rfl ⟨?_,?_⟩
   ·rw [PI rfl];go_simp
   ·exact X.trans (ah.af X.size (λk hk e=>by have:=HQ.o;omega))
   ·obtain ⟨f1,f2⟩:=m.o.fin aQ.o (by omega) HA.o;have bh:¬gN C (.slice oa O.length oc) (q+1):=λs=>by have:=m.o.bL _ s;have:=HQ.o;omega
    have bi:=m.o.o.aA ah (λk e s=>bh (e▸s)) (λk e=>.inl (.inr (by have:=HQ.o;omega)));have a7:=bi.Nd (B:=w.heap.size) (λk hk=>.inr (by omega)) (λk s=>by have:=m.o.bL k s;omega);rw [aQ.o]at a7;exact .inl ⟨_,_,rfl,f1,a7,f2⟩
  ·have bd:((i:Int)==(P.length:Int))=false:=by simp;omega
   have bo:(i:Int)<(P.length:Int):=by have:=m.o.cO;omega
   obtain ⟨oa,oc,rfl⟩:=bw m.o.o.cK;have be:i<P.length:=by omega
   obtain ⟨⟨I,p2⟩,hp⟩:∃p,P[i]? =some p:=⟨_,Ny be⟩;have aF:=m.o.LO _ (NI hp);obtain ⟨pb,rfl⟩:∃pb,pa=some (AD pb 0):=by
    rcases m.o.kV.cK.2 with⟨h1,-⟩|⟨g,bl,bn,h1,-⟩
    ·have:=(On h1).2.1;omega
    ·exact ⟨g,(On h1).1⟩
   obtain ⟨e0,e1⟩:=wF P i (I,p2) hp;have n0:=m.o.kV.cK.cells (g:=pb) rfl _ _ e0;have n1:=m.o.kV.cK.cells (g:=pb) rfl _ _ e1;rw [O4,Od]at n0 n1;have o2:wr.cell? (AD C 2)=some (.slice oa O.length oc):=CH m.o.o.dp;have ba:p2<=16:=by have:=aF.2;have:=HA.o.sets;simp only at *;omega
   have a0:=m.o.kV.af (Nx _ wr).drew;have aM:Hid (CL 79 #[PT gk,.agg #[IV I,IV p2]] wr.drew (pY w wr.drew gk M A sl (SV pb P.length pc) P (I,p2))):=
    EU w wr.drew gk M A sl (SV pb P.length pc) P (I,p2) a0 HA.o (by omega) aF.1 ba
   have HP:=Nq hp;have aW:O.length+1<=33554432:=by omega
   have aP:=Nq au;clear e0 e1 aF a0 hp y X he au;go_upto_region 12 with(fail);refine av 12 (S:=λw'=>w'.cell? (AD C 2)=some (.slice oa O.length oc)) (by kernel_rfl) (o2) (λaq=>?_);refine' az 0 ?_ [1,0];refine' az 1 ?_;refine' bc (i:=2) (v:=_) rfl (by kernel_rfl) (λ_ _ _ h=>h) (Or.inl ⟨by rfl,?hy2⟩) (by assumption) ?rest2;case hy2=>(intro w' ad;go_simp;(try with_reducible rfl))
   try walk_nrm
   refine' bc (i:=3) (v:=_) rfl (by kernel_rfl) (λ_ _ _ h=>h) (Or.inl ⟨by rfl,?hy3⟩) (by assumption) ?rest3;case hy3=>(intro w' ad;go_simp;(try with_reducible rfl))
   try walk_nrm
   refine' bc (i:=4) (v:=_) rfl (by kernel_rfl) (λ_ _ _ h=>h) (Or.inl ⟨by rfl,?hy4⟩) (by assumption) ?rest4;case hy4=>(intro w' ad;go_simp;(try with_reducible rfl))
   try walk_nrm
   refine' bc (i:=5) (v:=_) rfl (by kernel_rfl) (λ_ _ _ h=>h) (Or.inl ⟨by rfl,?hy5⟩) (by assumption) ?rest5;case hy5=>(intro w' ad;go_simp;(try with_reducible rfl))
   try walk_nrm
   refine' bc (i:=7) (v:=_) rfl (by kernel_rfl) (λ_ _ _ h=>h) (Or.inl ⟨by rfl,?hy7⟩) (by assumption) ?rest7;case hy7=>(intro w' ad;go_simp;(try with_reducible rfl))
   try walk_nrm
   clear aq;refine aI 6 λK n=>?_;go_simp;refine n.o _ _ (λ_=>o2) ?_;clear n K;try walk_nrm
   refine aI 8 λK n=>?_;go_simp;refine n.o _ _ (λ_=>o2) ?_;clear n K;try walk_nrm
   refine aI 9 λK n=>?_;go_simp;refine n.o _ _ (λ_=>o2) ?_;clear n K;try walk_nrm
   refine aI 10 λK n=>?_;rw [Oa (by rfl)];apply aY.o;refine aN (f:=79) aM.o ?_ (λe o aG=>?_)
   ·clear n;go_simp
   obtain ⟨bj,R,a2,l2,N,ks,rfl,h1,h2,h3,h4,h5,h6,h7,-⟩:=aG;refine ⟨_,rfl,?_⟩;have U:aj (cm gk M (SV pb P.length pc)) wr o:=⟨h2.os,h2.tape,h2.output,h2.size,h2.block⟩;have aV:iS wr o (cm gk M bj) a2 l2 N ks:=⟨h4.row,h4.bL,h4.sep,h4.lt,h4.bC,h4.nil⟩;have an:=(U.block C m.o.o.Bb (λs=>m.o.sep C s (.inl rfl))).trans m.o.o.dp;have q2:=U.aq o2 (λs=>m.o.sep C s (.inl rfl));have aB:¬(Value.slice oa O.length oc).ownBlock=some C:=λe=>m.o.o.nY C e rfl;have D:o.ownsRow 0 62 4 (.slice oa O.length oc) O.length (cX O):=bm m.o.o.cK U (λb e s=>m.o.sep b s (.inr e));refine n.o _ _ (λ_=>q2) ?_;clear n K;try walk_nrm
   obtain ⟨w5,aH⟩:=EX (o.alloc (.cells #[UV ((A.aw I).ak:Int),UV ((A.aw I).aD:Int),UV (BP A (I,p2):Int),.slice a2 l2 N] 62));have aw:=bp o #[UV ((A.aw I).ak:Int),UV ((A.aw I).aD:Int),UV (BP A (I,p2):Int),.slice a2 l2 N] 62;rw [aH]at aw;have V:BW o w5:=aH▸ag _ _;have q5:=(V.cell (Nr o _ q2)).trans q2;refine aI 11 λK n=>?_;go_simp;refine n.o _ _ (λ_=>q5) ?_;clear n K;try walk_nrm
   have Y:w5.ownsRow 0 62 4 (.slice oa O.length oc) O.length (cX O):=bm D (aj.aF V) (λg e s=>OI _ (NL (dj D g e) s));have f5:w5.frozen? (AD C 2)=false:=NA ((V.block C (Nr o _ q2)).trans an) 2;refine aI 12 λK n=>?_;rw [Oa (by rfl)];apply aY.o;refine j6 (.tmp 41) (.tmp 51) rfl (.slice oa O.length oc) O.length (cX O) rfl Y (AD o.heap.size 0) 1 [UV ((A.aw I).ak:Int),UV ((A.aw I).aD:Int),UV (BP A (I,p2):Int),.slice a2 l2 N] rfl rfl (λj u hj=>?_) (by simp [Value.oneCell']) aW (λa6 c6 w6 a3 af a5=>?_)
   ·rw [O4,Od];exact (aw j u (by simpa using hj)).1
   have q6:=af.aq q5 aB;have f6:=(N7 (af.block C (Nr _ _ q5) aB)).trans f5;have HN:=Nq (m.o.step HA.o (p:=(I,p2)) (by rw [aP.o];exact HP.o) h1 U h3 aV h5 h6 h7 V a3 af a5 rfl);refine n.o _ _ (λe=>nomatch e) ?_;clear n K h1 h2 h3 h4 h5 h6 h7 U aV an q2 aB D aw V q5 Y f5 a3 af a5 aH;try walk_nrm
   refine aI 13 λK n=>?_;go_simp;refine n.o _ _ (λe=>nomatch e) ?_;clear n K;try walk_nrm
   refine aI 14 λK n=>?_;go_simp;refine n.o _ _ (λe=>nomatch e) ?_;clear n K;try walk_nrm
   refine ay (by kernel_rfl) ?_;go_wp2;go_roundw;exact ⟨i+1,_,_,_,_,by go_num,by rw [NH,aP.o];rfl,by omega,HN⟩;simp [intOf];omega
end
section
open Go.Maps
structure kN (w0 w:WD) (m:Nat) (fv:Value) (s:Int) (iv nv zv:Value) (k:Nat) (why:Int):Prop where
 aM:BW w0 w
 lo:w0.heap.size<=m
 dp:w.heap[m]? =some (.cells #[fv,IV s,iv,nv,zv,IV why] 51 (0,0))
 K0:∃a,Sl w 3 zv k a
 Jo:∀b,zv.ownBlock=some b->w0.heap.size<=b/\b≠m
def eM(m:Nat)(zv:Value)(k:Nat):Prop:=k=m\/zv.ownBlock=some k
section
variable {w0 w w1 w5 w6:WD} {m k:Nat} {fv iv nv zv zv':Value} {s why:Int} {ys:List Value}
def kN.lt(h:kN w0 w m fv s iv nv zv k why):m<w.heap.size:=(Nu.1 h.dp).1
def kN.eE(h:kN w0 w m fv s iv nv zv k why):∀b,eM m zv b->b<w.heap.size/\w0.heap.size<=b:=λb a=>by rcases a with rfl|a;exact ⟨h.lt,h.lo⟩;obtain ⟨d,c⟩:=h.K0;exact ⟨c.lt b a,(h.Jo b a).1⟩
def kN.af(h:kN w0 w m fv s iv nv zv k why)(a:BW w w1):kN w0 w1 m fv s iv nv zv k why:=by obtain ⟨c,b⟩:=h.K0;exact ⟨aa h.aM a,h.lo,(a.block _ h.lt).trans h.dp,⟨c,b.aA (aj.aF a) (λg e s=>by have:=b.lt g e;omega)⟩,h.Jo⟩
def kN.cells(h:kN w0 w m fv s iv nv zv k why):w.cell? (AD m 0)=some fv/\w.cell? (AD m 1)=some (IV s)/\w.cell? (AD m 2)=some iv/\w.cell? (AD m 3)=some nv/\w.cell? (AD m 4)=some zv/\w.cell? (AD m 5)=some (IV why):=by refine ⟨?_,?_,?_,?_,?_,?_⟩<;>(rw [Nt h.dp];rfl)
def kN.free(h:kN w0 w m fv s iv nv zv k why)(i:Nat):FZ w m i:=NA h.dp i
def kN.write(h:kN w0 w m fv s iv nv zv k why){c d f:Value}{l a:Int}(j:aj (λb=>b=m) w w1)(i:HC w1 m #[c,IV l,d,f,zv,IV a] 51):kN w0 w1 m c l d f zv k a:=by obtain ⟨p,o⟩:=h.K0;exact ⟨h.aM.trans (j.af h.aM.size λb i e=>by have:=h.lo;omega),h.lo,i,⟨p,o.aA j (λg e n=>(h.Jo g e).2 n)⟩,h.Jo⟩
def kN.MB(h:kN w0 w m fv s iv nv zv k why)(v:Value):kN w0 (w.setCell (AD m 0) v) m v s iv nv zv k why/\aj (λb=>b=m) w (w.setCell (AD m 0) v):=by have a:aj (λb=>b=m) w (w.setCell (AD m 0) v):=(aj.refl (λb=>b=m) w).setCell (p:=(AD m 0)) (λ_=>rfl) _;exact ⟨h.write a (by simp [HC,World.setCell,Ow,h.dp]),a⟩
def kN.MA(h:kN w0 w m fv s iv nv zv k why)(d:Int)(a c:Value):kN w0 (((w.setCell (AD m 1) (IV d)).setCell (AD m 2) a).setCell (AD m 3) c) m fv d a c zv k why/\aj (λb=>b=m) w (((w.setCell (AD m 1) (IV d)).setCell (AD m 2) a).setCell (AD m 3) c):=by have e:aj (λb=>b=m) w (((w.setCell (AD m 1) (IV d)).setCell (AD m 2) a).setCell (AD m 3) c):=(((aj.refl (λb=>b=m) w).setCell (p:=(AD m 1)) (λ_=>rfl) _).setCell (p:=(AD m 2)) (λ_=>rfl) _).setCell (p:=(AD m 3)) (λ_=>rfl) _;exact ⟨h.write e (by simp [HC,World.setCell,Ow,h.dp]),e⟩
def kN.Na(h:kN w0 w m fv s iv nv zv k why)(e:Int):kN w0 (w.setCell (AD m 5) (IV e)) m fv s iv nv zv k e/\aj (λb=>b=m) w (w.setCell (AD m 5) (IV e)):=by have a:aj (λb=>b=m) w (w.setCell (AD m 5) (IV e)):=(aj.refl (λb=>b=m) w).setCell (p:=(AD m 5)) (λ_=>rfl) _;exact ⟨h.write a (by simp [HC,World.setCell,Ow,h.dp]),a⟩
def kN.grow(h:kN w0 w m fv s iv nv zv k why)(c:BW w w5)(l:Sl w6 3 zv' (k+1) ys)(d:aj (λb=>zv.ownBlock=some b) w5 w6)(i:dC w5 zv zv'):
 kN w0 (w6.setCell (AD m 4) zv') m fv s iv nv zv' (k+1) why/\aj (eM m zv) w (w6.setCell (AD m 4) zv')/\∀b,eM m zv' b->eM m zv b\/w.heap.size<=b:=by
 have j:=h.af c
 have u:=(d.block m j.lt (λe=>(h.Jo m e).2 rfl)).trans j.dp
 have f:aj (λb=>b=m) w6 (w6.setCell (AD m 4) zv'):=(aj.refl (λb=>b=m) w6).setCell (p:=(AD m 4)) (λ_=>rfl) _
 have n:aj (eM m zv) w w5:=aj.mono (aj.aF c) (λb c e=>by omega)
 have r:∀b,zv'.ownBlock=some b->w0.heap.size<=b/\b≠m:=λb e=>by
  rcases i with a|⟨t,a,o⟩;exact h.Jo b (by rw [<-a];exact e);rw [a]at e;cases e
  have v:=j.lt;have x:=j.aM.size;exact ⟨by omega,by omega⟩
 have q:aj (eM m zv) w (w6.setCell (AD m 4) zv'):=(n.then d (λ_ _ e=>.inr e)).then f (λ_ _ e=>.inl e)
 refine ⟨⟨h.aM.trans (q.af h.aM.size λb c e=>by have:=(h.eE b e).2;omega),h.lo,by simp [HC,World.setCell,Ow,u],⟨ys,l.aA f (λg e a=>(r g e).2 a)⟩,r⟩,q,λb e=>?_⟩
 rcases e with e|e
 exact .inl (.inl e)
 rcases i with a|⟨t,a,o⟩
 exact .inl (.inr (by rw [<-a];exact e))
 rw [a]at e;cases e;exact .inr (N5 c.size o)
def eM.aA{S:Nat->Prop}(c:aj (eM m zv) w w1)(a:∀b,b<w.heap.size->eM m zv b->S b):aj S w w1:=c.mono a
end
def Et.get{w:WD}{A:Au}{s:Int}{a:OA}{b g:Nat}{c:OA}{d n:Nat}(h:Et w A (.agg #[IV s,.slice a b g,.slice c d n])):bY w A a b c d/\s=(A.sets:Int):=by obtain ⟨f,j,i,l,p,o,e,h⟩:=h;simp only [Value.agg.injEq,Array.mk.injEq,Pz,Value.int.injEq,Value.slice.injEq,true_and,and_true]at e;obtain ⟨rfl,⟨rfl,rfl,rfl⟩,rfl,rfl,rfl⟩:=e;exact ⟨h,rfl⟩
def MV(w:WD)(b:OA)(n:Nat)(f:Fm)(j:WD)(s:Int)(c:OA)(e d:Nat)(g:OA)(i h:Nat)(a:Int):Prop:=
 a=0/\(∃A,(∃_:kv f A,True)/\MK j (nO w b) A (.agg #[IV s,.slice c e d,.slice g i h])/\fS A/\A.sets=(dG f n).length)\/a≠0/\(50<n\/16<(dG f n).length\/lP f n)
def B5.one{w l:WD}{o:OA}{n:Nat}{f:Fm}{e:Ending}(h:B5 w o n f e l):∃s b d c g j i a,e=RT (.tuple #[.agg #[IV s,.slice b d c,.slice g j i],IV a])/\BW w l/\MV w o n f l s b d c g j i a:=by obtain ⟨p,⟨A,v,rfl,x,q,u,y⟩|⟨a,rfl,r,t⟩⟩:=h;obtain ⟨b,d,c,g,j,i,rfl,-⟩:=q.B6;exact ⟨_,b,d,c,g,j,i,0,rfl,p,.inl ⟨rfl,A,x,q,u,y⟩⟩;exact ⟨0,none,0,0,none,0,0,a,rfl,p,.inr ⟨r,t⟩⟩
def MP(w:WD)(A:Au)(h:WD)(s:Int)(b:OA)(d c:Nat)(e:OA)(g f:Nat)(a:Int):Prop:=
 a=0/\(∃D,(∃_:Md A D,True)/\yT h w.heap.size D (.agg #[IV s,.slice b d c,.slice e g f])/\fS D)\/a≠0/\jM A
def BU.one{w j:WD}{A:Au}{e:Ending}(h:BU w A e j):∃s b d c f i g a,e=RT (.tuple #[.agg #[IV s,.slice b d c,.slice f i g],IV a])/\BW w j/\MP w A j s b d c f i g a:=by obtain ⟨l,⟨D,v,rfl,r,n,q⟩|⟨a,rfl,o,p⟩⟩:=h;obtain ⟨b,d,c,f,i,g,rfl,-⟩:=n.B6;exact ⟨_,b,d,c,f,i,g,0,rfl,l,.inl ⟨rfl,D,r,n,q⟩⟩;exact ⟨0,none,0,0,none,0,0,a,rfl,l,.inr ⟨o,p⟩⟩
def kN.KZ{w0 w:WD}{m k:Nat}{fv iv nv zv:Value}{s why:Int}(h:kN w0 w m fv s iv nv zv k why)(d:Int)(a c:Value)(e:Int):kN w0 ((((w.setCell (AD m 1) (IV d)).setCell (AD m 2) a).setCell (AD m 3) c).setCell (AD m 5) (IV e)) m fv d a c zv k e/\
 aj (λb=>b=m) w ((((w.setCell (AD m 1) (IV d)).setCell (AD m 2) a).setCell (AD m 3) c).setCell (AD m 5) (IV e)):=
 have f:=h.MA d a c
 have g:=f.1.Na e
 ⟨g.1,f.2.then g.2 (λ_ _ s=>s)⟩
def k8(m:Nat)(zv zv':Value)(w a:WD):Prop:=aj (eM m zv) w a/\∀b,eM m zv' b->eM m zv b\/w.heap.size<=b
def k8.of{m:Nat}{zv zv':Value}{w c d g:WD}(a:BW w c)(f:aj (λb=>b=m) c d)(i:aj (eM m zv) d g)(j:∀b,eM m zv' b->eM m zv b\/d.heap.size<=b):k8 m zv zv' w g:=
 ⟨((aj.mono (aj.aF a) (λb a e=>by omega):aj (eM m zv) w c).then f (λ_ _ s=>.inl s)).then i (λ_ _ s=>s),λb e=>(j b e).imp id (λh=>by have:=a.size;have:=f.size;omega)⟩
def Iw{w:WD}{e:TypeId}{d:Nat}{a:OA}{n c b o:Nat}{p:List Value}(h:w.ownsRow 0 e d (.slice a n c) n p)(i:a=some (AD b o)):(Value.slice a n c).ownBlock=some b:=by rcases h.2 with⟨f,-⟩|⟨g,j,l,f,-⟩;have:=(On f).1;rw [this]at i;cases i;have:=(On f).1;rw [this]at i;cases i;rw [f];rfl
def yt{w:WD}{a:OA}{n c:Nat}{F:List (Int×Int)}(f:w.ownsRow 0 32 2 (.slice a n c) n (bX F))(h:F.length=n):bB w a n F:=by refine ⟨h,?_⟩;rcases f.2 with⟨_,p⟩|⟨b,l,o,e,i⟩;exact .inl p;injection e with d g e3;subst d;right;refine ⟨b,0,rfl,λj q=>?_⟩;obtain ⟨d,g⟩:=gy F j (by rw [h];exact q);refine ⟨?_,?_⟩;rw [Od,OX (size:=2) f (j*2) (by omega)];exact d;rw [Od,OX (size:=2) f (j*2+1) (by omega)];exact g
end
end Go.Proofs.YtimniinkpipnmaaGreatDoor
namespace Go.Proofs.YtimniinkpipnmaaGreatDoor.Scc
open Go.RowKit Go.Own
def tP(w:WD)(v:Value)(d:List Int):Prop:=
 ∃a c,v=.slice a d.length c/\(d.length=0\/∃b e,a=some (AD b e)/\∀j,j<d.length->w.cell? (AD b (e+j*2))=some (IV (d.getD j 0))/\∃f,w.cell? (AD b (e+j*2+1))=some (IV f))
def eQ(w:WD)(a:OA)(E:List (List Int)):Prop:=
 E.length=0\/∃b c,a=some (AD b c)/\∀i,i<E.length->∃v,w.cell? (AD b (c+i))=some v/\tP w v (E.getD i [])
def tP.af{w l:WD}{v:Value}{d:List Int}(h:tP w v d)(k:BW w l):tP l v d:=by obtain ⟨a,c,rfl,h⟩:=h;refine ⟨a,c,rfl,h.imp id ?_⟩;rintro ⟨b,f,rfl,m⟩;refine ⟨b,f,rfl,λj n=>?_⟩;obtain ⟨g,e,i⟩:=m j n;exact ⟨(k.cell (Nr w _ g)).trans g,e,(k.cell (Nr w _ i)).trans i⟩
def eQ.af{w f:WD}{a:OA}{E:List (List Int)}(h:eQ w a E)(e:BW w f):eQ f a E:=by refine h.imp id ?_;rintro ⟨b,c,rfl,j⟩;refine ⟨b,c,rfl,λi k=>?_⟩;obtain ⟨v,d,g⟩:=j i k;exact ⟨v,(e.cell (Nr w _ d)).trans d,g.af e⟩
def eQ.at{w:WD}{a:OA}{E:List (List Int)}(h:eQ w a E)(i:Nat)(o:i<E.length):
 ∃b d f l,a=some (AD b d)/\CA w b (d+i) (.slice f (E.getD i []).length l)/\
  ∀j,j<(E.getD i []).length->∃e c,f=some (AD e c)/\CA w e (c+j*2) (IV ((E.getD i []).getD j 0))/\∃k,CA w e (c+j*2+1) (IV k):=by
 rcases h with h|⟨b,d,rfl,n⟩
 omega
 obtain ⟨v,m,f,l,rfl,g⟩:=n i o
 refine ⟨b,d,f,l,rfl,m,λj p=>?_⟩
 rcases g with g|⟨e,c,rfl,g⟩
 omega
 exact ⟨e,c,rfl,g j p⟩
def below_drewN(w:WD)(q:Nat):BW w (w.drewN q):=⟨rfl,rfl,rfl,Nz _,λ_ _=>rfl⟩
section
def Pj:=@List.length_append
def GA(k:Nat):Prop:=1<=k/\k<=7
def L0(k:Nat):TypeId:=if k=6 then 4 else 3
structure eF (w:WD) (g:Nat) (ev:Value) (n:Nat) (s:St) (F:Nat->Prop) (C:Nat->Value) (X:Nat->List Value):Prop where
 str:Rec 9 GA L0 w g C X
 eB:C 0=ev
 cO:C 8=IV s.cO
 aW:X 1=fK n s.aW
 bL:X 2=fK n s.bL
 next:X 3=fK n s.next
 aS:X 4=bI s.aS
 cR:X 5=bI s.cR
 aT:X 6=bA n s.aT
 part:X 7=fK n s.part
 fe:∀b,eN GA g C b->F b
 lt:∀b,F b->b<w.heap.size
def qQ(w:WD)(g:Nat)(ev:Value)(n:Nat)(s:St)(F:Nat->Prop):Prop:=∃C X,eF w g ev n s F C X
def gW(g:Nat)(ev:Value)(n:Nat)(s:St)(F:Nat->Prop)(w c:WD):Prop:=∃a,qQ c g ev n s a/\aj F w c/\∀b,a b->F b\/w.heap.size<=b
section
variable {w w1:WD} {g n:Nat} {ev:Value} {s:St} {F:Nat->Prop} {C:Nat->Value} {X:Nat->List Value}
def eF.aA{S:Nat->Prop}(h:eF w g ev n s F C X)(c:aj S w w1)(d:∀b,F b->¬S b):eF w1 g ev n s F C X:=
 {h with str:=h.str.aA c (λb a=>d b (h.fe b a)),lt:=λb a=>NL (h.lt b a) c.size}
def qQ.aA{S:Nat->Prop}(h:qQ w g ev n s F)(c:aj S w w1)(a:∀b,F b->¬S b):qQ w1 g ev n s F:=by obtain ⟨C,X,h⟩:=h;exact ⟨C,X,h.aA c a⟩
def qQ.af(h:qQ w g ev n s F)(a:BW w w1):qQ w1 g ev n s F:=
 h.aA (aj.aF a) (λb hF=>by obtain ⟨C,X,h⟩:=h;have:=h.lt b hF;omega)
def qQ.drew(h:qQ w g ev n s F):qQ w.drew g ev n s F:=h.af (Nx _ _).drew
def eF.drew(h:eF w g ev n s F C X):eF w.drew g ev n s F C X:=h.aA (S:=λ_=>False) (aj.refl _ w).drew (λ_ _ h=>h)
def gW.refl(h:qQ w g ev n s F):gW g ev n s F w w:=⟨F,h,aj.refl _ _,λ_ h=>.inl h⟩
def gW.trans{f j:St}{l:WD}(h:gW g ev n f F w w1)(k:∀c,qQ w1 g ev n f c->gW g ev n j c w1 l):gW g ev n j F w l:=by obtain ⟨m,p,d,e⟩:=h;obtain ⟨o,r,t,u⟩:=k m p;have x:=d.size;exact ⟨o,r,d.then t (λi v hF=>(e i hF).elim id (λa=>by omega)),λb q=>(u b q).elim (λhF=>e b hF) (λa=>.inr (by omega))⟩
def eF.arr(h:eF w g ev n s F C X)(k:Nat)(j:GA k)(p:(X k).length=n)(q:0<n):
 ∃b c,C k=SV b n c/\(∀i,i<n->w.cell? (AD b i)=(X k)[i]? /\FZ w b i)/\b≠g:=by
 obtain ⟨a,c,e,_,_,_,f⟩:=h.str.val k j
 rw [p]at e f
 obtain ⟨b,rfl,_,_⟩:=f 0 q
 refine ⟨b,c,e,λi o=>?_,λd=>h.str.off k j (by rw [e,d];rfl)⟩
 obtain ⟨r,d,l,m⟩:=f i o
 cases d
 exact ⟨l,m⟩
def eF.LU(h:eF w g ev n s F C X)(m:Nat):eF (w.setCell (AD g 8) (IV m)) g ev n {s with cO:=m} F (up C 8 (IV m)) X where
 str:=h.str.plain 8 (by decide) (λd=>by have:=d.2;omega) _
 eB:=by rw [an _ _ _ _ (by decide)];exact h.eB
 cO:=aB _ _ _
 aW:=h.aW
 bL:=h.bL
 next:=h.next
 aS:=h.aS
 cR:=h.cR
 aT:=h.aT
 part:=h.part
 fe b a:=h.fe b (Cu (λk c=>by have:=c.2;omega) _ b a)
 lt b a:=by have:=h.lt b a;simpa [World.setCell]using this
def eF.LV(h:eF w g ev n s F C X){b c m:Nat}(a:C 1=SV b m c)(y v:Nat)(e:y<n):
 eF (w.setCell (AD b y) (IV v)) g ev n {s with aW:=up s.aW y v} F C (up X 1 ((X 1).set y (IV v)))where
 str:=h.str.elem 1 ⟨by decide,by decide⟩ a y _
 eB:=h.eB
 cO:=h.cO
 aW:=by rw [aB,h.aW,j5 _ _ _ _ e]
 bL:=by rw [an _ _ _ _ (by decide)];exact h.bL
 next:=by rw [an _ _ _ _ (by decide)];exact h.next
 aS:=by rw [an _ _ _ _ (by decide)];exact h.aS
 cR:=by rw [an _ _ _ _ (by decide)];exact h.cR
 aT:=by rw [an _ _ _ _ (by decide)];exact h.aT
 part:=by rw [an _ _ _ _ (by decide)];exact h.part
 fe:=h.fe
 lt b d:=by have:=h.lt b d;simpa [World.setCell]using this
def eF.IU(h:eF w g ev n s F C X){b c m:Nat}(a:C 2=SV b m c)(y v:Nat)(e:y<n):
 eF (w.setCell (AD b y) (IV v)) g ev n {s with bL:=up s.bL y v} F C (up X 2 ((X 2).set y (IV v)))where
 str:=h.str.elem 2 ⟨by decide,by decide⟩ a y _
 eB:=h.eB
 cO:=h.cO
 aW:=by rw [an _ _ _ _ (by decide)];exact h.aW
 bL:=by rw [aB,h.bL,j5 _ _ _ _ e]
 next:=by rw [an _ _ _ _ (by decide)];exact h.next
 aS:=by rw [an _ _ _ _ (by decide)];exact h.aS
 cR:=by rw [an _ _ _ _ (by decide)];exact h.cR
 aT:=by rw [an _ _ _ _ (by decide)];exact h.aT
 part:=by rw [an _ _ _ _ (by decide)];exact h.part
 fe:=h.fe
 lt b d:=by have:=h.lt b d;simpa [World.setCell]using this
def eF.Kt(h:eF w g ev n s F C X){b c m:Nat}(a:C 3=SV b m c)(y v:Nat)(e:y<n):
 eF (w.setCell (AD b y) (IV v)) g ev n {s with next:=up s.next y v} F C (up X 3 ((X 3).set y (IV v)))where
 str:=h.str.elem 3 ⟨by decide,by decide⟩ a y _
 eB:=h.eB
 cO:=h.cO
 aW:=by rw [an _ _ _ _ (by decide)];exact h.aW
 bL:=by rw [an _ _ _ _ (by decide)];exact h.bL
 next:=by rw [aB,h.next,j5 _ _ _ _ e]
 aS:=by rw [an _ _ _ _ (by decide)];exact h.aS
 cR:=by rw [an _ _ _ _ (by decide)];exact h.cR
 aT:=by rw [an _ _ _ _ (by decide)];exact h.aT
 part:=by rw [an _ _ _ _ (by decide)];exact h.part
 fe:=h.fe
 lt b d:=by have:=h.lt b d;simpa [World.setCell]using this
def eF.Ku(h:eF w g ev n s F C X){b c m:Nat}(a:C 7=SV b m c)(y v:Nat)(e:y<n):
 eF (w.setCell (AD b y) (IV v)) g ev n {s with part:=up s.part y v} F C (up X 7 ((X 7).set y (IV v)))where
 str:=h.str.elem 7 ⟨by decide,by decide⟩ a y _
 eB:=h.eB
 cO:=h.cO
 aW:=by rw [an _ _ _ _ (by decide)];exact h.aW
 bL:=by rw [an _ _ _ _ (by decide)];exact h.bL
 next:=by rw [an _ _ _ _ (by decide)];exact h.next
 aS:=by rw [an _ _ _ _ (by decide)];exact h.aS
 cR:=by rw [an _ _ _ _ (by decide)];exact h.cR
 aT:=by rw [an _ _ _ _ (by decide)];exact h.aT
 part:=by rw [aB,h.part,j5 _ _ _ _ e]
 fe:=h.fe
 lt b d:=by have:=h.lt b d;simpa [World.setCell]using this
def eF.IT(h:eF w g ev n s F C X){b c m:Nat}(a:C 6=SV b m c)(y:Nat)(v:Bool)(e:y<n):
 eF (w.setCell (AD b y) (.bool v)) g ev n {s with aT:=up s.aT y v} F C (up X 6 ((X 6).set y (.bool v)))where
 str:=h.str.elem 6 ⟨by decide,by decide⟩ a y _
 eB:=h.eB
 cO:=h.cO
 aW:=by rw [an _ _ _ _ (by decide)];exact h.aW
 bL:=by rw [an _ _ _ _ (by decide)];exact h.bL
 next:=by rw [an _ _ _ _ (by decide)];exact h.next
 aS:=by rw [an _ _ _ _ (by decide)];exact h.aS
 cR:=by rw [an _ _ _ _ (by decide)];exact h.cR
 aT:=by rw [aB,h.aT,ky _ _ _ _ e]
 part:=by rw [an _ _ _ _ (by decide)];exact h.part
 fe:=h.fe
 lt b d:=by have:=h.lt b d;simpa [World.setCell]using this
def eF.pair(h:eF w g ev n s F C X){v u:Value}{y:Nat}(m:aj (λk=>(C 4).ownBlock=some k\/(C 5).ownBlock=some k) w w1)
 (r:Sl w1 3 v ((bI s.aS).length+1) (bI s.aS++[IV y])) (p:dC w (C 4) v)
 (t:Sl w1 3 u ((bI s.cR).length+1) (bI s.cR++[IV y])) (q:dC w (C 5) u) (f:∀k,v.ownBlock=some k->u.ownBlock≠some k):
 gW g ev n {s with aS:=s.aS++[y],cR:=s.cR++[y]} F w ((w1.setCell (AD g 4) v).setCell (AD g 5) u):=by
 have i:GA 4:=⟨by decide,by decide⟩
 have j:GA 5:=⟨by decide,by decide⟩
 have o:=h.str.two 4 5 i j (by decide) v u (bI (s.aS++[y])) (bI (s.cR++[y])) m (by rw [kG,Pj];exact r) (by rw [kG,Pj];exact t) p q f
 have a:=Hc (g:=g) 4 5 i j v u p q
 have hF:∀b,eN GA g (up (up C 4 v) 5 u) b->F b\/w.heap.size<=b:=λb c=>(a b c).imp (h.fe b) id
 have d:aj F w w1:=m.mono λk _ e=>e.elim (λe=>h.fe k (.inr ⟨4,i,e⟩)) (λe=>h.fe k (.inr ⟨5,j,e⟩))
 have l:F g:=h.fe g (.inl rfl)
 refine ⟨_,⟨_,_,{
  str:=o
  eB:=by rw [an _ _ _ _ (by decide),an _ _ _ _ (by decide)];exact h.eB
  cO:=by rw [an _ _ _ _ (by decide),an _ _ _ _ (by decide)];exact h.cO
  aW:=by rw [an _ _ _ _ (by decide),an _ _ _ _ (by decide)];exact h.aW
  bL:=by rw [an _ _ _ _ (by decide),an _ _ _ _ (by decide)];exact h.bL
  next:=by rw [an _ _ _ _ (by decide),an _ _ _ _ (by decide)];exact h.next
  aS:=by rw [an _ _ _ _ (by decide),aB]
  cR:=aB _ _ _
  aT:=by rw [an _ _ _ _ (by decide),an _ _ _ _ (by decide)];exact h.aT
  part:=by rw [an _ _ _ _ (by decide),an _ _ _ _ (by decide)];exact h.part
  fe:=λb c=>c
  lt:=o.kB}⟩,(d.setCell (λ_=>l) _).setCell (λ_=>l) _,hF⟩
def gW.of{a:St}(h:eF w g ev n s F C X){b:Nat->Value}{c:Nat->List Value}(d:eF w1 g ev n a F b c)(e:aj F w w1):gW g ev n a F w w1:=⟨F,⟨_,_,d⟩,e,λ_ h=>.inl h⟩
def eF.G7(h:eF w g ev n s F C X){a:OA}{m c:Nat}(l:C 4=.slice a m c)(k:Nat)(u:k<=s.aS.length):
 eF (w.setCell (AD g 4) (.slice a k c)) g ev n {s with aS:=s.aS.take k} F (up C 4 (.slice a k c)) (up X 4 (bI (s.aS.take k))):=by
 have r:GA 4:=⟨by decide,by decide⟩
 have i:=h.str.cK 4 r
 rw [h.aS,bW,l]at i
 have x:m=s.aS.length:=by have:=dT i;omega
 subst x
 have t:=wS i u
 rw [<-rm]at t
 have d:∀(a:OA)(p q c:Nat),(Value.slice a p c).ownBlock=(Value.slice a q c).ownBlock:=λa p q c=>by cases a<;>rfl
 have y:=h.str.slice (w1:=w) 4 r (.slice a k c) (bI (s.aS.take k)) (by rw [bW,Pd,RD u];exact t) (aj.refl _ _) (.inl (by rw [l];exact d _ _ _ _))
 exact {
  str:=y
  eB:=by rw [an _ _ _ _ (by decide)];exact h.eB
  cO:=by rw [an _ _ _ _ (by decide)];exact h.cO
  aW:=by rw [an _ _ _ _ (by decide)];exact h.aW
  bL:=by rw [an _ _ _ _ (by decide)];exact h.bL
  next:=by rw [an _ _ _ _ (by decide)];exact h.next
  aS:=aB _ _ _
  cR:=by rw [an _ _ _ _ (by decide)];exact h.cR
  aT:=by rw [an _ _ _ _ (by decide)];exact h.aT
  part:=by rw [an _ _ _ _ (by decide)];exact h.part
  fe:=λb o=>h.fe b (by rcases o with rfl|⟨j,v,e⟩;exact .inl rfl;by_cases f:j=4;subst f;rw [aB]at e;exact .inr ⟨4,r,by rw [l,d a _ k c];exact e⟩;rw [an _ _ _ _ f]at e;exact .inr ⟨j,v,e⟩)
  lt:=λb o=>by have:=h.lt b o;simpa [World.setCell]using this}
def eF.Ln(h:eF w g ev n s F C X){a:OA}{m c:Nat}(l:C 5=.slice a m c)(k:Nat)(u:k<=s.cR.length):
 eF (w.setCell (AD g 5) (.slice a k c)) g ev n {s with cR:=s.cR.take k} F (up C 5 (.slice a k c)) (up X 5 (bI (s.cR.take k))):=by
 have r:GA 5:=⟨by decide,by decide⟩
 have i:=h.str.cK 5 r
 rw [h.cR,bW,l]at i
 have x:m=s.cR.length:=by have:=dT i;omega
 subst x
 have t:=wS i u
 rw [<-rm]at t
 have d:∀(a:OA)(p q c:Nat),(Value.slice a p c).ownBlock=(Value.slice a q c).ownBlock:=λa p q c=>by cases a<;>rfl
 have y:=h.str.slice (w1:=w) 5 r (.slice a k c) (bI (s.cR.take k)) (by rw [bW,Pd,RD u];exact t) (aj.refl _ _) (.inl (by rw [l];exact d _ _ _ _))
 exact {
  str:=y
  eB:=by rw [an _ _ _ _ (by decide)];exact h.eB
  cO:=by rw [an _ _ _ _ (by decide)];exact h.cO
  aW:=by rw [an _ _ _ _ (by decide)];exact h.aW
  bL:=by rw [an _ _ _ _ (by decide)];exact h.bL
  next:=by rw [an _ _ _ _ (by decide)];exact h.next
  aS:=by rw [an _ _ _ _ (by decide)];exact h.aS
  cR:=aB _ _ _
  aT:=by rw [an _ _ _ _ (by decide)];exact h.aT
  part:=by rw [an _ _ _ _ (by decide)];exact h.part
  fe:=λb o=>h.fe b (by rcases o with rfl|⟨j,v,e⟩;exact .inl rfl;by_cases f:j=5;subst f;rw [aB]at e;exact .inr ⟨5,r,by rw [l,d a _ k c];exact e⟩;rw [an _ _ _ _ f]at e;exact .inr ⟨j,v,e⟩)
  lt:=λb o=>by have:=h.lt b o;simpa [World.setCell]using this}
def eF.xZ(h:eF w g ev n s F C X)(k:Nat)(o:GA k){b m c:Nat}(f:C k=SV b m c)(i:Nat)(l:i<(X k).length):w.cell? (AD b i)=(X k)[i]? /\FZ w b i:=by
 obtain ⟨p,r,e,_,_,_,j⟩:=h.str.val k o;rw [f]at e;cases e
 obtain ⟨q,a,d⟩:=j i l;cases a
 exact d
end
end
def Oi:=@Go.Lib.hid
def Pb:=@List.getElem?_cons_succ
def Pn:=@List.getElem?_cons_zero
def Pu:=@List.getElem?_toArray
def PK:=@Option.some.injEq
def Qd:=@Go.Proofs.Tryz.underlying33
def QU:=@List.setIfInBounds_toArray
def RL:=@List.set_cons_succ
def RM:=@List.set_cons_zero
def Sc:=@List.not_mem_nil
def S6:=@Go.info_parts
def Tryz.ed:(Tryz.prog.info? 3).map (λi=>(i.zero,i.size,i.bytes))=some (some (IV 0),1,8):=by kernel_rfl
def Ek{w:WD}{p q:Addr}{v u:Value}(a:q≠p)(h:w.cell? q=some u)(b:w.frozen? q=false):(w.setCell p v).cell? q=some u/\(w.setCell p v).frozen? q=false:=by refine ⟨?_,by rw [OH];exact b⟩;rw [Oc _ _ _ _ (P4 a)];exact h
def G5(g:Nat)(ev:Value)(n:Nat)(s:St)(F:Nat->Prop)(w:WD)(h:qQ w g ev n s F)(y:Nat)(hy:y<n)(hn:n<=1000000000)(hc:s.cO<=1000000000)(aH:s.aS.length<=1000000000)(hw:s.cR.length<=1000000000):
 Calls Tryz.prog 157 #[PT g,IV y] w λe r=>e=RT (.tuple #[])/\gW g ev n (s.fU y) F w r:=by
 obtain ⟨C,X,h⟩:=h
 obtain ⟨i0,ai,al,am,an⟩:=S6 Tryz.ed
 have c8:=h.str.cell 8 (by decide)
 rw [h.cO]at c8
 have f8:=h.str.mB 8
 have h1:=h.LU (s.cO+1)
 have k1:aj F w (w.setCell (AD g 8) (IV ((s.cO+1:Nat):Int))):=(aj.refl F w).setCell (λ_=>h.fe g (.inl rfl)) _
 have t:=Oi h1
 have K1:=Oi k1
 have A:=Oi hy
 have aJ:(y:Int)<(n:Int):=by omega
 have e1:Hid (((s.cO+1:Nat):Int)=(s.cO:Int)+1):=by show _=_;omega
 rw [e1.o]at t K1
 clear h h1 k1
 go_enter Tryz.func157,Tryz.ntmps157
 go_wp2_with fail
 generalize w.setCell (AD g 8) (IV ((s.cO:Int)+1))=w1 at *
 clear c8 f8
 generalize up C 8 (IV ((s.cO:Int)+1))=C1 at *
 have c8:=t.o.str.cell 8 (by decide)
 rw [t.o.cO]at c8
 have ae:w1.cell? (AD g 8)=some (IV ((s.cO:Int)+1)):=by rw [c8];rfl
 clear c8
 obtain ⟨J,d1,E1,af,_⟩:=t.o.arr 1 ⟨by decide,by decide⟩ (by rw [t.o.aW,cV]) (by have:=A.o;omega)
 obtain ⟨b2,d2,E2,ag,_⟩:=t.o.arr 2 ⟨by decide,by decide⟩ (by rw [t.o.bL,cV]) (by have:=A.o;omega)
 have c1:=t.o.str.cell 1 (by decide)
 have c2:=t.o.str.cell 2 (by decide)
 rw [E1]at c1
 rw [E2]at c2
 have y1:=af y A.o
 have y2:=ag y A.o
 rw [t.o.aW,dX _ _ _ A.o]at y1
 rw [t.o.bL,dX _ _ _ A.o]at y2
 obtain ⟨aD,aE⟩:=y1
 obtain ⟨ap,aq⟩:=y2
 have N:J≠b2:=λe=>by have:=t.o.str.apart 1 2 J ⟨by decide,by decide⟩ ⟨by decide,by decide⟩ (by rw [E1];rfl) (by rw [E2,e];rfl);omega
 obtain ⟨aF,aG⟩:=Ek (v:=IV ((s.cO:Int)+1)) (p:=(AD J y)) (λe=>N (by cases e;rfl)) ap aq
 have R:=Oi E1
 have T:=Oi E2
 clear E1 E2 af ag N
 refine av 19 (S:=λr=>r.cell? (AD g 1)=some (SV J n d1)/\r.cell? (AD g 2)=some (SV b2 n d2)/\r.cell? (AD g 8)=some (IV ((s.cO:Int)+1))) (by kernel_rfl) (⟨c1,c2,ae⟩) (λa=>?_)
 refine' az 0 ?_
 refine' az 1 ?_
 refine' az 2 ?_
 refine' az 3 ?_
 refine' az 4 ?_
 refine' az 5 ?_ [8,7,6,5]
 refine' az 6 ?_ [8,7,6]
 refine' az 7 ?_ [8,7]
 refine' az 8 ?_
 refine' bc (i:=9) (v:=_) rfl (by kernel_rfl) (λ_ _ _ h=>h) (Or.inl ⟨by rfl,?hy9⟩) (by assumption) ?rest9
 case hy9=>(intro r aa;go_simp;(try with_reducible rfl))
 try walk_nrm
 refine' az 10 ?_
 refine' az 11 ?_
 refine' az 12 ?_
 refine' az 13 ?_
 refine' az 14 ?_ [17,16,15,14]
 refine' az 15 ?_ [17,16,15]
 refine' az 16 ?_ [17,16]
 refine' az 17 ?_
 refine' az 18 ?_
 refine aI 19 λK c=>?_
 go_simp
 refine c.o _ _ (λe=>nomatch e) ?_
 clear c K
 try walk_nrm
 refine aI 20 λK c=>?_
 go_simp
 refine c.o _ _ (λe=>nomatch e) ?_
 clear c K
 try walk_nrm
 refine aI 21 λK c=>?_
 go_simp
 refine c.o _ _ (λe=>nomatch e) ?_
 clear c K
 try walk_nrm
 refine ay (by kernel_rfl) ?_
 have H2:Hid (∃X',eF ((w1.setCell (AD J y) (IV ((s.cO:Int)+1))).setCell (AD b2 y) (IV ((s.cO:Int)+1))).drew g ev n {s with aW:=up s.aW y (s.cO+1),bL:=up s.bL y (s.cO+1),cO:=s.cO+1} F C1 X'):=by have a1:=t.o.LV R.o y (s.cO+1) A.o;have a2:=a1.IU T.o y (s.cO+1) A.o;rw [e1.o]at a2;exact ⟨_,a2.drew⟩
 have K2:Hid (aj F w1 ((w1.setCell (AD J y) (IV ((s.cO:Int)+1))).setCell (AD b2 y) (IV ((s.cO:Int)+1))).drew):=
  (((aj.refl F w1).setCell (λ_=>t.o.fe J (.inr ⟨1,⟨by decide,by decide⟩,by rw [R.o];rfl⟩)) _).setCell (λ_=>t.o.fe b2 (.inr ⟨2,⟨by decide,by decide⟩,by rw [T.o];rfl⟩)) _).drew
 clear a ae c1 c2 aD aE ap aq aF aG R T t
 generalize ((w1.setCell (AD J y) (IV ((s.cO:Int)+1))).setCell (AD b2 y) (IV ((s.cO:Int)+1))).drew=w2 at *
 obtain ⟨X2,h2⟩:=H2.o
 have m:=Oi h2
 clear h2 H2
 obtain ⟨H,L,E4,_,_,_,_⟩:=m.o.str.val 4 ⟨by decide,by decide⟩
 obtain ⟨I,M,E5,_,_,_,_⟩:=m.o.str.val 5 ⟨by decide,by decide⟩
 have o4:=m.o.str.cK 4 ⟨by decide,by decide⟩
 have o5:=m.o.str.cK 5 ⟨by decide,by decide⟩
 have Y:=m.o.str.cell 4 (by decide)
 have c5:=m.o.str.cell 5 (by decide)
 have l4:(X2 4).length=s.aS.length:=by rw [m.o.aS,bW]
 have l5:(X2 5).length=s.cR.length:=by rw [m.o.cR,bW]
 rw [E4]at Y o4
 rw [E5]at c5 o5
 rw [l4]at Y
 rw [l5]at c5
 have B:Hid (C1 4=.slice H s.aS.length L):=by rw [l4]at E4;exact E4
 have D:Hid (C1 5=.slice I s.cR.length M):=by rw [l5]at E5;exact E5
 have ab:Hid (∀k,(Value.slice H s.aS.length L).ownBlock=some k->(Value.slice I s.cR.length M).ownBlock≠some k):=λk h1 h2=>by have:=m.o.str.apart 4 5 k ⟨by decide,by decide⟩ ⟨by decide,by decide⟩ (by rw [B.o];exact h1) (by rw [D.o];exact h2);omega
 have d:Hid ((Value.slice H s.aS.length L).ownBlock≠some g):=by rw [<-B.o];exact m.o.str.off 4 ⟨by decide,by decide⟩
 have f:Hid ((Value.slice I s.cR.length M).ownBlock≠some g):=by rw [<-D.o];exact m.o.str.off 5 ⟨by decide,by decide⟩
 have U:Hid (Sl w2 3 (.slice H s.aS.length L) (bI s.aS).length (bI s.aS)):=by have:=o4;rw [l4,m.o.aS]at this;rw [bW];exact this
 have W:Hid (Sl w2 3 (.slice I s.cR.length M) (bI s.cR).length (bI s.cR)):=by have:=o5;rw [l5,m.o.cR]at this;rw [bW];exact this
 have u:Hid (∀k,(Value.slice H s.aS.length L).ownBlock=some k->k<w2.heap.size):=λk e=>U.o.lt k e
 have x:Hid (∀k,(Value.slice I s.cR.length M).ownBlock=some k->k<w2.heap.size):=λk e=>W.o.lt k e
 clear o4 o5 l4 l5 E4 E5
 have P:=Oi Y
 have Q:=Oi c5
 go_wp2_with fail
 refine av 18 (S:=λr=>r.cell? (AD g 4)=some (.slice H s.aS.length L)/\r.cell? (AD g 5)=some (.slice I s.cR.length M)) (by kernel_rfl) (⟨Y,c5⟩) (λa=>?_)
 refine' az 0 ?_
 refine' az 2 ?_
 refine' az 3 ?_
 refine' az 4 ?_
 refine' az 5 ?_
 refine' az 6 ?_
 refine' az 9 ?_ [12,11,10,9]
 refine' az 10 ?_ [12,11,10]
 refine' az 11 ?_ [12,11]
 refine' az 12 ?_
 refine' az 13 ?_ [15,14,13]
 refine' bc (i:=1) (v:=_) rfl (by kernel_rfl) (λ_ _ _ h=>h) (Or.inl ⟨by rfl,?hyb1⟩) (by assumption) ?restb1
 case hyb1=>(intro r aa;go_simp;(try with_reducible rfl))
 try walk_nrm
 refine mj [7,8,14,15] (λi=>if i=7 then 38 else if i=8 then 39 else if i=14 then 45 else 46) #[true,true,true,true,true,true,true,true,true,true,true,true,true,true,true,true,false,false,false,false,false,false] 6
  (λl V w=>l.size=22/\kY 7 8 14 15 38 39 45 46 3 w2 (.slice H s.aS.length L) (.slice I s.cR.length M) (bI s.aS) (bI s.cR) (IV y) l V w) (by kernel_rfl) (by kernel_rfl) rfl ?c1 ?c2 ?c3 ?c4
 case c1=>exact ⟨by kernel_rfl,kY.aK (aj.refl _ w2).drew U.o W.o (by kernel_rfl) (by kernel_rfl) (by kernel_rfl) (by kernel_rfl)⟩
 case c2=>rintro l V w ⟨_,j⟩;exact ⟨j.aA.aq P.o (λe=>e.elim d.o f.o),j.aA.aq Q.o (λe=>e.elim d.o f.o)⟩
 case c3=>
  rintro l V w i o hl aA hi O hr ⟨z,j⟩ K c;clear a Y c5;simp only [N8,Sc,or_false]at hi;rcases hi with rfl|rfl|rfl|rfl
  ·simp only [Pu,Pb,Pn,PK]at O;subst O
   refine bT (v:=SV w.heap.size 1 1) (w':=w.alloc (.cells #[IV y] 3)) ?_ (c _ _ ⟨by rw [O0];exact z,j.laid u.o x.o (.inl ⟨rfl,rfl⟩) (by decide) (by decide) (by decide) (by decide) (by decide) (by decide)⟩);clear c;simp only [NQ,NZ,aP,Act.put,QU,RM,RL];go_simp
  ·have G:=aU (l:=[5,7]) (by kernel_rfl) hr;have h8:=mO (qz hr)
   obtain ⟨q,ac,ad,_⟩:=j.Mr (G 7 (by simp)) h8;have E:l.getD 15 false=false:=by
    by_cases hb:l.getD 15 false=true
    ·have:=mM aA [8] 15 (by kernel_rfl) hb;rw [show qo 15 [8]=8 from rfl,h8]at this;cases this
    ·simpa using hb
   simp only [Pu,Pb,Pn,PK]at O;subst O;refine gz (.tmp 36) (.tmp 38) 33 rfl 3 i0 (IV 0) 8 Qd ai al am an rfl (by decide) (.slice H s.aS.length L) _ _ rfl (j.Mv h8) (AD q 0) (IV y) rfl ?_ ad (by rw [bW];omega)
    (λv' r k1 k2 k3=>c v' r ⟨by rw [O0];exact z,j.first u.o ab.o (by rw [z];decide) E (by decide) (by decide) (by decide) (by decide) (by decide) k1 k2 k3⟩)
   exact ac
  ·simp only [Pu,Pb,Pn,PK]at O;subst O
   refine bT (v:=SV w.heap.size 1 1) (w':=w.alloc (.cells #[IV y] 3)) ?_ (c _ _ ⟨by rw [O0];exact z,j.laid u.o x.o (.inr ⟨rfl,rfl⟩) (by decide) (by decide) (by decide) (by decide) (by decide) (by decide)⟩);clear c;simp only [NQ,NZ,aP,Act.put,QU,RM,RL];go_simp
  ·have G:=aU (l:=[8,14]) (by kernel_rfl) hr;have E:=mO (qz hr)
   obtain ⟨q,ac,ad,_⟩:=j.LD (G 14 (by simp)) E;simp only [Pu,Pb,Pn,PK]at O;subst O;refine gz (.tmp 43) (.tmp 45) 33 rfl 3 i0 (IV 0) 8 Qd ai al am an rfl (by decide) (.slice I s.cR.length M) _ _ rfl (j.LM E) (AD q 0) (IV y) rfl ?_ ad (by rw [bW];omega)
    (λv' r k1 k2 k3=>c v' r ⟨by rw [O0];exact z,j.second x.o ab.o (by rw [z];decide) (G 8 (by simp)) (by decide) (by decide) (by decide) (by decide) k1 k2 k3⟩)
   exact ac
 case c4=>
  rintro V wz ⟨_,j⟩;change dk _ _ _ _ _ _ _ _ (aP _ [38,39,45,46] V) wz;simp only [NQ,NZ,aP,Act.put,QU,RM,RL];obtain ⟨n1,m1⟩:=j.A8 rfl;obtain ⟨n2,m2,ak⟩:=j.A9 rfl;have q4:=j.aA.aq P.o (λe=>e.elim d.o f.o);have q5:=j.aA.aq Q.o (λe=>e.elim d.o f.o);have p4:=(N7 (j.aA.block g m.o.str.lt (λe=>e.elim d.o f.o))).trans (m.o.str.mB 4);have p5:=(N7 (j.aA.block g m.o.str.lt (λe=>e.elim d.o f.o))).trans (m.o.str.mB 5);have HK:=Oi j.aA;clear a Y c5 j;generalize V 39=aL at *;generalize V 46=aN at *;generalize V 38=aK at *;generalize V 45=aM at *;obtain ⟨ar,aw,rfl,_⟩:=n1.shape;obtain ⟨au,ax,rfl,_⟩:=n2.shape;have HD:=Oi (m.o.pair (by rw [B.o,D.o];exact HK.o) n1 (by rw [B.o];exact m1) n2 (by rw [D.o];exact m2) ak);clear n1 m1 n2 m2 ak;have a:=And.intro q4 q5;refine' bc (i:=16) (v:=_) rfl (by kernel_rfl) (λ_ _ _ h=>h) (Or.inl ⟨by rfl,?hyc16⟩) (by assumption) ?restc16;case hyc16=>(intro r aa;go_simp;(try with_reducible rfl))
  try walk_nrm
  refine' bc (i:=17) (v:=_) rfl (by kernel_rfl) (λ_ _ _ h=>h) (Or.inl ⟨by rfl,?hyc17⟩) (by assumption) ?restc17;case hyc17=>(intro r aa;go_simp;(try with_reducible rfl))
  try walk_nrm
  refine aI 18 λK c=>?_;go_simp;refine c.o _ _ (λe=>nomatch e) ?_;clear c K;try walk_nrm
  refine aI 19 λK c=>?_;go_simp;refine c.o _ _ (λe=>nomatch e) ?_;clear c K;try walk_nrm
  refine aI 20 λK c=>?_;go_simp;refine c.o _ _ (λe=>nomatch e) ?_;clear c K;try walk_nrm
  refine aI 21 λK c=>?_;go_simp;refine c.o _ _ (λe=>nomatch e) ?_;clear c K;try walk_nrm
  refine ay (by kernel_rfl) ?_;clear a q4 q5 p4 p5 HK P Q U W d f u x ab B D m;generalize (wz.setCell (AD g 4) (.slice ar ((bI s.aS).length+1) aw)).setCell (AD g 5) (.slice au ((bI s.cR).length+1) ax)=w3 at *;obtain ⟨F3,⟨C3,X3,Z⟩,k3,f3⟩:=HD.o;clear HD;obtain ⟨b6,d6,E6,ah,_⟩:=Z.arr 6 ⟨by decide,by decide⟩ (by rw [Z.aT,dU]) (by have:=A.o;omega);have c6:=Z.str.cell 6 (by decide);rw [E6]at c6;have y6:=ah y A.o;rw [Z.aT,fw _ _ _ A.o]at y6;obtain ⟨aO,aQ⟩:=y6;have h4:=Z.IT E6 y true A.o;have HF:Hid (gW g ev n (s.fU y) F w (w3.setCell (AD b6 y) (.bool true))):=by have ao:=K1.o.trans K2.o;have hs:=ao.size;refine ⟨F3,⟨_,_,h4⟩,(ao.trans k3).setCell (λaC=>?_) _,λb hb=>(f3 b hb).imp id (λaB=>by omega)⟩;exact (f3 b6 (Z.fe b6 (.inr ⟨6,⟨by decide,by decide⟩,by rw [E6];rfl⟩))).elim id (λaB=>by have:b6<w.heap.size:=aC;omega)
  clear Z h4 E6 ah k3 f3 K1 K2;go_wp2;go_end0;exact ⟨rfl,HF.o⟩
def Q5:=@List.drop_succ_cons
def Q7:=@List.take_succ_cons
def RK:=@List.drop_zero
def SG:=@Go.wpQuiet_nil
def Fw(g q:Nat)(i:Value)(n:Nat)(s:St)(F:Nat->Prop)(w:WD)(h:qQ w g i n s F)(H:CA w q 0 (PT g))(x m:Nat)(o:x<n):
 Calls Tryz.prog 158 #[IV x,IV m,PT q] w λe B=>e=RT (.tuple #[])/\gW g i n (s.lower x m) F w B:=by
 obtain ⟨C,X,h⟩:=h
 obtain ⟨p,G,c,a,_⟩:=h.arr 2 ⟨by decide,by decide⟩ (by rw [h.bL,cV]) (by omega)
 have t:=h.str.cell 2 (by decide)
 rw [c]at t
 have r:=a x o
 rw [h.bL,dX _ _ _ o]at r
 obtain ⟨D,E⟩:=r
 have A:(x:Int)<(n:Int):=by omega
 have b:Hid (∀v:Nat,min (s.bL x) m=v->gW g i n (s.lower x m) F w (w.setCell (AD p x) (IV v)).drew):=by rintro v rfl;have u:=h.IU c x (min (s.bL x) m) o;exact gW.of h u.drew ((aj.refl F w).setCell (λ_=>h.fe p (.inr ⟨2,⟨by decide,by decide⟩,by rw [c];rfl⟩)) _).drew
 clear h c a
 rcases O8 m (s.bL x)with k|j
 ·have f:=Oi (b.o m (by omega));have y:(m:Int)<(s.bL x:Int):=by omega
  have z:(m:Int)<=(s.bL x:Int):=by omega
  clear k;generalize s.bL x=d at *;have l:min (d:Int) (m:Int)=(m:Int):=by omega
  go_enter Tryz.func158,Tryz.ntmps158;go_wp2_with fail;refine dH 14 (by kernel_rfl) (by kernel_rfl) ?_;simp only [Q7,PQ,Q5,RK];repeat(go_big_quiet_step (fail))
  refine SG ?_;go_wp2;go_end0;exact ⟨rfl,f.o⟩
 ·have f:=Oi (b.o (s.bL x) (by omega));have y:(s.bL x:Int)<=(m:Int):=by omega
  clear j;generalize s.bL x=d at *;have l:min (d:Int) (m:Int)=(d:Int):=by omega
  go_enter Tryz.func158,Tryz.ntmps158;go_wp2_with fail;refine dH 14 (by kernel_rfl) (by kernel_rfl) ?_;simp only [Q7,PQ,Q5,RK];repeat(go_big_quiet_step (fail))
  refine SG ?_;go_wp2;go_end0;exact ⟨rfl,f.o⟩
def pB:List Nat->Nat
 |[]=>0
 |x::l=>l.foldl min x
def nD:∀(l:List Nat)(x:Nat),(l.foldl min x=x\/l.foldl min x∈l)/\l.foldl min x<=x/\∀v∈l,l.foldl min x<=v
 |[],x=>⟨.inl rfl,Nz _,λv b=>by cases b⟩
 |y::l,x=>by obtain ⟨a,d,c⟩:=nD l (min x y);rw [List.foldl_cons];refine ⟨?_,by omega,λv b=>?_⟩;rcases a with a|a;rw [a];rcases Nat.le_total x y with h|h;left;omega;right;rw [Ta h];exact Ok;exact .inr (Ot _ a);rcases N8.1 b with rfl|b;omega;exact c v b
def A1(x:Nat)(l:List Nat):pB (x::l)∈x::l:=by rcases (nD l x).1 with h|h;show l.foldl min x∈x::l;rw [h];exact Ok;exact Ot _ h
def J8(x:Nat)(l:List Nat):∀v∈x::l,pB (x::l)<=v:=by intro v a;rcases N8.1 a with rfl|a;exact (nD l v).2.1;exact (nD l x).2.2 v a
def FD(l:List Nat)(k:Nat)(b:0<k)(h:k<l.length):pB (l.take (k+1))=min (pB (l.take k)) (l.getD k 0):=by
 match l,k with
 |x::l,k+1=>
  have a:k<l.length:=by simpa using h
  show(l.take (k+1)).foldl min x=min ((l.take k).foldl min x) _;rw [Qw a,List.foldl_append];simp [List.getD,a]
def J9(b f n c:Nat)(l:List Nat)(w:WD)(j:l.length=n)(u:0<n)(D:n<=9223372036854775807)(h:∀i,i<n->CA w b (f+i) (IV ((l.getD i 0:Nat):Int))):
 Calls Tryz.prog 179 #[.slice (some (AD b f)) n c] w λe B=>e=RT (IV ((pB l:Nat):Int))/\w=B:=by
 have o:=Oi j
 have r:=Oi h
 have a:=h 0 u
 rw [Nat.add_zero]at a
 have A:(1:Int)<=(n:Int):=by omega
 have q:(0:Int)<(n:Int):=by omega
 have g:Hid (pB (l.take 1)=l.getD 0 0):=by
  show _=_;cases l with
  |nil=>simp at j;omega
  |cons x l=>rfl
 clear j h
 generalize l.getD 0 0=F at *
 go_enter Tryz.func179,Tryz.ntmps179
 go_wp2
 go_loop [3,4] (λm i=>∃k:Nat,1<=k/\k<=n/\i=IV k/\m=IV ((pB (l.take k):Nat):Int)) (λ_ i=>n-(intOf i).toNat)
 exact ⟨1,Nz _,by omega,rfl,by rw [g.o]⟩
 obtain ⟨k,y,C,rfl,rfl⟩:=hrel
 clear a
 by_cases d:k<n
 have p:(k:Int)<(n:Int):=by omega
 have v:=r.o k d
 have s:=Oi (FD l k (by omega) (by rw [o.o];exact d))
 generalize l.getD k 0=z at *
 generalize pB (l.take k)=E at *
 go_wp2
 go_round
 exact ⟨k+1,by omega,by omega,by go_num,by rw [s.o];go_num⟩
 simp [intOf];omega
 obtain rfl:k=n:=by omega
 have t:Hid (l.take k=l):=Oe (by rw [o.o];exact Nz _)
 go_wp2
 go_ret
 exact ⟨by rw [t.o];rfl,rfl⟩
def O6:=@List.getD_eq_getElem?_getD
def Pk:=@beq_eq_false_iff_ne
def QA:=@List.getElem?_eq_getElem
def QZ:=@List.length_cons
def R9:=@List.getElem_mem
def CF(g:Nat)(d:Value)(n:Nat)(s:St)(F:Nat->Prop)(w:WD)(h:qQ w g d n s F)(x:Nat)(f:x<n)(c:s.bL x≠s.aW x):
 Calls Tryz.prog 159 #[PT g,IV x] w λe z=>e=RT (.tuple #[])/\gW g d n s F w z:=by
 obtain ⟨C,X,h⟩:=h
 obtain ⟨D,G,j,a,_⟩:=h.arr 1 ⟨by decide,by decide⟩ (by rw [h.aW,cV]) (by omega)
 obtain ⟨E,H,l,b,_⟩:=h.arr 2 ⟨by decide,by decide⟩ (by rw [h.bL,cV]) (by omega)
 have o:=h.str.cell 1 (by decide)
 have p:=h.str.cell 2 (by decide)
 rw [j]at o
 rw [l]at p
 have A:=(a x f).1
 have B:=(b x f).1
 rw [h.aW,dX _ _ _ f]at A
 rw [h.bL,dX _ _ _ f]at B
 have y:(x:Int)<(n:Int):=by omega
 have m:Hid (∀q,gW g d n s F w (w.drewN q)):=λq=>⟨F,qQ.af (⟨C,X,h⟩:qQ w g d n s F) (below_drewN w q),aj.mono (aj.aF (below_drewN w q)) (λk I r=>by omega),λ_ h=>.inl h⟩
 have t:((s.bL x:Int)==(s.aW x:Int))=false:=Pk.2 (by omega)
 have i:(s.bL x==s.aW x)=false:=Pk.2 c
 have u:((s.bL x:Int)!=(s.aW x:Int))=true:=by rw [bne,t];rfl
 have v:(s.bL x !=s.aW x)=true:=by rw [bne,i];rfl
 clear h j l a b c
 generalize s.bL x=J at *
 generalize s.aW x=K at *
 go_enter Tryz.func159,Tryz.ntmps159
 go_wp2_with fail
 go_quiet (fail)
 go_wp2
 exact bodyPost_ret (results_none rfl _ _ _) rfl ⟨rfl,m.o _⟩
def FN{l:List Nat}{m:Nat}{p:Nat->Nat}{k:Nat}(h:k<l.length):up (λv=>if v∈l.take k then m else p v) (l.getD k 0) m=λv=>if v∈l.take (k+1)then m else p v:=by
 have e:l.take (k+1)=l.take k++[l.getD k 0]:=by rw [Qw h];simp [List.getD,h]
 funext v;unfold up;rw [e];by_cases b:v=l.getD k 0;subst b;rw [Oa rfl,Oa (by simp)];rw [Of b];by_cases a:v∈l.take k;rw [Oa (Oo _ a)];exact Oa a;rw [Of (c:=v∈l.take k++[l.getD k 0]) (by rw [NY,Nv];rintro (h|h);exact a h;exact b h)];exact Of a
def Ho{l:List Nat}{p:Nat->Bool}{k:Nat}(h:k<l.length):up (λv=>if v∈l.take k then false else p v) (l.getD k 0) false=λv=>if v∈l.take (k+1)then false else p v:=by
 have e:l.take (k+1)=l.take k++[l.getD k 0]:=by rw [Qw h];simp [List.getD,h]
 funext v;unfold up;rw [e];by_cases b:v=l.getD k 0;subst b;rw [Oa rfl,Oa (by simp)];rw [Of b];by_cases a:v∈l.take k;rw [Oa (Oo _ a)];exact Oa a;rw [Of (c:=v∈l.take k++[l.getD k 0]) (by rw [NY,Nv];rintro (h|h);exact a h;exact b h)];exact Of a
def CE(g:Nat)(I:Value)(n:Nat)(s:St)(F:Nat->Prop)(w:WD)(h:qQ w g I n s F)(x:Nat)(A B:List Nat)(hs:s.aS=A++x::B)(ak:x∉B)(D:∀v∈x::B,v<n)(r:s.bL x=s.aW x)(hn:n<=1000000000)(ai:s.aS.length<=1000000000):
 Calls Tryz.prog 159 #[PT g,IV x] w λe w'=>e=RT (.tuple #[])/\gW g I n (s.off s.cR A (x::B) (pB (x::B))) F w w':=by
 obtain ⟨C,X,h⟩:=h
 have hx:x<n:=D x Ok
 have H:=Oi h
 obtain ⟨b1,d1,E1,R,_⟩:=h.arr 1 ⟨by decide,by decide⟩ (by rw [h.aW,cV]) (by omega)
 obtain ⟨b2,d2,E2,T,_⟩:=h.arr 2 ⟨by decide,by decide⟩ (by rw [h.bL,cV]) (by omega)
 have c1:=h.str.cell 1 (by decide)
 have c2:=h.str.cell 2 (by decide)
 rw [E1]at c1
 rw [E2]at c2
 have x1:=(R x hx).1
 have x2:=(T x hx).1
 rw [h.aW,dX _ _ _ hx]at x1
 rw [h.bL,dX _ _ _ hx,r]at x2
 have aX:(x:Int)<(n:Int):=by omega
 have ah:(X 4).length=A.length+B.length+1:=by rw [h.aS,bW,hs,Pj,QZ];omega
 obtain ⟨a4,d4,E4,aq,aH,_,j⟩:=h.str.val 4 ⟨by decide,by decide⟩
 rw [ah]at E4 aq j
 obtain ⟨b4,rfl,_,_⟩:=j 0 (by omega)
 have c4:=h.str.cell 4 (by decide)
 rw [E4]at c4
 have N:Hid (∀i,i<A.length+B.length+1->w.cell? (AD b4 i)=some (IV (((A++x::B).getD i 0:Nat):Int))):=λi hi=>by
  obtain ⟨b',e',f,_⟩:=j i hi;cases e'
  rw [f,h.aS,hs];exact nF _ _ (by rw [Pj,QZ];omega)
 have HL:Hid (A.length+B.length+1<=1000000000):=by have:=ai;rw [hs,Pj,QZ]at this;show _<=_;omega
 have aJ:=HL.o
 have t:=Oi E4
 have U:Hid ((A++x::B).getD A.length 0=x):=by show _=_;simp [List.getD]
 have V:Hid (∀k,A.length<k->k<=A.length+B.length->(A++x::B).getD k 0≠x):=λk f h2 e=>by
  have:(A++x::B).getD k 0=B.getD (k-A.length-1) 0:=by rw [O6,List.getElem?_append_right (by omega),show k-A.length=(k-A.length-1)+1 by omega,Pb,<-O6];rfl
  rw [this]at e;have ac:k-A.length-1<B.length:=by omega
  refine ak ?_;rw [<-e,O6,QA ac];exact R9 _
 have u:=Oi hs
 have P:=Oi D
 clear h E1 E2 R T r hs ak D j ah E4 ai
 generalize s.aW x=nx at *
 go_enter Tryz.func159,Tryz.ntmps159
 go_wp2_with fail
 go_quiet (fail)
 go_wp2
 go_loop [4] (λi=>∃k:Nat,A.length<=k/\k<=A.length+B.length/\i=IV k) (λi=>(intOf i).toNat)
 exact ⟨A.length+B.length,by omega,Nz _,by go_num⟩
 obtain ⟨k,ar,aa,rfl⟩:=hrel
 have au:(k:Int)<(A.length:Int)+(B.length:Int)+1:=by omega
 have ck:=N.o k (by omega)
 by_cases ab:k=A.length
 ·subst ab;rw [U.o]at ck
  go_wp2_with fail;have ax:Hid (A.length+B.length+1-A.length=(x::B).length):=by show _=_;rw [QZ];omega
  have q:Hid (∀i,(A++x::B).getD (A.length+i) 0=(x::B).getD i 0):=λi=>by rw [O6,List.getElem?_append_right (by omega),Nat.add_sub_cancel_left,<-O6]
  have ag:0<(x::B).length:=by simp
  have aR:(x::B).length<=1000000000:=by rw [QZ];omega
  have Y:A.length+(x::B).length=A.length+B.length+1:=by rw [QZ];omega
  have ae:=A1 x B;have aG:Hid (pB (x::B)<n):=P.o _ ae;rw [ax.o];have aK:(A.length:Int)<=(d4:Int):=by omega
  have aF:A.length<=d4:=by omega
  clear U V ck ae au ar aa;have M:=Oi Y;clear Y;generalize ad:x::B=L at *;have ao:=Oi ad;clear ad;generalize af:pB L=m at *;have Q:=Oi af;clear af;generalize A.length+B.length+1=T4 at *;refine (J9 b4 A.length L.length (d4-A.length) L _ rfl ag (by omega) (λi hi=>?_)).mono ?_
  ·have:=N.o (A.length+i) (by rw [<-M.o];omega);rw [q.o i]at this
   exact this
  rintro e w1 ⟨rfl,rfl⟩;rw [Q.o];have HQ:Hid (∃X',eF (w.drewN nq) g I n {s with part:=λv=>if v∈L.take 0 then m else s.part v,aT:=λv=>if v∈L.take 0 then false else s.aT v} F C X'/\aj F w (w.drewN nq)):=by
   refine ⟨X,?_,aj.mono (aj.aF (below_drewN w nq)) (λk hk aQ=>by omega)⟩;have:({s with part:=λv=>if v∈L.take 0 then m else s.part v,aT:=λv=>if v∈L.take 0 then false else s.aT v}:St)=s:=by
    have e1:(λv=>if v∈L.take 0 then m else s.part v)=s.part:=by funext v;rw [Of (by rw [PQ];exact λh=>by cases h)]
    have e2:(λv=>if v∈L.take 0 then false else s.aT v)=s.aT:=by funext v;rw [Of (by rw [PQ];exact λh=>by cases h)]
    rw [e1,e2]
   rw [this];exact H.o.aA (aj.aF (below_drewN w nq)) (λb hF=>by have:=H.o.lt b hF;omega)
  obtain ⟨E,d6,E6,_,_⟩:=H.o.arr 6 ⟨by decide,by decide⟩ (by rw [H.o.aT,dU]) (by omega);obtain ⟨G,d7,E7,_,_⟩:=H.o.arr 7 ⟨by decide,by decide⟩ (by rw [H.o.part,cV]) (by omega);have c:=Oi E6;have d:=Oi E7;have Z:Hid (G≠E):=λe=>by have:=H.o.str.apart 6 7 E ⟨by decide,by decide⟩ ⟨by decide,by decide⟩ (by rw [E6];rfl) (by rw [E7,e];rfl);omega
  have aM:Hid ((X 4).length=T4):=by rw [H.o.aS,bW,u.o,Pj,M.o];rfl
  clear E6 E7 c1 c2 x1 x2 c4;generalize w.drewN nq=w1 at *;go_wp2;go_loopw [51] (λiv wr=>∃i:Nat,i<=L.length/\iv=IV i/\Hid (∃X',eF wr g I n {s with part:=λv=>if v∈L.take i then m else s.part v,aT:=λv=>if v∈L.take i then false else s.aT v} F C X'/\aj F w wr)) (λiv _=>L.length-(intOf iv).toNat);exact ⟨0,NS _,rfl,HQ⟩;obtain ⟨i,hi,rfl,HR⟩:=hrel;obtain ⟨X',hr,kr⟩:=HR.o;have a:=Oi hr;have O:=Oi kr;clear hr kr HR;by_cases l:i<L.length
  ·have aN:(i:Int)<(L.length:Int):=by omega
   have J:L.getD i 0<n:=P.o _ (by rw [show L.getD i 0=L[i] by simp [List.getD,l]];exact R9 l);have cl:wr.cell? (AD b4 (A.length+i))=some (IV ((L.getD i 0:Nat):Int)):=by have f:=(a.o.xZ 4 ⟨by decide,by decide⟩ t.o (A.length+i) (by rw [a.o.aS,bW];show _<s.aS.length;rw [u.o,Pj];omega)).1;rw [a.o.aS]at f;have h2:(bI s.aS)[A.length+i]? =some (IV ((s.aS.getD (A.length+i) 0:Nat):Int)):=nF _ _ (by rw [u.o,Pj];omega);rw [u.o,q.o i]at h2;rw [f];show(bI s.aS)[A.length+i]? =_;rw [u.o];exact h2
   have PN:=Oi (FN (m:=m) (p:=s.part) l);have IN:=Oi (Ho (p:=s.aT) l);generalize L.getD i 0=v at *;have aW:(v:Int)<(n:Int):=by omega
   have HV:=Oi J;have v7:=a.o.xZ 7 ⟨by decide,by decide⟩ d.o v (by rw [a.o.part,cV];exact J);have v6:=a.o.xZ 6 ⟨by decide,by decide⟩ c.o v (by rw [a.o.aT,dU];exact J);rw [a.o.part,dX _ _ _ J]at v7;rw [a.o.aT,fw _ _ _ J]at v6;obtain ⟨aD,aE⟩:=v7;obtain ⟨am,an⟩:=v6;generalize ((if v∈L.take i then m else s.part v:Nat):Int)=pv at *;generalize (if v∈L.take i then false else s.aT v)=qv at *;have c6:=a.o.str.cell 6 (by decide);have c7:=a.o.str.cell 7 (by decide);rw [c.o]at c6;rw [d.o]at c7;obtain ⟨aB,aC⟩:=Ek (v:=IV m) (p:=(AD G v)) (λe=>Z.o (by cases e;rfl)) am an;have ap:Hid (∃X2,eF (((wr.setCell (AD G v) (IV m)).setCell (AD E v) (.bool false)).drew) g I n {s with part:=λv=>if v∈L.take (i+1)then m else s.part v,aT:=λv=>if v∈L.take (i+1)then false else s.aT v} F C X2/\aj F w (((wr.setCell (AD G v) (IV m)).setCell (AD E v) (.bool false)).drew)):=by have a1:=a.o.Ku d.o v m HV.o;have a2:=a1.IT c.o v false HV.o;have a3:=a2.drew;simp only [PN.o,IN.o]at a3;exact ⟨_,a3,((O.o.setCell (λ_=>H.o.fe G (.inr ⟨7,⟨by decide,by decide⟩,by rw [d.o];rfl⟩)) _).setCell (λ_=>H.o.fe E (.inr ⟨6,⟨by decide,by decide⟩,by rw [c.o];rfl⟩)) _).drew⟩
   clear J;go_wp2_with fail;refine av 12 (S:=λw'=>w'.cell? (AD g 6)=some (SV E n d6)/\w'.cell? (AD g 7)=some (SV G n d7)) (by kernel_rfl) (⟨c6,c7⟩) (λy=>?_);refine' az 0 ?_;refine' az 1 ?_;refine' az 2 ?_;refine' az 3 ?_;refine' az 4 ?_;refine' az 5 ?_ [8,7,6,5];refine' az 6 ?_ [8,7,6];refine' az 7 ?_ [8,7];refine' az 8 ?_;refine' bc (i:=9) (v:=_) rfl (by kernel_rfl) (λ_ _ _ h=>h) (Or.inl ⟨by rfl,?hy9⟩) (by assumption) ?rest9;case hy9=>(intro w' aL;go_simp;(try with_reducible rfl))
   try walk_nrm
   refine' az 10 ?_;refine' az 11 ?_;refine aI 12 λK o=>?_;go_simp;refine o.o _ _ (λe=>nomatch e) ?_;clear o K;try walk_nrm
   refine aI 13 λK o=>?_;go_simp;refine o.o _ _ (λe=>nomatch e) ?_;clear o K;try walk_nrm
   refine aI 14 λK o=>?_;go_simp;refine o.o _ _ (λe=>nomatch e) ?_;clear o K;try walk_nrm
   refine ay (by kernel_rfl) ?_;clear y c6 c7 aD aE am an aB aC cl;go_wp2;go_roundw;exact ⟨i+1,by omega,by go_num,ap⟩;simp [intOf];omega
  ·obtain rfl:i=L.length:=by omega
   have hcut:=a.o.G7 t.o A.length (by show A.length<=s.aS.length;rw [u.o,Pj];omega);have HF:Hid (∀W,W=wr.setCell (AD g 4) (SV b4 A.length d4)->gW g I n (s.off s.cR A L m) F w W):=by
    rintro W rfl;have e1:(s.aS.take A.length)=A:=by rw [u.o,List.take_left]
    have f:=hcut;rw [show({s with part:=λv=>if v∈L.take L.length then m else s.part v,aT:=λv=>if v∈L.take L.length then false else s.aT v}:St).aS.take A.length=A from e1]at f;rw [Q0]at f;exact ⟨F,⟨_,_,f⟩,O.o.setCell (λ_=>H.o.fe g (.inl rfl)) _,λ_ h=>.inl h⟩
   have c4:=a.o.str.cell 4 (by decide);rw [t.o]at c4;have f4:=a.o.str.mB 4;clear hcut;go_wp2;go_end0;exact ⟨rfl,by rw [ao.o,Q.o];exact HF.o _ rfl⟩
 ·have hz:=V.o k (by omega) aa;have al:(((A++x::B).getD k 0:Nat):Int)≠(x:Int):=by omega
  have hq:((((A++x::B).getD k 0:Nat):Int)==(x:Int))=false:=Pk.2 al;have aA:(((A++x::B).getD k 0)==x)=false:=Pk.2 hz;have aU:((((A++x::B).getD k 0:Nat):Int)!=(x:Int))=true:=by rw [bne,hq];rfl
  have aV:(((A++x::B).getD k 0)!=x)=true:=by rw [bne,aA];rfl
  have aO:(1:Int)<=(k:Int):=by omega
  have aw:Hid ((k:Int)-1=((k-1:Nat):Int)):=by show _=_;omega
  have aP:A.length<k:=by omega
  clear hz al ab;generalize (A++x::B).getD k 0=z at *;go_wp2;go_round;exact ⟨k-1,by omega,by omega,by rw [aw.o]⟩;show((k:Int)-1).toNat<((k:Int)).toNat;omega
section
def WR(w0 w:WD)(g q:Nat)(ev:Value)(n:Nat)(s:St):Prop:=
 ∃F,qQ w g ev n s F/\(∀b,F b->w0.heap.size<=b/\b≠q)/\BW w0 w/\w.cell? (AD q 0)=some (PT g)
section
variable {w0 w:WD} {g q n:Nat} {ev:Value} {s:St}
def WR.aM(h:WR w0 w g q ev n s):BW w0 w:=by obtain ⟨F,_,_,h,_⟩:=h;exact h
def WR.bU(h:WR w0 w g q ev n s):CA w q 0 (PT g):=by obtain ⟨F,_,_,_,h⟩:=h;exact h
def WR.eB(h:WR w0 w g q ev n s):w.cell? (AD g 0)=some ev:=by obtain ⟨F,⟨C,X,h⟩,_⟩:=h;rw [h.str.cell 0 (by decide),h.eB]
def WR.af{d:WD}(h:WR w0 w g q ev n s)(a:BW w d):WR w0 d g q ev n s:=by obtain ⟨F,e,f,b,c⟩:=h;exact ⟨F,e.af a,f,b.trans (a.mono b.size),(a.cell (Nr w _ c)).trans c⟩
def WR.done{j:WD}{i:St}(h:WR w0 w g q ev n s)(p:∀F,qQ w g ev n s F->gW g ev n i F w j):WR w0 j g q ev n i:=by obtain ⟨F,m,a,c,d⟩:=h;obtain ⟨l,u,f,v⟩:=p F m;have t:=Nr w _ d;refine ⟨l,u,λb o=>?_,c.trans (f.af c.size (λk x hF=>by have:=(a k hF).1;omega)),f.aq d (λhF=>(a q hF).2 rfl)⟩;rcases v b o with hF|r;exact a b hF;have:=c.size;exact ⟨by omega,λe=>by subst e;have:b<w.heap.size:=t;omega⟩
def Ep(h:WR w0 w g q ev n s)(y:Nat)(x:y<n)(u:n<=1000000000)(p:s.cO<=1000000000)(d:s.aS.length<=1000000000)(hw:s.cR.length<=1000000000):
 Calls Tryz.prog 157 #[PT g,IV y] w λe j=>e=RT (.tuple #[])/\Hid (WR w0 j g q ev n (s.fU y)):=by
 obtain ⟨F,m,a⟩:=h
 refine (G5 g ev n s F w m y x u p d hw).mono ?_
 rintro e j ⟨rfl,r⟩
 obtain ⟨l,z,i,A⟩:=r
 obtain ⟨a,c,f⟩:=a
 have v:=Nr w _ f
 refine ⟨rfl,l,z,λb o=>?_,c.trans (i.af c.size (λk B hF=>by have:=(a k hF).1;omega)),i.aq f (λhF=>(a q hF).2 rfl)⟩
 rcases A b o with hF|t
 exact a b hF
 have:=c.size
 exact ⟨by omega,λe=>by subst e;have:b<w.heap.size:=v;omega⟩
def xi(h:WR w0 w g q ev n s)(x m:Nat)(t:x<n):
 Calls Tryz.prog 158 #[IV x,IV m,PT q] w λe i=>e=RT (.tuple #[])/\Hid (WR w0 i g q ev n (s.lower x m)):=by
 obtain ⟨F,l,a,c,d⟩:=h
 refine (Fw g q ev n s F w l d x m t).mono ?_
 rintro e i ⟨rfl,j,u,f,v⟩
 have r:=Nr w _ d
 refine ⟨rfl,j,u,λb o=>?_,c.trans (f.af c.size (λk y hF=>by have:=(a k hF).1;omega)),f.aq d (λhF=>(a q hF).2 rfl)⟩
 rcases v b o with hF|p
 exact a b hF
 have:=c.size
 exact ⟨by omega,λe=>by subst e;have:b<w.heap.size:=r;omega⟩
def KN(h:WR w0 w g q ev n s)(x:Nat)(t:x<n)(d:s.bL x≠s.aW x):
 Calls Tryz.prog 159 #[PT g,IV x] w λe j=>e=RT (.tuple #[])/\Hid (WR w0 j g q ev n s):=by
 obtain ⟨F,m,a,c,f⟩:=h
 refine (CF g ev n s F w m x t d).mono ?_
 rintro e j ⟨rfl,l,u,i,v⟩
 have r:=Nr w _ f
 refine ⟨rfl,l,u,λb o=>?_,c.trans (i.af c.size (λk y hF=>by have:=(a k hF).1;omega)),i.aq f (λhF=>(a q hF).2 rfl)⟩
 rcases v b o with hF|p
 exact a b hF
 have:=c.size
 exact ⟨by omega,λe=>by subst e;have:b<w.heap.size:=r;omega⟩
def KM(h:WR w0 w g q ev n s)(x:Nat)(A B:List Nat)(C:s.aS=A++x::B)(j:x∉B)(f:∀v∈x::B,v<n)(a:s.bL x=s.aW x)(y:n<=1000000000)(i:s.aS.length<=1000000000):
 Calls Tryz.prog 159 #[PT g,IV x] w λe o=>e=RT (.tuple #[])/\Hid (WR w0 o g q ev n (s.off s.cR A (x::B) (pB (x::B)))):=by
 obtain ⟨F,r,c,d,l⟩:=h
 refine (CE g ev n s F w r x A B C j f a y i).mono ?_
 rintro e o ⟨rfl,p,D,m,E⟩
 have z:=Nr w _ l
 refine ⟨rfl,p,D,λb t=>?_,d.trans (m.af d.size (λk G hF=>by have:=(c k hF).1;omega)),m.aq l (λhF=>(c q hF).2 rfl)⟩
 rcases E b t with hF|u
 exact c b hF
 have:=d.size
 exact ⟨by omega,λe=>by subst e;have:b<w.heap.size:=z;omega⟩
def WR.rdNum(h:WR w0 w g q ev n s)(i:Nat)(a:i<n):∃b d,w.cell? (AD g 1)=some (SV b n d)/\w.cell? (AD b i)=some (IV (s.aW i:Int)):=by obtain ⟨F,⟨C,X,h⟩,_⟩:=h;obtain ⟨b,d,E,c,_⟩:=h.arr 1 ⟨by decide,by decide⟩ (by rw [h.aW,cV]) (by omega);refine ⟨b,d,by rw [h.str.cell 1 (by decide),E],?_⟩;rw [(c i a).1,h.aW,dX _ _ _ a]
def WR.Mz(h:WR w0 w g q ev n s)(i:Nat)(a:i<n):∃b d,w.cell? (AD g 2)=some (SV b n d)/\w.cell? (AD b i)=some (IV (s.bL i:Int)):=by obtain ⟨F,⟨C,X,h⟩,_⟩:=h;obtain ⟨b,d,E,c,_⟩:=h.arr 2 ⟨by decide,by decide⟩ (by rw [h.bL,cV]) (by omega);refine ⟨b,d,by rw [h.str.cell 2 (by decide),E],?_⟩;rw [(c i a).1,h.bL,dX _ _ _ a]
def WR.My(h:WR w0 w g q ev n s)(i:Nat)(a:i<n):∃b d,w.cell? (AD g 6)=some (SV b n d)/\w.cell? (AD b i)=some (.bool (s.aT i)):=by obtain ⟨F,⟨C,X,h⟩,_⟩:=h;obtain ⟨b,d,E,c,_⟩:=h.arr 6 ⟨by decide,by decide⟩ (by rw [h.aT,dU]) (by omega);refine ⟨b,d,by rw [h.str.cell 6 (by decide),E],?_⟩;rw [(c i a).1,h.aT,fw _ _ _ a]
def WR.IE(h:WR w0 w g q ev n s)(i:Nat)(e:i<n):∃b d,w.cell? (AD g 3)=some (SV b n d)/\w.cell? (AD b i)=some (IV (s.next i:Int))/\w.frozen? (AD b i)=false/\
 ∀v:Nat,WR w0 (w.setCell (AD b i) (IV v)) g q ev n {s with next:=up s.next i v}:=by
 have u:=h
 obtain ⟨F,⟨C,X,h⟩,_⟩:=h
 obtain ⟨b,d,E,l,_⟩:=h.arr 3 ⟨by decide,by decide⟩ (by rw [h.next,cV]) (by omega)
 refine ⟨b,d,by rw [h.str.cell 3 (by decide),E],?_,(l i e).2,λv=>?_⟩
 rw [(l i e).1,h.next,dX _ _ _ e]
 obtain ⟨F,a,j,x,y⟩:=u
 have hF:F b\/True:=.inr PO
 clear hF
 obtain ⟨z,A,a⟩:=a
 obtain ⟨p,t,f,r,_⟩:=a.arr 3 ⟨by decide,by decide⟩ (by rw [a.next,cV]) (by omega)
 have m:=h.str.cell 3 (by decide)
 have o:=a.str.cell 3 (by decide)
 rw [E]at m
 rw [f,m]at o
 obtain ⟨rfl,rfl⟩:b=p/\d=t:=by cases o;exact ⟨rfl,rfl⟩
 have c:=a.fe b (.inr ⟨3,⟨by decide,by decide⟩,by rw [f];rfl⟩)
 have k:aj F w (w.setCell (AD b i) (IV v)):=(aj.refl F w).setCell (λ_=>c) _
 exact ⟨F,⟨_,_,a.Kt f i v e⟩,j,x.setCell (j b c).1 _,k.aq y (λhF=>(j q hF).2 rfl)⟩
def WR.IF(h:WR w0 w g q ev n s):∃a d,w.cell? (AD g 5)=some (.slice a s.cR.length d)/\w.frozen? (AD g 5)=false/\s.cR.length<=d/\d<=maxLen/\(∀i,i<s.cR.length->∃b,a=some (AD b 0)/\w.cell? (AD b i)=some (IV ((s.cR.getD i 0:Nat):Int)))/\
 ∀k:Nat,k<=s.cR.length->WR w0 (w.setCell (AD g 5) (.slice a k d)) g q ev n {s with cR:=s.cR.take k}:=by
 obtain ⟨F,⟨C,X,h⟩,c,m,o⟩:=h
 obtain ⟨a,d,E,l,v,_,f⟩:=h.str.val 5 ⟨by decide,by decide⟩
 have t:(X 5).length=s.cR.length:=by rw [h.cR,bW]
 rw [t]at E l f
 refine ⟨a,d,by rw [h.str.cell 5 (by decide),E],h.str.mB 5,l,v,λi j=>?_,λk r=>?_⟩
 obtain ⟨b,e,p,_⟩:=f i j
 exact ⟨b,e,by rw [p,h.cR];exact nF _ _ j⟩
 have u:aj F w (w.setCell (AD g 5) (.slice a k d)):=(aj.refl F w).setCell (λ_=>h.fe g (.inl rfl)) _
 exact ⟨F,⟨_,_,h.Ln E k r⟩,c,m.setCell (c g (h.fe g (.inl rfl))).1 _,u.aq o (λhF=>(c q hF).2 rfl)⟩
end
def qJ(n:Nat)(s:St):Nat:=(List.range n).countP λv=>decide (s.aW v=0)
def BK(n:Nat)(s:St)(y:Nat)(c:y<n)(a:s.aW y=0):qJ n s=qJ n (s.fU y)+1:=by refine lT (i:=y) (p:=λv=>decide (s.aW v=0)) (q:=λv=>decide ((s.fU y).aW v=0)) ?_ ?_ (λj b=>?_) _ List.nodup_range (Oq.2 c);simp [a];have:(s.fU y).aW y=s.cO+1:=aB _ _ _;simp [this];have:(s.fU y).aW j=s.aW j:=an _ _ _ _ b;simp [this]
structure fk (E:List (List Int)) (Z:Nat->Prop) (s:St):Prop where
 inv:Inv E s
 cO:s.cO+qJ E.length s=E.length
 bC:s.aS.length<=s.cO
 aX:∀v,Z v->s.aW v≠0
def fk.Du{E:List (List Int)}{Z:Nat->Prop}{s:St}(h:fk E Z s):s.cR.length<=s.cO:=N5 h.inv.sub.length_le h.bC
def fk.fU{E:List (List Int)}{Z:Nat->Prop}{s:St}(h:fk E Z s){y:Nat}(b:y<E.length)(a:s.aW y=0)(c:∀v∈s.cR,Own.br E v y):fk E (λv=>Z v\/v=y) (s.fU y)where
 inv:=h.inv.fU b a c
 cO:=by have:=h.cO;rw [BK _ _ _ b a]at this;show s.cO+1+_=_;omega
 bC:=by show(s.aS++[y]).length<=s.cO+1;have:=h.bC;simp;omega
 aX v d:=by show up s.aW y (s.cO+1) v≠0;by_cases e:v=y;subst e;rw [aB];omega;rw [an _ _ _ _ e];exact h.aX v (d.resolve_right e)
end
end Go.Proofs.YtimniinkpipnmaaGreatDoor.Scc
