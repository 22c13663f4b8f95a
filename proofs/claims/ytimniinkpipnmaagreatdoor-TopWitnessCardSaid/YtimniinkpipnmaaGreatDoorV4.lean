/- A part of the proof of TopWitness. -/
import Derived.Test.YtimniinkpipnmaaGreatDoorV3
import Derived.Lib.TrailingZeros
import Derived.WideKeyEntry
set_option maxRecDepth 100000
set_option maxHeartbeats 8000000
set_option linter.all false
namespace Go.Proofs.YtimniinkpipnmaaGreatDoor
open Go.RowKit Go.Own Go.Maps Go.Proofs.Tryz
section
def Tryz.Fb:(prog.info? 119).map (λi=>(i.zero,i.size,i.bytes))=some (some (.agg #[UV 0,UV 0,SN,SN]),4,64):=ZK
def ew:List Wy->List (dN×dN)->List Value
 |W::L,r::rs=>UV W.need::UV W.ban::jW r.1::jW r.2::ew L rs
 |_,_=>[]
def pU:∀L rs W r,rs.length=L.length->ew (L++[W]) (rs++[r])=ew L rs++[UV W.need,UV W.ban,jW r.1,jW r.2]
 |[],[],_,_,_=>rfl
 |_::L,_::rs,W,r,h=>by show _::_::_::_::ew (L++[W]) (rs++[r])=_;rw [pU L rs W r (ZX h)];rfl
 |[],_::_,_,_,h=>by simp at h
 |_::_,[],_,_,h=>by simp at h
def rN:∀L rs j W r,L[j]? =some W->rs[j]? =some r->
 (ew L rs)[j*4]? =some (UV W.need)/\(ew L rs)[j*4+1]? =some (UV W.ban)/\(ew L rs)[j*4+2]? =some (jW r.1)/\(ew L rs)[j*4+3]? =some (jW r.2)
 |W::L,r::rs,0,_,_,a,b=>by cases a;cases b;exact ⟨rfl,rfl,rfl,rfl⟩
 |_::L,_::rs,j+1,W,r,a,b=>by have c:=rN L rs j W r a b;have e:(j+1)*4=j*4+1+1+1+1:=ZO;rw [e];exact c
 |[],_,_,_,_,a,_=>by simp at a
 |_::_,[],_,_,_,_,b=>by simp at b
def MC(w:WD)(a:OA):Prop:=∀b o,a=some (AD b o)->b<w.heap.size
def fD(w:WD)(S:Nat->Prop)(n:Nat)(W:Wy)(r:dN×dN):Prop:=
 aG .i64 w r.1.1 r.1.2.1 (cN W.next n)/\aG .i64 w r.2.1 r.2.2.1 (cN W.bw n)/\oB S r.1.1/\oB S r.2.1/\MC w r.1.1/\MC w r.2.1/\(r.1.1=none->r.1.2.1=0/\r.1.2.2=0)/\(r.2.1=none->r.2.2.1=0/\r.2.2.2=0)
def cU(w:WD)(S:Nat->Prop)(n:Nat):List Wy->List (dN×dN)->Prop
 |[],[]=>True
 |W::L,r::rs=>fD w S n W r/\cU w S n L rs
 |_,_=>False
def cU.bA{w S n}:∀{L rs},cU w S n L rs->rs.length=L.length
 |[],[],_=>rfl
 |_::L,_::rs,h=>by rw [P9,P9,cU.bA h.2]
 |[],_::_,h=>h.elim
 |_::_,[],h=>h.elim
def cU.map{w c S a n}(b:∀W r,fD w S n W r->fD c a n W r):∀{L rs},cU w S n L rs->cU c a n L rs
 |[],[],_=>RN
 |_::L,_::rs,h=>⟨b _ _ h.1,cU.map b h.2⟩
 |[],_::_,h=>h
 |_::_,[],h=>h
def cU.snoc{w S n W r}(hw:fD w S n W r):∀{L rs},cU w S n L rs->cU w S n (L++[W]) (rs++[r])
 |[],[],_=>⟨hw,RN⟩
 |_::L,_::rs,h=>⟨h.1,cU.snoc hw h.2⟩
 |[],_::_,h=>h.elim
 |_::_,[],h=>h.elim
def cU.at{w S n}:∀{L rs},cU w S n L rs->∀(j:Nat)(W),L[j]? =some W->∃r,rs[j]? =some r/\fD w S n W r
 |[],[],_,_,_,h=>by simp at h
 |_::L,r::rs,h,0,_,e=>by cases e;exact ⟨r,rfl,h.1⟩
 |_::L,_::rs,h,j+1,W,e=>cU.at h.2 j W e
 |[],_::_,h,_,_,_=>h.elim
 |_::_,[],h,_,_,_=>h.elim
def cL{k S w d a n f}(h:aG k w a n f)(m:aj S w d)(o:oB S a):aG k d a n f:=by refine ⟨h.1,?_⟩;obtain g|⟨b,c,e,j⟩:=h.2;exact .inl g;exact .inr ⟨b,c,e,λi l=>m.aq (j i l) (o b c e)⟩
def dq.ax{S w d a n f}(h:dq w a n f)(k:aj S w d)(l:oB S a):dq d a n f:=by obtain ⟨b,c,e,g⟩:=h;exact ⟨b,c,e,λi j=>k.aq (g i j) (l b c e)⟩
def MB(w:WD)(a:OA):Prop:=∀b o,a=some (AD b o)->w.heap.size<=b
def eU(bo mb:Nat)(vo:Value)(k:Nat):Prop:=k=bo\/k=mb\/vo.ownBlock=some k
open Classical in
noncomputable def uF(n:Nat)(L:List Wy)(a:Value):Option Value:=if∃W∈L,a=mS n W then some (.bool true)else none
def CU{n L W Z}(h:W∈L)(e:mS n Z=mS n W):uF n L (mS n Z)=some (.bool true):=by unfold uF;rw [PW ⟨W,h,e⟩]
def L0{n L Z}(h:∀W∈L,mS n Z≠mS n W):uF n L (mS n Z)=none:=by unfold uF;rw [Qa (λ⟨W,a,e⟩=>h W a e)]
def Hy{n L Z}(x):uF n (L++[Z]) x=rD (uF n L) (mS n Z) (some (.bool true)) x:=by by_cases e:x=mS n Z;subst e;rw [ft];exact CU (W:=Z) ZS rfl;rw [cV _ _ _ _ e];unfold uF;by_cases h:∃W∈L,x=mS n W;rw [PW h,PW];obtain ⟨W,b,e⟩:=h;exact ⟨W,P0 _ b,e⟩;rw [Qa h,Qa];rintro ⟨W,b,c⟩;obtain a|a:=PC.1 b;exact h ⟨W,a,c⟩;rw [Pc]at a;subst a;exact e c
structure Ii (w0 w:WD) (n bf bg bt bo mb:Nat) (fv gv vo:Value) (L:List Wy) (rs:List (dN×dN)):Prop where
 cf:w.cell? (AD bf 0)=some fv
 cg:w.cell? (AD bg 0)=some gv
 ct:w.cell? (AD bt 0)=some (.map (some mb))
 co:w.cell? (AD bo 0)=some vo
 fo:w.frozen? (AD bo 0)=false
 cO:w.ownsRow 0 119 4 vo L.length (ew L rs)
 bC:cU w (eU bo mb vo) n L rs
 map:cK prog 199 w mb L.length (uF n L)
 ap:(bf≠bo/\bg≠bo/\bt≠bo/\mb≠bo)/\bf≠mb/\bg≠mb/\bt≠mb
 IS:∀k,vo.ownBlock=some k->k≠bf/\k≠bg/\k≠bt/\k≠bo/\k≠mb
 dJ:w0.heap.size<=bo/\w0.heap.size<=mb/\∀k,vo.ownBlock=some k->w0.heap.size<=k
 aJ:BW w0 w
 bG:∀r∈rs,MB w0 r.1.1/\MB w0 r.2.1
section
variable {w0 w w1:WD} {n bf bg bt bo mb:Nat} {fv gv vo:Value} {L:List Wy} {rs:List (dN×dN)}
def Ii.dY(h:Ii w0 w n bf bg bt bo mb fv gv vo L rs):∀k,eU bo mb vo k->k<w.heap.size:=λk a=>by obtain rfl|rfl|a:=a;exact O9 w _ h.co;exact h.map.lt;exact dx h.cO k a
def fD.ag{S W r}(h:fD w S n W r)(a:BW w w1):fD w1 S n W r:=⟨h.1.ag a,h.2.1.ag a,h.2.2.1,h.2.2.2.1,λb o e=>Ps (h.2.2.2.2.1 b o e) a.size,λb o e=>Ps (h.2.2.2.2.2.1 b o e) a.size,h.2.2.2.2.2.2⟩
def Ii.ag(h:Ii w0 w n bf bg bt bo mb fv gv vo L rs)(a:BW w w1):Ii w0 w1 n bf bg bt bo mb fv gv vo L rs:=
 ⟨(a.cell (O9 w _ h.cf)).trans h.cf,(a.cell (O9 w _ h.cg)).trans h.cg,(a.cell (O9 w _ h.ct)).trans h.ct,(dy a ⟨h.co,h.fo⟩).1,(dy a ⟨h.co,h.fo⟩).2,
  bp h.cO (aj.aC a) (λg e s=>QE _ (Ps (dx h.cO g e) s)),cU.map (λ_ _ h=>h.ag a) h.bC,h.map.ag a,h.ap,h.IS,h.dJ,h.aJ.trans (a.mono h.aJ.size),h.bG⟩
def Ii.dT{w2 w3 w4 Z c G H K Y M yc}(h:Ii w0 w n bf bg bt bo mb fv gv vo L rs)
 (hm:cK prog 199 w2 mb (L.length+1) (rD (uF n L) (mS n Z) (some (.bool true)))) (V:aj (λk=>k=mb) w w2) (N:BW w2 w3)
 (hx:aG .i64 w3 G K (cN Z.next n)) (x:∀b o,G=some (AD b o)->w2.heap.size<=b/\b<w3.heap.size) (Q:G=none->K=0/\Y=0) (hy:aG .i64 w3 H M (cN Z.bw n)) (y:∀b o,H=some (AD b o)->w2.heap.size<=b/\b<w3.heap.size) (R:H=none->M=0/\yc=0)
 (h4:w4.ownsRow 0 119 4 c (L.length+1) (ew L rs++[UV Z.need,UV Z.ban,SL G K Y,SL H M yc])) (X:aj (λk=>vo.ownBlock=some k) w3 w4) (m4:∀k,c.ownBlock=some k->vo.ownBlock=some k\/w3.heap.size<=k):
 Ii w0 (w4.setCell (AD bo 0) c) n bf bg bt bo mb fv gv c (L++[Z]) (rs++[((G,K,Y),(H,M,yc))])/\aj (eU bo mb vo) w (w4.setCell (AD bo 0) c)/\(∀k,c.ownBlock=some k->vo.ownBlock=some k\/w.heap.size<=k):=by
 have j:=h.dY
 have l:∀{q:Nat}{v:Value},CA w q 0 v->q<w.heap.size:=λhc=>O9 w _ hc
 have s2:=V.size
 have s3:=N.size
 have s4:=X.size
 have U:aj (λk=>k=mb) w w3:=V.then (T:=λk=>w2.heap.size<=k) (aj.aC N) (λi hi hT=>ZO)
 have C:aj (λk=>k=mb\/vo.ownBlock=some k) w w4:=(U.mono (λ_ _ e=>.inl e)).then (T:=λk=>vo.ownBlock=some k) X (λ_ _ e=>.inr e)
 have d:aj (eU bo mb vo) w (w4.setCell (AD bo 0) c):=(C.mono (T:=eU bo mb vo) (λ_ _ e=>.inr e)).setCell (p:=(AD bo 0)) (λ_=>.inl rfl) _
 have F:∀k,c.ownBlock=some k->vo.ownBlock=some k\/w.heap.size<=k:=λk m=>(m4 k m).imp id (λh=>ZO)
 have D:c.ownBlock≠some bo:=λe=>by obtain e|e:=F bo e;exact (h.IS bo e).2.2.2.1 rfl;have:=l h.co;omega
 have O:CA w4 bo 0 vo:=C.aq h.co (λe=>by obtain e|e:=e;exact h.ap.1.2.2.2 e.symm;exact (h.IS bo e).2.2.2.1 rfl)
 have B:∀{q:Nat},q≠bo->q≠mb->(∀k,vo.ownBlock=some k->k≠q)->¬eU bo mb vo q:=λI J h3 e=>by obtain e|e|e:=e;exact I e;exact J e;exact h3 _ e rfl
 have A:∀{a:OA},(∀b o,a=some (AD b o)->w2.heap.size<=b/\b<w3.heap.size)->oB (eU bo mb c) a:=λP b o e s=>by have⟨I,J⟩:=P b o e;obtain s|s|s:=s;have:=j bo (.inl rfl);omega;have:=j mb (.inr (.inl rfl));omega;obtain s|s:=m4 b s;have:=j b (.inr (.inr s));omega;omega
 have u:aj (λk=>k=bo\/vo.ownBlock=some k) w3 (w4.setCell (AD bo 0) c):=(X.mono (T:=λk=>k=bo\/vo.ownBlock=some k) (λ_ _ e=>.inr e)).setCell (p:=(AD bo 0)) (λ_=>.inl rfl) _
 have t:∀{a:OA},(∀b o,a=some (AD b o)->w2.heap.size<=b/\b<w3.heap.size)->oB (λk=>k=bo\/vo.ownBlock=some k) a:=λP b o e s=>by have⟨I,J⟩:=P b o e;obtain s|s:=s;have:=j bo (.inl rfl);omega;have:=j b (.inr (.inr s));omega
 refine ⟨⟨?_,?_,?_,?_,?_,?_,?_,?_,h.ap,?_,⟨h.dJ.1,h.dJ.2.1,?_⟩,?_,?_⟩,d,F⟩
 exact d.aq h.cf (B h.ap.1.1 h.ap.2.1 (λk m=>(h.IS k m).1))
 exact d.aq h.cg (B h.ap.1.2.1 h.ap.2.2.1 (λk m=>(h.IS k m).2.1))
 exact d.aq h.ct (B h.ap.1.2.2.1 h.ap.2.2.2 (λk m=>(h.IS k m).2.2.1))
 exact P4 (h:=O) ..
 rw [Qo]
 exact (PK (C.block bo (l h.co) (λe=>by obtain e|e:=e;exact h.ap.1.2.2.2 e.symm;exact (h.IS bo e).2.2.2.1 rfl))).trans h.fo
 rw [Pk,pU L rs Z _ (cU.bA h.bC)]
 exact bp h4 ((aj.refl (λk=>k=bo) w4).setCell (p:=(AD bo 0)) (λ_=>rfl) _) (λg e s=>D (by rw [e,s]))
 refine cU.snoc ⟨cL hx u (t x),cL hy u (t y),A x,A y,λb o e=>by rw [Ry];have:=(x b o e).2;omega,λb o e=>by rw [Ry];have:=(y b o e).2;omega,Q,R⟩ (cU.map (λW r f=>?_) h.bC)
 have z:∀k,k<w.heap.size->eU bo mb c k->eU bo mb vo k:=λk m e=>by obtain e|e|e:=e;exact .inl e;exact .inr (.inl e);obtain e|e:=F k e;exact .inr (.inr e);omega
 have E:w.heap.size<=(w4.setCell (AD bo 0) c).heap.size:=d.size
 exact ⟨cL f.1 d f.2.2.1,cL f.2.1 d f.2.2.2.1,λb o e s=>f.2.2.1 b o e (z b (f.2.2.2.2.1 b o e) s),λb o e s=>f.2.2.2.1 b o e (z b (f.2.2.2.2.2.1 b o e) s),λb o e=>Ps (f.2.2.2.2.1 b o e) E,λb o e=>Ps (f.2.2.2.2.2.1 b o e) E,f.2.2.2.2.2.2⟩
 refine cK.ext ?_ (Hy (L:=L) (Z:=Z))
 rw [Pk]
 refine (hm.ag N).ax (S:=λk=>k=bo\/vo.ownBlock=some k) u (λe=>?_)
 obtain e|e:=e
 exact h.ap.1.2.2.2 e
 exact (h.IS mb e).2.2.2.2 rfl
 intro k m
 obtain e|e:=F k m
 exact h.IS k e
 have I:=l h.cf
 have J:=l h.cg
 have h3:=l h.ct
 have h4:=l h.co
 have h5:=h.map.lt
 omega
 intro k m
 obtain e|e:=F k m
 exact h.dJ.2.2 k e
 exact PG h.aJ.size e
 refine h.aJ.trans (d.ag h.aJ.size (λk l e=>?_))
 obtain e|e|e:=e
 have:=h.dJ.1;omega
 have:=h.dJ.2.1;omega
 have:=h.dJ.2.2 k e;omega
 intro r f
 obtain f|f:=PC.1 f
 exact h.bG r f
 rw [Pc]at f;subst f
 have:=h.aJ.size
 have:=V.size
 exact ⟨λb o e=>ZH ((x b o e).1),λb o e=>ZH ((y b o e).1)⟩
end
end
section
def P8:=@Go.Value.slice.inj
def Rq:=@Go.results_none
def R9:=@Go.bodyPost_end
def Sd:=@List.size_toArray
def yx(n:Nat)(L a F:List Wy):Prop:=(∀Z∈a,Z∈L\/Z∈F)/\(∀Z∈L,Z∈a)/\(∀Z∈F,∃Y∈a,bH n Y=bH n Z)/\a.length<=L.length+F.length
def yx.refl(n L):yx n L L []:=⟨λ_ h=>.inl h,λ_ h=>h,λ_ h=>(ZC h),Pf _⟩
def yx.trans{n A B C F G}(h:yx n A B F)(k:yx n B C G):yx n A C (F++G):=by refine ⟨λZ b=>?_,λZ b=>k.2.1 Z (h.2.1 Z b),λZ b=>?_,by rw [Pk];have:=h.2.2.2;have:=k.2.2.2;omega⟩;obtain a|a:=k.1 Z b;exact (h.1 Z a).imp id (P0 _);exact .inr (Qt _ a);obtain a|a:=PC.1 b;have⟨Y,c,e⟩:=h.2.2.1 Z a;exact ⟨Y,k.2.1 Y c,e⟩;exact k.2.2.1 Z a
def Dd(q w:WD)(n i j m d f:Nat)(o p g:Value)(L F:List Wy)(e:Ending)(h:WD):Prop:=
 e=RT (.tuple #[])/\∃a c b,Ii q h n i j m d f o p a c b/\yx n L c F/\aj (eU d f g) w h/\∀k,a.ownBlock=some k->g.ownBlock=some k\/w.heap.size<=k
abbrev Il(a b d c:Nat):Value:=.func (.func 140) #[] #[PT a,PT b,PT d,PT c]
structure Ik (S:Nat->Prop) (w:WD) (na:OA) (n:Nat) (xa ta:OA) (tl tc:Nat) (W:Wy):Prop where
 bw:dq w na n W.bw
 next:dq w xa n W.next
 bQ:aG .i64 w ta tl (aE W.bQ)
 CT:(∃a b,ta=some (AD a b)/\a<w.heap.size)\/ta=none/\tl=0
 bS:tl<=tc/\tc<=maxLen
 bits:W.need<18446744073709551616/\W.ban<18446744073709551616
 dY:∀k,S k->k<w.heap.size
 sep:oB S na/\oB S xa/\oB S ta
def mU.zero{S w na n xa ta tl tc W}(h:mU S w na n xa ta tl tc W):Ik S w na n xa ta tl tc W:=⟨h.bw,h.next,h.bQ,.inl h.qu,h.bS,h.bits,h.dY,h.sep⟩
def Ik.bA{S w na n xa ta tl tc W}(h:Ik S w na n xa ta tl tc W):W.bQ.length=tl:=by have:=h.bQ.1;rwa [aD]at this
def Ik.ag{S w w' na n xa ta tl tc W}(h:Ik S w na n xa ta tl tc W)(a:BW w w'):Ik S w' na n xa ta tl tc W:=
 ⟨h.bw.ag a,h.next.ag a,h.bQ.ag a,h.CT.imp (λ⟨d,f,e,c⟩=>⟨d,f,e,Ps c a.size⟩) id,h.bS,h.bits,λk b=>Ps (h.dY k b) a.size,h.sep⟩
def De(j:WD)(h:OA)(n i:Nat)(f:Fm)(b c d a e m:Nat):Prop:=
 ∀(w:WD)(v g:Value)(W:Wy)(L:List Wy)(k:List (dN×dN)),Ii j w n b c d a e (SL h n i) (Il b c d a) g L k->(∃na nc xa xc ta tl tc,v=gi W.need W.ban na n nc xa xc ta tl tc/\Ik (eU a e g) w na n xa ta tl tc W)->fresh n W<m->W.bQ.length+m<=100000->(∀p∈W.bQ,p<n)->
  L.length+(eH f m W).length<=33554432->
  CL 140 #[v,PT b,PT c,PT d,PT a] w (Dd j w n b c d a e (SL h n i) (Il b c d a) g L (eH f m W))
structure L1 (S:Nat->Prop) (w wr:WD) (n:Nat) (W:Wy) (na:OA) (nc:Nat) (xa:OA) (xc:Nat) (ta:OA) (tl tc:Nat) (l:List Nat):Prop where
 q:∀i v,(#[UV W.need,UV W.ban,SL na n nc,SL xa n xc,SL ta tl tc]:Array Value)[i]? =some v->wr.cell? (AD w.heap.size i)=some v/\wr.frozen? (AD w.heap.size i)=false
 aJ:BW w wr
 row:aG .i64 w ta tl (aE l)
 skip:iC W.bw l=iC W.bw W.bQ
 sub:∀p∈l,p∈W.bQ
 bA:l.length<=W.bQ.length
 CT:(∃a b,ta=some (AD a b)/\a<w.heap.size)\/ta=none/\tl=0
 bS:tl<=tc/\tc<=maxLen
 sep:oB S ta
section
variable {S:Nat->Prop} {w wr:WD} {n:Nat} {W:Wy} {na:OA} {nc:Nat} {xa:OA} {xc:Nat} {ta:OA} {tl tc:Nat} {l:List Nat}
def L1.OK(h:L1 S w wr n W na nc xa xc ta tl tc l)(d:0<tl):∃b c,ta=some (AD b c)/\b<w.heap.size:=by obtain a|a:=h.CT;exact a;omega
def L1.tail{p r f g d}(h:L1 S w wr n W na nc xa xc (some (AD f g)) (r.length+1) tc (p::r))(A:W.bw p=true)(y:tc=1->d=some (AD f g))(t:tc≠1->d=some (AD f (g+1))):
 L1 S w (wr.setCell (AD w.heap.size 4) (SL d r.length (tc-1))) n W na nc xa xc d r.length (tc-1) r:=by
 have G:=h.bS
 have j:∃o,d=some (AD f o):=by by_cases e:tc=1;exact ⟨_,y e⟩;exact ⟨_,t e⟩
 have k:∀i v,(#[UV W.need,UV W.ban,SL na n nc,SL xa n xc,SL d r.length (tc-1)]:Array Value)[i]? =some v->FZ wr w.heap.size i:=λi v a=>by
  match i,a with
  |0,a=>exact (h.q 0 _ rfl).2
  |1,a=>exact (h.q 1 _ rfl).2
  |2,a=>exact (h.q 2 _ rfl).2
  |3,a=>exact (h.q 3 _ rfl).2
  |4,a=>exact (h.q 4 _ rfl).2
  |i+5,a=>simp at a
 refine ⟨λi v a=>⟨?_,(Qo ..).trans (k i v a)⟩,h.aJ.setCell (Pf _) _,⟨aD r,?_⟩,?_,λq B=>h.sub q (Qc _ B),by have:=h.bA;rw [P9]at this;omega,?_,⟨ZO,ZO⟩,?_⟩
 by_cases e:i=4
 subst e
 cases a
 exact P4 (h:=(h.q 4 _ rfl).1) ..
 rw [PQ _ _ _ _ (dX e)]
 refine (h.q i v ?_).1
 match i,a,e with
 |0,a,_=>exact a
 |1,a,_=>exact a
 |2,a,_=>exact a
 |3,a,_=>exact a
 |4,a,e=>exact absurd rfl e
 |i+5,a,_=>exact a
 obtain m|m:=Qv r.length
 exact .inl m
 obtain F|⟨b,C,e,c⟩:=h.row.2
 omega
 cases e
 refine .inr ⟨f,g+1,t ZO,λi H=>?_⟩
 have:=c (i+1) ZO
 have x:g+(i+1)=g+1+i:=ZO
 rw [x]at this
 rw [this];rfl
 rw [<-h.skip]
 show _=iC W.bw (p::r)
 conv=>rhs;unfold iC
 rw [PW A]
 have⟨D,E,e,z⟩:=h.OK ZO
 cases e
 obtain ⟨o,e⟩:=j
 exact .inl ⟨f,o,e,z⟩
 intro b o e s
 obtain ⟨I,u⟩:=j
 rw [u]at e;cases e
 exact h.sep _ _ rfl s
def L1.drewN(h:L1 S w wr n W na nc xa xc ta tl tc l)(q):L1 S w (wr.drewN q) n W na nc xa xc ta tl tc l:=
 ⟨h.q,below_drewN h.aJ q,h.row,h.skip,h.sub,h.bA,h.CT,h.bS,h.sep⟩
def CM(l):iC (λ_=>true) l=[]:=by
 induction l with
 |nil=>rfl
 |cons p r a=>unfold iC;rw [PW rfl];exact a
def L1.any(h:L1 S w wr n W na nc xa xc ta tl tc l):L1 S w wr n {W with bw:=λ_=>true} na nc xa xc ta tl tc l:=
 ⟨h.q,h.aJ,h.row,(CM _).trans (CM _).symm,h.sub,h.bA,h.CT,h.bS,h.sep⟩
def L1.OW{f}{d c b}(h:L1 S w wr n f na nc xa xc ta tl tc l)(a:Ik S w na n xa d c b W):Ik S wr na n xa ta tl tc {W with bQ:=l}:=
 ⟨a.bw.ag h.aJ,a.next.ag h.aJ,h.row.ag h.aJ,h.CT.imp (λ⟨j,m,e,i⟩=>⟨j,m,e,Ps i h.aJ.size⟩) id,h.bS,a.bits,λk g=>Ps (a.dY k g) h.aJ.size,⟨a.sep.1,a.sep.2.1,h.sep⟩⟩
def L1.wy{f}{d c b}(h:L1 S w wr n f na nc xa xc ta tl tc l)(g:Ik S w na n xa d c b W)(i:∃e j,ta=some (AD e j)/\e<wr.heap.size):mU S wr na n xa ta tl tc {W with bQ:=l}:=by have a:=h.OW g;exact ⟨a.bw,a.next,a.bQ,i,a.bS,a.bits,a.dY,a.sep⟩
def L1.drew(h:L1 S w wr n W na nc xa xc ta tl tc l):L1 S w wr.drew n W na nc xa xc ta tl tc l:=
 ⟨h.q,h.aJ.drew,h.row,h.skip,h.sub,h.bA,h.CT,h.bS,h.sep⟩
end
def Gq{f m p W r x}(h:iC W.bw W.bQ=p::r)(a:(Fm.aI f)[p]? =some x):eH f (m+1) W=(split x p (Wy.dI {W with bQ:=r} p)).flatMap (eH f m):=by
 conv=>lhs;unfold eH
 rw [h];dsimp only;rw [a]
def Gp{f m W}(h:iC W.bw W.bQ=[]):eH f (m+1) W=[{W with bQ:=[]}]:=by
 conv=>lhs;unfold eH
 rw [h]
def kW.ag{S w w' a k n l}(h:kW S w a k n l)(c:BW w w'):kW S w' a k n l:=by refine ⟨h.1,?_⟩;obtain p|⟨b,d,e,s,q⟩:=h.2;exact .inl p;refine .inr ⟨b,d,e,s,λi W r=>?_⟩;have⟨na,nc,xa,xc,ta,tl,tc,hw,f,g,j,m,o⟩:=q i W r;exact ⟨na,nc,xa,xc,ta,tl,tc,hw.ag c,(c.cell (O9 w _ f)).trans f,(c.cell (O9 w _ g)).trans g,(c.cell (O9 w _ j)).trans j,(c.cell (O9 w _ m)).trans m,(c.cell (O9 w _ o)).trans o⟩
def wK{w:WD}{S a:Nat->Prop}(h:∀k,a k->S k\/w.heap.size<=k){b}(d:¬S b)(e:b<w.heap.size):¬a b:=λs=>by obtain c|c:=h b s;exact d c;omega
def oB.from{w:WD}{S c}(h:∀k,c k->S k\/w.heap.size<=k){a}(f:oB S a)(d:∀b o,a=some (AD b o)->b<w.heap.size):oB c a:=λb o e=>wK h (f b o e) (d b o e)
def dq.lt{w a n f}(h:dq w a n f)(g:0<n):∀b o,a=some (AD b o)->b<w.heap.size:=λb o e=>by obtain ⟨i,j,c,d⟩:=h;rw [c]at e;cases e;exact O9 w _ (d 0 g)
def mU.ax{S S' w f na n xa ta tl tc W}(h:mU S w na n xa ta tl tc W)(g:0<n)(c:aj S w f)(d:∀k,S' k->S k\/w.heap.size<=k)(a:∀k,S' k->k<f.heap.size):mU S' f na n xa ta tl tc W:=
 ⟨h.bw.ax c h.sep.1,h.next.ax c h.sep.2.1,cL h.bQ c h.sep.2.2,by obtain ⟨i,j,e,a⟩:=h.qu;exact ⟨i,j,e,Ps a c.size⟩,h.bS,h.bits,a,
  h.sep.1.from d (h.bw.lt g),h.sep.2.1.from d (h.next.lt g),h.sep.2.2.from d (λb o e=>by obtain ⟨i,j,m,a⟩:=h.qu;rw [m]at e;cases e;exact a)⟩
def kW.ax{S S' w m a k n l}(h:kW S w a k n l)(y:0<n)(c:aj S w m)(o:∀k,S' k->S k\/w.heap.size<=k)(x:∀k,S' k->k<m.heap.size):kW S' m a k n l:=by refine ⟨h.1,?_⟩;obtain f|⟨b,j,e,d,p⟩:=h.2;exact .inl f;obtain f|f:=Qv k;exact .inl f;refine .inr ⟨b,j,e,?_,λi W v=>?_⟩;obtain ⟨W,u⟩:∃W,l[0]? =some W:=⟨_,Pe (ZR h.1 f)⟩;have⟨_,_,_,_,_,_,_,_,g,_⟩:=p 0 W u;exact wK o d (O9 w _ g);have⟨na,nc,xa,xc,ta,tl,tc,hw,g,q,r,s,t⟩:=p i W v;exact ⟨na,nc,xa,xc,ta,tl,tc,hw.ax y c o x,c.aq g d,c.aq q d,c.aq r d,c.aq s d,c.aq t d⟩
def LP(s h:WD)(n i j m c d:Nat)(o p g:Value)(L F b:List Wy)(r:OA)(q:Nat)(wr:WD):Prop:=
 ∃a f e,Ii s wr n i j m c d o p a f e/\yx n L f F/\aj (eU c d g) h wr/\(∀k,a.ownBlock=some k->g.ownBlock=some k\/h.heap.size<=k)/\kW (eU c d a) wr r q n b
def LP.call{K q wr c M n x y z d f A B p a L F G v b J I e}(Q:0<n)
 (s:yx n L v F) (E:aj (eU d f p) q wr) (H:∀k,a.ownBlock=some k->p.ownBlock=some k\/q.heap.size<=k) (hw:kW (eU d f a) wr J I n b) (D:BW wr c)
 (h:Dd K c n x y z d f A B a v G e M):e=RT (.tuple #[])/\LP K q n x y z d f A B p L (F++G) b J I M:=by
 obtain ⟨O,u,N,t,g,r,m,o⟩:=h
 have j:aj (eU d f p) q c:=E.then (T:=λk=>wr.heap.size<=k) (aj.aC D) (λi P C=>ZH E.size)
 refine ⟨O,u,N,t,g,s.trans r,j.then (T:=eU d f a) m (λi P C=>?_),λk h=>?_,(hw.ag D).ax Q m (λk h=>?_) g.dY⟩
 obtain h|h|h:=C
 exact .inl h
 exact .inr (.inl h)
 obtain h|h:=H i h
 exact .inr (.inr h)
 omega
 obtain h|h:=o k h
 exact H k h
 exact .inr (PG j.size h)
 obtain h|h|h:=h
 exact .inl (.inl h)
 exact .inl (.inr (.inl h))
 exact (o k h).imp (λh=>.inr (.inr h)) id
def Hw{α β:Type}(g:α->List β)(l:List α)(j c)(h:l[j]? =some c):(l.take (j+1)).flatMap g=(l.take j).flatMap g++g c:=by rw [Qf,h];simp
def Bk{α β:Type}(g:α->List β)(l:List α)(j):((l.take j).flatMap g).length<=(l.flatMap g).length:=by
 have:l.flatMap g=(l.take j).flatMap g++(l.drop j).flatMap g:=by rw [<-List.flatMap_append,Tn]
 rw [this,Pk];omega
def Tryz.Lj:(prog.info? 199).map (λi=>(i.zero,i.size,i.bytes))=some (some (.agg #[UV 0,UV 0,.string .empty,.string .empty]),4,48):=ZK
def aT(w:WD)(a t i v)(h:a[i]? =some v):(w.alloc (CE a t)).cell? (AD w.heap.size i)=some v/\(w.alloc (CE a t)).frozen? (AD w.heap.size i)=false:=
 ⟨(Py (w:=w) _ t w.heap.size i rfl).trans h,R7 _ _ _ _ rfl⟩
def wZ{w g q r s t f k m o}(u:w.cell? (AD g 0)=some q)(x:w.cell? (AD g 1)=some r)(y:w.cell? (AD g 2)=some s)(z:w.cell? (AD g 3)=some t)(b)
 (e:b=(((w.setCell (AD g 0) f).setCell (AD g 1) k).setCell (AD g 2) m).setCell (AD g 3) o):
 b.cell? (AD g 0)=some f/\b.cell? (AD g 1)=some k/\b.cell? (AD g 2)=some m/\b.cell? (AD g 3)=some o/\∀B d,B<=g->Below B d w->Below B d b:=by
 subst e
 have C:∀{i j:Nat},i≠j->((AD g i):Addr)≠(AD g j):=λh e=>h (by cases e;rfl)
 have a:∀(W:WD)(i j:Nat)(v:Value),i≠j->(W.setCell (AD g i) v).cell? (AD g j)=W.cell? (AD g j):=λW i j v h=>PQ _ _ _ _ (dX (Rz h))
 refine ⟨?_,?_,?_,?_,λB d c A=>(((A.setCell (p:=(AD g 0)) c _).setCell (p:=(AD g 1)) c _).setCell (p:=(AD g 2)) c _).setCell (p:=(AD g 3)) c _⟩
 rw [a _ _ _ _ ZD,a _ _ _ _ ZD,a _ _ _ _ ZD]
 exact P4 (h:=u) ..
 rw [a _ _ _ _ ZD,a _ _ _ _ ZD]
 exact P4 (h:=(a _ _ _ _ ZD).trans x) ..
 rw [a _ _ _ _ ZD]
 exact P4 (h:=(a _ _ _ _ ZD).trans ((a _ _ _ _ ZD).trans y)) ..
 exact P4 (h:=(a _ _ _ _ ZD).trans ((a _ _ _ _ ZD).trans ((a _ _ _ _ ZD).trans z))) ..
def PR(d:Nat)(f:Nat->Bool)(n:Nat)(v:Value)(w:WD):Prop:=∃a m c,v=SL a m c/\aG .i64 w a m (cN f n)/\(∀b o,a=some (AD b o)->d<=b/\b<w.heap.size)/\(a=none->m=0/\c=0)
def PR.ag{d f n v w w'}(h:PR d f n v w)(i:BW w w'):PR d f n v w':=by obtain ⟨a,m,c,e,k,g,j⟩:=h;exact ⟨a,m,c,e,k.ag i,λb o e=>⟨(g b o e).1,Ps (g b o e).2 i.size⟩,j⟩
def PR.dI{i f n m c a w j}(r:i<=w.heap.size)(h:aF .i64 3 w j (SL a m c) (cN f n)):PR i f n (SL a m c) j:=by
 have⟨t,u,e,s⟩:=lK h;cases e
 refine ⟨_,_,_,rfl,s,λb o e=>?_,λe=>?_⟩;subst e;exact ⟨PG r (h.2.2 b rfl),h.1.lt b rfl⟩;subst e;obtain ⟨d,q⟩|⟨g,k,p,d,-⟩:=h.1.2;exact ⟨q,(P8 d).2.2⟩;cases (P8 d).1
def D9{w o a K Q}(s x)
 (H:o.op=.call {callee:=.builtin .append,args:=#[s,x],argTypes:=#[153,153]})
 (v n A) (J:a.eval s=v) (G:w.ownsRow 0 119 4 v n A)
 (t c d) (L:a.eval x=SL (some t) 1 c) (N:d.length=4) (f:∀j u,d[j]? =some u->w.cell? (t.add j)=some u) (D:∀u∈d,u.oneCell'=true) (C:n+1<=33554432)
 (h:∀i m g,g.ownsRow 0 119 4 (SL i (n+1) m) (n+1) (A++d)->aj (λk=>v.ownBlock=some k) w g->(∀b,(SL i (n+1) m).ownBlock=some b->v.ownBlock=some b\/w.heap.size<=b)->K (a.put o.dst (SL i (n+1) m)) g):aY prog o a w K Q:=by
 have⟨r,F,M,z,E⟩:=P6 Tryz.Fb
 constructor
 have⟨O,g,I,B,p,_,q⟩:=Tk (P:=prog) w 0 153 o.type 119 r _ 4 64 underlying153 F M z E rfl ZD v n A G t 1 c d ZO f D (by unfold maxLen;omega) ZO (Pz _)
 unfold Oper.wp execOp
 simp only [H,resolve,invoke,builtin,Rv,R6,Q9,Rm,Pv,PE,J,L,I]
 have y:aj (λk=>v.ownBlock=some k) w g:=⟨p.os,p.tape,p.output,p.size,λk y C=>p.block k y (λe=>C e.symm)⟩
 obtain ⟨i,m,rfl⟩:=bF B
 refine h i m g B y (λb e=>?_)
 obtain q|q:=q
 rw [q]at e;exact .inl e
 rw [q]at e;cases e;exact .inr (Pf _)
def Mz(w):(zeroValue 4).run prog w=.ok (.bool false) w:=by have a:Tryz.t4.zero=some (Value.bool false):=ZK;unfold zeroValue;simp [a]
def Fi{n:Nat}(h:n<18446744073709551616):(Lit.int .u64 n).wf=true:=by show(decide (IntKind.u64.min<=(n:Int))&&decide ((n:Int)<=IntKind.u64.max))=true;have a:IntKind.u64.min=0:=rfl;have b:IntKind.u64.max=18446744073709551615:=rfl;rw [a,b,Qk];exact ⟨PX ZO,PX ZO⟩
def wG(n f):(gp n f).size=n:=by show(jE n f).toArray.size=n;rw [Sd,nW]
def Gu(w0 fa n fc f)(hf:FA w0 fa n f)(hN:Fm.gR f)(cC:eh f)(hn:n<=50)(bf bg bt M mb m)(IH:De w0 fa n fc f bf bg bt M mb m):De w0 fa n fc f bf bg bt M mb (m+1):=by
 intro w v vo W L rs hI ⟨na,nc,xa,xc,ta,tl,tc,I,hW⟩ cw dE a8 ar;subst I;have HF:=O8 hf;have c1:=O8 hN;have c3:=O8 cC;have cV:=O8 IH;have HI:=O8 hI;have HW:=O8 hW;have cU:=O8 cw;have bu:=O8 a8;have aL:=O8 ar;have ck:Hid (0<n):=by rw [<-hf.size];exact Fm.br f
 have dA:=hW.bA;have a3:Hid (∀w1,w1=w.alloc (CE #[UV W.need,UV W.ban,SL na n nc,SL xa n xc,SL ta tl tc] 193)->L1 (eU M mb vo) w w1 n W na nc xa xc ta tl tc W.bQ):=λw1 e=>by obtain ⟨dj,-,hq⟩:=wJ _ _ _ _ _ _ _ w1 e;exact ⟨hq,dj,hW.bQ,rfl,λ_ h=>h,Pf _,hW.CT,hW.bS,hW.sep.2.2⟩
 clear hf hN cC IH hI hW cw a8 ar;have⟨F,hF⟩:=EX (eH f (m+1) W);rw [hF]at aL⊢;have cb:=O8 hF;clear hF;go_enter func140,ntmps140;go_upto_block 0 with(fail);go_cut []from 10 to 27 (λwc=>∃aa ac ab l,Hid (L1 (eU M mb vo) w wc n W na nc xa xc aa ac ab l)/\Hid (CA wc w.heap.size 4 (SL aa ac ab))/\Hid (l=[]\/∃p r,l=p::r/\W.bw p=false));case rest=>
  clear a3;obtain ⟨bV,an,D,l,C,aU,bM⟩:=hcut;have al:l.length=an:=by have:=C.o.row.1;rwa [aD]at this
  have c4:=aU.o;have f4:=(C.o.q 4 (SL bV an D) rfl).2;have aq:=C.o.bS;have ak:=C.o.bA;cases l with
  |nil=>
   obtain rfl:an=0:=ZX al.symm;clear al;have ay:Hid (F=[{W with bQ:=[]}]):=by show F=_;rw [<-cb.o];exact Gp (C.o.skip.symm.trans rfl)
   have aG:=O8 (HI.o.ag C.o.aJ);have ao:=O8 (C.o.OW HW.o);have b8:Hid (BW w wc):=C.o.aJ;have a4:Hid (w.heap.size<wc.heap.size):=O9 _ _ c4;have q0:=(C.o.q 0 (UV W.need) rfl).1;have q1:=(C.o.q 1 (UV W.ban) rfl).1;have q2:=(C.o.q 2 (SL na n nc) rfl).1;have q3:=(C.o.q 3 (SL xa n xc) rfl).1;have HQ:Hid (∀B,Below wc.drew.heap.size wc.drew B->CA B w.heap.size 0 (UV W.need)/\CA B w.heap.size 1 (UV W.ban)/\CA B w.heap.size 2 (SL na n nc)/\CA B w.heap.size 3 (SL xa n xc)):=λd z=>by have z:BW wc d:=(Pn _ _).drew.trans z;have k1:∀{q i:Nat}{v:Value},CA wc q i v->CA d q i v:=λh=>(z.cell (O9 wc _ h)).trans h;exact ⟨k1 q0,k1 q1,k1 q2,k1 q3⟩
   have a2:Hid (∀d,Below wc.drew.heap.size wc.drew d->CL 143 #[SL xa n xc] d λe A=>e=RT (.string (gp n W.next))/\BW d A):=λd z=>BJ xa n xc W.next d (ao.o.next.ag ((Pn _ _).drew.trans z)) ZO;have aF:Hid (∀d,Below wc.drew.heap.size wc.drew d->CL 143 #[SL na n nc] d λe A=>e=RT (.string (gp n W.bw))/\BW d A):=λd z=>BJ na n nc W.bw d (ao.o.bw.ag ((Pn _ _).drew.trans z)) ZO;have⟨du,bF,bR,bL,bC⟩:=P6 Tryz.Lj;clear C aU bM f4 aq ak;go_upto_region 11 with(fail);refine aw 12 (S:=λB=>CA B w.heap.size 0 (UV W.need)/\CA B w.heap.size 1 (UV W.ban)/\CA B w.heap.size 2 (SL na n nc)/\CA B w.heap.size 3 (SL xa n xc)) ZK (⟨q0,q1,q2,q3⟩) (λP=>?_);refine aB 0 ?_;refine aB 1 ?_;refine aB 2 ?_;refine aB 3 ?_;refine aB 4 ?_;refine aB 5 ?_;refine aB 7 ?_;refine aB 8 ?_;clear P;refine bY [6,9,10,11] (λi=>if i=6 then 61 else if i=9 then 64 else if i=10 then 65 else 9) #[true,true,true,true,true,true,true,true,true,true,true,true,false] 1
    (λi v w=>match i with|6=>v=.string (gp n W.next)|9=>v=.string (gp n W.bw)|10=>v=mS n W|_=>∃b,v=PT b/\wc.heap.size<=b/\∀i v,(#[UV 0,UV 0,.string .empty,.string .empty]:Array Value)[i]? =some v->CA w b i v/\FZ w b i) ZK ZK rfl ZD ?sL1 ?sL2 ZD ?sL3 ?sL4
   case sL1=>
    intro i v w4 O I z;split at I
    ·exact I
    ·exact I
    ·exact I
    ·obtain ⟨b,e,h1,h⟩:=I;exact ⟨b,e,h1,λi v I=>dy z (h i v I)⟩
   case sL2=>exact HQ.o
   case sL3=>
    rintro l V d i o C cu hi T hr hJ K G;simp only [PO,QL,Sh]at hi;obtain rfl|rfl|rfl|rfl:=hi
    ·simp only [PA,Pt,Pu,PJ]at T;subst T
     refine aO (R:=λe A=>e=RT (.string (gp n W.next))/\BW d A) (f:=143) (args:=#[SL xa n xc]) (a2.o d hJ.aJ) ?_ (λe w4 ⟨he,z⟩=>⟨_,he,G _ w4 z rfl⟩);clear G;refine ZY ?_;go_simp
    ·simp only [PA,Pt,Pu,PJ]at T;subst T
     refine aO (R:=λe A=>e=RT (.string (gp n W.bw))/\BW d A) (f:=143) (args:=#[SL na n nc]) (aF.o d hJ.aJ) ?_ (λe w4 ⟨he,z⟩=>⟨_,he,G _ w4 z rfl⟩);clear G;refine ZY ?_;go_simp
    ·simp only [PA,Pt,Pu,PJ]at T;subst T
     have h6:=hJ.oZ 6 ZD (bj (l:=[6,9]) ZK hr 6 ZS);have h9:=hJ.oZ 9 ZD (bj (l:=[6,9]) ZK hr 9 ZS);change V 61=_ at h6;change V 64=_ at h9;refine cB (v:=mS n W) (w':=d) ?_ (G _ _ (Pn _ _) rfl);clear G;refine ZY ?_;rw [h6,h9];go_simp;rfl
    ·simp only [PA,Pt,Pu,PJ]at T;subst T
     refine cB (v:=PT d.heap.size) (w':=d.alloc (CE #[UV 0,UV 0,.string .empty,.string .empty] 199)) ?_ (G _ _ ((Pn _ _).alloc (Pf _) _) ⟨_,rfl,hJ.aJ.size,aT d _ _⟩);clear G;refine ZY ?_;go_simp;rfl
   case sL4=>
    intro V d ap hV;refine ZY ?_;have aH:=hV 10 ZD;have⟨gb,aI,cx,aV⟩:=hV 11 ZD;change V 65=.agg #[UV W.need,UV W.ban,.string (gp n W.next),.string (gp n W.bw)]at aH;change V 9=_ at aI;rw [aH,aI];have⟨b0,g0⟩:=aV 0 (UV 0) rfl;have⟨b1,g1⟩:=aV 1 (UV 0) rfl;have⟨b2,g2⟩:=aV 2 (.string .empty) rfl;have⟨b3,g3⟩:=aV 3 (.string .empty) rfl;have HG:=O8 cx;have b9:Hid (BW wc d):=(Pn _ _).drew.trans ap;clear hV aH aI aV ap cx;refine aK 12 λK G=>?_;go_simp;refine G.q ?_;clear G K;refine az ZK ?_;have⟨w8,bP⟩:=EX (((((d.setCell (AD gb 0) (UV W.need)).setCell (AD gb 1) (UV W.ban)).setCell (AD gb 2) (.string (gp n W.next))).setCell (AD gb 3) (.string (gp n W.bw))));rw [bP];have⟨k0,k1,k2,k3,cs⟩:=wZ b0 b1 b2 b3 w8 bP.symm;have ah:Hid (BW wc w8):=cs _ _ HG.o b9.o;have E:=O8 (aG.o.ag ah.o);have di:=E.o.ct;have⟨kl,bH⟩:=M0 (a:=(W.need:Int)) (b:=(W.ban:Int)) (s:=gp n W.next) (t:=gp n W.bw) (Fi ao.o.bits.1) (Fi ao.o.bits.2) (by rw [wG];unfold maxLen;omega) (by rw [wG];unfold maxLen;omega);have cX:=O8 bH;have Q:=E.o.map.look Js underlying190 (Mz w8) bH;clear bH bP cs b0 b1 b2 b3 g0 g1 g2 g3 b9;have ca:Hid (aj (eU M mb vo) w w8):=aj.mono (aj.aC (af b8.o ah.o)) λk hk h=>absurd h ZO;have cl:Hid (w.heap.size<=w8.heap.size):=PG b8.o.size ah.o.size;by_cases hY:∃Y∈L,mS n W=mS n Y
    ·obtain ⟨Y,aP,bB⟩:=hY;have HY:=O8 (And.intro aP bB)
     rw [show uF n L (.agg #[UV W.need,UV W.ban,.string (gp n W.next),.string (gp n W.bw)])=some (.bool true)from CU aP bB]at Q;change _=Result.ok (Value.bool true) w8 at Q;clear aP bB;go_wp2;refine R9 (Rq ZK ..) rfl ?_;refine ⟨rfl,vo,L,rs,E.o,?_,ca.o,λk h=>.inl h⟩;rw [ay.o];exact ⟨λZ h=>.inl h,λZ h=>h,λZ h=>by rw [Pc]at h;subst h;exact ⟨Y,HY.o.1,(Jq HY.o.2).symm⟩,ZS⟩
    ·rw [show uF n L (.agg #[UV W.need,UV W.ban,.string (gp n W.next),.string (gp n W.bw)])=none from L0 (Z:=W) (λY aP e=>hY ⟨Y,aP,e⟩)]at Q;change _=Result.ok (Value.bool false) w8 at Q
     have dv:=O8 hY;have ce:Hid (L.length+1<=33554432):=by have:=aL.o;rw [ay.o]at this;exact this
     have⟨J,cG,cA,cy⟩:=E.o.map.put Js underlying190 (by have:=ce.o;unfold maxLen;omega) cX.o (.bool true);have cZ:=O8 cA;have X:=O8 cy;clear hY cA cy;go_upto_region 14 with(fail);have au:w.heap.size≠mb:=ZH HI.o.map.lt;have bk:¬M=mb:=λe=>E.o.ap.1.2.2.2 e.symm;have r0:=X.o.aq ((ah.o.cell a4.o).trans q0) (λe=>au e);have r1:=X.o.aq ((ah.o.cell a4.o).trans q1) (λe=>au e);have r2:=X.o.aq ((ah.o.cell a4.o).trans q2) (λe=>au e);have r3:=X.o.aq ((ah.o.cell a4.o).trans q3) (λe=>au e);have r4:=X.o.aq E.o.co (λe=>bk e);have cT:Hid (FZ J M 0):=(PK (X.o.block M (O9 _ _ E.o.co) bk)).trans E.o.fo;have cS:=O8 r4;have be:Hid (J.ownsRow 0 119 4 vo L.length (ew L rs)):=bp E.o.cO X.o (λg e s=>(E.o.IS g e).2.2.2.2 s);have db:Hid (dq J xa n W.next):=((ao.o.next.ag ah.o).ax X.o (λb o e s=>ao.o.sep.2.1 b o e (.inr (.inl s))));have da:Hid (dq J na n W.bw):=((ao.o.bw.ag ah.o).ax X.o (λb o e s=>ao.o.sep.1 b o e (.inr (.inl s))));have c8:Hid (∀B,Below J.drew.heap.size J.drew B->CA B w.heap.size 0 (UV W.need)/\CA B w.heap.size 1 (UV W.ban)/\CA B w.heap.size 2 (SL na n nc)/\CA B w.heap.size 3 (SL xa n xc)/\CA B M 0 vo):=λd z=>by have z:BW J d:=(Pn _ _).drew.trans z;have k1:∀{q i:Nat}{v:Value},CA J q i v->CA d q i v:=λh=>(z.cell (O9 J _ h)).trans h;exact ⟨k1 r0,k1 r1,k1 r2,k1 r3,k1 r4⟩
     have c5:Hid (∀d,Below J.drew.heap.size J.drew d->CL 144 #[SL xa n xc] d λe A=>∃v,e=RT v/\PR J.heap.size W.next n v A/\BW d A):=λd z=>(xK xa n xc W.next d (db.o.ag ((Pn _ _).drew.trans z)) ZO).mono λe A ⟨a',m',c',he,hm⟩=>⟨_,he,PR.dI z.size hm,hm.2.1⟩;have cj:Hid (∀d,Below J.drew.heap.size J.drew d->CL 144 #[SL na n nc] d λe A=>∃v,e=RT v/\PR J.heap.size W.bw n v A/\BW d A):=λd z=>(xK na n nc W.bw d (da.o.ag ((Pn _ _).drew.trans z)) ZO).mono λe A ⟨a',m',c',he,hm⟩=>⟨_,he,PR.dI z.size hm,hm.2.1⟩;have⟨dt,dm,dp,dn,dk⟩:=P6 Tryz.Fb;clear Q cG k0 k1 k2 k3 di au q0 q1 q2 q3 c4 bF bR bL bC;refine aw 13 (S:=λB=>CA B w.heap.size 0 (UV W.need)/\CA B w.heap.size 1 (UV W.ban)/\CA B w.heap.size 2 (SL na n nc)/\CA B w.heap.size 3 (SL xa n xc)/\CA B M 0 vo) ZK (⟨r0,r1,r2,r3,r4⟩) (λP=>?_);refine aB 0 ?_;refine aB 1 ?_ [12,11,2,1];refine aB 2 ?_ [12,11,2];refine aB 3 ?_ [12,11,4,3];refine aB 4 ?_ [12,11,4];refine aB 5 ?_ [10,7,6,5];refine aB 6 ?_ [10,7,6];refine aB 8 ?_ [10,9,8];refine aB 9 ?_ [10,9];clear P;refine bY [7,10,11,12] (λi=>if i=7 then 79 else if i=10 then 82 else if i=11 then 83 else 84) #[true,true,true,true,true,true,true,true,true,true,true,true,true,false,false] 2
      (λi v w=>match i with|7=>PR J.heap.size W.next n v w|10=>PR J.heap.size W.bw n v w|11=>∃x y,v=.agg #[UV W.need,UV W.ban,x,y]/\PR J.heap.size W.next n x w/\PR J.heap.size W.bw n y w|_=>∃b x y,v=SV b 1 1/\(∀i u,(#[UV W.need,UV W.ban,x,y]:Array Value)[i]? =some u->CA w b i u/\FZ w b i)/\PR J.heap.size W.next n x w/\PR J.heap.size W.bw n y w) ZK ZK rfl ZD ?sM1 ?sM2 ZD ?sM3 ?sM4
     case sM1=>
      intro i v w4 O I z;split at I
      ·exact PR.ag I z
      ·exact PR.ag I z
      ·obtain ⟨x,y,e,h1,h2⟩:=I;exact ⟨x,y,e,h1.ag z,h2.ag z⟩
      ·obtain ⟨b,x,y,e,h,h1,h2⟩:=I;exact ⟨b,x,y,e,λi u hu=>dy z (h i u hu),h1.ag z,h2.ag z⟩
     case sM2=>exact c8.o
     case sM3=>
      rintro l V d i o C cu hi T hr hJ K G;simp only [PO,QL,Sh]at hi;obtain rfl|rfl|rfl|rfl:=hi
      ·simp only [PA,Pt,Pu,PJ]at T;subst T
       refine aO (R:=λe A=>∃v,e=RT v/\PR J.heap.size W.next n v A/\BW d A) (f:=144) (args:=#[SL xa n xc]) (c5.o d hJ.aJ) ?_ (λe w4 ⟨v,he,I,z⟩=>⟨v,he,G v w4 z I⟩);clear G;refine ZY ?_;go_simp
      ·simp only [PA,Pt,Pu,PJ]at T;subst T
       refine aO (R:=λe A=>∃v,e=RT v/\PR J.heap.size W.bw n v A/\BW d A) (f:=144) (args:=#[SL na n nc]) (cj.o d hJ.aJ) ?_ (λe w4 ⟨v,he,I,z⟩=>⟨v,he,G v w4 z I⟩);clear G;refine ZY ?_;go_simp
      ·simp only [PA,Pt,Pu,PJ]at T;subst T
       have h7:PR _ _ _ _ _:=hJ.oZ 7 ZD (bj (l:=[7,10]) ZK hr 7 ZS);have cr:PR _ _ _ _ _:=hJ.oZ 10 ZD (bj (l:=[7,10]) ZK hr 10 ZS);refine cB (v:=.agg #[UV W.need,UV W.ban,V 79,V 82]) (w':=d) ?_ (G _ _ (Pn _ _) ⟨_,_,rfl,h7,cr⟩);obtain ⟨_,_,_,e7,-⟩:=h7;obtain ⟨_,_,_,aH,-⟩:=cr;change V 79=_ at e7;change V 82=_ at aH;clear G;refine ZY ?_;rw [e7,aH];go_simp
      ·simp only [PA,Pt,Pu,PJ]at T;subst T
       have⟨x,y,aI,hx,hy⟩:=hJ.oZ 11 ZD (bj (l:=[11]) ZK hr 11 ZS);change V 83=_ at aI;have z:BW d (d.alloc (CE #[UV W.need,UV W.ban,x,y] 119)):=(Pn _ _).alloc (Pf _) _;refine cB (v:=SV d.heap.size 1 1) (w':=d.alloc (CE #[UV W.need,UV W.ban,x,y] 119)) ?_ (G _ _ z ⟨_,x,y,rfl,aT d _ _,hx.ag z,hy.ag z⟩);obtain ⟨_,_,_,rfl,-⟩:=hx;obtain ⟨_,_,_,rfl,-⟩:=hy;clear G;refine ZY ?_;rw [aI];go_simp
     case sM4=>
      intro V d ap hV;refine ZY ?_;obtain ⟨gl,x,y,bx,cv,⟨pa,pl,pc,rfl,cD,cE,cF⟩,⟨ra,rl,rc,rfl,cH,aZ,cJ⟩⟩:=hV 12 ZD;change V 84=_ at bx;have aF:BW J d:=(Pn _ _).drew.trans ap;have bd:d.ownsRow 0 119 4 vo L.length (ew L rs):=bp be.o (aj.aC aF) (λg e s=>QE _ (Ps (dx be.o g e) s));have⟨o1,o2⟩:=dy aF ⟨cS.o,cT.o⟩;refine aK 13 λK G=>?_;rw [PW (by rfl)];apply aY.o;refine D9 (.tmp 72) (.tmp 84) rfl vo L.length (ew L rs) rfl bd (AD gl 0) 1 [UV W.need,UV W.ban,SL pa pl pc,SL ra rl rc] bx rfl (λj u hj=>?_) ZV ce.o (λa6 c6 w6 cz a7 cN=>?_)
      ·rw [QK,PU];exact (cv j u (ZX hj)).1
      have bD:¬vo.ownBlock=some M:=λe=>(E.o.IS M e).2.2.2.1 rfl;have o6:=a7.aq o1 bD;have f6:=(PK (a7.block M (O9 _ _ o1) bD)).trans o2;have c7:=O8 (E.o.dT (Z:={W with bQ:=[]}) (w2:=J) (w3:=d) (w4:=w6) cZ.o X.o aF cD cE cF cH aZ cJ cz a7 cN);refine G.q ?_;clear G K hV bx cv cD cE cF cH aZ cJ aF bd o1 o2 cz a7 cN bD ap;refine aK 14 λK G=>?_;go_simp;refine G.q ?_;clear G K;refine az ZK ?_;refine R9 (Rq ZK ..) rfl ?_;have⟨p1,p2,p3⟩:=c7.o;refine ⟨rfl,_,_,_,p1,?_,ca.o.then p2 (λ_ _ h=>h),λk h=>(p3 k h).imp id (λh=>PG cl.o h)⟩;rw [ay.o];exact ⟨λZ h=>PC.1 h,λZ h=>P0 _ h,λZ h=>⟨Z,Qt _ h,rfl⟩,ZS⟩
  |cons p r=>
   obtain rfl:an=r.length+1:=ZX al.symm;obtain ⟨U,tq,rfl,av⟩:=C.o.OK (Nat.succ_pos _);have bh:=O8 av;clear av;have aC:Hid (W.bw p=false):=by rcases bM.o with h|⟨_,_,h,h2⟩<;>cases h;exact h2
   have aX:p<n:=bu.o p (C.o.sub p (P2 ..));obtain ⟨x,hx⟩:∃x,(Fm.aI f)[p]? =some x:=⟨_,Pe (by have:=HF.o.size;unfold Fm.size at this;omega)⟩;have HX:=O8 hx;have dh:=O8 (nE c1.o p x hx);have ay:Hid (F=(split x p (Wy.dI {W with bQ:=r} p)).flatMap (eH f m)):=by
    show F=_;rw [<-cb.o];refine Gq ?_ hx;rw [<-C.o.skip];conv=>lhs;unfold iC
    rw [Qa (by rw [aC.o];decide)]
   have c9:Hid (∀q∈r,q<n):=λq hq=>bu.o q (C.o.sub q (Qc _ hq));clear hx;have hT:Hid (∀N,(D=1->N=some (AD U tq))->(D≠1->N=some (AD U (tq+1)))->L1 (eU M mb vo) w (wc.setCell (AD w.heap.size 4) (SL N r.length (D-1))) n {W with bw:=λ_=>true} na nc xa xc N r.length (D-1) r):=λN h1 h2=>C.o.any.tail rfl h1 h2;have⟨k,hk⟩:=EX r.length;have HK:=O8 hk;rw [hk]at c4 aq C hT;rw [P9,hk]at ak;have ct:CA wc U tq (IV p):=by
    obtain ⟨-,h0|⟨b,dr,e,aA⟩⟩:=C.o.row.ag C.o.aJ
    ·omega
    ·cases e
     have:=aA 0 ZO;rw [SS]at this;exact this
   have bn:(0:Int)<k+1:=ZO;have a0:0<k+1:=ZO;clear al;go_upto_region 6 with(fail);have⟨N,aQ⟩:=EX ((if D=1 then some (AD U tq)else some (AD U (tq+1)):OA));have ai:=O8 (hT.o N (λe=>by rw [<-aQ,PW e]) (λe=>by rw [<-aQ,Qa e]));rw [aQ];have bq:Hid (∃o,N=some (AD U o)):=by
    rw [<-aQ];split
    ·exact ⟨_,rfl⟩
    ·exact ⟨_,rfl⟩
   clear hT aQ c4 f4 ct bn a0;have⟨am,bm⟩:=EX (D-1);rw [bm]at ai⊢;have⟨O,a9⟩:=EX (wc.setCell (AD w.heap.size 4) (SL N k am));rw [a9]at ai⊢;clear a9 bM aU C aq bm;have⟨S0,bA⟩:=EX (eU M mb vo);have⟨H,aM⟩:=EX (Wy.dI {W with bQ:=r} p);rw [aM]at ay;have cm:=O8 aM;have dc:=O8 bA;have a1:Hid (BW w O):=ai.o.aJ;have b7:Hid (∃U tq,N=some (AD U tq)/\U<O.heap.size):=by have⟨o,e⟩:=bq.o;exact ⟨U,o,e,Ps bh.o a1.o.size⟩
   have co:Hid (mU S0 O.drew na n xa N k am {W with bQ:=r}):=by rw [<-bA];exact (ai.o.wy HW.o b7.o).ag (Pn _ _).drew
   have aG:=O8 (HI.o.ag a1.o);have c0:Hid (∀d,Below O.drew.heap.size O.drew d->CL 141 #[gi W.need W.ban na n nc xa xc N k am,IV p] d (iI S0 d n H)):=λd z=>by rw [<-aM];exact JA (co.o.ag z) p aX ZO
   have dd:Hid (∀d ba bT bb b5 aa ac ab,Below O.drew.heap.size O.drew d->mU S0 d ba n bb aa ac ab H->CL 142 #[gi H.need H.ban ba n bT bb b5 aa ac ab,SL fa n fc,IV p] d (cM S0 d n (split x p H))):=λd ba bT bb b5 aa ac ab z hw=>by have ar:=hw.bA;rw [<-aM]at ar;change r.length=_ at ar;exact Hl x dh.o S0 ba n bT bb b5 aa ac ab H fa fc f p d hw (HF.o.ag (aG.o.aJ.trans (Below.mono (Below.trans (Pn _ _).drew z) aG.o.aJ.size))) c3.o HX.o ZO ZO
   have q0:=(ai.o.q 0 (UV W.need) rfl).1;have q1:=(ai.o.q 1 (UV W.ban) rfl).1;have q2:=(ai.o.q 2 (SL na n nc) rfl).1;have q3:=(ai.o.q 3 (SL xa n xc) rfl).1;have q4:=(ai.o.q 4 (SL N k am) rfl).1;have cf:=aG.o.cf;have HQ:Hid (∀d,Below O.drew.heap.size O.drew d->CA d w.heap.size 0 (UV W.need)/\CA d w.heap.size 1 (UV W.ban)/\CA d w.heap.size 2 (SL na n nc)/\CA d w.heap.size 3 (SL xa n xc)/\CA d w.heap.size 4 (SL N k am)/\CA d bf 0 (SL fa n fc)):=λd z=>by have z:BW O d:=(Pn _ _).drew.trans z;have k1:∀{q i:Nat}{v:Value},CA O q i v->CA d q i v:=λh=>(z.cell (O9 O _ h)).trans h;exact ⟨k1 q0,k1 q1,k1 q2,k1 q3,k1 q4,k1 cf⟩
   clear aM bA;refine aw 6 (S:=λB=>CA B w.heap.size 0 (UV W.need)/\CA B w.heap.size 1 (UV W.ban)/\CA B w.heap.size 2 (SL na n nc)/\CA B w.heap.size 3 (SL xa n xc)/\CA B w.heap.size 4 (SL N k am)/\CA B bf 0 (SL fa n fc)) ZK (⟨q0,q1,q2,q3,q4,cf⟩) (λP=>?_);refine aB 0 ?_ [5,2,0];refine aB 1 ?_ [5,2,1];refine aB 3 ?_ [5,3];refine aB 4 ?_ [5,4];refine' aS (i:=7) (v:=_) rfl ZK (λ_ _ _ h=>h) (Or.inl ⟨by rfl,?hy7⟩) (by assumption) ?rest7;case hy7=>(intro d dz;go_simp;(try with_reducible rfl))
   try walk_nrm
   clear P;refine bY [2,5] (λi=>if i=2 then 42 else 45) #[true,true,true,true,true,true,false,true] 1
    (λi v w=>match i with|2=>kA S0 w v n H|_=>∃sa kk sc,v=SL sa kk sc/\kW S0 w sa kk n (split x p H)) ZK ZK rfl ZD ?st1 ?st2 ZD ?st3 ?st4
   case st1=>
    intro i v w4 O I z;split at I
    ·exact kA.ag I z
    ·obtain ⟨sa,kk,sc,e,h⟩:=I;exact ⟨sa,kk,sc,e,h.ag z⟩
   case st2=>exact HQ.o
   case st3=>
    rintro l V d i o C cu hi T hr hJ K G;simp only [PO,QL,Sh]at hi;obtain rfl|rfl:=hi
    ·simp only [PA,Pt,Pu,PJ]at T;subst T
     refine aO (R:=iI S0 d n H) (f:=141) (args:=#[gi W.need W.ban na n nc xa xc N k am,IV p]) (c0.o d hJ.aJ) ?_ (λe w4 ⟨v,he,I,z⟩=>⟨v,he,G v w4 z I⟩);clear G;refine ZY ?_;go_simp
    ·simp only [PA,Pt,Pu,PJ]at T;subst T
     have⟨dF,dG,dM,dN,dH,dJ,dI,bN,a9⟩:=hJ.oZ 2 ZD (bj (l:=[2]) ZK hr 2 ZS);change V 42=_ at bN;refine aO (R:=cM S0 d n (split x p H)) (f:=142) (args:=#[V 42,SL fa n fc,IV p]) (by rw [bN];exact dd.o d _ _ _ _ _ _ _ hJ.aJ a9) ?_ (λe w4 ⟨sa,kk,sc,he,I,z⟩=>⟨_,he,G _ w4 z ⟨sa,kk,sc,rfl,I⟩⟩);clear G bN;refine ZY ?_;go_simp
   case st4=>
    intro V d ap hV;refine ZY ?_;have⟨sa,kk,sc,e5,cP⟩:=hV 5 ZD;change V 45=_ at e5;rw [e5];have bv:=O8 cP;have a2:Hid (BW O d):=(Pn _ _).drew.trans ap;clear hV e5 cP ap;refine aK 6 λK G=>?_;go_simp;refine G.q ?_;clear G K;refine az ZK ?_;have cY:Hid (LP w0 O n bf bg bt M mb (SL fa n fc) (Il bf bg bt M) vo L [] (split x p H) sa kk d):=by refine ⟨vo,L,rs,aG.o.ag a2.o,yx.refl _ _,(aj.mono (aj.aC a2.o) λk hk h=>absurd h ZO),λk h=>.inl h,?_⟩;rw [dc.o];exact bv.o
    have cW:Hid (kk<=2):=by have:=bv.o.1;have:=CQ (x:=x) (p:=p) (w:=H);show kk<=2;omega
    have dC:=cW.o;have cd:Hid (∀c∈split x p H,fresh n c<m/\c.bQ.length+m<=100000/\∀q∈c.bQ,q<n):=λc hc=>by
     have h1:=Er hc;have aZ:H.bQ=r:=by rw [<-cm.o];rfl
     rw [aZ,HK.o]at h1;refine ⟨?_,ZO,Kg aX (by rw [aZ];exact λq hq=>c9.o q hq) hc⟩;have h2:fresh n c=fresh n H:=by unfold fresh;rw [zU hc]
     have h3:fresh n H<fresh n W:=by rw [<-cm.o];exact xd (w:={W with bQ:=r}) aX aC.o
     have:=cU.o;omega
    have dg:Hid (aj (eU M mb vo) w O):=aj.mono (aj.aC a1.o) λk hk h=>absurd h ZO;clear bv;go_wp2;go_loopw [47] (λx1 wr=>∃j:Nat,j<=kk/\x1=IV j/\Hid (LP w0 O n bf bg bt M mb (SL fa n fc) (Il bf bg bt M) vo L (((split x p H).take j).flatMap (eH f m)) (split x p H) sa kk wr)) (λx1 _=>kk-(intOf x1).toNat);exact ⟨0,Pz _,rfl,by simp only [Ri,List.flatMap_nil];exact cY⟩;obtain ⟨j,hj,rfl,bK⟩:=hrel;have⟨cR,cq,cQ,a5,bE,bI,aW,ae⟩:=bK.o;have bc:=O8 a5;have bs:=O8 bE;have cc:=O8 bI;have ci:=O8 aW;have cn:=O8 ae;by_cases a8:j<kk
    ·have ds:(j:Int)<kk:=ZO;obtain ⟨c,hc⟩:∃c,(split x p H)[j]? =some c:=⟨_,Pe (ZR ae.1 a8)⟩
     obtain ⟨wb,wo,rfl,-,aE⟩:=ae.2.resolve_left ZO;have⟨bS,bU,b4,b6,bW,bZ,bX,cO,e0,e1,e2,e3,e4⟩:=aE j c hc;have df:=O8 cO;have HC:=O8 hc;have cg:=a5.cg;clear a5 bE bI aW ae aE cO hc bK;go_upto_region 9 with(fail);have⟨w7,bO⟩:=EX (wr.alloc (CE #[UV c.need,UV c.ban,SL bS n bU,SL b4 n b6,SL bW bZ bX] 193));rw [bO];obtain ⟨aR,-,aJ⟩:=wJ _ _ _ _ _ _ _ w7 bO.symm;have i0:=(aJ 0 (UV c.need) rfl).1;have i1:=(aJ 1 (UV c.ban) rfl).1;have i2:=(aJ 2 (SL bS n bU) rfl).1;have i3:=(aJ 3 (SL b4 n b6) rfl).1;have i4:=(aJ 4 (SL bW bZ bX) rfl).1;have dw:=(aR.cell (O9 wr _ cg)).trans cg;have br:Hid (CL 140 #[gi c.need c.ban bS n bU b4 b6 bW bZ bX,PT bf,PT bg,PT bt,PT M] w7 λe w2=>e=RT (.tuple #[])/\LP w0 O n bf bg bt M mb (SL fa n fc) (Il bf bg bt M) vo L (((split x p H).take (j+1)).flatMap (eH f m)) (split x p H) (some (AD wb wo)) kk w2):=by have dl:c∈split x p H:=Pm HC.o;have⟨l1,l2,l3⟩:=cd.o c dl;have dD:=aL.o;have dB:=bs.o.2.2.2;have cK:=Hw (eH f m) (split x p H) j c HC.o;have cL:=Bk (eH f m) (split x p H) (j+1);rw [cK,Pk,<-ay.o]at cL;refine (cV.o w7 _ cR c cq cQ (bc.o.ag aR) ⟨_,_,_,_,_,_,_,rfl,(df.o.ag aR).zero⟩ l1 l2 l3 ZO).mono λe w2 h=>?_;rw [cK];exact LP.call ck.o bs.o cc.o ci.o cn.o aR h
     clear bO aR aJ cg e0 e1 e2 e3 e4;go_wp2_with (go_at_call 140;apply br.o.mono;rintro e w8 ⟨rfl,bi⟩;have ch:=O8 bi;clear bi);go_roundw;exact ⟨j+1,ZO,ZN,ch⟩;simp [intOf];omega
    ·obtain rfl:j=kk:=ZO;have de:Hid ((split x p H).take j=split x p H):=PI (by rw [ae.1];exact Pf _)
     clear a5 bE bI aW ae bK;go_wp2;refine Qz (v:=.tuple #[]) (Rq ZK ..) rfl ?_;refine ⟨rfl,cR,cq,cQ,bc.o,?_,dg.o.then cc.o λ_ _ h=>h,λk h=>(ci.o k h).imp id λh=>PG a1.o.size h⟩;have:=bs.o;rw [de.o]at this;rw [ay.o];exact this
 go_wp2;go_loopw [10] (λ_ wr=>∃aa ac ab l,Hid (L1 (eU M mb vo) w wr n W na nc xa xc aa ac ab l)/\Hid (CA wr w.heap.size 4 (SL aa ac ab))) (λ_ wr=>Fg ((wr.cell? (AD w.heap.size 4)).getD undef));exact ⟨ta,tl,tc,W.bQ,O8 (a3.o _ rfl),O8 ((a3.o _ rfl).q 4 _ rfl).1⟩;clear a3;obtain ⟨bV,an,D,l,C,aU⟩:=hrel;have al:l.length=an:=by have:=C.o.row.1;rwa [aD]at this
 have c4:=aU.o;have f4:=(C.o.q 4 (SL bV an D) rfl).2;have aq:=C.o.bS;have ak:=C.o.bA;cases l with
 |nil=>obtain rfl:an=0:=ZX al.symm;clear al;go_upto_region 1 with(fail);have h0:decide ((0:Int)<0)=false:=rfl;go_quiet (fail);go_wp2;go_meet;case rel=>exact ⟨_,_,_,[],O8 (C.o.drewN _),O8 c4,O8 (.inl rfl)⟩
 |cons p r=>
  obtain rfl:an=r.length+1:=ZX al.symm;obtain ⟨U,tq,rfl,av⟩:=C.o.OK (Nat.succ_pos _);have bh:=O8 av;clear av;have⟨k,hk⟩:=EX r.length;have HK:=O8 hk;rw [hk]at c4 aq C;rw [P9,hk]at ak;have aX:p<n:=bu.o p (C.o.sub p (P2 ..));obtain ⟨nb,no,rfl,bl⟩:=(HW.o.ag C.o.aJ).bw;have cp:=bl p aX;have ct:CA wr U tq (IV p):=by
   obtain ⟨-,h0|⟨b,dr,e,aA⟩⟩:=C.o.row.ag C.o.aJ
   ·omega
   ·cases e
    have:=aA 0 ZO;rw [SS]at this;exact this
  have c2:=(C.o.q 2 (SL (some (AD nb no)) n nc) rfl).1;have bn:(0:Int)<k+1:=ZO;have a0:0<k+1:=ZO;have dL:(p:Int)<n:=ZO;have dK:(0:Int)<=p:=ZO;clear bl al;cases aC:W.bw p
  ·rw [aC]at cp;go_upto_region 1 with(fail)
   go_region_held3 (λB=>CA B w.heap.size 4 (SL (some (AD U tq)) (k+1) D)/\CA B w.heap.size 2 (SL (some (AD nb no)) n nc)/\CA B U tq (IV p)/\CA B nb (no+p) (.bool false))
    (exact ⟨c4,c2,ct,cp⟩)
    (fail)
   go_wp2;go_meet;case rel=>have bJ:=C.o;have bG:=HK.o;subst bG;exact ⟨_,_,_,p::r,O8 bJ.drew,O8 c4,O8 (.inr ⟨p,r,rfl,aC⟩)⟩
  ·rw [aC]at cp;go_upto_region 1 with(fail)
   go_region_held3 (λB=>CA B w.heap.size 4 (SL (some (AD U tq)) (k+1) D)/\CA B w.heap.size 2 (SL (some (AD nb no)) n nc)/\CA B U tq (IV p)/\CA B nb (no+p) (.bool true))
    (exact ⟨c4,c2,ct,cp⟩)
    (fail)
   go_wp2;have bz:∀N,(D=1->N=some (AD U tq))->(D≠1->N=some (AD U (tq+1)))->L1 (eU M mb vo) w (wr.setCell (AD w.heap.size 4) (SL N k (D-1))) n W (some (AD nb no)) nc xa xc N k (D-1) r:=λN h1 h2=>by have bJ:=C.o;have bG:=HK.o;subst bG;exact bJ.tail aC h1 h2
   go_roundw;case rel=>refine ⟨_,_,_,r,O8 (bz _ (λe=>by rw [PW e]) (λe=>by rw [Qa e])).drew,O8 ?_⟩;exact P4 (h:=c4) ..
   case measure=>have e1:(((wr.setCell (AD w.heap.size 4) (SL (if D=1 then some (AD U tq)else some (AD U (tq+1))) k (D-1))).drew).cell? (AD w.heap.size 4))=some (SL (if D=1 then some (AD U tq)else some (AD U (tq+1))) k (D-1)):=P4 (h:=c4) ..;rw [e1,c4];show(_:Nat)<_;simp [Fg]
end
end Go.Proofs.YtimniinkpipnmaaGreatDoor
namespace Go.Own
open Go.RowKit
def kR{P w o a K Q}(l c t)(g:o.op=Op.makeSlice t l c)
 (e i z) (p:P.underlying t=some (.slice e)) (q:P.info? e=some i) (r:i.zero=some z) (s:i.size=1) (A:z.cells=#[z]) (n)
 (y:a.eval l=.int .i64 (n:Int)) (v:a.eval c=.int .i64 (n:Int)) (j:i.bytes*n<=281474976710656) (m:n<=maxLen)
 (u:∀f,Sl f e (.slice (some ⟨w.heap.size,0,none⟩) n n) n (List.replicate n z)->aj (λ_=>False) w f->K (a.put o.dst (.slice (some ⟨w.heap.size,0,none⟩) n n)) f):aY P o a w K Q:=by
 constructor
 obtain ⟨f,b,h,d⟩:=run_make_full (P:=P) w 0 t e i z 1 p q r s .i64 .i64 n j m (Pz _)
 rw [bM z A]at h
 unfold Oper.wp
 simp [execOp,g,y,v,b,Result.andThen]
 exact u f h ⟨d.os,d.tape,d.output,d.size,λk x _=>d.block k x ZS⟩
structure vY (R:List Nat) (a:Nat->Nat) (d:Nat->TypeId) (z:Nat->Value) (n:Nat) (c:WD) (l:Array Bool) (V:Nat->Value) (w:WD):Prop where
 ax:aj (λ_=>False) c w
 dI:∀j∈R,l.getD j false=true->Sl w (d j) (V (a j)) n (List.replicate n (z j))/\∃b,V (a j)=SV b n n/\c.heap.size<=b
 apart:∀j∈R,∀k∈R,j≠k->l.getD j false=true->l.getD k false=true->(V (a j)).ownBlock≠(V (a k)).ownBlock
def vY.step{R a C z n F w w' l V}(h:vY R a C z n F l V w)(i)(I:i∈R)(H:(R.map a).Nodup)(M:i<l.size)
 (J:Sl w' (C i) (SV w.heap.size n n) n (List.replicate n (z i))) (E:aj (λ_=>False) w w'):
 vY R a C z n F (l.setIfInBounds i true) (up V (a i) (SV w.heap.size n n)) w':=by
 have g:∀j∈R,j≠i->a j≠a i:=by
  intro j m A e;have B:∀(L:List Nat),(L.map a).Nodup->i∈L->j∈L->False:=by
   intro L;induction L with
   |nil=>intro _ h;cases h
   |cons x L K=>intro u G D;rw [Pv,Sy]at u;obtain o|o:=PO.1 G;obtain d|d:=PO.1 D;exact A (d.trans o.symm);exact u.1 (Uc.2 ⟨j,d,by rw [e,o]⟩);obtain d|d:=PO.1 D;exact u.1 (Uc.2 ⟨i,o,by rw [<-e,d]⟩);exact K u.2 o d
  exact B R H I m
 have t:∀j∈R,l.getD j false=true->∀b,(V (a j)).ownBlock=some b->b<w.heap.size:=λj m c b e=>(h.dI j m c).1.lt b e
 have f:∀j,j≠i->(l.setIfInBounds i true).getD j false=l.getD j false:=λj m=>RV false (Rz m)
 refine ⟨h.ax.trans E,λj m c=>?_,λj m k p s c q=>?_⟩
 by_cases e:j=i
 subst e
 rw [aA]
 exact ⟨J,w.heap.size,rfl,h.ax.size⟩
 rw [f j e]at c
 rw [an _ _ _ _ (g j m e)]
 exact ⟨Sl.ax (h.dI j m c).1 E (λ_ _ h=>h),(h.dI j m c).2⟩
 by_cases y:j=i
 subst y
 have r:k≠j:=Rz s
 rw [f k r]at q
 rw [aA,an _ _ _ _ (g k p r)]
 intro e
 have v:(V (a k)).ownBlock=some w.heap.size:=e.symm
 have:=t k p q _ v;omega
 rw [f j y]at c
 rw [an _ _ _ _ (g j m y)]
 by_cases r:k=i
 subst r
 rw [aA]
 intro e
 have v:(V (a j)).ownBlock=some w.heap.size:=e
 have:=t j m c _ v;omega
 rw [f k r]at q
 rw [an _ _ _ _ (g k p r)]
 exact h.apart j m k p s c q
end Go.Own
namespace Go.Proofs.YtimniinkpipnmaaGreatDoor
open Go.Own Go.RowKit Go.Proofs.Tryz
section
open Go.Maps
def Ra:=@List.length_nil
def Tq:=@Nat.lt_succ_self
def TU:=@Go.RowKit.run_makeMap
def Uk:=@Nat.not_lt_zero
def B6(c b n i f)(o:FA c b n f)(l:Fm.gR f)(a:eh f)(p:n<=50)(d e h g k):∀m,De c b n i f d e h g k m
 |0=>λ_ _ _ _ _ _ _ _ j=>absurd j (Uk _)
 |m+1=>Gu c b n i f o l a p d e h g k m (B6 c b n i f o l a p d e h g k m)
def Ke{w g n}(h:Sl w 4 (SV g n n) n (List.replicate n (.bool false))):dq w (some (AD g 0)) n (λ_=>false):=by have a:=eN h;refine ⟨g,0,rfl,λi b=>?_⟩;rw [PU];simp [World.cell?,a,b]
def oI(g e:Nat)(d:List Nat)(v:Value)(w:WD):Prop:=∃a c,v=SL a e c/\aG .i64 w a e (aE d)/\(∀b o,a=some (AD b o)->g<=b)/\((∃f h,a=some (AD f h)/\f<w.heap.size)\/a=none/\e=0)/\e<=c/\c<=maxLen
def oI.ag{d g b v w w'}(h:oI d g b v w)(f:BW w w'):oI d g b v w':=by obtain ⟨a,c,e,m,i,j,k⟩:=h;exact ⟨a,c,e,m.ag f,i,j.imp (λ⟨n,o,e,l⟩=>⟨n,o,e,Ps l f.size⟩) id,k⟩
def oI.dI{m j c d a w p}(v:m<=w.heap.size)(h:aF .i64 3 w p (SL a j c) (aE d)):oI m j d (SL a j c) p:=by have⟨x,y,e,n⟩:=lK h;have⟨s,t,z⟩:=P8 e;rw [<-s,<-t]at n;refine ⟨a,c,rfl,n,λb o e=>?_,?_⟩;subst e;exact PG v (h.2.2 b rfl);obtain ⟨i,u⟩|⟨g,q,r,i,-,u,A,B,-⟩:=h.1.2;have⟨f,k,l⟩:=P8 i;exact ⟨.inr ⟨f,k⟩,ZO,by rw [l];exact Pz _⟩;have⟨f,k,l⟩:=P8 i;refine ⟨.inl ⟨g,0,f,?_⟩,ZO,ZO⟩;exact h.1.lt g (by rw [f];rfl)
def BF{w a}(h:aj (λ_=>False) w a):BW w a:=h.ag (Pf _) (λ_ _ h=>h)
def cU.N7{w d S b n}:∀{L a},(∀W r,r∈a->fD w S n W r->fD d b n W r)->cU w S n L a->cU d b n L a
 |[],[],_,_=>RN
 |_::L,_::a,c,h=>⟨c _ _ (P2 ..) h.1,cU.N7 (λW r e=>c W r (Qc _ e)) h.2⟩
 |[],_::_,_,h=>h
 |_::_,[],_,h=>h
def ah(w o):BW w (w.alloc o):=(Pn _ _).alloc (Pf _) _
def JK{w a j n C B}(D:BW w a)(F:CA a w.heap.size 0 (SL B n C))
 (e:j=(((a.alloc (CE #[SN] 153)).alloc (.map #[] 0)).alloc (CE #[.map (some (a.heap.size+1))] 190)).alloc (CE #[Il w.heap.size (a.heap.size+1+1+1) (a.heap.size+1+1) a.heap.size] 191)):
 Ii w j n w.heap.size (a.heap.size+1+1+1) (a.heap.size+1+1) a.heap.size (a.heap.size+1) (SL B n C) (Il w.heap.size (a.heap.size+1+1+1) (a.heap.size+1+1) a.heap.size) (SN) [] []/\BW a j:=by
 have⟨b,l⟩:=EX (a.alloc (CE #[SN] 153))
 have⟨c,m⟩:=EX (b.alloc (.map #[] 0))
 have⟨d,o⟩:=EX (c.alloc (CE #[.map (some (a.heap.size+1))] 190))
 rw [l,m,o]at e
 have G:b.heap.size=a.heap.size+1:=by rw [<-l,PL]
 have H:c.heap.size=a.heap.size+1+1:=ZW m G
 have I:d.heap.size=a.heap.size+1+1+1:=ZW o H
 have N:j.heap.size=a.heap.size+1+1+1+1:=by rw [e,PL,I]
 have J:BW a b:=l▸ah _ _
 have K:BW b c:=m▸ah _ _
 have L:BW c d:=o▸ah _ _
 have u:BW d j:=e▸ah _ _
 have i:=af L u
 have g:=af K i
 have f:=af J g
 have t:w.heap.size<a.heap.size:=O9 _ _ F
 have⟨v,A⟩:=aT a #[SN] 153 0 _ rfl
 rw [l]at v A
 have⟨p,q⟩:=dy g ⟨v,A⟩
 have E:=(cK.aM prog 199 b).ag (ZR m i)
 rw [G]at E
 have y:=(aT c #[.map (some (a.heap.size+1))] 190 0 _ rfl).1
 rw [o,H]at y
 have z:=(aT d #[Il w.heap.size (a.heap.size+1+1+1) (a.heap.size+1+1) a.heap.size] 191 0 _ rfl).1
 rw [<-e,I]at z
 refine ⟨⟨(f.cell t).trans F,z,(u.cell (show a.heap.size+1+1<d.heap.size by omega)).trans y,p,q,Qd _ _ _ _,RN,cK.ext E (λx=>?_),⟨⟨ZO,ZO,ZO,ZO⟩,ZO,ZO,ZO⟩,λk s=>(ZC s),⟨ZO,ZO,λk s=>(ZC s)⟩,D.trans (f.mono D.size),λr M=>(ZC M)⟩,f⟩
 unfold uF
 rw [Qa (λ⟨W,h,_⟩=>ZC h)]
def Ak(w:WD)(n:Nat)(f:Fm)(d:List Nat)(e:Ending)(g:WD):Prop:=
 ∃a c L h,e=RT (SL a (List.length L) c)/\BW w g/\g.ownsRow 0 119 4 (SL a L.length c) L.length (ew L h)/\(∀b,(SL a L.length c).ownBlock=some b->w.heap.size<=b)/\cU g (λk=>k<w.heap.size) n L h/\L.length<=16777216/\(∀Z∈L,Z∈eH f (n+1) (Wy.aM d))/\(∀z∈eH f (n+1) (Wy.aM d),∃Y∈L,bH n Y=bH n z)/\Db f d λc=>∃Z∈L,bH n Z=c
def DE(D n E f Q q pc d w)(hf:FA w D n f)(hN:Fm.gR f)(ac:eh f)(hn:n<=50)(hp:aG .i64 w Q q (aE d))(ab:∀p∈d,p<n)(aJ:q<=1000)(M:Q=none->q=0/\pc=0):
 Calls prog 107 #[.slice D n E,.slice Q q pc] w (Ak w n f d):=by
 obtain ⟨ar,L,P,O,J⟩:=P6 Tryz.kM
 have aC:=@TU prog
 have HF:=O8 hf
 have HN:=O8 hN
 have aA:=O8 ac
 have HP:=O8 hp
 have aj:=O8 ab
 have ak:=O8 M
 have HG:Hid (∀w1,Below w.heap.size w w1->Calls prog 139 #[.slice D n E,.slice Q q pc] w1 λe j=>e=.returned (.bool true)/\Below w1.heap.size w1 j):=λw1 t=>I8 D n E f Q q pc d w1 (hf.ag t) hN ac hn (hp.ag t) ab ZO
 have ay:=O8 (HG.o (w.alloc (.cells #[.slice D n E] 22)) ((Pn _ _).alloc (Pf _) _))
 clear hf hN ac hp ab M HG
 go_enter func107,ntmps107
 go_upto_region 7 with(go_at_call 139;apply ay.o.mono;rintro e G ⟨rfl,X⟩;have ag:=O8 (af ((Pn _ w).alloc (Pf _) (.cells #[.slice D n E] 22)) X);have q0:=(X.cell (by rw [PL];exact Tq _)).trans (Py (w:=w) #[.slice D n E] 22 w.heap.size 0 rfl);clear X)
 obtain ⟨g,hg⟩:∃g,G.heap.size=g:=⟨_,rfl⟩
 obtain ⟨h,hh⟩:∃h,w.heap.size=h:=⟨_,rfl⟩
 obtain ⟨m,ae⟩:∃m,(((G.alloc (.cells #[.slice none 0 0] 153)).alloc (.map #[] 0)).alloc (.cells #[.map (some (G.heap.size+1))] 190)).alloc (.cells #[Il w.heap.size (G.heap.size+1+1+1) (G.heap.size+1+1) G.heap.size] 191)=m:=⟨_,rfl⟩
 obtain ⟨x,al⟩:=JK ag.o q0 ae.symm
 rw [ae]
 rw [hg,hh]at x⊢
 have av:=O8 x
 have ah:=O8 (af ag.o al)
 have HH:=O8 hh
 have H:Hid (∀k,eU g (g+1) (.slice none 0 0) k->k<m.heap.size):=x.dY
 have cf:=x.cf
 have cg:=x.cg
 have HQ:Hid (∀W',Below m.drew.heap.size m.drew W'->W'.cell? ⟨h,0,none⟩=some (.slice D n E)/\W'.cell? ⟨g+1+1+1,0,none⟩=some (Il h (g+1+1+1) (g+1+1) g)):=λj t=>by have t:Below m.heap.size m j:=(Pn _ _).drew.trans t;exact ⟨(t.cell (O9 m _ cf)).trans cf,(t.cell (O9 m _ cg)).trans cg⟩
 have au:Hid (∀j,Below m.drew.heap.size m.drew j->Calls prog 91 #[.slice Q q pc] j λe A=>∃v,e=.returned v/\Below j.heap.size j A/\oI m.heap.size q d v A):=λj t=>by have I:Below m.heap.size m j:=(Pn _ _).drew.trans t;exact (et Q q pc (aE d) j (HP.o.ag (ah.o.trans (I.mono ah.o.size))) ak.o ZO).mono λe A ⟨a',c',he,hm⟩=>⟨_,he,hm.2.1,oI.dI I.size hm⟩
 clear ae x al q0 hg hh aC
 refine aw 10 (S:=λW'=>W'.cell? ⟨h,0,none⟩=some (.slice D n E)/\W'.cell? ⟨g+1+1+1,0,none⟩=some (Il h (g+1+1+1) (g+1+1) g)) ZK (⟨cf,cg⟩) (λT=>?_)
 refine aB 0 ?_
 refine aB 1 ?_ [9,3,2,1]
 refine aB 2 ?_ [9,3,2]
 refine aB 4 ?_ [9,6,5,4]
 refine aB 5 ?_ [9,6,5]
 refine aB 7 ?_ [8,7]
 clear T cf cg
 refine bY [3,6,8,9] (λi=>if i=3 then 17 else if i=6 then 20 else if i=8 then 22 else 23) #[true,true,true,true,true,true,true,true,true,true,false] 1
  (λi v w=>match i with|3=>∃b,v=.slice (some ⟨b,0,none⟩) n n/\m.heap.size<=b/\dq w (some ⟨b,0,none⟩) n (λ_=>false)|6=>∃b,v=.slice (some ⟨b,0,none⟩) n n/\m.heap.size<=b/\dq w (some ⟨b,0,none⟩) n (λ_=>false)|8=>oI m.heap.size q d v w|_=>∃na nc xa xc ta tc,v=gi 0 0 na n nc xa xc ta q tc/\Ik (eU g (g+1) (.slice none 0 0)) w na n xa ta q tc (Wy.aM d)) ZK ZK rfl ZD ?st1 ?st2 ZD ?st3 ?st4
 case st1=>intro i v w4 w5 hv t;split at hv;obtain ⟨b,e,h1,h2⟩:=hv;exact ⟨b,e,h1,h2.ag t⟩;obtain ⟨b,e,h1,h2⟩:=hv;exact ⟨b,e,h1,h2.ag t⟩;exact oI.ag hv t;obtain ⟨na,nc,xa,xc,ta,tc,e,h⟩:=hv;exact ⟨na,nc,xa,xc,ta,tc,e,h.ag t⟩
 case st2=>exact HQ.o
 case st3=>
  rintro l V j i o hl aI hi N hr U K F;simp only [PO,QL,Sh]at hi;obtain rfl|rfl|rfl|rfl:=hi;simp only [PA,Pt,Pu,PJ]at N;subst N;refine kR (.tmp 16) (.tmp 16) 67 rfl 4 ar (.bool false) QM L P O rfl n rfl rfl (by rw [J];omega) (by unfold maxLen;omega) (λG hs hk=>F _ G (BF hk) ⟨_,rfl,U.aJ.size,Ke hs⟩);simp only [PA,Pt,Pu,PJ]at N;subst N;refine kR (.tmp 19) (.tmp 19) 67 rfl 4 ar (.bool false) QM L P O rfl n rfl rfl (by rw [J];omega) (by unfold maxLen;omega) (λG hs hk=>F _ G (BF hk) ⟨_,rfl,U.aJ.size,Ke hs⟩);simp only [PA,Pt,Pu,PJ]at N;subst N;refine aO (R:=λe A=>∃v,e=.returned v/\Below j.heap.size j A/\oI m.heap.size q d v A) (f:=91) (args:=#[.slice Q q pc]) (au.o j U.aJ) ?_ (λe w4 ⟨v,he,t,hv⟩=>⟨v,he,F v w4 t hv⟩);clear F;simp only [Pv,PE,aN,Act.put,reduceIte,Nat.reduceEqDiff,Pj,Px,Pw];go_simp;simp only [PA,Pt,Pu,PJ]at N;subst N;obtain ⟨b3,e3,l3,r3⟩:=U.oZ 3 ZD (bj (l:=[3,6,8]) ZK hr 3 ZS);obtain ⟨b6,e6,l6,r6⟩:=U.oZ 6 ZD (bj (l:=[3,6,8]) ZK hr 6 ZS);obtain ⟨a8,c8,e8,r8,l8,s8,p8⟩:=U.oZ 8 ZD (bj (l:=[3,6,8]) ZK hr 8 ZS);change V 17=_ at e3;change V 20=_ at e6;change V 22=_ at e8;have y:Ik (eU g (g+1) (.slice none 0 0)) j (some ⟨b3,0,none⟩) n (some ⟨b6,0,none⟩) a8 q c8 (Wy.aM d):=
   ⟨r3,r6,r8,s8,p8,⟨(by decide:(0:Nat)<18446744073709551616),(by decide:(0:Nat)<18446744073709551616)⟩,λk hk=>Ps (H.o k hk) U.aJ.size,λb o e s=>by cases e;have:=H.o _ s;omega,λb o e s=>by cases e;have:=H.o _ s;omega,λb o e s=>by have:=l8 b o e;have:=H.o _ s;omega⟩
  refine cB (v:=gi 0 0 (some ⟨b3,0,none⟩) n n (some ⟨b6,0,none⟩) n a8 q c8) (w':=j) ?_ (F _ _ (Pn _ _) ⟨_,_,_,_,_,_,rfl,y⟩);clear F y;simp only [Pv,PE,aN,Act.put,reduceIte,Nat.reduceEqDiff,Pj,Px,Pw];rw [e3,e6,e8];go_simp
 case st4=>
  intro V j am hV;simp only [Pv,PE,aN,Act.put,reduceIte,Nat.reduceEqDiff,Pj,Px,Pw];obtain ⟨na,nc,xa,xc,ta,tc,e9,y⟩:=hV 9 ZD;change V 23=_ at e9;have ai:Below m.heap.size m j:=(Pn _ _).drew.trans am;have B:Calls prog 140 #[V 23,.pointer (some ⟨h,0,none⟩),.pointer (some ⟨g+1+1+1,0,none⟩),.pointer (some ⟨g+1+1,0,none⟩),.pointer (some ⟨g,0,none⟩)] j (Dd w j n h (g+1+1+1) (g+1+1) g (g+1) (.slice D n E) (Il h (g+1+1+1) (g+1+1) g) (.slice none 0 0) [] (eH f (n+1) (Wy.aM d))):=by have ao:=y.bA;have aD:=wX (f:=f) (n+1) (Wy.aM d) (by rw [HF.o.size];omega);refine B6 w D n E f HF.o HN.o aA.o hn _ _ _ _ _ (n+1) j (V 23) (.slice none 0 0) (Wy.aM d) [] [] (av.o.ag ai) ⟨na,nc,xa,xc,ta,q,tc,e9,y⟩ ?_ ZO aj.o (by simp only [Ra];omega);have:fresh n (Wy.aM d)<=(List.range n).length:=Qn _ _;rw [Qp]at this;omega
  have ax:=O8 B;clear B e9 y hV am ai;refine aK 10 λK F=>?_;rw [PW (by rfl)];apply aY.o;refine aO (f:=140) (args:=#[V 23,.pointer (some ⟨h,0,none⟩),.pointer (some ⟨g+1+1+1,0,none⟩),.pointer (some ⟨g+1+1,0,none⟩),.pointer (some ⟨g,0,none⟩)]) ax.o ?_ (λe w8 ad=>?_);clear F;go_simp;obtain ⟨rfl,aH,L',aF,aa,an,-,ap⟩:=ad;refine ⟨_,rfl,?_⟩;refine F.q ?_;clear F K;have co:=aa.co;have u:=O8 aa;have C:=O8 an;clear aa an ap;refine az ZK ?_;go_wp2;go_ret;show Ak w n f d (.returned aH) w8;obtain ⟨a,c,rfl⟩:=bF u.o.cO;have aq:=HF.o.size;have ao:=C.o.2.2.2;have aD:=wX (f:=f) (n+1) (Wy.aM d) ZO;simp only [Ra,PU]at ao;refine ⟨a,c,L',aF,rfl,u.o.aJ,u.o.cO,λb e=>u.o.dJ.2.2 b e,cU.N7 (λW r hr h=>?_) u.o.bC,ZO,λZ hZ=>(C.o.1 Z hZ).resolve_left (λh=>ZC h),λz hz=>C.o.2.2.1 z hz,?_⟩;obtain ⟨l1,l2⟩:=u.o.bG r hr;exact ⟨h.1,h.2.1,λb o e s=>ZH (l1 b o e),λb o e s=>ZH (l2 b o e),h.2.2.2.2⟩;refine rP HN.o d (λp hp=>ZR aq (aj.o p hp)) (n+1) ZO _ (λc=>?_);rw [aq];exact ⟨λ⟨Z,hZ,e⟩=>⟨Z,(C.o.1 Z hZ).resolve_left (λh=>ZC h),e⟩,λ⟨z,hz,e⟩=>by obtain ⟨Y,hY,e2⟩:=C.o.2.2.1 z hz;exact ⟨Y,hY,e2.trans e⟩⟩
end
def Bm{f n j}(h:j<(dL f n).length):∃(p:Nat)(x:Fm),(dL f n)[j]? =some (p:Int)/\(Fm.aI f)[p]? =some x/\KN x=true/\p<n:=by
 obtain ⟨z,d⟩:∃z,(dL f n)[j]? =some z:=⟨_,Pe h⟩;have c:=Pm d;unfold dL at c;have⟨p,i,e⟩:=Qx.1 c;have⟨g,a⟩:=PY.1 i;cases b:(Fm.aI f)[p]? with
 |none=>rw [b]at a;cases a
 |some x=>rw [b]at a;exact ⟨p,x,by rw [d,<-e],b,a,P5.1 g⟩
def D5(b a:List Int)(s:Nat):Bool:=!decide (b.getD s 0∈a)||decide (b.getD s 0-1∈a)
def kU(b a:List Int)(k N:Nat):Prop:=N<18446744073709551616/\∀s,N.testBit s=(decide (s<k)&&D5 b a s)
def kU.zero(b a):kU b a 0 0:=⟨ZD,λs=>ZS⟩
def kU.skip{b a k N}(h:kU b a k N)(c:D5 b a k=false):kU b a (k+1) N:=by
 refine ⟨h.1,λs=>?_⟩;rw [h.2];by_cases e:s=k;subst e;simp [c];have:decide (s<k+1)=decide (s<k):=by simp;omega
 rw [this]
def kU.set{b a k N}(h:kU b a k N)(f:D5 b a k=true)(g:k<64):kU b a (k+1) (N|||2^k):=by
 refine ⟨Tf (n:=64) h.1 (Sg ZD g),λs=>?_⟩;rw [Nat.testBit_or,h.2,Us];by_cases e:s=k;subst e;simp [f];have c:decide (s<k+1)=decide (s<k):=by simp;omega
 have d:decide (k=s)=false:=PH (λh=>e h.symm);rw [c,d,TT]
def GV(T n fc f)(O al:Nat)(xa xl xc G E K c w)(hf:FA w T n f)(hN:Fm.gR f)(J:eh f)(hn:n<=50)(hy:aG .i64 w G E c)(az:E<=1000):
 CL 146 #[SL T n fc,.agg #[UV O,UV al,SL xa xl xc,SL G E K]] w λe D=>∃N:Nat,e=RT (UV N)/\BW w D/\kU (dL f n) c (dL f n).length N:=by
 have⟨k,aa⟩:=EX (w.alloc (CE #[UV O,UV al,SL xa xl xc,SL G E K] 119))
 have o:BW w k:=aa▸ah _ _
 have W:CA k w.heap.size 3 (SL G E K):=by rw [<-aa];exact Py (w:=w) _ 119 w.heap.size 3 rfl
 have ad:=O8 (AO T n fc f k (hf.ag o) hN J ZO)
 have R:Hid (∀d,BW k d->CL 75 #[SL T n fc] d λe D=>∃a' m c',e=RT (SL a' m c')/\aF .i64 3 d D (SL a' m c') (dL f n)):=λd U=>yj T n fc _ f d (hf.ag (af o U)) ZO (fJ J)
 have au:Hid (∀(p:Nat)(x:Fm)(d:WD),BW k d->(Fm.aI f)[p]? =some x->CL 166 #[SL T n fc,IV p] d λe D=>e=RT (.tuple #[IV (qS x p),IV (uB x p)])/\BW d D):=λp x d U hx=>gx T n fc _ f x p d (hf.ag (af o U)) ZO (fJ J) hx
 have ac:Hid (∀d (z:Int),BW k d->CL 110 #[SL G E K,IV z] d λe D=>e=RT (.bool (decide (z∈c)))/\D=d):=λd z U=>jN G E K c z d (hy.ag (af o U)) ZO
 have aj:Hid ((dL f n).length<=50):=PG (CZ f n) hn
 have ai:Hid (∀j,j<(dL f n).length->∃(p:Nat)(x:Fm),(dL f n)[j]? =some (p:Int)/\(Fm.aI f)[p]? =some x/\KN x=true/\p<n):=λj h=>Bm h
 have ap:=O8 o
 have ar:Hid (∀d,BW k d->CA d w.heap.size 3 (SL G E K)):=λd U=>(U.cell (O9 _ _ W)).trans W
 have⟨F,an⟩:=EX (dL f n)
 rw [an]at R aj ai⊢
 clear hf hN J hy o W an
 go_enter func146,ntmps146
 go_upto_region 1 with(fail)
 clear aa
 go_upto_region 5 with(first
  |(go_at_call 76;apply ad.o.mono;rintro e d ⟨rfl,V⟩;have aq:=O8 V;have HU:=O8 (R.o d V);clear V)
  |(go_at_call 75;apply HU.o.mono;rintro e w3 ⟨ua,P,uc,rfl,hm⟩;have HM:=O8 hm;clear hm))
 obtain ⟨Z,M⟩:F.length=P/\aG .i64 w3 ua P F:=by have⟨a',c',e,hr⟩:=lK HM.o;have⟨e1,e2,e3⟩:=P8 e;rw [<-e1,<-e2]at hr;exact ⟨e2.symm,hr⟩
 have ak:=O8 Z
 have ae:=O8 M
 have ab:Hid (BW k w3):=af aq.o HM.o.2.1
 have av:P<=50:=ZR Z.symm aj.o
 clear Z M R HU ad
 go_wp2
 go_loopw [5,16] (λy x wr=>∃j N:Nat,j<=P/\x=IV j/\y=UV N/\Hid (BW w3 wr)/\Hid (kU F c j N)) (λ_ x _=>P-(intOf x).toNat)
 exact ⟨0,0,Pz _,rfl,rfl,O8 (Pn _ _),O8 (kU.zero _ _)⟩
 obtain ⟨j,N,hj,rfl,rfl,v,q⟩:=hrel
 by_cases am:j<P
 ·have ax:(j:Int)<P:=ZO;have aw:(j:Int)<64:=ZO
  have⟨p,x,Y,hx,ao,ay⟩:=ai.o j (ZR ak.o am);obtain ⟨a0,b0,rfl⟩:∃a b,x=Fm.dA a b:=by cases x<;>first|exact ⟨_,_,rfl⟩|cases ao
  obtain ⟨-,h0|⟨ub,uo,rfl,C⟩⟩:=ae.o.ag v.o
  ·omega
  have cu:CA wr ub (uo+j) (IV p):=by have:=C j am;rw [Pd,Y]at this;exact this
  have l:=O8 (af ab.o v.o);have HK:=O8 (au.o p _ wr l.o hx);have⟨L,hL⟩:=EX (qS (Fm.dA a0 b0) p);have hR:uB (Fm.dA a0 b0) p=(p:Int)-1:=rfl;rw [hL,hR]at HK;have s:Hid (D5 F c j=(!decide ((p:Int)∈c)||decide ((p:Int)-1∈c))):=by show D5 F c j=_;unfold D5;rw [Pd,Y];rfl
  have ag:Hid (∀r,BW wr r->CA r w.heap.size 3 (SL G E K)/\Hid (BW w3 r)/\Hid (CL 110 #[SL G E K,IV p] r λe D=>e=RT (.bool (decide ((p:Int)∈c)))/\D=r)/\Hid (CL 110 #[SL G E K,IV ((p:Int)-1)] r λe D=>e=RT (.bool (decide ((p:Int)-1∈c)))/\D=r)):=λr i=>
   ⟨ar.o r (af l.o i),O8 (v.o.trans (i.mono v.o.size)),O8 (ac.o r _ (af l.o i)),O8 (ac.o r _ (af l.o i))⟩
  clear C hx ao hL hR Y;go_upto_region 8 with(go_at_call 166;apply HK.o.mono;rintro e r ⟨rfl,i⟩;have⟨c3,Q,H,I⟩:=ag.o r i;clear i);clear ag HK;have⟨A,hA⟩:=EX (decide ((p:Int)∈c));have⟨B,hB⟩:=EX (decide ((p:Int)-1∈c));rw [hA]at H s;rw [hB]at I s;clear hA hB cu;cases A
  ·have t:Hid (bits BinOp.or IntKind.u64 (N:Int) (IntKind.u64.wrap (2^j))=((N|||2^j:Nat):Int)):=xH q.o.1 ZO rfl;have g:Hid (kU F c (j+1) (N|||2^j)):=q.o.set (s.o.trans rfl) ZO
   have⟨S,u⟩:=EX (N|||2^j);rw [u]at t g;have X:=t.o;clear u;go_wp2_with (go_at_call 110;first|(with_reducible refine H.o.mono ?_;rintro e w5 ⟨rfl,rfl⟩)|(with_reducible refine I.o.mono ?_;rintro e w6 ⟨rfl,rfl⟩));go_roundw;exact ⟨j+1,S,ZO,ZN,(by first|rfl|(rw [X])),Q,g⟩;simp [intOf];omega
  ·cases B
   ·have g:Hid (kU F c (j+1) N):=q.o.skip (s.o.trans rfl);go_wp2_with (go_at_call 110;first|(with_reducible refine H.o.mono ?_;rintro e w5 ⟨rfl,rfl⟩)|(with_reducible refine I.o.mono ?_;rintro e w6 ⟨rfl,rfl⟩))
    go_roundw;exact ⟨j+1,N,ZO,ZN,rfl,Q,g⟩;simp [intOf];omega
   ·have t:Hid (bits BinOp.or IntKind.u64 (N:Int) (IntKind.u64.wrap (2^j))=((N|||2^j:Nat):Int)):=xH q.o.1 ZO rfl;have g:Hid (kU F c (j+1) (N|||2^j)):=q.o.set (s.o.trans rfl) ZO
    have⟨S,u⟩:=EX (N|||2^j);rw [u]at t g;have X:=t.o;clear u;go_wp2_with (go_at_call 110;first|(with_reducible refine H.o.mono ?_;rintro e w5 ⟨rfl,rfl⟩)|(with_reducible refine I.o.mono ?_;rintro e w6 ⟨rfl,rfl⟩));go_roundw;exact ⟨j+1,S,ZO,ZN,(by first|rfl|(rw [X])),Q,g⟩;simp [intOf];omega
 ·obtain rfl:j=P:=ZO;go_wp2
  go_ret;refine ⟨N,rfl,?_,ZR ak.o q.o⟩;exact af ap.o (af ab.o v.o)
def Qq:=@List.cons_append
def vH{s}:∀{a b x y:List UInt8},s∉a->s∉b->a++s::x=b++s::y->a=b/\x=y
 |[],[],x,y,_,_,h=>⟨rfl,ZX h⟩
 |[],c::b,x,y,_,f,h=>by simp only [QW,Qq,Rk]at h;exact absurd (PO.2 (.inl h.1)) f
 |c::a,[],x,y,e,_,h=>by simp only [QW,Qq,Rk]at h;exact absurd (PO.2 (.inl h.1.symm)) e
 |c::a,d::b,x,y,e,f,h=>by simp only [Qq,Rk]at h;have⟨g,i⟩:=vH (λm=>e (Qc _ m)) (λm=>f (Qc _ m)) h.2;exact ⟨by rw [h.1,g],i⟩
def Dg(l:List UInt8):Prop:=l≠[]/\(32:UInt8)∉l/\(59:UInt8)∉l
def eY(l:List (List UInt8)):List UInt8:=l.flatMap λx=>x++[32]
def j7(x l):eY (x::l)=x++32::eY l:=by unfold eY;simp
def ER{x}(h:Dg x){r y}:¬(x++32::r=59::y):=by
 intro e;cases x with
 |nil=>exact h.1 rfl
 |cons c x=>simp only [Qq,Rk]at e;exact h.2.2 (PO.2 (.inl e.1.symm))
def xj:∀{l m x y},(∀z∈l,Dg z)->(∀z∈m,Dg z)->eY l++59::x=eY m++59::y->l=m/\x=y
 |[],[],x,y,_,_,h=>⟨rfl,by simpa [eY]using h⟩
 |[],z::m,x,y,_,b,h=>by rw [j7,Qe,Qq]at h;exact absurd h.symm (ER (b z (P2 ..)))
 |z::l,[],x,y,a,_,h=>by rw [j7,Qe,Qq]at h;exact absurd h (ER (a z (P2 ..)))
 |z::l,u::m,x,y,a,b,h=>by rw [j7,j7,Qe,Qe,Qq,Qq]at h;have⟨d,e⟩:=vH (a z (P2 ..)).2.1 (b u (P2 ..)).2.1 h;have⟨f,g⟩:=xj (λz c=>a z (Qc _ c)) (λz c=>b z (Qc _ c)) e;exact ⟨by rw [d,f],g⟩
def Jn{l m}(a:∀z∈l,Dg z)(b:∀z∈m,Dg z)(h:eY l=eY m):l=m:=
 (xj a b (x:=[]) (y:=[]) (by rw [h])).1
def AV{α β:Type}{g:α->β}(a:∀x y,g x=g y->x=y):∀{l m:List α},l.map g=m.map g->l=m
 |[],[],_=>rfl
 |[],_::_,h=>by simp at h
 |_::_,[],h=>by simp at h
 |x::l,y::m,h=>by simp only [Pv,Rk]at h;rw [a x y h.1,AV a h.2]
def I2{d}(h:d<10):UInt8.ofNat (48+d)≠32/\UInt8.ofNat (48+d)≠59:=by have a:∀d:Fin 10,UInt8.ofNat (48+d.val)≠32/\UInt8.ofNat (48+d.val)≠59:=ZD;exact a ⟨d,h⟩
def EP{a b}(d:a<10)(e:b<10)(h:UInt8.ofNat (48+a)=UInt8.ofNat (48+b)):a=b:=by have c:∀a b:Fin 10,UInt8.ofNat (48+a.val)=UInt8.ofNat (48+b.val)->a=b:=ZD;exact RH Fin.val (c ⟨a,d⟩ ⟨b,e⟩ h)
def iq(u):Lib.decDigits u=if u<10 then [UInt8.ofNat (48+u)]else Lib.decDigits (u/10)++[UInt8.ofNat (48+u%10)]:=by
 conv=>lhs;unfold Lib.decDigits
 split<;>rfl
def DG(u):Dg (Lib.decDigits u):=by
 induction u using Nat.strongRecOn with
 |ind u c=>rw [iq];by_cases h:u<10;rw [PW h];have:=I2 h;exact ⟨ZS,λm=>this.1 (Pc.1 m).symm,λm=>this.2 (Pc.1 m).symm⟩;rw [Qa h];have⟨e,a,b⟩:=c (u/10) ZO;have:=I2 (d:=u%10) ZO;refine ⟨ZS,λm=>?_,λm=>?_⟩;obtain m|m:=PC.1 m;exact a m;exact this.1 (Pc.1 m).symm;obtain m|m:=PC.1 m;exact b m;exact this.2 (Pc.1 m).symm
def lU{α:Type}{a b}{x y:α}(h:a++[x]=b++[y]):a=b/\x=y:=by have:=RH List.reverse h;simp only [List.reverse_append,Rr,List.reverse_nil,QW,Qq,Rk,List.reverse_inj]at this;exact ⟨this.2,this.1⟩
def EO:∀u v,Lib.decDigits u=Lib.decDigits v->u=v:=by
 intro u;induction u using Nat.strongRecOn with
 |ind u g=>intro v h;rw [iq u,iq v]at h;by_cases d:u<10;by_cases c:v<10;rw [PW d,PW c]at h;exact EP d c (ZX h);rw [PW d,Qa c]at h;have:=(lU (a:=[]) h).1;exact absurd this.symm (DG _).1;by_cases c:v<10;rw [Qa d,PW c]at h;have:=(lU (b:=[]) h).1;exact absurd this (DG _).1;rw [Qa d,Qa c]at h;have⟨e,f⟩:=lU h;have i:=g (u/10) ZO _ e;have j:=EP ZO ZO f;omega
def ie(d:Nat):UInt8:=if d<10 then UInt8.ofNat (48+d)else UInt8.ofNat (87+d)
def eZ(u:Nat):List UInt8:=if u<16 then [ie u]else eZ (u/16)++[ie (u%16)]
termination_by u
decreasing_by omega
def kL(u):eZ u=if u<16 then [ie u]else eZ (u/16)++[ie (u%16)]:=by conv=>lhs;unfold eZ
def Jd{d}(h:d<16):ie d≠32/\ie d≠59:=by have a:∀d:Fin 16,ie d.val≠32/\ie d.val≠59:=ZD;exact a ⟨d,h⟩
def E9{a b}(d:a<16)(e:b<16)(h:ie a=ie b):a=b:=by have c:∀a b:Fin 16,ie a.val=ie b.val->a=b:=ZD;exact RH Fin.val (c ⟨a,d⟩ ⟨b,e⟩ h)
def qO(u):Dg (eZ u):=by
 induction u using Nat.strongRecOn with
 |ind u c=>rw [kL];by_cases h:u<16;rw [PW h];have:=Jd h;exact ⟨ZS,λm=>this.1 (Pc.1 m).symm,λm=>this.2 (Pc.1 m).symm⟩;rw [Qa h];have⟨e,a,b⟩:=c (u/16) ZO;have:=Jd (d:=u%16) ZO;refine ⟨ZS,λm=>?_,λm=>?_⟩;obtain m|m:=PC.1 m;exact a m;exact this.1 (Pc.1 m).symm;obtain m|m:=PC.1 m;exact b m;exact this.2 (Pc.1 m).symm
def E8:∀u v,eZ u=eZ v->u=v:=by
 intro u;induction u using Nat.strongRecOn with
 |ind u g=>intro v h;rw [kL u,kL v]at h;by_cases d:u<16;by_cases c:v<16;rw [PW d,PW c]at h;exact E9 d c (ZX h);rw [PW d,Qa c]at h;have:=(lU (a:=[]) h).1;exact absurd this.symm (qO _).1;by_cases c:v<16;rw [Qa d,PW c]at h;have:=(lU (b:=[]) h).1;exact absurd this (qO _).1;rw [Qa d,Qa c]at h;have⟨e,f⟩:=lU h;have i:=g (u/16) ZO _ e;have j:=E9 ZO ZO f;omega
def xW(a b:Nat)(next c:List Nat):List UInt8:=eZ a++32::(eZ b++59::(eY (next.map Lib.decDigits)++59::eY (c.map Lib.decDigits)))
def Ka{d g a c next i b f}(h:xW d g next i=xW a c b f):d=a/\g=c/\next=b/\i=f:=by
 unfold xW at h;have j:∀(l:List Nat),∀z∈l.map Lib.decDigits,Dg z:=λl z p=>by obtain ⟨u,-,e⟩:=Qx.1 p;rw [<-e];exact DG u
 have⟨k,h⟩:=vH (qO _).2.1 (qO _).2.1 h;have⟨m,h⟩:=vH (qO _).2.2 (qO _).2.2 h;have⟨n,h⟩:=xj (j _) (j _) h;have o:=Jn (j _) (j _) h;exact ⟨E8 _ _ k,E8 _ _ m,AV EO n,AV EO o⟩
def Pa:=@Go.Lib.cell_of_heap
def Pg:=@Go.Lib.frozen_of_heap
def QY:=@Option.map_eq_some_iff
def Tryz.Fv:(prog.info? 223).map (λi=>i.size)=some 2:=ZK
def Tryz.Lq:liesAt prog prog.depth 223 (2/prog.cellsOf 223) 0 223 1=true:=ZK
def wL(w b)(l:CA w b 0 (.pointer none))(c:w.shape? b=some (223,2))(f:FZ w b 0):
 CL 184 #[PT b] w λe g=>e=RT (.tuple #[])/\g=w.setCell (AD b 0) (PT b):=by
 have⟨j,d,a⟩:=QY.1 Tryz.Fv
 have h:=Lib.run_to_unsafe (P:=prog) w (AD b 0) underlying221 underlying247 d (by rw [a];decide) c (Nat.zero_lt_succ 1)
 have k:=Lib.run_from_unsafe (P:=prog) w (AD b 0) underlying247 underlying221 d c Tryz.Lq
 have i:(callFunc 191 #[PT b]).run prog w=.ok (.value (PT b)) w:=by rw [run_callFunc_extern func191 ZK ZK ZK (e:=Extern.AbiNoEscape.same) ZK,Lib.run_noEscape];rfl
 clear d a
 go_enter func184,ntmps184
 go_wp2
 refine R9 (Rq ZK ..) rfl ?_
 exact ⟨rfl,rfl⟩
def yE(w b)(f:CA w b 0 (PT b)):
 CL 184 #[PT b] w λe c=>e=RT (.tuple #[])/\c=w:=by
 have⟨j,a,_⟩:=QY.1 Tryz.Fv
 have d:=Lib.run_neq_ptr_same (P:=prog) w (AD b 0) underlying221 a
 go_enter func184,ntmps184
 go_wp2
 refine R9 (Rq ZK ..) rfl ?_
 exact ⟨rfl,rfl⟩
abbrev Da(B b:Nat)(a:List Value)(w:WD):Prop:=Lib.IsBuilder 223 5 B b a w
abbrev FJ(B b:Nat)(a:List Value)(w:WD):Prop:=Lib.BuilderAt 223 5 B b (PT b) a w
def pR(B b c w)(h:Da B b c w):
 CL 184 #[PT b] w λe a=>e=RT (.tuple #[])/\FJ B b c a/\Below B w a:=by
 obtain h|h:=h
 refine (wL w b h.cell0 h.shape h.frozen0).mono ?_
 rintro e a ⟨rfl,rfl⟩
 exact ⟨rfl,h.used _,(Pn B w).setCell (p:=(AD b 0)) h.1 _⟩
 refine (yE w b h.cell0).mono ?_
 rintro e a ⟨rfl,rfl⟩
 exact ⟨rfl,h,Pn B _⟩
def EJ{B b:Nat}{v}{e c:WD}(d:HC e b #[PT b,v] 223)(f:c.heap[b]? =e.heap[b]?):
 HC c b #[PT b,v] 223/\CA c b 1 v/\FZ c b 1:=by
 have a:=f.trans d
 exact ⟨a,CH a,Pg a 1⟩
def Dq{b o}{w:WD}(h:w.heap[b]? =some o):b<w.heap.size:=by obtain a|a:=Re b w.heap.size;exact a;simp [Array.getElem?_eq_none a]at h
def mO(B b o s w)(h:Da B b o w)(I:o.length+s.size<=140737488355328)(O:B<=w.heap.size):
 CL 169 #[PT b,.string s] w λe K=>e=RT (.tuple #[IV s.size,.nilIface])/\FJ B b (o++Lib.strCells s) K/\Below B w K:=by
 have⟨R,P,C,D,E⟩:=P6 Tryz.Ji
 have M:=O8 (pR B b o w h)
 clear h
 go_enter func169,ntmps169
 go_upto_region 2 with(go_at_call 184;apply M.o.mono;rintro e U ⟨rfl,G,q⟩;have L:=O8 G;have i:=O8 q;clear G q)
 have⟨H,v,l,f,t⟩:=L.o
 have n:=O8 l
 have d:=O8 f
 have y:=O8 t
 have m:=O8 H
 have V:CA U b 1 v:=CH l
 clear H l f t
 go_wp2_with (at_builtin;refine Lib.wpList_append_own_string _ rfl _ _ 220 9 rfl B 5 R TQ Ue P C D E _ _ _ rfl d.o s rfl ?c3 ?c4 ?c5 ?_)
 case c3=>unfold maxLen;omega
 case c4=>omega
 case c5=>have:=i.o.size;omega
 intro S Y c a _
 have⟨r,W,X⟩:=EJ (B:=B) n.o (a.block b (Dq n.o) (λe=>y.o e.symm))
 obtain ⟨F,J,j,rfl⟩:∃F J j,S=SL F J j:=by obtain ⟨A,_⟩|⟨g,j,N,A,_⟩:=c.2;exact ⟨_,_,_,A⟩;exact ⟨_,_,_,A⟩
 have z:=O8 c
 have u:=O8 a
 have x:=O8 r
 clear c a r
 go_wp2
 go_ret2
 refine ⟨rfl,?_,?_⟩
 exact Lib.BuilderAt.put (T:=223) (e:=5) m.o x.o (bs':=o++Lib.strCells s) (by simpa [Lib.strCells_length]using z.o) ZD
 exact (i.o.grown u.o (ZH i.o.size) (λk Q=>(d.o.lt k Q).1)).setCell (p:=(AD b 1)) m.o _
def yV(B b r c w)(h:Da B b r w)(M:r.length+1<=140737488355328)(V:B<=w.heap.size):
 CL 172 #[PT b,.int .u8 c] w λe P=>e=RT .nilIface/\FJ B b (r++[.int .u8 c]) P/\Below B w P:=by
 have⟨Y,W,F,G,H⟩:=P6 Tryz.Ji
 have R:=O8 (pR B b r w h)
 clear h
 go_enter func172,ntmps172
 go_upto_region 2 with(go_at_call 184;apply R.o.mono;rintro e I ⟨rfl,K,s⟩;have Q:=O8 K;have f:=O8 s;clear K s)
 have⟨L,v,o,l,x⟩:=Q.o
 have m:=O8 o
 have i:=O8 l
 have C:=O8 x
 have q:=O8 L
 have S:CA I b 1 v:=CH o
 clear L o l x
 go_wp2_with (at_builtin;refine wpList_append_own _ rfl _ _ 220 rfl B 5 Y (.int .u8 0) 1 1 TQ W F G H rfl ZD _ _ _ rfl (i.o.alloc _) (AD I.heap.size 0) 1 1 [.int .u8 c] rfl rfl ?c1 ?c2 ?c3 ?c4 ?c5 ?_)
 case c1=>
  intro j u y;match j,y with
  |0,y=>simp at y;subst y;simp [Addr.add]
 case c2=>intro u N;simp at N;subst N;rfl
 case c3=>unfold maxLen;omega
 case c4=>omega
 case c5=>have:=f.o.size;rw [PL];omega
 intro Z w2 d a _
 have⟨t,d1,f1⟩:=EJ (B:=B) m.o ((a.block b (by rw [PL];have:=Dq m.o;omega) (λe=>C.o e.symm)).trans (Lib.alloc_old I _ b (Dq m.o)))
 obtain ⟨J,O,n,rfl⟩:∃J O n,Z=SL J O n:=by obtain ⟨E,_⟩|⟨g,n,U,E,_⟩:=d.2;exact ⟨_,_,_,E⟩;exact ⟨_,_,_,E⟩
 have D:=O8 d
 have z:=O8 a
 have A:=O8 t
 clear d a t
 go_wp2
 go_ret
 refine ⟨rfl,?_,?_⟩
 exact Lib.BuilderAt.put (T:=223) (e:=5) q.o A.o (bs':=r++[.int .u8 c]) (ZX D.o) ZD
 exact ((f.o.alloc (ZH f.o.size) _).grown z.o (by have:=f.o.size;rw [PL];omega) (λk X=>(i.o.lt k X).1)).setCell (p:=(AD b 1)) q.o _
section
open Fm
def wm(w:Wy):Prop:=w.need<256/\w.ban<256
def Ct{a k}(b:a<256)(c:k<8):a|||2^k<256:=Tf (n:=8) b (Sg ZD c)
def CR{f x p w c}(b:eh f)(e:(Fm.aI f)[p]? =some x)(hw:wm w)(h:c∈split x p w):wm c:=by have g:=Pm e;unfold split at h;split at h;rw [Pc.1 h];exact hw;rw [iw h];exact ⟨Ct hw.1 (b _ g _ rfl),hw.2⟩;rename_i k;have d:=(Fm.fY (Fm.One.neg (a:=Fm.prop k)) f p e).2;rw [iw h];exact ⟨hw.1,Ct hw.2 (b _ (Pm d) k rfl)⟩;rw [Pc.1 h];exact hw;obtain rfl|h:=PO.1 h;exact hw;rw [Pc.1 h];exact hw;rw [Pc.1 h];exact hw;obtain rfl|h:=PO.1 h;exact hw;rw [Pc.1 h];exact hw;obtain rfl|h:=PO.1 h;exact hw;rw [Pc.1 h];exact hw;cases h
def mj{f}(b:eh f):∀m w,wm w->∀z∈eH f m w,wm z
 |0,_,_,z,a=>ZC a
 |m+1,w,hw,z,a=>by
  unfold eH at a;split at a;rw [Pc.1 a];exact hw;rename_i p r g;cases d:(aI f)[p]? with
  |none=>rw [d]at a;cases a
  |some x=>rw [d]at a;have⟨c,e,a⟩:=T6.1 a;exact mj b m c (CR (w:=Wy.dI {w with bQ:=r} p) b d hw e) z a
def nN(a):wm (Wy.aM a):=⟨(by decide:(0:Nat)<256),(by decide:(0:Nat)<256)⟩
end
def ep(w:WD):Prop:=∀j,j<Lib.deBruijn64tab.length->w.cell? (AD 0 j)=some (.int .u8 ((Lib.deBruijn64tab.getD j 0:Nat):Int))
def ep.ag{w w'}(h:ep w)(b:BW w w'):ep w':=λj a=>(b.cell (O9 w _ (h j a))).trans (h j a)
def Nt(x a:Nat)(d:x<18446744073709551616)(e:x≠0)(b:x&&&(18446744073709551616-x)=a):
 IntKind.u64.wrap (bits BinOp.and IntKind.u64 (x:Int) (IntKind.u64.wrap (-(x:Int)))*285870213051353865)/288230376151711744=((a*285870213051353865%18446744073709551616/288230376151711744:Nat):Int):=by
 have c:IntKind.u64.wrap (-(x:Int))=((18446744073709551616-x:Nat):Int):=by rw [Ss];omega
 rw [c,RC x _ d ZO,b,Ss]
 omega
def H8(x k a:Nat)(w)(d:((x:Int)==0)=false)
 (c:IntKind.u64.wrap (bits BinOp.and IntKind.u64 (x:Int) (IntKind.u64.wrap (-(x:Int)))*285870213051353865)/288230376151711744=(a:Int))
 (g:a<64) (h:k<64) (b:CA w 0 a (.int .u8 k)):
 CL 95 #[UV x] w λe f=>e=RT (IV k)/\f=w:=by
 go_enter func95,ntmps95
 go_wp2_with (simp only [c])
 go_ret
 exact ⟨rfl,rfl⟩
def CY(x:Nat)(h:x<18446744073709551616)(d:x≠0)(w)(i:ep w):
 CL 95 #[UV x] w λe j=>e=RT (IV ((Lib.ctz 64 x:Nat):Int))/\j=w:=by
 have⟨b,g⟩:=Lib.lowest_bit 64 x d h
 have⟨f,c⟩:=Lib.deBruijn64_at _ g
 have a:=i _ f
 rw [c]at a
 exact H8 x _ _ w (by simp;omega) (Nt x _ h d b) f g a
def DI(u)(b:u<16)(h:u<(⟨#[48,49,50,51,52,53,54,55,56,57,97,98,99,100,101,102,103,104,105,106,107,108,109,110,111,112,113,114,115,116,117,118,119,120,121,122]⟩:ByteArray).size):(⟨#[48,49,50,51,52,53,54,55,56,57,97,98,99,100,101,102,103,104,105,106,107,108,109,110,111,112,113,114,115,116,117,118,119,120,121,122]⟩:ByteArray)[u]=ie u:=by have a:∀u:Fin 16,(⟨#[48,49,50,51,52,53,54,55,56,57,97,98,99,100,101,102,103,104,105,106,107,108,109,110,111,112,113,114,115,116,117,118,119,120,121,122]⟩:ByteArray)[u.val]'(Ps u.isLt ZD)=ie u.val:=ZD;exact a ⟨u,b⟩
def A8(w):CL 202 #[IV 16] w λe a=>e=RT (.bool true)/\a=w:=by go_enter func202,ntmps202;go_wp2;go_ret;exact ⟨rfl,rfl⟩
def Mx(w)(b:ep w):CL 203 #[UV 16] w λe d=>e=RT (IV 4)/\d=w:=by
 have h:=CY 16 ZD ZD w b;have a:Lib.ctz 64 16=4:=by decide+kernel
 rw [a]at h;have c:=O8 h;clear h b a;go_enter func203,ntmps203;go_wp2_with (go_at_call 95;apply c.o.mono;rintro e f ⟨rfl,rfl⟩);go_ret;exact ⟨rfl,rfl⟩
def yC(u:Nat)(k:u<16)(w)(g:ep w):CL 195 #[SN,UV u,IV 16,.bool false,.bool false] w λe s=>e=RT (.tuple #[SN,.string ⟨(eZ u).toArray⟩])/\BW w s:=by
 have n:=O8 (A8 w);have o:=O8 g;clear g;go_enter func195,ntmps195;go_upto_region 11 with(first
  |(go_at_call 202;refine (A8 _).mono ?_;rintro e t ⟨rfl,rfl⟩)
  |(go_at_call 203;refine (Mx _ (o.o.ag (ah _ _))).mono ?_;rintro e v ⟨rfl,rfl⟩))
 have⟨c,a⟩:=EX (w.alloc (.cells Tryz.zeroCells258 258));have l:Tryz.zeroCells258[64]? =some (.int .u8 0):=ZK;have⟨b,f⟩:=aT w Tryz.zeroCells258 258 64 _ l;have d:Hid (BW w c):=a▸ah _ _;rw [a]at b f⊢;clear a l;have r:(u:Int)<16:=ZO;go_loopw [1,13] (λx i wr=>x=UV u/\i=IV 65/\wr=c) (λ_ _ _=>0);exact ⟨rfl,rfl,rfl⟩;obtain ⟨rfl,rfl,rfl⟩:=hrel;go_wp2;simp only [DI u k];have m:=Uo (P:=prog) (wr.setCell (AD w.heap.size 64) (.int .u8 ((ie u).toNat:Int))) 220 9 5 (AD w.heap.size 64) 1 [ie u] TQ underlying5 Ue (λj q=>by obtain rfl:j=0:=ZX q;exact P4 (h:=b) ..)
 rw [show([ie u]:List UInt8).length=1 from rfl]at m;rw [m];simp only [Result.andThen];rw [Oper.upon_value];go_wp2;go_ret2;refine ⟨?_,d.o.setCell (p:=(AD w.heap.size 64)) (Pf _) _⟩;rw [kL,PW k];rfl
def BH(u:Nat)(O:u<256)(N:16<=u)(w)(B:ep w):CL 195 #[SN,UV u,IV 16,.bool false,.bool false] w λe M=>e=RT (.tuple #[SN,.string ⟨(eZ u).toArray⟩])/\BW w M:=by
 have I:=O8 (A8 w);have J:=O8 B;clear B;go_enter func195,ntmps195;go_upto_region 11 with(first
  |(go_at_call 202;refine (A8 _).mono ?_;rintro e Q ⟨rfl,rfl⟩)
  |(go_at_call 203;refine (Mx _ (J.o.ag (ah _ _))).mono ?_;rintro e R ⟨rfl,rfl⟩))
 have⟨a,c⟩:=EX (w.alloc (.cells Tryz.zeroCells258 258));have G:Tryz.zeroCells258[64]? =some (.int .u8 0):=ZK;have m:Tryz.zeroCells258[63]? =some (.int .u8 0):=ZK;have⟨g,s⟩:=aT w Tryz.zeroCells258 258 63 _ m;have⟨k,t⟩:=aT w Tryz.zeroCells258 258 64 _ G;have n:Hid (BW w a):=c▸ah _ _;rw [c]at k t g s⊢;clear c G m;have L:16<=(u:Int):=ZO;have⟨d,y⟩:=EX (u%16);have⟨v,F⟩:=EX (u/16);have C:bits BinOp.and IntKind.u64 (u:Int) 15=(d:Int):=by have:=RC u 15 ZO ZD;rw [show u&&&15=u%16 from Nat.and_two_pow_sub_one_eq_mod u 4,y]at this;exact this
 have E:(u:Int)/16=(v:Int):=ZO;have l:d<16:=ZO;have D:(d:Int)<36:=ZO;have z:d<36:=ZO;have b:v<16:=ZO;have A:(v:Int)<16:=ZO;have f:Hid (eZ u=[ie v,ie d]):=by show eZ u=_;rw [kL,Qa ZO,F,y,kL,PW b];rfl
 have o:Hid (v<u):=by show v<u;omega
 clear y F;go_loopw [1,13] (λx i wr=>(x=UV u/\i=IV 65/\wr=a)\/(x=UV v/\i=IV 64/\wr=a.setCell (AD w.heap.size 64) (.int .u8 ((ie d).toNat:Int)))) (λx _ _=>(intOf x).toNat);exact .inl ⟨rfl,rfl,rfl⟩;obtain ⟨rfl,rfl,rfl⟩|⟨rfl,rfl,rfl⟩:=hrel;go_wp2;go_roundw;exact .inr ⟨rfl,rfl,by simp only [DI d l]⟩;simp [intOf];have:=o.o;omega;have q:(a.setCell (AD w.heap.size 64) (Value.int .u8 ((ie d).toNat:Int))).cell? (AD w.heap.size 63)=some (Value.int .u8 0):=(PQ _ _ _ _ (dX ZD)).trans g;have r:(a.setCell (AD w.heap.size 64) (Value.int .u8 ((ie d).toNat:Int))).cell? (AD w.heap.size 64)=some (Value.int .u8 ((ie d).toNat:Int)):=P4 (h:=k) ..;go_wp2;simp only [DI v b];have H:=Uo (P:=prog) ((a.setCell (AD w.heap.size 64) (Value.int .u8 ((ie d).toNat:Int))).setCell (AD w.heap.size 63) (Value.int .u8 ((ie v).toNat:Int))) 220 9 5 (AD w.heap.size 63) 2 [ie v,ie d] TQ underlying5 Ue (λj K=>by
  match j,K with
  |0,_=>exact P4 (h:=q) ..
  |1,_=>exact (PQ (a.setCell (AD w.heap.size 64) (Value.int .u8 ((ie d).toNat:Int))) (AD w.heap.size 63) (AD w.heap.size 64) _ (dX ZD)).trans r)
 rw [show([ie v,ie d]:List UInt8).length=2 from rfl]at H;rw [H];simp only [Result.andThen];rw [Oper.upon_value];go_wp2;go_ret2;refine ⟨?_,(n.o.setCell (p:=(AD w.heap.size 64)) (Pf _) _).setCell (p:=(AD w.heap.size 63)) (Pf _) _⟩;rw [f.o];rfl
def BG(u:Nat)(b:u<256)(w)(a:ep w):CL 195 #[SN,UV u,IV 16,.bool false,.bool false] w λe c=>e=RT (.tuple #[SN,.string ⟨(eZ u).toArray⟩])/\BW w c:=by by_cases h:u<16;exact yC u h w a;exact BH u b ZO w a
def MT(u:Nat)(f:u<256)(w)(a:ep w):CL 185 #[UV u,IV 16] w λe g=>e=RT (.string ⟨(eZ u).toArray⟩)/\BW w g:=by have d:=O8 (BG u f w a);clear a;go_enter func185,ntmps185;go_wp2_with (go_at_call 195;apply d.o.mono;rintro e h ⟨rfl,b⟩;have c:=O8 b;clear b);go_ret;exact ⟨rfl,c.o⟩
def Jc(u:Nat)(f:u<256)(w)(a:ep w):CL 170 #[UV u,IV 16] w λe g=>e=RT (.string ⟨(eZ u).toArray⟩)/\BW w g:=by have d:=O8 (MT u f w a);clear a;go_enter func170,ntmps170;go_wp2_with (go_at_call 185;apply d.o.mono;rintro e h ⟨rfl,b⟩;have c:=O8 b;clear b);go_ret;exact ⟨rfl,c.o⟩
def Tw:=@List.mem_of_mem_take
def lz(a b:List UInt8):(⟨a.toArray⟩:ByteArray)++⟨b.toArray⟩=⟨(a++b).toArray⟩:=by apply ByteArray.ext;rw [ByteArray.data_append];simp
def yD(a b):Lib.byteCells a++Lib.byteCells b=Lib.byteCells (a++b):=by simp [Lib.byteCells]
def gN{u}(h:u<256):(eZ u).length<=2:=by rw [kL];split;simp;rw [kL,PW ZO];simp
def AH{u}(h:u<100):(Lib.decDigits u).length<=2:=by rw [iq];split;simp;rw [iq,PW ZO];simp
def cG{l k}(h:k<l.length):(aE l).getD k 0=(l.getD k 0:Nat):=by unfold aE;simp [Pd,h]
def xi(l:List Nat)(k)(h:k<l.length):eY ((l.take (k+1)).map Lib.decDigits)=eY ((l.take k).map Lib.decDigits)++(Lib.decDigits (l.getD k 0)++[32]):=by
 have e:l.take (k+1)=l.take k++[l.getD k 0]:=by rw [Qf,Pd,Pe h];rfl
 rw [e];simp [eY]
def lH(l:List Nat)(b:∀p∈l,p<100):(eY (l.map Lib.decDigits)).length<=3*l.length:=by
 induction l with
 |nil=>simp [eY]
 |cons a l d=>have e:=AH (b a (P2 ..));have f:=d (λp c=>b p (Qc _ c));rw [Pv,j7];simp only [Pk,P9];omega
def rM{T e B b p l w o}(h:Lib.BuilderAt T e B b p l w)(m:BW w o):Lib.BuilderAt T e B b p l o:=by have s:=h.lt;obtain ⟨r,v,j,a,k⟩:=h;refine ⟨r,v,(m.block b s).trans j,⟨a.1,?_⟩,k⟩;obtain q|⟨g,d,f,rfl,i,n,c⟩:=a.2;exact .inl q;exact .inr ⟨g,d,f,rfl,i,(m.block g (Pb.1 n).1).trans n,c⟩
def Dp{B b a w d}(h:Da B b a w)(c:BW w d):Da B b a d:=h.imp (λh=>rM h c) (λh=>rM h c)
structure oH (q:Nat) (a:WD) (l:List UInt8) (w:WD):Prop where
 NC:FJ (q+1) (q+1) (Lib.byteCells l) w
 aJ:Below (q+1) a w
 bA:l.length<=10000
def oH.put{q c w b l}(h:oH q c l w)(a)(d:FJ (q+1) (q+1) (Lib.byteCells l++Lib.byteCells a) b)(e:Below (q+1) w b)(f:(l++a).length<=10000):oH q c (l++a) b:=
 ⟨yD l a▸d,h.aJ.trans e,f⟩
def oH.write{q f w l}(h:oH q f l w)(a)(c:(l++a).length<=10000):
 CL 169 #[PT (q+1),.string ⟨a.toArray⟩] w λe d=>e=RT (.tuple #[IV a.length,.nilIface])/\oH q f (l++a) d:=by
 have m:=h.NC.lt
 have j:=h.bA
 have k:(Lib.byteCells l).length=l.length:=by simp [Lib.byteCells]
 have b:(⟨a.toArray⟩:ByteArray).size=a.length:=by simp [ByteArray.size]
 simp only [Pk]at c
 refine (mO (q+1) (q+1) (Lib.byteCells l) ⟨a.toArray⟩ w (.inr h.NC) ZO ZO).mono ?_
 rintro e d ⟨rfl,g,i⟩
 exact ⟨by rw [b],h.put a g i (ZX c)⟩
def J9(a c:Nat)(X y xc Y A yc next d w)(hT:ep w)(hn:a<256)(G:c<256)(hx:aG .i64 w X y (aE next))(hy:aG .i64 w Y A (aE d))(aM:∀p∈next,p<100)(aP:∀p∈d,p<100)(a9:y<=1000)(ba:A<=1000):
 Calls prog 145 #[.agg #[.int .u64 (a:Int),.int .u64 (c:Int),SL X y xc,SL Y A yc]] w λe b=>e=.returned (.string ⟨(xW a c next d).toArray⟩)/\Below w.heap.size w b:=by
 obtain ⟨q,P⟩:∃q,w.heap.size=q:=⟨_,rfl⟩
 obtain ⟨j,J⟩:∃j,(w.alloc (CE #[.int .u64 (a:Int),.int .u64 (c:Int),SL X y xc,SL Y A yc] 119)).alloc (CE #[.pointer none,SL none 0 0] 223)=j:=⟨_,rfl⟩
 have aL:j.heap.size=q+1+1:=by rw [<-J,PL,PL,P]
 have am:=aT w #[.int .u64 (a:Int),.int .u64 (c:Int),SL X y xc,SL Y A yc] 119
 rw [P]at am
 have aA:Below (q+1) (w.alloc (CE #[.int .u64 (a:Int),.int .u64 (c:Int),SL X y xc,SL Y A yc] 119)) j:=by rw [<-J,<-P];exact (Pn _ _).alloc (by rw [PL];exact Pf _) _
 have F:Below q w j:=by rw [<-P];exact af (ah _ _) (J▸ah _ _)
 have D:Hid (∀i u,(#[.int .u64 (a:Int),.int .u64 (c:Int),SL X y xc,SL Y A yc]:Array Value)[i]? =some u->∀b,Below (q+1) j b->b.cell? ⟨q,i,none⟩=some u):=λi u hu b s=>((aA.trans s).cell (p:=⟨q,i,none⟩) (Tq q)).trans (am i u hu).1
 have aU:Hid (Da (q+1) (q+1) [] j):=by have:=Lib.fresh_isBuilder 223 5 (w.alloc (CE #[.int .u64 (a:Int),.int .u64 (c:Int),SL X y xc,SL Y A yc] 119));rw [PL,P]at this;rw [<-J];exact this
 have aQ:=O8 F
 have ag:=O8 aL
 have au:Hid (ep j):=hT.ag (by unfold BW;rw [P];exact F)
 have HX:Hid (∀b,Below (q+1) j b->aG .i64 b X y (aE next)):=λb s=>hx.ag (by unfold BW;rw [P];exact F.trans (s.mono ZO))
 have HY:Hid (∀b,Below (q+1) j b->aG .i64 b Y A (aE d)):=λb s=>hy.ag (by unfold BW;rw [P];exact F.trans (s.mono ZO))
 have aj:Hid (next.length=y):=by have:=hx.1;rwa [aD]at this
 have av:Hid (d.length=A):=by have:=hy.1;rwa [aD]at this
 have ak:=O8 aM
 have ax:=O8 aP
 clear hT hx hy aM aP aA F am aL
 go_enter func145,ntmps145
 go_upto_region 2 with(fail)
 have aZ:=O8 P
 have q0:j.cell? ⟨q,0,none⟩=some (.int .u64 (a:Int)):=D.o 0 _ rfl j (Pn _ _)
 have q1:j.cell? ⟨q,1,none⟩=some (.int .u64 (c:Int)):=D.o 1 _ rfl j (Pn _ _)
 have HQ:Hid (∀W',Below j.drew.heap.size j.drew W'->W'.cell? ⟨q,0,none⟩=some (.int .u64 (a:Int))/\W'.cell? ⟨q,1,none⟩=some (.int .u64 (c:Int))):=λb s=>
  have s:Below (q+1) j b:=((Pn _ _).drew.trans s).mono (by change q+1<=j.heap.size;rw [ag.o];omega)
  ⟨D.o 0 _ rfl b s,D.o 1 _ rfl b s⟩
 have ao:Hid (∀b,Below j.drew.heap.size j.drew b->Calls prog 170 #[.int .u64 (a:Int),.int .i64 16] b λe r=>e=.returned (.string ⟨(eZ a).toArray⟩)/\Below b.heap.size b r):=λb s=>Jc a hn b (au.o.ag ((Pn _ _).drew.trans s))
 have ap:Hid (∀b,Below j.drew.heap.size j.drew b->Calls prog 170 #[.int .u64 (c:Int),.int .i64 16] b λe r=>e=.returned (.string ⟨(eZ c).toArray⟩)/\Below b.heap.size b r):=λb s=>Jc c G b (au.o.ag ((Pn _ _).drew.trans s))
 clear J P
 refine aw 9 (S:=λW'=>W'.cell? ⟨q,0,none⟩=some (.int .u64 (a:Int))/\W'.cell? ⟨q,1,none⟩=some (.int .u64 (c:Int))) ZK (⟨q0,q1⟩) (λal=>?_)
 refine aB 0 ?_ [6,2,1,0]
 refine aB 1 ?_ [6,2,1]
 refine aB 4 ?_ [6,5,4]
 refine aB 5 ?_ [6,5]
 clear al q0 q1
 refine bY [2,3,6,7,8] (λi=>if i=2 then 10 else if i=3 then 11 else if i=6 then 14 else if i=7 then 15 else 16) #[true,true,true,true,true,true,true,true,true,false] 1
  (λi v w=>match i with|2=>v=.string ⟨(eZ a).toArray⟩|3=>v=.string ⟨(eZ a++[32]).toArray⟩|6=>v=.string ⟨(eZ c).toArray⟩|7=>v=.string ⟨(eZ a++[32]++eZ c).toArray⟩|_=>v=.string ⟨(eZ a++[32]++eZ c++[59]).toArray⟩) ZK ZK rfl ZD ?st1 ?st2 ZD ?st3 ?st4
 case st1=>intro i v w4 w5 hv s;split at hv;exact hv;exact hv;exact hv;exact hv;exact hv
 case st2=>exact HQ.o
 case st3=>
  rintro l V b i o hl a7 hi O hr hJ K C;simp only [PO,QL,Sh]at hi;obtain rfl|rfl|rfl|rfl|rfl:=hi;simp only [PA,Pt,Pu,PJ]at O;subst O;refine aO (R:=λe r=>e=.returned (.string ⟨(eZ a).toArray⟩)/\Below b.heap.size b r) (f:=170) (args:=#[.int .u64 (a:Int),.int .i64 16]) (ao.o b hJ.aJ) ?_ (λe w4 ⟨he,s⟩=>⟨_,he,C _ w4 s rfl⟩);clear C;refine ZY ?_;go_simp;simp only [PA,Pt,Pu,PJ]at O;subst O;have N:=hJ.oZ 2 ZD (bj (l:=[2]) ZK hr 2 ZS);change V 10=_ at N;refine cB (v:=.string (⟨(eZ a).toArray⟩++⟨#[32]⟩)) (w':=b) ?_ (C _ _ (Pn _ _) (Q7 Value.string (lz (eZ a) [32])));clear C;refine ZY ?_;rw [N];go_simp;have M:=gN hn;have N:=gN G;try omega
  simp only [PA,Pt,Pu,PJ]at O;subst O;refine aO (R:=λe r=>e=.returned (.string ⟨(eZ c).toArray⟩)/\Below b.heap.size b r) (f:=170) (args:=#[.int .u64 (c:Int),.int .i64 16]) (ap.o b hJ.aJ) ?_ (λe w4 ⟨he,s⟩=>⟨_,he,C _ w4 s rfl⟩);clear C;refine ZY ?_;go_simp;simp only [PA,Pt,Pu,PJ]at O;subst O;have h3:=hJ.oZ 3 ZD (bj (l:=[3,6]) ZK hr 3 ZS);change V 11=_ at h3;have h6:=hJ.oZ 6 ZD (bj (l:=[3,6]) ZK hr 6 ZS);change V 14=_ at h6;refine cB (v:=.string (⟨(eZ a++[32]).toArray⟩++⟨(eZ c).toArray⟩)) (w':=b) ?_ (C _ _ (Pn _ _) (Q7 Value.string (lz (eZ a++[32]) (eZ c))));clear C;refine ZY ?_;rw [h3,h6];go_simp;have M:=gN hn;have N:=gN G;try omega
  simp only [PA,Pt,Pu,PJ]at O;subst O;have h7:=hJ.oZ 7 ZD (bj (l:=[7]) ZK hr 7 ZS);change V 15=_ at h7;refine cB (v:=.string (⟨(eZ a++[32]++eZ c).toArray⟩++⟨#[59]⟩)) (w':=b) ?_ (C _ _ (Pn _ _) (Q7 Value.string (lz (eZ a++[32]++eZ c) [59])));clear C;refine ZY ?_;rw [h7];go_simp;have M:=gN hn;have N:=gN G;try omega
 case st4=>
  intro V b Q hV;refine ZY ?_;have e8:=hV 8 ZD;change V 16=_ at e8;obtain ⟨L,T⟩:∃L,(eZ a++[32]++eZ c++[59])=L:=⟨_,rfl⟩;rw [T]at e8;have a3:L.length<=6:=by rw [<-T];have:=gN hn;have:=gN G;simp;omega
  have aR:Hid (Below (q+1) j b):=((Pn _ _).drew.trans Q).mono (by change q+1<=j.heap.size;rw [ag.o];omega);have ay:Da (q+1) (q+1) [] b:=Dp aU.o ((Pn _ _).drew.trans Q);have a6:q+1+1<=b.heap.size:=by have h:=Q.size;have N:=ag.o;change j.heap.size<=_ at h;omega
  have aq:Hid (Calls prog 169 #[.pointer (some ⟨q+1,0,none⟩),.string ⟨L.toArray⟩] b λe r=>∃z:Int,e=.returned (.tuple #[.int .i64 z,.nilIface])/\FJ (q+1) (q+1) (Lib.byteCells L) r/\Below (q+1) b r):=(mO (q+1) (q+1) [] ⟨L.toArray⟩ b ay (by simp [ByteArray.size];omega) ZO).mono λe r ⟨he,N,h3⟩=>⟨_,he,N,h3⟩;rw [e8];refine aK 9 λK C=>?_;rw [PW (by rfl)];apply aY.o;refine aO (f:=169) aq.o ?_ (λe w3 an=>?_);clear C;go_simp;obtain ⟨bb,rfl,aH,aF⟩:=an;refine ⟨_,rfl,?_⟩;refine C.q ?_;clear C K;have ae:Hid (eZ a++32::(eZ c++[59])=L):=O8 (by rw [<-T];simp);have ar:Hid (oH q j L w3):=⟨aH,aR.o.trans aF,ZO⟩;have q2:w3.cell? ⟨q,2,none⟩=some (SL X y xc):=D.o 2 _ rfl w3 ar.o.aJ;clear aH aF T aq ao ap HQ e8 Q hV ay;refine az ZK ?_;go_wp2;go_loopw [21] (λx wr=>∃k:Nat,k<=y/\x=.int .i64 k/\Hid (oH q j (L++eY ((next.take k).map Lib.decDigits)) wr)) (λx _=>y-(intOf x).toNat);exact ⟨0,Pz _,rfl,by have e:eY ((next.take 0).map Lib.decDigits)=[]:=rfl;rw [e,Qb];exact ar⟩;obtain ⟨k,hk,rfl,g⟩:=hrel;by_cases B:k<y;have aI:(k:Int)<y:=ZO;have m:k<next.length:=ZR aj.o B;obtain ⟨-,h0|⟨rb,ro,rfl,hc⟩⟩:=HX.o wr g.o.aJ;omega;have ck:=hc k B;rw [cG m]at ck;obtain ⟨p,E⟩:∃p,next.getD k 0=p:=⟨_,rfl⟩;have n:p<100:=ak.o p (by rw [<-E,Pd,Pe m];exact QF m);have HJ:Hid (eY ((next.take (k+1)).map Lib.decDigits)=eY ((next.take k).map Lib.decDigits)++(Lib.decDigits p++[32])):=by rw [<-E];exact xi _ k m
  rw [E]at ck;have ab:=O8 (Tryz.strconv_Itoa_small p n wr);have aa:Hid ((⟨(Lib.decDigits p).toArray⟩:ByteArray)++⟨#[32]⟩=⟨(Lib.decDigits p++[32]).toArray⟩):=lz (Lib.decDigits p) [32];have t:(L++eY ((next.take k).map Lib.decDigits)++(Lib.decDigits p++[32])).length<=10000:=by
   have M:=lH (next.take (k+1)) (λp E=>ak.o p (Tw E));rw [HJ.o]at M;have N:(next.take (k+1)).length<=k+1:=by rw [QI];omega
   simp only [Pk]at M⊢;omega
  have ai:=O8 (g.o.write (Lib.decDigits p++[32]) t);have a2:(Lib.decDigits p).length<=9223372036854775806:=ZH (AH n);clear hc E m t;go_wp2_with (first
   |(go_at_call 171;apply ab.o.mono;rintro e w5 ⟨rfl,rfl⟩;have a1:=aa.o)
   |(go_at_call 169;apply ai.o.mono;rintro e w6 ⟨rfl,H⟩;have ad:=O8 H;clear H))
  go_roundw;exact ⟨k+1,ZO,ZN,by rw [HJ.o,<-Qe];exact ad⟩;simp [intOf];omega;obtain rfl:k=y:=ZO;have I:next.take k=next:=PI (by rw [aj.o];exact Pf _);rw [I]at g;clear I;obtain ⟨Z,U⟩:∃Z,L++eY (next.map Lib.decDigits)=Z:=⟨_,rfl⟩;have a4:Z.length<=4000:=by have M:=lH next ak.o;rw [aj.o]at M;rw [<-U,Pk];omega
  have aW:=O8 U;rw [U]at g;have aV:Hid (Calls prog 172 #[.pointer (some ⟨q+1,0,none⟩),.int .u8 59] wr λe b=>e=.returned .nilIface/\oH q j (Z++[59]) b):=by
   have B:=g.o.NC.lt;have a8:(Lib.byteCells Z).length=Z.length:=by simp [Lib.byteCells]
   refine (yV (q+1) (q+1) (Lib.byteCells Z) 59 wr (.inr g.o.NC) ZO ZO).mono ?_;rintro e b ⟨rfl,s,hk⟩;exact ⟨rfl,g.o.put [59] s hk (by simp only [Pk,P9,Ra];omega)⟩
  clear U;go_upto_region 9 with(go_at_call 172;apply aV.o.mono;rintro e w5 ⟨rfl,aJ⟩;have ac:=O8 aJ;clear aJ);obtain ⟨l2,W⟩:∃l2,Z++[59]=l2:=⟨_,rfl⟩;rw [W]at ac;have a5:l2.length<=4001:=by rw [<-W,Pk,Qi];omega
  have aX:=O8 W;clear W;have q3:w5.cell? ⟨q,3,none⟩=some (SL Y A yc):=D.o 3 _ rfl w5 ac.o.aJ;go_wp2;go_loopw [34] (λx wr=>∃k:Nat,k<=A/\x=.int .i64 k/\Hid (oH q j (l2++eY ((d.take k).map Lib.decDigits)) wr)) (λx _=>A-(intOf x).toNat);exact ⟨0,Pz _,rfl,by have e:eY ((d.take 0).map Lib.decDigits)=[]:=rfl;rw [e,Qb];exact ac⟩;obtain ⟨k,hk,rfl,g⟩:=hrel;by_cases B:k<A;have aI:(k:Int)<A:=ZO;have m:k<d.length:=ZR av.o B;obtain ⟨-,h0|⟨rb,ro,rfl,hc⟩⟩:=HY.o wr g.o.aJ;omega;have ck:=hc k B;rw [cG m]at ck;obtain ⟨p,E⟩:∃p,d.getD k 0=p:=⟨_,rfl⟩;have n:p<100:=ax.o p (by rw [<-E,Pd,Pe m];exact QF m);have HJ:Hid (eY ((d.take (k+1)).map Lib.decDigits)=eY ((d.take k).map Lib.decDigits)++(Lib.decDigits p++[32])):=by rw [<-E];exact xi _ k m
  rw [E]at ck;have ab:=O8 (Tryz.strconv_Itoa_small p n wr);have aa:Hid ((⟨(Lib.decDigits p).toArray⟩:ByteArray)++⟨#[32]⟩=⟨(Lib.decDigits p++[32]).toArray⟩):=lz (Lib.decDigits p) [32];have t:(l2++eY ((d.take k).map Lib.decDigits)++(Lib.decDigits p++[32])).length<=10000:=by
   have M:=lH (d.take (k+1)) (λp E=>ax.o p (Tw E));rw [HJ.o]at M;have N:(d.take (k+1)).length<=k+1:=by rw [QI];omega
   simp only [Pk]at M⊢;omega
  have ai:=O8 (g.o.write (Lib.decDigits p++[32]) t);have a2:(Lib.decDigits p).length<=9223372036854775806:=ZH (AH n);clear hc E m t;go_wp2_with (first
   |(go_at_call 171;apply ab.o.mono;rintro e w5 ⟨rfl,rfl⟩;have a1:=aa.o)
   |(go_at_call 169;apply ai.o.mono;rintro e w6 ⟨rfl,H⟩;have ad:=O8 H;clear H))
  go_roundw;exact ⟨k+1,ZO,ZN,by rw [HJ.o,<-Qe];exact ad⟩;simp [intOf];omega;obtain rfl:k=A:=ZO;have I:d.take k=d:=PI (by rw [av.o];exact Pf _);rw [I]at g;clear I;have a0:Hid (Calls prog 173 #[.pointer (some ⟨q+1,0,none⟩)] wr λe b=>e=.returned (.string ⟨(l2++eY (d.map Lib.decDigits)).toArray⟩)/\Below (q+1) wr b):=by have B:=g.o.NC.lt;refine (Tryz.Builder_String_any (q+1) (q+1) (l2++eY (d.map Lib.decDigits)) wr (.inr g.o.NC) ZO).mono ?_;rintro e b h;exact h
  go_wp2_with (go_at_call 173;apply a0.o.mono;rintro e w6 ⟨rfl,aC⟩;have aS:=O8 aC;clear aC);go_ret;refine ⟨?_,?_⟩;rw [<-aX.o,<-aW.o,<-ae.o];simp [xW];rw [aZ.o];exact aQ.o.trans ((g.o.aJ.trans aS.o).mono ZO)
section
open Go.Maps
def Qm:=@List.getElem?_concat_length
def RJ:=@Go.Value.int.inj
def Tryz.MV:(prog.info? 62).map (λi=>(i.zero,i.size,i.bytes))=some (some (.agg #[UV 0,UV 0,UV 0,SN]),4,48):=ZK
def lR(c:Mi):ByteArray:=⟨(xW c.need c.ban c.next c.bw).toArray⟩
def zS{c d}(h:lR c=lR d):c=d:=by
 obtain ⟨a,b,e,g⟩:=Ka (by have:=Q7 (λs=>s.data.toList) h;simpa [lR]using this)
 cases c;cases d;simp only at a b e g;subst a b e g;rfl
structure TN where
 W:Wy
 r:dN×dN
 N:Nat
 t:dN
 bh:List Nat
def Ks(x:TN):List Value:=[UV x.W.need,UV x.W.ban,UV x.N,jW x.t]
def eE:List TN->List Value
 |[]=>[]
 |x::l=>UV x.W.need::UV x.W.ban::UV x.N::jW x.t::eE l
def sn:∀l x,eE (l++[x])=eE l++Ks x
 |[],x=>rfl
 |y::l,x=>by rw [Qq];simp only [eE,sn l x,Qq]
def py:∀l j x,l[j]? =some x->
 (eE l)[j*4]? =some (UV x.W.need)/\(eE l)[j*4+1]? =some (UV x.W.ban)/\(eE l)[j*4+2]? =some (UV x.N)/\(eE l)[j*4+3]? =some (jW x.t)
 |_::l,0,_,h=>by cases h;exact ⟨rfl,rfl,rfl,rfl⟩
 |_::l,j+1,x,h=>by have a:=py l j x h;have e:(j+1)*4=j*4+1+1+1+1:=ZO;rw [e];exact a
 |[],_,_,h=>by simp at h
def so:∀l j x t bh,l[j]? =some x->(eE l).set (j*4+3) (jW t)=eE (l.set j {x with t:=t,bh:=bh})
 |_::l,0,x,t,bh,h=>by cases h;rfl
 |y::l,j+1,x,t,bh,h=>by have a:=so l j x t bh h;have e:(j+1)*4+3=(j*4+3)+1+1+1+1:=ZO;rw [e,Pw];simp only [eE,Pw,a]
 |[],_,_,_,_,h=>by simp at h
def cd(gk nb ob:Nat)(nv:Value)(k:Nat):Prop:=k=gk\/k=nb\/k=ob\/nv.ownBlock=some k
def lZ(gk nb ob:Nat)(nv:Value)(X:Nat->Prop)(k:Nat):Prop:=cd gk nb ob nv k\/X k
def K7(W:Wy)(r:dN×dN):Value:=.agg #[UV W.need,UV W.ban,jW r.1,jW r.2]
structure II (w:WD) (S:Nat->Prop) (n:Nat) (us:List Int) (x:TN):Prop where
 pT:fD w S n x.W x.r
 mZ:aG .i64 w x.t.1 x.t.2.1 (aE x.bh)
 sep:oB S x.t.1
 lt:MC w x.t.1
 met:kU us (cN x.W.bw n) us.length x.N
def ME(n:Nat)(T:List TN)(g:Value->Option Value):Prop:=
 (∀(j:Nat)(x:TN),T[j]? =some x->g (.string (lR (bH n x.W)))=some (IV j))/\∀s v,g (.string s)=some v->∃(j:Nat)(x:TN),T[j]? =some x/\s=lR (bH n x.W)
def EE(pos:Nat)(T:List TN)(g:Value->Option Value):Prop:=∀(j:Nat)(x:TN),T[j]? =some x->pos<=j->g (IV j)=some (K7 x.W x.r)
structure eP (w:WD) (n gk nb ob cH:Nat) (us:List Int) (f:Fm) (fa:OA) (fc:Nat) (sets:Int) (iv nv:Value) (T:List TN) (X:Nat->Prop):Prop where
 dB:w.heap[gk]? =some (.cells #[SL fa n fc,.map (some nb),.map (some ob),IV sets,iv,nv] 116 (0,0))
 cO:w.ownsRow 0 62 4 nv T.length (eE T)
 ak:∀x∈T,II w (lZ gk nb ob nv X) n us x
 aW:∃g,cK prog 9 w nb T.length g/\ME n T g
 Nh:∃g,cK prog 3 w ob T.length g/\EE cH T g
 ne:gk≠nb/\gk≠ob/\nb≠ob
 oK:∀b,nv.ownBlock=some b->b≠gk/\b≠nb/\b≠ob
 uniq:∀(i j:Nat)(x y:TN),T[i]? =some x->T[j]? =some y->bH n x.W=bH n y.W->i=j
 Cx:∀k,cd gk nb ob nv k->0<k
 form:FA w fa n f
 ey:oB (lZ gk nb ob nv X) fa
 rR:MC w fa
section
variable {w w1:WD} {n gk nb ob pos:Nat} {us:List Int} {f:Fm} {fa:OA} {fc:Nat} {sets:Int} {iv nv:Value} {T:List TN} {X:Nat->Prop}
def eP.uA(h:eP w n gk nb ob pos us f fa fc sets iv nv T X):gk<w.heap.size:=(Pb.1 h.dB).1
def eP.dY(h:eP w n gk nb ob pos us f fa fc sets iv nv T X):∀k,cd gk nb ob nv k->k<w.heap.size:=λk b=>by obtain rfl|rfl|rfl|b:=b;exact h.uA;obtain ⟨g,a,-⟩:=h.aW;exact a.lt;obtain ⟨g,a,-⟩:=h.Nh;exact a.lt;exact dx h.cO k b
def fD.ax{S S' W r}(h:fD w S n W r){R}(a:aj R w w1)(c:∀k,R k->S k)(d:∀k,S' k->S k\/w.heap.size<=k):fD w1 S' n W r:=
 ⟨cL h.1 a (λb o e s=>h.2.2.1 b o e (c _ s)),cL h.2.1 a (λb o e s=>h.2.2.2.1 b o e (c _ s)),oB.from d h.2.2.1 h.2.2.2.2.1,oB.from d h.2.2.2.1 h.2.2.2.2.2.1,
  λb o e=>Ps (h.2.2.2.2.1 b o e) a.size,λb o e=>Ps (h.2.2.2.2.2.1 b o e) a.size,h.2.2.2.2.2.2⟩
def II.ax{S S' x}(h:II w S n us x){R}(a:aj R w w1)(c:∀k,R k->S k)(d:∀k,S' k->S k\/w.heap.size<=k):II w1 S' n us x:=
 ⟨h.pT.ax a c d,cL h.mZ a (λb o e s=>h.sep b o e (c _ s)),oB.from d h.sep h.lt,λb o e=>Ps (h.lt b o e) a.size,h.met⟩
def eP.ax(h:eP w n gk nb ob pos us f fa fc sets iv nv T X){R}(l:aj R w w1)(p:∀k,R k->¬cd gk nb ob nv k)(j:∀k,R k->X k\/w.heap.size<=k):eP w1 n gk nb ob pos us f fa fc sets iv nv T X:=by have a:aj (λk=>X k/\¬cd gk nb ob nv k) w w1:=l.mono λk r m=>(j k m).elim (λh=>⟨h,p k m⟩) (λh=>ZO);have c:∀k,cd gk nb ob nv k->¬(X k/\¬cd gk nb ob nv k):=λk h s=>s.2 h;refine ⟨(a.block gk h.uA (c gk (.inl rfl))).trans h.dB,bp h.cO a (λb e=>c b (.inr (.inr (.inr e)))),λx q=>(h.ak x q).ax a (λ_ s=>.inr s.1) (λk=>.inl),?_,?_,h.ne,h.oK,h.uniq,h.Cx,h.form.ax a (λb o e s=>h.ey b o e (.inr s.1)),h.ey,λb o e=>Ps (h.rR b o e) l.size⟩;have⟨g,d,i⟩:=h.aW;exact ⟨g,d.ax a (c nb (.inr (.inl rfl))),i⟩;have⟨g,d,i⟩:=h.Nh;exact ⟨g,d.ax a (c ob (.inr (.inr (.inl rfl)))),i⟩
def eP.ag(h:eP w n gk nb ob pos us f fa fc sets iv nv T X)(b:BW w w1):eP w1 n gk nb ob pos us f fa fc sets iv nv T X:=
 h.ax (aj.aC b) (λk a s=>ZH (h.dY k s)) (λk a=>.inr a)
def eP.dT(h:eP w n gk nb ob pos us f fa fc sets iv nv T X)(x)(C:∀y∈T,bH n y.W≠bH n x.W){c}(l:aj (cd gk nb ob nv) w w1)
 (r:HC w1 gk #[SL fa n fc,.map (some nb),.map (some ob),IV sets,iv,c] 116)
 (u:w1.ownsRow 0 62 4 c (T.length+1) (eE T++Ks x)) {G H} (t:ME n T G) (F:EE pos T H)
 (D:cK prog 9 w1 nb (T.length+1) (rD G (.string (lR (bH n x.W))) (some (IV T.length))))
 (E:cK prog 3 w1 ob (T.length+1) (rD H (IV T.length) (some (K7 x.W x.r))))
 (Q:II w1 (lZ gk nb ob c X) n us x) (J:∀b,c.ownBlock=some b->nv.ownBlock=some b\/w.heap.size<=b):eP w1 n gk nb ob pos us f fa fc sets iv c (T++[x]) X:=by
 have m:∀b,c.ownBlock=some b->b≠gk/\b≠nb/\b≠ob:=λb M=>by obtain a|a:=J b M;exact h.oK b a;exact ⟨λe=>ZH (h.dY gk (.inl rfl)),λe=>ZH (h.dY nb (.inr (.inl rfl))),λe=>ZH (h.dY ob (.inr (.inr (.inl rfl))))⟩
 have I:∀k,cd gk nb ob c k->cd gk nb ob nv k\/w.heap.size<=k:=λk l=>by obtain a|a|a|a:=l;exact .inl (.inl a);exact .inl (.inr (.inl a));exact .inl (.inr (.inr (.inl a)));exact (J k a).imp (λp=>.inr (.inr (.inr p))) id
 have q:∀k,lZ gk nb ob c X k->lZ gk nb ob nv X k\/w.heap.size<=k:=λk l=>l.elim (λs=>(I k s).imp .inl id) (λs=>.inl (.inr s))
 have g:∀{j:Nat}{y:TN},(T++[x])[j]? =some y->T[j]? =some y\/j=T.length/\y=x:=λ{j y} d=>by obtain m|B|N:=RF j T.length;rw [Pp m]at d;exact .inl d;subst B;rw [Qm]at d;cases d;exact .inr ⟨rfl,rfl⟩;rw [Qs (by simp;omega)]at d;cases d
 refine ⟨r,by rw [sn,Pk];exact u,λy A=>?_,⟨_,by rw [Pk];exact D,?_,?_⟩,⟨_,by rw [Pk];exact E,?_⟩,h.ne,m,?_,λk l=>?_,h.form.ax l (λb o e s=>h.ey b o e (.inl s)),?_,λb o e=>Ps (h.rR b o e) l.size⟩
 obtain A|A:=PC.1 A
 exact (h.ak y A).ax l (λ_ s=>.inl s) q
 rw [Pc.1 A];exact Q
 intro j y d
 obtain a|⟨rfl,rfl⟩:=g d
 rw [cV _ _ _ _ (λe=>C y (Pm a) (zS (Value.string.inj e)))]
 exact t.1 j y a
 rw [ft]
 intro s v K
 by_cases e:s=lR (bH n x.W)
 exact ⟨T.length,x,Qm,e⟩
 rw [cV _ _ _ _ (λL=>e (Value.string.inj L))]at K
 have⟨j,y,a,p⟩:=t.2 s v K
 exact ⟨j,y,by rw [Pp (Po.1 a).1];exact a,p⟩
 intro j y d P
 obtain a|⟨rfl,rfl⟩:=g d
 have R:=(Po.1 a).1
 rw [cV _ _ _ _ (λe=>ZH ((RJ e).2))]
 exact F j y a P
 rw [ft]
 intro i j y z O d e
 rcases g O with a|⟨rfl,rfl⟩<;>rcases g d with p|⟨rfl,rfl⟩
 exact h.uniq i j y z a p e
 exact absurd e (C y (Pm a))
 exact absurd e.symm (C z (Pm p))
 rfl
 obtain a|a:=I k l
 exact h.Cx k a
 have:=h.uA;omega
 exact oB.from q h.ey h.rR
def eP.off(h:eP w n gk nb ob pos us f fa fc sets iv nv T X){Y}(b:∀k,Y k->X k\/w.heap.size<=k):eP w n gk nb ob pos us f fa fc sets iv nv T Y:=by have a:∀k,lZ gk nb ob nv Y k->lZ gk nb ob nv X k\/w.heap.size<=k:=λk c=>c.elim (λs=>.inl (.inl s)) (λs=>(b k s).imp .inr id);exact ⟨h.dB,h.cO,λx d=>(h.ak x d).ax (aj.refl (λ_=>False) w) (λ_ s=>s.elim) a,h.aW,h.Nh,h.ne,h.oK,h.uniq,h.Cx,h.form,oB.from a h.ey h.rR,h.rR⟩
end
end
section
open Go.Maps
def P7:=@Array.getElem?_modify
def R4:=@Go.MapKept.run_getObj_map
def R5:=@Go.MapKept.run_setObj_map
def Ty:=@Array.toList_modify
def Uw:=@Go.run_underlying
def UN:=@Array.toList_push
section
open Go.ChangeShapes Go.WideShapes Go.MapKept Go.ChangeMaps Go.WideElems
variable {P:Program} {w:WD} {t k e:TypeId} {b n:Nat} {f:Value->Option Value}
def BU(K:Keyed P k)(C:P.underlying t=some (.map k e)){z}(U:∀u:WD,(zeroValue e).run P u=.ok z u){g d}(i:w.heap[b]? =some (.map g d)){R:Value->Option (DataW Value×List MemPlace)}(F:Fit P k R g d)
 {key V} (h:keyOf P k key=some V) (val):
 ∃(Y:Value)(J:Int)(H L:WD),(Instr.mapEntry t (.map (some b)) key).run P w=.ok (.tuple #[Y,IV J]) H/\(Instr.entryStore t (.map (some b)) (IV J) val).run P H=.ok () L/\
  (Instr.mapUpdate t (.map (some b)) key val).run P w=.ok () L/\aj (λk=>k=b) w H:=by
 have O:b<w.heap.size:=(Pb.1 i).1
 have r:∀o,aj (λk=>k=b) w (setBlock w b o):=λo=>⟨rfl,rfl,rfl,by simp [setBlock],λj E G=>by simp [setBlock,Rz G]⟩
 have⟨W,I,_⟩:=F.stamped
 obtain ⟨A,v⟩|⟨j,s,A,v,B⟩:=K.find w h g.toList F.keys
 refine ⟨z,d,setBlock w b (.map (g.push ⟨key,z,d⟩) (d+1)),setBlock w b (.map (g.push ⟨key,val,d⟩) (d+1)),?_,?_,?_,r _⟩
 simp [Instr.mapEntry,Uw C,R4 i,K.check w false h,A,U,R5 _ i,Result.andThen,setBlock,goInt]
 have q:(setBlock w b (.map (g.push ⟨key,z,d⟩) (d+1))).heap[b]? =some (.map (g.push ⟨key,z,d⟩) (d+1)):=(MapKept.heap_set i).1
 have m:(g.push ⟨key,z,d⟩).findIdx? (λe=>((e.born:Nat):Int)==((d:Nat):Int))=some g.size:=by rw [findIdx_arr];refine findIdx_born (l:=(g.push ⟨key,z,d⟩).toList) (j:=g.size) (e0:=⟨key,z,d⟩) ?_ ZS;simp only [UN,Qg,Pv,PE];refine List.nodup_append.2 ⟨I,ZS,λa N c Q M=>?_⟩;rw [Pc.1 Q]at M;obtain ⟨x,S,rfl⟩:=Qx.1 N;have:=W x S;omega
 have p:(g.push ⟨key,z,d⟩).modify g.size (λe=>{e with val:=val})=g.push ⟨key,val,d⟩:=by apply Array.ext';rw [Ty,UN,UN,<-Array.length_toList,modify_last]
 simp [Instr.entryStore,R4 q,asInt,asIntOf,m,p,R5 _ q,Result.andThen]
 simp [setBlock]
 simp [Instr.mapUpdate,Uw C,R4 i,K.check w false h,A,R5 _ i,Result.andThen,setBlock]
 have E:g[j]? =some s:=ZX v
 have y:g.modify j (λe=>{e with key:=key})=g:=by apply Array.ext';rw [Ty,modify_eq_set _ _ _ _ v,show({s with key:=key}:MapEntry)=s by rw [<-B]];exact set_self _ _ _ v
 have p:g.modify j (λe=>{e with val:=val})=g.modify j (λD=>{D with key:=key,val:=val}):=by apply Array.ext';rw [Ty,Ty,modify_eq_set _ _ _ _ v,modify_eq_set _ _ _ _ v,<-B]
 have m:g.findIdx? (λe=>((e.born:Nat):Int)==((s.born:Nat):Int))=some j:=by rw [findIdx_arr];exact findIdx_born I v
 have q:(setBlock w b (.map g d)).heap[b]? =some (.map g d):=(MapKept.heap_set i).1
 refine ⟨s.val,s.born,setBlock w b (.map g d),setBlock w b (.map (g.modify j (λD=>{D with key:=key,val:=val})) d),?_,?_,?_,r _⟩
 simp [Instr.mapEntry,Uw C,R4 i,K.check w false h,A,E,B,K.stays w h,y,R5 _ i,Result.andThen,setBlock,goInt]
 simp [Instr.entryStore,R4 q,asInt,asIntOf,m,p,R5 _ q,Result.andThen]
 simp [setBlock]
 simp [Instr.mapUpdate,Uw C,R4 i,K.check w false h,A,E,B,K.stays w h,R5 _ i,Result.andThen,setBlock]
def cK.entry(h:cK P k w b n f)(K:Keyed P k)(o:P.underlying t=some (.map k e)){z}(C:∀u:WD,(zeroValue e).run P u=.ok z u)(A:n<maxLen){c E}(a:keyOf P k c=some E)(v):
 ∃(l:Value)(g:Int)(d i:WD),(Instr.mapEntry t (.map (some b)) c).run P w=.ok (.tuple #[l,IV g]) d/\(Instr.entryStore t (.map (some b)) (IV g) v).run P d=.ok () i/\
  cK P k i b (n+1) (rD f c (some v))/\aj (λk=>k=b) w d/\aj (λk=>k=b) w i:=by
 have⟨G,B,y,x⟩:=h.put K o A a v
 obtain ⟨D,⟨H,j,s,F,-,-⟩,-⟩:=h
 have⟨l,g,d,i,p,q,m,r⟩:=BU K o C s F a v
 rw [B]at m
 cases m
 exact ⟨l,g,d,G,p,q,y,r,x⟩
end
def oS(w):(zeroValue 3).run prog w=.ok (IV 0) w:=by have a:Tryz.t3.zero=some (IV 0):=ZK;unfold zeroValue;simp [a]
def FH(w):(zeroValue 119).run prog w=.ok (.agg #[UV 0,UV 0,SN,SN]) w:=by have a:Tryz.t119.zero=some (.agg #[UV 0,UV 0,SN,SN]):=ZK;unfold zeroValue;simp [a]
def ke{w o a K Q}(s x)
 (I:o.op=.call {callee:=.builtin .append,args:=#[s,x],argTypes:=#[34,34]})
 (v n B) (L:a.eval s=v) (H:w.ownsRow 0 62 4 v n B)
 (r c d) (M:a.eval x=SL (some r) 1 c) (O:d.length=4) (g:∀j u,d[j]? =some u->w.cell? (r.add j)=some u) (E:∀u∈d,u.oneCell'=true) (D:n+1<=33554432)
 (h:∀l m i,i.ownsRow 0 62 4 (SL l (n+1) m) (n+1) (B++d)->aj (λk=>v.ownBlock=some k) w i->(∀b,(SL l (n+1) m).ownBlock=some b->v.ownBlock=some b\/w.heap.size<=b)->K (a.put o.dst (SL l (n+1) m)) i):aY prog o a w K Q:=by
 have⟨A,G,N,z,F⟩:=P6 Tryz.MV
 constructor
 have⟨R,i,J,C,p,_,q⟩:=Tk (P:=prog) w 0 34 o.type 62 A _ 4 48 underlying34 G N z F rfl ZD v n B H r 1 c d ZO g E (by unfold maxLen;omega) ZO (Pz _)
 unfold Oper.wp execOp
 simp only [I,resolve,invoke,builtin,Rv,R6,Q9,Rm,Pv,PE,L,M,J]
 have y:aj (λk=>v.ownBlock=some k) w i:=⟨p.os,p.tape,p.output,p.size,λk y D=>p.block k y (λe=>D e.symm)⟩
 obtain ⟨l,m,rfl⟩:=bF C
 refine h l m i C y (λb e=>?_)
 obtain q|q:=q
 rw [q]at e;exact .inl e
 rw [q]at e;cases e;exact .inr (Pf _)
def uJ(w:WD)(n gk nb ob pos:Nat)(us:List Int)(f:Fm)(fa:OA)(fc:Nat)(sets:Int)(iv nv:Value)(T:List TN)(X:Nat->Prop)(W:Wy)(e:Ending)(c:WD):Prop:=
 ∃(j:Nat)(nv':Value)(a:List TN),e=RT (IV j)/\eP c n gk nb ob pos us f fa fc sets iv nv' a X/\aj (cd gk nb ob nv) w c/\(∀b,nv'.ownBlock=some b->nv.ownBlock=some b\/w.heap.size<=b)/\
  (∃x,a[j]? =some x/\bH n x.W=bH n W)/\((a=T/\nv'=nv)\/j=T.length/\∃x:TN,x.W=W/\x.t=(none,0,0)/\x.bh=[]/\a=T++[x])
section
variable {w wd w5 w6 w7:WD} {n gk nb ob pos:Nat} {us:List Int} {f:Fm} {fa:OA} {fc:Nat} {sets:Int} {iv nv nv':Value} {T:List TN} {X:Nat->Prop}
def eP.dw(h:eP w n gk nb ob pos us f fa fc sets iv nv T X)(W r N)(hf:∀y∈T,bH n y.W≠bH n W)(u:aj (λk=>k=nb\/k=ob) w wd){K L}(D:ME n T K)(E:EE pos T L)
 (B:cK prog 9 wd nb (T.length+1) (rD K (.string (lR (bH n W))) (some (IV T.length))))
 (C:cK prog 3 wd ob (T.length+1) (rD L (IV T.length) (some (K7 W r))))
 (j:BW wd w5) (v:w6.ownsRow 0 62 4 nv' (T.length+1) (eE T++Ks ⟨W,r,N,(none,0,0),[]⟩)) (a:aj (λk=>nv.ownBlock=some k) w5 w6)
 (M:∀b,nv'.ownBlock=some b->nv.ownBlock=some b\/w5.heap.size<=b) (J:w7=w6.setCell (AD gk 5) nv') (hr:fD w (lZ gk nb ob nv X) n W r) (hN:kU us (cN W.bw n) us.length N):
 eP w7 n gk nb ob pos us f fa fc sets iv nv' (T++[⟨W,r,N,(none,0,0),[]⟩]) X/\aj (cd gk nb ob nv) w w7/\∀b,nv'.ownBlock=some b->nv.ownBlock=some b\/w.heap.size<=b:=by
 have H:w.heap.size<=w5.heap.size:=PG u.size j.size
 have c:∀b,nv'.ownBlock=some b->nv.ownBlock=some b\/w.heap.size<=b:=λb e=>(M b e).imp id (λh=>PG H h)
 have q:=h.uA
 have A:¬nv.ownBlock=some gk:=λe=>(h.oK gk e).1 rfl
 have F:¬nv.ownBlock=some nb:=λe=>(h.oK nb e).2.1 rfl
 have G:¬nv.ownBlock=some ob:=λe=>(h.oK ob e).2.2 rfl
 have kD:aj (cd gk nb ob nv) w wd:=u.mono λk _ s=>s.elim (λs=>.inr (.inl s)) (λs=>.inr (.inr (.inl s)))
 have k5:aj (cd gk nb ob nv) w w5:=kD.then (aj.aC j) (λi hi s=>ZH u.size)
 have k6:aj (cd gk nb ob nv) w w6:=k5.then a (λi _ s=>.inr (.inr (.inr s)))
 have d:aj (λk=>k=gk) w6 w7:=by rw [J];exact (aj.refl (λk=>k=gk) w6).setCell (p:=(AD gk 5)) (λ_=>rfl) _
 have I:aj (cd gk nb ob nv) w w7:=k6.then d (λi _ s=>.inl s)
 have l:gk<wd.heap.size:=Ps q u.size
 have R:w5.heap[gk]? =some (.cells #[SL fa n fc,.map (some nb),.map (some ob),IV sets,iv,nv] 116 (0,0)):=(j.block gk l).trans ((u.block gk q (λs=>s.elim h.ne.1 h.ne.2.1)).trans h.dB)
 have S:=(a.block gk (Ps l j.size) A).trans R
 have U:w7.heap[gk]? =some (.cells #[SL fa n fc,.map (some nb),.map (some ob),IV sets,iv,nv'] 116 (0,0)):=by rw [J];simp [World.setCell,P7,S]
 have Q:∀{O:TypeId}{x m:Nat}{g:Value->Option Value},cK prog O wd x m g->¬nv.ownBlock=some x->x≠gk->cK prog O w7 x m g:=λV Y Z=>((V.ag j).ax a Y).ax d Z
 have z:∀b,nv'.ownBlock=some b->b≠gk:=λb e=>by obtain e|e:=M b e;exact (h.oK b e).1;have:=j.size;omega
 refine ⟨h.dT ⟨W,r,N,(none,0,0),[]⟩ hf I U (bp v d (λg e s=>z g e s)) D E (Q B F h.ne.1.symm) (Q C G h.ne.2.1.symm) ⟨?_,⟨rfl,.inl rfl⟩,λb o e=>(ZC e),λb o e=>(ZC e),hN⟩ c,I,c⟩
 refine hr.ax I (λ_ s=>.inl s) (λk s=>?_)
 obtain s|s:=s
 case inr=>exact .inl (.inr s)
 obtain s|s|s|s:=s
 exact .inl (.inl (.inl s))
 exact .inl (.inl (.inr (.inl s)))
 exact .inl (.inl (.inr (.inr (.inl s))))
 exact (c k s).imp (λs=>.inl (.inr (.inr (.inr s)))) id
end
end
section
open Go.Maps
def Rh:=@List.getElem?_of_mem
def Ts:=@Option.getD_none
def UK:=@Option.isSome_none
def UL:=@Option.isSome_some
def D7(w n gk t z am f fa fc I iv nv T X W r)(aL:eP w n gk t z am (dL f n) f fa fc I iv nv T X)(aC:ep w)(hN:Fm.gR f)(bg:eh f)(hn:n<=50)
 (hr:fD w (lZ gk t z nv X) n W r) (ac:wm W) (bB:T.length<=1000):
 CL 108 #[PT gk,K7 W r] w (uJ w n gk t z am (dL f n) f fa fc I iv nv T X W):=by
 obtain ⟨⟨J,E,L⟩,⟨F,D,M⟩⟩:=r
 show CL 108 #[PT gk,.agg #[UV W.need,UV W.ban,SL J E L,SL F D M]] w _
 have⟨Y,aM⟩:=EX (dL f n)
 rw [aM]at aL⊢
 have⟨w1,aP⟩:=EX (w.alloc (CE #[UV W.need,UV W.ban,SL J E L,SL F D M] 119))
 have ae:BW w w1:=aP▸ah _ _
 have bK:E<=n:=by have h:=hr.1.1;simp only at h;rw [<-h];exact kS _ _
 have bL:D<=n:=by have h:=hr.2.1.1;simp only at h;rw [<-h];exact kS _ _
 have⟨q,hq⟩:=EX w.heap.size
 have H:Hid (∀(i:Nat)(u:Value),(#[UV W.need,UV W.ban,SL J E L,SL F D M]:Array Value)[i]? =some u->∀a,BW w1 a->CA a q i u):=λi u hu a O=>(dy O (by have h:=aT w #[UV W.need,UV W.ban,SL J E L,SL F D M] 119 i u hu;rw [aP,hq]at h;exact h)).1
 have aX:Hid (CL 145 #[.agg #[UV W.need,UV W.ban,SL J E L,SL F D M]] w1 λe a=>e=RT (.string (lR (bH n W)))/\BW w1 a):=
  J9 W.need W.ban J E L F D M ((List.range n).filter W.next) ((List.range n).filter W.bw) w1 (aC.ag ae) ac.1 ac.2 (hr.1.ag ae) (hr.2.1.ag ae) (λp hp=>ZH (P5.1 (PY.1 hp).1)) (λp hp=>ZH (P5.1 (PY.1 hp).1)) ZO ZO
 have aZ:Hid ((lR (bH n W)).size<=maxLen):=by have h1:=lH ((List.range n).filter W.next) (λp hp=>ZH (P5.1 (PY.1 hp).1));have h2:=lH ((List.range n).filter W.bw) (λp hp=>ZH (P5.1 (PY.1 hp).1));have h3:=Qn W.next (List.range n);have h4:=Qn W.bw (List.range n);have h5:=gN ac.1;have h6:=gN ac.2;rw [Qp]at h3 h4;show(lR (bH n W)).data.size<=maxLen;simp only [lR,bH,xW,Sd,Pk,P9];unfold maxLen;omega
 have av:=O8 aL
 have HR:=O8 hr
 have bE:=O8 ac
 have bG:=O8 aC
 have bs:=O8 aM
 have HN:=O8 hN
 have bq:=O8 bg
 have aR:=O8 ae
 have HQ:=O8 hq
 have c0:=H.o 0 (UV W.need) rfl w1 (Pn _ _)
 have c1:=H.o 1 (UV W.ban) rfl w1 (Pn _ _)
 have c2:=H.o 2 (SL J E L) rfl w1 (Pn _ _)
 have c3:=H.o 3 (SL F D M) rfl w1 (Pn _ _)
 have⟨s,hs⟩:=EX (lR (bH n W))
 rw [hs]at aX aZ
 have HS:=O8 hs
 clear aL aC hN bg hr ac aM ae hs
 go_enter func108,ntmps108
 go_upto_region 2 with(go_at_call 145;apply aX.o.mono;rintro e B ⟨rfl,a3⟩;have Z:=O8 a3;clear a3)
 have U:=av.o.ag (af aR.o Z.o)
 have⟨g,hm,hg⟩:=U.aW
 have k1:CA B gk 1 (.map (some t)):=CH U.dB
 have aH:keyOf prog 9 (.string s)=some (.string s.data.toList):=WideMaps.keyOf_string_mk Ue aZ.o
 have A:=hm.look_ok N0 underlying113 (oS B) aH
 have c:=O8 U
 have HM:=O8 hm
 have HG:=O8 hg
 have bl:=O8 aH
 have G:Hid (BW w B):=af aR.o Z.o
 clear U hm hg aH c0 c1 c2 c3 aP hq
 cases Q:g (.string s)with
 |some v=>
  have⟨j,x,hj,aJ⟩:=HG.o.2 s v Q
  have hv:v=IV j:=by have:=HG.o.1 j x hj;rw [<-aJ,Q]at this;exact Qh this
  subst hv
  rw [Q]at A
  simp only [QC,UL]at A
  have HP:Hid (uJ w n gk t z am Y f fa fc I iv nv T X W (RT (IV j)) B):=⟨j,nv,T,rfl,c.o,aj.mono (aj.aC G.o) (λk hk s=>ZO),λb h=>.inl h,⟨x,hj,zS (aJ.symm.trans HS.o.symm)⟩,.inl ⟨rfl,rfl⟩⟩
  clear hj aJ Q
  go_wp2
  go_ret
  exact HP.o
 |none=>
  rw [Q]at A
  simp only [Ts,UK]at A
  have HF:Hid (∀y∈T,bH n y.W≠bH n W):=λy hy e=>by have⟨j,hj⟩:=Rh hy;have:=HG.o.1 j y hj;rw [e,HS.o,Q]at this;cases this
  obtain ⟨na,nc,rfl⟩:=bF c.o.cO
  have k5:CA B gk 5 (SL na T.length nc):=CH c.o.dB
  clear Q
  go_upto_region 6 with(fail)
  have⟨g2,bc,a8⟩:=c.o.Nh
  have ab:=c.o.ne
  have bA:w.heap.size=q:=HQ.o
  have bC:t<w.heap.size:=av.o.dY t (.inr (.inl rfl))
  have bD:z<w.heap.size:=av.o.dY z (.inr (.inr (.inl rfl)))
  have ay:BW B B.drew:=(Pn _ B).drew
  have⟨v0,st,wa,wb,bu,bv,be,a9,aE⟩:=cK.entry (HM.o.ag ay) N0 underlying113 oS (by unfold maxLen;omega) bl.o (IV T.length)
  have ap:cK prog 3 wb z T.length g2:=(bc.ag ay).ax aE (λe=>ab.2.2 e.symm)
  have⟨v1,bM,wc,C,bw,bx,bf,ba,aF⟩:=cK.entry ap mq underlying114 FH (by unfold maxLen;omega) (iL (n:=T.length) ZO) (.agg #[UV W.need,UV W.ban,SL J E L,SL F D M])
  have k2:CA B gk 2 (.map (some z)):=CH c.o.dB
  have c0:=H.o 0 (UV W.need) rfl B Z.o
  have c1:=H.o 1 (UV W.ban) rfl B Z.o
  have c2:=H.o 2 (SL J E L) rfl B Z.o
  have c3:=H.o 3 (SL F D M) rfl B Z.o
  have aa:Hid (∀a,aj (λk=>k=t\/k=z) B.drew a->CA a q 0 (UV W.need)/\CA a q 1 (UV W.ban)/\CA a q 2 (SL J E L)/\CA a q 3 (SL F D M)/\CA a gk 1 (.map (some t))/\CA a gk 2 (.map (some z))):=λa hk=>
   have nq:¬(q=t\/q=z):=ZO
   have ng:¬(gk=t\/gk=z):=ZI ab.1 ab.2.1
   ⟨hk.aq c0 nq,hk.aq c1 nq,hk.aq c2 nq,hk.aq c3 nq,hk.aq k1 ng,hk.aq k2 ng⟩
  have aV:Hid (aj (λk=>k=t\/k=z) B.drew wa):=a9.mono λk _ s=>.inl s
  have au:Hid (aj (λk=>k=t\/k=z) B.drew wb):=aE.mono λk _ s=>.inl s
  have aW:Hid (aj (λk=>k=t\/k=z) B.drew wc):=au.o.then ba (λ_ _ s=>.inr s)
  have m:Hid (aj (λk=>k=t\/k=z) B.drew C):=au.o.then aF (λ_ _ s=>.inr s)
  have bm:Hid (cK prog 9 C t (T.length+1) (rD g (.string s) (some (IV T.length)))):=be.ax aF ab.2.2
  have bn:=O8 bf
  have bk:=O8 a8
  have ai:=O8 ab
  clear bc be a9 aE ap bf ba aF a8 ab ay bA A
  refine aw 17 (S:=λa=>CA a q 0 (UV W.need)/\CA a q 1 (UV W.ban)/\CA a q 2 (SL J E L)/\CA a q 3 (SL F D M)/\CA a gk 1 (.map (some t))/\CA a gk 2 (.map (some z))) ZK (⟨c0,c1,c2,c3,k1,k2⟩) (λP=>?_)
  refine aB 0 ?_
  refine aB 1 ?_
  refine aB 2 ?_
  refine aB 3 ?_
  refine aB 4 ?_
  refine aB 5 ?_
  refine aB 6 ?_
  refine aB 7 ?_
  refine aB 8 ?_
  refine aB 9 ?_
  refine aB 10 ?_
  refine aB 11 ?_
  clear P
  refine aK 12 λK d=>?_
  go_simp
  refine d.o _ _ (λ_=>aa.o wa aV.o) ?_
  clear d K
  try walk_nrm
  refine aK 13 λK d=>?_
  go_simp
  refine d.o _ _ (λ_=>aa.o wa aV.o) ?_
  clear d K
  try walk_nrm
  refine aK 14 λK d=>?_
  go_simp
  refine d.o _ _ (λ_=>aa.o wb au.o) ?_
  clear d K
  try walk_nrm
  refine aK 15 λK d=>?_
  go_simp
  refine d.o _ _ (λ_=>aa.o wc aW.o) ?_
  clear d K
  try walk_nrm
  refine aK 16 λK d=>?_
  go_simp
  refine d.o _ _ (λ_=>aa.o wc aW.o) ?_
  clear d K
  try walk_nrm
  refine aK 17 λK d=>?_
  go_simp
  refine d.q ?_
  clear d K
  refine az ZK ?_
  have k0:CA B gk 0 (SL fa n fc):=CH c.o.dB
  have ng:¬(gk=t\/gk=z):=ZI ai.o.1 ai.o.2.1
  have nf:∀k,(k=t\/k=z)->cd gk t z (SL na T.length nc) k:=λk s=>s.elim (λs=>.inr (.inl s)) (λs=>.inr (.inr (.inl s)))
  obtain ⟨d0,d1,d2,d3,-,-⟩:=aa.o C m.o
  have d4:=m.o.aq k0 ng
  have d5:=m.o.aq k5 ng
  have ak:aj (λk=>k=t\/k=z) B C:=⟨m.o.os,m.o.tape,m.o.output,m.o.size,m.o.block⟩
  have aq:C.ownsRow 0 62 4 (SL na T.length nc) T.length (eE T):=bp c.o.cO ak (λb e s=>ZH (c.o.oK b e))
  have a7:FA C fa n f:=c.o.form.ax ak (λb o e s=>c.o.ey b o e (.inl (nf _ s)))
  have bh:aG .i64 C F D (cN W.bw n):=cL (HR.o.2.1.ag G.o) ak (λb o e s=>HR.o.2.2.2.1 b o e (.inl (nf _ s)))
  have bb:D<=1000:=ZO
  have aU:Hid (∀a,Below C.drew.heap.size C.drew a->CL 146 #[SL fa n fc,.agg #[UV W.need,UV W.ban,SL J E L,SL F D M]] a λe aQ=>∃N:Nat,e=RT (UV N)/\BW a aQ/\kU Y (cN W.bw n) Y.length N):=λa O=>by have O:BW C a:=(Pn _ _).drew.trans O;have:=GV fa n fc f W.need W.ban J E L F D M (cN W.bw n) a (a7.ag O) HN.o bq.o hn (bh.ag O) bb;rw [bs.o]at this;exact this
  have br:Hid (∀a,Below C.drew.heap.size C.drew a->CA a q 0 (UV W.need)/\CA a q 1 (UV W.ban)/\CA a q 2 (SL J E L)/\CA a q 3 (SL F D M)/\CA a gk 0 (SL fa n fc)/\CA a gk 5 (SL na T.length nc)):=λa O=>
   have O:BW C a:=(Pn _ _).drew.trans O
   have k1:∀{q i:Nat}{v:Value},CA C q i v->CA a q i v:=λh=>(O.cell (O9 C _ h)).trans h
   ⟨k1 d0,k1 d1,k1 d2,k1 d3,k1 d4,k1 d5⟩
  have ao:=O8 aq
  have ar:=O8 d5
  clear aq a7 bh ak ng nf bu bv bw bx k0 k1 k2 k5 c0 c1 c2 c3
  go_upto_region 7 with(fail)
  refine aw 18 (S:=λa=>CA a q 0 (UV W.need)/\CA a q 1 (UV W.ban)/\CA a q 2 (SL J E L)/\CA a q 3 (SL F D M)/\CA a gk 0 (SL fa n fc)/\CA a gk 5 (SL na T.length nc)) ZK (⟨d0,d1,d2,d3,d4,d5⟩) (λP=>?_)
  refine aB 1 ?_ [5,4,3,2,1]
  refine aB 2 ?_ [5,4,3,2]
  refine aB 3 ?_ [5,4,3]
  refine aB 4 ?_ [5,4]
  refine aB 5 ?_
  refine aB 6 ?_ [17,16,7,6]
  refine aB 7 ?_ [17,16,7]
  refine aB 8 ?_ [17,16,9,8]
  refine aB 9 ?_ [17,16,9]
  refine aB 10 ?_ [15,13,12,11,10]
  refine aB 11 ?_ [15,13,12,11]
  refine aB 12 ?_ [15,13,12]
  refine aB 13 ?_ [15,13]
  refine aB 14 ?_ [15,14]
  refine' aS (i:=0) (v:=_) rfl ZK (λ_ _ _ h=>h) (Or.inl ⟨by rfl,?hyS0⟩) (by assumption) ?restS0
  case hyS0=>(intro a bI;go_simp;(try with_reducible rfl))
  try walk_nrm
  clear P d0 d1 d2 d3 d4 d5
  refine bY [15,16,17] (λi=>if i=15 then 59 else if i=16 then 60 else 61) #[true,true,true,true,true,true,true,true,true,true,true,true,true,true,true,true,true,true,false,false,false,false,false] 5
   (λi v w=>match i with|15=>∃N:Nat,v=UV N/\kU Y (cN W.bw n) Y.length N|16=>∃N:Nat,v=.agg #[UV W.need,UV W.ban,UV N,SN]/\kU Y (cN W.bw n) Y.length N|_=>∃b N:Nat,v=SV b 1 1/\(∀(i:Nat)(u:Value),(#[UV W.need,UV W.ban,UV N,SN]:Array Value)[i]? =some u->CA w b i u/\FZ w b i)/\kU Y (cN W.bw n) Y.length N) ZK ZK rfl ZD ?sS1 ?sS2 ZD ?sS3 ?sS4
  case sS1=>intro i v w4 w5 hv O;split at hv;exact hv;exact hv;obtain ⟨b,N,e,h,hN⟩:=hv;exact ⟨b,N,e,λi u hu=>dy O (h i u hu),hN⟩
  case sS2=>exact br.o
  case sS3=>rintro l V a i o hl bJ hi ho hr hJ K d;simp only [PO,QL,Sh]at hi;obtain rfl|rfl|rfl:=hi;simp only [PA,Pt,Pu,PJ]at ho;subst ho;refine aO (R:=λe aQ=>∃N:Nat,e=RT (UV N)/\BW a aQ/\kU Y (cN W.bw n) Y.length N) (f:=146) (args:=#[SL fa n fc,.agg #[UV W.need,UV W.ban,SL J E L,SL F D M]]) (aU.o a hJ.aJ) ?_ (λe w4 ⟨N,he,O,hN⟩=>⟨_,he,d _ w4 O ⟨N,rfl,hN⟩⟩);clear d;refine ZY ?_;go_simp;simp only [PA,Pt,Pu,PJ]at ho;subst ho;have⟨N,a0,hN⟩:=hJ.oZ 15 ZD (bj (l:=[15]) ZK hr 15 ZS);change V 59=_ at a0;refine cB (v:=.agg #[UV W.need,UV W.ban,UV N,SN]) (w':=a) ?_ (d _ _ (Pn _ _) ⟨N,rfl,hN⟩);clear d;refine ZY ?_;rw [a0];go_simp;simp only [PA,Pt,Pu,PJ]at ho;subst ho;have⟨N,a1,hN⟩:=hJ.oZ 16 ZD (bj (l:=[16]) ZK hr 16 ZS);change V 60=_ at a1;have O:BW a (a.alloc (CE #[UV W.need,UV W.ban,UV N,SN] 62)):=(Pn _ _).alloc (Pf _) _;refine cB (v:=SV a.heap.size 1 1) (w':=a.alloc (CE #[UV W.need,UV W.ban,UV N,SN] 62)) ?_ (d _ _ O ⟨_,N,rfl,aT a _ _,hN⟩);clear d;refine ZY ?_;rw [a1];go_simp
  case sS4=>
   intro V a a4 hV;refine ZY ?_;have⟨gl,N,aA,a5,a2⟩:=hV 17 ZD;change V 61=_ at aA;have ad:BW C a:=(Pn _ _).drew.trans a4;have an:a.ownsRow 0 62 4 (SL na T.length nc) T.length (eE T):=bp ao.o (aj.aC ad) (λg e s=>QE _ (Ps (dx ao.o g e) s));have bz:gk<C.heap.size:=O9 C _ ar.o;obtain ⟨o1,-⟩:=(⟨(ad.cell (O9 C _ ar.o)).trans ar.o,RN⟩:CA a gk 5 (SL na T.length nc)/\True);have f1:FZ a gk 5:=by
    have bt:HC a gk #[SL fa n fc,.map (some t),.map (some z),IV I,iv,SL na T.length nc] 116:=
     (ad.block gk bz).trans ((m.o.block gk (show gk<B.heap.size from c.o.uA) (ZI ai.o.1 ai.o.2.1)).trans c.o.dB)
    exact Pg bt 5
   refine aK 18 λK d=>?_;rw [PW (by rfl)];apply aY.o;refine ke (.tmp 49) (.tmp 61) rfl (SL na T.length nc) T.length (eE T) rfl an (AD gl 0) 1 [UV W.need,UV W.ban,UV N,SN] aA rfl (λj u hj=>?_) ZV ZO (λa6 c6 w6 bd al bi=>?_);rw [QK,PU];exact (a5 j u (ZX hj)).1;have aD:¬(SL na T.length nc).ownBlock=some gk:=λe=>(c.o.oK gk e).1 rfl;have o6:=al.aq o1 aD;have f6:=(PK (al.block gk (O9 _ _ o1) aD)).trans f1;have bo:Hid (uJ w n gk t z am Y f fa fc I iv (SL na T.length nc) T X W (RT (IV T.length)) (w6.setCell (AD gk 5) (SL a6 (T.length+1) c6))):=by
    have aI:=c.o.dw W ((J,E,L),(F,D,M)) N HF.o (⟨m.o.os,m.o.tape,m.o.output,m.o.size,m.o.block⟩:aj (λk=>k=t\/k=z) B C) HG.o bk.o (ZR HS.o bm.o) bn.o ad bd al bi rfl
     (fD.ag HR.o G.o) a2
    refine ⟨T.length,_,_,rfl,aI.1,(aj.mono (aj.aC G.o) (λk hk s=>ZO)).then aI.2.1 (λ_ _ s=>s),λb e=>(aI.2.2 b e).imp id (λh=>PG G.o.size h),⟨_,Qm,rfl⟩,.inr ⟨rfl,_,rfl,rfl,rfl,rfl⟩⟩
   refine d.q ?_;clear d K hV aA a5 ad an o1 f1 bd al bi aD a4 a2;refine aK 19 λK d=>?_;go_simp;refine d.q ?_;clear d K;refine aK 20 λK d=>?_;go_simp;refine d.q ?_;clear d K;refine aK 21 λK d=>?_;go_simp;refine d.q ?_;clear d K;refine aK 22 λK d=>?_;go_simp;refine d.q ?_;clear d K;refine az ZK ?_;go_wp2;go_ret;exact bo.o
end
section
open Go.Maps
def AX(X:Nat->Prop)(sb B k:Nat):Prop:=X k\/k=sb\/B<=k
structure jK (w w1 wr:WD) (n gk nb ob cH:Nat) (us:List Int) (f:Fm) (fa:OA) (fc:Nat) (sets:Int) (iv nv:Value) (T:List TN) (X:Nat->Prop) (aQ:List Nat) (L:List Wy) (sb i:Nat) (nvi:Value) (R:List TN) (vo:Value) (js:List Nat):Prop where
 oO:eP wr n gk nb ob cH us f fa fc sets iv nvi (T++R) (AX X sb w1.heap.size)
 dJ:∀x∈R,x.W∈eH f (n+1) (Wy.aM aQ)/\x.t=(none,0,0)/\x.bh=[]
 kw:aj (λk=>cd gk nb ob nv k\/k=sb) w1 wr
 mv:∀b,nvi.ownBlock=some b->nv.ownBlock=some b\/w1.heap.size<=b
 o:Sl wr 3 vo js.length ((aE js).map (Value.int .i64))
 lO:∀b,vo.ownBlock=some b->w1.heap.size<=b/\nvi.ownBlock≠some b
 bZ:∃g,cK prog 3 wr sb i g/\∀j:Nat,(j∈js->∃m:Nat,1<=m/\m<=i/\g (IV j)=some (IV m))/\(j∉js->g (IV j)=none)
 yG:∀j∈js,∃x,(T++R)[j]? =some x/\∃Z∈L,bH n x.W=bH n Z
 done:∀Z∈L.take i,∃j∈js,∃x,(T++R)[j]? =some x/\bH n x.W=bH n Z
 many:(T++R).length<=256
 jl:js.length<=i
section
variable {w w1 wr w2:WD} {n gk nb ob pos:Nat} {us:List Int} {f:Fm} {fa:OA} {fc:Nat} {sets:Int} {iv nv nvi vo:Value} {T R:List TN} {parts:List Nat} {L:List Wy} {sb i:Nat} {js:List Nat} {X:Nat->Prop}
def fM{S:Nat->Prop}{nvi':Value}(h:∀b,nvi.ownBlock=some b->nv.ownBlock=some b\/S b){k}(d:cd gk nb ob nvi k):cd gk nb ob nv k\/S k:=by obtain a|a|a|a:=d;exact .inl (.inl a);exact .inl (.inr (.inl a));exact .inl (.inr (.inr (.inl a)));exact (h k a).imp (λc=>.inr (.inr (.inr c))) id
def jK.aW(h:jK w w1 wr n gk nb ob pos us f fa fc sets iv nv T X parts L sb i nvi R vo js)(Y:sb<w1.heap.size)(B:¬cd gk nb ob nv sb)(d:∀k,cd gk nb ob nv k->k<w1.heap.size){G}(H:BW wr G){W e}(O:W∈eH f (n+1) (Wy.aM parts))
 (V:uJ G n gk nb ob pos us f fa fc sets iv nvi (T++R) (AX X sb w1.heap.size) W e w2):
 ∃(j:Nat)(a:Value)(c:List TN),e=RT (IV j)/\(∃x,(T++c)[j]? =some x/\bH n x.W=bH n W)/\
  eP w2 n gk nb ob pos us f fa fc sets iv a (T++c) (AX X sb w1.heap.size)/\aj (λk=>cd gk nb ob nv k\/k=sb) w1 w2/\(∀b,a.ownBlock=some b->nv.ownBlock=some b\/w1.heap.size<=b)/\
  (∀x∈c,x.W∈eH f (n+1) (Wy.aM parts)/\x.t=(none,0,0)/\x.bh=[])/\(j<256->jK w w1 w2 n gk nb ob pos us f fa fc sets iv nv T X parts L sb i a c vo js):=by
 obtain ⟨j,a,K,rfl,p,r,U,hx,Q⟩:=V
 have s1:w1.heap.size<=wr.heap.size:=h.kw.size
 have s2:wr.heap.size<=G.heap.size:=H.size
 have F:aj (cd gk nb ob nvi) wr w2:=(aj.mono (aj.aC H) (λk r s=>ZO)).then r (λ_ _ s=>s)
 have z:∀b,a.ownBlock=some b->nvi.ownBlock=some b\/wr.heap.size<=b:=λb e=>(U b e).imp id (λh=>PG s2 h)
 have l:∀b,a.ownBlock=some b->nv.ownBlock=some b\/w1.heap.size<=b:=λb e=>(z b e).elim (h.mv b) (λh=>.inr ZO)
 have J:aj (λk=>cd gk nb ob nv k\/k=sb) w1 w2:=h.kw.then F (λk r s=>by obtain s|s:=fM (nvi':=nvi) h.mv s;exact .inl s;omega)
 have N:∃c,K=T++c/\(∀x∈c,x.W∈eH f (n+1) (Wy.aM parts)/\x.t=(none,0,0)/\x.bh=[])/\(∀(k:Nat)(x:TN),(T++R)[k]? =some x->(T++c)[k]? =some x)/\(j<256->(T++c).length<=256):=by obtain ⟨rfl,-⟩|⟨I,x,C,E,D,rfl⟩:=Q;exact ⟨R,rfl,h.dJ,λ_ _ h=>h,λ_=>h.many⟩;refine ⟨R++[x],Qe ..,λy q=>?_,λk y q=>?_,λS=>?_⟩;obtain q|q:=PC.1 q;exact h.dJ y q;rw [Pc.1 q,C];exact ⟨O,E,D⟩;rw [<-Qe,Pp (Po.1 q).1];exact q;rw [<-Qe,Pk,Qi];omega
 obtain ⟨c,rfl,m,o,t⟩:=N
 refine ⟨j,a,c,rfl,hx,p,J,l,m,λI=>⟨p,m,J,l,h.o.ax F (λg e s=>?_),λb e=>⟨(h.lO b e).1,λM=>?_⟩,?_,λk r=>?_,λZ P=>?_,t I,h.jl⟩⟩
 have A:=(h.lO g e).1
 obtain s|s|s|s:=s
 have:=d g (.inl s);omega
 have:=d g (.inr (.inl s));omega
 have:=d g (.inr (.inr (.inl s)));omega
 exact (h.lO g e).2 s
 obtain A|A:=z b M
 exact (h.lO b e).2 A
 have:=h.o.lt b e;omega
 have⟨g,u,v⟩:=h.bZ
 refine ⟨g,u.ax F (λs=>?_),v⟩
 obtain s|s:=fM (nvi':=nvi) h.mv s
 exact B s
 omega
 have⟨x,u,v⟩:=h.yG k r
 exact ⟨x,o k x u,v⟩
 have⟨k,r,x,u,v⟩:=h.done Z P
 exact ⟨k,r,x,o k x u,v⟩
def jK.take{W}(a:L[i]? =some W){Z}(h:Z∈L.take (i+1)):Z∈L.take i\/Z=W:=by rw [Qf,a]at h;obtain h|h:=PC.1 h;exact .inl h;exact .inr (ZX h)
def jK.again(h:jK w w1 w2 n gk nb ob pos us f fa fc sets iv nv T X parts L sb i nvi R vo js)(z:sb<w1.heap.size)(o:¬cd gk nb ob nv sb){W}(v:L[i]? =some W){j m}(t:j∈js)(A:∃x,(T++R)[j]? =some x/\bH n x.W=bH n W)
 {g} (r:∀j:Nat,(j∈js->∃m,1<=m/\m<=i/\g (IV j)=some (IV m))/\(j∉js->g (IV j)=none)) (D:m<=i) {q}
 (l:cK prog 3 q sb (i+1) (rD g (IV j) (some (IV ((m+1:Nat):Int))))) (a:aj (λk=>k=sb) w2 q):jK w w1 q n gk nb ob pos us f fa fc sets iv nv T X parts L sb (i+1) nvi R vo js:=by
 have E:w1.heap.size<=w2.heap.size:=h.kw.size
 have p:∀k,cd gk nb ob nvi k->¬k=sb:=λk s e=>by subst e;obtain s|s:=fM (nvi':=nvi) h.mv s;exact o s;omega
 refine ⟨?_,h.dJ,h.kw.then a (λ_ _ s=>.inr s),h.mv,h.o.ax a (λb e s=>ZH ((h.lO b e).1)),h.lO,⟨_,l,λk=>⟨λa=>?_,λa=>?_⟩⟩,h.yG,λZ y=>?_,h.many,Nat.le_succ_of_le h.jl⟩
 exact h.oO.ax a (λk e s=>p k s e) (λk e=>.inl (.inr (.inl e)))
 by_cases e:k=j
 subst e;exact ⟨m+1,ZO,ZO,ft ..⟩
 have⟨B,d,C,u⟩:=(r k).1 a
 exact ⟨B,d,ZO,(cV _ _ _ _ (λc=>e (ZH ((RJ c).2)))).trans u⟩
 have e:k≠j:=λe=>a (e▸t)
 exact (cV _ _ _ _ (λc=>e (ZH ((RJ c).2)))).trans ((r k).2 a)
 obtain d|rfl:=jK.take v y
 exact h.done Z d
 exact ⟨j,t,A⟩
def jK.first(h:jK w w1 w2 n gk nb ob pos us f fa fc sets iv nv T X parts L sb i nvi R vo js)(J:sb<w1.heap.size)(B:¬cd gk nb ob nv sb)(c:∀k,cd gk nb ob nv k->k<w1.heap.size){W}(F:L[i]? =some W){j}(M:j∉js)(H:∃x,(T++R)[j]? =some x/\bH n x.W=bH n W)
 {g} (G:∀j:Nat,(j∈js->∃m,1<=m/\m<=i/\g (IV j)=some (IV m))/\(j∉js->g (IV j)=none)) {t E}
 (y:cK prog 3 t sb (i+1) (rD g (IV j) (some (IV 1)))) (a:aj (λk=>k=sb) w2 t)
 {l} (A:Sl E 3 l (js.length+1) ((aE js).map (Value.int .i64)++[IV j])) (d:aj (λk=>vo.ownBlock=some k) t E) (z:∀b,l.ownBlock=some b->vo.ownBlock=some b\/t.heap.size<=b):
 jK w w1 E n gk nb ob pos us f fa fc sets iv nv T X parts L sb (i+1) nvi R l (js++[j]):=by
 have N:w1.heap.size<=w2.heap.size:=h.kw.size
 have O:w2.heap.size<=t.heap.size:=a.size
 have C:∀k,cd gk nb ob nvi k->¬k=sb:=λk s e=>by subst e;obtain s|s:=fM (nvi':=nvi) h.mv s;exact B s;omega
 have D:∀k,vo.ownBlock=some k->¬cd gk nb ob nvi k:=λk e s=>by have v:=h.lO k e;obtain s|s|s|s:=s;have:=c k (.inl s);omega;have:=c k (.inr (.inl s));omega;have:=c k (.inr (.inr (.inl s)));omega;exact v.2 s
 have q:=h.oO.ax a (λk e s=>C k s e) (λk e=>.inl (.inr (.inl e)))
 have r:=q.ax d D (λk e=>.inl (.inr (.inr (h.lO k e).1)))
 refine ⟨r,h.dJ,(h.kw.then a (λ_ _ s=>.inr s)).then d (λk a e=>ZH ((h.lO k e).1)),h.mv,by simpa [aE]using A,λb e=>?_,⟨_,y.ax d (λe=>?_),λk=>⟨λa=>?_,λa=>?_⟩⟩,λk a=>?_,λZ I=>?_,h.many,by rw [Pk];have:=h.jl;simp only [Qi];omega⟩
 obtain e|e:=z b e
 exact h.lO b e
 exact ⟨ZO,λo=>ZH (h.oO.dY b (.inr (.inr (.inr o))))⟩
 have:=(h.lO sb e).1;omega
 by_cases e:k=j
 subst e;exact ⟨1,ZO,ZO,ft ..⟩
 have⟨K,p,u,v⟩:=(G k).1 ((PC.1 a).resolve_right (λh=>e (Pc.1 h)))
 exact ⟨K,p,ZO,(cV _ _ _ _ (λo=>e (ZH ((RJ o).2)))).trans v⟩
 have e:k≠j:=λe=>a (Qt _ (Pc.2 e))
 exact (cV _ _ _ _ (λo=>e (ZH ((RJ o).2)))).trans ((G k).2 (λh=>a (P0 _ h)))
 obtain a|a:=PC.1 a
 exact h.yG k a
 obtain ⟨x,p,u⟩:=H
 rw [Pc.1 a]
 exact ⟨x,p,W,Pm F,u⟩
 obtain p|rfl:=jK.take F I
 have⟨k,a,u⟩:=h.done Z p
 exact ⟨k,P0 _ a,u⟩
 exact ⟨j,Qt _ (Pc.2 rfl),H⟩
end
end
section
open Go.Maps
def RK:=@Go.Proofs.Tryz.underlying152
structure iV (w b:WD) (S:Nat->Prop) (a:OA) (l c:Nat) (js:List Nat):Prop where
 row:aG .i64 b a l (aE js)
 bG:MB w a
 sep:oB S a
 lt:MC b a
 bA:l<=16777216
 nil:a=none->l=0/\c=0
def gE(w:WD)(n gk nb ob pos:Nat)(us:List Int)(f:Fm)(fa:OA)(fc:Nat)(sets:Int)(iv nv:Value)(T:List TN)(X:Nat->Prop)(parts:List Nat)(e:Ending)(g:WD):Prop:=
 ∃(d:Value)(R:List TN),eP g n gk nb ob pos us f fa fc sets iv d (T++R) X/\aj (cd gk nb ob nv) w g/\(∀b,d.ownBlock=some b->nv.ownBlock=some b\/w.heap.size<=b)/\
  (∀x∈R,x.W∈eH f (n+1) (Wy.aM parts)/\x.t=(none,0,0)/\x.bh=[])/\
  ((∃a l c js,e=RT (.tuple #[SL a l c,.bool true])/\(T++R).length<=256/\iV w g (lZ gk nb ob d X) a l c js/\
   (∀j∈js,∃x,(T++R)[j]? =some x/\∃Z∈eH f (n+1) (Wy.aM parts),bH n x.W=bH n Z)/\(∀Z∈eH f (n+1) (Wy.aM parts),∃j∈js,∃x,(T++R)[j]? =some x/\bH n x.W=bH n Z))\/
   (e=RT (.tuple #[SN,.bool false])/\256<(T++R).length))
section
variable {w w0 w1 wr:WD} {n gk nb ob pos:Nat} {us:List Int} {f:Fm} {fa:OA} {fc:Nat} {sets:Int} {iv nv nvi vo:Value} {T R:List TN} {parts:List Nat} {L:List Wy} {sb i:Nat} {js:List Nat} {X:Nat->Prop}
def jK.aM(h:eP w n gk nb ob pos us f fa fc sets iv nv T X)(q:∀k,X k->k<w.heap.size)(o:T.length<=256)(a:w0=w.alloc (.map #[] 0))(c:BW w0 w1)(parts L):
 jK w w1 w1 n gk nb ob pos us f fa fc sets iv nv T X parts L w.heap.size 0 nv [] (SN) []:=by
 have r:w0.heap.size=w.heap.size+1:=by rw [a,PL]
 have d:BW w w0:=a▸ah _ _
 have g:=af d c
 refine ⟨?_,λx p=>(ZC p),aj.refl _ _,λb e=>.inl e,Qd _ _ _ _,λb e=>(ZC e),⟨_,((a▸cK.aM prog 3 w:cK prog 3 w0 w.heap.size 0 _)).ag c,λj=>⟨λh=>(ZC h),λ_=>rfl⟩⟩,λj m=>(ZC m),λZ l=>(ZC l),by rw [Qb];exact o,Pf _⟩
 rw [Qb]
 exact (h.off λk s=>by obtain s|rfl|s:=s;exact .inl s;exact .inr (Pf _);exact .inr (ZH c.size)).ag g
def jK.Mq(c:w.heap.size<w1.heap.size)(b:BW w w1)(a:aj (λk=>cd gk nb ob nv k\/k=w.heap.size) w1 wr):aj (cd gk nb ob nv) w wr:=
 (aj.mono (aj.aC b) (λk a s=>ZO)).then a (λk a s=>s.elim id (λs=>ZO))
def jK.fin(h:jK w w1 wr n gk nb ob pos us f fa fc sets iv nv T X parts L w.heap.size L.length nvi R vo js)(D:w.heap.size<w1.heap.size)(H:BW w w1)(F:∀k,X k->k<w.heap.size)(m:∀k,cd gk nb ob nv k->k<w.heap.size)
 (v:∀Z∈L,Z∈eH f (n+1) (Wy.aM parts)) (q:∀z∈eH f (n+1) (Wy.aM parts),∃Y∈L,bH n Y=bH n z) (K:L.length<=16777216):
 gE w n gk nb ob pos us f fa fc sets iv nv T X parts (RT (.tuple #[vo,.bool true])) wr:=by
 refine ⟨nvi,R,h.oO.off (λk s=>.inl (.inl s)),jK.Mq D H h.kw,λb e=>(h.mv b e).imp id (λh=>ZO),h.dJ,.inl ?_⟩
 obtain ⟨a,c,rfl,l⟩:=h.o.shape
 have p:∀b o,a=some (AD b o)->(SL a js.length c).ownBlock=some b:=λb o e=>by subst e;rfl
 refine ⟨a,js.length,c,js,rfl,h.many,⟨⟨aD _,?_⟩,λb o e=>?_,λb o e s=>?_,λb o e=>h.o.lt b (p b o e),ZH h.jl,λe=>?_⟩,λj y=>?_,λZ G=>?_⟩
 obtain d|d:=Qv js.length
 exact .inl d
 obtain ⟨g,rfl,M,-⟩:=l 0 d
 refine .inr ⟨g,0,rfl,λi u=>?_⟩
 obtain ⟨J,C,-,I⟩:=l i u
 cases C
 rw [PU,I,PZ,Pe (by rw [aD];exact u),Pd,Pe (by rw [aD];exact u)]
 rfl
 have:=(h.lO b (p b o e)).1;omega
 have d:=(h.lO b (p b o e))
 obtain s|s:=s
 obtain s|s|s|s:=s
 have:=m b (.inl s);omega
 have:=m b (.inr (.inl s));omega
 have:=m b (.inr (.inr (.inl s)));omega
 exact d.2 s
 have:=F b s;omega
 subst e
 obtain ⟨d,r⟩|⟨g,A,B,d,-⟩:=h.o.2
 exact ⟨(P8 d).2.1,(P8 d).2.2⟩
 cases (P8 d).1
 have⟨x,d,Z,r,t⟩:=h.yG j y
 exact ⟨x,d,Z,v Z r,t⟩
 have⟨Y,d,r⟩:=q Z G
 have⟨j,y,x,t,E⟩:=h.done Y (by rw [PI (Pf _)];exact d)
 exact ⟨j,y,x,t,E.trans r⟩
end
def EH(w n gk nb ob pos f fa fc sets iv nv T X pa pl pc parts)(Q:eP w n gk nb ob pos (dL f n) f fa fc sets iv nv T X)(hX:∀k,X k->k<w.heap.size)(aV:ep w)(hN:Fm.gR f)(ax:eh f)(hn:n<=50)
 (aw:T.length<=256) (hp:aG .i64 w pa pl (aE parts)) (J:∀p∈parts,p<n) (bc:pl<=1000) (ag:pa=none->pl=0/\pc=0):
 CL 77 #[PT gk,SL pa pl pc] w (gE w n gk nb ob pos (dL f n) f fa fc sets iv nv T X parts):=by
 have⟨us,aA⟩:=EX (dL f n)
 rw [aA]at Q⊢
 have⟨w0,aB⟩:=EX (w.alloc (.map #[] 0))
 have G:BW w w0:=aB▸ah _ _
 have⟨sb,a3⟩:=EX w.heap.size
 have s0:w0.heap.size=sb+1:=ZW aB a3
 have bb:=@TU prog
 have aH:Hid (CL 107 #[SL fa n fc,SL pa pl pc] w0 (Ak w0 n f parts)):=DE fa n fc f pa pl pc parts w0 (Q.form.ag G) hN ax hn (hp.ag G) J bc ag
 have k0:w0.cell? (AD gk 0)=some (SL fa n fc):=by rw [Pa ((Q.ag G).dB)];rfl
 have V:=O8 Q
 have HX:=O8 hX
 have aN:=O8 aV
 have HN:=O8 hN
 have aK:=O8 ax
 have aO:=O8 aA
 have U:=O8 a3
 have aP:=O8 aB
 have a4:=O8 G
 have ap:=O8 s0
 have bi:=O8 J
 have⟨i3,a8,bf,bd,a7⟩:=P6 Tryz.eA
 clear Q hX aV hN ax aA G hp J ag s0
 go_enter func77,ntmps77
 go_upto_region 3 with(fail)
 clear bb
 go_upto_region 4 with(go_at_call 107;apply aH.o.mono;rintro e w1 ⟨a,c,L,rs,rfl,Y,ai,ae,O,hL,aZ,ad,-⟩)
 have s1:w0.heap.size<=w1.heap.size:=Y.size
 have aC:BW w w1:=af a4.o Y
 have z:=U.o
 have ay:=ap.o
 have aJ:=O8 (jK.aM V.o HX.o aw aP.o.symm Y parts L)
 rw [z]at aJ
 have ao:=O8 O
 have F:=O8 ai
 have ac:=O8 ae
 have am:=O8 aZ
 have aF:=O8 ad
 have HL:=O8 hL
 have aR:=O8 aC
 have aM:Hid (sb<w1.heap.size):=by show sb<w1.heap.size;omega
 have d:Hid (∀k,cd gk nb ob nv k->k<sb):=λk s=>ZH (V.o.dY k s)
 have aq:Hid (¬cd gk nb ob nv sb):=λs=>ZH (d.o sb s)
 have a6:Hid (ep w1):=aN.o.ag aC
 have⟨ln,ab⟩:=EX L.length
 have an:=O8 ab
 rw [ab]at F ac
 rw [ab]
 clear Y ai ae O hL aZ ad aC ay s1 aH aP aN ab k0
 go_loopw [6,19] (λv x wr=>∃(i:Nat)(nvi:Value)(R:List TN)(js:List Nat)(vo:Value),i<=ln/\x=IV i/\vo=v/\Hid (jK w w1 wr n gk nb ob pos us f fa fc sets iv nv T X parts L sb i nvi R vo js)) (λ_ x _=>ln-(intOf x).toNat)
 exact ⟨0,nv,[],[],_,Pz _,rfl,rfl,aJ⟩
 obtain ⟨i,nvi,R,js,vo,hi,rfl,rfl,l⟩:=hrel
 by_cases J:i<ln
 ·have bg:(i:Int)<ln:=ZO;have aU:=HL.o
  rw [an.o]at aU;obtain ⟨W,hW⟩:∃W,L[i]? =some W:=⟨_,Pe (ZR an.o J)⟩;have⟨r,hr,ak⟩:=ao.o.at i W hW;obtain ⟨C,rfl⟩:∃C,a=some (AD C 0):=by
   obtain ⟨h1,h2⟩|⟨g,bj,bk,h1,-⟩:=F.o.2
   ·have:=(P8 h1).2.1;omega
   ·exact ⟨g,(P8 h1).1⟩
  have be:sb<C:=ZI (ac.o C rfl) ap.o;have o:wr.ownsRow 0 119 4 (SV C ln c) ln (ew L rs):=bp F.o l.o.kw (λb e s=>by
   obtain rfl:C=b:=Qh e;obtain s|s:=s
   ·have:=d.o C s;omega
   ·change C=sb at s;omega)
  have⟨e0,e1,e2,e3⟩:=rN L rs i W r hW hr;have k0:=o.cells (g:=C) rfl _ _ e0;have k1:=o.cells (g:=C) rfl _ _ e1;have k2:=o.cells (g:=C) rfl _ _ e2;have k3:=o.cells (g:=C) rfl _ _ e3;rw [QK,PU]at k0 k1 k2 k3;obtain ⟨⟨xa,xl,xc⟩,⟨ya,yl,yc⟩⟩:=r;have aL:=O8 ak;have ar:=O8 hW;clear o e0 e1 e2 e3 hr ak hW be;go_upto_region 6 with(fail);have⟨w5,aD⟩:=EX (wr.alloc (CE #[UV W.need,UV W.ban,SL xa xl xc,SL ya yl yc] 119));have A:=aT wr #[UV W.need,UV W.ban,SL xa xl xc,SL ya yl yc] 119;rw [aD]at A⊢;have H:BW wr w5:=aD▸ah _ _;have c0:=(A 0 _ rfl).1;have c1:=(A 1 _ rfl).1;have c2:=(A 2 _ rfl).1;have c3:=(A 3 _ rfl).1;have au:W∈L:=Pm ar.o;have aX:∀k,X k->k<sb:=λk h=>ZI (HX.o k h) U.o;have az:=aM.o;have ay:=ap.o;have N:fD w5 (lZ gk nb ob nvi (AX X sb w1.heap.size)) n W ((xa,xl,xc),(ya,yl,yc)):=fD.ag (aL.o.ax l.o.kw (λk s=>by
   obtain s|s:=s
   ·have:=d.o k s;show k<w0.heap.size;omega
   ·change k=sb at s;show k<w0.heap.size;omega) (λk s=>by
   show k<w0.heap.size\/w1.heap.size<=k;obtain s|s|s|s:=s
   ·obtain s|s:=fM (nvi':=nvi) l.o.mv s
    ·have:=d.o k s;exact .inl ZO
    ·exact .inr s
   ·have:=aX k s;exact .inl ZO
   ·exact .inl ZO
   ·exact .inr s)) H
  have aW:ep w5:=by
   have h1:ep wr:=λj hj=>l.o.kw.aq (a6.o j hj) (λs=>by
    obtain s|s:=s
    ·exact absurd (V.o.Cx 0 s) ZD
    ·change 0=sb at s;have:=V.o.Cx gk (.inl rfl);have:=d.o gk (.inl rfl);omega)
   exact h1.ag H
  have E:Hid (CL 108 #[PT gk,.agg #[UV W.need,UV W.ban,SL xa xl xc,SL ya yl yc]] w5 λe w2=>∃(j:Nat)(t:Value)(S:List TN),e=RT (IV j)/\(∃x,(T++S)[j]? =some x/\bH n x.W=bH n W)/\
   eP w2 n gk nb ob pos us f fa fc sets iv t (T++S) (AX X sb w1.heap.size)/\aj (λk=>cd gk nb ob nv k\/k=sb) w1 w2/\(∀b,t.ownBlock=some b->nv.ownBlock=some b\/w1.heap.size<=b)/\
   (∀x∈S,x.W∈eH f (n+1) (Wy.aM parts)/\x.t=(none,0,0)/\x.bh=[])/\(j<256->jK w w1 w2 n gk nb ob pos us f fa fc sets iv nv T X parts L sb i t S vo js)):=by
   have h:=D7 w5 n gk nb ob pos f fa fc sets iv nvi (T++R) (AX X sb w1.heap.size) W ((xa,xl,xc),(ya,yl,yc)) (ZR aO.o (l.o.oO.ag H)) aW HN.o aK.o hn N (mj aK.o _ _ (nN parts) W (am.o W au)) (ZH l.o.many)
   rw [aO.o]at h
   exact h.mono λe w2 hp=>l.o.aW az aq.o (λk s=>ZH (d.o k s)) H (am.o W au) hp
  clear A aD H N aW au aX ay k0 k1 k2 k3;go_upto_region 7 with(go_at_call 108;apply E.o.mono;rintro e w2 ⟨j,t,S,rfl,hx,P,hk,hm,M,q⟩);by_cases hj:j<256
  ·have aS:=O8 hx;have⟨g,K,hg⟩:=(q hj).bZ
   have D:=O8 (q hj);have HG:=O8 hg;clear hx P hk hm M q l E c0 c1 c2 c3;have a9:¬((256:Int)<=j):=ZO;have u:=iL (n:=j) ZO;have aa:=K.look mq RK (oS w2) u;by_cases Z:j∈js
   ·have⟨m,bm,ba,aY⟩:=(hg j).1 Z;rw [aY]at aa
    simp only [QC]at aa;have⟨w3,a2,y,B⟩:=K.put mq RK (by unfold maxLen;omega) u (IV ((m:Int)+1));have I:=y.look mq RK (oS w3) u;rw [ft]at I;simp only [QC]at I;have a5:Hid (jK w w1 w3 n gk nb ob pos us f fa fc sets iv nv T X parts L sb (i+1) t S vo js):=D.o.again az aq.o ar.o Z aS.o HG.o ba y B;have bn:¬((m:Int)+1=1):=ZO;have bh:((m:Int)==0)=false:=by simp;omega
    clear K hg aY y B u;go_wp2;go_roundw;exact ⟨i+1,t,S,js,_,ZO,ZN,rfl,a5⟩;simp [intOf];omega
   ·rw [(hg j).2 Z]at aa;simp only [Ts]at aa
    have⟨w3,a2,y,B⟩:=K.put mq RK (by unfold maxLen;omega) u (IV 1);have I:=y.look mq RK (oS w3) u;rw [ft]at I;simp only [QC]at I;have bl:=D.o.jl;have HO:Hid (Sl w3 3 vo js.length ((aE js).map (Value.int .i64))):=D.o.o.ax B (λb e s=>ZH ((D.o.lO b e).1));have aI:Hid (∀(g1 c1:Nat)(w4:WD),Sl w4 3 (SV g1 (js.length+1) c1) (js.length+1) ((aE js).map (Value.int .i64)++[IV j])->aj (λk=>vo.ownBlock=some k) w3 w4->(vo.ownBlock=some g1\/w3.heap.size<=g1)->jK w w1 w4 n gk nb ob pos us f fa fc sets iv nv T X parts L sb (i+1) t S (SV g1 (js.length+1) c1) (js++[j])):=λg1 c1 w4 h1 h2 h3=>
     D.o.first az aq.o (λk s=>ZH (d.o k s)) ar.o Z aS.o HG.o y B h1 h2 (λb e=>by rw [<-Qh e];exact h3)
    clear K hg y B u;go_wp2_with (at_builtin;refine av rfl (.tmp 36) (.tmp 38) 33 rfl 3 i3 (IV 0) 8 QD a8 bf bd a7 rfl ZD _ _ _ rfl HO.o _ rfl rfl ZO ?_;intro g1 c1 w4 hs a0 a1;have HE:=O8 (aI.o g1 c1 w4 hs a0 a1);clear hs a0 a1);go_roundw;exact ⟨i+1,t,S,js++[j],_,ZO,ZN,rfl,HE⟩;simp [intOf];omega
  ·have al:Hid (gE w n gk nb ob pos us f fa fc sets iv nv T X parts (RT (.tuple #[SN,.bool false])) w2):=by have z:=U.o;refine ⟨t,S,P.off (λk s=>.inl (.inl s)),jK.Mq ZO aR.o (ZR z hk),λb e=>(hm b e).imp id (λh=>ZO),M,.inr ⟨rfl,?_⟩⟩;obtain ⟨x,hx,-⟩:=hx;have:=(Po.1 hx).1;omega
   have a9:(256:Int)<=j:=ZO;clear hx P hk hm M q l E c0 c1 c2 c3;go_wp2;go_ret2;exact al.o
 ·obtain rfl:i=ln:=ZO;have al:Hid (gE w n gk nb ob pos us f fa fc sets iv nv T X parts (RT (.tuple #[vo,.bool true])) wr):=by have z:=U.o;have h:=l.o;rw [<-z,<-an.o]at h;exact h.fin (ZR z aM.o) aR.o HX.o (λk s=>ZR z (d.o k s)) am.o aF.o HL.o
  clear l;go_wp2;go_ret2;exact al.o
end
section
open Go.Maps
def RZ:=@List.getElem?_set_self
def SJ:=@List.getElem?_set_ne
def TO:=@List.mem_or_eq_of_mem_set
def zJ(n:Nat)(W:Wy):List Nat:=(List.range n).filter W.next
def rf(f:Fm)(n:Nat)(a:List Nat):List Wy:=eH f (n+1) (Wy.aM a)
inductive Is (f:Fm) (n:Nat):Wy->Prop
 |aP {Z:Wy}:Z∈rf f n [n-1]->Is f n Z
 |next {W Z:Wy}:Is f n W->Z∈rf f n (zJ n W)->Is f n Z
def mW(f:Fm)(n:Nat)(T:List TN)(a b:List Nat):Prop:=
 (∀j∈b,∃x,T[j]? =some x/\∃Z∈rf f n a,bH n x.W=bH n Z)/\∀Z∈rf f n a,∃j∈b,∃x,T[j]? =some x/\bH n x.W=bH n Z
def mW.mono{f n T i a l}(h:mW f n T a l)(k:∀(j:Nat)(x),T[j]? =some x->∃y,i[j]? =some y/\y.W=x.W):mW f n i a l:=by refine ⟨λj g=>?_,λZ o=>?_⟩;have⟨x,b,Z,c,m⟩:=h.1 j g;have⟨y,d,e⟩:=k j x b;exact ⟨y,d,Z,c,ZR e m⟩;have⟨j,g,x,b,c⟩:=h.2 Z o;have⟨y,d,e⟩:=k j x b;exact ⟨j,g,y,d,ZR e c⟩
def iV.ax{w w1 i S S' R a l c g}(h:iV w w1 S a l c g)(d:aj R w1 i)(j:∀k,R k->S k)(m:∀k,S' k->S k\/w1.heap.size<=k):iV w i S' a l c g:=
 ⟨cL h.row d (λb o e s=>h.sep b o e (j _ s)),h.bG,oB.from m h.sep h.lt,λb o e=>Ps (h.lt b o e) d.size,h.bA,h.nil⟩
section
variable {w w1:WD} {n gk nb ob pos:Nat} {us:List Int} {f:Fm} {fa:OA} {fc:Nat} {sets:Int} {iv nv:Value} {T:List TN} {X:Nat->Prop}
def eP.Oj(h:eP w n gk nb ob pos us f fa fc sets iv nv T X)(a):eP (w.setCell (AD gk 4) a) n gk nb ob pos us f fa fc sets a nv T X/\aj (cd gk nb ob nv) w (w.setCell (AD gk 4) a):=by have c:aj (λk=>k=gk) w (w.setCell (AD gk 4) a):=(aj.refl (λk=>k=gk) w).setCell (p:=(AD gk 4)) (λ_=>rfl) _;refine ⟨⟨?_,bp h.cO c (λb e s=>(h.oK b e).1 s),λx j=>(h.ak x j).ax c (λk s=>.inl (.inl s)) (λk s=>.inl s),?_,?_,h.ne,h.oK,h.uniq,h.Cx,h.form.ax c (λb o e s=>h.ey b o e (.inl (.inl s))),h.ey,λb o e=>Ps (h.rR b o e) c.size⟩,c.mono λk _ s=>.inl s⟩;simp [World.setCell,P7,h.dB];have⟨g,d,i⟩:=h.aW;exact ⟨g,d.ax c h.ne.1.symm,i⟩;have⟨g,d,i⟩:=h.Nh;exact ⟨g,d.ax c h.ne.2.1.symm,i⟩
def eP.del(h:eP w n gk nb ob pos us f fa fc sets iv nv T X){g}(i:EE pos T g)(m:cK Tryz.prog 3 w1 ob T.length (rD g (IV pos) none))(a:aj (λk=>k=ob) w w1):
 eP w1 n gk nb ob (pos+1) us f fa fc sets iv nv T X:=by
 refine ⟨(a.block gk h.uA h.ne.2.1).trans h.dB,bp h.cO a (λb e s=>(h.oK b e).2.2 s),λx p=>(h.ak x p).ax a (λk s=>.inl (.inr (.inr (.inl s)))) (λk s=>.inl s),?_,⟨_,m,λj x l q=>?_⟩,h.ne,h.oK,h.uniq,h.Cx,h.form.ax a (λb o e s=>h.ey b o e (.inl (.inr (.inr (.inl s))))),h.ey,λb o e=>Ps (h.rR b o e) a.size⟩
 have⟨g,c,d⟩:=h.aW;exact ⟨g,c.ax a h.ne.2.2,d⟩
 rw [cV _ _ _ _ (λe=>ZH ((RJ e).2))]
 exact i j x l ZO
def eP.Ok{c A}(h:eP w n gk nb ob pos us f fa fc sets iv (SV c T.length A) T X){j x}(u:T[j]? =some x)(t bh)
 (L:aG .i64 w t.1 t.2.1 (aE bh)) (F:oB (lZ gk nb ob (SV c T.length A) X) t.1) (J:MC w t.1):
 eP (w.setCell (AD c (j*4+3)) (jW t)) n gk nb ob pos us f fa fc sets iv (SV c T.length A) (T.set j {x with t:=t,bh:=bh}) X/\aj (cd gk nb ob (SV c T.length A)) w (w.setCell (AD c (j*4+3)) (jW t)):=by
 have d:aj (λk=>k=c) w (w.setCell (AD c (j*4+3)) (jW t)):=(aj.refl (λk=>k=c) w).setCell (p:=(AD c (j*4+3))) (λ_=>rfl) _
 have E:=h.oK c rfl
 have C:cd gk nb ob (SV c T.length A) c:=.inr (.inr (.inr rfl))
 have i:∀{k:Nat}{y:TN},(T.set j {x with t:=t,bh:=bh})[k]? =some y->∃z,T[k]? =some z/\y.W=z.W/\y.r=z.r:=λ{k y} d=>by
  by_cases e:j=k;subst e;rw [RZ (Po.1 u).1]at d;cases d
  exact ⟨x,u,rfl,rfl⟩;rw [SJ e]at d;exact ⟨y,d,rfl,rfl⟩
 have D:∀{k:Nat}{z:TN},T[k]? =some z->∃y,(T.set j {x with t:=t,bh:=bh})[k]? =some y/\y.W=z.W/\y.r=z.r:=λ{k z} m=>by by_cases e:j=k;subst e;rw [u]at m;cases m;exact ⟨_,RZ (Po.1 u).1,rfl,rfl⟩;exact ⟨z,by rw [SJ e];exact m,rfl,rfl⟩
 refine ⟨⟨(d.block gk h.uA (λe=>E.1 e.symm)).trans h.dB,?_,λy l=>?_,?_,?_,h.ne,h.oK,λa b y z H I e=>?_,h.Cx,h.form.ax d (λb o e s=>h.ey b o e (.inl (by have s:b=c:=s;rw [s];exact C))),h.ey,λb o e=>Ps (h.rR b o e) d.size⟩,d.mono λk _ s=>by subst s;exact C⟩
 rw [RX,<-so T j x t bh u]
 exact (h.cO.stored _ _).1
 obtain l|rfl:=TO l
 exact (h.ak y l).ax d (λk s=>.inl (by have s:k=c:=s;rw [s];exact C)) (λk s=>.inl s)
 have q:=(h.ak x (Pm u)).ax d (S':=lZ gk nb ob (SV c T.length A) X) (λk s=>.inl (by have s:k=c:=s;rw [s];exact C)) (λk s=>.inl s)
 exact ⟨q.pT,cL L d (λb o e s=>F b o e (.inl (by have s:b=c:=s;rw [s];exact C))),F,λb o e=>Ps (J b o e) d.size,q.met⟩
 have⟨g,q,r⟩:=h.aW
 refine ⟨g,by rw [RX];exact q.ax d E.2.1.symm,λk y l=>?_,λs v M=>?_⟩
 obtain ⟨z,m,e,-⟩:=i l
 rw [e];exact r.1 k z m
 have⟨k,z,m,e⟩:=r.2 s v M
 obtain ⟨y,l,B,-⟩:=D m
 exact ⟨k,y,l,ZR B e⟩
 have⟨g,q,r⟩:=h.Nh
 refine ⟨g,by rw [RX];exact q.ax d E.2.2.symm,λk y l K=>?_⟩
 have⟨z,m,e,B⟩:=i l
 rw [e,B];exact r k z m K
 obtain ⟨N,q,G,-⟩:=i H
 obtain ⟨O,r,B,-⟩:=i I
 exact h.uniq a b N O q r (by rw [<-G,<-B];exact e)
end
end
end Go.Proofs.YtimniinkpipnmaaGreatDoor
