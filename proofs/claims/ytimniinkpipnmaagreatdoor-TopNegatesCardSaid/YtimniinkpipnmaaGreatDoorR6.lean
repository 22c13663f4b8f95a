/- A part of the proof of TopNegates. -/
import Derived.Test.YtimniinkpipnmaaGreatDoorR5
import Derived.Deep.DeepCutAuto
import Derived.RangeFuncNested
import Derived.RangeFuncBound
import Derived.Shelf.RegionOpen
import Derived.OwnWalkIn
import Derived.LoopNIn
import Derived.LoopIn
set_option maxRecDepth 100000
set_option maxHeartbeats 8000000
set_option linter.all false
namespace Go.Proofs.YtimniinkpipnmaaGreatDoor
open Go.RowKit Go.Own
section
open Go.Maps
structure BO (aW:Nat->Nat) (l js:List Nat):Prop where
 mh:js.Sublist (l.map aW)
 gG:∀j∈js,∃q∈l,aW q=j
 all:∀q∈l,aW q∈js
def BO.bC{a:Nat->Nat}{l js:List Nat}(h:BO a l js):js.length<=l.length:=by have:=h.mh.length_le;rwa [NU]at this
def Ma(C:List Nat->List Nat->Prop)(x y:bV):Prop:=y.ak=x.ak/\y.aD=x.aD/\y.aT=x.aT/\C (bV.tO x) (bV.tO y)
structure iR (w wr:WD) (x0 sets:Nat) (src:List bV) (C:List Nat->List Nat->Prop) (ini0:List Nat) (ob:Nat) (t:bu) (js:List Nat) (ov:Value) (O:List (bV×bu)):Prop where
 o:fT wr ob (λk=>k<=x0) sets t js ov O
 aM:BW w wr
 bL:∀k,gN ob ov k->w.heap.size<=k
 nW:C ini0 js
 cO:O.length<=src.length
 Ba:∀(j:Nat)(x:bV)(y:bV×bu),src[j]? =some x->O[j]? =some y->Ma C x y.1
section
variable {w wr wb w1 w2 w3 w4 w':WD} {x0 sets:Nat} {src:List bV} {C:List Nat->List Nat->Prop} {ini0:List Nat} {ob:Nat} {t:bu} {js:List Nat} {ov ov':Value} {O:List (bV×bu)}
def iR.af(h:iR w wr x0 sets src C ini0 ob t js ov O)(a:BW wr w1):iR w w1 x0 sets src C ini0 ob t js ov O:=
 ⟨h.o.af a,h.aM.trans (a.mono h.aM.size),h.bL,h.nW,h.cO,h.Ba⟩
def iR.aK{a:OA}{m c:Nat}(I:x0<w.heap.size)(H:w.heap.size<=ob)(p:BW w w')(g:HC w' ob #[IV 0,SN,SN] 36)
 (u:aE .i64 3 w w' (.slice a m c) (aH js)) (d:js.length<=16777216) (F:C ini0 js) (e:w4=((w'.setCell (AD ob 0) (IV sets)).setCell (AD ob 1) (.slice a m c)).setCell (AD ob 2) (SN)):
 iR w w4 x0 sets src C ini0 ob (a,m,c) js (SN) []:=by
 have z:CA w' ob 0 (IV 0):=CH g
 have A:CA w' ob 1 (SN):=CH g
 have B:CA w' ob 2 (SN):=CH g
 obtain ⟨-,-,-,q⟩:=bQ z A B w4 e
 have o:∀b,(Value.slice a m c).ownBlock=some b->b≠ob:=λb l D=>Rg u.1 g (by decide) (D▸l)
 have G:=pz (S:=λk=>k=ob\/k<=x0) u d (λb l E s=>s.elim (o b l) (λs=>by omega))
 refine ⟨fT.aK ?_ (G.aA q (λk s=>.inl (.inl s)) (λk s=>.inl s)),p.trans (q.af p.size (λk E J=>by omega)),λk s=>?_,F,NS _,λj x y _ h=>(by cases h)⟩
 rw [e];simp [HC,World.setCell,Ow,g]
 rcases s with s|s
 omega
 cases s
def iR.step(h:iR w wr x0 sets src C ini0 ob t js ov O){x:bV}(u:src[O.length]? =some x){y:bV×bu}(F:Ma C x y.1)(A:BW wr w1)
 (e:fm w1 (oX ob ov (λk=>k<=x0)) y.2 (bV.tO y.1)) (d:w2.ownsRow 0 62 4 ov' (O.length+1) (cX O++rp y)) (p:aj (λk=>ov.ownBlock=some k) w1 w2) (D:∀b,ov'.ownBlock=some b->ov.ownBlock=some b\/w1.heap.size<=b) (z:w3=w2.setCell (AD ob 2) ov'):
 iR w w3 x0 sets src C ini0 ob t js ov' (O++[y]):=by
 have g:=h.af A
 obtain ⟨E,m,o⟩:=g.o.dB y e (Nx _ w1) d p D z
 refine ⟨E,g.aM.trans (m.af g.aM.size (λk p s=>by have:=h.bL k s;omega)),λk s=>?_,h.nW,?_,λj a b l c=>?_⟩
 rcases s with s|s
 exact h.bL k (.inl s)
 rcases o k s with s|s
 exact h.bL k (.inr s)
 have:=g.aM.size;omega
 have:=(NK.1 u).1
 rw [NH,Oz];omega
 rcases O8 j O.length with q|q
 rw [NP q]at c;exact h.Ba j a b l c
 have B:j=O.length:=by have:=(NK.1 c).1;rw [NH,Oz]at this;omega
 subst B
 rw [OF]at c
 cases c
 rw [u]at l;cases l
 exact F
def iR.row(h:iR w wr x0 sets src C ini0 ob t js ov O)(j:x0<w.heap.size)(d:BW wr wb){a:OA}{m c:Nat}{l:List Nat}
 (g:aE .i64 3 wb w1 (.slice a m c) (aH l)) (e:l.length<=16777216):fm w1 (oX ob ov (λk=>k<=x0)) (a,m,c) l:=
 pz g e λb o p s=>by have:=h.aM.size;have:=d.size;rcases s with s|s;have:=h.o.eE b s;omega;omega
end
structure Ah (n:Nat) (r:Nat->Nat->Bool) (i:Nat) (ks:List Nat) (aW:Nat->Nat):Prop where
 rep:∀q,q<i->∃k,ks[aW q]? =some k/\r q k=true/\r k q=true
 mh:ks.Sublist (List.range i)
 full:ks.length=i->∀q,q<i->aW q=q
def Ah.lt{n:Nat}{r:Nat->Nat->Bool}{i:Nat}{ks:List Nat}{a:Nat->Nat}(h:Ah n r i ks a):∀k∈ks,k<i:=λk b=>Oq.1 (h.mh.subset b)
def Ah.bC{n:Nat}{r:Nat->Nat->Bool}{i:Nat}{ks:List Nat}{a:Nat->Nat}(h:Ah n r i ks a):ks.length<=i:=by have:=h.mh.length_le;rwa [OQ]at this
structure om (w wr:WD) (mb gb n:Nat) (r:Nat->Nat->Bool) (v:Value) (ks:List Nat) (f:Value->Option Value) (i:Nat):Prop where
 ym:aE .i64 3 w wr v (aH ks)
 map:cE Tryz.prog 3 wr mb i f
 cK:w.heap.size<=mb
 sep:v.ownBlock≠some mb
 ne:mb≠gb
 Lp:w.heap.size<=gb
 box:wr.heap[gb]? =some (.cells #[.map (some mb)] 152 (0,0))
 aW:∃aW:Nat->Nat,(∀q,q<i->f (IV q)=some (IV (aW q:Int)))/\Ah n r i ks aW
section
variable {w wr w1 w2:WD} {mb gb n:Nat} {r:Nat->Nat->Bool} {v:Value} {ks:List Nat} {f:Value->Option Value} {i:Nat}
def om.af(h:om w wr mb gb n r v ks f i)(a:BW wr w1):om w w1 mb gb n r v ks f i:=
 ⟨jK h.ym a,h.map.af a,h.cK,h.sep,h.ne,h.Lp,(a.block _ (Nu.1 h.box).1).trans h.box,h.aW⟩
def om.aK(e:w1=(w.alloc (.map #[] 0)).alloc (.cells #[.map (some w.heap.size)] 152)):om w w1 w.heap.size (w.heap.size+1) n r (SN) [] (λ_=>none) 0:=by have b:(w.alloc (.map #[] 0)).heap.size=w.heap.size+1:=NG _ _;refine ⟨⟨Ox _ _ _ _,e▸aa (ag _ _) (ag _ _),λg h=>(by cases h)⟩,e▸(cE.aK Tryz.prog 3 w).af (ag _ _),Nz _,λh=>(by cases h),by omega,by omega,?_,λ_=>0,λq a=>by omega,λq a=>by omega,S7 _,λ_ q a=>by omega⟩;rw [e,<-b];exact (ND _ _).1
def Jg{q i x:Nat}:qK f (IV i) (some (IV x)) (IV q)=if q=i then some (IV x)else f (IV q):=by by_cases e:q=i;subst e;rw [eZ,Oa rfl];rw [cT _ _ _ _ (λa=>e (by have:=(P7 a).2;omega)),Of e]
def om.aM(h:om w wr mb gb n r v ks f i)(u:i<n){k x:Nat}(s:k<i)(z:f (IV k)=some (IV x))(F:r i k=true)(o:r k i=true)
 (l:∀a b c,r a b=true->a<n->b<n->c<n->r b c=true->r a c=true) (B:cE Tryz.prog 3 w1 mb (i+1) (qK f (IV i) (some (IV x)))) (g:aj (λb=>b=mb) wr w1):
 om w w1 mb gb n r v ks (qK f (IV i) (some (IV x))) (i+1):=by
 obtain ⟨m,p,j⟩:=h.aW
 have D:=h.map.lt
 have e:x=m k:=by rw [p k s]at z;have:=(P7 (OJ z)).2;omega
 refine ⟨⟨h.ym.1.aA g (λb e d=>h.sep (d▸e)),h.ym.2.1.trans (g.af h.ym.2.1.size (λb I e=>by have:=h.cK;omega)),h.ym.2.2⟩,B,h.cK,h.sep,h.ne,h.Lp,(g.block _ (Nu.1 h.box).1 (λe=>h.ne e.symm)).trans h.box,λq=>if q=i then x else m q,λq E=>?_,λq E=>?_,by rw [OZ];exact j.mh.trans (QB _ _),λe=>by have:=j.bC;omega⟩
 rw [Jg]
 dsimp only
 by_cases d:q=i
 rw [Oa d,Oa d]
 rw [Of d,Of d];exact p q (by omega)
 by_cases d:q=i
 obtain ⟨y,A,G,H⟩:=j.rep k s
 have J:=j.lt y (NI A)
 refine ⟨y,by rw [Oa d,e];exact A,?_,?_⟩
 subst d;exact l _ k _ F u (by omega) (by omega) G
 subst d;exact l _ k _ H (by omega) (by omega) u o
 rw [Of d];exact j.rep q (by omega)
def om.dJ(h:om w wr mb gb n r v ks f i)(B:r i i=true)(F:cE Tryz.prog 3 w1 mb (i+1) (qK f (IV i) (some (IV ks.length))))(d:aj (λb=>b=mb) wr w1)
 {j y:Nat} (H:Sl w2 3 (SV j (ks.length+1) y) (ks.length+1) ((aH ks).map (Value.int .i64)++[IV i])) (g:aj (λb=>v.ownBlock=some b) w1 w2) (m:v.ownBlock=some j\/w1.heap.size<=j):
 om w w2 mb gb n r (SV j (ks.length+1) y) (ks++[i]) (qK f (IV i) (some (IV ks.length))) (i+1):=by
 obtain ⟨x,E,o⟩:=h.aW
 have G:=h.map.lt
 have l:aE .i64 3 w w1 v (aH ks):=⟨h.ym.1.aA d (λb e c=>h.sep (c▸e)),h.ym.2.1.trans (d.af h.ym.2.1.size (λb J e=>by have:=h.cK;omega)),h.ym.2.2⟩
 have p:=dA l (aC ks) H g m
 have a:=(d.block _ (Nu.1 h.box).1 (λe=>h.ne e.symm)).trans h.box
 have s:j≠mb:=λe=>by rcases m with z|z;exact h.sep (e▸z);have:=d.size;omega
 have u:v.ownBlock≠some gb:=Rg l.1 a (by decide)
 refine ⟨by simpa [aH]using p,F.aA g (λe=>h.sep e),h.cK,λe=>s (OJ e),h.ne,h.Lp,(g.block _ (Nu.1 a).1 u).trans a,λq=>if q=i then ks.length else x q,λq A=>?_,λq A=>?_,by rw [OZ];exact o.mh.append (RW _),λe q A=>?_⟩
 rw [Jg]
 dsimp only
 by_cases c:q=i
 rw [Oa c,Oa c]
 rw [Of c,Of c];exact E q (by omega)
 by_cases c:q=i
 subst c
 exact ⟨q,by rw [Oa rfl,OF],B,B⟩
 rw [Of c]
 obtain ⟨k,D,I⟩:=o.rep q (by omega)
 exact ⟨k,by rw [NP (NK.1 D).1];exact D,I⟩
 have e:ks.length=i:=by rw [NH,Oz]at e;omega
 (try dsimp only)
 by_cases c:q=i
 rw [Oa c,c];exact e
 rw [Of c];exact o.full e q (by omega)
end
def GF(w:WD)(A:Au)(e:Ending)(w':WD):Prop:=
 BW w w'/\∃D v R b a,e=RT v/\Et w' D v/\fS D/\kX A R/\BY A D R b a/\gw A D
def DQ{ks:List Nat}{j k:Nat}(h:ks[j]? =some k):ks.getD j 0=k:=by rw [Nw,h];rfl
def qs{b:Nat->Nat}{l:List Nat}(h:∀q∈l,b q=q):l.map b=l:=by
 induction l with
 |nil=>rfl
 |cons a l d=>rw [NQ,h a Ok,d (λq c=>h q (Ot _ c))]
def gP(A:Au):(List.range A.ah.length).map A.aw=A.ah:=by refine PD (by simp) λi b a=>?_;rw [Rv,Re];unfold Au.aw;rw [Nw,Ny a];rfl
def De{A:Au}(s:fS A){ks:List Nat}(h:ks.Sublist (List.range A.ah.length)){js:List Nat}{N:List bV}(p:js.length<=A.aJ.length)(g:N.length=ks.length)
 (c:∀(j:Nat)(x y:bV),(ks.map A.aw)[j]? =some x->N[j]? =some y->(bV.tO y).length<=(bV.tO x).length)
 (a:ks=List.range A.ah.length->js.Sublist A.aJ/\∀(j:Nat)(x y:bV),A.ah[j]? =some x->N[j]? =some y->y.ak=x.ak/\y.aD=x.aD/\y.aT=x.aT/\(bV.tO y).Sublist (bV.tO x)):gw A ⟨A.sets,js,N⟩:=by
 have q:=uN _ _ (by rw [g,NU]) c
 have d:=D6 (h.map A.aw)
 rw [gP]at d
 refine ⟨by show js.length+iq N<=A.aJ.length+iq A.ah;omega,λe=>?_⟩
 have e:js.length+iq N=A.aJ.length+iq A.ah:=e
 have k:=d.2 (by omega)
 have b:ks.length=A.ah.length:=by rw [<-k,NU]
 have l:ks=List.range A.ah.length:=h.eq_of_length (by rw [OQ];exact b)
 obtain ⟨m,o⟩:=a l
 exact (rB m (by rw [g];exact b) o).2 e
def zH{A:Au}{r:Nat->Nat->Bool}(d:fS A){ks:List Nat}{a:Nat->Nat}(o:Ah A.ah.length r A.ah.length ks a){js:List Nat}{N:List bV}(m:BO a A.aJ js)(s:N.length=ks.length)
 (p:∀(j:Nat)(x y:bV),(ks.map A.aw)[j]? =some x->N[j]? =some y->Ma (BO a) x y):gw A ⟨A.sets,js,N⟩:=
 De d o.mh m.bC s (λj x y c k=>(p j x y c k).2.2.2.bC) λe=>by have b:=o.full (by rw [e,OQ]);refine ⟨?_,λj x y c k=>?_⟩;have:=m.mh;rwa [qs (λq g=>b q (d.aJ q g))]at this;have h:=p j x y (by rw [e,gP];exact c) k;have l:=h.2.2.2.mh;rw [qs (λq g=>b q (d.lN x (NI c) q g))]at l;exact ⟨h.1,h.2.1,h.2.2.1,l⟩
def FC{A:Au}{r:Nat->Nat->Bool}(s:fS A){ks:List Nat}{a:Nat->Nat}(D:Ah A.ah.length r A.ah.length ks a){js:List Nat}{N:List bV}(F:BO a A.aJ js)(H:N.length=ks.length)
 (I:∀(j:Nat)(x y:bV),(ks.map A.aw)[j]? =some x->N[j]? =some y->Ma (BO a) x y):
 BY A ⟨A.sets,js,N⟩ (λi k=>i<A.ah.length/\k<A.ah.length/\r i k=true) a (λp=>ks.getD p 0)/\fS ⟨A.sets,js,N⟩:=by
 have l:∀q,q<A.ah.length->a q<N.length:=λq m=>by obtain ⟨k,b,-⟩:=D.rep q m;rw [H];exact (NK.1 b).1
 have d:∀p,p<N.length->∃k,ks[p]? =some k/\k<A.ah.length/\ks.getD p 0=k/\Ma (BO a) (A.aw k) ((⟨A.sets,js,N⟩:Au).aw p):=λp g=>by
  have b:ks[p]? =some ks[p]:=Ny (by omega);have z:N[p]? =some N[p]:=Ny g;have J:(⟨A.sets,js,N⟩:Au).aw p=N[p]:=by unfold Au.aw;rw [Nw,z];rfl
  refine ⟨_,b,D.lt _ (NI b),DQ b,?_⟩;rw [J];exact I p _ _ (by rw [Oh,b];rfl) z
 have c:∀y∈N,∃k,k<A.ah.length/\Ma (BO a) (A.aw k) y:=λy o=>by obtain ⟨j,B⟩:=Pg o;have b:ks[j]? =some (ks[j]'(by have:=(NK.1 B).1;omega)):=Ny _;exact ⟨_,D.lt _ (NI b),I j _ _ (by rw [Oh,b];rfl) B⟩
 refine ⟨⟨rfl,λp g=>?_,λp g=>?_,λp g=>?_,λp g=>?_,λq m=>?_,F.gG,F.all,λp g j B=>?_,λp g q m=>?_⟩,s.sets,?_,λj B=>?_,λy o k G=>?_,λy o=>?_,λy o=>?_,λy o=>?_,N5 F.bC s.il⟩
 obtain ⟨k,-,z,e,-⟩:=d p g
 show ks.getD p 0<_;rw [e];exact z
 obtain ⟨k,-,-,e,h⟩:=d p g
 show _=(A.aw (ks.getD p 0)).ak;rw [e];exact h.1
 obtain ⟨k,-,-,e,h⟩:=d p g
 show _=(A.aw (ks.getD p 0)).aD;rw [e];exact h.2.1
 obtain ⟨k,-,-,e,h⟩:=d p g
 show _=(A.aw (ks.getD p 0)).aT;rw [e];exact h.2.2.1
 obtain ⟨k,b,z,K⟩:=D.rep q m
 have E:=D.lt k (NI b)
 have e:=DQ b
 exact ⟨l q m,⟨m,by show ks.getD (a q) 0<_;rw [e];exact E,by show r q (ks.getD (a q) 0)=true;rw [e];exact z⟩,by show ks.getD (a q) 0<_;rw [e];exact E,m,by show r (ks.getD (a q) 0) q=true;rw [e];exact K⟩
 obtain ⟨k,-,-,e,h⟩:=d p g
 show∃q∈(A.aw (ks.getD p 0)).tO,_
 rw [e];exact h.2.2.2.gG j B
 obtain ⟨k,-,-,e,h⟩:=d p g
 have m:q∈(A.aw (ks.getD p 0)).tO:=m
 rw [e]at m
 exact h.2.2.2.all q m
 show N.length<=256
 rw [H];exact N5 D.bC s.many
 obtain ⟨q,b,rfl⟩:=F.gG j B
 exact l q (s.aJ q b)
 obtain ⟨x,u,h⟩:=c y o
 obtain ⟨q,b,rfl⟩:=h.2.2.2.gG k G
 exact l q (s.lN _ (eh u) q b)
 obtain ⟨x,u,h⟩:=c y o
 rw [h.2.2.1];exact s.aT _ (eh u)
 obtain ⟨x,u,h⟩:=c y o
 rw [h.1,h.2.1];exact s.bits _ (eh u)
 obtain ⟨x,u,h⟩:=c y o
 exact N5 h.2.2.2.bC (s.tl _ (eh u))
end
section
open Go.Maps
def gE.cell{w:WD}{v:Value}{n:Nat}{r:Nat->Nat->Bool}(h:gE w v n r){i k:Nat}(p:i<n)(q:k<n):∃b o c e d g,v=.slice (some (AD b o)) n c/\CA w b (o+i) (.slice (some (AD e d)) n g)/\CA w e (d+k) (.bool (r i k)):=by obtain ⟨a,c,rfl,h⟩:=h;rcases h with h|⟨b,o,rfl,h⟩;omega;obtain ⟨e,s,g,l,-,⟨f,d,j,m⟩⟩:=h i p;subst j;exact ⟨b,o,c,f,d,g,rfl,l,m k q⟩
def MY(x y:bV):Bool:=decide ((x.ak:Int)=(y.ak:Int))&&(decide ((x.aD:Int)=(y.aD:Int))&&decide ((x.aT:Int)=(y.aT:Int)))
def M4(x y:bV)(w:WD):(if(x.ak:Int)=(y.ak:Int)then if(x.aD:Int)=(y.aD:Int)then if(x.aT:Int)=(y.aT:Int)then Result.ok (Next.value (Value.bool true)) w else Result.ok (Next.value (Value.bool false)) w else Result.ok (Next.value (Value.bool false)) w else Result.ok (Next.value (Value.bool false)) w)=Result.ok (Next.value (Value.bool (MY x y))) w:=by unfold MY;by_cases a:(x.ak:Int)=(y.ak:Int)<;>by_cases b:(x.aD:Int)=(y.aD:Int)<;>by_cases c:(x.aT:Int)=(y.aT:Int)<;>simp only [a,b,c,Qo,P6,decide_true,decide_false,Rx,QQ,OM,Pe]
def FB(w:WD)(A:Au)(ia:OA)(il ic:Nat)(na:OA)(I nc:Nat)(hv:bY w A ia il na I)(hA:fS A):
 CL 82 #[.agg #[IV A.sets,.slice ia il ic,.slice na I nc]] w (GF w A):=by
 obtain ⟨q,hq⟩:=EX w.heap.size
 have cI:=@RY Tryz.prog
 obtain ⟨w1,a3⟩:=EX ((w.alloc (.cells #[IV A.sets,.slice ia il ic,.slice na I nc] 36)).alloc (.cells #[IV 0,SN,SN] 36))
 have aO:BW w w1:=a3▸aa (ag _ _) (ag _ _)
 have s1:w1.heap.size=q+1+1:=by rw [<-a3,NG,NG,hq]
 have bt:w1.heap[q]? =some (.cells #[IV A.sets,.slice ia il ic,.slice na I nc] 36 (0,0)):=by rw [<-a3,<-hq,(ND _ _).2 _ (by rw [NG];omega)];exact (ND w _).1
 have ca:w1.heap[q+1]? =some (.cells #[IV 0,SN,SN] 36 (0,0)):=by rw [<-a3,<-hq,<-NG w (.cells #[IV A.sets,.slice ia il ic,.slice na I nc] 36)];exact (ND _ _).1
 have bP:=Nq (ft w1 A ia il ic na I nc (hv.af aO) hA)
 have bS:Hid (∀w2,BW w1 w2->CL 116 #[.agg #[IV A.sets,.slice ia il ic,.slice na I nc]] w2 (uV w2 A)):=λw2 H=>vy w2 A ia il ic na I nc (hv.af (aa aO H)) hA
 have an:Hid (∀d,BW w1 d->d.cell? (AD q 0)=some (IV A.sets)/\d.cell? (AD q 1)=some (.slice ia il ic)/\d.cell? (AD q 2)=some (.slice na I nc)):=λd h=>by have h2:=(h.block q (Nu.1 bt).1).trans bt;exact ⟨CH h2,CH h2,CH h2⟩
 have HV:Hid (∀d,BW w1 d->bY d A ia il na I):=λd h=>hv.af (aa aO h)
 have HA:=Nq hA
 have cr:=Nq aO
 have ct:=Nq ca
 have HQ:=Nq hq
 have b6:=Nq s1
 have cW:I<=256:=by rw [<-hv.bC];exact hA.many
 have ac:Hid (A.ah.length=I):=hv.bC
 have cG:il<=16777216:=by have:=hv.aJ.1;rw [aC]at this;rw [<-this];exact hA.il
 obtain ⟨i3,cF,cO,cM,b9⟩:=Ol Tryz.ed
 obtain ⟨c0,c1,G⟩:=an.o w1 (Nx _ _)
 clear hv hA aO bt ca s1
 go_enter Tryz.func82,Tryz.ntmps82
 go_upto_region 3 with(go_at_call 23;refine bP.o.mono ?_;rintro e w2 ⟨rfl,bq⟩;have bM:=Nq bq;have bR:=Nq (bS.o w2 bq);clear bq)
 clear a3 hq c0 c1 G bP
 obtain ⟨d0,d1,d2⟩:=an.o w2 bM.o
 go_upto_region 4 with(go_at_call 116;refine bR.o.mono ?_;rintro e w3 ⟨b8,v,r,rfl,aK,hg⟩;rw [ac.o]at aK;have cs:=Nq b8;have bX:=Nq aK;have HG:=Nq hg;clear b8 aK hg)
 clear d0 d1 d2 bS bR
 have aL:Hid (BW w1 w3):=aa bM.o cs.o
 have cx:Hid (Valid A):=⟨HA.o.aJ,λn hn q hq=>HA.o.lN _ (eh hn) q hq⟩
 go_upto_region 5 with(fail)
 clear cI
 obtain ⟨mb,a8⟩:=EX w3.heap.size
 obtain ⟨gb,bz⟩:=EX (mb+1)
 obtain ⟨w4,ap⟩:=EX ((w3.alloc (.map #[] 0)).alloc (.cells #[.map (some mb)] 152))
 have bD:om w3 w4 mb gb I r (SN) [] (λ_=>none) 0:=by rw [<-bz,<-a8];exact om.aK (by rw [a8];exact ap.symm)
 (try rw [a8])
 (try rw [bz])
 rw [ap]
 have bW:=Nq bD
 obtain ⟨e0,e1,e2⟩:=an.o w4 (aa aL.o (aZ bD.ym))
 clear bD ap a8 bz
 go_wp2
 go_loopw [5,24] (λv5 x wr=>∃(i:Nat)(a:OA)(m c:Nat)(Q:List Nat)(f:Value->Option Value),i<=I/\x=IV i/\v5=.slice a m c/\Q.length=m/\Hid (om w3 wr mb gb I r (.slice a m c) Q f i)) (λ_ x _=>I-(intOf x).toNat)
 exact ⟨0,none,0,0,[],_,NS _,rfl,rfl,rfl,bW⟩
 clear bW e0 e1 e2
 obtain ⟨i,a,m,c,Q,f,hi,rfl,rfl,bE,al⟩:=hrel
 have aq:Hid (BW w3 wr):=aZ al.o.ym
 by_cases U:i<I
 ·have cf:(i:Int)<(I:Int):=by omega
  go_upto_block 2 with(fail);go_cut [7] (λv7 wd=>Hid (BW wr wd)/\∃k:Nat,v7=IV k/\Hid (k=i\/k<i/\r i k=true/\r k i=true));case first=>
   go_wp2;obtain ⟨wo,rfl⟩:∃wo,wo=wr:=⟨_,rfl⟩;go_loopw [7,29] (λv7 x wr=>∃k:Nat,k<=i/\x=IV k/\v7=IV i/\Hid (BW wo wr)) (λ_ x _=>i-(intOf x).toNat);exact ⟨0,NS _,rfl,rfl,Nq (Nx _ _)⟩;obtain ⟨k,hk,rfl,rfl,a7⟩:=hrel;by_cases bC:k<i
   ·have cS:(k:Int)<(i:Int):=by omega
    have cc:(k:Int)<(I:Int):=by omega
    have bs:BW w1 wr:=aa aL.o (aa aq.o a7.o);have aR:BW w3 wr:=aa aq.o a7.o;have bH:=HV.o wr bs;have ba:i<A.ah.length:=by rw [ac.o];exact U
    have cm:k<A.ah.length:=by omega
    obtain ⟨nb,no,x,rfl,-,bb,-,xa,xl,xc,k0,k1,k2,k3,-⟩:=bH.nd cm;obtain ⟨c4,c5,y,e',-,cJ,-,ya,yl,yc,j0,j1,j2,j3,-⟩:=bH.nd ba;cases e'
    obtain ⟨bf,mo,mc,ra,ro,rc,rfl,m0,m1⟩:=(bX.o.af aR).cell (n:=I) U (Nat.lt_trans bC U);obtain ⟨cT,c3,cY,rb,rq,rd,e',W,m3⟩:=(bX.o.af aR).cell (n:=I) (Nat.lt_trans bC U) U;cases e'
    obtain ⟨-,-,b2⟩:=an.o wr bs;have M:Hid (∀F,Below wr.drew.heap.size wr.drew F->F.cell? (AD q 2)=some (.slice (some (AD nb no)) I nc)/\F.cell? (AD nb (no+k*4))=some (UV x.ak)/\F.cell? (AD nb (no+k*4+1))=some (UV x.aD)/\F.cell? (AD nb (no+k*4+2))=some (UV x.aT)/\F.cell? (AD nb (no+k*4+3))=some (.slice xa xl xc)/\F.cell? (AD nb (no+i*4))=some (UV y.ak)/\F.cell? (AD nb (no+i*4+1))=some (UV y.aD)/\F.cell? (AD nb (no+i*4+2))=some (UV y.aT)/\F.cell? (AD nb (no+i*4+3))=some (.slice ya yl yc)/\F.cell? (AD bf (mo+i))=some (.slice (some (AD ra ro)) I rc)/\F.cell? (AD ra (ro+k))=some (.bool (r i k))/\F.cell? (AD bf (mo+k))=some (.slice (some (AD rb rq)) I rd)/\F.cell? (AD rb (rq+i))=some (.bool (r k i))):=λF h=>by have h2:BW wr F:=(Nx _ _).drew.trans h;have kp:∀{p:Addr}{v:Value},wr.cell? p=some v->F.cell? p=some v:=λh=>(h2.cell (Nr wr _ h)).trans h;exact ⟨kp b2,kp k0,kp k1,kp k2,kp k3,kp j0,kp j1,kp j2,kp j3,kp m0,kp m1,kp W,kp m3⟩
    have b4:Hid (∀(d:WD)(z:bV)(t:bu),CL 118 #[.agg #[UV z.ak,UV z.aD,UV z.aT,.slice t.1 t.2.1 t.2.2]] d λe J=>e=RT (.agg #[UV z.ak,UV z.aD,UV z.aT])/\BW d J):=λd z t=>CR d _ _ _ t;have a1:=M.o wr.drew (Nx _ _);have bg:Hid (BW wo wr.drew):=a7.o.drew;clear bH bs aR ba cm b2 k0 k1 k2 k3 j0 j1 j2 j3 m0 m1 W m3 bb cJ;go_upto_region 12 with(fail);refine av 30 (S:=λF=>F.cell? (AD q 2)=some (.slice (some (AD nb no)) I nc)/\F.cell? (AD nb (no+k*4))=some (UV x.ak)/\F.cell? (AD nb (no+k*4+1))=some (UV x.aD)/\F.cell? (AD nb (no+k*4+2))=some (UV x.aT)/\F.cell? (AD nb (no+k*4+3))=some (.slice xa xl xc)/\F.cell? (AD nb (no+i*4))=some (UV y.ak)/\F.cell? (AD nb (no+i*4+1))=some (UV y.aD)/\F.cell? (AD nb (no+i*4+2))=some (UV y.aT)/\F.cell? (AD nb (no+i*4+3))=some (.slice ya yl yc)/\F.cell? (AD bf (mo+i))=some (.slice (some (AD ra ro)) I rc)/\F.cell? (AD ra (ro+k))=some (.bool (r i k))/\F.cell? (AD bf (mo+k))=some (.slice (some (AD rb rq)) I rd)/\F.cell? (AD rb (rq+i))=some (.bool (r k i))) (by kernel_rfl) (a1) (λad=>?_);refine' az 0 ?_ [22,13,12,5,4,3,1,0];refine' az 1 ?_ [22,13,12,5,4,3,1];refine' az 2 ?_ [22,13,12,5,4,3,2];refine' az 3 ?_ [22,13,12,5,4,3];refine' az 4 ?_ [22,13,12,5,4];refine' az 6 ?_ [22,13,11,10,9,7,6];refine' az 7 ?_ [22,13,11,10,9,7];refine' az 8 ?_ [22,13,11,10,9,8];refine' az 9 ?_ [22,13,11,10,9];refine' az 10 ?_ [22,13,11,10];clear ad a1;refine cA [5,11] (λi=>if i=5 then 37 else 43) #[true,true,true,true,true,true,true,true,true,true,true,true,false,false,false,false,false,false,false,false,false,false,false,false,false,false,false,false,false,false,false] 19
     (λi u w=>match i with|5=>u=.agg #[UV x.ak,UV x.aD,UV x.aT]|_=>u=.agg #[UV y.ak,UV y.aD,UV y.aT]) (by kernel_rfl) (by kernel_rfl) rfl (by decide) ?st1 ?st2 (by decide) ?st3 ?st4
    case st1=>
     intro i u w4 T hu H;split at hu
     ·exact hu
     ·exact hu
    case st2=>exact M.o
    case st3=>
     rintro l V d i o Z cD hi ho hr hJ K E;simp only [N8,O5,QD]at hi;rcases hi with rfl|rfl
     ·simp only [NT,NN,NO,N0]at ho;subst ho
      refine aN (b4.o d x (xa,xl,xc)) ?_ (λe w4 ⟨he,H⟩=>⟨_,he,E _ w4 H rfl⟩);clear E;simp only [NQ,NZ,aP,Act.put,reduceIte,Nat.reduceEqDiff,NB,NR,NM];go_simp
     ·simp only [NT,NN,NO,N0]at ho;subst ho
      refine aN (b4.o d y (ya,yl,yc)) ?_ (λe w4 ⟨he,H⟩=>⟨_,he,E _ w4 H rfl⟩);clear E;simp only [NQ,NZ,aP,Act.put,reduceIte,Nat.reduceEqDiff,NB,NR,NM];go_simp
    case st4=>
     intro V d ae hV;simp only [NQ,NZ,aP,Act.put,reduceIte,Nat.reduceEqDiff,NB,NR,NM];have e5:=hV 5 (by decide);have bo:=hV 11 (by decide);change V 37=_ at e5;change V 43=_ at bo;rw [e5,bo];clear e5 bo hV;refine aI 12 λK E=>?_;go_simp;rw [M4];go_simp;refine E.o _ _ (λ_=>M.o d ae) ?_;clear E K;try walk_nrm
     refine aI 13 λK E=>?_;go_simp;refine E.o _ _ (λ_=>M.o d ae) ?_;clear E K;try walk_nrm
     generalize MY x y=B;have a1:=M.o d ae;have HN:Hid (BW wo d):=bg.o.trans (ae.mono bg.o.size);generalize cz:r i k=C at *;generalize cB:r k i=D at *;cases B
     ·skip;refine' jC 14 ?_
      refine' jC 15 ?_;refine' jC 16 ?_;refine' jC 17 ?_;refine' jC 18 ?_;refine' jC 19 ?_;refine' jC 20 ?_;refine aI 21 λK E=>?_;go_simp;refine E.o _ _ (λ_=>M.o d ae) ?_;clear E K;try walk_nrm
      refine aI 22 λK E=>?_;go_simp;refine E.o _ _ (λ_=>M.o d ae) ?_;clear E K;try walk_nrm
      refine' jC 23 ?_;refine' jC 24 ?_;refine' jC 25 ?_;refine' jC 26 ?_;refine' jC 27 ?_;refine' jC 28 ?_;refine' jC 29 ?_;refine aI 30 λK E=>?_;go_simp;refine E.o _ _ (λe=>nomatch e) ?_;clear E K;try walk_nrm
      refine ay (by kernel_rfl) ?_;go_wp2;go_roundw;exact ⟨k+1,by omega,by go_num,rfl,HN⟩;simp [intOf];omega
     ·skip;refine' bc (i:=14) (v:=_) rfl (by kernel_rfl) (λ_ _ _ h=>h) (Or.inl ⟨by rfl,?hyP14⟩) (by assumption) ?restP14
      case hyP14=>(intro d aD;go_simp;(try with_reducible rfl))
      try walk_nrm
      refine' bc (i:=15) (v:=_) rfl (by kernel_rfl) (λ_ _ _ h=>h) (Or.inl ⟨by rfl,?hyP15⟩) (by assumption) ?restP15;case hyP15=>(intro d aD;go_simp;(try with_reducible rfl))
      try walk_nrm
      refine' az 16 ?_ [22,21,20,19,17,16];refine' az 17 ?_ [22,21,20,19,17];refine' bc (i:=18) (v:=_) rfl (by kernel_rfl) (λ_ _ _ h=>h) (Or.inl ⟨by rfl,?hyP18⟩) (by assumption) ?restP18;case hyP18=>(intro d aD;go_simp;(try with_reducible rfl))
      try walk_nrm
      refine' az 19 ?_ [22,21,20,19];refine' az 20 ?_ [22,21,20];refine aI 21 λK E=>?_;go_simp;refine E.o _ _ (λ_=>M.o d ae) ?_;clear E K;try walk_nrm
      refine aI 22 λK E=>?_;go_simp;refine E.o _ _ (λ_=>M.o d ae) ?_;clear E K;try walk_nrm
      cases C
      ·skip;refine' jC 23 ?_
       refine' jC 24 ?_;refine' jC 25 ?_;refine' jC 26 ?_;refine' jC 27 ?_;refine' jC 28 ?_;refine' jC 29 ?_;refine aI 30 λK E=>?_;go_simp;refine E.o _ _ (λe=>nomatch e) ?_;clear E K;try walk_nrm
       refine ay (by kernel_rfl) ?_;go_wp2;go_roundw;exact ⟨k+1,by omega,by go_num,rfl,HN⟩;simp [intOf];omega
      ·skip;refine' bc (i:=23) (v:=_) rfl (by kernel_rfl) (λ_ _ _ h=>h) (Or.inl ⟨by rfl,?hyR23⟩) (by assumption) ?restR23
       case hyR23=>(intro d aD;go_simp;(try with_reducible rfl))
       try walk_nrm
       refine' bc (i:=24) (v:=_) rfl (by kernel_rfl) (λ_ _ _ h=>h) (Or.inl ⟨by rfl,?hyR24⟩) (by assumption) ?restR24;case hyR24=>(intro d aD;go_simp;(try with_reducible rfl))
       try walk_nrm
       refine' az 25 ?_ [29,28,26,25];refine' az 26 ?_ [29,28,26];refine' bc (i:=27) (v:=_) rfl (by kernel_rfl) (λ_ _ _ h=>h) (Or.inl ⟨by rfl,?hyR27⟩) (by assumption) ?restR27;case hyR27=>(intro d aD;go_simp;(try with_reducible rfl))
       try walk_nrm
       refine' az 28 ?_ [29,28];refine' az 29 ?_;refine aI 30 λK E=>?_;go_simp;refine E.o _ _ (λe=>nomatch e) ?_;clear E K;try walk_nrm
       refine ay (by kernel_rfl) ?_;cases D
       ·skip;go_wp2
        go_roundw;exact ⟨k+1,by omega,by go_num,rfl,HN⟩;simp [intOf];omega
       ·skip;go_wp2
        go_meet;case rel=>exact ⟨HN,k,rfl,Nq (.inr ⟨bC,cz,cB⟩)⟩
   ·obtain rfl:k=i:=by omega
    go_wp2;go_meet;case rel=>exact ⟨a7,k,rfl,Nq (.inl rfl)⟩
  case rest=>
   obtain ⟨cC,k,rfl,bB⟩:=hcut;have ab:=al.o.af cC.o;have cg:wc.cell? (AD gb 0)=some (.map (some mb)):=CH ab.box;by_cases bA:k=i
   ·subst bA;subst bE
    obtain ⟨wp,cn,aT,aF⟩:=ab.map.put lW Pc (by unfold maxLen;omega) (iG (n:=k) (by omega)) (IV Q.length);have HO:Hid (Sl wp 3 (.slice a Q.length c) Q.length ((aH Q).map (Value.int .i64))):=by have h:=(ab.ym.1.aA aF (λb e e2=>ab.sep (e2▸e)));rwa [aC]at h
    have co:r k k=true:=(HG.o.refl cx.o (by rw [ac.o];exact U)).2.2;have bU:Hid (∀(g1 c1:Nat)(w4:WD),Sl w4 3 (SV g1 (Q.length+1) c1) (Q.length+1) ((aH Q).map (Value.int .i64)++[IV k])->aj (λk=>(Value.slice a Q.length c).ownBlock=some k) wp w4->((Value.slice a Q.length c).ownBlock=some g1\/wp.heap.size<=g1)->
     ∃f',om w3 w4 mb gb I r (SV g1 (Q.length+1) c1) (Q++[k]) f' (k+1)):=λg1 c1 w4 h1 h2 h3=>⟨_,ab.dJ co aT aF h1 h2 h3⟩
    have cU:Q.length<=16777216:=by obtain ⟨_,-,h⟩:=ab.aW;have:=h.bC;omega
    clear aT aF ab al bB co;go_wp2_with (first
     |(at_builtin;refine ax rfl (.tmp 72) (.tmp 74) 33 rfl 3 i3 (IV 0) 8 OE cF cO cM b9 rfl (by decide) _ _ _ rfl HO.o _ rfl rfl (by omega) ?_;intro g1 c1 w4 hs cd aK;have HE:=Nq (bU.o g1 c1 w4 hs cd aK);clear hs cd aK))
    go_roundw;case rel=>obtain ⟨f',cE⟩:=HE.o;exact ⟨k+1,_,_,_,_,f',by omega,by go_num,rfl,by rw [NH];rfl,Nq cE⟩
    case measure=>simp [intOf];omega
   ·have ak:=bB.o.resolve_left bA;obtain ⟨X,aV,-⟩:=ab.aW
    have hx:=aV k ak.1;have ce:=ab.map.look lW Pc (oh wc) (iG (n:=k) (by omega));rw [hx]at ce;simp only [OU]at ce;obtain ⟨wp,cn,aT,aF⟩:=ab.map.put lW Pc (by unfold maxLen;omega) (iG (n:=i) (by omega)) (IV (X k:Int));have HN:=Nq (ab.aM U ak.1 hx ak.2.1 ak.2.2 (λa b c h1 ha H hc h2=>(HG.o.trans ⟨by rw [ac.o];exact ha,by rw [ac.o];exact H,h1⟩ ⟨by rw [ac.o];exact H,by rw [ac.o];exact hc,h2⟩).2.2) aT aF);have cR:((k:Int)==(i:Int))=false:=by simp;omega
    generalize X k=nk at *;clear aT aF ab al bB ak hx aV bA;go_wp2;go_roundw;exact ⟨i+1,_,_,_,_,_,by omega,by go_num,rfl,bE,HN⟩;simp [intOf];omega
 ·obtain rfl:I=i:=by omega
  subst bE;obtain ⟨T,rfl⟩:∃T,T=wr:=⟨_,rfl⟩;obtain ⟨X,aV,aW⟩:=al.o.aW;have Y:Hid (BW w1 T):=aa aL.o aq.o;have bZ:Hid (Ah A.ah.length r A.ah.length Q X):=by rw [ac.o];exact aW
  have cw:Hid (∀d,BW T d->aG .i64 d a Q.length (aH Q)):=λd H=>(cN al.o.ym).af H;have cv:Hid (∀k∈Q,k<I):=aW.lt;have cV:Q.length<=I:=aW.bC;have bO:Hid (∀(la:OA)(ll lc:Nat)(l:List Nat)(d:WD),BW T d->aG .i64 d la ll (aH l)->ll<=16777216->(∀k∈l,k<A.ah.length)->CL 119 #[.slice la ll lc,PT gb] d λe J=>∃P W G L,e=RT (.slice P W G)/\aE .i64 3 d J (.slice P W G) (aH L)/\BO X l L):=λla ll lc l d H hr Z hk=>by have cl:=al.o.af H;have cg:d.cell? (AD gb 0)=some (.map (some mb)):=CH cl.box;refine (Cf d la ll lc l gb mb I f X hr Z cg cl.map (λq hq=>aV q (by rw [<-ac.o];exact hk q hq)) (λq hq=>?_)).mono λe J ⟨P,W,G,L,he,hm,h1,h2,h3⟩=>⟨P,W,G,L,he,hm,h1,h2,h3⟩;have cL:=hk q hq;obtain ⟨k,h1,-⟩:=aW.rep q (by rw [<-ac.o];exact cL);have:=(NK.1 h1).1;have:=ac.o;omega
  have bN:Hid (∀d,Below T.drew.heap.size T.drew d->CL 119 #[.slice ia il ic,PT gb] d λe J=>∃u,e=RT u/\BW d J/\∃P W G L,u=.slice P W G/\aE .i64 3 T J (.slice P W G) (aH L)/\BO X A.aJ L):=λd H=>by have H:BW T d:=(Nx _ _).drew.trans H;exact (bO.o ia il ic A.aJ d H ((HV.o d (aa Y.o H)).aJ) cG HA.o.aJ).mono λe J ⟨P,W,G,L,he,hm,h1⟩=>⟨_,he,hm.2.1,P,W,G,L,rfl,iJ H hm,h1⟩
  have b5:Hid (∀F,Below T.drew.heap.size T.drew F->F.cell? (AD q 0)=some (IV A.sets)/\F.cell? (AD q 1)=some (.slice ia il ic)):=λd H=>by have h:=an.o d (aa Y.o ((Nx _ T).drew.trans H));exact ⟨h.1,h.2.1⟩
  obtain ⟨e0,e1,e2⟩:=an.o T Y.o;clear al aV aW U hi aq;go_upto_region 21 with(fail);refine av 8 (S:=λF=>F.cell? (AD q 0)=some (IV A.sets)/\F.cell? (AD q 1)=some (.slice ia il ic)) (by kernel_rfl) (⟨e0,e1⟩) (λad=>?_);refine' az 0 ?_;refine' az 1 ?_;refine' az 2 ?_;refine' az 3 ?_;refine' az 4 ?_;clear ad e0 e1 e2;refine cA [5,6,7] (λi=>if i=5 then 88 else if i=6 then 89 else 10) #[true,true,true,true,true,true,true,true,false] 1
   (λi u w=>match i with|5=>(∃P W G L,u=.slice P W G/\aE .i64 3 T w (.slice P W G) (aH L)/\BO X A.aJ L)|6=>∃x,u=.agg #[IV A.sets,x,SN]/\(∃P W G L,x=.slice P W G/\aE .i64 3 T w (.slice P W G) (aH L)/\BO X A.aJ L)|_=>∃b,u=PT b/\T.heap.size<=b/\w.heap[b]? =some (.cells #[IV 0,SN,SN] 36 (0,0))) (by kernel_rfl) (by kernel_rfl) rfl (by decide) ?st1 ?st2 (by decide) ?st3 ?st4
  case st1=>
   intro i u w4 c7 hu H;split at hu
   ·obtain ⟨P,W,G,L,h1,h2,h3⟩:=hu;exact ⟨P,W,G,L,h1,jK h2 H,h3⟩
   ·obtain ⟨x,e,P,W,G,L,h1,h2,h3⟩:=hu;exact ⟨x,e,P,W,G,L,h1,jK h2 H,h3⟩
   ·obtain ⟨b,e,h1,h⟩:=hu;exact ⟨b,e,h1,(H.block b (Nu.1 h).1).trans h⟩
  case st2=>exact b5.o
  case st3=>
   rintro l V d i o Z cD hi ho hr hJ K E;simp only [N8,O5,QD]at hi;rcases hi with rfl|rfl|rfl
   ·simp only [NT,NN,NO,N0]at ho;subst ho
    refine aN (R:=λe J=>∃u,e=RT u/\BW d J/\∃P W G L,u=.slice P W G/\aE .i64 3 T J (.slice P W G) (aH L)/\BO X A.aJ L) (f:=119) (args:=#[.slice ia il ic,PT gb]) (bN.o d hJ.aM) ?_ (λe w4 ⟨u,he,H,hu⟩=>⟨u,he,E u w4 H hu⟩);clear E;simp only [NQ,NZ,aP,Act.put,reduceIte,Nat.reduceEqDiff,NB,NR,NM];go_simp
   ·simp only [NT,NN,NO,N0]at ho;subst ho
    have h5:=hJ.mS 5 (by decide) (aU (l:=[5]) (by kernel_rfl) hr 5 (by simp));refine bT (v:=.agg #[IV A.sets,V 88,SN]) (w':=d) ?_ (E _ _ (Nx _ _) ⟨_,rfl,h5⟩);obtain ⟨_,_,_,_,e5,-⟩:=h5;change V 88=_ at e5;clear E;simp only [NQ,NZ,aP,Act.put,reduceIte,Nat.reduceEqDiff,NB,NR,NM];rw [e5];go_simp
   ·simp only [NT,NN,NO,N0]at ho;subst ho
    refine bT (v:=PT d.heap.size) (w':=d.alloc (.cells #[IV 0,SN,SN] 36)) ?_ (E _ _ ((Nx _ _).alloc (Nz _) _) ⟨_,rfl,hJ.aM.size,(ND d _).1⟩);clear E;simp only [NQ,NZ,aP,Act.put,reduceIte,Nat.reduceEqDiff,NB,NR,NM];go_simp
  case st4=>
   intro V d ae hV;simp only [NQ,NZ,aP,Act.put,reduceIte,Nat.reduceEqDiff,NB,NR,NM];obtain ⟨xv,e6,xa,xm,xc,L,rfl,cj,bx⟩:=hV 6 (by decide);obtain ⟨ob,e7,aS,am⟩:=hV 7 (by decide);change V 89=_ at e6;change V 10=_ at e7;rw [e6,e7];generalize V 88=c6;have bh:BW T d:=(Nx _ _).drew.trans ae;have c0:d.cell? (AD ob 0)=some (IV 0):=CH am;have c1:d.cell? (AD ob 1)=some (SN):=CH am;have G:d.cell? (AD ob 2)=some (SN):=CH am;have z0:d.frozen? (AD ob 0)=false:=NA am 0;have z1:d.frozen? (AD ob 1)=false:=NA am 1;have z2:d.frozen? (AD ob 2)=false:=NA am 2;refine aI 8 λK E=>?_;go_simp;refine E.o _ _ (λe=>nomatch e) ?_;clear E K;try walk_nrm
   refine ay (by kernel_rfl) ?_;obtain ⟨w4,ap⟩:=EX (((d.setCell (AD ob 0) (IV A.sets)).setCell (AD ob 1) (.slice xa xm xc)).setCell (AD ob 2) (SN));rw [ap];have bK:q+1<T.heap.size:=by have:=b6.o;have:=Y.o.size;omega
   have hL:iR T w4 (q+1) A.sets (Q.map A.aw) (BO X) A.aJ ob (xa,xm,xc) L (SN) []:=iR.aK bK aS bh am cj (N5 bx.bC HA.o.il) bx ap.symm;have bn:=Nq bK;have HL:=Nq hL;clear e6 e7 aS am bh c0 c1 G z0 z1 z2 ap ae hV hL bK cj bx bN b5;go_wp2;go_loopw [92] (λx wr=>∃(i:Nat)(ov:Value)(O:List (bV×bu)),x=IV i/\O.length=i/\Hid (iR T wr (q+1) A.sets (Q.map A.aw) (BO X) A.aJ ob (xa,xm,xc) L ov O)) (λx _=>Q.length-(intOf x).toNat);exact ⟨0,_,[],rfl,rfl,HL⟩;clear HL;obtain ⟨i,ov,O,rfl,aM,Z⟩:=hrel;obtain ⟨oa,oc,rfl⟩:=bw Z.o.o.cK;by_cases U:i<Q.length
   ·have cf:(i:Int)<(Q.length:Int):=by omega
    obtain ⟨kn,aB⟩:∃kn,Q[i]? =some kn:=⟨_,Ny U⟩;have bi:=cv.o kn (NI aB);have cc:(kn:Int)<(I:Int):=by omega
    have ar:Hid (BW T wr):=Z.o.aM;obtain ⟨-,h0|⟨kb,ko,rfl,cb⟩⟩:=cw.o wr ar.o
    ·omega
    have ck:wr.cell? (AD kb (ko+i))=some (IV kn):=by have:=cb i U;rw [cH U,Nw,aB]at this;exact this
    have hv:=HV.o wr (aa Y.o ar.o);obtain ⟨b,o,x,rfl,hx,bb,-,ta,tl,tc,k0,k1,k2,k3,a0⟩:=hv.nd (j:=kn) (by rw [hv.bC];exact bi);have be:x∈A.ah:=NI hx;have cp:tl<=16777216:=by have:=a0.1;rw [aC]at this;rw [<-this];exact HA.o.tl x be
    obtain ⟨-,-,b2⟩:=an.o wr (aa Y.o ar.o);obtain ⟨w6,bd⟩:=EX (wr.alloc (.cells #[UV x.ak,UV x.aD,UV x.aT,.slice ta tl tc] 62));have aQ:BW wr w6:=bd▸ag _ _;obtain ⟨xb,bL⟩:=EX wr.heap.size;have ai:=bp wr #[UV x.ak,UV x.aD,UV x.aT,.slice ta tl tc] 62;rw [bd,bL]at ai;have bj:=Nq aQ;have HX:Hid ((Q.map A.aw)[O.length]? =some x):=by show _=_;rw [aM,Oh,aB,<-bb];rfl
    have cy:=Nq be;have a4:=Nq aM;have o2:wr.cell? (AD ob 2)=some (.slice oa O.length oc):=CH Z.o.o.dp;have bl:Hid (∀F,Below w6.drew.heap.size w6.drew F->F.cell? (AD ob 2)=some (.slice oa O.length oc)):=λF H=>by have h2:=aa aQ ((Nx _ _).drew.trans H);exact (h2.cell (Nr _ _ o2)).trans o2
    have cu:Hid (CL 119 #[.slice ta tl tc,PT gb] w6.drew λe J=>∃u,e=RT u/\Below w6.drew.heap.size w6.drew J/\∃a m c L,u=.slice a m c/\aE .i64 3 w6.drew J (.slice a m c) (aH L)/\BO X (bV.tO x) L):=
     (bO.o ta tl tc (bV.tO x) w6.drew (aa ar.o aQ.drew) (((a0.af aQ)).af (Nx _ _).drew) cp (λk hk=>HA.o.lN x be k hk)).mono λe J ⟨P,W,G,L,he,hm,h1⟩=>⟨_,he,hm.2.1,P,W,G,L,rfl,hm,h1⟩
    have o5:=bl.o w6.drew (Nx _ _);have b0:=(ai 0 _ rfl).1;have b1:=(ai 1 _ rfl).1;have a5:=(ai 2 _ rfl).1;have b3:=(ai 3 _ rfl).1;have b7:O.length+1<=33554432:=by omega
    clear hv hx be bb a0 cp aQ ai aM o2 aB bi cb;go_upto_region 26 with(fail);(try rw [bL]);(try rw [bd]);clear bd bL;refine av 14 (S:=λF=>F.cell? (AD ob 2)=some (.slice oa O.length oc)/\F.cell? (AD xb 0)=some (UV x.ak)/\F.cell? (AD xb 1)=some (UV x.aD)/\F.cell? (AD xb 2)=some (UV x.aT)/\F.cell? (AD xb 3)=some (.slice ta tl tc)) (by kernel_rfl) (⟨o5,b0,b1,a5,b3⟩) (λad=>?_);refine' az 0 ?_ [1,0];refine' az 1 ?_;refine' az 2 ?_ [13,12,3,2];refine' az 3 ?_ [13,12,3];refine' az 4 ?_ [13,12,5,4];refine' az 5 ?_ [13,12,5];refine' az 6 ?_ [13,12,7,6];refine' az 7 ?_ [13,12,7];refine' az 9 ?_ [11,10,9];refine' az 10 ?_ [11,10];refine' bc (i:=8) (v:=_) rfl (by kernel_rfl) (λ_ _ _ h=>h) (Or.inl ⟨by rfl,?hyL8⟩) (by assumption) ?restL8;case hyL8=>(intro d aD;go_simp;(try with_reducible rfl))
    try walk_nrm
    clear ad;have bk:Hid (∀F,Below w6.drew.heap.size w6.drew F->(λF=>F.cell? (AD ob 2)=some (.slice oa O.length oc)/\F.cell? (AD xb 0)=some (UV x.ak)/\F.cell? (AD xb 1)=some (UV x.aD)/\F.cell? (AD xb 2)=some (UV x.aT)/\F.cell? (AD xb 3)=some (.slice ta tl tc)) F):=λF H=>⟨bl.o F H,(H.cell (Nr _ _ b0)).trans b0,(H.cell (Nr _ _ b1)).trans b1,(H.cell (Nr _ _ a5)).trans a5,(H.cell (Nr _ _ b3)).trans b3⟩;clear b0 b1 a5 b3 o5 b2 ck;refine aI 11 λK E=>?_;rw [Oa (by rfl)];apply aY.o;refine aN (f:=119) cu.o ?_ (λe w7 bG=>?_)
    ·clear E;go_simp
    obtain ⟨u,rfl,a6,P,l2,G,cQ,rfl,ch,bv⟩:=bG;refine ⟨_,rfl,?_⟩;refine E.o _ _ (λ_=>bk.o w7 a6) ?_;clear E K;try walk_nrm
    refine aI 12 λK E=>?_;go_simp;refine E.o _ _ (λ_=>bk.o w7 a6) ?_;clear E K;try walk_nrm
    obtain ⟨w8,bI⟩:=EX (w7.alloc (.cells #[UV x.ak,UV x.aD,UV x.aT,.slice P l2 G] 62));have ai:=bp w7 #[UV x.ak,UV x.aD,UV x.aT,.slice P l2 G] 62;rw [bI]at ai;have br:BW w7 w8:=bI▸ag _ _;have au:Below w6.drew.heap.size w6.drew w8:=aa a6 br;refine aI 13 λK E=>?_;go_simp;refine E.o _ _ (λ_=>bk.o w8 au) ?_;clear E K;try walk_nrm
    have aw:BW wr w8:=aa bj.o ((Nx _ _).drew.trans au);have aX:w8.ownsRow 0 62 4 (.slice oa O.length oc) O.length (cX O):=bm Z.o.o.cK (aj.aF aw) (λg e s=>OI _ (NL (dj Z.o.o.cK g e) s));have q8:=bl.o w8 au;have f8:w8.frozen? (AD ob 2)=false:=NA ((aw.block ob Z.o.o.Bb).trans Z.o.o.dp) 2;have bF:¬(Value.slice oa O.length oc).ownBlock=some ob:=λe=>Z.o.o.nY ob e rfl;refine aI 14 λK E=>?_;rw [Oa (by rfl)];apply aY.o;refine j6 (.tmp 102) (.tmp 114) rfl (.slice oa O.length oc) O.length (cX O) rfl aX (AD w7.heap.size 0) 1 [UV x.ak,UV x.aD,UV x.aT,.slice P l2 G] rfl rfl (λj u hj=>?_) (by simp [Value.oneCell']) b7 (λa9 c9 w9 ci ao cq=>?_)
    ·rw [O4,Od];exact (ai j u (by simpa using hj)).1
    have q9:=ao.aq q8 bF;have f9:=(N7 (ao.block ob (Nr _ _ q8) bF)).trans f8;have HN:=Nq (Z.o.step (x:=x) (y:=(⟨x.ak,x.aD,x.aT,cQ⟩,(P,l2,G))) HX.o ⟨rfl,rfl,rfl,bv⟩ aw ((Z.o.row bn.o (bj.o.trans ((Nx _ _).drew.mono bj.o.size)) ch (N5 bv.bC (HA.o.tl x cy.o))).aA (aj.aF br) (λk s=>.inr s) (λk s=>.inl s)) ci ao cq rfl);refine E.o _ _ (λe=>nomatch e) ?_;clear E K a6 ch bv bI ai br au aw aX q8 f8 bF ci ao cq;try walk_nrm
    refine aI 15 λK E=>?_;go_simp;refine E.o _ _ (λe=>nomatch e) ?_;clear E K;try walk_nrm
    refine aI 16 λK E=>?_;go_simp;refine E.o _ _ (λe=>nomatch e) ?_;clear E K;try walk_nrm
    refine ay (by kernel_rfl) ?_;go_wp2;go_roundw;exact ⟨i+1,_,_,by go_num,by rw [NH,a4.o];rfl,HN⟩;simp [intOf];omega
   ·obtain rfl:Q.length=i:=by have:=Z.o.cO;rw [NU]at this;omega
    have o0:wr.cell? (AD ob 0)=some (IV A.sets):=CH Z.o.o.dp;have o1:wr.cell? (AD ob 1)=some (.slice xa xm xc):=CH Z.o.o.dp;have o2:wr.cell? (AD ob 2)=some (.slice oa O.length oc):=CH Z.o.o.dp;have ah:wr.heap[q+1]? =some (.cells #[IV 0,SN,SN] 36 (0,0)):=(Z.o.aM.block _ bn.o).trans ((Y.o.block _ (by have:=b6.o;omega)).trans ct.o);have c0:wr.cell? (AD (q+1) 0)=some (IV 0):=CH ah;have c1:wr.cell? (AD (q+1) 1)=some (SN):=CH ah;have G:wr.cell? (AD (q+1) 2)=some (SN):=CH ah;have z0:wr.frozen? (AD (q+1) 0)=false:=NA ah 0;have z1:wr.frozen? (AD (q+1) 1)=false:=NA ah 1;have z2:wr.frozen? (AD (q+1) 2)=false:=NA ah 2;have a4:=Nq aM;clear ah aM U;go_wp2;(try simp only [Exit.inBlock,Exit.then]);obtain ⟨w9,bJ⟩:=EX (((wr.setCell (AD (q+1) 0) (IV A.sets)).setCell (AD (q+1) 1) (.slice xa xm xc)).setCell (AD (q+1) 2) (.slice oa O.length oc));rw [bJ];obtain ⟨d0,d1,d2,ao⟩:=bQ c0 c1 G w9 bJ.symm;clear bJ c0 c1 G z0 z1 z2 o0 o1 o2;refine OS (v:=.agg #[IV A.sets,.slice xa xm xc,.slice oa O.length oc]) ?_ rfl ⟨?_,?_⟩
    ·rw [cP rfl];go_simp
    ·have hB:=aa cr.o (aa Y.o Z.o.aM);exact hB.trans (ao.af hB.size (λk hk e=>by have:=HQ.o;omega))
    ·have ba:¬gN ob (.slice oa O.length oc) (q+1):=λs=>by have:=Z.o.bL _ s;have:=bn.o;omega
     have cK:=Z.o.o.aA ao (λk e s=>ba (e▸s)) (λk e=>.inl (Nat.le_of_eq e));obtain ⟨p1,p2⟩:=FC (N:=O.map Prod.fst) HA.o bZ.o Z.o.nW (by rw [NU,a4.o]) (λj x y hx hy=>by rw [Oh]at hy;obtain ⟨z,hz,rfl⟩:=Ph.1 hy;exact Z.o.Ba j x z hx hz)
     exact ⟨_,_,_,_,_,rfl,cK.B6,p2,HG.o,p1,zH (N:=O.map Prod.fst) HA.o bZ.o Z.o.nW (by rw [NU,a4.o]) (λj x y hx hy=>by rw [Oh]at hy;obtain ⟨z,hz,rfl⟩:=Ph.1 hy;exact Z.o.Ba j x z hx hz)⟩
end
section
structure rH (w:WD) (qb n:Nat) (lv:Value) (l:List Nat):Prop where
 dp:w.heap[qb]? =some (.cells #[.bool true,IV n,lv] 243 (0,0))
 cK:Sl w 3 lv l.length (bI l)
def xU(qb:Nat)(lv:Value)(k:Nat):Prop:=k=qb\/lv.ownBlock=some k
section
variable {w w1 w2:WD} {qb n:Nat} {lv lv':Value} {l l':List Nat}
def rH.lt(h:rH w qb n lv l):qb<w.heap.size:=(Nu.1 h.dp).1
def rH.eE(h:rH w qb n lv l):∀k,xU qb lv k->k<w.heap.size:=λk a=>by rcases a with rfl|a;exact h.lt;exact h.cK.lt k a
def rH.ne(h:rH w qb n lv l):∀b,lv.ownBlock=some b->b≠qb:=λb a c=>Rg h.cK h.dp (by decide) (c▸a)
def rH.aA{R:Nat->Prop}(h:rH w qb n lv l)(b:aj R w w1)(a:∀k,xU qb lv k->¬R k):rH w1 qb n lv l:=
 ⟨(b.block qb h.lt (a qb (.inl rfl))).trans h.dp,h.cK.aA b (λg e=>a g (.inr e))⟩
def rH.af(h:rH w qb n lv l)(a:BW w w1):rH w1 qb n lv l:=h.aA (aj.aF a) (λk s=>by have:=h.eE k s;omega)
def rH.cells(h:rH w qb n lv l):CA w qb 0 (.bool true)/\CA w qb 1 (IV n)/\CA w qb 2 lv/\FZ w qb 2:=
 ⟨CH h.dp,CH h.dp,CH h.dp,NA h.dp 2⟩
def rH.set(h:rH w qb n lv l)(c:aj (λk=>lv.ownBlock=some k) w w1)(o:Sl w1 3 lv' l'.length (bI l'))(m:∀b,lv'.ownBlock=some b->lv.ownBlock=some b\/w.heap.size<=b)(e:w2=w1.setCell (AD qb 2) lv'):
 rH w2 qb n lv' l'/\aj (xU qb lv) w w2:=by
 have f:=(c.block qb h.lt (λe=>h.ne qb e rfl)).trans h.dp
 have i:HC w2 qb #[.bool true,IV n,lv'] 243:=by rw [e];simp [HC,World.setCell,Ow,f]
 have d:aj (λk=>k=qb) w1 w2:=by rw [e];exact (aj.refl (λk=>k=qb) w1).setCell (p:=(AD qb 2)) (λ_=>rfl) _
 refine ⟨⟨i,o.aA d (λg j s=>?_)⟩,(c.mono (λk _ s=>.inr s)).then d (λk _ s=>.inl s)⟩
 rcases m g j with a|a
 exact h.ne g a s
 have:=h.lt;omega
end
def xT(w:WD)(qb n:Nat)(lv:Value)(l':List Nat)(a:WD):Prop:=∃lv',rH a qb n lv' l'/\aj (xU qb lv) w a/\∀b,lv'.ownBlock=some b->lv.ownBlock=some b\/w.heap.size<=b
def Bk(w:WD)(n:Nat)(d:n<=65536):
 CL 174 #[IV n] w λe a=>e=RT (PT w.heap.size)/\a=w.alloc (.cells #[.bool true,IV n,SN] 243):=by
 have b:max (n:Int) 0=n:=by omega
 have c:min (n:Int) 65536=n:=by omega
 go_enter Tryz.func174,Tryz.ntmps174
 go_wp2
 go_ret
 exact ⟨rfl,rfl⟩
def He(w:WD)(qb n:Nat)(lv:Value)(l:List Nat)(h:rH w qb n lv l)(k:l.length<n)(o:n<=65536):
 CL 187 #[PT qb] w λe d=>e=RT (.bool false)/\BW w d:=by
 obtain ⟨f,g,i,-⟩:=h.cells
 obtain ⟨a,c,rfl,-⟩:=h.cK.shape
 have j:decide ((n:Int)<=(l.length:Int))=false:=NX (by omega)
 have b:decide (n<=l.length)=false:=NX (by omega)
 generalize l.length=m at *
 clear h
 go_enter Tryz.func187,Tryz.ntmps187
 go_wp2
 go_quiet (fail)
 go_wp2
 go_ret
 exact ⟨rfl,Scc.below_drewN _ _⟩
def Bm(w:WD)(qb n:Nat)(lv:Value)(l:List Nat)(x:Nat)(h:rH w qb n lv l)(G:l.length<n)(S:n<=65536):
 CL 176 #[PT qb,IV x] w λe p=>e=RT (.bool true)/\xT w qb n lv (l++[x]) p:=by
 obtain ⟨T,u,B,z,t⟩:=Ol Tryz.ed
 have C:=Nq (He w qb n lv l h G S)
 have q:Hid (∀p,BW w p->rH p qb n lv l):=λp Q=>h.af Q
 obtain ⟨a,c,rfl,-⟩:=h.cK.shape
 obtain ⟨m,y⟩:=EX l.length
 rw [y]at q G⊢
 have D:=Nq y
 clear h y
 go_enter Tryz.func176,Tryz.ntmps176
 go_upto_region 3 with(go_at_call 187;refine C.o.mono ?_;rintro e w1 ⟨rfl,i⟩;have g:=Nq i;clear i)
 obtain ⟨w2,A⟩:=EX (w1.alloc (.cells #[IV x] 3))
 have d:=Nq (q.o w1 g.o)
 obtain ⟨L,r,M,N⟩:=d.o.cells
 have J:Hid (Sl w1 3 (.slice a m c) m (bI l)):=by have:=d.o.cK;rw [D.o]at this;exact this
 have v:=d.o.lt
 have o:¬(Value.slice a m c).ownBlock=some qb:=λe=>d.o.ne qb e rfl
 clear C q L r A w2
 go_wp2_with (at_builtin;refine ax rfl (.tmp 11) (.tmp 13) 33 rfl 3 T (IV 0) 8 OE u B z t rfl (by decide) (.slice a m c) _ _ rfl J.o _ rfl rfl (by omega) ?_;intro F r W H f j;have K:=Nq H;have I:=Nq f;have E:=Nq j;have V:=f.aq M o;have U:=(N7 (f.block qb v o)).trans N;clear H f j)
 go_ret
 obtain ⟨O,P⟩:=d.o.set (l':=l++[x]) (lv':=SV F (m+1) r) I.o (by rw [kG,NH,D.o];exact K.o) (λb e=>by cases e;exact E.o) rfl
 refine ⟨rfl,_,O,((aj.aF g.o).mono (λk R s=>absurd R (by omega))).then P (λk _ s=>s),λb e=>?_⟩
 obtain rfl:F=b:=by cases e;rfl
 rcases E.o with e|e
 exact .inl e
 have:=g.o.size;exact .inr (by omega)
def nZ{g:Nat}{e:TypeId}{d:Nat×Nat}:∀(c:List Value)(o:Nat)(w:WD)(a:Array Value),w.heap[g]? =some (.cells a e d)->o+c.length<=a.size->
 ∃b,(w.setCells g o c).heap[g]? =some (.cells b e d)/\b.size=a.size/\b.toList.take (o+c.length)=a.toList.take o++c
 |[],o,w,a,h,_=>⟨a,h,rfl,by simp⟩
 |v::r,o,w,a,h,s=>by
  rw [Ou]at s;have k:(w.setCell (AD g o) v).heap[g]? =some (.cells (a.setIfInBounds o v) e d):=by simp [HC,World.setCell,Ow,h]
  obtain ⟨b,m,p,q⟩:=nZ r (o+1) _ _ k (by simp;omega);refine ⟨b,m,by rw [p];simp,?_⟩;have i:o+(v::r).length=o+1+r.length:=by simp;omega
  rw [i,q];have j:(a.setIfInBounds o v).toList.take (o+1)=a.toList.take o++[v]:=by
   rw [OG];have f:o<a.toList.length:=by simp;omega
   simp [List.take_set_of_le,Qn f]
  rw [j,Ov];rfl
def Bw{w:WD}{e:TypeId}{g n c:Nat}{s vs:List Value}(h:Sl w e (SV g n c) n s)(q:vs.length=n):Sl (w.setCells g 0 vs) e (SV g n c) n vs:=by
 refine ⟨by omega,?_⟩;rcases h.2 with⟨f,_⟩|⟨b,j,d,f,k,m,o,p,t,u⟩;cases f
 right;cases f
 obtain ⟨a,r,v,i⟩:=nZ vs 0 w d m (by omega);refine ⟨g,c,a,rfl,k,r,o,p,by omega,?_⟩;rw [Od,q,PQ,PU]at i;rw [PZ];exact i
def xC(g o:Nat)(a:List Value)(w:WD):aj (λk=>k=g) w (w.setCells g o a):=by
 induction a generalizing o w with
 |nil=>exact aj.refl _ _
 |cons v r b=>exact ((aj.refl (λk=>k=g) w).setCell (p:=(AD g o)) (λ_=>rfl) v).trans (b (o+1) _)
def Bj(w:WD)(qb n:Nat)(lv:Value)(l:List Nat)(h:rH w qb n lv l):
 CL 197 #[PT qb] w λe b=>e=RT (IV l.length)/\b=w:=by
 obtain ⟨d,f,g,-⟩:=h.cells
 obtain ⟨a,c,rfl,-⟩:=h.cK.shape
 generalize l.length=m at *
 clear h
 go_enter Tryz.func197,Tryz.ntmps197
 go_wp2
 go_ret
 exact ⟨rfl,rfl⟩
def Mg(w:WD)(qb n:Nat)(lv:Value):List Nat->Ending->WD->Prop
 |[],e,a=>e=RT (.tuple #[IV 0,.bool false])/\a=w
 |x::r,e,a=>e=RT (.tuple #[IV x,.bool true])/\xT w qb n lv r a
def Bl(w:WD)(qb n:Nat)(lv:Value)(l:List Nat)(h:rH w qb n lv l)(X:l.length<=65536):
 CL 188 #[PT qb,IV 0] w (Mg w qb n lv l):=by
 have C:=Nq (Bj w qb n lv l h)
 cases l with
 |nil=>
  go_enter Tryz.func188,Tryz.ntmps188
  go_wp2_with (go_at_call 197;refine C.o.mono ?_;rintro e w1 ⟨rfl,rfl⟩)
  go_ret2
  exact ⟨rfl,rfl⟩
 |cons x r=>
  obtain ⟨m,J⟩:=EX r.length
  have t:Hid ((x::r).length=m+1):=by show _=_;rw [Ou,J]
  have f:=Nq J
  rw [t.o]at C X
  obtain ⟨a,c,rfl,p⟩:=h.cK.shape
  obtain ⟨g,rfl,W,u⟩:=p 0 (by rw [t.o];omega)
  have P:=Nq h
  have D:Hid (Sl w 3 (SV g (m+1) c) (m+1) (bI (x::r))):=by have:=h.cK;rw [t.o]at this;exact this
  obtain ⟨F,G,-⟩:=dT D.o
  obtain ⟨c0,c1,O,U⟩:=h.cells
  rw [t.o]at O
  have cx:w.cell? (AD g 0)=some (IV x):=by rw [u];rfl
  have I:=h.lt
  have y:qb≠g:=λe=>h.ne g W e.symm
  have N:Hid (∀j,j<(aH (x::r)).length->w.cell? (AD g (0+j))=some (IV ((aH (x::r)).getD j 0))):=λj v=>by
   rw [aC]at v;rw [Od,cH v];obtain ⟨g',S,-,o⟩:=p j v;cases S
   rw [o,nF _ _ v]
  have M:Hid (∀j,j<m+1->w.frozen? (AD g (0+j))=false):=λj v=>by
   rcases D.o.2 with⟨i,_⟩|⟨b,Q,R,i,o,V,_⟩;cases i
   cases i;exact NA V (0+j)
  have A:Hid (CL 198 #[SV g (m+1) c,IV 0,IV 1] w λe L=>e=RT (SV g m c)/\Sl L 3 (SV g m c) m (bI r)/\aj (λk=>k=g) w L):=by
   have Y:(aH (x::r)).length=m+1:=by rw [aC,t.o]
   refine (Tryz.slices_Delete_int_cells g 0 (m+1) c 0 1 (aH (x::r)) w (by omega) F (by unfold maxLen at G;omega) (by omega) (by omega) N.o M.o).mono ?_;rintro e L ⟨rfl,q,rfl⟩;have K:Sl (w.drewN q) 3 (SV g (m+1) c) (m+1) (bI (x::r)):=D.o;have H:((((aH (x::r)).take (m+1)).take 0++((aH (x::r)).take (m+1)).drop 1++List.replicate (1-0) 0).map (Value.int .i64))=bI r++[IV 0]:=by have T:(aH (x::r)).take (m+1)=aH (x::r):=Oe (by omega);rw [T];show(aH r++[0]).map (Value.int .i64)=_;rw [Oy];congr 1;unfold aH bI;rw [RH];rfl
   refine ⟨rfl,?_,?_⟩;rw [H];have i:=Bw (vs:=bI r++[IV 0]) K (by simp [bW,f.o]);have o:=wS i (m:=m) (by omega);rw [List.take_left' (by rw [bW];exact f.o)]at o;exact o;have Z:aj (λk=>k=g) w (w.drewN q):=⟨rfl,rfl,rfl,Nz _,λ_ _ _=>rfl⟩;exact Z.trans (xC _ _ _ _)
  clear h J p u N M
  go_enter Tryz.func188,Tryz.ntmps188
  go_upto_region 5 with(go_at_call 197;refine C.o.mono ?_;rintro e w1 ⟨rfl,rfl⟩)
  go_wp2_with (go_at_call 198;refine A.o.mono ?_;rintro e w1 ⟨rfl,z,d⟩;have q2:=d.aq O y;have z2:=(N7 (d.block qb I y)).trans U;have E:=Nq z;have B:=Nq d;clear z d)
  go_ret2
  obtain ⟨i,o⟩:=P.o.set (l':=r) (lv':=SV g m c) (B.o.mono λk _ s=>by rw [s];rfl) (by rw [f.o];exact E.o) (λb e=>.inl e) rfl
  exact ⟨rfl,_,i,o,λb e=>.inl e⟩
def zT(w:WD)(qb n:Nat)(lv:Value)(l:List Nat)(h:rH w qb n lv l)(d:l.length<=65536):
 CL 177 #[PT qb] w (Mg w qb n lv l):=by
 have a:=Nq (Bl w qb n lv l h d)
 cases l with
 |nil=>
  go_enter Tryz.func177,Tryz.ntmps177
  go_wp2_with (go_at_call 188;refine a.o.mono ?_;rintro e w1 ⟨rfl,rfl⟩)
  go_ret2
  exact ⟨rfl,rfl⟩
 |cons x r=>
  go_enter Tryz.func177,Tryz.ntmps177
  go_wp2_with (go_at_call 188;refine a.o.mono ?_;rintro e w1 ⟨rfl,b⟩;have c:=Nq b;clear b)
  go_ret2
  exact ⟨rfl,c.o⟩
end
section
structure Zf where
 aX:Nat->Bool
 l:List Nat
def gD(n:Nat)(f:Nat->Bool):Nat:=(List.range n).countP λx=>!f x
def dr(s:Zf)(i:Nat):Zf:=if s.aX i then s else⟨up s.aX i true,s.l++[i]⟩
def nL{n i:Nat}{f:Nat->Bool}(a:i<n)(h:f i=false):gD n f=gD n (up f i true)+1:=
 lT (p:=λx=>!f x) (q:=λx=>!up f i true x) (i:=i) (by simp [h]) (by simp [aB]) (λj b=>by show(!up f i true j)=!f j;rw [an _ _ _ _ b]) _ S8 (Oq.2 a)
structure uW (w0 w:WD) (q n:Nat) (lv:Value) (s:Zf):Prop where
 cn:w.cell? (AD q 0)=some (IV n)
 cs:w.cell? (AD (q+2) 0)=some (SV (q+1) n n)
 cp:w.cell? (AD (q+4) 0)=some (PT (q+3))
 arr:Sl w 4 (SV (q+1) n n) n (bA n s.aX)
 KY:rH w (q+3) n lv s.l
 dJ:∀b,lv.ownBlock=some b->q+4<b
 aM:Below q w0 w
 cO:s.l.length+gD n s.aX<=n
section
variable {w0 w w1:WD} {q n:Nat} {lv:Value} {s:Zf}
def uW.af(h:uW w0 w q n lv s)(a:BW w w1):uW w0 w1 q n lv s:=by
 have k:∀{b i:Nat}{v:Value},CA w b i v->CA w1 b i v:=λh=>(a.cell (Nr w _ h)).trans h;have:=h.aM.size;have c:q<=w.heap.size:=by have:=Nr w _ h.cn;simp only at this;omega
 exact ⟨k h.cn,k h.cs,k h.cp,h.arr.aA (aj.aF a) (λg e s=>by have:=h.arr.lt g e;omega),h.KY.af a,h.dJ,h.aM.trans (a.mono c),h.cO⟩
def uW.seenAt(h:uW w0 w q n lv s){i:Nat}(f:i<n):w.cell? (AD (q+1) i)=some (.bool (s.aX i))/\w.frozen? (AD (q+1) i)=false:=by
 obtain ⟨a,c,e,o⟩:=h.arr.shape;cases e
 obtain ⟨g,e,-,l⟩:=o i f;cases e
 refine ⟨by rw [l,fw _ _ _ f],?_⟩;rcases h.arr.2 with⟨d,_⟩|⟨b,j,k,d,_,m,_⟩;cases d
 cases d;exact NA m i
def uW.mark(h:uW w0 w q n lv s){i:Nat}(u:i<n)(x:s.aX i=false){r:WD}(C:∀w1,w1=w.setCell (AD (q+1) i) (.bool true)->xT w1 (q+3) n lv (s.l++[i]) r):∃d,uW w0 r q n d (dr s i):=by
 obtain ⟨w1,c⟩:∃w1,w1=w.setCell (AD (q+1) i) (.bool true):=⟨_,rfl⟩;obtain ⟨d,z,f,B⟩:=C w1 c;have o:aj (λk=>k=q+1) w w1:=by rw [c];exact (aj.refl (λk=>k=q+1) w).setCell (p:=(AD (q+1) i)) (λ_=>rfl) _
 have j:∀k,k=q\/k=q+1\/k=q+2\/k=q+4->¬xU (q+3) lv k:=λk f s=>by rcases s with s|s;omega;have:=h.dJ k s;omega
 have a:∀{b i:Nat}{v:Value},b=q\/b=q+2\/b=q+4->CA w b i v->CA r b i v:=λt h=>f.aq (o.aq h (by simp only;omega)) (j _ (by simp only;omega));have l:Sl w1 4 (SV (q+1) n n) n (bA n (up s.aX i true)):=by have t:=fG h.arr;rw [<-ky n s.aX i true u];refine gQ ?_ (by simp [dU]) (dT h.arr).2.1;rw [c];simp [HC,World.setCell,Ow,t]
 have D:dr s i=⟨up s.aX i true,s.l++[i]⟩:=by unfold dr;rw [x];rfl
 have m:q<=w.heap.size:=by have:=Nr w _ h.cn;simp only at this;omega
 rw [D];refine ⟨d,a (.inl rfl) h.cn,a (.inr (.inl rfl)) h.cs,a (.inr (.inr rfl)) h.cp,l.aA f (λg e=>?_),z,λb e=>?_,h.aM.trans (((o.mono (T:=λk=>q<=k) (λk _ s=>by omega)).then f (λk A s=>?_)).af m (λk f s=>by omega)),?_⟩;cases e;exact j _ (.inr (.inl rfl))
 rcases B b e with e|e;exact h.dJ b e;have y:=Nr w _ h.cp;have:=o.size;simp only at y;omega;rcases s with s|s;omega;have:=h.dJ k s;omega;have:=h.cO;have:=nL u x;simp only [NH,Oz];omega
end
def xO(w0:WD)(q n:Nat)(s:Zf)(e:Ending)(a:WD):Prop:=e=RT (.tuple #[])/\∃lv,uW w0 a q n lv s
def yO(w0 w:WD)(q n:Nat)(lv:Value)(s:Zf)(h:uW w0 w q n lv s)(i:Nat)(g:i<n)(y:n<=65536):
 CL 175 #[IV i,PT q,PT (q+2),PT (q+4)] w (xO w0 q n (dr s i)):=by
 have x:(i:Int)<(n:Int):=by omega
 have A:=h.cn
 have B:=h.cs
 have u:=h.cp
 obtain ⟨j,C⟩:=h.seenAt g
 have b:=Nq h
 clear h
 cases a:s.aX i
 rw [a]at j
 have f:=Nq a
 have t:=nL g a
 have m:=b.o.cO
 have v:(w.setCell (AD (q+1) i) (.bool true)).cell? (AD (q+4) 0)=some (PT (q+3)):=by rw [Oc _ _ _ _ (by intro e;cases e)];exact u
 have o:Hid (∀w1,w1=w.setCell (AD (q+1) i) (.bool true)->CL 176 #[PT (q+3),IV i] w1 λe z=>e=RT (.bool true)/\xT w1 (q+3) n lv (s.l++[i]) z):=by intro w1 e;refine Bm w1 (q+3) n lv s.l i (b.o.KY.aA (w1:=w1) (R:=λk=>k=q+1) ?_ (λk c e=>?_)) (by omega) y;rw [e];exact (aj.refl (λk=>k=q+1) w).setCell (p:=(AD (q+1) i)) (λ_=>rfl) _;rcases c with c|c;omega;have:=b.o.dJ k c;omega
 clear t m a
 go_enter Tryz.func175,Tryz.ntmps175
 go_upto_region 2 with(fail)
 have d:=Nq (o.o _ rfl)
 go_wp2_with (go_at_call 176;refine d.o.mono ?_;rintro e D ⟨rfl,l⟩;have r:=Nq l;clear l)
 go_end0
 exact ⟨rfl,b.o.mark g f.o (λw1 e=>by subst e;exact r.o)⟩
 rw [a]at j
 have f:Hid (dr s i=s):=by unfold dr;rw [a];exact Nq rfl
 clear a
 go_enter Tryz.func175,Tryz.ntmps175
 go_wp2
 go_end0
 exact ⟨rfl,lv,by rw [f.o];exact b.o⟩
end
def en(s:Zf)(a:List Int):Zf:=a.foldl (λs z=>dr s z.toNat) s
def BL(s:Zf)(a:List Int)(z:Int):en s (a++[z])=dr (en s a) z.toNat:=by unfold en;rw [List.foldl_append];rfl
def nK(l:List Int)(k:Nat)(h:k<l.length):l.take (k+1)=l.take k++[l.getD k 0]:=yH l k h
structure L8 (w:WD) (c:Nat) (a:OA) (n b:Nat) (E:List (List Int)):Prop where
 bC:E.length=n
 cell:w.cell? (AD c 1)=some (.slice a n b)
 bG:Scc.eQ w a E
 inr:∀i,i<n->∀z∈E.getD i [],0<=z/\z<(n:Int)
 short:∀i,i<E.length->(E.getD i []).length<=4000000000000
def L8.af{w e:WD}{c:Nat}{a:OA}{n b:Nat}{E:List (List Int)}(h:L8 w c a n b E)(d:BW w e):L8 e c a n b E:=
 ⟨h.bC,(d.cell (Nr w _ h.cell)).trans h.cell,h.bG.af d,h.inr,h.short⟩
def CY(d w:WD)(q n:Nat)(W:Value)(s:Zf)(h:uW d w q n W s)(L:Nat)(S:OA)(U:Nat)(E:List (List Int))(l:L8 d L S n U E)(G:d.heap.size=q)(x:Nat)(M:x<n)(hn:n<=65536):
 CL 151 #[IV x,.func (.func 175) #[] #[PT q,PT (q+2),PT (q+4)],PT L] w (xO d q n (en s (E.getD x []))):=by
 have H:=Nq h
 have Z:Hid (∀i,Below q d i->L8 i L S n U E):=λi p=>l.af (by(try unfold BW);rw [G];exact p)
 have J:=Nq l.bC
 have r:=Nq l.inr
 have u:Hid ((E.getD x []).length<=4000000000000):=l.short x (by rw [l.bC];exact M)
 have HQ:=Nq G
 have ab:(x:Int)<(n:Int):=by omega
 have g1:=(Z.o w H.o.aM).cell
 obtain ⟨b,Q,T,ci,rfl,A,j⟩:=l.bG.at x (by rw [J.o];exact M)
 obtain ⟨a,c⟩:=EX (E.getD x [])
 have HR:Hid (∀z∈a,0<=z/\z<(n:Int)):=λz hz=>r.o x M z (by(try unfold BW);rw [c];exact hz)
 obtain ⟨m,F⟩:=EX a.length
 rw [c]at A j
 rw [F]at A
 have D:=Nq F
 have aa:m<=4000000000000:=by have:=u.o;rw [c,F]at this;exact this
 have R:Hid (∀i,Below q d i->CA i b (Q+x) (.slice T m ci)/\Scc.mH i T a):=λi p=>by
  have p:Below d.heap.size d i:=by rw [G];exact p
  exact ⟨(p.cell (Nr d _ A)).trans A,Scc.mH.af (w:=d) j p⟩
 have cw:=(R.o w H.o.aM).1
 rw [c]
 clear h l G c F u A j
 go_enter Tryz.func151,Tryz.ntmps151
 go_wp2
 go_loopw [13] (λv wr=>∃(k:Nat)(g:Value),k<=m/\v=IV k/\Hid (uW d wr q n g (en s (a.take k)))) (λv _=>m-(intOf v).toNat)
 exact ⟨0,W,NS _,rfl,H⟩
 clear g1 cw
 obtain ⟨k,g,hk,rfl,f⟩:=hrel
 by_cases o:k<m
 ·have V:(k:Int)<(m:Int):=by omega
  obtain ⟨b',X,rfl,c2,K,c3⟩:=(R.o wr f.o.aM).2 k (by rw [D.o];exact o);have C:a.getD k 0∈a:=by rw [Nw,Ny (by rw [D.o];exact o)];exact OR _
  obtain ⟨N,O⟩:=HR.o _ C;have y:Hid (en s (a.take (k+1))=dr (en s (a.take k)) (a.getD k 0).toNat):=by rw [nK a k (by rw [D.o];exact o),BL];exact Nq rfl
  generalize a.getD k 0=z at *;obtain ⟨t,rfl⟩:∃t:Nat,z=(t:Int):=⟨z.toNat,by omega⟩;have ht:t<n:=by omega
  have HV:Hid (CL 175 #[IV t,PT q,PT (q+2),PT (q+4)] (wr.alloc (.cells #[IV t,IV K] 66)) (xO d q n (en s (a.take (k+1))))):=by rw [y.o,Qj];exact yO d _ q n g _ (f.o.af (ag _ _)) t ht hn
  clear C N O y f;go_wp2_with (go_at_call 175;refine HV.o.mono ?_;rintro e w2 ⟨rfl,P,B⟩;have I:=Nq B;clear B);go_roundw;exact ⟨k+1,P,by omega,by go_num,I⟩;simp [intOf];omega
 ·obtain rfl:k=m:=by omega
  have Y:Hid (uW d wr q n g (en s a)):=by have:=f.o;rw [Oe (by rw [D.o];exact Nz _)]at this;exact this
  clear f;go_wp2;go_end0;exact ⟨rfl,g,Y.o⟩
section
def bJ{P:Program}{w:WD}{j:Array Oper}{f:List Oper}{o:Oper}{a:Act}{Q:Exit->Act->WD->Prop}
 (M:o.guard=none) (l c:Operand) (t:TypeId) (q:o.op=Op.makeSlice t l c)
 (e:TypeId) (i:TypeInfo) (z:Value) (b:Nat) (y:P.underlying t=some (.slice e)) (A:P.info? e=some i) (B:i.zero=some z) (D:i.size=b)
 (x v:IntKind) (L C:Int) (n:Nat) (N:a.eval l=.int x L) (J:a.eval c=.int v C) (I:L=(n:Int)) (G:C=(n:Int)) (O:i.bytes*n<=281474976710656) (u:n<=maxLen)
 (H:∀r,r=w.alloc (.cells (madeCells z.cells (n*b)) e)->r.ownsRow 0 e b (SV w.heap.size n n) n (madeCells z.cells (n*b)).toList->wpList P j Q f (a.put o.dst (SV w.heap.size n n)) r):
 wpList P j Q (o::f) a w:=by
 refine wpList_plain M λK p=>?_
 subst D
 have m:(n:Int)<=9223372036854775807:=by have h:=u;simp [maxLen]at h;omega
 have k:(i.bytes:Int)*(n:Int)<=281474976710656:=by
  have h:((i.bytes*n:Nat):Int)<=281474976710656:=by omega
  rwa [Int.natCast_mul]at h
 have d:=run_make (P:=P) w t e i z y A B x v n n (by omega) (Int.le_refl _) k m
 simp only [Qj]at d
 have g:=QR (base:=0) (e:=e) w (madeCells z.cells (n*i.size)) n (NS _) u (size_madeCells _ _)
 subst I
 subst G
 unfold Oper.wp
 simp [execOp,q,N,J,d,Result.andThen]
 exact p _ _ (H _ rfl g)
structure Ae (E:List (List Int)) (n:Nat) (F:List Nat) (Z:Nat->Prop) (s:Zf):Prop where
 src:∀x,s.aX x=true->x<n/\∃f∈F,Own.br E f x
 KY:∀x∈s.l,s.aX x=true
 G3:∀x,s.aX x=true->x∉s.l->¬Z x->∀y,gS E x y->s.aX y=true
section
variable {E:List (List Int)} {n:Nat} {F:List Nat} {Z:Nat->Prop} {s:Zf}
def oK{i x:Nat}(h:s.aX x=true):(dr s i).aX x=true:=by unfold dr;split;exact h;show up s.aX i true x=true;by_cases e:x=i;subst e;exact aB _ _ _;rw [an _ _ _ _ e];exact h
def wZ{i:Nat}:(dr s i).aX i=true:=by unfold dr;split;assumption;exact aB _ _ _
def Ae.visit(h:Ae E n F Z s){i:Nat}(k:i<n)(m:∃f∈F,Own.br E f i):Ae E n F Z (dr s i):=by
 cases j:s.aX i
 have e:dr s i=⟨up s.aX i true,s.l++[i]⟩:=by unfold dr;rw [j];rfl
 have b:∀x,s.aX x=true->up s.aX i true x=true:=λx a=>by have:=oK (i:=i) a;rw [e]at this;exact this
 rw [e];refine ⟨λx a=>?_,λx a=>?_,λx a g p y o=>?_⟩;by_cases d:x=i;subst d;exact ⟨k,m⟩;have a:up s.aX i true x=true:=a;rw [an _ _ _ _ d]at a;exact h.src x a;rcases NY.1 a with a|a;exact b x (h.KY x a);rw [Nv.1 a];exact aB _ _ _;have c:x≠i:=λe=>g (by rw [e];exact OO _ (Nv.2 rfl));have a:up s.aX i true x=true:=a;rw [an _ _ _ _ c]at a;exact b y (h.G3 x a (λl=>g (Oo _ l)) p y o);have e:dr s i=s:=by unfold dr;rw [j];rfl
 rw [e];exact h
def Ae.Ji:∀(b:List Int)(s:Zf),Ae E n F Z s->(∀z∈b,0<=z/\z<(n:Int))->(∀z∈b,∃f∈F,Own.br E f z.toNat)->Ae E n F Z (en s b)/\(∀x,s.aX x=true->(en s b).aX x=true)/\∀z∈b,(en s b).aX z.toNat=true
 |[],s,h,_,_=>⟨h,λ_ h=>h,λz g=>by cases g⟩
 |z::b,s,h,c,d=>by obtain ⟨i,e,j⟩:=Ae.Ji b (dr s z.toNat) (h.visit (by have:=c z (Ok ..);omega) (d z (Ok ..))) (λx a=>c x (Ot _ a)) (λx a=>d x (Ot _ a));refine ⟨i,λx a=>e x (oK a),λx a=>?_⟩;rcases N8.1 a with rfl|a;exact e _ wZ;exact j x a
def Ae.round(h:Ae E n F (λ_=>False) s){x:Nat}{r:List Nat}(j:s.l=x::r)(A:E.length=n)(b:∀i,i<n->∀z∈E.getD i [],0<=z/\z<(n:Int)):
 Ae E n F (λ_=>False) (en ⟨s.aX,r⟩ (E.getD x []))/\(∀y,s.aX y=true->(en ⟨s.aX,r⟩ (E.getD x [])).aX y=true)/\x<n:=by
 have u:=h.KY x (by rw [j];exact Ok ..)
 obtain ⟨a,f,q,g⟩:=h.src x u
 have p:Ae E n F (λy=>y=x) ⟨s.aX,r⟩:=⟨h.src,λy c=>h.KY y (by rw [j];exact Ot _ c),λy c l d=>h.G3 y c (by rw [j];intro k;rcases N8.1 k with e|k;exact d e;exact l k) id⟩
 obtain ⟨m,v,w⟩:=Ae.Ji (E.getD x []) _ p (b x a) (λz d=>⟨f,q,g.trans (Own.br.zn ⟨by omega,by have:=b x a z d;omega,by have:=b x a z d;rw [Int.toNat_of_nonneg this.1];exact d⟩)⟩)
 refine ⟨⟨m.src,m.KY,λy c l _ t o=>?_⟩,v,a⟩
 by_cases e:y=x
 subst e
 have:=w _ o.2.2
 rwa [Qj]at this
 exact m.G3 y c l e t o
def Ae.done(h:Ae E n F (λ_=>False) s)(g:s.l=[])(hF:∀f∈F,s.aX f=true)(x:Nat):s.aX x=true↔∃f∈F,Own.br E f x:=by constructor;exact λj=>(h.src x j).2;rintro ⟨f,e,i⟩;exact i.closed (S:=λx=>s.aX x=true) (λa b d c=>h.G3 a d (by rw [g];intro h;cases h) id b c) (hF f e)
end
def z6{n i:Nat}{s:Zf}(b:i<n):2*gD n (dr s i).aX+(dr s i).l.length<=2*gD n s.aX+s.l.length:=by
 cases a:s.aX i
 have e:dr s i=⟨up s.aX i true,s.l++[i]⟩:=by unfold dr;rw [a];rfl
 have:=nL b a;rw [e];simp only [NH,Oz];omega;have e:dr s i=s:=by unfold dr;rw [a];rfl
 rw [e];exact Nz _
def od{n:Nat}:∀(a:List Int)(s:Zf),(∀z∈a,0<=z/\z<(n:Int))->2*gD n (en s a).aX+(en s a).l.length<=2*gD n s.aX+s.l.length
 |[],s,_=>Nz _
 |z::a,s,h=>N5 (od a (dr s z.toNat) (λx b=>h x (Ot _ b))) (z6 (by have:=h z (Ok ..);omega))
end
def oV(w a:WD)(v:Value)(n:Nat)(r:Nat->Bool):Prop:=∃b,v=SV b n n/\Sl a 4 v n (bA n r)/\BW w a/\w.heap.size<=b
def E8(w:WD)(q n:Nat)(p:w.heap.size=q)(K:n<=65536)(g:WD)
 (e:((((w.alloc (.cells #[IV n] 3)).alloc (.cells (madeCells #[Value.bool false] n) 4)).alloc (.cells #[SV (q+1) n n] 67)).alloc (.cells #[.bool true,IV n,SN] 243)).alloc (.cells #[PT (q+1+1+1)] 232)=g):
 uW w g q n (SN) ⟨λ_=>false,[]⟩:=by
 obtain ⟨a,k⟩:=EX (w.alloc (.cells #[IV n] 3))
 rw [k]at e
 obtain ⟨c,l⟩:=EX (a.alloc (.cells (madeCells #[Value.bool false] n) 4))
 rw [l]at e
 obtain ⟨d,m⟩:=EX (c.alloc (.cells #[SV (q+1) n n] 67))
 rw [m]at e
 obtain ⟨f,o⟩:=EX (d.alloc (.cells #[.bool true,IV n,SN] 243))
 rw [o]at e
 have s:a.heap.size=q+1:=by rw [<-k,NG,p]
 have t:c.heap.size=q+2:=by rw [<-l,NG,s]
 have u:d.heap.size=q+3:=by rw [<-m,NG,t]
 have J:f.heap.size=q+4:=by rw [<-o,NG,u]
 have v:BW w a:=k▸ag _ _
 have x:BW a c:=l▸ag _ _
 have y:BW c d:=m▸ag _ _
 have z:BW d f:=o▸ag _ _
 have r:BW f g:=e▸ag _ _
 have A:HC a q #[IV n] 3:=by rw [<-k,<-p];exact (ND w _).1
 have B:HC c (q+1) (madeCells #[Value.bool false] n) 4:=by rw [<-l,<-s];exact (ND a _).1
 have C:HC d (q+2) #[SV (q+1) n n] 67:=by rw [<-m,<-t];exact (ND c _).1
 have D:HC f (q+3) #[.bool true,IV n,SN] 243:=by rw [<-o,<-u];exact (ND d _).1
 have E:HC g (q+4) #[PT (q+3)] 232:=by rw [<-e,<-J];exact (ND f _).1
 have j:BW d g:=aa z r
 have i:BW c g:=aa y j
 have h:BW a g:=aa x i
 have F:=(h.block q (by omega)).trans A
 have G:=(i.block (q+1) (by omega)).trans B
 have H:=(j.block (q+2) (by omega)).trans C
 have I:=(r.block (q+3) (by omega)).trans D
 refine ⟨CH F,CH H,CH E,?_,⟨I,Ox _ _ _ _⟩,λb e=>(by cases e),p▸aa v h,?_⟩
 have:=bZ (.bool false) rfl n
 refine gQ (xs:=bA n λ_=>false) ?_ (dU _ _) (by unfold maxLen;omega)
 rw [G,Scc.fH,<-this,PZ]
 rfl
 show([]:List Nat).length+gD n (λ_=>false)<=n
 unfold gD
 simp
def E9(E:List (List Int))(n:Nat)(F:List Nat):Ae E n F (λ_=>False) ⟨λ_=>false,[]⟩:=⟨λx h=>(by cases h),λx h=>(by cases h),λx h=>(by cases h)⟩
def iQ(E:List (List Int))(F:List Nat)(n:Nat)(w:WD)(e:Ending)(a:WD):Prop:=∃v r,e=RT v/\oV w a v n r/\∀x,x<n->(r x=true↔∃f∈F,Own.br E f x)
def uW.done{a w:WD}{q n:Nat}{c:Value}{s:Zf}(h:uW a w q n c s)(b:a.heap.size=q):oV a w (SV (q+1) n n) n s.aX:=
 ⟨q+1,rfl,h.arr,(by(try unfold BW);rw [b];exact h.aM),by omega⟩
def uW.take{j w i:WD}{q n:Nat}{f:Value}{s:Zf}(h:uW j w q n f s){r:List Nat}{x:Nat}(o:s.l=x::r)(m:xT w (q+3) n f r i):∃d,uW j i q n d ⟨s.aX,r⟩:=by
 obtain ⟨d,l,c,p⟩:=m;have a:∀k,k=q\/k=q+1\/k=q+2\/k=q+4->¬xU (q+3) f k:=λk c s=>by rcases s with s|s;omega;have:=h.dJ k s;omega
 have t:q+4<w.heap.size:=Nr w _ h.cp;refine ⟨d,c.aq h.cn (a _ (.inl rfl)),c.aq h.cs (a _ (.inr (.inr (.inl rfl)))),c.aq h.cp (a _ (.inr (.inr (.inr rfl)))),h.arr.aA c (λg e=>by cases e;exact a _ (.inr (.inl rfl))),l,λb e=>?_,h.aM.trans (c.af (by omega) (λk c s=>?_)),?_⟩;rcases p b e with e|e;exact h.dJ b e;omega;rcases s with s|s;omega;have:=h.dJ k s;omega;have:=h.cO;rw [o,Ou]at this;show r.length+gD n s.aX<=n;omega
def Fa(w:WD)(K:Nat)(ae:OA)(n ce:Nat)(E:List (List Int))(m:L8 w K ae n ce E)(Y:OA)(o fc:Nat)(F:List Nat)(D:aG .i64 w Y o (aH F))(hF:∀f∈F,f<n)(R:n<=65536)(ak:o<=1000000000):
 CL 150 #[IV n,.slice Y o fc,.func (.func 151) #[] #[PT K]] w (iQ E F n w):=by
 obtain ⟨i4,aa,ac,ab,Z⟩:=Ol Scc.Tryz.nV
 obtain ⟨q,O⟩:=EX w.heap.size
 have U:=Nq m
 have HF:=Nq hF
 have HQ:=Nq O
 have A:Hid (F.length=o):=by have:=D.1;rw [aC]at this;exact this
 have HR:Hid (∀d,Below q w d->aG .i64 d Y o (aH F)):=λd hb=>D.af (by(try unfold BW);rw [O];exact hb)
 have HV:Hid (∀d j s i,uW w d q n j s->i<n->CL 175 #[IV i,PT q,PT (q+2),PT (q+4)] d (xO w q n (dr s i))):=λd j s i h hi=>yO w d q n j s h i hi R
 have HB:Hid (∀d j s x,uW w d q n j s->x<n->CL 151 #[IV x,.func (.func 175) #[] #[PT q,PT (q+2),PT (q+4)],PT K] d (xO w q n (en s (E.getD x [])))):=λd j s x h hx=>CY w d q n j s h K ae ce E m O x hx R
 have HS:=Nq (E8 w q n O R)
 have HN:Hid (∀d,CL 174 #[IV n] d λe ah=>e=RT (PT d.heap.size)/\ah=d.alloc (.cells #[.bool true,IV n,SN] 243)):=λd=>Bk d n R
 clear m hF D
 go_enter Tryz.func150,Tryz.ntmps150
 go_upto_region 4 with(first|(go_at_call 174;refine (HN.o _).mono ?_;rintro e p ⟨rfl,rfl⟩)|(at_make;refine bJ rfl _ _ 67 rfl 4 i4 (.bool false) 1 P0 aa ac ab _ _ _ _ n rfl rfl rfl rfl (by rw [Z];omega) (by unfold maxLen;omega) ?_;rintro w3 rfl hs;clear hs))
 obtain ⟨w5,H⟩:=EX (((((w.alloc (.cells #[IV n] 3)).alloc (.cells (madeCells #[Value.bool false] n) 4)).alloc (.cells #[SV (q+1) n n] 67)).alloc (.cells #[.bool true,IV n,SN] 243)).alloc (.cells #[PT (q+1+1+1)] 232))
 rw [H,show q+1+1+1+1=q+4 from rfl,show q+1+1+1=q+3 from rfl,show q+1+1=q+2 from rfl]
 have J:=Nq (HS.o w5 H)
 clear HS HN H O
 go_wp2
 go_loopw [21] (λv wr=>∃(k:Nat)(j:Value)(s:Zf),k<=o/\v=IV k/\Hid (uW w wr q n j s)/\Hid (Ae E n F (λ_=>False) s)/\Hid (∀f∈F.take k,s.aX f=true)) (λv _=>o-(intOf v).toNat)
 exact ⟨0,_,_,NS _,rfl,J,Nq (E9 E n F),Nq (λf h=>by cases h)⟩
 clear J
 obtain ⟨k,j,s,hk,rfl,a,b,c⟩:=hrel
 by_cases G:k<o
 ·have aj:(k:Int)<(o:Int):=by omega
  obtain ⟨-,h0|⟨fb,fo,rfl,hc⟩⟩:=HR.o wr a.o.aM
  ·omega
  obtain ⟨f,u⟩:∃f,F[k]? =some f:=⟨_,Ny (by rw [A.o];exact G)⟩;have ck:CA wr fb (fo+k) (IV f):=by have:=hc k G;rw [cH (by rw [A.o];exact G),Nw,u]at this;exact this
  have y:=NI u;have X:=Nq (HV.o wr j s f a.o (HF.o f y));have B:=Nq (b.o.visit (HF.o f y) ⟨f,y,Own.br.refl E f⟩);have C:Hid (∀g∈F.take (k+1),(dr s f).aX g=true):=λg m=>by
   rw [OG,u]at m;rcases NY.1 m with m|m
   ·exact oK (c.o g m)
   ·rw [Nv.1 m];exact wZ
  clear hc u y a b c;go_wp2_with (go_at_call 175;refine X.o.mono ?_;rintro e p ⟨rfl,af,M⟩;have V:=Nq M;clear M);go_roundw;exact ⟨k+1,af,_,by omega,by go_num,V,B,C⟩;simp [intOf];omega
 ·obtain rfl:k=o:=by omega
  have HT:Hid (∀f∈F,s.aX f=true):=λf D=>c.o f (by rw [Oe (by rw [A.o];exact Nz _)];exact D);clear c;go_wp2;obtain ⟨wo,rfl⟩:∃wo:WD,wo=wr:=⟨_,rfl⟩;go_loopg [] (2*gD n s.aX+s.l.length) (λg wr=>∃(j:Value)(s:Zf),Hid (g=2*gD n s.aX+s.l.length)/\Hid (uW w wr q n j s)/\Hid (Ae E n F (λ_=>False) s)/\Hid (∀f∈F,s.aX f=true));exact ⟨j,s,Nq rfl,a,b,HT⟩;clear a b HT;obtain ⟨j,s,m,a,b,c⟩:=hrel;have cp:=a.o.cp;have cs:=a.o.cs;have t:=Nq (zT wr (q+3) n j s.l a.o.KY (by have:=a.o.cO;omega));cases z:s.l with
  |nil=>rw [z]at t;have I:Hid (iQ E F n w (RT (SV (q+1) n n)) wr):=⟨_,_,rfl,a.o.done HQ.o,λx _=>b.o.done z c.o x⟩;clear m a b c z;go_wp2_with (go_at_call 177;refine t.o.mono ?_;rintro e p ⟨rfl,rfl⟩);go_ret;exact I.o
  |cons x r=>
   rw [z]at t;obtain ⟨h1,h2,P⟩:=b.o.round z U.o.bC U.o.inr;have T:Hid (∀p,xT wr (q+3) n j r p->CA p (q+2) 0 (SV (q+1) n n)/\CL 151 #[IV x,.func (.func 175) #[] #[PT q,PT (q+2),PT (q+4)],PT K] p (xO w q n (en ⟨s.aX,r⟩ (E.getD x [])))):=λp Q=>by obtain ⟨ad,h⟩:=a.o.take z Q;exact ⟨h.cs,HB.o p ad _ x h P⟩
   have B:=Nq h1;have C:Hid (∀f∈F,(en ⟨s.aX,r⟩ (E.getD x [])).aX f=true):=λf D=>h2 f (c.o f D);have HM:Hid (2*gD n (en ⟨s.aX,r⟩ (E.getD x [])).aX+(en ⟨s.aX,r⟩ (E.getD x [])).l.length<gk):=by have h3:=od (n:=n) (E.getD x []) ⟨s.aX,r⟩ (U.o.inr x P);have h4:=m.o;rw [z,Ou]at h4;show _<gk;simp only at h3;omega
   clear m a b c z h1 h2;go_wp2_with (first|(go_at_call 177;refine t.o.mono ?_;rintro e p ⟨rfl,Q⟩;obtain ⟨ai,L⟩:=T.o p Q;have S:=Nq L;clear L Q)|(go_at_call 151;refine S.o.mono ?_;rintro e w3 ⟨rfl,ag,N⟩;have W:=Nq N;clear N));go_roundg (2*gD n (en ⟨s.aX,r⟩ (E.getD x [])).aX+(en ⟨s.aX,r⟩ (E.getD x [])).l.length);case measure=>exact HM.o
   case rel=>exact ⟨ag,_,Nq rfl,W,B,C⟩
structure dS (w:WD) (a:OA) (n:Nat) (E:List (List Int)):Prop where
 bC:E.length=n
 bG:Scc.eQ w a E
 inr:∀i,i<n->∀z∈E.getD i [],0<=z/\z<(n:Int)
 short:∀i,i<E.length->(E.getD i []).length<=4000000000000
 pJ:n<=65536
def dS.af{w b:WD}{a:OA}{n:Nat}{E:List (List Int)}(h:dS w a n E)(c:BW w b):dS b a n E:=⟨h.bC,h.bG.af c,h.inr,h.short,h.pJ⟩
def Fi(w:WD)(c d:Value)(a:OA)(n b:Nat)(j:n<=65536):
 CL 148 #[.agg #[c,.slice a n b,d]] w λe h=>e=RT (.bool false)/\BW w h:=by
 have i:decide ((65536:Int)<(n:Int))=false:=NX (by omega)
 have g:decide (65536<n)=false:=NX (by omega)
 have f:Hid (BW w (w.alloc (.cells #[c,.slice a n b,d] 55))):=ag _ _
 go_enter Tryz.func148,Tryz.ntmps148
 go_wp2
 go_ret
 exact ⟨rfl,f.o⟩
def yx(w:WD)(x y:Value)(i:OA)(n k:Nat)(E:List (List Int))(g:dS w i n E)(p:OA)(m C:Nat)(F:List Nat)(G:aG .i64 w p m (aH F))(hF:∀f∈F,f<n)(D:m<=1000000000):
 CL 112 #[.agg #[x,.slice i n k,y],.slice p m C] w (iQ E F n w):=by
 obtain ⟨q,H⟩:=EX w.heap.size
 obtain ⟨h,j⟩:=EX (w.alloc (.cells #[x,.slice i n k,y] 55))
 have o:BW w h:=j▸ag _ _
 have c:=bp w #[x,.slice i n k,y] 55
 rw [j,H]at c
 have M:=(c 0 _ rfl).1
 have l:=(c 1 _ rfl).1
 have N:=(c 2 _ rfl).1
 have L:=Nq (Fi h x y i n k g.pJ)
 have B:Hid (∀d,BW h d->CL 150 #[IV n,.slice p m C,.func (.func 151) #[] #[PT q]] d (iQ E F n w)):=λd u=>by have a:=aa o u;refine (Fa d q i n k E ⟨g.bC,(u.cell (Nr _ _ l)).trans l,g.bG.af a,g.inr,g.short⟩ p m C F (G.af a) hF g.pJ D).mono ?_;rintro e R ⟨v,r,rfl,⟨b,s,t,O,P⟩,Q⟩;exact ⟨v,r,rfl,⟨b,s,t,aa a O,N5 a.size P⟩,Q⟩
 have T:=g.pJ
 clear g G hF c o
 go_enter Tryz.func112,Tryz.ntmps112
 go_upto_region 1 with(fail)
 have K:Hid (∀d,BW h d->CA d q 1 (.slice i n k)):=λd u=>(u.cell (Nr _ _ l)).trans l
 go_upto_region 3 with(go_at_call 148;refine L.o.mono ?_;rintro e d ⟨rfl,a⟩;have z:=Nq (K.o d a);have A:=Nq (B.o d a);clear a)
 clear j H M l N
 have S:=z.o
 go_wp2_with (go_at_call 150;refine A.o.mono ?_;rintro e R ⟨v,r,rfl,s,t⟩;have I:=Nq s;have J:=Nq t;clear s t)
 go_ret
 exact ⟨_,r,rfl,I.o,J.o⟩
def Ij(w:WD)(c d:Value)(a:OA)(n b:Nat)(i:Nat)(h:i<n):
 CL 62 #[.agg #[c,.slice a n b,d],IV i] w λe g=>e=RT (.bool true)/\g=w.alloc (.cells #[c,.slice a n b,d] 55):=by
 have f:(i:Int)<(n:Int):=by omega
 go_enter Tryz.func62,Tryz.ntmps62
 go_wp2
 go_ret
 exact ⟨rfl,rfl⟩
def PC:=@Go.Proofs.Tryz.underlying23
def xW(w:WD)(e:Ending)(b:WD):Prop:=∃a l c,e=RT (.slice a l c)/\BW w b
def Ci(w:WD)(a:OA)(n c:Nat)(r:List Int)(h:aG .i64 w a n r)(A:n<=1000000000):CL 91 #[.slice a n c] w (xW w):=by
 cases a with
 |none=>exact (Tryz.slices_Clone_int_nil n c w).mono λe o ⟨d,f⟩=>⟨none,0,0,d,by rw [f];exact Nx _ _⟩
 |some s=>
  have i:∀k o (m:Nat) (q:List Value),World.ownsRow o w.heap.size 3 1 k m q->∃a l c,k=.slice a l c:=λk o m q h=>by rcases h.2 with⟨d,-⟩|⟨g,t,u,d,-⟩;exact ⟨none,0,0,d⟩;exact ⟨_,_,_,d⟩
  rcases OT n with rfl|B;refine (Tryz.slices_Clone_int_zero s c w).mono ?_;rintro e o ⟨k,rfl,d,-,f⟩;obtain ⟨a,l,c,rfl⟩:=i _ _ _ _ d;exact ⟨a,l,c,rfl,f⟩;obtain ⟨z,x|⟨b,p,e,v⟩⟩:=h;omega;cases e
  refine (Tryz.slices_Clone_int b p n c r w (by omega) (by omega) (λj y=>v j (by omega))).mono ?_;rintro e o ⟨k,rfl,d,-,f⟩;obtain ⟨a,l,c,rfl⟩:=i _ _ _ _ d;exact ⟨a,l,c,rfl,f⟩
def Tryz.vO:(Tryz.prog.info? 45).map (λi=>(i.zero,i.size,i.bytes))=some (some (UV 0),1,8):=by kernel_rfl
def Ch(w:WD)(a:OA)(n c:Nat)(f:List Int)(h:aG .u64 w a n f)(s:n<=1000000000):CL 129 #[.slice a n c] w (xW w):=by
 obtain ⟨b,m,p,o,k⟩:=Ol Tryz.vO;have l:=λW=>Pq (P:=Tryz.prog) W 23 45 a n c 0 0 PC;cases a with
 |none=>clear h;go_enter Tryz.func129,Tryz.ntmps129;go_wp2;go_ret;exact ⟨none,0,0,rfl,Nx _ _⟩
 |some j=>have i:=Nq h;clear h;go_enter Tryz.func129,Tryz.ntmps129;go_wp2_with (at_builtin;refine pV rfl (.tmp 5) (.tmp 6) 23 rfl .u64 45 b (UV 0) 8 PC m p o k rfl (by decide) rfl (some j) n c f rfl i.o (λe=>by cases e) (by omega) ?_;intro q r t d;have g:=Nq d;clear d);go_ret;exact ⟨_,_,_,rfl,g.o.2.1⟩
def oU(w:WD)(l:List Nat)(e:Ending)(b:WD):Prop:=∃a m c,e=RT (.slice a m c)/\aE .i64 3 w b (.slice a m c) (aH l)
def Fc(w:WD)(J K:Value)(A:OA)(n C:Nat)(D:OA)(U:Nat)(r:Nat->Bool)(P:dW w D n r)(hn:n<=65536):
 CL 61 #[.agg #[J,.slice A n C,K],.slice D n U] w (oU w ((List.range n).filter r)):=by
 obtain ⟨X,F,I,H,E⟩:=Ol Tryz.ed
 obtain ⟨j,i⟩:=EX (w.alloc (.cells #[J,.slice A n C,K] 55))
 have f:BW w j:=i▸ag _ _
 have e:=bp w #[J,.slice A n C,K] 55
 rw [i]at e
 have B:=(e 1 _ rfl).1
 have S:Hid (∀L,BW j L->dW L D n r):=λL V=>P.af (aa f V)
 have x:=Nq f
 have p:min (n:Int) (n:Int)=n:=Int.min_self _
 clear P e f
 go_enter Tryz.func61,Tryz.ntmps61
 go_upto_region 1 with(fail)
 clear i
 go_wp2
 go_loopw [5,13] (λo v wr=>∃(k:Nat)(a:OA)(m c:Nat),k<=n/\o=.slice a m c/\v=IV k/\m<=k/\Hid (aE .i64 3 j wr (.slice a m c) (aH ((List.range k).filter r)))) (λ_ v _=>n-(intOf v).toNat)
 exact ⟨0,none,0,0,NS _,rfl,rfl,Nz _,Nq (iZ _ _ _)⟩
 clear B
 obtain ⟨k,a,m,c,hk,rfl,rfl,W,u⟩:=hrel
 by_cases G:k<n
 ·have O:(k:Int)<(n:Int):=by omega
  obtain ⟨b,Y,rfl,N⟩:=S.o wr u.o.2.1;have M:=N k G;have d:(List.range (k+1)).filter r=(List.range k).filter r++(if r k then [k]else []):=by rw [OZ,OL];cases h:r k<;>simp [h]
  have t:=Nq u.o;clear N u;cases s:r k
  ·rw [s]at M d;have y:Hid ((List.range (k+1)).filter r=(List.range k).filter r):=by rw [d];exact Nq (Om _)
   clear d;go_wp2;go_roundw;exact ⟨k+1,_,m,_,by omega,rfl,by go_num,by omega,by rw [y.o];exact t⟩;simp [intOf];omega
  ·rw [s]at M d;have y:Hid (aH ((List.range (k+1)).filter r)=aH ((List.range k).filter r)++[(k:Int)]):=by rw [d,je];exact Nq rfl
   have g:=eV t.o;have R:Hid (Sl wr 3 (.slice a m c) m ((aH ((List.range k).filter r)).map (Value.int .i64))):=by have:=t.o.1;rw [g]at this;exact this
   have z:=Nq g;clear d g;go_wp2_with (at_builtin;refine ax rfl (.tmp 20) (.tmp 22) 33 rfl 3 X (IV 0) 8 OE F I H E rfl (by decide) (.slice a m c) _ _ rfl R.o _ rfl rfl (by omega) ?_;intro Z B w5 Q l q;have T:=Nq (dA t.o z.o Q l q);clear Q l q);go_roundw;exact ⟨k+1,_,m+1,B,by omega,rfl,by go_num,by omega,by rw [y.o];exact T⟩;simp [intOf];omega
 ·obtain rfl:k=n:=by omega
  clear p;go_wp2;go_ret;exact ⟨_,_,_,rfl,iJ x.o u.o⟩
section
def Tryz.qj:(Tryz.prog.info? 64).map (λi=>(i.zero,i.size,i.bytes))=some (some (SN),1,24):=by kernel_rfl
def Tryz.zw:(Tryz.prog.info? 66).map (λi=>(i.zero,i.size,i.bytes))=some (some (.agg #[IV 0,IV 0]),2,16):=by kernel_rfl
def bD:List (Int×Int)->List Value
 |[]=>[]
 |t::r=>IV t.1::IV t.2::bD r
def nU:∀l:List (Int×Int),(bD l).length=l.length*2
 |[]=>rfl
 |t::r=>by show(bD r).length+1+1=(r.length+1)*2;rw [nU r];omega
def jW(x:Int×Int):∀l:List (Int×Int),bD (l++[x])=bD l++[IV x.1,IV x.2]
 |[]=>rfl
 |t::r=>by show _::_::bD (r++[x])=_;rw [jW x r];rfl
def lU:∀(l:List (Int×Int))(j:Nat),j<l.length->(bD l)[j*2]? =some (IV ((l.map Prod.fst).getD j 0))/\∃a,(bD l)[j*2+1]? =some (IV a)
 |[],j,h=>by simp at h
 |t::r,0,_=>⟨rfl,_,rfl⟩
 |t::r,j+1,h=>by
  have c:j<r.length:=by simpa using h
  obtain ⟨d,e⟩:=lU r j c;have b:(j+1)*2=j*2+1+1:=by omega
  rw [b];exact ⟨d,e⟩
def oF{w:WD}{o:Oper}{a:Act}{K:Act->WD->Prop}{Q:Exit->Act->WD->Prop}(s x:Operand)
 (I:o.op=.call {callee:=.builtin .append,args:=#[s,x],argTypes:=#[64,64]})
 (i:TypeInfo) (z:Value) (F:Tryz.prog.info? 66=some i) (N:i.zero=some z)
 (d:i.size=2) (u:i.bytes=16) (D:z.cells.size=2)
 (v:Value) (n:Nat) (X:List (Int×Int)) (S:X.length=n) (L:a.eval s=v) (m:w.ownsRow 0 66 2 v n (bD X))
 (b:Nat) (y:Int×Int) (M:a.eval x=SV b 1 1) (A:CA w b 0 (IV y.1)) (B:CA w b 1 (IV y.2)) (t:n<=4000000000000)
 (h:∀q r,r.ownsRow 0 66 2 q (n+1) (bD (X++[y]))->aj (λk=>v.ownBlock=some k) w r->dC w v q->K (a.put o.dst q) r):aY Tryz.prog o a w K Q:=by
 constructor
 obtain ⟨q,r,J,E,f,_,l⟩:=Rp (P:=Tryz.prog) w 0 64 o.type 66 i z 2 16 Tryz.underlying64 F N d u D (by decide) v n (bD X) m (AD b 0) 1 1 [IV y.1,IV y.2] rfl (by
  intro j O c;match j,c with
  |0,c=>
   simp at c;subst c;have:((AD b 0):Addr).add 0=(AD b 0):=by simp [Addr.add]
   rw [this];exact A
  |1,c=>
   simp at c;subst c;have:((AD b 0):Addr).add 1=(AD b 1):=by simp [Addr.add]
   rw [this];exact B
  |j+2,c=>simp at c) (by intro O p;simp at p;rcases p with rfl|rfl<;>rfl) (by unfold maxLen;omega) (by omega) (NS _)
 unfold Oper.wp execOp
 simp only [I,resolve,invoke,builtin,P8,Qt,Po,PE,NQ,NZ,L,M,J]
 refine h q r (by rw [jW];exact E) ⟨f.os,f.tape,f.output,f.size,λk G H=>f.block k G (λe=>H e.symm)⟩ ?_
 rcases l with l|l
 exact .inl l
 exact .inr ⟨_,l,Nz _⟩
structure ES (w2 w:WD) (g:Nat) (V:Nat->Value) (R:Nat) (C:Nat->List (Int×Int)):Prop where
 dQ:Sl w 64 (SV g R R) R ((List.range R).map V)
 row:∀i,i<R->w.ownsRow 0 66 2 (V i) (C i).length (bD (C i))
 apart:∀i j b,i<R->j<R->(V i).ownBlock=some b->(V j).ownBlock=some b->i=j
 off:∀i,i<R->(V i).ownBlock≠some g
 dJ:w2.heap.size<=g
 jZ:∀i b,i<R->(V i).ownBlock=some b->w2.heap.size<=b
section
variable {w2 w w1:WD} {g:Nat} {V:Nat->Value} {R:Nat} {C:Nat->List (Int×Int)}
def ES.aA{S:Nat->Prop}(h:ES w2 w g V R C)(c:aj S w w1)(d:¬S g)(f:∀i b,i<R->(V i).ownBlock=some b->¬S b):ES w2 w1 g V R C:=
 {h with dQ:=Sl.aA h.dQ c (λb e=>by cases e;exact d),row:=λi a=>bm (h.row i a) c (λb e=>f i b a e)}
def ES.lt(h:ES w2 w g V R C):g<w.heap.size:=h.dQ.lt g rfl
def ES.af(h:ES w2 w g V R C)(a:BW w w1):ES w2 w1 g V R C:=
 h.aA (aj.aF a) (λe=>by have:=h.lt;omega) (λi b c e s=>by have:=dj (h.row i c) b e;omega)
def ES.at(h:ES w2 w g V R C)(i:Nat)(d:i<R):w.cell? (AD g i)=some (V i)/\w.frozen? (AD g i)=false:=by
 have b:=h.dQ;obtain ⟨a,c,e,k⟩:=b.shape;cases e
 obtain ⟨l,f,_,j⟩:=k i d;cases f
 exact ⟨by rw [j];simp [d],PH (size:=1) b i⟩
def ES.dB(h:ES w2 w g V R C){i:Nat}(t:i<R){x:Int×Int}{u:Value}(E:w1.ownsRow 0 66 2 u ((C i).length+1) (bD (C i++[x])))(z:aj (λk=>(V i).ownBlock=some k) w w1)(q:dC w (V i) u)(hw:w2.heap.size<=w.heap.size):
 ES w2 (w1.setCell (AD g i) u) g (up V i u) R (up C i (C i++[x])):=by
 have A:∀b,u.ownBlock=some b->(V i).ownBlock=some b\/w.heap.size<=b:=λb e=>by rcases q with q|⟨F,r,q⟩;rw [q]at e;exact .inl e;rw [r]at e;cases e;exact .inr q
 have y:u.ownBlock≠some g:=λe=>by rcases A g e with d|d;exact h.off i t d;have:=h.lt;omega
 have o:aj (λk=>k=g) w1 (w1.setCell (AD g i) u):=(aj.refl (λk=>k=g) w1).setCell (p:=(AD g i)) (λ_=>rfl) u
 have v:Sl w1 64 (SV g R R) R ((List.range R).map V):=Sl.aA h.dQ z (λb e f=>by cases e;exact h.off i t f)
 have a:∀j b,j<R->(up V i u j).ownBlock=some b->((V j).ownBlock=some b)\/(j=i/\w.heap.size<=b):=λj b c e=>by by_cases m:j=i;subst m;rw [aB]at e;exact (A b e).imp id (λh=>⟨rfl,h⟩);rw [an _ _ _ _ m]at e;exact .inl e
 refine ⟨?_,λj c=>?_,λj k b c l B f=>?_,λj c e=>?_,h.dJ,λj b c e=>?_⟩
 have:=(Qh v i u).1
 have e:((List.range R).map V).set i u=(List.range R).map (up V i u):=by refine PD (by simp) λj d n=>?_;simp only [Sa,Rv,Re,up];by_cases e:i=j;subst e;simp;rw [Of e,Of (λr=>e r.symm)]
 rw [e]at this
 exact this
 by_cases m:j=i
 subst m
 rw [aB,aB,NH]
 exact bm E o (λb e f=>y (by rw [e,f]))
 rw [an _ _ _ _ m,an _ _ _ _ m]
 exact bm (bm (h.row j c) z (λb e f=>m (h.apart j i b c t e f))) o (λb e f=>h.off j c (by rw [e,f]))
 rcases a j b c B with d|⟨d,D⟩
 rcases a k b l f with n|⟨n,s⟩
 exact h.apart j k b c l d n
 have:=dj (h.row j c) b d;omega
 rcases a k b l f with n|⟨n,s⟩
 have:=dj (h.row k l) b n;omega
 omega
 rcases a j g c e with d|⟨_,d⟩
 exact h.off j c d
 have:=h.lt;omega
 rcases a j b c e with d|⟨_,d⟩
 exact h.jZ j b c d
 omega
def vz(C:Nat->List (Int×Int))(R:Nat):List (List Int):=(List.range R).map λi=>(C i).map Prod.fst
def fO(C:Nat->List (Int×Int))(R:Nat):(vz C R).length=R:=by simp [vz]
def jV(C:Nat->List (Int×Int)){R i:Nat}(a:i<R):(vz C R).getD i []=(C i).map Prod.fst:=by simp [vz,Nw,a]
def ES.eB(h:ES w2 w g V R C):Scc.eQ w (some (AD g 0)) (vz C R):=by refine .inr ⟨g,0,rfl,λi a=>?_⟩;rw [fO]at a;rw [jV C a];refine ⟨V i,by rw [Od];exact (h.at i a).1,?_⟩;have c:=h.row i a;rcases c.2 with⟨e,k⟩|⟨b,f,n,e,m⟩;exact ⟨none,0,by rw [e,NU,k],.inl (by rw [NU];exact k)⟩;refine ⟨some (AD b 0),f,by rw [NU];exact e,.inr ⟨b,0,rfl,λj l=>?_⟩⟩;rw [NU]at l;rw [e]at c;obtain ⟨o,d,p⟩:=lU (C i) j l;refine ⟨?_,d,?_⟩;rw [Od,OX (size:=2) c (j*2) (by omega)];exact o;rw [Od,OX (size:=2) c (j*2+1) (by omega)];exact p
def ES.aK(a:w1.ownsRow 0 64 1 (SV w.heap.size R R) R (madeCells (SN).cells (R*1)).toList)(hw:w2.heap.size<=w.heap.size):
 ES w2 w1 w.heap.size (λ_=>SN) R (λ_=>[]):=by
 rw [bZ (SN) rfl]at a
 refine ⟨?_,λi _=>Ox _ _ _ _,λi j b _ _ e=>(by cases e),λi _ e=>(by cases e),hw,λi b _ e=>(by cases e)⟩
 have:(List.range R).map (λ_=>SN)=List.replicate R (SN):=by refine PD (by simp) λi c d=>by simp
 rw [this];exact a
end
structure HW (x0 x2:Value) (w8 w:WD) (gh g:Nat) (V:Nat->Value) (R:Nat) (C:Nat->List (Int×Int)):Prop where
 es:ES w8 w g V R C
 c0:w.cell? (AD gh 0)=some x0
 c1:w.cell? (AD gh 1)=some (SV g R R)
 c2:w.cell? (AD gh 2)=some x2
 fz:w.frozen? (AD gh 1)=false
 ne:gh≠g
 KW:∀i,i<R->(V i).ownBlock≠some gh
 aM:BW w8 w
section
variable {x0 x2:Value} {w8 w w1:WD} {gh g:Nat} {V:Nat->Value} {R:Nat} {C:Nat->List (Int×Int)}
def HW.af(h:HW x0 x2 w8 w gh g V R C)(a:BW w w1):HW x0 x2 w8 w1 gh g V R C:=
 ⟨h.es.af a,(a.cell (Nr w _ h.c0)).trans h.c0,(a.cell (Nr w _ h.c1)).trans h.c1,(a.cell (Nr w _ h.c2)).trans h.c2,(N7 (a.block gh (Nr w _ h.c2))).trans h.fz,h.ne,h.KW,h.aM.trans (a.mono h.aM.size)⟩
def HW.dB(h:HW x0 x2 w8 w gh g V R C){i:Nat}(b:i<R){x:Int×Int}{u:Value}(q:w1.ownsRow 0 66 2 u ((C i).length+1) (bD (C i++[x])))(c:aj (λk=>(V i).ownBlock=some k) w w1)(f:dC w (V i) u):
 HW x0 x2 w8 (w1.setCell (AD g i) u) gh g (up V i u) R (up C i (C i++[x])):=by
 have a:aj (λk=>k=g) w1 (w1.setCell (AD g i) u):=(aj.refl (λk=>k=g) w1).setCell (p:=(AD g i)) (λ_=>rfl) u
 have d:gh<w.heap.size:=Nr w _ h.c0
 refine ⟨h.es.dB b q c f h.aM.size,a.aq (c.aq h.c0 (h.KW i b)) h.ne,a.aq (c.aq h.c1 (h.KW i b)) h.ne,a.aq (c.aq h.c2 (h.KW i b)) h.ne,(N7 (a.block gh (NL d c.size) h.ne)).trans ((N7 (c.block gh d (h.KW i b))).trans h.fz),h.ne,λj n e=>?_,?_⟩
 by_cases l:j=i
 subst l
 rw [aB]at e
 rcases f with f|⟨r,m,f⟩
 rw [f]at e;exact h.KW j b e
 rw [m]at e;cases e;omega
 rw [an _ _ _ _ l]at e;exact h.KW j n e
 exact (h.aM.trans (c.af h.aM.size (λk o e=>by have:=h.es.jZ i k b e;omega))).setCell h.es.dJ _
def FQ{i c j:Nat}{f:OA}(h:HW x0 x2 w8 w gh g V R C)(l:i<R)(m:V i=.slice f c j)(p:(C i).length=c):w.cell? (AD g i)=some (.slice f c j)/\
 Hid (∀W,HW x0 x2 w8 W gh g V R C->W.ownsRow 0 66 2 (.slice f c j) c (bD (C i)))/\
 Hid (∀W b,HW x0 x2 w8 W gh g V R C->aj (λk=>(Value.slice f c j).ownBlock=some k) W b->b.frozen? (AD g i)=false/\b.cell? (AD g i)=some (.slice f c j)/\b.cell? (AD gh 1)=some (SV g R R)/\BW w8 b)/\
 Hid (∀W b o x,HW x0 x2 w8 W gh g V R C->b.ownsRow 0 66 2 o (c+1) (bD (C i++[x]))->aj (λk=>(Value.slice f c j).ownBlock=some k) W b->dC W (.slice f c j) o->
  HW x0 x2 w8 (b.setCell (AD g i) o) gh g (up V i o) R (up C i (C i++[x]))):=by
 refine ⟨by rw [(h.es.at i l).1,m],λW a=>?_,λW b a d=>?_,λW b o x a r d q=>?_⟩
 have:=a.es.row i l
 rwa [m,p]at this
 rw [<-m]at d
 have n:¬(V i).ownBlock=some g:=a.es.off i l
 obtain ⟨s,t⟩:=a.es.at i l
 refine ⟨(N7 (d.block g a.es.lt n)).trans t,by rw [<-m];exact d.aq s n,d.aq a.c1 (a.KW i l),a.aM.trans (d.af a.aM.size (λk u e=>by have:=a.es.jZ i k l e;omega))⟩
 rw [<-m]at d q
 rw [<-p]at r
 exact a.dB l r d q
end
end
section
def Rb:=@Go.Proofs.Tryz.underlying53
structure gA (E:List (List Int)) (n x k:Nat) (C:Nat->List (Int×Int)):Prop where
 mem:∀i,i<n->∀z:Int,z∈(C i).map Prod.fst↔∃a:Nat,z=(a:Int)/\((a<x/\(i:Int)∈E.getD a [])\/(a=x/\(i:Int)∈(E.getD x []).take k))
 bC:∀i,i<n->(C i).length<=x*16777216+k
section
variable {E:List (List Int)} {n x k:Nat} {C:Nat->List (Int×Int)}
def gA.aK(E:List (List Int))(n:Nat):gA E n 0 0 (λ_=>[]):=⟨λi b z=>⟨λh=>(by cases h),λ⟨a,_,h⟩=>by rcases h with⟨h,_⟩|⟨_,h⟩;omega;cases h⟩,λi b=>NS _⟩
def gA.dB(h:gA E n x k C){t:Nat}{g:Int}(j:k<(E.getD x []).length)(l:(E.getD x []).getD k 0=(t:Int)):gA E n x (k+1) (up C t (C t++[((x:Int),g)])):=by refine ⟨λi f z=>?_,λi f=>?_⟩;rw [nK _ k j,l];by_cases e:i=t;subst e;rw [aB,Oy,NY,h.mem i f z];constructor;rintro (⟨a,d,b|⟨b,c⟩⟩|b);exact ⟨a,d,.inl b⟩;exact ⟨a,d,.inr ⟨b,Oo _ c⟩⟩;exact ⟨x,Nv.1 b,.inr ⟨rfl,OO _ (Nv.2 rfl)⟩⟩;rintro ⟨a,d,b|⟨b,c⟩⟩;exact .inl ⟨a,d,.inl b⟩;rcases NY.1 c with c|c;exact .inl ⟨a,d,.inr ⟨b,c⟩⟩;subst b;exact .inr (Nv.2 d);rw [an _ _ _ _ e,h.mem i f z];constructor;rintro ⟨a,d,b|⟨b,c⟩⟩;exact ⟨a,d,.inl b⟩;exact ⟨a,d,.inr ⟨b,Oo _ c⟩⟩;rintro ⟨a,d,b|⟨b,c⟩⟩;exact ⟨a,d,.inl b⟩;rcases NY.1 c with c|c;exact ⟨a,d,.inr ⟨b,c⟩⟩;have:=Nv.1 c;omega;have:=h.bC i f;by_cases e:i=t;subst e;rw [aB,NH,Oz];omega;rw [an _ _ _ _ e];omega
def gA.next(h:gA E n x (E.getD x []).length C)(j:(E.getD x []).length<=16777216):gA E n (x+1) 0 C:=by
 have f:∀i,i<n->(C i).length<=(x+1)*16777216+0:=λi g=>by have c:=h.bC i g;rw [Qz];exact N5 c (Nat.add_le_add_left j _)
 refine ⟨λi g z=>?_,f⟩;rw [h.mem i g z,Q0];constructor;rintro ⟨a,d,⟨c,b⟩|⟨c,b⟩⟩;exact ⟨a,d,.inl ⟨by omega,b⟩⟩;subst c;exact ⟨a,d,.inl ⟨by omega,b⟩⟩;rintro ⟨a,d,⟨c,b⟩|⟨_,b⟩⟩;by_cases e:a=x;subst e;exact ⟨a,d,.inr ⟨rfl,b⟩⟩;exact ⟨a,d,.inl ⟨by omega,b⟩⟩;cases b
def gA.gS(h:gA E n n 0 C)(f:E.length=n)(i j:Nat):gS (vz C n) i j↔gS E j i:=by
 unfold Own.gS;rw [fO,f];constructor;rintro ⟨b,c,d⟩;rw [jV C b,h.mem i b]at d;obtain ⟨a,l,⟨g,e⟩|⟨_,e⟩⟩:=d;have:j=a:=by omega
 subst this;exact ⟨c,b,e⟩;cases e
 rintro ⟨b,c,d⟩;refine ⟨c,b,?_⟩;rw [jV C c,h.mem i c];exact ⟨j,rfl,.inl ⟨b,d⟩⟩
def gA.inr(h:gA E n n 0 C):∀i,i<n->∀z∈(vz C n).getD i [],0<=z/\z<(n:Int):=λi c z d=>by rw [jV C c,h.mem i c]at d;obtain ⟨a,f,⟨e,b⟩|⟨_,b⟩⟩:=d;omega;cases b
end
def l9{E d:List (List Int)}(h:∀i j,gS d i j↔gS E j i){x y:Nat}(f:Own.br d x y):Own.br E y x:=
 f.closed (S:=λz=>Own.br E z x) (λa b e c=>Own.br.oA ((h a b).1 c) e) (Own.br.refl E x)
def ES.Dl{w2 a:WD}{g R:Nat}(c:Sl a 64 (SV g R R) R (List.replicate R (SN)))(hw:w2.heap.size<=g):ES w2 a g (λ_=>SN) R (λ_=>[]):=by
 refine ⟨?_,λi _=>Ox _ _ _ _,λi j b _ _ e=>(by cases e),λi _ e=>(by cases e),hw,λi b _ e=>(by cases e)⟩;have:(List.range R).map (λ_=>SN)=List.replicate R (SN):=by refine PD (by simp) λi d f=>by simp
 rw [this];exact c
def HW.Dl{d w l:WD}{g a n:Nat}{x0 x2:Value}(p:Sl w 64 (SV g n n) n (List.replicate n (SN)))(y:d.heap.size<=g)(m:BW d w)(z:d.heap.size<=a)
 (h:HC w a #[SN,SN,SN] 55) (e:l=((w.setCell (AD a 0) x0).setCell (AD a 1) (SV g n n)).setCell (AD a 2) x2):
 HW x0 x2 d l a g (λ_=>SN) n (λ_=>[]):=by
 have q:CA w a 0 (SN):=CH h
 have r:CA w a 1 (SN):=CH h
 have s:CA w a 2 (SN):=CH h
 obtain ⟨t,u,v,o⟩:=bQ q r s l e
 have f:a≠g:=λc=>Rg p h (by decide) (by rw [<-c];rfl)
 have j:=(ES.Dl (w2:=d) p y).aA o (λc=>f c.symm) (λi b _ c=>by cases c)
 refine ⟨j,t,u,v,?_,f,λi _ c=>(by cases c),m.trans (o.af m.size (λk A B=>by omega))⟩
 rw [e]
 simp only [OH]
 exact NA h 1
def gL{w:WD}{e:TypeId}{b:Nat}{v:Value}{n:Nat}{f:List Value}(h:w.ownsRow 0 e b v n f):∃a l c,v=.slice a l c:=by obtain ⟨a,c,d⟩:=bw h;exact ⟨a,n,c,d⟩
def Mj(w:WD)(n:Nat)(E:List (List Int))(e:Ending)(d:WD):Prop:=
 ∃g h c f b,e=RT (.agg #[g,.slice c n f,h])/\dS d c n b/\(∀i j,gS b i j↔gS E j i)/\BW w d/\∀a,aj (λk=>k<w.heap.size) d a->dS a c n b
def tS(w:WD)(n:Nat)(E:List (List Int))(e:Ending)(c:WD):Prop:=
 ∃f g b d a,e=RT (.agg #[f,.slice b n d,g])/\dS c b n a/\(∀i j,gS a i j↔gS E j i)/\BW w c
def Gm(w:WD)(O:OA)(J U:Nat)(I:List Int)(P:OA)(M W:Nat)(L:List Int)(ae:OA)(n ce:Nat)(E:List (List Int))(hg:dS w ae n E)(hI:aG .i64 w O J I)(hL:aG .u64 w P M L)(bI:J<=1000000000)(bK:M<=1000000000)(ak:∀i,i<n->(E.getD i []).length<=16777216):
 CL 90 #[.agg #[.slice O J U,.slice ae n ce,.slice P M W]] w (Mj w n E):=by
 obtain ⟨bN,bh,bo,bm,bc⟩:=Ol Tryz.qj
 obtain ⟨bO,bi,bq,bn,bd⟩:=Ol Tryz.zw
 obtain ⟨q,hq⟩:=EX w.heap.size
 obtain ⟨m,N⟩:=EX ((w.alloc (.cells #[.slice O J U,.slice ae n ce,.slice P M W] 55)).alloc (.cells #[SN,SN,SN] 55))
 have ac:Below w.heap.size w m:=N▸aa (ag _ _) (ag _ _)
 have s1:m.heap.size=q+1+1:=by rw [<-N,NG,NG,hq]
 have aH:m.heap[q]? =some (.cells #[.slice O J U,.slice ae n ce,.slice P M W] 55 (0,0)):=by rw [<-N,<-hq,(ND _ _).2 _ (by rw [NG];omega)];exact (ND w _).1
 have bf:m.heap[q+1]? =some (.cells #[SN,SN,SN] 55 (0,0)):=by rw [<-N,<-hq,<-NG w (.cells #[.slice O J U,.slice ae n ce,.slice P M W] 55)];exact (ND _ _).1
 have am:Hid (∀j,Below m.heap.size m j->j.cell? (AD q 0)=some (.slice O J U)/\j.cell? (AD q 1)=some (.slice ae n ce)/\j.cell? (AD q 2)=some (.slice P M W)):=λj h=>by have h2:=(h.block q (Nu.1 aH).1).trans aH;exact ⟨CH h2,CH h2,CH h2⟩
 have a0:Hid (∀j,Below m.heap.size m j->CL 91 #[.slice O J U] j (xW j)):=λj F=>Ci j O J U I (hI.af (aa ac F)) bI
 have a1:Hid (∀j,Below m.heap.size m j->CL 129 #[.slice P M W] j (xW j)):=λj F=>Ch j P M W L (hL.af (aa ac F)) bK
 have HG:=Nq hg
 have a9:=Nq ak
 have bx:Hid (∀j,Below m.heap.size m j->dS j ae n E):=λj F=>hg.af (aa ac F)
 have aZ:=Nq ac
 have bu:=Nq bf
 have HQ:=Nq hq
 have a8:=Nq s1
 have hn:=hg.pJ
 have bz:Hid (∀j t,t<n->CL 62 #[.agg #[.slice O J U,.slice ae n ce,.slice P M W],IV t] j λe aw=>e=RT (.bool true)/\aw=j.alloc (.cells #[.slice O J U,.slice ae n ce,.slice P M W] 55)):=λj t ht=>Ij j _ _ ae n ce t ht
 clear hg hI hL ak ac aH bf s1
 go_enter Tryz.func90,Tryz.ntmps90
 go_upto_region 1 with(fail)
 (try rw [N])
 (try rw [hq])
 clear N hq
 obtain ⟨e0,e1,e2⟩:=am.o m (Nx _ _)
 have a5:Hid (∀W',Below m.drew.heap.size m.drew W'->W'.cell? (AD q 0)=some (.slice O J U)/\W'.cell? (AD q 1)=some (.slice ae n ce)/\W'.cell? (AD q 2)=some (.slice P M W)):=λj F=>am.o j ((Nx _ m).drew.trans F)
 refine av 12 (S:=λW'=>W'.cell? (AD q 0)=some (.slice O J U)/\W'.cell? (AD q 1)=some (.slice ae n ce)/\W'.cell? (AD q 2)=some (.slice P M W)) (by kernel_rfl) (⟨e0,e1,e2⟩) (λy=>?_)
 refine' az 0 ?_
 refine' az 1 ?_
 refine' az 3 ?_
 refine' az 4 ?_
 refine' az 6 ?_
 refine' az 7 ?_
 refine' az 8 ?_
 clear y e0 e1 e2
 refine cA [2,5,9,10,11] (λi=>if i=2 then 10 else if i=5 then 13 else if i=9 then 17 else if i=10 then 18 else 3) #[true,true,true,true,true,true,true,true,true,true,true,true,false] 1
  (λi u w=>match i with|2=>∃a l c,u=.slice a l c|5=>∃a l c,u=.slice a l c|9=>∃g,u=SV g n n/\m.heap.size<=g/\Sl w 64 (SV g n n) n (List.replicate n (SN))|10=>∃a l c Y l2 Z g,u=.agg #[.slice a l c,SV g n n,.slice Y l2 Z]/\m.heap.size<=g/\Sl w 64 (SV g n n) n (List.replicate n (SN))|_=>∃b,u=PT b/\m.heap.size<=b/\w.heap[b]? =some (.cells #[SN,SN,SN] 55 (0,0))) (by kernel_rfl) (by kernel_rfl) rfl (by decide) ?st1 ?st2 (by decide) ?st3 ?st4
 case st1=>intro i u w4 w5 hu F;split at hu;exact hu;exact hu;obtain ⟨g,e,h1,h⟩:=hu;exact ⟨g,e,h1,h.aA (aj.aF F) (λk e2 s=>by have:=h.lt k e2;omega)⟩;obtain ⟨a,l,c,Y,l2,Z,g,e,h1,h⟩:=hu;exact ⟨a,l,c,Y,l2,Z,g,e,h1,h.aA (aj.aF F) (λk e2 s=>by have:=h.lt k e2;omega)⟩;obtain ⟨b,e,h1,h⟩:=hu;exact ⟨b,e,h1,(F.block b (Nu.1 h).1).trans h⟩
 case st2=>exact a5.o
 case st3=>rintro l V j i o hl bX hi ho hr hJ K p;simp only [N8,O5,QD]at hi;rcases hi with rfl|rfl|rfl|rfl|rfl;simp only [NT,NN,NO,N0]at ho;subst ho;refine aN (R:=xW j) (f:=91) (args:=#[.slice O J U]) (a0.o j ((Nx _ m).drew.trans hJ.aM)) ?_ (λe w4 ⟨a,l,c,he,F⟩=>⟨_,he,p _ w4 F ⟨a,l,c,rfl⟩⟩);clear p;simp only [NQ,NZ,aP,Act.put,reduceIte,Nat.reduceEqDiff,NB,NR,NM];go_simp;simp only [NT,NN,NO,N0]at ho;subst ho;refine aN (R:=xW j) (f:=129) (args:=#[.slice P M W]) (a1.o j ((Nx _ m).drew.trans hJ.aM)) ?_ (λe w4 ⟨a,l,c,he,F⟩=>⟨_,he,p _ w4 F ⟨a,l,c,rfl⟩⟩);clear p;simp only [NQ,NZ,aP,Act.put,reduceIte,Nat.reduceEqDiff,NB,NR,NM];go_simp;simp only [NT,NN,NO,N0]at ho;subst ho;refine kI (.tmp 16) (.tmp 16) 53 rfl 64 bN (SN) Rb bh bo bm rfl n ?_ ?_ (by rw [bc];omega) (by unfold maxLen;omega) (λw4 hs hk=>p _ w4 (hk.af (Nz _) (λ_ _ h=>h)) ⟨_,rfl,hJ.aM.size,hs⟩);clear p;simp only [NQ,NZ,aP,Act.put,reduceIte,Nat.reduceEqDiff,NB,NR,NM];rfl;clear p;simp only [NQ,NZ,aP,Act.put,reduceIte,Nat.reduceEqDiff,NB,NR,NM];rfl;simp only [NT,NN,NO,N0]at ho;subst ho;obtain ⟨a,l,c,e2⟩:∃a l c,V 10=.slice a l c:=hJ.mS 2 (by decide) (aU (l:=[2]) (by kernel_rfl) hr 2 (by simp));obtain ⟨Y,l2,Z,e5⟩:∃a l c,V 13=.slice a l c:=hJ.mS 5 (by decide) (aU (l:=[5]) (by kernel_rfl) hr 5 (by simp));obtain ⟨g,e9,h9,k9⟩:∃g,V 17=SV g n n/\m.heap.size<=g/\Sl j 64 (SV g n n) n (List.replicate n (SN)):=hJ.mS 9 (by decide) (aU (l:=[9]) (by kernel_rfl) hr 9 (by simp));refine bT (v:=.agg #[.slice a l c,SV g n n,.slice Y l2 Z]) (w':=j) ?_ (p _ _ (Nx _ _) ⟨a,l,c,Y,l2,Z,g,rfl,h9,k9⟩);clear p;simp only [NQ,NZ,aP,Act.put,reduceIte,Nat.reduceEqDiff,NB,NR,NM];rw [e2,e5,e9];go_simp;simp only [NT,NN,NO,N0]at ho;subst ho;refine bT (v:=PT j.heap.size) (w':=j.alloc (.cells #[SN,SN,SN] 55)) ?_ (p _ _ ((Nx _ _).alloc (Nz _) _) ⟨_,rfl,hJ.aM.size,(ND j _).1⟩);clear p;simp only [NQ,NZ,aP,Act.put,reduceIte,Nat.reduceEqDiff,NB,NR,NM];go_simp
 case st4=>
  intro V j be hV;simp only [NQ,NZ,aP,Act.put,reduceIte,Nat.reduceEqDiff,NB,NR,NM];obtain ⟨a,l,c,Y,l2,Z,g,aD,T,aA⟩:=hV 10 (by decide);obtain ⟨gh,aE,D,r⟩:=hV 11 (by decide);change V 18=_ at aD;change V 3=_ at aE;rw [aD,aE];generalize V 10=b3;generalize V 13=b4;generalize V 17=b5;have ax:Below m.heap.size m j:=(Nx _ _).drew.trans be;have c0:j.cell? (AD gh 0)=some (SN):=CH r;have c1:j.cell? (AD gh 1)=some (SN):=CH r;have ao:j.cell? (AD gh 2)=some (SN):=CH r;have z0:j.frozen? (AD gh 0)=false:=NA r 0;have z1:j.frozen? (AD gh 1)=false:=NA r 1;have z2:j.frozen? (AD gh 2)=false:=NA r 2;refine aI 12 λK p=>?_;go_simp;refine p.o _ _ (λe=>nomatch e) ?_;clear p K;try walk_nrm
  refine ay (by kernel_rfl) ?_;obtain ⟨w4,aO⟩:=EX (((j.setCell (AD gh 0) (.slice a l c)).setCell (AD gh 1) (SV g n n)).setCell (AD gh 2) (.slice Y l2 Z));rw [aO];have aC:=Nq (HW.Dl (x0:=.slice a l c) (x2:=.slice Y l2 Z) aA T ax D r aO.symm);have bV:=Nq D;obtain ⟨-,f1,-⟩:=am.o w4 aC.o.aM;clear aD aE T aA D r ax c0 c1 ao z0 z1 z2 aO be hV a0 a1 a5;go_wp2;go_loopw [22] (λv wr=>∃(x:Nat)(V:Nat->Value)(C:Nat->List (Int×Int)),x<=n/\v=IV x/\Hid (HW (.slice a l c) (.slice Y l2 Z) m wr gh g V n C)/\Hid (gA E n x 0 C)) (λv _=>n-(intOf v).toNat);exact ⟨0,_,_,NS _,rfl,aC,Nq (gA.aK E n)⟩;clear aC f1;obtain ⟨x,V,C,hx,rfl,hw,hp⟩:=hrel;by_cases au:x<n
  ·have bS:(x:Int)<(n:Int):=by omega
   obtain ⟨b,aV,ai,ci,rfl,cr,aJ⟩:=(bx.o m (Nx _ _)).bG.at x (by(try unfold BW);rw [HG.o.bC];exact au);obtain ⟨al,H⟩:=EX (E.getD x []);obtain ⟨d,hd⟩:=EX al.length;have Q:=Nq H;have HD:=Nq hd;rw [H,hd]at cr;rw [H]at aJ;have HK:Hid (∀j,Below m.heap.size m j->j.cell? (AD b (aV+x))=some (.slice ai d ci)/\Scc.mH j ai al):=λj F=>⟨(F.cell (Nr _ _ cr)).trans cr,Scc.mH.af (w:=m) aJ F⟩;have bY:d<=16777216:=by have:=a9.o x au;rw [H,hd]at this;exact this
   have bH:=(HK.o wr hw.o.aM).1;clear cr aJ H hd;go_upto_region 5 with(fail);clear bH;go_wp2;go_loopw [29] (λv wr=>∃(k:Nat)(V:Nat->Value)(C:Nat->List (Int×Int)),k<=d/\v=IV k/\Hid (HW (.slice a l c) (.slice Y l2 Z) m wr gh g V n C)/\Hid (gA E n x k C)) (λv _=>d-(intOf v).toNat);exact ⟨0,V,C,NS _,rfl,hw,hp⟩;clear hw hp;obtain ⟨k,V,C,hk,rfl,hw,hp⟩:=hrel;by_cases aK:k<d
   ·have bP:(k:Int)<(d:Int):=by omega
    obtain ⟨b',bU,rfl,ck,B,bF⟩:=(HK.o wr hw.o.aM).2 k (by(try unfold BW);rw [HD.o];exact aK);obtain ⟨z,hz⟩:=EX (al.getD k 0);rw [hz]at ck;have br:z∈E.getD x []:=by rw [Q.o,<-hz,Nw,Ny (by(try unfold BW);rw [HD.o];exact aK)];exact OR _
    obtain ⟨bL,bM⟩:=HG.o.inr x au z br;obtain ⟨t,rfl⟩:∃t:Nat,z=(t:Int):=⟨z.toNat,by omega⟩;have ht:t<n:=by omega
    have b2:(t:Int)<(n:Int):=by omega
    have bA:Hid (gA E n x (k+1) (up C t (C t++[((x:Int),B)]))):=hp.o.dB (by rw [Q.o,HD.o];exact aK) (by(try unfold BW);rw [Q.o];exact hz);have aB:Hid ((C t).length<=4000000000000):=by have:=hp.o.bC t ht;show _<=_;omega
    obtain ⟨qe,bl⟩:=EX wr.heap.size;obtain ⟨wq,aS⟩:=EX (wr.alloc (.cells #[IV t,IV B] 66));have aF:Below wr.heap.size wr wq:=aS▸ag _ _;have ap:=bp wr #[IV t,IV B] 66;rw [aS,bl]at ap;have q3:=(ap 0 _ rfl).1;have q4:=(ap 1 _ rfl).1;obtain ⟨G,aR⟩:=EX (wq.alloc (.cells #[.slice O J U,.slice (some (AD b aV)) n ce,.slice P M W] 55));have aq:Below wq.heap.size wq G:=aR▸ag _ _;have ad:=aa aF aq;have ab:=Nq (hw.o.af ad);obtain ⟨f0,f1,f2⟩:=am.o wq (hw.o.af aF).aM;have r3:=(aq.cell (Nr _ _ q3)).trans q3;have r4:=(aq.cell (Nr _ _ q4)).trans q4;have a7:Hid (∀i,i<n->(V i).ownBlock≠some qe):=λi hi e=>by have:=dj (hw.o.es.row i hi) _ e;omega
    have a4:Hid (CL 62 #[.agg #[.slice O J U,.slice (some (AD b aV)) n ce,.slice P M W],IV t] wq λe aw=>e=RT (.bool true)/\aw=G):=by rw [<-aR];exact bz.o wq t ht
    have bW:=Nq ad.size;clear hz br bL bM ap aF aq ad aR hp hw;go_upto_region 9 with(go_at_call 62;refine a4.o.mono ?_;rintro e G ⟨rfl,rfl⟩);clear aS bl f0 f1 f2 q3 q4 ck bF;obtain ⟨ar,lr,cr,hv⟩:=gL (ab.o.es.row t ht);obtain ⟨aT,ah⟩:=EX ((C t).length);obtain rfl:lr=aT:=by have h1:=ab.o.es.row t ht;rw [hv]at h1;obtain ⟨_,_,e⟩:=bw h1;rw [ah]at e;exact (On e).2.1
    obtain ⟨q2,bE,bv,bD⟩:=FQ ab.o ht hv ah;have ba:Hid (¬(Value.slice ar lr cr).ownBlock=some qe):=λe=>a7.o t ht (by(try unfold BW);rw [hv];exact e);have HV:=Nq hv;rw [ah]at aB;have bR:=aB.o;have a3:=Nq ah;have q1:=ab.o.c1;clear hv ah a7 aB;refine av 16 (S:=λj=>j.cell? (AD gh 1)=some (SV g n n)/\j.cell? (AD g t)=some (.slice ar lr cr)/\j.cell? (AD qe 0)=some (IV t)/\j.cell? (AD qe 1)=some (IV B)) (by kernel_rfl) (⟨q1,q2,r3,r4⟩) (λy=>?_);refine' az 0 ?_;refine' az 1 ?_;refine' az 2 ?_;refine' az 3 ?_;refine' az 4 ?_;refine' az 5 ?_;refine' az 6 ?_;refine' az 7 ?_;refine' az 8 ?_;refine' az 9 ?_;refine' az 10 ?_;refine' az 11 ?_;refine' az 12 ?_;refine' az 13 ?_;have X:Hid (Below G.heap.size G (((G).alloc (.cells #[IV x,IV B] 66)).drew)):=((Nx _ _).alloc (Nz _) _).drew;have c5:((G).alloc (.cells #[IV x,IV B] 66)).drew.cell? (AD G.heap.size 0)=some (IV x):=OK (w:=G) _ 66 G.heap.size 0 rfl;have bb:((G).alloc (.cells #[IV x,IV B] 66)).drew.cell? (AD G.heap.size 1)=some (IV B):=OK (w:=G) _ 66 G.heap.size 1 rfl;have bs:=(X.o.cell (Nr _ _ q1)).trans q1;have bt:=(X.o.cell (Nr _ _ q2)).trans q2;have aW:=(X.o.cell (Nr _ _ r3)).trans r3;have aX:=(X.o.cell (Nr _ _ r4)).trans r4;have an:=Nq (ab.o.af X.o);refine aI 14 λK p=>?_;go_simp;refine p.o _ _ (λ_=>⟨bs,bt,aW,aX⟩) ?_;clear p K;try walk_nrm
    clear y q1 q2 r3 r4 X;generalize ((G).alloc (.cells #[IV x,IV B] 66)).drew=b6 at *;(try unfold BW at *);generalize G.heap.size=h5 at *;refine aI 15 λK p=>?_;rw [Oa (by rfl)];apply aY.o;refine oF (.tmp 46) (.tmp 51) rfl bO _ bi bq bn bd rfl (.slice ar lr cr) lr (C t) a3.o rfl (bE.o _ an.o) h5 ((x:Int),B) rfl c5 bb (by omega) (λv6 w6 aL af bk=>?_);obtain ⟨f6,q2,q1,b0⟩:=bv.o _ _ an.o af;have r3:=af.aq aW (λe=>ba.o e);have r4:=af.aq aX (λe=>ba.o e);have bB:=Nq (bD.o _ _ _ _ an.o aL af bk);obtain ⟨a6,l6,c6,e6⟩:∃a l c,v6=.slice a l c:=gL aL;clear aL bk af bs bt aW aX c5 bb an;subst e6;have y:=And.intro q1 (And.intro q2 (And.intro r3 r4));refine p.o _ _ (λ_=>y) ?_;clear p K;try walk_nrm
    refine aI 16 λK p=>?_;go_simp;refine p.o _ _ (λe=>nomatch e) ?_;clear p K;try walk_nrm
    refine aI 17 λK p=>?_;go_simp;refine p.o _ _ (λe=>nomatch e) ?_;clear p K;try walk_nrm
    refine ay (by kernel_rfl) ?_;go_wp2;go_roundw;exact ⟨k+1,_,_,by omega,by go_num,bB,bA⟩;simp [intOf];omega
   ·obtain rfl:k=d:=by omega
    have bC:Hid (gA E n (x+1) 0 C):=by have h1:=hp.o;rw [<-HD.o,<-Q.o]at h1;exact h1.next (a9.o x au)
    clear hp;go_wp2;go_roundw;exact ⟨x+1,_,_,by omega,by go_num,hw,bC⟩;simp [intOf];omega
  ·obtain rfl:x=n:=by omega
   have o0:=hw.o.c0;have o1:=hw.o.c1;have o2:=hw.o.c2;have A:wr.heap[q+1]? =some (.cells #[SN,SN,SN] 55 (0,0)):=(hw.o.aM.block _ (by have:=a8.o;omega)).trans bu.o;have c0:wr.cell? (AD (q+1) 0)=some (SN):=CH A;have c1:wr.cell? (AD (q+1) 1)=some (SN):=CH A;have ao:wr.cell? (AD (q+1) 2)=some (SN):=CH A;have z0:wr.frozen? (AD (q+1) 0)=false:=NA A 0;have z1:wr.frozen? (AD (q+1) 1)=false:=NA A 1;have z2:wr.frozen? (AD (q+1) 2)=false:=NA A 2;clear A;go_wp2;(try simp only [Exit.inBlock,Exit.then]);obtain ⟨w9,aQ⟩:=EX (((wr.setCell (AD (q+1) 0) (.slice a l c)).setCell (AD (q+1) 1) (SV g x x)).setCell (AD (q+1) 2) (.slice Y l2 Z));rw [aQ];obtain ⟨d0,d1,d2,bj⟩:=bQ c0 c1 ao w9 aQ.symm;clear aQ c0 c1 ao z0 z1 z2 o0 o1 o2;refine OS (v:=.agg #[.slice a l c,SV g x x,.slice Y l2 Z]) ?_ rfl ?_;rw [cP rfl];go_simp;have bZ:m.heap.size<=g:=hw.o.es.dJ;have b1:=a8.o;have bg:=hw.o.es.aA bj (λe=>by omega) (λi b hi e s=>by have:=hw.o.es.jZ i b hi e;omega);have ak:∀i,i<(vz C x).length->((vz C x).getD i []).length<=4000000000000:=λi hi=>by rw [fO]at hi;rw [jV C hi,NU];have:=hp.o.bC i hi;omega
   have N:=aZ.o.size;refine ⟨_,_,_,_,vz C x,rfl,⟨fO C x,bg.eB,hp.o.inr,ak,hn⟩,hp.o.gS HG.o.bC,?_,λaw bJ=>⟨fO C x,(bg.aA bJ (λe=>by omega) (λi b hi e s=>by have:=hw.o.es.jZ i b hi e;omega)).eB,hp.o.inr,ak,hn⟩⟩;have hB:=aa aZ.o hw.o.aM;exact hB.trans (bj.af hB.size (λk hk e=>by have:=HQ.o;omega))
def Jc(w:WD)(l:OA)(a p:Nat)(I:List Int)(m:OA)(b q:Nat)(L:List Int)(c:OA)(n o:Nat)(E:List (List Int))(A:dS w c n E)(y:aG .i64 w l a I)(z:aG .u64 w m b L)(g:a<=1000000000)(h:b<=1000000000)(j:∀i,i<n->(E.getD i []).length<=16777216):
 CL 90 #[.agg #[.slice l a p,.slice c n o,.slice m b q]] w (tS w n E):=by
 refine (Gm w l a p I m b q L c n o E A y z g h j).mono ?_
 rintro e F ⟨B,D,d,f,r,s,t,u,v,-⟩
 exact ⟨B,D,d,f,r,s,t,u,v⟩
end
def yU(E:List (List Int))(n:Nat)(r:Nat->Bool)(w:WD)(e:Ending)(b:WD):Prop:=
 ∃v a,e=RT v/\oV w b v n a/\∀x,x<n->(a x=true↔∃y,y<n/\r y=true/\Own.br E x y)
def G0(w:WD)(t:OA)(m C:Nat)(I:List Int)(u:OA)(o D:Nat)(L:List Int)(l:OA)(n p:Nat)(E:List (List Int))(hg:dS w l n E)(hI:aG .i64 w t m I)(hL:aG .u64 w u o L)(aj:m<=1000000000)(ak:o<=1000000000)(ac:∀i,i<n->(E.getD i []).length<=16777216)
 (ga:OA) (gc:Nat) (r:Nat->Bool) (hr:dW w ga n r):
 CL 85 #[.agg #[.slice t m C,.slice l n p,.slice u o D],.slice ga n gc] w (yU E n r w):=by
 obtain ⟨q,hq⟩:=EX w.heap.size
 obtain ⟨g,s⟩:=EX (w.alloc (.cells #[.slice t m C,.slice l n p,.slice u o D] 55))
 have W:BW w g:=s▸ag _ _
 have k:=bp w #[.slice t m C,.slice l n p,.slice u o D] 55
 rw [s,hq]at k
 have e0:=(k 0 _ rfl).1
 have e1:=(k 1 _ rfl).1
 have e2:=(k 2 _ rfl).1
 have hn:=hg.pJ
 have HQ:Hid (∀A,Below g.drew.heap.size g.drew A->CA A q 0 (.slice t m C)/\CA A q 1 (.slice l n p)/\CA A q 2 (.slice u o D)):=λN V=>⟨(V.cell (Nr _ _ e0)).trans e0,(V.cell (Nr _ _ e1)).trans e1,(V.cell (Nr _ _ e2)).trans e2⟩
 have c:BW w g.drew:=W.drew
 have HT:Hid (CL 90 #[.agg #[.slice t m C,.slice l n p,.slice u o D]] g.drew (tS g.drew n E)):=Jc g.drew t m C I u o D L l n p E (hg.af c) (hI.af c) (hL.af c) aj ak ac
 have R:Hid (∀N,Below g.drew.heap.size g.drew N->CL 61 #[.agg #[.slice t m C,.slice l n p,.slice u o D],.slice ga n gc] N (oU N ((List.range n).filter r))):=λN V=>Fc N _ _ l n p ga gc r (hr.af (aa c V)) hn
 have ad:=Nq c
 clear hg hI hL ac hr k W c
 go_enter Tryz.func85,Tryz.ntmps85
 go_upto_region 1 with(fail)
 (try rw [s])
 (try rw [hq])
 clear s hq
 refine av 5 (S:=λA=>CA A q 0 (.slice t m C)/\CA A q 1 (.slice l n p)/\CA A q 2 (.slice u o D)) (by kernel_rfl) (⟨e0,e1,e2⟩) (λG=>?_)
 refine' az 0 ?_ [1,0]
 refine' az 2 ?_ [4,2]
 refine' az 3 ?_ [4,3]
 clear G e0 e1 e2
 refine aI 1 λK d=>?_
 rw [Oa (by rfl)]
 apply aY.o
 refine aN (f:=90) HT.o ?_ (λe w2 a=>?_)
 clear d
 go_simp
 obtain ⟨vi,vl,T,U,E',rfl,X,B,H⟩:=a
 have Q:=Nq X
 have z:=Nq B
 have F:=Nq H
 refine ⟨_,rfl,?_⟩
 refine d.o _ _ (λ_=>HQ.o w2 H) ?_
 clear d K X B H
 try walk_nrm
 refine aI 4 λK d=>?_
 rw [Oa (by rfl)]
 apply aY.o
 refine aN (f:=61) (R.o w2 F.o) ?_ (λe O a=>?_)
 clear d
 go_simp
 obtain ⟨fa,fl,fc,rfl,Y⟩:=a
 have J:Below g.drew.heap.size g.drew O:=aa F.o Y.2.1
 have M:=eV Y
 rw [aC]at M
 have ai:fl<=n:=by rw [<-M];have:=OD r (List.range n);rwa [OQ]at this
 have HR:Hid (CL 112 #[.agg #[vi,.slice T n U,vl],.slice fa fl fc] O (iQ E' ((List.range n).filter r) n O)):=
  yx O vi vl T n U E' (Q.o.af Y.2.1) fa fl fc _ (cN Y) (λf hf=>Oq.1 (Og.1 hf).1) (by omega)
 have P:Hid (BW w O):=aa ad.o J
 refine ⟨_,rfl,?_⟩
 refine d.o _ _ (λ_=>HQ.o O J) ?_
 clear d K Y J M ai HT R HQ Q F
 try walk_nrm
 refine aI 5 λK d=>?_
 rw [Oa (by rfl)]
 apply aY.o
 refine aN (f:=112) HR.o ?_ (λe w4 a=>?_)
 clear d
 go_simp
 obtain ⟨v,r',rfl,Z,ab⟩:=a
 have af:=Nq Z
 have ah:=Nq ab
 refine ⟨_,rfl,?_⟩
 refine d.o _ _ (λe=>nomatch e) ?_
 clear d K Z ab HR
 try walk_nrm
 refine aI 6 λK d=>?_
 go_simp
 refine d.o _ _ (λe=>nomatch e) ?_
 clear d K
 try walk_nrm
 refine ay (by kernel_rfl) ?_
 go_wp2
 go_ret
 obtain ⟨b,h1,h2,h3,h4⟩:=af.o
 refine ⟨v,r',rfl,⟨b,h1,h2,aa P.o h3,N5 P.o.size h4⟩,λx hx=>?_⟩
 rw [ah.o x hx]
 constructor
 rintro ⟨f,hf,h⟩
 obtain ⟨k1,k2⟩:=Og.1 hf
 exact ⟨f,Oq.1 k1,k2,l9 z.o h⟩
 rintro ⟨y,hy,k1,k2⟩
 exact ⟨y,Og.2 ⟨Oq.2 hy,k1⟩,l9 (λi j=>(z.o j i).symm) k2⟩
end Go.Proofs.YtimniinkpipnmaaGreatDoor
namespace Go.Own
open Go.RowKit
def Ql:=@Go.World.putObj_heap_other
def Q8:=@Go.callsIn_wide
def Ro:=@Go.World.putObj_heap_same
def RF:=@Go.World.alloc_heap_new
def Sh:=@Go.wpIn_wide
def Tl:=@Go.World.size_alloc
def KP(P:Program)(n:Nat)(o:Array Value)(w:WD){α:Type}(d:α->Array Value)(h:α->WD->Prop)(m:Nat->Prop)(g:List α->Prop):Prop:=
 ∀(l:Nat)(J:List α->(Nat->Prop)->WD->Prop)(f:WD->Prop)(W:WD),BW w W->w.heap.size<=l->l<W.heap.size->
  (∀a S A B,J a S A->BW A B->J a S B)->(∀A B,f A->BW A B->f B)->(∀a S A,J a S A->∀k,S k->k<A.heap.size)->
  (∀a S x c,J a S c->h x c->YieldAt Fence.wide 0 P l (d x) c λe b=>(e=RT (.bool true)/\∃i,J (a++[x]) i b/\aj (λk=>k=l\/S k) c b/\∀k,i k->S k\/c.heap.size<=k)\/(e=RT (.bool false)/\f b))->
  J [] m W->Calls P n (#[.func (.yield l) #[] #[]]++o) W λe b=>(∃v,e=RT v)/\((∃j S,g j/\J j S b)\/f b)
def pH{α:Type}(I:List α->(Nat->Prop)->WD->Prop)(c:WD->Prop)(S:Nat->Prop)(d:List α)(W:WD):Exit->Act->WD->Prop
 | .normal,_,a=>∃b,I d b a/\aj S W a/\∀k,b k->S k\/W.heap.size<=k
 | .ret,_,a=>aj S W a/\c a
 |_,_,_=>False
def dq(W:WD)(l:Nat)(o:Obj):aj (λk=>k=l) W (W.putObj l o):=by have h:=grownBy_putObj' W l o;exact ⟨h.os,h.tape,h.output,h.size,λk a b=>h.block k a (λe=>b (by cases e;rfl))⟩
def Ac{α:Type}{P:Program}{g:Operand}{ps:Array Tmp}{assign body:Code}{Q:Exit->Act->WD->Prop}{a:Act}{w:WD}
 {gf:Nat} {lb:Array Value} (hg:a.eval g=.func (.func gf) #[] lb) (eg:∀args w,(callFunc gf args).run P w=.ok (.enter gf args) w)
 {i:α->Array Value} {H:α->WD->Prop} {S0:Nat->Prop} {ag:List α->Prop} (ar:KP P gf lb w i H S0 ag) (ax:∀x,(i x).size=ps.size)
 (I:List α->(Nat->Prop)->WD->Prop) (Ix:WD->Prop)
 (hI:∀c S A B,I c S A->aj (λk=>w.heap.size<=k/\∃o,A.heap[k]? =some o/\o.isCells=false) A B->I c S B)
 (V:∀A B,Ix A->aj (λk=>w.heap.size<=k/\∃o,A.heap[k]? =some o/\o.isCells=false) A B->Ix B)
 (O:∀c S A,I c S A->∀k,S k->∃o,A.heap[k]? =some o/\o.isCells=true)
 (ak:∀x A B,H x A->aj (λk=>∃o,A.heap[k]? =some o/\o.isCells=false) A B->H x B)
 (h0:I [] S0 w) (a₁:α->Act)
 (y:∀(l:Nat)(x:α)(W:WD)(K:Act->WD->Prop),K (a₁ x) W->assign.wpIn (Fence.wide.inRound l) 0 P (Exit.then K (λ_ _ _=>False)) {tmps:=(ps.zip (i x)).foldl (λt (p,v)=>t.setIfInBounds p v) a.tmps,defers:=[]} W)
 (X:∀(l:Nat)(c:List α)(S:Nat->Prop)(x:α)(W:WD),w.heap.size<=l->I c S W->H x W->body.wpIn (Fence.wide.inRound l) 0 P (pH I Ix S (c++[x]) W) (a₁ x) W)
 (Y:∀(D:Nat)(xs:List α)(S:Nat->Prop)(W:WD),w.heap.size<=D->ag xs->I xs S W->W.heap[D]? =some (.deferred (some []))->Q .normal {a with defers:={target:=.collected D,args:=#[]}::a.defers} W)
 (af:∀(D:Nat)(W:WD),w.heap.size<=D->Ix W->W.heap[D]? =some (.deferred (some []))->Q .ret {a with defers:={target:=.collected D,args:=#[]}::a.defers} W):
 (Code.rangeFunc g ps assign body).wp P Q a w:=by
 refine (Sh (n:=0)).1 (wpIn_rangeFunc λfn aq=>?_)
 obtain ⟨d,b⟩:∃d:LoopState->Option Code->Loop,d=λst pe=>{state:=st,pending:=pe,fn:=fn,tmps:=a.tmps,params:=ps,assign:=assign,body:=body,defers:=w.heap.size}:=⟨_,rfl⟩
 obtain ⟨D,hD⟩:=EX w.heap.size
 obtain ⟨C,L⟩:=EX ((w.alloc (.deferred (some []))).alloc (.loop (d .ready none)))
 have al:BW w C:=by rw [<-L];exact ((Below.refl _ w).alloc (Nz _) _).alloc (by simp) _
 have ai:C.heap[D+1]? =some (.loop (d .ready none)):=by rw [<-L,<-hD];have:=RF (w.alloc (.deferred (some []))) (.loop (d .ready none));rwa [Tl]at this
 have ao:C.heap[D]? =some (.deferred (some [])):=by rw [<-L,<-hD];exact (Below.heap_alloc _ _ _ (by simp)).trans (RF w _)
 let J:List α->(Nat->Prop)->WD->Prop:=λc S W=>I c S W/\W.heap[D+1]? =some (.loop (d .ready none))/\W.heap[D]? =some (.deferred (some []))
 let Jx:WD->Prop:=λW=>Ix W/\W.heap[D+1]? =some (.loop (d .done (some .ret)))/\W.heap[D]? =some (.deferred (some []))
 have bk:∀{A B:WD}{k:Nat}{o:Obj},BW A B->A.heap[k]? =some o->B.heap[k]? =some o:=λz h=>(z.block _ (Nu.1 h).1).trans h
 have kb:∀{A B:WD}(T:Nat->Prop),BW A B->aj T A B:=λT z=>(aj.aF z).mono λk F s=>absurd F (by omega)
 have an:J [] S0 C:=⟨hI _ _ _ _ h0 (kb _ al),ai,ao⟩
 have j:∀(W:WD)(o:Loop)(o':Obj),W.heap[D+1]? =some (.loop o)->aj (λk=>w.heap.size<=k/\∃o,W.heap[k]? =some o/\o.isCells=false) W (W.putObj (D+1) o'):=λW o o' h=>
  (dq W (D+1) o').mono λk _ e=>by subst e;exact ⟨by omega,_,h,rfl⟩
 have am:∀{c:List α}{S:Nat->Prop}{W:WD}{k:Nat}{o:Obj},I c S W->W.heap[k]? =some o->o.isCells=false->¬S k:=λZ F ho s=>by obtain ⟨o',N,h2⟩:=O _ _ _ Z _ s;rw [F]at N;cases N;rw [ho]at h2;cases h2
 refine ⟨D+1,[{target:=.collected D,args:=#[]}],C,{target:=.fn (.func gf) lb,args:=#[.func (.yield (D+1)) #[] #[]]},C,gf,#[.func (.yield (D+1)) #[] #[]]++lb,C,?_,?_,λ_ _=>trivial,?_,λh=>(by cases h),?_⟩
 rw [<-L,b,<-hD];exact run_enterLoop_outer _ _ _ _ _
 simp only [resolve,hg]
 simp [go_sem]
 simp [invoke,go_sem,eg]
 refine Q8.2 ((ar (D+1) J Jx C al (by omega) (Nu.1 ai).1 ?_ ?_ ?_ ?_ an).mono ?_)
 exact λc S A B h z=>⟨hI _ _ _ _ h.1 (kb _ z),bk z h.2.1,bk z h.2.2⟩
 exact λA B h z=>⟨V _ _ h.1 (kb _ z),bk z h.2.1,bk z h.2.2⟩
 exact λc S A h k s=>by obtain ⟨o,N,-⟩:=O _ _ _ h.1 k s;exact (Nu.1 N).1
 rintro c S x W ⟨Z,G,F⟩ ay
 have av:D+1<W.heap.size:=(Nu.1 G).1
 have hy:=run_yield (P:=P) (args:=i x) G (by rw [b];exact ax x)
 rw [b]at hy
 refine ⟨fn,_,assign,body,hy,roundIn_of_wpIn aq (y _ x W _ ?_)⟩
 clear hy
 refine ⟨_,run_beginRound G (by rw [b]),?_⟩
 obtain ⟨m,u⟩:=EX (W.putObj (D+1) (.loop {d .ready none with state:=.busy}))
 rw [u]
 have R:aj (λk=>w.heap.size<=k/\∃o,W.heap[k]? =some o/\o.isCells=false) W m:=by rw [<-u];exact j W _ _ G
 have U:aj (λk=>k=D+1) W m:=by rw [<-u];exact dq _ _ _
 have ad:m.heap[D+1]? =some (.loop {d .ready none with state:=.busy}):=by rw [<-u];exact Ro av
 have ac:m.heap[D]? =some (.deferred (some [])):=(U.block D (Nu.1 F).1 (by omega)).trans F
 have aa:=hI _ _ _ _ Z R
 have aw:=ak _ _ _ ay (R.mono λk _ h=>h.2)
 have az:m.heap.size=W.heap.size:=by rw [<-u];simp [World.putObj]
 refine wpIn_mono (X (D+1) c S x m (by omega) aa aw) ?_
 have ah:∀(f:Option Code)(q:WD),aj S m q->∃E,(Instr.endRound (D+1) f).run P q=.ok (.bool f.isNone) E/\E.heap[D+1]? =some (.loop (d (if f.isNone then .ready else .done) f))/\E.heap[D]? =some (.deferred (some []))/\
  aj (λk=>w.heap.size<=k/\∃o,q.heap[k]? =some o/\o.isCells=false) q E/\aj (λk=>k=D+1) q E/\q.heap.size<=E.heap.size:=λf q h3=>by
  have ae:=(h3.block (D+1) (Nu.1 ad).1 (am aa ad rfl)).trans ad
  have au:=(h3.block D (Nu.1 ac).1 (am aa ac rfl)).trans ac
  have r:=run_endRound (P:=P) f ae
  rw [b]at r
  refine ⟨_,r,?_,?_,j q _ _ ae,dq _ _ _,(dq q (D+1) _).size⟩
  rw [b];exact Ro (Nu.1 ae).1
  exact (Ql (by omega)).trans au
 rintro e a3 q hp
 cases e with
 |normal=>
  obtain ⟨S',ab,M,ap⟩:=hp
  obtain ⟨E,r,N,h2,h3,h4,h5⟩:=ah none q M
  refine ⟨_,E,r,.inl ⟨rfl,S',⟨hI _ _ _ _ ab h3,N,h2⟩,?_,λk s=>?_⟩⟩
  exact ((U.mono (T:=λk=>k=D+1\/S k) λk _ e=>.inl e).then M (λk _ s=>.inr s)).then h4 (λk _ e=>.inl e)
  rcases ap k s with h|h
  exact .inl h
  exact .inr (by omega)
 |ret=>
  obtain ⟨M,ab⟩:=hp
  obtain ⟨E,r,N,h2,h3,h4,h5⟩:=ah (some .ret) q M
  exact ⟨_,E,r,.inr ⟨rfl,V _ _ ab h3,N,h2⟩⟩
 |exit id=>exact hp.elim
 |goto t=>exact hp.elim
 |panic ch=>exact hp.elim
 |outgrown=>exact hp.elim
 rintro e m ⟨⟨v,rfl⟩,(⟨xs,S,hS,Z,G,F⟩|⟨Z,G,F⟩)⟩
 have r:=run_endLoop (P:=P) G (by rw [b];simp)
 rw [b]at r
 exact ⟨none,_,r,Y D xs S _ (by omega) hS (hI _ _ _ _ Z (j m _ _ G)) ((Ql (by omega)).trans F)⟩
 have r:=run_endLoop (P:=P) G (by rw [b];simp)
 rw [b]at r
 refine ⟨some .ret,_,r,?_⟩
 exact wpIn_ret (af D _ (by omega) (V _ _ Z (j m _ _ G)) ((Ql (by omega)).trans F))
end Go.Own
namespace Go.Proofs.YtimniinkpipnmaaGreatDoor
open Go.RowKit Go.Own
section
structure PV (w:WD) (v:Value) (V:Nat->Value) (R:Nat) (X:Nat->List Int):Prop where
 dQ:Sl w 33 v R ((List.range R).map V)
 row:∀i,i<R->Sl w 3 (V i) (X i).length ((X i).map (Value.int .i64))
def Mf(v:Value)(V:Nat->Value)(R k:Nat):Prop:=v.ownBlock=some k\/∃i,i<R/\(V i).ownBlock=some k
section
variable {w w1:WD} {v:Value} {V:Nat->Value} {R:Nat} {X:Nat->List Int}
def PV.aA{T:Nat->Prop}(h:PV w v V R X)(c:aj T w w1)(a:∀k,Mf v V R k->¬T k):PV w1 v V R X:=
 ⟨h.dQ.aA c (λg e=>a g (.inl e)),λi b=>(h.row i b).aA c (λg e=>a g (.inr ⟨i,b,e⟩))⟩
def PV.eE(h:PV w v V R X):∀k,Mf v V R k->k<w.heap.size:=λk a=>by rcases a with a|⟨i,b,a⟩;exact h.dQ.lt k a;exact (h.row i b).lt k a
def PV.af(h:PV w v V R X)(a:BW w w1):PV w1 v V R X:=h.aA (aj.aF a) (λk s b=>by have:=h.eE k s;omega)
def PV.at{a:OA}{c:Nat}(h:PV w (.slice a R c) V R X){i:Nat}(f:i<R):∃g,a=some (AD g 0)/\w.cell? (AD g i)=some (V i)/\∃b k,V i=.slice b (X i).length k/\aG .i64 w b (X i).length (X i):=by
 obtain ⟨y,z,e,u⟩:=h.dQ.shape;obtain ⟨g,p,-,s⟩:=u i f;cases e
 refine ⟨g,p,by rw [s];simp [f],?_⟩;have x:=h.row i f;obtain ⟨b,k,q,n⟩:=x.shape;refine ⟨b,k,q,rfl,?_⟩;rcases OT (X i).length with d|d;exact .inl d;obtain ⟨r,l,-,-⟩:=n 0 d;refine .inr ⟨r,0,l,λj o=>?_⟩;obtain ⟨A,m,-,t⟩:=n j o;rw [l]at m;cases m;rw [Od,t];simp [Nw,o]
end
structure xS (b:WD) (c:OA) (n:Nat) (E:List (List Int)) (na:OA) (a:Nat->Nat):Prop where
 gr:dS b c n E
 aT:aG .u64 b na n (aH ((List.range n).map a))
 lt:∀i,i<n->a i<2^64
 ML:∀i,i<n->(E.getD i []).length<=16777216
def xS.af{a w:WD}{c:OA}{n:Nat}{E:List (List Int)}{e:OA}{b:Nat->Nat}(h:xS a c n E e b)(d:BW a w):xS w c n E e b:=⟨h.gr.af d,h.aT.af d,h.lt,h.ML⟩
def Ju(E:List (List Int))(b:Nat->Nat)(S n R:Nat)(x:Nat×Value)(W:WD):Prop:=
 x.1<R/\kC E b S n x.1=true/\∃a m c,x.2=.slice a m c/\aG .i64 W a m (aH (qt E n x.1))
def Dx(E:List (List Int))(a:Nat->Nat)(S n R:Nat)(b:List (Nat×Value)):Prop:=b.map Prod.fst=(List.range R).filter (kC E a S n)
def Ie(l:List Nat):aH l=l.map λ(v:Nat)=>(v:Int):=rfl
structure GI (c W:WD) (b a R:Nat) (v:Value) (V:Nat->Value) (X:Nat->List Int) (w:WD) (T:Nat->Prop):Prop where
 aM:Below b c w
 box:w.heap[a]? =W.heap[a]?
 pv:PV w v V R X
 off:∀k,T k->b<=k/\k≠a/\¬Mf v V R k
def GI.af{d W:WD}{c a R:Nat}{v:Value}{V:Nat->Value}{X:Nat->List Int}{w w1:WD}{T:Nat->Prop}(h:GI d W c a R v V X w T)(e:c<=w.heap.size)(f:a<w.heap.size)(b:BW w w1):GI d W c a R v V X w1 T:=
 ⟨h.aM.trans (b.mono e),(b.block a f).trans h.box,h.pv.af b,h.off⟩
def GI.round{g W:WD}{c b R l:Nat}{v:Value}{V:Nat->Value}{X:Nat->List Int}{w w1:WD}{T f:Nat->Prop}(h:GI g W c b R v V X w T)(j:c<=w.heap.size)(m:b<w.heap.size)(n:c<=l)(d:b≠l)(e:¬Mf v V R l)
 (a:aj (λk=>k=l\/T k) w w1) (i:∀k,f k->T k\/w.heap.size<=k):GI g W c b R v V X w1 f:=by
 refine ⟨h.aM.trans (a.af j λk a s=>?_),(a.block b m λs=>?_).trans h.box,h.pv.aA a λk a s=>?_,λk s=>?_⟩
 rcases s with s|s
 omega
 have:=h.off k s;omega
 rcases s with s|s
 exact d s
 exact (h.off b s).2.1 rfl
 rcases s with s|s
 exact e (s▸a)
 exact (h.off k s).2.2 a
 rcases i k s with s|s
 exact h.off k s
 exact ⟨by omega,by omega,λa=>by have:=h.pv.eE k a;omega⟩
def Cv(v0 w:WD)(P D:Nat)(vi vl:Value)(ae:OA)(n ce:Nat)(E:List (List Int))(na:OA)(nc:Nat)(q:Nat->Nat)(S:Nat)(hS:S<=16)(h0:v0.heap.size=P)(hp:xS v0 ae n E na q)(hb:Below P v0 w)
 (Y:w.heap[D]? =some (.cells #[vi,.slice ae n ce,vl,.slice na n nc,UV ((2^S-1:Nat):Int)] 57 (0,0))) (S0:Nat->Prop) (aI:∀k,S0 k->P<=k/\k≠D):
 KP Tryz.prog 57 #[PT D] w (λx:Nat×Value=>#[x.2]) (Ju E q S n (dN (Scc.cC E) n)) S0 (Dx E q S n (dN (Scc.cC E) n)):=by
 intro l J Jx W hW bn bo hJ aD ac hY aB
 have HJ:=Nq hJ
 have bj:=Nq aD
 have a0:=Nq ac
 have HY:=Nq hY
 have ah:=Nq aB
 have aO:D<w.heap.size:=(Nu.1 Y).1
 have H:=(hW.block D aO).trans Y
 have aM:P<=w.heap.size:=by rw [<-h0];exact hb.size
 have an:Below P v0 W:=hb.trans (hW.mono aM)
 obtain ⟨M,hM⟩:=EX (2^S-1)
 have aE:M<2^64:=by have:=O1 (n:=2) (by decide) hS;omega
 rw [hM]at H
 have au:Hid (∀B:WD,B.heap[D]? =W.heap[D]? ->B.cell? (AD D 0)=some vi/\B.cell? (AD D 1)=some (.slice ae n ce)/\B.cell? (AD D 2)=some vl/\B.cell? (AD D 3)=some (.slice na n nc)/\B.cell? (AD D 4)=some (UV M)):=λB e=>by have h2:=e.trans H;exact ⟨CH h2,CH h2,CH h2,CH h2,CH h2⟩
 have ak:Hid (∀B,Below P v0 B->xS B ae n E na q):=λB hb=>hp.af (by(try unfold BW);rw [h0];exact hb)
 have hn:=hp.gr.pJ
 have HP:=Nq hp
 have ab:=Nq hp.gr.bC
 have ay:Hid (CL 58 #[.agg #[vi,.slice ae n ce,vl]] W (Scc.xR E n W)):=Scc.lH vi vl ae n ce E W hp.gr.bC (ak.o W an).gr.bG (by omega) (λi hi=>by have:=hp.ML i (by rw [<-hp.gr.bC];exact hi);omega)
 have aX:Hid (∀B (ap:OA) (m cp:Nat) (zs:List Int),Below P v0 B->aG .i64 B ap m zs->m<=65536->CL 59 #[.agg #[vi,.slice ae n ce,vl],.slice ap m cp] B λe be=>e=RT (.bool (Scc.bM E n (-1) zs))/\BW B be):=λB ap m cp zs hb hr hm=>
  Scc.Cn vi vl ae n ce E ap m cp zs B ab.o (ak.o B hb).gr.bG (by omega) (λi hi=>by have:=HP.o.ML i (by rw [<-ab.o];exact hi);omega) hr (by omega)
 have az:=Nq aI
 have ar:=Nq an
 obtain ⟨b0,b1,b2,b3,b4⟩:=au.o W rfl
 have a1:=Nq hM
 have aP:D<W.heap.size:=NL aO hW.size
 have bc:D≠l:=by omega
 have ba:P<=l:=by omega
 clear hJ aD ac hY aB hp an aI hM H Y hW hb aM h0
 go_enter Tryz.func57,Tryz.ntmps57
 go_upto_region 1 with(go_at_call 58;refine ay.o.mono ?_;rintro e w2 ⟨a,c,aV,V,A,rfl,aQ⟩;have p:=Nq aQ;clear aQ)
 obtain ⟨R,hR⟩:=EX (dN (Scc.cC E) n)
 have a3:=Nq hR
 rw [hR]at p HY⊢
 have bk:R<=65536:=by have:=ze (Scc.cC E) n;omega
 have aq:P<=W.heap.size/\P<=w2.heap.size/\D<w2.heap.size:=by have:=p.o.aM.size;omega
 have aU:¬Mf (.slice a R c) V R l:=λs=>by
  rcases s with s|⟨i,hi,s⟩
  ·have:=p.o.dJ l s;omega
  ·have:=p.o.jZ i l hi s;omega
 have a4:=Nq aU
 have L:=Nq aq
 have av:Hid (GI v0 W P D R (.slice a R c) V (dD (Scc.cC E) n) w2 S0):=⟨ar.o.trans (p.o.aM.mono aq.1),p.o.aM.block D aP,⟨p.o.dQ,p.o.row⟩,λk s=>by
  have h1:=az.o k s;refine ⟨h1.1,h1.2,λhk=>?_⟩;have h2:=a0.o _ _ _ ah.o k s;rcases hk with hk|⟨i,hi,hk⟩
  ·have:=p.o.dJ k hk;omega
  ·have:=p.o.jZ i k hi hk;omega⟩
 have aw:Hid (J [] S0 w2):=HJ.o _ _ _ _ ah.o p.o.aM
 clear b0 b1 b2 b3 b4 ay az ar aq aU hR ah p
 go_wp2
 go_loopw [12] (λv wr=>∃(u:Nat)(r:List (Nat×Value))(T:Nat->Prop),u<=R/\v=IV u/\Hid (r.map Prod.fst=(List.range u).filter (kC E q S n))/\Hid (J r T wr)/\Hid (GI v0 W P D R (.slice a R c) V (dD (Scc.cC E) n) wr T)/\w2.heap.size<=wr.heap.size) (λv _=>R-(intOf v).toNat)
 exact ⟨0,[],S0,NS _,rfl,Nq rfl,aw,av,Nz _⟩
 clear aw av
 obtain ⟨u,r,T,hu,rfl,f,hj,C,bd⟩:=hrel
 by_cases aL:u<R
 ·have bh:(u:Int)<(R:Int):=by omega
  obtain ⟨g,rfl,cu,ra,rc,hV,K⟩:=C.o.pv.at aL;rw [hV]at cu;obtain ⟨z,Z⟩:=EX (qt E n u);have hX:dD (Scc.cC E) n u=aH z:=by rw [<-Z];exact A0 E n u
  rw [hX,aC]at K;have Q:Hid (∀v∈z,v<n):=λv hv=>D5 (E:=E) (u:=u) (by(try unfold BW);rw [Z];exact hv);obtain ⟨m,hm⟩:=EX z.length;have a9:m<=65536:=by rw [<-hm,<-Z];have:=OD (λv=>decide (Scc.cC E v=(ef (Scc.cC E) n).getD u 0)) (List.range n);rw [OQ]at this;show(List.filter _ (List.range n)).length<=65536;omega
  have a8:V u=.slice ra m rc:=by rw [hV,hX,aC,hm]
  have bl:wr.cell? (AD g u)=some (.slice ra m rc):=by rw [cu,hX,aC,hm]
  rw [hm]at K;have U:=Nq K;have ax:=Nq Z;have ai:=Nq hm;obtain ⟨b0,b1,b2,b3,b4⟩:=au.o wr C.o.box;clear cu hX hV a8 K Z hm;go_upto_region 4 with(fail);obtain ⟨wo,rfl⟩:∃wo:WD,wo=wr:=⟨_,rfl⟩;go_wp2;go_loopw [5,18] (λa7 v wr=>∃j:Nat,j<=m/\v=IV j/\a7=UV ((Eb q (z.take j):Nat):Int)/\wr=wo) (λ_ v _=>m-(intOf v).toNat);exact ⟨0,NS _,rfl,rfl,rfl⟩;obtain ⟨j,bm,rfl,rfl,rfl⟩:=hrel;by_cases ao:j<m
  ·have bg:(j:Int)<(m:Int):=by omega
   obtain ⟨x,hx⟩:∃x,z[j]? =some x:=⟨_,Ny (by rw [ai.o];exact ao)⟩;have aa:=Q.o x (NI hx);have bp:(x:Int)<(n:Int):=by omega
   obtain ⟨-,h0|⟨rb,ro,rfl,hc⟩⟩:=U.o
   ·omega
   have ck:wr.cell? (AD rb (ro+j))=some (IV x):=by have:=hc j ao;rw [cH (by rw [ai.o];exact ao),Nw,hx]at this;exact this
   obtain ⟨-,h0|⟨nb,no,rfl,aN⟩⟩:=(ak.o wr C.o.aM).aT
   ·omega
   have cn:wr.cell? (AD nb (no+x))=some (UV (q x:Int)):=by have:=aN x aa;rw [cH (by simp;exact aa),Nw,Oh,Pt aa]at this;exact this
   have aR:z.take (j+1)=z.take j++[x]:=by rw [OG,hx];rfl
   have bb:bits .or .u64 ((Eb q (z.take j):Nat):Int) (q x:Int)=((Eb q (z.take (j+1)):Nat):Int):=by rw [aR,It];exact bits_or_u64_nat _ _ (Is q _ λy hy=>HP.o.lt y (Q.o y (RA hy))) (HP.o.lt x aa)
   obtain ⟨o2,O⟩:=EX (Eb q (z.take (j+1)));rw [O]at bb;have a2:=Nq O;clear O;generalize Eb q (z.take j)=o1 at *;generalize q x=ix at *;clear hc aN hx aR;go_wp2;go_roundw;exact ⟨j+1,by omega,by go_num,by rw [a2.o],PO⟩;simp [intOf];omega
  ·obtain rfl:j=m:=by omega
   have aS:z.take j=z:=Oe (by rw [ai.o];exact Nz _);rw [aS];have ag:Eb q z<2^64:=Is q _ λy hy=>HP.o.lt y (Q.o y hy);obtain ⟨o,ho⟩:=EX (Eb q z);rw [ho]at ag⊢;have aK:bits .and .u64 (o:Int) (M:Int)=((o&&&M:Nat):Int):=Pw _ _ ag aE;have d:Hid (kC E q S n u=(decide (o&&&M=M)&&Scc.bM E n (-1) (aH z))):=by show _=_;unfold kC;rw [A0,ax.o,a1.o,ho,Ie]
   have af:(List.range (u+1)).filter (kC E q S n)=(List.range u).filter (kC E q S n)++(if kC E q S n u then [u]else []):=by rw [OZ,OL];cases h:kC E q S n u<;>simp [h]
   have b:=Nq af;obtain ⟨o2,O⟩:=EX (o&&&M);rw [O]at aK d;have HC:=Nq (aX.o wr ra j rc (aH z) C.o.aM U.o a9);clear aS ho af O;by_cases I:o2=M
   ·subst I;have e0:(((o2:Nat):Int)==(o2:Int))=true:=Qa _
    rw [N6 rfl,OM]at d;cases G:Scc.bM E n (-1) (aH z)
    ·rw [G]at d HC;rw [d.o]at b
     have F:Hid (r.map Prod.fst=(List.range (u+1)).filter (kC E q S n)):=by show _=_;rw [b.o,f.o];simp
     clear G b d f;go_wp2_with (go_at_call 59;refine HC.o.mono ?_;rintro e w4 ⟨rfl,N⟩;have t:=Nq N;clear N);go_roundw;exact ⟨u+1,r,T,by omega,by go_num,F,HJ.o _ _ _ _ hj.o t.o,C.o.af (by have:=L.o;omega) (by have:=L.o;omega) t.o,by have:=t.o.size;omega⟩;simp [intOf];omega
    ·rw [G]at d HC;have am:Hid (∀w4,BW wr w4->YieldAt Fence.wide 0 Tryz.prog l #[.slice ra j rc] w4 λe W'=>(e=RT (.bool true)/\∃T',J (r++[(u,.slice ra j rc)]) T' W'/\aj (λk=>k=l\/T k) w4 W'/\∀k,T' k->T k\/w4.heap.size<=k)\/(e=RT (.bool false)/\Jx W')):=λw4 hb=>
      HY.o r T (u,.slice ra j rc) w4 (HJ.o _ _ _ _ hj.o hb) ⟨aL,d.o,ra,j,rc,rfl,by rw [ax.o];exact U.o.af hb⟩
     go_upto_region 9 with(fail);refine (Sh (n:=0)).1 ?_;gi_wp2_with (refine ⟨PO,rfl,?_⟩;gi_at_call 59;refine (Q8.2 HC.o).mono ?_;rintro e w4 ⟨rfl,N⟩;obtain ⟨fn,bi,aW,bf,hy,aF⟩:=am.o w4 N;have al:=Nq aF;have t:=Nq N;clear N aF);refine ⟨rfl,al.o.mono ?_⟩;have F:Hid ((r++[(u,Value.slice ra j rc)]).map Prod.fst=(List.range (u+1)).filter (kC E q S n)):=by show _=_;rw [b.o,d.o,Oy,f.o];rfl
     rintro e W' (⟨rfl,T',aA,hk,aJ⟩|⟨rfl,ad⟩)
     ·have aZ:=Nq aA;have aY:Hid (GI v0 W P D R (SV g R c) V (dD (Scc.cC E) n) W' T'):=(C.o.af (by have:=L.o;omega) (by have:=L.o;omega) t.o).round (by have:=L.o;have:=t.o.size;omega) (by have:=L.o;have:=t.o.size;omega) ba bc a4.o hk aJ
      have a5:w2.heap.size<=W'.heap.size:=by have:=t.o.size;have:=hk.size;omega
      clear aA hk aJ am b d G HC al t hj C f;simp only [];gi_wp2;go_wp2;go_roundw;exact ⟨u+1,_,T',by omega,by go_num,F,aZ,aY,a5⟩;simp [intOf];omega
     ·have a6:=Nq ad;clear ad am b d G HC al t hj C f
      simp only [];gi_wp2;go_wp2;refine OS (PW rfl _ _ _) rfl ?_;exact ⟨⟨_,rfl⟩,.inr a6.o⟩
   ·have e0:(((o2:Nat):Int)==(M:Int))=false:=NC.2 (by omega);have e1:(o2==M)=false:=NC.2 I
    rw [NX I,Pe]at d;rw [d.o]at b;have F:Hid (r.map Prod.fst=(List.range (u+1)).filter (kC E q S n)):=by show _=_;rw [b.o,f.o];simp
    clear b d f I HC;go_wp2;go_roundw;exact ⟨u+1,r,T,by omega,by go_num,F,hj,C,bd⟩;simp [intOf];omega
 ·obtain rfl:u=R:=by omega
  go_wp2;go_end0;exact ⟨⟨_,rfl⟩,.inl ⟨r,T,by unfold Dx;rw [a3.o];exact f.o,hj.o⟩⟩
end
section
open Go.Shelf
def Ss:=@Array.replicate_succ
def Su:=@Array.replicate_zero
def Sy:=@List.append_toArray
def SS:=@Go.callsIn_of_wp_marks
def S1:=@List.push_toArray
def Tm:=@Go.run_takeDeferred
attribute [local go_sem] Oper.semAt_some
def zP(w:WD)(c b d f a:Value):
 CL 33 #[.agg #[c,b,d,f,a]] w λe g=>e=RT (.func (.func 57) #[] #[PT w.heap.size])/\g=w.alloc (.cells #[c,b,d,f,a] 57):=by
 go_enter Tryz.func33,Tryz.ntmps33
 go_wp2
 go_ret
 exact ⟨rfl,rfl⟩
def ig{g b n c:Nat}(e:(SV b n c).ownBlock=some g):b=g:=by cases e;rfl
def kK{w:WD}{b n:Nat}{f:Nat->Bool}(h:Sl w 4 (SV b n n) n (bA n f)):dW w (some (AD b 0)) n f:=by
 obtain ⟨a,c,e,k⟩:=h.shape;cases e
 refine ⟨b,0,rfl,λi d=>?_⟩;obtain ⟨g,e,-,j⟩:=k i d;cases e
 rw [Od,j,fw _ _ _ d]
def mg{w:WD}{b n i:Nat}{f:Nat->Bool}(h:Sl w 4 (SV b n n) n (bA n f))(c:i<n)(v:Bool):Sl (w.setCell (AD b i) (.bool v)) 4 (SV b n n) n (bA n (up f i v))/\w.cell? (AD b i)=some (.bool (f i))/\w.frozen? (AD b i)=false:=by have a:=fG h;refine ⟨?_,?_,NA a i⟩;rw [<-ky n f i v c];refine gQ ?_ (by simp [dU]) (dT h).2.1;simp [HC,World.setCell,Ow,a];rw [Nt a];simp [bA,c]
def CD{B:Nat}{A W:WD}{p:Addr}{v:Value}(h:A.cell? p=some v)(e:aj (λk=>B<=k/\∃o,A.heap[k]? =some o/\o.isCells=false) A W):W.cell? p=some v:=
 e.aq h (λs=>by obtain ⟨o,c,d⟩:=cells_of_cell h;obtain ⟨-,f,a,b⟩:=s;rw [c]at a;cases a;rw [d]at b;cases b)
def Fh{k:IntKind}{A W:WD}{a:OA}{n:Nat}{l:List Int}(h:aG k A a n l){T:Nat->Prop}(p:aj (λk=>T k/\∃o,A.heap[k]? =some o/\o.isCells=false) A W):aG k W a n l:=by refine ⟨h.1,h.2.imp id ?_⟩;rintro ⟨b,c,rfl,g⟩;refine ⟨b,c,rfl,λi j=>p.aq (g i j) (λs=>?_)⟩;obtain ⟨o,d,m⟩:=cells_of_cell (g i j);obtain ⟨-,q,e,f⟩:=s;simp only at d;rw [d]at e;cases e;rw [m]at f;cases f
def Hs{A W:WD}{e:TypeId}{v:Value}{n:Nat}{f:List Value}(h:Sl A e v n f){T:Nat->Prop}(p:aj (λk=>T k/\∃o,A.heap[k]? =some o/\o.isCells=false) A W):Sl W e v n f:=by refine h.aA p λg a s=>?_;obtain ⟨-,r,d,l⟩:=s;rcases h.2 with⟨c,-⟩|⟨b,i,j,c,q,m,-⟩;rw [c]at a;cases a;rw [c]at a;cases a;rw [m]at d;cases d;cases l
structure qR (w:WD) (ia:OA) (il:Nat) (I:List Nat) (b:OA) (n:Nat) (E:List (List Int)) (c:OA) (L:List Int) (na:OA) (a:Nat->Nat):Prop where
 pg:xS w b n E na a
 nW:aG .i64 w ia il (aH I)
 Ng:aG .u64 w c n L
 il:il<=1000000000
 Mo:∀i∈I,i<n
def qR.af{w i:WD}{d:OA}{e:Nat}{I:List Nat}{c:OA}{n:Nat}{E:List (List Int)}{f:OA}{L:List Int}{g:OA}{b:Nat->Nat}(h:qR w d e I c n E f L g b)(a:BW w i):qR i d e I c n E f L g b:=
 ⟨h.pg.af a,h.nW.af a,h.Ng.af a,h.il,h.Mo⟩
def mr(c:OA)(e d:Nat)(a:OA)(n b:Nat)(f:OA)(g:Nat)(h:OA)(i S:Nat):Value:=.agg #[.slice c e d,.slice a n b,.slice f n g,.slice h n i,UV ((2^S-1:Nat):Int)]
def yX(E:List (List Int))(a:Nat->Nat)(S n:Nat)(w:WD)(e:Ending)(b:WD):Prop:=
 ∃v r,e=RT v/\oV w b v n r/\∀x,x<n->(r x=true↔rG E (λs x=>(a x).testBit s=true) S x)
structure uX (w:WD) (E:List (List Int)) (n q:Nat) (a:List (Nat×Value)) (T:Nat->Prop) (W:WD):Prop where
 arr:∃f:Nat->Bool,Sl W 4 (SV (q+1) n n) n (bA n f)/\∀x,x<n->(f x=true↔∃u∈a.map Prod.fst,x∈qt E n u)
 cell:W.cell? (AD (q+2) 0)=some (SV (q+1) n n)
 fe:∀k,T k↔k=q+1
 aM:Below (q+1) w W
def uX.aA{w:WD}{E:List (List Int)}{n q B:Nat}{a:List (Nat×Value)}{T:Nat->Prop}{A W:WD}(h:uX w E n q a T A)(g:q+1<=B)(e:q+1<=A.heap.size)(b:aj (λk=>B<=k/\∃o,A.heap[k]? =some o/\o.isCells=false) A W):uX w E n q a T W:=by obtain ⟨f,c,d⟩:=h.arr;exact ⟨⟨f,Hs c b,d⟩,CD h.cell b,h.fe,h.aM.trans (b.af e (λk b s=>by omega))⟩
def rh(w:WD)(N:OA)(O V:Nat)(I:List Nat)(F:OA)(n R:Nat)(E:List (List Int))(P:OA)(X:Nat)(L:List Int)(Y:OA)(nc:Nat)(IN:Nat->Nat)(S:Nat)(hS:S<=16)(hp:qR w N O I F n E P L Y IN):
 CL 51 #[mr N O V F n R P X Y nc S] w (yX E IN S n w):=by
 obtain ⟨i4,bb,bf,bd,ba⟩:=Ol Scc.Tryz.nV
 obtain ⟨q,hq⟩:=EX w.heap.size
 obtain ⟨M,hM⟩:=EX (((2^S-1:Nat):Int))
 unfold mr
 rw [hM]
 have HP:=Nq hp
 have HQ:=Nq hq
 have HM:=Nq hM
 have HG:Hid (∀Q vi ve vl vn va,CL 33 #[.agg #[vi,ve,vl,vn,va]] Q λe av=>e=RT (.func (.func 57) #[] #[PT Q.heap.size])/\av=Q.alloc (.cells #[vi,ve,vl,vn,va] 57)):=λQ vi ve vl vn va=>zP Q vi ve vl vn va
 have hn:=hp.pg.gr.pJ
 obtain ⟨r,au⟩:=EX (w.alloc (.cells #[.slice N O V,.slice F n R,.slice P n X,.slice Y n nc,UV M] 57))
 have aQ:BW w r:=au▸ag _ _
 have s1:r.heap.size=q+1:=by rw [<-au,NG,hq]
 have aT:r.heap[q]? =some (.cells #[.slice N O V,.slice F n R,.slice P n X,.slice Y n nc,UV M] 57 (0,0)):=by rw [<-au,<-hq];exact (ND w _).1
 have aw:Hid (∀Q,Below (q+1) r Q->Q.cell? (AD q 0)=some (.slice N O V)/\Q.cell? (AD q 1)=some (.slice F n R)/\Q.cell? (AD q 2)=some (.slice P n X)/\Q.cell? (AD q 3)=some (.slice Y n nc)/\Q.cell? (AD q 4)=some (UV M)):=λQ h=>by have i:=(h.block q (by omega)).trans aT;exact ⟨CH i,CH i,CH i,CH i,CH i⟩
 have aF:=Nq aQ
 have Z:=Nq s1
 obtain ⟨b0,b1,b2,b3,b4⟩:=aw.o r (Nx _ _)
 clear hp aQ s1 aT
 refine (Q8 (n:=0)).1 (SS Tryz.func51 rfl PO ?_ rfl)
 rw [Sh]
 simp only [Tryz.ntmps51,Rk,Ou,PA,Nat.reduceAdd,Nat.reduceSub,Ss,Su,S1,Sy,PU,OW]
 go_upto_region 2 with(at_make;refine bJ rfl _ _ 67 rfl 4 i4 (.bool false) 1 P0 bb bf bd _ _ _ _ n rfl rfl rfl rfl (by rw [ba];omega) (by unfold maxLen;omega) ?_;rintro z rfl hs;have az:=Nq hs;clear hs)
 rw [Z.o]
 rw [Z.o]at az
 obtain ⟨wa,ao⟩:=EX (r.alloc (.cells (madeCells #[Value.bool false] n) 4))
 obtain ⟨z,al⟩:=EX (wa.alloc (.cells #[SV (q+1) n n] 67))
 have sa:wa.heap.size=q+1+1:=by rw [<-ao,NG,Z.o]
 have s3:z.heap.size=q+1+1+1:=by rw [<-al,NG,sa]
 have aS:BW r wa:=ao▸ag _ _
 have aD:BW wa z:=al▸ag _ _
 have ac:=aa aS aD
 have aW:Sl wa 4 (SV (q+1) n n) n (bA n λ_=>false):=by
  have b:=az.o;have i:=bZ (.bool false) rfl n;have h3:r.alloc (.cells (madeCells (Value.bool false).cells (n*1)) 4)=wa:=by rw [<-ao,PZ];rfl
  rw [h3,i,<-Scc.fH]at b;exact b
 have aV:Sl z 4 (SV (q+1) n n) n (bA n λ_=>false):=aW.aA (aj.aF aD) (λg e s=>by have:=ig e;omega)
 have c3:z.cell? (AD (q+2) 0)=some (SV (q+1) n n):=by have h:=(bp wa #[SV (q+1) n n] 67 0 _ rfl).1;rw [al,sa]at h;exact h
 rw [ao,al]
 obtain ⟨d0,d1,d2,d3,d4⟩:=aw.o z (ac.mono (by rw [Z.o];exact Nz _))
 clear b0 b1 b2 b3 b4
 obtain ⟨w4,am⟩:=EX (z.alloc (.cells #[.slice N O V,.slice F n R,.slice P n X,.slice Y n nc,UV M] 57))
 have C:BW z w4:=am▸ag _ _
 have s4:w4.heap.size=q+4:=by rw [<-am,NG,s3]
 have aY:w4.heap[q+3]? =some (.cells #[.slice N O V,.slice F n R,.slice P n X,.slice Y n nc,UV ((2^S-1:Nat):Int)] 57 (0,0)):=by rw [<-am,HM.o,<-(show z.heap.size=q+3 from s3)];exact (ND z _).1
 have a4:Hid (CL 33 #[.agg #[.slice N O V,.slice F n R,.slice P n X,.slice Y n nc,UV M]] z λe av=>e=RT (.func (.func 57) #[] #[PT (q+3)])/\av=w4):=by refine (HG.o z _ _ _ _ _).mono ?_;rintro e av ⟨rfl,rfl⟩;exact ⟨by rw [s3],am⟩
 have ad:BW r w4:=aa ac C
 have aU:=Cv w w4 q (q+3) (.slice N O V) (.slice P n X) F n R E Y nc IN S hS HQ.o HP.o.pg (by have:=aa aF.o ad;(try unfold BW at this);rw [HQ.o]at this;exact this) aY (λk=>k=q+1) (λk h=>by omega)
 have aN:uX r E n q [] (λk=>k=q+1) w4:=⟨⟨_,aV.aA (aj.aF C) (λg e s=>by have:=ig e;omega),λx t=>⟨λh=>(by cases h),λ⟨u,h,_⟩=>by cases h⟩⟩,(C.cell (by simp only;omega)).trans c3,λk=>Ry,ad.mono (by rw [Z.o];exact Nz _)⟩
 have a5:=Nq aN
 have a6:=Nq aU
 have a8:=Nq s4
 clear au hq hM ao al sa aS aD ac aW aV c3 C aY ad aU aN am HG az
 go_wp2_with (go_at_call 33;refine a4.o.mono ?_;rintro e w5 ⟨rfl,rfl⟩)
 have aO:∀d T A,uX r E n q d T A->q+2<A.heap.size:=λd T A h=>Nr A _ h.cell
 refine Ac (gf:=57) (lb:=#[PT (q+3)]) rfl (enters_of Tryz.func57 (by kernel_rfl) rfl) a6.o (λ_=>rfl) (uX r E n q) (λ_=>False)
  (λd T A B h H=>h.aA (by omega) (by have:=aO _ _ _ h;omega) H) (λA B h _=>h.elim) (λd T A h k s=>?hIlt) (λx A B h H=>?hPre) a5.o
  (λx=>{tmps:=#[.agg #[.slice N O V,.slice F n R,.slice P n X,.slice Y n nc,UV M],PT q,SN,PT (q+1+1),x.2,undef,undef,.pointer (some (AD q 3)),.slice Y n nc,IV n,SV (q+1) n n,
   .agg #[.slice N O V,.slice F n R,.slice P n X,.slice Y n nc,UV M],.func (.func 57) #[] #[PT (q+3)],x.2,undef,undef,undef,undef,undef,undef,undef,undef,undef,undef,undef,undef,undef,undef],defers:=[]}) ?assign ?body ?done ?stop
 case hIlt=>obtain rfl:=(h.fe k).1 s;obtain ⟨f,b,-⟩:=h.arr;exact ⟨_,fG b,rfl⟩
 case hPre=>obtain ⟨b,i,a,m,c,e,hr⟩:=h;exact ⟨b,i,a,m,c,e,Fh (T:=λ_=>True) hr (H.mono λk _ s=>⟨PO,s⟩)⟩
 case assign=>intro l x W K hK;gi_wp2;exact hK
 case body=>
  rintro l d T ⟨u,v⟩ W hl U ⟨hu,-,a,m,c,e,o⟩;simp only at hu e o;subst e;obtain ⟨ms,ak⟩:=EX (qt E n u);rw [ak]at o;have ap:Hid (ms.length=m):=by have:=o.1;rw [aC]at this;exact this
  have aJ:Hid (∀x∈ms,x<n):=λx t=>D5 (E:=E) (u:=u) (by rw [ak];exact t);have bj:m<=65536:=by rw [<-ap.o,<-ak];have:=OD (λv=>decide (Scc.cC E v=(ef (Scc.cC E) n).getD u 0)) (List.range n);rw [OQ]at this;show(List.filter _ (List.range n)).length<=65536;omega
  have ay:=Nq ak;have aK:=Nq o;have HI:=Nq U;obtain ⟨f0,ah,G⟩:=U.arr;have aI:=Nq ah;have a2:=Nq G;have cq:=U.cell;have bi:=aO _ _ _ U;have aP:∀x:Nat×Value,x=(u,Value.slice a m c)->(d++[x]).map Prod.fst=d.map Prod.fst++[u]:=λx e=>by rw [Oy,e];rfl
  have a0:=Nq aP;clear ak o U ah G aP;gi_wp2;gi_loopw [16] (λv wr=>∃(j:Nat)(f:Nat->Bool),j<=m/\v=IV j/\Hid (Sl wr 4 (SV (q+1) n n) n (bA n f))/\Hid (∀x,x<n->(f x=true↔(∃u∈d.map Prod.fst,x∈qt E n u)\/x∈ms.take j))/\Hid (aj (λk=>k=q+1) W wr)) (λv _=>m-(intOf v).toNat);exact ⟨0,f0,NS _,rfl,aI,Nq (λx t=>by rw [a2.o x t];simp),Nq (aj.refl _ _)⟩;obtain ⟨j,f,hj,rfl,ar,aq,H⟩:=hrel;have cw:=H.o.aq cq (by simp only;omega);by_cases aE:j<m;have bg:(j:Int)<(m:Int):=by omega
  obtain ⟨x,t⟩:∃x,ms[j]? =some x:=⟨_,Ny (by rw [ap.o];exact aE)⟩;have be:=aJ.o x (NI t);have bl:(x:Int)<(n:Int):=by omega
  obtain ⟨b,i,h3⟩:=mg ar.o be true;have aL:=Nq b;have a3:Hid (∀y,y<n->(up f x true y=true↔(∃u∈d.map Prod.fst,y∈qt E n u)\/y∈ms.take (j+1))):=λy hy=>by rw [OG,t];by_cases e:y=x;subst e;rw [aB];exact ⟨λ_=>.inr (OO _ (Nv.2 rfl)),λ_=>rfl⟩;rw [an _ _ _ _ e,aq.o y hy];constructor;exact λh=>h.imp id (Oo _);rintro (h|h);exact .inl h;rcases NY.1 h with h|h;exact .inr h;exact absurd (Nv.1 h) e
  have a7:Hid (aj (λk=>k=q+1) W (wr.setCell (AD (q+1) x) (.bool true))):=H.o.setCell (p:=(AD (q+1) x)) (λ_=>rfl) _;obtain ⟨-,h0|⟨rb,ro,rfl,hc⟩⟩:=aK.o;omega;have ab:W.cell? (AD rb (ro+j))=some (IV x):=by have:=hc j aE;rw [cH (by rw [ap.o];exact aE),Nw,t]at this;exact this
  have bc:rb≠q+1:=λe=>by
   have h5:=fG aI.o;rw [e]at ab;rw [Nt h5]at ab;have bh:=dU n f0;have h6:(bA n f0)[ro+j]? =some (IV x):=by simpa using ab
   have h7:ro+j<n:=by have:=(NK.1 h6).1;omega
   rw [fw _ _ _ h7]at h6;cases h6
  have ck:=H.o.aq ab bc;clear b t ar aq H hc ab cq;gi_wp2;go_roundw;exact ⟨j+1,_,by omega,by go_num,aL,a3,a7⟩;simp [intOf];omega;obtain rfl:j=m:=by omega
  have aG:Hid (pH (uX r E n q) (λ_=>False) T (d++[(u,.slice a j c)]) W .normal {tmps:=#[],defers:=[]} wr):=by refine ⟨T,⟨⟨f,ar.o,λx t=>?_⟩,cw,HI.o.fe,HI.o.aM.trans (H.o.af (by omega) (λk H s=>by omega))⟩,H.o.mono λk _ s=>(HI.o.fe k).2 s,λk s=>.inl s⟩;rw [aq.o x t,a0.o _ rfl,Oe (by rw [ap.o];exact Nz _),<-ay.o];constructor;rintro (⟨u',b,i⟩|h);exact ⟨u',Oo _ b,i⟩;exact ⟨u,OO _ (Nv.2 rfl),h⟩;rintro ⟨u',b,i⟩;rcases NY.1 b with b|b;exact .inl ⟨u',b,i⟩;rw [Nv.1 b]at i;exact .inr i
  clear ar aq H cw cq;gi_wp2;exact aG.o
 case done=>
  intro D xs T W hD ai U hK;obtain ⟨f,ah,G⟩:=U.arr;have cq:=U.cell;have HI:=Nq U;have HB:Hid (BW w W):=aF.o.trans (U.aM.mono (by rw [HQ.o];omega));have J:=HP.o.af HB.o;have a1:Hid (CL 85 #[.agg #[.slice N O V,.slice F n R,.slice P n X],SV (q+1) n n] W (yU E n f W)):=
   G0 W N O V (aH I) P n X L F n R E J.pg.gr J.nW J.Ng J.il (by omega) J.pg.ML (some (AD (q+1) 0)) n f (kK ah)
  obtain ⟨b0,b1,b2,b3,b4⟩:=aw.o W U.aM;have ax:Hid (∀x,x<n->((∃y,y<n/\f y=true/\Own.br E x y)↔rG E (λs x=>(IN x).testBit s=true) S x)):=λx t=>by
   rw [JU];constructor;rintro ⟨y,hy,b,i⟩;obtain ⟨u,h3,h4⟩:=(G y hy).1 b;rw [ai]at h3;exact ⟨y,i,(AQ HP.o.pg.gr.bC h4).1 (Og.1 h3).2⟩;rintro ⟨y,b,i⟩;have hy:y<n:=by rw [<-HP.o.pg.gr.bC];exact b.lt (by rw [HP.o.pg.gr.bC];exact t)
   obtain ⟨u,h3,h4⟩:=J7 (E:=E) hy;refine ⟨y,hy,(G y hy).2 ⟨u,?_,h4⟩,b⟩;rw [ai];exact Og.2 ⟨Oq.2 h3,(AQ HP.o.pg.gr.bC h4).2 i⟩
  have a9:=(Nu.1 hK).1;have HK:=Nq hK;clear ah G U ai J hK;go_wp2_with (go_at_call 85;refine a1.o.mono ?_;rintro e W5 ⟨v,r',rfl,aX,hr⟩;have ay:=Nq aX;have HR:=Nq hr;clear aX hr);obtain ⟨vb,rfl,aZ,aR,bk⟩:=ay.o;have aA:=(aR.block D a9).trans HK.o;refine ⟨by simp,.inl ⟨_,_,rfl,Tm aA,?_⟩⟩;refine ⟨_,results_tmp rfl _ _ _,_,r',rfl,⟨vb,rfl,?_,?_,?_⟩,λx t=>(HR.o x t).trans (ax.o x t)⟩;refine aZ.aA (dq W5 D _) λg e s=>?_;have h6:=ig e;have h7:=fG aZ;subst h6;rw [s]at h7;rw [h7]at aA;cases aA;have aM:=aa HB.o aR;exact aM.trans ((dq W5 D _).af aM.size (λk H s=>by have:=HQ.o;have:=a8.o;omega));have:=HB.o.size;omega
 case stop=>exact λD W _ h=>h.elim
end
def JQ(i q n:Nat)(b:Nat)(r:Nat->Bool)(w:WD)(h:CA w q 0 (SV b n n))(a:Sl w 4 (SV b n n) n (bA n r))(c:i<n):
 CL 52 #[IV i,PT q] w λe f=>e=RT (.bool (r i))/\f=w:=by
 have d:(i:Int)<(n:Int):=by omega
 obtain ⟨-,g,-⟩:=mg a c true
 generalize r i=j at *
 clear a
 go_enter Tryz.func52,Tryz.ntmps52
 go_wp2
 go_ret
 exact ⟨rfl,rfl⟩
def FE(l:List Nat)(r:Nat->Bool):(aH l).any (λz=>r z.toNat)=l.any r:=by unfold aH;rw [List.any_map];rfl
def GP(E:List (List Int))(a:Nat->Nat)(S:Nat)(I:List Nat)(w:WD)(e:Ending)(c:WD):Prop:=
 ∃b,e=RT (.bool b)/\(b=true↔∃i∈I,rG E (λs x=>(a x).testBit s=true) S i)/\BW w c
def Dm(w:WD)(j:OA)(k t:Nat)(I:List Nat)(v:OA)(n J:Nat)(E:List (List Int))(A:OA)(Q:Nat)(L:List Int)(B:OA)(R:Nat)(H:Nat->Nat)(S:Nat)(hS:S<=16)(hp:qR w j k I v n E A L B H):
 CL 26 #[mr j k t v n J A Q B R S] w (GP E H S I w):=by
 obtain ⟨q,hq⟩:=EX w.heap.size
 obtain ⟨M,hM⟩:=EX (((2^S-1:Nat):Int))
 obtain ⟨C,f⟩:=EX (w.alloc (.cells #[.slice j k t,.slice v n J,.slice A n Q,.slice B n R,UV M] 57))
 have m:BW w C:=f▸ag _ _
 have HL:Hid (CL 51 #[.agg #[.slice j k t,.slice v n J,.slice A n Q,.slice B n R,UV M]] C (yX E H S n C)):=by have:=rh C j k t I v n J E A Q L B R H S hS (hp.af m);unfold mr at this;rw [hM]at this;exact this
 unfold mr
 rw [hM]
 have a:=bp w #[.slice j k t,.slice v n J,.slice A n Q,.slice B n R,UV M] 57
 rw [f,hq]at a
 have Z:=(a 0 _ rfl).1
 have b1:=(a 1 _ rfl).1
 have b2:=(a 2 _ rfl).1
 have b3:=(a 3 _ rfl).1
 have b4:=(a 4 _ rfl).1
 have U:=Nq m
 have G:=Nq hp
 clear hp m a
 go_enter Tryz.func26,Tryz.ntmps26
 go_upto_region 1 with(fail)
 (try rw [f])
 (try rw [hq])
 clear f hq
 go_upto_region 2 with(go_at_call 51;refine HL.o.mono ?_;rintro e T ⟨_,r,rfl,⟨b,rfl,y,d,ab⟩,hr⟩;have Y:=Nq y;have V:=Nq d;have X:=Nq hr;clear hr y d ab)
 have y:=Y.o
 have d:=V.o
 obtain ⟨l,h⟩:=EX (T.alloc (.cells #[SV b n n] 67))
 (try rw [h])
 obtain ⟨P,p⟩:=EX T.heap.size
 (try rw [p])
 have o:BW T l:=h▸ag _ _
 have c:=aa d o
 have N:=(bp T #[SV b n n] 67 0 _ rfl).1
 rw [h,p]at N
 have O:Sl l 4 (SV b n n) n (bA n r):=y.aA (aj.aF o) (λg e s=>by have:=y.lt g e;omega)
 have d0:=(c.cell (Nr _ _ Z)).trans Z
 have D:=Nq (aa U.o c)
 have W:Hid (CL 46 #[.slice j k t,.func (.func 52) #[] #[PT P]] l λe w'=>e=RT (.bool (I.any r))/\w'=l):=by refine (Az j k t (aH I) (PT P) (λz=>r z.toNat) l (G.o.nW.af D.o) (by have:=G.o.il;omega) (λz hz=>?_)).mono ?_;obtain ⟨u,hu,rfl⟩:=lC hz;exact JQ u P n b r l N O (G.o.Mo u hu);rintro e w' ⟨rfl,rfl⟩;exact ⟨by rw [FE],rfl⟩
 have F:Hid (I.any r=true↔∃i∈I,rG E (λs x=>(H x).testBit s=true) S i):=by show _↔_;rw [Qq];exact ⟨λ⟨i,K,h2⟩=>⟨i,K,(X.o i (G.o.Mo i K)).1 h2⟩,λ⟨i,K,h2⟩=>⟨i,K,(X.o i (G.o.Mo i K)).2 h2⟩⟩
 clear y d o c O h p X HL Z b1 b2 b3 b4
 go_wp2_with (go_at_call 46;refine W.o.mono ?_;rintro e w' ⟨rfl,rfl⟩)
 go_ret
 exact ⟨_,rfl,F.o,D.o⟩
section
def ki{w:WD}{p:Array Oper}{d:List Oper}{o:Oper}{a:Act}{Q:Exit->Act->WD->Prop}(A:o.guard=none)(s x:Operand)
 (N:o.op=.call {callee:=.builtin .append,args:=#[s,x],argTypes:=#[64,64]})
 (v:Value) (n:Nat) (X:List (Int×Int)) (S:X.length=n) (O:a.eval s=v) (c:w.ownsRow 0 66 2 v n (bD X)) (y:Int×Int) (P:a.eval x=SV w.heap.size 1 1) (r:n<=4000000000000)
 (h:∀f i q,q.ownsRow 0 66 2 (.slice f (n+1) i) (n+1) (bD (X++[y]))->aj (λk=>v.ownBlock=some k) w q->(∀b,(Value.slice f (n+1) i).ownBlock=some b->v.ownBlock=some b\/w.heap.size<=b)->wpList Tryz.prog p Q d (a.put o.dst (.slice f (n+1) i)) q):
 wpList Tryz.prog p Q (o::d) a (w.alloc (.cells #[IV y.1,IV y.2] 66)):=by
 obtain ⟨D,G,R,B,z⟩:=Ol Tryz.zw
 have F:=ag w (.cells #[IV y.1,IV y.2] 66)
 have t:=bp w #[IV y.1,IV y.2] 66
 refine RG _ A s x 64 N 0 66 D _ 2 16 Tryz.underlying64 G R B z rfl (by decide) v n (bD X) O (bm c (aj.aF F) (λg e s=>by have:=dj c g e;omega)) (AD w.heap.size 0) 1 1 [IV y.1,IV y.2] P rfl (λj u H=>?_) (by simp [Value.oneCell']) (by unfold maxLen;omega) (by omega) (NS _) (λT q E l _ m=>?_)
 rw [O4,Od]
 exact (t j u (by simpa using H)).1
 obtain ⟨f,i,rfl⟩:=bw E
 refine h f i q (by rw [jW];exact E) (((aj.refl _ w).alloc _).trans ⟨l.os,l.tape,l.output,l.size,λk J K=>l.block k J (λe=>K e.symm)⟩) (λb e=>?_)
 rcases m with m|m
 rw [m]at e;exact .inl e
 rw [m]at e;cases e;exact .inr (by rw [NG];omega)
def qF(k:Nat):Prop:=k<4
def Nb:Nat->TypeId
 |0=>3
 |1=>64
 |_=>45
def dK(l:List Nat):List Value:=l.map λ(x:Nat)=>UV x
def XP(I:List Nat)(rows:List Value)(L IN:List Nat):Nat->List Value
 |0=>bI I
 |1=>rows
 |2=>dK L
 |3=>dK IN
 |_=>[]
def e0(t:Nat):Int×Int:=((t:Int),0)
structure PM (w0 w:WD) (g:Nat) (C:Nat->Value) (I:List Nat) (bG:List Value) (Rs:List (List Nat)) (L IN:List Nat) (M:Int):Prop where
 oN:Rec 5 qF Nb w g C (XP I bG L IN)
 all:C 4=UV M
 cO:bG.length=Rs.length
 row:∀(i:Nat)(V:Value)(R:List Nat),bG[i]? =some V->Rs[i]? =some R->w.ownsRow 0 66 2 V R.length (bD (R.map e0))/\∀b,V.ownBlock=some b->¬eN qF g C b
 aM:BW w0 w
 bL:∀k,eN qF g C k->w0.heap.size<=k
section
variable {w0 w w1 w2:WD} {g:Nat} {C:Nat->Value} {I:List Nat} {rows:List Value} {Rs:List (List Nat)} {L IN:List Nat} {M:Int}
def PM.aA{T:Nat->Prop}(h:PM w0 w g C I rows Rs L IN M)(a:aj T w w1)(f:∀k,T k->¬eN qF g C k)(m:∀k V,V∈rows->V.ownBlock=some k->¬T k)(l:∀k,T k->w0.heap.size<=k):PM w0 w1 g C I rows Rs L IN M:=
 ⟨h.oN.aA a (λb j n=>f b n j),h.all,h.cO,λi V R c d=>⟨bm (h.row i V R c d).1 a (λb e=>m b V (NI c) e),(h.row i V R c d).2⟩,h.aM.trans (a.af h.aM.size (λk a s=>by have:=l k s;omega)),h.bL⟩
def PM.Nn(h:PM w0 w g C I rows Rs L IN M){V:Value}(c:V∈rows){k:Nat}(e:V.ownBlock=some k):k<w.heap.size:=by obtain ⟨i,a⟩:=Pg c;obtain ⟨R,b⟩:∃R,Rs[i]? =some R:=⟨_,Ny (by rw [<-h.cO];exact (NK.1 a).1)⟩;exact dj (h.row i V R a b).1 k e
def PM.af(h:PM w0 w g C I rows Rs L IN M)(b:BW w w1):PM w0 w1 g C I rows Rs L IN M:=
 h.aA (aj.aF b) (λk c s=>by have:=h.oN.kB k s;omega) (λk V a e s=>by have:=h.Nn a e;omega) (λk c=>by have:=h.aM.size;omega)
def PM.Mt{v:Value}{k:Nat}(c:∃a,v.ownBlock=some a/\((C k).ownBlock=some a\/w.heap.size<=a)):dC w (C k) v:=by obtain ⟨a,e,b|b⟩:=c;exact .inl (by rw [e,b]);exact .inr ⟨a,e,b⟩
def PM.upd(h:PM w0 w g C I rows Rs L IN M){k:Nat}(q:k<4){v:Value}{xs:List Value}(H:Sl w1 (Nb k) v xs.length xs)(f:aj (λb=>(C k).ownBlock=some b) w w1)(G:∃m,v.ownBlock=some m/\((C k).ownBlock=some m\/w.heap.size<=m)){t:List Nat}{u d:List Nat}{a:List Value}{c:List (List Nat)}
 (E:∀j,up (XP I rows L IN) k xs j=XP t a u d j) (F:a.length=c.length)
 (B:∀(i:Nat)(V:Value)(R:List Nat),a[i]? =some V->c[i]? =some R->w.ownsRow 0 66 2 V R.length (bD (R.map e0))/\∀b,V.ownBlock=some b->¬eN qF g C b) (x:w2=w1.setCell (AD g k) v):
 PM w0 w2 g (up C k v) t a c u d M/\aj (eN qF g C) w w2/\∀b,eN qF g (up C k v) b->eN qF g C b\/w.heap.size<=b:=by
 have l:=PM.Mt G
 have A:=h.oN.slice k q v xs H f l
 rw [funext E]at A
 have o:=vK (sl:=qF) (g:=g) (C:=C) k q v l
 have J:aj (eN qF g C) w w1:=f.mono λb _ e=>.inr ⟨k,q,e⟩
 have K:aj (λb=>b=g) w1 w2:=by rw [x];exact (aj.refl (λb=>b=g) w1).setCell (p:=(AD g k)) (λ_=>rfl) v
 have r:aj (eN qF g C) w w2:=J.then K (λb _ e=>.inl e)
 refine ⟨⟨by rw [x];exact A,by rw [an _ _ _ _ (by omega)];exact h.all,F,λi V R D n=>?_,h.aM.trans (r.af h.aM.size (λb N s=>by have:=h.bL b s;omega)),λb s=>?_⟩,r,o⟩
 obtain ⟨y,z⟩:=B i V R D n
 refine ⟨bm y r z,λb e s=>?_⟩
 rcases o b s with s|s
 exact z b e s
 have:=dj y b e;omega
 rcases o b s with s|s
 exact h.bL b s
 have:=h.aM.size;omega
def Ni(i:Nat):∀j,up (XP I rows L IN) 0 (bI I++[IV i]) j=XP (I++[i]) rows L IN j
 |0=>by rw [aB];exact (kG _ _).symm
 |1=>rfl
 |2=>rfl
 |3=>rfl
 |_+4=>rfl
def No(V:Value):∀j,up (XP I rows L IN) 1 (rows++[V]) j=XP I (rows++[V]) L IN j
 |0=>rfl
 |1=>by rw [aB];rfl
 |2=>rfl
 |3=>rfl
 |_+4=>rfl
def yL(l:List Nat)(x:Nat):dK (l++[x])=dK l++[UV x]:=by simp [dK]
def Np(x:Nat):∀j,up (XP I rows L IN) 2 (dK L++[UV x]) j=XP I rows (L++[x]) IN j
 |0=>rfl
 |1=>rfl
 |2=>by rw [aB];exact (yL _ _).symm
 |3=>rfl
 |_+4=>rfl
def Nj(x:Nat):∀j,up (XP I rows L IN) 3 (dK IN++[UV x]) j=XP I rows L (IN++[x]) j
 |0=>rfl
 |1=>rfl
 |2=>rfl
 |3=>by rw [aB];exact (yL _ _).symm
 |_+4=>rfl
def yK(l:List Nat):dK l=(aH l).map (Value.int .u64):=by unfold dK aH;rw [RH];rfl
def A5(l:List Nat):bI l=(aH l).map (Value.int .i64):=by unfold bI aH;rw [RH];rfl
def zW{k:IntKind}{w:WD}{e:TypeId}{a:OA}{n c:Nat}{b:List Int}(h:Sl w e (.slice a n c) n (b.map (Value.int k))):aG k w a n b:=(y8.of h).rowAt
def vD(Rs:List (List Nat)):List (List Int):=Rs.map λR=>R.map λ(t:Nat)=>(t:Int)
def vE(Rs:List (List Nat)){i:Nat}{R:List Nat}(h:Rs[i]? =some R):(vD Rs).getD i []=R.map λ(t:Nat)=>(t:Int):=by unfold vD;rw [Nw,Oh,h];rfl
def Lo(R:List Nat):(R.map e0).map Prod.fst=R.map λ(t:Nat)=>(t:Int):=by rw [RH];rfl
def PM.KG(h:PM w0 w g C I rows Rs L IN M):∃s B n y t D u E,C 0=.slice s I.length B/\C 1=.slice n Rs.length y/\C 2=.slice t L.length D/\C 3=.slice u IN.length E/\
 aG .i64 w s I.length (aH I)/\Scc.eQ w n (vD Rs)/\aG .u64 w t L.length (aH L)/\aG .u64 w u IN.length (aH IN):=by
 have a:=h.oN.cK 0 (by unfold qF;omega)
 have F:=h.oN.cK 1 (by unfold qF;omega)
 have c:=h.oN.cK 2 (by unfold qF;omega)
 have d:=h.oN.cK 3 (by unfold qF;omega)
 replace a:Sl w 3 (C 0) (bI I).length (bI I):=a
 replace F:Sl w 64 (C 1) rows.length rows:=F
 replace c:Sl w 45 (C 2) (dK L).length (dK L):=c
 replace d:Sl w 45 (C 3) (dK IN).length (dK IN):=d
 have U:(bI I).length=I.length:=bW I
 have W:(dK L).length=L.length:=by simp [dK]
 have X:(dK IN).length=IN.length:=by simp [dK]
 rw [U,A5]at a
 rw [W,yK]at c
 rw [X,yK]at d
 obtain ⟨s,B,f,-⟩:=a.shape
 obtain ⟨n,y,o,m⟩:=F.shape
 obtain ⟨t,D,p,-⟩:=c.shape
 obtain ⟨u,E,H,-⟩:=d.shape
 rw [f]at a
 rw [p]at c
 rw [H]at d
 refine ⟨s,B,n,y,t,D,u,E,f,by rw [o,h.cO],p,H,zW a,?_,zW c,zW d⟩
 have l:(vD Rs).length=rows.length:=by unfold vD;rw [NU,h.cO]
 rcases OT rows.length with z|z
 exact .inl (by rw [l];exact z)
 obtain ⟨b,J,-,-⟩:=m 0 z
 refine .inr ⟨b,0,J,λi q=>?_⟩
 rw [l]at q
 obtain ⟨Y,k,-,T⟩:=m i q
 rw [J]at k;cases k
 obtain ⟨R,N⟩:∃R,Rs[i]? =some R:=⟨_,Ny (by rw [<-h.cO];exact q)⟩
 have O:rows[i]? =some rows[i]:=Ny q
 obtain ⟨r,-⟩:=h.row i _ R O N
 rw [vE Rs N]
 refine ⟨rows[i],by rw [Od,T,O],?_⟩
 generalize rows[i]=V at *
 rcases r.2 with⟨e,K⟩|⟨G,x,S,e,Q⟩
 exact ⟨none,0,by rw [e,NU,K],.inl (by rw [NU];exact K)⟩
 refine ⟨some (AD G 0),x,by rw [NU];exact e,.inr ⟨G,0,rfl,λj P=>?_⟩⟩
 rw [NU]at P
 rw [e]at r
 obtain ⟨o,v,p⟩:=lU (R.map e0) j (by rw [NU];exact P)
 rw [Lo]at o
 have A:=nU (R.map e0)
 rw [NU]at A
 refine ⟨?_,v,?_⟩
 rw [Od,OX (size:=2) r (j*2) (by omega)];exact o
 rw [Od,OX (size:=2) r (j*2+1) (by omega)];exact p
end
end
def yf(w:WD)(n:Nat)(l:n<=16)(f g:Value):
 CL 47 #[.agg #[IV n,f,g]] w λe k=>e=RT (UV ((2^n-1:Nat):Int))/\BW w k:=by
 have j:2^n<=65536:=O1 (n:=2) (by decide) (by omega:n<=16)
 have c:1<=2^n:=SP
 obtain ⟨M,d⟩:=EX (2^n-1)
 obtain ⟨a,b⟩:=EX (2^n)
 have m:IntKind.u64.wrap ((2:Int)^n)=(a:Int):=by
  have e:((2:Int)^n)=((2^n:Nat):Int):=by simp
  rw [e,b,QE];exact Ri (Rd _) (by omega)
 have o:IntKind.u64.wrap ((a:Int)-1)=(M:Int):=by
  have i:((a:Int)-1)=(M:Int):=by omega
  rw [i,QE];exact Ri (Rd _) (by omega)
 have h:Hid (BW w (w.alloc (.cells #[IV n,f,g] 36))):=ag _ _
 rw [d]
 clear j c d b
 go_enter Tryz.func47,Tryz.ntmps47
 go_wp2
 go_ret
 exact ⟨rfl,h.o⟩
def Ce(x:bV):Bool:=decide (x.ak&&&x.aD=0)
def lh{x:bV}:Ce x=true↔nA x:=by
 unfold Ce nA;rw [OP];constructor;intro h k ⟨a,b⟩;have c:(x.ak&&&x.aD).testBit k=false:=by rw [h,PF]
 rw [PB,a,b]at c;cases c;intro h;refine Qx λk=>?_;rw [PB,PF];cases a:x.ak.testBit k
 rfl;cases b:x.aD.testBit k
 rfl;exact absurd ⟨a,b⟩ (h k)
structure kW (w:WD) (a:Nat) (A:Au) (ia:OA) (il ic:Nat) (na:OA) (nl nc:Nat):Prop where
 dp:w.heap[a]? =some (.cells #[IV A.sets,.slice ia il ic,.slice na nl nc] 36 (0,0))
 Ao:bY w A ia il na nl
def kW.af{w j:WD}{a:Nat}{A:Au}{c:OA}{e d:Nat}{f:OA}{i g:Nat}(h:kW w a A c e d f i g)(b:BW w j):kW j a A c e d f i g:=
 ⟨(b.block a (Nu.1 h.dp).1).trans h.dp,h.Ao.af b⟩
def kW.cells{w:WD}{a:Nat}{A:Au}{b:OA}{d c:Nat}{e:OA}{g f:Nat}(h:kW w a A b d c e g f):CA w a 0 (IV A.sets)/\CA w a 1 (.slice b d c)/\CA w a 2 (.slice e g f):=
 ⟨CH h.dp,CH h.dp,CH h.dp⟩
def kW.nd{w:WD}{x:Nat}{A:Au}{r:OA}{t s:Nat}{g:OA}{v u:Nat}(h:kW w x A r t s g v u){i:Nat}(q:i<A.ah.length):∃b o a c d,g=some (AD b o)/\A.ah[i]? =some (A.aw i)/\CA w b (o+i*4) (UV ((A.aw i).ak:Int))/\CA w b (o+i*4+1) (UV ((A.aw i).aD:Int))/\
 CA w b (o+i*4+2) (UV ((A.aw i).aT:Int))/\CA w b (o+i*4+3) (.slice a c d)/\aG .i64 w a c (aH (bV.tO (A.aw i))):=by
 have f:A.ah[i]? =some (A.aw i):=by unfold Au.aw;rw [Nw,Ny q];rfl
 rcases h.Ao.ah with y|⟨b,o,e,p⟩
 have:=h.Ao.bC;omega
 obtain ⟨a,c,d,j,k,l,m,n⟩:=p i _ f
 exact ⟨b,o,a,c,d,e,f,j,k,l,m,n⟩
def JI(w:WD)(p:Nat)(A:Au)(t:OA)(v u:Nat)(z:OA)(k C:Nat)(j:fS A)(h:kW w p A t v u z k C)(i:Nat)(m:i<A.ah.length):
 CL 56 #[IV i,PT p] w λe D=>e=RT (.bool (Ce (A.aw i)))/\BW w D:=by
 obtain ⟨-,-,E⟩:=h.cells
 obtain ⟨b,o,H,J,I,rfl,n,F,G,x,y,f⟩:=h.nd m
 have q:(i:Int)<(k:Int):=by have:=h.Ao.bC;omega
 have r:k<=256:=by have:=h.Ao.bC;have:=j.many;omega
 have g:A.aw i∈A.ah:=NI n
 obtain ⟨c,d⟩:=j.bits _ g
 have a:bits .and .u64 ((A.aw i).ak:Int) ((A.aw i).aD:Int)=(((A.aw i).ak&&&(A.aw i).aD:Nat):Int):=Pw _ _ c d
 have s:((((A.aw i).ak&&&(A.aw i).aD:Nat):Int)==0)=Ce (A.aw i):=by unfold Ce;by_cases e:(A.aw i).ak&&&(A.aw i).aD=0;rw [e];rfl;rw [NX e];simp;omega
 generalize Ce (A.aw i)=B at *
 obtain ⟨N,l⟩:=EX ((A.aw i).ak&&&(A.aw i).aD)
 rw [l]at a s
 generalize (A.aw i).ak=K at *
 generalize (A.aw i).aD=L at *
 clear h n f g x y j c d l m
 go_enter Tryz.func56,Tryz.ntmps56
 go_wp2
 go_quiet (fail)
 go_wp2
 go_ret
 exact ⟨rfl,Scc.below_drewN _ _⟩
section
def wE(M:Int)(k:Nat):Value:=if k=4 then UV M else SN
section
variable {w0 w w1:WD} {g:Nat} {C:Nat->Value} {I:List Nat} {rows:List Value} {Rs:List (List Nat)} {L IN:List Nat} {M:Int}
def PM.aK(m:BW w0 w)(n:w0.heap.size<=g)(f:HC w g #[SN,SN,SN,SN,UV M] 57):PM w0 w g (wE M) [] [] [] [] [] M:=by
 have a:∀k b,qF k->(wE M k).ownBlock=some b->False:=λk b c e=>by unfold wE at e;rw [Of (by unfold qF at c;omega)]at e;cases e
 refine ⟨⟨λk c=>?_,λk=>NA f k,λk c=>by unfold qF at c;omega,λk c=>?_,λi j b d _ e=>(a i b d e).elim,λi d e=>a i g d e,by omega⟩,rfl,rfl,λi V R h=>by simp at h,m,λk s=>?_⟩;rw [Nt f];match k,c with
 |0,_=>rfl
 |1,_=>rfl
 |2,_=>rfl
 |3,_=>rfl
 |4,_=>rfl
 have e:wE M k=SN:=by unfold wE;rw [Of (by unfold qF at c;omega)]
 have l:XP [] [] [] [] k=[]:=by match k with|0=>rfl|1=>rfl|2=>rfl|3=>rfl|_+4=>rfl
 rw [e,l];exact Ox _ _ _ _;rcases s with s|⟨i,d,s⟩;omega;exact (a i k d s).elim
def PM.cW(h:PM w0 w g C I rows Rs L IN M){k:Nat}(c:k<4)(a:aj (λb=>(C k).ownBlock=some b) w w1):CA w1 g k (C k)/\FZ w1 g k:=
 ⟨a.aq (h.oN.cell k (by omega)) (h.oN.off k c),(N7 (a.block g h.oN.lt (h.oN.off k c))).trans (h.oN.mB k)⟩
def PM.sl(h:PM w0 w g C I rows Rs L IN M)(k:Nat)(f:k<4):∃a c,C k=.slice a (XP I rows L IN k).length c/\Sl w (Nb k) (.slice a (XP I rows L IN k).length c) (XP I rows L IN k).length (XP I rows L IN k)/\CA w g k (.slice a (XP I rows L IN k).length c):=by have b:=h.oN.cK k f;obtain ⟨a,c,e,-⟩:=b.shape;have d:=h.oN.cell k (by omega);rw [e]at b d;exact ⟨a,c,e,b,d⟩
def PM.nI(h:PM w0 w g C I rows Rs L IN M):∀(i:Nat)(V:Value)(R:List Nat),rows[i]? =some V->Rs[i]? =some R->w.ownsRow 0 66 2 V R.length (bD (R.map e0))/\∀b,V.ownBlock=some b->¬eN qF g C b:=h.row
structure oo (a w:WD) (v:Value) (R:List Nat):Prop where
 cK:w.ownsRow 0 66 2 v R.length (bD (R.map e0))
 aM:BW a w
 dJ:∀b,v.ownBlock=some b->a.heap.size<=b
def oo.nil(w:WD):oo w w (SN) []:=⟨Ox _ _ _ _,Nx _ _,λb e=>by cases e⟩
def oo.af{b:WD}{v:Value}{R:List Nat}(h:oo b w v R)(a:BW w w1):oo b w1 v R:=
 ⟨bm h.cK (aj.aF a) (λg e s=>by have:=dj h.cK g e;omega),h.aM.trans (a.mono h.aM.size),h.dJ⟩
def oo.dB{f:WD}{v:Value}{R:List Nat}(h:oo f w v R){t a c:_}(j:w1.ownsRow 0 66 2 (.slice a (R.length+1) c) (R.length+1) (bD (R.map e0++[e0 t])))(d:aj (λk=>v.ownBlock=some k) w w1)(i:∀b,(Value.slice a (R.length+1) c).ownBlock=some b->v.ownBlock=some b\/w.heap.size<=b):
 oo f w1 (.slice a (R.length+1) c) (R++[t]):=by
 refine ⟨by rw [NH,Oy];exact j,h.aM.trans (d.af h.aM.size (λk d e=>by have:=h.dJ k e;omega)),λb e=>?_⟩
 rcases i b e with e|e
 exact h.dJ b e
 have:=h.aM.size;omega
def PM.GS{p n:WD}(h:PM w0 p g C I rows Rs L IN M){V:Value}{R:List Nat}(m:oo p w V R){v:Value}(y:Sl w1 64 v (rows.length+1) (rows++[V]))(l:aj (λb=>(C 1).ownBlock=some b) w w1)(x:∃f,v.ownBlock=some f/\((C 1).ownBlock=some f\/w.heap.size<=f))(t:n=w1.setCell (AD g 1) v):
 PM w0 n g (up C 1 v) I (rows++[V]) (Rs++[R]) L IN M/\aj (eN qF g C) w n/\∀b,eN qF g (up C 1 v) b->eN qF g C b\/w.heap.size<=b:=by
 have o:=h.af m.aM
 refine (o.upd (k:=1) (by omega) (xs:=rows++[V]) (by rw [NH,Oz];exact y) l x (No V) (by rw [NH,NH,h.cO];rfl) (λi r q a d=>?_) t)
 rcases P3 i rows.length with c|j|u
 rw [NP c]at a
 rw [NP (by rw [<-h.cO];exact c)]at d
 exact o.row i r q a d
 subst j
 rw [OF]at a
 rw [h.cO,OF]at d
 cases a;cases d
 exact ⟨m.cK,λb e s=>by have:=m.dJ b e;have:=h.oN.kB b s;omega⟩
 rw [O7 (by rw [NH,Oz];omega)]at a;cases a
def PM.base{b:WD}(h:PM w0 w g C I rows Rs L IN M)(a:BW b w0):PM b w g C I rows Rs L IN M:=
 ⟨h.oN,h.all,h.cO,h.row,a.trans (h.aM.mono a.size),λk s=>N5 a.size (h.bL k s)⟩
def PM.result{a:WD}{r:Nat}(h:PM w0 w g C I rows Rs L IN M)(q:BW a w0)(v:a.heap.size<=r)(u:r<w0.heap.size){c:Array Value}(l:w.heap[r]? =some (.cells c 57 (0,0)))(t:aj (λk=>k=r) w w1):PM a w1 g C I rows Rs L IN M:=
 (h.base q).aA t (λk e s=>by have:=h.bL k s;omega) (λk V p e s=>by obtain ⟨i,j⟩:=Pg p;obtain ⟨R,o⟩:∃R,Rs[i]? =some R:=⟨_,Ny (by rw [<-h.cO];exact (NK.1 j).1)⟩;subst s;rcases (h.row i V R j o).1.2 with⟨d,-⟩|⟨b,m,f,d,-,n,-⟩;rw [d]at e;cases e;rw [d]at e;cases e;rw [n]at l;cases l) (λk e=>by omega)
def AL{w:WD}{g:Nat}{j l m n o c d f h i:Value}{t:TypeId}(q:HC w g #[j,l,m,n,o] t)(a:WD)
 (e:a=((((w.setCell (AD g 0) c).setCell (AD g 1) d).setCell (AD g 2) f).setCell (AD g 3) h).setCell (AD g 4) i):
 CA a g 0 c/\CA a g 1 d/\CA a g 2 f/\CA a g 3 h/\CA a g 4 i/\aj (λk=>k=g) w a:=by
 have b:HC a g #[c,d,f,h,i] t:=by rw [e];simp [HC,World.setCell,Ow,q]
 refine ⟨CH b,CH b,CH b,CH b,CH b,?_⟩
 rw [e]
 exact (((((aj.refl (λk=>k=g) w).setCell (p:=(AD g 0)) (λ_=>rfl) c).setCell (p:=(AD g 1)) (λ_=>rfl) d).setCell (p:=(AD g 2)) (λ_=>rfl) f).setCell (p:=(AD g 3)) (λ_=>rfl) h).setCell (p:=(AD g 4)) (λ_=>rfl) i
end
end
def iF(A:Au)(i:Nat):Bool:=Ce (A.aw i)
def iA(A:Au)(i:Nat):List Nat:=if iF A i then(A.aw i).tO.filter (iF A)else []
def ie(A:Au)(i k:Nat):List Nat:=if iF A i then((A.aw i).tO.take k).filter (iF A)else []
def yZ(w:WD)(A:Au)(e:Ending)(h:WD):Prop:=
 ∃c d l I b k E f m L g n a,e=RT (mr c d l b A.ah.length k f m g n A.sets)/\qR h c d I b A.ah.length E f L g a/\Jv A E/\(∀i,i<A.ah.length->a i=(A.aw i).aT)/\I=A.aJ.filter (iF A)/\L=aH ((List.range A.ah.length).map λj=>(A.aw j).ak)/\BW w h
def Ki{A:Au}(i:fS A):Jv A (vD ((List.range A.ah.length).map (iA A))):=by
 have f:(vD ((List.range A.ah.length).map (iA A))).length=A.ah.length:=by simp [vD]
 refine ⟨f,λq y d=>?_⟩;have e:(vD ((List.range A.ah.length).map (iA A))).getD q []=(iA A q).map λ(t:Nat)=>(t:Int):=vE _ (by rw [Oh,Pt d];rfl);unfold Own.gS;rw [f,e];have j:((y:Int)∈(iA A q).map λ(t:Nat)=>(t:Int))↔y∈iA A q:=by
  rw [OC];exact ⟨λ⟨t,a,c⟩=>
   (by obtain rfl:t=y:=(by omega);exact a),λh=>⟨y,h,rfl⟩⟩
 rw [j];unfold iA;constructor;rintro ⟨_,_,h⟩;by_cases b:iF A q=true;rw [Oa b]at h;obtain ⟨a,c⟩:=Og.1 h;exact ⟨a,lh.1 b,lh.1 c⟩;rw [Of b]at h;cases h;rintro ⟨a,c,g⟩;have b:iF A q=true:=lh.2 c;refine ⟨d,i.lN _ ?_ y a,?_⟩;unfold Au.aw;rw [Nw,Ny d];exact OR d;rw [Oa b];exact Og.2 ⟨a,lh.2 g⟩
def kA{p:Nat->Bool}{l:List Nat}{k x:Nat}(h:l[k]? =some x):(l.take (k+1)).filter p=(l.take k).filter p++(if p x then [x]else []):=by rw [OG,h,Option.toList_some,OL];cases a:p x<;>simp [a]
def Iv(w:WD)(A:Au)(ia:OA)(il ic:Nat)(na:OA)(P nc:Nat)(hv:bY w A ia il na P)(hA:fS A):
 CL 32 #[.agg #[IV A.sets,.slice ia il ic,.slice na P nc]] w (yZ w A):=by
 obtain ⟨i3,cM,cT,cR,cL⟩:=Ol Tryz.ed
 obtain ⟨cU,cc,cl,cj,b8⟩:=Ol Tryz.qj
 obtain ⟨cm,aZ,a9,a5,aX⟩:=Ol Tryz.vO
 obtain ⟨q,hq⟩:=EX w.heap.size
 obtain ⟨L,ap⟩:=EX ((w.alloc (.cells #[IV A.sets,.slice ia il ic,.slice na P nc] 36)).alloc (.cells #[SN,SN,SN,SN,UV 0] 57))
 have bm:BW w L:=ap▸aa (ag _ _) (ag _ _)
 have s1:L.heap.size=q+1+1:=by rw [<-ap,NG,NG,hq]
 have cb:L.heap[q]? =some (.cells #[IV A.sets,.slice ia il ic,.slice na P nc] 36 (0,0)):=by rw [<-ap,<-hq,(ND _ _).2 _ (by rw [NG];omega)];exact (ND w _).1
 have b9:L.heap[q+1]? =some (.cells #[SN,SN,SN,SN,UV 0] 57 (0,0)):=by rw [<-ap,<-hq,<-NG w (.cells #[IV A.sets,.slice ia il ic,.slice na P nc] 36)];exact (ND _ _).1
 have Q:Hid (∀l,BW L l->kW l q A ia il ic na P nc):=λl hb=>(kW.mk cb (hv.af bm)).af hb
 have bb:Hid (CL 47 #[.agg #[IV A.sets,.slice ia il ic,.slice na P nc]] L λe l=>e=RT (UV ((2^A.sets-1:Nat):Int))/\BW L l):=yf L A.sets hA.sets _ _
 have ar:Hid (∀l i,BW L l->i<P->CL 56 #[IV i,PT q] l λe bA=>e=RT (.bool (iF A i))/\BW l bA):=λl i hb B=>JI l q A ia il ic na P nc hA (Q.o l hb) i (by rw [hv.bC];exact B)
 have HA:=Nq hA
 have cr:=Nq bm
 have cv:=Nq b9
 have HQ:=Nq hq
 have bR:=Nq s1
 have de:P<=256:=by rw [<-hv.bC];exact hA.many
 have S:Hid (A.ah.length=P):=hv.bC
 have db:il<=16777216:=by have:=hv.aJ.1;rw [aC]at this;rw [<-this];exact hA.il
 have aj:Hid (A.aJ.length=il):=by have:=hv.aJ.1;rw [aC]at this;exact this
 obtain ⟨c0,c1,c2⟩:=(Q.o L (Nx _ _)).cells
 clear hv hA bm cb b9 s1
 go_enter Tryz.func32,Tryz.ntmps32
 go_upto_region 1 with(fail)
 (try rw [ap])
 (try rw [hq])
 clear ap hq
 obtain ⟨M,hM⟩:=EX (((2^A.sets-1:Nat):Int))
 rw [hM]at bb
 have cx:=Nq hM
 clear hM
 go_upto_region 3 with(go_at_call 47;refine bb.o.mono ?_;rintro e w2 ⟨rfl,b7⟩;have cs:=Nq b7;clear b7)
 obtain ⟨g,hg⟩:=EX w2.heap.size
 obtain ⟨w3,aM⟩:=EX (w2.alloc (.cells #[SN,SN,SN,SN,UV M] 57))
 rw [aM,hg]
 have bd:Hid (PM w2 w3 g (wE M) [] [] [] [] [] M):=PM.aK (aM▸ag _ _) (by omega) (by rw [<-aM,<-hg];exact (ND w2 _).1)
 have aq:Hid (BW L w2):=cs.o
 have bh:Hid (∀l,BW w2 l->BW L l):=λl hb=>aa aq.o hb
 obtain ⟨-,d1,d2⟩:=(Q.o w3 (bh.o w3 bd.o.aM)).cells
 clear aM hg bb c0 c1 c2
 go_wp2
 go_loopw [19] (λv wr=>∃(k:Nat)(C:Nat->Value),k<=il/\v=IV k/\Hid (PM w2 wr g C ((A.aJ.take k).filter (iF A)) [] [] [] [] M)) (λv _=>il-(intOf v).toNat)
 exact ⟨0,_,NS _,rfl,bd⟩
 clear bd d1 d2
 obtain ⟨k,C,hk,rfl,K⟩:=hrel
 have F:=Nq (bh.o wr K.o.aM)
 have y:=Q.o wr F.o
 by_cases ao:k<il
 ·have cd:(k:Int)<(il:Int):=by omega
  obtain ⟨i,B⟩:∃i,A.aJ[k]? =some i:=⟨_,Ny (by rw [aj.o];exact ao)⟩;have cN:i<P:=by rw [<-S.o];exact HA.o.aJ i (NI B)
  obtain ⟨-,h0|⟨ib,io,rfl,hc⟩⟩:=y.Ao.aJ
  ·omega
  have ck:wr.cell? (AD ib (io+k))=some (IV i):=by have:=hc k ao;rw [cH (by rw [aj.o];exact ao),Nw,B]at this;exact this
  have ah:=kA (p:=iF A) B;have HC:=Nq (ar.o wr i F.o cN);clear hc y B;cases al:iF A i
  ·rw [al]at HC ah;have E:Hid ((A.aJ.take (k+1)).filter (iF A)=(A.aJ.take k).filter (iF A)):=by rw [ah];exact Nq (Om _)
   clear ah al;go_wp2_with (go_at_call 56;refine HC.o.mono ?_;rintro e w4 ⟨rfl,f⟩;have T:=Nq f;clear f);go_roundw;exact ⟨k+1,C,by omega,by go_num,by rw [E.o];exact Nq (K.o.af T.o)⟩;simp [intOf];omega
  ·rw [al]at HC ah;obtain ⟨J,hJ⟩:=EX ((A.aJ.take k).filter (iF A))
   have b5:J.length<=k:=by rw [<-hJ];exact N5 (OD _ _) (by rw [Pd];omega)
   rw [hJ]at K ah;have E:Hid ((A.aJ.take (k+1)).filter (iF A)=J++[i]):=ah;clear ah al hJ;go_upto_region 7 with(go_at_call 56;refine HC.o.mono ?_;rintro e w4 ⟨rfl,f⟩;have aI:=Nq (K.o.af f);clear f);clear ck K;obtain ⟨a0,bV,bi,bs,cJ⟩:=aI.o.sl 0 (by omega);obtain ⟨m,hm⟩:=EX ((XP J [] [] [] 0).length);rw [hm]at bi bs cJ;have bJ:Hid (m=J.length):=by show m=_;rw [<-hm];exact bW J
   have dd:m<=k:=by rw [bJ.o];exact b5
   have HO:Hid (Sl w4 3 (.slice a0 m bV) m (bI J)):=bs;have aE:=Nq bi;clear bs hm bi b5;go_wp2_with (at_builtin;refine ax rfl (.tmp 28) (.tmp 30) 33 rfl 3 i3 (IV 0) 8 OE cM cT cR cL rfl (by decide) (.slice a0 m bV) _ _ rfl HO.o _ rfl rfl (by omega) ?_;intro g1 c1 w5 hs u G;obtain ⟨q5,f5⟩:=aI.o.cW (k:=0) (by omega) (by rw [aE.o];exact u);rw [aE.o]at q5;have bK:=Nq (aI.o.upd (k:=0) (v:=SV g1 (m+1) c1) (xs:=bI J++[IV i]) (by omega) (by rw [NH,bW,<-bJ.o];exact hs) (by rw [aE.o];exact u) ⟨g1,rfl,by rw [aE.o];exact G⟩ (Ni i) rfl aI.o.nI rfl).1;clear hs u G);go_roundw;exact ⟨k+1,_,by omega,by go_num,by rw [E.o];exact bK⟩;simp [intOf];omega
 ·obtain rfl:k=il:=by omega
  obtain ⟨-,d1,d2⟩:=y.cells;have be:Hid (PM w2 wr g C (A.aJ.filter (iF A)) [] [] [] [] M):=by have:=K.o;rw [Oe (by rw [aj.o];exact Nz _)]at this;exact this
  clear K y;obtain ⟨J,hJ⟩:=EX (A.aJ.filter (iF A));rw [hJ]at be;have HJ:=Nq hJ;clear hJ;obtain ⟨wo,rfl⟩:∃wo:WD,wo=wr:=⟨_,rfl⟩;go_wp2;go_loopw [38] (λv wr=>∃(x:Nat)(C:Nat->Value)(I:List Value),x<=P/\v=IV x/\Hid (PM w2 wr g C J I ((List.range x).map (iA A)) ((List.range x).map λj=>(A.aw j).ak) ((List.range x).map λj=>(A.aw j).aT) M)) (λv _=>P-(intOf v).toNat);exact ⟨0,C,[],NS _,rfl,be⟩;clear be d1 d2;obtain ⟨x,C,I,hx,rfl,K⟩:=hrel;have F:=Nq (bh.o wr K.o.aM);have y:=Q.o wr F.o;obtain ⟨Ls,Z⟩:=EX (((List.range x).map λj=>(A.aw j).ak));obtain ⟨Ns,ab⟩:=EX (((List.range x).map λj=>(A.aw j).aT));obtain ⟨Rs,ac⟩:=EX ((List.range x).map (iA A));rw [Z,ab,ac]at K;by_cases ao:x<P
  ·have cd:(x:Int)<(P:Int):=by omega
   obtain ⟨b,o,ta,tl,tc,rfl,cg,k0,k1,k2,k3,am⟩:=y.nd (i:=x) (by rw [S.o];exact ao);have bz:A.aw x∈A.ah:=NI cg;have di:tl<=16777216:=by have:=am.1;rw [aC]at this;rw [<-this];exact HA.o.tl _ bz
   have aJ:Hid ((A.aw x).tO.length=tl):=by have:=am.1;rw [aC]at this;exact this
   have bT:Hid (∀t∈(A.aw x).tO,t<P):=λt ht=>by rw [<-S.o];exact HA.o.lN _ bz t ht
   have cE:Hid (iA A x=ie A x tl):=by unfold iA ie;rw [Oe (by rw [aJ.o];exact Nz _)];exact Nq rfl
   have cw:Hid (((List.range (x+1)).map λj=>(A.aw j).ak)=Ls++[(A.aw x).ak]):=by rw [OZ,Oy,Z];exact Nq rfl
   have cy:Hid (((List.range (x+1)).map λj=>(A.aw j).aT)=Ns++[(A.aw x).aT]):=by rw [OZ,Oy,ab];exact Nq rfl
   have cD:Hid ((List.range (x+1)).map (iA A)=Rs++[iA A x]):=by rw [OZ,Oy,ac];exact Nq rfl
   have bF:Hid (Ls.length=x):=by show _=_;rw [<-Z];simp
   have bL:Hid (Ns.length=x):=by show _=_;rw [<-ab];simp
   have bQ:Hid (I.length=x):=by show _=_;rw [K.o.cO,<-ac];simp
   have bN:Hid (∀j t,(A.aw x).tO[j]? =some t->ie A x (j+1)=ie A x j++(if iF A x&&iF A t then [t]else [])):=λj t h=>by unfold ie;rw [kA h];cases iF A x<;>simp
   have bg:Hid (∀l,BW wr l->aG .i64 l ta tl (aH (A.aw x).tO)):=λl hb=>am.af hb;obtain ⟨aN,a7⟩:=EX ((A.aw x).tO);rw [a7]at aJ bT bN bg;obtain ⟨wq,aB⟩:=EX (wr.alloc (.cells #[UV ((A.aw x).ak:Int),UV ((A.aw x).aD:Int),UV ((A.aw x).aT:Int),.slice ta tl tc] 62));obtain ⟨nb,bq⟩:=EX wr.heap.size;have aK:BW wr wq:=aB▸ag _ _;have au:=bp wr #[UV ((A.aw x).ak:Int),UV ((A.aw x).aD:Int),UV ((A.aw x).aT:Int),.slice ta tl tc] 62;rw [aB,bq]at au;have n0:=(au 0 _ rfl).1;have n2:=(au 2 _ rfl).1;have n3:=(au 3 _ rfl).1;have bc:Hid (¬eN qF g C nb):=λs=>by have:=K.o.oN.kB nb s;omega
   have bO:=Nq (K.o.af aK);have bU:Hid (∀l,BW wq l->aG .i64 l ta tl (aH aN)):=λl hb=>bg.o l (aa aK hb);have cu:Hid (BW L wq):=aa F.o aK;have c5:nb<wq.heap.size:=by rw [<-aB,NG];omega
   generalize (A.aw x).ak=ai at *;generalize (A.aw x).aD=da at *;generalize (A.aw x).aT=ba at *;clear Z ab ac cg am bz au aK a7 bg y K F;go_upto_region 13 with(fail);(try rw [aB]);(try rw [bq]);clear aB bq k0 k1 k2 k3;go_wp2;go_loopw [9,46] (λlv v wx=>∃(j:Nat)(a:OA)(m c:Nat),j<=tl/\v=IV j/\lv=.slice a m c/\m<=j/\Hid (oo wq wx (.slice a m c) (ie A x j))/\Hid (m=(ie A x j).length)) (λ_ v _=>tl-(intOf v).toNat);case atStart=>exact ⟨0,none,0,0,NS _,rfl,rfl,Nz _,by
    have:ie A x 0=[]:=by unfold ie;cases iF A x<;>simp
    rw [this];exact Nq (oo.nil wq),by
    have:ie A x 0=[]:=by unfold ie;cases iF A x<;>simp
    rw [this];exact Nq rfl⟩
   case round=>
    clear n3;obtain ⟨j,a,m,c,hj,rfl,rfl,dc,H,O⟩:=hrel;by_cases bo:j<tl
    ·have cY:(j:Int)<(tl:Int):=by omega
     obtain ⟨t,ht⟩:∃t,aN[j]? =some t:=⟨_,Ny (by rw [aJ.o];exact bo)⟩;have cS:=bT.o t (NI ht);obtain ⟨-,h0|⟨tb,cW,rfl,hc⟩⟩:=bU.o wr H.o.aM
     ·omega
     have ck:wr.cell? (AD tb (cW+j))=some (IV t):=by have:=hc j bo;rw [cH (by rw [aJ.o];exact bo),Nw,ht]at this;exact this
     have HB:=Nq (aa cu.o H.o.aM);have D:=Nq (ar.o wr x HB.o ao);have N:Hid (∀l,BW wr l->CL 56 #[IV t,PT q] l λe bA=>e=RT (.bool (iF A t))/\BW l bA):=λl hb=>ar.o l t (aa HB.o hb) cS;have HS:=Nq (bN.o j t ht);clear hc ht n0 n2;cases aw:iF A x
     ·rw [aw]at D HS;have E:Hid (ie A x (j+1)=ie A x j):=by rw [HS.o];exact Nq (Om _)
      clear aw HS;go_wp2_with (go_at_call 56;refine D.o.mono ?_;rintro e w4 ⟨rfl,f⟩;have T:=Nq f;clear f);go_roundw;exact ⟨j+1,a,m,c,by omega,by go_num,rfl,by omega,by rw [E.o];exact Nq (H.o.af T.o),by rw [E.o];exact O⟩;simp [intOf];omega
     ·rw [aw]at D HS;cases aL:iF A t
      ·rw [aL]at N HS;have E:Hid (ie A x (j+1)=ie A x j):=by rw [HS.o];exact Nq (Om _)
       clear aw aL HS;go_wp2_with (first|(go_at_call 56;refine D.o.mono ?_;rintro e w4 ⟨rfl,f⟩;have T:=Nq f;have R:=Nq (N.o w4 f);clear f D)|(go_at_call 56;refine R.o.mono ?_;rintro e w5 ⟨rfl,av⟩;have ct:=Nq av;clear av));go_roundw;exact ⟨j+1,a,m,c,by omega,by go_num,rfl,by omega,by rw [E.o];exact Nq (H.o.af (aa T.o ct.o)),by rw [E.o];exact O⟩;simp [intOf];omega
      ·rw [aL]at N HS;have E:Hid (ie A x (j+1)=ie A x j++[t]):=by rw [HS.o];exact Nq rfl
       clear aw aL HS;go_upto_region 17 with(first|(go_at_call 56;refine D.o.mono ?_;rintro e w4 ⟨rfl,f⟩;have T:=Nq f;have R:=Nq (N.o w4 f);clear f D)|(go_at_call 56;refine R.o.mono ?_;rintro e w5 ⟨rfl,av⟩;have aU:=Nq (H.o.af (aa T.o av));clear av));have HO:Hid (w5.ownsRow 0 66 2 (.slice a m c) m (bD ((ie A x j).map e0))):=by have:=aU.o.cK;rw [<-O.o]at this;exact this
       clear ck;go_wp2_with (at_builtin;refine ki rfl (.tmp 58) (.tmp 61) rfl (.slice a m c) m ((ie A x j).map e0) (by rw [NU];exact O.o.symm) rfl HO.o (e0 t) rfl (by omega) ?_;intro a8 c8 w8 ho hk ce;have cz:=Nq (aU.o.dB (t:=t) (by rw [<-O.o];exact ho) hk (by rw [<-O.o];exact ce));clear ho hk ce);go_roundw;exact ⟨j+1,a8,m+1,c8,by omega,by go_num,rfl,by omega,by rw [E.o,O.o];exact cz,by rw [E.o,NH,<-O.o];exact Nq rfl⟩;simp [intOf];omega
    ·obtain rfl:j=tl:=by omega
     obtain ⟨wx,rfl⟩:∃wx:WD,wx=wr:=⟨_,rfl⟩;have cF:Hid (oo wq wx (.slice a m c) (iA A x)):=by rw [cE.o];exact H
     have bP:=Nq (bO.o.af H.o.aM);have p0:=(H.o.aM.cell (by simp only;omega)).trans n0;have p2:=(H.o.aM.cell (by simp only;omega)).trans n2;have cf:nb<wx.heap.size:=by have:=H.o.aM.size;omega
     clear n0 n2 H O;obtain ⟨a1,bX,bj,bt,b1⟩:=bP.o.sl 1 (by omega);have ay:(XP J I Ls Ns 1).length=x:=bQ.o;rw [ay]at bj bt b1;have cA:Hid (Sl wx 64 (.slice a1 x bX) x I):=bt;have D:=Nq bj;clear ay bj bt;go_upto_region 20 with(at_builtin;refine ax rfl (.tmp 66) (.tmp 68) 53 rfl 64 cU (SN) 24 Rb cc cl cj b8 rfl (by decide) (.slice a1 x bX) _ _ rfl cA.o _ rfl rfl (by omega) ?_;intro g1 c1 w7 hs u G;obtain ⟨q7,f7⟩:=bP.o.cW (k:=1) (by omega) (by rw [D.o];exact u);rw [D.o]at q7;obtain ⟨w8,bw⟩:=EX (w7.setCell (AD g 1) (SV g1 (x+1) c1));obtain ⟨m1,m2,m3⟩:=bO.o.GS cF.o (v:=SV g1 (x+1) c1) (by rw [bQ.o];exact hs) (by rw [D.o];exact u) ⟨g1,rfl,by rw [D.o];exact G⟩ bw.symm;have U:=Nq m1;have aF:=Nq m2;have bH:=Nq m3;clear hs u G m1 m2 m3);(try rw [bw]);have cV:=aF.o.aq p0 bc.o;have cn:=aF.o.aq p2 bc.o;have aR:Hid (¬eN qF g (up C 1 (SV g1 (x+1) c1)) nb):=λs=>(bH.o nb s).elim bc.o (λh=>by omega);have cZ:nb<w8.heap.size:=by have:=aF.o.size;omega
     clear bw p0 p2 b1 q7 f7 aF bH cf;obtain ⟨C2,aV⟩:=EX (up C 1 (SV g1 (x+1) c1));rw [aV]at U aR;clear aV;obtain ⟨a2,bZ,bk,bu,b2⟩:=U.o.sl 2 (by omega);have ad:(XP J (I++[.slice a m c]) Ls Ns 2).length=x:=by show(dK Ls).length=x;unfold dK;rw [NU];exact bF.o
     rw [ad]at bk bu b2;have cB:Hid (Sl w8 45 (.slice a2 x bZ) x (dK Ls)):=bu;have N:=Nq bk;clear ad bk bu;go_upto_region 21 with(at_builtin;refine ax rfl (.tmp 74) (.tmp 77) 23 rfl 45 cm (UV 0) 8 PC aZ a9 a5 aX rfl (by decide) (.slice a2 x bZ) _ _ rfl cB.o _ rfl rfl (by omega) ?_;intro g2 c3 w9 hs u G;obtain ⟨q9,f9⟩:=U.o.cW (k:=2) (by omega) (by rw [N.o];exact u);rw [N.o]at q9;obtain ⟨bB,az⟩:=EX (w9.setCell (AD g 2) (SV g2 (x+1) c3));obtain ⟨m1,m2,m3⟩:=U.o.upd (k:=2) (v:=SV g2 (x+1) c3) (xs:=dK Ls++[UV ai]) (by omega) (by rw [NH,dK,NU,bF.o];exact hs) (by rw [N.o];exact u) ⟨g2,rfl,by rw [N.o];exact G⟩ (Np ai) U.o.cO U.o.nI az.symm;have V:=Nq m1;have bS:=Nq m2;have cG:=Nq m3;clear hs u G m1 m2 m3);(try rw [az]);have co:=bS.o.aq cn aR.o;clear az cV cn b2 q9 f9 bS cG U;obtain ⟨C3,aW⟩:=EX (up C2 2 (SV g2 (x+1) c3));rw [aW]at V;clear aW;obtain ⟨a3,b0,bl,bv,b3⟩:=V.o.sl 3 (by omega);have ae:(XP J (I++[.slice a m c]) (Ls++[ai]) Ns 3).length=x:=by show(dK Ns).length=x;unfold dK;rw [NU];exact bL.o
     rw [ae]at bl bv b3;have cC:Hid (Sl bB 45 (.slice a3 x b0) x (dK Ns)):=bv;have R:=Nq bl;clear ae bl bv;go_wp2_with (at_builtin;refine ax rfl (.tmp 82) (.tmp 85) 23 rfl 45 cm (UV 0) 8 PC aZ a9 a5 aX rfl (by decide) (.slice a3 x b0) _ _ rfl cC.o _ rfl rfl (by omega) ?_;intro g3 c4 cX hs u G;obtain ⟨cp,cK⟩:=V.o.cW (k:=3) (by omega) (by rw [R.o];exact u);rw [R.o]at cp;obtain ⟨cq,aA⟩:=EX (cX.setCell (AD g 3) (SV g3 (x+1) c4));obtain ⟨m1,m2,m3⟩:=V.o.upd (k:=3) (v:=SV g3 (x+1) c4) (xs:=dK Ns++[UV ba]) (by omega) (by rw [NH,dK,NU,bL.o];exact hs) (by rw [R.o];exact u) ⟨g3,rfl,by rw [R.o];exact G⟩ (Nj ba) V.o.cO V.o.nI aA.symm;have cI:=Nq m1;clear hs u G m1 m2 m3);(try rw [aA]);clear aA co b3 cp cK V;go_roundw;exact ⟨x+1,_,_,by omega,by go_num,by rw [cD.o,cw.o,cy.o];exact cI⟩;simp [intOf];omega
  ·obtain rfl:x=P:=by omega
   obtain ⟨va,vc,ve,aO,vl,aP,vn,aQ,an,W,X,Y,r0,r1,r2,r3⟩:=K.o.KG;have g0:=K.o.oN.cell 0 (by omega);have g1:=K.o.oN.cell 1 (by omega);have g2:=K.o.oN.cell 2 (by omega);have g3:=K.o.oN.cell 3 (by omega);have g4:=K.o.oN.cell 4 (by omega);have b4:=K.o.all;rw [an]at g0;rw [W]at g1;rw [X]at g2;rw [Y]at g3;rw [b4]at g4;have ay:Rs.length=x:=by rw [<-ac];simp
   have ad:Ls.length=x:=by rw [<-Z];simp
   have ae:Ns.length=x:=by rw [<-ab];simp
   rw [ay]at g1 W;rw [ad]at g2 X;rw [ae]at g3 Y;have d:wr.heap[q+1]? =some (.cells #[SN,SN,SN,SN,UV 0] 57 (0,0)):=(F.o.block _ (by have:=bR.o;omega)).trans cv.o;have z0:wr.cell? (AD (q+1) 0)=some (SN):=CH d;have z1:wr.cell? (AD (q+1) 1)=some (SN):=CH d;have z2:wr.cell? (AD (q+1) 2)=some (SN):=CH d;have z3:wr.cell? (AD (q+1) 3)=some (SN):=CH d;have z4:wr.cell? (AD (q+1) 4)=some (UV 0):=CH d;have y0:wr.frozen? (AD (q+1) 0)=false:=NA d 0;have y1:wr.frozen? (AD (q+1) 1)=false:=NA d 1;have y2:wr.frozen? (AD (q+1) 2)=false:=NA d 2;have y3:wr.frozen? (AD (q+1) 3)=false:=NA d 3;have y4:wr.frozen? (AD (q+1) 4)=false:=NA d 4;have aS:=Nq d;have bC:Hid (C 0=.slice va J.length vc/\C 1=.slice ve x aO/\C 2=.slice vl x aP/\C 3=.slice vn x aQ):=⟨an,W,X,Y⟩;have bG:=Nq Z;have bM:=Nq ab;have bf:=Nq ac;obtain ⟨jl,bn⟩:=EX J.length;rw [bn]at g0 bC;have bE:=Nq bn;clear d r0 r1 r2 r3 an W X Y b4 ay ad ae Z ab ac bn y;go_wp2;(try simp only [Exit.inBlock,Exit.then]);obtain ⟨w9,bx⟩:=EX (((((wr.setCell (AD (q+1) 0) (.slice va jl vc)).setCell (AD (q+1) 1) (.slice ve x aO)).setCell (AD (q+1) 2) (.slice vl x aP)).setCell (AD (q+1) 3) (.slice vn x aQ)).setCell (AD (q+1) 4) (UV M));rw [bx];obtain ⟨d0,d1,d2,d3,d4,cO⟩:=AL aS.o w9 bx.symm;clear bx z0 z1 z2 z3 z4 y0 y1 y2 y3 y4 g0 g1 g2 g3 g4;refine OS (v:=.agg #[.slice va jl vc,.slice ve x aO,.slice vl x aP,.slice vn x aQ,UV M]) ?_ rfl ?_
   ·rw [cP rfl];go_simp
   ·have ca:BW w w2:=aa cr.o aq.o;have dh:=aq.o.size
    have dg:=bR.o;have df:=HQ.o;have ci:=K.o.result ca (r:=q+1) (by omega) (by omega) aS.o cO;obtain ⟨dj,dk,dl,c6,dm,c7,dn,c9,an,W,X,Y,r0,r1,r2,r3⟩:=ci.KG;obtain ⟨f0,f1,f2,f3⟩:=bC.o;rw [f0]at an;rw [f1]at W;rw [f2]at X;rw [f3]at Y;obtain ⟨rfl,-,rfl⟩:=On an;obtain ⟨rfl,-,rfl⟩:=On W;obtain ⟨rfl,-,rfl⟩:=On X;obtain ⟨rfl,-,rfl⟩:=On Y;have ad:Ls.length=x:=by rw [<-bG.o];simp
    have ae:Ns.length=x:=by rw [<-bM.o];simp
    have cQ:Rs.length=x:=by rw [<-bf.o];simp
    have ch:=Ki HA.o;rw [S.o,bf.o]at ch;have b6:∀i,i<x->(vD Rs).getD i []=(iA A i).map λ(t:Nat)=>(t:Int):=λi B=>vE _ (by rw [<-bf.o,Oh,Pt B];rfl);have br:∀i,i<x->A.aw i∈A.ah:=λi B=>by unfold Au.aw;rw [Nw,Ny (by rw [S.o];exact B)];exact OR _
    have a6:∀i,i<x->(∀t∈iA A i,t<x)/\(iA A i).length<=16777216:=λi B=>by
     have h1:=HA.o.tl _ (br i B);have h2:=HA.o.lN _ (br i B);unfold iA;cases iF A i
     ·exact ⟨λt h=>by simp at h,by simp⟩
     ·refine ⟨λt h=>?_,?_⟩
      ·rw [<-S.o];exact h2 t (Og.1 (by simpa using h)).1
      ·have h3:=OD (iF A) (A.aw i).tO;simp only [Qo]
       exact N5 h3 h1
    have aY:∀i,i<x->((vD Rs).getD i []).length<=16777216:=λi B=>by rw [b6 i B,NU];exact (a6 i B).2
    have a4:(vD Rs).length=x:=by unfold vD;rw [NU];exact cQ
    unfold yZ;rw [S.o];refine ⟨va,jl,vc,J,ve,aO,vD Rs,vl,aP,aH Ls,vn,aQ,λi=>(A.aw i).aT,?_,⟨⟨⟨a4,r1,λi B z hz=>?_,λi B=>?_,by omega⟩,?_,λi B=>?_,aY⟩,?_,?_,?_,λi B=>?_⟩,ch,λi _=>rfl,HJ.o.symm,?_,?_⟩
    ·unfold mr;rw [cx.o]
    ·rw [b6 i B]at hz;obtain ⟨t,ht,rfl⟩:=OC.1 hz
     have:=(a6 i B).1 t ht;omega
    ·have:=aY i (by rw [<-a4];exact B);omega
    ·rw [ae]at r3;rw [bM.o];exact r3
    ·have h1:=HA.o.aT _ (br i B);have h2:=O1 (n:=2) (by decide) HA.o.sets
     exact NL h1 (N5 h2 (by decide))
    ·rw [bE.o]at r0;exact r0
    ·rw [ad]at r2;exact r2
    ·rw [<-bE.o,<-HJ.o];exact N5 (OD _ _) (by rw [aj.o];omega)
    ·rw [<-HJ.o]at B;rw [<-S.o];exact HA.o.aJ i (Og.1 B).1
    ·rw [bG.o]
    ·exact ci.aM
def me(a b u:Nat):Bool:=decide (pD a u=0)&&decide (b&&&u=0)
def iK{a b u:Nat}(g:a<18446744073709551616)(i:u<18446744073709551616):me a b u=true↔ji a b u:=by
 unfold me ji;rw [OB,OP,OP,pE g i];constructor;rintro ⟨e,f⟩ k;refine ⟨e k,λc=>?_⟩;have d:(b&&&u).testBit k=false:=by rw [f,PF]
 rw [PB,c,OM]at d;exact d;intro h;refine ⟨λk=>(h k).1,Qx λk=>?_⟩;rw [PB,PF];cases c:b.testBit k
 rfl;rw [(h k).2 c];rfl
structure Ez (w:WD) (g:Nat) (c:OA) (b cs:Nat) (a:OA) (nl d:Nat) (f e:List Nat):Prop where
 dp:w.heap[g]? =some (.cells #[.slice c b cs,.slice a nl d] 25 (0,0))
 MF:aG .u64 w c b (aH f)
 loop:aG .u64 w a nl (aH e)
def Ez.af{w l:WD}{b:Nat}{j:OA}{i d:Nat}{e:OA}{g c:Nat}{k f:List Nat}(h:Ez w b j i d e g c k f)(a:BW w l):Ez l b j i d e g c k f:=
 ⟨(a.block b (Nu.1 h.dp).1).trans h.dp,h.MF.af a,h.loop.af a⟩
def AY(b a:List Nat)(k:Nat)(c:0<a.length):gJ (aH b) (aH a) k=((cJ b a k:Nat):Int):=by unfold gJ cJ;rw [aC,aC];by_cases h:k<b.length;rw [Oa h,Oa h,cH h];rw [Of h,Of h,cH (QV _ c)]
def gV(b a:List Nat):Prop:=(∀x∈b,x<18446744073709551616)/\∀x∈a,x<18446744073709551616
def gV.lt{c b:List Nat}(h:gV c b)(k:Nat)(d:0<b.length):cJ c b k<18446744073709551616:=by unfold cJ;split;rename_i a;rw [Nw,Ny a];exact h.1 _ (OR a);have a:=QV (k-c.length) d;rw [Nw,Ny a];exact h.2 _ (OR a)
def iB(A:Au)(b a:List Nat)(i k:Nat):Bool:=me (A.aw i).ak (A.aw i).aD (cJ b a k)
def FT(w:WD)(G L:Nat)(F:OA)(z C:Nat)(D:OA)(a f:Nat)(j g:List Nat)(A:Au)(T:OA)(V U:Nat)(Y:OA)(E Z:Nat)(P:fS A)(h:kW w L A T V U Y E Z)(hw:Ez w G F z C D a f j g)(Q:gV j g)(h1:z<=1000000)(h2:a<=1000000)(hp:0<a)(i k:Nat)(R:i<A.ah.length)(hk:k<=1000000):
 CL 49 #[IV i,IV k,PT G,PT L] w λe m=>e=RT (.bool (iB A j g i k))/\BW w m:=by
 have I:g.length=a:=by have:=hw.loop.1;rw [aC]at this;exact this
 have w0:CA w G 0 (.slice F z C):=CH hw.dp
 have w1:CA w G 1 (.slice D a f):=CH hw.dp
 have H:Hid (CL 50 #[.agg #[.slice F z C,.slice D a f],IV k] w λe m=>e=RT (UV ((cJ j g k:Nat):Int))/\BW w m):=by have:=KH F z C D a f (aH j) (aH g) k w h1 h2 hk hw.MF hw.loop hp;rw [AY j g k (by omega)]at this;exact this
 have l:=Q.lt k (by omega)
 have p:Hid (∀m,BW w m->kW m L A T V U Y E Z):=λm hb=>h.af hb
 have aa:Hid (A.ah.length=E):=h.Ao.bC
 have ab:(i:Int)<(E:Int):=by have:=h.Ao.bC;omega
 have HI:=Nq R
 have HA:=Nq P
 obtain ⟨u,J⟩:=EX (cJ j g k)
 rw [J]at H l
 have HU:Hid (iB A j g i k=me (A.aw i).ak (A.aw i).aD u):=by unfold iB;rw [J];exact Nq rfl
 rw [HU.o]
 clear h hw Q P J I R
 go_enter Tryz.func49,Tryz.ntmps49
 go_upto_region 2 with(go_at_call 50;refine H.o.mono ?_;rintro e w2 ⟨rfl,c⟩;have d:=Nq c;clear c)
 clear w0 w1
 obtain ⟨-,-,c2⟩:=(p.o w2 d.o).cells
 obtain ⟨b,o,ta,tl,tc,rfl,S,k0,k1,k2,k3,x⟩:=(p.o w2 d.o).nd HI.o
 have y:A.aw i∈A.ah:=NI S
 obtain ⟨v,c⟩:=HA.o.bits _ y
 have W:bits .andNot .u64 ((A.aw i).ak:Int) (u:Int)=((pD (A.aw i).ak u:Nat):Int):=SF _ _ v l
 have X:bits .and .u64 ((A.aw i).aD:Int) (u:Int)=(((A.aw i).aD&&&u:Nat):Int):=Pw _ _ c l
 have K:∀N:Nat,((N:Int)==0)=decide (N=0):=λN=>by by_cases e:N=0;subst e;rfl;rw [NX e];simp;omega
 have n:Hid (me (A.aw i).ak (A.aw i).aD u=(decide (pD (A.aw i).ak u=0)&&decide ((A.aw i).aD&&&u=0))):=rfl
 obtain ⟨M,s⟩:=EX (pD (A.aw i).ak u)
 obtain ⟨O,t⟩:=EX ((A.aw i).aD&&&u)
 rw [s]at W n
 rw [t]at X n
 have z1:=K M
 have z2:=K O
 obtain ⟨B1,q⟩:=EX (decide (M=0))
 obtain ⟨B2,r⟩:=EX (decide (O=0))
 rw [q]at z1 n
 rw [r]at z2 n
 clear K s t q r S x y k2 k3 v c H
 generalize (A.aw i).ak=x1 at k0 W
 generalize (A.aw i).aD=x2 at k1 X
 cases B1
 go_wp2
 go_ret
 exact ⟨by rw [n.o];rfl,d.o⟩
 go_wp2
 go_ret
 exact ⟨by rw [n.o];rfl,d.o⟩
def RJ:=@Nat.mul_comm
def jT(A:Au)(b a:List Nat)(k i:Nat):List Nat:=if iB A b a i k then((A.aw i).tO.filter λt=>iB A b a t (gi b a k)).map λt=>gi b a k*A.ah.length+t else []
def fp(A:Au)(b a:List Nat)(k i j:Nat):List Nat:=if iB A b a i k then(((A.aw i).tO.take j).filter λt=>iB A b a t (gi b a k)).map λt=>gi b a k*A.ah.length+t else []
def fq(A:Au)(b a:List Nat)(z:Nat):List Nat:=jT A b a (z/A.ah.length) (z%A.ah.length)
def Jq(A:Au)(z:Nat):Nat:=(A.aw (z%A.ah.length)).aT
def dm{n k i:Nat}(a:i<n):(k*n+i)/n=k/\(k*n+i)%n=i:=by
 have b:0<n:=by omega
 constructor;rw [RJ,Nat.mul_add_div b,S9 a,Rl];rw [RJ,Tg,Q3 a]
def pC{b a:List Nat}{k:Nat}(d:0<a.length)(c:k<b.length+a.length):gi b a k<b.length+a.length:=by unfold gi;split<;>omega
def dO{A:Au}{i:Nat}(a:i<A.ah.length):A.aw i∈A.ah:=by unfold Au.aw;rw [Nw,Ny a];exact OR a
def GW{A:Au}(m:fS A){b a:List Nat}(p:0<a.length)(v:gV b a):
 Dw A b a (vD ((List.range ((b.length+a.length)*A.ah.length)).map (fq A b a))) (λk q=>k*A.ah.length+q) (λz=>z/A.ah.length) (λz=>z%A.ah.length):=by
 have B:(vD ((List.range ((b.length+a.length)*A.ah.length)).map (fq A b a))).length=(b.length+a.length)*A.ah.length:=by simp [vD]
 have o:∀k q,k<b.length+a.length->q<A.ah.length->k*A.ah.length+q<(b.length+a.length)*A.ah.length:=λk q l c=>by have e:(k+1)*A.ah.length<=(b.length+a.length)*A.ah.length:=PY _ l;rw [Qz]at e;omega
 refine ⟨λk q _ c=>(dm c).1,λk q _ c=>(dm c).2,λk q l c y=>?_⟩
 have s:=o k q l c
 have n:(vD ((List.range ((b.length+a.length)*A.ah.length)).map (fq A b a))).getD (k*A.ah.length+q) []=(fq A b a (k*A.ah.length+q)).map λ(t:Nat)=>(t:Int):=vE _ (by rw [Oh,Pt s];rfl)
 have w:fq A b a (k*A.ah.length+q)=jT A b a k q:=by unfold fq;rw [(dm c).1,(dm c).2]
 have d:∀i k,i<A.ah.length->(iB A b a i k=true↔ji (A.aw i).ak (A.aw i).aD (cJ b a k)):=λi k x=>iK (m.bits _ (dO x)).1 (v.lt k p)
 unfold Own.gS
 rw [B,n,w]
 have C:((y:Int)∈(jT A b a k q).map λ(t:Nat)=>(t:Int))↔y∈jT A b a k q:=by
  rw [OC];exact ⟨λ⟨t,e,g⟩=>
   (by obtain rfl:t=y:=(by omega);exact e),λh=>⟨y,h,rfl⟩⟩
 rw [C]
 unfold jT
 constructor
 rintro ⟨_,_,h⟩
 by_cases f:iB A b a q k=true
 rw [Oa f]at h
 obtain ⟨t,e,g⟩:=OC.1 h
 obtain ⟨j,u⟩:=Og.1 e
 exact ⟨t,j,(d q k c).1 f,(d t _ (m.lN _ (dO c) t j)).1 u,g.symm⟩
 rw [Of f]at h;cases h
 rintro ⟨t,e,g,j,rfl⟩
 have r:=m.lN _ (dO c) t e
 have f:=(d q k c).2 g
 refine ⟨s,o _ t (pC p l) r,?_⟩
 rw [Oa f]
 exact OC.2 ⟨t,Og.2 ⟨e,(d t _ r).2 j⟩,rfl⟩
def Ad(w:WD)(A:Au)(b a:List Nat)(e:Ending)(l:WD):Prop:=
 ∃f g o I d m E h p L j r c n,n=(b.length+a.length)*A.ah.length/\e=RT (mr f g o d n m h p j r A.sets)/\qR l f g I d n E h L j c/\Dw A b a E (λk q=>k*A.ah.length+q) (λz=>z/A.ah.length) (λz=>z%A.ah.length)/\(∀z,z<n->c z=(A.aw (z%A.ah.length)).aT)/\I=A.aJ.filter (λi=>iB A b a i 0)/\BW w l
end Go.Proofs.YtimniinkpipnmaaGreatDoor
