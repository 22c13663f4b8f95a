/- A part of the proof of TopWitness. -/
import Derived.Test.YtimniinkpipnmaaGreatDoorV7
set_option maxRecDepth 100000
set_option maxHeartbeats 8000000
set_option linter.all false
namespace Go.Proofs.YtimniinkpipnmaaGreatDoor
open Go.Own Go.RowKit Go.Proofs.Tryz
section
open Go.Shelf
def SF:=@Array.replicate_succ
def SG:=@Array.replicate_zero
def SU:=@List.append_toArray
def S1:=@Go.run_takeDeferred
def S3:=@Go.callsIn_of_wp_marks
def Te:=@List.push_toArray
def TD:=@Go.Oper.semAt_some
def UD:=@Go.Proofs.enters_of
attribute [local go_sem] TD
def qj(w c b d f a):
 CL 33 #[.agg #[c,b,d,f,a]] w λe g=>e=RT (.func (.func 57) #[] #[PT w.heap.size])/\g=w.alloc (CE #[c,b,d,f,a] 57):=by
 go_enter func33,ntmps33
 go_wp2
 go_ret
 exact ⟨rfl,rfl⟩
def cF{g b n c}(e:(SV b n c).ownBlock=some g):b=g:=by cases e;rfl
def Bc{w b n f}(h:Sl w 4 (SV b n n) n (bB n f)):dq w (some (AD b 0)) n f:=by
 have⟨a,c,e,k⟩:=h.shape;cases e
 refine ⟨b,0,rfl,λi d=>?_⟩;obtain ⟨g,e,-,j⟩:=k i d;cases e
 rw [PU,j,eQ _ _ _ d]
def mD{w b n i f}(h:Sl w 4 (SV b n n) n (bB n f))(c:i<n)(v):Sl (w.setCell (AD b i) (.bool v)) 4 (SV b n n) n (bB n (up f i v))/\w.cell? (AD b i)=some (.bool (f i))/\w.frozen? (AD b i)=false:=by have a:=eN h;refine ⟨?_,?_,Pg a i⟩;rw [<-kH n f i v c];refine gC ?_ (by simp [ed]) (de h).2.1;simp [HC,World.setCell,P7,a];rw [Pa a];simp [bB,c]
def DS{B A W p v}(h:A.cell? p=some v)(e:aj (λk=>B<=k/\∃o,A.heap[k]? =some o/\o.isCells=false) A W):W.cell? p=some v:=
 e.aq h (λs=>by have⟨o,c,d⟩:=cells_of_cell h;obtain ⟨-,f,a,b⟩:=s;rw [c]at a;cases a;rw [d]at b;cases b)
def jT{k A W a n l}(h:aG k A a n l){T:Nat->Prop}(p:aj (λk=>T k/\∃o,A.heap[k]? =some o/\o.isCells=false) A W):aG k W a n l:=by refine ⟨h.1,h.2.imp id ?_⟩;rintro ⟨b,c,rfl,g⟩;refine ⟨b,c,rfl,λi j=>p.aq (g i j) (λs=>?_)⟩;have⟨o,d,m⟩:=cells_of_cell (g i j);obtain ⟨-,q,e,f⟩:=s;simp only at d;rw [d]at e;cases e;rw [m]at f;cases f
def Jp{A W e v n f}(h:Sl A e v n f){T:Nat->Prop}(p:aj (λk=>T k/\∃o,A.heap[k]? =some o/\o.isCells=false) A W):Sl W e v n f:=by refine h.ax p λg a s=>?_;obtain ⟨-,r,d,l⟩:=s;obtain ⟨c,-⟩|⟨b,i,j,c,q,m,-⟩:=h.2;rw [c]at a;cases a;rw [c]at a;cases a;rw [m]at d;cases d;cases l
structure pN (w:WD) (ia:OA) (il:Nat) (I:List Nat) (b:OA) (n:Nat) (E:List (List Int)) (c:OA) (L:List Int) (na:OA) (a:Nat->Nat):Prop where
 pg:wh w b n E na a
 n8:aG .i64 w ia il (aE I)
 NZ:aG .u64 w c n L
 il:il<=1000000000
 Mo:∀i∈I,i<n
def pN.ag{w w' d e I c n E f L g b}(h:pN w d e I c n E f L g b)(a:BW w w'):pN w' d e I c n E f L g b:=
 ⟨h.pg.ag a,h.n8.ag a,h.NZ.ag a,h.il,h.Mo⟩
def jj(c:OA)(e d:Nat)(a:OA)(n b:Nat)(f:OA)(g:Nat)(h:OA)(i S:Nat):Value:=.agg #[SL c e d,SL a n b,SL f n g,SL h n i,UV ((2^S-1:Nat):Int)]
def Am(E:List (List Int))(a:Nat->Nat)(S n:Nat)(w:WD)(e:Ending)(b:WD):Prop:=
 ∃v r,e=RT v/\dP w b v n r/\∀x,x<n->(r x=true↔yv E (λs x=>(a x).testBit s=true) S x)
structure vW (w:WD) (E:List (List Int)) (n q:Nat) (a:List (Nat×Value)) (T:Nat->Prop) (W:WD):Prop where
 arr:∃f:Nat->Bool,Sl W 4 (SV (q+1) n n) n (bB n f)/\∀x,x<n->(f x=true↔∃u∈a.map Prod.fst,x∈mx E n u)
 cell:W.cell? (AD (q+2) 0)=some (SV (q+1) n n)
 eK:∀k,T k↔k=q+1
 aJ:Below (q+1) w W
def vW.ax{w E n q B a T A W}(h:vW w E n q a T A)(g:q+1<=B)(e:q+1<=A.heap.size)(b:aj (λk=>B<=k/\∃o,A.heap[k]? =some o/\o.isCells=false) A W):vW w E n q a T W:=by have⟨f,c,d⟩:=h.arr;exact ⟨⟨f,Jp c b,d⟩,DS h.cell b,h.eK,h.aJ.trans (b.ag e (λk b s=>ZO))⟩
def rU(w N O V I F n R E P X L Y nc IN S)(hS:S<=16)(hp:pN w N O I F n E P L Y IN):
 CL 51 #[jj N O V F n R P X Y nc S] w (Am E IN S n w):=by
 have⟨i4,bc,bg,be,bb⟩:=P6 Scc.Tryz.kM
 have⟨q,hq⟩:=EX w.heap.size
 have⟨M,hM⟩:=EX (((2^S-1:Nat):Int))
 unfold jj
 rw [hM]
 have HP:=O8 hp
 have HQ:=O8 hq
 have HM:=O8 hM
 have HG:Hid (∀Q vi ve vl vn va,CL 33 #[.agg #[vi,ve,vl,vn,va]] Q λe av=>e=RT (.func (.func 57) #[] #[PT Q.heap.size])/\av=Q.alloc (CE #[vi,ve,vl,vn,va] 57)):=λQ vi ve vl vn va=>qj Q vi ve vl vn va
 have hn:=hp.pg.gr.uD
 have⟨r,au⟩:=EX (w.alloc (CE #[SL N O V,SL F n R,SL P n X,SL Y n nc,UV M] 57))
 have aQ:BW w r:=au▸ah _ _
 have s1:r.heap.size=q+1:=ZW au hq
 have aU:r.heap[q]? =some (.cells #[SL N O V,SL F n R,SL P n X,SL Y n nc,UV M] 57 (0,0)):=by rw [<-au,<-hq];exact (Ph w _).1
 have aw:Hid (∀Q,Below (q+1) r Q->Q.cell? (AD q 0)=some (SL N O V)/\Q.cell? (AD q 1)=some (SL F n R)/\Q.cell? (AD q 2)=some (SL P n X)/\Q.cell? (AD q 3)=some (SL Y n nc)/\Q.cell? (AD q 4)=some (UV M)):=λQ h=>by have i:=(h.block q ZO).trans aU;exact ⟨CH i,CH i,CH i,CH i,CH i⟩
 have aG:=O8 aQ
 have Z:=O8 s1
 have⟨b0,b1,b2,b3,b4⟩:=aw.o r (PF _ _)
 clear hp aQ s1 aU
 refine (Rw (n:=0)).1 (S3 func51 rfl RW ?_ rfl)
 rw [Ta]
 simp only [ntmps51,Sd,P9,Ra,Nat.reduceAdd,Nat.reduceSub,SF,SG,Te,SU,QW,Qq]
 go_upto_region 2 with(at_make;refine bu rfl _ _ 67 rfl 4 i4 (.bool false) 1 QM bc bg be _ _ _ _ n rfl rfl rfl rfl (by rw [bb];omega) (by unfold maxLen;omega) ?_;rintro z rfl hs;have az:=O8 hs;clear hs)
 rw [Z.o]
 rw [Z.o]at az
 have⟨wa,ao⟩:=EX (r.alloc (CE (madeCells #[Value.bool false] n) 4))
 have⟨z,al⟩:=EX (wa.alloc (CE #[SV (q+1) n n] 67))
 have sa:wa.heap.size=q+1+1:=ZW ao Z.o
 have s3:z.heap.size=q+1+1+1:=ZW al sa
 have aS:BW r wa:=ao▸ah _ _
 have aC:BW wa z:=al▸ah _ _
 have ab:=af aS aC
 have aX:Sl wa 4 (SV (q+1) n n) n (bB n λ_=>false):=by
  have b:=az.o;have i:=bM (.bool false) rfl n;have h3:r.alloc (CE (madeCells (Value.bool false).cells (n*1)) 4)=wa:=by rw [<-ao,RL];rfl
  rw [h3,i,<-Scc.eR]at b;exact b
 have aW:Sl z 4 (SV (q+1) n n) n (bB n λ_=>false):=aX.ax (aj.aC aC) (λg e s=>ZH (cF e))
 have c3:z.cell? (AD (q+2) 0)=some (SV (q+1) n n):=by have h:=(aT wa #[SV (q+1) n n] 67 0 _ rfl).1;rw [al,sa]at h;exact h
 rw [ao,al]
 have⟨d0,d1,d2,d3,d4⟩:=aw.o z (ab.mono (by rw [Z.o];exact Pf _))
 clear b0 b1 b2 b3 b4
 have⟨w4,am⟩:=EX (z.alloc (CE #[SL N O V,SL F n R,SL P n X,SL Y n nc,UV M] 57))
 have C:BW z w4:=am▸ah _ _
 have s4:w4.heap.size=q+4:=ZW am s3
 have aZ:w4.heap[q+3]? =some (.cells #[SL N O V,SL F n R,SL P n X,SL Y n nc,UV ((2^S-1:Nat):Int)] 57 (0,0)):=by rw [<-am,HM.o,<-(show z.heap.size=q+3 from s3)];exact (Ph z _).1
 have a5:Hid (CL 33 #[.agg #[SL N O V,SL F n R,SL P n X,SL Y n nc,UV M]] z λe av=>e=RT (.func (.func 57) #[] #[PT (q+3)])/\av=w4):=by refine (HG.o z _ _ _ _ _).mono ?_;rintro e av ⟨rfl,rfl⟩;exact ⟨by rw [s3],am⟩
 have ac:BW r w4:=af ab C
 have aV:=xe w w4 q (q+3) (SL N O V) (SL P n X) F n R E Y nc IN S hS HQ.o HP.o.pg (by have:=af aG.o ac;(try unfold BW at this);rw [HQ.o]at this;exact this) aZ (λk=>k=q+1) (λk h=>ZO)
 have aN:vW r E n q [] (λk=>k=q+1) w4:=⟨⟨_,aW.ax (aj.aC C) (λg e s=>ZH (cF e)),λx t=>⟨λh=>(ZC h),λ⟨u,h,_⟩=>ZC h⟩⟩,(C.cell (by simp only;omega)).trans c3,λk=>RE,ac.mono (by rw [Z.o];exact Pf _)⟩
 have a6:=O8 aN
 have a7:=O8 aV
 have a9:=O8 s4
 clear au hq hM ao al sa aS aC ab aX aW c3 C aZ ac aV aN am HG az
 go_wp2_with (go_at_call 33;apply a5.o.mono;rintro e w5 ⟨rfl,rfl⟩)
 have aO:∀d T A,vW r E n q d T A->q+2<A.heap.size:=λd T A h=>O9 A _ h.cell
 refine Bq (gf:=57) (lb:=#[PT (q+3)]) rfl (UD func57 ZK rfl) a7.o (λ_=>rfl) (vW r E n q) (λ_=>False)
  (λd T A B h H=>h.ax ZO (ZH (aO _ _ _ h)) H) (λA B h _=>h.elim) (λd T A h k s=>?hIlt) (λx A B h H=>?hPre) a6.o
  (λx=>{tmps:=#[.agg #[SL N O V,SL F n R,SL P n X,SL Y n nc,UV M],PT q,SN,PT (q+1+1),x.2,undef,undef,.pointer (some (AD q 3)),SL Y n nc,IV n,SV (q+1) n n,
   .agg #[SL N O V,SL F n R,SL P n X,SL Y n nc,UV M],.func (.func 57) #[] #[PT (q+3)],x.2,undef,undef,undef,undef,undef,undef,undef,undef,undef,undef,undef,undef,undef,undef],defers:=[]}) ?assign ?body ?done ?stop
 case hIlt=>obtain rfl:=(h.eK k).1 s;obtain ⟨f,b,-⟩:=h.arr;exact ⟨_,eN b,rfl⟩
 case hPre=>obtain ⟨b,i,a,m,c,e,hr⟩:=h;exact ⟨b,i,a,m,c,e,jT (T:=λ_=>True) hr (H.mono λk _ s=>⟨RW,s⟩)⟩
 case assign=>intro l x W K hK;gi_wp2;exact hK
 case body=>
  rintro l d T ⟨u,v⟩ W hl U ⟨hu,-,a,m,c,e,o⟩;simp only at hu e o;subst e;have⟨ms,ak⟩:=EX (mx E n u);rw [ak]at o;have ap:Hid (ms.length=m):=by have:=o.1;rw [aD]at this;exact this
  have aJ:Hid (∀x∈ms,x<n):=λx t=>AW (E:=E) (u:=u) (ZR ak t);have bk:m<=65536:=by rw [<-ap.o,<-ak];have:=Qn (λv=>decide (Scc.cD E v=(ee (Scc.cD E) n).getD u 0)) (List.range n);rw [Qp]at this;show(List.filter _ (List.range n)).length<=65536;omega
  have ay:=O8 ak;have aK:=O8 o;have HI:=O8 U;have⟨f0,ad,G⟩:=U.arr;have aI:=O8 ad;have a3:=O8 G;have cq:=U.cell;have bj:=aO _ _ _ U;have aP:∀x:Nat×Value,x=(u,SL a m c)->(d++[x]).map Prod.fst=d.map Prod.fst++[u]:=λx e=>by rw [Qg,e];rfl
  have a1:=O8 aP;clear ak o U ad G aP;gi_wp2;gi_loopw [16] (λv wr=>∃(j:Nat)(f:Nat->Bool),j<=m/\v=IV j/\Hid (Sl wr 4 (SV (q+1) n n) n (bB n f))/\Hid (∀x,x<n->(f x=true↔(∃u∈d.map Prod.fst,x∈mx E n u)\/x∈ms.take j))/\Hid (aj (λk=>k=q+1) W wr)) (λv _=>m-(intOf v).toNat);exact ⟨0,f0,Pz _,rfl,aI,O8 (λx t=>by rw [a3.o x t];simp),O8 (aj.refl _ _)⟩;obtain ⟨j,f,hj,rfl,ar,aq,H⟩:=hrel;have cw:=H.o.aq cq (by simp only;omega);by_cases aF:j<m;have bh:(j:Int)<m:=ZO;obtain ⟨x,t⟩:∃x,ms[j]? =some x:=⟨_,Pe (ZR ap.o aF)⟩;have bf:=aJ.o x (Pm t);have bm:(x:Int)<n:=ZO;have⟨b,i,h3⟩:=mD ar.o bf true;have aL:=O8 b;have a4:Hid (∀y,y<n->(up f x true y=true↔(∃u∈d.map Prod.fst,y∈mx E n u)\/y∈ms.take (j+1))):=λy hy=>by rw [Qf,t];by_cases e:y=x;subst e;rw [aA];exact ⟨λ_=>.inr (Qt _ (Pc.2 rfl)),λ_=>rfl⟩;rw [an _ _ _ _ e,aq.o y hy];constructor;exact λh=>h.imp id (P0 _);rintro (h|h);exact .inl h;obtain h|h:=PC.1 h;exact .inr h;exact absurd (Pc.1 h) e
  have a8:Hid (aj (λk=>k=q+1) W (wr.setCell (AD (q+1) x) (.bool true))):=H.o.setCell (p:=(AD (q+1) x)) (λ_=>rfl) _;obtain ⟨-,h0|⟨rb,ro,rfl,hc⟩⟩:=aK.o;omega;have aa:W.cell? (AD rb (ro+j))=some (IV x):=by have:=hc j aF;rw [cG (ZR ap.o aF),Pd,t]at this;exact this
  have bd:rb≠q+1:=λe=>by
   have h5:=eN aI.o;rw [e]at aa;rw [Pa h5]at aa;have bi:=ed n f0;have h6:(bB n f0)[ro+j]? =some (IV x):=ZX aa;have h7:ro+j<n:=by have:=(Po.1 h6).1;omega
   rw [eQ _ _ _ h7]at h6;cases h6
  have ck:=H.o.aq aa bd;clear b t ar aq H hc aa cq;gi_wp2;go_roundw;exact ⟨j+1,_,ZO,ZN,aL,a4,a8⟩;simp [intOf];omega;obtain rfl:j=m:=ZO;have aH:Hid (nJ (vW r E n q) (λ_=>False) T (d++[(u,SL a j c)]) W .normal {tmps:=#[],defers:=[]} wr):=by refine ⟨T,⟨⟨f,ar.o,λx t=>?_⟩,cw,HI.o.eK,HI.o.aJ.trans (H.o.ag ZO (λk H s=>ZO))⟩,H.o.mono λk _ s=>(HI.o.eK k).2 s,λk s=>.inl s⟩;rw [aq.o x t,a1.o _ rfl,PI (by rw [ap.o];exact Pf _),<-ay.o];constructor;rintro (⟨u',b,i⟩|h);exact ⟨u',P0 _ b,i⟩;exact ⟨u,Qt _ (Pc.2 rfl),h⟩;rintro ⟨u',b,i⟩;obtain b|b:=PC.1 b;exact .inl ⟨u',b,i⟩;rw [Pc.1 b]at i;exact .inr i
  clear ar aq H cw cq;gi_wp2;exact aH.o
 case done=>
  intro D xs T W hD ai U hK;have⟨f,ad,G⟩:=U.arr;have cq:=U.cell;have HI:=O8 U;have HB:Hid (BW w W):=aG.o.trans (U.aJ.mono (ZH HQ.o));have J:=HP.o.ag HB.o;have a2:Hid (CL 85 #[.agg #[SL N O V,SL F n R,SL P n X],SV (q+1) n n] W (EB E n f W)):=
   IT W N O V (aE I) P n X L F n R E J.pg.gr J.n8 J.NZ J.il ZO J.pg.ND (some (AD (q+1) 0)) n f (Bc ad)
  have⟨b0,b1,b2,b3,b4⟩:=aw.o W U.aJ;have ax:Hid (∀x,x<n->((∃y,y<n/\f y=true/\Own.aZ E x y)↔yv E (λs x=>(IN x).testBit s=true) S x)):=λx t=>by
   rw [Fa];constructor;rintro ⟨y,hy,b,i⟩;have⟨u,h3,h4⟩:=(G y hy).1 b;rw [ai]at h3;exact ⟨y,i,(pX HP.o.pg.gr.bA h4).1 (PY.1 h3).2⟩;rintro ⟨y,b,i⟩;have hy:y<n:=by rw [<-HP.o.pg.gr.bA];exact b.lt (by rw [HP.o.pg.gr.bA];exact t)
   have⟨u,h3,h4⟩:=Fj (E:=E) hy;refine ⟨y,hy,(G y hy).2 ⟨u,?_,h4⟩,b⟩;rw [ai];exact PY.2 ⟨P5.2 h3,(pX HP.o.pg.gr.bA h4).2 i⟩
  have ba:=(Pb.1 hK).1;have HK:=O8 hK;clear ad G U ai J hK;go_wp2_with (go_at_call 85;apply a2.o.mono;rintro e W5 ⟨v,r',rfl,aY,hr⟩;have ay:=O8 aY;have HR:=O8 hr;clear aY hr);obtain ⟨vb,rfl,a0,aR,bl⟩:=ay.o;have aB:=(aR.block D ba).trans HK.o;refine ⟨ZS,.inl ⟨_,_,rfl,S1 aB,?_⟩⟩;refine ⟨_,results_tmp rfl _ _ _,_,r',rfl,⟨vb,rfl,?_,?_,?_⟩,λx t=>(HR.o x t).trans (ax.o x t)⟩;refine a0.ax (bU W5 D _) λg e s=>?_;have h6:=cF e;have h7:=eN a0;subst h6;rw [s]at h7;rw [h7]at aB;cases aB;have aM:=af HB.o aR;exact aM.trans ((bU W5 D _).ag aM.size (λk H s=>ZI HQ.o a9.o));have:=HB.o.size;omega
 case stop=>exact λD W _ h=>h.elim
end
def Lc(i q n b r w)(h:CA w q 0 (SV b n n))(a:Sl w 4 (SV b n n) n (bB n r))(c:i<n):
 CL 52 #[IV i,PT q] w λe f=>e=RT (.bool (r i))/\f=w:=by
 have d:(i:Int)<n:=ZO
 obtain ⟨-,g,-⟩:=mD a c true
 generalize r i=j at *
 clear a
 go_enter func52,ntmps52
 go_wp2
 go_ret
 exact ⟨rfl,rfl⟩
def GZ(l r):(aE l).any (λz=>r z.toNat)=l.any r:=by unfold aE;rw [List.any_map];rfl
def IF(E:List (List Int))(a:Nat->Nat)(S:Nat)(I:List Nat)(w:WD)(e:Ending)(c:WD):Prop:=
 ∃b,e=RT (.bool b)/\(b=true↔∃i∈I,yv E (λs x=>(a x).testBit s=true) S i)/\BW w c
def x8(w j k t I v n J E A Q L B R H S)(hS:S<=16)(hp:pN w j k I v n E A L B H):
 CL 26 #[jj j k t v n J A Q B R S] w (IF E H S I w):=by
 have⟨q,hq⟩:=EX w.heap.size
 have⟨M,hM⟩:=EX (((2^S-1:Nat):Int))
 have⟨C,f⟩:=EX (w.alloc (CE #[SL j k t,SL v n J,SL A n Q,SL B n R,UV M] 57))
 have m:BW w C:=f▸ah _ _
 have HL:Hid (CL 51 #[.agg #[SL j k t,SL v n J,SL A n Q,SL B n R,UV M]] C (Am E H S n C)):=by have:=rU C j k t I v n J E A Q L B R H S hS (hp.ag m);unfold jj at this;rw [hM]at this;exact this
 unfold jj
 rw [hM]
 have a:=aT w #[SL j k t,SL v n J,SL A n Q,SL B n R,UV M] 57
 rw [f,hq]at a
 have Z:=(a 0 _ rfl).1
 have b1:=(a 1 _ rfl).1
 have b2:=(a 2 _ rfl).1
 have b3:=(a 3 _ rfl).1
 have b4:=(a 4 _ rfl).1
 have U:=O8 m
 have G:=O8 hp
 clear hp m a
 go_enter func26,ntmps26
 go_upto_region 1 with(fail)
 (try rw [f])
 (try rw [hq])
 clear f hq
 go_upto_region 2 with(go_at_call 51;apply HL.o.mono;rintro e T ⟨_,r,rfl,⟨b,rfl,y,d,aa⟩,hr⟩;have Y:=O8 y;have V:=O8 d;have X:=O8 hr;clear hr y d aa)
 have y:=Y.o
 have d:=V.o
 have⟨l,h⟩:=EX (T.alloc (CE #[SV b n n] 67))
 (try rw [h])
 have⟨P,p⟩:=EX T.heap.size
 (try rw [p])
 have o:BW T l:=h▸ah _ _
 have c:=af d o
 have N:=(aT T #[SV b n n] 67 0 _ rfl).1
 rw [h,p]at N
 have O:Sl l 4 (SV b n n) n (bB n r):=y.ax (aj.aC o) (λg e s=>ZH (y.lt g e))
 have d0:=(c.cell (O9 _ _ Z)).trans Z
 have D:=O8 (af U.o c)
 have W:Hid (CL 46 #[SL j k t,.func (.func 52) #[] #[PT P]] l λe w'=>e=RT (.bool (I.any r))/\w'=l):=by refine (BM j k t (aE I) (PT P) (λz=>r z.toNat) l (G.o.n8.ag D.o) (ZH G.o.il) (λz hz=>?_)).mono ?_;obtain ⟨u,hu,rfl⟩:=qg hz;exact Lc u P n b r l N O (G.o.Mo u hu);rintro e w' ⟨rfl,rfl⟩;exact ⟨by rw [GZ],rfl⟩
 have F:Hid (I.any r=true↔∃i∈I,yv E (λs x=>(H x).testBit s=true) S i):=by show _↔_;rw [To];exact ⟨λ⟨i,K,h2⟩=>⟨i,K,(X.o i (G.o.Mo i K)).1 h2⟩,λ⟨i,K,h2⟩=>⟨i,K,(X.o i (G.o.Mo i K)).2 h2⟩⟩
 clear y d o c O h p X HL Z b1 b2 b3 b4
 go_wp2_with (go_at_call 46;apply W.o.mono;rintro e w' ⟨rfl,rfl⟩)
 go_ret
 exact ⟨_,rfl,F.o,D.o⟩
section
def nT{w p d o a Q}(A:o.guard=none)(s x)
 (N:o.op=.call {callee:=.builtin .append,args:=#[s,x],argTypes:=#[64,64]})
 (v n X) (S:X.length=n) (O:a.eval s=v) (c:w.ownsRow 0 66 2 v n (bK X)) (y) (P:a.eval x=SV w.heap.size 1 1) (r:n<=4000000000000)
 (h:∀f i q,q.ownsRow 0 66 2 (SL f (n+1) i) (n+1) (bK (X++[y]))->aj (λk=>v.ownBlock=some k) w q->(∀b,(SL f (n+1) i).ownBlock=some b->v.ownBlock=some b\/w.heap.size<=b)->wpList prog p Q d (a.put o.dst (SL f (n+1) i)) q):
 wpList prog p Q (o::d) a (w.alloc (CE #[IV y.1,IV y.2] 66)):=by
 have⟨D,G,R,B,z⟩:=P6 Tryz.DN
 have F:=ah w (CE #[IV y.1,IV y.2] 66)
 have t:=aT w #[IV y.1,IV y.2] 66
 refine Tz _ A s x 64 N 0 66 D _ 2 16 underlying64 G R B z rfl ZD v n (bK X) O (bp c (aj.aC F) (λg e s=>ZH (dx c g e))) (AD w.heap.size 0) 1 1 [IV y.1,IV y.2] P rfl (λj u H=>?_) ZV (by unfold maxLen;omega) ZO (Pz _) (λT q E l _ m=>?_)
 rw [QK,PU]
 exact (t j u (ZX H)).1
 obtain ⟨f,i,rfl⟩:=bF E
 refine h f i q (by rw [j5];exact E) (((aj.refl _ w).alloc _).trans ⟨l.os,l.tape,l.output,l.size,λk J K=>l.block k J (λe=>K e.symm)⟩) (λb e=>?_)
 obtain m|m:=m
 rw [m]at e;exact .inl e
 rw [m]at e;cases e;exact .inr (by rw [P3];omega)
def rn(k:Nat):Prop:=k<4
def OR:Nat->TypeId
 |0=>3
 |1=>64
 |_=>45
def dO(l:List Nat):List Value:=l.map λ(x:Nat)=>UV x
def XP(I:List Nat)(rows:List Value)(L IN:List Nat):Nat->List Value
 |0=>bI I
 |1=>rows
 |2=>dO L
 |3=>dO IN
 |_=>[]
def e0(t:Nat):Int×Int:=((t:Int),0)
structure PM (w0 w:WD) (g:Nat) (C:Nat->Value) (I:List Nat) (bC:List Value) (Rs:List (List Nat)) (L IN:List Nat) (M:Int):Prop where
 pC:Rec 5 rn OR w g C (XP I bC L IN)
 all:C 4=UV M
 cS:bC.length=Rs.length
 row:∀(i:Nat)(V:Value)(R:List Nat),bC[i]? =some V->Rs[i]? =some R->w.ownsRow 0 66 2 V R.length (bK (R.map e0))/\∀b,V.ownBlock=some b->¬eW rn g C b
 aJ:BW w0 w
 bG:∀k,eW rn g C k->w0.heap.size<=k
section
variable {w0 w w1 w2:WD} {g:Nat} {C:Nat->Value} {I:List Nat} {rows:List Value} {Rs:List (List Nat)} {L IN:List Nat} {M:Int}
def PM.ax{T}(h:PM w0 w g C I rows Rs L IN M)(a:aj T w w1)(f:∀k,T k->¬eW rn g C k)(m:∀k V,V∈rows->V.ownBlock=some k->¬T k)(l:∀k,T k->w0.heap.size<=k):PM w0 w1 g C I rows Rs L IN M:=
 ⟨h.pC.ax a (λb j n=>f b n j),h.all,h.cS,λi V R c d=>⟨bp (h.row i V R c d).1 a (λb e=>m b V (Pm c) e),(h.row i V R c d).2⟩,h.aJ.trans (a.ag h.aJ.size (λk a s=>ZH (l k s))),h.bG⟩
def PM.O4(h:PM w0 w g C I rows Rs L IN M){V}(c:V∈rows){k}(e:V.ownBlock=some k):k<w.heap.size:=by have⟨i,a⟩:=Rh c;obtain ⟨R,b⟩:∃R,Rs[i]? =some R:=⟨_,Pe (by rw [<-h.cS];exact (Po.1 a).1)⟩;exact dx (h.row i V R a b).1 k e
def PM.ag(h:PM w0 w g C I rows Rs L IN M)(b:BW w w1):PM w0 w1 g C I rows Rs L IN M:=
 h.ax (aj.aC b) (λk c s=>ZH (h.pC.jO k s)) (λk V a e s=>ZH (h.O4 a e)) (λk c=>ZH h.aJ.size)
def PM.N8{v k}(c:∃a,v.ownBlock=some a/\((C k).ownBlock=some a\/w.heap.size<=a)):dQ w (C k) v:=by obtain ⟨a,e,b|b⟩:=c;exact .inl (by rw [e,b]);exact .inr ⟨a,e,b⟩
def PM.upd(h:PM w0 w g C I rows Rs L IN M){k}(q:k<4){v xs}(H:Sl w1 (OR k) v xs.length xs)(f:aj (λb=>(C k).ownBlock=some b) w w1)(G:∃m,v.ownBlock=some m/\((C k).ownBlock=some m\/w.heap.size<=m)){t u d a c}
 (E:∀j,up (XP I rows L IN) k xs j=XP t a u d j) (F:a.length=c.length)
 (B:∀(i:Nat)(V R),a[i]? =some V->c[i]? =some R->w.ownsRow 0 66 2 V R.length (bK (R.map e0))/\∀b,V.ownBlock=some b->¬eW rn g C b) (x:w2=w1.setCell (AD g k) v):
 PM w0 w2 g (up C k v) t a c u d M/\aj (eW rn g C) w w2/\∀b,eW rn g (up C k v) b->eW rn g C b\/w.heap.size<=b:=by
 have l:=PM.N8 G
 have A:=h.pC.slice k q v xs H f l
 rw [funext E]at A
 have o:=wY (sl:=rn) (g:=g) (C:=C) k q v l
 have J:aj (eW rn g C) w w1:=f.mono λb _ e=>.inr ⟨k,q,e⟩
 have K:aj (λb=>b=g) w1 w2:=by rw [x];exact (aj.refl (λb=>b=g) w1).setCell (p:=(AD g k)) (λ_=>rfl) v
 have r:aj (eW rn g C) w w2:=J.then K (λb _ e=>.inl e)
 refine ⟨⟨ZR x A,by rw [an _ _ _ _ ZO];exact h.all,F,λi V R D n=>?_,h.aJ.trans (r.ag h.aJ.size (λb N s=>ZH (h.bG b s))),λb s=>?_⟩,r,o⟩
 have⟨y,z⟩:=B i V R D n
 refine ⟨bp y r z,λb e s=>?_⟩
 obtain s|s:=o b s
 exact z b e s
 have:=dx y b e;omega
 obtain s|s:=o b s
 exact h.bG b s
 have:=h.aJ.size;omega
def OY(i:Nat):∀j,up (XP I rows L IN) 0 (bI I++[IV i]) j=XP (I++[i]) rows L IN j
 |0=>by rw [aA];exact (kP _ _).symm
 |1=>rfl
 |2=>rfl
 |3=>rfl
 |_+4=>rfl
def O6(V):∀j,up (XP I rows L IN) 1 (rows++[V]) j=XP I (rows++[V]) L IN j
 |0=>rfl
 |1=>by rw [aA];rfl
 |2=>rfl
 |3=>rfl
 |_+4=>rfl
def Ad(l x):dO (l++[x])=dO l++[.int .u64 (x:Int)]:=by simp [dO]
def O7(x:Nat):∀j,up (XP I rows L IN) 2 (dO L++[.int .u64 (x:Int)]) j=XP I rows (L++[x]) IN j
 |0=>rfl
 |1=>rfl
 |2=>by rw [aA];exact (Ad _ _).symm
 |3=>rfl
 |_+4=>rfl
def OZ(x:Nat):∀j,up (XP I rows L IN) 3 (dO IN++[.int .u64 (x:Int)]) j=XP I rows L (IN++[x]) j
 |0=>rfl
 |1=>rfl
 |2=>rfl
 |3=>by rw [aA];exact (Ad _ _).symm
 |_+4=>rfl
def Ac(l):dO l=(aE l).map (Value.int .u64):=by unfold dO aE;rw [TA];rfl
def Ck(l):bI l=(aE l).map (Value.int .i64):=by unfold bI aE;rw [TA];rfl
def Bf{k w e a n c b}(h:Sl w e (SL a n c) n (b.map (Value.int k))):aG k w a n b:=(Ar.of h).rowAt
def wP(Rs:List (List Nat)):List (List Int):=Rs.map λR=>R.map λ(t:Nat)=>(t:Int)
def wQ(Rs){i R}(h:Rs[i]? =some R):(wP Rs).getD i []=R.map λ(t:Nat)=>(t:Int):=by unfold wP;rw [Pd,PZ,h];rfl
def MR(R:List Nat):(R.map e0).map Prod.fst=R.map λ(t:Nat)=>(t:Int):=by rw [TA];rfl
def PM.L8(h:PM w0 w g C I rows Rs L IN M):∃s B n y t D u E,C 0=SL s I.length B/\C 1=SL n Rs.length y/\C 2=SL t L.length D/\C 3=SL u IN.length E/\
 aG .i64 w s I.length (aE I)/\Scc.fe w n (wP Rs)/\aG .u64 w t L.length (aE L)/\aG .u64 w u IN.length (aE IN):=by
 have a:=h.pC.cO 0 (by unfold rn;omega)
 have F:=h.pC.cO 1 (by unfold rn;omega)
 have c:=h.pC.cO 2 (by unfold rn;omega)
 have d:=h.pC.cO 3 (by unfold rn;omega)
 replace a:Sl w 3 (C 0) (bI I).length (bI I):=a
 replace F:Sl w 64 (C 1) rows.length rows:=F
 replace c:Sl w 45 (C 2) (dO L).length (dO L):=c
 replace d:Sl w 45 (C 3) (dO IN).length (dO IN):=d
 have U:(bI I).length=I.length:=bV I
 have W:(dO L).length=L.length:=by simp [dO]
 have X:(dO IN).length=IN.length:=by simp [dO]
 rw [U,Ck]at a
 rw [W,Ac]at c
 rw [X,Ac]at d
 obtain ⟨s,B,f,-⟩:=a.shape
 have⟨n,y,o,m⟩:=F.shape
 obtain ⟨t,D,p,-⟩:=c.shape
 obtain ⟨u,E,H,-⟩:=d.shape
 rw [f]at a
 rw [p]at c
 rw [H]at d
 refine ⟨s,B,n,y,t,D,u,E,f,by rw [o,h.cS],p,H,Bf a,?_,Bf c,Bf d⟩
 have l:(wP Rs).length=rows.length:=by unfold wP;rw [PB,h.cS]
 obtain z|z:=Qv rows.length
 exact .inl (ZR l z)
 obtain ⟨b,J,-,-⟩:=m 0 z
 refine .inr ⟨b,0,J,λi q=>?_⟩
 rw [l]at q
 obtain ⟨Y,k,-,T⟩:=m i q
 rw [J]at k;cases k
 obtain ⟨R,N⟩:∃R,Rs[i]? =some R:=⟨_,Pe (by rw [<-h.cS];exact q)⟩
 have O:rows[i]? =some rows[i]:=Pe q
 obtain ⟨r,-⟩:=h.row i _ R O N
 rw [wQ Rs N]
 refine ⟨rows[i],by rw [PU,T,O],?_⟩
 generalize rows[i]=V at *
 obtain ⟨e,K⟩|⟨G,x,S,e,Q⟩:=r.2
 exact ⟨none,0,by rw [e,PB,K],.inl (by rw [PB];exact K)⟩
 refine ⟨some (AD G 0),x,by rw [PB];exact e,.inr ⟨G,0,rfl,λj P=>?_⟩⟩
 rw [PB]at P
 rw [e]at r
 have⟨o,v,p⟩:=mi (R.map e0) j (by rw [PB];exact P)
 rw [MR]at o
 have A:=oJ (R.map e0)
 rw [PB]at A
 refine ⟨?_,v,?_⟩
 rw [PU,Qj (size:=2) r (j*2) ZO];exact o
 rw [PU,Qj (size:=2) r (j*2+1) ZO];exact p
end
end
def zu(w)(n:Nat)(l:n<=16)(f g):
 CL 47 #[.agg #[IV n,f,g]] w λe k=>e=RT (UV ((2^n-1:Nat):Int))/\BW w k:=by
 have j:2^n<=65536:=QG (n:=2) ZD (by omega:n<=16)
 have c:1<=2^n:=UJ
 have⟨M,d⟩:=EX (2^n-1)
 have⟨a,b⟩:=EX (2^n)
 have m:IntKind.u64.wrap ((2:Int)^n)=(a:Int):=by have e:((2:Int)^n)=((2^n:Nat):Int):=ZS;rw [e,b,Ss];exact Tb (S5 _) ZO
 have o:IntKind.u64.wrap ((a:Int)-1)=(M:Int):=by have i:((a:Int)-1)=(M:Int):=ZO;rw [i,Ss];exact Tb (S5 _) ZO
 have h:Hid (BW w (w.alloc (CE #[IV n,f,g] 36))):=ah _ _
 rw [d]
 clear j c d b
 go_enter func47,ntmps47
 go_wp2
 go_ret
 exact ⟨rfl,h.o⟩
def Du(x:dk):Bool:=decide (x.need&&&x.ban=0)
def j4{x}:Du x=true↔kI x:=by
 unfold Du kI;rw [Qw];constructor;intro h k ⟨a,b⟩;have c:(x.need&&&x.ban).testBit k=false:=by rw [h,Rn]
 rw [RM,a,b]at c;cases c;intro h;refine SM λk=>?_;rw [RM,Rn];cases a:x.need.testBit k
 rfl;cases b:x.ban.testBit k
 rfl;exact absurd ⟨a,b⟩ (h k)
structure pD (w:WD) (a:Nat) (A:Au) (ia:OA) (il ic:Nat) (na:OA) (nl nc:Nat):Prop where
 dB:w.heap[a]? =some (.cells #[IV A.sets,SL ia il ic,SL na nl nc] 36 (0,0))
 EI:cm w A ia il na nl
def pD.ag{w w' a A c e d f i g}(h:pD w a A c e d f i g)(b:BW w w'):pD w' a A c e d f i g:=
 ⟨(b.block a (Pb.1 h.dB).1).trans h.dB,h.EI.ag b⟩
def pD.cells{w a A b d c e g f}(h:pD w a A b d c e g f):CA w a 0 (IV A.sets)/\CA w a 1 (SL b d c)/\CA w a 2 (SL e g f):=
 ⟨CH h.dB,CH h.dB,CH h.dB⟩
def pD.nd{w x A r t s g v u}(h:pD w x A r t s g v u){i}(q:i<A.ak.length):∃b o a c d,g=some (AD b o)/\A.ak[i]? =some (A.ay i)/\CA w b (o+i*4) (UV ((A.ay i).need:Int))/\CA w b (o+i*4+1) (UV ((A.ay i).ban:Int))/\
 CA w b (o+i*4+2) (UV ((A.ay i).inn:Int))/\CA w b (o+i*4+3) (SL a c d)/\aG .i64 w a c (aE (dk.tO (A.ay i))):=by
 have f:A.ak[i]? =some (A.ay i):=by unfold Au.ay;rw [Pd,Pe q];rfl
 obtain y|⟨b,o,e,p⟩:=h.EI.ak
 have:=h.EI.bA;omega
 have⟨a,c,d,j,k,l,m,n⟩:=p i _ f
 exact ⟨b,o,a,c,d,e,f,j,k,l,m,n⟩
def K4(w p A t v u z k C)(j:gL A)(h:pD w p A t v u z k C)(i)(m:i<A.ak.length):
 CL 56 #[IV i,PT p] w λe D=>e=RT (.bool (Du (A.ay i)))/\BW w D:=by
 obtain ⟨-,-,E⟩:=h.cells
 obtain ⟨b,o,H,J,I,rfl,n,F,G,x,y,f⟩:=h.nd m
 have q:(i:Int)<k:=ZH h.EI.bA
 have r:k<=256:=ZI h.EI.bA j.many
 have g:A.ay i∈A.ak:=Pm n
 have⟨c,d⟩:=j.bits _ g
 have a:bits .and .u64 ((A.ay i).need:Int) ((A.ay i).ban:Int)=(((A.ay i).need&&&(A.ay i).ban:Nat):Int):=RC _ _ c d
 have s:((((A.ay i).need&&&(A.ay i).ban:Nat):Int)==0)=Du (A.ay i):=by unfold Du;by_cases e:(A.ay i).need&&&(A.ay i).ban=0;rw [e];rfl;rw [PH e];simp;omega
 generalize Du (A.ay i)=B at *
 have⟨N,l⟩:=EX ((A.ay i).need&&&(A.ay i).ban)
 rw [l]at a s
 generalize (A.ay i).need=K at *
 generalize (A.ay i).ban=L at *
 clear h n f g x y j c d l m
 go_enter func56,ntmps56
 go_wp2
 go_quiet (fail)
 go_wp2
 go_ret
 exact ⟨rfl,Scc.below_drewN _ _⟩
section
def xL(M:Int)(k:Nat):Value:=if k=4 then UV M else SN
section
variable {w0 w w1:WD} {g:Nat} {C:Nat->Value} {I:List Nat} {rows:List Value} {Rs:List (List Nat)} {L IN:List Nat} {M:Int}
def PM.aM(m:BW w0 w)(n:w0.heap.size<=g)(f:HC w g #[SN,SN,SN,SN,UV M] 57):PM w0 w g (xL M) [] [] [] [] [] M:=by
 have a:∀k b,rn k->(xL M k).ownBlock=some b->False:=λk b c e=>by unfold xL at e;rw [Qa (by unfold rn at c;omega)]at e;cases e
 refine ⟨⟨λk c=>?_,λk=>Pg f k,λk c=>by unfold rn at c;omega,λk c=>?_,λi j b d _ e=>(a i b d e).elim,λi d e=>a i g d e,ZO⟩,rfl,rfl,λi V R h=>by simp at h,m,λk s=>?_⟩;rw [Pa f];match k,c with
 |0,_=>rfl
 |1,_=>rfl
 |2,_=>rfl
 |3,_=>rfl
 |4,_=>rfl
 have e:xL M k=SN:=by unfold xL;rw [Qa (by unfold rn at c;omega)]
 have l:XP [] [] [] [] k=[]:=by match k with|0=>rfl|1=>rfl|2=>rfl|3=>rfl|_+4=>rfl
 rw [e,l];exact Qd _ _ _ _;obtain s|⟨i,d,s⟩:=s;omega;exact (a i k d s).elim
def PM.dy(h:PM w0 w g C I rows Rs L IN M){k}(c:k<4)(a:aj (λb=>(C k).ownBlock=some b) w w1):CA w1 g k (C k)/\FZ w1 g k:=
 ⟨a.aq (h.pC.cell k ZO) (h.pC.off k c),(PK (a.block g h.pC.lt (h.pC.off k c))).trans (h.pC.lC k)⟩
def PM.sl(h:PM w0 w g C I rows Rs L IN M)(k)(f:k<4):∃a c,C k=.slice a (XP I rows L IN k).length c/\Sl w (OR k) (.slice a (XP I rows L IN k).length c) (XP I rows L IN k).length (XP I rows L IN k)/\CA w g k (.slice a (XP I rows L IN k).length c):=by have b:=h.pC.cO k f;obtain ⟨a,c,e,-⟩:=b.shape;have d:=h.pC.cell k ZO;rw [e]at b d;exact ⟨a,c,e,b,d⟩
def PM.oh(h:PM w0 w g C I rows Rs L IN M):∀(i:Nat)(V R),rows[i]? =some V->Rs[i]? =some R->w.ownsRow 0 66 2 V R.length (bK (R.map e0))/\∀b,V.ownBlock=some b->¬eW rn g C b:=h.row
structure oV (a w:WD) (v:Value) (R:List Nat):Prop where
 cO:w.ownsRow 0 66 2 v R.length (bK (R.map e0))
 aJ:BW a w
 dJ:∀b,v.ownBlock=some b->a.heap.size<=b
def oV.nil(w):oV w w (SN) []:=⟨Qd _ _ _ _,PF _ _,λb e=>ZC e⟩
def oV.ag{b v R}(h:oV b w v R)(a:BW w w1):oV b w1 v R:=
 ⟨bp h.cO (aj.aC a) (λg e s=>ZH (dx h.cO g e)),h.aJ.trans (a.mono h.aJ.size),h.dJ⟩
def oV.dT{f v R}(h:oV f w v R){t a c}(j:w1.ownsRow 0 66 2 (SL a (R.length+1) c) (R.length+1) (bK (R.map e0++[e0 t])))(d:aj (λk=>v.ownBlock=some k) w w1)(i:∀b,(SL a (R.length+1) c).ownBlock=some b->v.ownBlock=some b\/w.heap.size<=b):
 oV f w1 (SL a (R.length+1) c) (R++[t]):=by
 refine ⟨by rw [Pk,Qg];exact j,h.aJ.trans (d.ag h.aJ.size (λk d e=>ZH (h.dJ k e))),λb e=>?_⟩
 obtain e|e:=i b e
 exact h.dJ b e
 have:=h.aJ.size;omega
def PM.IK{p n}(h:PM w0 p g C I rows Rs L IN M){V R}(m:oV p w V R){v}(y:Sl w1 64 v (rows.length+1) (rows++[V]))(l:aj (λb=>(C 1).ownBlock=some b) w w1)(x:∃f,v.ownBlock=some f/\((C 1).ownBlock=some f\/w.heap.size<=f))(t:n=w1.setCell (AD g 1) v):
 PM w0 n g (up C 1 v) I (rows++[V]) (Rs++[R]) L IN M/\aj (eW rn g C) w n/\∀b,eW rn g (up C 1 v) b->eW rn g C b\/w.heap.size<=b:=by
 have o:=h.ag m.aJ
 refine (o.upd (k:=1) ZO (xs:=rows++[V]) (by rw [Pk,Qi];exact y) l x (O6 V) (by rw [Pk,Pk,h.cS];rfl) (λi r q a d=>?_) t)
 obtain c|j|u:=RF i rows.length
 rw [Pp c]at a
 rw [Pp (by rw [<-h.cS];exact c)]at d
 exact o.row i r q a d
 subst j
 rw [Qm]at a
 rw [h.cS,Qm]at d
 cases a;cases d
 exact ⟨m.cO,λb e s=>ZI (m.dJ b e) (h.pC.jO b s)⟩
 rw [Qs (by rw [Pk,Qi];omega)]at a;cases a
def PM.base{b}(h:PM w0 w g C I rows Rs L IN M)(a:BW b w0):PM b w g C I rows Rs L IN M:=
 ⟨h.pC,h.all,h.cS,h.row,a.trans (h.aJ.mono a.size),λk s=>PG a.size (h.bG k s)⟩
def PM.result{a r}(h:PM w0 w g C I rows Rs L IN M)(q:BW a w0)(v:a.heap.size<=r)(u:r<w0.heap.size){c}(l:w.heap[r]? =some (.cells c 57 (0,0)))(t:aj (λk=>k=r) w w1):PM a w1 g C I rows Rs L IN M:=
 (h.base q).ax t (λk e s=>ZH (h.bG k s)) (λk V p e s=>by have⟨i,j⟩:=Rh p;obtain ⟨R,o⟩:∃R,Rs[i]? =some R:=⟨_,Pe (by rw [<-h.cS];exact (Po.1 j).1)⟩;subst s;obtain ⟨d,-⟩|⟨b,m,f,d,-,n,-⟩:=(h.row i V R j o).1.2;rw [d]at e;cases e;rw [d]at e;cases e;rw [n]at l;cases l) (λk e=>ZO)
def BY{w g j l m n o c d f h i t}(q:HC w g #[j,l,m,n,o] t)(a)
 (e:a=((((w.setCell (AD g 0) c).setCell (AD g 1) d).setCell (AD g 2) f).setCell (AD g 3) h).setCell (AD g 4) i):
 CA a g 0 c/\CA a g 1 d/\CA a g 2 f/\CA a g 3 h/\CA a g 4 i/\aj (λk=>k=g) w a:=by
 have b:HC a g #[c,d,f,h,i] t:=by rw [e];simp [HC,World.setCell,P7,q]
 refine ⟨CH b,CH b,CH b,CH b,CH b,?_⟩
 rw [e]
 exact (((((aj.refl (λk=>k=g) w).setCell (p:=(AD g 0)) (λ_=>rfl) c).setCell (p:=(AD g 1)) (λ_=>rfl) d).setCell (p:=(AD g 2)) (λ_=>rfl) f).setCell (p:=(AD g 3)) (λ_=>rfl) h).setCell (p:=(AD g 4)) (λ_=>rfl) i
end
end
def gU(A:Au)(i:Nat):Bool:=Du (A.ay i)
def iG(A:Au)(i:Nat):List Nat:=if gU A i then(A.ay i).tO.filter (gU A)else []
def iA(A:Au)(i k:Nat):List Nat:=if gU A i then((A.ay i).tO.take k).filter (gU A)else []
def pL(w:WD)(A:Au)(e:Ending)(h:WD):Prop:=
 ∃c d l I b k E f m L g n a,e=RT (jj c d l b A.ak.length k f m g n A.sets)/\pN h c d I b A.ak.length E f L g a/\su A E/\(∀i,i<A.ak.length->a i=(A.ay i).inn)/\I=A.aP.filter (gU A)/\L=aE ((List.range A.ak.length).map λj=>(A.ay j).need)/\BW w h
def LG{A}(i:gL A):su A (wP ((List.range A.ak.length).map (iG A))):=by
 have f:(wP ((List.range A.ak.length).map (iG A))).length=A.ak.length:=by simp [wP]
 refine ⟨f,λq y d=>?_⟩;have e:(wP ((List.range A.ak.length).map (iG A))).getD q []=(iG A q).map λ(t:Nat)=>(t:Int):=wQ _ (by rw [PZ,QV d];rfl);unfold Own.gn;rw [f,e];have j:((y:Int)∈(iG A q).map λ(t:Nat)=>(t:Int))↔y∈iG A q:=by
  rw [Qx];exact ⟨λ⟨t,a,c⟩=>
   (by obtain rfl:t=y:=ZO;exact a),λh=>⟨y,h,rfl⟩⟩
 rw [j];unfold iG;constructor;rintro ⟨_,_,h⟩;by_cases b:gU A q=true;rw [PW b]at h;have⟨a,c⟩:=PY.1 h;exact ⟨a,j4.1 b,j4.1 c⟩;rw [Qa b]at h;cases h;rintro ⟨a,c,g⟩;have b:gU A q=true:=j4.2 c;refine ⟨d,i.mZ _ ?_ y a,?_⟩;unfold Au.ay;rw [Pd,Pe d];exact QF d;rw [PW b];exact PY.2 ⟨a,j4.2 g⟩
def kK{p}{l:List Nat}{k x}(h:l[k]? =some x):(l.take (k+1)).filter p=(l.take k).filter p++(if p x then [x]else []):=by rw [Qf,h,Option.toList_some,QA];cases a:p x<;>simp [a]
def xJ(w A ia il ic na P nc)(hv:cm w A ia il na P)(hA:gL A):
 CL 32 #[.agg #[IV (A.sets:Int),SL ia il ic,SL na P nc]] w (pL w A):=by
 obtain ⟨i3,cJ,cP,cN,cI⟩:=P6 Tryz.eA
 obtain ⟨cQ,b8,cg,cf,b4⟩:=P6 Tryz.AM
 obtain ⟨ch,aX,a6,aZ,aV⟩:=P6 Tryz.xf
 obtain ⟨q,hq⟩:=EX w.heap.size
 obtain ⟨L,ao⟩:=EX ((w.alloc (CE #[IV (A.sets:Int),SL ia il ic,SL na P nc] 36)).alloc (CE #[SN,SN,SN,SN,UV 0] 57))
 have bk:BW w L:=ao▸af (ah _ _) (ah _ _)
 have s1:L.heap.size=q+1+1:=by rw [<-ao,P3,P3,hq]
 have b7:L.heap[q]? =some (.cells #[IV (A.sets:Int),SL ia il ic,SL na P nc] 36 (0,0)):=by rw [<-ao,<-hq,(Ph _ _).2 _ (by rw [P3];omega)];exact (Ph w _).1
 have b5:L.heap[q+1]? =some (.cells #[SN,SN,SN,SN,UV 0] 57 (0,0)):=by rw [<-ao,<-hq,<-P3 w (CE #[IV (A.sets:Int),SL ia il ic,SL na P nc] 36)];exact (Ph _ _).1
 have Q:Hid (∀l,BW L l->pD l q A ia il ic na P nc):=λl hb=>(pD.mk b7 (hv.ag bk)).ag hb
 have a9:Hid (CL 47 #[.agg #[IV (A.sets:Int),SL ia il ic,SL na P nc]] L λe l=>e=RT (UV ((2^A.sets-1:Nat):Int))/\BW L l):=zu L A.sets hA.sets _ _
 have aq:Hid (∀l i,BW L l->i<P->CL 56 #[IV (i:Int),PT q] l λe bw=>e=RT (.bool (gU A i))/\BW l bw):=λl i hb B=>K4 l q A ia il ic na P nc hA (Q.o l hb) i (by rw [hv.bA];exact B)
 have HA:=O8 hA
 have co:=O8 bk
 have cs:=O8 b5
 have HQ:=O8 hq
 have bO:=O8 s1
 have db:P<=256:=by rw [<-hv.bA];exact hA.many
 have S:Hid (A.ak.length=P):=hv.bA
 have c7:il<=16777216:=by have:=hv.aP.1;rw [aD]at this;rw [<-this];exact hA.il
 have aj:Hid (A.aP.length=il):=by have:=hv.aP.1;rw [aD]at this;exact this
 obtain ⟨c0,c1,c2⟩:=(Q.o L (PF _ _)).cells
 clear hv hA bk b7 b5 s1
 go_enter func32,ntmps32
 go_upto_region 1 with(fail)
 (try rw [ao])
 (try rw [hq])
 clear ao hq
 obtain ⟨M,hM⟩:=EX (((2^A.sets-1:Nat):Int))
 rw [hM]at a9
 have cu:=O8 hM
 clear hM
 go_upto_region 3 with(go_at_call 47;apply a9.o.mono;rintro e w2 ⟨rfl,b3⟩;have cp:=O8 b3;clear b3)
 obtain ⟨g,hg⟩:=EX w2.heap.size
 obtain ⟨w3,aK⟩:=EX (w2.alloc (CE #[SN,SN,SN,SN,UV M] 57))
 rw [aK,hg]
 have bb:Hid (PM w2 w3 g (xL M) [] [] [] [] [] M):=PM.aM (aK▸ah _ _) ZO (by rw [<-aK,<-hg];exact (Ph w2 _).1)
 have ap:Hid (BW L w2):=cp.o
 have bf:Hid (∀l,BW w2 l->BW L l):=λl hb=>af ap.o hb
 obtain ⟨-,d1,d2⟩:=(Q.o w3 (bf.o w3 bb.o.aJ)).cells
 clear aK hg a9 c0 c1 c2
 go_wp2
 go_loopw [19] (λv wr=>∃(k:Nat)(C:Nat->Value),k<=il/\v=IV k/\Hid (PM w2 wr g C ((A.aP.take k).filter (gU A)) [] [] [] [] M)) (λv _=>il-(intOf v).toNat)
 exact ⟨0,_,Pz _,rfl,bb⟩
 clear bb d1 d2
 obtain ⟨k,C,hk,rfl,K⟩:=hrel
 have F:=O8 (bf.o wr K.o.aJ)
 have y:=Q.o wr F.o
 by_cases an:k<il
 ·have b9:(k:Int)<(il:Int):=ZO;obtain ⟨i,B⟩:∃i,A.aP[k]? =some i:=⟨_,Pe (ZR aj.o an)⟩
  have cK:i<P:=by rw [<-S.o];exact HA.o.aP i (Pm B)
  obtain ⟨-,h0|⟨ib,io,rfl,hc⟩⟩:=y.EI.aP
  ·omega
  have ck:wr.cell? (AD ib (io+k))=some (IV (i:Int)):=by have:=hc k an;rw [cG (ZR aj.o an),Pd,B]at this;exact this
  have ae:=kK (p:=gU A) B;have HC:=O8 (aq.o wr i F.o cK);clear hc y B;cases ak:gU A i
  ·rw [ak]at HC ae;have E:Hid ((A.aP.take (k+1)).filter (gU A)=(A.aP.take k).filter (gU A)):=by rw [ae];exact O8 (Qb _)
   clear ae ak;go_wp2_with (go_at_call 56;apply HC.o.mono;rintro e w4 ⟨rfl,f⟩;have T:=O8 f;clear f);go_roundw;exact ⟨k+1,C,ZO,ZN,by rw [E.o];exact O8 (K.o.ag T.o)⟩;simp [intOf];omega
  ·rw [ak]at HC ae;obtain ⟨J,hJ⟩:=EX ((A.aP.take k).filter (gU A))
   have b1:J.length<=k:=by rw [<-hJ];exact PG (Qn _ _) (by rw [QI];omega)
   rw [hJ]at K ae;have E:Hid ((A.aP.take (k+1)).filter (gU A)=J++[i]):=ae;clear ae ak hJ;go_upto_region 7 with(go_at_call 56;apply HC.o.mono;rintro e w4 ⟨rfl,f⟩;have aF:=O8 (K.o.ag f);clear f);clear ck K;obtain ⟨a0,bS,bg,bp,cF⟩:=aF.o.sl 0 ZO;obtain ⟨m,hm⟩:=EX ((XP J [] [] [] 0).length);rw [hm]at bg bp cF;have bE:Hid (m=J.length):=by show m=_;rw [<-hm];exact bV J
   have da:m<=k:=ZR bE.o b1;have HO:Hid (Sl w4 3 (SL a0 m bS) m (bI J)):=bp;have aB:=O8 bg;clear bp hm bg b1;go_wp2_with (at_builtin;refine av rfl (.tmp 28) (.tmp 30) 33 rfl 3 i3 (IV 0) 8 QD cJ cP cN cI rfl ZD (SL a0 m bS) _ _ rfl HO.o _ rfl rfl ZO ?_;intro g1 c1 w5 hs u G;obtain ⟨q5,f5⟩:=aF.o.dy (k:=0) ZO (ZR aB.o u);rw [aB.o]at q5;have bF:=O8 (aF.o.upd (k:=0) (v:=SV g1 (m+1) c1) (xs:=bI J++[IV (i:Int)]) ZO (by rw [Pk,bV,<-bE.o];exact hs) (ZR aB.o u) ⟨g1,rfl,ZR aB.o G⟩ (OY i) rfl aF.o.oh rfl).1;clear hs u G);go_roundw;exact ⟨k+1,_,ZO,ZN,ZR E.o bF⟩;simp [intOf];omega
 ·obtain rfl:k=il:=ZO;obtain ⟨-,d1,d2⟩:=y.cells
  have bc:Hid (PM w2 wr g C (A.aP.filter (gU A)) [] [] [] [] M):=by have:=K.o;rw [PI (by rw [aj.o];exact Pf _)]at this;exact this
  clear K y;obtain ⟨J,hJ⟩:=EX (A.aP.filter (gU A));rw [hJ]at bc;have HJ:=O8 hJ;clear hJ;obtain ⟨wo,rfl⟩:∃wo:WD,wo=wr:=⟨_,rfl⟩;go_wp2;go_loopw [38] (λv wr=>∃(x:Nat)(C:Nat->Value)(I:List Value),x<=P/\v=IV x/\Hid (PM w2 wr g C J I ((List.range x).map (iG A)) ((List.range x).map λj=>(A.ay j).need) ((List.range x).map λj=>(A.ay j).inn) M)) (λv _=>P-(intOf v).toNat);exact ⟨0,C,[],Pz _,rfl,bc⟩;clear bc d1 d2;obtain ⟨x,C,I,hx,rfl,K⟩:=hrel;have F:=O8 (bf.o wr K.o.aJ);have y:=Q.o wr F.o;obtain ⟨Ls,Z⟩:=EX (((List.range x).map λj=>(A.ay j).need));obtain ⟨Ns,aa⟩:=EX (((List.range x).map λj=>(A.ay j).inn));obtain ⟨Rs,ab⟩:=EX ((List.range x).map (iG A));rw [Z,aa,ab]at K;by_cases an:x<P
  ·have b9:(x:Int)<(P:Int):=ZO;obtain ⟨b,o,ta,tl,tc,rfl,cc,k0,k1,k2,k3,al⟩:=y.nd (i:=x) (ZR S.o an)
   have bv:A.ay x∈A.ak:=Pm cc;have df:tl<=16777216:=by have:=al.1;rw [aD]at this;rw [<-this];exact HA.o.tl _ bv
   have aH:Hid ((A.ay x).tO.length=tl):=by have:=al.1;rw [aD]at this;exact this
   have bQ:Hid (∀t∈(A.ay x).tO,t<P):=λt ht=>by rw [<-S.o];exact HA.o.mZ _ bv t ht
   have cB:Hid (iG A x=iA A x tl):=by unfold iG iA;rw [PI (by rw [aH.o];exact Pf _)];exact O8 rfl
   have ct:Hid (((List.range (x+1)).map λj=>(A.ay j).need)=Ls++[(A.ay x).need]):=by rw [QQ,Qg,Z];exact O8 rfl
   have cv:Hid (((List.range (x+1)).map λj=>(A.ay j).inn)=Ns++[(A.ay x).inn]):=by rw [QQ,Qg,aa];exact O8 rfl
   have cA:Hid ((List.range (x+1)).map (iG A)=Rs++[iG A x]):=by rw [QQ,Qg,ab];exact O8 rfl
   have bB:Hid (Ls.length=x):=by show _=_;rw [<-Z];simp
   have bG:Hid (Ns.length=x):=by show _=_;rw [<-aa];simp
   have bN:Hid (I.length=x):=by show _=_;rw [K.o.cS,<-ab];simp
   have bJ:Hid (∀j t,(A.ay x).tO[j]? =some t->iA A x (j+1)=iA A x j++(if gU A x&&gU A t then [t]else [])):=λj t h=>by unfold iA;rw [kK h];cases gU A x<;>simp
   have be:Hid (∀l,BW wr l->aG .i64 l ta tl (aE (A.ay x).tO)):=λl hb=>al.ag hb;obtain ⟨aL,a5⟩:=EX ((A.ay x).tO);rw [a5]at aH bQ bJ be;obtain ⟨wq,aA⟩:=EX (wr.alloc (CE #[UV ((A.ay x).need:Int),UV ((A.ay x).ban:Int),UV ((A.ay x).inn:Int),SL ta tl tc] 62));obtain ⟨nb,bn⟩:=EX wr.heap.size;have aI:BW wr wq:=aA▸ah _ _;have ar:=aT wr #[UV ((A.ay x).need:Int),UV ((A.ay x).ban:Int),UV ((A.ay x).inn:Int),SL ta tl tc] 62;rw [aA,bn]at ar;have n0:=(ar 0 _ rfl).1;have n2:=(ar 2 _ rfl).1;have n3:=(ar 3 _ rfl).1;have ba:Hid (¬eW rn g C nb):=λs=>ZH (K.o.pC.jO nb s);have bL:=O8 (K.o.ag aI);have bR:Hid (∀l,BW wq l->aG .i64 l ta tl (aE aL)):=λl hb=>be.o l (af aI hb);have cr:Hid (BW L wq):=af F.o aI;have cW:nb<wq.heap.size:=by rw [<-aA,P3];omega
   generalize (A.ay x).need=ai at *;generalize (A.ay x).ban=c6 at *;generalize (A.ay x).inn=a7 at *;clear Z aa ab cc al bv ar aI a5 be y K F;go_upto_region 13 with(fail);(try rw [aA]);(try rw [bn]);clear aA bn k0 k1 k2 k3;go_wp2;go_loopw [9,46] (λlv v wx=>∃(j:Nat)(a:OA)(m c:Nat),j<=tl/\v=IV j/\lv=SL a m c/\m<=j/\Hid (oV wq wx (SL a m c) (iA A x j))/\Hid (m=(iA A x j).length)) (λ_ v _=>tl-(intOf v).toNat);case atStart=>exact ⟨0,none,0,0,Pz _,rfl,rfl,Pf _,by
    have:iA A x 0=[]:=by unfold iA;cases gU A x<;>simp
    rw [this];exact O8 (oV.nil wq),by
    have:iA A x 0=[]:=by unfold iA;cases gU A x<;>simp
    rw [this];exact O8 rfl⟩
   case round=>
    clear n3;obtain ⟨j,a,m,c,hj,rfl,rfl,c9,H,O⟩:=hrel;by_cases bm:j<tl
    ·have cU:(j:Int)<(tl:Int):=ZO;obtain ⟨t,ht⟩:∃t,aL[j]? =some t:=⟨_,Pe (ZR aH.o bm)⟩
     have cO:=bQ.o t (Pm ht);obtain ⟨-,h0|⟨tb,cS,rfl,hc⟩⟩:=bR.o wr H.o.aJ
     ·omega
     have ck:wr.cell? (AD tb (cS+j))=some (IV (t:Int)):=by have:=hc j bm;rw [cG (ZR aH.o bm),Pd,ht]at this;exact this
     have HB:=O8 (af cr.o H.o.aJ);have D:=O8 (aq.o wr x HB.o an);have N:Hid (∀l,BW wr l->CL 56 #[IV (t:Int),PT q] l λe bw=>e=RT (.bool (gU A t))/\BW l bw):=λl hb=>aq.o l t (af HB.o hb) cO;have HS:=O8 (bJ.o j t ht);clear hc ht n0 n2;cases aw:gU A x
     ·rw [aw]at D HS;have E:Hid (iA A x (j+1)=iA A x j):=by rw [HS.o];exact O8 (Qb _)
      clear aw HS;go_wp2_with (go_at_call 56;apply D.o.mono;rintro e w4 ⟨rfl,f⟩;have T:=O8 f;clear f);go_roundw;exact ⟨j+1,a,m,c,ZO,ZN,rfl,ZO,by rw [E.o];exact O8 (H.o.ag T.o),ZR E.o O⟩;simp [intOf];omega
     ·rw [aw]at D HS;cases aJ:gU A t
      ·rw [aJ]at N HS;have E:Hid (iA A x (j+1)=iA A x j):=by rw [HS.o];exact O8 (Qb _)
       clear aw aJ HS;go_wp2_with (first|(go_at_call 56;apply D.o.mono;rintro e w4 ⟨rfl,f⟩;have T:=O8 f;have R:=O8 (N.o w4 f);clear f D)|(go_at_call 56;apply R.o.mono;rintro e w5 ⟨rfl,au⟩;have cq:=O8 au;clear au));go_roundw;exact ⟨j+1,a,m,c,ZO,ZN,rfl,ZO,by rw [E.o];exact O8 (H.o.ag (af T.o cq.o)),ZR E.o O⟩;simp [intOf];omega
      ·rw [aJ]at N HS;have E:Hid (iA A x (j+1)=iA A x j++[t]):=by rw [HS.o];exact O8 rfl
       clear aw aJ HS;go_upto_region 17 with(first|(go_at_call 56;apply D.o.mono;rintro e w4 ⟨rfl,f⟩;have T:=O8 f;have R:=O8 (N.o w4 f);clear f D)|(go_at_call 56;apply R.o.mono;rintro e w5 ⟨rfl,au⟩;have aR:=O8 (H.o.ag (af T.o au));clear au));have HO:Hid (w5.ownsRow 0 66 2 (SL a m c) m (bK ((iA A x j).map e0))):=by have:=aR.o.cO;rw [<-O.o]at this;exact this
       clear ck;go_wp2_with (at_builtin;refine nT rfl (.tmp 58) (.tmp 61) rfl (SL a m c) m ((iA A x j).map e0) (by rw [PB];exact O.o.symm) rfl HO.o (e0 t) rfl ZO ?_;intro a8 c8 w8 ho hk ca;have cw:=O8 (aR.o.dT (t:=t) (ZR O.o.symm ho) hk (ZR O.o.symm ca));clear ho hk ca);go_roundw;exact ⟨j+1,a8,m+1,c8,ZO,ZN,rfl,ZO,by rw [E.o,O.o];exact cw,by rw [E.o,Pk,<-O.o];exact O8 rfl⟩;simp [intOf];omega
    ·obtain rfl:j=tl:=ZO;obtain ⟨wx,rfl⟩:∃wx:WD,wx=wr:=⟨_,rfl⟩
     have cC:Hid (oV wq wx (SL a m c) (iG A x)):=ZR cB.o H;have bM:=O8 (bL.o.ag H.o.aJ);have p0:=(H.o.aJ.cell (by simp only;omega)).trans n0;have p2:=(H.o.aJ.cell (by simp only;omega)).trans n2;have cb:nb<wx.heap.size:=ZH H.o.aJ.size;clear n0 n2 H O;obtain ⟨a1,bT,bh,bq,bX⟩:=bM.o.sl 1 ZO;have ax:(XP J I Ls Ns 1).length=x:=bN.o;rw [ax]at bh bq bX;have cx:Hid (Sl wx 64 (SL a1 x bT) x I):=bq;have D:=O8 bh;clear ax bh bq;go_upto_region 20 with(at_builtin;refine av rfl (.tmp 66) (.tmp 68) 53 rfl 64 cQ (SN) 24 Ve b8 cg cf b4 rfl ZD (SL a1 x bT) _ _ rfl cx.o _ rfl rfl ZO ?_;intro g1 c1 w7 hs u G;obtain ⟨q7,f7⟩:=bM.o.dy (k:=1) ZO (ZR D.o u);rw [D.o]at q7;obtain ⟨w8,bt⟩:=EX (w7.setCell (AD g 1) (SV g1 (x+1) c1));obtain ⟨m1,m2,m3⟩:=bL.o.IK cC.o (v:=SV g1 (x+1) c1) (ZR bN.o hs) (ZR D.o u) ⟨g1,rfl,ZR D.o G⟩ bt.symm;have U:=O8 m1;have aC:=O8 m2;have bD:=O8 m3;clear hs u G m1 m2 m3);(try rw [bt]);have cR:=aC.o.aq p0 ba.o;have ci:=aC.o.aq p2 ba.o;have aP:Hid (¬eW rn g (up C 1 (SV g1 (x+1) c1)) nb):=λs=>(bD.o nb s).elim ba.o (λh=>ZO);have cV:nb<w8.heap.size:=ZH aC.o.size;clear bt p0 p2 bX q7 f7 aC bD cb;obtain ⟨C2,aS⟩:=EX (up C 1 (SV g1 (x+1) c1));rw [aS]at U aP;clear aS;obtain ⟨a2,bU,bi,br,bY⟩:=U.o.sl 2 ZO;have ac:(XP J (I++[SL a m c]) Ls Ns 2).length=x:=by show(dO Ls).length=x;unfold dO;rw [PB];exact bB.o
     rw [ac]at bi br bY;have cy:Hid (Sl w8 45 (SL a2 x bU) x (dO Ls)):=br;have N:=O8 bi;clear ac bi br;go_upto_region 21 with(at_builtin;refine av rfl (.tmp 74) (.tmp 77) 23 rfl 45 ch (UV 0) 8 RS aX a6 aZ aV rfl ZD (SL a2 x bU) _ _ rfl cy.o _ rfl rfl ZO ?_;intro g2 c3 w9 hs u G;obtain ⟨q9,f9⟩:=U.o.dy (k:=2) ZO (ZR N.o u);rw [N.o]at q9;obtain ⟨bx,ay⟩:=EX (w9.setCell (AD g 2) (SV g2 (x+1) c3));obtain ⟨m1,m2,m3⟩:=U.o.upd (k:=2) (v:=SV g2 (x+1) c3) (xs:=dO Ls++[UV (ai:Int)]) ZO (by rw [Pk,dO,PB,bB.o];exact hs) (ZR N.o u) ⟨g2,rfl,ZR N.o G⟩ (O7 ai) U.o.cS U.o.oh ay.symm;have V:=O8 m1;have bP:=O8 m2;have cD:=O8 m3;clear hs u G m1 m2 m3);(try rw [ay]);have cj:=bP.o.aq ci aP.o;clear ay cR ci bY q9 f9 bP cD U;obtain ⟨C3,aU⟩:=EX (up C2 2 (SV g2 (x+1) c3));rw [aU]at V;clear aU;obtain ⟨a3,bW,bj,bs,bZ⟩:=V.o.sl 3 ZO;have ad:(XP J (I++[SL a m c]) (Ls++[ai]) Ns 3).length=x:=by show(dO Ns).length=x;unfold dO;rw [PB];exact bG.o
     rw [ad]at bj bs bZ;have cz:Hid (Sl bx 45 (SL a3 x bW) x (dO Ns)):=bs;have R:=O8 bj;clear ad bj bs;go_wp2_with (at_builtin;refine av rfl (.tmp 82) (.tmp 85) 23 rfl 45 ch (UV 0) 8 RS aX a6 aZ aV rfl ZD (SL a3 x bW) _ _ rfl cz.o _ rfl rfl ZO ?_;intro g3 c4 cT hs u G;obtain ⟨cl,cH⟩:=V.o.dy (k:=3) ZO (ZR R.o u);rw [R.o]at cl;obtain ⟨cn,az⟩:=EX (cT.setCell (AD g 3) (SV g3 (x+1) c4));obtain ⟨m1,m2,m3⟩:=V.o.upd (k:=3) (v:=SV g3 (x+1) c4) (xs:=dO Ns++[UV (a7:Int)]) ZO (by rw [Pk,dO,PB,bG.o];exact hs) (ZR R.o u) ⟨g3,rfl,ZR R.o G⟩ (OZ a7) V.o.cS V.o.oh az.symm;have cE:=O8 m1;clear hs u G m1 m2 m3);(try rw [az]);clear az cj bZ cl cH V;go_roundw;exact ⟨x+1,_,_,ZO,ZN,by rw [cA.o,ct.o,cv.o];exact cE⟩;simp [intOf];omega
  ·obtain rfl:x=P:=ZO;obtain ⟨va,vc,ve,aM,vl,aN,vn,aO,am,W,X,Y,r0,r1,r2,r3⟩:=K.o.L8
   have g0:=K.o.pC.cell 0 ZO;have g1:=K.o.pC.cell 1 ZO;have g2:=K.o.pC.cell 2 ZO;have g3:=K.o.pC.cell 3 ZO;have g4:=K.o.pC.cell 4 ZO;have b0:=K.o.all;rw [am]at g0;rw [W]at g1;rw [X]at g2;rw [Y]at g3;rw [b0]at g4;have ax:Rs.length=x:=by rw [<-ab];simp
   have ac:Ls.length=x:=by rw [<-Z];simp
   have ad:Ns.length=x:=by rw [<-aa];simp
   rw [ax]at g1 W;rw [ac]at g2 X;rw [ad]at g3 Y;have d:wr.heap[q+1]? =some (.cells #[SN,SN,SN,SN,UV 0] 57 (0,0)):=(F.o.block _ (ZH bO.o)).trans cs.o;have z0:wr.cell? (AD (q+1) 0)=some (SN):=CH d;have z1:wr.cell? (AD (q+1) 1)=some (SN):=CH d;have z2:wr.cell? (AD (q+1) 2)=some (SN):=CH d;have z3:wr.cell? (AD (q+1) 3)=some (SN):=CH d;have z4:wr.cell? (AD (q+1) 4)=some (UV 0):=CH d;have y0:wr.frozen? (AD (q+1) 0)=false:=Pg d 0;have y1:wr.frozen? (AD (q+1) 1)=false:=Pg d 1;have y2:wr.frozen? (AD (q+1) 2)=false:=Pg d 2;have y3:wr.frozen? (AD (q+1) 3)=false:=Pg d 3;have y4:wr.frozen? (AD (q+1) 4)=false:=Pg d 4;have aQ:=O8 d;have bz:Hid (C 0=SL va J.length vc/\C 1=SL ve x aM/\C 2=SL vl x aN/\C 3=SL vn x aO):=⟨am,W,X,Y⟩;have bC:=O8 Z;have bH:=O8 aa;have bd:=O8 ab;obtain ⟨jl,bl⟩:=EX J.length;rw [bl]at g0 bz;have bA:=O8 bl;clear d r0 r1 r2 r3 am W X Y b0 ax ac ad Z aa ab bl y;go_wp2;(try simp only [Exit.inBlock,Exit.then]);obtain ⟨w9,bu⟩:=EX (((((wr.setCell (AD (q+1) 0) (SL va jl vc)).setCell (AD (q+1) 1) (SL ve x aM)).setCell (AD (q+1) 2) (SL vl x aN)).setCell (AD (q+1) 3) (SL vn x aO)).setCell (AD (q+1) 4) (UV M));rw [bu];obtain ⟨d0,d1,d2,d3,d4,cL⟩:=BY aQ.o w9 bu.symm;clear bu z0 z1 z2 z3 z4 y0 y1 y2 y3 y4 g0 g1 g2 g3 g4;refine Qz (v:=.agg #[SL va jl vc,SL ve x aM,SL vl x aN,SL vn x aO,UV M]) ?_ rfl ?_
   ·rw [cX rfl];go_simp
   ·have b6:BW w w2:=af co.o ap.o;have de:=ap.o.size
    have dd:=bO.o;have dc:=HQ.o;have ce:=K.o.result b6 (r:=q+1) ZO ZO aQ.o cL;obtain ⟨dg,dh,di,cY,dj,cZ,dk,c5,am,W,X,Y,r0,r1,r2,r3⟩:=ce.L8;obtain ⟨f0,f1,f2,f3⟩:=bz.o;rw [f0]at am;rw [f1]at W;rw [f2]at X;rw [f3]at Y;obtain ⟨rfl,-,rfl⟩:=P8 am;obtain ⟨rfl,-,rfl⟩:=P8 W;obtain ⟨rfl,-,rfl⟩:=P8 X;obtain ⟨rfl,-,rfl⟩:=P8 Y;have ac:Ls.length=x:=by rw [<-bC.o];simp
    have ad:Ns.length=x:=by rw [<-bH.o];simp
    have cM:Rs.length=x:=by rw [<-bd.o];simp
    have cd:=LG HA.o;rw [S.o,bd.o]at cd;have b2:∀i,i<x->(wP Rs).getD i []=(iG A i).map λ(t:Nat)=>(t:Int):=λi B=>wQ _ (by rw [<-bd.o,PZ,QV B];rfl);have bo:∀i,i<x->A.ay i∈A.ak:=λi B=>by unfold Au.ay;rw [Pd,Pe (ZR S.o B)];exact QF _
    have a4:∀i,i<x->(∀t∈iG A i,t<x)/\(iG A i).length<=16777216:=λi B=>by
     have h1:=HA.o.tl _ (bo i B);have h2:=HA.o.mZ _ (bo i B);unfold iG;cases gU A i
     ·exact ⟨λt h=>by simp at h,ZS⟩
     ·refine ⟨λt h=>?_,?_⟩
      ·rw [<-S.o];exact h2 t (PY.1 (ZX h)).1
      ·have h3:=Qn (gU A) (A.ay i).tO;simp only [R0]
       exact PG h3 h1
    have aW:∀i,i<x->((wP Rs).getD i []).length<=16777216:=λi B=>by rw [b2 i B,PB];exact (a4 i B).2
    have aY:(wP Rs).length=x:=by unfold wP;rw [PB];exact cM
    unfold pL;rw [S.o];refine ⟨va,jl,vc,J,ve,aM,wP Rs,vl,aN,aE Ls,vn,aO,λi=>(A.ay i).inn,?_,⟨⟨⟨aY,r1,λi B z hz=>?_,λi B=>?_,ZO⟩,?_,λi B=>?_,aW⟩,?_,?_,?_,λi B=>?_⟩,cd,λi _=>rfl,HJ.o.symm,?_,?_⟩
    ·unfold jj;rw [cu.o]
    ·rw [b2 i B]at hz;obtain ⟨t,ht,rfl⟩:=Qx.1 hz
     have:=(a4 i B).1 t ht;omega
    ·have:=aW i (ZR aY.symm B);omega
    ·rw [ad]at r3;rw [bH.o];exact r3
    ·have h1:=HA.o.inn _ (bo i B);have h2:=QG (n:=2) ZD HA.o.sets
     exact Ps h1 (PG h2 ZD)
    ·rw [bA.o]at r0;exact r0
    ·rw [ac]at r2;exact r2
    ·rw [<-bA.o,<-HJ.o];exact PG (Qn _ _) (ZH aj.o)
    ·rw [<-HJ.o]at B;rw [<-S.o];exact HA.o.aP i (PY.1 B).1
    ·rw [bC.o]
    ·exact ce.aJ
def xR(a b u:Nat):Bool:=decide (qF a u=0)&&decide (b&&&u=0)
def pw{a b u}(g:a<18446744073709551616)(i:u<18446744073709551616):xR a b u=true↔jI a b u:=by
 unfold xR jI;rw [Qk,Qw,Qw,xz g i];constructor;rintro ⟨e,f⟩ k;refine ⟨e k,λc=>?_⟩;have d:(b&&&u).testBit k=false:=by rw [f,Rn]
 rw [RM,c,Qu]at d;exact d;intro h;refine ⟨λk=>(h k).1,SM λk=>?_⟩;rw [RM,Rn];cases c:b.testBit k
 rfl;rw [(h k).2 c];rfl
structure FO (w:WD) (f:Nat) (c:OA) (b cs:Nat) (a:OA) (nl d:Nat) (st e:List Nat):Prop where
 dB:w.heap[f]? =some (.cells #[SL c b cs,SL a nl d] 25 (0,0))
 On:aG .u64 w c b (aE st)
 loop:aG .u64 w a nl (aE e)
def FO.ag{w w' b j i d e g c k f}(h:FO w b j i d e g c k f)(a:BW w w'):FO w' b j i d e g c k f:=
 ⟨(a.block b (Pb.1 h.dB).1).trans h.dB,h.On.ag a,h.loop.ag a⟩
def Cf(b a k)(c:0<a.length):gS (aE b) (aE a) k=((aU b a k:Nat):Int):=by unfold gS aU;rw [aD,aD];by_cases h:k<b.length;rw [PW h,PW h,cG h];rw [Qa h,Qa h,cG (S7 _ c)]
def kE(b a:List Nat):Prop:=(∀x∈b,x<18446744073709551616)/\∀x∈a,x<18446744073709551616
def kE.lt{c b}(h:kE c b)(k)(d:0<b.length):aU c b k<18446744073709551616:=by unfold aU;split;rename_i a;rw [Pd,Pe a];exact h.1 _ (QF a);have a:=S7 (k-c.length) d;rw [Pd,Pe a];exact h.2 _ (QF a)
def pt(A:Au)(b a:List Nat)(i k:Nat):Bool:=xR (A.ay i).need (A.ay i).ban (aU b a k)
def Ha(w G L F z C D a f j g A T V U Y E Z)(P:gL A)(h:pD w L A T V U Y E Z)(hw:FO w G F z C D a f j g)(Q:kE j g)(h1:z<=1000000)(h2:a<=1000000)(hp:0<a)(i k:Nat)(R:i<A.ak.length)(hk:k<=1000000):
 CL 49 #[IV i,IV k,PT G,PT L] w λe m=>e=RT (.bool (pt A j g i k))/\BW w m:=by
 have I:g.length=a:=by have:=hw.loop.1;rw [aD]at this;exact this
 have w0:CA w G 0 (SL F z C):=CH hw.dB
 have w1:CA w G 1 (SL D a f):=CH hw.dB
 have H:Hid (CL 50 #[.agg #[SL F z C,SL D a f],IV k] w λe m=>e=RT (UV ((aU j g k:Nat):Int))/\BW w m):=by have:=L9 F z C D a f (aE j) (aE g) k w h1 h2 hk hw.On hw.loop hp;rw [Cf j g k ZO]at this;exact this
 have l:=Q.lt k ZO
 have p:Hid (∀m,BW w m->pD m L A T V U Y E Z):=λm hb=>h.ag hb
 have aa:Hid (A.ak.length=E):=h.EI.bA
 have ab:(i:Int)<E:=ZH h.EI.bA
 have HI:=O8 R
 have HA:=O8 P
 have⟨u,J⟩:=EX (aU j g k)
 rw [J]at H l
 have HU:Hid (pt A j g i k=xR (A.ay i).need (A.ay i).ban u):=by unfold pt;rw [J];exact O8 rfl
 rw [HU.o]
 clear h hw Q P J I R
 go_enter func49,ntmps49
 go_upto_region 2 with(go_at_call 50;apply H.o.mono;rintro e w2 ⟨rfl,c⟩;have d:=O8 c;clear c)
 clear w0 w1
 obtain ⟨-,-,c2⟩:=(p.o w2 d.o).cells
 obtain ⟨b,o,ta,tl,tc,rfl,S,k0,k1,k2,k3,x⟩:=(p.o w2 d.o).nd HI.o
 have y:A.ay i∈A.ak:=Pm S
 have⟨v,c⟩:=HA.o.bits _ y
 have W:bits .andNot .u64 ((A.ay i).need:Int) (u:Int)=((qF (A.ay i).need u:Nat):Int):=Ux _ _ v l
 have X:bits .and .u64 ((A.ay i).ban:Int) (u:Int)=(((A.ay i).ban&&&u:Nat):Int):=RC _ _ c l
 have K:∀N:Nat,((N:Int)==0)=decide (N=0):=λN=>by by_cases e:N=0;subst e;rfl;rw [PH e];simp;omega
 have n:Hid (xR (A.ay i).need (A.ay i).ban u=(decide (qF (A.ay i).need u=0)&&decide ((A.ay i).ban&&&u=0))):=rfl
 have⟨M,s⟩:=EX (qF (A.ay i).need u)
 have⟨O,t⟩:=EX ((A.ay i).ban&&&u)
 rw [s]at W n
 rw [t]at X n
 have z1:=K M
 have z2:=K O
 have⟨B1,q⟩:=EX (decide (M=0))
 have⟨B2,r⟩:=EX (decide (O=0))
 rw [q]at z1 n
 rw [r]at z2 n
 clear K s t q r S x y k2 k3 v c H
 generalize (A.ay i).need=x1 at k0 W
 generalize (A.ay i).ban=x2 at k1 X
 cases B1
 go_wp2
 go_ret
 exact ⟨by rw [n.o];rfl,d.o⟩
 go_wp2
 go_ret
 exact ⟨by rw [n.o];rfl,d.o⟩
def jZ(A:Au)(b a:List Nat)(k i:Nat):List Nat:=if pt A b a i k then((A.ay i).tO.filter λt=>pt A b a t (jH b a k)).map λt=>jH b a k*A.ak.length+t else []
def fG(A:Au)(b a:List Nat)(k i j:Nat):List Nat:=if pt A b a i k then(((A.ay i).tO.take j).filter λt=>pt A b a t (jH b a k)).map λt=>jH b a k*A.ak.length+t else []
def fH(A:Au)(b a:List Nat)(z:Nat):List Nat:=jZ A b a (z/A.ak.length) (z%A.ak.length)
def KM(A:Au)(z:Nat):Nat:=(A.ay (z%A.ak.length)).inn
def dm{n k i:Nat}(a:i<n):(k*n+i)/n=k/\(k*n+i)%n=i:=by have b:0<n:=ZO;constructor;rw [Nat.mul_comm,Nat.mul_add_div b,Nat.div_eq_of_lt a,SS];rw [Nat.mul_comm,Va,Sq a]
def Co{b a k}(d:0<a.length)(c:k<b.length+a.length):jH b a k<b.length+a.length:=by unfold jH;split<;>omega
def gJ{A:Au}{i}(a:i<A.ak.length):A.ay i∈A.ak:=by unfold Au.ay;rw [Pd,Pe a];exact QF a
def IM{A}(m:gL A){b a}(p:0<a.length)(v:kE b a):
 Iq A b a (wP ((List.range ((b.length+a.length)*A.ak.length)).map (fH A b a))) (λk q=>k*A.ak.length+q) (λz=>z/A.ak.length) (λz=>z%A.ak.length):=by
 have B:(wP ((List.range ((b.length+a.length)*A.ak.length)).map (fH A b a))).length=(b.length+a.length)*A.ak.length:=by simp [wP]
 have o:∀k q,k<b.length+a.length->q<A.ak.length->k*A.ak.length+q<(b.length+a.length)*A.ak.length:=λk q l c=>by have e:(k+1)*A.ak.length<=(b.length+a.length)*A.ak.length:=SO _ l;rw [Tg]at e;omega
 refine ⟨λk q _ c=>(dm c).1,λk q _ c=>(dm c).2,λk q l c y=>?_⟩
 have s:=o k q l c
 have n:(wP ((List.range ((b.length+a.length)*A.ak.length)).map (fH A b a))).getD (k*A.ak.length+q) []=(fH A b a (k*A.ak.length+q)).map λ(t:Nat)=>(t:Int):=wQ _ (by rw [PZ,QV s];rfl)
 have w:fH A b a (k*A.ak.length+q)=jZ A b a k q:=by unfold fH;rw [(dm c).1,(dm c).2]
 have d:∀i k,i<A.ak.length->(pt A b a i k=true↔jI (A.ay i).need (A.ay i).ban (aU b a k)):=λi k x=>pw (m.bits _ (gJ x)).1 (v.lt k p)
 unfold Own.gn
 rw [B,n,w]
 have C:((y:Int)∈(jZ A b a k q).map λ(t:Nat)=>(t:Int))↔y∈jZ A b a k q:=by
  rw [Qx];exact ⟨λ⟨t,e,g⟩=>
   (by obtain rfl:t=y:=ZO;exact e),λh=>⟨y,h,rfl⟩⟩
 rw [C]
 unfold jZ
 constructor
 rintro ⟨_,_,h⟩
 by_cases f:pt A b a q k=true
 rw [PW f]at h
 have⟨t,e,g⟩:=Qx.1 h
 have⟨j,u⟩:=PY.1 e
 exact ⟨t,j,(d q k c).1 f,(d t _ (m.mZ _ (gJ c) t j)).1 u,g.symm⟩
 rw [Qa f]at h;cases h
 rintro ⟨t,e,g,j,rfl⟩
 have r:=m.mZ _ (gJ c) t e
 have f:=(d q k c).2 g
 refine ⟨s,o _ t (Co p l) r,?_⟩
 rw [PW f]
 exact Qx.2 ⟨t,PY.2 ⟨e,(d t _ r).2 j⟩,rfl⟩
def Bs(w:WD)(A:Au)(b a:List Nat)(e:Ending)(l:WD):Prop:=
 ∃f g o I d m E h p L j r c n,n=(b.length+a.length)*A.ak.length/\e=RT (jj f g o d n m h p j r A.sets)/\pN l f g I d n E h L j c/\Iq A b a E (λk q=>k*A.ak.length+q) (λz=>z/A.ak.length) (λz=>z%A.ak.length)/\(∀z,z<n->c z=(A.ay (z%A.ak.length)).inn)/\I=A.aP.filter (λi=>pt A b a i 0)/\BW w l
def SZ:=@Go.IntKind.wrap_i64
def TI:=@Nat.mul_le_mul
def Ul:=@List.length_replicate
def F4(w A ia il ic na G nc)(hv:cm w A ia il na G)(hA:gL A)(sa ns cs la np cp l d)(T:aG .u64 w sa ns (aE l))(b1:aG .u64 w la np (aE d))(hL:kE l d)(D:0<np)(hN:ns+np<=255):
 CL 25 #[.agg #[IV (A.sets:Int),SL ia il ic,SL na G nc],.agg #[SL sa ns cs,SL la np cp]] w (Bs w A l d):=by
 obtain ⟨i3,dJ,dT,dR,dI⟩:=P6 Tryz.eA
 obtain ⟨dU,cV,dg,dd,cP⟩:=P6 Tryz.AM
 obtain ⟨dh,bs,bC,bz,bq⟩:=P6 Tryz.xf
 obtain ⟨q,hq⟩:=EX w.heap.size
 obtain ⟨wa,bf⟩:=EX (w.alloc (CE #[IV (A.sets:Int),SL ia il ic,SL na G nc] 36))
 obtain ⟨wb,ao⟩:=EX (wa.alloc (CE #[SL sa ns cs,SL la np cp] 25))
 obtain ⟨I,aU⟩:=EX (wb.alloc (CE #[SN,SN,SN,SN,UV 0] 57))
 have cQ:BW w wa:=bf▸ah _ _
 have bY:BW wa wb:=ao▸ah _ _
 have bb:BW wb I:=aU▸ah _ _
 have bh:wa.heap.size=q+1:=ZW bf hq
 have bi:wb.heap.size=q+1+1:=ZW ao bh
 have s1:I.heap.size=q+1+1+1:=ZW aU bi
 have aM:BW w I:=af cQ (af bY bb)
 have cU:I.heap[q]? =some (.cells #[IV (A.sets:Int),SL ia il ic,SL na G nc] 36 (0,0)):=(bb.block q ZO).trans ((bY.block q ZO).trans (by rw [<-bf,<-hq];exact (Ph w _).1))
 have cS:I.heap[q+1]? =some (.cells #[SL sa ns cs,SL la np cp] 25 (0,0)):=(bb.block (q+1) ZO).trans (by rw [<-ao,<-bh];exact (Ph wa _).1)
 have cR:I.heap[q+2]? =some (.cells #[SN,SN,SN,SN,UV 0] 57 (0,0)):=by rw [<-aU,<-(show wb.heap.size=q+2 from bi)];exact (Ph wb _).1
 have P:Hid (∀u,BW I u->pD u q A ia il ic na G nc):=λu hb=>(pD.mk cU (hv.ag aM)).ag hb
 have bS:Hid (∀u,BW I u->FO u (q+1) sa ns cs la np cp l d):=λu hb=>(FO.mk cS (T.ag aM) (b1.ag aM)).ag hb
 have cz:Hid (l.length=ns):=by have:=T.1;rw [aD]at this;exact this
 have bN:Hid (d.length=np):=by have:=b1.1;rw [aD]at this;exact this
 have bE:Hid (CL 47 #[.agg #[IV (A.sets:Int),SL ia il ic,SL na G nc]] I λe u=>e=RT (UV ((2^A.sets-1:Nat):Int))/\BW I u):=zu I A.sets hA.sets _ _
 have bO:Hid (∀(u:WD)(i k:Nat),BW I u->i<G->k<=1000000->CL 49 #[IV (i:Int),IV (k:Int),PT (q+1),PT q] u λe ap=>e=RT (.bool (pt A l d i k))/\BW u ap):=λu i k hb hi hk=>Ha u (q+1) q sa ns cs la np cp l d A ia il ic na G nc hA (P.o u hb) (bS.o u hb) hL ZO ZO D i k (by rw [hv.bA];exact hi) hk
 have cC:Hid (∀u,CL 48 #[.agg #[SL sa ns cs,SL la np cp]] u λe ap=>e=RT (IV ((ns:Int)+(np:Int)))/\BW u ap):=λu=>KH sa ns cs la np cp u ZO ZO
 have dQ:=D
 have HA:=O8 hA
 have dq:=O8 hL
 have dk:=O8 aM
 have dp:=O8 cR
 have HQ:=O8 hq
 have cy:=O8 s1
 have b5:G<=256:=by rw [<-hv.bA];exact hA.many
 have ad:Hid (A.ak.length=G):=hv.bA
 have ef:il<=16777216:=by have:=hv.aP.1;rw [aD]at this;rw [<-this];exact hA.il
 have aq:Hid (A.aP.length=il):=by have:=hv.aP.1;rw [aD]at this;exact this
 obtain ⟨c0,c1,c2⟩:=(P.o I (PF _ _)).cells
 clear D hv hA aM cU cR cS s1 T b1 hL cQ bY bb
 go_enter func25,ntmps25
 go_upto_region 1 with(fail)
 (try rw [aU])
 (try rw [hq])
 (try rw [bh])
 (try rw [bi])
 clear bh bi
 obtain ⟨M,hM⟩:=EX (((2^A.sets-1:Nat):Int))
 rw [hM]at bE
 have dr:=O8 hM
 clear hM aU hq bf ao
 go_upto_region 2 with(go_at_call 47;apply bE.o.mono;rintro e w2 ⟨rfl,cO⟩;have dl:=O8 cO;clear cO)
 obtain ⟨g,hg⟩:=EX w2.heap.size
 obtain ⟨w3,be⟩:=EX (w2.alloc (CE #[SN,SN,SN,SN,UV M] 57))
 (try rw [be])
 (try rw [hg])
 have bG:Hid (PM w2 w3 g (xL M) [] [] [] [] [] M):=PM.aM (be▸ah _ _) ZO (by rw [<-be,<-hg];exact (Ph w2 _).1)
 have aJ:Hid (BW I w2):=dl.o
 have aF:Hid (∀u,BW w2 u->BW I u):=λu hb=>af aJ.o hb
 have a6:Hid (∀u,BW w3 u->u.cell? (AD (q+1) 0)=some (SL sa ns cs)/\u.cell? (AD (q+1) 1)=some (SL la np cp)/\u.cell? (AD q 2)=some (SL na G nc)):=λu hb=>by have h:=aF.o u (af bG.o.aJ hb);have h2:=(bS.o u h).dB;exact ⟨CH h2,CH h2,(P.o u h).cells.2.2⟩
 obtain ⟨e0,e1,e2⟩:=a6.o w3 (PF _ _)
 clear be hg bE c0 c1 c2
 refine aw 6 (S:=λW'=>W'.cell? (AD (q+1) 0)=some (SL sa ns cs)/\W'.cell? (AD (q+1) 1)=some (SL la np cp)/\W'.cell? (AD q 2)=some (SL na G nc)) ZK (⟨e0,e1,e2⟩) (λbX=>?_)
 refine aB 0 ?_
 refine aB 2 ?_
 refine aB 3 ?_
 refine aB 4 ?_
 clear bX e0 e1 e2
 refine aK 1 λK hK=>?_
 rw [PW (by rfl)]
 apply aY.o
 refine aO (f:=48) (cC.o w3.drew) ?_ (λe w4 b9=>?_)
 ·clear hK;go_simp
 obtain ⟨rfl,E⟩:=b9
 have ar:BW w3 w4:=(PF _ w3).drew.trans E
 have bJ:=O8 (bG.o.ag ar)
 have bP:=O8 (a6.o w4 ar)
 refine ⟨_,rfl,?_⟩
 refine hK.o _ _ (λ_=>a6.o w4 ar) ?_
 clear hK K E ar bG a6 cC
 try walk_nrm
 refine aK 5 λK hK=>?_
 go_simp
 refine hK.o _ _ (λ_=>bP.o) ?_
 clear hK K
 try walk_nrm
 refine aK 6 λK hK=>?_
 go_simp
 refine hK.q ?_
 clear hK K
 refine az ZK ?_
 obtain ⟨n0,c6⟩:=EX (ns+np)
 have bw:(ns:Int)+(np:Int)=(n0:Int):=ZO
 rw [bw]
 have a2:=O8 c6
 have cw:Hid (∀(u:WD)(i:Nat),BW I u->i<G->CL 49 #[IV (i:Int),IV 0,PT (q+1),PT q] u λe ap=>e=RT (.bool (pt A l d i 0))/\BW u ap):=λu i hb hi=>bO.o u i 0 hb hi ZO
 have b3:n0<=255:=ZO
 obtain ⟨U,Z,-⟩:=bP.o
 obtain ⟨-,d1,-⟩:=(P.o w4 (aF.o w4 bJ.o.aJ)).cells
 clear bP c6 bw hN
 go_wp2
 go_loopw [30] (λv wr=>∃(k:Nat)(C:Nat->Value),k<=il/\v=IV k/\Hid (PM w2 wr g C ((A.aP.take k).filter (λi=>pt A l d i 0)) [] [] [] [] M)) (λv _=>il-(intOf v).toNat)
 exact ⟨0,_,Pz _,rfl,bJ⟩
 clear bJ d1 U Z
 obtain ⟨k,C,hk,rfl,D⟩:=hrel
 have H:=O8 (aF.o wr D.o.aJ)
 have L:=P.o wr H.o
 by_cases an:k<il
 ·have c3:(k:Int)<(il:Int):=ZO;obtain ⟨i,hi⟩:∃i,A.aP[k]? =some i:=⟨_,Pe (ZR aq.o an)⟩
  have dK:i<G:=by rw [<-ad.o];exact HA.o.aP i (Pm hi)
  obtain ⟨-,h0|⟨ib,io,rfl,hc⟩⟩:=L.EI.aP
  ·omega
  have ck:wr.cell? (AD ib (io+k))=some (IV (i:Int)):=by have:=hc k an;rw [cG (ZR aq.o an),Pd,hi]at this;exact this
  have T:=kK (p:=λi=>pt A l d i 0) hi;have HC:=O8 (cw.o wr i H.o dK);clear hc L hi;cases au:pt A l d i 0
  ·rw [au]at HC T;have O:Hid ((A.aP.take (k+1)).filter (λi=>pt A l d i 0)=(A.aP.take k).filter (λi=>pt A l d i 0)):=by rw [T];exact O8 (Qb _)
   clear T au;go_wp2_with (go_at_call 49;apply HC.o.mono;rintro e w4 ⟨rfl,E⟩;have ai:=O8 E;clear E);go_roundw;exact ⟨k+1,C,ZO,ZN,by rw [O.o];exact O8 (D.o.ag ai.o)⟩;simp [intOf];omega
  ·rw [au]at HC T;obtain ⟨J,hJ⟩:=EX ((A.aP.take k).filter (λi=>pt A l d i 0))
   have cM:J.length<=k:=by rw [<-hJ];exact PG (Qn _ _) (by rw [QI];omega)
   rw [hJ]at D T;have O:Hid ((A.aP.take (k+1)).filter (λi=>pt A l d i 0)=J++[i]):=T;clear T au hJ;go_upto_region 8 with(go_at_call 49;apply HC.o.mono;rintro e w4 ⟨rfl,E⟩;have a4:=O8 (D.o.ag E);clear E);clear ck D;obtain ⟨a0,cE,bU,b7,dF⟩:=a4.o.sl 0 ZO;obtain ⟨m,hm⟩:=EX ((XP J [] [] [] 0).length);rw [hm]at bU b7 dF;have cj:Hid (m=J.length):=by show m=_;rw [<-hm];exact bV J
   have ej:m<=k:=ZR cj.o cM;have HO:Hid (Sl w4 3 (SL a0 m cE) m (bI J)):=b7;have aZ:=O8 bU;clear b7 hm bU cM;go_wp2_with (at_builtin;refine av rfl (.tmp 39) (.tmp 41) 33 rfl 3 i3 (IV 0) 8 QD dJ dT dR dI rfl ZD (SL a0 m cE) _ _ rfl HO.o _ rfl rfl ZO ?_;intro g1 c1 w5 hs R ae;obtain ⟨q5,f5⟩:=a4.o.dy (k:=0) ZO (ZR aZ.o R);rw [aZ.o]at q5;have co:=O8 (a4.o.upd (k:=0) (v:=SV g1 (m+1) c1) (xs:=bI J++[IV (i:Int)]) ZO (by rw [Pk,bV,<-cj.o];exact hs) (ZR aZ.o R) ⟨g1,rfl,ZR aZ.o ae⟩ (OY i) rfl a4.o.oh rfl).1;clear hs R ae);go_roundw;exact ⟨k+1,_,ZO,ZN,ZR O.o co⟩;simp [intOf];omega
 ·obtain rfl:k=il:=ZO;obtain ⟨-,d1,d2⟩:=L.cells
  have bH:Hid (PM w2 wr g C (A.aP.filter (λi=>pt A l d i 0)) [] [] [] [] M):=by have:=D.o;rw [PI (by rw [aq.o];exact Pf _)]at this;exact this
  clear D L;obtain ⟨J,hJ⟩:=EX (A.aP.filter (λi=>pt A l d i 0));rw [hJ]at bH;have HJ:=O8 hJ;clear hJ cw;obtain ⟨wo,rfl⟩:∃wo:WD,wo=wr:=⟨_,rfl⟩;go_wp2;go_loopg [47] n0 (λgh v wr=>∃(k:Nat)(C:Nat->Value)(B:List Value),k+gh=n0/\v=IV k/\Hid (PM w2 wr g C J B ((List.range (k*G)).map (fH A l d)) [] ((List.range (k*G)).map (KM A)) M));exact ⟨0,C,[],PU _,rfl,by rw [Th];exact bH⟩;clear bH d1 d2;obtain ⟨k,C,B,eg,rfl,D⟩:=hrel;generalize gk=gO at *;have H:=O8 (aF.o wr D.o.aJ);by_cases eh:k<n0
  ·have d6:(k:Int)<(n0:Int):=ZO;obtain ⟨nx,b6⟩:=EX (jH l d k)
   have dv:=O8 b6;have Y:nx=if k+1=n0 then ns else k+1:=by rw [<-b6];unfold jH;rw [cz.o,bN.o,a2.o]
   have da:nx<=255:=by rw [Y];have:=a2.o;split<;>omega
   obtain ⟨wk,rfl⟩:∃wk:WD,wk=wr:=⟨_,rfl⟩;have ao:=(bS.o wk H.o).dB;have U:wk.cell? (AD (q+1) 0)=some (SL sa ns cs):=CH ao;obtain ⟨-,-,d2⟩:=(P.o wk H.o).cells;clear ao b6;go_upto_if 54 with(fail);go_cut [12]from 48 to 109 (λv wc=>v=IV (nx:Int)/\wc=wk);case first=>
    by_cases cW:k+1=n0
    ·rw [PW cW]at Y;have t0:(((k:Int)+1)==(n0:Int))=true:=by rw [Ud];omega
     subst Y;go_wp2;go_meet;case rel=>exact ⟨rfl,rfl⟩
    ·rw [Qa cW]at Y;have t0:(((k:Int)+1)==(n0:Int))=false:=by rw [Pq];omega
     subst Y;go_wp2;go_meet;case rel=>exact ⟨ZN,rfl⟩
   case rest=>
    obtain ⟨rfl,rfl⟩:=hcut;clear Y;obtain ⟨z0,bg⟩:=EX (k*G);rw [bg]at D;have cD:=O8 bg;obtain ⟨XX,ba⟩:=EX (nx*G);have dZ:XX<=65536:=by rw [<-ba];exact PG (TI da b5) ZD
    have eq:z0+G<=65536:=by have h1:(k+1)*G<=255*256:=TI ZO b5;rw [Tg,bg]at h1;omega
    have x1:IntKind.i64.wrap ((nx:Int)*(G:Int))=(XX:Int):=by have e:((nx:Int)*(G:Int))=((nx*G:Nat):Int):=ZS;rw [e,ba,SZ];omega
    have dE:=O8 ba;clear bg ba;go_wp2;go_loopg [61] G (λgh v wr=>∃(x:Nat)(C:Nat->Value)(B:List Value),x+gh=G/\v=IV x/\Hid (PM w2 wr g C J B ((List.range (z0+x)).map (fH A l d)) [] ((List.range (z0+x)).map (KM A)) M));exact ⟨0,C,B,PU _,rfl,D⟩;clear D d2 H;obtain ⟨x,C,B,eo,rfl,D⟩:=hrel;have H:=O8 (aF.o wr D.o.aJ);have L:=P.o wr H.o;obtain ⟨Ns,Q⟩:=EX ((List.range (z0+x)).map (KM A));obtain ⟨Rs,V⟩:=EX ((List.range (z0+x)).map (fH A l d));rw [Q,V]at D;by_cases an:x<G
    ·have c3:(x:Int)<(G:Int):=ZO;obtain ⟨b,o,ta,tl,tc,rfl,c9,k0,k1,k2,k3,ay⟩:=L.nd (i:=x) (ZR ad.o an)
     have cd:A.ay x∈A.ak:=Pm c9;have en:tl<=16777216:=by have:=ay.1;rw [aD]at this;rw [<-this];exact HA.o.tl _ cd
     have a7:Hid ((A.ay x).tO.length=tl):=by have:=ay.1;rw [aD]at this;exact this
     have cA:Hid (∀t∈(A.ay x).tO,t<G):=λt ht=>by rw [<-ad.o];exact HA.o.mZ _ cd t ht
     have dA:Hid (jZ A l d k x=fG A l d k x tl):=by unfold jZ fG;rw [PI (by rw [a7.o];exact Pf _)];exact O8 rfl
     obtain ⟨y,hy⟩:=EX (z0+x);have aP:=dm (n:=G) (k:=k) an;rw [cD.o,hy]at aP;have ds:Hid ((List.range (z0+(x+1))).map (KM A)=Ns++[(A.ay x).inn]):=by
      rw [<-QH,hy,QQ,Qg,<-Q,hy];have e:KM A y=(A.ay x).inn:=by unfold KM;rw [ad.o,aP.2]
      show _++[KM A y]=_;rw [e]
     have dz:Hid ((List.range (z0+(x+1))).map (fH A l d)=Rs++[jZ A l d k x]):=by
      rw [<-QH,hy,QQ,Qg,<-V,hy];have e:fH A l d y=jZ A l d k x:=by unfold fH;rw [ad.o,aP.1,aP.2]
      show _++[fH A l d y]=_;rw [e]
     have cq:Hid (Ns.length=y):=by show _=_;rw [<-Q,<-hy];simp
     have cx:Hid (B.length=y):=by show _=_;rw [D.o.cS,<-V,<-hy];simp
     have ep:y+1<=65536:=ZO;clear aP hy;have ct:Hid (∀j t,(A.ay x).tO[j]? =some t->fG A l d k x (j+1)=fG A l d k x j++(if pt A l d x k&&pt A l d t nx then [XX+t]else [])):=λj t h=>by
      unfold fG;rw [kK h,dv.o,ad.o,dE.o];cases pt A l d x k
      ·simp
      ·cases pt A l d t nx<;>simp
     have bR:Hid (∀u,BW wr u->aG .i64 u ta tl (aE (A.ay x).tO)):=λu hb=>ay.ag hb;obtain ⟨bj,bB⟩:=EX ((A.ay x).tO);rw [bB]at a7 cA ct bR;obtain ⟨wq,aW⟩:=EX (wr.alloc (CE #[UV ((A.ay x).need:Int),UV ((A.ay x).ban:Int),UV ((A.ay x).inn:Int),SL ta tl tc] 62));obtain ⟨nb,b4⟩:=EX wr.heap.size;have bc:BW wr wq:=aW▸ah _ _;have am:=aT wr #[UV ((A.ay x).need:Int),UV ((A.ay x).ban:Int),UV ((A.ay x).inn:Int),SL ta tl tc] 62;rw [aW,b4]at am;have n2:=(am 2 _ rfl).1;have n3:=(am 3 _ rfl).1;have cl:Hid (¬eW rn g C nb):=λs=>ZH (D.o.pC.jO nb s);have cu:=O8 (D.o.ag bc);have cB:Hid (∀u,BW wq u->aG .i64 u ta tl (aE bj)):=λu hb=>bR.o u (af bc hb);have dn:Hid (BW I wq):=af H.o bc;have d8:nb<wq.heap.size:=by rw [<-aW,P3];omega
     generalize (A.ay x).need=dY at *;generalize (A.ay x).ban=ed at *;generalize (A.ay x).inn=bD at *;clear Q V c9 ay cd am bc bB bR L D H;go_upto_region 20 with(fail);(try rw [aW]);(try rw [b4]);clear aW b4 k0 k1 k2 k3;go_wp2;go_loopw [15,69] (λlv v wx=>∃(j:Nat)(a:OA)(m c:Nat),j<=tl/\v=IV j/\lv=SL a m c/\m<=j/\Hid (oV wq wx (SL a m c) (fG A l d k x j))/\Hid (m=(fG A l d k x j).length)) (λ_ v _=>tl-(intOf v).toNat);case atStart=>exact ⟨0,none,0,0,Pz _,rfl,rfl,Pf _,by
      have:fG A l d k x 0=[]:=by unfold fG;cases pt A l d x k<;>simp
      rw [this];exact O8 (oV.nil wq),by
      have:fG A l d k x 0=[]:=by unfold fG;cases pt A l d x k<;>simp
      rw [this];exact O8 rfl⟩
     case round=>
      clear n3;obtain ⟨j,a,m,c,hj,rfl,rfl,ei,X,ab⟩:=hrel;by_cases b0:j<tl
      ·have d5:(j:Int)<(tl:Int):=ZO;obtain ⟨t,ht⟩:∃t,bj[j]? =some t:=⟨_,Pe (ZR a7.o b0)⟩
       have dS:=cA.o t (Pm ht);obtain ⟨-,h0|⟨tb,dW,rfl,hc⟩⟩:=cB.o wr X.o.aJ
       ·omega
       have ck:wr.cell? (AD tb (dW+j))=some (IV (t:Int)):=by have:=hc j b0;rw [cG (ZR a7.o b0),Pd,ht]at this;exact this
       have HB:=O8 (af dn.o X.o.aJ);have N:=O8 (bO.o wr x k HB.o an ZO);have aC:Hid (∀u,BW wr u->CL 49 #[IV (t:Int),IV (nx:Int),PT (q+1),PT q] u λe ap=>e=RT (.bool (pt A l d t nx))/\BW u ap):=λu hb=>bO.o u t nx (af HB.o hb) dS ZO;have HS:=O8 (ct.o j t ht);clear hc ht n2;cases aN:pt A l d x k
       ·rw [aN]at N HS;have O:Hid (fG A l d k x (j+1)=fG A l d k x j):=by rw [HS.o];exact O8 (Qb _)
        clear aN HS;go_wp2_with (go_at_call 49;apply N.o.mono;rintro e w4 ⟨rfl,E⟩;have ai:=O8 E;clear E);go_roundw;exact ⟨j+1,a,m,c,ZO,ZN,rfl,ZO,by rw [O.o];exact O8 (X.o.ag ai.o),ZR O.o ab⟩;simp [intOf];omega
       ·rw [aN]at N HS;cases bd:pt A l d t nx
        ·rw [bd]at aC HS;have O:Hid (fG A l d k x (j+1)=fG A l d k x j):=by rw [HS.o];exact O8 (Qb _)
         clear aN bd HS;go_wp2_with (first|(go_at_call 49;apply N.o.mono;rintro e w4 ⟨rfl,E⟩;have ai:=O8 E;have ac:=O8 (aC.o w4 E);clear E N)|(go_at_call 49;apply ac.o.mono;rintro e w5 ⟨rfl,W⟩;have aX:=O8 W;clear W));go_roundw;exact ⟨j+1,a,m,c,ZO,ZN,rfl,ZO,by rw [O.o];exact O8 (X.o.ag (af ai.o aX.o)),ZR O.o ab⟩;simp [intOf];omega
        ·rw [bd]at aC HS;have O:Hid (fG A l d k x (j+1)=fG A l d k x j++[XX+t]):=by rw [HS.o];exact O8 rfl
         clear aN bd HS;go_upto_region 24 with(first|(go_at_call 49;apply N.o.mono;rintro e w4 ⟨rfl,E⟩;have ai:=O8 E;have ac:=O8 (aC.o w4 E);clear E N)|(go_at_call 49;apply ac.o.mono;rintro e w5 ⟨rfl,W⟩;have bo:=O8 (X.o.ag (af ai.o W));clear W));have HO:Hid (w5.ownsRow 0 66 2 (SL a m c) m (bK ((fG A l d k x j).map e0))):=by have:=bo.o.cO;rw [<-ab.o]at this;exact this
         have d9:t<=256:=ZO;have x2:IntKind.i64.wrap ((XX:Int)+(t:Int))=((XX+t:Nat):Int):=by rw [SZ];omega
         clear ck;go_wp2_with (at_builtin;refine nT rfl (.tmp 83) (.tmp 90) rfl (SL a m c) m ((fG A l d k x j).map e0) (by rw [PB];exact ab.o.symm) rfl HO.o (e0 (XX+t)) rfl ZO ?_;intro a8 c8 w8 ho hk c5;have dt:=O8 (bo.o.dT (t:=XX+t) (ZR ab.o.symm ho) hk (ZR ab.o.symm c5));clear ho hk c5);go_roundw;exact ⟨j+1,a8,m+1,c8,ZO,ZN,rfl,ZO,by rw [O.o,ab.o];exact dt,by rw [O.o,Pk,<-ab.o];exact O8 rfl⟩;simp [intOf];omega
      ·obtain rfl:j=tl:=ZO;obtain ⟨wx,rfl⟩:∃wx:WD,wx=wr:=⟨_,rfl⟩
       have dC:Hid (oV wq wx (SL a m c) (jZ A l d k x)):=ZR dA.o X;have cv:=O8 (cu.o.ag X.o.aJ);have p2:=(X.o.aJ.cell (by simp only;omega)).trans n2;have c7:nb<wx.heap.size:=ZH X.o.aJ.size;clear n2 X ab;obtain ⟨a1,cF,bW,b8,cH⟩:=cv.o.sl 1 ZO;have aQ:(XP J B [] Ns 1).length=y:=cx.o;rw [aQ]at bW b8 cH;have dw:Hid (Sl wx 64 (SL a1 y cF) y B):=b8;have N:=O8 bW;clear aQ bW b8;go_upto_region 27 with(at_builtin;refine av rfl (.tmp 95) (.tmp 97) 53 rfl 64 dU (SN) 24 Ve cV dg dd cP rfl ZD (SL a1 y cF) _ _ rfl dw.o _ rfl rfl ZO ?_;intro g1 c1 w7 hs R ae;obtain ⟨q7,f7⟩:=cv.o.dy (k:=1) ZO (ZR N.o R);rw [N.o]at q7;obtain ⟨w8,cb⟩:=EX (w7.setCell (AD g 1) (SV g1 (y+1) c1));obtain ⟨m1,m2,m3⟩:=cu.o.IK dC.o (v:=SV g1 (y+1) c1) (ZR cx.o hs) (ZR N.o R) ⟨g1,rfl,ZR N.o ae⟩ cb.symm;have ak:=O8 m1;have bF:=O8 m2;have ci:=O8 m3;clear hs R ae m1 m2 m3);(try rw [cb]);have dV:=bF.o.aq p2 cl.o;have cn:Hid (¬eW rn g (up C 1 (SV g1 (y+1) c1)) nb):=λs=>(ci.o nb s).elim cl.o (λh=>ZO);have d7:nb<w8.heap.size:=ZH bF.o.size;clear cb p2 cH q7 f7 bF ci c7;obtain ⟨C2,bp⟩:=EX (up C 1 (SV g1 (y+1) c1));rw [bp]at ak cn;clear bp;obtain ⟨a3,bT,aI,aS,aL⟩:=ak.o.sl 3 ZO;have aa:(XP J (B++[SL a m c]) [] Ns 3).length=y:=by show(dO Ns).length=y;unfold dO;rw [PB];exact cq.o
       rw [aa]at aI aS aL;have dx:Hid (Sl w8 45 (SL a3 y bT) y (dO Ns)):=aS;have ac:=O8 aI;clear aa aI aS;go_wp2_with (at_builtin;refine av rfl (.tmp 102) (.tmp 105) 23 rfl 45 dh (UV 0) 8 RS bs bC bz bq rfl ZD (SL a3 y bT) _ _ rfl dx.o _ rfl rfl ZO ?_;intro g3 c4 dX hs R ae;obtain ⟨di,dG⟩:=ak.o.dy (k:=3) ZO (ZR ac.o R);rw [ac.o]at di;obtain ⟨dj,aV⟩:=EX (dX.setCell (AD g 3) (SV g3 (y+1) c4));obtain ⟨m1,m2,m3⟩:=ak.o.upd (k:=3) (v:=SV g3 (y+1) c4) (xs:=dO Ns++[UV (bD:Int)]) ZO (by rw [Pk,dO,PB,cq.o];exact hs) (ZR ac.o R) ⟨g3,rfl,ZR ac.o ae⟩ (OZ bD) ak.o.cS ak.o.oh aV.symm;have dD:=O8 m1;clear hs R ae m1 m2 m3);(try rw [aV]);clear aV dV aL di dG ak;go_roundg (gk-1);case measure=>omega
       case rel=>exact ⟨x+1,_,_,ZO,ZN,by rw [dz.o,ds.o];exact dD⟩
    ·obtain rfl:x=G:=ZO;have dy:Hid (PM w2 wr g C J B ((List.range ((k+1)*x)).map (fH A l d)) [] ((List.range ((k+1)*x)).map (KM A)) M):=by
      have e:(k+1)*x=z0+x:=by rw [Tg,cD.o]
      rw [e,V,Q];exact D
     clear D Q V L;go_wp2;go_roundg (gO-1);case measure=>omega
     case rel=>exact ⟨k+1,C,B,ZO,ZN,dy⟩
  ·obtain rfl:k=n0:=ZO;obtain ⟨n,hn⟩:=EX (k*G)
   have dP:n<=65536:=by rw [<-hn];exact PG (TI b3 b5) ZD
   rw [hn]at D;have cr:=O8 hn;obtain ⟨Ns,Q⟩:=EX ((List.range n).map (KM A));obtain ⟨Rs,V⟩:=EX ((List.range n).map (fH A l d));rw [Q,V]at D;have aa:Ns.length=n:=by rw [<-Q];simp
   obtain ⟨a3,bT,aI,aS,aL⟩:=D.o.sl 3 ZO;have df:(XP J B [] Ns 3).length=n:=by show(dO Ns).length=n;unfold dO;rw [PB];exact aa
   rw [df]at aI aL;have aC:=O8 (D.o.pC.cell 2 ZO);obtain ⟨b2,ee,dH,-,a9⟩:=D.o.sl 2 ZO;have cK:=D.o.pC.lC 2;have du:=O8 Q;have a5:=O8 V;have ch:=O8 aa;clear hn Q V aa aS aI df dH;go_upto_region 31 with(at_make;refine bu rfl _ _ 23 rfl 45 dh (UV 0) 1 RS bs bC bz _ _ _ _ n rfl rfl rfl rfl (by rw [bq];omega) (by unfold maxLen;omega) ?_;intro w5 he hs;have W:BW wr w5:=he▸ah _ _;have bQ:=O8 hs;have aX:=O8 W;have q5:=(W.cell (O9 _ _ a9)).trans a9;have f5:=(PK (W.block g (O9 _ _ a9))).trans cK;clear he hs W);obtain ⟨lb,cZ⟩:=EX wr.heap.size;rw [cZ]at bQ⊢;obtain ⟨w6,ca⟩:=EX (w5.setCell (AD g 2) (SV lb n n));rw [ca];have ax:(madeCells (UV 0).cells (n*1)).toList=dO (List.replicate n 0):=by rw [bM (UV 0) rfl n];unfold dO;rw [List.map_replicate];rfl
   have de:Sl w5 45 (SV lb n n) (dO (List.replicate n 0)).length (dO (List.replicate n 0)):=by
    have h1:=bQ.o;rw [ax]at h1;have h2:(dO (List.replicate n 0)).length=n:=by simp [dO]
    rw [h2];exact h1
   have hX:∀j,up (XP J B [] Ns) 2 (dO (List.replicate n 0)) j=XP J B (List.replicate n 0) Ns j:=λj=>by
    match j with
    |0=>rfl
    |1=>rfl
    |2=>rw [aA];rfl
    |3=>rfl
    |j+4=>rfl
   have bL:=O8 (D.o.upd (k:=2) ZO de ((aj.aC aX.o).mono λk hk s=>absurd hk ZO) ⟨lb,rfl,.inr ZO⟩ hX D.o.cS D.o.oh ca.symm).1;clear ax de hX ca cZ bQ aX q5 f5 a9 aL aC cK D;obtain ⟨C6,cL⟩:=EX (up C 2 (SV lb n n));rw [cL]at bL;clear cL;have D:=bL;clear bL;have ce:=O8 (aF.o w6 D.o.aJ);obtain ⟨va,vc,ve,bk,vl,bl,vn,bm,aH,U,Z,al,r0,r1,r2,r3⟩:=D.o.L8;have g0:=D.o.pC.cell 0 ZO;have g1:=D.o.pC.cell 1 ZO;have g2:=D.o.pC.cell 2 ZO;have g3:=D.o.pC.cell 3 ZO;have g4:=D.o.pC.cell 4 ZO;have cJ:=D.o.all;rw [aH]at g0;rw [U]at g1;rw [Z]at g2;rw [al]at g3;rw [cJ]at g4;have aQ:Rs.length=n:=by rw [<-a5.o];simp
   have cY:(List.replicate n 0).length=n:=Ul;have aa:=ch.o;rw [aQ]at g1 U;rw [cY]at g2 Z;rw [aa]at g3 al;have F:w6.heap[q+2]? =some (.cells #[SN,SN,SN,SN,UV 0] 57 (0,0)):=(ce.o.block _ (ZH cy.o)).trans dp.o;have z0:w6.cell? (AD (q+2) 0)=some (SN):=CH F;have z1:w6.cell? (AD (q+2) 1)=some (SN):=CH F;have z2:w6.cell? (AD (q+2) 2)=some (SN):=CH F;have z3:w6.cell? (AD (q+2) 3)=some (SN):=CH F;have z4:w6.cell? (AD (q+2) 4)=some (UV 0):=CH F;have y0:w6.frozen? (AD (q+2) 0)=false:=Pg F 0;have y1:w6.frozen? (AD (q+2) 1)=false:=Pg F 1;have y2:w6.frozen? (AD (q+2) 2)=false:=Pg F 2;have y3:w6.frozen? (AD (q+2) 3)=false:=Pg F 3;have y4:w6.frozen? (AD (q+2) 4)=false:=Pg F 4;have bn:=O8 F;have cf:Hid (C6 0=SL va J.length vc/\C6 1=SL ve n bk/\C6 2=SL vl n bl/\C6 3=SL vn n bm):=⟨aH,U,Z,al⟩;obtain ⟨jl,bZ⟩:=EX J.length;rw [bZ]at g0 cf;have cg:=O8 bZ;clear F r0 r1 r2 r3 aH U Z al cJ aQ cY aa bZ;rw [show q+1+1=q+2 from rfl];go_wp2;(try simp only [Exit.inBlock,Exit.then]);obtain ⟨w9,cc⟩:=EX (((((w6.setCell (AD (q+2) 0) (SL va jl vc)).setCell (AD (q+2) 1) (SL ve n bk)).setCell (AD (q+2) 2) (SL vl n bl)).setCell (AD (q+2) 3) (SL vn n bm)).setCell (AD (q+2) 4) (UV M));rw [cc];obtain ⟨d0,d1,d2,d3,d4,dM⟩:=BY bn.o w9 cc.symm;clear cc z0 z1 z2 z3 z4 y0 y1 y2 y3 y4 g0 g1 g2 g3 g4;refine Qz (v:=.agg #[SL va jl vc,SL ve n bk,SL vl n bl,SL vn n bm,UV M]) ?_ rfl ?_
   ·rw [cX rfl];go_simp
   ·have cT:BW w w2:=af dk.o aJ.o;have em:=aJ.o.size
    have el:=cy.o;have ek:=HQ.o;have db:=D.o.result cT (r:=q+2) ZO ZO bn.o dM;obtain ⟨er,es,et,ea,eu,eb,ev,ec,aH,U,Z,al,r0,r1,r2,r3⟩:=db.L8;obtain ⟨f0,f1,f2,f3⟩:=cf.o;rw [f0]at aH;rw [f1]at U;rw [f2]at Z;rw [f3]at al;obtain ⟨rfl,-,rfl⟩:=P8 aH;obtain ⟨rfl,-,rfl⟩:=P8 U;obtain ⟨rfl,-,rfl⟩:=P8 Z;obtain ⟨rfl,-,rfl⟩:=P8 al;have bx:0<d.length:=ZR bN.o dQ;have aR:(l.length+d.length)*A.ak.length=n:=by rw [cz.o,bN.o,a2.o,ad.o,cr.o]
    have dL:0<k:=ZH a2.o;have am:=IM HA.o bx dq.o;rw [aR,a5.o]at am;have dN:Rs.length=n:=by rw [<-a5.o];simp
    have cN:∀z,z<n->(wP Rs).getD z []=(fH A l d z).map λ(t:Nat)=>(t:Int):=λz hz=>wQ _ (by rw [<-a5.o,PZ,QV hz];rfl);have bv:∀z,z<n->z/A.ak.length<l.length+d.length/\z%A.ak.length<A.ak.length:=λz hz=>by
     have dc:0<A.ak.length:=by
      obtain h|h:=Qv A.ak.length
      ·rw [h,Nat.mul_zero]at aR;omega
      ·exact h
     exact ⟨Nat.div_lt_of_lt_mul (by rw [Nat.mul_comm,aR];exact hz),S7 _ dc⟩
    have bA:∀z,z<n->(∀t∈fH A l d z,t<n)/\(fH A l d z).length<=16777216:=λz hz=>by
     obtain ⟨m1,m2⟩:=bv z hz;have h1:=HA.o.tl _ (gJ m2);have h2:=HA.o.mZ _ (gJ m2);unfold fH jZ;cases pt A l d (z%A.ak.length) (z/A.ak.length)
     ·exact ⟨λt h=>by simp at h,ZS⟩
     ·simp only [R0];refine ⟨λt h=>?_,?_⟩
      ·obtain ⟨s,h3,rfl⟩:=Qx.1 h;have h4:=h2 s (PY.1 h3).1
       have h5:=Co bx m1;have h6:(jH l d (z/A.ak.length)+1)*A.ak.length<=(l.length+d.length)*A.ak.length:=SO _ h5;rw [Tg,aR]at h6;omega
      ·rw [PB];exact PG (Qn _ _) h1
    have br:∀z,z<n->((wP Rs).getD z []).length<=16777216:=λz hz=>by rw [cN z hz,PB];exact (bA z hz).2
    have bt:(wP Rs).length=n:=by unfold wP;rw [PB];exact dN
    refine ⟨va,jl,vc,J,ve,bk,wP Rs,vl,bl,aE (List.replicate n 0),vn,bm,KM A,n,aR.symm,?_,⟨⟨⟨bt,r1,λz hz y hy=>?_,λz hz=>?_,dP⟩,?_,λz hz=>?_,br⟩,?_,?_,?_,λi hi=>?_⟩,am,λz _=>rfl,HJ.o.symm,?_⟩
    ·unfold jj;rw [dr.o]
    ·rw [cN z hz]at hy;obtain ⟨t,ht,rfl⟩:=Qx.1 hy
     have:=(bA z hz).1 t ht;omega
    ·have:=br z (ZR bt.symm hz);omega
    ·rw [ch.o]at r3;rw [du.o];exact r3
    ·have h1:=HA.o.inn _ (gJ (bv z hz).2);have h2:=QG (n:=2) ZD HA.o.sets
     exact Ps h1 (PG h2 ZD)
    ·rw [cg.o]at r0;exact r0
    ·rw [Ul]at r2;exact r2
    ·rw [<-cg.o,<-HJ.o];exact PG (Qn _ _) (ZH aq.o)
    ·rw [<-HJ.o]at hi;have h1:=HA.o.aP i (PY.1 hi).1
     have h2:1*G<=k*G:=SO _ dL;rw [Nat.one_mul,cr.o]at h2;rw [ad.o]at h1;omega
    ·exact db.aJ
def F6{A}(h:gL A):Valid A:=⟨h.aP,λn a q b=>h.mZ _ (gJ a) q b⟩
def qP{E hit hit' S q}(h:∀s x,x<E.length->(hit s x↔hit' s x)):yv E hit S q↔yv E hit' S q:=by constructor;rintro ⟨p,b,a,c⟩;exact ⟨p,b,a,λs f i=>by obtain ⟨j,e,d⟩:=c s f i;exact ⟨j,e,(h s _ (a j).1).1 d⟩⟩;rintro ⟨p,b,a,c⟩;exact ⟨p,b,a,λs f i=>by obtain ⟨j,e,d⟩:=c s f i;exact ⟨j,e,(h s _ (a j).1).2 d⟩⟩
def IG(A:Au)(c a:List Nat)(w:WD)(e:Ending)(d:WD):Prop:=∃b,e=RT (.bool b)/\(b=true↔lY A (aU c a))/\BW w d
def Kq(w A k l J m o K)(hv:cm w A k l m o)(hA:gL A)(B p D z f C st T)(ag:aG .u64 w B p (aE st))(d:aG .u64 w z f (aE T))(hL:kE st T)(hp:0<f)(hN:p+f<=255):
 CL 10 #[.agg #[IV A.sets,SL k l J,SL m o K],.agg #[SL B p D,SL z f C]] w (IG A st T w):=by
 have⟨q,hq⟩:=EX w.heap.size
 have⟨M,y⟩:=EX (w.alloc (CE #[IV A.sets,SL k l J,SL m o K] 36))
 have⟨c,v⟩:=EX (M.alloc (CE #[SL B p D,SL z f C] 25))
 have ad:BW w M:=y▸ah _ _
 have P:BW M c:=v▸ah _ _
 have U:M.heap.size=q+1:=ZW y hq
 have g:BW w c:=af ad P
 have R:HC c q #[IV A.sets,SL k l J,SL m o K] 36:=(P.block q ZO).trans (by rw [<-y,<-hq];exact (Ph w _).1)
 have Q:HC c (q+1) #[SL B p D,SL z f C] 25:=by rw [<-v,<-U];exact (Ph M _).1
 have O:Hid (∀a:WD,BW c a->CA a q 0 (IV A.sets)/\CA a q 1 (SL k l J)/\CA a q 2 (SL m o K)/\CA a (q+1) 0 (SL B p D)/\CA a (q+1) 1 (SL z f C)):=λa h=>by have F:=(h.block q (Pb.1 R).1).trans R;have G:=(h.block (q+1) (Pb.1 Q).1).trans Q;exact ⟨CH F,CH F,CH F,CH G,CH G⟩
 have HV:Hid (∀a,BW c a->cm a A k l m o):=λa h=>hv.ag (af g h)
 have ao:Hid (CL 23 #[.agg #[IV A.sets,SL k l J,SL m o K]] c λe a=>e=RT (IV 0)/\BW c a):=dZ c A k l J m o K (HV.o c (PF _ _)) hA
 have ar:Hid (∀a:WD,CL 24 #[.agg #[SL B p D,SL z f C]] a λe ai=>e=RT (IV 0)/\BW a ai):=λa=>by refine (Ez B p D z f C a ZO ZO).mono ?_;rintro e ai ⟨rfl,hb⟩;refine ⟨?_,hb⟩;unfold dj;rw [Qa ZO,Qa ZO]
 have ak:Hid (∀a,BW c a->CL 25 #[.agg #[IV A.sets,SL k l J,SL m o K],.agg #[SL B p D,SL z f C]] a (Bs a A st T)):=λa h=>
  F4 a A k l J m o K (HV.o a h) hA B p D z f C st T (ag.ag (af g h)) (d.ag (af g h)) hL hp hN
 have Y:Hid (T.length=f):=by have:=d.1;rw [aD]at this;exact this
 have V:=O8 hA
 have X:=O8 hL
 have HP:=O8 hp
 have al:=O8 g
 have⟨b0,b1,b2,b3,b4⟩:=O.o c (PF _ _)
 clear hv hA ag d hL hp hN ad P g R Q
 go_enter func10,ntmps10
 go_upto_region 1 with(fail)
 (try rw [v])
 (try rw [hq])
 (try rw [U])
 clear v hq y U
 have ay:((0:Int)==0)=true:=rfl
 go_wp2_with (first|(go_at_call 23;apply ao.o.mono;rintro e w2 ⟨rfl,aa⟩;have W:=O8 aa;clear aa;have⟨c0,c1,c2,c3,c4⟩:=O.o w2 W.o;have aq:=O8 (ar.o w2))|(go_at_call 24;apply aq.o.mono;rintro e w3 ⟨rfl,ab⟩;have N:=O8 (af W.o ab);clear ab;have⟨d0,d1,d2,d3,d4⟩:=O.o w3 N.o;have aj:=O8 (ak.o w3 N.o))|(go_at_call 25;apply aj.o.mono;rintro e w4 ⟨xa,xl,xc,I,ae,ce,E,au,av,L,aw,ax,IN,n,hn,rfl,j,r,u,Z,t⟩;have ap:=O8 (x8 w4 xa xl xc I ae n ce E au av L aw ax IN A.sets V.o.sets j);have HX:=O8 (And.intro hn (And.intro j (And.intro r (And.intro u (And.intro Z t)))));clear hn j r u Z t;unfold jj)|(go_at_call 26;apply ap.o.mono;rintro e w5 ⟨b,rfl,hb,ac⟩;have an:=O8 hb;have am:=O8 ac;clear hb ac))
 go_ret
 have⟨hn,j,r,u,Z,t⟩:=HX.o
 refine ⟨_,rfl,?_,af al.o (af N.o (af t am.o))⟩
 rw [an.o,FY r (F6 V.o) (ZR Y.o HP.o)]
 have d:0<T.length:=ZR Y.o HP.o
 have H:∀i,yv E (λs x=>(IN x).testBit s=true) A.sets i↔yv E (λs x=>(A.ay (x%A.ak.length)).inn.testBit s=true) A.sets i:=λi=>qP λs x hx=>by rw [j.pg.gr.bA]at hx;rw [u x hx]
 constructor
 rintro ⟨i,h1,F⟩
 rw [Z]at h1
 have⟨G,h4⟩:=PY.1 h1
 have S:=V.o.aP i G
 refine ⟨i,G,(pw (V.o.bits _ (gJ S)).1 (X.o.lt 0 d)).1 h4,?_⟩
 rw [Th,PU]
 exact (H i).1 F
 rintro ⟨i,G,h4,F⟩
 have S:=V.o.aP i G
 rw [Th,PU]at F
 refine ⟨i,?_,(H i).2 F⟩
 rw [Z]
 exact PY.2 ⟨G,(pw (V.o.bits _ (gJ S)).1 (X.o.lt 0 d)).2 h4⟩
section
def gW(n:Nat):Nat:=(n+63)/64
structure dU (w:WD) (sb wb n:Nat) (f:Nat->Bool) (W:List Nat):Prop where
 dB:w.heap[sb]? =some (.cells #[IV n,SV wb (gW n) (gW n)] 178 (0,0))
 words:Sl w 45 (SV wb (gW n) (gW n)) (gW n) (dO W)
 lt:∀x∈W,x<18446744073709551616
 bit:∀i,(W.getD (i/64) 0).testBit (i%64)=(decide (i<n)&&f i)
section
variable {w w1:WD} {sb wb n:Nat} {f:Nat->Bool} {W:List Nat}
def dU.Nu(h:dU w sb wb n f W):W.length=gW n:=by have:=h.words.1;simpa [dO]using this
def dU.dY(h:dU w sb wb n f W):sb<w.heap.size/\wb<w.heap.size:=⟨(Pb.1 h.dB).1,h.words.lt wb rfl⟩
def dU.ne(h:dU w sb wb n f W):wb≠sb:=λe=>S8 h.words h.dB ZD (by rw [<-e];rfl)
def dU.ax{T}(h:dU w sb wb n f W)(a:aj T w w1)(b:¬T sb)(c:¬T wb):dU w1 sb wb n f W:=
 ⟨(a.block sb h.dY.1 b).trans h.dB,h.words.ax a (λg e s=>by have:=cF e;subst this;exact c s),h.lt,h.bit⟩
def dU.ag(h:dU w sb wb n f W)(a:BW w w1):dU w1 sb wb n f W:=h.ax (aj.aC a) (ZH h.dY) (ZH h.dY)
def dU.cells(h:dU w sb wb n f W):CA w sb 0 (IV n)/\CA w sb 1 (SV wb (gW n) (gW n)):=⟨CH h.dB,CH h.dB⟩
def dU.word(h:dU w sb wb n f W){j}(b:j<gW n):w.cell? (AD wb j)=some (UV ((W.getD j 0:Nat):Int))/\w.frozen? (AD wb j)=false/\W.getD j 0<18446744073709551616:=by have a:=eN h.words;have c:=h.Nu;have hw:W[j]? =some W[j]:=Pe ZO;refine ⟨?_,Pg a j,?_⟩;rw [Pa a];simp [dO,Pd,hw];rw [Pd,hw];exact h.lt _ (Pm hw)
end
def xZ(w sb wb n f W)(h:dU w sb wb n f W):CL 130 #[PT sb] w λe a=>e=RT (IV n)/\a=w:=by obtain ⟨b,-⟩:=h.cells;clear h;go_enter func130,ntmps130;go_wp2;go_ret;exact ⟨rfl,rfl⟩
def EU(i:Nat):Int.tdiv (i:Int) 64=((i/64:Nat):Int)/\(i:Int)/64=((i/64:Nat):Int)/\Int.tmod (i:Int) 64=((i%64:Nat):Int)/\(i:Int)%64=((i%64:Nat):Int):=by refine ⟨?_,ZS,?_,ZS⟩;rw [Int.tdiv_eq_ediv_of_nonneg ZO];simp;rw [Q5 ZO];simp
def xY(w sb wb n f W)(h:dU w sb wb n f W)(G:n<=65536)(i)(z:i<n):CL 114 #[PT sb,IV i] w λe C=>e=RT (.bool (f i))/\BW w C:=by
 have q:=O8 (xZ w sb wb n f W h);have⟨D,s⟩:=h.cells;have⟨j,g⟩:=EX (i/64);have⟨r,l⟩:=EX (i%64);have⟨k,o⟩:=EX (gW n);have c:j<gW n:=by unfold gW;omega
 obtain ⟨E,-,d⟩:=h.word c;have⟨t,u,v,y⟩:=EU i;have a:=h.bit i;rw [g,l,PX z,Qu]at a;rw [g]at t u;rw [l]at v y;rw [o]at s c;have b:=Aw (W.getD j 0) r d;rw [a]at b;generalize f i=F at *;generalize W.getD j 0=x at *;have m:(j:Int)<k:=ZO;have A:(i:Int)<n:=ZO;have p:r<64:=ZO;have B:j<=65536:=ZO;clear h g l o a d;go_enter func114,ntmps114;go_wp2_with (go_at_call 130;apply q.o.mono;rintro e H ⟨rfl,rfl⟩);go_ret;exact ⟨rfl,PF _ _⟩
def IC(w:WD)(n:Nat)(e:Ending)(a:WD):Prop:=e=RT (PT (w.heap.size+1))/\dU a (w.heap.size+1) w.heap.size n (λ_=>false) (List.replicate (gW n) 0)/\BW w a
def x4(w)(n:Nat)(K:n<=65536):CL 92 #[IV n] w (IC w n):=by
 have⟨z,m,t,p,j⟩:=P6 Tryz.xf;have J:decide ((65536:Int)<n)=false:=PH ZO;have F:decide (65536<n)=false:=PH ZO;have⟨k,o⟩:=EX (gW n);have G:k<=1024:=by rw [<-o];unfold gW;omega
 have c:(n+63)/64=k:=o;have L:Int.tdiv ((n:Int)+64-1) 64=(k:Int):=by have e:((n:Int)+64-1)=((n+63:Nat):Int):=ZO;rw [e,(EU (n+63)).1,c]
 have M:Int.tdiv ((n:Int)+63) 64=(k:Int):=by have e:((n:Int)+63)=((n+63:Nat):Int):=ZO;rw [e,(EU (n+63)).1,c]
 have N:((n:Int)+64-1)/64=(k:Int):=ZO;have O:((n:Int)+63)/64=(k:Int):=ZO;have⟨q,y⟩:=EX w.heap.size;have⟨a,d⟩:=EX (w.alloc (CE (madeCells #[UV 0] k) 45));have I:a.heap.size=q+1:=ZW d y;have l:BW w a:=d▸ah _ _;have⟨u,r⟩:=EX (a.alloc (CE #[IV n,SV q k k] 178));have b:BW a u:=r▸ah _ _;have B:(madeCells #[UV 0] k).toList=dO (List.replicate k 0):=by have h:=bM (UV 0) rfl k;rw [RL]at h;have E:(Value.int IntKind.u64 0).cells=#[UV 0]:=rfl;rw [E]at h;rw [h];unfold dO;rw [List.map_replicate];rfl
 have v:Sl a 45 (SV q k k) k (dO (List.replicate k 0)):=by refine gC ?_ (by simp [dO]) (by unfold maxLen;omega);rw [<-d,<-y,<-B];exact (Ph w _).1
 have D:Hid (dU u (q+1) q n (λ_=>false) (List.replicate (gW n) 0)):=by
  refine ⟨?_,?_,λx H=>?_,λi=>?_⟩;rw [o,<-r,<-I];exact (Ph a _).1;rw [o];exact v.ax (aj.aC b) (λg e s=>ZH (cF e));rw [List.eq_of_mem_replicate H];decide;have e:(List.replicate (gW n) 0).getD (i/64) 0=0:=by rw [Pd,List.getElem?_replicate];split<;>rfl
  rw [e,Rn,Sp]
 have C:Hid (BW w u):=af l b;have A:=O8 y;clear o c l b B v;go_enter func92,ntmps92;go_wp2_with (at_make;refine bu rfl _ _ 23 rfl 45 z (UV 0) 1 RS m t p _ _ _ _ k rfl rfl rfl rfl (by rw [j];omega) (by unfold maxLen;omega) ?_;rintro P rfl v;clear v);go_ret;unfold IC;rw [A.o];exact ⟨rfl,D.o,C.o⟩
def ID(w:WD)(sb wb n:Nat)(f:Nat->Bool)(i:Nat)(e:Ending)(a:WD):Prop:=e=RT (.bool true)/\∃W,dU a sb wb n (up f i true) W/\aj (λk=>k=wb) w a
def LU{W:List Nat}{n i f}(d:∀i,(W.getD (i/64) 0).testBit (i%64)=(decide (i<n)&&f i))(g:i<n)(j:i/64<W.length)(m):
 ((W.set (i/64) (W.getD (i/64) 0|||2^(i%64))).getD (m/64) 0).testBit (m%64)=(decide (m<n)&&up f i true m):=by
 by_cases e:m/64=i/64
 rw [e]
 have b:(W.set (i/64) (W.getD (i/64) 0|||2^(i%64))).getD (i/64) 0=W.getD (i/64) 0|||2^(i%64):=by rw [Pd,RZ j];rfl
 rw [b,Nat.testBit_or,Us]
 have c:=d m
 rw [e]at c
 rw [c]
 by_cases a:m=i
 subst a;rw [aA];simp [g]
 rw [an _ _ _ _ a]
 have:¬(i%64=m%64):=λh=>a ZO
 simp [this]
 have b:(W.set (i/64) (W.getD (i/64) 0|||2^(i%64))).getD (m/64) 0=W.getD (m/64) 0:=by rw [Pd,SJ (λh=>e h.symm),<-Pd]
 rw [b,d m,an _ _ _ _ (λh=>e (by rw [h]))]
def x5(w sb wb n f W)(h:dU w sb wb n f W)(hn:n<=65536)(i)(X:i<n)(hf:f i=false):CL 93 #[PT sb,IV i] w (ID w sb wb n f i):=by
 have HL:=O8 (xZ w sb wb n f W h);have Z:Hid (CL 114 #[PT sb,IV i] w λe a=>e=RT (.bool false)/\BW w a):=by have:=xY w sb wb n f W h hn i X;rw [hf]at this;exact this
 have HS:Hid (∀a,BW w a->dU a sb wb n f W):=λa B=>h.ag B;have HI:=O8 X;have⟨c0,T⟩:=h.cells;have⟨j,M⟩:=EX (i/64);have⟨r,O⟩:=EX (i%64);have⟨k,N⟩:=EX (gW n);have b:j<gW n:=by unfold gW;omega
 have⟨H,I,l⟩:=h.word b;have⟨d1,d2,d3,d4⟩:=EU i;have E:Hid (j<W.length):=by show j<_;rw [h.Nu];exact b
 rw [M]at d1 d2;rw [O]at d3 d4;have Q:=O8 M;have HR:=O8 O;have R:=O8 N;rw [N]at T b;have d:r<64:=ZO;have⟨y,C⟩:=EX (W.getD j 0|||2^r);have ac:=xH l d C;have HY:=O8 C;have G:Hid (y<18446744073709551616):=by have v:2^r<2^64:=Sg ZD d;have A:W.getD j 0|||2^r<2^64:=Tf l v;show y<_;rw [<-C];exact A
 have D:Hid (∀a,BW w a->CA a sb 1 (SV wb k k)/\CA a wb j (UV ((W.getD j 0:Nat):Int))/\FZ a wb j):=λa B=>by have v:=(h.ag B).cells.2;have A:=(h.ag B).word (j:=j) (ZR R.o b);rw [R.o]at v;exact ⟨v,A.1,A.2.1⟩
 have Y:(j:Int)<k:=ZO;have aa:(i:Int)<n:=ZO;have ab:j<=65536:=ZO;clear h M O N l C H I;go_enter func93,ntmps93;go_upto_region 3 with(first|(go_at_call 130;apply HL.o.mono;rintro e w2 ⟨rfl,rfl⟩)|(go_at_call 114;apply Z.o.mono;rintro e o ⟨rfl,q⟩;have g:=O8 q;clear q));have⟨p1,p2,p3⟩:=D.o o g.o;have wj:IntKind.i64.wrap (j:Int)=j:=by rw [SZ];omega
 have wr:IntKind.i64.wrap (r:Int)=r:=by rw [SZ];omega
 generalize u:W.getD j 0=x at *;have F:=O8 u;clear u c0 T;refine aw 13 (S:=λa=>CA a sb 1 (SV wb k k)/\CA a wb j (UV x)) ZK (⟨p1,p2⟩) (λJ=>?_);refine aB 0 ?_;refine aB 1 ?_;refine aB 2 ?_;refine aB 3 ?_;refine aB 4 ?_;refine aB 5 ?_;refine aB 6 ?_;refine aB 7 ?_;refine aB 8 ?_;refine aB 9 ?_;refine aB 10 ?_;refine aB 11 ?_;refine aB 12 ?_;refine aK 13 λK V=>?_;go_simp;refine V.q ?_;clear V K;refine az ZK ?_;go_wp2;go_ret;have c:=HS.o o g.o;have t:aj (λm=>m=wb) o (o.setCell (AD wb j) (UV y)):=(aj.refl (λm=>m=wb) o).setCell (p:=(AD wb j)) (λ_=>rfl) _;have L:=eN c.words;refine ⟨rfl,W.set j y,⟨(t.block sb c.dY.1 (λe=>c.ne e.symm)).trans c.dB,?_,λz P=>?_,λm=>?_⟩,?_⟩;have e:dO (W.set j y)=(dO W).set j (UV y):=by unfold dO;rw [List.map_set]
 refine gC (w:=o.setCell (AD wb j) (UV y)) ?_ (by rw [e,RX];simp [dO,c.Nu]) (de c.words).2.1;rw [e];simp [HC,World.setCell,P7,L];obtain P|rfl:=TO P;exact c.lt z P;exact G.o;have U:=LU c.bit HI.o (ZR Q.o E.o) m;rw [Q.o,HR.o,F.o,HY.o]at U;exact U;exact ((aj.aC g.o).mono (λm hm s=>absurd hm ZO)).then t.drew (λm _ s=>s)
end
section
def gK(n:Nat)(g:Nat->Value):List Value:=(List.range n).map g
def kq(n g):(gK n g).length=n:=by simp [gK]
def ow{n i}(g)(a:i<n):(gK n g)[i]? =some (g i):=by simp [gK,a]
def Ew{n i}(g)(a:i<n)(v):(gK n g).set i v=gK n (up g i v):=by refine Tc λj=>?_;rw [UR,kq];by_cases b:j<n;by_cases e:i=j;subst e;rw [PW rfl,PW a,ow _ a,aA];rw [Qa e,ow _ b,ow _ b,an _ _ _ _ (Rz e)];rw [Qs (by rw [kq];omega),Qs (by rw [kq];omega)];by_cases e:i=j;omega;rw [Qa e]
def mG{n g a}(h:∀i,i<n->g i=a i):gK n g=gK n a:=Sn λi b=>h i (P5.1 b)
def oo{w e b n i g}(h:Sl w e (SV b n n) n (gK n g))(c:i<n)(v):Sl (w.setCell (AD b i) v) e (SV b n n) n (gK n (up g i v))/\w.cell? (AD b i)=some (g i)/\w.frozen? (AD b i)=false:=by have a:=eN h;refine ⟨?_,?_,Pg a i⟩;rw [<-Ew g c v];refine gC ?_ (by simp [kq]) (de h).2.1;simp [HC,World.setCell,P7,a];rw [Pa a];simp [gK,c]
def wT(far:Nat->Int):Nat->Value:=λx=>IV (far x)
def EV(far x z y):up (wT far) x (IV z) y=wT (up far x z) y:=by by_cases e:y=x;subst e;rw [aA];unfold wT;rw [aA];rw [an _ _ _ _ e];unfold wT;rw [an _ _ _ _ e]
structure vS (w4 wr:WD) (n fb sb wb:Nat) (bT:Nat->Int) (dn:Nat->Bool) (W:List Nat) (wv:Value) (wave:List Nat) (nv:Value) (next:List Nat):Prop where
 aJ:aj (λk=>k=fb) w4 wr
 bT:Sl wr 3 (SV fb n n) n (gK n (wT bT))
 set:dU wr sb wb n dn W
 Ma:Sl wr 3 wv wave.length ((aE wave).map (Value.int .i64))
 cy:Sl wr 3 nv next.length ((aE next).map (Value.int .i64))
 dY:fb<w4.heap.size/\w4.heap.size<=sb/\w4.heap.size<=wb
 EA:∀k,wv.ownBlock=some k->w4.heap.size<=k/\k≠sb/\k≠wb/\nv.ownBlock≠some k
 qY:∀k,nv.ownBlock=some k->w4.heap.size<=k/\k≠sb/\k≠wb
section
variable {w4 wr w' w'':WD} {n fb sb wb:Nat} {far:Nat->Int} {dn:Nat->Bool} {W wave next:List Nat} {wv nv:Value}
def vS.ag(h:vS w4 wr n fb sb wb far dn W wv wave nv next)(b:BW wr w'):vS w4 w' n fb sb wb far dn W wv wave nv next:=by have a:aj (λk=>wr.heap.size<=k) wr w':=aj.aC b;have d:=h.set.dY;refine ⟨h.aJ.then a λi c hw=>ZH h.aJ.size,h.bT.ax a λg e s=>?_,h.set.ax a ZO ZO,h.Ma.ax a λg e s=>?_,h.cy.ax a λg e s=>?_,h.dY,h.EA,h.qY⟩;have:=h.bT.lt g e;omega;have:=h.Ma.lt g e;omega;have:=h.cy.lt g e;omega
def vS.NU(h:vS w4 wr n fb sb wb far dn W wv wave nv next){x}(a:x<n):CA wr fb x (IV (far x))/\FZ wr fb x:=⟨(oo h.bT a (.bool false)).2.1,(oo h.bT a (.bool false)).2.2⟩
def vS.store(h:vS w4 wr n fb sb wb far dn W wv wave nv next){x}(b:x<n)(z):vS w4 (wr.setCell (AD fb x) (IV z)) n fb sb wb (up far x z) dn W wv wave nv next:=by have a:aj (λk=>k=fb) wr (wr.setCell (AD fb x) (IV z)):=(aj.refl (λk=>k=fb) wr).setCell (p:=(AD fb x)) (λ_=>rfl) _;have c:=h.dY;refine ⟨h.aJ.trans a,?_,h.set.ax a ZO ZO,h.Ma.ax a λg e s=>?_,h.cy.ax a λg e s=>?_,h.dY,h.EA,h.qY⟩;rw [<-mG (λi _=>EV far x z i)];exact (oo h.bT b _).1;have:=h.EA g e;omega;have:=h.qY g e;omega
def vS.put(h:vS w4 wr n fb sb wb far dn W wv wave nv next){a c}(d:dU w' sb wb n (up dn a true) c)(b:aj (λk=>k=wb) wr w'):vS w4 w' n fb sb wb far (up dn a true) c wv wave nv next:=by
 have j:=h.dY;refine ⟨h.aJ.then b λi f e=>ZO,h.bT.ax b λg e s=>?_,d,h.Ma.ax b λg e s=>(h.EA g e).2.2.1 s,h.cy.ax b λg e s=>(h.qY g e).2.2 s,h.dY,h.EA,h.qY⟩;cases e
 have:fb=wb:=s;omega
def vS.dT(h:vS w4 wr n fb sb wb far dn W wv wave nv next){x g c:Nat}(u:Sl w' 3 (SV g (next.length+1) c) (next.length+1) ((aE next).map (Value.int .i64)++[IV x]))(a:aj (λk=>nv.ownBlock=some k) wr w')(j:nv.ownBlock=some g\/wr.heap.size<=g):
 vS w4 w' n fb sb wb far dn W wv wave (SV g (next.length+1) c) (next++[x]):=by
 have z:=h.dY
 have v:=h.set.dY
 have A:=h.aJ.size
 have t:w4.heap.size<=g/\g≠sb/\g≠wb:=by obtain e|e:=j;exact h.qY g e;omega
 have m:(aE next).map (Value.int .i64)++[IV x]=(aE (next++[x])).map (Value.int .i64):=by rw [iz,Qg];rfl
 have o:(next++[x]).length=next.length+1:=ZS
 refine ⟨h.aJ.then a λi y e=>ZH (h.qY i e),h.bT.ax a λb e s=>?_,h.set.ax a (λe=>(h.qY _ e).2.1 rfl) (λe=>(h.qY _ e).2.2 rfl),h.Ma.ax a λb e s=>(h.EA b e).2.2.2 s,by rw [o,<-m];exact u,h.dY,λk e=>?_,λk e=>by cases e;exact t⟩
 cases e
 have:=h.qY _ s
 have f:w4.heap.size<=fb:=this.1
 omega
 have⟨p,q,f,r⟩:=h.EA k e
 refine ⟨p,q,f,λl=>?_⟩
 cases l
 obtain d|d:=j
 exact r d
 have:=h.Ma.lt _ e
 have w:g<wr.heap.size:=this
 omega
end
end
def H9(n f):dh n f<=n:=by unfold dh;refine PG (List.countP_le_length) ?_;simp
def vS.gQ{i wr n d g j a c W b next l f}(h:vS i wr n d g j a c W l b f next):vS i wr n d g j a c W f next (SN) []:=
 ⟨h.aJ,h.bT,h.set,h.cy,Qd _ _ _ _,h.dY,λk e=>⟨(h.qY k e).1,(h.qY k e).2.1,(h.qY k e).2.2,λe=>ZC e⟩,λk e=>ZC e⟩
structure vT (b wr:WD) (n a:Nat) (bT:Nat->Int):Prop where
 aJ:aj (λk=>k=a) b wr
 row:Sl wr 3 (SV a n n) n (gK n (wT bT))
def vT.store{c wr n b a far'}(h:vT c wr n b a){x}(l:x<n)(z)(g:∀y,y<n->up a x z y=far' y):vT c (wr.setCell (AD b x) (IV z)) n b far'/\FZ wr b x/\CA wr b x (IV (a x)):=by have⟨d,e,f⟩:=oo h.row l (IV z);refine ⟨⟨h.aJ.trans ((aj.refl (λk=>k=b) wr).setCell (p:=(AD b x)) (λ_=>rfl) _),?_⟩,f,e⟩;rw [<-mG (λi j=>(EV a x z i).trans (by unfold wT;rw [g i j]))];exact d
def vT.aM{a b:WD}{n}(d:Sl (a.alloc (CE (madeCells (IV 0).cells (n*1)) 3)) 3 (SV a.heap.size n n) n (madeCells (IV 0).cells (n*1)).toList)(e:b=a.alloc (CE (madeCells #[IV 0] n) 3)):vT b b n a.heap.size (λx=>if x<0 then-1 else 0):=by
 have g:a.alloc (CE (madeCells (IV 0).cells (n*1)) 3)=b:=by rw [e,RL];rfl
 have f:=bM (IV 0) rfl n;rw [g,f]at d;refine ⟨aj.refl _ _,?_⟩;have h:gK n (wT λx=>if x<0 then-1 else 0)=List.replicate n (IV 0):=by refine Tc λj=>?_;by_cases c:j<n;rw [ow _ c,List.getElem?_replicate,PW c];rfl;rw [Qs (by rw [kq];omega),Qs (by rw [Ul];omega)]
 rw [h];exact d
def Gm(x y z W):(Instr.field 55 (.agg #[x,y,z]) 1).run prog W=.ok y W:=ZK
def J5{i l n t E}(h:∀b,aj (λk=>k=l) i b->eG b t n E){a}(q:a<n):
 ∃c d f m,t=some (AD c d)/\∀b,aj (λk=>k=l) i b->CA b c (d+a) (.slice f (E.getD a []).length m)/\Scc.pO b f (E.getD a []):=by
 have w:=h i (aj.refl _ _)
 obtain ⟨c,d,f,m,rfl,v,-⟩:=w.bC.at a (by rw [w.bA];exact q)
 have r:¬c=l:=by
  intro e;have g:=h (i.setCell (AD c (d+a)) (.bool true)) ((aj.refl (λk=>k=l) i).setCell (p:=(AD c (d+a))) (λ_=>e) _);obtain ⟨y,B,s,z,o,j,-⟩:=g.bC.at a (by rw [g.bA];exact q);cases o
  (try unfold CA at j);rw [World.cell?_setCell_same' _ _ _ (by rw [v];rfl)]at j;cases j
 refine ⟨c,d,f,m,rfl,λb x=>?_⟩
 have g:=h b x
 have⟨y,B,s,z,o,j,A⟩:=g.bC.at a (by rw [g.bA];exact q)
 cases o
 have u:=x.aq v r
 obtain rfl:s=f:=(P8 (Qh (j.symm.trans u))).1
 exact ⟨u,A⟩
def Al(w:WD)(E:List (List Int))(n:Nat)(G:List Nat)(e:Ending)(c:WD):Prop:=
 ∃a b,e=RT (SV b n n)/\Sl c 3 (SV b n n) n (gK n (wT a))/\nU E n G a/\BW w c/\w.heap.size<=b
def yF(w ia il ic I la ll lc L ae n ce E)(hg:eG w ae n E)(hI:aG .i64 w ia il I)(hL:aG .u64 w la ll L)(cm:il<=1000000000)(cn:ll<=1000000000)(bS:∀i,i<n->(E.getD i []).length<=16777216)
 (ga gl gc G) (hG:aG .i64 w ga gl (aE G)) (bB:ga=none->gl=0/\gc=0) (bA:∀g∈G,g<n) (bz:G.Nodup) (bL:gl<=1000000):
 CL 60 #[.agg #[SL ia il ic,SL ae n ce,SL la ll lc],SL ga gl gc] w (Al w E n G):=by
 obtain ⟨i3,bM,bW,bR,bD⟩:=P6 Tryz.eA
 obtain ⟨q,hq⟩:=EX w.heap.size
 obtain ⟨p,N⟩:=EX (w.alloc (CE #[SL ia il ic,SL ae n ce,SL la ll lc] 55))
 have aq:BW w p:=N▸ah _ _
 have s1:p.heap.size=q+1:=ZW N hq
 have aR:p.heap[q]? =some (.cells #[SL ia il ic,SL ae n ce,SL la ll lc] 55 (0,0)):=by rw [<-N,<-hq];exact (Ph w _).1
 have a7:Hid (∀Q,BW p Q->Q.cell? (AD q 0)=some (SL ia il ic)/\Q.cell? (AD q 1)=some (SL ae n ce)/\Q.cell? (AD q 2)=some (SL la ll lc)):=λQ h=>by have W:=(h.block q (Pb.1 aR).1).trans aR;exact ⟨CH W,CH W,CH W⟩
 have b9:Hid (∀Q,BW p Q->CL 90 #[.agg #[SL ia il ic,SL ae n ce,SL la ll lc]] Q (Mn Q n E)):=λQ h=>
  have hb:=af aq h
  Aa Q ia il ic I la ll lc L ae n ce E (hg.ag hb) (hI.ag hb) (hL.ag hb) cm cn bS
 have bh:Hid (∀Q,BW p Q->aG .i64 Q ga gl (aE G)):=λQ h=>hG.ag (af aq h)
 have b2:=O8 bB
 have aM:=O8 bA
 have b0:=O8 bz
 have ad:G.length=gl:=by have:=hG.1;rwa [aD]at this
 have ao:=O8 ad
 have bY:Hid (E.length=n):=hg.bA
 have hn:=hg.uD
 have aF:=O8 aq
 have Y:=O8 s1
 obtain ⟨e0,e1,e2⟩:=a7.o p (PF _ _)
 clear hg hI hL bS hG bB bA bz ad aq s1 aR
 go_enter func60,ntmps60
 go_upto_region 3 with(at_make;refine bu rfl _ _ 33 rfl 3 i3 (IV 0) 1 QD bM bW bR _ _ _ _ n rfl rfl rfl rfl (by rw [bD];omega) (by unfold maxLen;omega) ?_;rintro w3 rfl hs;have bj:=O8 hs;clear hs)
 have u:=vT.aM bj.o rfl
 have aQ:BW p (p.alloc (CE (madeCells #[IV 0] n) 3)):=ah _ _
 (try rw [N]at u)
 (try rw [N]at aQ)
 rw [Y.o]at u
 have bd:=O8 u
 have a6:=O8 aQ
 (try rw [N])
 rw [Y.o]
 (try rw [hq])
 clear bj N u aQ
 (try clear hq)
 generalize p.alloc (CE (madeCells #[IV 0] n) 3)=w2 at *
 have bi:Hid (∀wr b,vT w2 wr n (q+1) b->BW p wr):=λwr b h=>a6.o.trans (h.aJ.ag a6.o.size (λk hk e=>ZH Y.o))
 go_loopw [24] (λv wr=>∃i:Nat,v=IV i/\i<=n/\Hid (vT w2 wr n (q+1) (λx=>if x<i then-1 else 0))) (λv _=>n-(intOf v).toNat)
 exact ⟨0,rfl,Pz _,bd⟩
 clear bd e0 e1 e2
 obtain ⟨i,rfl,cK,hi⟩:=hrel
 by_cases co:i<n
 ·have cD:(i:Int)<(n:Int):=ZO;obtain ⟨hN,f0,c0⟩:=hi.o.store (far':=λx=>if x<i+1 then-1 else 0) co (-1) (λy _=>by
   by_cases e:y=i
   ·subst e;rw [aA,PW ZO]
   ·rw [an _ _ _ _ e];by_cases h:y<i
    ·rw [PW h,PW ZO]
    ·rw [Qa h,Qa ZO])
  have HN:=O8 hN;clear hN hi;go_wp2;go_roundw;exact ⟨i+1,ZN,ZO,HN⟩;simp [intOf];omega
 ·obtain rfl:i=n:=ZO;have be:Hid (vT w2 wr i (q+1) (λx=>if x∈G.take 0 then 0 else-1)):=by refine ⟨hi.o.aJ,?_⟩;rw [<-mG (g:=wT λx=>if x<i then-1 else 0) (λx O=>by show IV (if x<i then(-1:Int)else 0)=IV (if x∈G.take 0 then(0:Int)else-1);rw [PW O];simp)];exact hi.o.row
  obtain ⟨wo,rfl⟩:∃wo:WD,wo=wr:=⟨_,rfl⟩;clear hi;go_wp2;go_loopw [33] (λv wr=>∃j:Nat,v=IV j/\j<=gl/\Hid (vT w2 wr i (q+1) (λx=>if x∈G.take j then 0 else-1))) (λv _=>gl-(intOf v).toNat);exact ⟨0,rfl,Pz _,be⟩;clear be;obtain ⟨j,rfl,cN,hj⟩:=hrel;by_cases aU:j<gl
  ·have cC:(j:Int)<(gl:Int):=ZO;obtain ⟨-,h0|⟨gb,go,rfl,bK⟩⟩:=bh.o wr (bi.o wr _ hj.o)
   ·omega
   obtain ⟨t,ht⟩:=EX (G.getD j 0);have aW:G[j]? =some t:=by have:j<G.length:=ZR ao.o aU;rw [<-ht,Pd,Pe this];rfl
   have cs:=aM.o t (Pm aW);have cq:(t:Int)<(i:Int):=ZO;have ct:wr.cell? (AD gb (go+j))=some (IV (t:Int)):=by have:=bK j aU;rw [cG (ZR ao.o aU),ht]at this;exact this
   obtain ⟨hN,f0,c0⟩:=hj.o.store (far':=λx=>if x∈G.take (j+1)then 0 else-1) cs 0 (λy _=>by
    rw [Qf,aW];by_cases e:y=t
    ·subst e;rw [aA,PW ZS]
    ·rw [an _ _ _ _ e];by_cases h:y∈G.take j
     ·rw [PW h,PW (by simp [h])]
     ·rw [Qa h,Qa (by simp [h,e])])
   have HN:=O8 hN;clear hN hj bK ht aW;generalize (if t∈G.take j then(0:Int)else-1)=z0 at *;go_wp2;go_roundw;exact ⟨j+1,ZN,ZO,HN⟩;simp [intOf];omega
  ·obtain rfl:j=gl:=ZO;have ap:=O8 (bi.o wr _ hj.o)
   have X:Hid (vT w2 wr i (q+1) (λx=>if x∈G then 0 else-1)):=by have h:=hj.o;rw [PI (Q2 ao.o)]at h;exact h
   obtain ⟨f0,f1,f2⟩:=a7.o wr ap.o;have bo:=O8 (b9.o wr ap.o);clear hj;go_upto_region 13 with(go_at_call 90;apply bo.o.mono;rintro e r ⟨vi,vl,ab,cb,E',rfl,J,R,bE,D⟩;have cH:=O8 J;have a4:=O8 R;have aH:=O8 bE;have b3:=O8 D;have FM:=Gm vi (SL ab i cb) vl r;clear J R bE D);clear f0 f1 f2 bo FM;have az:Hid (BW p r):=ap.o.trans (aH.o.mono ap.o.size);have a9:=O8 (et ga j gc (aE G) r (bh.o r az.o) b2.o ZO);go_upto_region 14 with(go_at_call 91;apply a9.o.mono;rintro e w5 ⟨wa,wc,rfl,hm⟩;have HM:=O8 hm;clear hm);clear a9;have bn:=O8 (x4 w5 i ZO);have bO:min (i:Int) 65536=(i:Int):=ZO;go_upto_region 16 with(go_at_call 92;apply bn.o.mono;rintro e w6 ⟨rfl,aC,bG⟩;have Z:=O8 aC;have aI:=O8 bG;clear aC bG);clear bn bO;obtain ⟨V,bU⟩:=EX w5.heap.size;rw [bU]at Z⊢;have bZ:Hid (q+1<r.heap.size):=by have h1:=X.o.row.lt (q+1) rfl;have W:=aH.o.size;show q+1<r.heap.size;omega
   have aL:Hid (vS r w6 i (q+1) (V+1) V (λx=>if x∈G then 0 else-1) (λ_=>false) (List.replicate (gW i) 0) (SL wa j wc) G (SN) []):=by
    have h1:=HM.o.2.1.size;have hf:=bZ.o;have bF:BW r w6:=af HM.o.2.1 aI.o;have aB:aj (λk=>r.heap.size<=k) r w6:=aj.aC bF;have A:=HM.o.1.lt;have bL:(aE G).length=G.length:=aD G;refine ⟨aB.mono λk hk h=>ZO,?_,Z.o,?_,Qd _ _ _ _,⟨hf,ZO,ZO⟩,λk e=>?_,λk e=>ZC e⟩
    ·have h4:Sl r 3 (SV (q+1) i i) i (gK i (wT λx=>if x∈G then 0 else-1)):=X.o.row.ax (aj.aC aH.o) (λg e s=>ZH (X.o.row.lt g e));exact h4.ax aB (λg e s=>ZH (h4.lt g e))
    ·have h:=HM.o.1;rw [bL]at h
     exact h.ax (aj.aC aI.o) (λg e s=>ZH (A g e))
    ·have W:=A k e;have h3:=HM.o.2.2 k e
     exact ⟨h3,ZO,ZO,λe=>ZC e⟩
   have aO:Hid (gm E i G 1 (λx=>if x∈G then 0 else-1) (λ_=>false) G []):=gm.aM aM.o b0.o (λx _=>rfl);have aJ:Hid (∀W',aj (λk=>k=q+1) r W'->eG W' ab i E'):=λW' h=>b3.o W' (h.mono λk _ e=>by have h1:=X.o.row.lt (q+1) rfl;show k<wr.heap.size;omega)
   have bw:Hid (BW w r):=af aF.o az.o;have b1:Hid (G.length=j):=ao;clear Z HM aI X bU;obtain ⟨o,ak⟩:∃o:Nat->Int,(λx=>if x∈G then(0:Int)else-1)=o:=⟨_,rfl⟩;rw [ak]at aL aO;have bq:Hid (G≠[]->1+dh i (λx=>decide (0<=o x))<=i+1):=λ_=>by have:=H9 i (λx=>decide (0<=o x));omega
   clear ak;go_loopg [10,12] (2*dh i (λx=>decide (0<=o x))+G.length) (λgk cy cz wr=>∃(d:Nat)(b:Nat->Int)(B:Nat->Bool)(Wd c:List Nat)(wa:OA)(H wc:Nat),cy=SL wa H wc/\cz=IV (d:Int)/\d<=i+2/\Hid (H=c.length)/\Hid (gk=2*dh i (λx=>decide (0<=b x))+c.length)/\Hid (c≠[]->d+dh i (λx=>decide (0<=b x))<=i+1)/\Hid (vS r wr i (q+1) (V+1) V b B Wd (SL wa H wc) c (SN) [])/\Hid (gm E i G d b B c []));exact ⟨1,o,_,_,G,wa,j,wc,rfl,rfl,ZO,b1.o.symm,rfl,bq,aL,aO⟩;clear aL aO bq;obtain ⟨d,b,B,Wd,c,wa,H,wc,rfl,rfl,cj,A,aS,aX,l,M⟩:=hrel;obtain ⟨wo,rfl⟩:∃wo:WD,wo=wr:=⟨_,rfl⟩;cases ax:c with
   |nil=>rw [ax]at A M l;have h0:H=0:=A.o;subst h0;have bc:Hid (Al w E i G (RT (SV (q+1) i i)) wo):=⟨b,q+1,rfl,l.o.bT,M.o.done bY.o aM.o cj,bw.o.trans (l.o.aJ.ag bw.o.size (λk hk e=>ZI aF.o.size Y.o)),ZI aF.o.size Y.o⟩;clear l M aS aX A;go_wp2;go_ret;exact bc.o
   |cons a0 a3=>
    have cu:0<H:=by rw [A.o,ax];exact Nat.succ_pos _
    have cF:(0:Int)<(H:Int):=ZO;have aa:Hid (d+dh i (λx=>decide (0<=b x))<=i+1):=aX.o (by rw [ax];simp);have bg:=O8 aS.o;have ac:=O8 A.o;clear ax aX aS A a0 a3;obtain ⟨wg,rfl⟩:∃g,wa=some (AD g 0):=by obtain ⟨a',c',e,cv⟩:=l.o.Ma.shape;injection e with e1 e2 e3;obtain ⟨g,hg,-⟩:=cv 0 (ZR ac.o.symm cu);exact ⟨g,e1.trans hg⟩
    obtain ⟨U,hU⟩:=EX (dh i (λx=>decide (0<=b x)));have br:Hid (dh i (λx=>decide (0<=b x))+([]:List Nat).length=U):=hU;rw [hU]at aa bg;generalize gk=g3 at *;have bV:H<=maxLen:=ZH (de l.o.Ma);unfold maxLen at bV;clear hU;go_upto_region 20 with(fail);go_loopg [57,13] H (λgh cA nv wr=>∃(k:Nat)(b:Nat->Int)(B:Nat->Bool)(Wd next:List Nat),k+gh=H/\cA=IV (k:Int)/\Hid (vS r wr i (q+1) (V+1) V b B Wd (SV wg H wc) c nv next)/\Hid (gm E i G d b B (c.drop k) next)/\Hid (dh i (λx=>decide (0<=b x))+next.length=U));exact ⟨0,b,B,Wd,[],ZO,rfl,l,M,br⟩;clear l M br b B Wd;obtain ⟨k,b,B,Wd,next,cP,rfl,l,M,hu⟩:=hrel;by_cases hk:k<H
    ·have cO:(k:Int)<(H:Int):=ZO;have ar:k<c.length:=ZR ac.o.symm hk
     obtain ⟨a,ha⟩:=EX (c[k]'ar);have bC:c[k]? =some a:=by rw [Pe ar,ha]
     have aw:gm E i G d b B (a::c.drop (k+1)) next:=by have h:=M.o;rw [TL ar,ha]at h;exact h
     have ag:=(aw.cur a (P2 ..)).1;have bI:=aw.fresh a ZS;have cI:(a:Int)<(i:Int):=ZO;have ca:wr.cell? (AD wg k)=some (IV (a:Int)):=by have h:=l.o.Ma;rw [<-ac.o]at h;rw [Qj (size:=1) h k ZO];simp [aE,bC]
     have bm:=O8 (x5 wr (V+1) V i B Wd l.o.set ZO a ag bI);have bb:=O8 l.o;have bl:=O8 aw;have bv:=O8 hu.o;clear l M hu aw bI bC ha ar;obtain ⟨bX,rfl⟩:∃bX:WD,bX=wr:=⟨_,rfl⟩;go_upto_region 23 with(go_at_call 93;apply bm.o.mono;rintro e wp ⟨rfl,Wp,bT,D⟩;have al:=O8 (bb.o.put bT D);clear bT D);clear ca bm;obtain ⟨na,nc,aV,-⟩:=al.o.cy.shape;subst aV;obtain ⟨f,T⟩:=EX (E'.getD a []);obtain ⟨m,au⟩:=EX f.length;obtain ⟨rb,ro,ai,ci,ch,S⟩:=J5 aJ.o ag;subst ch;have cQ:m<=4000000000000:=by have h:=aJ.o r (aj.refl _ _);have W:=h.short a (by rw [h.bA];exact ag);rw [T,au]at W;exact W
     rw [T,au]at S;have HK:=O8 S;have cr:=(S wp al.o.aJ).1;have aN:=O8 au;have ay:=O8 T;have a8:Hid (∀x:Nat,(x:Int)∈f.take 0->0<=b x):=λx O=>ZC O;clear S au T;go_upto_region 24 with(fail);clear cr;generalize gk=g5 at *;go_loopg [69,13] m (λg2 cB nv wr=>∃(j:Nat)(b:Nat->Int)(next:List Nat)(na:OA)(P nc:Nat),j+g2=m/\cB=IV (j:Int)/\nv=SL na P nc/\Hid (next.length=P)/\Hid (vS r wr i (q+1) (V+1) V b (up B a true) Wp (SV wg H wc) c nv next)/\Hid (gm E i G d b B (a::c.drop (k+1)) next)/\Hid (dh i (λx=>decide (0<=b x))+next.length=U)/\Hid (∀x:Nat,(x:Int)∈f.take j->0<=b x));exact ⟨0,b,next,na,next.length,nc,ZO,rfl,rfl,O8 rfl,al,bl,bv,a8⟩;clear al bl bv a8 bb b next na nc;obtain ⟨j,b,next,na,P,nc,cM,rfl,rfl,K,l,M,hu,hc⟩:=hrel;by_cases hj:j<m
     ·have cL:(j:Int)<(m:Int):=ZO;obtain ⟨eb,eo,rfl,ck,bx,cg⟩:=(HK.o wr l.o.aJ).2 j (ZR aN.o hj)
      obtain ⟨z,hz⟩:=EX (f.getD j 0);have bN:j<f.length:=ZR aN.o hj;have a1:f[j]? =some z:=by rw [<-hz,Pd,Pe bN];rfl
      have a2:z∈E'.getD a []:=ZR ay.o (Pm a1);rw [hz]at ck;have J:=aJ.o r (aj.refl _ _);obtain ⟨cw,cx⟩:=J.inr a ag z a2;obtain ⟨t,rfl⟩:∃t:Nat,z=(t:Int):=⟨z.toNat,ZO⟩;have ht:t<i:=ZO;have cq:(t:Int)<(i:Int):=ZO;have a5:Hid (Own.gn E t a):=(a4.o a t).1 ⟨by rw [J.bA];exact ag,by rw [J.bA];exact ht,a2⟩;have bp:Hid (∀x:Nat,(x:Int)∈f.take (j+1)->(x:Int)∈f.take j\/x=t):=λx O=>by
       rw [Qf,a1]at O;obtain O|O:=PC.1 O
       ·exact .inl O
       ·have e:=Pc.1 O;exact .inr ZO
      obtain ⟨qe,bQ⟩:=EX wr.heap.size;obtain ⟨wq,aY⟩:=EX (wr.alloc (CE #[IV (t:Int),IV bx] 66));have bH:BW wr wq:=aY▸ah _ _;have aP:=aT wr #[IV (t:Int),IV bx] 66;rw [aY,bQ]at aP;have q3:=(aP 0 _ rfl).1;have am:=O8 (l.o.ag bH);obtain ⟨cf,ff⟩:=am.o.NU ht;have cp:¬qe=q+1:=by have h1:=l.o.bT.lt (q+1) rfl;omega
      have HP:=O8 M.o;have HU:=O8 hu.o;have HC:=O8 hc.o;have C:=O8 K.o;have cE:P<=70000:=by have h1:=hu.o;have W:=aa.o;have h3:=K.o;omega
      obtain ⟨z0,F⟩:=EX (b t);rw [F]at cf;clear hz bN a1 a2 J cw cx bH aP l M hu hc K;by_cases cl:z0<0
      ·obtain ⟨ws,aZ⟩:=EX (wq.setCell (AD (q+1) t) (IV (d:Int)));have bf:Hid (b t<0):=ZR F (O8 cl)
       have u:=am.o.store ht (d:Int);rw [aZ]at u;have b8:=O8 u;have cR:ws.cell? (AD qe 0)=some (IV (t:Int)):=by rw [<-aZ,World.cell?_setCell_far _ _ _ _ (λe=>cp e.symm)];exact q3
       have HO:Hid (Sl ws 3 (SL na P nc) P ((aE next).map (Value.int .i64))):=by have h:=u.cy;rw [C.o]at h;exact h
       clear u F;go_upto_region 28 with(fail);clear aY aZ bQ q3 cf ff ck cg am;go_wp2_with (at_builtin;refine av rfl (.tmp 84) (.tmp 87) 33 rfl 3 i3 (IV 0) 8 QD bM bW bR bD rfl ZD (SL na P nc) _ _ rfl HO.o _ rfl rfl ZO ?_;intro g1 c1 w5 hs D bP;have HS:=O8 (vS.dT b8.o (ZR C.o hs) D bP);clear hs D bP);have bk:Hid ((next++[t]).length=P+1):=by rw [Pk,C.o];exact O8 rfl
       have b7:Hid (vS r w5 i (q+1) (V+1) V (up b t (d:Int)) (up B a true) Wp (SV wg H wc) c (SV g1 (P+1) c1) (next++[t])):=by have h:=HS.o;rw [C.o]at h;exact h
       have cd:Hid (dh i (λx=>decide (0<=up b t (d:Int) x))+(next++[t]).length=U):=by
        have h1:dh i (λx=>decide (0<=b x))=dh i (up (λx=>decide (0<=b x)) t true)+1:=ou ht (PH (ZH bf.o));have W:(λx=>decide (0<=up b t (d:Int) x))=up (λx=>decide (0<=b x)) t true:=by
         funext x;by_cases e:x=t
         ·subst e;rw [aA,aA];exact PX ZO
         ·rw [an _ _ _ _ e,an _ _ _ _ e]
        have h3:=HU.o;rw [W,bk.o];have h4:=C.o;show _=_;omega
       have aK:Hid (∀x:Nat,(x:Int)∈f.take (j+1)->0<=up b t (d:Int) x):=λx O=>by
        by_cases e:x=t
        ·subst e;rw [aA];omega
        ·rw [an _ _ _ _ e];exact HC.o x ((bp.o x O).resolve_right e)
       go_roundg (m-(j+1));case measure=>omega
       case rel=>exact ⟨j+1,up b t (d:Int),next++[t],_,P+1,c1,Nat.add_sub_of_le hj,ZN,rfl,bk,b7,O8 (HP.o.O5 ht bf.o a5.o),cd,aK⟩
      ·have bJ:0<=z0:=ZO;have aK:Hid (∀x:Nat,(x:Int)∈f.take (j+1)->0<=b x):=λx O=>by
        obtain h|h:=bp.o x O
        ·exact HC.o x h
        ·rw [h,F];exact bJ
       clear F;go_wp2;go_roundg (m-(j+1));case measure=>omega
       case rel=>exact ⟨j+1,b,next,na,P,nc,Nat.add_sub_of_le hj,ZN,rfl,C,am,HP,HU,aK⟩
     ·obtain rfl:j=m:=ZO;have b6:Hid (gm E i G d b (up B a true) (c.drop (k+1)) next):=M.o.go λx O R=>by have h1:=((a4.o a x).2 R).2.2;rw [ay.o]at h1;exact hc.o x (by rw [PI (Q2 aN.o)];exact h1)
      clear M hc;go_wp2;go_roundg (H-(k+1));case measure=>omega
      case rel=>exact ⟨k+1,b,up B a true,Wp,next,ZO,ZN,l,b6,hu⟩
    ·obtain rfl:k=H:=ZO;have b5:Hid (gm E i G d b B [] next):=by have h:=M.o;rw [List.drop_of_length_le (Q2 ac.o.symm)]at h;exact h
     have ba:=O8 l.o.gQ;obtain ⟨na,nc,aV,-⟩:=l.o.cy.shape;subst aV;have bs:=O8 hu.o;have cJ:d<=100000:=ZH aa.o;have b4:Hid (2*dh i (λx=>decide (0<=b x))+next.length<g3):=by have h1:=bs.o;have W:=bg.o;have h3:=ac.o;show _<_;omega
     have cc:Hid (next≠[]->d+1+dh i (λx=>decide (0<=b x))<=i+1):=λe=>by have h1:=bs.o;have W:=aa.o;have h3:0<next.length:=List.length_pos_iff.2 e;omega
     have bt:d+1<=i+2:=ZH aa.o;obtain ⟨P,K⟩:=EX next.length;have C:=O8 K;rw [K]at ba⊢;clear l M hu K;go_wp2;go_roundg (2*dh i (λx=>decide (0<=b x))+next.length);case measure=>exact b4.o
     case rel=>exact ⟨d+1,b,B,Wd,next,na,P,nc,rfl,ZN,bt,C.o.symm,rfl,cc,ba,b5.o.gQ⟩
section
def Sc:=@List.length_dropLast
def Ub:=@List.getElem?_dropLast
def UH:=@Nat.add_sub_cancel
inductive Trail (E:List (List Int)):Nat->List Nat->Nat->Prop
 |one (a:Nat):Trail E a [a] a
 |snoc {a:Nat} {P:List Nat} {z y:Nat}:Trail E a P z->Own.gn E z y->Trail E a (P++[y]) y
section
variable {E:List (List Int)} {a z y:Nat} {P Q:List Nat}
theorem Trail.cH(h:Trail E a P z):0<P.length:=by
 cases h
 exact Nat.one_pos;rw [List.length_append];exact Nat.lt_of_lt_of_le Nat.one_pos (Nat.le_add_left _ _)
theorem Trail.join(h:Trail E a P z)(g:Trail E z Q y):Trail E a (P++Q.tail) y:=by
 induction g with
 |one=>rw [List.tail_cons,List.append_nil];exact h
 |snoc g e b=>rw [List.tail_append_of_ne_nil (List.ne_nil_of_length_pos g.cH),<-Qe];exact b.snoc e
theorem Trail.mono{b}(c:∀x y,Own.gn E x y->Own.gn b x y)(h:Trail E a P z):Trail b a P z:=by
 induction h with
 |one=>exact .one _
 |snoc _ e d=>exact d.snoc (c _ _ e)
theorem Trail.last(h:Trail E a P z):P[P.length-1]? =some z:=by
 cases h
 rfl;simp
theorem Trail.first(h:Trail E a P z):P[0]? =some a:=by
 induction h with
 |one=>rfl
 |snoc g _ b=>rw [Pp g.cH];exact b
theorem Trail.step(h:Trail E a P z):∀i x f,P[i]? =some x->P[i+1]? =some f->Own.gn E x f:=by
 induction h with
 |one=>intro i x f c b;simp at b
 |@snoc P z y g e l=>
  intro i x f c b;by_cases k:i+1<P.length;rw [Pp k]at b;rw [Pp (by omega)]at c;exact l i x f c b;have n:(P++[y]).length=P.length+1:=by simp
  have m:i+1<(P++[y]).length:=(TM.1 b).1;have d:i+1=P.length:=by omega
  rw [d,PD (Rt _),RG]at b;rw [Pp (by omega)]at c;have j:=g.last;rw [<-d,UH]at j;cases b
  rw [j]at c;cases c
  exact e
theorem Trail.mem(h:Trail E a P z){S:Nat->Prop}(d:S a)(c:∀x y,Own.gn E x y->S y):∀x∈P,S x:=by
 induction h with
 |one=>intro x b;rw [Sb.1 b];exact d
 |snoc _ e f=>intro x b;rcases List.mem_append.1 b with b|b;exact f x b;rw [Sb.1 b];exact c _ _ e
end
theorem getD_some{l:List Nat}{i x}(h:l[i]? =some x):l.getD i 0=x:=by rw [List.getD_eq_getElem?_getD,h];rfl
theorem lV{l:List Nat}{i}(h:i<l.length):l[i]? =some (l.getD i 0):=by rw [List.getD_eq_getElem?_getD,List.getElem?_eq_getElem h];rfl
theorem pV{l:List Nat}{f i}(h:i+1<l.length):(l.dropLast.map f).getD i 0=f (l.getD i 0):=by refine getD_some ?_;rw [List.getElem?_map,Ub,QZ (by omega),lV (by omega)];rfl
theorem GF{A E}(O:su A E){P Q s z}(R:s∈A.aP)(D:Trail E s P z)(I:Trail E z Q z)(U:2<=Q.length)(J:∀k,k<A.sets->∃x∈Q,(A.ay x).inn.testBit k=true):
 lY A (aU (P.dropLast.map λx=>(A.ay x).need) (Q.dropLast.map λx=>(A.ay x).need)):=by
 obtain ⟨m,N⟩:∃m,P.length=m+1:=⟨P.length-1,by have:=D.cH;omega⟩
 obtain ⟨L,H⟩:∃L,Q.length=L+1:=⟨Q.length-1,by omega⟩
 have b:0<L:=by omega
 have Y:∀i,i<m->Own.gn E (P.getD i 0) (P.getD (i+1) 0):=λi W=>D.step i _ _ (lV (by omega)) (lV (by omega))
 have Z:∀i,i<L->Own.gn E (Q.getD i 0) (Q.getD (i+1) 0):=λi W=>I.step i _ _ (lV (by omega)) (lV (by omega))
 have d:Q.getD 0 0=z:=getD_some I.first
 have C:Q.getD L 0=z:=by have h:=I.last;rw [H,UH]at h;exact getD_some h
 have w:P.getD 0 0=s:=getD_some D.first
 have B:P.getD m 0=z:=by have h:=D.last;rw [N,UH]at h;exact getD_some h
 obtain ⟨r,o⟩:∃r:Nat->Nat,r=λi=>if i<m then P.getD i 0 else Q.getD ((i-m)%L) 0:=⟨_,rfl⟩
 have f:∀j,r (m+j)=Q.getD (j%L) 0:=λj=>by rw [o];show(if m+j<m then _ else _)=_;rw [QN (by omega),Nat.add_sub_cancel_left]
 have l:∀i,Own.gn E (r i) (r (i+1)):=λi=>by
  by_cases g:i<m;have S:r i=P.getD i 0:=by rw [o];exact QZ g
  have T:r (i+1)=P.getD (i+1) 0:=by
   by_cases c:i+1<m;rw [o];exact QZ c;have e:i+1=m+0:=by omega
   rw [e,f,TC,d,US,B]
  rw [S,T];exact Y i g;obtain ⟨j,rfl⟩:∃j,i=m+j:=⟨i-m,by omega⟩;rw [QH,f,f,xx b];have c:=Z (j%L) (UI _ b);by_cases G:j%L+1=L;rw [QZ G,d,<-C];rw [G]at c;exact c;rw [QN G];exact c
 have u:∀i,r i<A.ak.length:=λi=>by rw [<-O.bA];exact (l i).1
 have v:∀i,r (i+1)∈(A.ay (r i)).tO/\kI (A.ay (r i)):=λi=>by have h:=(O.gn _ _ (u i)).1 (l i);exact ⟨h.1,h.2.1⟩
 have p:(P.dropLast.map λx=>(A.ay x).need).length=m:=by rw [List.length_map,Sc,N];rfl
 have n:(Q.dropLast.map λx=>(A.ay x).need).length=L:=by rw [List.length_map,Sc,H];rfl
 have q:∀i,aU (P.dropLast.map λx=>(A.ay x).need) (Q.dropLast.map λx=>(A.ay x).need) i=(A.ay (r i)).need:=λi=>by unfold aU;rw [p,n];by_cases g:i<m;rw [QZ g,pV (by omega),o];show _=(A.ay (if i<m then _ else _)).need;rw [QZ g];rw [QN g,pV (by have:=UI (i-m) b;omega),o];show _=(A.ay (if i<m then _ else _)).need;rw [QN g]
 refine ⟨r,?_,u,λi=>(v i).1,λi=>?_,λk X i=>?_⟩
 rw [o]
 show(if 0<m then _ else _)∈_
 by_cases h:0<m
 rw [QZ h,w];exact R
 obtain rfl:m=0:=by omega
 rw [QN h,Nat.zero_sub,TC,d,<-B,w];exact R
 rw [q]
 intro k
 refine ⟨id,λh=>?_⟩
 cases c:(A.ay (r i)).need.testBit k
 rfl
 exact absurd ⟨c,h⟩ ((v i).2 k)
 obtain ⟨x,hx,V⟩:=J k X
 obtain ⟨t,K⟩:=List.mem_iff_getElem?.1 hx
 obtain ⟨F,M,e⟩:∃F,F<L/\Q.getD F 0=x:=by
  have g:t<L+1:=by rw [<-H];exact (TM.1 K).1
  by_cases c:t=L;refine ⟨0,b,?_⟩;rw [d,<-C,<-c];exact getD_some K;exact ⟨t,by omega,getD_some K⟩
 refine ⟨m+(F+L*i),?_,?_⟩
 have:i<=L*i:=Nat.le_mul_of_pos_left i b
 omega
 rw [f,Nat.add_mul_mod_self_left,Sq M,e];exact V
theorem KU{A E}(c:su A E){u}(h:lY A u):∃i∈A.aP,kI (A.ay i)/\yv E (λs x=>(A.ay x).inn.testBit s=true) A.sets i:=by obtain ⟨r,b⟩:=h;exact ⟨r 0,b.aM,jV (b.rd 0),r,rfl,λi=>(c.gn _ _ (b.lt i)).2 ⟨b.step i,jV (b.rd i),jV (b.rd (i+1))⟩,b.r7⟩
end
def MA(b:Nat->Int)(I:List Nat)(k:Nat)(a:Int):Prop:=(a=-1/\∀i∈I.take k,b i<0)\/∃x:Nat,a=(x:Int)/\x∈I/\0<=b x
def MA.no{a I k i c}(h:MA a I k c)(g:I[k]? =some i)(f:a i<0):MA a I (k+1) c:=by refine h.imp (λ⟨d,e⟩=>⟨d,λx b=>?_⟩) id;rw [Qf,g]at b;obtain b|b:=PC.1 b;exact e x b;rw [Pc.1 b];exact f
def Mj(a:Nat->Int)(b:List Int)(g j:Nat)(c:Int):Prop:=(c=-1/\∀y:Nat,(y:Int)∈b.take j->a y≠(g:Int))\/∃y:Nat,c=(y:Int)/\(y:Int)∈b/\a y=(g:Int)
def Mj.no{a b}{g j t:Nat}{d}(h:Mj a b g j d)(m:b[j]? =some (t:Int))(l:a t≠(g:Int)):Mj a b g (j+1) d:=by refine h.imp (λ⟨i,k⟩=>⟨i,λx c=>?_⟩) id;rw [Qf,m]at c;obtain c|c:=PC.1 c;exact k x c;have e:=Pc.1 c;have f:x=t:=ZO;rw [f];exact l
def pM(w:WD)(E:List (List Int))(n:Nat)(I:List Nat)(G:List Nat)(e:Ending)(b:WD):Prop:=
 (e=RT (.tuple #[SN,.bool false])/\BW w b/\∀i∈I,∀g∈G,¬Own.aZ E i g)\/
 ∃P i z a l c,e=RT (.tuple #[SL a l c,.bool true])/\P.length=l/\l<=n+3/\aF .i64 3 w b (SL a l c) (aE P)/\Trail E i P z/\i∈I/\z∈G
def Cv(w ia W ic I0 la X lc L Y n ce E)(hg:eG w Y n E)(hI:aG .i64 w ia W I0)(hL:aG .u64 w la X L)(b4:W<=1000000000)(b5:X<=1000000000)(bH:∀i,i<n->(E.getD i []).length<=16777216)
 (fa fl fc I) (hF:aG .i64 w fa fl (aE I)) (bo:∀i∈I,i<n) (co:fl<=1000000000) (ga gc r) (hr:dq w ga n r):
 CL 34 #[.agg #[SL ia W ic,SL Y n ce,SL la X lc],SL fa fl fc,SL ga n gc] w (pM w E n I ((List.range n).filter r)):=by
 have⟨i3,b3,a9,b7,aA⟩:=P6 Tryz.eA
 have⟨G,hG⟩:=EX ((List.range n).filter r)
 have aZ:∀g∈G,g<n:=λg hg=>by rw [<-hG]at hg;exact P5.1 (PY.1 hg).1
 have bp:G.Nodup:=by rw [<-hG];exact List.nodup_range.filter _
 have⟨q,hq⟩:=EX w.heap.size
 have⟨C,aJ⟩:=EX (w.alloc (CE #[SL ia W ic,SL Y n ce,SL la X lc] 55))
 have ao:Below w.heap.size w C:=aJ▸ah _ _
 have Q:=aT w #[SL ia W ic,SL Y n ce,SL la X lc] 55
 rw [aJ,hq]at Q
 have e0:=(Q 0 _ rfl).1
 have e1:=(Q 1 _ rfl).1
 have e2:=(Q 2 _ rfl).1
 have hn:=hg.uD
 have ap:Below w.heap.size w C.drew:=ao.drew
 have HQ:Hid (∀m,Below C.heap.size C m->CA m q 0 (SL ia W ic)/\CA m q 1 (SL Y n ce)/\CA m q 2 (SL la X lc)):=λN O=>⟨(O.cell (O9 _ _ e0)).trans e0,(O.cell (O9 _ _ e1)).trans e1,(O.cell (O9 _ _ e2)).trans e2⟩
 have bi:Hid (CL 61 #[.agg #[SL ia W ic,SL Y n ce,SL la X lc],SL ga n gc] C.drew (vV C.drew G)):=by have h:=zB C.drew (SL ia W ic) (SL la X lc) Y n ce ga gc r (hr.ag ap) hn;rw [hG]at h;exact h
 have bh:Hid (∀N xa xl xc,Below C.drew.heap.size C.drew N->aF .i64 3 C.drew N (SL xa xl xc) (aE G)->CL 60 #[.agg #[SL ia W ic,SL Y n ce,SL la X lc],SL xa xl xc] N (Al N E n G)):=λN xa xl xc O M=>by
  have a0:=af ap O;have hl:=gy M;rw [aD]at hl;have cm:G.length<=n:=by rw [<-hG];have:=Qn r (List.range n);rwa [Qp]at this
  refine yF N ia W ic I0 la X lc L Y n ce E (hg.ag a0) (hI.ag a0) (hL.ag a0) b4 b5 bH xa xl xc G (cT M) (λe=>?_) aZ bp ZO;subst e;obtain ⟨A,-⟩|⟨g,cj,cl,A,-⟩:=M.1.2
  ·cases A;exact ⟨rfl,rfl⟩
  ·cases A
 have bN:Hid (∀m,Below C.heap.size C m->aG .i64 m fa fl (aE I)):=λm O=>hF.ag (af ao O)
 have ag:Hid (∀m,Below C.heap.size C m->eG m Y n E):=λm O=>hg.ag (af ao O)
 have ax:=O8 bo
 have bf:=O8 ao
 have aR:Hid (I.length=fl):=by have:=hF.1;rwa [aD]at this
 have bm:Hid (∀(N:WD)(t:Nat),t<n->CL 62 #[.agg #[SL ia W ic,SL Y n ce,SL la X lc],IV t] N λe bL=>e=RT (.bool true)/\Below N.heap.size N bL):=λN t ht=>(Cq N _ _ Y n ce t ht).mono λe bL ⟨A,T⟩=>⟨A,by rw [T];exact ah _ _⟩
 have ci:=O8 aZ
 rw [hG]
 clear hg hI hL bH hr Q ao ap hF bo hG aZ bp
 go_enter func34,ntmps34
 go_wp2_with fail
 go_step3
 go_upto_region 1 with(fail)
 (try rw [aJ])
 (try rw [hq])
 clear aJ hq
 refine aw 4 (S:=λm=>CA m q 0 (SL ia W ic)/\CA m q 1 (SL Y n ce)/\CA m q 2 (SL la X lc)) ZK (⟨e0,e1,e2⟩) (λs=>?_)
 refine aB 0 ?_
 refine aB 1 ?_ [3,1]
 refine aB 2 ?_ [3,2]
 clear s e0 e1 e2
 refine aK 3 λK J=>?_
 rw [PW (by rfl)]
 apply aY.o
 refine aO (f:=61) (bi.o) ?_ (λe w2 B=>?_)
 ·clear J;go_simp
 obtain ⟨xa,xl,xc,rfl,M⟩:=B
 refine ⟨_,rfl,?_⟩
 have aN:Hid (Below C.heap.size C w2):=(PF _ C).drew.trans M.2.1
 have bg:=O8 (bh.o w2 xa xl xc M.2.1 M)
 clear M bi bh
 refine J.o _ _ (λ_=>HQ.o w2 (aN.o)) ?_
 clear J K
 refine aK 4 λK J=>?_
 rw [PW (by rfl)]
 apply aY.o
 refine aO (f:=60) (bg.o) ?_ (λe w3 B=>?_)
 ·clear J;go_simp
 obtain ⟨p,b,rfl,bG,bq,aA,b6⟩:=B
 refine ⟨_,rfl,?_⟩
 have ar:Hid (Below C.heap.size C w3):=af aN.o aA
 have aX:=O8 bG
 have au:=O8 bq
 clear bG bq aA b6 aN bg
 refine J.p ?_
 clear J K
 refine aK 5 λK J=>?_
 go_simp
 refine J.q ?_
 clear J K
 refine az ZK ?_
 have am:Hid (∀m x,Below w3.heap.size w3 m->x<n->CA m b x (IV (p x))):=λm x O hx=>(O.cell (O9 _ _ (oo aX.o hx (.bool true)).2.1)).trans (oo aX.o hx (.bool true)).2.1
 clear aX
 go_wp2
 go_loopw [9,23] (λo v wr=>∃(k:Nat)(D:Int),k<=fl/\o=IV D/\v=IV k/\Hid (Below w3.heap.size w3 wr)/\Hid (MA p I k D)) (λ_ v _=>fl-(intOf v).toNat)
 exact ⟨0,-1,Pz _,rfl,rfl,PF _ _,.inl ⟨rfl,λ_ h=>ZC h⟩⟩
 obtain ⟨k,D,hk,rfl,rfl,U,aa⟩:=hrel
 have ay:=O8 (af ar.o U.o)
 by_cases a5:k<fl
 ·have cg:(k:Int)<fl:=ZO;obtain ⟨-,h0|⟨fb,fo,rfl,br⟩⟩:=bN.o wr ay.o
  ·omega
  obtain ⟨i,hi⟩:∃i,I[k]? =some i:=⟨_,Pe (ZR aR.o a5)⟩;have a3:=Pm hi;have a4:=ax.o i a3;have cc:(i:Int)<n:=ZO;have ck:CA wr fb (fo+k) (IV i):=by have:=br k a5;rw [cG (ZR aR.o a5),Pd,hi]at this;exact this
  obtain ⟨x,hx,aM⟩:∃x,x<n/\((D=-1/\x=i)\/(D=(x:Int)/\0<=p x)):=by
   obtain ⟨A,-⟩|⟨x,A,T,h3⟩:=aa.o
   ·exact ⟨i,a4,.inl ⟨A,rfl⟩⟩
   ·exact ⟨x,ax.o x T,.inr ⟨A,h3⟩⟩
  have b9:(x:Int)<n:=ZO;have HS:Hid (∀m,Below wr.heap.size wr m->CA m q 0 (SL ia W ic)/\CA m q 1 (SL Y n ce)/\CA m q 2 (SL la X lc)/\CA m b i (IV (p i))/\CA m b x (IV (p x))):=λm O=>
   have h:=HQ.o m (af ay.o O)
   ⟨h.1,h.2.1,h.2.2,am.o m i (af U.o O) a4,am.o m x (af U.o O) hx⟩
  have aU:Hid (0<=p i->MA p I (k+1) (i:Int)):=λh=>.inr ⟨i,rfl,a3,h⟩;have aV:Hid (p i<0->MA p I (k+1) D):=λh=>aa.o.no hi h;have aW:Hid (0<=D->MA p I (k+1) D):=λh=>by
   obtain ⟨A,-⟩|A:=aa.o
   ·omega
   ·exact .inr A
  have bM:=O8 U.o;have an:=O8 (λN=>bm.o N i a4);clear br hi a3 aa U;generalize p i=R at *;generalize p x=zx at *;have ab:(R<0/\¬0<=R)\/(0<=R/\D=-1/\x=i)\/(0<=R/\D=(x:Int)/\R<zx)\/(0<=R/\D=(x:Int)/\¬R<zx/\(R==zx)=true/\(i:Int)<x/\i<x)\/(0<=R/\D=(x:Int)/\¬R<zx/\(R==zx)=true/\¬(i:Int)<x/\¬i<x)\/(0<=R/\D=(x:Int)/\¬R<zx/\(R==zx)=false):=by
   by_cases A:0<=R
   ·obtain ⟨T,h3⟩|⟨T,h3⟩:=aM
    ·exact .inr (.inl ⟨A,T,h3⟩)
    ·by_cases h4:R<zx
     ·exact .inr (.inr (.inl ⟨A,T,h4⟩))
     ·by_cases h5:R=zx
      ·by_cases h6:i<x
       ·exact .inr (.inr (.inr (.inl ⟨A,T,h4,ZX h5,ZO,h6⟩)))
       ·exact .inr (.inr (.inr (.inr (.inl ⟨A,T,h4,ZX h5,ZO,h6⟩))))
      ·exact .inr (.inr (.inr (.inr (.inr ⟨A,T,h4,ZX h5⟩))))
   ·exact .inl ⟨ZO,A⟩
  have⟨s0,s1,s2,s3,s4⟩:=HS.o wr (PF _ _);clear aM;obtain ⟨Z,c2⟩|⟨Z,rfl,-⟩|⟨Z,rfl,c2⟩|⟨Z,rfl,c2,c3,c4,c5⟩|⟨Z,rfl,c2,c3,c4,c5⟩|⟨Z,rfl,c2,c3⟩:=ab;all_goals
   go_upto_region 6 with(fail)
   clear ck
   refine aw 40 (S:=λm=>CA m q 0 (SL ia W ic)/\CA m q 1 (SL Y n ce)/\CA m q 2 (SL la X lc)/\CA m b i (IV R)/\CA m b x (IV zx)) ZK (⟨s0,s1,s2,s3,s4⟩) (λs=>?_)
   refine aB 0 ?_ [10,3,2,0]
   refine aB 1 ?_ [10,3,2,1]
   clear s s0 s1 s2 s3 s4
   refine aK 2 λK J=>?_
   rw [PW (by rfl)]
   apply aY.o
   refine aO (f:=62) (an.o _) ?_ (λe w4 B=>?_)
   ·clear J;go_simp
   obtain ⟨rfl,aq⟩:=B
   refine ⟨_,rfl,?_⟩
   have ad:Hid (Below wr.heap.size wr w4):=(PF _ wr).drew.trans aq
   clear aq
   have s:=HS.o w4 ad.o
   refine J.o _ _ (λ_=>s) ?_
   clear J K
   first|refine fB 3 ?_|refine aB 3 ?_ [10,3]
   first|refine fB 4 ?_|refine aB 4 ?_ [10,9,8,7,6,4]
   first|refine fB 5 ?_|refine aB 5 ?_ [10,9,8,7,6,5]
   first|refine fB 6 ?_|refine aB 6 ?_ [10,9,8,7,6]
   first|refine fB 7 ?_|refine aB 7 ?_ [10,9,8,7]
   first|refine fB 8 ?_|refine aB 8 ?_ [10,9,8]
   first|refine fB 9 ?_|refine aB 9 ?_ [10,9]
   first|refine fB 10 ?_|refine aB 10 ?_
   first|refine fB 11 ?_|refine aB 11 ?_ [39,24,13,12,11]
   first|refine fB 12 ?_|refine aB 12 ?_ [39,24,13,12]
   first|refine fB 13 ?_|refine aB 13 ?_ [39,24,13]
   first|refine fB 14 ?_|refine aB 14 ?_ [39,24,23,22,17,16,14]
   first|refine fB 15 ?_|refine aB 15 ?_ [39,24,23,22,17,16,15]
   first|refine fB 16 ?_|refine aB 16 ?_ [39,24,23,22,17,16]
   first|refine fB 17 ?_|refine aB 17 ?_ [39,24,23,22,17]
   first|refine fB 18 ?_|refine aB 18 ?_ [39,24,23,22,21,20,18]
   first|refine fB 19 ?_|refine aB 19 ?_ [39,24,23,22,21,20,19]
   first|refine fB 20 ?_|refine aB 20 ?_ [39,24,23,22,21,20]
   first|refine fB 21 ?_|refine aB 21 ?_ [39,24,23,22,21]
   first|refine fB 22 ?_|refine aB 22 ?_ [39,24,23,22]
   first|refine fB 23 ?_|refine aB 23 ?_ [39,24,23]
   first|refine fB 24 ?_|refine aB 24 ?_ [39,24]
   first|refine fB 25 ?_|refine aB 25 ?_ [39,38,34,33,28,27,25]
   first|refine fB 26 ?_|refine aB 26 ?_ [39,38,34,33,28,27,26]
   first|refine fB 27 ?_|refine aB 27 ?_ [39,38,34,33,28,27]
   first|refine fB 28 ?_|refine aB 28 ?_ [39,38,34,33,28]
   first|refine fB 29 ?_|refine aB 29 ?_ [39,38,34,33,32,31,29]
   first|refine fB 30 ?_|refine aB 30 ?_ [39,38,34,33,32,31,30]
   first|refine fB 31 ?_|refine aB 31 ?_ [39,38,34,33,32,31]
   first|refine fB 32 ?_|refine aB 32 ?_ [39,38,34,33,32]
   first|refine fB 33 ?_|refine aB 33 ?_ [39,38,34,33]
   first|refine fB 34 ?_|refine aB 34 ?_ [39,38,34]
   first|refine fB 35 ?_|refine aB 35 ?_ [39,38,37,35]
   first|refine fB 36 ?_|refine aB 36 ?_ [39,38,37,36]
   first|refine fB 37 ?_|refine aB 37 ?_ [39,38,37]
   first|refine fB 38 ?_|refine aB 38 ?_ [39,38]
   first|refine fB 39 ?_|refine aB 39 ?_
   clear s
   refine aK 40 λK J=>?_
   go_simp
   refine J.q ?_
   clear J K
   refine az ZK ?_
   have aP:=O8 (af bM.o ad.o)
   go_wp2
   go_roundw
   first|exact ⟨k+1,_,ZO,rfl,ZN,aP,O8 (aV.o Z)⟩|exact ⟨k+1,_,ZO,rfl,ZN,aP,O8 (aU.o Z)⟩|exact ⟨k+1,_,ZO,rfl,ZN,aP,O8 (aW.o ZO)⟩
   simp [intOf];omega
 ·obtain rfl:k=fl:=ZO;obtain ⟨rfl,bE⟩|⟨x,rfl,a8,b8⟩:=aa.o
  ·have al:Hid (pM w E n I G (RT (.tuple #[SN,.bool false])) wr):=.inl ⟨rfl,af bf.o ay.o,λi hi g hg hr=>by have A:=bE i (by rw [PI (Q2 aR.o)];exact hi);have T:=(au.o.iff (ax.o i hi)).2 ⟨g,hg,hr⟩;omega⟩
   clear bE aa U;go_wp2;go_ret2;exact al.o
  ·have bJ:=ax.o x a8;have b9:(x:Int)<n:=ZO
   have cw:¬(x:Int)<0:=ZO;obtain ⟨k0,bz,cq⟩:∃k0:Nat,p x=(k0:Int)/\k0<=n+2:=by
    obtain h|h:=au.o.bG x bJ
    ·omega
    ·exact h
   have bj:Hid (aF .i64 3 w3 (wr.alloc (CE #[IV x] 3)) (SV wr.heap.size 1 1) (aE [x])):=gY U.o (xu .i64 3 wr #[IV x] [(x:Int)] 1 rfl rfl ZD);have bV:=O8 a8;have bQ:=O8 bz;clear aa U a8 b8 bz;go_wp2_with fail;go_step3;go_wp2_with fail;generalize wr.alloc (CE #[IV x] 3)=wx at *;(try unfold BW at *);generalize wr.heap.size=bx at *;go_loopg [9,12] k0 (λg v9 cb wr=>∃(y:Nat)(P:List Nat)(a:OA)(l c:Nat),v9=IV y/\cb=SL a l c/\l+g=k0+1/\y<n/\Hid (P.length=l)/\Hid (p y=(g:Int))/\Hid (aF .i64 3 w3 wr (SL a l c) (aE P))/\Hid (Trail E x P y));exact ⟨x,[x],_,1,1,rfl,rfl,ZO,bJ,O8 rfl,bQ,bj,O8 (.one x)⟩;clear bj ay;obtain ⟨y,P,a,l,c,rfl,rfl,ct,hy,aH,aj,M,aI⟩:=hrel;have HW:=O8 (af ar.o M.o.2.1);have⟨zy,aL⟩:=EX ((gk:Int));have cf:=am.o wr y M.o.2.1 hy;rw [aj.o,aL]at cf;have cx:(y:Int)<n:=ZO;by_cases bt:gk=0
   ·have al:Hid (pM w E n I G (RT (.tuple #[SL a l c,.bool true])) wr):=.inr ⟨P,x,y,a,l,c,rfl,aH.o,ZO,gY (af bf.o ar.o) M.o,aI.o,bV.o,(au.o.zero y hy).1 (by rw [aj.o,bt];rfl)⟩;obtain rfl:zy=0:=ZO
    clear M aI aj aH aL;go_wp2;go_ret2;exact al.o
   ·obtain ⟨F,b2⟩:∃F,gk=F+1:=⟨gk-1,ZO⟩;have cy:(zy==0)=false:=by simp;omega
    have cz:¬zy=0:=ZO;have cv:IntKind.i64.wrap (zy-1)=(F:Int):=by have e:zy-1=(F:Int):=ZO;rw [e];exact Ql _ ZO
    obtain ⟨gb,bd,ai,bY,rfl,cr,a2⟩:=(ag.o C (PF _ _)).bC.at y (by rw [(ag.o C (PF _ _)).bA];exact hy);have⟨H,V⟩:=EX (E.getD y []);have⟨d,hd⟩:=EX H.length;rw [V,hd]at cr;rw [V]at a2;have HK:Hid (∀N,Below C.heap.size C N->CA N gb (bd+y) (SL ai d bY)/\Scc.pO N ai H):=λN O=>⟨(O.cell (O9 _ _ cr)).trans cr,Scc.pO.ag (w:=C) a2 O⟩;have cn:d<=4000000000000:=by have h:=(ag.o C (PF _ _)).short y (by rw [(ag.o C (PF _ _)).bA];exact hy);rw [V,hd]at h;exact h
    have ac:=O8 V;have aQ:=O8 hd;have bP:Hid (p y=((F+1:Nat):Int)):=by rw [aj.o,b2];exact O8 rfl
    have bX:Hid (p y=zy):=by rw [aj.o,aL];exact O8 rfl
    have bl:Hid (Mj p H F 0 (-1)):=.inl ⟨rfl,λ_ h=>ZC h⟩;have b0:=(HK.o wr HW.o).1;have b1:=(HQ.o wr HW.o).2.1;have bS:=O8 aH.o;have bU:=O8 aI.o;have cp:l+F=k0:=ZO;clear cr a2 V hd aj aH aI aL bt;go_upto_region 15 with(fail);clear b0 b1 cf;go_wp2;go_loopw [85,13] (λv nx wr=>∃(j:Nat)(z:Int),j<=d/\v=IV j/\nx=IV z/\Hid (aF .i64 3 w3 wr (SL a l c) (aE P))/\Hid (Mj p H F j z)) (λv _ _=>d-(intOf v).toNat);exact ⟨0,-1,Pz _,rfl,rfl,M,bl⟩;clear M bl HW;obtain ⟨j,z,hj,rfl,rfl,M,ak⟩:=hrel;have HW:=O8 (af ar.o M.o.2.1);by_cases bv:j<d
    ·have cd:(j:Int)<d:=ZO;obtain ⟨eb,eo,rfl,ck,bn,bZ⟩:=(HK.o wr HW.o).2 j (ZR aQ.o bv)
     have⟨zz,bc⟩:=EX (H.getD j 0);rw [bc]at ck;have bw:j<H.length:=ZR aQ.o bv;have ba:H[j]? =some zz:=by rw [<-bc,Pd,Pe bw];rfl
     have bb:=Pm ba;have⟨ca,a9⟩:=(ag.o C (PF _ _)).inr y hy zz (ZR ac.o bb);obtain ⟨t,rfl⟩:∃t:Nat,zz=(t:Int):=⟨zz.toNat,ZO⟩;have ht:t<n:=ZO;have cu:(t:Int)<n:=ZO;have⟨qe,bF⟩:=EX wr.heap.size;have⟨wq,a7⟩:=EX (wr.alloc (CE #[IV t,IV bn] 66));have a1:Below wr.heap.size wr wq:=a7▸ah _ _;have Q:=aT wr #[IV t,IV bn] 66;rw [a7,bF]at Q;have r3:=(Q 0 _ rfl).1;have bR:=O8 (iu M.o a1);have HS:Hid (∀m,Below wq.heap.size wq m->CA m q 0 (SL ia W ic)/\CA m q 1 (SL (some (AD gb bd)) n ce)/\CA m q 2 (SL la X lc)/\CA m qe 0 (IV t)/\CA m b t (IV (p t))/\CA m b y (IV zy)):=λm O=>by have A:=af a1 O;have h:=HQ.o m (af HW.o A);have h3:=af M.o.2.1 A;exact ⟨h.1,h.2.1,h.2.2,(O.cell (O9 _ _ r3)).trans r3,am.o m t h3 ht,(am.o m y h3 hy).trans (by rw [bX.o])⟩
     have⟨s0,s1,s2,s3,s4,s5⟩:=HS.o wq (PF _ _);have aU:Hid (p t=(F:Int)->Mj p H F (j+1) (t:Int)):=λh=>.inr ⟨t,rfl,bb,h⟩;have aV:Hid (p t≠(F:Int)->Mj p H F (j+1) z):=λh=>ak.o.no ba h;have aW:Hid (0<=z->Mj p H F (j+1) z):=λh=>by
      obtain ⟨A,-⟩|A:=ak.o
      ·omega
      ·exact .inr A
     have bK:z=-1\/∃u:Nat,z=(u:Int):=ak.o.imp (λh=>h.1) (λ⟨u,h,_⟩=>⟨u,h⟩);have an:=O8 (λN=>bm.o N t ht);clear bc bw ba bb ca a9 a1 Q M ak r3;generalize p t=zt at *;have ab:(zt≠(F:Int)/\(zt==(F:Int))=false)\/(zt=(F:Int)/\(zt==(F:Int))=true/\z=-1)\/(zt=(F:Int)/\(zt==(F:Int))=true/\∃u:Nat,z=(u:Int)/\t<u/\(t:Int)<u)\/(zt=(F:Int)/\(zt==(F:Int))=true/\∃u:Nat,z=(u:Int)/\¬t<u/\¬(t:Int)<u):=by
      by_cases A:zt=(F:Int)
      ·have T:(zt==(F:Int))=true:=ZX A;obtain h3|⟨u,h3⟩:=bK
       ·exact .inr (.inl ⟨A,T,h3⟩)
       ·by_cases h4:t<u
        ·exact .inr (.inr (.inl ⟨A,T,u,h3,h4,ZO⟩))
        ·exact .inr (.inr (.inr ⟨A,T,u,h3,h4,ZO⟩))
      ·exact .inl ⟨A,ZX A⟩
     clear bK;generalize bu:(F:Int)=zg at *;have ch:=O8 bu;clear bu;obtain ⟨Z,c2⟩|⟨Z,c2,rfl⟩|⟨Z,c2,u,rfl,c3,c4⟩|⟨Z,c2,u,rfl,c3,c4⟩:=ab;all_goals
      go_upto_region 17 with(fail)
      clear ck bZ a7 bF
      refine aw 26 (S:=λm=>CA m q 0 (SL ia W ic)/\CA m q 1 (SL (some (AD gb bd)) n ce)/\CA m q 2 (SL la X lc)/\CA m qe 0 (IV t)/\CA m b t (IV zt)/\CA m b y (IV zy)) ZK (⟨s0,s1,s2,s3,s4,s5⟩) (λs=>?_)
      refine aB 0 ?_ [17,4,3,0]
      refine aB 1 ?_ [17,4,3,2,1]
      refine aB 2 ?_ [17,4,3,2]
      clear s s0 s1 s2 s3 s4 s5
      refine aK 3 λK J=>?_
      rw [PW (by rfl)]
      apply aY.o
      refine aO (f:=62) (an.o _) ?_ (λe w4 B=>?_)
      ·clear J;go_simp
      obtain ⟨rfl,aq⟩:=B
      refine ⟨_,rfl,?_⟩
      have ad:Hid (Below wq.heap.size wq w4):=(PF _ wq).drew.trans aq
      clear aq
      have s:=HS.o w4 ad.o
      refine J.o _ _ (λ_=>s) ?_
      clear J K
      first|refine fB 4 ?_|refine aB 4 ?_ [17,4]
      first|refine fB 5 ?_|refine aB 5 ?_ [17,16,15,9,8,5]
      first|refine fB 6 ?_|refine aB 6 ?_ [17,16,15,9,8,7,6]
      first|refine fB 7 ?_|refine aB 7 ?_ [17,16,15,9,8,7]
      first|refine fB 8 ?_|refine aB 8 ?_ [17,16,15,9,8]
      first|refine fB 9 ?_|refine aB 9 ?_ [17,16,15,9]
      first|refine fB 10 ?_|refine aB 10 ?_ [17,16,15,14,13,12,10]
      first|refine fB 11 ?_|refine aB 11 ?_ [17,16,15,14,13,12,11]
      first|refine fB 12 ?_|refine aB 12 ?_ [17,16,15,14,13,12]
      first|refine fB 13 ?_|refine aB 13 ?_ [17,16,15,14,13]
      first|refine fB 14 ?_|refine aB 14 ?_ [17,16,15,14]
      first|refine fB 15 ?_|refine aB 15 ?_ [17,16,15]
      first|refine fB 16 ?_|refine aB 16 ?_ [17,16]
      first|refine fB 17 ?_|refine aB 17 ?_
      first|refine fB 18 ?_|refine aB 18 ?_ [25,20,19,18]
      first|refine fB 19 ?_|refine aB 19 ?_ [25,20,19]
      first|refine fB 20 ?_|refine aB 20 ?_ [25,20]
      first|refine fB 21 ?_|refine aB 21 ?_ [25,24,22,21]
      first|refine fB 22 ?_|refine aB 22 ?_ [25,24,22]
      first|refine fB 23 ?_|refine aB 23 ?_ [25,24,23]
      first|refine fB 24 ?_|refine aB 24 ?_ [25,24]
      first|refine fB 25 ?_|refine aB 25 ?_
      clear s
      refine aK 26 λK J=>?_
      go_simp
      refine J.q ?_
      clear J K
      refine az ZK ?_
      have aS:=O8 (iu bR.o ad.o)
      have r3:=(HS.o w4 ad.o).2.2.2.1
      go_wp2
      go_roundw
      first|exact ⟨j+1,_,ZO,ZN,rfl,aS,O8 (aV.o Z)⟩|exact ⟨j+1,_,ZO,ZN,rfl,aS,O8 (aU.o Z)⟩|exact ⟨j+1,_,ZO,ZN,rfl,aS,O8 (aW.o ZO)⟩
      simp [intOf];omega
    ·obtain rfl:j=d:=ZO;have aC:=ag.o C (PF _ _)
     obtain ⟨u,rfl,a6,bs⟩:∃u:Nat,z=(u:Int)/\(u:Int)∈H/\p u=(F:Int):=by
      obtain ⟨-,h⟩|h:=ak.o
      ·have⟨u,A,T,h3⟩:=au.o.step y F hy bP.o;exact absurd h3 (h u (by rw [PI (Q2 aQ.o),<-ac.o];exact T.2.2))
      ·exact h
     have hu:=aC.inr y hy _ (ZR ac.o a6);have bI:u<n:=ZO;have be:Hid (Own.gn E y u):=⟨by rw [aC.bA];exact hy,by rw [aC.bA];exact bI,ZR ac.o a6⟩;have bO:=O8 bs;have HM:=O8 M.o;have bk:=O8 (gy M.o);have HO:Hid (Sl wr 3 (SL a l c) l ((aE P).map (Value.int .i64))):=by have h:=M.o.1;rw [bk.o]at h;exact h
     have bW:Hid (aE (P++[u])=aE P++[(u:Int)]):=by rw [iz];exact O8 rfl
     have cs:l<=70000:=ZO;clear ak aC a6 bs hu M;go_wp2_with (at_builtin;refine av rfl (.tmp 120) (.tmp 122) 33 rfl 3 i3 (IV 0) 8 QD b3 a9 b7 aA rfl ZD (SL a l c) _ _ rfl HO.o _ rfl rfl ZO ?_;intro g1 Z w5 hs bB bD;have bT:=O8 (ef HM.o bk.o hs bB bD);clear hs bB bD);go_roundg F;case measure=>omega
     case rel=>exact ⟨u,P++[u],_,l+1,Z,rfl,rfl,ZO,bI,by rw [Pk,bS.o];exact O8 rfl,bO,ZR bW.o bT,O8 (bU.o.snoc be.o)⟩
def U0:=@List.length_tail
def xF{P w o a K Q}(s x t)
 (L:o.op=.call {callee:=.builtin .append,args:=#[s,x],argTypes:=#[t,t]})
 (e i z b) (O:P.underlying t=some (.slice e)) (I:P.info? e=some i) (S:i.zero=some z)
 (l:i.size=1) (B:i.bytes=b) (C:z.cells.size=1) (q:1<=b)
 (v n D) (N:a.eval s=v) (p:Sl w e v n D)
 (A m c d) (J:d.length=m) (g:∀j u,d[j]? =some u->w.cell? (A.add j)=some u) (E:∀u∈d,u.oneCell'=true) (R:a.eval x=SL (some A) m c) (f:(n+m)*b<=140737488355328)
 (h:∀r y,Sl y e r (n+m) (D++d)->aj (λk=>v.ownBlock=some k) w y->dQ w v r->K (a.put o.dst r) y):aY P o a w K Q:=by
 constructor
 have⟨r,y,M,F,G,H⟩:=eM (P:=P) w t o.type e i z b O I S l B C q v n D p A m c d J g E f
 unfold Oper.wp execOp
 simp only [L,resolve,invoke,builtin,Rv,R6,Q9,Rm,Pv,PE,N,R,M]
 exact h r y F G H
def pP(w:WD)(E:List (List Int))(n i:Nat)(P:List Nat)(r:Nat->Bool)(g h:Nat)(e:Ending)(d:WD):Prop:=
 e=RT (.tuple #[])/\∃(Q:List Nat)(f b a c:Nat),Trail E i (P++Q) f/\f<n/\r f=true/\Q.length<=n+2/\d.heap[g]? =some (.cells #[SV b a c] 33 (0,0))/\(P++Q).length=a/\
  Sl d 3 (SV b a c) a ((aE (P++Q)).map (Value.int .i64))/\aj (λk=>k=g\/k=h) w d/\(b=h\/w.heap.size<=b)
def Ie(w I c hb g n E l a o P lb r a0 z)(ad:w.heap[I]? =some (.cells #[SN,SV g n n,SN] 55 (0,0)))(hG:eG w (some (AD g 0)) n E)(aG:∀i,i<n->(E.getD i []).length<=16777216)
 (O:w.heap[c]? =some (.cells #[SV l a o] 33 (0,0))) (F:Sl w 3 (SV l a o) a ((aE P).map (Value.int .i64))) (hP:P.length=a) (ae:w.cell? (AD hb 0)=some (SV lb n n)) (hr:dq w (some (AD lb 0)) n r)
 (R:Trail E a0 P z) (hz:z<n) (aC:∃y,y<n/\r y=true/\Own.aZ E z y) (bg:a<=60000) (ax:l≠c):
 CL 64 #[PT I,PT c,PT hb] w (pP w E n a0 P r c l):=by
 obtain ⟨i3,ar,aH,aF,ap⟩:=P6 Tryz.eA
 have hn:=hG.uD
 have aA:=R.cH
 obtain ⟨m,hm⟩:∃m,a=m+1:=⟨a-1,ZO⟩
 have W:=de F
 have bi:IntKind.i64.wrap ((a:Int)-1)=(m:Int):=by have e:(a:Int)-1=(m:Int):=ZO;rw [e];exact Ql _ ZO
 have be:m<=a:=ZO
 have a2:(m:Int)<=(a:Int):=ZO
 have bf:a<=o:=W.1
 have a4:(a:Int)<=(o:Int):=ZO
 have bd:m<=o:=ZO
 have a1:(m:Int)<=(o:Int):=ZO
 have a5:¬o=m:=ZO
 have a9:IntKind.i64.wrap (m:Int)=(m:Int):=Ql _ ZO
 have HM:=O8 hm
 have cl:w.cell? (AD l m)=some (IV (z:Int)):=by rw [Qj (size:=1) F m ZO];have h:=R.last;have e:P.length-1=m:=ZO;rw [e]at h;simp [aE,h]
 have HC:Hid (∀d,BW w d->(d.cell? (AD I 0)=some (SN)/\d.cell? (AD I 1)=some (SV g n n)/\d.cell? (AD I 2)=some (SN))/\d.cell? (AD c 0)=some (SV l a o)/\d.cell? (AD hb 0)=some (SV lb n n)):=λd h=>by have h1:=(h.block I (Pb.1 ad).1).trans ad;have Z:=(h.block c (Pb.1 O).1).trans O;refine ⟨⟨CH h1,CH h1,CH h1⟩,CH Z,(h.cell (O9 _ _ ae)).trans ae⟩
 have aN:Hid (∀d fl fc,BW w d->fl=1->CL 34 #[.agg #[SN,SV g n n,SN],SL (some (AD l m)) fl fc,SV lb n n] d (pM d E n [z] ((List.range n).filter r))):=λd fl fc h e=>by subst e;refine Cv d none 0 0 [] none 0 0 [] (some (AD g 0)) n n E (hG.ag h) ⟨rfl,.inl rfl⟩ ⟨rfl,.inl rfl⟩ ZO ZO aG (some (AD l m)) 1 fc [z] ⟨rfl,.inr ⟨l,m,rfl,λi hi=>?_⟩⟩ (λi hi=>by rw [Pc.1 hi];exact hz) ZO (some (AD lb 0)) n r (hr.ag h);obtain rfl:i=0:=ZO;exact (h.cell (O9 _ _ cl)).trans cl
 have A:=O8 O
 have aT:=O8 F
 have HP:=O8 hP
 have aV:=O8 R
 have aQ:=O8 aC
 have an:=O8 ax
 have aW:=O8 (F.lt l rfl)
 obtain ⟨⟨c0,c1,c2⟩,c3,c4⟩:=HC.o w (PF _ _)
 clear hm ad hG aG O F hP ae hr R aC ax cl W aA
 go_enter func64,ntmps64
 go_upto_region 0 with(fail)
 refine aw 7 (S:=λd=>d.cell? (AD I 0)=some (SN)/\d.cell? (AD I 1)=some (SV g n n)/\d.cell? (AD I 2)=some (SN)/\d.cell? (AD c 0)=some (SV l a o)/\d.cell? (AD hb 0)=some (SV lb n n)) ZK (⟨c0,c1,c2,c3,c4⟩) (λb=>?_)
 refine aB 0 ?_
 refine aB 1 ?_ [5,1]
 refine aB 2 ?_ [5,4,3,2]
 refine aB 3 ?_ [5,4,3]
 refine aB 4 ?_ [5,4]
 refine aB 5 ?_
 refine aB 6 ?_
 clear b c0 c1 c2 c3 c4
 refine aK 7 λK J=>?_
 rw [PW (by rfl)]
 apply aY.o
 refine aO (f:=34) (aN.o w.drew (a-m) (o-m) ((PF _ w).drew) (ZH HM.o)) ?_ (λe H ag=>?_)
 clear J
 go_simp
 obtain ⟨-,-,N⟩|⟨Q,i,z',pa,G,pc,rfl,ah,bc,B,al,hi,aI⟩:=ag
 obtain ⟨y,h1,Z,h3⟩:=aQ.o
 exact absurd h3 (N z (Pc.2 rfl) y (PY.2 ⟨P5.2 h1,Z⟩))
 obtain rfl:=Pc.1 hi
 have aa:BW w H:=(PF _ w).drew.trans B.2.1
 obtain ⟨⟨c0,c1,c2⟩,c3,c4⟩:=HC.o H aa
 have b:=And.intro c0 (And.intro c1 (And.intro c2 (And.intro c3 c4)))
 have bh:=al.cH
 have a7:1<=G:=ZO
 obtain ⟨pb,bj,e,ay⟩:=xw B (n:=G) (by rw [aD];exact ah) ZO
 cases e
 have ba:=O8 B
 have t:=O8 aa
 have X:=O8 ah
 have aU:=O8 al
 have ao:=O8 (PY.1 aI)
 have aP:=O8 ay
 have ab:=Cg B
 clear B aa al aI ay hi ah
 refine ⟨_,rfl,?_⟩
 refine J.o _ _ (λ_=>b) ?_
 clear J K
 refine' aS (i:=8) (v:=_) rfl ZK (λ_ _ _ h=>h) (Or.inl ⟨by rfl,?hyZ8⟩) (by assumption) ?restZ8
 case hyZ8=>(intro w' L;go_simp;(try with_reducible rfl))
 try walk_nrm
 refine' aS (i:=9) (v:=_) rfl ZK (λ_ _ _ h=>h) (Or.inl ⟨by rfl,?hyZ9⟩) (by assumption) ?restZ9
 case hyZ9=>(intro w' L;go_simp;(try with_reducible rfl))
 try walk_nrm
 refine' aS (i:=10) (v:=_) rfl ZK (λ_ _ _ h=>h) (Or.inl ⟨by rfl,?hyZ10⟩) (by assumption) ?restZ10
 case hyZ10=>(intro w' L;go_simp;(try with_reducible rfl))
 try walk_nrm
 refine' aS (i:=11) (v:=_) rfl ZK (λ_ _ _ h=>h) (Or.inl ⟨by rfl,?hyZ11⟩) (by assumption) ?restZ11
 case hyZ11=>(intro w' L;go_simp;(try with_reducible rfl))
 try walk_nrm
 refine' aS (i:=12) (v:=_) rfl ZK (λ_ _ _ h=>h) (Or.inl ⟨by rfl,?hyZ12⟩) (by assumption) ?restZ12
 case hyZ12=>(intro w' L;go_simp;(try with_reducible rfl))
 try walk_nrm
 clear b
 try walk_nrm
 refine az ZK ?_
 have aX:(1:Int)<=(G:Int):=ZO
 have a8:G<=pc:=ab.1
 have aZ:(G:Int)<=(pc:Int):=ZO
 have U:Hid (Sl H.drew 3 (SV l a o) a ((aE P).map (Value.int .i64))):=aT.o.ax (aj.aC (t.o.trans ((PF _ H).drew.mono t.o.size))) (λk e s=>ZI (cF e) aW.o)
 have Y:Hid ((aE Q.tail).length=G-1):=by rw [aD,U0,X.o];exact O8 rfl
 have aL:Hid (∀j u,((aE Q.tail).map (Value.int .i64))[j]? =some u->H.drew.cell? (AD pb (1+j))=some u):=λj u hu=>by
  have h:=aP.o (1+j) u (by rw [<-hu];simp [aE,Nat.add_comm 1 j])
  rw [QK,PU]at h;exact h
 have x:Hid (BW w H.drew):=t.o.trans ((PF _ H).drew.mono t.o.size)
 have bb:Hid (H.drew.frozen? (AD c 0)=false):=Pg ((x.o.block c (Pb.1 A.o).1).trans A.o) 0
 have D:pc=1\/¬pc=1:=Classical.em _
 obtain D|D:=D
 all_goals
  go_upto_region 1 with(fail)
  refine aw 3 (S:=λd=>d.cell? (AD c 0)=some (SV l a o)) ZK (c3) (λb=>?_)
  refine aB 0 ?_
  refine aB 1 ?_ [2,1]
  refine aB 2 ?_
  clear b
  try walk_nrm
  refine aK 3 λK J=>?_
  rw [PW (by rfl)]
  apply aY.o
  first|(refine xF (.tmp 16) (.tmp 18) 33 rfl 3 i3 (IV 0) 8 QD ar aH aF ap rfl ZD (SV l a o) a _ rfl U.o (AD pb 1) (G-1) _ ((aE Q.tail).map (Value.int .i64)) (by rw [PB];exact Y.o) (λj u hu=>by rw [QK];exact aL.o j u hu) (ints_oneCell _ _) rfl ZO (λv6 w6 ai M af=>?_))|(refine xF (.tmp 16) (.tmp 18) 33 rfl 3 i3 (IV 0) 8 QD ar aH aF ap rfl ZD (SV l a o) a _ rfl U.o (AD pb 0) (G-1) _ ((aE Q.tail).map (Value.int .i64)) (by rw [PB];exact Y.o) (λj u hu=>by have Z:=(Po.1 hu).1;rw [PB,Y.o]at Z;omega) (ints_oneCell _ _) rfl ZO (λv6 w6 ai M af=>?_))
  have ak:Sl w6 3 v6 (a+(G-1)) ((aE (P++Q.tail)).map (Value.int .i64)):=by rw [iz,Qg];exact ai
  obtain ⟨a6,c6,rfl,aq⟩:=ak.shape
  obtain ⟨V,rfl,ac,-⟩:=aq 0 (ZH HM.o)
  have N:¬(SV l a o).ownBlock=some c:=λe=>an.o (cF e)
  have C:H.drew.heap[c]? =some (.cells #[SV l a o] 33 (0,0)):=(x.o.block c (Pb.1 A.o).1).trans A.o
  have q:=(M.block c (Pb.1 C).1 N).trans C
  have q6:w6.cell? (AD c 0)=some (SV l a o):=CH q
  have z6:w6.frozen? (AD c 0)=false:=Pg q 0
  have av:V=l\/H.heap.size<=V:=by obtain h|⟨g',h,Z⟩:=af;exact .inl (Qh (h:some V=some l));have e:V=g':=Qh (h:some V=some g');exact .inr (by rw [e];exact Z)
  have aR:=O8 ak
  have aJ:=O8 M
  have aM:=O8 q
  have am:=O8 av
  clear ai ak M af aq ac C q av N
  refine J.o _ _ (λ_=>q6) ?_
  clear J K
  try walk_nrm
  refine aK 4 λK J=>?_
  go_simp
  refine J.q ?_
  clear J K
  refine az ZK ?_
  go_wp2
  refine R9 (Rq ZK ..) rfl ?_
  have a3:c<w.heap.size:=(Pb.1 A.o).1
  have au:aj (λk=>k=c) w6 (w6.setCell (AD c 0) (SV V (a+(G-1)) c6)):=(aj.refl (λk=>k=c) w6).setCell (p:=(AD c 0)) (λ_=>rfl) _
  have ac:¬V=c:=λe=>by obtain h|h:=am.o;exact an.o (by rw [<-h,e]);have:=t.o.size;omega
  refine ⟨rfl,Q.tail,z',V,a+(G-1),c6,aV.o.join aU.o,P5.1 ao.o.1,ao.o.2,by rw [U0,X.o];omega,?_,by rw [Pk,HP.o,U0,X.o],aR.o.ax au (λk e s=>ac ((cF e).trans s)),?_,am.o.imp id (λh=>PG t.o.size h)⟩
  have h:=aM.o
  simp [HC,World.setCell,P7,h]
  exact (((aj.aC x.o).mono (T:=λk=>k=c\/k=l) (λk hk s=>ZO)).then aJ.o (λk _ e=>.inr (cF e).symm)).then au (λk _ e=>.inl e)
section
structure Part (E:List (List Int)) (IN:Nat->Nat) (S n:Nat) (ms:List Nat):Prop where
 lt:∀x∈ms,x<n
 iff:∀x∈ms,∀y,y∈ms↔Own.Scc E x y
 o:∀x∈ms,Own.Br E x x
 iP:∀s,s<S->∃x∈ms,(IN x).testBit s=true
 nodup:ms.Nodup
def JB{E n u v}(f:E.length=n)(d:v∈mx E n u)(x):x∈mx E n u↔Own.Scc E v x:=by have⟨a,b⟩:=PY.1 d;have e:=P5.1 a;have c:Scc.cD E v=(ee (Scc.cD E) n).getD u 0:=Rf b;unfold mx;rw [PY,P5,Qw,<-c,Scc.vE];constructor;rintro ⟨_,h⟩;exact h.symm;intro h;exact ⟨by have:=h.1.lt (by omega:v<E.length);omega,h.symm⟩
def Part.of{E IN S n u}(c:E.length=n)(b:jG E IN S n u=true):Part E IN S n (mx E n u):=by refine ⟨λx a=>AW a,λx a y=>JB c a y,λx a=>((pX c a).1 b).1,λs d=>?_,List.nodup_range.filter _⟩;unfold jG at b;rw [Qk,Qw,BB]at b;exact (A3 IN s _).1 (b.1 s d)
def NL(E E':List (List Int))(ms:List Nat):Prop:=∀i j,Own.gn E' i j↔Own.gn E i j/\i∈ms/\j∈ms
section
variable {E E':List (List Int)} {IN:Nat->Nat} {S n:Nat} {ms:List Nat}
def Part.inner(h:Part E IN S n ms)(f:NL E E' ms){x k}(b:x∈ms)(d:k∈ms):Own.aZ E' x k:=by
 have⟨m,a⟩:=((h.iff x b k).1 d).1;induction m generalizing x with
 |zero=>cases a;exact Own.aZ.refl E' _
 |succ m g=>obtain ⟨y,c,a⟩:=a;have e:y∈ms:=(h.iff x b y).2 ⟨Own.aZ.qM c,Own.aZ.trans ⟨m,a⟩ ((h.iff x b k).1 d).2⟩;exact Own.aZ.Gw ((f x y).2 ⟨c,b,e⟩) (g e a)
def Part.qM(h:Part E IN S n ms)(c:NL E E' ms){x}(a:x∈ms):∃y,Own.gn E' x y:=by have⟨y,b,d⟩:=h.o x a;exact ⟨y,(c x y).2 ⟨b,a,(h.iff x a y).2 ⟨Own.aZ.qM b,d⟩⟩⟩
def mR(E:List (List Int))(ms:List Nat)(i k a:Nat):List Int:=
 if a∈ms.take i then(E.getD a []).filter (λz=>decide (z.toNat∈ms))else if ms[i]? =some a then((E.getD a []).take k).filter (λz=>decide (z.toNat∈ms))else []
def yd{l:List Nat}(h:l.Nodup){i a}(c:l[i]? =some a):a∉l.take i:=λe=>by have⟨j,b⟩:=List.mem_iff_getElem?.1 e;rw [List.getElem?_take]at b;split at b;rename_i d;have f:=(Po.1 c).1;have:=(List.getElem?_inj (i:=j) (j:=i) ZO h).1 (b.trans c.symm);omega;cases b
def GA(j:ms.Nodup){i k a z}(c:ms[i]? =some a)(l:(E.getD a [])[k]? =some z)(b):
 mR E ms i (k+1) b=if z.toNat∈ms/\b=a then mR E ms i k b++[z]else mR E ms i k b:=by
 unfold mR
 by_cases g:b=a
 subst g
 rw [Qa (yd j c),Qa (yd j c),PW c,PW c,List.take_add_one,l,UF]
 by_cases f:z.toNat∈ms
 rw [PW ⟨f,rfl⟩];simp [f]
 rw [Qa (λh=>f h.1)];simp [f]
 rw [Qa (λh:z.toNat∈ms/\b=a=>g h.2)]
 have d:¬ms[i]? =some b:=by rw [c];intro e;cases e;exact g rfl
 rw [Qa d,Qa d]
def Gz(g:ms.Nodup){i a k}(f:ms[i]? =some a)(j:(E.getD a []).length=k)(b):mR E ms (i+1) 0 b=mR E ms i k b:=by
 unfold mR;rw [List.take_add_one,f];by_cases d:b=a;subst d;rw [PW ZS,Qa (yd g f),PW rfl,<-j,SR];rw [Qa (λe:some a=some b=>d (Option.some.inj e).symm),Ri,List.filter_nil];have e:(b∈ms.take i++(some a).toList)↔b∈ms.take i:=by simp [d]
 by_cases c:b∈ms.take i;rw [PW c,PW (e.2 c)];rw [Qa c,Qa (λh=>c (e.1 h))];split<;>rfl
def DO(a):mR E ms 0 0 a=[]:=by unfold mR;rw [Qa ZS];split<;>rfl
def B8(i k a):(mR E ms i k a).length<=(E.getD a []).length:=by unfold mR;split;exact List.length_filter_le _ _;split;refine PG (List.length_filter_le _ _) ?_;rw [QI];exact Nat.min_le_right _ _;exact Pz _
def Gy(h:E'.length=E.length)(m:∀x∈ms,x<E.length)(o:∀a,a<E.length->E'.getD a []=mR E ms ms.length 0 a):NL E E' ms:=by
 intro i j;have d:∀a,a<E.length->E'.getD a []=if a∈ms then(E.getD a []).filter (λz=>decide (z.toNat∈ms))else []:=λa l=>by rw [o a l];unfold mR;rw [SR,List.getElem?_eq_none (Pf _)];split;rfl;rw [Qa ZS]
 unfold Own.gn;rw [h];constructor;rintro ⟨c,e,b⟩;rw [d i c]at b;by_cases k:i∈ms;rw [PW k]at b;have⟨f,g⟩:=PY.1 b;exact ⟨⟨c,e,f⟩,k,ZX g⟩;rw [Qa k]at b;cases b;rintro ⟨⟨c,e,b⟩,f,g⟩;refine ⟨c,e,?_⟩;rw [d i c,PW f];exact PY.2 ⟨b,ZX g⟩
end
end
end Go.Proofs.YtimniinkpipnmaaGreatDoor
