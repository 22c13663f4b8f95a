/- A part of the proof of TopNegates. -/
import Derived.Test.YtimniinkpipnmaaGreatDoorR1
import Derived.Lib.AppendZeros
import Derived.Deep.Light
import Derived.Laws.EntriesVeiled
set_option maxRecDepth 100000
set_option maxHeartbeats 8000000
set_option linter.all false
namespace Go.Proofs.YtimniinkpipnmaaGreatDoor
open Go.RowKit Go.Own
def P2:=@Go.Proofs.Tryz.ntmps102
def Qc:=@Go.Proofs.Tryz.func102
def eA{h w:WD}{a:OA}{n:Nat}{F:List (Int×Int)}{f x:Fm}{t:OA}{k:Nat}(hF:NF h a n F f t)(i:(Fm.aQ f)[k]? =some x)(q:BW h w):
 ∃b c l,a=some (AD b c)/\CA w b (c+k*2) (IV (Fm.aO x).1)/\CA w b (c+k*2+1) (IV l)/\k<n/\∀j,x=Fm.prop j->l=(j:Int):=by
 obtain ⟨g,v⟩:=zx hF.MN i
 have d:=CC hF.MN i
 have y:=hF.ah.1
 obtain ⟨-,u|⟨b,c,e,r⟩⟩:=hF.ah.af q
 omega
 obtain ⟨m,o⟩:=r k (by omega)
 refine ⟨b,c,_,e,by rw [<-d];exact m,o,by omega,λj s=>?_⟩
 subst s
 have p:(F.getD k (0,0)).1=3:=d
 unfold ir at g
 rw [Oa p]at g
 rw [g];rfl
def Iy(Y:WD)(p:Nat)(a:OA)(n c:Nat)(sa:OA)(sc:Nat)(F:List (Int×Int))(f:Fm)(hF:NF Y a n F f sa):
 ∀(x:Fm)(k:Nat),(Fm.aQ f)[k]? =some x->y5 Y p a n c sa sc k x:=by
 intro x
 induction x with
 |tt=>
  intro k u s w U m G h Q
  obtain ⟨b,i,D,rfl,L,cn,P,J⟩:=eA hF u h.o.aM
  change CA w b (i+k*2) (IV 1)at L
  have R:=hF.small
  have C:(k:Int)<(n:Int):=by omega
  have d:BW w (w.alloc (.cells #[IV 1,IV D] 32)):=(Nx _ _).alloc (Nz _) _
  have t:=Nq (h.af d)
  have e0:=h.c0
  rw [show Fm.size Fm.tt=1 from rfl]at Q
  cases s
  all_goals
   have HL:Hid (∀W:Int,CL 132 #[PT p,IV W] (w.alloc (.cells #[IV 1,IV D] 32)) (jS Y p (.slice (some (AD b i)) n c) (.slice sa n sc) (G++[(W,0)]))):=λW=>jY Y _ p _ _ U m G W t.o (by omega)
   clear h hF d u
   go_enter Qc,P2
   go_wp2_with (first|(go_at_call 133;refine (j8 _ _ _ _).mono ?_;rintro e w' ⟨rfl,rfl⟩)|(go_at_call 132;refine (HL.o _).mono ?_;rintro e w2 ⟨rfl,A,T,g⟩;have z:=Nq g;clear g HL))
   go_end0
   exact ⟨rfl,A,T,z.o⟩
 |ff=>
  intro k u s w U m G h Q
  obtain ⟨b,i,D,rfl,L,cn,P,J⟩:=eA hF u h.o.aM
  change CA w b (i+k*2) (IV 2)at L
  have R:=hF.small
  have C:(k:Int)<(n:Int):=by omega
  have d:BW w (w.alloc (.cells #[IV 2,IV D] 32)):=(Nx _ _).alloc (Nz _) _
  have t:=Nq (h.af d)
  have e0:=h.c0
  rw [show Fm.size Fm.ff=1 from rfl]at Q
  cases s
  all_goals
   have HL:Hid (∀W:Int,CL 132 #[PT p,IV W] (w.alloc (.cells #[IV 2,IV D] 32)) (jS Y p (.slice (some (AD b i)) n c) (.slice sa n sc) (G++[(W,0)]))):=λW=>jY Y _ p _ _ U m G W t.o (by omega)
   clear h hF d u
   go_enter Qc,P2
   go_wp2_with (first|(go_at_call 133;refine (j8 _ _ _ _).mono ?_;rintro e w' ⟨rfl,rfl⟩)|(go_at_call 132;refine (HL.o _).mono ?_;rintro e w2 ⟨rfl,A,T,g⟩;have z:=Nq g;clear g HL))
   go_end0
   exact ⟨rfl,A,T,z.o⟩
 |prop j=>
  intro k u s w U m G h Q
  obtain ⟨b,i,D,rfl,L,cn,P,J⟩:=eA hF u h.o.aM
  change CA w b (i+k*2) (IV 3)at L
  have R:=hF.small
  have C:(k:Int)<(n:Int):=by omega
  have d:BW w (w.alloc (.cells #[IV 3,IV D] 32)):=(Nx _ _).alloc (Nz _) _
  have t:=Nq (h.af d)
  have e0:=h.c0
  obtain rfl:=J j rfl
  obtain ⟨oa,oc,ev⟩:=bw h.o.cK
  subst ev
  rw [show Fm.size (Fm.prop j)=1 from rfl]at Q
  have hQ:(w.alloc (.cells #[IV 3,IV j] 32)).cell? (AD w.heap.size 1)=some (IV j):=NV (w:=w) _ 32 w.heap.size 1 rfl
  have ah:Hid ((Value.slice oa m oc).ownBlock≠some w.heap.size):=λe=>by have:=(Tk h.o.cK _ e).2;omega
  have ac:Hid (∀w3 X m3,NW Y w3 p (.slice (some (AD b i)) n c) (.slice sa n sc) X m3 (G++[(3,(j:Int))])->CL 132 #[PT p,IV 4] w3 (jS Y p (.slice (some (AD b i)) n c) (.slice sa n sc) ((G++[(3,(j:Int))])++[(4,0)]))):=λw3 X m3 hw=>by have h1:=fI hw;have h2:=fI h;rw [NH]at h1;simp only [Oz]at h1;exact jY Y w3 p _ _ X m3 _ 4 hw (by omega)
  clear h hF d u J
  cases s
  go_enter Qc,P2
  go_upto_region 16 with(fail)
  clear L cn e0
  generalize w.alloc (.cells #[IV 3,IV j] 32)=Z at *
  generalize w.heap.size=q at *
  have q1:=t.o.c2
  have q2:=hQ
  clear hQ
  refine av 10 (S:=λw'=>CA w' p 2 (.slice oa m oc)/\CA w' q 1 (IV j)) (by kernel_rfl) (⟨q1,q2⟩) (λN=>?_)
  refine' az 0 ?_
  refine' az 1 ?_
  refine' az 2 ?_
  refine' az 3 ?_
  refine' az 4 ?_
  refine' az 5 ?_
  refine' az 6 ?_
  refine' az 7 ?_
  have V:Hid (BW Z ((Z.alloc (.cells #[IV 3,IV j] 32)).drew)):=((Nx _ _).alloc (Nz _) _).drew
  have aa:=(V.o.cell (Nr _ _ q1)).trans q1
  have ab:=(V.o.cell (Nr _ _ q2)).trans q2
  have ad:Hid (bB ((Z.alloc (.cells #[IV 3,IV j] 32)).drew) (some (AD Z.heap.size 0)) 1 [(3,(j:Int))]):=bN.xF Z 3 (j:Int)
  have M:=Nq (t.o.af V.o)
  refine aI 8 λK E=>?_
  go_simp
  refine E.o _ _ (λ_=>⟨aa,ab⟩) ?_
  clear E K
  try walk_nrm
  clear N q1 q2 V
  generalize ((Z.alloc (.cells #[IV 3,IV j] 32)).drew)=w5 at *
  generalize Z.heap.size=h5 at *
  refine aI 9 λK E=>?_
  rw [Oa (by rfl)]
  apply aY.o
  refine wu (.tmp 49) (.tmp 53) rfl (.slice oa m oc) m G rfl M.o.o (AD h5 0) 1 1 [(3,(j:Int))] rfl ad.o (by omega) (λa6 c6 w6 ae O af=>?_)
  have q1:=O.aq aa M.o.ne
  have q2:=O.aq ab (λe=>ah.o e)
  have ag:=Nq (M.o.dB ae O af)
  have f6:=M.o.MM O
  clear ae O af aa ab M ad
  have N:=And.intro q1 q2
  refine E.o _ _ (λ_=>⟨q1,q2⟩) ?_
  clear E K
  try walk_nrm
  refine aI 10 λK E=>?_
  go_simp
  refine E.o _ _ (λe=>nomatch e) ?_
  clear E K
  try walk_nrm
  refine aI 11 λK E=>?_
  go_simp
  refine E.o _ _ (λe=>nomatch e) ?_
  clear E K
  try walk_nrm
  refine aI 12 λK E=>?_
  go_simp
  refine E.o _ _ (λe=>nomatch e) ?_
  clear E K
  try walk_nrm
  refine ay (by kernel_rfl) ?_
  generalize w6.setCell (AD p 2) (.slice a6 (m+1) c6)=w7 at *
  go_wp2_with fail
  go_end0
  exact ⟨rfl,_,_,ag.o⟩
  go_enter Qc,P2
  go_upto_region 16 with(fail)
  clear L cn e0
  generalize w.alloc (.cells #[IV 3,IV j] 32)=Z at *
  generalize w.heap.size=q at *
  have q1:=t.o.c2
  have q2:=hQ
  clear hQ
  refine av 10 (S:=λw'=>CA w' p 2 (.slice oa m oc)/\CA w' q 1 (IV j)) (by kernel_rfl) (⟨q1,q2⟩) (λN=>?_)
  refine' az 0 ?_
  refine' az 1 ?_
  refine' az 2 ?_
  refine' az 3 ?_
  refine' az 4 ?_
  refine' az 5 ?_
  refine' az 6 ?_
  refine' az 7 ?_
  have V:Hid (BW Z ((Z.alloc (.cells #[IV 3,IV j] 32)).drew)):=((Nx _ _).alloc (Nz _) _).drew
  have aa:=(V.o.cell (Nr _ _ q1)).trans q1
  have ab:=(V.o.cell (Nr _ _ q2)).trans q2
  have ad:Hid (bB ((Z.alloc (.cells #[IV 3,IV j] 32)).drew) (some (AD Z.heap.size 0)) 1 [(3,(j:Int))]):=bN.xF Z 3 (j:Int)
  have M:=Nq (t.o.af V.o)
  refine aI 8 λK E=>?_
  go_simp
  refine E.o _ _ (λ_=>⟨aa,ab⟩) ?_
  clear E K
  try walk_nrm
  clear N q1 q2 V
  generalize ((Z.alloc (.cells #[IV 3,IV j] 32)).drew)=w5 at *
  generalize Z.heap.size=h5 at *
  refine aI 9 λK E=>?_
  rw [Oa (by rfl)]
  apply aY.o
  refine wu (.tmp 49) (.tmp 53) rfl (.slice oa m oc) m G rfl M.o.o (AD h5 0) 1 1 [(3,(j:Int))] rfl ad.o (by omega) (λa6 c6 w6 ae O af=>?_)
  have q1:=O.aq aa M.o.ne
  have q2:=O.aq ab (λe=>ah.o e)
  have ag:=Nq (M.o.dB ae O af)
  have f6:=M.o.MM O
  clear ae O af aa ab M ad
  have N:=And.intro q1 q2
  refine E.o _ _ (λ_=>⟨q1,q2⟩) ?_
  clear E K
  try walk_nrm
  refine aI 10 λK E=>?_
  go_simp
  refine E.o _ _ (λe=>nomatch e) ?_
  clear E K
  try walk_nrm
  refine aI 11 λK E=>?_
  go_simp
  refine E.o _ _ (λe=>nomatch e) ?_
  clear E K
  try walk_nrm
  refine aI 12 λK E=>?_
  go_simp
  refine E.o _ _ (λe=>nomatch e) ?_
  clear E K
  try walk_nrm
  refine ay (by kernel_rfl) ?_
  generalize w6.setCell (AD p 2) (.slice a6 (m+1) c6)=w7 at *
  go_wp2_with (go_at_call 132;refine (ac.o w7 _ _ ag.o).mono ?_;rintro e w8 ⟨rfl,A,T,g⟩;have z:=Nq g;clear g ac)
  go_end0
  exact ⟨rfl,A,T,by have:=z.o;rw [Ov]at this;exact this⟩
 |neg y ih=>
  intro k u s w U m G h Q
  obtain ⟨B,hy⟩:=Fm.fR Fm.One.neg f k u
  obtain ⟨b,i,D,rfl,L,cn,P,J⟩:=eA hF u h.o.aM
  change CA w b (i+k*2) (IV 4)at L
  have R:=hF.small
  have C:(k:Int)<(n:Int):=by omega
  have d:BW w (w.alloc (.cells #[IV 4,IV D] 32)):=(Nx _ _).alloc (Nz _) _
  have t:=Nq (h.af d)
  have e0:=h.c0
  rw [Fm.ij]at Q
  obtain ⟨k',rfl⟩:∃k',k=k'+1:=⟨k-1,by omega⟩
  have ek:k'+1-1=k':=by omega
  rw [ek]at hy
  have o:=Nq (ih _ hy (!s) (w.alloc (.cells #[IV 4,IV D] 32)) U m G t.o (by omega))
  clear h hF d u ih hy B ek
  cases s
  all_goals
   go_enter Qc,P2
   go_wp2_with (go_at_call 102;refine o.o.mono ?_;rintro e w2 ⟨rfl,A,T,g⟩;have z:=Nq g;clear g o)
   go_end0
   exact ⟨rfl,A,T,z.o⟩
 |cM y ih=>
  intro k u s w U m G h Q
  obtain ⟨B,hy⟩:=Fm.fR Fm.One.cM f k u
  obtain ⟨b,i,D,rfl,L,cn,P,J⟩:=eA hF u h.o.aM
  change CA w b (i+k*2) (IV 8)at L
  have R:=hF.small
  have C:(k:Int)<(n:Int):=by omega
  have d:BW w (w.alloc (.cells #[IV 8,IV D] 32)):=(Nx _ _).alloc (Nz _) _
  have t:=Nq (h.af d)
  have e0:=h.c0
  rw [Fm.eW]at Q
  obtain ⟨k',rfl⟩:∃k',k=k'+1:=⟨k-1,by omega⟩
  have ek:k'+1-1=k':=by omega
  rw [ek]at hy
  have o:=Nq (ih _ hy s (w.alloc (.cells #[IV 8,IV D] 32)) U m G t.o (by omega))
  have ak:=fI h
  have al:=Fm.mX y s
  have ac:Hid (∀w3 X m3,NW Y w3 p (.slice (some (AD b i)) n c) (.slice sa n sc) X m3 (G++Fm.enc (Fm.et s y))->CL 132 #[PT p,IV 8] w3 (jS Y p (.slice (some (AD b i)) n c) (.slice sa n sc) ((G++Fm.enc (Fm.et s y))++[(8,0)]))):=λw3 X m3 hw=>by have h1:=fI hw;rw [NH,Fm.de]at h1;exact jY Y w3 p _ _ X m3 _ 8 hw (by omega)
  have v:Hid (Fm.enc (Fm.et s (Fm.cM y))=Fm.enc (Fm.et s y)++[(8,0)]):=Fm.nC Fm.One.cM
  rw [v.o]
  clear h hF d u ih hy B ek ak al v
  go_enter Qc,P2
  go_wp2_with (first|(go_at_call 102;refine o.o.mono ?_;rintro e w2 ⟨rfl,A,T,g⟩;have z:=Nq g;clear g o)|(go_at_call 132;refine (ac.o w2 _ _ z.o).mono ?_;rintro e w8 ⟨rfl,X,m3,ai⟩;have aj:=Nq ai;clear ai ac))
  go_end0
  exact ⟨rfl,X,m3,by have:=aj.o;rw [Ov]at this;exact this⟩
 |and l r H I=>
  intro k u s w U m G h Q
  obtain ⟨B,hr,hl⟩:=Fm.dL Fm.gC.and f k u
  obtain ⟨b,i,D,rfl,L,cn,P,J⟩:=eA hF u h.o.aM
  change CA w b (i+k*2) (IV 5)at L
  have R:=hF.small
  have C:(k:Int)<(n:Int):=by omega
  have d:BW w (w.alloc (.cells #[IV 5,IV D] 32)):=(Nx _ _).alloc (Nz _) _
  have t:=Nq (h.af d)
  have e0:=h.c0
  have o:=Nq λ(W:Int)=>mK Y (w.alloc (.cells #[IV 5,IV D] 32)) p _ n c sa sc F f _ l r k s s W U m G hF Fm.gC.and u (H _ hl) (I _ hr) t.o Q
  have v:Hid (Fm.enc (Fm.et s (Fm.and l r))=Fm.enc (Fm.et s l)++(Fm.enc (Fm.et s r)++[((if s then 6 else 5:Int),0)])):=by show _=_;cases s<;>exact Fm.gx (by constructor)
  rw [v.o]
  clear h hF d u H I hr hl B v
  cases s
  all_goals
   go_enter Qc,P2
   go_wp2_with (first|(go_at_call 133;refine (j8 _ _ _ _).mono ?_;rintro e w' ⟨rfl,rfl⟩)|(go_at_call 134;refine (o.o _).mono ?_;rintro e w2 ⟨rfl,A,T,g⟩;have z:=Nq g;clear g o))
   go_end0
   exact ⟨rfl,A,T,z.o⟩
 |or l r H I=>
  intro k u s w U m G h Q
  obtain ⟨B,hr,hl⟩:=Fm.dL Fm.gC.or f k u
  obtain ⟨b,i,D,rfl,L,cn,P,J⟩:=eA hF u h.o.aM
  change CA w b (i+k*2) (IV 6)at L
  have R:=hF.small
  have C:(k:Int)<(n:Int):=by omega
  have d:BW w (w.alloc (.cells #[IV 6,IV D] 32)):=(Nx _ _).alloc (Nz _) _
  have t:=Nq (h.af d)
  have e0:=h.c0
  have o:=Nq λ(W:Int)=>mK Y (w.alloc (.cells #[IV 6,IV D] 32)) p _ n c sa sc F f _ l r k s s W U m G hF Fm.gC.or u (H _ hl) (I _ hr) t.o Q
  have v:Hid (Fm.enc (Fm.et s (Fm.or l r))=Fm.enc (Fm.et s l)++(Fm.enc (Fm.et s r)++[((if s then 5 else 6:Int),0)])):=by show _=_;cases s<;>exact Fm.gx (by constructor)
  rw [v.o]
  clear h hF d u H I hr hl B v
  cases s
  all_goals
   go_enter Qc,P2
   go_wp2_with (first|(go_at_call 133;refine (j8 _ _ _ _).mono ?_;rintro e w' ⟨rfl,rfl⟩)|(go_at_call 134;refine (o.o _).mono ?_;rintro e w2 ⟨rfl,A,T,g⟩;have z:=Nq g;clear g o))
   go_end0
   exact ⟨rfl,A,T,z.o⟩
 |imp l r H I=>
  intro k u s w U m G h Q
  obtain ⟨B,hr,hl⟩:=Fm.dL Fm.gC.imp f k u
  obtain ⟨b,i,D,rfl,L,cn,P,J⟩:=eA hF u h.o.aM
  change CA w b (i+k*2) (IV 7)at L
  have R:=hF.small
  have C:(k:Int)<(n:Int):=by omega
  have d:BW w (w.alloc (.cells #[IV 7,IV D] 32)):=(Nx _ _).alloc (Nz _) _
  have t:=Nq (h.af d)
  have e0:=h.c0
  have o:=Nq λ(W:Int)=>mK Y (w.alloc (.cells #[IV 7,IV D] 32)) p _ n c sa sc F f _ l r k (!s) s W U m G hF Fm.gC.imp u (H _ hl) (I _ hr) t.o Q
  have v:Hid (Fm.enc (Fm.et s (Fm.imp l r))=Fm.enc (Fm.et (!s) l)++(Fm.enc (Fm.et s r)++[((if s then 5 else 6:Int),0)])):=by show _=_;cases s<;>exact Fm.gx (by constructor)
  rw [v.o]
  clear h hF d u H I hr hl B v
  cases s
  all_goals
   go_enter Qc,P2
   go_wp2_with (first|(go_at_call 133;refine (j8 _ _ _ _).mono ?_;rintro e w' ⟨rfl,rfl⟩)|(go_at_call 134;refine (o.o _).mono ?_;rintro e w2 ⟨rfl,A,T,g⟩;have z:=Nq g;clear g o))
   go_end0
   exact ⟨rfl,A,T,z.o⟩
 |dw l r H I=>
  intro k u s w U m G h Q
  obtain ⟨B,hr,hl⟩:=Fm.dL Fm.gC.dw f k u
  obtain ⟨b,i,D,rfl,L,cn,P,J⟩:=eA hF u h.o.aM
  change CA w b (i+k*2) (IV 9)at L
  have R:=hF.small
  have C:(k:Int)<(n:Int):=by omega
  have d:BW w (w.alloc (.cells #[IV 9,IV D] 32)):=(Nx _ _).alloc (Nz _) _
  have t:=Nq (h.af d)
  have e0:=h.c0
  have o:=Nq λ(W:Int)=>mK Y (w.alloc (.cells #[IV 9,IV D] 32)) p _ n c sa sc F f _ l r k s s W U m G hF Fm.gC.dw u (H _ hl) (I _ hr) t.o Q
  have v:Hid (Fm.enc (Fm.et s (Fm.dw l r))=Fm.enc (Fm.et s l)++(Fm.enc (Fm.et s r)++[((if s then 10 else 9:Int),0)])):=by show _=_;cases s<;>exact Fm.gx (by constructor)
  rw [v.o]
  clear h hF d u H I hr hl B v
  cases s
  all_goals
   go_enter Qc,P2
   go_wp2_with (first|(go_at_call 133;refine (j8 _ _ _ _).mono ?_;rintro e w' ⟨rfl,rfl⟩)|(go_at_call 134;refine (o.o _).mono ?_;rintro e w2 ⟨rfl,A,T,g⟩;have z:=Nq g;clear g o))
   go_end0
   exact ⟨rfl,A,T,z.o⟩
 |rel l r H I=>
  intro k u s w U m G h Q
  obtain ⟨B,hr,hl⟩:=Fm.dL Fm.gC.rel f k u
  obtain ⟨b,i,D,rfl,L,cn,P,J⟩:=eA hF u h.o.aM
  change CA w b (i+k*2) (IV 10)at L
  have R:=hF.small
  have C:(k:Int)<(n:Int):=by omega
  have d:BW w (w.alloc (.cells #[IV 10,IV D] 32)):=(Nx _ _).alloc (Nz _) _
  have t:=Nq (h.af d)
  have e0:=h.c0
  have o:=Nq λ(W:Int)=>mK Y (w.alloc (.cells #[IV 10,IV D] 32)) p _ n c sa sc F f _ l r k s s W U m G hF Fm.gC.rel u (H _ hl) (I _ hr) t.o Q
  have v:Hid (Fm.enc (Fm.et s (Fm.rel l r))=Fm.enc (Fm.et s l)++(Fm.enc (Fm.et s r)++[((if s then 9 else 10:Int),0)])):=by show _=_;cases s<;>exact Fm.gx (by constructor)
  rw [v.o]
  clear h hF d u H I hr hl B v
  cases s
  all_goals
   go_enter Qc,P2
   go_wp2_with (first|(go_at_call 133;refine (j8 _ _ _ _).mono ?_;rintro e w' ⟨rfl,rfl⟩)|(go_at_call 134;refine (o.o _).mono ?_;rintro e w2 ⟨rfl,A,T,g⟩;have z:=Nq g;clear g o))
   go_end0
   exact ⟨rfl,A,T,z.o⟩
 |fin y ih=>
  intro k u s w U m G h Q
  obtain ⟨B,hy⟩:=Fm.fR Fm.One.fin f k u
  obtain ⟨b,i,D,rfl,L,cn,P,J⟩:=eA hF u h.o.aM
  change CA w b (i+k*2) (IV 11)at L
  have R:=hF.small
  have C:(k:Int)<(n:Int):=by omega
  have d:BW w (w.alloc (.cells #[IV 11,IV D] 32)):=(Nx _ _).alloc (Nz _) _
  have t:=Nq (h.af d)
  have e0:=h.c0
  rw [Fm.mZ]at Q
  have o:=Nq (AJ Y (w.alloc (.cells #[IV 11,IV D] 32)) p _ n c sa sc y y k s (!s) U m G B (by omega) (ih _ hy) t.o (by omega))
  have v:Hid (Fm.enc (Fm.et s (Fm.fin y))=[((if(!s)then 1 else 2:Int),0)]++(Fm.enc (Fm.et s y)++[((if(!s)then 9 else 10:Int),0)])):=by
   show _=_;cases s
   exact Fm.gx (a:=.tt) Fm.gC.dw;exact Fm.gx (a:=.ff) Fm.gC.rel
  rw [v.o]
  clear h hF d u ih hy B v
  cases s
  all_goals
   go_enter Qc,P2
   go_wp2_with (go_at_call 135;refine o.o.mono ?_;rintro e w2 ⟨rfl,A,T,g⟩;have z:=Nq g;clear g o)
   go_end0
   exact ⟨rfl,A,T,z.o⟩
 |ep y ih=>
  intro k u s w U m G h Q
  obtain ⟨B,hy⟩:=Fm.fR Fm.One.ep f k u
  obtain ⟨b,i,D,rfl,L,cn,P,J⟩:=eA hF u h.o.aM
  change CA w b (i+k*2) (IV 12)at L
  have R:=hF.small
  have C:(k:Int)<(n:Int):=by omega
  have d:BW w (w.alloc (.cells #[IV 12,IV D] 32)):=(Nx _ _).alloc (Nz _) _
  have t:=Nq (h.af d)
  have e0:=h.c0
  rw [Fm.lJ]at Q
  have o:=Nq (AJ Y (w.alloc (.cells #[IV 12,IV D] 32)) p _ n c sa sc y y k s s U m G B (by omega) (ih _ hy) t.o (by omega))
  have v:Hid (Fm.enc (Fm.et s (Fm.ep y))=[((if s then 1 else 2:Int),0)]++(Fm.enc (Fm.et s y)++[((if s then 9 else 10:Int),0)])):=by
   show _=_;cases s
   exact Fm.gx (a:=.ff) Fm.gC.rel;exact Fm.gx (a:=.tt) Fm.gC.dw
  rw [v.o]
  clear h hF d u ih hy B v
  cases s
  all_goals
   go_enter Qc,P2
   go_wp2_with (go_at_call 135;refine o.o.mono ?_;rintro e w2 ⟨rfl,A,T,g⟩;have z:=Nq g;clear g o)
   go_end0
   exact ⟨rfl,A,T,z.o⟩
def Q6:=@List.map_congr_left
def RH:=@List.map_map
def fA{f:Fm}(h:dV f):jr (Fm.enc f) f:=by refine ⟨?_,h⟩;unfold Fm.enc;rw [RH];refine Q6 λx _=>?_;show ir (Fm.aO x)=Fm.aO x;cases x<;>simp [ir,Fm.aO]
def dt{a b f:Fm}(h:Fm.gC a b f)(d:dV a)(g:dV b):dV f:=λx c n e=>by rw [h.aQ]at c;rcases NY.1 c with c|c;exact d x c n e;rcases NY.1 c with c|c;exact g x c n e;rw [Nv]at c;subst c;subst e;cases h
def lZ{a f:Fm}(h:Fm.One a f)(c:dV a):dV f:=λx b n e=>by rw [h.aQ]at b;rcases NY.1 b with b|b;exact c x b n e;rw [Nv]at b;subst b;subst e;cases h
def gj{a f:Fm}(h:Fm.One a f)(b:dV f):dV a:=λx c n e=>b x (by rw [h.aQ];exact Oo _ c) n e
def fB{a b f:Fm}(h:Fm.gC a b f)(d:dV f):dV a/\dV b:=⟨λx c n e=>d x (by rw [h.aQ];exact Oo _ c) n e,λx c n e=>d x (by rw [h.aQ];exact OO _ (Oo _ c)) n e⟩
def wh:dV .tt:=λx a n e=>by simp [Fm.aQ]at a;subst a;cases e
def we:dV .ff:=λx a n e=>by simp [Fm.aQ]at a;subst a;cases e
def Ke{f:Fm}:dV f->∀s,dV (Fm.et s f):=by
 induction f with
 |tt|ff=>intro _ s;cases s<;>first|exact wh|exact we
 |prop n=>intro h s;cases s;exact h;exact lZ .neg h
 |neg a i=>intro h s;exact i (gj .neg h) _
 |cM a i=>intro h s;exact lZ .cM (i (gj .cM h) s)
 |fin a i=>
  intro h s;have j:=i (gj .fin h) s;cases s
  exact dt .dw wh j;exact dt .rel we j
 |ep a i=>
  intro h s;have j:=i (gj .ep h) s;cases s
  exact dt .rel we j;exact dt .dw wh j
 |and a b c d=>
  intro h s;obtain ⟨e,g⟩:=fB .and h;cases s
  exact dt .and (c e _) (d g _);exact dt .or (c e _) (d g _)
 |or a b c d=>
  intro h s;obtain ⟨e,g⟩:=fB .or h;cases s
  exact dt .or (c e _) (d g _);exact dt .and (c e _) (d g _)
 |imp a b c d=>
  intro h s;obtain ⟨e,g⟩:=fB .imp h;cases s
  exact dt .or (c e _) (d g _);exact dt .and (c e _) (d g _)
 |dw a b c d=>
  intro h s;obtain ⟨e,g⟩:=fB .dw h;cases s
  exact dt .dw (c e _) (d g _);exact dt .rel (c e _) (d g _)
 |rel a b c d=>
  intro h s;obtain ⟨e,g⟩:=fB .rel h;cases s
  exact dt .rel (c e _) (d g _);exact dt .dw (c e _) (d g _)
def Hd(a:OA)(n c:Nat)(F:List (Int×Int))(f:Fm)(s:Bool)(w:WD)(hF:bB w a n F)(I:n<=100000)(q:jr F f):
 CL 71 #[.slice a n c,.bool s] w λe E=>∃v m x,e=RT (.slice v m x)/\bN w E (.slice v m x) m (Fm.enc (Fm.et s f)):=by
 have z:=Nq (kZ a n c F f w hF (by omega) q)
 have p:Fm.size f=n:=(pj q).symm.trans hF.1
 have l:=Fm.bF f
 have J:((n:Int)==0)=false:=NC.2 (by omega)
 have K:(n==0)=false:=NC.2 (by omega)
 have i:Hid (∀b d g,aE .i64 3 w b (.slice d n g) (kL 0 f)->CL 102 #[PT b.heap.size,IV ((n-1:Nat):Int),.bool s] (b.alloc (.cells #[.slice a n c,.slice d n g,SN] 145)) (jS b b.heap.size (.slice a n c) (.slice d n g) ([]++Fm.enc (Fm.et s f)))/\
  (b.alloc (.cells #[.slice a n c,.slice d n g,SN] 145)).cell? (AD b.heap.size 1)=some (.slice d n g)):=λb d g j=>
  ⟨Iy b b.heap.size a n c d g F f ⟨hF.af (aZ j),q,cN j,by omega⟩ f (n-1) (by rw [<-p];exact Fm.cL f) s _ _ 0 [] (NW.aK b _ _) (by omega),NV (w:=b) _ 145 b.heap.size 1 rfl⟩
 have o:(n:Int)-1=((n-1:Nat):Int):=by omega
 clear hF q p l
 go_enter Tryz.func71,Tryz.ntmps71
 go_upto_region 2 with(go_at_call 72;refine z.o.mono ?_;rintro e b ⟨d,g,rfl,j⟩;have t:=Nq j;clear j)
 obtain ⟨k,G⟩:=i.o b d g t.o
 have u:=Nq k
 clear k i
 obtain ⟨h,r⟩:∃h,n=h+1:=⟨n-1,by omega⟩
 subst r
 have y:h+1-1=h:=by omega
 rw [y]at u
 clear y o
 generalize b.alloc (.cells #[.slice a (h+1) c,.slice d (h+1) g,SN] 145)=M at *
 go_wp2_with (go_at_call 102;refine u.o.mono ?_;rintro e N ⟨rfl,L,m,hw⟩;have A:=Nq hw;have H:=hw.c2;obtain ⟨C,D,B⟩:=bw hw.o.cK;subst B;clear hw)
 go_ret
 have:=A.o.o.from (aZ t.o)
 rw [PU]at this
 exact ⟨C,m,D,rfl,this⟩
def FJ(a:OA)(n c:Nat)(F:List (Int×Int))(f:Fm)(w:WD)(hF:bB w a n F)(k:n<=100000)(g:jr F f):
 CL 39 #[.slice a n c] w λe l=>∃b m d,e=RT (.slice b m d)/\bN w l (.slice b m d) m (Fm.enc (Fm.et false f)):=by
 have i:=Nq (Hd a n c F f false w hF k g)
 clear hF g
 go_enter Tryz.func39,Tryz.ntmps39
 go_wp2_with (go_at_call 71;refine i.o.mono ?_;rintro e o ⟨b,m,d,rfl,h⟩;have j:=Nq h;clear h)
 go_ret
 exact ⟨b,m,d,rfl,j.o⟩
def Q4:=@Nat.zero_mul
def RN:=@Nat.add_sub_cancel
def RU:=@Go.Proofs.Tryz.ntmps190
def Se:=@Go.Proofs.Tryz.func190
def JO(a:OA)(n c:Nat)(F:List (Int×Int))(b:OA)(m d:Nat)(G:List (Int×Int))(w:WD)(hF:bB w a n F)(C:bB w b m G)(hn:n<=4611686018427387903)(hm:m<=4611686018427387903):
 CL 189 #[.slice a n c,.slice b m d] w λe Y=>e=RT (.bool (decide (F=G)))/\BW w Y:=by
 by_cases g:n=m
 ·subst g;have L:=Nq hF
  have P:=Nq C;clear hF C;go_enter Tryz.func189,Tryz.ntmps189;go_wp2;go_loopw [13] (λx wr=>∃k:Nat,k<=n/\x=IV k/\Hid (BW w wr)/\Hid (∀i,i<k->F.getD i (0,0)=G.getD i (0,0))) (λx _=>n-(intOf x).toNat);exact ⟨0,NS _,rfl,Nq (Nx _ _),Nq λi X=>by omega⟩;obtain ⟨k,Z,rfl,q,S⟩:=hrel;by_cases z:k<n
  ·have T:(k:Int)<(n:Int):=by omega
   obtain ⟨-,V|⟨o,r,rfl,u⟩⟩:=L.o.af q.o
   ·omega
   obtain ⟨-,V|⟨p,s,rfl,v⟩⟩:=P.o.af q.o
   ·omega
   obtain ⟨D,E⟩:=u k z;obtain ⟨H,I⟩:=v k z;clear u v;obtain ⟨x,N⟩:=EX (F.getD k (0,0));obtain ⟨y,O⟩:=EX (G.getD k (0,0));have Q:=Nq N;have R:=Nq O;rw [N]at D E;rw [O]at H I;clear N O;obtain ⟨f,t⟩:=x;obtain ⟨J,K⟩:=y;by_cases j:f=J/\t=K
   ·obtain ⟨rfl,rfl⟩:=j;go_upto_region 6 with(fail)
    go_region_held3 (λW=>CA W o (r+k*2) (IV f)/\CA W o (r+k*2+1) (IV t)/\CA W p (s+k*2) (IV f)/\CA W p (s+k*2+1) (IV t))
     (exact ⟨D,E,H,I⟩)
     (fail)
    go_wp2_with fail;go_roundw;case rel=>exact ⟨k+1,by omega,by go_num,Nq q.o.drew,Nq λi X=>by
     by_cases h:i=k
     ·subst h;rw [Q.o,R.o]
     ·exact S.o i (by omega)⟩
    case measure=>simp [intOf];omega
   ·have l:Hid (decide (F=G)=false):=NX (λe=>j (by have:=Q.o;rw [e,R.o]at this;injection this with B M;exact ⟨B.symm,M.symm⟩));by_cases A:f=J
    ·subst A;have U:(t==K)=false:=NC.2 (λe=>j ⟨rfl,e⟩)
     go_upto_region 6 with(fail);go_region_held3 (λW=>CA W o (r+k*2) (IV f)/\CA W o (r+k*2+1) (IV t)/\CA W p (s+k*2) (IV f)/\CA W p (s+k*2+1) (IV K))
      (exact ⟨D,E,H,I⟩)
      (fail)
     go_wp2_with fail;go_ret;exact ⟨by rw [l.o];rfl,q.o.drew⟩
    ·have U:(f==J)=false:=NC.2 A;go_upto_region 6 with(fail)
     go_region_held3 (λW=>CA W o (r+k*2) (IV f)/\CA W o (r+k*2+1) (IV t)/\CA W p (s+k*2) (IV J)/\CA W p (s+k*2+1) (IV K))
      (exact ⟨D,E,H,I⟩)
      (fail)
     go_wp2_with fail;go_ret;exact ⟨by rw [l.o];rfl,q.o.drew⟩
  ·obtain rfl:k=n:=by omega
   go_wp2_with fail;go_ret;have l:decide (F=G)=true:=N6 (PD (by rw [L.o.1,P.o.1]) λi B M=>by have:=S.o i (by rw [<-L.o.1];exact B);simpa [Nw,B,M]using this)
   exact ⟨by rw [l];rfl,q.o⟩
 ·have U:((n:Int)==(m:Int))=false:=NC.2 (by omega);have t1:(n==m)=false:=NC.2 g
  have l:Hid (decide (F=G)=false):=NX (λe=>g (by rw [<-hF.1,<-C.1,e]));clear hF C;go_enter Tryz.func189,Tryz.ntmps189;go_wp2;go_ret;exact ⟨by rw [l.o];rfl,Nx _ _⟩
def JP(a:OA)(n c:Nat)(F:List (Int×Int))(b:OA)(m d:Nat)(G:List (Int×Int))(w:WD)(hF:bB w a n F)(C:bB w b m G)(hn:n<=4611686018427387903)(hm:m<=4611686018427387903):
 CL 74 #[.slice a n c,.slice b m d] w λe Y=>e=RT (.bool (decide (F=G)))/\BW w Y:=by
 by_cases g:n=m
 ·subst g;have L:=Nq hF
  have P:=Nq C;clear hF C;go_enter Tryz.func74,Tryz.ntmps74;go_wp2;go_loopw [13] (λx wr=>∃k:Nat,k<=n/\x=IV k/\Hid (BW w wr)/\Hid (∀i,i<k->F.getD i (0,0)=G.getD i (0,0))) (λx _=>n-(intOf x).toNat);exact ⟨0,NS _,rfl,Nq (Nx _ _),Nq λi X=>by omega⟩;obtain ⟨k,Z,rfl,q,S⟩:=hrel;by_cases z:k<n
  ·have T:(k:Int)<(n:Int):=by omega
   obtain ⟨-,V|⟨o,r,rfl,u⟩⟩:=L.o.af q.o
   ·omega
   obtain ⟨-,V|⟨p,s,rfl,v⟩⟩:=P.o.af q.o
   ·omega
   obtain ⟨D,E⟩:=u k z;obtain ⟨H,I⟩:=v k z;clear u v;obtain ⟨x,N⟩:=EX (F.getD k (0,0));obtain ⟨y,O⟩:=EX (G.getD k (0,0));have Q:=Nq N;have R:=Nq O;rw [N]at D E;rw [O]at H I;clear N O;obtain ⟨f,t⟩:=x;obtain ⟨J,K⟩:=y;by_cases j:f=J/\t=K
   ·obtain ⟨rfl,rfl⟩:=j;go_upto_region 6 with(fail)
    go_region_held3 (λW=>CA W o (r+k*2) (IV f)/\CA W o (r+k*2+1) (IV t)/\CA W p (s+k*2) (IV f)/\CA W p (s+k*2+1) (IV t))
     (exact ⟨D,E,H,I⟩)
     (fail)
    go_wp2_with fail;go_roundw;case rel=>exact ⟨k+1,by omega,by go_num,Nq q.o.drew,Nq λi X=>by
     by_cases h:i=k
     ·subst h;rw [Q.o,R.o]
     ·exact S.o i (by omega)⟩
    case measure=>simp [intOf];omega
   ·have l:Hid (decide (F=G)=false):=NX (λe=>j (by have:=Q.o;rw [e,R.o]at this;injection this with B M;exact ⟨B.symm,M.symm⟩));by_cases A:f=J
    ·subst A;have U:(t==K)=false:=NC.2 (λe=>j ⟨rfl,e⟩)
     go_upto_region 6 with(fail);go_region_held3 (λW=>CA W o (r+k*2) (IV f)/\CA W o (r+k*2+1) (IV t)/\CA W p (s+k*2) (IV f)/\CA W p (s+k*2+1) (IV K))
      (exact ⟨D,E,H,I⟩)
      (fail)
     go_wp2_with fail;go_ret;exact ⟨by rw [l.o];rfl,q.o.drew⟩
    ·have U:(f==J)=false:=NC.2 A;go_upto_region 6 with(fail)
     go_region_held3 (λW=>CA W o (r+k*2) (IV f)/\CA W o (r+k*2+1) (IV t)/\CA W p (s+k*2) (IV J)/\CA W p (s+k*2+1) (IV K))
      (exact ⟨D,E,H,I⟩)
      (fail)
     go_wp2_with fail;go_ret;exact ⟨by rw [l.o];rfl,q.o.drew⟩
  ·obtain rfl:k=n:=by omega
   go_wp2_with fail;go_ret;have l:decide (F=G)=true:=N6 (PD (by rw [L.o.1,P.o.1]) λi B M=>by have:=S.o i (by rw [<-L.o.1];exact B);simpa [Nw,B,M]using this)
   exact ⟨by rw [l];rfl,q.o⟩
 ·have U:((n:Int)==(m:Int))=false:=NC.2 (by omega);have t1:(n==m)=false:=NC.2 g
  have l:Hid (decide (F=G)=false):=NX (λe=>g (by rw [<-hF.1,<-C.1,e]));clear hF C;go_enter Tryz.func74,Tryz.ntmps74;go_wp2;go_ret;exact ⟨by rw [l.o];rfl,Nx _ _⟩
def FA(w:WD)(a:OA)(n:Nat)(x:Fm):Prop:=bB w a n (Fm.enc x)
def FA.af{w b:WD}{a:OA}{n:Nat}{x:Fm}(h:FA w a n x)(c:BW w b):FA b a n x:=bB.af h c
def FA.size{w:WD}{a:OA}{n:Nat}{x:Fm}(h:FA w a n x):Fm.size x=n:=by have:=h.1;rwa [Fm.de]at this
def bN.fa{w b:WD}{a:OA}{n c:Nat}{x:Fm}(h:bN w b (.slice a n c) n (Fm.enc x)):FA b a n x:=h.ah
def AG{f x:Fm}{p:Nat}(a:(Fm.aQ f)[p]? =some x):(Fm.enc f).getD p (0,0)=Fm.aO x:=by unfold Fm.enc;rw [Nw,Oh,a];rfl
def FA.at{w:WD}{a:OA}{n:Nat}{f x:Fm}{p:Nat}(h:FA w a n f)(g:(Fm.aQ f)[p]? =some x):∃b o,a=some (AD b o)/\p<n/\CA w b (o+p*2) (IV (Fm.aO x).1)/\CA w b (o+p*2+1) (IV (Fm.aO x).2):=by
 have e:p<n:=by rw [<-h.size];unfold Fm.size;exact (NK.1 g).1
 rcases h.2 with j|⟨b,o,rfl,i⟩;omega;obtain ⟨c,d⟩:=i p e;rw [AG g]at c d;exact ⟨b,o,rfl,e,c,d⟩
def kT(a:OA)(n c:Nat)(x:Fm)(w:WD)(h:FA w a n x)(k:n<=1000000):
 CL 162 #[.slice a n c] w λe j=>e=RT (IV (Fm.aO x).1)/\j=w:=by
 obtain ⟨b,o,rfl,i,g,-⟩:=h.at (Fm.cL x)
 have f:=h.size
 obtain ⟨d,rfl⟩:∃d,n=d+1:=⟨n-1,by omega⟩
 rw [f,RN]at g
 have m:(0:Int)<=(d:Int):=by omega
 clear h i f
 generalize (Fm.aO x).1=l at *
 go_enter Tryz.func162,Tryz.ntmps162
 go_wp2
 go_ret
 exact ⟨rfl,rfl⟩
def vj(a:OA)(n c:Nat)(x:Fm)(w:WD)(h:FA w a n x)(l:n<=1000000):
 CL 137 #[.slice a n c] w λe p=>e=RT (.bool ((Fm.jB x||Fm.jA x)))/\p=w:=by
 have d:=Nq (kT a n c x w h l)
 have f:Hid ((Fm.jB x||Fm.jA x)=((Fm.aO x).1==1||(Fm.aO x).1==2)):=by show _=_;cases x<;>simp [Fm.aO,Fm.jB,Fm.jA]
 clear h
 rw [f.o]
 clear f
 generalize (Fm.aO x).1=b at *
 by_cases g:b=1
 subst g
 go_enter Tryz.func137,Tryz.ntmps137
 go_wp2_with (go_at_call 162;refine d.o.mono ?_;rintro e j ⟨rfl,rfl⟩)
 go_ret
 exact ⟨rfl,rfl⟩
 have m:(b==1)=false:=NC.2 g
 by_cases i:b=2
 subst i
 go_enter Tryz.func137,Tryz.ntmps137
 go_wp2_with (go_at_call 162;refine d.o.mono ?_;rintro e j ⟨rfl,rfl⟩)
 go_ret
 exact ⟨rfl,rfl⟩
 have o:(b==2)=false:=NC.2 i
 have k:Hid ((b==1||b==2)=false):=by show _=_;rw [m,o];rfl
 go_enter Tryz.func137,Tryz.ntmps137
 go_wp2_with (go_at_call 162;refine d.o.mono ?_;rintro e j ⟨rfl,rfl⟩)
 go_ret
 exact ⟨by rw [k.o];rfl,rfl⟩
def jj(a:OA)(n c:Nat)(x:Fm)(b:OA)(m d:Nat)(y:Fm)(w:WD)(h:FA w a n x)(g:FA w b m y)(o:n<=1000000)(l:m<=1000000):
 CL 180 #[.slice a n c,.slice b m d] w λe j=>e=RT (.bool (Fm.same x y))/\BW w j:=by
 have f:=Nq (JO a n c _ b m d _ w h g (by omega) (by omega))
 change Hid (CL 189 _ w λe j=>e=RT (.bool (Fm.same x y))/\_)at f
 clear h g
 go_enter Tryz.func180,Tryz.ntmps180
 go_wp2_with (go_at_call 189;refine f.o.mono ?_;rintro e p ⟨rfl,i⟩;have k:=Nq i;clear i)
 go_ret
 exact ⟨rfl,k.o⟩
def zE(x:Fm):Value:=match Fm.xF x with
 |some (n,b)=>.tuple #[IV n,.bool b,.bool true]
 |none=>.tuple #[IV 0,.bool false,.bool false]
def n7{x:Fm}(h:Fm.size x=1):Fm.nN x:=by rcases Fm.Hu x with c|⟨a,c⟩|⟨a,b,c⟩;exact c;have:=c.size;have:=Fm.bF a;omega;have:=c.size;have:=Fm.bF a;have:=Fm.bF b;omega
def rk(a:OA)(n c:Nat)(x:Fm)(w:WD)(h:FA w a n x)(F:n<=1000000):
 CL 190 #[.slice a n c] w λe D=>e=RT (zE x)/\D=w:=by
 have m:=h.size
 by_cases l:n=1
 ·subst l;obtain ⟨b,o,rfl,v,q,t⟩:=h.at (Fm.cL x)
  rw [m]at q t;simp only [Qf,Q4,Rl]at q t;have u:=n7 m;clear h m v;by_cases d:(Fm.aO x).1=3
  ·have g:Hid (zE x=.tuple #[IV (Fm.aO x).2,.bool false,.bool true]):=by
    show _=_;cases u with
    |prop k=>rfl
    |tt=>simp [Fm.aO]at d
    |ff=>simp [Fm.aO]at d
   rw [d]at q;rw [g.o];clear g u d;generalize (Fm.aO x).2=k at *;go_enter Se,RU;go_wp2;go_ret3;exact ⟨rfl,rfl⟩
  ·have g:Hid (zE x=.tuple #[IV 0,.bool false,.bool false]):=by
    show _=_;cases u with
    |prop k=>simp [Fm.aO]at d
    |tt=>rfl
    |ff=>rfl
   have H:((Fm.aO x).1==3)=false:=NC.2 d;rw [g.o];clear g u d;generalize (Fm.aO x).1=k at *;go_enter Se,RU;go_wp2;go_ret3;exact ⟨rfl,rfl⟩
 ·have I:((n:Int)==1)=false:=NC.2 (by omega);have J:(n==1)=false:=NC.2 l
  by_cases A:n=2
  ·subst A;obtain ⟨y,p⟩:∃y,Fm.One y x:=by
    rcases Fm.Hu x with l|⟨a,l⟩|⟨a,b,l⟩
    ·have:=l.size;omega
    ·exact ⟨a,l⟩
    ·have:=l.size;have:=Fm.bF a;have:=Fm.bF b;omega
   have s:Fm.size y=1:=by have:=p.size;omega
   have i:=n7 s;have j:=Fm.cL x;rw [m]at j;have r:=(Fm.fR p x _ j).2;obtain ⟨b,o,rfl,v,q,t⟩:=h.at r;obtain ⟨E,G,e,-,z,-⟩:=h.at j;cases e
   simp only [Nat.reduceSub,Q4,Nat.one_mul,Rl]at q t z;clear h m v j r s;by_cases d:(Fm.aO y).1=3
   ·by_cases f:(Fm.aO x).1=4
    ·have g:Hid (zE x=.tuple #[IV (Fm.aO y).2,.bool true,.bool true]):=by
      show _=_;cases p with
      |neg=>
       cases i with
       |prop k=>rfl
       |tt=>simp [Fm.aO]at d
       |ff=>simp [Fm.aO]at d
      |cM=>simp [Fm.aO]at f
      |fin=>simp [Fm.aO]at f
      |ep=>simp [Fm.aO]at f
     rw [d]at q;rw [f]at z;rw [g.o];clear g i d p f;generalize (Fm.aO y).2=k at *;go_enter Se,RU;go_wp2;go_ret3;exact ⟨rfl,rfl⟩
    ·have g:Hid (zE x=.tuple #[IV 0,.bool false,.bool false]):=by
      show _=_;cases p with
      |neg=>simp [Fm.aO]at f
      |cM=>rfl
      |fin=>rfl
      |ep=>rfl
     have B:((Fm.aO x).1==4)=false:=NC.2 f;rw [d]at q;rw [g.o];clear g i d p f;generalize (Fm.aO x).1=k at *;generalize (Fm.aO y).2=C at *;go_enter Se,RU;go_wp2;go_ret3;exact ⟨rfl,rfl⟩
   ·have g:Hid (zE x=.tuple #[IV 0,.bool false,.bool false]):=by
     show _=_;cases p with
     |neg=>
      cases i with
      |prop k=>simp [Fm.aO]at d
      |tt=>rfl
      |ff=>rfl
     |cM=>rfl
     |fin=>rfl
     |ep=>rfl
    have B:((Fm.aO y).1==3)=false:=NC.2 d;rw [g.o];clear g i d p;generalize (Fm.aO x).1=k at *;generalize (Fm.aO y).1=C at *;go_enter Se,RU;go_wp2;go_ret3;exact ⟨rfl,rfl⟩
  ·have B:((n:Int)==2)=false:=NC.2 (by omega);have K:(n==2)=false:=NC.2 A
   have g:Hid (zE x=.tuple #[IV 0,.bool false,.bool false]):=by
    show _=_;unfold zE;have:Fm.xF x=none:=by
     unfold Fm.xF;split
     ·simp [Fm.lK]at m;omega
     ·rw [Fm.ij,Fm.lK]at m;omega
     ·rfl
    rw [this]
   rw [g.o];clear g h m;go_enter Se,RU;go_wp2;go_ret3;exact ⟨rfl,rfl⟩
def yr(a:OA)(n c:Nat)(x:Fm)(b:OA)(m d:Nat)(y:Fm)(w:WD)(h:FA w a n x)(s:FA w b m y)(v:n<=1000000)(u:m<=1000000):
 CL 181 #[.slice a n c,.slice b m d] w λe A=>e=RT (.bool (Fm.j7 x y))/\A=w:=by
 have f:=Nq (rk a n c x w h v)
 have g:=Nq (rk b m d y w s u)
 clear h s
 unfold zE at f g
 unfold Fm.j7
 rcases o:Fm.xF x with _|⟨k,p⟩
 ·rcases i:Fm.xF y with _|⟨j,q⟩;all_goals
   simp only [o,i]at f g⊢
   clear o i
   go_enter Tryz.func181,Tryz.ntmps181
   go_wp2_with (first|(go_at_call 190;refine f.o.mono ?_;rintro e l ⟨rfl,rfl⟩;clear f)|(go_at_call 190;refine g.o.mono ?_;rintro e l ⟨rfl,rfl⟩;clear g))
   go_ret
   exact ⟨rfl,rfl⟩
 ·rcases i:Fm.xF y with _|⟨j,q⟩
  ·simp only [o,i]at f g⊢;clear o i
   go_enter Tryz.func181,Tryz.ntmps181;go_wp2_with (first|(go_at_call 190;refine f.o.mono ?_;rintro e l ⟨rfl,rfl⟩;clear f)|(go_at_call 190;refine g.o.mono ?_;rintro e l ⟨rfl,rfl⟩;clear g));go_ret;exact ⟨rfl,rfl⟩
  ·simp only [o,i]at f g⊢;clear o i
   by_cases r:k=j
   ·subst r;cases p<;>cases q
    all_goals
     go_enter Tryz.func181,Tryz.ntmps181
     go_wp2_with (first|(go_at_call 190;refine f.o.mono ?_;rintro e l ⟨rfl,rfl⟩;clear f)|(go_at_call 190;refine g.o.mono ?_;rintro e l ⟨rfl,rfl⟩;clear g))
     go_ret
     exact ⟨by simp,rfl⟩
   ·have B:((k:Int)==(j:Int))=false:=NC.2 (by omega);have z:(k==j)=false:=NC.2 r
    have t:Hid ((k==j&&p !=q)=false):=by show _=_;rw [z];rfl
    go_enter Tryz.func181,Tryz.ntmps181;go_wp2_with (first|(go_at_call 190;refine f.o.mono ?_;rintro e l ⟨rfl,rfl⟩;clear f)|(go_at_call 190;refine g.o.mono ?_;rintro e l ⟨rfl,rfl⟩;clear g));go_ret;exact ⟨by rw [t.o];rfl,rfl⟩
def FA.aR{w:WD}{b o n:Nat}{x l r:Fm}(h:FA w (some (AD b o)) n x)(c:Fm.gC l r x):FA w (some (AD b o)) (Fm.size l) l/\FA w (some (AD b (o+Fm.size l*2))) (Fm.size r) r:=by
 have p:=h.size;have j:=c.size;rcases h.2 with m|⟨k,q,e,d⟩;omega;cases e
 have f:Fm.enc x=Fm.enc l++(Fm.enc r++[Fm.aO x]):=Fm.gx c;refine ⟨⟨Fm.de l,.inr ⟨b,o,rfl,λi a=>?_⟩⟩,⟨Fm.de r,.inr ⟨b,o+Fm.size l*2,rfl,λi a=>?_⟩⟩⟩;have:=d i (by omega);rw [f]at this;have e:(Fm.enc l++(Fm.enc r++[Fm.aO x])).getD i (0,0)=(Fm.enc l).getD i (0,0):=by rw [Nw,Nw,NP (by rw [Fm.de];exact a)]
 rw [e]at this;exact this;have:=d (Fm.size l+i) (by omega);rw [f]at this;have e:(Fm.enc l++(Fm.enc r++[Fm.aO x])).getD (Fm.size l+i) (0,0)=(Fm.enc r).getD i (0,0):=by rw [Nw,Nw,N9 (by rw [Fm.de];omega),Fm.de,Nat.add_sub_cancel_left,NP (by rw [Fm.de];exact a)]
 rw [e]at this;have g:o+(Fm.size l+i)*2=o+Fm.size l*2+i*2:=by omega
 rw [g]at this;exact this
def FA.MN{x:Fm}(h:dV x):jr (Fm.enc x) x:=fA h
def lH(b o n c:Nat)(x l r:Fm)(w:WD)(h:FA w (some (AD b o)) n x)(f:Fm.gC l r x)(d:dV x)(G:n<=1000000)(T:n<=c)(g:c<=maxLen):
 CL 183 #[.slice (some (AD b o)) n c] w λe I=>e=RT (.tuple #[.slice (some (AD b o)) (Fm.size l) c,.slice (some (AD b (o+Fm.size l*2))) (Fm.size r) (c-Fm.size l)])/\BW w I:=by
 have C:=h.size
 have k:=f.size
 have i:=Fm.bF l
 have j:=Fm.bF r
 have m:=Fm.cL x
 rw [C]at m
 have a:=Nq (gd (some (AD b o)) n c _ x x (n-1) w h G (fA d) m)
 have t:ql x (n-1)=(Fm.size l:Int)-1:=by
  have:ql x (n-1)=((n-1:Nat):Int)-1-Fm.size r:=by cases f<;>rfl
  rw [this];omega
 have u:tJ x (n-1)=(Fm.size l:Int)+(Fm.size r:Int)-1:=by
  have:tJ x (n-1)=((n-1:Nat):Int)-1:=by cases f<;>rfl
  rw [this];omega
 rw [t,u]at a
 obtain ⟨s,rfl⟩:∃s,n=s+1:=⟨n-1,by omega⟩
 rw [RN]at a
 clear h f d m t u
 obtain ⟨p,A⟩:∃p,Fm.size l=p+1:=⟨Fm.size l-1,by omega⟩
 obtain ⟨q,B⟩:∃q,Fm.size r=q+1:=⟨Fm.size r-1,by omega⟩
 rw [A,B]at a⊢
 have v:((p+1:Nat):Int)-1=(p:Int):=by omega
 have y:((p+1:Nat):Int)+((q+1:Nat):Int)-1=((p+q+1:Nat):Int):=by omega
 rw [v,y]at a
 have H:p+q+2<=s:=by omega
 unfold maxLen at g
 clear v y C k A B i j
 have K:(p:Int)+1<=(c:Int):=by omega
 have L:(p:Int)+(q:Int)+1+1<=(c:Int):=by omega
 have M:(p:Int)+1<=(p:Int)+(q:Int)+1+1:=by omega
 have N:p+1<c:=by omega
 have O:¬c=p+1:=by omega
 have P:(0:Int)<=(p:Int)+1:=by omega
 have Q:(0:Int)<=(p:Int)+(q:Int)+1:=by omega
 have R:(0:Int)<=(p:Int)+(q:Int)+1+1:=by omega
 have S:(p:Int)+1<=max ((p:Int)+(q:Int)+1+1) 0:=by omega
 have F:(0:Int)<=(p:Int):=by omega
 have E:Hid (((p:Int)+(q:Int)+1+1).toNat-(p+1)=q+1):=by show _=_;omega
 have U:IntKind.i64.wrap ((p:Int)+1)=(p:Int)+1:=Pf _ (by omega)
 have J:IntKind.i64.wrap ((p:Int)+(q:Int)+1+1)=(p:Int)+(q:Int)+1+1:=Pf _ (by omega)
 go_enter Tryz.func183,Tryz.ntmps183
 go_upto_region 6 with(go_at_call 166;refine a.o.mono ?_;rintro e J ⟨rfl,z⟩;have D:=Nq z;clear z)
 go_region_held3 (λW=>True)
  (exact trivial)
  (fail)
 go_wp2_with fail
 go_ret2
 exact ⟨by show RT (.tuple #[.slice (some (AD b o)) (p+1) c,.slice (some (AD b (o+(p+1)*2))) (((p:Int)+(q:Int)+1+1).toNat-(p+1)) (c-(p+1))])=_;rw [E.o],D.o.drew⟩
def Iq(c:Bool):Int:=if c then 5 else 6
def Hh(c:Bool)(x y:Fm)(h:(Fm.aO x).1≠Iq c):Fm.has c x y=false:=by cases x<;>first|rfl|(cases c<;>simp [Fm.aO,Iq,Fm.has]at *)
def JS(c:Bool)(x y:Fm)(h:(Fm.aO x).1=Iq c):∃l r,Fm.gC l r x/\Fm.has c x y=(Fm.same l y||Fm.same r y):=by
 cases x with
 |and l r=>refine ⟨l,r,.and,?_⟩;cases c<;>simp [Fm.aO,Iq,Fm.has]at *
 |or l r=>refine ⟨l,r,.or,?_⟩;cases c<;>simp [Fm.aO,Iq,Fm.has]at *
 |_=>cases c<;>simp [Fm.aO,Iq]at h
def uM(q:Bool)(a:OA)(n c:Nat)(x:Fm)(b:OA)(m d:Nat)(y:Fm)(w:WD)(h:FA w a n x)(A:FA w b m y)(G:dV x)(L:n<=1000000)(K:m<=1000000)(O:n<=c)(F:c<=maxLen):
 CL 182 #[.slice a n c,IV (Iq q),.slice b m d] w λe v=>e=RT (.bool (Fm.has q x y))/\BW w v:=by
 have s:=Nq (kT a n c x w h L)
 by_cases g:(Fm.aO x).1=Iq q
 obtain ⟨l,r,B,M⟩:=JS q x y g
 obtain ⟨E,o,rfl,-⟩:=h.at (Fm.cL x)
 obtain ⟨J,u⟩:=h.aR B
 have z:=Nq (lH E o n c x l r w h B G L O F)
 have P:=B.size
 have H:=h.size
 have p:Hid (∀i,BW w i->CL 180 #[.slice (some (AD E o)) (Fm.size l) c,.slice b m d] i λe v=>e=RT (.bool (Fm.same l y))/\BW i v):=λi f=>jj _ _ _ l b m d y i (J.af f) (A.af f) (by omega) K
 have D:Hid (∀i,BW w i->CL 180 #[.slice (some (AD E (o+Fm.size l*2))) (Fm.size r) (c-Fm.size l),.slice b m d] i λe v=>e=RT (.bool (Fm.same r y))/\BW i v):=λi f=>jj _ _ _ r b m d y i (u.af f) (A.af f) (by omega) K
 rw [M]
 rw [g]at s
 clear h A B M J u P H g
 generalize Iq q=Q at *
 generalize Fm.size l=V at *
 generalize Fm.size r=W at *
 generalize Fm.same l y=R at *
 generalize Fm.same r y=U at *
 cases R
 go_enter Tryz.func182,Tryz.ntmps182
 go_wp2_with (first
  |(go_at_call 162;refine s.o.mono ?_;rintro e N ⟨rfl,rfl⟩;clear s)
  |(go_at_call 183;refine z.o.mono ?_;rintro e S ⟨rfl,f⟩;have t:=Nq f;clear f z)
  |(go_at_call 180;refine (p.o _ t.o).mono ?_;rintro e T ⟨rfl,f⟩;have j:=Nq (aa t.o f);clear f p)
  |(go_at_call 180;refine (D.o _ j.o).mono ?_;rintro e Y ⟨rfl,f⟩;have C:=Nq (aa j.o f);clear f))
 go_ret
 exact ⟨rfl,C.o⟩
 go_enter Tryz.func182,Tryz.ntmps182
 go_wp2_with (first
  |(go_at_call 162;refine s.o.mono ?_;rintro e N ⟨rfl,rfl⟩;clear s)
  |(go_at_call 183;refine z.o.mono ?_;rintro e S ⟨rfl,f⟩;have t:=Nq f;clear f z)
  |(go_at_call 180;refine (p.o _ t.o).mono ?_;rintro e T ⟨rfl,f⟩;have j:=Nq (aa t.o f);clear f p))
 go_ret
 exact ⟨rfl,j.o⟩
 have I:=Nq (Hh q x y g)
 have X:((Fm.aO x).1==Iq q)=false:=NC.2 g
 rw [I.o]
 clear h A g I
 generalize Iq q=Q at *
 generalize (Fm.aO x).1=k at *
 go_enter Tryz.func182,Tryz.ntmps182
 go_wp2_with (go_at_call 162;refine s.o.mono ?_;rintro e N ⟨rfl,rfl⟩)
 go_ret
 exact ⟨rfl,Nx _ _⟩
def Rz:=@Go.Proofs.Tryz.underlying148
def SL:=@Go.Proofs.Tryz.underlying3
def kj{L w:WD}{A:Array Oper}{f:List Oper}{o:Oper}{a:Act}{Q:Exit->Act->WD->Prop}(E:o.guard=none)(s x:Operand)(t:TypeId)(X:Tryz.prog.underlying t=some (.slice 32))
 (V:o.op=.call {callee:=.builtin .append,args:=#[s,x],argTypes:=#[t,t]})
 (v:Value) (n:Nat) (F:List (Int×Int)) (W:a.eval s=v) (i:bN L w v n F)
 (B:Addr) (m c:Nat) (G:List (Int×Int)) (Y:a.eval x=.slice (some B) m c) (z:bB w (some B) m G) (K:n+m<=1000000000)
 (h:∀q r p,bN L p (.slice q (n+m) r) (n+m) (F++G)->aj (λk=>v.ownBlock=some k) w p->(∀b,(Value.slice q (n+m) r).ownBlock=some b->v.ownBlock=some b\/w.heap.size<=b)->wpList Tryz.prog A Q f (a.put o.dst (.slice q (n+m) r)) p):
 wpList Tryz.prog A Q (o::f) a w:=by
 obtain ⟨J,T,Z,I,R⟩:=Ol Tryz.zu
 have l:∀j u,(bX G)[j]? =some u->w.cell? (B.add j)=some u:=by
  intro j u g;have H:j<(bX G).length:=(NK.1 g).1;rw [eK,z.1]at H;rcases z.2 with h0|⟨b,aa,e,S⟩;omega;cases e
  obtain ⟨M,N⟩:=S (j/2) (by omega);obtain ⟨O,P⟩:=gy G (j/2) (by rw [z.1];omega);rw [O4];rcases RO j with C|C;have e:j=j/2*2:=by omega
  rw [e]at g;rw [O]at g;rw [e,<-g];exact M;have e:j=j/2*2+1:=by omega
  rw [e]at g;rw [P]at g;rw [e,<-g,<-Qe];exact N
 refine RG w E s x t V 0 32 J (.agg #[IV 0,IV 0]) 2 16 X T Z I R rfl (by decide) v n (bX F) W i.cK B m c (bX G) Y (by rw [eK,z.1]) l (iN G) (by unfold maxLen;omega) (by omega) (NS _) ?_
 intro v' p C y _ d
 have D:aj (λk=>v.ownBlock=some k) w p:=⟨y.os,y.tape,y.output,y.size,λk D K=>y.block k D (λe=>K e.symm)⟩
 obtain ⟨q,r,rfl⟩:=bw C
 refine h q r p ⟨by rw [iM];exact C,by rw [NH,i.bC,z.1],i.aM.trans (D.af i.aM.size (λk U e=>by have:=i.dJ k e;omega)),λb e=>?_⟩ D (λb e=>?_)
 rcases d with d|d
 rw [d]at e;exact i.dJ b e
 rw [d]at e;cases e;exact i.aM.size
 rcases d with d|d
 rw [d]at e;exact .inl e
 rw [d]at e;cases e;exact .inr (Nz _)
def Hg(n:Nat)(w:WD)(j:0<n)(t:n<=1000000):
 CL 161 #[SN,IV n] w λe s=>∃d f,e=RT (.slice d 0 f)/\bN w s (.slice d 0 f) 0 []:=by
 obtain ⟨c,o,r,q,k⟩:=Ol Tryz.zu
 have p:=Go.Lib.run_append_nil_zeros (P:=Tryz.prog) w 148 3 148 32 c _ .i64 .i64 Rz SL o r n j (by omega) (by omega) (by rw [k];omega)
 have m:=grownCap_ge w n 0 32
 have a:=grownCap_le_maxLen w n 0 32 (by unfold maxLen;omega)
 have h:(0:Int)<(n:Int):=by omega
 have i:Hid (bN w (w.drew.alloc (.cells (Builtin.zeroCells (Value.agg #[IV 0,IV 0]).cells n++Builtin.zeroCells (Value.agg #[IV 0,IV 0]).cells (grownCap w n 0 32-n)) 32)) (SV w.heap.size 0 (grownCap w n 0 32)) 0 []):=by refine ⟨⟨rfl,.inr ⟨w.heap.size,_,_,rfl,NS _,heap_alloc_new w.drew _,NS _,a,?_,?_⟩⟩,rfl,(Nx _ w).drew.alloc (Nz _) _,λb e=>by cases e;exact Nz _⟩;rw [Array.size_append,size_zeroCells,size_zeroCells];have:(Value.agg #[IV 0,IV 0]).cells.size=2:=rfl;rw [this];omega;rw [Q4];rfl
 generalize grownCap w n 0 32=g at *
 generalize (w.drew.alloc (.cells (Builtin.zeroCells (Value.agg #[IV 0,IV 0]).cells n++Builtin.zeroCells (Value.agg #[IV 0,IV 0]).cells (g-n)) 32))=u at *
 have l:(0:Int)<=(g:Int):=by omega
 go_enter Tryz.func161,Tryz.ntmps161
 go_wp2_with (at_builtin;refine Go.Lib.wpList_append_run _ rfl _ _ _ _ rfl _ _ rfl rfl _ _ p ?_)
 go_ret
 exact ⟨_,_,rfl,i.o⟩
def oS(w:WD)(b a:Nat)(L:List (OA×Nat×Nat×Fm)):Prop:=
 ∀i p,L[i]? =some p->w.cell? (AD b (a+i))=some (.slice p.1 p.2.1 p.2.2.1)/\FA w p.1 p.2.1 p.2.2.2
def oS.af{w e:WD}{b a:Nat}{L:List (OA×Nat×Nat×Fm)}(h:oS w b a L)(d:BW w e):oS e b a L:=λi p c=>
 ⟨(d.cell (Nr w _ (h i p c).1)).trans (h i p c).1,(h i p c).2.af d⟩
def cY(L:List (OA×Nat×Nat×Fm)):List Fm:=L.map (·.2.2.2)
def mx(l:List Fm)(k:Nat)(x:Fm)(h:l[k]? =some x):bj (l.take (k+1))=bj (l.take k)+Fm.size x:=by rw [OG,h,qD];show _+(Fm.size x+0)=_;omega
def vF(l:List Fm)(k:Nat)(x:Fm)(h:l[k]? =some x):fy (l.take (k+1))=fy (l.take k)++Fm.enc x:=by rw [OG,h,lk];show _++(Fm.enc x++[])=_;rw [Om]
def iP(l:List Fm)(k:Nat):bj (l.take k)<=bj l:=by have:=qD (l.take k) (l.drop k);rw [Rt]at this;omega
def Cl(b H n c:Nat)(L:List (OA×Nat×Nat×Fm))(w:WD)(h:oS w b H L)(P:L.length=n)(h0:0<n)(aa:n<=1000000)(hs:bj (cY L)<=1000000):
 CL 136 #[.slice (some (AD b H)) n c] w λe w'=>∃r t,e=RT (.slice r (bj (cY L)) t)/\bN w w' (.slice r (bj (cY L)) t) (bj (cY L)) (fy (cY L)):=by
 have S:=Nq h
 have U:=Nq P
 have C:(cY L).length=n:=by unfold cY;rw [NU];exact P
 have B:=Nq C
 have q:0<bj (cY L):=F5 (by omega)
 have T:=λw1=>Nq (Hg (bj (cY L)) w1 q (by omega))
 obtain ⟨N,M⟩:=EX (bj (cY L))
 have g:=Nq M
 rw [M]at hs q T⊢
 clear h P C M
 go_enter Tryz.func136,Tryz.ntmps136
 go_wp2
 go_loop [3,11] (λs x=>∃k:Nat,k<=n/\x=IV k/\s=IV (bj ((cY L).take k):Nat)) (λ_ x=>n-(intOf x).toNat)
 exact ⟨0,NS _,rfl,rfl⟩
 obtain ⟨k,hk,rfl,rfl⟩:=hrel
 have l:=iP (cY L) k
 rw [g.o]at l
 by_cases u:k<n
 have D:(k:Int)<(n:Int):=by omega
 obtain ⟨p,y⟩:∃p,L[k]? =some p:=⟨_,Ny (by rw [U.o];exact u)⟩
 obtain ⟨K,d⟩:=S.o k p y
 have m:=d.size
 have i:(cY L)[k]? =some p.2.2.2:=by unfold cY;rw [Oh,y];rfl
 have a:=mx _ _ _ i
 rw [m]at a
 have f:=iP (cY L) (k+1)
 rw [g.o]at f
 have o:=Nq a
 obtain ⟨pa,R,V,px⟩:=p
 simp only at a K
 rw [a]at f
 have W:¬(((bj ((cY L).take k):Nat):Int)+(R:Int)<0):=by omega
 clear y d m i a
 generalize bj ((cY L).take k)=z at *
 go_wp2_with fail
 go_round
 exact ⟨k+1,by omega,by go_num,by rw [o.o];go_num⟩
 simp [intOf];omega
 obtain rfl:k=n:=by omega
 have G:(cY L).take k=cY L:=Oe (by rw [B.o];exact Nz _)
 rw [G,g.o]
 clear G l
 go_wp2_with (go_at_call 161;refine (T _).o.mono ?_;rintro e w2 ⟨ga,gc,rfl,v⟩;have X:=Nq v;clear v)
 go_loopw [6,27] (λs x wr=>∃j:Nat,∃r t,j<=k/\x=IV j/\s=.slice r (bj ((cY L).take j)) t/\Hid (bN w wr (.slice r (bj ((cY L).take j)) t) (bj ((cY L).take j)) (fy ((cY L).take j)))) (λ_ x _=>k-(intOf x).toNat)
 exact ⟨0,ga,gc,NS _,rfl,rfl,X⟩
 obtain ⟨j,r,t,hj,rfl,rfl,v⟩:=hrel
 have l:=iP (cY L) j
 rw [g.o]at l
 by_cases u:j<k
 have D:(j:Int)<(k:Int):=by omega
 obtain ⟨p,y⟩:∃p,L[j]? =some p:=⟨_,Ny (by rw [U.o];exact u)⟩
 obtain ⟨K,d⟩:=(S.o.af v.o.aM) j p y
 have m:=d.size
 obtain ⟨pb,po,F,-⟩:=d.at (Fm.cL _)
 have i:(cY L)[j]? =some p.2.2.2:=by unfold cY;rw [Oh,y];rfl
 have a:=mx _ _ _ i
 rw [m]at a
 have f:=iP (cY L) (j+1)
 rw [g.o]at f
 have o:=Nq a
 have A:=Nq (vF _ _ _ i)
 obtain ⟨pa,R,V,px⟩:=p
 simp only at a K F d A
 subst F
 rw [a]at f
 have I:=Nq d
 clear y d m i a
 generalize hz:bj ((cY L).take j)=z at *
 go_wp2_with (at_builtin;refine kj rfl (.tmp 31) (.tmp 32) 148 Rz rfl _ z _ rfl v.o (AD pb po) R V _ rfl I.o (by omega) ?_;intro Y Z w4 E O Q;have J:=Nq E;clear E O Q)
 go_roundw
 exact ⟨j+1,Y,Z,by omega,by go_num,by rw [o.o],by rw [o.o,A.o];exact J⟩
 simp [intOf];omega
 obtain rfl:j=k:=by omega
 have G:(cY L).take j=cY L:=Oe (by rw [B.o];exact Nz _)
 rw [G,g.o]at v⊢
 clear G l
 go_wp2_with fail
 go_ret
 exact ⟨r,t,rfl,v.o⟩
def BM(g:Int)(b a n c:Nat)(L:List (OA×Nat×Nat×Fm))(w:WD)(h:oS w b a L)(r:L.length=n)(q:0<n)(f:n<=1000000)(y:bj (cY L)<=1000000):
 CL 103 #[IV g,.slice (some (AD b a)) n c] w λe z=>∃k l,e=RT (.slice k (bj (cY L)+1) l)/\bN w z (.slice k (bj (cY L)+1) l) (bj (cY L)+1) (fy (cY L)++[(g,0)]):=by
 have t:=Nq (Cl b a n c L w h r q f y)
 clear h r q f
 generalize bj (cY L)=N at *
 go_enter Tryz.func103,Tryz.ntmps103
 go_wp2_with (first
  |(go_at_call 136;refine t.o.mono ?_;rintro e s ⟨k,l,rfl,o⟩;have A:=Nq o;have u:=Nq (bN.xF s g 0);have i:=Nq (o.alloc (.cells #[IV g,IV 0] 32));clear o)
  |(at_builtin;refine kj rfl (.tmp 6) (.tmp 9) 148 Rz rfl _ N _ rfl i.o (AD s.heap.size 0) 1 1 [(g,0)] rfl u.o (by omega) ?_;intro v x B d m p;have j:=Nq d;clear d m p))
 go_ret
 exact ⟨v,x,rfl,j.o⟩
def yP{x y:Fm}(f:Fm.One y x)(b c:Nat)(a:OA)(n d:Nat)(w:WD)(o:CA w b 0 (.slice a n d))(h:FA w a n y)(r:n<=999999):
 CL 103 #[IV (Fm.aO x).1,SV b 1 c] w λe q=>∃j k,e=RT (.slice j (Fm.size x) k)/\bN w q (.slice j (Fm.size x) k) (Fm.size x) (Fm.enc x):=by
 have s:=h.size
 have e:bj (cY [(a,n,d,y)])=Fm.size y:=by show Fm.size y+0=_;omega
 have l:fy (cY [(a,n,d,y)])=Fm.enc y:=by show Fm.enc y++[]=_;rw [Om]
 have:=BM (Fm.aO x).1 b 0 1 c [(a,n,d,y)] w (λi p g=>by rcases i with _|i;simp at g;subst g;exact ⟨o,h⟩;simp at g) rfl (by decide) (by decide) (by rw [e];omega)
 rw [e,l,<-f.size]at this
 have m:Fm.enc y++[((Fm.aO x).1,0)]=Fm.enc x:=by rw [Fm.nC f];cases f<;>rfl
 rw [m]at this
 exact this
def Gr{x l r:Fm}(m:Fm.gC l r x)(b c:Nat)(a:OA)(n k:Nat)(f:OA)(d j:Nat)(w:WD)(y:CA w b 0 (.slice a n k))(o:CA w b 1 (.slice f d j))(h:FA w a n l)(t:FA w f d r)(B:n+d<=999999):
 CL 103 #[IV (Fm.aO x).1,SV b 2 c] w λe A=>∃q s,e=RT (.slice q (Fm.size x) s)/\bN w A (.slice q (Fm.size x) s) (Fm.size x) (Fm.enc x):=by
 have C:=h.size
 have z:=t.size
 have e:bj (cY [(a,n,k,l),(f,d,j,r)])=Fm.size l+Fm.size r:=by show Fm.size l+(Fm.size r+0)=_;omega
 have u:fy (cY [(a,n,k,l),(f,d,j,r)])=Fm.enc l++Fm.enc r:=by show Fm.enc l++(Fm.enc r++[])=_;rw [Om]
 have:=BM (Fm.aO x).1 b 0 2 c [(a,n,k,l),(f,d,j,r)] w (λi p g=>by rcases i with _|_|i;simp at g;subst g;exact ⟨y,h⟩;simp at g;subst g;exact ⟨o,t⟩;simp at g) rfl (by decide) (by decide) (by rw [e];omega)
 rw [e,u,<-m.size]at this
 have v:Fm.enc l++Fm.enc r++[((Fm.aO x).1,0)]=Fm.enc x:=by rw [Fm.gx m,Ov];cases m<;>rfl
 rw [v]at this
 exact this
def aL(w:WD)(S:Nat->Prop)(x:Fm)(e:Ending)(f:WD):Prop:=∃a d c,e=RT (.slice a d c)/\d<=c/\c<=maxLen/\FA f a d x/\BW w f/\∀b o,a=some (AD b o)->w.heap.size<=b\/S b
def bN.bU{w j:WD}{a:OA}{n c:Nat}{F:List (Int×Int)}(h:bN w j (.slice a n c) n F):n<=c/\c<=maxLen:=by
 rcases h.cK.2 with⟨e,k⟩|⟨g,b,d,e,-,-,f,i,-⟩;cases e;exact ⟨Nz _,NS _⟩
 cases e;exact ⟨f,i⟩
def aL.dE{w d:WD}{S:Nat->Prop}{a:OA}{n c:Nat}{x:Fm}(h:bN w d (.slice a n c) n (Fm.enc x)):aL w S x (RT (.slice a n c)) d:=
 ⟨a,n,c,rfl,h.bU.1,h.bU.2,h.ah,h.aM,λb o e=>.inl (h.dJ b (by subst e;rfl))⟩
def aL.Li{w g:WD}{S:Nat->Prop}{a:OA}{n c:Nat}{x:Fm}(h:FA w a n x)(j:n<=c)(d:c<=maxLen)(i:∀b o,a=some (AD b o)->S b)(f:BW w g):aL w S x (RT (.slice a n c)) g:=
 ⟨a,n,c,rfl,j,d,h.af f,f,λb o e=>.inr (i b o e)⟩
def aL.shape{w b:WD}{S:Nat->Prop}{x:Fm}{e:Ending}(h:aL w S x e b):∃a n c,e=RT (.slice a n c):=by obtain ⟨a,n,c,e,-⟩:=h;exact ⟨a,n,c,e⟩
def aL.af{w b:WD}{S:Nat->Prop}{x:Fm}{e:Ending}(h:aL w S x e b):BW w b:=by obtain ⟨a,n,c,e,-,-,-,h,-⟩:=h;exact h
def aL.fa{w b:WD}{S:Nat->Prop}{x:Fm}{a:OA}{n c:Nat}(h:aL w S x (RT (.slice a n c)) b):FA b a n x/\n<=c/\c<=maxLen:=by obtain ⟨a,n,c,e,d,f,g,-⟩:=h;cases e;exact ⟨g,d,f⟩
def aL.later{w b W:WD}{S:Nat->Prop}{x:Fm}{e:Ending}(h:aL w S x e b)(d:BW b W):aL w S x e W:=by obtain ⟨a,n,c,e,f,g,i,j,k⟩:=h;exact ⟨a,n,c,e,f,g,i.af d,aa j d,k⟩
def aL.from{w g f:WD}{S:Nat->Prop}{x:Fm}{e:Ending}(d:BW w g)(h:aL g S x e f):aL w S x e f:=by obtain ⟨a,n,c,e,i,j,k,l,m⟩:=h;exact ⟨a,n,c,e,i,j,k,aa d l,λb o e=>(m b o e).imp (N5 d.size) id⟩
def Ii(a:OA)(n c:Nat)(x:Fm)(w:WD)(h:FA w a n x)(y:n<=999999)(u:n<=c)(f:c<=maxLen)(S:Nat->Prop)(t:∀b o,a=some (AD b o)->S b):
 CL 104 #[.slice a n c] w (aL w S (Fm.j4 x)):=by
 have d:=Nq (vj a n c x w h (by omega))
 have r:Hid (aL w S x (RT (.slice a n c)) w):=aL.Li h u f t (Nx _ _)
 have s:Hid (∀W,W=w.alloc (.cells #[.slice a n c] 148)->CL 103 #[IV 8,SV w.heap.size 1 1] W λe m=>aL w S (.cM x) e m):=by rintro W rfl;have k:BW w (w.alloc (.cells #[.slice a n c] 148)):=(Nx _ _).alloc (Nz _) _;refine (yP Fm.One.cM w.heap.size 1 a n c _ (NV (w:=w) _ 148 w.heap.size 0 rfl) (h.af k) y).mono ?_;rintro e m ⟨g,i,rfl,v⟩;exact aL.from k (aL.dE v)
 unfold Fm.j4
 clear h
 cases l:(Fm.jB x||Fm.jA x)
 rw [l]at d
 go_enter Tryz.func104,Tryz.ntmps104
 go_wp2_with (first|(go_at_call 137;refine d.o.mono ?_;rintro e p ⟨rfl,rfl⟩)|(go_at_call 103;refine (s.o _ rfl).mono ?_;rintro e p ⟨g,z,i,rfl,j⟩;have q:=Nq j;clear j))
 go_ret
 exact ⟨g,z,i,rfl,q.o⟩
 rw [l]at d
 go_enter Tryz.func104,Tryz.ntmps104
 go_wp2_with (first|(go_at_call 137;refine d.o.mono ?_;rintro e p ⟨rfl,rfl⟩))
 go_ret
 exact r.o
end Go.Proofs.YtimniinkpipnmaaGreatDoor
namespace Go.Own
open Go.RowKit
section
section
variable {P:Program} {a:Act} {w:World} {Q:Exit->Act->World->Prop}
theorem Fg{l:Nat}{J:Act->World->Prop}(h:J a w):Exit.jump l J Q (.goto l) a w:=⟨rfl,h⟩
theorem xg{c b:Code}(l:Nat)(d:findLabel c l=some b)(first:c.wp P (Exit.jump l (λa w=>b.wp P (Exit.noGoto Q) a w) Q) a w):(Code.scope c).wp P Q a w:=
 wp_scope_jumps l _ (λ_ _=>0) d first λa w h=>Code.wp_mono (λe a w h=>by cases e<;>first|exact h|exact (h:False).elim) h
theorem jL{c b:Code}(l:Nat)(e:findLabel c l=some b)
 (first:∀d:Exit->Act->World->Prop,Hid ((∀a w,b.wp P (Exit.noGoto Q) a w->d (.goto l) a w)/\(∀a w,Q .ret a w->d .ret a w)/\(∀a w,Q .normal a w->d .normal a w))->c.wp P d a w):(Code.scope c).wp P Q a w:=
 xg l e (first _ ⟨λ_ _ h=>Fg h,λ_ _ h=>h,λ_ _ h=>h⟩)
end
end
end Go.Own
namespace Go.Proofs.YtimniinkpipnmaaGreatDoor
open Go.RowKit Go.Own
def Qv:=@Int.add_sub_cancel
def ly(x:Fm):Fm.jB x=((Fm.aO x).1==1):=by cases x<;>rfl
def lu(x:Fm):Fm.jA x=((Fm.aO x).1==2):=by cases x<;>rfl
def gR{S:Nat->Prop}{x l r:Fm}(j:Fm.gC l r x)(a:OA)(n f:Nat)(c:OA)(b d:Nat)(w:WD)(h:FA w a n l)(i:FA w c b r)(m:n+b<=999999):
 CL 103 #[IV (Fm.aO x).1,SV w.heap.size 2 2] (w.alloc (.cells #[.slice a n f,.slice c b d] 148)) (aL w S x):=by
 have g:BW w (w.alloc (.cells #[.slice a n f,.slice c b d] 148)):=(Nx _ w).alloc (Nz _) _
 refine (Gr j w.heap.size 2 a n f c b d _ (NV (w:=w) _ 148 w.heap.size 0 rfl) (NV (w:=w) _ 148 w.heap.size 1 rfl) (h.af g) (i.af g) m).mono ?_
 rintro e q ⟨o,p,rfl,k⟩
 exact aL.from g (aL.dE k)
def nu{S:Nat->Prop}{x y:Fm}(d:Fm.One y x)(a:OA)(n b:Nat)(w:WD)(h:FA w a n y)(g:n<=999999):
 CL 103 #[IV (Fm.aO x).1,SV w.heap.size 1 1] (w.alloc (.cells #[.slice a n b] 148)) (aL w S x):=by
 have c:BW w (w.alloc (.cells #[.slice a n b] 148)):=(Nx _ w).alloc (Nz _) _
 refine (yP d w.heap.size 1 a n b _ (NV (w:=w) _ 148 w.heap.size 0 rfl) (h.af c) g).mono ?_
 rintro e k ⟨i,j,rfl,f⟩
 exact aL.from c (aL.dE f)
def zL{x:Fm}(h:(Fm.aO x).1=8):∃y,x=Fm.cM y:=by
 cases x<;>simp [Fm.aO]at h
 exact ⟨_,rfl⟩
def yb{c:Bool}{x y:Fm}(h:¬((Fm.aO x).1=8/\(Fm.aO y).1=8)):Fm.mq c x y=Fm.mk c x y:=by unfold Fm.mq;split;exact absurd ⟨rfl,rfl⟩ h;rfl
def FA.one{w:WD}{a:OA}{n:Nat}{x y:Fm}(h:FA w a (n+1) x)(c:Fm.One y x):FA w a n y:=by
 have f:=h.size;rw [c.size]at f;refine ⟨by rw [Fm.de];omega,?_⟩;rcases h.2 with g|⟨b,o,rfl,d⟩;omega;refine .inr ⟨b,o,rfl,λi j=>?_⟩;have:=d i (by omega);rw [Fm.nC c]at this;have e:(Fm.enc y++[Fm.aO x]).getD i (0,0)=(Fm.enc y).getD i (0,0):=by rw [Nw,Nw,NP (by rw [Fm.de];omega)]
 rw [e]at this;exact this
def yg{S:Nat->Prop}(d:Int){x:Fm}(g:Fm.nN x)(c:Fm.aO x=(d,0)){w a:WD}(f:BW w a):aL w S x (RT (SV a.heap.size 1 1)) (a.alloc (.cells #[IV d,IV 0] 32)):=
 ⟨_,_,_,rfl,Nz _,by simp [maxLen],by unfold FA;rw [Fm.AH g,c];exact bN.xF a d 0,iX f _,λb o e=>by cases e;exact .inl f.size⟩
def DF{S:Nat->Prop}{R:Fm}{w a:WD}(b:BW w a)(e:R=Fm.ff):aL w S R (RT (SV a.heap.size 1 1)) (a.alloc (.cells #[IV 2,IV 0] 32)):=by subst e;exact yg 2 .ff rfl b
def DG{S:Nat->Prop}{R:Fm}{w a:WD}(b:BW w a)(e:R=Fm.tt):aL w S R (RT (SV a.heap.size 1 1)) (a.alloc (.cells #[IV 1,IV 0] 32)):=by subst e;exact yg 1 .tt rfl b
def jz{S:Nat->Prop}{R x:Fm}{w W:WD}{v:Value}(h:∀W,BW w W->aL w S x (RT v) W)(a:BW w W)(e:R=x):aL w S R (RT v) W:=by subst e;exact h W a
def Ax(a:OA)(n c:Nat)(b:OA)(m d:Nat)(x y:Fm)(w:WD)(E:FA w a n x)(F:FA w b m y)(O:dV x)(P:dV y)(hn:n+m<=100000)(hc:n<=c)(X:c<=maxLen)(hd:m<=d)(Y:d<=maxLen)(S:Nat->Prop)(ad:∀g o,a=some (AD g o)->S g)(ae:∀g o,b=some (AD g o)->S g):
 CL 163 #[IV 5,.slice a n c,.slice b m d] w (aL w S (Fm.fY true x y)):=by
 have L:Hid (CL 103 #[IV 5,SV w.heap.size 2 2] (w.alloc (.cells #[.slice a n c,.slice b m d] 148)) (aL w S (Fm.and x y))):=gR Fm.gC.and a n c b m d w E F (by omega)
 have l:Hid (∀W,BW w W->CL 162 #[.slice a n c] W λe C=>e=RT (IV (Fm.aO x).1)/\C=W):=λW i=>kT a n c x W (E.af i) (by omega)
 have p:Hid (∀W,BW w W->CL 162 #[.slice b m d] W λe C=>e=RT (IV (Fm.aO y).1)/\C=W):=λW i=>kT b m d y W (F.af i) (by omega)
 have K:Hid (∀W,BW w W->CL 180 #[.slice a n c,.slice b m d] W λe C=>e=RT (.bool (Fm.same x y))/\BW W C):=λW i=>jj a n c x b m d y W (E.af i) (F.af i) (by omega) (by omega)
 have J:Hid (∀W,BW w W->CL 181 #[.slice a n c,.slice b m d] W λe C=>e=RT (.bool (Fm.j7 x y))/\C=W):=λW i=>yr a n c x b m d y W (E.af i) (F.af i) (by omega) (by omega)
 have q:Hid (∀W,BW w W->CL 182 #[.slice b m d,IV 6,.slice a n c] W λe C=>e=RT (.bool (Fm.has false y x))/\BW W C):=λW i=>uM false b m d y a n c x W (F.af i) (E.af i) P (by omega) (by omega) hd Y
 have r:Hid (∀W,BW w W->CL 182 #[.slice a n c,IV 6,.slice b m d] W λe C=>e=RT (.bool (Fm.has false x y))/\BW W C):=λW i=>uM false a n c x b m d y W (E.af i) (F.af i) O (by omega) (by omega) hc X
 have s:Hid (∀W,BW w W->aL w S x (RT (.slice a n c)) W):=λW i=>aL.Li E hc X ad i
 have t:Hid (∀W,BW w W->aL w S y (RT (.slice b m d)) W):=λW i=>aL.Li F hd Y ae i
 have HR:Hid (Fm.fY true x y=if((Fm.aO x).1==2)||((Fm.aO y).1==2)then Fm.ff else if((Fm.aO x).1==1)then y else if((Fm.aO y).1==1)||Fm.same x y then x else if Fm.j7 x y then Fm.ff else if Fm.has false y x then x else if Fm.has false x y then y else Fm.mq true x y):=by show _=_;rw [<-ly,<-ly,<-lu,<-lu];rfl
 by_cases Q:(Fm.aO x).1=8/\(Fm.aO y).1=8
 ·obtain ⟨A,rfl⟩:=zL Q.1;obtain ⟨B,rfl⟩:=zL Q.2
  have Z:=E.size;have ac:=F.size;rw [Fm.eW]at Z ac;obtain ⟨H,rfl⟩:∃H,n=H+1:=⟨n-1,by omega⟩;obtain ⟨G,rfl⟩:∃G,m=G+1:=⟨m-1,by omega⟩;have U:=Nq (E.one Fm.One.cM);have V:=Nq (F.one Fm.One.cM);obtain ⟨ab,ao,rfl,-⟩:=E.at (Fm.cL _);obtain ⟨bb,bo,rfl,-⟩:=F.at (Fm.cL _);have u:Hid (∀W,BW w W->CL 103 #[IV 5,SV W.heap.size 2 2] (W.alloc (.cells #[.slice (some (AD ab ao)) H c,.slice (some (AD bb bo)) G d] 148)) (aL W S (Fm.and A B))):=λW i=>gR Fm.gC.and _ H c _ G d W (U.o.af i) (V.o.af i) (by omega);have v:Hid (∀W a n c,FA W a n (Fm.and A B)->CL 103 #[IV 8,SV W.heap.size 1 1] (W.alloc (.cells #[.slice a n c] 148)) (aL W S (Fm.cM (Fm.and A B)))):=λW a n c h=>nu Fm.One.cM a n c W h (by have:=h.size;rw [Fm.kd]at this;omega);rw [HR.o];change Calls _ _ _ _ (aL w S (if((8:Int)==2)||((8:Int)==2)then Fm.ff else if((8:Int)==1)then Fm.cM B else if((8:Int)==1)||Fm.same (Fm.cM A) (Fm.cM B)then Fm.cM A else if Fm.j7 (Fm.cM A) (Fm.cM B)then Fm.ff else if Fm.has false (Fm.cM B) (Fm.cM A)then Fm.cM A else if Fm.has false (Fm.cM A) (Fm.cM B)then Fm.cM B else Fm.cM (Fm.and A B)));change Hid (∀W,BW w W->CL 162 _ W λe C=>e=RT (IV 8)/\C=W)at l;change Hid (∀W,BW w W->CL 162 _ W λe C=>e=RT (IV 8)/\C=W)at p;clear E F O P HR Q Z ac U V;generalize Fm.same (Fm.cM A) (Fm.cM B)=p1 at *;generalize Fm.j7 (Fm.cM A) (Fm.cM B)=p2 at *;generalize Fm.has false (Fm.cM B) (Fm.cM A)=p3 at *;generalize Fm.has false (Fm.cM A) (Fm.cM B)=p4 at *;generalize Fm.cM A=x at *;generalize Fm.cM B=y at *;obtain ⟨R,M⟩:=EX ((if((8:Int)==2)||((8:Int)==2)then Fm.ff else if((8:Int)==1)then y else if((8:Int)==1)||p1 then x else if p2 then Fm.ff else if p3 then x else if p4 then y else Fm.cM (Fm.and A B)));rw [M];have j:=Nq M;clear M;have t1:(H:Int)<=(c:Int):=by omega
  have t2:(G:Int)<=(d:Int):=by omega
  have t3:(0:Int)<=(H:Int):=by omega
  have t4:(0:Int)<=(G:Int):=by omega
  have t5:H<=c:=by omega
  have t6:G<=d:=by omega
  have u1:IntKind.i64.wrap (H:Int)=(H:Int):=Pf _ (by omega);have u2:IntKind.i64.wrap (G:Int)=(G:Int):=Pf _ (by omega);have u3:IntKind.i64.wrap ((H:Int)+1-1)=(H:Int):=by rw [Qv];exact u1
  have u4:IntKind.i64.wrap ((G:Int)+1-1)=(G:Int):=by rw [Qv];exact u2
  go_enter Tryz.func163,Tryz.ntmps163;go_wp2;refine jL 0 rfl (λQ1 D=>?_);go_wp2_with (first
  |(go_at_call 103;refine L.o.mono ?_;rintro e w2 z;obtain ⟨a',n',c',rfl⟩:=z.shape;have k:=Nq z;have f:=Nq z.af;clear z)
  |(go_at_call 162;with_reducible refine (l.o _ f.o).mono ?_;rintro e I ⟨rfl,rfl⟩)
  |(go_at_call 162;with_reducible refine (p.o _ f.o).mono ?_;rintro e I ⟨rfl,rfl⟩)
  |(go_at_call 180;refine (K.o _ f.o).mono ?_;rintro e I ⟨rfl,i⟩;have f:=Nq (aa f.o i);have k:=Nq (k.o.later i);clear i)
  |(go_at_call 181;refine (J.o _ f.o).mono ?_;rintro e I ⟨rfl,rfl⟩)
  |(go_at_call 182;with_reducible refine (q.o _ f.o).mono ?_;rintro e I ⟨rfl,i⟩;have f:=Nq (aa f.o i);have k:=Nq (k.o.later i);clear i)
  |(go_at_call 182;with_reducible refine (r.o _ f.o).mono ?_;rintro e I ⟨rfl,i⟩;have f:=Nq (aa f.o i);have k:=Nq (k.o.later i);clear i))
  all_goals first
   |(go_step3
     change Q1 (Exit.goto 0) _ _;refine D.o.1 _ _ ?_;go_light;go_wp2;go_ret;first
      |(refine DF f.o ?_;have N:=j.o;clear j s t f k;(try clear L);(try clear l);(try clear p);(try clear K);(try clear J);(try clear q);(try clear r);(try clear u);(try clear v);(try clear D);simp_all;done)
      |(refine jz s.o f.o ?_;have N:=j.o;clear j s t f k;(try clear L);(try clear l);(try clear p);(try clear K);(try clear J);(try clear q);(try clear r);(try clear u);(try clear v);(try clear D);simp_all;done)
      |(refine jz t.o f.o ?_;have N:=j.o;clear j s t f k;(try clear L);(try clear l);(try clear p);(try clear K);(try clear J);(try clear q);(try clear r);(try clear u);(try clear v);(try clear D);simp_all;done))
   |skip
  have f:=Nq f.o.drew;go_region_held3 (λW=>Hid (BW w W))
   (first|assumption|exact Nq (iX (Hid.o (by assumption)) _))
   (first
    |(go_at_call 103;refine (u.o _ f.o).mono ?_;clear u;rintro e w5 z;obtain ⟨a5,n5,c5,rfl⟩:=z.shape;have k:=Nq (aL.from f.o z);have f:=Nq k.o.af;clear z)
    |(go_at_call 103;refine (v.o _ _ _ _ k.o.fa.1).mono ?_;rintro e w6 z;obtain ⟨a6,n6,c6,rfl⟩:=z.shape;have k:=Nq (aL.from f.o z);have f:=Nq k.o.af;clear z))
  go_wp2;go_step3;go_wp2;refine D.o.2.1 _ _ ?_;go_light;go_ret;rw [show R=Fm.cM (Fm.and A B)from by have N:=j.o;clear j s t f k;(try clear L);(try clear l);(try clear p);(try clear K);(try clear J);(try clear q);(try clear r);(try clear u);(try clear v);(try clear D);simp_all];exact k.o
 ·have T:Hid (Fm.mq true x y=Fm.and x y):=yb (c:=true) Q;rw [HR.o,T.o]
  clear E F O P HR T;generalize (Fm.aO x).1=ox at *;generalize (Fm.aO y).1=oy at *;generalize Fm.same x y=p1 at *;generalize Fm.j7 x y=p2 at *;generalize Fm.has false y x=p3 at *;generalize Fm.has false x y=p4 at *;obtain ⟨R,M⟩:=EX ((if(ox==2)||(oy==2)then Fm.ff else if(ox==1)then y else if(oy==1)||p1 then x else if p2 then Fm.ff else if p3 then x else if p4 then y else Fm.and x y));rw [M];have j:=Nq M;clear M;have h9:(ox==8&&oy==8)=false:=by simpa using Q
  have af:ox=8->(oy==8)=false:=by simpa using Q
  go_enter Tryz.func163,Tryz.ntmps163;go_wp2;refine jL 0 rfl (λQ1 D=>?_);go_wp2_with (first
  |(go_at_call 103;refine L.o.mono ?_;rintro e w2 z;obtain ⟨a',n',c',rfl⟩:=z.shape;have k:=Nq z;have f:=Nq z.af;clear z)
  |(go_at_call 162;with_reducible refine (l.o _ f.o).mono ?_;rintro e I ⟨rfl,rfl⟩)
  |(go_at_call 162;with_reducible refine (p.o _ f.o).mono ?_;rintro e I ⟨rfl,rfl⟩)
  |(go_at_call 180;refine (K.o _ f.o).mono ?_;rintro e I ⟨rfl,i⟩;have f:=Nq (aa f.o i);have k:=Nq (k.o.later i);clear i)
  |(go_at_call 181;refine (J.o _ f.o).mono ?_;rintro e I ⟨rfl,rfl⟩)
  |(go_at_call 182;with_reducible refine (q.o _ f.o).mono ?_;rintro e I ⟨rfl,i⟩;have f:=Nq (aa f.o i);have k:=Nq (k.o.later i);clear i)
  |(go_at_call 182;with_reducible refine (r.o _ f.o).mono ?_;rintro e I ⟨rfl,i⟩;have f:=Nq (aa f.o i);have k:=Nq (k.o.later i);clear i))
  all_goals first
   |(go_step3
     change Q1 (Exit.goto 0) _ _;refine D.o.1 _ _ ?_;go_light;go_wp2;go_ret;first
      |(refine DF f.o ?_;have N:=j.o;clear j s t f k;(try clear L);(try clear l);(try clear p);(try clear K);(try clear J);(try clear q);(try clear r);(try clear u);(try clear v);(try clear D);simp_all;done)
      |(refine jz s.o f.o ?_;have N:=j.o;clear j s t f k;(try clear L);(try clear l);(try clear p);(try clear K);(try clear J);(try clear q);(try clear r);(try clear u);(try clear v);(try clear D);simp_all;done)
      |(refine jz t.o f.o ?_;have N:=j.o;clear j s t f k;(try clear L);(try clear l);(try clear p);(try clear K);(try clear J);(try clear q);(try clear r);(try clear u);(try clear v);(try clear D);simp_all;done))
   |skip
  all_goals
   go_step3
   go_wp2
   refine D.o.2.1 _ _ ?_
   go_light
   go_ret
   rw [show R=Fm.and x y from by have N:=j.o;clear j s t f k;(try clear L);(try clear l);(try clear p);(try clear K);(try clear J);(try clear q);(try clear r);(try clear u);(try clear v);(try clear D);simp_all]
   exact k.o
def Cc(a:OA)(n c:Nat)(b:OA)(m d:Nat)(x y:Fm)(w:WD)(E:FA w a n x)(F:FA w b m y)(O:dV x)(P:dV y)(hn:n+m<=100000)(hc:n<=c)(X:c<=maxLen)(hd:m<=d)(Y:d<=maxLen)(S:Nat->Prop)(ad:∀g o,a=some (AD g o)->S g)(ae:∀g o,b=some (AD g o)->S g):
 CL 163 #[IV 6,.slice a n c,.slice b m d] w (aL w S (Fm.fY false x y)):=by
 have L:Hid (CL 103 #[IV 6,SV w.heap.size 2 2] (w.alloc (.cells #[.slice a n c,.slice b m d] 148)) (aL w S (Fm.or x y))):=gR Fm.gC.or a n c b m d w E F (by omega)
 have l:Hid (∀W,BW w W->CL 162 #[.slice a n c] W λe C=>e=RT (IV (Fm.aO x).1)/\C=W):=λW i=>kT a n c x W (E.af i) (by omega)
 have p:Hid (∀W,BW w W->CL 162 #[.slice b m d] W λe C=>e=RT (IV (Fm.aO y).1)/\C=W):=λW i=>kT b m d y W (F.af i) (by omega)
 have K:Hid (∀W,BW w W->CL 180 #[.slice a n c,.slice b m d] W λe C=>e=RT (.bool (Fm.same x y))/\BW W C):=λW i=>jj a n c x b m d y W (E.af i) (F.af i) (by omega) (by omega)
 have J:Hid (∀W,BW w W->CL 181 #[.slice a n c,.slice b m d] W λe C=>e=RT (.bool (Fm.j7 x y))/\C=W):=λW i=>yr a n c x b m d y W (E.af i) (F.af i) (by omega) (by omega)
 have q:Hid (∀W,BW w W->CL 182 #[.slice b m d,IV 5,.slice a n c] W λe C=>e=RT (.bool (Fm.has true y x))/\BW W C):=λW i=>uM true b m d y a n c x W (F.af i) (E.af i) P (by omega) (by omega) hd Y
 have r:Hid (∀W,BW w W->CL 182 #[.slice a n c,IV 5,.slice b m d] W λe C=>e=RT (.bool (Fm.has true x y))/\BW W C):=λW i=>uM true a n c x b m d y W (E.af i) (F.af i) O (by omega) (by omega) hc X
 have s:Hid (∀W,BW w W->aL w S x (RT (.slice a n c)) W):=λW i=>aL.Li E hc X ad i
 have t:Hid (∀W,BW w W->aL w S y (RT (.slice b m d)) W):=λW i=>aL.Li F hd Y ae i
 have HR:Hid (Fm.fY false x y=if((Fm.aO x).1==1)||((Fm.aO y).1==1)then Fm.tt else if((Fm.aO x).1==2)then y else if((Fm.aO y).1==2)||Fm.same x y then x else if Fm.j7 x y then Fm.tt else if Fm.has true y x then x else if Fm.has true x y then y else Fm.mq false x y):=by show _=_;rw [<-ly,<-ly,<-lu,<-lu];rfl
 by_cases Q:(Fm.aO x).1=8/\(Fm.aO y).1=8
 ·obtain ⟨A,rfl⟩:=zL Q.1;obtain ⟨B,rfl⟩:=zL Q.2
  have Z:=E.size;have ac:=F.size;rw [Fm.eW]at Z ac;obtain ⟨H,rfl⟩:∃H,n=H+1:=⟨n-1,by omega⟩;obtain ⟨G,rfl⟩:∃G,m=G+1:=⟨m-1,by omega⟩;have U:=Nq (E.one Fm.One.cM);have V:=Nq (F.one Fm.One.cM);obtain ⟨ab,ao,rfl,-⟩:=E.at (Fm.cL _);obtain ⟨bb,bo,rfl,-⟩:=F.at (Fm.cL _);have u:Hid (∀W,BW w W->CL 103 #[IV 6,SV W.heap.size 2 2] (W.alloc (.cells #[.slice (some (AD ab ao)) H c,.slice (some (AD bb bo)) G d] 148)) (aL W S (Fm.or A B))):=λW i=>gR Fm.gC.or _ H c _ G d W (U.o.af i) (V.o.af i) (by omega);have v:Hid (∀W a n c,FA W a n (Fm.or A B)->CL 103 #[IV 8,SV W.heap.size 1 1] (W.alloc (.cells #[.slice a n c] 148)) (aL W S (Fm.cM (Fm.or A B)))):=λW a n c h=>nu Fm.One.cM a n c W h (by have:=h.size;rw [Fm.mf]at this;omega);rw [HR.o];change Calls _ _ _ _ (aL w S (if((8:Int)==1)||((8:Int)==1)then Fm.tt else if((8:Int)==2)then Fm.cM B else if((8:Int)==2)||Fm.same (Fm.cM A) (Fm.cM B)then Fm.cM A else if Fm.j7 (Fm.cM A) (Fm.cM B)then Fm.tt else if Fm.has true (Fm.cM B) (Fm.cM A)then Fm.cM A else if Fm.has true (Fm.cM A) (Fm.cM B)then Fm.cM B else Fm.cM (Fm.or A B)));change Hid (∀W,BW w W->CL 162 _ W λe C=>e=RT (IV 8)/\C=W)at l;change Hid (∀W,BW w W->CL 162 _ W λe C=>e=RT (IV 8)/\C=W)at p;clear E F O P HR Q Z ac U V;generalize Fm.same (Fm.cM A) (Fm.cM B)=p1 at *;generalize Fm.j7 (Fm.cM A) (Fm.cM B)=p2 at *;generalize Fm.has true (Fm.cM B) (Fm.cM A)=p3 at *;generalize Fm.has true (Fm.cM A) (Fm.cM B)=p4 at *;generalize Fm.cM A=x at *;generalize Fm.cM B=y at *;obtain ⟨R,M⟩:=EX ((if((8:Int)==1)||((8:Int)==1)then Fm.tt else if((8:Int)==2)then y else if((8:Int)==2)||p1 then x else if p2 then Fm.tt else if p3 then x else if p4 then y else Fm.cM (Fm.or A B)));rw [M];have j:=Nq M;clear M;have t1:(H:Int)<=(c:Int):=by omega
  have t2:(G:Int)<=(d:Int):=by omega
  have t3:(0:Int)<=(H:Int):=by omega
  have t4:(0:Int)<=(G:Int):=by omega
  have t5:H<=c:=by omega
  have t6:G<=d:=by omega
  have u1:IntKind.i64.wrap (H:Int)=(H:Int):=Pf _ (by omega);have u2:IntKind.i64.wrap (G:Int)=(G:Int):=Pf _ (by omega);have u3:IntKind.i64.wrap ((H:Int)+1-1)=(H:Int):=by rw [Qv];exact u1
  have u4:IntKind.i64.wrap ((G:Int)+1-1)=(G:Int):=by rw [Qv];exact u2
  go_enter Tryz.func163,Tryz.ntmps163;go_wp2;refine jL 0 rfl (λQ1 D=>?_);go_wp2_with (first
  |(go_at_call 103;refine L.o.mono ?_;rintro e w2 z;obtain ⟨a',n',c',rfl⟩:=z.shape;have k:=Nq z;have f:=Nq z.af;clear z)
  |(go_at_call 162;with_reducible refine (l.o _ f.o).mono ?_;rintro e I ⟨rfl,rfl⟩)
  |(go_at_call 162;with_reducible refine (p.o _ f.o).mono ?_;rintro e I ⟨rfl,rfl⟩)
  |(go_at_call 180;refine (K.o _ f.o).mono ?_;rintro e I ⟨rfl,i⟩;have f:=Nq (aa f.o i);have k:=Nq (k.o.later i);clear i)
  |(go_at_call 181;refine (J.o _ f.o).mono ?_;rintro e I ⟨rfl,rfl⟩)
  |(go_at_call 182;with_reducible refine (q.o _ f.o).mono ?_;rintro e I ⟨rfl,i⟩;have f:=Nq (aa f.o i);have k:=Nq (k.o.later i);clear i)
  |(go_at_call 182;with_reducible refine (r.o _ f.o).mono ?_;rintro e I ⟨rfl,i⟩;have f:=Nq (aa f.o i);have k:=Nq (k.o.later i);clear i))
  all_goals first
   |(go_step3
     change Q1 (Exit.goto 0) _ _;refine D.o.1 _ _ ?_;go_light;go_wp2;go_ret;first
      |(refine DG f.o ?_;have N:=j.o;clear j s t f k;(try clear L);(try clear l);(try clear p);(try clear K);(try clear J);(try clear q);(try clear r);(try clear u);(try clear v);(try clear D);simp_all;done)
      |(refine jz s.o f.o ?_;have N:=j.o;clear j s t f k;(try clear L);(try clear l);(try clear p);(try clear K);(try clear J);(try clear q);(try clear r);(try clear u);(try clear v);(try clear D);simp_all;done)
      |(refine jz t.o f.o ?_;have N:=j.o;clear j s t f k;(try clear L);(try clear l);(try clear p);(try clear K);(try clear J);(try clear q);(try clear r);(try clear u);(try clear v);(try clear D);simp_all;done))
   |skip
  have f:=Nq f.o.drew;go_region_held3 (λW=>Hid (BW w W))
   (first|assumption|exact Nq (iX (Hid.o (by assumption)) _))
   (first
    |(go_at_call 103;refine (u.o _ f.o).mono ?_;clear u;rintro e w5 z;obtain ⟨a5,n5,c5,rfl⟩:=z.shape;have k:=Nq (aL.from f.o z);have f:=Nq k.o.af;clear z)
    |(go_at_call 103;refine (v.o _ _ _ _ k.o.fa.1).mono ?_;rintro e w6 z;obtain ⟨a6,n6,c6,rfl⟩:=z.shape;have k:=Nq (aL.from f.o z);have f:=Nq k.o.af;clear z))
  go_wp2;go_step3;go_wp2;refine D.o.2.1 _ _ ?_;go_light;go_ret;rw [show R=Fm.cM (Fm.or A B)from by have N:=j.o;clear j s t f k;(try clear L);(try clear l);(try clear p);(try clear K);(try clear J);(try clear q);(try clear r);(try clear u);(try clear v);(try clear D);simp_all];exact k.o
 ·have T:Hid (Fm.mq false x y=Fm.or x y):=yb (c:=false) Q;rw [HR.o,T.o]
  clear E F O P HR T;generalize (Fm.aO x).1=ox at *;generalize (Fm.aO y).1=oy at *;generalize Fm.same x y=p1 at *;generalize Fm.j7 x y=p2 at *;generalize Fm.has true y x=p3 at *;generalize Fm.has true x y=p4 at *;obtain ⟨R,M⟩:=EX ((if(ox==1)||(oy==1)then Fm.tt else if(ox==2)then y else if(oy==2)||p1 then x else if p2 then Fm.tt else if p3 then x else if p4 then y else Fm.or x y));rw [M];have j:=Nq M;clear M;have h9:(ox==8&&oy==8)=false:=by simpa using Q
  have af:ox=8->(oy==8)=false:=by simpa using Q
  go_enter Tryz.func163,Tryz.ntmps163;go_wp2;refine jL 0 rfl (λQ1 D=>?_);go_wp2_with (first
  |(go_at_call 103;refine L.o.mono ?_;rintro e w2 z;obtain ⟨a',n',c',rfl⟩:=z.shape;have k:=Nq z;have f:=Nq z.af;clear z)
  |(go_at_call 162;with_reducible refine (l.o _ f.o).mono ?_;rintro e I ⟨rfl,rfl⟩)
  |(go_at_call 162;with_reducible refine (p.o _ f.o).mono ?_;rintro e I ⟨rfl,rfl⟩)
  |(go_at_call 180;refine (K.o _ f.o).mono ?_;rintro e I ⟨rfl,i⟩;have f:=Nq (aa f.o i);have k:=Nq (k.o.later i);clear i)
  |(go_at_call 181;refine (J.o _ f.o).mono ?_;rintro e I ⟨rfl,rfl⟩)
  |(go_at_call 182;with_reducible refine (q.o _ f.o).mono ?_;rintro e I ⟨rfl,i⟩;have f:=Nq (aa f.o i);have k:=Nq (k.o.later i);clear i)
  |(go_at_call 182;with_reducible refine (r.o _ f.o).mono ?_;rintro e I ⟨rfl,i⟩;have f:=Nq (aa f.o i);have k:=Nq (k.o.later i);clear i))
  all_goals first
   |(go_step3
     change Q1 (Exit.goto 0) _ _;refine D.o.1 _ _ ?_;go_light;go_wp2;go_ret;first
      |(refine DG f.o ?_;have N:=j.o;clear j s t f k;(try clear L);(try clear l);(try clear p);(try clear K);(try clear J);(try clear q);(try clear r);(try clear u);(try clear v);(try clear D);simp_all;done)
      |(refine jz s.o f.o ?_;have N:=j.o;clear j s t f k;(try clear L);(try clear l);(try clear p);(try clear K);(try clear J);(try clear q);(try clear r);(try clear u);(try clear v);(try clear D);simp_all;done)
      |(refine jz t.o f.o ?_;have N:=j.o;clear j s t f k;(try clear L);(try clear l);(try clear p);(try clear K);(try clear J);(try clear q);(try clear r);(try clear u);(try clear v);(try clear D);simp_all;done))
   |skip
  all_goals
   go_step3
   go_wp2
   refine D.o.2.1 _ _ ?_
   go_light
   go_ret
   rw [show R=Fm.or x y from by have N:=j.o;clear j s t f k;(try clear L);(try clear l);(try clear p);(try clear K);(try clear J);(try clear q);(try clear r);(try clear u);(try clear v);(try clear D);simp_all]
   exact k.o
def QI:=@Go.rounds_succ
def SH:=@Go.wp_loop_rounds
def ED{y:Fm}(h:(Fm.aO y).1=9)(x:Fm):∃l q,Fm.gC l q y/\Fm.again false x y=Fm.same l x:=by
 cases y<;>simp [Fm.aO]at h
 exact ⟨_,_,.dw,by simp [Fm.again]⟩
def EC{y:Fm}(h:(Fm.aO y).1=10)(x:Fm):∃l q,Fm.gC l q y/\Fm.again true x y=Fm.same l x:=by
 cases y<;>simp [Fm.aO]at h
 exact ⟨_,_,.rel,by simp [Fm.again]⟩
def EB{y:Fm}(h:¬(Fm.aO y).1=9)(x:Fm):Fm.again false x y=false:=by cases y<;>first|rfl|exact absurd rfl h
def EA{y:Fm}(h:¬(Fm.aO y).1=10)(x:Fm):Fm.again true x y=false:=by cases y<;>first|rfl|exact absurd rfl h
def Fl(a:OA)(n c:Nat)(b:OA)(m d:Nat)(x y:Fm)(w:WD)(I:FA w a n x)(A:FA w b m y)(E:dV y)(hn:n+m<=100000)(T:m<=d)(M:d<=maxLen)(S:Nat->Prop)(O:∀g o,b=some (AD g o)->S g):
 CL 164 #[IV 9,.slice a n c,.slice b m d] w (aL w S (Fm.eD false x y)):=by
 have k:Hid (∀W,BW w W->CL 137 #[.slice b m d] W λe B=>e=RT (.bool (Fm.jB y||Fm.jA y))/\B=W):=λW f=>vj b m d y W (A.af f) (by omega)
 have p:Hid (∀W,BW w W->CL 162 #[.slice a n c] W λe B=>e=RT (IV (Fm.aO x).1)/\B=W):=λW f=>kT a n c x W (I.af f) (by omega)
 have j:Hid (∀W,BW w W->CL 162 #[.slice b m d] W λe B=>e=RT (IV (Fm.aO y).1)/\B=W):=λW f=>kT b m d y W (A.af f) (by omega)
 have G:Hid (∀W,BW w W->CL 180 #[.slice a n c,.slice b m d] W λe B=>e=RT (.bool (Fm.same x y))/\BW W B):=λW f=>jj a n c x b m d y W (I.af f) (A.af f) (by omega) (by omega)
 have H:Hid (∀W,BW w W->CL 103 #[IV 9,SV W.heap.size 2 2] (W.alloc (.cells #[.slice a n c,.slice b m d] 148)) (aL W S (Fm.dw x y))):=λW f=>gR Fm.gC.dw a n c b m d W (I.af f) (A.af f) (by omega)
 have r:Hid (∀W,BW w W->aL w S y (RT (.slice b m d)) W):=λW f=>aL.Li A T M O f
 have h:Hid (BW w w):=Nx _ _
 have C:Hid (Fm.jA x=((Fm.aO x).1==2)):=lu x
 by_cases t:(Fm.aO y).1=9
 ·obtain ⟨l,q,N,z⟩:=ED t x;have X:=N.size
  have Q:=A.size;obtain ⟨K,L,rfl,-⟩:=A.at (Fm.cL _);have F:Hid (∀W,BW w W->CL 183 #[.slice (some (AD K L)) m d] W λe B=>e=RT (.tuple #[.slice (some (AD K L)) (Fm.size l) d,.slice (some (AD K (L+Fm.size l*2))) (Fm.size q) (d-Fm.size l)])/\BW W B):=λW f=>lH K L m d y l q W (A.af f) N E (by omega) T M;have s:Hid (∀W,BW w W->CL 180 #[.slice (some (AD K L)) (Fm.size l) d,.slice a n c] W λe B=>e=RT (.bool (Fm.same l x))/\BW W B):=λW f=>jj _ _ d l a n c x W ((A.aR N).1.af f) (I.af f) (by omega) (by omega);obtain ⟨R,v⟩:=EX (Fm.eD false x y);rw [v];unfold Fm.eD at v;rw [show Fm.EV false x=Fm.jA x from rfl,C.o,z]at v;rw [t]at j;have i:Hid ((if(Fm.jB y||Fm.jA y||((Fm.aO x).1==2)||Fm.same x y)=true then y else if Fm.same l x=true then y else Fm.dw x y)=R):=v;clear v I A E C N t X Q z;generalize (Fm.jB y||Fm.jA y)=p1 at *;generalize (Fm.aO x).1=Z at *;generalize Fm.same x y=p2 at *;generalize Fm.same l x=p3 at *;generalize Fm.size l=sl at *;generalize Fm.size q=sq at *;go_enter Tryz.func164,Tryz.ntmps164;go_wp2_with (first
   |(go_at_call 137;refine (k.o _ h.o).mono ?_;rintro e u ⟨rfl,rfl⟩)
   |(go_at_call 162;with_reducible refine (p.o _ h.o).mono ?_;rintro e u ⟨rfl,rfl⟩)
   |(go_at_call 162;with_reducible refine (j.o _ h.o).mono ?_;rintro e u ⟨rfl,rfl⟩)
   |(go_at_call 183;refine (F.o _ h.o).mono ?_;rintro e u ⟨rfl,f⟩;have h:=Nq (aa h.o f);clear f)
   |(go_at_call 180;with_reducible refine (G.o _ h.o).mono ?_;rintro e u ⟨rfl,f⟩;have h:=Nq (aa h.o f);clear f)
   |(go_at_call 180;with_reducible refine (s.o _ h.o).mono ?_;rintro e u ⟨rfl,f⟩;have h:=Nq (aa h.o f);clear f)
   |(go_at_call 103;refine (H.o _ h.o).mono ?_;rintro e u D;obtain ⟨U,Y,V,rfl⟩:=D.shape;have J:=Nq (aL.from h.o D);clear D))
  all_goals
   go_ret
   first
    |(refine jz r.o h.o ?_;have P:=i.o;clear i r h;(try clear k);(try clear p);(try clear j);(try clear G);(try clear s);(try clear F);(try clear H);simp_all;done)
    |(rw [show R=Fm.dw x y from by have P:=i.o;clear i r h J;(try clear k);(try clear p);(try clear j);(try clear G);(try clear s);(try clear F);(try clear H);simp_all]
      exact J.o)
 ·have z:Fm.again false x y=false:=EB t x;obtain ⟨R,v⟩:=EX (Fm.eD false x y)
  rw [v];unfold Fm.eD at v;rw [show Fm.EV false x=Fm.jA x from rfl,C.o,z]at v;have i:Hid ((if(Fm.jB y||Fm.jA y||((Fm.aO x).1==2)||Fm.same x y)=true then y else Fm.dw x y)=R):=by show _=_;rw [<-v];simp only [ON,P6];rfl
  have t0:((Fm.aO y).1==9)=false:=NC.2 t;clear v I A E C z t;generalize (Fm.jB y||Fm.jA y)=p1 at *;generalize (Fm.aO x).1=Z at *;generalize (Fm.aO y).1=oy at *;generalize Fm.same x y=p2 at *;go_enter Tryz.func164,Tryz.ntmps164;go_wp2_with (first
   |(go_at_call 137;refine (k.o _ h.o).mono ?_;rintro e u ⟨rfl,rfl⟩)
   |(go_at_call 162;with_reducible refine (p.o _ h.o).mono ?_;rintro e u ⟨rfl,rfl⟩)
   |(go_at_call 162;with_reducible refine (j.o _ h.o).mono ?_;rintro e u ⟨rfl,rfl⟩)
   |(go_at_call 183;refine (F.o _ h.o).mono ?_;rintro e u ⟨rfl,f⟩;have h:=Lib.hid (aa h.o f);clear f)
   |(go_at_call 180;with_reducible refine (G.o _ h.o).mono ?_;rintro e u ⟨rfl,f⟩;have h:=Nq (aa h.o f);clear f)
   |(go_at_call 180;with_reducible refine (s.o _ h.o).mono ?_;rintro e u ⟨rfl,f⟩;have h:=Lib.hid (aa h.o f);clear f)
   |(go_at_call 103;refine (H.o _ h.o).mono ?_;rintro e u D;obtain ⟨U,Y,V,rfl⟩:=D.shape;have J:=Nq (aL.from h.o D);clear D))
  all_goals
   go_ret
   first
    |(refine jz r.o h.o ?_;have P:=i.o;clear i r h;(try clear k);(try clear p);(try clear j);(try clear G);(try clear s);(try clear F);(try clear H);simp_all;done)
    |(rw [show R=Fm.dw x y from by have P:=i.o;clear i r h J;(try clear k);(try clear p);(try clear j);(try clear G);(try clear s);(try clear F);(try clear H);simp_all]
      exact J.o)
def Fk(a:OA)(n c:Nat)(b:OA)(m d:Nat)(x y:Fm)(w:WD)(I:FA w a n x)(A:FA w b m y)(E:dV y)(hn:n+m<=100000)(T:m<=d)(M:d<=maxLen)(S:Nat->Prop)(O:∀g o,b=some (AD g o)->S g):
 CL 164 #[IV 10,.slice a n c,.slice b m d] w (aL w S (Fm.eD true x y)):=by
 have k:Hid (∀W,BW w W->CL 137 #[.slice b m d] W λe B=>e=RT (.bool (Fm.jB y||Fm.jA y))/\B=W):=λW f=>vj b m d y W (A.af f) (by omega)
 have p:Hid (∀W,BW w W->CL 162 #[.slice a n c] W λe B=>e=RT (IV (Fm.aO x).1)/\B=W):=λW f=>kT a n c x W (I.af f) (by omega)
 have j:Hid (∀W,BW w W->CL 162 #[.slice b m d] W λe B=>e=RT (IV (Fm.aO y).1)/\B=W):=λW f=>kT b m d y W (A.af f) (by omega)
 have G:Hid (∀W,BW w W->CL 180 #[.slice a n c,.slice b m d] W λe B=>e=RT (.bool (Fm.same x y))/\BW W B):=λW f=>jj a n c x b m d y W (I.af f) (A.af f) (by omega) (by omega)
 have H:Hid (∀W,BW w W->CL 103 #[IV 10,SV W.heap.size 2 2] (W.alloc (.cells #[.slice a n c,.slice b m d] 148)) (aL W S (Fm.rel x y))):=λW f=>gR Fm.gC.rel a n c b m d W (I.af f) (A.af f) (by omega)
 have r:Hid (∀W,BW w W->aL w S y (RT (.slice b m d)) W):=λW f=>aL.Li A T M O f
 have h:Hid (BW w w):=Nx _ _
 have C:Hid (Fm.jB x=((Fm.aO x).1==1)):=ly x
 by_cases t:(Fm.aO y).1=10
 ·obtain ⟨l,q,N,z⟩:=EC t x;have X:=N.size
  have Q:=A.size;obtain ⟨K,L,rfl,-⟩:=A.at (Fm.cL _);have F:Hid (∀W,BW w W->CL 183 #[.slice (some (AD K L)) m d] W λe B=>e=RT (.tuple #[.slice (some (AD K L)) (Fm.size l) d,.slice (some (AD K (L+Fm.size l*2))) (Fm.size q) (d-Fm.size l)])/\BW W B):=λW f=>lH K L m d y l q W (A.af f) N E (by omega) T M;have s:Hid (∀W,BW w W->CL 180 #[.slice (some (AD K L)) (Fm.size l) d,.slice a n c] W λe B=>e=RT (.bool (Fm.same l x))/\BW W B):=λW f=>jj _ _ d l a n c x W ((A.aR N).1.af f) (I.af f) (by omega) (by omega);obtain ⟨R,v⟩:=EX (Fm.eD true x y);rw [v];unfold Fm.eD at v;rw [show Fm.EV true x=Fm.jB x from rfl,C.o,z]at v;rw [t]at j;have i:Hid ((if(Fm.jB y||Fm.jA y||((Fm.aO x).1==1)||Fm.same x y)=true then y else if Fm.same l x=true then y else Fm.rel x y)=R):=v;clear v I A E C N t X Q z;generalize (Fm.jB y||Fm.jA y)=p1 at *;generalize (Fm.aO x).1=Z at *;generalize Fm.same x y=p2 at *;generalize Fm.same l x=p3 at *;generalize Fm.size l=sl at *;generalize Fm.size q=sq at *;go_enter Tryz.func164,Tryz.ntmps164;go_wp2_with (first
   |(go_at_call 137;refine (k.o _ h.o).mono ?_;rintro e u ⟨rfl,rfl⟩)
   |(go_at_call 162;with_reducible refine (p.o _ h.o).mono ?_;rintro e u ⟨rfl,rfl⟩)
   |(go_at_call 162;with_reducible refine (j.o _ h.o).mono ?_;rintro e u ⟨rfl,rfl⟩)
   |(go_at_call 183;refine (F.o _ h.o).mono ?_;rintro e u ⟨rfl,f⟩;have h:=Nq (aa h.o f);clear f)
   |(go_at_call 180;with_reducible refine (G.o _ h.o).mono ?_;rintro e u ⟨rfl,f⟩;have h:=Nq (aa h.o f);clear f)
   |(go_at_call 180;with_reducible refine (s.o _ h.o).mono ?_;rintro e u ⟨rfl,f⟩;have h:=Nq (aa h.o f);clear f)
   |(go_at_call 103;refine (H.o _ h.o).mono ?_;rintro e u D;obtain ⟨U,Y,V,rfl⟩:=D.shape;have J:=Nq (aL.from h.o D);clear D))
  all_goals
   go_ret
   first
    |(refine jz r.o h.o ?_;have P:=i.o;clear i r h;(try clear k);(try clear p);(try clear j);(try clear G);(try clear s);(try clear F);(try clear H);simp_all;done)
    |(rw [show R=Fm.rel x y from by have P:=i.o;clear i r h J;(try clear k);(try clear p);(try clear j);(try clear G);(try clear s);(try clear F);(try clear H);simp_all]
      exact J.o)
 ·have z:Fm.again true x y=false:=EA t x;obtain ⟨R,v⟩:=EX (Fm.eD true x y)
  rw [v];unfold Fm.eD at v;rw [show Fm.EV true x=Fm.jB x from rfl,C.o,z]at v;have i:Hid ((if(Fm.jB y||Fm.jA y||((Fm.aO x).1==1)||Fm.same x y)=true then y else Fm.rel x y)=R):=by show _=_;rw [<-v];simp only [ON,P6];rfl
  have t0:((Fm.aO y).1==10)=false:=NC.2 t;clear v I A E C z t;generalize (Fm.jB y||Fm.jA y)=p1 at *;generalize (Fm.aO x).1=Z at *;generalize (Fm.aO y).1=oy at *;generalize Fm.same x y=p2 at *;go_enter Tryz.func164,Tryz.ntmps164;go_wp2_with (first
   |(go_at_call 137;refine (k.o _ h.o).mono ?_;rintro e u ⟨rfl,rfl⟩)
   |(go_at_call 162;with_reducible refine (p.o _ h.o).mono ?_;rintro e u ⟨rfl,rfl⟩)
   |(go_at_call 162;with_reducible refine (j.o _ h.o).mono ?_;rintro e u ⟨rfl,rfl⟩)
   |(go_at_call 183;refine (F.o _ h.o).mono ?_;rintro e u ⟨rfl,f⟩;have h:=Lib.hid (aa h.o f);clear f)
   |(go_at_call 180;with_reducible refine (G.o _ h.o).mono ?_;rintro e u ⟨rfl,f⟩;have h:=Nq (aa h.o f);clear f)
   |(go_at_call 180;with_reducible refine (s.o _ h.o).mono ?_;rintro e u ⟨rfl,f⟩;have h:=Lib.hid (aa h.o f);clear f)
   |(go_at_call 103;refine (H.o _ h.o).mono ?_;rintro e u D;obtain ⟨U,Y,V,rfl⟩:=D.shape;have J:=Nq (aL.from h.o D);clear D))
  all_goals
   go_ret
   first
    |(refine jz r.o h.o ?_;have P:=i.o;clear i r h;(try clear k);(try clear p);(try clear j);(try clear G);(try clear s);(try clear F);(try clear H);simp_all;done)
    |(rw [show R=Fm.rel x y from by have P:=i.o;clear i r h J;(try clear k);(try clear p);(try clear j);(try clear G);(try clear s);(try clear F);(try clear H);simp_all]
      exact J.o)
def Dz(w:WD)(g:Nat):Prop:=w.cell? (AD g 0)=some (IV 5)/\w.cell? (AD g 1)=some (.func (.func 163) #[] #[])/\w.cell? (AD g 2)=some (IV 6)/\w.cell? (AD g 3)=some (.func (.func 163) #[] #[])/\
 w.cell? (AD g 4)=some (IV 9)/\w.cell? (AD g 5)=some (.func (.func 164) #[] #[])/\w.cell? (AD g 6)=some (IV 10)/\w.cell? (AD g 7)=some (.func (.func 164) #[] #[])
def FW(w:WD):CL 138 #[] w λe a=>∃g,e=RT (SV g 4 4)/\BW w a/\Dz a g:=by
 have b:Hid (∀W,W=w.alloc (.cells #[IV 5,.func (.func 163) #[] #[],IV 6,.func (.func 163) #[] #[],IV 9,.func (.func 164) #[] #[],IV 10,.func (.func 164) #[] #[]] 188)->BW w W/\Dz W w.heap.size):=by rintro W rfl;exact ⟨(Nx _ w).alloc (Nz _) _,NV (w:=w) _ 188 w.heap.size 0 rfl,NV (w:=w) _ 188 w.heap.size 1 rfl,NV (w:=w) _ 188 w.heap.size 2 rfl,NV (w:=w) _ 188 w.heap.size 3 rfl,NV (w:=w) _ 188 w.heap.size 4 rfl,NV (w:=w) _ 188 w.heap.size 5 rfl,NV (w:=w) _ 188 w.heap.size 6 rfl,NV (w:=w) _ 188 w.heap.size 7 rfl⟩
 go_enter Tryz.func138,Tryz.ntmps138;go_wp2;go_ret;exact ⟨_,rfl,b.o _ rfl⟩
def BH(a:Int)(x y:Fm):Fm:=if a=5 then Fm.fY true x y else if a=6 then Fm.fY false x y else if a=9 then Fm.eD false x y else Fm.eD true x y
def KE(z:Int)(aa:z=5\/z=6\/z=9\/z=10)(a:OA)(n c:Nat)(b:OA)(m d:Nat)(x y:Fm)(w:WD)(T:FA w a n x)(U:FA w b m y)(M:dV x)(G:dV y)(X:n+m<=100000)(hc:n<=c)(Q:c<=maxLen)(V:m<=d)(I:d<=maxLen)(S:Nat->Prop)(L:∀g o,a=some (AD g o)->S g)(F:∀g o,b=some (AD g o)->S g):
 CL 105 #[IV z,.slice a n c,.slice b m d] w (aL w S (BH z x y)):=by
 have l:Hid (∀W,BW w W->(z=5\/z=6)->CL 163 #[IV z,.slice a n c,.slice b m d] W (aL W S (BH z x y))):=by
  rintro W k (rfl|rfl)
  ·exact Ax a n c b m d x y W (T.af k) (U.af k) M G X hc Q V I S L F
  ·exact Cc a n c b m d x y W (T.af k) (U.af k) M G X hc Q V I S L F
 have p:Hid (∀W,BW w W->(z=9\/z=10)->CL 164 #[IV z,.slice a n c,.slice b m d] W (aL W S (BH z x y))):=by
  rintro W k (rfl|rfl)
  ·exact Fl a n c b m d x y W (T.af k) (U.af k) G X V I S F
  ·exact Fk a n c b m d x y W (T.af k) (U.af k) G X V I S F
 have B:Hid (∀W Y e,BW w W->aL W S (BH z x y) e Y->aL w S (BH z x y) e Y):=λW Y e k h=>aL.from k h
 have i:Hid (BW w w):=Nx _ _
 have q:Hid (∀W o,BW w W->BW w (W.alloc o)):=λW o h=>iX h o
 clear T U M G L F
 generalize BH z x y=R at *
 have H:=λW=>Nq (FW W)
 rcases aa with rfl|rfl|rfl|rfl
 ·have J:=λW k=>Nq (l.o W k (.inl rfl));clear l p
  go_enter Tryz.func105,Tryz.ntmps105;go_wp2_with (go_at_call 138;refine (H _).o.mono ?_;rintro e j ⟨g,rfl,k,O,P,C,D,t,u,r,s⟩;have i:=Nq k;clear k);refine SH 4 ?_;rw [QI];have i:=Nq (q.o _ (.cells #[IV 5,.func (.func 163) #[] #[]] 188) i.o);go_wp2_with (go_at_call 163;refine (J _ i.o).o.mono ?_;rintro e w9 A;obtain ⟨Z,n',c',rfl⟩:=A.shape;have K:=Nq (B.o _ _ _ i.o A);clear A);go_ret;exact K.o
 ·have J:=λW k=>Nq (l.o W k (.inr rfl));clear l p
  go_enter Tryz.func105,Tryz.ntmps105;go_wp2_with (go_at_call 138;refine (H _).o.mono ?_;rintro e j ⟨g,rfl,k,O,P,C,D,t,u,r,s⟩;have i:=Nq k;clear k);refine SH 4 ?_;rw [QI];go_wp2;have E:=Nq (q.o _ (.cells #[IV 5,.func (.func 163) #[] #[]] 188) i.o);have f:BW j (j.alloc (.cells #[IV 5,.func (.func 163) #[] #[]] 188)):=(Nx _ _).alloc (Nz _) _;replace C:=(f.cell (Nr j _ C)).trans C;replace D:=(f.cell (Nr j _ D)).trans D;replace t:=(f.cell (Nr j _ t)).trans t;replace u:=(f.cell (Nr j _ u)).trans u;replace r:=(f.cell (Nr j _ r)).trans r;replace s:=(f.cell (Nr j _ s)).trans s;clear i f O P;generalize j.alloc (.cells #[IV 5,.func (.func 163) #[] #[]] 188)=v at *;have i:=Nq E.o;rw [QI];have i:=Nq (q.o _ (.cells #[IV 6,.func (.func 163) #[] #[]] 188) i.o);go_wp2_with (go_at_call 163;refine (J _ i.o).o.mono ?_;rintro e w9 A;obtain ⟨Z,n',c',rfl⟩:=A.shape;have K:=Nq (B.o _ _ _ i.o A);clear A);go_ret;exact K.o
 ·have J:=λW k=>Nq (p.o W k (.inl rfl));clear l p
  go_enter Tryz.func105,Tryz.ntmps105;go_wp2_with (go_at_call 138;refine (H _).o.mono ?_;rintro e j ⟨g,rfl,k,O,P,C,D,t,u,r,s⟩;have i:=Nq k;clear k);refine SH 4 ?_;rw [QI];go_wp2;have E:=Nq (q.o _ (.cells #[IV 5,.func (.func 163) #[] #[]] 188) i.o);have f:BW j (j.alloc (.cells #[IV 5,.func (.func 163) #[] #[]] 188)):=(Nx _ _).alloc (Nz _) _;replace C:=(f.cell (Nr j _ C)).trans C;replace D:=(f.cell (Nr j _ D)).trans D;replace t:=(f.cell (Nr j _ t)).trans t;replace u:=(f.cell (Nr j _ u)).trans u;replace r:=(f.cell (Nr j _ r)).trans r;replace s:=(f.cell (Nr j _ s)).trans s;clear i f O P;generalize j.alloc (.cells #[IV 5,.func (.func 163) #[] #[]] 188)=v at *;have i:=Nq E.o;rw [QI];go_wp2;have E:=Nq (q.o _ (.cells #[IV 6,.func (.func 163) #[] #[]] 188) i.o);have f:BW v (v.alloc (.cells #[IV 6,.func (.func 163) #[] #[]] 188)):=(Nx _ _).alloc (Nz _) _;replace t:=(f.cell (Nr v _ t)).trans t;replace u:=(f.cell (Nr v _ u)).trans u;replace r:=(f.cell (Nr v _ r)).trans r;replace s:=(f.cell (Nr v _ s)).trans s;clear i f C D;generalize v.alloc (.cells #[IV 6,.func (.func 163) #[] #[]] 188)=N at *;have i:=Nq E.o;rw [QI];have i:=Nq (q.o _ (.cells #[IV 9,.func (.func 164) #[] #[]] 188) i.o);go_wp2_with (go_at_call 164;refine (J _ i.o).o.mono ?_;rintro e w9 A;obtain ⟨Z,n',c',rfl⟩:=A.shape;have K:=Nq (B.o _ _ _ i.o A);clear A);go_ret;exact K.o
 ·have J:=λW k=>Nq (p.o W k (.inr rfl));clear l p
  go_enter Tryz.func105,Tryz.ntmps105;go_wp2_with (go_at_call 138;refine (H _).o.mono ?_;rintro e j ⟨g,rfl,k,O,P,C,D,t,u,r,s⟩;have i:=Nq k;clear k);refine SH 4 ?_;rw [QI];go_wp2;have E:=Nq (q.o _ (.cells #[IV 5,.func (.func 163) #[] #[]] 188) i.o);have f:BW j (j.alloc (.cells #[IV 5,.func (.func 163) #[] #[]] 188)):=(Nx _ _).alloc (Nz _) _;replace C:=(f.cell (Nr j _ C)).trans C;replace D:=(f.cell (Nr j _ D)).trans D;replace t:=(f.cell (Nr j _ t)).trans t;replace u:=(f.cell (Nr j _ u)).trans u;replace r:=(f.cell (Nr j _ r)).trans r;replace s:=(f.cell (Nr j _ s)).trans s;clear i f O P;generalize j.alloc (.cells #[IV 5,.func (.func 163) #[] #[]] 188)=v at *;have i:=Nq E.o;rw [QI];go_wp2;have E:=Nq (q.o _ (.cells #[IV 6,.func (.func 163) #[] #[]] 188) i.o);have f:BW v (v.alloc (.cells #[IV 6,.func (.func 163) #[] #[]] 188)):=(Nx _ _).alloc (Nz _) _;replace t:=(f.cell (Nr v _ t)).trans t;replace u:=(f.cell (Nr v _ u)).trans u;replace r:=(f.cell (Nr v _ r)).trans r;replace s:=(f.cell (Nr v _ s)).trans s;clear i f C D;generalize v.alloc (.cells #[IV 6,.func (.func 163) #[] #[]] 188)=N at *;have i:=Nq E.o;rw [QI];go_wp2;have E:=Nq (q.o _ (.cells #[IV 9,.func (.func 164) #[] #[]] 188) i.o);have f:BW N (N.alloc (.cells #[IV 9,.func (.func 164) #[] #[]] 188)):=(Nx _ _).alloc (Nz _) _;replace r:=(f.cell (Nr N _ r)).trans r;replace s:=(f.cell (Nr N _ s)).trans s;clear i f t u;generalize N.alloc (.cells #[IV 9,.func (.func 164) #[] #[]] 188)=w4 at *;have i:=Nq E.o;rw [QI];have i:=Nq (q.o _ (.cells #[IV 10,.func (.func 164) #[] #[]] 188) i.o);go_wp2_with (go_at_call 164;refine (J _ i.o).o.mono ?_;rintro e w9 A;obtain ⟨Z,n',c',rfl⟩:=A.shape;have K:=Nq (B.o _ _ _ i.o A);clear A);go_ret;exact K.o
end Go.Proofs.YtimniinkpipnmaaGreatDoor
namespace Go.Own
open Fm
def QM:=@Classical.choose_spec
def Rf:=@List.mem_singleton
structure bV where
 ak:Nat
 aD:Nat
 aT:Nat
 tO:List Nat
structure Au where
 sets:Nat
 aJ:List Nat
 ah:List bV
def bV.zero:bV:=⟨0,0,0,[]⟩
def Au.aw(A:Au)(n:Nat):bV:=A.ah.getD n bV.zero
def ji(a b v:Nat):Prop:=∀k,(a.testBit k=true->v.testBit k=true)/\(b.testBit k=true->v.testBit k=false)
structure MT (A:Au) (u r:Nat->Nat):Prop where
 aK:r 0∈A.aJ
 lt:∀i,r i<A.ah.length
 step:∀i,r (i+1)∈(A.aw (r i)).tO
 rd:∀i,ji (A.aw (r i)).ak (A.aw (r i)).aD (u i)
 vZ:∀s,s<A.sets->∀i,∃j,i<=j/\(A.aw (r j)).aT.testBit s=true
def jR(A:Au)(u:Nat->Nat):Prop:=∃r,MT A u r
structure Jp where
 ak:Nat
 aD:Nat
 next:List Nat
 bz:List Nat
def At(f:Fm)(p:Nat)(x:Fm):Prop:=(aQ f)[p]? =some x
def Tr(u:Nat->Nat)(f:Fm)(i p:Nat):Prop:=∃x,At f p x/\dI u x i
structure GD (f:Fm) (c:Jp):Prop where
 ff:∀p∈c.bz,¬At f p ff
 prop:∀p∈c.bz,∀n,At f p (prop n)->c.ak.testBit n=true
 neg:∀p∈c.bz,∀n,At f p (neg (Fm.prop n))->c.aD.testBit n=true
 and:∀p∈c.bz,∀a b,At f p (Fm.and a b)->p-1∈c.bz/\p-1-size b∈c.bz
 or:∀p∈c.bz,∀a b,At f p (Fm.or a b)->p-1∈c.bz\/p-1-size b∈c.bz
 cM:∀p∈c.bz,∀a,At f p (Fm.cM a)->p-1∈c.next
 dw:∀p∈c.bz,∀a b,At f p (Fm.dw a b)->p-1∈c.bz\/(p-1-size b∈c.bz/\p∈c.next)
 rel:∀p∈c.bz,∀a b,At f p (Fm.rel a b)->p-1∈c.bz/\(p-1-size b∈c.bz\/p∈c.next)
structure uT (u:Nat->Nat) (f:Fm) (i:Nat) (c:Jp):Prop where
 rd:ji c.ak c.aD (u i)
 next:∀p∈c.next,Tr u f (i+1) p
 bz:∀p∈c.bz,Tr u f i p
 dw:∀p∈c.bz,∀a b,At f p (Fm.dw a b)->dI u b i->p-1∈c.bz
structure BS (f:Fm) (aR:List Nat) (L:Jp->Prop):Prop where
 ok:∀c,L c->GD f c/\∀p∈aR,p∈c.bz
 all:∀u i,(∀p∈aR,Tr u f i p)->∃c,L c/\uT u f i c
structure kv (f:Fm) (A:Au)where
 o9:Nat->Jp
 L:List Nat->Jp->Prop
 ow:∀aR,(∀p∈aR,p<size f)->BS f aR (L aR)
 zJ:∀n,n<A.ah.length->∀p∈(o9 n).next,p<size f
 ak:∀n,n<A.ah.length->(A.aw n).ak=(o9 n).ak
 aD:∀n,n<A.ah.length->(A.aw n).aD=(o9 n).aD
 Hn:∀n∈A.aJ,n<A.ah.length
 MG:∀n,n<A.ah.length->∀m∈(A.aw n).tO,m<A.ah.length
 aJ:∀n∈A.aJ,L [size f-1] (o9 n)
 tO:∀n,n<A.ah.length->∀m∈(A.aw n).tO,L (o9 n).next (o9 m)
 gZ:∀c,L [size f-1] c->∃n∈A.aJ,o9 n=c
 nm:∀n,n<A.ah.length->∀c,L (o9 n).next c->∃m∈(A.aw n).tO,o9 m=c
 wW:Nat->Nat
 dw:∀p a b,At f p (Fm.dw a b)->∃s,s<A.sets/\wW s=p
 KS:∀s,s<A.sets->∃a b,At f (wW s) (Fm.dw a b)
 aT:∀n,n<A.ah.length->∀s,s<A.sets->((A.aw n).aT.testBit s=true↔(wW s∉(o9 n).bz\/wW s-1∈(o9 n).bz))
theorem At.inj{f:Fm}{p:Nat}{x y:Fm}(h:At f p x)(k:At f p y):x=y:=by unfold At at h k;rw [h]at k;exact Option.some.inj k
theorem At.lt{f:Fm}{p:Nat}{x:Fm}(h:At f p x):p<size f:=by unfold At at h;exact (List.getElem?_eq_some_iff.1 h).1
theorem Tr.dI{u:Nat->Nat}{f:Fm}{i p:Nat}{x:Fm}(h:Tr u f i p)(a:At f p x):dI u x i:=by obtain ⟨y,b,h⟩:=h;rw [a.inj b];exact h
theorem Gf{f:Fm}{A:Au}(T:kv f A){u r:Nat->Nat}(R:MT A u r)
 (v:∀p x,At f p x->gI x):∀(x:Fm)(p i:Nat),At f p x->p∈(T.o9 (r i)).bz->dI u x i:=by
 have d:∀i,GD f (T.o9 (r i)):=by
  intro i;rcases i with _|i
  ·exact ((T.ow [size f-1] (λp g=>by rw [Rf]at g;have:=bF f;omega)).ok _ (T.aJ _ R.aK)).1
  ·exact ((T.ow _ (T.zJ _ (R.lt i))).ok _ (T.tO _ (R.lt i) _ (R.step i))).1
 have q:∀i p,p∈(T.o9 (r i)).next->p∈(T.o9 (r (i+1))).bz:=λi p g=>
  ((T.ow _ (T.zJ _ (R.lt i))).ok _ (T.tO _ (R.lt i) _ (R.step i))).2 p g
 intro x
 induction x with
 |tt=>intro p i _ _;trivial
 |ff=>intro p i h g;exact absurd h ((d i).ff p g)
 |prop n=>
  intro p i h g
  have c:=(d i).prop p g n h
  have o:=(R.rd i n).1
  rw [T.ak _ (R.lt i)]at o
  exact o c
 |neg a L=>
  intro p i h g
  have y:=v p _ h
  cases a with
  |prop n=>
   have c:=(d i).neg p g n h
   have o:=(R.rd i n).2
   rw [T.aD _ (R.lt i)]at o
   have C:=o c
   show¬(u i).testBit n=true
   rw [C];simp
  |_=>exact y.elim
 |and a b t l=>
  intro p i h g
  obtain ⟨c,o⟩:=(d i).and p g a b h
  obtain ⟨_,z,y⟩:=dL (gC.and (a:=a) (b:=b)) f p h
  exact ⟨t _ i y o,l _ i z c⟩
 |or a b t l=>
  intro p i h g
  obtain ⟨_,z,y⟩:=dL (gC.or (a:=a) (b:=b)) f p h
  rcases (d i).or p g a b h with c|c
  ·exact .inr (l _ i z c)
  ·exact .inl (t _ i y c)
 |imp a b=>intro p i h _;exact (v p _ h).elim
 |fin a=>intro p i h _;exact (v p _ h).elim
 |ep a=>intro p i h _;exact (v p _ h).elim
 |cM a L=>
  intro p i h g
  have c:=(d i).cM p g a h
  exact L _ (i+1) (fR One.cM f p h).2 (q i _ c)
 |dw a b t l=>
  intro p i h g
  obtain ⟨_,z,y⟩:=dL (gC.dw (a:=a) (b:=b)) f p h
  refine PG λJ=>?_
  have w:∀k,p∈(T.o9 (r (i+k))).bz/\p-1∉(T.o9 (r (i+k))).bz/\∀j,j<k->dI u a (i+j):=by
   intro k;induction k with
   |zero=>refine ⟨g,λc=>J ⟨0,l _ _ z c,λj E=>by omega⟩,λj E=>by omega⟩
   |succ k G=>
    obtain ⟨c,o,C⟩:=G;rcases (d (i+k)).dw p c a b h with D|⟨D,M⟩
    ·exact absurd D o
    ·have I:∀j,j<k+1->dI u a (i+j):=λj E=>by
      by_cases e:j=k
      ·subst e;exact t _ _ y D
      ·exact C j (by omega)
     refine ⟨q _ _ M,λN=>J ⟨k+1,l _ _ z N,I⟩,I⟩
  obtain ⟨s,K,F⟩:=T.dw p a b h
  obtain ⟨j,E,B⟩:=R.vZ s K i
  rw [T.aT _ (R.lt j) s K,F]at B
  obtain ⟨c,o,_⟩:=w (j-i)
  have e:i+(j-i)=j:=by omega
  rw [e]at c o
  exact B.elim (λh=>h c) o
 |rel a b t l=>
  intro p i h g k O
  obtain ⟨_,z,y⟩:=dL (gC.rel (a:=a) (b:=b)) f p h
  have w:∀m,m<=k->p∈(T.o9 (r (i+m))).bz:=by
   intro m;induction m with
   |zero=>intro _;exact g
   |succ m H=>
    intro P;have c:=H (by omega);obtain ⟨_,o|o⟩:=(d (i+m)).rel p c a b h
    ·exact absurd (t _ _ y o) (O m (by omega))
    ·exact q _ _ o
  exact l _ _ z ((d (i+k)).rel p (w k (Qp _)) a b h).1
theorem zY{f:Fm}{A:Au}(T:kv f A){u:Nat->Nat}(h:dI u f 0):jR A u:=by
 have E:=bF f;obtain ⟨G,v,z⟩:=(T.ow [size f-1] (λp t=>by rw [Rf]at t;omega)).all u 0 (λp t=>by rw [Rf]at t;subst t;exact ⟨f,cL f,h⟩)
 obtain ⟨F,q,H⟩:=T.gZ G v;have g:∀i n,n<A.ah.length->uT u f i (T.o9 n)->∃m,m∈(A.aw n).tO/\m<A.ah.length/\uT u f (i+1) (T.o9 m):=by intro i n w L;obtain ⟨c,K,M⟩:=(T.ow _ (T.zJ n w)).all u (i+1) L.next;obtain ⟨m,D,e⟩:=T.nm n w c K;exact ⟨m,D,T.MG n w m D,by rw [e];exact M⟩
 let r:={x:Nat×Nat//x.2<A.ah.length/\uT u f x.1 (T.o9 x.2)};let O:r->r:=λx=>⟨(x.1.1+1,Classical.choose (g x.1.1 x.1.2 x.2.1 x.2.2)),(QM (g x.1.1 x.1.2 x.2.1 x.2.2)).2⟩;let P:r:=⟨(0,F),T.Hn F q,by rw [H];exact z⟩;let d:Nat->r:=λk=>Nat.rec P (λ_ x=>O x) k;have o:∀k,(d k).1.1=k:=by
  intro k;induction k with
  |zero=>rfl
  |succ k N=>show(d k).1.1+1=k+1;rw [N]
 have j:∀k,uT u f k (T.o9 (d k).1.2):=λk=>by have:=(d k).2.2;rwa [o k]at this
 refine ⟨λk=>(d k).1.2,q,λk=>(d k).2.1,λk=>(QM (g (d k).1.1 (d k).1.2 (d k).2.1 (d k).2.2)).1,λk=>?_,λs y i=>?_⟩
 ·rw [T.ak _ (d k).2.1,T.aD _ (d k).2.1];exact (j k).rd
 ·obtain ⟨a,b,l⟩:=T.KS s y;by_cases B:T.wW s∈(T.o9 (d i).1.2).bz
  ·have I:=((j i).bz _ B).dI l;obtain ⟨k,J,_⟩:=I
   refine ⟨i+k,by omega,?_⟩;rw [T.aT _ (d (i+k)).2.1 s y];by_cases C:T.wW s∈(T.o9 (d (i+k)).1.2).bz
   ·exact .inr ((j (i+k)).dw _ C a b l J)
   ·exact .inl C
  ·exact ⟨i,Qp _,(T.aT _ (d i).2.1 s y).2 (.inl B)⟩
theorem J1{f:Fm}:gI f->∀p x,At f p x->(∀n,f≠neg (prop n))->gI x:=by
 induction f with
 |tt|ff|prop n=>intro _ p x h _;rcases p with _|p;simp [At,aQ]at h;subst h;trivial;simp [At,aQ]at h
 |neg a r=>
  intro h p x _ g;cases a with
  |prop n=>exact absurd rfl (g n)
  |_=>exact h.elim
 |imp a b=>intro h;exact h.elim
 |fin a=>intro h;exact h.elim
 |ep a=>intro h;exact h.elim
 |cM a r=>
  intro h p x d _;unfold At at d;rw [One.cM.aQ]at d;rcases P3 p (aQ a).length with k|o|s;rw [NP k]at d;by_cases g:∃n,a=neg (prop n);obtain ⟨n,rfl⟩:=g;rcases p with _|_|p;simp [aQ]at d;subst d;trivial;simp [aQ]at d;subst d;trivial;simp [aQ]at k;omega;exact r h p x d (λn e=>g ⟨n,e⟩);rw [o,N9 (Qp _),Qf]at d;simp at d;subst d;exact h;rw [N9 (by omega)]at d;have:p-(aQ a).length=(p-(aQ a).length-1)+1:=by omega
  rw [this]at d;simp at d
 |and a b i j|or a b i j|dw a b i j|rel a b i j=>
  intro h p x d _;have m:∀(c:Fm),gI c->(∀p x,At c p x->(∀n,c≠neg (prop n))->gI x)->∀p,(aQ c)[p]? =some x->p<(aQ c).length->gI x:=by intro c t q p d k;by_cases g:∃n,c=neg (prop n);obtain ⟨n,rfl⟩:=g;rcases p with _|_|p;simp [aQ]at d;subst d;trivial;simp [aQ]at d;subst d;trivial;simp [aQ]at k;omega;exact q p x d (λn e=>g ⟨n,e⟩)
  unfold At aQ at d;by_cases k:p<(aQ a).length;rw [NP k]at d;exact m a h.1 (λp x=>i h.1 p x) p d k;rw [N9 (by omega)]at d;rcases P3 (p-(aQ a).length) (aQ b).length with l|o|s;rw [NP l]at d;exact m b h.2 (λp x=>j h.2 p x) _ d l;rw [o,N9 (Qp _),Qf]at d;simp at d;subst d;exact h;rw [N9 (by omega)]at d;have:p-(aQ a).length-(aQ b).length=(p-(aQ a).length-(aQ b).length-1)+1:=by omega
  rw [this]at d;simp at d
theorem mU{f:Fm}(h:gI f)(p:Nat)(x:Fm)(a:At f p x):gI x:=by by_cases b:∃n,f=neg (prop n);obtain ⟨n,rfl⟩:=b;unfold At at a;rcases p with _|_|p;simp [aQ]at a;subst a;trivial;simp [aQ]at a;subst a;trivial;simp [aQ]at a;exact J1 h p x a (λn e=>b ⟨n,e⟩)
theorem Ky{f:Fm}{A:Au}(T:kv f A)(b:gI f)(u:Nat->Nat):jR A u↔dI u f 0:=by
 constructor
 ·rintro ⟨r,R⟩;refine Gf T R (mU b) f (size f-1) 0 (cL f) ?_
  have a:=bF f;exact ((T.ow [size f-1] (λp c=>by rw [Rf]at c;omega)).ok _ (T.aJ _ R.aK)).2 _ (Rf.2 rfl)
 ·exact zY T
end Go.Own
namespace Go.Proofs.YtimniinkpipnmaaGreatDoor
open Go.RowKit Go.Own
def Hp{x:Fm}(h:Fm.gI x):¬(Fm.aO x).1=7/\¬(Fm.aO x).1=11/\¬(Fm.aO x).1=12:=by cases x<;>simp [Fm.aO]<;>exact h.elim
def J0{x:Fm}(h:Fm.gI x)(b:(Fm.aO x).1=4):∃k,x=Fm.neg (Fm.prop k):=by
 cases x<;>simp [Fm.aO]at b
 rename_i a;cases a<;>first|exact ⟨_,rfl⟩|exact h.elim
def zz(a:OA)(n c:Nat)(f:Fm)(w:WD)(h:FA w a n f)(G:Fm.gI f)(t:dV f)(T:n<=1000000):
 CL 76 #[.slice a n c] w λe Z=>e=RT (.bool true)/\BW w Z:=by
 have O:=Nq (kZ a n c _ f w h T (fA t))
 have M:0<n:=by rw [<-h.size];exact Fm.bF f
 have t0:((n:Int)==0)=false:=NC.2 (by omega)
 have t1:(n==0)=false:=NC.2 (by omega)
 have m:=Nq h
 have A:=Nq G
 clear h G t
 go_enter Tryz.func76,Tryz.ntmps76
 go_wp2_with (go_at_call 72;refine O.o.mono ?_;rintro e w2 ⟨sa,sc,rfl,L⟩;have N:=Nq (aZ L);clear L)
 go_loopw [11] (λx wr=>∃k:Nat,k<=n/\x=IV k/\Hid (BW w wr)) (λx _=>n-(intOf x).toNat)
 exact ⟨0,NS _,rfl,N⟩
 obtain ⟨k,hk,rfl,z⟩:=hrel
 by_cases S:k<n
 ·have K:(k:Int)<(n:Int):=by omega
  obtain ⟨x,u⟩:∃x,(Fm.aQ f)[k]? =some x:=⟨_,Ny (by have:=m.o.size;unfold Fm.size at this;omega)⟩;obtain ⟨C,D,rfl,-,E,F⟩:=(m.o.af z.o).at u;have g:=mU A.o k x u;obtain ⟨B,r,s⟩:=Hp g;have i:Hid (∀o,BW w (wr.alloc o)):=λo=>iX z.o o;by_cases d:(Fm.aO x).1=4
  ·obtain ⟨j,rfl⟩:=J0 g d;obtain ⟨R,q⟩:=Fm.fR Fm.One.neg f k u
   obtain ⟨b,rfl⟩:∃b,k=b+1:=⟨k-1,by omega⟩;rw [RN]at q;obtain ⟨b2,o2,e,-,v,y⟩:=(m.o.af z.o).at q;cases e
   change wr.cell? _=some (IV 3)at v;change wr.cell? _=some (IV j)at y;change wr.cell? _=some (IV 4)at E;change wr.cell? _=some (IV 0)at F;have J:(b:Int)<(n:Int):=by omega
   have I:b<n:=by omega
   have H:(0:Int)<=(b:Int):=by omega
   have u0:IntKind.i64.wrap (b:Int)=(b:Int):=Pf _ (by omega);have u1:IntKind.i64.wrap ((b:Int)+1-1)=(b:Int):=by rw [Qv];exact Pf _ (by omega)
   clear u q d B r s g;go_upto_region 8 with(fail);have p:BW wr (wr.alloc (.cells #[IV 4,IV 0] 32)):=(Nx _ _).alloc (Nz _) _;have P:=(p.cell (Nr wr _ v)).trans v;have Q:=(p.cell (Nr wr _ y)).trans y;have l:=Nq (i.o (.cells #[IV 4,IV 0] 32));clear E F v y p i;generalize wr.alloc (.cells #[IV 4,IV 0] 32)=w1 at *;go_region_held3 (λW=>CA W C (D+b*2) (IV 3)/\CA W C (D+b*2+1) (IV j))
    (exact ⟨P,Q⟩)
    (fail)
   go_wp2;go_roundw;exact ⟨b+1+1,by omega,by go_num,Nq l.o.drew⟩;simp [intOf];omega
  ·have t4:((Fm.aO x).1==4)=false:=NC.2 d;have t7:((Fm.aO x).1==7)=false:=NC.2 B
   have X:((Fm.aO x).1==11)=false:=NC.2 r;have Y:((Fm.aO x).1==12)=false:=NC.2 s;clear u d B r s g;generalize (Fm.aO x).1=V at *;generalize (Fm.aO x).2=U at *;have l:=Nq (i.o (.cells #[IV V,IV U] 32));go_wp2;go_roundw;exact ⟨k+1,by omega,by go_num,l⟩;simp [intOf];omega
 ·obtain rfl:k=n:=by omega
  go_wp2;go_ret;exact ⟨rfl,z.o⟩
def Cg(a:OA)(n c:Nat)(f:Fm)(w:WD)(h:FA w a n f)(s:n<=1000000):
 CL 106 #[.slice a n c] w λe l=>∃b d,e=RT (.slice b n d)/\bN w l (.slice b n d) n (Fm.enc f):=by
 obtain ⟨i,j,rfl,-⟩:=h.at (Fm.cL f)
 have p:=λW=>Pq (P:=Tryz.prog) W 148 32 (some (AD i j)) n c 0 0 Rz
 have m:Hid (bB (w.alloc (.cells #[] 32)) (some (AD i j)) n (Fm.enc f)):=h.af ((Nx _ w).alloc (Nz _) _)
 have o:=Nq (bN.empty w)
 clear h
 go_enter Tryz.func106,Tryz.ntmps106
 go_wp2_with (at_builtin;refine kj rfl (.tmp 5) (.tmp 6) 148 Rz rfl _ 0 [] rfl o.o (AD i j) n c (Fm.enc f) rfl m.o (by omega) ?_;intro b d l k q r;have g:=Nq k;clear k q r)
 go_ret
 have:=g.o
 rw [Od]at this
 exact ⟨b,d,rfl,this⟩
def zU:∀(a b:List (Int×Int))(c:List Fm),Fm.run (a++b) c=(Fm.run a c).bind (Fm.run b)
 |[],b,c=>rfl
 |x::a,b,c=>by
  show(Fm.step x c).bind (Fm.run (a++b))=((Fm.step x c).bind (Fm.run a)).bind _;cases Fm.step x c with
  |none=>rfl
  |some s=>exact zU a b s
def Ee(f:Fm):Fm.run (Fm.enc f) []=some [f]:=by have:=Fm.nJ f [] [];rwa [Om]at this
def IM{f:Fm}{i:Nat}:∃a,Fm.run ((Fm.enc f).take i) []=some a:=by
 have h:=Ee f;rw [<-Rt i (Fm.enc f),zU]at h;cases b:Fm.run ((Fm.enc f).take i) []with
 |none=>rw [b]at h;cases h
 |some a=>exact ⟨a,rfl⟩
def IL{f:Fm}{i:Nat}{c:List Fm}(h:Fm.run ((Fm.enc f).take i) []=some c)(k:i<Fm.size f):
 ∃a,Fm.step ((Fm.enc f).getD i (0,0)) c=some a/\Fm.run ((Fm.enc f).take (i+1)) []=some a:=by
 obtain ⟨a,d⟩:=IM (f:=f) (i:=i+1)
 have g:i<(Fm.enc f).length:=by rw [Fm.de];exact k
 have e:(Fm.enc f).take (i+1)=(Fm.enc f).take i++[(Fm.enc f).getD i (0,0)]:=by rw [OG,Ny g,Nw,Ny g];rfl
 have b:=d
 rw [e,zU,h]at b
 refine ⟨a,?_,d⟩
 simp only [Option.bind_some,Fm.run]at b
 cases j:Fm.step ((Fm.enc f).getD i (0,0)) c with
 |none=>rw [j]at b;cases b
 |some s=>rw [j]at b;simpa using b
def Kr{f:Fm}{a:List Fm}(h:Fm.run ((Fm.enc f).take (Fm.size f)) []=some a):a=[f]:=by rw [Oe (by rw [Fm.de];exact Nz _),Ee]at h;exact (OJ h).symm
def Gd{p:Int×Int}{b a:List Fm}(h:Fm.step p b=some a):bj a=bj b+1:=by
 unfold Fm.step at h;split at h<;>first
  |(cases h;done)
  |(have h:=OJ h
    subst h;simp only [bj,Fm.uR,Fm.uQ,Fm.lK,Fm.ij,Fm.kd,Fm.mf,Fm.pL,Fm.eW,Fm.kf,Fm.ke,Fm.mZ,Fm.lJ];omega)
section
def Ou:=@List.length_cons
def PJ:=@List.reverse_cons
def Tryz.JW:(Tryz.prog.info? 148).map (λi=>(i.zero,i.size,i.bytes))=some (some (SN),1,24):=by kernel_rfl
abbrev bu:=OA×Nat×Nat
abbrev jP(p:bu):Value:=.slice p.1 p.2.1 p.2.2
def fg(w:WD)(g:Option Nat)(p:bu)(x:Fm):Prop:=p.2.1<=p.2.2/\p.2.2<=maxLen/\FA w p.1 p.2.1 x/\∀b o,p.1=some (AD b o)->g≠some b
def mF(w:WD)(g:Option Nat):List bu->List Fm->Prop
 |[],[]=>True
 |p::a,x::b=>fg w g p (Fm.bO x)/\mF w g a b
 |_,_=>False
def bB.aA{S:Nat->Prop}{w l:WD}{a:OA}{n:Nat}{F:List (Int×Int)}(h:bB w a n F)(k:aj S w l)(d:∀b o,a=some (AD b o)->¬S b):bB l a n F:=by refine ⟨h.1,?_⟩;rcases h.2 with m|⟨b,c,e,g⟩;exact .inl m;refine .inr ⟨b,c,e,λi j=>⟨k.aq (g i j).1 (d b c e),k.aq (g i j).2 (d b c e)⟩⟩
def FA.aA{S:Nat->Prop}{w c:WD}{a:OA}{n:Nat}{x:Fm}(h:FA w a n x)(e:aj S w c)(d:∀b o,a=some (AD b o)->¬S b):FA c a n x:=bB.aA h e d
def FA.lt{w:WD}{a:OA}{n:Nat}{x:Fm}(h:FA w a n x):∃b o,a=some (AD b o)/\b<w.heap.size:=by obtain ⟨b,o,e,-,c,-⟩:=h.at (Fm.cL x);exact ⟨b,o,e,Nr w _ c⟩
def fg.aA{S:Nat->Prop}{w k:WD}{g c:Option Nat}{p:bu}{x:Fm}(h:fg w g p x)(t:aj S w k)(q:∀b,S b->g=some b)(r:∀b,c=some b->g=some b\/w.heap.size<=b):fg k c p x:=by obtain ⟨m,n,d,j⟩:=h;refine ⟨m,n,d.aA t (λb o e s=>j b o e (q b s)),λb o e l=>?_⟩;rcases r b l with h|h;exact j b o e h;obtain ⟨u,z,a,y⟩:=d.lt;rw [e]at a;cases a;omega
def fg.af{w a:WD}{g:Option Nat}{p:bu}{x:Fm}(h:fg w g p x)(b:BW w a):fg a g p x:=⟨h.1,h.2.1,h.2.2.1.af b,h.2.2.2⟩
def mF.map{w e:WD}{g c:Option Nat}(d:∀p x,fg w g p x->fg e c p x):∀(a:List bu)(b:List Fm),mF w g a b->mF e c a b
 |[],[],_=>PO
 |_::a,_::b,h=>⟨d _ _ h.1,mF.map d a b h.2⟩
 |[],_::_,h=>h
 |_::_,[],h=>h
def mF.bC{w:WD}{g:Option Nat}:∀{a:List bu}{b:List Fm},mF w g a b->a.length=b.length
 |[],[],_=>rfl
 |_::a,_::b,h=>by rw [Ou,Ou,mF.bC h.2]
 |[],_::_,h=>h.elim
 |_::_,[],h=>h.elim
def fg.o{w1 d:WD}{g:Option Nat}{S:Nat->Prop}{a:OA}{n c:Nat}{x:Fm}(h:aL w1 S x (RT (.slice a n c)) d)(r:∀b,g=some b->b<w1.heap.size/\¬S b):fg d g (a,n,c) x:=by
 obtain ⟨s,y,t,e,k,l,m,-,p⟩:=h;cases e
 refine ⟨k,l,m,λb o e j=>?_⟩;obtain ⟨u,q⟩:=r b j;rcases p b o e with h|h;omega;exact q h
structure SI (w0 w:WD) (f:Fm) (i:Nat) (v:Value) (st:List Fm) (sv:List bu):Prop where
 my:Sl w 148 v st.length ((sv.map jP).reverse)
 ec:mF w v.ownBlock sv st
 dJ:∀b,v.ownBlock=some b->w0.heap.size<=b
 aM:BW w0 w
 run:Fm.run ((Fm.enc f).take i) []=some st
 ok:∀x∈st,dV x
section
variable {w0 w w1 w2:WD} {f:Fm} {i:Nat} {v:Value} {st:List Fm} {sv:List bu}
def SI.af(h:SI w0 w f i v st sv)(a:BW w w1):SI w0 w1 f i v st sv:=
 ⟨qG h.my a,mF.map (λ_ _ h=>h.af a) _ _ h.ec,h.dJ,h.aM.trans (a.mono h.aM.size),h.run,h.ok⟩
def SI.dB{s c d j:Nat}{a:OA}{y:Fm}{p:bu}(h:SI w0 w f i (.slice a s c) st sv)(q:BW w w1)(u:fg w1 (Value.slice a s c).ownBlock p (Fm.bO y))(B:dV y)
 (o:Sl w2 148 (SV d (s+1) j) (s+1) ((sv.map jP).reverse++[jP p])) (m:aj (λk=>(Value.slice a s c).ownBlock=some k) w1 w2) (t:(Value.slice a s c).ownBlock=some d\/w1.heap.size<=d)
 (z:Fm.run ((Fm.enc f).take (i+1)) []=some (y::st)):SI w0 w2 f (i+1) (SV d (s+1) j) (y::st) (p::sv):=by
 have g:=h.af q
 have A:s=st.length:=(dT h.my).2.2
 have l:∀b,(SV d (s+1) j).ownBlock=some b->(Value.slice a s c).ownBlock=some b\/w1.heap.size<=b:=λb e=>by cases e;exact t
 refine ⟨?_,⟨u.aA m (λb s=>s) l,mF.map (λ_ _ h=>h.aA m (λb s=>s) l) _ _ g.ec⟩,λb e=>?_,g.aM.trans (m.af g.aM.size (λk r e=>by have:=h.dJ k e;omega)),z,λx n=>?_⟩
 rw [NQ,PJ,Ou,<-A];exact o
 rcases l b e with e|e
 exact h.dJ b e
 exact N5 g.aM.size e
 rcases N8.1 n with rfl|n
 exact B
 exact h.ok x n
def SI.top{s c g:Nat}{x y:Fm}{q p:bu}(h:SI w0 w f i (SV g (s+1) c) (x::st) (q::sv))(o:BW w w1)(t:fg w1 (some g) p (Fm.bO y))(A:dV y)
 (u:Fm.run ((Fm.enc f).take (i+1)) []=some (y::st)):SI w0 (w1.setCell (AD g s) (jP p)) f (i+1) (SV g (s+1) c) (y::st) (p::sv):=by
 have d:=h.af o
 have j:s+1=(x::st).length:=(dT h.my).2.2
 have r:sv.length=st.length:=mF.bC d.ec.2
 have m:aj (λb=>b=g) w1 (w1.setCell (AD g s) (jP p)):=(aj.refl (λb=>b=g) w1).setCell (p:=(AD g s)) (λ_=>rfl) _
 have a:Sl (w1.setCell (AD g s) (jP p)) 148 (SV g (s+1) c) (x::st).length (((q::sv).map jP).reverse.set s (jP p)):=by have l:=d.my;rw [<-j]at l⊢;exact (Qh l s (jP p)).1
 have e:((q::sv).map jP).reverse.set s (jP p)=((p::sv).map jP).reverse:=by
  rw [NQ,PJ,NQ,PJ];have n:s=((sv.map jP).reverse).length:=by rw [Qm,NU,r];simp at j;exact j
  rw [n,List.set_append_right _ _ (Nz _),Qf];rfl
 rw [e]at a
 have B:∀p x,fg w1 (some g) p x->fg (w1.setCell (AD g s) (jP p)) (some g) p x:=λp x h=>h.aA ((aj.refl (λb=>b=g) w1).setCell (p:=(AD g s)) (λ_=>rfl) _) (λb e=>by rw [e]) (λb e=>.inl e)
 refine ⟨a,⟨t.aA m (λb e=>by rw [e]) (λb e=>.inl e),mF.map (λ_ _ h=>fg.aA h m (λb e=>by subst e;rfl) (λb e=>.inl e)) _ _ d.ec.2⟩,h.dJ,d.aM.setCell (h.dJ g rfl) _,u,λz k=>?_⟩
 rcases N8.1 k with rfl|k
 exact A
 exact h.ok z (Ot _ k)
def SI.two{s c g a j:Nat}{x y z:Fm}{q p r:bu}(h:SI w0 w f i (SV g (s+2) c) (y::x::st) (q::p::sv))(B:BW w w1)(E:fg w1 (some g) r (Fm.bO z))(G:dV z)
 (A:Sl w2 148 (SV a (s+1) j) (s+1) ((sv.map jP).reverse++[jP r])) (m:aj (λk=>(SV g s c).ownBlock=some k) w1 w2) (D:(SV g s c).ownBlock=some a\/w1.heap.size<=a)
 (F:Fm.run ((Fm.enc f).take (i+1)) []=some (z::st)):SI w0 w2 f (i+1) (SV a (s+1) j) (z::st) (r::sv):=by
 have d:=h.af B
 have t:s+2=(y::x::st).length:=(dT h.my).2.2
 have l:∀b,(SV a (s+1) j).ownBlock=some b->(some g:Option Nat)=some b\/w1.heap.size<=b:=λb e=>by cases e;exact D
 have o:∀b,(SV g s c).ownBlock=some b->(some g:Option Nat)=some b:=λb e=>e
 refine ⟨?_,⟨E.aA m o l,mF.map (λ_ _ h=>fg.aA h m o l) _ _ d.ec.2.2⟩,λb e=>?_,d.aM.trans (m.af d.aM.size (λk C e=>by have:=h.dJ k e;omega)),F,λu n=>?_⟩
 rw [NQ,PJ,Ou]
 simp at t
 rw [<-t];exact A
 rcases l b e with e|e
 exact h.dJ b e
 exact N5 d.aM.size e
 rcases N8.1 n with rfl|n
 exact G
 exact h.ok u (Ot _ (Ot _ n))
def SI.cut{s c g:Nat}{x y:Fm}{q p:bu}(h:SI w0 w f i (SV g (s+2) c) (y::x::st) (q::p::sv))(d:BW w w1):Sl w1 148 (SV g s c) s ((sv.map jP).reverse):=by
 have a:=(h.af d).my;have b:s+2=(y::x::st).length:=(dT a).2.2;rw [<-b]at a;have j:sv.length=st.length:=mF.bC h.ec.2.2;have:=wS a (m:=s) (by omega);have e:(((q::p::sv).map jP).reverse).take s=(sv.map jP).reverse:=by
  simp only [NQ,PJ,Ov];have k:s=((sv.map jP).reverse).length:=by rw [Qm,NU,j];simp at b;exact b
  rw [Td (by omega),Oe (by omega)]
 rw [e]at this;exact this
def SI.MW{s c:Nat}{a:OA}{x:Fm}{q:bu}(h:SI w0 w f i (.slice a s c) (x::st) (q::sv)):∃g b,a=some (AD g 0)/\s=b+1/\g<w.heap.size/\w.cell? (AD g b)=some (jP q)/\w.frozen? (AD g b)=false:=by
 have m:s=(x::st).length:=(dT h.my).2.2;have d:sv.length=st.length:=mF.bC h.ec.2;obtain ⟨k,l,e,j⟩:=h.my.shape;cases e
 obtain ⟨g,e,-,-⟩:=j 0 (by simp);subst e;refine ⟨g,st.length,rfl,rfl,h.my.lt g rfl,?_,PH (size:=1) h.my st.length⟩;rw [OX (size:=1) h.my st.length (by simp)];rw [NQ,PJ,N9 (by simp [d]),Qm,NU,d,Qf];rfl
def SI.Nk{s c:Nat}{a:OA}{x y:Fm}{q p:bu}(h:SI w0 w f i (.slice a s c) (y::x::st) (q::p::sv)):∃g d,a=some (AD g 0)/\s=d+2/\g<w.heap.size/\w.cell? (AD g (d+1))=some (jP q)/\w.cell? (AD g d)=some (jP p):=by
 have m:s=(y::x::st).length:=(dT h.my).2.2;have b:sv.length=st.length:=mF.bC h.ec.2.2;obtain ⟨k,l,e,j⟩:=h.my.shape;cases e
 obtain ⟨g,e,-,-⟩:=j 0 (by simp);subst e;refine ⟨g,st.length,rfl,rfl,h.my.lt g rfl,?_,?_⟩;rw [OX (size:=1) h.my (st.length+1) (by simp)];rw [NQ,PJ,N9 (by simp [b]),Qm,NU,Ou,b,Qf];rfl;rw [OX (size:=1) h.my st.length (by simp;omega)];rw [NQ,PJ,NQ,PJ,Ov,N9 (by simp [b]),Qm,NU,b,Qf];rfl
end
def wg{x:Fm}:dV x->dV (Fm.bO x):=by
 have o:∀c,dV (Fm.no c):=λc=>by cases c<;>first|exact wh|exact we
 have m:∀c a b,dV a->dV b->dV (Fm.mk c a b):=λc a b e d=>by cases c<;>first|exact dt .and e d|exact dt .or e d
 have s:∀r a b,dV a->dV b->dV (Fm.Js r a b):=λc a b e d=>by cases c<;>first|exact dt .rel e d|exact dt .dw e d
 have k:∀c a b,dV a->dV b->dV (Fm.fY c a b):=λc a b e d=>by unfold Fm.fY;split;exact o c;split;exact d;split;exact e;split;exact o c;split;exact e;split;exact d;unfold Fm.mq;split;exact lZ .cM (m c _ _ (gj .cM e) (gj .cM d));exact m c a b e d
 have l:∀r a b,dV a->dV b->dV (Fm.eD r a b):=λr a b e d=>by unfold Fm.eD;split;exact d;split;exact d;exact s r a b e d
 induction x with
 |tt|ff|prop n=>intro h;exact h
 |neg a p=>intro h;exact lZ .neg (p (gj .neg h))
 |cM a p=>intro h;have q:=p (gj .cM h);show dV (Fm.j4 (Fm.bO a));unfold Fm.j4;split;exact q;exact lZ .cM q
 |fin a p|ep a p=>intro h;exact h
 |and a b g j=>intro h;obtain ⟨e,d⟩:=fB .and h;exact k true _ _ (g e) (j d)
 |or a b g j=>intro h;obtain ⟨e,d⟩:=fB .or h;exact k false _ _ (g e) (j d)
 |imp a b g j=>intro h;exact h
 |dw a b g j=>intro h;obtain ⟨e,d⟩:=fB .dw h;exact l false _ _ (g e) (j d)
 |rel a b g j=>intro h;obtain ⟨e,d⟩:=fB .rel h;exact l true _ _ (g e) (j d)
end
def NG:=@Go.World.size_alloc
def NI:=@List.mem_of_getElem?
def Sn:=@Go.Proofs.Tryz.underlying147
def tK{P:Program}{r:Array Oper}{o:Oper}{a:Act}{L:WD}{K:Act->WD->Prop}{Q:Exit->Act->WD->Prop}{E:Prop}(C:o.guard=none)(s x:Operand)(t:TypeId)
 (R:o.op=.call {callee:=.builtin .append,args:=#[s,x],argTypes:=#[t,t]})
 (e:TypeId) (i:TypeInfo) (z:Value) (b:Nat) (U:P.underlying t=some (.slice e)) (O:P.info? e=some i) (X:i.zero=some z)
 (f:i.size=1) (B:i.bytes=b) (G:z.cells.size=1) (p:1<=b)
 (w:WD) (u:Value) (hw:L=w.alloc (.cells #[u] e)) (V:u.oneCell'=true)
 (v:Value) (n:Nat) (H:List Value) (T:a.eval s=v) (m:Sl w e v n H)
 (W:a.eval x=SV w.heap.size 1 1)
 (c:(n+1)*b<=140737488355328)
 (h:∀g A y,Sl y e (SV g (n+1) A) (n+1) (H++[u])->aj (λk=>v.ownBlock=some k) w y->(v.ownBlock=some g\/w.heap.size<=g)->K (a.put o.dst (SV g (n+1) A)) y):
 if Region.wanted o (yielded r a.tmps)=true then Oper.wp P o a L K Q else E:=by
 subst hw
 have F:Region.wanted o (yielded r a.tmps)=true:=by simp [Region.wanted,C]
 rw [Oa F]
 obtain ⟨v',y,S,I,M,d⟩:=fQ (P:=P) (w.alloc (.cells #[u] e)) t o.type e i z b U O X f B G p v n H (World.ownsRow.alloc m _) (AD w.heap.size 0) 1 1 [u] rfl (by
  intro j Y l;match j,l with
  |0,l=>simp at l;subst l;show(w.alloc (.cells #[u] e)).cell? (((AD w.heap.size 0):Addr).add 0)=some u;rw [O4];exact NV (w:=w) #[u] e w.heap.size 0 rfl
  |j+1,l=>simp at l) (by intro Y q;simp at q;subst q;exact V) c
 obtain ⟨Z,A,rfl,N⟩:=I.shape
 obtain ⟨g,rfl,J,_⟩:=N 0 (by omega)
 unfold Oper.wp execOp
 simp only [R,resolve,invoke,builtin,P8,Qt,Po,PE,NQ,NZ,T,W,S]
 refine h g A y I (((aj.refl _ w).alloc _).trans (M.mono (λ_ _ s=>s))) ?_
 rcases d.alloc with d|⟨g',d,D⟩
 rw [J]at d;exact .inl d.symm
 rw [J]at d;cases d;exact .inr D
def Br:∀(F:List (Int×Int))(b a:List Fm),Fm.run F b=some a->bj a=bj b+F.length
 |[],b,a,h=>by cases h;rfl
 |p::F,b,a,h=>by
  have h:(Fm.step p b).bind (Fm.run F)=some a:=h;cases c:Fm.step p b with
  |none=>rw [c]at h;cases h
  |some s=>rw [c]at h;have d:=Br F s a h;have e:=Gd c;rw [Ou];omega
def SI.size{c w:WD}{f:Fm}{i:Nat}{v:Value}{a:List Fm}{b:List bu}(h:SI c w f i v a b)(d:i<=Fm.size f):bj a=i:=by have:=Br _ _ _ h.run;rw [Pd,Fm.de]at this;have e:bj []=0:=rfl;omega
def SI.aK{a w:WD}{f:Fm}(c:BW a w):SI a w f 0 (SN) [] []:=
 ⟨Ox _ _ _ _,PO,λb e=>(by cases e),c,(by rw [PQ];rfl),λx d=>(by cases d)⟩
def fg.size{w:WD}{g:Option Nat}{p:bu}{x:Fm}(h:fg w g p (Fm.bO x)):p.2.1<=Fm.size x:=by have a:=h.2.2.1.size;have b:=(Fm.nH x).1;omega
def Jd{x:Fm}(h:Fm.gI x)(k:¬(Fm.aO x).1=1)(l:¬(Fm.aO x).1=2)(m:¬(Fm.aO x).1=3)(o:¬(Fm.aO x).1=4)(p:¬(Fm.aO x).1=8):
 ((Fm.aO x).1=5\/(Fm.aO x).1=6\/(Fm.aO x).1=9\/(Fm.aO x).1=10)/\∀d c,Fm.step (Fm.aO x) d=some c->∃b a r z,d=b::a::r/\c=z::r/\Fm.bO z=BH (Fm.aO x).1 (Fm.bO a) (Fm.bO b)/\(dV a->dV b->dV z):=by
 have i:∀(g n:Int)(d c:List Fm),g=5\/g=6\/g=9\/g=10->Fm.step (g,n) d=some c->∃b a r z,d=b::a::r/\c=z::r/\Fm.bO z=BH g (Fm.bO a) (Fm.bO b)/\(dV a->dV b->dV z):=by
  rintro g n d c (rfl|rfl|rfl|rfl) h;all_goals
   match d,h with
   |b::a::r,h=>
    cases h
    first
     |exact ⟨b,a,r,_,rfl,rfl,rfl,λe f=>dt .and e f⟩
     |exact ⟨b,a,r,_,rfl,rfl,rfl,λe f=>dt .or e f⟩
     |exact ⟨b,a,r,_,rfl,rfl,rfl,λe f=>dt .dw e f⟩
     |exact ⟨b,a,r,_,rfl,rfl,rfl,λe f=>dt .rel e f⟩
   |[],h=>cases h
   |[_],h=>cases h
 have j:(Fm.aO x).1=5\/(Fm.aO x).1=6\/(Fm.aO x).1=9\/(Fm.aO x).1=10:=by
  cases x<;>first
   |exact absurd rfl k
   |exact absurd rfl l
   |exact absurd rfl m
   |exact absurd rfl o
   |exact absurd rfl p
   |exact .inl rfl
   |exact .inr (.inl rfl)
   |exact .inr (.inr (.inl rfl))
   |exact .inr (.inr (.inr rfl))
   |exact h.elim
 exact ⟨j,λd c=>i (Fm.aO x).1 (Fm.aO x).2 d c j⟩
def Bc(a:OA)(n c:Nat)(f:Fm)(w:WD)(h:FA w a n f)(hN:Fm.gI f)(aE:dV f)(hn:n<=1000):
 CL 73 #[.slice a n c] w λe w'=>∃I m J,e=RT (.slice I m J)/\bN w w' (.slice I m J) m (Fm.enc (Fm.bO f)):=by
 obtain ⟨ac,hi,hz,ap,ao⟩:=Ol Tryz.JW
 have aR:=Nq (zz a n c f w h hN aE (by omega))
 have aQ:=Nq h
 have aS:=Nq hN
 have aU:=Nq aE
 have ai:Hid (Fm.size f=n):=h.size
 clear h hN aE
 go_enter Tryz.func73,Tryz.ntmps73
 go_wp2_with (go_at_call 76;refine aR.o.mono ?_;rintro e w2 ⟨rfl,hb⟩;have HB:=Nq hb;clear hb)
 go_loopw [3,12] (λv x wr=>∃i:Nat,i<=n/\x=IV i/\∃sa s sc st sv,v=.slice sa s sc/\Hid (SI w wr f i (.slice sa s sc) st sv)) (λ_ x _=>n-(intOf x).toNat)
 case atStart=>exact ⟨0,NS _,rfl,none,0,0,[],[],rfl,Nq (SI.aK HB.o)⟩
 case round=>
  clear HB;obtain ⟨i,aV,rfl,sa,s,sc,st,sv,rfl,hw⟩:=hrel;have aO:s=st.length:=(dT hw.o.my).2.2;have aP:=hw.o.size (by(try unfold BW);rw [ai.o];exact aV);have aK:∀l:List Fm,l.length<=bj l:=by
   intro l;induction l with
   |nil=>exact Nz _
   |cons f r ih=>have:=Fm.bF f;show r.length+1<=Fm.size f+bj r;omega
  have a1:s<=1000:=by have:=aK st;omega
  have aY:=(dT hw.o.my).1;have aB:=Nq aP;have an:=Nq aO;clear aP aO aK;by_cases aW:i<n
  ·have aZ:(i:Int)<(n:Int):=by omega
   obtain ⟨x,hx⟩:∃x,(Fm.aQ f)[i]? =some x:=⟨_,Ny (by have:=ai.o;unfold Fm.size at this;omega)⟩;obtain ⟨bb,bo,rfl,-,c0,c1⟩:=(aQ.o.af hw.o.aM).at hx;have ab:=mU aS.o i x hx;obtain ⟨am,d,au⟩:=IL hw.o.run (by(try unfold BW);rw [ai.o];exact aW);rw [AG hx]at d;have O:=Nq au;have aq:Hid (∀k,x=Fm.prop k->k<8):=λk e=>aU.o x (NI hx) k e;obtain ⟨Z,H⟩:=EX ((Fm.aO x).1);obtain ⟨nn,V⟩:=EX ((Fm.aO x).2);rw [H]at c0;rw [V]at c1;have aJ:Below wr.heap.size wr (wr.alloc (.cells #[IV Z,IV nn] 32)):=(Nx _ _).alloc (Nz _) _;have d0:(wr.alloc (.cells #[IV Z,IV nn] 32)).cell? (AD wr.heap.size 0)=some (IV Z):=NV (w:=wr) _ 32 wr.heap.size 0 rfl;have d1:(wr.alloc (.cells #[IV Z,IV nn] 32)).cell? (AD wr.heap.size 1)=some (IV nn):=NV (w:=wr) _ 32 wr.heap.size 1 rfl;have u:=Nq (hw.o.af aJ);clear au aJ hw;go_upto_region 7 with(fail);clear c0 c1;generalize wr.alloc (.cells #[IV Z,IV nn] 32)=A at *;(try unfold BW at *);generalize wr.heap.size=qn at *;have ad:∀o,Hid (Below A.heap.size A (A.alloc o)):=λo=>Nq ((Nx _ _).alloc (Nz _) _);have B:∀k:Int,Z≠k->(Z==k)=false:=λk h=>NC.2 h;by_cases C:Z=1
   ·subst C;obtain ⟨y,rfl,P,ah,Q⟩:∃y,am=y::st/\Fm.enc (Fm.bO y)=[(1,0)]/\Fm.bO y=y/\dV y:=by
     cases x<;>simp [Fm.aO]at H
     cases d
     exact ⟨_,rfl,rfl,rfl,wh⟩
    have U:Hid (fg (A.alloc (.cells #[IV 1,IV 0] 32)) (Value.slice sa s sc).ownBlock (some (AD A.heap.size 0),1,1) (Fm.bO y)):=
     ⟨Nz _,by simp [maxLen],by unfold FA;rw [P];exact bN.xF A 1 0,λb o e e2=>by cases e;exact absurd (u.o.my.lt _ e2) (OI _)⟩
    have HY:=Nq Q;have E:=Nq (qG u.o.my (ad (.cells #[IV 1,IV 0] 32)).o);clear d H V P ah Q hx ab B;rw [<-an.o]at E;go_wp2_with (at_builtin;refine ax rfl (.tmp 42) (.tmp 47) 147 rfl 148 ac (SN) 24 Sn hi hz ap ao rfl (by decide) _ _ _ rfl E.o (SV A.heap.size 1 1) rfl (by rw [NG];rfl) (by omega) ?_;intro g1 c1 F hs L M;have HN:=Nq (u.o.dB (ad (.cells #[IV 1,IV 0] 32)).o U.o HY.o hs L M O.o);clear hs L M);go_roundw;exact ⟨i+1,by omega,by go_num,_,_,_,_,_,rfl,HN⟩;simp [intOf];omega
   by_cases h2:Z=2
   ·subst h2;obtain ⟨y,rfl,P,ah,Q⟩:∃y,am=y::st/\Fm.enc (Fm.bO y)=[(2,0)]/\Fm.bO y=y/\dV y:=by
     cases x<;>simp [Fm.aO]at H
     cases d
     exact ⟨_,rfl,rfl,rfl,we⟩
    have U:Hid (fg (A.alloc (.cells #[IV 2,IV 0] 32)) (Value.slice sa s sc).ownBlock (some (AD A.heap.size 0),1,1) (Fm.bO y)):=
     ⟨Nz _,by simp [maxLen],by unfold FA;rw [P];exact bN.xF A 2 0,λb o e e2=>by cases e;exact absurd (u.o.my.lt _ e2) (OI _)⟩
    have HY:=Nq Q;have E:=Nq (qG u.o.my (ad (.cells #[IV 2,IV 0] 32)).o);clear d H V P ah Q hx ab B;rw [<-an.o]at E;go_wp2_with (at_builtin;refine ax rfl (.tmp 42) (.tmp 47) 147 rfl 148 ac (SN) 24 Sn hi hz ap ao rfl (by decide) _ _ _ rfl E.o (SV A.heap.size 1 1) rfl (by rw [NG];rfl) (by omega) ?_;intro g1 c1 F hs L M;have HN:=Nq (u.o.dB (ad (.cells #[IV 2,IV 0] 32)).o U.o HY.o hs L M O.o);clear hs L M);go_roundw;exact ⟨i+1,by omega,by go_num,_,_,_,_,_,rfl,HN⟩;simp [intOf];omega
   by_cases h3:Z=3
   ·subst h3;obtain ⟨y,rfl,P,ah,Q⟩:∃y,am=y::st/\Fm.enc (Fm.bO y)=[(3,nn)]/\Fm.bO y=y/\dV y:=by
     cases x<;>simp [Fm.aO]at H
     rename_i k;subst V;cases d
     exact ⟨_,rfl,rfl,rfl,λz hz j e=>by have hz:z∈[Fm.prop k]:=hz;rw [Nv]at hz;subst hz;cases e;exact aq.o k rfl⟩
    have U:Hid (fg (A.alloc (.cells #[IV 3,IV nn] 32)) (Value.slice sa s sc).ownBlock (some (AD A.heap.size 0),1,1) (Fm.bO y)):=
     ⟨Nz _,by simp [maxLen],by unfold FA;rw [P];exact bN.xF A 3 nn,λb o e e2=>by cases e;exact absurd (u.o.my.lt _ e2) (OI _)⟩
    have HY:=Nq Q;have E:=Nq (qG u.o.my (ad (.cells #[IV 3,IV nn] 32)).o);clear d H V P ah Q hx ab B;rw [<-an.o]at E;go_wp2_with (at_builtin;refine ax rfl (.tmp 51) (.tmp 54) 147 rfl 148 ac (SN) 24 Sn hi hz ap ao rfl (by decide) _ _ _ rfl E.o (SV A.heap.size 1 1) rfl (by rw [NG];rfl) (by omega) ?_;intro g1 c1 F hs L M;have HN:=Nq (u.o.dB (ad (.cells #[IV 3,IV nn] 32)).o U.o HY.o hs L M O.o);clear hs L M);go_roundw;exact ⟨i+1,by omega,by go_num,_,_,_,_,_,rfl,HN⟩;simp [intOf];omega
   by_cases h4:Z=4
   ·subst h4;obtain ⟨y,r,rfl,rfl⟩:∃y r,st=y::r/\am=Fm.neg y::r:=by
     cases x<;>simp [Fm.aO]at H
     match st,d with
     |y::r,h=>cases h;exact ⟨y,r,rfl,rfl⟩
     |[],h=>cases h
    match sv,u with
    |[],u=>exact u.o.ec.elim
    |q::sv,u=>
     obtain ⟨g,t,rfl,rfl,G,e0,f0⟩:=u.o.MW;obtain ⟨X,T,Y⟩:=q;have D:=u.o.ec.1;have N:=D.size;have al:Fm.size y<=i:=by have:=aB.o;have e:bj (y::r)=Fm.size y+bj r:=rfl;omega
     have HC:Hid (CL 103 #[IV 4,SV A.heap.size 1 1] (A.alloc (.cells #[.slice X T Y] 148)) (aL A (λ_=>False) (Fm.neg (Fm.bO y)))):=nu Fm.One.neg X T Y A D.2.2.1 (by simp only at N;omega);have HY:Hid (dV (Fm.neg y)):=lZ .neg (u.o.ok y (by simp));change A.cell? (AD g t)=some (.slice X T Y)at e0;have ak:Hid (∀I R J F,aL A (λ_=>False) (Fm.neg (Fm.bO y)) (RT (.slice I R J)) F->F.cell? (AD g t)=some (.slice X T Y)/\F.frozen? (AD g t)=false/\Hid (SI w (F.setCell (AD g t) (.slice I R J)) f (i+1) (SV g (t+1) sc) (Fm.neg y::r) ((I,R,J)::sv))):=λI R J F C=>
      ⟨(C.af.cell G).trans e0,(N7 ((aj.aF C.af).block g G (λe=>OI _ (NL G e)))).trans f0,Nq (u.o.top C.af (y:=Fm.neg y) (fg.o C (λb e=>by cases e;exact ⟨G,id⟩)) HY.o O.o)⟩
     clear d H V hx ab B D N al;go_wp2_with (go_at_call 103;refine HC.o.mono ?_;rintro e F C;obtain ⟨I,R,J,rfl⟩:=C.shape;obtain ⟨e1,f1,HN⟩:=ak.o _ _ _ _ C;clear C);go_roundw;exact ⟨i+1,by omega,by go_num,_,_,_,_,_,rfl,HN⟩;simp [intOf];omega
   by_cases h8:Z=8
   ·subst h8;obtain ⟨y,r,rfl,rfl⟩:∃y r,st=y::r/\am=Fm.cM y::r:=by
     cases x<;>simp [Fm.aO]at H
     match st,d with
     |y::r,h=>cases h;exact ⟨y,r,rfl,rfl⟩
     |[],h=>cases h
    match sv,u with
    |[],u=>exact u.o.ec.elim
    |q::sv,u=>
     obtain ⟨g,t,rfl,rfl,G,e0,f0⟩:=u.o.MW;obtain ⟨X,T,Y⟩:=q;have D:=u.o.ec.1;have N:=D.size;have al:Fm.size y<=i:=by have:=aB.o;have e:bj (y::r)=Fm.size y+bj r:=rfl;omega
     have HC:Hid (CL 104 #[.slice X T Y] A (aL A (λk=>k≠g) (Fm.j4 (Fm.bO y)))):=Ii X T Y _ A D.2.2.1 (by simp only at N;omega) D.1 D.2.1 _ (λb o e e2=>D.2.2.2 b o e (by rw [e2];rfl));have HY:Hid (dV (Fm.cM y)):=lZ .cM (u.o.ok y (by simp));change A.cell? (AD g t)=some (.slice X T Y)at e0;have ak:Hid (∀I R J F,aL A (λk=>k≠g) (Fm.j4 (Fm.bO y)) (RT (.slice I R J)) F->F.cell? (AD g t)=some (.slice X T Y)/\F.frozen? (AD g t)=false/\Hid (SI w (F.setCell (AD g t) (.slice I R J)) f (i+1) (SV g (t+1) sc) (Fm.cM y::r) ((I,R,J)::sv))):=λI R J F C=>
      ⟨(C.af.cell G).trans e0,(N7 ((aj.aF C.af).block g G (λe=>OI _ (NL G e)))).trans f0,Nq (u.o.top C.af (y:=Fm.cM y) (fg.o C (λb e=>by cases e;exact ⟨G,λh=>h rfl⟩)) HY.o O.o)⟩
     clear d H V hx ab B D N al;go_wp2_with (go_at_call 104;refine HC.o.mono ?_;rintro e F C;obtain ⟨I,R,J,rfl⟩:=C.shape;obtain ⟨e1,f1,HN⟩:=ak.o _ _ _ _ C;clear C);go_roundw;exact ⟨i+1,by omega,by go_num,_,_,_,_,_,rfl,HN⟩;simp [intOf];omega
   ·subst H;obtain ⟨ar,aw⟩:=Jd ab C h2 h3 h4 h8
    obtain ⟨y2,y1,r,z,rfl,rfl,hz,aA⟩:=aw _ _ d;match sv,u with
    |[],u=>exact u.o.ec.elim
    |[_],u=>exact u.o.ec.2.elim
    |q::p::sv,u=>
     obtain ⟨g,t,rfl,rfl,G,e0,e1⟩:=u.o.Nk;obtain ⟨X,T,Y⟩:=q;obtain ⟨pa,pm,pc⟩:=p;have ag:=u.o.ec.1;have ae:=u.o.ec.2.1;have N:=ag.size;have aN:=ae.size;have al:Fm.size y1+Fm.size y2<=i:=by have:=aB.o;have e:bj (y2::y1::r)=Fm.size y2+(Fm.size y1+bj r):=rfl;omega
     have HY:Hid (dV z):=aA (u.o.ok y1 (by simp)) (u.o.ok y2 (by simp));have HC:Hid (∀W,Below A.heap.size A W->CL 105 #[IV (Fm.aO x).1,.slice pa pm pc,.slice X T Y] W (aL W (λk=>k≠g) (Fm.bO z))):=λW hb=>by rw [hz];exact KE _ ar pa pm pc X T Y _ _ W (ae.2.2.1.af hb) (ag.2.2.1.af hb) (wg (u.o.ok y1 (by simp))) (wg (u.o.ok y2 (by simp))) (by simp only at N aN;omega) ae.1 ae.2.1 ag.1 ag.2.1 _ (λb o e e2=>ae.2.2.2 b o e (by rw [e2];rfl)) (λb o e e2=>ag.2.2.2 b o e (by rw [e2];rfl))
     change A.cell? (AD g (t+1))=some (.slice X T Y)at e0;change A.cell? (AD g t)=some (.slice pa pm pc)at e1;have t1:=B 1 C;have t2:=B 2 h2;have t3:=B 3 h3;have t4:=B 4 h4;have t8:=B 8 h8;clear d V hx ab ag ae N aN al hz aA aw B C h2 h3 h4 h8 ar aq;generalize (Fm.aO x).1=Z at *;generalize nn=a2 at *;have b1:t+1<=sc:=by omega
     have b2:(t:Int)<=(sc:Int):=by omega
     have b3:(0:Int)<=(t:Int):=by omega
     have b4:(t:Int)<(t:Int)+2:=by omega
     have b5:(t:Int)+1<(t:Int)+2:=by omega
     have b6:(0:Int)<=(t:Int)+1:=by omega
     have b7:t<t+2:=by omega
     have b8:t+1<t+2:=by omega
     have u1:IntKind.i64.wrap (t:Int)=(t:Int):=Pf _ (by omega);have u2:IntKind.i64.wrap ((t:Int)+2-2)=(t:Int):=by rw [Qv];exact u1
     have u3:IntKind.i64.wrap ((t:Int)+1)=(t:Int)+1:=Pf _ (by omega);have u4:IntKind.i64.wrap ((t:Int)+2-1)=(t:Int)+1:=by rw [show(t:Int)+2-1=(t:Int)+1 from by omega];exact u3
     have aH:Hid (∀W I R J F,Below A.heap.size A W->aL W (λk=>k≠g) (Fm.bO z) (RT (.slice I R J)) F->Sl F 148 (SV g t sc) t ((sv.map jP).reverse)/\Hid (Below A.heap.size A F)/\
      ∀g1 c1 w4,Sl w4 148 (SV g1 (t+1) c1) (t+1) ((sv.map jP).reverse++[.slice I R J])->aj (λk=>(SV g t sc).ownBlock=some k) F w4->((SV g t sc).ownBlock=some g1\/F.heap.size<=g1)->
       Hid (SI w w4 f (i+1) (SV g1 (t+1) c1) (z::r) ((I,R,J)::sv))):=λW I R J F hb C=>
      ⟨u.o.cut (aa hb C.af),Nq (aa hb C.af),λg1 c1 w4 h4 hk hm=>Nq (u.o.two (aa hb C.af) (fg.o C (λb e=>by cases e;exact ⟨NL G hb.size,λh=>h rfl⟩)) HY.o h4 hk hm O.o)⟩
     go_upto_region 9 with(fail);refine av 16 (S:=λW=>W.cell? (AD qn 0)=some (IV Z)/\W.cell? (AD g (t+1))=some (.slice X T Y)/\W.cell? (AD g t)=some (.slice pa pm pc)) (by kernel_rfl) (⟨d0,e0,e1⟩) (λaC=>?_);refine' bc (i:=0) (v:=_) rfl (by kernel_rfl) (λ_ _ _ h=>h) (Or.inl ⟨by rfl,?hy0⟩) (by assumption) ?rest0;case hy0=>(intro w' aD;go_simp;(try with_reducible rfl))
     try walk_nrm
     refine' bc (i:=1) (v:=_) rfl (by kernel_rfl) (λ_ _ _ h=>h) (Or.inl ⟨by rfl,?hy1⟩) (by assumption) ?rest1;case hy1=>(intro w' aD;go_simp;(try with_reducible rfl))
     try walk_nrm
     refine' bc (i:=2) (v:=_) rfl (by kernel_rfl) (λ_ _ _ h=>h) (Or.inl ⟨by rfl,?hy2⟩) (by assumption) ?rest2;case hy2=>(intro w' aD;go_simp;(try with_reducible rfl))
     try walk_nrm
     refine' bc (i:=3) (v:=_) rfl (by kernel_rfl) (λ_ _ _ h=>h) (Or.inl ⟨by rfl,?hy3⟩) (by assumption) ?rest3;case hy3=>(intro w' aD;go_simp;(try with_reducible rfl))
     try walk_nrm
     refine' az 4 ?_ [5,4];refine' az 5 ?_;refine' az 6 ?_ [10,9,6];refine' az 7 ?_ [10,9,8,7];refine' az 8 ?_ [10,9,8];refine' az 9 ?_ [10,9];refine' az 10 ?_;refine' az 11 ?_ [15,14,11];refine' az 12 ?_ [15,14,13,12];refine' az 13 ?_ [15,14,13];refine' az 14 ?_ [15,14];refine' az 15 ?_;clear aC;have H0:Hid (Below A.heap.size A A.drew):=(Nx _ _).drew;refine aI 16 λK hK=>?_;go_simp;go_at_call 105;refine (HC.o _ H0.o).mono ?_;rintro e F C;obtain ⟨I,R,J,rfl⟩:=C.shape;obtain ⟨hcut,a0,aM⟩:=aH.o _ _ _ _ _ H0.o C;have aF:=Nq hcut;have aT:=Nq aM;clear C hcut aM;refine hK.o _ _ (λe=>nomatch e) ?_;clear hK K;try walk_nrm
     refine aI 17 λK hK=>?_;go_simp;refine hK.o _ _ (λe=>nomatch e) ?_;clear hK K;try walk_nrm
     refine aI 18 λK hK=>?_;refine tK rfl (.tmp 23) (.tmp 37) 147 rfl 148 ac (SN) 24 Sn hi hz ap ao rfl (by decide) F (.slice I R J) rfl rfl (SV g t sc) t _ rfl aF.o rfl (by omega) ?_;intro g1 c1 w4 hs L M;have HN:=aT.o _ _ _ hs L M;clear hs L M;refine hK.o _ _ (λe=>nomatch e) ?_;clear hK K;try walk_nrm
     refine aI 19 λK hK=>?_;go_simp;refine hK.o _ _ (λe=>nomatch e) ?_;clear hK K;try walk_nrm
     refine ay (by kernel_rfl) ?_;go_wp2;go_roundw;exact ⟨i+1,by omega,by go_num,_,_,_,_,_,rfl,HN⟩;simp [intOf];omega
  ·obtain rfl:i=n:=by omega
   have aX:st=[f]:=Kr (by(try unfold BW);rw [ai.o];exact hw.o.run);subst aX;match sv,hw with
   |[],hw=>exact hw.o.ec.elim
   |q::sv,hw=>
    obtain ⟨g,t,rfl,rfl,G,e0,f0⟩:=hw.o.MW;obtain rfl:t=0:=by have:=an.o;simp at this;exact this
    obtain ⟨X,T,Y⟩:=q;have D:=hw.o.ec.1;have N:=D.size;have HC:=Nq (Cg X T Y _ wr D.2.2.1 (by have:=ai.o;simp only at N;omega));change wr.cell? (AD g 0)=some (.slice X T Y)at e0;have aG:=Nq hw.o.aM;clear D N hw;go_wp2_with (go_at_call 106;refine HC.o.mono ?_;rintro e F ⟨I,J,rfl,hm⟩;have HM:=Nq hm;clear hm);go_ret;exact ⟨I,T,J,rfl,HM.o.from aG.o⟩
def dj{w:WD}{B:Nat}{e:TypeId}{a:Nat}{v:Value}{n:Nat}{k:List Value}(h:w.ownsRow B e a v n k):∀g,v.ownBlock=some g->g<w.heap.size:=λg b=>by rcases h.2 with⟨i,-⟩|⟨l,d,f,rfl,m,j,c⟩;subst i;cases b;cases b;exact (Nu.1 j).1
def bN.later{w a c:WD}{v:Value}{n:Nat}{F:List (Int×Int)}(h:bN w a v n F)(b:BW a c):bN w c v n F:=
 ⟨bm h.cK (aj.aF b) (λg e s=>OI _ (NL (dj h.cK g e) s)),h.bC,aa h.aM b,h.dJ⟩
def lenOf:Value->Nat
 | .slice _ n _=>n
 |_=>0
structure mI (n:Nat) (f g:Fm):Prop where
 gI:Fm.gI g
 ok:dV g
 size:Fm.size g<=n
 dI:∀u i,Fm.dI u g i↔Fm.dI u f i
def mI.bO{n:Nat}{f g:Fm}(h:mI n f g):mI n f (Fm.bO g):=
 ⟨Fm.Im g h.gI,wg h.ok,N5 (Fm.nH g).1 h.size,λu i=>(Fm.Io u g i).trans (h.dI u i)⟩
def Ka{g:Fm}(h:¬Fm.enc g=Fm.enc (Fm.bO g)):Fm.size (Fm.bO g)<Fm.size g:=by obtain ⟨b,c⟩:=Fm.nH g;rcases O8 (Fm.size (Fm.bO g)) (Fm.size g)with a|a;exact a;exact absurd (by rw [c (Sk b a)]) h
def Dd(a:OA)(n c:Nat)(f:Fm)(w:WD)(h:FA w a n f)(J:Fm.gI f)(t:dV f)(N:n<=1000):
 CL 41 #[.slice a n c] w λe L=>∃l m o g,e=RT (.slice l m o)/\bN w L (.slice l m o) m (Fm.enc g)/\mI n f g:=by
 have k:=Nq (Bc a n c f w h J t N)
 have G:Hid (mI n f (Fm.bO f)):=mI.bO ⟨J,t,by rw [h.size];exact Nz _,λu i=>Ry⟩
 clear h J t
 go_enter Tryz.func41,Tryz.ntmps41
 go_wp2_with (go_at_call 73;refine k.o.mono ?_;rintro e s ⟨p,j,q,rfl,r⟩;have F:=Nq r;clear r)
 go_loopw [3] (λv wr=>∃l m o g,v=.slice l m o/\m<=n/\Hid (bN w wr (.slice l m o) m (Fm.enc g))/\Hid (mI n f g)) (λv _=>lenOf v)
 exact ⟨p,j,q,_,rfl,by have:=G.o.size;have d:=F.o.bC;rw [Fm.de]at d;omega,F,G⟩
 clear k F G
 obtain ⟨l,m,o,g,rfl,M,r,B⟩:=hrel
 have k:=Nq (Bc l m o g wr r.o.ah B.o.gI B.o.ok (by omega))
 have b:Hid (∀s p j q,bN wr s (.slice p j q) j (Fm.enc (Fm.bO g))->j<=m/\CL 74 #[.slice l m o,.slice p j q] s λe L=>e=RT (.bool (decide (Fm.enc g=Fm.enc (Fm.bO g))))/\BW s L):=λs p j q d=>by
  have H:=r.o.bC;have I:=d.bC;rw [Fm.de]at H I;have P:=(Fm.nH g).1;have:j<=m:=by omega
  exact ⟨this,JP l m o _ p j q _ s (r.o.ah.af d.aM) d.ah (by omega) (by omega)⟩
 by_cases z:Fm.enc g=Fm.enc (Fm.bO g)
 ·rw [N6 z]at b;clear z
  go_wp2_with (first
   |(go_at_call 73;refine k.o.mono ?_;rintro e s ⟨p,j,q,rfl,d⟩;obtain ⟨K,y⟩:=b.o _ _ _ _ d;have D:=Nq y;have A:=Nq d;clear d y b)
   |(go_at_call 74;refine D.o.mono ?_;rintro e O ⟨rfl,x⟩;have C:=Nq x;clear x))
  go_ret;exact ⟨l,m,o,g,rfl,bN.later (r.o) (aa A.o.aM C.o),B.o⟩
 ·rw [NX z]at b;have E:=Nq (Ka z)
  clear z;go_wp2_with (first
   |(go_at_call 73;refine k.o.mono ?_;rintro e s ⟨p,j,q,rfl,d⟩;obtain ⟨K,y⟩:=b.o _ _ _ _ d;have D:=Nq y;have A:=Nq d;clear d y b)
   |(go_at_call 74;refine D.o.mono ?_;rintro e O ⟨rfl,x⟩;have C:=Nq x;clear x))
  go_roundw;case rel=>exact ⟨p,j,q,Fm.bO g,rfl,by omega,Nq (bN.later (A.o.from r.o.aM) C.o),Nq B.o.bO⟩
  case measure=>have H:=r.o.bC;have I:=A.o.bC;rw [Fm.de]at H I;have:=E.o;simp [lenOf];omega
end Go.Proofs.YtimniinkpipnmaaGreatDoor
namespace Go.Own
def Q3:=@Nat.mod_eq_of_lt
theorem mL{R:Nat->Nat->Prop}{S:Nat->Nat->Nat->Prop}{p0:Nat}(g:R 0 p0)(d:∀i p,R i p->∃f,S i p f/\R (i+1) f):∃p:Nat->Nat,p 0=p0/\∀i,R i (p i)/\S i (p i) (p (i+1)):=by
 let c:={x:Nat×Nat//R x.1 x.2};let j:c->c:=λx=>⟨(x.1.1+1,Classical.choose (d x.1.1 x.1.2 x.2)),(QM (d x.1.1 x.1.2 x.2)).2⟩;let a:Nat->c:=λk=>Nat.rec ⟨(0,p0),g⟩ (λ_ x=>j x) k;have b:∀k,(a k).1.1=k:=by
  intro k;induction k with
  |zero=>rfl
  |succ k h=>show(a k).1.1+1=k+1;rw [h]
 refine ⟨λk=>(a k).1.2,rfl,λi=>⟨?_,?_⟩⟩;have:=(a i).2;rwa [b i]at this;have e:S (a i).1.1 (a i).1.2 (a (i+1)).1.2:=(QM (d (a i).1.1 (a i).1.2 (a i).2)).1;rw [b i]at e;exact e
structure lQ (A B:Au) (q p:Nat):Prop where
 lt:p<B.ah.length
 ak:∀k,(B.aw p).ak.testBit k=true->(A.aw q).ak.testBit k=true
 aD:∀k,(B.aw p).aD.testBit k=true->(A.aw q).aD.testBit k=true
 aT:∀s,s<A.sets->(A.aw q).aT.testBit s=true->(B.aw p).aT.testBit s=true
theorem Fs{A B:Au}{u r:Nat->Nat}(h:MT A u r)(q:B.sets=A.sets)(R:Nat->Nat->Prop)(hw:∀i p,R (r i) p->lQ A B (r i) p)
 (l:∃p∈B.aJ,R (r 0) p) (a:∀i p,R (r i) p->∃b∈(B.aw p).tO,R (r (i+1)) b):jR B u:=by
 obtain ⟨x,f,d⟩:=l
 obtain ⟨p,g,c⟩:=mL (R:=λi p=>R (r i) p) (S:=λ_ p b=>b∈(B.aw p).tO) d (λi p o=>by obtain ⟨b,m,n⟩:=a i p o;exact ⟨b,m,n⟩)
 refine ⟨p,by rw [g];exact f,λi=>(hw i _ (c i).1).lt,λi=>(c i).2,λi k=>?_,λs a i=>?_⟩
 have w:=hw i _ (c i).1
 exact ⟨λe=>(h.rd i k).1 (w.ak k e),λe=>(h.rd i k).2 (w.aD k e)⟩
 rw [q]at a
 obtain ⟨j,v,t⟩:=h.vZ s a i
 exact ⟨j,v,(hw j _ (c j).1).aT s a t⟩
def iu(A:Au)(q t:Nat):Nat:=if 0<A.sets/\(A.aw q).aT.testBit t=true then(t+1)%A.sets else t
structure Md (A D:Au)where
 nd:Nat->Nat
 tn:Nat->Nat
 sets:D.sets=1
 lt:∀n,n<D.ah.length->nd n<A.ah.length
 ak:∀n,n<D.ah.length->(D.aw n).ak=(A.aw (nd n)).ak
 aD:∀n,n<D.ah.length->(D.aw n).aD=(A.aw (nd n)).aD
 aJ:∀n∈D.aJ,n<D.ah.length/\tn n=0/\nd n∈A.aJ
 gZ:∀q∈A.aJ,∃n∈D.aJ,nd n=q/\tn n=0
 tO:∀n,n<D.ah.length->∀m∈(D.aw n).tO,m<D.ah.length/\nd m∈(A.aw (nd n)).tO/\tn m=iu A (nd n) (tn n)
 nm:∀n,n<D.ah.length->∀q∈(A.aw (nd n)).tO,∃m∈(D.aw n).tO,nd m=q/\tn m=iu A (nd n) (tn n)
 aT:∀n,n<D.ah.length->((D.aw n).aT.testBit 0=true↔(A.sets=0\/(tn n=0/\(A.aw (nd n)).aT.testBit 0=true)))
theorem BG{A:Au}{r t:Nat->Nat}(l:∀i,t (i+1)=iu A (r i) (t i))(k:∀s,s<A.sets->∀i,∃j,i<=j/\(A.aw (r j)).aT.testBit s=true)(i:Nat)(g:t i<A.sets):
 ∃j,i<=j/\t j=t i/\(A.aw (r j)).aT.testBit (t i)=true:=by
 obtain ⟨c,d,b⟩:=k (t i) g i
 have f:∀m,(∃j,i<=j/\t j=t i/\(A.aw (r j)).aT.testBit (t i)=true)\/t (i+m)=t i:=by
  intro m;induction m with
  |zero=>exact .inr rfl
  |succ m n=>rcases n with h|h;exact .inl h;by_cases b:(A.aw (r (i+m))).aT.testBit (t i)=true;exact .inl ⟨i+m,by omega,h,b⟩;right;have a:=l (i+m);rw [h]at a;unfold iu at a;rw [if_neg (λh=>b h.2)]at a;exact a
 rcases f (c-i)with h|h
 exact h
 have e:i+(c-i)=c:=by omega
 rw [e]at h
 exact ⟨c,d,h,b⟩
theorem pQ{A:Au}{r t:Nat->Nat}(a:0<A.sets)(b:t 0=0)(c:∀i,t (i+1)=iu A (r i) (t i)):∀i,t i<A.sets
 |0=>by rw [b];exact a
 |i+1=>by rw [c i];unfold iu;split;exact Nat.mod_lt _ a;exact pQ a b c i
theorem yJ{A:Au}{r t:Nat->Nat}(c:0<A.sets)(f:t 0=0)(a:∀i,t (i+1)=iu A (r i) (t i))(g:∀s,s<A.sets->∀i,∃j,i<=j/\(A.aw (r j)).aT.testBit s=true):
 ∀d i,t i+d=A.sets->∃j,i<=j/\t j=0
 |0,i,h=>by have:=pQ c f a i;omega
 |d+1,i,h=>by
  obtain ⟨j,q,e,m⟩:=BG a g i (pQ c f a i);have b:=a j;unfold iu at b;rw [e,if_pos ⟨c,m⟩]at b;by_cases p:d=0;refine ⟨j+1,by omega,?_⟩;have l:t i+1=A.sets:=by omega
  rw [b,l,Nat.mod_self];rw [Q3 (by omega)]at b;obtain ⟨o,n,k⟩:=yJ c f a g d (j+1) (by omega);exact ⟨o,by omega,k⟩
theorem JN{A D:Au}(G:Md A D)(u:Nat->Nat):jR D u↔jR A u:=by
 constructor;rintro ⟨n,R⟩;refine ⟨λi=>G.nd (n i),(G.aJ _ R.aK).2.2,λi=>G.lt _ (R.lt i),λi=>(G.tO _ (R.lt i) _ (R.step i)).2.1,λi=>?_,λs w i=>?_⟩;have:=R.rd i;rwa [G.ak _ (R.lt i),G.aD _ (R.lt i)]at this;have g:0<A.sets:=by omega
 have U:=R.vZ 0 (by rw [G.sets];omega);have o:∀i,∃j,i<=j/\G.tn (n j)=0/\(A.aw (G.nd (n j))).aT.testBit 0=true:=λi=>by obtain ⟨j,C,a⟩:=U i;rw [G.aT _ (R.lt j)]at a;rcases a with a|a;omega;exact ⟨j,C,a⟩
 have f:∀i,G.tn (n (i+1))=iu A (G.nd (n i)) (G.tn (n i)):=λi=>(G.tO _ (R.lt i) _ (R.step i)).2.2;refine PG λO=>?_;have v:∀j,i<=j->¬(A.aw (G.nd (n j))).aT.testBit s=true:=λj C a=>O ⟨j,C,a⟩;obtain ⟨b,E,z,l⟩:=o i;have y:s≠0:=λe=>by subst e;exact v b E l
 have H:∀m,1<=G.tn (n (b+1+m))/\G.tn (n (b+1+m))<=s:=by
  intro m;induction m with
  |zero=>have c:=f b;unfold iu at c;rw [z,if_pos ⟨g,l⟩,Q3 (by omega)]at c;rw [Nat.add_zero,c];omega
  |succ m Y=>
   have c:=f (b+1+m);have e:b+1+m+1=b+1+(m+1):=by omega
   rw [e]at c;unfold iu at c;split at c;rename_i a;have T:G.tn (n (b+1+m))≠s:=λe=>by have B:=a.2;rw [e]at B;exact v _ (by omega) B
   rw [Q3 (by omega)]at c;omega;omega
 obtain ⟨F,P,I,_⟩:=o (b+1);have:=(H (F-(b+1))).1;have e:b+1+(F-(b+1))=F:=by omega
 rw [e]at this;omega;rintro ⟨r,R⟩;let t:Nat->Nat:=λi=>Nat.rec 0 (λi x=>iu A (r i) x) i;have h:t 0=0:=rfl;have f:∀i,t (i+1)=iu A (r i) (t i):=λ_=>rfl;obtain ⟨V,q,L,M⟩:=G.gZ _ R.aK;obtain ⟨n,K,d⟩:=mL (R:=λi p=>p<D.ah.length/\G.nd p=r i/\G.tn p=t i) (S:=λ_ p W=>W∈(D.aw p).tO) (p0:=V) ⟨(G.aJ _ q).1,L,M⟩
  (λi p ⟨z,l,c⟩=>by have w:=R.step i;rw [<-l]at w;obtain ⟨m,J,I,B⟩:=G.nm p z _ w;exact ⟨m,J,(G.tO p z m J).1,I,by rw [B,f,l,c]⟩)
 refine ⟨n,by rw [K];exact q,λi=>(d i).1.1,λi=>(d i).2,λi=>?_,λs w i=>?_⟩;rw [G.ak _ (d i).1.1,G.aD _ (d i).1.1,(d i).1.2.1];exact R.rd i;rw [G.sets]at w;have y:s=0:=by omega
 subst y;by_cases g:A.sets=0;exact ⟨i,Qp _,(G.aT _ (d i).1.1).2 (.inl g)⟩;have g:0<A.sets:=by omega
 have Q:=pQ g h f i;obtain ⟨j,C,e⟩:=yJ g h f R.vZ (A.sets-t i) i (by omega);obtain ⟨k,X,N,a⟩:=BG f R.vZ j (pQ g h f j);refine ⟨k,by omega,(G.aT _ (d k).1.1).2 (.inr ⟨by rw [(d k).1.2.2,N,e],?_⟩)⟩;rw [(d k).1.2.1];rw [e]at a;exact a
def Tf:=@List.mem_filter
structure Valid (A:Au):Prop where
 aJ:∀q∈A.aJ,q<A.ah.length
 tO:∀n,n<A.ah.length->∀q∈(A.aw n).tO,q<A.ah.length
theorem lQ.refl{A:Au}{q:Nat}(h:q<A.ah.length):lQ A A q q:=⟨h,λ_ h=>h,λ_ h=>h,λ_ _ h=>h⟩
theorem lQ.trans{A B C:Au}{q p x:Nat}(h:lQ A B q p)(k:lQ B C p x)(d:A.sets<=B.sets):lQ A C q x:=
 ⟨k.lt,λb a=>h.ak b (k.ak b a),λb a=>h.aD b (k.aD b a),λs c a=>k.aT s (by omega) (h.aT s c a)⟩
structure MU (A:Au) (R:Nat->Nat->Prop):Prop where
 tM:∀q p,R q p->q<A.ah.length/\lQ A A q p
 step:∀q p,R q p->∀t∈(A.aw q).tO,∃v∈(A.aw p).tO,R t v
structure kX (A:Au) (R:Nat->Nat->Prop):Prop extends MU A R where
 all:∀a,MU A a->∀q p,a q p->R q p
theorem kX.refl{A:Au}{R:Nat->Nat->Prop}(h:kX A R)(g:Valid A){q:Nat}(f:q<A.ah.length):R q q:=
 h.all (λa b=>a=b/\a<A.ah.length) ⟨λq p ⟨e,c⟩=>by subst e;exact ⟨c,lQ.refl c⟩,λq p ⟨e,c⟩ t d=>by subst e;exact ⟨t,d,rfl,g.tO q c t d⟩⟩ q q ⟨rfl,f⟩
theorem kX.trans{A:Au}{R:Nat->Nat->Prop}(h:kX A R){a b c:Nat}(f:R a b)(g:R b c):R a c:=
 h.all (λx z=>∃y,R x y/\R y z) ⟨λq p ⟨y,d,e⟩=>⟨(h.tM q y d).1,(h.tM q y d).2.trans (h.tM y p e).2 (Qp _)⟩,λq p ⟨y,d,e⟩ t i=>by obtain ⟨v,j,l⟩:=h.step q y d t i;obtain ⟨x,k,m⟩:=h.step y p e v j;exact ⟨x,k,v,l,m⟩⟩ a c ⟨b,f,g⟩
structure B3 (A P:Au) (R:Nat->Nat->Prop):Prop where
 sets:P.sets=A.sets
 bC:P.ah.length=A.ah.length
 ak:∀n,(P.aw n).ak=(A.aw n).ak
 aD:∀n,(P.aw n).aD=(A.aw n).aD
 aT:∀n,(P.aw n).aT=(A.aw n).aT
 aJ:∀q∈P.aJ,q∈A.aJ
 gZ:∀q∈A.aJ,∃p∈P.aJ,R q p
 tO:∀n,n<A.ah.length->∀q∈(P.aw n).tO,q∈(A.aw n).tO
 nm:∀n,n<A.ah.length->∀q∈(A.aw n).tO,∃p∈(P.aw n).tO,R q p
theorem CW{A P:Au}{R:Nat->Nat->Prop}(h:B3 A P R)(c:kX A R)(u:Nat->Nat):jR P u↔jR A u:=by constructor;rintro ⟨r,b⟩;refine Fs b h.sets.symm (λq p=>p=q) (λi p e=>?_) ⟨_,h.aJ _ b.aK,rfl⟩ (λi p e=>?_);subst e;have:=b.lt i;rw [h.bC]at this;exact ⟨this,λk a=>by rw [h.ak];exact a,λk a=>by rw [h.aD];exact a,λs _ a=>by rw [<-h.aT];exact a⟩;subst e;have:=b.lt i;rw [h.bC]at this;exact ⟨_,h.tO _ this _ (b.step i),rfl⟩;rintro ⟨r,b⟩;refine Fs b h.sets R (λi p e=>?_) (h.gZ _ b.aK) (λi p e=>?_);have w:=(c.tM _ _ e).2;exact ⟨by rw [h.bC];exact w.lt,λk a=>w.ak k (by rw [<-h.ak];exact a),λk a=>w.aD k (by rw [<-h.aD];exact a),λs d a=>by rw [h.aT];exact w.aT s d a⟩;obtain ⟨v,f,j⟩:=c.step _ _ e _ (b.step i);obtain ⟨x,g,l⟩:=h.nm p (c.tM _ _ e).2.lt v f;exact ⟨x,g,c.trans j l⟩
structure BY (A M:Au) (R:Nat->Nat->Prop) (aW aA:Nat->Nat):Prop where
 sets:M.sets=A.sets
 vT:∀p,p<M.ah.length->aA p<A.ah.length
 ak:∀p,p<M.ah.length->(M.aw p).ak=(A.aw (aA p)).ak
 aD:∀p,p<M.ah.length->(M.aw p).aD=(A.aw (aA p)).aD
 aT:∀p,p<M.ah.length->(M.aw p).aT=(A.aw (aA p)).aT
 rep:∀q,q<A.ah.length->aW q<M.ah.length/\R q (aA (aW q))/\R (aA (aW q)) q
 aJ:∀p∈M.aJ,∃q∈A.aJ,aW q=p
 gZ:∀q∈A.aJ,aW q∈M.aJ
 tO:∀n,n<M.ah.length->∀p∈(M.aw n).tO,∃q∈(A.aw (aA n)).tO,aW q=p
 nm:∀n,n<M.ah.length->∀q∈(A.aw (aA n)).tO,aW q∈(M.aw n).tO
theorem CM{A M:Au}{R:Nat->Nat->Prop}{n d:Nat->Nat}(h:BY A M R n d)(g:kX A R)(m:Valid A)(u:Nat->Nat):jR M u↔jR A u:=by constructor;rintro ⟨r,c⟩;refine Fs c h.sets.symm (λp q=>p<M.ah.length/\R (d p) q) (λi p e=>?_) ?_ (λi p e=>?_);obtain ⟨a,e⟩:=e;have w:=(g.tM _ _ e).2;exact ⟨w.lt,λk b=>by rw [h.ak _ a];exact w.ak k b,λk b=>by rw [h.aD _ a];exact w.aD k b,λs l b=>w.aT s (by rw [<-h.sets];exact l) (by rw [<-h.aT _ a];exact b)⟩;obtain ⟨q,o,e⟩:=h.aJ _ c.aK;exact ⟨q,o,c.lt 0,by rw [<-e];exact (h.rep q (m.aJ q o)).2.2⟩;obtain ⟨a,e⟩:=e;obtain ⟨t,x,y⟩:=h.tO _ a _ (c.step i);obtain ⟨v,f,k⟩:=g.step _ _ e t x;exact ⟨v,f,c.lt (i+1),g.trans (by rw [<-y];exact (h.rep t (m.tO _ (h.vT _ a) t x)).2.2) k⟩;rintro ⟨r,c⟩;refine Fs c h.sets (λq p=>p<M.ah.length/\R q (d p)) (λi p e=>?_) ?_ (λi p e=>?_);obtain ⟨a,e⟩:=e;have w:=(g.tM _ _ e).2;exact ⟨a,λk b=>w.ak k (by rw [<-h.ak _ a];exact b),λk b=>w.aD k (by rw [<-h.aD _ a];exact b),λs l b=>by rw [h.aT _ a];exact w.aT s l b⟩;exact ⟨_,h.gZ _ c.aK,(h.rep _ (c.lt 0)).1,(h.rep _ (c.lt 0)).2.1⟩;obtain ⟨a,e⟩:=e;obtain ⟨v,f,k⟩:=g.step _ _ e _ (c.step i);have j:=m.tO _ (h.vT _ a) v f;exact ⟨_,h.nm _ a v f,(h.rep v j).1,g.trans k (h.rep v j).2.1⟩
theorem jU{α:Type}{p q:α->Bool}(h:∀x,p x=true->q x=true):∀(l:List α),(∃x∈l,q x=true/\p x=false)->(l.filter p).length<(l.filter q).length
 |[],⟨_,h,_⟩=>by cases h
 |a::l,⟨x,i,j,k⟩=>by
  have g:∀l:List α,(l.filter p).length<=(l.filter q).length:=by
   intro l;induction l with
   |nil=>simp
   |cons b l f=>by_cases c:p b=true;simp [c,h b c,f];by_cases d:q b=true;simp [c,d];omega;simp [c,d,f]
  rcases List.mem_cons.1 i with e|i;subst e;have:=g l;simp [j,k];omega;have f:=jU h l ⟨x,i,j,k⟩;by_cases c:p a=true;simp [c,h a c];exact f;by_cases d:q a=true;simp [c,d];omega;simp [c,d];exact f
theorem Ja{lt:Nat->Nat->Bool}(f:∀a b c,lt a b=true->lt b c=true->lt a c=true)(i:∀a,lt a a=false)(l:List Nat):
 ∀(m t:Nat),(l.filter (lt t)).length<=m->t∈l->∃v∈l,(v=t\/lt t v=true)/\∀x∈l,lt v x=false
 |0,t,s,k=>by refine ⟨t,k,.inl rfl,λx g=>?_⟩;by_cases h:lt t x=true;have:x∈l.filter (lt t):=Tf.2 ⟨g,h⟩;have o:l.filter (lt t)=[]:=List.eq_nil_of_length_eq_zero (by omega);rw [o]at this;cases this;simpa using h
 |m+1,t,s,k=>by by_cases h:∃x∈l,lt t x=true;obtain ⟨x,g,d⟩:=h;have z:=jU (p:=lt x) (q:=lt t) (λy w=>f t x y d w) l ⟨x,g,d,i x⟩;obtain ⟨v,u,j,r⟩:=Ja f i l m x (by omega) g;refine ⟨v,u,.inr ?_,r⟩;rcases j with e|j;subst e;exact d;exact f _ _ _ d j;refine ⟨t,k,.inl rfl,λx g=>?_⟩;by_cases n:lt t x=true;exact absurd ⟨x,g,n⟩ h;simpa using n
def iY(r:Nat->Nat->Bool)(a:Nat->Nat)(t v:Nat):Bool:=decide (v≠t)&&(r t v&&(!r v t||decide (a v<a t)))
theorem Hz{r:Nat->Nat->Bool}{idx:Nat->Nat}(g:∀t,r t t=true)(i:∀a b c,r a b=true->r b c=true->r a c=true)(l:List Nat)(t:Nat)(s:t∈l):
 ∃v∈l,(∀x∈l,iY r idx v x=false)/\r t v=true:=by
 have j:∀a b,iY r idx a b=true↔(b≠a/\r a b=true/\(r b a=true->idx b<idx a)):=λa b=>by unfold iY;simp only [Ru,QG,OP,QN];constructor;rintro ⟨f,d,k⟩;exact ⟨f,d,λo=>k.elim (λh=>by rw [h]at o;cases o) id⟩;rintro ⟨f,d,k⟩;refine ⟨f,d,?_⟩;by_cases h:r b a=true;exact .inr (k h);exact .inl (by simpa using h)
 obtain ⟨v,u,f,d⟩:=Ja (lt:=iY r idx) (λa b c m n=>by
  rw [j]at m n⊢;obtain ⟨f,d,k⟩:=m;obtain ⟨o,p,q⟩:=n;refine ⟨λe=>?_,i _ _ _ d p,λh=>?_⟩;subst e;have:=k p;have:=q d;omega;have:=k (i _ _ _ p h);have:=q (i _ _ _ h d);omega) (λa=>by
  by_cases h:iY r idx a a=true;exact absurd rfl ((j a a).1 h).1;simpa using h) l _ t (Qp _) s
 refine ⟨v,u,d,?_⟩
 rcases f with e|f
 subst e;exact g _
 exact ((j _ _).1 f).2.1
section
open Fm
def OQ:=@List.length_range
def PB:=@Nat.testBit_and
def PF:=@Nat.zero_testBit
def Qg:=@List.mem_cons_of_mem
def Qx:=@Nat.eq_of_testBit_eq
def Sb:=@List.mem_flatMap
def Sz:=@Nat.testBit_two_pow
structure Wy where
 ak:Nat
 aD:Nat
 bz:Nat->Bool
 next:Nat->Bool
 bS:List Nat
def Wy.dh(w:Wy)(l:List Nat):Wy:={w with bS:=l++w.bS}
def Wy.jh(w:Wy)(p:Nat):Wy:={w with next:=up w.next p true}
def Wy.dE(w:Wy)(p:Nat):Wy:={w with bz:=up w.bz p true}
def Wy.kH(w:Wy)(n:Nat):Wy:={w with ak:=w.ak|||2^n}
def Wy.oY(w:Wy)(n:Nat):Wy:={w with aD:=w.aD|||2^n}
def Wy.pure(w:Wy):List Wy:=if w.ak&&&w.aD=0 then [w]else []
def split(x:Fm)(p:Nat)(w:Wy):List Wy:=
 match x with
 |tt=>[w]
 |Fm.prop n=>(w.kH n).pure
 |neg (Fm.prop n)=>(w.oY n).pure
 |Fm.and _ b=>[w.dh [p-1-size b,p-1]]
 |Fm.or _ b=>[w.dh [p-1-size b],w.dh [p-1]]
 |Fm.cM _=>[w.jh (p-1)]
 |Fm.dw _ b=>[w.dh [p-1],(w.dh [p-1-size b]).jh p]
 |Fm.rel _ b=>[w.dh [p-1-size b,p-1],(w.dh [p-1]).jh p]
 |_=>[]
def im(a:Nat->Bool):List Nat->List Nat
 |[]=>[]
 |p::r=>if a p=true then im a r else p::r
def ey(f:Fm):Nat->Wy->List Wy
 |0,_=>[]
 |m+1,w=>
  match im w.bz w.bS with
  |[]=>[{w with bS:=[]}]
  |p::r=>
   match(aQ f)[p]? with
   |some x=>(split x p (Wy.dE {w with bS:=r} p)).flatMap (ey f m)
   |none=>[]
def bH(n:Nat)(w:Wy):Jp:=⟨w.ak,w.aD,(List.range n).filter w.next,(List.range n).filter w.bz⟩
theorem gg{n:Nat}{w:Wy}{p:Nat}:p∈(bH n w).bz↔p<n/\w.bz p=true:=by unfold bH;rw [Tf,List.mem_range]
theorem jd{n:Nat}{w:Wy}{p:Nat}:p∈(bH n w).next↔p<n/\w.next p=true:=by unfold bH;rw [Tf,List.mem_range]
structure Ob (f:Fm) (ak aD:Nat) (N X:Nat->Prop) (p:Nat):Prop where
 ff:¬At f p ff
 prop:∀n,At f p (Fm.prop n)->ak.testBit n=true
 neg:∀n,At f p (neg (Fm.prop n))->aD.testBit n=true
 and:∀a b,At f p (Fm.and a b)->N (p-1)/\N (p-1-size b)
 or:∀a b,At f p (Fm.or a b)->N (p-1)\/N (p-1-size b)
 cM:∀a,At f p (Fm.cM a)->X (p-1)
 dw:∀a b,At f p (Fm.dw a b)->N (p-1)\/(N (p-1-size b)/\X p)
 rel:∀a b,At f p (Fm.rel a b)->N (p-1)/\(N (p-1-size b)\/X p)
theorem Ob.mono{f:Fm}{i j c e:Nat}{N X o r:Nat->Prop}{p:Nat}(h:Ob f i j N X p)(s:∀k,i.testBit k=true->c.testBit k=true)(t:∀k,j.testBit k=true->e.testBit k=true)
 (g:∀q,N q->o q) (l:∀q,X q->r q):Ob f c e o r p:=
 ⟨h.ff,λn m=>s n (h.prop n m),λn m=>t n (h.neg n m),λa b d=>(h.and a b d).imp (g _) (g _),λa b d=>(h.or a b d).imp (g _) (g _),λa d=>l _ (h.cM a d),
  λa b d=>(h.dw a b d).imp (g _) (And.imp (g _) (l _)),λa b d=>(h.rel a b d).imp (g _) (Or.imp (g _) (l _))⟩
def Wy.N(w:Wy)(q:Nat):Prop:=w.bz q=true\/q∈w.bS
def Wy.X(w:Wy)(q:Nat):Prop:=w.next q=true
structure Wy.Le (w c:Wy):Prop where
 ak:∀k,w.ak.testBit k=true->c.ak.testBit k=true
 aD:∀k,w.aD.testBit k=true->c.aD.testBit k=true
 N:∀q,w.N q->c.N q
 X:∀q,w.X q->c.X q
 bz:c.bz=w.bz
theorem eY{a n k:Nat}:(a|||2^n).testBit k=true↔a.testBit k=true\/k=n:=by rw [Nat.testBit_or,Sz];simp only [Py,OP];exact or_congr Ry eq_comm
theorem hO{w c:Wy}(h:c∈w.pure):c=w:=by unfold Wy.pure at h;split at h;exact Nv.1 h;cases h
theorem Wy.Le.refl(w:Wy):w.Le w:=⟨λ_ h=>h,λ_ h=>h,λ_ h=>h,λ_ h=>h,rfl⟩
theorem Wy.kF(w:Wy)(l:List Nat):w.Le (w.dh l):=⟨λ_ h=>h,λ_ h=>h,λ_ h=>h.imp id (λh=>OO _ h),λ_ h=>h,rfl⟩
theorem Wy.mW(w:Wy)(p:Nat):w.Le (w.jh p):=⟨λ_ h=>h,λ_ h=>h,λ_ h=>h,λq h=>by show up w.next p true q=true;by_cases e:q=p;subst e;exact aB _ _ _;rw [an _ _ _ _ e];exact h,rfl⟩
theorem Wy.Le.trans{a b c:Wy}(h:a.Le b)(k:b.Le c):a.Le c:=⟨λx y=>k.ak x (h.ak x y),λx y=>k.aD x (h.aD x y),λx y=>k.N x (h.N x y),λx y=>k.X x (h.X x y),k.bz.trans h.bz⟩
theorem kS{w:Wy}{l:List Nat}{q:Nat}(h:q∈l):(w.dh l).N q:=.inr (Oo _ h)
theorem zM{w:Wy}{p:Nat}:(w.jh p).X p:=aB _ _ _
theorem IZ{f:Fm}{p:Nat}{x:Fm}(e:At f p x){w c:Wy}(h:c∈split x p w):w.Le c/\Ob f c.ak c.aD c.N c.X p:=by
 have d:∀{y:Fm}{P:Prop},x≠y->At f p y->P:=λm o=>absurd (e.inj o) m;cases x with
 |tt=>obtain rfl:=Nv.1 h;exact ⟨.refl _,⟨λh=>(d (by simp) h:False),λn h=>d (by simp) h,λn h=>d (by simp) h,λa b h=>d (by simp) h,λa b h=>d (by simp) h,λa h=>d (by simp) h,λa b h=>d (by simp) h,λa b h=>d (by simp) h⟩⟩
 |ff=>cases h
 |prop n=>
  obtain rfl:=hO h;refine ⟨⟨λk g=>eY.2 (.inl g),λ_ h=>h,λ_ h=>h,λ_ h=>h,rfl⟩,⟨λh=>(d (by simp) h:False),λk g=>?_,λn h=>d (by simp) h,λa b h=>d (by simp) h,λa b h=>d (by simp) h,λa h=>d (by simp) h,λa b h=>d (by simp) h,λa b h=>d (by simp) h⟩⟩;have:=e.inj g;cases this
  exact eY.2 (.inr rfl)
 |neg a=>
  cases a with
  |prop n=>
   obtain rfl:=hO h;refine ⟨⟨λ_ h=>h,λk g=>eY.2 (.inl g),λ_ h=>h,λ_ h=>h,rfl⟩,⟨λh=>(d (by simp) h:False),λn h=>d (by simp) h,λk g=>?_,λa b h=>d (by simp) h,λa b h=>d (by simp) h,λa h=>d (by simp) h,λa b h=>d (by simp) h,λa b h=>d (by simp) h⟩⟩;have:=e.inj g;cases this
   exact eY.2 (.inr rfl)
  |_=>cases h
 |and a b=>obtain rfl:=Nv.1 h;refine ⟨Wy.kF _ _,⟨λh=>(d (by simp) h:False),λn h=>d (by simp) h,λn h=>d (by simp) h,λj l h=>?_,λa b h=>d (by simp) h,λa h=>d (by simp) h,λa b h=>d (by simp) h,λa b h=>d (by simp) h⟩⟩;have:=e.inj h;cases this;exact ⟨kS (by simp),kS (by simp)⟩
 |or a b=>refine ⟨?_,⟨λh=>(d (by simp) h:False),λn h=>d (by simp) h,λn h=>d (by simp) h,λa b h=>d (by simp) h,λj l i=>?_,λa h=>d (by simp) h,λa b h=>d (by simp) h,λa b h=>d (by simp) h⟩⟩;rcases N8.1 h with rfl|h;exact Wy.kF _ _;obtain rfl:=Nv.1 h;exact Wy.kF _ _;have:=e.inj i;cases this;rcases N8.1 h with rfl|h;exact .inr (kS (by simp));obtain rfl:=Nv.1 h;exact .inl (kS (by simp))
 |cM a=>obtain rfl:=Nv.1 h;refine ⟨Wy.mW _ _,⟨λh=>(d (by simp) h:False),λn h=>d (by simp) h,λn h=>d (by simp) h,λa b h=>d (by simp) h,λa b h=>d (by simp) h,λa h=>?_,λa b h=>d (by simp) h,λa b h=>d (by simp) h⟩⟩;have:=e.inj h;cases this;exact zM
 |dw a b=>refine ⟨?_,⟨λh=>(d (by simp) h:False),λn h=>d (by simp) h,λn h=>d (by simp) h,λa b h=>d (by simp) h,λa b h=>d (by simp) h,λa h=>d (by simp) h,λj l i=>?_,λa b h=>d (by simp) h⟩⟩;rcases N8.1 h with rfl|h;exact Wy.kF _ _;obtain rfl:=Nv.1 h;exact (Wy.kF _ _).trans (Wy.mW _ _);have:=e.inj i;cases this;rcases N8.1 h with rfl|h;exact .inl (kS (by simp));obtain rfl:=Nv.1 h;exact .inr ⟨(Wy.mW _ _).N _ (kS (by simp)),zM⟩
 |rel a b=>refine ⟨?_,⟨λh=>(d (by simp) h:False),λn h=>d (by simp) h,λn h=>d (by simp) h,λa b h=>d (by simp) h,λa b h=>d (by simp) h,λa h=>d (by simp) h,λa b h=>d (by simp) h,λj l i=>?_⟩⟩;rcases N8.1 h with rfl|h;exact Wy.kF _ _;obtain rfl:=Nv.1 h;exact (Wy.kF _ _).trans (Wy.mW _ _);have:=e.inj i;cases this;rcases N8.1 h with rfl|h;exact ⟨kS (by simp),.inl (kS (by simp))⟩;obtain rfl:=Nv.1 h;exact ⟨(Wy.mW _ _).N _ (kS (by simp)),.inr zM⟩
 |imp a b=>cases h
 |fin a=>cases h
 |ep a=>cases h
theorem zV{now:Nat->Bool}{q:Nat}:∀{l:List Nat},q∈l->now q=true\/q∈im now l
 |p::r,h=>by unfold im;rcases N8.1 h with e|h;subst e;by_cases a:now q=true;exact .inl a;rw [Of a];exact .inr (Ok ..);by_cases a:now p=true;rw [Px a];exact zV h;rw [Of a];exact .inr (Qg _ h)
theorem qE{a:Nat->Bool}{p:Nat}{r:List Nat}:∀{l:List Nat},im a l=p::r->a p=false/\p∈l/\∀q∈r,q∈l
 |[],h=>by cases h
 |q::l,h=>by
  unfold im at h;by_cases b:a q=true;rw [Px b]at h;obtain ⟨d,e,f⟩:=qE h;exact ⟨d,Qg _ e,λx c=>Qg _ (f x c)⟩;rw [Of b]at h;cases h
  exact ⟨by simpa using b,Ok ..,λx c=>Qg _ c⟩
def Wy.Inv(f:Fm)(w:Wy):Prop:=∀p,w.bz p=true->Ob f w.ak w.aD w.N w.X p
theorem Dn{w:Wy}{p:Nat}{r:List Nat}(b:im w.bz w.bS=p::r){q:Nat}(h:w.N q):(Wy.dE {w with bS:=r} p).N q:=by
 have a:w.bz q=true->(Wy.dE {w with bS:=r} p).bz q=true:=λh=>by show up w.bz p true q=true;by_cases e:q=p;subst e;exact aB _ _ _;rw [an _ _ _ _ e];exact h
 rcases h with h|h;exact .inl (a h);rcases zV (now:=w.bz) h with h|h;exact .inl (a h);rw [b]at h;rcases N8.1 h with rfl|h;exact .inl (aB _ _ _);exact .inr h
theorem DO{f:Fm}:∀(m:Nat)(w:Wy),w.Inv f->∀z∈ey f m w,(z.Inv f/\z.bS=[])/\∀q,w.N q->z.bz q=true
 |0,w,_,z,h=>by cases h
 |m+1,w,s,z,h=>by
  unfold ey at h;cases d:im w.bz w.bS with
  |nil=>
   rw [d]at h;obtain rfl:=Nv.1 h;have o:∀q,w.N q->w.bz q=true:=λq b=>by rcases b with h|h;exact h;rcases zV (now:=w.bz) h with h|h;exact h;rw [d]at h;cases h
   exact ⟨⟨λp y=>(s p y).mono (λ_ h=>h) (λ_ h=>h) (λq b=>.inl (o q b)) (λ_ h=>h),rfl⟩,o⟩
  |cons p r=>
   rw [d]at h;simp only at h;cases n:(aQ f)[p]? with
   |none=>rw [n]at h;cases h
   |some x=>
    rw [n]at h;obtain ⟨c,v,A⟩:=Sb.1 h;obtain ⟨a,j⟩:=IZ n v;have g:c.Inv f:=λq b=>by
     rw [a.bz]at b;by_cases e:q=p;subst e;exact j;have l:w.bz q=true:=by have:up w.bz p true q=true:=b;rwa [an _ _ _ _ e]at this
     exact (s q l).mono (λk i=>a.ak k i) (λk i=>a.aD k i) (λq b=>a.N q (Dn d b)) (λq b=>a.X q b)
    obtain ⟨t,u⟩:=DO m c g z A;exact ⟨t,λq b=>u q (a.N q (Dn d b))⟩
theorem Lm{f:Fm}{z:Wy}(j:z.Inv f)(l:z.bS=[]):GD f (bH (size f) z):=by
 have e:∀{q:Nat},q<size f->z.N q->q∈(bH (size f) z).bz:=λk h=>by rcases h with h|h;exact gg.2 ⟨k,h⟩;rw [l]at h;cases h
 have c:∀{p:Nat},p∈(bH (size f) z).bz->p<size f:=λh=>(gg.1 h).1;have g:∀p∈(bH (size f) z).bz,Ob f z.ak z.aD z.N z.X p:=λp h=>j p (gg.1 h).2;exact ⟨λp h=>(g p h).ff,λp h=>(g p h).prop,λp h=>(g p h).neg,
  λp h a b d=>((g p h).and a b d).imp (e (by have:=c h;omega)) (e (by have:=c h;omega)),
  λp h a b d=>((g p h).or a b d).imp (e (by have:=c h;omega)) (e (by have:=c h;omega)),
  λp h a d=>jd.2 ⟨by have:=c h;omega,(g p h).cM a d⟩,
  λp h a b d=>((g p h).dw a b d).imp (e (by have:=c h;omega)) (And.imp (e (by have:=c h;omega)) (λi=>jd.2 ⟨c h,i⟩)),
  λp h a b d=>((g p h).rel a b d).imp (e (by have:=c h;omega)) (Or.imp (e (by have:=c h;omega)) (λi=>jd.2 ⟨c h,i⟩))⟩
structure Wy.Lg (u:Nat->Nat) (f:Fm) (i:Nat) (w:Wy):Prop where
 rd:ji w.ak w.aD (u i)
 bz:∀p,w.N p->Tr u f i p
 next:∀p,w.X p->Tr u f (i+1) p
 dw:∀p,w.bz p=true->∀a b,At f p (Fm.dw a b)->dI u b i->w.N (p-1)
theorem wK{a b v:Nat}(h:ji a b v):a&&&b=0:=by
 refine Qx λk=>?_;rw [PB,PF];cases f:a.testBit k
 rfl;cases e:b.testBit k
 rfl;have d:=(h k).1 f;have c:=(h k).2 e;rw [d]at c;cases c
def fresh(n:Nat)(w:Wy):Nat:=((List.range n).filter λp=>!w.bz p).length
theorem vM{n:Nat}{w:Wy}{p:Nat}(a:p<n)(h:w.bz p=false):fresh n (w.dE p)<fresh n w:=by unfold fresh;refine jU (λq b=>?_) _ ⟨p,List.mem_range.2 a,by rw [h];rfl,?_⟩;show(!w.bz q)=true;have:(!up w.bz p true q)=true:=b;by_cases e:q=p;subst e;rw [aB]at this;cases this;rwa [an _ _ _ _ e]at this;show(!up w.bz p true p)=false;rw [aB];rfl
theorem Je{u:Nat->Nat}{a b:Fm}{i:Nat}(h:dI u (Fm.dw a b) i)(f:¬dI u b i):dI u a i/\dI u (Fm.dw a b) (i+1):=by
 obtain ⟨k,c,d⟩:=h;rcases k with _|k;exact absurd c f;refine ⟨d 0 (by omega),k,?_,λj g=>?_⟩;have e:i+1+k=i+(k+1):=by omega
 rw [e];exact c;have e:i+1+j=i+(j+1):=by omega
 rw [e];exact d (j+1) (by omega)
theorem II{u:Nat->Nat}{a b:Fm}{i:Nat}(h:dI u (Fm.rel a b) i):dI u b i/\(¬dI u a i->dI u (Fm.rel a b) (i+1)):=by
 refine ⟨h 0 (λj f=>by omega),λd k g=>?_⟩;have e:i+1+k=i+(k+1):=by omega
 rw [e];refine h (k+1) λj f=>?_;rcases j with _|j;exact d;have c:i+(j+1)=i+1+j:=by omega
 rw [c];exact g j (by omega)
theorem DP{u:Nat->Nat}{f:Fm}(F:gI f){i:Nat}:∀(m:Nat)(w:Wy),fresh (size f) w<m->w.Lg u f i->∃z∈ey f m w,uT u f i (bH (size f) z)
 |0,w,h,_=>by omega
 |m+1,w,hf,H=>by
  unfold ey;cases hs:im w.bz w.bS with
  |nil=>refine ⟨_,Nv.2 rfl,⟨H.rd,λp J=>H.next p (jd.1 J).2,λp J=>H.bz p (.inl (gg.1 J).2),λp J a b A j=>?_⟩⟩;obtain ⟨Q,J⟩:=gg.1 J;rcases H.dw p J a b A j with h|h;exact gg.2 ⟨by omega,h⟩;rcases zV (now:=w.bz) h with h|h;exact gg.2 ⟨by omega,h⟩;rw [hs]at h;cases h
  |cons p r=>
   simp only;obtain ⟨Y,X,Z⟩:=qE hs;obtain ⟨x,A,g⟩:=H.bz p (.inr X);rw [show(aQ f)[p]? =some x from A];simp only;have Q:p<size f:=At.lt A;have ab:Wy.Lg u f i (Wy.dE {w with bS:=r} p)\/True:=.inr RX;have T:∀q,(Wy.dE {w with bS:=r} p).N q->Tr u f i q:=λq d=>by rcases d with h|h;have h:up w.bz p true q=true:=h;by_cases e:q=p;subst e;exact ⟨x,A,g⟩;rw [an _ _ _ _ e]at h;exact H.bz q (.inl h);exact H.bz q (.inr (Z q h))
   have hU:∀q,q≠p->(Wy.dE {w with bS:=r} p).bz q=true->∀a b,At f q (Fm.dw a b)->dI u b i->(Wy.dE {w with bS:=r} p).N (q-1):=λq G d a b B j=>by have d:up w.bz p true q=true:=d;rw [an _ _ _ _ G]at d;exact Dn hs (H.dw q d a b B j)
   have V:fresh (size f) (Wy.dE {w with bS:=r} p)<m:=by have E:fresh (size f) (Wy.dE {w with bS:=r} p)=fresh (size f) (w.dE p):=rfl;have:=vM (n:=size f) Q Y;omega
   have o:∀c,c∈split x p (Wy.dE {w with bS:=r} p)->c.Lg u f i->fresh (size f) c=fresh (size f) (Wy.dE {w with bS:=r} p)->∃z∈(split x p (Wy.dE {w with bS:=r} p)).flatMap (ey f m),uT u f i (bH (size f) z):=λc M aa he=>by obtain ⟨z,hz,h⟩:=DP F m c (by rw [he];exact V) aa;exact ⟨z,Sb.2 ⟨c,M,hz⟩,h⟩
   generalize hw:Wy.dE {w with bS:=r} p=v at *;have D:ji v.ak v.aD (u i):=by rw [<-hw];exact H.rd
   have hX:∀q,v.X q->Tr u f (i+1) q:=λq d=>H.next q (by rw [<-hw]at d;exact d);have t:∀{y:Fm}{P:Prop},x≠y->At f p y->P:=λG O=>absurd (Own.At.inj A O) G;have s:∀(l:List Nat),(∀q∈l,Tr u f i q)->(∀a b,At f p (Fm.dw a b)->dI u b i->p-1∈l)->(v.dh l).Lg u f i:=λl hl hu=>⟨D,λq d=>by
    rcases d with h|h;exact T q (.inl h);rcases NY.1 h with h|h;exact hl q h;exact T q (.inr h),hX,λq d a b B j=>by
    by_cases e:q=p;subst e;exact kS (hu a b B j);exact (Wy.kF _ _).N _ (hU q e d a b B j)⟩
   have L:∀(c:Wy)(q:Nat),c.Lg u f i->Tr u f (i+1) q->(c.jh q).Lg u f i:=λc q M d=>⟨M.rd,M.bz,λy O=>by have O:up c.next q true y=true:=O;by_cases e:y=q;subst e;exact d;rw [an _ _ _ _ e]at O;exact M.next y O,M.dw⟩
   have C:(∀a b,¬At f p (Fm.dw a b))->v.Lg u f i:=λG=>⟨D,T,hX,λq d a b B j=>hU q (λe=>by subst e;exact G a b B) d a b B j⟩;cases x with
   |tt=>exact o v (Nv.2 rfl) (C λa b h=>t (by simp) h) rfl
   |ff=>exact g.elim
   |prop n=>
    have j:=C λa b h=>t (by simp) h;have E:ji (v.kH n).ak (v.kH n).aD (u i):=λk=>⟨λW=>by rcases eY.1 W with h|h;exact (D k).1 h;subst h;exact g,(D k).2⟩
    refine o (v.kH n) ?_ ⟨E,j.bz,j.next,j.dw⟩ rfl;show _∈(v.kH n).pure;unfold Wy.pure;rw [Px (wK E)];exact Nv.2 rfl
   |neg a=>
    cases a with
    |prop n=>
     have j:=C λa b h=>t (by simp) h;have E:ji (v.oY n).ak (v.oY n).aD (u i):=λk=>⟨(D k).1,λW=>by rcases eY.1 W with h|h;exact (D k).2 h;subst h;have:¬(u i).testBit k=true:=g;simpa using this⟩
     refine o (v.oY n) ?_ ⟨E,j.bz,j.next,j.dw⟩ rfl;show _∈(v.oY n).pure;unfold Wy.pure;rw [Px (wK E)];exact Nv.2 rfl
    |_=>exact (mU F p _ A).elim
   |and a b=>obtain ⟨_,j,I⟩:=dL (gC.and (a:=a) (b:=b)) f p A;refine o _ (Nv.2 rfl) (s _ (λq d=>?_) (λa b h=>t (by simp) h)) rfl;rcases N8.1 d with rfl|d;exact ⟨a,I,g.1⟩;obtain rfl:=Nv.1 d;exact ⟨b,j,g.2⟩
   |or a b=>obtain ⟨_,j,I⟩:=dL (gC.or (a:=a) (b:=b)) f p A;rcases g with g|g;refine o (v.dh [p-1-size b]) (Ok ..) (s _ (λq d=>?_) (λa b h=>t (by simp) h)) rfl;obtain rfl:=Nv.1 d;exact ⟨a,I,g⟩;refine o (v.dh [p-1]) (Qg _ (Nv.2 rfl)) (s _ (λq d=>?_) (λa b h=>t (by simp) h)) rfl;obtain rfl:=Nv.1 d;exact ⟨b,j,g⟩
   |cM a=>obtain ⟨_,I⟩:=fR (One.cM (a:=a)) f p A;exact o (v.jh (p-1)) (Nv.2 rfl) (L v _ (C λa b h=>t (by simp) h) ⟨a,I,g⟩) rfl
   |dw a b=>obtain ⟨_,j,I⟩:=dL (gC.dw (a:=a) (b:=b)) f p A;by_cases K:dI u b i;refine o (v.dh [p-1]) (Ok ..) (s _ (λq d=>?_) (λa' b' h _=>Nv.2 rfl)) rfl;obtain rfl:=Nv.1 d;exact ⟨b,j,K⟩;obtain ⟨E,S⟩:=Je g K;refine o ((v.dh [p-1-size b]).jh p) (Qg _ (Nv.2 rfl)) (L _ p (s _ (λq d=>?_) (λa' b' h U=>?_)) ⟨_,A,S⟩) rfl;obtain rfl:=Nv.1 d;exact ⟨a,I,E⟩;have:=Own.At.inj A h;cases this;exact absurd U K
   |rel a b=>obtain ⟨_,j,I⟩:=dL (gC.rel (a:=a) (b:=b)) f p A;obtain ⟨E,S⟩:=II g;by_cases R:dI u a i;refine o _ (Ok ..) (s _ (λq d=>?_) (λa b h=>t (by simp) h)) rfl;rcases N8.1 d with rfl|d;exact ⟨a,I,R⟩;obtain rfl:=Nv.1 d;exact ⟨b,j,E⟩;refine o ((v.dh [p-1]).jh p) (Qg _ (Nv.2 rfl)) (L _ p (s _ (λq d=>?_) (λa b h=>t (by simp) h)) ⟨_,A,S R⟩) rfl;obtain rfl:=Nv.1 d;exact ⟨b,j,E⟩
   |imp a b=>exact (mU F p _ A).elim
   |fin a=>exact (mU F p _ A).elim
   |ep a=>exact (mU F p _ A).elim
def Wy.aK(a:List Nat):Wy:=⟨0,0,λ_=>false,λ_=>false,a⟩
theorem qX{f:Fm}(d:gI f)(a:List Nat)(g:∀p∈a,p<size f)(m:Nat)(t:size f<m)(L:Jp->Prop)(l:∀c,L c↔∃z∈ey f m (Wy.aK a),bH (size f) z=c):BS f a L:=by
 refine ⟨λc r=>?_,λu i s=>?_⟩;obtain ⟨z,j,rfl⟩:=(l c).1 r;obtain ⟨⟨n,o⟩,q⟩:=DO m (Wy.aK a) (λp g=>by cases g) z j;exact ⟨Lm n o,λp b=>gg.2 ⟨g p b,q p (.inr b)⟩⟩;have e:fresh (size f) (Wy.aK a)<m:=by have:fresh (size f) (Wy.aK a)<=(List.range (size f)).length:=List.length_filter_le _ _;rw [OQ]at this;omega
 obtain ⟨z,j,h⟩:=DP d m (Wy.aK a) e (u:=u) (i:=i) ⟨λk=>⟨λh=>by simp [Wy.aK]at h,λh=>by simp [Wy.aK]at h⟩,λp b=>b.elim (λh=>by cases h) (λh=>s p h),λp h=>(by cases h),λp h=>(by cases h)⟩;exact ⟨_,(l _).2 ⟨z,j,rfl⟩,h⟩
end
section
open Go.RowKit Go.Maps
def N0:=@Option.some.injEq
def pI(v:Value):Option (DataW Value×List MemPlace):=some (.held v,[])
open Classical in
noncomputable def qK(f:Value->Option Value)(k:Value)(v:Option Value):Value->Option Value:=λa=>if a=k then v else f a
def eZ(f:Value->Option Value)(k:Value)(v:Option Value):qK f k v k=v:=by unfold qK;rw [if_pos rfl]
def cT(f:Value->Option Value)(k:Value)(v:Option Value)(a:Value)(h:a≠k):qK f k v a=f a:=by unfold qK;rw [if_neg h]
def cE(P:Program)(k:TypeId)(w:WD)(b n:Nat)(f:Value->Option Value):Prop:=
 ∃D:DataW Value,w.ownsMap P k pI b n D/\∀a c,keyOf P k a=some c->Maps.has D c=(f a).isSome/\∀v,f a=some v->∀z,D.atKey c z=.held v
section
variable {P:Program} {k:TypeId} {w w':WD} {b n:Nat} {f:Value->Option Value}
def cE.aK(P:Program)(k:TypeId)(w:WD):cE P k (w.alloc (.map #[] 0)) w.heap.size 0 (λ_=>none):=
 ⟨.map [],World.ownsMap_made _ _ _ _,λ_ _ _=>⟨rfl,λv h=>by cases h⟩⟩
def cE.lt(h:cE P k w b n f):b<w.heap.size:=by obtain ⟨D,a,_⟩:=h;exact a.lt
def cE.aA{S:Nat->Prop}(h:cE P k w b n f)(j:aj S w w')(g:¬S b):cE P k w' b n f:=by have l:=h.lt;obtain ⟨D,⟨c,a,i,F,m,e⟩,d⟩:=h;exact ⟨D,⟨c,a,(j.block b l g).trans i,F,m,e⟩,d⟩
def cE.af(h:cE P k w b n f)(a:BW w w'):cE P k w' b n f:=h.aA (aj.aF a) (λs=>Nat.lt_irrefl _ (NL h.lt s))
def cE.mono(h:cE P k w b n f){m:Nat}(c:n<=m):cE P k w b m f:=by obtain ⟨D,d,a⟩:=h;exact ⟨D,d.mono c,a⟩
def cE.ext(h:cE P k w b n f){g:Value->Option Value}(a:∀x,g x=f x):cE P k w b n g:=by have e:g=f:=funext a;rw [e];exact h
def zS{v:Value}{z:DataW Value}{a:List MemPlace}(h:pI v=some (z,a)):z=.held v:=by unfold pI at h;simp only [N0,Prod.mk.injEq]at h;exact h.1.symm
def cE.look{t e:TypeId}(h:cE P k w b n f)(K:Keyed P k)(q:P.underlying t=some (.map k e)){z:Value}(r:(zeroValue e).run P w=.ok z w){a:Value}{l:Lit}(c:keyOf P k a=some l):
 (Instr.lookup t (.map (some b)) a false).run P w=.ok ((f a).getD z) w:=by
 obtain ⟨D,p,m⟩:=h
 obtain ⟨v,s,j,d⟩:=p.lookup K q r (zd:=.held z) (zp:=[]) rfl c
 have d:=zS d
 obtain ⟨g,o⟩:=m a l c
 cases i:f a with
 |none=>
  rw [i]at g
  rw [atKey_of_not_has g]at d
  cases d
  exact j
 |some x=>
  rw [o x i]at d
  cases d
  exact j
def cE.look_ok{t e:TypeId}(h:cE P k w b n f)(K:Keyed P k)(q:P.underlying t=some (.map k e)){z:Value}(r:(zeroValue e).run P w=.ok z w){a:Value}{l:Lit}(c:keyOf P k a=some l):
 (Instr.lookup t (.map (some b)) a true).run P w=.ok (.tuple #[(f a).getD z,.bool (f a).isSome]) w:=by
 obtain ⟨D,p,m⟩:=h
 obtain ⟨v,s,g,d⟩:=p.look_ok K q r (zd:=.held z) (zp:=[]) rfl c
 have d:=zS d
 obtain ⟨i,o⟩:=m a l c
 rw [i]at g
 cases j:f a with
 |none=>
  rw [j]at i g
  rw [atKey_of_not_has i]at d
  cases d
  exact g
 |some x=>
  rw [o x j]at d
  rw [j]at g
  cases d
  exact g
def kR{w w':WD}{b:Nat}(a:w.grownBy w' (some b)):aj (λk=>k=b) w w':=⟨a.os,a.tape,a.output,a.size,λk c d=>a.block k c (λe=>d (by cases e;rfl))⟩
def cE.put{t e:TypeId}(h:cE P k w b n f)(K:Keyed P k)(B:P.underlying t=some (.map k e))(y:n<maxLen){i:Value}{r:Lit}(c:keyOf P k i=some r)(v:Value):
 ∃w',(Instr.mapUpdate t (.map (some b)) i v).run P w=.ok () w'/\cE P k w' b (n+1) (qK f i (some v))/\aj (λk=>k=b) w w':=by
 obtain ⟨D,m,q⟩:=h
 obtain ⟨w',A,o,x⟩:=m.update K B y c (d:=.held v) (ps:=[]) rfl
 refine ⟨w',A,⟨_,o,λg j a=>?_⟩,kR x⟩
 by_cases e:g=i
 subst e
 rw [c]at a
 cases a
 rw [eZ]
 refine ⟨has_put_same m.isMap (K.key c) _,λu p z=>?_⟩
 cases p
 exact atKey_put_same m.isMap (K.key c) _ _
 have l:j≠r:=λs=>e (K.inj a (by rw [s];exact c))
 rw [cT _ _ _ _ e]
 refine ⟨(has_put_other l _).trans (q g j a).1,λu p z=>?_⟩
 exact (atKey_put_other l _ _).trans ((q g j a).2 u p z)
def cE.del{t e:TypeId}(h:cE P k w b n f)(K:Keyed P k)(y:P.underlying t=some (.map k e)){g:Value}{p:Lit}(c:keyOf P k g=some p)(q:TypeId):
 ∃w',(Builtin.delete_ #[t,k] q #[.map (some b),g]).run P w=.ok (.tuple #[]) w'/\cE P k w' b n (qK f g none)/\aj (λk=>k=b) w w':=by
 obtain ⟨D,v,o⟩:=h
 obtain ⟨w',x,l,s⟩:=v.drop K y c q
 refine ⟨w',x,⟨_,l,λd i a=>?_⟩,kR s.grown⟩
 by_cases e:d=g
 subst e
 rw [c]at a
 cases a
 rw [eZ]
 exact ⟨has_del_same,λu m=>by cases m⟩
 have j:i≠p:=λr=>e (K.inj a (by rw [r];exact c))
 rw [cT _ _ _ _ e]
 exact ⟨(has_del_other j).trans (o d i a).1,λu m z=>(atKey_del_other j _).trans ((o d i a).2 u m z)⟩
end
end
end Go.Own
namespace Go.Proofs.YtimniinkpipnmaaGreatDoor
open Go.RowKit Go.Own
def P0:=@Go.Proofs.Tryz.underlying67
def P1:=@Go.World.size_setCell
def Tryz.nV:(Tryz.prog.info? 4).map (λi=>(i.zero,i.size,i.bytes))=some (some (.bool false),1,1):=by kernel_rfl
def dW(w:WD)(a:OA)(n:Nat)(f:Nat->Bool):Prop:=∃b c,a=some (AD b c)/\∀i,i<n->w.cell? (AD b (c+i))=some (.bool (f i))
def dW.af{w j:WD}{a:OA}{n:Nat}{f:Nat->Bool}(h:dW w a n f)(k:BW w j):dW j a n f:=by obtain ⟨b,c,e,d⟩:=h;exact ⟨b,c,e,λi g=>(k.cell (Nr w _ (d i g))).trans (d i g)⟩
structure oW (w a:WD) (g n:Nat) (f:Nat->Bool):Prop where
 dJ:w.heap.size<=g
 lt:g<a.heap.size
 cell:∀i,i<n->a.cell? (AD g i)=some (.bool (f i))/\a.frozen? (AD g i)=false
 aM:BW w a
def oW.row{w a:WD}{g n:Nat}{f:Nat->Bool}(h:oW w a g n f):dW a (some (AD g 0)) n f:=⟨g,0,rfl,λi b=>by rw [Od];exact (h.cell i b).1⟩
def oW.set{w b:WD}{g n:Nat}{f:Nat->Bool}(h:oW w b g n f){p:Nat}(c:p<n)(v:Bool):oW w (b.setCell (AD g p) (.bool v)) g n (up f p v):=by refine ⟨h.dJ,by rw [P1];exact h.lt,λi a=>⟨?_,by rw [OH];exact (h.cell i a).2⟩,h.aM.setCell h.dJ _⟩;by_cases e:i=p;subst e;rw [aB];exact Oj (h:=(h.cell i a).1) ..;rw [an _ _ _ _ e];rw [Oc _ _ _ _ (dR e)];exact (h.cell i a).1
def ou(a:OA)(n c:Nat)(f:Nat->Bool)(w:WD)(h:dW w a n f)(M:0<n)(S:n<=1000000):
 CL 155 #[.slice a n c] w λe q=>∃g l,e=RT (SV g n l)/\n<=l/\l<=maxLen/\oW w q g n f:=by
 obtain ⟨Q,D,O,F,B⟩:=Ol Tryz.nV
 obtain ⟨b,t,rfl,C⟩:=h
 have K:=λW=>Pq (P:=Tryz.prog) W 67 4 (some (AD b t)) n c 0 0 P0
 have m:∀j u,(bA n f)[j]? =some u->(w.alloc (.cells #[] 4)).cell? (((AD b t):Addr).add j)=some u:=by
  intro j u E;have s:j<n:=by have:=(NK.1 E).1;rwa [dU]at this
  rw [fw n f j s]at E;rw [O4,<-E];exact (((Nx _ w).alloc (Nz _) _).cell (Nr w _ (C j s))).trans (C j s)
 have r:=Nq m
 have d:∀u∈bA n f,u.oneCell'=true:=by intro u I;unfold bA at I;obtain ⟨i,-,rfl⟩:=OC.1 I;rfl
 have d:=Nq d
 have y:Hid ((w.alloc (.cells #[] 4)).ownsRow 0 4 1 (SV w.heap.size 0 0) 0 []):=QR (e:=4) (size:=1) w #[] 0 (NS _) (by simp [maxLen]) rfl
 have x:Hid (∀v q,q.ownsRow 0 4 1 v (0+n) ([]++bA n f)->(w.alloc (.cells #[] 4)).grownBy q (some w.heap.size)->(v.ownBlock=some w.heap.size\/v.ownBlock=some (w.alloc (.cells #[] 4)).heap.size)->
  ∃g l,v=SV g n l/\n<=l/\l<=maxLen/\oW w q g n f):=λv q o z A=>by
  rw [Od,PU]at o
  obtain ⟨R,l,rfl,N⟩:=Sl.shape o
  obtain ⟨g,rfl,-,-⟩:=N 0 M
  have L:w.heap.size<=g:=by
   rcases A with e|e;cases e;exact Nz _
   rw [NG]at e;have e:some g=some (w.heap.size+1):=e;have:=OJ e;omega
  have p:=dT o
  have H:aj (λk=>k=w.heap.size) (w.alloc (.cells #[] 4)) q:=kR z
  refine ⟨g,l,rfl,p.1,p.2.1,⟨L,Sl.lt o g rfl,λi D=>⟨?_,PH (size:=1) o i⟩,((Nx _ w).alloc (Nz _) _).trans (H.af (by rw [NG];omega) (λk H e=>by omega))⟩⟩
  rw [OX (size:=1) o i (by omega)]
  exact fw n f i D
 clear C m
 go_enter Tryz.func155,Tryz.ntmps155
 go_wp2_with (at_builtin;refine RG _ rfl (.tmp 5) (.tmp 6) 67 rfl 0 4 Q (.bool false) 1 1 P0 D O F B rfl (by decide) _ _ _ rfl y.o (AD b t) n c _ rfl (by rw [dU];omega) r.o d.o (by unfold maxLen;omega) (by omega) (NS _) ?_;intro v q o z _ A;obtain ⟨g,l,rfl,G⟩:=x.o _ _ o z A;have J:=Nq G;clear o z A G)
 go_ret
 exact ⟨g,l,rfl,J.o⟩
def OS:=@Go.bodyPost_ret
def Tb:=@Nat.succ_ne_self
abbrev fW(a b:Nat)(c:OA)(n d:Nat)(h:OA)(i:Nat)(e:OA)(g f:Nat):Value:=.agg #[UV a,UV b,.slice c n d,.slice h n i,.slice e g f]
def Cd(w:WD)(a b c d f u0 u1 u2 u3 u4:Value)(t n:TypeId)(j:WD)(h:j=(w.alloc (.cells #[a,b,c,d,f] t)).alloc (.cells #[u0,u1,u2,u3,u4] n)):
 BW w j/\j.heap.size=w.heap.size+1+1/\(∀i v,(#[a,b,c,d,f]:Array Value)[i]? =some v->CA j w.heap.size i v/\FZ j w.heap.size i)/\
 (∀i v,(#[u0,u1,u2,u3,u4]:Array Value)[i]? =some v->CA j (w.heap.size+1) i v/\FZ j (w.heap.size+1) i):=by
 subst h
 have k:BW w (w.alloc (.cells #[a,b,c,d,f] t)):=(Nx _ w).alloc (Nz _) _
 have p:(w.alloc (.cells #[a,b,c,d,f] t)).heap.size=w.heap.size+1:=NG ..
 have g:Below (w.alloc (.cells #[a,b,c,d,f] t)).heap.size (w.alloc (.cells #[a,b,c,d,f] t)) ((w.alloc (.cells #[a,b,c,d,f] t)).alloc (.cells #[u0,u1,u2,u3,u4] n)):=(Nx _ _).alloc (Nz _) _
 refine ⟨aa k g,by rw [NG,p],λi v m=>?_,λi v m=>?_⟩
 have o:(w.alloc (.cells #[a,b,c,d,f] t)).cell? (AD w.heap.size i)=some v:=(NV (w:=w) _ t w.heap.size i rfl).trans m
 have q:(w.alloc (.cells #[a,b,c,d,f] t)).frozen? (AD w.heap.size i)=false:=Qu _ _ _ _ rfl
 have l:=Nr _ _ o
 exact ⟨(g.cell l).trans o,(N7 ((aj.aF g).block _ l (λe=>OI _ (NL l e)))).trans q⟩
 rw [<-p]
 exact ⟨(NV (w:=w.alloc (.cells #[a,b,c,d,f] t)) _ n _ i rfl).trans m,Qu _ _ _ _ rfl⟩
def cW{w b:WD}(c:BW w b){q i:Nat}{v:Value}(h:CA w q i v/\FZ w q i):CA b q i v/\FZ b q i:=by have a:=Nr _ _ h.1;exact ⟨(c.cell a).trans h.1,(N7 ((aj.aF c).block _ a (λe=>OI _ (NL a e)))).trans h.2⟩
def H7(a j:Nat)(F:OA)(n L:Nat)(J:OA)(K:Nat)(G:OA)(I H:Nat)(f:Nat->Bool)(p:Nat)(w:WD)(h:dW w F n f)(hp:p<n)(y:n<=1000000):
 CL 141 #[fW a j F n L J K G I H,IV p] w λe w'=>∃g c,e=RT (fW a j (some (AD g 0)) n c J K G I H)/\dW w' (some (AD g 0)) n (up f p true)/\Below w.heap.size w w'/\w.heap.size<=g:=by
 have ak:(p:Int)<(n:Int):=by omega
 have HC:Hid (∀W,Below w.heap.size w W->CL 155 #[.slice F n L] W λe w'=>∃g c',e=RT (SV g n c')/\n<=c'/\c'<=maxLen/\oW W w' g n f):=λW hb=>ou F n L f W (h.af hb) (by omega) y
 clear h
 go_enter Tryz.func141,Tryz.ntmps141
 go_upto_region 1 with(fail)
 obtain ⟨w1,E⟩:=EX ((w.alloc (.cells #[UV a,UV j,.slice F n L,.slice J n K,.slice G I H] 193)).alloc (.cells #[UV 0,UV 0,SN,SN,SN] 193))
 rw [E]
 obtain ⟨S,ac,hq,hr⟩:=Cd _ _ _ _ _ _ _ _ _ _ _ _ _ w1 E.symm
 have M:=Nq S
 have u:=Nq ac
 have HQ:=Nq hq
 have HR:=Nq hr
 clear E S ac hq hr
 have O:=Nq (HC.o w1 M.o)
 (try unfold BW at *);generalize Z:w.heap.size=q at *
 have B:=Nq Z
 clear Z HC
 obtain ⟨q2,-⟩:=HQ.o 2 _ rfl
 have t:Hid (∀l g,oW w1 l g n f->q+1<l.heap.size/\g≠q/\g≠q+1/\(l.cell? (AD q 2)=some (.slice F n L)/\l.frozen? (AD q 2)=false)):=λl g y=>
  ⟨by have:=y.aM.size;have:=u.o;omega,λe=>by have:=y.dJ;have:=u.o;omega,λe=>by have:=y.dJ;have:=u.o;omega,cW y.aM (HQ.o 2 _ rfl)⟩
 go_upto_region 2 with(go_at_call 155;refine O.o.mono ?_;rintro e l ⟨g,c,rfl,-,-,y⟩;have x:=Nq y;obtain ⟨-,C,V,q',f'⟩:=t.o l g y;clear y)
 have D:=x.o.cell p hp
 have A:Hid (∀i v,(#[UV a,UV j,SV g n c,.slice J n K,.slice G I H]:Array Value)[i]? =some v->(l.setCell (AD q 2) (SV g n c)).cell? (AD q i)=some v):=λi v d=>by
  by_cases e:i=2;subst e;cases d
  exact Oj (h:=q') ..;rw [Oc _ _ _ _ (dR e)];have:(#[UV a,UV j,.slice F n L,.slice J n K,.slice G I H]:Array Value)[i]? =some v:=by
   match i,d,e with
   |0,d,_=>exact d
   |1,d,_=>exact d
   |2,d,_=>omega
   |3,d,_=>exact d
   |4,d,_=>exact d
   |i+5,d,_=>exact d
  exact (cW x.o.aM (HQ.o i v this)).1
 have U:(l.setCell (AD q 2) (SV g n c)).cell? (AD g p)=some (.bool (f p)):=by rw [Oc _ _ _ _ (λe=>C (P5 Addr.block e).symm)];exact D.1
 have ae:(l.setCell (AD q 2) (SV g n c)).frozen? (AD g p)=false:=by rw [OH];exact D.2
 obtain ⟨ag,-⟩:_/\True:=⟨A.o 2 _ rfl,PO⟩
 go_upto_region 3 with(fail)
 have R:Hid (∀m,m=(l.setCell (AD q 2) (SV g n c)).setCell (AD g p) (.bool true)->
  (∀i v,(#[UV a,UV j,SV g n c,.slice J n K,.slice G I H]:Array Value)[i]? =some v->m.cell? (AD q i)=some v)/\(∀i v,(#[UV 0,UV 0,SN,SN,SN]:Array Value)[i]? =some v->m.cell? (AD (q+1) i)=some v/\m.frozen? (AD (q+1) i)=false)/\
  dW m (some (AD g 0)) n (up f p true)/\Below w.heap.size w m/\g<m.heap.size):=by
  rintro m rfl
  refine ⟨λi v d=>?_,λi v d=>⟨?_,?_⟩,⟨g,0,rfl,λi hi=>?_⟩,?_,?_⟩
  rw [Oc _ _ _ _ (λe=>C (P5 Addr.block e))];exact A.o i v d
  rw [Oc _ _ _ _ (λe=>V (P5 Addr.block e)),Oc _ _ _ _ (λe=>Tb q (P5 Addr.block e).symm)]
  exact (cW x.o.aM (HR.o i v d)).1
  rw [OH,OH];exact (cW x.o.aM (HR.o i v d)).2
  rw [Od]
  by_cases e:i=p
  subst e
  rw [aB]
  exact Oj (h:=U) ..
  rw [an _ _ _ _ e,Oc _ _ _ _ (dR e),Oc _ _ _ _ (λe=>C (P5 Addr.block e).symm)]
  exact (x.o.cell i hi).1
  have h1:=M.o
  have h2:=x.o.aM
  have h3:=B.o
  have h4:=u.o
  have h5:=x.o.dJ
  rw [h3]
  exact ((h1.trans (h2.mono (by have:=h1.size;omega))).setCell (p:=(AD q 2)) (Nz _) _).setCell (p:=(AD g p)) (by show q<=g;omega) _
  rw [P1,P1];exact x.o.lt
 clear U ae D q' f' A t ag q2 O
 generalize af:(l.setCell (AD q 2) (SV g n c)).setCell (AD g p) (.bool true)=m at *
 obtain ⟨Y,aa,z,T,ah⟩:=R.o m rfl
 have r:=Nq Y
 have s:=Nq aa
 have Q:=Nq z
 have N:=Nq T
 have X:w.heap.size<=g:=by have h1:=x.o.dJ;have h2:=u.o;have h3:=B.o;omega
 have ad:=Nq X
 have P:Hid (∀W,aj (λb=>b=q+1) m W->dW W (some (AD g 0)) n (up f p true)/\Below w.heap.size w W/\w.heap.size<=g):=λW hk=>by refine ⟨?_,N.o.trans (hk.af N.o.size (λk ai e=>by have:=B.o;omega)),ad.o⟩;obtain ⟨b,o,e,hc⟩:=Q.o;exact ⟨b,o,e,λi hi=>hk.aq (hc i hi) (by cases e;exact V)⟩
 clear Y aa z T af R x HQ HR X
 have d0:=r.o 0 _ rfl
 have d1:=r.o 1 _ rfl
 have d2:=r.o 2 _ rfl
 have d3:=r.o 3 _ rfl
 have d4:=r.o 4 _ rfl
 obtain ⟨e0,g0⟩:=s.o 0 _ rfl
 obtain ⟨e1,g1⟩:=s.o 1 _ rfl
 obtain ⟨e2,g2⟩:=s.o 2 _ rfl
 obtain ⟨e3,g3⟩:=s.o 3 _ rfl
 obtain ⟨e4,g4⟩:=s.o 4 _ rfl
 have ab:Tryz.f141.results=#[.cell 4 193]:=by kernel_rfl
 go_wp2
 refine OS (v:=fW a j (some (AD g 0)) n c J K G I H) ?_ rfl ⟨g,c,rfl,P.o _ (((((((aj.refl (λb=>b=q+1) m).setCell (p:=(AD (q+1) 0)) (λ_=>rfl) _).setCell (p:=(AD (q+1) 1)) (λ_=>rfl) _).setCell (p:=(AD (q+1) 2)) (λ_=>rfl) _).setCell (p:=(AD (q+1) 3)) (λ_=>rfl) _).setCell (p:=(AD (q+1) 4)) (λ_=>rfl) _))⟩
 simp only [results,ab]
 go_simp
def FM(a j:Nat)(F:OA)(n G:Nat)(K:OA)(L:Nat)(H:OA)(J I:Nat)(f:Nat->Bool)(p:Nat)(w:WD)(h:dW w K n f)(hp:p<n)(y:n<=1000000):
 CL 168 #[fW a j F n G K L H J I,IV p] w λe w'=>∃g c,e=RT (fW a j F n G (some (AD g 0)) c H J I)/\dW w' (some (AD g 0)) n (up f p true)/\Below w.heap.size w w'/\w.heap.size<=g:=by
 have ak:(p:Int)<(n:Int):=by omega
 have HC:Hid (∀W,Below w.heap.size w W->CL 155 #[.slice K n L] W λe w'=>∃g c',e=RT (SV g n c')/\n<=c'/\c'<=maxLen/\oW W w' g n f):=λW hb=>ou K n L f W (h.af hb) (by omega) y
 clear h
 go_enter Tryz.func168,Tryz.ntmps168
 go_upto_region 1 with(fail)
 obtain ⟨w1,E⟩:=EX ((w.alloc (.cells #[UV a,UV j,.slice F n G,.slice K n L,.slice H J I] 193)).alloc (.cells #[UV 0,UV 0,SN,SN,SN] 193))
 rw [E]
 obtain ⟨S,ac,hq,hr⟩:=Cd _ _ _ _ _ _ _ _ _ _ _ _ _ w1 E.symm
 have M:=Nq S
 have u:=Nq ac
 have HQ:=Nq hq
 have HR:=Nq hr
 clear E S ac hq hr
 have O:=Nq (HC.o w1 M.o)
 (try unfold BW at *);generalize Z:w.heap.size=q at *
 have B:=Nq Z
 clear Z HC
 obtain ⟨q3,-⟩:=HQ.o 3 _ rfl
 have t:Hid (∀l g,oW w1 l g n f->q+1<l.heap.size/\g≠q/\g≠q+1/\(l.cell? (AD q 3)=some (.slice K n L)/\l.frozen? (AD q 3)=false)):=λl g y=>
  ⟨by have:=y.aM.size;have:=u.o;omega,λe=>by have:=y.dJ;have:=u.o;omega,λe=>by have:=y.dJ;have:=u.o;omega,cW y.aM (HQ.o 3 _ rfl)⟩
 go_upto_region 2 with(go_at_call 155;refine O.o.mono ?_;rintro e l ⟨g,c,rfl,-,-,y⟩;have x:=Nq y;obtain ⟨-,C,V,q',f'⟩:=t.o l g y;clear y)
 have D:=x.o.cell p hp
 have A:Hid (∀i v,(#[UV a,UV j,.slice F n G,SV g n c,.slice H J I]:Array Value)[i]? =some v->(l.setCell (AD q 3) (SV g n c)).cell? (AD q i)=some v):=λi v d=>by
  by_cases e:i=3;subst e;cases d
  exact Oj (h:=q') ..;rw [Oc _ _ _ _ (dR e)];have:(#[UV a,UV j,.slice F n G,.slice K n L,.slice H J I]:Array Value)[i]? =some v:=by
   match i,d,e with
   |0,d,_=>exact d
   |1,d,_=>exact d
   |2,d,_=>exact d
   |3,d,_=>omega
   |4,d,_=>exact d
   |i+5,d,_=>exact d
  exact (cW x.o.aM (HQ.o i v this)).1
 have U:(l.setCell (AD q 3) (SV g n c)).cell? (AD g p)=some (.bool (f p)):=by rw [Oc _ _ _ _ (λe=>C (P5 Addr.block e).symm)];exact D.1
 have ae:(l.setCell (AD q 3) (SV g n c)).frozen? (AD g p)=false:=by rw [OH];exact D.2
 obtain ⟨ag,-⟩:_/\True:=⟨A.o 3 _ rfl,PO⟩
 go_upto_region 3 with(fail)
 have R:Hid (∀m,m=(l.setCell (AD q 3) (SV g n c)).setCell (AD g p) (.bool true)->
  (∀i v,(#[UV a,UV j,.slice F n G,SV g n c,.slice H J I]:Array Value)[i]? =some v->m.cell? (AD q i)=some v)/\(∀i v,(#[UV 0,UV 0,SN,SN,SN]:Array Value)[i]? =some v->m.cell? (AD (q+1) i)=some v/\m.frozen? (AD (q+1) i)=false)/\
  dW m (some (AD g 0)) n (up f p true)/\Below w.heap.size w m/\g<m.heap.size):=by
  rintro m rfl
  refine ⟨λi v d=>?_,λi v d=>⟨?_,?_⟩,⟨g,0,rfl,λi hi=>?_⟩,?_,?_⟩
  rw [Oc _ _ _ _ (λe=>C (P5 Addr.block e))];exact A.o i v d
  rw [Oc _ _ _ _ (λe=>V (P5 Addr.block e)),Oc _ _ _ _ (λe=>Tb q (P5 Addr.block e).symm)]
  exact (cW x.o.aM (HR.o i v d)).1
  rw [OH,OH];exact (cW x.o.aM (HR.o i v d)).2
  rw [Od]
  by_cases e:i=p
  subst e
  rw [aB]
  exact Oj (h:=U) ..
  rw [an _ _ _ _ e,Oc _ _ _ _ (dR e),Oc _ _ _ _ (λe=>C (P5 Addr.block e).symm)]
  exact (x.o.cell i hi).1
  have h1:=M.o
  have h2:=x.o.aM
  have h3:=B.o
  have h4:=u.o
  have h5:=x.o.dJ
  rw [h3]
  exact ((h1.trans (h2.mono (by have:=h1.size;omega))).setCell (p:=(AD q 3)) (Nz _) _).setCell (p:=(AD g p)) (by show q<=g;omega) _
  rw [P1,P1];exact x.o.lt
 clear U ae D q' f' A t ag q3 O
 generalize af:(l.setCell (AD q 3) (SV g n c)).setCell (AD g p) (.bool true)=m at *
 obtain ⟨Y,aa,z,T,ah⟩:=R.o m rfl
 have r:=Nq Y
 have s:=Nq aa
 have Q:=Nq z
 have N:=Nq T
 have X:w.heap.size<=g:=by have h1:=x.o.dJ;have h2:=u.o;have h3:=B.o;omega
 have ad:=Nq X
 have P:Hid (∀W,aj (λb=>b=q+1) m W->dW W (some (AD g 0)) n (up f p true)/\Below w.heap.size w W/\w.heap.size<=g):=λW hk=>by refine ⟨?_,N.o.trans (hk.af N.o.size (λk ai e=>by have:=B.o;omega)),ad.o⟩;obtain ⟨b,o,e,hc⟩:=Q.o;exact ⟨b,o,e,λi hi=>hk.aq (hc i hi) (by cases e;exact V)⟩
 clear Y aa z T af R x HQ HR X
 have d0:=r.o 0 _ rfl
 have d1:=r.o 1 _ rfl
 have d2:=r.o 2 _ rfl
 have d3:=r.o 3 _ rfl
 have d4:=r.o 4 _ rfl
 obtain ⟨e0,g0⟩:=s.o 0 _ rfl
 obtain ⟨e1,g1⟩:=s.o 1 _ rfl
 obtain ⟨e2,g2⟩:=s.o 2 _ rfl
 obtain ⟨e3,g3⟩:=s.o 3 _ rfl
 obtain ⟨e4,g4⟩:=s.o 4 _ rfl
 have ab:Tryz.f168.results=#[.cell 4 193]:=by kernel_rfl
 go_wp2
 refine OS (v:=fW a j F n G (some (AD g 0)) c H J I) ?_ rfl ⟨g,c,rfl,P.o _ (((((((aj.refl (λb=>b=q+1) m).setCell (p:=(AD (q+1) 0)) (λ_=>rfl) _).setCell (p:=(AD (q+1) 1)) (λ_=>rfl) _).setCell (p:=(AD (q+1) 2)) (λ_=>rfl) _).setCell (p:=(AD (q+1) 3)) (λ_=>rfl) _).setCell (p:=(AD (q+1) 4)) (λ_=>rfl) _))⟩
 simp only [results,ab]
 go_simp
def qH{P:Program}{r:Array Oper}{o:Oper}{a:Act}{w:WD}{K:Act->WD->Prop}{Q:Exit->Act->WD->Prop}{E:Prop}(D:o.guard=none)(s x:Operand)(t:TypeId)
 (R:o.op=.call {callee:=.builtin .append,args:=#[s,x],argTypes:=#[t,t]})
 (e:TypeId) (i:TypeInfo) (z:Value) (b:Nat) (U:P.underlying t=some (.slice e)) (N:P.info? e=some i) (W:i.zero=some z)
 (l:i.size=1) (C:i.bytes=b) (G:z.cells.size=1) (q:1<=b)
 (v:Value) (n:Nat) (H:List Value) (T:a.eval s=v) (p:Sl w e v n H)
 (B:Addr) (m c:Nat) (d:List Value) (V:a.eval x=.slice (some B) m c) (O:d.length=m) (g:∀j u,d[j]? =some u->w.cell? (B.add j)=some u) (I:∀u∈d,u.oneCell'=true)
 (f:(n+m)*b<=140737488355328)
 (h:∀y A,Sl A e y (n+m) (H++d)->aj (λk=>v.ownBlock=some k) w A->dC w v y->K (a.put o.dst y) A):
 if Region.wanted o (yielded r a.tmps)=true then Oper.wp P o a w K Q else E:=by
 have F:Region.wanted o (yielded r a.tmps)=true:=by simp [Region.wanted,D]
 rw [Oa F]
 obtain ⟨y,A,S,J,L,M⟩:=fQ (P:=P) w t o.type e i z b U N W l C G q v n H p B m c d O g I f
 unfold Oper.wp execOp
 simp only [R,resolve,invoke,builtin,P8,Qt,Po,PE,NQ,NZ,T,V,S]
 exact h y A J L M
def Cy{l:List Int}{k:IntKind}:∀u∈l.map (Value.int k),u.oneCell'=true:=λu a=>by obtain ⟨z,-,rfl⟩:=OC.1 a;rfl
def Gs(l z:Nat)(na:OA)(n nc:Nat)(xa:OA)(xc:Nat)(M P d tc:Nat)(Q:List Int)(pa:OA)(a pc:Nat)(D:List Int)(w:WD)
 (ht:aG .i64 w (some (AD M P)) d Q) (a0:M<w.heap.size) (hp:aG .i64 w pa a D) (h0:0<a) (hl:a+d<=1000000):
 CL 167 #[fW l z na n nc xa xc (some (AD M P)) d tc,.slice pa a pc] w λe w'=>∃g c,e=RT (fW l z na n nc xa xc (some (AD g 0)) (a+d) c)/\aG .i64 w' (some (AD g 0)) (a+d) (D++Q)/\a+d<=c/\c<=maxLen/\Below w.heap.size w w'/\w.heap.size<=g:=by
 obtain ⟨i3,hi,hz,aQ,aK⟩:=Ol Tryz.ed
 have HC:Hid (∀W,Below w.heap.size w W->CL 91 #[.slice pa a pc] W λe w'=>∃a' A,e=RT (.slice a' a A)/\aE .i64 3 W w' (.slice a' a A) D):=λW X=>
  eJ pa a pc D W (hp.af X) (λe=>hp.2.elim (λh=>absurd h (by omega)) (λ⟨b,o,h,_⟩=>by rw [e]at h;cases h)) (by omega)
 have HT:Hid (∀W,Below w.heap.size w W->aG .i64 W (some (AD M P)) d Q):=λW X=>ht.af X
 have aF:Hid (Q.length=d):=ht.1
 have ak:Hid (D.length=a):=hp.1
 clear ht hp
 go_enter Tryz.func167,Tryz.ntmps167
 go_upto_region 1 with(fail)
 obtain ⟨r,ad⟩:=EX ((w.alloc (.cells #[UV l,UV z,.slice na n nc,.slice xa n xc,.slice (some (AD M P)) d tc] 193)).alloc (.cells #[UV 0,UV 0,SN,SN,SN] 193))
 rw [ad]
 obtain ⟨ao,Z,hq,hr⟩:=Cd _ _ _ _ _ _ _ _ _ _ _ _ _ r ad.symm
 have aa:=Nq ao
 have al:=Nq Z
 have HQ:=Nq hq
 have HR:=Nq hr
 have af:=Nq (HC.o r.drew aa.o.drew)
 clear ad ao Z hq hr HC
 (try unfold BW at *);generalize aA:w.heap.size=q at *
 have R:=Nq aA
 clear aA
 obtain ⟨q4,f4⟩:=HQ.o 4 _ rfl
 have ab:Hid (∀s a' A,aE .i64 3 r.drew s (.slice a' a A) D->∃g,a'=some (AD g 0)/\g≠q/\g≠q+1/\s.cell? (AD q 4)=some (.slice (some (AD M P)) d tc)/\s.frozen? (AD q 4)=false/\(∀j u,(Q.map (Value.int .i64))[j]? =some u->s.cell? (((AD M P):Addr).add j)=some u)/\Below r.heap.size r s):=λs a' A O=>by
  have X:Below r.heap.size r s:=(Nx _ r).drew.trans (aZ O);have hs:=al.o;have U:=R.o;obtain ⟨g,aS,e,-⟩:=H9 O ak.o h0;cases e
  have hg:=O.2.2 g rfl;have hg:r.heap.size<=g:=hg;have aJ:Below w.heap.size w s:=by rw [U];exact aa.o.trans (X.mono (by omega))
  exact ⟨g,rfl,by omega,by omega,(cW X (HQ.o 4 _ rfl)).1,(cW X (HQ.o 4 _ rfl)).2,Bo (HT.o s (by rw [<-U];exact aJ)),X⟩
 have ag:Hid (∀s g A v',aE .i64 3 r.drew s (SV g a A) D->∀{y:WD},Sl y 3 v' (a+d) (D.map (Value.int .i64)++Q.map (Value.int .i64))->aj (λk=>(SV g a A).ownBlock=some k) s y->dC s (SV g a A) v'->
  ∃m B,v'=SV m (a+d) B/\m≠q/\m≠q+1/\y.cell? (AD q 4)=some (.slice (some (AD M P)) d tc)/\y.frozen? (AD q 4)=false/\
   (∀i v,(#[UV l,UV z,.slice na n nc,.slice xa n xc,.slice (some (AD M P)) d tc]:Array Value)[i]? =some v->y.cell? (AD q i)=some v)/\(∀i v,(#[UV 0,UV 0,SN,SN,SN]:Array Value)[i]? =some v->y.cell? (AD (q+1) i)=some v/\y.frozen? (AD (q+1) i)=false)/\
   aG .i64 y (some (AD m 0)) (a+d) (D++Q)/\a+d<=B/\B<=maxLen/\Below w.heap.size w y/\w.heap.size<=m):=λs g A v' O y T hk aP=>by
  obtain ⟨g',e,aM,aN,c4,an,-,C⟩:=ab.o s _ A O
  cases e
  have hs:=al.o
  have U:=R.o
  have hg:=O.2.2 g rfl
  have hg:r.heap.size<=g:=hg
  obtain ⟨a3,B,rfl,aL⟩:=Sl.shape T
  obtain ⟨m,rfl,-,-⟩:=aL 0 (by omega)
  have aY:r.heap.size<=m:=by
   rcases aP with h|⟨k,h,hk⟩;cases h;exact hg
   cases h;exact N5 C.size hk
  have I:Below r.heap.size r y:=C.trans (hk.af C.size (λk aO e=>by have e:some g=some k:=e;have:=OJ e;omega))
  rw [<-Oy]at T
  have x:=(y8.of T).rowAt
  have Y:=dT T
  exact ⟨m,B,rfl,by omega,by omega,(cW I (HQ.o 4 _ rfl)).1,(cW I (HQ.o 4 _ rfl)).2,λi v f=>(cW I (HQ.o i v f)).1,λi v f=>cW I (HR.o i v f),x,Y.1,Y.2.1,by rw [U];exact aa.o.trans (I.mono (by omega)),by omega⟩
 refine av 4 (S:=λW=>W.cell? (AD q 4)=some (.slice (some (AD M P)) d tc)) (by kernel_rfl) (q4) (λac=>?_)
 refine' az 0 ?_ [1,0]
 refine' az 2 ?_ [3,2]
 refine' az 3 ?_
 clear ac
 refine aI 1 λK H=>?_
 go_simp
 go_at_call 91;refine af.o.mono ?_;rintro e s ⟨a',A,rfl,O⟩;obtain ⟨g,rfl,aM,aN,c4,an,L,C⟩:=ab.o _ _ _ O;have HM:=Nq O;have ai:=Nq L;have aD:=Nq C;clear O L C
 refine H.o _ _ (λ_=>c4) ?_
 clear H K
 try walk_nrm
 refine aI 4 λK H=>?_
 refine qH rfl (.tmp 6) (.tmp 8) 33 rfl 3 i3 (IV 0) 8 OY hi hz aQ aK rfl (by decide) (SV g a A) a (D.map (Value.int .i64)) rfl (by have:=HM.o.1;rw [ak.o]at this;exact this) (AD M P) d tc (Q.map (Value.int .i64)) rfl (by(try unfold BW);rw [NU];exact aF.o) ai.o Cy (by omega) ?_
 intro v' y T au aw
 obtain ⟨m,B,rfl,aq,ar,J⟩:=ag.o _ _ _ _ HM.o T au aw
 have t:=Nq J
 clear T au aw J
 refine H.o _ _ (λe=>nomatch e) ?_
 clear H K
 try walk_nrm
 have d4:=t.o.1
 have aH:=t.o.2.1
 refine aI 5 λK H=>?_
 go_simp
 refine H.o _ _ (λe=>nomatch e) ?_
 clear H K
 try walk_nrm
 refine aI 6 λK H=>?_
 go_simp
 refine H.o _ _ (λe=>nomatch e) ?_
 clear H K
 try walk_nrm
 refine ay (by kernel_rfl) ?_
 go_upto_region 2 with(fail)
 have am:Hid (∀N,N=y.setCell (AD q 4) (SV m (a+d) B)->
  (∀i v,(#[UV l,UV z,.slice na n nc,.slice xa n xc,SV m (a+d) B]:Array Value)[i]? =some v->N.cell? (AD q i)=some v)/\(∀i v,(#[UV 0,UV 0,SN,SN,SN]:Array Value)[i]? =some v->N.cell? (AD (q+1) i)=some v/\N.frozen? (AD (q+1) i)=false)/\
  aG .i64 N (some (AD m 0)) (a+d) (D++Q)/\Below w.heap.size w N):=by
  rintro N rfl
  obtain ⟨h1,h2,T,h4,h5,h6,h7,h8,-⟩:=t.o
  refine ⟨λi v f=>?_,λi v f=>⟨?_,by rw [OH];exact (h4 i v f).2⟩,⟨h5.1,?_⟩,?_⟩
  by_cases e:i=4
  subst e
  cases f
  exact Oj (h:=h1) ..
  rw [Oc _ _ _ _ (dR e)]
  refine T i v ?_
  match i,f,e with
  |0,f,_=>exact f
  |1,f,_=>exact f
  |2,f,_=>exact f
  |3,f,_=>exact f
  |4,f,e=>exact absurd rfl e
  |i+5,f,_=>exact f
  rw [Oc _ _ _ _ (λe=>Tb q (P5 Addr.block e).symm)]
  exact (h4 i v f).1
  rcases h5.2 with h|⟨b,o,e,hc⟩
  omega
  refine .inr ⟨b,o,e,λi hi=>?_⟩
  cases e
  rw [Oc _ _ _ _ (λe=>aq (P5 Addr.block e).symm)]
  exact hc i hi
  exact h8.setCell (p:=(AD q 4)) (by have:=R.o;show w.heap.size<=q;omega) _
 have E:=Nq (And.intro t.o.2.2.2.2.2.1 (And.intro t.o.2.2.2.2.2.2.1 t.o.2.2.2.2.2.2.2.2))
 clear d4 aH t ag ab af
 generalize aR:y.setCell (AD q 4) (SV m (a+d) B)=N at *
 obtain ⟨ax,aB,x,ap⟩:=am.o N rfl
 have F:=Nq ax
 have G:=Nq aB
 have V:=Nq x
 have ae:=Nq ap
 have ah:Hid (∀W,aj (λb=>b=q+1) N W->aG .i64 W (some (AD m 0)) (a+d) (D++Q)/\a+d<=B/\B<=maxLen/\Below w.heap.size w W/\w.heap.size<=m):=λW hk=>by refine ⟨⟨V.o.1,?_⟩,E.o.1,E.o.2.1,ae.o.trans (hk.af ae.o.size (λk aO e=>by have:=R.o;omega)),E.o.2.2⟩;rcases V.o.2 with h|⟨b,o,e,hc⟩;exact .inl h;exact .inr ⟨b,o,e,λi hi=>hk.aq (hc i hi) (by cases e;exact ar)⟩
 clear ax aB x ap aR am HM HQ HR ai aD q4 f4 c4 an
 have d0:=F.o 0 _ rfl
 have d1:=F.o 1 _ rfl
 have d2:=F.o 2 _ rfl
 have d3:=F.o 3 _ rfl
 have d4:=F.o 4 _ rfl
 obtain ⟨e0,aT⟩:=G.o 0 _ rfl
 obtain ⟨e1,aU⟩:=G.o 1 _ rfl
 obtain ⟨e2,aV⟩:=G.o 2 _ rfl
 obtain ⟨e3,aW⟩:=G.o 3 _ rfl
 obtain ⟨e4,aX⟩:=G.o 4 _ rfl
 have aC:Tryz.f167.results=#[.cell 4 193]:=by kernel_rfl
 go_wp2
 refine OS (v:=fW l z na n nc xa xc (some (AD m 0)) (a+d) B) ?_ rfl ⟨m,B,rfl,ah.o _ (((((((aj.refl (λb=>b=q+1) N).setCell (p:=(AD (q+1) 0)) (λ_=>rfl) _).setCell (p:=(AD (q+1) 1)) (λ_=>rfl) _).setCell (p:=(AD (q+1) 2)) (λ_=>rfl) _).setCell (p:=(AD (q+1) 3)) (λ_=>rfl) _).setCell (p:=(AD (q+1) 4)) (λ_=>rfl) _))⟩
 simp only [results,aC]
 go_simp
def Pt:=@List.getElem?_range
def Qb:=@decide_eq_decide
def QP:=@Go.Proofs.Tryz.underlying9
def QY:=@Go.Proofs.Tryz.underlying220
def Sr:=@Go.run_convert_bytes_back
def SM:=@Go.Proofs.Tryz.underlying5
def SZ:=@List.ext_getElem?
def cI(f:Nat->Bool)(k:Nat):List Int:=((List.range k).filter f).map λ(x:Nat)=>(x:Int)
def zO(f:Nat->Bool)(k:Nat):cI f (k+1)=cI f k++(if f k=true then [(k:Int)]else []):=by unfold cI;rw [OZ,OL,Oy];by_cases h:f k=true;rw [Oa h,Pa h];rfl;rw [Of h,O9 h];rfl
def kJ(f:Nat->Bool)(k:Nat):(cI f k).length<=k:=by unfold cI;rw [NU];have:=OD f (List.range k);rwa [OQ]at this
def wD(a:OA)(n c:Nat)(f:Nat->Bool)(w:WD)(h:dW w a n f)(Q:n<=1000000):
 CL 144 #[.slice a n c] w λe N=>∃d m g,e=RT (.slice d m g)/\aE .i64 3 w N (.slice d m g) (cI f n):=by
 obtain ⟨L,y,B,A,u⟩:=Ol Tryz.ed
 obtain ⟨b,M,rfl,F⟩:=h
 have C:=Nq F
 clear F
 go_enter Tryz.func144,Tryz.ntmps144
 go_wp2
 go_loopw [3,8] (λv x wr=>∃k:Nat,k<=n/\x=IV k/\∃d m g,v=.slice d m g/\Hid (aE .i64 3 w wr (.slice d m g) (cI f k))) (λ_ x _=>n-(intOf x).toNat)
 exact ⟨0,NS _,rfl,none,0,0,rfl,Nq (iZ _ _ _)⟩
 obtain ⟨k,P,rfl,d,m,g,rfl,o⟩:=hrel
 have j:=eV o.o
 have z:=kJ f k
 by_cases q:k<n
 ·have G:(k:Int)<(n:Int):=by omega
  have E:=((aZ o.o).cell (Nr w _ (C.o k q))).trans (C.o k q);have D:=Nq (zO f k);have s:=Nq j;have I:Hid (Sl wr 3 (.slice d m g) m ((cI f k).map (Value.int .i64))):=by have:=o.o.1;rw [j]at this;exact this
  have K:m<=n:=by omega
  clear j z;cases l:f k
  ·rw [l]at E;have i:Hid (cI f (k+1)=cI f k):=by have:=D.o;rw [l]at this;show _=_;simpa using this
   clear l;go_wp2;go_roundw;exact ⟨k+1,by omega,by go_num,d,m,g,rfl,by rw [i.o];exact o⟩;simp [intOf];omega
  ·rw [l]at E;have i:Hid (cI f (k+1)=cI f k++[(k:Int)]):=by have:=D.o;rw [l]at this;show _=_;simpa using this
   clear l;go_wp2_with (at_builtin;refine ax rfl (.tmp 14) (.tmp 16) 33 rfl 3 L (IV 0) 8 OY y B A u rfl (by decide) _ _ _ rfl I.o _ rfl rfl (by omega) ?_;intro O J R H p r;have t:=Nq (dA o.o s.o H p r);clear H p r);go_roundw;exact ⟨k+1,by omega,by go_num,_,m+1,J,rfl,by rw [i.o];exact t⟩;simp [intOf];omega
 ·obtain rfl:n=k:=by omega
  go_wp2;go_ret;exact ⟨d,m,g,rfl,o.o⟩
def Tryz.Hm:(Tryz.prog.info? 5).map (λi=>(i.zero,i.size,i.bytes))=some (some (.int .u8 0),1,1):=by kernel_rfl
def jE(n:Nat)(f:Nat->Bool)(k:Nat):List Int:=(List.range n).map λi=>if(decide (i<k)&&f i)=true then 1 else 0
def jD(n:Nat)(f:Nat->Bool):List UInt8:=(List.range n).map λi=>if f i=true then 1 else 0
def fX(n:Nat)(f:Nat->Bool):ByteArray:=⟨(jD n f).toArray⟩
def jN(n:Nat)(f:Nat->Bool)(k:Nat):(jE n f k).length=n:=by unfold jE;rw [NU,OQ]
def nz(n:Nat)(f:Nat->Bool):(jD n f).length=n:=by unfold jD;rw [NU,OQ]
def B9(n:Nat)(f:Nat->Bool):jE n f 0=List.replicate n 0:=by unfold jE;rw [List.eq_replicate_iff];refine ⟨by rw [NU,OQ],λz a=>?_⟩;obtain ⟨i,-,rfl⟩:=OC.1 a;simp
def B8(n:Nat)(f:Nat->Bool)(k:Nat)(h:f k=false):jE n f (k+1)=jE n f k:=by
 unfold jE;refine Q6 λi _=>?_;by_cases e:i=k;subst e;rw [h];simp;have:decide (i<k+1)=decide (i<k):=by rw [Qb];omega
 rw [this]
def vp(n:Nat)(f:Nat->Bool)(k i:Nat)(a:i<n):(jE n f k)[i]? =some (if(decide (i<k)&&f i)=true then 1 else 0):=by unfold jE;rw [Oh,Pt a];rfl
def EL(n:Nat)(f:Nat->Bool)(k:Nat)(h:f k=true)(b:k<n):(jE n f k).set k 1=jE n f (k+1):=by
 refine SZ λi=>?_;by_cases a:i<n;rw [List.getElem?_set,vp n f (k+1) i a,vp n f k i a,jN];by_cases e:k=i;subst e;rw [Oa rfl,Oa b,h];simp;rw [Of e];have:decide (i<k+1)=decide (i<k):=by rw [Qb];omega
 rw [this];rw [O7 (by rw [Qk,jN];omega),O7 (by rw [jN];omega)]
def EM(n:Nat)(f:Nat->Bool)(j:Nat)(c:j<(jD n f).length):(jE n f n).getD j 0=((jD n f)[j].toNat:Int):=by
 have a:=c;rw [nz]at a;have b:(jD n f)[j]? =some (if f j=true then 1 else 0):=by unfold jD;rw [Oh,Pt a];rfl
 rw [Ny c]at b;rw [OJ b,Nw,vp n f n j a,OU];cases f j
 simp;simp [a]
def Aw(a:OA)(n c:Nat)(f:Nat->Bool)(w:WD)(h:dW w a n f)(L:n<=1000000):
 CL 143 #[.slice a n c] w λe G=>e=RT (.string (fX n f))/\BW w G:=by
 obtain ⟨D,B,C,q,o⟩:=Ol Tryz.Hm
 obtain ⟨b,F,rfl,u⟩:=h
 have r:=Nq u
 clear u
 go_enter Tryz.func143,Tryz.ntmps143
 go_wp2_with (at_make;refine wpList_make_full _ rfl _ _ 220 rfl 0 5 D (.int .u8 0) 1 QY B C q _ _ _ _ n rfl rfl rfl rfl (by rw [o];omega) (by unfold maxLen;omega) (NS _) ?_;intro H z v;have s:Hid (aE .u8 5 w H (SV w.heap.size n n) (jE n f 0)):=(by rw [B9];exact zF z v);clear z v)
 go_loopw [11] (λx wr=>∃k:Nat,k<=n/\x=IV k/\Hid (aE .u8 5 w wr (SV w.heap.size n n) (jE n f k))) (λx _=>n-(intOf x).toNat)
 exact ⟨0,NS _,rfl,s⟩
 clear s
 obtain ⟨k,K,rfl,i⟩:=hrel
 by_cases d:k<n
 ·have y:(k:Int)<(n:Int):=by omega
  have t:=((aZ i.o).cell (Nr w _ (r.o k d))).trans (r.o k d);obtain ⟨I,J⟩:=yk i.o (jN n f k) k d;cases g:f k
  ·rw [g]at t;have m:=Nq (B8 n f k g)
   clear g;go_wp2;go_roundw;exact ⟨k+1,by omega,by go_num,by rw [m.o];exact i⟩;simp [intOf];omega
  ·rw [g]at t;have A:Hid (aE .u8 5 w (wr.setCell (AD w.heap.size k) (.int .u8 1)) (SV w.heap.size n n) (jE n f (k+1))):=by have:=CJ i.o (jN n f k) k 1;rw [EL n f k g d]at this;exact this
   clear g;generalize (jE n f k).getD k 0=M at *;go_wp2;go_roundw;exact ⟨k+1,by omega,by go_num,A⟩;simp [intOf];omega
 ·obtain rfl:n=k:=by omega
  have p:∀j (l:j<(jD n f).length),wr.cell? (((AD w.heap.size 0):Addr).add j)=some (.int .u8 ((jD n f)[j].toNat:Int)):=λj l=>by rw [O4,Od,<-EM n f j l];exact (yk i.o (jN n f n) j (by rw [nz]at l;exact l)).1
  have E:=Sr (P:=Tryz.prog) wr 220 9 5 (AD w.heap.size 0) n (jD n f) QY SM QP p;rw [nz]at E;go_wp2;go_ret;exact ⟨rfl,aZ i.o⟩
end Go.Proofs.YtimniinkpipnmaaGreatDoor
namespace Go.Own
open Go.RowKit
section
section
variable {P:Program} {ops:Array Oper} {Q:Exit->Act->WD->Prop} {md:Region.Mode} {β:Nat}
def aN{o:Oper}{K:Act->WD->Prop}{a:Act}{w:WD}{f:FuncId}{args:Array Value}{R:Ending->WD->Prop}(d:Calls P f args w R)(h:(execOp a.eval o).run P w=.ok (.enter f args) w)
 (c:∀e b,R e b->∃v,e=RT v/\K (a.put o.dst v) b):aY P o a w K Q:=by
 constructor
 unfold Oper.wp
 rw [h,Oper.upon_enter]
 refine d.mono λe b i=>?_
 obtain ⟨v,rfl,g⟩:=c e b i
 exact g
structure GO (R:List Nat) (a:Nat->Nat) (Φ:Nat->Value->WD->Prop) (b:WD) (l:Array Bool) (V:Nat->Value) (w:WD):Prop where
 aM:BW b w
 mS:∀i∈R,l.getD i false=true->Φ i (V (a i)) w
def cA{s:Act}{D:Array Bool}{m:WD}{c:Nat}(R:List Nat)(a:Nat->Nat)(q:Array Bool)(b:Nat)(Φ:Nat->Value->WD->Prop)
 (t:zN md ops R a q=true) (y:D=eR q R) (L:c=b+R.length) (n:∀i∈R,∀j∈R,a i=a j->i=j)
 (C:∀i v w d,Φ i v w->BW w d->Φ i v d) {S:WD->Prop} (J:∀w,BW m w->S w) (H:∀i∈R,D.getD i false=false)
 (k:∀l V w i o,l.size=ops.size->iC md ops l->i∈R->ops[i]? =some o->i∈Region.ready md ops l->GO R a Φ m l V w->
  ∀K:Act->WD->Prop,(∀v d,BW w d->Φ i v d->K ((aP s (R.map a) V).put o.dst v) d)->aY P o (aP s (R.map a) V) w K Q)
 (f:∀V w,BW m w->(∀i∈R,Φ i (V (a i)) w)->dk P md ops Q S β b q (aP s (R.map a) V) w):dk P md ops Q S β c D s m:=by
 have z:∀r∈R,q.getD r false=true:=by intro r B;unfold zN at t;simp only [OB,Ps]at t;exact (t.1.1.2 r B).1
 refine mj R a q b (GO R a Φ m) t y L ⟨Below.refl _ _,λi g h=>by rw [H i g]at h;cases h⟩ (λl V w h=>J w h.aM) ?_ (λV w h=>f V w h.aM λi g=>h.mS i g (z i g))
 intro l V w i o A x g M B u K I
 refine k l V w i o A x g M B u K λv d E N=>I v d ⟨u.aM.trans (E.mono u.aM.size),λj F p=>?_⟩
 by_cases e:j=i
 subst e;rw [aB];exact N
 rw [an _ _ _ _ (λG=>e (n j F i g G))]
 rw [Qi false (P4 e)]at p
 exact C _ _ _ _ (u.mS j F p) E
end
end
end Go.Own
