/- A part of the proof of TopWitness. -/
import Derived.Test.YtimniinkpipnmaaGreatDoorV2
set_option maxRecDepth 100000
set_option maxHeartbeats 8000000
set_option linter.all false
namespace Go.Proofs.YtimniinkpipnmaaGreatDoor
open Go.RowKit Go.Own Go.Proofs.Tryz
section
def P9:=@List.length_cons
def Rr:=@List.reverse_cons
def Tryz.Li:(Tryz.prog.info? 148).map (λi=>(i.zero,i.size,i.bytes))=some (some (SN),1,24):=ZK
abbrev dN:=OA×Nat×Nat
abbrev jW(p:dN):Value:=SL p.1 p.2.1 p.2.2
def fw(w:WD)(g:Option Nat)(p:dN)(x:Fm):Prop:=p.2.1<=p.2.2/\p.2.2<=maxLen/\FA w p.1 p.2.1 x/\∀b o,p.1=some (AD b o)->g≠some b
def mV(w:WD)(g:Option Nat):List dN->List Fm->Prop
 |[],[]=>True
 |p::a,x::b=>fw w g p (Fm.bN x)/\mV w g a b
 |_,_=>False
def bD.ax{S w l a n F}(h:bD w a n F)(k:aj S w l)(d:∀b o,a=some (AD b o)->¬S b):bD l a n F:=by refine ⟨h.1,?_⟩;obtain m|⟨b,c,e,g⟩:=h.2;exact .inl m;refine .inr ⟨b,c,e,λi j=>⟨k.aq (g i j).1 (d b c e),k.aq (g i j).2 (d b c e)⟩⟩
def FA.ax{S w c a n x}(h:FA w a n x)(e:aj S w c)(d:∀b o,a=some (AD b o)->¬S b):FA c a n x:=bD.ax h e d
def FA.lt{w a n x}(h:FA w a n x):∃b o,a=some (AD b o)/\b<w.heap.size:=by obtain ⟨b,o,e,-,c,-⟩:=h.at (Fm.cP x);exact ⟨b,o,e,O9 w _ c⟩
def fw.ax{S w k g c p x}(h:fw w g p x)(t:aj S w k)(q:∀b,S b->g=some b)(r:∀b,c=some b->g=some b\/w.heap.size<=b):fw k c p x:=by obtain ⟨m,n,d,j⟩:=h;refine ⟨m,n,d.ax t (λb o e s=>j b o e (q b s)),λb o e l=>?_⟩;obtain h|h:=r b l;exact j b o e h;have⟨u,z,a,y⟩:=d.lt;rw [e]at a;cases a;omega
def fw.ag{w w' g p x}(h:fw w g p x)(a:BW w w'):fw w' g p x:=⟨h.1,h.2.1,h.2.2.1.ag a,h.2.2.2⟩
def mV.map{w e g c}(d:∀p x,fw w g p x->fw e c p x):∀a b,mV w g a b->mV e c a b
 |[],[],_=>RN
 |_::a,_::b,h=>⟨d _ _ h.1,mV.map d a b h.2⟩
 |[],_::_,h=>h
 |_::_,[],h=>h
def mV.bA{w g}:∀{a b},mV w g a b->a.length=b.length
 |[],[],_=>rfl
 |_::a,_::b,h=>by rw [P9,P9,mV.bA h.2]
 |[],_::_,h=>h.elim
 |_::_,[],h=>h.elim
def fw.o{w1 d g S a n c x}(h:aL w1 S x (RT (SL a n c)) d)(r:∀b,g=some b->b<w1.heap.size/\¬S b):fw d g (a,n,c) x:=by
 obtain ⟨s,y,t,e,k,l,m,-,p⟩:=h;cases e
 refine ⟨k,l,m,λb o e j=>?_⟩;have⟨u,q⟩:=r b j;obtain h|h:=p b o e;omega;exact q h
structure SI (w0 w:WD) (f:Fm) (i:Nat) (v:Value) (st:List Fm) (sv:List dN):Prop where
 mN:Sl w 148 v st.length ((sv.map jW).reverse)
 ey:mV w v.ownBlock sv st
 dJ:∀b,v.ownBlock=some b->w0.heap.size<=b
 aJ:BW w0 w
 run:Fm.run ((Fm.enc f).take i) []=some st
 ok:∀x∈st,eh x
section
variable {w0 w w1 w2:WD} {f:Fm} {i:Nat} {v:Value} {st:List Fm} {sv:List dN}
def SI.ag(h:SI w0 w f i v st sv)(a:BW w w1):SI w0 w1 f i v st sv:=
 ⟨rp h.mN a,mV.map (λ_ _ h=>h.ag a) _ _ h.ey,h.dJ,h.aJ.trans (a.mono h.aJ.size),h.run,h.ok⟩
def SI.dT{s c d j a y p}(h:SI w0 w f i (SL a s c) st sv)(q:BW w w1)(u:fw w1 (SL a s c).ownBlock p (Fm.bN y))(B:eh y)
 (o:Sl w2 148 (SV d (s+1) j) (s+1) ((sv.map jW).reverse++[jW p])) (m:aj (λk=>(SL a s c).ownBlock=some k) w1 w2) (t:(SL a s c).ownBlock=some d\/w1.heap.size<=d)
 (z:Fm.run ((Fm.enc f).take (i+1)) []=some (y::st)):SI w0 w2 f (i+1) (SV d (s+1) j) (y::st) (p::sv):=by
 have g:=h.ag q
 have A:s=st.length:=(de h.mN).2.2
 have l:∀b,(SV d (s+1) j).ownBlock=some b->(SL a s c).ownBlock=some b\/w1.heap.size<=b:=λb e=>by cases e;exact t
 refine ⟨?_,⟨u.ax m (λb s=>s) l,mV.map (λ_ _ h=>h.ax m (λb s=>s) l) _ _ g.ey⟩,λb e=>?_,g.aJ.trans (m.ag g.aJ.size (λk r e=>ZH (h.dJ k e))),z,λx n=>?_⟩
 rw [Pv,Rr,P9,<-A];exact o
 obtain e|e:=l b e
 exact h.dJ b e
 exact PG g.aJ.size e
 obtain rfl|n:=PO.1 n
 exact B
 exact h.ok x n
def SI.top{s c g x y q p}(h:SI w0 w f i (SV g (s+1) c) (x::st) (q::sv))(o:BW w w1)(t:fw w1 (some g) p (Fm.bN y))(A:eh y)
 (u:Fm.run ((Fm.enc f).take (i+1)) []=some (y::st)):SI w0 (w1.setCell (AD g s) (jW p)) f (i+1) (SV g (s+1) c) (y::st) (p::sv):=by
 have d:=h.ag o
 have j:s+1=(x::st).length:=(de h.mN).2.2
 have r:sv.length=st.length:=mV.bA d.ey.2
 have m:aj (λb=>b=g) w1 (w1.setCell (AD g s) (jW p)):=(aj.refl (λb=>b=g) w1).setCell (p:=(AD g s)) (λ_=>rfl) _
 have a:Sl (w1.setCell (AD g s) (jW p)) 148 (SV g (s+1) c) (x::st).length (((q::sv).map jW).reverse.set s (jW p)):=by have l:=d.mN;rw [<-j]at l⊢;exact (RU l s (jW p)).1
 have e:((q::sv).map jW).reverse.set s (jW p)=((p::sv).map jW).reverse:=by
  rw [Pv,Rr,Pv,Rr];have n:s=((sv.map jW).reverse).length:=by rw [RY,PB,r];simp at j;exact j
  rw [n,List.set_append_right _ _ (Pf _),RG];rfl
 rw [e]at a
 have B:∀p x,fw w1 (some g) p x->fw (w1.setCell (AD g s) (jW p)) (some g) p x:=λp x h=>h.ax ((aj.refl (λb=>b=g) w1).setCell (p:=(AD g s)) (λ_=>rfl) _) (λb e=>by rw [e]) (λb e=>.inl e)
 refine ⟨a,⟨t.ax m (λb e=>by rw [e]) (λb e=>.inl e),mV.map (λ_ _ h=>fw.ax h m (λb e=>by subst e;rfl) (λb e=>.inl e)) _ _ d.ey.2⟩,h.dJ,d.aJ.setCell (h.dJ g rfl) _,u,λz k=>?_⟩
 obtain rfl|k:=PO.1 k
 exact A
 exact h.ok z (Qc _ k)
def SI.two{s c g a j x y z q p r}(h:SI w0 w f i (SV g (s+2) c) (y::x::st) (q::p::sv))(B:BW w w1)(E:fw w1 (some g) r (Fm.bN z))(G:eh z)
 (A:Sl w2 148 (SV a (s+1) j) (s+1) ((sv.map jW).reverse++[jW r])) (m:aj (λk=>(SV g s c).ownBlock=some k) w1 w2) (D:(SV g s c).ownBlock=some a\/w1.heap.size<=a)
 (F:Fm.run ((Fm.enc f).take (i+1)) []=some (z::st)):SI w0 w2 f (i+1) (SV a (s+1) j) (z::st) (r::sv):=by
 have d:=h.ag B
 have t:s+2=(y::x::st).length:=(de h.mN).2.2
 have l:∀b,(SV a (s+1) j).ownBlock=some b->(some g:Option Nat)=some b\/w1.heap.size<=b:=λb e=>by cases e;exact D
 have o:∀b,(SV g s c).ownBlock=some b->(some g:Option Nat)=some b:=λb e=>e
 refine ⟨?_,⟨E.ax m o l,mV.map (λ_ _ h=>fw.ax h m o l) _ _ d.ey.2.2⟩,λb e=>?_,d.aJ.trans (m.ag d.aJ.size (λk C e=>ZH (h.dJ k e))),F,λu n=>?_⟩
 rw [Pv,Rr,P9]
 simp at t
 rw [<-t];exact A
 obtain e|e:=l b e
 exact h.dJ b e
 exact PG d.aJ.size e
 obtain rfl|n:=PO.1 n
 exact G
 exact h.ok u (Qc _ (Qc _ n))
def SI.cut{s c g x y q p}(h:SI w0 w f i (SV g (s+2) c) (y::x::st) (q::p::sv))(d:BW w w1):Sl w1 148 (SV g s c) s ((sv.map jW).reverse):=by
 have a:=(h.ag d).mN;have b:s+2=(y::x::st).length:=(de a).2.2;rw [<-b]at a;have j:sv.length=st.length:=mV.bA h.ey.2.2;have:=nM a (m:=s) ZO;have e:(((q::p::sv).map jW).reverse).take s=(sv.map jW).reverse:=by
  simp only [Pv,Rr,Qe];have k:s=((sv.map jW).reverse).length:=by rw [RY,PB,j];simp at b;exact b
  rw [RR ZO,PI ZO]
 rw [e]at this;exact this
def SI.OG{s c a x q}(h:SI w0 w f i (SL a s c) (x::st) (q::sv)):∃g b,a=some (AD g 0)/\s=b+1/\g<w.heap.size/\w.cell? (AD g b)=some (jW q)/\w.frozen? (AD g b)=false:=by
 have m:s=(x::st).length:=(de h.mN).2.2;have d:sv.length=st.length:=mV.bA h.ey.2;have⟨k,l,e,j⟩:=h.mN.shape;cases e
 obtain ⟨g,e,-,-⟩:=j 0 ZS;subst e;refine ⟨g,st.length,rfl,rfl,h.mN.lt g rfl,?_,Ro (size:=1) h.mN st.length⟩;rw [Qj (size:=1) h.mN st.length ZS];rw [Pv,Rr,PD (by simp [d]),RY,PB,d,RG];rfl
def SI.O0{s c a x y q p}(h:SI w0 w f i (SL a s c) (y::x::st) (q::p::sv)):∃g d,a=some (AD g 0)/\s=d+2/\g<w.heap.size/\w.cell? (AD g (d+1))=some (jW q)/\w.cell? (AD g d)=some (jW p):=by
 have m:s=(y::x::st).length:=(de h.mN).2.2;have b:sv.length=st.length:=mV.bA h.ey.2.2;have⟨k,l,e,j⟩:=h.mN.shape;cases e
 obtain ⟨g,e,-,-⟩:=j 0 ZS;subst e;refine ⟨g,st.length,rfl,rfl,h.mN.lt g rfl,?_,?_⟩;rw [Qj (size:=1) h.mN (st.length+1) ZS];rw [Pv,Rr,PD (by simp [b]),RY,PB,P9,b,RG];rfl;rw [Qj (size:=1) h.mN st.length (by simp;omega)];rw [Pv,Rr,Pv,Rr,Qe,PD (by simp [b]),RY,PB,b,RG];rfl
end
def xC{x}:eh x->eh (Fm.bN x):=by
 have o:∀c,eh (Fm.no c):=λc=>by cases c<;>first|exact xD|exact xA
 have m:∀c a b,eh a->eh b->eh (Fm.mk c a b):=λc a b e d=>by cases c<;>first|exact dD .and e d|exact dD .or e d
 have s:∀r a b,eh a->eh b->eh (Fm.KO r a b):=λc a b e d=>by cases c<;>first|exact dD .rel e d|exact dD .dA e d
 have k:∀c a b,eh a->eh b->eh (Fm.gq c a b):=λc a b e d=>by unfold Fm.gq;split;exact o c;split;exact d;split;exact e;split;exact o c;split;exact e;split;exact d;unfold Fm.mK;split;exact mA .cy (m c _ _ (gA .cy e) (gA .cy d));exact m c a b e d
 have l:∀r a b,eh a->eh b->eh (Fm.eL r a b):=λr a b e d=>by unfold Fm.eL;split;exact d;split;exact d;exact s r a b e d
 induction x with
 |tt|ff|prop n=>intro h;exact h
 |neg a p=>intro h;exact mA .neg (p (gA .neg h))
 |cy a p=>intro h;have q:=p (gA .cy h);show eh (Fm.j9 (Fm.bN a));unfold Fm.j9;split;exact q;exact mA .cy q
 |fin a p|ec a p=>intro h;exact h
 |and a b g j=>intro h;have⟨e,d⟩:=fK .and h;exact k true _ _ (g e) (j d)
 |or a b g j=>intro h;have⟨e,d⟩:=fK .or h;exact k false _ _ (g e) (j d)
 |imp a b g j=>intro h;exact h
 |dA a b g j=>intro h;have⟨e,d⟩:=fK .dA h;exact l false _ _ (g e) (j d)
 |rel a b g j=>intro h;have⟨e,d⟩:=fK .rel h;exact l true _ _ (g e) (j d)
end
def Pm:=@List.mem_of_getElem?
def PL:=@Go.World.size_alloc
def uE{P r o a L K Q E}(C:o.guard=none)(s x t)
 (R:o.op=.call {callee:=.builtin .append,args:=#[s,x],argTypes:=#[t,t]})
 (e i z b) (U:P.underlying t=some (.slice e)) (O:P.info? e=some i) (X:i.zero=some z)
 (f:i.size=1) (B:i.bytes=b) (G:z.cells.size=1) (p:1<=b)
 (w u) (hw:L=w.alloc (CE #[u] e)) (V:u.oneCell'=true)
 (v n H) (T:a.eval s=v) (m:Sl w e v n H)
 (W:a.eval x=SV w.heap.size 1 1)
 (c:(n+1)*b<=140737488355328)
 (h:∀g A y,Sl y e (SV g (n+1) A) (n+1) (H++[u])->aj (λk=>v.ownBlock=some k) w y->(v.ownBlock=some g\/w.heap.size<=g)->K (a.put o.dst (SV g (n+1) A)) y):
 if Region.wanted o (yielded r a.tmps)=true then Oper.wp P o a L K Q else E:=by
 subst hw
 have F:Region.wanted o (yielded r a.tmps)=true:=by simp [Region.wanted,C]
 rw [PW F]
 have⟨v',y,S,I,M,d⟩:=eM (P:=P) (w.alloc (CE #[u] e)) t o.type e i z b U O X f B G p v n H (World.ownsRow.alloc m _) (AD w.heap.size 0) 1 1 [u] rfl (by
  intro j Y l;match j,l with
  |0,l=>simp at l;subst l;show(w.alloc (CE #[u] e)).cell? (((AD w.heap.size 0):Addr).add 0)=some u;rw [QK];exact Py (w:=w) #[u] e w.heap.size 0 rfl
  |j+1,l=>simp at l) (by intro Y q;simp at q;subst q;exact V) c
 obtain ⟨Z,A,rfl,N⟩:=I.shape
 obtain ⟨g,rfl,J,_⟩:=N 0 ZO
 unfold Oper.wp execOp
 simp only [R,resolve,invoke,builtin,Rv,R6,Q9,Rm,Pv,PE,T,W,S]
 refine h g A y I (((aj.refl _ w).alloc _).trans (M.mono (λ_ _ s=>s))) ?_
 obtain d|⟨g',d,D⟩:=d.alloc
 rw [J]at d;exact .inl d.symm
 rw [J]at d;cases d;exact .inr D
def CJ:∀F b a,Fm.run F b=some a->bm a=bm b+F.length
 |[],b,a,h=>by cases h;rfl
 |p::F,b,a,h=>by
  have h:(Fm.step p b).bind (Fm.run F)=some a:=h;cases c:Fm.step p b with
  |none=>rw [c]at h;cases h
  |some s=>rw [c]at h;have d:=CJ F s a h;have e:=Hr c;rw [P9];omega
def SI.size{c w f i v a b}(h:SI c w f i v a b)(d:i<=Fm.size f):bm a=i:=by have:=CJ _ _ _ h.run;rw [QI,Fm.dt]at this;have e:bm []=0:=rfl;omega
def SI.aM{a w f}(c:BW a w):SI a w f 0 (SN) [] []:=
 ⟨Qd _ _ _ _,RN,λb e=>(ZC e),c,(by rw [Ri];rfl),λx d=>(ZC d)⟩
def fw.size{w g p x}(h:fw w g p (Fm.bN x)):p.2.1<=Fm.size x:=by have a:=h.2.2.1.size;have b:=(Fm.oe x).1;omega
def Kw{x}(h:Fm.gR x)(k:¬(Fm.aH x).1=1)(l:¬(Fm.aH x).1=2)(m:¬(Fm.aH x).1=3)(o:¬(Fm.aH x).1=4)(p:¬(Fm.aH x).1=8):
 ((Fm.aH x).1=5\/(Fm.aH x).1=6\/(Fm.aH x).1=9\/(Fm.aH x).1=10)/\∀d c,Fm.step (Fm.aH x) d=some c->∃b a r z,d=b::a::r/\c=z::r/\Fm.bN z=CX (Fm.aH x).1 (Fm.bN a) (Fm.bN b)/\(eh a->eh b->eh z):=by
 have i:∀(g n:Int)(d c:List Fm),g=5\/g=6\/g=9\/g=10->Fm.step (g,n) d=some c->∃b a r z,d=b::a::r/\c=z::r/\Fm.bN z=CX g (Fm.bN a) (Fm.bN b)/\(eh a->eh b->eh z):=by
  rintro g n d c (rfl|rfl|rfl|rfl) h;all_goals
   match d,h with
   |b::a::r,h=>
    cases h
    first
     |exact ⟨b,a,r,_,rfl,rfl,rfl,λe f=>dD .and e f⟩
     |exact ⟨b,a,r,_,rfl,rfl,rfl,λe f=>dD .or e f⟩
     |exact ⟨b,a,r,_,rfl,rfl,rfl,λe f=>dD .dA e f⟩
     |exact ⟨b,a,r,_,rfl,rfl,rfl,λe f=>dD .rel e f⟩
   |[],h=>cases h
   |[_],h=>cases h
 have j:(Fm.aH x).1=5\/(Fm.aH x).1=6\/(Fm.aH x).1=9\/(Fm.aH x).1=10:=by
  cases x<;>first
   |exact absurd rfl k
   |exact absurd rfl l
   |exact absurd rfl m
   |exact absurd rfl o
   |exact absurd rfl p
   |exact .inl rfl
   |exact .inr (.inl rfl)
   |exact .inr (.inr (.inl rfl))
   |exact .inr (.inr (.inr rfl))
   |exact h.elim
 exact ⟨j,λd c=>i (Fm.aH x).1 (Fm.aH x).2 d c j⟩
def Cs(a n c f w)(h:FA w a n f)(hN:Fm.gR f)(aE:eh f)(hn:n<=1000):
 CL 73 #[SL a n c] w λe w'=>∃I m J,e=RT (SL I m J)/\bP w w' (SL I m J) m (Fm.enc (Fm.bN f)):=by
 have⟨ab,hi,hz,ap,ao⟩:=P6 Tryz.Li
 have aR:=O8 (AO a n c f w h hN aE ZO)
 have aQ:=O8 h
 have aT:=O8 hN
 have aV:=O8 aE
 have ai:Hid (Fm.size f=n):=h.size
 clear h hN aE
 go_enter func73,ntmps73
 go_wp2_with (go_at_call 76;apply aR.o.mono;rintro e w2 ⟨rfl,hb⟩;have HB:=O8 hb;clear hb)
 go_loopw [3,12] (λv x wr=>∃i:Nat,i<=n/\x=IV i/\∃sa s sc st sv,v=SL sa s sc/\Hid (SI w wr f i (SL sa s sc) st sv)) (λ_ x _=>n-(intOf x).toNat)
 case atStart=>exact ⟨0,Pz _,rfl,none,0,0,[],[],rfl,O8 (SI.aM HB.o)⟩
 case round=>
  clear HB;obtain ⟨i,aW,rfl,sa,s,sc,st,sv,rfl,hw⟩:=hrel;have aO:s=st.length:=(de hw.o.mN).2.2;have aP:=hw.o.size (ZR ai.o aW);have aJ:∀l:List Fm,l.length<=bm l:=by
   intro l;induction l with
   |nil=>exact Pf _
   |cons f r ih=>have:=Fm.br f;show r.length+1<=Fm.size f+bm r;omega
  have a2:s<=1000:=ZH (aJ st);have aZ:=(de hw.o.mN).1;have aA:=O8 aP;have an:=O8 aO;clear aP aO aJ;by_cases aX:i<n
  ·have a0:(i:Int)<n:=ZO;obtain ⟨x,hx⟩:∃x,(Fm.aI f)[i]? =some x:=⟨_,Pe (by have:=ai.o;unfold Fm.size at this;omega)⟩
   obtain ⟨bb,bo,rfl,-,c0,c1⟩:=(aQ.o.ag hw.o.aJ).at hx;have aa:=nE aT.o i x hx;have⟨am,d,au⟩:=J7 hw.o.run (ZR ai.o aX);rw [BR hx]at d;have O:=O8 au;have aq:Hid (∀k,x=Fm.prop k->k<8):=λk e=>aV.o x (Pm hx) k e;have⟨Z,H⟩:=EX ((Fm.aH x).1);have⟨nn,V⟩:=EX ((Fm.aH x).2);rw [H]at c0;rw [V]at c1;have aI:Below wr.heap.size wr (wr.alloc (CE #[IV Z,IV nn] 32)):=(Pn _ _).alloc (Pf _) _;have d0:(wr.alloc (CE #[IV Z,IV nn] 32)).cell? (AD wr.heap.size 0)=some (IV Z):=Py (w:=wr) _ 32 wr.heap.size 0 rfl;have d1:(wr.alloc (CE #[IV Z,IV nn] 32)).cell? (AD wr.heap.size 1)=some (IV nn):=Py (w:=wr) _ 32 wr.heap.size 1 rfl;have u:=O8 (hw.o.ag aI);clear au aI hw;go_upto_region 7 with(fail);clear c0 c1;generalize wr.alloc (CE #[IV Z,IV nn] 32)=A at *;(try unfold BW at *);generalize wr.heap.size=qn at *;have ac:∀o,Hid (Below A.heap.size A (A.alloc o)):=λo=>O8 ((Pn _ _).alloc (Pf _) _);have B:∀k:Int,Z≠k->(Z==k)=false:=λk h=>Pq.2 h;by_cases C:Z=1
   ·subst C;obtain ⟨y,rfl,P,ah,Q⟩:∃y,am=y::st/\Fm.enc (Fm.bN y)=[(1,0)]/\Fm.bN y=y/\eh y:=by
     cases x<;>simp [Fm.aH]at H
     cases d
     exact ⟨_,rfl,rfl,rfl,xD⟩
    have U:Hid (fw (A.alloc (CE #[IV 1,IV 0] 32)) (SL sa s sc).ownBlock (some (AD A.heap.size 0),1,1) (Fm.bN y)):=
     ⟨Pf _,by simp [maxLen],by unfold FA;rw [P];exact bP.zE A 1 0,λb o e e2=>by cases e;exact absurd (u.o.mN.lt _ e2) (QE _)⟩
    have HY:=O8 Q;have E:=O8 (rp u.o.mN (ac (CE #[IV 1,IV 0] 32)).o);clear d H V P ah Q hx aa B;rw [<-an.o]at E;go_wp2_with (at_builtin;refine av rfl (.tmp 42) (.tmp 47) 147 rfl 148 ab (SN) 24 underlying147 hi hz ap ao rfl ZD _ _ _ rfl E.o (SV A.heap.size 1 1) rfl (by rw [PL];rfl) ZO ?_;intro g1 c1 F hs L M;have HN:=O8 (u.o.dT (ac (CE #[IV 1,IV 0] 32)).o U.o HY.o hs L M O.o);clear hs L M);go_roundw;exact ⟨i+1,ZO,ZN,_,_,_,_,_,rfl,HN⟩;simp [intOf];omega
   by_cases h2:Z=2
   ·subst h2;obtain ⟨y,rfl,P,ah,Q⟩:∃y,am=y::st/\Fm.enc (Fm.bN y)=[(2,0)]/\Fm.bN y=y/\eh y:=by
     cases x<;>simp [Fm.aH]at H
     cases d
     exact ⟨_,rfl,rfl,rfl,xA⟩
    have U:Hid (fw (A.alloc (CE #[IV 2,IV 0] 32)) (SL sa s sc).ownBlock (some (AD A.heap.size 0),1,1) (Fm.bN y)):=
     ⟨Pf _,by simp [maxLen],by unfold FA;rw [P];exact bP.zE A 2 0,λb o e e2=>by cases e;exact absurd (u.o.mN.lt _ e2) (QE _)⟩
    have HY:=O8 Q;have E:=O8 (rp u.o.mN (ac (CE #[IV 2,IV 0] 32)).o);clear d H V P ah Q hx aa B;rw [<-an.o]at E;go_wp2_with (at_builtin;refine av rfl (.tmp 42) (.tmp 47) 147 rfl 148 ab (SN) 24 underlying147 hi hz ap ao rfl ZD _ _ _ rfl E.o (SV A.heap.size 1 1) rfl (by rw [PL];rfl) ZO ?_;intro g1 c1 F hs L M;have HN:=O8 (u.o.dT (ac (CE #[IV 2,IV 0] 32)).o U.o HY.o hs L M O.o);clear hs L M);go_roundw;exact ⟨i+1,ZO,ZN,_,_,_,_,_,rfl,HN⟩;simp [intOf];omega
   by_cases h3:Z=3
   ·subst h3;obtain ⟨y,rfl,P,ah,Q⟩:∃y,am=y::st/\Fm.enc (Fm.bN y)=[(3,nn)]/\Fm.bN y=y/\eh y:=by
     cases x<;>simp [Fm.aH]at H
     rename_i k;subst V;cases d
     exact ⟨_,rfl,rfl,rfl,λz hz j e=>by have hz:z∈[Fm.prop k]:=hz;rw [Pc]at hz;subst hz;cases e;exact aq.o k rfl⟩
    have U:Hid (fw (A.alloc (CE #[IV 3,IV nn] 32)) (SL sa s sc).ownBlock (some (AD A.heap.size 0),1,1) (Fm.bN y)):=
     ⟨Pf _,by simp [maxLen],by unfold FA;rw [P];exact bP.zE A 3 nn,λb o e e2=>by cases e;exact absurd (u.o.mN.lt _ e2) (QE _)⟩
    have HY:=O8 Q;have E:=O8 (rp u.o.mN (ac (CE #[IV 3,IV nn] 32)).o);clear d H V P ah Q hx aa B;rw [<-an.o]at E;go_wp2_with (at_builtin;refine av rfl (.tmp 51) (.tmp 54) 147 rfl 148 ab (SN) 24 underlying147 hi hz ap ao rfl ZD _ _ _ rfl E.o (SV A.heap.size 1 1) rfl (by rw [PL];rfl) ZO ?_;intro g1 c1 F hs L M;have HN:=O8 (u.o.dT (ac (CE #[IV 3,IV nn] 32)).o U.o HY.o hs L M O.o);clear hs L M);go_roundw;exact ⟨i+1,ZO,ZN,_,_,_,_,_,rfl,HN⟩;simp [intOf];omega
   by_cases h4:Z=4
   ·subst h4;obtain ⟨y,r,rfl,rfl⟩:∃y r,st=y::r/\am=Fm.neg y::r:=by
     cases x<;>simp [Fm.aH]at H
     match st,d with
     |y::r,h=>cases h;exact ⟨y,r,rfl,rfl⟩
     |[],h=>cases h
    match sv,u with
    |[],u=>exact u.o.ey.elim
    |q::sv,u=>
     obtain ⟨g,t,rfl,rfl,G,e0,f0⟩:=u.o.OG;obtain ⟨X,T,Y⟩:=q;have D:=u.o.ey.1;have N:=D.size;have al:Fm.size y<=i:=by have:=aA.o;have e:bm (y::r)=Fm.size y+bm r:=rfl;omega
     have HC:Hid (CL 103 #[IV 4,SV A.heap.size 1 1] (A.alloc (CE #[SL X T Y] 148)) (aL A (λ_=>False) (Fm.neg (Fm.bN y)))):=nS Fm.One.neg X T Y A D.2.2.1 (by simp only at N;omega);have HY:Hid (eh (Fm.neg y)):=mA .neg (u.o.ok y ZS);change A.cell? (AD g t)=some (SL X T Y)at e0;have ak:Hid (∀I R J F,aL A (λ_=>False) (Fm.neg (Fm.bN y)) (RT (SL I R J)) F->F.cell? (AD g t)=some (SL X T Y)/\F.frozen? (AD g t)=false/\Hid (SI w (F.setCell (AD g t) (SL I R J)) f (i+1) (SV g (t+1) sc) (Fm.neg y::r) ((I,R,J)::sv))):=λI R J F C=>
      ⟨(C.ag.cell G).trans e0,(PK ((aj.aC C.ag).block g G (λe=>QE _ (Ps G e)))).trans f0,O8 (u.o.top C.ag (y:=Fm.neg y) (fw.o C (λb e=>by cases e;exact ⟨G,id⟩)) HY.o O.o)⟩
     clear d H V hx aa B D N al;go_wp2_with (go_at_call 103;apply HC.o.mono;rintro e F C;obtain ⟨I,R,J,rfl⟩:=C.shape;have⟨e1,f1,HN⟩:=ak.o _ _ _ _ C;clear C);go_roundw;exact ⟨i+1,ZO,ZN,_,_,_,_,_,rfl,HN⟩;simp [intOf];omega
   by_cases h8:Z=8
   ·subst h8;obtain ⟨y,r,rfl,rfl⟩:∃y r,st=y::r/\am=Fm.cy y::r:=by
     cases x<;>simp [Fm.aH]at H
     match st,d with
     |y::r,h=>cases h;exact ⟨y,r,rfl,rfl⟩
     |[],h=>cases h
    match sv,u with
    |[],u=>exact u.o.ey.elim
    |q::sv,u=>
     obtain ⟨g,t,rfl,rfl,G,e0,f0⟩:=u.o.OG;obtain ⟨X,T,Y⟩:=q;have D:=u.o.ey.1;have N:=D.size;have al:Fm.size y<=i:=by have:=aA.o;have e:bm (y::r)=Fm.size y+bm r:=rfl;omega
     have HC:Hid (CL 104 #[SL X T Y] A (aL A (λk=>k≠g) (Fm.j9 (Fm.bN y)))):=JH X T Y _ A D.2.2.1 (by simp only at N;omega) D.1 D.2.1 _ (λb o e e2=>D.2.2.2 b o e (by rw [e2];rfl));have HY:Hid (eh (Fm.cy y)):=mA .cy (u.o.ok y ZS);change A.cell? (AD g t)=some (SL X T Y)at e0;have ak:Hid (∀I R J F,aL A (λk=>k≠g) (Fm.j9 (Fm.bN y)) (RT (SL I R J)) F->F.cell? (AD g t)=some (SL X T Y)/\F.frozen? (AD g t)=false/\Hid (SI w (F.setCell (AD g t) (SL I R J)) f (i+1) (SV g (t+1) sc) (Fm.cy y::r) ((I,R,J)::sv))):=λI R J F C=>
      ⟨(C.ag.cell G).trans e0,(PK ((aj.aC C.ag).block g G (λe=>QE _ (Ps G e)))).trans f0,O8 (u.o.top C.ag (y:=Fm.cy y) (fw.o C (λb e=>by cases e;exact ⟨G,λh=>h rfl⟩)) HY.o O.o)⟩
     clear d H V hx aa B D N al;go_wp2_with (go_at_call 104;apply HC.o.mono;rintro e F C;obtain ⟨I,R,J,rfl⟩:=C.shape;have⟨e1,f1,HN⟩:=ak.o _ _ _ _ C;clear C);go_roundw;exact ⟨i+1,ZO,ZN,_,_,_,_,_,rfl,HN⟩;simp [intOf];omega
   ·subst H;have⟨ar,ax⟩:=Kw aa C h2 h3 h4 h8
    obtain ⟨y2,y1,r,z,rfl,rfl,hz,ay⟩:=ax _ _ d;match sv,u with
    |[],u=>exact u.o.ey.elim
    |[_],u=>exact u.o.ey.2.elim
    |q::p::sv,u=>
     obtain ⟨g,t,rfl,rfl,G,e0,e1⟩:=u.o.O0;obtain ⟨X,T,Y⟩:=q;obtain ⟨pa,pm,pc⟩:=p;have ae:=u.o.ey.1;have ad:=u.o.ey.2.1;have N:=ae.size;have aN:=ad.size;have al:Fm.size y1+Fm.size y2<=i:=by have:=aA.o;have e:bm (y2::y1::r)=Fm.size y2+(Fm.size y1+bm r):=rfl;omega
     have HY:Hid (eh z):=ay (u.o.ok y1 ZS) (u.o.ok y2 ZS);have HC:Hid (∀W,Below A.heap.size A W->CL 105 #[IV (Fm.aH x).1,SL pa pm pc,SL X T Y] W (aL W (λk=>k≠g) (Fm.bN z))):=λW hb=>by rw [hz];exact L5 _ ar pa pm pc X T Y _ _ W (ad.2.2.1.ag hb) (ae.2.2.1.ag hb) (xC (u.o.ok y1 ZS)) (xC (u.o.ok y2 ZS)) (by simp only at N aN;omega) ad.1 ad.2.1 ae.1 ae.2.1 _ (λb o e e2=>ad.2.2.2 b o e (by rw [e2];rfl)) (λb o e e2=>ae.2.2.2 b o e (by rw [e2];rfl))
     change A.cell? (AD g (t+1))=some (SL X T Y)at e0;change A.cell? (AD g t)=some (SL pa pm pc)at e1;have t1:=B 1 C;have t2:=B 2 h2;have t3:=B 3 h3;have t4:=B 4 h4;have t8:=B 8 h8;clear d V hx aa ae ad N aN al hz ay ax B C h2 h3 h4 h8 ar aq;generalize (Fm.aH x).1=Z at *;generalize nn=a3 at *;have b1:t+1<=sc:=ZO;have b2:(t:Int)<=sc:=ZO;have b3:(0:Int)<=t:=ZO;have b4:(t:Int)<t+2:=ZO;have b5:(t:Int)+1<(t:Int)+2:=ZO;have b6:(0:Int)<=t+1:=ZO;have b7:t<t+2:=ZO;have b8:t+1<t+2:=ZO;have u1:IntKind.i64.wrap (t:Int)=t:=Ql _ ZO;have u2:IntKind.i64.wrap ((t:Int)+2-2)=(t:Int):=by rw [Sa];exact u1
     have u3:IntKind.i64.wrap ((t:Int)+1)=(t:Int)+1:=Ql _ ZO;have u4:IntKind.i64.wrap ((t:Int)+2-1)=(t:Int)+1:=by rw [show(t:Int)+2-1=(t:Int)+1 from by omega];exact u3
     have aH:Hid (∀W I R J F,Below A.heap.size A W->aL W (λk=>k≠g) (Fm.bN z) (RT (SL I R J)) F->Sl F 148 (SV g t sc) t ((sv.map jW).reverse)/\Hid (Below A.heap.size A F)/\
      ∀g1 c1 w4,Sl w4 148 (SV g1 (t+1) c1) (t+1) ((sv.map jW).reverse++[SL I R J])->aj (λk=>(SV g t sc).ownBlock=some k) F w4->((SV g t sc).ownBlock=some g1\/F.heap.size<=g1)->
       Hid (SI w w4 f (i+1) (SV g1 (t+1) c1) (z::r) ((I,R,J)::sv))):=λW I R J F hb C=>
      ⟨u.o.cut (af hb C.ag),O8 (af hb C.ag),λg1 c1 w4 h4 hk hm=>O8 (u.o.two (af hb C.ag) (fw.o C (λb e=>by cases e;exact ⟨Ps G hb.size,λh=>h rfl⟩)) HY.o h4 hk hm O.o)⟩
     go_upto_region 9 with(fail);refine aw 16 (S:=λW=>W.cell? (AD qn 0)=some (IV Z)/\W.cell? (AD g (t+1))=some (SL X T Y)/\W.cell? (AD g t)=some (SL pa pm pc)) ZK (⟨d0,e0,e1⟩) (λaC=>?_);refine' aS (i:=0) (v:=_) rfl ZK (λ_ _ _ h=>h) (Or.inl ⟨by rfl,?hy0⟩) (by assumption) ?rest0;case hy0=>(intro w' aD;go_simp;(try with_reducible rfl))
     try walk_nrm
     refine' aS (i:=1) (v:=_) rfl ZK (λ_ _ _ h=>h) (Or.inl ⟨by rfl,?hy1⟩) (by assumption) ?rest1;case hy1=>(intro w' aD;go_simp;(try with_reducible rfl))
     try walk_nrm
     refine' aS (i:=2) (v:=_) rfl ZK (λ_ _ _ h=>h) (Or.inl ⟨by rfl,?hy2⟩) (by assumption) ?rest2;case hy2=>(intro w' aD;go_simp;(try with_reducible rfl))
     try walk_nrm
     refine' aS (i:=3) (v:=_) rfl ZK (λ_ _ _ h=>h) (Or.inl ⟨by rfl,?hy3⟩) (by assumption) ?rest3;case hy3=>(intro w' aD;go_simp;(try with_reducible rfl))
     try walk_nrm
     refine aB 4 ?_ [5,4];refine aB 5 ?_;refine aB 6 ?_ [10,9,6];refine aB 7 ?_ [10,9,8,7];refine aB 8 ?_ [10,9,8];refine aB 9 ?_ [10,9];refine aB 10 ?_;refine aB 11 ?_ [15,14,11];refine aB 12 ?_ [15,14,13,12];refine aB 13 ?_ [15,14,13];refine aB 14 ?_ [15,14];refine aB 15 ?_;clear aC;have H0:Hid (Below A.heap.size A A.drew):=(Pn _ _).drew;refine aK 16 λK hK=>?_;go_simp;go_at_call 105;refine (HC.o _ H0.o).mono ?_;rintro e F C;obtain ⟨I,R,J,rfl⟩:=C.shape;have⟨hcut,a1,aM⟩:=aH.o _ _ _ _ _ H0.o C;have aF:=O8 hcut;have aU:=O8 aM;clear C hcut aM;refine hK.q ?_;clear hK K;refine aK 17 λK hK=>?_;go_simp;refine hK.q ?_;clear hK K;refine aK 18 λK hK=>?_;refine uE rfl (.tmp 23) (.tmp 37) 147 rfl 148 ab (SN) 24 underlying147 hi hz ap ao rfl ZD F (SL I R J) rfl rfl (SV g t sc) t _ rfl aF.o rfl ZO ?_;intro g1 c1 w4 hs L M;have HN:=aU.o _ _ _ hs L M;clear hs L M;refine hK.q ?_;clear hK K;refine aK 19 λK hK=>?_;go_simp;refine hK.q ?_;clear hK K;refine az ZK ?_;go_wp2;go_roundw;exact ⟨i+1,ZO,ZN,_,_,_,_,_,rfl,HN⟩;simp [intOf];omega
  ·obtain rfl:i=n:=ZO;have aY:st=[f]:=LO (ZR ai.o hw.o.run)
   subst aY;match sv,hw with
   |[],hw=>exact hw.o.ey.elim
   |q::sv,hw=>
    obtain ⟨g,t,rfl,rfl,G,e0,f0⟩:=hw.o.OG;obtain rfl:t=0:=by have:=an.o;simp at this;exact this
    obtain ⟨X,T,Y⟩:=q;have D:=hw.o.ey.1;have N:=D.size;have HC:=O8 (Dw X T Y _ wr D.2.2.1 (by have:=ai.o;simp only at N;omega));change wr.cell? (AD g 0)=some (SL X T Y)at e0;have aG:=O8 hw.o.aJ;clear D N hw;go_wp2_with (go_at_call 106;apply HC.o.mono;rintro e F ⟨I,J,rfl,hm⟩;have HM:=O8 hm;clear hm);go_ret;exact ⟨I,T,J,rfl,HM.o.from aG.o⟩
def dx{w:WD}{B e a v n k}(h:w.ownsRow B e a v n k):∀g,v.ownBlock=some g->g<w.heap.size:=λg b=>by obtain ⟨i,-⟩|⟨l,d,f,rfl,m,j,c⟩:=h.2;subst i;cases b;cases b;exact (Pb.1 j).1
def bP.later{w a c v n F}(h:bP w a v n F)(b:BW a c):bP w c v n F:=
 ⟨bp h.cO (aj.aC b) (λg e s=>QE _ (Ps (dx h.cO g e) s)),h.bA,af h.aJ b,h.dJ⟩
def Fg:Value->Nat
 | .slice _ n _=>n
 |_=>0
structure mX (n:Nat) (f g:Fm):Prop where
 gR:Fm.gR g
 ok:eh g
 size:Fm.size g<=n
 cR:∀u i,Fm.cR u g i↔Fm.cR u f i
def mX.bN{n f g}(h:mX n f g):mX n f (Fm.bN g):=
 ⟨Fm.JL g h.gR,xC h.ok,PG (Fm.oe g).1 h.size,λu i=>(Fm.JM u g i).trans (h.cR u i)⟩
def Lx{g}(h:¬Fm.enc g=Fm.enc (Fm.bN g)):Fm.size (Fm.bN g)<Fm.size g:=by have⟨b,c⟩:=Fm.oe g;obtain a|a:=Re (Fm.size (Fm.bN g)) (Fm.size g);exact a;exact absurd (by rw [c (Uh b a)]) h
def Ek(a n c f w)(h:FA w a n f)(J:Fm.gR f)(t:eh f)(N:n<=1000):
 CL 41 #[SL a n c] w λe L=>∃l m o g,e=RT (SL l m o)/\bP w L (SL l m o) m (Fm.enc g)/\mX n f g:=by
 have k:=O8 (Cs a n c f w h J t N)
 have G:Hid (mX n f (Fm.bN f)):=mX.bN ⟨J,t,by rw [h.size];exact Pf _,λu i=>RE⟩
 clear h J t
 go_enter func41,ntmps41
 go_wp2_with (go_at_call 73;apply k.o.mono;rintro e s ⟨p,j,q,rfl,r⟩;have F:=O8 r;clear r)
 go_loopw [3] (λv wr=>∃l m o g,v=SL l m o/\m<=n/\Hid (bP w wr (SL l m o) m (Fm.enc g))/\Hid (mX n f g)) (λv _=>Fg v)
 exact ⟨p,j,q,_,rfl,by have:=G.o.size;have d:=F.o.bA;rw [Fm.dt]at d;omega,F,G⟩
 clear k F G
 obtain ⟨l,m,o,g,rfl,M,r,B⟩:=hrel
 have k:=O8 (Cs l m o g wr r.o.ak B.o.gR B.o.ok ZO)
 have b:Hid (∀s p j q,bP wr s (SL p j q) j (Fm.enc (Fm.bN g))->j<=m/\CL 74 #[SL l m o,SL p j q] s λe L=>e=RT (.bool (decide (Fm.enc g=Fm.enc (Fm.bN g))))/\BW s L):=λs p j q d=>by have H:=r.o.bA;have I:=d.bA;rw [Fm.dt]at H I;have P:=(Fm.oe g).1;have:j<=m:=ZO;exact ⟨this,Lb l m o _ p j q _ s (r.o.ak.ag d.aJ) d.ak ZO ZO⟩
 by_cases z:Fm.enc g=Fm.enc (Fm.bN g)
 ·rw [PX z]at b;clear z
  go_wp2_with (first
   |(go_at_call 73;apply k.o.mono;rintro e s ⟨p,j,q,rfl,d⟩;have⟨K,y⟩:=b.o _ _ _ _ d;have D:=O8 y;have A:=O8 d;clear d y b)
   |(go_at_call 74;apply D.o.mono;rintro e O ⟨rfl,x⟩;have C:=O8 x;clear x))
  go_ret;exact ⟨l,m,o,g,rfl,bP.later (r.o) (af A.o.aJ C.o),B.o⟩
 ·rw [PH z]at b;have E:=O8 (Lx z)
  clear z;go_wp2_with (first
   |(go_at_call 73;apply k.o.mono;rintro e s ⟨p,j,q,rfl,d⟩;have⟨K,y⟩:=b.o _ _ _ _ d;have D:=O8 y;have A:=O8 d;clear d y b)
   |(go_at_call 74;apply D.o.mono;rintro e O ⟨rfl,x⟩;have C:=O8 x;clear x))
  go_roundw;case rel=>exact ⟨p,j,q,Fm.bN g,rfl,ZO,O8 (bP.later (A.o.from r.o.aJ) C.o),O8 B.o.bN⟩
  case measure=>have H:=r.o.bA;have I:=A.o.bA;rw [Fm.dt]at H I;have:=E.o;simp [Fg];omega
end Go.Proofs.YtimniinkpipnmaaGreatDoor
namespace Go.Own
open Go.RowKit
def Sq:=@Nat.mod_eq_of_lt
def UI:=@Nat.mod_lt
def US:=@Nat.add_zero
theorem nj{R:Nat->Nat->Prop}{S:Nat->Nat->Nat->Prop}{p0}(g:R 0 p0)(d:∀i p,R i p->∃f,S i p f/\R (i+1) f):∃p:Nat->Nat,p 0=p0/\∀i,R i (p i)/\S i (p i) (p (i+1)):=by
 let c:={x:Nat×Nat//R x.1 x.2};let j:c->c:=λx=>⟨(x.1.1+1,Classical.choose (d x.1.1 x.1.2 x.2)),(SA (d x.1.1 x.1.2 x.2)).2⟩;let a:Nat->c:=λk=>Nat.rec ⟨(0,p0),g⟩ (λ_ x=>j x) k;have b:∀k,(a k).1.1=k:=by
  intro k;induction k with
  |zero=>rfl
  |succ k h=>show(a k).1.1+1=k+1;rw [h]
 refine ⟨λk=>(a k).1.2,rfl,λi=>⟨?_,?_⟩⟩;have:=(a i).2;rwa [b i]at this;have e:S (a i).1.1 (a i).1.2 (a (i+1)).1.2:=(SA (d (a i).1.1 (a i).1.2 (a i).2)).1;rw [b i]at e;exact e
structure me (A B:Au) (q p:Nat):Prop where
 lt:p<B.ak.length
 need:∀k,(B.ay p).need.testBit k=true->(A.ay q).need.testBit k=true
 ban:∀k,(B.ay p).ban.testBit k=true->(A.ay q).ban.testBit k=true
 inn:∀s,s<A.sets->(A.ay q).inn.testBit s=true->(B.ay p).inn.testBit s=true
theorem GN{A B u r}(h:OD A u r)(q:B.sets=A.sets)(R:Nat->Nat->Prop)(hw:∀i p,R (r i) p->me A B (r i) p)
 (l:∃p∈B.aP,R (r 0) p) (a:∀i p,R (r i) p->∃b∈(B.ay p).tO,R (r (i+1)) b):lY B u:=by
 obtain ⟨x,f,d⟩:=l
 obtain ⟨p,g,c⟩:=nj (R:=λi p=>R (r i) p) (S:=λ_ p b=>b∈(B.ay p).tO) d (λi p o=>by obtain ⟨b,m,n⟩:=a i p o;exact ⟨b,m,n⟩)
 refine ⟨p,by rw [g];exact f,λi=>(hw i _ (c i).1).lt,λi=>(c i).2,λi k=>?_,λs a i=>?_⟩
 have w:=hw i _ (c i).1
 exact ⟨λe=>(h.rd i k).1 (w.need k e),λe=>(h.rd i k).2 (w.ban k e)⟩
 rw [q]at a
 obtain ⟨j,v,t⟩:=h.r7 s a i
 exact ⟨j,v,(hw j _ (c j).1).inn s a t⟩
def gQ(A:Au)(q t:Nat):Nat:=if 0<A.sets/\(A.ay q).inn.testBit t=true then(t+1)%A.sets else t
structure NK (A D:Au)where
 nd:Nat->Nat
 tn:Nat->Nat
 sets:D.sets=1
 lt:∀n,n<D.ak.length->nd n<A.ak.length
 need:∀n,n<D.ak.length->(D.ay n).need=(A.ay (nd n)).need
 ban:∀n,n<D.ak.length->(D.ay n).ban=(A.ay (nd n)).ban
 aP:∀n∈D.aP,n<D.ak.length/\tn n=0/\nd n∈A.aP
 ir:∀q∈A.aP,∃n∈D.aP,nd n=q/\tn n=0
 tO:∀n,n<D.ak.length->∀m∈(D.ay n).tO,m<D.ak.length/\nd m∈(A.ay (nd n)).tO/\tn m=gQ A (nd n) (tn n)
 nQ:∀n,n<D.ak.length->∀q∈(A.ay (nd n)).tO,∃m∈(D.ay n).tO,nd m=q/\tn m=gQ A (nd n) (tn n)
 inn:∀n,n<D.ak.length->((D.ay n).inn.testBit 0=true↔(A.sets=0\/(tn n=0/\(A.ay (nd n)).inn.testBit 0=true)))
theorem CW{A}{r t:Nat->Nat}(l:∀i,t (i+1)=gQ A (r i) (t i))(k:∀s,s<A.sets->∀i,∃j,i<=j/\(A.ay (r j)).inn.testBit s=true)(i)(g:t i<A.sets):
 ∃j,i<=j/\t j=t i/\(A.ay (r j)).inn.testBit (t i)=true:=by
 obtain ⟨c,d,b⟩:=k (t i) g i
 have f:∀m,(∃j,i<=j/\t j=t i/\(A.ay (r j)).inn.testBit (t i)=true)\/t (i+m)=t i:=by
  intro m;induction m with
  |zero=>exact .inr rfl
  |succ m n=>rcases n with h|h;exact .inl h;by_cases b:(A.ay (r (i+m))).inn.testBit (t i)=true;exact .inl ⟨i+m,by omega,h,b⟩;right;have a:=l (i+m);rw [h]at a;unfold gQ at a;rw [if_neg (λh=>b h.2)]at a;exact a
 rcases f (c-i)with h|h
 exact h
 have e:i+(c-i)=c:=by omega
 rw [e]at h
 exact ⟨c,d,h,b⟩
theorem qy{A}{r t:Nat->Nat}(a:0<A.sets)(b:t 0=0)(c:∀i,t (i+1)=gQ A (r i) (t i)):∀i,t i<A.sets
 |0=>by rw [b];exact a
 |i+1=>by rw [c i];unfold gQ;split;exact UI _ a;exact qy a b c i
theorem Ab{A}{r t:Nat->Nat}(c:0<A.sets)(f:t 0=0)(a:∀i,t (i+1)=gQ A (r i) (t i))(g:∀s,s<A.sets->∀i,∃j,i<=j/\(A.ay (r j)).inn.testBit s=true):
 ∀d i,t i+d=A.sets->∃j,i<=j/\t j=0
 |0,i,h=>by have:=qy c f a i;omega
 |d+1,i,h=>by
  obtain ⟨j,q,e,m⟩:=CW a g i (qy c f a i);have b:=a j;unfold gQ at b;rw [e,if_pos ⟨c,m⟩]at b;by_cases p:d=0;refine ⟨j+1,by omega,?_⟩;have l:t i+1=A.sets:=by omega
  rw [b,l,Nat.mod_self];rw [Sq (by omega)]at b;obtain ⟨o,n,k⟩:=Ab c f a g d (j+1) (by omega);exact ⟨o,by omega,k⟩
theorem K9{A D}(G:NK A D)(u):lY D u↔lY A u:=by
 constructor;rintro ⟨n,R⟩;refine ⟨λi=>G.nd (n i),(G.aP _ R.aM).2.2,λi=>G.lt _ (R.lt i),λi=>(G.tO _ (R.lt i) _ (R.step i)).2.1,λi=>?_,λs w i=>?_⟩;have:=R.rd i;rwa [G.need _ (R.lt i),G.ban _ (R.lt i)]at this;have g:0<A.sets:=by omega
 have U:=R.r7 0 (by rw [G.sets];omega);have o:∀i,∃j,i<=j/\G.tn (n j)=0/\(A.ay (G.nd (n j))).inn.testBit 0=true:=λi=>by obtain ⟨j,C,a⟩:=U i;rw [G.inn _ (R.lt j)]at a;rcases a with a|a;omega;exact ⟨j,C,a⟩
 have f:∀i,G.tn (n (i+1))=gQ A (G.nd (n i)) (G.tn (n i)):=λi=>(G.tO _ (R.lt i) _ (R.step i)).2.2;refine QB λO=>?_;have v:∀j,i<=j->¬(A.ay (G.nd (n j))).inn.testBit s=true:=λj C a=>O ⟨j,C,a⟩;obtain ⟨b,E,z,l⟩:=o i;have y:s≠0:=λe=>by subst e;exact v b E l
 have H:∀m,1<=G.tn (n (b+1+m))/\G.tn (n (b+1+m))<=s:=by
  intro m;induction m with
  |zero=>have c:=f b;unfold gQ at c;rw [z,if_pos ⟨g,l⟩,Sq (by omega)]at c;rw [US,c];omega
  |succ m Y=>
   have c:=f (b+1+m);have e:b+1+m+1=b+1+(m+1):=by omega
   rw [e]at c;unfold gQ at c;split at c;rename_i a;have T:G.tn (n (b+1+m))≠s:=λe=>by have B:=a.2;rw [e]at B;exact v _ (by omega) B
   rw [Sq (by omega)]at c;omega;omega
 obtain ⟨F,P,I,_⟩:=o (b+1);have:=(H (F-(b+1))).1;have e:b+1+(F-(b+1))=F:=by omega
 rw [e]at this;omega;rintro ⟨r,R⟩;let t:Nat->Nat:=λi=>Nat.rec 0 (λi x=>gQ A (r i) x) i;have h:t 0=0:=rfl;have f:∀i,t (i+1)=gQ A (r i) (t i):=λ_=>rfl;obtain ⟨V,q,L,M⟩:=G.ir _ R.aM;obtain ⟨n,K,d⟩:=nj (R:=λi p=>p<D.ak.length/\G.nd p=r i/\G.tn p=t i) (S:=λ_ p W=>W∈(D.ay p).tO) (p0:=V) ⟨(G.aP _ q).1,L,M⟩
  (λi p ⟨z,l,c⟩=>by have w:=R.step i;rw [<-l]at w;obtain ⟨m,J,I,B⟩:=G.nQ p z _ w;exact ⟨m,J,(G.tO p z m J).1,I,by rw [B,f,l,c]⟩)
 refine ⟨n,by rw [K];exact q,λi=>(d i).1.1,λi=>(d i).2,λi=>?_,λs w i=>?_⟩;rw [G.need _ (d i).1.1,G.ban _ (d i).1.1,(d i).1.2.1];exact R.rd i;rw [G.sets]at w;have y:s=0:=by omega
 subst y;by_cases g:A.sets=0;exact ⟨i,Rt _,(G.inn _ (d i).1.1).2 (.inl g)⟩;have g:0<A.sets:=by omega
 have Q:=qy g h f i;obtain ⟨j,C,e⟩:=Ab g h f R.r7 (A.sets-t i) i (by omega);obtain ⟨k,X,N,a⟩:=CW f R.r7 j (qy g h f j);refine ⟨k,by omega,(G.inn _ (d k).1.1).2 (.inr ⟨by rw [(d k).1.2.2,N,e],?_⟩)⟩;rw [(d k).1.2.1];rw [e]at a;exact a
def U8:=@List.mem_filter
structure Valid (A:Au):Prop where
 aP:∀q∈A.aP,q<A.ak.length
 tO:∀n,n<A.ak.length->∀q∈(A.ay n).tO,q<A.ak.length
theorem me.refl{A q}(h:q<A.ak.length):me A A q q:=⟨h,λ_ h=>h,λ_ h=>h,λ_ _ h=>h⟩
theorem me.trans{A B C q p x}(h:me A B q p)(k:me B C p x)(d:A.sets<=B.sets):me A C q x:=
 ⟨k.lt,λb a=>h.need b (k.need b a),λb a=>h.ban b (k.ban b a),λs c a=>k.inn s (by omega) (h.inn s c a)⟩
structure OE (A:Au) (R:Nat->Nat->Prop):Prop where
 uG:∀q p,R q p->q<A.ak.length/\me A A q p
 step:∀q p,R q p->∀t∈(A.ay q).tO,∃v∈(A.ay p).tO,R t v
structure lj (A:Au) (R:Nat->Nat->Prop):Prop extends OE A R where
 all:∀a,OE A a->∀q p,a q p->R q p
theorem lj.refl{A R}(h:lj A R)(g:Valid A){q}(f:q<A.ak.length):R q q:=
 h.all (λa b=>a=b/\a<A.ak.length) ⟨λq p ⟨e,c⟩=>by subst e;exact ⟨c,me.refl c⟩,λq p ⟨e,c⟩ t d=>by subst e;exact ⟨t,d,rfl,g.tO q c t d⟩⟩ q q ⟨rfl,f⟩
theorem lj.trans{A R}(h:lj A R){a b c}(f:R a b)(g:R b c):R a c:=
 h.all (λx z=>∃y,R x y/\R y z) ⟨λq p ⟨y,d,e⟩=>⟨(h.uG q y d).1,(h.uG q y d).2.trans (h.uG y p e).2 (Rt _)⟩,λq p ⟨y,d,e⟩ t i=>by obtain ⟨v,j,l⟩:=h.step q y d t i;obtain ⟨x,k,m⟩:=h.step y p e v j;exact ⟨x,k,v,l,m⟩⟩ a c ⟨b,f,g⟩
structure Di (A P:Au) (R:Nat->Nat->Prop):Prop where
 sets:P.sets=A.sets
 bA:P.ak.length=A.ak.length
 need:∀n,(P.ay n).need=(A.ay n).need
 ban:∀n,(P.ay n).ban=(A.ay n).ban
 inn:∀n,(P.ay n).inn=(A.ay n).inn
 aP:∀q∈P.aP,q∈A.aP
 ir:∀q∈A.aP,∃p∈P.aP,R q p
 tO:∀n,n<A.ak.length->∀q∈(P.ay n).tO,q∈(A.ay n).tO
 nQ:∀n,n<A.ak.length->∀q∈(A.ay n).tO,∃p∈(P.ay n).tO,R q p
theorem Ed{A P R}(h:Di A P R)(c:lj A R)(u):lY P u↔lY A u:=by constructor;rintro ⟨r,b⟩;refine GN b h.sets.symm (λq p=>p=q) (λi p e=>?_) ⟨_,h.aP _ b.aM,rfl⟩ (λi p e=>?_);subst e;have:=b.lt i;rw [h.bA]at this;exact ⟨this,λk a=>by rw [h.need];exact a,λk a=>by rw [h.ban];exact a,λs _ a=>by rw [<-h.inn];exact a⟩;subst e;have:=b.lt i;rw [h.bA]at this;exact ⟨_,h.tO _ this _ (b.step i),rfl⟩;rintro ⟨r,b⟩;refine GN b h.sets R (λi p e=>?_) (h.ir _ b.aM) (λi p e=>?_);have w:=(c.uG _ _ e).2;exact ⟨by rw [h.bA];exact w.lt,λk a=>w.need k (by rw [<-h.need];exact a),λk a=>w.ban k (by rw [<-h.ban];exact a),λs d a=>by rw [h.inn];exact w.inn s d a⟩;obtain ⟨v,f,j⟩:=c.step _ _ e _ (b.step i);obtain ⟨x,g,l⟩:=h.nQ p (c.uG _ _ e).2.lt v f;exact ⟨x,g,c.trans j l⟩
structure Df (A M:Au) (R:Nat->Nat->Prop) (aW ax:Nat->Nat):Prop where
 sets:M.sets=A.sets
 xo:∀p,p<M.ak.length->ax p<A.ak.length
 need:∀p,p<M.ak.length->(M.ay p).need=(A.ay (ax p)).need
 ban:∀p,p<M.ak.length->(M.ay p).ban=(A.ay (ax p)).ban
 inn:∀p,p<M.ak.length->(M.ay p).inn=(A.ay (ax p)).inn
 rep:∀q,q<A.ak.length->aW q<M.ak.length/\R q (ax (aW q))/\R (ax (aW q)) q
 aP:∀p∈M.aP,∃q∈A.aP,aW q=p
 ir:∀q∈A.aP,aW q∈M.aP
 tO:∀n,n<M.ak.length->∀p∈(M.ay n).tO,∃q∈(A.ay (ax n)).tO,aW q=p
 nQ:∀n,n<M.ak.length->∀q∈(A.ay (ax n)).tO,aW q∈(M.ay n).tO
theorem D0{A M R n d}(h:Df A M R n d)(g:lj A R)(m:Valid A)(u):lY M u↔lY A u:=by constructor;rintro ⟨r,c⟩;refine GN c h.sets.symm (λp q=>p<M.ak.length/\R (d p) q) (λi p e=>?_) ?_ (λi p e=>?_);obtain ⟨a,e⟩:=e;have w:=(g.uG _ _ e).2;exact ⟨w.lt,λk b=>by rw [h.need _ a];exact w.need k b,λk b=>by rw [h.ban _ a];exact w.ban k b,λs l b=>w.inn s (by rw [<-h.sets];exact l) (by rw [<-h.inn _ a];exact b)⟩;obtain ⟨q,o,e⟩:=h.aP _ c.aM;exact ⟨q,o,c.lt 0,by rw [<-e];exact (h.rep q (m.aP q o)).2.2⟩;obtain ⟨a,e⟩:=e;obtain ⟨t,x,y⟩:=h.tO _ a _ (c.step i);obtain ⟨v,f,k⟩:=g.step _ _ e t x;exact ⟨v,f,c.lt (i+1),g.trans (by rw [<-y];exact (h.rep t (m.tO _ (h.xo _ a) t x)).2.2) k⟩;rintro ⟨r,c⟩;refine GN c h.sets (λq p=>p<M.ak.length/\R q (d p)) (λi p e=>?_) ?_ (λi p e=>?_);obtain ⟨a,e⟩:=e;have w:=(g.uG _ _ e).2;exact ⟨a,λk b=>w.need k (by rw [<-h.need _ a];exact b),λk b=>w.ban k (by rw [<-h.ban _ a];exact b),λs l b=>by rw [h.inn _ a];exact w.inn s l b⟩;exact ⟨_,h.ir _ c.aM,(h.rep _ (c.lt 0)).1,(h.rep _ (c.lt 0)).2.1⟩;obtain ⟨a,e⟩:=e;obtain ⟨v,f,k⟩:=g.step _ _ e _ (c.step i);have j:=m.tO _ (h.xo _ a) v f;exact ⟨_,h.nQ _ a v f,(h.rep v j).1,g.trans k (h.rep v j).2.1⟩
theorem nr{α:Type}{p q}(h:∀x,p x=true->q x=true):∀(l:List α),(∃x∈l,q x=true/\p x=false)->(l.filter p).length<(l.filter q).length
 |[],⟨_,h,_⟩=>by cases h
 |a::l,⟨x,i,j,k⟩=>by
  have g:∀l:List α,(l.filter p).length<=(l.filter q).length:=by
   intro l;induction l with
   |nil=>simp
   |cons b l f=>by_cases c:p b=true;simp [c,h b c,f];by_cases d:q b=true;simp [c,d];omega;simp [c,d,f]
  rcases List.mem_cons.1 i with e|i;subst e;have:=g l;simp [j,k];omega;have f:=nr h l ⟨x,i,j,k⟩;by_cases c:p a=true;simp [c,h a c];exact f;by_cases d:q a=true;simp [c,d];omega;simp [c,d];exact f
theorem Kt{lt:Nat->Nat->Bool}(f:∀a b c,lt a b=true->lt b c=true->lt a c=true)(i:∀a,lt a a=false)(l:List Nat):
 ∀m t,(l.filter (lt t)).length<=m->t∈l->∃v∈l,(v=t\/lt t v=true)/\∀x∈l,lt v x=false
 |0,t,s,k=>by refine ⟨t,k,.inl rfl,λx g=>?_⟩;by_cases h:lt t x=true;have:x∈l.filter (lt t):=U8.2 ⟨g,h⟩;have o:l.filter (lt t)=[]:=List.eq_nil_of_length_eq_zero (by omega);rw [o]at this;cases this;simpa using h
 |m+1,t,s,k=>by by_cases h:∃x∈l,lt t x=true;obtain ⟨x,g,d⟩:=h;have z:=nr (p:=lt x) (q:=lt t) (λy w=>f t x y d w) l ⟨x,g,d,i x⟩;obtain ⟨v,u,j,r⟩:=Kt f i l m x (by omega) g;refine ⟨v,u,.inr ?_,r⟩;rcases j with e|j;subst e;exact d;exact f _ _ _ d j;refine ⟨t,k,.inl rfl,λx g=>?_⟩;by_cases n:lt t x=true;exact absurd ⟨x,g,n⟩ h;simpa using n
def je(r:Nat->Nat->Bool)(a:Nat->Nat)(t v:Nat):Bool:=decide (v≠t)&&(r t v&&(!r v t||decide (a v<a t)))
theorem Jw{r idx}(g:∀t,r t t=true)(i:∀a b c,r a b=true->r b c=true->r a c=true)(l:List Nat)(t)(s:t∈l):
 ∃v∈l,(∀x∈l,je r idx v x=false)/\r t v=true:=by
 have j:∀a b,je r idx a b=true↔(b≠a/\r a b=true/\(r b a=true->idx b<idx a)):=λa b=>by unfold je;simp only [RO,QP,Qw,RD];constructor;rintro ⟨f,d,k⟩;exact ⟨f,d,λo=>k.elim (λh=>by rw [h]at o;cases o) id⟩;rintro ⟨f,d,k⟩;refine ⟨f,d,?_⟩;by_cases h:r b a=true;exact .inr (k h);exact .inl (by simpa using h)
 obtain ⟨v,u,f,d⟩:=Kt (lt:=je r idx) (λa b c m n=>by
  rw [j]at m n⊢;obtain ⟨f,d,k⟩:=m;obtain ⟨o,p,q⟩:=n;refine ⟨λe=>?_,i _ _ _ d p,λh=>?_⟩;subst e;have:=k p;have:=q d;omega;have:=k (i _ _ _ p h);have:=q (i _ _ _ h d);omega) (λa=>by
  by_cases h:je r idx a a=true;exact absurd rfl ((j a a).1 h).1;simpa using h) l _ t (Rt _) s
 refine ⟨v,u,d,?_⟩
 rcases f with e|f
 subst e;exact g _
 exact ((j _ _).1 f).2.1
section
open Fm
def Qp:=@List.length_range
def Rn:=@Nat.zero_testBit
def RM:=@Nat.testBit_and
def RQ:=@List.mem_cons_of_mem
def SM:=@Nat.eq_of_testBit_eq
def T6:=@List.mem_flatMap
def Us:=@Nat.testBit_two_pow
structure Wy where
 need:Nat
 ban:Nat
 bw:Nat->Bool
 next:Nat->Bool
 bQ:List Nat
def Wy.dw(w:Wy)(l:List Nat):Wy:={w with bQ:=l++w.bQ}
def Wy.ji(w:Wy)(p:Nat):Wy:={w with next:=up w.next p true}
def Wy.dI(w:Wy)(p:Nat):Wy:={w with bw:=up w.bw p true}
def Wy.kQ(w:Wy)(n:Nat):Wy:={w with need:=w.need|||2^n}
def Wy.pQ(w:Wy)(n:Nat):Wy:={w with ban:=w.ban|||2^n}
def Wy.pure(w:Wy):List Wy:=if w.need&&&w.ban=0 then [w]else []
def split(x:Fm)(p:Nat)(w:Wy):List Wy:=
 match x with
 |tt=>[w]
 |Fm.prop n=>(w.kQ n).pure
 |neg (Fm.prop n)=>(w.pQ n).pure
 |Fm.and _ b=>[w.dw [p-1-size b,p-1]]
 |Fm.or _ b=>[w.dw [p-1-size b],w.dw [p-1]]
 |Fm.cy _=>[w.ji (p-1)]
 |Fm.dA _ b=>[w.dw [p-1],(w.dw [p-1-size b]).ji p]
 |Fm.rel _ b=>[w.dw [p-1-size b,p-1],(w.dw [p-1]).ji p]
 |_=>[]
def iC(a:Nat->Bool):List Nat->List Nat
 |[]=>[]
 |p::r=>if a p=true then iC a r else p::r
def eH(f:Fm):Nat->Wy->List Wy
 |0,_=>[]
 |m+1,w=>
  match iC w.bw w.bQ with
  |[]=>[{w with bQ:=[]}]
  |p::r=>
   match(aI f)[p]? with
   |some x=>(split x p (Wy.dI {w with bQ:=r} p)).flatMap (eH f m)
   |none=>[]
def bH(n:Nat)(w:Wy):Mi:=⟨w.need,w.ban,(List.range n).filter w.next,(List.range n).filter w.bw⟩
theorem gz{n w p}:p∈(bH n w).bw↔p<n/\w.bw p=true:=by unfold bH;rw [U8,List.mem_range]
theorem jf{n w p}:p∈(bH n w).next↔p<n/\w.next p=true:=by unfold bH;rw [U8,List.mem_range]
structure Ob (f:Fm) (need ban:Nat) (N X:Nat->Prop) (p:Nat):Prop where
 ff:¬At f p ff
 prop:∀n,At f p (Fm.prop n)->need.testBit n=true
 neg:∀n,At f p (neg (Fm.prop n))->ban.testBit n=true
 and:∀a b,At f p (Fm.and a b)->N (p-1)/\N (p-1-size b)
 or:∀a b,At f p (Fm.or a b)->N (p-1)\/N (p-1-size b)
 cy:∀a,At f p (Fm.cy a)->X (p-1)
 dA:∀a b,At f p (Fm.dA a b)->N (p-1)\/(N (p-1-size b)/\X p)
 rel:∀a b,At f p (Fm.rel a b)->N (p-1)/\(N (p-1-size b)\/X p)
theorem Ob.mono{f i j c e N X o r p}(h:Ob f i j N X p)(s:∀k,i.testBit k=true->c.testBit k=true)(t:∀k,j.testBit k=true->e.testBit k=true)
 (g:∀q,N q->o q) (l:∀q,X q->r q):Ob f c e o r p:=
 ⟨h.ff,λn m=>s n (h.prop n m),λn m=>t n (h.neg n m),λa b d=>(h.and a b d).imp (g _) (g _),λa b d=>(h.or a b d).imp (g _) (g _),λa d=>l _ (h.cy a d),
  λa b d=>(h.dA a b d).imp (g _) (And.imp (g _) (l _)),λa b d=>(h.rel a b d).imp (g _) (Or.imp (g _) (l _))⟩
def Wy.N(w:Wy)(q:Nat):Prop:=w.bw q=true\/q∈w.bQ
def Wy.X(w:Wy)(q:Nat):Prop:=w.next q=true
structure Wy.Le (w c:Wy):Prop where
 need:∀k,w.need.testBit k=true->c.need.testBit k=true
 ban:∀k,w.ban.testBit k=true->c.ban.testBit k=true
 N:∀q,w.N q->c.N q
 X:∀q,w.X q->c.X q
 bw:c.bw=w.bw
theorem fq{a n k}:(a|||2^n).testBit k=true↔a.testBit k=true\/k=n:=by rw [Nat.testBit_or,Us];simp only [QP,Qw];exact or_congr RE eq_comm
theorem iw{w c:Wy}(h:c∈w.pure):c=w:=by unfold Wy.pure at h;split at h;exact Pc.1 h;cases h
theorem Wy.Le.refl(w:Wy):w.Le w:=⟨λ_ h=>h,λ_ h=>h,λ_ h=>h,λ_ h=>h,rfl⟩
theorem Wy.kO(w:Wy)(l):w.Le (w.dw l):=⟨λ_ h=>h,λ_ h=>h,λ_ h=>h.imp id (λh=>Qt _ h),λ_ h=>h,rfl⟩
theorem Wy.nG(w:Wy)(p):w.Le (w.ji p):=⟨λ_ h=>h,λ_ h=>h,λ_ h=>h,λq h=>by show up w.next p true q=true;by_cases e:q=p;subst e;exact aA _ _ _;rw [an _ _ _ _ e];exact h,rfl⟩
theorem Wy.Le.trans{a b c:Wy}(h:a.Le b)(k:b.Le c):a.Le c:=⟨λx y=>k.need x (h.need x y),λx y=>k.ban x (h.ban x y),λx y=>k.N x (h.N x y),λx y=>k.X x (h.X x y),k.bw.trans h.bw⟩
theorem kY{w:Wy}{l q}(h:q∈l):(w.dw l).N q:=.inr (P0 _ h)
theorem A5{w:Wy}{p}:(w.ji p).X p:=aA _ _ _
theorem Kh{f p x}(e:At f p x){w c}(h:c∈split x p w):w.Le c/\Ob f c.need c.ban c.N c.X p:=by
 have d:∀{y:Fm}{P:Prop},x≠y->At f p y->P:=λm o=>absurd (e.inj o) m;cases x with
 |tt=>obtain rfl:=Pc.1 h;exact ⟨.refl _,⟨λh=>(d (by simp) h:False),λn h=>d (by simp) h,λn h=>d (by simp) h,λa b h=>d (by simp) h,λa b h=>d (by simp) h,λa h=>d (by simp) h,λa b h=>d (by simp) h,λa b h=>d (by simp) h⟩⟩
 |ff=>cases h
 |prop n=>
  obtain rfl:=iw h;refine ⟨⟨λk g=>fq.2 (.inl g),λ_ h=>h,λ_ h=>h,λ_ h=>h,rfl⟩,⟨λh=>(d (by simp) h:False),λk g=>?_,λn h=>d (by simp) h,λa b h=>d (by simp) h,λa b h=>d (by simp) h,λa h=>d (by simp) h,λa b h=>d (by simp) h,λa b h=>d (by simp) h⟩⟩;have:=e.inj g;cases this
  exact fq.2 (.inr rfl)
 |neg a=>
  cases a with
  |prop n=>
   obtain rfl:=iw h;refine ⟨⟨λ_ h=>h,λk g=>fq.2 (.inl g),λ_ h=>h,λ_ h=>h,rfl⟩,⟨λh=>(d (by simp) h:False),λn h=>d (by simp) h,λk g=>?_,λa b h=>d (by simp) h,λa b h=>d (by simp) h,λa h=>d (by simp) h,λa b h=>d (by simp) h,λa b h=>d (by simp) h⟩⟩;have:=e.inj g;cases this
   exact fq.2 (.inr rfl)
  |_=>cases h
 |and a b=>obtain rfl:=Pc.1 h;refine ⟨Wy.kO _ _,⟨λh=>(d (by simp) h:False),λn h=>d (by simp) h,λn h=>d (by simp) h,λj l h=>?_,λa b h=>d (by simp) h,λa h=>d (by simp) h,λa b h=>d (by simp) h,λa b h=>d (by simp) h⟩⟩;have:=e.inj h;cases this;exact ⟨kY (by simp),kY (by simp)⟩
 |or a b=>refine ⟨?_,⟨λh=>(d (by simp) h:False),λn h=>d (by simp) h,λn h=>d (by simp) h,λa b h=>d (by simp) h,λj l i=>?_,λa h=>d (by simp) h,λa b h=>d (by simp) h,λa b h=>d (by simp) h⟩⟩;rcases PO.1 h with rfl|h;exact Wy.kO _ _;obtain rfl:=Pc.1 h;exact Wy.kO _ _;have:=e.inj i;cases this;rcases PO.1 h with rfl|h;exact .inr (kY (by simp));obtain rfl:=Pc.1 h;exact .inl (kY (by simp))
 |cy a=>obtain rfl:=Pc.1 h;refine ⟨Wy.nG _ _,⟨λh=>(d (by simp) h:False),λn h=>d (by simp) h,λn h=>d (by simp) h,λa b h=>d (by simp) h,λa b h=>d (by simp) h,λa h=>?_,λa b h=>d (by simp) h,λa b h=>d (by simp) h⟩⟩;have:=e.inj h;cases this;exact A5
 |dA a b=>refine ⟨?_,⟨λh=>(d (by simp) h:False),λn h=>d (by simp) h,λn h=>d (by simp) h,λa b h=>d (by simp) h,λa b h=>d (by simp) h,λa h=>d (by simp) h,λj l i=>?_,λa b h=>d (by simp) h⟩⟩;rcases PO.1 h with rfl|h;exact Wy.kO _ _;obtain rfl:=Pc.1 h;exact (Wy.kO _ _).trans (Wy.nG _ _);have:=e.inj i;cases this;rcases PO.1 h with rfl|h;exact .inl (kY (by simp));obtain rfl:=Pc.1 h;exact .inr ⟨(Wy.nG _ _).N _ (kY (by simp)),A5⟩
 |rel a b=>refine ⟨?_,⟨λh=>(d (by simp) h:False),λn h=>d (by simp) h,λn h=>d (by simp) h,λa b h=>d (by simp) h,λa b h=>d (by simp) h,λa h=>d (by simp) h,λa b h=>d (by simp) h,λj l i=>?_⟩⟩;rcases PO.1 h with rfl|h;exact Wy.kO _ _;obtain rfl:=Pc.1 h;exact (Wy.kO _ _).trans (Wy.nG _ _);have:=e.inj i;cases this;rcases PO.1 h with rfl|h;exact ⟨kY (by simp),.inl (kY (by simp))⟩;obtain rfl:=Pc.1 h;exact ⟨(Wy.nG _ _).N _ (kY (by simp)),.inr A5⟩
 |imp a b=>cases h
 |fin a=>cases h
 |ec a=>cases h
theorem Be{now q}:∀{l},q∈l->now q=true\/q∈iC now l
 |p::r,h=>by unfold iC;rcases PO.1 h with e|h;subst e;by_cases a:now q=true;exact .inl a;rw [QN a];exact .inr (P2 ..);by_cases a:now p=true;rw [QZ a];exact Be h;rw [QN a];exact .inr (RQ _ h)
theorem rm{a p r}:∀{l},iC a l=p::r->a p=false/\p∈l/\∀q∈r,q∈l
 |[],h=>by cases h
 |q::l,h=>by
  unfold iC at h;by_cases b:a q=true;rw [QZ b]at h;obtain ⟨d,e,f⟩:=rm h;exact ⟨d,RQ _ e,λx c=>RQ _ (f x c)⟩;rw [QN b]at h;cases h
  exact ⟨by simpa using b,P2 ..,λx c=>RQ _ c⟩
def Wy.Inv(f:Fm)(w:Wy):Prop:=∀p,w.bw p=true->Ob f w.need w.ban w.N w.X p
theorem Es{w:Wy}{p r}(b:iC w.bw w.bQ=p::r){q}(h:w.N q):(Wy.dI {w with bQ:=r} p).N q:=by
 have a:w.bw q=true->(Wy.dI {w with bQ:=r} p).bw q=true:=λh=>by show up w.bw p true q=true;by_cases e:q=p;subst e;exact aA _ _ _;rw [an _ _ _ _ e];exact h
 rcases h with h|h;exact .inl (a h);rcases Be (now:=w.bw) h with h|h;exact .inl (a h);rw [b]at h;rcases PO.1 h with rfl|h;exact .inl (aA _ _ _);exact .inr h
theorem EY{f}:∀m w,w.Inv f->∀z∈eH f m w,(z.Inv f/\z.bQ=[])/\∀q,w.N q->z.bw q=true
 |0,w,_,z,h=>by cases h
 |m+1,w,s,z,h=>by
  unfold eH at h;cases d:iC w.bw w.bQ with
  |nil=>
   rw [d]at h;obtain rfl:=Pc.1 h;have o:∀q,w.N q->w.bw q=true:=λq b=>by rcases b with h|h;exact h;rcases Be (now:=w.bw) h with h|h;exact h;rw [d]at h;cases h
   exact ⟨⟨λp y=>(s p y).mono (λ_ h=>h) (λ_ h=>h) (λq b=>.inl (o q b)) (λ_ h=>h),rfl⟩,o⟩
  |cons p r=>
   rw [d]at h;simp only at h;cases n:(aI f)[p]? with
   |none=>rw [n]at h;cases h
   |some x=>
    rw [n]at h;obtain ⟨c,v,A⟩:=T6.1 h;obtain ⟨a,j⟩:=Kh n v;have g:c.Inv f:=λq b=>by
     rw [a.bw]at b;by_cases e:q=p;subst e;exact j;have l:w.bw q=true:=by have:up w.bw p true q=true:=b;rwa [an _ _ _ _ e]at this
     exact (s q l).mono (λk i=>a.need k i) (λk i=>a.ban k i) (λq b=>a.N q (Es d b)) (λq b=>a.X q b)
    obtain ⟨t,u⟩:=EY m c g z A;exact ⟨t,λq b=>u q (a.N q (Es d b))⟩
theorem MP{f z}(j:z.Inv f)(l:z.bQ=[]):It f (bH (size f) z):=by
 have e:∀{q:Nat},q<size f->z.N q->q∈(bH (size f) z).bw:=λk h=>by rcases h with h|h;exact gz.2 ⟨k,h⟩;rw [l]at h;cases h
 have c:∀{p:Nat},p∈(bH (size f) z).bw->p<size f:=λh=>(gz.1 h).1;have g:∀p∈(bH (size f) z).bw,Ob f z.need z.ban z.N z.X p:=λp h=>j p (gz.1 h).2;exact ⟨λp h=>(g p h).ff,λp h=>(g p h).prop,λp h=>(g p h).neg,
  λp h a b d=>((g p h).and a b d).imp (e (by have:=c h;omega)) (e (by have:=c h;omega)),
  λp h a b d=>((g p h).or a b d).imp (e (by have:=c h;omega)) (e (by have:=c h;omega)),
  λp h a d=>jf.2 ⟨by have:=c h;omega,(g p h).cy a d⟩,
  λp h a b d=>((g p h).dA a b d).imp (e (by have:=c h;omega)) (And.imp (e (by have:=c h;omega)) (λi=>jf.2 ⟨c h,i⟩)),
  λp h a b d=>((g p h).rel a b d).imp (e (by have:=c h;omega)) (Or.imp (e (by have:=c h;omega)) (λi=>jf.2 ⟨c h,i⟩))⟩
structure Wy.MG (u:Nat->Nat) (f:Fm) (i:Nat) (w:Wy):Prop where
 rd:jI w.need w.ban (u i)
 bw:∀p,w.N p->Tr u f i p
 next:∀p,w.X p->Tr u f (i+1) p
 dA:∀p,w.bw p=true->∀a b,At f p (Fm.dA a b)->cR u b i->w.N (p-1)
theorem xS{a b v}(h:jI a b v):a&&&b=0:=by
 refine SM λk=>?_;rw [RM,Rn];cases f:a.testBit k
 rfl;cases e:b.testBit k
 rfl;have d:=(h k).1 f;have c:=(h k).2 e;rw [d]at c;cases c
def fresh(n:Nat)(w:Wy):Nat:=((List.range n).filter λp=>!w.bw p).length
theorem xd{n w p}(a:p<n)(h:w.bw p=false):fresh n (w.dI p)<fresh n w:=by unfold fresh;refine nr (λq b=>?_) _ ⟨p,List.mem_range.2 a,by rw [h];rfl,?_⟩;show(!w.bw q)=true;have:(!up w.bw p true q)=true:=b;by_cases e:q=p;subst e;rw [aA]at this;cases this;rwa [an _ _ _ _ e]at this;show(!up w.bw p true p)=false;rw [aA];rfl
theorem Ky{u a b i}(h:cR u (Fm.dA a b) i)(f:¬cR u b i):cR u a i/\cR u (Fm.dA a b) (i+1):=by
 obtain ⟨k,c,d⟩:=h;rcases k with _|k;exact absurd c f;refine ⟨d 0 (by omega),k,?_,λj g=>?_⟩;have e:i+1+k=i+(k+1):=by omega
 rw [e];exact c;have e:i+1+j=i+(j+1):=by omega
 rw [e];exact d (j+1) (by omega)
theorem J2{u a b i}(h:cR u (Fm.rel a b) i):cR u b i/\(¬cR u a i->cR u (Fm.rel a b) (i+1)):=by
 refine ⟨h 0 (λj f=>by omega),λd k g=>?_⟩;have e:i+1+k=i+(k+1):=by omega
 rw [e];refine h (k+1) λj f=>?_;rcases j with _|j;exact d;have c:i+(j+1)=i+1+j:=by omega
 rw [c];exact g j (by omega)
theorem EZ{u f}(F:gR f){i}:∀m w,fresh (size f) w<m->w.MG u f i->∃z∈eH f m w,vP u f i (bH (size f) z)
 |0,w,h,_=>by omega
 |m+1,w,hf,H=>by
  unfold eH;cases hs:iC w.bw w.bQ with
  |nil=>refine ⟨_,Pc.2 rfl,⟨H.rd,λp J=>H.next p (jf.1 J).2,λp J=>H.bw p (.inl (gz.1 J).2),λp J a b A j=>?_⟩⟩;obtain ⟨Q,J⟩:=gz.1 J;rcases H.dA p J a b A j with h|h;exact gz.2 ⟨by omega,h⟩;rcases Be (now:=w.bw) h with h|h;exact gz.2 ⟨by omega,h⟩;rw [hs]at h;cases h
  |cons p r=>
   simp only;obtain ⟨Y,X,Z⟩:=rm hs;obtain ⟨x,A,g⟩:=H.bw p (.inr X);rw [show(aI f)[p]? =some x from A];simp only;have Q:p<size f:=At.lt A;have ab:Wy.MG u f i (Wy.dI {w with bQ:=r} p)\/True:=.inr RN;have T:∀q,(Wy.dI {w with bQ:=r} p).N q->Tr u f i q:=λq d=>by rcases d with h|h;have h:up w.bw p true q=true:=h;by_cases e:q=p;subst e;exact ⟨x,A,g⟩;rw [an _ _ _ _ e]at h;exact H.bw q (.inl h);exact H.bw q (.inr (Z q h))
   have hU:∀q,q≠p->(Wy.dI {w with bQ:=r} p).bw q=true->∀a b,At f q (Fm.dA a b)->cR u b i->(Wy.dI {w with bQ:=r} p).N (q-1):=λq G d a b B j=>by have d:up w.bw p true q=true:=d;rw [an _ _ _ _ G]at d;exact Es hs (H.dA q d a b B j)
   have V:fresh (size f) (Wy.dI {w with bQ:=r} p)<m:=by have E:fresh (size f) (Wy.dI {w with bQ:=r} p)=fresh (size f) (w.dI p):=rfl;have:=xd (n:=size f) Q Y;omega
   have o:∀c,c∈split x p (Wy.dI {w with bQ:=r} p)->c.MG u f i->fresh (size f) c=fresh (size f) (Wy.dI {w with bQ:=r} p)->∃z∈(split x p (Wy.dI {w with bQ:=r} p)).flatMap (eH f m),vP u f i (bH (size f) z):=λc M aa he=>by obtain ⟨z,hz,h⟩:=EZ F m c (by rw [he];exact V) aa;exact ⟨z,T6.2 ⟨c,M,hz⟩,h⟩
   generalize hw:Wy.dI {w with bQ:=r} p=v at *;have D:jI v.need v.ban (u i):=by rw [<-hw];exact H.rd
   have hX:∀q,v.X q->Tr u f (i+1) q:=λq d=>H.next q (by rw [<-hw]at d;exact d);have t:∀{y:Fm}{P:Prop},x≠y->At f p y->P:=λG O=>absurd (Own.At.inj A O) G;have s:∀(l:List Nat),(∀q∈l,Tr u f i q)->(∀a b,At f p (Fm.dA a b)->cR u b i->p-1∈l)->(v.dw l).MG u f i:=λl hl hu=>⟨D,λq d=>by
    rcases d with h|h;exact T q (.inl h);rcases PC.1 h with h|h;exact hl q h;exact T q (.inr h),hX,λq d a b B j=>by
    by_cases e:q=p;subst e;exact kY (hu a b B j);exact (Wy.kO _ _).N _ (hU q e d a b B j)⟩
   have L:∀(c:Wy)(q:Nat),c.MG u f i->Tr u f (i+1) q->(c.ji q).MG u f i:=λc q M d=>⟨M.rd,M.bw,λy O=>by have O:up c.next q true y=true:=O;by_cases e:y=q;subst e;exact d;rw [an _ _ _ _ e]at O;exact M.next y O,M.dA⟩
   have C:(∀a b,¬At f p (Fm.dA a b))->v.MG u f i:=λG=>⟨D,T,hX,λq d a b B j=>hU q (λe=>by subst e;exact G a b B) d a b B j⟩;cases x with
   |tt=>exact o v (Pc.2 rfl) (C λa b h=>t (by simp) h) rfl
   |ff=>exact g.elim
   |prop n=>
    have j:=C λa b h=>t (by simp) h;have E:jI (v.kQ n).need (v.kQ n).ban (u i):=λk=>⟨λW=>by rcases fq.1 W with h|h;exact (D k).1 h;subst h;exact g,(D k).2⟩
    refine o (v.kQ n) ?_ ⟨E,j.bw,j.next,j.dA⟩ rfl;show _∈(v.kQ n).pure;unfold Wy.pure;rw [QZ (xS E)];exact Pc.2 rfl
   |neg a=>
    cases a with
    |prop n=>
     have j:=C λa b h=>t (by simp) h;have E:jI (v.pQ n).need (v.pQ n).ban (u i):=λk=>⟨(D k).1,λW=>by rcases fq.1 W with h|h;exact (D k).2 h;subst h;have:¬(u i).testBit k=true:=g;simpa using this⟩
     refine o (v.pQ n) ?_ ⟨E,j.bw,j.next,j.dA⟩ rfl;show _∈(v.pQ n).pure;unfold Wy.pure;rw [QZ (xS E)];exact Pc.2 rfl
    |_=>exact (nE F p _ A).elim
   |and a b=>obtain ⟨_,j,I⟩:=dR (gj.and (a:=a) (b:=b)) f p A;refine o _ (Pc.2 rfl) (s _ (λq d=>?_) (λa b h=>t (by simp) h)) rfl;rcases PO.1 d with rfl|d;exact ⟨a,I,g.1⟩;obtain rfl:=Pc.1 d;exact ⟨b,j,g.2⟩
   |or a b=>obtain ⟨_,j,I⟩:=dR (gj.or (a:=a) (b:=b)) f p A;rcases g with g|g;refine o (v.dw [p-1-size b]) (P2 ..) (s _ (λq d=>?_) (λa b h=>t (by simp) h)) rfl;obtain rfl:=Pc.1 d;exact ⟨a,I,g⟩;refine o (v.dw [p-1]) (RQ _ (Pc.2 rfl)) (s _ (λq d=>?_) (λa b h=>t (by simp) h)) rfl;obtain rfl:=Pc.1 d;exact ⟨b,j,g⟩
   |cy a=>obtain ⟨_,I⟩:=fY (One.cy (a:=a)) f p A;exact o (v.ji (p-1)) (Pc.2 rfl) (L v _ (C λa b h=>t (by simp) h) ⟨a,I,g⟩) rfl
   |dA a b=>obtain ⟨_,j,I⟩:=dR (gj.dA (a:=a) (b:=b)) f p A;by_cases K:cR u b i;refine o (v.dw [p-1]) (P2 ..) (s _ (λq d=>?_) (λa' b' h _=>Pc.2 rfl)) rfl;obtain rfl:=Pc.1 d;exact ⟨b,j,K⟩;obtain ⟨E,S⟩:=Ky g K;refine o ((v.dw [p-1-size b]).ji p) (RQ _ (Pc.2 rfl)) (L _ p (s _ (λq d=>?_) (λa' b' h U=>?_)) ⟨_,A,S⟩) rfl;obtain rfl:=Pc.1 d;exact ⟨a,I,E⟩;have:=Own.At.inj A h;cases this;exact absurd U K
   |rel a b=>obtain ⟨_,j,I⟩:=dR (gj.rel (a:=a) (b:=b)) f p A;obtain ⟨E,S⟩:=J2 g;by_cases R:cR u a i;refine o _ (P2 ..) (s _ (λq d=>?_) (λa b h=>t (by simp) h)) rfl;rcases PO.1 d with rfl|d;exact ⟨a,I,R⟩;obtain rfl:=Pc.1 d;exact ⟨b,j,E⟩;refine o ((v.dw [p-1]).ji p) (RQ _ (Pc.2 rfl)) (L _ p (s _ (λq d=>?_) (λa b h=>t (by simp) h)) ⟨_,A,S R⟩) rfl;obtain rfl:=Pc.1 d;exact ⟨b,j,E⟩
   |imp a b=>exact (nE F p _ A).elim
   |fin a=>exact (nE F p _ A).elim
   |ec a=>exact (nE F p _ A).elim
def Wy.aM(a:List Nat):Wy:=⟨0,0,λ_=>false,λ_=>false,a⟩
theorem rP{f}(d:gR f)(a)(g:∀p∈a,p<size f)(m)(t:size f<m)(L)(l:∀c,L c↔∃z∈eH f m (Wy.aM a),bH (size f) z=c):Db f a L:=by
 refine ⟨λc r=>?_,λu i s=>?_⟩;obtain ⟨z,j,rfl⟩:=(l c).1 r;obtain ⟨⟨n,o⟩,q⟩:=EY m (Wy.aM a) (λp g=>by cases g) z j;exact ⟨MP n o,λp b=>gz.2 ⟨g p b,q p (.inr b)⟩⟩;have e:fresh (size f) (Wy.aM a)<m:=by have:fresh (size f) (Wy.aM a)<=(List.range (size f)).length:=List.length_filter_le _ _;rw [Qp]at this;omega
 obtain ⟨z,j,h⟩:=EZ d m (Wy.aM a) e (u:=u) (i:=i) ⟨λk=>⟨λh=>by simp [Wy.aM]at h,λh=>by simp [Wy.aM]at h⟩,λp b=>b.elim (λh=>by cases h) (λh=>s p h),λp h=>(by cases h),λp h=>(by cases h)⟩;exact ⟨_,(l _).2 ⟨z,j,rfl⟩,h⟩
end
section
open Go.Maps
def PJ:=@Option.some.injEq
def qk(v:Value):Option (DataW Value×List MemPlace):=some (.held v,[])
open Classical in
noncomputable def rD(f:Value->Option Value)(k:Value)(v:Option Value):Value->Option Value:=λa=>if a=k then v else f a
def ft(f k v):rD f k v k=v:=by unfold rD;rw [if_pos rfl]
def cV(f k v a)(h:a≠k):rD f k v a=f a:=by unfold rD;rw [if_neg h]
def cK(P:Program)(k:TypeId)(w:WD)(b n:Nat)(f:Value->Option Value):Prop:=
 ∃D:DataW Value,w.ownsMap P k qk b n D/\∀a c,keyOf P k a=some c->Maps.has D c=(f a).isSome/\∀v,f a=some v->∀z,D.atKey c z=.held v
section
variable {P:Program} {k:TypeId} {w w':WD} {b n:Nat} {f:Value->Option Value}
def cK.aM(P k)(w:WD):cK P k (w.alloc (.map #[] 0)) w.heap.size 0 (λ_=>none):=
 ⟨.map [],World.ownsMap_made _ _ _ _,λ_ _ _=>⟨rfl,λv h=>by cases h⟩⟩
def cK.lt(h:cK P k w b n f):b<w.heap.size:=by obtain ⟨D,a,_⟩:=h;exact a.lt
def cK.ax{S}(h:cK P k w b n f)(j:aj S w w')(g:¬S b):cK P k w' b n f:=by have l:=h.lt;obtain ⟨D,⟨c,a,i,F,m,e⟩,d⟩:=h;exact ⟨D,⟨c,a,(j.block b l g).trans i,F,m,e⟩,d⟩
def cK.ag(h:cK P k w b n f)(a:BW w w'):cK P k w' b n f:=h.ax (aj.aC a) (λs=>Nat.lt_irrefl _ (Ps h.lt s))
def cK.mono(h:cK P k w b n f){m}(c:n<=m):cK P k w b m f:=by obtain ⟨D,d,a⟩:=h;exact ⟨D,d.mono c,a⟩
def cK.ext(h:cK P k w b n f){g}(a:∀x,g x=f x):cK P k w b n g:=by have e:g=f:=funext a;rw [e];exact h
def Ba{v z a}(h:qk v=some (z,a)):z=.held v:=by unfold qk at h;simp only [PJ,Prod.mk.injEq]at h;exact h.1.symm
def cK.look{t e}(h:cK P k w b n f)(K:Keyed P k)(q:P.underlying t=some (.map k e)){z}(r:(zeroValue e).run P w=.ok z w){a l}(c:keyOf P k a=some l):
 (Instr.lookup t (.map (some b)) a false).run P w=.ok ((f a).getD z) w:=by
 obtain ⟨D,p,m⟩:=h
 have⟨v,s,j,d⟩:=p.lookup K q r (zd:=.held z) (zp:=[]) rfl c
 have d:=Ba d
 have⟨g,o⟩:=m a l c
 cases i:f a with
 |none=>
  rw [i]at g
  rw [atKey_of_not_has g]at d
  cases d
  exact j
 |some x=>
  rw [o x i]at d
  cases d
  exact j
def cK.look_ok{t e}(h:cK P k w b n f)(K:Keyed P k)(q:P.underlying t=some (.map k e)){z}(r:(zeroValue e).run P w=.ok z w){a l}(c:keyOf P k a=some l):
 (Instr.lookup t (.map (some b)) a true).run P w=.ok (.tuple #[(f a).getD z,.bool (f a).isSome]) w:=by
 obtain ⟨D,p,m⟩:=h
 have⟨v,s,g,d⟩:=p.look_ok K q r (zd:=.held z) (zp:=[]) rfl c
 have d:=Ba d
 have⟨i,o⟩:=m a l c
 rw [i]at g
 cases j:f a with
 |none=>
  rw [j]at i g
  rw [atKey_of_not_has i]at d
  cases d
  exact g
 |some x=>
  rw [o x j]at d
  rw [j]at g
  cases d
  exact g
def kX{w w' b}(a:w.grownBy w' (some b)):aj (λk=>k=b) w w':=⟨a.os,a.tape,a.output,a.size,λk c d=>a.block k c (λe=>d (by cases e;rfl))⟩
def cK.put{t e}(h:cK P k w b n f)(K:Keyed P k)(B:P.underlying t=some (.map k e))(y:n<maxLen){i r}(c:keyOf P k i=some r)(v):
 ∃w',(Instr.mapUpdate t (.map (some b)) i v).run P w=.ok () w'/\cK P k w' b (n+1) (rD f i (some v))/\aj (λk=>k=b) w w':=by
 obtain ⟨D,m,q⟩:=h
 have⟨w',A,o,x⟩:=m.update K B y c (d:=.held v) (ps:=[]) rfl
 refine ⟨w',A,⟨_,o,λg j a=>?_⟩,kX x⟩
 by_cases e:g=i
 subst e
 rw [c]at a
 cases a
 rw [ft]
 refine ⟨has_put_same m.isMap (K.key c) _,λu p z=>?_⟩
 cases p
 exact atKey_put_same m.isMap (K.key c) _ _
 have l:j≠r:=λs=>e (K.inj a (by rw [s];exact c))
 rw [cV _ _ _ _ e]
 refine ⟨(has_put_other l _).trans (q g j a).1,λu p z=>?_⟩
 exact (atKey_put_other l _ _).trans ((q g j a).2 u p z)
def cK.del{t e}(h:cK P k w b n f)(K:Keyed P k)(y:P.underlying t=some (.map k e)){g p}(c:keyOf P k g=some p)(q):
 ∃w',(Builtin.delete_ #[t,k] q #[.map (some b),g]).run P w=.ok (.tuple #[]) w'/\cK P k w' b n (rD f g none)/\aj (λk=>k=b) w w':=by
 obtain ⟨D,v,o⟩:=h
 have⟨w',x,l,s⟩:=v.drop K y c q
 refine ⟨w',x,⟨_,l,λd i a=>?_⟩,kX s.grown⟩
 by_cases e:d=g
 subst e
 rw [c]at a
 cases a
 rw [ft]
 exact ⟨has_del_same,λu m=>by cases m⟩
 have j:i≠p:=λr=>e (K.inj a (by rw [r];exact c))
 rw [cV _ _ _ _ e]
 exact ⟨(has_del_other j).trans (o d i a).1,λu m z=>(atKey_del_other j _).trans ((o d i a).2 u m z)⟩
end
end
end Go.Own
namespace Go.Proofs.YtimniinkpipnmaaGreatDoor
open Go.RowKit Go.Own Go.Proofs.Tryz
def QM:=@Go.Proofs.Tryz.underlying67
def Ry:=@Go.World.size_setCell
def Tryz.kM:(prog.info? 4).map (λi=>(i.zero,i.size,i.bytes))=some (some (.bool false),1,1):=ZK
def dq(w:WD)(a:OA)(n:Nat)(f:Nat->Bool):Prop:=∃b c,a=some (AD b c)/\∀i,i<n->w.cell? (AD b (c+i))=some (.bool (f i))
def dq.ag{w w' a n f}(h:dq w a n f)(j:BW w w'):dq w' a n f:=by obtain ⟨b,c,e,d⟩:=h;exact ⟨b,c,e,λi g=>(j.cell (O9 w _ (d i g))).trans (d i g)⟩
structure pJ (w a:WD) (g n:Nat) (f:Nat->Bool):Prop where
 dJ:w.heap.size<=g
 lt:g<a.heap.size
 cell:∀i,i<n->a.cell? (AD g i)=some (.bool (f i))/\a.frozen? (AD g i)=false
 aJ:BW w a
def pJ.row{w a g n f}(h:pJ w a g n f):dq a (some (AD g 0)) n f:=⟨g,0,rfl,λi b=>by rw [PU];exact (h.cell i b).1⟩
def pJ.set{w b g n f}(h:pJ w b g n f){p}(c:p<n)(v):pJ w (b.setCell (AD g p) (.bool v)) g n (up f p v):=by refine ⟨h.dJ,by rw [Ry];exact h.lt,λi a=>⟨?_,by rw [Qo];exact (h.cell i a).2⟩,h.aJ.setCell h.dJ _⟩;by_cases e:i=p;subst e;rw [aA];exact P4 (h:=(h.cell i a).1) ..;rw [an _ _ _ _ e];rw [PQ _ _ _ _ (dX e)];exact (h.cell i a).1
def oX(a n c f w)(h:dq w a n f)(M:0<n)(S:n<=1000000):
 CL 155 #[SL a n c] w λe q=>∃g l,e=RT (SV g n l)/\n<=l/\l<=maxLen/\pJ w q g n f:=by
 have⟨Q,D,O,F,B⟩:=P6 Tryz.kM
 obtain ⟨b,t,rfl,C⟩:=h
 have K:=λW=>Rb (P:=prog) W 67 4 (some (AD b t)) n c 0 0 QM
 have m:∀j u,(bB n f)[j]? =some u->(w.alloc (CE #[] 4)).cell? (((AD b t):Addr).add j)=some u:=by
  intro j u E;have s:j<n:=by have:=(Po.1 E).1;rwa [ed]at this
  rw [eQ n f j s]at E;rw [QK,<-E];exact (((Pn _ w).alloc (Pf _) _).cell (O9 w _ (C j s))).trans (C j s)
 have r:=O8 m
 have d:∀u∈bB n f,u.oneCell'=true:=by intro u I;unfold bB at I;obtain ⟨i,-,rfl⟩:=Qx.1 I;rfl
 have d:=O8 d
 have y:Hid ((w.alloc (CE #[] 4)).ownsRow 0 4 1 (SV w.heap.size 0 0) 0 []):=Sm (e:=4) (size:=1) w #[] 0 (Pz _) (by simp [maxLen]) rfl
 have x:Hid (∀v q,q.ownsRow 0 4 1 v (0+n) ([]++bB n f)->(w.alloc (CE #[] 4)).grownBy q (some w.heap.size)->(v.ownBlock=some w.heap.size\/v.ownBlock=some (w.alloc (CE #[] 4)).heap.size)->
  ∃g l,v=SV g n l/\n<=l/\l<=maxLen/\pJ w q g n f):=λv q o z A=>by
  rw [PU,QW]at o
  obtain ⟨R,l,rfl,N⟩:=Sl.shape o
  obtain ⟨g,rfl,-,-⟩:=N 0 M
  have L:w.heap.size<=g:=by
   obtain e|e:=A;cases e;exact Pf _
   rw [PL]at e;have e:some g=some (w.heap.size+1):=e;have:=Qh e;omega
  have p:=de o
  have H:aj (λk=>k=w.heap.size) (w.alloc (CE #[] 4)) q:=kX z
  refine ⟨g,l,rfl,p.1,p.2.1,⟨L,Sl.lt o g rfl,λi D=>⟨?_,Ro (size:=1) o i⟩,((Pn _ w).alloc (Pf _) _).trans (H.ag (by rw [PL];omega) (λk H e=>ZO))⟩⟩
  rw [Qj (size:=1) o i ZO]
  exact eQ n f i D
 clear C m
 go_enter func155,ntmps155
 go_wp2_with (at_builtin;refine Tz _ rfl (.tmp 5) (.tmp 6) 67 rfl 0 4 Q (.bool false) 1 1 QM D O F B rfl ZD _ _ _ rfl y.o (AD b t) n c _ rfl (by rw [ed];omega) r.o d.o (by unfold maxLen;omega) ZO (Pz _) ?_;intro v q o z _ A;obtain ⟨g,l,rfl,G⟩:=x.o _ _ o z A;have J:=O8 G;clear o z A G)
 go_ret
 exact ⟨g,l,rfl,J.o⟩
def Qz:=@Go.bodyPost_ret
def U4:=@Nat.succ_ne_self
abbrev gi(a b:Nat)(c:OA)(n d:Nat)(h:OA)(i:Nat)(e:OA)(g f:Nat):Value:=.agg #[UV a,UV b,SL c n d,SL h n i,SL e g f]
def Dt(w a b c d f u0 u1 u2 u3 u4 t n j)(h:j=(w.alloc (CE #[a,b,c,d,f] t)).alloc (CE #[u0,u1,u2,u3,u4] n)):
 BW w j/\j.heap.size=w.heap.size+1+1/\(∀i v,(#[a,b,c,d,f]:Array Value)[i]? =some v->CA j w.heap.size i v/\FZ j w.heap.size i)/\
 (∀i v,(#[u0,u1,u2,u3,u4]:Array Value)[i]? =some v->CA j (w.heap.size+1) i v/\FZ j (w.heap.size+1) i):=by
 subst h
 have k:BW w (w.alloc (CE #[a,b,c,d,f] t)):=(Pn _ w).alloc (Pf _) _
 have p:(w.alloc (CE #[a,b,c,d,f] t)).heap.size=w.heap.size+1:=PL ..
 have g:Below (w.alloc (CE #[a,b,c,d,f] t)).heap.size (w.alloc (CE #[a,b,c,d,f] t)) ((w.alloc (CE #[a,b,c,d,f] t)).alloc (CE #[u0,u1,u2,u3,u4] n)):=(Pn _ _).alloc (Pf _) _
 refine ⟨af k g,ZZ p,λi v m=>?_,λi v m=>?_⟩
 have o:(w.alloc (CE #[a,b,c,d,f] t)).cell? (AD w.heap.size i)=some v:=(Py (w:=w) _ t w.heap.size i rfl).trans m
 have q:(w.alloc (CE #[a,b,c,d,f] t)).frozen? (AD w.heap.size i)=false:=R7 _ _ _ _ rfl
 have l:=O9 _ _ o
 exact ⟨(g.cell l).trans o,(PK ((aj.aC g).block _ l (λe=>QE _ (Ps l e)))).trans q⟩
 rw [<-p]
 exact ⟨(Py (w:=w.alloc (CE #[a,b,c,d,f] t)) _ n _ i rfl).trans m,R7 _ _ _ _ rfl⟩
def dy{w b}(c:BW w b){q i v}(h:CA w q i v/\FZ w q i):CA b q i v/\FZ b q i:=by have a:=O9 _ _ h.1;exact ⟨(c.cell a).trans h.1,(PK ((aj.aC c).block _ a (λe=>QE _ (Ps a e)))).trans h.2⟩
def Jz(a j F n L J K G I H f p w)(h:dq w F n f)(hp:p<n)(y:n<=1000000):
 CL 141 #[gi a j F n L J K G I H,IV p] w λe w'=>∃g c,e=RT (gi a j (some (AD g 0)) n c J K G I H)/\dq w' (some (AD g 0)) n (up f p true)/\Below w.heap.size w w'/\w.heap.size<=g:=by
 have ak:(p:Int)<n:=ZO
 have HC:Hid (∀W,Below w.heap.size w W->CL 155 #[SL F n L] W λe w'=>∃g c',e=RT (SV g n c')/\n<=c'/\c'<=maxLen/\pJ W w' g n f):=λW hb=>oX F n L f W (h.ag hb) ZO y
 clear h
 go_enter func141,ntmps141
 go_upto_region 1 with(fail)
 have⟨w1,E⟩:=EX ((w.alloc (CE #[UV a,UV j,SL F n L,SL J n K,SL G I H] 193)).alloc (CE #[UV 0,UV 0,SN,SN,SN] 193))
 rw [E]
 have⟨S,ac,hq,hr⟩:=Dt _ _ _ _ _ _ _ _ _ _ _ _ _ w1 E.symm
 have M:=O8 S
 have u:=O8 ac
 have HQ:=O8 hq
 have HR:=O8 hr
 clear E S ac hq hr
 have O:=O8 (HC.o w1 M.o)
 (try unfold BW at *);generalize Z:w.heap.size=q at *
 have B:=O8 Z
 clear Z HC
 obtain ⟨q2,-⟩:=HQ.o 2 _ rfl
 have t:Hid (∀l g,pJ w1 l g n f->q+1<l.heap.size/\g≠q/\g≠q+1/\(l.cell? (AD q 2)=some (SL F n L)/\l.frozen? (AD q 2)=false)):=λl g y=>
  ⟨ZI y.aJ.size u.o,λe=>ZI y.dJ u.o,λe=>ZI y.dJ u.o,dy y.aJ (HQ.o 2 _ rfl)⟩
 go_upto_region 2 with(go_at_call 155;apply O.o.mono;rintro e l ⟨g,c,rfl,-,-,y⟩;have x:=O8 y;obtain ⟨-,C,V,q',f'⟩:=t.o l g y;clear y)
 have D:=x.o.cell p hp
 have A:Hid (∀i v,(#[UV a,UV j,SV g n c,SL J n K,SL G I H]:Array Value)[i]? =some v->(l.setCell (AD q 2) (SV g n c)).cell? (AD q i)=some v):=λi v d=>by
  by_cases e:i=2;subst e;cases d
  exact P4 (h:=q') ..;rw [PQ _ _ _ _ (dX e)];have:(#[UV a,UV j,SL F n L,SL J n K,SL G I H]:Array Value)[i]? =some v:=by
   match i,d,e with
   |0,d,_=>exact d
   |1,d,_=>exact d
   |2,d,_=>omega
   |3,d,_=>exact d
   |4,d,_=>exact d
   |i+5,d,_=>exact d
  exact (dy x.o.aJ (HQ.o i v this)).1
 have U:(l.setCell (AD q 2) (SV g n c)).cell? (AD g p)=some (.bool (f p)):=by rw [PQ _ _ _ _ (λe=>C (RH Addr.block e).symm)];exact D.1
 have ae:(l.setCell (AD q 2) (SV g n c)).frozen? (AD g p)=false:=by rw [Qo];exact D.2
 obtain ⟨ag,-⟩:_/\True:=⟨A.o 2 _ rfl,RN⟩
 go_upto_region 3 with(fail)
 have R:Hid (∀m,m=(l.setCell (AD q 2) (SV g n c)).setCell (AD g p) (.bool true)->
  (∀i v,(#[UV a,UV j,SV g n c,SL J n K,SL G I H]:Array Value)[i]? =some v->m.cell? (AD q i)=some v)/\(∀i v,(#[UV 0,UV 0,SN,SN,SN]:Array Value)[i]? =some v->m.cell? (AD (q+1) i)=some v/\m.frozen? (AD (q+1) i)=false)/\
  dq m (some (AD g 0)) n (up f p true)/\Below w.heap.size w m/\g<m.heap.size):=by
  rintro m rfl
  refine ⟨λi v d=>?_,λi v d=>⟨?_,?_⟩,⟨g,0,rfl,λi hi=>?_⟩,?_,?_⟩
  rw [PQ _ _ _ _ (λe=>C (RH Addr.block e))];exact A.o i v d
  rw [PQ _ _ _ _ (λe=>V (RH Addr.block e)),PQ _ _ _ _ (λe=>U4 q (RH Addr.block e).symm)]
  exact (dy x.o.aJ (HR.o i v d)).1
  rw [Qo,Qo];exact (dy x.o.aJ (HR.o i v d)).2
  rw [PU]
  by_cases e:i=p
  subst e
  rw [aA]
  exact P4 (h:=U) ..
  rw [an _ _ _ _ e,PQ _ _ _ _ (dX e),PQ _ _ _ _ (λe=>C (RH Addr.block e).symm)]
  exact (x.o.cell i hi).1
  have h1:=M.o
  have h2:=x.o.aJ
  have h3:=B.o
  have h4:=u.o
  have h5:=x.o.dJ
  rw [h3]
  exact ((h1.trans (h2.mono (ZH h1.size))).setCell (p:=(AD q 2)) (Pf _) _).setCell (p:=(AD g p)) (by show q<=g;omega) _
  rw [Ry,Ry];exact x.o.lt
 clear U ae D q' f' A t ag q2 O
 generalize af:(l.setCell (AD q 2) (SV g n c)).setCell (AD g p) (.bool true)=m at *
 have⟨Y,aa,z,T,ah⟩:=R.o m rfl
 have r:=O8 Y
 have s:=O8 aa
 have Q:=O8 z
 have N:=O8 T
 have X:w.heap.size<=g:=by have h1:=x.o.dJ;have h2:=u.o;have h3:=B.o;omega
 have ad:=O8 X
 have P:Hid (∀W,aj (λb=>b=q+1) m W->dq W (some (AD g 0)) n (up f p true)/\Below w.heap.size w W/\w.heap.size<=g):=λW hk=>by refine ⟨?_,N.o.trans (hk.ag N.o.size (λk ai e=>ZH B.o)),ad.o⟩;have⟨b,o,e,hc⟩:=Q.o;exact ⟨b,o,e,λi hi=>hk.aq (hc i hi) (by cases e;exact V)⟩
 clear Y aa z T af R x HQ HR X
 have d0:=r.o 0 _ rfl
 have d1:=r.o 1 _ rfl
 have d2:=r.o 2 _ rfl
 have d3:=r.o 3 _ rfl
 have d4:=r.o 4 _ rfl
 have⟨e0,g0⟩:=s.o 0 _ rfl
 have⟨e1,g1⟩:=s.o 1 _ rfl
 have⟨e2,g2⟩:=s.o 2 _ rfl
 have⟨e3,g3⟩:=s.o 3 _ rfl
 have⟨e4,g4⟩:=s.o 4 _ rfl
 have ab:Tryz.f141.results=#[.cell 4 193]:=ZK
 go_wp2
 refine Qz (v:=gi a j (some (AD g 0)) n c J K G I H) ?_ rfl ⟨g,c,rfl,P.o _ (((((((aj.refl (λb=>b=q+1) m).setCell (p:=(AD (q+1) 0)) (λ_=>rfl) _).setCell (p:=(AD (q+1) 1)) (λ_=>rfl) _).setCell (p:=(AD (q+1) 2)) (λ_=>rfl) _).setCell (p:=(AD (q+1) 3)) (λ_=>rfl) _).setCell (p:=(AD (q+1) 4)) (λ_=>rfl) _))⟩
 simp only [results,ab]
 go_simp
def G6(a j F n G K L H J I f p w)(h:dq w K n f)(hp:p<n)(y:n<=1000000):
 CL 168 #[gi a j F n G K L H J I,IV p] w λe w'=>∃g c,e=RT (gi a j F n G (some (AD g 0)) c H J I)/\dq w' (some (AD g 0)) n (up f p true)/\Below w.heap.size w w'/\w.heap.size<=g:=by
 have ak:(p:Int)<n:=ZO
 have HC:Hid (∀W,Below w.heap.size w W->CL 155 #[SL K n L] W λe w'=>∃g c',e=RT (SV g n c')/\n<=c'/\c'<=maxLen/\pJ W w' g n f):=λW hb=>oX K n L f W (h.ag hb) ZO y
 clear h
 go_enter func168,ntmps168
 go_upto_region 1 with(fail)
 have⟨w1,E⟩:=EX ((w.alloc (CE #[UV a,UV j,SL F n G,SL K n L,SL H J I] 193)).alloc (CE #[UV 0,UV 0,SN,SN,SN] 193))
 rw [E]
 have⟨S,ac,hq,hr⟩:=Dt _ _ _ _ _ _ _ _ _ _ _ _ _ w1 E.symm
 have M:=O8 S
 have u:=O8 ac
 have HQ:=O8 hq
 have HR:=O8 hr
 clear E S ac hq hr
 have O:=O8 (HC.o w1 M.o)
 (try unfold BW at *);generalize Z:w.heap.size=q at *
 have B:=O8 Z
 clear Z HC
 obtain ⟨q3,-⟩:=HQ.o 3 _ rfl
 have t:Hid (∀l g,pJ w1 l g n f->q+1<l.heap.size/\g≠q/\g≠q+1/\(l.cell? (AD q 3)=some (SL K n L)/\l.frozen? (AD q 3)=false)):=λl g y=>
  ⟨ZI y.aJ.size u.o,λe=>ZI y.dJ u.o,λe=>ZI y.dJ u.o,dy y.aJ (HQ.o 3 _ rfl)⟩
 go_upto_region 2 with(go_at_call 155;apply O.o.mono;rintro e l ⟨g,c,rfl,-,-,y⟩;have x:=O8 y;obtain ⟨-,C,V,q',f'⟩:=t.o l g y;clear y)
 have D:=x.o.cell p hp
 have A:Hid (∀i v,(#[UV a,UV j,SL F n G,SV g n c,SL H J I]:Array Value)[i]? =some v->(l.setCell (AD q 3) (SV g n c)).cell? (AD q i)=some v):=λi v d=>by
  by_cases e:i=3;subst e;cases d
  exact P4 (h:=q') ..;rw [PQ _ _ _ _ (dX e)];have:(#[UV a,UV j,SL F n G,SL K n L,SL H J I]:Array Value)[i]? =some v:=by
   match i,d,e with
   |0,d,_=>exact d
   |1,d,_=>exact d
   |2,d,_=>exact d
   |3,d,_=>omega
   |4,d,_=>exact d
   |i+5,d,_=>exact d
  exact (dy x.o.aJ (HQ.o i v this)).1
 have U:(l.setCell (AD q 3) (SV g n c)).cell? (AD g p)=some (.bool (f p)):=by rw [PQ _ _ _ _ (λe=>C (RH Addr.block e).symm)];exact D.1
 have ae:(l.setCell (AD q 3) (SV g n c)).frozen? (AD g p)=false:=by rw [Qo];exact D.2
 obtain ⟨ag,-⟩:_/\True:=⟨A.o 3 _ rfl,RN⟩
 go_upto_region 3 with(fail)
 have R:Hid (∀m,m=(l.setCell (AD q 3) (SV g n c)).setCell (AD g p) (.bool true)->
  (∀i v,(#[UV a,UV j,SL F n G,SV g n c,SL H J I]:Array Value)[i]? =some v->m.cell? (AD q i)=some v)/\(∀i v,(#[UV 0,UV 0,SN,SN,SN]:Array Value)[i]? =some v->m.cell? (AD (q+1) i)=some v/\m.frozen? (AD (q+1) i)=false)/\
  dq m (some (AD g 0)) n (up f p true)/\Below w.heap.size w m/\g<m.heap.size):=by
  rintro m rfl
  refine ⟨λi v d=>?_,λi v d=>⟨?_,?_⟩,⟨g,0,rfl,λi hi=>?_⟩,?_,?_⟩
  rw [PQ _ _ _ _ (λe=>C (RH Addr.block e))];exact A.o i v d
  rw [PQ _ _ _ _ (λe=>V (RH Addr.block e)),PQ _ _ _ _ (λe=>U4 q (RH Addr.block e).symm)]
  exact (dy x.o.aJ (HR.o i v d)).1
  rw [Qo,Qo];exact (dy x.o.aJ (HR.o i v d)).2
  rw [PU]
  by_cases e:i=p
  subst e
  rw [aA]
  exact P4 (h:=U) ..
  rw [an _ _ _ _ e,PQ _ _ _ _ (dX e),PQ _ _ _ _ (λe=>C (RH Addr.block e).symm)]
  exact (x.o.cell i hi).1
  have h1:=M.o
  have h2:=x.o.aJ
  have h3:=B.o
  have h4:=u.o
  have h5:=x.o.dJ
  rw [h3]
  exact ((h1.trans (h2.mono (ZH h1.size))).setCell (p:=(AD q 3)) (Pf _) _).setCell (p:=(AD g p)) (by show q<=g;omega) _
  rw [Ry,Ry];exact x.o.lt
 clear U ae D q' f' A t ag q3 O
 generalize af:(l.setCell (AD q 3) (SV g n c)).setCell (AD g p) (.bool true)=m at *
 have⟨Y,aa,z,T,ah⟩:=R.o m rfl
 have r:=O8 Y
 have s:=O8 aa
 have Q:=O8 z
 have N:=O8 T
 have X:w.heap.size<=g:=by have h1:=x.o.dJ;have h2:=u.o;have h3:=B.o;omega
 have ad:=O8 X
 have P:Hid (∀W,aj (λb=>b=q+1) m W->dq W (some (AD g 0)) n (up f p true)/\Below w.heap.size w W/\w.heap.size<=g):=λW hk=>by refine ⟨?_,N.o.trans (hk.ag N.o.size (λk ai e=>ZH B.o)),ad.o⟩;have⟨b,o,e,hc⟩:=Q.o;exact ⟨b,o,e,λi hi=>hk.aq (hc i hi) (by cases e;exact V)⟩
 clear Y aa z T af R x HQ HR X
 have d0:=r.o 0 _ rfl
 have d1:=r.o 1 _ rfl
 have d2:=r.o 2 _ rfl
 have d3:=r.o 3 _ rfl
 have d4:=r.o 4 _ rfl
 have⟨e0,g0⟩:=s.o 0 _ rfl
 have⟨e1,g1⟩:=s.o 1 _ rfl
 have⟨e2,g2⟩:=s.o 2 _ rfl
 have⟨e3,g3⟩:=s.o 3 _ rfl
 have⟨e4,g4⟩:=s.o 4 _ rfl
 have ab:Tryz.f168.results=#[.cell 4 193]:=ZK
 go_wp2
 refine Qz (v:=gi a j F n G (some (AD g 0)) c H J I) ?_ rfl ⟨g,c,rfl,P.o _ (((((((aj.refl (λb=>b=q+1) m).setCell (p:=(AD (q+1) 0)) (λ_=>rfl) _).setCell (p:=(AD (q+1) 1)) (λ_=>rfl) _).setCell (p:=(AD (q+1) 2)) (λ_=>rfl) _).setCell (p:=(AD (q+1) 3)) (λ_=>rfl) _).setCell (p:=(AD (q+1) 4)) (λ_=>rfl) _))⟩
 simp only [results,ab]
 go_simp
def rr{P r o a w K Q E}(D:o.guard=none)(s x t)
 (R:o.op=.call {callee:=.builtin .append,args:=#[s,x],argTypes:=#[t,t]})
 (e i z b) (U:P.underlying t=some (.slice e)) (N:P.info? e=some i) (W:i.zero=some z)
 (l:i.size=1) (C:i.bytes=b) (G:z.cells.size=1) (q:1<=b)
 (v n H) (T:a.eval s=v) (p:Sl w e v n H)
 (B m c d) (V:a.eval x=SL (some B) m c) (O:d.length=m) (g:∀j u,d[j]? =some u->w.cell? (B.add j)=some u) (I:∀u∈d,u.oneCell'=true)
 (f:(n+m)*b<=140737488355328)
 (h:∀y A,Sl A e y (n+m) (H++d)->aj (λk=>v.ownBlock=some k) w A->dQ w v y->K (a.put o.dst y) A):
 if Region.wanted o (yielded r a.tmps)=true then Oper.wp P o a w K Q else E:=by
 have F:Region.wanted o (yielded r a.tmps)=true:=by simp [Region.wanted,D]
 rw [PW F]
 have⟨y,A,S,J,L,M⟩:=eM (P:=P) w t o.type e i z b U N W l C G q v n H p B m c d O g I f
 unfold Oper.wp execOp
 simp only [R,resolve,invoke,builtin,Rv,R6,Q9,Rm,Pv,PE,T,V,S]
 exact h y A J L M
def DP{l:List Int}{k}:∀u∈l.map (Value.int k),u.oneCell'=true:=λu a=>by obtain ⟨z,-,rfl⟩:=Qx.1 a;rfl
def Ih(l z na n nc xa xc M P d tc Q pa a pc D w)
 (ht:aG .i64 w (some (AD M P)) d Q) (a0:M<w.heap.size) (hp:aG .i64 w pa a D) (h0:0<a) (hl:a+d<=1000000):
 CL 167 #[gi l z na n nc xa xc (some (AD M P)) d tc,SL pa a pc] w λe w'=>∃g c,e=RT (gi l z na n nc xa xc (some (AD g 0)) (a+d) c)/\aG .i64 w' (some (AD g 0)) (a+d) (D++Q)/\a+d<=c/\c<=maxLen/\Below w.heap.size w w'/\w.heap.size<=g:=by
 have⟨i3,hi,hz,aQ,aJ⟩:=P6 Tryz.eA
 have HC:Hid (∀W,Below w.heap.size w W->CL 91 #[SL pa a pc] W λe w'=>∃a' A,e=RT (SL a' a A)/\aF .i64 3 W w' (SL a' a A) D):=λW X=>
  et pa a pc D W (hp.ag X) (λe=>hp.2.elim (λh=>absurd h ZO) (λ⟨b,o,h,_⟩=>by rw [e]at h;cases h)) ZO
 have HT:Hid (∀W,Below w.heap.size w W->aG .i64 W (some (AD M P)) d Q):=λW X=>ht.ag X
 have aE:Hid (Q.length=d):=ht.1
 have ak:Hid (D.length=a):=hp.1
 clear ht hp
 go_enter func167,ntmps167
 go_upto_region 1 with(fail)
 have⟨r,ad⟩:=EX ((w.alloc (CE #[UV l,UV z,SL na n nc,SL xa n xc,SL (some (AD M P)) d tc] 193)).alloc (CE #[UV 0,UV 0,SN,SN,SN] 193))
 rw [ad]
 have⟨ao,Z,hq,hr⟩:=Dt _ _ _ _ _ _ _ _ _ _ _ _ _ r ad.symm
 have aa:=O8 ao
 have al:=O8 Z
 have HQ:=O8 hq
 have HR:=O8 hr
 have af:=O8 (HC.o r.drew aa.o.drew)
 clear ad ao Z hq hr HC
 (try unfold BW at *);generalize ay:w.heap.size=q at *
 have R:=O8 ay
 clear ay
 have⟨q4,f4⟩:=HQ.o 4 _ rfl
 have ab:Hid (∀s a' A,aF .i64 3 r.drew s (SL a' a A) D->∃g,a'=some (AD g 0)/\g≠q/\g≠q+1/\s.cell? (AD q 4)=some (SL (some (AD M P)) d tc)/\s.frozen? (AD q 4)=false/\(∀j u,(Q.map (Value.int .i64))[j]? =some u->s.cell? (((AD M P):Addr).add j)=some u)/\Below r.heap.size r s):=λs a' A O=>by
  have X:Below r.heap.size r s:=(Pn _ r).drew.trans (aX O);have hs:=al.o;have U:=R.o;obtain ⟨g,aS,e,-⟩:=xw O ak.o h0;cases e
  have hg:=O.2.2 g rfl;have hg:r.heap.size<=g:=hg;have aI:Below w.heap.size w s:=by rw [U];exact aa.o.trans (X.mono ZO)
  exact ⟨g,rfl,ZO,ZO,(dy X (HQ.o 4 _ rfl)).1,(dy X (HQ.o 4 _ rfl)).2,CF (HT.o s (ZR U.symm aI)),X⟩
 have ag:Hid (∀s g A v',aF .i64 3 r.drew s (SV g a A) D->∀{y:WD},Sl y 3 v' (a+d) (D.map (Value.int .i64)++Q.map (Value.int .i64))->aj (λk=>(SV g a A).ownBlock=some k) s y->dQ s (SV g a A) v'->
  ∃m B,v'=SV m (a+d) B/\m≠q/\m≠q+1/\y.cell? (AD q 4)=some (SL (some (AD M P)) d tc)/\y.frozen? (AD q 4)=false/\
   (∀i v,(#[UV l,UV z,SL na n nc,SL xa n xc,SL (some (AD M P)) d tc]:Array Value)[i]? =some v->y.cell? (AD q i)=some v)/\(∀i v,(#[UV 0,UV 0,SN,SN,SN]:Array Value)[i]? =some v->y.cell? (AD (q+1) i)=some v/\y.frozen? (AD (q+1) i)=false)/\
   aG .i64 y (some (AD m 0)) (a+d) (D++Q)/\a+d<=B/\B<=maxLen/\Below w.heap.size w y/\w.heap.size<=m):=λs g A v' O y T hk aP=>by
  obtain ⟨g',e,aM,aN,c4,an,-,C⟩:=ab.o s _ A O
  cases e
  have hs:=al.o
  have U:=R.o
  have hg:=O.2.2 g rfl
  have hg:r.heap.size<=g:=hg
  obtain ⟨a3,B,rfl,aL⟩:=Sl.shape T
  obtain ⟨m,rfl,-,-⟩:=aL 0 ZO
  have aZ:r.heap.size<=m:=by
   obtain h|⟨k,h,hk⟩:=aP;cases h;exact hg
   cases h;exact PG C.size hk
  have I:Below r.heap.size r y:=C.trans (hk.ag C.size (λk aO e=>by have e:some g=some k:=e;have:=Qh e;omega))
  rw [<-Qg]at T
  have x:=(Ar.of T).rowAt
  have Y:=de T
  exact ⟨m,B,rfl,ZO,ZO,(dy I (HQ.o 4 _ rfl)).1,(dy I (HQ.o 4 _ rfl)).2,λi v f=>(dy I (HQ.o i v f)).1,λi v f=>dy I (HR.o i v f),x,Y.1,Y.2.1,by rw [U];exact aa.o.trans (I.mono ZO),ZO⟩
 refine aw 4 (S:=λW=>W.cell? (AD q 4)=some (SL (some (AD M P)) d tc)) ZK (q4) (λac=>?_)
 refine aB 0 ?_ [1,0]
 refine aB 2 ?_ [3,2]
 refine aB 3 ?_
 clear ac
 refine aK 1 λK H=>?_
 go_simp
 go_at_call 91;apply af.o.mono;rintro e s ⟨a',A,rfl,O⟩;obtain ⟨g,rfl,aM,aN,c4,an,L,C⟩:=ab.o _ _ _ O;have HM:=O8 O;have ai:=O8 L;have aD:=O8 C;clear O L C
 refine H.o _ _ (λ_=>c4) ?_
 clear H K
 try walk_nrm
 refine aK 4 λK H=>?_
 refine rr rfl (.tmp 6) (.tmp 8) 33 rfl 3 i3 (IV 0) 8 Rg hi hz aQ aJ rfl ZD (SV g a A) a (D.map (Value.int .i64)) rfl (by have:=HM.o.1;rw [ak.o]at this;exact this) (AD M P) d tc (Q.map (Value.int .i64)) rfl (by(try unfold BW);rw [PB];exact aE.o) ai.o DP ZO ?_
 intro v' y T au av
 obtain ⟨m,B,rfl,aq,ar,J⟩:=ag.o _ _ _ _ HM.o T au av
 have t:=O8 J
 clear T au av J
 refine H.q ?_
 clear H K
 have d4:=t.o.1
 have aH:=t.o.2.1
 refine aK 5 λK H=>?_
 go_simp
 refine H.q ?_
 clear H K
 refine aK 6 λK H=>?_
 go_simp
 refine H.q ?_
 clear H K
 refine az ZK ?_
 go_upto_region 2 with(fail)
 have am:Hid (∀N,N=y.setCell (AD q 4) (SV m (a+d) B)->
  (∀i v,(#[UV l,UV z,SL na n nc,SL xa n xc,SV m (a+d) B]:Array Value)[i]? =some v->N.cell? (AD q i)=some v)/\(∀i v,(#[UV 0,UV 0,SN,SN,SN]:Array Value)[i]? =some v->N.cell? (AD (q+1) i)=some v/\N.frozen? (AD (q+1) i)=false)/\
  aG .i64 N (some (AD m 0)) (a+d) (D++Q)/\Below w.heap.size w N):=by
  rintro N rfl
  obtain ⟨h1,h2,T,h4,h5,h6,h7,h8,-⟩:=t.o
  refine ⟨λi v f=>?_,λi v f=>⟨?_,by rw [Qo];exact (h4 i v f).2⟩,⟨h5.1,?_⟩,?_⟩
  by_cases e:i=4
  subst e
  cases f
  exact P4 (h:=h1) ..
  rw [PQ _ _ _ _ (dX e)]
  refine T i v ?_
  match i,f,e with
  |0,f,_=>exact f
  |1,f,_=>exact f
  |2,f,_=>exact f
  |3,f,_=>exact f
  |4,f,e=>exact absurd rfl e
  |i+5,f,_=>exact f
  rw [PQ _ _ _ _ (λe=>U4 q (RH Addr.block e).symm)]
  exact (h4 i v f).1
  obtain h|⟨b,o,e,hc⟩:=h5.2
  omega
  refine .inr ⟨b,o,e,λi hi=>?_⟩
  cases e
  rw [PQ _ _ _ _ (λe=>aq (RH Addr.block e).symm)]
  exact hc i hi
  exact h8.setCell (p:=(AD q 4)) (by have:=R.o;show w.heap.size<=q;omega) _
 have E:=O8 (And.intro t.o.2.2.2.2.2.1 (And.intro t.o.2.2.2.2.2.2.1 t.o.2.2.2.2.2.2.2.2))
 clear d4 aH t ag ab af
 generalize aR:y.setCell (AD q 4) (SV m (a+d) B)=N at *
 have⟨ax,aA,x,ap⟩:=am.o N rfl
 have F:=O8 ax
 have G:=O8 aA
 have V:=O8 x
 have ae:=O8 ap
 have ah:Hid (∀W,aj (λb=>b=q+1) N W->aG .i64 W (some (AD m 0)) (a+d) (D++Q)/\a+d<=B/\B<=maxLen/\Below w.heap.size w W/\w.heap.size<=m):=λW hk=>by refine ⟨⟨V.o.1,?_⟩,E.o.1,E.o.2.1,ae.o.trans (hk.ag ae.o.size (λk aO e=>ZH R.o)),E.o.2.2⟩;obtain h|⟨b,o,e,hc⟩:=V.o.2;exact .inl h;exact .inr ⟨b,o,e,λi hi=>hk.aq (hc i hi) (by cases e;exact ar)⟩
 clear ax aA x ap aR am HM HQ HR ai aD q4 f4 c4 an
 have d0:=F.o 0 _ rfl
 have d1:=F.o 1 _ rfl
 have d2:=F.o 2 _ rfl
 have d3:=F.o 3 _ rfl
 have d4:=F.o 4 _ rfl
 have⟨e0,aT⟩:=G.o 0 _ rfl
 have⟨e1,aU⟩:=G.o 1 _ rfl
 have⟨e2,aV⟩:=G.o 2 _ rfl
 have⟨e3,aW⟩:=G.o 3 _ rfl
 have⟨e4,aY⟩:=G.o 4 _ rfl
 have aC:Tryz.f167.results=#[.cell 4 193]:=ZK
 go_wp2
 refine Qz (v:=gi l z na n nc xa xc (some (AD m 0)) (a+d) B) ?_ rfl ⟨m,B,rfl,ah.o _ (((((((aj.refl (λb=>b=q+1) N).setCell (p:=(AD (q+1) 0)) (λ_=>rfl) _).setCell (p:=(AD (q+1) 1)) (λ_=>rfl) _).setCell (p:=(AD (q+1) 2)) (λ_=>rfl) _).setCell (p:=(AD (q+1) 3)) (λ_=>rfl) _).setCell (p:=(AD (q+1) 4)) (λ_=>rfl) _))⟩
 simp only [results,aC]
 go_simp
def QV:=@List.getElem?_range
def Sr:=@decide_eq_decide
def Tc:=@List.ext_getElem?
def TQ:=@Go.Proofs.Tryz.underlying220
def Ue:=@Go.Proofs.Tryz.underlying9
def Uo:=@Go.run_convert_bytes_back
def UR:=@List.getElem?_set
def cN(f:Nat->Bool)(k:Nat):List Int:=((List.range k).filter f).map λ(x:Nat)=>(x:Int)
def A7(f k):cN f (k+1)=cN f k++(if f k=true then [(k:Int)]else []):=by unfold cN;rw [QQ,QA,Qg];by_cases h:f k=true;rw [PW h,QT h];rfl;rw [Qa h,QS h];rfl
def kS(f k):(cN f k).length<=k:=by unfold cN;rw [PB];have:=Qn f (List.range k);rwa [Qp]at this
def xK(a n c f w)(h:dq w a n f)(Q:n<=1000000):
 CL 144 #[SL a n c] w λe N=>∃d m g,e=RT (SL d m g)/\aF .i64 3 w N (SL d m g) (cN f n):=by
 have⟨L,y,B,A,u⟩:=P6 Tryz.eA
 obtain ⟨b,M,rfl,F⟩:=h
 have C:=O8 F
 clear F
 go_enter func144,ntmps144
 go_wp2
 go_loopw [3,8] (λv x wr=>∃k:Nat,k<=n/\x=IV k/\∃d m g,v=SL d m g/\Hid (aF .i64 3 w wr (SL d m g) (cN f k))) (λ_ x _=>n-(intOf x).toNat)
 exact ⟨0,Pz _,rfl,none,0,0,rfl,O8 (lJ _ _ _)⟩
 obtain ⟨k,P,rfl,d,m,g,rfl,o⟩:=hrel
 have j:=gy o.o
 have z:=kS f k
 by_cases q:k<n
 ·have G:(k:Int)<n:=ZO;have E:=((aX o.o).cell (O9 w _ (C.o k q))).trans (C.o k q)
  have D:=O8 (A7 f k);have s:=O8 j;have I:Hid (Sl wr 3 (SL d m g) m ((cN f k).map (Value.int .i64))):=by have:=o.o.1;rw [j]at this;exact this
  have K:m<=n:=ZO;clear j z;cases l:f k
  ·rw [l]at E;have i:Hid (cN f (k+1)=cN f k):=by have:=D.o;rw [l]at this;show _=_;simpa using this
   clear l;go_wp2;go_roundw;exact ⟨k+1,ZO,ZN,d,m,g,rfl,ZR i.o o⟩;simp [intOf];omega
  ·rw [l]at E;have i:Hid (cN f (k+1)=cN f k++[(k:Int)]):=by have:=D.o;rw [l]at this;show _=_;simpa using this
   clear l;go_wp2_with (at_builtin;refine av rfl (.tmp 14) (.tmp 16) 33 rfl 3 L (IV 0) 8 Rg y B A u rfl ZD _ _ _ rfl I.o _ rfl rfl ZO ?_;intro O J R H p r;have t:=O8 (ef o.o s.o H p r);clear H p r);go_roundw;exact ⟨k+1,ZO,ZN,_,m+1,J,rfl,ZR i.o t⟩;simp [intOf];omega
 ·obtain rfl:n=k:=ZO;go_wp2
  go_ret;exact ⟨d,m,g,rfl,o.o⟩
def Tryz.Ji:(prog.info? 5).map (λi=>(i.zero,i.size,i.bytes))=some (some (.int .u8 0),1,1):=ZK
def jF(n:Nat)(f:Nat->Bool)(k:Nat):List Int:=(List.range n).map λi=>if(decide (i<k)&&f i)=true then 1 else 0
def jE(n:Nat)(f:Nat->Bool):List UInt8:=(List.range n).map λi=>if f i=true then 1 else 0
def gp(n:Nat)(f:Nat->Bool):ByteArray:=⟨(jE n f).toArray⟩
def jS(n f k):(jF n f k).length=n:=by unfold jF;rw [PB,Qp]
def nW(n f):(jE n f).length=n:=by unfold jE;rw [PB,Qp]
def Dn(n f):jF n f 0=List.replicate n 0:=by unfold jF;rw [List.eq_replicate_iff];refine ⟨by rw [PB,Qp],λz a=>?_⟩;obtain ⟨i,-,rfl⟩:=Qx.1 a;simp
def Dm(n f k)(h:f k=false):jF n f (k+1)=jF n f k:=by
 unfold jF;refine Sn λi _=>?_;by_cases e:i=k;subst e;rw [h];simp;have:decide (i<k+1)=decide (i<k):=by rw [Sr];omega
 rw [this]
def wH(n f k i)(a:i<n):(jF n f k)[i]? =some (if(decide (i<k)&&f i)=true then 1 else 0):=by unfold jF;rw [PZ,QV a];rfl
def Gb(n f k)(h:f k=true)(b:k<n):(jF n f k).set k 1=jF n f (k+1):=by
 refine Tc λi=>?_;by_cases a:i<n;rw [UR,wH n f (k+1) i a,wH n f k i a,jS];by_cases e:k=i;subst e;rw [PW rfl,PW b,h];simp;rw [Qa e];have:decide (i<k+1)=decide (i<k):=by rw [Sr];omega
 rw [this];rw [Qs (by rw [RX,jS];omega),Qs (by rw [jS];omega)]
def Gc(n f j)(c:j<(jE n f).length):(jF n f n).getD j 0=((jE n f)[j].toNat:Int):=by
 have a:=c;rw [nW]at a;have b:(jE n f)[j]? =some (if f j=true then 1 else 0):=by unfold jE;rw [PZ,QV a];rfl
 rw [Pe c]at b;rw [Qh b,Pd,wH n f n j a,QC];cases f j
 simp;simp [a]
def BJ(a n c f w)(h:dq w a n f)(L:n<=1000000):
 CL 143 #[SL a n c] w λe G=>e=RT (.string (gp n f))/\BW w G:=by
 have⟨D,B,C,q,o⟩:=P6 Tryz.Ji
 obtain ⟨b,F,rfl,u⟩:=h
 have r:=O8 u
 clear u
 go_enter func143,ntmps143
 go_wp2_with (at_make;refine wpList_make_full _ rfl _ _ 220 rfl 0 5 D (.int .u8 0) 1 TQ B C q _ _ _ _ n rfl rfl rfl rfl (by rw [o];omega) (by unfold maxLen;omega) (Pz _) ?_;intro H z v;have s:Hid (aF .u8 5 w H (SV w.heap.size n n) (jF n f 0)):=(by rw [Dn];exact AU z v);clear z v)
 go_loopw [11] (λx wr=>∃k:Nat,k<=n/\x=IV k/\Hid (aF .u8 5 w wr (SV w.heap.size n n) (jF n f k))) (λx _=>n-(intOf x).toNat)
 exact ⟨0,Pz _,rfl,s⟩
 clear s
 obtain ⟨k,K,rfl,i⟩:=hrel
 by_cases d:k<n
 ·have y:(k:Int)<n:=ZO;have t:=((aX i.o).cell (O9 w _ (r.o k d))).trans (r.o k d)
  have⟨I,J⟩:=zF i.o (jS n f k) k d;cases g:f k
  ·rw [g]at t;have m:=O8 (Dm n f k g)
   clear g;go_wp2;go_roundw;exact ⟨k+1,ZO,ZN,ZR m.o i⟩;simp [intOf];omega
  ·rw [g]at t;have A:Hid (aF .u8 5 w (wr.setCell (AD w.heap.size k) (.int .u8 1)) (SV w.heap.size n n) (jF n f (k+1))):=by have:=DY i.o (jS n f k) k 1;rw [Gb n f k g d]at this;exact this
   clear g;generalize (jF n f k).getD k 0=M at *;go_wp2;go_roundw;exact ⟨k+1,ZO,ZN,A⟩;simp [intOf];omega
 ·obtain rfl:n=k:=ZO;have p:∀j (l:j<(jE n f).length),wr.cell? (((AD w.heap.size 0):Addr).add j)=some (.int .u8 ((jE n f)[j].toNat:Int)):=λj l=>by rw [QK,PU,<-Gc n f j l];exact (zF i.o (jS n f n) j (by rw [nW]at l;exact l)).1
  have E:=Uo (P:=prog) wr 220 9 5 (AD w.heap.size 0) n (jE n f) TQ underlying5 Ue p;rw [nW]at E;go_wp2;go_ret;exact ⟨rfl,aX i.o⟩
end Go.Proofs.YtimniinkpipnmaaGreatDoor
namespace Go.Own
open Go.RowKit
section
section
variable {P:Program} {ops:Array Oper} {Q:Exit->Act->WD->Prop} {md:Region.Mode} {β:Nat}
def aO{o K a w f args R}(d:Calls P f args w R)(h:(execOp a.eval o).run P w=.ok (.enter f args) w)
 (c:∀e b,R e b->∃v,e=RT v/\K (a.put o.dst v) b):aY P o a w K Q:=by
 constructor
 unfold Oper.wp
 rw [h,Oper.upon_enter]
 refine d.mono λe b i=>?_
 obtain ⟨v,rfl,g⟩:=c e b i
 exact g
structure IE (R:List Nat) (a:Nat->Nat) (Φ:Nat->Value->WD->Prop) (b:WD) (l:Array Bool) (V:Nat->Value) (w:WD):Prop where
 aJ:BW b w
 oZ:∀i∈R,l.getD i false=true->Φ i (V (a i)) w
def bY{s D m c}(R a q b Φ)
 (t:A6 md ops R a q=true) (y:D=fg q R) (L:c=b+R.length) (n:∀i∈R,∀j∈R,a i=a j->i=j)
 (C:∀i v w d,Φ i v w->BW w d->Φ i v d) {S} (J:∀w,BW m w->S w) (H:∀i∈R,D.getD i false=false)
 (k:∀l V w i o,l.size=ops.size->iH md ops l->i∈R->ops[i]? =some o->i∈Region.ready md ops l->IE R a Φ m l V w->
  ∀K:Act->WD->Prop,(∀v d,BW w d->Φ i v d->K ((aN s (R.map a) V).put o.dst v) d)->aY P o (aN s (R.map a) V) w K Q)
 (f:∀V w,BW m w->(∀i∈R,Φ i (V (a i)) w)->dz P md ops Q S β b q (aN s (R.map a) V) w):dz P md ops Q S β c D s m:=by
 have z:∀r∈R,q.getD r false=true:=by intro r B;unfold A6 at t;simp only [Qk,Rc]at t;exact (t.1.1.2 r B).1
 refine mH R a q b (IE R a Φ m) t y L ⟨Below.refl _ _,λi g h=>by rw [H i g]at h;cases h⟩ (λl V w h=>J w h.aJ) ?_ (λV w h=>f V w h.aJ λi g=>h.oZ i g (z i g))
 intro l V w i o A x g M B u K I
 refine k l V w i o A x g M B u K λv d E N=>I v d ⟨u.aJ.trans (E.mono u.aJ.size),λj F p=>?_⟩
 by_cases e:j=i
 subst e;rw [aA];exact N
 rw [an _ _ _ _ (λG=>e (n j F i g G))]
 rw [RV false (Rz e)]at p
 exact C _ _ _ _ (u.oZ j F p) E
end
end
end Go.Own
namespace Go.Proofs.YtimniinkpipnmaaGreatDoor
open Go.RowKit Go.Own Go.Proofs.Tryz
def Pj:=@List.setIfInBounds_toArray
def Pt:=@List.getElem?_cons_succ
def Pu:=@List.getElem?_cons_zero
def Pw:=@List.set_cons_succ
def Px:=@List.set_cons_zero
def PA:=@List.getElem?_toArray
def QL:=@List.not_mem_nil
def RC:=@Go.bits_and_u64_nat
def Sg:=@Nat.pow_lt_pow_right
def Sh:=@or_false
def Ss:=@Go.IntKind.wrap_u64
def S5:=@Int.natCast_nonneg
def Tb:=@Int.emod_eq_of_lt
def Tf:=@Nat.or_lt_two_pow
def Uu:=@Go.Proofs.Tryz.ntmps142
def Vd:=@Go.Proofs.Tryz.func142
def aE(l:List Nat):List Int:=l.map λ(x:Nat)=>(x:Int)
def aD(l):(aE l).length=l.length:=by unfold aE;rw [PB]
def iz(l m):aE (l++m)=aE l++aE m:=by unfold aE;rw [Qg]
def oB(S:Nat->Prop)(a:OA):Prop:=∀b o,a=some (AD b o)->¬S b
def oB.dJ{S g o n}(h:∀k,S k->k<n)(a:n<=g):oB S (some (AD g o)):=λb o e s=>by cases e;have:=h _ s;omega
structure mU (S:Nat->Prop) (w:WD) (na:OA) (n:Nat) (d a:OA) (tl c:Nat) (W:Wy):Prop where
 bw:dq w na n W.bw
 next:dq w d n W.next
 bQ:aG .i64 w a tl (aE W.bQ)
 qu:∃b e,a=some (AD b e)/\b<w.heap.size
 bS:tl<=c/\c<=maxLen
 bits:W.need<18446744073709551616/\W.ban<18446744073709551616
 dY:∀k,S k->k<w.heap.size
 sep:oB S na/\oB S d/\oB S a
def mU.ag{S w w' b n g c f d W}(h:mU S w b n g c f d W)(a:BW w w'):mU S w' b n g c f d W:=
 ⟨h.bw.ag a,h.next.ag a,h.bQ.ag a,by obtain ⟨l,m,e,j⟩:=h.qu;exact ⟨l,m,e,Ps j a.size⟩,h.bS,h.bits,λk i=>Ps (h.dY k i) a.size,h.sep⟩
def mU.bA{S w b n e c a d W}(h:mU S w b n e c a d W):W.bQ.length=a:=by have:=h.bQ.1;rwa [aD]at this
def kA(S:Nat->Prop)(w:WD)(v:Value)(n:Nat)(W:Wy):Prop:=∃a f e g b d c,v=gi W.need W.ban a n f e g b d c/\mU S w a n e b d c W
def kA.ag{S w w' v n W}(h:kA S w v n W)(a:BW w w'):kA S w' v n W:=by obtain ⟨b,c,i,j,d,g,f,e,h⟩:=h;exact ⟨b,c,i,j,d,g,f,e,h.ag a⟩
def iI(S:Nat->Prop)(w:WD)(n:Nat)(W:Wy)(e:Ending)(a:WD):Prop:=∃v,e=RT v/\kA S a v n W/\BW w a
def kv{S w j n nc m xc x f t W}(h:mU S w j n m x f t W)(l s d v)(E:aG .i64 w s d (aE l))(z:0<d)(D:d+f<=1000000):
 CL 167 #[gi W.need W.ban j n nc m xc x f t,SL s d v] w (iI S w n (W.dw l)):=by
 obtain ⟨F,G,rfl,r⟩:=h.qu
 refine (Ih W.need W.ban j n nc m xc F G f t (aE W.bQ) s d v (aE l) w h.bQ r E z D).mono ?_
 rintro e y ⟨g,c,rfl,u,p,q,i,B⟩
 refine ⟨_,rfl,⟨j,nc,m,xc,some (AD g 0),d+f,c,rfl,⟨h.bw.ag i,h.next.ag i,?_,?_,⟨p,q⟩,h.bits,λk C=>Ps (h.dY k C) i.size,h.sep.1,h.sep.2.1,oB.dJ h.dY B⟩⟩,i⟩
 show aG .i64 y _ _ (aE (l++W.bQ))
 rw [iz];exact u
 obtain A|⟨b,o,e,a⟩:=u.2
 omega
 cases e
 exact ⟨g,0,rfl,O9 y _ (a 0 ZO)⟩
def re{S w b n nc i xc d tl f W}(h:mU S w b n i d tl f W)(p)(q:p<n)(o:n<=1000000):
 CL 168 #[gi W.need W.ban b n nc i xc d tl f,IV p] w (iI S w n (W.ji p)):=by
 refine (G6 W.need W.ban b n nc i xc d tl f W.next p w h.next q o).mono ?_
 rintro e u ⟨g,c,rfl,r,a,j⟩
 exact ⟨_,rfl,⟨b,nc,some (AD g 0),c,d,tl,f,rfl,⟨h.bw.ag a,r,h.bQ.ag a,by obtain ⟨s,t,e,m⟩:=h.qu;exact ⟨s,t,e,Ps m a.size⟩,h.bS,h.bits,λk l=>Ps (h.dY k l) a.size,h.sep.1,oB.dJ h.dY j,h.sep.2.2⟩⟩,a⟩
def JA{S w j n m i l b f d W}(h:mU S w j n i b f d W)(p)(t:p<n)(s:n<=1000000):
 CL 141 #[gi W.need W.ban j n m i l b f d,IV p] w (iI S w n (W.dI p)):=by
 refine (Jz W.need W.ban j n m i l b f d W.bw p w h.bw t s).mono ?_
 rintro e y ⟨g,c,rfl,u,a,o⟩
 exact ⟨_,rfl,⟨some (AD g 0),c,i,l,b,f,d,rfl,⟨u,h.next.ag a,h.bQ.ag a,by obtain ⟨v,x,e,r⟩:=h.qu;exact ⟨v,x,e,Ps r a.size⟩,h.bS,h.bits,λk q=>Ps (h.dY k q) a.size,oB.dJ h.dY o,h.sep.2.1,h.sep.2.2⟩⟩,a⟩
def kW(S:Nat->Prop)(w:WD)(a:OA)(k n:Nat)(l:List Wy):Prop:=l.length=k/\(k=0\/∃b c,a=some (AD b c)/\¬S b/\∀i W,l[i]? =some W->∃d j h m e g f,mU S w d n h e g f W/\
 w.cell? (AD b (c+i*5))=some (UV W.need)/\w.cell? (AD b (c+i*5+1))=some (UV W.ban)/\w.cell? (AD b (c+i*5+2))=some (SL d n j)/\w.cell? (AD b (c+i*5+3))=some (SL h n m)/\w.cell? (AD b (c+i*5+4))=some (SL e g f))
def cM(S:Nat->Prop)(w:WD)(n:Nat)(l:List Wy)(e:Ending)(b:WD):Prop:=∃a k c,e=RT (SL a k c)/\kW S b a k n l/\BW w b
def cM.from{S w b a n l e}(f:BW w b)(h:cM S b n l e a):cM S w n l e a:=by obtain ⟨g,k,i,e,c,d⟩:=h;exact ⟨g,k,i,e,c,af f d⟩
def yo{S}(w n):cM S w n [] (RT (SN)) w:=⟨none,0,0,rfl,⟨rfl,.inl rfl⟩,Pn _ _⟩
def nR{S w a n nc e xc b d c W}(h:mU S w a n e b d c W):
 cM S w n [W] (RT (SV w.heap.size 1 1)) (w.alloc (CE #[UV W.need,UV W.ban,SL a n nc,SL e n xc,SL b d c] 193)):=by
 have f:BW w (w.alloc (CE #[UV W.need,UV W.ban,SL a n nc,SL e n xc,SL b d c] 193)):=(Pn _ w).alloc (Pf _) _
 refine ⟨_,_,_,rfl,⟨rfl,.inr ⟨_,0,rfl,λs=>QE _ (h.dY _ s),λi j g=>?_⟩⟩,f⟩
 obtain _|i:=i
 cases g
 exact ⟨a,nc,e,xc,b,d,c,h.ag f,Py (w:=w) _ 193 w.heap.size 0 rfl,Py (w:=w) _ 193 w.heap.size 1 rfl,Py (w:=w) _ 193 w.heap.size 2 rfl,Py (w:=w) _ 193 w.heap.size 3 rfl,Py (w:=w) _ 193 w.heap.size 4 rfl⟩
 simp at g
def yp{S w k n t p u l o m W a f e g b d c j}(h:mU S w k n p l o m W)(x:mU S w a n e b d c j):
 cM S w n [W,j] (RT (SV w.heap.size 2 2)) (w.alloc (CE #[UV W.need,UV W.ban,SL k n t,SL p n u,SL l o m,UV j.need,UV j.ban,SL a n f,SL e n g,SL b d c] 193)):=by
 have q:BW w (w.alloc (CE #[UV W.need,UV W.ban,SL k n t,SL p n u,SL l o m,UV j.need,UV j.ban,SL a n f,SL e n g,SL b d c] 193)):=(Pn _ w).alloc (Pf _) _
 refine ⟨_,_,_,rfl,⟨rfl,.inr ⟨_,0,rfl,λs=>QE _ (h.dY _ s),λi v r=>?_⟩⟩,q⟩
 obtain _|_|i:=i
 cases r
 exact ⟨k,t,p,u,l,o,m,h.ag q,Py (w:=w) _ 193 w.heap.size 0 rfl,Py (w:=w) _ 193 w.heap.size 1 rfl,Py (w:=w) _ 193 w.heap.size 2 rfl,Py (w:=w) _ 193 w.heap.size 3 rfl,Py (w:=w) _ 193 w.heap.size 4 rfl⟩
 cases r
 exact ⟨a,f,e,g,b,d,c,x.ag q,Py (w:=w) _ 193 w.heap.size 5 rfl,Py (w:=w) _ 193 w.heap.size 6 rfl,Py (w:=w) _ 193 w.heap.size 7 rfl,Py (w:=w) _ 193 w.heap.size 8 rfl,Py (w:=w) _ 193 w.heap.size 9 rfl⟩
 simp at r
def p6(w:WD)(z):aG .i64 (w.alloc (CE #[IV z] 3)) (some (AD w.heap.size 0)) 1 [z]:=⟨rfl,.inr ⟨_,0,rfl,λi a=>by obtain rfl:i=0:=ZO;exact Py (w:=w) _ 3 w.heap.size 0 rfl⟩⟩
def Ff(w:WD)(z y):aG .i64 (w.alloc (CE #[IV z,IV y] 3)) (some (AD w.heap.size 0)) 2 [z,y]:=⟨rfl,.inr ⟨_,0,rfl,λi a=>by obtain _|_|i:=i;exact Py (w:=w) _ 3 w.heap.size 0 rfl;exact Py (w:=w) _ 3 w.heap.size 1 rfl;omega⟩⟩
def wJ(w b c d e f t a)(h:a=w.alloc (CE #[b,c,d,e,f] t)):
 BW w a/\a.heap.size=w.heap.size+1/\(∀i v,(#[b,c,d,e,f]:Array Value)[i]? =some v->CA a w.heap.size i v/\FZ a w.heap.size i):=by
 subst h
 exact ⟨(Pn _ w).alloc (Pf _) _,PL ..,λi v g=>⟨(Py (w:=w) _ t w.heap.size i rfl).trans g,R7 _ _ _ _ rfl⟩⟩
def xH{a k N:Nat}(d:a<18446744073709551616)(f:k<64)(c:a|||2^k=N):bits BinOp.or IntKind.u64 (a:Int) (IntKind.u64.wrap (2^k))=(N:Int):=by
 have b:2^k<18446744073709551616:=Sg ZD f;have e:IntKind.u64.wrap ((2:Int)^k)=((2^k:Nat):Int):=by rw [Ss];have:((2:Int)^k)=((2^k:Nat):Int):=ZS;rw [this];exact Tb (S5 _) (Int.ofNat_lt.2 b)
 rw [e,bits_or_u64_nat _ _ d b,c]
def Kj(S A n I D J B k C W M Q f)(p:Nat)(w)(h:mU S w A n D B k C W)(G:FA w M n f)(g:eh f)(H:(Fm.aI f)[p]? =some (Fm.tt))(hn:n<=1000)(ab:k<=100000):
 CL 142 #[gi W.need W.ban A n I D J B k C,SL M n Q,IV p] w (cM S w n (split (Fm.tt) p W)):=by
 have m:=O8 λd (Y:Below w.heap.size w d)=>gx M n Q _ f (Fm.tt) p d (G.ag Y) ZO (fJ g) H
 obtain ⟨E,F,rfl,aa,u,x⟩:=G.at H
 have Z:(p:Int)<n:=ZO
 have L:=O8 h
 have U:=O8 G
 have HX:=O8 H
 have V:=O8 g
 change CA w E (F+p*2) (IV 1)at u
 change CA w E (F+p*2+1) (IV 0)at x
 have⟨R,N⟩:=EX (split (Fm.tt) p W)
 rw [N]
 have K:=O8 N
 clear h G H g N
 go_enter Vd,Uu
 go_upto_region 1 with(fail)
 have⟨d,j⟩:=EX (w.alloc (CE #[UV W.need,UV W.ban,SL A n I,SL D n J,SL B k C] 193))
 rw [j]
 have⟨b,O,T⟩:=wJ _ _ _ _ _ _ _ d j.symm
 have l:=O8 (m.o d b)
 have s:Hid (∀c,Below d.heap.size d c->Hid (Below w.heap.size w c)/\(CA c E (F+p*2) (IV 1)/\CA c E (F+p*2+1) (IV 0))/\Hid (w.heap.size<c.heap.size)/\
  ∀i v,(#[UV W.need,UV W.ban,SL A n I,SL D n J,SL B k C]:Array Value)[i]? =some v->CA c w.heap.size i v/\FZ c w.heap.size i):=λc a=>
  ⟨O8 (af b a),⟨((af b a).cell (O9 w _ u)).trans u,((af b a).cell (O9 w _ x)).trans x⟩,O8 (ZH a.size),λi v hv=>dy a (T i v hv)⟩
 clear j b O T m u x
 (try unfold BW at *);generalize z:w.heap.size=q at *
 have r:=O8 z
 clear z
 go_upto_region 2 with(go_at_call 166;apply l.o.mono;rintro e c ⟨rfl,a⟩;have⟨P,⟨u,x⟩,X,y⟩:=s.o c a;have o:=O8 y;clear a y)
 clear s l
 have t:=O8 (L.o.ag (ZR r.o P.o))
 have⟨q0,f0⟩:=o.o 0 (UV W.need) rfl
 have⟨q1,f1⟩:=o.o 1 (UV W.ban) rfl
 have q2:=(o.o 2 (SL A n I) rfl).1
 have q3:=(o.o 3 (SL D n J) rfl).1
 have q4:=(o.o 4 (SL B k C) rfl).1
 go_wp2
 go_ret
 rw [<-K.o]
 exact cM.from (ZR r.o P.o) (nR t.o)
def Kf(S z n H C I A k B W L Q f)(p:Nat)(w)(h:mU S w z n C A k B W)(F:FA w L n f)(g:eh f)(G:(Fm.aI f)[p]? =some (Fm.ff))(hn:n<=1000)(ab:k<=100000):
 CL 142 #[gi W.need W.ban z n H C I A k B,SL L n Q,IV p] w (cM S w n (split (Fm.ff) p W)):=by
 have m:=O8 λd (Y:Below w.heap.size w d)=>gx L n Q _ f (Fm.ff) p d (F.ag Y) ZO (fJ g) G
 obtain ⟨D,E,rfl,aa,t,u⟩:=F.at G
 have Z:(p:Int)<n:=ZO
 have K:=O8 h
 have U:=O8 F
 have HX:=O8 G
 have V:=O8 g
 change CA w D (E+p*2) (IV 2)at t
 change CA w D (E+p*2+1) (IV 0)at u
 have⟨R,M⟩:=EX (split (Fm.ff) p W)
 rw [M]
 have J:=O8 M
 clear h F G g M
 go_enter Vd,Uu
 go_upto_region 1 with(fail)
 have⟨d,j⟩:=EX (w.alloc (CE #[UV W.need,UV W.ban,SL z n H,SL C n I,SL A k B] 193))
 rw [j]
 have⟨b,N,T⟩:=wJ _ _ _ _ _ _ _ d j.symm
 have l:=O8 (m.o d b)
 have s:Hid (∀c,Below d.heap.size d c->Hid (Below w.heap.size w c)/\(CA c D (E+p*2) (IV 2)/\CA c D (E+p*2+1) (IV 0))/\Hid (w.heap.size<c.heap.size)/\
  ∀i v,(#[UV W.need,UV W.ban,SL z n H,SL C n I,SL A k B]:Array Value)[i]? =some v->CA c w.heap.size i v/\FZ c w.heap.size i):=λc a=>
  ⟨O8 (af b a),⟨((af b a).cell (O9 w _ t)).trans t,((af b a).cell (O9 w _ u)).trans u⟩,O8 (ZH a.size),λi v hv=>dy a (T i v hv)⟩
 clear j b N T m t u
 (try unfold BW at *);generalize y:w.heap.size=q at *
 have r:=O8 y
 clear y
 go_upto_region 2 with(go_at_call 166;apply l.o.mono;rintro e c ⟨rfl,a⟩;have⟨O,⟨t,u⟩,X,x⟩:=s.o c a;have o:=O8 x;clear a x)
 clear s l
 have P:=O8 (K.o.ag (ZR r.o O.o))
 have⟨q0,f0⟩:=o.o 0 (UV W.need) rfl
 have⟨q1,f1⟩:=o.o 1 (UV W.ban) rfl
 have q2:=(o.o 2 (SL z n H) rfl).1
 have q3:=(o.o 3 (SL C n I) rfl).1
 have q4:=(o.o 4 (SL A k B) rfl).1
 go_wp2
 go_ret
 rw [<-J.o]
 exact cM.from (ZR r.o O.o) (yo _ _)
def Ep(k S B n C F G D z E W fa fc f)(p:Nat)(w)(h:mU S w B n F D z E W)(hf:FA w fa n f)(g:eh f)(Z:(Fm.aI f)[p]? =some (Fm.prop k))(hn:n<=1000)(am:z<=100000):
 CL 142 #[gi W.need W.ban B n C F G D z E,SL fa n fc,IV p] w (cM S w n (split (Fm.prop k) p W)):=by
 have I:=O8 λj (hb:Below w.heap.size w j)=>gx fa n fc _ f (Fm.prop k) p j (hf.ag hb) ZO (fJ g) Z
 obtain ⟨T,U,rfl,al,Q,A⟩:=hf.at Z
 have ak:(p:Int)<n:=ZO
 have P:=O8 h
 have ag:=O8 hf
 have HX:=O8 Z
 have ah:=O8 g
 change CA w T (U+p*2) (IV 3)at Q
 change CA w T (U+p*2+1) (IV k)at A
 have aj:k<8:=g _ (Pm (Z)) k rfl
 have⟨N,hN⟩:=EX (W.need|||2^k)
 have o:k<64:=ZO
 have r:2^k<18446744073709551616:=Sg ZD o
 have x:N<18446744073709551616:=by rw [<-hN];exact Tf (n:=64) h.bits.1 r
 have ac:Hid (bits BinOp.or IntKind.u64 (W.need:Int) (IntKind.u64.wrap (2^k))=(N:Int)):=xH h.bits.1 o hN
 have c:Hid (bits BinOp.and IntKind.u64 ((N:Int)) ((W.ban:Int))=((N&&&W.ban:Nat):Int)):=RC _ _ x h.bits.2
 have ab:=O8 x
 have aa:=O8 hN
 clear hN x r
 have⟨R,hR⟩:=EX (split (Fm.prop k) p W)
 rw [hR]
 have M:=O8 hR
 clear h hf Z g hR
 go_enter Vd,Uu
 go_upto_region 1 with(fail)
 have⟨j,y⟩:=EX (w.alloc (CE #[UV W.need,UV W.ban,SL B n C,SL F n G,SL D z E] 193))
 rw [y]
 have⟨d,ad,hq⟩:=wJ _ _ _ _ _ _ _ j y.symm
 have H:=O8 (I.o j d)
 have O:Hid (∀b,Below j.heap.size j b->Hid (Below w.heap.size w b)/\(CA b T (U+p*2) (IV 3)/\CA b T (U+p*2+1) (IV k))/\Hid (w.heap.size<b.heap.size)/\
  ∀i v,(#[UV W.need,UV W.ban,SL B n C,SL F n G,SL D z E]:Array Value)[i]? =some v->CA b w.heap.size i v/\FZ b w.heap.size i):=λb a=>
  ⟨O8 (af d a),⟨((af d a).cell (O9 w _ Q)).trans Q,((af d a).cell (O9 w _ A)).trans A⟩,O8 (ZH a.size),λi v hv=>dy a (hq i v hv)⟩
 clear y d ad hq I Q A
 (try unfold BW at *);generalize Y:w.heap.size=q at *
 have L:=O8 Y
 clear Y
 go_upto_region 2 with(go_at_call 166;apply H.o.mono;rintro e b ⟨rfl,a⟩;have⟨HB,⟨Q,A⟩,ai,X⟩:=O.o b a;have J:=O8 X;clear a X)
 clear O H
 have ae:=O8 (P.o.ag (ZR L.o HB.o))
 have⟨q0,f0⟩:=J.o 0 (UV W.need) rfl
 have⟨q1,f1⟩:=J.o 1 (UV W.ban) rfl
 have q2:=(J.o 2 (SL B n C) rfl).1
 have q3:=(J.o 3 (SL F n G) rfl).1
 have q4:=(J.o 4 (SL D z E) rfl).1
 go_upto_region 7 with(fail)
 refine aw 10 (S:=λW'=>CA W' q 0 (UV W.need)/\CA W' T (U+p*2+1) (IV k)) ZK (⟨q0,A⟩) (λu=>?_)
 refine aB 0 ?_
 refine aB 1 ?_
 refine aB 2 ?_
 refine aB 3 ?_
 refine aB 4 ?_
 refine aB 5 ?_
 refine aB 6 ?_
 refine aB 7 ?_
 refine aB 8 ?_
 refine aB 9 ?_
 clear u
 rw [ac.o]
 refine aK 10 λK hK=>?_
 go_simp
 refine hK.q ?_
 clear hK K
 refine az ZK ?_
 have s:Hid (Below w.heap.size w (b.drew.setCell (AD q 0) (UV N))):=by have:=L.o;rw [this];exact (HB.o.drew).setCell (p:=(AD q 0)) (Pf _) _
 have e:(W.kQ k).need=N:=aa.o
 have l:Hid (mU S (b.drew.setCell (AD q 0) (UV N)) B n F D z E (W.kQ k)):=by have m:=P.o.ag s.o;exact ⟨m.bw,m.next,m.bQ,m.qu,m.bS,⟨ZR e ab.o,m.bits.2⟩,m.dY,m.sep⟩
 by_cases hz:N&&&W.ban=0
 ·rw [hz]at c;have t:Hid (split (Fm.prop k) p W=[W.kQ k]):=by show Wy.pure (W.kQ k)=_;unfold Wy.pure;rw [PW (by show(W.kQ k).need&&&W.ban=0;rw [e];exact hz)]
  have HR:=O8 (nR (nc:=C) (xc:=G) l.o);rw [show((W.kQ k).need:Int)=(N:Int)from by rw [e]]at HR;rw [show(b.drew.setCell (AD q 0) (UV N)).heap.size=b.heap.size from Ry ..]at HR;have V:bits BinOp.and IntKind.u64 (N:Int) (W.ban:Int)=0:=c.o;clear e hz;go_wp2;go_ret;rw [<-M.o,t.o];exact cM.from s.o HR.o
 ·have t:Hid (split (Fm.prop k) p W=[]):=by show Wy.pure (W.kQ k)=_;unfold Wy.pure;rw [Qa (by show¬(W.kQ k).need&&&W.ban=0;rw [e];exact hz)]
  have an:(((N&&&W.ban:Nat):Int)==0)=false:=Pq.2 ZO;have ao:((N&&&W.ban)==0)=false:=Pq.2 hz;have V:=c.o;clear e l;go_wp2;go_ret;rw [<-M.o,t.o];exact cM.from s.o (yo _ _)
def Hm(k S D n E H I F C G W fa fc f)(p:Nat)(w)(h:mU S w D n H F C G W)(hf:FA w fa n f)(j:eh f)(hx:(Fm.aI f)[p]? =some (Fm.neg (Fm.prop k)))(hn:n<=1000)(ar:C<=100000):
 CL 142 #[gi W.need W.ban D n E H I F C G,SL fa n fc,IV p] w (cM S w n (split (Fm.neg (Fm.prop k)) p W)):=by
 have L:=O8 λl (hb:Below w.heap.size w l)=>gx fa n fc _ f (Fm.neg (Fm.prop k)) p l (hf.ag hb) ZO (fJ j) hx
 obtain ⟨V,X,rfl,aq,T,U⟩:=hf.at hx
 have ap:(p:Int)<n:=ZO
 have Q:=O8 h
 have ab:=O8 hf
 have HX:=O8 hx
 have am:=O8 j
 change CA w V (X+p*2) (IV 4)at T
 change CA w V (X+p*2+1) (IV 0)at U
 have ao:k<8:=j _ (Pm (Fm.fY Fm.One.neg f p hx|>.2)) k rfl
 have⟨N,hN⟩:=EX (W.ban|||2^k)
 have r:k<64:=ZO
 have s:2^k<18446744073709551616:=Sg ZD r
 have z:N<18446744073709551616:=by rw [<-hN];exact Tf (n:=64) h.bits.2 s
 have ae:Hid (bits BinOp.or IntKind.u64 (W.ban:Int) (IntKind.u64.wrap (2^k))=(N:Int)):=xH h.bits.2 r hN
 have d:Hid (bits BinOp.and IntKind.u64 ((W.need:Int)) ((N:Int))=((W.need&&&N:Nat):Int)):=RC _ _ h.bits.1 z
 have ad:=O8 z
 have ac:=O8 hN
 clear hN z s
 have⟨R,hR⟩:=EX (split (Fm.neg (Fm.prop k)) p W)
 rw [hR]
 have O:=O8 hR
 clear h hf hx j hR
 go_enter Vd,Uu
 go_upto_region 1 with(fail)
 have⟨l,A⟩:=EX (w.alloc (CE #[UV W.need,UV W.ban,SL D n E,SL H n I,SL F C G] 193))
 rw [A]
 have⟨g,ah,hq⟩:=wJ _ _ _ _ _ _ _ l A.symm
 have J:=O8 (L.o l g)
 have P:Hid (∀b,Below l.heap.size l b->Hid (Below w.heap.size w b)/\(CA b V (X+p*2) (IV 4)/\CA b V (X+p*2+1) (IV 0))/\Hid (w.heap.size<b.heap.size)/\
  ∀i v,(#[UV W.need,UV W.ban,SL D n E,SL H n I,SL F C G]:Array Value)[i]? =some v->CA b w.heap.size i v/\FZ b w.heap.size i):=λb a=>
  ⟨O8 (af g a),⟨((af g a).cell (O9 w _ T)).trans T,((af g a).cell (O9 w _ U)).trans U⟩,O8 (ZH a.size),λi v hv=>dy a (hq i v hv)⟩
 clear A g ah hq L T U
 (try unfold BW at *);generalize aa:w.heap.size=q at *
 have u:=O8 aa
 clear aa
 go_upto_region 2 with(go_at_call 166;apply J.o.mono;rintro e b ⟨rfl,a⟩;have⟨HB,⟨T,U⟩,an,Z⟩:=P.o b a;have M:=O8 Z;clear a Z)
 clear P J
 have ai:=O8 (Q.o.ag (ZR u.o HB.o))
 have⟨q0,f0⟩:=M.o 0 (UV W.need) rfl
 have⟨q1,f1⟩:=M.o 1 (UV W.ban) rfl
 have q2:=(M.o 2 (SL D n E) rfl).1
 have q3:=(M.o 3 (SL H n I) rfl).1
 have q4:=(M.o 4 (SL F C G) rfl).1
 have⟨ag,B⟩:=Fm.fY Fm.One.neg f p HX.o
 obtain ⟨c,rfl⟩:∃c,p=c+1:=⟨p-1,ZO⟩
 rw [Su]at B
 obtain ⟨_,_,e,-,e0,e1⟩:=(ab.o.ag (ZR u.o HB.o)).at B
 cases e
 change b.cell? _=some (IV k)at e1
 have al:c<n:=ZO
 have ak:(c:Int)<n:=ZO
 have aj:(0:Int)<=c:=ZO
 have u0:IntKind.i64.wrap (c:Int)=c:=Ql _ ZO
 have u1:IntKind.i64.wrap ((c:Int)+1-1)=(c:Int):=by rw [Sa];exact u0
 clear B e0 ag
 go_upto_region 9 with(fail)
 refine aw 11 (S:=λW'=>CA W' q 1 (UV W.ban)/\CA W' V (X+c*2+1) (IV k)) ZK (⟨q1,e1⟩) (λy=>?_)
 refine aB 0 ?_
 refine aB 1 ?_
 refine aB 2 ?_
 refine aB 3 ?_
 refine aB 4 ?_
 refine aB 5 ?_
 refine aB 6 ?_
 refine aB 7 ?_
 refine aB 8 ?_
 refine aB 9 ?_
 refine aB 10 ?_
 clear y
 rw [ae.o]
 refine aK 11 λK hK=>?_
 go_simp
 refine hK.q ?_
 clear hK K
 refine az ZK ?_
 have t:Hid (Below w.heap.size w (b.drew.setCell (AD q 1) (UV N))):=by have:=u.o;rw [this];exact (HB.o.drew).setCell (p:=(AD q 1)) (Pf _) _
 have e:(W.pQ k).ban=N:=ac.o
 have m:Hid (mU S (b.drew.setCell (AD q 1) (UV N)) D n H F C G (W.pQ k)):=by have o:=Q.o.ag t.o;exact ⟨o.bw,o.next,o.bQ,o.qu,o.bS,⟨o.bits.1,ZR e ad.o⟩,o.dY,o.sep⟩
 by_cases hz:W.need&&&N=0
 ·rw [hz]at d;have x:Hid (split (Fm.neg (Fm.prop k)) (c+1) W=[W.pQ k]):=by show Wy.pure (W.pQ k)=_;unfold Wy.pure;rw [PW (by show W.need&&&(W.pQ k).ban=0;rw [e];exact hz)]
  have HR:=O8 (nR (nc:=E) (xc:=I) m.o);rw [show((W.pQ k).ban:Int)=(N:Int)from by rw [e]]at HR;rw [show(b.drew.setCell (AD q 1) (UV N)).heap.size=b.heap.size from Ry ..]at HR;have Y:bits BinOp.and IntKind.u64 (W.need:Int) (N:Int)=0:=d.o;clear e hz;go_wp2;go_ret;rw [<-O.o,x.o];exact cM.from t.o HR.o
 ·have x:Hid (split (Fm.neg (Fm.prop k)) (c+1) W=[]):=by show Wy.pure (W.pQ k)=_;unfold Wy.pure;rw [Qa (by show¬W.need&&&(W.pQ k).ban=0;rw [e];exact hz)]
  have au:(((W.need&&&N:Nat):Int)==0)=false:=Pq.2 ZO;have av:((W.need&&&N)==0)=false:=Pq.2 hz;have Y:=d.o;clear e m;go_wp2;go_ret;rw [<-O.o,x.o];exact cM.from t.o (yo _ _)
def Hk(o k S Q n u V y T x U W fa fc f)(p:Nat)(w)(h:mU S w Q n V T x U W)(Z:FA w fa n f)(s:eh f)(P:(Fm.aI f)[p]? =some (Fm.and o k))(hn:n<=1000)(ap:x<=100000):
 CL 142 #[gi W.need W.ban Q n u V y T x U,SL fa n fc,IV p] w (cM S w n (split (Fm.and o k) p W)):=by
 have r:=O8 λm (hb:Below w.heap.size w m)=>gx fa n fc _ f (Fm.and o k) p m (Z.ag hb) ZO (fJ s) P
 obtain ⟨X,Y,rfl,ao,F,G⟩:=Z.at P
 have an:(p:Int)<n:=ZO
 have ag:=O8 h
 have al:=O8 Z
 have HX:=O8 P
 have am:=O8 s
 change CA w X (Y+p*2) (IV 5)at F
 change CA w X (Y+p*2+1) (IV 0)at G
 have⟨ah,ak,aj⟩:=Fm.dR (Fm.gj.and (a:=o) (b:=k)) f p P
 have⟨L,hL⟩:=EX (p-1-Fm.size k)
 have⟨M,hM⟩:=EX (p-1)
 have I:qS (Fm.and o k) p=(L:Int):=by show(p:Int)-1-Fm.size k=_;omega
 have J:uB (Fm.and o k) p=(M:Int):=by show(p:Int)-1=_;omega
 rw [I,J]at r
 have ac:Hid (split (Fm.and o k) p W=[W.dw [L,M]]):=by show _=_;rw [<-hL,<-hM];rfl
 clear I J aj ak ah hL hM
 have⟨R,hR⟩:=EX (split (Fm.and o k) p W)
 rw [hR]
 have ad:=O8 hR
 clear h Z P s hR
 go_enter Vd,Uu
 go_upto_region 1 with(fail)
 have⟨m,t⟩:=EX (w.alloc (CE #[UV W.need,UV W.ban,SL Q n u,SL V n y,SL T x U] 193))
 rw [t]
 have⟨j,ai,hq⟩:=wJ _ _ _ _ _ _ _ m t.symm
 have z:=O8 (r.o m j)
 have D:Hid (∀d,Below m.heap.size m d->Hid (Below w.heap.size w d)/\(CA d X (Y+p*2) (IV 5)/\CA d X (Y+p*2+1) (IV 0))/\Hid (w.heap.size<d.heap.size)/\
  ∀i v,(#[UV W.need,UV W.ban,SL Q n u,SL V n y,SL T x U]:Array Value)[i]? =some v->CA d w.heap.size i v/\FZ d w.heap.size i):=λd c=>
  ⟨O8 (af j c),⟨((af j c).cell (O9 w _ F)).trans F,((af j c).cell (O9 w _ G)).trans G⟩,O8 (ZH c.size),λi v hv=>dy c (hq i v hv)⟩
 clear t j ai hq r F G
 (try unfold BW at *);generalize N:w.heap.size=q at *
 have B:=O8 N
 clear N
 go_upto_region 2 with(go_at_call 166;apply z.o.mono;rintro e d ⟨rfl,c⟩;have⟨HB,⟨F,G⟩,C,K⟩:=D.o d c;have A:=O8 K;clear c K)
 clear D z
 have E:=O8 (ag.o.ag (ZR B.o HB.o))
 have⟨q0,f0⟩:=A.o 0 (UV W.need) rfl
 have⟨q1,f1⟩:=A.o 1 (UV W.ban) rfl
 have q2:=(A.o 2 (SL Q n u) rfl).1
 have q3:=(A.o 3 (SL V n y) rfl).1
 have q4:=(A.o 4 (SL T x U) rfl).1
 have g:Below d.heap.size d (d.alloc (CE #[IV L,IV M] 3)):=(Pn _ _).alloc (Pf _) _
 have HC:=O8 (kv (nc:=u) (xc:=y) (E.o.ag g) [L,M] _ 2 2 (Ff d L M) ZD ZO)
 have ab:Hid (Below q w _):=HB.o.trans (g.mono (ZH C.o))
 have l:Hid (d.heap.size<=_):=g.size
 clear g
 go_wp2_with (go_at_call 167;apply HC.o.mono;rintro e w3 ⟨v,rfl,⟨aq,ar,ax,ay,au,aw,av,rfl,O⟩,H⟩;have ae:=O8 O;have aa:=O8 (ab.o.trans (H.mono (ZI C.o l.o)));clear O H)
 go_ret
 rw [<-ad.o,ac.o]
 exact cM.from (ZR B.o aa.o) (nR ae.o)
def Hn(o S I n r M s J j K W Z fc f)(p:Nat)(w)(h:mU S w I n M J j K W)(P:FA w Z n f)(l:eh f)(H:(Fm.aI f)[p]? =some (Fm.cy o))(hn:n<=1000)(aj:j<=100000):
 CL 142 #[gi W.need W.ban I n r M s J j K,SL Z n fc,IV p] w (cM S w n (split (Fm.cy o) p W)):=by
 have k:=O8 λg (hb:Below w.heap.size w g)=>gx Z n fc _ f (Fm.cy o) p g (P.ag hb) ZO (fJ l) H
 obtain ⟨N,O,rfl,ac,A,B⟩:=P.at H
 have ai:(p:Int)<n:=ZO
 have Y:=O8 h
 have ag:=O8 P
 have HX:=O8 H
 have ah:=O8 l
 change CA w N (O+p*2) (IV 8)at A
 change CA w N (O+p*2+1) (IV 0)at B
 have⟨ab,ae⟩:=Fm.fY (Fm.One.cy (a:=o)) f p H
 have⟨L,hL⟩:=EX (p-1)
 have D:qS (Fm.cy o) p=(L:Int):=by show(p:Int)-1=_;omega
 rw [D]at k
 have aa:L<n:=ZH ac
 have T:Hid (split (Fm.cy o) p W=[W.ji L]):=by show _=_;rw [<-hL];rfl
 clear D ae ab hL
 have⟨R,hR⟩:=EX (split (Fm.cy o) p W)
 rw [hR]
 have V:=O8 hR
 clear h P H l hR
 go_enter Vd,Uu
 go_upto_region 1 with(fail)
 have⟨g,m⟩:=EX (w.alloc (CE #[UV W.need,UV W.ban,SL I n r,SL M n s,SL J j K] 193))
 rw [m]
 have⟨c,ad,hq⟩:=wJ _ _ _ _ _ _ _ g m.symm
 have t:=O8 (k.o g c)
 have y:Hid (∀d,Below g.heap.size g d->Hid (Below w.heap.size w d)/\(CA d N (O+p*2) (IV 8)/\CA d N (O+p*2+1) (IV 0))/\Hid (w.heap.size<d.heap.size)/\
  ∀i v,(#[UV W.need,UV W.ban,SL I n r,SL M n s,SL J j K]:Array Value)[i]? =some v->CA d w.heap.size i v/\FZ d w.heap.size i):=λd b=>
  ⟨O8 (af c b),⟨((af c b).cell (O9 w _ A)).trans A,((af c b).cell (O9 w _ B)).trans B⟩,O8 (ZH b.size),λi v hv=>dy b (hq i v hv)⟩
 clear m c ad hq k A B
 (try unfold BW at *);generalize F:w.heap.size=q at *
 have x:=O8 F
 clear F
 go_upto_region 2 with(go_at_call 166;apply t.o.mono;rintro e d ⟨rfl,b⟩;have⟨HB,⟨A,B⟩,U,E⟩:=y.o d b;have u:=O8 E;clear b E)
 clear y t
 have z:=O8 (Y.o.ag (ZR x.o HB.o))
 have⟨q0,f0⟩:=u.o 0 (UV W.need) rfl
 have⟨q1,f1⟩:=u.o 1 (UV W.ban) rfl
 have q2:=(u.o 2 (SL I n r) rfl).1
 have q3:=(u.o 3 (SL M n s) rfl).1
 have q4:=(u.o 4 (SL J j K) rfl).1
 have HC:=O8 (re (nc:=r) (xc:=s) (tl:=j) z.o L aa ZO)
 go_wp2_with (go_at_call 168;apply HC.o.mono;rintro e w3 ⟨v,rfl,⟨ak,al,ap,aq,am,ao,an,rfl,G⟩,C⟩;have X:=O8 G;have Q:=O8 (HB.o.trans (C.mono (ZH U.o)));clear G C)
 go_ret
 rw [<-V.o,T.o]
 exact cM.from (ZR x.o Q.o) (nR X.o)
def Ki(I A S B n u F x C z D W fa fc f)(p:Nat)(w)(h:mU S w B n F C z D W)(hf:FA w fa n f)(O:eh f)(hx:(Fm.aI f)[p]? =some (Fm.or I A))(hn:n<=1000)(aD:z<=100000):
 CL 142 #[gi W.need W.ban B n u F x C z D,SL fa n fc,IV p] w (cM S w n (split (Fm.or I A) p W)):=by
 have J:=O8 λE (d:Below w.heap.size w E)=>gx fa n fc _ f (Fm.or I A) p E (hf.ag d) ZO (fJ O) hx
 obtain ⟨fb,fo,rfl,aC,Z,c1⟩:=hf.at hx
 have aA:(p:Int)<n:=ZO
 have ao:=O8 h
 have av:=O8 hf
 have HX:=O8 hx
 have ax:=O8 O
 change CA w fb (fo+p*2) (IV 6)at Z
 change CA w fb (fo+p*2+1) (IV 0)at c1
 have⟨ap,au,ar⟩:=Fm.dR (Fm.gj.or (a:=I) (b:=A)) f p hx
 have⟨L,hL⟩:=EX (p-1-Fm.size A)
 have⟨M,hM⟩:=EX (p-1)
 have ab:qS (Fm.or I A) p=(L:Int):=by show(p:Int)-1-Fm.size A=_;omega
 have ac:uB (Fm.or I A) p=(M:Int):=by show(p:Int)-1=_;omega
 rw [ab,ac]at J
 have aj:Hid (split (Fm.or I A) p W=[W.dw [L],W.dw [M]]):=by show _=_;rw [<-hL,<-hM];rfl
 clear ab ac ar au ap hL hM
 have⟨R,hR⟩:=EX (split (Fm.or I A) p W)
 rw [hR]
 have al:=O8 hR
 clear h hf hx O hR
 go_enter Vd,Uu
 go_upto_region 1 with(fail)
 have⟨E,P⟩:=EX (w.alloc (CE #[UV W.need,UV W.ban,SL B n u,SL F n x,SL C z D] 193))
 rw [P]
 have⟨r,aq,hq⟩:=wJ _ _ _ _ _ _ _ E P.symm
 have Q:=O8 (J.o E r)
 have U:Hid (∀m,Below E.heap.size E m->Hid (Below w.heap.size w m)/\(CA m fb (fo+p*2) (IV 6)/\CA m fb (fo+p*2+1) (IV 0))/\Hid (w.heap.size<m.heap.size)/\
  ∀i v,(#[UV W.need,UV W.ban,SL B n u,SL F n x,SL C z D]:Array Value)[i]? =some v->CA m w.heap.size i v/\FZ m w.heap.size i):=λm c=>
  ⟨O8 (af r c),⟨((af r c).cell (O9 w _ Z)).trans Z,((af r c).cell (O9 w _ c1)).trans c1⟩,O8 (ZH c.size),λi v t=>dy c (hq i v t)⟩
 clear P r aq hq J Z c1
 (try unfold BW at *);generalize ae:w.heap.size=q at *
 have T:=O8 ae
 clear ae
 go_upto_region 2 with(go_at_call 166;apply Q.o.mono;rintro e m ⟨rfl,c⟩;have⟨HB,⟨Z,c1⟩,ak,ad⟩:=U.o m c;have y:=O8 ad;clear c ad)
 clear U Q
 have X:=O8 (ao.o.ag (ZR T.o HB.o))
 have⟨q0,f0⟩:=y.o 0 (UV W.need) rfl
 have⟨q1,f1⟩:=y.o 1 (UV W.ban) rfl
 have q2:=(y.o 2 (SL B n u) rfl).1
 have q3:=(y.o 3 (SL F n x) rfl).1
 have q4:=(y.o 4 (SL C z D) rfl).1
 go_upto_region 13 with(fail)
 refine aw 8 (S:=λY=>CA Y q 0 (UV W.need)/\CA Y q 1 (UV W.ban)/\CA Y q 2 (SL B n u)/\CA Y q 3 (SL F n x)/\CA Y q 4 (SL C z D)) ZK (⟨q0,q1,q2,q3,q4⟩) (λN=>?_)
 refine aB 0 ?_ [3,0]
 refine aB 1 ?_ [3,2,1]
 refine aB 4 ?_ [7,4]
 refine aB 5 ?_ [7,6,5]
 have G:Hid (mU S m.drew B n F C z D W):=X.o.ag (Pn _ _).drew
 clear N
 refine bY [2,3,6,7] (λi=>if i=2 then 61 else if i=3 then 62 else if i=6 then 65 else 66) #[true,true,true,true,true,true,true,true,false,false] 2
  (λi v w=>match i with|2=>∃b,v=SV b 1 1/\aG .i64 w (some (AD b 0)) 1 (aE [L])|6=>∃b,v=SV b 1 1/\aG .i64 w (some (AD b 0)) 1 (aE [M])|3=>kA S w v n (W.dw [L])|_=>kA S w v n (W.dw [M])) ZK ZK rfl ZD ?st1 ?st2 ZD ?st3 ?st4
 case st1=>
  intro i v w4 w5 t d;split at t
  ·obtain ⟨b,e,h⟩:=t;exact ⟨b,e,h.ag d⟩
  ·obtain ⟨b,e,h⟩:=t;exact ⟨b,e,h.ag d⟩
  ·exact kA.ag t d
  ·exact kA.ag t d
 case st2=>intro k d;exact ⟨(dy d (y.o 0 _ rfl)).1,(dy d (y.o 1 _ rfl)).1,(dy d (y.o 2 _ rfl)).1,(dy d (y.o 3 _ rfl)).1,(dy d (y.o 4 _ rfl)).1⟩
 case st3=>
  rintro l V k i o hl ay hi H hr hJ K j;simp only [PO,QL,Sh]at hi;obtain rfl|rfl|rfl|rfl:=hi
  ·simp only [PA,Pt,Pu,PJ]at H;subst H
   refine cB (v:=SV k.heap.size 1 1) (w':=k.alloc (CE #[IV L] 3)) ?_ (j _ _ ((Pn _ _).alloc (Pf _) _) ⟨_,rfl,p6 k _⟩);clear j;refine ZY ?_;go_simp
  ·simp only [PA,Pt,Pu,PJ]at H;subst H
   have⟨bl,g,s⟩:=hJ.oZ 2 ZD (bj (l:=[2]) ZK hr 2 ZS);change V 61=_ at g;refine aO (R:=iI S k n (W.dw [L])) (f:=167) (args:=#[gi W.need W.ban B n u F x C z D,V 61]) (by rw [g];exact kv (nc:=u) (xc:=x) (G.o.ag hJ.aJ) [L] _ 1 1 s ZD ZO) ?_ (λe w4 ⟨v,he,t,d⟩=>⟨v,he,j v w4 d t⟩);clear j g;refine ZY ?_;go_simp
  ·simp only [PA,Pt,Pu,PJ]at H;subst H
   refine cB (v:=SV k.heap.size 1 1) (w':=k.alloc (CE #[IV M] 3)) ?_ (j _ _ ((Pn _ _).alloc (Pf _) _) ⟨_,rfl,p6 k _⟩);clear j;refine ZY ?_;go_simp
  ·simp only [PA,Pt,Pu,PJ]at H;subst H
   have⟨bl,g,s⟩:=hJ.oZ 6 ZD (bj (l:=[6]) ZK hr 6 ZS);change V 65=_ at g;refine aO (R:=iI S k n (W.dw [M])) (f:=167) (args:=#[gi W.need W.ban B n u F x C z D,V 65]) (by rw [g];exact kv (nc:=u) (xc:=x) (G.o.ag hJ.aJ) [M] _ 1 1 s ZD ZO) ?_ (λe w4 ⟨v,he,t,d⟩=>⟨v,he,j v w4 d t⟩);clear j g;refine ZY ?_;go_simp
 case st4=>intro V k aa hV;refine ZY ?_;have⟨aF,aI,aT,aV,aL,aR,aP,e5,ag⟩:=hV 3 ZD;have⟨aH,aJ,aU,aW,aM,aS,aQ,e6,ah⟩:=hV 7 ZD;change V 62=_ at e5;change V 66=_ at e6;rw [e5,e6];have am:=O8 ag;have an:=O8 ah;have ai:Hid (Below q w k):=HB.o.drew.trans (Below.mono aa (by have:=HB.o.size;have:=ak.o;show q<=m.heap.size;omega));clear hV e5 e6 ag ah aa;refine aK 8 λK j=>?_;go_simp;refine j.q ?_;clear j K;refine aK 9 λK j=>?_;go_simp;refine j.q ?_;clear j K;refine az ZK ?_;go_wp2;go_ret;rw [<-al.o,aj.o];exact cM.from (ZR T.o ai.o) (yp am.o an.o)
def Hq(J B S D n u H x E A F W fa fc f)(p:Nat)(w)(h:mU S w D n H E A F W)(hf:FA w fa n f)(P:eh f)(hx:(Fm.aI f)[p]? =some (Fm.dA J B))(hn:n<=1000)(aP:A<=100000):
 CL 142 #[gi W.need W.ban D n u H x E A F,SL fa n fc,IV p] w (cM S w n (split (Fm.dA J B) p W)):=by
 have N:=O8 λG (c:Below w.heap.size w G)=>gx fa n fc _ f (Fm.dA J B) p G (hf.ag c) ZO (fJ P) hx
 obtain ⟨fb,fo,rfl,aq,c0,c1⟩:=hf.at hx
 have aM:(p:Int)<n:=ZO
 have ao:=O8 h
 have aI:=O8 hf
 have HX:=O8 hx
 have aJ:=O8 P
 change CA w fb (fo+p*2) (IV 9)at c0
 change CA w fb (fo+p*2+1) (IV 0)at c1
 have⟨ap,av,au⟩:=Fm.dR (Fm.gj.dA (a:=J) (b:=B)) f p hx
 have⟨L,hL⟩:=EX (p-1-Fm.size B)
 have⟨M,hM⟩:=EX (p-1)
 have ac:qS (Fm.dA J B) p=(L:Int):=by show(p:Int)-1-Fm.size B=_;omega
 have ad:uB (Fm.dA J B) p=(M:Int):=by show(p:Int)-1=_;omega
 rw [ac,ad]at N
 have aj:Hid (split (Fm.dA J B) p W=[W.dw [M],(W.dw [L]).ji p]):=by show _=_;rw [<-hL,<-hM];rfl
 clear ac ad au av ap hL hM
 have⟨R,hR⟩:=EX (split (Fm.dA J B) p W)
 rw [hR]
 have al:=O8 hR
 clear h hf hx P hR
 go_enter Vd,Uu
 go_upto_region 1 with(fail)
 have⟨G,T⟩:=EX (w.alloc (CE #[UV W.need,UV W.ban,SL D n u,SL H n x,SL E A F] 193))
 rw [T]
 have⟨s,ar,hq⟩:=wJ _ _ _ _ _ _ _ G T.symm
 have X:=O8 (N.o G s)
 have Z:Hid (∀r,Below G.heap.size G r->Hid (Below w.heap.size w r)/\(CA r fb (fo+p*2) (IV 9)/\CA r fb (fo+p*2+1) (IV 0))/\Hid (w.heap.size<r.heap.size)/\
  ∀i v,(#[UV W.need,UV W.ban,SL D n u,SL H n x,SL E A F]:Array Value)[i]? =some v->CA r w.heap.size i v/\FZ r w.heap.size i):=λr d=>
  ⟨O8 (af s d),⟨((af s d).cell (O9 w _ c0)).trans c0,((af s d).cell (O9 w _ c1)).trans c1⟩,O8 (ZH d.size),λi v k=>dy d (hq i v k)⟩
 clear T s ar hq N c0 c1
 (try unfold BW at *);generalize ag:w.heap.size=q at *
 have Y:=O8 ag
 clear ag
 go_upto_region 2 with(go_at_call 166;apply X.o.mono;rintro e r ⟨rfl,d⟩;have⟨HB,⟨c0,c1⟩,ak,ae⟩:=Z.o r d;have y:=O8 ae;clear d ae)
 clear Z X
 have aa:=O8 (ao.o.ag (ZR Y.o HB.o))
 have⟨q0,f0⟩:=y.o 0 (UV W.need) rfl
 have⟨q1,f1⟩:=y.o 1 (UV W.ban) rfl
 have q2:=(y.o 2 (SL D n u) rfl).1
 have q3:=(y.o 3 (SL H n x) rfl).1
 have q4:=(y.o 4 (SL E A F) rfl).1
 go_upto_region 17 with(fail)
 refine aw 10 (S:=λW'=>CA W' q 0 (UV W.need)/\CA W' q 1 (UV W.ban)/\CA W' q 2 (SL D n u)/\CA W' q 3 (SL H n x)/\CA W' q 4 (SL E A F)) ZK (⟨q0,q1,q2,q3,q4⟩) (λO=>?_)
 refine aB 0 ?_ [3,0]
 refine aB 1 ?_ [3,2,1]
 refine aB 4 ?_ [9,7,4]
 refine aB 5 ?_ [9,7,6,5]
 refine aB 8 ?_ [9,8]
 have I:Hid (mU S r.drew D n H E A F W):=aa.o.ag (Pn _ _).drew
 clear O
 refine bY [2,3,6,7,9] (λi=>if i=2 then 78 else if i=3 then 79 else if i=6 then 82 else if i=7 then 83 else 85) #[true,true,true,true,true,true,true,true,true,true,false,false] 2
  (λi v w=>match i with|2=>∃b,v=SV b 1 1/\aG .i64 w (some (AD b 0)) 1 (aE [M])|6=>∃b,v=SV b 1 1/\aG .i64 w (some (AD b 0)) 1 (aE [L])|3=>kA S w v n (W.dw [M])|7=>kA S w v n (W.dw [L])|_=>kA S w v n ((W.dw [L]).ji p)) ZK ZK rfl ZD ?st1 ?st2 ZD ?st3 ?st4
 case st1=>
  intro i v U w5 k c;split at k
  ·obtain ⟨b,e,h⟩:=k;exact ⟨b,e,h.ag c⟩
  ·obtain ⟨b,e,h⟩:=k;exact ⟨b,e,h.ag c⟩
  ·exact kA.ag k c
  ·exact kA.ag k c
  ·exact kA.ag k c
 case st2=>intro m c;exact ⟨(dy c (y.o 0 _ rfl)).1,(dy c (y.o 1 _ rfl)).1,(dy c (y.o 2 _ rfl)).1,(dy c (y.o 3 _ rfl)).1,(dy c (y.o 4 _ rfl)).1⟩
 case st3=>
  rintro l V m i o hl aL hi z hr hJ K g;simp only [PO,QL,Sh]at hi;obtain rfl|rfl|rfl|rfl|rfl:=hi
  ·simp only [PA,Pt,Pu,PJ]at z;subst z
   refine cB (v:=SV m.heap.size 1 1) (w':=m.alloc (CE #[IV M] 3)) ?_ (g _ _ ((Pn _ _).alloc (Pf _) _) ⟨_,rfl,p6 m _⟩);clear g;refine ZY ?_;go_simp
  ·simp only [PA,Pt,Pu,PJ]at z;subst z
   have⟨bl,j,t⟩:=hJ.oZ 2 ZD (bj (l:=[2]) ZK hr 2 ZS);change V 78=_ at j;refine aO (R:=iI S m n (W.dw [M])) (f:=167) (args:=#[gi W.need W.ban D n u H x E A F,V 78]) (by rw [j];exact kv (nc:=u) (xc:=x) (I.o.ag hJ.aJ) [M] _ 1 1 t ZD ZO) ?_ (λe U ⟨v,he,k,c⟩=>⟨v,he,g v U c k⟩);clear g j;refine ZY ?_;go_simp
  ·simp only [PA,Pt,Pu,PJ]at z;subst z
   refine cB (v:=SV m.heap.size 1 1) (w':=m.alloc (CE #[IV L] 3)) ?_ (g _ _ ((Pn _ _).alloc (Pf _) _) ⟨_,rfl,p6 m _⟩);clear g;refine ZY ?_;go_simp
  ·simp only [PA,Pt,Pu,PJ]at z;subst z
   have⟨bl,j,t⟩:=hJ.oZ 6 ZD (bj (l:=[6]) ZK hr 6 ZS);change V 82=_ at j;refine aO (R:=iI S m n (W.dw [L])) (f:=167) (args:=#[gi W.need W.ban D n u H x E A F,V 82]) (by rw [j];exact kv (nc:=u) (xc:=x) (I.o.ag hJ.aJ) [L] _ 1 1 t ZD ZO) ?_ (λe U ⟨v,he,k,c⟩=>⟨v,he,g v U c k⟩);clear g j;refine ZY ?_;go_simp
  ·simp only [PA,Pt,Pu,PJ]at z;subst z
   have⟨ax,ay,aF,aH,aA,aD,aC,Q,C⟩:=hJ.oZ 7 ZD (bj (l:=[7]) ZK hr 7 ZS);change V 83=_ at Q;refine aO (R:=iI S m n (Wy.ji (W.dw [L]) p)) (f:=168) (args:=#[V 83,IV p]) (ZR Q (re C p aq ZO)) ?_ (λe U ⟨v,he,k,c⟩=>⟨v,he,g v U c k⟩);clear g Q;refine ZY ?_;go_simp
 case st4=>intro V m ab hV;refine ZY ?_;have⟨ax,ay,aF,aH,aA,aD,aC,e5,C⟩:=hV 3 ZD;have⟨aQ,aR,aV,aW,aS,aU,aT,e6,ah⟩:=hV 9 ZD;change V 79=_ at e5;change V 85=_ at e6;rw [e5,e6];have am:=O8 C;have an:=O8 ah;have ai:Hid (Below q w m):=HB.o.drew.trans (Below.mono ab (by have:=HB.o.size;have:=ak.o;show q<=r.heap.size;omega));clear hV e5 e6 C ah ab;refine aK 10 λK g=>?_;go_simp;refine g.q ?_;clear g K;refine aK 11 λK g=>?_;go_simp;refine g.q ?_;clear g K;refine az ZK ?_;go_wp2;go_ret;rw [<-al.o,aj.o];exact cM.from (ZR Y.o ai.o) (yp am.o an.o)
def Hp(J B S D n u H x E A F W fa fc f)(p:Nat)(w)(h:mU S w D n H E A F W)(hf:FA w fa n f)(P:eh f)(hx:(Fm.aI f)[p]? =some (Fm.rel J B))(hn:n<=1000)(aP:A<=100000):
 CL 142 #[gi W.need W.ban D n u H x E A F,SL fa n fc,IV p] w (cM S w n (split (Fm.rel J B) p W)):=by
 have N:=O8 λG (c:Below w.heap.size w G)=>gx fa n fc _ f (Fm.rel J B) p G (hf.ag c) ZO (fJ P) hx
 obtain ⟨fb,fo,rfl,aq,c0,c1⟩:=hf.at hx
 have aM:(p:Int)<n:=ZO
 have ao:=O8 h
 have aI:=O8 hf
 have HX:=O8 hx
 have aJ:=O8 P
 change CA w fb (fo+p*2) (IV 10)at c0
 change CA w fb (fo+p*2+1) (IV 0)at c1
 have⟨ap,av,au⟩:=Fm.dR (Fm.gj.rel (a:=J) (b:=B)) f p hx
 have⟨L,hL⟩:=EX (p-1-Fm.size B)
 have⟨M,hM⟩:=EX (p-1)
 have ac:qS (Fm.rel J B) p=(L:Int):=by show(p:Int)-1-Fm.size B=_;omega
 have ad:uB (Fm.rel J B) p=(M:Int):=by show(p:Int)-1=_;omega
 rw [ac,ad]at N
 have aj:Hid (split (Fm.rel J B) p W=[W.dw [L,M],(W.dw [M]).ji p]):=by show _=_;rw [<-hL,<-hM];rfl
 clear ac ad au av ap hL hM
 have⟨R,hR⟩:=EX (split (Fm.rel J B) p W)
 rw [hR]
 have al:=O8 hR
 clear h hf hx P hR
 go_enter Vd,Uu
 go_upto_region 1 with(fail)
 have⟨G,T⟩:=EX (w.alloc (CE #[UV W.need,UV W.ban,SL D n u,SL H n x,SL E A F] 193))
 rw [T]
 have⟨s,ar,hq⟩:=wJ _ _ _ _ _ _ _ G T.symm
 have X:=O8 (N.o G s)
 have Z:Hid (∀r,Below G.heap.size G r->Hid (Below w.heap.size w r)/\(CA r fb (fo+p*2) (IV 10)/\CA r fb (fo+p*2+1) (IV 0))/\Hid (w.heap.size<r.heap.size)/\
  ∀i v,(#[UV W.need,UV W.ban,SL D n u,SL H n x,SL E A F]:Array Value)[i]? =some v->CA r w.heap.size i v/\FZ r w.heap.size i):=λr d=>
  ⟨O8 (af s d),⟨((af s d).cell (O9 w _ c0)).trans c0,((af s d).cell (O9 w _ c1)).trans c1⟩,O8 (ZH d.size),λi v k=>dy d (hq i v k)⟩
 clear T s ar hq N c0 c1
 (try unfold BW at *);generalize ag:w.heap.size=q at *
 have Y:=O8 ag
 clear ag
 go_upto_region 2 with(go_at_call 166;apply X.o.mono;rintro e r ⟨rfl,d⟩;have⟨HB,⟨c0,c1⟩,ak,ae⟩:=Z.o r d;have y:=O8 ae;clear d ae)
 clear Z X
 have aa:=O8 (ao.o.ag (ZR Y.o HB.o))
 have⟨q0,f0⟩:=y.o 0 (UV W.need) rfl
 have⟨q1,f1⟩:=y.o 1 (UV W.ban) rfl
 have q2:=(y.o 2 (SL D n u) rfl).1
 have q3:=(y.o 3 (SL H n x) rfl).1
 have q4:=(y.o 4 (SL E A F) rfl).1
 go_upto_region 19 with(fail)
 refine aw 11 (S:=λW'=>CA W' q 0 (UV W.need)/\CA W' q 1 (UV W.ban)/\CA W' q 2 (SL D n u)/\CA W' q 3 (SL H n x)/\CA W' q 4 (SL E A F)) ZK (⟨q0,q1,q2,q3,q4⟩) (λO=>?_)
 refine aB 0 ?_ [4,0]
 refine aB 1 ?_ [4,3,1]
 refine aB 2 ?_ [4,3,2]
 refine aB 5 ?_ [10,8,5]
 refine aB 6 ?_ [10,8,7,6]
 refine aB 9 ?_ [10,9]
 have I:Hid (mU S r.drew D n H E A F W):=aa.o.ag (Pn _ _).drew
 clear O
 refine bY [3,4,7,8,10] (λi=>if i=3 then 92 else if i=4 then 93 else if i=7 then 96 else if i=8 then 97 else 99) #[true,true,true,true,true,true,true,true,true,true,true,false,false] 2
  (λi v w=>match i with|3=>∃b,v=SV b 2 2/\aG .i64 w (some (AD b 0)) 2 (aE [L,M])|7=>∃b,v=SV b 1 1/\aG .i64 w (some (AD b 0)) 1 (aE [M])|4=>kA S w v n (W.dw [L,M])|8=>kA S w v n (W.dw [M])|_=>kA S w v n ((W.dw [M]).ji p)) ZK ZK rfl ZD ?st1 ?st2 ZD ?st3 ?st4
 case st1=>
  intro i v U w5 k c;split at k
  ·obtain ⟨b,e,h⟩:=k;exact ⟨b,e,h.ag c⟩
  ·obtain ⟨b,e,h⟩:=k;exact ⟨b,e,h.ag c⟩
  ·exact kA.ag k c
  ·exact kA.ag k c
  ·exact kA.ag k c
 case st2=>intro m c;exact ⟨(dy c (y.o 0 _ rfl)).1,(dy c (y.o 1 _ rfl)).1,(dy c (y.o 2 _ rfl)).1,(dy c (y.o 3 _ rfl)).1,(dy c (y.o 4 _ rfl)).1⟩
 case st3=>
  rintro l V m i o hl aL hi z hr hJ K g;simp only [PO,QL,Sh]at hi;obtain rfl|rfl|rfl|rfl|rfl:=hi
  ·simp only [PA,Pt,Pu,PJ]at z;subst z
   refine cB (v:=SV m.heap.size 2 2) (w':=m.alloc (CE #[IV L,IV M] 3)) ?_ (g _ _ ((Pn _ _).alloc (Pf _) _) ⟨_,rfl,Ff m _ _⟩);clear g;refine ZY ?_;go_simp
  ·simp only [PA,Pt,Pu,PJ]at z;subst z
   have⟨bl,j,t⟩:=hJ.oZ 3 ZD (bj (l:=[3]) ZK hr 3 ZS);change V 92=_ at j;refine aO (R:=iI S m n (W.dw [L,M])) (f:=167) (args:=#[gi W.need W.ban D n u H x E A F,V 92]) (by rw [j];exact kv (nc:=u) (xc:=x) (I.o.ag hJ.aJ) [L,M] _ 2 2 t ZD ZO) ?_ (λe U ⟨v,he,k,c⟩=>⟨v,he,g v U c k⟩);clear g j;refine ZY ?_;go_simp
  ·simp only [PA,Pt,Pu,PJ]at z;subst z
   refine cB (v:=SV m.heap.size 1 1) (w':=m.alloc (CE #[IV M] 3)) ?_ (g _ _ ((Pn _ _).alloc (Pf _) _) ⟨_,rfl,p6 m _⟩);clear g;refine ZY ?_;go_simp
  ·simp only [PA,Pt,Pu,PJ]at z;subst z
   have⟨bl,j,t⟩:=hJ.oZ 7 ZD (bj (l:=[7]) ZK hr 7 ZS);change V 96=_ at j;refine aO (R:=iI S m n (W.dw [M])) (f:=167) (args:=#[gi W.need W.ban D n u H x E A F,V 96]) (by rw [j];exact kv (nc:=u) (xc:=x) (I.o.ag hJ.aJ) [M] _ 1 1 t ZD ZO) ?_ (λe U ⟨v,he,k,c⟩=>⟨v,he,g v U c k⟩);clear g j;refine ZY ?_;go_simp
  ·simp only [PA,Pt,Pu,PJ]at z;subst z
   have⟨ax,ay,aF,aH,aA,aD,aC,Q,C⟩:=hJ.oZ 8 ZD (bj (l:=[8]) ZK hr 8 ZS);change V 97=_ at Q;refine aO (R:=iI S m n (Wy.ji (W.dw [M]) p)) (f:=168) (args:=#[V 97,IV p]) (ZR Q (re C p aq ZO)) ?_ (λe U ⟨v,he,k,c⟩=>⟨v,he,g v U c k⟩);clear g Q;refine ZY ?_;go_simp
 case st4=>intro V m ab hV;refine ZY ?_;have⟨ax,ay,aF,aH,aA,aD,aC,e5,C⟩:=hV 4 ZD;have⟨aQ,aR,aV,aW,aS,aU,aT,e6,ah⟩:=hV 10 ZD;change V 93=_ at e5;change V 99=_ at e6;rw [e5,e6];have am:=O8 C;have an:=O8 ah;have ai:Hid (Below q w m):=HB.o.drew.trans (Below.mono ab (by have:=HB.o.size;have:=ak.o;show q<=r.heap.size;omega));clear hV e5 e6 C ah ab;refine aK 11 λK g=>?_;go_simp;refine g.q ?_;clear g K;refine aK 12 λK g=>?_;go_simp;refine g.q ?_;clear g K;refine az ZK ?_;go_wp2;go_ret;rw [<-al.o,aj.o];exact cM.from (ZR Y.o ai.o) (yp am.o an.o)
def RP:=@beq_self_eq_true
def To:=@List.any_eq_true
def Up:=@List.mem_iff_getElem
def ly{a:List Int}{c}(h:∀i,i<a.length->c (a.getD i 0)=false):a.any c=false:=by rw [List.any_eq_false];intro z d;obtain ⟨i,b,rfl⟩:=Up.1 d;have:=h i b;rw [Pd,Pe b]at this;simpa using this
def mY{a:List Int}{c i}(b:i<a.length)(h:c (a.getD i 0)=true):a.any c=true:=by rw [To];refine ⟨a.getD i 0,?_,h⟩;rw [Pd,Pe b];exact QF b
def pW{a:List Int}{i}(b:i<a.length):a.getD i 0∈a:=by rw [Pd,Pe b];exact QF b
def yH(a n c d o l w)(h:aG .i64 w a n d)(N:n<=4611686018427387903)
 (E:∀z∈d,CL 165 #[IV z,o] w λe A=>e=RT (.bool (l z))/\A=w):
 CL 84 #[SL a n c,.func (.func 165) #[] #[o]] w λe A=>∃r,e=RT (IV r)/\A=w/\decide (0<=r)=d.any l:=by
 have F:=O8 E
 have t:Hid (d.length=n):=h.1
 have G:=O8 h
 clear h E
 go_enter func84,ntmps84
 go_wp2
 go_loopw [8] (λx wr=>∃k:Nat,k<=n/\x=IV k/\wr=w/\Hid (∀i,i<k->l (d.getD i 0)=false)) (λx _=>n-(intOf x).toNat)
 exact ⟨0,Pz _,rfl,rfl,O8 λi I=>ZO⟩
 obtain ⟨k,M,rfl,u,C⟩:=hrel
 subst u
 by_cases g:k<n
 have D:(k:Int)<n:=ZO
 obtain ⟨-,L|⟨b,J,rfl,B⟩⟩:=G.o
 omega
 have H:=B k g
 have q:=O8 (F.o _ (pW (i:=k) (ZR t.o g)))
 have s:Hid (∀p,l (d.getD k 0)=p->l (d.getD k 0)=p):=λp h=>h
 clear B
 have⟨y,j⟩:=EX (l (d.getD k 0))
 rw [j]at q
 have f:=O8 j
 clear j s
 have⟨z,v⟩:=EX (d.getD k 0)
 rw [v]at H q f
 have m:=O8 v
 clear v
 cases y
 go_wp2_with (go_at_call 165;apply q.o.mono;rintro e K ⟨rfl,rfl⟩)
 go_roundw
 case rel=>exact ⟨k+1,ZO,ZN,(by first|trivial|rfl),O8 λi I=>by by_cases e:i=k;subst e;rw [m.o];exact f.o;exact C.o i ZO⟩
 case measure=>simp [intOf];omega
 go_wp2_with (go_at_call 165;apply q.o.mono;rintro e K ⟨rfl,rfl⟩)
 go_ret
 exact ⟨_,rfl,rfl,by rw [mY (i:=k) (ZR t.o g) (ZR m.o f.o)];exact PX ZO⟩
 obtain rfl:k=n:=ZO
 go_wp2
 go_ret
 exact ⟨_,rfl,rfl,by rw [ly (ZR t.o C.o)];rfl⟩
def Az(a n c d b f w)(h:aG .i64 w a n d)(m:n<=4611686018427387903)
 (i:∀z∈d,CL 165 #[IV z,b] w λe g=>e=RT (.bool (f z))/\g=w):
 CL 46 #[SL a n c,.func (.func 165) #[] #[b]] w λe g=>e=RT (.bool (d.any f))/\g=w:=by
 have k:=O8 (yH a n c d b f w h m i)
 clear h i
 go_enter func46,ntmps46
 go_wp2_with (go_at_call 84;apply k.o.mono;rintro e o ⟨r,rfl,rfl,j⟩;have l:=O8 j;clear j)
 go_ret
 exact ⟨by rw [<-l.o];rfl,rfl⟩
def AJ(a n c d o l w)(h:aG .i64 w a n d)(N:n<=4611686018427387903)
 (E:∀z∈d,CL 45 #[IV z,o] w λe A=>e=RT (.bool (l z))/\A=w):
 CL 84 #[SL a n c,.func (.func 45) #[] #[o]] w λe A=>∃r,e=RT (IV r)/\A=w/\decide (0<=r)=d.any l:=by
 have F:=O8 E
 have t:Hid (d.length=n):=h.1
 have G:=O8 h
 clear h E
 go_enter func84,ntmps84
 go_wp2
 go_loopw [8] (λx wr=>∃k:Nat,k<=n/\x=IV k/\wr=w/\Hid (∀i,i<k->l (d.getD i 0)=false)) (λx _=>n-(intOf x).toNat)
 exact ⟨0,Pz _,rfl,rfl,O8 λi I=>ZO⟩
 obtain ⟨k,M,rfl,u,C⟩:=hrel
 subst u
 by_cases g:k<n
 have D:(k:Int)<n:=ZO
 obtain ⟨-,L|⟨b,J,rfl,B⟩⟩:=G.o
 omega
 have H:=B k g
 have q:=O8 (F.o _ (pW (i:=k) (ZR t.o g)))
 have s:Hid (∀p,l (d.getD k 0)=p->l (d.getD k 0)=p):=λp h=>h
 clear B
 have⟨y,j⟩:=EX (l (d.getD k 0))
 rw [j]at q
 have f:=O8 j
 clear j s
 have⟨z,v⟩:=EX (d.getD k 0)
 rw [v]at H q f
 have m:=O8 v
 clear v
 cases y
 go_wp2_with (go_at_call 45;apply q.o.mono;rintro e K ⟨rfl,rfl⟩)
 go_roundw
 case rel=>exact ⟨k+1,ZO,ZN,(by first|trivial|rfl),O8 λi I=>by by_cases e:i=k;subst e;rw [m.o];exact f.o;exact C.o i ZO⟩
 case measure=>simp [intOf];omega
 go_wp2_with (go_at_call 45;apply q.o.mono;rintro e K ⟨rfl,rfl⟩)
 go_ret
 exact ⟨_,rfl,rfl,by rw [mY (i:=k) (ZR t.o g) (ZR m.o f.o)];exact PX ZO⟩
 obtain rfl:k=n:=ZO
 go_wp2
 go_ret
 exact ⟨_,rfl,rfl,by rw [ly (ZR t.o C.o)];rfl⟩
def BL(a n c d b f w)(h:aG .i64 w a n d)(m:n<=4611686018427387903)
 (i:∀z∈d,CL 45 #[IV z,b] w λe g=>e=RT (.bool (f z))/\g=w):
 CL 46 #[SL a n c,.func (.func 45) #[] #[b]] w λe g=>e=RT (.bool (d.any f))/\g=w:=by
 have k:=O8 (AJ a n c d b f w h m i)
 clear h i
 go_enter func46,ntmps46
 go_wp2_with (go_at_call 84;apply k.o.mono;rintro e o ⟨r,rfl,rfl,j⟩;have l:=O8 j;clear j)
 go_ret
 exact ⟨by rw [<-l.o];rfl,rfl⟩
def AK(a n c d o l w)(h:aG .i64 w a n d)(N:n<=4611686018427387903)
 (E:∀z∈d,CL 52 #[IV z,o] w λe A=>e=RT (.bool (l z))/\A=w):
 CL 84 #[SL a n c,.func (.func 52) #[] #[o]] w λe A=>∃r,e=RT (IV r)/\A=w/\decide (0<=r)=d.any l:=by
 have F:=O8 E
 have t:Hid (d.length=n):=h.1
 have G:=O8 h
 clear h E
 go_enter func84,ntmps84
 go_wp2
 go_loopw [8] (λx wr=>∃k:Nat,k<=n/\x=IV k/\wr=w/\Hid (∀i,i<k->l (d.getD i 0)=false)) (λx _=>n-(intOf x).toNat)
 exact ⟨0,Pz _,rfl,rfl,O8 λi I=>ZO⟩
 obtain ⟨k,M,rfl,u,C⟩:=hrel
 subst u
 by_cases g:k<n
 have D:(k:Int)<n:=ZO
 obtain ⟨-,L|⟨b,J,rfl,B⟩⟩:=G.o
 omega
 have H:=B k g
 have q:=O8 (F.o _ (pW (i:=k) (ZR t.o g)))
 have s:Hid (∀p,l (d.getD k 0)=p->l (d.getD k 0)=p):=λp h=>h
 clear B
 have⟨y,j⟩:=EX (l (d.getD k 0))
 rw [j]at q
 have f:=O8 j
 clear j s
 have⟨z,v⟩:=EX (d.getD k 0)
 rw [v]at H q f
 have m:=O8 v
 clear v
 cases y
 go_wp2_with (go_at_call 52;apply q.o.mono;rintro e K ⟨rfl,rfl⟩)
 go_roundw
 case rel=>exact ⟨k+1,ZO,ZN,(by first|trivial|rfl),O8 λi I=>by by_cases e:i=k;subst e;rw [m.o];exact f.o;exact C.o i ZO⟩
 case measure=>simp [intOf];omega
 go_wp2_with (go_at_call 52;apply q.o.mono;rintro e K ⟨rfl,rfl⟩)
 go_ret
 exact ⟨_,rfl,rfl,by rw [mY (i:=k) (ZR t.o g) (ZR m.o f.o)];exact PX ZO⟩
 obtain rfl:k=n:=ZO
 go_wp2
 go_ret
 exact ⟨_,rfl,rfl,by rw [ly (ZR t.o C.o)];rfl⟩
def BM(a n c d b f w)(h:aG .i64 w a n d)(m:n<=4611686018427387903)
 (i:∀z∈d,CL 52 #[IV z,b] w λe g=>e=RT (.bool (f z))/\g=w):
 CL 46 #[SL a n c,.func (.func 52) #[] #[b]] w λe g=>e=RT (.bool (d.any f))/\g=w:=by
 have k:=O8 (AK a n c d b f w h m i)
 clear h i
 go_enter func46,ntmps46
 go_wp2_with (go_at_call 84;apply k.o.mono;rintro e o ⟨r,rfl,rfl,j⟩;have l:=O8 j;clear j)
 go_ret
 exact ⟨by rw [<-l.o];rfl,rfl⟩
def DM(a n c j x w)(h:aG .i64 w a n j)(F:n<=4611686018427387903):
 CL 147 #[SL a n c,IV x] w λe C=>∃r,e=RT (IV r)/\C=w/\decide (0<=r)=j.any (λz=>x==z):=by
 have o:Hid (j.length=n):=h.1
 have t:=O8 h
 clear h
 go_enter func147,ntmps147
 go_wp2
 go_loopw [8] (λy wr=>∃k:Nat,k<=n/\y=IV k/\wr=w/\Hid (∀i,i<k->(λz=>x==z) (j.getD i 0)=false)) (λy _=>n-(intOf y).toNat)
 exact ⟨0,Pz _,rfl,rfl,O8 λi v=>ZO⟩
 obtain ⟨k,E,rfl,l,q⟩:=hrel
 subst l
 by_cases g:k<n
 have s:(k:Int)<n:=ZO
 obtain ⟨-,D|⟨b,A,rfl,p⟩⟩:=t.o
 omega
 have u:=p k g
 clear p
 have⟨z,m⟩:=EX (j.getD k 0)
 rw [m]at u
 have f:=O8 m
 clear m
 by_cases d:x=z
 subst d
 go_wp2
 go_ret
 refine ⟨_,rfl,rfl,?_⟩
 rw [mY (i:=k) (ZR o.o g) (ZR f.o (RP x))]
 exact PX ZO
 have B:(x==z)=false:=Pq.2 d
 have G:(z==x)=false:=Pq.2 (λe=>d e.symm)
 go_wp2
 go_roundw
 case rel=>exact ⟨k+1,ZO,ZN,(by first|trivial|rfl),O8 λi v=>by by_cases e:i=k;subst e;show(x==_)=false;rw [f.o];exact B;exact q.o i ZO⟩
 case measure=>simp [intOf];omega
 obtain rfl:k=n:=ZO
 go_wp2
 go_ret
 exact ⟨_,rfl,rfl,by rw [ly (ZR o.o q.o)];rfl⟩
def jN(a n c b x w)(h:aG .i64 w a n b)(j:n<=4611686018427387903):
 CL 110 #[SL a n c,IV x] w λe l=>e=RT (.bool (decide (x∈b)))/\l=w:=by
 have g:=O8 (DM a n c b x w h j)
 have d:Hid (b.any (λz=>x==z)=decide (x∈b)):=by show _=_;rw [Bool.eq_iff_iff,To,Qw];exact ⟨λ⟨z,k,e⟩=>by rw [eq_of_beq e];exact k,λh=>⟨x,h,RP x⟩⟩
 clear h
 go_enter func110,ntmps110
 go_wp2_with (go_at_call 147;apply g.o.mono;rintro e m ⟨r,rfl,rfl,f⟩;have i:=O8 f;clear f)
 go_ret
 exact ⟨by rw [<-d.o,<-i.o];rfl,rfl⟩
def Hl(x)(v:Fm.gR x)(S e n o j q g c i W d m f)(p:Nat)(w)(h:mU S w e n j g c i W)(s:FA w d n f)(a:eh f)(u:(Fm.aI f)[p]? =some x)(t:n<=1000)(b:c<=100000):
 CL 142 #[gi W.need W.ban e n o j q g c i,SL d n m,IV p] w (cM S w n (split x p W)):=by
 cases x with
 |tt=>exact Kj S e n o j q g c i W d m f p w h s a u t b
 |ff=>exact Kf S e n o j q g c i W d m f p w h s a u t b
 |prop k=>exact Ep k S e n o j q g c i W d m f p w h s a u t b
 |neg y=>
  cases y with
  |prop k=>exact Hm k S e n o j q g c i W d m f p w h s a u t b
  |_=>exact v.elim
 |and l r=>exact Hk l r S e n o j q g c i W d m f p w h s a u t b
 |or l r=>exact Ki l r S e n o j q g c i W d m f p w h s a u t b
 |cy l=>exact Hn l S e n o j q g c i W d m f p w h s a u t b
 |dA l r=>exact Hq l r S e n o j q g c i W d m f p w h s a u t b
 |rel l r=>exact Hp l r S e n o j q g c i W d m f p w h s a u t b
 |imp l r=>exact v.elim
 |fin l=>exact v.elim
 |ec l=>exact v.elim
def Gv(z q n c a)(w:WD)(g:CA w q 0 (SL a n c))(d:0<=z)(f:z<(n:Int))(h:n<=1000):
 CL 165 #[IV z,PT q] w λe b=>e=RT (.bool false)/\b=w:=by
 have i:decide (z<0)=false:=PH ZO
 have j:decide ((n:Int)<=z)=false:=PH ZO
 have k:¬(n:Int)<=z:=ZO
 have l:¬z<0:=ZO
 go_enter func165,ntmps165
 go_wp2
 go_ret
 exact ⟨rfl,rfl⟩
def I8(b n c f s m u a w)(y:FA w b n f)(x:Fm.gR f)(l:eh f)(I:n<=50)(r:aG .i64 w s m (aE a))(k:∀p∈a,p<n)(H:m<=1000000):
 CL 139 #[SL b n c,SL s m u] w λe o=>e=RT (.bool true)/\BW w o:=by
 have j:Hid (∀h,h=w.alloc (CE #[SL b n c] 22)->CA h w.heap.size 0 (SL b n c)/\BW w h/\CL 76 #[SL b n c] h λe o=>e=RT (.bool true)/\BW h o):=by rintro h rfl;have d:BW w (w.alloc (CE #[SL b n c] 22)):=(Pn _ w).alloc (Pf _) _;exact ⟨Py (w:=w) _ 22 w.heap.size 0 rfl,d,AO b n c f _ (y.ag d) x l ZO⟩
 have C:Hid (∀g,BW w g->CA g w.heap.size 0 (SL b n c)->CL 46 #[SL s m u,.func (.func 165) #[] #[PT w.heap.size]] g λe o=>e=RT (.bool false)/\o=g):=λg d q=>by
  have:=Az s m u (aE a) (PT w.heap.size) (λ_=>false) g (r.ag d) ZO (λz A=>by unfold aE at A;obtain ⟨p,r,rfl⟩:=Qx.1 A;exact Gv _ _ n c b g q ZO (ZH (k p r)) ZO)
  rwa [ly (λ_ _=>rfl)]at this
 have G:(n:Int)<=50:=ZO
 clear y x l r k
 go_enter func139,ntmps139
 go_upto_region 1 with(fail)
 have⟨v,d,q⟩:=j.o _ rfl
 have B:=O8 d
 have D:=O8 q
 have E:Hid (w.heap.size<(w.alloc (CE #[SL b n c] 22)).heap.size):=O9 _ _ v
 clear d q j
 generalize w.alloc (CE #[SL b n c] 22)=h at *
 go_wp2_with (first
  |(go_at_call 76;apply D.o.mono;rintro e g ⟨rfl,d⟩;have F:=(d.cell E.o).trans v;have i:=O8 (af B.o d);have t:=O8 (C.o g i.o F);clear d)
  |(go_at_call 46;apply t.o.mono;rintro e J ⟨rfl,rfl⟩))
 go_ret
 exact ⟨rfl,i.o⟩
section
open Go.Maps
def Vf:=@Go.WalkArith.wf_i64
def Tryz.pZ:laidOutB prog=true:=ZK
def Tryz.J4:(199:TypeId)<prog.types.size:=Rf ZK
def Tryz.Mc:(match prog.underlying 199 with|some (.array _ _)|some (.struct _)=>true|_=>false)=true:=ZK
def Js:Keyed prog 199:=Keyed.of_law (deep_law_laid Tryz.pZ (m:=2) ZO Tryz.J4 ZK Tryz.Mc)
def Tryz.Nk:(127:TypeId)<prog.types.size:=Rf ZK
def Tryz.Mb:(match prog.underlying 127 with|some (.array _ _)|some (.struct _)=>true|_=>false)=true:=ZK
def Jr:Keyed prog 127:=Keyed.of_law (deep_law_laid Tryz.pZ (m:=2) ZO Tryz.Nk ZK Tryz.Mb)
def mq:Keyed prog 3:=int_keyed underlying3
def N0:Keyed prog 9:=string_keyed Ue
def CK:∃m,prog.types.size=m+1:=⟨prog.types.size-1,by have h:(199:Nat)<prog.types.size:=Tryz.J4;omega⟩
def M4{z}(h:(Lit.int .i64 z).wf=true):keyOf prog 3 (.int .i64 z)=some (.int .i64 z):=keyOf_int_mk underlying3 h
def iL{n:Nat}(h:n<=4611686018427387903):keyOf prog 3 (.int .i64 (n:Int))=some (.int .i64 (n:Int)):=M4 (Vf ZO)
def MZ{a b}(f:(Lit.int .i64 a).wf=true)(g:(Lit.int .i64 b).wf=true):∃i,keyOf prog 127 (.agg #[IV a,IV b])=some i:=by obtain ⟨m,h⟩:=CK;have d:prog.keyType 127=true:=ZK;have c:prog.cellsOf 127=2:=ZK;have e:prog.cellsOf 3=1:=ZK;unfold keyOf;simp only [underlying127,d,Value.formed,c,Value.cells];simp [h,Program.keyLits,underlying127,underlying3,c,e,f,g,List.mapM_cons]
def M0{a b s t}(g:(Lit.int .u64 a).wf=true)(h:(Lit.int .u64 b).wf=true)(j:s.size<=maxLen)(k:t.size<=maxLen):
 ∃l,keyOf prog 199 (.agg #[UV a,UV b,.string s,.string t])=some l:=by
 obtain ⟨m,i⟩:=CK
 have d:prog.keyType 199=true:=ZK
 have c:prog.cellsOf 199=4:=ZK
 have e:prog.cellsOf 45=1:=ZK
 have f:prog.cellsOf 9=1:=ZK
 unfold keyOf
 simp only [underlying199,d,Value.formed,c,Value.cells]
 simp [i,Program.keyLits,underlying199,underlying45,Ue,c,e,f,g,h,j,k,List.mapM_cons]
def QG:=@Nat.pow_le_pow_right
def SO:=@Nat.mul_le_mul_right
def Td:=@List.filter_congr
def Tg:=@Nat.succ_mul
def UJ:=@Nat.one_le_two_pow
def mS(n:Nat)(W:Wy):Value:=.agg #[UV W.need,UV W.ban,.string (gp n W.next),.string (gp n W.bw)]
def zk{n f g}(h:gp n f=gp n g):(List.range n).filter f=(List.range n).filter g:=by
 have d:jE n f=jE n g:=by have:=RH (λb:ByteArray=>b.data.toList) h;simpa [gp]using this
 refine Td λi c=>?_;have c:i<n:=P5.1 c;have a:(jE n f)[i]? =(jE n g)[i]? :=by rw [d]
 unfold jE at a;rw [PZ,PZ,QV c]at a;have a:=Qh a;cases e:f i<;>cases j:g i<;>simp [e,j]at a⊢
def Jq{n W Z}(h:mS n W=mS n Z):bH n W=bH n Z:=by unfold mS at h;simp only [Value.agg.injEq,Array.mk.injEq,Rk,Value.int.injEq,Value.string.injEq,true_and,and_true]at h;obtain ⟨c,d,a,b⟩:=h;unfold bH;rw [zk a,zk b,show W.need=Z.need from ZO,show W.ban=Z.ban from by omega]
def CQ{x p w}:(split x p w).length<=2:=by
 unfold split;split<;>first
  |(simp;done)
  |(unfold Wy.pure;split<;>simp)
def Er{x p w c}(h:c∈split x p w):c.bQ.length<=w.bQ.length+2:=by
 have a:∀{v c:Wy},c∈v.pure->c.bQ=v.bQ:=λh=>by rw [iw h]
 unfold split at h;split at h;rw [Pc.1 h];omega;rw [a h];show w.bQ.length<=_;omega;rw [a h];show w.bQ.length<=_;omega;rw [Pc.1 h];show([_,_]++w.bQ).length<=_;simp;obtain rfl|h:=PO.1 h;show([_]++w.bQ).length<=_;simp;rw [Pc.1 h];show([_]++w.bQ).length<=_;simp;rw [Pc.1 h];show w.bQ.length<=_;omega;obtain rfl|h:=PO.1 h;show([_]++w.bQ).length<=_;simp;rw [Pc.1 h];show([_]++w.bQ).length<=_;simp;obtain rfl|h:=PO.1 h;show([_,_]++w.bQ).length<=_;simp;rw [Pc.1 h];show([_]++w.bQ).length<=_;simp;cases h
def Kg{x p n w c}(g:p<n)(hw:∀q∈w.bQ,q<n)(h:c∈split x p w):∀q∈c.bQ,q<n:=by
 have d:∀{v c:Wy},c∈v.pure->c.bQ=v.bQ:=λh=>by rw [iw h]
 have a:∀(v:Wy)(l:List Nat),v.bQ=l++w.bQ->(∀q∈l,q<n)->∀q∈v.bQ,q<n:=λv l e f q b=>by rw [e]at b;obtain h|h:=PC.1 b;exact f q h;exact hw q h
 unfold split at h;split at h;rw [Pc.1 h];exact hw;rw [d h];exact hw;rw [d h];exact hw;rw [Pc.1 h];exact a _ [_,_] rfl (λq b=>by simp at b;omega);obtain rfl|h:=PO.1 h;exact a _ [_] rfl (λq b=>by simp at b;omega);rw [Pc.1 h];exact a _ [_] rfl (λq b=>by simp at b;omega);rw [Pc.1 h];exact hw;obtain rfl|h:=PO.1 h;exact a _ [_] rfl (λq b=>by simp at b;omega);rw [Pc.1 h];exact a _ [_] rfl (λq b=>by simp at b;omega);obtain rfl|h:=PO.1 h;exact a _ [_,_] rfl (λq b=>by simp at b;omega);rw [Pc.1 h];exact a _ [_] rfl (λq b=>by simp at b;omega);cases h
def zU{x p w c}(h:c∈split x p w):c.bw=w.bw:=by
 have a:∀{v c:Wy},c∈v.pure->c.bw=v.bw:=λh=>by rw [iw h]
 unfold split at h;split at h;rw [Pc.1 h];rw [a h];rfl;rw [a h];rfl;rw [Pc.1 h];rfl;obtain rfl|h:=PO.1 h;rfl;rw [Pc.1 h];rfl;rw [Pc.1 h];rfl;obtain rfl|h:=PO.1 h;rfl;rw [Pc.1 h];rfl;obtain rfl|h:=PO.1 h;rfl;rw [Pc.1 h];rfl;cases h
def xh(f:Fm)(p:Nat):Bool:=match(Fm.aI f)[p]? with|some x=>tk (Fm.aH x).1==2|none=>false
def dE(f:Fm)(w:Wy):Nat:=((List.range (Fm.size f)).filter λp=>!w.bw p&&xh f p).length
def Ho{x p w}(h:tk (Fm.aH x).1≠2):(split x p w).length<=1:=by
 cases x with
 |tt=>exact Pf _
 |ff=>exact Pz _
 |prop n=>show((w.kQ n).pure).length<=1;unfold Wy.pure;split<;>simp
 |neg a=>
  cases a with
  |prop n=>show((w.pQ n).pure).length<=1;unfold Wy.pure;split<;>simp
  |_=>exact Pz _
 |cy a=>exact Pf _
 |fin a=>exact Pz _
 |ec a=>exact Pz _
 |and a b=>exact Pf _
 |or a b=>exact absurd rfl h
 |imp a b=>exact Pz _
 |dA a b=>exact absurd rfl h
 |rel a b=>exact absurd rfl h
def nA{α:Type}{p q}(h:∀x,p x=true->q x=true):∀(l:List α),(l.filter p).length<=(l.filter q).length
 |[]=>Pf _
 |a::l=>by have d:=nA h l;by_cases b:p a=true;rw [QT b,QT (h a b),P9,P9];omega;rw [QS b];by_cases c:q a=true;rw [QT c,P9];omega;rw [QS c];exact d
def rS{f w v}(h:∀q,w.bw q=true->v.bw q=true):dE f v<=dE f w:=by
 unfold dE;refine nA (λa b=>?_) _;rw [Qk,RD]at b⊢;refine ⟨?_,b.2⟩;cases c:w.bw a
 rfl;rw [h a c]at b;cases b.1
def B3{f w p}(g:p<Fm.size f)(d:w.bw p=false)(c:xh f p=true):dE f (w.dI p)<dE f w:=by unfold dE;refine nr (λq b=>?_) _ ⟨p,P5.2 g,by rw [d,c];rfl,?_⟩;rw [Qk,RD]at b⊢;refine ⟨?_,b.2⟩;have a:up w.bw p true q=false:=b.1;by_cases e:q=p;subst e;rw [aA]at a;cases a;rwa [an _ _ _ _ e]at a;show(!up w.bw p true p&&xh f p)=false;rw [aA];rfl
def nC{α β:Type}{g:α->List β}{B}:∀(l:List α),(∀x∈l,(g x).length<=B)->(l.flatMap g).length<=l.length*B
 |[],_=>Pz _
 |a::l,h=>by rw [List.flatMap_cons,Pk,P9,Tg];have c:=h a (P2 ..);have d:=nC l (λx b=>h x (Qc _ b));omega
def BX{f}:∀m w,(eH f m w).length<=2^dE f w
 |0,w=>Pz _
 |m+1,w=>by
  unfold eH;cases t:iC w.bw w.bQ with
  |nil=>exact UJ
  |cons p r=>
   simp only;cases j:(Fm.aI f)[p]? with
   |none=>exact Pz _
   |some x=>
    simp only;have g:p<Fm.size f:=(Po.1 j).1;have b:=(rm t).1;have a:∀c∈split x p (Wy.dI {w with bQ:=r} p),(eH f m c).length<=2^dE f (w.dI p):=λc s=>by refine PG (BX m c) (QG ZD (rS λq h=>?_));rw [zU s];exact h
    by_cases i:tk (Fm.aH x).1=2;have k:=B3 g b (by unfold xh;rw [j];simp [i]);have l:=nC _ a;have d:=CQ (x:=x) (p:=p) (w:=Wy.dI {w with bQ:=r} p);have n:2^dE f (w.dI p)*2<=2^dE f w:=by rw [<-Nat.pow_succ];exact QG ZD k
    have o:=SO (2^dE f (w.dI p)) d;omega;have l:=nC _ a;have d:=Ho (p:=p) (w:=Wy.dI {w with bQ:=r} p) i;have n:2^dE f (w.dI p)<=2^dE f w:=QG ZD (rS λq h=>by show up w.bw p true q=true;by_cases e:q=p;subst e;exact aA _ _ _;rw [an _ _ _ _ e];exact h)
    have o:=SO (2^dE f (w.dI p)) d;omega
def L7:∀f,2*((Fm.aI f).filter λx=>tk (Fm.aH x).1==2).length+1<=Fm.size f:=by
 have g:∀{x:Fm},Fm.mQ x->2*((Fm.aI x).filter λx=>tk (Fm.aH x).1==2).length+1<=Fm.size x:=λ{x} h=>by
  have e:((Fm.aI x).filter λx=>tk (Fm.aH x).1==2)=[]:=by rw [h.aI,QS (by rw [qt h];decide)];rfl
  rw [e,h.size];exact Pf _
 have j:∀{a x:Fm},Fm.One a x->2*((Fm.aI a).filter λx=>tk (Fm.aH x).1==2).length+1<=Fm.size a->2*((Fm.aI x).filter λx=>tk (Fm.aH x).1==2).length+1<=Fm.size x:=λ{a x} h k=>by rw [h.aI,QA,Pk,QS (by rw [ye h];decide),h.size];simp;omega
 have i:∀{a b x:Fm},Fm.gj a b x->2*((Fm.aI a).filter λx=>tk (Fm.aH x).1==2).length+1<=Fm.size a->2*((Fm.aI b).filter λx=>tk (Fm.aH x).1==2).length+1<=Fm.size b->2*((Fm.aI x).filter λx=>tk (Fm.aH x).1==2).length+1<=Fm.size x:=λ{a b x} h c d=>by rw [h.aI,QA,Pk,QA,Pk,QT (by rw [yf h];decide),h.size];simp;omega
 intro f;induction f with
 |tt=>exact g .tt
 |ff=>exact g .ff
 |prop n=>exact g (.prop n)
 |neg a k=>exact j .neg k
 |cy a k=>exact j .cy k
 |fin a k=>exact j .fin k
 |ec a k=>exact j .ec k
 |and a b c d=>exact i .and c d
 |or a b c d=>exact i .or c d
 |imp a b c d=>exact i .imp c d
 |dA a b c d=>exact i .dA c d
 |rel a b c d=>exact i .rel c d
def wV{α:Type}(P:α->Bool)(l:List α):∀n,n<=l.length->((List.range n).filter λp=>match l[p]? with|some x=>P x|none=>false).length=((l.take n).filter P).length
 |0,_=>rfl
 |n+1,h=>by have b:n<l.length:=h;rw [QQ,QA,Pk,wV P l n ZO,Qf,Pe b,QA,Pk];congr 1;by_cases a:P l[n]=true;rw [QT (by rw [Pe b];exact a)];show _=(List.filter P [l[n]]).length;rw [QT a];rfl;rw [QS (by rw [Pe b];exact a)];show _=(List.filter P [l[n]]).length;rw [QS a];rfl
def wX{f}(m w)(j:Fm.size f<=50):(eH f m w).length<=16777216:=by
 have e:=BX (f:=f) m w;have g:dE f w<=24:=by
  have b:dE f w<=((List.range (Fm.size f)).filter λp=>xh f p).length:=by unfold dE;refine nA (λa d=>?_) _;rw [Qk]at d;exact d.2
  have c:=wV (λx:Fm=>tk (Fm.aH x).1==2) (Fm.aI f) (Fm.size f) (Pf _);rw [show(Fm.aI f).take (Fm.size f)=Fm.aI f from PI (Pf _)]at c;have h:=L7 f;have i:((List.range (Fm.size f)).filter λp=>xh f p).length=((Fm.aI f).filter λx=>tk (Fm.aH x).1==2).length:=by rw [<-c];congr 1;refine Td λp _=>?_;unfold xh;cases (Fm.aI f)[p]? <;>rfl
  omega
 have b:2^dE f w<=2^24:=QG ZD g;exact PG e b
end
end Go.Proofs.YtimniinkpipnmaaGreatDoor
