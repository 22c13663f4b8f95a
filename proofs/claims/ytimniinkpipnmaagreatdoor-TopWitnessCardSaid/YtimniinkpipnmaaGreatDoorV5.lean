/- A part of the proof of TopWitness. -/
import Derived.Test.YtimniinkpipnmaaGreatDoorV4
set_option maxRecDepth 100000
set_option maxHeartbeats 8000000
set_option linter.all false
namespace Go.Proofs.YtimniinkpipnmaaGreatDoor
open Go.RowKit Go.Own Go.Proofs.Tryz
section
open Go.Maps
def SB:=@Int.toNat_natCast
def IA(w:WD)(b o:Nat)(x:dk):Prop:=
 ∃a c d,w.cell? (AD b o)=some (UV x.need)/\w.cell? (AD b (o+1))=some (UV x.ban)/\w.cell? (AD b (o+2))=some (UV x.inn)/\w.cell? (AD b (o+3))=some (SL a c d)/\aG .i64 w a c (aE (dk.tO x))
structure cm (w:WD) (A:Au) (ia:OA) (il:Nat) (na:OA) (nl:Nat):Prop where
 aP:aG .i64 w ia il (aE A.aP)
 bA:A.ak.length=nl
 ak:nl=0\/∃b o,na=some (AD b o)/\∀(j:Nat)(x:dk),A.ak[j]? =some x->IA w b (o+j*4) x
def FI(w:WD)(A:Au)(v:Value):Prop:=∃ia il ic a b c,v=.agg #[IV A.sets,SL ia il ic,SL a b c]/\cm w A ia il a b
structure gL (A:Au):Prop where
 sets:A.sets<=16
 many:A.ak.length<=256
 aP:∀i∈A.aP,i<A.ak.length
 mZ:∀x∈A.ak,∀k∈dk.tO x,k<A.ak.length
 inn:∀x∈A.ak,x.inn<2^A.sets
 bits:∀x∈A.ak,x.need<18446744073709551616/\x.ban<18446744073709551616
 tl:∀x∈A.ak,(dk.tO x).length<=16777216
 il:A.aP.length<=16777216
def IA.ag{w w' b o x}(h:IA w b o x)(a:BW w w'):IA w' b o x:=by obtain ⟨l,p,m,c,d,e,g,j⟩:=h;have k:∀{i:Nat}{v:Value},CA w b i v->CA w' b i v:=λh=>(a.cell (O9 w _ h)).trans h;exact ⟨l,p,m,k c,k d,k e,k g,j.ag a⟩
def cm.ag{w w' A ia il c d}(h:cm w A ia il c d)(a:BW w w'):cm w' A ia il c d:=
 ⟨h.aP.ag a,h.bA,h.ak.imp id (λ⟨b,o,e,g⟩=>⟨b,o,e,λj x i=>(g j x i).ag a⟩)⟩
def FI.ag{w w' A v}(h:FI w A v)(a:BW w w'):FI w' A v:=by obtain ⟨ia,il,ic,b,d,c,e,h⟩:=h;exact ⟨ia,il,ic,b,d,c,e,h.ag a⟩
def oA(w:WD)(fa:OA)(k:Nat):Prop:=k<=w.heap.size/\∀o,fa≠some (AD k o)
def Ou(w:WD)(S:Nat->Prop)(D:Au)(v:Value):Prop:=∀a,aj S w a->FI a D v
def Ou.Dk{w S D v}(h:Ou w S D v):FI w D v:=h w (aj.refl _ w)
def Ai(w:WD)(B:Nat)(D:Au)(v:Value):Prop:=∀a,aj (λk=>k<B) w a->FI a D v
def Ai.Dk{w B D v}(h:Ai w B D v):FI w D v:=h w (aj.refl _ w)
def Ai.ax{w w1 B D v}(h:Ai w B D v)(b:aj (λk=>k<B) w w1):Ai w1 B D v:=λc a=>h c (b.then a (λ_ _ s=>s))
def Ai.ag{w a B D v}(h:Ai w B D v)(b:BW w a):Ai a B D v:=h.ax (aj.mono (aj.aC b) (λk c s=>ZO))
def Ai.less{w B C D v}(h:Ai w B D v)(c:C<=B):Ai w C D v:=λb a=>h b (a.mono λk _ s=>ZO)
def Hx(x:TN):dk:=⟨x.W.need,x.W.ban,x.N,x.bh⟩
def yS(us:List Int)(js:List Nat)(T:List TN):Au:=⟨us.length,js,T.map Hx⟩
structure oW (w wr:WD) (n gk nb ob cH:Nat) (us:List Int) (f:Fm) (fa:OA) (fc:Nat) (ia:OA) (il ic:Nat) (js:List Nat) (nv:Value) (T:List TN):Prop where
 oO:eP wr n gk nb ob cH us f fa fc (us.length:Int) (SL ia il ic) nv T (oA w fa)
 aJ:BW w wr
 xT:wr.heap[w.heap.size]? =some (.cells #[IV 0,SN,SN] 36 (0,0))
 bG:∀k,cd gk nb ob nv k->w.heap.size<k
 n8:iV w wr (lZ gk nb ob nv (oA w fa)) ia il ic js
 yK:mW f n T [n-1] js
 fin:∀(j:Nat)(x:TN),T[j]? =some x->j<cH->mW f n T (zJ n x.W) x.bh/\x.t.2.1<=16777216
 IW:∀x∈T,Is f n x.W
 many:T.length<=256
section
variable {w wr w3 w4:WD} {n gk nb ob pos:Nat} {us:List Int} {f:Fm} {fa:OA} {fc:Nat} {ia:OA} {il ic:Nat} {js:List Nat} {nv nv':Value} {T R:List TN}
def H5{S:Nat->Prop}{a X}(h:∀b,a.ownBlock=some b->nv.ownBlock=some b\/S b){k}(c:lZ gk nb ob a X k):lZ gk nb ob nv X k\/S k:=
 c.elim (λs=>(fM (nvi':=nv) h s).imp .inl id) (λs=>.inl (.inr s))
def oW.step(h:oW w wr n gk nb ob pos us f fa fc ia il ic js nv T){x}(E:T[pos]? =some x)(v:aj (cd gk nb ob nv) wr w3)
 {o C} (O:eP w4 n gk nb ob (pos+1) us f fa fc (us.length:Int) (SL ia il ic) (.slice (some (AD o 0)) (T++R).length C) (T++R) (oA w fa)) (A:aj (cd gk nb ob nv) w3 w4)
 (U:∀b,(Value.slice (some (AD o 0)) (T++R).length C).ownBlock=some b->nv.ownBlock=some b\/w3.heap.size<=b) (Q:∀y∈R,y.W∈eH f (n+1) (Wy.aM (zJ n x.W))/\y.t=(none,0,0)/\y.bh=[])
 (g:(T++R).length<=256) {a l c i} (D:iV w3 w4 (lZ gk nb ob (.slice (some (AD o 0)) (T++R).length C) (oA w fa)) a l c i) (S:mW f n (T++R) (zJ n x.W) i):
 oW w (w4.setCell (AD o (pos*4+3)) (SL a l c)) n gk nb ob (pos+1) us f fa fc ia il ic js (.slice (some (AD o 0)) (T++R).length C) ((T++R).set pos {x with t:=(a,l,c),bh:=i}):=by
 have H:=(Po.1 E).1
 have B:(T++R)[pos]? =some x:=by rw [Pp H];exact E
 have⟨P,G⟩:=O.Ok B (a,l,c) i D.row D.sep D.lt
 have Y:=v.size
 have Z:=A.size
 have sw:=h.aJ.size
 have I:w.heap.size<wr.heap.size:=(Pb.1 h.xT).1
 have W:aj (cd gk nb ob nv) wr w4:=v.then A (λ_ _ s=>s)
 have m:∀b,(Value.slice (some (AD o 0)) (T++R).length C).ownBlock=some b->nv.ownBlock=some b\/wr.heap.size<=b:=λb e=>(U b e).imp id (λh=>ZO)
 have K:aj (cd gk nb ob nv) wr (w4.setCell (AD o (pos*4+3)) (SL a l c)):=W.then G (λk p s=>(fM (nvi':=nv) m s).resolve_right ZO)
 have F:∀{k:Nat}{y:TN},((T++R).set pos {x with t:=(a,l,c),bh:=i})[k]? =some y->k=pos/\y={x with t:=(a,l,c),bh:=i}\/k≠pos/\(T++R)[k]? =some y:=λ{k y} p=>by
  by_cases e:pos=k;subst e;rw [RZ (by rw [Pk];omega)]at p;cases p;exact .inl ⟨rfl,rfl⟩
  rw [SJ e]at p;exact .inr ⟨λL=>e L.symm,p⟩
 have u:∀(k:Nat)(z:TN),(T++R)[k]? =some z->∃y,((T++R).set pos {x with t:=(a,l,c),bh:=i})[k]? =some y/\y.W=z.W:=λk z q=>by by_cases e:pos=k;subst e;rw [B]at q;cases q;exact ⟨_,RZ (by rw [Pk];omega),rfl⟩;exact ⟨z,by rw [SJ e];exact q,rfl⟩
 have r:∀(k:Nat)(z:TN),T[k]? =some z->∃y,((T++R).set pos {x with t:=(a,l,c),bh:=i})[k]? =some y/\y.W=z.W:=λk z q=>u k z (by rw [Pp (Po.1 q).1];exact q)
 rw [Pk]at g
 refine ⟨?_,h.aJ.trans (K.ag h.aJ.size (λk p s=>ZH (h.bG k s))),(K.block _ I (λs=>ZH (h.bG _ s))).trans h.xT,λk s=>?_,h.n8.ax K (λk s=>.inl s) (λk s=>H5 m s),h.yK.mono r,λj y d X=>?_,λy d=>?_,by rw [RX,Pk];exact g⟩
 exact P
 obtain s|s:=fM (nvi':=nv) m s
 exact h.bG k s
 omega
 obtain ⟨rfl,rfl⟩|⟨V,d⟩:=F d
 exact ⟨S.mono u,D.bA⟩
 have J:T[j]? =some y:=by rw [Pp ZO]at d;exact d
 have⟨M,N⟩:=h.fin j y J ZO
 exact ⟨M.mono r,N⟩
 obtain d|rfl:=TO d
 obtain d|d:=PC.1 d
 exact h.IW y d
 exact .next (h.IW x (Pm E)) (Q y d).1
 exact h.IW x (Pm E)
def Kz{p a b}(h:At f p (Fm.dA a b))(g:p<n):∃s,s<(dL f n).length/\(dL f n)[s]? =some (p:Int):=by
 have d:(p:Int)∈dL f n:=by unfold dL;refine Qx.2 ⟨p,PY.2 ⟨P5.2 g,?_⟩,rfl⟩;unfold At at h;rw [h];rfl
 have⟨s,c,e⟩:=Up.1 d;exact ⟨s,c,by rw [Pe c,e]⟩
def r9{g}{p n:Nat}:(p:Int)∈cN g n↔p∈(List.range n).filter g:=by unfold cN;constructor;intro h;have⟨q,a,e⟩:=Qx.1 h;have:q=p:=ZO;exact this▸a;intro h;exact Qx.2 ⟨p,h,rfl⟩
def oW.LZ(h:oW w wr n gk nb ob pos (dL f n) f fa fc ia il ic js nv T)(J:Fm.gR f)(u:T.length<=pos):∃t:kF f (yS (dL f n) js T),True:=by
 have q:Fm.size f=n:=h.oO.form.size;have o:∀{j:Nat}{x:TN},T[j]? =some x->(yS (dL f n) js T).ay j=Hx x:=λ{j x} d=>by unfold Au.ay yS;rw [Pd,PZ,d];rfl
 have B:(yS (dL f n) js T).ak.length=T.length:=PB ..;have i:∀{j:Nat},j<(yS (dL f n) js T).ak.length->∃x,T[j]? =some x:=λ{j} l=>⟨_,Pe (by rw [B]at l;exact l)⟩;have g:∀{j:Nat}{x:TN},T[j]? =some x->(match T[j]? with|some x=>bH n x.W|none=>⟨0,0,[],[]⟩:Mi)=bH n x.W:=λ{j x} d=>by rw [d]
 refine ⟨{pT:=λj=>match T[j]? with|some x=>bH n x.W|none=>⟨0,0,[],[]⟩
          L:=λm c=>∃Z∈rf f n m,bH n Z=c
          oY:=λm u=>rP J m u (n+1) (by omega) _ (λc=>by rw [q];exact RE)
          A0:=λj l p u=>?_,need:=λj l=>?_,ban:=λj l=>?_,Jk:=λj l=>?_,Oo:=λj l k A=>?_,aP:=λj l=>?_,tO:=λj l k A=>?_
          ir:=λc D=>?_,nQ:=λj l c D=>?_,yg:=λs=>((dL f n).getD s 0).toNat,dA:=λp a b u=>?_,Mp:=λs v=>?_,inn:=λj l s v=>?_},RN⟩
 have⟨x,d⟩:=i l;rw [g d]at u;rw [q];exact (jf.1 u).1;have⟨x,d⟩:=i l;rw [g d,o d];rfl;have⟨x,d⟩:=i l;rw [g d,o d];rfl;obtain ⟨x,d,-⟩:=h.yK.1 j l;rw [B];exact (Po.1 d).1;have⟨x,d⟩:=i l;rw [o d]at A;obtain ⟨y,C,-⟩:=(h.fin j x d (by have:=(Po.1 d).1;omega)).1.1 k A;rw [B];exact (Po.1 C).1;have⟨x,d,Z,r,e⟩:=h.yK.1 j l;rw [g d,q];exact ⟨Z,r,e.symm⟩;have⟨x,d⟩:=i l;rw [o d]at A;have⟨y,C,Z,r,e⟩:=(h.fin j x d (by have:=(Po.1 d).1;omega)).1.1 k A;rw [g d,g C];exact ⟨Z,r,e.symm⟩;obtain ⟨Z,r,rfl⟩:=D;rw [q]at r;have⟨j,l,x,d,e⟩:=h.yK.2 Z r;exact ⟨j,l,by rw [g d];exact e⟩;have⟨x,d⟩:=i l;rw [g d]at D;obtain ⟨Z,r,rfl⟩:=D;have⟨k,A,y,C,e⟩:=(h.fin j x d (by have:=(Po.1 d).1;omega)).1.2 Z r;exact ⟨k,by rw [o d];exact A,by rw [g C];exact e⟩;have⟨s,v,e⟩:=Kz u (by have:=u.lt;omega:p<n);exact ⟨s,v,by rw [Pd,e];rfl⟩;obtain ⟨p,x,E,F,G,-⟩:=Bm v;obtain ⟨a,b,rfl⟩:∃a b,x=Fm.dA a b:=by cases x<;>first|exact ⟨_,_,rfl⟩|cases G
 exact ⟨a,b,by rw [Pd,E];exact F⟩;have⟨x,d⟩:=i l;have K:=(h.oO.ak x (Pm d)).met;have v:s<(dL f n).length:=v;have⟨p,z,E,F,G,N⟩:=Bm v;rw [o d,g d];show x.N.testBit s=true↔_;have H:(dL f n).getD s 0=(p:Int):=by rw [Pd,E];rfl
 rw [K.2 s,H];have M:1<=p:=by
  obtain ⟨a,b,rfl⟩:∃a b,z=Fm.dA a b:=by cases z<;>first|exact ⟨_,_,rfl⟩|cases G
  have:=(Fm.dR (Fm.gj.dA (a:=a) (b:=b)) f p F).1;omega
 have I:(p:Int)-1=((p-1:Nat):Int):=by omega
 unfold D5;rw [H,I];simp only [v,decide_true,Qu,QP,RD,decide_eq_false_iff_not,Ti,SB];rw [r9,r9];exact RE
end
end
section
open Go.Maps
def Ph:=@Go.MapKept.heap_alloc
def QX:=@Bool.false_and
def Q2:=@Nat.le_of_eq
def Rp:=@Go.results_cell_tmp
def Is.small{f n}(a:eh f){W}(h:Is f n W):wm W:=by
 cases h with
 |aP h=>exact mj a _ _ (nN _) W h
 |next _ h=>exact mj a _ _ (nN _) W h
section
variable {w wr w':WD} {n gk nb ob pos:Nat} {us:List Int} {f:Fm} {fa:OA} {fc:Nat} {ia:OA} {il ic:Nat} {js:List Nat} {nv:Value} {T:List TN}
def oW.Dk(h:oW w wr n gk nb ob pos us f fa fc ia il ic js nv T)(k:aj (oA w fa) wr w'):FI w' (yS us js T) (.agg #[IV us.length,SL ia il ic,nv]):=by
 obtain ⟨p,C,rfl⟩:=bF h.oO.cO;have m:=bp h.oO.cO k (λb e s=>ZI (h.bG b (.inr (.inr (.inr e)))) s.1);refine ⟨ia,il,ic,p,T.length,C,rfl,cL h.n8.row k (λb o e s=>h.n8.sep b o e (.inr s)),PB ..,?_⟩;obtain ⟨d,-⟩|⟨g,q,r,d,-⟩:=m.2;exact .inl (P8 d).2.1;have e:p=some (AD g 0):=(P8 d).1;subst e;refine .inr ⟨g,0,rfl,λj y a=>?_⟩;obtain ⟨x,l,rfl⟩:∃x,T[j]? =some x/\Hx x=y:=by have a:(T.map Hx)[j]? =some y:=a;rw [PZ]at a;exact QY.1 a
 have⟨t,v,z,A⟩:=py T j x l;have c:∀{i:Nat}{u:Value},(eE T)[i]? =some u->CA w' g i u:=λ{i u} B=>by have:=m.cells (g:=g) rfl i u B;rw [QK,PU]at this;exact this
 rw [PU];exact ⟨_,_,_,c t,c v,c z,c A,cL (h.oO.ak x (Pm l)).mZ k (λb o e s=>(h.oO.ak x (Pm l)).sep b o e (.inr s))⟩
def oW.O1(h:oW w wr n gk nb ob pos us f fa fc ia il ic js nv T)(l:eh f)(m:us.length<=16)(v:T.length<=pos):gL (yS us js T):=by
 have d:(yS us js T).ak.length=T.length:=PB ..;have b:∀y∈(yS us js T).ak,∃(j:Nat)(x:TN),T[j]? =some x/\Hx x=y:=λy c=>by have⟨x,a,e⟩:=Qx.1 (show y∈T.map Hx from c);have⟨j,q⟩:=Rh a;exact ⟨j,x,q,e⟩
 refine ⟨m,ZR d h.many,λi o=>?_,λy c k r=>?_,λy c=>?_,λy c=>?_,λy c=>?_,?_⟩;obtain ⟨x,a,-⟩:=h.yK.1 i o;rw [d];exact (Po.1 a).1;obtain ⟨j,x,a,rfl⟩:=b y c;obtain ⟨z,t,-⟩:=(h.fin j x a (by have:=(Po.1 a).1;omega)).1.1 k r;rw [d];exact (Po.1 t).1;obtain ⟨j,x,a,rfl⟩:=b y c;have s:=(h.oO.ak x (Pm a)).met;show x.N<2^us.length;refine Nat.lt_pow_two_of_testBit _ λi o=>?_;rw [s.2 i,PH ZO,QX];obtain ⟨j,x,a,rfl⟩:=b y c;have p:=(h.IW x (Pm a)).small l;exact ⟨by have:=p.1;show x.W.need<_;omega,by have:=p.2;show x.W.ban<_;omega⟩;obtain ⟨j,x,a,rfl⟩:=b y c;have u:=(h.fin j x a (by have:=(Po.1 a).1;omega)).2;have g:=(h.oO.ak x (Pm a)).mZ.1;rw [aD]at g;show x.bh.length<=_;omega;have g:=h.n8.row.1;rw [aD]at g;have:=h.n8.bA;show js.length<=_;omega
end
def bX{w g m o q c d l}(r:w.cell? (AD g 0)=some m)(s:w.cell? (AD g 1)=some o)(t:w.cell? (AD g 2)=some q)(b)
 (e:b=((w.setCell (AD g 0) c).setCell (AD g 1) d).setCell (AD g 2) l):
 b.cell? (AD g 0)=some c/\b.cell? (AD g 1)=some d/\b.cell? (AD g 2)=some l/\aj (λk=>k=g) w b:=by
 subst e
 have a:∀(W:WD)(i j:Nat)(v:Value),i≠j->(W.setCell (AD g i) v).cell? (AD g j)=W.cell? (AD g j):=λW i j v h=>PQ _ _ _ _ (dX (Rz h))
 refine ⟨?_,?_,?_,(((aj.refl (λk=>k=g) w).setCell (p:=(AD g 0)) (λ_=>rfl) _).setCell (p:=(AD g 1)) (λ_=>rfl) _).setCell (p:=(AD g 2)) (λ_=>rfl) _⟩
 rw [a _ _ _ _ ZD,a _ _ _ _ ZD]
 exact P4 (h:=r) ..
 rw [a _ _ _ _ ZD]
 exact P4 (h:=by rw [a _ _ _ _ ZD];exact s) ..
 exact P4 (h:=by rw [a _ _ _ _ ZD,a _ _ _ _ ZD];exact t) ..
def l9(f:Fm)(n:Nat):Prop:=∃L:List Wy,256<L.length/\(∀(i j:Nat)(x y:Wy),L[i]? =some x->L[j]? =some y->bH n x=bH n y->i=j)/\∀x∈L,Is f n x
def eP.L3{w n gk nb ob pos us f fa fc c p nv T X}(h:eP w n gk nb ob pos us f fa fc c p nv T X)(o:256<T.length)(m:∀x∈T,Is f n x.W):l9 f n:=by refine ⟨T.map TN.W,by rw [PB];exact o,λi j x y d g e=>?_,λx d=>?_⟩;rw [PZ]at d g;obtain ⟨a,k,rfl⟩:=QY.1 d;obtain ⟨b,l,rfl⟩:=QY.1 g;exact h.uniq i j a b k l e;obtain ⟨y,g,rfl⟩:=Qx.1 d;exact m y g
def gE.shape{w w' n gk nb ob pos us f fa fc g j nv T X d e}(h:gE w n gk nb ob pos us f fa fc g j nv T X d e w'):
 ∃a l c b,e=RT (.tuple #[SL a l c,.bool b])/\gE w n gk nb ob pos us f fa fc g j nv T X d (RT (.tuple #[SL a l c,.bool b])) w':=by
 have i:=h
 obtain ⟨k,R,-,-,-,-,⟨a,l,c,js,rfl,-⟩|⟨rfl,-⟩⟩:=h
 exact ⟨a,l,c,true,rfl,i⟩
 exact ⟨none,0,0,false,rfl,i⟩
def gE.yes{w w' n gk nb ob pos us f fa fc i j nv T X d a l c}(h:gE w n gk nb ob pos us f fa fc i j nv T X d (RT (.tuple #[SL a l c,.bool true])) w'):
 ∃(g:Value)(R:List TN)(js:List Nat),eP w' n gk nb ob pos us f fa fc i j g (T++R) X/\aj (cd gk nb ob nv) w w'/\(∀b,g.ownBlock=some b->nv.ownBlock=some b\/w.heap.size<=b)/\
  (∀x∈R,x.W∈eH f (n+1) (Wy.aM d)/\x.t=(none,0,0)/\x.bh=[])/\(T++R).length<=256/\iV w w' (lZ gk nb ob g X) a l c js/\mW f n (T++R) d js:=by
 obtain ⟨g,R,k,m,o,p,⟨u,y,v,js,e,q,r,s,t⟩|⟨e,-⟩⟩:=h
 cases e
 exact ⟨g,R,js,k,m,o,p,q,r,s,t⟩
 cases e
def gE.no{w w' n gk nb ob pos us f fa fc d q nv T X b a l c}(h:gE w n gk nb ob pos us f fa fc d q nv T X b (RT (.tuple #[SL a l c,.bool false])) w')
 (o:∀x∈T,Is f n x.W) (p:∀Z∈rf f n b,Is f n Z):l9 f n/\aj (cd gk nb ob nv) w w':=by
 obtain ⟨r,R,i,j,u,k,⟨s,v,t,js,e,-⟩|⟨e,m⟩⟩:=h
 cases e
 exact ⟨i.L3 m (λx g=>(PC.1 g).elim (o x) (λg=>p _ (k x g).1)),j⟩
def oW.aM{w i q n gk nb ob us f fa fc d R a l c js}(r:BW w i)
 (h:HC i w.heap.size #[IV 0,SN,SN] 36) (g:∀k,cd gk nb ob (SN) k->w.heap.size<k)
 (z:eP q n gk nb ob 0 us f fa fc (us.length:Int) (SN) d R (oA w fa)) (A:aj (cd gk nb ob (SN)) i q) (B:∀b,d.ownBlock=some b->(SN).ownBlock=some b\/i.heap.size<=b)
 (C:∀x∈R,x.W∈eH f (n+1) (Wy.aM [n-1])/\x.t=(none,0,0)/\x.bh=[]) (G:R.length<=256) (D:iV i q (lZ gk nb ob d (oA w fa)) a l c js) (E:mW f n R [n-1] js):
 oW w (q.setCell (AD gk 4) (SL a l c)) n gk nb ob 0 us f fa fc a l c js d R:=by
 have⟨F,u⟩:=z.Oj (SL a l c)
 have t:w.heap.size<i.heap.size:=(Pb.1 h).1
 have p:∀k,cd gk nb ob d k->w.heap.size<k:=λk s=>by obtain s|s:=fM (nvi':=d) B s;exact g k s;omega
 have y:aj (λk=>w.heap.size<k) i (q.setCell (AD gk 4) (SL a l c)):=(A.mono λk _ s=>g k s).then u (λk _ s=>p k s)
 have m:=D.ax u (λk s=>.inl s) (λk s=>.inl s)
 exact ⟨F,r.trans (y.ag r.size (λk I s=>ZO)),(y.block _ t (λs=>ZO)).trans h,p,⟨m.row,λb o e=>PG r.size (m.bG b o e),m.sep,m.lt,m.bA,m.nil⟩,E,λj x v H=>ZO,λx v=>.aP (C x v).1,G⟩
def oW.cI{w wr c n gk nb ob pos us f fa fc ia il ic js nv T}(h:oW w wr n gk nb ob pos us f fa fc ia il ic js nv T)(a:aj (cd gk nb ob nv) wr c):
 BW w c/\HC c w.heap.size #[IV 0,SN,SN] 36:=by
 have b:w.heap.size<wr.heap.size:=(Pb.1 h.xT).1
 exact ⟨h.aJ.trans (a.ag h.aJ.size (λk a s=>ZH (h.bG k s))),(a.block _ b (λs=>ZH (h.bG _ s))).trans h.xT⟩
def Dj(w:WD)(fa:OA)(n:Nat)(f:Fm)(e:Ending)(w':WD):Prop:=
 BW w w'/\((∃A v,e=RT (.tuple #[v,IV 0])/\(∃_:kF f A,True)/\Ou w' (oA w fa) A v/\gL A/\A.sets=(dL f n).length)\/
  ∃a:Int,e=RT (.tuple #[.agg #[IV 0,SN,SN],IV a])/\a≠0/\(50<n\/16<(dL f n).length\/l9 f n))
def Ht(w n f fa fc)(hf:FA w fa n f)(a9:ep w)(hN:Fm.gR f)(ap:eh f)(hn:n<=1000000):
 CL 42 #[SL fa n fc] w (Dj w fa n f):=by
 have⟨us,aM⟩:=EX (dL f n)
 have bN:=@TU prog
 have a4:Hid (∀w2,BW w w2->CL 75 #[SL fa n fc] w2 λe w'=>∃a' m c',e=RT (SL a' m c')/\aF .i64 3 w2 w' (SL a' m c') us):=λw2 hb=>by rw [<-aM];exact yj fa n fc _ f w2 (hf.ag hb) hn (fJ ap)
 have aX:Hid (∀w2,BW w w2->CL 76 #[SL fa n fc] w2 λe w'=>e=RT (.bool true)/\BW w2 w'):=λw2 hb=>AO fa n fc f w2 (hf.ag hb) hN ap hn
 have bO:0<n:=by rw [<-hf.size];exact Fm.br f
 have HF:=O8 hf
 have a1:=O8 a9
 have HN:=O8 hN
 have aA:=O8 ap
 have N:=O8 aM
 have⟨i3,bM,bT,bP,aH⟩:=P6 Tryz.eA
 have⟨w1,ar⟩:=EX (w.alloc (CE #[IV 0,SN,SN] 36))
 have aD:BW w w1:=ar▸ah _ _
 have a3:=O8 (a4.o w1 aD)
 have aS:=O8 aD
 have a0:Hid (w1.heap[w.heap.size]? =some (.cells #[IV 0,SN,SN] 36 (0,0))):=by rw [<-ar];exact (Ph w _).1
 clear hf a9 hN ap aM aD
 go_enter func42,ntmps42
 go_upto_region 1 with(fail)
 go_upto_region 4 with(first
  |(go_at_call 75;apply a3.o.mono;rintro e w2 ⟨ua,um,uc,rfl,aa⟩;have aZ:=O8 aa;have aW:=O8 (aX.o w2 (af aS.o aa.2.1));clear aa)
  |(go_at_call 76;apply aW.o.mono;rintro e u ⟨rfl,aH⟩;have bo:=O8 aH;clear aH))
 have bQ:um=us.length:=(gy aZ.o).symm
 have H:Hid (BW w1 u):=af aZ.o.2.1 bo.o
 have aq:w.heap.size<w1.heap.size:=by rw [<-ar,PL];exact Tq _
 have I:Hid (u.heap[w.heap.size]? =some (.cells #[IV 0,SN,SN] 36 (0,0))):=(H.o.block _ aq).trans a0.o
 have V:u.cell? (AD w.heap.size 0)=some (IV 0):=CH I.o
 have X:u.cell? (AD w.heap.size 1)=some (SN):=CH I.o
 have C:u.cell? (AD w.heap.size 2)=some (SN):=CH I.o
 have z0:u.frozen? (AD w.heap.size 0)=false:=Pg I.o 0
 have z1:u.frozen? (AD w.heap.size 1)=false:=Pg I.o 1
 have z2:u.frozen? (AD w.heap.size 2)=false:=Pg I.o 2
 have q:Hid (BW w u):=af aS.o H.o
 clear ar a3 aW a4 aX
 by_cases a7:n<=50
 ·have a8:¬((50:Int)<n):=ZO;by_cases bJ:um<=16
  ·have a6:¬((16:Int)<um):=ZO;go_upto_region 8 with(fail)
   go_upto_region 9 with(fail);have⟨gk,an⟩:=EX (u.heap.size+1+1);have⟨w4,P⟩:=EX (((u.alloc (.map #[] 0)).alloc (.map #[] 0)).alloc (CE #[SL fa n fc,.map (some u.heap.size),.map (some (u.heap.size+1)),IV us.length,SN,SN] 116));rw [P,an];have al:BW u w4:=P▸((Pn _ u).alloc (Pf _) _|>.alloc (by rw [PL];omega) _|>.alloc (by rw [PL,PL];omega) _);have az:eP w4 n gk u.heap.size (u.heap.size+1) 0 us f fa fc (us.length:Int) (SN) (SN) [] (oA w fa):=by
    have⟨wa,ha⟩:=EX (u.alloc (.map #[] 0));have⟨wb,am⟩:=EX (wa.alloc (.map #[] 0));rw [ha,am]at P;have sa:wa.heap.size=u.heap.size+1:=by rw [<-ha,PL]
    have sb:wb.heap.size=u.heap.size+1+1:=ZW am sa;have m1:cK prog 9 wa u.heap.size 0 (λ_=>none):=ha▸cK.aM prog 9 u;have m2:cK prog 3 wb (u.heap.size+1) 0 (λ_=>none):=by have:=cK.aM prog 3 wa;rw [am,sa]at this;exact this
    have bt:BW wa wb:=am▸ah _ _;have a5:BW wb w4:=P▸ah _ _;obtain ⟨fb,fo,rfl,bK⟩:=(HF.o.ag q.o).lt;have bA:fb<w.heap.size:=by have⟨bH,bI,e,h⟩:=HF.o.lt;cases e;exact h
    refine ⟨by rw [<-P,<-an,<-sb];exact (Ph wb _).1,Qd _ _ _ _,λx hx=>(ZC hx),⟨_,(m1.ag (af bt a5)),λj x hx=>(ZC hx),λs v h=>(ZC h)⟩,⟨_,m2.ag a5,λj x hx=>(ZC hx)⟩,⟨ZO,ZO,ZO⟩,λb e=>(ZC e),λi j x y hx=>(ZC hx),λk s=>?_,(HF.o.ag q.o).ag al,λb o e s=>?_,λb o e=>?_⟩
    ·have:=q.o.size;obtain s|s|s|s:=s
     ·omega
     ·omega
     ·omega
     ·cases s
    ·cases e
     have:=q.o.size;rcases s with(s|s|s|s)|s
     ·omega
     ·omega
     ·omega
     ·cases s
     ·exact s.2 fo rfl
    ·cases e
     have:=al.size;omega
   have U:Hid (∀k,cd gk u.heap.size (u.heap.size+1) (SN) k->w.heap.size<k):=λk s=>by
    have:w.heap.size<u.heap.size:=Ps aq H.o.size;obtain s|s|s|s:=s
    ·omega
    ·omega
    ·omega
    ·cases s
   have bc:w4.heap.size=gk+1:=by rw [<-P,PL,PL,PL,an]
   have⟨Q,ab⟩:=EX (w4.alloc (CE #[IV ((n:Int)-1)] 3));have ac:=(aT w4 #[IV ((n:Int)-1)] 3 0 _ rfl).1;rw [ab,bc]at ac;have E:BW w4 Q:=ab▸ah _ _;have J:=af al E;have aI:((n-1:Nat):Int)=(n:Int)-1:=ZO;have ay:aG .i64 Q (some (AD (gk+1) 0)) 1 (aE [n-1]):=⟨rfl,.inr ⟨_,_,rfl,λi hi=>by obtain rfl:i=0:=ZO;show Q.cell? (AD (gk+1) 0)=some (IV ((n-1:Nat):Int));rw [aI];exact ac⟩⟩
   have au:=O8 (az.ag E);have aQ:Hid (CL 77 #[PT gk,SV (gk+1) 1 1] Q λe w'=>∃a l c b,e=RT (.tuple #[SL a l c,.bool b])/\gE Q n gk u.heap.size (u.heap.size+1) 0 us f fa fc (us.length:Int) (SN) (SN) [] (oA w fa) [n-1] (RT (.tuple #[SL a l c,.bool b])) w'):=by have bR:w.heap.size<Q.heap.size:=Ps aq (PG H.o.size J.size);have h:=EH Q n gk u.heap.size (u.heap.size+1) 0 f fa fc (us.length:Int) (SN) (SN) [] (oA w fa) (some (AD (gk+1) 0)) 1 1 [n-1] (ZR N.o au.o) (λk e=>ZH e.1) (a1.o.ag (af q.o J)) HN.o aA.o a7 ZD ay (λp hp=>by rw [Pc.1 hp];omega) ZD (λe=>ZC e);rw [N.o]at h;exact h.mono λe w' h=>h.shape
   have S:=O8 J;have ak:Hid (Q.heap[w.heap.size]? =some (.cells #[IV 0,SN,SN] 36 (0,0))):=(J.block _ (Ps aq H.o.size)).trans I.o;clear az P al ac E J ay V X C z0 z1 z2;go_upto_region 10 with(go_at_call 77;apply aQ.o.mono;rintro e w6 ⟨a,l,c,b,rfl,ad⟩;have L:=O8 ad;clear ad);cases b
   ·have K:=L.o.no (λx hx=>ZC hx) (λZ hZ=>.aP hZ);have O:w6.heap[w.heap.size]? =some (.cells #[IV 0,SN,SN] 36 (0,0)):=(K.2.block _ (Pb.1 ak.o).1 (λs=>ZH (U.o _ s))).trans ak.o
    have aU:Hid (BW w w6):=(af q.o S.o).trans (K.2.ag (af q.o S.o).size (λk hk s=>ZH (U.o k s)));have M:=O8 K.1;have V:w6.cell? (AD w.heap.size 0)=some (IV 0):=CH O;have X:w6.cell? (AD w.heap.size 1)=some (SN):=CH O;have C:w6.cell? (AD w.heap.size 2)=some (SN):=CH O;have z0:w6.frozen? (AD w.heap.size 0)=false:=Pg O 0;have z1:w6.frozen? (AD w.heap.size 1)=false:=Pg O 1;have z2:w6.frozen? (AD w.heap.size 2)=false:=Pg O 2;clear O K;go_wp2;(try simp only [Exit.inBlock,Exit.then]);have⟨G,d⟩:=EX (((w6.setCell (AD w.heap.size 0) (IV 0)).setCell (AD w.heap.size 1) (SN)).setCell (AD w.heap.size 2) (SN));rw [d];have⟨d0,d1,d2,B⟩:=bX V X C G d.symm;clear d V X C;refine Qz (v:=.tuple #[.agg #[IV 0,SN,SN],IV 11]) ?_ rfl ⟨?_,.inr ⟨11,rfl,ZD,.inr (.inr M.o)⟩⟩
    ·rw [Rp rfl];go_simp
    ·exact aU.o.trans (B.ag aU.o.size (λk hk e=>ZO))
   ·have⟨nv,R,js,Y,h2,h3,h4,h5,h6,h7⟩:=L.o.yes;have HL:=O8 (oW.aM (af q.o S.o) ak.o U.o Y h2 h3 h4 h5 h6 h7)
    have i4:w6.cell? (AD gk 4)=some (SN):=CH Y.dB;have y4:w6.frozen? (AD gk 4)=false:=Pg Y.dB 4;clear Y h2 h3 h4 h5 h6 h7 L aQ;go_upto_region 13 with(fail);have⟨w7,bm⟩:=EX (w6.setCell (AD gk 4) (SL a l c));rw [bm]at HL⊢;clear bm i4 y4;go_wp2;have⟨nb,bg⟩:=EX u.heap.size;have⟨ob,bi⟩:=EX (nb+1);rw [bg,bi]at HL;rw [bg,bi];clear U a0 I ak S au an bc;go_loopw [8] (λx wr=>∃(pos:Nat)(nv:Value)(T:List TN),x=IV pos/\pos<=T.length/\Hid (oW w wr n gk nb ob pos us f fa fc a l c js nv T)) (λx _=>257-(intOf x).toNat);exact ⟨0,_,_,rfl,Pz _,HL⟩;clear HL;obtain ⟨pos,nv,T,rfl,bC,D⟩:=hrel;obtain ⟨na,nc,rfl⟩:=bF D.o.oO.cO;have aL:=D.o.many;have k5:wr.cell? (AD gk 5)=some (SL na T.length nc):=CH D.o.oO.dB;by_cases be:pos<T.length
    ·have bf:(pos:Int)<T.length:=ZO;obtain ⟨x,hx⟩:∃x,T[pos]? =some x:=⟨_,Pe be⟩
     have⟨g,hm,hg⟩:=D.o.oO.Nh;have bd:=hg pos x hx (Pf _);have k2:wr.cell? (AD gk 2)=some (.map (some ob)):=CH D.o.oO.dB;have aK:=iL (n:=pos) ZO;have z:=hm.look mq underlying114 (FH wr) aK;rw [bd]at z;simp only [QC]at z;have⟨W,hW⟩:=EX x.W;obtain ⟨⟨⟨xa,xl,xc⟩,⟨ya,yl,yc⟩⟩,hr⟩:∃r,x.r=r:=⟨_,rfl⟩;rw [hW,hr]at z;change (Instr.lookup 114 (.map (some ob)) (IV pos) false).run prog wr=.ok (.agg #[UV W.need,UV W.ban,SL xa xl xc,SL ya yl yc]) wr at z;have HM:=O8 hm;have HG:=O8 hg;have HX:=O8 hx;have HW:=O8 hW;have bq:=O8 hr;have bp:=O8 aK;clear hm hg bd hx hW hr aK;go_upto_region 17 with(fail);have⟨Q,ab⟩:=EX (wr.alloc (CE #[UV W.need,UV W.ban,SL xa xl xc,SL ya yl yc] 119));have aC:=(aT wr #[UV W.need,UV W.ban,SL xa xl xc,SL ya yl yc] 119 2 _ rfl).1;rw [ab]at aC⊢;have E:BW wr Q:=ab▸ah _ _;have j2:Q.cell? (AD gk 2)=some (.map (some ob)):=by rw [Pa (D.o.oO.ag E).dB];rfl
     have⟨ai,bb,aa,ao⟩:=(HM.o.ag E).del mq underlying114 bp.o 0;have bj:ob<wr.heap.size:=HM.o.lt;have F:=(D.o.oO.ag E).del HG.o aa ao;have aJ:aj (cd gk nb ob (SL na T.length nc)) wr ai:=(aj.mono (aj.aC E) (λk hk s=>ZO)).then ao (λk _ s=>.inr (.inr (.inl s)));have bu:=ao.aq aC (by show¬(wr.heap.size=ob);omega);have⟨bk,ax⟩:=D.o.cI aJ;have aN:x∈T:=Pm HX.o;have ae:=(F.ak x aN).pT;rw [HW.o,bq.o]at ae;have bD:w.heap.size<ai.heap.size:=(Pb.1 ax).1;have bS:xl<=n:=by have h:=ae.1.1;simp only at h;rw [<-h];exact kS _ _
     have br:=O8 F;have aY:=O8 aJ;have aR:Hid (CL 77 #[PT gk,SL xa xl xc] ai λe w'=>∃a2 l2 C b2,e=RT (.tuple #[SL a2 l2 C,.bool b2])/\gE ai n gk nb ob (pos+1) us f fa fc (us.length:Int) (SL a l c) (SL na T.length nc) T (oA w fa) (zJ n W) (RT (.tuple #[SL a2 l2 C,.bool b2])) w'):=by have h:=EH ai n gk nb ob (pos+1) f fa fc (us.length:Int) (SL a l c) (SL na T.length nc) T (oA w fa) xa xl xc (zJ n W) (ZR N.o F) (λk e=>ZH e.1) (a1.o.ag bk) HN.o aA.o a7 aL ae.1 (λp hp=>P5.1 (PY.1 hp).1) ZO ae.2.2.2.2.2.2.1;rw [N.o]at h;exact h.mono λe w' h=>h.shape
     have bs:=O8 aN;clear F aJ aa ao aC ab E z ae k2 k5 bk ax aN bj;go_upto_region 18 with(fail);clear j2 bb;go_upto_region 19 with(go_at_call 77;apply aR.o.mono;rintro e w7 ⟨a2,l2,C,b2,rfl,ad⟩;have L:=O8 ad;clear ad);clear aR bu;cases b2
     ·have K:=L.o.no D.o.IW (λZ hZ=>.next (D.o.IW x bs.o) (ZR HW.o hZ));have⟨bl,A⟩:=D.o.cI (aY.o.then K.2 (λ_ _ s=>s))
      have aV:=O8 bl;have M:=O8 K.1;have V:w7.cell? (AD w.heap.size 0)=some (IV 0):=CH A;have X:w7.cell? (AD w.heap.size 1)=some (SN):=CH A;have C:w7.cell? (AD w.heap.size 2)=some (SN):=CH A;have z0:w7.frozen? (AD w.heap.size 0)=false:=Pg A 0;have z1:w7.frozen? (AD w.heap.size 1)=false:=Pg A 1;have z2:w7.frozen? (AD w.heap.size 2)=false:=Pg A 2;clear bl A K;go_wp2;(try simp only [Exit.inBlock,Exit.then]);have⟨G,d⟩:=EX (((w7.setCell (AD w.heap.size 0) (IV 0)).setCell (AD w.heap.size 1) (SN)).setCell (AD w.heap.size 2) (SN));rw [d];have⟨d0,d1,d2,B⟩:=bX V X C G d.symm;clear d V X C;refine Qz (v:=.tuple #[.agg #[IV 0,SN,SN],IV 11]) ?_ rfl ⟨?_,.inr ⟨11,rfl,ZD,.inr (.inr M.o)⟩⟩
      ·rw [Rp rfl];go_simp
      ·exact aV.o.trans (B.ag aV.o.size (λk hk e=>ZO))
     ·have⟨bU,R2,ks,Y,h2,h3,h4,h5,h6,h7⟩:=L.o.yes;obtain ⟨bx,bz,rfl⟩:=bF Y.cO
      obtain ⟨tb,rfl⟩:∃tb,bx=some (AD tb 0):=by
       obtain ⟨h8,-⟩|⟨g,bE,bG,h8,-⟩:=Y.cO.2
       ·have:=(P8 h8).2.1;rw [Pk]at this
        omega
       ·exact ⟨g,(P8 h8).1⟩
      have bn:(T++R2)[pos]? =some x:=by rw [Pp be];exact HX.o
      have bv:=Y.cO.cells (g:=tb) rfl _ _ (py (T++R2) pos x bn).2.2.2;rw [QK,PU]at bv;have bL:=Y.cO.frozenAt (pos*4+3);have i5:w7.cell? (AD gk 5)=some (.slice (some (AD tb 0)) (T++R2).length bz):=CH Y.dB;rw [<-HW.o]at h4 h7;have aB:=O8 (D.o.step HX.o aY.o Y h2 h3 h4 h5 h6 h7);have aw:((T++R2).set pos {x with t:=(a2,l2,C),bh:=ks}).length=(T++R2).length:=RX;have⟨T3,ba⟩:=EX ((T++R2).set pos {x with t:=(a2,l2,C),bh:=ks});rw [ba]at aB aw;have bw:pos<(T++R2).length:=by rw [Pk];omega
      have⟨aO,av⟩:=EX ((T++R2).length);rw [av]at aB aw i5 bw;have bB:(pos:Int)<aO:=ZO;clear Y h2 h3 h4 h5 h6 h7 L ba av bn;go_wp2;go_roundw;exact ⟨pos+1,_,T3,ZN,ZO,aB⟩;simp [intOf];omega
    ·obtain rfl:pos=T.length:=ZO;have bf:¬((T.length:Int)<T.length):=ZO
     have k3:wr.cell? (AD gk 3)=some (IV us.length):=CH D.o.oO.dB;have k4:wr.cell? (AD gk 4)=some (SL a l c):=CH D.o.oO.dB;have hR:=D.o.xT;have V:wr.cell? (AD w.heap.size 0)=some (IV 0):=CH hR;have X:wr.cell? (AD w.heap.size 1)=some (SN):=CH hR;have C:wr.cell? (AD w.heap.size 2)=some (SN):=CH hR;have z0:wr.frozen? (AD w.heap.size 0)=false:=Pg hR 0;have z1:wr.frozen? (AD w.heap.size 1)=false:=Pg hR 1;have z2:wr.frozen? (AD w.heap.size 2)=false:=Pg hR 2;clear hR;go_wp2;(try simp only [Exit.inBlock,Exit.then]);have⟨G,d⟩:=EX (((wr.setCell (AD w.heap.size 0) (IV us.length)).setCell (AD w.heap.size 1) (SL a l c)).setCell (AD w.heap.size 2) (SL na T.length nc));rw [d];have⟨d0,d1,d2,B⟩:=bX V X C G d.symm;clear d V X C;refine Qz (v:=.tuple #[.agg #[IV us.length,SL a l c,SL na T.length nc],IV 0]) ?_ rfl ⟨?_,.inl ⟨yS us js T,_,rfl,?_,(λw1 Y=>D.o.Dk ((B.mono (λk _ e=>⟨Q2 e,λo e2=>by obtain ⟨fb,fo,e3,h3⟩:=HF.o.lt;rw [e2]at e3;cases e3;omega⟩)).then Y (λk _ s=>s))),D.o.O1 aA.o ZO (Pf _),by rw [N.o];rfl⟩⟩
     ·rw [Rp rfl];go_simp
     ·exact D.o.aJ.trans (B.ag D.o.aJ.size (λk hk e=>ZO))
     ·have h:=D.o;rw [<-N.o]at h⊢
      exact h.LZ HN.o (Pf _)
  ·have a6:(16:Int)<um:=ZO;go_wp2
   (try simp only [Exit.inBlock,Exit.then]);have⟨G,d⟩:=EX (((u.setCell (AD w.heap.size 0) (IV 0)).setCell (AD w.heap.size 1) (SN)).setCell (AD w.heap.size 2) (SN));rw [d];have⟨d0,d1,d2,B⟩:=bX V X C G d.symm;clear d V X C;refine Qz (v:=.tuple #[.agg #[IV 0,SN,SN],IV 11]) ?_ rfl ⟨?_,.inr ⟨11,rfl,by decide,.inr (.inl (by rw [N.o];omega))⟩⟩
   ·rw [Rp rfl];go_simp
   ·exact q.o.trans (B.ag q.o.size (λk hk e=>ZO))
 ·have a8:(50:Int)<n:=ZO;go_wp2
  (try simp only [Exit.inBlock,Exit.then]);have⟨G,d⟩:=EX (((u.setCell (AD w.heap.size 0) (IV 0)).setCell (AD w.heap.size 1) (SN)).setCell (AD w.heap.size 2) (SN));rw [d];have⟨d0,d1,d2,B⟩:=bX V X C G d.symm;clear d V X C;refine Qz (v:=.tuple #[.agg #[IV 0,SN,SN],IV 5]) ?_ rfl ⟨?_,.inr ⟨5,rfl,ZD,.inl ZO⟩⟩
  ·rw [Rp rfl];go_simp
  ·exact q.o.trans (B.ag q.o.size (λk hk e=>ZO))
end
def Oe(z)(q n:Nat)(w)(d:CA w q 0 (IV n))(b:0<=z)(c:z<(n:Int)):
 CL 45 #[IV z,PT q] w λe a=>e=RT (.bool false)/\a=w:=by
 have f:decide (z<0)=false:=PH ZO
 have g:decide ((n:Int)<=z)=false:=PH ZO
 go_enter func45,ntmps45
 go_wp2
 go_ret
 exact ⟨rfl,rfl⟩
def F5{a:List Int}:a.any (λ_=>false)=false:=by induction a<;>simp_all
def qg{l z}(h:z∈aE l):∃k∈l,z=(k:Int):=by have⟨k,a,b⟩:=Qx.1 h;exact ⟨k,a,b.symm⟩
def NY(a l c b)(q n:Nat)(w)(i:aG .i64 w a l (aE b))(o:l<=16777216)(g:CA w q 0 (IV n))(h:∀j∈b,j<n):
 CL 46 #[SL a l c,.func (.func 45) #[] #[PT q]] w λe d=>e=RT (.bool false)/\d=w:=by
 refine (BL a l c (aE b) (PT q) (λ_=>false) w i ZO (λz m=>?_)).mono ?_
 obtain ⟨k,f,rfl⟩:=qg m
 exact Oe _ q n w g ZO (ZH (h k f))
 rintro e d ⟨rfl,rfl⟩
 exact ⟨by rw [F5],rfl⟩
def dZ(w A y v G H c R)(r:cm w A y v H c)(J:gL A):
 CL 23 #[.agg #[IV A.sets,SL y v G,SL H c R]] w λe f=>e=RT (IV 0)/\BW w f:=by
 have⟨l,F⟩:=EX (w.alloc (CE #[IV A.sets,SL y v G,SL H c R] 36))
 have B:BW w l:=F▸ah _ _
 have d:=aT w #[IV A.sets,SL y v G,SL H c R] 36
 rw [F]at d
 have U:=O8 B
 have Y:Hid (∀f,BW l f->cm f A y v H c):=λf I=>r.ag (af B I)
 have Q:=O8 J
 have g:Hid (∀(i:Nat)(u:Value),(#[IV A.sets,SL y v G,SL H c R]:Array Value)[i]? =some u->∀f,BW l f->CA f w.heap.size i u):=λi u hu f I=>(dy I (d i u hu)).1
 have ae:c<=256:=by rw [<-r.bA];exact J.many
 have Z:v<=16777216:=by have:=r.aP.1;rw [aD]at this;rw [<-this];exact J.il
 have ai:A.sets<=16:=J.sets
 have N:¬((16:Int)<A.sets):=ZO
 have L:¬((256:Int)<c):=ZO
 have M:¬((A.sets:Int)<0):=ZO
 have d0:decide ((256:Int)<c)=false:=PH L
 have d1:decide ((16:Int)<A.sets)=false:=PH N
 have d2:decide ((A.sets:Int)<0)=false:=PH M
 have a0:=g.o 0 _ rfl l (Pn _ _)
 have a1:=g.o 1 _ rfl l (Pn _ _)
 have a2:=g.o 2 _ rfl l (Pn _ _)
 clear r J B d
 go_enter func23,ntmps23
 go_upto_region 2 with(fail)
 have⟨q,hq⟩:=EX l.heap.size
 have⟨a,s⟩:=EX (l.alloc (CE #[IV c] 3))
 have h:BW l a:=s▸ah _ _
 have E:=(aT l #[IV c] 3 0 _ rfl)
 rw [s,hq]at E
 rw [s,hq]
 have W:Hid (∀f,BW a f->CA f q 0 (IV c)):=λf I=>(dy I E).1
 have z:=O8 h
 have V:Hid (CL 46 #[SL y v G,.func (.func 45) #[] #[PT q]] a λe f=>e=RT (.bool false)/\f=a):=
  NY y v G A.aP q c a (Y.o a h).aP Z (W.o a (Pn _ _)) (λj hj=>by rw [<-(Y.o a h).bA];exact Q.o.aP j hj)
 have b0:=g.o 0 _ rfl a h
 have b1:=g.o 1 _ rfl a h
 have b2:=g.o 2 _ rfl a h
 have bq:=W.o a (Pn _ _)
 clear a0 a1 a2 F s hq h E
 go_upto_region 7 with(go_at_call 46;apply V.o.mono;rintro e a ⟨rfl,rfl⟩)
 go_wp2
 go_loopw [32] (λx wr=>∃j:Nat,j<=c/\x=IV j/\Hid (BW a wr)) (λx _=>c-(intOf x).toNat)
 exact ⟨0,Pz _,rfl,O8 (Pn _ _)⟩
 obtain ⟨j,hj,rfl,D⟩:=hrel
 by_cases ab:j<c
 have ad:(j:Int)<c:=ZO
 have r:=Y.o wr (af z.o D.o)
 obtain ⟨x,hx⟩:∃x,A.ak[j]? =some x:=⟨_,Pe (by rw [r.bA];exact ab)⟩
 obtain ⟨b,o,rfl,K⟩:=r.ak.resolve_left ZO
 have⟨S,P,T,k0,k1,k2,k3,n⟩:=K j x hx
 have t:x∈A.ak:=Pm hx
 have ac:P<=16777216:=by have:=n.1;rw [aD]at this;rw [<-this];exact Q.o.tl x t
 have⟨p,O⟩:=EX (wr.alloc (CE #[UV x.need,UV x.ban,UV x.inn,SL S P T] 62))
 have C:BW wr p:=O▸ah _ _
 have d:=aT wr #[UV x.need,UV x.ban,UV x.inn,SL S P T] 62
 rw [O]at d
 have m:Hid (BW a p):=af D.o C
 have X:Hid (CL 46 #[SL S P T,.func (.func 45) #[] #[PT q]] p λe f=>e=RT (.bool false)/\f=p):=
  NY S P T (dk.tO x) q c p (n.ag C) ac (W.o p m.o) (λk hk=>by rw [<-r.bA];exact Q.o.mZ x t k hk)
 have aa:=Q.o.inn x t
 have ag:((x.inn:Int)/2^A.sets !=0)=false:=by have e:((x.inn:Int)/2^A.sets)=((x.inn/2^A.sets:Nat):Int):=ZS;rw [e,Nat.div_eq_of_lt aa];rfl
 have e2:=(d 2 _ rfl).1
 have e3:=(d 3 _ rfl).1
 have e0:CA p w.heap.size 0 (IV A.sets):=g.o 0 _ rfl p (af z.o m.o)
 clear r hx K n t C d
 go_upto_region 10 with(fail)
 go_wp2_with (go_at_call 46;apply X.o.mono;rintro e p ⟨rfl,rfl⟩)
 go_roundw
 exact ⟨j+1,ZO,ZN,m⟩
 simp [intOf];omega
 obtain rfl:j=c:=ZO
 go_wp2
 go_ret
 exact ⟨rfl,af U.o (af z.o D.o)⟩
section
open Go.Maps
def Tryz.Lh:(prog.info? 127).map (λi=>(i.zero,i.size,i.bytes))=some (some (.agg #[IV 0,IV 0]),2,16):=ZK
def Io(p:Nat×Nat):Value:=.agg #[IV p.1,IV p.2]
def iS:List (Nat×Nat)->List Value
 |[]=>[]
 |p::l=>IV p.1::IV p.2::iS l
def se:∀l p,iS (l++[p])=iS l++[IV p.1,IV p.2]
 |[],p=>rfl
 |y::l,p=>by rw [Qq];simp only [iS,se l p,Qq]
def xM:∀l j p,l[j]? =some p->(iS l)[j*2]? =some (IV p.1)/\(iS l)[j*2+1]? =some (IV p.2)
 |_::l,0,_,h=>by cases h;exact ⟨rfl,rfl⟩
 |_::l,j+1,p,h=>by have a:=xM l j p h;have e:(j+1)*2=j*2+1+1:=ZO;rw [e];exact a
 |[],_,_,h=>by simp at h
def Fs{p q}(h:Io p=Io q):p=q:=by obtain ⟨a,b⟩:=p;obtain ⟨c,d⟩:=q;have e:=Value.agg.inj h;simp only [Array.mk.injEq,Rk,Value.int.injEq,true_and,and_true,Int.natCast_inj]at e;rw [e.1,e.2]
def Ln{p}(b:p.1<=4611686018427387903)(c:p.2<=4611686018427387903):∃a,keyOf prog 127 (Io p)=some a:=MZ (Vf ZO) (Vf ZO)
def cA(gk nb:Nat)(pv:Value)(k:Nat):Prop:=k=gk\/k=nb\/pv.ownBlock=some k
structure mI where
 ia:OA
 il:Nat
 ic:Nat
 na:OA
 nl:Nat
 nc:Nat
structure fT (w0 w:WD) (gk nb:Nat) (A:Au) (s:mI) (pv:Value) (P:List (Nat×Nat)):Prop where
 dB:w.heap[gk]? =some (.cells #[IV A.sets,SL s.ia s.il s.ic,SL s.na s.nl s.nc,.map (some nb),pv] 124 (0,0))
 cO:w.ownsRow 0 127 2 pv P.length (iS P)
 aW:∃g,cK prog 127 w nb P.length g/\(∀(j:Nat)(p:Nat×Nat),P[j]? =some p->g (Io p)=some (IV j))/\∀p v,g (Io p)=some v->∃j:Nat,P[j]? =some p
 ne:gk≠nb
 oK:∀b,pv.ownBlock=some b->b≠gk/\b≠nb
 aJ:BW w0 w
 bG:∀k,cA gk nb pv k->w0.heap.size<=k
 EI:cm w0 A s.ia s.il s.na s.nl
section
variable {w0 w w1:WD} {gk nb:Nat} {A:Au} {s:mI} {pv pv':Value} {P:List (Nat×Nat)}
def fT.uA(h:fT w0 w gk nb A s pv P):gk<w.heap.size:=(Pb.1 h.dB).1
def fT.dY(h:fT w0 w gk nb A s pv P):∀k,cA gk nb pv k->k<w.heap.size:=λk a=>by obtain rfl|rfl|a:=a;exact h.uA;obtain ⟨g,b,-⟩:=h.aW;exact b.lt;exact dx h.cO k a
def fT.ax(h:fT w0 w gk nb A s pv P){R}(a:aj R w w1)(c:∀k,R k->¬cA gk nb pv k)(i:∀k,R k->w0.heap.size<=k):fT w0 w1 gk nb A s pv P:=by refine ⟨(a.block gk h.uA (λs=>c _ s (.inl rfl))).trans h.dB,bp h.cO a (λb e s=>c _ s (.inr (.inr e))),?_,h.ne,h.oK,h.aJ.trans (a.ag h.aJ.size (λk a s=>ZH (i k s))),h.bG,h.EI⟩;have⟨g,d,f⟩:=h.aW;exact ⟨g,d.ax a (λs=>c _ s (.inr (.inl rfl))),f⟩
def fT.ag(h:fT w0 w gk nb A s pv P)(a:BW w w1):fT w0 w1 gk nb A s pv P:=
 h.ax (aj.aC a) (λk b s=>ZH (h.dY k s)) (λk b=>ZH h.aJ.size)
def gw{S:Nat->Prop}(h:∀b,pv'.ownBlock=some b->pv.ownBlock=some b\/S b){k}(d:cA gk nb pv' k):cA gk nb pv k\/S k:=by obtain a|a|a:=d;exact .inl (.inl a);exact .inl (.inr (.inl a));exact (h k a).imp (λc=>.inr (.inr c)) id
def fT.dw{q r t}(h:fT w0 w gk nb A s pv P)(p)(R:p∉P){g}(C:∀(j:Nat)(p),P[j]? =some p->g (Io p)=some (IV j))(D:∀p v,g (Io p)=some v->∃j:Nat,P[j]? =some p)
 (T:cK prog 127 w1 nb (P.length+1) (rD g (Io p) (some (IV P.length)))) (o:aj (λk=>k=nb) w w1) (x:BW w1 q)
 (u:r.ownsRow 0 127 2 pv' (P.length+1) (iS P++[IV p.1,IV p.2])) (d:aj (λk=>pv.ownBlock=some k) q r) (G:∀b,pv'.ownBlock=some b->pv.ownBlock=some b\/q.heap.size<=b)
 (I:t=r.setCell (AD gk 4) pv'):fT w0 t gk nb A s pv' (P++[p])/\aj (cA gk nb pv) w t/\∀b,pv'.ownBlock=some b->pv.ownBlock=some b\/w.heap.size<=b:=by
 have J:w.heap.size<=q.heap.size:=PG o.size x.size
 have f:∀b,pv'.ownBlock=some b->pv.ownBlock=some b\/w.heap.size<=b:=λb e=>(G b e).imp id (λh=>PG J h)
 have c:=h.uA
 have E:¬pv.ownBlock=some gk:=λe=>(h.oK gk e).1 rfl
 have H:¬pv.ownBlock=some nb:=λe=>(h.oK nb e).2 rfl
 have V:aj (cA gk nb pv) w w1:=o.mono λk _ s=>.inr (.inl s)
 have W:aj (cA gk nb pv) w q:=V.then (aj.aC x) (λi Z s=>ZH o.size)
 have X:aj (cA gk nb pv) w r:=W.then d (λi _ s=>.inr (.inr s))
 have l:aj (λk=>k=gk) r t:=by rw [I];exact (aj.refl (λk=>k=gk) r).setCell (p:=(AD gk 4)) (λ_=>rfl) _
 have L:aj (cA gk nb pv) w t:=X.then l (λi _ s=>.inl s)
 have M:q.heap[gk]? =some (.cells #[IV A.sets,SL s.ia s.il s.ic,SL s.na s.nl s.nc,.map (some nb),pv] 124 (0,0)):=(x.block gk (Ps c o.size)).trans ((o.block gk c h.ne).trans h.dB)
 have N:=(d.block gk (Ps c J) E).trans M
 have O:t.heap[gk]? =some (.cells #[IV A.sets,SL s.ia s.il s.ic,SL s.na s.nl s.nc,.map (some nb),pv'] 124 (0,0)):=by rw [I];simp [World.setCell,P7,N]
 have a:∀b,pv'.ownBlock=some b->b≠gk/\b≠nb:=λb e=>by obtain e|e:=f b e;exact h.oK b e;have m:=h.dY gk (.inl rfl);have Y:=h.dY nb (.inr (.inl rfl));omega
 have z:∀{j:Nat}{y:Nat×Nat},(P++[p])[j]? =some y->P[j]? =some y\/j=P.length/\y=p:=λ{j y} n=>by obtain F|B|S:=RF j P.length;rw [Pp F]at n;exact .inl n;subst B;rw [Qm]at n;cases n;exact .inr ⟨rfl,rfl⟩;rw [Qs (by simp;omega)]at n;cases n
 refine ⟨⟨O,by rw [se,Pk];exact bp u l (λb e s=>(a b e).1 s),⟨_,by rw [Pk];exact ((T.ag x).ax d H).ax l h.ne.symm,λj y U=>?_,λy v K=>?_⟩,h.ne,a,h.aJ.trans (L.ag h.aJ.size (λk o s=>ZH (h.bG k s))),λk s=>?_,h.EI⟩,L,f⟩
 obtain m|⟨rfl,rfl⟩:=z U
 rw [cV _ _ _ _ (λe=>R (by rw [<-Fs e];exact Pm m))]
 exact C j y m
 rw [ft]
 by_cases e:y=p
 subst e;exact ⟨P.length,Qm⟩
 rw [cV _ _ _ _ (λQ=>e (Fs Q))]at K
 have⟨j,m⟩:=D y v K
 exact ⟨j,by rw [Pp (Po.1 m).1];exact m⟩
 obtain s|s:=gw f s
 exact h.bG k s
 have:=h.aJ.size;omega
end
def vQ(w0 w:WD)(gk nb:Nat)(A:Au)(s:mI)(pv:Value)(P:List (Nat×Nat))(p:Nat×Nat)(e:Ending)(c:WD):Prop:=
 ∃(j:Nat)(pv':Value)(a:List (Nat×Nat)),e=RT (IV j)/\fT w0 c gk nb A s pv' a/\aj (cA gk nb pv) w c/\(∀b,pv'.ownBlock=some b->pv.ownBlock=some b\/w.heap.size<=b)/\a[j]? =some p/\(a=P\/a=P++[p])
def Ea{w o a K Q}(s x)
 (H:o.op=.call {callee:=.builtin .append,args:=#[s,x],argTypes:=#[122,122]})
 (v n z) (J:a.eval s=v) (G:w.ownsRow 0 127 2 v n z)
 (r c d) (L:a.eval x=SL (some r) 1 c) (N:d.length=2) (f:∀j u,d[j]? =some u->w.cell? (r.add j)=some u) (D:∀u∈d,u.oneCell'=true) (C:n+1<=67108864)
 (h:∀i l g,g.ownsRow 0 127 2 (SL i (n+1) l) (n+1) (z++d)->aj (λk=>v.ownBlock=some k) w g->(∀b,(SL i (n+1) l).ownBlock=some b->v.ownBlock=some b\/w.heap.size<=b)->K (a.put o.dst (SL i (n+1) l)) g):aY prog o a w K Q:=by
 have⟨q,F,M,y,E⟩:=P6 Tryz.Lh
 constructor
 have⟨O,g,I,B,m,_,p⟩:=Tk (P:=prog) w 0 122 o.type 127 q _ 2 16 underlying122 F M y E rfl ZD v n z G r 1 c d ZO f D (by unfold maxLen;omega) ZO (Pz _)
 unfold Oper.wp execOp
 simp only [H,resolve,invoke,builtin,Rv,R6,Q9,Rm,Pv,PE,J,L,I]
 have t:aj (λk=>v.ownBlock=some k) w g:=⟨m.os,m.tape,m.output,m.size,λk t C=>m.block k t (λe=>C e.symm)⟩
 obtain ⟨i,l,rfl⟩:=bF B
 refine h i l g B t (λb e=>?_)
 obtain p|p:=p
 rw [p]at e;exact .inl e
 rw [p]at e;cases e;exact .inr (Pf _)
def BO(w0 w gk nb A s pv P p)(hd:fT w0 w gk nb A s pv P)(hP:P.length<=33554432)(h1:p.1<=1000000)(h2:p.2<=1000000):
 CL 109 #[PT gk,Io p] w (vQ w0 w gk nb A s pv P p):=by
 obtain ⟨l,m⟩:=p
 simp only at h1 h2
 show CL 109 #[PT gk,.agg #[IV l,IV m]] w _
 have⟨w1,F⟩:=EX (w.alloc (CE #[IV l,IV m] 127))
 have L:BW w w1:=F▸ah _ _
 have⟨q,hq⟩:=EX w.heap.size
 have y:=aT w #[IV l,IV m] 127
 rw [F,hq]at y
 have B:=hd.ag L
 have⟨g,hm,aa,ab⟩:=B.aW
 have⟨kl,O⟩:=Ln (p:=(l,m)) ZO ZO
 have a:=(hm.ag (Pn _ w1).drew).look_ok Jr underlying121 (oS _) O
 have c0:=(y 0 _ rfl).1
 have c1:=(y 1 _ rfl).1
 have k3:CA w1 gk 3 (.map (some nb)):=CH B.dB
 have k4:CA w1 gk 4 pv:=CH B.dB
 have HD:=O8 hd
 have I:=O8 B
 have X:=O8 L
 have HM:=O8 hm
 have J:=O8 aa
 have Z:=O8 ab
 have an:=O8 O
 have HQ:=O8 hq
 have av:Hid (∀(i:Nat)(u:Value),(#[IV l,IV m]:Array Value)[i]? =some u->∀d,aj (λk=>k≠q) w1 d->CA d q i u):=λi u hu d hk=>hk.aq (y i u hu).1 (λh=>h rfl)
 clear hd B hm aa ab O L y
 go_enter func109,ntmps109
 go_upto_region 1 with(fail)
 cases t:g (Io (l,m))with
 |some v=>
  have⟨j,N⟩:=Z.o (l,m) v t
  have hv:v=IV j:=by have:=J.o j _ N;rw [t]at this;exact Qh this
  subst hv
  rw [t]at a
  simp only [QC,UL]at a
  change (Instr.lookup 121 (.map (some nb)) (.agg #[IV l,IV m]) true).run prog w1.drew=_ at a
  have HJ:=O8 N
  clear N t F hq
  refine aw 10 (S:=λd=>CA d q 0 (IV l)/\CA d q 1 (IV m)/\CA d gk 3 (.map (some nb))/\(Instr.lookup 121 (.map (some nb)) (.agg #[IV l,IV m]) true).run prog d=.ok (.tuple #[IV j,.bool true]) d) ZK (⟨c0,c1,k3,a⟩) (λc=>?_)
  refine aB 0 ?_
  refine aB 1 ?_
  refine aB 2 ?_
  refine aB 3 ?_
  refine aB 4 ?_
  refine aB 5 ?_
  refine aB 6 ?_
  refine aB 7 ?_
  refine aB 8 ?_
  refine aB 9 ?_
  clear c
  refine aK 10 λK f=>?_
  go_simp
  refine f.q ?_
  clear f K
  refine az ZK ?_
  go_wp2
  go_ret
  exact ⟨j,pv,P,rfl,I.o.ag (Pn _ _).drew,aj.mono (aj.aC (af X.o (Pn _ _).drew)) (λk hk s=>ZO),λb h=>.inl h,HJ.o,.inl rfl⟩
 |none=>
  rw [t]at a
  simp only [Ts,UK]at a
  change (Instr.lookup 121 (.map (some nb)) (.agg #[IV l,IV m]) true).run prog w1.drew=_ at a
  have HF:Hid ((l,m)∉P):=λhy=>by have⟨j,N⟩:=Rh hy;have:=J.o j _ N;rw [t]at this;cases this
  obtain ⟨U,V,rfl⟩:=bF I.o.cO
  clear t F hq
  refine aw 10 (S:=λd=>CA d q 0 (IV l)/\CA d q 1 (IV m)/\CA d gk 3 (.map (some nb))/\(Instr.lookup 121 (.map (some nb)) (.agg #[IV l,IV m]) true).run prog d=.ok (.tuple #[IV 0,.bool false]) d) ZK (⟨c0,c1,k3,a⟩) (λc=>?_)
  refine aB 0 ?_
  refine aB 1 ?_
  refine aB 2 ?_
  refine aB 3 ?_
  refine aB 4 ?_
  refine aB 5 ?_
  refine aB 6 ?_
  refine aB 7 ?_
  refine aB 8 ?_
  refine aB 9 ?_
  clear c
  refine aK 10 λK f=>?_
  go_simp
  refine f.q ?_
  clear f K
  refine az ZK ?_
  have⟨W,R⟩:=EX w1.drew
  rw [R]
  have r:BW w1 W:=R▸(Pn _ _).drew
  have o:=O8 (I.o.ag r)
  have Y:=O8 r
  have l0:=(r.cell (O9 w1 _ c0)).trans c0
  have l1:=(r.cell (O9 w1 _ c1)).trans c1
  have l3:=(r.cell (O9 w1 _ k3)).trans k3
  have l4:=(r.cell (O9 w1 _ k4)).trans k4
  clear c0 c1 k3 k4 a R r
  go_upto_region 4 with(fail)
  have⟨C,H,ad,n⟩:=((HM.o.ag Y.o).ag (Pn _ W).drew).put Jr underlying121 (by unfold maxLen;omega) an.o (IV P.length)
  change (Instr.mapUpdate 121 (.map (some nb)) (.agg #[IV l,IV m]) (IV P.length)).run prog W.drew=_ at H
  have ai:¬q=nb:=by have h1:=HD.o.dY nb (.inr (.inl rfl));have h2:=HQ.o;omega
  have ac:¬gk=nb:=HD.o.ne
  have d0:=n.aq (p:=(AD q 0)) l0 ai
  have d1:=n.aq (p:=(AD q 1)) l1 ai
  have d4:=n.aq (p:=(AD gk 4)) l4 ac
  have ao:=O8 ad
  have D:Hid (aj (λk=>k=nb) W C):=⟨n.os,n.tape,n.output,n.size,n.block⟩
  have f4:FZ C gk 4:=Pg ((D.o.block gk o.o.uA ac).trans o.o.dB) 4
  clear ad n l4
  refine aw 6 (S:=λd=>CA d q 0 (IV l)/\CA d q 1 (IV m)/\CA d gk 3 (.map (some nb))) ZK (⟨l0,l1,l3⟩) (λc=>?_)
  refine aB 0 ?_
  refine aB 1 ?_
  refine aB 2 ?_
  refine aB 3 ?_
  refine aB 4 ?_
  refine aB 5 ?_
  clear c l0 l1 l3
  refine aK 6 λK f=>?_
  go_simp
  refine f.q ?_
  clear f K
  refine az ZK ?_
  have⟨T,al⟩:=EX (C.drew.alloc (CE #[IV l,IV m] 127))
  have x:BW C T:=al▸(Pn _ C).drew.alloc (Pf _) _
  have z:=aT C.drew #[IV l,IV m] 127
  rw [al]at z
  have e0:=(x.cell (O9 C _ d0)).trans d0
  have e1:=(x.cell (O9 C _ d1)).trans d1
  have e4:=(x.cell (O9 C _ d4)).trans d4
  have ar:Hid (CA T q 0 (IV l)/\CA T q 1 (IV m)/\CA T gk 4 (SL U P.length V)):=⟨e0,e1,e4⟩
  have am:=O8 x
  have aq:Hid (T.ownsRow 0 127 2 (SL U P.length V) P.length (iS P)):=bp (bp o.o.cO D.o (λb e s=>(o.o.oK b e).2 s)) (aj.aC x) (λb e s=>ZI (dx o.o.cO b e) D.o.size)
  have g4:=(dy x ⟨d4,f4⟩).2
  have au:=d0
  go_upto_region 5 with(fail)
  refine aw 7 (S:=λd=>CA d q 0 (IV l)/\CA d q 1 (IV m)/\CA d gk 4 (SL U P.length V)) ZK (⟨d0,d1,d4⟩) (λc=>?_)
  refine aB 1 ?_ [4,3,2,1]
  refine aB 2 ?_ [4,3,2]
  refine aB 3 ?_ [4,3]
  refine aB 4 ?_
  refine aB 5 ?_ [6,5]
  refine' aS (i:=0) (v:=_) rfl ZK (λ_ _ _ h=>h) (Or.inl ⟨by rfl,?hyT0⟩) (by assumption) ?restT0
  case hyT0=>(intro d ax;go_simp;(try with_reducible rfl))
  try walk_nrm
  clear c d0 d1 d4 au e0 e1
  refine aK 6 λK f=>?_
  go_simp
  refine f.o _ _ (λ_=>ar.o) ?_
  clear f K
  try walk_nrm
  have M:¬(SL U P.length V).ownBlock=some gk:=λe=>(o.o.oK gk e).1 rfl
  refine aK 7 λK f=>?_
  rw [PW (by rfl)]
  apply aY.o
  refine Ea (.tmp 33) (.tmp 35) rfl (SL U P.length V) P.length (iS P) rfl aq.o (AD C.heap.size 0) 1 [IV l,IV m] rfl rfl (λj u N=>?_) ZV ZO (λa6 c6 w6 ae E ak=>?_)
  rw [QK,PU]
  exact (z j u (ZX N)).1
  have o6:=E.aq e4 M
  have f6:=(PK (E.block gk (O9 _ _ e4) M)).trans g4
  have ap:Hid (vQ w0 w gk nb A s (SL U P.length V) P (l,m) (RT (IV P.length)) (w6.setCell (AD gk 4) (SL a6 (P.length+1) c6))):=by have Q:=o.o.dw (l,m) HF.o J.o Z.o ao.o D.o am.o ae E ak rfl;have G:=af X.o Y.o;exact ⟨P.length,_,_,rfl,Q.1,(aj.mono (aj.aC G) (λk hk s=>ZO)).then Q.2.1 (λ_ _ s=>s),λb e=>(Q.2.2 b e).imp id (λh=>PG G.size h),Qm,.inr rfl⟩
  refine f.q ?_
  clear f K z e4 g4 ae E ak M f4 H
  refine aK 8 λK f=>?_
  go_simp
  refine f.q ?_
  clear f K
  refine aK 9 λK f=>?_
  go_simp
  refine f.q ?_
  clear f K
  refine aK 10 λK f=>?_
  go_simp
  refine f.q ?_
  clear f K
  refine az ZK ?_
  go_wp2
  go_ret
  exact ap.o
end
section
open Go.Maps
structure rJ (w0 w wr:WD) (gk nb:Nat) (A:Au) (s:mI) (pv:Value) (P:List (Nat×Nat)) (ak:List Nat) (t k:Nat) (pvi:Value) (R:List (Nat×Nat)) (vo:Value) (js:List Nat):Prop where
 oO:fT w0 wr gk nb A s pvi (P++R)
 kw:aj (cA gk nb pv) w wr
 mv:∀b,pvi.ownBlock=some b->pv.ownBlock=some b\/w.heap.size<=b
 o:Sl wr 3 vo js.length ((aE js).map (Value.int .i64))
 lO:∀b,vo.ownBlock=some b->w.heap.size<=b/\pvi.ownBlock≠some b
 dJ:∀x∈R,x.2=t/\x.1∈ak
 yG:∀j∈js,∃q∈ak,(P++R)[j]? =some (q,t)
 done:∀q∈ak.take k,∃j∈js,(P++R)[j]? =some (q,t)
 rl:R.length<=k
 jl:js.length<=k
def CN{w a l c js}(h:Sl w 3 (SL a l c) js.length ((aE js).map (Value.int .i64))):l=js.length/\aG .i64 w a l (aE js):=by
 have⟨n,o,e,b⟩:=h.shape;obtain ⟨rfl,rfl,rfl⟩:=P8 e;refine ⟨rfl,aD _,?_⟩;obtain d|d:=Qv js.length;exact .inl d;obtain ⟨g,rfl,q,-⟩:=b 0 d;refine .inr ⟨g,0,rfl,λi f=>?_⟩;obtain ⟨p,j,-,m⟩:=b i f;cases j
 rw [PU,m,PZ,Pe (by rw [aD];exact f),Pd,Pe (by rw [aD];exact f)];rfl
def pF(w0 w:WD)(gk nb:Nat)(A:Au)(s:mI)(pv:Value)(P:List (Nat×Nat))(nodes:List Nat)(t:Nat)(e:Ending)(f:WD):Prop:=
 ∃(d:Value)(R:List (Nat×Nat))(a:OA)(l c:Nat)(js:List Nat),e=RT (SL a l c)/\fT w0 f gk nb A s d (P++R)/\aj (cA gk nb pv) w f/\(∀b,d.ownBlock=some b->pv.ownBlock=some b\/w.heap.size<=b)/\
  iV w f (cA gk nb d) a l c js/\(∀x∈R,x.2=t/\x.1∈nodes)/\(∀j∈js,∃q∈nodes,(P++R)[j]? =some (q,t))/\(∀q∈nodes,∃j∈js,(P++R)[j]? =some (q,t))/\R.length<=nodes.length
section
variable {w0 w wr w1 w2:WD} {gk nb:Nat} {A:Au} {s:mI} {pv pvi:Value} {P R:List (Nat×Nat)} {nodes:List Nat} {t k:Nat} {vo:Value} {js:List Nat}
def rJ.aM(h:fT w0 w gk nb A s pv P):rJ w0 w w gk nb A s pv P nodes t 0 pv [] (SN) []:=
 ⟨by rw [Qb];exact h,aj.refl _ _,λb e=>.inl e,Qd _ _ _ _,λb e=>(ZC e),λx d=>(ZC d),λj a=>(ZC a),λq c=>(ZC c),Pf _,Pf _⟩
def rJ.aW(h:rJ w0 w wr gk nb A s pv P nodes t k pvi R vo js)(d:∀k,cA gk nb pv k->k<w.heap.size){q}(u:nodes[k]? =some q){e}(G:vQ w0 wr gk nb A s pvi (P++R) (q,t) e w2):
 ∃(j:Nat)(c:Value)(a:List (Nat×Nat)),e=RT (IV j)/\(P++a)[j]? =some (q,t)/\fT w0 w2 gk nb A s c (P++a)/\aj (cA gk nb pv) w w2/\(∀b,c.ownBlock=some b->pv.ownBlock=some b\/w.heap.size<=b)/\
  Sl w2 3 vo js.length ((aE js).map (Value.int .i64))/\(∀b,vo.ownBlock=some b->w.heap.size<=b/\c.ownBlock≠some b)/\(∀x∈a,x.2=t/\x.1∈nodes)/\(∀j∈js,∃q∈nodes,(P++a)[j]? =some (q,t))/\(∀q∈nodes.take k,∃j∈js,(P++a)[j]? =some (q,t))/\a.length<=k+1:=by
 obtain ⟨j,c,B,rfl,o,l,z,H,F⟩:=G
 have I:w.heap.size<=wr.heap.size:=h.kw.size
 have m:∀b,c.ownBlock=some b->pv.ownBlock=some b\/w.heap.size<=b:=λb e=>(z b e).elim (h.mv b) (λh=>.inr ZO)
 have E:∃a,B=P++a/\(∀x∈a,x.2=t/\x.1∈nodes)/\(∀(k:Nat)(x:Nat×Nat),(P++R)[k]? =some x->(P++a)[k]? =some x)/\a.length<=k+1:=by obtain rfl|rfl:=F;exact ⟨R,rfl,h.dJ,λ_ _ h=>h,Nat.le_succ_of_le h.rl⟩;refine ⟨R++[(q,t)],Qe ..,λy i=>?_,λk y i=>?_,by rw [Pk];have:=h.rl;simp only [Qi];omega⟩;obtain i|i:=PC.1 i;exact h.dJ y i;rw [Pc.1 i];exact ⟨rfl,Pm u⟩;rw [<-Qe,Pp (Po.1 i).1];exact i
 obtain ⟨a,rfl,n,f,v⟩:=E
 refine ⟨j,c,a,rfl,H,o,h.kw.then l (λk l s=>?_),m,h.o.ax l (λg e s=>?_),λb e=>⟨(h.lO b e).1,λC=>?_⟩,n,λk l=>?_,λq u=>?_,v⟩
 obtain s|s:=gw (pv:=pv) h.mv s
 exact s
 omega
 have p:=h.lO g e
 obtain s|s|s:=s
 have:=d g (.inl s);omega
 have:=d g (.inr (.inl s));omega
 exact p.2 s
 obtain p|p:=z b C
 exact (h.lO b e).2 p
 have:=h.o.lt b e;omega
 have⟨q,D,r⟩:=h.yG k l
 exact ⟨q,D,f k _ r⟩
 have⟨k,l,r⟩:=h.done q u
 exact ⟨k,l,f k _ r⟩
def qs{q a}(b:nodes[k]? =some q)(h:a∈nodes.take (k+1)):a∈nodes.take k\/a=q:=by rw [Qf,b]at h;obtain h|h:=PC.1 h;exact .inl h;exact .inr (ZX h)
end
def BP(w0 w gk nb A s pv P ra K rc nodes)(t:Nat)(hd:fT w0 w gk nb A s pv P)(hP:P.length<=16777216)(hr:aG .i64 w0 ra K (aE nodes))(ar:K<=16777216)(M:∀q∈nodes,q<=1000000)(ht:t<=1000000):
 CL 78 #[PT gk,SL ra K rc,IV t] w (pF w0 w gk nb A s pv P nodes t):=by
 have aa:nodes.length=K:=by have:=hr.1;rwa [aD]at this
 have HD:=O8 hd
 have HR:=O8 hr
 have HQ:=O8 M
 have J:=O8 aa
 have n:Hid (∀k,cA gk nb pv k->k<w.heap.size):=hd.dY
 have H0:=O8 (rJ.aM (nodes:=nodes) (t:=t) hd)
 have⟨i3,ad,ah,ag,ac⟩:=P6 Tryz.eA
 clear hd hr M aa
 go_enter func78,ntmps78
 go_wp2
 go_loopw [7,13] (λv x wr=>∃(k:Nat)(pvi:Value)(R:List (Nat×Nat))(a:OA)(l c:Nat)(js:List Nat),k<=K/\x=IV k/\v=SL a l c/\Hid (rJ w0 w wr gk nb A s pv P nodes t k pvi R (SL a l c) js)) (λ_ x _=>K-(intOf x).toNat)
 exact ⟨0,pv,[],none,0,0,[],Pz _,rfl,rfl,H0⟩
 clear H0
 obtain ⟨k,pvi,R,a,l,c,js,hk,rfl,rfl,u⟩:=hrel
 have ap:=u.o.jl
 have ao:=u.o.rl
 by_cases S:k<K
 ·have al:(k:Int)<K:=ZO;obtain ⟨q,M⟩:∃q,nodes[k]? =some q:=⟨_,Pe (ZR J.o S)⟩
  obtain ⟨-,h0|⟨rb,ro,rfl,hc⟩⟩:=HR.o.ag u.o.oO.aJ
  ·omega
  have ck:CA wr rb (ro+k) (IV q):=by have:=hc k S;rw [cG (ZR J.o S),Pd,M]at this;exact this
  have af:q<=1000000:=HQ.o q (Pm M);have O:=O8 M;have D:Hid (CL 109 #[PT gk,.agg #[IV q,IV t]] wr λe w2=>∃(j:Nat)(m:Value)(E:List (Nat×Nat)),e=RT (IV j)/\(P++E)[j]? =some (q,t)/\fT w0 w2 gk nb A s m (P++E)/\aj (cA gk nb pv) w w2/\(∀b,m.ownBlock=some b->pv.ownBlock=some b\/w.heap.size<=b)/\
   Sl w2 3 (SL a l c) js.length ((aE js).map (Value.int .i64))/\(∀b,(SL a l c).ownBlock=some b->w.heap.size<=b/\m.ownBlock≠some b)/\(∀x∈E,x.2=t/\x.1∈nodes)/\(∀j∈js,∃q∈nodes,(P++E)[j]? =some (q,t))/\(∀q∈nodes.take k,∃j∈js,(P++E)[j]? =some (q,t))/\E.length<=k+1):=
   (BO w0 wr gk nb A s pvi (P++R) (q,t) u.o.oO (by rw [Pk];omega) af ht).mono λe w2 hp=>u.o.aW n.o M hp
  clear hc M u;go_upto_region 6 with(go_at_call 109;apply D.o.mono;rintro e w2 ⟨j,m,E,rfl,hx,z,F,B,r,f,C,i,d,N⟩);obtain ⟨rfl,y⟩:=CN r;have I:=O8 (jN a js.length c (aE js) (j:Int) w2 y ZO);by_cases Q:j∈js
  ·have p:decide ((j:Int)∈aE js)=true:=PX (Qx.2 ⟨j,Q,rfl⟩);rw [p]at I
   have HN:Hid (rJ w0 w w2 gk nb A s pv P nodes t (k+1) m E (SL a js.length c) js):=⟨z,F,B,r,f,C,i,λq' T=>(qs O.o T).elim (d q') (λe=>⟨j,Q,ZR e hx⟩),N,ZO⟩;clear z F B r f C i d y hx D p;go_wp2_with (go_at_call 110;apply I.o.mono;rintro e w2 ⟨rfl,rfl⟩);go_roundw;exact ⟨k+1,m,E,a,_,c,js,ZO,ZN,rfl,HN⟩;simp [intOf];omega
  ·have p:decide ((j:Int)∈aE js)=false:=PH (λh=>Q (by obtain ⟨j',H,U⟩:=qg h;have:j=j':=ZO;rw [this];exact H));rw [p]at I
   have HO:=O8 r;have W:Hid (∀(L X:Nat)(V:WD),Sl V 3 (SV L (js.length+1) X) (js.length+1) ((aE js).map (Value.int .i64)++[IV j])->aj (λk=>(SL a js.length c).ownBlock=some k) w2 V->((SL a js.length c).ownBlock=some L\/w2.heap.size<=L)->
    rJ w0 w V gk nb A s pv P nodes t (k+1) m E (SV L (js.length+1) X) (js++[j])):=λL X V H U Y=>by
    have s1:=F.size
    have ai:∀k,(SL a js.length c).ownBlock=some k->¬cA gk nb m k:=λb e s=>by
     have Y:=f b e;obtain s|s|s:=s
     ·have:=n.o b (.inl s);omega
     ·have:=n.o b (.inr (.inl s));omega
     ·exact Y.2 s
    refine ⟨z.ax U ai (λb e=>ZI ((f b e).1) HD.o.aJ.size),F.then U (λb hb e=>ZH ((f b e).1)),B,by simpa [aE]using H,λb e=>?_,C,λj' ae=>?_,λq' T=>?_,N,by rw [Pk,Qi];omega⟩
    ·obtain rfl:L=b:=Qh e;obtain e|e:=Y
     ·exact f _ e
     ·exact ⟨ZO,λe2=>ZH (z.dY _ (.inr (.inr e2)))⟩
    ·obtain h|h:=PC.1 ae
     ·exact i j' h
     ·rw [Pc.1 h];exact ⟨q,Pm O.o,hx⟩
    ·obtain h|rfl:=qs O.o T
     ·have⟨j',H,U⟩:=d q' h;exact ⟨j',P0 _ H,U⟩
     ·exact ⟨j,Qt _ (Pc.2 rfl),hx⟩
   clear z F B r f C i d y hx D p;go_wp2_with (first
    |(go_at_call 110;apply I.o.mono;rintro e w2 ⟨rfl,rfl⟩)
    |(at_builtin;refine av rfl (.tmp 26) (.tmp 28) 33 rfl 3 i3 (IV 0) 8 QD ad ah ag ac rfl ZD _ _ _ rfl HO.o _ rfl rfl ZO ?_;intro L X V hs Z B;have HE:=O8 (W.o L X V hs Z B);clear hs Z B))
   go_roundw;exact ⟨k+1,m,E,_,_,_,js++[j],ZO,ZN,rfl,HE⟩;simp [intOf];omega
 ·obtain rfl:k=K:=ZO;have ab:Hid (pF w0 w gk nb A s pv P nodes t (RT (SL a l c)) wr):=by
   have h:=u.o;have G:∀b o,a=some (AD b o)->(SL a l c).ownBlock=some b:=λb o e=>by subst e;rfl
   have⟨aq,y⟩:=CN h.o;have d:=h.done;rw [PI (by rw [J.o];exact Pf _)]at d;refine ⟨pvi,R,a,l,c,js,rfl,h.oO,h.kw,h.mv,⟨y,λb o e=>(h.lO b (G b o e)).1,λb o e s=>?_,λb o e=>h.o.lt b (G b o e),ZO,λe=>?_⟩,h.dJ,h.yG,d,ZR J.o h.rl⟩
   ·have Y:=h.lO b (G b o e);obtain s|s|s:=s
    ·have:=n.o b (.inl s);omega
    ·have:=n.o b (.inr (.inl s));omega
    ·exact Y.2 s
   ·subst e;obtain ⟨H,U⟩|⟨g,am,an,H,-⟩:=h.o.2
    ·exact ⟨(P8 H).2.1,(P8 H).2.2⟩
    ·cases (P8 H).1
  clear u;go_wp2;go_ret;exact ab.o
end
section
open Go.Maps
def below_drewN(w q):BW w (w.drewN q):=⟨rfl,rfl,rfl,Pf _,λ_ _=>rfl⟩
def Aw(a k:Nat)(h:a<18446744073709551616):(bits BinOp.and IntKind.u64 ((a:Int)/2^k) 1==1)=a.testBit k:=by have e:((a:Int)/2^k)=((a/2^k:Nat):Int):=ZS;have c:a/2^k<18446744073709551616:=Nat.lt_of_le_of_lt (Nat.div_le_self _ _) h;have d:=RC (a/2^k) 1 c ZD;rw [e,show((1:Int))=((1:Nat):Int)from rfl,d];rw [Nat.testBit,Nat.shiftRight_eq_div_pow,Nat.and_comm 1];have f:(a/2^k)&&&1=a/2^k%2:=Nat.and_one_is_mod _;rw [f];have i:a/2^k%2<2:=S7 _ ZD;obtain b|b:=Qv (a/2^k%2);rw [b];rfl;have g:a/2^k%2=1:=ZO;rw [g];rfl
def cm.nd{w A i k c d}(h:cm w A i k c d){j}(g:j<A.ak.length):∃b o x,c=some (AD b o)/\A.ak[j]? =some x/\A.ay j=x/\j<d/\IA w b (o+j*4) x:=by have l:=h.bA;have⟨b,o,e,f⟩:=h.ak.resolve_left ZO;have a:A.ak[j]? =some A.ak[j]:=Pe g;exact ⟨b,o,_,e,a,by unfold Au.ay;rw [Pd,a];rfl,ZO,f j _ a⟩
def ET(J w gk G A s H P p)(t:Nat)(y:fT J w gk G A s H P)(n:gL A)(r:p.1<A.ak.length)(M:t<64):
 CL 111 #[PT gk,Io p,IV t] w λe I=>e=RT (.bool ((A.ay p.1).inn.testBit t))/\BW w I:=by
 obtain ⟨l,u⟩:=p
 simp only at r
 show CL 111 #[PT gk,.agg #[IV l,IV u],IV t] w _
 have⟨k,g⟩:=EX (w.alloc (CE #[IV l,IV u] 127))
 have h:BW w k:=g▸ah _ _
 have f:=aT w #[IV l,IV u] 127
 rw [g]at f
 have c:=y.ag h
 obtain ⟨b,o,x,i,z,a,F,O,Q,R,B,C,L,D,-⟩:=(c.EI.ag c.aJ).nd r
 have K:=(f 0 _ rfl).1
 have N:k.cell? (AD gk 2)=some (SL (some (AD b o)) s.nl s.nc):=by rw [Pa c.dB,<-i];rfl
 have E:(l:Int)<s.nl:=ZO
 have j:=Pm z
 have q:x.inn<18446744073709551616:=Ps (n.inn x j) (QG ZD (by have:=n.sets;omega:A.sets<=64))
 have v:=Aw x.inn t q
 have m:=O8 h
 have d:=O8 a
 clear y c f z j a i n r B C D
 go_enter func111,ntmps111
 go_upto_region 1 with(fail)
 clear g
 go_quiet (fail)
 go_wp2
 go_ret
 exact ⟨by rw [d.o];rfl,af m.o (below_drewN k _)⟩
end
section
open Go.Maps
def UO:=@Bool.true_or
def C9(A:Au)(p:Nat×Nat):Nat:=if A.sets=0\/(p.2=0/\(A.ay p.1).inn.testBit 0=true)then 1 else 0
def qH(w0 w:WD)(gk nb:Nat)(A:Au)(s:mI)(pv:Value)(P:List (Nat×Nat))(p:Nat×Nat)(e:Ending)(d:WD):Prop:=
 ∃(pv':Value)(R:List (Nat×Nat))(a:OA)(l c:Nat)(js:List Nat),e=RT (.agg #[UV ((A.ay p.1).need:Int),UV ((A.ay p.1).ban:Int),UV (C9 A p:Int),SL a l c])/\fT w0 d gk nb A s pv' (P++R)/\aj (cA gk nb pv) w d/\(∀b,pv'.ownBlock=some b->pv.ownBlock=some b\/w.heap.size<=b)/\
  iV w d (cA gk nb pv') a l c js/\(∀x∈R,x.2=gQ A p.1 p.2/\x.1∈dk.tO (A.ay p.1))/\(∀j∈js,∃q∈dk.tO (A.ay p.1),(P++R)[j]? =some (q,gQ A p.1 p.2))/\(∀q∈dk.tO (A.ay p.1),∃j∈js,(P++R)[j]? =some (q,gQ A p.1 p.2))/\R.length<=(dk.tO (A.ay p.1)).length
def cX{d}{p:Tmp}{e}(h:d.results=#[.cell p e])(b P w):
 (results d b).run P w=((asAddr (b.getD p undef)).run P w).andThen λa f=>(loadVar e a).run P f:=by
 simp only [results,h]
 simp [Rv,Result.andThen]
structure mP (w0 wc w5:WD) (gk nb:Nat) (A:Au) (s:mI) (pv:Value) (P:List (Nat×Nat)) (ak:List Nat) (t need ban inn b7:Nat) (pv':Value) (R:List (Nat×Nat)) (a:OA) (l c:Nat) (js:List Nat):Prop where
 dB:w5.heap[b7]? =some (.cells #[UV need,UV ban,UV inn,SL a l c] 62 (0,0))
 lf:fT w0 w5 gk nb A s pv' (P++R)
 kw:aj (cA gk nb pv) wc w5
 mv:∀b,pv'.ownBlock=some b->pv.ownBlock=some b\/wc.heap.size<=b
 row:iV wc w5 (cA gk nb pv') a l c js
 dJ:∀x∈R,x.2=t/\x.1∈ak
 yG:∀j∈js,∃q∈ak,(P++R)[j]? =some (q,t)
 done:∀q∈ak,∃j∈js,(P++R)[j]? =some (q,t)
 rl:R.length<=ak.length
 bn:wc.heap.size<=b7
 bd:¬cA gk nb pv' b7
 ba:∀b o,a=some (AD b o)->b≠b7
section
variable {w0 wc w4 w5:WD} {gk nb:Nat} {A:Au} {s:mI} {pv:Value} {P:List (Nat×Nat)} {nodes:List Nat} {t need ban b7 inn inn':Nat} {pv':Value} {R:List (Nat×Nat)} {a:OA} {l c:Nat} {js:List Nat}
def mP.NT(y:fT w0 wc gk nb A s pv P)(f:fT w0 w4 gk nb A s pv' (P++R))(g:aj (cA gk nb pv) wc w4)(n:∀b,pv'.ownBlock=some b->pv.ownBlock=some b\/wc.heap.size<=b)(h:iV wc w4 (cA gk nb pv') a l c js)
 (p:∀x∈R,x.2=t/\x.1∈nodes) (r:∀j∈js,∃q∈nodes,(P++R)[j]? =some (q,t)) (u:∀q∈nodes,∃j∈js,(P++R)[j]? =some (q,t)) (v:R.length<=nodes.length)
 (d:w5=w4.alloc (CE #[UV need,UV ban,UV 0,SL a l c] 62)):mP w0 wc w5 gk nb A s pv P nodes t need ban 0 w4.heap.size pv' R a l c js:=by
 have i:BW w4 w5:=d▸ah _ _
 have m:aj (λ_=>False) w4 w5:=aj.mono (aj.aC i) (λk z s=>ZO)
 exact ⟨by rw [d];exact (Ph w4 _).1,f.ag i,g.then m (λ_ _ s=>s.elim),n,h.ax m (λ_ s=>s.elim) (λ_ s=>.inl s),p,r,u,v,g.size,λs=>ZH (f.dY _ s),λb o e w=>ZH (h.lt b o e)⟩
def mP.OM{g:WD}(C:fT w0 wc gk nb A s pv P)(w:g=(wc.alloc (CE #[UV 0,UV 0,UV 0,SN] 62)).drew)(D:fT w0 w4 gk nb A s pv' (P++R))(z:aj (cA gk nb pv) g w4)(B:∀b,pv'.ownBlock=some b->pv.ownBlock=some b\/g.heap.size<=b)(f:iV g w4 (cA gk nb pv') a l c js)
 (E:∀x∈R,x.2=t/\x.1∈nodes) (F:∀j∈js,∃q∈nodes,(P++R)[j]? =some (q,t)) (G:∀q∈nodes,∃j∈js,(P++R)[j]? =some (q,t)) (H:R.length<=nodes.length)
 (y:w5=(((w4.setCell (AD wc.heap.size 0) (UV need)).setCell (AD wc.heap.size 1) (UV ban)).setCell (AD wc.heap.size 2) (UV 0)).setCell (AD wc.heap.size 3) (SL a l c)):mP w0 wc w5 gk nb A s pv P nodes t need ban 0 wc.heap.size pv' R a l c js:=by
 have L:g.heap.size=wc.heap.size+1:=by rw [w];exact PL ..
 have u:BW wc g:=w▸(ah _ _).drew
 have m:¬cA gk nb pv wc.heap.size:=λs=>ZH (C.dY _ s)
 have d:¬cA gk nb pv' wc.heap.size:=λs=>by obtain s|s:=gw B s;exact m s;omega
 have i:w4.heap[wc.heap.size]? =some (.cells #[UV 0,UV 0,UV 0,SN] 62 (0,0)):=(z.block _ ZO m).trans (by rw [w];exact (Ph wc _).1)
 have n:aj (λk=>k=wc.heap.size) w4 w5:=by rw [y];exact ((((aj.refl (λk=>k=wc.heap.size) w4).setCell (p:=(AD wc.heap.size 0)) (λ_=>rfl) _).setCell (p:=(AD wc.heap.size 1)) (λ_=>rfl) _).setCell (p:=(AD wc.heap.size 2)) (λ_=>rfl) _).setCell (p:=(AD wc.heap.size 3)) (λ_=>rfl) _
 have J:aj (cA gk nb pv) wc w4:=(aj.mono (aj.aC u) (λk I s=>ZO)).then z (λ_ _ s=>s)
 have v:∀b o,a=some (AD b o)->wc.heap.size<b:=λb o e=>ZH (f.bG b o e)
 have r:w5.heap[wc.heap.size]? =some (.cells #[UV need,UV ban,UV 0,SL a l c] 62 (0,0)):=by rw [y];simp [HC,World.setCell,P7,i]
 exact ⟨r,D.ax n (λk e s=>d (e▸s)) (λk e=>ZH C.aJ.size),J.then n (λk I e=>ZO),λb e=>(B b e).imp id (λh=>ZO),
  ⟨cL f.row n (λb o e s=>ZH (v b o e)),λb o e=>ZH (v b o e),f.sep,λb o e=>Ps (f.lt b o e) n.size,f.bA,f.nil⟩,E,F,G,H,Pf _,d,λb o e K=>ZH (v b o e)⟩
def mP.ax{R' g}(h:mP w0 wc w5 gk nb A s pv P nodes t need ban inn b7 pv' R a l c js)(d:aj R' w5 g)(f:w0.heap.size<=wc.heap.size)(i:∀k,R' k->wc.heap.size<=k)(j:∀k,R' k->¬cA gk nb pv' k)(m:∀k,R' k->∀b o,a=some (AD b o)->b≠k){inn':Nat}
 (n:HC g b7 #[UV need,UV ban,UV inn',SL a l c] 62):mP w0 wc g gk nb A s pv P nodes t need ban inn' b7 pv' R a l c js:=
 ⟨n,h.lf.ax d j (λk e=>PG f (i k e)),h.kw.then d (λk d e=>ZH (i k e)),h.mv,⟨cL h.row.row d (λb o e s=>m b s b o e rfl),h.row.bG,h.row.sep,λb o e=>Ps (h.row.lt b o e) d.size,h.row.bA,h.row.nil⟩,h.dJ,h.yG,h.done,h.rl,h.bn,h.bd,h.ba⟩
def mP.ag{g}(h:mP w0 wc w5 gk nb A s pv P nodes t need ban inn b7 pv' R a l c js)(d:w0.heap.size<=wc.heap.size)(f:BW w5 g):mP w0 wc g gk nb A s pv P nodes t need ban inn b7 pv' R a l c js:=
 h.ax (aj.aC f) d (λk e=>ZH h.kw.size) (λk e s=>ZH (h.lf.dY k s)) (λk e b o i=>ZH (h.row.lt b o i)) ((f.block b7 (Pb.1 h.dB).1).trans h.dB)
def mP.one(h:mP w0 wc w5 gk nb A s pv P nodes t need ban inn b7 pv' R a l c js)(d:w0.heap.size<=wc.heap.size)(inn':Nat):mP w0 wc (w5.setCell (AD b7 2) (UV inn')) gk nb A s pv P nodes t need ban inn' b7 pv' R a l c js:=
 h.ax (R':=λk=>k=b7) ((aj.refl (λk=>k=b7) w5).setCell (p:=(AD b7 2)) (λ_=>rfl) _) d (λk e=>e▸h.bn) (λk e=>e▸h.bd) (λk e b o f=>e▸h.ba b o f) (by simp [HC,World.setCell,P7,h.dB])
def mP.o{w m p g}(h:mP w0 wc w5 gk nb A s pv P nodes t need ban inn b7 pv' R a l c js)(hw:BW w wc)(y:w0.heap.size<=w.heap.size)(f:∀k,cA gk nb pv k->k<w.heap.size)(d:aj (λk=>k=g) w5 m)(z:w.heap.size<=g)(x:g<wc.heap.size)
 (n:need=(A.ay p.1).need) (q:ban=(A.ay p.1).ban) (r:inn=C9 A p) (u:nodes=dk.tO (A.ay p.1)) (v:t=gQ A p.1 p.2):
 qH w0 w gk nb A s pv P p (RT (.agg #[UV need,UV ban,UV inn,SL a l c])) m:=by
 subst n q r u v
 have i:¬cA gk nb pv' g:=λs=>by obtain s|s:=gw h.mv s;have:=f g s;omega;omega
 have j:=hw.size
 refine ⟨pv',R,a,l,c,js,rfl,h.lf.ax d (λk e s=>i (e▸s)) (λk e=>ZO),((aj.mono (aj.aC hw) (λk d s=>ZO)).then h.kw (λ_ _ s=>s)).then d (λk d e=>ZO),λb e=>(h.mv b e).imp id (λh=>ZO),⟨cL h.row.row d (λb o e s=>ZH (h.row.bG b o e)),λb o e=>PG j (h.row.bG b o e),h.row.sep,λb o e=>Ps (h.row.lt b o e) d.size,h.row.bA,h.row.nil⟩,h.dJ,h.yG,h.done,h.rl⟩
end
def Gi(w0 w gk nb A s pv P p)(hd:fT w0 w gk nb A s pv P)(hA:gL A)(hP:P.length<=16777216)(hp:p.1<A.ak.length)(bn:p.2<=16):
 CL 79 #[PT gk,Io p] w (qH w0 w gk nb A s pv P p):=by
 obtain ⟨j,n⟩:=p
 simp only at hp bn
 show CL 79 #[PT gk,.agg #[IV j,IV n]] w _
 have⟨I,am⟩:=EX ((w.alloc (CE #[IV j,IV n] 127)).alloc (CE #[UV 0,UV 0,UV 0,SN] 62))
 have⟨q,hq⟩:=EX w.heap.size
 have aZ:=ah w (CE #[IV j,IV n] 127)
 have av:=ah (w.alloc (CE #[IV j,IV n] 127)) (CE #[UV 0,UV 0,UV 0,SN] 62)
 have aH:BW w I:=am▸af aZ av
 have s1:I.heap.size=q+1+1:=by rw [<-am,PL,PL,hq]
 have aJ:I.heap[q]? =some (.cells #[IV j,IV n] 127 (0,0)):=by rw [<-am,<-hq,(Ph _ _).2 _ (by rw [PL];omega)];exact (Ph w _).1
 have a3:I.heap[q+1]? =some (.cells #[UV 0,UV 0,UV 0,SN] 62 (0,0)):=by rw [<-am,<-hq,<-PL w (CE #[IV j,IV n] 127)];exact (Ph _ _).1
 have aq:=hd.ag aH
 have⟨b,o,x,a5,hx,al,bv,ta,tl,tc,e0,e1,e2,e3,ax⟩:=hd.EI.nd hp
 have kc:∀{i:Nat}{v:Value},w0.cell? (AD b i)=some v->I.cell? (AD b i)=some v:=λh=>(aq.aJ.cell (O9 w0 _ h)).trans h
 have n0:=kc e0
 have n1:=kc e1
 have n2:=kc e2
 have n3:=kc e3
 have c0:I.cell? (AD q 0)=some (IV j):=CH aJ
 have k2:I.cell? (AD gk 2)=some (SL (some (AD b o)) s.nl s.nc):=by rw [Pa aq.dB,<-a5];rfl
 have bu:(j:Int)<s.nl:=ZO
 have ba:=Pm hx
 have HD:=O8 hd
 have bi:=O8 aq
 have HA:=O8 hA
 have D:=O8 al
 have au:=O8 ax
 have aX:=O8 ba
 have aA:=O8 aJ
 have bg:=O8 a3
 have aQ:=O8 aH
 have HQ:=O8 hq
 have T:=O8 s1
 clear hd aq hA al ax ba aJ a3 aH s1 aZ av e0 e1 e2 e3 kc hx a5
 go_enter func79,ntmps79
 go_upto_region 1 with(fail)
 clear am hq
 have aV:Hid (∀u,BW I u->u.cell? (AD q 0)=some (IV j)/\u.cell? (AD gk 2)=some (SL (some (AD b o)) s.nl s.nc)/\u.cell? (AD b (o+j*4))=some (UV x.need)/\u.cell? (AD b (o+j*4+1))=some (UV x.ban)/\u.cell? (AD b (o+j*4+2))=some (UV x.inn)/\u.cell? (AD b (o+j*4+3))=some (SL ta tl tc)):=λu hb=>
  have k:∀{g i:Nat}{v:Value},I.cell? (AD g i)=some v->u.cell? (AD g i)=some v:=λh=>(hb.cell (O9 I _ h)).trans h
  ⟨k c0,k k2,k n0,k n1,k n2,k n3⟩
 refine aw 10 (S:=λu=>u.cell? (AD q 0)=some (IV j)/\u.cell? (AD gk 2)=some (SL (some (AD b o)) s.nl s.nc)/\u.cell? (AD b (o+j*4))=some (UV x.need)/\u.cell? (AD b (o+j*4+1))=some (UV x.ban)/\u.cell? (AD b (o+j*4+2))=some (UV x.inn)/\u.cell? (AD b (o+j*4+3))=some (SL ta tl tc)) ZK (⟨c0,k2,n0,n1,n2,n3⟩) (λU=>?_)
 refine aB 0 ?_
 refine aB 1 ?_
 refine aB 2 ?_
 refine aB 3 ?_
 refine aB 4 ?_
 refine aB 5 ?_
 refine aB 6 ?_
 refine aB 7 ?_
 refine aB 8 ?_
 clear U
 refine aK 9 λK F=>?_
 go_simp
 refine F.o _ _ (λ_=>aV.o _ ((Pn _ I).drew.alloc (Pf _) _)) ?_
 clear F K
 try walk_nrm
 refine aK 10 λK F=>?_
 go_simp
 refine F.q ?_
 clear F K
 refine az ZK ?_
 have⟨Q,an⟩:=EX ((I.alloc (CE #[UV x.need,UV x.ban,UV x.inn,SL ta tl tc] 62)).drew)
 have⟨m,ai⟩:=EX I.heap.size
 have ae:BW I Q:=an▸(ah I _).drew
 have a2:Q.heap[m]? =some (.cells #[UV x.need,UV x.ban,UV x.inn,SL ta tl tc] 62 (0,0)):=by rw [<-an,<-ai];exact (Ph I _).1
 have s2:Q.heap.size=m+1:=by rw [<-an,<-ai];exact PL ..
 rw [an,ai]
 have bh:=O8 ai
 have bc:=O8 ae
 have bf:=O8 a2
 have bj:=O8 s2
 have aC:=O8 (bi.o.ag ae)
 have j0:Q.cell? (AD q 0)=some (IV j):=by rw [Pa ((ae.block q (ZH T.o)).trans aA.o)];rfl
 have j1:Q.cell? (AD q 1)=some (IV n):=by rw [Pa ((ae.block q (ZH T.o)).trans aA.o)];rfl
 have jg:Q.cell? (AD gk 0)=some (IV A.sets):=CH aC.o.dB
 have bA:A.sets<=16:=HA.o.sets
 clear an ai ae a2 s2 c0 k2 n0 n1 n2 n3
 have⟨B,hB⟩:=EX ((decide (0<A.sets)&&(A.ay j).inn.testBit n))
 have ap:=O8 hB
 clear hB
 go_upto_region 3 with(fail)
 go_cut [31]from 17 to 31 (λv wc=>v=.bool B/\Hid (BW Q wc))
 case first=>
  by_cases h0:A.sets=0
  ·have hB:B=false:=by rw [<-ap.o,PH ZO,QX]
   subst hB;have g0:decide ((0:Int)<A.sets)=false:=PH ZO;go_wp2;go_meet;case rel=>exact ⟨rfl,O8 (Pn _ _)⟩
  ·have g0:decide ((0:Int)<A.sets)=true:=PX ZO;have Z:Hid (CL 111 #[PT gk,.agg #[IV j,IV n],IV n] Q λe u=>e=RT (.bool ((A.ay j).inn.testBit n))/\BW Q u):=ET w0 Q gk nb A s pv P (j,n) n aC.o HA.o hp ZO
   have hB:(A.ay j).inn.testBit n=B:=by rw [<-ap.o,PX ZO,Qu]
   rw [hB]at Z;clear hB;go_wp2_with (go_at_call 111;apply Z.o.mono;rintro e d ⟨rfl,a0⟩;have bd:=O8 a0;clear a0);go_meet;case rel=>exact ⟨rfl,bd⟩
 case rest=>
  obtain ⟨rfl,ag⟩:=hcut;have⟨t,ht⟩:=EX (gQ A j n);have HT:Hid (if B=true then(n+1)%A.sets=t else n=t):=by
   rw [<-ht,<-ap.o];unfold gQ;by_cases h0:0<A.sets/\(A.ay j).inn.testBit n=true
   ·rw [PW h0,PW (by rw [PX h0.1,h0.2];rfl)];exact O8 rfl
   ·rw [Qa h0,Qa (by rw [Qk,Qw];exact h0)];exact O8 rfl
  have aF:=O8 ht;have l1:=(ag.o.cell (O9 Q _ j1)).trans j1;have lg:=(ag.o.cell (O9 Q _ jg)).trans jg;clear ht;go_upto_if 31 with(fail);go_cut [6]from 32 to 40 (λv wd=>v=IV t/\Hid (BW Q wd));case first=>
   cases B
   ·have ht:n=t:=HT.o;subst ht
    go_wp2;go_meet;case rel=>exact ⟨rfl,ag⟩
   ·have ht:(n+1)%A.sets=t:=HT.o;have h0:0<A.sets:=by have h:=ap.o;rw [Qk,Qw]at h;exact h.1
    have bs:Int.tmod ((n:Int)+1) (A.sets:Int)=t:=by rw [Q5 ZO,<-ht];simp
    have bw:((A.sets:Int)==0)=false:=by simp;omega
    have bz:¬(A.sets:Int)=0:=ZO;clear ht;go_upto_region 4 with(fail);go_quiet (fail);go_wp2;go_meet;case rel=>exact ⟨rfl,O8 (af ag.o (below_drewN _ _))⟩
  case rest=>
   clear l1 lg ag;obtain ⟨rfl,aI⟩:=hcut;obtain ⟨d,rfl⟩:∃d,d=wc:=⟨_,rfl⟩;have ac:=O8 (aC.o.ag aI.o);have Y:Hid (d.heap[m]? =some (.cells #[UV x.need,UV x.ban,UV x.inn,SL ta tl tc] 62 (0,0))):=(aI.o.block m (by rw [bj.o];exact Tq _)).trans bf.o;have bp:tl<=16777216:=by have h:=au.o.1;rw [aD]at h;rw [<-h];exact HA.o.tl x aX.o
   have a9:t<=1000000:=by
    rw [<-aF.o];unfold gQ;split
    ·have:=S7 (n+1) (show 0<A.sets by omega);omega
    ·omega
   have aR:Hid (∀u,BW d u->CL 78 #[PT gk,SL ta tl tc,IV t] u (pF w0 u gk nb A s pv P (dk.tO x) t)):=λu hb=>
    BP w0 u gk nb A s pv P ta tl tc (dk.tO x) t (ac.o.ag hb) hP au.o bp (λk hk=>ZI (HA.o.mZ x aX.o k hk) HA.o.many) a9
   have m0:d.cell? (AD m 0)=some (UV x.need):=CH Y.o;have m1:d.cell? (AD m 1)=some (UV x.ban):=CH Y.o;have m3:d.cell? (AD m 3)=some (SL ta tl tc):=CH Y.o;have M:m<d.heap.size:=(Pb.1 Y.o).1;have aa:Hid (¬cA gk nb pv m):=λs=>by have:=HD.o.dY m s;have:=aQ.o.size;have:=bh.o;omega
   go_upto_region 5 with(fail);go_cut [7,49]from 41 to 50 (λv7 bq wd=>∃(b7:Nat)(pv':Value)(R:List (Nat×Nat))(a:OA)(l c:Nat)(js:List Nat),v7=PT b7/\bq=SL a l c/\Hid (mP w0 d wd gk nb A s pv P (dk.tO x) t x.need x.ban 0 b7 pv' R a l c js));case first=>
    refine aw 11 (S:=λu=>u.cell? (AD m 0)=some (UV x.need)/\u.cell? (AD m 1)=some (UV x.ban)/\u.cell? (AD m 3)=some (SL ta tl tc)) ZK (⟨m0,m1,m3⟩) (λU=>?_);refine aB 0 ?_;refine aB 1 ?_;refine aB 2 ?_;refine aB 3 ?_;refine aB 4 ?_;refine aB 5 ?_;refine aB 6 ?_;refine aB 7 ?_;clear U;refine qC (rs:=[8,10]) ZK ZS (fj.cons rfl (λK F=>?_) (fj.cons rfl (λK F=>?_) fj.nil))
    ·have E:Hid (BW d d.drew):=(Pn _ d).drew;rw [PW (by rfl)]
     apply aY.o;refine aO (f:=78) (args:=#[PT gk,SL ta tl tc,IV t]) (aR.o d.drew E.o) ?_ (λe w4 X=>?_)
     ·clear F;go_simp
     obtain ⟨pv',R,a,l,c,js,rfl,h1,H,h3,h4,h5,h6,h7,h8⟩:=X;refine ⟨_,rfl,?_⟩;have o0:=H.aq (p:=(AD m 0)) ((E.o.cell (p:=(AD m 0)) M).trans m0) aa.o;have o1:=H.aq (p:=(AD m 1)) ((E.o.cell (p:=(AD m 1)) M).trans m1) aa.o;have o3:=H.aq (p:=(AD m 3)) ((E.o.cell (p:=(AD m 3)) M).trans m3) aa.o;have aG:=And.intro o0 (And.intro o1 o3);refine F.o _ _ (λ_=>aG) ?_;clear F K;try walk_nrm
     refine' aS (i:=9) (v:=_) rfl ZK (λ_ _ _ h=>h) (Or.inl ⟨by rfl,?hyA9⟩) (by assumption) ?restA9;case hyA9=>(intro u bl;go_simp;(try with_reducible rfl))
     try walk_nrm
     have⟨w5,aN⟩:=EX (w4.alloc (CE #[UV x.need,UV x.ban,UV 0,SL a l c] 62));have aE:=O8 (mP.NT (need:=x.need) (ban:=x.ban) ac.o h1 (⟨H.os,H.tape,H.output,H.size,H.block⟩:aj (cA gk nb pv) d w4) h3 (⟨h4.row,h4.bG,h4.sep,h4.lt,h4.bA,h4.nil⟩:iV d w4 (cA gk nb pv') a l c js) h5 h6 h7 h8 aN.symm);have z5:=ah w4 (CE #[UV 0,UV 0,UV 0,SN] 62);have HZ:Hid ((w4.alloc (CE #[UV 0,UV 0,UV 0,SN] 62)).cell? (AD m 0)=some (UV x.need)/\(w4.alloc (CE #[UV 0,UV 0,UV 0,SN] 62)).cell? (AD m 1)=some (UV x.ban)/\(w4.alloc (CE #[UV 0,UV 0,UV 0,SN] 62)).cell? (AD m 3)=some (SL ta tl tc)):=
      ⟨(z5.cell (O9 w4 _ o0)).trans o0,(z5.cell (O9 w4 _ o1)).trans o1,(z5.cell (O9 w4 _ o3)).trans o3⟩
     clear h1 H h3 h4 h5 h6 h7 h8 z5 o0 o1 o3;refine aK 10 λK F=>?_;go_simp;refine F.o _ _ (λ_=>HZ.o) ?_;clear F K;try walk_nrm
     refine aK 11 λK F=>?_;go_simp;refine F.q ?_;clear F K;refine az ZK ?_;go_wp2;go_meet;case rel=>exact ⟨_,_,_,_,_,_,_,rfl,rfl,aE⟩
    ·go_simp;have⟨wz,ao⟩:=EX ((d.alloc (CE #[UV 0,UV 0,UV 0,SN] 62)).drew)
     rw [ao];have E:Hid (BW d wz):=ao▸(ah _ _).drew;have aG:=And.intro ((E.o.cell (p:=(AD m 0)) M).trans m0) (And.intro ((E.o.cell (p:=(AD m 1)) M).trans m1) ((E.o.cell (p:=(AD m 3)) M).trans m3));have aP:wz.heap[d.heap.size]? =some (.cells #[UV 0,UV 0,UV 0,SN] 62 (0,0)):=by rw [<-ao];exact (Ph d _).1
     refine F.o _ _ (λ_=>aG) ?_;clear F K;try walk_nrm
     refine aK 8 λK F=>?_;rw [PW (by rfl)];apply aY.o;refine aO (f:=78) (args:=#[PT gk,SL ta tl tc,IV t]) (aR.o wz E.o) ?_ (λe w4 X=>?_)
     ·clear F;go_simp
     obtain ⟨pv',R,a,l,c,js,rfl,h1,H,h3,h4,h5,h6,h7,h8⟩:=X;refine ⟨_,rfl,?_⟩;have o0:=H.aq (p:=(AD m 0)) ((E.o.cell (p:=(AD m 0)) M).trans m0) aa.o;have o1:=H.aq (p:=(AD m 1)) ((E.o.cell (p:=(AD m 1)) M).trans m1) aa.o;have o3:=H.aq (p:=(AD m 3)) ((E.o.cell (p:=(AD m 3)) M).trans m3) aa.o;have bk:=And.intro o0 (And.intro o1 o3);have bb:d.heap.size<wz.heap.size:=(Pb.1 aP).1;have z:=(H.block _ bb (λs=>ZH (ac.o.dY _ s))).trans aP;refine F.o _ _ (λ_=>bk) ?_;clear F K;try walk_nrm
     refine' aS (i:=9) (v:=_) rfl ZK (λ_ _ _ h=>h) (Or.inl ⟨by rfl,?hyB9⟩) (by assumption) ?restB9;case hyB9=>(intro u bl;go_simp;(try with_reducible rfl))
     try walk_nrm
     have⟨w5,aN⟩:=EX ((((w4.setCell (AD d.heap.size 0) (UV x.need)).setCell (AD d.heap.size 1) (UV x.ban)).setCell (AD d.heap.size 2) (UV 0)).setCell (AD d.heap.size 3) (SL a l c));have aE:=O8 (mP.OM (need:=x.need) (ban:=x.ban) ac.o ao.symm h1 H h3 h4 h5 h6 h7 h8 aN.symm);have y0:w4.cell? (AD d.heap.size 0)=some (UV 0):=CH z;have y1:w4.cell? (AD d.heap.size 1)=some (UV 0):=CH z;have y2:w4.cell? (AD d.heap.size 2)=some (UV 0):=CH z;have y3:w4.cell? (AD d.heap.size 3)=some (SN):=CH z;have v0:w4.frozen? (AD d.heap.size 0)=false:=Pg z 0;have v1:w4.frozen? (AD d.heap.size 1)=false:=Pg z 1;have v2:w4.frozen? (AD d.heap.size 2)=false:=Pg z 2;have v3:w4.frozen? (AD d.heap.size 3)=false:=Pg z 3;clear h1 H h3 h4 h5 h6 h7 h8 aP z bb ao;refine aK 11 λK F=>?_;go_simp;refine F.q ?_;clear F K;refine az ZK ?_;go_wp2;go_meet;case rel=>exact ⟨_,_,_,_,_,_,_,rfl,rfl,aE⟩
   case rest=>
    clear m0 m1 m3;obtain ⟨b7,pv',R,a,l,c,js,rfl,rfl,W⟩:=hcut;obtain ⟨w5,rfl⟩:∃w5,w5=wc:=⟨_,rfl⟩;have L:Hid (BW I d):=af bc.o aI.o;have a6:¬cA gk nb pv q:=λs=>ZI (HD.o.dY q s) HQ.o;have a8:¬cA gk nb pv (q+1):=λs=>ZI (HD.o.dY (q+1) s) HQ.o;have aM:w5.heap[q]? =some (.cells #[IV j,IV n] 127 (0,0)):=(W.o.kw.block q (ZI L.o.size T.o) a6).trans ((L.o.block q (ZH T.o)).trans aA.o);have a7:w5.heap[q+1]? =some (.cells #[UV 0,UV 0,UV 0,SN] 62 (0,0)):=(W.o.kw.block (q+1) (ZI L.o.size T.o) a8).trans ((L.o.block (q+1) (ZH T.o)).trans bg.o);have r0:w5.cell? (AD q 0)=some (IV j):=CH aM;have r1:w5.cell? (AD q 1)=some (IV n):=CH aM;have rg:w5.cell? (AD gk 0)=some (IV A.sets):=CH W.o.lf.dB;have aU:=O8 a7;have aW:Hid (BW w d):=af aQ.o L.o;have⟨C,hC⟩:=EX ((decide (A.sets=0)||(decide (n=0)&&(A.ay j).inn.testBit 0)));have ab:=O8 hC;have Z:Hid (CL 111 #[PT gk,.agg #[IV j,IV n],IV 0] w5 λe u=>e=RT (.bool ((A.ay j).inn.testBit 0))/\BW w5 u):=ET w0 w5 gk nb A s pv' (P++R) (j,n) 0 W.o.lf HA.o hp ZD;clear hC a6 a8 aM a7;go_upto_region 6 with(fail);go_cut [66]from 51 to 66 (λv wd=>v=.bool C/\Hid (BW w5 wd));case first=>
     by_cases h0:A.sets=0
     ·have hC:C=true:=by rw [<-ab.o,PX h0,UO]
      subst hC;have g0:((A.sets:Int)==0)=true:=by simp;omega
      go_wp2;go_meet;case rel=>exact ⟨rfl,O8 (Pn _ _)⟩
     ·have g0:((A.sets:Int)==0)=false:=by simp;omega
      by_cases h1:n=0
      ·have hC:(A.ay j).inn.testBit 0=C:=by rw [<-ab.o,PH h0,Tu,PX h1,Qu]
       rw [hC]at Z;have g2:((n:Int)==0)=true:=by simp;omega
       clear hC h1;go_wp2_with (go_at_call 111;apply Z.o.mono;rintro e G ⟨rfl,a1⟩;have be:=O8 a1;clear a1);go_meet;case rel=>exact ⟨rfl,be⟩
      ·have hC:C=false:=by rw [<-ab.o,PH h0,Tu,PH h1,QX]
       subst hC;have g2:((n:Int)==0)=false:=by simp;omega
       go_wp2;go_meet;case rel=>exact ⟨rfl,O8 (Pn _ _)⟩
    case rest=>
     clear r0 r1 rg Z;obtain ⟨rfl,a4⟩:=hcut;obtain ⟨G,rfl⟩:∃G,G=wc:=⟨_,rfl⟩;have ak:w0.heap.size<=d.heap.size:=ac.o.aJ.size;have br:=O8 ak;have J:=W.o.ag ak a4.o;have r:G.heap[q+1]? =some (.cells #[UV 0,UV 0,UV 0,SN] 62 (0,0)):=(a4.o.block (q+1) (Pb.1 aU.o).1).trans aU.o;have bo:q+1<d.heap.size:=ZI L.o.size T.o;have aT:=O8 bo;have bm:¬b7=q+1:=ZH J.bn;cases C
     ·have hd:C9 A (j,n)=0:=by
       have h:=ab.o;rw [Bool.or_eq_false_iff,decide_eq_false_iff_not]at h;unfold C9;rw [Qa];rintro (H|⟨H,h3⟩)
       ·exact h.1 H
       ·have H:n=0:=H;have:=h.2
        rw [PX H,Qu]at this;rw [this]at h3;cases h3
      have ad:=O8 J;have bt:((0:Nat):Int)=0:=rfl;have u0:G.cell? (AD b7 0)=some (UV x.need):=CH J.dB;have u1:G.cell? (AD b7 1)=some (UV x.ban):=CH J.dB;have u2:G.cell? (AD b7 2)=some (UV 0):=CH J.dB;have u3:G.cell? (AD b7 3)=some (SL a l c):=CH J.dB;have y0:G.cell? (AD (q+1) 0)=some (UV 0):=CH r;have y1:G.cell? (AD (q+1) 1)=some (UV 0):=CH r;have y2:G.cell? (AD (q+1) 2)=some (UV 0):=CH r;have y3:G.cell? (AD (q+1) 3)=some (SN):=CH r;have v0:G.frozen? (AD (q+1) 0)=false:=Pg r 0;have v1:G.frozen? (AD (q+1) 1)=false:=Pg r 1;have v2:G.frozen? (AD (q+1) 2)=false:=Pg r 2;have v3:G.frozen? (AD (q+1) 3)=false:=Pg r 3;clear J r W;go_wp2;(try simp only [Exit.inBlock,Exit.then]);have⟨w9,N⟩:=EX ((((G.setCell (AD (q+1) 0) (UV x.need)).setCell (AD (q+1) 1) (UV x.ban)).setCell (AD (q+1) 2) (UV 0)).setCell (AD (q+1) 3) (SL a l c));rw [N];obtain ⟨d0,d1,d2,d3,-⟩:=wZ y0 y1 y2 y3 w9 N.symm;have aL:aj (λk=>k=q+1) G w9:=by rw [<-N];exact ((((aj.refl (λk=>k=q+1) G).setCell (p:=(AD (q+1) 0)) (λ_=>rfl) _).setCell (p:=(AD (q+1) 1)) (λ_=>rfl) _).setCell (p:=(AD (q+1) 2)) (λ_=>rfl) _).setCell (p:=(AD (q+1) 3)) (λ_=>rfl) _
      clear N u0 u1 u2 u3 y0 y1 y2 y3 v0 v1 v2 v3;refine Qz (v:=.agg #[UV x.need,UV x.ban,UV 0,SL a l c]) ?_ rfl ?_
      ·rw [cX rfl];go_simp
      ·exact ad.o.o aW.o HD.o.aJ.size (λk s=>HD.o.dY k s) aL (ZH HQ.o) aT.o (by rw [D.o]) (by rw [D.o]) hd.symm (by rw [D.o]) aF.o.symm
     ·have hd:C9 A (j,n)=1:=by have h:=ab.o;unfold C9;rw [PW];rw [QP,Qw,Qk,Qw]at h;exact h
      have i2:G.cell? (AD b7 2)=some (UV 0):=CH J.dB;have z2:G.frozen? (AD b7 2)=false:=Pg J.dB 2;go_upto_region 8 with(fail);have V:=J.one ak 1;have⟨O,ar⟩:=EX (G.setCell (AD b7 2) (UV 1));have ay:G.setCell (AD b7 2) (UV ((1:Nat):Int))=O:=ar;rw [ay]at V;rw [ar];have y:O.heap[q+1]? =some (.cells #[UV 0,UV 0,UV 0,SN] 62 (0,0)):=by rw [<-ar];exact (Below.heap_setCell _ _ _ _ (λe=>bm e.symm)).trans r
      have ad:=O8 V;clear ar ay i2 z2;have u0:O.cell? (AD b7 0)=some (UV x.need):=CH V.dB;have u1:O.cell? (AD b7 1)=some (UV x.ban):=CH V.dB;have u2:O.cell? (AD b7 2)=some (UV 1):=CH V.dB;have u3:O.cell? (AD b7 3)=some (SL a l c):=CH V.dB;have y0:O.cell? (AD (q+1) 0)=some (UV 0):=CH y;have y1:O.cell? (AD (q+1) 1)=some (UV 0):=CH y;have y2:O.cell? (AD (q+1) 2)=some (UV 0):=CH y;have y3:O.cell? (AD (q+1) 3)=some (SN):=CH y;have v0:O.frozen? (AD (q+1) 0)=false:=Pg y 0;have v1:O.frozen? (AD (q+1) 1)=false:=Pg y 1;have v2:O.frozen? (AD (q+1) 2)=false:=Pg y 2;have v3:O.frozen? (AD (q+1) 3)=false:=Pg y 3;clear V y W;go_wp2;(try simp only [Exit.inBlock,Exit.then]);have⟨w9,N⟩:=EX ((((O.setCell (AD (q+1) 0) (UV x.need)).setCell (AD (q+1) 1) (UV x.ban)).setCell (AD (q+1) 2) (UV 1)).setCell (AD (q+1) 3) (SL a l c));rw [N];obtain ⟨d0,d1,d2,d3,-⟩:=wZ y0 y1 y2 y3 w9 N.symm;have aL:aj (λk=>k=q+1) O w9:=by rw [<-N];exact ((((aj.refl (λk=>k=q+1) O).setCell (p:=(AD (q+1) 0)) (λ_=>rfl) _).setCell (p:=(AD (q+1) 1)) (λ_=>rfl) _).setCell (p:=(AD (q+1) 2)) (λ_=>rfl) _).setCell (p:=(AD (q+1) 3)) (λ_=>rfl) _
      clear N u0 u1 u2 u3 y0 y1 y2 y3 v0 v1 v2 v3;refine Qz (v:=.agg #[UV x.need,UV x.ban,UV 1,SL a l c]) ?_ rfl ?_
      ·rw [cX rfl];go_simp
      ·exact ad.o.o aW.o HD.o.aJ.size (λk s=>HD.o.dY k s) aL (ZH HQ.o) aT.o (by rw [D.o]) (by rw [D.o]) hd.symm (by rw [D.o]) aF.o.symm
end
section
open Go.Maps
def rZ(x:dk×dN):List Value:=[UV x.1.need,UV x.1.ban,UV x.1.inn,jW x.2]
def dp:List (dk×dN)->List Value
 |[]=>[]
 |x::l=>UV x.1.need::UV x.1.ban::UV x.1.inn::jW x.2::dp l
def rY:∀l x,dp (l++[x])=dp l++rZ x
 |[],_=>rfl
 |y::l,x=>by rw [Qq];simp only [dp,rY l x,Qq]
def xy:∀l j x,l[j]? =some x->
 (dp l)[j*4]? =some (UV x.1.need)/\(dp l)[j*4+1]? =some (UV x.1.ban)/\(dp l)[j*4+2]? =some (UV x.1.inn)/\(dp l)[j*4+3]? =some (jW x.2)
 |_::l,0,_,h=>by cases h;exact ⟨rfl,rfl,rfl,rfl⟩
 |_::l,j+1,x,h=>by have a:=xy l j x h;have e:(j+1)*4=j*4+1+1+1+1:=ZO;rw [e];exact a
 |[],_,_,h=>by simp at h
def gX(ob:Nat)(ov:Value)(k:Nat):Prop:=k=ob\/ov.ownBlock=some k
def pK(ob:Nat)(ov:Value)(X:Nat->Prop)(k:Nat):Prop:=gX ob ov k\/X k
structure fF (w:WD) (S:Nat->Prop) (t:dN) (l:List Nat):Prop where
 row:aG .i64 w t.1 t.2.1 (aE l)
 sep:oB S t.1
 lt:MC w t.1
 bA:t.2.1<=16777216
def fF.ax{w w1 S S' R t l}(h:fF w S t l)(c:aj R w w1)(d:∀k,R k->S k\/w.heap.size<=k)(f:∀k,S' k->S k\/w.heap.size<=k):fF w1 S' t l:=by have a:aj (λk=>R k/\k<w.heap.size) w w1:=c.mono λk g i=>⟨i,g⟩;exact ⟨cL h.row a (λb o e s=>(d b s.1).elim (h.sep b o e) (λh=>ZO)),oB.from f h.sep h.lt,λb o e=>Ps (h.lt b o e) c.size,h.bA⟩
structure fZ (w:WD) (ob:Nat) (X:Nat->Prop) (sets:Nat) (t:dN) (js:List Nat) (ov:Value) (O:List (dk×dN)):Prop where
 dB:w.heap[ob]? =some (.cells #[IV sets,jW t,ov] 36 (0,0))
 cO:w.ownsRow 0 62 4 ov O.length (dp O)
 oK:∀b,ov.ownBlock=some b->b≠ob
 n8:fF w (pK ob ov X) t js
 bC:∀x∈O,fF w (pK ob ov X) x.2 (dk.tO x.1)
section
variable {w w1 w2 w3:WD} {ob:Nat} {X:Nat->Prop} {sets:Nat} {t:dN} {js:List Nat} {ov ov':Value} {O:List (dk×dN)}
def fZ.Cr(h:fZ w ob X sets t js ov O):ob<w.heap.size:=(Pb.1 h.dB).1
def fZ.dY(h:fZ w ob X sets t js ov O):∀k,gX ob ov k->k<w.heap.size:=λk a=>by obtain rfl|a:=a;exact h.Cr;exact dx h.cO k a
def fZ.ax(h:fZ w ob X sets t js ov O){R}(a:aj R w w1)(c:∀k,R k->¬gX ob ov k)(d:∀k,R k->X k\/w.heap.size<=k):fZ w1 ob X sets t js ov O:=
 ⟨(a.block ob h.Cr (λs=>c _ s (.inl rfl))).trans h.dB,bp h.cO a (λb e s=>c _ s (.inr e)),h.oK,h.n8.ax a (λk s=>(d k s).imp .inr id) (λk s=>.inl s),λx f=>(h.bC x f).ax a (λk s=>(d k s).imp .inr id) (λk s=>.inl s)⟩
def fZ.ag(h:fZ w ob X sets t js ov O)(b:BW w w1):fZ w1 ob X sets t js ov O:=
 h.ax (aj.aC b) (λk a s=>ZH (h.dY k s)) (λk a=>.inr a)
def fZ.off(h:fZ w ob X sets t js ov O){Y}(b:∀k,Y k->X k\/w.heap.size<=k):fZ w ob Y sets t js ov O:=by have a:∀k,pK ob ov Y k->pK ob ov X k\/w.heap.size<=k:=λk s=>s.elim (λs=>.inl (.inl s)) (λs=>(b k s).imp .inr id);exact ⟨h.dB,h.cO,h.oK,h.n8.ax (aj.refl (λ_=>False) w) (λ_ s=>s.elim) a,λx c=>(h.bC x c).ax (aj.refl (λ_=>False) w) (λ_ s=>s.elim) a⟩
def fZ.aM(c:HC w ob #[IV sets,jW t,SN] 36)(a:fF w (λk=>k=ob\/X k) t js):fZ w ob X sets t js (SN) []:=
 ⟨c,Qd _ _ _ _,λb e=>(ZC e),⟨a.row,λb o e s=>by
  rcases s with(s|s)|s;exact a.sep b o e (.inl s);cases s
  exact a.sep b o e (.inr s),a.lt,a.bA⟩,λx d=>(ZC d)⟩
def fZ.dT(h:fZ w ob X sets t js ov O)(x)(v:fF w (pK ob ov X) x.2 (dk.tO x.1))(j:BW w w1)(f:w2.ownsRow 0 62 4 ov' (O.length+1) (dp O++rZ x))(n:aj (λk=>ov.ownBlock=some k) w1 w2)
 (u:∀b,ov'.ownBlock=some b->ov.ownBlock=some b\/w1.heap.size<=b) (q:w3=w2.setCell (AD ob 2) ov'):
 fZ w3 ob X sets t js ov' (O++[x])/\aj (gX ob ov) w w3/\∀b,ov'.ownBlock=some b->ov.ownBlock=some b\/w.heap.size<=b:=by
 have d:=h.Cr
 have o:¬ov.ownBlock=some ob:=λe=>h.oK ob e rfl
 have z:aj (gX ob ov) w w1:=aj.mono (aj.aC j) (λk n s=>ZO)
 have A:aj (gX ob ov) w w2:=z.then n (λ_ _ s=>.inr s)
 have i:aj (λk=>k=ob) w2 w3:=by rw [q];exact (aj.refl (λk=>k=ob) w2).setCell (p:=(AD ob 2)) (λ_=>rfl) _
 have l:aj (gX ob ov) w w3:=A.then i (λ_ _ s=>.inl s)
 have r:=(n.block ob (Ps d j.size) o).trans ((j.block ob d).trans h.dB)
 have c:∀b,ov'.ownBlock=some b->ov.ownBlock=some b\/w.heap.size<=b:=λb e=>(u b e).imp id (λh=>PG j.size h)
 have a:∀b,ov'.ownBlock=some b->b≠ob:=λb e=>(c b e).elim (h.oK b) (λh=>ZO)
 have m:∀k,pK ob ov' X k->pK ob ov X k\/w.heap.size<=k:=λk s=>by rcases s with(s|s)|s;exact .inl (.inl (.inl s));exact (c k s).imp (λs=>.inl (.inr s)) id;exact .inl (.inr s)
 refine ⟨⟨by rw [q];simp [HC,World.setCell,P7,r],by rw [rY,Pk];exact bp f i (λb e s=>a b e s),a,h.n8.ax l (λk s=>.inl (.inl s)) m,λy g=>?_⟩,l,c⟩
 obtain g|g:=PC.1 g
 exact (h.bC y g).ax l (λk s=>.inl (.inl s)) m
 rw [Pc.1 g]
 exact v.ax l (λk s=>.inl (.inl s)) m
def fZ.Dk(h:fZ w ob X sets t js ov O):FI w ⟨sets,js,O.map Prod.fst⟩ (.agg #[IV sets,jW t,ov]):=by
 obtain ⟨f,r,rfl⟩:=bF h.cO;refine ⟨t.1,t.2.1,t.2.2,f,O.length,r,rfl,h.n8.row,PB ..,?_⟩;obtain ⟨b,-⟩|⟨g,k,l,b,-⟩:=h.cO.2;exact .inl (P8 b).2.1;have e:f=some (AD g 0):=(P8 b).1;subst e;refine .inr ⟨g,0,rfl,λj y a=>?_⟩;obtain ⟨x,d,rfl⟩:∃x,O[j]? =some x/\x.1=y:=by have a:(O.map Prod.fst)[j]? =some y:=a;rw [PZ]at a;exact QY.1 a
 have⟨m,n,o,p⟩:=xy O j x d;have c:∀{i:Nat}{u:Value},(dp O)[i]? =some u->CA w g i u:=λ{i u} q=>by have:=h.cO.cells (g:=g) rfl i u q;rw [QK,PU]at this;exact this
 rw [PU];exact ⟨_,_,_,c m,c n,c o,c p,(h.bC x (Pm d)).row⟩
def fZ.OU(h:fZ w ob X sets t js ov O){B}(b:∀k,k<B->X k)(c:∀k,gX ob ov k->B<=k):Ai w B ⟨sets,js,O.map Prod.fst⟩ (.agg #[IV sets,jW t,ov]):=λ_ a=>
 (h.ax a (λk a s=>ZH (c k s)) (λk a=>.inl (b k a))).Dk
end
end
section
open Go.Maps
def pf(A:Au)(p:Nat×Nat):Prop:=p.1<A.ak.length/\(A.sets=0/\p.2=0\/p.2<A.sets)
def L4{A q t}(h:A.sets=0/\t=0\/t<A.sets):A.sets=0/\gQ A q t=0\/gQ A q t<A.sets:=by unfold gQ;obtain ⟨a,b⟩|h:=h;exact .inl ⟨a,by rw [Qa ZO];exact b⟩;refine .inr ?_;split;exact S7 _ ZO;exact h
def qI(A:Au)(P:List (Nat×Nat))(x:dk)(p:Nat×Nat):Prop:=
 x.need=(A.ay p.1).need/\x.ban=(A.ay p.1).ban/\x.inn=C9 A p/\(∀m∈dk.tO x,∃q∈dk.tO (A.ay p.1),P[m]? =some (q,gQ A p.1 p.2))/\∀q∈dk.tO (A.ay p.1),∃m∈dk.tO x,P[m]? =some (q,gQ A p.1 p.2)
def DX(gk nb:Nat)(pv:Value)(a k:Nat):Prop:=cA gk nb pv k\/k<=a
structure pG (w wr:WD) (gk nb ob:Nat) (A:Au) (s:mI) (pv:Value) (P:List (Nat×Nat)) (t:dN) (js:List Nat) (ov:Value) (O:List (dk×dN)):Prop where
 lf:fT w wr gk nb A s pv P
 o:fZ wr ob (DX gk nb pv (w.heap.size+1)) 1 t js ov O
 sep:∀k,cA gk nb pv k->¬gX ob ov k
 bG:∀k,gX ob ov k->w.heap.size+1<k
 M8:∀k,cA gk nb pv k->w.heap.size+1<k
 xT:wr.heap[w.heap.size+1]? =some (.cells #[IV 0,SN,SN] 36 (0,0))
 cS:O.length<=P.length
 Ni:∀p∈P,pf A p
 yK:∀j∈js,∃q∈A.aP,P[j]? =some (q,0)
 MW:∀q∈A.aP,∃j∈js,P[j]? =some (q,0)
 Cp:∀(j:Nat)(x:dk×dN)(p:Nat×Nat),O[j]? =some x->P[j]? =some p->qI A P x.1 p
section
variable {w wr w4 w5 w6 w7:WD} {gk nb ob:Nat} {A:Au} {s:mI} {pv pv':Value} {P R:List (Nat×Nat)} {t:dN} {js:List Nat} {ov ov':Value} {O:List (dk×dN)}
def xO{α:Type}{P R:List α}{j:Nat}{p}(h:P[j]? =some p):(P++R)[j]? =some p:=by rw [Pp (Po.1 h).1];exact h
def qI.mono{x p}(h:qI A P x p):qI A (P++R) x p:=by obtain ⟨c,d,f,g,i⟩:=h;refine ⟨c,d,f,λm a=>?_,λq b=>?_⟩;have⟨q,b,e⟩:=g m a;exact ⟨q,b,xO e⟩;have⟨m,a,e⟩:=i q b;exact ⟨m,a,xO e⟩
def pG.step(h:pG w wr gk nb ob A s pv P t js ov O)(hA:gL A){p}(Q:P[O.length]? =some p)(X:fT w w4 gk nb A s pv' (P++R))(J:aj (cA gk nb pv) wr w4)(i:∀b,pv'.ownBlock=some b->pv.ownBlock=some b\/wr.heap.size<=b)
 {a l c n} (G:iV wr w4 (cA gk nb pv') a l c n) (D:∀x∈R,x.2=gQ A p.1 p.2/\x.1∈dk.tO (A.ay p.1)) (u:∀j∈n,∃q∈dk.tO (A.ay p.1),(P++R)[j]? =some (q,gQ A p.1 p.2)) (r:∀q∈dk.tO (A.ay p.1),∃j∈n,(P++R)[j]? =some (q,gQ A p.1 p.2))
 (hb:BW w4 w5) (E:w6.ownsRow 0 62 4 ov' (O.length+1) (dp O++rZ (⟨(A.ay p.1).need,(A.ay p.1).ban,C9 A p,n⟩,(a,l,c)))) (K:aj (λk=>ov.ownBlock=some k) w5 w6) (L:∀b,ov'.ownBlock=some b->ov.ownBlock=some b\/w5.heap.size<=b)
 (e7:w7=w6.setCell (AD ob 2) ov'):pG w w7 gk nb ob A s pv' (P++R) t js ov' (O++[(⟨(A.ay p.1).need,(A.ay p.1).ban,C9 A p,n⟩,(a,l,c))]):=by
 have s1:=J.size
 have sw:=h.lf.aJ.size
 have T:w.heap.size+1<wr.heap.size:=(Pb.1 h.xT).1
 have U:∀k,DX gk nb pv' (w.heap.size+1) k->DX gk nb pv (w.heap.size+1) k\/wr.heap.size<=k:=λk s=>s.elim (λs=>(gw i s).imp .inl id) (λs=>.inl (.inr s))
 have M:fZ w4 ob (DX gk nb pv' (w.heap.size+1)) 1 t js ov O:=
  ((h.o.off (Y:=λk=>DX gk nb pv (w.heap.size+1) k\/DX gk nb pv' (w.heap.size+1) k) (λk s=>s.elim .inl (U k))).ax J (λk s=>h.sep k s) (λk s=>.inl (.inl (.inl s)))).off (λk s=>.inl (.inr s))
 have B:∀k,gX ob ov k->k<wr.heap.size:=h.o.dY
 have F:fF w4 (pK ob ov (DX gk nb pv' (w.heap.size+1))) (a,l,c) n:=⟨G.row,λb o e s=>by have W:=G.bG b o e;obtain s|s|s:=s;have:=B b s;omega;exact G.sep b o e s;omega,G.lt,G.bA⟩
 have⟨N,z,C⟩:=M.dT (⟨(A.ay p.1).need,(A.ay p.1).ban,C9 A p,n⟩,(a,l,c)) F hb E K L e7
 have d:∀k,cA gk nb pv' k->¬gX ob ov k:=λk s f=>by obtain s|s:=gw i s;exact h.sep k s f;have:=B k f;omega
 have I:fT w w7 gk nb A s pv' (P++R):=X.ax z (λk s f=>d k f s) (λk s=>ZH (h.bG k s))
 have k7:aj (λk=>cA gk nb pv k\/gX ob ov k) wr w7:=(J.mono λ_ _ s=>.inl s).then z (λ_ _ s=>.inr s)
 have m:pf A p:=h.Ni p (Pm Q)
 refine ⟨I,N,λk s f=>?_,λk s=>?_,λk s=>?_,(k7.block _ T (λs=>s.elim (λs=>ZH (h.M8 _ s)) (λs=>ZH (h.bG _ s)))).trans h.xT,?_,λy g=>?_,λj v=>?_,λq S=>?_,λj x y H g=>?_⟩
 obtain f|f:=f
 exact d k s (.inl f)
 obtain f|f:=C k f
 exact d k s (.inr f)
 have:=X.dY k s;omega
 obtain s|s:=s
 exact h.bG k (.inl s)
 obtain s|s:=C k s
 exact h.bG k (.inr s)
 omega
 obtain s|s:=gw i s
 exact h.M8 k s
 omega
 have:=(Po.1 Q).1
 rw [Pk,Pk,Qi];omega
 obtain g|g:=PC.1 g
 exact h.Ni y g
 have⟨W,h2⟩:=D y g
 have hn:A.ay p.1∈A.ak:=by unfold Au.ay;rw [Pd,Pe m.1];exact QF m.1
 exact ⟨hA.mZ _ hn _ h2,ZR W (L4 m.2)⟩
 have⟨q,S,e⟩:=h.yK j v;exact ⟨q,S,xO e⟩
 have⟨j,v,e⟩:=h.MW q S;exact ⟨j,v,xO e⟩
 obtain Z|Z:=Re j O.length
 rw [Pp Z]at H
 have V:P[j]? =some y:=by rw [Pp (ZH h.cS)]at g;exact g
 exact (h.Cp j x y H V).mono
 have v:j=O.length:=by have:=(Po.1 H).1;rw [Pk,Qi]at this;omega
 subst v
 rw [Qm]at H
 cases H
 rw [xO Q]at g
 cases g
 exact ⟨rfl,rfl,rfl,u,r⟩
def jR(A:Au):Prop:=∃P:List (Nat×Nat),256<P.length/\(∀(i j:Nat)(p:Nat×Nat),P[i]? =some p->P[j]? =some p->i=j)/\∀p∈P,pf A p
def fT.uniq{f w}(h:fT f w gk nb A s pv P)(i j:Nat)(p)(d:P[i]? =some p)(e:P[j]? =some p):i=j:=by obtain ⟨g,-,b,-⟩:=h.aW;have c:=b i p d;have a:=b j p e;rw [c]at a;have:=(RJ (Qh a)).2;omega
def pG.many(h:pG w wr gk nb ob A s pv P t js ov O)(a:256<P.length):jR A:=⟨P,a,h.lf.uniq,h.Ni⟩
def K8(A p):(C9 A p).testBit 0=true↔(A.sets=0\/(p.2=0/\(A.ay p.1).inn.testBit 0=true)):=by unfold C9;split;rename_i h;exact ⟨λ_=>h,λ_=>ZD⟩;rename_i h;exact ⟨λe=>absurd e (show¬(Nat.testBit 0 0=true) by decide),λe=>absurd e h⟩
def pG.fin(h:pG w wr gk nb ob A s pv P t js ov O)(G:O.length=P.length)(K:P.length<=256)(F:gL A):(∃_:NK A ⟨1,js,O.map Prod.fst⟩,True)/\gL ⟨1,js,O.map Prod.fst⟩:=by
 have l:(⟨1,js,O.map Prod.fst⟩:Au).ak.length=P.length:=by rw [<-G];exact PB ..
 have b:∀{n:Nat},n<(⟨1,js,O.map Prod.fst⟩:Au).ak.length->∃x p,O[n]? =some x/\P[n]? =some p/\(⟨1,js,O.map Prod.fst⟩:Au).ay n=x.1/\P.getD n (0,0)=p/\qI A P x.1 p/\pf A p:=λ{n} c=>by rw [l]at c;have B:O[n]? =some O[n]:=Pe (by omega);have r:P[n]? =some P[n]:=Pe c;refine ⟨_,_,B,r,?_,by rw [Pd,r];rfl,h.Cp n _ _ B r,h.Ni _ (Pm r)⟩;show(O.map Prod.fst).getD n dk.zero=_;rw [Pd,PZ,B];rfl
 have g:∀{n:Nat}{p:Nat×Nat},P[n]? =some p->P.getD n (0,0)=p:=λ{n p} e=>by rw [Pd,e];rfl
 have f:∀y∈(⟨1,js,O.map Prod.fst⟩:Au).ak,∃(n:Nat)(x:dk×dN)(p:Nat×Nat),O[n]? =some x/\x.1=y/\P[n]? =some p/\qI A P y p/\pf A p:=λy z=>by
  obtain ⟨x,B,rfl⟩:=Qx.1 (show y∈O.map Prod.fst from z);have⟨n,c⟩:=Rh B;have D:n<P.length:=by have:=(Po.1 c).1;omega
  have r:P[n]? =some P[n]:=Pe D;exact ⟨n,x,_,c,rfl,r,h.Cp n _ _ c r,h.Ni _ (Pm r)⟩
 have E:∀{p:Nat×Nat},pf A p->A.ay p.1∈A.ak:=λ{p} r=>by unfold Au.ay;rw [Pd,Pe r.1];exact QF r.1
 refine ⟨⟨{nd:=λn=>(P.getD n (0,0)).1,tn:=λn=>(P.getD n (0,0)).2,sets:=rfl,lt:=λn c=>?_,need:=λn c=>?_,ban:=λn c=>?_,aP:=λn c=>?_,ir:=λq v=>?_,tO:=λn c m C=>?_,nQ:=λn c q v=>?_,inn:=λn c=>?_},RN⟩,?_⟩;obtain ⟨x,p,-,-,u,o,a,d⟩:=b c;rw [o];exact d.1;obtain ⟨x,p,-,-,u,o,a,d⟩:=b c;rw [u,o];exact a.1;obtain ⟨x,p,-,-,u,o,a,d⟩:=b c;rw [u,o];exact a.2.1;have⟨q,v,e⟩:=h.yK n c;rw [l,g e];exact ⟨(Po.1 e).1,rfl,v⟩;have⟨j,I,e⟩:=h.MW q v;exact ⟨j,I,by rw [g e],by rw [g e]⟩;obtain ⟨x,p,-,-,u,o,a,d⟩:=b c;rw [u]at C;have⟨q,v,e⟩:=a.2.2.2.1 m C;rw [l,o,g e];exact ⟨(Po.1 e).1,v,rfl⟩;obtain ⟨x,p,-,-,u,o,a,d⟩:=b c;rw [o]at v;have⟨m,C,e⟩:=a.2.2.2.2 q v;rw [u,o];exact ⟨m,C,by rw [g e],by rw [g e]⟩;obtain ⟨x,p,-,-,u,o,a,d⟩:=b c;rw [u,o,a.2.2.1];exact K8 A p;refine ⟨show(1:Nat)<=16 by decide,by rw [l];exact K,λi H=>?_,λy z k J=>?_,λy z=>?_,λy z=>?_,λy z=>?_,?_⟩;have⟨q,v,e⟩:=h.yK i H;rw [l];exact (Po.1 e).1;obtain ⟨n,x,p,-,-,-,a,-⟩:=f y z;have⟨q,v,e⟩:=a.2.2.2.1 k J;rw [l];exact (Po.1 e).1;obtain ⟨n,x,p,-,-,-,a,-⟩:=f y z;rw [a.2.2.1];unfold C9;show(if _ then 1 else 0:Nat)<2^1;split<;>decide;obtain ⟨n,x,p,-,-,-,a,d⟩:=f y z;rw [a.1,a.2.1];exact F.bits _ (E d);obtain ⟨n,x,p,B,rfl,-,-,-⟩:=f y z;have a:=h.o.bC x (Pm B);have d:=a.row.1;rw [aD]at d;rw [d];exact a.bA;have d:=h.o.n8.row.1;rw [aD]at d;show js.length<=_;rw [d];exact h.o.n8.bA
end
end
section
open Go.Maps
def Dc(w:WD)(A:Au)(e:Ending)(b:WD):Prop:=
 BW w b/\((∃D v,e=RT (.tuple #[v,IV 0])/\(∃_:NK A D,True)/\Ai b w.heap.size D v/\gL D)\/∃a:Int,e=RT (.tuple #[.agg #[IV 0,SN,SN],IV a])/\a≠0/\jR A)
def pG.cI{w wr g gk c d A s f P t b e O}(h:pG w wr gk c d A s f P t b e O)(a:BW wr g):pG w g gk c d A s f P t b e O:=
 ⟨h.lf.ag a,h.o.ag a,h.sep,h.bG,h.M8,(a.block _ (Pb.1 h.xT).1).trans h.xT,h.cS,h.Ni,h.yK,h.MW,h.Cp⟩
def pG.aM{w t g y gk m A s d R a l c u}(J:gL A)(P:fT w t gk m A s (SN) [])
 (h:∀k,cA gk m (SN) k->w.heap.size+1<k) (i:HC t (w.heap.size+1) #[IV 0,SN,SN] 36)
 (z:fT w g gk m A s d ([]++R)) (D:aj (cA gk m (SN)) t g) (I:∀b,d.ownBlock=some b->(SN).ownBlock=some b\/t.heap.size<=b) (r:iV t g (cA gk m d) a l c u)
 (K:∀x∈R,x.2=0/\x.1∈A.aP) (F:∀j∈u,∃q∈A.aP,([]++R)[j]? =some (q,0)) (E:∀q∈A.aP,∃j∈u,([]++R)[j]? =some (q,0)) (C:y=g.alloc (CE #[IV 1,SL a l c,SN] 36)):
 pG w y gk m g.heap.size A s d R (a,l,c) u (SN) []:=by
 rw [QW]at z F E
 have f:BW g y:=C▸ah _ _
 have B:w.heap.size+1<t.heap.size:=(Pb.1 i).1
 have O:=D.size
 have n:∀k,cA gk m d k->w.heap.size+1<k:=λk s=>by obtain s|s:=gw I s;exact h k s;omega
 have L:fZ y g.heap.size (DX gk m d (w.heap.size+1)) 1 (a,l,c) u (SN) []:=fZ.aM (by rw [C];exact (Ph g _).1) ⟨r.row.ag f,λb o e s=>by have Q:=r.bG b o e;have S:=r.lt b o e;obtain s|s|s:=s;omega;exact r.sep b o e s;omega,λb o e=>Ps (r.lt b o e) f.size,r.bA⟩
 refine ⟨z.ag f,L,λk s v=>?_,λk s=>?_,n,(f.block _ ZO).trans ((D.block _ B (λs=>ZH (h _ s))).trans i),Pz _,λp M=>?_,F,E,λj x p N=>(ZC N)⟩
 obtain v|v:=v
 have:=z.dY k s;omega
 cases v
 obtain s|s:=s
 omega
 cases s
 have⟨G,H⟩:=K p M
 exact ⟨J.aP _ H,ZH G⟩
def DH(w A t r z F G H)(hv:cm w A t r F G)(hA:gL A):
 CL 43 #[.agg #[IV A.sets,SL t r z,SL F G H]] w (Dc w A):=by
 have⟨q,hq⟩:=EX w.heap.size
 have bf:=@TU prog
 have⟨w1,Z⟩:=EX ((w.alloc (CE #[IV A.sets,SL t r z,SL F G H] 36)).alloc (CE #[IV 0,SN,SN] 36))
 have av:BW w w1:=Z▸af (ah _ _) (ah _ _)
 have s1:w1.heap.size=q+1+1:=by rw [<-Z,PL,PL,hq]
 have W:w1.heap[q]? =some (.cells #[IV A.sets,SL t r z,SL F G H] 36 (0,0)):=by rw [<-Z,<-hq,(Ph _ _).2 _ (by rw [PL];omega)];exact (Ph w _).1
 have aZ:w1.heap[q+1]? =some (.cells #[IV 0,SN,SN] 36 (0,0)):=by rw [<-Z,<-hq,<-PL w (CE #[IV A.sets,SL t r z,SL F G H] 36)];exact (Ph _ _).1
 have aL:=O8 (dZ w1 A t r z F G H (hv.ag av) hA)
 have c0:w1.cell? (AD q 0)=some (IV A.sets):=CH W
 have c1:w1.cell? (AD q 1)=some (SL t r z):=CH W
 have N:w1.cell? (AD q 2)=some (SL F G H):=CH W
 have HV:=O8 hv
 have HA:=O8 hA
 have a9:=O8 av
 have aI:=O8 W
 have aH:=O8 aZ
 have HQ:=O8 hq
 have ao:=O8 s1
 clear hv hA av W aZ s1
 go_enter func43,ntmps43
 go_upto_region 2 with(go_at_call 23;apply aL.o.mono;rintro e J ⟨rfl,aX⟩;have ab:=O8 aX;clear aX)
 clear Z c0 c1 N
 have aa:J.heap[q]? =some (.cells #[IV A.sets,SL t r z,SL F G H] 36 (0,0)):=(ab.o.block q (ZH ao.o)).trans aI.o
 have aP:Hid (J.heap[q+1]? =some (.cells #[IV 0,SN,SN] 36 (0,0))):=(ab.o.block (q+1) (ZH ao.o)).trans aH.o
 have Q:Hid (BW w J):=af a9.o ab.o
 have k0:J.cell? (AD q 0)=some (IV A.sets):=CH aa
 have k1:J.cell? (AD q 1)=some (SL t r z):=CH aa
 have k2:J.cell? (AD q 2)=some (SL F G H):=CH aa
 have aU:=O8 aa
 clear aa hq
 go_upto_region 5 with(fail)
 clear bf
 have⟨o,L⟩:=EX ((J.alloc (.map #[] 0)).alloc (CE #[IV A.sets,SL t r z,SL F G H,.map (some J.heap.size),SN] 124))
 rw [L]
 have⟨gk,ax⟩:=EX (J.heap.size+1)
 have⟨M,ai⟩:=EX J.heap.size
 have ad:BW J o:=L▸af (ah _ _) (ah _ _)
 have bn:q+1<M:=ZI ab.o.size ao.o
 have al:fT w o gk M A ⟨t,r,z,F,G,H⟩ (SN) []:=by
  have⟨wa,ha⟩:=EX (J.alloc (.map #[] 0));rw [ha]at L;have sa:wa.heap.size=gk:=ZW ha ax;have m1:cK prog 127 wa M 0 (λ_=>none):=by have:=cK.aM prog 127 J;rw [ha,ai]at this;exact this
  have bb:BW wa o:=L▸ah _ _;refine ⟨by rw [<-L,<-sa,ai];exact (Ph wa _).1,Qd _ _ _ _,⟨_,m1.ag bb,λj p hp=>(ZC hp),λp v h=>(ZC h)⟩,ZO,λb e=>(ZC e),Q.o.trans (ad.mono Q.o.size),λk s=>?_,HV.o⟩;have:=Q.o.size;obtain s|s|s:=s
  ·omega
  ·omega
  ·cases s
 have T:=O8 al
 have ak:Hid (∀k,cA gk M (SN) k->w.heap.size+1<k):=λk s=>by
  have:=HQ.o;obtain s|s|s:=s
  ·omega
  ·omega
  ·cases s
 have a8:o.heap[q]? =some (.cells #[IV A.sets,SL t r z,SL F G H] 36 (0,0)):=(ad.block q ZO).trans aU.o
 have aQ:Hid (o.heap[w.heap.size+1]? =some (.cells #[IV 0,SN,SN] 36 (0,0))):=by rw [HQ.o];exact (ad.block (q+1) ZO).trans aP.o
 have i1:o.cell? (AD q 1)=some (SL t r z):=CH a8
 have a1:r<=16777216:=by have:=HV.o.aP.1;rw [aD]at this;rw [<-this];exact HA.o.il
 have aR:Hid (CL 78 #[PT gk,SL t r z,IV 0] o (pF w o gk M A ⟨t,r,z,F,G,H⟩ (SN) [] A.aP 0)):=
  BP w o gk M A ⟨t,r,z,F,G,H⟩ (SN) [] t r z A.aP 0 T.o ZD HV.o.aP a1 (λi hi=>ZI (HA.o.aP i hi) HA.o.many) ZD
 rw [ax,ai]
 clear al L ad a8 k0 k1 k2 ax ai
 go_upto_region 6 with(go_at_call 78;apply aR.o.mono;rintro e w5 ⟨pv,P,a,l,c,js,rfl,h1,h2,h3,h4,h5,h6,h7,-⟩)
 have⟨w6,aG⟩:=EX (w5.alloc (CE #[IV 1,SL a l c,SN] 36))
 rw [aG]
 have⟨C,aA⟩:=EX w5.heap.size
 have HL:=O8 (pG.aM HA.o T.o ak.o aQ.o h1 h2 h3 h4 h5 h6 h7 aG.symm)
 rw [aA]at HL
 rw [aA]
 have⟨sl,a4⟩:=EX ((⟨t,r,z,F,G,H⟩:mI))
 rw [a4]at HL
 clear h1 h2 h3 h4 h5 h6 h7 aG aA i1 aR T ak aQ aU aP aI aH aL a4 a1
 go_wp2
 go_loopw [23] (λx wr=>∃(i:Nat)(pv:Value)(P:List (Nat×Nat))(ov:Value)(O:List (dk×dN)),x=IV i/\O.length=i/\i<=256/\Hid (pG w wr gk M C A sl pv P (a,l,c) js ov O)) (λx _=>257-(intOf x).toNat)
 exact ⟨0,_,_,_,[],rfl,rfl,ZD,HL⟩
 clear HL
 obtain ⟨i,pv,P,ov,O,rfl,ar,hi,m⟩:=hrel
 obtain ⟨pa,pc,rfl⟩:=bF m.o.lf.cO
 have bj:(i:Int)<257:=ZO
 have k4:wr.cell? (AD gk 4)=some (SL pa P.length pc):=CH m.o.lf.dB
 have y:=m.o.xT
 rw [HQ.o]at y
 have d:=O8 y
 have X:=m.o.lf.aJ
 by_cases hm:256<P.length
 ·have be:(256:Int)<P.length:=ZO;have an:=O8 (m.o.many hm)
  have c0:wr.cell? (AD (q+1) 0)=some (IV 0):=CH d.o;have c1:wr.cell? (AD (q+1) 1)=some (SN):=CH d.o;have N:wr.cell? (AD (q+1) 2)=some (SN):=CH d.o;have z0:wr.frozen? (AD (q+1) 0)=false:=Pg d.o 0;have z1:wr.frozen? (AD (q+1) 1)=false:=Pg d.o 1;have z2:wr.frozen? (AD (q+1) 2)=false:=Pg d.o 2;clear y;go_wp2;(try simp only [Exit.inBlock,Exit.then]);have⟨w9,E⟩:=EX (((wr.setCell (AD (q+1) 0) (IV 0)).setCell (AD (q+1) 1) (SN)).setCell (AD (q+1) 2) (SN));rw [E];have⟨d0,d1,d2,ag⟩:=bX c0 c1 N w9 E.symm;clear E c0 c1 N z0 z1 z2;refine Qz (v:=.tuple #[.agg #[IV 0,SN,SN],IV 11]) ?_ rfl ⟨?_,?_⟩
  ·rw [Rp rfl];go_simp
  ·exact X.trans (ag.ag X.size (λk hk e=>ZH HQ.o))
  ·exact .inr ⟨11,rfl,ZD,an.o⟩
 ·have be:¬(256:Int)<P.length:=ZO;by_cases he:i=P.length
  ·have bc:((i:Int)==(P.length:Int))=true:=by simp;omega
   obtain ⟨oa,oc,rfl⟩:=bF m.o.o.cO;have o0:wr.cell? (AD C 0)=some (IV 1):=CH m.o.o.dB;have o1:wr.cell? (AD C 1)=some (SL a l c):=CH m.o.o.dB;have aq:O.length=P.length:=ZO;have aN:=O8 aq;have o2:wr.cell? (AD C 2)=some (SL oa P.length oc):=by rw [Pa m.o.o.dB,<-aq];rfl
   clear aq ar he;have c0:wr.cell? (AD (q+1) 0)=some (IV 0):=CH d.o;have c1:wr.cell? (AD (q+1) 1)=some (SN):=CH d.o;have N:wr.cell? (AD (q+1) 2)=some (SN):=CH d.o;have z0:wr.frozen? (AD (q+1) 0)=false:=Pg d.o 0;have z1:wr.frozen? (AD (q+1) 1)=false:=Pg d.o 1;have z2:wr.frozen? (AD (q+1) 2)=false:=Pg d.o 2;clear y;go_wp2;(try simp only [Exit.inBlock,Exit.then]);have⟨w9,E⟩:=EX (((wr.setCell (AD (q+1) 0) (IV 1)).setCell (AD (q+1) 1) (SL a l c)).setCell (AD (q+1) 2) (SL oa P.length oc));rw [E];have⟨d0,d1,d2,ag⟩:=bX c0 c1 N w9 E.symm;clear E c0 c1 N z0 z1 z2;refine Qz (v:=.tuple #[.agg #[IV 1,SL a l c,SL oa P.length oc],IV 0]) ?_ rfl ⟨?_,?_⟩
   ·rw [Rp rfl];go_simp
   ·exact X.trans (ag.ag X.size (λk hk e=>ZH HQ.o))
   ·have⟨f1,f2⟩:=m.o.fin aN.o ZO HA.o;have bg:¬gX C (SL oa O.length oc) (q+1):=λs=>by have:=m.o.bG _ s;have:=HQ.o;omega
    have bh:=m.o.o.ax ag (λk e s=>bg (e▸s)) (λk e=>.inl (.inr (ZH HQ.o)));have a7:=bh.OU (B:=w.heap.size) (λk hk=>.inr ZO) (λk s=>ZH (m.o.bG k s));rw [aN.o]at a7;exact .inl ⟨_,_,rfl,f1,a7,f2⟩
  ·have bc:((i:Int)==(P.length:Int))=false:=by simp;omega
   have bm:(i:Int)<P.length:=ZH m.o.cS;obtain ⟨oa,oc,rfl⟩:=bF m.o.o.cO;have bd:i<P.length:=ZO;obtain ⟨⟨I,p2⟩,hp⟩:∃p,P[i]? =some p:=⟨_,Pe bd⟩;have aC:=m.o.Ni _ (Pm hp);obtain ⟨pb,rfl⟩:∃pb,pa=some (AD pb 0):=by
    obtain ⟨h1,-⟩|⟨g,bk,bl,h1,-⟩:=m.o.lf.cO.2
    ·have:=(P8 h1).2.1;omega
    ·exact ⟨g,(P8 h1).1⟩
   have⟨e0,e1⟩:=xM P i (I,p2) hp;have n0:=m.o.lf.cO.cells (g:=pb) rfl _ _ e0;have n1:=m.o.lf.cO.cells (g:=pb) rfl _ _ e1;rw [QK,PU]at n0 n1;have o2:wr.cell? (AD C 2)=some (SL oa O.length oc):=CH m.o.o.dB;have ba:p2<=16:=by have:=aC.2;have:=HA.o.sets;simp only at *;omega
   have a0:=m.o.lf.ag (Pn _ wr).drew;have aJ:Hid (CL 79 #[PT gk,.agg #[IV I,IV p2]] wr.drew (qH w wr.drew gk M A sl (SV pb P.length pc) P (I,p2))):=
    Gi w wr.drew gk M A sl (SV pb P.length pc) P (I,p2) a0 HA.o ZO aC.1 ba
   have HP:=O8 hp;have aW:O.length+1<=33554432:=ZO;have aM:=O8 ar;clear e0 e1 aC a0 hp y X he ar;go_upto_region 12 with(fail);refine aw 12 (S:=λw'=>w'.cell? (AD C 2)=some (SL oa O.length oc)) ZK (o2) (λap=>?_);refine aB 0 ?_ [1,0];refine aB 1 ?_;refine' aS (i:=2) (v:=_) rfl ZK (λ_ _ _ h=>h) (Or.inl ⟨by rfl,?hy2⟩) (by assumption) ?rest2;case hy2=>(intro w' ac;go_simp;(try with_reducible rfl))
   try walk_nrm
   refine' aS (i:=3) (v:=_) rfl ZK (λ_ _ _ h=>h) (Or.inl ⟨by rfl,?hy3⟩) (by assumption) ?rest3;case hy3=>(intro w' ac;go_simp;(try with_reducible rfl))
   try walk_nrm
   refine' aS (i:=4) (v:=_) rfl ZK (λ_ _ _ h=>h) (Or.inl ⟨by rfl,?hy4⟩) (by assumption) ?rest4;case hy4=>(intro w' ac;go_simp;(try with_reducible rfl))
   try walk_nrm
   refine' aS (i:=5) (v:=_) rfl ZK (λ_ _ _ h=>h) (Or.inl ⟨by rfl,?hy5⟩) (by assumption) ?rest5;case hy5=>(intro w' ac;go_simp;(try with_reducible rfl))
   try walk_nrm
   refine' aS (i:=7) (v:=_) rfl ZK (λ_ _ _ h=>h) (Or.inl ⟨by rfl,?hy7⟩) (by assumption) ?rest7;case hy7=>(intro w' ac;go_simp;(try with_reducible rfl))
   try walk_nrm
   clear ap;refine aK 6 λK n=>?_;go_simp;refine n.o _ _ (λ_=>o2) ?_;clear n K;try walk_nrm
   refine aK 8 λK n=>?_;go_simp;refine n.o _ _ (λ_=>o2) ?_;clear n K;try walk_nrm
   refine aK 9 λK n=>?_;go_simp;refine n.o _ _ (λ_=>o2) ?_;clear n K;try walk_nrm
   refine aK 10 λK n=>?_;rw [PW (by rfl)];apply aY.o;refine aO (f:=79) aJ.o ?_ (λe o aE=>?_)
   ·clear n;go_simp
   obtain ⟨bi,R,a2,l2,N,ks,rfl,h1,h2,h3,h4,h5,h6,h7,-⟩:=aE;refine ⟨_,rfl,?_⟩;have U:aj (cA gk M (SV pb P.length pc)) wr o:=⟨h2.os,h2.tape,h2.output,h2.size,h2.block⟩;have aV:iV wr o (cA gk M bi) a2 l2 N ks:=⟨h4.row,h4.bG,h4.sep,h4.lt,h4.bA,h4.nil⟩;have am:=(U.block C m.o.o.Cr (λs=>m.o.sep C s (.inl rfl))).trans m.o.o.dB;have q2:=U.aq o2 (λs=>m.o.sep C s (.inl rfl));have ay:¬(SL oa O.length oc).ownBlock=some C:=λe=>m.o.o.oK C e rfl;have D:o.ownsRow 0 62 4 (SL oa O.length oc) O.length (dp O):=bp m.o.o.cO U (λb e s=>m.o.sep b s (.inr e));refine n.o _ _ (λ_=>q2) ?_;clear n K;try walk_nrm
   have⟨w5,aF⟩:=EX (o.alloc (CE #[UV ((A.ay I).need:Int),UV ((A.ay I).ban:Int),UV (C9 A (I,p2):Int),SL a2 l2 N] 62));have au:=aT o #[UV ((A.ay I).need:Int),UV ((A.ay I).ban:Int),UV (C9 A (I,p2):Int),SL a2 l2 N] 62;rw [aF]at au;have V:BW o w5:=aF▸ah _ _;have q5:=(V.cell (O9 o _ q2)).trans q2;refine aK 11 λK n=>?_;go_simp;refine n.o _ _ (λ_=>q5) ?_;clear n K;try walk_nrm
   have Y:w5.ownsRow 0 62 4 (SL oa O.length oc) O.length (dp O):=bp D (aj.aC V) (λg e s=>QE _ (Ps (dx D g e) s));have f5:w5.frozen? (AD C 2)=false:=Pg ((V.block C (O9 o _ q2)).trans am) 2;refine aK 12 λK n=>?_;rw [PW (by rfl)];apply aY.o;refine ke (.tmp 41) (.tmp 51) rfl (SL oa O.length oc) O.length (dp O) rfl Y (AD o.heap.size 0) 1 [UV ((A.ay I).need:Int),UV ((A.ay I).ban:Int),UV (C9 A (I,p2):Int),SL a2 l2 N] rfl rfl (λj u hj=>?_) ZV aW (λa6 c6 w6 a3 ae a5=>?_)
   ·rw [QK,PU];exact (au j u (ZX hj)).1
   have q6:=ae.aq q5 ay;have f6:=(PK (ae.block C (O9 _ _ q5) ay)).trans f5;have HN:=O8 (m.o.step HA.o (p:=(I,p2)) (ZR aM.o HP.o) h1 U h3 aV h5 h6 h7 V a3 ae a5 rfl);refine n.q ?_;clear n K h1 h2 h3 h4 h5 h6 h7 U aV am q2 ay D au V q5 Y f5 a3 ae a5 aF;refine aK 13 λK n=>?_;go_simp;refine n.q ?_;clear n K;refine aK 14 λK n=>?_;go_simp;refine n.q ?_;clear n K;refine az ZK ?_;go_wp2;go_roundw;exact ⟨i+1,_,_,_,_,ZN,by rw [Pk,aM.o];rfl,ZO,HN⟩;simp [intOf];omega
end
def Sp:=@Bool.and_false
def SE:=@Nat.testBit_two_pow_sub_one
def Tt:=@Bool.and_true
def Ux:=@Go.u64_andNot_nat
def qF(a b:Nat):Nat:=a&&&(18446744073709551615-b)
def vG{a b}(c:b<18446744073709551616)(k)(d:k<64):(qF a b).testBit k=(a.testBit k&&!b.testBit k):=by have e:18446744073709551615-b=2^64-(b+1):=ZO;unfold qF;rw [RM,e,Nat.testBit_two_pow_sub_succ c,PX d,Qu]
def KY{a}(c:a<18446744073709551616){k}(b:a.testBit k=true):k<64:=by obtain h|h:=Re k 64;exact h;rw [Nat.testBit_lt_two_pow (Ps c (QG (n:=2) ZD h))]at b;cases b
def xz{a b}(g:a<18446744073709551616)(i:b<18446744073709551616):qF a b=0↔∀k,a.testBit k=true->b.testBit k=true:=by
 constructor;intro h k d;have c:=KY g d;have e:=vG (a:=a) i k c;rw [h,Rn,d,Qu]at e;cases f:b.testBit k
 rw [f]at e;cases e;rfl;intro h;refine SM λk=>?_;rw [Rn];obtain c|c:=Re k 64;rw [vG i k c];cases d:a.testBit k
 rfl;rw [h k d];rfl;unfold qF;rw [RM,Nat.testBit_lt_two_pow (Ps g (QG (n:=2) ZD c)),QX]
def iK(a b:dk)(n:Nat):Bool:=decide (qF b.need a.need=0)&&(decide (qF b.ban a.ban=0)&&decide (qF a.inn b.inn&&&(2^n-1)=0))
def wC{a b n}(l:n<=64)(i:a.need<18446744073709551616/\a.ban<18446744073709551616/\a.inn<18446744073709551616)(c:b.need<18446744073709551616/\b.ban<18446744073709551616/\b.inn<18446744073709551616):
 iK a b n=true↔(∀k,b.need.testBit k=true->a.need.testBit k=true)/\(∀k,b.ban.testBit k=true->a.ban.testBit k=true)/\∀k,k<n->a.inn.testBit k=true->b.inn.testBit k=true:=by
 unfold iK
 rw [Qk,Qk,Qw,Qw,Qw,xz c.1 i.1,xz c.2.1 i.2.1]
 refine U5 RE (U5 RE ?_)
 constructor
 intro h k f e
 have d:(qF a.inn b.inn&&&(2^n-1)).testBit k=false:=by rw [h,Rn]
 rw [RM,vG c.2.2 k ZO,SE,PX f,e,Tt,Qu]at d
 cases j:b.inn.testBit k
 rw [j]at d;cases d
 rfl
 intro h
 refine SM λk=>?_
 rw [Rn,RM,SE]
 obtain g|g:=Re k n
 rw [PX g,Tt,vG c.2.2 k ZO]
 cases f:a.inn.testBit k
 rfl
 rw [h k g f];rfl
 rw [PH ZO,Sp]
def Nd(a b)(c:a<18446744073709551616):qF a b<18446744073709551616:=Nat.lt_of_le_of_lt Nat.and_le_left c
def FX(w a b)(n:Nat)(u x v z C A)(hn:n<=16)(p:a.need<18446744073709551616/\a.ban<18446744073709551616/\a.inn<18446744073709551616)(s:b.need<18446744073709551616/\b.ban<18446744073709551616/\b.inn<18446744073709551616):
 CL 153 #[.agg #[UV a.need,UV a.ban,UV a.inn,SL u x v],.agg #[UV b.need,UV b.ban,UV b.inn,SL z C A],IV n] w λe X=>e=RT (.bool (iK a b n))/\BW w X:=by
 have⟨d,h⟩:=EX ((w.alloc (CE #[UV a.need,UV a.ban,UV a.inn,SL u x v] 62)).alloc (CE #[UV b.need,UV b.ban,UV b.inn,SL z C A] 62))
 have⟨q,L⟩:=EX w.heap.size
 have r:BW w d:=h▸af (ah _ _) (ah _ _)
 have f:d.heap[q]? =some (.cells #[UV a.need,UV a.ban,UV a.inn,SL u x v] 62 (0,0)):=by rw [<-h,<-L,(Ph _ _).2 _ (by rw [PL];omega)];exact (Ph w _).1
 have g:d.heap[q+1]? =some (.cells #[UV b.need,UV b.ban,UV b.inn,SL z C A] 62 (0,0)):=by rw [<-h,<-L,<-PL w (CE #[UV a.need,UV a.ban,UV a.inn,SL u x v] 62)];exact (Ph _ _).1
 have a0:d.cell? (AD q 0)=some (UV a.need):=CH f
 have a1:d.cell? (AD q 1)=some (UV a.ban):=CH f
 have a2:d.cell? (AD q 2)=some (UV a.inn):=CH f
 have b0:d.cell? (AD (q+1) 0)=some (UV b.need):=CH g
 have b1:d.cell? (AD (q+1) 1)=some (UV b.ban):=CH g
 have b2:d.cell? (AD (q+1) 2)=some (UV b.inn):=CH g
 have U:bits .andNot .u64 (b.need:Int) (a.need:Int)=((qF b.need a.need:Nat):Int):=Ux _ _ s.1 p.1
 have V:bits .andNot .u64 (b.ban:Int) (a.ban:Int)=((qF b.ban a.ban:Nat):Int):=Ux _ _ s.2.1 p.2.1
 have W:bits .andNot .u64 (a.inn:Int) (b.inn:Int)=((qF a.inn b.inn:Nat):Int):=Ux _ _ p.2.2 s.2.2
 have T:2^n<=65536:=QG (n:=2) ZD (by omega:n<=16)
 have y:1<=2^n:=UJ
 have⟨M,K⟩:=EX (2^n-1)
 have⟨j,o⟩:=EX (2^n)
 have m1:IntKind.u64.wrap ((2:Int)^n)=(j:Int):=by have e:((2:Int)^n)=((2^n:Nat):Int):=ZS;rw [e,o,Ss];exact Tb (S5 _) ZO
 have m2:IntKind.u64.wrap ((j:Int)-1)=(M:Int):=by have S:((j:Int)-1)=(M:Int):=ZO;rw [S,Ss];exact Tb (S5 _) ZO
 have O:bits .and .u64 ((qF a.inn b.inn:Nat):Int) (M:Int)=((qF a.inn b.inn&&&M:Nat):Int):=RC _ _ (Nd _ _ p.2.2) ZO
 have c:Hid (iK a b n=(decide (qF b.need a.need=0)&&(decide (qF b.ban a.ban=0)&&decide (qF a.inn b.inn&&&M=0)))):=by rw [<-K];exact O8 rfl
 have⟨D,G⟩:=EX (qF b.need a.need)
 have⟨E,H⟩:=EX (qF b.ban a.ban)
 have⟨R,I⟩:=EX (qF a.inn b.inn)
 rw [G]at U c
 rw [H]at V c
 rw [I]at W O c
 have⟨F,J⟩:=EX (R&&&M)
 rw [J]at O c
 have t:∀N:Nat,((N:Int)==0)=decide (N=0):=λN=>by
  by_cases e:N=0
  ·subst e;rfl
  ·rw [PH e];simp;omega
 have Y:=t D
 have Z:=t E
 have z4:=t F
 have⟨P,k⟩:=EX (decide (D=0))
 have⟨Q,l⟩:=EX (decide (E=0))
 have⟨B4,m⟩:=EX (decide (F=0))
 rw [k]at Y c
 rw [l]at Z c
 rw [m]at z4 c
 rw [c.o]
 clear t G H I J k l m K o T y c
 have i:=O8 r
 clear f g r p s
 go_enter func153,ntmps153
 go_upto_region 1 with(fail)
 clear h
 go_upto_region 2 with(fail)
 cases P
 ·go_wp2;go_ret
  exact ⟨rfl,i.o⟩
 ·cases Q
  ·go_wp2;go_ret
   exact ⟨rfl,i.o⟩
  ·go_wp2;go_ret
   exact ⟨rfl,i.o⟩
def vZ(w:WD)(a n:Nat)(r:Nat->Nat->Bool):Prop:=∀i k,i<n->k<n->w.cell? (AD a (i*256+k))=some (.bool (r i k))
def vZ.ag{w w' c n r}(h:vZ w c n r)(d:BW w w'):vZ w' c n r:=λi k a b=>(d.cell (O9 w _ (h i k a b))).trans (h i k a b)
def cW(A:Au)(r:Nat->Nat->Bool)(a b:Nat):Bool:=(dk.tO (A.ay a)).all λt=>(dk.tO (A.ay b)).any λu=>r t u
def yJ(a n c d q f m w)(h:aG .i64 w a n d)(O:n<=4611686018427387903)
 (F:∀z∈d,CL 178 #[IV z,q,f] w λe B=>e=RT (.bool (m z))/\B=w):
 CL 84 #[SL a n c,.func (.func 178) #[] #[q,f]] w λe B=>∃r,e=RT (IV r)/\B=w/\decide (0<=r)=d.any m:=by
 have G:=O8 F
 have u:Hid (d.length=n):=h.1
 have H:=O8 h
 clear h F
 go_enter func84,ntmps84
 go_wp2
 go_loopw [8] (λx wr=>∃k:Nat,k<=n/\x=IV k/\wr=w/\Hid (∀i,i<k->m (d.getD i 0)=false)) (λx _=>n-(intOf x).toNat)
 exact ⟨0,Pz _,rfl,rfl,O8 λi J=>ZO⟩
 obtain ⟨k,N,rfl,v,D⟩:=hrel
 subst v
 by_cases j:k<n
 have E:(k:Int)<n:=ZO
 obtain ⟨-,M|⟨b,K,rfl,C⟩⟩:=H.o
 omega
 have I:=C k j
 have s:=O8 (G.o _ (pW (i:=k) (ZR u.o j)))
 have t:Hid (∀p,m (d.getD k 0)=p->m (d.getD k 0)=p):=λp h=>h
 clear C
 have⟨A,l⟩:=EX (m (d.getD k 0))
 rw [l]at s
 have g:=O8 l
 clear l t
 have⟨z,y⟩:=EX (d.getD k 0)
 rw [y]at I s g
 have o:=O8 y
 clear y
 cases A
 go_wp2_with (go_at_call 178;apply s.o.mono;rintro e L ⟨rfl,rfl⟩)
 go_roundw
 case rel=>exact ⟨k+1,ZO,ZN,(by first|trivial|rfl),O8 λi J=>by by_cases e:i=k;subst e;rw [o.o];exact g.o;exact D.o i ZO⟩
 case measure=>simp [intOf];omega
 go_wp2_with (go_at_call 178;apply s.o.mono;rintro e L ⟨rfl,rfl⟩)
 go_ret
 exact ⟨_,rfl,rfl,by rw [mY (i:=k) (ZR u.o j) (ZR o.o g.o)];exact PX ZO⟩
 obtain rfl:k=n:=ZO
 go_wp2
 go_ret
 exact ⟨_,rfl,rfl,by rw [ly (ZR u.o D.o)];rfl⟩
def AA(a n c f d b g w)(h:aG .i64 w a n f)(o:n<=4611686018427387903)
 (j:∀z∈f,CL 178 #[IV z,d,b] w λe i=>e=RT (.bool (g z))/\i=w):
 CL 46 #[SL a n c,.func (.func 178) #[] #[d,b]] w λe i=>e=RT (.bool (f.any g))/\i=w:=by
 have l:=O8 (yJ a n c f d b g w h o j)
 clear h j
 go_enter func46,ntmps46
 go_wp2_with (go_at_call 84;apply l.o.mono;rintro e p ⟨r,rfl,rfl,k⟩;have m:=O8 k;clear k)
 go_ret
 exact ⟨by rw [<-m.o];rfl,rfl⟩
def I4(z t:Nat)(b d f n c r w)(j:CA w b 0 (SV f n c))(k:CA w d 0 (IV t))(a:vZ w f n r)(g:t<n)(h:z<n)(m:n<=256):
 CL 178 #[IV z,PT b,PT d] w λe i=>e=RT (.bool (r t z))/\i=w:=by
 have l:=a t z g h
 have o:(t:Int)<n:=ZO
 have p:(z:Int)<256:=ZO
 clear a
 go_enter func178,ntmps178
 go_wp2
 go_ret
 exact ⟨rfl,rfl⟩
def JD(l p):(aE l).any (λz=>p z.toNat)=l.any p:=by unfold aE;rw [List.any_map];rfl
def MI{x}{l:List Nat}{p}{k:Nat}(a:l[k]? =some x)(h:p x=false):l.all p=false:=by rw [List.all_eq_false];exact ⟨x,Pm a,by rw [h];decide⟩
def rQ(w A ia il ic T f nc Q c r a b)(S:cm w A ia il T f)(R:gL A)(hm:vZ w Q f r)(ha:a<A.ak.length)(hb:b<A.ak.length):
 CL 154 #[.agg #[IV A.sets,SL ia il ic,SL T f nc],SV Q f c,IV a,IV b] w λe g=>e=RT (.bool (cW A r a b))/\BW w g:=by
 have⟨l,D⟩:=EX ((w.alloc (CE #[IV A.sets,SL ia il ic,SL T f nc] 36)).alloc (CE #[SV Q f c] 209))
 have⟨q,hq⟩:=EX w.heap.size
 have I:BW w l:=D▸af (ah _ _) (ah _ _)
 have J:l.heap[q]? =some (.cells #[IV A.sets,SL ia il ic,SL T f nc] 36 (0,0)):=by rw [<-D,<-hq,(Ph _ _).2 _ (by rw [PL];omega)];exact (Ph w _).1
 have K:l.heap[q+1]? =some (.cells #[SV Q f c] 209 (0,0)):=by rw [<-D,<-hq,<-PL w (CE #[IV A.sets,SL ia il ic,SL T f nc] 36)];exact (Ph _ _).1
 have ak:f<=256:=by rw [<-S.bA];exact R.many
 have V:Hid (∀g,BW l g->g.cell? (AD q 2)=some (SL T f nc)/\g.cell? (AD (q+1) 0)=some (SV Q f c)):=λg h=>
  ⟨by rw [Pa ((h.block q (Pb.1 J).1).trans J)];rfl,by rw [Pa ((h.block (q+1) (Pb.1 K).1).trans K)];rfl⟩
 obtain ⟨Z,o0,x,ac,hx,ad,C,ta,E,tc,-,-,-,e3,m⟩:=S.nd ha
 obtain ⟨aj,am,y,o,hy,ae,ar,ua,ul,uc,-,-,-,f3,j⟩:=S.nd hb
 rw [ac]at o
 obtain ⟨rfl,rfl⟩:Z=aj/\o0=am:=by have:=Qh o;cases this;exact ⟨rfl,rfl⟩
 subst ac
 have O:=Pm hx
 have P:=Pm hy
 have av:ul<=16777216:=by have h:=j.1;rw [aD]at h;rw [<-h];exact R.tl y P
 have au:E<=16777216:=by have h:=m.1;rw [aD]at h;rw [<-h];exact R.tl x O
 have H:Hid ((dk.tO x).length=E):=by have h:=m.1;rwa [aD]at h
 have W:Hid (cW A r a b=(dk.tO x).all λt=>(dk.tO y).any λu=>r t u):=by unfold cW;rw [ad,ae];exact O8 rfl
 have ap:(a:Int)<f:=ZO
 have aq:(b:Int)<f:=ZO
 have HK:Hid (∀g,BW l g->g.cell? (AD Z (o0+a*4+3))=some (SL ta E tc)/\g.cell? (AD Z (o0+b*4+3))=some (SL ua ul uc)/\aG .i64 g ta E (aE (dk.tO x))/\aG .i64 g ua ul (aE (dk.tO y))/\vZ g Q f r):=λg h=>by have h2:BW w g:=af I h;have k:∀{i:Nat}{v:Value},w.cell? (AD Z i)=some v->g.cell? (AD Z i)=some v:=λh=>(h2.cell (O9 w _ h)).trans h;exact ⟨k e3,k f3,m.ag h2,j.ag h2,hm.ag h2⟩
 have HX:Hid (∀t∈dk.tO x,t<f):=λt p=>by rw [<-S.bA];exact R.mZ x O t p
 have HY:Hid (∀t∈dk.tO y,t<f):=λt p=>by rw [<-S.bA];exact R.mZ y P t p
 have U:=O8 I
 rw [W.o]
 have a2:=(V.o l (Pn _ _)).1
 have n3:=(HK.o l (Pn _ _)).1
 clear S R hm J K hx hy ad ae m j O P e3 f3 o I W
 go_enter func154,ntmps154
 go_upto_region 1 with(fail)
 clear D hq
 go_wp2
 go_loopw [18] (λv wr=>∃k:Nat,k<=E/\v=IV k/\Hid (BW l wr)/\Hid (∀i t,i<k->(dk.tO x)[i]? =some t->(dk.tO y).any (λu=>r t u)=true)) (λv _=>E-(intOf v).toNat)
 exact ⟨0,Pz _,rfl,O8 (Pn _ _),O8 (λi t hi=>ZO)⟩
 clear a2 n3
 obtain ⟨k,hk,rfl,L,F⟩:=hrel
 by_cases M:k<E
 have ao:(k:Int)<E:=ZO
 obtain ⟨t,p⟩:∃t,(dk.tO x)[k]? =some t:=⟨_,Pe (ZR H.o M)⟩
 have al:t<f:=HX.o t (Pm p)
 obtain ⟨-,h0|⟨tb,an,rfl,hc⟩⟩:=(HK.o wr L.o).2.2.1
 omega
 have ck:wr.cell? (AD tb (an+k))=some (IV t):=by have:=hc k M;rw [cG (ZR H.o M),Pd,p]at this;exact this
 have⟨n,ag⟩:=EX (wr.alloc (CE #[IV t] 3))
 have aa:BW wr n:=ag▸ah _ _
 have C:=(aT wr #[IV t] 3 0 _ rfl).1
 rw [ag]at C
 have s:Hid (BW l n):=af L.o aa
 have⟨m2,m0⟩:=V.o n s.o
 obtain ⟨-,m3,-,G,ab⟩:=HK.o n s.o
 have B:Hid (CL 46 #[SL ua ul uc,.func (.func 178) #[] #[PT (q+1),PT wr.heap.size]] n λe g=>e=RT (.bool ((dk.tO y).any λu=>r t u))/\g=n):=by refine (AA ua ul uc (aE (dk.tO y)) (PT (q+1)) (PT wr.heap.size) (λz=>r t z.toNat) n G ZO (λz hz=>?_)).mono ?_;obtain ⟨u,hu,rfl⟩:=qg hz;exact I4 u t (q+1) wr.heap.size Q f c r n m0 C ab al (HY.o u hu) ak;rintro e g ⟨rfl,rfl⟩;exact ⟨by rw [JD (dk.tO y) (λu=>r t u)],rfl⟩
 have X:=O8 p
 clear hc p C G ab aa
 cases d:(dk.tO y).any (λu=>r t u)
 rw [d]at B
 have ai:Hid ((dk.tO x).all (λt=>(dk.tO y).any λu=>r t u)=false):=MI X.o d
 clear d
 go_wp2_with (go_at_call 46;apply B.o.mono;rintro e n ⟨rfl,rfl⟩)
 go_ret
 exact ⟨by rw [ai.o];rfl,af U.o s.o⟩
 rw [d]at B
 have HN:Hid (∀i t,i<k+1->(dk.tO x)[i]? =some t->(dk.tO y).any (λu=>r t u)=true):=λi t' hi N=>by
  by_cases e:i=k;subst e;rw [X.o]at N;cases N;exact d
  exact F.o i t' ZO N
 clear d
 go_wp2_with (go_at_call 46;apply B.o.mono;rintro e n ⟨rfl,rfl⟩)
 go_roundw
 exact ⟨k+1,ZO,ZN,s,HN⟩
 simp [intOf];omega
 obtain rfl:k=E:=ZO
 have Y:Hid ((dk.tO x).all (λt=>(dk.tO y).any λu=>r t u)=true):=by show(dk.tO x).all (λt=>(dk.tO y).any λu=>r t u)=true;rw [Rc];intro t p;have⟨i,hi⟩:=Rh p;exact F.o i t (by have:=(Po.1 hi).1;have:=H.o;omega) hi
 go_wp2
 go_ret
 exact ⟨by rw [Y.o];rfl,af U.o L.o⟩
section
def rE(r:Nat->Nat->Bool)(i k:Nat)(v:Bool)(a b:Nat):Bool:=if a=i/\b=k then v else r a b
def rF(r i k v):rE r i k v i k=v:=by unfold rE;rw [PW ⟨rfl,rfl⟩]
def mF{r i k v a b}(h:¬(a=i/\b=k)):rE r i k v a b=r a b:=by unfold rE;rw [Qa h]
def FD{r i k a b}(h:rE r i k false a b=true):r a b=true/\¬(a=i/\b=k):=by by_cases e:a=i/\b=k;unfold rE at h;rw [PW e]at h;cases h;rw [mF e]at h;exact ⟨h,e⟩
def gF(w:WD)(rb n:Nat)(r:Nat->Nat->Bool):Prop:=∃a:Array Value,w.heap[rb]? =some (.cells a 212 (0,0))/\∀i k,i<n->k<n->a[i*256+k]? =some (.bool (r i k))
section
variable {w w1:WD} {rb n:Nat} {r:Nat->Nat->Bool}
def gF.lt(h:gF w rb n r):rb<w.heap.size:=by obtain ⟨b,a,-⟩:=h;exact (Pb.1 a).1
def gF.Ms(h:gF w rb n r):vZ w rb n r:=λi k c d=>by obtain ⟨e,a,b⟩:=h;rw [Pa a];exact b i k c d
def gF.frozen(h:gF w rb n r)(j):FZ w rb j:=by obtain ⟨b,a,-⟩:=h;exact Pg a j
def gF.ag(h:gF w rb n r)(d:BW w w1):gF w1 rb n r:=by have e:=h.lt;obtain ⟨a,b,c⟩:=h;exact ⟨a,(d.block rb e).trans b,c⟩
def gF.ext(h:gF w rb n r){r'}(f:∀i k,i<n->k<n->r' i k=r i k):gF w rb n r':=by obtain ⟨c,d,e⟩:=h;exact ⟨c,d,λi k a b=>by rw [f i k a b];exact e i k a b⟩
def gF.set(h:gF w rb n r)(o:n<=256){i k}(l:i<n)(m:k<n)(v):gF (w.setCell (AD rb (i*256+k)) (.bool v)) rb n (rE r i k v):=by obtain ⟨g,j,c⟩:=h;refine ⟨g.setIfInBounds (i*256+k) (.bool v),by simp [HC,World.setCell,P7,j],λa b d f=>?_⟩;by_cases e:a=i/\b=k;obtain ⟨rfl,rfl⟩:=e;rw [rF,Array.getElem?_setIfInBounds_self_of_lt (Pb.1 (c a b d f)).1];rw [mF e,UW ZO];exact c a b d f
def gF.xX(h:gF w rb n r){B a}(b:B<=rb)(c:Below B a w)(j v):Below B a (w.setCell (AD rb j) v):=c.setCell (p:=(AD rb j)) b v
end
def mg(n:Nat)(r:Nat->Nat->Bool):Nat:=((List.range (n*256)).filter λj=>decide (j%256<n)&&r (j/256) (j%256)).length
def K5{n r}(f:n<=256){i k}(e:i<n)(d:k<n)(h:r i k=true):mg n (rE r i k false)<mg n r:=by refine nr (λj c=>by rw [Qk]at c⊢;exact ⟨c.1,(FD c.2).1⟩) _ ⟨i*256+k,P5.2 ZO,?_,?_⟩;have a:(i*256+k)/256=i:=ZO;have b:(i*256+k)%256=k:=ZO;rw [a,b,h,PX d];rfl;have a:(i*256+k)/256=i:=ZO;have b:(i*256+k)%256=k:=ZO;rw [a,b,rF,Sp]
open Classical in
noncomputable def oP(n:Nat)(v:Value)(w:WD):Nat:=((List.range (n*256)).filter λj=>decide (j%256<n)&&decide (∃b,v=SV b n n/\w.cell? (AD b ((j/256)*256+j%256))=some (.bool true))).length
def wW{α:Type}{p q}:∀(l:List α),(∀x∈l,p x=q x)->(l.filter p).length=(l.filter q).length
 |[],_=>rfl
 |a::l,h=>by
  have d:=wW l (λx e=>h x (Qc _ e));have c:=h a (P2 ..);cases b:p a
  rw [QS (by rw [b];decide),QS (by rw [<-c,b];decide)];exact d;rw [QT b,QT (ZR c.symm b),P9,P9,d]
open Classical in
def gF.oP{w rb n r}(h:gF w rb n r)(i:n<=256):oP n (SV rb n n) w=mg n r:=by
 refine wW _ λj g=>?_;rw [P5]at g;by_cases a:j%256<n;rw [PX a,Qu,Qu];have d:=h.Ms (j/256) (j%256) (by omega) a;cases f:r (j/256) (j%256)
 refine PH ?_;rintro ⟨b,e,c⟩;have:rb=b:=by cases e;rfl
 subst this;rw [d,f]at c;cases c
 exact PX ⟨rb,rfl,by rw [d,f]⟩;rw [PH a,QX,QX]
structure qG (A:Au) (r:Nat->Nat->Bool):Prop where
 uG:∀i k,i<A.ak.length->k<A.ak.length->r i k=true->iK (A.ay i) (A.ay k) A.sets=true
 all:∀a,OE A a->∀q p,a q p->r q p=true
def eB{A:Au}{i}(h:i<A.ak.length):A.ay i∈A.ak:=by unfold Au.ay;rw [Pd,Pe h];exact QF h
def gL.yQ{A}(h:gL A){x}(a:x∈A.ak):x.need<18446744073709551616/\x.ban<18446744073709551616/\x.inn<18446744073709551616:=
 ⟨(h.bits x a).1,(h.bits x a).2,Ps (h.inn x a) (QG (n:=2) ZD (by have:=h.sets;omega:A.sets<=64))⟩
def qG.aM{A}(h:gL A):qG A (λi k=>iK (A.ay i) (A.ay k) A.sets):=by refine ⟨λ_ _ _ _ h=>h,λd b q p a=>?_⟩;have⟨c,hw⟩:=b.uG q p a;exact (wC (ZH h.sets) (h.yQ (eB c)) (h.yQ (eB hw.lt))).2 ⟨hw.need,hw.ban,hw.inn⟩
def qG.cut{A r}(h:qG A r){i k}(m:cW A r i k=false):qG A (rE r i k false):=by
 refine ⟨λa b j l o=>h.uG a b j l (FD o).1,λf d q p c=>?_⟩;by_cases e:q=i/\p=k;obtain ⟨rfl,rfl⟩:=e;exfalso;have:cW A r q p=true:=by unfold cW;rw [Rc];intro t s;have⟨v,u,g⟩:=d.step q p c t s;rw [To];exact ⟨v,u,h.all f d t v g⟩
 rw [m]at this;cases this;rw [mF e];exact h.all f d q p c
def qG.NX{A r}(h:qG A r)(d:gL A)(u:∀i k,i<A.ak.length->k<A.ak.length->r i k=true->cW A r i k=true):lj A (λi k=>i<A.ak.length/\k<A.ak.length/\r i k=true):=by refine ⟨⟨λq p ⟨a,c,f⟩=>?_,λq p ⟨a,c,f⟩ t l=>?_⟩,λo j q p e=>?_⟩;have b:=(wC (ZH d.sets) (d.yQ (eB a)) (d.yQ (eB c))).1 (h.uG q p a c f);exact ⟨a,c,b.1,b.2.1,b.2.2⟩;have b:=u q p a c f;unfold cW at b;rw [Rc]at b;have g:=b t l;rw [To]at g;obtain ⟨v,m,s⟩:=g;exact ⟨v,m,d.mZ _ (eB a) t l,d.mZ _ (eB c) v m,s⟩;have⟨a,hw⟩:=j.uG q p e;exact ⟨a,hw.lt,h.all o j q p e⟩
def BE(i k a b:Nat):Prop:=a<i\/a=i/\b<k
def iE(A:Au)(c:Nat)(i k:Nat)(r:Nat->Nat->Bool):Prop:=
 qG A r/\(mg A.ak.length r<c\/mg A.ak.length r=c/\∀a b,BE i k a b->a<A.ak.length->b<A.ak.length->r a b=true->cW A r a b=true)
def iE.next{A f i k r}(h:iE A f i k r)(o:r i k=true->cW A r i k=true):iE A f i (k+1) r:=by refine ⟨h.1,h.2.imp id λ⟨e,l⟩=>⟨e,λa b c m d g=>?_⟩⟩;by_cases j:a=i/\b=k;obtain ⟨rfl,rfl⟩:=j;exact o g;exact l a b (by rcases c with c|c;exact .inl c;exact .inr ⟨c.1,ZO⟩) m d g
def iE.row{A f i r}(h:iE A f i A.ak.length r):iE A f (i+1) 0 r:=
 ⟨h.1,h.2.imp id λ⟨e,g⟩=>⟨e,λa b d j c k=>g a b (by rcases d with d|d;(obtain h|h:=Re a i;exact .inl h;exact .inr ⟨ZO,c⟩);omega) j c k⟩⟩
def iE.cut{A a i k r}(h:iE A a i k r)(f:A.ak.length<=256)(d:i<A.ak.length)(e:k<A.ak.length)(g:r i k=true)(c:cW A r i k=false)(j l):iE A a j l (rE r i k false):=by have m:=K5 f d e g;exact ⟨h.1.cut c,.inl (by rcases h.2 with b|b<;>omega)⟩
def iE.jump{A b i k r}(h:iE A b A.ak.length 0 r)(c:i<A.ak.length)(e:k<A.ak.length)(f:r i k=true)(d:cW A r i k=false):mg A.ak.length r<b:=by obtain a|⟨-,a⟩:=h.2;exact a;have:=a i k (.inl c) c e f;rw [d]at this;cases this
end
def TR:=@Go.Proofs.Tryz.underlying76
def Tryz.Lk:(prog.info? 212).map (λi=>(i.zero,i.size,i.bytes))=some (some (.agg (Array.replicate 256 (.bool false))),256,256):=ZK
def gM(w:WD)(v:Value)(n:Nat)(r:Nat->Nat->Bool):Prop:=
 ∃a c,v=SL a n c/\(n=0\/∃b o,a=some (AD b o)/\∀i,i<n->∃d f e,w.cell? (AD b (o+i))=some (SL d n e)/\f=n/\dq w d n (r i))
def gM.ag{w w' v n r}(h:gM w v n r)(f:BW w w'):gM w' v n r:=by obtain ⟨a,c,e,h⟩:=h;refine ⟨a,c,e,h.imp id ?_⟩;rintro ⟨b,o,g,l⟩;refine ⟨b,o,g,λi m=>?_⟩;have⟨p,s,q,d,j,k⟩:=l i m;exact ⟨p,s,q,(f.cell (O9 w _ d)).trans d,j,k.ag f⟩
def vR(w:WD)(A:Au)(e:Ending)(a:WD):Prop:=
 BW w a/\∃v r,e=RT v/\gM a v A.ak.length r/\lj A λi k=>i<A.ak.length/\k<A.ak.length/\r i k=true
def yt{P a w Q c b}(l)(F:(Nat->Value)->Value->Act)(R:Value->WD->Prop)(μ:Value->WD->Nat)(p:findLabel c l=some (Code.skip.seq b))(o:∀U v,(F U v).tmps.getD 4 undef=v)
 (n:∀f (a) d v w,Q (.panic f) (a.put d v) w->Q (.panic f) a w)
 (g:∀U v w,R v w->∀e:Exit->Act->WD->Prop,(∀f (a) d v w,e (.panic f) (a.put d v) w->e (.panic f) a w)->Hid ((∀j i k,R i k->μ i k<μ v w->e (.goto l) (F j i) k)/\∀a w,Q .ret a w->e .ret a w)->b.wp P e (F U v) w)
 (first:∀e:Exit->Act->WD->Prop,(∀f (a) d v w,e (.panic f) (a.put d v) w->e (.panic f) a w)->Hid (∀U v w,R v w->b.wp P e (F U v) w)->c.wp P e a w):(Code.scope c).wp P Q a w:=by
 refine wp_scope_jumps l (λa w=>∃U v,a=F U v/\R v w) (λa w=>μ (a.tmps.getD 4 undef) w) p ?_ ?_
 exact first _ n λU v w h=>g U v w h _ n ⟨λj i k m _=>⟨rfl,j,i,rfl,m⟩,λ_ _ h=>h⟩
 rintro a w ⟨U,v,rfl,h⟩
 refine wp_seq (wp_skip (g U v w h _ n ⟨λj i k m q=>⟨rfl,⟨j,i,rfl,m⟩,?_⟩,λ_ _ h=>h⟩))
 rw [o,o];exact q
def zA{F:(Nat->Value)->Value->Act}{R:Value->WD->Prop}{G:Act->WD->Prop}(h:∀U v w,R v w->G (F U v) w)(a w)(e:F (λn=>a.tmps.getD n undef) (a.tmps.getD 4 undef)=a)(b:R (a.tmps.getD 4 undef) w):G a w:=by rw [<-e];exact h _ _ _ b
def Tryz.Jj:(prog.info? 67).map (λi=>(i.zero,i.size,i.bytes))=some (some (SN),1,24):=ZK
structure oG (rb:Nat) (d w:WD) (v:Value) (i n:Nat) (r:Nat->Nat->Bool) (a:List Value):Prop where
 bA:a.length=i
 o:Sl w 67 v i a
 bG:∀b,v.ownBlock=some b->d.heap.size<=b/\b≠rb
 bC:∀j,j<i->∃g c,a[j]? =some (SV g n c)/\dq w (some (AD g 0)) n (r j)/\v.ownBlock≠some g/\g<w.heap.size
def oG.dT{q u w w2 w3 v t i n g c r l}(h:oG q u w v i n r l)(D:q<w.heap.size)(G:u.heap.size<=w.heap.size)(a:pJ w w2 g n (r i))(hw:0<n)(C:Sl w3 67 t (i+1) (l++[SV g n c]))(f:aj (λk=>v.ownBlock=some k) w2 w3)(m:∀b,t.ownBlock=some b->v.ownBlock=some b\/w2.heap.size<=b):
 oG q u w3 t (i+1) n r (l++[SV g n c]):=by
 have p:=h.o.lt
 have H:=a.aJ.size
 refine ⟨by rw [Pk,h.bA];rfl,C,λb e=>(m b e).elim (h.bG b) (λh=>⟨ZO,ZO⟩),λj F=>?_⟩
 by_cases e:j=i
 subst e
 have d:¬v.ownBlock=some g:=λe=>ZI (p g e) a.dJ
 refine ⟨g,c,by rw [<-h.bA];exact Qm,a.row.ax f (λb o e s=>d (by cases e;exact s)),λe=>?_,Ps a.lt f.size⟩
 obtain e|e:=m g e
 exact d e
 have:=a.lt;omega
 have⟨x,z,A,B,y,E⟩:=h.bC j ZO
 refine ⟨x,z,by rw [Pp (by rw [h.bA];omega)];exact A,(B.ag a.aJ).ax f (λb o e s=>y (by cases e;exact s)),λe=>?_,ZH f.size⟩
 obtain e|e:=m x e
 exact y e
 omega
def oG.fin{q s w v n r j}(h:oG q s w v n n r j):gM w v n r:=by
 obtain ⟨a,c,rfl,d⟩:=h.o.shape;refine ⟨a,c,rfl,?_⟩;obtain e|e:=Qv n;exact .inl e;obtain ⟨g,rfl,-,-⟩:=d 0 e;refine .inr ⟨g,0,rfl,λi f=>?_⟩;obtain ⟨t,l,-,p⟩:=d i f;cases l
 obtain ⟨b,k,m,o,-,-⟩:=h.bC i f;exact ⟨some (AD b 0),n,k,by rw [PU,p,m],rfl,o⟩
def oG.aM(a c w n r):oG a c w (SN) 0 n r []:=⟨rfl,Qd _ _ _ _,λb e=>(ZC e),λj d=>ZO⟩
def gV(A:Au)(i k a b:Nat):Bool:=(decide (a<i)||(decide (a=i)&&decide (b<k)))&&iK (A.ay a) (A.ay b) A.sets
def CI(A a b):gV A 0 0 a b=false:=by unfold gV;rw [PH (Uk a),PH (Uk b),Sp,TT,QX]
def CG(A i k a b):gV A i (k+1) a b=rE (gV A i k) i k (iK (A.ay i) (A.ay k) A.sets) a b:=by
 by_cases e:a=i/\b=k;obtain ⟨rfl,rfl⟩:=e;rw [rF];unfold gV;rw [PX (rfl:a=a),PX (Tq b),Tt,Bool.or_true,Qu];rw [mF e];unfold gV;have:(decide (a=i)&&decide (b<k+1))=(decide (a=i)&&decide (b<k)):=by by_cases c:a=i;have f:b≠k:=λh=>e ⟨c,h⟩;have d:decide (b<k+1)=decide (b<k):=Sr.2 ZO;rw [d];rw [PH c,QX,QX]
 rw [this]
def Eh(A){n}(i a b)(c:b<n):gV A (i+1) 0 a b=gV A i n a b:=by
 unfold gV;have:(decide (a<i+1)||(decide (a=i+1)&&decide (b<0)))=(decide (a<i)||(decide (a=i)&&decide (b<n))):=by rw [PH (Uk b),Sp,TT,PX c,Tt,<-Bool.decide_or];exact Sr.2 ZO
 rw [this]
def Eg(A){n a b}(c:a<n):gV A n 0 a b=iK (A.ay a) (A.ay b) A.sets:=by unfold gV;rw [PX c,UO,Qu]
def GU{w g n}(z:n<=256)(h:w.ownsRow 0 212 256 (SV g n n) n (madeCells (Value.agg (Array.replicate 256 (.bool false))).cells (n*256)).toList):gF w g n (λ_ _=>false):=by
 have v:(Value.agg (Array.replicate 256 (.bool false))).cells=Array.replicate 256 (.bool false):=ZK;rw [v]at h;obtain ⟨c,-⟩|⟨j,f,a,c,-,t,u,r,s,b⟩:=h.2;cases (P8 c).1
 have e:g=j:=by have:=Qh (P8 c).1;cases this;rfl
 subst e;refine ⟨a,t,λi k x y=>?_⟩;have d:i*256+k<n*256:=ZO;have l:(a.toList.take (n*256))[i*256+k]? =a[i*256+k]? :=by rw [List.getElem?_take_of_lt d,Array.getElem?_toList]
 rw [<-l,b,Array.getElem?_toList];unfold madeCells;rw [Array.getElem?_map];have o:(Array.range (n*256))[i*256+k]? =some (i*256+k):=by simp [d]
 rw [o];have q:∀m:Nat,(Array.replicate 256 (Value.bool false))[m%(Array.replicate 256 (Value.bool false)).size]! =Value.bool false:=λm=>by have p:m%(Array.replicate 256 (Value.bool false)).size<(Array.replicate 256 (Value.bool false)).size:=S7 _ ZS;rw [getElem!_pos (Array.replicate 256 (Value.bool false)) _ p];exact Array.getElem_replicate ..
 exact Q7 some (q _)
def wM(w A ia il ic na m nc)(hv:cm w A ia il na m)(hA:gL A):
 CL 116 #[.agg #[IV A.sets,SL ia il ic,SL na m nc]] w (vR w A):=by
 have⟨q,hq⟩:=EX w.heap.size
 have⟨B,ar⟩:=EX (w.alloc (CE #[IV A.sets,SL ia il ic,SL na m nc] 36))
 have am:BW w B:=ar▸ah _ _
 have aH:B.heap[q]? =some (.cells #[IV A.sets,SL ia il ic,SL na m nc] 36 (0,0)):=by rw [<-ar,<-hq];exact (Ph w _).1
 have aD:=O8 (dZ B A ia il ic na m nc (hv.ag am) hA)
 have ab:Hid (∀p,BW B p->p.cell? (AD q 0)=some (IV A.sets)/\p.cell? (AD q 1)=some (SL ia il ic)/\p.cell? (AD q 2)=some (SL na m nc)):=λp h=>by have X:=(h.block q (Pb.1 aH).1).trans aH;exact ⟨CH X,CH X,CH X⟩
 have HV:Hid (∀p,BW B p->cm p A ia il na m):=λp h=>hv.ag (af am h)
 have HA:=O8 hA
 have bc:=O8 am
 have Q:m<=256:=by rw [<-hv.bA];exact hA.many
 have F:Hid (A.ak.length=m):=hv.bA
 have bq:A.sets<=16:=hA.sets
 have⟨c0,c1,c2⟩:=ab.o B (Pn _ _)
 clear hv hA am aH
 go_enter func116,ntmps116
 go_wp2
 refine yt 0 (λ(U:Nat->Value)(v4:Value)=>({tmps:=#[.agg #[IV A.sets,SL ia il ic,SL na m nc],PT q,SN,IV m,v4,U 5,U 6,U 7,U 8,U 9,U 10,U 11,U 12,U 13,U 14,U 15,U 16,U 17,U 18,U 19,U 20,U 21,U 22,U 23,U 24,U 25,U 26,U 27,U 28,U 29,U 30,U 31,U 32,U 33,U 34,U 35,U 36,U 37,U 38,U 39,U 40,U 41,U 42,U 43,U 44,U 45,U 46,U 47,U 48,U 49,U 50,U 51,U 52,U 53,U 54,U 55,U 56,U 57,U 58,U 59,U 60,U 61,U 62,U 63,U 64,U 65,U 66,U 67,U 68,U 69,U 70,U 71,U 72,U 73,U 74,U 75,U 76,U 77,U 78,U 79,U 80,U 81,U 82,U 83,U 84,U 85,U 86,U 87,U 88,U 89,U 90,U 91,U 92,U 93,U 94,U 95,U 96,U 97,U 98,U 99,U 100,U 101,U 102,U 103,U 104,U 105,U 106,U 107,U 108,U 109,U 110,U 111,U 112,U 113,U 114,U 115,U 116],defers:=[]}:Act)) (λv4 wj=>∃(z:Nat)(r:Nat->Nat->Bool),v4=SV z m m/\Hid (BW B wj)/\Hid (B.heap.size<=z)/\Hid (gF wj z m r)/\Hid (qG A r)) (λv wj=>oP m v wj) (by rfl) (λ_ _=>rfl) (λ_ _ d _ _ h=>by cases d<;>exact h) (λU v4 wj hJ Q1 N HQ=>?pass) (λQ1 N HQ=>?first)
 case pass=>
  obtain ⟨z,r0,rfl,aN,ad,aE,aR⟩:=hJ;have aP:Hid (oP m (SV z m m) wj=mg m r0):=aE.o.oP Q;have aV:Hid (iE A (mg m r0) 0 0 r0):=⟨aR.o,.inr ⟨by rw [F.o],λa b h=>by rcases h with h|h<;>omega⟩⟩;rw [aP.o]at HQ;dsimp only;clear c0 c1 c2 aD ar hq;go_wp2;go_loopg [50] m (λg v wr=>∃(i:Nat)(r:Nat->Nat->Bool),i+g=m/\v=IV i/\Hid (BW B wr)/\Hid (gF wr z m r)/\Hid (iE A (mg m r0) i 0 r));exact ⟨0,r0,PU _,rfl,aN,aE,aV⟩;clear aN aE aR aV;obtain ⟨i,r,aI,rfl,n,o,L⟩:=hrel;cases gk with
  |zero=>
   obtain rfl:m=i:=ZO;have aa:¬((m:Int)<m):=ZO;have be:Hid (oP m (SV z m m) wr=mg m r):=o.o.oP Q;have aQ:Hid (qG A r):=L.o.1;have aW:Hid (∀U v p,((∃(z:Nat)(r:Nat->Nat->Bool),v=SV z m m/\Hid (BW B p)/\Hid (B.heap.size<=z)/\Hid (gF p z m r)/\Hid (qG A r))/\oP m v p<mg m r0)->(λa w=>Q1 (.goto 0) a w) ((λ(U:Nat->Value)(v4:Value)=>({tmps:=#[.agg #[IV A.sets,SL ia il ic,SL na m nc],PT q,SN,IV m,v4,U 5,U 6,U 7,U 8,U 9,U 10,U 11,U 12,U 13,U 14,U 15,U 16,U 17,U 18,U 19,U 20,U 21,U 22,U 23,U 24,U 25,U 26,U 27,U 28,U 29,U 30,U 31,U 32,U 33,U 34,U 35,U 36,U 37,U 38,U 39,U 40,U 41,U 42,U 43,U 44,U 45,U 46,U 47,U 48,U 49,U 50,U 51,U 52,U 53,U 54,U 55,U 56,U 57,U 58,U 59,U 60,U 61,U 62,U 63,U 64,U 65,U 66,U 67,U 68,U 69,U 70,U 71,U 72,U 73,U 74,U 75,U 76,U 77,U 78,U 79,U 80,U 81,U 82,U 83,U 84,U 85,U 86,U 87,U 88,U 89,U 90,U 91,U 92,U 93,U 94,U 95,U 96,U 97,U 98,U 99,U 100,U 101,U 102,U 103,U 104,U 105,U 106,U 107,U 108,U 109,U 110,U 111,U 112,U 113,U 114,U 115,U 116],defers:=[]}:Act)) U v) p):=λU v p h=>HQ.o.1 U v p h.1 h.2;have bl:Hid (∀a p,bodyPost prog Tryz.f116 (vR w A) .ret a p->Q1 .ret a p):=HQ.o.2;clear HQ;go_wp2;go_loopg [79] m (λg v wr=>∃i:Nat,i+g=m/\v=IV i/\Hid (BW B wr)/\Hid (gF wr z m r)/\Hid (∀a b,BE i 0 a b->a<m->b<m->r a b=true->cW A r a b=true));exact ⟨0,PU _,rfl,n,o,O8 (λa b h=>by rcases h with h|h<;>omega)⟩;clear n o;obtain ⟨i,aI,rfl,n,o,T⟩:=hrel;cases gk with
   |zero=>
    obtain rfl:m=i:=ZO;have HG:Hid (lj A λi k=>i<A.ak.length/\k<A.ak.length/\r i k=true):=aQ.o.NX HA.o (by rw [F.o];exact λa b ha Y hr=>T.o a b (.inl ha) ha Y hr);have⟨br,hi,hz,aq,an⟩:=P6 Tryz.Jj;clear aW T be aP;go_wp2;go_loopg [11,103] m (λg bt v wr=>∃(i:Nat)(a:OA)(l c:Nat)(Rs:List Value),i+g=m/\v=IV i/\bt=SL a l c/\Hid (BW B wr)/\Hid (gF wr z m r)/\Hid (oG z B wr (SL a l c) i m r Rs));exact ⟨0,none,0,0,[],PU _,rfl,rfl,n,o,oG.aM z B _ m r⟩;clear n o;obtain ⟨i,a,l,c,Rs,aI,rfl,rfl,n,o,ap⟩:=hrel;cases gk with
    |zero=>obtain rfl:m=i:=ZO;have aa:¬((m:Int)<m):=ZO;have bf:Hid (vR w A (RT (SL a l c)) wr):=⟨af bc.o n.o,_,r,rfl,ZR F.o ap.o.fin,HG.o⟩;clear ap;go_wp2;refine bl.o _ _ ?_;go_ret;exact bf.o
    |succ g=>
     have aa:(i:Int)<m:=ZO;have a3:0<m:=ZO;have P:dq wr (some (AD z (i*256))) m (r i):=⟨z,i*256,rfl,λk hk=>o.o.Ms i k ZO hk⟩;have bd:Hid (∀c,CL 155 #[SL (some (AD z (i*256))) m c] wr λe p=>∃g c',e=RT (SV g m c')/\m<=c'/\c'<=maxLen/\pJ wr p g m (r i)):=λc=>oX _ m c (r i) wr P a3 ZO;have bp:(m:Int)<=256:=ZO;have bb:¬((256:Int)<m):=ZO;have ae:=O8 ap.o;clear P ap;have a7:B.heap.size<=wr.heap.size:=n.o.size;have bk:Hid (∀J,BW wr J->Sl J 67 (SL a l c) i Rs):=λJ Y=>ae.o.o.ax (aj.aC Y) (λb e s=>ZH (ae.o.o.lt b e));have aT:Hid (∀(g1 c1:Nat)(J:WD),pJ wr J g1 m (r i)->∀(I c2:Nat)(w5:WD),Sl w5 67 (SV I (i+1) c2) (i+1) (Rs++[SV g1 m c1])->aj (λk=>(SL a l c).ownBlock=some k) J w5->((SL a l c).ownBlock=some I\/J.heap.size<=I)->
      oG z B w5 (SV I (i+1) c2) (i+1) m r (Rs++[SV g1 m c1])/\BW B w5/\gF w5 z m r):=λg1 c1 J hn I c2 w5 h1 X h3=>by
      refine ⟨ae.o.dT o.o.lt a7 hn a3 h1 X (λb e=>by rw [<-Qh e];exact h3),(af n.o hn.aJ).trans (X.ag (PG a7 hn.aJ.size) (λk hk e=>ZH ((ae.o.bG k e).1))),?_⟩
      have⟨cs,m1,m2⟩:=o.o.ag hn.aJ
      exact ⟨cs,(X.block z (Pb.1 m1).1 (λe=>(ae.o.bG z e).2 rfl)).trans m1,m2⟩
     go_wp2_with (first
      |(go_at_call 155;refine (bd.o _).mono ?_;rintro e J ⟨g1,c1,rfl,-,-,aJ⟩;have bi:=O8 aJ;have HO:=O8 (bk.o J aJ.aJ);clear aJ)
      |(at_builtin;refine av rfl (.tmp 106) (.tmp 113) 76 rfl 67 br (SN) 24 TR hi hz aq an rfl ZD _ _ _ rfl HO.o _ rfl rfl ZO ?_;intro I c2 w5 hs a1 a2;have HE:=O8 (aT.o g1 c1 J bi.o I c2 w5 hs a1 a2);clear hs a1 a2))
     go_roundg g;case measure=>omega
     case rel=>exact ⟨i+1,_,_,_,_,ZO,ZN,rfl,HE.o.2.1,HE.o.2.2,HE.o.1⟩
   |succ g=>
    have aa:(i:Int)<m:=ZO;go_upto_region 27 with(fail);go_wp2;go_loopg [83] m (λI v wr=>∃k:Nat,k+I=m/\v=IV k/\Hid (BW B wr)/\Hid (gF wr z m r)/\Hid (∀a b,BE i k a b->a<m->b<m->r a b=true->cW A r a b=true));exact ⟨0,PU _,rfl,n,o,T⟩;clear n o T;obtain ⟨k,a0,rfl,n,o,T⟩:=hrel;cases gk with
    |zero=>
     obtain rfl:m=k:=ZO;have ai:¬((m:Int)<m):=ZO;have ag:Hid (∀a b,BE (i+1) 0 a b->a<m->b<m->r a b=true->cW A r a b=true):=λa b h ha Y hr=>T.o a b (by
      obtain h|h:=h
      ·obtain X|X:=Re a i
       ·exact .inl X
       ·exact .inr ⟨ZO,Y⟩
      ·omega) ha Y hr
     go_wp2;go_roundg g;case measure=>omega
     case rel=>exact ⟨i+1,ZO,ZN,n,o,ag⟩
    |succ I=>
     have ai:(k:Int)<m:=ZO;have ax:(k:Int)<256:=ZO;have D:i<A.ak.length:=ZH F.o;have E:k<A.ak.length:=ZH F.o;have⟨e0,e1,e2⟩:=ab.o wr n.o;have Z:=o.o.Ms i k ZO ZO;have HF:Hid (CL 154 #[.agg #[IV A.sets,SL ia il ic,SL na m nc],SV z m m,IV i,IV k] wr λe p=>e=RT (.bool (cW A r i k))/\BW wr p):=rQ wr A ia il ic na m nc z m r i k (HV.o wr n.o) HA.o o.o.Ms D E;have al:Hid ((r i k=true->cW A r i k=true)->∀a b,BE i (k+1) a b->a<m->b<m->r a b=true->cW A r a b=true):=λhf a b h ha Y hr=>by
      by_cases e:a=i/\b=k
      ·obtain ⟨rfl,rfl⟩:=e;exact hf hr
      ·exact T.o a b (by rcases h with h|h;exact .inl h;exact .inr ⟨h.1,ZO⟩) ha Y hr
     cases u:r i k
     ·rw [u]at Z;have HN:=O8 (al.o (λh=>by rw [u]at h;cases h))
      clear u D E;go_wp2;go_roundg I;case measure=>omega
      case rel=>exact ⟨k+1,ZO,ZN,n,o,HN⟩
     ·rw [u]at Z;cases H:cW A r i k
      ·rw [H]at HF;have bg:Hid (mg m r<mg m r0):=by have h:=L.o;rw [<-F.o]at h⊢;exact h.jump D E u H
       clear u H D E;go_wp2_with (go_at_call 154;apply HF.o.mono;rintro e J ⟨rfl,C⟩;have M:=O8 C;clear C);(try go_step3);refine zA (R:=λv p=>(∃(z:Nat)(r:Nat->Nat->Bool),v=SV z m m/\Hid (BW B p)/\Hid (B.heap.size<=z)/\Hid (gF p z m r)/\Hid (qG A r))/\oP m v p<mg m r0) (G:=λa w=>Q1 (.goto 0) a w) aW.o _ _ ?_ ?_
       ·rfl
       ·have O:=o.o.ag M.o;exact ⟨⟨z,r,rfl,af n.o M.o,ad,O,aQ⟩,by have:=O.oP Q;exact this▸bg.o⟩
      ·rw [H]at HF;have HN:=O8 (al.o (λ_=>H))
       clear u H D E;go_wp2_with (go_at_call 154;apply HF.o.mono;rintro e J ⟨rfl,C⟩;have M:=O8 C;clear C);go_roundg I;case measure=>omega
       case rel=>exact ⟨k+1,ZO,ZN,af n.o M.o,o.o.ag M.o,HN⟩
  |succ g=>
   have aa:(i:Int)<m:=ZO;go_upto_region 17 with(fail);go_wp2;go_loopg [54] m (λI v wr=>∃k:Nat,k+I=m/\v=IV k/\Hid (BW B wr)/\Hid (gF wr z m r)/\Hid (iE A (mg m r0) i k r));exact ⟨0,PU _,rfl,n,o,L⟩;clear n o L;obtain ⟨k,a0,rfl,n,o,L⟩:=hrel;cases gk with
   |zero=>
    obtain rfl:m=k:=ZO;have ai:¬((m:Int)<m):=ZO;have P:iE A (mg m r0) (i+1) 0 r:=by have h:=L.o;rw [<-F.o]at h;have X:=h.row;rw [F.o]at X;exact X
    have ag:=O8 P;clear P;go_wp2;go_roundg g;case measure=>omega
    case rel=>exact ⟨i+1,r,ZO,ZN,n,o,ag⟩
   |succ I=>
    have ai:(k:Int)<m:=ZO;have ax:(k:Int)<256:=ZO;have D:i<A.ak.length:=ZH F.o;have E:k<A.ak.length:=ZH F.o;have⟨e0,e1,e2⟩:=ab.o wr n.o;have Z:=o.o.Ms i k ZO ZO;have bo:=o.o.frozen (i*256+k);have HF:Hid (CL 154 #[.agg #[IV A.sets,SL ia il ic,SL na m nc],SV z m m,IV i,IV k] wr λe p=>e=RT (.bool (cW A r i k))/\BW wr p):=rQ wr A ia il ic na m nc z m r i k (HV.o wr n.o) HA.o o.o.Ms D E;cases u:r i k
    ·rw [u]at Z;have HN:Hid (iE A (mg m r0) i (k+1) r):=L.o.next (λh=>by rw [u]at h;cases h)
     clear u D E;go_wp2;go_roundg I;case measure=>omega
     case rel=>exact ⟨k+1,ZO,ZN,n,o,HN⟩
    ·rw [u]at Z;cases H:cW A r i k
     ·rw [H]at HF;have HN:Hid (iE A (mg m r0) (i+1) 0 (rE r i k false)):=L.o.cut (ZR F.o Q) D E u H (i+1) 0
      have bm:Hid (∀p,BW wr p->p.cell? (AD z (i*256+k))=some (.bool true)/\p.frozen? (AD z (i*256+k))=false/\BW B (p.setCell (AD z (i*256+k)) (.bool false))/\gF (p.setCell (AD z (i*256+k)) (.bool false)) z m (rE r i k false)):=λp Y=>
       have hm:=o.o.ag Y
       ⟨by rw [hm.Ms i k ZO ZO,u],hm.frozen _,hm.xX ad.o (af n.o Y) _ _,hm.set Q ZO ZO false⟩
      clear u H D E;go_wp2_with (go_at_call 154;apply HF.o.mono;rintro e J ⟨rfl,C⟩;have⟨bu,bv,au,ay⟩:=bm.o J C;have aC:=O8 au;have bh:=O8 ay;clear C au ay);go_roundg g;case measure=>omega
      case rel=>exact ⟨i+1,_,ZO,ZN,aC,bh,HN⟩
     ·rw [H]at HF;have HN:Hid (iE A (mg m r0) i (k+1) r):=L.o.next (λ_=>H)
      clear u H D E;go_wp2_with (go_at_call 154;apply HF.o.mono;rintro e J ⟨rfl,C⟩;have M:=O8 C;clear C);go_roundg I;case measure=>omega
      case rel=>exact ⟨k+1,ZO,ZN,af n.o M.o,o.o.ag M.o,HN⟩
 case first=>
  go_upto_region 3 with(go_at_call 23;apply aD.o.mono;rintro e w2 ⟨rfl,aX⟩;have aB:=O8 aX;clear aX);clear ar hq c0 c1 c2 aD;have⟨d0,d1,d2⟩:=ab.o w2 aB.o;have⟨ba,hi,hz,aq,an⟩:=P6 Tryz.Lk;go_upto_region 5 with(at_make;refine wpList_make_full _ rfl _ _ 209 rfl 0 212 ba (.agg (Array.replicate 256 (.bool false))) 256 Tryz.underlying209 hi hz aq .i64 .i64 m m m rfl rfl rfl rfl (by rw [an];omega) (by unfold maxLen;omega) (Pz _) ?_;intro w3 aA aZ;have ac:=O8 aA;have W:=O8 aZ;clear aA aZ);have⟨z,ao⟩:=EX w2.heap.size;rw [ao]at ac;rw [ao];have aM:Hid (BW B w3):=af aB.o ⟨W.o.os,W.o.tape,W.o.output,W.o.size,λk hk=>W.o.block k hk (λe=>ZC e)⟩;have ad:Hid (B.heap.size<=z):=by rw [<-ao];exact aB.o.size
  have aU:Hid (gF w3 z m (gV A 0 0)):=(GU Q ac.o).ext (λa b _ _=>CI A a b);clear ac W hi hz aq an d0 d1 d2 ao;go_wp2;go_loopg [22] m (λg v wr=>∃i:Nat,i+g=m/\v=IV i/\Hid (BW B wr)/\Hid (gF wr z m (gV A i 0)));exact ⟨0,PU _,rfl,aM,aU⟩;clear aU aM;obtain ⟨i,aI,rfl,n,o⟩:=hrel;cases gk with
  |zero=>
   obtain rfl:m=i:=ZO;have aa:¬((m:Int)<m):=ZO;go_wp2;go_step3;apply_assumption;refine zA HQ.o _ _ ?_ ?_
   ·rfl
   exact ⟨z,_,rfl,n,ad,O8 (o.o.ext (r':=λa b=>iK (A.ay a) (A.ay b) A.sets) (λa b ha _=>(Eg A ha).symm)),qG.aM HA.o⟩
  |succ g=>
   have aa:(i:Int)<m:=ZO;go_upto_region 8 with(fail);go_wp2;go_loopg [26] m (λI v wr=>∃k:Nat,k+I=m/\v=IV k/\Hid (BW B wr)/\Hid (gF wr z m (gV A i k)));exact ⟨0,PU _,rfl,n,o⟩;clear n o;obtain ⟨k,a0,rfl,n,o⟩:=hrel;cases gk with
   |zero=>
    obtain rfl:k=m:=ZO;have ai:¬((k:Int)<k):=ZO;go_wp2;go_roundg g;case measure=>omega
    case rel=>exact ⟨i+1,ZO,ZN,n,O8 (o.o.ext (λa b _ Y=>Eh A i a b Y))⟩
   |succ I=>
    have ai:(k:Int)<m:=ZO;have D:i<A.ak.length:=ZH F.o;have E:k<A.ak.length:=ZH F.o;obtain ⟨b0,o0,x,a4,hx,a5,-,ta,tl,tc,x0,x1,x2,x3,-⟩:=(HV.o wr n.o).nd D;obtain ⟨bn,bs,y,ak,hy,a6,-,ua,ul,uc,y0,y1,y2,y3,-⟩:=(HV.o wr n.o).nd E;rw [a4]at ak;obtain ⟨rfl,rfl⟩:b0=bn/\o0=bs:=by have:=Qh ak;cases this;exact ⟨rfl,rfl⟩
    subst a4;obtain ⟨e0,-,e2⟩:=ab.o wr n.o;have a8:=HA.o.yQ (Pm hx);have a9:=HA.o.yQ (Pm hy);have HC:Hid (CL 153 #[.agg #[UV x.need,UV x.ban,UV x.inn,SL ta tl tc],.agg #[UV y.need,UV y.ban,UV y.inn,SL ua ul uc],IV A.sets] wr.drew λe p=>e=RT (.bool (iK x y A.sets))/\Below wr.drew.heap.size wr.drew p):=FX wr.drew x y A.sets ta tl tc ua ul uc bq a8 a9;have al:=O8 a5;have bj:=O8 a6;have ax:(k:Int)<256:=ZO;have hS:=And.intro e0 (And.intro e2 (And.intro x0 (And.intro x1 (And.intro x2 (And.intro x3 (And.intro y0 (And.intro y1 (And.intro y2 y3))))))));clear ak hx hy a5 a6 a8 a9 D E;go_upto_region 11 with(fail);refine aw 18 (S:=λp=>p.cell? (AD q 0)=some (IV A.sets)/\p.cell? (AD q 2)=some (SL (some (AD b0 o0)) m nc)/\p.cell? (AD b0 (o0+i*4))=some (UV x.need)/\p.cell? (AD b0 (o0+i*4+1))=some (UV x.ban)/\p.cell? (AD b0 (o0+i*4+2))=some (UV x.inn)/\p.cell? (AD b0 (o0+i*4+3))=some (SL ta tl tc)/\p.cell? (AD b0 (o0+k*4))=some (UV y.need)/\p.cell? (AD b0 (o0+k*4+1))=some (UV y.ban)/\p.cell? (AD b0 (o0+k*4+2))=some (UV y.inn)/\p.cell? (AD b0 (o0+k*4+3))=some (SL ua ul uc)) ZK (hS) (λaF=>?_);refine' cJ (i:=0) [0] (v:=_) rfl ZK (λ_ _ _ h=>N _ _ _ _ _ h) (Or.inl ⟨by rfl,?hy0⟩) (by assumption) ?rest0;case hy0=>(intro p t;(try dsimp only at t);go_simp;(try with_reducible rfl))
    try walk_nrm
    refine' cJ (i:=1) [1] (v:=_) rfl ZK (λ_ _ _ h=>N _ _ _ _ _ h) (Or.inl ⟨by rfl,?hy1⟩) (by assumption) ?rest1;case hy1=>(intro p t;(try dsimp only at t);go_simp;(try with_reducible rfl))
    try walk_nrm
    refine' cJ (i:=2) [2] (v:=_) rfl ZK (λ_ _ _ h=>N _ _ _ _ _ h) (Or.inl ⟨by rfl,?hy2⟩) (by assumption) ?rest2;case hy2=>(intro p t;(try dsimp only at t);go_simp;(try with_reducible rfl))
    try walk_nrm
    refine' cJ (i:=3) [3] (v:=_) rfl ZK (λ_ _ _ h=>N _ _ _ _ _ h) (Or.inl ⟨by rfl,?hy3⟩) (by assumption) ?rest3;case hy3=>(intro p t;(try dsimp only at t);go_simp;(try with_reducible rfl))
    try walk_nrm
    refine' cJ (i:=4) [4] (v:=_) rfl ZK (λ_ _ _ h=>N _ _ _ _ _ h) (Or.inl ⟨by rfl,?hy4⟩) (by assumption) ?rest4;case hy4=>(intro p t;(try dsimp only at t);go_simp;(try with_reducible rfl))
    try walk_nrm
    refine' cJ (i:=5) [5] (v:=_) rfl ZK (λ_ _ _ h=>N _ _ _ _ _ h) (Or.inl ⟨by rfl,?hy5⟩) (by assumption) ?rest5;case hy5=>(intro p t;(try dsimp only at t);go_simp;(try with_reducible rfl))
    try walk_nrm
    refine' cJ (i:=6) [6] (v:=_) rfl ZK (λ_ _ _ h=>N _ _ _ _ _ h) (Or.inl ⟨by rfl,?hy6⟩) (by assumption) ?rest6;case hy6=>(intro p t;(try dsimp only at t);go_simp;(try with_reducible rfl))
    try walk_nrm
    refine' cJ (i:=7) [7] (v:=_) rfl ZK (λ_ _ _ h=>N _ _ _ _ _ h) (Or.inl ⟨by rfl,?hy7⟩) (by assumption) ?rest7;case hy7=>(intro p t;(try dsimp only at t);go_simp;(try with_reducible rfl))
    try walk_nrm
    refine' cJ (i:=8) [8] (v:=_) rfl ZK (λ_ _ _ h=>N _ _ _ _ _ h) (Or.inl ⟨by rfl,?hy8⟩) (by assumption) ?rest8;case hy8=>(intro p t;(try dsimp only at t);go_simp;(try with_reducible rfl))
    try walk_nrm
    refine' cJ (i:=9) [9] (v:=_) rfl ZK (λ_ _ _ h=>N _ _ _ _ _ h) (Or.inl ⟨by rfl,?hy9⟩) (by assumption) ?rest9;case hy9=>(intro p t;(try dsimp only at t);go_simp;(try with_reducible rfl))
    try walk_nrm
    refine' cJ (i:=10) [10] (v:=_) rfl ZK (λ_ _ _ h=>N _ _ _ _ _ h) (Or.inl ⟨by rfl,?hy10⟩) (by assumption) ?rest10;case hy10=>(intro p t;(try dsimp only at t);go_simp;(try with_reducible rfl))
    try walk_nrm
    refine' cJ (i:=11) [11] (v:=_) rfl ZK (λ_ _ _ h=>N _ _ _ _ _ h) (Or.inl ⟨by rfl,?hy11⟩) (by assumption) ?rest11;case hy11=>(intro p t;(try dsimp only at t);go_simp;(try with_reducible rfl))
    try walk_nrm
    refine' cJ (i:=12) [12] (v:=_) rfl ZK (λ_ _ _ h=>N _ _ _ _ _ h) (Or.inl ⟨by rfl,?hy12⟩) (by assumption) ?rest12;case hy12=>(intro p t;(try dsimp only at t);go_simp;(try with_reducible rfl))
    try walk_nrm
    refine' cJ (i:=13) [13] (v:=_) rfl ZK (λ_ _ _ h=>N _ _ _ _ _ h) (Or.inl ⟨by rfl,?hy13⟩) (by assumption) ?rest13;case hy13=>(intro p t;(try dsimp only at t);go_simp;(try with_reducible rfl))
    try walk_nrm
    refine' cJ (i:=14) [14] (v:=_) rfl ZK (λ_ _ _ h=>N _ _ _ _ _ h) (Or.inl ⟨by rfl,?hy14⟩) (by assumption) ?rest14;case hy14=>(intro p t;(try dsimp only at t);go_simp;(try with_reducible rfl))
    try walk_nrm
    refine' aS (i:=16) (v:=_) rfl ZK (λ_ _ _ h=>N _ _ _ _ _ h) (Or.inl ⟨by rfl,?hy16⟩) (by assumption) ?rest16;case hy16=>(intro p t;go_simp;(try with_reducible rfl))
    try walk_nrm
    clear aF e0 e2 x0 x1 x2 x3 y0 y1 y2 y3;refine aK 15 λK hK=>?_;rw [PW (by rfl)];apply aY.o;refine aO (f:=153) HC.o ?_ (λe J aL=>?_)
    ·clear hK;go_simp
    obtain ⟨rfl,C⟩:=aL;refine ⟨_,rfl,?_⟩;have V:BW wr J:=(Pn _ wr).drew.trans C;have kc:∀{g j:Nat}{v:Value},wr.cell? (AD g j)=some v->J.cell? (AD g j)=some v:=λh=>(V.cell (O9 wr _ h)).trans h;have aG:=And.intro (kc hS.1) (And.intro (kc hS.2.1) (And.intro (kc hS.2.2.1) (And.intro (kc hS.2.2.2.1) (And.intro (kc hS.2.2.2.2.1) (And.intro (kc hS.2.2.2.2.2.1) (And.intro (kc hS.2.2.2.2.2.2.1) (And.intro (kc hS.2.2.2.2.2.2.2.1) (And.intro (kc hS.2.2.2.2.2.2.2.2.1) (kc hS.2.2.2.2.2.2.2.2.2)))))))));refine hK.o _ _ (λ_=>aG) ?_;clear hK K;try walk_nrm
    have O:=o.o.ag V;have Z:=O.Ms i k ZO ZO;have bo:=O.frozen (i*256+k);have HN:Hid (gF (J.setCell (AD z (i*256+k)) (.bool (iK x y A.sets))) z m (gV A i (k+1))):=(O.set Q (i:=i) (k:=k) ZO ZO _).ext (λa b _ _=>by rw [CG,al.o,bj.o]);have aC:Hid (BW B (J.setCell (AD z (i*256+k)) (.bool (iK x y A.sets)))):=O.xX ad.o (af n.o V) _ _;clear hS O C V kc;refine aK 17 λK hK=>?_;go_simp;refine hK.o _ _ (λ_=>aG) ?_;clear hK K;try walk_nrm
    clear aG;refine aK 18 λK hK=>?_;go_simp;refine hK.q ?_;clear hK K;refine az ZK ?_;go_wp2;go_roundg I;case measure=>omega
    case rel=>exact ⟨k+1,ZO,ZN,aC,HN⟩
end Go.Proofs.YtimniinkpipnmaaGreatDoor
