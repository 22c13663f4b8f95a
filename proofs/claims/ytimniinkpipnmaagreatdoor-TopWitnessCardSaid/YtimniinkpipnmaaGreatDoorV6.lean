/- A part of the proof of TopWitness. -/
import Derived.Test.YtimniinkpipnmaaGreatDoorV5
import Derived.Deep.DeepCutAuto
set_option maxRecDepth 100000
set_option maxHeartbeats 8000000
set_option linter.all false
namespace Go.Proofs.YtimniinkpipnmaaGreatDoor
open Go.RowKit Go.Own Go.Proofs.Tryz
section
open Go.Maps
def yz(P:Program)(k:TypeId)(w:WD)(b r n:Nat)(f:Value->Option Value)(left:Lit->Bool)(cnt:Nat):Prop:=
 ∃D:DataW Value,w.ranges P k qk b r n D left cnt/\∀a c,keyOf P k a=some c->Maps.has D c=(f a).isSome/\∀v,f a=some v->∀z,D.atKey c z=.held v
section
variable {P:Program} {k:TypeId} {w w':WD} {b r n cnt:Nat} {f:Value->Option Value} {left:Lit->Bool}
def yz.map(h:yz P k w b r n f left cnt):cK P k w b n f:=by obtain ⟨D,a,c⟩:=h;exact ⟨D,a.owns,c⟩
def cK.range{t e}(h:cK P k w b n f)(K:Keyed P k)(p:P.underlying t=some (.map k e)):
 ∃w' left cnt,(Instr.range t (.map (some b))).run P w=.ok (PT w.heap.size) w'/\yz P k w' b w.heap.size n f left cnt/\BW w w'/\(∀a d,keyOf P k a=some d->left d=(f a).isSome)/\w'.heap.size=w.heap.size+1:=by
 obtain ⟨D,l,j⟩:=h
 have⟨w',m,i,c,o⟩:=l.range K p
 exact ⟨w',_,_,m,⟨D,i,j⟩,⟨c.os,c.tape,c.output,c.size,λk g=>c.block k g (λe=>ZC e)⟩,λa d g=>(j a d g).1,o⟩
def yz.next(h:yz P k w b r n f left cnt)(K:Keyed P k)(A):
 (cnt=0/\(∀g,left g=false)/\(Instr.next (PT r) false A).run P w=.ok (.tuple #[.bool false]) w)\/
 ∃a v g w' d,keyOf P k a=some g/\left g=true/\f a=some v/\(Instr.next (PT r) false A).run P w=.ok (.tuple #[.bool true,a,v]) w'/\
  yz P k w' b r n f (λx=>left x&&!x.sameKey g) d/\d<cnt/\aj (λk=>k=r) w w'/\(Instr.entry (PT r)).run P w'=.ok (.tuple #[a,v]) w':=by
 obtain ⟨D,z,B⟩:=h
 obtain ⟨G,s,c⟩|⟨a,v,g,y,L,F,o,s,I,i,c,m,t,l,M,q⟩:=z.next K A
 exact .inl ⟨G,s,c⟩
 refine .inr ⟨a,v,g,L,F,o,s,?_,c,⟨D,m,B⟩,t,⟨l.os,l.tape,l.output,l.size,λk o u=>l.block k o (λe=>u (by cases e;rfl))⟩,q⟩
 have J:y.1=.held v:=by have:qk v=some (y.1,y.2):=I;exact Ba this
 have⟨C,H⟩:=B a g o
 cases E:f a with
 |none=>
  exfalso
  rw [E]at C
  have j:=i (.held (.bool true))
  have p:=i (.held (.bool false))
  rw [atKey_of_not_has C]at j p
  rw [<-j]at p
  cases p
 |some x=>
  have j:=i (.held v)
  rw [H x E]at j
  rw [J]at j
  cases j;rfl
def yz.ax{S:Nat->Prop}(h:yz P k w b r n f left cnt)(a:BW w w'):yz P k w' b r n f left cnt:=by obtain ⟨D,c,d⟩:=h;exact ⟨D,c.kept (row:=none) ⟨a.os,a.tape,a.output,a.size,λi e _=>a.block i e⟩ ZS ZS,d⟩
end
end
section
open Go.Maps
def U1:=@List.nil_sublist
def kC(l:List Nat)(u:Nat):Nat:=l.findIdx (λx=>x==u)
def Lg{l k u}(a:l[k]? =some u)(d:u∉l.take k):kC l u=k:=by have c:=(Po.1 a).1;have b:=(Po.1 a).2;unfold kC;rw [List.findIdx_eq c];refine ⟨ZR b (RP u),λj f=>?_⟩;refine Pq.2 λe=>d ?_;rw [<-e];exact Up.2 ⟨j,by rw [QI];omega,by rw [List.getElem_take]⟩
structure pI (w:WD) (a k:Nat) (l:List Nat) (n:Nat) (f:Value->Option Value):Prop where
 map:cK prog 3 w a k f
 yes:∀u:Nat,u∈l.take k->f (IV u)=some (IV (kC l u:Int))
 no:∀u:Nat,u∉l.take k->f (IV u)=none
 key:∀x v,f x=some v->∃u:Nat,x=IV u
def pI.aM(w:WD)(l n):pI (w.alloc (.map #[] 0)) w.heap.size 0 l n (λ_=>none):=
 ⟨cK.aM prog 3 w,λu a=>(ZC a),λ_ _=>rfl,λx v h=>(ZC h)⟩
def gP{l:List Nat}{k u x}(a:l[k]? =some u):x∈l.take (k+1)↔x∈l.take k\/x=u:=by rw [Qf,a,PC];simp
def pI.same{w c k n u l f}(h:pI w c k l n f)(b:l[k]? =some u)(g:u∈l.take k):pI w c (k+1) l n f:=
 ⟨h.map.mono (Nat.le_succ k),λx a=>h.yes x (((gP b).1 a).elim id (λe=>e▸g)),λx a=>h.no x (λd=>a ((gP b).2 (.inl d))),h.key⟩
def pI.put{w i d k n u l f}(h:pI w d k l n f)(a:l[k]? =some u)(o:u∉l.take k)(j:cK prog 3 i d (k+1) (rD f (IV u) (some (IV k)))):pI i d (k+1) l n (rD f (IV u) (some (IV k))):=by refine ⟨j,λx b=>?_,λx b=>?_,λx v g=>?_⟩;by_cases e:x=u;subst e;rw [ft,Lg a o];rw [cV _ _ _ _ (λc=>e (ZH ((RJ c).2)))];exact h.yes x (((gP a).1 b).resolve_right e);have e:x≠u:=λe=>b ((gP a).2 (.inr e));rw [cV _ _ _ _ (λc=>e (ZH ((RJ c).2)))];exact h.no x (λm=>b ((gP a).2 (.inl m)));by_cases e:x=IV u;exact ⟨u,e⟩;rw [cV _ _ _ _ e]at g;exact h.key x v g
def pI.ag{w b a k n l f}(h:pI w a k l n f)(c:BW w b):pI b a k l n f:=⟨h.map.ag c,h.yes,h.no,h.key⟩
def yY(w:WD)(l:List Nat)(r:Nat->Nat->Bool)(e:Ending)(d:WD):Prop:=
 ∃a m c b,e=RT (SL a m c)/\aF .i64 3 w d (SL a m c) (aE b)/\b.Sublist l/\∀v∈l,(∀x∈l,je r (kC l) v x=false)->v∈b
def Jf{l u}(h:u∈l):l[kC l u]? =some u:=by have a:kC l u<l.length:=List.findIdx_lt_length_of_exists ⟨u,h,RP u⟩;rw [Pe a];have:=List.findIdx_getElem (xs:=l) (p:=λx=>x==u) (w:=a);exact Q7 some (eq_of_beq this)
def xt(w la E lc l rv n r)(hl:aG .i64 w la E (aE l))(bG:E<=16777216)(z:∀q∈l,q<n)(hr:gM w rv n r)(hn:n<=256):
 Calls prog 117 #[SL la E lc,rv] w (yY w l r):=by
 obtain ⟨ma,mc,rfl,aw⟩:=hr
 obtain ⟨w0,aP⟩:∃w0,w.alloc (.map #[] 0)=w0:=⟨_,rfl⟩
 have aY:Below w.heap.size w w0:=aP▸ah _ _
 obtain ⟨mb,aH⟩:∃mb,w.heap.size=mb:=⟨_,rfl⟩
 have bt:=@TU prog
 have N:Hid (l.length=E):=by have:=hl.1;rwa [aD]at this
 have aB:Hid (pI w0 mb 0 l n (λ_=>none)):=by rw [<-aP,<-aH];exact pI.aM w l n
 have HL:=O8 hl
 have ab:=O8 z
 have HM:Hid (n=0\/∃b o,ma=some ⟨b,o,none⟩/\∀i,i<n->∃ra rl rc,w.cell? ⟨b,o+i,none⟩=some (SL ra n rc)/\rl=n/\dq w ra n (r i)):=aw
 have aA:=O8 aY
 have bk:=O8 aH
 have bD:mb<w0.heap.size:=aB.o.map.lt
 have⟨i3,bq,bv,bu,ac⟩:=P6 Tryz.eA
 clear hl z aw aY
 go_enter func117,ntmps117
 go_upto_region 2 with(fail)
 clear bt aP aH
 go_wp2
 go_loopw [19] (λv wr=>∃(k:Nat)(f:Value->Option Value),k<=E/\v=.int .i64 k/\Hid (aj (λk=>k=mb) w0 wr)/\Hid (pI wr mb k l n f)) (λv _=>E-(intOf v).toNat)
 exact ⟨0,_,Pz _,rfl,O8 (aj.refl _ _),aB⟩
 clear aB
 obtain ⟨k,f,hk,rfl,ag,y⟩:=hrel
 have M:Hid (Below w.heap.size w wr):=aA.o.trans (ag.o.ag aA.o.size (λj hj e=>ZH bk.o))
 by_cases z:k<E
 ·have a7:(k:Int)<E:=ZO;obtain ⟨u,D⟩:∃u,l[k]? =some u:=⟨_,Pe (ZR N.o z)⟩
  obtain ⟨-,h0|⟨lb,lo,rfl,hc⟩⟩:=HL.o.ag M.o
  ·omega
  have ck:wr.cell? ⟨lb,lo+k,none⟩=some (.int .i64 (u:Int)):=by have:=hc k z;rw [cG (ZR N.o z),Pd,D]at this;exact this
  have aO:=ab.o u (Pm D);have ai:=iL (n:=u) ZO;have s:=y.o.map.look_ok mq RK (oS wr) ai;by_cases hm:u∈l.take k
  ·rw [y.o.yes u hm]at s;simp only [QC,UL]at s
   have F:=O8 (y.o.same D hm);clear hc D ai hm y M;go_wp2;go_roundw;exact ⟨k+1,f,ZO,ZN,ag,F⟩;simp [intOf];omega
  ·rw [y.o.no u hm]at s;simp only [Ts,UK]at s
   have⟨w3,bE,a8,a3⟩:=y.o.map.put mq RK (by unfold maxLen;omega) ai (.int .i64 (k:Int));have F:=O8 (y.o.put D hm a8);have HK:Hid (aj (λk=>k=mb) w0 w3):=ag.o.then a3 (λ_ _ e=>e);clear hc D ai hm y M a8 a3;go_wp2;go_roundw;exact ⟨k+1,_,ZO,ZN,HK,F⟩;simp [intOf];omega
 ·obtain rfl:E=k:=ZO;have a7:¬((E:Int)<E):=ZO
  have Z:Hid (∀u:Nat,(u∈l->f (.int .i64 (u:Int))=some (.int .i64 (kC l u:Int)))/\(u∉l->f (.int .i64 (u:Int))=none)):=λu=>by have e:l.take E=l:=PI (by rw [N.o];exact Pf _);have X:=y.o.yes u;have L:=y.o.no u;rw [e]at X L;exact ⟨X,L⟩
  have bh:=O8 y.o.key;have bi:=O8 y.o.map;clear y;obtain ⟨w2,rfl⟩:∃w2,w2=wr:=⟨_,rfl⟩;have aR:Hid (∀w',Below w2.heap.size w2 w'->∀t u,t<n->u<n->∃mo ao ap ro rc,ma=some ⟨ao,mo,none⟩/\w'.cell? ⟨ao,mo+t,none⟩=some (SL (some ⟨ap,ro,none⟩) n rc)/\w'.cell? ⟨ap,ro+u,none⟩=some (.bool (r t u))):=λw' hb t u ht D=>by
   have aZ:=af M.o hb;obtain h0|⟨b,o,e,hc⟩:=HM.o
   ·omega
   ·obtain ⟨ra,rl,rc,X,-,⟨ap,ro,e2,L⟩⟩:=hc t ht;subst e2
    exact ⟨o,b,ap,ro,rc,e,(aZ.cell (O9 w _ X)).trans X,(aZ.cell (O9 w _ (L u D))).trans (L u D)⟩
  clear ag HM aA;go_wp2;go_loopw [10,38] (λbB v wr=>∃(k:Nat)(a:Option Addr)(m c:Nat)(A:List Nat),k<=E/\v=.int .i64 k/\bB=SL a m c/\Hid (aF .i64 3 w2 wr (SL a m c) (aE A))/\Hid (A.length<=k/\A.Sublist (l.take k)/\∀i t,i<k->l[i]? =some t->kC l t=i->(∀x∈l,je r (kC l) t x=false)->t∈A)) (λ_ v _=>E-(intOf v).toNat);exact ⟨0,none,0,0,[],Pz _,rfl,rfl,O8 (lJ _ _ _),O8 ⟨Pf _,U1 _,λi t hi=>ZO⟩⟩;obtain ⟨k,a,m,c,A,hk,rfl,rfl,P,ae⟩:=hrel;by_cases z:k<E
  ·have bs:(k:Int)<E:=ZO;obtain ⟨t,ht⟩:∃t,l[k]? =some t:=⟨_,Pe (ZR N.o z)⟩
   have bc:=Pm ht;have Y:Hid (Below w2.heap.size w2 wr):=P.o.2.1;obtain ⟨-,h0|⟨lb,lo,rfl,hc⟩⟩:=HL.o.ag (af M.o Y.o)
   ·omega
   have ck:wr.cell? ⟨lb,lo+k,none⟩=some (.int .i64 (t:Int)):=by have:=hc k z;rw [cG (ZR N.o z),Pd,ht]at this;exact this
   have bd:=ab.o t bc;have aJ:=bi.o.ag Y.o;have s:=aJ.look mq RK (oS wr) (iL (n:=t) ZO);rw [(Z.o t).1 bc]at s;simp only [QC]at s;obtain ⟨d,hd⟩:∃d,kC l t=d:=⟨_,rfl⟩;rw [hd]at s;have HD:=O8 hd;have⟨w3,W,aU,az,ax,ac,U,bb⟩:=cK.range aJ mq RK;obtain ⟨B0,bo⟩:∃B0,((d:Int)==(k:Int))=B0:=⟨_,rfl⟩;have aq:Hid (B0=true↔d=k):=by show B0=true↔d=k;rw [<-bo,Ud];omega
   have HT:=O8 ht;have R:=O8 ax;have ar:=O8 ac;have aQ:Hid (∀u∈l,W (.int .i64 (u:Int))=true):=λu D=>by rw [U _ _ (iL (n:=u) (ZH (ab.o u D))),(Z.o u).1 D];rfl
   have aS:=O8 P.o;have aa:=O8 ae.o;have a9:=P.o;clear hc ht aJ hd ax ac U bb P ae a9;go_upto_region 14 with(fail);obtain ⟨rg,aL⟩:∃rg,wr.heap.size=rg:=⟨_,rfl⟩;rw [aL]at az R;have bn:=O8 aL;clear aL;go_wp2;obtain ⟨wo,rfl⟩:∃wo,wo=wr:=⟨_,rfl⟩;go_loopg [13] aU (λg v wx=>∃(left:Lit->Bool)(B:Bool),v=.bool B/\Hid (Below wo.heap.size wo wx)/\Hid (yz prog 3 wx mb rg E f left g)/\Hid (B=true↔d=k/\∀u∈l,left (.int .i64 (u:Int))=false->je r (kC l) t u=false));exact ⟨W,B0,rfl,ar,R,O8 ⟨λh=>⟨aq.o.1 h,λu D L=>by rw [aQ.o u D]at L;cases L⟩,λh=>aq.o.2 h.1⟩⟩;clear az R ar aQ s;obtain ⟨left,B,rfl,aC,aI,K⟩:=hrel;obtain ⟨bp,U,aK⟩|⟨bw,v,kl,w4,H,a5,ak,O,aK,ay,I,a4,bC⟩:=aI.o.next mq 0
   ·have bf:Hid (B=true↔d=k/\∀u∈l,je r (kC l) t u=false):=⟨λh=>⟨(K.o.1 h).1,λu D=>(K.o.1 h).2 u D (U _)⟩,λh=>K.o.2 ⟨h.1,λu D _=>h.2 u D⟩⟩;have V:=iu aS.o aC.o
    have am:(aE A).length=m:=gy aS.o;have aT:=O8 V;have bl:=O8 am;have a2:A.length=m:=by rw [<-aD];exact am
    have a1:A.length<=k:=aa.o.1;have HO:Hid (Sl wr 3 (SL a m c) m ((aE A).map (Value.int .i64))):=by have h:=V.1;rw [am]at h;exact h
    have S:Hid (∀C:List Nat,C.length<=k+1->(C=A\/C=A++[t])->(∀j∈A,j∈C)->(B=true->t∈C)->C.length<=k+1/\C.Sublist (l.take (k+1))/\∀i t',i<k+1->l[i]? =some t'->kC l t'=i->(∀x∈l,je r (kC l) t' x=false)->t'∈C):=λC X L h3 h4=>by
     refine ⟨X,?_,λi t' hi aM a0 hx=>?_⟩
     ·have ek:l.take (k+1)=l.take k++[t]:=by rw [Qf,HT.o];rfl
      rw [ek];obtain rfl|rfl:=L
      ·exact aa.o.2.1.trans (Sj _ _)
      ·exact aa.o.2.1.append (TS _)
     by_cases e:i=k
     ·subst e;have ht:=HT.o
      rw [ht]at aM;cases aM
      exact h4 (bf.o.2 ⟨ZR HD.o.symm a0,hx⟩)
     ·exact h3 _ (aa.o.2.2 i t' ZO aM a0 hx)
    clear bp U K aI V am;cases B
    ·have F:=O8 (S.o A ZO (.inl rfl) (λj hj=>hj) (λh=>ZC h));clear a2 a1
     go_wp2;go_roundw;exact ⟨k+1,a,m,c,A,ZO,ZN,rfl,aT,F⟩;simp [intOf];omega
    ·have F:=O8 (S.o (A++[t]) (by rw [Pk,Qi];omega) (.inr rfl) (λj hj=>P0 _ hj) (λ_=>Qt _ (Pc.2 rfl)));have bm:Hid (aE (A++[t])=aE A++[(t:Int)]):=by rw [iz];exact O8 rfl
     have bH:m<=k:=ZO;clear a2 a1;go_wp2_with (at_builtin;refine av rfl (.tmp 83) (.tmp 85) 33 rfl 3 i3 (.int .i64 0) 8 QD bq bv bu ac rfl ZD _ _ _ rfl HO.o _ rfl rfl ZO ?_;intro g1 c1 w5 hs a6 ba;have HE:=O8 (ef aT.o bl.o hs a6 ba);clear hs a6 ba);go_roundw;exact ⟨k+1,_,m+1,c1,A++[t],ZO,ZN,rfl,ZR bm.o HE,F⟩;simp [intOf];omega
   ·obtain ⟨u,rfl⟩:=bh.o bw v O;have aN:u∈l:=by
     by_cases h:u∈l
     ·exact h
     ·rw [(Z.o u).2 h]at O;cases O
    have aO:=ab.o u aN;have br:kl=.int .i64 (u:Int):=by have:=iL (n:=u) ZO;rw [a5]at this;exact Qh this
    subst br;obtain ⟨du,ad⟩:∃du,kC l u=du:=⟨_,rfl⟩;have hv:v=.int .i64 (du:Int):=by rw [(Z.o u).1 aN,ad]at O;exact (Qh O).symm
    subst hv;have J:Hid (Below wo.heap.size wo w4):=aC.o.trans (a4.ag aC.o.size (λj hj e=>ZH bn.o));have Q:=O8 ay;have G:Hid (∀B':Bool,(d=k->(B'=true↔B=true/\je r (kC l) t u=false))->(d≠k->(B'=true->B=true))->(B'=true↔d=k/\∀x∈l,(left (.int .i64 (x:Int))&&!(Lit.int .i64 (x:Int)).sameKey (.int .i64 (u:Int)))=false->je r (kC l) t x=false)):=λB' X L=>by
     by_cases e:d=k
     ·rw [X e,K.o];constructor
      ·rintro ⟨⟨-,h3⟩,h4⟩;refine ⟨e,λx hx al=>?_⟩
       by_cases e2:x=u
       ·subst e2;exact h4
       ·refine h3 x hx ?_;rw [sameKey_ne (λe3=>e2 (ZH ((Lit.int.inj e3).2))),S9,Tt]at al
        exact al
      ·rintro ⟨-,h3⟩;refine ⟨⟨e,λx hx al=>h3 x hx (by rw [al,QX])⟩,h3 u aN ?_⟩
       have:(Lit.int .i64 (u:Int)).sameKey (.int .i64 (u:Int))=true:=WideAt.sameKey_self RN;rw [this,Tv,Sp]
     ·constructor
      ·intro h;exact absurd (K.o.1 (L e h)).1 e
      ·rintro ⟨h,-⟩;exact absurd h e
    have⟨mo,ao,rt,ro,rc,aV,bK,bz⟩:=aR.o w4 (af Y.o J.o) t u bd aO;have⟨bx,be,ru,bN,bM,T,bL,bA⟩:=aR.o w4 (af Y.o J.o) u t aO bd;rw [aV]at T;obtain ⟨rfl,rfl⟩:ao=be/\mo=bx:=by have:=Qh T;cases this;exact ⟨rfl,rfl⟩
    subst aV;have bJ:(u:Int)<n:=ZO;have bI:(t:Int)<n:=ZO;have bF:=O8 ad;have p:Hid (je r (kC l) t u=(decide (u≠t)&&(r t u&&(!r u t||decide (du<d))))):=by unfold je;rw [ad,HD.o];exact O8 rfl
    clear a5 ak O ay aI K T ad a4;obtain ⟨R1,aW⟩:∃R1,r t u=R1:=⟨_,rfl⟩;obtain ⟨R2,aX⟩:∃R2,r u t=R2:=⟨_,rfl⟩;rw [aW]at bz p;rw [aX]at bA p;clear aW aX;by_cases an:u=t
    ·have b0:((u:Int)!=(t:Int))=false:=by simp;omega
     have bj:Hid (je r (kC l) t u=false):=by rw [p.o,PH (λh=>h an),QX];exact O8 rfl
     have F:=O8 (G.o B (λ_=>⟨λh=>⟨h,bj.o⟩,λh=>h.1⟩) (λ_ h=>h));clear an;go_wp2;go_roundg H;case measure=>exact I
     case rel=>exact ⟨_,B,rfl,J,Q,F⟩
    ·have b0:((u:Int)!=(t:Int))=true:=by simp;omega
     have au:decide (u≠t)=true:=PX an;rw [au,Qu]at p;clear an au;cases R1
     ·rw [QX]at p;have F:=O8 (G.o B (λ_=>⟨λh=>⟨h,p.o⟩,λh=>h.1⟩) (λ_ h=>h))
      go_wp2;go_roundg H;case measure=>exact I
      case rel=>exact ⟨_,B,rfl,J,Q,F⟩
     ·rw [Qu]at p;cases R2
      ·rw [S9,UO]at p;have F:=O8 (G.o false (λ_=>⟨λh=>(ZC h),λh=>by rw [p.o]at h;cases h.2⟩) (λ_ h=>ZC h))
       go_wp2;go_roundg H;case measure=>exact I
       case rel=>exact ⟨_,false,rfl,J,Q,F⟩
      ·rw [Tv,Tu]at p;by_cases ak:du<k
       ·have b1:decide (du<k)=true:=PX ak;have F:=O8 (G.o false (λe=>⟨λh=>(ZC h),λh=>by rw [p.o,PX ZO]at h;cases h.2⟩) (λ_ h=>ZC h))
        go_wp2;go_roundg H;case measure=>exact I
        case rel=>exact ⟨_,false,rfl,J,Q,F⟩
       ·have b1:decide (du<k)=false:=PH ak;have F:=O8 (G.o B (λe=>⟨λh=>⟨h,by rw [p.o];exact PH (by omega)⟩,λh=>h.1⟩) (λ_ h=>h))
        go_wp2;go_roundg H;case measure=>exact I
        case rel=>exact ⟨_,B,rfl,J,Q,F⟩
  ·obtain rfl:E=k:=ZO;have bg:Hid (yY w l r (.returned (SL a m c)) wr):=by have⟨X,L,h3⟩:=ae.o;refine ⟨a,m,c,A,rfl,gY M.o P.o,L.trans (List.take_sublist _ _),λv hv hx=>?_⟩;have hi:=Jf hv;exact h3 (kC l v) v (by have:=(Po.1 hi).1;have:=N.o;omega) hi rfl hx
   clear ae P;go_wp2;go_ret;exact bg.o
end
def TV:=@List.sum_cons
structure Cut (n:Nat) (r:Nat->Nat->Bool) (l a:List Nat):Prop where
 mE:a.Sublist l
 OV:∀q∈l,∃p∈a,r q p=true
def Cut.sub{n r l a}(h:Cut n r l a):∀j∈a,j∈l:=λj b=>h.mE.subset b
def Cut.bA{n r l a}(h:Cut n r l a):a.length<=l.length:=h.mE.length_le
def iD(l:List dk):Nat:=(l.map λx=>(dk.tO x).length+1).sum
def _root_.Go.Own.Au.wt(A:Au):Nat:=A.aP.length+iD A.ak
def gG(A D:Au):Prop:=D.wt<=A.wt/\(D.wt=A.wt->D=A)
def gG.trans{A B C}(h:gG A B)(k:gG B C):gG A C:=
 ⟨PG k.1 h.1,λe=>by have:=h.1;have:=k.1;have a:=k.2 ZO;subst a;exact h.2 ZO⟩
def Fk{l l2}(h:l.Sublist l2):iD l<=iD l2/\(iD l=iD l2->l=l2):=by
 induction h with
 |slnil=>exact ⟨Pf _,λ_=>rfl⟩
 |cons a _ b=>simp only [iD,Pv,TV]at *;exact ⟨ZO,λe=>ZO⟩
 |cons_cons a _ b=>simp only [iD,Pv,TV]at *;exact ⟨ZO,λe=>by rw [b.2 ZO]⟩
def vF:∀l N,N.length=l.length->(∀(j:Nat)(x y),l[j]? =some x->N[j]? =some y->(dk.tO y).length<=(dk.tO x).length)->iD N<=iD l
 |[],[],_,_=>Pf _
 |x::l,y::N,c,h=>by have f:=h 0 x y rfl rfl;have g:=vF l N (ZX c) (λj a b d e=>h (j+1) a b d e);simp only [iD,Pv,TV]at *;omega
 |[],_::_,c,_=>ZC c
 |_::_,[],c,_=>ZC c
def Cl:∀l N,N.length=l.length->(∀(j:Nat)(x y),l[j]? =some x->N[j]? =some y->y.need=x.need/\y.ban=x.ban/\y.inn=x.inn/\(dk.tO y).Sublist (dk.tO x))->iD N=iD l->N=l
 |[],[],_,_,_=>rfl
 |x::l,y::N,c,h,e=>by
  have⟨g,i,k,m⟩:=h 0 x y rfl rfl;have q:=vF l N (ZX c) (λj a b d f=>(h (j+1) a b d f).2.2.2.length_le);have o:=m.length_le;have r:=Cl l N (ZX c) (λj a b d f=>h (j+1) a b d f);simp only [iD,Pv,TV]at *;have n:=m.eq_of_length ZO;have p:=r ZO;subst p;cases x;cases y
  simp only at g i k n;subst g i k n;rfl
 |[],_::_,c,_,_=>ZC c
 |_::_,[],c,_,_=>ZC c
def sh{A c N}(d:c.Sublist A.aP)(f:N.length=A.ak.length)(g:∀(j:Nat)(x y),A.ak[j]? =some x->N[j]? =some y->y.need=x.need/\y.ban=x.ban/\y.inn=x.inn/\(dk.tO y).Sublist (dk.tO x)):gG A ⟨A.sets,c,N⟩:=by have k:=d.length_le;have l:=vF _ _ f (λj a b h i=>(g j a b h i).2.2.2.length_le);refine ⟨by show c.length+iD N<=A.aP.length+iD A.ak;omega,λe=>?_⟩;have e:c.length+iD N=A.aP.length+iD A.ak:=e;rw [d.eq_of_length ZO,Cl _ _ f g ZO]
def I1{A r}(C:gL A)(E:lj A λi k=>i<A.ak.length/\k<A.ak.length/\r i k=true){l B}(m:∀q∈l,q<A.ak.length)(F:B.Sublist l)(G:∀v∈l,(∀x∈l,je r (kC l) v x=false)->v∈B):Cut A.ak.length r l B:=by
 refine ⟨F,λq s=>?_⟩;have J:Valid A:=⟨C.aP,λn I q s=>C.mZ _ (eB I) q s⟩;obtain ⟨p,o⟩:∃p:Nat->Nat->Bool,∀a b,p a b=(decide (a=b)||(decide (a<A.ak.length)&&(decide (b<A.ak.length)&&r a b))):=⟨λa b=>_,λa b=>rfl⟩;have u:∀a b,a<A.ak.length->b<A.ak.length->p a b=r a b:=λa b D H=>by rw [o,PX D,PX H,Qu,Qu];by_cases e:a=b;subst e;rw [PX rfl,(E.refl J D).2.2];rfl;rw [PH e,Tu]
 have j:∀a b,p a b=true↔a=b\/(a<A.ak.length/\b<A.ak.length/\r a b=true):=λa b=>by rw [o];simp only [QP,Qk,Qw]
 have⟨v,g,w,y⟩:=Jw (r:=p) (idx:=kC l) (λt=>(j t t).2 (.inl rfl)) (λa b c d f=>by rw [j]at d f⊢;obtain rfl|d:=d;exact f;obtain rfl|f:=f;exact .inr d;exact .inr (E.trans d f)) l q s
 refine ⟨v,G v g (λx z=>?_),by rw [<-u q v (m q s) (m v g)];exact y⟩;have h:=w x z;unfold je at h⊢;rw [u v x (m v g) (m x z),u x v (m x z) (m v g)]at h;exact h
def IB(w:WD)(A:Au)(e:Ending)(a:WD):Prop:=
 BW w a/\∃D v R,e=RT v/\FI a D v/\gL D/\lj A R/\Di A D R/\gG A D
def yW(n:Nat)(r:Nat->Nat->Bool)(x y:dk):Prop:=y.need=x.need/\y.ban=x.ban/\y.inn=x.inn/\Cut n r (dk.tO x) (dk.tO y)
def A9{A r a N}(b:Cut A.ak.length r A.aP a)(c:N.length=A.ak.length)
 (d:∀(j:Nat)(x y),A.ak[j]? =some x->N[j]? =some y->yW A.ak.length r x y):gG A ⟨A.sets,a,N⟩:=
 sh b.mE c λj x y e f=>by have h:=d j x y e f;exact ⟨h.1,h.2.1,h.2.2.1,h.2.2.2.mE⟩
def G9{A r}(d:gL A)(D:lj A λi k=>i<A.ak.length/\k<A.ak.length/\r i k=true){m N}(s:Cut A.ak.length r A.aP m)(v:N.length=A.ak.length)
 (e:∀(j:Nat)(x y),A.ak[j]? =some x->N[j]? =some y->yW A.ak.length r x y):
 Di A ⟨A.sets,m,N⟩ (λi k=>i<A.ak.length/\k<A.ak.length/\r i k=true)/\gL ⟨A.sets,m,N⟩:=by
 have c:∀j,j<A.ak.length->yW A.ak.length r (A.ay j) ((⟨A.sets,m,N⟩:Au).ay j):=λj t=>by
  have o:A.ak[j]? =some A.ak[j]:=Pe t;have w:N[j]? =some N[j]:=Pe ZO;have z:A.ay j=A.ak[j]:=by unfold Au.ay;rw [Pd,o];rfl
  have B:(⟨A.sets,m,N⟩:Au).ay j=N[j]:=by unfold Au.ay;rw [Pd,w];rfl
  rw [z,B];exact e j _ _ o w
 have a:∀j,¬j<A.ak.length->A.ay j=dk.zero/\(⟨A.sets,m,N⟩:Au).ay j=dk.zero:=λj t=>by constructor;unfold Au.ay;rw [Pd,Qs ZO];rfl;unfold Au.ay;rw [Pd,Qs (by show N.length<=j;omega)];rfl
 have b:∀y∈N,∃x∈A.ak,yW A.ak.length r x y:=λy f=>by have⟨j,t⟩:=Rh f;have o:A.ak[j]? =some (A.ak[j]'(by have:=(Po.1 t).1;omega)):=Pe _;exact ⟨_,Pm o,e j _ _ o t⟩
 refine ⟨⟨rfl,v,λn=>?_,λn=>?_,λn=>?_,s.sub,λq g=>?_,λn e q g=>(c n e).2.2.2.sub q g,λn e q g=>?_⟩,⟨d.sets,by show N.length<=256;rw [v];exact d.many,λi h=>by show i<N.length;rw [v];exact d.aP i (s.sub i h),λy f k C=>?_,λy f=>?_,λy f=>?_,λy f=>?_,PG s.bA d.il⟩⟩
 by_cases h:n<A.ak.length
 exact (c n h).1
 rw [(a n h).1,(a n h).2]
 by_cases h:n<A.ak.length
 exact (c n h).2.1
 rw [(a n h).1,(a n h).2]
 by_cases h:n<A.ak.length
 exact (c n h).2.2.1
 rw [(a n h).1,(a n h).2]
 have⟨p,u,h⟩:=s.OV q g
 exact ⟨p,u,d.aP q g,d.aP p (s.sub p u),h⟩
 have⟨p,u,h⟩:=(c n e).2.2.2.OV q g
 exact ⟨p,u,d.mZ _ (eB e) q g,d.mZ _ (eB e) p ((c n e).2.2.2.sub p u),h⟩
 have⟨x,l,h⟩:=b y f
 show k<N.length
 rw [v];exact d.mZ x l k (h.2.2.2.sub k C)
 have⟨x,l,h⟩:=b y f
 rw [h.2.2.1];exact d.inn x l
 have⟨x,l,h⟩:=b y f
 rw [h.1,h.2.1];exact d.bits x l
 have⟨x,l,h⟩:=b y f
 exact PG h.2.2.2.bA (d.tl x l)
def S8:=@Go.Lib.ownBlock_ne
def yy(d:WD)(n:Nat)(r:Nat->Nat->Bool)(l:List Nat)(v:Value)(w:WD):Prop:=
 ∃a m c b,v=SL a m c/\aF .i64 3 d w (SL a m c) (aE b)/\Cut n r l b
def yy.ag{b w w' n r l v}(h:yy b n r l v w)(d:BW w w'):yy b n r l v w':=by obtain ⟨a,m,c,i,e,g,f⟩:=h;exact ⟨a,m,c,i,e,iu g d,f⟩
def p9{i w a m c g S}(h:aF .i64 3 i w (SL a m c) (aE g))(k:g.length<=16777216)(j:∀b,(SL a m c).ownBlock=some b->i.heap.size<=b->¬S b):fF w S (a,m,c) g:=by
 have d:∀b o,a=some (AD b o)->(SL a m c).ownBlock=some b:=λb o e=>by subst e;rfl
 have f:=gy h;rw [aD]at f;exact ⟨cT h,λb o e=>j b (d b o e) (h.2.2 b (d b o e)),λb o e=>h.1.lt b (d b o e),by show m<=_;omega⟩
structure jr (w wr:WD) (d:Nat) (A:Au) (r:Nat->Nat->Bool) (b:Nat) (t:dN) (a:List Nat) (c:Value) (O:List (dk×dN)):Prop where
 o:fZ wr b (λk=>k=d) A.sets t a c O
 aJ:BW w wr
 bG:∀k,gX b c k->w.heap.size<=k
 n8:Cut A.ak.length r A.aP a
 cS:O.length<=A.ak.length
 Cp:∀(j:Nat)(x:dk)(y:dk×dN),A.ak[j]? =some x->O[j]? =some y->yW A.ak.length r x y.1
def jr.ag{w wr e f A r c t b d O}(h:jr w wr f A r c t b d O)(a:BW wr e):jr w e f A r c t b d O:=
 ⟨h.o.ag a,h.aJ.trans (a.mono h.aJ.size),h.bG,h.n8,h.cS,h.Cp⟩
def jr.aM{w f p x0 A r d x}(F:gL A)(J:x0<w.heap.size)(H:w.heap.size<=d)(q:BW w f)(i:HC f d #[IV 0,SN,SN] 36)
 (I:yy w A.ak.length r A.aP x f) (e:p=((f.setCell (AD d 0) (IV A.sets)).setCell (AD d 1) x).setCell (AD d 2) (SN)):
 ∃a m c l,x=SL a m c/\jr w p x0 A r d (a,m,c) l (SN) []:=by
 obtain ⟨a,m,c,l,rfl,v,t⟩:=I
 have z:CA f d 0 (IV 0):=CH i
 have B:CA f d 1 (SN):=CH i
 have C:CA f d 2 (SN):=CH i
 obtain ⟨-,-,-,u⟩:=bX z B C p e
 have g:l.length<=16777216:=PG t.bA F.il
 have o:∀b,(SL a m c).ownBlock=some b->b≠d:=λb n D=>S8 v.1 i ZD (D▸n)
 have G:=p9 (S:=λk=>k=d\/k=x0) v g (λb n E s=>s.elim (o b n) (λs=>ZO))
 refine ⟨a,m,c,l,rfl,fZ.aM ?_ (G.ax u (λk s=>.inl (.inl s)) (λk s=>.inl s)),q.trans (u.ag q.size (λk E K=>ZO)),λk s=>?_,t,Pz _,λj x y _ h=>(ZC h)⟩
 rw [e];simp [HC,World.setCell,P7,i]
 obtain s|s:=s
 omega
 cases s
def jr.step{w wr g q D u A r l t C m d O}(h:jr w wr u A r l t C m O){x}(B:A.ak[O.length]? =some x){y}(J:yW A.ak.length r x y.1)(F:BW wr g)
 (f:fF g (pK l m (λk=>k=u)) y.2 (dk.tO y.1)) (e:q.ownsRow 0 62 4 d (O.length+1) (dp O++rZ y)) (v:aj (λk=>m.ownBlock=some k) g q) (H:∀b,d.ownBlock=some b->m.ownBlock=some b\/g.heap.size<=b) (E:D=q.setCell (AD l 2) d):
 jr w D u A r l t C d (O++[y]):=by
 have i:=h.ag F
 have⟨I,o,p⟩:=i.o.dT y f (Pn _ g) e v H E
 refine ⟨I,i.aJ.trans (o.ag i.aJ.size (λk v s=>ZH (h.bG k s))),λk s=>?_,h.n8,?_,λj a b n c=>?_⟩
 obtain s|s:=s
 exact h.bG k (.inl s)
 obtain s|s:=p k s
 exact h.bG k (.inr s)
 have:=i.aJ.size;omega
 have:=(Po.1 B).1
 rw [Pk,Qi];omega
 obtain z|z:=Re j O.length
 rw [Pp z]at c;exact h.Cp j a b n c
 have G:j=O.length:=by have:=(Po.1 c).1;rw [Pk,Qi]at this;omega
 subst G
 rw [Qm]at c
 cases c
 rw [B]at n;cases n
 exact J
def jr.row{w wr g w1 d A r e t p f O}(h:jr w wr d A r e t p f O)(o:d<w.heap.size)(i:BW wr g){a m c l}
 (n:aF .i64 3 g w1 (SL a m c) (aE l)) (j:l.length<=16777216):fF w1 (pK e f (λk=>k=d)) (a,m,c) l:=
 p9 n j λb q u s=>by have:=h.aJ.size;have:=i.size;obtain s|s:=s;have:=h.o.dY b s;omega;omega
def G8(w A T J X na L nc)(hv:cm w A T J na L)(hA:gL A):
 CL 81 #[.agg #[IV A.sets,SL T J X,SL na L nc]] w (IB w A):=by
 have⟨q,hq⟩:=EX w.heap.size
 have⟨M,ak⟩:=EX ((w.alloc (CE #[IV A.sets,SL T J X,SL na L nc] 36)).alloc (CE #[IV 0,SN,SN] 36))
 have ab:BW w M:=ak▸af (ah _ _) (ah _ _)
 have s1:M.heap.size=q+1+1:=by rw [<-ak,PL,PL,hq]
 have aI:M.heap[q]? =some (.cells #[IV A.sets,SL T J X,SL na L nc] 36 (0,0)):=by rw [<-ak,<-hq,(Ph _ _).2 _ (by rw [PL];omega)];exact (Ph w _).1
 have bb:M.heap[q+1]? =some (.cells #[IV 0,SN,SN] 36 (0,0)):=by rw [<-ak,<-hq,<-PL w (CE #[IV A.sets,SL T J X,SL na L nc] 36)];exact (Ph _ _).1
 have a0:=O8 (dZ M A T J X na L nc (hv.ag ab) hA)
 have a3:Hid (∀w2,BW M w2->CL 116 #[.agg #[IV A.sets,SL T J X,SL na L nc]] w2 (vR w2 A)):=λw2 C=>wM w2 A T J X na L nc (hv.ag (af ab C)) hA
 have Y:Hid (∀d,BW M d->d.cell? (AD q 0)=some (IV A.sets)/\d.cell? (AD q 1)=some (SL T J X)/\d.cell? (AD q 2)=some (SL na L nc)):=λd h=>by have h2:=(h.block q (Pb.1 aI).1).trans aI;exact ⟨CH h2,CH h2,CH h2⟩
 have HV:Hid (∀d,BW M d->cm d A T J na L):=λd h=>hv.ag (af ab h)
 have HA:=O8 hA
 have bl:=O8 ab
 have bn:=O8 bb
 have HQ:=O8 hq
 have a6:=O8 s1
 have bh:L<=256:=by rw [<-hv.bA];exact hA.many
 have Z:Hid (A.ak.length=L):=hv.bA
 have bt:J<=16777216:=by have:=hv.aP.1;rw [aD]at this;rw [<-this];exact hA.il
 have⟨c0,c1,c2⟩:=Y.o M (Pn _ _)
 clear hv hA ab aI bb s1
 go_enter func81,ntmps81
 go_upto_region 3 with(go_at_call 23;apply a0.o.mono;rintro e w2 ⟨rfl,aC⟩;have aX:=O8 aC;have a1:=O8 (a3.o w2 aC);clear aC)
 clear ak hq c0 c1 c2 a0
 have⟨d0,d1,d2⟩:=Y.o w2 aX.o
 go_upto_region 4 with(go_at_call 116;apply a1.o.mono;rintro e G ⟨a9,v,r,rfl,bg,hg⟩;have bm:=O8 a9;have a4:=O8 bg;have HG:=O8 hg;clear a9 bg hg)
 clear d0 d1 d2 a3 a1
 have B:Hid (BW M G):=af aX.o bm.o
 have⟨e0,e1,e2⟩:=Y.o G B.o
 have bq:Hid (∀(la:OA)(ll lc:Nat)(l:List Nat)(d:WD),BW G d->aG .i64 d la ll (aE l)->ll<=16777216->(∀k∈l,k<A.ak.length)->CL 117 #[SL la ll lc,v] d λe t=>∃u,e=RT u/\BW d t/\yy G A.ak.length r l u t):=λla ll lc l d C hr D hk=>
  (xt d la ll lc l v A.ak.length r hr D hk (a4.o.ag C) (ZR Z.o bh)).mono λe t ⟨a,m,c,js,he,hm,h2,h3⟩=>⟨_,he,hm.2.1,a,m,c,js,rfl,gY C hm,I1 HA.o HG.o hk h2 h3⟩
 have aZ:Hid (∀d,Below G.drew.heap.size G.drew d->CL 117 #[SL T J X,v] d λe t=>∃u,e=RT u/\BW d t/\yy G A.ak.length r A.aP u t):=λd C=>by have C:BW G d:=(Pn _ _).drew.trans C;exact bq.o T J X A.aP d C ((HV.o d (af B.o C)).aP) bt HA.o.aP
 have a5:Hid (∀p,Below G.drew.heap.size G.drew p->p.cell? (AD q 0)=some (IV A.sets)/\p.cell? (AD q 1)=some (SL T J X)):=λd C=>by have h:=Y.o d (af B.o ((Pn _ G).drew.trans C));exact ⟨h.1,h.2.1⟩
 refine aw 8 (S:=λp=>p.cell? (AD q 0)=some (IV A.sets)/\p.cell? (AD q 1)=some (SL T J X)) ZK (⟨e0,e1⟩) (λQ=>?_)
 refine aB 0 ?_
 refine aB 1 ?_
 refine aB 2 ?_
 refine aB 3 ?_
 refine aB 4 ?_
 clear Q e0 e1 e2
 refine bY [5,6,7] (λi=>if i=5 then 18 else if i=6 then 19 else 4) #[true,true,true,true,true,true,true,true,false] 1
  (λi u w=>match i with|5=>yy G A.ak.length r A.aP u w|6=>∃x,u=.agg #[IV A.sets,x,SN]/\yy G A.ak.length r A.aP x w|_=>∃b,u=PT b/\G.heap.size<=b/\w.heap[b]? =some (.cells #[IV 0,SN,SN] 36 (0,0))) ZK ZK rfl ZD ?st1 ?st2 ZD ?st3 ?st4
 case st1=>
  intro i u w4 P hu C;split at hu
  ·exact hu.ag C
  ·obtain ⟨x,e,h⟩:=hu;exact ⟨x,e,h.ag C⟩
  ·obtain ⟨b,e,h1,h⟩:=hu;exact ⟨b,e,h1,(C.block b (Pb.1 h).1).trans h⟩
 case st2=>exact a5.o
 case st3=>
  rintro l V d i o D bz hi ho hr hJ K n;simp only [PO,QL,Sh]at hi;obtain rfl|rfl|rfl:=hi
  ·simp only [PA,Pt,Pu,PJ]at ho;subst ho
   refine aO (R:=λe t=>∃u,e=RT u/\BW d t/\yy G A.ak.length r A.aP u t) (f:=117) (args:=#[SL T J X,v]) (aZ.o d hJ.aJ) ?_ (λe w4 ⟨u,he,C,hu⟩=>⟨u,he,n u w4 C hu⟩);clear n;refine ZY ?_;go_simp
  ·simp only [PA,Pt,Pu,PJ]at ho;subst ho
   have h5:yy _ _ _ _ _ _:=hJ.oZ 5 ZD (bj (l:=[5]) ZK hr 5 ZS);refine cB (v:=.agg #[IV A.sets,V 18,SN]) (w':=d) ?_ (n _ _ (Pn _ _) ⟨_,rfl,h5⟩);obtain ⟨_,_,_,_,e5,-⟩:=h5;change V 18=_ at e5;clear n;refine ZY ?_;rw [e5];go_simp
  ·simp only [PA,Pt,Pu,PJ]at ho;subst ho
   refine cB (v:=PT d.heap.size) (w':=d.alloc (CE #[IV 0,SN,SN] 36)) ?_ (n _ _ ((Pn _ _).alloc (Pf _) _) ⟨_,rfl,hJ.aJ.size,(Ph d _).1⟩);clear n;refine ZY ?_;go_simp
 case st4=>
  intro V d ba hV;refine ZY ?_;have⟨xv,e6,h6⟩:=hV 6 ZD;have⟨F,e7,ad,I⟩:=hV 7 ZD;change V 19=_ at e6;change V 4=_ at e7;rw [e6,e7];generalize V 18=bA;have bs:=h6;obtain ⟨xa,xm,xc,bB,rfl,-,-⟩:=bs;have ar:BW G d:=(Pn _ _).drew.trans ba;have c0:d.cell? (AD F 0)=some (IV 0):=CH I;have c1:d.cell? (AD F 1)=some (SN):=CH I;have c2:d.cell? (AD F 2)=some (SN):=CH I;have z0:d.frozen? (AD F 0)=false:=Pg I 0;have z1:d.frozen? (AD F 1)=false:=Pg I 1;have z2:d.frozen? (AD F 2)=false:=Pg I 2;refine aK 8 λK n=>?_;go_simp;refine n.q ?_;clear n K;refine az ZK ?_;have⟨w4,aQ⟩:=EX (((d.setCell (AD F 0) (IV A.sets)).setCell (AD F 1) (SL xa xm xc)).setCell (AD F 2) (SN));rw [aQ];have aV:q+1<G.heap.size:=ZI a6.o B.o.size;have⟨ja,jl,jc,js,ej,hL⟩:=jr.aM (x0:=q+1) HA.o aV ad ar I h6 aQ.symm;obtain ⟨rfl,rfl,rfl⟩:=P8 ej;clear ej;have aA:=O8 aV;obtain ⟨-,-,f2⟩:=Y.o w4 (af B.o hL.aJ);have HL:=O8 hL;clear e6 e7 h6 ad I ar c0 c1 c2 z0 z1 z2 aQ ba hV hL aV aZ a5;go_wp2;go_loopw [23] (λx wr=>∃(i:Nat)(ov:Value)(O:List (dk×dN)),x=IV i/\O.length=i/\Hid (jr G wr (q+1) A r F (xa,xm,xc) js ov O)) (λx _=>L-(intOf x).toNat);exact ⟨0,_,[],rfl,rfl,HL⟩;clear HL f2;obtain ⟨i,ov,O,rfl,am,D⟩:=hrel;obtain ⟨oa,oc,rfl⟩:=bF D.o.o.cO;by_cases bd:i<L
  ·have bw:(i:Int)<L:=ZO;have aq:Hid (BW G wr):=D.o.aJ
   have hv:=HV.o wr (af B.o aq.o);obtain ⟨b,o,x,rfl,hx,-,-,ta,tl,tc,k0,k1,k2,k3,ai⟩:=hv.nd (j:=i) (by rw [hv.bA];exact bd);have al:x∈A.ak:=Pm hx;have bi:tl<=16777216:=by have:=ai.1;rw [aD]at this;rw [<-this];exact HA.o.tl x al
   have⟨P,ap⟩:=EX (wr.alloc (CE #[UV x.need,UV x.ban,UV x.inn,SL ta tl tc] 62));have ac:BW wr P:=ap▸ah _ _;have⟨xb,aW⟩:=EX wr.heap.size;have H:=aT wr #[UV x.need,UV x.ban,UV x.inn,SL ta tl tc] 62;rw [ap,aW]at H;have au:=O8 ac;have HX:=O8 hx;have br:=O8 al;have aa:=O8 am;have o2:wr.cell? (AD F 2)=some (SL oa O.length oc):=CH D.o.o.dB;have ay:Hid (∀p,Below P.drew.heap.size P.drew p->p.cell? (AD F 2)=some (SL oa O.length oc)):=λp C=>by have h2:=af ac ((Pn _ _).drew.trans C);exact (h2.cell (O9 _ _ o2)).trans o2
   have bo:Hid (CL 117 #[SL ta tl tc,v] P.drew λe t=>∃u,e=RT u/\Below P.drew.heap.size P.drew t/\∃a m c js,u=SL a m c/\aF .i64 3 P.drew t (SL a m c) (aE js)/\Cut A.ak.length r (dk.tO x) js):=
    (xt P.drew ta tl tc (dk.tO x) v A.ak.length r (((ai.ag ac)).ag (Pn _ _).drew) bi (λk hk=>HA.o.mZ x al k hk) ((a4.o.ag (af aq.o ac)).ag (Pn _ _).drew) (ZR Z.o bh)).mono λe t ⟨a,m,c,js,he,hm,h2,h3⟩=>⟨_,he,hm.2.1,a,m,c,js,rfl,hm,I1 HA.o HG.o (λk hk=>HA.o.mZ x al k hk) h2 h3⟩
   have o5:=ay.o P.drew (Pn _ _);have b0:=(H 0 _ rfl).1;have b1:=(H 1 _ rfl).1;have b2:=(H 2 _ rfl).1;have b3:=(H 3 _ rfl).1;have a7:O.length+1<=33554432:=ZO;clear hv hx al ai bi ac H am o2;go_upto_region 8 with(fail);(try rw [aW]);(try rw [ap]);clear ap aW;refine aw 14 (S:=λp=>p.cell? (AD F 2)=some (SL oa O.length oc)/\p.cell? (AD xb 0)=some (UV x.need)/\p.cell? (AD xb 1)=some (UV x.ban)/\p.cell? (AD xb 2)=some (UV x.inn)/\p.cell? (AD xb 3)=some (SL ta tl tc)) ZK (⟨o5,b0,b1,b2,b3⟩) (λQ=>?_);refine aB 0 ?_ [1,0];refine aB 1 ?_;refine aB 2 ?_ [13,12,3,2];refine aB 3 ?_ [13,12,3];refine aB 4 ?_ [13,12,5,4];refine aB 5 ?_ [13,12,5];refine aB 6 ?_ [13,12,7,6];refine aB 7 ?_ [13,12,7];refine aB 8 ?_ [11,9,8];refine aB 9 ?_ [11,9];refine' aS (i:=10) (v:=_) rfl ZK (λ_ _ _ h=>h) (Or.inl ⟨by rfl,?hyL10⟩) (by assumption) ?restL10;case hyL10=>(intro d bx;go_simp;(try with_reducible rfl))
   try walk_nrm
   clear Q;have av:Hid (∀p,Below P.drew.heap.size P.drew p->(λp=>p.cell? (AD F 2)=some (SL oa O.length oc)/\p.cell? (AD xb 0)=some (UV x.need)/\p.cell? (AD xb 1)=some (UV x.ban)/\p.cell? (AD xb 2)=some (UV x.inn)/\p.cell? (AD xb 3)=some (SL ta tl tc)) p):=λp C=>⟨ay.o p C,(C.cell (O9 _ _ b0)).trans b0,(C.cell (O9 _ _ b1)).trans b1,(C.cell (O9 _ _ b2)).trans b2,(C.cell (O9 _ _ b3)).trans b3⟩;clear b0 b1 b2 b3 o5;refine aK 11 λK n=>?_;rw [PW (by rfl)];apply aY.o;refine aO (f:=117) bo.o ?_ (λe w6 aM=>?_)
   ·clear n;go_simp
   obtain ⟨u,rfl,an,a2,l2,c2,ks,rfl,be,aJ⟩:=aM;refine ⟨_,rfl,?_⟩;refine n.o _ _ (λ_=>av.o w6 an) ?_;clear n K;try walk_nrm
   refine aK 12 λK n=>?_;go_simp;refine n.o _ _ (λ_=>av.o w6 an) ?_;clear n K;try walk_nrm
   have⟨w7,aR⟩:=EX (w6.alloc (CE #[UV x.need,UV x.ban,UV x.inn,SL a2 l2 c2] 62));have H:=aT w6 #[UV x.need,UV x.ban,UV x.inn,SL a2 l2 c2] 62;rw [aR]at H;have aH:BW w6 w7:=aR▸ah _ _;have U:Below P.drew.heap.size P.drew w7:=af an aH;refine aK 13 λK n=>?_;go_simp;refine n.o _ _ (λ_=>av.o w7 U) ?_;clear n K;try walk_nrm
   have W:BW wr w7:=af au.o ((Pn _ _).drew.trans U);have ae:w7.ownsRow 0 62 4 (SL oa O.length oc) O.length (dp O):=bp D.o.o.cO (aj.aC W) (λg e s=>QE _ (Ps (dx D.o.o.cO g e) s));have q7:=ay.o w7 U;have f7:w7.frozen? (AD F 2)=false:=Pg ((W.block F D.o.o.Cr).trans D.o.o.dB) 2;have aL:¬(SL oa O.length oc).ownBlock=some F:=λe=>D.o.o.oK F e rfl;refine aK 14 λK n=>?_;rw [PW (by rfl)];apply aY.o;refine ke (.tmp 28) (.tmp 40) rfl (SL oa O.length oc) O.length (dp O) rfl ae (AD w6.heap.size 0) 1 [UV x.need,UV x.ban,UV x.inn,SL a2 l2 c2] rfl rfl (λj u hj=>?_) ZV a7 (λa8 c8 w8 bf ao bk=>?_)
   ·rw [QK,PU];exact (H j u (ZX hj)).1
   have q8:=ao.aq q7 aL;have f8:=(PK (ao.block F (O9 _ _ q7) aL)).trans f7;have HN:=O8 (D.o.step (x:=x) (y:=(⟨x.need,x.ban,x.inn,ks⟩,(a2,l2,c2))) (ZR aa.o HX.o) ⟨rfl,rfl,rfl,aJ⟩ W ((D.o.row aA.o (au.o.trans ((Pn _ _).drew.mono au.o.size)) be (PG aJ.bA (HA.o.tl x br.o))).ax (aj.aC aH) (λk s=>.inr s) (λk s=>.inl s)) bf ao bk rfl);refine n.q ?_;clear n K an be aJ aR H aH U W ae q7 f7 aL bf ao bk;refine aK 15 λK n=>?_;go_simp;refine n.q ?_;clear n K;refine aK 16 λK n=>?_;go_simp;refine n.q ?_;clear n K;refine az ZK ?_;go_wp2;go_roundw;exact ⟨i+1,_,_,ZN,by rw [Pk,aa.o];rfl,HN⟩;simp [intOf];omega
  ·obtain rfl:i=L:=ZI D.o.cS Z.o;have o0:wr.cell? (AD F 0)=some (IV A.sets):=CH D.o.o.dB
   have o1:wr.cell? (AD F 1)=some (SL xa xm xc):=CH D.o.o.dB;have o2:wr.cell? (AD F 2)=some (SL oa O.length oc):=CH D.o.o.dB;have E:wr.heap[q+1]? =some (.cells #[IV 0,SN,SN] 36 (0,0)):=(D.o.aJ.block _ aA.o).trans ((B.o.block _ (ZH a6.o)).trans bn.o);have c0:wr.cell? (AD (q+1) 0)=some (IV 0):=CH E;have c1:wr.cell? (AD (q+1) 1)=some (SN):=CH E;have c2:wr.cell? (AD (q+1) 2)=some (SN):=CH E;have z0:wr.frozen? (AD (q+1) 0)=false:=Pg E 0;have z1:wr.frozen? (AD (q+1) 1)=false:=Pg E 1;have z2:wr.frozen? (AD (q+1) 2)=false:=Pg E 2;have aa:=O8 am;clear E am bd;go_wp2;(try simp only [Exit.inBlock,Exit.then]);have⟨w9,aU⟩:=EX (((wr.setCell (AD (q+1) 0) (IV A.sets)).setCell (AD (q+1) 1) (SL xa xm xc)).setCell (AD (q+1) 2) (SL oa O.length oc));rw [aU];have⟨d0,d1,d2,bc⟩:=bX c0 c1 c2 w9 aU.symm;clear aU c0 c1 c2 z0 z1 z2 o0 o1 o2;refine Qz (v:=.agg #[IV A.sets,SL xa xm xc,SL oa O.length oc]) ?_ rfl ⟨?_,?_⟩
   ·rw [cX rfl];go_simp
   ·have hB:=af bl.o (af B.o D.o.aJ);exact hB.trans (bc.ag hB.size (λk hk e=>ZH HQ.o))
   ·have bu:¬gX F (SL oa O.length oc) (q+1):=λs=>by have:=D.o.bG _ s;have:=aA.o;omega
    have bv:=D.o.o.ax bc (λk e s=>bu (e▸s)) (λk e=>.inl e);have⟨p1,p2⟩:=G9 (N:=O.map Prod.fst) HA.o HG.o D.o.n8 (by rw [PB,aa.o,Z.o]) (λj x y hx hy=>by rw [PZ]at hy;obtain ⟨z,hz,rfl⟩:=QY.1 hy;exact D.o.Cp j x z hx hz)
    exact ⟨_,_,_,rfl,bv.Dk,p2,HG.o,p1,A9 (N:=O.map Prod.fst) D.o.n8 (by rw [PB,aa.o,Z.o]) (λj x y hx hy=>by rw [PZ]at hy;obtain ⟨z,hz,rfl⟩:=QY.1 hy;exact D.o.Cp j x z hx hz)⟩
section
open Go.Maps
def D8(w a b c t):CL 118 #[.agg #[UV a,UV b,UV c,jW t]] w λe E=>e=RT (.agg #[UV a,UV b,UV c])/\BW w E:=by
 have⟨q,m⟩:=EX w.heap.size;obtain ⟨n,p,o⟩:=t;have⟨d,h⟩:=EX ((w.alloc (CE #[UV a,UV b,UV c,SL n p o] 62)).alloc (CE #[UV 0,UV 0,UV 0] 164));have l:BW w d:=h▸af (ah _ _) (ah _ _);have D:d.heap.size=q+1+1:=by rw [<-h,PL,PL,m]
 have g:d.heap[q]? =some (.cells #[UV a,UV b,UV c,SL n p o] 62 (0,0)):=by rw [<-h,<-m,(Ph _ _).2 _ (by rw [PL];omega)];exact (Ph w _).1
 have f:d.heap[q+1]? =some (.cells #[UV 0,UV 0,UV 0] 164 (0,0)):=by rw [<-h,<-m,<-PL w (CE #[UV a,UV b,UV c,SL n p o] 62)];exact (Ph _ _).1
 have A:d.cell? (AD q 0)=some (UV a):=CH g;have B:d.cell? (AD q 1)=some (UV b):=CH g;have C:d.cell? (AD q 2)=some (UV c):=CH g;have u:d.cell? (AD (q+1) 0)=some (UV 0):=CH f;have x:d.cell? (AD (q+1) 1)=some (UV 0):=CH f;have y:d.cell? (AD (q+1) 2)=some (UV 0):=CH f;have F:d.frozen? (AD (q+1) 0)=false:=Pg f 0;have G:d.frozen? (AD (q+1) 1)=false:=Pg f 1;have H:d.frozen? (AD (q+1) 2)=false:=Pg f 2;have j:=O8 l;have z:=O8 m;clear l g f D;show CL 118 #[.agg #[UV a,UV b,UV c,SL n p o]] w _;go_enter func118,ntmps118;go_wp2;(try simp only [Exit.inBlock,Exit.then]);have⟨s,i⟩:=EX (((d.setCell (AD (q+1) 0) (UV a)).setCell (AD (q+1) 1) (UV b)).setCell (AD (q+1) 2) (UV c));rw [i];have⟨I,J,K,r⟩:=bX u x y s i.symm;clear i u x y F G H A B C;refine Qz (v:=.agg #[UV a,UV b,UV c]) ?_ rfl ⟨rfl,?_⟩;rw [cX rfl];go_simp;exact j.o.trans (r.ag j.o.size (λk L e=>ZH z.o))
structure Aj (w wr:WD) (a:Nat) (aW:Nat->Nat) (l:List Nat) (k:Nat) (v:Value) (b:List Nat) (g:Value->Option Value):Prop where
 zG:aF .i64 3 w wr v (aE b)
 map:cK prog 3 wr a k g
 cO:w.heap.size<=a
 sep:v.ownBlock≠some a
 OJ:∀j:Nat,g (IV j)=if j∈b then some (.bool true)else none
 iP:∀j∈b,∃q∈l,aW q=j
 all:∀q∈l.take k,aW q∈b
 mE:b.Sublist ((l.take k).map aW)
def Aj.bA{w wr a b l k v c g}(h:Aj w wr a b l k v c g):c.length<=k:=by have:=h.mE.length_le;rw [PB,QI]at this;omega
def qd{a:Nat->Nat}{l:List Nat}{k q}(b:l[k]? =some q):(l.take (k+1)).map a=(l.take k).map a++[a q]:=by rw [Qf,b,Qg];rfl
def Aj.put{w wr i B d a l k v c g}(h:Aj w wr d a l k v c g){q}(z:l[k]? =some q)(M:a q∉c)(H:cK prog 3 i d (k+1) (rD g (IV (a q:Int)) (some (.bool true))))(s:aj (λb=>b=d) wr i)
 {m C} (J:Sl B 3 (SV m (c.length+1) C) (c.length+1) ((aE c).map (Value.int .i64)++[IV (a q:Int)])) (n:aj (λb=>v.ownBlock=some b) i B) (o:v.ownBlock=some m\/i.heap.size<=m):
 Aj w B d a l (k+1) (SV m (c.length+1) C) (c++[a q]) (rD g (IV (a q:Int)) (some (.bool true))):=by
 have⟨E,D,F⟩:=h.zG
 have r:BW w i:=D.trans (s.ag D.size (λb L e=>ZH h.cO))
 have I:=h.map.lt
 have x:(aE c).length=c.length:=aD c
 have t:aF .i64 3 w i v (aE c):=⟨E.ax s (λb e p=>h.sep (p▸e)),r,F⟩
 have u:=ef t x J n o
 have y:m≠d:=λe=>by obtain f|f:=o;exact h.sep (e▸f);have:=s.size;omega
 refine ⟨by simpa [aE]using u,H.ax n (λe=>h.sep e),h.cO,λe=>y (Qh e),λj=>?_,λj G=>?_,λK A=>?_,by rw [qd z];exact h.mE.append (TS _)⟩
 by_cases e:j=a q
 subst e
 rw [ft,PW (Qt _ (Pc.2 rfl))]
 rw [cV _ _ _ _ (λp=>e (ZH ((RJ p).2))),h.OJ j]
 have:j∈c++[a q]↔j∈c:=by simp [e]
 simp only [this]
 obtain f|f:=PC.1 G
 exact h.iP j f
 rw [Pc.1 f];exact ⟨q,Pm z,rfl⟩
 obtain f|rfl:=qs z A
 exact P0 _ (h.all K f)
 exact Qt _ (Pc.2 rfl)
def Ir(w:WD)(b:Nat->Nat)(l:List Nat)(e:Ending)(f:WD):Prop:=
 ∃a m c d,e=RT (SL a m c)/\aF .i64 3 w f (SL a m c) (aE d)/\d.Sublist (l.map b)/\(∀j∈d,∃q∈l,b q=j)/\∀q∈l,b q∈d
def Dv(w la A lc l T mb n f d)(Z:aG .i64 w la A (aE l))(ak:A<=16777216)(hg:CA w T 0 (.map (some mb)))(hm:cK prog 3 w mb n f)
 (hf:∀q∈l,f (IV q)=some (IV (d q:Int))) (t:∀q∈l,q<=1000000/\d q<=1000000):
 CL 119 #[SL la A lc,PT T] w (Ir w d l):=by
 have⟨Q,I⟩:=EX (w.alloc (.map #[] 0))
 have V:BW w Q:=I▸ah _ _
 have⟨s,aa⟩:=EX w.heap.size
 have ac:=@TU prog
 have D:Hid (l.length=A):=by have:=Z.1;rwa [aD]at this
 have U:Aj w Q s d l 0 (SN) [] (λ_=>none):=by rw [<-I,<-aa];exact ⟨⟨Qd _ _ _ _,ah _ _,λg e=>(ZC e)⟩,cK.aM prog 3 w,Pf _,λe=>(ZC e),λj=>rfl,λj hj=>(ZC hj),λq t=>(ZC t),U1 _⟩
 have H0:=O8 U
 have HL:=O8 Z
 have HG:=O8 hg
 have HM:=O8 hm
 have HF:=O8 hf
 have HQ:=O8 t
 have⟨i3,Y,af,ae,W⟩:=P6 Tryz.eA
 clear U Z hg hm hf t V
 go_enter func119,ntmps119
 go_upto_region 3 with(fail)
 clear ac I
 go_wp2
 go_loopw [4,12] (λv x wr=>∃(k:Nat)(a:OA)(m c:Nat)(o:List Nat)(g:Value->Option Value),k<=A/\x=IV k/\v=SL a m c/\Hid (Aj w wr s d l k (SL a m c) o g)) (λ_ x _=>A-(intOf x).toNat)
 exact ⟨0,none,0,0,[],_,Pz _,rfl,rfl,H0⟩
 clear H0
 obtain ⟨k,a,m,c,o,g,hk,rfl,rfl,i⟩:=hrel
 have ab:o.length=m:=by have:=gy i.o.zG;rwa [aD]at this
 subst ab
 by_cases H:k<A
 ·have ag:(k:Int)<A:=ZO;obtain ⟨q,t⟩:∃q,l[k]? =some q:=⟨_,Pe (ZR D.o H)⟩
  have u:BW w wr:=aX i.o.zG;obtain ⟨-,U|⟨lb,lo,rfl,F⟩⟩:=HL.o.ag u
  ·omega
  have ck:CA wr lb (lo+k) (IV q):=by have:=F k H;rw [cG (ZR D.o H),Pd,t]at this;exact this
  have z:=Pm t;have⟨al,ad⟩:=HQ.o q z;have cg:CA wr T 0 (.map (some mb)):=(u.cell (O9 w _ HG.o)).trans HG.o;have y:=(HM.o.ag u).look mq RK (oS wr) (iL (n:=q) ZO);rw [HF.o q z]at y;simp only [QC]at y;have p:=i.o.map.look mq underlying166 (Mz wr) (iL (n:=d q) ZO);rw [i.o.OJ]at p;have ai:=i.o.bA;by_cases r:d q∈o
  ·rw [PW r]at p;simp only [QC]at p
   have HN:Hid (Aj w wr s d l (k+1) (SL a o.length c) o g):=⟨i.o.zG,i.o.map.mono (Nat.le_succ k),i.o.cO,i.o.sep,i.o.OJ,i.o.iP,λq' h=>(qs t h).elim (i.o.all q') (λe=>e▸r),by rw [qd t];exact i.o.mE.trans (Sj _ _)⟩;generalize d q=nq at y p;clear F t u z r i;go_wp2;go_roundw;exact ⟨k+1,_,_,_,o,g,ZO,ZN,rfl,HN⟩;simp [intOf];omega
  ·rw [Qa r]at p;simp only [Ts]at p
   have⟨w3,P,M,G⟩:=i.o.map.put mq underlying166 (by unfold maxLen;omega) (iL (n:=d q) ZO) (.bool true);have HO:Hid (Sl w3 3 (SL a o.length c) o.length ((aE o).map (Value.int .i64))):=by have h:=(i.o.zG.1.ax G (λb e e2=>i.o.sep (e2▸e)));rwa [aD]at h
   have B:Hid (∀(E K:Nat)(J:WD),Sl J 3 (SV E (o.length+1) K) (o.length+1) ((aE o).map (Value.int .i64)++[IV (d q:Int)])->aj (λk=>(SL a o.length c).ownBlock=some k) w3 J->((SL a o.length c).ownBlock=some E\/w3.heap.size<=E)->
    ∃S,Aj w J s d l (k+1) (SV E (o.length+1) K) (o++[d q]) S):=λE K J h1 h2 h3=>⟨_,i.o.put t r M G h1 h2 h3⟩
   have⟨nq,O⟩:=EX (d q);rw [O]at y p P B ad;clear F t u z r i M G O;go_wp2_with (first
    |(at_builtin;refine av rfl (.tmp 25) (.tmp 27) 33 rfl 3 i3 (IV 0) 8 QD Y af ae W rfl ZD _ _ _ rfl HO.o _ rfl rfl ZO ?_;intro E K J hs L N;have HE:=O8 (B.o E K J hs L N);clear hs L N))
   go_roundw;case rel=>have⟨S,X⟩:=HE.o;exact ⟨k+1,_,_,_,_,S,ZO,ZN,rfl,O8 X⟩
   case measure=>simp [intOf];omega
 ·obtain rfl:k=A:=ZO;have R:Hid (Ir w d l (RT (SL a o.length c)) wr):=by have C:=i.o.all;rw [PI (by rw [D.o];exact Pf _)]at C;exact ⟨_,_,_,o,rfl,i.o.zG,i.o.mE.trans ((List.take_sublist _ _).map _),i.o.iP,C⟩
  clear i;go_wp2;go_ret;exact R.o
end
section
open Go.Maps
structure C8 (aW:Nat->Nat) (l js:List Nat):Prop where
 mE:js.Sublist (l.map aW)
 iP:∀j∈js,∃q∈l,aW q=j
 all:∀q∈l,aW q∈js
def C8.bA{a l js}(h:C8 a l js):js.length<=l.length:=by have:=h.mE.length_le;rwa [PB]at this
def NB(C:List Nat->List Nat->Prop)(x y:dk):Prop:=y.need=x.need/\y.ban=x.ban/\y.inn=x.inn/\C (dk.tO x) (dk.tO y)
structure iU (w wr:WD) (x0 sets:Nat) (src:List dk) (C:List Nat->List Nat->Prop) (ini0:List Nat) (ob:Nat) (t:dN) (js:List Nat) (ov:Value) (O:List (dk×dN)):Prop where
 o:fZ wr ob (λk=>k<=x0) sets t js ov O
 aJ:BW w wr
 bG:∀k,gX ob ov k->w.heap.size<=k
 n8:C ini0 js
 cS:O.length<=src.length
 Cp:∀(j:Nat)(x:dk)(y:dk×dN),src[j]? =some x->O[j]? =some y->NB C x y.1
section
variable {w wr wb w1 w2 w3 w4 w':WD} {x0 sets:Nat} {src:List dk} {C:List Nat->List Nat->Prop} {ini0:List Nat} {ob:Nat} {t:dN} {js:List Nat} {ov ov':Value} {O:List (dk×dN)}
def iU.ag(h:iU w wr x0 sets src C ini0 ob t js ov O)(a:BW wr w1):iU w w1 x0 sets src C ini0 ob t js ov O:=
 ⟨h.o.ag a,h.aJ.trans (a.mono h.aJ.size),h.bG,h.n8,h.cS,h.Cp⟩
def iU.aM{a m c}(I:x0<w.heap.size)(H:w.heap.size<=ob)(p:BW w w')(g:HC w' ob #[IV 0,SN,SN] 36)
 (u:aF .i64 3 w w' (SL a m c) (aE js)) (d:js.length<=16777216) (F:C ini0 js) (e:w4=((w'.setCell (AD ob 0) (IV sets)).setCell (AD ob 1) (SL a m c)).setCell (AD ob 2) (SN)):
 iU w w4 x0 sets src C ini0 ob (a,m,c) js (SN) []:=by
 have z:CA w' ob 0 (IV 0):=CH g
 have A:CA w' ob 1 (SN):=CH g
 have B:CA w' ob 2 (SN):=CH g
 obtain ⟨-,-,-,q⟩:=bX z A B w4 e
 have o:∀b,(SL a m c).ownBlock=some b->b≠ob:=λb l D=>S8 u.1 g ZD (D▸l)
 have G:=p9 (S:=λk=>k=ob\/k<=x0) u d (λb l E s=>s.elim (o b l) (λs=>ZO))
 refine ⟨fZ.aM ?_ (G.ax q (λk s=>.inl (.inl s)) (λk s=>.inl s)),p.trans (q.ag p.size (λk E J=>ZO)),λk s=>?_,F,Pz _,λj x y _ h=>(ZC h)⟩
 rw [e];simp [HC,World.setCell,P7,g]
 obtain s|s:=s
 omega
 cases s
def iU.step(h:iU w wr x0 sets src C ini0 ob t js ov O){x}(u:src[O.length]? =some x){y}(F:NB C x y.1)(A:BW wr w1)
 (e:fF w1 (pK ob ov (λk=>k<=x0)) y.2 (dk.tO y.1)) (d:w2.ownsRow 0 62 4 ov' (O.length+1) (dp O++rZ y)) (p:aj (λk=>ov.ownBlock=some k) w1 w2) (D:∀b,ov'.ownBlock=some b->ov.ownBlock=some b\/w1.heap.size<=b) (z:w3=w2.setCell (AD ob 2) ov'):
 iU w w3 x0 sets src C ini0 ob t js ov' (O++[y]):=by
 have g:=h.ag A
 have⟨E,m,o⟩:=g.o.dT y e (Pn _ w1) d p D z
 refine ⟨E,g.aJ.trans (m.ag g.aJ.size (λk p s=>ZH (h.bG k s))),λk s=>?_,h.n8,?_,λj a b l c=>?_⟩
 obtain s|s:=s
 exact h.bG k (.inl s)
 obtain s|s:=o k s
 exact h.bG k (.inr s)
 have:=g.aJ.size;omega
 have:=(Po.1 u).1
 rw [Pk,Qi];omega
 obtain q|q:=Re j O.length
 rw [Pp q]at c;exact h.Cp j a b l c
 have B:j=O.length:=by have:=(Po.1 c).1;rw [Pk,Qi]at this;omega
 subst B
 rw [Qm]at c
 cases c
 rw [u]at l;cases l
 exact F
def iU.row(h:iU w wr x0 sets src C ini0 ob t js ov O)(j:x0<w.heap.size)(d:BW wr wb){a m c l}
 (g:aF .i64 3 wb w1 (SL a m c) (aE l)) (e:l.length<=16777216):fF w1 (pK ob ov (λk=>k<=x0)) (a,m,c) l:=
 p9 g e λb o p s=>by have:=h.aJ.size;have:=d.size;obtain s|s:=s;have:=h.o.dY b s;omega;omega
end
structure Bw (n:Nat) (r:Nat->Nat->Bool) (i:Nat) (ks:List Nat) (aW:Nat->Nat):Prop where
 rep:∀q,q<i->∃k,ks[aW q]? =some k/\r q k=true/\r k q=true
 mE:ks.Sublist (List.range i)
 full:ks.length=i->∀q,q<i->aW q=q
def Bw.lt{n r i ks a}(h:Bw n r i ks a):∀k∈ks,k<i:=λk b=>P5.1 (h.mE.subset b)
def Bw.bA{n r i ks a}(h:Bw n r i ks a):ks.length<=i:=by have:=h.mE.length_le;rwa [Qp]at this
structure oU (w wr:WD) (mb gb n:Nat) (r:Nat->Nat->Bool) (v:Value) (ks:List Nat) (f:Value->Option Value) (i:Nat):Prop where
 zG:aF .i64 3 w wr v (aE ks)
 map:cK prog 3 wr mb i f
 cO:w.heap.size<=mb
 sep:v.ownBlock≠some mb
 ne:mb≠gb
 MS:w.heap.size<=gb
 box:wr.heap[gb]? =some (.cells #[.map (some mb)] 152 (0,0))
 aW:∃aW:Nat->Nat,(∀q,q<i->f (IV q)=some (IV (aW q:Int)))/\Bw n r i ks aW
section
variable {w wr w1 w2:WD} {mb gb n:Nat} {r:Nat->Nat->Bool} {v:Value} {ks:List Nat} {f:Value->Option Value} {i:Nat}
def oU.ag(h:oU w wr mb gb n r v ks f i)(a:BW wr w1):oU w w1 mb gb n r v ks f i:=
 ⟨iu h.zG a,h.map.ag a,h.cO,h.sep,h.ne,h.MS,(a.block _ (Pb.1 h.box).1).trans h.box,h.aW⟩
def oU.aM(e:w1=(w.alloc (.map #[] 0)).alloc (CE #[.map (some w.heap.size)] 152)):oU w w1 w.heap.size (w.heap.size+1) n r (SN) [] (λ_=>none) 0:=by have b:(w.alloc (.map #[] 0)).heap.size=w.heap.size+1:=PL _ _;refine ⟨⟨Qd _ _ _ _,e▸af (ah _ _) (ah _ _),λg h=>(ZC h)⟩,e▸(cK.aM prog 3 w).ag (ah _ _),Pf _,λh=>(ZC h),ZO,ZO,?_,λ_=>0,λq a=>ZO,λq a=>ZO,U1 _,λ_ q a=>ZO⟩;rw [e,<-b];exact (Ph _ _).1
def KA{q i x:Nat}:rD f (IV i) (some (IV x)) (IV q)=if q=i then some (IV x)else f (IV q):=by by_cases e:q=i;subst e;rw [ft,PW rfl];rw [cV _ _ _ _ (λa=>e (ZH ((RJ a).2))),Qa e]
def oU.aJ(h:oU w wr mb gb n r v ks f i)(u:i<n){k x:Nat}(s:k<i)(z:f (IV k)=some (IV x))(F:r i k=true)(o:r k i=true)
 (l:∀a b c,r a b=true->a<n->b<n->c<n->r b c=true->r a c=true) (B:cK prog 3 w1 mb (i+1) (rD f (IV i) (some (IV x)))) (g:aj (λb=>b=mb) wr w1):
 oU w w1 mb gb n r v ks (rD f (IV i) (some (IV x))) (i+1):=by
 have⟨m,p,j⟩:=h.aW
 have D:=h.map.lt
 have e:x=m k:=by rw [p k s]at z;have:=(RJ (Qh z)).2;omega
 refine ⟨⟨h.zG.1.ax g (λb e d=>h.sep (d▸e)),h.zG.2.1.trans (g.ag h.zG.2.1.size (λb I e=>ZH h.cO)),h.zG.2.2⟩,B,h.cO,h.sep,h.ne,h.MS,(g.block _ (Pb.1 h.box).1 (λe=>h.ne e.symm)).trans h.box,λq=>if q=i then x else m q,λq E=>?_,λq E=>?_,by rw [QQ];exact j.mE.trans (Sj _ _),λe=>ZH j.bA⟩
 rw [KA]
 dsimp only
 by_cases d:q=i
 rw [PW d,PW d]
 rw [Qa d,Qa d];exact p q ZO
 by_cases d:q=i
 have⟨y,A,G,H⟩:=j.rep k s
 have J:=j.lt y (Pm A)
 refine ⟨y,by rw [PW d,e];exact A,?_,?_⟩
 subst d;exact l _ k _ F u ZO ZO G
 subst d;exact l _ k _ H ZO ZO u o
 rw [Qa d];exact j.rep q ZO
def oU.dJ(h:oU w wr mb gb n r v ks f i)(B:r i i=true)(F:cK prog 3 w1 mb (i+1) (rD f (IV i) (some (IV ks.length))))(d:aj (λb=>b=mb) wr w1)
 {j y} (H:Sl w2 3 (SV j (ks.length+1) y) (ks.length+1) ((aE ks).map (Value.int .i64)++[IV i])) (g:aj (λb=>v.ownBlock=some b) w1 w2) (m:v.ownBlock=some j\/w1.heap.size<=j):
 oU w w2 mb gb n r (SV j (ks.length+1) y) (ks++[i]) (rD f (IV i) (some (IV ks.length))) (i+1):=by
 have⟨x,E,o⟩:=h.aW
 have G:=h.map.lt
 have l:aF .i64 3 w w1 v (aE ks):=⟨h.zG.1.ax d (λb e c=>h.sep (c▸e)),h.zG.2.1.trans (d.ag h.zG.2.1.size (λb J e=>ZH h.cO)),h.zG.2.2⟩
 have p:=ef l (aD ks) H g m
 have a:=(d.block _ (Pb.1 h.box).1 (λe=>h.ne e.symm)).trans h.box
 have s:j≠mb:=λe=>by obtain z|z:=m;exact h.sep (e▸z);have:=d.size;omega
 have u:v.ownBlock≠some gb:=S8 l.1 a ZD
 refine ⟨by simpa [aE]using p,F.ax g (λe=>h.sep e),h.cO,λe=>s (Qh e),h.ne,h.MS,(g.block _ (Pb.1 a).1 u).trans a,λq=>if q=i then ks.length else x q,λq A=>?_,λq A=>?_,by rw [QQ];exact o.mE.append (TS _),λe q A=>?_⟩
 rw [KA]
 dsimp only
 by_cases c:q=i
 rw [PW c,PW c]
 rw [Qa c,Qa c];exact E q ZO
 by_cases c:q=i
 subst c
 exact ⟨q,by rw [PW rfl,Qm],B,B⟩
 rw [Qa c]
 have⟨k,D,I⟩:=o.rep q ZO
 exact ⟨k,by rw [Pp (Po.1 D).1];exact D,I⟩
 have e:ks.length=i:=by rw [Pk,Qi]at e;omega
 (try dsimp only)
 by_cases c:q=i
 rw [PW c,c];exact e
 rw [Qa c];exact o.full e q ZO
end
def Iy(w:WD)(A:Au)(e:Ending)(w':WD):Prop:=
 BW w w'/\∃D v R b a,e=RT v/\FI w' D v/\gL D/\lj A R/\Df A D R b a/\gG A D
def E0{ks:List Nat}{j k}(h:ks[j]? =some k):ks.getD j 0=k:=by rw [Pd,h];rfl
def qW{b}{l:List Nat}(h:∀q∈l,b q=q):l.map b=l:=by
 induction l with
 |nil=>rfl
 |cons a l d=>rw [Pv,h a P2,d (λq c=>h q (Qc _ c))]
def gZ(A:Au):(List.range A.ak.length).map A.ay=A.ak:=by refine Rl ZS λi b a=>?_;rw [Tp,S6];unfold Au.ay;rw [Pd,Pe a];rfl
def El{A}(s:gL A){ks}(h:ks.Sublist (List.range A.ak.length)){js N}(p:js.length<=A.aP.length)(g:N.length=ks.length)
 (c:∀(j:Nat)(x y),(ks.map A.ay)[j]? =some x->N[j]? =some y->(dk.tO y).length<=(dk.tO x).length)
 (a:ks=List.range A.ak.length->js.Sublist A.aP/\∀(j:Nat)(x y),A.ak[j]? =some x->N[j]? =some y->y.need=x.need/\y.ban=x.ban/\y.inn=x.inn/\(dk.tO y).Sublist (dk.tO x)):gG A ⟨A.sets,js,N⟩:=by
 have q:=vF _ _ (by rw [g,PB]) c
 have d:=Fk (h.map A.ay)
 rw [gZ]at d
 refine ⟨by show js.length+iD N<=A.aP.length+iD A.ak;omega,λe=>?_⟩
 have e:js.length+iD N=A.aP.length+iD A.ak:=e
 have k:=d.2 ZO
 have b:ks.length=A.ak.length:=by rw [<-k,PB]
 have l:ks=List.range A.ak.length:=h.eq_of_length (by rw [Qp];exact b)
 have⟨m,o⟩:=a l
 exact (sh m (ZR g b) o).2 e
def AY{A r}(d:gL A){ks a}(o:Bw A.ak.length r A.ak.length ks a){js N}(m:C8 a A.aP js)(s:N.length=ks.length)
 (p:∀(j:Nat)(x y),(ks.map A.ay)[j]? =some x->N[j]? =some y->NB (C8 a) x y):gG A ⟨A.sets,js,N⟩:=
 El d o.mE m.bA s (λj x y c k=>(p j x y c k).2.2.2.bA) λe=>by have b:=o.full (by rw [e,Qp]);refine ⟨?_,λj x y c k=>?_⟩;have:=m.mE;rwa [qW (λq g=>b q (d.aP q g))]at this;have h:=p j x y (by rw [e,gZ];exact c) k;have l:=h.2.2.2.mE;rw [qW (λq g=>b q (d.mZ x (Pm c) q g))]at l;exact ⟨h.1,h.2.1,h.2.2.1,l⟩
def GX{A r}(s:gL A){ks a}(D:Bw A.ak.length r A.ak.length ks a){js N}(F:C8 a A.aP js)(H:N.length=ks.length)
 (I:∀(j:Nat)(x y),(ks.map A.ay)[j]? =some x->N[j]? =some y->NB (C8 a) x y):
 Df A ⟨A.sets,js,N⟩ (λi k=>i<A.ak.length/\k<A.ak.length/\r i k=true) a (λp=>ks.getD p 0)/\gL ⟨A.sets,js,N⟩:=by
 have l:∀q,q<A.ak.length->a q<N.length:=λq m=>by obtain ⟨k,b,-⟩:=D.rep q m;rw [H];exact (Po.1 b).1
 have d:∀p,p<N.length->∃k,ks[p]? =some k/\k<A.ak.length/\ks.getD p 0=k/\NB (C8 a) (A.ay k) ((⟨A.sets,js,N⟩:Au).ay p):=λp g=>by
  have b:ks[p]? =some ks[p]:=Pe ZO;have z:N[p]? =some N[p]:=Pe g;have J:(⟨A.sets,js,N⟩:Au).ay p=N[p]:=by unfold Au.ay;rw [Pd,z];rfl
  refine ⟨_,b,D.lt _ (Pm b),E0 b,?_⟩;rw [J];exact I p _ _ (by rw [PZ,b];rfl) z
 have c:∀y∈N,∃k,k<A.ak.length/\NB (C8 a) (A.ay k) y:=λy o=>by have⟨j,B⟩:=Rh o;have b:ks[j]? =some (ks[j]'(by have:=(Po.1 B).1;omega)):=Pe _;exact ⟨_,D.lt _ (Pm b),I j _ _ (by rw [PZ,b];rfl) B⟩
 refine ⟨⟨rfl,λp g=>?_,λp g=>?_,λp g=>?_,λp g=>?_,λq m=>?_,F.iP,F.all,λp g j B=>?_,λp g q m=>?_⟩,s.sets,?_,λj B=>?_,λy o k G=>?_,λy o=>?_,λy o=>?_,λy o=>?_,PG F.bA s.il⟩
 obtain ⟨k,-,z,e,-⟩:=d p g
 show ks.getD p 0<_;rw [e];exact z
 obtain ⟨k,-,-,e,h⟩:=d p g
 show _=(A.ay (ks.getD p 0)).need;rw [e];exact h.1
 obtain ⟨k,-,-,e,h⟩:=d p g
 show _=(A.ay (ks.getD p 0)).ban;rw [e];exact h.2.1
 obtain ⟨k,-,-,e,h⟩:=d p g
 show _=(A.ay (ks.getD p 0)).inn;rw [e];exact h.2.2.1
 have⟨k,b,z,K⟩:=D.rep q m
 have E:=D.lt k (Pm b)
 have e:=E0 b
 exact ⟨l q m,⟨m,by show ks.getD (a q) 0<_;rw [e];exact E,by show r q (ks.getD (a q) 0)=true;rw [e];exact z⟩,by show ks.getD (a q) 0<_;rw [e];exact E,m,by show r (ks.getD (a q) 0) q=true;rw [e];exact K⟩
 obtain ⟨k,-,-,e,h⟩:=d p g
 show∃q∈(A.ay (ks.getD p 0)).tO,_
 rw [e];exact h.2.2.2.iP j B
 obtain ⟨k,-,-,e,h⟩:=d p g
 have m:q∈(A.ay (ks.getD p 0)).tO:=m
 rw [e]at m
 exact h.2.2.2.all q m
 show N.length<=256
 rw [H];exact PG D.bA s.many
 obtain ⟨q,b,rfl⟩:=F.iP j B
 exact l q (s.aP q b)
 have⟨x,u,h⟩:=c y o
 obtain ⟨q,b,rfl⟩:=h.2.2.2.iP k G
 exact l q (s.mZ _ (eB u) q b)
 have⟨x,u,h⟩:=c y o
 rw [h.2.2.1];exact s.inn _ (eB u)
 have⟨x,u,h⟩:=c y o
 rw [h.1,h.2.1];exact s.bits _ (eB u)
 have⟨x,u,h⟩:=c y o
 exact PG h.2.2.2.bA (s.tl _ (eB u))
end
section
open Go.Maps
def gM.cell{w v n r}(h:gM w v n r){i k}(p:i<n)(q:k<n):∃b o c e d g,v=SL (some (AD b o)) n c/\CA w b (o+i) (SL (some (AD e d)) n g)/\CA w e (d+k) (.bool (r i k)):=by obtain ⟨a,c,rfl,h⟩:=h;obtain h|⟨b,o,rfl,h⟩:=h;omega;obtain ⟨e,s,g,l,-,⟨f,d,j,m⟩⟩:=h i p;subst j;exact ⟨b,o,c,f,d,g,rfl,l,m k q⟩
def OI(x y:dk):Bool:=decide ((x.need:Int)=y.need)&&(decide ((x.ban:Int)=y.ban)&&decide ((x.inn:Int)=y.inn))
def OL(x y w):(if(x.need:Int)=y.need then if(x.ban:Int)=y.ban then if(x.inn:Int)=y.inn then Result.ok (Next.value (Value.bool true)) w else Result.ok (Next.value (Value.bool false)) w else Result.ok (Next.value (Value.bool false)) w else Result.ok (Next.value (Value.bool false)) w)=Result.ok (Next.value (Value.bool (OI x y))) w:=by unfold OI;by_cases a:(x.need:Int)=y.need<;>by_cases b:(x.ban:Int)=y.ban<;>by_cases c:(x.inn:Int)=y.inn<;>simp only [a,b,c,R0,RI,decide_true,decide_false,Tt,Sp,Qu,QX]
def GW(w A ia il ic na I nc)(hv:cm w A ia il na I)(hA:gL A):
 CL 82 #[.agg #[IV A.sets,SL ia il ic,SL na I nc]] w (Iy w A):=by
 have⟨q,hq⟩:=EX w.heap.size
 have cF:=@TU prog
 have⟨w1,a4⟩:=EX ((w.alloc (CE #[IV A.sets,SL ia il ic,SL na I nc] 36)).alloc (CE #[IV 0,SN,SN] 36))
 have aM:BW w w1:=a4▸af (ah _ _) (ah _ _)
 have s1:w1.heap.size=q+1+1:=by rw [<-a4,PL,PL,hq]
 have bt:w1.heap[q]? =some (.cells #[IV A.sets,SL ia il ic,SL na I nc] 36 (0,0)):=by rw [<-a4,<-hq,(Ph _ _).2 _ (by rw [PL];omega)];exact (Ph w _).1
 have b7:w1.heap[q+1]? =some (.cells #[IV 0,SN,SN] 36 (0,0)):=by rw [<-a4,<-hq,<-PL w (CE #[IV A.sets,SL ia il ic,SL na I nc] 36)];exact (Ph _ _).1
 have bO:=O8 (dZ w1 A ia il ic na I nc (hv.ag aM) hA)
 have bQ:Hid (∀w2,BW w1 w2->CL 116 #[.agg #[IV A.sets,SL ia il ic,SL na I nc]] w2 (vR w2 A)):=λw2 H=>wM w2 A ia il ic na I nc (hv.ag (af aM H)) hA
 have an:Hid (∀d,BW w1 d->d.cell? (AD q 0)=some (IV A.sets)/\d.cell? (AD q 1)=some (SL ia il ic)/\d.cell? (AD q 2)=some (SL na I nc)):=λd h=>by have h2:=(h.block q (Pb.1 bt).1).trans bt;exact ⟨CH h2,CH h2,CH h2⟩
 have HV:Hid (∀d,BW w1 d->cm d A ia il na I):=λd h=>hv.ag (af aM h)
 have HA:=O8 hA
 have cp:=O8 aM
 have cr:=O8 b7
 have HQ:=O8 hq
 have bZ:=O8 s1
 have cU:I<=256:=by rw [<-hv.bA];exact hA.many
 have ab:Hid (A.ak.length=I):=hv.bA
 have cE:il<=16777216:=by have:=hv.aP.1;rw [aD]at this;rw [<-this];exact hA.il
 have⟨i3,cD,cM,cL,b6⟩:=P6 Tryz.eA
 have⟨c0,c1,G⟩:=an.o w1 (Pn _ _)
 clear hv hA aM bt b7 s1
 go_enter func82,ntmps82
 go_upto_region 3 with(go_at_call 23;apply bO.o.mono;rintro e w2 ⟨rfl,bq⟩;have bL:=O8 bq;have bP:=O8 (bQ.o w2 bq);clear bq)
 clear a4 hq c0 c1 G bO
 have⟨d0,d1,d2⟩:=an.o w2 bL.o
 go_upto_region 4 with(go_at_call 116;apply bP.o.mono;rintro e w3 ⟨b5,v,r,rfl,aI,hg⟩;rw [ab.o]at aI;have cq:=O8 b5;have bT:=O8 aI;have HG:=O8 hg;clear b5 aI hg)
 clear d0 d1 d2 bQ bP
 have aJ:Hid (BW w1 w3):=af bL.o cq.o
 have cv:Hid (Valid A):=⟨HA.o.aP,λn hn q hq=>HA.o.mZ _ (eB hn) q hq⟩
 go_upto_region 5 with(fail)
 clear cF
 have⟨mb,ba⟩:=EX w3.heap.size
 have⟨gb,bw⟩:=EX (mb+1)
 have⟨w4,ap⟩:=EX ((w3.alloc (.map #[] 0)).alloc (CE #[.map (some mb)] 152))
 have bB:oU w3 w4 mb gb I r (SN) [] (λ_=>none) 0:=by rw [<-bw,<-ba];exact oU.aM (ZR ba ap.symm)
 (try rw [ba])
 (try rw [bw])
 rw [ap]
 have bS:=O8 bB
 have⟨e0,e1,e2⟩:=an.o w4 (af aJ.o (aX bB.zG))
 clear bB ap ba bw
 go_wp2
 go_loopw [5,24] (λv5 x wr=>∃(i:Nat)(a:OA)(m c:Nat)(Q:List Nat)(f:Value->Option Value),i<=I/\x=IV i/\v5=SL a m c/\Q.length=m/\Hid (oU w3 wr mb gb I r (SL a m c) Q f i)) (λ_ x _=>I-(intOf x).toNat)
 exact ⟨0,none,0,0,[],_,Pz _,rfl,rfl,rfl,bS⟩
 clear bS e0 e1 e2
 obtain ⟨i,a,m,c,Q,f,hi,rfl,rfl,bC,al⟩:=hrel
 have aq:Hid (BW w3 wr):=aX al.o.zG
 by_cases U:i<I
 ·have cc:(i:Int)<I:=ZO;go_upto_block 2 with(fail)
  go_cut [7] (λv7 wd=>Hid (BW wr wd)/\∃k:Nat,v7=IV k/\Hid (k=i\/k<i/\r i k=true/\r k i=true));case first=>
   go_wp2;obtain ⟨wo,rfl⟩:∃wo,wo=wr:=⟨_,rfl⟩;go_loopw [7,29] (λv7 x wr=>∃k:Nat,k<=i/\x=IV k/\v7=IV i/\Hid (BW wo wr)) (λ_ x _=>i-(intOf x).toNat);exact ⟨0,Pz _,rfl,rfl,O8 (Pn _ _)⟩;obtain ⟨k,hk,rfl,rfl,a8⟩:=hrel;by_cases bA:k<i
   ·have cP:(k:Int)<i:=ZO;have b9:(k:Int)<I:=ZO
    have bs:BW w1 wr:=af aJ.o (af aq.o a8.o);have aR:BW w3 wr:=af aq.o a8.o;have bG:=HV.o wr bs;have bb:i<A.ak.length:=ZR ab.o U;have ci:k<A.ak.length:=ZO;obtain ⟨nb,no,x,rfl,-,bc,-,xa,xl,xc,k0,k1,k2,k3,-⟩:=bG.nd ci;obtain ⟨cY,cZ,y,e',-,cH,-,ya,yl,yc,j0,j1,j2,j3,-⟩:=bG.nd bb;cases e'
    obtain ⟨bf,mo,mc,ra,ro,rc,rfl,m0,m1⟩:=(bT.o.ag aR).cell (n:=I) U (Nat.lt_trans bA U);have⟨cQ,cW,cV,rb,rq,rd,e',W,m3⟩:=(bT.o.ag aR).cell (n:=I) (Nat.lt_trans bA U) U;cases e'
    obtain ⟨-,-,b2⟩:=an.o wr bs;have M:Hid (∀F,Below wr.drew.heap.size wr.drew F->F.cell? (AD q 2)=some (SL (some (AD nb no)) I nc)/\F.cell? (AD nb (no+k*4))=some (UV x.need)/\F.cell? (AD nb (no+k*4+1))=some (UV x.ban)/\F.cell? (AD nb (no+k*4+2))=some (UV x.inn)/\F.cell? (AD nb (no+k*4+3))=some (SL xa xl xc)/\F.cell? (AD nb (no+i*4))=some (UV y.need)/\F.cell? (AD nb (no+i*4+1))=some (UV y.ban)/\F.cell? (AD nb (no+i*4+2))=some (UV y.inn)/\F.cell? (AD nb (no+i*4+3))=some (SL ya yl yc)/\F.cell? (AD bf (mo+i))=some (SL (some (AD ra ro)) I rc)/\F.cell? (AD ra (ro+k))=some (.bool (r i k))/\F.cell? (AD bf (mo+k))=some (SL (some (AD rb rq)) I rd)/\F.cell? (AD rb (rq+i))=some (.bool (r k i))):=λF h=>by have h2:BW wr F:=(Pn _ _).drew.trans h;have kp:∀{p:Addr}{v:Value},wr.cell? p=some v->F.cell? p=some v:=λh=>(h2.cell (O9 wr _ h)).trans h;exact ⟨kp b2,kp k0,kp k1,kp k2,kp k3,kp j0,kp j1,kp j2,kp j3,kp m0,kp m1,kp W,kp m3⟩
    have bV:Hid (∀(d:WD)(z:dk)(t:dN),CL 118 #[.agg #[UV z.need,UV z.ban,UV z.inn,SL t.1 t.2.1 t.2.2]] d λe J=>e=RT (.agg #[UV z.need,UV z.ban,UV z.inn])/\BW d J):=λd z t=>D8 d _ _ _ t;have a3:=M.o wr.drew (Pn _ _);have bg:Hid (BW wo wr.drew):=a8.o.drew;clear bG bs aR bb ci b2 k0 k1 k2 k3 j0 j1 j2 j3 m0 m1 W m3 bc cH;go_upto_region 12 with(fail);refine aw 30 (S:=λF=>F.cell? (AD q 2)=some (SL (some (AD nb no)) I nc)/\F.cell? (AD nb (no+k*4))=some (UV x.need)/\F.cell? (AD nb (no+k*4+1))=some (UV x.ban)/\F.cell? (AD nb (no+k*4+2))=some (UV x.inn)/\F.cell? (AD nb (no+k*4+3))=some (SL xa xl xc)/\F.cell? (AD nb (no+i*4))=some (UV y.need)/\F.cell? (AD nb (no+i*4+1))=some (UV y.ban)/\F.cell? (AD nb (no+i*4+2))=some (UV y.inn)/\F.cell? (AD nb (no+i*4+3))=some (SL ya yl yc)/\F.cell? (AD bf (mo+i))=some (SL (some (AD ra ro)) I rc)/\F.cell? (AD ra (ro+k))=some (.bool (r i k))/\F.cell? (AD bf (mo+k))=some (SL (some (AD rb rq)) I rd)/\F.cell? (AD rb (rq+i))=some (.bool (r k i))) ZK (a3) (λac=>?_);refine aB 0 ?_ [22,13,12,5,4,3,1,0];refine aB 1 ?_ [22,13,12,5,4,3,1];refine aB 2 ?_ [22,13,12,5,4,3,2];refine aB 3 ?_ [22,13,12,5,4,3];refine aB 4 ?_ [22,13,12,5,4];refine aB 6 ?_ [22,13,11,10,9,7,6];refine aB 7 ?_ [22,13,11,10,9,7];refine aB 8 ?_ [22,13,11,10,9,8];refine aB 9 ?_ [22,13,11,10,9];refine aB 10 ?_ [22,13,11,10];clear ac a3;refine bY [5,11] (λi=>if i=5 then 37 else 43) #[true,true,true,true,true,true,true,true,true,true,true,true,false,false,false,false,false,false,false,false,false,false,false,false,false,false,false,false,false,false,false] 19
     (λi u w=>match i with|5=>u=.agg #[UV x.need,UV x.ban,UV x.inn]|_=>u=.agg #[UV y.need,UV y.ban,UV y.inn]) ZK ZK rfl ZD ?st1 ?st2 ZD ?st3 ?st4
    case st1=>
     intro i u w4 T hu H;split at hu
     ·exact hu
     ·exact hu
    case st2=>exact M.o
    case st3=>
     rintro l V d i o Z cA hi ho hr hJ K E;simp only [PO,QL,Sh]at hi;obtain rfl|rfl:=hi
     ·simp only [PA,Pt,Pu,PJ]at ho;subst ho
      refine aO (bV.o d x (xa,xl,xc)) ?_ (λe w4 ⟨he,H⟩=>⟨_,he,E _ w4 H rfl⟩);clear E;refine ZY ?_;go_simp
     ·simp only [PA,Pt,Pu,PJ]at ho;subst ho
      refine aO (bV.o d y (ya,yl,yc)) ?_ (λe w4 ⟨he,H⟩=>⟨_,he,E _ w4 H rfl⟩);clear E;refine ZY ?_;go_simp
    case st4=>
     intro V d ad hV;refine ZY ?_;have e5:=hV 5 ZD;have bo:=hV 11 ZD;change V 37=_ at e5;change V 43=_ at bo;rw [e5,bo];clear e5 bo hV;refine aK 12 λK E=>?_;go_simp;rw [OL];go_simp;refine E.o _ _ (λ_=>M.o d ad) ?_;clear E K;try walk_nrm
     refine aK 13 λK E=>?_;go_simp;refine E.o _ _ (λ_=>M.o d ad) ?_;clear E K;try walk_nrm
     generalize OI x y=B;have a3:=M.o d ad;have HN:Hid (BW wo d):=bg.o.trans (ad.mono bg.o.size);generalize cx:r i k=C at *;generalize cy:r k i=D at *;cases B
     ·skip;refine fB 14 ?_
      refine fB 15 ?_;refine fB 16 ?_;refine fB 17 ?_;refine fB 18 ?_;refine fB 19 ?_;refine fB 20 ?_;refine aK 21 λK E=>?_;go_simp;refine E.o _ _ (λ_=>M.o d ad) ?_;clear E K;try walk_nrm
      refine aK 22 λK E=>?_;go_simp;refine E.o _ _ (λ_=>M.o d ad) ?_;clear E K;try walk_nrm
      refine fB 23 ?_;refine fB 24 ?_;refine fB 25 ?_;refine fB 26 ?_;refine fB 27 ?_;refine fB 28 ?_;refine fB 29 ?_;refine aK 30 λK E=>?_;go_simp;refine E.q ?_;clear E K;refine az ZK ?_;go_wp2;go_roundw;exact ⟨k+1,ZO,ZN,rfl,HN⟩;simp [intOf];omega
     ·skip;refine' aS (i:=14) (v:=_) rfl ZK (λ_ _ _ h=>h) (Or.inl ⟨by rfl,?hyP14⟩) (by assumption) ?restP14
      case hyP14=>(intro d aC;go_simp;(try with_reducible rfl))
      try walk_nrm
      refine' aS (i:=15) (v:=_) rfl ZK (λ_ _ _ h=>h) (Or.inl ⟨by rfl,?hyP15⟩) (by assumption) ?restP15;case hyP15=>(intro d aC;go_simp;(try with_reducible rfl))
      try walk_nrm
      refine aB 16 ?_ [22,21,20,19,17,16];refine aB 17 ?_ [22,21,20,19,17];refine' aS (i:=18) (v:=_) rfl ZK (λ_ _ _ h=>h) (Or.inl ⟨by rfl,?hyP18⟩) (by assumption) ?restP18;case hyP18=>(intro d aC;go_simp;(try with_reducible rfl))
      try walk_nrm
      refine aB 19 ?_ [22,21,20,19];refine aB 20 ?_ [22,21,20];refine aK 21 λK E=>?_;go_simp;refine E.o _ _ (λ_=>M.o d ad) ?_;clear E K;try walk_nrm
      refine aK 22 λK E=>?_;go_simp;refine E.o _ _ (λ_=>M.o d ad) ?_;clear E K;try walk_nrm
      cases C
      ·skip;refine fB 23 ?_
       refine fB 24 ?_;refine fB 25 ?_;refine fB 26 ?_;refine fB 27 ?_;refine fB 28 ?_;refine fB 29 ?_;refine aK 30 λK E=>?_;go_simp;refine E.q ?_;clear E K;refine az ZK ?_;go_wp2;go_roundw;exact ⟨k+1,ZO,ZN,rfl,HN⟩;simp [intOf];omega
      ·skip;refine' aS (i:=23) (v:=_) rfl ZK (λ_ _ _ h=>h) (Or.inl ⟨by rfl,?hyR23⟩) (by assumption) ?restR23
       case hyR23=>(intro d aC;go_simp;(try with_reducible rfl))
       try walk_nrm
       refine' aS (i:=24) (v:=_) rfl ZK (λ_ _ _ h=>h) (Or.inl ⟨by rfl,?hyR24⟩) (by assumption) ?restR24;case hyR24=>(intro d aC;go_simp;(try with_reducible rfl))
       try walk_nrm
       refine aB 25 ?_ [29,28,26,25];refine aB 26 ?_ [29,28,26];refine' aS (i:=27) (v:=_) rfl ZK (λ_ _ _ h=>h) (Or.inl ⟨by rfl,?hyR27⟩) (by assumption) ?restR27;case hyR27=>(intro d aC;go_simp;(try with_reducible rfl))
       try walk_nrm
       refine aB 28 ?_ [29,28];refine aB 29 ?_;refine aK 30 λK E=>?_;go_simp;refine E.q ?_;clear E K;refine az ZK ?_;cases D
       ·skip;go_wp2
        go_roundw;exact ⟨k+1,ZO,ZN,rfl,HN⟩;simp [intOf];omega
       ·skip;go_wp2
        go_meet;case rel=>exact ⟨HN,k,rfl,O8 (.inr ⟨bA,cx,cy⟩)⟩
   ·obtain rfl:k=i:=ZO;go_wp2
    go_meet;case rel=>exact ⟨a8,k,rfl,O8 (.inl rfl)⟩
  case rest=>
   obtain ⟨cz,k,rfl,bz⟩:=hcut;have aa:=al.o.ag cz.o;have cg:wc.cell? (AD gb 0)=some (.map (some mb)):=CH aa.box;by_cases bx:k=i
   ·subst bx;subst bC
    have⟨wp,cj,aV,aH⟩:=aa.map.put mq RK (by unfold maxLen;omega) (iL (n:=k) ZO) (IV Q.length);have HO:Hid (Sl wp 3 (SL a Q.length c) Q.length ((aE Q).map (Value.int .i64))):=by have h:=(aa.zG.1.ax aH (λb e e2=>aa.sep (e2▸e)));rwa [aD]at h
    have cl:r k k=true:=(HG.o.refl cv.o (ZR ab.o U)).2.2;have bR:Hid (∀(g1 c1:Nat)(w4:WD),Sl w4 3 (SV g1 (Q.length+1) c1) (Q.length+1) ((aE Q).map (Value.int .i64)++[IV k])->aj (λk=>(SL a Q.length c).ownBlock=some k) wp w4->((SL a Q.length c).ownBlock=some g1\/wp.heap.size<=g1)->
     ∃f',oU w3 w4 mb gb I r (SV g1 (Q.length+1) c1) (Q++[k]) f' (k+1)):=λg1 c1 w4 h1 h2 h3=>⟨_,aa.dJ cl aV aH h1 h2 h3⟩
    have cR:Q.length<=16777216:=by obtain ⟨_,-,h⟩:=aa.aW;have:=h.bA;omega
    clear aV aH aa al bz cl;go_wp2_with (first
     |(at_builtin;refine av rfl (.tmp 72) (.tmp 74) 33 rfl 3 i3 (IV 0) 8 QD cD cM cL b6 rfl ZD _ _ _ rfl HO.o _ rfl rfl ZO ?_;intro g1 c1 w4 hs ca aI;have HE:=O8 (bR.o g1 c1 w4 hs ca aI);clear hs ca aI))
    go_roundw;case rel=>have⟨f',cC⟩:=HE.o;exact ⟨k+1,_,_,_,_,f',ZO,ZN,rfl,by rw [Pk];rfl,O8 cC⟩
    case measure=>simp [intOf];omega
   ·have ak:=bz.o.resolve_left bx;obtain ⟨X,aW,-⟩:=aa.aW
    have hx:=aW k ak.1;have cb:=aa.map.look mq RK (oS wc) (iL (n:=k) ZO);rw [hx]at cb;simp only [QC]at cb;have⟨wp,cj,aV,aH⟩:=aa.map.put mq RK (by unfold maxLen;omega) (iL (n:=i) ZO) (IV (X k:Int));have HN:=O8 (aa.aJ U ak.1 hx ak.2.1 ak.2.2 (λa b c h1 ha H hc h2=>(HG.o.trans ⟨ZR ab.o ha,ZR ab.o H,h1⟩ ⟨ZR ab.o H,ZR ab.o hc,h2⟩).2.2) aV aH);have cO:((k:Int)==(i:Int))=false:=by simp;omega
    generalize X k=nk at *;clear aV aH aa al bz ak hx aW bx;go_wp2;go_roundw;exact ⟨i+1,_,_,_,_,_,ZO,ZN,rfl,bC,HN⟩;simp [intOf];omega
 ·obtain rfl:I=i:=ZO;subst bC
  obtain ⟨T,rfl⟩:∃T,T=wr:=⟨_,rfl⟩;have⟨X,aW,aZ⟩:=al.o.aW;have Y:Hid (BW w1 T):=af aJ.o aq.o;have bU:Hid (Bw A.ak.length r A.ak.length Q X):=by rw [ab.o];exact aZ
  have cu:Hid (∀d,BW T d->aG .i64 d a Q.length (aE Q)):=λd H=>(cT al.o.zG).ag H;have ct:Hid (∀k∈Q,k<I):=aZ.lt;have cS:Q.length<=I:=aZ.bA;have bN:Hid (∀(la:OA)(ll lc:Nat)(l:List Nat)(d:WD),BW T d->aG .i64 d la ll (aE l)->ll<=16777216->(∀k∈l,k<A.ak.length)->CL 119 #[SL la ll lc,PT gb] d λe J=>∃P W G L,e=RT (SL P W G)/\aF .i64 3 d J (SL P W G) (aE L)/\C8 X l L):=λla ll lc l d H hr Z hk=>by have ch:=al.o.ag H;have cg:d.cell? (AD gb 0)=some (.map (some mb)):=CH ch.box;refine (Dv d la ll lc l gb mb I f X hr Z cg ch.map (λq hq=>aW q (ZR ab.o.symm (hk q hq))) (λq hq=>?_)).mono λe J ⟨P,W,G,L,he,hm,h1,h2,h3⟩=>⟨P,W,G,L,he,hm,h1,h2,h3⟩;have cK:=hk q hq;obtain ⟨k,h1,-⟩:=aZ.rep q (ZR ab.o.symm cK);have:=(Po.1 h1).1;have:=ab.o;omega
  have bM:Hid (∀d,Below T.drew.heap.size T.drew d->CL 119 #[SL ia il ic,PT gb] d λe J=>∃u,e=RT u/\BW d J/\∃P W G L,u=SL P W G/\aF .i64 3 T J (SL P W G) (aE L)/\C8 X A.aP L):=λd H=>by have H:BW T d:=(Pn _ _).drew.trans H;exact (bN.o ia il ic A.aP d H ((HV.o d (af Y.o H)).aP) cE HA.o.aP).mono λe J ⟨P,W,G,L,he,hm,h1⟩=>⟨_,he,hm.2.1,P,W,G,L,rfl,gY H hm,h1⟩
  have bW:Hid (∀F,Below T.drew.heap.size T.drew F->F.cell? (AD q 0)=some (IV A.sets)/\F.cell? (AD q 1)=some (SL ia il ic)):=λd H=>by have h:=an.o d (af Y.o ((Pn _ T).drew.trans H));exact ⟨h.1,h.2.1⟩
  have⟨e0,e1,e2⟩:=an.o T Y.o;clear al aW aZ U hi aq;go_upto_region 21 with(fail);refine aw 8 (S:=λF=>F.cell? (AD q 0)=some (IV A.sets)/\F.cell? (AD q 1)=some (SL ia il ic)) ZK (⟨e0,e1⟩) (λac=>?_);refine aB 0 ?_;refine aB 1 ?_;refine aB 2 ?_;refine aB 3 ?_;refine aB 4 ?_;clear ac e0 e1 e2;refine bY [5,6,7] (λi=>if i=5 then 88 else if i=6 then 89 else 10) #[true,true,true,true,true,true,true,true,false] 1
   (λi u w=>match i with|5=>(∃P W G L,u=SL P W G/\aF .i64 3 T w (SL P W G) (aE L)/\C8 X A.aP L)|6=>∃x,u=.agg #[IV A.sets,x,SN]/\(∃P W G L,x=SL P W G/\aF .i64 3 T w (SL P W G) (aE L)/\C8 X A.aP L)|_=>∃b,u=PT b/\T.heap.size<=b/\w.heap[b]? =some (.cells #[IV 0,SN,SN] 36 (0,0))) ZK ZK rfl ZD ?st1 ?st2 ZD ?st3 ?st4
  case st1=>
   intro i u w4 c4 hu H;split at hu
   ·obtain ⟨P,W,G,L,h1,h2,h3⟩:=hu;exact ⟨P,W,G,L,h1,iu h2 H,h3⟩
   ·obtain ⟨x,e,P,W,G,L,h1,h2,h3⟩:=hu;exact ⟨x,e,P,W,G,L,h1,iu h2 H,h3⟩
   ·obtain ⟨b,e,h1,h⟩:=hu;exact ⟨b,e,h1,(H.block b (Pb.1 h).1).trans h⟩
  case st2=>exact bW.o
  case st3=>
   rintro l V d i o Z cA hi ho hr hJ K E;simp only [PO,QL,Sh]at hi;obtain rfl|rfl|rfl:=hi
   ·simp only [PA,Pt,Pu,PJ]at ho;subst ho
    refine aO (R:=λe J=>∃u,e=RT u/\BW d J/\∃P W G L,u=SL P W G/\aF .i64 3 T J (SL P W G) (aE L)/\C8 X A.aP L) (f:=119) (args:=#[SL ia il ic,PT gb]) (bM.o d hJ.aJ) ?_ (λe w4 ⟨u,he,H,hu⟩=>⟨u,he,E u w4 H hu⟩);clear E;refine ZY ?_;go_simp
   ·simp only [PA,Pt,Pu,PJ]at ho;subst ho
    have h5:=hJ.oZ 5 ZD (bj (l:=[5]) ZK hr 5 ZS);refine cB (v:=.agg #[IV A.sets,V 88,SN]) (w':=d) ?_ (E _ _ (Pn _ _) ⟨_,rfl,h5⟩);obtain ⟨_,_,_,_,e5,-⟩:=h5;change V 88=_ at e5;clear E;refine ZY ?_;rw [e5];go_simp
   ·simp only [PA,Pt,Pu,PJ]at ho;subst ho
    refine cB (v:=PT d.heap.size) (w':=d.alloc (CE #[IV 0,SN,SN] 36)) ?_ (E _ _ ((Pn _ _).alloc (Pf _) _) ⟨_,rfl,hJ.aJ.size,(Ph d _).1⟩);clear E;refine ZY ?_;go_simp
  case st4=>
   intro V d ad hV;refine ZY ?_;obtain ⟨xv,e6,xa,xm,xc,L,rfl,cf,bv⟩:=hV 6 ZD;have⟨ob,e7,aU,am⟩:=hV 7 ZD;change V 89=_ at e6;change V 10=_ at e7;rw [e6,e7];generalize V 88=c3;have bh:BW T d:=(Pn _ _).drew.trans ad;have c0:d.cell? (AD ob 0)=some (IV 0):=CH am;have c1:d.cell? (AD ob 1)=some (SN):=CH am;have G:d.cell? (AD ob 2)=some (SN):=CH am;have z0:d.frozen? (AD ob 0)=false:=Pg am 0;have z1:d.frozen? (AD ob 1)=false:=Pg am 1;have z2:d.frozen? (AD ob 2)=false:=Pg am 2;refine aK 8 λK E=>?_;go_simp;refine E.q ?_;clear E K;refine az ZK ?_;have⟨w4,ap⟩:=EX (((d.setCell (AD ob 0) (IV A.sets)).setCell (AD ob 1) (SL xa xm xc)).setCell (AD ob 2) (SN));rw [ap];have bJ:q+1<T.heap.size:=ZI bZ.o Y.o.size;have hL:iU T w4 (q+1) A.sets (Q.map A.ay) (C8 X) A.aP ob (xa,xm,xc) L (SN) []:=iU.aM bJ aU bh am cf (PG bv.bA HA.o.il) bv ap.symm;have bn:=O8 bJ;have HL:=O8 hL;clear e6 e7 aU am bh c0 c1 G z0 z1 z2 ap ad hV hL bJ cf bv bM bW;go_wp2;go_loopw [92] (λx wr=>∃(i:Nat)(ov:Value)(O:List (dk×dN)),x=IV i/\O.length=i/\Hid (iU T wr (q+1) A.sets (Q.map A.ay) (C8 X) A.aP ob (xa,xm,xc) L ov O)) (λx _=>Q.length-(intOf x).toNat);exact ⟨0,_,[],rfl,rfl,HL⟩;clear HL;obtain ⟨i,ov,O,rfl,aL,Z⟩:=hrel;obtain ⟨oa,oc,rfl⟩:=bF Z.o.o.cO;by_cases U:i<Q.length
   ·have cc:(i:Int)<Q.length:=ZO;obtain ⟨kn,aA⟩:∃kn,Q[i]? =some kn:=⟨_,Pe U⟩
    have bi:=ct.o kn (Pm aA);have b9:(kn:Int)<I:=ZO;have ar:Hid (BW T wr):=Z.o.aJ;obtain ⟨-,h0|⟨kb,ko,rfl,b8⟩⟩:=cu.o wr ar.o
    ·omega
    have ck:wr.cell? (AD kb (ko+i))=some (IV kn):=by have:=b8 i U;rw [cG U,Pd,aA]at this;exact this
    have hv:=HV.o wr (af Y.o ar.o);obtain ⟨b,o,x,rfl,hx,bc,-,ta,tl,tc,k0,k1,k2,k3,a1⟩:=hv.nd (j:=kn) (by rw [hv.bA];exact bi);have be:x∈A.ak:=Pm hx;have cn:tl<=16777216:=by have:=a1.1;rw [aD]at this;rw [<-this];exact HA.o.tl x be
    obtain ⟨-,-,b2⟩:=an.o wr (af Y.o ar.o);have⟨w6,bd⟩:=EX (wr.alloc (CE #[UV x.need,UV x.ban,UV x.inn,SL ta tl tc] 62));have aQ:BW wr w6:=bd▸ah _ _;have⟨xb,bK⟩:=EX wr.heap.size;have ai:=aT wr #[UV x.need,UV x.ban,UV x.inn,SL ta tl tc] 62;rw [bd,bK]at ai;have bk:=O8 aQ;have HX:Hid ((Q.map A.ay)[O.length]? =some x):=by show _=_;rw [aL,PZ,aA,<-bc];rfl
    have cw:=O8 be;have a5:=O8 aL;have o2:wr.cell? (AD ob 2)=some (SL oa O.length oc):=CH Z.o.o.dB;have bm:Hid (∀F,Below w6.drew.heap.size w6.drew F->F.cell? (AD ob 2)=some (SL oa O.length oc)):=λF H=>by have h2:=af aQ ((Pn _ _).drew.trans H);exact (h2.cell (O9 _ _ o2)).trans o2
    have cs:Hid (CL 119 #[SL ta tl tc,PT gb] w6.drew λe J=>∃u,e=RT u/\Below w6.drew.heap.size w6.drew J/\∃a m c L,u=SL a m c/\aF .i64 3 w6.drew J (SL a m c) (aE L)/\C8 X (dk.tO x) L):=
     (bN.o ta tl tc (dk.tO x) w6.drew (af ar.o aQ.drew) (((a1.ag aQ)).ag (Pn _ _).drew) cn (λk hk=>HA.o.mZ x be k hk)).mono λe J ⟨P,W,G,L,he,hm,h1⟩=>⟨_,he,hm.2.1,P,W,G,L,rfl,hm,h1⟩
    have o5:=bm.o w6.drew (Pn _ _);have b0:=(ai 0 _ rfl).1;have b1:=(ai 1 _ rfl).1;have a6:=(ai 2 _ rfl).1;have b3:=(ai 3 _ rfl).1;have b4:O.length+1<=33554432:=ZO;clear hv hx be bc a1 cn aQ ai aL o2 aA bi b8;go_upto_region 26 with(fail);(try rw [bK]);(try rw [bd]);clear bd bK;refine aw 14 (S:=λF=>F.cell? (AD ob 2)=some (SL oa O.length oc)/\F.cell? (AD xb 0)=some (UV x.need)/\F.cell? (AD xb 1)=some (UV x.ban)/\F.cell? (AD xb 2)=some (UV x.inn)/\F.cell? (AD xb 3)=some (SL ta tl tc)) ZK (⟨o5,b0,b1,a6,b3⟩) (λac=>?_);refine aB 0 ?_ [1,0];refine aB 1 ?_;refine aB 2 ?_ [13,12,3,2];refine aB 3 ?_ [13,12,3];refine aB 4 ?_ [13,12,5,4];refine aB 5 ?_ [13,12,5];refine aB 6 ?_ [13,12,7,6];refine aB 7 ?_ [13,12,7];refine aB 9 ?_ [11,10,9];refine aB 10 ?_ [11,10];refine' aS (i:=8) (v:=_) rfl ZK (λ_ _ _ h=>h) (Or.inl ⟨by rfl,?hyL8⟩) (by assumption) ?restL8;case hyL8=>(intro d aC;go_simp;(try with_reducible rfl))
    try walk_nrm
    clear ac;have bl:Hid (∀F,Below w6.drew.heap.size w6.drew F->(λF=>F.cell? (AD ob 2)=some (SL oa O.length oc)/\F.cell? (AD xb 0)=some (UV x.need)/\F.cell? (AD xb 1)=some (UV x.ban)/\F.cell? (AD xb 2)=some (UV x.inn)/\F.cell? (AD xb 3)=some (SL ta tl tc)) F):=λF H=>⟨bm.o F H,(H.cell (O9 _ _ b0)).trans b0,(H.cell (O9 _ _ b1)).trans b1,(H.cell (O9 _ _ a6)).trans a6,(H.cell (O9 _ _ b3)).trans b3⟩;clear b0 b1 a6 b3 o5 b2 ck;refine aK 11 λK E=>?_;rw [PW (by rfl)];apply aY.o;refine aO (f:=119) cs.o ?_ (λe w7 bE=>?_)
    ·clear E;go_simp
    obtain ⟨u,rfl,a7,P,l2,G,cN,rfl,cd,bu⟩:=bE;refine ⟨_,rfl,?_⟩;refine E.o _ _ (λ_=>bl.o w7 a7) ?_;clear E K;try walk_nrm
    refine aK 12 λK E=>?_;go_simp;refine E.o _ _ (λ_=>bl.o w7 a7) ?_;clear E K;try walk_nrm
    have⟨w8,bH⟩:=EX (w7.alloc (CE #[UV x.need,UV x.ban,UV x.inn,SL P l2 G] 62));have ai:=aT w7 #[UV x.need,UV x.ban,UV x.inn,SL P l2 G] 62;rw [bH]at ai;have br:BW w7 w8:=bH▸ah _ _;have au:Below w6.drew.heap.size w6.drew w8:=af a7 br;refine aK 13 λK E=>?_;go_simp;refine E.o _ _ (λ_=>bl.o w8 au) ?_;clear E K;try walk_nrm
    have ay:BW wr w8:=af bk.o ((Pn _ _).drew.trans au);have a0:w8.ownsRow 0 62 4 (SL oa O.length oc) O.length (dp O):=bp Z.o.o.cO (aj.aC ay) (λg e s=>QE _ (Ps (dx Z.o.o.cO g e) s));have q8:=bm.o w8 au;have f8:w8.frozen? (AD ob 2)=false:=Pg ((ay.block ob Z.o.o.Cr).trans Z.o.o.dB) 2;have bD:¬(SL oa O.length oc).ownBlock=some ob:=λe=>Z.o.o.oK ob e rfl;refine aK 14 λK E=>?_;rw [PW (by rfl)];apply aY.o;refine ke (.tmp 102) (.tmp 114) rfl (SL oa O.length oc) O.length (dp O) rfl a0 (AD w7.heap.size 0) 1 [UV x.need,UV x.ban,UV x.inn,SL P l2 G] rfl rfl (λj u hj=>?_) ZV b4 (λa9 c9 w9 ce ao co=>?_)
    ·rw [QK,PU];exact (ai j u (ZX hj)).1
    have q9:=ao.aq q8 bD;have f9:=(PK (ao.block ob (O9 _ _ q8) bD)).trans f8;have HN:=O8 (Z.o.step (x:=x) (y:=(⟨x.need,x.ban,x.inn,cN⟩,(P,l2,G))) HX.o ⟨rfl,rfl,rfl,bu⟩ ay ((Z.o.row bn.o (bk.o.trans ((Pn _ _).drew.mono bk.o.size)) cd (PG bu.bA (HA.o.tl x cw.o))).ax (aj.aC br) (λk s=>.inr s) (λk s=>.inl s)) ce ao co rfl);refine E.q ?_;clear E K a7 cd bu bH ai br au ay a0 q8 f8 bD ce ao co;refine aK 15 λK E=>?_;go_simp;refine E.q ?_;clear E K;refine aK 16 λK E=>?_;go_simp;refine E.q ?_;clear E K;refine az ZK ?_;go_wp2;go_roundw;exact ⟨i+1,_,_,ZN,by rw [Pk,a5.o];rfl,HN⟩;simp [intOf];omega
   ·obtain rfl:Q.length=i:=by have:=Z.o.cS;rw [PB]at this;omega
    have o0:wr.cell? (AD ob 0)=some (IV A.sets):=CH Z.o.o.dB;have o1:wr.cell? (AD ob 1)=some (SL xa xm xc):=CH Z.o.o.dB;have o2:wr.cell? (AD ob 2)=some (SL oa O.length oc):=CH Z.o.o.dB;have ae:wr.heap[q+1]? =some (.cells #[IV 0,SN,SN] 36 (0,0)):=(Z.o.aJ.block _ bn.o).trans ((Y.o.block _ (ZH bZ.o)).trans cr.o);have c0:wr.cell? (AD (q+1) 0)=some (IV 0):=CH ae;have c1:wr.cell? (AD (q+1) 1)=some (SN):=CH ae;have G:wr.cell? (AD (q+1) 2)=some (SN):=CH ae;have z0:wr.frozen? (AD (q+1) 0)=false:=Pg ae 0;have z1:wr.frozen? (AD (q+1) 1)=false:=Pg ae 1;have z2:wr.frozen? (AD (q+1) 2)=false:=Pg ae 2;have a5:=O8 aL;clear ae aL U;go_wp2;(try simp only [Exit.inBlock,Exit.then]);have⟨w9,bI⟩:=EX (((wr.setCell (AD (q+1) 0) (IV A.sets)).setCell (AD (q+1) 1) (SL xa xm xc)).setCell (AD (q+1) 2) (SL oa O.length oc));rw [bI];have⟨d0,d1,d2,ao⟩:=bX c0 c1 G w9 bI.symm;clear bI c0 c1 G z0 z1 z2 o0 o1 o2;refine Qz (v:=.agg #[IV A.sets,SL xa xm xc,SL oa O.length oc]) ?_ rfl ⟨?_,?_⟩
    ·rw [cX rfl];go_simp
    ·have hB:=af cp.o (af Y.o Z.o.aJ);exact hB.trans (ao.ag hB.size (λk hk e=>ZH HQ.o))
    ·have bb:¬gX ob (SL oa O.length oc) (q+1):=λs=>by have:=Z.o.bG _ s;have:=bn.o;omega
     have cJ:=Z.o.o.ax ao (λk e s=>bb (e▸s)) (λk e=>.inl (Q2 e));have⟨p1,p2⟩:=GX (N:=O.map Prod.fst) HA.o bU.o Z.o.n8 (by rw [PB,a5.o]) (λj x y hx hy=>by rw [PZ]at hy;obtain ⟨z,hz,rfl⟩:=QY.1 hy;exact Z.o.Cp j x z hx hz)
     exact ⟨_,_,_,_,_,rfl,cJ.Dk,p2,HG.o,p1,AY (N:=O.map Prod.fst) HA.o bU.o Z.o.n8 (by rw [PB,a5.o]) (λj x y hx hy=>by rw [PZ]at hy;obtain ⟨z,hz,rfl⟩:=QY.1 hy;exact Z.o.Cp j x z hx hz)⟩
end
end Go.Proofs.YtimniinkpipnmaaGreatDoor
namespace Go.Proofs.YtimniinkpipnmaaGreatDoor.Scc
open Go.RowKit Go.Own
def uI(w:WD)(v:Value)(d:List Int):Prop:=
 ∃a c,v=SL a d.length c/\(d.length=0\/∃b e,a=some (AD b e)/\∀j,j<d.length->w.cell? (AD b (e+j*2))=some (IV (d.getD j 0))/\∃f,w.cell? (AD b (e+j*2+1))=some (IV f))
def fe(w:WD)(a:OA)(E:List (List Int)):Prop:=
 E.length=0\/∃b c,a=some (AD b c)/\∀i,i<E.length->∃v,w.cell? (AD b (c+i))=some v/\uI w v (E.getD i [])
def uI.ag{w w' v d}(h:uI w v d)(k:BW w w'):uI w' v d:=by obtain ⟨a,c,rfl,h⟩:=h;refine ⟨a,c,rfl,h.imp id ?_⟩;rintro ⟨b,f,rfl,l⟩;refine ⟨b,f,rfl,λj m=>?_⟩;have⟨g,e,i⟩:=l j m;exact ⟨(k.cell (O9 w _ g)).trans g,e,(k.cell (O9 w _ i)).trans i⟩
def fe.ag{w w' a E}(h:fe w a E)(e:BW w w'):fe w' a E:=by refine h.imp id ?_;rintro ⟨b,c,rfl,g⟩;refine ⟨b,c,rfl,λi j=>?_⟩;have⟨v,d,f⟩:=g i j;exact ⟨v,(e.cell (O9 w _ d)).trans d,f.ag e⟩
def fe.at{w a E}(h:fe w a E)(i)(o:i<E.length):
 ∃b d f l,a=some (AD b d)/\CA w b (d+i) (.slice f (E.getD i []).length l)/\
  ∀j,j<(E.getD i []).length->∃e c,f=some (AD e c)/\CA w e (c+j*2) (IV ((E.getD i []).getD j 0))/\∃k,CA w e (c+j*2+1) (IV k):=by
 obtain h|⟨b,d,rfl,n⟩:=h
 omega
 obtain ⟨v,m,f,l,rfl,g⟩:=n i o
 refine ⟨b,d,f,l,rfl,m,λj p=>?_⟩
 obtain g|⟨e,c,rfl,g⟩:=g
 omega
 exact ⟨e,c,rfl,g j p⟩
def below_drewN(w q):BW w (w.drewN q):=⟨rfl,rfl,rfl,Pf _,λ_ _=>rfl⟩
section
def Q0:=@List.length_append
def Ip(k:Nat):Prop:=1<=k/\k<=7
def Nr(k:Nat):TypeId:=if k=6 then 4 else 3
structure eO (w:WD) (g:Nat) (ev:Value) (n:Nat) (s:St) (F:Nat->Prop) (C:Nat->Value) (X:Nat->List Value):Prop where
 str:Rec 9 Ip Nr w g C X
 fm:C 0=ev
 cS:C 8=IV s.cS
 aW:X 1=fU n s.aW
 bG:X 2=fU n s.bG
 next:X 3=fU n s.next
 aR:X 4=bI s.aR
 cQ:X 5=bI s.cQ
 inn:X 6=bB n s.inn
 part:X 7=fU n s.part
 eK:∀b,eW Ip g C b->F b
 lt:∀b,F b->b<w.heap.size
def rK(w:WD)(g:Nat)(ev:Value)(n:Nat)(s:St)(F:Nat->Prop):Prop:=∃C X,eO w g ev n s F C X
def ij(g:Nat)(ev:Value)(n:Nat)(s:St)(F:Nat->Prop)(w c:WD):Prop:=∃a,rK c g ev n s a/\aj F w c/\∀b,a b->F b\/w.heap.size<=b
section
variable {w w1:WD} {g n:Nat} {ev:Value} {s:St} {F:Nat->Prop} {C:Nat->Value} {X:Nat->List Value}
def eO.ax{S}(h:eO w g ev n s F C X)(c:aj S w w1)(d:∀b,F b->¬S b):eO w1 g ev n s F C X:=
 {h with str:=h.str.ax c (λb a=>d b (h.eK b a)),lt:=λb a=>Ps (h.lt b a) c.size}
def rK.ax{S}(h:rK w g ev n s F)(c:aj S w w1)(a:∀b,F b->¬S b):rK w1 g ev n s F:=by obtain ⟨C,X,h⟩:=h;exact ⟨C,X,h.ax c a⟩
def rK.ag(h:rK w g ev n s F)(a:BW w w1):rK w1 g ev n s F:=
 h.ax (aj.aC a) (λb hF=>by obtain ⟨C,X,h⟩:=h;have:=h.lt b hF;omega)
def rK.drew(h:rK w g ev n s F):rK w.drew g ev n s F:=h.ag (Pn _ _).drew
def eO.drew(h:eO w g ev n s F C X):eO w.drew g ev n s F C X:=h.ax (S:=λ_=>False) (aj.refl _ w).drew (λ_ _ h=>h)
def ij.refl(h:rK w g ev n s F):ij g ev n s F w w:=⟨F,h,aj.refl _ _,λ_ h=>.inl h⟩
def ij.trans{f j l}(h:ij g ev n f F w w1)(k:∀c,rK w1 g ev n f c->ij g ev n j c w1 l):ij g ev n j F w l:=by obtain ⟨m,p,d,e⟩:=h;have⟨o,r,t,u⟩:=k m p;have x:=d.size;exact ⟨o,r,d.then t (λi v hF=>(e i hF).elim id (λa=>ZO)),λb q=>(u b q).elim (λhF=>e b hF) (λa=>.inr ZO)⟩
def eO.arr(h:eO w g ev n s F C X)(k)(j:Ip k)(p:(X k).length=n)(q:0<n):
 ∃b c,C k=SV b n c/\(∀i,i<n->w.cell? (AD b i)=(X k)[i]? /\FZ w b i)/\b≠g:=by
 have⟨a,c,e,_,_,_,f⟩:=h.str.val k j
 rw [p]at e f
 obtain ⟨b,rfl,_,_⟩:=f 0 q
 refine ⟨b,c,e,λi o=>?_,λd=>h.str.off k j (by rw [e,d];rfl)⟩
 have⟨r,d,l,m⟩:=f i o
 cases d
 exact ⟨l,m⟩
def eO.Nn(h:eO w g ev n s F C X)(m:Nat):eO (w.setCell (AD g 8) (IV m)) g ev n {s with cS:=m} F (up C 8 (IV m)) X where
 str:=h.str.plain 8 ZD (λd=>ZH d.2) _
 fm:=by rw [an _ _ _ _ ZD];exact h.fm
 cS:=aA _ _ _
 aW:=h.aW
 bG:=h.bG
 next:=h.next
 aR:=h.aR
 cQ:=h.cQ
 inn:=h.inn
 part:=h.part
 eK b a:=h.eK b (DK (λk c=>ZH c.2) _ b a)
 lt b a:=by have:=h.lt b a;simpa [World.setCell]using this
def eO.No(h:eO w g ev n s F C X){b c m}(a:C 1=SV b m c)(y v:Nat)(e:y<n):
 eO (w.setCell (AD b y) (IV v)) g ev n {s with aW:=up s.aW y v} F C (up X 1 ((X 1).set y (IV v)))where
 str:=h.str.elem 1 ⟨ZD,ZD⟩ a y _
 fm:=h.fm
 cS:=h.cS
 aW:=by rw [aA,h.aW,kd _ _ _ _ e]
 bG:=by rw [an _ _ _ _ ZD];exact h.bG
 next:=by rw [an _ _ _ _ ZD];exact h.next
 aR:=by rw [an _ _ _ _ ZD];exact h.aR
 cQ:=by rw [an _ _ _ _ ZD];exact h.cQ
 inn:=by rw [an _ _ _ _ ZD];exact h.inn
 part:=by rw [an _ _ _ _ ZD];exact h.part
 eK:=h.eK
 lt b d:=by have:=h.lt b d;simpa [World.setCell]using this
def eO.Kd(h:eO w g ev n s F C X){b c m}(a:C 2=SV b m c)(y v:Nat)(e:y<n):
 eO (w.setCell (AD b y) (IV v)) g ev n {s with bG:=up s.bG y v} F C (up X 2 ((X 2).set y (IV v)))where
 str:=h.str.elem 2 ⟨ZD,ZD⟩ a y _
 fm:=h.fm
 cS:=h.cS
 aW:=by rw [an _ _ _ _ ZD];exact h.aW
 bG:=by rw [aA,h.bG,kd _ _ _ _ e]
 next:=by rw [an _ _ _ _ ZD];exact h.next
 aR:=by rw [an _ _ _ _ ZD];exact h.aR
 cQ:=by rw [an _ _ _ _ ZD];exact h.cQ
 inn:=by rw [an _ _ _ _ ZD];exact h.inn
 part:=by rw [an _ _ _ _ ZD];exact h.part
 eK:=h.eK
 lt b d:=by have:=h.lt b d;simpa [World.setCell]using this
def eO.LR(h:eO w g ev n s F C X){b c m}(a:C 3=SV b m c)(y v:Nat)(e:y<n):
 eO (w.setCell (AD b y) (IV v)) g ev n {s with next:=up s.next y v} F C (up X 3 ((X 3).set y (IV v)))where
 str:=h.str.elem 3 ⟨ZD,ZD⟩ a y _
 fm:=h.fm
 cS:=h.cS
 aW:=by rw [an _ _ _ _ ZD];exact h.aW
 bG:=by rw [an _ _ _ _ ZD];exact h.bG
 next:=by rw [aA,h.next,kd _ _ _ _ e]
 aR:=by rw [an _ _ _ _ ZD];exact h.aR
 cQ:=by rw [an _ _ _ _ ZD];exact h.cQ
 inn:=by rw [an _ _ _ _ ZD];exact h.inn
 part:=by rw [an _ _ _ _ ZD];exact h.part
 eK:=h.eK
 lt b d:=by have:=h.lt b d;simpa [World.setCell]using this
def eO.LS(h:eO w g ev n s F C X){b c m}(a:C 7=SV b m c)(y v:Nat)(e:y<n):
 eO (w.setCell (AD b y) (IV v)) g ev n {s with part:=up s.part y v} F C (up X 7 ((X 7).set y (IV v)))where
 str:=h.str.elem 7 ⟨ZD,ZD⟩ a y _
 fm:=h.fm
 cS:=h.cS
 aW:=by rw [an _ _ _ _ ZD];exact h.aW
 bG:=by rw [an _ _ _ _ ZD];exact h.bG
 next:=by rw [an _ _ _ _ ZD];exact h.next
 aR:=by rw [an _ _ _ _ ZD];exact h.aR
 cQ:=by rw [an _ _ _ _ ZD];exact h.cQ
 inn:=by rw [an _ _ _ _ ZD];exact h.inn
 part:=by rw [aA,h.part,kd _ _ _ _ e]
 eK:=h.eK
 lt b d:=by have:=h.lt b d;simpa [World.setCell]using this
def eO.Kc(h:eO w g ev n s F C X){b c m}(a:C 6=SV b m c)(y v)(e:y<n):
 eO (w.setCell (AD b y) (.bool v)) g ev n {s with inn:=up s.inn y v} F C (up X 6 ((X 6).set y (.bool v)))where
 str:=h.str.elem 6 ⟨ZD,ZD⟩ a y _
 fm:=h.fm
 cS:=h.cS
 aW:=by rw [an _ _ _ _ ZD];exact h.aW
 bG:=by rw [an _ _ _ _ ZD];exact h.bG
 next:=by rw [an _ _ _ _ ZD];exact h.next
 aR:=by rw [an _ _ _ _ ZD];exact h.aR
 cQ:=by rw [an _ _ _ _ ZD];exact h.cQ
 inn:=by rw [aA,h.inn,kH _ _ _ _ e]
 part:=by rw [an _ _ _ _ ZD];exact h.part
 eK:=h.eK
 lt b d:=by have:=h.lt b d;simpa [World.setCell]using this
def eO.pair(h:eO w g ev n s F C X){v u y}(m:aj (λk=>(C 4).ownBlock=some k\/(C 5).ownBlock=some k) w w1)
 (r:Sl w1 3 v ((bI s.aR).length+1) (bI s.aR++[.int .i64 (y:Int)])) (p:dQ w (C 4) v)
 (t:Sl w1 3 u ((bI s.cQ).length+1) (bI s.cQ++[.int .i64 (y:Int)])) (q:dQ w (C 5) u) (f:∀k,v.ownBlock=some k->u.ownBlock≠some k):
 ij g ev n {s with aR:=s.aR++[y],cQ:=s.cQ++[y]} F w ((w1.setCell ⟨g,4,none⟩ v).setCell ⟨g,5,none⟩ u):=by
 have i:Ip 4:=⟨ZD,ZD⟩
 have j:Ip 5:=⟨ZD,ZD⟩
 have o:=h.str.two 4 5 i j ZD v u (bI (s.aR++[y])) (bI (s.cQ++[y])) m (by rw [kP,Q0];exact r) (by rw [kP,Q0];exact t) p q f
 have a:=I5 (g:=g) 4 5 i j v u p q
 have hF:∀b,eW Ip g (up (up C 4 v) 5 u) b->F b\/w.heap.size<=b:=λb c=>(a b c).imp (h.eK b) id
 have d:aj F w w1:=m.mono λk _ e=>e.elim (λe=>h.eK k (.inr ⟨4,i,e⟩)) (λe=>h.eK k (.inr ⟨5,j,e⟩))
 have l:F g:=h.eK g (.inl rfl)
 refine ⟨_,⟨_,_,{
  str:=o
  fm:=by rw [an _ _ _ _ ZD,an _ _ _ _ ZD];exact h.fm
  cS:=by rw [an _ _ _ _ ZD,an _ _ _ _ ZD];exact h.cS
  aW:=by rw [an _ _ _ _ ZD,an _ _ _ _ ZD];exact h.aW
  bG:=by rw [an _ _ _ _ ZD,an _ _ _ _ ZD];exact h.bG
  next:=by rw [an _ _ _ _ ZD,an _ _ _ _ ZD];exact h.next
  aR:=by rw [an _ _ _ _ ZD,aA]
  cQ:=aA _ _ _
  inn:=by rw [an _ _ _ _ ZD,an _ _ _ _ ZD];exact h.inn
  part:=by rw [an _ _ _ _ ZD,an _ _ _ _ ZD];exact h.part
  eK:=λb c=>c
  lt:=o.jO}⟩,(d.setCell (λ_=>l) _).setCell (λ_=>l) _,hF⟩
def ij.of{a}(h:eO w g ev n s F C X){b c}(d:eO w1 g ev n a F b c)(e:aj F w w1):ij g ev n a F w w1:=⟨F,⟨_,_,d⟩,e,λ_ h=>.inl h⟩
def eO.IZ(h:eO w g ev n s F C X){a m c}(l:C 4=SL a m c)(k)(u:k<=s.aR.length):
 eO (w.setCell (AD g 4) (SL a k c)) g ev n {s with aR:=s.aR.take k} F (up C 4 (SL a k c)) (up X 4 (bI (s.aR.take k))):=by
 have r:Ip 4:=⟨ZD,ZD⟩
 have i:=h.str.cO 4 r
 rw [h.aR,bV,l]at i
 have x:m=s.aR.length:=ZH (de i)
 subst x
 have t:=nM i u
 rw [<-rX]at t
 have d:∀(a:OA)(p q c:Nat),(SL a p c).ownBlock=(SL a q c).ownBlock:=λa p q c=>by cases a<;>rfl
 have y:=h.str.slice (w1:=w) 4 r (SL a k c) (bI (s.aR.take k)) (by rw [bV,QI,Ui u];exact t) (aj.refl _ _) (.inl (by rw [l];exact d _ _ _ _))
 exact {
  str:=y
  fm:=by rw [an _ _ _ _ ZD];exact h.fm
  cS:=by rw [an _ _ _ _ ZD];exact h.cS
  aW:=by rw [an _ _ _ _ ZD];exact h.aW
  bG:=by rw [an _ _ _ _ ZD];exact h.bG
  next:=by rw [an _ _ _ _ ZD];exact h.next
  aR:=aA _ _ _
  cQ:=by rw [an _ _ _ _ ZD];exact h.cQ
  inn:=by rw [an _ _ _ _ ZD];exact h.inn
  part:=by rw [an _ _ _ _ ZD];exact h.part
  eK:=λb o=>h.eK b (by obtain rfl|⟨j,v,e⟩:=o;exact .inl rfl;by_cases f:j=4;subst f;rw [aA]at e;exact .inr ⟨4,r,by rw [l,d a _ k c];exact e⟩;rw [an _ _ _ _ f]at e;exact .inr ⟨j,v,e⟩)
  lt:=λb o=>by have:=h.lt b o;simpa [World.setCell]using this}
def eO.MQ(h:eO w g ev n s F C X){a m c}(l:C 5=SL a m c)(k)(u:k<=s.cQ.length):
 eO (w.setCell (AD g 5) (SL a k c)) g ev n {s with cQ:=s.cQ.take k} F (up C 5 (SL a k c)) (up X 5 (bI (s.cQ.take k))):=by
 have r:Ip 5:=⟨ZD,ZD⟩
 have i:=h.str.cO 5 r
 rw [h.cQ,bV,l]at i
 have x:m=s.cQ.length:=ZH (de i)
 subst x
 have t:=nM i u
 rw [<-rX]at t
 have d:∀(a:OA)(p q c:Nat),(SL a p c).ownBlock=(SL a q c).ownBlock:=λa p q c=>by cases a<;>rfl
 have y:=h.str.slice (w1:=w) 5 r (SL a k c) (bI (s.cQ.take k)) (by rw [bV,QI,Ui u];exact t) (aj.refl _ _) (.inl (by rw [l];exact d _ _ _ _))
 exact {
  str:=y
  fm:=by rw [an _ _ _ _ ZD];exact h.fm
  cS:=by rw [an _ _ _ _ ZD];exact h.cS
  aW:=by rw [an _ _ _ _ ZD];exact h.aW
  bG:=by rw [an _ _ _ _ ZD];exact h.bG
  next:=by rw [an _ _ _ _ ZD];exact h.next
  aR:=by rw [an _ _ _ _ ZD];exact h.aR
  cQ:=aA _ _ _
  inn:=by rw [an _ _ _ _ ZD];exact h.inn
  part:=by rw [an _ _ _ _ ZD];exact h.part
  eK:=λb o=>h.eK b (by obtain rfl|⟨j,v,e⟩:=o;exact .inl rfl;by_cases f:j=5;subst f;rw [aA]at e;exact .inr ⟨5,r,by rw [l,d a _ k c];exact e⟩;rw [an _ _ _ _ f]at e;exact .inr ⟨j,v,e⟩)
  lt:=λb o=>by have:=h.lt b o;simpa [World.setCell]using this}
def eO.zh(h:eO w g ev n s F C X)(k)(o:Ip k){b m c}(f:C k=SV b m c)(i)(l:i<(X k).length):w.cell? (AD b i)=(X k)[i]? /\FZ w b i:=by
 have⟨p,r,e,_,_,_,j⟩:=h.str.val k o;rw [f]at e;cases e
 have⟨q,a,d⟩:=j i l;cases a
 exact d
end
end
end Go.Proofs.YtimniinkpipnmaaGreatDoor.Scc
namespace Go.Own
open Go.RowKit
section
def RA:=@Go.World.cell?_alloc_at
def eI{P w o a K Q}(s x t)
 (J:o.op=.call {callee:=.builtin .append,args:=#[s,x],argTypes:=#[t,t]})
 (e i z f) (N:P.underlying t=some (.slice e)) (I:P.info? e=some i) (S:i.zero=some z)
 (m:i.size=1) (C:i.bytes=f) (D:z.cells.size=1) (y:1<=f)
 (v n xs) (M:a.eval s=v) (r:Sl w e v n xs)
 (q u) (O:u.oneCell'=true) (R:a.eval x=SL (some q) 1 1) (H:w.cell? q=some u) (g:(n+1)*f<=140737488355328)
 (h:∀B w',Sl w' e B (n+1) (xs++[u])->aj (λk=>v.ownBlock=some k) w w'->dQ w v B->K (a.put o.dst B) w'):aY P o a w K Q:=by
 constructor
 have⟨B,w',L,E,F,G⟩:=eM (P:=P) w t o.type e i z f N I S m C D y v n xs r q 1 1 [u] rfl (by
  intro j T p;match j,p with
  |0,p=>
   simp at p;subst p;have:q.add 0=q:=by simp [Addr.add]
   rw [this];exact H
  |j+1,p=>simp at p) (by intro T A;simp at A;subst A;exact O) g
 unfold Oper.wp execOp
 simp only [J,resolve,invoke,builtin,Rv,R6,Q9,Rm,Pv,PE,M,R,L]
 exact h B w' E F G
def yZ(w2 w:WD)(v u:Value):Prop:=∃q,v=SV q 1 1/\w.cell? (AD q 0)=some u/\w2.heap.size<=q
def yZ.ax{w2 w w' v u S}(h:yZ w2 w v u)(k:aj S w w')(j:∀b,S b->b<w2.heap.size):yZ w2 w' v u:=by obtain ⟨q,f,g,i⟩:=h;exact ⟨q,f,k.aq g (λm=>ZH (j q m)),i⟩
structure lk (a b c d:Nat) (da db dc dd:Nat) (e:TypeId) (w2:WD) (vs vw:Value) (xs ys:List Value) (u:Value) (l:Array Bool) (V:Nat->Value) (w:WD):Prop where
 ax:aj (λk=>vs.ownBlock=some k\/vw.ownBlock=some k) w2 w
 N5:l.getD a false=true->l.getD b false=false->yZ w2 w (V da) u
 M6:l.getD c false=true->l.getD d false=false->yZ w2 w (V dc) u
 Oa:l.getD b false=false->Sl w e vs xs.length xs
 Nf:l.getD d false=false->Sl w e vw ys.length ys
 Cm:l.getD b false=true->Sl w e (V db) (xs.length+1) (xs++[u])/\dQ w2 vs (V db)
 Cn:l.getD d false=true->Sl w e (V dd) (ys.length+1) (ys++[u])/\dQ w2 vw (V dd)/\∀k,(V db).ownBlock=some k->(V dd).ownBlock≠some k
section
variable {a b c d da db dc dd:Nat} {e:TypeId} {w2 w w':WD} {vs vw:Value} {xs ys:List Value} {u:Value} {l:Array Bool} {V:Nat->Value}
def fX{l:Array Bool}{i j}(h:i≠j)(f):(l.setIfInBounds i true).getD j f=l.getD j f:=RV f h
def vC{l:Array Bool}{i}(h:i<l.size)(f):(l.setIfInBounds i true).getD i f=true:=by simp [h]
def lk.aM(o:aj (λk=>vs.ownBlock=some k\/vw.ownBlock=some k) w2 w)(f:Sl w e vs xs.length xs)(g:Sl w e vw ys.length ys)
 (i:l.getD a false=false) (j:l.getD b false=false) (m:l.getD c false=false) (n:l.getD d false=false):lk a b c d da db dc dd e w2 vs vw xs ys u l V w:=
 ⟨o,λh=>(by rw [i]at h;cases h),λh=>(by rw [m]at h;cases h),λ_=>f,λ_=>g,λh=>(by rw [j]at h;cases h),λh=>(by rw [n]at h;cases h)⟩
def lk.laid{i g}(h:lk a b c d da db dc dd e w2 vs vw xs ys u l V w)(y:∀k,vs.ownBlock=some k->k<w2.heap.size)(hw:∀k,vw.ownBlock=some k->k<w2.heap.size)
 (r:i=a/\g=da\/i=c/\g=dc) (m:b≠i) (n:d≠i) (q:a≠c) (s:db≠g) (v:dd≠g) (t:da≠dc):
 lk a b c d da db dc dd e w2 vs vw xs ys u (l.setIfInBounds i true) (up V g (SV w.heap.size 1 1)) (w.alloc (CE #[u] e)):=by
 have o:aj (λ_=>False) w (w.alloc (CE #[u] e)):=(aj.refl _ w).alloc _
 have j:yZ w2 (w.alloc (CE #[u] e)) (SV w.heap.size 1 1) u:=⟨w.heap.size,rfl,RA (w:=w) #[u] e w.heap.size 0 rfl,h.ax.size⟩
 refine ⟨h.ax.alloc _,λf p=>?_,λf p=>?_,λf=>?_,λf=>?_,λf=>?_,λf=>?_⟩
 rw [fX (Rz m)]at p
 by_cases e:i=a
 have:g=da:=r.elim (λx=>x.2) (λx=>absurd (e.symm.trans x.1) q)
 subst this;rw [aA];exact j
 rw [fX e]at f
 have:g≠da:=r.elim (λx=>absurd x.1 e) (λx=>by rw [x.2];exact Rz t)
 rw [an _ _ _ _ (Rz this)]
 exact (h.N5 f p).ax o (λ_ h=>h.elim)
 rw [fX (Rz n)]at p
 by_cases e:i=c
 have:g=dc:=r.elim (λx=>absurd (x.1.symm.trans e) q) (λx=>x.2)
 subst this;rw [aA];exact j
 rw [fX e]at f
 have:g≠dc:=r.elim (λx=>by rw [x.2];exact t) (λx=>absurd x.1 e)
 rw [an _ _ _ _ (Rz this)]
 exact (h.M6 f p).ax o (λ_ h=>h.elim)
 rw [fX (Rz m)]at f
 exact Sl.ax (h.Oa f) o (λ_ _ h=>h)
 rw [fX (Rz n)]at f
 exact Sl.ax (h.Nf f) o (λ_ _ h=>h)
 rw [fX (Rz m)]at f
 rw [an _ _ _ _ s]
 exact ⟨Sl.ax (h.Cm f).1 o (λ_ _ h=>h),(h.Cm f).2⟩
 rw [fX (Rz n)]at f
 rw [an _ _ _ _ s,an _ _ _ _ v]
 exact ⟨Sl.ax (h.Cn f).1 o (λ_ _ h=>h),(h.Cn f).2⟩
def lk.first(h:lk a b c d da db dc dd e w2 vs vw xs ys u l V w)(v:∀k,vs.ownBlock=some k->k<w2.heap.size)(i:∀k,vs.ownBlock=some k->vw.ownBlock≠some k)
 (q:b<l.size) (j:l.getD d false=false) (B:b≠a) (z:b≠c) (o:b≠d) (A:da≠db) (r:dc≠db) {p}
 (x:Sl w' e p (xs.length+1) (xs++[u])) (n:aj (λk=>vs.ownBlock=some k) w w') (y:dQ w vs p):
 lk a b c d da db dc dd e w2 vs vw xs ys u (l.setIfInBounds b true) (up V db p) w':=by
 refine ⟨h.ax.then (T:=λk=>vs.ownBlock=some k) n (λ_ _ h=>.inl h),λf g=>?_,λf g=>?_,λf=>?_,λf=>?_,λf=>?_,λf=>?_⟩
 rw [vC q]at g;cases g
 rw [fX z]at f
 rw [fX o]at g
 rw [an _ _ _ _ r]
 exact (h.M6 f g).ax n v
 rw [vC q]at f;cases f
 rw [fX o]at f
 exact Sl.ax (h.Nf f) n (λk t m=>i k m t)
 rw [aA]
 refine ⟨x,y.imp id λ⟨k,g,s⟩=>⟨k,g,PG h.ax.size s⟩⟩
 rw [fX o,j]at f;cases f
def lk.second(h:lk a b c d da db dc dd e w2 vs vw xs ys u l V w)(hw:∀k,vw.ownBlock=some k->k<w2.heap.size)(q:∀k,vs.ownBlock=some k->vw.ownBlock≠some k)
 (v:d<l.size) (m:l.getD b false=true) (F:d≠a) (y:d≠b) (C:da≠dd) (s:db≠dd) {r}
 (B:Sl w' e r (ys.length+1) (ys++[u])) (x:aj (λk=>vw.ownBlock=some k) w w') (o:dQ w vw r):
 lk a b c d da db dc dd e w2 vs vw xs ys u (l.setIfInBounds d true) (up V dd r) w':=by
 have⟨t,i⟩:=h.Cm m
 have p:∀k,(V db).ownBlock=some k->vw.ownBlock≠some k:=λk n f=>by obtain i|⟨A,i,D⟩:=i;exact q k (by rw [<-i];exact n) f;rw [n]at i;cases i;have:=hw k f;omega
 refine ⟨h.ax.then (T:=λk=>vw.ownBlock=some k) x (λ_ _ h=>.inr h),λg j=>?_,λg j=>?_,λg=>?_,λg=>?_,λg=>?_,λg=>?_⟩
 rw [fX y,m]at j;cases j
 rw [vC v]at j;cases j
 rw [fX y,m]at g;cases g
 rw [vC v]at g;cases g
 rw [an _ _ _ _ s]
 exact ⟨Sl.ax t x (λk n f=>p k n f),i⟩
 rw [aA,an _ _ _ _ s]
 refine ⟨B,o.imp id λ⟨k,j,z⟩=>⟨k,j,PG h.ax.size z⟩,λk n f=>?_⟩
 obtain o|⟨A,o,E⟩:=o
 exact p k n (by rw [<-o];exact f)
 rw [f]at o;cases o
 have:=t.lt k n;omega
end
end
end Go.Own
namespace Go.Proofs.YtimniinkpipnmaaGreatDoor.Scc
open Go.RowKit Go.Own Go.Proofs.Tryz
def P1:=@Go.Lib.hid
def QU:=@List.getElem?_cons_succ
def Q6:=@List.getElem?_cons_zero
def Rd:=@List.getElem?_toArray
def Ru:=@Option.some.injEq
def SK:=@List.setIfInBounds_toArray
def SP:=@Go.Proofs.Tryz.underlying33
def TF:=@List.set_cons_succ
def TG:=@List.set_cons_zero
def T7:=@List.not_mem_nil
def UZ:=@Go.info_parts
def Tryz.eA:(prog.info? 3).map (λi=>(i.zero,i.size,i.bytes))=some (some (IV 0),1,8):=ZK
def FC{w:WD}{p q v u}(a:q≠p)(h:w.cell? q=some u)(b:w.frozen? q=false):(w.setCell p v).cell? q=some u/\(w.setCell p v).frozen? q=false:=by refine ⟨?_,by rw [Qo];exact b⟩;rw [PQ _ _ _ _ (Rz a)];exact h
def IX(g ev n s F w)(h:rK w g ev n s F)(y)(hy:y<n)(hn:n<=1000000000)(hc:s.cS<=1000000000)(aH:s.aR.length<=1000000000)(hw:s.cQ.length<=1000000000):
 Calls prog 157 #[PT g,IV y] w λe r=>e=RT (.tuple #[])/\ij g ev n (s.gd y) F w r:=by
 obtain ⟨C,X,h⟩:=h
 have⟨i0,ai,al,am,an⟩:=UZ Tryz.eA
 have c8:=h.str.cell 8 ZD
 rw [h.cS]at c8
 have f8:=h.str.lC 8
 have h1:=h.Nn (s.cS+1)
 have k1:aj F w (w.setCell (AD g 8) (IV ((s.cS+1:Nat):Int))):=(aj.refl F w).setCell (λ_=>h.eK g (.inl rfl)) _
 have t:=P1 h1
 have K1:=P1 k1
 have A:=P1 hy
 have aI:(y:Int)<n:=ZO
 have e1:Hid (((s.cS+1:Nat):Int)=(s.cS:Int)+1):=by show _=_;omega
 rw [e1.o]at t K1
 clear h h1 k1
 go_enter func157,ntmps157
 go_wp2_with fail
 generalize w.setCell (AD g 8) (IV ((s.cS:Int)+1))=w1 at *
 clear c8 f8
 generalize up C 8 (IV ((s.cS:Int)+1))=C1 at *
 have c8:=t.o.str.cell 8 ZD
 rw [t.o.cS]at c8
 have ae:w1.cell? (AD g 8)=some (IV ((s.cS:Int)+1)):=by rw [c8];rfl
 clear c8
 have⟨J,d1,E1,af,_⟩:=t.o.arr 1 ⟨ZD,ZD⟩ (by rw [t.o.aW,cZ]) (ZH A.o)
 have⟨b2,d2,E2,ag,_⟩:=t.o.arr 2 ⟨ZD,ZD⟩ (by rw [t.o.bG,cZ]) (ZH A.o)
 have c1:=t.o.str.cell 1 ZD
 have c2:=t.o.str.cell 2 ZD
 rw [E1]at c1
 rw [E2]at c2
 have y1:=af y A.o
 have y2:=ag y A.o
 rw [t.o.aW,en _ _ _ A.o]at y1
 rw [t.o.bG,en _ _ _ A.o]at y2
 obtain ⟨aD,aE⟩:=y1
 obtain ⟨ap,aq⟩:=y2
 have N:J≠b2:=λe=>by have:=t.o.str.apart 1 2 J ⟨ZD,ZD⟩ ⟨ZD,ZD⟩ (by rw [E1];rfl) (by rw [E2,e];rfl);omega
 have⟨aF,aG⟩:=FC (v:=IV ((s.cS:Int)+1)) (p:=(AD J y)) (λe=>N (by cases e;rfl)) ap aq
 have R:=P1 E1
 have T:=P1 E2
 clear E1 E2 af ag N
 refine aw 19 (S:=λr=>r.cell? (AD g 1)=some (SV J n d1)/\r.cell? (AD g 2)=some (SV b2 n d2)/\r.cell? (AD g 8)=some (IV ((s.cS:Int)+1))) ZK (⟨c1,c2,ae⟩) (λa=>?_)
 refine aB 0 ?_
 refine aB 1 ?_
 refine aB 2 ?_
 refine aB 3 ?_
 refine aB 4 ?_
 refine aB 5 ?_ [8,7,6,5]
 refine aB 6 ?_ [8,7,6]
 refine aB 7 ?_ [8,7]
 refine aB 8 ?_
 refine' aS (i:=9) (v:=_) rfl ZK (λ_ _ _ h=>h) (Or.inl ⟨by rfl,?hy9⟩) (by assumption) ?rest9
 case hy9=>(intro r aa;go_simp;(try with_reducible rfl))
 try walk_nrm
 refine aB 10 ?_
 refine aB 11 ?_
 refine aB 12 ?_
 refine aB 13 ?_
 refine aB 14 ?_ [17,16,15,14]
 refine aB 15 ?_ [17,16,15]
 refine aB 16 ?_ [17,16]
 refine aB 17 ?_
 refine aB 18 ?_
 refine aK 19 λK c=>?_
 go_simp
 refine c.q ?_
 clear c K
 refine aK 20 λK c=>?_
 go_simp
 refine c.q ?_
 clear c K
 refine aK 21 λK c=>?_
 go_simp
 refine c.q ?_
 clear c K
 refine az ZK ?_
 have H2:Hid (∃X',eO ((w1.setCell (AD J y) (IV ((s.cS:Int)+1))).setCell (AD b2 y) (IV ((s.cS:Int)+1))).drew g ev n {s with aW:=up s.aW y (s.cS+1),bG:=up s.bG y (s.cS+1),cS:=s.cS+1} F C1 X'):=by have a1:=t.o.No R.o y (s.cS+1) A.o;have a2:=a1.Kd T.o y (s.cS+1) A.o;rw [e1.o]at a2;exact ⟨_,a2.drew⟩
 have K2:Hid (aj F w1 ((w1.setCell (AD J y) (IV ((s.cS:Int)+1))).setCell (AD b2 y) (IV ((s.cS:Int)+1))).drew):=
  (((aj.refl F w1).setCell (λ_=>t.o.eK J (.inr ⟨1,⟨ZD,ZD⟩,by rw [R.o];rfl⟩)) _).setCell (λ_=>t.o.eK b2 (.inr ⟨2,⟨ZD,ZD⟩,by rw [T.o];rfl⟩)) _).drew
 clear a ae c1 c2 aD aE ap aq aF aG R T t
 generalize ((w1.setCell (AD J y) (IV ((s.cS:Int)+1))).setCell (AD b2 y) (IV ((s.cS:Int)+1))).drew=w2 at *
 have⟨X2,h2⟩:=H2.o
 have m:=P1 h2
 clear h2 H2
 have⟨H,L,E4,_,_,_,_⟩:=m.o.str.val 4 ⟨ZD,ZD⟩
 have⟨I,M,E5,_,_,_,_⟩:=m.o.str.val 5 ⟨ZD,ZD⟩
 have o4:=m.o.str.cO 4 ⟨ZD,ZD⟩
 have o5:=m.o.str.cO 5 ⟨ZD,ZD⟩
 have Y:=m.o.str.cell 4 ZD
 have c5:=m.o.str.cell 5 ZD
 have l4:(X2 4).length=s.aR.length:=by rw [m.o.aR,bV]
 have l5:(X2 5).length=s.cQ.length:=by rw [m.o.cQ,bV]
 rw [E4]at Y o4
 rw [E5]at c5 o5
 rw [l4]at Y
 rw [l5]at c5
 have B:Hid (C1 4=SL H s.aR.length L):=by rw [l4]at E4;exact E4
 have D:Hid (C1 5=SL I s.cQ.length M):=by rw [l5]at E5;exact E5
 have ab:Hid (∀k,(SL H s.aR.length L).ownBlock=some k->(SL I s.cQ.length M).ownBlock≠some k):=λk h1 h2=>by have:=m.o.str.apart 4 5 k ⟨ZD,ZD⟩ ⟨ZD,ZD⟩ (ZR B.o h1) (ZR D.o h2);omega
 have d:Hid ((SL H s.aR.length L).ownBlock≠some g):=by rw [<-B.o];exact m.o.str.off 4 ⟨ZD,ZD⟩
 have f:Hid ((SL I s.cQ.length M).ownBlock≠some g):=by rw [<-D.o];exact m.o.str.off 5 ⟨ZD,ZD⟩
 have U:Hid (Sl w2 3 (SL H s.aR.length L) (bI s.aR).length (bI s.aR)):=by have:=o4;rw [l4,m.o.aR]at this;rw [bV];exact this
 have W:Hid (Sl w2 3 (SL I s.cQ.length M) (bI s.cQ).length (bI s.cQ)):=by have:=o5;rw [l5,m.o.cQ]at this;rw [bV];exact this
 have u:Hid (∀k,(SL H s.aR.length L).ownBlock=some k->k<w2.heap.size):=λk e=>U.o.lt k e
 have x:Hid (∀k,(SL I s.cQ.length M).ownBlock=some k->k<w2.heap.size):=λk e=>W.o.lt k e
 clear o4 o5 l4 l5 E4 E5
 have P:=P1 Y
 have Q:=P1 c5
 go_wp2_with fail
 refine aw 18 (S:=λr=>r.cell? (AD g 4)=some (SL H s.aR.length L)/\r.cell? (AD g 5)=some (SL I s.cQ.length M)) ZK (⟨Y,c5⟩) (λa=>?_)
 refine aB 0 ?_
 refine aB 2 ?_
 refine aB 3 ?_
 refine aB 4 ?_
 refine aB 5 ?_
 refine aB 6 ?_
 refine aB 9 ?_ [12,11,10,9]
 refine aB 10 ?_ [12,11,10]
 refine aB 11 ?_ [12,11]
 refine aB 12 ?_
 refine aB 13 ?_ [15,14,13]
 refine' aS (i:=1) (v:=_) rfl ZK (λ_ _ _ h=>h) (Or.inl ⟨by rfl,?hyb1⟩) (by assumption) ?restb1
 case hyb1=>(intro r aa;go_simp;(try with_reducible rfl))
 try walk_nrm
 refine mH [7,8,14,15] (λi=>if i=7 then 38 else if i=8 then 39 else if i=14 then 45 else 46) #[true,true,true,true,true,true,true,true,true,true,true,true,true,true,true,true,false,false,false,false,false,false] 6
  (λl V w=>l.size=22/\lk 7 8 14 15 38 39 45 46 3 w2 (SL H s.aR.length L) (SL I s.cQ.length M) (bI s.aR) (bI s.cQ) (IV y) l V w) ZK ZK rfl ?c1 ?c2 ?c3 ?c4
 case c1=>exact ⟨ZK,lk.aM (aj.refl _ w2).drew U.o W.o ZK ZK ZK ZK⟩
 case c2=>rintro l V w ⟨_,j⟩;exact ⟨j.ax.aq P.o (λe=>e.elim d.o f.o),j.ax.aq Q.o (λe=>e.elim d.o f.o)⟩
 case c3=>
  rintro l V w i o hl ay hi O hr ⟨z,j⟩ K c;clear a Y c5;simp only [PO,T7,or_false]at hi;obtain rfl|rfl|rfl|rfl:=hi
  ·simp only [Rd,QU,Q6,Ru]at O;subst O
   refine cB (v:=SV w.heap.size 1 1) (w':=w.alloc (CE #[IV y] 3)) ?_ (c _ _ ⟨by rw [QJ];exact z,j.laid u.o x.o (.inl ⟨rfl,rfl⟩) ZD ZD ZD ZD ZD ZD⟩);clear c;simp only [Pv,PE,aN,Act.put,SK,TG,TF];go_simp
  ·have G:=bj (l:=[5,7]) ZK hr;have h8:=nz (rh hr)
   have⟨q,ac,ad,_⟩:=j.N5 (G 7 ZS) h8;have E:l.getD 15 false=false:=by
    by_cases hb:l.getD 15 false=true
    ·have:=nm ay [8] 15 ZK hb;rw [show qT 15 [8]=8 from rfl,h8]at this;cases this
    ·simpa using hb
   simp only [Rd,QU,Q6,Ru]at O;subst O;refine eI (.tmp 36) (.tmp 38) 33 rfl 3 i0 (IV 0) 8 SP ai al am an rfl ZD (SL H s.aR.length L) _ _ rfl (j.Oa h8) (AD q 0) (IV y) rfl ?_ ad (by rw [bV];omega)
    (λv' r k1 k2 k3=>c v' r ⟨by rw [QJ];exact z,j.first u.o ab.o (by rw [z];decide) E ZD ZD ZD ZD ZD k1 k2 k3⟩)
   exact ac
  ·simp only [Rd,QU,Q6,Ru]at O;subst O
   refine cB (v:=SV w.heap.size 1 1) (w':=w.alloc (CE #[IV y] 3)) ?_ (c _ _ ⟨by rw [QJ];exact z,j.laid u.o x.o (.inr ⟨rfl,rfl⟩) ZD ZD ZD ZD ZD ZD⟩);clear c;simp only [Pv,PE,aN,Act.put,SK,TG,TF];go_simp
  ·have G:=bj (l:=[8,14]) ZK hr;have E:=nz (rh hr)
   have⟨q,ac,ad,_⟩:=j.M6 (G 14 ZS) E;simp only [Rd,QU,Q6,Ru]at O;subst O;refine eI (.tmp 43) (.tmp 45) 33 rfl 3 i0 (IV 0) 8 SP ai al am an rfl ZD (SL I s.cQ.length M) _ _ rfl (j.Nf E) (AD q 0) (IV y) rfl ?_ ad (by rw [bV];omega)
    (λv' r k1 k2 k3=>c v' r ⟨by rw [QJ];exact z,j.second x.o ab.o (by rw [z];decide) (G 8 ZS) ZD ZD ZD ZD k1 k2 k3⟩)
   exact ac
 case c4=>
  rintro V wz ⟨_,j⟩;change dz _ _ _ _ _ _ _ _ (aN _ [38,39,45,46] V) wz;simp only [Pv,PE,aN,Act.put,SK,TG,TF];have⟨n1,m1⟩:=j.Cm rfl;have⟨n2,m2,ak⟩:=j.Cn rfl;have q4:=j.ax.aq P.o (λe=>e.elim d.o f.o);have q5:=j.ax.aq Q.o (λe=>e.elim d.o f.o);have p4:=(PK (j.ax.block g m.o.str.lt (λe=>e.elim d.o f.o))).trans (m.o.str.lC 4);have p5:=(PK (j.ax.block g m.o.str.lt (λe=>e.elim d.o f.o))).trans (m.o.str.lC 5);have HK:=P1 j.ax;clear a Y c5 j;generalize V 39=aL at *;generalize V 46=aO at *;generalize V 38=aJ at *;generalize V 45=aM at *;obtain ⟨ar,av,rfl,_⟩:=n1.shape;obtain ⟨au,ax,rfl,_⟩:=n2.shape;have HD:=P1 (m.o.pair (by rw [B.o,D.o];exact HK.o) n1 (ZR B.o m1) n2 (ZR D.o m2) ak);clear n1 m1 n2 m2 ak;have a:=And.intro q4 q5;refine' aS (i:=16) (v:=_) rfl ZK (λ_ _ _ h=>h) (Or.inl ⟨by rfl,?hyc16⟩) (by assumption) ?restc16;case hyc16=>(intro r aa;go_simp;(try with_reducible rfl))
  try walk_nrm
  refine' aS (i:=17) (v:=_) rfl ZK (λ_ _ _ h=>h) (Or.inl ⟨by rfl,?hyc17⟩) (by assumption) ?restc17;case hyc17=>(intro r aa;go_simp;(try with_reducible rfl))
  try walk_nrm
  refine aK 18 λK c=>?_;go_simp;refine c.q ?_;clear c K;refine aK 19 λK c=>?_;go_simp;refine c.q ?_;clear c K;refine aK 20 λK c=>?_;go_simp;refine c.q ?_;clear c K;refine aK 21 λK c=>?_;go_simp;refine c.q ?_;clear c K;refine az ZK ?_;clear a q4 q5 p4 p5 HK P Q U W d f u x ab B D m;generalize (wz.setCell (AD g 4) (SL ar ((bI s.aR).length+1) av)).setCell (AD g 5) (SL au ((bI s.cQ).length+1) ax)=w3 at *;have⟨F3,⟨C3,X3,Z⟩,k3,f3⟩:=HD.o;clear HD;have⟨b6,d6,E6,ah,_⟩:=Z.arr 6 ⟨ZD,ZD⟩ (by rw [Z.inn,ed]) (ZH A.o);have c6:=Z.str.cell 6 ZD;rw [E6]at c6;have y6:=ah y A.o;rw [Z.inn,eQ _ _ _ A.o]at y6;obtain ⟨aP,aQ⟩:=y6;have h4:=Z.Kc E6 y true A.o;have HF:Hid (ij g ev n (s.gd y) F w (w3.setCell (AD b6 y) (.bool true))):=by have ao:=K1.o.trans K2.o;have hs:=ao.size;refine ⟨F3,⟨_,_,h4⟩,(ao.trans k3).setCell (λaC=>?_) _,λb hb=>(f3 b hb).imp id (λaA=>ZO)⟩;exact (f3 b6 (Z.eK b6 (.inr ⟨6,⟨ZD,ZD⟩,by rw [E6];rfl⟩))).elim id (λaA=>by have:b6<w.heap.size:=aC;omega)
  clear Z h4 E6 ah k3 f3 K1 K2;go_wp2;go_end0;exact ⟨rfl,HF.o⟩
def SW:=@List.drop_succ_cons
def SY:=@List.take_succ_cons
def TE:=@List.drop_zero
def Uy:=@Go.wpQuiet_nil
def GR(g q i n s F w)(h:rK w g i n s F)(H:CA w q 0 (PT g))(x m:Nat)(o:x<n):
 Calls prog 158 #[IV x,IV m,PT q] w λe B=>e=RT (.tuple #[])/\ij g i n (s.lower x m) F w B:=by
 obtain ⟨C,X,h⟩:=h
 have⟨p,G,c,a,_⟩:=h.arr 2 ⟨ZD,ZD⟩ (by rw [h.bG,cZ]) ZO
 have t:=h.str.cell 2 ZD
 rw [c]at t
 have r:=a x o
 rw [h.bG,en _ _ _ o]at r
 obtain ⟨D,E⟩:=r
 have A:(x:Int)<n:=ZO
 have b:Hid (∀v:Nat,min (s.bG x) m=v->ij g i n (s.lower x m) F w (w.setCell (AD p x) (IV v)).drew):=by rintro v rfl;have u:=h.Kd c x (min (s.bG x) m) o;exact ij.of h u.drew ((aj.refl F w).setCell (λ_=>h.eK p (.inr ⟨2,⟨ZD,ZD⟩,by rw [c];rfl⟩)) _).drew
 clear h c a
 obtain k|j:=Re m (s.bG x)
 ·have f:=P1 (b.o m ZO);have y:(m:Int)<(s.bG x:Int):=ZO
  have z:(m:Int)<=(s.bG x:Int):=ZO;clear k;generalize s.bG x=d at *;have l:min (d:Int) (m:Int)=m:=ZO;go_enter func158,ntmps158;go_wp2_with fail;refine dM 14 ZK ZK ?_;simp only [SY,Ri,SW,TE];repeat(go_big_quiet_step (fail))
  refine Uy ?_;go_wp2;go_end0;exact ⟨rfl,f.o⟩
 ·have f:=P1 (b.o (s.bG x) ZO);have y:(s.bG x:Int)<=(m:Int):=ZO
  clear j;generalize s.bG x=d at *;have l:min (d:Int) (m:Int)=d:=ZO;go_enter func158,ntmps158;go_wp2_with fail;refine dM 14 ZK ZK ?_;simp only [SY,Ri,SW,TE];repeat(go_big_quiet_step (fail))
  refine Uy ?_;go_wp2;go_end0;exact ⟨rfl,f.o⟩
def qf:List Nat->Nat
 |[]=>0
 |x::l=>l.foldl min x
def nZ:∀(l:List Nat)(x),(l.foldl min x=x\/l.foldl min x∈l)/\l.foldl min x<=x/\∀v∈l,l.foldl min x<=v
 |[],x=>⟨.inl rfl,Pf _,λv b=>ZC b⟩
 |y::l,x=>by have⟨a,d,c⟩:=nZ l (min x y);rw [List.foldl_cons];refine ⟨?_,ZO,λv b=>?_⟩;obtain a|a:=a;rw [a];obtain h|h:=Nat.le_total x y;left;omega;right;rw [U3 h];exact P2;exact .inr (Qc _ a);obtain rfl|b:=PO.1 b;omega;exact c v b
def Ci(x l):qf (x::l)∈x::l:=by obtain h|h:=(nZ l x).1;show l.foldl min x∈x::l;rw [h];exact P2;exact Qc _ h
def Lt(x l):∀v∈x::l,qf (x::l)<=v:=by intro v a;obtain rfl|a:=PO.1 a;exact (nZ l v).2.1;exact (nZ l x).2.2 v a
def GY(l:List Nat)(k)(b:0<k)(h:k<l.length):qf (l.take (k+1))=min (qf (l.take k)) (l.getD k 0):=by
 match l,k with
 |x::l,k+1=>have a:k<l.length:=ZX h;show(l.take (k+1)).foldl min x=min ((l.take k).foldl min x) _;rw [Se a,List.foldl_append];simp [List.getD,a]
def Lu(b f n c l w)(j:l.length=n)(u:0<n)(D:n<=9223372036854775807)(h:∀i,i<n->CA w b (f+i) (IV ((l.getD i 0:Nat):Int))):
 Calls prog 179 #[SL (some (AD b f)) n c] w λe B=>e=RT (IV ((qf l:Nat):Int))/\w=B:=by
 have o:=P1 j
 have r:=P1 h
 have a:=h 0 u
 rw [Nat.add_zero]at a
 have A:(1:Int)<=n:=ZO
 have q:(0:Int)<n:=ZO
 have g:Hid (qf (l.take 1)=l.getD 0 0):=by
  show _=_;cases l with
  |nil=>simp at j;omega
  |cons x l=>rfl
 clear j h
 generalize l.getD 0 0=F at *
 go_enter func179,ntmps179
 go_wp2
 go_loop [3,4] (λm i=>∃k:Nat,1<=k/\k<=n/\i=IV k/\m=IV ((qf (l.take k):Nat):Int)) (λ_ i=>n-(intOf i).toNat)
 exact ⟨1,Pf _,ZO,rfl,by rw [g.o]⟩
 obtain ⟨k,y,C,rfl,rfl⟩:=hrel
 clear a
 by_cases d:k<n
 have p:(k:Int)<n:=ZO
 have v:=r.o k d
 have s:=P1 (GY l k ZO (ZR o.o d))
 generalize l.getD k 0=z at *
 generalize qf (l.take k)=E at *
 go_wp2
 go_round
 exact ⟨k+1,ZO,ZO,ZN,by rw [s.o];go_num⟩
 simp [intOf];omega
 obtain rfl:k=n:=ZO
 have t:Hid (l.take k=l):=PI (by rw [o.o];exact Pf _)
 go_wp2
 go_ret
 exact ⟨by rw [t.o];rfl,rfl⟩
def QR:=@List.getD_eq_getElem?_getD
def Q3:=@beq_eq_false_iff_ne
def Si:=@List.getElem?_eq_getElem
def SQ:=@List.length_cons
def T2:=@List.getElem_mem
def DU(g d n s F w)(h:rK w g d n s F)(x)(f:x<n)(c:s.bG x≠s.aW x):
 Calls prog 159 #[PT g,IV x] w λe z=>e=RT (.tuple #[])/\ij g d n s F w z:=by
 obtain ⟨C,X,h⟩:=h
 have⟨D,G,j,a,_⟩:=h.arr 1 ⟨ZD,ZD⟩ (by rw [h.aW,cZ]) ZO
 have⟨E,H,l,b,_⟩:=h.arr 2 ⟨ZD,ZD⟩ (by rw [h.bG,cZ]) ZO
 have o:=h.str.cell 1 ZD
 have p:=h.str.cell 2 ZD
 rw [j]at o
 rw [l]at p
 have A:=(a x f).1
 have B:=(b x f).1
 rw [h.aW,en _ _ _ f]at A
 rw [h.bG,en _ _ _ f]at B
 have y:(x:Int)<n:=ZO
 have m:Hid (∀q,ij g d n s F w (w.drewN q)):=λq=>⟨F,rK.ag (⟨C,X,h⟩:rK w g d n s F) (below_drewN w q),aj.mono (aj.aC (below_drewN w q)) (λk I r=>ZO),λ_ h=>.inl h⟩
 have t:((s.bG x:Int)==(s.aW x:Int))=false:=Q3.2 ZO
 have i:(s.bG x==s.aW x)=false:=Q3.2 c
 have u:((s.bG x:Int)!=(s.aW x:Int))=true:=by rw [bne,t];rfl
 have v:(s.bG x !=s.aW x)=true:=by rw [bne,i];rfl
 clear h j l a b c
 generalize s.bG x=J at *
 generalize s.aW x=K at *
 go_enter func159,ntmps159
 go_wp2_with fail
 go_quiet (fail)
 go_wp2
 exact bodyPost_ret (results_none rfl _ _ _) rfl ⟨rfl,m.o _⟩
def G7{l:List Nat}{m}{p:Nat->Nat}{k}(h:k<l.length):up (λv=>if v∈l.take k then m else p v) (l.getD k 0) m=λv=>if v∈l.take (k+1)then m else p v:=by
 have e:l.take (k+1)=l.take k++[l.getD k 0]:=by rw [Se h];simp [List.getD,h]
 funext v;unfold up;rw [e];by_cases b:v=l.getD k 0;subst b;rw [PW rfl,PW ZS];rw [Qa b];by_cases a:v∈l.take k;rw [PW (P0 _ a)];exact PW a;rw [Qa (c:=v∈l.take k++[l.getD k 0]) (by rw [PC,Pc];rintro (h|h);exact a h;exact b h)];exact Qa a
def Jl{l:List Nat}{p:Nat->Bool}{k}(h:k<l.length):up (λv=>if v∈l.take k then false else p v) (l.getD k 0) false=λv=>if v∈l.take (k+1)then false else p v:=by
 have e:l.take (k+1)=l.take k++[l.getD k 0]:=by rw [Se h];simp [List.getD,h]
 funext v;unfold up;rw [e];by_cases b:v=l.getD k 0;subst b;rw [PW rfl,PW ZS];rw [Qa b];by_cases a:v∈l.take k;rw [PW (P0 _ a)];exact PW a;rw [Qa (c:=v∈l.take k++[l.getD k 0]) (by rw [PC,Pc];rintro (h|h);exact a h;exact b h)];exact Qa a
def DT(g I n s F w)(h:rK w g I n s F)(x A B)(hs:s.aR=A++x::B)(ak:x∉B)(D:∀v∈x::B,v<n)(r:s.bG x=s.aW x)(hn:n<=1000000000)(ai:s.aR.length<=1000000000):
 Calls prog 159 #[PT g,IV x] w λe w'=>e=RT (.tuple #[])/\ij g I n (s.off s.cQ A (x::B) (qf (x::B))) F w w':=by
 obtain ⟨C,X,h⟩:=h
 have hx:x<n:=D x P2
 have H:=P1 h
 have⟨b1,d1,E1,R,_⟩:=h.arr 1 ⟨ZD,ZD⟩ (by rw [h.aW,cZ]) ZO
 have⟨b2,d2,E2,T,_⟩:=h.arr 2 ⟨ZD,ZD⟩ (by rw [h.bG,cZ]) ZO
 have c1:=h.str.cell 1 ZD
 have c2:=h.str.cell 2 ZD
 rw [E1]at c1
 rw [E2]at c2
 have x1:=(R x hx).1
 have x2:=(T x hx).1
 rw [h.aW,en _ _ _ hx]at x1
 rw [h.bG,en _ _ _ hx,r]at x2
 have aX:(x:Int)<n:=ZO
 have ah:(X 4).length=A.length+B.length+1:=by rw [h.aR,bV,hs,Q0,SQ];omega
 have⟨a4,d4,E4,aq,aH,_,j⟩:=h.str.val 4 ⟨ZD,ZD⟩
 rw [ah]at E4 aq j
 obtain ⟨b4,rfl,_,_⟩:=j 0 ZO
 have c4:=h.str.cell 4 ZD
 rw [E4]at c4
 have N:Hid (∀i,i<A.length+B.length+1->w.cell? (AD b4 i)=some (IV (((A++x::B).getD i 0:Nat):Int))):=λi hi=>by
  have⟨b',e',f,_⟩:=j i hi;cases e'
  rw [f,h.aR,hs];exact od _ _ (by rw [Q0,SQ];omega)
 have HL:Hid (A.length+B.length+1<=1000000000):=by have:=ai;rw [hs,Q0,SQ]at this;show _<=_;omega
 have aI:=HL.o
 have t:=P1 E4
 have U:Hid ((A++x::B).getD A.length 0=x):=by show _=_;simp [List.getD]
 have V:Hid (∀k,A.length<k->k<=A.length+B.length->(A++x::B).getD k 0≠x):=λk f h2 e=>by
  have:(A++x::B).getD k 0=B.getD (k-A.length-1) 0:=by rw [QR,List.getElem?_append_right ZO,show k-A.length=(k-A.length-1)+1 by omega,QU,<-QR];rfl
  rw [this]at e;have ac:k-A.length-1<B.length:=ZO;refine ak ?_;rw [<-e,QR,Si ac];exact T2 _
 have u:=P1 hs
 have P:=P1 D
 clear h E1 E2 R T r hs ak D j ah E4 ai
 generalize s.aW x=nx at *
 go_enter func159,ntmps159
 go_wp2_with fail
 go_quiet (fail)
 go_wp2
 go_loop [4] (λi=>∃k:Nat,A.length<=k/\k<=A.length+B.length/\i=IV k) (λi=>(intOf i).toNat)
 exact ⟨A.length+B.length,ZO,Pf _,ZN⟩
 obtain ⟨k,ar,aa,rfl⟩:=hrel
 have au:(k:Int)<A.length+(B.length:Int)+1:=ZO
 have ck:=N.o k ZO
 by_cases ab:k=A.length
 ·subst ab;rw [U.o]at ck
  go_wp2_with fail;have ax:Hid (A.length+B.length+1-A.length=(x::B).length):=by show _=_;rw [SQ];omega
  have q:Hid (∀i,(A++x::B).getD (A.length+i) 0=(x::B).getD i 0):=λi=>by rw [QR,List.getElem?_append_right ZO,Nat.add_sub_cancel_left,<-QR]
  have ag:0<(x::B).length:=ZS;have aT:(x::B).length<=1000000000:=by rw [SQ];omega
  have Y:A.length+(x::B).length=A.length+B.length+1:=by rw [SQ];omega
  have ae:=Ci x B;have aG:Hid (qf (x::B)<n):=P.o _ ae;rw [ax.o];have aJ:(A.length:Int)<=d4:=ZO;have aF:A.length<=d4:=ZO;clear U V ck ae au ar aa;have M:=P1 Y;clear Y;generalize ad:x::B=L at *;have ao:=P1 ad;clear ad;generalize af:qf L=m at *;have Q:=P1 af;clear af;generalize A.length+B.length+1=T4 at *;refine (Lu b4 A.length L.length (d4-A.length) L _ rfl ag ZO (λi hi=>?_)).mono ?_
  ·have:=N.o (A.length+i) (by rw [<-M.o];omega);rw [q.o i]at this
   exact this
  rintro e w1 ⟨rfl,rfl⟩;rw [Q.o];have HQ:Hid (∃X',eO (w.drewN nq) g I n {s with part:=λv=>if v∈L.take 0 then m else s.part v,inn:=λv=>if v∈L.take 0 then false else s.inn v} F C X'/\aj F w (w.drewN nq)):=by
   refine ⟨X,?_,aj.mono (aj.aC (below_drewN w nq)) (λk hk aQ=>ZO)⟩;have:({s with part:=λv=>if v∈L.take 0 then m else s.part v,inn:=λv=>if v∈L.take 0 then false else s.inn v}:St)=s:=by
    have e1:(λv=>if v∈L.take 0 then m else s.part v)=s.part:=by funext v;rw [Qa (by rw [Ri];exact λh=>ZC h)]
    have e2:(λv=>if v∈L.take 0 then false else s.inn v)=s.inn:=by funext v;rw [Qa (by rw [Ri];exact λh=>ZC h)]
    rw [e1,e2]
   rw [this];exact H.o.ax (aj.aC (below_drewN w nq)) (λb hF=>ZH (H.o.lt b hF))
  have⟨E,d6,E6,_,_⟩:=H.o.arr 6 ⟨ZD,ZD⟩ (by rw [H.o.inn,ed]) ZO;have⟨G,d7,E7,_,_⟩:=H.o.arr 7 ⟨ZD,ZD⟩ (by rw [H.o.part,cZ]) ZO;have c:=P1 E6;have d:=P1 E7;have Z:Hid (G≠E):=λe=>by have:=H.o.str.apart 6 7 E ⟨ZD,ZD⟩ ⟨ZD,ZD⟩ (by rw [E6];rfl) (by rw [E7,e];rfl);omega
  have aM:Hid ((X 4).length=T4):=by rw [H.o.aR,bV,u.o,Q0,M.o];rfl
  clear E6 E7 c1 c2 x1 x2 c4;generalize w.drewN nq=w1 at *;go_wp2;go_loopw [51] (λiv wr=>∃i:Nat,i<=L.length/\iv=IV i/\Hid (∃X',eO wr g I n {s with part:=λv=>if v∈L.take i then m else s.part v,inn:=λv=>if v∈L.take i then false else s.inn v} F C X'/\aj F w wr)) (λiv _=>L.length-(intOf iv).toNat);exact ⟨0,Pz _,rfl,HQ⟩;obtain ⟨i,hi,rfl,HR⟩:=hrel;have⟨X',hr,kr⟩:=HR.o;have a:=P1 hr;have O:=P1 kr;clear hr kr HR;by_cases l:i<L.length
  ·have aN:(i:Int)<L.length:=ZO;have J:L.getD i 0<n:=P.o _ (by rw [show L.getD i 0=L[i] by simp [List.getD,l]];exact T2 l)
   have cl:wr.cell? (AD b4 (A.length+i))=some (IV ((L.getD i 0:Nat):Int)):=by have f:=(a.o.zh 4 ⟨ZD,ZD⟩ t.o (A.length+i) (by rw [a.o.aR,bV];show _<s.aR.length;rw [u.o,Q0];omega)).1;rw [a.o.aR]at f;have h2:(bI s.aR)[A.length+i]? =some (IV ((s.aR.getD (A.length+i) 0:Nat):Int)):=od _ _ (by rw [u.o,Q0];omega);rw [u.o,q.o i]at h2;rw [f];show(bI s.aR)[A.length+i]? =_;rw [u.o];exact h2
   have PN:=P1 (G7 (m:=m) (p:=s.part) l);have IN:=P1 (Jl (p:=s.inn) l);generalize L.getD i 0=v at *;have aW:(v:Int)<n:=ZO;have HV:=P1 J;have v7:=a.o.zh 7 ⟨ZD,ZD⟩ d.o v (by rw [a.o.part,cZ];exact J);have v6:=a.o.zh 6 ⟨ZD,ZD⟩ c.o v (by rw [a.o.inn,ed];exact J);rw [a.o.part,en _ _ _ J]at v7;rw [a.o.inn,eQ _ _ _ J]at v6;obtain ⟨aD,aE⟩:=v7;obtain ⟨am,an⟩:=v6;generalize ((if v∈L.take i then m else s.part v:Nat):Int)=pv at *;generalize (if v∈L.take i then false else s.inn v)=qv at *;have c6:=a.o.str.cell 6 ZD;have c7:=a.o.str.cell 7 ZD;rw [c.o]at c6;rw [d.o]at c7;have⟨aA,aC⟩:=FC (v:=IV m) (p:=(AD G v)) (λe=>Z.o (by cases e;rfl)) am an;have ap:Hid (∃X2,eO (((wr.setCell (AD G v) (IV m)).setCell (AD E v) (.bool false)).drew) g I n {s with part:=λv=>if v∈L.take (i+1)then m else s.part v,inn:=λv=>if v∈L.take (i+1)then false else s.inn v} F C X2/\aj F w (((wr.setCell (AD G v) (IV m)).setCell (AD E v) (.bool false)).drew)):=by have a1:=a.o.LS d.o v m HV.o;have a2:=a1.Kc c.o v false HV.o;have a3:=a2.drew;simp only [PN.o,IN.o]at a3;exact ⟨_,a3,((O.o.setCell (λ_=>H.o.eK G (.inr ⟨7,⟨ZD,ZD⟩,by rw [d.o];rfl⟩)) _).setCell (λ_=>H.o.eK E (.inr ⟨6,⟨ZD,ZD⟩,by rw [c.o];rfl⟩)) _).drew⟩
   clear J;go_wp2_with fail;refine aw 12 (S:=λw'=>w'.cell? (AD g 6)=some (SV E n d6)/\w'.cell? (AD g 7)=some (SV G n d7)) ZK (⟨c6,c7⟩) (λy=>?_);refine aB 0 ?_;refine aB 1 ?_;refine aB 2 ?_;refine aB 3 ?_;refine aB 4 ?_;refine aB 5 ?_ [8,7,6,5];refine aB 6 ?_ [8,7,6];refine aB 7 ?_ [8,7];refine aB 8 ?_;refine' aS (i:=9) (v:=_) rfl ZK (λ_ _ _ h=>h) (Or.inl ⟨by rfl,?hy9⟩) (by assumption) ?rest9;case hy9=>(intro w' aL;go_simp;(try with_reducible rfl))
   try walk_nrm
   refine aB 10 ?_;refine aB 11 ?_;refine aK 12 λK o=>?_;go_simp;refine o.q ?_;clear o K;refine aK 13 λK o=>?_;go_simp;refine o.q ?_;clear o K;refine aK 14 λK o=>?_;go_simp;refine o.q ?_;clear o K;refine az ZK ?_;clear y c6 c7 aD aE am an aA aC cl;go_wp2;go_roundw;exact ⟨i+1,ZO,ZN,ap⟩;simp [intOf];omega
  ·obtain rfl:i=L.length:=ZO;have hcut:=a.o.IZ t.o A.length (by show A.length<=s.aR.length;rw [u.o,Q0];omega)
   have HF:Hid (∀W,W=wr.setCell (AD g 4) (SV b4 A.length d4)->ij g I n (s.off s.cQ A L m) F w W):=by
    rintro W rfl;have e1:(s.aR.take A.length)=A:=by rw [u.o,List.take_left]
    have f:=hcut;rw [show({s with part:=λv=>if v∈L.take L.length then m else s.part v,inn:=λv=>if v∈L.take L.length then false else s.inn v}:St).aR.take A.length=A from e1]at f;rw [SR]at f;exact ⟨F,⟨_,_,f⟩,O.o.setCell (λ_=>H.o.eK g (.inl rfl)) _,λ_ h=>.inl h⟩
   have c4:=a.o.str.cell 4 ZD;rw [t.o]at c4;have f4:=a.o.str.lC 4;clear hcut;go_wp2;go_end0;exact ⟨rfl,by rw [ao.o,Q.o];exact HF.o _ rfl⟩
 ·have hz:=V.o k ZO aa;have al:(((A++x::B).getD k 0:Nat):Int)≠(x:Int):=ZO
  have hq:((((A++x::B).getD k 0:Nat):Int)==(x:Int))=false:=Q3.2 al;have ay:(((A++x::B).getD k 0)==x)=false:=Q3.2 hz;have aU:((((A++x::B).getD k 0:Nat):Int)!=(x:Int))=true:=by rw [bne,hq];rfl
  have aV:(((A++x::B).getD k 0)!=x)=true:=by rw [bne,ay];rfl
  have aO:(1:Int)<=k:=ZO;have av:Hid ((k:Int)-1=((k-1:Nat):Int)):=by show _=_;omega
  have aP:A.length<k:=ZO;clear hz al ab;generalize (A++x::B).getD k 0=z at *;go_wp2;go_round;exact ⟨k-1,ZO,ZO,by rw [av.o]⟩;show((k:Int)-1).toNat<((k:Int)).toNat;omega
section
def WR(w0 w:WD)(g q:Nat)(ev:Value)(n:Nat)(s:St):Prop:=
 ∃F,rK w g ev n s F/\(∀b,F b->w0.heap.size<=b/\b≠q)/\BW w0 w/\w.cell? (AD q 0)=some (PT g)
section
variable {w0 w:WD} {g q n:Nat} {ev:Value} {s:St}
def WR.aJ(h:WR w0 w g q ev n s):BW w0 w:=by obtain ⟨F,_,_,h,_⟩:=h;exact h
def WR.bS(h:WR w0 w g q ev n s):CA w q 0 (PT g):=by obtain ⟨F,_,_,_,h⟩:=h;exact h
def WR.fm(h:WR w0 w g q ev n s):w.cell? (AD g 0)=some ev:=by obtain ⟨F,⟨C,X,h⟩,_⟩:=h;rw [h.str.cell 0 ZD,h.fm]
def WR.ag{d}(h:WR w0 w g q ev n s)(a:BW w d):WR w0 d g q ev n s:=by obtain ⟨F,e,f,b,c⟩:=h;exact ⟨F,e.ag a,f,b.trans (a.mono b.size),(a.cell (O9 w _ c)).trans c⟩
def WR.done{j i}(h:WR w0 w g q ev n s)(p:∀F,rK w g ev n s F->ij g ev n i F w j):WR w0 j g q ev n i:=by obtain ⟨F,m,a,c,d⟩:=h;have⟨l,u,f,v⟩:=p F m;have t:=O9 w _ d;refine ⟨l,u,λb o=>?_,c.trans (f.ag c.size (λk x hF=>ZH ((a k hF).1))),f.aq d (λhF=>(a q hF).2 rfl)⟩;obtain hF|r:=v b o;exact a b hF;have:=c.size;exact ⟨ZO,λe=>by subst e;have:b<w.heap.size:=t;omega⟩
def FF(h:WR w0 w g q ev n s)(y)(x:y<n)(u:n<=1000000000)(p:s.cS<=1000000000)(d:s.aR.length<=1000000000)(hw:s.cQ.length<=1000000000):
 Calls prog 157 #[PT g,IV y] w λe j=>e=RT (.tuple #[])/\Hid (WR w0 j g q ev n (s.gd y)):=by
 obtain ⟨F,m,a⟩:=h
 refine (IX g ev n s F w m y x u p d hw).mono ?_
 rintro e j ⟨rfl,r⟩
 obtain ⟨l,z,i,A⟩:=r
 obtain ⟨a,c,f⟩:=a
 have v:=O9 w _ f
 refine ⟨rfl,l,z,λb o=>?_,c.trans (i.ag c.size (λk B hF=>ZH ((a k hF).1))),i.aq f (λhF=>(a q hF).2 rfl)⟩
 obtain hF|t:=A b o
 exact a b hF
 have:=c.size
 exact ⟨ZO,λe=>by subst e;have:b<w.heap.size:=v;omega⟩
def yu(h:WR w0 w g q ev n s)(x m:Nat)(t:x<n):
 Calls prog 158 #[IV x,IV m,PT q] w λe i=>e=RT (.tuple #[])/\Hid (WR w0 i g q ev n (s.lower x m)):=by
 obtain ⟨F,l,a,c,d⟩:=h
 refine (GR g q ev n s F w l d x m t).mono ?_
 rintro e i ⟨rfl,j,u,f,v⟩
 have r:=O9 w _ d
 refine ⟨rfl,j,u,λb o=>?_,c.trans (f.ag c.size (λk y hF=>ZH ((a k hF).1))),f.aq d (λhF=>(a q hF).2 rfl)⟩
 obtain hF|p:=v b o
 exact a b hF
 have:=c.size
 exact ⟨ZO,λe=>by subst e;have:b<w.heap.size:=r;omega⟩
def Mg(h:WR w0 w g q ev n s)(x)(t:x<n)(d:s.bG x≠s.aW x):
 Calls prog 159 #[PT g,IV x] w λe j=>e=RT (.tuple #[])/\Hid (WR w0 j g q ev n s):=by
 obtain ⟨F,m,a,c,f⟩:=h
 refine (DU g ev n s F w m x t d).mono ?_
 rintro e j ⟨rfl,l,u,i,v⟩
 have r:=O9 w _ f
 refine ⟨rfl,l,u,λb o=>?_,c.trans (i.ag c.size (λk y hF=>ZH ((a k hF).1))),i.aq f (λhF=>(a q hF).2 rfl)⟩
 obtain hF|p:=v b o
 exact a b hF
 have:=c.size
 exact ⟨ZO,λe=>by subst e;have:b<w.heap.size:=r;omega⟩
def Mf(h:WR w0 w g q ev n s)(x A B)(C:s.aR=A++x::B)(j:x∉B)(f:∀v∈x::B,v<n)(a:s.bG x=s.aW x)(y:n<=1000000000)(i:s.aR.length<=1000000000):
 Calls prog 159 #[PT g,IV x] w λe o=>e=RT (.tuple #[])/\Hid (WR w0 o g q ev n (s.off s.cQ A (x::B) (qf (x::B)))):=by
 obtain ⟨F,r,c,d,l⟩:=h
 refine (DT g ev n s F w r x A B C j f a y i).mono ?_
 rintro e o ⟨rfl,p,D,m,E⟩
 have z:=O9 w _ l
 refine ⟨rfl,p,D,λb t=>?_,d.trans (m.ag d.size (λk G hF=>ZH ((c k hF).1))),m.aq l (λhF=>(c q hF).2 rfl)⟩
 obtain hF|u:=E b t
 exact c b hF
 have:=d.size
 exact ⟨ZO,λe=>by subst e;have:b<w.heap.size:=z;omega⟩
def WR.rdNum(h:WR w0 w g q ev n s)(i)(a:i<n):∃b d,w.cell? (AD g 1)=some (SV b n d)/\w.cell? (AD b i)=some (IV (s.aW i:Int)):=by obtain ⟨F,⟨C,X,h⟩,_⟩:=h;have⟨b,d,E,c,_⟩:=h.arr 1 ⟨ZD,ZD⟩ (by rw [h.aW,cZ]) ZO;refine ⟨b,d,by rw [h.str.cell 1 ZD,E],?_⟩;rw [(c i a).1,h.aW,en _ _ _ a]
def WR.Og(h:WR w0 w g q ev n s)(i)(a:i<n):∃b d,w.cell? (AD g 2)=some (SV b n d)/\w.cell? (AD b i)=some (IV (s.bG i:Int)):=by obtain ⟨F,⟨C,X,h⟩,_⟩:=h;have⟨b,d,E,c,_⟩:=h.arr 2 ⟨ZD,ZD⟩ (by rw [h.bG,cZ]) ZO;refine ⟨b,d,by rw [h.str.cell 2 ZD,E],?_⟩;rw [(c i a).1,h.bG,en _ _ _ a]
def WR.Of(h:WR w0 w g q ev n s)(i)(a:i<n):∃b d,w.cell? (AD g 6)=some (SV b n d)/\w.cell? (AD b i)=some (.bool (s.inn i)):=by obtain ⟨F,⟨C,X,h⟩,_⟩:=h;have⟨b,d,E,c,_⟩:=h.arr 6 ⟨ZD,ZD⟩ (by rw [h.inn,ed]) ZO;refine ⟨b,d,by rw [h.str.cell 6 ZD,E],?_⟩;rw [(c i a).1,h.inn,eQ _ _ _ a]
def WR.JZ(h:WR w0 w g q ev n s)(i)(e:i<n):∃b d,w.cell? (AD g 3)=some (SV b n d)/\w.cell? (AD b i)=some (IV (s.next i:Int))/\w.frozen? (AD b i)=false/\
 ∀v:Nat,WR w0 (w.setCell (AD b i) (IV v)) g q ev n {s with next:=up s.next i v}:=by
 have u:=h
 obtain ⟨F,⟨C,X,h⟩,_⟩:=h
 have⟨b,d,E,l,_⟩:=h.arr 3 ⟨ZD,ZD⟩ (by rw [h.next,cZ]) ZO
 refine ⟨b,d,by rw [h.str.cell 3 ZD,E],?_,(l i e).2,λv=>?_⟩
 rw [(l i e).1,h.next,en _ _ _ e]
 obtain ⟨F,a,j,x,y⟩:=u
 have hF:F b\/True:=.inr UU
 clear hF
 obtain ⟨z,A,a⟩:=a
 have⟨p,t,f,r,_⟩:=a.arr 3 ⟨ZD,ZD⟩ (by rw [a.next,cZ]) ZO
 have m:=h.str.cell 3 ZD
 have o:=a.str.cell 3 ZD
 rw [E]at m
 rw [f,m]at o
 obtain ⟨rfl,rfl⟩:b=p/\d=t:=by cases o;exact ⟨rfl,rfl⟩
 have c:=a.eK b (.inr ⟨3,⟨ZD,ZD⟩,by rw [f];rfl⟩)
 have k:aj F w (w.setCell (AD b i) (IV v)):=(aj.refl F w).setCell (λ_=>c) _
 exact ⟨F,⟨_,_,a.LR f i v e⟩,j,x.setCell (j b c).1 _,k.aq y (λhF=>(j q hF).2 rfl)⟩
def WR.J0(h:WR w0 w g q ev n s):∃a d,w.cell? (AD g 5)=some (SL a s.cQ.length d)/\w.frozen? (AD g 5)=false/\s.cQ.length<=d/\d<=maxLen/\(∀i,i<s.cQ.length->∃b,a=some (AD b 0)/\w.cell? (AD b i)=some (IV ((s.cQ.getD i 0:Nat):Int)))/\
 ∀k:Nat,k<=s.cQ.length->WR w0 (w.setCell (AD g 5) (SL a k d)) g q ev n {s with cQ:=s.cQ.take k}:=by
 obtain ⟨F,⟨C,X,h⟩,c,m,o⟩:=h
 have⟨a,d,E,l,v,_,f⟩:=h.str.val 5 ⟨ZD,ZD⟩
 have t:(X 5).length=s.cQ.length:=by rw [h.cQ,bV]
 rw [t]at E l f
 refine ⟨a,d,by rw [h.str.cell 5 ZD,E],h.str.lC 5,l,v,λi j=>?_,λk r=>?_⟩
 have⟨b,e,p,_⟩:=f i j
 exact ⟨b,e,by rw [p,h.cQ];exact od _ _ j⟩
 have u:aj F w (w.setCell (AD g 5) (SL a k d)):=(aj.refl F w).setCell (λ_=>h.eK g (.inl rfl)) _
 exact ⟨F,⟨_,_,h.MQ E k r⟩,c,m.setCell (c g (h.eK g (.inl rfl))).1 _,u.aq o (λhF=>(c q hF).2 rfl)⟩
end
def rC(n:Nat)(s:St):Nat:=(List.range n).countP λv=>decide (s.aW v=0)
def C0(n s y)(c:y<n)(a:s.aW y=0):rC n s=rC n (s.gd y)+1:=by refine mh (i:=y) (p:=λv=>decide (s.aW v=0)) (q:=λv=>decide ((s.gd y).aW v=0)) ?_ ?_ (λj b=>?_) _ List.nodup_range (P5.2 c);simp [a];have:(s.gd y).aW y=s.cS+1:=aA _ _ _;simp [this];have:(s.gd y).aW j=s.aW j:=an _ _ _ _ b;simp [this]
structure fE (E:List (List Int)) (Z:Nat->Prop) (s:St):Prop where
 inv:Inv E s
 cS:s.cS+rC E.length s=E.length
 bA:s.aR.length<=s.cS
 bZ:∀v,Z v->s.aW v≠0
def fE.Ey{E Z s}(h:fE E Z s):s.cQ.length<=s.cS:=PG h.inv.sub.length_le h.bA
def fE.gd{E Z s}(h:fE E Z s){y}(b:y<E.length)(a:s.aW y=0)(c:∀v∈s.cQ,Own.aZ E v y):fE E (λv=>Z v\/v=y) (s.gd y)where
 inv:=h.inv.gd b a c
 cS:=by have:=h.cS;rw [C0 _ _ _ b a]at this;show s.cS+1+_=_;omega
 bA:=by show(s.aR++[y]).length<=s.cS+1;have:=h.bA;simp;omega
 bZ v d:=by show up s.aW y (s.cS+1) v≠0;by_cases e:v=y;subst e;rw [aA];omega;rw [an _ _ _ _ e];exact h.bZ v (d.resolve_right e)
end
section
section
variable {E:List (List Int)} {Z:Nat->Prop} {s:St}
def fE.bump(h:fE E Z s){x tz}(c:x∈s.cQ)(b:s.next x<lf E x)(a:(E.getD x []).getD (s.next x) 0=tz)
 (d:∀y:Nat,y<E.length->tz=(y:Int)->s.aW y≠0/\(y∈s.aR->s.bG x<=s.aW y)):fE E Z (s.bump x):=⟨h.inv.bump c b a d,h.cS,h.bA,h.bZ⟩
def fE.lower(h:fE E Z s){x y}(b:x∈s.aR)(c:y∈s.aR)(a:Own.aZ E x y):fE E Z (s.lower x (s.aW y)):=⟨h.inv.lower b c a,h.cS,h.bA,h.bZ⟩
def fE.mono{Z'}(h:fE E Z s)(b:∀v,Z' v->Z v):fE E Z' s:=⟨h.inv,h.cS,h.bA,λv a=>h.bZ v (b v a)⟩
def fE.step(h:fE E Z s){x y:Nat}{b}(j:x∈s.cQ)(m:s.next x<lf E x)(d:(E.getD x []).getD (s.next x) 0=b)(e:b=(y:Int))(q:y<E.length)(g:s.aW y=0)
 (o:∀v∈s.cQ,Own.aZ E v y):fE E Z ((s.bump x).gd y):=by
 have k:=(h.gd q g o).mono (Z':=Z) (λv p=>.inl p)
 have a:=h.inv.fh j
 have f:x≠y:=λe=>(h.inv.mem x a).2 (ZR e g)
 have l:=k.bump (x:=x) (tz:=b) (by show x∈s.cQ++[y];exact P0 _ j) m d (λc r t=>by have:c=y:=ZO;subst this;have i:(s.gd c).aW c=s.cS+1:=aA _ _ _;refine ⟨ZH i,λ_=>?_⟩;have n:(s.gd c).bG x=s.bG x:=an _ _ _ _ f;rw [i,n];have:=(h.inv.bG x a).1;have:=h.inv.cS x (h.inv.mem x a).1;omega)
 exact l
def fE.back(h:fE E Z s){x y:Nat}{a}(f:x∈s.cQ)(k:s.next x<lf E x)(c:(E.getD x []).getD (s.next x) 0=a)(e:a=(y:Int))(g:y∈s.aR)
 (l:Own.aZ E x y):fE E Z ((s.bump x).lower x (s.aW y)):=by
 have d:=h.inv.fh f
 have i:=h.lower d g l
 have j:=i.bump (x:=x) (tz:=a) f k c (λb m n=>by have:b=y:=ZO;subst this;refine ⟨(h.inv.mem b g).2,λ_=>?_⟩;show up s.bG x (min (s.bG x) (s.aW b)) x<=s.aW b;rw [aA];omega)
 exact j
def OB(E:List (List Int))(s:St)(x:Nat):Prop:=s.next x=lf E x
def IL{x y k}(c:x<E.length)(d:y<E.length)(b:k<lf E x)(e:(E.getD x []).getD k 0=(y:Int)):gn E x y:=by refine ⟨c,d,?_⟩;have a:k<(E.getD x []).length:=b;rw [<-e,QR (l:=E.getD x []),Si a];exact T2 a
end
def KF(I w g ae n Y E s F Z)(hE:E.length=n)(he:fe I ae E)(hn:n<=1000000)(aC:∀i,i<E.length->(E.getD i []).length<=1000000000)
 (h:rK w g (SL ae n Y) n s F) (hF:∀b,F b->I.heap.size<=b) (hb:Below I.heap.size I w) (c:fE E Z s) (hw:s.cQ=[]) (N) (hx:N<n) (h0:s.aW N=0):
 Calls prog 126 #[PT g,IV N] w λe w'=>e=RT (.tuple #[])/\
  ∃a F',rK w' g (SL ae n Y) n a F'/\(∀b,F' b->I.heap.size<=b)/\Below I.heap.size I w'/\fE E (λv=>Z v\/v=N) a/\a.cQ=[]:=by
 have U:=P1 hE
 have bF:=P1 he
 have bL:=P1 aC
 have HP:=P1 c
 have a1:Hid (∀W,W=w.alloc (CE #[PT g] 170)->WR I W g w.heap.size (SL ae n Y) n s):=by rintro W rfl;have be:Below w.heap.size w (w.alloc (CE #[PT g] 170)):=(Pn _ w).alloc (Pf _) _;refine ⟨F,h.ag be,λb bb=>⟨hF b bb,λe=>?_⟩,hb.trans (be.mono hb.size),RA (w:=w) _ 170 w.heap.size 0 rfl⟩;obtain ⟨C,X,h⟩:=h;have:=h.lt b bb;omega
 have ah:s.cS<=1000000000:=ZH c.cS
 have ao:s.aR.length<=1000000000:=ZH c.bA
 have aq:s.cQ.length<=1000000000:=ZH c.Ey
 have aU:=P1 λW (hW:WR I W g w.heap.size (SL ae n Y) n s)=>FF hW N hx ZO ah ao aq
 have aZ:Hid (fE E (λv=>Z v\/v=N) (s.gd N)):=c.gd (ZR hE hx) h0 (λv hv=>by rw [hw]at hv;cases hv)
 have HW:Hid (s.cQ=[]):=hw
 have HX:=P1 hx
 have HN:=P1 hn
 clear hE he aC h hF hb c hw h0 ah ao aq hx
 go_enter func126,ntmps126
 go_wp2_with fail
 go_step3
 go_wp2_with fail
 refine (aU.o _ (a1.o _ rfl)).mono ?_
 rintro e w2 ⟨rfl,aN⟩
 clear aU a1
 have H:=aN.o.bS
 (try unfold BW at *);generalize w.heap.size=q at *
 generalize bV:s.gd N=s1 at *
 clear bV
 go_wp2_with fail
 go_step3
 go_wp2_with fail
 clear H
 go_loopg [] (2*rC n s1+s1.cQ.length) (λk wr=>∃s,Hid (k=2*rC n s+s.cQ.length)/\Hid (WR I wr g q (SL ae n Y) n s)/\Hid (fE E (λv=>Z v\/v=N) s))
 exact ⟨s1,rfl,aN,aZ⟩
 clear HP HW aN aZ
 obtain ⟨s,hk,V,c⟩:=hrel
 obtain ⟨wo,rfl⟩:∃wo:WD,wo=wr:=⟨_,rfl⟩
 generalize gk=k0 at *
 have H:=V.o.bS
 have⟨a5,d5,c5,f5,l5,m5,a3,bX⟩:=V.o.J0
 have aS:=P1 a3
 clear a3 bX
 obtain hw|⟨W,x,hw⟩:=Tm s.cQ
 ·rw [hw,List.length_nil]at c5;have HF:Hid (∃a F',rK wo g (SL ae n Y) n a F'/\(∀b,F' b->I.heap.size<=b)/\Below I.heap.size I wo/\fE E (λv=>Z v\/v=N) a/\a.cQ=[]):=by have⟨F',h1,h2,h3,h4⟩:=V.o;exact ⟨s,F',h1,λb hb=>(h2 b hb).1,h3,c.o,hw⟩
  clear l5 m5 hw;go_wp2_with fail;rw [Exit.noGoto_normal];go_end0;exact ⟨rfl,HF.o⟩
 ·rw [Tl]at hw;have K:s.cQ.length=W.length+1:=by rw [hw];simp
  obtain ⟨b5,rfl,cx⟩:=aS.o W.length ZO;have bj:s.cQ.getD W.length 0=x:=by rw [hw];simp [List.getD]
  rw [bj]at cx;rw [K]at c5 l5;have S:x∈s.cQ:=by rw [hw];simp
  have bW:x<n:=by rw [<-U.o];exact (c.o.inv.mem x (c.o.inv.fh S)).1
  have aH:=P1 hw;have t:=P1 bW;have bw:(x:Int)<n:=ZO;have bd:Hid (W.length<=1000000):=by have h1:=c.o.Ey;have h2:=c.o.cS;have h3:=U.o;have h4:=HN.o;show _<=_;omega
  have hm:=bd.o;have al:(W.length:Int)<W.length+1:=ZO;have aD:wrap64 (W.length:Int)=W.length:=by unfold wrap64;omega
  clear aS K bj S hw l5 m5;generalize bc:W.length=m at *;have o:=P1 bc;clear bc;go_wp2_with fail;go_quiet (fail);have a0:=P1 (V.o.ag (below_drewN wo nq));clear V H c5 f5 cx aD al bw;generalize wo.drewN nq=w4 at *;go_wp2_with fail;go_loopg [] (lf E x-s.next x) (λk wr=>∃a,Hid (k=lf E x-a.next x)/\Hid (WR I wr g q (SL ae n Y) n a)/\Hid (fE E (λv=>Z v\/v=N) a)/\Hid (a.cQ=W++[x])/\Hid (rC n a=rC n s));exact ⟨s,rfl,a0,c,aH,rfl⟩;clear a0 c;obtain ⟨a,bP,V,c,d,ab⟩:=hrel;obtain ⟨wi,rfl⟩:∃wi:WD,wi=wr:=⟨_,rfl⟩;generalize gk=k1 at *;have S:Hid (x∈a.cQ):=(show x∈a.cQ by rw [d.o];simp);have aQ:Hid (x∈a.aR):=c.o.inv.fh S.o;have H:=V.o.bS;have bh:=V.o.fm;have⟨b3,d3,c3,n3,f3,bz⟩:=V.o.JZ x t.o;have a2:=P1 bz;obtain ⟨bE,oE,ai,ci,rfl,a8,a9⟩:=(bF.o.ag V.o.aJ).at x (ZR U.o t.o);have aF:=P1 a9;have b9:=bL.o x (ZR U.o t.o);have aM:a.next x<=lf E x:=c.o.inv.next x (ZR U.o t.o);unfold lf at aM;have bw:(x:Int)<n:=ZH t.o;have bZ:Hid (lf E x=(E.getD x []).length):=rfl;clear bz a9;by_cases D:a.next x<(E.getD x []).length
  ·obtain ⟨bR,oR,rfl,cz,_⟩:=aF.o _ D;have cc:(a.next x:Int)<((E.getD x []).length:Int):=ZO
   have bT:(a.next x:Int)<=1000000000:=ZO;have b0:=P1 D;have aE:Hid (∀(_:∀y:Nat,y<E.length->(E.getD x []).getD (a.next x) 0=(y:Int)->a.aW y≠0/\(y∈a.aR->a.bG x<=a.aW y)),fE E (λv=>Z v\/v=N) (a.bump x)):=λhy=>c.o.bump S.o D rfl hy;have ay:Hid (∀y:Nat,y<E.length->(E.getD x []).getD (a.next x) 0=(y:Int)->gn E x y):=λy hy e=>IL (ZR U.o t.o) hy D e;have bD:Hid (∀y:Nat,y<E.length->(E.getD x []).getD (a.next x) 0=(y:Int)->a.aW y=0->fE E (λv=>Z v\/v=N) ((a.bump x).gd y)):=λy hy e h0=>
    c.o.step S.o D rfl e hy h0 (λv hv=>by
     have bg:=Own.aZ.qM (ay.o y hy e);have aL:=c.o.inv.nj;rw [d.o]at hv aL;rw [PC,Pc]at hv;rw [QO]at aL;obtain hv|rfl:=hv
     ·exact (aL.2.2 v hv x ZS).trans bg
     ·exact bg)
   have bB:Hid (∀y:Nat,y<E.length->(E.getD x []).getD (a.next x) 0=(y:Int)->y∈a.aR->fE E (λv=>Z v\/v=N) ((a.bump x).lower x (a.aW y))):=λy hy e T=>
    c.o.back S.o D rfl e T (Own.aZ.qM (ay.o y hy e))
   have au:Hid (lf E x-(a.bump x).next x<k1):=by have h1:=bP.o;have h2:(a.bump x).next x=a.next x+1:=aA _ _ _;have h3:a.next x<lf E x:=D;show _<_;omega
   have aB:=(c.o.inv.bG x aQ.o).1;have ac:=P1 aB;clear aM D aB;generalize hz:(E.getD x []).getD (a.next x) 0=z at *;have HZ:=P1 hz;clear hz;generalize (E.getD x []).length=L at *;generalize bp:a.next x=nx at *;have aY:=P1 bp;clear bp;go_wp2_with fail;go_quiet (fail);go_wp2_with fail;go_quiet (fail);have ad:=P1 λq1 q2=>(V.o.ag (below_drewN wi q1)).ag (below_drewN (wi.drewN q1) q2);clear H bh c3 n3 f3 a2 a8 cz aF V;generalize ap:(wi.drewN _).drewN _=w6;have P:Hid (WR I w6 g q (SL (some (AD bE oE)) n Y) n a):=by rw [<-ap];exact ad.o _ _
   clear ap ad;have⟨b6,d6,c6,n6,f6,bA⟩:=P.o.JZ x t.o;rw [aY.o]at n6;have Q:=P.o.bS;have f:Hid (WR I (w6.setCell (AD b6 x) (IV ((nx:Int)+1))) g q (SL (some (AD bE oE)) n Y) n (a.bump x)):=by
    have h:=bA (nx+1);rw [show((nx+1:Nat):Int)=(nx:Int)+1 by omega]at h;have e:(a.bump x)={a with next:=up a.next x (nx+1)}:=by unfold St.bump;rw [aY.o]
    rw [e];exact h
   clear bA;go_upto_region 8 with(fail);generalize w6.setCell (AD b6 x) (IV ((nx:Int)+1))=w7 at *;clear c6 n6 f6 Q P;have R:=f.o.bS;have bY:=f.o.fm;by_cases M:z<0
   ·have t0:decide (z<0)=true:=Rj M;have O:=P1 (aE.o (λy hy e=>ZO))
    clear M;go_wp2;go_roundg (lf E x-(a.bump x).next x);case measure=>exact au.o
    case rel=>exact ⟨a.bump x,rfl,f,O,d,ab⟩
   ·by_cases af:(n:Int)<=z
    ·have t0:decide (z<0)=false:=Q4 M;have t1:decide ((n:Int)<=z)=true:=Rj af
     have O:=P1 (aE.o (λy hy e=>by rw [U.o]at hy;omega));clear M af;go_wp2;go_roundg (lf E x-(a.bump x).next x);case measure=>exact au.o
     case rel=>exact ⟨a.bump x,rfl,f,O,d,ab⟩
    ·obtain ⟨y,rfl⟩:=Int.eq_ofNat_of_zero_le (show 0<=z by omega);have ax:y<n:=ZO
     have cb:(y:Int)<n:=ZO;have aw:Hid (y<E.length):=by show _<_;rw [U.o];exact ax
     have aI:=P1 ax;have⟨bn,dn,cn,nn⟩:=f.o.rdNum y ax;have t0:decide ((y:Int)<0)=false:=Q4 ZO;have t1:decide ((n:Int)<=y)=false:=Q4 ZO;have t2:decide (n<=y)=false:=Q4 ZO;have ez:(a.bump x).aW y=a.aW y:=rfl;rw [ez]at nn;clear M af ax ez;by_cases h0:a.aW y=0
     ·have bK:=P1 (bD.o y aw.o rfl h0);have bf:=c.o.cS
      have bN:=c.o.bA;have bO:=c.o.Ey;rw [U.o]at bf;have bC:=P1 (FF f.o y aI.o ZO (by show a.cS<=_;omega) (by show a.aR.length<=_;omega) (by show a.cQ.length<=_;omega));have bJ:Hid (2*rC n ((a.bump x).gd y)+((a.bump x).gd y).cQ.length<k0):=by
       have h1:=hk.o;have h2:rC n (a.bump x)=rC n ((a.bump x).gd y)+1:=C0 n (a.bump x) y aI.o h0;have h3:rC n (a.bump x)=rC n s:=ab.o;have h4:((a.bump x).gd y).cQ.length=a.cQ.length+1:=by show(a.cQ++[y]).length=_;simp
       have h5:a.cQ.length=s.cQ.length:=by rw [d.o,aH.o]
       show _<_;omega
      rw [h0]at nn;clear h0 bf bN bO;go_wp2_with fail;apply bC.o.mono;rintro e w8 ⟨rfl,u⟩;go_wp2;go_roundg (2*rC n ((a.bump x).gd y)+((a.bump x).gd y).cQ.length);case measure=>exact bJ.o
      case rel=>exact ⟨_,rfl,u,bK⟩
     ·have⟨bi,di,b1,aR⟩:=f.o.Of y aI.o;have ba:(a.bump x).inn y=a.inn y:=rfl
      rw [ba]at aR;have hq:((a.aW y:Int)==0)=false:=Q3.2 ZO;have b8:(a.aW y==0)=false:=Q3.2 h0;clear ba;by_cases aa:a.inn y=true
      ·have T:=(c.o.inv.inn y aw.o).1 aa;have O:=P1 (bB.o y aw.o rfl T)
       have bH:=P1 (yu f.o x (a.aW y) t.o);rw [aa]at aR;clear aa h0 T;generalize a.aW y=ny at *;go_wp2_with fail;apply bH.o.mono;rintro e w8 ⟨rfl,u⟩;go_wp2;go_roundg (lf E x-(a.bump x).next x);case measure=>exact au.o
       case rel=>exact ⟨(a.bump x).lower x ny,rfl,u,O,d,ab⟩
      ·have az:a.inn y=false:=ZX aa;have T:y∉a.aR:=λh=>aa ((c.o.inv.inn y aw.o).2 h)
       have O:=P1 (aE.o
        (λy' ca e=>(by obtain rfl:y'=y:=ZO;exact ⟨h0,λh=>absurd h T⟩)))
       rw [az]at aR;clear aa az h0 T;generalize a.aW y=ny at *;go_wp2;go_roundg (lf E x-(a.bump x).next x);case measure=>exact au.o
       case rel=>exact ⟨_,rfl,f,O,d,ab⟩
  ·have aj:a.next x=lf E x:=Uh (c.o.inv.next x (ZR U.o t.o)) (by unfold lf;omega);have aV:Hid (OB E a x):=aj
   have b2:¬((a.next x:Int)<((E.getD x []).length:Int)):=ZO;have b4:decide (a.next x<(E.getD x []).length)=false:=Q4 D;have bI:=P1 (And.intro (c.o.inv.bG x aQ.o).1 (c.o.inv.Nw d.o));have bT:(a.next x:Int)<=1000000000:=ZO;clear aM D aj aF;generalize (E.getD x []).length=L at *;generalize a.next x=nx at *;go_wp2_with fail;go_quiet (fail);have ad:=P1 λq1=>V.o.ag (below_drewN wi q1);clear H bh c3 n3 f3 a2 a8 V;generalize ap:wi.drewN _=w6;have P:Hid (WR I w6 g q (SL (some (AD bE oE)) n Y) n a):=by rw [<-ap];exact ad.o _
   clear ap ad;have⟨a6,d6,c6,f6,l6,m6,a4,bx⟩:=P.o.J0;have K:a.cQ.length=m+1:=by rw [d.o,Q0,o.o];rfl
   rw [K]at c6 l6;obtain ⟨b6,rfl,_⟩:=a4 0 ZO;have Q:=P.o.bS;have f:Hid (WR I (w6.setCell (AD g 5) (SV b6 m d6)).drew g q (SL (some (AD bE oE)) n Y) n {a with cQ:=W}):=by have h:=bx m ZO;rw [d.o,show(W++[x]).take m=W by rw [<-o.o,List.take_left]]at h;exact h.ag (Pn _ _).drew
   clear bx a4 K;have hm:=bd.o;have aD:wrap64 (m:Int)=m:=by unfold wrap64;omega
   have bS:(m:Int)<=d6:=ZO;have bo:m<=d6:=ZO;have al:(m:Int)<m+1:=ZO;go_upto_region 13 with(fail);refine dM 12 ZK ZK ?_;simp only [SY,Ri,SW,TE];repeat(go_big_quiet_step (fail))
   refine Uy ?_;clear bI;go_upto_region 14 with(fail);generalize (w6.setCell (AD g 5) (SV b6 m d6)).drew=w7 at *;clear c6 f6 l6 m6 Q bS bo al P;have R:=f.o.bS;have⟨a7,d7,c7,f7,l7,m7,aJ,_⟩:=f.o.J0;have aq:({a with cQ:=W}:St).cQ.length=m:=o.o;rw [aq]at c7 l7 aJ;have aT:=P1 aJ;have⟨bl,dl,cl,nl⟩:=f.o.Og x t.o;have bm:({a with cQ:=W}:St).bG x=a.bG x:=rfl;rw [bm]at nl;have ah:=c.o.cS;rw [U.o]at ah;have bs:a.aR.length<=1000000000:=ZH c.o.bA;have bu:rC n a=rC n s:=ab.o;have bk:2*rC n a+m<k0:=by
    have h1:=hk.o;have h2:s.cQ.length=m+1:=by rw [aH.o,Q0,o.o];rfl
    omega
   have aG:=P1 bk;have bM:=P1 bs;clear aJ f7 m7 aq bm ah bs bu bk;by_cases l:a.bG x=a.aW x
   ·have⟨A,B,hs⟩:=List.append_of_mem aQ.o;have br:=c.o.inv.root d.o aV.o l hs (Ci x B) (Lt x B)
    have bv:x∉B:=λhm=>by have bt:=c.o.inv.sorted;rw [hs,QO,UG]at bt;have:=bt.2.1.1 x hm;omega
    have ar:=P1 λw8 (h8:WR I w8 g q (SL (some (AD bE oE)) n Y) n {a with cQ:=W})=>Mf h8 x A B hs bv (λv hv=>by rw [<-U.o];exact (c.o.inv.mem v (by rw [hs];exact Qt _ hv)).1) l ZO bM.o
    have av:Hid (fE E (λv=>Z v\/v=N) (a.off W A (x::B) (qf (x::B)))):=⟨br,c.o.cS,by have h1:=c.o.bA;rw [hs,Q0]at h1;show A.length<=a.cS;omega,c.o.bZ⟩
    have aX:Hid (∀p∈W,a.bG p<=a.bG x):=λp G=>by have h1:=c.o.inv.Ot d.o p G;have h2:=(c.o.inv.bG p (c.o.inv.fh (by rw [d.o];exact P0 _ G))).1;omega
    clear hs br bv l;generalize qf (x::B)=mn at *;obtain j|⟨W',p,j⟩:=Tm W
    ·have bQ:m=0:=by rw [<-o.o,j];rfl
     subst bQ;clear j l7;go_wp2_with fail;refine (ar.o _ f.o).mono ?_;rintro e w8 ⟨rfl,u⟩;go_wp2;go_roundg (2*rC n a);case measure=>have:=aG.o;omega
     case rel=>exact ⟨a.off W A (x::B) mn,(by show 2*rC n a=2*rC n a+W.length;have:=o.o;omega),u,av⟩
    ·rw [Tl]at j;obtain ⟨r,rfl⟩:∃r,m=r+1:=⟨W'.length,by rw [<-o.o,j];simp⟩
     have ak:W.getD r 0=p:=by
      have:W'.length=r:=by have:=o.o;rw [j]at this;simpa using this
      rw [j,<-this];simp [List.getD]
     obtain ⟨b7,rfl,cp⟩:=aT.o r ZO;have J:({a with cQ:=W}:St).cQ.getD r 0=p:=ak;rw [J]at cp;have G:p∈W:=by rw [j];simp
     have am:p<n:=by rw [<-U.o];exact (c.o.inv.mem p (c.o.inv.fh (by rw [d.o];exact P0 _ G))).1
     have ac:=P1 (yu (f.o.ag (Pn _ _).drew) p (a.bG x) am);rw [DW _ _ _ (show({a with cQ:=W}:St).bG p<=a.bG x from aX.o p G)]at ac;have bU:(p:Int)<n:=ZO;have al:(r:Int)<r+1:=ZO;have aP:wrap64 (r:Int)=r:=by unfold wrap64;omega
     clear ak J G j am aX;generalize a.bG x=lx at *;go_wp2_with fail;refine dM 20 ZK ZK ?_;simp only [SY,Ri,SW,TE];repeat(go_big_quiet_step (fail))
     refine Uy ?_;go_wp2_with fail;apply ac.o.mono;rintro e w8 ⟨rfl,u⟩;have aK:=u.o.bS;clear c7 nl cl cp R;go_wp2_with fail;refine (ar.o _ u.o).mono ?_;rintro e w9 ⟨rfl,aO⟩;go_wp2;go_roundg (2*rC n a+(r+1));case measure=>exact aG.o
     case rel=>exact ⟨a.off W A (x::B) mn,(by show 2*rC n a+(r+1)=2*rC n a+W.length;have:=o.o;omega),aO,av⟩
   ·have⟨W',p,j,ao⟩:=c.o.inv.dy d.o aV.o l;obtain ⟨r,rfl⟩:∃r,m=r+1:=⟨W'.length,by rw [<-o.o,j];simp⟩
    have ak:W.getD r 0=p:=by
     have:W'.length=r:=by have:=o.o;rw [j]at this;simpa using this
     rw [j,<-this];simp [List.getD]
    obtain ⟨b7,rfl,cp⟩:=aT.o r ZO;have J:({a with cQ:=W}:St).cQ.getD r 0=p:=ak;rw [J]at cp;have G:p∈W:=by rw [j];simp
    have am:p<n:=by rw [<-U.o];exact (c.o.inv.mem p (c.o.inv.fh (by rw [d.o];exact P0 _ G))).1
    have bq:p≠x:=λe=>by have:=c.o.inv.Ot d.o p G;rw [e]at this;omega
    have ac:=P1 (yu (f.o.ag (Pn _ _).drew) p (a.bG x) am);have ar:=P1 λw8 (h8:WR I w8 g q (SL (some (AD bE oE)) n Y) n (({a with cQ:=W}:St).lower p (a.bG x)))=>Mg h8 x t.o (by have e1:(({a with cQ:=W}:St).lower p (a.bG x)).bG x=a.bG x:=an _ _ _ _ (Rz bq);rw [e1];exact l)
    have av:Hid (fE E (λv=>Z v\/v=N) (({a with cQ:=W}:St).lower p (a.bG x))):=⟨ao,c.o.cS,c.o.bA,c.o.bZ⟩;have bU:(p:Int)<n:=ZO;have al:(r:Int)<r+1:=ZO;have aP:wrap64 (r:Int)=r:=by unfold wrap64;omega
    clear ak J G j am l ao bq;generalize a.bG x=lx at *;go_wp2_with fail;refine dM 20 ZK ZK ?_;simp only [SY,Ri,SW,TE];repeat(go_big_quiet_step (fail))
    refine Uy ?_;go_wp2_with fail;apply ac.o.mono;rintro e w8 ⟨rfl,u⟩;have aK:=u.o.bS;clear c7 nl cl cp R;go_wp2_with fail;refine (ar.o _ u.o).mono ?_;rintro e w9 ⟨rfl,aO⟩;go_wp2;go_roundg (2*rC n a+(r+1));case measure=>exact aG.o
    case rel=>exact ⟨({a with cQ:=W}:St).lower p lx,(by show 2*rC n a+(r+1)=2*rC n a+W.length;have:=o.o;omega),aO,av⟩
end
end Go.Proofs.YtimniinkpipnmaaGreatDoor.Scc
