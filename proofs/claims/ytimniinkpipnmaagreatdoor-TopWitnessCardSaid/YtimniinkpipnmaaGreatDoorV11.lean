/- A part of the proof of TopWitness. -/
import Derived.Test.YtimniinkpipnmaaGreatDoorV10
import Derived.Deep.Fields
import Derived.Deep.SlicePairs
import Derived.LaidMore
set_option maxRecDepth 100000
set_option maxHeartbeats 8000000
set_option linter.all false
namespace Go.Proofs.YtimniinkpipnmaaGreatDoor
open Go.RowKit Go.Own Go.Proofs.Tryz
def Jh{A E b}(h:su A E)(e:su A b){a S i}(g:yv E a S i):yv b a S i:=by
 obtain ⟨p,f,c,j⟩:=g;refine ⟨p,f,λk=>?_,j⟩;have d:p k<A.ak.length:=by rw [<-h.bA];exact (c k).1
 exact (e.gn _ _ d).2 ((h.gn _ _ d).1 (c k))
def BA{A E}(h:su A E){u}(d:lY A u):∃i∈A.aP.filter (gU A),yv E (Je A) A.sets i:=by have⟨i,a,b,c⟩:=KU h d;exact ⟨i,PY.2 ⟨a,j4.2 b⟩,c⟩
def Et(w a n c F sa K cs la E cp st lp)(hF:bD w a n F)(hn:n<=4611686018427387903)(aM:aG .u64 w sa K (aE st))(aI:aG .u64 w la E (aE lp))(aX:K<=4611686018427387903)(aW:E<=4611686018427387903)(am:ep w):
 CL 4 #[SL a n c,.agg #[SL sa K cs,SL la E cp]] w λe l=>e=RT (.bool true)/\BW w l:=by
 obtain ⟨q,hq⟩:=EX w.heap.size
 obtain ⟨j,aa⟩:=EX (w.alloc (CE #[SL sa K cs,SL la E cp] 25))
 have B:BW w j:=aa▸ah _ _
 have ao:j.heap[q]? =some (.cells #[SL sa K cs,SL la E cp] 25 (0,0)):=by rw [<-aa,<-hq];exact (Ph w _).1
 have aB:Hid (∀l:WD,BW j l->l.cell? (AD q 0)=some (SL sa K cs)/\l.cell? (AD q 1)=some (SL la E cp)):=λl hb=>by have h3:=(hb.block q (Pb.1 ao).1).trans ao;exact ⟨CH h3,CH h3⟩
 have z:Hid (∀W:WD,BW j W->CL 7 #[] W λe l=>e=RT (.bool true)/\BW W l):=λW N=>by refine (Gd W ((am.ag B).ag N)).mono ?_;rintro e l ⟨rfl,hb⟩;exact ⟨rfl,hb⟩
 obtain ⟨k,hk⟩:=EX (dj K E)
 have aw:Hid (∀W:WD,BW j W->CL 5 #[.agg #[SL sa K cs,SL la E cp]] W λe l=>e=RT (IV k)/\BW j l):=λW N=>by refine (pj sa K cs la E cp W aX aW).mono ?_;rintro e l ⟨rfl,hb⟩;exact ⟨by rw [hk],af N hb⟩
 have ae:=O8 (hF.ag B)
 have aT:=O8 (aM.ag B)
 have aR:=O8 (aI.ag B)
 have aA:=O8 (am.ag B)
 have y:=O8 B
 have aQ:=O8 hk
 have M:Hid (BW j j):=PF _ _
 obtain ⟨c0,c1⟩:=aB.o j M.o
 have a4:((0:Int)==0)=true:=rfl
 clear hF aM aI am B ao hk
 go_enter func4,ntmps4
 go_upto_region 1 with(fail)
 (try rw [aa])
 (try rw [hq])
 clear aa hq
 by_cases t0:30<n
 ·have a0:(30:Int)<(n:Int):=ZO;go_wp2_with (go_at_call 7;refine (z.o j M.o).mono ?_;rintro e w2 ⟨rfl,g⟩;have m:=O8 g;clear g)
  go_ret;exact ⟨rfl,af y.o m.o⟩
 have a0:¬(30:Int)<(n:Int):=ZO
 by_cases t1:10<K
 ·have a1:(10:Int)<(K:Int):=ZO;go_wp2_with (go_at_call 7;refine (z.o j M.o).mono ?_;rintro e w2 ⟨rfl,g⟩;have m:=O8 g;clear g)
  go_ret;exact ⟨rfl,af y.o m.o⟩
 have a1:¬(10:Int)<(K:Int):=ZO
 by_cases t2:10<E
 ·have a2:(10:Int)<(E:Int):=ZO;go_wp2_with (go_at_call 7;refine (z.o j M.o).mono ?_;rintro e w2 ⟨rfl,g⟩;have m:=O8 g;clear g)
  go_ret;exact ⟨rfl,af y.o m.o⟩
 have a2:¬(10:Int)<(E:Int):=ZO
 by_cases t3:k=0
 ·subst t3;have aJ:0<E:=Nat.pos_of_ne_zero (λh=>by have:=aQ.o;unfold dj at this;rw [PW h]at this;cases this)
  go_upto_region 3 with(go_at_call 5;refine (aw.o j M.o).mono ?_;rintro e w2 ⟨rfl,g⟩;have m:=O8 g;clear g);have ay:=O8 (zI w2 a n c F true (ae.o.ag m.o) ZO (aA.o.ag m.o));clear c0 c1;go_upto_region 4 with(go_at_call 9;apply ay.o.mono;rintro e wn ⟨aF,s,ia,il,ic,na,nl,nc,er,rfl,h0,-⟩;have av:=O8 aF;have az:=O8 h0;clear aF h0);clear ay;obtain ⟨qA,hq⟩:=EX wn.heap.size;obtain ⟨x,hw⟩:=EX (wn.alloc (CE #[IV s,SL ia il ic,SL na nl nc] 36));have al:Hid (BW wn x):=hw▸ah _ _;have Z:Hid (∀W:WD,BW x W->W.cell? (AD qA 0)=some (IV s)/\W.cell? (AD qA 1)=some (SL ia il ic)/\W.cell? (AD qA 2)=some (SL na nl nc)):=λW h=>by
   have h1:x.heap[qA]? =some (.cells #[IV s,SL ia il ic,SL na nl nc] 36 (0,0)):=by rw [<-hw,<-hq];exact (Ph wn _).1
   have h2:=(h.block qA (Pb.1 h1).1).trans h1;rw [Pa h2,Pa h2,Pa h2];exact ⟨rfl,rfl,rfl⟩
  (try rw [hw]);(try rw [hq]);have P:Hid (BW j x):=af m.o (af av.o al.o);clear hw hq;by_cases aH:er=0
  ·subst aH;obtain ⟨A,f,rfl,hv,hA,hf,-,ab⟩:=az.o rfl
   have HV:=O8 (hv.ag al.o);have HA:=O8 hA;have ax:=O8 hf;have I:=O8 ab;clear hv hA hf ab az al av;have ak:=O8 (C7 x A ia il ic na nl nc HV.o HA.o (aA.o.ag P.o));obtain ⟨d0,d1,d2⟩:=Z.o x (PF _ _);go_upto_region 7 with(fail);apply ak.o.mono;rintro e w4 ⟨R,(⟨rfl,E1,aq,ap⟩|⟨aZ,aY,G,v,H,C,u,D,rfl,aL,aK,h0,hl,an⟩)⟩;all_goals
    rename_i hK
    refine hK _ _ ?_
    clear hK
   ·have a3:Hid (BW x w4):=R;obtain ⟨d,t⟩:=EX (w4.alloc (CE #[SN,SN] 25))
    have o:BW x d:=af R (t▸ah _ _);have aN:=O8 o;have J:Hid (BW j d):=af P.o o;have ad:Hid (CL 13 #[.agg #[IV (A.sets:Int),SL ia il ic,SL na nl nc]] d λe l=>e=RT (.bool true)/\BW d l):=by refine (zr d A ia il ic na nl nc (HV.o.ag o) HA.o).mono ?_;rintro e l ⟨b,E2,rfl,V,-,hb,p⟩;have h:b=true:=hb.2 (λ⟨i,h1,h2⟩=>ap ⟨i,h1,Jh V aq h2⟩);subst h;exact ⟨rfl,p⟩
    have ai:Hid (∀W,BW j W->CL 14 #[SL a n c,.agg #[SL sa K cs,SL la E cp]] W λe l=>e=RT (.bool true)/\BW W l):=λW N=>by refine (xU W a n c F f (ae.o.ag N) ax.o ZO sa K cs la E cp st lp (aT.o.ag N) (aR.o.ag N) aJ ZO).mono ?_;rintro e l ⟨r,rfl,hr,p⟩;have h:r=true:=hr.2 (QB λh=>ap (BA aq ((I.o _).2 h)));subst h;exact ⟨rfl,p⟩
    obtain ⟨d0,d1,d2⟩:=Z.o d o;have aj:=O8 t;clear R o aq ap ak HV HA I t;go_upto_region 7 with(fail);(try rw [aj.o]);go_upto_region 9 with(go_at_call 13;apply ad.o.mono;rintro e w6 ⟨rfl,T⟩;have L:=O8 (af J.o T);clear T);obtain ⟨c0,c1⟩:=aB.o w6 L.o;go_wp2_with (first|(go_at_call 14;refine (ai.o w6 L.o).mono ?_;rintro e w7 ⟨rfl,O⟩;have X:=O8 (af L.o O);clear O)|(go_at_call 7;refine (z.o w7 X.o).mono ?_;rintro e w8 ⟨rfl,U⟩;have Y:=O8 U;clear U));go_ret;exact ⟨rfl,af y.o (af X.o Y.o)⟩
   ·obtain ⟨qx,ar⟩:=EX w4.heap.size;obtain ⟨d,t⟩:=EX (w4.alloc (CE #[SL G v H,SL C u D] 25))
    have S:BW w4 d:=t▸ah _ _;have o:BW x d:=af R S;have aN:=O8 o;have J:Hid (BW j d):=af P.o o;have au:d.heap[qx]? =some (.cells #[SL G v H,SL C u D] 25 (0,0)):=by rw [<-t,<-ar];exact (Ph w4 _).1
    have HX:Hid (∀W:WD,BW d W->W.cell? (AD qx 0)=some (SL G v H)/\W.cell? (AD qx 1)=some (SL C u D)):=λW h=>by have h2:=(h.block qx (Pb.1 au).1).trans au;exact ⟨CH h2,CH h2⟩
    have ad:Hid (CL 13 #[.agg #[IV (A.sets:Int),SL ia il ic,SL na nl nc]] d λe l=>e=RT (.bool false)/\BW d l):=by
     refine (zr d A ia il ic na nl nc (HV.o.ag o) HA.o).mono ?_;rintro e l ⟨b,E2,rfl,V,-,hb,p⟩;have h:b=false:=by
      cases b
      ·rfl
      ·exact absurd (BA V an) (hb.1 rfl)
     subst h;exact ⟨rfl,p⟩
    have aP:Hid (∀W,BW d W->CL 5 #[.agg #[SL G v H,SL C u D]] W λe l=>e=RT (IV 0)/\BW d l):=λW N=>by
     refine (pj G v H C u D W ZO ZO).mono ?_;rintro e l ⟨rfl,p⟩;have h:dj v u=0:=by unfold dj;rw [Qa ZO,Qa ZO]
     exact ⟨by rw [h],af N p⟩
    have ai:Hid (∀W,BW d W->CL 14 #[SL a n c,.agg #[SL G v H,SL C u D]] W λe l=>e=RT (.bool false)/\BW d l):=λW N=>by
     have aU:=af J.o N;have aC:=af S N;refine (xU W a n c F f (ae.o.ag aU) ax.o ZO G v H C u D aZ aY (aL.ag aC) (aK.ag aC) h0 hl).mono ?_;rintro e l ⟨r,rfl,hr,p⟩;have h:r=false:=by
      cases r
      ·rfl
      ·exact absurd (hr.1 rfl) ((I.o _).1 an)
     subst h;exact ⟨rfl,af N p⟩
    obtain ⟨d0,d1,d2⟩:=Z.o d o;have aj:=O8 t;have aS:=O8 ar;clear R o S au aL aK h0 hl an ak HV HA I t ar;go_upto_region 7 with(fail);(try rw [aj.o]);(try rw [aS.o]);go_upto_region 9 with(go_at_call 13;apply ad.o.mono;rintro e w6 ⟨rfl,T⟩;have L:=O8 T;clear T);obtain ⟨x0,x1⟩:=HX.o w6 L.o;go_wp2_with (first|(go_at_call 5;refine (aP.o w6 L.o).mono ?_;rintro e w7 ⟨rfl,O⟩;have X:=O8 O;obtain ⟨y0,y1⟩:=HX.o w7 O;clear O)|(go_at_call 14;refine (ai.o w7 X.o).mono ?_;rintro e w8 ⟨rfl,U⟩;have Y:=O8 (af J.o U);clear U)|(go_at_call 7;refine (z.o w8 Y.o).mono ?_;rintro e w9 ⟨rfl,aD⟩;have aO:=O8 aD;clear aD));go_ret;exact ⟨rfl,af y.o (af Y.o aO.o)⟩
  ·have aV:(er==0)=false:=ZX aH;obtain ⟨d0,d1,d2⟩:=Z.o x (PF _ _)
   go_wp2_with (go_at_call 7;refine (z.o x P.o).mono ?_;rintro e w3 ⟨rfl,Q⟩;have ac:=O8 Q;clear Q);go_ret;exact ⟨rfl,af y.o (af P.o ac.o)⟩
 ·have aV:(k==0)=false:=ZX t3;go_wp2_with (first|(go_at_call 5;refine (aw.o j M.o).mono ?_;rintro e w2 ⟨rfl,g⟩;have m:=O8 g;clear g)|(go_at_call 7;refine (z.o w2 m.o).mono ?_;rintro e w3 ⟨rfl,Q⟩;have ac:=O8 Q;clear Q))
  go_ret;exact ⟨rfl,af y.o (af m.o ac.o)⟩
end Go.Proofs.YtimniinkpipnmaaGreatDoor
namespace Go.Own
open Go.RowKit Go.ChangeShapes Go.WideShapes Go.ChangeAt Go.Deep
section
section
variable {H:Type} {enc:TypeId×Value->H} {P:Program} {w:WD} {base:Nat} {spare:Nat->Bool} {held:Bool}
def Gn{t d a i x}(r:P.underlying t=some (.struct d))(b:oneCellFields P d=true)(h:DataW.trod enc P w base spare held a t i=some x):
 ∃n,∀(j:Nat)(f c),d[j]? =some f->i[j]? =some c->∃y,DataW.trod enc P w base spare held n f.type [c]=some y:=by
 have⟨u,n,_,_,_,s,m⟩:=DataW.trod_struct r h
 refine ⟨n,λj f c e l=>?_⟩
 have⟨q,p⟩:=hone_of b j f e
 have k:=m j f e
 obtain ⟨g,rfl⟩:=List.getElem?_eq_some_iff.1 l
 have o:j<d.size:=(Pb.1 e).1
 rw [q,p,List.drop_eq_getElem_cons g,List.take_succ_cons,List.take_zero]at k
 exact ⟨u[j]' ZO,by rw [k];exact List.getElem?_eq_getElem ZO⟩
def Bn{t e v a g o d p bytes k}
 (S:P.underlying t=some (.slice e)) (Y:P.underlying e=some (.struct v)) (C:oneCellFields P v=true) (hk:v.size=k) (aa:0<k) (V:P.cellsOf e=k) (W:P.bytesOf e=bytes)
 (h:DataW.Trod enc P w 0 (λ_=>true) true t (SL a g o) d p) (hw:∀n∈d.weights P t,n<=reachBytes):
 g<=o/\o<=maxLen/\o*bytes<=140737488351232/\(a=none->g=0/\o=0)/\(g=0\/∃b s,a=some (AD b s)/\∀i,i<g->∃n,∀j f,v[j]? =some f->
  ∃c y,CA w b (s+i*k+j) c/\DataW.trod enc P w 0 (λ_=>true) true n f.type [c]=some y):=by
 obtain ⟨Q,Z⟩:=h
 obtain ⟨r,N⟩|⟨x,l,c,m,n,D,Pl,r,_,hl,hm,B,N,A⟩:=open_slice S Z
 simp [Value.cells]at r
 obtain ⟨rfl,rfl,rfl⟩:=r
 exact ⟨Pf _,by simp [maxLen],ZS,λ_=>⟨rfl,rfl⟩,.inl rfl⟩
 simp [Value.cells]at r
 obtain ⟨rfl,rfl,rfl⟩:=r
 simp only [if_true]at B
 subst B
 simp only [Prod.mk.injEq]at N
 obtain ⟨rfl,_⟩:=N
 have E:=hw ((g+(m-g))*bytes) (by simp [DataW.weights,S,W])
 rw [show g+(m-g)=m by omega]at E
 refine ⟨hl,hm,E,(λh=>by cases h),?_⟩
 obtain I|I:=Nat.eq_zero_or_pos g
 exact .inl I
 right
 rw [V]at A
 have q:∀i,i<g->∃n,∀(j:Nat)(f:Field),v[j]? =some f->∃c y,w.cell? (x.add (i*k+j))=some c/\DataW.trod enc P w 0 (λ_=>true) true n f.type [c]=some y:=by
  intro i R;have⟨z,T,U⟩:=A i ZO;have⟨_,X,J⟩:=World.cells?_some T;have⟨n',M⟩:=Gn Y C U;refine ⟨n',λj f G=>?_⟩;have K:j<k:=by have:=(Pb.1 G).1;omega
  have u:z[j]? =some (z[j]' ZO):=List.getElem?_eq_getElem ZO;have⟨y,O⟩:=M j f _ G u;exact ⟨_,y,by rw [<-Go.Deep.add_add,J j K,u],O⟩
 obtain ⟨b,s,F⟩:=x
 have hs:F=none:=by have⟨n,L⟩:=q 0 I;have⟨c,y,u,_⟩:=L 0 (v[0]' ZO) ZS;simpa [Addr.add]using World.cell?_spot u
 subst hs
 refine ⟨b,s,rfl,λi R=>?_⟩
 have⟨n,L⟩:=q i R
 refine ⟨n,λj f G=>?_⟩
 have⟨c,y,u,O⟩:=L j f G
 rw [Addr.add_lit,<-Nat.add_assoc]at u
 exact ⟨c,y,u,O⟩
end
end
end Go.Own
namespace Go.Proofs.YtimniinkpipnmaaGreatDoor
open Go.RowKit Go.Own Go.ChangeShapes Go.WideShapes Go.ChangeAt Go.Deep Go.Proofs.Tryz
section
def Gh{α:Type}{n}{Q:Nat->α->Prop}(d:α)(h:∀i,i<n->∃z,Q i z):∃Z:Nat->α,∀i,i<n->Q i (Z i):=
 ⟨λi=>if a:i<n then Classical.choose (h i a)else d,λi b=>by show Q i (if a:i<n then Classical.choose (h i a)else d);rw [dif_pos b];exact SA (h i b)⟩
section
variable {H:Type} {enc:TypeId×Value->H} {W:WD}
def Ex{a c l d p}(h:DataW.Trod enc prog W 0 (λ_=>true) true 22 (SL a c l) d p)(hw:∀n∈d.weights prog 22,n<=reachBytes):
 ∃F,bD W a c F/\c<=4611686018427387903:=by
 have⟨D,E,G,_,m⟩:=Bn (bytes:=16) (k:=2) T9 underlying32 ZK rfl ZD ZK ZK h hw
 have f:c<=4611686018427387903:=ZO
 obtain rfl|⟨b,g,rfl,m⟩:=m
 exact ⟨[],⟨rfl,.inl rfl⟩,f⟩
 have x:∀i,i<c->∃z:Int×Int,CA W b (g+i*2) (IV z.1)/\CA W b (g+i*2+1) (IV z.2):=λi j=>by have⟨n,r⟩:=m i j;have⟨B,I,u,s⟩:=r 0 _ rfl;have⟨C,J,v,t⟩:=r 1 _ rfl;have⟨y,o,_⟩:=DataW.trod_int S4 s;have⟨A,q,_⟩:=DataW.trod_int S4 t;simp only [Rk,and_true]at o q;subst o q;exact ⟨(y,A),u,v⟩
 have⟨Z,w⟩:=Gh (0,0) x
 refine ⟨(List.range c).map Z,⟨ZS,.inr ⟨b,g,rfl,λi j=>?_⟩⟩,f⟩
 have e:((List.range c).map Z).getD i (0,0)=Z i:=by simp [List.getD,j]
 rw [e]
 exact w i j
def ML{α:Type}(a:Array α)(h:a.size=2):∃b c,a=#[b,c]:=by
 obtain ⟨l⟩:=a;match l,h with
 |[b,c],_=>exact ⟨b,c,rfl⟩
def FE(a)(h:∀z∈a,(Lit.int .u64 z).wf=true):∃c,a=aE c/\∀x∈c,x<18446744073709551616:=by refine ⟨a.map Int.toNat,?_,λx d=>?_⟩;unfold aE;rw [TA];symm;refine (Sn λz b=>?_).trans (List.map_id a);have:=bounds_u64 (h z b);show((z.toNat:Nat):Int)=z;omega;obtain ⟨z,b,rfl⟩:=Qx.1 d;have:=bounds_u64 (h z b);omega
def Ic{e v d p}(Q:Value.okWide prog W .any e 25 v)(h:DataW.Trod enc prog W 0 (λ_=>true) true 25 v d p)(hw:∀n∈d.weights prog 25,n<=reachBytes):
 ∃(V:OA)(E r:Nat)(U:OA)(D Z:Nat)(q o:List Nat),v=.agg #[SL V E r,SL U D Z]/\aG .u64 W V E (aE q)/\aG .u64 W U D (aE o)/\kE q o/\E<=4611686018427387903/\D<=4611686018427387903:=by
 obtain ⟨r,rfl,l⟩:=okWide_struct underlying25 Q
 have s:prog.cellsOf 25=2:=ZK
 obtain ⟨x0,x1,rfl⟩:=ML r (l.trans s)
 obtain ⟨K,P⟩:=h
 have⟨a,n,_,R,_,m,c⟩:=DataW.trod_struct underlying25 P
 simp only [Prod.mk.injEq]at R
 obtain ⟨rfl,_⟩:=R
 have N:=c 0 _ rfl
 have O:=c 1 _ rfl
 have aa:prog.cellsOf 23=1:=ZK
 have f:0<a.length:=by rw [m];decide
 have g:1<a.length:=by rw [m];decide
 have L:DataW.trod enc prog W 0 (λ_=>true) true n 23 [x0]=some a[0]:=(N.trans (Pe f))
 have M:DataW.trod enc prog W 0 (λ_=>true) true n 23 [x1]=some a[1]:=(O.trans (Pe g))
 clear N O c P Q l
 have i:∀{x y},DataW.trod enc prog W 0 (λ_=>true) true n 23 [x]=some y->∃X C Y,x=SL X C Y:=λh=>by
  obtain ⟨b,_⟩|⟨y,l',c',m',n',D',P',b,_⟩:=open_slice RS h;all_goals
   simp only [Rk,and_true]at b
   exact ⟨_,_,_,b⟩
 obtain ⟨F,S,I,rfl⟩:=i L
 obtain ⟨G,T,J,rfl⟩:=i M
 have u:DataW.Trod enc prog W 0 (λ_=>true) true 23 (SL F S I) (a[0]).1 (a[0]).2:=⟨n,L⟩
 have w:DataW.Trod enc prog W 0 (λ_=>true) true 23 (SL G T J) (a[1]).1 (a[1]).2:=⟨n,M⟩
 obtain ⟨z0,r0,f0,u0,v0,s0,-⟩:=Ae (bytes:=8) RS underlying45 ZK ZK u (λk z=>hw k (by simp only [DataW.weights,underlying25];exact Um (j:=0) (t:=23) (d:=(a[0]).1) rfl (by simp [f]) k z))
 obtain ⟨z1,r1,f1,u1,v1,s1,-⟩:=Ae (bytes:=8) RS underlying45 ZK ZK w (λk z=>hw k (by simp only [DataW.weights,underlying25];exact Um (j:=1) (t:=23) (d:=(a[1]).1) rfl (by simp [g]) k z))
 obtain ⟨q,rfl,B⟩:=FE z0 f0
 obtain ⟨o,rfl,A⟩:=FE z1 f1
 exact ⟨F,S,I,G,T,J,q,o,rfl,r0,r1,⟨B,A⟩,ZO,ZO⟩
end
def Md(w a n c F m d q k b p o l)(hF:bD w a n F)(r:n<=4611686018427387903)(j:aG .u64 w m d (aE o))(g:aG .u64 w k b (aE l))(_:kE o l)(i:d<=4611686018427387903)(h:b<=4611686018427387903)(f:ep w):
 CL 4 #[SL a n c,.agg #[SL m d q,SL k b p]] w λe s=>e=RT (.bool true)/\BW w s:=
 Et w a n c F m d q k b p o l hF r j g i h f
end
end Go.Proofs.YtimniinkpipnmaaGreatDoor
