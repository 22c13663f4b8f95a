/- The card of TopNegates: the law holds of every input, its tables tied to the text. -/
import Derived.Test.YtimniinkpipnmaaGreatDoorCards
import Derived.Test.YtimniinkpipnmaaGreatDoorTie
import Derived.Test.YtimniinkpipnmaaGreatDoorR10
import Derived.Stop.LaidErr
set_option maxRecDepth 100000
set_option maxHeartbeats 8000000
set_option linter.all false
namespace Go.Proofs.YtimniinkpipnmaaGreatDoor.topNegates
open Go.ChangeShapes Go.WideShapes Go.ChangeAt Go.RowKit Go.Own
theorem cK:ownKnob Tryz.prog.godebug=none:=by kernel_rfl
theorem nE:laidOutB Tryz.prog=true:=by kernel_rfl
theorem gB:Tryz.prog.globalNamed "math/bits.deBruijn64tab"=some 0:=by kernel_rfl
theorem tB:(Tryz.prog.globals[0]?).map (·.type)=some 180:=by kernel_rfl
theorem Ha(b:Os)(a:Array Value):laidMetH Tryz.prog Rows.topNegatesRow.laid ((World.doorLaid Tryz.prog 24 b).forCall (λ_ _=>0) ⟨#[],a,[]⟩).memory:=
 laidMetH_of_parts3 (fuel:=8) (laidMet_of_run' 8 (by kernel_rfl) (by kernel_rfl)) (by kernel_rfl) (by kernel_rfl)
theorem LW{W:WD}(h:laidMetH Tryz.prog Rows.topNegatesRow.laid W):eG W:=by rw [MakeChecks.laidMetH_plain _ _ _ (by kernel_rfl)]at h;have b:=h.tail;have c:=Lib.tabIs_of_head (k:=.u8) (zs:=Lib.deBruijn64tab.map λx:Nat=>(x:Int)) gB tB Tryz.underlying180 SM (by kernel_rfl) (by kernel_rfl) b;intro j a;have d:=c.cell gB j (by rw [NU];exact a);rw [d];simp [List.getD,a]
theorem LC(l:Os)(f:l.Started)(H:Type)(c:TypeId×Value->H):
 ReturnsInHanded {} Tryz.checked l 3 .any (λw a=>(Rows.topNegatesSpec.pre c Tryz.prog Tryz.f3 Rows.topNegatesRow.domain false w a/\laidMetH Tryz.prog Rows.topNegatesRow.laid w)/\sizedMet c Tryz.prog Tryz.f3 (OpenSpec.ofChange Rows.topNegatesSpec) false w a) (Rows.topNegatesSpec.post c Tryz.prog Tryz.f3 false true false false):=by
 refine returnsInHanded_of_change_and (C:=Tryz.checked) (X:=λw _=>laidMetH Tryz.prog Rows.topNegatesRow.laid w) (λ_ _ _ hh h=>h.of_heap hh) cK f (by kernel_rfl) Tryz.func3
  (ChangeSpec.witness_shaped (enc:=c) (C:=Tryz.checked) (os:=l) (X:=λw _=>laidMetH Tryz.prog Rows.topNegatesRow.laid w) false (World.doorLaid Tryz.prog 24 l) #[SN,SN,.agg #[SN,SN]] 8 rfl (World.shaped_of_RefB (by kernel_rfl) (by kernel_rfl)) (by kernel_rfl) (by kernel_rfl) (by kernel_rfl) (Ha l _)) ?_
 intro W n a ds gs F d hW _ k hL _
 have i:(DataW.weightsEach Tryz.prog (Tryz.f3.params.toList++Rows.topNegatesSpec.plain.varTypes Tryz.prog) (ds++gs)).all (· <=reachBytes)=true:=k
 clear k
 have b:∀(j:Nat) t v,Tryz.f3.params[j]? =some t->a[j]? =some v->Value.okWide Tryz.prog W .any n t v:=d
 have hT:=LW hL
 have M:=hW
 obtain ⟨p,q,s,hV,rfl,ae,af⟩:=hW
 have hA:DataW.TrodAll c Tryz.prog W 0 (λ_=>true) true Tryz.f3.params.toList a.toList ds p:=s
 rw [Tryz.params3]at hA b i
 obtain ⟨v0,ag,d0,ab,p0,q0,N,rfl,rfl,h0,r0⟩:=trodAll_cons hA
 obtain ⟨v1,ah,d1,ac,p1,q1,rfl,rfl,rfl,h1,r1⟩:=trodAll_cons r0
 obtain ⟨v2,ai,d2,ad,p2,q2,rfl,rfl,rfl,h2,r2⟩:=trodAll_cons r1
 obtain ⟨rfl,rfl,rfl⟩:=trodAll_nil r2
 obtain rfl:a=#[v0,v1,v2]:=by cases a;simp_all
 obtain ⟨rfl,rfl⟩:=trodVars_none hV
 have k0:=h0
 have S:∀x∈p0,x.block<W.heap.size:=by obtain ⟨m,y⟩:=k0;exact DataW.trod_lt m _ _ _ y
 have k1:=h1
 have T:∀x∈p1,x.block<W.heap.size:=by obtain ⟨m,y⟩:=k1;exact DataW.trod_lt m _ _ _ y
 have k2:=h2
 have U:∀x∈p2,x.block<W.heap.size:=by obtain ⟨m,y⟩:=k2;exact DataW.trod_lt m _ _ _ y
 obtain ⟨a0,D,o,rfl⟩:=okWide_slice QF (b 0 22 v0 rfl rfl)
 obtain ⟨F0,J,O⟩:=wY h0 (oL i (j:=0) rfl rfl)
 obtain ⟨a1,E,r,rfl⟩:=okWide_slice QF (b 1 22 v1 rfl rfl)
 obtain ⟨F1,K,P⟩:=wY h1 (oL i (j:=1) rfl rfl)
 obtain ⟨Z,Y,I,Q,V,G,aa,R,rfl,B,u,L,A,z⟩:=Gq (b 2 25 v2 rfl rfl) h2 (oL i (j:=2) rfl rfl)
 clear s d
 refine (Kc W a0 D o F0 a1 E r F1 Z Y I Q V G aa R J O K P B u L A z hT).mono λe W' ⟨he,g⟩=>?_
 subst he
 exact ⟨_,rfl,_,_,_,[],_,[],M,trodAll_mk1 (shut_bool RQ _),(trodAll_cons_mk (Below.trod nE (by kernel_rfl) (PL (by kernel_rfl)) k0 g S) (trodAll_cons_mk (Below.trod nE (by kernel_rfl) (PL (by kernel_rfl)) k1 g T) (trodAll_cons_mk (Below.trod nE (by kernel_rfl) (PL (by kernel_rfl)) k2 g U) trodAll_mk0))),rfl,g.frame _,λh=>by cases h⟩
theorem M6:Rows.topNegatesRow.holds Tryz.pinned (OpenSpec.ofChange Rows.topNegatesSpec):=
 OpenClaim.holds_of_wide 3 Tryz.f3 rfl rfl rfl rfl rfl rfl rfl ⟨rfl,rfl,rfl,rfl,rfl⟩ rfl rfl rfl rfl rfl (by kernel_rfl) Tryz.func3 (by kernel_rfl)
  (PL (by kernel_rfl)) (by unfold Func.isWrapper;first|(rw [Oa (by decide+kernel)];kernel_rfl)|(rw [Of (by decide+kernel)];exact ⟨rfl,rfl⟩))
  (λc a H b _=>LC c a H b)
end Go.Proofs.YtimniinkpipnmaaGreatDoor.topNegates
namespace Go.Proofs.YtimniinkpipnmaaGreatDoor
open Go.Own
theorem topNegates_holds:Rows.TopNegatesCardSaid:=
 Claim7.holds_tied_plain_at .later [] [.data,.data,.data] true (true,"6e7b986e3a63c2c054a10a1f7e3ca409357bd38d0f684fd5b8aaf0fc49c4d2c2") false
  topNegates.M6 (λ_ h=>by cases h) (by kernel_rfl) (λ_ h=>by cases h) topNegates_row_tie rfl ⟨rfl,rfl⟩ (by kernel_rfl) rfl
  (λf d e b=>by
   obtain rfl:f=3:=OJ ((show Tryz.prog.funcNamed "lariat/lariattop.TopNegates"=some 3 by kernel_rfl).symm.trans e)|>.symm;obtain rfl:d=Tryz.f3:=(OJ (Tryz.func3.symm.trans b)).symm;exact ⟨by kernel_rfl,λj t c=>by
    rw [Tryz.params3]at c;have g:t∈[22,22,25]:=by simpa using Array.mem_of_getElem? c
    have a:([22,22,25].all λu=>!Tryz.prog.wantsStandIn u)=true:=by kernel_rfl
    exact (show Tryz.prog.wantsStandIn t=false by simpa using Ps.1 a t g)⟩)
  (by kernel_rfl)
#print axioms topNegates_holds
end Go.Proofs.YtimniinkpipnmaaGreatDoor
