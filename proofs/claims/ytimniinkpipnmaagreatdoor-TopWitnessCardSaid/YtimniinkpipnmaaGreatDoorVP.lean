/- The card of TopWitness: the law holds of every input, its tables tied to the text. -/
import Derived.Test.YtimniinkpipnmaaGreatDoorCards
import Derived.Test.YtimniinkpipnmaaGreatDoorTie
import Derived.Test.YtimniinkpipnmaaGreatDoorV11
import Derived.Stop.LaidErr
set_option maxRecDepth 100000
set_option maxHeartbeats 8000000
set_option linter.all false
namespace Go.Proofs.YtimniinkpipnmaaGreatDoor.topWitness
open Go.ChangeShapes Go.WideShapes Go.ChangeAt Go.RowKit Go.Own
theorem cO:ownKnob Tryz.prog.godebug=none:=ZK
theorem pZ:laidOutB Tryz.prog=true:=ZK
theorem gB:Tryz.prog.globalNamed "math/bits.deBruijn64tab"=some 0:=ZK
theorem tB:(Tryz.prog.globals[0]?).map (·.type)=some 180:=ZK
theorem I3(b a):laidMetH Tryz.prog Rows.topWitnessRow.laid ((World.doorLaid Tryz.prog 24 b).forCall (λ_ _=>0) ⟨#[],a,[]⟩).memory:=
 laidMetH_of_parts3 (fuel:=8) (laidMet_of_run' 8 ZK ZK) ZK ZK
theorem Nq{W}(h:laidMetH Tryz.prog Rows.topWitnessRow.laid W):ep W:=by rw [MakeChecks.laidMetH_plain _ _ _ ZK]at h;have b:=h.tail;have c:=Lib.tabIs_of_head (k:=.u8) (zs:=Lib.deBruijn64tab.map λx:Nat=>(x:Int)) gB tB Tryz.underlying180 Tryz.underlying5 ZK ZK b;intro j a;have d:=c.cell gB j (by rw [PB];exact a);rw [d];simp [List.getD,a]
theorem M5(l)(f:l.Started)(H)(b:TypeId×Value->H):
 ReturnsInHanded {} Tryz.checked l 4 .any (λw a=>(Rows.topWitnessSpec.pre b Tryz.prog Tryz.f4 Rows.topWitnessRow.domain false w a/\laidMetH Tryz.prog Rows.topWitnessRow.laid w)/\sizedMet b Tryz.prog Tryz.f4 (OpenSpec.ofChange Rows.topWitnessSpec) false w a) (Rows.topWitnessSpec.post b Tryz.prog Tryz.f4 false true false false):=by
 refine returnsInHanded_of_change_and (C:=Tryz.checked) (X:=λw _=>laidMetH Tryz.prog Rows.topWitnessRow.laid w) (λ_ _ _ hh h=>h.of_heap hh) cO f ZK Tryz.func4
  (ChangeSpec.witness_shaped (enc:=b) (C:=Tryz.checked) (os:=l) (X:=λw _=>laidMetH Tryz.prog Rows.topWitnessRow.laid w) false (World.doorLaid Tryz.prog 24 l) #[SN,.agg #[SN,SN]] 8 rfl (World.shaped_of_RefB ZK ZK) ZK ZK ZK (I3 l _)) ?_
 intro W n a U gs B d hW _ g hL _
 have k:(DataW.weightsEach Tryz.prog (Tryz.f4.params.toList++Rows.topWitnessSpec.plain.varTypes Tryz.prog) (U++gs)).all (· <=reachBytes)=true:=g
 clear g
 have c:∀(j:Nat) t v,Tryz.f4.params[j]? =some t->a[j]? =some v->Value.okWide Tryz.prog W .any n t v:=d
 have hT:=Nq hL
 have I:=hW
 obtain ⟨p,q,r,hV,rfl,ac,ad⟩:=hW
 have Z:DataW.TrodAll b Tryz.prog W 0 (λ_=>true) true Tryz.f4.params.toList a.toList U p:=r
 rw [Tryz.params4]at Z c k
 obtain ⟨v0,ae,d0,aa,p0,q0,J,rfl,rfl,V,r0⟩:=trodAll_cons Z
 obtain ⟨v1,af,d1,ab,p1,q1,rfl,rfl,rfl,Y,r1⟩:=trodAll_cons r0
 obtain ⟨rfl,rfl,rfl⟩:=trodAll_nil r1
 obtain rfl:a=#[v0,v1]:=by cases a;simp_all
 obtain ⟨rfl,rfl⟩:=trodVars_none hV
 have k0:=V
 have O:∀x∈p0,x.block<W.heap.size:=by obtain ⟨m,K⟩:=k0;exact DataW.trod_lt m _ _ _ K
 have k1:=Y
 have P:∀x∈p1,x.block<W.heap.size:=by obtain ⟨m,K⟩:=k1;exact DataW.trod_lt m _ _ _ K
 obtain ⟨a0,A,o,rfl⟩:=okWide_slice T9 (c 0 22 v0 rfl rfl)
 have⟨F0,F,L⟩:=Ex V (yq k (j:=0) rfl rfl)
 obtain ⟨S,R,E,M,Q,D,T,N,rfl,z,s,G,y,u⟩:=Ic (c 1 25 v1 rfl rfl) Y (yq k (j:=1) rfl rfl)
 clear r d
 refine (Md W a0 A o F0 S R E M Q D T N F L z s G y u hT).mono λe W' ⟨he,i⟩=>?_
 subst he
 exact ⟨_,rfl,_,_,_,[],_,[],I,trodAll_mk1 (shut_bool TJ _),(trodAll_cons_mk (Below.trod pZ ZK (Rf ZK) k0 i O) (trodAll_cons_mk (Below.trod pZ ZK (Rf ZK) k1 i P) trodAll_mk0)),rfl,i.frame _,λh=>ZC h⟩
theorem ON:Rows.topWitnessRow.holds Tryz.pinned (OpenSpec.ofChange Rows.topWitnessSpec):=
 OpenClaim.holds_of_wide 4 Tryz.f4 rfl rfl rfl rfl rfl rfl rfl ⟨rfl,rfl,rfl,rfl,rfl⟩ rfl rfl rfl rfl rfl ZK Tryz.func4 ZK
  (Rf ZK) (by unfold Func.isWrapper;first|(rw [PW (by decide+kernel)];kernel_rfl)|(rw [Qa (by decide+kernel)];exact ⟨rfl,rfl⟩))
  (λc a H b _=>M5 c a H b)
end Go.Proofs.YtimniinkpipnmaaGreatDoor.topWitness
namespace Go.Proofs.YtimniinkpipnmaaGreatDoor
open Go.Own
theorem topWitness_holds:Rows.TopWitnessCardSaid:=
 Claim7.holds_tied_plain_at .later [] [.data,.data,.data] true (true,"6e7b986e3a63c2c054a10a1f7e3ca409357bd38d0f684fd5b8aaf0fc49c4d2c2") false
  topWitness.ON (λ_ h=>by cases h) (by kernel_rfl) (λ_ h=>by cases h) topWitness_row_tie rfl ⟨rfl,rfl⟩ (by kernel_rfl) rfl
  (λf d e b=>by
   obtain rfl:f=4:=Qh ((show Tryz.prog.funcNamed "lariat/lariattop.TopWitness"=some 4 by kernel_rfl).symm.trans e)|>.symm;obtain rfl:d=Tryz.f4:=(Qh (Tryz.func4.symm.trans b)).symm;exact ⟨by kernel_rfl,λj t c=>by
    rw [Tryz.params4]at c;have g:t∈[22,25]:=by simpa using Array.mem_of_getElem? c
    have a:([22,25].all λu=>!Tryz.prog.wantsStandIn u)=true:=by kernel_rfl
    exact (show Tryz.prog.wantsStandIn t=false by simpa using Rc.1 a t g)⟩)
  (by kernel_rfl)
#print axioms topWitness_holds
end Go.Proofs.YtimniinkpipnmaaGreatDoor
