/- A part of the proof of TopWitness. -/
import Derived.Shelf.Strconv.Itoa3
import Derived.Shelf.Strings.BuilderCap
import Derived.Shelf.Slices.Turned
import Derived.Shelf.Slices.Clone
import Derived.Shelf.Slices.Cells
import Derived.Shelf.Slices.Empties
import Derived.Shelf.Slices.Empties2
import Derived.WalkSpells
import Derived.WalkLawsBesides
import Derived.Handy
import Derived.ShutString
import Derived.Deep.Slices
import Derived.RangeFuncNested
import Derived.RangeFuncBound
import Derived.Laws.CopyOwn
import Derived.BigQuiet
import Derived.StillTail
import Derived.Deep.RegionHeld3
import Derived.Test.YtimniinkpipnmaaGreatDoorChecked
import Derived.Deep.CutBlock
set_option maxRecDepth 100000
set_option maxHeartbeats 8000000
set_option linter.all false
namespace Go.Proofs
open Go.Shelf
def QD:=@Go.Proofs.Tryz.underlying33
def Q7:=@congrArg
def S4:=@Go.Proofs.Tryz.underlying3
def TJ:=@Go.Proofs.Tryz.underlying4
def TX:=@Go.Proofs.Tryz.zeroValue3
def UC:=@Go.Proofs.Tryz.underlying0
def UQ:=@Go.Proofs.Tryz.sizeOf3
def UX:=@Go.Proofs.Tryz.zeroValue0
def UY:=@Go.Proofs.Tryz.zeroValue4
def U7:=@Go.Proofs.Tryz.isAgg3
def Tryz.rV:Go.Shelf.Ren:=⟨λ|169=>173|n=>n,λ|70=>221|9=>9|0=>0|72=>223|37=>220|127=>241|3=>3|5=>5|n=>n,λ|n=>n⟩
theorem Tryz.Lo:Go.Proofs.Lays.n169 Tryz.prog Tryz.rV:={
 mixed:=by kernel_rfl
 f169:=Tryz.func173.trans (Q7 some (by kernel_rfl))
 t0:=UC
 a0:=Tryz.isAgg0
 z0:=Tryz.sizeOf0
 v0:=UX
 t3:=S4
 a3:=U7
 z3:=UQ
 v3:=TX
 t9:=Tryz.underlying9
 a9:=Tryz.isAgg9
 z9:=Tryz.sizeOf9
 v9:=Tryz.zeroValue9
 t37:=Tryz.underlying220
 a37:=Tryz.isAgg220
 z37:=Tryz.sizeOf220
 v37:=Tryz.zeroValue220
 t70:=Tryz.underlying221
 a70:=Tryz.isAgg221
 z70:=Tryz.sizeOf221
 v70:=Tryz.zeroValue221
 t72:=Tryz.underlying223
 a72:=Tryz.isAgg223
 z72:=Tryz.sizeOf223
 v72:=Tryz.zeroValue223
 t127:=Tryz.underlying241
 a127:=Tryz.isAgg241
 z127:=Tryz.sizeOf241
 v127:=Tryz.zeroValue241}
theorem Tryz.pE:Builder.Extra Tryz.prog Tryz.rV:={
 sizeBuilder:=by kernel_rfl
 liesBuilder:=by kernel_rfl
 t5:=Tryz.underlying5
 a5:=Tryz.isAgg5
 z5:=Tryz.sizeOf5
 v5:=Tryz.zeroValue5
 infoByte:=by kernel_rfl
 cellsByte:=by kernel_rfl
 sizeByte:=by kernel_rfl
 neB5:=by decide}
open Go.RowKit in
theorem Tryz.Builder_String_any(B b:Nat)(l:List UInt8)(w:World)(h:Lib.IsBuilder 223 5 B b (Lib.byteCells l) w)(a:B<=w.heap.size):
 Calls Tryz.prog 173 #[.pointer (some ⟨b,0,none⟩)] w λe c=>e=.returned (.string ⟨l.toArray⟩)/\Below B w c:=Any.Builder_String_any Tryz.Lo Tryz.pE B b l w h a
def Tryz.Cd:Go.Shelf.Ren:=⟨λ|171=>171|243=>186|246=>196|283=>192|284=>193|285=>194|286=>195|129=>200|317=>199|318=>201|319=>202|320=>203|337=>204|338=>95|n=>n,λ|3=>3|9=>9|2=>2|4=>4|171=>249|0=>0|53=>45|37=>220|5=>5|173=>251|212=>256|51=>257|20=>20|213=>258|46=>88|232=>261|233=>180|n=>n,λ|17=>1|18=>2|19=>0|n=>n⟩
theorem Tryz.Lp:Go.Proofs.Lays.n171 Tryz.prog Tryz.Cd:={
 mixed:=by kernel_rfl
 f129:=Tryz.func200.trans (Q7 some (by kernel_rfl))
 f171:=Tryz.func171.trans (Q7 some (by kernel_rfl))
 f243:=Tryz.func186.trans (Q7 some (by kernel_rfl))
 f246:=Tryz.func196.trans (Q7 some (by kernel_rfl))
 f283:=Tryz.func192.trans (Q7 some (by kernel_rfl))
 f284:=Tryz.func193.trans (Q7 some (by kernel_rfl))
 f285:=Tryz.func194.trans (Q7 some (by kernel_rfl))
 f286:=Tryz.func195.trans (Q7 some (by kernel_rfl))
 f317:=Tryz.func199.trans (Q7 some (by kernel_rfl))
 f318:=Tryz.func201.trans (Q7 some (by kernel_rfl))
 f319:=Tryz.func202.trans (Q7 some (by kernel_rfl))
 f320:=Tryz.func203.trans (Q7 some (by kernel_rfl))
 f337:=Tryz.func204.trans (Q7 some (by kernel_rfl))
 f338:=Tryz.func95.trans (Q7 some (by kernel_rfl))
 t0:=UC
 a0:=Tryz.isAgg0
 z0:=Tryz.sizeOf0
 v0:=UX
 t2:=Tryz.underlying2
 a2:=Tryz.isAgg2
 z2:=Tryz.sizeOf2
 v2:=Tryz.zeroValue2
 t3:=S4
 a3:=U7
 z3:=UQ
 v3:=TX
 t4:=TJ
 a4:=Tryz.isAgg4
 z4:=Tryz.sizeOf4
 v4:=UY
 t5:=Tryz.underlying5
 a5:=Tryz.isAgg5
 z5:=Tryz.sizeOf5
 v5:=Tryz.zeroValue5
 t9:=Tryz.underlying9
 a9:=Tryz.isAgg9
 z9:=Tryz.sizeOf9
 v9:=Tryz.zeroValue9
 t20:=Tryz.underlying20
 a20:=Tryz.isAgg20
 z20:=Tryz.sizeOf20
 v20:=Tryz.zeroValue20
 t37:=Tryz.underlying220
 a37:=Tryz.isAgg220
 z37:=Tryz.sizeOf220
 v37:=Tryz.zeroValue220
 t46:=Tryz.underlying88
 a46:=Tryz.isAgg88
 z46:=Tryz.sizeOf88
 v46:=Tryz.zeroValue88
 t51:=Tryz.underlying257
 a51:=Tryz.isAgg257
 z51:=Tryz.sizeOf257
 v51:=Tryz.zeroValue257
 t53:=Tryz.underlying45
 a53:=Tryz.isAgg45
 z53:=Tryz.sizeOf45
 v53:=Tryz.zeroValue45
 t171:=Tryz.underlying249
 a171:=Tryz.isAgg249
 z171:=Tryz.sizeOf249
 v171:=Tryz.zeroValue249
 t173:=Tryz.underlying251
 a173:=Tryz.isAgg251
 z173:=Tryz.sizeOf251
 v173:=Tryz.zeroValue251
 t212:=Tryz.underlying256
 a212:=Tryz.isAgg256
 z212:=Tryz.sizeOf256
 v212:=Tryz.zeroValue256
 t213:=Tryz.underlying258
 a213:=Tryz.isAgg258
 z213:=Tryz.sizeOf258
 t232:=Tryz.underlying261
 a232:=Tryz.isAgg261
 z232:=Tryz.sizeOf261
 v232:=Tryz.zeroValue261
 t233:=Tryz.underlying180
 a233:=Tryz.isAgg180
 z233:=Tryz.sizeOf180
 v233:=Tryz.zeroValue180
 g17:=by kernel_rfl
 g18:=by kernel_rfl
 g19:=by kernel_rfl}
open Go.RowKit Go.Sort Go.Lib in
theorem Tryz.strconv_Itoa_small(i:Nat)(a:i<100)(w:World):
 Calls Tryz.prog 171 #[.int .i64 i] w λe b=>e=.returned (.string ⟨(Lib.decDigits i).toArray⟩)/\b=w:=Any.strconv_Itoa_small Tryz.Lp i a w
def Tryz.Cc:Go.Shelf.Ren:=⟨λ|111=>120|n=>n,λ|28=>33|3=>3|4=>4|0=>0|n=>n,λ|n=>n⟩
theorem Tryz.AP:Go.Proofs.Lays.n111 Tryz.prog Tryz.Cc:={
 mixed:=by kernel_rfl
 f111:=Tryz.func120.trans (Q7 some (by kernel_rfl))
 t0:=UC
 a0:=Tryz.isAgg0
 z0:=Tryz.sizeOf0
 v0:=UX
 t3:=S4
 a3:=U7
 z3:=UQ
 v3:=TX
 t4:=TJ
 a4:=Tryz.isAgg4
 z4:=Tryz.sizeOf4
 v4:=UY
 t28:=QD
 a28:=Tryz.isAgg33
 z28:=Tryz.sizeOf33
 v28:=Tryz.zeroValue33}
open Go.RowKit Go.Lib in
theorem Tryz.slices_Equal_int(h o n c i p m d:Nat)(f g:List Int)(w:World)(r:n<=f.length)(s:m<=g.length)(b:n<=9223372036854775807)(a:m<=9223372036854775807)(k:∀j,j<f.length->w.cell? ⟨h,o+j,none⟩=some (.int .i64 (f.getD j 0)))(l:∀j,j<g.length->w.cell? ⟨i,p+j,none⟩=some (.int .i64 (g.getD j 0))):
 Calls Tryz.prog 120 #[.slice (some ⟨h,o,none⟩) n c,.slice (some ⟨i,p,none⟩) m d] w λe t=>e=.returned (.bool (f.take n==g.take m))/\∃q,t=w.drewN q:=Any.slices_Equal_int Tryz.AP h o n c i p m d f g w r s b a k l
open Go.RowKit Go.Lib in
theorem Tryz.slices_Equal_int_empty(b f:Option Addr)(c m d:Nat)(w:World)(a:m<=9223372036854775807):
 Calls Tryz.prog 120 #[.slice b 0 c,.slice f m d] w λe g=>e=.returned (.bool (decide (m=0)))/\g=w:=Any.slices_Equal_int_empty Tryz.AP b f c m d w a
def Tryz.yO:Go.Shelf.Ren:=⟨λ|15=>91|n=>n,λ|22=>33|3=>3|4=>4|n=>n,λ|n=>n⟩
theorem Tryz.qU:Go.Proofs.Lays2.n15 Tryz.prog Tryz.yO:={
 mixed:=by kernel_rfl
 f15:=Tryz.func91.trans (Q7 some (by kernel_rfl))
 t3:=S4
 a3:=U7
 z3:=UQ
 v3:=TX
 t4:=TJ
 a4:=Tryz.isAgg4
 z4:=Tryz.sizeOf4
 v4:=UY
 t22:=QD
 a22:=Tryz.isAgg33
 z22:=Tryz.sizeOf33
 v22:=Tryz.zeroValue33
 i3:=by kernel_rfl}
open Go.RowKit Go.Lib in
theorem Tryz.slices_Clone_int(b a n c:Nat)(f:List Int)(w:World)(k:n<=f.length)(d:n*8<=140737488355328)(i:∀j,j<f.length->w.cell? ⟨b,a+j,none⟩=some (.int .i64 (f.getD j 0))):
 Calls Tryz.prog 91 #[.slice (some ⟨b,a,none⟩) n c] w λe h=>∃g,e=.returned g/\h.ownsRow w.heap.size 3 1 g n ((f.take n).map (Value.int .i64))/\g≠.slice none 0 0/\Below w.heap.size w h:=Any.slices_Clone_int Tryz.qU b a n c f w k d i
open Go.RowKit Go.Lib in
theorem Tryz.slices_Clone_int_nil(n c:Nat)(w:World):
 Calls Tryz.prog 91 #[.slice none n c] w λe a=>e=.returned (.slice none 0 0)/\a=w:=Any.slices_Clone_int_nil Tryz.qU n c w
open Go.RowKit Go.Lib in
theorem Tryz.slices_Clone_int_zero(a:Addr)(c:Nat)(w:World):
 Calls Tryz.prog 91 #[.slice (some a) 0 c] w λe d=>∃b,e=.returned b/\d.ownsRow w.heap.size 3 1 b 0 []/\b≠.slice none 0 0/\Below w.heap.size w d:=Any.slices_Clone_int_zero Tryz.qU a c w
def Tryz.yP:Go.Shelf.Ren:=⟨λ|23=>198|n=>n,λ|22=>33|3=>3|4=>4|0=>0|n=>n,λ|n=>n⟩
theorem Tryz.GK:Go.Proofs.Lays2.n23 Tryz.prog Tryz.yP:={
 mixed:=by kernel_rfl
 f23:=Tryz.func198.trans (Q7 some (by kernel_rfl))
 t0:=UC
 a0:=Tryz.isAgg0
 z0:=Tryz.sizeOf0
 v0:=UX
 t3:=S4
 a3:=U7
 z3:=UQ
 v3:=TX
 t4:=TJ
 a4:=Tryz.isAgg4
 z4:=Tryz.sizeOf4
 v4:=UY
 t22:=QD
 a22:=Tryz.isAgg33
 z22:=Tryz.sizeOf33
 v22:=Tryz.zeroValue33
 i3:=by kernel_rfl}
open Go.RowKit Go.Lib Go.Sort in
theorem Tryz.slices_Delete_int_cells(b a n c i j:Nat)(d:List Int)(w:World)(o:n<=d.length)(f:n<=c)(m:c<=9223372036854775807)(g:i<=j)(l:j<=n)(h:∀j,j<d.length->w.cell? ⟨b,a+j,none⟩=some (.int .i64 (d.getD j 0)))(k:∀j,j<n->w.frozen? ⟨b,a+j,none⟩=false):
 Calls Tryz.prog 198 #[.slice (some ⟨b,a,none⟩) n c,.int .i64 i,.int .i64 j] w λe p=>e=.returned (.slice (some ⟨b,a,none⟩) (n-(j-i)) c)/\∃q,p=(w.drewN q).setCells b a (((d.take n).take i++(d.take n).drop j++List.replicate (j-i) 0).map (Value.int .i64)):=Any.slices_Delete_int_cells Tryz.GK b a n c i j d w o f m g l h k
open Go.RowKit Go.Lib in
theorem Tryz.slices_Equal_int_lens(b f:Option Addr)(n c m d:Nat)(w:World)(a:n≠m):
 Calls Tryz.prog 120 #[.slice b n c,.slice f m d] w λe g=>e=.returned (.bool false)/\g=w:=Any.slices_Equal_int_lens Tryz.AP b f n c m d w a
end Go.Proofs
namespace Go.RowKit
def Hid.o{p:Prop}(h:Hid p):p:=h.out
end Go.RowKit
namespace Go.Own
open Go.RowKit
abbrev SV(b n c:Nat):Value:=.slice (some ⟨b,0,none⟩) n c
abbrev SN:Value:=.slice none 0 0
abbrev SL(a:Option Addr)(n c:Nat):Value:=.slice a n c
abbrev CE(c:Array Value)(t:TypeId):Obj:=.cells c t
abbrev PT(b:Nat):Value:=.pointer (some ⟨b,0,none⟩)
abbrev IV(x:Int):Value:=.int .i64 x
abbrev UV(x:Int):Value:=.int .u64 x
abbrev RT(v:Value):Ending:=.returned v
abbrev AD(b o:Nat):Addr:=⟨b,o,none⟩
abbrev WD:=World
abbrev OA:=Option Addr
abbrev CA(w:WD)(b o:Nat)(v:Value):Prop:=w.cell? ⟨b,o,none⟩=some v
abbrev FZ(w:WD)(b o:Nat):Prop:=w.frozen? ⟨b,o,none⟩=false
abbrev HC(w:WD)(b:Nat)(c:Array Value)(t:TypeId):Prop:=w.heap[b]? =some (.cells c t (0,0))
abbrev BW(w:WD):WD->Prop:=Below w.heap.size w
theorem ZO{p:Prop}(h:p:=by omega):p:=h
theorem ZD{p:Prop}(h:p:=by decide):p:=h
theorem ZS{p:Prop}(h:p:=by simp):p:=h
theorem ZK{p:Prop}(h:p:=by kernel_rfl):p:=h
theorem ZN{p:Prop}(h:p:=by go_num):p:=h
theorem ZV{p:Prop}(h:p:=by simp [Value.oneCell']):p:=h
theorem ZH{q p:Prop}(a:q)(h:q->p:=by intro h;omega):p:=h a
theorem ZC{q p:Prop}(a:q)(h:q->p:=by intro h;cases h):p:=h a
theorem ZX{q p:Prop}(a:q)(h:q->p:=by intro h;simpa using h):p:=h a
theorem ZZ{q p:Prop}(a:q)(h:q->p:=by intro h;rw [World.size_alloc,h]):p:=h a
theorem ZI{q r p:Prop}(a:q)(b:r)(h:q->r->p:=by intro h k;omega):p:=h a b
theorem ZW{r q p:Prop}(b:r)(a:q)(h:r->q->p:=by intro k h;rw [<-k,World.size_alloc,h]):p:=h b a
theorem ZR{α:Sort _}{a b:α}{q p:Prop}(e:a=b)(k:q)(h:a=b->p=q:=by intro h;(try unfold BW);rw [h]):p:=(h e).mpr k
theorem EX{α:Sort _}(a:α):∃x,a=x:=⟨a,rfl⟩
theorem CH{w:WD}{b:Nat}{c:Array Value}{t:TypeId}{f:Nat×Nat}{o:Nat}{v:Value}(h:w.heap[b]? =some (.cells c t f))(g:c[o]? =some v:=by rfl):w.cell? ⟨b,o,none⟩=some v:=by simp [World.cell?,h,g]
def O9:=@Go.World.block_lt_of_cell?
def Pb:=@Array.getElem?_eq_some_iff
def Pf:=@Nat.le_refl
def Ps:=@Nat.lt_of_lt_of_le
def Pv:=@List.map_cons
def Pz:=@Nat.zero_le
def PE:=@List.map_nil
def PG:=@Nat.le_trans
def Qd:=@Go.World.ownsRow_nil
def Qj:=@Go.World.ownsRow.cellAt
def Qy:=@List.eq_nil_of_length_eq_zero
def Q9:=@Go.Result.andThen_ok
def Rm:=@List.map_toArray
def Rv:=@Go.Sem.run_bind
def R6:=@Go.Sem.run_pure
def UE:=@Go.RowKit.Below.heap_alloc
def Vg:=@Go.World.ownsRow.lt
structure aj (S:Nat->Prop) (w a:WD):Prop where
 os:a.os=w.os
 tape:a.tape=w.tape
 output:a.output=w.output
 size:w.heap.size<=a.heap.size
 block:∀k,k<w.heap.size->¬S k->a.heap[k]? =w.heap[k]?
def aj.refl(S w):aj S w w:=⟨rfl,rfl,rfl,Pf _,λ_ _ _=>rfl⟩
def aj.trans{S a b c}(h:aj S a b)(k:aj S b c):aj S a c:=
 ⟨k.os.trans h.os,k.tape.trans h.tape,k.output.trans h.output,PG h.size k.size,
  λi d e=>(k.block i (Ps d h.size) e).trans (h.block i d e)⟩
def aj.mono{S T a b}(h:aj S a b)(e:∀k,k<a.heap.size->S k->T k):aj T a b:=
 ⟨h.os,h.tape,h.output,h.size,λi c d=>h.block i c (λs=>d (e i c s))⟩
def aj.then{S T a b c}(h:aj S a b)(k:aj T b c)(f:∀i,i<a.heap.size->T i->S i):aj S a c:=
 ⟨k.os.trans h.os,k.tape.trans h.tape,k.output.trans h.output,PG h.size k.size,
  λi d e=>(k.block i (Ps d h.size) (λt=>e (f i d t))).trans (h.block i d e)⟩
def aj.ag{S w w'}(h:aj S w w'){B}(b:B<=w.heap.size)(c:∀k,k<B->¬S k):Below B w w':=
 ⟨h.os,h.tape,h.output,h.size,λk a=>h.block k (Ps a b) (c k a)⟩
def aj.aC{w a B}(h:Below B w a):aj (λk=>B<=k) w a:=
 ⟨h.os,h.tape,h.output,h.size,λk _ b=>h.block k (by omega)⟩
def aj.alloc{S a w}(h:aj S a w)(o):aj S a (w.alloc o):=
 h.trans ⟨rfl,rfl,rfl,by simp,λk b _=>UE _ _ _ b⟩
def aj.drew{S a w}(h:aj S a w):aj S a w.drew:=⟨h.os,h.tape,h.output,h.size,h.block⟩
def aj.setCell{S a w}(h:aj S a w){p}(d:p.block<a.heap.size->S p.block)(u):aj S a (w.setCell p u):=
 h.then (T:=λk=>k=p.block) ⟨rfl,rfl,rfl,by simp [World.setCell],λk _ c=>Below.heap_setCell _ _ _ _ c⟩ (λi b e=>by subst e;exact d b)
def aj.cell{S w a}(h:aj S w a){p}(c:p.block<w.heap.size)(b:¬S p.block):a.cell? p=w.cell? p:=
 World.cell?_of_block (w:=w) (h.block p.block c b)
def aj.aq{S w b}(h:aj S w b){p v}(a:w.cell? p=some v)(c:¬S p.block):b.cell? p=some v:=
 (h.cell (O9 w p a) c).trans a
abbrev Sl(w:WD)(e:TypeId)(v:Value)(n:Nat)(a:List Value):Prop:=w.ownsRow 0 e 1 v n a
def Sl.of{w B e v n d}(h:w.ownsRow B e 1 v n d):Sl w e v n d:=
 ⟨h.1,h.2.imp id λ⟨g,b,c,a,_,r⟩=>⟨g,b,c,a,Pz _,r⟩⟩
def Sl.tO{w e v n d}(h:Sl w e v n d)(B)(f:∀g,v.ownBlock=some g->B<=g):w.ownsRow B e 1 v n d:=
 ⟨h.1,h.2.imp id λ⟨g,b,c,a,_,r⟩=>⟨g,b,c,a,f g (by rw [a];rfl),r⟩⟩
def Sl.ax{S w f e v n i}(h:Sl w e v n i)(l:aj S w f)(m:∀g,v.ownBlock=some g->¬S g):Sl f e v n i:=by refine ⟨h.1,?_⟩;obtain j|⟨g,b,c,rfl,k,d,a⟩:=h.2;exact .inl j;exact .inr ⟨g,b,c,rfl,k,by rw [l.block g (Pb.1 d).1 (m g rfl)];exact d,a⟩
def Sl.lt{w e v n b}(h:Sl w e v n b):∀g,v.ownBlock=some g->g<w.heap.size:=
 λg a=>(Vg h g a).2
def Sl.shape{w e v n d}(h:Sl w e v n d):∃a b,v=SL a n b/\(∀i,i<n->∃g,a=some (AD g 0)/\v.ownBlock=some g/\w.cell? (AD g i)=d[i]?):=by obtain ⟨rfl,rfl⟩|⟨g,b,f,rfl,k,l,c⟩:=h.2;exact ⟨none,0,rfl,λi j=>by omega⟩;exact ⟨_,b,rfl,λi j=>⟨g,rfl,rfl,Qj (size:=1) h i (by omega)⟩⟩
def dQ(w:WD)(v a:Value):Prop:=a.ownBlock=v.ownBlock\/∃g,a.ownBlock=some g/\w.heap.size<=g
def dQ.alloc{w o v c}(h:dQ (w.alloc o) v c):dQ w v c:=
 h.imp id λ⟨g,a,b⟩=>⟨g,a,by simp at b;omega⟩
def eM{P}(w t J e i z h)(N:P.underlying t=some (.slice e))(L:P.info? e=some i)(Q:i.zero=some z)
 (b:i.size=1) (A:i.bytes=h) (F:z.cells.size=1) (M:1<=h)
 (v n H) (o:Sl w e v n H)
 (a m c f) (hl:f.length=m) (l:∀j u,f[j]? =some u->w.cell? (a.add j)=some u) (O:∀u∈f,u.oneCell'=true)
 (d:(n+m)*h<=140737488355328):
 ∃G s,(Builtin.append_ #[t,t] J #[v,SL (some a) m c]).run P w=.ok G s/\Sl s e G (n+m) (H++f)/\aj (λk=>v.ownBlock=some k) w s/\dQ w v G:=by
 have y:n+m<=maxLen:=by have:=PG (Nat.le_mul_of_pos_right (n+m) M) d;unfold maxLen;omega
 have r:∀{s:WD},w.grownBy s v.ownBlock->aj (λk=>v.ownBlock=some k) w s:=λB=>
  ⟨B.os,B.tape,B.output,B.size,λk X Y=>B.block k X (λe=>Y e.symm)⟩
 obtain ⟨rfl,rfl⟩|⟨g,x,K,rfl,U,B,Z,V,W,R⟩:=o.2
 have hx:H=[]:=Qy (by simpa using o.1)
 subst hx
 have⟨G,s,D,I,q,S⟩:=run_append_own (P:=P) w w.heap.size t J e i z 1 h N L Q b A F (by decide) (SN) 0 [] (Qd _ _ _ _) a m c f (by omega) l O y d (Pf _)
 refine ⟨G,s,D,Sl.of I,r q,?_⟩
 obtain ⟨rfl,_⟩|⟨g,x,K,rfl,T,_⟩:=I.2
 exact .inl rfl
 exact .inr ⟨g,rfl,T⟩
 by_cases E:n+m<=x
 have D:=run_append_room (P:=P) w t J e i N L g n x K B a m c f (by rw [b];omega) l O E (by rw [b];omega)
 have⟨G,s,p,I,q,_⟩:=run_append_own (P:=P) w 0 t J e i z 1 h N L Q b A F (by decide) _ n H o a m c f (by omega) l O y d (Pz _)
 rw [D]at p
 simp only [Result.ok.injEq]at p
 obtain ⟨rfl,rfl⟩:=p
 exact ⟨_,_,D,I,r q,.inl rfl⟩
 have C:∀j u,H[j]? =some u->w.cell? (((AD g 0):Addr).add j)=some u:=World.ownsRow.cells (g:=g) o rfl
 have D:=run_append_grow (P:=P) w t J e i z N L Q (AD g 0) n x H (by rw [b];exact o.1) C a m c f (by rw [b];omega) l (by omega) (by simp only [maxLen]at y;omega) (by rw [A];exact growslice_fits (by omega) d)
 have⟨G,s,p,I,q,_⟩:=run_append_own (P:=P) w 0 t J e i z 1 h N L Q b A F (by decide) _ n H o a m c f (by omega) l O y d (Pz _)
 rw [D]at p
 simp only [Result.ok.injEq]at p
 obtain ⟨rfl,rfl⟩:=p
 exact ⟨_,_,D,I,r q,.inr ⟨_,rfl,Pf _⟩⟩
def jq{P w y g o a Q}(E:o.guard=none)(s x t)
 (O:o.op=.call {callee:=.builtin .append,args:=#[s,x],argTypes:=#[t,t]})
 (e i z b) (T:P.underlying t=some (.slice e)) (M:P.info? e=some i) (V:i.zero=some z)
 (p:i.size=1) (D:i.bytes=b) (F:z.cells.size=1) (r:1<=b)
 (v n G) (S:a.eval s=v) (q:Sl w e v n G)
 (C m c d) (U:a.eval x=SL (some C) m c) (N:d.length=m) (l:∀j u,d[j]? =some u->w.cell? (C.add j)=some u) (H:∀u∈d,u.oneCell'=true)
 (f:(n+m)*b<=140737488355328)
 (h:∀A B,Sl B e A (n+m) (G++d)->aj (λk=>v.ownBlock=some k) w B->dQ w v A->wpList P y Q g (a.put o.dst A) B):wpList P y Q (o::g) a w:=by
 have⟨A,B,R,I,J,K⟩:=eM (P:=P) w t o.type e i z b T M V p D F r v n G q C m c d N l H f
 refine wpList_plain E λ_ L=>?_
 unfold Oper.wp execOp
 simp only [O,resolve,invoke,builtin,Rv,R6,Q9,Rm,Pv,PE,S,U,R]
 exact L _ _ (h A B I J K)
def qD{P w q d o a Q}(B:o.guard=none)(s x t)
 (I:o.op=.call {callee:=.builtin .append,args:=#[s,x],argTypes:=#[t,t]})
 (e i z b) (K:P.underlying t=some (.slice e)) (H:P.info? e=some i) (N:i.zero=some z)
 (f:i.size=1) (A:i.bytes=b) (C:z.cells.size=1) (m:1<=b)
 (v n D) (J:a.eval s=v) (l:Sl w e v n D)
 (u) (L:u.oneCell'=true) (M:a.eval x=SV w.heap.size 1 1)
 (c:(n+1)*b<=140737488355328)
 (h:∀r y,Sl y e r (n+1) (D++[u])->aj (λk=>v.ownBlock=some k) w y->dQ w v r->wpList P q Q d (a.put o.dst r) y):wpList P q Q (o::d) a (w.alloc (CE #[u] e)):=by
 refine jq B s x t I e i z b K H N f A C m v n D J (World.ownsRow.alloc l _) _ 1 1 [u] M rfl ?_ ?_ c ?_
 intro j O g
 match j,g with
 |0,g=>
  simp at g;subst g
  simp [Addr.add]
 |j+1,g=>simp at g
 intro O p
 simp at p;subst p;exact L
 intro r y E F G
 exact h r y E (((aj.refl _ w).alloc _).trans (F.mono (λ_ _ s=>s))) G.alloc
def aG(k:IntKind)(w:WD)(a:OA)(n:Nat)(d:List Int):Prop:=
 d.length=n/\(n=0\/∃b c,a=some (AD b c)/\∀i,i<n->w.cell? (AD b (c+i))=some (.int k (d.getD i 0)))
def aG.ag{k w w' a n f}(h:aG k w a n f)(g:BW w w'):aG k w' a n f:=by refine ⟨h.1,h.2.imp id ?_⟩;rintro ⟨b,c,rfl,d⟩;refine ⟨b,c,rfl,λi e=>?_⟩;exact (g.cell (O9 w _ (d i e))).trans (d i e)
def B5{w b o c}(a:aj (λk=>(SV w.heap.size 0 c).ownBlock=some k) (w.alloc o) b):BW w b:=by refine (((aj.refl (λk=>w.heap.size<=k) w).alloc o).trans (a.mono λk _ e=>?_)).ag (Pf _) (λk a h=>absurd h (by omega));have d:some w.heap.size=some k:=e;cases d;exact Pf _
def av{P w p d o a Q}(A:o.guard=none)(s x t)
 (J:o.op=.call {callee:=.builtin .append,args:=#[s,x],argTypes:=#[t,t]})
 (e i z b) (L:P.underlying t=some (.slice e)) (I:P.info? e=some i) (O:i.zero=some z)
 (j:i.size=1) (y:i.bytes=b) (C:z.cells.size=1) (m:1<=b)
 (v n D) (K:a.eval s=v) (l:Sl w e v n D)
 (u) (M:u.oneCell'=true) (N:a.eval x=SV w.heap.size 1 1)
 (c:(n+1)*b<=140737488355328)
 (h:∀g r q,Sl q e (SV g (n+1) r) (n+1) (D++[u])->aj (λk=>v.ownBlock=some k) w q->(v.ownBlock=some g\/w.heap.size<=g)->wpList P p Q d (a.put o.dst (SV g (n+1) r)) q):
 wpList P p Q (o::d) a (w.alloc (CE #[u] e)):=by
 refine qD A s x t J e i z b L I O j y C m v n D K l u M N c λT q E G f=>?_
 obtain ⟨R,r,rfl,H⟩:=E.shape
 obtain ⟨g,rfl,F,_⟩:=H 0 (by omega)
 refine h g r q E G ?_
 obtain f|⟨S,f,B⟩:=f
 rw [F]at f;exact .inl f.symm
 rw [F]at f;cases f;exact .inr B
def Ap(w:WD)(a:OA)(n:Nat)(d:List Bool):Prop:=
 d.length=n/\(n=0\/∃b c,a=some (AD b c)/\∀i,i<n->w.cell? (AD b (c+i))=some (.bool (d.getD i false)))
def Ap.ag{w w' a n d}(h:Ap w a n d)(g:BW w w'):Ap w' a n d:=by refine ⟨h.1,h.2.imp id ?_⟩;rintro ⟨b,c,rfl,e⟩;refine ⟨b,c,rfl,λi f=>?_⟩;exact (g.cell (O9 w _ (e i f))).trans (e i f)
section
open Go.ChangeShapes Go.WideShapes Go.ChangeAt Go.Deep
def Um:=@Go.DataW.weights_mem_each
section
variable {H:Type} {enc:TypeId×Value->H} {P:Program} {W:WD}
def yq{b a}(h:(DataW.weightsEach P b a).all (· <=reachBytes)=true){j:Nat}{t}{d:DataW H}(f:b[j]? =some t)(c:a[j]? =some d):
 ∀n∈d.weights P t,n<=reachBytes:=λn e=>by
 have:=List.all_eq_true.1 h _ (Um f c n e)
 simpa using this
def Ae{t e k a f g d p bytes}
 (C:P.underlying t=some (.slice e)) (F:P.underlying e=some (.int k)) (E:P.cellsOf e=1) (D:P.bytesOf e=bytes)
 (h:DataW.Trod enc P W 0 (λ_=>true) true t (SL a f g) d p) (hw:∀n∈d.weights P t,n<=reachBytes):
 ∃r,aG k W a f r/\(∀z∈r,(Lit.int k z).wf=true)/\f<=g/\g<=maxLen/\g*bytes<=140737488351232/\(a=none->f=0/\g=0):=by
 obtain ⟨A,G⟩:=h
 obtain ⟨m,u⟩|⟨x,l,c,r,m,_,J,K,v,u,j,s⟩:=open_ints C F E G
 ·simp [Value.cells]at m;obtain ⟨rfl,rfl,rfl⟩:=m
  exact ⟨[],⟨rfl,.inl rfl⟩,ZS,Pf _,by simp [maxLen],ZS,λ_=>⟨rfl,rfl⟩⟩
 ·simp [Value.cells]at m;obtain ⟨rfl,rfl,rfl⟩:=m
  simp only [if_true]at v;simp only [Prod.mk.injEq]at u;obtain ⟨rfl,_⟩:=u;have o:=hw ((f+(g-f))*bytes) (by simp [DataW.weights,C,D,lits,v];left;congr 1;omega);rw [show f+(g-f)=g by omega]at o;refine ⟨r.take f,⟨by simp [v];omega,?_⟩,λz w=>s z (List.mem_of_mem_take w),J,K,o,λh=>by cases h⟩;obtain B|B:=Nat.eq_zero_or_pos f
  ·exact .inl B
  ·obtain ⟨b,y,q⟩:=x;have L:q=none:=by simpa [Addr.add]using World.cell?_spot (j 0 ZO)
   subst L;refine .inr ⟨b,y,rfl,λi I=>?_⟩;have:=j i ZO;rw [Addr.add_lit]at this;rw [this];simp [List.getD,I]
end
section
variable {H:Type} {enc:TypeId×Value->H} {P:Program} {W:WD}
end
end
def PF:=@Go.RowKit.Below.refl
def P3:=@Go.World.size_alloc
def Q8:=@Go.World.putObj_heap_other
def Rw:=@Go.callsIn_wide
def RW:=@trivial
def R8:=@Go.World.putObj_heap_same
def Sk:=@Go.World.alloc_heap_new
def Ta:=@Go.wpIn_wide
def Uv:=@Go.run_endLoop
def UM:=@Go.run_enterLoop_outer
def Iw(P:Program)(n:Nat)(o:Array Value)(w:WD){α:Type}(d:α->Array Value)(h:α->WD->Prop)(m:Nat->Prop)(g:List α->Prop):Prop:=
 ∀(l:Nat)(J:List α->(Nat->Prop)->WD->Prop)(f:WD->Prop)(W:WD),BW w W->w.heap.size<=l->l<W.heap.size->
  (∀a S A B,J a S A->BW A B->J a S B)->(∀A B,f A->BW A B->f B)->(∀a S A,J a S A->∀k,S k->k<A.heap.size)->
  (∀a S x c,J a S c->h x c->YieldAt Fence.wide 0 P l (d x) c λe b=>(e=RT (.bool true)/\∃i,J (a++[x]) i b/\aj (λk=>k=l\/S k) c b/\∀k,i k->S k\/c.heap.size<=k)\/(e=RT (.bool false)/\f b))->
  J [] m W->Calls P n (#[.func (.yield l) #[] #[]]++o) W λe b=>(∃v,e=RT v)/\((∃j S,g j/\J j S b)\/f b)
def nJ{α:Type}(I:List α->(Nat->Prop)->WD->Prop)(c:WD->Prop)(S:Nat->Prop)(d:List α)(W:WD):Exit->Act->WD->Prop
 | .normal,_,a=>∃b,I d b a/\aj S W a/\∀k,b k->S k\/W.heap.size<=k
 | .ret,_,a=>aj S W a/\c a
 |_,_,_=>False
def bU(W l o):aj (λk=>k=l) W (W.putObj l o):=by have h:=grownBy_putObj' W l o;exact ⟨h.os,h.tape,h.output,h.size,λk a b=>h.block k a (λe=>b (by cases e;rfl))⟩
def Bq{α P g ps assign body Q a w}
 {gf:Nat} {lb} (hg:a.eval g=.func (.func gf) #[] lb) (eg:∀args w,(callFunc gf args).run P w=.ok (.enter gf args) w)
 {i H S0 ag} (ar:Iw P gf lb w i H S0 ag) (ax:∀x,(i x).size=ps.size)
 (I) (Ix:WD->Prop)
 (hI:∀c S A B,I c S A->aj (λk=>w.heap.size<=k/\∃o,A.heap[k]? =some o/\o.isCells=false) A B->I c S B)
 (V:∀A B,Ix A->aj (λk=>w.heap.size<=k/\∃o,A.heap[k]? =some o/\o.isCells=false) A B->Ix B)
 (O:∀c S A,I c S A->∀k,S k->∃o,A.heap[k]? =some o/\o.isCells=true)
 (ak:∀x A B,H x A->aj (λk=>∃o,A.heap[k]? =some o/\o.isCells=false) A B->H x B)
 (h0:I [] S0 w) (a₁:α->Act)
 (y:∀(l x W)(K:Act->WD->Prop),K (a₁ x) W->assign.wpIn (Fence.wide.inRound l) 0 P (Exit.then K (λ_ _ _=>False)) {tmps:=(ps.zip (i x)).foldl (λt (p,v)=>t.setIfInBounds p v) a.tmps,defers:=[]} W)
 (X:∀l c S x W,w.heap.size<=l->I c S W->H x W->body.wpIn (Fence.wide.inRound l) 0 P (nJ I Ix S (c++[x]) W) (a₁ x) W)
 (Y:∀(D xs S)(W:WD),w.heap.size<=D->ag xs->I xs S W->W.heap[D]? =some (.deferred (some []))->Q .normal {a with defers:={target:=.collected D,args:=#[]}::a.defers} W)
 (af:∀D W,w.heap.size<=D->Ix W->W.heap[D]? =some (.deferred (some []))->Q .ret {a with defers:={target:=.collected D,args:=#[]}::a.defers} W):
 (Code.rangeFunc g ps assign body).wp P Q a w:=by
 refine (Ta (n:=0)).1 (wpIn_rangeFunc λfn aq=>?_)
 obtain ⟨d,b⟩:∃d:LoopState->Option Code->Loop,d=λst pe=>{state:=st,pending:=pe,fn:=fn,tmps:=a.tmps,params:=ps,assign:=assign,body:=body,defers:=w.heap.size}:=⟨_,rfl⟩
 have⟨D,hD⟩:=EX w.heap.size
 have⟨C,L⟩:=EX ((w.alloc (.deferred (some []))).alloc (.loop (d .ready none)))
 have al:BW w C:=by rw [<-L];exact ((PF _ w).alloc (Pf _) _).alloc ZS _
 have ai:C.heap[D+1]? =some (.loop (d .ready none)):=by rw [<-L,<-hD];have:=Sk (w.alloc (.deferred (some []))) (.loop (d .ready none));rwa [P3]at this
 have ao:C.heap[D]? =some (.deferred (some [])):=by rw [<-L,<-hD];exact (UE _ _ _ ZS).trans (Sk w _)
 let J:List α->(Nat->Prop)->WD->Prop:=λc S W=>I c S W/\W.heap[D+1]? =some (.loop (d .ready none))/\W.heap[D]? =some (.deferred (some []))
 let Jx:WD->Prop:=λW=>Ix W/\W.heap[D+1]? =some (.loop (d .done (some .ret)))/\W.heap[D]? =some (.deferred (some []))
 have bk:∀{A B:WD}{k:Nat}{o:Obj},BW A B->A.heap[k]? =some o->B.heap[k]? =some o:=λz h=>(z.block _ (Pb.1 h).1).trans h
 have kb:∀{A B:WD}(T:Nat->Prop),BW A B->aj T A B:=λT z=>(aj.aC z).mono λk F s=>absurd F ZO
 have an:J [] S0 C:=⟨hI _ _ _ _ h0 (kb _ al),ai,ao⟩
 have j:∀(W:WD)(o:Loop)(o':Obj),W.heap[D+1]? =some (.loop o)->aj (λk=>w.heap.size<=k/\∃o,W.heap[k]? =some o/\o.isCells=false) W (W.putObj (D+1) o'):=λW o o' h=>
  (bU W (D+1) o').mono λk _ e=>by subst e;exact ⟨ZO,_,h,rfl⟩
 have am:∀{c:List α}{S:Nat->Prop}{W:WD}{k:Nat}{o:Obj},I c S W->W.heap[k]? =some o->o.isCells=false->¬S k:=λZ F ho s=>by have⟨o',N,h2⟩:=O _ _ _ Z _ s;rw [F]at N;cases N;rw [ho]at h2;cases h2
 refine ⟨D+1,[{target:=.collected D,args:=#[]}],C,{target:=.fn (.func gf) lb,args:=#[.func (.yield (D+1)) #[] #[]]},C,gf,#[.func (.yield (D+1)) #[] #[]]++lb,C,?_,?_,λ_ _=>RW,?_,λh=>(by cases h),?_⟩
 rw [<-L,b,<-hD];exact UM _ _ _ _ _
 simp only [resolve,hg]
 simp [go_sem]
 simp [invoke,go_sem,eg]
 refine Rw.2 ((ar (D+1) J Jx C al ZO (Pb.1 ai).1 ?_ ?_ ?_ ?_ an).mono ?_)
 exact λc S A B h z=>⟨hI _ _ _ _ h.1 (kb _ z),bk z h.2.1,bk z h.2.2⟩
 exact λA B h z=>⟨V _ _ h.1 (kb _ z),bk z h.2.1,bk z h.2.2⟩
 exact λc S A h k s=>by obtain ⟨o,N,-⟩:=O _ _ _ h.1 k s;exact (Pb.1 N).1
 rintro c S x W ⟨Z,G,F⟩ ay
 have av:D+1<W.heap.size:=(Pb.1 G).1
 have hy:=run_yield (P:=P) (args:=i x) G (by rw [b];exact ax x)
 rw [b]at hy
 refine ⟨fn,_,assign,body,hy,roundIn_of_wpIn aq (y _ x W _ ?_)⟩
 clear hy
 refine ⟨_,run_beginRound G (by rw [b]),?_⟩
 have⟨m,u⟩:=EX (W.putObj (D+1) (.loop {d .ready none with state:=.busy}))
 rw [u]
 have R:aj (λk=>w.heap.size<=k/\∃o,W.heap[k]? =some o/\o.isCells=false) W m:=by rw [<-u];exact j W _ _ G
 have U:aj (λk=>k=D+1) W m:=by rw [<-u];exact bU _ _ _
 have ad:m.heap[D+1]? =some (.loop {d .ready none with state:=.busy}):=by rw [<-u];exact R8 av
 have ac:m.heap[D]? =some (.deferred (some [])):=(U.block D (Pb.1 F).1 ZO).trans F
 have aa:=hI _ _ _ _ Z R
 have aw:=ak _ _ _ ay (R.mono λk _ h=>h.2)
 have az:m.heap.size=W.heap.size:=by rw [<-u];simp [World.putObj]
 refine wpIn_mono (X (D+1) c S x m ZO aa aw) ?_
 have ah:∀(f:Option Code)(q:WD),aj S m q->∃E,(Instr.endRound (D+1) f).run P q=.ok (.bool f.isNone) E/\E.heap[D+1]? =some (.loop (d (if f.isNone then .ready else .done) f))/\E.heap[D]? =some (.deferred (some []))/\
  aj (λk=>w.heap.size<=k/\∃o,q.heap[k]? =some o/\o.isCells=false) q E/\aj (λk=>k=D+1) q E/\q.heap.size<=E.heap.size:=λf q h3=>by
  have ae:=(h3.block (D+1) (Pb.1 ad).1 (am aa ad rfl)).trans ad
  have au:=(h3.block D (Pb.1 ac).1 (am aa ac rfl)).trans ac
  have r:=run_endRound (P:=P) f ae
  rw [b]at r
  refine ⟨_,r,?_,?_,j q _ _ ae,bU _ _ _,(bU q (D+1) _).size⟩
  rw [b];exact R8 (Pb.1 ae).1
  exact (Q8 ZO).trans au
 rintro e a3 q hp
 cases e with
 |normal=>
  obtain ⟨S',ab,M,ap⟩:=hp
  have⟨E,r,N,h2,h3,h4,h5⟩:=ah none q M
  refine ⟨_,E,r,.inl ⟨rfl,S',⟨hI _ _ _ _ ab h3,N,h2⟩,?_,λk s=>?_⟩⟩
  exact ((U.mono (T:=λk=>k=D+1\/S k) λk _ e=>.inl e).then M (λk _ s=>.inr s)).then h4 (λk _ e=>.inl e)
  obtain h|h:=ap k s
  exact .inl h
  exact .inr ZO
 |ret=>
  obtain ⟨M,ab⟩:=hp
  have⟨E,r,N,h2,h3,h4,h5⟩:=ah (some .ret) q M
  exact ⟨_,E,r,.inr ⟨rfl,V _ _ ab h3,N,h2⟩⟩
 |exit id=>exact hp.elim
 |goto t=>exact hp.elim
 |panic ch=>exact hp.elim
 |outgrown=>exact hp.elim
 rintro e m ⟨⟨v,rfl⟩,(⟨xs,S,hS,Z,G,F⟩|⟨Z,G,F⟩)⟩
 have r:=Uv (P:=P) G (by rw [b];simp)
 rw [b]at r
 exact ⟨none,_,r,Y D xs S _ ZO hS (hI _ _ _ _ Z (j m _ _ G)) ((Q8 ZO).trans F)⟩
 have r:=Uv (P:=P) G (by rw [b];simp)
 rw [b]at r
 refine ⟨some .ret,_,r,?_⟩
 exact wpIn_ret (af D _ ZO (V _ _ Z (j m _ _ G)) ((Q8 ZO).trans F))
def qZ{α:Type}(I:List α->(Nat->Prop)->WD->Prop)(d:WD->Prop)(S:Nat->Prop)(e:List α)(W:WD):Exit->Act->WD->Prop
 | .normal,_,a=>∃b,I e b a/\aj S W a/\∀k,b k->S k\/W.heap.size<=k
 | .ret,_,a=>(∃c:Nat->Prop,aj c W a/\∀k,c k->∃o,W.heap[k]? =some o/\o.isCells=true)/\d a
 |_,_,_=>False
def yU{α P g ps assign body Q a w}
 {gf:Nat} {lb} (hg:a.eval g=.func (.func gf) #[] lb) (eg:∀args w,(callFunc gf args).run P w=.ok (.enter gf args) w)
 {i L S0 af} (aq:Iw P gf lb w i L S0 af) (ax:∀x,(i x).size=ps.size)
 (I) (Ix:WD->Prop)
 (hI:∀c S A B,I c S A->aj (λk=>w.heap.size<=k/\∃o,A.heap[k]? =some o/\o.isCells=false) A B->I c S B)
 (X:∀A B,Ix A->aj (λk=>w.heap.size<=k/\∃o,A.heap[k]? =some o/\o.isCells=false) A B->Ix B)
 (R:∀c S A,I c S A->∀k,S k->∃o,A.heap[k]? =some o/\o.isCells=true)
 (ai:∀x A B,L x A->aj (λk=>∃o,A.heap[k]? =some o/\o.isCells=false) A B->L x B)
 (h0:I [] S0 w) (a₁:α->Act)
 (z:∀(l x W)(K:Act->WD->Prop),K (a₁ x) W->assign.wpIn (Fence.wide.inRound l) 0 P (Exit.then K (λ_ _ _=>False)) {tmps:=(ps.zip (i x)).foldl (λt (p,v)=>t.setIfInBounds p v) a.tmps,defers:=[]} W)
 (Y:∀l c S x W,w.heap.size<=l->I c S W->L x W->body.wpIn (Fence.wide.inRound l) 0 P (qZ I Ix S (c++[x]) W) (a₁ x) W)
 (Z:∀(D xs S)(W:WD),w.heap.size<=D->af xs->I xs S W->W.heap[D]? =some (.deferred (some []))->Q .normal {a with defers:={target:=.collected D,args:=#[]}::a.defers} W)
 (ae:∀D W,w.heap.size<=D->Ix W->W.heap[D]? =some (.deferred (some []))->Q .ret {a with defers:={target:=.collected D,args:=#[]}::a.defers} W):
 (Code.rangeFunc g ps assign body).wp P Q a w:=by
 refine (Ta (n:=0)).1 (wpIn_rangeFunc λfn ap=>?_)
 obtain ⟨d,b⟩:∃d:LoopState->Option Code->Loop,d=λst pe=>{state:=st,pending:=pe,fn:=fn,tmps:=a.tmps,params:=ps,assign:=assign,body:=body,defers:=w.heap.size}:=⟨_,rfl⟩
 have⟨D,hD⟩:=EX w.heap.size
 have⟨E,M⟩:=EX ((w.alloc (.deferred (some []))).alloc (.loop (d .ready none)))
 have ak:BW w E:=by rw [<-M];exact ((PF _ w).alloc (Pf _) _).alloc ZS _
 have ah:E.heap[D+1]? =some (.loop (d .ready none)):=by rw [<-M,<-hD];have:=Sk (w.alloc (.deferred (some []))) (.loop (d .ready none));rwa [P3]at this
 have an:E.heap[D]? =some (.deferred (some [])):=by rw [<-M,<-hD];exact (UE _ _ _ ZS).trans (Sk w _)
 let J:List α->(Nat->Prop)->WD->Prop:=λc S W=>I c S W/\W.heap[D+1]? =some (.loop (d .ready none))/\W.heap[D]? =some (.deferred (some []))
 let Jx:WD->Prop:=λW=>Ix W/\W.heap[D+1]? =some (.loop (d .done (some .ret)))/\W.heap[D]? =some (.deferred (some []))
 have bk:∀{A B:WD}{k:Nat}{o:Obj},BW A B->A.heap[k]? =some o->B.heap[k]? =some o:=λC h=>(C.block _ (Pb.1 h).1).trans h
 have kb:∀{A B:WD}(T:Nat->Prop),BW A B->aj T A B:=λT C=>(aj.aC C).mono λk r s=>absurd r ZO
 have am:J [] S0 E:=⟨hI _ _ _ _ h0 (kb _ ak),ah,an⟩
 have j:∀(W:WD)(o:Loop)(o':Obj),W.heap[D+1]? =some (.loop o)->aj (λk=>w.heap.size<=k/\∃o,W.heap[k]? =some o/\o.isCells=false) W (W.putObj (D+1) o'):=λW o o' h=>
  (bU W (D+1) o').mono λk _ e=>by subst e;exact ⟨ZO,_,h,rfl⟩
 have av:∀{c:List α}{S:Nat->Prop}{W:WD}{k:Nat}{o:Obj},I c S W->W.heap[k]? =some o->o.isCells=false->¬S k:=λhi r ho s=>by have⟨o',G,O⟩:=R _ _ _ hi _ s;rw [r]at G;cases G;rw [ho]at O;cases O
 refine ⟨D+1,[{target:=.collected D,args:=#[]}],E,{target:=.fn (.func gf) lb,args:=#[.func (.yield (D+1)) #[] #[]]},E,gf,#[.func (.yield (D+1)) #[] #[]]++lb,E,?_,?_,λ_ _=>RW,?_,λh=>(by cases h),?_⟩
 rw [<-M,b,<-hD];exact UM _ _ _ _ _
 simp only [resolve,hg]
 simp [go_sem]
 simp [invoke,go_sem,eg]
 refine Rw.2 ((aq (D+1) J Jx E ak ZO (Pb.1 ah).1 ?_ ?_ ?_ ?_ am).mono ?_)
 exact λc S A B h C=>⟨hI _ _ _ _ h.1 (kb _ C),bk C h.2.1,bk C h.2.2⟩
 exact λA B h C=>⟨X _ _ h.1 (kb _ C),bk C h.2.1,bk C h.2.2⟩
 exact λc S A h k s=>by obtain ⟨o,G,-⟩:=R _ _ _ h.1 k s;exact (Pb.1 G).1
 rintro c S x W ⟨hi,H,r⟩ ay
 have au:D+1<W.heap.size:=(Pb.1 H).1
 have hy:=run_yield (P:=P) (args:=i x) H (by rw [b];exact ax x)
 rw [b]at hy
 refine ⟨fn,_,assign,body,hy,roundIn_of_wpIn ap (z _ x W _ ?_)⟩
 clear hy
 refine ⟨_,run_beginRound H (by rw [b]),?_⟩
 have⟨m,y⟩:=EX (W.putObj (D+1) (.loop {d .ready none with state:=.busy}))
 rw [y]
 have U:aj (λk=>w.heap.size<=k/\∃o,W.heap[k]? =some o/\o.isCells=false) W m:=by rw [<-y];exact j W _ _ H
 have V:aj (λk=>k=D+1) W m:=by rw [<-y];exact bU _ _ _
 have ac:m.heap[D+1]? =some (.loop {d .ready none with state:=.busy}):=by rw [<-y];exact R8 au
 have ab:m.heap[D]? =some (.deferred (some [])):=(V.block D (Pb.1 r).1 ZO).trans r
 have al:=hI _ _ _ _ hi U
 have aw:=ai _ _ _ ay (U.mono λk _ h=>h.2)
 have az:m.heap.size=W.heap.size:=by rw [<-y];simp [World.putObj]
 refine wpIn_mono (Y (D+1) c S x m ZO al aw) ?_
 have ag:∀(f:Option Code)(q:WD)(Sx:Nat->Prop),aj Sx m q->(∀{k:Nat}{o:Obj},m.heap[k]? =some o->o.isCells=false->¬Sx k)->∃F,(Instr.endRound (D+1) f).run P q=.ok (.bool f.isNone) F/\F.heap[D+1]? =some (.loop (d (if f.isNone then .ready else .done) f))/\F.heap[D]? =some (.deferred (some []))/\
  aj (λk=>w.heap.size<=k/\∃o,q.heap[k]? =some o/\o.isCells=false) q F/\aj (λk=>k=D+1) q F/\q.heap.size<=F.heap.size:=λf q Sx h3 hx=>by
  have ad:=(h3.block (D+1) (Pb.1 ac).1 (hx ac rfl)).trans ac
  have ar:=(h3.block D (Pb.1 ab).1 (hx ab rfl)).trans ab
  have u:=run_endRound (P:=P) f ad
  rw [b]at u
  refine ⟨_,u,?_,?_,j q _ _ ad,bU _ _ _,(bU q (D+1) _).size⟩
  rw [b];exact R8 (Pb.1 ad).1
  exact (Q8 ZO).trans ar
 rintro e a3 q hp
 cases e with
 |normal=>
  obtain ⟨S',aa,N,ao⟩:=hp
  have⟨F,u,G,O,h3,h4,h5⟩:=ag none q S N (λG O=>av al G O)
  refine ⟨_,F,u,.inl ⟨rfl,S',⟨hI _ _ _ _ aa h3,G,O⟩,?_,λk s=>?_⟩⟩
  exact ((V.mono (T:=λk=>k=D+1\/S k) λk _ e=>.inl e).then N (λk _ s=>.inr s)).then h4 (λk _ e=>.inl e)
  obtain h|h:=ao k s
  exact .inl h
  exact .inr ZO
 |ret=>
  obtain ⟨⟨Sx,N,hx⟩,aa⟩:=hp
  have⟨F,u,G,O,h3,h4,h5⟩:=ag (some .ret) q Sx N (λr ho s=>by have⟨o',e1,e2⟩:=hx _ s;rw [r]at e1;cases e1;rw [ho]at e2;cases e2)
  exact ⟨_,F,u,.inr ⟨rfl,X _ _ aa h3,G,O⟩⟩
 |exit id=>exact hp.elim
 |goto t=>exact hp.elim
 |panic ch=>exact hp.elim
 |outgrown=>exact hp.elim
 rintro e m ⟨⟨v,rfl⟩,(⟨xs,S,hS,hi,H,r⟩|⟨hi,H,r⟩)⟩
 have u:=Uv (P:=P) H (by rw [b];simp)
 rw [b]at u
 exact ⟨none,_,u,Z D xs S _ ZO hS (hI _ _ _ _ hi (j m _ _ H)) ((Q8 ZO).trans r)⟩
 have u:=Uv (P:=P) H (by rw [b];simp)
 rw [b]at u
 refine ⟨some .ret,_,u,?_⟩
 exact wpIn_ret (ae D _ ZO (X _ _ hi (j m _ _ H)) ((Q8 ZO).trans r))
def Pn:=@Go.RowKit.Below.refl
def Po:=@List.getElem?_eq_some_iff
def PB:=@List.length_map
def PI:=@List.take_of_length_le
def PU:=@Nat.zero_add
def Qv:=@Nat.eq_zero_or_pos
def QK:=@Go.Addr.add_lit
def QW:=@List.nil_append
def Ro:=@Go.World.ownsRow.frozenAt
def RL:=@Nat.mul_one
def RU:=@Go.World.ownsRow.stored
def RX:=@List.length_set
def Sm:=@Go.World.ownsRow_lit
def aF(k:IntKind)(e:TypeId)(w a:WD)(v:Value)(b:List Int):Prop:=
 Sl a e v b.length (b.map (Value.int k))/\BW w a/\∀g,v.ownBlock=some g->w.heap.size<=g
def lJ(k e w):aF k e w w (SN) []:=⟨Qd _ _ _ _,Pn _ _,by simp [Value.ownBlock]⟩
def aX{k e w wr v a}(h:aF k e w wr v a):BW w wr:=h.2.1
def gY{k e w b wr v c}(a:BW w b)(h:aF k e b wr v c):aF k e w wr v c:=
 ⟨h.1,a.trans (h.2.1.mono a.size),λg d=>PG a.size (h.2.2 g d)⟩
def iu{k e w wr b v c}(h:aF k e w wr v c)(a:BW wr b):aF k e w b v c:=
 ⟨h.1.ax (aj.aC a) (λg d=>ZH (h.1.lt g d)),h.2.1.trans (a.mono h.2.1.size),h.2.2⟩
def GS{k e w wr j v i c x}(h:aF k e w wr v c)
 (o:Sl j e i (c.length+1) (c.map (Value.int k)++[.int k x])) (n:aj (λb=>v.ownBlock=some b) wr j) (a:dQ wr v i):aF k e w j i (c++[x]):=by
 obtain ⟨q,d,l⟩:=h
 refine ⟨by simpa using o,d.trans (n.ag d.size (λb r e=>ZH (l b e))),λg f=>?_⟩
 obtain a|⟨p,a,m⟩:=a
 exact l g (a▸f)
 have:=d.size
 rw [a]at f;cases f;omega
def ef{k e w wr d v a x g c n}(h:aF k e w wr v a)(j:a.length=n)
 (l:Sl d e (SV g (n+1) c) (n+1) (a.map (Value.int k)++[.int k x])) (f:aj (λb=>v.ownBlock=some b) wr d) (i:v.ownBlock=some g\/wr.heap.size<=g):
 aF k e w d (SV g (n+1) c) (a++[x]):=by
 subst j
 exact GS h l f (i.imp (λh=>h.symm) (λh=>⟨g,rfl,h⟩))
def lK{k e w l v c}(h:aF k e w l v c):∃a b,v=SL a c.length b/\aG k l a c.length c:=by obtain ⟨a,b,rfl,f⟩:=h.1.shape;refine ⟨a,b,rfl,rfl,?_⟩;obtain d|d:=Qv c.length;exact .inl d;obtain ⟨g,rfl,_,_⟩:=f 0 d;refine .inr ⟨g,0,rfl,λi j=>?_⟩;have⟨n,e,_,m⟩:=f i j;simp at e;subst e;rw [PU,m];simp [List.getD,j]
def de{w e a n c m k}(h:Sl w e (SL a n c) m k):n<=c/\c<=maxLen/\n=m:=by
 obtain ⟨b,d⟩|⟨g,f,i,b,_,_,d,j,_⟩:=h.2;cases b;exact ⟨Pf _,by simp [maxLen],d.symm⟩
 cases b;exact ⟨d,j,rfl⟩
def xw{k e w i v c n}(h:aF k e w i v c)(o:c.length=n)(p:0<n):
 ∃g b,v=SV g n b/\∀(j) u,(c.map (Value.int k))[j]? =some u->i.cell? (((AD g 0):Addr).add j)=some u:=by
 subst o
 obtain ⟨a,b,rfl,d⟩:=h.1.shape
 obtain ⟨g,rfl,_,_⟩:=d 0 p
 refine ⟨g,b,rfl,λj u f=>?_⟩
 have m:j<c.length:=by simpa using(Po.1 f).1
 have⟨q,e,_,l⟩:=d j m
 simp at e;subst e
 rw [QK,PU,l,f]
def CF{k w b a n d}(h:aG k w (some (AD b a)) n d):
 ∀(j) u,(d.map (Value.int k))[j]? =some u->w.cell? (((AD b a):Addr).add j)=some u:=by
 intro j u c
 have f:j<d.length:=by simpa using(Po.1 c).1
 have o:=h.1
 obtain m|⟨l,g,e,i⟩:=h.2
 omega
 simp at e;obtain ⟨rfl,rfl⟩:=e
 rw [QK,i j ZO]
 simp [f]at c
 simp [List.getD,f,c]
def eN{w e g n c}(h:Sl w e (SV g n n) n c):w.heap[g]? =some (.cells c.toArray e (0,0)):=by
 obtain ⟨a,_⟩|⟨k,d,f,a,_,i,_,_,b,j⟩:=h.2;cases a
 cases a
 rw [i,<-j,PI (by simp [b])]
def gC{w e g n xs}(h:w.heap[g]? =some (.cells xs.toArray e (0,0)))(a:xs.length=n)(b:n<=maxLen):Sl w e (SV g n n) n xs:=
 ⟨by simp [a],.inr ⟨g,n,xs.toArray,rfl,Pz _,h,Pf _,b,by simp [a],by simp [PI,a]⟩⟩
def Fw{k e w v n}{a:List Int}(h:Sl w e v n (a.map (Value.int k))):a.length=n:=by have:=h.1;simpa using this
def bM(z)(a:z.cells=#[z])(m):(madeCells z.cells (m*1)).toList=List.replicate m z:=by rw [a,RL];exact toList_madeCells_one z m
def AU{k e w a m}(b:a.ownsRow 0 e 1 (SV w.heap.size m m) m (madeCells (Value.int k 0).cells (m*1)).toList)(d:w.grownBy a none):
 aF k e w a (SV w.heap.size m m) (List.replicate m 0):=by
 refine ⟨?_,(Pn _ w).grown d (Pf _) ZS,λg h=>?_⟩
 rw [bM _ rfl]at b
 simpa using b
 have c:some w.heap.size=some g:=h
 cases c;exact Pf _
def vK{k e w g n c}{a:List Int}(h:Sl w e (SV g n c) n (a.map (Value.int k)))(i)(b:i<n):
 w.cell? (AD g i)=some (.int k (a.getD i 0))/\w.frozen? (AD g i)=false:=by
 have d:=Fw h
 refine ⟨?_,Ro (size:=1) h i⟩
 rw [Qj (size:=1) h i ZO]
 have:i<a.length:=ZO
 simp [List.getD,this]
def zF{k e w a g c n b}(h:aF k e w a (SV g n c) b)(f:b.length=n)(i)(d:i<n):
 CA a g i (.int k (b.getD i 0))/\FZ a g i:=by
 subst f;exact vK h.1 i d
def DY{k e w f g c n b}(h:aF k e w f (SV g n c) b)(m:b.length=n)(i x):
 aF k e w (f.setCell (AD g i) (.int k x)) (SV g n c) (b.set i x):=by
 subst m
 obtain ⟨j,l,d⟩:=h
 have a:=RU j i (.int k x)
 rw [<-List.map_set]at a
 exact ⟨by rw [RX];exact a.1,l.setCell (d g rfl) _,d⟩
def LM{k w a n d}(h:aG k w a n d)(i:0<n):
 ∃c,a=some c/\∀(j) u,(d.map (Value.int k))[j]? =some u->w.cell? (c.add j)=some u:=by
 obtain f|⟨b,e,rfl,g⟩:=h.2
 omega
 exact ⟨_,rfl,CF h⟩
def xu(k e w b a n)(c:b.toList=a.map (Value.int k))(i:a.length=n)(f:n<=maxLen):
 aF k e w (w.alloc (CE b e)) (SV w.heap.size n n) a:=by
 subst i
 refine ⟨?_,(Pn _ w).alloc (Pf _) _,λg h=>?_⟩
 have:=Sm (base:=0) (e:=e) (size:=1) w b a.length (Pz _) f (by rw [<-Array.length_toList,c];simp)
 rwa [c]at this
 have d:some w.heap.size=some g:=h
 cases d;exact Pf _
def cT{k e w b a n c d}(h:aF k e w b (SL a n c) d):aG k b a n d:=by have⟨j,f,g,i⟩:=lK h;cases g;exact i
def gy{k e w g a n c b}(h:aF k e w g (SL a n c) b):b.length=n:=by have⟨i,d,f,j⟩:=lK h;cases f;rfl
def Cg{k e w b a n c d}(h:aF k e w b (SL a n c) d):n<=c/\c<=maxLen:=by have:=de h.1;exact ⟨this.1,this.2.1⟩
def qE{P w D l o a Q}(r:o.guard=none)(s x t)
 (R:o.op=.call {callee:=.builtin .append,args:=#[s,x],argTypes:=#[t,t]})
 (k e i z b) (T:P.underlying t=some (.slice e)) (O:P.info? e=some i) (hz:i.zero=some z)
 (p:i.size=1) (K:i.bytes=b) (L:z.cells.size=1) (y:1<=b)
 (S:a.eval s=SV w.heap.size 0 0) (F n c q) (V:a.eval x=SL F n c) (A:aG k w F n q) (v:F=none->n=0/\c=0) (d:n*b<=140737488355328)
 (h:∀E G H,aF k e w H (SL E n G) q->wpList P D Q l (a.put o.dst (SL E n G)) H):wpList P D Q (o::l) a (w.alloc (CE #[] e)):=by
 have f:Sl (w.alloc (CE #[] e)) e (SV w.heap.size 0 0) 0 []:=Sm (e:=e) (size:=1) w #[] 0 (Pz _) (by simp [maxLen]) rfl
 cases F with
 |none=>
  obtain ⟨rfl,rfl⟩:=v rfl
  obtain rfl:q=[]:=Qy A.1
  have B:=run_append_owned_none (P:=P) (w.alloc (CE #[] e)) 0 t o.type e i 1 T O _ 0 [] f
  refine wpList_plain r λ_ Y=>?_
  unfold Oper.wp execOp
  simp only [R,resolve,invoke,builtin,Rv,R6,Q9,Rm,Pv,PE,S,V,B]
  exact Y _ _ (h _ _ _ (xu k e w #[] [] 0 rfl rfl (by simp [maxLen])))
 |some M=>
  have C:∀j u,(q.map (Value.int k))[j]? =some u->(w.alloc (CE #[] e)).cell? (M.add j)=some u:=by
   intro j u U;have hj:j<q.length:=by simpa using(Po.1 U).1
   have hl:=A.1;have⟨W,I,Z⟩:=LM A ZO;cases I
   have:=Z j u U;rw [World.cell?_alloc_lt _ _ _ (O9 w _ this),this]
  refine jq r s x t R e i z b T O hz p K L y _ 0 [] S f M n c (q.map (Value.int k)) V (by rw [PB];exact A.1) C (ints_oneCell _ _) (by rw [PU];exact d) λv' H J X m=>?_
  rw [PU,QW]at J
  obtain ⟨E,G,rfl,_⟩:=J.shape
  refine h E G H ⟨by rw [A.1];exact J,B5 X,λg N=>?_⟩
  obtain m|⟨g',m,aa⟩:=m
  rw [N]at m
  have I:some g=some w.heap.size:=m
  cases I;exact Pf _
  rw [N]at m;cases m
  have:(w.alloc (CE #[] e)).heap.size=w.heap.size+1:=ZS
  omega
def jd{w a}(h:BW w a)(o):BW w (a.alloc o):=h.alloc h.size o
def af{w a b}(h:BW w a)(c:BW a b):BW w b:=h.trans (c.mono h.size)
end Go.Own
namespace Go
section
def PW:=@if_pos
def Qa:=@if_neg
section
variable {P:Program} {ops:Array Oper} {w0:World}
theorem Oper.x9{o:Oper}{a K e}(d:∀a,K a->e a)(h:o.quiet P a (λx=>x=w0) K):o.still P a w0 e:=by
 obtain ⟨v,j,c⟩:=h;have b:=j w0 rfl;unfold Oper.still;unfold Oper.quietAt at b;cases i:(execOp a.eval o).run P w0 with
 |ok n l=>
  rw [i]at b;cases n with
  |value u=>obtain ⟨rfl,rfl⟩:=b;exact ⟨rfl,d _ c⟩
  |skip=>obtain ⟨rfl,rfl⟩:=b;exact ⟨rfl,d _ c⟩
  |enter f g=>obtain ⟨hw,k⟩:=b;exact ⟨hw,v,by subst hw;exact k,d _ c⟩
  |_=>exact b.elim
 |_=>rw [i]at b;exact b.elim
theorem iO{Q}:∀l a,wpQuiet P ops (λx=>x=w0) Q l a->wpStill P ops w0 Q l a
 |[],_,h=>h
 |o::b,a,h=>by unfold wpQuiet at h;unfold wpStill;split at h;rename_i hw;rw [PW hw];exact Oper.x9 (λa h=>iO b a h) h;rename_i hw;rw [Qa hw];exact iO b _ h
theorem dM{e Q a w}{l:List Oper}(n)(d:P.follows .mixedOrders=true)(c:Region.lexTailB .any l.toArray n=true)
 (h:wpQuiet P l.toArray (λx=>x=w.drew) (λb=>wpList P l.toArray Q (l.drop n) b w.drew) (l.take n) a):(Code.region e l.toArray true).wp P Q a w:=
 wp_region_still_tail n d c (iO _ _ h)
end
end
end Go
namespace Go.Own
open Go.RowKit
end Go.Own
def Go.Shut.p{A B:Type}{b}{S:B->Prop}{W K:A->B->Prop}(h:Go.Shut (∀a w,(b=false->S w)->W a w->K a w)){a w}(k:W a w)(e:b=true:=by rfl):K a w:=h a w (λx=>by rw [e]at x;cases x) k
namespace Go
def Shut.o{p:Prop}(h:Shut p):p:=h
end Go
namespace Go.Own
open Go.RowKit
section
section
variable {P:Program} {ops:Array Oper} {Q:Exit->Act->WD->Prop} {md:Region.Mode} {S S':WD->Prop}
end
end
section
def PY:=@List.mem_filter
def P5:=@List.mem_range
def Qk:=@Bool.and_eq_true
def Rc:=@List.all_eq_true
def TK:=@Go.mem_ready
def Ud:=@beq_iff_eq
section
variable {P:Program} {ops:Array Oper} {Q:Exit->Act->WD->Prop} {md:Region.Mode} {S:WD->Prop}
def J1{a i}(h:i∈Region.ready md ops a):i<ops.size:=by unfold Region.ready at h;exact P5.1 (PY.1 h).1
def Me{i o K a w}(b:ops[i]? =some o)(hw:Region.wanted o (yielded ops a.tmps)=true)(h:Oper.wp P o a w K Q):wpOp P ops Q i K a w:=by unfold wpOp;rw [b];dsimp only;rw [if_pos hw];exact .inl h
def Bo{o y}(h:o.guard=none):Region.wanted o y=true:=by simp [Region.wanted,h]
structure aY (P:Program) (o:Oper) (a:Act) (w:WD) (K:Act->WD->Prop) (Q:Exit->Act->WD->Prop):Prop where
 o:Oper.wp P o a w K Q
def cB{o K a w w' v}(h:(execOp a.eval o).run P w=.ok (.value v) w')(b:K (a.put o.dst v) w'):aY P o a w K Q:=by constructor;unfold Oper.wp;rw [h];exact b
def KE(ops:Array Oper)(i:Nat)(l:List Nat):Bool:=match ops[i]? with
 |some o=>l.all λj=>o.after.any λe=>Region.binds .any e&&e.on==j
 |none=>false
def bj{a i l}(hw:KE ops i l=true)(h:i∈Region.ready .any ops a):∀j∈l,a.getD j false=true:=by have⟨_,o,k,b⟩:=TK.1 h;unfold KE at hw;rw [k]at hw;dsimp only at hw;intro j g;have d:=Rc.1 hw j g;have⟨e,f,c⟩:=Array.any_eq_true'.1 d;rw [Qk,Ud]at c;have:=b e f c.1;rwa [c.2]at this
def rh{a i}(h:i∈Region.ready md ops a):a.getD i true=false:=(TK.1 h).1
end
end
end Go.Own
namespace Go.Proofs.YtimniinkpipnmaaGreatDoor
open Go.RowKit Go.Own Go.Proofs.Tryz
abbrev CL:=Calls Tryz.prog
def O8:=@Go.Lib.hid
def Pq:=@beq_eq_false_iff_ne
def Py:=@Go.World.cell?_alloc_at
def Ql:=@Go.IntWalk.i64_in
def Q5:=@Int.tmod_eq_emod_of_nonneg
def S7:=@Nat.mod_lt
def TY:=@Int.natCast_emod
def tk(a:Int):Int:=
 if a=1\/a=2\/a=3 then 0 else if a=4\/a=8\/a=11\/a=12 then 1 else if a=5\/a=6\/a=7\/a=9\/a=10 then 2 else-1
def lW(a w):CL 131 #[IV a] w λe g=>e=RT (IV (tk a))/\g=w:=by
 by_cases h:a=1\/a=2\/a=3\/a=4\/a=5\/a=6\/a=7\/a=8\/a=9\/a=10\/a=11\/a=12
 ·obtain rfl|rfl|rfl|rfl|rfl|rfl|rfl|rfl|rfl|rfl|rfl|rfl:=h;all_goals
   go_enter func131,ntmps131
   go_wp2
   go_ret
   exact ⟨rfl,rfl⟩
 ·have i:(a==1)=false:=Pq.2 ZO;have j:(a==2)=false:=Pq.2 ZO
  have k:(a==3)=false:=Pq.2 ZO;have l:(a==4)=false:=Pq.2 ZO;have m:(a==5)=false:=Pq.2 ZO;have n:(a==6)=false:=Pq.2 ZO;have o:(a==7)=false:=Pq.2 ZO;have p:(a==8)=false:=Pq.2 ZO;have q:(a==9)=false:=Pq.2 ZO;have b:(a==10)=false:=Pq.2 ZO;have c:(a==11)=false:=Pq.2 ZO;have d:(a==12)=false:=Pq.2 ZO;have f:Hid (tk a=-1):=by show _=_;unfold tk;rw [Qa ZO,Qa ZO,Qa ZO]
  clear h;go_enter func131,ntmps131;go_wp2;go_ret;exact ⟨by rw [f.o];rfl,rfl⟩
abbrev lX(f:OA)(e b:Nat)(c:OA)(d a:Nat):Value:=.agg #[SL f e b,SL c d a]
def dj(b a:Nat):Int:=if a=0 then 8 else if 65536<b+a then 11 else 0
def Ez(k b h j a g w)(n:b<=4611686018427387903)(o:a<=4611686018427387903):
 CL 24 #[lX k b h j a g] w λe m=>e=RT (IV (dj b a))/\BW w m:=by
 have d:Hid (∀W,W=w.alloc (CE #[SL k b h,SL j a g] 25)->BW w W):=by rintro W rfl;exact (Pn _ w).alloc (Pf _) _
 by_cases c:a=0
 ·subst c;go_enter func24,ntmps24
  go_wp2;go_ret;exact ⟨rfl,d.o _ rfl⟩
 ·have p:((a:Int)==0)=false:=Pq.2 ZO;have q:(a==0)=false:=Pq.2 c
  by_cases i:65536<b+a
  ·have l:(65536:Int)<b+(a:Int):=ZO;have f:Hid (dj b a=11):=by show _=_;unfold dj;rw [Qa c,PW i]
   go_enter func24,ntmps24;go_wp2;go_ret;exact ⟨by rw [f.o];rfl,d.o _ rfl⟩
  ·have l:¬(65536:Int)<b+(a:Int):=ZO;have r:b+a<=65536:=ZO
   have f:Hid (dj b a=0):=by show _=_;unfold dj;rw [Qa c,Qa i]
   go_enter func24,ntmps24;go_wp2;go_ret;exact ⟨by rw [f.o];rfl,d.o _ rfl⟩
def pj(k b h j a g w)(n:b<=4611686018427387903)(o:a<=4611686018427387903):
 CL 5 #[lX k b h j a g] w λe m=>e=RT (IV (dj b a))/\BW w m:=by
 have d:Hid (∀W,W=w.alloc (CE #[SL k b h,SL j a g] 25)->BW w W):=by rintro W rfl;exact (Pn _ w).alloc (Pf _) _
 by_cases c:a=0
 ·subst c;go_enter func5,ntmps5
  go_wp2;go_ret;exact ⟨rfl,d.o _ rfl⟩
 ·have p:((a:Int)==0)=false:=Pq.2 ZO;have q:(a==0)=false:=Pq.2 c
  by_cases i:65536<b+a
  ·have l:(65536:Int)<b+(a:Int):=ZO;have f:Hid (dj b a=11):=by show _=_;unfold dj;rw [Qa c,PW i]
   go_enter func5,ntmps5;go_wp2;go_ret;exact ⟨by rw [f.o];rfl,d.o _ rfl⟩
  ·have l:¬(65536:Int)<b+(a:Int):=ZO;have r:b+a<=65536:=ZO
   have f:Hid (dj b a=0):=by show _=_;unfold dj;rw [Qa c,Qa i]
   go_enter func5,ntmps5;go_wp2;go_ret;exact ⟨by rw [f.o];rfl,d.o _ rfl⟩
def KH(g b d f a c w)(j:b<=4611686018427387903)(k:a<=4611686018427387903):
 CL 48 #[lX g b d f a c] w λe i=>e=RT (IV ((b:Int)+(a:Int)))/\BW w i:=by
 have h:Hid (∀W,W=w.alloc (CE #[SL g b d,SL f a c] 25)->BW w W):=by rintro W rfl;exact (Pn _ w).alloc (Pf _) _
 go_enter func48,ntmps48
 go_wp2
 go_ret
 exact ⟨ZN,h.o _ rfl⟩
def CD(g b d f a c w)(j:b<=4611686018427387903)(k:a<=4611686018427387903):
 CL 28 #[lX g b d f a c] w λe i=>e=RT (IV ((b:Int)+(a:Int)))/\BW w i:=by
 have h:Hid (∀W,W=w.alloc (CE #[SL g b d,SL f a c] 25)->BW w W):=by rintro W rfl;exact (Pn _ w).alloc (Pf _) _
 go_enter func28,ntmps28
 go_wp2
 go_ret
 exact ⟨ZN,h.o _ rfl⟩
def gS(a b:List Int)(i:Nat):Int:=if i<a.length then a.getD i 0 else b.getD ((i-a.length)%b.length) 0
def L9(k a h p c l n m)(i:Nat)(w)(R:a<=1000000)(S:c<=1000000)(T:i<=1000000)(G:aG .u64 w k a n)(F:aG .u64 w p c m)(O:0<c):
 CL 50 #[lX k a h p c l,IV i] w λe P=>e=RT (UV (gS n m i))/\BW w P:=by
 have q:Hid (∀W,W=w.alloc (CE #[SL k a h,SL p c l] 25)->BW w W/\CA W w.heap.size 0 (SL k a h)/\CA W w.heap.size 1 (SL p c l)):=by rintro W rfl;exact ⟨(Pn _ w).alloc (Pf _) _,Py (w:=w) _ 25 w.heap.size 0 rfl,Py (w:=w) _ 25 w.heap.size 1 rfl⟩
 have r:=O8 G
 have C:=O8 F
 have U:((c:Int)==0)=false:=Pq.2 ZO
 have V:(c==0)=false:=Pq.2 ZO
 clear G F
 by_cases x:i<a
 have y:(i:Int)<a:=ZO
 have t:Hid (gS n m i=n.getD i 0):=by show _=_;unfold gS;rw [PW (ZR r.o.1 x)]
 go_enter func50,ntmps50
 go_upto_region 1 with(fail)
 have⟨d,u,D⟩:=q.o _ rfl
 have g:=O8 d
 obtain ⟨-,I|⟨b,f,rfl,o⟩⟩:=r.o.ag d
 omega
 have E:=o i x
 clear q d o
 generalize w.alloc (CE #[SL (some (AD b f)) a h,SL p c l] 25)=H at *
 generalize n.getD i 0=z at *
 go_wp2_with fail
 go_ret
 exact ⟨by rw [t.o];rfl,g.o⟩
 have y:¬(i:Int)<a:=ZO
 have K:a<=i:=ZO
 have⟨j,s⟩:=EX ((i-a)%c)
 have A:j<c:=by rw [<-s];exact S7 _ O
 have t:Hid (gS n m i=m.getD j 0):=by show _=_;unfold gS;rw [Qa (ZR r.o.1 x),r.o.1,C.o.1,s]
 have L:((i:Int)-(a:Int)).tmod (c:Int)=j:=by have e:(i:Int)-(a:Int)=((i-a:Nat):Int):=ZO;rw [e,<-s,Q5 ZO];exact (TY _ _).symm
 have J:(j:Int)<c:=ZO
 have v:(0:Int)<=i-(a:Int):=ZO
 have M:((i:Int)-(a:Int))%(c:Int)=j:=by rw [<-Q5 v];exact L
 have X:¬(c:Int)=0:=ZO
 have Y:¬c=0:=ZO
 have hw:IntKind.i64.wrap ((i:Int)-(a:Int))=(i:Int)-(a:Int):=Ql _ ZO
 have B:(((i-a:Nat):Int))%(c:Int)=j:=by rw [<-s];exact (TY _ _).symm
 have N:(((i-a:Nat):Int)).tmod (c:Int)=j:=by rw [Q5 ZO];exact B
 go_enter func50,ntmps50
 go_upto_region 1 with(fail)
 have⟨d,u,D⟩:=q.o _ rfl
 have g:=O8 d
 obtain ⟨-,I|⟨b,f,rfl,o⟩⟩:=C.o.ag d
 omega
 have E:=o j A
 clear q d o
 generalize w.alloc (CE #[SL k a h,SL (some (AD b f)) c l] 25)=H at *
 generalize m.getD j 0=z at *
 have Q:CA H.drew w.heap.size 0 (SL k a h):=u
 go_upto_region 7 with(fail)
 go_region_held3 (λW=>CA W w.heap.size 0 (SL k a h)/\CA W w.heap.size 1 (SL (some (AD b f)) c l)/\CA W b (f+j) (UV z))
  (exact ⟨u,D,E⟩)
  (fail)
 go_wp2_with fail
 go_ret
 exact ⟨by rw [t.o];rfl,g.o.drew⟩
def LL(k a h p c l n m)(i:Nat)(w)(R:a<=1000000)(S:c<=1000000)(T:i<=1000000)(G:aG .u64 w k a n)(F:aG .u64 w p c m)(O:0<c):
 CL 30 #[lX k a h p c l,IV i] w λe P=>e=RT (UV (gS n m i))/\BW w P:=by
 have q:Hid (∀W,W=w.alloc (CE #[SL k a h,SL p c l] 25)->BW w W/\CA W w.heap.size 0 (SL k a h)/\CA W w.heap.size 1 (SL p c l)):=by rintro W rfl;exact ⟨(Pn _ w).alloc (Pf _) _,Py (w:=w) _ 25 w.heap.size 0 rfl,Py (w:=w) _ 25 w.heap.size 1 rfl⟩
 have r:=O8 G
 have C:=O8 F
 have U:((c:Int)==0)=false:=Pq.2 ZO
 have V:(c==0)=false:=Pq.2 ZO
 clear G F
 by_cases x:i<a
 have y:(i:Int)<a:=ZO
 have t:Hid (gS n m i=n.getD i 0):=by show _=_;unfold gS;rw [PW (ZR r.o.1 x)]
 go_enter func30,ntmps30
 go_upto_region 1 with(fail)
 have⟨d,u,D⟩:=q.o _ rfl
 have g:=O8 d
 obtain ⟨-,I|⟨b,f,rfl,o⟩⟩:=r.o.ag d
 omega
 have E:=o i x
 clear q d o
 generalize w.alloc (CE #[SL (some (AD b f)) a h,SL p c l] 25)=H at *
 generalize n.getD i 0=z at *
 go_wp2_with fail
 go_ret
 exact ⟨by rw [t.o];rfl,g.o⟩
 have y:¬(i:Int)<a:=ZO
 have K:a<=i:=ZO
 have⟨j,s⟩:=EX ((i-a)%c)
 have A:j<c:=by rw [<-s];exact S7 _ O
 have t:Hid (gS n m i=m.getD j 0):=by show _=_;unfold gS;rw [Qa (ZR r.o.1 x),r.o.1,C.o.1,s]
 have L:((i:Int)-(a:Int)).tmod (c:Int)=j:=by have e:(i:Int)-(a:Int)=((i-a:Nat):Int):=ZO;rw [e,<-s,Q5 ZO];exact (TY _ _).symm
 have J:(j:Int)<c:=ZO
 have v:(0:Int)<=i-(a:Int):=ZO
 have M:((i:Int)-(a:Int))%(c:Int)=j:=by rw [<-Q5 v];exact L
 have X:¬(c:Int)=0:=ZO
 have Y:¬c=0:=ZO
 have hw:IntKind.i64.wrap ((i:Int)-(a:Int))=(i:Int)-(a:Int):=Ql _ ZO
 have B:(((i-a:Nat):Int))%(c:Int)=j:=by rw [<-s];exact (TY _ _).symm
 have N:(((i-a:Nat):Int)).tmod (c:Int)=j:=by rw [Q5 ZO];exact B
 go_enter func30,ntmps30
 go_upto_region 1 with(fail)
 have⟨d,u,D⟩:=q.o _ rfl
 have g:=O8 d
 obtain ⟨-,I|⟨b,f,rfl,o⟩⟩:=C.o.ag d
 omega
 have E:=o j A
 clear q d o
 generalize w.alloc (CE #[SL k a h,SL (some (AD b f)) c l] 25)=H at *
 generalize m.getD j 0=z at *
 have Q:CA H.drew w.heap.size 0 (SL k a h):=u
 go_upto_region 7 with(fail)
 go_region_held3 (λW=>CA W w.heap.size 0 (SL k a h)/\CA W w.heap.size 1 (SL (some (AD b f)) c l)/\CA W b (f+j) (UV z))
  (exact ⟨u,D,E⟩)
  (fail)
 go_wp2_with fail
 go_ret
 exact ⟨by rw [t.o];rfl,g.o.drew⟩
end Go.Proofs.YtimniinkpipnmaaGreatDoor
namespace Go.Own
open Go.RowKit
def Pp:=@List.getElem?_append_left
def PD:=@List.getElem?_append_right
def Qr:=@Bool.false_eq_true
def QB:=@Classical.byContradiction
def Rt:=@Nat.le_refl
def RF:=@Nat.lt_trichotomy
def RG:=@Nat.sub_self
def RI:=@if_false
def RN:=@trivial
def R0:=@if_true
def S9:=@Bool.not_false
def Tv:=@Bool.not_true
inductive Fm where
 |tt|ff
 |prop (n:Nat)
 |neg (a:Fm)
 |and (a b:Fm)
 |or (a b:Fm)
 |imp (a b:Fm)
 |cy (a:Fm)
 |dA (a b:Fm)
 |rel (a b:Fm)
 |fin (a:Fm)
 |ec (a:Fm)
namespace Fm
def aH:Fm->Int×Int
 |tt=>(1,0)
 |ff=>(2,0)
 |prop n=>(3,n)
 |neg _=>(4,0)
 |and _ _=>(5,0)
 |or _ _=>(6,0)
 |imp _ _=>(7,0)
 |cy _=>(8,0)
 |dA _ _=>(9,0)
 |rel _ _=>(10,0)
 |fin _=>(11,0)
 |ec _=>(12,0)
def aI:Fm->List Fm
 |tt=>[tt]
 |ff=>[ff]
 |prop n=>[prop n]
 |neg a=>aI a++[neg a]
 |and a b=>aI a++(aI b++[and a b])
 |or a b=>aI a++(aI b++[or a b])
 |imp a b=>aI a++(aI b++[imp a b])
 |cy a=>aI a++[cy a]
 |dA a b=>aI a++(aI b++[dA a b])
 |rel a b=>aI a++(aI b++[rel a b])
 |fin a=>aI a++[fin a]
 |ec a=>aI a++[ec a]
def enc(f:Fm):List (Int×Int):=(aI f).map aH
def size(f:Fm):Nat:=(aI f).length
inductive One (a:Fm):Fm->Prop
 |neg:One a (neg a)|cy:One a (cy a)|fin:One a (fin a)|ec:One a (ec a)
inductive gj (a b:Fm):Fm->Prop
 |and:gj a b (and a b)|or:gj a b (or a b)|imp:gj a b (imp a b)|dA:gj a b (dA a b)|rel:gj a b (rel a b)
inductive mQ:Fm->Prop
 |tt:mQ tt|ff:mQ ff|prop (n:Nat):mQ (prop n)
theorem yM(f):mQ f\/(∃a,One a f)\/∃a b,gj a b f:=by cases f<;>first|exact .inl (by constructor)|exact .inr (.inl ⟨_,by constructor⟩)|exact .inr (.inr ⟨_,_,by constructor⟩)
theorem One.aI{a f}(h:One a f):aI f=aI a++[f]:=by cases h<;>rfl
theorem gj.aI{a b f}(h:gj a b f):aI f=aI a++(aI b++[f]):=by cases h<;>rfl
theorem mQ.aI{f}(h:mQ f):aI f=[f]:=by cases h<;>rfl
theorem One.size{a f}(h:One a f):size f=size a+1:=by unfold Fm.size;rw [h.aI];simp
theorem gj.size{a b f}(h:gj a b f):size f=size a+size b+1:=by unfold Fm.size;rw [h.aI];simp;omega
theorem mQ.size{f}(h:mQ f):size f=1:=by unfold Fm.size;rw [h.aI];rfl
theorem br(f):0<size f:=by rcases yM f with h|⟨a,h⟩|⟨a,b,h⟩;rw [h.size];omega;rw [h.size];omega;rw [h.size];omega
theorem cP(f):(aI f)[size f-1]? =some f:=by
 have c:=br f;rcases yM f with h|⟨a,h⟩|⟨a,b,h⟩;rw [h.size,h.aI];rfl;rw [h.size,h.aI,PD (by unfold Fm.size;omega)];have:size a+1-1-(Fm.aI a).length=0:=by unfold Fm.size;omega
 rw [this];rfl;rw [h.size,h.aI,PD (by unfold Fm.size;omega),PD (by unfold Fm.size;omega)];have:size a+size b+1-1-(Fm.aI a).length-(Fm.aI b).length=0:=by unfold Fm.size;omega
 rw [this];rfl
theorem fY{a x}(o:One a x):∀f p,(aI f)[p]? =some x->1<=p/\(aI f)[p-1]? =some a:=by
 intro f;induction f with
 |tt|ff|prop n=>intro p h;rcases p with _|p;simp [aI]at h;subst h;cases o;simp [aI]at h
 |neg b j|cy b j|fin b j|ec b j=>
  intro p h;unfold aI at h⊢;rcases RF p (aI b).length with l|k|r;rw [Pp l]at h;obtain ⟨i,g⟩:=j p h;exact ⟨i,by rw [Pp (by omega)];exact g⟩;subst k;rw [PD (Rt _),RG]at h;simp at h;subst h;have q:=br b;unfold size at q;cases o
  refine ⟨q,?_⟩;rw [Pp (by omega)];exact cP _;rw [PD (by omega)]at h;have:p-(aI b).length=(p-(aI b).length-1)+1:=by omega
  rw [this]at h;simp at h
 |and b c d e|or b c d e|imp b c d e|dA b c d e|rel b c d e=>
  intro p h;unfold aI at h⊢;by_cases l:p<(aI b).length;rw [Pp l]at h;obtain ⟨i,g⟩:=d p h;exact ⟨i,by rw [Pp (by omega)];exact g⟩;rw [PD (by omega)]at h;rcases RF (p-(aI b).length) (aI c).length with m|k|r;rw [Pp m]at h;obtain ⟨i,g⟩:=e _ h;refine ⟨by omega,?_⟩;rw [PD (by omega),Pp (by omega)];have:p-1-(aI b).length=p-(aI b).length-1:=by omega
  rw [this];exact g;rw [k,PD (Rt _),RG]at h;simp at h;subst h;cases o
  rw [PD (by omega)]at h;have:p-(aI b).length-(aI c).length=(p-(aI b).length-(aI c).length-1)+1:=by omega
  rw [this]at h;simp at h
theorem dR{a b x}(r:gj a b x):∀f p,(aI f)[p]? =some x->1+size b<=p/\(aI f)[p-1]? =some b/\(aI f)[p-1-size b]? =some a:=by
 intro f;induction f with
 |tt|ff|prop n=>intro p h;rcases p with _|p;simp [aI]at h;subst h;cases r;simp [aI]at h
 |neg c l|cy c l|fin c l|ec c l=>
  intro p h;unfold aI at h⊢;rcases RF p (aI c).length with o|m|u;rw [Pp o]at h;obtain ⟨k,i,j⟩:=l p h;exact ⟨k,by rw [Pp (by omega)];exact i,by rw [Pp (by omega)];exact j⟩;subst m;rw [PD (Rt _),RG]at h;simp at h;subst h;cases r
  rw [PD (by omega)]at h;have:p-(aI c).length=(p-(aI c).length-1)+1:=by omega
  rw [this]at h;simp at h
 |and c d e g|or c d e g|imp c d e g|dA c d e g|rel c d e g=>
  intro p h;unfold aI at h⊢;by_cases o:p<(aI c).length;rw [Pp o]at h;obtain ⟨k,i,j⟩:=e p h;exact ⟨k,by rw [Pp (by omega)];exact i,by rw [Pp (by omega)];exact j⟩;rw [PD (by omega)]at h;rcases RF (p-(aI c).length) (aI d).length with q|m|u;rw [Pp q]at h;obtain ⟨k,i,j⟩:=g _ h;refine ⟨by omega,?_,?_⟩;rw [PD (by omega),Pp (by omega)];have:p-1-(aI c).length=p-(aI c).length-1:=by omega
  rw [this];exact i;rw [PD (by omega),Pp (by omega)];have:p-1-size b-(aI c).length=p-(aI c).length-1-size b:=by omega
  rw [this];exact j;rw [m,PD (Rt _),RG]at h;simp at h;subst h;cases r
  have v:=br a;have w:=br b;have s:(aI a).length=size a:=rfl;have t:(aI b).length=size b:=rfl;refine ⟨by omega,?_,?_⟩;rw [PD (by omega),Pp (by omega)];have:p-1-(aI a).length=size b-1:=by omega
  rw [this];exact cP b;rw [Pp (by omega)];have:p-1-size b=size a-1:=by omega
  rw [this];exact cP a;rw [PD (by omega)]at h;have:p-(aI c).length-(aI d).length=(p-(aI c).length-(aI d).length-1)+1:=by omega
  rw [this]at h;simp at h
def cR(u:Nat->Nat):Fm->Nat->Prop
 |tt,_=>True
 |ff,_=>False
 |prop n,i=>(u i).testBit n=true
 |neg a,i=>¬cR u a i
 |and a b,i=>cR u a i/\cR u b i
 |or a b,i=>cR u a i\/cR u b i
 |imp a b,i=>cR u a i->cR u b i
 |cy a,i=>cR u a (i+1)
 |dA a b,i=>∃k,cR u b (i+k)/\∀j,j<k->cR u a (i+j)
 |rel a b,i=>∀k,(∀j,j<k->¬cR u a (i+j))->cR u b (i+k)
 |fin a,i=>∃k,cR u a (i+k)
 |ec a,i=>∀k,cR u a (i+k)
def eF:Bool->Fm->Fm
 |s,tt=>if s then ff else tt
 |s,ff=>if s then tt else ff
 |s,prop n=>if s then neg (prop n)else prop n
 |s,neg a=>eF (!s) a
 |s,and a b=>if s then or (eF s a) (eF s b)else and (eF s a) (eF s b)
 |s,or a b=>if s then and (eF s a) (eF s b)else or (eF s a) (eF s b)
 |s,imp a b=>if s then and (eF (!s) a) (eF s b)else or (eF (!s) a) (eF s b)
 |s,cy a=>cy (eF s a)
 |s,dA a b=>if s then rel (eF s a) (eF s b)else dA (eF s a) (eF s b)
 |s,rel a b=>if s then dA (eF s a) (eF s b)else rel (eF s a) (eF s b)
 |s,fin a=>if s then rel ff (eF s a)else dA tt (eF s a)
 |s,ec a=>if s then dA tt (eF s a)else rel ff (eF s a)
theorem LA(u f):∀i,(cR u (eF false f) i↔cR u f i)/\(cR u (eF true f) i↔¬cR u f i):=by
 induction f with
 |tt=>intro i;simp [eF,cR]
 |ff=>intro i;simp [eF,cR]
 |prop n=>intro i;simp [eF,cR]
 |neg a l=>intro i;simp [eF,cR,(l i).1,(l i).2]
 |and a b c d=>intro i;simp only [eF,cR,Qr,RI,R0,(c i).1,(d i).1,(c i).2,(d i).2,true_and];by_cases e:cR u a i<;>by_cases g:cR u b i<;>simp [e,g]
 |or a b c d=>intro i;simp only [eF,cR,Qr,RI,R0,(c i).1,(d i).1,(c i).2,(d i).2,true_and];by_cases e:cR u a i<;>by_cases g:cR u b i<;>simp [e,g]
 |imp a b c d=>intro i;simp only [eF,cR,S9,Tv,Qr,RI,R0,(c i).1,(d i).1,(c i).2,(d i).2];by_cases e:cR u a i<;>by_cases g:cR u b i<;>simp [e,g]
 |cy a l=>intro i;exact ⟨(l (i+1)).1,(l (i+1)).2⟩
 |dA a b c d=>intro i;simp only [eF,cR,Qr,RI,R0];refine ⟨?_,?_⟩;simp only [(λj=>(c j).1),(λj=>(d j).1)];simp only [(λj=>(c j).2),(λj=>(d j).2),Classical.not_not];exact ⟨λh ⟨k,e,g⟩=>h k g e,λh k g e=>h ⟨k,e,g⟩⟩
 |rel a b c d=>intro i;simp only [eF,cR,Qr,RI,R0];refine ⟨?_,?_⟩;simp only [(λj=>(c j).1),(λj=>(d j).1)];simp only [(λj=>(c j).2),(λj=>(d j).2)];constructor;rintro ⟨k,e,g⟩ h;exact e (h k g);intro h;refine QB λm=>h λk g=>QB λe=>m ⟨k,e,g⟩
 |fin a l=>intro i;simp only [eF,cR,Qr,RI,R0];refine ⟨?_,?_⟩;simp only [(λj=>(l j).1)];exact ⟨λ⟨k,h,_⟩=>⟨k,h⟩,λ⟨k,h⟩=>⟨k,h,λ_ _=>RN⟩⟩;simp only [(λj=>(l j).2)];exact ⟨λh ⟨k,e⟩=>h k (λ_ _ h=>h) e,λh k _ e=>h ⟨k,e⟩⟩
 |ec a l=>intro i;simp only [eF,cR,Qr,RI,R0];refine ⟨?_,?_⟩;simp only [(λj=>(l j).1)];exact ⟨λh k=>h k (λ_ _ h=>h),λh k _=>h k⟩;simp only [(λj=>(l j).2)];constructor;rintro ⟨k,e,_⟩ h;exact e (h k);intro h;refine QB λm=>h λk=>QB λe=>m ⟨k,e,λ_ _=>RN⟩
def gR:Fm->Prop
 |tt=>True
 |ff=>True
 |prop _=>True
 |neg (prop _)=>True
 |neg _=>False
 |and a b=>gR a/\gR b
 |or a b=>gR a/\gR b
 |imp _ _=>False
 |cy a=>gR a
 |dA a b=>gR a/\gR b
 |rel a b=>gR a/\gR b
 |fin _=>False
 |ec _=>False
theorem Ly(f):∀s,gR (eF s f):=by
 induction f with
 |tt|ff|prop n=>intro s;cases s<;>simp [eF,gR]
 |neg a e=>intro s;exact e _
 |and a b c d|or a b c d|imp a b c d|dA a b c d|rel a b c d=>intro s;cases s<;>exact ⟨c _,d _⟩
 |cy a e=>intro s;exact e s
 |fin a e|ec a e=>intro s;cases s<;>exact ⟨RN,e _⟩
theorem vJ:size tt=1:=rfl
theorem vI:size ff=1:=rfl
theorem lT(n):size (prop n)=1:=rfl
theorem iB(a):size (neg a)=size a+1:=One.neg.size
theorem fp(a):size (cy a)=size a+1:=One.cy.size
theorem nL(a):size (fin a)=size a+1:=One.fin.size
theorem lS(a):size (ec a)=size a+1:=One.ec.size
theorem ki(a b):size (and a b)=size a+size b+1:=gj.and.size
theorem mC(a b):size (or a b)=size a+size b+1:=gj.or.size
theorem qo(a b):size (imp a b)=size a+size b+1:=gj.imp.size
theorem km(a b):size (dA a b)=size a+size b+1:=gj.dA.size
theorem kj(a b):size (rel a b)=size a+size b+1:=gj.rel.size
theorem nI(f):∀s,size (eF s f)<=2*size f:=by
 induction f with
 |tt|ff|prop n=>intro s;cases s<;>simp [eF,vJ,vI,lT,iB]
 |neg a e=>intro s;have:=e (!s);rw [iB];show size (eF (!s) a)<=_;omega
 |cy a e=>intro s;have:=e s;rw [fp];show size (cy (eF s a))<=_;rw [fp];omega
 |and a b c d|or a b c d|imp a b c d|dA a b c d|rel a b c d=>intro s;have g:=c s;have h:=d s;have i:=c (!s);cases s<;>simp only [eF,Qr,RI,R0,S9,Tv,ki,mC,qo,km,kj]at *<;>omega
 |fin a e|ec a e=>intro s;have g:=e s;cases s<;>simp only [eF,Qr,RI,R0,km,kj,nL,lS,vJ,vI]at *<;>omega
end Fm
def Qe:=@List.append_assoc
def Qw:=@decide_eq_true_iff
def QH:=@Nat.add_assoc
def QP:=@Bool.or_eq_true
def RD:=@Bool.not_eq_true'
def RE:=@Iff.rfl
def RO:=@Bool.and_eq_true
def T8:=@not_congr
def U5:=@and_congr
namespace Fm
def step:Int×Int->List Fm->Option (List Fm)
 |(1,_),c=>some (tt::c)
 |(2,_),c=>some (ff::c)
 |(3,n),c=>some (prop n.toNat::c)
 |(4,_),a::c=>some (neg a::c)
 |(5,_),b::a::c=>some (and a b::c)
 |(6,_),b::a::c=>some (or a b::c)
 |(7,_),b::a::c=>some (imp a b::c)
 |(8,_),a::c=>some (cy a::c)
 |(9,_),b::a::c=>some (dA a b::c)
 |(10,_),b::a::c=>some (rel a b::c)
 |(11,_),a::c=>some (fin a::c)
 |(12,_),a::c=>some (ec a::c)
 |_,_=>none
def run:List (Int×Int)->List Fm->Option (List Fm)
 |[],a=>some a
 |x::l,a=>(step x a).bind (run l)
theorem nY{a f}(h:One a f):enc f=enc a++[aH f]:=by unfold enc;rw [h.aI];simp
theorem gH{a b f}(h:gj a b f):enc f=enc a++(enc b++[aH f]):=by unfold enc;rw [h.aI];simp
theorem BS{f}(h:mQ f):enc f=[aH f]:=by unfold enc;rw [h.aI];rfl
theorem dt(f):(enc f).length=size f:=by simp [enc,size]
theorem om(f):∀r e,run (enc f++r) e=run r (f::e):=by
 induction f with
 |tt|ff=>intro r e;rfl
 |prop n=>intro r e;simp [enc,aI,aH,run,step]
 |neg a g|cy a g|fin a g|ec a g=>intro r e;rw [nY (by constructor),Qe,g];rfl
 |and a b c d|or a b c d|imp a b c d|dA a b c d|rel a b c d=>intro r e;rw [gH (by constructor),Qe,Qe,c,d];rfl
theorem AI{a b}(h:enc a=enc b):a=b:=by have c:=om a [] [];have d:=om b [] [];rw [h,d]at c;simpa [run]using c.symm
def same(a b:Fm):Bool:=decide (enc a=enc b)
theorem jn{a b}:same a b=true↔a=b:=by unfold same;rw [Qw];exact ⟨AI,λh=>by rw [h]⟩
def jD:Fm->Bool|tt=>true|_=>false
def jC:Fm->Bool|ff=>true|_=>false
theorem nF{f}:jD f=true↔f=tt:=by cases f<;>simp [jD]
theorem nD{f}:jC f=true↔f=ff:=by cases f<;>simp [jC]
def mk(c:Bool)(a b:Fm):Fm:=if c then and a b else or a b
def no(c:Bool):Fm:=if c then ff else tt
def MX(c:Bool)(f:Fm):Bool:=if c then jC f else jD f
def Fe(c:Bool)(f:Fm):Bool:=if c then jD f else jC f
def has(c:Bool)(f g:Fm):Bool:=
 match f with
 |and x y=>c&&(same x g||same y g)
 |or x y=>!c&&(same x g||same y g)
 |_=>false
def zE:Fm->Option (Nat×Bool)
 |prop n=>some (n,false)
 |neg (prop n)=>some (n,true)
 |_=>none
def kf(a b:Fm):Bool:=
 match zE a,zE b with
 |some (n,x),some (k,y)=>n==k&&x !=y
 |_,_=>false
def mK(c:Bool)(a b:Fm):Fm:=
 match a,b with
 |cy x,cy y=>cy (mk c x y)
 |_,_=>mk c a b
def gq(c:Bool)(a b:Fm):Fm:=
 if MX c a||MX c b then no c
 else if Fe c a then b
 else if Fe c b||same a b then a
 else if kf a b then no c
 else if has (!c) b a then a
 else if has (!c) a b then b
 else mK c a b
def KO(r:Bool)(a b:Fm):Fm:=if r then rel a b else dA a b
def Gj(r:Bool)(a:Fm):Bool:=if r then jD a else jC a
def again(r:Bool)(a b:Fm):Bool:=
 match b with
 |dA x _=>!r&&same x a
 |rel x _=>r&&same x a
 |_=>false
def eL(r:Bool)(a b:Fm):Fm:=
 if jD b||jC b||Gj r a||same a b then b
 else if again r a b then b
 else KO r a b
def j9(a:Fm):Fm:=if jD a||jC a then a else cy a
def bN:Fm->Fm
 |neg a=>neg (bN a)
 |cy a=>j9 (bN a)
 |and a b=>gq true (bN a) (bN b)
 |or a b=>gq false (bN a) (bN b)
 |dA a b=>eL false (bN a) (bN b)
 |rel a b=>eL true (bN a) (bN b)
 |f=>f
theorem Fh{u i f n x}(h:zE f=some (n,x)):cR u f i↔((u i).testBit n=!x):=by unfold zE at h;split at h;simp at h;obtain ⟨rfl,rfl⟩:=h;simp [cR];simp at h;obtain ⟨rfl,rfl⟩:=h;simp [cR];cases h
theorem G5{u i a b}(h:kf a b=true):cR u a i↔¬cR u b i:=by
 unfold kf at h;split at h;rename_i n x k y d e;simp at h;obtain ⟨rfl,c⟩:=h;rw [Fh d,Fh e];cases x<;>cases y<;>simp at c⊢
 cases h
theorem E3{u i c f g}(h:has c f g=true):if c then(cR u f i->cR u g i)else(cR u g i->cR u f i):=by unfold has at h;split at h;rename_i x y;simp only [RO,QP]at h;obtain ⟨rfl,a|a⟩:=h;rw [jn]at a;subst a;exact λh=>h.1;rw [jn]at a;subst a;exact λh=>h.2;rename_i x y;simp only [RO,QP,RD]at h;obtain ⟨rfl,a|a⟩:=h;rw [jn]at a;subst a;exact λh=>.inl h;rw [jn]at a;subst a;exact λh=>.inr h;cases h
theorem Gf{u i}(c a b):cR u (mK c a b) i↔cR u (mk c a b) i:=by
 unfold mK;split;cases c<;>exact RE
 exact RE
theorem zl{u i}(c a b):cR u (gq c a b) i↔cR u (mk c a b) i:=by
 unfold gq;split;rename_i h;rw [QP]at h;cases c<;>simp only [MX,no,mk,Qr,RI,R0,nD,nF]at *<;>rcases h with rfl|rfl<;>simp [cR]
 split;rename_i h;cases c<;>simp only [Fe,mk,Qr,RI,R0,nD,nF]at *<;>subst h<;>simp [cR]
 split;rename_i h;rw [QP]at h;rcases h with h|h;cases c<;>simp only [Fe,mk,Qr,RI,R0,nD,nF]at *<;>subst h<;>simp [cR]
 rw [jn]at h;subst h;cases c<;>simp [mk,cR]
 split;rename_i h;have:=G5 (u:=u) (i:=i) h;cases c<;>simp only [no,mk,Qr,RI,R0,cR]<;>by_cases d:cR u b i<;>simp [this,d]
 split;rename_i h;have:=E3 (u:=u) (i:=i) h;cases c<;>simp only [mk,S9,Tv,Qr,RI,R0,cR]at *<;>by_cases e:cR u a i<;>by_cases d:cR u b i<;>simp_all
 split;rename_i h;have:=E3 (u:=u) (i:=i) h;cases c<;>simp only [mk,S9,Tv,Qr,RI,R0,cR]at *<;>by_cases e:cR u a i<;>by_cases d:cR u b i<;>simp_all
 exact Gf c a b
theorem zC{u}(r a b):∀i,cR u (eL r a b) i↔cR u (KO r a b) i:=by
 intro i;unfold eL;split;rename_i h;simp only [QP]at h;cases r<;>simp only [Gj,KO,Qr,RI,R0,nD,nF,jn]at *<;>rcases h with((rfl|rfl)|rfl)|rfl
 exact ⟨λ_=>⟨0,RN,λj c=>by omega⟩,λ_=>RN⟩;exact ⟨λh=>h.elim,λ⟨_,h,_⟩=>h.elim⟩;refine ⟨λh=>⟨0,h,λj c=>by omega⟩,λ⟨k,h,g⟩=>?_⟩;rcases k with _|k;exact h;exact (g 0 (by omega)).elim;refine ⟨λh=>⟨0,h,λj c=>by omega⟩,λ⟨k,h,g⟩=>?_⟩;rcases k with _|k;exact h;exact g 0 (by omega);exact ⟨λ_ _ _=>RN,λ_=>RN⟩;exact ⟨λh=>h.elim,λh=>h 0 (λj c=>by omega)⟩;refine ⟨λh k f=>?_,λh=>h 0 (λj c=>by omega)⟩;rcases k with _|k;exact h;exact (f 0 (by omega) RN).elim;refine ⟨λh k f=>?_,λh=>h 0 (λj c=>by omega)⟩;rcases k with _|k;exact h;exact (f 0 (by omega) h).elim;split;rename_i h;unfold again at h;split at h;rename_i x y;simp only [RO,RD,jn]at h;obtain ⟨rfl,rfl⟩:=h;simp only [KO,Qr,RI];refine ⟨λh=>⟨0,h,λj c=>by omega⟩,λ⟨k,⟨m,l,g⟩,n⟩=>⟨k+m,by rw [<-QH];exact l,λj c=>?_⟩⟩;by_cases d:j<k;exact n j d;have:=g (j-k) (by omega);have e:i+k+(j-k)=i+j:=by omega
 rwa [e]at this;rename_i x y;simp only [RO,jn]at h;obtain ⟨rfl,rfl⟩:=h;simp only [KO,R0];refine ⟨λh k f m o=>?_,λh k f=>?_⟩;have:=h (k+m) (λj c=>by
  by_cases d:j<k;exact f j d;have:=o (j-k) (by omega);have e:i+k+(j-k)=i+j:=by omega
  rwa [e]at this)
 rwa [<-QH]at this;exact h k f 0 (λj c=>by omega);cases h
 exact RE
theorem G2{u}(a i):cR u (j9 a) i↔cR u (cy a) i:=by unfold j9;split;rename_i h;rw [QP,nF,nD]at h;rcases h with rfl|rfl<;>exact RE;exact RE
theorem JM(u f):∀i,cR u (bN f) i↔cR u f i:=by
 induction f with
 |tt|ff|prop n=>intro i;exact RE
 |imp a b|fin a|ec a=>intro i;exact RE
 |neg a e=>intro i;exact T8 (e i)
 |cy a e=>intro i;exact (G2 _ i).trans (e (i+1))
 |and a b c d=>intro i;exact (zl true _ _).trans (U5 (c i) (d i))
 |or a b c d=>intro i;exact (zl false _ _).trans (or_congr (c i) (d i))
 |dA a b c d=>intro i;refine (zC false _ _ i).trans ?_;simp only [KO,Qr,RI,cR,(λj=>c j),(λj=>d j)]
 |rel a b c d=>intro i;refine (zC true _ _ i).trans ?_;simp only [KO,R0,cR,(λj=>c j),(λj=>d j)]
theorem Ge{c a b}(f:gR a)(g:gR b):gR (gq c a b):=by
 have e:gR (no c):=by cases c<;>trivial
 have d:∀x y,gR x->gR y->gR (mk c x y):=λx y h i=>by cases c<;>exact ⟨h,i⟩
 unfold gq;split;exact e;split;exact g;split;exact f;split;exact e;split;exact f;split;exact g;unfold mK;split;exact d _ _ f g;exact d _ _ f g
theorem GG{r a b}(d:gR a)(c:gR b):gR (eL r a b):=by unfold eL;split;exact c;split;exact c;cases r<;>exact ⟨d,c⟩
theorem JL(f)(h:gR f):gR (bN f):=by
 induction f with
 |tt|ff|prop n=>trivial
 |imp a b|fin a|ec a=>exact h.elim
 |neg a e=>
  cases a with
  |prop n=>trivial
  |_=>exact h.elim
 |cy a e=>show gR (j9 (bN a));unfold j9;split;exact e h;exact e h
 |and a b c d|or a b c d=>exact Ge (c h.1) (d h.2)
 |dA a b c d|rel a b c d=>exact GG (c h.1) (d h.2)
theorem AZ(c a b):size (mk c a b)=size a+size b+1:=by cases c<;>first|exact mC a b|exact ki a b
theorem Cj(c a b):size (KO c a b)=size a+size b+1:=by cases c<;>first|exact km a b|exact kj a b
theorem Fp(c):size (no c)=1:=by cases c<;>rfl
theorem wI(c a b):gq c a b=mk c a b\/size (gq c a b)<size a+size b+1:=by have d:=br a;have e:=br b;unfold gq;split;right;rw [Fp];omega;split;right;omega;split;right;omega;split;right;rw [Fp];omega;split;right;omega;split;right;omega;unfold mK;split;right;rw [fp,AZ,fp,fp];omega;left;rfl
theorem xp(r a b):eL r a b=KO r a b\/size (eL r a b)<size a+size b+1:=by unfold eL;split;right;omega;split;right;omega;left;rfl
theorem oe(f):size (bN f)<=size f/\(size (bN f)=size f->bN f=f):=by
 induction f with
 |tt|ff|prop n|imp a b|fin a|ec a=>exact ⟨Rt _,λ_=>rfl⟩
 |neg a e=>show size (neg (bN a))<=_/\(size (neg (bN a))=_->neg (bN a)=_);rw [iB,iB];exact ⟨by omega,λh=>by rw [e.2 (by omega)]⟩
 |cy a e=>show size (j9 (bN a))<=_/\(size (j9 (bN a))=_->j9 (bN a)=_);rw [fp];unfold j9;split;exact ⟨by omega,λh=>by omega⟩;rw [fp];exact ⟨by omega,λh=>by rw [e.2 (by omega)]⟩
 |and a b c d=>show size (gq true (bN a) (bN b))<=_/\(size (gq true (bN a) (bN b))=_->gq true (bN a) (bN b)=_);rw [ki];rcases wI true (bN a) (bN b)with h|h;rw [h,AZ];exact ⟨by omega,λh=>by rw [c.2 (by omega),d.2 (by omega)];rfl⟩;exact ⟨by omega,λh=>by omega⟩
 |or a b c d=>show size (gq false (bN a) (bN b))<=_/\(size (gq false (bN a) (bN b))=_->gq false (bN a) (bN b)=_);rw [mC];rcases wI false (bN a) (bN b)with h|h;rw [h,AZ];exact ⟨by omega,λh=>by rw [c.2 (by omega),d.2 (by omega)];rfl⟩;exact ⟨by omega,λh=>by omega⟩
 |dA a b c d=>show size (eL false (bN a) (bN b))<=_/\(size (eL false (bN a) (bN b))=_->eL false (bN a) (bN b)=_);rw [km];rcases xp false (bN a) (bN b)with h|h;rw [h,Cj];exact ⟨by omega,λh=>by rw [c.2 (by omega),d.2 (by omega)];rfl⟩;exact ⟨by omega,λh=>by omega⟩
 |rel a b c d=>show size (eL true (bN a) (bN b))<=_/\(size (eL true (bN a) (bN b))=_->eL true (bN a) (bN b)=_);rw [kj];rcases xp true (bN a) (bN b)with h|h;rw [h,Cj];exact ⟨by omega,λh=>by rw [c.2 (by omega),d.2 (by omega)];rfl⟩;exact ⟨by omega,λh=>by omega⟩
end Fm
def QN:=@if_neg
def QZ:=@if_pos
def Rz:=@Ne.symm
def Sf:=@Nat.le_refl
def Tx:=@Bool.or_eq_true
def TW:=@Bool.and_eq_true
def Uh:=@Nat.le_antisymm
def gn(E:List (List Int))(x y:Nat):Prop:=x<E.length/\y<E.length/\(y:Int)∈E.getD x []
def zV(E:List (List Int)):Nat->Nat->Nat->Prop
 |0,x,y=>x=y
 |k+1,x,y=>∃z,gn E x z/\zV E k z y
def aZ(E:List (List Int))(x y:Nat):Prop:=∃k,zV E k x y
theorem aZ.refl(E x):aZ E x x:=⟨0,rfl⟩
theorem aZ.Gw{E x y z}(h:gn E x y)(k:aZ E y z):aZ E x z:=by obtain ⟨m,k⟩:=k;exact ⟨m+1,y,h,k⟩
theorem aZ.qM{E x y}(h:gn E x y):aZ E x y:=aZ.Gw h (aZ.refl E y)
theorem sj{E y z}(k:aZ E y z):∀m x,zV E m x y->aZ E x z
 |0,x,h=>by cases h;exact k
 |m+1,x,⟨u,a,b⟩=>aZ.Gw a (sj k m u b)
theorem aZ.trans{E x y z}(h:aZ E x y)(k:aZ E y z):aZ E x z:=by obtain ⟨m,h⟩:=h;exact sj k m x h
theorem qq{E}{S:Nat->Prop}(b:∀x y,S x->gn E x y->S y):∀m x y,zV E m x y->S x->S y
 |0,x,y,h,a=>by cases h;exact a
 |m+1,x,y,⟨z,c,d⟩,a=>qq b m z y d (b x z a c)
theorem aZ.closed{E}{S:Nat->Prop}(a:∀x y,S x->gn E x y->S y){x y}(h:aZ E x y)(b:S x):S y:=by obtain ⟨m,h⟩:=h;exact qq a m x y h b
theorem aZ.lt{E x y}(h:aZ E x y)(a:x<E.length):y<E.length:=
 h.closed (S:=λv=>v<E.length) (λ_ _ _ h=>h.2.1) a
def Scc(E:List (List Int))(x y:Nat):Prop:=aZ E x y/\aZ E y x
def oF(E:List (List Int))(v m:Nat):Prop:=Scc E v m/\∀u,Scc E v u->m<=u
theorem Scc.refl(E x):Scc E x x:=⟨aZ.refl E x,aZ.refl E x⟩
theorem Scc.symm{E x y}(h:Scc E x y):Scc E y x:=⟨h.2,h.1⟩
theorem Scc.trans{E x y z}(h:Scc E x y)(k:Scc E y z):Scc E x z:=⟨h.1.trans k.1,k.2.trans h.2⟩
theorem oF.unique{E v a b}(h:oF E v a)(k:oF E v b):a=b:=Uh (h.2 b k.1) (k.2 a h.1)
def Br(E:List (List Int))(x y:Nat):Prop:=∃z,gn E x z/\aZ E z y
theorem Br.reach{E x y}(h:Br E x y):aZ E x y:=by obtain ⟨z,a,b⟩:=h;exact aZ.Gw a b
theorem Br.qM{E x y}(h:gn E x y):Br E x y:=⟨y,h,aZ.refl E y⟩
theorem Br.trans{E x y z}(h:Br E x y)(k:Br E y z):Br E x z:=by obtain ⟨u,a,b⟩:=h;exact ⟨u,a,b.trans k.reach⟩
theorem aZ.cQ{E x y}(h:aZ E x y):x=y\/Br E x y:=by
 obtain ⟨m,h⟩:=h;cases m with
 |zero=>exact .inl h
 |succ m=>obtain ⟨z,a,b⟩:=h;exact .inr ⟨z,a,m,b⟩
theorem Br.lt{E x y}(h:Br E x y):x<E.length/\y<E.length:=by obtain ⟨z,a,b⟩:=h;exact ⟨a.1,b.lt a.2.1⟩
def KV(E:List (List Int))(x y:Nat):Bool:=decide (x<E.length)&&decide (y<E.length)&&(E.getD x []).contains (y:Int)
theorem wB{E x y}:KV E x y=true↔gn E x y:=by unfold KV gn;simp [and_assoc]
def mT(E:List (List Int)):Nat->Nat->Nat->Bool
 |0,i,j=>KV E i j
 |k+1,i,j=>mT E k i j||(mT E k i k&&mT E k k j)
theorem qB{E}:∀k i j,mT E k i j=true->Br E i j
 |0,i,j,h=>Br.qM (wB.1 h)
 |k+1,i,j,h=>by unfold mT at h;rw [Tx,TW]at h;rcases h with h|⟨a,b⟩;exact qB k i j h;exact (qB k i k a).trans (qB k k j b)
theorem ym{E}:∀k m i j,m<k->mT E k i m=true->mT E k m j=true->mT E k i j=true
 |0,m,i,j,l,_,_=>by omega
 |k+1,m,i,j,l,b,a=>by
  unfold mT at b a⊢;rw [Tx,TW]at *;by_cases g:m=k;subst g;exact .inr ⟨b.elim id (λh=>h.1),a.elim id (λh=>h.2)⟩;have d:m<k:=by omega
  have f:=ym (E:=E) k m;rcases b with b|⟨b,e⟩;rcases a with a|⟨a,c⟩;exact .inl (f i j d b a);exact .inr ⟨f i k d b a,c⟩;rcases a with a|⟨a,c⟩;exact .inr ⟨b,f k j d e a⟩;exact .inr ⟨b,c⟩
theorem rG{E i j}(h:KV E i j=true):∀k,mT E k i j=true
 |0=>h
 |k+1=>by unfold mT;rw [rG h k];rfl
theorem zW{E}:∀m x z y,gn E x z->zV E m z y->mT E E.length x y=true
 |0,x,z,y,h,k=>by cases k;exact rG (wB.2 h) _
 |m+1,x,z,y,h,⟨u,a,b⟩=>ym E.length z x y h.2.1 (rG (wB.2 h) _) (zW m z u y a b)
theorem ku{E x y}:mT E E.length x y=true↔Br E x y:=
 ⟨qB _ x y,λ⟨z,h,m,k⟩=>zW m x z y h k⟩
def o9(E:List (List Int))(i:Nat):Nat->Nat->Nat
 |0,a=>a
 |k+1,a=>o9 E i k (if mT E E.length i k&&mT E E.length k i then k else a)
theorem pd{E i}:∀k a,k<=i->Scc E i a->k<=a->(∀u,Scc E i u->u<k\/a<=u)->oF E i (o9 E i k a)
 |0,a,_,f,_,g=>⟨f,λu c=>(g u c).elim (λh=>by omega) id⟩
 |k+1,a,j,f,l,g=>by
  unfold o9;by_cases b:(mT E E.length i k&&mT E E.length k i)=true;rw [QZ b];rw [TW,ku,ku]at b;exact pd k k (by omega) ⟨b.1.reach,b.2.reach⟩ (Sf _) (λu c=>by omega);rw [QN b];refine pd k a (by omega) f (by omega) (λu c=>?_);rcases g u c with h|h;by_cases e:u=k;subst e;exfalso;apply b;rw [TW,ku,ku];have d:i≠u:=by omega
  exact ⟨c.1.cQ.resolve_left d,c.2.cQ.resolve_left (Rz d)⟩;exact .inl (by omega);exact .inr h
theorem p7(E i):oF E i (o9 E i i i):=
 pd i i (Sf _) (Scc.refl E i) (Sf _) (λu _=>by omega)
section
def Pc:=@List.mem_singleton
def PC:=@List.mem_append
def PO:=@List.mem_cons
def P0:=@List.mem_append_left
def P2:=@List.mem_cons_self
def Qb:=@List.append_nil
def Qt:=@List.mem_append_right
def QO:=@List.pairwise_append
def Ri:=@List.take_zero
def Se:=@List.take_succ_eq_append_getElem
def Sj:=@List.sublist_append_left
def SR:=@List.take_length
def Tl:=@List.concat_eq_append
def Tm:=@List.eq_nil_or_concat
def TB:=@Nat.le_trans
def TS:=@List.Sublist.refl
def Ui:=@Nat.min_eq_left
def UG:=@List.pairwise_cons
def UT:=@Nat.le_of_lt
def U3:=@Nat.min_eq_right
def up{α:Type}(f:Nat->α)(i:Nat)(v:α):Nat->α:=λj=>if j=i then v else f j
theorem aA{α}(f i)(v:α):up f i v i=v:=by simp [up]
theorem an{α}(f i j)(v:α)(h:j≠i):up f i v j=f j:=by simp [up,h]
structure St where
 aW:Nat->Nat
 bG:Nat->Nat
 next:Nat->Nat
 part:Nat->Nat
 inn:Nat->Bool
 aR:List Nat
 cQ:List Nat
 cS:Nat
def lf(E:List (List Int))(v:Nat):Nat:=(E.getD v []).length
def Pr(E:List (List Int))(s:St)(v y:Nat):Prop:=y<E.length/\(y:Int)∈(E.getD v []).take (s.next v)
structure Inv (E:List (List Int)) (s:St):Prop where
 mem:∀v∈s.aR,v<E.length/\s.aW v≠0
 inn:∀v,v<E.length->(s.inn v=true↔v∈s.aR)
 sorted:s.aR.Pairwise (λa b=>s.aW a<s.aW b)
 sub:s.cQ.Sublist s.aR
 cS:∀v,v<E.length->s.aW v<=s.cS
 nj:s.cQ.Pairwise (λa b=>aZ E a b)
 LQ:∀v∈s.aR,∃g∈s.cQ,s.aW g<=s.aW v/\(∀c∈s.cQ,s.aW c<=s.aW v->s.aW c<=s.aW g)/\aZ E g v/\aZ E v g/\∀y,Pr E s v y->y∈s.aR->s.bG g<=s.aW y
 bZ:∀v y,v<E.length->Pr E s v y->s.aW y≠0
 bG:∀v∈s.aR,s.bG v<=s.aW v/\∃u∈s.aR,s.aW u=s.bG v/\aZ E v u
 done:∀v,v<E.length->s.aW v≠0->v∉s.aR->oF E v (s.part v)/\∀y,gn E v y->s.aW y≠0/\y∉s.aR
 full:∀v,v<E.length->s.aW v≠0->v∉s.cQ->s.next v=lf E v
 next:∀v,v<E.length->s.next v<=lf E v
 fresh:∀v,v<E.length->s.aW v=0->s.next v=0
theorem En{s:List Nat}{f:Nat->Nat}(h:s.Pairwise (λa b=>f a<f b)):∀a∈s,∀b∈s,f a=f b->a=b:=by
 induction s with
 |nil=>intro a g;cases g
 |cons x l j=>rw [UG]at h;intro a g b i e;rcases PO.1 g with d|d;rcases PO.1 i with c|c;rw [d,c];have:=h.1 b c;rw [<-d]at this;omega;rcases PO.1 i with c|c;have:=h.1 a d;rw [<-c]at this;omega;exact j h.2 a d b c e
theorem z8(l:List Int)(k)(h:k<l.length):l.take (k+1)=l.take k++[l.getD k 0]:=by rw [Se h];simp [List.getD,h]
section
variable {E:List (List Int)} {s:St}
theorem Inv.fh(h:Inv E s){v}(a:v∈s.cQ):v∈s.aR:=h.sub.subset a
theorem Inv.inj(h:Inv E s){a b}(c:a∈s.aR)(d:b∈s.aR)(e:s.aW a=s.aW b):a=b:=En h.sorted a c b d e
theorem Inv.FG(h:Inv E s):s.cQ.Pairwise (λa b=>s.aW a<s.aW b):=h.sorted.sublist h.sub
theorem Inv.empty(h:Inv E s)(hw:s.cQ=[]):s.aR=[]:=by
 cases b:s.aR with
 |nil=>rfl
 |cons v l=>obtain ⟨g,a,_⟩:=h.LQ v (by rw [b];exact P2);rw [hw]at a;cases a
def St.gd(s:St)(y:Nat):St:={s with aW:=up s.aW y (s.cS+1),bG:=up s.bG y (s.cS+1),inn:=up s.inn y true,aR:=s.aR++[y],cQ:=s.cQ++[y],cS:=s.cS+1}
theorem Inv.gd(h:Inv E s){y}(P:y<E.length)(K:s.aW y=0)(T:∀g∈s.cQ,aZ E g y):Inv E (s.gd y):=by
 have H:y∉s.aR:=λq=>(h.mem y q).2 K;have U:y∉s.cQ:=λq=>H (h.fh q);have G:∀v∈s.aR,v≠y:=λv c e=>H (e▸c);have k:∀v∈s.aR,(s.gd y).aW v=s.aW v:=λv c=>an _ _ _ _ (G v c);have M:∀v∈s.aR,(s.gd y).bG v=s.bG v:=λv c=>an _ _ _ _ (G v c);have f:(s.gd y).aW y=s.cS+1:=aA _ _ _;have F:(s.gd y).bG y=s.cS+1:=aA _ _ _;have w:∀v∈s.aR,s.aW v<=s.cS:=λv c=>h.cS v (h.mem v c).1;have d:(s.gd y).aR=s.aR++[y]:=rfl;have l:(s.gd y).cQ=s.cQ++[y]:=rfl;have R:(s.gd y).next=s.next:=rfl;have S:∀v z,Pr E (s.gd y) v z↔Pr E s v z:=λv z=>Iff.rfl;have A:∀v,s.aW v≠0->(s.gd y).aW v≠0:=λv c=>by by_cases e:v=y;rw [e,f];omega;show up s.aW y (s.cS+1) v≠0;rw [an _ _ _ _ e];exact c
 have x:∀v,v≠y->(s.gd y).aW v=s.aW v:=λv e=>an _ _ _ _ e;refine ⟨?_,?_,?_,?_,?_,?_,?_,?_,?_,?_,?_,?_,?_⟩;intro v c;rw [d,PC,Pc]at c;rcases c with c|rfl;exact ⟨(h.mem v c).1,A v (h.mem v c).2⟩;exact ⟨P,by rw [f];omega⟩;intro v c;rw [d,PC,Pc];show up s.inn y true v=true↔_;by_cases e:v=y;subst e;rw [aA];simp;rw [an _ _ _ _ e,h.inn v c];simp [e];rw [d,QO];refine ⟨?_,List.pairwise_singleton _ _,λa B b t=>?_⟩;exact h.sorted.imp_of_mem λB t L=>by rw [k _ B,k _ t];exact L
 rw [Pc]at t;subst t;rw [k a B,f];have:=w a B;omega;rw [d,l];exact h.sub.append (TS _);intro v c;show up s.aW y (s.cS+1) v<=s.cS+1;by_cases e:v=y;rw [e,aA];exact Sf _;rw [an _ _ _ _ e];have:=h.cS v c;omega;rw [l,QO];exact ⟨h.nj,List.pairwise_singleton _ _,λa B b t=>by rw [Pc]at t;subst t;exact T a B⟩;intro v c;rw [d,PC,Pc]at c;rcases c with c|rfl;obtain ⟨g,N,j,m,C,D,Q⟩:=h.LQ v c;have n:=h.fh N;refine ⟨g,by rw [l];exact P0 _ N,by rw [k g n,k v c];exact j,λJ i o=>?_,C,D,λz r p=>?_⟩;rw [l,PC,Pc]at i;rcases i with i|rfl;rw [k J (h.fh i),k v c]at o;rw [k J (h.fh i),k g n];exact m J i o;rw [f,k v c]at o;have:=w v c;omega;rw [d,PC,Pc]at p;rw [M g n];rcases p with p|rfl;rw [k z p];exact Q z r p;rw [f];have:=(h.bG g n).1;have:=w g n;omega;refine ⟨v,by rw [l];simp,Sf _,λJ i o=>o,aZ.refl _ _,aZ.refl _ _,λz r _=>?_⟩;have I:(z:Int)∈(E.getD v []).take (s.next v):=r.2;rw [h.fresh v P K,Ri]at I;cases I
 intro v z c r;exact A z (h.bZ v z c r);intro v c;rw [d,PC,Pc]at c;rcases c with c|rfl;obtain ⟨j,u,O,m,C⟩:=h.bG v c;exact ⟨by rw [M v c,k v c];exact j,u,by rw [d];exact P0 _ O,by rw [k u O,M v c];exact m,C⟩;exact ⟨by rw [F,f];exact Sf _,v,by rw [d];simp,by rw [F,f],aZ.refl _ _⟩;intro v c j m;rw [d,PC,Pc]at m;have e:v≠y:=λe=>m (.inr e);rw [x v e]at j;obtain ⟨C,D⟩:=h.done v c j (λq=>m (.inl q));refine ⟨C,λz r=>⟨A z (D z r).1,?_⟩⟩;rw [d,PC,Pc];rintro (q|rfl);exact (D z r).2 q;exact (D z r).1 K;intro v c j m;rw [l,PC,Pc]at m;have e:v≠y:=λe=>m (.inr e);rw [x v e]at j;exact h.full v c j (λq=>m (.inl q));exact h.next;intro v c j;by_cases e:v=y;rw [e,f]at j;omega;rw [x v e]at j;exact h.fresh v c j
def St.bump(s:St)(x:Nat):St:={s with next:=up s.next x (s.next x+1)}
theorem Inv.bump(h:Inv E s){x m}(l:x∈s.cQ)(t:s.next x<lf E x)(p:(E.getD x []).getD (s.next x) 0=m)
 (w:∀y:Nat,y<E.length->m=(y:Int)->s.aW y≠0/\(y∈s.aR->s.bG x<=s.aW y)):Inv E (s.bump x):=by
 have r:=h.fh l
 have q:=h.mem x r
 have o:(E.getD x []).take (s.next x+1)=(E.getD x []).take (s.next x)++[m]:=by rw [z8 _ _ t,p]
 have j:∀v z,Pr E (s.bump x) v z->Pr E s v z\/(v=x/\z<E.length/\m=(z:Int)):=by rintro v z ⟨b,d⟩;by_cases e:v=x;subst e;have a:(z:Int)∈(E.getD v []).take (up s.next v (s.next v+1) v):=d;rw [aA,o,PC,Pc]at a;rcases a with a|a;exact .inl ⟨b,a⟩;exact .inr ⟨rfl,b,a.symm⟩;have a:(z:Int)∈(E.getD v []).take (up s.next x (s.next x+1) v):=d;rw [an _ _ _ _ e]at a;exact .inl ⟨b,a⟩
 refine ⟨h.mem,h.inn,h.sorted,h.sub,h.cS,h.nj,?_,?_,h.bG,h.done,?_,?_,?_⟩
 intro v c
 obtain ⟨g,u,b,d,A,B,C⟩:=h.LQ v c
 refine ⟨g,u,b,d,A,B,λy f k=>?_⟩
 rcases j v y f with f|⟨rfl,i,e⟩
 exact C y f k
 have n:=d v l (Sf _)
 have:g=v:=h.inj (h.fh u) (h.fh l) (by have:s.aW v<=s.aW g:=n;have:s.aW g<=s.aW v:=b;omega)
 subst this
 exact (w y i e).2 k
 intro v y c f
 rcases j v y f with f|⟨rfl,i,e⟩
 exact h.bZ v y c f
 exact (w y i e).1
 intro v c b d
 show up s.next x (s.next x+1) v=_
 have e:v≠x:=λe=>d (e▸l)
 rw [an _ _ _ _ e];exact h.full v c b d
 intro v c
 show up s.next x (s.next x+1) v<=_
 by_cases e:v=x
 subst e;rw [aA];exact t
 rw [an _ _ _ _ e];exact h.next v c
 intro v c b
 show up s.next x (s.next x+1) v=_
 have e:v≠x:=λe=>q.2 (by rw [<-e];exact b)
 rw [an _ _ _ _ e];exact h.fresh v c b
def St.lower(s:St)(x m:Nat):St:={s with bG:=up s.bG x (min (s.bG x) m)}
theorem Inv.lower(h:Inv E s){x y}(r:x∈s.aR)(p:y∈s.aR)(o:aZ E x y):Inv E (s.lower x (s.aW y)):=by
 have a:∀v,(s.lower x (s.aW y)).bG v<=s.bG v:=λv=>by show up s.bG x (min (s.bG x) (s.aW y)) v<=s.bG v;by_cases e:v=x;subst e;rw [aA];omega;rw [an _ _ _ _ e];exact Sf _
 refine ⟨h.mem,h.inn,h.sorted,h.sub,h.cS,h.nj,?_,h.bZ,?_,h.done,h.full,h.next,h.fresh⟩;intro v i;obtain ⟨g,m,d,b,c,k,l⟩:=h.LQ v i;exact ⟨g,m,d,b,c,k,λz n q=>TB (a g) (l z n q)⟩;intro v i;obtain ⟨d,u,j,b,c⟩:=h.bG v i;refine ⟨TB (a v) d,?_⟩;by_cases e:v=x;subst e;show∃u∈s.aR,s.aW u=up s.bG v (min (s.bG v) (s.aW y)) v/\aZ E v u;rw [aA];rcases Nat.le_total (s.bG v) (s.aW y)with f|f;exact ⟨u,j,by rw [Ui f];exact b,c⟩;exact ⟨y,p,by rw [U3 f],o⟩;show∃u∈s.aR,s.aW u=up s.bG x (min (s.bG x) (s.aW y)) v/\aZ E v u;rw [an _ _ _ _ e];exact ⟨u,j,b,c⟩
theorem DW(s:St)(x m)(h:s.bG x<=m):s.lower x m=s:=by
 have:up s.bG x (min (s.bG x) m)=s.bG:=by funext v;by_cases e:v=x;subst e;rw [aA];omega;exact an _ _ _ _ e
 show {s with bG:=up s.bG x (min (s.bG x) m)}=s;rw [this]
theorem Inv.Ot(h:Inv E s){W x}(hw:s.cQ=W++[x]):∀g∈W,s.aW g<s.aW x:=by have:=h.FG;rw [hw,QO]at this;exact λg a=>this.2.2 g a x (by simp)
theorem Inv.Nw(h:Inv E s){W x}(hw:s.cQ=W++[x]):x∈s.aR:=h.fh (by rw [hw];simp)
theorem Inv.top(h:Inv E s){W x}(hw:s.cQ=W++[x]):∀v∈s.aR,s.aW x<=s.aW v->aZ E x v/\aZ E v x/\∀y,Pr E s v y->y∈s.aR->s.bG x<=s.aW y:=by
 intro v i b;obtain ⟨g,a,j,c,d,e,f⟩:=h.LQ v i;have k:=c x (by rw [hw];simp) b;have:g=x:=by rw [hw,PC,Pc]at a;rcases a with a|a;have:=h.Ot hw g a;omega;exact a
 subst this;exact ⟨d,e,f⟩
theorem Inv.dy(h:Inv E s){W x}(hw:s.cQ=W++[x])(R:s.next x=lf E x)(V:s.bG x≠s.aW x):
 ∃b p,W=b++[p]/\Inv E (({s with cQ:=W}:St).lower p (s.bG x)):=by
 have J:=h.Nw hw
 obtain ⟨U,u,O,H,w⟩:=h.bG x J
 obtain ⟨L,d,T,_,_,Q,_⟩:=h.LQ u O
 have a:L∈W:=by rw [hw,PC,Pc]at d;rcases d with d|rfl;exact d;omega
 obtain ⟨b,p,rfl⟩:∃b p,W=b++[p]:=by rcases Tm W with e|⟨b,p,e⟩;rw [e]at a;cases a;exact ⟨b,p,by rw [e,Tl]⟩
 have n:=h.nj
 rw [hw,QO,QO]at n
 obtain ⟨⟨_,_,A⟩,_,B⟩:=n
 have q:aZ E p x:=B p (by simp) x (by simp)
 have I:aZ E x p:=by refine (w.trans Q).trans ?_;rw [PC,Pc]at a;rcases a with c|rfl;exact A L c p (by simp);exact aZ.refl _ _
 have G:=h.Ot hw p (by simp)
 have S:p∈s.aR:=h.fh (by rw [hw];simp)
 have f:∀g∈b++[p],s.aW g<=s.aW p:=by have:=h.FG;rw [hw,QO,QO]at this;intro g c;rw [PC,Pc]at c;rcases c with c|rfl;exact UT (this.1.2.2 g c p (by simp));exact Sf _
 have o:∀v,(({s with cQ:=b++[p]}:St).lower p (s.bG x)).bG v<=s.bG v:=λv=>by show up s.bG p (min (s.bG p) (s.bG x)) v<=s.bG v;by_cases e:v=p;subst e;rw [aA];omega;rw [an _ _ _ _ e];exact Sf _
 have D:(({s with cQ:=b++[p]}:St).lower p (s.bG x)).bG p<=s.bG x:=by show up s.bG p (min (s.bG p) (s.bG x)) p<=s.bG x;rw [aA];omega
 refine ⟨b,p,rfl,h.mem,h.inn,h.sorted,?_,h.cS,?_,?_,h.bZ,?_,h.done,?_,h.next,h.fresh⟩
 have:=h.sub
 rw [hw]at this
 exact (Sj _ _).trans this
 have:=h.nj
 rw [hw,QO]at this
 exact this.1
 intro v t
 obtain ⟨g,c,k,l,m,M,N⟩:=h.LQ v t
 rw [hw,PC,Pc]at c
 rcases c with c|rfl
 exact ⟨g,c,k,λz i=>l z (by rw [hw];exact P0 _ i),m,M,λy K j=>TB (o g) (N y K j)⟩
 refine ⟨p,by show p∈b++[p];simp,TB (UT G) k,λz i _=>f z i,q.trans m,M.trans I,λy K j=>TB D (N y K j)⟩
 intro v t
 obtain ⟨k,P,r,l,m⟩:=h.bG v t
 refine ⟨TB (o v) k,?_⟩
 show∃u∈s.aR,s.aW u=up s.bG p (min (s.bG p) (s.bG x)) v/\aZ E v u
 by_cases e:v=p
 subst e
 rw [aA]
 rcases Nat.le_total (s.bG v) (s.bG x)with C|C
 exact ⟨P,r,by rw [Ui C];exact l,m⟩
 exact ⟨u,O,by rw [U3 C];exact H,q.trans w⟩
 rw [an _ _ _ _ e];exact ⟨P,r,l,m⟩
 intro v t k l
 by_cases e:v=x
 subst e;exact R
 refine h.full v t k ?_
 rw [hw,PC,Pc]
 rintro (F|F)
 exact l F
 exact e F
def St.off(s:St)(W A L:List Nat)(m:Nat):St:=
 {s with cQ:=W,aR:=A,part:=λv=>if v∈L then m else s.part v,inn:=λv=>if v∈L then false else s.inn v}
theorem Inv.root(h:Inv E s){W A B x m}(hw:s.cQ=W++[x])(hf:s.next x=lf E x)(hr:s.bG x=s.aW x)(O:s.aR=A++x::B)
 (hm:m∈x::B) (N:∀v∈x::B,m<=v):Inv E (s.off W A (x::B) m):=by
 have ad:=h.Nw hw
 have C:=h.sorted
 rw [O,QO,UG]at C
 obtain ⟨Y,⟨Z,_⟩,P⟩:=C
 have U:∀v∈A,s.aW v<s.aW x:=λv b=>P v b x P2
 have J:∀v∈x::B,s.aW x<=s.aW v:=λv b=>by rcases PO.1 b with rfl|b;exact Sf _;exact UT (Z v b)
 have f:∀v∈A,v∈s.aR:=λv b=>by rw [O];exact P0 _ b
 have i:∀v∈x::B,v∈s.aR:=λv b=>by rw [O];exact Qt _ b
 have c:∀v∈s.aR,v∈A\/v∈x::B:=λv b=>by rw [O]at b;exact PC.1 b
 have r:∀v,v∈A->v∉x::B:=λv j k=>by have:=U v j;have:=J v k;omega
 have M:∀v∈x::B,v∉W:=λv b ab=>by have:=h.Ot hw v ab;have:=J v b;omega
 have w:∀v∈x::B,s.next v=lf E v:=λv b=>by by_cases e:v=x;subst e;exact hf;refine h.full v (h.mem v (i v b)).1 (h.mem v (i v b)).2 ?_;rw [hw,PC,Pc];rintro (z|z);exact M v b z;exact e z
 have t:∀v∈x::B,∀y,gn E v y->s.aW y≠0/\y∉A:=by intro v b y a;have hp:Pr E s v y:=⟨a.2.1,by rw [w v b];unfold lf;rw [SR];exact a.2.2⟩;refine ⟨h.bZ v y a.1 hp,λp=>?_⟩;have:=(h.top hw v (i v b) (J v b)).2.2 y hp (f y p);have:=U y p;omega
 have q:∀v y,(v∉A/\s.aW v≠0/\v<E.length)->gn E v y->(y∉A/\s.aW y≠0/\y<E.length):=by rintro v y ⟨j,k,n⟩ a;by_cases b:v∈s.aR;have:=t v ((c v b).resolve_left j) y a;exact ⟨this.2,this.1,a.2.1⟩;have:=(h.done v n k b).2 y a;exact ⟨λp=>this.2 (f y p),this.1,a.2.1⟩
 have o:∀v y,(v∉s.aR/\s.aW v≠0/\v<E.length)->gn E v y->(y∉s.aR/\s.aW y≠0/\y<E.length):=by rintro v y ⟨j,k,n⟩ a;have:=(h.done v n k j).2 y a;exact ⟨this.2,this.1,a.2.1⟩
 have F:∀v∈x::B,∀u,Scc E v u↔u∈x::B:=by intro v b u;have R:=h.top hw v (i v b) (J v b);constructor;rintro ⟨j,k⟩;have n:=j.closed q ⟨λI=>r v I b,(h.mem v (i v b)).2,(h.mem v (i v b)).1⟩;by_cases S:u∈s.aR;exact (c u S).resolve_left n.1;have:=k.closed o ⟨S,n.2.1,n.2.2⟩;exact absurd (i v b) this.1;intro K;have Q:=h.top hw u (i u K) (J u K);exact ⟨R.2.1.trans Q.1,Q.2.1.trans R.1⟩
 refine ⟨λv b=>h.mem v (f v b),?_,Y,?_,h.cS,?_,?_,h.bZ,?_,?_,?_,h.next,h.fresh⟩
 intro v b
 show(if v∈x::B then false else s.inn v)=true↔v∈A
 by_cases d:v∈x::B
 rw [QZ d]
 exact ⟨λe=>(by cases e),λI=>absurd d (r v I)⟩
 rw [QN d,h.inn v b]
 exact ⟨λD=>(c v D).resolve_right d,f v⟩
 have G:=h.sub
 rw [hw,O]at G
 have H:W.Sublist (A++x::B):=(Sj _ _).trans G
 have:=List.sublist_append_iff.1 H
 obtain ⟨l1,l2,e,k1,k2⟩:=this
 have:l2=[]:=by
  cases hl:l2 with
  |nil=>rfl
  |cons y l=>
   have T:y∈l2:=by rw [hl];exact P2
   exact absurd (show y∈W by rw [e];exact Qt _ T) (M y (k2.subset T))
 subst this
 rw [Qb]at e
 show W.Sublist A
 rw [e];exact k1
 have:=h.nj
 rw [hw,QO]at this
 exact this.1
 intro v b
 obtain ⟨g,V,j,k,n,L,h5⟩:=h.LQ v (f v b)
 rw [hw,PC,Pc]at V
 rcases V with V|rfl
 exact ⟨g,V,j,λg' X=>k g' (by rw [hw];exact P0 _ X),n,L,λy hy ac=>h5 y hy (f y ac)⟩
 have:=U v b;omega
 intro v b
 obtain ⟨j,u,K,k,n⟩:=h.bG v (f v b)
 refine ⟨j,u,?_,k,n⟩
 refine (c u K).resolve_right λaa=>?_
 have L:=J u aa
 have h5:=U v b
 omega
 intro v b j k
 by_cases d:v∈x::B
 refine ⟨?_,λy a=>t v d y a⟩
 show oF E v (if v∈x::B then m else s.part v)
 rw [QZ d]
 exact ⟨(F v d m).2 hm,λu K=>N u ((F v d u).1 K)⟩
 have D:v∉s.aR:=λD=>(c v D).elim k d
 obtain ⟨n,L⟩:=h.done v b j D
 refine ⟨?_,λy a=>⟨(L y a).1,λp=>(L y a).2 (f y p)⟩⟩
 show oF E v (if v∈x::B then m else s.part v)
 rw [QN d];exact n
 intro v b j k
 by_cases d:v∈x::B
 exact w v d
 refine h.full v b j ?_
 rw [hw,PC,Pc]
 rintro (z|rfl)
 exact k z
 exact d P2
end
end
section
def PK:=@Go.World.frozen?_of_block
def PQ:=@Go.World.cell?_setCell_other
def P4:=@Go.World.cell?_setCell_same
def Qo:=@Go.World.frozen?_setCell
def QI:=@List.length_take
def Rl:=@List.ext_getElem
def S6:=@List.getElem_range
def Tp:=@List.getElem_map
def T5:=@List.getElem_set
structure Rec (N:Nat) (sl:Nat->Prop) (ty:Nat->TypeId) (w:WD) (g:Nat) (C:Nat->Value) (X:Nat->List Value):Prop where
 cell:∀k,k<N->w.cell? (AD g k)=some (C k)
 lC:∀k,w.frozen? (AD g k)=false
 dY:∀k,sl k->k<N
 cO:∀k,sl k->Sl w (ty k) (C k) (X k).length (X k)
 apart:∀i j b,sl i->sl j->(C i).ownBlock=some b->(C j).ownBlock=some b->i=j
 off:∀i,sl i->(C i).ownBlock≠some g
 cH:0<N
def eW(sl:Nat->Prop)(g:Nat)(C:Nat->Value)(b:Nat):Prop:=b=g\/∃k,sl k/\(C k).ownBlock=some b
section
variable {N:Nat} {sl:Nat->Prop} {ty:Nat->TypeId} {w w1:WD} {g:Nat} {C:Nat->Value} {X:Nat->List Value}
def Rec.lt(h:Rec N sl ty w g C X):g<w.heap.size:=O9 w (AD g 0) (h.cell 0 h.cH)
def Rec.jO(h:Rec N sl ty w g C X):∀b,eW sl g C b->b<w.heap.size:=by rintro b (rfl|⟨k,a,e⟩);exact h.lt;exact (h.cO k a).lt b e
def Rec.ax{S}(h:Rec N sl ty w g C X)(c:aj S w w1)(a:∀b,eW sl g C b->¬S b):Rec N sl ty w1 g C X where
 cell k d:=c.aq (h.cell k d) (a g (.inl rfl))
 lC k:=(PK (c.block g h.lt (a g (.inl rfl)))).trans (h.lC k)
 dY:=h.dY
 cO k f:=Sl.ax (h.cO k f) c (λb e=>a b (.inr ⟨k,f,e⟩))
 apart:=h.apart
 off:=h.off
 cH:=h.cH
def dX{g i k}(h:i≠k):((AD g k):Addr)≠(AD g i):=λe=>h (by cases e;rfl)
def k8{e v n a}(h:Sl w e v n a)(g k u)(c:v.ownBlock≠some g):Sl (w.setCell (AD g k) u) e v n a:=
 Sl.ax h (S:=λb=>b=g) ((aj.refl (λb=>b=g) w).setCell (p:=(AD g k)) (λ_=>rfl) u) (λb e s=>c (by rw [e,s]))
def Rec.plain(h:Rec N sl ty w g C X)(k)(l:k<N)(c:¬sl k)(v):Rec N sl ty (w.setCell (AD g k) v) g (up C k v) X where
 cell i a:=by by_cases e:i=k;subst e;rw [aA];exact P4 _ _ _ (h.cell i a);rw [an _ _ _ _ e,PQ _ _ _ _ (dX e)];exact h.cell i a
 lC i:=by rw [Qo];exact h.lC i
 dY:=h.dY
 cO i a:=by have e:i≠k:=λe=>c (e▸a);rw [an _ _ _ _ e];exact k8 (h.cO i a) g k v (h.off i a)
 apart i j b a d:=by have e:i≠k:=λe=>c (e▸a);have f:j≠k:=λe=>c (e▸d);rw [an _ _ _ _ e,an _ _ _ _ f];exact h.apart i j b a d
 off i a:=by have e:i≠k:=λe=>c (e▸a);rw [an _ _ _ _ e];exact h.off i a
 cH:=h.cH
def DK{i}(c:∀k,sl k->k≠i)(v):∀b,eW sl g (up C i v) b->eW sl g C b:=by rintro b (rfl|⟨k,a,e⟩);exact .inl rfl;rw [an _ _ _ _ (c k a)]at e;exact .inr ⟨k,a,e⟩
def Rec.slice(h:Rec N sl ty w g C X)(k)(o:sl k)(v xs)
 (s:Sl w1 (ty k) v xs.length xs) (r:aj (λb=>(C k).ownBlock=some b) w w1) (m:dQ w (C k) v):
 Rec N sl ty (w1.setCell (AD g k) v) g (up C k v) (up X k xs):=by
 have c:∀i,i<N->CA w1 g i (C i):=λi a=>r.aq (h.cell i a) (h.off k o)
 have p:∀b,v.ownBlock=some b->b≠g/\∀i,sl i->i≠k->(C i).ownBlock≠some b:=by
  intro b f;obtain m|⟨t,m,x⟩:=m;rw [m]at f;refine ⟨λe=>h.off k o (by rw [f,e]),λi a n e=>n (h.apart i k b a o e f)⟩;rw [m]at f;obtain rfl:t=b:=by cases f;rfl
  have:=h.lt;refine ⟨ZO,λi a n e=>?_⟩;have:=h.jO t (.inr ⟨i,a,e⟩);omega
 exact {
  cell:=λi a=>by by_cases e:i=k;subst e;rw [aA];exact P4 _ _ _ (c i a);rw [an _ _ _ _ e,PQ _ _ _ _ (dX e)];exact c i a
  lC:=λi=>by rw [Qo];exact (PK (r.block g h.lt (h.off k o))).trans (h.lC i)
  dY:=h.dY
  cO:=λi a=>by by_cases e:i=k;subst e;rw [aA,aA];exact k8 s g i v (λe=>(p g e).1 rfl);rw [an _ _ _ _ e,an _ _ _ _ e];have l:=Sl.ax (h.cO i a) r (λb f d=>e (h.apart i k b a o f d));exact k8 l g k v (h.off i a)
  apart:=λi j b a u=>by by_cases e:i=k;by_cases d:j=k;intro _ _;omega;subst e;rw [aA,an _ _ _ _ d];intro l q;exact ((p b l).2 j u d q).elim;rw [an _ _ _ _ e];by_cases d:j=k;subst d;rw [aA];intro l q;exact ((p b q).2 i a e l).elim;rw [an _ _ _ _ d];exact h.apart i j b a u
  off:=λi a=>by by_cases e:i=k;subst e;rw [aA];intro e;exact (p g e).1 rfl;rw [an _ _ _ _ e];exact h.off i a
  cH:=h.cH}
def wY(k)(j:sl k)(v)(a:dQ w (C k) v):∀b,eW sl g (up C k v) b->eW sl g C b\/w.heap.size<=b:=by rintro b (rfl|⟨i,f,e⟩);exact .inl (.inl rfl);by_cases d:i=k;subst d;rw [aA]at e;obtain a|⟨h,a,c⟩:=a;rw [a]at e;exact .inl (.inr ⟨i,f,e⟩);rw [a]at e;cases e;exact .inr c;rw [an _ _ _ _ d]at e;exact .inl (.inr ⟨i,f,e⟩)
def Rec.two(h:Rec N sl ty w g C X)(k l)(I:sl k)(J:sl l)(K:k≠l)(v u G H)(r:aj (λb=>(C k).ownBlock=some b\/(C l).ownBlock=some b) w w1)
 (R:Sl w1 (ty k) v G.length G) (Q:Sl w1 (ty l) u H.length H) (T:dQ w (C k) v) (S:dQ w (C l) u) (F:∀b,v.ownBlock=some b->u.ownBlock≠some b):
 Rec N sl ty ((w1.setCell (AD g k) v).setCell (AD g l) u) g (up (up C k v) l u) (up (up X k G) l H):=by
 have f:∀i,i<N->CA w1 g i (C i):=λi c=>r.aq (h.cell i c) (λe=>e.elim (h.off k I) (h.off l J))
 have z:∀(j:Nat)(x:Value),sl j->dQ w (C j) x->∀b,x.ownBlock=some b->b≠g/\∀i,sl i->i≠j->(C i).ownBlock≠some b:=by
  intro j x s D b o;obtain D|⟨L,D,P⟩:=D;rw [D]at o;exact ⟨λe=>h.off j s (by rw [o,e]),λi c E e=>E (h.apart i j b c s e o)⟩;rw [D]at o;obtain rfl:L=b:=by cases o;rfl
  have:=h.lt;exact ⟨ZO,λi c E e=>ZH (h.jO L (.inr ⟨i,c,e⟩))⟩
 have B:=z k v I T
 have A:=z l u J S
 have M:∀i,up (up C k v) l u i=if i=l then u else if i=k then v else C i:=λi=>rfl
 have U:∀i,up (up X k G) l H i=if i=l then H else if i=k then G else X i:=λi=>rfl
 exact {
  cell:=λi c=>by
   by_cases e:i=l;subst e;have O:(w1.setCell (AD g k) v).cell? (AD g i)=some (C i):=by rw [PQ _ _ _ _ (dX (Rz K))];exact f i c
   rw [aA];exact P4 _ _ _ O;rw [an _ _ _ _ e,PQ _ _ _ _ (dX e)];by_cases n:i=k;subst n;rw [aA];exact P4 _ _ _ (f i c);rw [an _ _ _ _ n,PQ _ _ _ _ (dX n)];exact f i c
  lC:=λi=>by rw [Qo,Qo];exact (PK (r.block g h.lt (λe=>e.elim (h.off k I) (h.off l J)))).trans (h.lC i)
  dY:=h.dY
  cO:=λi c=>by by_cases e:i=l;subst e;rw [aA,aA];exact k8 (k8 Q g k v (λe=>(A g e).1 rfl)) g i u (λe=>(A g e).1 rfl);rw [an _ _ _ _ e,an _ _ _ _ e];by_cases n:i=k;subst n;rw [aA,aA];exact k8 (k8 R g i v (λe=>(B g e).1 rfl)) g l u (λe=>(B g e).1 rfl);rw [an _ _ _ _ n,an _ _ _ _ n];have a:=Sl.ax (h.cO i c) r (λb o m=>m.elim (λm=>n (h.apart i k b c I o m)) (λm=>e (h.apart i l b c J o m)));exact k8 (k8 a g k v (h.off i c)) g l u (h.off i c)
  apart:=λi j b c s a d=>by rw [M]at a d;by_cases y:i=l;rw [QZ y]at a;by_cases q:j=l;omega;rw [QN q]at d;by_cases p:j=k;rw [QZ p]at d;exact (F b d a).elim;rw [QN p]at d;exact ((A b a).2 j s q d).elim;rw [QN y]at a;by_cases t:i=k;rw [QZ t]at a;by_cases q:j=l;rw [QZ q]at d;exact (F b a d).elim;rw [QN q]at d;by_cases p:j=k;omega;rw [QN p]at d;exact ((B b a).2 j s p d).elim;rw [QN t]at a;by_cases q:j=l;rw [QZ q]at d;exact ((A b d).2 i c y a).elim;rw [QN q]at d;by_cases p:j=k;rw [QZ p]at d;exact ((B b d).2 i c t a).elim;rw [QN p]at d;exact h.apart i j b c s a d
  off:=λi c a=>by rw [M]at a;by_cases y:i=l;rw [QZ y]at a;exact (A g a).1 rfl;rw [QN y]at a;by_cases t:i=k;rw [QZ t]at a;exact (B g a).1 rfl;rw [QN t]at a;exact h.off i c a
  cH:=h.cH}
def I5(k l)(h:sl k)(o:sl l)(v u)(m:dQ w (C k) v)(j:dQ w (C l) u):∀b,eW sl g (up (up C k v) l u) b->eW sl g C b\/w.heap.size<=b:=by rintro b (rfl|⟨i,f,e⟩);exact .inl (.inl rfl);by_cases d:i=l;subst d;rw [aA]at e;obtain c|⟨n,c,a⟩:=j;rw [c]at e;exact .inl (.inr ⟨i,f,e⟩);rw [c]at e;cases e;exact .inr a;rw [an _ _ _ _ d]at e;exact wY k h v m b (.inr ⟨i,f,e⟩)
def Rec.elem(h:Rec N sl ty w g C X)(k)(o:sl k){b n c}(l:C k=SV b n c)(i u):
 Rec N sl ty (w.setCell (AD b i) u) g C (up X k ((X k).set i u)):=by
 have s:(C k).ownBlock=some b:=by rw [l];rfl
 have m:b≠g:=λe=>h.off k o (by rw [s,e])
 have f:aj (λd=>d=b) w (w.setCell (AD b i) u):=(aj.refl (λd=>d=b) w).setCell (p:=(AD b i)) (λ_=>rfl) u
 have t:(X k).length=n:=by have:=h.cO k o;rw [l]at this;have:=de this;omega
 exact {
  cell:=λj a=>f.aq (h.cell j a) (λe=>m e.symm)
  lC:=λj=>by rw [Qo];exact h.lC j
  dY:=h.dY
  cO:=λj a=>by by_cases e:j=k;subst e;rw [aA];have r:=h.cO j a;rw [l,t]at r;have q:=RU r i u;rw [l,RX,t];exact q.1;rw [an _ _ _ _ e];exact Sl.ax (h.cO j a) f (λd x v=>e (h.apart j k d a o x (by rw [s,v])))
  apart:=h.apart
  off:=h.off
  cH:=h.cH}
def Rec.val(h:Rec N sl ty w g C X)(k)(r:sl k):∃a c,C k=.slice a (X k).length c/\(X k).length<=c/\c<=maxLen/\(a=none->(X k).length=0/\c=0)/\
 ∀i,i<(X k).length->∃b,a=some (AD b 0)/\w.cell? (AD b i)=(X k)[i]? /\FZ w b i:=by
 have f:=h.cO k r
 have⟨a,c,e,o⟩:=f.shape
 rw [e]at f
 have d:=de f
 refine ⟨a,c,e,d.1,d.2.1,λq=>?_,λi p=>?_⟩
 subst q
 obtain ⟨j,n⟩|⟨b,l,m,j,_⟩:=f.2
 exact ⟨n,by injection j⟩
 injection j with e _ _;cases e
 obtain ⟨b,rfl,_,j⟩:=o i p
 exact ⟨b,rfl,j,Ro (size:=1) f i⟩
def nM{e a n c m j}(h:Sl w e (SL a n c) n j)(s:m<=n):Sl w e (SL a m c) m (j.take m):=by refine ⟨by have:=h.1;rw [QI];omega,?_⟩;obtain ⟨f,i⟩|⟨b,k,d,f,i,l,r,o,p,q⟩:=h.2;left;obtain rfl:m=0:=ZO;subst i;exact ⟨by injection f with e1 e2 e3;rw [e1,e3],rfl⟩;right;injection f with e1 e2 e3;subst e1 e3;refine ⟨b,c,d,rfl,i,l,ZO,o,p,?_⟩;rw [<-q,List.take_take];congr 1;omega
end
def fU(n:Nat)(f:Nat->Nat):List Value:=(List.range n).map λi=>IV (f i:Int)
def bB(n:Nat)(f:Nat->Bool):List Value:=(List.range n).map λi=>.bool (f i)
def bI(l:List Nat):List Value:=l.map λ(x:Nat)=>IV x
def cZ(n f):(fU n f).length=n:=by simp [fU]
def ed(n f):(bB n f).length=n:=by simp [bB]
def bV(l):(bI l).length=l.length:=by simp [bI]
def en(n f i)(h:i<n):(fU n f)[i]? =some (IV (f i:Int)):=by simp [fU,h]
def eQ(n f i)(h:i<n):(bB n f)[i]? =some (.bool (f i)):=by simp [bB,h]
def od(l i)(h:i<l.length):(bI l)[i]? =some (IV ((l.getD i 0:Nat):Int)):=by simp [bI,h,List.getD]
def kd(n f)(i v:Nat)(_:i<n):(fU n f).set i (IV v)=fU n (up f i v):=by refine Rl (by simp [fU]) λj b c=>?_;rw [T5];simp only [fU,Tp,S6,up];by_cases e:i=j;subst e;simp;rw [QN e,QN (λa=>e a.symm)]
def kH(n f i v)(_:i<n):(bB n f).set i (.bool v)=bB n (up f i v):=by refine Rl (by simp [bB]) λj b c=>?_;rw [T5];simp only [bB,Tp,S6,up];by_cases e:i=j;subst e;simp;rw [QN e,QN (λa=>e a.symm)]
def kP(l x):bI (l++[x])=bI l++[.int .i64 (x:Int)]:=by simp [bI]
def rX(l k):bI (l.take k)=(bI l).take k:=by simp [bI,List.map_take]
end
def Rk:=@List.cons.injEq
def TL:=@List.drop_eq_getElem_cons
def Ar(w:WD)(e:TypeId)(v:Value)(n:Nat)(d:List Value):Prop:=
 d.length=n/\((v=SN/\n=0)\/∃g c a b,v=SL (some (AD g c)) n a/\w.heap[g]? =some (.cells b e (0,0))/\n<=a/\a<=maxLen/\c+a<=b.size/\(b.toList.drop c).take n=d)
def Ar.nil(w e):Ar w e (SN) 0 []:=⟨rfl,.inl ⟨rfl,rfl⟩⟩
def Ar.of{w e v n d}(h:Sl w e v n d):Ar w e v n d:=by refine ⟨ZH h.1,h.2.imp id ?_⟩;rintro ⟨g,a,b,rfl,_,j,f,i,k,c⟩;exact ⟨g,0,a,b,rfl,j,f,i,ZO,by rw [List.drop_zero];rw [RL]at c;exact c⟩
def Ar.lt{w e v n k}(h:Ar w e v n k):∀g,v.ownBlock=some g->g<w.heap.size:=by
 intro g a;obtain ⟨rfl,_⟩|⟨f,j,b,c,rfl,i,_⟩:=h.2;simp [Value.ownBlock]at a;have d:some f=some g:=a;cases d
 exact (Pb.1 i).1
def Ar.ax{S w f e v n i}(h:Ar w e v n i)(j:aj S w f)(k:∀g,v.ownBlock=some g->¬S g):Ar f e v n i:=by refine ⟨h.1,h.2.imp id ?_⟩;rintro ⟨g,c,a,b,rfl,d,r⟩;exact ⟨g,c,a,b,rfl,by rw [j.block g (Pb.1 d).1 (k g rfl)];exact d,r⟩
def Ar.shape{w e v n f}(h:Ar w e v n f):
 ∃a b,v=SL a n b/\n<=b/\b<=maxLen/\(∀i,i<n->∃g c,a=some (AD g c)/\v.ownBlock=some g/\w.cell? (AD g (c+i))=f[i]?):=by
 obtain ⟨rfl,rfl⟩|⟨g,c,b,j,rfl,o,k,l,p,m⟩:=h.2
 exact ⟨none,0,rfl,Pf _,by simp [maxLen],λi d=>ZO⟩
 refine ⟨_,b,rfl,k,l,λi d=>⟨g,c,rfl,rfl,?_⟩⟩
 rw [<-m,List.getElem?_take,if_pos d,List.getElem?_drop]
 simp [World.cell?,o]
def Ar.rowAt{k w e a n c b}(h:Ar w e (SL a n c) n (b.map (Value.int k))):aG k w a n b:=by
 have r:b.length=n:=by have:=h.1;simpa using this
 refine ⟨r,?_⟩;obtain f|f:=Qv n;exact .inl f;have⟨s,o,d,_,_,l⟩:=h.shape;cases d
 obtain ⟨g,j,rfl,_,_⟩:=l 0 f;refine .inr ⟨g,j,rfl,λi q=>?_⟩;have⟨t,m,d,_,p⟩:=l i q;cases d
 have:i<b.length:=ZO;rw [p];simp [List.getD,this]
def Ar.tail{w e g b n a x f}(h:Ar w e (SL (some (AD g b)) (n+1) a) (n+1) (x::f))(j)
 (s:a=1->j=some (AD g b)) (t:a≠1->j=some (AD g (b+1))):Ar w e (SL j n (a-1)) n f:=by
 have v:f.length=n:=by have:=h.1;simpa using this
 obtain ⟨r,_⟩|⟨A,p,l,c,q,o,y,k,z,i⟩:=h.2
 cases r
 cases q
 refine ⟨v,.inr ?_⟩
 have d:((c.toList.drop (b+1)).take n)=f:=by
  have u:b<c.toList.length:=by simp;omega
  rw [TL u,List.take_succ_cons]at i;simp only [Rk]at i;exact i.2
 by_cases m:a=1
 obtain rfl:n=0:=ZO
 refine ⟨g,b,a-1,c,by rw [s m],o,ZO,by unfold maxLen at k⊢;omega,ZO,?_⟩
 rw [List.take_zero]at d⊢
 exact d
 exact ⟨g,b+1,a-1,c,by rw [t m],o,ZO,by unfold maxLen at k⊢;omega,ZO,d⟩
end Go.Own
namespace Go.Proofs.YtimniinkpipnmaaGreatDoor
open Go.RowKit Go.Own Go.Proofs.Tryz
def Pk:=@List.length_append
def P6:=@Go.info_parts
def Qg:=@List.map_append
def QE:=@Nat.lt_irrefl
def Rb:=@Go.Lib.run_eql_slice_nil
def Rg:=@Go.Proofs.Tryz.underlying33
def SS:=@Nat.add_zero
def Tryz.eA:(prog.info? 3).map (λi=>(i.zero,i.size,i.bytes))=some (some (IV 0),1,8):=ZK
def bD(w:WD)(a:OA)(n:Nat)(F:List (Int×Int)):Prop:=
 F.length=n/\(n=0\/∃b c,a=some (AD b c)/\∀i,i<n->w.cell? (AD b (c+i*2))=some (IV (F.getD i (0,0)).1)/\w.cell? (AD b (c+i*2+1))=some (IV (F.getD i (0,0)).2))
def bD.ag{w w' a n F}(h:bD w a n F)(f:BW w w'):bD w' a n F:=by refine ⟨h.1,h.2.imp id ?_⟩;rintro ⟨b,c,rfl,g⟩;refine ⟨b,c,rfl,λi j=>?_⟩;have⟨d,e⟩:=g i j;exact ⟨(f.cell (O9 w _ d)).trans d,(f.cell (O9 w _ e)).trans e⟩
def ig(x:Int×Int):Int×Int:=if x.1=3 then x else(x.1,0)
def eh(f:Fm):Prop:=∀x∈Fm.aI f,∀n,x=Fm.prop n->n<8
def jQ(F:List (Int×Int))(f:Fm):Prop:=F.map ig=Fm.enc f/\eh f
def Jt{op n}(h:tk op=0)(c:op=3->0<=n/\n<8):∃f,Fm.mQ f/\Fm.aH f=ig (op,n)/\eh f:=by unfold tk at h;by_cases b:op=1\/op=2\/op=3;obtain rfl|rfl|rfl:=b;exact ⟨.tt,.tt,rfl,λx a n e=>by simp [Fm.aI]at a;subst a;cases e⟩;exact ⟨.ff,.ff,rfl,λx a n e=>by simp [Fm.aI]at a;subst a;cases e⟩;obtain ⟨k,rfl⟩:∃k:Nat,n=(k:Int):=⟨n.toNat,ZH (c rfl)⟩;refine ⟨.prop k,.prop k,rfl,λx a m e=>?_⟩;simp [Fm.aI]at a;subst a;cases e;have:=c rfl;omega;rw [Qa b]at h;split at h;omega;split at h<;>omega
def Oc{op n}(h:tk op=1)(a)(i:eh a):∃f,Fm.One a f/\Fm.aH f=ig (op,n)/\eh f:=by
 have g:∀f,Fm.One a f->(∀n,f≠Fm.prop n)->eh f:=λf c d x b n e=>by rw [c.aI]at b;obtain b|b:=PC.1 b;exact i x b n e;rw [Pc]at b;subst b;exact absurd e (d n)
 have c:op=4\/op=8\/op=11\/op=12:=by unfold tk at h;by_cases c:op=1\/op=2\/op=3;rw [PW c]at h;omega;rw [Qa c]at h;by_cases d:op=4\/op=8\/op=11\/op=12;exact d;rw [Qa d]at h;split at h<;>omega
 obtain rfl|rfl|rfl|rfl:=c;exact ⟨.neg a,.neg,rfl,g _ .neg (λn e=>ZC e)⟩;exact ⟨.cy a,.cy,rfl,g _ .cy (λn e=>ZC e)⟩;exact ⟨.fin a,.fin,rfl,g _ .fin (λn e=>ZC e)⟩;exact ⟨.ec a,.ec,rfl,g _ .ec (λn e=>ZC e)⟩
def Oq{op n}(h:tk op=2)(a b)(k:eh a)(l:eh b):∃f,Fm.gj a b f/\Fm.aH f=ig (op,n)/\eh f:=by
 have g:∀f,Fm.gj a b f->(∀n,f≠Fm.prop n)->eh f:=λf d i x c n e=>by rw [d.aI]at c;obtain c|c:=PC.1 c;exact k x c n e;obtain c|c:=PC.1 c;exact l x c n e;rw [Pc]at c;subst c;exact absurd e (i n)
 have d:op=5\/op=6\/op=7\/op=9\/op=10:=by unfold tk at h;by_cases d:op=1\/op=2\/op=3;rw [PW d]at h;omega;rw [Qa d]at h;by_cases i:op=4\/op=8\/op=11\/op=12;rw [PW i]at h;omega;rw [Qa i]at h;by_cases j:op=5\/op=6\/op=7\/op=9\/op=10;exact j;rw [Qa j]at h;omega
 obtain rfl|rfl|rfl|rfl|rfl:=d;exact ⟨.and a b,.and,rfl,g _ .and (λn e=>ZC e)⟩;exact ⟨.or a b,.or,rfl,g _ .or (λn e=>ZC e)⟩;exact ⟨.imp a b,.imp,rfl,g _ .imp (λn e=>ZC e)⟩;exact ⟨.dA a b,.dA,rfl,g _ .dA (λn e=>ZC e)⟩;exact ⟨.rel a b,.rel,rfl,g _ .rel (λn e=>ZC e)⟩
def kT:Nat->Fm->List Int
 |o,.tt=>[(o:Int)]
 |o,.ff=>[(o:Int)]
 |o,.prop _=>[(o:Int)]
 |o,.neg a=>kT o a++[(o:Int)]
 |o,.cy a=>kT o a++[(o:Int)]
 |o,.fin a=>kT o a++[(o:Int)]
 |o,.ec a=>kT o a++[(o:Int)]
 |o,.and a b=>kT o a++(kT (o+Fm.size a) b++[(o:Int)])
 |o,.or a b=>kT o a++(kT (o+Fm.size a) b++[(o:Int)])
 |o,.imp a b=>kT o a++(kT (o+Fm.size a) b++[(o:Int)])
 |o,.dA a b=>kT o a++(kT (o+Fm.size a) b++[(o:Int)])
 |o,.rel a b=>kT o a++(kT (o+Fm.size a) b++[(o:Int)])
def Kn{f}(h:Fm.mQ f)(o):kT o f=[(o:Int)]:=by cases h<;>rfl
def Fz{a f}(h:Fm.One a f)(o):kT o f=kT o a++[(o:Int)]:=by cases h<;>rfl
def FB{a b f}(h:Fm.gj a b f)(o):kT o f=kT o a++(kT (o+Fm.size a) b++[(o:Int)]):=by cases h<;>rfl
def vO(f):∀o,(kT o f).length=Fm.size f:=by
 induction f with
 |tt|ff|prop n=>intro o;rfl
 |neg a e|cy a e|fin a e|ec a e=>intro o;simp [kT,e,Fm.iB,Fm.fp,Fm.nL,Fm.lS]
 |and a b c d|or a b c d|imp a b c d|dA a b c d|rel a b c d=>intro o;simp [kT,c,d,Fm.ki,Fm.mC,Fm.qo,Fm.km,Fm.kj];omega
def Km(f):∀(o p:Nat)(x),(Fm.aI f)[p]? =some x->(kT o f)[p]? =some ((o:Int)+p+1-Fm.size x):=by
 induction f with
 |tt|ff|prop n=>intro o p x h;obtain _|p:=p;simp [Fm.aI]at h;subst h;simp [kT,Fm.vJ,Fm.vI,Fm.lT];simp [Fm.aI]at h
 |neg a j|cy a j|fin a j|ec a j=>intro o p x h;rw [Fz (by constructor)];rw [Fm.One.aI (by constructor)]at h;have k:=vO a o;by_cases g:p<Fm.size a;rw [Pp (by unfold Fm.size at g;exact g)]at h;rw [Pp ZO];exact j o p x h;rw [PD (by unfold Fm.size at g;omega)]at h;rw [PD ZO,k];have e:p-(Fm.aI a).length=p-Fm.size a:=rfl;rw [e]at h;rcases i:p-Fm.size a with _|q;rw [i]at h;simp at h;subst h;simp [Fm.iB,Fm.fp,Fm.nL,Fm.lS];omega;rw [i]at h;simp at h
 |and a b c d|or a b c d|imp a b c d|dA a b c d|rel a b c d=>intro o p x h;rw [FB (by constructor)];rw [Fm.gj.aI (by constructor)]at h;have k:=vO a o;have l:=vO b (o+Fm.size a);by_cases g:p<Fm.size a;rw [Pp (by unfold Fm.size at g;exact g)]at h;rw [Pp ZO];exact c o p x h;rw [PD (by unfold Fm.size at g;omega)]at h;rw [PD ZO,k];have e:p-(Fm.aI a).length=p-Fm.size a:=rfl;rw [e]at h;by_cases m:p-Fm.size a<Fm.size b;rw [Pp (by unfold Fm.size at *;exact m)]at h;rw [Pp ZO,d (o+Fm.size a) _ x h];congr 1;omega;rw [PD (by unfold Fm.size at *;omega)]at h;rw [PD ZO,l];have r:p-Fm.size a-(Fm.aI b).length=p-Fm.size a-Fm.size b:=rfl;rw [r]at h;rcases i:p-Fm.size a-Fm.size b with _|q;rw [i]at h;simp at h;subst h;simp [Fm.ki,Fm.mC,Fm.qo,Fm.km,Fm.kj];omega;rw [i]at h;simp at h
def fV:Nat->List Fm->List Int
 |_,[]=>[]
 |o,f::r=>kT o f++fV (o+Fm.size f) r
def dG:Nat->List Fm->List Int
 |_,[]=>[]
 |o,f::r=>(o:Int)::dG (o+Fm.size f) r
def fI:List Fm->List (Int×Int)
 |[]=>[]
 |f::r=>Fm.enc f++fI r
def bm:List Fm->Nat
 |[]=>0
 |f::r=>Fm.size f+bm r
def BQ:∀l,(fI l).length=bm l
 |[]=>rfl
 |f::r=>by show(Fm.enc f++fI r).length=_;rw [Pk,BQ r,Fm.dt];rfl
def lB:∀l m,fI (l++m)=fI l++fI m
 |[],m=>rfl
 |f::r,m=>by show Fm.enc f++fI (r++m)=(Fm.enc f++fI r)++_;rw [lB r m,Qe]
def rk:∀l m,bm (l++m)=bm l+bm m
 |[],m=>by show bm m=0+_;omega
 |f::r,m=>by show Fm.size f+bm (r++m)=Fm.size f+bm r+_;rw [rk r m];omega
def nP:∀l m o,fV o (l++m)=fV o l++fV (o+bm l) m
 |[],m,o=>rfl
 |f::r,m,o=>by
  show kT o f++fV _ (r++m)=(kT o f++fV _ r)++_;rw [nP r m,Qe];have:o+bm (f::r)=o+Fm.size f+bm r:=by show o+(Fm.size f+bm r)=_;omega
  rw [this]
def lN:∀l m o,dG o (l++m)=dG o l++dG (o+bm l) m
 |[],m,o=>rfl
 |f::r,m,o=>by
  show _::dG _ (r++m)=_::(dG _ r++_);rw [lN r m];have:o+bm (f::r)=o+Fm.size f+bm r:=by show o+(Fm.size f+bm r)=_;omega
  rw [this]
def qi:∀l o,(dG o l).length=l.length
 |[],_=>rfl
 |f::r,o=>by show(dG _ r).length+1=_;rw [qi r];rfl
def Cu{l f}(h:Fm.mQ f):fI (l++[f])=fI l++[Fm.aH f]/\dG 0 (l++[f])=dG 0 l++[((bm l:Nat):Int)]/\fV 0 (l++[f])=fV 0 l++[((bm l:Nat):Int)]:=by refine ⟨?_,?_,?_⟩;rw [lB];show _++(Fm.enc f++[])=_;rw [Qb,Fm.BS h];rw [lN,PU];rfl;rw [nP,PU];show _++(kT _ f++[])=_;rw [Qb,Kn h]
def LH{l a f}(h:Fm.One a f):fI (l++[f])=fI (l++[a])++[Fm.aH f]/\dG 0 (l++[f])=dG 0 (l++[a])/\dG 0 (l++[a])=dG 0 l++[((bm l:Nat):Int)]/\
 fV 0 (l++[f])=fV 0 (l++[a])++[((bm l:Nat):Int)]:=by
 have e:∀g,fI (l++[g])=fI l++Fm.enc g:=λg=>by rw [lB];show _++(Fm.enc g++[])=_;rw [Qb]
 have b:∀g,dG 0 (l++[g])=dG 0 l++[((bm l:Nat):Int)]:=λg=>by rw [lN,PU];rfl
 have c:∀g,fV 0 (l++[g])=fV 0 l++kT (bm l) g:=λg=>by rw [nP,PU];show _++(kT _ g++[])=_;rw [Qb]
 refine ⟨?_,?_,b a,?_⟩
 rw [e,e,Fm.nY h,Qe]
 rw [b,b]
 rw [c,c,Fz h,Qe]
def LI{l a b f}(h:Fm.gj a b f):fI (l++[f])=fI (l++[a,b])++[Fm.aH f]/\dG 0 (l++[f])=dG 0 l++[((bm l:Nat):Int)]/\
 dG 0 (l++[a,b])=dG 0 l++[((bm l:Nat):Int),((bm l+Fm.size a:Nat):Int)]/\fV 0 (l++[f])=fV 0 (l++[a,b])++[((bm l:Nat):Int)]:=by
 refine ⟨?_,?_,?_,?_⟩
 rw [lB,lB]
 show _++(Fm.enc f++[])=_++(Fm.enc a++(Fm.enc b++[]))++_
 rw [Qb,Qb,Fm.gH h]
 simp
 rw [lN,PU];rfl
 rw [lN,PU];rfl
 rw [nP,nP,PU]
 show _++(kT _ f++[])=_++(kT _ a++(kT _ b++[]))++_
 rw [Qb,Qb,FB h]
 simp
def et(a n c g w)(q:aG .i64 w a n g)(b:a=none->n=0/\c=0)(u:n<=1000000000):
 CL 91 #[SL a n c] w λe r=>∃d f,e=RT (SL d n f)/\aF .i64 3 w r (SL d n f) g:=by
 have⟨t,j,l,k,h⟩:=P6 Tryz.eA
 have m:=O8 q
 clear q
 cases a with
 |none=>
  obtain ⟨rfl,rfl⟩:=b rfl
  have i:=λW=>Rb (P:=prog) W 33 3 none 0 0 0 0 Rg
  go_enter func91,ntmps91
  go_wp2
  go_ret
  obtain rfl:g=[]:=Qy m.o.1
  exact ⟨none,0,rfl,lJ _ _ _⟩
 |some o=>
  have i:=λW=>Rb (P:=prog) W 33 3 (some o) n c 0 0 Rg
  go_enter func91,ntmps91
  go_wp2_with (at_builtin;refine qE rfl (.tmp 5) (.tmp 6) 33 rfl .i64 3 t (IV 0) 8 Rg j l k h rfl ZD rfl (some o) n c g rfl m.o nofun ZO ?_;intro d f r p;have s:=O8 p;clear p)
  go_ret
  exact ⟨d,f,rfl,s.o⟩
def gD(r a n c K q m t s w)(X:aG .i64 w a n K)(hn:n<=1000000000)(H:CA w q 0 t)(R:FZ w q 0)
 (I:Sl w 3 t m (s.map (Value.int .i64))) (v:t.ownBlock≠some q) (ab:m<=1000000000):
 CL 101 #[IV r,SL a n c,PT q] w λe J=>∃g U,e=RT (IV (if n=0 then r else K.getD 0 0))/\CA J q 0 (SV g (m+1) U)/\FZ J q 0/\
  Sl J 3 (SV g (m+1) U) (m+1) ((s++[if n=0 then r else K.getD 0 0]).map (Value.int .i64))/\aj (λb=>b=q\/t.ownBlock=some b) w J/\(t.ownBlock=some g\/w.heap.size<=g):=by
 have⟨Y,C,F,D,A⟩:=P6 Tryz.eA
 have T:=O8 I
 have⟨x,E⟩:=EX ((if n=0 then r else K.getD 0 0))
 obtain ⟨ao,aa,z,-⟩:=I.shape
 have j:=O8 v
 have G:Hid (q<w.heap.size):=O9 w _ H
 rw [E]
 have u:Hid (∀f l o,Sl o 3 (SV f (m+1) l) (m+1) (s.map (Value.int .i64)++[IV x])->aj (λb=>t.ownBlock=some b) w o->(t.ownBlock=some f\/w.heap.size<=f)->
  (o.setCell (AD q 0) (SV f (m+1) l)).cell? (AD q 0)=some (SV f (m+1) l)/\(o.setCell (AD q 0) (SV f (m+1) l)).frozen? (AD q 0)=false/\
  Sl (o.setCell (AD q 0) (SV f (m+1) l)) 3 (SV f (m+1) l) (m+1) ((s++[x]).map (Value.int .i64))/\
  aj (λb=>b=q\/t.ownBlock=some b) w (o.setCell (AD q 0) (SV f (m+1) l))/\(t.ownBlock=some f\/w.heap.size<=f)):=λf l o y d i=>by
  have S:(SV f (m+1) l).ownBlock≠some q:=λe=>by
   cases e
   obtain h|h:=i;exact j.o h;exact QE _ (Ps G.o h)
  refine ⟨P4 (h:=d.aq H j.o) ..,?_,?_,?_,i⟩
  rw [Qo];exact (PK (d.block q G.o j.o)).trans R
  rw [Qg];exact k8 y q 0 _ S
  exact (d.mono λk _ h=>.inr h).setCell (p:=(AD q 0)) (λ_=>.inl rfl) _
 by_cases V:n=0
 subst V
 rw [PW rfl]at E
 subst E
 clear I X v
 subst z
 go_enter func101,ntmps101
 go_wp2_with (at_builtin;refine av rfl (.tmp 14) (.tmp 16) 33 rfl 3 Y (IV 0) 8 Rg C F D A rfl ZD _ _ _ rfl T.o _ rfl rfl ZO ?_;intro f l o y d i;have Z:=d.aq H j.o;have f3:=(PK (d.block q G.o j.o)).trans R;have L:=O8 (u.o f l o y d i);clear y d i)
 go_ret
 have⟨M,N,O,P,Q⟩:=L.o
 exact ⟨f,l,rfl,M,N,O,P,Q⟩
 rw [Qa V]at E
 have W:(0:Int)<n:=ZO
 obtain ⟨-,h1|⟨b,ac,rfl,B⟩⟩:=X
 omega
 have cz:=B 0 ZO
 rw [E,SS]at cz
 clear I v B
 subst z
 go_enter func101,ntmps101
 go_wp2_with (at_builtin;refine av rfl (.tmp 14) (.tmp 16) 33 rfl 3 Y (IV 0) 8 Rg C F D A rfl ZD _ _ _ rfl T.o _ rfl rfl ZO ?_;intro f l o y d i;have Z:=d.aq H j.o;have f3:=(PK (d.block q G.o j.o)).trans R;have L:=O8 (u.o f l o y d i);clear y d i)
 go_ret
 have⟨M,N,O,P,Q⟩:=L.o
 exact ⟨f,l,rfl,M,N,O,P,Q⟩
section
def Pd:=@List.getD_eq_getElem?_getD
def Pe:=@List.getElem?_eq_getElem
def PH:=@decide_eq_false
def PX:=@decide_eq_true
def Qf:=@List.take_add_one
def Qx:=@List.mem_map
def QF:=@List.getElem_mem
def RH:=@congrArg
def RR:=@List.take_append_of_le_length
def RY:=@List.length_reverse
def Tn:=@List.take_append_drop
structure WI (w0 w:WD) (q:Nat) (v vo:Value) (F:List (Int×Int)) (i:Nat) (l:List Fm):Prop where
 mN:Sl w 3 v l.length ((dG 0 l).map (Value.int .i64))
 cell:w.cell? (AD q 0)=some vo
 fr:w.frozen? (AD q 0)=false
 o:Sl w 3 vo i ((fV 0 l).map (Value.int .i64))
 Na:v.ownBlock≠some q
 KP:vo.ownBlock≠some q
 ne:∀b,v.ownBlock=some b->vo.ownBlock≠some b
 Cm:∀b,v.ownBlock=some b->w0.heap.size<=b
 Cn:∀b,vo.ownBlock=some b->w0.heap.size<=b
 Nc:w0.heap.size<=q
 aJ:BW w0 w
 NH:(F.take i).map ig=fI l
 ok:∀f∈l,eh f
section
variable {w0 w w1:WD} {q:Nat} {v vo:Value} {F:List (Int×Int)} {i:Nat} {l:List Fm}
def rp{e v n a}(h:Sl w e v n a)(c:BW w w1):Sl w1 e v n a:=
 Sl.ax h (aj.aC c) (λb e s=>ZH (h.lt b e))
def WI.ag(h:WI w0 w q v vo F i l)(a:BW w w1):WI w0 w1 q v vo F i l:=by have b:=O9 w _ h.cell;have c:=(a.cell b).trans h.cell;have d:FZ w1 q 0:=(PK ((aj.aC a).block q b (λe=>QE _ (Ps b e)))).trans h.fr;exact ⟨rp h.mN a,c,d,rp h.o a,h.Na,h.KP,h.ne,h.Cm,h.Cn,h.Nc,h.aJ.trans (a.mono h.aJ.size),h.NH,h.ok⟩
def WI.size(h:WI w0 w q v vo F i l)(a:i<=F.length):bm l=i:=by have:=RH List.length h.NH;rw [BQ,PB,QI]at this;omega
def oz{j Q p a}(s){f g I E R m x}{P:Value}(h:WI w0 w q v vo F i a)(T:i<F.length)(Y:m=p.length)
 (z:fI (p++[f])=fI a++[ig (F.getD i (0,0))]) (A:dG 0 (p++[f])=dG 0 p++[x]) (B:fV 0 (p++[f])=fV 0 a++[x]) (K:eh f) (r:a=p++s)
 (S:CA j q 0 (SV g (i+1) I)) (V:FZ j q 0) (U:Sl j 3 (SV g (i+1) I) (i+1) ((fV 0 a++[x]).map (Value.int .i64)))
 (Z:aj (λb=>b=q\/vo.ownBlock=some b) w j) (O:vo.ownBlock=some g\/w.heap.size<=g)
 (s4:Sl Q 3 (SV E (m+1) R) (m+1) ((dG 0 p).map (Value.int .i64)++[IV x])) (D:aj (λk=>P.ownBlock=some k) j Q) (G:P.ownBlock=some E\/j.heap.size<=E) (N:P.ownBlock=v.ownBlock):
 WI w0 Q q (SV E (m+1) R) (SV g (i+1) I) F (i+1) (p++[f]):=by
 subst Y
 rw [N]at D G
 have L:q<j.heap.size:=O9 j _ S
 have M:q<w.heap.size:=O9 w _ h.cell
 have W:g<j.heap.size:=U.lt g rfl
 have J:g≠q:=λe=>by subst e;obtain m|m:=O;exact h.KP m;exact QE _ (Ps M m)
 have C:v.ownBlock≠some g:=λe=>by obtain m|m:=O;exact h.ne g e m;exact QE _ (Ps (h.mN.lt g e) m)
 have d:∀n c b (o:Nat),(SV b n c).ownBlock=some o->b=o:=λn c b o e=>by cases e;rfl
 have H:=h.aJ.trans (Z.ag h.aJ.size (λk X e=>by obtain e|e:=e;have:=h.Nc;omega;have:=h.Cn k e;omega))
 refine ⟨?_,D.aq S h.Na,?_,?_,λe=>?_,λe=>J (d _ _ _ _ e),λb e t=>?_,λb e=>?_,λb e=>?_,h.Nc,?_,?_,λy u=>?_⟩
 rw [Pk,A,Qg];exact s4
 exact (PK (D.block q L h.Na)).trans V
 rw [B]
 exact Sl.ax U D (λb e t=>by rw [<-d _ _ _ _ e]at t;exact C t)
 have e:=d _ _ _ _ e
 subst e
 obtain m|m:=G
 exact h.Na m
 omega
 have e:=d _ _ _ _ e
 have t:=d _ _ _ _ t
 subst e
 subst t
 obtain m|m:=G
 exact C m
 omega
 have e:=d _ _ _ _ e
 subst e
 obtain m|m:=G
 exact h.Cm _ m
 exact PG H.size m
 have e:=d _ _ _ _ e
 subst e
 obtain m|m:=O
 exact h.Cn _ m
 exact PG h.aJ.size m
 exact H.trans (D.ag H.size (λk X e=>ZH (h.Cm k e)))
 rw [z,<-h.NH]
 have e:F.take (i+1)=F.take i++[F.getD i (0,0)]:=by rw [Qf,Pe T,Pd,Pe T];rfl
 rw [e,Qg];rfl
 obtain u|u:=PC.1 u
 exact h.ok y (by rw [r];exact P0 _ u)
 rw [Pc]at u;subst u;exact K
def rH{t j a g s m n}(d)(h:WI w0 w q (SV g n s) vo F i a)(u:aj (λb=>b=q\/vo.ownBlock=some b) w t)(x:m=j.length)(c:a=j++d):
 Sl t 3 (SV g m s) m ((dG 0 j).map (Value.int .i64)):=by
 have r:n=a.length:=(de h.mN).2.2
 have o:=h.mN
 rw [<-r]at o
 have k:m<=n:=by rw [r,c,Pk];omega
 have p:=nM o k
 have e:((dG 0 a).map (Value.int .i64)).take m=(dG 0 j).map (Value.int .i64):=by rw [<-List.map_take,c,lN,RR (by rw [qi];omega),PI (by rw [qi];omega)]
 rw [e]at p
 exact Sl.ax p u (λb e f=>by
  cases e
  obtain f|f:=f;exact h.Na (by rw [<-f];rfl);exact h.ne g rfl f)
def KG{l0 a g y m n k f}(h:WI w0 w q (SV g n y) vo F i a)(B:m=l0.length)(d:dG 0 a=dG 0 l0++f)(t:f.length=k):aG .i64 w (some (AD g m)) k f:=by
 have u:n=a.length:=(de h.mN).2.2;have o:=h.mN;rw [<-u]at o;have⟨r,c⟩:=(Ar.of o).rowAt;refine ⟨t,?_⟩;obtain c|⟨b,x,e,s⟩:=c;left;have:(dG 0 a).length=0:=ZR r c;rw [d,Pk]at this;omega;cases e
 refine .inr ⟨g,m,rfl,λj z=>?_⟩;have A:=qi l0 0;have p:=s (m+j) (by have:=RH List.length d;rw [Pk]at this;omega)
 rw [PU]at p;rw [p,d,Pd,PD ZO,Pd];have e:m+j-(dG 0 l0).length=j:=ZO;rw [e]
end
def Bg{l:List Fm}{n}(h:l.length=n+1):∃b a,l=b++[a]/\b.length=n:=by
 have c:l≠[]:=λe=>by subst e;simp at h
 obtain e|⟨b,a,e⟩:=Tm l;exact absurd e c;rw [Tl]at e;exact ⟨b,a,e,by rw [e,Pk]at h;simpa using h⟩
def Kr(a):tk a=-1\/tk a=0\/tk a=1\/tk a=2:=by unfold tk;split;omega;split;omega;split<;>omega
def xV:∀l r a,Fm.run (fI l++r) a=Fm.run r (l.reverse++a)
 |[],r,a=>rfl
 |f::l,r,a=>by show Fm.run ((Fm.enc f++fI l)++r) a=_;rw [Qe,Fm.om,xV l];simp
def wD{w0 w q v vo F i l}(h:WI w0 w q v vo F i l)(b:i<F.length)(c:Fm.step (ig (F.getD i (0,0))) l.reverse=none):∀f,¬jQ F f:=by
 intro f d;have a:=Fm.om f [] [];rw [Qb,<-d.1]at a;have e:F.map ig=fI l++(ig (F.getD i (0,0))::(F.drop (i+1)).map ig):=by
  rw [<-h.NH];conv=>lhs;rw [<-Tn i F,Qg]
  rw [TL b,Pv,Pd,Pe b];rfl
 rw [e,xV]at a;rw [Qb]at a;simp only [Fm.run,c]at a;cases a
def zj{F i n}(c:i<F.length)(hF:F.getD i (0,0)=(3,n))(h:n<0\/8<=n):∀f,¬jQ F f:=by
 intro f b;have a:ig (F.getD i (0,0))∈F.map ig:=Qx.2 ⟨_,by rw [Pd,Pe c];exact QF c,rfl⟩;rw [b.1,hF]at a;unfold Fm.enc at a;have⟨x,g,e⟩:=Qx.1 a;have d:Fm.aH x=(3,n):=e;cases x<;>simp [Fm.aH]at d
 rename_i k;have:=b.2 _ g k rfl;omega
def rA{a n b}(h:tk a=-1\/(tk a=1/\b.length=0)\/(tk a=2/\b.length<2)):Fm.step (ig (a,n)) b=none:=by
 have e:ig (a,n)=(a,(ig (a,n)).2):=by unfold ig;split<;>rfl
 rw [e];generalize (ig (a,n)).2=m;unfold Fm.step;split<;>first
  |rfl
  |(rename_i c;obtain ⟨rfl,rfl⟩:_/\_:=ZX c
    revert h;simp [tk])
  |(revert h;simp [tk])
def IJ(w0:WD)(q:Nat)(F:List (Int×Int))(n:Nat)(e:Ending)(g:WD):Prop:=
 (∃d:Int,e=RT (.tuple #[SN,IV d])/\d≠0/\BW w0 g/\∀f,¬jQ F f)\/
 ∃a c b vo l,e=RT (.tuple #[SL a c b,IV 0])/\WI w0 g q (SL a c b) vo F n l
def KI(a n c F q w0 w)(hF:bD w0 a n F)(hn:n<=1000000)(h0:WI w0 w q (SN) (SN) F 0 []):
 CL 100 #[SL a n c,.func (.func 101) #[] #[PT q]] w (IJ w0 q F n):=by
 have⟨i3,ao,aq,ap,an⟩:=P6 Tryz.eA
 have HN:=O8 hn
 have ag:Hid (F.length=n):=hF.1
 have HF:=O8 hF
 have H0:=O8 h0
 clear h0 hF
 go_enter func100,ntmps100
 go_upto_region 3 with(fail)
 go_loopw [6,14] (λv x wr=>∃i:Nat,i<=n/\x=IV i/\∃sa j I vo l,v=SL sa j I/\Hid (WI w0 wr q (SL sa j I) vo F i l)) (λ_ x _=>n-(intOf x).toNat)
 exact ⟨0,Pz _,rfl,none,0,0,_,_,rfl,H0⟩
 clear H0
 obtain ⟨i,hi,rfl,sa,j,I,vo,l,rfl,hw⟩:=hrel
 have aL:j=l.length:=(de hw.o.mN).2.2
 have L:=O8 aL
 clear aL
 by_cases ai:i<n
 ·have aP:(i:Int)<n:=ZO;obtain ⟨-,h1|⟨b,aS,rfl,hc⟩⟩:=HF.o.ag hw.o.aJ
  ·omega
  have⟨ci,cn⟩:=hc i ai;have⟨op,aI⟩:=EX ((F.getD i (0,0)).1);have⟨nn,aH⟩:=EX ((F.getD i (0,0)).2);have al:Hid (F.getD i (0,0)=(op,nn)):=by show _=_;rw [<-aI,<-aH]
  rw [aI]at ci;rw [aH]at cn;clear hc aI aH;have aK:BW wr (wr.alloc (CE #[IV op,IV nn] 32)):=(Pn _ _).alloc (Pf _) _;have d0:(wr.alloc (CE #[IV op,IV nn] 32)).cell? (AD wr.heap.size 0)=some (IV op):=Py (w:=wr) _ 32 wr.heap.size 0 rfl;have d1:(wr.alloc (CE #[IV op,IV nn] 32)).cell? (AD wr.heap.size 1)=some (IV nn):=Py (w:=wr) _ 32 wr.heap.size 1 rfl;have s:=O8 (hw.o.ag aK);go_upto_region 5 with(fail);clear aK ci cn hw;generalize wr.alloc (CE #[IV op,IV nn] 32)=w1 at *;generalize wr.heap.size=qn at *;have aR:j<=n:=by
   have h1:=s.o.size (ZR ag.o hi);have h2:∀l:List Fm,l.length<=bm l:=by
    intro l;induction l with
    |nil=>exact Pf _
    |cons f r ih=>have:=Fm.br f;show r.length+1<=Fm.size f+bm r;omega
   have:=h2 l;have:=L.o;omega
  have aA:=O8 (s.o.size (ZR ag.o hi));have am:Hid (BW w0 w1):=s.o.aJ;have aQ:=(de s.o.mN).1;obtain h|h|h|h:=Kr op
  ·have HT:Hid (CL 131 #[IV op] w1 λe p=>e=RT (IV (-1))/\p=w1):=by have:=lW op w1;rwa [h]at this
   have aa:Hid (∀f,¬jQ F f):=wD s.o (ZR ag.o ai) (by rw [al.o];exact rA (.inl h));clear h;go_wp2_with (go_at_call 131;apply HT.o.mono;rintro e p ⟨rfl,rfl⟩);go_ret2;exact .inl ⟨3,rfl,ZD,am.o,aa.o⟩
  ·have HT:Hid (CL 131 #[IV op] w1 λe p=>e=RT (IV 0)/\p=w1):=by have:=lW op w1;rwa [h]at this
   have t9:¬(j:Int)<0:=ZO;by_cases K:op=3
   ·subst K;by_cases ax:nn<0
    ·have t0:decide (nn<0)=true:=PX ax;have aa:Hid (∀f,¬jQ F f):=zj (ZR ag.o ai) al.o (.inl ax)
     go_wp2_with (go_at_call 131;apply HT.o.mono;rintro e p ⟨rfl,rfl⟩);go_ret2;exact .inl ⟨10,rfl,ZD,am.o,aa.o⟩
    ·have t0:decide (nn<0)=false:=PH ax;by_cases aw:8<=nn
     ·have t1:decide (8<=nn)=true:=PX aw;have aa:Hid (∀f,¬jQ F f):=zj (ZR ag.o ai) al.o (.inr aw)
      go_wp2_with (go_at_call 131;apply HT.o.mono;rintro e p ⟨rfl,rfl⟩);go_ret2;exact .inl ⟨10,rfl,ZD,am.o,aa.o⟩
     ·have t1:decide (8<=nn)=false:=PH aw;have⟨f,hf,E,N⟩:=Jt (op:=3) (n:=nn) rfl (λ_=>ZO)
      have⟨p1,p2,p3⟩:=Cu (l:=l) hf;rw [aA.o]at p2 p3;have ab:Hid (fI (l++[f])=fI l++[ig (F.getD i (0,0))]):=by show _=_;rw [p1,E,al.o]
      have ac:=O8 p2;have af:=O8 p3;have ae:=O8 N;clear hf E N h p1 p2 p3;obtain ⟨hv,hz⟩|⟨g,aC,aD,hv,-⟩:=s.o.mN.2
      ·injection hv with e1 e2 e3;subst e1
       subst e2;subst e3;have ah:Hid (∀d o C t B z D,WI w0 d q (SN) vo F i l->CA o q 0 (SV t (i+1) B)->FZ o q 0->Sl o 3 (SV t (i+1) B) (i+1) ((fV 0 l++[(i:Int)]).map (Value.int .i64))->
        aj (λb=>b=q\/vo.ownBlock=some b) d o->(vo.ownBlock=some t\/d.heap.size<=t)->Sl C 3 (SV z (0+1) D) (0+1) ((dG 0 l).map (Value.int .i64)++[IV i])->aj (λk=>Value.ownBlock (SN)=some k) o C->(Value.ownBlock (SN)=some z\/o.heap.size<=z)->
        WI w0 C q (SV z (0+1) D) (SV t (i+1) B) F (i+1) (l++[f])):=λd o C t B z D h K M Q O P s4 k4 m4=>
        oz ([]) h (ZR ag.o ai) L.o ab.o ac.o af.o ae.o ZS K M Q O P s4 k4 m4 rfl
       have R:Hid (CL 91 #[SN] w1 λe p=>∃u A,e=RT (SL u 0 A)/\aF .i64 3 w1 p (SL u 0 A) []):=et _ _ _ _ _ ⟨rfl,.inl rfl⟩ (λ_=>⟨rfl,rfl⟩) ZO;have Y:Hid (∀W u A,aG .i64 W u 0 []->BW w1 W->CL 101 #[IV i,SL u 0 A,PT q] W λe p=>∃g co,e=RT (IV i)/\CA p q 0 (SV g (i+1) co)/\FZ p q 0/\
        Sl p 3 (SV g (i+1) co) (i+1) ((fV 0 l++[(i:Int)]).map (Value.int .i64))/\aj (λb=>b=q\/vo.ownBlock=some b) W p/\(vo.ownBlock=some g\/W.heap.size<=g)):=λW u A hr hb=>by
        have hw:=s.o.ag hb
        exact gD (i:Int) u 0 A [] q i vo _ W hr ZO hw.cell hw.fr hw.o hw.KP ZO
       go_upto_region 13 with(go_at_call 131;apply HT.o.mono;rintro e p ⟨rfl,rfl⟩);go_upto_region 14 with(first
        |(go_at_call 91;apply R.o.mono;rintro e d ⟨a2,c2,rfl,hm⟩;have T:=O8 hm;clear hm)
        |(go_at_call 101;refine (Y.o d a2 c2 (cT T.o) (aX T.o)).mono ?_;rintro e o ⟨t,B,rfl,K,M,Q,O,P⟩;have H3:=O8 K;have F3:=O8 M;have O3:=O8 Q;have K3:=O8 O;have M3:=O8 P;clear K M Q O P))
       all_goals
        have J:=O8 (s.o.ag (aX T.o))
        have V:Hid (Sl o 3 (SN) 0 ((dG 0 l).map (Value.int .i64))):=by have e0:l=[]:=Qy L.o.symm;show Sl o 3 (SN) 0 _;rw [e0];exact Qd _ _ _ _
        go_wp2_with (at_builtin;refine av rfl (.tmp 57) (.tmp 59) 33 rfl 3 i3 (IV 0) 8 Rg ao aq ap an rfl ZD (SN) 0 _ rfl V.o (IV i) rfl rfl ZO ?_;intro z D C hs G H;have X:=O8 hs;have S:=O8 G;have Z:=O8 H;clear hs G H)
        have U:Hid (WI w0 C q (SV z (0+1) D) (SV t (i+1) B) F (i+1) (l++[f])):=ah.o d o C t B z D J.o H3.o F3.o O3.o K3.o M3.o X.o S.o Z.o
        go_roundw
        exact ⟨i+1,ZO,ZN,_,_,_,_,_,rfl,U⟩
        simp [intOf];omega
      ·injection hv with e1 e2 e3;subst e1
       clear e2 e3;have ah:Hid (∀d o C t B z D,WI w0 d q (SV g j I) vo F i l->CA o q 0 (SV t (i+1) B)->FZ o q 0->Sl o 3 (SV t (i+1) B) (i+1) ((fV 0 l++[(i:Int)]).map (Value.int .i64))->
        aj (λb=>b=q\/vo.ownBlock=some b) d o->(vo.ownBlock=some t\/d.heap.size<=t)->Sl C 3 (SV z (j+1) D) (j+1) ((dG 0 l).map (Value.int .i64)++[IV i])->aj (λk=>Value.ownBlock (SV g j I)=some k) o C->(Value.ownBlock (SV g j I)=some z\/o.heap.size<=z)->
        WI w0 C q (SV z (j+1) D) (SV t (i+1) B) F (i+1) (l++[f])):=λd o C t B z D h K M Q O P s4 k4 m4=>
        oz ([]) h (ZR ag.o ai) L.o ab.o ac.o af.o ae.o ZS K M Q O P s4 k4 m4 rfl
       by_cases aE:j<I
       ·have tm:(j:Int)<I:=ZO;have az:¬I-j=0:=ZO
        have R:Hid (∀(ad:Addr)(cc:Nat),CL 91 #[SL (some ad) 0 cc] w1 λe p=>∃u A,e=RT (SL u 0 A)/\aF .i64 3 w1 p (SL u 0 A) []):=λad cc=>et _ _ _ _ _ ⟨rfl,.inl rfl⟩ nofun ZO;have Y:Hid (∀W u A,aG .i64 W u 0 []->BW w1 W->CL 101 #[IV i,SL u 0 A,PT q] W λe p=>∃g co,e=RT (IV i)/\CA p q 0 (SV g (i+1) co)/\FZ p q 0/\
         Sl p 3 (SV g (i+1) co) (i+1) ((fV 0 l++[(i:Int)]).map (Value.int .i64))/\aj (λb=>b=q\/vo.ownBlock=some b) W p/\(vo.ownBlock=some g\/W.heap.size<=g)):=λW u A hr hb=>by
         have hw:=s.o.ag hb
         exact gD (i:Int) u 0 A [] q i vo _ W hr ZO hw.cell hw.fr hw.o hw.KP ZO
        have ak:Hid (∀d W,WI w0 d q (SV g j I) vo F i l->aj (λb=>b=q\/vo.ownBlock=some b) d W->Sl W 3 (SV g j I) j ((dG 0 l).map (Value.int .i64))):=λd W h k=>rH [] h k L.o ZS;go_upto_region 13 with(go_at_call 131;apply HT.o.mono;rintro e p ⟨rfl,rfl⟩);go_upto_region 14 with(first
         |(go_at_call 91;refine (R.o _ _).mono ?_;rintro e d ⟨a2,c2,rfl,hm⟩;have T:=O8 hm;clear hm)
         |(go_at_call 101;refine (Y.o d a2 c2 (cT T.o) (aX T.o)).mono ?_;rintro e o ⟨t,B,rfl,K,M,Q,O,P⟩;have H3:=O8 K;have F3:=O8 M;have O3:=O8 Q;have K3:=O8 O;have M3:=O8 P;clear K M Q O P))
        all_goals
         have J:=O8 (s.o.ag (aX T.o))
         have V:Hid (Sl o 3 (SV g j I) j ((dG 0 l).map (Value.int .i64))):=ak.o d o J.o K3.o
         go_wp2_with (at_builtin;refine av rfl (.tmp 57) (.tmp 59) 33 rfl 3 i3 (IV 0) 8 Rg ao aq ap an rfl ZD (SV g j I) j _ rfl V.o (IV i) rfl rfl ZO ?_;intro z D C hs G H;have X:=O8 hs;have S:=O8 G;have Z:=O8 H;clear hs G H)
         have U:Hid (WI w0 C q (SV z (j+1) D) (SV t (i+1) B) F (i+1) (l++[f])):=ah.o d o C t B z D J.o H3.o F3.o O3.o K3.o M3.o X.o S.o Z.o
         go_roundw
         exact ⟨i+1,ZO,ZN,_,_,_,_,_,rfl,U⟩
         simp [intOf];omega
       ·obtain rfl:j=I:=ZO;have az:j-j=0:=ZO
        have R:Hid (∀(ad:Addr)(cc:Nat),CL 91 #[SL (some ad) 0 cc] w1 λe p=>∃u A,e=RT (SL u 0 A)/\aF .i64 3 w1 p (SL u 0 A) []):=λad cc=>et _ _ _ _ _ ⟨rfl,.inl rfl⟩ nofun ZO;have Y:Hid (∀W u A,aG .i64 W u 0 []->BW w1 W->CL 101 #[IV i,SL u 0 A,PT q] W λe p=>∃g co,e=RT (IV i)/\CA p q 0 (SV g (i+1) co)/\FZ p q 0/\
         Sl p 3 (SV g (i+1) co) (i+1) ((fV 0 l++[(i:Int)]).map (Value.int .i64))/\aj (λb=>b=q\/vo.ownBlock=some b) W p/\(vo.ownBlock=some g\/W.heap.size<=g)):=λW u A hr hb=>by
         have hw:=s.o.ag hb
         exact gD (i:Int) u 0 A [] q i vo _ W hr ZO hw.cell hw.fr hw.o hw.KP ZO
        have ak:Hid (∀d W,WI w0 d q (SV g j j) vo F i l->aj (λb=>b=q\/vo.ownBlock=some b) d W->Sl W 3 (SV g j j) j ((dG 0 l).map (Value.int .i64))):=λd W h k=>rH [] h k L.o ZS;go_upto_region 13 with(go_at_call 131;apply HT.o.mono;rintro e p ⟨rfl,rfl⟩);go_upto_region 14 with(first
         |(go_at_call 91;refine (R.o _ _).mono ?_;rintro e d ⟨a2,c2,rfl,hm⟩;have T:=O8 hm;clear hm)
         |(go_at_call 101;refine (Y.o d a2 c2 (cT T.o) (aX T.o)).mono ?_;rintro e o ⟨t,B,rfl,K,M,Q,O,P⟩;have H3:=O8 K;have F3:=O8 M;have O3:=O8 Q;have K3:=O8 O;have M3:=O8 P;clear K M Q O P))
        all_goals
         have J:=O8 (s.o.ag (aX T.o))
         have V:Hid (Sl o 3 (SV g j j) j ((dG 0 l).map (Value.int .i64))):=ak.o d o J.o K3.o
         go_wp2_with (at_builtin;refine av rfl (.tmp 57) (.tmp 59) 33 rfl 3 i3 (IV 0) 8 Rg ao aq ap an rfl ZD (SV g j j) j _ rfl V.o (IV i) rfl rfl ZO ?_;intro z D C hs G H;have X:=O8 hs;have S:=O8 G;have Z:=O8 H;clear hs G H)
         have U:Hid (WI w0 C q (SV z (j+1) D) (SV t (i+1) B) F (i+1) (l++[f])):=ah.o d o C t B z D J.o H3.o F3.o O3.o K3.o M3.o X.o S.o Z.o
         go_roundw
         exact ⟨i+1,ZO,ZN,_,_,_,_,_,rfl,U⟩
         simp [intOf];omega
   ·have t0:(op==3)=false:=Pq.2 K;have⟨f,hf,E,N⟩:=Jt (op:=op) (n:=nn) h (λe=>absurd e K)
    have⟨p1,p2,p3⟩:=Cu (l:=l) hf;rw [aA.o]at p2 p3;have ab:Hid (fI (l++[f])=fI l++[ig (F.getD i (0,0))]):=by show _=_;rw [p1,E,al.o]
    have ac:=O8 p2;have af:=O8 p3;have ae:=O8 N;clear hf E N h p1 p2 p3;obtain ⟨hv,hz⟩|⟨g,aC,aD,hv,-⟩:=s.o.mN.2
    ·injection hv with e1 e2 e3;subst e1
     subst e2;subst e3;have ah:Hid (∀d o C t B z D,WI w0 d q (SN) vo F i l->CA o q 0 (SV t (i+1) B)->FZ o q 0->Sl o 3 (SV t (i+1) B) (i+1) ((fV 0 l++[(i:Int)]).map (Value.int .i64))->
      aj (λb=>b=q\/vo.ownBlock=some b) d o->(vo.ownBlock=some t\/d.heap.size<=t)->Sl C 3 (SV z (0+1) D) (0+1) ((dG 0 l).map (Value.int .i64)++[IV i])->aj (λk=>Value.ownBlock (SN)=some k) o C->(Value.ownBlock (SN)=some z\/o.heap.size<=z)->
      WI w0 C q (SV z (0+1) D) (SV t (i+1) B) F (i+1) (l++[f])):=λd o C t B z D h K M Q O P s4 k4 m4=>
      oz ([]) h (ZR ag.o ai) L.o ab.o ac.o af.o ae.o ZS K M Q O P s4 k4 m4 rfl
     have R:Hid (CL 91 #[SN] w1 λe p=>∃u A,e=RT (SL u 0 A)/\aF .i64 3 w1 p (SL u 0 A) []):=et _ _ _ _ _ ⟨rfl,.inl rfl⟩ (λ_=>⟨rfl,rfl⟩) ZO;have Y:Hid (∀W u A,aG .i64 W u 0 []->BW w1 W->CL 101 #[IV i,SL u 0 A,PT q] W λe p=>∃g co,e=RT (IV i)/\CA p q 0 (SV g (i+1) co)/\FZ p q 0/\
      Sl p 3 (SV g (i+1) co) (i+1) ((fV 0 l++[(i:Int)]).map (Value.int .i64))/\aj (λb=>b=q\/vo.ownBlock=some b) W p/\(vo.ownBlock=some g\/W.heap.size<=g)):=λW u A hr hb=>by
      have hw:=s.o.ag hb
      exact gD (i:Int) u 0 A [] q i vo _ W hr ZO hw.cell hw.fr hw.o hw.KP ZO
     go_upto_region 13 with(go_at_call 131;apply HT.o.mono;rintro e p ⟨rfl,rfl⟩);go_upto_region 14 with(first
      |(go_at_call 91;apply R.o.mono;rintro e d ⟨a2,c2,rfl,hm⟩;have T:=O8 hm;clear hm)
      |(go_at_call 101;refine (Y.o d a2 c2 (cT T.o) (aX T.o)).mono ?_;rintro e o ⟨t,B,rfl,K,M,Q,O,P⟩;have H3:=O8 K;have F3:=O8 M;have O3:=O8 Q;have K3:=O8 O;have M3:=O8 P;clear K M Q O P))
     all_goals
      have J:=O8 (s.o.ag (aX T.o))
      have V:Hid (Sl o 3 (SN) 0 ((dG 0 l).map (Value.int .i64))):=by have e0:l=[]:=Qy L.o.symm;show Sl o 3 (SN) 0 _;rw [e0];exact Qd _ _ _ _
      go_wp2_with (at_builtin;refine av rfl (.tmp 57) (.tmp 59) 33 rfl 3 i3 (IV 0) 8 Rg ao aq ap an rfl ZD (SN) 0 _ rfl V.o (IV i) rfl rfl ZO ?_;intro z D C hs G H;have X:=O8 hs;have S:=O8 G;have Z:=O8 H;clear hs G H)
      have U:Hid (WI w0 C q (SV z (0+1) D) (SV t (i+1) B) F (i+1) (l++[f])):=ah.o d o C t B z D J.o H3.o F3.o O3.o K3.o M3.o X.o S.o Z.o
      go_roundw
      exact ⟨i+1,ZO,ZN,_,_,_,_,_,rfl,U⟩
      simp [intOf];omega
    ·injection hv with e1 e2 e3;subst e1
     clear e2 e3;have ah:Hid (∀d o C t B z D,WI w0 d q (SV g j I) vo F i l->CA o q 0 (SV t (i+1) B)->FZ o q 0->Sl o 3 (SV t (i+1) B) (i+1) ((fV 0 l++[(i:Int)]).map (Value.int .i64))->
      aj (λb=>b=q\/vo.ownBlock=some b) d o->(vo.ownBlock=some t\/d.heap.size<=t)->Sl C 3 (SV z (j+1) D) (j+1) ((dG 0 l).map (Value.int .i64)++[IV i])->aj (λk=>Value.ownBlock (SV g j I)=some k) o C->(Value.ownBlock (SV g j I)=some z\/o.heap.size<=z)->
      WI w0 C q (SV z (j+1) D) (SV t (i+1) B) F (i+1) (l++[f])):=λd o C t B z D h K M Q O P s4 k4 m4=>
      oz ([]) h (ZR ag.o ai) L.o ab.o ac.o af.o ae.o ZS K M Q O P s4 k4 m4 rfl
     by_cases aE:j<I
     ·have tm:(j:Int)<I:=ZO;have az:¬I-j=0:=ZO
      have R:Hid (∀(ad:Addr)(cc:Nat),CL 91 #[SL (some ad) 0 cc] w1 λe p=>∃u A,e=RT (SL u 0 A)/\aF .i64 3 w1 p (SL u 0 A) []):=λad cc=>et _ _ _ _ _ ⟨rfl,.inl rfl⟩ nofun ZO;have Y:Hid (∀W u A,aG .i64 W u 0 []->BW w1 W->CL 101 #[IV i,SL u 0 A,PT q] W λe p=>∃g co,e=RT (IV i)/\CA p q 0 (SV g (i+1) co)/\FZ p q 0/\
       Sl p 3 (SV g (i+1) co) (i+1) ((fV 0 l++[(i:Int)]).map (Value.int .i64))/\aj (λb=>b=q\/vo.ownBlock=some b) W p/\(vo.ownBlock=some g\/W.heap.size<=g)):=λW u A hr hb=>by
       have hw:=s.o.ag hb
       exact gD (i:Int) u 0 A [] q i vo _ W hr ZO hw.cell hw.fr hw.o hw.KP ZO
      have ak:Hid (∀d W,WI w0 d q (SV g j I) vo F i l->aj (λb=>b=q\/vo.ownBlock=some b) d W->Sl W 3 (SV g j I) j ((dG 0 l).map (Value.int .i64))):=λd W h k=>rH [] h k L.o ZS;go_upto_region 13 with(go_at_call 131;apply HT.o.mono;rintro e p ⟨rfl,rfl⟩);go_upto_region 14 with(first
       |(go_at_call 91;refine (R.o _ _).mono ?_;rintro e d ⟨a2,c2,rfl,hm⟩;have T:=O8 hm;clear hm)
       |(go_at_call 101;refine (Y.o d a2 c2 (cT T.o) (aX T.o)).mono ?_;rintro e o ⟨t,B,rfl,K,M,Q,O,P⟩;have H3:=O8 K;have F3:=O8 M;have O3:=O8 Q;have K3:=O8 O;have M3:=O8 P;clear K M Q O P))
      all_goals
       have J:=O8 (s.o.ag (aX T.o))
       have V:Hid (Sl o 3 (SV g j I) j ((dG 0 l).map (Value.int .i64))):=ak.o d o J.o K3.o
       go_wp2_with (at_builtin;refine av rfl (.tmp 57) (.tmp 59) 33 rfl 3 i3 (IV 0) 8 Rg ao aq ap an rfl ZD (SV g j I) j _ rfl V.o (IV i) rfl rfl ZO ?_;intro z D C hs G H;have X:=O8 hs;have S:=O8 G;have Z:=O8 H;clear hs G H)
       have U:Hid (WI w0 C q (SV z (j+1) D) (SV t (i+1) B) F (i+1) (l++[f])):=ah.o d o C t B z D J.o H3.o F3.o O3.o K3.o M3.o X.o S.o Z.o
       go_roundw
       exact ⟨i+1,ZO,ZN,_,_,_,_,_,rfl,U⟩
       simp [intOf];omega
     ·obtain rfl:j=I:=ZO;have az:j-j=0:=ZO
      have R:Hid (∀(ad:Addr)(cc:Nat),CL 91 #[SL (some ad) 0 cc] w1 λe p=>∃u A,e=RT (SL u 0 A)/\aF .i64 3 w1 p (SL u 0 A) []):=λad cc=>et _ _ _ _ _ ⟨rfl,.inl rfl⟩ nofun ZO;have Y:Hid (∀W u A,aG .i64 W u 0 []->BW w1 W->CL 101 #[IV i,SL u 0 A,PT q] W λe p=>∃g co,e=RT (IV i)/\CA p q 0 (SV g (i+1) co)/\FZ p q 0/\
       Sl p 3 (SV g (i+1) co) (i+1) ((fV 0 l++[(i:Int)]).map (Value.int .i64))/\aj (λb=>b=q\/vo.ownBlock=some b) W p/\(vo.ownBlock=some g\/W.heap.size<=g)):=λW u A hr hb=>by
       have hw:=s.o.ag hb
       exact gD (i:Int) u 0 A [] q i vo _ W hr ZO hw.cell hw.fr hw.o hw.KP ZO
      have ak:Hid (∀d W,WI w0 d q (SV g j j) vo F i l->aj (λb=>b=q\/vo.ownBlock=some b) d W->Sl W 3 (SV g j j) j ((dG 0 l).map (Value.int .i64))):=λd W h k=>rH [] h k L.o ZS;go_upto_region 13 with(go_at_call 131;apply HT.o.mono;rintro e p ⟨rfl,rfl⟩);go_upto_region 14 with(first
       |(go_at_call 91;refine (R.o _ _).mono ?_;rintro e d ⟨a2,c2,rfl,hm⟩;have T:=O8 hm;clear hm)
       |(go_at_call 101;refine (Y.o d a2 c2 (cT T.o) (aX T.o)).mono ?_;rintro e o ⟨t,B,rfl,K,M,Q,O,P⟩;have H3:=O8 K;have F3:=O8 M;have O3:=O8 Q;have K3:=O8 O;have M3:=O8 P;clear K M Q O P))
      all_goals
       have J:=O8 (s.o.ag (aX T.o))
       have V:Hid (Sl o 3 (SV g j j) j ((dG 0 l).map (Value.int .i64))):=ak.o d o J.o K3.o
       go_wp2_with (at_builtin;refine av rfl (.tmp 57) (.tmp 59) 33 rfl 3 i3 (IV 0) 8 Rg ao aq ap an rfl ZD (SV g j j) j _ rfl V.o (IV i) rfl rfl ZO ?_;intro z D C hs G H;have X:=O8 hs;have S:=O8 G;have Z:=O8 H;clear hs G H)
       have U:Hid (WI w0 C q (SV z (j+1) D) (SV t (i+1) B) F (i+1) (l++[f])):=ah.o d o C t B z D J.o H3.o F3.o O3.o K3.o M3.o X.o S.o Z.o
       go_roundw
       exact ⟨i+1,ZO,ZN,_,_,_,_,_,rfl,U⟩
       simp [intOf];omega
  ·have HT:Hid (CL 131 #[IV op] w1 λe p=>e=RT (IV 1)/\p=w1):=by have:=lW op w1;rwa [h]at this
   have t0:(op==3)=false:=Pq.2 (λe=>by subst e;revert h;decide);by_cases ay:j=0
   ·have t1:(j:Int)<1:=ZO;have t2:j<1:=ZO
    have aa:Hid (∀f,¬jQ F f):=wD s.o (ZR ag.o ai) (by rw [al.o];exact rA (.inr (.inl ⟨h,by rw [RY,<-L.o];exact ay⟩)));go_wp2_with (go_at_call 131;apply HT.o.mono;rintro e p ⟨rfl,rfl⟩);go_ret2;exact .inl ⟨4,rfl,ZD,am.o,aa.o⟩
   ·obtain ⟨m,hm⟩:∃m,j=m+1:=⟨j-1,ZO⟩;have⟨y,a1,el,em⟩:=Bg (L.o.symm.trans hm)
    subst hm;subst el;have⟨f,hf,E,N⟩:=Oc (op:=op) (n:=nn) h a1 (s.o.ok a1 ZS);have ar:Hid (m=y.length):=em.symm;have⟨p1,p2,p3,p4⟩:=LH (l:=y) hf;have ab:Hid (fI (y++[f])=fI (y++[a1])++[ig (F.getD i (0,0))]):=by show _=_;rw [p1,E,al.o]
    have ac:Hid (dG 0 (y++[f])=dG 0 y++[((bm y:Nat):Int)]):=p2.trans p3;have af:Hid (fV 0 (y++[f])=fV 0 (y++[a1])++[((bm y:Nat):Int)]):=p4;have ae:=O8 N;have aB:=O8 p3;clear hf E N h p1 p2 p3 p4 em ay L aA;obtain ⟨hv,hz⟩|⟨g,aC,aD,hv,-⟩:=s.o.mN.2
    ·injection hv with e1 e2 e3;omega
    ·injection hv with e1 e2 e3;subst e1
     clear e2 e3;have au:=O8 (KG (l0:=y) (k:=1) s.o ar.o aB.o rfl);have tm:(m:Int)<I:=ZO;have az:m<I:=ZO;have aO:¬(m:Int)+1<1:=ZO;have ah:Hid (∀d o C t B z D,WI w0 d q (SV g (m+1) I) vo F i (y++[a1])->CA o q 0 (SV t (i+1) B)->FZ o q 0->Sl o 3 (SV t (i+1) B) (i+1) ((fV 0 (y++[a1])++[((bm y:Nat):Int)]).map (Value.int .i64))->
      aj (λb=>b=q\/vo.ownBlock=some b) d o->(vo.ownBlock=some t\/d.heap.size<=t)->Sl C 3 (SV z (m+1) D) (m+1) ((dG 0 y).map (Value.int .i64)++[IV ((bm y:Nat):Int)])->aj (λk=>Value.ownBlock (SV g m I)=some k) o C->(Value.ownBlock (SV g m I)=some z\/o.heap.size<=z)->
      WI w0 C q (SV z (m+1) D) (SV t (i+1) B) F (i+1) (y++[f])):=λd o C t B z D h K M Q O P s4 k4 m4=>
      oz ([a1]) h (ZR ag.o ai) ar.o ab.o ac.o af.o ae.o rfl K M Q O P s4 k4 m4 rfl
     have R:Hid (CL 91 #[SL (some (AD g m)) 1 (I-m)] w1 λe p=>∃u A,e=RT (SL u 1 A)/\aF .i64 3 w1 p (SL u 1 A) [((bm y:Nat):Int)]):=et _ _ _ _ _ au.o nofun ZO;have Y:Hid (∀W u A,aG .i64 W u 1 [((bm y:Nat):Int)]->BW w1 W->CL 101 #[IV i,SL u 1 A,PT q] W λe p=>∃g co,e=RT (IV ((bm y:Nat):Int))/\CA p q 0 (SV g (i+1) co)/\FZ p q 0/\
      Sl p 3 (SV g (i+1) co) (i+1) ((fV 0 (y++[a1])++[((bm y:Nat):Int)]).map (Value.int .i64))/\aj (λb=>b=q\/vo.ownBlock=some b) W p/\(vo.ownBlock=some g\/W.heap.size<=g)):=λW u A hr hb=>by
      have hw:=s.o.ag hb
      exact gD (i:Int) u 1 A [((bm y:Nat):Int)] q i vo _ W hr ZO hw.cell hw.fr hw.o hw.KP ZO
     have ak:Hid (∀d W,WI w0 d q (SV g (m+1) I) vo F i (y++[a1])->aj (λb=>b=q\/vo.ownBlock=some b) d W->Sl W 3 (SV g m I) m ((dG 0 y).map (Value.int .i64))):=λd W h k=>rH [a1] h k ar.o rfl;go_upto_region 13 with(go_at_call 131;apply HT.o.mono;rintro e p ⟨rfl,rfl⟩);go_upto_region 14 with(first
      |(go_at_call 91;apply R.o.mono;rintro e d ⟨a2,c2,rfl,hm⟩;have T:=O8 hm;clear hm)
      |(go_at_call 101;refine (Y.o d a2 c2 (cT T.o) (aX T.o)).mono ?_;rintro e o ⟨t,B,rfl,K,M,Q,O,P⟩;have H3:=O8 K;have F3:=O8 M;have O3:=O8 Q;have K3:=O8 O;have M3:=O8 P;clear K M Q O P))
     all_goals
      have J:=O8 (s.o.ag (aX T.o))
      have V:Hid (Sl o 3 (SV g m I) m ((dG 0 y).map (Value.int .i64))):=ak.o d o J.o K3.o
      go_wp2_with (at_builtin;refine av rfl (.tmp 57) (.tmp 59) 33 rfl 3 i3 (IV 0) 8 Rg ao aq ap an rfl ZD (SV g m I) m _ rfl V.o (IV ((bm y:Nat):Int)) rfl rfl ZO ?_;intro z D C hs G H;have X:=O8 hs;have S:=O8 G;have Z:=O8 H;clear hs G H)
      have U:Hid (WI w0 C q (SV z (m+1) D) (SV t (i+1) B) F (i+1) (y++[f])):=ah.o d o C t B z D J.o H3.o F3.o O3.o K3.o M3.o X.o S.o Z.o
      go_roundw
      exact ⟨i+1,ZO,ZN,_,_,_,_,_,rfl,U⟩
      simp [intOf];omega
  ·have HT:Hid (CL 131 #[IV op] w1 λe p=>e=RT (IV 2)/\p=w1):=by have:=lW op w1;rwa [h]at this
   have t0:(op==3)=false:=Pq.2 (λe=>by subst e;revert h;decide);by_cases ay:j<2
   ·have t1:(j:Int)<2:=ZO;have aa:Hid (∀f,¬jQ F f):=wD s.o (ZR ag.o ai) (by rw [al.o];exact rA (.inr (.inr ⟨h,by rw [RY,<-L.o];exact ay⟩)))
    go_wp2_with (go_at_call 131;apply HT.o.mono;rintro e p ⟨rfl,rfl⟩);go_ret2;exact .inl ⟨4,rfl,ZD,am.o,aa.o⟩
   ·obtain ⟨m,hm⟩:∃m,j=m+2:=⟨j-2,ZO⟩;have⟨l1,b1,el,em⟩:=Bg (n:=m+1) (L.o.symm.trans hm)
    have⟨y,a1,aM,aJ⟩:=Bg em;subst hm;subst aM;have aN:l=y++[a1,b1]:=by rw [el];simp
    subst aN;have⟨f,hf,E,N⟩:=Oq (op:=op) (n:=nn) h a1 b1 (s.o.ok a1 ZS) (s.o.ok b1 ZS);have ar:Hid (m=y.length):=aJ.symm;have⟨p1,p2,p3,p4⟩:=LI (l:=y) hf;have ab:Hid (fI (y++[f])=fI (y++[a1,b1])++[ig (F.getD i (0,0))]):=by show _=_;rw [p1,E,al.o]
    have ac:Hid (dG 0 (y++[f])=dG 0 y++[((bm y:Nat):Int)]):=p2;have af:Hid (fV 0 (y++[f])=fV 0 (y++[a1,b1])++[((bm y:Nat):Int)]):=p4;have ae:=O8 N;have aB:=O8 p3;clear hf E N h p1 p2 p3 p4 em aJ el ay L aA;obtain ⟨hv,hz⟩|⟨g,aC,aD,hv,-⟩:=s.o.mN.2
    ·injection hv with e1 e2 e3;omega
    ·injection hv with e1 e2 e3;subst e1
     clear e2 e3;have au:=O8 (KG (l0:=y) (k:=2) s.o ar.o aB.o rfl);have tm:(m:Int)<I:=ZO;have az:m<I:=ZO;have aO:¬(m:Int)+2<2:=ZO;have ah:Hid (∀d o C t B z D,WI w0 d q (SV g (m+2) I) vo F i (y++[a1,b1])->CA o q 0 (SV t (i+1) B)->FZ o q 0->Sl o 3 (SV t (i+1) B) (i+1) ((fV 0 (y++[a1,b1])++[((bm y:Nat):Int)]).map (Value.int .i64))->
      aj (λb=>b=q\/vo.ownBlock=some b) d o->(vo.ownBlock=some t\/d.heap.size<=t)->Sl C 3 (SV z (m+1) D) (m+1) ((dG 0 y).map (Value.int .i64)++[IV ((bm y:Nat):Int)])->aj (λk=>Value.ownBlock (SV g m I)=some k) o C->(Value.ownBlock (SV g m I)=some z\/o.heap.size<=z)->
      WI w0 C q (SV z (m+1) D) (SV t (i+1) B) F (i+1) (y++[f])):=λd o C t B z D h K M Q O P s4 k4 m4=>
      oz ([a1,b1]) h (ZR ag.o ai) ar.o ab.o ac.o af.o ae.o rfl K M Q O P s4 k4 m4 rfl
     have R:Hid (CL 91 #[SL (some (AD g m)) 2 (I-m)] w1 λe p=>∃u A,e=RT (SL u 2 A)/\aF .i64 3 w1 p (SL u 2 A) [((bm y:Nat):Int),((bm y+Fm.size a1:Nat):Int)]):=et _ _ _ _ _ au.o nofun ZO;have Y:Hid (∀W u A,aG .i64 W u 2 [((bm y:Nat):Int),((bm y+Fm.size a1:Nat):Int)]->BW w1 W->CL 101 #[IV i,SL u 2 A,PT q] W λe p=>∃g co,e=RT (IV ((bm y:Nat):Int))/\CA p q 0 (SV g (i+1) co)/\FZ p q 0/\
      Sl p 3 (SV g (i+1) co) (i+1) ((fV 0 (y++[a1,b1])++[((bm y:Nat):Int)]).map (Value.int .i64))/\aj (λb=>b=q\/vo.ownBlock=some b) W p/\(vo.ownBlock=some g\/W.heap.size<=g)):=λW u A hr hb=>by
      have hw:=s.o.ag hb
      exact gD (i:Int) u 2 A [((bm y:Nat):Int),((bm y+Fm.size a1:Nat):Int)] q i vo _ W hr ZO hw.cell hw.fr hw.o hw.KP ZO
     have ak:Hid (∀d W,WI w0 d q (SV g (m+2) I) vo F i (y++[a1,b1])->aj (λb=>b=q\/vo.ownBlock=some b) d W->Sl W 3 (SV g m I) m ((dG 0 y).map (Value.int .i64))):=λd W h k=>rH [a1,b1] h k ar.o rfl;go_upto_region 13 with(go_at_call 131;apply HT.o.mono;rintro e p ⟨rfl,rfl⟩);go_upto_region 14 with(first
      |(go_at_call 91;apply R.o.mono;rintro e d ⟨a2,c2,rfl,hm⟩;have T:=O8 hm;clear hm)
      |(go_at_call 101;refine (Y.o d a2 c2 (cT T.o) (aX T.o)).mono ?_;rintro e o ⟨t,B,rfl,K,M,Q,O,P⟩;have H3:=O8 K;have F3:=O8 M;have O3:=O8 Q;have K3:=O8 O;have M3:=O8 P;clear K M Q O P))
     all_goals
      have J:=O8 (s.o.ag (aX T.o))
      have V:Hid (Sl o 3 (SV g m I) m ((dG 0 y).map (Value.int .i64))):=ak.o d o J.o K3.o
      go_wp2_with (at_builtin;refine av rfl (.tmp 57) (.tmp 59) 33 rfl 3 i3 (IV 0) 8 Rg ao aq ap an rfl ZD (SV g m I) m _ rfl V.o (IV ((bm y:Nat):Int)) rfl rfl ZO ?_;intro z D C hs G H;have X:=O8 hs;have S:=O8 G;have Z:=O8 H;clear hs G H)
      have U:Hid (WI w0 C q (SV z (m+1) D) (SV t (i+1) B) F (i+1) (y++[f])):=ah.o d o C t B z D J.o H3.o F3.o O3.o K3.o M3.o X.o S.o Z.o
      go_roundw
      exact ⟨i+1,ZO,ZN,_,_,_,_,_,rfl,U⟩
      simp [intOf];omega
 ·obtain rfl:n=i:=ZO;go_wp2_with fail
  go_ret2;exact .inr ⟨sa,j,I,vo,l,rfl,hw.o⟩
end
end Go.Proofs.YtimniinkpipnmaaGreatDoor
