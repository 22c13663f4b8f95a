/- A part of the proof of TopNegates. -/
import Derived.Shelf.Strconv.Itoa3
import Derived.Shelf.Strings.BuilderCap
import Derived.Shelf.Slices.Turned
import Derived.Shelf.Slices.Clone
import Derived.Shelf.Slices.Cells
import Derived.Shelf.Slices.Empties
import Derived.Shelf.Slices.Empties2
import Derived.WalkSpells
import Derived.WalkLawsBesides
import Derived.Handy
import Derived.ShutString
import Derived.Deep.Slices
import Derived.Deep.RegionHeld3
import Derived.Conc.WalkWords
import Derived.Laws.CopyOwn
import Derived.BigQuiet
import Derived.StillTail
import Derived.Test.YtimniinkpipnmaaGreatDoorChecked
import Derived.Deep.CutBlock
set_option maxRecDepth 100000
set_option maxHeartbeats 8000000
set_option linter.all false
namespace Go.Proofs
open Go.Shelf
def OE:=@Go.Proofs.Tryz.underlying33
def Pp:=@congrArg
def QO:=@Go.Proofs.Tryz.underlying3
def RQ:=@Go.Proofs.Tryz.underlying4
def R5:=@Go.Proofs.Tryz.zeroValue3
def SK:=@Go.Proofs.Tryz.underlying0
def SX:=@Go.Proofs.Tryz.sizeOf3
def S4:=@Go.Proofs.Tryz.zeroValue0
def S5:=@Go.Proofs.Tryz.zeroValue4
def Te:=@Go.Proofs.Tryz.isAgg3
def Tryz.rj:Go.Shelf.Ren:=⟨λ|169=>173|n=>n,λ|70=>221|9=>9|0=>0|72=>223|37=>220|127=>241|3=>3|5=>5|n=>n,λ|n=>n⟩
theorem Tryz.J3:Go.Proofs.Lays.n169 Tryz.prog Tryz.rj:={
 mixed:=by kernel_rfl
 f169:=Tryz.func173.trans (Pp some (by kernel_rfl))
 t0:=SK
 a0:=Tryz.isAgg0
 z0:=Tryz.sizeOf0
 v0:=S4
 t3:=QO
 a3:=Te
 z3:=SX
 v3:=R5
 t9:=Tryz.underlying9
 a9:=Tryz.isAgg9
 z9:=Tryz.sizeOf9
 v9:=Tryz.zeroValue9
 t37:=Tryz.underlying220
 a37:=Tryz.isAgg220
 z37:=Tryz.sizeOf220
 v37:=Tryz.zeroValue220
 t70:=Tryz.underlying221
 a70:=Tryz.isAgg221
 z70:=Tryz.sizeOf221
 v70:=Tryz.zeroValue221
 t72:=Tryz.underlying223
 a72:=Tryz.isAgg223
 z72:=Tryz.sizeOf223
 v72:=Tryz.zeroValue223
 t127:=Tryz.underlying241
 a127:=Tryz.isAgg241
 z127:=Tryz.sizeOf241
 v127:=Tryz.zeroValue241}
theorem Tryz.oO:Builder.Extra Tryz.prog Tryz.rj:={
 sizeBuilder:=by kernel_rfl
 liesBuilder:=by kernel_rfl
 t5:=Tryz.underlying5
 a5:=Tryz.isAgg5
 z5:=Tryz.sizeOf5
 v5:=Tryz.zeroValue5
 infoByte:=by kernel_rfl
 cellsByte:=by kernel_rfl
 sizeByte:=by kernel_rfl
 neB5:=by decide}
open Go.RowKit in
theorem Tryz.Builder_String_any(B b:Nat)(l:List UInt8)(w:World)(h:Lib.IsBuilder 223 5 B b (Lib.byteCells l) w)(a:B<=w.heap.size):
 Calls Tryz.prog 173 #[.pointer (some ⟨b,0,none⟩)] w λe c=>e=.returned (.string ⟨l.toArray⟩)/\Below B w c:=Any.Builder_String_any Tryz.J3 Tryz.oO B b l w h a
def Tryz.AW:Go.Shelf.Ren:=⟨λ|171=>171|243=>186|246=>196|283=>192|284=>193|285=>194|286=>195|129=>200|317=>199|318=>201|319=>202|320=>203|337=>204|338=>95|n=>n,λ|3=>3|9=>9|2=>2|4=>4|171=>249|0=>0|53=>45|37=>220|5=>5|173=>251|212=>256|51=>257|20=>20|213=>258|46=>88|232=>261|233=>180|n=>n,λ|17=>1|18=>2|19=>0|n=>n⟩
theorem Tryz.J4:Go.Proofs.Lays.n171 Tryz.prog Tryz.AW:={
 mixed:=by kernel_rfl
 f129:=Tryz.func200.trans (Pp some (by kernel_rfl))
 f171:=Tryz.func171.trans (Pp some (by kernel_rfl))
 f243:=Tryz.func186.trans (Pp some (by kernel_rfl))
 f246:=Tryz.func196.trans (Pp some (by kernel_rfl))
 f283:=Tryz.func192.trans (Pp some (by kernel_rfl))
 f284:=Tryz.func193.trans (Pp some (by kernel_rfl))
 f285:=Tryz.func194.trans (Pp some (by kernel_rfl))
 f286:=Tryz.func195.trans (Pp some (by kernel_rfl))
 f317:=Tryz.func199.trans (Pp some (by kernel_rfl))
 f318:=Tryz.func201.trans (Pp some (by kernel_rfl))
 f319:=Tryz.func202.trans (Pp some (by kernel_rfl))
 f320:=Tryz.func203.trans (Pp some (by kernel_rfl))
 f337:=Tryz.func204.trans (Pp some (by kernel_rfl))
 f338:=Tryz.func95.trans (Pp some (by kernel_rfl))
 t0:=SK
 a0:=Tryz.isAgg0
 z0:=Tryz.sizeOf0
 v0:=S4
 t2:=Tryz.underlying2
 a2:=Tryz.isAgg2
 z2:=Tryz.sizeOf2
 v2:=Tryz.zeroValue2
 t3:=QO
 a3:=Te
 z3:=SX
 v3:=R5
 t4:=RQ
 a4:=Tryz.isAgg4
 z4:=Tryz.sizeOf4
 v4:=S5
 t5:=Tryz.underlying5
 a5:=Tryz.isAgg5
 z5:=Tryz.sizeOf5
 v5:=Tryz.zeroValue5
 t9:=Tryz.underlying9
 a9:=Tryz.isAgg9
 z9:=Tryz.sizeOf9
 v9:=Tryz.zeroValue9
 t20:=Tryz.underlying20
 a20:=Tryz.isAgg20
 z20:=Tryz.sizeOf20
 v20:=Tryz.zeroValue20
 t37:=Tryz.underlying220
 a37:=Tryz.isAgg220
 z37:=Tryz.sizeOf220
 v37:=Tryz.zeroValue220
 t46:=Tryz.underlying88
 a46:=Tryz.isAgg88
 z46:=Tryz.sizeOf88
 v46:=Tryz.zeroValue88
 t51:=Tryz.underlying257
 a51:=Tryz.isAgg257
 z51:=Tryz.sizeOf257
 v51:=Tryz.zeroValue257
 t53:=Tryz.underlying45
 a53:=Tryz.isAgg45
 z53:=Tryz.sizeOf45
 v53:=Tryz.zeroValue45
 t171:=Tryz.underlying249
 a171:=Tryz.isAgg249
 z171:=Tryz.sizeOf249
 v171:=Tryz.zeroValue249
 t173:=Tryz.underlying251
 a173:=Tryz.isAgg251
 z173:=Tryz.sizeOf251
 v173:=Tryz.zeroValue251
 t212:=Tryz.underlying256
 a212:=Tryz.isAgg256
 z212:=Tryz.sizeOf256
 v212:=Tryz.zeroValue256
 t213:=Tryz.underlying258
 a213:=Tryz.isAgg258
 z213:=Tryz.sizeOf258
 t232:=Tryz.underlying261
 a232:=Tryz.isAgg261
 z232:=Tryz.sizeOf261
 v232:=Tryz.zeroValue261
 t233:=Tryz.underlying180
 a233:=Tryz.isAgg180
 z233:=Tryz.sizeOf180
 v233:=Tryz.zeroValue180
 g17:=by kernel_rfl
 g18:=by kernel_rfl
 g19:=by kernel_rfl}
open Go.RowKit Go.Sort Go.Lib in
theorem Tryz.strconv_Itoa_small(i:Nat)(a:i<100)(w:World):
 Calls Tryz.prog 171 #[.int .i64 i] w λe b=>e=.returned (.string ⟨(Lib.decDigits i).toArray⟩)/\b=w:=Any.strconv_Itoa_small Tryz.J4 i a w
def Tryz.AV:Go.Shelf.Ren:=⟨λ|111=>120|n=>n,λ|28=>33|3=>3|4=>4|0=>0|n=>n,λ|n=>n⟩
theorem Tryz.zA:Go.Proofs.Lays.n111 Tryz.prog Tryz.AV:={
 mixed:=by kernel_rfl
 f111:=Tryz.func120.trans (Pp some (by kernel_rfl))
 t0:=SK
 a0:=Tryz.isAgg0
 z0:=Tryz.sizeOf0
 v0:=S4
 t3:=QO
 a3:=Te
 z3:=SX
 v3:=R5
 t4:=RQ
 a4:=Tryz.isAgg4
 z4:=Tryz.sizeOf4
 v4:=S5
 t28:=OE
 a28:=Tryz.isAgg33
 z28:=Tryz.sizeOf33
 v28:=Tryz.zeroValue33}
open Go.RowKit Go.Lib in
theorem Tryz.slices_Equal_int(h o n c i p m d:Nat)(f g:List Int)(w:World)(r:n<=f.length)(s:m<=g.length)(b:n<=9223372036854775807)(a:m<=9223372036854775807)(k:∀j,j<f.length->w.cell? ⟨h,o+j,none⟩=some (.int .i64 (f.getD j 0)))(l:∀j,j<g.length->w.cell? ⟨i,p+j,none⟩=some (.int .i64 (g.getD j 0))):
 Calls Tryz.prog 120 #[.slice (some ⟨h,o,none⟩) n c,.slice (some ⟨i,p,none⟩) m d] w λe t=>e=.returned (.bool (f.take n==g.take m))/\∃q,t=w.drewN q:=Any.slices_Equal_int Tryz.zA h o n c i p m d f g w r s b a k l
open Go.RowKit Go.Lib in
theorem Tryz.slices_Equal_int_empty(b f:Option Addr)(c m d:Nat)(w:World)(a:m<=9223372036854775807):
 Calls Tryz.prog 120 #[.slice b 0 c,.slice f m d] w λe g=>e=.returned (.bool (decide (m=0)))/\g=w:=Any.slices_Equal_int_empty Tryz.zA b f c m d w a
def Tryz.xD:Go.Shelf.Ren:=⟨λ|15=>91|n=>n,λ|22=>33|3=>3|4=>4|n=>n,λ|n=>n⟩
theorem Tryz.qp:Go.Proofs.Lays2.n15 Tryz.prog Tryz.xD:={
 mixed:=by kernel_rfl
 f15:=Tryz.func91.trans (Pp some (by kernel_rfl))
 t3:=QO
 a3:=Te
 z3:=SX
 v3:=R5
 t4:=RQ
 a4:=Tryz.isAgg4
 z4:=Tryz.sizeOf4
 v4:=S5
 t22:=OE
 a22:=Tryz.isAgg33
 z22:=Tryz.sizeOf33
 v22:=Tryz.zeroValue33
 i3:=by kernel_rfl}
open Go.RowKit Go.Lib in
theorem Tryz.slices_Clone_int(b a n c:Nat)(f:List Int)(w:World)(k:n<=f.length)(d:n*8<=140737488355328)(i:∀j,j<f.length->w.cell? ⟨b,a+j,none⟩=some (.int .i64 (f.getD j 0))):
 Calls Tryz.prog 91 #[.slice (some ⟨b,a,none⟩) n c] w λe h=>∃g,e=.returned g/\h.ownsRow w.heap.size 3 1 g n ((f.take n).map (Value.int .i64))/\g≠.slice none 0 0/\Below w.heap.size w h:=Any.slices_Clone_int Tryz.qp b a n c f w k d i
open Go.RowKit Go.Lib in
theorem Tryz.slices_Clone_int_nil(n c:Nat)(w:World):
 Calls Tryz.prog 91 #[.slice none n c] w λe a=>e=.returned (.slice none 0 0)/\a=w:=Any.slices_Clone_int_nil Tryz.qp n c w
open Go.RowKit Go.Lib in
theorem Tryz.slices_Clone_int_zero(a:Addr)(c:Nat)(w:World):
 Calls Tryz.prog 91 #[.slice (some a) 0 c] w λe d=>∃b,e=.returned b/\d.ownsRow w.heap.size 3 1 b 0 []/\b≠.slice none 0 0/\Below w.heap.size w d:=Any.slices_Clone_int_zero Tryz.qp a c w
def Tryz.xE:Go.Shelf.Ren:=⟨λ|23=>198|n=>n,λ|22=>33|3=>3|4=>4|0=>0|n=>n,λ|n=>n⟩
theorem Tryz.Fo:Go.Proofs.Lays2.n23 Tryz.prog Tryz.xE:={
 mixed:=by kernel_rfl
 f23:=Tryz.func198.trans (Pp some (by kernel_rfl))
 t0:=SK
 a0:=Tryz.isAgg0
 z0:=Tryz.sizeOf0
 v0:=S4
 t3:=QO
 a3:=Te
 z3:=SX
 v3:=R5
 t4:=RQ
 a4:=Tryz.isAgg4
 z4:=Tryz.sizeOf4
 v4:=S5
 t22:=OE
 a22:=Tryz.isAgg33
 z22:=Tryz.sizeOf33
 v22:=Tryz.zeroValue33
 i3:=by kernel_rfl}
open Go.RowKit Go.Lib Go.Sort in
theorem Tryz.slices_Delete_int_cells(b a n c i j:Nat)(d:List Int)(w:World)(o:n<=d.length)(f:n<=c)(m:c<=9223372036854775807)(g:i<=j)(l:j<=n)(h:∀j,j<d.length->w.cell? ⟨b,a+j,none⟩=some (.int .i64 (d.getD j 0)))(k:∀j,j<n->w.frozen? ⟨b,a+j,none⟩=false):
 Calls Tryz.prog 198 #[.slice (some ⟨b,a,none⟩) n c,.int .i64 i,.int .i64 j] w λe p=>e=.returned (.slice (some ⟨b,a,none⟩) (n-(j-i)) c)/\∃q,p=(w.drewN q).setCells b a (((d.take n).take i++(d.take n).drop j++List.replicate (j-i) 0).map (Value.int .i64)):=Any.slices_Delete_int_cells Tryz.Fo b a n c i j d w o f m g l h k
open Go.RowKit Go.Lib in
theorem Tryz.slices_Equal_int_lens(b f:Option Addr)(n c m d:Nat)(w:World)(a:n≠m):
 Calls Tryz.prog 120 #[.slice b n c,.slice f m d] w λe g=>e=.returned (.bool false)/\g=w:=Any.slices_Equal_int_lens Tryz.zA b f n c m d w a
end Go.Proofs
namespace Go.RowKit
def Hid.o{p:Prop}(h:Hid p):p:=h.out
end Go.RowKit
namespace Go.Own
open Go.RowKit
abbrev SV(b n c:Nat):Value:=.slice (some ⟨b,0,none⟩) n c
abbrev SN:Value:=.slice none 0 0
abbrev PT(b:Nat):Value:=.pointer (some ⟨b,0,none⟩)
abbrev IV(x:Int):Value:=.int .i64 x
abbrev UV(x:Int):Value:=.int .u64 x
abbrev RT(v:Value):Ending:=.returned v
abbrev AD(b o:Nat):Addr:=⟨b,o,none⟩
abbrev WD:=World
abbrev OA:=Option Addr
abbrev CA(w:WD)(b o:Nat)(v:Value):Prop:=w.cell? ⟨b,o,none⟩=some v
abbrev FZ(w:WD)(b o:Nat):Prop:=w.frozen? ⟨b,o,none⟩=false
abbrev HC(w:WD)(b:Nat)(c:Array Value)(t:TypeId):Prop:=w.heap[b]? =some (.cells c t (0,0))
abbrev BW(w:WD):WD->Prop:=Below w.heap.size w
theorem EX{α:Sort _}(a:α):∃x,a=x:=⟨a,rfl⟩
theorem CH{w:WD}{b:Nat}{c:Array Value}{t:TypeId}{f:Nat×Nat}{o:Nat}{v:Value}(h:w.heap[b]? =some (.cells c t f))(g:c[o]? =some v:=by rfl):w.cell? ⟨b,o,none⟩=some v:=by simp [World.cell?,h,g]
def Nr:=@Go.World.block_lt_of_cell?
def Nu:=@Array.getElem?_eq_some_iff
def Nz:=@Nat.le_refl
def NL:=@Nat.lt_of_lt_of_le
def NQ:=@List.map_cons
def NS:=@Nat.zero_le
def NZ:=@List.map_nil
def N5:=@Nat.le_trans
def Ox:=@Go.World.ownsRow_nil
def OV:=@List.eq_nil_of_length_eq_zero
def OX:=@Go.World.ownsRow.cellAt
def Po:=@Go.Result.andThen_ok
def PE:=@List.map_toArray
def P8:=@Go.Sem.run_bind
def Qt:=@Go.Sem.run_pure
def Tk:=@Go.World.ownsRow.lt
structure aj (S:Nat->Prop) (w a:WD):Prop where
 os:a.os=w.os
 tape:a.tape=w.tape
 output:a.output=w.output
 size:w.heap.size<=a.heap.size
 block:∀k,k<w.heap.size->¬S k->a.heap[k]? =w.heap[k]?
def aj.refl(S:Nat->Prop)(w:WD):aj S w w:=⟨rfl,rfl,rfl,Nz _,λ_ _ _=>rfl⟩
def aj.trans{S:Nat->Prop}{a b c:WD}(h:aj S a b)(k:aj S b c):aj S a c:=
 ⟨k.os.trans h.os,k.tape.trans h.tape,k.output.trans h.output,N5 h.size k.size,
  λi d e=>(k.block i (NL d h.size) e).trans (h.block i d e)⟩
def aj.mono{S T:Nat->Prop}{a b:WD}(h:aj S a b)(e:∀k,k<a.heap.size->S k->T k):aj T a b:=
 ⟨h.os,h.tape,h.output,h.size,λi c d=>h.block i c (λs=>d (e i c s))⟩
def aj.then{S T:Nat->Prop}{a b c:WD}(h:aj S a b)(k:aj T b c)(f:∀i,i<a.heap.size->T i->S i):aj S a c:=
 ⟨k.os.trans h.os,k.tape.trans h.tape,k.output.trans h.output,N5 h.size k.size,
  λi d e=>(k.block i (NL d h.size) (λt=>e (f i d t))).trans (h.block i d e)⟩
def aj.af{S:Nat->Prop}{w b:WD}(h:aj S w b){B:Nat}(c:B<=w.heap.size)(d:∀k,k<B->¬S k):Below B w b:=
 ⟨h.os,h.tape,h.output,h.size,λk a=>h.block k (NL a c) (d k a)⟩
def aj.aF{w a:WD}{B:Nat}(h:Below B w a):aj (λk=>B<=k) w a:=
 ⟨h.os,h.tape,h.output,h.size,λk _ b=>h.block k (by omega)⟩
def aj.alloc{S:Nat->Prop}{a w:WD}(h:aj S a w)(o:Obj):aj S a (w.alloc o):=
 h.trans ⟨rfl,rfl,rfl,by simp,λk b _=>Below.heap_alloc _ _ _ b⟩
def aj.drew{S:Nat->Prop}{a w:WD}(h:aj S a w):aj S a w.drew:=⟨h.os,h.tape,h.output,h.size,h.block⟩
def aj.setCell{S:Nat->Prop}{a w:WD}(h:aj S a w){p:Addr}(d:p.block<a.heap.size->S p.block)(u:Value):aj S a (w.setCell p u):=
 h.then (T:=λk=>k=p.block) ⟨rfl,rfl,rfl,by simp [World.setCell],λk _ c=>Below.heap_setCell _ _ _ _ c⟩ (λi b e=>by subst e;exact d b)
def aj.cell{S:Nat->Prop}{w a:WD}(h:aj S w a){p:Addr}(c:p.block<w.heap.size)(b:¬S p.block):a.cell? p=w.cell? p:=
 World.cell?_of_block (w:=w) (h.block p.block c b)
def aj.aq{S:Nat->Prop}{w b:WD}(h:aj S w b){p:Addr}{v:Value}(a:w.cell? p=some v)(c:¬S p.block):b.cell? p=some v:=
 (h.cell (Nr w p a) c).trans a
abbrev Sl(w:WD)(e:TypeId)(v:Value)(n:Nat)(a:List Value):Prop:=w.ownsRow 0 e 1 v n a
def Sl.of{w:WD}{B:Nat}{e:TypeId}{v:Value}{n:Nat}{d:List Value}(h:w.ownsRow B e 1 v n d):Sl w e v n d:=
 ⟨h.1,h.2.imp id λ⟨g,b,c,a,_,r⟩=>⟨g,b,c,a,NS _,r⟩⟩
def Sl.tO{w:WD}{e:TypeId}{v:Value}{n:Nat}{d:List Value}(h:Sl w e v n d)(B:Nat)(f:∀g,v.ownBlock=some g->B<=g):w.ownsRow B e 1 v n d:=
 ⟨h.1,h.2.imp id λ⟨g,b,c,a,_,r⟩=>⟨g,b,c,a,f g (by rw [a];rfl),r⟩⟩
def Sl.aA{S:Nat->Prop}{w f:WD}{e:TypeId}{v:Value}{n:Nat}{i:List Value}(h:Sl w e v n i)(l:aj S w f)(m:∀g,v.ownBlock=some g->¬S g):Sl f e v n i:=by refine ⟨h.1,?_⟩;rcases h.2 with j|⟨g,b,c,rfl,k,d,a⟩;exact .inl j;exact .inr ⟨g,b,c,rfl,k,by rw [l.block g (Nu.1 d).1 (m g rfl)];exact d,a⟩
def Sl.lt{w:WD}{e:TypeId}{v:Value}{n:Nat}{b:List Value}(h:Sl w e v n b):∀g,v.ownBlock=some g->g<w.heap.size:=
 λg a=>(Tk h g a).2
def Sl.shape{w:WD}{e:TypeId}{v:Value}{n:Nat}{d:List Value}(h:Sl w e v n d):∃a b,v=.slice a n b/\(∀i,i<n->∃g,a=some (AD g 0)/\v.ownBlock=some g/\w.cell? (AD g i)=d[i]?):=by rcases h.2 with⟨rfl,rfl⟩|⟨g,b,f,rfl,k,l,c⟩;exact ⟨none,0,rfl,λi j=>by omega⟩;exact ⟨_,b,rfl,λi j=>⟨g,rfl,rfl,OX (size:=1) h i (by omega)⟩⟩
def dC(w:WD)(v a:Value):Prop:=a.ownBlock=v.ownBlock\/∃g,a.ownBlock=some g/\w.heap.size<=g
def dC.alloc{w:WD}{o:Obj}{v c:Value}(h:dC (w.alloc o) v c):dC w v c:=
 h.imp id λ⟨g,a,b⟩=>⟨g,a,by simp at b;omega⟩
def fQ{P:Program}(w:WD)(t J e:TypeId)(i:TypeInfo)(z:Value)(h:Nat)(N:P.underlying t=some (.slice e))(L:P.info? e=some i)(Q:i.zero=some z)
 (b:i.size=1) (A:i.bytes=h) (F:z.cells.size=1) (M:1<=h)
 (v:Value) (n:Nat) (H:List Value) (o:Sl w e v n H)
 (a:Addr) (m c:Nat) (f:List Value) (hl:f.length=m) (l:∀j u,f[j]? =some u->w.cell? (a.add j)=some u) (O:∀u∈f,u.oneCell'=true)
 (d:(n+m)*h<=140737488355328):
 ∃G s,(Builtin.append_ #[t,t] J #[v,.slice (some a) m c]).run P w=.ok G s/\Sl s e G (n+m) (H++f)/\aj (λk=>v.ownBlock=some k) w s/\dC w v G:=by
 have y:n+m<=maxLen:=by have:=N5 (Nat.le_mul_of_pos_right (n+m) M) d;unfold maxLen;omega
 have r:∀{s:WD},w.grownBy s v.ownBlock->aj (λk=>v.ownBlock=some k) w s:=λB=>
  ⟨B.os,B.tape,B.output,B.size,λk X Y=>B.block k X (λe=>Y e.symm)⟩
 rcases o.2 with⟨rfl,rfl⟩|⟨g,x,K,rfl,U,B,Z,V,W,R⟩
 have hx:H=[]:=OV (by simpa using o.1)
 subst hx
 obtain ⟨G,s,D,I,q,S⟩:=run_append_own (P:=P) w w.heap.size t J e i z 1 h N L Q b A F (by decide) (SN) 0 [] (Ox _ _ _ _) a m c f (by omega) l O y d (Nz _)
 refine ⟨G,s,D,Sl.of I,r q,?_⟩
 rcases I.2 with⟨rfl,_⟩|⟨g,x,K,rfl,T,_⟩
 exact .inl rfl
 exact .inr ⟨g,rfl,T⟩
 by_cases E:n+m<=x
 have D:=run_append_room (P:=P) w t J e i N L g n x K B a m c f (by rw [b];omega) l O E (by rw [b];omega)
 obtain ⟨G,s,p,I,q,_⟩:=run_append_own (P:=P) w 0 t J e i z 1 h N L Q b A F (by decide) _ n H o a m c f (by omega) l O y d (NS _)
 rw [D]at p
 simp only [Result.ok.injEq]at p
 obtain ⟨rfl,rfl⟩:=p
 exact ⟨_,_,D,I,r q,.inl rfl⟩
 have C:∀j u,H[j]? =some u->w.cell? (((AD g 0):Addr).add j)=some u:=World.ownsRow.cells (g:=g) o rfl
 have D:=run_append_grow (P:=P) w t J e i z N L Q (AD g 0) n x H (by rw [b];exact o.1) C a m c f (by rw [b];omega) l (by omega) (by simp only [maxLen]at y;omega) (by rw [A];exact growslice_fits (by omega) d)
 obtain ⟨G,s,p,I,q,_⟩:=run_append_own (P:=P) w 0 t J e i z 1 h N L Q b A F (by decide) _ n H o a m c f (by omega) l O y d (NS _)
 rw [D]at p
 simp only [Result.ok.injEq]at p
 obtain ⟨rfl,rfl⟩:=p
 exact ⟨_,_,D,I,r q,.inr ⟨_,rfl,Nz _⟩⟩
def jq{P:Program}{w:WD}{y:Array Oper}{g:List Oper}{o:Oper}{a:Act}{Q:Exit->Act->WD->Prop}(E:o.guard=none)(s x:Operand)(t:TypeId)
 (O:o.op=.call {callee:=.builtin .append,args:=#[s,x],argTypes:=#[t,t]})
 (e:TypeId) (i:TypeInfo) (z:Value) (b:Nat) (T:P.underlying t=some (.slice e)) (M:P.info? e=some i) (V:i.zero=some z)
 (p:i.size=1) (D:i.bytes=b) (F:z.cells.size=1) (r:1<=b)
 (v:Value) (n:Nat) (G:List Value) (S:a.eval s=v) (q:Sl w e v n G)
 (C:Addr) (m c:Nat) (d:List Value) (U:a.eval x=.slice (some C) m c) (N:d.length=m) (l:∀j u,d[j]? =some u->w.cell? (C.add j)=some u) (H:∀u∈d,u.oneCell'=true)
 (f:(n+m)*b<=140737488355328)
 (h:∀A B,Sl B e A (n+m) (G++d)->aj (λk=>v.ownBlock=some k) w B->dC w v A->wpList P y Q g (a.put o.dst A) B):wpList P y Q (o::g) a w:=by
 obtain ⟨A,B,R,I,J,K⟩:=fQ (P:=P) w t o.type e i z b T M V p D F r v n G q C m c d N l H f
 refine wpList_plain E λ_ L=>?_
 unfold Oper.wp execOp
 simp only [O,resolve,invoke,builtin,P8,Qt,Po,PE,NQ,NZ,S,U,R]
 exact L _ _ (h A B I J K)
def pU{P:Program}{w:WD}{q:Array Oper}{d:List Oper}{o:Oper}{a:Act}{Q:Exit->Act->WD->Prop}(B:o.guard=none)(s x:Operand)(t:TypeId)
 (I:o.op=.call {callee:=.builtin .append,args:=#[s,x],argTypes:=#[t,t]})
 (e:TypeId) (i:TypeInfo) (z:Value) (b:Nat) (K:P.underlying t=some (.slice e)) (H:P.info? e=some i) (N:i.zero=some z)
 (f:i.size=1) (A:i.bytes=b) (C:z.cells.size=1) (m:1<=b)
 (v:Value) (n:Nat) (D:List Value) (J:a.eval s=v) (l:Sl w e v n D)
 (u:Value) (L:u.oneCell'=true) (M:a.eval x=SV w.heap.size 1 1)
 (c:(n+1)*b<=140737488355328)
 (h:∀r y,Sl y e r (n+1) (D++[u])->aj (λk=>v.ownBlock=some k) w y->dC w v r->wpList P q Q d (a.put o.dst r) y):wpList P q Q (o::d) a (w.alloc (.cells #[u] e)):=by
 refine jq B s x t I e i z b K H N f A C m v n D J (World.ownsRow.alloc l _) _ 1 1 [u] M rfl ?_ ?_ c ?_
 intro j O g
 match j,g with
 |0,g=>
  simp at g;subst g
  simp [Addr.add]
 |j+1,g=>simp at g
 intro O p
 simp at p;subst p;exact L
 intro r y E F G
 exact h r y E (((aj.refl _ w).alloc _).trans (F.mono (λ_ _ s=>s))) G.alloc
def aG(k:IntKind)(w:WD)(a:OA)(n:Nat)(d:List Int):Prop:=
 d.length=n/\(n=0\/∃b c,a=some (AD b c)/\∀i,i<n->w.cell? (AD b (c+i))=some (.int k (d.getD i 0)))
def aG.af{k:IntKind}{w f:WD}{a:OA}{n:Nat}{g:List Int}(h:aG k w a n g)(j:BW w f):aG k f a n g:=by refine ⟨h.1,h.2.imp id ?_⟩;rintro ⟨b,c,rfl,d⟩;refine ⟨b,c,rfl,λi e=>?_⟩;exact (j.cell (Nr w _ (d i e))).trans (d i e)
def AO{w b:WD}{o:Obj}{c:Nat}(a:aj (λk=>(SV w.heap.size 0 c).ownBlock=some k) (w.alloc o) b):BW w b:=by refine (((aj.refl (λk=>w.heap.size<=k) w).alloc o).trans (a.mono λk _ e=>?_)).af (Nz _) (λk a h=>absurd h (by omega));have d:some w.heap.size=some k:=e;cases d;exact Nz _
def ax{P:Program}{w:WD}{p:Array Oper}{d:List Oper}{o:Oper}{a:Act}{Q:Exit->Act->WD->Prop}(A:o.guard=none)(s x:Operand)(t:TypeId)
 (J:o.op=.call {callee:=.builtin .append,args:=#[s,x],argTypes:=#[t,t]})
 (e:TypeId) (i:TypeInfo) (z:Value) (b:Nat) (L:P.underlying t=some (.slice e)) (I:P.info? e=some i) (O:i.zero=some z)
 (j:i.size=1) (y:i.bytes=b) (C:z.cells.size=1) (m:1<=b)
 (v:Value) (n:Nat) (D:List Value) (K:a.eval s=v) (l:Sl w e v n D)
 (u:Value) (M:u.oneCell'=true) (N:a.eval x=SV w.heap.size 1 1)
 (c:(n+1)*b<=140737488355328)
 (h:∀g r q,Sl q e (SV g (n+1) r) (n+1) (D++[u])->aj (λk=>v.ownBlock=some k) w q->(v.ownBlock=some g\/w.heap.size<=g)->wpList P p Q d (a.put o.dst (SV g (n+1) r)) q):
 wpList P p Q (o::d) a (w.alloc (.cells #[u] e)):=by
 refine pU A s x t J e i z b L I O j y C m v n D K l u M N c λT q E G f=>?_
 obtain ⟨R,r,rfl,H⟩:=E.shape
 obtain ⟨g,rfl,F,_⟩:=H 0 (by omega)
 refine h g r q E G ?_
 rcases f with f|⟨S,f,B⟩
 rw [F]at f;exact .inl f.symm
 rw [F]at f;cases f;exact .inr B
def y7(w:WD)(a:OA)(n:Nat)(d:List Bool):Prop:=
 d.length=n/\(n=0\/∃b c,a=some (AD b c)/\∀i,i<n->w.cell? (AD b (c+i))=some (.bool (d.getD i false)))
def y7.af{w g:WD}{a:OA}{n:Nat}{d:List Bool}(h:y7 w a n d)(j:BW w g):y7 g a n d:=by refine ⟨h.1,h.2.imp id ?_⟩;rintro ⟨b,c,rfl,e⟩;refine ⟨b,c,rfl,λi f=>?_⟩;exact (j.cell (Nr w _ (e i f))).trans (e i f)
section
open Go.ChangeShapes Go.WideShapes Go.ChangeAt Go.Deep
def Sp:=@Go.DataW.weights_mem_each
section
variable {H:Type} {enc:TypeId×Value->H} {P:Program} {W:WD}
def oL{b:List TypeId}{a:List (DataW H)}(h:(DataW.weightsEach P b a).all (· <=reachBytes)=true){j:Nat}{t:TypeId}{d:DataW H}(f:b[j]? =some t)(c:a[j]? =some d):
 ∀n∈d.weights P t,n<=reachBytes:=λn e=>by
 have:=List.all_eq_true.1 h _ (Sp f c n e)
 simpa using this
def yM{t e:TypeId}{k:IntKind}{a:OA}{f g:Nat}{d:DataW H}{p:List MemPlace}{bytes:Nat}
 (C:P.underlying t=some (.slice e)) (F:P.underlying e=some (.int k)) (E:P.cellsOf e=1) (D:P.bytesOf e=bytes)
 (h:DataW.Trod enc P W 0 (λ_=>true) true t (.slice a f g) d p) (hw:∀n∈d.weights P t,n<=reachBytes):
 ∃r,aG k W a f r/\(∀z∈r,(Lit.int k z).wf=true)/\f<=g/\g<=maxLen/\g*bytes<=140737488351232/\(a=none->f=0/\g=0):=by
 obtain ⟨A,G⟩:=h
 rcases open_ints C F E G with⟨m,u⟩|⟨x,l,c,r,m,_,J,K,v,u,j,s⟩
 ·simp [Value.cells]at m;obtain ⟨rfl,rfl,rfl⟩:=m
  exact ⟨[],⟨rfl,.inl rfl⟩,by simp,Nz _,by simp [maxLen],by simp,λ_=>⟨rfl,rfl⟩⟩
 ·simp [Value.cells]at m;obtain ⟨rfl,rfl,rfl⟩:=m
  simp only [if_true]at v;simp only [Prod.mk.injEq]at u;obtain ⟨rfl,_⟩:=u;have o:=hw ((f+(g-f))*bytes) (by simp [DataW.weights,C,D,lits,v];left;congr 1;omega);rw [show f+(g-f)=g by omega]at o;refine ⟨r.take f,⟨by simp [v];omega,?_⟩,λz w=>s z (List.mem_of_mem_take w),J,K,o,λh=>by cases h⟩;rcases Nat.eq_zero_or_pos f with B|B
  ·exact .inl B
  ·obtain ⟨b,y,q⟩:=x;have L:q=none:=by simpa [Addr.add]using World.cell?_spot (j 0 (by omega))
   subst L;refine .inr ⟨b,y,rfl,λi I=>?_⟩;have:=j i (by omega);rw [Addr.add_lit]at this;rw [this];simp [List.getD,I]
end
section
variable {H:Type} {enc:TypeId×Value->H} {P:Program} {W:WD}
end
end
end Go.Own
namespace Go
def Shut.o{p:Prop}(h:Shut p):p:=h
end Go
namespace Go.Own
section
open Go.RowKit
section
variable {P:Program} {ops:Array Oper} {Q:Exit->Act->WD->Prop} {md:Region.Mode} {S S':WD->Prop}
end
end
section
open Go.RowKit
def Oa:=@if_pos
def Og:=@List.mem_filter
def Oq:=@List.mem_range
def OB:=@Bool.and_eq_true
def Ps:=@List.all_eq_true
def RP:=@beq_iff_eq
def RR:=@Go.mem_ready
section
variable {P:Program} {ops:Array Oper} {Q:Exit->Act->WD->Prop} {md:Region.Mode} {S:WD->Prop}
def IG{a:Array Bool}{i:Nat}(h:i∈Region.ready md ops a):i<ops.size:=by unfold Region.ready at h;exact Oq.1 (Og.1 h).1
def KL{i:Nat}{o:Oper}{K:Act->WD->Prop}{a:Act}{w:WD}(b:ops[i]? =some o)(hw:Region.wanted o (yielded ops a.tmps)=true)(h:Oper.wp P o a w K Q):wpOp P ops Q i K a w:=by unfold wpOp;rw [b];dsimp only;rw [Oa hw];exact .inl h
def Aa{o:Oper}{y:Nat->Option Bool}(h:o.guard=none):Region.wanted o y=true:=by simp [Region.wanted,h]
structure aY (P:Program) (o:Oper) (a:Act) (w:WD) (K:Act->WD->Prop) (Q:Exit->Act->WD->Prop):Prop where
 o:Oper.wp P o a w K Q
def bT{o:Oper}{K:Act->WD->Prop}{a:Act}{w w':WD}{v:Value}(h:(execOp a.eval o).run P w=.ok (.value v) w')(b:K (a.put o.dst v) w'):aY P o a w K Q:=by constructor;unfold Oper.wp;rw [h];exact b
def Jj(ops:Array Oper)(i:Nat)(l:List Nat):Bool:=match ops[i]? with
 |some o=>l.all λj=>o.after.any λe=>Region.binds .any e&&e.on==j
 |none=>false
def aU{a:Array Bool}{i:Nat}{l:List Nat}(hw:Jj ops i l=true)(h:i∈Region.ready .any ops a):∀j∈l,a.getD j false=true:=by obtain ⟨_,o,k,b⟩:=RR.1 h;unfold Jj at hw;rw [k]at hw;dsimp only at hw;intro j g;have d:=Ps.1 hw j g;obtain ⟨e,f,c⟩:=Array.any_eq_true'.1 d;rw [OB,RP]at c;have:=b e f c.1;rwa [c.2]at this
def qz{a:Array Bool}{i:Nat}(h:i∈Region.ready md ops a):a.getD i true=false:=(RR.1 h).1
end
end
def Of:=@if_neg
def Px:=@if_pos
def Py:=@Bool.or_eq_true
def P4:=@Ne.symm
def P9:=@Nat.le_refl
def R4:=@Bool.and_eq_true
def Sk:=@Nat.le_antisymm
def gS(E:List (List Int))(x y:Nat):Prop:=x<E.length/\y<E.length/\(y:Int)∈E.getD x []
def yF(E:List (List Int)):Nat->Nat->Nat->Prop
 |0,x,y=>x=y
 |k+1,x,y=>∃z,gS E x z/\yF E k z y
def br(E:List (List Int))(x y:Nat):Prop:=∃k,yF E k x y
theorem br.refl(E:List (List Int))(x:Nat):br E x x:=⟨0,rfl⟩
theorem br.oA{E:List (List Int)}{x y z:Nat}(h:gS E x y)(k:br E y z):br E x z:=by obtain ⟨m,k⟩:=k;exact ⟨m+1,y,h,k⟩
theorem br.zn{E:List (List Int)}{x y:Nat}(h:gS E x y):br E x y:=br.oA h (br.refl E y)
theorem rC{E:List (List Int)}{y z:Nat}(k:br E y z):∀(m x:Nat),yF E m x y->br E x z
 |0,x,h=>by cases h;exact k
 |m+1,x,⟨u,a,b⟩=>br.oA a (rC k m u b)
theorem br.trans{E:List (List Int)}{x y z:Nat}(h:br E x y)(k:br E y z):br E x z:=by obtain ⟨m,h⟩:=h;exact rC k m x h
theorem pN{E:List (List Int)}{S:Nat->Prop}(b:∀x y,S x->gS E x y->S y):∀(m x y:Nat),yF E m x y->S x->S y
 |0,x,y,h,a=>by cases h;exact a
 |m+1,x,y,⟨z,c,d⟩,a=>pN b m z y d (b x z a c)
theorem br.closed{E:List (List Int)}{S:Nat->Prop}(a:∀x y,S x->gS E x y->S y){x y:Nat}(h:br E x y)(b:S x):S y:=by obtain ⟨m,h⟩:=h;exact pN a m x y h b
theorem br.lt{E:List (List Int)}{x y:Nat}(h:br E x y)(a:x<E.length):y<E.length:=
 h.closed (S:=λv=>v<E.length) (λ_ _ _ h=>h.2.1) a
def Scc(E:List (List Int))(x y:Nat):Prop:=br E x y/\br E y x
def nQ(E:List (List Int))(v m:Nat):Prop:=Scc E v m/\∀u,Scc E v u->m<=u
theorem Scc.refl(E:List (List Int))(x:Nat):Scc E x x:=⟨br.refl E x,br.refl E x⟩
theorem Scc.symm{E:List (List Int)}{x y:Nat}(h:Scc E x y):Scc E y x:=⟨h.2,h.1⟩
theorem Scc.trans{E:List (List Int)}{x y z:Nat}(h:Scc E x y)(k:Scc E y z):Scc E x z:=⟨h.1.trans k.1,k.2.trans h.2⟩
theorem nQ.unique{E:List (List Int)}{v a b:Nat}(h:nQ E v a)(k:nQ E v b):a=b:=Sk (h.2 b k.1) (k.2 a h.1)
def Al(E:List (List Int))(x y:Nat):Prop:=∃z,gS E x z/\br E z y
theorem Al.reach{E:List (List Int)}{x y:Nat}(h:Al E x y):br E x y:=by obtain ⟨z,a,b⟩:=h;exact br.oA a b
theorem Al.zn{E:List (List Int)}{x y:Nat}(h:gS E x y):Al E x y:=⟨y,h,br.refl E y⟩
theorem Al.trans{E:List (List Int)}{x y z:Nat}(h:Al E x y)(k:Al E y z):Al E x z:=by obtain ⟨u,a,b⟩:=h;exact ⟨u,a,b.trans k.reach⟩
theorem br.cR{E:List (List Int)}{x y:Nat}(h:br E x y):x=y\/Al E x y:=by
 obtain ⟨m,h⟩:=h;cases m with
 |zero=>exact .inl h
 |succ m=>obtain ⟨z,a,b⟩:=h;exact .inr ⟨z,a,m,b⟩
theorem Al.lt{E:List (List Int)}{x y:Nat}(h:Al E x y):x<E.length/\y<E.length:=by obtain ⟨z,a,b⟩:=h;exact ⟨a.1,b.lt a.2.1⟩
def Jz(E:List (List Int))(x y:Nat):Bool:=decide (x<E.length)&&decide (y<E.length)&&(E.getD x []).contains (y:Int)
theorem vd{E:List (List Int)}{x y:Nat}:Jz E x y=true↔gS E x y:=by unfold Jz gS;simp [and_assoc]
def mD(E:List (List Int)):Nat->Nat->Nat->Bool
 |0,i,j=>Jz E i j
 |k+1,i,j=>mD E k i j||(mD E k i k&&mD E k k j)
theorem pS{E:List (List Int)}:∀(k i j:Nat),mD E k i j=true->Al E i j
 |0,i,j,h=>Al.zn (vd.1 h)
 |k+1,i,j,h=>by unfold mD at h;rw [Py,R4]at h;rcases h with h|⟨a,b⟩;exact pS k i j h;exact (pS k i k a).trans (pS k k j b)
theorem xd{E:List (List Int)}:∀(k m i j:Nat),m<k->mD E k i m=true->mD E k m j=true->mD E k i j=true
 |0,m,i,j,l,_,_=>by omega
 |k+1,m,i,j,l,b,a=>by
  unfold mD at b a⊢;rw [Py,R4]at *;by_cases g:m=k;subst g;exact .inr ⟨b.elim id (λh=>h.1),a.elim id (λh=>h.2)⟩;have d:m<k:=by omega
  have f:=xd (E:=E) k m;rcases b with b|⟨b,e⟩;rcases a with a|⟨a,c⟩;exact .inl (f i j d b a);exact .inr ⟨f i k d b a,c⟩;rcases a with a|⟨a,c⟩;exact .inr ⟨b,f k j d e a⟩;exact .inr ⟨b,c⟩
theorem qN{E:List (List Int)}{i j:Nat}(h:Jz E i j=true):∀k,mD E k i j=true
 |0=>h
 |k+1=>by unfold mD;rw [qN h k];rfl
theorem yG{E:List (List Int)}:∀(m x z y:Nat),gS E x z->yF E m z y->mD E E.length x y=true
 |0,x,z,y,h,k=>by cases k;exact qN (vd.2 h) _
 |m+1,x,z,y,h,⟨u,a,b⟩=>xd E.length z x y h.2.1 (qN (vd.2 h) _) (yG m z u y a b)
theorem kg{E:List (List Int)}{x y:Nat}:mD E E.length x y=true↔Al E x y:=
 ⟨pS _ x y,λ⟨z,h,m,k⟩=>yG m x z y h k⟩
def oC(E:List (List Int))(i:Nat):Nat->Nat->Nat
 |0,a=>a
 |k+1,a=>oC E i k (if mD E E.length i k&&mD E E.length k i then k else a)
theorem oD{E:List (List Int)}{i:Nat}:∀(k a:Nat),k<=i->Scc E i a->k<=a->(∀u,Scc E i u->u<k\/a<=u)->nQ E i (oC E i k a)
 |0,a,_,f,_,g=>⟨f,λu c=>(g u c).elim (λh=>by omega) id⟩
 |k+1,a,j,f,l,g=>by
  unfold oC;by_cases b:(mD E E.length i k&&mD E E.length k i)=true;rw [Px b];rw [R4,kg,kg]at b;exact oD k k (by omega) ⟨b.1.reach,b.2.reach⟩ (P9 _) (λu c=>by omega);rw [Of b];refine oD k a (by omega) f (by omega) (λu c=>?_);rcases g u c with h|h;by_cases e:u=k;subst e;exfalso;apply b;rw [R4,kg,kg];have d:i≠u:=by omega
  exact ⟨c.1.cR.resolve_left d,c.2.cR.resolve_left (P4 d)⟩;exact .inl (by omega);exact .inr h
theorem py(E:List (List Int))(i:Nat):nQ E i (oC E i i i):=
 oD i i (P9 _) (Scc.refl E i) (P9 _) (λu _=>by omega)
section
def Nv:=@List.mem_singleton
def NY:=@List.mem_append
def N8:=@List.mem_cons
def Ok:=@List.mem_cons_self
def Om:=@List.append_nil
def Oo:=@List.mem_append_left
def OO:=@List.mem_append_right
def O2:=@List.pairwise_append
def PQ:=@List.take_zero
def Qw:=@List.take_succ_eq_append_getElem
def QB:=@List.sublist_append_left
def Q0:=@List.take_length
def Rq:=@List.concat_eq_append
def Rr:=@List.eq_nil_or_concat
def Ry:=@Iff.rfl
def RD:=@Nat.min_eq_left
def RI:=@Nat.le_trans
def RW:=@List.Sublist.refl
def Sg:=@Nat.le_of_lt
def SO:=@List.pairwise_cons
def Ta:=@Nat.min_eq_right
def up{α:Type}(f:Nat->α)(i:Nat)(v:α):Nat->α:=λj=>if j=i then v else f j
theorem aB{α:Type}(f:Nat->α)(i:Nat)(v:α):up f i v i=v:=by simp [up]
theorem an{α:Type}(f:Nat->α)(i j:Nat)(v:α)(h:j≠i):up f i v j=f j:=by simp [up,h]
structure St where
 aW:Nat->Nat
 bL:Nat->Nat
 next:Nat->Nat
 part:Nat->Nat
 aT:Nat->Bool
 aS:List Nat
 cR:List Nat
 cO:Nat
def kV(E:List (List Int))(v:Nat):Nat:=(E.getD v []).length
def Pr(E:List (List Int))(s:St)(v y:Nat):Prop:=y<E.length/\(y:Int)∈(E.getD v []).take (s.next v)
structure Inv (E:List (List Int)) (s:St):Prop where
 mem:∀v∈s.aS,v<E.length/\s.aW v≠0
 aT:∀v,v<E.length->(s.aT v=true↔v∈s.aS)
 sorted:s.aS.Pairwise (λa b=>s.aW a<s.aW b)
 sub:s.cR.Sublist s.aS
 cO:∀v,v<E.length->s.aW v<=s.cO
 mL:s.cR.Pairwise (λa b=>br E a b)
 Ks:∀v∈s.aS,∃g∈s.cR,s.aW g<=s.aW v/\(∀c∈s.cR,s.aW c<=s.aW v->s.aW c<=s.aW g)/\br E g v/\br E v g/\∀y,Pr E s v y->y∈s.aS->s.bL g<=s.aW y
 aX:∀v y,v<E.length->Pr E s v y->s.aW y≠0
 bL:∀v∈s.aS,s.bL v<=s.aW v/\∃u∈s.aS,s.aW u=s.bL v/\br E v u
 done:∀v,v<E.length->s.aW v≠0->v∉s.aS->nQ E v (s.part v)/\∀y,gS E v y->s.aW y≠0/\y∉s.aS
 full:∀v,v<E.length->s.aW v≠0->v∉s.cR->s.next v=kV E v
 next:∀v,v<E.length->s.next v<=kV E v
 fresh:∀v,v<E.length->s.aW v=0->s.next v=0
theorem Dh{s:List Nat}{f:Nat->Nat}(h:s.Pairwise (λa b=>f a<f b)):∀a∈s,∀b∈s,f a=f b->a=b:=by
 induction s with
 |nil=>intro a g;cases g
 |cons x l j=>rw [SO]at h;intro a g b i e;rcases N8.1 g with d|d;rcases N8.1 i with c|c;rw [d,c];have:=h.1 b c;rw [<-d]at this;omega;rcases N8.1 i with c|c;have:=h.1 a d;rw [<-c]at this;omega;exact j h.2 a d b c e
theorem yH(l:List Int)(k:Nat)(h:k<l.length):l.take (k+1)=l.take k++[l.getD k 0]:=by rw [Qw h];simp [List.getD,h]
section
variable {E:List (List Int)} {s:St}
theorem Inv.eS(h:Inv E s){v:Nat}(a:v∈s.cR):v∈s.aS:=h.sub.subset a
theorem Inv.inj(h:Inv E s){a b:Nat}(c:a∈s.aS)(d:b∈s.aS)(e:s.aW a=s.aW b):a=b:=Dh h.sorted a c b d e
theorem Inv.Er(h:Inv E s):s.cR.Pairwise (λa b=>s.aW a<s.aW b):=h.sorted.sublist h.sub
theorem Inv.empty(h:Inv E s)(hw:s.cR=[]):s.aS=[]:=by
 cases b:s.aS with
 |nil=>rfl
 |cons v l=>obtain ⟨g,a,_⟩:=h.Ks v (by rw [b];exact Ok);rw [hw]at a;cases a
def St.fU(s:St)(y:Nat):St:={s with aW:=up s.aW y (s.cO+1),bL:=up s.bL y (s.cO+1),aT:=up s.aT y true,aS:=s.aS++[y],cR:=s.cR++[y],cO:=s.cO+1}
theorem Inv.fU(h:Inv E s){y:Nat}(P:y<E.length)(K:s.aW y=0)(T:∀g∈s.cR,br E g y):Inv E (s.fU y):=by
 have H:y∉s.aS:=λq=>(h.mem y q).2 K;have U:y∉s.cR:=λq=>H (h.eS q);have G:∀v∈s.aS,v≠y:=λv c e=>H (e▸c);have k:∀v∈s.aS,(s.fU y).aW v=s.aW v:=λv c=>an _ _ _ _ (G v c);have M:∀v∈s.aS,(s.fU y).bL v=s.bL v:=λv c=>an _ _ _ _ (G v c);have f:(s.fU y).aW y=s.cO+1:=aB _ _ _;have F:(s.fU y).bL y=s.cO+1:=aB _ _ _;have w:∀v∈s.aS,s.aW v<=s.cO:=λv c=>h.cO v (h.mem v c).1;have d:(s.fU y).aS=s.aS++[y]:=rfl;have l:(s.fU y).cR=s.cR++[y]:=rfl;have R:(s.fU y).next=s.next:=rfl;have S:∀v z,Pr E (s.fU y) v z↔Pr E s v z:=λv z=>Ry;have A:∀v,s.aW v≠0->(s.fU y).aW v≠0:=λv c=>by by_cases e:v=y;rw [e,f];omega;show up s.aW y (s.cO+1) v≠0;rw [an _ _ _ _ e];exact c
 have x:∀v,v≠y->(s.fU y).aW v=s.aW v:=λv e=>an _ _ _ _ e;refine ⟨?_,?_,?_,?_,?_,?_,?_,?_,?_,?_,?_,?_,?_⟩;intro v c;rw [d,NY,Nv]at c;rcases c with c|rfl;exact ⟨(h.mem v c).1,A v (h.mem v c).2⟩;exact ⟨P,by rw [f];omega⟩;intro v c;rw [d,NY,Nv];show up s.aT y true v=true↔_;by_cases e:v=y;subst e;rw [aB];simp;rw [an _ _ _ _ e,h.aT v c];simp [e];rw [d,O2];refine ⟨?_,List.pairwise_singleton _ _,λa B b t=>?_⟩;exact h.sorted.imp_of_mem λB t L=>by rw [k _ B,k _ t];exact L
 rw [Nv]at t;subst t;rw [k a B,f];have:=w a B;omega;rw [d,l];exact h.sub.append (RW _);intro v c;show up s.aW y (s.cO+1) v<=s.cO+1;by_cases e:v=y;rw [e,aB];exact P9 _;rw [an _ _ _ _ e];have:=h.cO v c;omega;rw [l,O2];exact ⟨h.mL,List.pairwise_singleton _ _,λa B b t=>by rw [Nv]at t;subst t;exact T a B⟩;intro v c;rw [d,NY,Nv]at c;rcases c with c|rfl;obtain ⟨g,N,j,m,C,D,Q⟩:=h.Ks v c;have n:=h.eS N;refine ⟨g,by rw [l];exact Oo _ N,by rw [k g n,k v c];exact j,λJ i o=>?_,C,D,λz r p=>?_⟩;rw [l,NY,Nv]at i;rcases i with i|rfl;rw [k J (h.eS i),k v c]at o;rw [k J (h.eS i),k g n];exact m J i o;rw [f,k v c]at o;have:=w v c;omega;rw [d,NY,Nv]at p;rw [M g n];rcases p with p|rfl;rw [k z p];exact Q z r p;rw [f];have:=(h.bL g n).1;have:=w g n;omega;refine ⟨v,by rw [l];simp,P9 _,λJ i o=>o,br.refl _ _,br.refl _ _,λz r _=>?_⟩;have I:(z:Int)∈(E.getD v []).take (s.next v):=r.2;rw [h.fresh v P K,PQ]at I;cases I
 intro v z c r;exact A z (h.aX v z c r);intro v c;rw [d,NY,Nv]at c;rcases c with c|rfl;obtain ⟨j,u,O,m,C⟩:=h.bL v c;exact ⟨by rw [M v c,k v c];exact j,u,by rw [d];exact Oo _ O,by rw [k u O,M v c];exact m,C⟩;exact ⟨by rw [F,f];exact P9 _,v,by rw [d];simp,by rw [F,f],br.refl _ _⟩;intro v c j m;rw [d,NY,Nv]at m;have e:v≠y:=λe=>m (.inr e);rw [x v e]at j;obtain ⟨C,D⟩:=h.done v c j (λq=>m (.inl q));refine ⟨C,λz r=>⟨A z (D z r).1,?_⟩⟩;rw [d,NY,Nv];rintro (q|rfl);exact (D z r).2 q;exact (D z r).1 K;intro v c j m;rw [l,NY,Nv]at m;have e:v≠y:=λe=>m (.inr e);rw [x v e]at j;exact h.full v c j (λq=>m (.inl q));exact h.next;intro v c j;by_cases e:v=y;rw [e,f]at j;omega;rw [x v e]at j;exact h.fresh v c j
def St.bump(s:St)(x:Nat):St:={s with next:=up s.next x (s.next x+1)}
theorem Inv.bump(h:Inv E s){x:Nat}{m:Int}(l:x∈s.cR)(t:s.next x<kV E x)(p:(E.getD x []).getD (s.next x) 0=m)
 (w:∀y:Nat,y<E.length->m=(y:Int)->s.aW y≠0/\(y∈s.aS->s.bL x<=s.aW y)):Inv E (s.bump x):=by
 have r:=h.eS l
 have q:=h.mem x r
 have o:(E.getD x []).take (s.next x+1)=(E.getD x []).take (s.next x)++[m]:=by rw [yH _ _ t,p]
 have j:∀v z,Pr E (s.bump x) v z->Pr E s v z\/(v=x/\z<E.length/\m=(z:Int)):=by rintro v z ⟨b,d⟩;by_cases e:v=x;subst e;have a:(z:Int)∈(E.getD v []).take (up s.next v (s.next v+1) v):=d;rw [aB,o,NY,Nv]at a;rcases a with a|a;exact .inl ⟨b,a⟩;exact .inr ⟨rfl,b,a.symm⟩;have a:(z:Int)∈(E.getD v []).take (up s.next x (s.next x+1) v):=d;rw [an _ _ _ _ e]at a;exact .inl ⟨b,a⟩
 refine ⟨h.mem,h.aT,h.sorted,h.sub,h.cO,h.mL,?_,?_,h.bL,h.done,?_,?_,?_⟩
 intro v c
 obtain ⟨g,u,b,d,A,B,C⟩:=h.Ks v c
 refine ⟨g,u,b,d,A,B,λy f k=>?_⟩
 rcases j v y f with f|⟨rfl,i,e⟩
 exact C y f k
 have n:=d v l (P9 _)
 have:g=v:=h.inj (h.eS u) (h.eS l) (by have:s.aW v<=s.aW g:=n;have:s.aW g<=s.aW v:=b;omega)
 subst this
 exact (w y i e).2 k
 intro v y c f
 rcases j v y f with f|⟨rfl,i,e⟩
 exact h.aX v y c f
 exact (w y i e).1
 intro v c b d
 show up s.next x (s.next x+1) v=_
 have e:v≠x:=λe=>d (e▸l)
 rw [an _ _ _ _ e];exact h.full v c b d
 intro v c
 show up s.next x (s.next x+1) v<=_
 by_cases e:v=x
 subst e;rw [aB];exact t
 rw [an _ _ _ _ e];exact h.next v c
 intro v c b
 show up s.next x (s.next x+1) v=_
 have e:v≠x:=λe=>q.2 (by rw [<-e];exact b)
 rw [an _ _ _ _ e];exact h.fresh v c b
def St.lower(s:St)(x m:Nat):St:={s with bL:=up s.bL x (min (s.bL x) m)}
theorem Inv.lower(h:Inv E s){x y:Nat}(r:x∈s.aS)(p:y∈s.aS)(o:br E x y):Inv E (s.lower x (s.aW y)):=by
 have a:∀v,(s.lower x (s.aW y)).bL v<=s.bL v:=λv=>by show up s.bL x (min (s.bL x) (s.aW y)) v<=s.bL v;by_cases e:v=x;subst e;rw [aB];omega;rw [an _ _ _ _ e];exact P9 _
 refine ⟨h.mem,h.aT,h.sorted,h.sub,h.cO,h.mL,?_,h.aX,?_,h.done,h.full,h.next,h.fresh⟩;intro v i;obtain ⟨g,m,d,b,c,k,l⟩:=h.Ks v i;exact ⟨g,m,d,b,c,k,λz n q=>RI (a g) (l z n q)⟩;intro v i;obtain ⟨d,u,j,b,c⟩:=h.bL v i;refine ⟨RI (a v) d,?_⟩;by_cases e:v=x;subst e;show∃u∈s.aS,s.aW u=up s.bL v (min (s.bL v) (s.aW y)) v/\br E v u;rw [aB];rcases Nat.le_total (s.bL v) (s.aW y)with f|f;exact ⟨u,j,by rw [RD f];exact b,c⟩;exact ⟨y,p,by rw [Ta f],o⟩;show∃u∈s.aS,s.aW u=up s.bL x (min (s.bL x) (s.aW y)) v/\br E v u;rw [an _ _ _ _ e];exact ⟨u,j,b,c⟩
theorem CI(s:St)(x m:Nat)(h:s.bL x<=m):s.lower x m=s:=by
 have:up s.bL x (min (s.bL x) m)=s.bL:=by funext v;by_cases e:v=x;subst e;rw [aB];omega;exact an _ _ _ _ e
 show {s with bL:=up s.bL x (min (s.bL x) m)}=s;rw [this]
theorem Inv.MI(h:Inv E s){W:List Nat}{x:Nat}(hw:s.cR=W++[x]):∀g∈W,s.aW g<s.aW x:=by have:=h.Er;rw [hw,O2]at this;exact λg a=>this.2.2 g a x (by simp)
theorem Inv.L6(h:Inv E s){W:List Nat}{x:Nat}(hw:s.cR=W++[x]):x∈s.aS:=h.eS (by rw [hw];simp)
theorem Inv.top(h:Inv E s){W:List Nat}{x:Nat}(hw:s.cR=W++[x]):∀v∈s.aS,s.aW x<=s.aW v->br E x v/\br E v x/\∀y,Pr E s v y->y∈s.aS->s.bL x<=s.aW y:=by
 intro v i b;obtain ⟨g,a,j,c,d,e,f⟩:=h.Ks v i;have k:=c x (by rw [hw];simp) b;have:g=x:=by rw [hw,NY,Nv]at a;rcases a with a|a;have:=h.MI hw g a;omega;exact a
 subst this;exact ⟨d,e,f⟩
theorem Inv.cW(h:Inv E s){W:List Nat}{x:Nat}(hw:s.cR=W++[x])(R:s.next x=kV E x)(V:s.bL x≠s.aW x):
 ∃b p,W=b++[p]/\Inv E (({s with cR:=W}:St).lower p (s.bL x)):=by
 have J:=h.L6 hw
 obtain ⟨U,u,O,H,w⟩:=h.bL x J
 obtain ⟨L,d,T,_,_,Q,_⟩:=h.Ks u O
 have a:L∈W:=by rw [hw,NY,Nv]at d;rcases d with d|rfl;exact d;omega
 obtain ⟨b,p,rfl⟩:∃b p,W=b++[p]:=by rcases Rr W with e|⟨b,p,e⟩;rw [e]at a;cases a;exact ⟨b,p,by rw [e,Rq]⟩
 have n:=h.mL
 rw [hw,O2,O2]at n
 obtain ⟨⟨_,_,A⟩,_,B⟩:=n
 have q:br E p x:=B p (by simp) x (by simp)
 have I:br E x p:=by refine (w.trans Q).trans ?_;rw [NY,Nv]at a;rcases a with c|rfl;exact A L c p (by simp);exact br.refl _ _
 have G:=h.MI hw p (by simp)
 have S:p∈s.aS:=h.eS (by rw [hw];simp)
 have f:∀g∈b++[p],s.aW g<=s.aW p:=by have:=h.Er;rw [hw,O2,O2]at this;intro g c;rw [NY,Nv]at c;rcases c with c|rfl;exact Sg (this.1.2.2 g c p (by simp));exact P9 _
 have o:∀v,(({s with cR:=b++[p]}:St).lower p (s.bL x)).bL v<=s.bL v:=λv=>by show up s.bL p (min (s.bL p) (s.bL x)) v<=s.bL v;by_cases e:v=p;subst e;rw [aB];omega;rw [an _ _ _ _ e];exact P9 _
 have D:(({s with cR:=b++[p]}:St).lower p (s.bL x)).bL p<=s.bL x:=by show up s.bL p (min (s.bL p) (s.bL x)) p<=s.bL x;rw [aB];omega
 refine ⟨b,p,rfl,h.mem,h.aT,h.sorted,?_,h.cO,?_,?_,h.aX,?_,h.done,?_,h.next,h.fresh⟩
 have:=h.sub
 rw [hw]at this
 exact (QB _ _).trans this
 have:=h.mL
 rw [hw,O2]at this
 exact this.1
 intro v t
 obtain ⟨g,c,k,l,m,M,N⟩:=h.Ks v t
 rw [hw,NY,Nv]at c
 rcases c with c|rfl
 exact ⟨g,c,k,λz i=>l z (by rw [hw];exact Oo _ i),m,M,λy K j=>RI (o g) (N y K j)⟩
 refine ⟨p,by show p∈b++[p];simp,RI (Sg G) k,λz i _=>f z i,q.trans m,M.trans I,λy K j=>RI D (N y K j)⟩
 intro v t
 obtain ⟨k,P,r,l,m⟩:=h.bL v t
 refine ⟨RI (o v) k,?_⟩
 show∃u∈s.aS,s.aW u=up s.bL p (min (s.bL p) (s.bL x)) v/\br E v u
 by_cases e:v=p
 subst e
 rw [aB]
 rcases Nat.le_total (s.bL v) (s.bL x)with C|C
 exact ⟨P,r,by rw [RD C];exact l,m⟩
 exact ⟨u,O,by rw [Ta C];exact H,q.trans w⟩
 rw [an _ _ _ _ e];exact ⟨P,r,l,m⟩
 intro v t k l
 by_cases e:v=x
 subst e;exact R
 refine h.full v t k ?_
 rw [hw,NY,Nv]
 rintro (F|F)
 exact l F
 exact e F
def St.off(s:St)(W A L:List Nat)(m:Nat):St:=
 {s with cR:=W,aS:=A,part:=λv=>if v∈L then m else s.part v,aT:=λv=>if v∈L then false else s.aT v}
theorem Inv.root(h:Inv E s){W A B:List Nat}{x m:Nat}(hw:s.cR=W++[x])(hf:s.next x=kV E x)(hr:s.bL x=s.aW x)(O:s.aS=A++x::B)
 (hm:m∈x::B) (N:∀v∈x::B,m<=v):Inv E (s.off W A (x::B) m):=by
 have ad:=h.L6 hw
 have C:=h.sorted
 rw [O,O2,SO]at C
 obtain ⟨Y,⟨Z,_⟩,P⟩:=C
 have U:∀v∈A,s.aW v<s.aW x:=λv b=>P v b x Ok
 have J:∀v∈x::B,s.aW x<=s.aW v:=λv b=>by rcases N8.1 b with rfl|b;exact P9 _;exact Sg (Z v b)
 have f:∀v∈A,v∈s.aS:=λv b=>by rw [O];exact Oo _ b
 have i:∀v∈x::B,v∈s.aS:=λv b=>by rw [O];exact OO _ b
 have c:∀v∈s.aS,v∈A\/v∈x::B:=λv b=>by rw [O]at b;exact NY.1 b
 have r:∀v,v∈A->v∉x::B:=λv j k=>by have:=U v j;have:=J v k;omega
 have M:∀v∈x::B,v∉W:=λv b ab=>by have:=h.MI hw v ab;have:=J v b;omega
 have w:∀v∈x::B,s.next v=kV E v:=λv b=>by by_cases e:v=x;subst e;exact hf;refine h.full v (h.mem v (i v b)).1 (h.mem v (i v b)).2 ?_;rw [hw,NY,Nv];rintro (z|z);exact M v b z;exact e z
 have t:∀v∈x::B,∀y,gS E v y->s.aW y≠0/\y∉A:=by intro v b y a;have hp:Pr E s v y:=⟨a.2.1,by rw [w v b];unfold kV;rw [Q0];exact a.2.2⟩;refine ⟨h.aX v y a.1 hp,λp=>?_⟩;have:=(h.top hw v (i v b) (J v b)).2.2 y hp (f y p);have:=U y p;omega
 have q:∀v y,(v∉A/\s.aW v≠0/\v<E.length)->gS E v y->(y∉A/\s.aW y≠0/\y<E.length):=by rintro v y ⟨j,k,n⟩ a;by_cases b:v∈s.aS;have:=t v ((c v b).resolve_left j) y a;exact ⟨this.2,this.1,a.2.1⟩;have:=(h.done v n k b).2 y a;exact ⟨λp=>this.2 (f y p),this.1,a.2.1⟩
 have o:∀v y,(v∉s.aS/\s.aW v≠0/\v<E.length)->gS E v y->(y∉s.aS/\s.aW y≠0/\y<E.length):=by rintro v y ⟨j,k,n⟩ a;have:=(h.done v n k j).2 y a;exact ⟨this.2,this.1,a.2.1⟩
 have F:∀v∈x::B,∀u,Scc E v u↔u∈x::B:=by intro v b u;have R:=h.top hw v (i v b) (J v b);constructor;rintro ⟨j,k⟩;have n:=j.closed q ⟨λI=>r v I b,(h.mem v (i v b)).2,(h.mem v (i v b)).1⟩;by_cases S:u∈s.aS;exact (c u S).resolve_left n.1;have:=k.closed o ⟨S,n.2.1,n.2.2⟩;exact absurd (i v b) this.1;intro K;have Q:=h.top hw u (i u K) (J u K);exact ⟨R.2.1.trans Q.1,Q.2.1.trans R.1⟩
 refine ⟨λv b=>h.mem v (f v b),?_,Y,?_,h.cO,?_,?_,h.aX,?_,?_,?_,h.next,h.fresh⟩
 intro v b
 show(if v∈x::B then false else s.aT v)=true↔v∈A
 by_cases d:v∈x::B
 rw [Px d]
 exact ⟨λe=>(by cases e),λI=>absurd d (r v I)⟩
 rw [Of d,h.aT v b]
 exact ⟨λD=>(c v D).resolve_right d,f v⟩
 have G:=h.sub
 rw [hw,O]at G
 have H:W.Sublist (A++x::B):=(QB _ _).trans G
 have:=List.sublist_append_iff.1 H
 obtain ⟨l1,l2,e,k1,k2⟩:=this
 have:l2=[]:=by
  cases hl:l2 with
  |nil=>rfl
  |cons y l=>
   have T:y∈l2:=by rw [hl];exact Ok
   exact absurd (show y∈W by rw [e];exact OO _ T) (M y (k2.subset T))
 subst this
 rw [Om]at e
 show W.Sublist A
 rw [e];exact k1
 have:=h.mL
 rw [hw,O2]at this
 exact this.1
 intro v b
 obtain ⟨g,V,j,k,n,L,h5⟩:=h.Ks v (f v b)
 rw [hw,NY,Nv]at V
 rcases V with V|rfl
 exact ⟨g,V,j,λg' X=>k g' (by rw [hw];exact Oo _ X),n,L,λy hy ac=>h5 y hy (f y ac)⟩
 have:=U v b;omega
 intro v b
 obtain ⟨j,u,K,k,n⟩:=h.bL v (f v b)
 refine ⟨j,u,?_,k,n⟩
 refine (c u K).resolve_right λaa=>?_
 have L:=J u aa
 have h5:=U v b
 omega
 intro v b j k
 by_cases d:v∈x::B
 refine ⟨?_,λy a=>t v d y a⟩
 show nQ E v (if v∈x::B then m else s.part v)
 rw [Px d]
 exact ⟨(F v d m).2 hm,λu K=>N u ((F v d u).1 K)⟩
 have D:v∉s.aS:=λD=>(c v D).elim k d
 obtain ⟨n,L⟩:=h.done v b j D
 refine ⟨?_,λy a=>⟨(L y a).1,λp=>(L y a).2 (f y p)⟩⟩
 show nQ E v (if v∈x::B then m else s.part v)
 rw [Of d];exact n
 intro v b j k
 by_cases d:v∈x::B
 exact w v d
 refine h.full v b j ?_
 rw [hw,NY,Nv]
 rintro (z|rfl)
 exact k z
 exact d Ok
end
end
section
open Go.RowKit
def NX:=@decide_eq_false
def N6:=@decide_eq_true
def Ot:=@List.mem_cons_of_mem
def OC:=@List.mem_map
def OJ:=@Option.some.inj
def OM:=@Bool.true_and
def O0:=@Array.size_setIfInBounds
def O8:=@Nat.lt_or_ge
def O9:=@List.filter_cons_of_neg
def Pa:=@List.filter_cons_of_pos
def PL:=@of_decide_eq_true
def PO:=@trivial
def PX:=@List.contains_eq_mem
def Qi:=@Go.getD_set_ne
def Q9:=@Array.setIfInBounds_comm
def Ra:=@Bool.false_or
def Rn:=@decide_eq_true_eq
def RC:=@List.nodup_cons
def R7:=@List.countP_cons_of_neg
def R8:=@List.countP_cons_of_pos
def Sf:=@List.filter_eq_nil_iff
def Sq:=@Go.ready_mono
def SA:=@Bool.not_true
def SD:=@Bool.or_false
def SJ:=@Array.all_eq_true'
def S3:=@Array.getElem?_setIfInBounds_ne
section
variable {P:Program} {ops:Array Oper} {Q:Exit->Act->WD->Prop} {md:Region.Mode} {S:WD->Prop} {β:Nat}
def dk(P:Program)(md:Region.Mode)(ops:Array Oper)(Q:Exit->Act->WD->Prop)(S:WD->Prop)(β:Nat):Nat->Array Bool->Act->WD->Prop
 |0,b,a,w=>Region.ready md ops b=[]/\Q .normal a w
 |c+1,b,a,w=>
  (Region.ready md ops b=[]->Q .normal a w)/\
  ∀i∈Region.ready md ops b,wpOp P ops Q i (λe d=>((b.setIfInBounds i true).getD β false=false->S d)/\dk P md ops Q S β c (b.setIfInBounds i true) e d) a w
def oM:∀(b:Nat)(c:Array Bool)(a:Act)(w:WD),dk P md ops Q S β b c a w->wpAny P md ops Q b c a w
 |0,_,_,_,h=>h
 |b+1,_,_,_,h=>⟨h.1,λi f=>wpOp_mono (λd g e=>oM b _ d g e.2) (h.2 i f)⟩
def iC(md:Region.Mode)(ops:Array Oper)(a:Array Bool):Prop:=
 ∀j b,ops[j]? =some b->a.getD j false=true->∀e∈b.after,Region.binds md e=true->a.getD e.on false=true
def getD_none(n j:Nat):(Array.replicate n false).getD j false=false:=by rcases O8 j n with h|h;simp [h];simp [h]
def iC.aK(n:Nat):iC md ops (Array.replicate n false):=λj b _ a=>by rw [getD_none]at a;cases a
def iC.set{a:Array Bool}{i:Nat}(h:iC md ops a)(n:i∈Region.ready md ops a):iC md ops (a.setIfInBounds i true):=by intro j m k l e g f;obtain ⟨_,o,d,b⟩:=RR.1 n;by_cases c:i=j;subst c;have:m=o:=OJ (k.symm.trans d);subst this;exact getD_set_true (b e g f);rw [Qi false c]at l;exact getD_set_true (h j m k l e g f)
def yu(md:Region.Mode)(ops:Array Oper):List Nat->Bool
 |x::y::l=>(match ops[x]? with|some o=>o.after.any λe=>Region.binds md e&&e.on==y|none=>false)&&yu md ops (y::l)
 |_=>true
def qo:Nat->List Nat->Nat
 |x,[]=>x
 |_,y::l=>qo y l
def mM{a:Array Bool}(h:iC md ops a):∀(l:List Nat)(x:Nat),yu md ops (x::l)=true->a.getD x false=true->a.getD (qo x l) false=true
 |[],x,_,g=>g
 |y::l,x,f,g=>by
  unfold yu at f;rw [OB]at f;obtain ⟨b,i⟩:=f;refine mM h l y i ?_;cases d:ops[x]? with
  |none=>rw [d]at b;cases b
  |some o=>rw [d]at b;dsimp only at b;obtain ⟨e,j,c⟩:=Array.any_eq_true'.1 b;rw [OB,RP]at c;have:=h x o d g e j c.1;rwa [c.2]at this
def mO{a:Array Bool}{i:Nat}(h:a.getD i true=false):a.getD i false=false:=by rcases O8 i a.size with b|b;simp [b]at h⊢;exact h;simp [Array.getElem?_eq_none b]at h
def Ab{i:Nat}{x:Oper}{v:Value}(V:ops[i]? =some x)(t:∀(j:Nat)(o:Oper) z b,ops[j]? =some o->o.op≠.select z b)
 (hQ:∀c a w,Q (.panic c) (a.put x.dst v) w->Q (.panic c) a w) (W:i≠β) (p:List Nat) (hp:yu md ops (β::p)=true) (hl:qo β p=i):
 ∀(g:Nat)(d:Array Bool)(a:Act)(w:WD),iC md ops d->
  (∀j y,ops[j]? =some y->j≠i->d.getD j true=false->(∀e∈y.after,Region.binds md e=true->e.on≠i)->x.apart ops y=true)->
  i∈Region.ready md ops d->YieldsIf P ops S x v a->S w->
  dk P md ops Q S β g (d.setIfInBounds i true) (a.put x.dst v) w->dk P md ops Q S β (g+1) d a w:=by
 have E:∀l:Array Bool,iC md ops l->l.getD i false=false->l.getD β false=false:=λl hc hf=>by
  by_cases M:l.getD β false=true
  ·have:=mM hc p β hp M;rw [hl,hf]at this;cases this
  ·simpa using M
 intro g
 induction g with
 |zero=>
  intro d a w _ _ s N B H
  refine ⟨λh=>(by rw [h]at s;cases s),λj G=>?_⟩
  by_cases f:j=i
  ·subst f;exact N.wpOp V B ⟨λ_=>B,H⟩
  ·have:=Sq G f;rw [H.1]at this
   cases this
 |succ g ih=>
  intro d a w T m s N B H
  refine ⟨λh=>(by rw [h]at s;cases s),λj G=>?_⟩
  by_cases f:j=i
  ·subst f;exact N.wpOp V B ⟨λ_=>B,H⟩
  ·have A:=H.2 j (Sq G f);obtain ⟨r,y,u,D⟩:=RR.1 G
   have J:∀e∈y.after,Region.binds md e=true->e.on≠i:=λe he M U=>by have A:=D e he M;have h0:=(RR.1 s).1;rw [U]at A;rw [mO h0]at A;cases A
   have h2:=wpOp_putIf u (m j y u f r J) (λz b=>t i x z b V) (λz b=>t j y z b u) hQ N A;have n:∀k L,ops[k]? =some L->k≠i->(d.setIfInBounds j true).getD k true=false->
    (∀e∈L.after,Region.binds md e=true->e.on≠i)->x.apart ops L=true:=λk L hk Y K Z=>by
    refine m k L hk Y ?_ Z
    by_cases I:j=k
    ·subst I;exact r
    ·rw [Qi true I]at K;exact K
   have q:=T.set G;have X:(d.setIfInBounds j true).getD i false=false:=by rw [Qi false f];exact mO (RR.1 s).1
   have R:=E _ q X;have F:((d.setIfInBounds i true).setIfInBounds j true).getD β false=false:=by rw [Q9 _ _ (P4 f),Qi false W];exact R
   refine wpOp_mono (λa' w' O=>?_) h2;have C:=O.2.1 F;refine ⟨λ_=>C,ih (d.setIfInBounds j true) a' w' q n (Sq s (P4 f)) O.1 C ?_⟩;rw [Q9 _ _ f];exact O.2.2
def nB(md:Region.Mode)(ops:Array Oper)(a:Array Bool):Bool:=(List.range ops.size).all λj=>!a.getD j false||(match ops[j]? with|some o=>o.after.all λe=>!Region.binds md e||a.getD e.on false|none=>true)
def Cj{a:Array Bool}(h:iC md ops a):nB md ops a=true:=by
 refine Ps.2 λj f=>?_;have b:j<ops.size:=Oq.1 f;rw [Array.getElem?_eq_getElem b,Py];cases g:a.getD j false with
 |false=>exact .inl rfl
 |true=>
  refine .inr (SJ.2 λe d=>?_);rw [Py];cases c:Region.binds md e with
  |false=>exact .inl rfl
  |true=>exact .inr (h j ops[j] (Array.getElem?_eq_getElem b) g e d c)
def o8{a:Array Bool}(h:nB md ops a=true):iC md ops a:=by intro j k d i e g f;have b:=Ps.1 h j (Oq.2 (Nu.1 d).1);rw [d,i]at b;simp only [SA,Ra]at b;have c:=SJ.1 b e g;rw [f]at c;simpa using c
def cD{i:Nat}(p:List Nat){e:Oper}{v:Value}{d:Nat}{b:Array Bool}{a:Act}{w:WD}(g:ops[i]? =some e)
 (f:(Region.noSelect ops&&nB md ops b&&Region.free md ops b i&&(Region.ready md ops b).contains i&&yu md ops (β::p)&&decide (qo β p=i)&&decide (i≠β))=true)
 (r:∀c a w,Q (.panic c) (a.put e.dst v) w->Q (.panic c) a w) (t:YieldsIf P ops S e v a) (s:S w)
 (h:dk P md ops Q S β d (b.setIfInBounds i true) (a.put e.dst v) w):dk P md ops Q S β (d+1) b a w:=by
 simp only [OB,Rn]at f
 obtain ⟨⟨⟨⟨⟨⟨j,k⟩,l⟩,m⟩,n⟩,o⟩,q⟩:=f
 exact Ab g (Region.noSelect_spec j) r q p n o d b a w (o8 k) (Region.free_spec g l) (by simpa using m) t s h
def xK{i:Nat}{t:Oper}{v:Value}(L:ops[i]? =some t)(p:∀(j:Nat)(o:Oper) x b,ops[j]? =some o->o.op≠.select x b)
 (V:∀c a w,Q (.panic c) (a.put t.dst v) w->Q (.panic c) a w) (q:i≠β):
 ∀(g:Nat)(d:Array Bool)(a:Act)(w:WD),
  (∀j u,ops[j]? =some u->j≠i->d.getD j true=false->(∀e∈u.after,Region.binds md e=true->e.on≠i)->t.apart ops u=true)->
  i∈Region.ready md ops d->YieldsIf P ops (λ_=>True) t v a->(d.getD β false=false->S w)->
  dk P md ops Q S β g (d.setIfInBounds i true) (a.put t.dst v) w->dk P md ops Q S β (g+1) d a w:=by
 intro g
 induction g with
 |zero=>
  intro d a w _ s G J H
  refine ⟨λh=>(by rw [h]at s;cases s),λj F=>?_⟩
  by_cases f:j=i
  ·subst f;exact G.wpOp L PO ⟨λe=>J (by rwa [Qi false q]at e),H⟩
  ·have:=Sq F f;rw [H.1]at this
   cases this
 |succ g Z=>
  intro d a w l s G J H
  refine ⟨λh=>(by rw [h]at s;cases s),λj F=>?_⟩
  by_cases f:j=i
  ·subst f;exact G.wpOp L PO ⟨λe=>J (by rwa [Qi false q]at e),H⟩
  ·have y:=H.2 j (Sq F f);obtain ⟨n,u,r,A⟩:=RR.1 F
   have C:∀e∈u.after,Region.binds md e=true->e.on≠i:=λe X W K=>by have y:=A e X W;have T:=(RR.1 s).1;rw [K]at y;rw [mO T]at y;cases y
   have U:=wpOp_putIf r (l j u r f n C) (λx b=>p i t x b L) (λx b=>p j u x b r) V G y;have m:∀k E,ops[k]? =some E->k≠i->(d.setIfInBounds j true).getD k true=false->
    (∀e∈E.after,Region.binds md e=true->e.on≠i)->t.apart ops E=true:=λk E Y M D N=>by
    refine l k E Y M ?_ N
    by_cases B:j=k
    ·subst B;exact n
    ·rw [Qi true B]at D;exact D
   refine wpOp_mono (λR O I=>?_) U;have z:(d.setIfInBounds j true).getD β false=false->S O:=λe=>I.2.1 (by rw [Q9 _ _ (P4 f),Qi false q];exact e);refine ⟨z,Z (d.setIfInBounds j true) R O m (Sq s (P4 f)) I.1 z ?_⟩;rw [Q9 _ _ f];exact I.2.2
def bc{i:Nat}{e:Oper}{v:Value}{d:Nat}{b:Array Bool}{a:Act}{w:WD}(g:ops[i]? =some e)
 (f:(Region.noSelect ops&&Region.free md ops b i&&(Region.ready md ops b).contains i&&decide (i≠β))=true)
 (n:∀c a w,Q (.panic c) (a.put e.dst v) w->Q (.panic c) a w) (p:YieldsIf P ops (λ_=>True) e v a) (o:S w)
 (h:dk P md ops Q S β d (b.setIfInBounds i true) (a.put e.dst v) w):dk P md ops Q S β (d+1) b a w:=by
 simp only [OB,Rn]at f
 obtain ⟨⟨⟨j,k⟩,l⟩,m⟩:=f
 exact xK g (Region.noSelect_spec j) n m d b a w (Region.free_spec g k) (by simpa using l) p (λ_=>o) h
def eT(P:Program)(md:Region.Mode)(ops:Array Oper)(Q:Exit->Act->WD->Prop)(S:WD->Prop)(β:Nat)(c:Nat)(b:Array Bool)(a:Act)(w:WD)(f:List Nat):Prop:=
 ∀i∈f,wpOp P ops Q i (λe d=>((b.setIfInBounds i true).getD β false=false->S d)/\dk P md ops Q S β c (b.setIfInBounds i true) e d) a w
def eT.nil{c:Nat}{b:Array Bool}{a:Act}{w:WD}:eT P md ops Q S β c b a w []:=λ_ h=>by cases h
def eT.cons{c:Nat}{b:Array Bool}{a:Act}{w:WD}{i:Nat}{o:Oper}{f:List Nat}(m:ops[i]? =some o)
 (h:∀d:Act->WD->Prop,Shut (∀a w,((b.setIfInBounds i true).getD β false=false->S w)->dk P md ops Q S β c (b.setIfInBounds i true) a w->d a w)->if Region.wanted o (yielded ops a.tmps)=true then Oper.wp P o a w d Q else d (a.put o.dst undef) w)
 (n:eT P md ops Q S β c b a w f):eT P md ops Q S β c b a w (i::f):=λj e=>by
 rcases N8.1 e with rfl|e
 exact wpOp_step m (λd g=>h d (λa w k l=>g a w ⟨k,l⟩))
 exact n j e
def pT{rs:List Nat}{c:Nat}{b:Array Bool}{a:Act}{w:WD}(e:Region.ready md ops b=rs)(d:rs≠[])
 (h:eT P md ops Q S β c b a w rs):dk P md ops Q S β (c+1) b a w:=
 ⟨λf=>absurd (e▸f) d,e▸h⟩
def ay{c:Nat}{b:Array Bool}{a:Act}{w:WD}(e:Region.ready md ops b=[])(h:Q .normal a w):dk P md ops Q S β c b a w:=by
 cases c with
 |zero=>exact ⟨e,h⟩
 |succ f=>exact ⟨λ_=>h,λi d=>by rw [e]at d;cases d⟩
def av{d:Nat}{a:Act}{w:WD}(β:Nat)(c:P.follows .mixedOrders=true)(b:S w.drew)
 (h:S w.drew->dk P .any ops Q S β ops.size (Array.replicate ops.size false) a w.drew):(Code.region d ops true).wp P Q a w:=
 wp_region_any c (oM _ _ _ _ (h b))
def aP(a:Act):List Nat->(Nat->Value)->Act
 |[],_=>a
 |t::b,V=>(aP a b V).put (some t) (V t)
def yv(a:Act):∀(b:List Nat)(V:Nat->Value)(t:Nat)(v:Value),t∉b->aP a b (up V t v)=aP a b V
 |[],_,_,_,_=>rfl
 |s::b,V,t,v,h=>by unfold aP;have d:s≠t:=λe=>h (by rw [e];exact Ok);rw [yv a b V t v (λc=>h (Ot _ c)),an _ _ _ _ d]
def Km(a:Act)(t:Nat)(v u:Value):(a.put (some t) v).put (some t) u=a.put (some t) u:=by simp [Act.put]
def wH(a:Act):∀(b:List Nat)(V:Nat->Value)(t:Nat)(v:Value),t∈b->b.Nodup->(aP a b V).put (some t) v=aP a b (up V t v)
 |s::b,V,t,v,h,f=>by rw [RC]at f;unfold aP;by_cases e:t=s;subst e;rw [Km,yv a b V t v f.1,aB];rw [Act.put_comm _ _ _ (λd g=>by cases g;intro c;cases c;exact e rfl),wH a b V t v ((N8.1 h).resolve_left e) f.2,an _ _ _ _ (λc=>e c.symm)]
def IC(a:Act)(t:Nat):a.put (some t) (a.tmps.getD t undef)=a:=by
 unfold Act.put;have:a.tmps.setIfInBounds t (a.tmps.getD t undef)=a.tmps:=by refine Array.ext (by simp) λi b c=>?_;simp only [O0]at b;rw [Array.getElem_setIfInBounds];split;rename_i e;subst e;simp [b];rfl
 dsimp only;rw [this]
def rz(a:Act):∀b,aP a b (λt=>a.tmps.getD t undef)=a
 |[]=>rfl
 |t::b=>by unfold aP;rw [rz a b];exact IC a t
def dF(a:Act)(V:Nat->Value)(t:Nat):∀b,t∉b->(aP a b V).eval (.tmp t)=a.eval (.tmp t)
 |[],_=>rfl
 |s::b,h=>by have f:=dF a V t b (λc=>h (Ot _ c));have d:s≠t:=λe=>h (by rw [e];exact Ok);unfold aP;rw [<-f];simp [Act.eval,Act.put,S3 d]
def wV:List Nat->List (List Nat)
 |[]=>[[]]
 |x::l=>wV l++(wV l).map (x:: ·)
def mQ(p:Nat->Bool):∀l,l.filter p∈wV l
 |[]=>Nv.2 rfl
 |x::l=>by unfold wV;rw [NY];by_cases h:p x=true;rw [Pa h];exact .inr (OC.2 ⟨_,mQ p l,rfl⟩);rw [O9 h];exact .inl (mQ p l)
def eR(l:Array Bool)(u:List Nat):Array Bool:=Array.ofFn (n:=l.size) λi=>l.getD i false&&!u.contains i.val
def zN(md:Region.Mode)(ops:Array Oper)(R:List Nat)(b:Nat->Nat)(a:Array Bool):Bool:=
 decide (a.size=ops.size)&&decide R.Nodup&&decide (R.map b).Nodup&&(R.all λr=>a.getD r false&&(match ops[r]? with|some o=>o.guard.isNone&&o.dst==some (b r)|none=>false))&&
 nB md ops (eR a R)&&(wV R).all λu=>u.isEmpty||!nB md ops (eR a u)||(!(Region.ready md ops (eR a u)).isEmpty&&(Region.ready md ops (eR a u)).all λi=>R.contains i)
def lT{p q:Nat->Bool}{i:Nat}(d:p i=true)(f:q i=false)(a:∀j,j≠i->q j=p j):∀(R:List Nat),R.Nodup->i∈R->R.countP p=R.countP q+1
 |x::l,c,b=>by rw [RC]at c;rcases N8.1 b with rfl|b;rw [R8 d,R7 (by rw [f];decide)];congr 1;refine List.countP_congr λj m=>?_;rw [a j (λe=>c.1 (e▸m))];have g:x≠i:=λe=>c.1 (e▸b);have k:=lT d f a l c.2 b;by_cases h:p x=true;rw [R8 h,R8 (by rw [a x g];exact h),k];rw [R7 h,R7 (by rw [a x g];exact h),k]
def mj{A:Act}{G:Array Bool}{w0:WD}{k:Nat}(R:List Nat)(a:Nat->Nat)(f:Array Bool)(c:Nat)(J:Array Bool->(Nat->Value)->WD->Prop)
 (hB:zN md ops R a f=true) (y:G=eR f R) (hf:k=c+R.length)
 (hJ:J G (λt=>A.tmps.getD t undef) w0) (hS:∀l V w,J l V w->S w)
 (E:∀l V w i o,l.size=ops.size->iC md ops l->i∈R->ops[i]? =some o->i∈Region.ready md ops l->J l V w->
  ∀K:Act->WD->Prop,(∀v w',J (l.setIfInBounds i true) (up V (a i) v) w'->K ((aP A (R.map a) V).put o.dst v) w')->aY P o (aP A (R.map a) V) w K Q)
 (C:∀V w,J f V w->dk P md ops Q S β c f (aP A (R.map a) V) w):dk P md ops Q S β k G A w0:=by
 simp only [zN,OB,Rn]at hB
 obtain ⟨⟨⟨⟨⟨F,af⟩,Y⟩,hR⟩,N⟩,Z⟩:=hB
 have aa:∀r∈R,f.getD r false=true:=λr z=>by have:=Ps.1 hR r z;rw [OB]at this;exact this.1
 have I:∀r∈R,∃o,ops[r]? =some o/\o.guard=none/\o.dst=some (a r):=λr z=>by
  have:=Ps.1 hR r z;rw [OB]at this;cases D:ops[r]? with
  |none=>rw [D]at this;cases this.2
  |some o=>rw [D]at this;have u:=this.2;dsimp only at u;rw [OB,RP,Option.isNone_iff_eq_none]at u;exact ⟨o,rfl,u.1,u.2⟩
 have s:∀l:Array Bool,l.size=ops.size->(∀j,j∉R->l.getD j false=f.getD j false)->l=eR f (R.filter λr=>!l.getD r true):=by
  intro l b g;refine Array.ext (by simp [eR,b,F]) λj H u=>?_;have ai:j<f.size:=by omega
  have e1:l.getD j false=l[j]:=by simp [H]
  have e2:l.getD j true=l[j]:=by simp [H]
  simp only [eR,Array.getElem_ofFn];by_cases d:j∈R;rw [aa j d,OM];cases X:l[j]with
  |true=>
   have:(R.filter λr=>!l.getD r true).contains j=false:=by rw [PX];refine NX λhm=>?_;have:=(Og.1 hm).2;rw [e2,X]at this;cases this
   rw [this];rfl
  |false=>
   have:(R.filter λr=>!l.getD r true).contains j=true:=by rw [PX];exact N6 (Og.2 ⟨d,by rw [e2,X];rfl⟩)
   rw [this];rfl
  have:(R.filter λr=>!l.getD r true).contains j=false:=by rw [PX];exact NX λhm=>d (Og.1 hm).1
  rw [this,<-e1,g j d];simp
 have ah:∀(m:Nat)(l:Array Bool)(V:Nat->Value)(w:WD),l.size=ops.size->iC md ops l->(∀j,j∉R->l.getD j false=f.getD j false)->R.countP (λr=>!l.getD r true)=m->J l V w->
  dk P md ops Q S β (c+m) l (aP A (R.map a) V) w:=by
  intro m
  induction m with
  |zero=>
   intro l V w b x g M B
   have L:R.filter (λr=>!l.getD r true)=[]:=by rw [Sf];exact λr z h=>by have:=List.countP_eq_zero.1 M r z;exact this h
   have:=s l b g
   rw [L]at this
   have he:eR f []=f:=by refine Array.ext (by simp [eR]) λj H u=>?_;simp only [eR,Array.getElem_ofFn];simp [u]
   rw [he]at this
   subst this
   exact C V w B
  |succ m ih=>
   intro l V w b x g M B
   have ag:(R.filter λr=>!l.getD r true)≠[]:=λe=>by
    have:R.countP (λr=>!l.getD r true)=0:=by rw [List.countP_eq_length_filter,e];rfl
    omega
   have H:=Ps.1 Z _ (mQ (λr=>!l.getD r true) R)
   rw [<-s l b g,Cj x,SA,SD,Py,OB]at H
   obtain ⟨u,h3⟩:=H.resolve_left (λe=>ag (List.isEmpty_iff.1 e))
   refine ⟨λh0=>(by rw [h0]at u;cases u),λi O=>?_⟩
   have n:i∈R:=by have:=Ps.1 h3 i O;rw [PX]at this;exact PL this
   obtain ⟨o,D,hg,hd⟩:=I i n
   refine KL D (Aa hg) (E l V w i o b x n D O B _ λv w' T=>⟨λ_=>hS _ _ _ T,?_⟩).o
   rw [hd,wH A _ V (a i) v (OC.2 ⟨i,n,rfl⟩) Y]
   refine ih _ _ _ (by rw [O0];exact b) (x.set O) (λj d=>?_) ?_ T
   have ac:i≠j:=λe=>d (e▸n)
   rw [Qi false ac];exact g j d
   have ad:i<l.size:=by rw [b];exact IG O
   have:=lT (p:=λr=>!l.getD r true) (q:=λr=>!(l.setIfInBounds i true).getD r true) (i:=i) (by rw [qz O];rfl) (by simp [ad]) (λj B=>by rw [Qi true (P4 B)]) R af n
   omega
 have U:∀j,j∉R->G.getD j false=f.getD j false:=λj B=>by
  subst y;rcases O8 j f.size with h|h;have M:R.contains j=false:=by rw [PX];exact NX B
  simp [eR,h,M];intro _;simpa using B;simp [eR,h]
 have W:G.size=ops.size:=by subst y;simp [eR,F]
 have ab:R.countP (λr=>!G.getD r true)=R.length:=by
  rw [List.countP_eq_length];intro r z;subst y;have ae:r<f.size:=by obtain ⟨o,D,_⟩:=I r z;rw [F];exact (Nu.1 D).1
  have M:R.contains r=true:=by rw [PX];exact N6 z
  simp [eR,ae,z]
 rw [hf]
 have:=ah R.length G (λt=>A.tmps.getD t undef) w0 W (by rw [y];exact o8 N) U ab hJ
 rwa [rz]at this
end
end
section
open Go.RowKit
section
variable {P:Program} {ops:Array Oper} {Q:Exit->Act->WD->Prop} {md:Region.Mode} {S:WD->Prop} {β:Nat}
def az(i:Nat){e:Oper}{v:Value}{d:Nat}{b:Array Bool}{a f:Act}{w:WD}
 (h:dk P md ops Q S β d (b.setIfInBounds i true) f w) (p:List Nat:=[i]) (n:ops[i]? =some e:=by exact rfl)
 (m:Region.wanted e (yielded ops a.tmps)=true:=by rfl)
 (o:∀w,S w->(execOp a.eval e).run P w=.ok (.value v) w:=by(intro w' hSw;(try dsimp only at hSw);go_simp;(try with_reducible rfl)))
 (g:(Region.noSelect ops&&nB md ops b&&Region.free md ops b i&&(Region.ready md ops b).contains i&&yu md ops (β::p)&&decide (qo β p=i)&&decide (i≠β))=true:=by kernel_rfl)
 (j:∀c a w,Q (.panic c) (a.put e.dst v) w->Q (.panic c) a w:=by exact λ_ _ _ h=>h) (k:S w:=by assumption) (l:a.put e.dst v=f:=by((try walk_nrm);exact rfl)):
 dk P md ops Q S β (d+1) b a w:=cD p n g j (Or.inl ⟨m,o⟩) k (l▸h)
def jC(i:Nat){e:Oper}{d:Nat}{b:Array Bool}{a f:Act}{w:WD}
 (h:dk P md ops Q S β d (b.setIfInBounds i true) f w) (n:ops[i]? =some e:=by exact rfl)
 (m:Region.wanted e (yielded ops a.tmps)=false:=by rfl)
 (g:(Region.noSelect ops&&Region.free md ops b i&&(Region.ready md ops b).contains i&&decide (i≠β))=true:=by kernel_rfl)
 (j:∀c a w,Q (.panic c) (a.put e.dst undef) w->Q (.panic c) a w:=by exact λ_ _ _ h=>h) (k:S w:=by assumption) (l:a.put e.dst undef=f:=by((try walk_nrm);exact rfl)):
 dk P md ops Q S β (d+1) b a w:=bc n g j (Or.inr ⟨m,rfl⟩) k (l▸h)
def aI(i:Nat){c:Nat}{b:Array Bool}{a:Act}{w:WD}{o:Oper}
 (h:∀d:Act->WD->Prop,Shut (∀a w,((b.setIfInBounds i true).getD β false=false->S w)->dk P md ops Q S β c (b.setIfInBounds i true) a w->d a w)->if Region.wanted o (yielded ops a.tmps)=true then Oper.wp P o a w d Q else d (a.put o.dst undef) w)
 (e:ops[i]? =some o:=by exact rfl) (f:Region.ready md ops b=[i]:=by kernel_rfl):dk P md ops Q S β (c+1) b a w:=
 pT f (by simp) (eT.cons e h eT.nil)
end
end
section
open Go.RowKit
def Nx:=@Go.RowKit.Below.refl
def NK:=@List.getElem?_eq_some_iff
def NU:=@List.length_map
def Od:=@Nat.zero_add
def Oe:=@List.take_of_length_le
def OT:=@Nat.eq_zero_or_pos
def O4:=@Go.Addr.add_lit
def PH:=@Go.World.ownsRow.frozenAt
def PU:=@List.nil_append
def PZ:=@Nat.mul_one
def Qh:=@Go.World.ownsRow.stored
def Qk:=@List.length_set
def QR:=@Go.World.ownsRow_lit
def aE(k:IntKind)(e:TypeId)(w a:WD)(v:Value)(b:List Int):Prop:=
 Sl a e v b.length (b.map (Value.int k))/\BW w a/\∀g,v.ownBlock=some g->w.heap.size<=g
def iZ(k:IntKind)(e:TypeId)(w:WD):aE k e w w (SN) []:=⟨Ox _ _ _ _,Nx _ _,by simp [Value.ownBlock]⟩
def aZ{k:IntKind}{e:TypeId}{w wr:WD}{v:Value}{a:List Int}(h:aE k e w wr v a):BW w wr:=h.2.1
def iJ{k:IntKind}{e:TypeId}{w b wr:WD}{v:Value}{c:List Int}(a:BW w b)(h:aE k e b wr v c):aE k e w wr v c:=
 ⟨h.1,a.trans (h.2.1.mono a.size),λg d=>N5 a.size (h.2.2 g d)⟩
def jK{k:IntKind}{e:TypeId}{w wr b:WD}{v:Value}{c:List Int}(h:aE k e w wr v c)(a:BW wr b):aE k e w b v c:=
 ⟨h.1.aA (aj.aF a) (λg d=>by have:=h.1.lt g d;omega),h.2.1.trans (a.mono h.2.1.size),h.2.2⟩
def Fx{k:IntKind}{e:TypeId}{w wr j:WD}{v i:Value}{c:List Int}{x:Int}(h:aE k e w wr v c)
 (o:Sl j e i (c.length+1) (c.map (Value.int k)++[.int k x])) (n:aj (λb=>v.ownBlock=some b) wr j) (a:dC wr v i):aE k e w j i (c++[x]):=by
 obtain ⟨q,d,l⟩:=h
 refine ⟨by simpa using o,d.trans (n.af d.size (λb r e=>by have:=l b e;omega)),λg f=>?_⟩
 rcases a with a|⟨p,a,m⟩
 exact l g (a▸f)
 have:=d.size
 rw [a]at f;cases f;omega
def dA{k:IntKind}{e:TypeId}{w wr d:WD}{v:Value}{a:List Int}{x:Int}{g c n:Nat}(h:aE k e w wr v a)(j:a.length=n)
 (l:Sl d e (SV g (n+1) c) (n+1) (a.map (Value.int k)++[.int k x])) (f:aj (λb=>v.ownBlock=some b) wr d) (i:v.ownBlock=some g\/wr.heap.size<=g):
 aE k e w d (SV g (n+1) c) (a++[x]):=by
 subst j
 exact Fx h l f (i.imp (λh=>h.symm) (λh=>⟨g,rfl,h⟩))
def lB{k:IntKind}{e:TypeId}{w l:WD}{v:Value}{c:List Int}(h:aE k e w l v c):∃a b,v=.slice a c.length b/\aG k l a c.length c:=by obtain ⟨a,b,rfl,f⟩:=h.1.shape;refine ⟨a,b,rfl,rfl,?_⟩;rcases OT c.length with d|d;exact .inl d;obtain ⟨g,rfl,_,_⟩:=f 0 d;refine .inr ⟨g,0,rfl,λi j=>?_⟩;obtain ⟨n,e,_,m⟩:=f i j;simp at e;subst e;rw [Od,m];simp [List.getD,j]
def dT{w:WD}{e:TypeId}{a:OA}{n c m:Nat}{k:List Value}(h:Sl w e (.slice a n c) m k):n<=c/\c<=maxLen/\n=m:=by
 rcases h.2 with⟨b,d⟩|⟨g,f,i,b,_,_,d,j,_⟩;cases b;exact ⟨Nz _,by simp [maxLen],d.symm⟩
 cases b;exact ⟨d,j,rfl⟩
def H9{k:IntKind}{e:TypeId}{w i:WD}{v:Value}{c:List Int}{n:Nat}(h:aE k e w i v c)(o:c.length=n)(p:0<n):
 ∃g b,v=SV g n b/\∀(j:Nat) u,(c.map (Value.int k))[j]? =some u->i.cell? (((AD g 0):Addr).add j)=some u:=by
 subst o
 obtain ⟨a,b,rfl,d⟩:=h.1.shape
 obtain ⟨g,rfl,_,_⟩:=d 0 p
 refine ⟨g,b,rfl,λj u f=>?_⟩
 have m:j<c.length:=by simpa using(NK.1 f).1
 obtain ⟨q,e,_,l⟩:=d j m
 simp at e;subst e
 rw [O4,Od,l,f]
def Bo{k:IntKind}{w:WD}{b a n:Nat}{d:List Int}(h:aG k w (some (AD b a)) n d):
 ∀(j:Nat) u,(d.map (Value.int k))[j]? =some u->w.cell? (((AD b a):Addr).add j)=some u:=by
 intro j u c
 have f:j<d.length:=by simpa using(NK.1 c).1
 have o:=h.1
 rcases h.2 with m|⟨l,g,e,i⟩
 omega
 simp at e;obtain ⟨rfl,rfl⟩:=e
 rw [O4,i j (by omega)]
 simp [f]at c
 simp [List.getD,f,c]
def fG{w:WD}{e:TypeId}{g n:Nat}{c:List Value}(h:Sl w e (SV g n n) n c):w.heap[g]? =some (.cells c.toArray e (0,0)):=by
 rcases h.2 with⟨a,_⟩|⟨k,d,f,a,_,i,_,_,b,j⟩;cases a
 cases a
 rw [i,<-j,Oe (by simp [b])]
def gQ{w:WD}{e:TypeId}{g n:Nat}{xs:List Value}(h:w.heap[g]? =some (.cells xs.toArray e (0,0)))(a:xs.length=n)(b:n<=maxLen):Sl w e (SV g n n) n xs:=
 ⟨by simp [a],.inr ⟨g,n,xs.toArray,rfl,NS _,h,Nz _,b,by simp [a],by simp [Oe,a]⟩⟩
def Kx{k:IntKind}{e:TypeId}{w:WD}{v:Value}{n:Nat}{a:List Int}(h:Sl w e v n (a.map (Value.int k))):a.length=n:=by have:=h.1;simpa using this
def bZ(z:Value)(a:z.cells=#[z])(m:Nat):(madeCells z.cells (m*1)).toList=List.replicate m z:=by rw [a,PZ];exact toList_madeCells_one z m
def zF{k:IntKind}{e:TypeId}{w a:WD}{m:Nat}(b:a.ownsRow 0 e 1 (SV w.heap.size m m) m (madeCells (Value.int k 0).cells (m*1)).toList)(d:w.grownBy a none):
 aE k e w a (SV w.heap.size m m) (List.replicate m 0):=by
 refine ⟨?_,(Nx _ w).grown d (Nz _) (by simp),λg h=>?_⟩
 rw [bZ _ rfl]at b
 simpa using b
 have c:some w.heap.size=some g:=h
 cases c;exact Nz _
def Kw{k:IntKind}{e:TypeId}{w:WD}{g n c:Nat}{a:List Int}(h:Sl w e (SV g n c) n (a.map (Value.int k)))(i:Nat)(b:i<n):
 w.cell? (AD g i)=some (.int k (a.getD i 0))/\w.frozen? (AD g i)=false:=by
 have d:=Kx h
 refine ⟨?_,PH (size:=1) h i⟩
 rw [OX (size:=1) h i (by omega)]
 have:i<a.length:=by omega
 simp [List.getD,this]
def yk{k:IntKind}{e:TypeId}{w a:WD}{g c n:Nat}{b:List Int}(h:aE k e w a (SV g n c) b)(f:b.length=n)(i:Nat)(d:i<n):
 CA a g i (.int k (b.getD i 0))/\FZ a g i:=by
 subst f;exact Kw h.1 i d
def CJ{k:IntKind}{e:TypeId}{w f:WD}{g c n:Nat}{b:List Int}(h:aE k e w f (SV g n c) b)(m:b.length=n)(i:Nat)(x:Int):
 aE k e w (f.setCell (AD g i) (.int k x)) (SV g n c) (b.set i x):=by
 subst m
 obtain ⟨j,l,d⟩:=h
 have a:=Qh j i (.int k x)
 rw [<-List.map_set]at a
 exact ⟨by rw [Qk];exact a.1,l.setCell (d g rfl) _,d⟩
def Kp{k:IntKind}{w:WD}{a:OA}{n:Nat}{d:List Int}(h:aG k w a n d)(i:0<n):
 ∃c,a=some c/\∀(j:Nat) u,(d.map (Value.int k))[j]? =some u->w.cell? (c.add j)=some u:=by
 rcases h.2 with f|⟨b,e,rfl,g⟩
 omega
 exact ⟨_,rfl,Bo h⟩
def H8(k:IntKind)(e:TypeId)(w:WD)(b:Array Value)(a:List Int)(n:Nat)(c:b.toList=a.map (Value.int k))(i:a.length=n)(f:n<=maxLen):
 aE k e w (w.alloc (.cells b e)) (SV w.heap.size n n) a:=by
 subst i
 refine ⟨?_,(Nx _ w).alloc (Nz _) _,λg h=>?_⟩
 have:=QR (base:=0) (e:=e) (size:=1) w b a.length (NS _) f (by rw [<-Array.length_toList,c];simp)
 rwa [c]at this
 have d:some w.heap.size=some g:=h
 cases d;exact Nz _
def cN{k:IntKind}{e:TypeId}{w b:WD}{a:OA}{n c:Nat}{d:List Int}(h:aE k e w b (.slice a n c) d):aG k b a n d:=by obtain ⟨j,f,g,i⟩:=lB h;cases g;exact i
def eV{k:IntKind}{e:TypeId}{w g:WD}{a:OA}{n c:Nat}{b:List Int}(h:aE k e w g (.slice a n c) b):b.length=n:=by obtain ⟨i,d,f,j⟩:=lB h;cases f;rfl
def pV{P:Program}{w:WD}{D:Array Oper}{l:List Oper}{o:Oper}{a:Act}{Q:Exit->Act->WD->Prop}(r:o.guard=none)(s x:Operand)(t:TypeId)
 (R:o.op=.call {callee:=.builtin .append,args:=#[s,x],argTypes:=#[t,t]})
 (k:IntKind) (e:TypeId) (i:TypeInfo) (z:Value) (b:Nat) (T:P.underlying t=some (.slice e)) (O:P.info? e=some i) (hz:i.zero=some z)
 (p:i.size=1) (K:i.bytes=b) (L:z.cells.size=1) (y:1<=b)
 (S:a.eval s=SV w.heap.size 0 0) (F:OA) (n c:Nat) (q:List Int) (V:a.eval x=.slice F n c) (A:aG k w F n q) (v:F=none->n=0/\c=0) (d:n*b<=140737488355328)
 (h:∀E G H,aE k e w H (.slice E n G) q->wpList P D Q l (a.put o.dst (.slice E n G)) H):wpList P D Q (o::l) a (w.alloc (.cells #[] e)):=by
 have f:Sl (w.alloc (.cells #[] e)) e (SV w.heap.size 0 0) 0 []:=QR (e:=e) (size:=1) w #[] 0 (NS _) (by simp [maxLen]) rfl
 cases F with
 |none=>
  obtain ⟨rfl,rfl⟩:=v rfl
  obtain rfl:q=[]:=OV A.1
  have B:=run_append_owned_none (P:=P) (w.alloc (.cells #[] e)) 0 t o.type e i 1 T O _ 0 [] f
  refine wpList_plain r λ_ Y=>?_
  unfold Oper.wp execOp
  simp only [R,resolve,invoke,builtin,P8,Qt,Po,PE,NQ,NZ,S,V,B]
  exact Y _ _ (h _ _ _ (H8 k e w #[] [] 0 rfl rfl (by simp [maxLen])))
 |some M=>
  have C:∀j u,(q.map (Value.int k))[j]? =some u->(w.alloc (.cells #[] e)).cell? (M.add j)=some u:=by
   intro j u U;have hj:j<q.length:=by simpa using(NK.1 U).1
   have hl:=A.1;obtain ⟨W,I,Z⟩:=Kp A (by omega);cases I
   have:=Z j u U;rw [World.cell?_alloc_lt _ _ _ (Nr w _ this),this]
  refine jq r s x t R e i z b T O hz p K L y _ 0 [] S f M n c (q.map (Value.int k)) V (by rw [NU];exact A.1) C (ints_oneCell _ _) (by rw [Od];exact d) λv' H J X m=>?_
  rw [Od,PU]at J
  obtain ⟨E,G,rfl,_⟩:=J.shape
  refine h E G H ⟨by rw [A.1];exact J,AO X,λg N=>?_⟩
  rcases m with m|⟨g',m,aa⟩
  rw [N]at m
  have I:some g=some w.heap.size:=m
  cases I;exact Nz _
  rw [N]at m;cases m
  have:(w.alloc (.cells #[] e)).heap.size=w.heap.size+1:=by simp
  omega
def iX{w a:WD}(h:BW w a)(o:Obj):BW w (a.alloc o):=h.alloc h.size o
def aa{w a b:WD}(h:BW w a)(c:BW a b):BW w b:=h.trans (c.mono h.size)
end
section
open Go.RowKit
def N7:=@Go.World.frozen?_of_block
def Oc:=@Go.World.cell?_setCell_other
def Oj:=@Go.World.cell?_setCell_same
def OH:=@Go.World.frozen?_setCell
def Pd:=@List.length_take
def PD:=@List.ext_getElem
def Re:=@List.getElem_range
def Rv:=@List.getElem_map
def Sa:=@List.getElem_set
structure Rec (N:Nat) (sl:Nat->Prop) (ty:Nat->TypeId) (w:WD) (g:Nat) (C:Nat->Value) (X:Nat->List Value):Prop where
 cell:∀k,k<N->w.cell? (AD g k)=some (C k)
 mB:∀k,w.frozen? (AD g k)=false
 eE:∀k,sl k->k<N
 cK:∀k,sl k->Sl w (ty k) (C k) (X k).length (X k)
 apart:∀i j b,sl i->sl j->(C i).ownBlock=some b->(C j).ownBlock=some b->i=j
 off:∀i,sl i->(C i).ownBlock≠some g
 cQ:0<N
def eN(sl:Nat->Prop)(g:Nat)(C:Nat->Value)(b:Nat):Prop:=b=g\/∃k,sl k/\(C k).ownBlock=some b
section
variable {N:Nat} {sl:Nat->Prop} {ty:Nat->TypeId} {w w1:WD} {g:Nat} {C:Nat->Value} {X:Nat->List Value}
def Rec.lt(h:Rec N sl ty w g C X):g<w.heap.size:=Nr w (AD g 0) (h.cell 0 h.cQ)
def Rec.kB(h:Rec N sl ty w g C X):∀b,eN sl g C b->b<w.heap.size:=by rintro b (rfl|⟨k,a,e⟩);exact h.lt;exact (h.cK k a).lt b e
def Rec.aA{S:Nat->Prop}(h:Rec N sl ty w g C X)(c:aj S w w1)(a:∀b,eN sl g C b->¬S b):Rec N sl ty w1 g C X where
 cell k d:=c.aq (h.cell k d) (a g (.inl rfl))
 mB k:=(N7 (c.block g h.lt (a g (.inl rfl)))).trans (h.mB k)
 eE:=h.eE
 cK k f:=Sl.aA (h.cK k f) c (λb e=>a b (.inr ⟨k,f,e⟩))
 apart:=h.apart
 off:=h.off
 cQ:=h.cQ
def dR{g i k:Nat}(h:i≠k):((AD g k):Addr)≠(AD g i):=λe=>h (by cases e;rfl)
def kU{e:TypeId}{v:Value}{n:Nat}{a:List Value}(h:Sl w e v n a)(g k:Nat)(u:Value)(c:v.ownBlock≠some g):Sl (w.setCell (AD g k) u) e v n a:=
 Sl.aA h (S:=λb=>b=g) ((aj.refl (λb=>b=g) w).setCell (p:=(AD g k)) (λ_=>rfl) u) (λb e s=>c (by rw [e,s]))
def Rec.plain(h:Rec N sl ty w g C X)(k:Nat)(l:k<N)(c:¬sl k)(v:Value):Rec N sl ty (w.setCell (AD g k) v) g (up C k v) X where
 cell i a:=by by_cases e:i=k;subst e;rw [aB];exact Oj _ _ _ (h.cell i a);rw [an _ _ _ _ e,Oc _ _ _ _ (dR e)];exact h.cell i a
 mB i:=by rw [OH];exact h.mB i
 eE:=h.eE
 cK i a:=by have e:i≠k:=λe=>c (e▸a);rw [an _ _ _ _ e];exact kU (h.cK i a) g k v (h.off i a)
 apart i j b a d:=by have e:i≠k:=λe=>c (e▸a);have f:j≠k:=λe=>c (e▸d);rw [an _ _ _ _ e,an _ _ _ _ f];exact h.apart i j b a d
 off i a:=by have e:i≠k:=λe=>c (e▸a);rw [an _ _ _ _ e];exact h.off i a
 cQ:=h.cQ
def Cu{i:Nat}(c:∀k,sl k->k≠i)(v:Value):∀b,eN sl g (up C i v) b->eN sl g C b:=by rintro b (rfl|⟨k,a,e⟩);exact .inl rfl;rw [an _ _ _ _ (c k a)]at e;exact .inr ⟨k,a,e⟩
def Rec.slice(h:Rec N sl ty w g C X)(k:Nat)(o:sl k)(v:Value)(xs:List Value)
 (s:Sl w1 (ty k) v xs.length xs) (r:aj (λb=>(C k).ownBlock=some b) w w1) (m:dC w (C k) v):
 Rec N sl ty (w1.setCell (AD g k) v) g (up C k v) (up X k xs):=by
 have c:∀i,i<N->CA w1 g i (C i):=λi a=>r.aq (h.cell i a) (h.off k o)
 have p:∀b,v.ownBlock=some b->b≠g/\∀i,sl i->i≠k->(C i).ownBlock≠some b:=by
  intro b f;rcases m with m|⟨t,m,x⟩;rw [m]at f;refine ⟨λe=>h.off k o (by rw [f,e]),λi a n e=>n (h.apart i k b a o e f)⟩;rw [m]at f;obtain rfl:t=b:=by cases f;rfl
  have:=h.lt;refine ⟨by omega,λi a n e=>?_⟩;have:=h.kB t (.inr ⟨i,a,e⟩);omega
 exact {
  cell:=λi a=>by by_cases e:i=k;subst e;rw [aB];exact Oj _ _ _ (c i a);rw [an _ _ _ _ e,Oc _ _ _ _ (dR e)];exact c i a
  mB:=λi=>by rw [OH];exact (N7 (r.block g h.lt (h.off k o))).trans (h.mB i)
  eE:=h.eE
  cK:=λi a=>by by_cases e:i=k;subst e;rw [aB,aB];exact kU s g i v (λe=>(p g e).1 rfl);rw [an _ _ _ _ e,an _ _ _ _ e];have l:=Sl.aA (h.cK i a) r (λb f d=>e (h.apart i k b a o f d));exact kU l g k v (h.off i a)
  apart:=λi j b a u=>by by_cases e:i=k;by_cases d:j=k;intro _ _;omega;subst e;rw [aB,an _ _ _ _ d];intro l q;exact ((p b l).2 j u d q).elim;rw [an _ _ _ _ e];by_cases d:j=k;subst d;rw [aB];intro l q;exact ((p b q).2 i a e l).elim;rw [an _ _ _ _ d];exact h.apart i j b a u
  off:=λi a=>by by_cases e:i=k;subst e;rw [aB];intro e;exact (p g e).1 rfl;rw [an _ _ _ _ e];exact h.off i a
  cQ:=h.cQ}
def vK(k:Nat)(j:sl k)(v:Value)(a:dC w (C k) v):∀b,eN sl g (up C k v) b->eN sl g C b\/w.heap.size<=b:=by rintro b (rfl|⟨i,f,e⟩);exact .inl (.inl rfl);by_cases d:i=k;subst d;rw [aB]at e;rcases a with a|⟨h,a,c⟩;rw [a]at e;exact .inl (.inr ⟨i,f,e⟩);rw [a]at e;cases e;exact .inr c;rw [an _ _ _ _ d]at e;exact .inl (.inr ⟨i,f,e⟩)
def Rec.two(h:Rec N sl ty w g C X)(k l:Nat)(I:sl k)(J:sl l)(K:k≠l)(v u:Value)(G H:List Value)(r:aj (λb=>(C k).ownBlock=some b\/(C l).ownBlock=some b) w w1)
 (R:Sl w1 (ty k) v G.length G) (Q:Sl w1 (ty l) u H.length H) (T:dC w (C k) v) (S:dC w (C l) u) (F:∀b,v.ownBlock=some b->u.ownBlock≠some b):
 Rec N sl ty ((w1.setCell (AD g k) v).setCell (AD g l) u) g (up (up C k v) l u) (up (up X k G) l H):=by
 have f:∀i,i<N->CA w1 g i (C i):=λi c=>r.aq (h.cell i c) (λe=>e.elim (h.off k I) (h.off l J))
 have z:∀(j:Nat)(x:Value),sl j->dC w (C j) x->∀b,x.ownBlock=some b->b≠g/\∀i,sl i->i≠j->(C i).ownBlock≠some b:=by
  intro j x s D b o;rcases D with D|⟨L,D,P⟩;rw [D]at o;exact ⟨λe=>h.off j s (by rw [o,e]),λi c E e=>E (h.apart i j b c s e o)⟩;rw [D]at o;obtain rfl:L=b:=by cases o;rfl
  have:=h.lt;exact ⟨by omega,λi c E e=>by have:=h.kB L (.inr ⟨i,c,e⟩);omega⟩
 have B:=z k v I T
 have A:=z l u J S
 have M:∀i,up (up C k v) l u i=if i=l then u else if i=k then v else C i:=λi=>rfl
 have U:∀i,up (up X k G) l H i=if i=l then H else if i=k then G else X i:=λi=>rfl
 exact {
  cell:=λi c=>by
   by_cases e:i=l;subst e;have O:(w1.setCell (AD g k) v).cell? (AD g i)=some (C i):=by rw [Oc _ _ _ _ (dR (P4 K))];exact f i c
   rw [aB];exact Oj _ _ _ O;rw [an _ _ _ _ e,Oc _ _ _ _ (dR e)];by_cases n:i=k;subst n;rw [aB];exact Oj _ _ _ (f i c);rw [an _ _ _ _ n,Oc _ _ _ _ (dR n)];exact f i c
  mB:=λi=>by rw [OH,OH];exact (N7 (r.block g h.lt (λe=>e.elim (h.off k I) (h.off l J)))).trans (h.mB i)
  eE:=h.eE
  cK:=λi c=>by by_cases e:i=l;subst e;rw [aB,aB];exact kU (kU Q g k v (λe=>(A g e).1 rfl)) g i u (λe=>(A g e).1 rfl);rw [an _ _ _ _ e,an _ _ _ _ e];by_cases n:i=k;subst n;rw [aB,aB];exact kU (kU R g i v (λe=>(B g e).1 rfl)) g l u (λe=>(B g e).1 rfl);rw [an _ _ _ _ n,an _ _ _ _ n];have a:=Sl.aA (h.cK i c) r (λb o m=>m.elim (λm=>n (h.apart i k b c I o m)) (λm=>e (h.apart i l b c J o m)));exact kU (kU a g k v (h.off i c)) g l u (h.off i c)
  apart:=λi j b c s a d=>by rw [M]at a d;by_cases y:i=l;rw [Px y]at a;by_cases q:j=l;omega;rw [Of q]at d;by_cases p:j=k;rw [Px p]at d;exact (F b d a).elim;rw [Of p]at d;exact ((A b a).2 j s q d).elim;rw [Of y]at a;by_cases t:i=k;rw [Px t]at a;by_cases q:j=l;rw [Px q]at d;exact (F b a d).elim;rw [Of q]at d;by_cases p:j=k;omega;rw [Of p]at d;exact ((B b a).2 j s p d).elim;rw [Of t]at a;by_cases q:j=l;rw [Px q]at d;exact ((A b d).2 i c y a).elim;rw [Of q]at d;by_cases p:j=k;rw [Px p]at d;exact ((B b d).2 i c t a).elim;rw [Of p]at d;exact h.apart i j b c s a d
  off:=λi c a=>by rw [M]at a;by_cases y:i=l;rw [Px y]at a;exact (A g a).1 rfl;rw [Of y]at a;by_cases t:i=k;rw [Px t]at a;exact (B g a).1 rfl;rw [Of t]at a;exact h.off i c a
  cQ:=h.cQ}
def Hc(k l:Nat)(h:sl k)(o:sl l)(v u:Value)(m:dC w (C k) v)(j:dC w (C l) u):∀b,eN sl g (up (up C k v) l u) b->eN sl g C b\/w.heap.size<=b:=by rintro b (rfl|⟨i,f,e⟩);exact .inl (.inl rfl);by_cases d:i=l;subst d;rw [aB]at e;rcases j with c|⟨n,c,a⟩;rw [c]at e;exact .inl (.inr ⟨i,f,e⟩);rw [c]at e;cases e;exact .inr a;rw [an _ _ _ _ d]at e;exact vK k h v m b (.inr ⟨i,f,e⟩)
def Rec.elem(h:Rec N sl ty w g C X)(k:Nat)(o:sl k){b n c:Nat}(l:C k=SV b n c)(i:Nat)(u:Value):
 Rec N sl ty (w.setCell (AD b i) u) g C (up X k ((X k).set i u)):=by
 have s:(C k).ownBlock=some b:=by rw [l];rfl
 have m:b≠g:=λe=>h.off k o (by rw [s,e])
 have f:aj (λd=>d=b) w (w.setCell (AD b i) u):=(aj.refl (λd=>d=b) w).setCell (p:=(AD b i)) (λ_=>rfl) u
 have t:(X k).length=n:=by have:=h.cK k o;rw [l]at this;have:=dT this;omega
 exact {
  cell:=λj a=>f.aq (h.cell j a) (λe=>m e.symm)
  mB:=λj=>by rw [OH];exact h.mB j
  eE:=h.eE
  cK:=λj a=>by by_cases e:j=k;subst e;rw [aB];have r:=h.cK j a;rw [l,t]at r;have q:=Qh r i u;rw [l,Qk,t];exact q.1;rw [an _ _ _ _ e];exact Sl.aA (h.cK j a) f (λd x v=>e (h.apart j k d a o x (by rw [s,v])))
  apart:=h.apart
  off:=h.off
  cQ:=h.cQ}
def Rec.val(h:Rec N sl ty w g C X)(k:Nat)(r:sl k):∃a c,C k=.slice a (X k).length c/\(X k).length<=c/\c<=maxLen/\(a=none->(X k).length=0/\c=0)/\
 ∀i,i<(X k).length->∃b,a=some (AD b 0)/\w.cell? (AD b i)=(X k)[i]? /\FZ w b i:=by
 have f:=h.cK k r
 obtain ⟨a,c,e,o⟩:=f.shape
 rw [e]at f
 have d:=dT f
 refine ⟨a,c,e,d.1,d.2.1,λq=>?_,λi p=>?_⟩
 subst q
 rcases f.2 with⟨j,n⟩|⟨b,l,m,j,_⟩
 exact ⟨n,by injection j⟩
 injection j with e _ _;cases e
 obtain ⟨b,rfl,_,j⟩:=o i p
 exact ⟨b,rfl,j,PH (size:=1) f i⟩
def wS{e:TypeId}{a:OA}{n c m:Nat}{j:List Value}(h:Sl w e (.slice a n c) n j)(s:m<=n):Sl w e (.slice a m c) m (j.take m):=by
 refine ⟨by have:=h.1;rw [Pd];omega,?_⟩;rcases h.2 with⟨f,i⟩|⟨b,k,d,f,i,l,r,o,p,q⟩;left;obtain rfl:m=0:=by omega
 subst i;exact ⟨by injection f with e1 e2 e3;rw [e1,e3],rfl⟩;right;injection f with e1 e2 e3;subst e1 e3;refine ⟨b,c,d,rfl,i,l,by omega,o,p,?_⟩;rw [<-q,List.take_take];congr 1;omega
end
def fK(n:Nat)(f:Nat->Nat):List Value:=(List.range n).map λi=>IV (f i:Int)
def bA(n:Nat)(f:Nat->Bool):List Value:=(List.range n).map λi=>.bool (f i)
def bI(l:List Nat):List Value:=l.map λ(x:Nat)=>IV x
def cV(n:Nat)(f:Nat->Nat):(fK n f).length=n:=by simp [fK]
def dU(n:Nat)(f:Nat->Bool):(bA n f).length=n:=by simp [bA]
def bW(l:List Nat):(bI l).length=l.length:=by simp [bI]
def dX(n:Nat)(f:Nat->Nat)(i:Nat)(h:i<n):(fK n f)[i]? =some (IV (f i:Int)):=by simp [fK,h]
def fw(n:Nat)(f:Nat->Bool)(i:Nat)(h:i<n):(bA n f)[i]? =some (.bool (f i)):=by simp [bA,h]
def nF(l:List Nat)(i:Nat)(h:i<l.length):(bI l)[i]? =some (IV ((l.getD i 0:Nat):Int)):=by simp [bI,h,List.getD]
def j5(n:Nat)(f:Nat->Nat)(i v:Nat)(_:i<n):(fK n f).set i (IV v)=fK n (up f i v):=by refine PD (by simp [fK]) λj b c=>?_;rw [Sa];simp only [fK,Rv,Re,up];by_cases e:i=j;subst e;simp;rw [Of e,Of (λa=>e a.symm)]
def ky(n:Nat)(f:Nat->Bool)(i:Nat)(v:Bool)(_:i<n):(bA n f).set i (.bool v)=bA n (up f i v):=by refine PD (by simp [bA]) λj b c=>?_;rw [Sa];simp only [bA,Rv,Re,up];by_cases e:i=j;subst e;simp;rw [Of e,Of (λa=>e a.symm)]
def kG(l:List Nat)(x:Nat):bI (l++[x])=bI l++[IV x]:=by simp [bI]
def rm(l:List Nat)(k:Nat):bI (l.take k)=(bI l).take k:=by simp [bI,List.map_take]
end
section
open Go.RowKit
def OK:=@Go.World.cell?_alloc_at
def gz{P:Program}{w:WD}{o:Oper}{a:Act}{K:Act->WD->Prop}{Q:Exit->Act->WD->Prop}(s x:Operand)(t:TypeId)
 (J:o.op=.call {callee:=.builtin .append,args:=#[s,x],argTypes:=#[t,t]})
 (e:TypeId) (i:TypeInfo) (z:Value) (f:Nat) (N:P.underlying t=some (.slice e)) (I:P.info? e=some i) (S:i.zero=some z)
 (m:i.size=1) (C:i.bytes=f) (D:z.cells.size=1) (y:1<=f)
 (v:Value) (n:Nat) (xs:List Value) (M:a.eval s=v) (r:Sl w e v n xs)
 (q:Addr) (u:Value) (O:u.oneCell'=true) (R:a.eval x=.slice (some q) 1 1) (H:w.cell? q=some u) (g:(n+1)*f<=140737488355328)
 (h:∀B w',Sl w' e B (n+1) (xs++[u])->aj (λk=>v.ownBlock=some k) w w'->dC w v B->K (a.put o.dst B) w'):aY P o a w K Q:=by
 constructor
 obtain ⟨B,w',L,E,F,G⟩:=fQ (P:=P) w t o.type e i z f N I S m C D y v n xs r q 1 1 [u] rfl (by
  intro j T p;match j,p with
  |0,p=>
   simp at p;subst p;have:q.add 0=q:=by simp [Addr.add]
   rw [this];exact H
  |j+1,p=>simp at p) (by intro T A;simp at A;subst A;exact O) g
 unfold Oper.wp execOp
 simp only [J,resolve,invoke,builtin,P8,Qt,Po,PE,NQ,NZ,M,R,L]
 exact h B w' E F G
def xQ(w2 w:WD)(v u:Value):Prop:=∃q,v=SV q 1 1/\w.cell? (AD q 0)=some u/\w2.heap.size<=q
def xQ.aA{w2 w w':WD}{v u:Value}{S:Nat->Prop}(h:xQ w2 w v u)(k:aj S w w')(j:∀b,S b->b<w2.heap.size):xQ w2 w' v u:=by obtain ⟨q,f,g,i⟩:=h;exact ⟨q,f,k.aq g (λm=>by have:=j q m;omega),i⟩
structure kY (a b c d:Nat) (da db dc dd:Nat) (e:TypeId) (w2:WD) (vs vw:Value) (xs ys:List Value) (u:Value) (l:Array Bool) (V:Nat->Value) (w:WD):Prop where
 aA:aj (λk=>vs.ownBlock=some k\/vw.ownBlock=some k) w2 w
 Mr:l.getD a false=true->l.getD b false=false->xQ w2 w (V da) u
 LD:l.getD c false=true->l.getD d false=false->xQ w2 w (V dc) u
 Mv:l.getD b false=false->Sl w e vs xs.length xs
 LM:l.getD d false=false->Sl w e vw ys.length ys
 A8:l.getD b false=true->Sl w e (V db) (xs.length+1) (xs++[u])/\dC w2 vs (V db)
 A9:l.getD d false=true->Sl w e (V dd) (ys.length+1) (ys++[u])/\dC w2 vw (V dd)/\∀k,(V db).ownBlock=some k->(V dd).ownBlock≠some k
section
variable {a b c d da db dc dd:Nat} {e:TypeId} {w2 w w':WD} {vs vw:Value} {xs ys:List Value} {u:Value} {l:Array Bool} {V:Nat->Value}
def fP{l:Array Bool}{i j:Nat}(h:i≠j)(f:Bool):(l.setIfInBounds i true).getD j f=l.getD j f:=Qi f h
def uL{l:Array Bool}{i:Nat}(h:i<l.size)(f:Bool):(l.setIfInBounds i true).getD i f=true:=by simp [h]
def kY.aK(o:aj (λk=>vs.ownBlock=some k\/vw.ownBlock=some k) w2 w)(f:Sl w e vs xs.length xs)(g:Sl w e vw ys.length ys)
 (i:l.getD a false=false) (j:l.getD b false=false) (m:l.getD c false=false) (n:l.getD d false=false):kY a b c d da db dc dd e w2 vs vw xs ys u l V w:=
 ⟨o,λh=>(by rw [i]at h;cases h),λh=>(by rw [m]at h;cases h),λ_=>f,λ_=>g,λh=>(by rw [j]at h;cases h),λh=>(by rw [n]at h;cases h)⟩
def kY.laid{i g:Nat}(h:kY a b c d da db dc dd e w2 vs vw xs ys u l V w)(y:∀k,vs.ownBlock=some k->k<w2.heap.size)(hw:∀k,vw.ownBlock=some k->k<w2.heap.size)
 (r:i=a/\g=da\/i=c/\g=dc) (m:b≠i) (n:d≠i) (q:a≠c) (s:db≠g) (v:dd≠g) (t:da≠dc):
 kY a b c d da db dc dd e w2 vs vw xs ys u (l.setIfInBounds i true) (up V g (SV w.heap.size 1 1)) (w.alloc (.cells #[u] e)):=by
 have o:aj (λ_=>False) w (w.alloc (.cells #[u] e)):=(aj.refl _ w).alloc _
 have j:xQ w2 (w.alloc (.cells #[u] e)) (SV w.heap.size 1 1) u:=⟨w.heap.size,rfl,OK (w:=w) #[u] e w.heap.size 0 rfl,h.aA.size⟩
 refine ⟨h.aA.alloc _,λf p=>?_,λf p=>?_,λf=>?_,λf=>?_,λf=>?_,λf=>?_⟩
 rw [fP (P4 m)]at p
 by_cases e:i=a
 have:g=da:=r.elim (λx=>x.2) (λx=>absurd (e.symm.trans x.1) q)
 subst this;rw [aB];exact j
 rw [fP e]at f
 have:g≠da:=r.elim (λx=>absurd x.1 e) (λx=>by rw [x.2];exact P4 t)
 rw [an _ _ _ _ (P4 this)]
 exact (h.Mr f p).aA o (λ_ h=>h.elim)
 rw [fP (P4 n)]at p
 by_cases e:i=c
 have:g=dc:=r.elim (λx=>absurd (x.1.symm.trans e) q) (λx=>x.2)
 subst this;rw [aB];exact j
 rw [fP e]at f
 have:g≠dc:=r.elim (λx=>by rw [x.2];exact t) (λx=>absurd x.1 e)
 rw [an _ _ _ _ (P4 this)]
 exact (h.LD f p).aA o (λ_ h=>h.elim)
 rw [fP (P4 m)]at f
 exact Sl.aA (h.Mv f) o (λ_ _ h=>h)
 rw [fP (P4 n)]at f
 exact Sl.aA (h.LM f) o (λ_ _ h=>h)
 rw [fP (P4 m)]at f
 rw [an _ _ _ _ s]
 exact ⟨Sl.aA (h.A8 f).1 o (λ_ _ h=>h),(h.A8 f).2⟩
 rw [fP (P4 n)]at f
 rw [an _ _ _ _ s,an _ _ _ _ v]
 exact ⟨Sl.aA (h.A9 f).1 o (λ_ _ h=>h),(h.A9 f).2⟩
def kY.first(h:kY a b c d da db dc dd e w2 vs vw xs ys u l V w)(v:∀k,vs.ownBlock=some k->k<w2.heap.size)(i:∀k,vs.ownBlock=some k->vw.ownBlock≠some k)
 (q:b<l.size) (j:l.getD d false=false) (B:b≠a) (z:b≠c) (o:b≠d) (A:da≠db) (r:dc≠db) {p:Value}
 (x:Sl w' e p (xs.length+1) (xs++[u])) (n:aj (λk=>vs.ownBlock=some k) w w') (y:dC w vs p):
 kY a b c d da db dc dd e w2 vs vw xs ys u (l.setIfInBounds b true) (up V db p) w':=by
 refine ⟨h.aA.then (T:=λk=>vs.ownBlock=some k) n (λ_ _ h=>.inl h),λf g=>?_,λf g=>?_,λf=>?_,λf=>?_,λf=>?_,λf=>?_⟩
 rw [uL q]at g;cases g
 rw [fP z]at f
 rw [fP o]at g
 rw [an _ _ _ _ r]
 exact (h.LD f g).aA n v
 rw [uL q]at f;cases f
 rw [fP o]at f
 exact Sl.aA (h.LM f) n (λk t m=>i k m t)
 rw [aB]
 refine ⟨x,y.imp id λ⟨k,g,s⟩=>⟨k,g,N5 h.aA.size s⟩⟩
 rw [fP o,j]at f;cases f
def kY.second(h:kY a b c d da db dc dd e w2 vs vw xs ys u l V w)(hw:∀k,vw.ownBlock=some k->k<w2.heap.size)(q:∀k,vs.ownBlock=some k->vw.ownBlock≠some k)
 (v:d<l.size) (m:l.getD b false=true) (F:d≠a) (y:d≠b) (C:da≠dd) (s:db≠dd) {r:Value}
 (B:Sl w' e r (ys.length+1) (ys++[u])) (x:aj (λk=>vw.ownBlock=some k) w w') (o:dC w vw r):
 kY a b c d da db dc dd e w2 vs vw xs ys u (l.setIfInBounds d true) (up V dd r) w':=by
 obtain ⟨t,i⟩:=h.A8 m
 have p:∀k,(V db).ownBlock=some k->vw.ownBlock≠some k:=λk n f=>by rcases i with i|⟨A,i,D⟩;exact q k (by rw [<-i];exact n) f;rw [n]at i;cases i;have:=hw k f;omega
 refine ⟨h.aA.then (T:=λk=>vw.ownBlock=some k) x (λ_ _ h=>.inr h),λg j=>?_,λg j=>?_,λg=>?_,λg=>?_,λg=>?_,λg=>?_⟩
 rw [fP y,m]at j;cases j
 rw [uL v]at j;cases j
 rw [fP y,m]at g;cases g
 rw [uL v]at g;cases g
 rw [an _ _ _ _ s]
 exact ⟨Sl.aA t x (λk n f=>p k n f),i⟩
 rw [aB,an _ _ _ _ s]
 refine ⟨B,o.imp id λ⟨k,j,z⟩=>⟨k,j,N5 h.aA.size z⟩,λk n f=>?_⟩
 rcases o with o|⟨A,o,E⟩
 exact p k n (by rw [<-o];exact f)
 rw [f]at o;cases o
 have:=t.lt k n;omega
end
end
end Go.Own
namespace Go
section
def R0:=@if_neg
section
variable {P:Program} {ops:Array Oper} {w0:World}
theorem Oper.wU{o:Oper}{a:Act}{K e:Act->Prop}(d:∀a,K a->e a)(h:o.quiet P a (λx=>x=w0) K):o.still P a w0 e:=by
 obtain ⟨v,j,c⟩:=h;have b:=j w0 rfl;unfold Oper.still;unfold Oper.quietAt at b;cases i:(execOp a.eval o).run P w0 with
 |ok n l=>
  rw [i]at b;cases n with
  |value u=>obtain ⟨rfl,rfl⟩:=b;exact ⟨rfl,d _ c⟩
  |skip=>obtain ⟨rfl,rfl⟩:=b;exact ⟨rfl,d _ c⟩
  |enter f g=>obtain ⟨hw,k⟩:=b;exact ⟨hw,v,by subst hw;exact k,d _ c⟩
  |_=>exact b.elim
 |_=>rw [i]at b;exact b.elim
theorem iL{Q:Act->Prop}:∀(l:List Oper)(a:Act),wpQuiet P ops (λx=>x=w0) Q l a->wpStill P ops w0 Q l a
 |[],_,h=>h
 |o::b,a,h=>by unfold wpQuiet at h;unfold wpStill;split at h;rename_i hw;rw [if_pos hw];exact Oper.wU (λa h=>iL b a h) h;rename_i hw;rw [R0 hw];exact iL b _ h
theorem dH{e:Nat}{Q:Exit->Act->World->Prop}{a:Act}{w:World}{l:List Oper}(n:Nat)(d:P.follows .mixedOrders=true)(c:Region.lexTailB .any l.toArray n=true)
 (h:wpQuiet P l.toArray (λx=>x=w.drew) (λb=>wpList P l.toArray Q (l.drop n) b w.drew) (l.take n) a):(Code.region e l.toArray true).wp P Q a w:=
 wp_region_still_tail n d c (iL _ _ h)
end
end
end Go
namespace Go.Own
open Go.RowKit
end Go.Own
namespace Go.Proofs.YtimniinkpipnmaaGreatDoor
open Go.RowKit Go.Own
abbrev CL:=Calls Tryz.prog
def Nq:=@Go.Lib.hid
def NC:=@beq_eq_false_iff_ne
def NV:=@Go.World.cell?_alloc_at
def Pf:=@Go.IntWalk.i64_in
def Pm:=@Int.tmod_eq_emod_of_nonneg
def QV:=@Nat.mod_lt
def R6:=@Int.natCast_emod
def tk(a:Int):Int:=
 if a=1\/a=2\/a=3 then 0 else if a=4\/a=8\/a=11\/a=12 then 1 else if a=5\/a=6\/a=7\/a=9\/a=10 then 2 else-1
def lM(a:Int)(w:WD):CL 131 #[IV a] w λe g=>e=RT (IV (tk a))/\g=w:=by
 by_cases h:a=1\/a=2\/a=3\/a=4\/a=5\/a=6\/a=7\/a=8\/a=9\/a=10\/a=11\/a=12
 ·rcases h with rfl|rfl|rfl|rfl|rfl|rfl|rfl|rfl|rfl|rfl|rfl|rfl;all_goals
   go_enter Tryz.func131,Tryz.ntmps131
   go_wp2
   go_ret
   exact ⟨rfl,rfl⟩
 ·have i:(a==1)=false:=NC.2 (by omega);have j:(a==2)=false:=NC.2 (by omega)
  have k:(a==3)=false:=NC.2 (by omega);have l:(a==4)=false:=NC.2 (by omega);have m:(a==5)=false:=NC.2 (by omega);have n:(a==6)=false:=NC.2 (by omega);have o:(a==7)=false:=NC.2 (by omega);have p:(a==8)=false:=NC.2 (by omega);have q:(a==9)=false:=NC.2 (by omega);have b:(a==10)=false:=NC.2 (by omega);have c:(a==11)=false:=NC.2 (by omega);have d:(a==12)=false:=NC.2 (by omega);have f:Hid (tk a=-1):=by show _=_;unfold tk;rw [R0 (by omega),R0 (by omega),R0 (by omega)]
  clear h;go_enter Tryz.func131,Tryz.ntmps131;go_wp2;go_ret;exact ⟨by rw [f.o];rfl,rfl⟩
abbrev yQ(f:OA)(e b:Nat)(c:OA)(d a:Nat):Value:=.agg #[.slice f e b,.slice c d a]
def dM(b a:Nat):Int:=if a=0 then 8 else if 65536<b+a then 11 else 0
def Dv(k:OA)(b h:Nat)(j:OA)(a g:Nat)(w:WD)(n:b<=4611686018427387903)(o:a<=4611686018427387903):
 CL 24 #[yQ k b h j a g] w λe m=>e=RT (IV (dM b a))/\BW w m:=by
 have d:Hid (∀W,W=w.alloc (.cells #[.slice k b h,.slice j a g] 25)->BW w W):=by rintro W rfl;exact (Nx _ w).alloc (Nz _) _
 by_cases c:a=0
 ·subst c;go_enter Tryz.func24,Tryz.ntmps24
  go_wp2;go_ret;exact ⟨rfl,d.o _ rfl⟩
 ·have p:((a:Int)==0)=false:=NC.2 (by omega);have q:(a==0)=false:=NC.2 c
  by_cases i:65536<b+a
  ·have l:(65536:Int)<(b:Int)+(a:Int):=by omega
   have f:Hid (dM b a=11):=by show _=_;unfold dM;rw [R0 c,Oa i]
   go_enter Tryz.func24,Tryz.ntmps24;go_wp2;go_ret;exact ⟨by rw [f.o];rfl,d.o _ rfl⟩
  ·have l:¬(65536:Int)<(b:Int)+(a:Int):=by omega
   have r:b+a<=65536:=by omega
   have f:Hid (dM b a=0):=by show _=_;unfold dM;rw [R0 c,R0 i]
   go_enter Tryz.func24,Tryz.ntmps24;go_wp2;go_ret;exact ⟨by rw [f.o];rfl,d.o _ rfl⟩
def wI(k:OA)(b h:Nat)(j:OA)(a g:Nat)(w:WD)(n:b<=4611686018427387903)(o:a<=4611686018427387903):
 CL 5 #[yQ k b h j a g] w λe m=>e=RT (IV (dM b a))/\BW w m:=by
 have d:Hid (∀W,W=w.alloc (.cells #[.slice k b h,.slice j a g] 25)->BW w W):=by rintro W rfl;exact (Nx _ w).alloc (Nz _) _
 by_cases c:a=0
 ·subst c;go_enter Tryz.func5,Tryz.ntmps5
  go_wp2;go_ret;exact ⟨rfl,d.o _ rfl⟩
 ·have p:((a:Int)==0)=false:=NC.2 (by omega);have q:(a==0)=false:=NC.2 c
  by_cases i:65536<b+a
  ·have l:(65536:Int)<(b:Int)+(a:Int):=by omega
   have f:Hid (dM b a=11):=by show _=_;unfold dM;rw [R0 c,Oa i]
   go_enter Tryz.func5,Tryz.ntmps5;go_wp2;go_ret;exact ⟨by rw [f.o];rfl,d.o _ rfl⟩
  ·have l:¬(65536:Int)<(b:Int)+(a:Int):=by omega
   have r:b+a<=65536:=by omega
   have f:Hid (dM b a=0):=by show _=_;unfold dM;rw [R0 c,R0 i]
   go_enter Tryz.func5,Tryz.ntmps5;go_wp2;go_ret;exact ⟨by rw [f.o];rfl,d.o _ rfl⟩
def Jm(g:OA)(b d:Nat)(f:OA)(a c:Nat)(w:WD)(j:b<=4611686018427387903)(k:a<=4611686018427387903):
 CL 48 #[yQ g b d f a c] w λe i=>e=RT (IV ((b:Int)+(a:Int)))/\BW w i:=by
 have h:Hid (∀W,W=w.alloc (.cells #[.slice g b d,.slice f a c] 25)->BW w W):=by rintro W rfl;exact (Nx _ w).alloc (Nz _) _
 go_enter Tryz.func48,Tryz.ntmps48
 go_wp2
 go_ret
 exact ⟨by go_num,h.o _ rfl⟩
def IJ(g:OA)(b d:Nat)(f:OA)(a c:Nat)(w:WD)(j:b<=4611686018427387903)(k:a<=4611686018427387903):
 CL 28 #[yQ g b d f a c] w λe i=>e=RT (IV ((b:Int)+(a:Int)))/\BW w i:=by
 have h:Hid (∀W,W=w.alloc (.cells #[.slice g b d,.slice f a c] 25)->BW w W):=by rintro W rfl;exact (Nx _ w).alloc (Nz _) _
 go_enter Tryz.func28,Tryz.ntmps28
 go_wp2
 go_ret
 exact ⟨by go_num,h.o _ rfl⟩
def gJ(a b:List Int)(i:Nat):Int:=if i<a.length then a.getD i 0 else b.getD ((i-a.length)%b.length) 0
def KH(k:OA)(a h:Nat)(p:OA)(c l:Nat)(n m:List Int)(i:Nat)(w:WD)(R:a<=1000000)(S:c<=1000000)(T:i<=1000000)(G:aG .u64 w k a n)(F:aG .u64 w p c m)(O:0<c):
 CL 50 #[yQ k a h p c l,IV i] w λe P=>e=RT (UV (gJ n m i))/\BW w P:=by
 have q:Hid (∀W,W=w.alloc (.cells #[.slice k a h,.slice p c l] 25)->BW w W/\CA W w.heap.size 0 (.slice k a h)/\CA W w.heap.size 1 (.slice p c l)):=by rintro W rfl;exact ⟨(Nx _ w).alloc (Nz _) _,NV (w:=w) _ 25 w.heap.size 0 rfl,NV (w:=w) _ 25 w.heap.size 1 rfl⟩
 have r:=Nq G
 have C:=Nq F
 have U:((c:Int)==0)=false:=NC.2 (by omega)
 have V:(c==0)=false:=NC.2 (by omega)
 clear G F
 by_cases x:i<a
 have y:(i:Int)<(a:Int):=by omega
 have t:Hid (gJ n m i=n.getD i 0):=by show _=_;unfold gJ;rw [Oa (by rw [r.o.1];exact x)]
 go_enter Tryz.func50,Tryz.ntmps50
 go_upto_region 1 with(fail)
 obtain ⟨d,u,D⟩:=q.o _ rfl
 have g:=Nq d
 obtain ⟨-,I|⟨b,f,rfl,o⟩⟩:=r.o.af d
 omega
 have E:=o i x
 clear q d o
 generalize w.alloc (.cells #[.slice (some (AD b f)) a h,.slice p c l] 25)=H at *
 generalize n.getD i 0=z at *
 go_wp2_with fail
 go_ret
 exact ⟨by rw [t.o];rfl,g.o⟩
 have y:¬(i:Int)<(a:Int):=by omega
 have K:a<=i:=by omega
 obtain ⟨j,s⟩:=EX ((i-a)%c)
 have A:j<c:=by rw [<-s];exact QV _ O
 have t:Hid (gJ n m i=m.getD j 0):=by show _=_;unfold gJ;rw [R0 (by rw [r.o.1];exact x),r.o.1,C.o.1,s]
 have L:((i:Int)-(a:Int)).tmod (c:Int)=(j:Int):=by
  have e:(i:Int)-(a:Int)=((i-a:Nat):Int):=by omega
  rw [e,<-s,Pm (by omega)];exact (R6 _ _).symm
 have J:(j:Int)<(c:Int):=by omega
 have v:(0:Int)<=(i:Int)-(a:Int):=by omega
 have M:((i:Int)-(a:Int))%(c:Int)=(j:Int):=by rw [<-Pm v];exact L
 have X:¬(c:Int)=0:=by omega
 have Y:¬c=0:=by omega
 have hw:IntKind.i64.wrap ((i:Int)-(a:Int))=(i:Int)-(a:Int):=Pf _ (by omega)
 have B:(((i-a:Nat):Int))%(c:Int)=(j:Int):=by rw [<-s];exact (R6 _ _).symm
 have N:(((i-a:Nat):Int)).tmod (c:Int)=(j:Int):=by rw [Pm (by omega)];exact B
 go_enter Tryz.func50,Tryz.ntmps50
 go_upto_region 1 with(fail)
 obtain ⟨d,u,D⟩:=q.o _ rfl
 have g:=Nq d
 obtain ⟨-,I|⟨b,f,rfl,o⟩⟩:=C.o.af d
 omega
 have E:=o j A
 clear q d o
 generalize w.alloc (.cells #[.slice k a h,.slice (some (AD b f)) c l] 25)=H at *
 generalize m.getD j 0=z at *
 have Q:CA H.drew w.heap.size 0 (.slice k a h):=u
 go_upto_region 7 with(fail)
 go_region_held3 (λW=>CA W w.heap.size 0 (.slice k a h)/\CA W w.heap.size 1 (.slice (some (AD b f)) c l)/\CA W b (f+j) (UV z))
  (exact ⟨u,D,E⟩)
  (fail)
 go_wp2_with fail
 go_ret
 exact ⟨by rw [t.o];rfl,g.o.drew⟩
def Kn(k:OA)(a h:Nat)(p:OA)(c l:Nat)(n m:List Int)(i:Nat)(w:WD)(R:a<=1000000)(S:c<=1000000)(T:i<=1000000)(G:aG .u64 w k a n)(F:aG .u64 w p c m)(O:0<c):
 CL 30 #[yQ k a h p c l,IV i] w λe P=>e=RT (UV (gJ n m i))/\BW w P:=by
 have q:Hid (∀W,W=w.alloc (.cells #[.slice k a h,.slice p c l] 25)->BW w W/\CA W w.heap.size 0 (.slice k a h)/\CA W w.heap.size 1 (.slice p c l)):=by rintro W rfl;exact ⟨(Nx _ w).alloc (Nz _) _,NV (w:=w) _ 25 w.heap.size 0 rfl,NV (w:=w) _ 25 w.heap.size 1 rfl⟩
 have r:=Nq G
 have C:=Nq F
 have U:((c:Int)==0)=false:=NC.2 (by omega)
 have V:(c==0)=false:=NC.2 (by omega)
 clear G F
 by_cases x:i<a
 have y:(i:Int)<(a:Int):=by omega
 have t:Hid (gJ n m i=n.getD i 0):=by show _=_;unfold gJ;rw [Oa (by rw [r.o.1];exact x)]
 go_enter Tryz.func30,Tryz.ntmps30
 go_upto_region 1 with(fail)
 obtain ⟨d,u,D⟩:=q.o _ rfl
 have g:=Nq d
 obtain ⟨-,I|⟨b,f,rfl,o⟩⟩:=r.o.af d
 omega
 have E:=o i x
 clear q d o
 generalize w.alloc (.cells #[.slice (some (AD b f)) a h,.slice p c l] 25)=H at *
 generalize n.getD i 0=z at *
 go_wp2_with fail
 go_ret
 exact ⟨by rw [t.o];rfl,g.o⟩
 have y:¬(i:Int)<(a:Int):=by omega
 have K:a<=i:=by omega
 obtain ⟨j,s⟩:=EX ((i-a)%c)
 have A:j<c:=by rw [<-s];exact QV _ O
 have t:Hid (gJ n m i=m.getD j 0):=by show _=_;unfold gJ;rw [R0 (by rw [r.o.1];exact x),r.o.1,C.o.1,s]
 have L:((i:Int)-(a:Int)).tmod (c:Int)=(j:Int):=by
  have e:(i:Int)-(a:Int)=((i-a:Nat):Int):=by omega
  rw [e,<-s,Pm (by omega)];exact (R6 _ _).symm
 have J:(j:Int)<(c:Int):=by omega
 have v:(0:Int)<=(i:Int)-(a:Int):=by omega
 have M:((i:Int)-(a:Int))%(c:Int)=(j:Int):=by rw [<-Pm v];exact L
 have X:¬(c:Int)=0:=by omega
 have Y:¬c=0:=by omega
 have hw:IntKind.i64.wrap ((i:Int)-(a:Int))=(i:Int)-(a:Int):=Pf _ (by omega)
 have B:(((i-a:Nat):Int))%(c:Int)=(j:Int):=by rw [<-s];exact (R6 _ _).symm
 have N:(((i-a:Nat):Int)).tmod (c:Int)=(j:Int):=by rw [Pm (by omega)];exact B
 go_enter Tryz.func30,Tryz.ntmps30
 go_upto_region 1 with(fail)
 obtain ⟨d,u,D⟩:=q.o _ rfl
 have g:=Nq d
 obtain ⟨-,I|⟨b,f,rfl,o⟩⟩:=C.o.af d
 omega
 have E:=o j A
 clear q d o
 generalize w.alloc (.cells #[.slice k a h,.slice (some (AD b f)) c l] 25)=H at *
 generalize m.getD j 0=z at *
 have Q:CA H.drew w.heap.size 0 (.slice k a h):=u
 go_upto_region 7 with(fail)
 go_region_held3 (λW=>CA W w.heap.size 0 (.slice k a h)/\CA W w.heap.size 1 (.slice (some (AD b f)) c l)/\CA W b (f+j) (UV z))
  (exact ⟨u,D,E⟩)
  (fail)
 go_wp2_with fail
 go_ret
 exact ⟨by rw [t.o];rfl,g.o.drew⟩
end Go.Proofs.YtimniinkpipnmaaGreatDoor
namespace Go.Own
def NP:=@List.getElem?_append_left
def N9:=@List.getElem?_append_right
def ON:=@Bool.false_eq_true
def PG:=@Classical.byContradiction
def P3:=@Nat.lt_trichotomy
def P6:=@if_false
def Qf:=@Nat.sub_self
def Qo:=@if_true
def Qp:=@Nat.le_refl
def Rh:=@Bool.not_false
def RX:=@trivial
def SB:=@Bool.not_true
inductive Fm where
 |tt|ff
 |prop (n:Nat)
 |neg (a:Fm)
 |and (a b:Fm)
 |or (a b:Fm)
 |imp (a b:Fm)
 |cM (a:Fm)
 |dw (a b:Fm)
 |rel (a b:Fm)
 |fin (a:Fm)
 |ep (a:Fm)
namespace Fm
def aO:Fm->Int×Int
 |tt=>(1,0)
 |ff=>(2,0)
 |prop n=>(3,n)
 |neg _=>(4,0)
 |and _ _=>(5,0)
 |or _ _=>(6,0)
 |imp _ _=>(7,0)
 |cM _=>(8,0)
 |dw _ _=>(9,0)
 |rel _ _=>(10,0)
 |fin _=>(11,0)
 |ep _=>(12,0)
def aQ:Fm->List Fm
 |tt=>[tt]
 |ff=>[ff]
 |prop n=>[prop n]
 |neg a=>aQ a++[neg a]
 |and a b=>aQ a++(aQ b++[and a b])
 |or a b=>aQ a++(aQ b++[or a b])
 |imp a b=>aQ a++(aQ b++[imp a b])
 |cM a=>aQ a++[cM a]
 |dw a b=>aQ a++(aQ b++[dw a b])
 |rel a b=>aQ a++(aQ b++[rel a b])
 |fin a=>aQ a++[fin a]
 |ep a=>aQ a++[ep a]
def enc(f:Fm):List (Int×Int):=(aQ f).map aO
def size(f:Fm):Nat:=(aQ f).length
inductive One (a:Fm):Fm->Prop
 |neg:One a (neg a)|cM:One a (cM a)|fin:One a (fin a)|ep:One a (ep a)
inductive gC (a b:Fm):Fm->Prop
 |and:gC a b (and a b)|or:gC a b (or a b)|imp:gC a b (imp a b)|dw:gC a b (dw a b)|rel:gC a b (rel a b)
inductive nN:Fm->Prop
 |tt:nN tt|ff:nN ff|prop (n:Nat):nN (prop n)
theorem Hu(f:Fm):nN f\/(∃a,One a f)\/∃a b,gC a b f:=by cases f<;>first|exact .inl (by constructor)|exact .inr (.inl ⟨_,by constructor⟩)|exact .inr (.inr ⟨_,_,by constructor⟩)
theorem One.aQ{a f:Fm}(h:One a f):aQ f=aQ a++[f]:=by cases h<;>rfl
theorem gC.aQ{a b f:Fm}(h:gC a b f):aQ f=aQ a++(aQ b++[f]):=by cases h<;>rfl
theorem nN.aQ{f:Fm}(h:nN f):aQ f=[f]:=by cases h<;>rfl
theorem One.size{a f:Fm}(h:One a f):size f=size a+1:=by unfold Fm.size;rw [h.aQ];simp
theorem gC.size{a b f:Fm}(h:gC a b f):size f=size a+size b+1:=by unfold Fm.size;rw [h.aQ];simp;omega
theorem nN.size{f:Fm}(h:nN f):size f=1:=by unfold Fm.size;rw [h.aQ];rfl
theorem bF(f:Fm):0<size f:=by rcases Hu f with h|⟨a,h⟩|⟨a,b,h⟩;rw [h.size];omega;rw [h.size];omega;rw [h.size];omega
theorem cL(f:Fm):(aQ f)[size f-1]? =some f:=by
 have c:=bF f;rcases Hu f with h|⟨a,h⟩|⟨a,b,h⟩;rw [h.size,h.aQ];rfl;rw [h.size,h.aQ,N9 (by unfold Fm.size;omega)];have:size a+1-1-(Fm.aQ a).length=0:=by unfold Fm.size;omega
 rw [this];rfl;rw [h.size,h.aQ,N9 (by unfold Fm.size;omega),N9 (by unfold Fm.size;omega)];have:size a+size b+1-1-(Fm.aQ a).length-(Fm.aQ b).length=0:=by unfold Fm.size;omega
 rw [this];rfl
theorem fR{a x:Fm}(o:One a x):∀(f:Fm)(p:Nat),(aQ f)[p]? =some x->1<=p/\(aQ f)[p-1]? =some a:=by
 intro f;induction f with
 |tt|ff|prop n=>intro p h;rcases p with _|p;simp [aQ]at h;subst h;cases o;simp [aQ]at h
 |neg b j|cM b j|fin b j|ep b j=>
  intro p h;unfold aQ at h⊢;rcases P3 p (aQ b).length with l|k|r;rw [NP l]at h;obtain ⟨i,g⟩:=j p h;exact ⟨i,by rw [NP (by omega)];exact g⟩;subst k;rw [N9 (Qp _),Qf]at h;simp at h;subst h;have q:=bF b;unfold size at q;cases o
  refine ⟨q,?_⟩;rw [NP (by omega)];exact cL _;rw [N9 (by omega)]at h;have:p-(aQ b).length=(p-(aQ b).length-1)+1:=by omega
  rw [this]at h;simp at h
 |and b c d e|or b c d e|imp b c d e|dw b c d e|rel b c d e=>
  intro p h;unfold aQ at h⊢;by_cases l:p<(aQ b).length;rw [NP l]at h;obtain ⟨i,g⟩:=d p h;exact ⟨i,by rw [NP (by omega)];exact g⟩;rw [N9 (by omega)]at h;rcases P3 (p-(aQ b).length) (aQ c).length with m|k|r;rw [NP m]at h;obtain ⟨i,g⟩:=e _ h;refine ⟨by omega,?_⟩;rw [N9 (by omega),NP (by omega)];have:p-1-(aQ b).length=p-(aQ b).length-1:=by omega
  rw [this];exact g;rw [k,N9 (Qp _),Qf]at h;simp at h;subst h;cases o
  rw [N9 (by omega)]at h;have:p-(aQ b).length-(aQ c).length=(p-(aQ b).length-(aQ c).length-1)+1:=by omega
  rw [this]at h;simp at h
theorem dL{a b x:Fm}(r:gC a b x):∀(f:Fm)(p:Nat),(aQ f)[p]? =some x->1+size b<=p/\(aQ f)[p-1]? =some b/\(aQ f)[p-1-size b]? =some a:=by
 intro f;induction f with
 |tt|ff|prop n=>intro p h;rcases p with _|p;simp [aQ]at h;subst h;cases r;simp [aQ]at h
 |neg c l|cM c l|fin c l|ep c l=>
  intro p h;unfold aQ at h⊢;rcases P3 p (aQ c).length with o|m|u;rw [NP o]at h;obtain ⟨k,i,j⟩:=l p h;exact ⟨k,by rw [NP (by omega)];exact i,by rw [NP (by omega)];exact j⟩;subst m;rw [N9 (Qp _),Qf]at h;simp at h;subst h;cases r
  rw [N9 (by omega)]at h;have:p-(aQ c).length=(p-(aQ c).length-1)+1:=by omega
  rw [this]at h;simp at h
 |and c d e g|or c d e g|imp c d e g|dw c d e g|rel c d e g=>
  intro p h;unfold aQ at h⊢;by_cases o:p<(aQ c).length;rw [NP o]at h;obtain ⟨k,i,j⟩:=e p h;exact ⟨k,by rw [NP (by omega)];exact i,by rw [NP (by omega)];exact j⟩;rw [N9 (by omega)]at h;rcases P3 (p-(aQ c).length) (aQ d).length with q|m|u;rw [NP q]at h;obtain ⟨k,i,j⟩:=g _ h;refine ⟨by omega,?_,?_⟩;rw [N9 (by omega),NP (by omega)];have:p-1-(aQ c).length=p-(aQ c).length-1:=by omega
  rw [this];exact i;rw [N9 (by omega),NP (by omega)];have:p-1-size b-(aQ c).length=p-(aQ c).length-1-size b:=by omega
  rw [this];exact j;rw [m,N9 (Qp _),Qf]at h;simp at h;subst h;cases r
  have v:=bF a;have w:=bF b;have s:(aQ a).length=size a:=rfl;have t:(aQ b).length=size b:=rfl;refine ⟨by omega,?_,?_⟩;rw [N9 (by omega),NP (by omega)];have:p-1-(aQ a).length=size b-1:=by omega
  rw [this];exact cL b;rw [NP (by omega)];have:p-1-size b=size a-1:=by omega
  rw [this];exact cL a;rw [N9 (by omega)]at h;have:p-(aQ c).length-(aQ d).length=(p-(aQ c).length-(aQ d).length-1)+1:=by omega
  rw [this]at h;simp at h
def dI(u:Nat->Nat):Fm->Nat->Prop
 |tt,_=>True
 |ff,_=>False
 |prop n,i=>(u i).testBit n=true
 |neg a,i=>¬dI u a i
 |and a b,i=>dI u a i/\dI u b i
 |or a b,i=>dI u a i\/dI u b i
 |imp a b,i=>dI u a i->dI u b i
 |cM a,i=>dI u a (i+1)
 |dw a b,i=>∃k,dI u b (i+k)/\∀j,j<k->dI u a (i+j)
 |rel a b,i=>∀k,(∀j,j<k->¬dI u a (i+j))->dI u b (i+k)
 |fin a,i=>∃k,dI u a (i+k)
 |ep a,i=>∀k,dI u a (i+k)
def et:Bool->Fm->Fm
 |s,tt=>if s then ff else tt
 |s,ff=>if s then tt else ff
 |s,prop n=>if s then neg (prop n)else prop n
 |s,neg a=>et (!s) a
 |s,and a b=>if s then or (et s a) (et s b)else and (et s a) (et s b)
 |s,or a b=>if s then and (et s a) (et s b)else or (et s a) (et s b)
 |s,imp a b=>if s then and (et (!s) a) (et s b)else or (et (!s) a) (et s b)
 |s,cM a=>cM (et s a)
 |s,dw a b=>if s then rel (et s a) (et s b)else dw (et s a) (et s b)
 |s,rel a b=>if s then dw (et s a) (et s b)else rel (et s a) (et s b)
 |s,fin a=>if s then rel ff (et s a)else dw tt (et s a)
 |s,ep a=>if s then dw tt (et s a)else rel ff (et s a)
theorem Kf(u:Nat->Nat)(f:Fm):∀i,(dI u (et false f) i↔dI u f i)/\(dI u (et true f) i↔¬dI u f i):=by
 induction f with
 |tt=>intro i;simp [et,dI]
 |ff=>intro i;simp [et,dI]
 |prop n=>intro i;simp [et,dI]
 |neg a l=>intro i;simp [et,dI,(l i).1,(l i).2]
 |and a b c d=>intro i;simp only [et,dI,ON,P6,Qo,(c i).1,(d i).1,(c i).2,(d i).2,true_and];by_cases e:dI u a i<;>by_cases g:dI u b i<;>simp [e,g]
 |or a b c d=>intro i;simp only [et,dI,ON,P6,Qo,(c i).1,(d i).1,(c i).2,(d i).2,true_and];by_cases e:dI u a i<;>by_cases g:dI u b i<;>simp [e,g]
 |imp a b c d=>intro i;simp only [et,dI,Rh,SB,ON,P6,Qo,(c i).1,(d i).1,(c i).2,(d i).2];by_cases e:dI u a i<;>by_cases g:dI u b i<;>simp [e,g]
 |cM a l=>intro i;exact ⟨(l (i+1)).1,(l (i+1)).2⟩
 |dw a b c d=>intro i;simp only [et,dI,ON,P6,Qo];refine ⟨?_,?_⟩;simp only [(λj=>(c j).1),(λj=>(d j).1)];simp only [(λj=>(c j).2),(λj=>(d j).2),Classical.not_not];exact ⟨λh ⟨k,e,g⟩=>h k g e,λh k g e=>h ⟨k,e,g⟩⟩
 |rel a b c d=>intro i;simp only [et,dI,ON,P6,Qo];refine ⟨?_,?_⟩;simp only [(λj=>(c j).1),(λj=>(d j).1)];simp only [(λj=>(c j).2),(λj=>(d j).2)];constructor;rintro ⟨k,e,g⟩ h;exact e (h k g);intro h;refine PG λm=>h λk g=>PG λe=>m ⟨k,e,g⟩
 |fin a l=>intro i;simp only [et,dI,ON,P6,Qo];refine ⟨?_,?_⟩;simp only [(λj=>(l j).1)];exact ⟨λ⟨k,h,_⟩=>⟨k,h⟩,λ⟨k,h⟩=>⟨k,h,λ_ _=>RX⟩⟩;simp only [(λj=>(l j).2)];exact ⟨λh ⟨k,e⟩=>h k (λ_ _ h=>h) e,λh k _ e=>h ⟨k,e⟩⟩
 |ep a l=>intro i;simp only [et,dI,ON,P6,Qo];refine ⟨?_,?_⟩;simp only [(λj=>(l j).1)];exact ⟨λh k=>h k (λ_ _ h=>h),λh k _=>h k⟩;simp only [(λj=>(l j).2)];constructor;rintro ⟨k,e,_⟩ h;exact e (h k);intro h;refine PG λm=>h λk=>PG λe=>m ⟨k,e,λ_ _=>RX⟩
def gI:Fm->Prop
 |tt=>True
 |ff=>True
 |prop _=>True
 |neg (prop _)=>True
 |neg _=>False
 |and a b=>gI a/\gI b
 |or a b=>gI a/\gI b
 |imp _ _=>False
 |cM a=>gI a
 |dw a b=>gI a/\gI b
 |rel a b=>gI a/\gI b
 |fin _=>False
 |ep _=>False
theorem Kd(f:Fm):∀s,gI (et s f):=by
 induction f with
 |tt|ff|prop n=>intro s;cases s<;>simp [et,gI]
 |neg a e=>intro s;exact e _
 |and a b c d|or a b c d|imp a b c d|dw a b c d|rel a b c d=>intro s;cases s<;>exact ⟨c _,d _⟩
 |cM a e=>intro s;exact e s
 |fin a e|ep a e=>intro s;cases s<;>exact ⟨RX,e _⟩
theorem uR:size tt=1:=rfl
theorem uQ:size ff=1:=rfl
theorem lK(n:Nat):size (prop n)=1:=rfl
theorem ij(a:Fm):size (neg a)=size a+1:=One.neg.size
theorem eW(a:Fm):size (cM a)=size a+1:=One.cM.size
theorem mZ(a:Fm):size (fin a)=size a+1:=One.fin.size
theorem lJ(a:Fm):size (ep a)=size a+1:=One.ep.size
theorem kd(a b:Fm):size (and a b)=size a+size b+1:=gC.and.size
theorem mf(a b:Fm):size (or a b)=size a+size b+1:=gC.or.size
theorem pL(a b:Fm):size (imp a b)=size a+size b+1:=gC.imp.size
theorem kf(a b:Fm):size (dw a b)=size a+size b+1:=gC.dw.size
theorem ke(a b:Fm):size (rel a b)=size a+size b+1:=gC.rel.size
theorem mX(f:Fm):∀s,size (et s f)<=2*size f:=by
 induction f with
 |tt|ff|prop n=>intro s;cases s<;>simp [et,uR,uQ,lK,ij]
 |neg a e=>intro s;have:=e (!s);rw [ij];show size (et (!s) a)<=_;omega
 |cM a e=>intro s;have:=e s;rw [eW];show size (cM (et s a))<=_;rw [eW];omega
 |and a b c d|or a b c d|imp a b c d|dw a b c d|rel a b c d=>intro s;have g:=c s;have h:=d s;have i:=c (!s);cases s<;>simp only [et,ON,P6,Qo,Rh,SB,kd,mf,pL,kf,ke]at *<;>omega
 |fin a e|ep a e=>intro s;have g:=e s;cases s<;>simp only [et,ON,P6,Qo,kf,ke,mZ,lJ,uR,uQ]at *<;>omega
end Fm
def Ov:=@List.append_assoc
def OP:=@decide_eq_true_iff
def Qe:=@Nat.add_assoc
def QG:=@Bool.or_eq_true
def QN:=@Bool.not_eq_true'
def Ru:=@Bool.and_eq_true
def SY:=@Iff.rfl
namespace Fm
def step:Int×Int->List Fm->Option (List Fm)
 |(1,_),c=>some (tt::c)
 |(2,_),c=>some (ff::c)
 |(3,n),c=>some (prop n.toNat::c)
 |(4,_),a::c=>some (neg a::c)
 |(5,_),b::a::c=>some (and a b::c)
 |(6,_),b::a::c=>some (or a b::c)
 |(7,_),b::a::c=>some (imp a b::c)
 |(8,_),a::c=>some (cM a::c)
 |(9,_),b::a::c=>some (dw a b::c)
 |(10,_),b::a::c=>some (rel a b::c)
 |(11,_),a::c=>some (fin a::c)
 |(12,_),a::c=>some (ep a::c)
 |_,_=>none
def run:List (Int×Int)->List Fm->Option (List Fm)
 |[],a=>some a
 |x::l,a=>(step x a).bind (run l)
theorem nC{a f:Fm}(h:One a f):enc f=enc a++[aO f]:=by unfold enc;rw [h.aQ];simp
theorem gx{a b f:Fm}(h:gC a b f):enc f=enc a++(enc b++[aO f]):=by unfold enc;rw [h.aQ];simp
theorem AH{f:Fm}(h:nN f):enc f=[aO f]:=by unfold enc;rw [h.aQ];rfl
theorem de(f:Fm):(enc f).length=size f:=by simp [enc,size]
theorem nJ(f:Fm):∀(r:List (Int×Int))(e:List Fm),run (enc f++r) e=run r (f::e):=by
 induction f with
 |tt|ff=>intro r e;rfl
 |prop n=>intro r e;simp [enc,aQ,aO,run,step]
 |neg a g|cM a g|fin a g|ep a g=>intro r e;rw [nC (by constructor),Ov,g];rfl
 |and a b c d|or a b c d|imp a b c d|dw a b c d|rel a b c d=>intro r e;rw [gx (by constructor),Ov,Ov,c,d];rfl
theorem uK{a b:Fm}(h:enc a=enc b):a=b:=by have c:=nJ a [] [];have d:=nJ b [] [];rw [h,d]at c;simpa [run]using c.symm
def same(a b:Fm):Bool:=decide (enc a=enc b)
theorem jm{a b:Fm}:same a b=true↔a=b:=by unfold same;rw [OP];exact ⟨uK,λh=>by rw [h]⟩
def jB:Fm->Bool|tt=>true|_=>false
def jA:Fm->Bool|ff=>true|_=>false
theorem mV{f:Fm}:jB f=true↔f=tt:=by cases f<;>simp [jB]
theorem mT{f:Fm}:jA f=true↔f=ff:=by cases f<;>simp [jA]
def mk(c:Bool)(a b:Fm):Fm:=if c then and a b else or a b
def no(c:Bool):Fm:=if c then ff else tt
def Lx(c:Bool)(f:Fm):Bool:=if c then jA f else jB f
def DW(c:Bool)(f:Fm):Bool:=if c then jB f else jA f
def has(c:Bool)(f g:Fm):Bool:=
 match f with
 |and x y=>c&&(same x g||same y g)
 |or x y=>!c&&(same x g||same y g)
 |_=>false
def xF:Fm->Option (Nat×Bool)
 |prop n=>some (n,false)
 |neg (prop n)=>some (n,true)
 |_=>none
def j7(a b:Fm):Bool:=
 match xF a,xF b with
 |some (n,x),some (k,y)=>n==k&&x !=y
 |_,_=>false
def mq(c:Bool)(a b:Fm):Fm:=
 match a,b with
 |cM x,cM y=>cM (mk c x y)
 |_,_=>mk c a b
def fY(c:Bool)(a b:Fm):Fm:=
 if Lx c a||Lx c b then no c
 else if DW c a then b
 else if DW c b||same a b then a
 else if j7 a b then no c
 else if has (!c) b a then a
 else if has (!c) a b then b
 else mq c a b
def Js(r:Bool)(a b:Fm):Fm:=if r then rel a b else dw a b
def EV(r:Bool)(a:Fm):Bool:=if r then jB a else jA a
def again(r:Bool)(a b:Fm):Bool:=
 match b with
 |dw x _=>!r&&same x a
 |rel x _=>r&&same x a
 |_=>false
def eD(r:Bool)(a b:Fm):Fm:=
 if jB b||jA b||EV r a||same a b then b
 else if again r a b then b
 else Js r a b
def j4(a:Fm):Fm:=if jB a||jA a then a else cM a
def bO:Fm->Fm
 |neg a=>neg (bO a)
 |cM a=>j4 (bO a)
 |and a b=>fY true (bO a) (bO b)
 |or a b=>fY false (bO a) (bO b)
 |dw a b=>eD false (bO a) (bO b)
 |rel a b=>eD true (bO a) (bO b)
 |f=>f
theorem DZ{u:Nat->Nat}{i:Nat}{f:Fm}{n:Nat}{x:Bool}(h:xF f=some (n,x)):dI u f i↔((u i).testBit n=!x):=by unfold xF at h;split at h;simp at h;obtain ⟨rfl,rfl⟩:=h;simp [dI];simp at h;obtain ⟨rfl,rfl⟩:=h;simp [dI];cases h
theorem FL{u:Nat->Nat}{i:Nat}{a b:Fm}(h:j7 a b=true):dI u a i↔¬dI u b i:=by
 unfold j7 at h;split at h;rename_i n x k y d e;simp at h;obtain ⟨rfl,c⟩:=h;rw [DZ d,DZ e];cases x<;>cases y<;>simp at c⊢
 cases h
theorem DR{u:Nat->Nat}{i:Nat}{c:Bool}{f g:Fm}(h:has c f g=true):if c then(dI u f i->dI u g i)else(dI u g i->dI u f i):=by unfold has at h;split at h;rename_i x y;simp only [Ru,QG]at h;obtain ⟨rfl,a|a⟩:=h;rw [jm]at a;subst a;exact λh=>h.1;rw [jm]at a;subst a;exact λh=>h.2;rename_i x y;simp only [Ru,QG,QN]at h;obtain ⟨rfl,a|a⟩:=h;rw [jm]at a;subst a;exact λh=>.inl h;rw [jm]at a;subst a;exact λh=>.inr h;cases h
theorem EP{u:Nat->Nat}{i:Nat}(c:Bool)(a b:Fm):dI u (mq c a b) i↔dI u (mk c a b) i:=by
 unfold mq;split;cases c<;>exact SY
 exact SY
theorem x9{u:Nat->Nat}{i:Nat}(c:Bool)(a b:Fm):dI u (fY c a b) i↔dI u (mk c a b) i:=by
 unfold fY;split;rename_i h;rw [QG]at h;cases c<;>simp only [Lx,no,mk,ON,P6,Qo,mT,mV]at *<;>rcases h with rfl|rfl<;>simp [dI]
 split;rename_i h;cases c<;>simp only [DW,mk,ON,P6,Qo,mT,mV]at *<;>subst h<;>simp [dI]
 split;rename_i h;rw [QG]at h;rcases h with h|h;cases c<;>simp only [DW,mk,ON,P6,Qo,mT,mV]at *<;>subst h<;>simp [dI]
 rw [jm]at h;subst h;cases c<;>simp [mk,dI]
 split;rename_i h;have:=FL (u:=u) (i:=i) h;cases c<;>simp only [no,mk,ON,P6,Qo,dI]<;>by_cases d:dI u b i<;>simp [this,d]
 split;rename_i h;have:=DR (u:=u) (i:=i) h;cases c<;>simp only [mk,Rh,SB,ON,P6,Qo,dI]at *<;>by_cases e:dI u a i<;>by_cases d:dI u b i<;>simp_all
 split;rename_i h;have:=DR (u:=u) (i:=i) h;cases c<;>simp only [mk,Rh,SB,ON,P6,Qo,dI]at *<;>by_cases e:dI u a i<;>by_cases d:dI u b i<;>simp_all
 exact EP c a b
theorem yi{u:Nat->Nat}(r:Bool)(a b:Fm):∀i,dI u (eD r a b) i↔dI u (Js r a b) i:=by
 intro i;unfold eD;split;rename_i h;simp only [QG]at h;cases r<;>simp only [EV,Js,ON,P6,Qo,mT,mV,jm]at *<;>rcases h with((rfl|rfl)|rfl)|rfl
 exact ⟨λ_=>⟨0,RX,λj c=>by omega⟩,λ_=>RX⟩;exact ⟨λh=>h.elim,λ⟨_,h,_⟩=>h.elim⟩;refine ⟨λh=>⟨0,h,λj c=>by omega⟩,λ⟨k,h,g⟩=>?_⟩;rcases k with _|k;exact h;exact (g 0 (by omega)).elim;refine ⟨λh=>⟨0,h,λj c=>by omega⟩,λ⟨k,h,g⟩=>?_⟩;rcases k with _|k;exact h;exact g 0 (by omega);exact ⟨λ_ _ _=>RX,λ_=>RX⟩;exact ⟨λh=>h.elim,λh=>h 0 (λj c=>by omega)⟩;refine ⟨λh k f=>?_,λh=>h 0 (λj c=>by omega)⟩;rcases k with _|k;exact h;exact (f 0 (by omega) RX).elim;refine ⟨λh k f=>?_,λh=>h 0 (λj c=>by omega)⟩;rcases k with _|k;exact h;exact (f 0 (by omega) h).elim;split;rename_i h;unfold again at h;split at h;rename_i x y;simp only [Ru,QN,jm]at h;obtain ⟨rfl,rfl⟩:=h;simp only [Js,ON,P6];refine ⟨λh=>⟨0,h,λj c=>by omega⟩,λ⟨k,⟨m,l,g⟩,n⟩=>⟨k+m,by rw [<-Qe];exact l,λj c=>?_⟩⟩;by_cases d:j<k;exact n j d;have:=g (j-k) (by omega);have e:i+k+(j-k)=i+j:=by omega
 rwa [e]at this;rename_i x y;simp only [Ru,jm]at h;obtain ⟨rfl,rfl⟩:=h;simp only [Js,Qo];refine ⟨λh k f m o=>?_,λh k f=>?_⟩;have:=h (k+m) (λj c=>by
  by_cases d:j<k;exact f j d;have:=o (j-k) (by omega);have e:i+k+(j-k)=i+j:=by omega
  rwa [e]at this)
 rwa [<-Qe]at this;exact h k f 0 (λj c=>by omega);cases h
 exact SY
theorem FI{u:Nat->Nat}(a:Fm)(i:Nat):dI u (j4 a) i↔dI u (cM a) i:=by unfold j4;split;rename_i h;rw [QG,mV,mT]at h;rcases h with rfl|rfl<;>exact SY;exact SY
theorem Io(u:Nat->Nat)(f:Fm):∀i,dI u (bO f) i↔dI u f i:=by
 induction f with
 |tt|ff|prop n=>intro i;exact SY
 |imp a b|fin a|ep a=>intro i;exact SY
 |neg a e=>intro i;exact not_congr (e i)
 |cM a e=>intro i;exact (FI _ i).trans (e (i+1))
 |and a b c d=>intro i;exact (x9 true _ _).trans (and_congr (c i) (d i))
 |or a b c d=>intro i;exact (x9 false _ _).trans (or_congr (c i) (d i))
 |dw a b c d=>intro i;refine (yi false _ _ i).trans ?_;simp only [Js,ON,P6,dI,(λj=>c j),(λj=>d j)]
 |rel a b c d=>intro i;refine (yi true _ _ i).trans ?_;simp only [Js,Qo,dI,(λj=>c j),(λj=>d j)]
theorem EO{c:Bool}{a b:Fm}(f:gI a)(g:gI b):gI (fY c a b):=by
 have e:gI (no c):=by cases c<;>trivial
 have d:∀x y,gI x->gI y->gI (mk c x y):=λx y h i=>by cases c<;>exact ⟨h,i⟩
 unfold fY;split;exact e;split;exact g;split;exact f;split;exact e;split;exact f;split;exact g;unfold mq;split;exact d _ _ f g;exact d _ _ f g
theorem Fj{r:Bool}{a b:Fm}(d:gI a)(c:gI b):gI (eD r a b):=by unfold eD;split;exact c;split;exact c;cases r<;>exact ⟨d,c⟩
theorem Im(f:Fm)(h:gI f):gI (bO f):=by
 induction f with
 |tt|ff|prop n=>trivial
 |imp a b|fin a|ep a=>exact h.elim
 |neg a e=>
  cases a with
  |prop n=>trivial
  |_=>exact h.elim
 |cM a e=>show gI (j4 (bO a));unfold j4;split;exact e h;exact e h
 |and a b c d|or a b c d=>exact EO (c h.1) (d h.2)
 |dw a b c d|rel a b c d=>exact Fj (c h.1) (d h.2)
theorem zI(c:Bool)(a b:Fm):size (mk c a b)=size a+size b+1:=by cases c<;>first|exact mf a b|exact kd a b
theorem A2(c:Bool)(a b:Fm):size (Js c a b)=size a+size b+1:=by cases c<;>first|exact kf a b|exact ke a b
theorem D9(c:Bool):size (no c)=1:=by cases c<;>rfl
theorem vq(c:Bool)(a b:Fm):fY c a b=mk c a b\/size (fY c a b)<size a+size b+1:=by have d:=bF a;have e:=bF b;unfold fY;split;right;rw [D9];omega;split;right;omega;split;right;omega;split;right;rw [D9];omega;split;right;omega;split;right;omega;unfold mq;split;right;rw [eW,zI,eW,eW];omega;left;rfl
theorem vU(r:Bool)(a b:Fm):eD r a b=Js r a b\/size (eD r a b)<size a+size b+1:=by unfold eD;split;right;omega;split;right;omega;left;rfl
theorem nH(f:Fm):size (bO f)<=size f/\(size (bO f)=size f->bO f=f):=by
 induction f with
 |tt|ff|prop n|imp a b|fin a|ep a=>exact ⟨Qp _,λ_=>rfl⟩
 |neg a e=>show size (neg (bO a))<=_/\(size (neg (bO a))=_->neg (bO a)=_);rw [ij,ij];exact ⟨by omega,λh=>by rw [e.2 (by omega)]⟩
 |cM a e=>show size (j4 (bO a))<=_/\(size (j4 (bO a))=_->j4 (bO a)=_);rw [eW];unfold j4;split;exact ⟨by omega,λh=>by omega⟩;rw [eW];exact ⟨by omega,λh=>by rw [e.2 (by omega)]⟩
 |and a b c d=>show size (fY true (bO a) (bO b))<=_/\(size (fY true (bO a) (bO b))=_->fY true (bO a) (bO b)=_);rw [kd];rcases vq true (bO a) (bO b)with h|h;rw [h,zI];exact ⟨by omega,λh=>by rw [c.2 (by omega),d.2 (by omega)];rfl⟩;exact ⟨by omega,λh=>by omega⟩
 |or a b c d=>show size (fY false (bO a) (bO b))<=_/\(size (fY false (bO a) (bO b))=_->fY false (bO a) (bO b)=_);rw [mf];rcases vq false (bO a) (bO b)with h|h;rw [h,zI];exact ⟨by omega,λh=>by rw [c.2 (by omega),d.2 (by omega)];rfl⟩;exact ⟨by omega,λh=>by omega⟩
 |dw a b c d=>show size (eD false (bO a) (bO b))<=_/\(size (eD false (bO a) (bO b))=_->eD false (bO a) (bO b)=_);rw [kf];rcases vU false (bO a) (bO b)with h|h;rw [h,A2];exact ⟨by omega,λh=>by rw [c.2 (by omega),d.2 (by omega)];rfl⟩;exact ⟨by omega,λh=>by omega⟩
 |rel a b c d=>show size (eD true (bO a) (bO b))<=_/\(size (eD true (bO a) (bO b))=_->eD true (bO a) (bO b)=_);rw [ke];rcases vU true (bO a) (bO b)with h|h;rw [h,A2];exact ⟨by omega,λh=>by rw [c.2 (by omega),d.2 (by omega)];rfl⟩;exact ⟨by omega,λh=>by omega⟩
end Fm
section
open Go.RowKit
def Pz:=@List.cons.injEq
def y8(w:WD)(e:TypeId)(v:Value)(n:Nat)(d:List Value):Prop:=
 d.length=n/\((v=SN/\n=0)\/∃g c a b,v=.slice (some (AD g c)) n a/\w.heap[g]? =some (.cells b e (0,0))/\n<=a/\a<=maxLen/\c+a<=b.size/\(b.toList.drop c).take n=d)
def y8.nil(w:WD)(e:TypeId):y8 w e (SN) 0 []:=⟨rfl,.inl ⟨rfl,rfl⟩⟩
def y8.of{w:WD}{e:TypeId}{v:Value}{n:Nat}{d:List Value}(h:Sl w e v n d):y8 w e v n d:=by refine ⟨by have:=h.1;omega,h.2.imp id ?_⟩;rintro ⟨g,a,b,rfl,_,j,f,i,k,c⟩;exact ⟨g,0,a,b,rfl,j,f,i,by omega,by rw [List.drop_zero];rw [PZ]at c;exact c⟩
def y8.lt{w:WD}{e:TypeId}{v:Value}{n:Nat}{k:List Value}(h:y8 w e v n k):∀g,v.ownBlock=some g->g<w.heap.size:=by
 intro g a;rcases h.2 with⟨rfl,_⟩|⟨f,j,b,c,rfl,i,_⟩;simp [Value.ownBlock]at a;have d:some f=some g:=a;cases d
 exact (Nu.1 i).1
def y8.aA{S:Nat->Prop}{w f:WD}{e:TypeId}{v:Value}{n:Nat}{i:List Value}(h:y8 w e v n i)(j:aj S w f)(k:∀g,v.ownBlock=some g->¬S g):y8 f e v n i:=by refine ⟨h.1,h.2.imp id ?_⟩;rintro ⟨g,c,a,b,rfl,d,r⟩;exact ⟨g,c,a,b,rfl,by rw [j.block g (Nu.1 d).1 (k g rfl)];exact d,r⟩
def y8.shape{w:WD}{e:TypeId}{v:Value}{n:Nat}{f:List Value}(h:y8 w e v n f):
 ∃a b,v=.slice a n b/\n<=b/\b<=maxLen/\(∀i,i<n->∃g c,a=some (AD g c)/\v.ownBlock=some g/\w.cell? (AD g (c+i))=f[i]?):=by
 rcases h.2 with⟨rfl,rfl⟩|⟨g,c,b,j,rfl,o,k,l,p,m⟩
 exact ⟨none,0,rfl,Nz _,by simp [maxLen],λi d=>by omega⟩
 refine ⟨_,b,rfl,k,l,λi d=>⟨g,c,rfl,rfl,?_⟩⟩
 rw [<-m,List.getElem?_take,if_pos d,List.getElem?_drop]
 simp [World.cell?,o]
def y8.rowAt{k:IntKind}{w:WD}{e:TypeId}{a:OA}{n c:Nat}{b:List Int}(h:y8 w e (.slice a n c) n (b.map (Value.int k))):aG k w a n b:=by
 have r:b.length=n:=by have:=h.1;simpa using this
 refine ⟨r,?_⟩;rcases OT n with f|f;exact .inl f;obtain ⟨s,o,d,_,_,l⟩:=h.shape;cases d
 obtain ⟨g,j,rfl,_,_⟩:=l 0 f;refine .inr ⟨g,j,rfl,λi q=>?_⟩;obtain ⟨t,m,d,_,p⟩:=l i q;cases d
 have:i<b.length:=by omega
 rw [p];simp [List.getD,this]
def y8.tail{w:WD}{e:TypeId}{g b n a:Nat}{x:Value}{f:List Value}(h:y8 w e (.slice (some (AD g b)) (n+1) a) (n+1) (x::f))(j:OA)
 (s:a=1->j=some (AD g b)) (t:a≠1->j=some (AD g (b+1))):y8 w e (.slice j n (a-1)) n f:=by
 have v:f.length=n:=by have:=h.1;simpa using this
 rcases h.2 with⟨r,_⟩|⟨A,p,l,c,q,o,y,k,z,i⟩
 cases r
 cases q
 refine ⟨v,.inr ?_⟩
 have d:((c.toList.drop (b+1)).take n)=f:=by
  have u:b<c.toList.length:=by simp;omega
  rw [List.drop_eq_getElem_cons u,List.take_succ_cons]at i;simp only [Pz]at i;exact i.2
 by_cases m:a=1
 obtain rfl:n=0:=by omega
 refine ⟨g,b,a-1,c,by rw [s m],o,by omega,by unfold maxLen at k⊢;omega,by omega,?_⟩
 rw [List.take_zero]at d⊢
 exact d
 exact ⟨g,b+1,a-1,c,by rw [t m],o,by omega,by unfold maxLen at k⊢;omega,by omega,d⟩
end
end Go.Own
namespace Go.Proofs.YtimniinkpipnmaaGreatDoor
open Go.RowKit Go.Own
def NH:=@List.length_append
def Ol:=@Go.info_parts
def Oy:=@List.map_append
def OI:=@Nat.lt_irrefl
def OY:=@Go.Proofs.Tryz.underlying33
def Pq:=@Go.Lib.run_eql_slice_nil
def Rl:=@Nat.add_zero
def Tryz.ed:(Tryz.prog.info? 3).map (λi=>(i.zero,i.size,i.bytes))=some (some (IV 0),1,8):=by kernel_rfl
def bB(w:WD)(a:OA)(n:Nat)(F:List (Int×Int)):Prop:=
 F.length=n/\(n=0\/∃b c,a=some (AD b c)/\∀i,i<n->w.cell? (AD b (c+i*2))=some (IV (F.getD i (0,0)).1)/\w.cell? (AD b (c+i*2+1))=some (IV (F.getD i (0,0)).2))
def bB.af{w g:WD}{a:OA}{n:Nat}{F:List (Int×Int)}(h:bB w a n F)(f:BW w g):bB g a n F:=by refine ⟨h.1,h.2.imp id ?_⟩;rintro ⟨b,c,rfl,j⟩;refine ⟨b,c,rfl,λi k=>?_⟩;obtain ⟨d,e⟩:=j i k;exact ⟨(f.cell (Nr w _ d)).trans d,(f.cell (Nr w _ e)).trans e⟩
def ir(x:Int×Int):Int×Int:=if x.1=3 then x else(x.1,0)
def dV(f:Fm):Prop:=∀x∈Fm.aQ f,∀n,x=Fm.prop n->n<8
def jr(F:List (Int×Int))(f:Fm):Prop:=F.map ir=Fm.enc f/\dV f
def Hx{op n:Int}(h:tk op=0)(c:op=3->0<=n/\n<8):∃f,Fm.nN f/\Fm.aO f=ir (op,n)/\dV f:=by unfold tk at h;by_cases b:op=1\/op=2\/op=3;rcases b with rfl|rfl|rfl;exact ⟨.tt,.tt,rfl,λx a n e=>by simp [Fm.aQ]at a;subst a;cases e⟩;exact ⟨.ff,.ff,rfl,λx a n e=>by simp [Fm.aQ]at a;subst a;cases e⟩;obtain ⟨k,rfl⟩:∃k:Nat,n=(k:Int):=⟨n.toNat,by have:=c rfl;omega⟩;refine ⟨.prop k,.prop k,rfl,λx a m e=>?_⟩;simp [Fm.aQ]at a;subst a;cases e;have:=c rfl;omega;rw [Of b]at h;split at h;omega;split at h<;>omega
def Mw{op n:Int}(h:tk op=1)(a:Fm)(i:dV a):∃f,Fm.One a f/\Fm.aO f=ir (op,n)/\dV f:=by
 have g:∀f,Fm.One a f->(∀n,f≠Fm.prop n)->dV f:=λf c d x b n e=>by rw [c.aQ]at b;rcases NY.1 b with b|b;exact i x b n e;rw [Nv]at b;subst b;exact absurd e (d n)
 have c:op=4\/op=8\/op=11\/op=12:=by unfold tk at h;by_cases c:op=1\/op=2\/op=3;rw [Oa c]at h;omega;rw [Of c]at h;by_cases d:op=4\/op=8\/op=11\/op=12;exact d;rw [Of d]at h;split at h<;>omega
 rcases c with rfl|rfl|rfl|rfl;exact ⟨.neg a,.neg,rfl,g _ .neg (λn e=>by cases e)⟩;exact ⟨.cM a,.cM,rfl,g _ .cM (λn e=>by cases e)⟩;exact ⟨.fin a,.fin,rfl,g _ .fin (λn e=>by cases e)⟩;exact ⟨.ep a,.ep,rfl,g _ .ep (λn e=>by cases e)⟩
def MH{op n:Int}(h:tk op=2)(a b:Fm)(k:dV a)(l:dV b):∃f,Fm.gC a b f/\Fm.aO f=ir (op,n)/\dV f:=by
 have g:∀f,Fm.gC a b f->(∀n,f≠Fm.prop n)->dV f:=λf d i x c n e=>by rw [d.aQ]at c;rcases NY.1 c with c|c;exact k x c n e;rcases NY.1 c with c|c;exact l x c n e;rw [Nv]at c;subst c;exact absurd e (i n)
 have d:op=5\/op=6\/op=7\/op=9\/op=10:=by unfold tk at h;by_cases d:op=1\/op=2\/op=3;rw [Oa d]at h;omega;rw [Of d]at h;by_cases i:op=4\/op=8\/op=11\/op=12;rw [Oa i]at h;omega;rw [Of i]at h;by_cases j:op=5\/op=6\/op=7\/op=9\/op=10;exact j;rw [Of j]at h;omega
 rcases d with rfl|rfl|rfl|rfl|rfl;exact ⟨.and a b,.and,rfl,g _ .and (λn e=>by cases e)⟩;exact ⟨.or a b,.or,rfl,g _ .or (λn e=>by cases e)⟩;exact ⟨.imp a b,.imp,rfl,g _ .imp (λn e=>by cases e)⟩;exact ⟨.dw a b,.dw,rfl,g _ .dw (λn e=>by cases e)⟩;exact ⟨.rel a b,.rel,rfl,g _ .rel (λn e=>by cases e)⟩
def kL:Nat->Fm->List Int
 |o,.tt=>[(o:Int)]
 |o,.ff=>[(o:Int)]
 |o,.prop _=>[(o:Int)]
 |o,.neg a=>kL o a++[(o:Int)]
 |o,.cM a=>kL o a++[(o:Int)]
 |o,.fin a=>kL o a++[(o:Int)]
 |o,.ep a=>kL o a++[(o:Int)]
 |o,.and a b=>kL o a++(kL (o+Fm.size a) b++[(o:Int)])
 |o,.or a b=>kL o a++(kL (o+Fm.size a) b++[(o:Int)])
 |o,.imp a b=>kL o a++(kL (o+Fm.size a) b++[(o:Int)])
 |o,.dw a b=>kL o a++(kL (o+Fm.size a) b++[(o:Int)])
 |o,.rel a b=>kL o a++(kL (o+Fm.size a) b++[(o:Int)])
def I3{f:Fm}(h:Fm.nN f)(o:Nat):kL o f=[(o:Int)]:=by cases h<;>rfl
def Ei{a f:Fm}(h:Fm.One a f)(o:Nat):kL o f=kL o a++[(o:Int)]:=by cases h<;>rfl
def Ej{a b f:Fm}(h:Fm.gC a b f)(o:Nat):kL o f=kL o a++(kL (o+Fm.size a) b++[(o:Int)]):=by cases h<;>rfl
def uS(f:Fm):∀o,(kL o f).length=Fm.size f:=by
 induction f with
 |tt|ff|prop n=>intro o;rfl
 |neg a e|cM a e|fin a e|ep a e=>intro o;simp [kL,e,Fm.ij,Fm.eW,Fm.mZ,Fm.lJ]
 |and a b c d|or a b c d|imp a b c d|dw a b c d|rel a b c d=>intro o;simp [kL,c,d,Fm.kd,Fm.mf,Fm.pL,Fm.kf,Fm.ke];omega
def I2(f:Fm):∀(o p:Nat)(x:Fm),(Fm.aQ f)[p]? =some x->(kL o f)[p]? =some ((o:Int)+p+1-Fm.size x):=by
 induction f with
 |tt|ff|prop n=>intro o p x h;rcases p with _|p;simp [Fm.aQ]at h;subst h;simp [kL,Fm.uR,Fm.uQ,Fm.lK];simp [Fm.aQ]at h
 |neg a j|cM a j|fin a j|ep a j=>intro o p x h;rw [Ei (by constructor)];rw [Fm.One.aQ (by constructor)]at h;have k:=uS a o;by_cases g:p<Fm.size a;rw [NP (by unfold Fm.size at g;exact g)]at h;rw [NP (by omega)];exact j o p x h;rw [N9 (by unfold Fm.size at g;omega)]at h;rw [N9 (by omega),k];have e:p-(Fm.aQ a).length=p-Fm.size a:=rfl;rw [e]at h;rcases i:p-Fm.size a with _|q;rw [i]at h;simp at h;subst h;simp [Fm.ij,Fm.eW,Fm.mZ,Fm.lJ];omega;rw [i]at h;simp at h
 |and a b c d|or a b c d|imp a b c d|dw a b c d|rel a b c d=>intro o p x h;rw [Ej (by constructor)];rw [Fm.gC.aQ (by constructor)]at h;have k:=uS a o;have l:=uS b (o+Fm.size a);by_cases g:p<Fm.size a;rw [NP (by unfold Fm.size at g;exact g)]at h;rw [NP (by omega)];exact c o p x h;rw [N9 (by unfold Fm.size at g;omega)]at h;rw [N9 (by omega),k];have e:p-(Fm.aQ a).length=p-Fm.size a:=rfl;rw [e]at h;by_cases m:p-Fm.size a<Fm.size b;rw [NP (by unfold Fm.size at *;exact m)]at h;rw [NP (by omega),d (o+Fm.size a) _ x h];congr 1;omega;rw [N9 (by unfold Fm.size at *;omega)]at h;rw [N9 (by omega),l];have r:p-Fm.size a-(Fm.aQ b).length=p-Fm.size a-Fm.size b:=rfl;rw [r]at h;rcases i:p-Fm.size a-Fm.size b with _|q;rw [i]at h;simp at h;subst h;simp [Fm.kd,Fm.mf,Fm.pL,Fm.kf,Fm.ke];omega;rw [i]at h;simp at h
def fL:Nat->List Fm->List Int
 |_,[]=>[]
 |o,f::r=>kL o f++fL (o+Fm.size f) r
def dz:Nat->List Fm->List Int
 |_,[]=>[]
 |o,f::r=>(o:Int)::dz (o+Fm.size f) r
def fy:List Fm->List (Int×Int)
 |[]=>[]
 |f::r=>Fm.enc f++fy r
def bj:List Fm->Nat
 |[]=>0
 |f::r=>Fm.size f+bj r
def AF:∀l,(fy l).length=bj l
 |[]=>rfl
 |f::r=>by show(Fm.enc f++fy r).length=_;rw [NH,AF r,Fm.de];rfl
def lk:∀l m,fy (l++m)=fy l++fy m
 |[],m=>rfl
 |f::r,m=>by show Fm.enc f++fy (r++m)=(Fm.enc f++fy r)++_;rw [lk r m,Ov]
def qD:∀l m,bj (l++m)=bj l+bj m
 |[],m=>by show bj m=0+_;omega
 |f::r,m=>by show Fm.size f+bj (r++m)=Fm.size f+bj r+_;rw [qD r m];omega
def nj:∀l m o,fL o (l++m)=fL o l++fL (o+bj l) m
 |[],m,o=>rfl
 |f::r,m,o=>by
  show kL o f++fL _ (r++m)=(kL o f++fL _ r)++_;rw [nj r m,Ov];have:o+bj (f::r)=o+Fm.size f+bj r:=by show o+(Fm.size f+bj r)=_;omega
  rw [this]
def lF:∀l m o,dz o (l++m)=dz o l++dz (o+bj l) m
 |[],m,o=>rfl
 |f::r,m,o=>by
  show _::dz _ (r++m)=_::(dz _ r++_);rw [lF r m];have:o+bj (f::r)=o+Fm.size f+bj r:=by show o+(Fm.size f+bj r)=_;omega
  rw [this]
def pG:∀l o,(dz o l).length=l.length
 |[],_=>rfl
 |f::r,o=>by show(dz _ r).length+1=_;rw [pG r];rfl
def Be{l:List Fm}{f:Fm}(h:Fm.nN f):fy (l++[f])=fy l++[Fm.aO f]/\dz 0 (l++[f])=dz 0 l++[((bj l:Nat):Int)]/\fL 0 (l++[f])=fL 0 l++[((bj l:Nat):Int)]:=by refine ⟨?_,?_,?_⟩;rw [lk];show _++(Fm.enc f++[])=_;rw [Om,Fm.AH h];rw [lF,Od];rfl;rw [nj,Od];show _++(kL _ f++[])=_;rw [Om,I3 h]
def Kj{l:List Fm}{a f:Fm}(h:Fm.One a f):fy (l++[f])=fy (l++[a])++[Fm.aO f]/\dz 0 (l++[f])=dz 0 (l++[a])/\dz 0 (l++[a])=dz 0 l++[((bj l:Nat):Int)]/\
 fL 0 (l++[f])=fL 0 (l++[a])++[((bj l:Nat):Int)]:=by
 have e:∀g,fy (l++[g])=fy l++Fm.enc g:=λg=>by rw [lk];show _++(Fm.enc g++[])=_;rw [Om]
 have b:∀g,dz 0 (l++[g])=dz 0 l++[((bj l:Nat):Int)]:=λg=>by rw [lF,Od];rfl
 have c:∀g,fL 0 (l++[g])=fL 0 l++kL (bj l) g:=λg=>by rw [nj,Od];show _++(kL _ g++[])=_;rw [Om]
 refine ⟨?_,?_,b a,?_⟩
 rw [e,e,Fm.nC h,Ov]
 rw [b,b]
 rw [c,c,Ei h,Ov]
def Kk{l:List Fm}{a b f:Fm}(h:Fm.gC a b f):fy (l++[f])=fy (l++[a,b])++[Fm.aO f]/\dz 0 (l++[f])=dz 0 l++[((bj l:Nat):Int)]/\
 dz 0 (l++[a,b])=dz 0 l++[((bj l:Nat):Int),((bj l+Fm.size a:Nat):Int)]/\fL 0 (l++[f])=fL 0 (l++[a,b])++[((bj l:Nat):Int)]:=by
 refine ⟨?_,?_,?_,?_⟩
 rw [lk,lk]
 show _++(Fm.enc f++[])=_++(Fm.enc a++(Fm.enc b++[]))++_
 rw [Om,Om,Fm.gx h]
 simp
 rw [lF,Od];rfl
 rw [lF,Od];rfl
 rw [nj,nj,Od]
 show _++(kL _ f++[])=_++(kL _ a++(kL _ b++[]))++_
 rw [Om,Om,Ej h]
 simp
def eJ(a:OA)(n c:Nat)(g:List Int)(w:WD)(q:aG .i64 w a n g)(b:a=none->n=0/\c=0)(u:n<=1000000000):
 CL 91 #[.slice a n c] w λe r=>∃d f,e=RT (.slice d n f)/\aE .i64 3 w r (.slice d n f) g:=by
 obtain ⟨t,j,l,k,h⟩:=Ol Tryz.ed
 have m:=Nq q
 clear q
 cases a with
 |none=>
  obtain ⟨rfl,rfl⟩:=b rfl
  have i:=λW=>Pq (P:=Tryz.prog) W 33 3 none 0 0 0 0 OY
  go_enter Tryz.func91,Tryz.ntmps91
  go_wp2
  go_ret
  obtain rfl:g=[]:=OV m.o.1
  exact ⟨none,0,rfl,iZ _ _ _⟩
 |some o=>
  have i:=λW=>Pq (P:=Tryz.prog) W 33 3 (some o) n c 0 0 OY
  go_enter Tryz.func91,Tryz.ntmps91
  go_wp2_with (at_builtin;refine pV rfl (.tmp 5) (.tmp 6) 33 rfl .i64 3 t (IV 0) 8 OY j l k h rfl (by decide) rfl (some o) n c g rfl m.o (λe=>nomatch e) (by omega) ?_;intro d f r p;have s:=Nq p;clear p)
  go_ret
  exact ⟨d,f,rfl,s.o⟩
def gm(r:Int)(a:OA)(n c:Nat)(K:List Int)(q m:Nat)(t:Value)(s:List Int)(w:WD)(X:aG .i64 w a n K)(hn:n<=1000000000)(H:CA w q 0 t)(R:FZ w q 0)
 (I:Sl w 3 t m (s.map (Value.int .i64))) (v:t.ownBlock≠some q) (ab:m<=1000000000):
 CL 101 #[IV r,.slice a n c,PT q] w λe J=>∃g U,e=RT (IV (if n=0 then r else K.getD 0 0))/\CA J q 0 (SV g (m+1) U)/\FZ J q 0/\
  Sl J 3 (SV g (m+1) U) (m+1) ((s++[if n=0 then r else K.getD 0 0]).map (Value.int .i64))/\aj (λb=>b=q\/t.ownBlock=some b) w J/\(t.ownBlock=some g\/w.heap.size<=g):=by
 obtain ⟨Y,C,F,D,A⟩:=Ol Tryz.ed
 have T:=Nq I
 obtain ⟨x,E⟩:=EX ((if n=0 then r else K.getD 0 0))
 obtain ⟨ao,aa,z,-⟩:=I.shape
 have j:=Nq v
 have G:Hid (q<w.heap.size):=Nr w _ H
 rw [E]
 have u:Hid (∀f l o,Sl o 3 (SV f (m+1) l) (m+1) (s.map (Value.int .i64)++[IV x])->aj (λb=>t.ownBlock=some b) w o->(t.ownBlock=some f\/w.heap.size<=f)->
  (o.setCell (AD q 0) (SV f (m+1) l)).cell? (AD q 0)=some (SV f (m+1) l)/\(o.setCell (AD q 0) (SV f (m+1) l)).frozen? (AD q 0)=false/\
  Sl (o.setCell (AD q 0) (SV f (m+1) l)) 3 (SV f (m+1) l) (m+1) ((s++[x]).map (Value.int .i64))/\
  aj (λb=>b=q\/t.ownBlock=some b) w (o.setCell (AD q 0) (SV f (m+1) l))/\(t.ownBlock=some f\/w.heap.size<=f)):=λf l o y d i=>by
  have S:(SV f (m+1) l).ownBlock≠some q:=λe=>by
   cases e
   rcases i with h|h;exact j.o h;exact OI _ (NL G.o h)
  refine ⟨Oj (h:=d.aq H j.o) ..,?_,?_,?_,i⟩
  rw [OH];exact (N7 (d.block q G.o j.o)).trans R
  rw [Oy];exact kU y q 0 _ S
  exact (d.mono λk _ h=>.inr h).setCell (p:=(AD q 0)) (λ_=>.inl rfl) _
 by_cases V:n=0
 subst V
 rw [Oa rfl]at E
 subst E
 clear I X v
 subst z
 go_enter Tryz.func101,Tryz.ntmps101
 go_wp2_with (at_builtin;refine ax rfl (.tmp 14) (.tmp 16) 33 rfl 3 Y (IV 0) 8 OY C F D A rfl (by decide) _ _ _ rfl T.o _ rfl rfl (by omega) ?_;intro f l o y d i;have Z:=d.aq H j.o;have f3:=(N7 (d.block q G.o j.o)).trans R;have L:=Nq (u.o f l o y d i);clear y d i)
 go_ret
 obtain ⟨M,N,O,P,Q⟩:=L.o
 exact ⟨f,l,rfl,M,N,O,P,Q⟩
 rw [Of V]at E
 have W:(0:Int)<(n:Int):=by omega
 obtain ⟨-,h1|⟨b,ac,rfl,B⟩⟩:=X
 omega
 have cz:=B 0 (by omega)
 rw [E,Rl]at cz
 clear I v B
 subst z
 go_enter Tryz.func101,Tryz.ntmps101
 go_wp2_with (at_builtin;refine ax rfl (.tmp 14) (.tmp 16) 33 rfl 3 Y (IV 0) 8 OY C F D A rfl (by decide) _ _ _ rfl T.o _ rfl rfl (by omega) ?_;intro f l o y d i;have Z:=d.aq H j.o;have f3:=(N7 (d.block q G.o j.o)).trans R;have L:=Nq (u.o f l o y d i);clear y d i)
 go_ret
 obtain ⟨M,N,O,P,Q⟩:=L.o
 exact ⟨f,l,rfl,M,N,O,P,Q⟩
section
def Nw:=@List.getD_eq_getElem?_getD
def Ny:=@List.getElem?_eq_getElem
def OG:=@List.take_add_one
def OR:=@List.getElem_mem
def P5:=@congrArg
def Qm:=@List.length_reverse
def Rc:=@decide_eq_false
def Rt:=@List.take_append_drop
def Td:=@List.take_append_of_le_length
structure WI (w0 w:WD) (q:Nat) (v vo:Value) (F:List (Int×Int)) (i:Nat) (l:List Fm):Prop where
 my:Sl w 3 v l.length ((dz 0 l).map (Value.int .i64))
 cell:w.cell? (AD q 0)=some vo
 fr:w.frozen? (AD q 0)=false
 o:Sl w 3 vo i ((fL 0 l).map (Value.int .i64))
 LI:v.ownBlock≠some q
 Jt:vo.ownBlock≠some q
 ne:∀b,v.ownBlock=some b->vo.ownBlock≠some b
 A8:∀b,v.ownBlock=some b->w0.heap.size<=b
 A9:∀b,vo.ownBlock=some b->w0.heap.size<=b
 LJ:w0.heap.size<=q
 aM:BW w0 w
 Mc:(F.take i).map ir=fy l
 ok:∀f∈l,dV f
section
variable {w0 w w1:WD} {q:Nat} {v vo:Value} {F:List (Int×Int)} {i:Nat} {l:List Fm}
def qG{e:TypeId}{v:Value}{n:Nat}{a:List Value}(h:Sl w e v n a)(c:BW w w1):Sl w1 e v n a:=
 Sl.aA h (aj.aF c) (λb e s=>by have:=h.lt b e;omega)
def WI.af(h:WI w0 w q v vo F i l)(a:BW w w1):WI w0 w1 q v vo F i l:=by have b:=Nr w _ h.cell;have c:=(a.cell b).trans h.cell;have d:FZ w1 q 0:=(N7 ((aj.aF a).block q b (λe=>OI _ (NL b e)))).trans h.fr;exact ⟨qG h.my a,c,d,qG h.o a,h.LI,h.Jt,h.ne,h.A8,h.A9,h.LJ,h.aM.trans (a.mono h.aM.size),h.Mc,h.ok⟩
def WI.size(h:WI w0 w q v vo F i l)(a:i<=F.length):bj l=i:=by have:=P5 List.length h.Mc;rw [AF,NU,Pd]at this;omega
def nM{j Q:WD}{p a:List Fm}(s:List Fm){f:Fm}{g I E R m:Nat}{x:Int}{P:Value}(h:WI w0 w q v vo F i a)(T:i<F.length)(Y:m=p.length)
 (z:fy (p++[f])=fy a++[ir (F.getD i (0,0))]) (A:dz 0 (p++[f])=dz 0 p++[x]) (B:fL 0 (p++[f])=fL 0 a++[x]) (K:dV f) (r:a=p++s)
 (S:CA j q 0 (SV g (i+1) I)) (V:FZ j q 0) (U:Sl j 3 (SV g (i+1) I) (i+1) ((fL 0 a++[x]).map (Value.int .i64)))
 (Z:aj (λb=>b=q\/vo.ownBlock=some b) w j) (O:vo.ownBlock=some g\/w.heap.size<=g)
 (s4:Sl Q 3 (SV E (m+1) R) (m+1) ((dz 0 p).map (Value.int .i64)++[IV x])) (D:aj (λk=>P.ownBlock=some k) j Q) (G:P.ownBlock=some E\/j.heap.size<=E) (N:P.ownBlock=v.ownBlock):
 WI w0 Q q (SV E (m+1) R) (SV g (i+1) I) F (i+1) (p++[f]):=by
 subst Y
 rw [N]at D G
 have L:q<j.heap.size:=Nr j _ S
 have M:q<w.heap.size:=Nr w _ h.cell
 have W:g<j.heap.size:=U.lt g rfl
 have J:g≠q:=λe=>by subst e;rcases O with m|m;exact h.Jt m;exact OI _ (NL M m)
 have C:v.ownBlock≠some g:=λe=>by rcases O with m|m;exact h.ne g e m;exact OI _ (NL (h.my.lt g e) m)
 have d:∀n c b (o:Nat),(SV b n c).ownBlock=some o->b=o:=λn c b o e=>by cases e;rfl
 have H:=h.aM.trans (Z.af h.aM.size (λk X e=>by rcases e with e|e;have:=h.LJ;omega;have:=h.A9 k e;omega))
 refine ⟨?_,D.aq S h.LI,?_,?_,λe=>?_,λe=>J (d _ _ _ _ e),λb e t=>?_,λb e=>?_,λb e=>?_,h.LJ,?_,?_,λy u=>?_⟩
 rw [NH,A,Oy];exact s4
 exact (N7 (D.block q L h.LI)).trans V
 rw [B]
 exact Sl.aA U D (λb e t=>by rw [<-d _ _ _ _ e]at t;exact C t)
 have e:=d _ _ _ _ e
 subst e
 rcases G with m|m
 exact h.LI m
 omega
 have e:=d _ _ _ _ e
 have t:=d _ _ _ _ t
 subst e
 subst t
 rcases G with m|m
 exact C m
 omega
 have e:=d _ _ _ _ e
 subst e
 rcases G with m|m
 exact h.A8 _ m
 exact N5 H.size m
 have e:=d _ _ _ _ e
 subst e
 rcases O with m|m
 exact h.A9 _ m
 exact N5 h.aM.size m
 exact H.trans (D.af H.size (λk X e=>by have:=h.A8 k e;omega))
 rw [z,<-h.Mc]
 have e:F.take (i+1)=F.take i++[F.getD i (0,0)]:=by rw [OG,Ny T,Nw,Ny T];rfl
 rw [e,Oy];rfl
 rcases NY.1 u with u|u
 exact h.ok y (by rw [r];exact Oo _ u)
 rw [Nv]at u;subst u;exact K
def qO{t:WD}{j a:List Fm}{g s m n:Nat}(d:List Fm)(h:WI w0 w q (SV g n s) vo F i a)(u:aj (λb=>b=q\/vo.ownBlock=some b) w t)(x:m=j.length)(c:a=j++d):
 Sl t 3 (SV g m s) m ((dz 0 j).map (Value.int .i64)):=by
 have r:n=a.length:=(dT h.my).2.2
 have o:=h.my
 rw [<-r]at o
 have k:m<=n:=by rw [r,c,NH];omega
 have p:=wS o k
 have e:((dz 0 a).map (Value.int .i64)).take m=(dz 0 j).map (Value.int .i64):=by rw [<-List.map_take,c,lF,Td (by rw [pG];omega),Oe (by rw [pG];omega)]
 rw [e]at p
 exact Sl.aA p u (λb e f=>by
  cases e
  rcases f with f|f;exact h.LI (by rw [<-f];rfl);exact h.ne g rfl f)
def Jl{l0 a:List Fm}{g y m n k:Nat}{f:List Int}(h:WI w0 w q (SV g n y) vo F i a)(B:m=l0.length)(d:dz 0 a=dz 0 l0++f)(t:f.length=k):aG .i64 w (some (AD g m)) k f:=by
 have u:n=a.length:=(dT h.my).2.2;have o:=h.my;rw [<-u]at o;obtain ⟨r,c⟩:=(y8.of o).rowAt;refine ⟨t,?_⟩;rcases c with c|⟨b,x,e,s⟩;left;have:(dz 0 a).length=0:=by rw [r];exact c
 rw [d,NH]at this;omega;cases e
 refine .inr ⟨g,m,rfl,λj z=>?_⟩;have A:=pG l0 0;have p:=s (m+j) (by have:=P5 List.length d;rw [NH]at this;omega)
 rw [Od]at p;rw [p,d,Nw,N9 (by omega),Nw];have e:m+j-(dz 0 l0).length=j:=by omega
 rw [e]
end
def zX{l:List Fm}{n:Nat}(h:l.length=n+1):∃b a,l=b++[a]/\b.length=n:=by
 have c:l≠[]:=λe=>by subst e;simp at h
 rcases Rr l with e|⟨b,a,e⟩;exact absurd e c;rw [Rq]at e;exact ⟨b,a,e,by rw [e,NH]at h;simpa using h⟩
def I6(a:Int):tk a=-1\/tk a=0\/tk a=1\/tk a=2:=by unfold tk;split;omega;split;omega;split<;>omega
def wN:∀(l:List Fm)(r:List (Int×Int))(a:List Fm),Fm.run (fy l++r) a=Fm.run r (l.reverse++a)
 |[],r,a=>rfl
 |f::l,r,a=>by show Fm.run ((Fm.enc f++fy l)++r) a=_;rw [Ov,Fm.nJ,wN l];simp
def vh{w0 w:WD}{q:Nat}{v vo:Value}{F:List (Int×Int)}{i:Nat}{l:List Fm}(h:WI w0 w q v vo F i l)(b:i<F.length)(c:Fm.step (ir (F.getD i (0,0))) l.reverse=none):∀f,¬jr F f:=by
 intro f d;have a:=Fm.nJ f [] [];rw [Om,<-d.1]at a;have e:F.map ir=fy l++(ir (F.getD i (0,0))::(F.drop (i+1)).map ir):=by
  rw [<-h.Mc];conv=>lhs;rw [<-Rt i F,Oy]
  rw [List.drop_eq_getElem_cons b,NQ,Nw,Ny b];rfl
 rw [e,wN]at a;rw [Om]at a;simp only [Fm.run,c]at a;cases a
def x5{F:List (Int×Int)}{i:Nat}{n:Int}(c:i<F.length)(hF:F.getD i (0,0)=(3,n))(h:n<0\/8<=n):∀f,¬jr F f:=by
 intro f b;have a:ir (F.getD i (0,0))∈F.map ir:=List.mem_map.2 ⟨_,by rw [Nw,Ny c];exact OR c,rfl⟩;rw [b.1,hF]at a;unfold Fm.enc at a;obtain ⟨x,g,e⟩:=List.mem_map.1 a;have d:Fm.aO x=(3,n):=e;cases x<;>simp [Fm.aO]at d
 rename_i k;have:=b.2 _ g k rfl;omega
def qI{a n:Int}{b:List Fm}(h:tk a=-1\/(tk a=1/\b.length=0)\/(tk a=2/\b.length<2)):Fm.step (ir (a,n)) b=none:=by
 have e:ir (a,n)=(a,(ir (a,n)).2):=by unfold ir;split<;>rfl
 rw [e];generalize (ir (a,n)).2=m;unfold Fm.step;split<;>first
  |rfl
  |(rename_i c;obtain ⟨rfl,rfl⟩:_/\_:=by simpa using c
    revert h;simp [tk])
  |(revert h;simp [tk])
def GR(w0:WD)(q:Nat)(F:List (Int×Int))(n:Nat)(e:Ending)(g:WD):Prop:=
 (∃d:Int,e=RT (.tuple #[SN,IV d])/\d≠0/\BW w0 g/\∀f,¬jr F f)\/
 ∃a c b vo l,e=RT (.tuple #[.slice a c b,IV 0])/\WI w0 g q (.slice a c b) vo F n l
def Jn(a:OA)(n c:Nat)(F:List (Int×Int))(q:Nat)(w0 w:WD)(hF:bB w0 a n F)(hn:n<=1000000)(h0:WI w0 w q (SN) (SN) F 0 []):
 CL 100 #[.slice a n c,.func (.func 101) #[] #[PT q]] w (GR w0 q F n):=by
 obtain ⟨i3,ao,aq,ap,an⟩:=Ol Tryz.ed
 have HN:=Nq hn
 have ag:Hid (F.length=n):=hF.1
 have HF:=Nq hF
 have H0:=Nq h0
 clear h0 hF
 go_enter Tryz.func100,Tryz.ntmps100
 go_upto_region 3 with(fail)
 go_loopw [6,14] (λv x wr=>∃i:Nat,i<=n/\x=IV i/\∃sa j I vo l,v=.slice sa j I/\Hid (WI w0 wr q (.slice sa j I) vo F i l)) (λ_ x _=>n-(intOf x).toNat)
 exact ⟨0,NS _,rfl,none,0,0,_,_,rfl,H0⟩
 clear H0
 obtain ⟨i,hi,rfl,sa,j,I,vo,l,rfl,hw⟩:=hrel
 have aL:j=l.length:=(dT hw.o.my).2.2
 have L:=Nq aL
 clear aL
 by_cases ai:i<n
 ·have aP:(i:Int)<(n:Int):=by omega
  obtain ⟨-,h1|⟨b,aS,rfl,hc⟩⟩:=HF.o.af hw.o.aM
  ·omega
  obtain ⟨ci,cn⟩:=hc i ai;obtain ⟨op,aI⟩:=EX ((F.getD i (0,0)).1);obtain ⟨nn,aH⟩:=EX ((F.getD i (0,0)).2);have al:Hid (F.getD i (0,0)=(op,nn)):=by show _=_;rw [<-aI,<-aH]
  rw [aI]at ci;rw [aH]at cn;clear hc aI aH;have aK:BW wr (wr.alloc (.cells #[IV op,IV nn] 32)):=(Nx _ _).alloc (Nz _) _;have d0:(wr.alloc (.cells #[IV op,IV nn] 32)).cell? (AD wr.heap.size 0)=some (IV op):=NV (w:=wr) _ 32 wr.heap.size 0 rfl;have d1:(wr.alloc (.cells #[IV op,IV nn] 32)).cell? (AD wr.heap.size 1)=some (IV nn):=NV (w:=wr) _ 32 wr.heap.size 1 rfl;have s:=Nq (hw.o.af aK);go_upto_region 5 with(fail);clear aK ci cn hw;generalize wr.alloc (.cells #[IV op,IV nn] 32)=w1 at *;generalize wr.heap.size=qn at *;have aR:j<=n:=by
   have h1:=s.o.size (by rw [ag.o];exact hi);have h2:∀l:List Fm,l.length<=bj l:=by
    intro l;induction l with
    |nil=>exact Nz _
    |cons f r ih=>have:=Fm.bF f;show r.length+1<=Fm.size f+bj r;omega
   have:=h2 l;have:=L.o;omega
  have aA:=Nq (s.o.size (by rw [ag.o];exact hi));have am:Hid (BW w0 w1):=s.o.aM;have aQ:=(dT s.o.my).1;rcases I6 op with h|h|h|h
  ·have HT:Hid (CL 131 #[IV op] w1 λe p=>e=RT (IV (-1))/\p=w1):=by have:=lM op w1;rwa [h]at this
   have aa:Hid (∀f,¬jr F f):=vh s.o (by rw [ag.o];exact ai) (by rw [al.o];exact qI (.inl h));clear h;go_wp2_with (go_at_call 131;refine HT.o.mono ?_;rintro e p ⟨rfl,rfl⟩);go_ret2;exact .inl ⟨3,rfl,by decide,am.o,aa.o⟩
  ·have HT:Hid (CL 131 #[IV op] w1 λe p=>e=RT (IV 0)/\p=w1):=by have:=lM op w1;rwa [h]at this
   have t9:¬(j:Int)<0:=by omega
   by_cases K:op=3
   ·subst K;by_cases aw:nn<0
    ·have t0:decide (nn<0)=true:=decide_eq_true aw;have aa:Hid (∀f,¬jr F f):=x5 (by rw [ag.o];exact ai) al.o (.inl aw)
     go_wp2_with (go_at_call 131;refine HT.o.mono ?_;rintro e p ⟨rfl,rfl⟩);go_ret2;exact .inl ⟨10,rfl,by decide,am.o,aa.o⟩
    ·have t0:decide (nn<0)=false:=Rc aw;by_cases av:8<=nn
     ·have t1:decide (8<=nn)=true:=decide_eq_true av;have aa:Hid (∀f,¬jr F f):=x5 (by rw [ag.o];exact ai) al.o (.inr av)
      go_wp2_with (go_at_call 131;refine HT.o.mono ?_;rintro e p ⟨rfl,rfl⟩);go_ret2;exact .inl ⟨10,rfl,by decide,am.o,aa.o⟩
     ·have t1:decide (8<=nn)=false:=Rc av;obtain ⟨f,hf,E,N⟩:=Hx (op:=3) (n:=nn) rfl (λ_=>by omega)
      obtain ⟨p1,p2,p3⟩:=Be (l:=l) hf;rw [aA.o]at p2 p3;have ab:Hid (fy (l++[f])=fy l++[ir (F.getD i (0,0))]):=by show _=_;rw [p1,E,al.o]
      have ac:=Nq p2;have af:=Nq p3;have ae:=Nq N;clear hf E N h p1 p2 p3;rcases s.o.my.2 with⟨hv,hz⟩|⟨g,aC,aD,hv,-⟩
      ·injection hv with e1 e2 e3;subst e1
       subst e2;subst e3;have ah:Hid (∀d o C t B z D,WI w0 d q (SN) vo F i l->CA o q 0 (SV t (i+1) B)->FZ o q 0->Sl o 3 (SV t (i+1) B) (i+1) ((fL 0 l++[(i:Int)]).map (Value.int .i64))->
        aj (λb=>b=q\/vo.ownBlock=some b) d o->(vo.ownBlock=some t\/d.heap.size<=t)->Sl C 3 (SV z (0+1) D) (0+1) ((dz 0 l).map (Value.int .i64)++[IV i])->aj (λk=>Value.ownBlock (SN)=some k) o C->(Value.ownBlock (SN)=some z\/o.heap.size<=z)->
        WI w0 C q (SV z (0+1) D) (SV t (i+1) B) F (i+1) (l++[f])):=λd o C t B z D h K M Q O P s4 k4 m4=>
        nM ([]) h (by rw [ag.o];exact ai) L.o ab.o ac.o af.o ae.o (by simp) K M Q O P s4 k4 m4 rfl
       have R:Hid (CL 91 #[SN] w1 λe p=>∃u A,e=RT (.slice u 0 A)/\aE .i64 3 w1 p (.slice u 0 A) []):=eJ _ _ _ _ _ ⟨rfl,.inl rfl⟩ (λ_=>⟨rfl,rfl⟩) (by omega);have Y:Hid (∀W u A,aG .i64 W u 0 []->BW w1 W->CL 101 #[IV i,.slice u 0 A,PT q] W λe p=>∃g co,e=RT (IV i)/\CA p q 0 (SV g (i+1) co)/\FZ p q 0/\
        Sl p 3 (SV g (i+1) co) (i+1) ((fL 0 l++[(i:Int)]).map (Value.int .i64))/\aj (λb=>b=q\/vo.ownBlock=some b) W p/\(vo.ownBlock=some g\/W.heap.size<=g)):=λW u A hr hb=>by
        have hw:=s.o.af hb
        exact gm (i:Int) u 0 A [] q i vo _ W hr (by omega) hw.cell hw.fr hw.o hw.Jt (by omega)
       go_upto_region 13 with(go_at_call 131;refine HT.o.mono ?_;rintro e p ⟨rfl,rfl⟩);go_upto_region 14 with(first
        |(go_at_call 91;refine R.o.mono ?_;rintro e d ⟨a2,c2,rfl,hm⟩;have T:=Nq hm;clear hm)
        |(go_at_call 101;refine (Y.o d a2 c2 (cN T.o) (aZ T.o)).mono ?_;rintro e o ⟨t,B,rfl,K,M,Q,O,P⟩;have H3:=Nq K;have F3:=Nq M;have O3:=Nq Q;have K3:=Nq O;have M3:=Nq P;clear K M Q O P))
       all_goals
        have J:=Nq (s.o.af (aZ T.o))
        have V:Hid (Sl o 3 (SN) 0 ((dz 0 l).map (Value.int .i64))):=by have e0:l=[]:=OV L.o.symm;show Sl o 3 (SN) 0 _;rw [e0];exact Ox _ _ _ _
        go_wp2_with (at_builtin;refine ax rfl (.tmp 57) (.tmp 59) 33 rfl 3 i3 (IV 0) 8 OY ao aq ap an rfl (by decide) (SN) 0 _ rfl V.o (IV i) rfl rfl (by omega) ?_;intro z D C hs G H;have X:=Nq hs;have S:=Nq G;have Z:=Nq H;clear hs G H)
        have U:Hid (WI w0 C q (SV z (0+1) D) (SV t (i+1) B) F (i+1) (l++[f])):=ah.o d o C t B z D J.o H3.o F3.o O3.o K3.o M3.o X.o S.o Z.o
        go_roundw
        exact ⟨i+1,by omega,by go_num,_,_,_,_,_,rfl,U⟩
        simp [intOf];omega
      ·injection hv with e1 e2 e3;subst e1
       clear e2 e3;have ah:Hid (∀d o C t B z D,WI w0 d q (SV g j I) vo F i l->CA o q 0 (SV t (i+1) B)->FZ o q 0->Sl o 3 (SV t (i+1) B) (i+1) ((fL 0 l++[(i:Int)]).map (Value.int .i64))->
        aj (λb=>b=q\/vo.ownBlock=some b) d o->(vo.ownBlock=some t\/d.heap.size<=t)->Sl C 3 (SV z (j+1) D) (j+1) ((dz 0 l).map (Value.int .i64)++[IV i])->aj (λk=>Value.ownBlock (SV g j I)=some k) o C->(Value.ownBlock (SV g j I)=some z\/o.heap.size<=z)->
        WI w0 C q (SV z (j+1) D) (SV t (i+1) B) F (i+1) (l++[f])):=λd o C t B z D h K M Q O P s4 k4 m4=>
        nM ([]) h (by rw [ag.o];exact ai) L.o ab.o ac.o af.o ae.o (by simp) K M Q O P s4 k4 m4 rfl
       by_cases aF:j<I
       ·have tm:(j:Int)<(I:Int):=by omega
        have az:¬I-j=0:=by omega
        have R:Hid (∀(ad:Addr)(cc:Nat),CL 91 #[.slice (some ad) 0 cc] w1 λe p=>∃u A,e=RT (.slice u 0 A)/\aE .i64 3 w1 p (.slice u 0 A) []):=λad cc=>eJ _ _ _ _ _ ⟨rfl,.inl rfl⟩ (λe=>nomatch e) (by omega);have Y:Hid (∀W u A,aG .i64 W u 0 []->BW w1 W->CL 101 #[IV i,.slice u 0 A,PT q] W λe p=>∃g co,e=RT (IV i)/\CA p q 0 (SV g (i+1) co)/\FZ p q 0/\
         Sl p 3 (SV g (i+1) co) (i+1) ((fL 0 l++[(i:Int)]).map (Value.int .i64))/\aj (λb=>b=q\/vo.ownBlock=some b) W p/\(vo.ownBlock=some g\/W.heap.size<=g)):=λW u A hr hb=>by
         have hw:=s.o.af hb
         exact gm (i:Int) u 0 A [] q i vo _ W hr (by omega) hw.cell hw.fr hw.o hw.Jt (by omega)
        have ak:Hid (∀d W,WI w0 d q (SV g j I) vo F i l->aj (λb=>b=q\/vo.ownBlock=some b) d W->Sl W 3 (SV g j I) j ((dz 0 l).map (Value.int .i64))):=λd W h k=>qO [] h k L.o (by simp);go_upto_region 13 with(go_at_call 131;refine HT.o.mono ?_;rintro e p ⟨rfl,rfl⟩);go_upto_region 14 with(first
         |(go_at_call 91;refine (R.o _ _).mono ?_;rintro e d ⟨a2,c2,rfl,hm⟩;have T:=Nq hm;clear hm)
         |(go_at_call 101;refine (Y.o d a2 c2 (cN T.o) (aZ T.o)).mono ?_;rintro e o ⟨t,B,rfl,K,M,Q,O,P⟩;have H3:=Nq K;have F3:=Nq M;have O3:=Nq Q;have K3:=Nq O;have M3:=Nq P;clear K M Q O P))
        all_goals
         have J:=Nq (s.o.af (aZ T.o))
         have V:Hid (Sl o 3 (SV g j I) j ((dz 0 l).map (Value.int .i64))):=ak.o d o J.o K3.o
         go_wp2_with (at_builtin;refine ax rfl (.tmp 57) (.tmp 59) 33 rfl 3 i3 (IV 0) 8 OY ao aq ap an rfl (by decide) (SV g j I) j _ rfl V.o (IV i) rfl rfl (by omega) ?_;intro z D C hs G H;have X:=Nq hs;have S:=Nq G;have Z:=Nq H;clear hs G H)
         have U:Hid (WI w0 C q (SV z (j+1) D) (SV t (i+1) B) F (i+1) (l++[f])):=ah.o d o C t B z D J.o H3.o F3.o O3.o K3.o M3.o X.o S.o Z.o
         go_roundw
         exact ⟨i+1,by omega,by go_num,_,_,_,_,_,rfl,U⟩
         simp [intOf];omega
       ·obtain rfl:j=I:=by omega
        have az:j-j=0:=by omega
        have R:Hid (∀(ad:Addr)(cc:Nat),CL 91 #[.slice (some ad) 0 cc] w1 λe p=>∃u A,e=RT (.slice u 0 A)/\aE .i64 3 w1 p (.slice u 0 A) []):=λad cc=>eJ _ _ _ _ _ ⟨rfl,.inl rfl⟩ (λe=>nomatch e) (by omega);have Y:Hid (∀W u A,aG .i64 W u 0 []->BW w1 W->CL 101 #[IV i,.slice u 0 A,PT q] W λe p=>∃g co,e=RT (IV i)/\CA p q 0 (SV g (i+1) co)/\FZ p q 0/\
         Sl p 3 (SV g (i+1) co) (i+1) ((fL 0 l++[(i:Int)]).map (Value.int .i64))/\aj (λb=>b=q\/vo.ownBlock=some b) W p/\(vo.ownBlock=some g\/W.heap.size<=g)):=λW u A hr hb=>by
         have hw:=s.o.af hb
         exact gm (i:Int) u 0 A [] q i vo _ W hr (by omega) hw.cell hw.fr hw.o hw.Jt (by omega)
        have ak:Hid (∀d W,WI w0 d q (SV g j j) vo F i l->aj (λb=>b=q\/vo.ownBlock=some b) d W->Sl W 3 (SV g j j) j ((dz 0 l).map (Value.int .i64))):=λd W h k=>qO [] h k L.o (by simp);go_upto_region 13 with(go_at_call 131;refine HT.o.mono ?_;rintro e p ⟨rfl,rfl⟩);go_upto_region 14 with(first
         |(go_at_call 91;refine (R.o _ _).mono ?_;rintro e d ⟨a2,c2,rfl,hm⟩;have T:=Nq hm;clear hm)
         |(go_at_call 101;refine (Y.o d a2 c2 (cN T.o) (aZ T.o)).mono ?_;rintro e o ⟨t,B,rfl,K,M,Q,O,P⟩;have H3:=Nq K;have F3:=Nq M;have O3:=Nq Q;have K3:=Nq O;have M3:=Nq P;clear K M Q O P))
        all_goals
         have J:=Nq (s.o.af (aZ T.o))
         have V:Hid (Sl o 3 (SV g j j) j ((dz 0 l).map (Value.int .i64))):=ak.o d o J.o K3.o
         go_wp2_with (at_builtin;refine ax rfl (.tmp 57) (.tmp 59) 33 rfl 3 i3 (IV 0) 8 OY ao aq ap an rfl (by decide) (SV g j j) j _ rfl V.o (IV i) rfl rfl (by omega) ?_;intro z D C hs G H;have X:=Nq hs;have S:=Nq G;have Z:=Nq H;clear hs G H)
         have U:Hid (WI w0 C q (SV z (j+1) D) (SV t (i+1) B) F (i+1) (l++[f])):=ah.o d o C t B z D J.o H3.o F3.o O3.o K3.o M3.o X.o S.o Z.o
         go_roundw
         exact ⟨i+1,by omega,by go_num,_,_,_,_,_,rfl,U⟩
         simp [intOf];omega
   ·have t0:(op==3)=false:=NC.2 K;obtain ⟨f,hf,E,N⟩:=Hx (op:=op) (n:=nn) h (λe=>absurd e K)
    obtain ⟨p1,p2,p3⟩:=Be (l:=l) hf;rw [aA.o]at p2 p3;have ab:Hid (fy (l++[f])=fy l++[ir (F.getD i (0,0))]):=by show _=_;rw [p1,E,al.o]
    have ac:=Nq p2;have af:=Nq p3;have ae:=Nq N;clear hf E N h p1 p2 p3;rcases s.o.my.2 with⟨hv,hz⟩|⟨g,aC,aD,hv,-⟩
    ·injection hv with e1 e2 e3;subst e1
     subst e2;subst e3;have ah:Hid (∀d o C t B z D,WI w0 d q (SN) vo F i l->CA o q 0 (SV t (i+1) B)->FZ o q 0->Sl o 3 (SV t (i+1) B) (i+1) ((fL 0 l++[(i:Int)]).map (Value.int .i64))->
      aj (λb=>b=q\/vo.ownBlock=some b) d o->(vo.ownBlock=some t\/d.heap.size<=t)->Sl C 3 (SV z (0+1) D) (0+1) ((dz 0 l).map (Value.int .i64)++[IV i])->aj (λk=>Value.ownBlock (SN)=some k) o C->(Value.ownBlock (SN)=some z\/o.heap.size<=z)->
      WI w0 C q (SV z (0+1) D) (SV t (i+1) B) F (i+1) (l++[f])):=λd o C t B z D h K M Q O P s4 k4 m4=>
      nM ([]) h (by rw [ag.o];exact ai) L.o ab.o ac.o af.o ae.o (by simp) K M Q O P s4 k4 m4 rfl
     have R:Hid (CL 91 #[SN] w1 λe p=>∃u A,e=RT (.slice u 0 A)/\aE .i64 3 w1 p (.slice u 0 A) []):=eJ _ _ _ _ _ ⟨rfl,.inl rfl⟩ (λ_=>⟨rfl,rfl⟩) (by omega);have Y:Hid (∀W u A,aG .i64 W u 0 []->BW w1 W->CL 101 #[IV i,.slice u 0 A,PT q] W λe p=>∃g co,e=RT (IV i)/\CA p q 0 (SV g (i+1) co)/\FZ p q 0/\
      Sl p 3 (SV g (i+1) co) (i+1) ((fL 0 l++[(i:Int)]).map (Value.int .i64))/\aj (λb=>b=q\/vo.ownBlock=some b) W p/\(vo.ownBlock=some g\/W.heap.size<=g)):=λW u A hr hb=>by
      have hw:=s.o.af hb
      exact gm (i:Int) u 0 A [] q i vo _ W hr (by omega) hw.cell hw.fr hw.o hw.Jt (by omega)
     go_upto_region 13 with(go_at_call 131;refine HT.o.mono ?_;rintro e p ⟨rfl,rfl⟩);go_upto_region 14 with(first
      |(go_at_call 91;refine R.o.mono ?_;rintro e d ⟨a2,c2,rfl,hm⟩;have T:=Nq hm;clear hm)
      |(go_at_call 101;refine (Y.o d a2 c2 (cN T.o) (aZ T.o)).mono ?_;rintro e o ⟨t,B,rfl,K,M,Q,O,P⟩;have H3:=Nq K;have F3:=Nq M;have O3:=Nq Q;have K3:=Nq O;have M3:=Nq P;clear K M Q O P))
     all_goals
      have J:=Nq (s.o.af (aZ T.o))
      have V:Hid (Sl o 3 (SN) 0 ((dz 0 l).map (Value.int .i64))):=by have e0:l=[]:=OV L.o.symm;show Sl o 3 (SN) 0 _;rw [e0];exact Ox _ _ _ _
      go_wp2_with (at_builtin;refine ax rfl (.tmp 57) (.tmp 59) 33 rfl 3 i3 (IV 0) 8 OY ao aq ap an rfl (by decide) (SN) 0 _ rfl V.o (IV i) rfl rfl (by omega) ?_;intro z D C hs G H;have X:=Nq hs;have S:=Nq G;have Z:=Nq H;clear hs G H)
      have U:Hid (WI w0 C q (SV z (0+1) D) (SV t (i+1) B) F (i+1) (l++[f])):=ah.o d o C t B z D J.o H3.o F3.o O3.o K3.o M3.o X.o S.o Z.o
      go_roundw
      exact ⟨i+1,by omega,by go_num,_,_,_,_,_,rfl,U⟩
      simp [intOf];omega
    ·injection hv with e1 e2 e3;subst e1
     clear e2 e3;have ah:Hid (∀d o C t B z D,WI w0 d q (SV g j I) vo F i l->CA o q 0 (SV t (i+1) B)->FZ o q 0->Sl o 3 (SV t (i+1) B) (i+1) ((fL 0 l++[(i:Int)]).map (Value.int .i64))->
      aj (λb=>b=q\/vo.ownBlock=some b) d o->(vo.ownBlock=some t\/d.heap.size<=t)->Sl C 3 (SV z (j+1) D) (j+1) ((dz 0 l).map (Value.int .i64)++[IV i])->aj (λk=>Value.ownBlock (SV g j I)=some k) o C->(Value.ownBlock (SV g j I)=some z\/o.heap.size<=z)->
      WI w0 C q (SV z (j+1) D) (SV t (i+1) B) F (i+1) (l++[f])):=λd o C t B z D h K M Q O P s4 k4 m4=>
      nM ([]) h (by rw [ag.o];exact ai) L.o ab.o ac.o af.o ae.o (by simp) K M Q O P s4 k4 m4 rfl
     by_cases aF:j<I
     ·have tm:(j:Int)<(I:Int):=by omega
      have az:¬I-j=0:=by omega
      have R:Hid (∀(ad:Addr)(cc:Nat),CL 91 #[.slice (some ad) 0 cc] w1 λe p=>∃u A,e=RT (.slice u 0 A)/\aE .i64 3 w1 p (.slice u 0 A) []):=λad cc=>eJ _ _ _ _ _ ⟨rfl,.inl rfl⟩ (λe=>nomatch e) (by omega);have Y:Hid (∀W u A,aG .i64 W u 0 []->BW w1 W->CL 101 #[IV i,.slice u 0 A,PT q] W λe p=>∃g co,e=RT (IV i)/\CA p q 0 (SV g (i+1) co)/\FZ p q 0/\
       Sl p 3 (SV g (i+1) co) (i+1) ((fL 0 l++[(i:Int)]).map (Value.int .i64))/\aj (λb=>b=q\/vo.ownBlock=some b) W p/\(vo.ownBlock=some g\/W.heap.size<=g)):=λW u A hr hb=>by
       have hw:=s.o.af hb
       exact gm (i:Int) u 0 A [] q i vo _ W hr (by omega) hw.cell hw.fr hw.o hw.Jt (by omega)
      have ak:Hid (∀d W,WI w0 d q (SV g j I) vo F i l->aj (λb=>b=q\/vo.ownBlock=some b) d W->Sl W 3 (SV g j I) j ((dz 0 l).map (Value.int .i64))):=λd W h k=>qO [] h k L.o (by simp);go_upto_region 13 with(go_at_call 131;refine HT.o.mono ?_;rintro e p ⟨rfl,rfl⟩);go_upto_region 14 with(first
       |(go_at_call 91;refine (R.o _ _).mono ?_;rintro e d ⟨a2,c2,rfl,hm⟩;have T:=Nq hm;clear hm)
       |(go_at_call 101;refine (Y.o d a2 c2 (cN T.o) (aZ T.o)).mono ?_;rintro e o ⟨t,B,rfl,K,M,Q,O,P⟩;have H3:=Nq K;have F3:=Nq M;have O3:=Nq Q;have K3:=Nq O;have M3:=Nq P;clear K M Q O P))
      all_goals
       have J:=Nq (s.o.af (aZ T.o))
       have V:Hid (Sl o 3 (SV g j I) j ((dz 0 l).map (Value.int .i64))):=ak.o d o J.o K3.o
       go_wp2_with (at_builtin;refine ax rfl (.tmp 57) (.tmp 59) 33 rfl 3 i3 (IV 0) 8 OY ao aq ap an rfl (by decide) (SV g j I) j _ rfl V.o (IV i) rfl rfl (by omega) ?_;intro z D C hs G H;have X:=Nq hs;have S:=Nq G;have Z:=Nq H;clear hs G H)
       have U:Hid (WI w0 C q (SV z (j+1) D) (SV t (i+1) B) F (i+1) (l++[f])):=ah.o d o C t B z D J.o H3.o F3.o O3.o K3.o M3.o X.o S.o Z.o
       go_roundw
       exact ⟨i+1,by omega,by go_num,_,_,_,_,_,rfl,U⟩
       simp [intOf];omega
     ·obtain rfl:j=I:=by omega
      have az:j-j=0:=by omega
      have R:Hid (∀(ad:Addr)(cc:Nat),CL 91 #[.slice (some ad) 0 cc] w1 λe p=>∃u A,e=RT (.slice u 0 A)/\aE .i64 3 w1 p (.slice u 0 A) []):=λad cc=>eJ _ _ _ _ _ ⟨rfl,.inl rfl⟩ (λe=>nomatch e) (by omega);have Y:Hid (∀W u A,aG .i64 W u 0 []->BW w1 W->CL 101 #[IV i,.slice u 0 A,PT q] W λe p=>∃g co,e=RT (IV i)/\CA p q 0 (SV g (i+1) co)/\FZ p q 0/\
       Sl p 3 (SV g (i+1) co) (i+1) ((fL 0 l++[(i:Int)]).map (Value.int .i64))/\aj (λb=>b=q\/vo.ownBlock=some b) W p/\(vo.ownBlock=some g\/W.heap.size<=g)):=λW u A hr hb=>by
       have hw:=s.o.af hb
       exact gm (i:Int) u 0 A [] q i vo _ W hr (by omega) hw.cell hw.fr hw.o hw.Jt (by omega)
      have ak:Hid (∀d W,WI w0 d q (SV g j j) vo F i l->aj (λb=>b=q\/vo.ownBlock=some b) d W->Sl W 3 (SV g j j) j ((dz 0 l).map (Value.int .i64))):=λd W h k=>qO [] h k L.o (by simp);go_upto_region 13 with(go_at_call 131;refine HT.o.mono ?_;rintro e p ⟨rfl,rfl⟩);go_upto_region 14 with(first
       |(go_at_call 91;refine (R.o _ _).mono ?_;rintro e d ⟨a2,c2,rfl,hm⟩;have T:=Nq hm;clear hm)
       |(go_at_call 101;refine (Y.o d a2 c2 (cN T.o) (aZ T.o)).mono ?_;rintro e o ⟨t,B,rfl,K,M,Q,O,P⟩;have H3:=Nq K;have F3:=Nq M;have O3:=Nq Q;have K3:=Nq O;have M3:=Nq P;clear K M Q O P))
      all_goals
       have J:=Nq (s.o.af (aZ T.o))
       have V:Hid (Sl o 3 (SV g j j) j ((dz 0 l).map (Value.int .i64))):=ak.o d o J.o K3.o
       go_wp2_with (at_builtin;refine ax rfl (.tmp 57) (.tmp 59) 33 rfl 3 i3 (IV 0) 8 OY ao aq ap an rfl (by decide) (SV g j j) j _ rfl V.o (IV i) rfl rfl (by omega) ?_;intro z D C hs G H;have X:=Nq hs;have S:=Nq G;have Z:=Nq H;clear hs G H)
       have U:Hid (WI w0 C q (SV z (j+1) D) (SV t (i+1) B) F (i+1) (l++[f])):=ah.o d o C t B z D J.o H3.o F3.o O3.o K3.o M3.o X.o S.o Z.o
       go_roundw
       exact ⟨i+1,by omega,by go_num,_,_,_,_,_,rfl,U⟩
       simp [intOf];omega
  ·have HT:Hid (CL 131 #[IV op] w1 λe p=>e=RT (IV 1)/\p=w1):=by have:=lM op w1;rwa [h]at this
   have t0:(op==3)=false:=NC.2 (λe=>by subst e;revert h;decide);by_cases ay:j=0
   ·have t1:(j:Int)<1:=by omega
    have t2:j<1:=by omega
    have aa:Hid (∀f,¬jr F f):=vh s.o (by rw [ag.o];exact ai) (by rw [al.o];exact qI (.inr (.inl ⟨h,by rw [Qm,<-L.o];exact ay⟩)));go_wp2_with (go_at_call 131;refine HT.o.mono ?_;rintro e p ⟨rfl,rfl⟩);go_ret2;exact .inl ⟨4,rfl,by decide,am.o,aa.o⟩
   ·obtain ⟨m,hm⟩:∃m,j=m+1:=⟨j-1,by omega⟩;obtain ⟨y,a1,el,em⟩:=zX (L.o.symm.trans hm)
    subst hm;subst el;obtain ⟨f,hf,E,N⟩:=Mw (op:=op) (n:=nn) h a1 (s.o.ok a1 (by simp));have ar:Hid (m=y.length):=em.symm;obtain ⟨p1,p2,p3,p4⟩:=Kj (l:=y) hf;have ab:Hid (fy (y++[f])=fy (y++[a1])++[ir (F.getD i (0,0))]):=by show _=_;rw [p1,E,al.o]
    have ac:Hid (dz 0 (y++[f])=dz 0 y++[((bj y:Nat):Int)]):=p2.trans p3;have af:Hid (fL 0 (y++[f])=fL 0 (y++[a1])++[((bj y:Nat):Int)]):=p4;have ae:=Nq N;have aB:=Nq p3;clear hf E N h p1 p2 p3 p4 em ay L aA;rcases s.o.my.2 with⟨hv,hz⟩|⟨g,aC,aD,hv,-⟩
    ·injection hv with e1 e2 e3;omega
    ·injection hv with e1 e2 e3;subst e1
     clear e2 e3;have au:=Nq (Jl (l0:=y) (k:=1) s.o ar.o aB.o rfl);have tm:(m:Int)<(I:Int):=by omega
     have az:m<I:=by omega
     have aO:¬(m:Int)+1<1:=by omega
     have ah:Hid (∀d o C t B z D,WI w0 d q (SV g (m+1) I) vo F i (y++[a1])->CA o q 0 (SV t (i+1) B)->FZ o q 0->Sl o 3 (SV t (i+1) B) (i+1) ((fL 0 (y++[a1])++[((bj y:Nat):Int)]).map (Value.int .i64))->
      aj (λb=>b=q\/vo.ownBlock=some b) d o->(vo.ownBlock=some t\/d.heap.size<=t)->Sl C 3 (SV z (m+1) D) (m+1) ((dz 0 y).map (Value.int .i64)++[IV ((bj y:Nat):Int)])->aj (λk=>Value.ownBlock (SV g m I)=some k) o C->(Value.ownBlock (SV g m I)=some z\/o.heap.size<=z)->
      WI w0 C q (SV z (m+1) D) (SV t (i+1) B) F (i+1) (y++[f])):=λd o C t B z D h K M Q O P s4 k4 m4=>
      nM ([a1]) h (by rw [ag.o];exact ai) ar.o ab.o ac.o af.o ae.o rfl K M Q O P s4 k4 m4 rfl
     have R:Hid (CL 91 #[.slice (some (AD g m)) 1 (I-m)] w1 λe p=>∃u A,e=RT (.slice u 1 A)/\aE .i64 3 w1 p (.slice u 1 A) [((bj y:Nat):Int)]):=eJ _ _ _ _ _ au.o (λe=>nomatch e) (by omega);have Y:Hid (∀W u A,aG .i64 W u 1 [((bj y:Nat):Int)]->BW w1 W->CL 101 #[IV i,.slice u 1 A,PT q] W λe p=>∃g co,e=RT (IV ((bj y:Nat):Int))/\CA p q 0 (SV g (i+1) co)/\FZ p q 0/\
      Sl p 3 (SV g (i+1) co) (i+1) ((fL 0 (y++[a1])++[((bj y:Nat):Int)]).map (Value.int .i64))/\aj (λb=>b=q\/vo.ownBlock=some b) W p/\(vo.ownBlock=some g\/W.heap.size<=g)):=λW u A hr hb=>by
      have hw:=s.o.af hb
      exact gm (i:Int) u 1 A [((bj y:Nat):Int)] q i vo _ W hr (by omega) hw.cell hw.fr hw.o hw.Jt (by omega)
     have ak:Hid (∀d W,WI w0 d q (SV g (m+1) I) vo F i (y++[a1])->aj (λb=>b=q\/vo.ownBlock=some b) d W->Sl W 3 (SV g m I) m ((dz 0 y).map (Value.int .i64))):=λd W h k=>qO [a1] h k ar.o rfl;go_upto_region 13 with(go_at_call 131;refine HT.o.mono ?_;rintro e p ⟨rfl,rfl⟩);go_upto_region 14 with(first
      |(go_at_call 91;refine R.o.mono ?_;rintro e d ⟨a2,c2,rfl,hm⟩;have T:=Nq hm;clear hm)
      |(go_at_call 101;refine (Y.o d a2 c2 (cN T.o) (aZ T.o)).mono ?_;rintro e o ⟨t,B,rfl,K,M,Q,O,P⟩;have H3:=Nq K;have F3:=Nq M;have O3:=Nq Q;have K3:=Nq O;have M3:=Nq P;clear K M Q O P))
     all_goals
      have J:=Nq (s.o.af (aZ T.o))
      have V:Hid (Sl o 3 (SV g m I) m ((dz 0 y).map (Value.int .i64))):=ak.o d o J.o K3.o
      go_wp2_with (at_builtin;refine ax rfl (.tmp 57) (.tmp 59) 33 rfl 3 i3 (IV 0) 8 OY ao aq ap an rfl (by decide) (SV g m I) m _ rfl V.o (IV ((bj y:Nat):Int)) rfl rfl (by omega) ?_;intro z D C hs G H;have X:=Nq hs;have S:=Nq G;have Z:=Nq H;clear hs G H)
      have U:Hid (WI w0 C q (SV z (m+1) D) (SV t (i+1) B) F (i+1) (y++[f])):=ah.o d o C t B z D J.o H3.o F3.o O3.o K3.o M3.o X.o S.o Z.o
      go_roundw
      exact ⟨i+1,by omega,by go_num,_,_,_,_,_,rfl,U⟩
      simp [intOf];omega
  ·have HT:Hid (CL 131 #[IV op] w1 λe p=>e=RT (IV 2)/\p=w1):=by have:=lM op w1;rwa [h]at this
   have t0:(op==3)=false:=NC.2 (λe=>by subst e;revert h;decide);by_cases ay:j<2
   ·have t1:(j:Int)<2:=by omega
    have aa:Hid (∀f,¬jr F f):=vh s.o (by rw [ag.o];exact ai) (by rw [al.o];exact qI (.inr (.inr ⟨h,by rw [Qm,<-L.o];exact ay⟩)));go_wp2_with (go_at_call 131;refine HT.o.mono ?_;rintro e p ⟨rfl,rfl⟩);go_ret2;exact .inl ⟨4,rfl,by decide,am.o,aa.o⟩
   ·obtain ⟨m,hm⟩:∃m,j=m+2:=⟨j-2,by omega⟩;obtain ⟨l1,b1,el,em⟩:=zX (n:=m+1) (L.o.symm.trans hm)
    obtain ⟨y,a1,aM,aJ⟩:=zX em;subst hm;subst aM;have aN:l=y++[a1,b1]:=by rw [el];simp
    subst aN;obtain ⟨f,hf,E,N⟩:=MH (op:=op) (n:=nn) h a1 b1 (s.o.ok a1 (by simp)) (s.o.ok b1 (by simp));have ar:Hid (m=y.length):=aJ.symm;obtain ⟨p1,p2,p3,p4⟩:=Kk (l:=y) hf;have ab:Hid (fy (y++[f])=fy (y++[a1,b1])++[ir (F.getD i (0,0))]):=by show _=_;rw [p1,E,al.o]
    have ac:Hid (dz 0 (y++[f])=dz 0 y++[((bj y:Nat):Int)]):=p2;have af:Hid (fL 0 (y++[f])=fL 0 (y++[a1,b1])++[((bj y:Nat):Int)]):=p4;have ae:=Nq N;have aB:=Nq p3;clear hf E N h p1 p2 p3 p4 em aJ el ay L aA;rcases s.o.my.2 with⟨hv,hz⟩|⟨g,aC,aD,hv,-⟩
    ·injection hv with e1 e2 e3;omega
    ·injection hv with e1 e2 e3;subst e1
     clear e2 e3;have au:=Nq (Jl (l0:=y) (k:=2) s.o ar.o aB.o rfl);have tm:(m:Int)<(I:Int):=by omega
     have az:m<I:=by omega
     have aO:¬(m:Int)+2<2:=by omega
     have ah:Hid (∀d o C t B z D,WI w0 d q (SV g (m+2) I) vo F i (y++[a1,b1])->CA o q 0 (SV t (i+1) B)->FZ o q 0->Sl o 3 (SV t (i+1) B) (i+1) ((fL 0 (y++[a1,b1])++[((bj y:Nat):Int)]).map (Value.int .i64))->
      aj (λb=>b=q\/vo.ownBlock=some b) d o->(vo.ownBlock=some t\/d.heap.size<=t)->Sl C 3 (SV z (m+1) D) (m+1) ((dz 0 y).map (Value.int .i64)++[IV ((bj y:Nat):Int)])->aj (λk=>Value.ownBlock (SV g m I)=some k) o C->(Value.ownBlock (SV g m I)=some z\/o.heap.size<=z)->
      WI w0 C q (SV z (m+1) D) (SV t (i+1) B) F (i+1) (y++[f])):=λd o C t B z D h K M Q O P s4 k4 m4=>
      nM ([a1,b1]) h (by rw [ag.o];exact ai) ar.o ab.o ac.o af.o ae.o rfl K M Q O P s4 k4 m4 rfl
     have R:Hid (CL 91 #[.slice (some (AD g m)) 2 (I-m)] w1 λe p=>∃u A,e=RT (.slice u 2 A)/\aE .i64 3 w1 p (.slice u 2 A) [((bj y:Nat):Int),((bj y+Fm.size a1:Nat):Int)]):=eJ _ _ _ _ _ au.o (λe=>nomatch e) (by omega);have Y:Hid (∀W u A,aG .i64 W u 2 [((bj y:Nat):Int),((bj y+Fm.size a1:Nat):Int)]->BW w1 W->CL 101 #[IV i,.slice u 2 A,PT q] W λe p=>∃g co,e=RT (IV ((bj y:Nat):Int))/\CA p q 0 (SV g (i+1) co)/\FZ p q 0/\
      Sl p 3 (SV g (i+1) co) (i+1) ((fL 0 (y++[a1,b1])++[((bj y:Nat):Int)]).map (Value.int .i64))/\aj (λb=>b=q\/vo.ownBlock=some b) W p/\(vo.ownBlock=some g\/W.heap.size<=g)):=λW u A hr hb=>by
      have hw:=s.o.af hb
      exact gm (i:Int) u 2 A [((bj y:Nat):Int),((bj y+Fm.size a1:Nat):Int)] q i vo _ W hr (by omega) hw.cell hw.fr hw.o hw.Jt (by omega)
     have ak:Hid (∀d W,WI w0 d q (SV g (m+2) I) vo F i (y++[a1,b1])->aj (λb=>b=q\/vo.ownBlock=some b) d W->Sl W 3 (SV g m I) m ((dz 0 y).map (Value.int .i64))):=λd W h k=>qO [a1,b1] h k ar.o rfl;go_upto_region 13 with(go_at_call 131;refine HT.o.mono ?_;rintro e p ⟨rfl,rfl⟩);go_upto_region 14 with(first
      |(go_at_call 91;refine R.o.mono ?_;rintro e d ⟨a2,c2,rfl,hm⟩;have T:=Nq hm;clear hm)
      |(go_at_call 101;refine (Y.o d a2 c2 (cN T.o) (aZ T.o)).mono ?_;rintro e o ⟨t,B,rfl,K,M,Q,O,P⟩;have H3:=Nq K;have F3:=Nq M;have O3:=Nq Q;have K3:=Nq O;have M3:=Nq P;clear K M Q O P))
     all_goals
      have J:=Nq (s.o.af (aZ T.o))
      have V:Hid (Sl o 3 (SV g m I) m ((dz 0 y).map (Value.int .i64))):=ak.o d o J.o K3.o
      go_wp2_with (at_builtin;refine ax rfl (.tmp 57) (.tmp 59) 33 rfl 3 i3 (IV 0) 8 OY ao aq ap an rfl (by decide) (SV g m I) m _ rfl V.o (IV ((bj y:Nat):Int)) rfl rfl (by omega) ?_;intro z D C hs G H;have X:=Nq hs;have S:=Nq G;have Z:=Nq H;clear hs G H)
      have U:Hid (WI w0 C q (SV z (m+1) D) (SV t (i+1) B) F (i+1) (y++[f])):=ah.o d o C t B z D J.o H3.o F3.o O3.o K3.o M3.o X.o S.o Z.o
      go_roundw
      exact ⟨i+1,by omega,by go_num,_,_,_,_,_,rfl,U⟩
      simp [intOf];omega
 ·obtain rfl:n=i:=by omega
  go_wp2_with fail;go_ret2;exact .inr ⟨sa,j,I,vo,l,rfl,hw.o⟩
end
def Oh:=@List.getElem?_map
def OU:=@Option.getD_some
def O7:=@List.getElem?_eq_none
def Qu:=@Go.World.frozen?_alloc_at
def F5{l:List Fm}(h:0<l.length):0<bj l:=by
 cases l with
 |nil=>simp at h
 |cons f r=>have:=Fm.bF f;show 0<Fm.size f+bj r;omega
def G1{F:List (Int×Int)}{l:List Fm}(h:F.map ir=fy l)(e:l.length≠1):∀f,¬jr F f:=by
 intro f d;have a:=Fm.nJ f [] [];rw [Om,<-d.1,h]at a;have b:=wN l [] [];rw [Om,a]at b;have c:[f]=l.reverse:=by simpa [Fm.run]using b
 have:=P5 List.length c;simp at this;omega
def JC:∀f,¬jr [] f:=λf b=>by have a:=P5 List.length b.1;rw [Fm.de]at a;have:=Fm.bF f;simp at a;omega
def Ey(F:List (Int×Int))(n:Nat)(w:WD)(e:Ending)(d:WD):Prop:=
 (∃b:Int,e=RT (.tuple #[SN,IV b])/\b≠0/\BW w d/\∀f,¬jr F f)\/
 ∃f a c,e=RT (.tuple #[.slice a n c,IV 0])/\jr F f/\aE .i64 3 w d (.slice a n c) (kL 0 f)
def yD(a:OA)(n c:Nat)(F:List (Int×Int))(w:WD)(hF:bB w a n F)(J:n<=1000000):
 CL 70 #[.slice a n c] w (Ey F n w):=by
 have d:Hid (F.length=n):=hF.1
 by_cases v:n=0
 ·subst v;have q:Hid (F=[]):=OV d.o
  go_enter Tryz.func70,Tryz.ntmps70;go_wp2;go_ret2;exact .inl ⟨4,rfl,by decide,Nx _ _,by rw [q.o];exact JC⟩
 ·have R:((n:Int)==0)=false:=NC.2 (by omega);have S:(n==0)=false:=NC.2 v
  have y:BW w (w.alloc (.cells #[SN] 33)):=(Nx _ w).alloc (Nz _) _;have A:(w.alloc (.cells #[SN] 33)).cell? (AD w.heap.size 0)=some (SN):=NV (w:=w) _ 33 w.heap.size 0 rfl;have b:Hid (WI w (w.alloc (.cells #[SN] 33)) w.heap.size (SN) (SN) F 0 []):=
   ⟨Ox _ _ _ _,A,Qu _ _ _ _ rfl,Ox _ _ _ _,by simp [Value.ownBlock],by simp [Value.ownBlock],by simp [Value.ownBlock],by simp [Value.ownBlock],by simp [Value.ownBlock],Nz _,y,rfl,by simp⟩
  have C:=Nq (Jn a n c F w.heap.size w _ hF J b.o);clear y A b hF;go_enter Tryz.func70,Tryz.ntmps70;go_upto_region 4 with(fail);generalize w.alloc (.cells #[SN] 33)=U at *;go_wp2_with (go_at_call 100;refine C.o.mono ?_;rintro e V (⟨H,rfl,s,z,g⟩|⟨P,N,Q,T,l,rfl,hw⟩);all_goals (first|(have h:=Nq g;have B:=Nq z;clear z g)|(have b:=Nq hw;have m:N=l.length:=(dT hw.my).2.2;have i:=Nq m;have o:=hw.size (by rw [d.o];exact Nz _);have j:=Nq o;obtain ⟨L,M,K,-⟩:=hw.o.shape;subst K;have r:=hw.cell;clear hw m o)))
  ·go_ret2;exact .inl ⟨H,rfl,s,B.o,h.o⟩
  ·rename_i I;have u:F.take n=F:=Oe (by rw [d.o];exact Nz _)
   have k:=b.o.Mc;rw [u]at k;go_ret2;exact .inl ⟨5,rfl,by decide,b.o.aM,G1 k (by have:=i.o;omega)⟩
  ·rename_i I;have u:F.take n=F:=Oe (by rw [d.o];exact Nz _)
   have k:=b.o.Mc;rw [u]at k;go_ret2;right;have t:l.length=1:=by
    have p:=j.o;have O:=i.o;rcases OT l.length with x|x
    ·have:l=[]:=OV x;rw [this]at p
     have:bj []=0:=rfl;omega
    ·omega
   obtain ⟨f,rfl⟩:=List.length_eq_one_iff.1 t;have p:=b.o.o;have D:fy [f]=Fm.enc f:=Om _;have E:fL 0 [f]=kL 0 f:=Om _;have G:(kL 0 f).length=n:=by rw [uS];have:=j.o;exact this
   rw [E]at p;exact ⟨f,L,M,rfl,⟨k.trans D,b.o.ok f (by simp)⟩,by unfold aE;rw [G];exact ⟨p,b.o.aM,b.o.A9⟩⟩
def ER(a:OA)(n c:Nat)(F:List (Int×Int))(w:WD)(hF:bB w a n F)(u:n<=4611686018427387903):
 CL 38 #[.slice a n c] w λe t=>∃g:Int,e=RT (IV g)/\BW w t/\((g=0/\n<=24/\∃f,jr F f)\/(g≠0/\(24<n\/∀f,¬jr F f))):=by
 by_cases h:24<n
 ·have r:(24:Int)<(n:Int):=by omega
  go_enter Tryz.func38,Tryz.ntmps38;go_wp2;go_ret;exact ⟨5,rfl,Nx _ _,.inr ⟨by decide,.inl h⟩⟩
 ·have r:¬(24:Int)<(n:Int):=by omega
  have s:n<=24:=by omega
  have p:=Nq (yD a n c F w hF (by omega));clear hF;go_enter Tryz.func38,Tryz.ntmps38;go_wp2_with (go_at_call 70;refine p.o.mono ?_;rintro e y h;rcases h with⟨g,rfl,j,k,b⟩|⟨f,v,x,rfl,l,m⟩;all_goals (first|(have d:=Nq b;have o:=Nq k;clear k b)|(have i:=Nq l;have q:=Nq m;clear l m)))
  ·go_ret;exact ⟨g,rfl,o.o,.inr ⟨j,.inr d.o⟩⟩
  ·go_ret;exact ⟨0,rfl,aZ q.o,.inl ⟨rfl,s,f,i.o⟩⟩
def kZ(a:OA)(n c:Nat)(F:List (Int×Int))(f:Fm)(w:WD)(hF:bB w a n F)(r:n<=1000000)(i:jr F f):
 CL 72 #[.slice a n c] w λe s=>∃j k,e=RT (.slice j n k)/\aE .i64 3 w s (.slice j n k) (kL 0 f):=by
 have m:=Nq (yD a n c F w hF r)
 have b:=Nq i
 clear hF i
 go_enter Tryz.func72,Tryz.ntmps72
 go_wp2_with (go_at_call 70;refine m.o.mono ?_;rintro e v h;rcases h with⟨t,rfl,q,u,g⟩|⟨p,j,k,rfl,i,l⟩;all_goals (first|(exact absurd b.o (g f))|(have d:=Nq i;have o:=Nq l;clear i l)))
 go_ret
 have e:p=f:=Fm.uK (d.o.1.symm.trans b.o.1)
 rw [<-e]
 exact ⟨j,k,rfl,o.o⟩
def zx{F:List (Int×Int)}{f x:Fm}{p:Nat}(c:jr F f)(d:(Fm.aQ f)[p]? =some x):ir (F.getD p (0,0))=Fm.aO x/\p<F.length:=by
 have a:(F.map ir)[p]? =some (Fm.aO x):=by rw [c.1];unfold Fm.enc;rw [Oh,d];rfl
 rw [Oh]at a;have b:p<F.length:=by by_cases b:p<F.length;exact b;rw [O7 (by omega)]at a;cases a
 refine ⟨?_,b⟩;rw [Ny b]at a;rw [Nw,Ny b];exact Option.some.inj a
def CC{F:List (Int×Int)}{f x:Fm}{p:Nat}(a:jr F f)(b:(Fm.aQ f)[p]? =some x):(F.getD p (0,0)).1=(Fm.aO x).1:=by have h:=(zx a b).1;rw [<-h];unfold ir;split<;>rfl
def pj{F:List (Int×Int)}{f:Fm}(a:jr F f):F.length=Fm.size f:=by have:=P5 List.length a.1;rw [Fm.de]at this;simpa using this
def I7{a x:Fm}(h:Fm.One a x):tk (Fm.aO x).1=1:=by cases h<;>simp [Fm.aO,tk]
def I8{a b x:Fm}(h:Fm.gC a b x):tk (Fm.aO x).1=2:=by cases h<;>simp [Fm.aO,tk]
def Em{x:Fm}(h:Fm.nN x):tk (Fm.aO x).1=0:=by cases h<;>simp [Fm.aO,tk]
def ql:Fm->Nat->Int
 | .neg _,p| .cM _,p| .fin _,p| .ep _,p=>(p:Int)-1
 | .and _ b,p| .or _ b,p| .imp _ b,p| .dw _ b,p| .rel _ b,p=>(p:Int)-1-Fm.size b
 |_,_=>-1
def tJ:Fm->Nat->Int
 | .and _ _,p| .or _ _,p| .imp _ _,p| .dw _ _,p| .rel _ _,p=>(p:Int)-1
 |_,_=>-1
def gd(a:OA)(n c:Nat)(F:List (Int×Int))(f x:Fm)(p:Nat)(w:WD)(hF:bB w a n F)(hn:n<=1000000)(u:jr F f)(m:(Fm.aQ f)[p]? =some x):
 CL 166 #[.slice a n c,IV p] w λe N=>e=RT (.tuple #[IV (ql x p),IV (tJ x p)])/\BW w N:=by
 have I:=Nq (kZ a n c F f w hF hn u)
 have L:p<n:=by rw [<-hF.1];exact (zx u m).2
 have aa:(p:Int)<(n:Int):=by omega
 have t0:decide ((p:Int)<0)=false:=Rc (by omega)
 have t1:decide ((n:Int)<=(p:Int))=false:=Rc (by omega)
 have t2:decide (n<=p)=false:=Rc (by omega)
 have t3:¬n<=p:=by omega
 obtain ⟨-,Z|⟨b,ab,rfl,H⟩⟩:=hF
 omega
 have t:=(H p L).1
 rw [CC u m]at t
 have HX:=Nq m
 have U:=Nq u
 clear H
 have z:∀k:Int,tk (Fm.aO x).1=k->Hid (∀W,CL 131 #[IV (Fm.aO x).1] W λe N=>e=RT (IV k)/\N=W):=λk hk W=>by have:=lM (Fm.aO x).1 W;rwa [hk]at this
 rcases Fm.Hu x with h|⟨x1,h⟩|⟨x1,G,h⟩
 have i:=z 0 (Em h)
 have j:Hid (ql x p=-1/\tJ x p=-1):=by cases h<;>exact ⟨rfl,rfl⟩
 clear z h m u
 generalize (Fm.aO x).1=S at *
 go_enter Tryz.func166,Tryz.ntmps166
 go_wp2_with (first|(go_at_call 72;refine I.o.mono ?_;rintro e y ⟨v,A,rfl,d⟩;have B:=Nq d;have O:=((aZ d).cell (Nr w _ t)).trans t;clear d)|(go_at_call 131;refine (i.o _).mono ?_;rintro e T ⟨rfl,rfl⟩))
 go_ret2
 exact ⟨by rw [j.o.1,j.o.2];rfl,aZ B.o⟩
 have i:=z 1 (I7 h)
 have C:=(Fm.fR h f p m).1
 have j:Hid (ql x p=(p:Int)-1/\tJ x p=-1):=by cases h<;>exact ⟨rfl,rfl⟩
 clear z h m u
 generalize (Fm.aO x).1=S at *
 go_enter Tryz.func166,Tryz.ntmps166
 go_wp2_with (first|(go_at_call 72;refine I.o.mono ?_;rintro e y ⟨v,A,rfl,d⟩;have B:=Nq d;have O:=((aZ d).cell (Nr w _ t)).trans t;clear d)|(go_at_call 131;refine (i.o _).mono ?_;rintro e T ⟨rfl,rfl⟩))
 go_ret2
 exact ⟨by rw [j.o.1,j.o.2];go_num,aZ B.o⟩
 have i:=z 2 (I8 h)
 obtain ⟨C,D,-⟩:=Fm.dL h f p m
 have j:Hid (ql x p=(p:Int)-1-Fm.size G/\tJ x p=(p:Int)-1):=by cases h<;>exact ⟨rfl,rfl⟩
 have E:=I2 f 0 (p-1) G D
 have s:Hid ((kL 0 f).getD (p-1) 0=(p:Int)-Fm.size G):=by show _=_;rw [Nw,E];simp only [OU];omega
 obtain ⟨r,R⟩:=EX (Fm.size G)
 have M:=Fm.bF G
 have tp:(0:Int)<=(p:Int)-1:=by omega
 have ac:(p:Int)-1<(n:Int):=by omega
 rw [R]at s j C M
 clear z h m u E D R
 generalize (Fm.aO x).1=S at *
 obtain ⟨l,rfl⟩:∃l,p=l+1:=⟨p-1,by omega⟩
 have K:l<n:=by omega
 have Q:(l:Int)<(n:Int):=by omega
 have V:Hid (l+1-1=l):=by show _=_;omega
 rw [V.o]at s
 have q:Hid (∀y v A,aE .i64 3 w y (.slice v n A) (kL 0 f)->∃g,v=some (AD g 0)/\y.cell? (AD g l)=some (IV ((l:Int)+1-(r:Int)))):=λy v A d=>by
  obtain ⟨-,Z|⟨g,o,rfl,H⟩⟩:=cN d;omega;have P:=d.1;have hl:(kL 0 f).length=n:=eV d;rw [hl]at P;obtain ⟨a',c',Y,J⟩:=P.shape;cases Y
  obtain ⟨g',X,-,-⟩:=J 0 (by omega);cases X
  have:=H l K;rw [s.o,Od]at this;refine ⟨g,rfl,?_⟩;rw [this];simp
 go_enter Tryz.func166,Tryz.ntmps166
 go_wp2_with (first|(go_at_call 72;refine I.o.mono ?_;rintro e y ⟨v,A,rfl,d⟩;have B:=Nq d;obtain ⟨g,rfl,cg⟩:=q.o y v A d;have O:=((aZ d).cell (Nr w _ t)).trans t;clear d)|(go_at_call 131;refine (i.o _).mono ?_;rintro e T ⟨rfl,rfl⟩))
 go_ret2
 exact ⟨by rw [j.o.1,j.o.2];go_num,aZ B.o⟩
def OD:=@List.length_filter_le
def OL:=@List.filter_append
def OZ:=@List.range_succ
def QF:=@Go.Proofs.Tryz.underlying22
def RG:=@Go.wpList_append_own_at
def RO:=@Nat.mod_two_eq_zero_or_one
def Tryz.zu:(Tryz.prog.info? 32).map (λi=>(i.zero,i.size,i.bytes))=some (some (.agg #[IV 0,IV 0]),2,16):=by kernel_rfl
def bX:List (Int×Int)->List Value
 |[]=>[]
 |x::r=>IV x.1::IV x.2::bX r
def eK:∀l,(bX l).length=l.length*2
 |[]=>rfl
 |x::r=>by show(bX r).length+1+1=(r.length+1)*2;rw [eK r];omega
def iM:∀l m,bX (l++m)=bX l++bX m
 |[],m=>rfl
 |x::r,m=>by show _::_::bX (r++m)=_;rw [iM r m];rfl
def gy:∀(l:List (Int×Int))(j:Nat),j<l.length->(bX l)[j*2]? =some (IV (l.getD j (0,0)).1)/\(bX l)[j*2+1]? =some (IV (l.getD j (0,0)).2)
 |[],j,h=>by simp at h
 |x::r,0,_=>⟨rfl,rfl⟩
 |x::r,j+1,h=>by
  have b:j<r.length:=by simpa using h
  obtain ⟨c,d⟩:=gy r j b;have a:(j+1)*2=j*2+1+1:=by omega
  rw [a];exact ⟨c,d⟩
def iN:∀(l:List (Int×Int)),∀u∈bX l,u.oneCell'=true
 |[],u,h=>by cases h
 |x::r,u,h=>by rcases N8.1 h with rfl|h;rfl;rcases N8.1 h with rfl|h;rfl;exact iN r u h
structure bN (w a:WD) (v:Value) (n:Nat) (F:List (Int×Int)):Prop where
 cK:a.ownsRow 0 32 2 v n (bX F)
 bC:F.length=n
 aM:BW w a
 dJ:∀b,v.ownBlock=some b->w.heap.size<=b
def bm{S:Nat->Prop}{w i:WD}{e:TypeId}{a:Nat}{v:Value}{n:Nat}{j:List Value}(h:w.ownsRow 0 e a v n j)(m:aj S w i)(o:∀g,v.ownBlock=some g->¬S g):i.ownsRow 0 e a v n j:=by refine ⟨h.1,?_⟩;rcases h.2 with k|⟨g,c,d,rfl,l,f,b⟩;exact .inl k;exact .inr ⟨g,c,d,rfl,l,by rw [m.block g (Nu.1 f).1 (o g rfl)];exact f,b⟩
def bw{w:WD}{e:TypeId}{b:Nat}{v:Value}{n:Nat}{k:List Value}(h:w.ownsRow 0 e b v n k):∃a c,v=.slice a n c:=by rcases h.2 with⟨d,j⟩|⟨g,f,i,d,_⟩;exact ⟨none,0,by rw [d,j]⟩;exact ⟨_,_,d⟩
def bN.nil(w:WD):bN w w (SN) 0 []:=⟨Ox _ _ _ _,rfl,Nx _ _,λb e=>by cases e⟩
def bN.ah{w k:WD}{a:OA}{n c:Nat}{F:List (Int×Int)}(h:bN w k (.slice a n c) n F):bB k a n F:=by refine ⟨h.bC,?_⟩;rcases h.cK.2 with⟨_,o⟩|⟨b,l,m,e,i⟩;exact .inl o;injection e with d f e3;subst d;right;refine ⟨b,0,rfl,λj p=>?_⟩;have g:=h.cK;obtain ⟨d,f⟩:=gy F j (by rw [h.bC];exact p);refine ⟨?_,?_⟩;rw [Od,OX (size:=2) g (j*2) (by omega)];exact d;rw [Od,OX (size:=2) g (j*2+1) (by omega)];exact f
def gn{K w:WD}{z:Array Oper}{f:List Oper}{o:Oper}{a:Act}{Q:Exit->Act->WD->Prop}(D:o.guard=none)(s x:Operand)
 (U:o.op=.call {callee:=.builtin .append,args:=#[s,x],argTypes:=#[22,22]})
 (v:Value) (n:Nat) (F:List (Int×Int)) (V:a.eval s=v) (i:bN K w v n F)
 (A:Addr) (m c:Nat) (G:List (Int×Int)) (W:a.eval x=.slice (some A) m c) (y:bB w (some A) m G) (J:n+m<=1000000000)
 (h:∀q r p,bN K p (.slice q (n+m) r) (n+m) (F++G)->aj (λk=>v.ownBlock=some k) w p->(∀b,(Value.slice q (n+m) r).ownBlock=some b->v.ownBlock=some b\/w.heap.size<=b)->wpList Tryz.prog z Q f (a.put o.dst (.slice q (n+m) r)) p):
 wpList Tryz.prog z Q (o::f) a w:=by
 obtain ⟨I,S,X,H,P⟩:=Ol Tryz.zu
 have l:∀j u,(bX G)[j]? =some u->w.cell? (A.add j)=some u:=by
  intro j u g;have E:j<(bX G).length:=(NK.1 g).1;rw [eK,y.1]at E;rcases y.2 with Z|⟨b,Y,e,R⟩;omega;cases e
  obtain ⟨L,M⟩:=R (j/2) (by omega);obtain ⟨N,O⟩:=gy G (j/2) (by rw [y.1];omega);rw [O4];rcases RO j with B|B;have e:j=j/2*2:=by omega
  rw [e]at g;rw [N]at g;rw [e,<-g];exact L;have e:j=j/2*2+1:=by omega
  rw [e]at g;rw [O]at g;rw [e,<-g,<-Qe];exact M
 refine RG w D s x 22 U 0 32 I (.agg #[IV 0,IV 0]) 2 16 QF S X H P rfl (by decide) v n (bX F) V i.cK A m c (bX G) W (by rw [eK,y.1]) l (iN G) (by unfold maxLen;omega) (by omega) (NS _) ?_
 intro v' p B t _ d
 have C:aj (λk=>v.ownBlock=some k) w p:=⟨t.os,t.tape,t.output,t.size,λk C J=>t.block k C (λe=>J e.symm)⟩
 obtain ⟨q,r,rfl⟩:=bw B
 refine h q r p ⟨by rw [iM];exact B,by rw [NH,i.bC,y.1],i.aM.trans (C.af i.aM.size (λk T e=>by have:=i.dJ k e;omega)),λb e=>?_⟩ C (λb e=>?_)
 rcases d with d|d
 rw [d]at e;exact i.dJ b e
 rw [d]at e;cases e;exact i.aM.size
 rcases d with d|d
 rw [d]at e;exact .inl e
 rw [d]at e;cases e;exact .inr (Nz _)
def bN.xF(w:WD)(a n:Int):bB (w.alloc (.cells #[IV a,IV n] 32)) (some (AD w.heap.size 0)) 1 [(a,n)]:=by
 refine ⟨rfl,.inr ⟨_,0,rfl,λi b=>?_⟩⟩;obtain rfl:i=0:=by omega
 exact ⟨NV (w:=w) _ 32 w.heap.size 0 rfl,NV (w:=w) _ 32 w.heap.size 1 rfl⟩
def bN.alloc{a w:WD}{v:Value}{n:Nat}{F:List (Int×Int)}(h:bN a w v n F)(o:Obj):bN a (w.alloc o) v n F:=
 ⟨bm h.cK ((aj.refl (λ_=>False) w).alloc o) (λ_ _ h=>h),h.bC,h.aM.alloc h.aM.size o,h.dJ⟩
def bN.empty(w:WD):bN w (w.alloc (.cells #[] 32)) (SV w.heap.size 0 0) 0 []:=
 ⟨QR (e:=32) (size:=2) w #[] 0 (NS _) (by simp [maxLen]) rfl,rfl,(Nx _ w).alloc (Nz _) _,λb e=>by cases e;exact Nz _⟩
def bN.from{c w d:WD}{v:Value}{n:Nat}{F:List (Int×Int)}(h:bN w d v n F)(a:BW c w):bN c d v n F:=
 ⟨h.cK,h.bC,a.trans (h.aM.mono a.size),λb e=>N5 a.size (h.dJ b e)⟩
def vv(a:OA)(n c:Nat)(F:List (Int×Int))(w:WD)(hF:bB w a n F)(b:a=none->n=0/\c=0)(q:n<=1000000000):
 CL 8 #[.slice a n c] w λe l=>∃d f,e=RT (.slice d n f)/\bN w l (.slice d n f) n F:=by
 cases a with
 |none=>
  obtain ⟨rfl,rfl⟩:=b rfl
  have g:Hid (F=[]):=OV hF.1
  have j:=λW=>Pq (P:=Tryz.prog) W 22 32 none 0 0 0 0 QF
  go_enter Tryz.func8,Tryz.ntmps8
  go_wp2
  go_ret
  exact ⟨none,0,rfl,by rw [g.o];exact bN.nil w⟩
 |some i=>
  have j:=λW=>Pq (P:=Tryz.prog) W 22 32 (some i) n c 0 0 QF
  have g:Hid (bB (w.alloc (.cells #[] 32)) (some i) n F):=hF.af ((Nx _ w).alloc (Nz _) _)
  have m:=Nq (bN.empty w)
  clear hF
  go_enter Tryz.func8,Tryz.ntmps8
  go_wp2_with (at_builtin;refine gn rfl (.tmp 5) (.tmp 6) rfl _ 0 [] rfl m.o i n c F rfl g.o (by omega) ?_;intro d f l k o p;have h:=Nq k;clear k o p)
  go_ret
  have:=h.o
  rw [Od]at this
  exact ⟨d,f,rfl,this⟩
def DV{F:List (Int×Int)}{f:Fm}(b:jr F f)(n:Int):jr (F++[(4,n)]) (.neg f):=by refine ⟨?_,λx a k e=>?_⟩;rw [Oy,b.1,Fm.nC Fm.One.neg];rfl;rw [Fm.One.neg.aQ]at a;rcases NY.1 a with a|a;exact b.2 x a k e;rw [Nv]at a;subst a;cases e
def Kg(a:OA)(n c:Nat)(F:List (Int×Int))(f:Fm)(w:WD)(hF:bB w a n F)(d:a=none->n=0/\c=0)(G:n<=1000000)(u:jr F f):
 CL 40 #[.slice a n c] w λe v=>∃i j,e=RT (.slice i (n+1) j)/\bN w v (.slice i (n+1) j) (n+1) (F++[(4,0)]):=by
 have A:=Nq (kZ a n c F f w hF G u)
 have y:0<n:=by rw [<-hF.1,pj u];exact Fm.bF f
 have q:Hid (∀W,BW w W->CL 8 #[.slice a n c] W λe v=>∃i j,e=RT (.slice i n j)/\bN W v (.slice i n j) n F):=λW h=>vv a n c F W (hF.af h) d (by omega)
 have t:Hid (∀l k p,aE .i64 3 w l (.slice k n p) (kL 0 f)->∃m,k=some m):=λl k p b=>by obtain ⟨-,K|⟨g,o,rfl,-⟩⟩:=cN b;omega;exact ⟨_,rfl⟩
 have D:=λ(W:WD)(m:Addr)(n c:Nat)=>Pq (P:=Tryz.prog) W 33 3 (some m) n c 0 0 OY
 clear hF u d
 go_enter Tryz.func40,Tryz.ntmps40
 go_wp2_with (first
  |(go_at_call 72;refine A.o.mono ?_;rintro e l ⟨k,p,rfl,b⟩;have x:=Nq (aZ b);obtain ⟨m,rfl⟩:=t.o l k p b;clear b)
  |(go_at_call 8;refine (q.o l x.o).mono ?_;rintro e z ⟨I,J,rfl,b⟩;have r:=Nq b;clear b)
  |(at_builtin;refine gn rfl (.tmp 7) (.tmp 9) rfl _ n F rfl (r.o.alloc _) (AD z.heap.size 0) 1 1 [(4,0)] rfl (bN.xF z 4 0) (by omega) ?_;intro B C L b E H;have s:=Nq b;clear b E H))
 go_ret
 exact ⟨B,C,rfl,s.o.from x.o⟩
def Jr:Fm->Bool| .dw _ _=>true|_=>false
def dG(f:Fm)(k:Nat):List Int:=((List.range k).filter λp=>((Fm.aQ f)[p]?.map Jr).getD false).map λ(p:Nat)=>(p:Int)
def Gp(f:Fm)(k:Nat)(x:Fm)(a:(Fm.aQ f)[k]? =some x):dG f (k+1)=dG f k++(if Jr x then [(k:Int)]else []):=by unfold dG;rw [OZ,OL,Oy];cases h:Jr x<;>simp [a,h]
def BJ(f:Fm)(k:Nat):(dG f k).length<=k:=by unfold dG;rw [NU];exact N5 (OD _ _) (by simp)
def Ly(x:Fm):Jr x=decide ((Fm.aO x).1=9):=by cases x<;>simp [Jr,Fm.aO]
def wX(a:OA)(n c:Nat)(F:List (Int×Int))(f:Fm)(w:WD)(hF:bB w a n F)(U:n<=1000000)(p:jr F f):
 CL 75 #[.slice a n c] w λe X=>∃K m L,e=RT (.slice K m L)/\aE .i64 3 w X (.slice K m L) (dG f n):=by
 obtain ⟨V,B,H,D,A⟩:=Ol Tryz.ed
 have R:=Nq (kZ a n c F f w hF U p)
 have r:=Nq hF
 have s:=Nq p
 have t:Hid (Fm.size f=n):=(pj p).symm.trans hF.1
 clear hF p
 go_enter Tryz.func75,Tryz.ntmps75
 go_wp2_with (go_at_call 72;refine R.o.mono ?_;rintro e Y ⟨sa,sc,rfl,h⟩;have I:=Nq (aZ h);clear h)
 have q:=Nq (r.o.af I.o)
 go_loopw [3,8] (λv x wr=>∃k:Nat,k<=n/\x=IV k/\Hid (aE .i64 3 Y wr v (dG f k))) (λ_ x _=>n-(intOf x).toNat)
 exact ⟨0,NS _,rfl,iZ _ _ _⟩
 obtain ⟨k,hk,rfl,h⟩:=hrel
 obtain ⟨S,T,N,-⟩:=lB h.o
 have E:=BJ f k
 by_cases C:k<n
 have P:(k:Int)<(n:Int):=by omega
 obtain ⟨-,h0|⟨b,W,rfl,O⟩⟩:=q.o.af (aZ h.o)
 omega
 have M:=(O k C).1
 obtain ⟨x,G⟩:∃x,(Fm.aQ f)[k]? =some x:=⟨_,Ny (by have:=t.o;unfold Fm.size at this;omega)⟩
 rw [CC s.o G]at M
 have g:=Nq (Gp f k x G)
 have J:=Nq h.o.1
 have d:=Ly x
 obtain ⟨m,j⟩:=EX ((dG f k).length)
 have u:=Nq j
 rw [j]at J N E
 clear O G j
 by_cases i:(Fm.aO x).1=9
 rw [i]at M d
 have z:Hid (dG f (k+1)=dG f k++[(k:Int)]):=by have:=g.o;rw [d]at this;exact this
 clear d i g
 go_wp2_with (at_builtin;refine ax rfl (.tmp 17) (.tmp 19) 33 rfl 3 V (IV 0) 8 OY B H D A rfl (by decide) _ _ _ rfl J.o _ rfl rfl (by omega) ?_;intro g1 Z w4 Q l o;have y:=Nq (dA h.o u.o Q l o);clear Q l o)
 go_roundw
 exact ⟨k+1,by omega,by go_num,by rw [z.o];exact y.o⟩
 simp [intOf];omega
 have z:Hid (dG f (k+1)=dG f k):=by have:=g.o;rw [d,Rc i]at this;show _=_;rw [this];simp
 have t0:((Fm.aO x).1==9)=false:=NC.2 i
 clear d g
 generalize (Fm.aO x).1=op at *
 go_wp2_with fail
 go_roundw
 exact ⟨k+1,by omega,by go_num,by rw [z.o];exact h⟩
 simp [intOf];omega
 obtain rfl:n=k:=by omega
 subst N
 go_wp2_with fail
 go_ret
 exact ⟨S,_,T,rfl,iJ I.o h.o⟩
section
def Oz:=@List.length_singleton
def Rp:=@Go.run_append_own_at
def wu{w0 w:WD}{o:Oper}{a:Act}{K:Act->WD->Prop}{Q:Exit->Act->WD->Prop}(s x:Operand)
 (T:o.op=.call {callee:=.builtin .append,args:=#[s,x],argTypes:=#[22,22]})
 (v:Value) (n:Nat) (F:List (Int×Int)) (V:a.eval s=v) (g:bN w0 w v n F)
 (z:Addr) (m c:Nat) (G:List (Int×Int)) (W:a.eval x=.slice (some z) m c) (y:bB w (some z) m G) (H:n+m<=1000000000)
 (h:∀q r l,bN w0 l (.slice q (n+m) r) (n+m) (F++G)->aj (λk=>v.ownBlock=some k) w l->(∀b,(Value.slice q (n+m) r).ownBlock=some b->v.ownBlock=some b\/w.heap.size<=b)->K (a.put o.dst (.slice q (n+m) r)) l):aY Tryz.prog o a w K Q:=by
 obtain ⟨E,R,X,D,N⟩:=Ol Tryz.zu
 have i:∀j u,(bX G)[j]? =some u->w.cell? (z.add j)=some u:=by
  intro j u f;have C:j<(bX G).length:=(NK.1 f).1;rw [eK,y.1]at C;rcases y.2 with Z|⟨b,Y,e,O⟩;omega;cases e
  obtain ⟨I,J⟩:=O (j/2) (by omega);obtain ⟨L,M⟩:=gy G (j/2) (by rw [y.1];omega);rw [O4];rcases RO j with A|A;have e:j=j/2*2:=by omega
  rw [e]at f;rw [L]at f;rw [e,<-f];exact I;have e:j=j/2*2+1:=by omega
  rw [e]at f;rw [M]at f;rw [e,<-f,<-Qe];exact J
 constructor
 obtain ⟨v',l,U,A,t,_,d⟩:=Rp (P:=Tryz.prog) w 0 22 o.type 32 E (.agg #[IV 0,IV 0]) 2 16 QF R X D N rfl (by decide) v n (bX F) g.cK z m c (bX G) (by rw [eK,y.1]) i (iN G) (by unfold maxLen;omega) (by omega) (NS _)
 unfold Oper.wp execOp
 simp only [T,resolve,invoke,builtin,P8,Qt,Po,PE,NQ,NZ,V,W,U]
 have B:aj (λk=>v.ownBlock=some k) w l:=⟨t.os,t.tape,t.output,t.size,λk B H=>t.block k B (λe=>H e.symm)⟩
 obtain ⟨q,r,rfl⟩:=bw A
 refine h q r l ⟨by rw [iM];exact A,by rw [NH,g.bC,y.1],g.aM.trans (B.af g.aM.size (λk S e=>by have:=g.dJ k e;omega)),λb e=>?_⟩ B (λb e=>?_)
 rcases d with d|d
 rw [d]at e;exact g.dJ b e
 rw [d]at e;cases e;exact g.aM.size
 rcases d with d|d
 rw [d]at e;exact .inl e
 rw [d]at e;cases e;exact .inr (Nz _)
structure NW (w0 w:WD) (p:Nat) (vf vs vo:Value) (m:Nat) (G:List (Int×Int)):Prop where
 c0:w.cell? (AD p 0)=some vf
 c1:w.cell? (AD p 1)=some vs
 c2:w.cell? (AD p 2)=some vo
 fr:w.frozen? (AD p 2)=false
 o:bN w0 w vo m G
 ne:vo.ownBlock≠some p
 dJ:w0.heap.size<=p
section
variable {w0 w w1:WD} {p:Nat} {vf vs vo:Value} {m:Nat} {G:List (Int×Int)}
def NW.lt(h:NW w0 w p vf vs vo m G):p<w.heap.size:=Nr w _ h.c0
def NW.af(h:NW w0 w p vf vs vo m G)(a:BW w w1):NW w0 w1 p vf vs vo m G:=by have c:=h.lt;refine ⟨(a.cell c).trans h.c0,(a.cell c).trans h.c1,(a.cell c).trans h.c2,?_,⟨bm h.o.cK (aj.aF a) (λb e s=>?_),h.o.bC,h.o.aM.trans (a.mono h.o.aM.size),h.o.dJ⟩,h.ne,h.dJ⟩;exact (N7 ((aj.aF a).block p c (λe=>OI _ (NL c e)))).trans h.fr;have:=(Tk h.o.cK b e).2;omega
def NW.MM(h:NW w0 w p vf vs vo m G)(a:aj (λk=>vo.ownBlock=some k) w w1):FZ w1 p 2:=(N7 (a.block p h.lt h.ne)).trans h.fr
def NW.dB{c:OA}{a d:Nat}{q:List (Int×Int)}(h:NW w0 w p vf vs vo m G)(i:bN w0 w1 (.slice c a d) a q)(g:aj (λk=>vo.ownBlock=some k) w w1)(s:∀b,(Value.slice c a d).ownBlock=some b->vo.ownBlock=some b\/w.heap.size<=b):
 NW w0 (w1.setCell (AD p 2) (.slice c a d)) p vf vs (.slice c a d) a q:=by
 have l:aj (λk=>k=p) w1 (w1.setCell (AD p 2) (.slice c a d)):=(aj.refl (λk=>k=p) w1).setCell (p:=(AD p 2)) (λ_=>rfl) _
 have f:(Value.slice c a d).ownBlock≠some p:=λe=>by rcases s p e with j|j;exact h.ne j;exact OI _ (NL h.lt j)
 have n:((AD p 2):Addr)≠(AD p 0):=λe=>by cases e
 have o:((AD p 2):Addr)≠(AD p 1):=λe=>by cases e
 refine ⟨?_,?_,Oj (h:=g.aq h.c2 h.ne) ..,?_,⟨bm i.cK l (λb e r=>f (by rw [e,r])),i.bC,i.aM.setCell h.dJ _,i.dJ⟩,f,h.dJ⟩
 rw [Oc (h:=n) ..];exact g.aq h.c0 h.ne
 rw [Oc (h:=o) ..];exact g.aq h.c1 h.ne
 rw [OH];exact h.MM g
def NW.aK(w:WD)(vf vs:Value):NW w (w.alloc (.cells #[vf,vs,SN] 145)) w.heap.size vf vs (SN) 0 []:=
 ⟨NV (w:=w) _ 145 w.heap.size 0 rfl,NV (w:=w) _ 145 w.heap.size 1 rfl,NV (w:=w) _ 145 w.heap.size 2 rfl,Qu _ _ _ _ rfl,
  ⟨Ox _ _ _ _,rfl,(Nx _ w).alloc (Nz _) _,λb e=>by cases e⟩,(λe=>by cases e),Nz _⟩
end
def j8(b:Bool)(x y:Int)(w:WD):CL 133 #[.bool b,IV x,IV y] w λe a=>e=RT (IV (if b then y else x))/\a=w:=by
 cases b
 all_goals
  go_enter Tryz.func133,Tryz.ntmps133
  go_wp2
  go_ret
  exact ⟨rfl,rfl⟩
def jS(w0:WD)(p:Nat)(vf vs:Value)(G:List (Int×Int))(e:Ending)(a:WD):Prop:=e=RT (.tuple #[])/\∃vo m,NW w0 a p vf vs vo m G
def jY(w0 w:WD)(p:Nat)(vf vs vo:Value)(m:Nat)(G:List (Int×Int))(b:Int)(h:NW w0 w p vf vs vo m G)(d:m<=1000000):
 CL 132 #[PT p,IV b] w (jS w0 p vf vs (G++[(b,0)])):=by
 obtain ⟨k,l,j⟩:=bw h.o.cK
 subst j
 have n:=Nq h
 have r:=h.c2
 have g:=Nq (bN.xF w b 0)
 have f:Hid (BW w (w.alloc (.cells #[IV b,IV 0] 32))):=(Nx _ _).alloc (Nz _) _
 have a:=Nq (h.af f.o)
 clear h
 go_enter Tryz.func132,Tryz.ntmps132
 go_wp2_with (at_builtin;refine gn rfl (.tmp 8) (.tmp 11) rfl (.slice k m l) m G rfl a.o.o (AD w.heap.size 0) 1 1 [(b,0)] rfl g.o (by omega) ?_;intro o q u d c e;have t:=a.o.MM c;have s:=c.aq a.o.c2 a.o.ne;have i:=Nq (a.o.dB d c e);clear d c e)
 go_end0
 exact ⟨rfl,_,_,i.o⟩
structure NF (w0:WD) (a:OA) (n:Nat) (F:List (Int×Int)) (f:Fm) (b:OA):Prop where
 ah:bB w0 a n F
 MN:jr F f
 ME:aG .i64 w0 b n (kL 0 f)
 small:n<=1000000
def y5(w0:WD)(p:Nat)(a:OA)(n c:Nat)(b:OA)(d:Nat)(k:Nat)(x:Fm):Prop:=
 ∀(s:Bool)(w:WD)(vo:Value)(m:Nat)(G:List (Int×Int)),NW w0 w p (.slice a n c) (.slice b n d) vo m G->m+2*Fm.size x<=1000000->
  CL 102 #[PT p,IV k,.bool s] w (jS w0 p (.slice a n c) (.slice b n d) (G++Fm.enc (Fm.et s x)))
def fI{w0 w:WD}{p:Nat}{vf vs vo:Value}{m:Nat}{G:List (Int×Int)}(h:NW w0 w p vf vs vo m G):G.length=m:=h.o.bC
def mK(w0 w:WD)(p:Nat)(a:OA)(n c:Nat)(M:OA)(s:Nat)(F:List (Int×Int))(f x l r:Fm)(k:Nat)(q t:Bool)(L:Int)(vo:Value)(m:Nat)(G:List (Int×Int))
 (hF:NF w0 a n F f M) (R:Fm.gC l r x) (Y:(Fm.aQ f)[k]? =some x) (N:y5 w0 p a n c M s (k-1-Fm.size r) l) (S:y5 w0 p a n c M s (k-1) r)
 (h:NW w0 w p (.slice a n c) (.slice M n s) vo m G) (hm:m+2*Fm.size x<=1000000):
 CL 134 #[PT p,IV k,.bool q,.bool t,IV L] w (jS w0 p (.slice a n c) (.slice M n s) (G++(Fm.enc (Fm.et q l)++(Fm.enc (Fm.et t r)++[(L,0)])))):=by
 obtain ⟨T,hr,-⟩:=Fm.dL R f k Y
 have X:=R.size
 have D:=I2 f 0 (k-1) r hr
 have ae:=Fm.bF r
 have ad:=Fm.bF l
 have U:k<n:=by rw [<-hF.ah.1];exact (zx hF.MN Y).2
 obtain ⟨-,h0|⟨g,o,rfl,hc⟩⟩:=hF.ME
 omega
 have B:=hc (k-1) (by omega)
 rw [Nw,D]at B
 simp only [OU]at B
 obtain ⟨b,rfl⟩:∃b,k=b+1:=⟨k-1,by omega⟩
 have e0:b+1-1=b:=by omega
 rw [e0]at B N S
 have e1:(0:Int)+(b:Int)+1-(Fm.size r:Int)=(b:Int)+1-(Fm.size r:Int):=by omega
 have u:CA w0 g (o+b) (IV ((b:Int)+1-(Fm.size r:Int))):=by rw [<-e1];exact B
 have c2:=(h.o.aM.cell (Nr w0 _ u)).trans u
 have ag:(0:Int)<=(b:Int):=by omega
 have ah:(b:Int)<(n:Int):=by omega
 have d1:=h.c1
 obtain ⟨j,hj⟩:∃j:Nat,(b:Int)+1-(Fm.size r:Int)-1=(j:Int):=⟨b-Fm.size r,by omega⟩
 have C:b-Fm.size r=j:=by omega
 obtain ⟨z,hz⟩:∃z:Nat,(b:Int)+1-(Fm.size r:Int)=(z:Int):=⟨b+1-Fm.size r,by omega⟩
 rw [hz]at c2 hj
 have Z:z=j+1:=by omega
 subst Z
 rw [C]at N
 have HL:Hid (CL 102 #[PT p,IV j,.bool q] w (jS w0 p (.slice a n c) (.slice (some (AD g o)) n s) (G++Fm.enc (Fm.et q l)))):=N q w vo m G h (by omega)
 have af:=hF.small
 have ac:b<=1000000:=by omega
 have ab:j<=1000000:=by omega
 have V:=Fm.mX l q
 have W:=Fm.mX r t
 have A:Hid (G.length=m):=fI h
 have HR:Hid (∀v d J,NW w0 v p (.slice a n c) (.slice (some (AD g o)) n s) d J (G++Fm.enc (Fm.et q l))->CL 102 #[PT p,IV b,.bool t] v (jS w0 p (.slice a n c) (.slice (some (AD g o)) n s) ((G++Fm.enc (Fm.et q l))++Fm.enc (Fm.et t r)))):=λv d J hw=>by have:=fI hw;rw [NH,Fm.de,A.o]at this;exact S t v d J _ hw (by omega)
 have HF:Hid (∀y i K,NW w0 y p (.slice a n c) (.slice (some (AD g o)) n s) i K ((G++Fm.enc (Fm.et q l))++Fm.enc (Fm.et t r))->CL 132 #[PT p,IV L] y (jS w0 p (.slice a n c) (.slice (some (AD g o)) n s) (((G++Fm.enc (Fm.et q l))++Fm.enc (Fm.et t r))++[(L,0)]))):=λy i K hw=>by have:=fI hw;rw [NH,NH,Fm.de,Fm.de,A.o]at this;exact jY w0 y p _ _ i K _ L hw (by omega)
 clear N S hF Y R D hr B u hc e0 e1 T hj hz C h V W hm X U
 go_enter Tryz.func134,Tryz.ntmps134
 go_wp2_with (first
  |(go_at_call 102;refine HL.o.mono ?_;rintro e v ⟨rfl,d,J,E⟩;have O:=Nq E;clear E c2 d1 HL)
  |(go_at_call 102;refine (HR.o v d J O.o).mono ?_;rintro e y ⟨rfl,i,K,H⟩;have P:=Nq H;clear H HR)
  |(go_at_call 132;refine (HF.o y i K P.o).mono ?_;rintro e w4 ⟨rfl,aa,m4,I⟩;have Q:=Nq I;clear I))
 go_end0
 exact ⟨rfl,aa,m4,by have:=Q.o;rw [Ov,Ov]at this;exact this⟩
def AJ(w0 w:WD)(p:Nat)(a:OA)(n c:Nat)(i:OA)(j:Nat)(x y:Fm)(k:Nat)(s B:Bool)(vo:Value)(m:Nat)(G:List (Int×Int))
 (N:1<=k) (O:k<=1000000) (F:y5 w0 p a n c i j (k-1) y)
 (h:NW w0 w p (.slice a n c) (.slice i n j) vo m G) (P:m+2*Fm.size y+2<=1000000):
 CL 135 #[PT p,IV k,.bool s,.bool B] w (jS w0 p (.slice a n c) (.slice i n j) (G++([(if B then 1 else 2,0)]++(Fm.enc (Fm.et s y)++[(if B then 9 else 10,0)])))):=by
 obtain ⟨v,rfl⟩:∃v,k=v+1:=⟨k-1,by omega⟩
 have L:v+1-1=v:=by omega
 rw [L]at F
 have H:=Fm.mX y s
 have q:Hid (G.length=m):=fI h
 have J:Hid (∀b:Int,CL 132 #[PT p,IV b] w (jS w0 p (.slice a n c) (.slice i n j) (G++[(b,0)]))):=λb=>jY w0 w p _ _ vo m G b h (by omega)
 have K:Hid (∀(b:Int) l d z,NW w0 l p (.slice a n c) (.slice i n j) d z (G++[(b,0)])->CL 102 #[PT p,IV v,.bool s] l (jS w0 p (.slice a n c) (.slice i n j) ((G++[(b,0)])++Fm.enc (Fm.et s y)))):=λb l d z hw=>by have:=fI hw;rw [NH,q.o]at this;simp only [Oz]at this;exact F s l d z _ hw (by omega)
 have M:Hid (∀(b g:Int) o f A,NW w0 o p (.slice a n c) (.slice i n j) f A ((G++[(b,0)])++Fm.enc (Fm.et s y))->CL 132 #[PT p,IV g] o (jS w0 p (.slice a n c) (.slice i n j) (((G++[(b,0)])++Fm.enc (Fm.et s y))++[(g,0)]))):=λb g o f A hw=>by have:=fI hw;rw [NH,NH,Fm.de,q.o]at this;simp only [Oz]at this;exact jY w0 o p _ _ f A _ g hw (by omega)
 clear F h H P L
 cases B
 all_goals
  go_enter Tryz.func135,Tryz.ntmps135
  go_wp2_with (first
   |(go_at_call 132;refine (J.o _).mono ?_;rintro e l ⟨rfl,d,z,r⟩;have C:=Nq r;clear r J)
   |(go_at_call 102;refine (K.o _ l d z C.o).mono ?_;rintro e o ⟨rfl,f,A,t⟩;have D:=Nq t;clear t K)
   |(go_at_call 132;refine (M.o _ _ o f A D.o).mono ?_;rintro e R ⟨rfl,I,Q,u⟩;have E:=Nq u;clear u))
  go_end0
  exact ⟨rfl,I,Q,by have:=E.o;simpa using this⟩
end
end Go.Proofs.YtimniinkpipnmaaGreatDoor
