/-
  Texts of this claim, packed by a program: SHP.
-/
import Derived.Test.YthllkbbbapgelaaGreatDoorPN0
import Derived.Shelf.Strings.Builder1
import Derived.Shelf.Small.Bits
import Derived.Shelf.Strings.BuilderF
import Derived.Shelf.Strings.BuilderK
import Derived.Shelf.Utf8.RuneCount
import Derived.Shelf.Strconv.Atoi
import Derived.Shelf.Strconv.Itoa0
import Derived.Shelf.Strconv.Itoa1
import Derived.Shelf.LaysM
import Derived.Shelf.Strconv.Itoa2
import Derived.Shelf.Strconv.Itoa3
import Derived.Shelf.Strconv.AtoiErrFast
import Derived.Shelf.Strconv.ParseIntEmpty
import Derived.Shelf.Strconv.AtoiFail
import Derived.Shelf.Strconv.Clone
import Derived.Shelf.Strconv.SyntaxError
import Derived.Shelf.LaysC
import Derived.Shelf.Strconv.ToError
import Derived.Shelf.Strconv.Lower
import Derived.Shelf.Strconv.ParseUint10
import Derived.Shelf.Strconv.ParseUint10Empty
import Derived.Shelf.Strconv.ParseUint10Any
import Derived.Shelf.Strconv.ParseInt10
import Derived.Shelf.Strconv.AtoiLong
import Derived.Shelf.Strconv.AtoiInnerAll
import Derived.Shelf.Strconv.RangeError
import Derived.Shelf.Strconv.ToErrorRange
import Derived.Shelf.Strconv.AtoiAll
import Derived.Shelf.Strconv.ErrVarAll
import Derived.Shelf.Strings.Search1
import Derived.Shelf.Strings.Search2
import Derived.Shelf.Strings.Search3
import Derived.Shelf.Strings.Count
import Derived.Shelf.Strings.Shaped
import Derived.Shelf.Strings.Split
import Derived.Shelf.Strings.SplitShaped
import Derived.Shelf.Unicode.Decode
import Derived.Shelf.Strings.RuneCount
import Derived.Shelf.Strings.Explode
import Derived.Shelf.Unicode.DecodeSlow
import Derived.Shelf.Unicode.DecodeAny
import Derived.Ground.Names2Prog
import Derived.Shelf.Slices.Clone
import Derived.Shelf.Slices.SearchI
import Derived.Shelf.Slices.Delete
import Derived.Shelf.Slices.Cells
import Derived.Shelf.Slices.Empties
import Derived.Ground.SlgnProg
import Derived.Shelf.SlicesE.Delete
import Derived.Shelf.SlicesE.Clone
import Derived.Ground.SlgmProg
import Derived.Shelf.SortM.Plain
import Derived.Shelf.SortM.SortNone
import Derived.Test.YthllkbbbapgelaaGreatDoorProg
set_option maxHeartbeats 8000000
set_option maxRecDepth 100000
set_option linter.all false
section
namespace Go.Proofs
open Go.Shelf
def Tryz.Bv:Go.Shelf.Ren:=⟨fun|169=>46|n=>n,fun|70=>109|9=>9|0=>0|72=>111|37=>25|127=>184|3=>3|5=>5|n=>n,fun|n=>n⟩
theorem Tryz.Y2:Go.Proofs.Lays.n169 Tryz.prog Tryz.Bv:={
 mixed:=ϰ
 f169:=Tryz.func46.trans (congrArg some ϰ)
 t0:=Tryz.underlying0
 a0:=Tryz.isAgg0
 z0:=Tryz.sizeOf0
 v0:=Tryz.zeroValue0
 t3:=Tryz.underlying3
 a3:=Tryz.isAgg3
 z3:=Tryz.sizeOf3
 v3:=Tryz.zeroValue3
 t9:=Tryz.underlying9
 a9:=Tryz.isAgg9
 z9:=Tryz.sizeOf9
 v9:=Tryz.zeroValue9
 t37:=Tryz.underlying25
 a37:=Tryz.isAgg25
 z37:=Tryz.sizeOf25
 v37:=Tryz.zeroValue25
 t70:=Tryz.underlying109
 a70:=Tryz.isAgg109
 z70:=Tryz.sizeOf109
 v70:=Tryz.zeroValue109
 t72:=Tryz.underlying111
 a72:=Tryz.isAgg111
 z72:=Tryz.sizeOf111
 v72:=Tryz.zeroValue111
 t127:=Tryz.underlying184
 a127:=Tryz.isAgg184
 z127:=Tryz.sizeOf184
 v127:=Tryz.zeroValue184}
theorem Tryz.zT:Builder.Extra Tryz.prog Tryz.Bv:={
 sizeBuilder:=ϰ
 liesBuilder:=ϰ
 t5:=Tryz.underlying5
 a5:=Tryz.isAgg5
 z5:=Tryz.sizeOf5
 v5:=Tryz.zeroValue5
 infoByte:=ϰ
 cellsByte:=ϰ
 sizeByte:=ϰ
 neB5:=by decide}
open Go.RowKit in
theorem Tryz.Builder_String_any_k (B b:Nat) (l:List UInt8) (w:World) (h:Lib.IsBuilderF 111 5 B b (Lib.byteCells l) w) (hBw:B<=w.heap.size):
 Ϝ 46 #[.pointer (some ⟨b,0,none⟩)] w fun e w'=>e= .returned (.string ⟨l.toArray⟩)/\(Lib.IsBuilderF 111 5 B b (Lib.byteCells l) w'/\Below B w w'/\Lib.OthersKept 5 (some b) w w'):=Any.Builder_String_any_k Tryz.Y2 Tryz.zT B b l w h hBw
def Tryz.aax:Go.Shelf.Ren:=⟨fun|172=>175|244=>256|245=>257|247=>299|279=>300|280=>301|281=>302|282=>303|287=>332|316=>333|171=>39|205=>334|321=>345|322=>346|243=>65|246=>111|283=>188|284=>189|285=>190|286=>191|129=>259|317=>258|318=>260|319=>261|320=>262|337=>304|338=>305|n=>n,fun|9=>9|3=>3|75=>113|76=>114|4=>4|5=>5|167=>379|37=>25|0=>0|85=>380|2=>2|168=>382|53=>310|175=>399|46=>364|210=>403|127=>184|145=>422|143=>420|21=>21|171=>309|173=>313|212=>361|51=>362|20=>20|213=>363|232=>405|233=>406|80=>130|n=>n,fun|15=>2|16=>3|17=>0|18=>4|19=>5|n=>n⟩
def Tryz.Y0:Go.Shelf.Ren:=⟨fun|246=>111|283=>188|284=>189|285=>190|286=>191|129=>259|317=>258|318=>260|319=>261|320=>262|337=>304|338=>305|n=>n,fun|2=>2|3=>3|9=>9|4=>4|171=>309|0=>0|53=>310|37=>25|5=>5|173=>313|212=>361|51=>362|20=>20|213=>363|46=>364|232=>405|233=>406|n=>n,fun|17=>0|18=>4|19=>5|n=>n⟩
def Tryz.Y1:Go.Shelf.Ren:=⟨fun|243=>65|246=>111|283=>188|284=>189|285=>190|286=>191|129=>259|317=>258|318=>260|319=>261|320=>262|337=>304|338=>305|n=>n,fun|3=>3|9=>9|2=>2|4=>4|171=>309|0=>0|53=>310|37=>25|5=>5|173=>313|212=>361|51=>362|20=>20|213=>363|46=>364|232=>405|233=>406|n=>n,fun|17=>0|18=>4|19=>5|n=>n⟩
def Tryz.IQ:Go.Shelf.Ren:=⟨fun|171=>39|243=>65|246=>111|283=>188|284=>189|285=>190|286=>191|129=>259|317=>258|318=>260|319=>261|320=>262|337=>304|338=>305|n=>n,fun|3=>3|9=>9|2=>2|4=>4|171=>309|0=>0|53=>310|37=>25|5=>5|173=>313|212=>361|51=>362|20=>20|213=>363|46=>364|232=>405|233=>406|n=>n,fun|17=>0|18=>4|19=>5|n=>n⟩
theorem Tryz.Vy:Go.Proofs.LaysM.n171 Tryz.prog Tryz.IQ:={
 mixed:=ϰ
 f129:=Tryz.func259.trans (congrArg some ϰ)
 f171:=Tryz.func39.trans (congrArg some ϰ)
 f243:=Tryz.func65.trans (congrArg some ϰ)
 f246:=Tryz.func111.trans (congrArg some ϰ)
 f283:=Tryz.func188.trans (congrArg some ϰ)
 f284:=Tryz.func189.trans (congrArg some ϰ)
 f285:=Tryz.func190.trans (congrArg some ϰ)
 f286:=Tryz.func191.trans (congrArg some ϰ)
 f317:=Tryz.func258.trans (congrArg some ϰ)
 f318:=Tryz.func260.trans (congrArg some ϰ)
 f319:=Tryz.func261.trans (congrArg some ϰ)
 f320:=Tryz.func262.trans (congrArg some ϰ)
 f337:=Tryz.func304.trans (congrArg some ϰ)
 f338:=Tryz.func305.trans (congrArg some ϰ)
 t0:=Tryz.underlying0
 a0:=Tryz.isAgg0
 z0:=Tryz.sizeOf0
 v0:=Tryz.zeroValue0
 t2:=Tryz.underlying2
 a2:=Tryz.isAgg2
 z2:=Tryz.sizeOf2
 v2:=Tryz.zeroValue2
 t3:=Tryz.underlying3
 a3:=Tryz.isAgg3
 z3:=Tryz.sizeOf3
 v3:=Tryz.zeroValue3
 t4:=Tryz.underlying4
 a4:=Tryz.isAgg4
 z4:=Tryz.sizeOf4
 v4:=Tryz.zeroValue4
 t5:=Tryz.underlying5
 a5:=Tryz.isAgg5
 z5:=Tryz.sizeOf5
 v5:=Tryz.zeroValue5
 t9:=Tryz.underlying9
 a9:=Tryz.isAgg9
 z9:=Tryz.sizeOf9
 v9:=Tryz.zeroValue9
 t20:=Tryz.underlying20
 a20:=Tryz.isAgg20
 z20:=Tryz.sizeOf20
 v20:=Tryz.zeroValue20
 t37:=Tryz.underlying25
 a37:=Tryz.isAgg25
 z37:=Tryz.sizeOf25
 v37:=Tryz.zeroValue25
 t46:=Tryz.underlying364
 a46:=Tryz.isAgg364
 z46:=Tryz.sizeOf364
 v46:=Tryz.zeroValue364
 t51:=Tryz.underlying362
 a51:=Tryz.isAgg362
 z51:=Tryz.sizeOf362
 v51:=Tryz.zeroValue362
 t53:=Tryz.underlying310
 a53:=Tryz.isAgg310
 z53:=Tryz.sizeOf310
 v53:=Tryz.zeroValue310
 t171:=Tryz.underlying309
 a171:=Tryz.isAgg309
 z171:=Tryz.sizeOf309
 v171:=Tryz.zeroValue309
 t173:=Tryz.underlying313
 a173:=Tryz.isAgg313
 z173:=Tryz.sizeOf313
 v173:=Tryz.zeroValue313
 t212:=Tryz.underlying361
 a212:=Tryz.isAgg361
 z212:=Tryz.sizeOf361
 v212:=Tryz.zeroValue361
 t213:=Tryz.underlying363
 a213:=Tryz.isAgg363
 z213:=Tryz.sizeOf363
 t232:=Tryz.underlying405
 a232:=Tryz.isAgg405
 z232:=Tryz.sizeOf405
 v232:=Tryz.zeroValue405
 t233:=Tryz.underlying406
 a233:=Tryz.isAgg406
 z233:=Tryz.sizeOf406
 v233:=Tryz.zeroValue406
 g17:=ϰ
 g18:=ϰ
 g19:=ϰ
 i0:=ϰ
 i2:=ϰ
 i3:=ϰ
 i4:=ϰ
 i5:=ϰ
 i9:=ϰ
 i20:=ϰ
 i37:=ϰ
 i46:=ϰ
 i51:=ϰ
 i53:=ϰ
 i171:=ϰ
 i173:=ϰ
 i212:=ϰ
 i232:=ϰ
 i233:=ϰ
 m17:=ϰ
 m18:=ϰ
 m19:=by kernel_rfl}
open Go.RowKit Go.Sort Go.Lib in
theorem Tryz.strconv_Itoa (n:Int) (h0: -9223372036854775808<=n) (h1:n<=9223372036854775807) (w:World) (htab:Lib.TabIs Tryz.prog w "internal/strconv.uint64pow10" .u64 Lib.pow10Tab):
 Ϝ 39 #[.int .i64 n] w fun e w'=>e= .returned (.string ⟨(Lib.itoa n).toArray⟩)/\ ∃k os,w'=grow (w.drewN k) os:=Any.strconv_Itoa Tryz.Vy n h0 h1 w htab
def Tryz.IU:Go.Shelf.Ren:=⟨fun|172=>175|244=>256|245=>257|247=>299|279=>300|280=>301|281=>302|282=>303|287=>332|316=>333|171=>39|205=>334|321=>345|322=>346|243=>65|246=>111|283=>188|284=>189|285=>190|286=>191|129=>259|317=>258|318=>260|319=>261|320=>262|337=>304|338=>305|n=>n,fun|9=>9|3=>3|75=>113|76=>114|4=>4|5=>5|167=>379|37=>25|0=>0|85=>380|2=>2|168=>382|53=>310|175=>399|46=>364|210=>403|127=>184|145=>422|143=>420|21=>21|171=>309|173=>313|212=>361|51=>362|20=>20|213=>363|232=>405|233=>406|80=>130|n=>n,fun|15=>2|16=>3|17=>0|18=>4|19=>5|n=>n⟩
theorem Tryz.Dr:Go.Proofs.LaysC.n172 Tryz.prog Tryz.IU:={
 mixed:=ϰ
 f129:=Tryz.func259.trans (congrArg some ϰ)
 f171:=Tryz.func39.trans (congrArg some ϰ)
 f172:=Tryz.func175.trans (congrArg some ϰ)
 f205:=Tryz.func334.trans (congrArg some ϰ)
 f243:=Tryz.func65.trans (congrArg some ϰ)
 f244:=Tryz.func256.trans (congrArg some ϰ)
 f245:=Tryz.func257.trans (congrArg some ϰ)
 f246:=Tryz.func111.trans (congrArg some ϰ)
 f247:=Tryz.func299.trans (congrArg some ϰ)
 f279:=Tryz.func300.trans (congrArg some ϰ)
 f280:=Tryz.func301.trans (congrArg some ϰ)
 f281:=Tryz.func302.trans (congrArg some ϰ)
 f282:=Tryz.func303.trans (congrArg some ϰ)
 f283:=Tryz.func188.trans (congrArg some ϰ)
 f284:=Tryz.func189.trans (congrArg some ϰ)
 f285:=Tryz.func190.trans (congrArg some ϰ)
 f286:=Tryz.func191.trans (congrArg some ϰ)
 f287:=Tryz.func332.trans (congrArg some ϰ)
 f316:=Tryz.func333.trans (congrArg some ϰ)
 f317:=Tryz.func258.trans (congrArg some ϰ)
 f318:=Tryz.func260.trans (congrArg some ϰ)
 f319:=Tryz.func261.trans (congrArg some ϰ)
 f320:=Tryz.func262.trans (congrArg some ϰ)
 f321:=Tryz.func345.trans (congrArg some ϰ)
 f322:=Tryz.func346.trans (congrArg some ϰ)
 f337:=Tryz.func304.trans (congrArg some ϰ)
 f338:=Tryz.func305.trans (congrArg some ϰ)
 t0:=Tryz.underlying0
 a0:=Tryz.isAgg0
 z0:=Tryz.sizeOf0
 v0:=Tryz.zeroValue0
 t2:=Tryz.underlying2
 a2:=Tryz.isAgg2
 z2:=Tryz.sizeOf2
 v2:=Tryz.zeroValue2
 t3:=Tryz.underlying3
 a3:=Tryz.isAgg3
 z3:=Tryz.sizeOf3
 v3:=Tryz.zeroValue3
 t4:=Tryz.underlying4
 a4:=Tryz.isAgg4
 z4:=Tryz.sizeOf4
 v4:=Tryz.zeroValue4
 t5:=Tryz.underlying5
 a5:=Tryz.isAgg5
 z5:=Tryz.sizeOf5
 v5:=Tryz.zeroValue5
 t9:=Tryz.underlying9
 a9:=Tryz.isAgg9
 z9:=Tryz.sizeOf9
 v9:=Tryz.zeroValue9
 t20:=Tryz.underlying20
 a20:=Tryz.isAgg20
 z20:=Tryz.sizeOf20
 v20:=Tryz.zeroValue20
 t21:=Tryz.underlying21
 a21:=Tryz.isAgg21
 z21:=Tryz.sizeOf21
 v21:=Tryz.zeroValue21
 t37:=Tryz.underlying25
 a37:=Tryz.isAgg25
 z37:=Tryz.sizeOf25
 v37:=Tryz.zeroValue25
 t46:=Tryz.underlying364
 a46:=Tryz.isAgg364
 z46:=Tryz.sizeOf364
 v46:=Tryz.zeroValue364
 t51:=Tryz.underlying362
 a51:=Tryz.isAgg362
 z51:=Tryz.sizeOf362
 v51:=Tryz.zeroValue362
 t53:=Tryz.underlying310
 a53:=Tryz.isAgg310
 z53:=Tryz.sizeOf310
 v53:=Tryz.zeroValue310
 t75:=Tryz.underlying113
 a75:=Tryz.isAgg113
 z75:=Tryz.sizeOf113
 v75:=Tryz.zeroValue113
 t76:=Tryz.underlying114
 a76:=Tryz.isAgg114
 z76:=Tryz.sizeOf114
 v76:=Tryz.zeroValue114
 t85:=Tryz.underlying380
 a85:=Tryz.isAgg380
 z85:=Tryz.sizeOf380
 v85:=Tryz.zeroValue380
 t127:=Tryz.underlying184
 a127:=Tryz.isAgg184
 z127:=Tryz.sizeOf184
 v127:=Tryz.zeroValue184
 t143:=Tryz.underlying420
 a143:=Tryz.isAgg420
 z143:=Tryz.sizeOf420
 v143:=Tryz.zeroValue420
 t145:=Tryz.underlying422
 a145:=Tryz.isAgg422
 z145:=Tryz.sizeOf422
 v145:=Tryz.zeroValue422
 t167:=Tryz.underlying379
 a167:=Tryz.isAgg379
 z167:=Tryz.sizeOf379
 v167:=Tryz.zeroValue379
 t168:=Tryz.underlying382
 a168:=Tryz.isAgg382
 z168:=Tryz.sizeOf382
 v168:=Tryz.zeroValue382
 t171:=Tryz.underlying309
 a171:=Tryz.isAgg309
 z171:=Tryz.sizeOf309
 v171:=Tryz.zeroValue309
 t173:=Tryz.underlying313
 a173:=Tryz.isAgg313
 z173:=Tryz.sizeOf313
 v173:=Tryz.zeroValue313
 t175:=Tryz.underlying399
 a175:=Tryz.isAgg399
 z175:=Tryz.sizeOf399
 v175:=Tryz.zeroValue399
 t210:=Tryz.underlying403
 a210:=Tryz.isAgg403
 z210:=Tryz.sizeOf403
 v210:=Tryz.zeroValue403
 t212:=Tryz.underlying361
 a212:=Tryz.isAgg361
 z212:=Tryz.sizeOf361
 v212:=Tryz.zeroValue361
 t213:=Tryz.underlying363
 a213:=Tryz.isAgg363
 z213:=Tryz.sizeOf363
 t232:=Tryz.underlying405
 a232:=Tryz.isAgg405
 z232:=Tryz.sizeOf405
 v232:=Tryz.zeroValue405
 t233:=Tryz.underlying406
 a233:=Tryz.isAgg406
 z233:=Tryz.sizeOf406
 v233:=Tryz.zeroValue406
 g15:=ϰ
 g16:=ϰ
 g17:=ϰ
 g18:=ϰ
 g19:=ϰ
 t80:=Tryz.underlying130
 a80:=Tryz.isAgg130
 z80:=Tryz.sizeOf130
 v80:=Tryz.zeroValue130
 i0:=ϰ
 i2:=ϰ
 i3:=ϰ
 i4:=ϰ
 i5:=ϰ
 i9:=ϰ
 i20:=ϰ
 i21:=ϰ
 i37:=ϰ
 i46:=ϰ
 i51:=ϰ
 i53:=ϰ
 i75:=ϰ
 i76:=ϰ
 i80:=ϰ
 i85:=ϰ
 i127:=ϰ
 i143:=ϰ
 i145:=ϰ
 i167:=ϰ
 i168:=ϰ
 i171:=ϰ
 i173:=ϰ
 i175:=ϰ
 i210:=ϰ
 i212:=ϰ
 i232:=ϰ
 i233:=ϰ
 m15:=ϰ
 m16:=ϰ
 m17:=ϰ
 m18:=ϰ
 m19:=ϰ
 c0:=ϰ
 c2:=ϰ
 c3:=ϰ
 c4:=ϰ
 c5:=ϰ
 c9:=ϰ
 c20:=ϰ
 c21:=ϰ
 c37:=ϰ
 c46:=ϰ
 c51:=ϰ
 c53:=ϰ
 c75:=ϰ
 c76:=ϰ
 c80:=ϰ
 c85:=ϰ
 c127:=ϰ
 c143:=ϰ
 c145:=ϰ
 c167:=ϰ
 c168:=ϰ
 c171:=ϰ
 c173:=ϰ
 c175:=ϰ
 c210:=ϰ
 c212:=ϰ
 c213:=ϰ
 c232:=ϰ
 c233:=by kernel_rfl}
open Go.RowKit in
theorem Tryz.strconv_Atoi_ok (s:ByteArray) (hmax:s.size<=9223372036854775806) (v:Int) (h:Lib.atoiAll s.data.toList= .ok v) (w:World):
 Ϝ 175 #[.string s] w fun e w'=>e= .returned (.tuple #[.int .i64 v,.nilIface])/\(w'=w∨ ∃t,w'=Lib.bytesWorld w 5 t):=Any.strconv_Atoi_ok Tryz.Dr s hmax v h w
open Go.RowKit in
theorem Tryz.strconv_Atoi_syntax_var (s:ByteArray) (hlim:s.size<=281474976710656) (h:Lib.atoiAll s.data.toList=Lib.atoiAll []) (tp:TypeId) (p:Value) (w:World) (hvar:w.var? Tryz.prog "strconv.ErrSyntax" =some #[.iface tp p]):
 Ϝ 175 #[.string s] w fun e w'=> ∃N,e= .returned (.tuple #[.int .i64 0,.iface 382 (.pointer (some ⟨N,0,none⟩))])/\w.heap.size<=N/\w'.heap[N]? =some (.cells #[.string ⟨#[65,116,111,105]⟩,.string s,.iface tp p] 403 (0,0))/\Ϙ w w':=Any.strconv_Atoi_syntax_var Tryz.Dr s hlim h tp p w hvar
open Go.RowKit in
theorem Tryz.strconv_Atoi_range_var (s:ByteArray) (hlim:s.size<=281474976710656) (h:Lib.atoiAll s.data.toList= .range) (tp:TypeId) (p:Value) (w:World) (hvar:w.var? Tryz.prog "strconv.ErrRange" =some #[.iface tp p]):
 Ϝ 175 #[.string s] w fun e w'=> ∃N,e= .returned (.tuple #[.int .i64 (Lib.atoiSat s.data.toList),.iface 382 (.pointer (some ⟨N,0,none⟩))])/\w.heap.size<=N/\w'.heap[N]? =some (.cells #[.string ⟨#[65,116,111,105]⟩,.string s,.iface tp p] 403 (0,0))/\Ϙ w w':=Any.strconv_Atoi_range_var Tryz.Dr s hlim h tp p w hvar
def Tryz.aaw:Go.Shelf.Ren:=⟨fun|221=>152|268=>238|138=>239|143=>240|195=>292|197=>293|218=>294|219=>295|260=>317|217=>318|225=>319|224=>320|267=>321|266=>337|314=>338|n=>n,fun|9=>9|3=>3|31=>22|4=>4|0=>0|105=>374|21=>21|5=>5|46=>364|119=>407|139=>410|138=>409|146=>411|51=>362|n=>n,fun|1=>1|3=>6|4=>7|n=>n⟩
def Tryz.KJ:Go.Shelf.Ren:=⟨fun|146=>97|221=>152|268=>238|138=>239|143=>240|195=>292|197=>293|218=>294|219=>295|260=>317|217=>318|225=>319|224=>320|267=>321|266=>337|314=>338|n=>n,fun|9=>9|31=>22|3=>3|4=>4|0=>0|105=>374|21=>21|5=>5|46=>364|119=>407|139=>410|138=>409|146=>411|51=>362|n=>n,fun|1=>1|3=>6|4=>7|n=>n⟩
theorem Tryz.Y3:Go.Proofs.Lays.n146 Tryz.prog Tryz.KJ:={
 mixed:=ϰ
 f138:=Tryz.func239.trans (congrArg some ϰ)
 f143:=Tryz.func240.trans (congrArg some ϰ)
 f146:=Tryz.func97.trans (congrArg some ϰ)
 f195:=Tryz.func292.trans (congrArg some ϰ)
 f197:=Tryz.func293.trans (congrArg some ϰ)
 f217:=Tryz.func318.trans (congrArg some ϰ)
 f218:=Tryz.func294.trans (congrArg some ϰ)
 f219:=Tryz.func295.trans (congrArg some ϰ)
 f221:=Tryz.func152.trans (congrArg some ϰ)
 f224:=Tryz.func320.trans (congrArg some ϰ)
 f225:=Tryz.func319.trans (congrArg some ϰ)
 f260:=Tryz.func317.trans (congrArg some ϰ)
 f266:=Tryz.func337.trans (congrArg some ϰ)
 f267:=Tryz.func321.trans (congrArg some ϰ)
 f268:=Tryz.func238.trans (congrArg some ϰ)
 f314:=Tryz.func338.trans (congrArg some ϰ)
 t0:=Tryz.underlying0
 a0:=Tryz.isAgg0
 z0:=Tryz.sizeOf0
 v0:=Tryz.zeroValue0
 t3:=Tryz.underlying3
 a3:=Tryz.isAgg3
 z3:=Tryz.sizeOf3
 v3:=Tryz.zeroValue3
 t4:=Tryz.underlying4
 a4:=Tryz.isAgg4
 z4:=Tryz.sizeOf4
 v4:=Tryz.zeroValue4
 t5:=Tryz.underlying5
 a5:=Tryz.isAgg5
 z5:=Tryz.sizeOf5
 v5:=Tryz.zeroValue5
 t9:=Tryz.underlying9
 a9:=Tryz.isAgg9
 z9:=Tryz.sizeOf9
 v9:=Tryz.zeroValue9
 t21:=Tryz.underlying21
 a21:=Tryz.isAgg21
 z21:=Tryz.sizeOf21
 v21:=Tryz.zeroValue21
 t31:=Tryz.underlying22
 a31:=Tryz.isAgg22
 z31:=Tryz.sizeOf22
 v31:=Tryz.zeroValue22
 t46:=Tryz.underlying364
 a46:=Tryz.isAgg364
 z46:=Tryz.sizeOf364
 v46:=Tryz.zeroValue364
 t51:=Tryz.underlying362
 a51:=Tryz.isAgg362
 z51:=Tryz.sizeOf362
 v51:=Tryz.zeroValue362
 t105:=Tryz.underlying374
 a105:=Tryz.isAgg374
 z105:=Tryz.sizeOf374
 v105:=Tryz.zeroValue374
 t119:=Tryz.underlying407
 a119:=Tryz.isAgg407
 z119:=Tryz.sizeOf407
 t138:=Tryz.underlying409
 a138:=Tryz.isAgg409
 z138:=Tryz.sizeOf409
 v138:=Tryz.zeroValue409
 t139:=Tryz.underlying410
 a139:=Tryz.isAgg410
 z139:=Tryz.sizeOf410
 v139:=Tryz.zeroValue410
 t146:=Tryz.underlying411
 a146:=Tryz.isAgg411
 z146:=Tryz.sizeOf411
 v146:=Tryz.zeroValue411
 g1:=ϰ
 g3:=ϰ
 g4:=by kernel_rfl}
open Go.RowKit Go.Lib in
theorem Tryz.strings_Split (s sep:ByteArray) (m:Int) (w:World) (hs:s.size<4294967281) (hm:w.cell? ⟨1,0,none⟩=some (.int .i64 m)) (h1:1<=sep.size):
 Ϝ 97 #[.string s,.string sep] w fun e w'=>
  e= .returned (.slice (some ⟨w.heap.size,0,none⟩) (Lib.countB s sep+1) (Lib.countB s sep+1))/\w'=w.alloc (.cells ((Lib.splitB sep 0 (Lib.countB s sep) s).map Value.string).toArray 9):=Any.strings_Split Tryz.Y3 ϰ s sep m w hs hm h1
def Tryz.za:Go.Shelf.Ren:=⟨fun|5=>249|8=>298|7=>297|19=>331|20=>259|10=>322|11=>323|12=>324|13=>325|14=>326|15=>327|16=>328|17=>329|18=>330|30=>339|31=>340|32=>341|33=>342|34=>343|35=>344|40=>347|n=>n,fun|23=>52|25=>3|3=>3|32=>364|22=>52|0=>0|44=>362|46=>310|4=>4|36=>394|35=>393|41=>223|5=>5|9=>9|53=>413|57=>417|63=>423|64=>424|n=>n,fun|n=>n⟩
theorem Tryz.FL:Go.Proofs.SlLaysM.n5 Tryz.prog Tryz.za:={
 mixed:=ϰ
 f5:=⟨Tryz.f249.name,by decide,Tryz.func249.trans (congrArg some ϰ)⟩
 f7:=⟨Tryz.f297.name,by decide,Tryz.func297.trans (congrArg some ϰ)⟩
 f8:=Tryz.func298.trans (congrArg some ϰ)
 f10:=⟨Tryz.f322.name,by decide,Tryz.func322.trans (congrArg some ϰ)⟩
 f11:=⟨Tryz.f323.name,by decide,Tryz.func323.trans (congrArg some ϰ)⟩
 f12:=⟨Tryz.f324.name,by decide,Tryz.func324.trans (congrArg some ϰ)⟩
 f13:=⟨Tryz.f325.name,by decide,Tryz.func325.trans (congrArg some ϰ)⟩
 f14:=⟨Tryz.f326.name,by decide,Tryz.func326.trans (congrArg some ϰ)⟩
 f15:=⟨Tryz.f327.name,by decide,Tryz.func327.trans (congrArg some ϰ)⟩
 f16:=⟨Tryz.f328.name,by decide,Tryz.func328.trans (congrArg some ϰ)⟩
 f17:=⟨Tryz.f329.name,by decide,Tryz.func329.trans (congrArg some ϰ)⟩
 f18:=⟨Tryz.f330.name,by decide,Tryz.func330.trans (congrArg some ϰ)⟩
 f19:=Tryz.func331.trans (congrArg some ϰ)
 f20:=Tryz.func259.trans (congrArg some ϰ)
 f30:=⟨Tryz.f339.name,by decide,Tryz.func339.trans (congrArg some ϰ)⟩
 f31:=Tryz.func340.trans (congrArg some ϰ)
 f32:=Tryz.func341.trans (congrArg some ϰ)
 f33:=⟨Tryz.f342.name,by decide,Tryz.func342.trans (congrArg some ϰ)⟩
 f34:=⟨Tryz.f343.name,by decide,Tryz.func343.trans (congrArg some ϰ)⟩
 f35:=⟨Tryz.f344.name,by decide,Tryz.func344.trans (congrArg some ϰ)⟩
 f40:=⟨Tryz.f347.name,by decide,Tryz.func347.trans (congrArg some ϰ)⟩
 t0:=Tryz.underlying0
 a0:=Tryz.isAgg0
 z0:=Tryz.sizeOf0
 v0:=Tryz.zeroValue0
 t3:=Tryz.underlying3
 a3:=Tryz.isAgg3
 z3:=Tryz.sizeOf3
 v3:=Tryz.zeroValue3
 t4:=Tryz.underlying4
 a4:=Tryz.isAgg4
 z4:=Tryz.sizeOf4
 v4:=Tryz.zeroValue4
 t5:=Tryz.underlying5
 a5:=Tryz.isAgg5
 z5:=Tryz.sizeOf5
 v5:=Tryz.zeroValue5
 t9:=Tryz.underlying9
 a9:=Tryz.isAgg9
 z9:=Tryz.sizeOf9
 v9:=Tryz.zeroValue9
 t22:=Tryz.underlying52
 a22:=Tryz.isAgg52
 z22:=Tryz.sizeOf52
 v22:=Tryz.zeroValue52
 t23:=Tryz.underlying52
 a23:=Tryz.isAgg52
 z23:=Tryz.sizeOf52
 v23:=Tryz.zeroValue52
 t25:=Tryz.underlying3
 a25:=Tryz.isAgg3
 z25:=Tryz.sizeOf3
 v25:=Tryz.zeroValue3
 t32:=Tryz.underlying364
 a32:=Tryz.isAgg364
 z32:=Tryz.sizeOf364
 v32:=Tryz.zeroValue364
 t35:=Tryz.underlying393
 a35:=Tryz.isAgg393
 z35:=Tryz.sizeOf393
 v35:=Tryz.zeroValue393
 t36:=Tryz.underlying394
 a36:=Tryz.isAgg394
 z36:=Tryz.sizeOf394
 v36:=Tryz.zeroValue394
 t41:=Tryz.underlying223
 a41:=Tryz.isAgg223
 z41:=Tryz.sizeOf223
 v41:=Tryz.zeroValue223
 t44:=Tryz.underlying362
 a44:=Tryz.isAgg362
 z44:=Tryz.sizeOf362
 v44:=Tryz.zeroValue362
 t46:=Tryz.underlying310
 a46:=Tryz.isAgg310
 z46:=Tryz.sizeOf310
 v46:=Tryz.zeroValue310
 t53:=Tryz.underlying413
 a53:=Tryz.isAgg413
 z53:=Tryz.sizeOf413
 v53:=Tryz.zeroValue413
 t57:=Tryz.underlying417
 a57:=Tryz.isAgg417
 z57:=Tryz.sizeOf417
 v57:=Tryz.zeroValue417
 t63:=Tryz.underlying423
 a63:=Tryz.isAgg423
 z63:=Tryz.sizeOf423
 v63:=Tryz.zeroValue423
 t64:=Tryz.underlying424
 a64:=Tryz.isAgg424
 z64:=Tryz.sizeOf424
 v64:=Tryz.zeroValue424}
open Go.Sort Go.RowKit in
theorem Tryz.slices_Sort_int (blk off cap:Nat) (zs:List Int) (w:World) (hH:Holds (Value.int .i64) w blk off zs.toArray) (ZX:blk<w.heap.size) (τ:zs.length<4611686018427387904):
 Ϝ 249 #[.slice (some ⟨blk,off,none⟩) zs.length cap] w fun e w'=>
  e= .returned (.tuple #[])/\ ∃n os,w'=grow (putRow (Value.int .i64) (Sort.ahead w n) blk off (zs.mergeSort fun x y=>decide (x<=y)).toArray) os:=AnyM.slices_Sort_int Tryz.FL blk off cap zs w hH ZX τ
end Go.Proofs
end
