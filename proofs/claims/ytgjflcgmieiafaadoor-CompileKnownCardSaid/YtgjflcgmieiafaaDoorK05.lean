/- CompileKnown answers true: the document's examples of tables, their codes, sizes, faults and verdicts are as it says. Conditions: those of the given row and its card (the variable insn.sizes is laid as its initialiser says). -/
import Derived.Test.YtgjflcgmieiafaaDoorK04
import Derived.Test.YtgjflcgmieiafaaDoorK03
import Derived.Test.YtgjflcgmieiafaaDoorK02
import Derived.OrdersIn
import Derived.TacticsIn
import Derived.RangeFuncCalls
import Derived.RangeFuncWrites
import Derived.RangeFuncLeaves
set_option linter.all false
set_option linter.unusedVariables false
set_option linter.unusedSimpArgs false
namespace Go.Proofs.YtgjflcgmieiafaaDoor
open Go Go.DI Go.DI.Kit Go.Proofs Go.Cmp
noncomputable section
set_option maxHeartbeats 4000000
theorem ly(L P:List Value)(pv:Value)(n:Nat)(port k0 n0 k1 n1 k3 n3 k4 n4 k5 n5 k6 n6 k7 n7 k8 n8 k9 n9 at_ st a imm:Int):
 Cm (BA (AP (DE 5 2 imm)) 0 true 0 (mV L P (AM n) pv port (AI k0 n0 k1 n1 1 a k3 n3 k4 n4 k5 n5 k6 n6 k7 n7 k8 n8 k9 n9) at_ st false 0))=
  some (seenV (.bool true) L P (AM n) pv port (AI k0 n0 k1 n1 1 (LJ a (Ed imm)) k3 n3 k4 n4 k5 n5 k6 n6 k7 n7 k8 n8 k9 n9) (C7 at_) (C7 st) false 0,[Fw at_ n,GB L at_ (AP (DE 5 2 imm))])/\
 BC (BA (AP (DE 5 2 imm)) 0 true 0 (mV L P (AM n) pv port (AI k0 n0 k1 n1 1 a k3 n3 k4 n4 k5 n5 k6 n6 k7 n7 k8 n8 k9 n9) at_ st false 0)):=⟨by kernel_rfl,by unfold BC;kernel_rfl⟩
theorem XT(L P:List Value)(pv:Value)(n:Nat)(port k0 n0 n1 k2 n2 k3 n3 k4 n4 k5 n5 k6 n6 k7 n7 k8 n8 k9 n9 at_ st:Int):
 Cm (BA (AP (Ba 11 6 1)) 0 true 0 (mV L P (AM n) pv port (AI k0 n0 2 n1 k2 n2 k3 n3 k4 n4 k5 n5 k6 n6 k7 n7 k8 n8 k9 n9) at_ st false 0))=
  some (seenV (.bool true) L P (AM n) pv port (AI k0 n0 2 n1 k2 n2 k3 n3 k4 n4 k5 n5 2 n1 k7 n7 k8 n8 k9 n9) (C7 at_) (C7 st) false 0,[Fw at_ n,GB L at_ (AP (Ba 11 6 1))])/\
 BC (BA (AP (Ba 11 6 1)) 0 true 0 (mV L P (AM n) pv port (AI k0 n0 2 n1 k2 n2 k3 n3 k4 n4 k5 n5 k6 n6 k7 n7 k8 n8 k9 n9) at_ st false 0)):=⟨by kernel_rfl,by unfold BC;kernel_rfl⟩
theorem XU(L P:List Value)(pv:Value)(n:Nat)(port k0 n0 k1 n1 k2 n2 k3 n3 k4 n4 k5 n5 k6 n6 k7 n7 n8 k9 n9 at_ st:Int):
 Cm (BA (AP (Ba 11 2 8)) 0 true 0 (mV L P (AM n) pv port (AI k0 n0 k1 n1 k2 n2 k3 n3 k4 n4 k5 n5 k6 n6 k7 n7 3 n8 k9 n9) at_ st false 0))=
  some (seenV (.bool true) L P (AM n) pv port (AI k0 n0 k1 n1 3 n8 k3 n3 k4 n4 k5 n5 k6 n6 k7 n7 3 n8 k9 n9) (C7 at_) (C7 st) false 0,[Fw at_ n,GB L at_ (AP (Ba 11 2 8))])/\
 BC (BA (AP (Ba 11 2 8)) 0 true 0 (mV L P (AM n) pv port (AI k0 n0 k1 n1 k2 n2 k3 n3 k4 n4 k5 n5 k6 n6 k7 n7 3 n8 k9 n9) at_ st false 0)):=⟨by kernel_rfl,by unfold BC;kernel_rfl⟩
theorem fv(L P:List Value)(pa:Option Addr)(pn pc:Nat)(n:Nat)(port k0 n0 k1 n1 k2 n2 k3 n3 k4 n4 k5 n5 n6 k7 n7 k8 n8 k9 n9 at_ st:Int):
 Cm (BA (AP (BG 4 8 6 0)) 0 true 0 (mV L P (AM n) (.slice pa pn pc) port (AI k0 n0 k1 n1 k2 n2 k3 n3 k4 n4 k5 n5 2 n6 k7 n7 k8 n8 k9 n9) at_ st false 0))=
  some (seenV (.bool true) L P (AM n) (.slice pa pn pc) port (AI k0 n0 k1 n1 k2 n2 k3 n3 k4 n4 k5 n5 2 n6 k7 n7 1 (IntKind.wrap .u64 (Int.ofNat pn)) k9 n9) (C7 at_) (C7 st) false 0,[Fw at_ n,GB L at_ (AP (BG 4 8 6 0))])/\
 BC (BA (AP (BG 4 8 6 0)) 0 true 0 (mV L P (AM n) (.slice pa pn pc) port (AI k0 n0 k1 n1 k2 n2 k3 n3 k4 n4 k5 n5 2 n6 k7 n7 k8 n8 k9 n9) at_ st false 0)):=⟨by kernel_rfl,by unfold BC;kernel_rfl⟩
theorem pF(L P:List Value)(pa:Option Addr)(pn pc:Nat)(n:Nat)(port k0 n0 k1 n1 k2 n2 k3 n3 k4 n4 k5 n5 k6 n6 n7 k8 n8 k9 n9 at_ st o N:Int):
 Cm (BA (AP (BG 1 2 7 o)) 0 true N (mV L P (AM n) (.slice pa pn pc) port (AI k0 n0 k1 n1 k2 n2 k3 n3 k4 n4 k5 n5 k6 n6 3 n7 k8 n8 k9 n9) at_ st false 0))=
  some (seenV (.bool true) L P (AM n) (.slice pa pn pc) port (AI k0 n0 k1 n1 1 N k3 n3 k4 n4 k5 n5 k6 n6 3 n7 k8 n8 k9 n9) (C7 at_) (C7 st) false 0,[Fw at_ n,GB L at_ (AP (BG 1 2 7 o)),DD 64 [.slice pa pn pc, .int .i64 (Rl o), .int .i64 1] (.cells true P) (.tuple ⟨[.int .u64 N, .int .i64 0]⟩)])/\
 BC (BA (AP (BG 1 2 7 o)) 0 true N (mV L P (AM n) (.slice pa pn pc) port (AI k0 n0 k1 n1 k2 n2 k3 n3 k4 n4 k5 n5 k6 n6 3 n7 k8 n8 k9 n9) at_ st false 0)):=⟨by kernel_rfl,by unfold BC;kernel_rfl⟩
theorem pH(L P:List Value)(pa:Option Addr)(pn pc:Nat)(n:Nat)(port k0 n0 k1 n1 k2 n2 k3 n3 k4 n4 k5 n5 k6 n6 n7 k8 n8 k9 n9 at_ st o N:Int):
 Cm (BA (AP (BG 8 2 7 o)) 0 true N (mV L P (AM n) (.slice pa pn pc) port (AI k0 n0 k1 n1 k2 n2 k3 n3 k4 n4 k5 n5 k6 n6 3 n7 k8 n8 k9 n9) at_ st false 0))=
  some (seenV (.bool true) L P (AM n) (.slice pa pn pc) port (AI k0 n0 k1 n1 1 N k3 n3 k4 n4 k5 n5 k6 n6 3 n7 k8 n8 k9 n9) (C7 at_) (C7 st) false 0,[Fw at_ n,GB L at_ (AP (BG 8 2 7 o)),DD 64 [.slice pa pn pc, .int .i64 (Rl o), .int .i64 8] (.cells true P) (.tuple ⟨[.int .u64 N, .int .i64 0]⟩)])/\
 BC (BA (AP (BG 8 2 7 o)) 0 true N (mV L P (AM n) (.slice pa pn pc) port (AI k0 n0 k1 n1 k2 n2 k3 n3 k4 n4 k5 n5 k6 n6 3 n7 k8 n8 k9 n9) at_ st false 0)):=⟨by kernel_rfl,by unfold BC;kernel_rfl⟩
theorem fw(L P:List Value)(pv:Value)(n:Nat)(port k0 n0 k1 n1 k3 n3 k4 n4 k5 n5 k6 n6 k7 n7 k8 n8 k9 n9 at_ st a:Int):
 Cm (BA (AP (C0 8)) 0 true 0 (mV L P (AM n) pv port (AI k0 n0 k1 n1 1 a k3 n3 k4 n4 k5 n5 k6 n6 k7 n7 k8 n8 k9 n9) at_ st false 0))=
  some (seenV (.bool true) L P (AM n) pv port (AI k0 n0 k1 n1 1 (Kd (Na a) 0) k3 n3 k4 n4 k5 n5 k6 n6 k7 n7 k8 n8 k9 n9) (C7 at_) (C7 st) false 0,[Fw at_ n,GB L at_ (AP (C0 8))])/\
 BC (BA (AP (C0 8)) 0 true 0 (mV L P (AM n) pv port (AI k0 n0 k1 n1 1 a k3 n3 k4 n4 k5 n5 k6 n6 k7 n7 k8 n8 k9 n9) at_ st false 0)):=⟨by kernel_rfl,by unfold BC;kernel_rfl⟩
theorem Tf(L P:List Value)(pv:Value)(n:Nat)(port k0 n0 k1 n1 k2 n2 k3 n3 k4 n4 k5 n5 k6 n6 k7 n7 k9 n9 at_ st a imm o:Int):
 Cm (BA (AP (BE (Cw 3 8 imm) o)) 0 true 0 (mV L P (AM n) pv port (AI k0 n0 k1 n1 k2 n2 k3 n3 k4 n4 k5 n5 k6 n6 k7 n7 1 a k9 n9) at_ st false 0))=
  some (seenV (.bool true) L P (AM n) pv port (AI k0 n0 k1 n1 k2 n2 k3 n3 k4 n4 k5 n5 k6 n6 k7 n7 1 a k9 n9) (IntKind.wrap .i64 (Int.add (C7 at_) (IntKind.wrap .i64 o))) (C7 st) false 0,[Fw at_ n,GB L at_ (AP (BE (Cw 3 8 imm) o)),DD 71 [.int .i64 3, .bool true, .int .u64 a, .int .u64 (Ed imm)] (.cells true P) (.tuple ⟨[.bool true, .int .i64 0]⟩)])/\
 BC (BA (AP (BE (Cw 3 8 imm) o)) 0 true 0 (mV L P (AM n) pv port (AI k0 n0 k1 n1 k2 n2 k3 n3 k4 n4 k5 n5 k6 n6 k7 n7 1 a k9 n9) at_ st false 0)):=⟨by kernel_rfl,by unfold BC;kernel_rfl⟩
theorem Tg(L P:List Value)(pv:Value)(n:Nat)(port k0 n0 k1 n1 k3 n3 k4 n4 k5 n5 k6 n6 k7 n7 k8 n8 k9 n9 at_ st a imm o:Int):
 Cm (BA (AP (BE (Cw 5 2 imm) o)) 0 false 0 (mV L P (AM n) pv port (AI k0 n0 k1 n1 1 a k3 n3 k4 n4 k5 n5 k6 n6 k7 n7 k8 n8 k9 n9) at_ st false 0))=
  some (seenV (.bool true) L P (AM n) pv port (AI k0 n0 k1 n1 1 a k3 n3 k4 n4 k5 n5 k6 n6 k7 n7 k8 n8 k9 n9) (C7 at_) (C7 st) false 0,[Fw at_ n,GB L at_ (AP (BE (Cw 5 2 imm) o)),DD 71 [.int .i64 5, .bool true, .int .u64 a, .int .u64 (Ed imm)] (.cells true P) (.tuple ⟨[.bool false, .int .i64 0]⟩)])/\
 BC (BA (AP (BE (Cw 5 2 imm) o)) 0 false 0 (mV L P (AM n) pv port (AI k0 n0 k1 n1 1 a k3 n3 k4 n4 k5 n5 k6 n6 k7 n7 k8 n8 k9 n9) at_ st false 0)):=⟨by kernel_rfl,by unfold BC;kernel_rfl⟩
theorem Rp(L P:List Value)(pv:Value)(n:Nat)(port k0 n0 k1 n1 k3 n3 k4 n4 k5 n5 k6 n6 k7 n7 k8 n8 k9 n9 at_ st a imm o:Int):
 Cm (BA (AP (BE (Cw 10 2 imm) o)) 0 true 0 (mV L P (AM n) pv port (AI k0 n0 k1 n1 1 a k3 n3 k4 n4 k5 n5 k6 n6 k7 n7 k8 n8 k9 n9) at_ st false 0))=
  some (seenV (.bool true) L P (AM n) pv port (AI k0 n0 k1 n1 1 a k3 n3 k4 n4 k5 n5 k6 n6 k7 n7 k8 n8 k9 n9) (IntKind.wrap .i64 (Int.add (C7 at_) (IntKind.wrap .i64 o))) (C7 st) false 0,[Fw at_ n,GB L at_ (AP (BE (Cw 10 2 imm) o)),DD 71 [.int .i64 10, .bool true, .int .u64 a, .int .u64 (Ed imm)] (.cells true P) (.tuple ⟨[.bool true, .int .i64 0]⟩)])/\
 BC (BA (AP (BE (Cw 10 2 imm) o)) 0 true 0 (mV L P (AM n) pv port (AI k0 n0 k1 n1 1 a k3 n3 k4 n4 k5 n5 k6 n6 k7 n7 k8 n8 k9 n9) at_ st false 0)):=⟨by kernel_rfl,by unfold BC;kernel_rfl⟩
theorem Rq(L P:List Value)(pv:Value)(n:Nat)(port k0 n0 k1 n1 k2 n2 k3 n3 k4 n4 k5 n5 k6 n6 k7 n7 k9 n9 at_ st a imm o:Int):
 Cm (BA (AP (BE (Cw 10 8 imm) o)) 0 false 0 (mV L P (AM n) pv port (AI k0 n0 k1 n1 k2 n2 k3 n3 k4 n4 k5 n5 k6 n6 k7 n7 1 a k9 n9) at_ st false 0))=
  some (seenV (.bool true) L P (AM n) pv port (AI k0 n0 k1 n1 k2 n2 k3 n3 k4 n4 k5 n5 k6 n6 k7 n7 1 a k9 n9) (C7 at_) (C7 st) false 0,[Fw at_ n,GB L at_ (AP (BE (Cw 10 8 imm) o)),DD 71 [.int .i64 10, .bool true, .int .u64 a, .int .u64 (Ed imm)] (.cells true P) (.tuple ⟨[.bool false, .int .i64 0]⟩)])/\
 BC (BA (AP (BE (Cw 10 8 imm) o)) 0 false 0 (mV L P (AM n) pv port (AI k0 n0 k1 n1 k2 n2 k3 n3 k4 n4 k5 n5 k6 n6 k7 n7 1 a k9 n9) at_ st false 0)):=⟨by kernel_rfl,by unfold BC;kernel_rfl⟩
theorem Th(L P:List Value)(pv:Value)(n:Nat)(port k0 n0 k1 n1 k2 n2 k3 n3 k4 n4 k5 n5 k6 n6 k7 n7 k9 n9 at_ st a imm o:Int):
 Cm (BA (AP (BE (Cw 2 8 imm) o)) 0 true 0 (mV L P (AM n) pv port (AI k0 n0 k1 n1 k2 n2 k3 n3 k4 n4 k5 n5 k6 n6 k7 n7 1 a k9 n9) at_ st false 0))=
  some (seenV (.bool true) L P (AM n) pv port (AI k0 n0 k1 n1 k2 n2 k3 n3 k4 n4 k5 n5 k6 n6 k7 n7 1 a k9 n9) (IntKind.wrap .i64 (Int.add (C7 at_) (IntKind.wrap .i64 o))) (C7 st) false 0,[Fw at_ n,GB L at_ (AP (BE (Cw 2 8 imm) o)),DD 71 [.int .i64 2, .bool true, .int .u64 a, .int .u64 (Ed imm)] (.cells true P) (.tuple ⟨[.bool true, .int .i64 0]⟩)])/\
 BC (BA (AP (BE (Cw 2 8 imm) o)) 0 true 0 (mV L P (AM n) pv port (AI k0 n0 k1 n1 k2 n2 k3 n3 k4 n4 k5 n5 k6 n6 k7 n7 1 a k9 n9) at_ st false 0)):=⟨by kernel_rfl,by unfold BC;kernel_rfl⟩
theorem Tk(L P:List Value)(pv:Value)(n:Nat)(port k0 n0 k1 n1 k4 n4 k5 n5 k6 n6 k7 n7 k8 n8 k9 n9 at_ st a c o:Int):
 Cm (BA (AP (BE (Ec 10) o)) 0 false 0 (mV L P (AM n) pv port (AI k0 n0 k1 n1 1 a 1 c k4 n4 k5 n5 k6 n6 k7 n7 k8 n8 k9 n9) at_ st false 0))=
  some (seenV (.bool true) L P (AM n) pv port (AI k0 n0 k1 n1 1 a 1 c k4 n4 k5 n5 k6 n6 k7 n7 k8 n8 k9 n9) (C7 at_) (C7 st) false 0,[Fw at_ n,GB L at_ (AP (BE (Ec 10) o)),DD 71 [.int .i64 10, .bool true, .int .u64 a, .int .u64 c] (.cells true P) (.tuple ⟨[.bool false, .int .i64 0]⟩)])/\
 BC (BA (AP (BE (Ec 10) o)) 0 false 0 (mV L P (AM n) pv port (AI k0 n0 k1 n1 1 a 1 c k4 n4 k5 n5 k6 n6 k7 n7 k8 n8 k9 n9) at_ st false 0)):=⟨by kernel_rfl,by unfold BC;kernel_rfl⟩
theorem mA(L P:List Value)(pv:Value)(n:Nat)(port k0 n0 k1 n1 k2 n2 k3 n3 k4 n4 k5 n5 k6 n6 k7 n7 k8 n8 k9 n9 at_ st o:Int):
 Cm (BA (AP (BE Bm o)) 0 true 0 (mV L P (AM n) pv port (AI k0 n0 k1 n1 k2 n2 k3 n3 k4 n4 k5 n5 k6 n6 k7 n7 k8 n8 k9 n9) at_ st false 0))=
  some (seenV (.bool true) L P (AM n) pv port (AI k0 n0 k1 n1 k2 n2 k3 n3 k4 n4 k5 n5 k6 n6 k7 n7 k8 n8 k9 n9) (IntKind.wrap .i64 (Int.add (C7 at_) (IntKind.wrap .i64 o))) (C7 st) false 0,[Fw at_ n,GB L at_ (AP (BE Bm o))])/\
 BC (BA (AP (BE Bm o)) 0 true 0 (mV L P (AM n) pv port (AI k0 n0 k1 n1 k2 n2 k3 n3 k4 n4 k5 n5 k6 n6 k7 n7 k8 n8 k9 n9) at_ st false 0)):=⟨by kernel_rfl,by unfold BC;kernel_rfl⟩
end
end Go.Proofs.YtgjflcgmieiafaaDoor
namespace Go.Cmp
def KC(x:BitVec 64):BitVec 64:=
 let x:=(x >>> 8 &&& 0x00ff00ff00ff00ff#64)|||((x &&& 0x00ff00ff00ff00ff#64)<<<8)
 let x:=(x >>> 16 &&& 0x0000ffff0000ffff#64)|||((x &&& 0x0000ffff0000ffff#64)<<<16)
 x >>> 32|||x <<<32
theorem dB(x:BitVec 64):∀i,i<64->(KC x).getLsbD i=x.getLsbD (8*(7 - i / 8)+i % 8):=by
 intro i hi
 have h:i=0\/i=1\/i=2\/i=3\/i=4\/i=5\/i=6\/i=7\/i=8\/i=9\/i=10\/i=11\/i=12\/i=13\/i=14\/i=15\/i=16\/i=17\/i=18\/i=19\/i=20\/i=21\/i=22\/i=23\/i=24\/i=25\/i=26\/i=27\/i=28\/i=29\/i=30\/i=31\/i=32\/i=33\/i=34\/i=35\/i=36\/i=37\/i=38\/i=39\/i=40\/i=41\/i=42\/i=43\/i=44\/i=45\/i=46\/i=47\/i=48\/i=49\/i=50\/i=51\/i=52\/i=53\/i=54\/i=55\/i=56\/i=57\/i=58\/i=59\/i=60\/i=61\/i=62\/i=63:=by omega
 rcases h with rfl|rfl|rfl|rfl|rfl|rfl|rfl|rfl|rfl|rfl|rfl|rfl|rfl|rfl|rfl|rfl|rfl|rfl|rfl|rfl|rfl|rfl|rfl|rfl|rfl|rfl|rfl|rfl|rfl|rfl|rfl|rfl|rfl|rfl|rfl|rfl|rfl|rfl|rfl|rfl|rfl|rfl|rfl|rfl|rfl|rfl|rfl|rfl|rfl|rfl|rfl|rfl|rfl|rfl|rfl|rfl|rfl|rfl|rfl|rfl|rfl|rfl|rfl|rfl<;>simp[KC]
theorem tb(n b i:Nat)(hb:b<256):(n*256+b).testBit i=if i<8 then b.testBit i else n.testBit (i - 8):=by
 have:=Nat.testBit_two_pow_mul_add (a:=n) (b:=b) (i:=8) (by simpa using hb) i
 rw[show n*256+b=2 ^ 8*n+b by omega,this]
theorem bb(n j i:Nat):(n / 2 ^ j % 256).testBit i=(decide (i<8) && n.testBit (j+i)):=by
 rw[show(256:Nat)=2 ^ 8 by rfl,Nat.testBit_mod_two_pow,Nat.testBit_div_two_pow]
 congr 2
 omega
def JS(n:Nat):Nat:=(((((((n % 256)*256+n / 2 ^ 8 % 256)*256+n / 2 ^ 16 % 256)*256+n / 2 ^ 24 % 256)*256+n / 2 ^ 32 % 256)*256+n / 2 ^ 40 % 256)*256+n / 2 ^ 48 % 256)*256+n / 2 ^ 56 % 256
theorem Xy(n i:Nat)(hi:i<64):(JS n).testBit i=n.testBit (8*(7 - i / 8)+i % 8):=by
 unfold JS
 have b0:∀k,(n % 256).testBit k=(decide (k<8) && n.testBit k):=λk=>by
  have:=bb n 0 k;simpa using this
 repeat rw[tb _ _ _ (Nat.mod_lt _ (by decide))]
 simp only[bb,b0]
 (repeat' split)<;>(rw[decide_eq_true (by omega),Bool.true_and];congr 1;omega)
theorem dC(x:BitVec 64):(KC x).toNat=JS x.toNat:=by
 apply Nat.eq_of_testBit_eq
 intro i
 by_cases hi:i<64
 ·rw[Xy _ _ hi];exact dB x i hi
 ·have h1:(KC x).toNat<2 ^ 64:=(KC x).isLt;have h2:JS x.toNat<2 ^ 64:=by unfold JS;omega
  rw[Nat.testBit_lt_two_pow (Nat.lt_of_lt_of_le h1 (Nat.pow_le_pow_right (by decide) (by omega))),Nat.testBit_lt_two_pow (Nat.lt_of_lt_of_le h2 (Nat.pow_le_pow_right (by decide) (by omega)))]
end Go.Cmp
namespace Go.Cmp
open Go Go.DI
set_option maxRecDepth 100000
theorem mv{n:Nat}(h:n<65536):JS n / 2 ^ 48=n % 256*256+n / 256:=by unfold JS;omega
theorem mw{n:Nat}(h:n<4294967296):JS n / 2 ^ 32=((n % 256*256+n / 256 % 256)*256+n / 65536 % 256)*256+n / 16777216:=by
 unfold JS
 have h0:n / 2 ^ 32 % 256=0:=by omega
 have h1:n / 2 ^ 40 % 256=0:=by omega
 have h2:n / 2 ^ 48 % 256=0:=by omega
 have h3:n / 2 ^ 56 % 256=0:=by omega
 have h4:n / 2 ^ 24 % 256=n / 16777216:=by omega
 rw[h0,h1,h2,h3,h4,show n / 2 ^ 16=n / 65536 from rfl,show n / 2 ^ 8=n / 256 from rfl]
 generalize ((n % 256*256+n / 256 % 256)*256+n / 65536 % 256)*256+n / 16777216=a
 omega
theorem jV{n:Nat}(h:n<65536):FW 2 (n:Int)=((JS n / 2 ^ 48:Nat):Int):=by
 rw[mv h]
 have e:FW 2 (n:Int)=256*(256*0+(n:Int) % 256)+(n:Int) / 256 % 256:=rfl
 rw[e];omega
theorem jW{n:Nat}(h:n<4294967296):FW 4 (n:Int)=((JS n / 2 ^ 32:Nat):Int):=by
 rw[mw h]
 have e:FW 4 (n:Int)=256*(256*(256*(256*0+(n:Int) % 256)+(n:Int) / 256 % 256)+(n:Int) / 256 / 256 % 256)+(n:Int) / 256 / 256 / 256 % 256:=rfl
 have h1:(n:Int) / 256 / 256=(n:Int) / 65536:=by omega
 have h2:(n:Int) / 65536 / 256=(n:Int) / 16777216:=by omega
 have n1:n / 256 / 256=n / 65536:=by omega
 have n2:n / 65536 / 256=n / 16777216:=by omega
 have n3:n / 16777216 / 256=0:=by omega
 have n4:(n:Int) / 16777216 / 256=0:=by omega
 rw[e,h1,h2]
 omega
theorem jX{n:Nat}(h:n<18446744073709551616):FW 8 (n:Int)=((JS n / 2 ^ 0:Nat):Int):=by
 have e:FW 8 (n:Int)=256*(256*(256*(256*(256*(256*(256*(256*0+(n:Int) % 256)+(n:Int) / 256 % 256)+(n:Int) / 256 / 256 % 256)+(n:Int) / 256 / 256 / 256 % 256)+(n:Int) / 256 / 256 / 256 / 256 % 256)+(n:Int) / 256 / 256 / 256 / 256 / 256 % 256)+(n:Int) / 256 / 256 / 256 / 256 / 256 / 256 % 256)+(n:Int) / 256 / 256 / 256 / 256 / 256 / 256 / 256 % 256:=rfl
 have e2:JS n / 2 ^ 0=(((((((n % 256)*256+n / 256 % 256)*256+n / 256 / 256 % 256)*256+n / 256 / 256 / 256 % 256)*256+n / 256 / 256 / 256 / 256 % 256)*256+n / 256 / 256 / 256 / 256 / 256 % 256)*256+n / 256 / 256 / 256 / 256 / 256 / 256 % 256)*256+n / 256 / 256 / 256 / 256 / 256 / 256 / 256 % 256:=by
  have q2:n / 2 ^ 16=n / 2 ^ 8 / 256:=by rw[Nat.div_div_eq_div_mul]
  have q3:n / 2 ^ 24=n / 2 ^ 16 / 256:=by rw[Nat.div_div_eq_div_mul]
  have q4:n / 2 ^ 32=n / 2 ^ 24 / 256:=by rw[Nat.div_div_eq_div_mul]
  have q5:n / 2 ^ 40=n / 2 ^ 32 / 256:=by rw[Nat.div_div_eq_div_mul]
  have q6:n / 2 ^ 48=n / 2 ^ 40 / 256:=by rw[Nat.div_div_eq_div_mul]
  have q7:n / 2 ^ 56=n / 2 ^ 48 / 256:=by rw[Nat.div_div_eq_div_mul]
  rw[Nat.pow_zero,Nat.div_one];unfold JS;rw[q7,q6,q5,q4,q3,q2]
 rw[e,e2]
 push_cast
 omega
theorem QE{z:Int}{n:Nat}(hz:z=2\/z=4\/z=8)(h:(n:Int)<256 ^ z.toNat):FW z (n:Int)=(((KC (BitVec.ofNat 64 n)).toNat / 2 ^ (64 - 8*z.toNat):Nat):Int):=by
 have hn:n<18446744073709551616:=by
  rcases hz with rfl|rfl|rfl
  ·have:(n:Int)<65536:=h;omega
  ·have:(n:Int)<4294967296:=h;omega
  ·have:(n:Int)<18446744073709551616:=h;omega
 rw[dC,BitVec.toNat_ofNat,Nat.mod_eq_of_lt (by simpa using hn)]
 rcases hz with rfl|rfl|rfl
 ·exact jV (by have:(n:Int)<65536:=h;omega)
 ·exact jW (by have:(n:Int)<4294967296:=h;omega)
 ·exact jX hn
end Go.Cmp
namespace Go.Proofs.YtgjflcgmieiafaaDoor
open Go Go.DI Go.DI.Kit Go.Proofs Go.Cmp
noncomputable section
theorem aM{a:List Value}{b:Bool}(h:Jk a b)(M:Mem):Cr Tryd.prog kp 1 20 71 a M=some (.tuple ⟨[.bool b, .int .i64 0]⟩,M):=by
 unfold Jk at h
 split at h
 ·rename_i op x y;obtain⟨hop,rfl⟩:=h
  have key:∀w:Bool,(∀q:Value->Mem->Option (Value×Mem),Y.callK Tryd.prog kp 1 20 71 [.int .i64 op, .bool true, .int .u64 x, .int .u64 y] M q=OY w M q)->w=Cj op x y->Cr Tryd.prog kp 1 20 71 [.int .i64 op, .bool true, .int .u64 x, .int .u64 y] M=some (.tuple ⟨[.bool (Cj op x y), .int .i64 0]⟩,M):=by
   intro w hw e;have h1:=hw λv m=>some (v,m);rw[Y.callK_eq]at h1;have h2:OY w M (λv m=>some (v,m))=some (.tuple ⟨[.bool w, .int .i64 0]⟩,M):=by cases w<;>rfl
   rw[h2]at h1;cases hc:Cr Tryd.prog kp 1 20 71 [.int .i64 op, .bool true, .int .u64 x, .int .u64 y] M with
   |none=>rw[hc]at h1;cases h1
   |some r=>
    obtain⟨v,m⟩:=r;rw[hc]at h1;rw[←e];exact h1
  rcases hop with rfl|rfl|rfl|rfl
  ·refine key _ (λq=>ek x y M q) ?_;unfold Cj;by_cases hxy:x<y
   ·rw[Ee hxy];simp;omega
   ·rw[C3 hxy];simp;omega
  ·refine key _ (λq=>en x y M q) ?_;unfold Cj;by_cases hxy:x=y
   ·rw[Bf hxy];simp[hxy]
   ·rw[Bi hxy];simp[hxy]
  ·refine key _ (λq=>aC x y M q) ?_;unfold Cj;by_cases hxy:x<y
   ·rw[Ee hxy];simp[hxy]
   ·rw[C3 hxy];simp[hxy]
  ·refine key _ (λq=>ep x y M q) ?_;unfold Cj;by_cases hxy:y<x
   ·rw[Ee hxy];simp[hxy]
   ·rw[C3 hxy];simp[hxy]
 ·cases h
theorem T3{a:List Value}{b c:Bool}(h:Jk a b)(k:Jk a c):b=c:=by
 unfold Jk at h k
 split at h
 ·rw[h.2,k.2]
 ·cases h
theorem NO:∀{a b:List Int},AQ a=AQ b->a=b
 | [],[],_=>rfl
 | [],_::_,h=>by simp[AQ]at h
 |_::_,[],h=>by simp[AQ]at h
 |x::a,y::b,h=>by
  simp only[AQ,List.map_cons,List.cons.injEq,Value.int.injEq,true_and]at h;rw[h.1,NO h.2]
theorem XH{a:List Value}{x:BI}{N N':Int}(h:RX a x N)(k:RX a x N'):N=N':=by
 unfold RX at h k
 split at h
 ·obtain⟨pk,h1,rfl⟩:=h;obtain⟨pk',k1,rfl⟩:=k;obtain⟨o,ho⟩:=h1.blk;obtain⟨o',ho'⟩:=k1.blk;rw[ho]at ho';simp only[BI.cells.injEq]at ho';rw[NO ho'.2]
 ·cases h
open Classical in
def oG:DT:=λf a m=>if h:f=71/\∃b,Jk a b then some (.tuple ⟨[.bool h.2.choose, .int .i64 0]⟩,m)
 else if h:f=64/\∃N,∃b,eW a=some b/\RX a (m.get b) N then some (.tuple ⟨[.int .u64 h.2.choose, .int .i64 0]⟩,m)else none
theorem fI{a:List Value}{b:Bool}(h:Jk a b)(m:Mem):oG 71 a m=some (.tuple ⟨[.bool b, .int .i64 0]⟩,m):=by
 have hc:(71:FuncId)=71/\∃b,Jk a b:=⟨rfl,b,h⟩
 unfold oG
 rw[dif_pos hc,T3 hc.2.choose_spec h]
theorem l6{a:List Value}{N:Int}{b:Nat}{m:Mem}(hb:eW a=some b)(h:RX a (m.get b) N):oG 64 a m=some (.tuple ⟨[.int .u64 N, .int .i64 0]⟩,m):=by
 have hc:(64:FuncId)=64/\∃N,∃b,eW a=some b/\RX a (m.get b) N:=⟨rfl,N,b,hb,h⟩
 unfold oG
 rw[dif_neg (by rintro⟨h,_⟩;cases h),dif_pos hc]
 obtain⟨b',hb',h'⟩:=hc.2.choose_spec
 rw[hb]at hb'
 cases hb'
 rw[XH h' h]
theorem l7{f:FuncId}(h1:f≠71)(h2:f≠64)(a:List Value)(m:Mem):oG f a m=none:=by
 unfold oG
 rw[dif_neg λh=>h1 h.1,dif_neg λh=>h2 h.1]
theorem aN:(∀B0,CT Tryd.prog B0 1 oG)/\Bc oG:=T0 λf a m v m' h=>by
 unfold oG at h
 split at h
 ·rename_i hc;simp only[Option.some.injEq,Prod.mk.injEq]at h;obtain⟨rfl,rfl⟩:=h;obtain⟨rfl,hb⟩:=hc;exact⟨Cr Tryd.prog kp 1 20,λB0=>JQ Br hK FZ 20,λ_ _ _ _ _ h=>Fb 20 _ _ _ _ _ h,aM hb.choose_spec m⟩
 ·split at h<;>simp at h;rename_i hc;obtain⟨rfl,rfl⟩:=h;obtain⟨rfl,hb⟩:=hc;refine⟨Bw Tryd.prog kp 1 oW 20,λB0=>Dg Br hK FZ (aK.1 B0) aK.2 20,Cb aK.2 20,?_⟩;obtain⟨b,h1,h2⟩:=hb.choose_spec
  revert h2
  generalize hb.choose=N;intro h2;unfold RX at h2;split at h2
  ·rename_i b' sp n c off z _;have h1:some b'=some b:=h1;cases h1;obtain⟨pk,h3,rfl⟩:=h2;exact fH h3
  ·cases h2
def kd:RV->Int
 | .none=>0
 | .num _=>1
 | .ctx=>2
 | .pkt=>3
def nv:RV->Int
 | .num n=>n
 |_=>0
def AK(r:Int->RV):List Value:=AI (kd (r 0)) (nv (r 0)) (kd (r 1)) (nv (r 1)) (kd (r 2)) (nv (r 2)) (kd (r 3)) (nv (r 3)) (kd (r 4)) (nv (r 4)) (kd (r 5)) (nv (r 5)) (kd (r 6)) (nv (r 6)) (kd (r 7)) (nv (r 7)) (kd (r 8)) (nv (r 8)) (kd (r 9)) (nv (r 9))
def GN(r:Int->RV):Prop:=∀i n,r i= .num n->u64 n
def FN(pk:List Int)(sp:Option Nat):Value:= .slice (some ⟨3,0,sp⟩) pk.length pk.length
def GO(l:List B1)(pk:List Int)(sp:Option Nat)(port:Int)(r:Int->RV)(at_ st:Nat):Mem:=mV (AD l) (AQ pk) (AM l.length) (FN pk sp) port (AK r) (at_:Int) (st:Int) false 0
def Bn(l:List B1)(pk:List Int)(sp:Option Nat)(port:Int)(r:Int->RV)(at_ st:Nat)(over:Bool):Seen:=seenV (.bool true) (AD l) (AQ pk) (AM l.length) (FN pk sp) port (AK r) (at_:Int) (st:Int) over 0
def V0(l:List B1)(pk:List Int)(sp:Option Nat)(port:Int)(r:Int->RV)(at_ st:Nat)(r':Int->RV)(at' st':Nat)(over:Bool):Prop:=
 ∃v m,Bw Tryd.prog kp 1 oG 20 21 [.pointer (some ⟨1,0,none⟩)] (GO l pk sp port r at_ st)=some (v,m)/\RW v m=Bn l pk sp port r' at' st' over
theorem oy{x:List Value}{imm2:Int}{b:Bool}{N:Int}(f:FuncId)(v:Value)(args:List Value)(m:Mem)(hc:(hV x imm2 b N).call f=some v)(hs:(hV x imm2 b N).spec f args (m.get (hV x imm2 b N).blk) v):oG f args m=some (v,m):=by
 rcases hs with⟨rfl,w,rfl,h⟩|⟨rfl,hb,w,rfl,h⟩
 ·exact fI h m
 ·exact l6 hb h
theorem l8{x:List Value}{imm2:Int}{b:Bool}{N:Int}(f:FuncId)(hc:(hV x imm2 b N).call f=none)(a:List Value)(m:Mem):oG f a m=none:=
 l7 (by rintro rfl;cases hc) (by rintro rfl;cases hc) a m
theorem BO{x:List Value}{imm2:Int}{b:Bool}{N:Int}{M:Mem}{s:Seen}{qs:List Prop}(h:Cm (BA x imm2 b N M)=some (s,qs)/\BC (BA x imm2 b N M))(hq:∀p∈qs,p):
  ∃v m,Bw Tryd.prog kp 1 oG 20 21 [.pointer (some ⟨1,0,none⟩)] M=some (v,m)/\RW v m=s:=
 H.callO_H (H:=hV x imm2 b N) (o:=oG) oy l8 (g:=RW) h.1 h.2 hq
theorem HJ{n:Int}(h:Dz n):Ed n=n:=by
 unfold Ed
 rw[wrap_i64 (by have:=h.1;have:=h.2;omega),wrap_u64 ⟨h.1,by have:=h.2;omega⟩]
theorem AY{n:Nat}(h:n<=1000000000):C7 (n:Int)=((n+1:Nat):Int):=wrap_i64 (by show _<=(n:Int)+1/\(n:Int)+1<=_;omega)
theorem Fk(x:B1):(AP x).length=5:=rfl
theorem Dv{l:List B1}{p:Nat}{x:B1}(hx:l[p]?=some x):Fw (p:Int) l.length/\GB (AD l) (p:Int) (AP x):=by
 have hp:=(List.getElem?_eq_some_iff.1 hx).1
 refine⟨⟨by omega,by omega⟩,AP x,?_,rfl⟩
 have e:Nat.add 0 (Nat.mul ((p:Int)).toNat 5)=p*5:=by show 0+(p:Int).toNat*5=_;omega
 rw[e]
 show(if p*5+5<=(AD l).length then some (((AD l).drop (p*5)).take 5)else none)=_
 have hl:(AD l).length=l.length*5:=DL Fk l
 rw[if_pos (by rw[hl];omega)]
 obtain⟨r,hr⟩:=Gl Fk l p x hx
 unfold AD
 rw[hr]
 rfl
theorem HI(pk:List Int):(AQ pk).length=pk.length:=by simp[AQ]
end
end Go.Proofs.YtgjflcgmieiafaaDoor
namespace Go.Proofs.YtgjflcgmieiafaaDoor
open Go Go.DI Go.DI.Kit Go.Proofs Go.Cmp
theorem V3(s:Nat):(2:Int) ^ s=((2 ^ s:Nat):Int):=by
 rw[Int.natCast_pow];rfl
theorem Ru(n s:Nat)(hs:s<=64):Kd (n:Int) (s:Int)=((n >>> s:Nat):Int):=by
 show(n:Int).fdiv (2 ^ (min ((s:Int)).toNat 64))=_
 have e:min ((s:Int)).toNat 64=s:=by simp;omega
 rw[e,Nat.shiftRight_eq_div_pow,V3,Int.fdiv_eq_ediv_of_nonneg _ (Int.natCast_nonneg _)]
 exact(Int.natCast_ediv n (2 ^ s)).symm
theorem bH(n s:Nat)(hs:s<=64):NJ (n:Int) (s:Int)=((n <<<s % 18446744073709551616:Nat):Int):=by
 show IntKind.wrap .u64 ((n:Int)*2 ^ (min ((s:Int)).toNat 64))=_
 have e:min ((s:Int)).toNat 64=s:=by simp;omega
 have hw:∀x:Int,IntKind.wrap .u64 x=x % 18446744073709551616:=λx=>by simp[IntKind.wrap,IntKind.bits,IntKind.signed]
 rw[e,Nat.shiftLeft_eq,V3,hw,←Int.natCast_mul]
 exact(Int.natCast_emod _ _).symm
theorem V4(a b:BitVec 64):LJ (a.toNat:Int) (b.toNat:Int)=((a &&& b).toNat:Int):=by
 have ha:=a.isLt
 have hb:=b.isLt
 have h64:(2:Nat) ^ 64=18446744073709551616:=by decide
 rw[h64]at ha hb
 have:=Tl (a:=(a.toNat:Int)) (b:=(b.toNat:Int)) ⟨by omega,by omega⟩ ⟨by omega,by omega⟩
 unfold LJ
 rw[show IntKind.bits .u64=64 from rfl]
 refine this.trans ?_
 unfold DW
 rw[Int.toNat_natCast,Int.toNat_natCast,BitVec.toNat_and]
theorem bI(a b:BitVec 64):eu (a.toNat:Int) (b.toNat:Int)=((a|||b).toNat:Int):=by
 have ha:=a.isLt
 have hb:=b.isLt
 have h64:(2:Nat) ^ 64=18446744073709551616:=by decide
 rw[h64]at ha hb
 rw[T2 ha hb,BitVec.toNat_or]
theorem V5(a:BitVec 64)(s:Nat)(hs:s<=64):Kd (a.toNat:Int) (s:Int)=((a >>> s).toNat:Int):=by
 rw[Ru _ _ hs,BitVec.toNat_ushiftRight]
theorem V6(a:BitVec 64)(s:Nat)(hs:s<=64):NJ (a.toNat:Int) (s:Int)=((a <<<s).toNat:Int):=by
 rw[bH _ _ hs,BitVec.toNat_shiftLeft]
theorem V7(a m:BitVec 64)(s:Nat)(hs:s<=64):XW (a.toNat:Int) (m.toNat:Int) (s:Int)=((((a >>> s) &&& m)|||((a &&& m)<<<s)).toNat:Int):=by
 unfold XW
 rw[V5 a s hs,V4,V4,V6 _ s hs,bI]
theorem fy(a:BitVec 64):Na (a.toNat:Int)=((KC a).toNat:Int):=by
 have h1:=V7 a 0x00ff00ff00ff00ff#64 8 (by decide)
 obtain⟨b,hb⟩:∃b:BitVec 64,(a >>> 8 &&& 0x00ff00ff00ff00ff#64)|||((a &&& 0x00ff00ff00ff00ff#64)<<<8)=b:=⟨_,rfl⟩
 rw[hb]at h1
 have h2:=V7 b 0x0000ffff0000ffff#64 16 (by decide)
 obtain⟨c,hc⟩:∃c:BitVec 64,(b >>> 16 &&& 0x0000ffff0000ffff#64)|||((b &&& 0x0000ffff0000ffff#64)<<<16)=c:=⟨_,rfl⟩
 rw[hc]at h2
 have e:KC a=c >>> 32|||c <<<32:=by rw[←hc,←hb];rfl
 have m1:(71777214294589695:Int)=((0x00ff00ff00ff00ff#64).toNat:Int):=by decide
 have m2:(281470681808895:Int)=((0x0000ffff0000ffff#64).toNat:Int):=by decide
 unfold Na
 rw[m1,m2]
 rw[show XW (a.toNat:Int) ((0x00ff00ff00ff00ff#64).toNat:Int) 8=(b.toNat:Int)from h1]
 rw[show XW (b.toNat:Int) ((0x0000ffff0000ffff#64).toNat:Int) 16=(c.toNat:Int)from h2]
 show eu (Kd (c.toNat:Int) ((32:Nat):Int)) (NJ (c.toNat:Int) ((32:Nat):Int))=_
 rw[V5 c 32 (by decide),V6 c 32 (by decide),bI,e]
theorem swap_lt{z:Int}{n:Nat}(hz:z=2\/z=4\/z=8)(h:(n:Int)<256 ^ z.toNat):n<18446744073709551616:=by
 rcases hz with rfl|rfl|rfl
 ·have:(n:Int)<65536:=h;omega
 ·have:(n:Int)<4294967296:=h;omega
 ·have:(n:Int)<18446744073709551616:=h;omega
theorem swap_eq{z a:Int}(hz:z=2\/z=4\/z=8)(h0:0<=a)(hl:a<256 ^ z.toNat):Kd (Na a) (64 - 8*z)=FW z a:=by
 obtain⟨n,rfl⟩:=Int.eq_ofNat_of_zero_le h0
 have hn:=swap_lt hz hl
 have e:(n:Int)=((BitVec.ofNat 64 n).toNat:Int):=by
  rw[BitVec.toNat_ofNat,Nat.mod_eq_of_lt (by simpa using hn)]
 have hr:Na (n:Int)=((KC (BitVec.ofNat 64 n)).toNat:Int):=by
  conv=>lhs;rw[e]
  exact fy _
 rw[QE hz hl,hr]
 have key:∀s:Nat,s<=64->(64 - 8*z)=(s:Int)->64 - 8*z.toNat=s->Kd (((KC (BitVec.ofNat 64 n)).toNat:Nat):Int) (64 - 8*z)=(((KC (BitVec.ofNat 64 n)).toNat / 2 ^ (64 - 8*z.toNat):Nat):Int):=λs h1 h2 h3=>by
  rw[h2,h3,Ru _ _ h1,Nat.shiftRight_eq_div_pow]
 rcases hz with rfl|rfl|rfl
 ·exact key 48 (by decide) (by decide) (by decide)
 ·exact key 32 (by decide) (by decide) (by decide)
 ·exact key 0 (by decide) (by decide) (by decide)
theorem XV{z a:Int}(hz:z=2\/z=4\/z=8)(h0:0<=a)(hl:a<256 ^ z.toNat):u64 (FW z a):=by
 obtain⟨n,rfl⟩:=Int.eq_ofNat_of_zero_le h0
 rw[QE hz hl]
 have h1:=(KC (BitVec.ofNat 64 n)).isLt
 have h64:(2:Nat) ^ 64=18446744073709551616:=by decide
 rw[h64]at h1
 have h2:=Nat.div_le_self (KC (BitVec.ofNat 64 n)).toNat (2 ^ (64 - 8*z.toNat))
 exact⟨Int.natCast_nonneg _,by omega⟩
end Go.Proofs.YtgjflcgmieiafaaDoor
namespace Go.Proofs.YtgjflcgmieiafaaDoor
open Go Go.DI Go.DI.Kit Go.Proofs Go.Cmp
noncomputable section
theorem GN.set{r:Int->RV}(h:GN r){d n:Int}(hn:u64 n):GN (By r d (.num n)):=λi k hk=>by
 unfold By at hk
 split at hk
 ·cases hk;exact hn
 ·exact h i k hk
theorem GN.setP{r:Int->RV}(h:GN r){d:Int}:GN (By r d .pkt):=λi k hk=>by
 unfold By at hk
 split at hk
 ·cases hk
 ·exact h i k hk
theorem GN.copy{r:Int->RV}(h:GN r)(d s:Int):GN (By r d (r s)):=λi k hk=>by
 unfold By at hk
 split at hk
 ·exact h s k hk
 ·exact h i k hk
theorem IN{n:Int}(h:Dz n):u64 n:=⟨h.1,by have:=h.2;omega⟩
theorem O1{a b:Int}(ha:u64 a)(hb:u64 b):u64 (DW a b):=by
 unfold DW
 have:=Nat.and_le_left (n:=a.toNat) (m:=b.toNat)
 have:=ha.1;have:=ha.2
 exact⟨by omega,by omega⟩
theorem Pm{a b:Int}(ha:u64 a)(hb:u64 b):LJ a b=DW a b:=Tl ha hb
theorem Rr{a:Int}(ha:u64 a):LJ a 4294967295=a % 4294967296:=by
 rw[Pm ha ⟨by decide,by decide⟩]
 unfold DW
 obtain⟨n,rfl⟩:=Int.eq_ofNat_of_zero_le ha.1
 have e:n &&& 4294967295=n % 2 ^ 32:=Nat.and_two_pow_sub_one_eq_mod n 32
 show((n &&& 4294967295:Nat):Int)=_
 rw[e];omega
theorem wU(n:Int):IntKind.wrap .u64 n=n % 18446744073709551616:=by simp[IntKind.wrap,IntKind.bits,IntKind.signed]
theorem Rs(n:Int):Ed n=n % 18446744073709551616:=by
 unfold Ed
 rw[wU,IntKind.wrap_i64]
 omega
theorem mB{n:Int}:LJ (LJ (Ed n) 4294967295) 4294967295=n % 4294967296:=by
 have h1:u64 (Ed n):=by rw[Rs];exact⟨by omega,by omega⟩
 have h2:u64 (Ed n % 4294967296):=⟨by omega,by omega⟩
 rw[Rr h1,Rr h2,Rs]
 omega
theorem bG{l h:Int}:eu (IntKind.wrap .u64 (IntKind.wrap .u32 l)) (NJ (IntKind.wrap .u64 (IntKind.wrap .u32 h)) 32)=l % 4294967296+4294967296*(h % 4294967296):=by
 have e1:IntKind.wrap .u64 (IntKind.wrap .u32 l)=l % 4294967296:=by rw[wU,IntKind.wrap_u32];omega
 have e2:IntKind.wrap .u64 (IntKind.wrap .u32 h)=h % 4294967296:=by rw[wU,IntKind.wrap_u32];omega
 rw[e1,e2]
 have e3:NJ (h % 4294967296) 32=h % 4294967296*4294967296:=by
  show IntKind.wrap .u64 (h % 4294967296*2 ^ (min (32:Int).toNat 64))=_;rw[show(2:Int) ^ (min (32:Int).toNat 64)=4294967296 by decide];exact wrap_u64 ⟨by omega,by omega⟩
 rw[e3]
 obtain⟨a,ha⟩:=Int.eq_ofNat_of_zero_le (show 0<=l % 4294967296 by omega)
 obtain⟨b,hb⟩:=Int.eq_ofNat_of_zero_le (show 0<=h % 4294967296 by omega)
 rw[ha,hb,show(b:Int)*4294967296=((b*4294967296:Nat):Int)by omega,T2 (by omega) (by omega)]
 have h32:(2:Nat) ^ 32=4294967296:=by decide
 have:=Nat.shiftLeft_add_eq_or_of_lt (a:=b) (b:=a) (i:=32) (by rw[h32];omega)
 rw[Nat.shiftLeft_eq,h32]at this
 rw[Nat.or_comm,←this]
 omega
theorem fx{n:Nat}(h:n<=1000000000):IntKind.wrap .i64 (Int.add (n:Int) 2)=((n+2:Nat):Int):=wrap_i64 (by show _<=(n:Int)+2/\(n:Int)+2<=_;omega)
theorem mC{pk:List Int}(h:pk.length<=1000000):IntKind.wrap .u64 (Int.ofNat pk.length)=(pk.length:Int):=wrap_u64 ⟨by show 0<=(pk.length:Int);omega,by show(pk.length:Int)<_;omega⟩
theorem Rt{p:Int}(h:0<=p/\p<4294967296):u64 p:=⟨h.1,by omega⟩
theorem mD{o:Nat}(h:o<=1000):Rl (o:Int)=(o:Int):=by
 have e:GZ (o:Int)=(o:Int):=by
  unfold GZ;simp[IntKind.wrap,IntKind.bits,IntKind.signed];omega
 unfold Rl
 rw[e,wrap_i64 (x:=(o:Int)) (by omega)]
 rw[wrap_i64 (x:=Int.add 0 (o:Int)) (by show _<=0+(o:Int)/\0+(o:Int)<=_;omega)]
 show 0+(o:Int)=_
 omega
theorem L2{p q:Nat}{o:Int}(hp:p<=1000000000)(hq:q<=1000000)(h:(q:Int)=(p:Int)+1+o):IntKind.wrap .i64 (Int.add (C7 (p:Int)) (IntKind.wrap .i64 o))=(q:Int):=by
 rw[AY hp,wrap_i64 (x:=o) (by omega)]
 rw[wrap_i64 (by show _<=((p+1:Nat):Int)+o/\((p+1:Nat):Int)+o<=_;omega)]
 show((p+1:Nat):Int)+o=_
 omega
theorem mE{l:List B1}{p:Nat}{h:Int}(hx:l[p+1]?=some ⟨0,0,0,0,h⟩)(hp:p<=1000000000):Fw (C7 (p:Int)) l.length/\H.ldOk (.cells true (AD l)) (Nat.add (Nat.add 0 (Nat.mul (C7 (p:Int)).toNat 5)) 4) false 1 (.int .i32 h):=by
 have hp1:=(List.getElem?_eq_some_iff.1 hx).1
 rw[AY hp]
 refine⟨⟨by omega,by omega⟩,?_⟩
 have e:Nat.add (Nat.add 0 (Nat.mul (((p+1:Nat):Int)).toNat 5)) 4=(p+1)*5+4:=by show 0+(((p+1:Nat):Int)).toNat*5+4=_;omega
 rw[e]
 show(AD l)[(p+1)*5+4]?=_
 obtain⟨r,hr⟩:=Gl Fk l (p+1) _ hx
 have h2:((AD l).drop ((p+1)*5))[4]?=some (.int .i32 h):=by
  unfold AD;rw[hr];rfl
 rw[List.getElem?_drop]at h2
 exact h2
set_option maxHeartbeats 4000000
theorem TP{l:List B1}{pk:List Int}{sp:Option Nat}{port:Int}{p p' st:Nat}{r r':Int->RV}(hR:GN r)(hb:∀b∈pk,0<=b/\b<256)(hpk:pk.length<=1000000)(hport:0<=port/\port<4294967296)(hp:p<=1000000000)(hst:st<=1000000000)(hp2:p'<=1000000)
  (h:EN l pk port p r p' r'):V0 l pk sp port r p st r' p' (st+1) false/\GN r':=by
 cases h with
 |movI hc hd hn=>
  rename_i d n;obtain⟨q1,q2⟩:=Dv hc;rcases hd.1 with rfl|rfl
  ·refine⟨?_,hR.set (IN hn)⟩;have hr:AK r=AI (kd (r 0)) (nv (r 0)) (kd (r 1)) (nv (r 1)) (kd (r 2)) (nv (r 2)) (kd (r 3)) (nv (r 3)) (kd (r 4)) (nv (r 4)) (kd (r 5)) (nv (r 5)) (kd (r 6)) (nv (r 6)) (kd (r 7)) (nv (r 7)) (kd (r 8)) (nv (r 8)) (kd (r 9)) (nv (r 9)):=by unfold AK;rfl
   obtain⟨v,m,h1,h2⟩:=BO (fm (AD l) (AQ pk) (FN pk sp) l.length port (kd (r 0)) (nv (r 0)) (kd (r 1)) (nv (r 1)) (kd (r 2)) (nv (r 2)) (kd (r 3)) (nv (r 3)) (kd (r 4)) (nv (r 4)) (kd (r 5)) (nv (r 5)) (kd (r 6)) (nv (r 6)) (kd (r 7)) (nv (r 7)) (kd (r 8)) (nv (r 8)) (kd (r 9)) (nv (r 9)) (p:Int) (st:Int) n) (by
      intro q hq;rcases List.mem_cons.1 hq with rfl|hq
      ·exact q1
      ·obtain rfl:=List.mem_singleton.1 hq;exact q2)
   refine⟨v,m,?_,?_⟩
   ·unfold GO;rw[hr];exact h1
   ·rw[h2];unfold Bn;rw[HJ hn,AY hp,AY hst];rfl
  ·refine⟨?_,hR.set (IN hn)⟩;have hr:AK r=AI (kd (r 0)) (nv (r 0)) (kd (r 1)) (nv (r 1)) (kd (r 2)) (nv (r 2)) (kd (r 3)) (nv (r 3)) (kd (r 4)) (nv (r 4)) (kd (r 5)) (nv (r 5)) (kd (r 6)) (nv (r 6)) (kd (r 7)) (nv (r 7)) (kd (r 8)) (nv (r 8)) (kd (r 9)) (nv (r 9)):=by unfold AK;rfl
   obtain⟨v,m,h1,h2⟩:=BO (fp (AD l) (AQ pk) (FN pk sp) l.length port (kd (r 0)) (nv (r 0)) (kd (r 1)) (nv (r 1)) (kd (r 2)) (nv (r 2)) (kd (r 3)) (nv (r 3)) (kd (r 4)) (nv (r 4)) (kd (r 5)) (nv (r 5)) (kd (r 6)) (nv (r 6)) (kd (r 7)) (nv (r 7)) (kd (r 8)) (nv (r 8)) (kd (r 9)) (nv (r 9)) (p:Int) (st:Int) n) (by
      intro q hq;rcases List.mem_cons.1 hq with rfl|hq
      ·exact q1
      ·obtain rfl:=List.mem_singleton.1 hq;exact q2)
   refine⟨v,m,?_,?_⟩
   ·unfold GO;rw[hr];exact h1
   ·rw[h2];unfold Bn;rw[HJ hn,AY hp,AY hst];rfl
 |andI hc hd hn h2=>
  rename_i d n a;obtain⟨q1,q2⟩:=Dv hc;obtain rfl:=hd.1;have ha:=hR _ _ h2;refine⟨?_,hR.set (O1 ha (IN hn))⟩;have hr:AK r=AI (kd (r 0)) (nv (r 0)) (kd (r 1)) (nv (r 1)) 1 a (kd (r 3)) (nv (r 3)) (kd (r 4)) (nv (r 4)) (kd (r 5)) (nv (r 5)) (kd (r 6)) (nv (r 6)) (kd (r 7)) (nv (r 7)) (kd (r 8)) (nv (r 8)) (kd (r 9)) (nv (r 9)):=by unfold AK;rw[h2];rfl
  obtain⟨v,m,h1,h2⟩:=BO (ly (AD l) (AQ pk) (FN pk sp) l.length port (kd (r 0)) (nv (r 0)) (kd (r 1)) (nv (r 1)) (kd (r 3)) (nv (r 3)) (kd (r 4)) (nv (r 4)) (kd (r 5)) (nv (r 5)) (kd (r 6)) (nv (r 6)) (kd (r 7)) (nv (r 7)) (kd (r 8)) (nv (r 8)) (kd (r 9)) (nv (r 9)) (p:Int) (st:Int) a n) (by
     intro q hq;rcases List.mem_cons.1 hq with rfl|hq
     ·exact q1
     ·obtain rfl:=List.mem_singleton.1 hq;exact q2)
  refine⟨v,m,?_,?_⟩
  ·unfold GO;rw[hr];exact h1
  ·rw[h2];unfold Bn;rw[HJ hn,Pm ha (IN hn),AY hp,AY hst];rfl
 |movR hc hd hm hne=>
  rename_i d s;obtain⟨q1,q2⟩:=Dv hc;rcases hm.1 with⟨rfl,rfl⟩|⟨rfl,rfl⟩
  ·refine⟨?_,hR.copy _ _⟩;cases he:r 1 with
   |none=>exact absurd he hne
   |num n=>
    have hr:AK r=AI (kd (r 0)) (nv (r 0)) 1 n (kd (r 2)) (nv (r 2)) (kd (r 3)) (nv (r 3)) (kd (r 4)) (nv (r 4)) (kd (r 5)) (nv (r 5)) (kd (r 6)) (nv (r 6)) (kd (r 7)) (nv (r 7)) (kd (r 8)) (nv (r 8)) (kd (r 9)) (nv (r 9)):=by unfold AK;rw[he];rfl
    obtain⟨v,m,h1,h2⟩:=BO (XN (AD l) (AQ pk) (FN pk sp) l.length port (kd (r 0)) (nv (r 0)) n (kd (r 2)) (nv (r 2)) (kd (r 3)) (nv (r 3)) (kd (r 4)) (nv (r 4)) (kd (r 5)) (nv (r 5)) (kd (r 6)) (nv (r 6)) (kd (r 7)) (nv (r 7)) (kd (r 8)) (nv (r 8)) (kd (r 9)) (nv (r 9)) (p:Int) (st:Int)) (by
       intro q hq;rcases List.mem_cons.1 hq with rfl|hq
       ·exact q1
       ·obtain rfl:=List.mem_singleton.1 hq;exact q2)
    refine⟨v,m,?_,?_⟩
    ·unfold GO;rw[hr];exact h1
    ·rw[h2];unfold Bn;rw[AY hp,AY hst,show AK (By r 6 (.num n))=AI (kd (r 0)) (nv (r 0)) (kd (r 1)) (nv (r 1)) (kd (r 2)) (nv (r 2)) (kd (r 3)) (nv (r 3)) (kd (r 4)) (nv (r 4)) (kd (r 5)) (nv (r 5)) 1 n (kd (r 7)) (nv (r 7)) (kd (r 8)) (nv (r 8)) (kd (r 9)) (nv (r 9))from rfl,he];rfl
   |ctx=>
    have hr:AK r=AI (kd (r 0)) (nv (r 0)) 2 0 (kd (r 2)) (nv (r 2)) (kd (r 3)) (nv (r 3)) (kd (r 4)) (nv (r 4)) (kd (r 5)) (nv (r 5)) (kd (r 6)) (nv (r 6)) (kd (r 7)) (nv (r 7)) (kd (r 8)) (nv (r 8)) (kd (r 9)) (nv (r 9)):=by unfold AK;rw[he];rfl
    obtain⟨v,m,h1,h2⟩:=BO (XT (AD l) (AQ pk) (FN pk sp) l.length port (kd (r 0)) (nv (r 0)) 0 (kd (r 2)) (nv (r 2)) (kd (r 3)) (nv (r 3)) (kd (r 4)) (nv (r 4)) (kd (r 5)) (nv (r 5)) (kd (r 6)) (nv (r 6)) (kd (r 7)) (nv (r 7)) (kd (r 8)) (nv (r 8)) (kd (r 9)) (nv (r 9)) (p:Int) (st:Int)) (by
       intro q hq;rcases List.mem_cons.1 hq with rfl|hq
       ·exact q1
       ·obtain rfl:=List.mem_singleton.1 hq;exact q2)
    refine⟨v,m,?_,?_⟩
    ·unfold GO;rw[hr];exact h1
    ·rw[h2];unfold Bn;rw[AY hp,AY hst,show AK (By r 6 .ctx)=AI (kd (r 0)) (nv (r 0)) (kd (r 1)) (nv (r 1)) (kd (r 2)) (nv (r 2)) (kd (r 3)) (nv (r 3)) (kd (r 4)) (nv (r 4)) (kd (r 5)) (nv (r 5)) 2 0 (kd (r 7)) (nv (r 7)) (kd (r 8)) (nv (r 8)) (kd (r 9)) (nv (r 9))from rfl,he];rfl
   |pkt=>
    have hr:AK r=AI (kd (r 0)) (nv (r 0)) 3 0 (kd (r 2)) (nv (r 2)) (kd (r 3)) (nv (r 3)) (kd (r 4)) (nv (r 4)) (kd (r 5)) (nv (r 5)) (kd (r 6)) (nv (r 6)) (kd (r 7)) (nv (r 7)) (kd (r 8)) (nv (r 8)) (kd (r 9)) (nv (r 9)):=by unfold AK;rw[he];rfl
    obtain⟨v,m,h1,h2⟩:=BO (XR (AD l) (AQ pk) (FN pk sp) l.length port (kd (r 0)) (nv (r 0)) 0 (kd (r 2)) (nv (r 2)) (kd (r 3)) (nv (r 3)) (kd (r 4)) (nv (r 4)) (kd (r 5)) (nv (r 5)) (kd (r 6)) (nv (r 6)) (kd (r 7)) (nv (r 7)) (kd (r 8)) (nv (r 8)) (kd (r 9)) (nv (r 9)) (p:Int) (st:Int)) (by
       intro q hq;rcases List.mem_cons.1 hq with rfl|hq
       ·exact q1
       ·obtain rfl:=List.mem_singleton.1 hq;exact q2)
    refine⟨v,m,?_,?_⟩
    ·unfold GO;rw[hr];exact h1
    ·rw[h2];unfold Bn;rw[AY hp,AY hst,show AK (By r 6 .pkt)=AI (kd (r 0)) (nv (r 0)) (kd (r 1)) (nv (r 1)) (kd (r 2)) (nv (r 2)) (kd (r 3)) (nv (r 3)) (kd (r 4)) (nv (r 4)) (kd (r 5)) (nv (r 5)) 3 0 (kd (r 7)) (nv (r 7)) (kd (r 8)) (nv (r 8)) (kd (r 9)) (nv (r 9))from rfl,he];rfl
  ·refine⟨?_,hR.copy _ _⟩;cases he:r 8 with
   |none=>exact absurd he hne
   |num n=>
    have hr:AK r=AI (kd (r 0)) (nv (r 0)) (kd (r 1)) (nv (r 1)) (kd (r 2)) (nv (r 2)) (kd (r 3)) (nv (r 3)) (kd (r 4)) (nv (r 4)) (kd (r 5)) (nv (r 5)) (kd (r 6)) (nv (r 6)) (kd (r 7)) (nv (r 7)) 1 n (kd (r 9)) (nv (r 9)):=by unfold AK;rw[he];rfl
    obtain⟨v,m,h1,h2⟩:=BO (XQ (AD l) (AQ pk) (FN pk sp) l.length port (kd (r 0)) (nv (r 0)) (kd (r 1)) (nv (r 1)) (kd (r 2)) (nv (r 2)) (kd (r 3)) (nv (r 3)) (kd (r 4)) (nv (r 4)) (kd (r 5)) (nv (r 5)) (kd (r 6)) (nv (r 6)) (kd (r 7)) (nv (r 7)) n (kd (r 9)) (nv (r 9)) (p:Int) (st:Int)) (by
       intro q hq;rcases List.mem_cons.1 hq with rfl|hq
       ·exact q1
       ·obtain rfl:=List.mem_singleton.1 hq;exact q2)
    refine⟨v,m,?_,?_⟩
    ·unfold GO;rw[hr];exact h1
    ·rw[h2];unfold Bn;rw[AY hp,AY hst,show AK (By r 2 (.num n))=AI (kd (r 0)) (nv (r 0)) (kd (r 1)) (nv (r 1)) 1 n (kd (r 3)) (nv (r 3)) (kd (r 4)) (nv (r 4)) (kd (r 5)) (nv (r 5)) (kd (r 6)) (nv (r 6)) (kd (r 7)) (nv (r 7)) (kd (r 8)) (nv (r 8)) (kd (r 9)) (nv (r 9))from rfl,he];rfl
   |ctx=>
    have hr:AK r=AI (kd (r 0)) (nv (r 0)) (kd (r 1)) (nv (r 1)) (kd (r 2)) (nv (r 2)) (kd (r 3)) (nv (r 3)) (kd (r 4)) (nv (r 4)) (kd (r 5)) (nv (r 5)) (kd (r 6)) (nv (r 6)) (kd (r 7)) (nv (r 7)) 2 0 (kd (r 9)) (nv (r 9)):=by unfold AK;rw[he];rfl
    obtain⟨v,m,h1,h2⟩:=BO (XO (AD l) (AQ pk) (FN pk sp) l.length port (kd (r 0)) (nv (r 0)) (kd (r 1)) (nv (r 1)) (kd (r 2)) (nv (r 2)) (kd (r 3)) (nv (r 3)) (kd (r 4)) (nv (r 4)) (kd (r 5)) (nv (r 5)) (kd (r 6)) (nv (r 6)) (kd (r 7)) (nv (r 7)) 0 (kd (r 9)) (nv (r 9)) (p:Int) (st:Int)) (by
       intro q hq;rcases List.mem_cons.1 hq with rfl|hq
       ·exact q1
       ·obtain rfl:=List.mem_singleton.1 hq;exact q2)
    refine⟨v,m,?_,?_⟩
    ·unfold GO;rw[hr];exact h1
    ·rw[h2];unfold Bn;rw[AY hp,AY hst,show AK (By r 2 .ctx)=AI (kd (r 0)) (nv (r 0)) (kd (r 1)) (nv (r 1)) 2 0 (kd (r 3)) (nv (r 3)) (kd (r 4)) (nv (r 4)) (kd (r 5)) (nv (r 5)) (kd (r 6)) (nv (r 6)) (kd (r 7)) (nv (r 7)) (kd (r 8)) (nv (r 8)) (kd (r 9)) (nv (r 9))from rfl,he];rfl
   |pkt=>
    have hr:AK r=AI (kd (r 0)) (nv (r 0)) (kd (r 1)) (nv (r 1)) (kd (r 2)) (nv (r 2)) (kd (r 3)) (nv (r 3)) (kd (r 4)) (nv (r 4)) (kd (r 5)) (nv (r 5)) (kd (r 6)) (nv (r 6)) (kd (r 7)) (nv (r 7)) 3 0 (kd (r 9)) (nv (r 9)):=by unfold AK;rw[he];rfl
    obtain⟨v,m,h1,h2⟩:=BO (XU (AD l) (AQ pk) (FN pk sp) l.length port (kd (r 0)) (nv (r 0)) (kd (r 1)) (nv (r 1)) (kd (r 2)) (nv (r 2)) (kd (r 3)) (nv (r 3)) (kd (r 4)) (nv (r 4)) (kd (r 5)) (nv (r 5)) (kd (r 6)) (nv (r 6)) (kd (r 7)) (nv (r 7)) 0 (kd (r 9)) (nv (r 9)) (p:Int) (st:Int)) (by
       intro q hq;rcases List.mem_cons.1 hq with rfl|hq
       ·exact q1
       ·obtain rfl:=List.mem_singleton.1 hq;exact q2)
    refine⟨v,m,?_,?_⟩
    ·unfold GO;rw[hr];exact h1
    ·rw[h2];unfold Bn;rw[AY hp,AY hst,show AK (By r 2 .pkt)=AI (kd (r 0)) (nv (r 0)) (kd (r 1)) (nv (r 1)) 3 0 (kd (r 3)) (nv (r 3)) (kd (r 4)) (nv (r 4)) (kd (r 5)) (nv (r 5)) (kd (r 6)) (nv (r 6)) (kd (r 7)) (nv (r 7)) (kd (r 8)) (nv (r 8)) (kd (r 9)) (nv (r 9))from rfl,he];rfl
 |andR hc hd hm h2 h3=>
  rename_i d s a c;obtain⟨q1,q2⟩:=Dv hc;obtain⟨⟨rfl,rfl⟩,_⟩:=hm;have ha:=hR _ _ h2;have hb:=hR _ _ h3;refine⟨?_,hR.set (O1 ha hb)⟩;have hr:AK r=AI (kd (r 0)) (nv (r 0)) (kd (r 1)) (nv (r 1)) 1 a 1 c (kd (r 4)) (nv (r 4)) (kd (r 5)) (nv (r 5)) (kd (r 6)) (nv (r 6)) (kd (r 7)) (nv (r 7)) (kd (r 8)) (nv (r 8)) (kd (r 9)) (nv (r 9)):=by unfold AK;rw[h2,h3];rfl
  obtain⟨v,m,h1,h2⟩:=BO (lr (AD l) (AQ pk) (FN pk sp) l.length port (kd (r 0)) (nv (r 0)) (kd (r 1)) (nv (r 1)) (kd (r 4)) (nv (r 4)) (kd (r 5)) (nv (r 5)) (kd (r 6)) (nv (r 6)) (kd (r 7)) (nv (r 7)) (kd (r 8)) (nv (r 8)) (kd (r 9)) (nv (r 9)) (p:Int) (st:Int) a c) (by
     intro q hq;rcases List.mem_cons.1 hq with rfl|hq
     ·exact q1
     ·obtain rfl:=List.mem_singleton.1 hq;exact q2)
  refine⟨v,m,?_,?_⟩
  ·unfold GO;rw[hr];exact h1
  ·rw[h2];unfold Bn;rw[Pm ha hb,AY hp,AY hst];rw[show AK (By r 2 (.num (DW a c)))=AI (kd (r 0)) (nv (r 0)) (kd (r 1)) (nv (r 1)) 1 (DW a c) (kd (r 3)) (nv (r 3)) (kd (r 4)) (nv (r 4)) (kd (r 5)) (nv (r 5)) (kd (r 6)) (nv (r 6)) (kd (r 7)) (nv (r 7)) (kd (r 8)) (nv (r 8)) (kd (r 9)) (nv (r 9))from rfl,h3];rfl
 |low hc=>
  rename_i n;obtain⟨q1,q2⟩:=Dv hc;refine⟨?_,hR.set (by unfold u64;omega)⟩;have hr:AK r=AI (kd (r 0)) (nv (r 0)) (kd (r 1)) (nv (r 1)) (kd (r 2)) (nv (r 2)) (kd (r 3)) (nv (r 3)) (kd (r 4)) (nv (r 4)) (kd (r 5)) (nv (r 5)) (kd (r 6)) (nv (r 6)) (kd (r 7)) (nv (r 7)) (kd (r 8)) (nv (r 8)) (kd (r 9)) (nv (r 9)):=by unfold AK;rfl
  obtain⟨v,m,h1,h2⟩:=BO (pD (AD l) (AQ pk) (FN pk sp) l.length port (kd (r 0)) (nv (r 0)) (kd (r 1)) (nv (r 1)) (kd (r 2)) (nv (r 2)) (kd (r 3)) (nv (r 3)) (kd (r 4)) (nv (r 4)) (kd (r 5)) (nv (r 5)) (kd (r 6)) (nv (r 6)) (kd (r 7)) (nv (r 7)) (kd (r 8)) (nv (r 8)) (kd (r 9)) (nv (r 9)) (p:Int) (st:Int) n) (by
     intro q hq;rcases List.mem_cons.1 hq with rfl|hq
     ·exact q1
     ·obtain rfl:=List.mem_singleton.1 hq;exact q2)
  refine⟨v,m,?_,?_⟩
  ·unfold GO;rw[hr];exact h1
  ·rw[h2];unfold Bn;rw[mB,AY hp,AY hst];rfl
 |const hc hc2=>
  rename_i lo hi;obtain⟨q1,q2⟩:=Dv hc;obtain⟨q3,q4⟩:=mE hc2 (by omega);refine⟨?_,hR.set (by unfold u64;omega)⟩;have hr:AK r=AI (kd (r 0)) (nv (r 0)) (kd (r 1)) (nv (r 1)) (kd (r 2)) (nv (r 2)) (kd (r 3)) (nv (r 3)) (kd (r 4)) (nv (r 4)) (kd (r 5)) (nv (r 5)) (kd (r 6)) (nv (r 6)) (kd (r 7)) (nv (r 7)) (kd (r 8)) (nv (r 8)) (kd (r 9)) (nv (r 9)):=by unfold AK;rfl
  obtain⟨v,m,h1,h2⟩:=BO (fu (AD l) (AQ pk) (FN pk sp) l.length port (kd (r 0)) (nv (r 0)) (kd (r 1)) (nv (r 1)) (kd (r 2)) (nv (r 2)) (kd (r 3)) (nv (r 3)) (kd (r 4)) (nv (r 4)) (kd (r 5)) (nv (r 5)) (kd (r 6)) (nv (r 6)) (kd (r 7)) (nv (r 7)) (kd (r 8)) (nv (r 8)) (kd (r 9)) (nv (r 9)) (p:Int) (st:Int) lo hi) (by
     intro q hq;rcases List.mem_cons.1 hq with rfl|hq
     ·exact q1
     ·rcases List.mem_cons.1 hq with rfl|hq
      ·exact q2
      ·rcases List.mem_cons.1 hq with rfl|hq
       ·exact q3
       ·obtain rfl:=List.mem_singleton.1 hq;exact q4)
  refine⟨v,m,?_,?_⟩
  ·unfold GO;rw[hr];exact h1
  ·rw[h2];unfold Bn;rw[bG,fx hp,AY hst];rfl
 |ldLen hc hd hm he=>
  rename_i d s;obtain⟨q1,q2⟩:=Dv hc;obtain⟨⟨rfl,rfl⟩,_⟩:=hm;refine⟨?_,hR.set (by unfold u64;omega)⟩;have hr:AK r=AI (kd (r 0)) (nv (r 0)) (kd (r 1)) (nv (r 1)) (kd (r 2)) (nv (r 2)) (kd (r 3)) (nv (r 3)) (kd (r 4)) (nv (r 4)) (kd (r 5)) (nv (r 5)) 2 0 (kd (r 7)) (nv (r 7)) (kd (r 8)) (nv (r 8)) (kd (r 9)) (nv (r 9)):=by unfold AK;rw[he];rfl
  obtain⟨v,m,h1,h2⟩:=BO (fv (AD l) (AQ pk) (some ⟨3,0,sp⟩) pk.length pk.length l.length port (kd (r 0)) (nv (r 0)) (kd (r 1)) (nv (r 1)) (kd (r 2)) (nv (r 2)) (kd (r 3)) (nv (r 3)) (kd (r 4)) (nv (r 4)) (kd (r 5)) (nv (r 5)) 0 (kd (r 7)) (nv (r 7)) (kd (r 8)) (nv (r 8)) (kd (r 9)) (nv (r 9)) (p:Int) (st:Int)) (by
     intro q hq;rcases List.mem_cons.1 hq with rfl|hq
     ·exact q1
     ·obtain rfl:=List.mem_singleton.1 hq;exact q2)
  refine⟨v,m,?_,?_⟩
  ·unfold GO;rw[hr];exact h1
  ·rw[h2];unfold Bn;rw[mC hpk,AY hp,AY hst,show AK (By r 8 (.num pk.length))=AI (kd (r 0)) (nv (r 0)) (kd (r 1)) (nv (r 1)) (kd (r 2)) (nv (r 2)) (kd (r 3)) (nv (r 3)) (kd (r 4)) (nv (r 4)) (kd (r 5)) (nv (r 5)) (kd (r 6)) (nv (r 6)) (kd (r 7)) (nv (r 7)) 1 (pk.length:Int) (kd (r 9)) (nv (r 9))from rfl,he];rfl
 |ldPort hc hd hm he=>
  rename_i d s;obtain⟨q1,q2⟩:=Dv hc;obtain⟨⟨rfl,rfl⟩,_⟩:=hm;refine⟨?_,hR.set (Rt hport)⟩;have hr:AK r=AI (kd (r 0)) (nv (r 0)) (kd (r 1)) (nv (r 1)) (kd (r 2)) (nv (r 2)) (kd (r 3)) (nv (r 3)) (kd (r 4)) (nv (r 4)) (kd (r 5)) (nv (r 5)) 2 0 (kd (r 7)) (nv (r 7)) (kd (r 8)) (nv (r 8)) (kd (r 9)) (nv (r 9)):=by unfold AK;rw[he];rfl
  obtain⟨v,m,h1,h2⟩:=BO (bF (AD l) (AQ pk) (FN pk sp) l.length port (kd (r 0)) (nv (r 0)) (kd (r 1)) (nv (r 1)) (kd (r 2)) (nv (r 2)) (kd (r 3)) (nv (r 3)) (kd (r 4)) (nv (r 4)) (kd (r 5)) (nv (r 5)) 0 (kd (r 7)) (nv (r 7)) (kd (r 8)) (nv (r 8)) (kd (r 9)) (nv (r 9)) (p:Int) (st:Int)) (by
     intro q hq;rcases List.mem_cons.1 hq with rfl|hq
     ·exact q1
     ·obtain rfl:=List.mem_singleton.1 hq;exact q2)
  refine⟨v,m,?_,?_⟩
  ·unfold GO;rw[hr];exact h1
  ·rw[h2];unfold Bn;rw[wrap_u64 (Rt hport),AY hp,AY hst,show AK (By r 2 (.num port))=AI (kd (r 0)) (nv (r 0)) (kd (r 1)) (nv (r 1)) 1 port (kd (r 3)) (nv (r 3)) (kd (r 4)) (nv (r 4)) (kd (r 5)) (nv (r 5)) (kd (r 6)) (nv (r 6)) (kd (r 7)) (nv (r 7)) (kd (r 8)) (nv (r 8)) (kd (r 9)) (nv (r 9))from rfl,he];rfl
 |ldPkt hc hd hm he=>
  rename_i d s;obtain⟨q1,q2⟩:=Dv hc;obtain⟨⟨rfl,rfl⟩,_⟩:=hm;refine⟨?_,hR.setP⟩;have hr:AK r=AI (kd (r 0)) (nv (r 0)) 2 0 (kd (r 2)) (nv (r 2)) (kd (r 3)) (nv (r 3)) (kd (r 4)) (nv (r 4)) (kd (r 5)) (nv (r 5)) (kd (r 6)) (nv (r 6)) (kd (r 7)) (nv (r 7)) (kd (r 8)) (nv (r 8)) (kd (r 9)) (nv (r 9)):=by unfold AK;rw[he];rfl
  obtain⟨v,m,h1,h2⟩:=BO (fq (AD l) (AQ pk) (FN pk sp) l.length port (kd (r 0)) (nv (r 0)) 0 (kd (r 2)) (nv (r 2)) (kd (r 3)) (nv (r 3)) (kd (r 4)) (nv (r 4)) (kd (r 5)) (nv (r 5)) (kd (r 6)) (nv (r 6)) (kd (r 7)) (nv (r 7)) (kd (r 8)) (nv (r 8)) (kd (r 9)) (nv (r 9)) (p:Int) (st:Int)) (by
     intro q hq;rcases List.mem_cons.1 hq with rfl|hq
     ·exact q1
     ·obtain rfl:=List.mem_singleton.1 hq;exact q2)
  refine⟨v,m,?_,?_⟩
  ·unfold GO;rw[hr];exact h1
  ·rw[h2];unfold Bn;rw[AY hp,AY hst,show AK (By r 7 (.pkt))=AI (kd (r 0)) (nv (r 0)) (kd (r 1)) (nv (r 1)) (kd (r 2)) (nv (r 2)) (kd (r 3)) (nv (r 3)) (kd (r 4)) (nv (r 4)) (kd (r 5)) (nv (r 5)) (kd (r 6)) (nv (r 6)) 3 0 (kd (r 8)) (nv (r 8)) (kd (r 9)) (nv (r 9))from rfl,he];rfl
 |ld hc hz hd hm he ho hl=>
  rename_i z d s o;obtain⟨q1,q2⟩:=Dv hc;obtain⟨⟨rfl,rfl⟩,_⟩:=hm;have hzb:1<=z/\z<=8:=by rcases hz with h|h|h|h<;>omega
  have hN:=V2 (pk:=pk) (a:=o) (z:=z.toNat) hb hl
  have hN8:EY (cut pk o z.toNat)<18446744073709551616:=by
   rcases hz with rfl|rfl|rfl|rfl<;>exact Int.lt_of_lt_of_le hN.2 (by decide)
  refine⟨?_,hR.set ⟨hN.1,hN8⟩⟩;have hoff:Rl (o:Int)=(o:Int):=mD ho
  have q3:DD 64 [FN pk sp, .int .i64 (Rl o), .int .i64 z] (.cells true (AQ pk)) (.tuple ⟨[.int .u64 (EY (cut pk o z.toNat)), .int .i64 0]⟩):=by
   rw[hoff];exact .inr ⟨rfl,rfl,_,rfl,pk,⟨⟨true,rfl⟩,hb,rfl,hz,by omega,by omega,by omega⟩,rfl⟩
  have hr:AK r=AI (kd (r 0)) (nv (r 0)) (kd (r 1)) (nv (r 1)) (kd (r 2)) (nv (r 2)) (kd (r 3)) (nv (r 3)) (kd (r 4)) (nv (r 4)) (kd (r 5)) (nv (r 5)) (kd (r 6)) (nv (r 6)) 3 0 (kd (r 8)) (nv (r 8)) (kd (r 9)) (nv (r 9)):=by unfold AK;rw[he];rfl
  rcases hz with rfl|rfl|rfl|rfl
  ·obtain⟨v,m,h1,h2⟩:=BO (pF (AD l) (AQ pk) (some ⟨3,0,sp⟩) pk.length pk.length l.length port (kd (r 0)) (nv (r 0)) (kd (r 1)) (nv (r 1)) (kd (r 2)) (nv (r 2)) (kd (r 3)) (nv (r 3)) (kd (r 4)) (nv (r 4)) (kd (r 5)) (nv (r 5)) (kd (r 6)) (nv (r 6)) 0 (kd (r 8)) (nv (r 8)) (kd (r 9)) (nv (r 9)) (p:Int) (st:Int) (o:Int) _) (by
      intro q hq;rcases List.mem_cons.1 hq with rfl|hq
      ·exact q1
      ·rcases List.mem_cons.1 hq with rfl|hq
       ·exact q2
       ·obtain rfl:=List.mem_singleton.1 hq;exact q3)
   refine⟨v,m,?_,?_⟩
   ·unfold GO;rw[hr];exact h1
   ·rw[h2];unfold Bn;rw[AY hp,AY hst,show AK (By r 2 (.num (EY (cut pk o (1:Int).toNat))))=AI (kd (r 0)) (nv (r 0)) (kd (r 1)) (nv (r 1)) 1 (EY (cut pk o (1:Int).toNat)) (kd (r 3)) (nv (r 3)) (kd (r 4)) (nv (r 4)) (kd (r 5)) (nv (r 5)) (kd (r 6)) (nv (r 6)) (kd (r 7)) (nv (r 7)) (kd (r 8)) (nv (r 8)) (kd (r 9)) (nv (r 9))from rfl,he];rfl
  ·obtain⟨v,m,h1,h2⟩:=BO (pB (AD l) (AQ pk) (some ⟨3,0,sp⟩) pk.length pk.length l.length port (kd (r 0)) (nv (r 0)) (kd (r 1)) (nv (r 1)) (kd (r 2)) (nv (r 2)) (kd (r 3)) (nv (r 3)) (kd (r 4)) (nv (r 4)) (kd (r 5)) (nv (r 5)) (kd (r 6)) (nv (r 6)) 0 (kd (r 8)) (nv (r 8)) (kd (r 9)) (nv (r 9)) (p:Int) (st:Int) (o:Int) _) (by
      intro q hq;rcases List.mem_cons.1 hq with rfl|hq
      ·exact q1
      ·rcases List.mem_cons.1 hq with rfl|hq
       ·exact q2
       ·obtain rfl:=List.mem_singleton.1 hq;exact q3)
   refine⟨v,m,?_,?_⟩
   ·unfold GO;rw[hr];exact h1
   ·rw[h2];unfold Bn;rw[AY hp,AY hst,show AK (By r 2 (.num (EY (cut pk o (2:Int).toNat))))=AI (kd (r 0)) (nv (r 0)) (kd (r 1)) (nv (r 1)) 1 (EY (cut pk o (2:Int).toNat)) (kd (r 3)) (nv (r 3)) (kd (r 4)) (nv (r 4)) (kd (r 5)) (nv (r 5)) (kd (r 6)) (nv (r 6)) (kd (r 7)) (nv (r 7)) (kd (r 8)) (nv (r 8)) (kd (r 9)) (nv (r 9))from rfl,he];rfl
  ·obtain⟨v,m,h1,h2⟩:=BO (pE (AD l) (AQ pk) (some ⟨3,0,sp⟩) pk.length pk.length l.length port (kd (r 0)) (nv (r 0)) (kd (r 1)) (nv (r 1)) (kd (r 2)) (nv (r 2)) (kd (r 3)) (nv (r 3)) (kd (r 4)) (nv (r 4)) (kd (r 5)) (nv (r 5)) (kd (r 6)) (nv (r 6)) 0 (kd (r 8)) (nv (r 8)) (kd (r 9)) (nv (r 9)) (p:Int) (st:Int) (o:Int) _) (by
      intro q hq;rcases List.mem_cons.1 hq with rfl|hq
      ·exact q1
      ·rcases List.mem_cons.1 hq with rfl|hq
       ·exact q2
       ·obtain rfl:=List.mem_singleton.1 hq;exact q3)
   refine⟨v,m,?_,?_⟩
   ·unfold GO;rw[hr];exact h1
   ·rw[h2];unfold Bn;rw[AY hp,AY hst,show AK (By r 2 (.num (EY (cut pk o (4:Int).toNat))))=AI (kd (r 0)) (nv (r 0)) (kd (r 1)) (nv (r 1)) 1 (EY (cut pk o (4:Int).toNat)) (kd (r 3)) (nv (r 3)) (kd (r 4)) (nv (r 4)) (kd (r 5)) (nv (r 5)) (kd (r 6)) (nv (r 6)) (kd (r 7)) (nv (r 7)) (kd (r 8)) (nv (r 8)) (kd (r 9)) (nv (r 9))from rfl,he];rfl
  ·obtain⟨v,m,h1,h2⟩:=BO (pH (AD l) (AQ pk) (some ⟨3,0,sp⟩) pk.length pk.length l.length port (kd (r 0)) (nv (r 0)) (kd (r 1)) (nv (r 1)) (kd (r 2)) (nv (r 2)) (kd (r 3)) (nv (r 3)) (kd (r 4)) (nv (r 4)) (kd (r 5)) (nv (r 5)) (kd (r 6)) (nv (r 6)) 0 (kd (r 8)) (nv (r 8)) (kd (r 9)) (nv (r 9)) (p:Int) (st:Int) (o:Int) _) (by
      intro q hq;rcases List.mem_cons.1 hq with rfl|hq
      ·exact q1
      ·rcases List.mem_cons.1 hq with rfl|hq
       ·exact q2
       ·obtain rfl:=List.mem_singleton.1 hq;exact q3)
   refine⟨v,m,?_,?_⟩
   ·unfold GO;rw[hr];exact h1
   ·rw[h2];unfold Bn;rw[AY hp,AY hst,show AK (By r 2 (.num (EY (cut pk o (8:Int).toNat))))=AI (kd (r 0)) (nv (r 0)) (kd (r 1)) (nv (r 1)) 1 (EY (cut pk o (8:Int).toNat)) (kd (r 3)) (nv (r 3)) (kd (r 4)) (nv (r 4)) (kd (r 5)) (nv (r 5)) (kd (r 6)) (nv (r 6)) (kd (r 7)) (nv (r 7)) (kd (r 8)) (nv (r 8)) (kd (r 9)) (nv (r 9))from rfl,he];rfl
 |swap hc hz hz1 he h0 hl=>
  rename_i z a;obtain⟨q1,q2⟩:=Dv hc;have hz3:z=2\/z=4\/z=8:=by rcases hz with h|h|h|h<;>omega
  have hs:=swap_eq hz3 h0 hl;have hsw:=XV hz3 h0 hl;refine⟨?_,hR.set hsw⟩;have hr:AK r=AI (kd (r 0)) (nv (r 0)) (kd (r 1)) (nv (r 1)) 1 a (kd (r 3)) (nv (r 3)) (kd (r 4)) (nv (r 4)) (kd (r 5)) (nv (r 5)) (kd (r 6)) (nv (r 6)) (kd (r 7)) (nv (r 7)) (kd (r 8)) (nv (r 8)) (kd (r 9)) (nv (r 9)):=by unfold AK;rw[he];rfl
  rcases hz3 with rfl|rfl|rfl
  ·obtain⟨v,m,h1,h2⟩:=BO (fo (AD l) (AQ pk) (FN pk sp) l.length port (kd (r 0)) (nv (r 0)) (kd (r 1)) (nv (r 1)) (kd (r 3)) (nv (r 3)) (kd (r 4)) (nv (r 4)) (kd (r 5)) (nv (r 5)) (kd (r 6)) (nv (r 6)) (kd (r 7)) (nv (r 7)) (kd (r 8)) (nv (r 8)) (kd (r 9)) (nv (r 9)) (p:Int) (st:Int) a) (by
      intro q hq;rcases List.mem_cons.1 hq with rfl|hq
      ·exact q1
      ·obtain rfl:=List.mem_singleton.1 hq;exact q2)
   refine⟨v,m,?_,?_⟩
   ·unfold GO;rw[hr];exact h1
   ·rw[h2];unfold Bn;rw[show Kd (Na a) 48=FW 2 a from hs,AY hp,AY hst];rfl
  ·obtain⟨v,m,h1,h2⟩:=BO (ft (AD l) (AQ pk) (FN pk sp) l.length port (kd (r 0)) (nv (r 0)) (kd (r 1)) (nv (r 1)) (kd (r 3)) (nv (r 3)) (kd (r 4)) (nv (r 4)) (kd (r 5)) (nv (r 5)) (kd (r 6)) (nv (r 6)) (kd (r 7)) (nv (r 7)) (kd (r 8)) (nv (r 8)) (kd (r 9)) (nv (r 9)) (p:Int) (st:Int) a) (by
      intro q hq;rcases List.mem_cons.1 hq with rfl|hq
      ·exact q1
      ·obtain rfl:=List.mem_singleton.1 hq;exact q2)
   refine⟨v,m,?_,?_⟩
   ·unfold GO;rw[hr];exact h1
   ·rw[h2];unfold Bn;rw[show Kd (Na a) 32=FW 4 a from hs,AY hp,AY hst];rfl
  ·obtain⟨v,m,h1,h2⟩:=BO (fw (AD l) (AQ pk) (FN pk sp) l.length port (kd (r 0)) (nv (r 0)) (kd (r 1)) (nv (r 1)) (kd (r 3)) (nv (r 3)) (kd (r 4)) (nv (r 4)) (kd (r 5)) (nv (r 5)) (kd (r 6)) (nv (r 6)) (kd (r 7)) (nv (r 7)) (kd (r 8)) (nv (r 8)) (kd (r 9)) (nv (r 9)) (p:Int) (st:Int) a) (by
      intro q hq;rcases List.mem_cons.1 hq with rfl|hq
      ·exact q1
      ·obtain rfl:=List.mem_singleton.1 hq;exact q2)
   refine⟨v,m,?_,?_⟩
   ·unfold GO;rw[hr];exact h1
   ·rw[h2];unfold Bn;rw[show Kd (Na a) 0=FW 8 a from hs,AY hp,AY hst];rfl
 |jif hc hop hd hn he hq hlt=>
  rename_i op d n a o;obtain⟨q1,q2⟩:=Dv hc;refine⟨?_,hR⟩
  have q3:∀w:Bool,Cj op a n=w->DD 71 [.int .i64 op, .bool true, .int .u64 a, .int .u64 (Ed n)] (.cells true (AQ pk)) (.tuple ⟨[.bool w, .int .i64 0]⟩):=λw hw=>by
   rw[HJ hn];exact .inl ⟨rfl,w,rfl,hop,hw.symm⟩
  rcases hd.1 with rfl|rfl
  ·have hr:AK r=AI (kd (r 0)) (nv (r 0)) (kd (r 1)) (nv (r 1)) 1 a (kd (r 3)) (nv (r 3)) (kd (r 4)) (nv (r 4)) (kd (r 5)) (nv (r 5)) (kd (r 6)) (nv (r 6)) (kd (r 7)) (nv (r 7)) (kd (r 8)) (nv (r 8)) (kd (r 9)) (nv (r 9)):=by unfold AK;rw[he];rfl
   cases hw:Cj op a n with
   |true=>
    have q3:=q3 true hw;rw[hw]at hq;have hat:IntKind.wrap .i64 (Int.add (C7 (p:Int)) (IntKind.wrap .i64 o))=(p':Int):=L2 hp hp2 (by simpa using hq);rcases hop with rfl|rfl|rfl|rfl
    ·obtain⟨v,m,h1,h2⟩:=BO (T5 (AD l) (AQ pk) (FN pk sp) l.length port (kd (r 0)) (nv (r 0)) (kd (r 1)) (nv (r 1)) (kd (r 3)) (nv (r 3)) (kd (r 4)) (nv (r 4)) (kd (r 5)) (nv (r 5)) (kd (r 6)) (nv (r 6)) (kd (r 7)) (nv (r 7)) (kd (r 8)) (nv (r 8)) (kd (r 9)) (nv (r 9)) (p:Int) (st:Int) a n o) (by
        intro q hq;rcases List.mem_cons.1 hq with rfl|hq
        ·exact q1
        ·rcases List.mem_cons.1 hq with rfl|hq
         ·exact q2
         ·obtain rfl:=List.mem_singleton.1 hq;exact q3)
     refine⟨v,m,?_,?_⟩
     ·unfold GO;rw[hr];exact h1
     ·rw[h2];unfold Bn;rw[hat,AY hst,hr]
    ·obtain⟨v,m,h1,h2⟩:=BO (Tb (AD l) (AQ pk) (FN pk sp) l.length port (kd (r 0)) (nv (r 0)) (kd (r 1)) (nv (r 1)) (kd (r 3)) (nv (r 3)) (kd (r 4)) (nv (r 4)) (kd (r 5)) (nv (r 5)) (kd (r 6)) (nv (r 6)) (kd (r 7)) (nv (r 7)) (kd (r 8)) (nv (r 8)) (kd (r 9)) (nv (r 9)) (p:Int) (st:Int) a n o) (by
        intro q hq;rcases List.mem_cons.1 hq with rfl|hq
        ·exact q1
        ·rcases List.mem_cons.1 hq with rfl|hq
         ·exact q2
         ·obtain rfl:=List.mem_singleton.1 hq;exact q3)
     refine⟨v,m,?_,?_⟩
     ·unfold GO;rw[hr];exact h1
     ·rw[h2];unfold Bn;rw[hat,AY hst,hr]
    ·obtain⟨v,m,h1,h2⟩:=BO (Rp (AD l) (AQ pk) (FN pk sp) l.length port (kd (r 0)) (nv (r 0)) (kd (r 1)) (nv (r 1)) (kd (r 3)) (nv (r 3)) (kd (r 4)) (nv (r 4)) (kd (r 5)) (nv (r 5)) (kd (r 6)) (nv (r 6)) (kd (r 7)) (nv (r 7)) (kd (r 8)) (nv (r 8)) (kd (r 9)) (nv (r 9)) (p:Int) (st:Int) a n o) (by
        intro q hq;rcases List.mem_cons.1 hq with rfl|hq
        ·exact q1
        ·rcases List.mem_cons.1 hq with rfl|hq
         ·exact q2
         ·obtain rfl:=List.mem_singleton.1 hq;exact q3)
     refine⟨v,m,?_,?_⟩
     ·unfold GO;rw[hr];exact h1
     ·rw[h2];unfold Bn;rw[hat,AY hst,hr]
    ·obtain⟨v,m,h1,h2⟩:=BO (T8 (AD l) (AQ pk) (FN pk sp) l.length port (kd (r 0)) (nv (r 0)) (kd (r 1)) (nv (r 1)) (kd (r 3)) (nv (r 3)) (kd (r 4)) (nv (r 4)) (kd (r 5)) (nv (r 5)) (kd (r 6)) (nv (r 6)) (kd (r 7)) (nv (r 7)) (kd (r 8)) (nv (r 8)) (kd (r 9)) (nv (r 9)) (p:Int) (st:Int) a n o) (by
        intro q hq;rcases List.mem_cons.1 hq with rfl|hq
        ·exact q1
        ·rcases List.mem_cons.1 hq with rfl|hq
         ·exact q2
         ·obtain rfl:=List.mem_singleton.1 hq;exact q3)
     refine⟨v,m,?_,?_⟩
     ·unfold GO;rw[hr];exact h1
     ·rw[h2];unfold Bn;rw[hat,AY hst,hr]
   |false=>
    have q3:=q3 false hw;rw[hw]at hq;have hat:C7 (p:Int)=(p':Int):=by rw[AY hp];simp at hq;omega
    rcases hop with rfl|rfl|rfl|rfl
    ·obtain⟨v,m,h1,h2⟩:=BO (Ta (AD l) (AQ pk) (FN pk sp) l.length port (kd (r 0)) (nv (r 0)) (kd (r 1)) (nv (r 1)) (kd (r 3)) (nv (r 3)) (kd (r 4)) (nv (r 4)) (kd (r 5)) (nv (r 5)) (kd (r 6)) (nv (r 6)) (kd (r 7)) (nv (r 7)) (kd (r 8)) (nv (r 8)) (kd (r 9)) (nv (r 9)) (p:Int) (st:Int) a n o) (by
        intro q hq;rcases List.mem_cons.1 hq with rfl|hq
        ·exact q1
        ·rcases List.mem_cons.1 hq with rfl|hq
         ·exact q2
         ·obtain rfl:=List.mem_singleton.1 hq;exact q3)
     refine⟨v,m,?_,?_⟩
     ·unfold GO;rw[hr];exact h1
     ·rw[h2];unfold Bn;rw[hat,AY hst,hr]
    ·obtain⟨v,m,h1,h2⟩:=BO (Tg (AD l) (AQ pk) (FN pk sp) l.length port (kd (r 0)) (nv (r 0)) (kd (r 1)) (nv (r 1)) (kd (r 3)) (nv (r 3)) (kd (r 4)) (nv (r 4)) (kd (r 5)) (nv (r 5)) (kd (r 6)) (nv (r 6)) (kd (r 7)) (nv (r 7)) (kd (r 8)) (nv (r 8)) (kd (r 9)) (nv (r 9)) (p:Int) (st:Int) a n o) (by
        intro q hq;rcases List.mem_cons.1 hq with rfl|hq
        ·exact q1
        ·rcases List.mem_cons.1 hq with rfl|hq
         ·exact q2
         ·obtain rfl:=List.mem_singleton.1 hq;exact q3)
     refine⟨v,m,?_,?_⟩
     ·unfold GO;rw[hr];exact h1
     ·rw[h2];unfold Bn;rw[hat,AY hst,hr]
    ·obtain⟨v,m,h1,h2⟩:=BO (Rm (AD l) (AQ pk) (FN pk sp) l.length port (kd (r 0)) (nv (r 0)) (kd (r 1)) (nv (r 1)) (kd (r 3)) (nv (r 3)) (kd (r 4)) (nv (r 4)) (kd (r 5)) (nv (r 5)) (kd (r 6)) (nv (r 6)) (kd (r 7)) (nv (r 7)) (kd (r 8)) (nv (r 8)) (kd (r 9)) (nv (r 9)) (p:Int) (st:Int) a n o) (by
        intro q hq;rcases List.mem_cons.1 hq with rfl|hq
        ·exact q1
        ·rcases List.mem_cons.1 hq with rfl|hq
         ·exact q2
         ·obtain rfl:=List.mem_singleton.1 hq;exact q3)
     refine⟨v,m,?_,?_⟩
     ·unfold GO;rw[hr];exact h1
     ·rw[h2];unfold Bn;rw[hat,AY hst,hr]
    ·obtain⟨v,m,h1,h2⟩:=BO (Td (AD l) (AQ pk) (FN pk sp) l.length port (kd (r 0)) (nv (r 0)) (kd (r 1)) (nv (r 1)) (kd (r 3)) (nv (r 3)) (kd (r 4)) (nv (r 4)) (kd (r 5)) (nv (r 5)) (kd (r 6)) (nv (r 6)) (kd (r 7)) (nv (r 7)) (kd (r 8)) (nv (r 8)) (kd (r 9)) (nv (r 9)) (p:Int) (st:Int) a n o) (by
        intro q hq;rcases List.mem_cons.1 hq with rfl|hq
        ·exact q1
        ·rcases List.mem_cons.1 hq with rfl|hq
         ·exact q2
         ·obtain rfl:=List.mem_singleton.1 hq;exact q3)
     refine⟨v,m,?_,?_⟩
     ·unfold GO;rw[hr];exact h1
     ·rw[h2];unfold Bn;rw[hat,AY hst,hr]
  ·have hr:AK r=AI (kd (r 0)) (nv (r 0)) (kd (r 1)) (nv (r 1)) (kd (r 2)) (nv (r 2)) (kd (r 3)) (nv (r 3)) (kd (r 4)) (nv (r 4)) (kd (r 5)) (nv (r 5)) (kd (r 6)) (nv (r 6)) (kd (r 7)) (nv (r 7)) 1 a (kd (r 9)) (nv (r 9)):=by unfold AK;rw[he];rfl
   cases hw:Cj op a n with
   |true=>
    have q3:=q3 true hw;rw[hw]at hq;have hat:IntKind.wrap .i64 (Int.add (C7 (p:Int)) (IntKind.wrap .i64 o))=(p':Int):=L2 hp hp2 (by simpa using hq);rcases hop with rfl|rfl|rfl|rfl
    ·obtain⟨v,m,h1,h2⟩:=BO (Tf (AD l) (AQ pk) (FN pk sp) l.length port (kd (r 0)) (nv (r 0)) (kd (r 1)) (nv (r 1)) (kd (r 2)) (nv (r 2)) (kd (r 3)) (nv (r 3)) (kd (r 4)) (nv (r 4)) (kd (r 5)) (nv (r 5)) (kd (r 6)) (nv (r 6)) (kd (r 7)) (nv (r 7)) (kd (r 9)) (nv (r 9)) (p:Int) (st:Int) a n o) (by
        intro q hq;rcases List.mem_cons.1 hq with rfl|hq
        ·exact q1
        ·rcases List.mem_cons.1 hq with rfl|hq
         ·exact q2
         ·obtain rfl:=List.mem_singleton.1 hq;exact q3)
     refine⟨v,m,?_,?_⟩
     ·unfold GO;rw[hr];exact h1
     ·rw[h2];unfold Bn;rw[hat,AY hst,hr]
    ·obtain⟨v,m,h1,h2⟩:=BO (T7 (AD l) (AQ pk) (FN pk sp) l.length port (kd (r 0)) (nv (r 0)) (kd (r 1)) (nv (r 1)) (kd (r 2)) (nv (r 2)) (kd (r 3)) (nv (r 3)) (kd (r 4)) (nv (r 4)) (kd (r 5)) (nv (r 5)) (kd (r 6)) (nv (r 6)) (kd (r 7)) (nv (r 7)) (kd (r 9)) (nv (r 9)) (p:Int) (st:Int) a n o) (by
        intro q hq;rcases List.mem_cons.1 hq with rfl|hq
        ·exact q1
        ·rcases List.mem_cons.1 hq with rfl|hq
         ·exact q2
         ·obtain rfl:=List.mem_singleton.1 hq;exact q3)
     refine⟨v,m,?_,?_⟩
     ·unfold GO;rw[hr];exact h1
     ·rw[h2];unfold Bn;rw[hat,AY hst,hr]
    ·obtain⟨v,m,h1,h2⟩:=BO (Ro (AD l) (AQ pk) (FN pk sp) l.length port (kd (r 0)) (nv (r 0)) (kd (r 1)) (nv (r 1)) (kd (r 2)) (nv (r 2)) (kd (r 3)) (nv (r 3)) (kd (r 4)) (nv (r 4)) (kd (r 5)) (nv (r 5)) (kd (r 6)) (nv (r 6)) (kd (r 7)) (nv (r 7)) (kd (r 9)) (nv (r 9)) (p:Int) (st:Int) a n o) (by
        intro q hq;rcases List.mem_cons.1 hq with rfl|hq
        ·exact q1
        ·rcases List.mem_cons.1 hq with rfl|hq
         ·exact q2
         ·obtain rfl:=List.mem_singleton.1 hq;exact q3)
     refine⟨v,m,?_,?_⟩
     ·unfold GO;rw[hr];exact h1
     ·rw[h2];unfold Bn;rw[hat,AY hst,hr]
    ·obtain⟨v,m,h1,h2⟩:=BO (Th (AD l) (AQ pk) (FN pk sp) l.length port (kd (r 0)) (nv (r 0)) (kd (r 1)) (nv (r 1)) (kd (r 2)) (nv (r 2)) (kd (r 3)) (nv (r 3)) (kd (r 4)) (nv (r 4)) (kd (r 5)) (nv (r 5)) (kd (r 6)) (nv (r 6)) (kd (r 7)) (nv (r 7)) (kd (r 9)) (nv (r 9)) (p:Int) (st:Int) a n o) (by
        intro q hq;rcases List.mem_cons.1 hq with rfl|hq
        ·exact q1
        ·rcases List.mem_cons.1 hq with rfl|hq
         ·exact q2
         ·obtain rfl:=List.mem_singleton.1 hq;exact q3)
     refine⟨v,m,?_,?_⟩
     ·unfold GO;rw[hr];exact h1
     ·rw[h2];unfold Bn;rw[hat,AY hst,hr]
   |false=>
    have q3:=q3 false hw;rw[hw]at hq;have hat:C7 (p:Int)=(p':Int):=by rw[AY hp];simp at hq;omega
    rcases hop with rfl|rfl|rfl|rfl
    ·obtain⟨v,m,h1,h2⟩:=BO (T6 (AD l) (AQ pk) (FN pk sp) l.length port (kd (r 0)) (nv (r 0)) (kd (r 1)) (nv (r 1)) (kd (r 2)) (nv (r 2)) (kd (r 3)) (nv (r 3)) (kd (r 4)) (nv (r 4)) (kd (r 5)) (nv (r 5)) (kd (r 6)) (nv (r 6)) (kd (r 7)) (nv (r 7)) (kd (r 9)) (nv (r 9)) (p:Int) (st:Int) a n o) (by
        intro q hq;rcases List.mem_cons.1 hq with rfl|hq
        ·exact q1
        ·rcases List.mem_cons.1 hq with rfl|hq
         ·exact q2
         ·obtain rfl:=List.mem_singleton.1 hq;exact q3)
     refine⟨v,m,?_,?_⟩
     ·unfold GO;rw[hr];exact h1
     ·rw[h2];unfold Bn;rw[hat,AY hst,hr]
    ·obtain⟨v,m,h1,h2⟩:=BO (Tc (AD l) (AQ pk) (FN pk sp) l.length port (kd (r 0)) (nv (r 0)) (kd (r 1)) (nv (r 1)) (kd (r 2)) (nv (r 2)) (kd (r 3)) (nv (r 3)) (kd (r 4)) (nv (r 4)) (kd (r 5)) (nv (r 5)) (kd (r 6)) (nv (r 6)) (kd (r 7)) (nv (r 7)) (kd (r 9)) (nv (r 9)) (p:Int) (st:Int) a n o) (by
        intro q hq;rcases List.mem_cons.1 hq with rfl|hq
        ·exact q1
        ·rcases List.mem_cons.1 hq with rfl|hq
         ·exact q2
         ·obtain rfl:=List.mem_singleton.1 hq;exact q3)
     refine⟨v,m,?_,?_⟩
     ·unfold GO;rw[hr];exact h1
     ·rw[h2];unfold Bn;rw[hat,AY hst,hr]
    ·obtain⟨v,m,h1,h2⟩:=BO (Rq (AD l) (AQ pk) (FN pk sp) l.length port (kd (r 0)) (nv (r 0)) (kd (r 1)) (nv (r 1)) (kd (r 2)) (nv (r 2)) (kd (r 3)) (nv (r 3)) (kd (r 4)) (nv (r 4)) (kd (r 5)) (nv (r 5)) (kd (r 6)) (nv (r 6)) (kd (r 7)) (nv (r 7)) (kd (r 9)) (nv (r 9)) (p:Int) (st:Int) a n o) (by
        intro q hq;rcases List.mem_cons.1 hq with rfl|hq
        ·exact q1
        ·rcases List.mem_cons.1 hq with rfl|hq
         ·exact q2
         ·obtain rfl:=List.mem_singleton.1 hq;exact q3)
     refine⟨v,m,?_,?_⟩
     ·unfold GO;rw[hr];exact h1
     ·rw[h2];unfold Bn;rw[hat,AY hst,hr]
    ·obtain⟨v,m,h1,h2⟩:=BO (T9 (AD l) (AQ pk) (FN pk sp) l.length port (kd (r 0)) (nv (r 0)) (kd (r 1)) (nv (r 1)) (kd (r 2)) (nv (r 2)) (kd (r 3)) (nv (r 3)) (kd (r 4)) (nv (r 4)) (kd (r 5)) (nv (r 5)) (kd (r 6)) (nv (r 6)) (kd (r 7)) (nv (r 7)) (kd (r 9)) (nv (r 9)) (p:Int) (st:Int) a n o) (by
        intro q hq;rcases List.mem_cons.1 hq with rfl|hq
        ·exact q1
        ·rcases List.mem_cons.1 hq with rfl|hq
         ·exact q2
         ·obtain rfl:=List.mem_singleton.1 hq;exact q3)
     refine⟨v,m,?_,?_⟩
     ·unfold GO;rw[hr];exact h1
     ·rw[h2];unfold Bn;rw[hat,AY hst,hr]
 |jifR hc hop he he3 hq hlt=>
  rename_i op a c o;obtain⟨q1,q2⟩:=Dv hc;refine⟨?_,hR⟩;have hr:AK r=AI (kd (r 0)) (nv (r 0)) (kd (r 1)) (nv (r 1)) 1 a 1 c (kd (r 4)) (nv (r 4)) (kd (r 5)) (nv (r 5)) (kd (r 6)) (nv (r 6)) (kd (r 7)) (nv (r 7)) (kd (r 8)) (nv (r 8)) (kd (r 9)) (nv (r 9)):=by unfold AK;rw[he,he3];rfl
  have q3:∀w:Bool,Cj op a c=w->DD 71 [.int .i64 op, .bool true, .int .u64 a, .int .u64 c] (.cells true (AQ pk)) (.tuple ⟨[.bool w, .int .i64 0]⟩):=λw hw=> .inl ⟨rfl,w,rfl,by rcases hop with rfl|rfl<;>simp,hw.symm⟩;cases hw:Cj op a c with
  |true=>
   have q3:=q3 true hw;rw[hw]at hq;have hat:IntKind.wrap .i64 (Int.add (C7 (p:Int)) (IntKind.wrap .i64 o))=(p':Int):=L2 hp hp2 (by simpa using hq);rcases hop with rfl|rfl
   ·obtain⟨v,m,h1,h2⟩:=BO (Te (AD l) (AQ pk) (FN pk sp) l.length port (kd (r 0)) (nv (r 0)) (kd (r 1)) (nv (r 1)) (kd (r 4)) (nv (r 4)) (kd (r 5)) (nv (r 5)) (kd (r 6)) (nv (r 6)) (kd (r 7)) (nv (r 7)) (kd (r 8)) (nv (r 8)) (kd (r 9)) (nv (r 9)) (p:Int) (st:Int) a c o) (by
       intro q hq;rcases List.mem_cons.1 hq with rfl|hq
       ·exact q1
       ·rcases List.mem_cons.1 hq with rfl|hq
        ·exact q2
        ·obtain rfl:=List.mem_singleton.1 hq;exact q3)
    refine⟨v,m,?_,?_⟩
    ·unfold GO;rw[hr];exact h1
    ·rw[h2];unfold Bn;rw[hat,AY hst,hr]
   ·obtain⟨v,m,h1,h2⟩:=BO (XP (AD l) (AQ pk) (FN pk sp) l.length port (kd (r 0)) (nv (r 0)) (kd (r 1)) (nv (r 1)) (kd (r 4)) (nv (r 4)) (kd (r 5)) (nv (r 5)) (kd (r 6)) (nv (r 6)) (kd (r 7)) (nv (r 7)) (kd (r 8)) (nv (r 8)) (kd (r 9)) (nv (r 9)) (p:Int) (st:Int) a c o) (by
       intro q hq;rcases List.mem_cons.1 hq with rfl|hq
       ·exact q1
       ·rcases List.mem_cons.1 hq with rfl|hq
        ·exact q2
        ·obtain rfl:=List.mem_singleton.1 hq;exact q3)
    refine⟨v,m,?_,?_⟩
    ·unfold GO;rw[hr];exact h1
    ·rw[h2];unfold Bn;rw[hat,AY hst,hr]
  |false=>
   have q3:=q3 false hw;rw[hw]at hq;have hat:C7 (p:Int)=(p':Int):=by rw[AY hp];simp at hq;omega
   rcases hop with rfl|rfl
   ·obtain⟨v,m,h1,h2⟩:=BO (Tk (AD l) (AQ pk) (FN pk sp) l.length port (kd (r 0)) (nv (r 0)) (kd (r 1)) (nv (r 1)) (kd (r 4)) (nv (r 4)) (kd (r 5)) (nv (r 5)) (kd (r 6)) (nv (r 6)) (kd (r 7)) (nv (r 7)) (kd (r 8)) (nv (r 8)) (kd (r 9)) (nv (r 9)) (p:Int) (st:Int) a c o) (by
       intro q hq;rcases List.mem_cons.1 hq with rfl|hq
       ·exact q1
       ·rcases List.mem_cons.1 hq with rfl|hq
        ·exact q2
        ·obtain rfl:=List.mem_singleton.1 hq;exact q3)
    refine⟨v,m,?_,?_⟩
    ·unfold GO;rw[hr];exact h1
    ·rw[h2];unfold Bn;rw[hat,AY hst,hr]
   ·obtain⟨v,m,h1,h2⟩:=BO (XS (AD l) (AQ pk) (FN pk sp) l.length port (kd (r 0)) (nv (r 0)) (kd (r 1)) (nv (r 1)) (kd (r 4)) (nv (r 4)) (kd (r 5)) (nv (r 5)) (kd (r 6)) (nv (r 6)) (kd (r 7)) (nv (r 7)) (kd (r 8)) (nv (r 8)) (kd (r 9)) (nv (r 9)) (p:Int) (st:Int) a c o) (by
       intro q hq;rcases List.mem_cons.1 hq with rfl|hq
       ·exact q1
       ·rcases List.mem_cons.1 hq with rfl|hq
        ·exact q2
        ·obtain rfl:=List.mem_singleton.1 hq;exact q3)
    refine⟨v,m,?_,?_⟩
    ·unfold GO;rw[hr];exact h1
    ·rw[h2];unfold Bn;rw[hat,AY hst,hr]
 |goto hc hq hlt=>
  rename_i o;obtain⟨q1,q2⟩:=Dv hc;refine⟨?_,hR⟩
  obtain⟨v,m,h1,h2⟩:=BO (mA (AD l) (AQ pk) (FN pk sp) l.length port (kd (r 0)) (nv (r 0)) (kd (r 1)) (nv (r 1)) (kd (r 2)) (nv (r 2)) (kd (r 3)) (nv (r 3)) (kd (r 4)) (nv (r 4)) (kd (r 5)) (nv (r 5)) (kd (r 6)) (nv (r 6)) (kd (r 7)) (nv (r 7)) (kd (r 8)) (nv (r 8)) (kd (r 9)) (nv (r 9)) (p:Int) (st:Int) o) (by
   intro q hq;rcases List.mem_cons.1 hq with rfl|hq
   ·exact q1
   ·obtain rfl:=List.mem_singleton.1 hq;exact q2)
  refine⟨v,m,h1,?_⟩;rw[h2];unfold Bn;rw[show IntKind.wrap .i64 (Int.add (C7 (p:Int)) (IntKind.wrap .i64 o))=(p':Int)from L2 hp hp2 hq,AY hst];rfl
theorem TO{l:List B1}{pk:List Int}{sp:Option Nat}{port:Int}{p st:Nat}{r:Int->RV}{a:Int}(hst:st<=1000000000)(hc:l[p]?=some DC)(he:r 0= .num a):V0 l pk sp port r p st r p (st+1) true:=by
 obtain⟨q1,q2⟩:=Dv hc
 have hr:AK r=AI 1 a (kd (r 1)) (nv (r 1)) (kd (r 2)) (nv (r 2)) (kd (r 3)) (nv (r 3)) (kd (r 4)) (nv (r 4)) (kd (r 5)) (nv (r 5)) (kd (r 6)) (nv (r 6)) (kd (r 7)) (nv (r 7)) (kd (r 8)) (nv (r 8)) (kd (r 9)) (nv (r 9)):=by unfold AK;rw[he];rfl
 obtain⟨v,m,h1,h2⟩:=BO (lu (AD l) (AQ pk) (FN pk sp) l.length port (kd (r 1)) (nv (r 1)) (kd (r 2)) (nv (r 2)) (kd (r 3)) (nv (r 3)) (kd (r 4)) (nv (r 4)) (kd (r 5)) (nv (r 5)) (kd (r 6)) (nv (r 6)) (kd (r 7)) (nv (r 7)) (kd (r 8)) (nv (r 8)) (kd (r 9)) (nv (r 9)) (p:Int) (st:Int) a) (by
   intro q hq;rcases List.mem_cons.1 hq with rfl|hq
   ·exact q1
   ·obtain rfl:=List.mem_singleton.1 hq;exact q2)
 refine⟨v,m,?_,?_⟩
 ·unfold GO;rw[hr];exact h1
 ·rw[h2];unfold Bn;rw[AY hst,hr]
end
end Go.Proofs.YtgjflcgmieiafaaDoor
namespace Go.Proofs.YtgjflcgmieiafaaDoor
open Go Go.DI Go.DI.Kit Go.Proofs Go.Cmp
noncomputable section
theorem Cs:∀x∈gl,Free x:=by
 intro x hx
 simp only[gl,List.mem_cons,List.not_mem_nil,or_false]at hx
 rcases hx with h|h|h|h<;>(rw[h];exact Cq _ _)
theorem hasB{f:FuncId}(h:(match Tryd.prog.funcs[f]? with|some fn=> !fn.body.isNone|none=>false)=true):∃fn,Tryd.prog.funcs[f]?=some fn∧fn.body.isNone=false∧(fn.name== "runtime.NumGoroutine")=false:=by
 cases hf:Tryd.prog.funcs[f]? with
 |none=>rw[hf]at h;cases h
 |some fn=>
  rw[hf]at h;simp only[Bool.not_eq_true']at h;exact⟨fn,rfl,h,FZ f fn hf h⟩
def m4:Value->Nat
 | .slice (some a) _ _=>a.block
 |_=>0
def m5(i:Nat):Value->Value
 | .slice (some ⟨_,o,sp⟩) n c=> .slice (some ⟨i,o,sp⟩) n c
 |v=>v
def bsC(p:Nat):BI->List Nat
 | .cells _ (m::cd::t::pk::_::tm::ch::_)=> [p,m4 cd,m4 pk,m4 t,m4 m,m4 tm,m4 ch]
 |_=> []
def s8:BI->BI
 | .cells o (m::cd::t::pk::port::tm::ch::rest)=> .cells o (m5 5 m::m5 2 cd::m5 4 t::m5 3 pk::port::m5 6 tm::m5 7 ch::rest)
 |_=> .none
def Fz(M:Mem)(p:Nat):List Nat:=bsC p (M.get p)
def Jp(M:Mem)(p:Nat):List BI:=match Fz M p with
 |_::l=>s8 (M.get p)::l.map M.get
 | []=> []
abbrev p1:List Value:= [.pointer (some ⟨1,0,none⟩)]
open Classical in
def oM:DT:=λf a M=>match a with
 | [.pointer (some ⟨p,0,none⟩)]=>if f=21/\(∃l,Fz M p=p::l)/\Fits gl (Fz M p) (Jp M p) M then
   (match Bw Tryd.prog kp 1 oG 20 21 p1 (mS gl (Jp M p))with
    |some (v,m)=>if bL v=true/\m.get 0= .cells false gl/\∀i,0<i->i<=(Fz M p).length->okB (m.get i)then some (PJ (DQ (Fz M p) M) v,nE (Fz M p) M m)else none
    |none=>none)else none
 |_=>none
structure p7(M:Mem)(K:CU)(bs:List Nat)(l:List B1)(pk:List Int)(sp:Option Nat)(port:Int)(r:Int->RV)(at_ st:Nat)(over:Bool):Prop where
 hp:Hp M K []
 free:∀b∈bs,K b=none
 fits:Fits gl bs (eV (AD l) (AQ pk) (AM l.length) (FN pk sp) port (AK r) (at_:Int) (st:Int) over 0) M
def Di:Value->Bool
 | .int _ _=>true
 | .bool _=>true
 |_=>false
theorem XG{ρ:Nat->Nat}{v:Value}(h:Di v=true):PJ ρ v=v:=by cases v<;>simp[Di]at h<;>rfl
theorem CP{ρ:Nat->Nat}:∀{l:List Value},l.all Di=true->l.map (PJ ρ)=l
 | [],_=>rfl
 |v::l,h=>by
  simp only[List.all_cons,Bool.and_eq_true]at h;rw[List.map_cons,XG h.1,CP h.2]
theorem Fx{v:Value}(h:Di v=true):bL v=true:=by cases v<;>simp[Di]at h<;>rfl
theorem EL{v:Value}{n:Nat}(h:Di v=true):Go.DI.Kit.seenV n v=true:=by cases v<;>simp[Di]at h<;>rfl
theorem BL(l:List B1):(AD l).all Di=true:=by
 unfold AD
 rw[List.all_flatMap,List.all_eq_true]
 intro x _
 rfl
theorem Ea(pk:List Int):(AQ pk).all Di=true:=by
 unfold AQ
 rw[List.all_map,List.all_eq_true]
 intro x _
 rfl
def O0(regs:List Value)(at_ st:Int)(over:Bool):List Value:=regs++(Zi++ [.int .i64 at_, .int .i64 st, .bool over, .int .i64 0])
theorem NN(r:Int->RV)(at_ st:Int)(over:Bool):(O0 (AK r) at_ st over).all Di=true:=by kernel_rfl
theorem V1(n:Nat)(pk:List Int)(sp:Option Nat)(port:Int)(r:Int->RV)(at_ st:Int)(over:Bool):
  eU (AM n) (FN pk sp) port (AK r) at_ st over 0= .cells true (gU 5::AM n::gU 4::FN pk sp:: .int .u32 port::gU 6::gU 7::O0 (AK r) at_ st over):=rfl
theorem Pj(ρ:Nat->Nat)(n:Nat)(pk:List Int)(sp:Option Nat)(port:Int)(r:Int->RV)(at_ st:Int)(over:Bool):
  GU ρ (eU (AM n) (FN pk sp) port (AK r) at_ st over 0)= .cells true (.slice (some ⟨ρ 5,0,none⟩) 0 0:: .slice (some ⟨ρ 2,0,some 5⟩) n n:: .slice (some ⟨ρ 4,0,none⟩) 0 0:: .slice (some ⟨ρ 3,0,sp⟩) pk.length pk.length:: .int .u32 port:: .slice (some ⟨ρ 6,0,none⟩) 0 0:: .slice (some ⟨ρ 7,0,none⟩) 0 0::O0 (AK r) at_ st over):=by
 rw[V1]
 show BI.cells true (_::_::_::_::_::_::_::(O0 (AK r) at_ st over).map (PJ ρ))=_
 rw[CP (NN ..)]
 rfl
theorem aI(l:List B1)(pk:List Int)(sp:Option Nat)(port:Int)(r:Int->RV)(at_ st:Int)(over:Bool):∀s∈eV (AD l) (AQ pk) (AM l.length) (FN pk sp) port (AK r) at_ st over 0,okB s/\seenB (1+7) s:=by
 have hpl:∀c:List Value,c.all Di=true->okB (.cells true c)/\seenB (1+7) (.cells true c):=λc h=>⟨λv hv=>Fx (List.all_eq_true.1 h v hv),λv hv=>EL (List.all_eq_true.1 h v hv)⟩
 intro s hs
 simp only[eV,List.mem_cons,List.not_mem_nil,or_false]at hs
 rcases hs with rfl|rfl|rfl|rfl|rfl|rfl|rfl
 ·have ht:=hpl _ (NN r at_ st over);rw[V1];constructor
  ·intro v hv;simp only[List.mem_cons]at hv;rcases hv with rfl|rfl|rfl|rfl|rfl|rfl|rfl|hv
   ·rfl
   ·rfl
   ·rfl
   ·rfl
   ·rfl
   ·rfl
   ·rfl
   ·exact ht.1 v hv
  ·intro v hv;simp only[List.mem_cons]at hv;rcases hv with rfl|rfl|rfl|rfl|rfl|rfl|rfl|hv
   ·rfl
   ·rfl
   ·rfl
   ·rfl
   ·rfl
   ·rfl
   ·rfl
   ·exact ht.2 v hv
 ·exact hpl _ (BL l)
 ·exact hpl _ (Ea pk)
 all_goals exact hpl _ rfl
theorem seven{bs:List Nat}(h:bs.length=7):∃p c k t mm tm ch,bs= [p,c,k,t,mm,tm,ch]:=by
 match bs,h with
 | [p,c,k,t,mm,tm,ch],_=>exact⟨p,c,k,t,mm,tm,ch,rfl⟩
section
variable{M:Mem}{K:CU}{p c k t mm tm ch:Nat}{l:List B1}{pk:List Int}{sp:Option Nat}{port:Int}{r r':Int->RV}{at_ st at' st':Nat}{over:Bool}
theorem p7.get(h:p7 M K [p,c,k,t,mm,tm,ch] l pk sp port r at_ st over):
  M.get p= .cells true (.slice (some ⟨mm,0,none⟩) 0 0:: .slice (some ⟨c,0,some 5⟩) l.length l.length:: .slice (some ⟨t,0,none⟩) 0 0:: .slice (some ⟨k,0,sp⟩) pk.length pk.length:: .int .u32 port:: .slice (some ⟨tm,0,none⟩) 0 0:: .slice (some ⟨ch,0,none⟩) 0 0::O0 (AK r) (at_:Int) (st:Int) over)/\
  M.get c= .cells true (AD l)/\M.get k= .cells true (AQ pk)/\M.get t=Fv/\M.get mm=Fv/\M.get tm=Fv/\M.get ch=Fv:=by
 have hf:=h.fits.at_
 refine⟨(hf 0 p _ rfl rfl).trans (Pj ..),?_,?_,(hf 3 t _ rfl rfl).trans rfl,(hf 4 mm _ rfl rfl).trans rfl,(hf 5 tm _ rfl rfl).trans rfl,(hf 6 ch _ rfl rfl).trans rfl⟩
 ·refine(hf 1 c _ rfl rfl).trans ?_;show BI.cells true ((AD l).map _)=_;rw[CP (BL l)]
 ·refine(hf 2 k _ rfl rfl).trans ?_;show BI.cells true ((AQ pk).map _)=_;rw[CP (Ea pk)]
theorem p7.of(h:p7 M K [p,c,k,t,mm,tm,ch] l pk sp port r at_ st over):Fz M p= [p,c,k,t,mm,tm,ch]/\Jp M p=eV (AD l) (AQ pk) (AM l.length) (FN pk sp) port (AK r) (at_:Int) (st:Int) over 0:=by
 obtain⟨g1,g2,g3,g4,g5,g6,g7⟩:=h.get
 have hb:Fz M p= [p,c,k,t,mm,tm,ch]:=by unfold Fz;rw[g1];rfl
 refine⟨hb,?_⟩
 unfold Jp
 rw[hb]
 show s8 (M.get p):: [M.get c,M.get k,M.get t,M.get mm,M.get tm,M.get ch]=_
 rw[g1,g2,g3,g4,g5,g6,g7]
 rfl
end
end
end Go.Proofs.YtgjflcgmieiafaaDoor
namespace Go.Proofs.YtgjflcgmieiafaaDoor
open Go Go.DI Go.DI.Kit Go.Proofs Go.Cmp
noncomputable section
theorem Rx:Y.callK Tryd.prog kp 1 200 7 [] (mG gl) (λv m=>some (v,m.get 0))=some (.bool true, .cells false gl):=by kernel_rfl
set_option maxHeartbeats 4000000
variable{α:Type}
theorem cU:Y.callK Tryd.prog kp 1 20 30 [.int .i64 1] (mG gl) (λv m=>some (v,m.get 0))=
 (some ((.int .u64 255),.cells false gl)):=by kernel_rfl
theorem cZ:Y.callK Tryd.prog kp 1 20 24 [.int .i64 1] (mG gl) (λv m=>some (v,m.get 0))=
 (some ((.int .u64 255),.cells false gl)):=by kernel_rfl
theorem cV:Y.callK Tryd.prog kp 1 20 30 [.int .i64 2] (mG gl) (λv m=>some (v,m.get 0))=
 (some ((.int .u64 65535),.cells false gl)):=by kernel_rfl
theorem c9:Y.callK Tryd.prog kp 1 20 24 [.int .i64 2] (mG gl) (λv m=>some (v,m.get 0))=
 (some ((.int .u64 65535),.cells false gl)):=by kernel_rfl
theorem cW:Y.callK Tryd.prog kp 1 20 30 [.int .i64 4] (mG gl) (λv m=>some (v,m.get 0))=
 (some ((.int .u64 4294967295),.cells false gl)):=by kernel_rfl
theorem cg:Y.callK Tryd.prog kp 1 20 24 [.int .i64 4] (mG gl) (λv m=>some (v,m.get 0))=
 (some ((.int .u64 4294967295),.cells false gl)):=by kernel_rfl
theorem cX:Y.callK Tryd.prog kp 1 20 30 [.int .i64 8] (mG gl) (λv m=>some (v,m.get 0))=
 (some ((.int .u64 18446744073709551615),.cells false gl)):=by kernel_rfl
theorem ck:Y.callK Tryd.prog kp 1 20 24 [.int .i64 8] (mG gl) (λv m=>some (v,m.get 0))=
 (some ((.int .u64 18446744073709551615),.cells false gl)):=by kernel_rfl
theorem cY(n:Int):Y.callK Tryd.prog kp 1 20 31 [.int .u64 n] (mG gl) (λv m=>some (v,m.get 0))=
 (cond (Y.ltF n 2147483648) (some ((.bool true),.cells false gl)) (some ((.bool false),.cells false gl))):=by kernel_rfl
theorem Vn(im:Int):Y.callK Tryd.prog kp 1 20 49 [.agg ⟨[.int .i64 1,.int .i64 11,.int .i64 0,.bool true,.bool false]⟩,.agg ⟨[.int .u8 0,.int .u8 2,.int .u8 0,.int .i16 0,.int .i32 im]⟩] (mG gl) (λv m=>some (v,m.get 0))=
 (some ((.tuple ⟨[.agg ⟨[.int .u8 183,.int .u8 2,.int .u8 0,.int .i16 0,.int .i32 im]⟩,.int .i64 0]⟩),.cells false gl)):=by kernel_rfl
theorem QA(im:Int):Y.callK Tryd.prog kp 1 20 49 [.agg ⟨[.int .i64 1,.int .i64 11,.int .i64 0,.bool true,.bool false]⟩,.agg ⟨[.int .u8 0,.int .u8 3,.int .u8 0,.int .i16 0,.int .i32 im]⟩] (mG gl) (λv m=>some (v,m.get 0))=
 (some ((.tuple ⟨[.agg ⟨[.int .u8 183,.int .u8 3,.int .u8 0,.int .i16 0,.int .i32 im]⟩,.int .i64 0]⟩),.cells false gl)):=by kernel_rfl
theorem Xp(im:Int):Y.callK Tryd.prog kp 1 20 49 [.agg ⟨[.int .i64 1,.int .i64 5,.int .i64 0,.bool true,.bool false]⟩,.agg ⟨[.int .u8 0,.int .u8 2,.int .u8 0,.int .i16 0,.int .i32 im]⟩] (mG gl) (λv m=>some (v,m.get 0))=
 (some ((.tuple ⟨[.agg ⟨[.int .u8 87,.int .u8 2,.int .u8 0,.int .i16 0,.int .i32 im]⟩,.int .i64 0]⟩),.cells false gl)):=by kernel_rfl
theorem QB:Y.callK Tryd.prog kp 1 20 49 [.agg ⟨[.int .i64 1,.int .i64 11,.int .i64 0,.bool true,.bool true]⟩,.agg ⟨[.int .u8 0,.int .u8 6,.int .u8 1,.int .i16 0,.int .i32 0]⟩] (mG gl) (λv m=>some (v,m.get 0))=
 (some ((.tuple ⟨[.agg ⟨[.int .u8 191,.int .u8 6,.int .u8 1,.int .i16 0,.int .i32 0]⟩,.int .i64 0]⟩),.cells false gl)):=by kernel_rfl
theorem QC:Y.callK Tryd.prog kp 1 20 49 [.agg ⟨[.int .i64 1,.int .i64 11,.int .i64 0,.bool true,.bool true]⟩,.agg ⟨[.int .u8 0,.int .u8 2,.int .u8 8,.int .i16 0,.int .i32 0]⟩] (mG gl) (λv m=>some (v,m.get 0))=
 (some ((.tuple ⟨[.agg ⟨[.int .u8 191,.int .u8 2,.int .u8 8,.int .i16 0,.int .i32 0]⟩,.int .i64 0]⟩),.cells false gl)):=by kernel_rfl
theorem Vo:Y.callK Tryd.prog kp 1 20 49 [.agg ⟨[.int .i64 1,.int .i64 5,.int .i64 0,.bool true,.bool true]⟩,.agg ⟨[.int .u8 0,.int .u8 2,.int .u8 3,.int .i16 0,.int .i32 0]⟩] (mG gl) (λv m=>some (v,m.get 0))=
 (some ((.tuple ⟨[.agg ⟨[.int .u8 95,.int .u8 2,.int .u8 3,.int .i16 0,.int .i32 0]⟩,.int .i64 0]⟩),.cells false gl)):=by kernel_rfl
theorem cM(im:Int):Y.callK Tryd.prog kp 1 20 49 [.agg ⟨[.int .i64 1,.int .i64 11,.int .i64 0,.bool false,.bool false]⟩,.agg ⟨[.int .u8 0,.int .u8 0,.int .u8 0,.int .i16 0,.int .i32 im]⟩] (mG gl) (λv m=>some (v,m.get 0))=
 (some ((.tuple ⟨[.agg ⟨[.int .u8 180,.int .u8 0,.int .u8 0,.int .i16 0,.int .i32 im]⟩,.int .i64 0]⟩),.cells false gl)):=by kernel_rfl
theorem Xq:Y.callK Tryd.prog kp 1 20 49 [.agg ⟨[.int .i64 9,.int .i64 0,.int .i64 0,.bool false,.bool false]⟩,.agg ⟨[.int .u8 0,.int .u8 0,.int .u8 0,.int .i16 0,.int .i32 0]⟩] (mG gl) (λv m=>some (v,m.get 0))=
 (some ((.tuple ⟨[.agg ⟨[.int .u8 149,.int .u8 0,.int .u8 0,.int .i16 0,.int .i32 0]⟩,.int .i64 0]⟩),.cells false gl)):=by kernel_rfl
theorem Vp(im:Int):Y.callK Tryd.prog kp 1 20 49 [.agg ⟨[.int .i64 10,.int .i64 0,.int .i64 0,.bool false,.bool false]⟩,.agg ⟨[.int .u8 0,.int .u8 3,.int .u8 0,.int .i16 0,.int .i32 im]⟩] (mG gl) (λv m=>some (v,m.get 0))=
 (some ((.tuple ⟨[.agg ⟨[.int .u8 24,.int .u8 3,.int .u8 0,.int .i16 0,.int .i32 im]⟩,.int .i64 0]⟩),.cells false gl)):=by kernel_rfl
theorem Xr(of:Int):Y.callK Tryd.prog kp 1 20 49 [.agg ⟨[.int .i64 3,.int .i64 0,.int .i64 4,.bool false,.bool false]⟩,.agg ⟨[.int .u8 0,.int .u8 8,.int .u8 6,.int .i16 of,.int .i32 0]⟩] (mG gl) (λv m=>some (v,m.get 0))=
 (some ((.tuple ⟨[.agg ⟨[.int .u8 97,.int .u8 8,.int .u8 6,.int .i16 of,.int .i32 0]⟩,.int .i64 0]⟩),.cells false gl)):=by kernel_rfl
theorem Xs(of:Int):Y.callK Tryd.prog kp 1 20 49 [.agg ⟨[.int .i64 3,.int .i64 0,.int .i64 4,.bool false,.bool false]⟩,.agg ⟨[.int .u8 0,.int .u8 2,.int .u8 6,.int .i16 of,.int .i32 0]⟩] (mG gl) (λv m=>some (v,m.get 0))=
 (some ((.tuple ⟨[.agg ⟨[.int .u8 97,.int .u8 2,.int .u8 6,.int .i16 of,.int .i32 0]⟩,.int .i64 0]⟩),.cells false gl)):=by kernel_rfl
theorem cN(of:Int):Y.callK Tryd.prog kp 1 20 49 [.agg ⟨[.int .i64 3,.int .i64 0,.int .i64 8,.bool false,.bool false]⟩,.agg ⟨[.int .u8 0,.int .u8 7,.int .u8 1,.int .i16 of,.int .i32 0]⟩] (mG gl) (λv m=>some (v,m.get 0))=
 (some ((.tuple ⟨[.agg ⟨[.int .u8 121,.int .u8 7,.int .u8 1,.int .i16 of,.int .i32 0]⟩,.int .i64 0]⟩),.cells false gl)):=by kernel_rfl
theorem Vq(of:Int):Y.callK Tryd.prog kp 1 20 49 [.agg ⟨[.int .i64 3,.int .i64 0,.int .i64 1,.bool false,.bool false]⟩,.agg ⟨[.int .u8 0,.int .u8 2,.int .u8 7,.int .i16 of,.int .i32 0]⟩] (mG gl) (λv m=>some (v,m.get 0))=
 (some ((.tuple ⟨[.agg ⟨[.int .u8 113,.int .u8 2,.int .u8 7,.int .i16 of,.int .i32 0]⟩,.int .i64 0]⟩),.cells false gl)):=by kernel_rfl
theorem Vr(of:Int):Y.callK Tryd.prog kp 1 20 49 [.agg ⟨[.int .i64 3,.int .i64 0,.int .i64 2,.bool false,.bool false]⟩,.agg ⟨[.int .u8 0,.int .u8 2,.int .u8 7,.int .i16 of,.int .i32 0]⟩] (mG gl) (λv m=>some (v,m.get 0))=
 (some ((.tuple ⟨[.agg ⟨[.int .u8 105,.int .u8 2,.int .u8 7,.int .i16 of,.int .i32 0]⟩,.int .i64 0]⟩),.cells false gl)):=by kernel_rfl
theorem Vs(of:Int):Y.callK Tryd.prog kp 1 20 49 [.agg ⟨[.int .i64 3,.int .i64 0,.int .i64 4,.bool false,.bool false]⟩,.agg ⟨[.int .u8 0,.int .u8 2,.int .u8 7,.int .i16 of,.int .i32 0]⟩] (mG gl) (λv m=>some (v,m.get 0))=
 (some ((.tuple ⟨[.agg ⟨[.int .u8 97,.int .u8 2,.int .u8 7,.int .i16 of,.int .i32 0]⟩,.int .i64 0]⟩),.cells false gl)):=by kernel_rfl
theorem Vt(of:Int):Y.callK Tryd.prog kp 1 20 49 [.agg ⟨[.int .i64 3,.int .i64 0,.int .i64 8,.bool false,.bool false]⟩,.agg ⟨[.int .u8 0,.int .u8 2,.int .u8 7,.int .i16 of,.int .i32 0]⟩] (mG gl) (λv m=>some (v,m.get 0))=
 (some ((.tuple ⟨[.agg ⟨[.int .u8 121,.int .u8 2,.int .u8 7,.int .i16 of,.int .i32 0]⟩,.int .i64 0]⟩),.cells false gl)):=by kernel_rfl
theorem cO(im:Int):Y.callK Tryd.prog kp 1 20 49 [.agg ⟨[.int .i64 6,.int .i64 3,.int .i64 0,.bool true,.bool false]⟩,.agg ⟨[.int .u8 0,.int .u8 8,.int .u8 0,.int .i16 0,.int .i32 im]⟩] (mG gl) (λv m=>some (v,m.get 0))=
 (some ((.tuple ⟨[.agg ⟨[.int .u8 53,.int .u8 8,.int .u8 0,.int .i16 0,.int .i32 im]⟩,.int .i64 0]⟩),.cells false gl)):=by kernel_rfl
theorem cP(im:Int):Y.callK Tryd.prog kp 1 20 49 [.agg ⟨[.int .i64 6,.int .i64 5,.int .i64 0,.bool true,.bool false]⟩,.agg ⟨[.int .u8 0,.int .u8 2,.int .u8 0,.int .i16 0,.int .i32 im]⟩] (mG gl) (λv m=>some (v,m.get 0))=
 (some ((.tuple ⟨[.agg ⟨[.int .u8 85,.int .u8 2,.int .u8 0,.int .i16 0,.int .i32 im]⟩,.int .i64 0]⟩),.cells false gl)):=by kernel_rfl
theorem Xt(im:Int):Y.callK Tryd.prog kp 1 20 49 [.agg ⟨[.int .i64 6,.int .i64 10,.int .i64 0,.bool true,.bool false]⟩,.agg ⟨[.int .u8 0,.int .u8 2,.int .u8 0,.int .i16 0,.int .i32 im]⟩] (mG gl) (λv m=>some (v,m.get 0))=
 (some ((.tuple ⟨[.agg ⟨[.int .u8 165,.int .u8 2,.int .u8 0,.int .i16 0,.int .i32 im]⟩,.int .i64 0]⟩),.cells false gl)):=by kernel_rfl
theorem cQ(im:Int):Y.callK Tryd.prog kp 1 20 49 [.agg ⟨[.int .i64 6,.int .i64 2,.int .i64 0,.bool true,.bool false]⟩,.agg ⟨[.int .u8 0,.int .u8 2,.int .u8 0,.int .i16 0,.int .i32 im]⟩] (mG gl) (λv m=>some (v,m.get 0))=
 (some ((.tuple ⟨[.agg ⟨[.int .u8 37,.int .u8 2,.int .u8 0,.int .i16 0,.int .i32 im]⟩,.int .i64 0]⟩),.cells false gl)):=by kernel_rfl
theorem Vu:Y.callK Tryd.prog kp 1 20 49 [.agg ⟨[.int .i64 6,.int .i64 10,.int .i64 0,.bool true,.bool true]⟩,.agg ⟨[.int .u8 0,.int .u8 2,.int .u8 3,.int .i16 0,.int .i32 0]⟩] (mG gl) (λv m=>some (v,m.get 0))=
 (some ((.tuple ⟨[.agg ⟨[.int .u8 173,.int .u8 2,.int .u8 3,.int .i16 0,.int .i32 0]⟩,.int .i64 0]⟩),.cells false gl)):=by kernel_rfl
theorem Xu:Y.callK Tryd.prog kp 1 20 49 [.agg ⟨[.int .i64 6,.int .i64 2,.int .i64 0,.bool true,.bool true]⟩,.agg ⟨[.int .u8 0,.int .u8 2,.int .u8 3,.int .i16 0,.int .i32 0]⟩] (mG gl) (λv m=>some (v,m.get 0))=
 (some ((.tuple ⟨[.agg ⟨[.int .u8 45,.int .u8 2,.int .u8 3,.int .i16 0,.int .i32 0]⟩,.int .i64 0]⟩),.cells false gl)):=by kernel_rfl
theorem Xv:Y.callK Tryd.prog kp 1 20 49 [.agg ⟨[.int .i64 7,.int .i64 0,.int .i64 0,.bool false,.bool false]⟩,.agg ⟨[.int .u8 0,.int .u8 0,.int .u8 0,.int .i16 0,.int .i32 0]⟩] (mG gl) (λv m=>some (v,m.get 0))=
 (some ((.tuple ⟨[.agg ⟨[.int .u8 5,.int .u8 0,.int .u8 0,.int .i16 0,.int .i32 0]⟩,.int .i64 0]⟩),.cells false gl)):=by kernel_rfl
theorem cR:Y.callK Tryd.prog kp 1 20 49 [.agg ⟨[.int .i64 2,.int .i64 0,.int .i64 2,.bool false,.bool false]⟩,.agg ⟨[.int .u8 0,.int .u8 2,.int .u8 0,.int .i16 0,.int .i32 0]⟩] (mG gl) (λv m=>some (v,m.get 0))=
 (some ((.tuple ⟨[.agg ⟨[.int .u8 215,.int .u8 2,.int .u8 0,.int .i16 0,.int .i32 16]⟩,.int .i64 0]⟩),.cells false gl)):=by kernel_rfl
theorem cS:Y.callK Tryd.prog kp 1 20 49 [.agg ⟨[.int .i64 2,.int .i64 0,.int .i64 4,.bool false,.bool false]⟩,.agg ⟨[.int .u8 0,.int .u8 2,.int .u8 0,.int .i16 0,.int .i32 0]⟩] (mG gl) (λv m=>some (v,m.get 0))=
 (some ((.tuple ⟨[.agg ⟨[.int .u8 215,.int .u8 2,.int .u8 0,.int .i16 0,.int .i32 32]⟩,.int .i64 0]⟩),.cells false gl)):=by kernel_rfl
theorem cT:Y.callK Tryd.prog kp 1 20 49 [.agg ⟨[.int .i64 2,.int .i64 0,.int .i64 8,.bool false,.bool false]⟩,.agg ⟨[.int .u8 0,.int .u8 2,.int .u8 0,.int .i16 0,.int .i32 0]⟩] (mG gl) (λv m=>some (v,m.get 0))=
 (some ((.tuple ⟨[.agg ⟨[.int .u8 215,.int .u8 2,.int .u8 0,.int .i16 0,.int .i32 64]⟩,.int .i64 0]⟩),.cells false gl)):=by kernel_rfl
end
end Go.Proofs.YtgjflcgmieiafaaDoor
namespace Go.Proofs.YtgjflcgmieiafaaDoor
open Go Go.DI Go.DI.Kit Go.Proofs Go.Cmp
noncomputable section
def UJ:Value->Bool
 | .int _ _=>true
 | .bool _=>true
 |_=>false
def UK:Value->Bool
 | .agg a=>a.toList.all UJ
 |v=>UJ v
def UL:Value->Bool
 | .tuple a=>a.toList.all UK
 |v=>UK v
theorem Xl{v:Value}(h:UJ v=true):Free v:=by
 cases v<;>simp[UJ]at h
 ·exact D4 _
 ·exact Cq _ _
theorem Xm{v:Value}(h:UK v=true):Free v:=by
 unfold UK at h
 split at h
 ·exact Xn λx hx=>Xl (List.all_eq_true.1 h x hx)
 ·exact Xl h
theorem Xo{v:Value}(h:UL v=true):Free v:=by
 unfold UL at h
 split at h
 ·exact Ej λx hx=>Xm (List.all_eq_true.1 h x hx)
 ·exact Xm h
def oQ:DT:=λf a M=>
 if f=7 then Ok gl (Cr Tryd.prog kp 1 200) f a M
 else if f=24\/f=30\/f=31\/f=49 then Ok gl (Cr Tryd.prog kp 1 20) f a M
 else none
theorem qA(a:List Value)(M:Mem):oQ 7 a M=Ok gl (Cr Tryd.prog kp 1 200) 7 a M:=if_pos rfl
theorem CS{f:FuncId}(h:f=24\/f=30\/f=31\/f=49)(a:List Value)(M:Mem):oQ f a M=Ok gl (Cr Tryd.prog kp 1 20) f a M:=by
 unfold oQ
 rw[if_neg (by rcases h with rfl|rfl|rfl|rfl<;>decide),if_pos h]
theorem jC(f:FuncId)(h:f∉ [7,24,30,31,49])(a:List Value)(M:Mem):oQ f a M=none:=by
 simp only[List.mem_cons,List.not_mem_nil,or_false,not_or]at h
 unfold oQ
 rw[if_neg h.1,if_neg (by rintro(e|e|e|e)<;>simp_all)]
theorem UM{B0:Nat}{f:FuncId}{a:List Value}{M M':Mem}{v:Value}(h:oQ f a M=some (v,M')):Dr Tryd.prog B0 1 f a M v M'/\Dx M M':=by
 unfold oQ at h
 split at h
 ·exact UN Cs (JQ Br hK FZ 200) (λ_ _ _ _ _ h=>Fb 200 _ _ _ _ _ h) h
 split at h
 ·exact UN Cs (JQ Br hK FZ 20) (λ_ _ _ _ _ h=>Fb 20 _ _ _ _ _ h) h
 ·cases h
theorem SF:Bc oQ:=λf a M v M' h=>(UM (B0:=0) h).2
theorem mi{f:FuncId}{a:List Value}{M M':Mem}{v:Value}(h:oQ f a M=some (v,M')):∃fn,Tryd.prog.funcs[f]?=some fn∧fn.body.isNone=false∧(fn.name== "runtime.NumGoroutine")=false:=by
 unfold oQ at h
 split at h
 ·rename_i hf;subst hf;exact hasB (by kernel_rfl)
 split at h
 ·rename_i hf;rcases hf with rfl|rfl|rfl|rfl<;>exact hasB (by kernel_rfl)
 ·cases h
theorem mj{B0:Nat}:CT Tryd.prog B0 1 oQ:=⟨λf a M v M' h=>(SF f a M v M' h).size,λf a M v M' h=>(UM h).1,λf a M v M' h=>mi h⟩
theorem CH{f:FuncId}{a:List Value}{v:Value}{kk:Nat}(hf:∀M,oQ f a M=Ok gl (Cr Tryd.prog kp 1 kk) f a M)(h:Y.callK Tryd.prog kp 1 kk f a (mG gl) (λv m=>some (v,m.get 0))=some (v, .cells false gl))(ha:a.all UL=true)(hv:UL v=true)(hok:IP Tryd.prog f v=true):Pure oQ f a v:=λk M hk ht h1 h0=>by
 obtain⟨m,c1,c2⟩:=cH h
 exact⟨_,cJ hk ((hf M).trans (cL ht h1 h0 (λx hx=>Xo (List.all_eq_true.1 ha x hx)) c1 (Xo hv) c2)) hok,Vm M _⟩
theorem Kf(x:B1)(e:Int):IP Tryd.prog 49 (.tuple ⟨[EV x, .int .i64 e]⟩)=true:=by
 kernel_rfl
theorem jD:Pure oQ 7 [] (.bool true):=CH (qA _) Rx rfl rfl (by kernel_rfl)
theorem mkC{w i:Value}{x:B1}(h:Kg w i x):Pure oQ 49 [w,i] (.tuple ⟨[EV x, .int .i64 0]⟩):=by
 have h52:(49:FuncId)=24\/(49:FuncId)=30\/(49:FuncId)=31\/(49:FuncId)=49:=by decide
 cases h with
 |num h=>
  rcases h with⟨rfl,rfl⟩|⟨rfl,rfl⟩|⟨rfl,rfl⟩
  ·exact CH (CS h52 _) (Vn _) rfl rfl (Kf _ _)
  ·exact CH (CS h52 _) (QA _) rfl rfl (Kf _ _)
  ·exact CH (CS h52 _) (Xp _) rfl rfl (Kf _ _)
 |regs h=>
  rcases h with⟨rfl,rfl,rfl⟩|⟨rfl,rfl,rfl⟩|⟨rfl,rfl,rfl⟩
  ·exact CH (CS h52 _) (QB) rfl rfl (Kf _ _)
  ·exact CH (CS h52 _) (QC) rfl rfl (Kf _ _)
  ·exact CH (CS h52 _) (Vo) rfl rfl (Kf _ _)
 |low=>exact CH (CS h52 _) (cM _) rfl rfl (Kf _ _)
 |exit=>exact CH (CS h52 _) (Xq) rfl rfl (Kf _ _)
 |const=>exact CH (CS h52 _) (Vp _) rfl rfl (Kf _ _)
 |load h=>
  rcases h with⟨rfl,rfl,rfl⟩|⟨rfl,rfl,rfl⟩|⟨rfl,rfl,rfl⟩|⟨rfl|rfl|rfl|rfl,rfl,rfl⟩
  ·exact CH (CS h52 _) (Xr _) rfl rfl (Kf _ _)
  ·exact CH (CS h52 _) (Xs _) rfl rfl (Kf _ _)
  ·exact CH (CS h52 _) (cN _) rfl rfl (Kf _ _)
  ·exact CH (CS h52 _) (Vq _) rfl rfl (Kf _ _)
  ·exact CH (CS h52 _) (Vr _) rfl rfl (Kf _ _)
  ·exact CH (CS h52 _) (Vs _) rfl rfl (Kf _ _)
  ·exact CH (CS h52 _) (Vt _) rfl rfl (Kf _ _)
 |jif h=>
  rcases h with⟨rfl,rfl⟩|⟨rfl,rfl⟩|⟨rfl,rfl⟩|⟨rfl,rfl⟩
  ·exact CH (CS h52 _) (cO _) rfl rfl (Kf _ _)
  ·exact CH (CS h52 _) (cP _) rfl rfl (Kf _ _)
  ·exact CH (CS h52 _) (Xt _) rfl rfl (Kf _ _)
  ·exact CH (CS h52 _) (cQ _) rfl rfl (Kf _ _)
 |jifR h=>
  rcases h with rfl|rfl
  ·exact CH (CS h52 _) (Vu) rfl rfl (Kf _ _)
  ·exact CH (CS h52 _) (Xu) rfl rfl (Kf _ _)
 |goto=>exact CH (CS h52 _) (Xv) rfl rfl (Kf _ _)
 |swap h=>
  rcases h with rfl|rfl|rfl
  ·exact CH (CS h52 _) (cR) rfl rfl (Kf _ _)
  ·exact CH (CS h52 _) (cS) rfl rfl (Kf _ _)
  ·exact CH (CS h52 _) (cT) rfl rfl (Kf _ _)
theorem mn:GX oQ where
 off:=jC
 mkP h:=⟨0,mkC h⟩
 most h:=by
  rcases h with rfl|rfl|rfl|rfl
  ·exact CH (CS (by decide) _) cU rfl rfl (by kernel_rfl)
  ·exact CH (CS (by decide) _) cV rfl rfl (by kernel_rfl)
  ·exact CH (CS (by decide) _) cW rfl rfl (by kernel_rfl)
  ·exact CH (CS (by decide) _) cX rfl rfl (by kernel_rfl)
 small n:=by
  have h:=cY n;by_cases hn:n<2147483648
  ·rw[Ee hn]at h;rw[decide_eq_true hn];exact CH (CS (by decide) _) h rfl rfl (by kernel_rfl)
  ·rw[C3 hn]at h;rw[decide_eq_false hn];exact CH (CS (by decide) _) h rfl rfl (by kernel_rfl)
 full2 h:=by
  rcases h with rfl|rfl|rfl|rfl
  ·exact CH (CS (by decide) _) cZ rfl rfl (by kernel_rfl)
  ·exact CH (CS (by decide) _) c9 rfl rfl (by kernel_rfl)
  ·exact CH (CS (by decide) _) cg rfl rfl (by kernel_rfl)
  ·exact CH (CS (by decide) _) ck rfl rfl (by kernel_rfl)
end
end Go.Proofs.YtgjflcgmieiafaaDoor
namespace Go.Cmp
open Go Go.DI
inductive XX:B1->Prop
 |movI {d n:Int}:Bu d->XX (DE 11 d n)
 |andI {d n:Int}:Bu d->XX (DE 5 d n)
 |movR {d s:Int}:Bu d->Bu s->XX (Ba 11 d s)
 |andR {d s:Int}:Bu d->Bu s->XX (Ba 5 d s)
 |low {n:Int}:XX (G3 n)
 |exit:XX DC
 |load {z d s o:Int}:Pn z->Bu d->Bu s->XX (BG z d s o)
 |swap {z:Int}:Pn z->1<z->XX (C0 z)
inductive jf:B1->Prop
 |jif {op d n:Int}:iZ op->Bu d->jf (Cw op d n)
 |jifR {op:Int}:op=10\/op=2->jf (Ec op)
 |goto:jf Bm
inductive Un:List A9->Prop
 |nil:Un []
 |lab {l:Nat} {s:List A9}:Un s->Un (lab (l+1)::s)
 |one {x:B1} {s:List A9}:XX x->Un s->Un (ins x 0::s)
 |jump {x:B1} {l:Nat} {s:List A9}:jf x->Un s->Un (ins x (l+1)::s)
 |two {n:Int} {s:List A9}:Un s->Un (ins (Bj n) 0::ins (Cp n) 0::s)
theorem Un.append{a b:List A9}(ha:Un a)(hb:Un b):Un (a++b):=by
 induction ha with
 |nil=>exact hb
 |lab _ ih=>exact .lab ih
 |one h _ ih=>exact .one h ih
 |jump h _ ih=>exact .jump h ih
 |two _ ih=>exact .two ih
theorem rg(d:Int)(h0:0<=d)(h1:d<=9):Bu d:=⟨h0,h1⟩
theorem Fc:Un AZ:= .one (.movI (rg 2 (by decide) (by decide))) (.one (.movI (rg 3 (by decide) (by decide))) (.one (.load (.inr (.inr (.inl rfl))) (rg 8 (by decide) (by decide)) (rg 6 (by decide) (by decide))) .nil))
theorem YH(v:Int):Un (EX v):= .one .low (.one .exit .nil)
theorem Ou(a o:Nat)(n:Int):Un (C9 (a+1) n (o+1)):= .jump (.jif (.inl rfl) (rg 8 (by decide) (by decide))) (.jump .goto (.lab .nil))
theorem US{op:Int}(h:op=10\/op=2)(n:Int)(o:Nat):Un (D6 op n (o+1)):=by
 unfold D6
 split
 ·exact .jump (.jif (by rcases h with rfl|rfl<;>simp[iZ]) (rg 2 (by decide) (by decide))) .nil
 ·exact .two (.jump (.jifR h) .nil)
theorem UT{t:A7}(hz:Pn t.size)(o d:Nat):∀m k n:Nat,Un (CR t (o+1) (d+1) m k n)
 |0,_,_=> .nil
 |m+1,k,n=>by
  have h1:Un [ins (Cw 5 2 k) (if k=15 then o+1 else n+1)]:=by
   split<;>exact .jump (.jif (.inr (.inl rfl)) (rg 2 (by decide) (by decide))) .nil
  exact((h1.append (Ou (n+1) o _)).append (.one (.load hz (rg 2 (by decide) (by decide)) (rg 7 (by decide) (by decide))) (.jump .goto (.lab .nil)))).append (UT hz o d m (k+1) (n+2))
theorem jg{t:A7}(hW:JO t)(n:Nat):Un (FC t n):=by
 have h2:=rg 2 (by decide) (by decide)
 unfold FC
 split
 ·exact .one (.movR h2 (rg 8 (by decide) (by decide))) .nil
 split
 ·exact .one (.load (.inr (.inr (.inl rfl))) h2 (rg 6 (by decide) (by decide))) .nil
 rename_i k1 k2
 obtain⟨hk,_,hz,_⟩:(t.kind=3\/t.kind=4)/\BS t=true/\Pn t.size/\True:=by
  rcases hW.kind with⟨hk,_⟩|⟨hk,hb,hz,_⟩
  ·omega
  ·exact⟨hk,hb,hz,trivial⟩
 split
 ·exact(Ou (n+2) n _).append (.one (.load hz h2 (rg 7 (by decide) (by decide))) .nil)
 ·exact(((Ou (n+3) n _).append (.one (.load (.inl rfl) h2 (rg 7 (by decide) (by decide))) (.one (.andI h2) .nil))).append (UT hz n (n+2) 16 0 (n+4))).append (.lab .nil)
theorem dL{t:A7}(hW:JO t):Un (D9 t):=by
 unfold D9
 split
 ·rename_i hb
  have hz:Pn t.size:=by
   rcases hW.kind with⟨_,hb',_⟩|⟨_,_,hz,_⟩
   ·rw[hb]at hb';cases hb'
   ·exact hz
  refine Un.append ?_ ?_
  ·split
   ·rename_i h1;exact .one (.swap hz h1) .nil
   ·exact .nil
  ·split
   ·exact .nil
   split
   ·exact .one (.andI (rg 2 (by decide) (by decide))) .nil
   ·exact .two (.one (.andR (rg 2 (by decide) (by decide)) (rg 3 (by decide) (by decide))) .nil)
 ·exact .nil
theorem YI(t:A7)(o:Nat):Un (ED t (o+1)):=by
 unfold ED
 refine Un.append ?_ ?_
 ·split
  ·exact US (.inl rfl) _ _
  ·exact .nil
 ·split
  ·exact US (.inr rfl) _ _
  ·exact .nil
theorem jh(t:A7)(n f:Nat):Un (endS t (n+1) (n+2) (f+1)):=by
 unfold endS
 split
 ·exact Fc.append (.jump .goto (.lab (.lab .nil)))
 ·exact(((Un.jump .goto (.lab .nil)).append Fc).append (.jump .goto (.lab .nil)))
theorem dM{t:A7}(hW:JO t)(f n:Nat):Un (FD t (f+1) n):=(((Fc.append (jg hW n)).append (dL hW)).append (YI t n)).append (jh t n f)
theorem QH(f:Nat):∀(ts:List A7) (n:Nat),(∀t∈ts,JO t)->Un (CK (f+1) ts n)
 | [],_,_=> .nil
 |t::ts,n,h=>(dM (h t (by simp)) f n).append (QH f ts _ λx hx=>h x (by simp[hx]))
theorem dN{r0:A5}(hW:JP r0)(n:Nat):Un (G0 r0 n):=by
 have h:Un (if r0.tests= []then [ins (Cw 5 2 0) (n+1)]else []):=by
  split
  ·exact .jump (.jif (.inr (.inl rfl)) (rg 2 (by decide) (by decide))) .nil
  ·exact .nil
 exact(((Fc.append h).append (QH n r0.tests (n+1) hW.tests)).append (YH _)).append (.lab .nil)
theorem Lk:∀(l:List A5) (n:Nat),(∀x∈l,JP x)->Un (Bv l n)
 | [],_,_=> .nil
 |r0::l,n,h=>(dN (h r0 (by simp)) n).append (Lk l _ λx hx=>h x (by simp[hx]))
theorem QI{l:List A5}(h:∀x∈l,JP x):Un (BF l):=
 ((Un.append (.one (.movR (rg 6 (by decide) (by decide)) (rg 1 (by decide) (by decide))) (.one (.load (.inr (.inr (.inr rfl))) (rg 7 (by decide) (by decide)) (rg 1 (by decide) (by decide))) .nil)) (Lk l 0 h)).append Fc).append (YH 0)
def QJ(x:B1):Nat:=if x.op=24 then 2 else 1
def Bg(c:List B1):Nat->Nat->List Nat
 |0,_=> []
 |k+1,p=>match c[p]? with|some x=>p::Bg c k (p+QJ x)|none=> []
def AW(c:List B1):List Nat:=Bg c c.length 0
def HX:List A9->Bool->Nat->List Nat
 | [],_,_=> []
 |_::s,true,n=>HX s false n
 |r::s,false,n=>if BY r=true then HX s false n else if r.i.op=24 then n::HX s true (n+2)else n::HX s false (n+1)
def Cx(l:List A9)(n:Nat):List Nat:=HX l false n
theorem Ia{x:B1}(h:XX x):x.op≠24:=by
 cases h with
 |load hz=>rcases hz with rfl|rfl|rfl|rfl<;>simp[BG,Xz]
 |_=>simp[DE,Ba,G3,DC,C0]
theorem KG{x:B1}(h:jf x):x.op≠24:=by
 cases h with
 |jif h=>rcases h with rfl|rfl|rfl|rfl<;>simp[Cw]
 |jifR h=>rcases h with rfl|rfl<;>simp[Ec]
 |goto=>simp[Bm]
theorem G7(l n:Nat)(s:List A9):Cx (lab (l+1)::s) n=Cx s n:=by simp[Cx,HX,BY,lab]
theorem Dc{x:B1}(to n:Nat)(s:List A9)(h:x.op≠24):Cx (ins x to::s) n=n::Cx s (n+1):=by simp[Cx,HX,BY,ins,h]
theorem HY(m:Int)(n:Nat)(s:List A9):Cx (ins (Bj m) 0::ins (Cp m) 0::s) n=n::Cx s (n+2):=by simp[Cx,HX,BY,ins,Bj]
theorem Ov(pre suf:List A9)(x:B1)(to:Nat):∃y,(B6 (pre++ins x to::suf))[BU pre]?=some y/\y.op=x.op:=by
 refine⟨_,EA pre suf x to,?_⟩
 split
 ·rfl
 ·rfl
theorem JV{rows:List A9}:∀{suf:List A9},Un suf->∀(pre:List A9) (k:Nat),rows=pre++suf->BU suf<=k->Bg (B6 rows) k (BU pre)=Cx suf (BU pre):=by
 intro suf h
 induction h with
 |nil=>
  intro pre k hp hk;have hlen:(B6 rows).length=BU pre:=by unfold B6;rw[Bo,hp,List.append_nil]
  cases k with
  |zero=>rfl
  |succ k=>
   simp only[Bg];rw[List.getElem?_eq_none (by omega)];rfl
 | @lab l s _ ih=>
  intro pre k hp hk;have e:BU (pre++ [Go.Cmp.lab (l+1)])=BU pre:=by rw[Bb];simp[BU,BY,Go.Cmp.lab]
  have hc:BU (Go.Cmp.lab (l+1)::s)=BU s:=by simp[BU,BY,Go.Cmp.lab]
  have:=ih (pre++ [Go.Cmp.lab (l+1)]) k (by rw[hp];simp) (by omega);rw[e]at this;rw[G7];exact this
 | @one x s hx _ ih=>
  intro pre k hp hk;have e:BU (pre++ [ins x 0])=BU pre+1:=by rw[Bb];simp[BU,BY,ins]
  have hc:BU (ins x 0::s)=BU s+1:=by simp[BU,BY,ins]
  obtain⟨k,rfl⟩:∃k',k=k'+1:=⟨k - 1,by omega⟩;obtain⟨y,hy,hop⟩:=Ov pre s x 0;rw[←hp]at hy;have:=ih (pre++ [ins x 0]) k (by rw[hp];simp) (by omega);rw[e]at this;rw[Dc 0 _ s (Ia hx)];simp only[Bg,hy];rw[show QJ y=1 by unfold QJ;rw[hop,if_neg (Ia hx)],this]
 | @jump x l s hx _ ih=>
  intro pre k hp hk;have e:BU (pre++ [ins x (l+1)])=BU pre+1:=by rw[Bb];simp[BU,BY,ins]
  have hc:BU (ins x (l+1)::s)=BU s+1:=by simp[BU,BY,ins]
  obtain⟨k,rfl⟩:∃k',k=k'+1:=⟨k - 1,by omega⟩;obtain⟨y,hy,hop⟩:=Ov pre s x (l+1);rw[←hp]at hy;have:=ih (pre++ [ins x (l+1)]) k (by rw[hp];simp) (by omega);rw[e]at this;rw[Dc (l+1) _ s (KG hx)];simp only[Bg,hy];rw[show QJ y=1 by unfold QJ;rw[hop,if_neg (KG hx)],this]
 | @two n s _ ih=>
  intro pre k hp hk;have e:BU (pre++ [ins (Bj n) 0,ins (Cp n) 0])=BU pre+2:=by rw[Bb];simp[BU,BY,ins]
  have hc:BU (ins (Bj n) 0::ins (Cp n) 0::s)=BU s+2:=by simp[BU,BY,ins]
  obtain⟨k,rfl⟩:∃k',k=k'+1:=⟨k - 1,by omega⟩;obtain⟨y,hy,hop⟩:=Ov pre (ins (Cp n) 0::s) (Bj n) 0;rw[←hp]at hy;have:=ih (pre++ [ins (Bj n) 0,ins (Cp n) 0]) k (by rw[hp];simp) (by omega);rw[e]at this;rw[HY];simp only[Bg,hy];rw[show QJ y=2 by unfold QJ;rw[hop];rfl,this]
variable{rows suf:List A9}
def G8(l:List A9):List Nat:=(l.filter λr=>decide (0<r.to)).map (·.to)
theorem DJ(a b:List A9):G8 (a++b)=G8 a++G8 b:=by simp[G8]
theorem FE(x:B1)(l:List A9):G8 (ins x 0::l)=G8 l:=by simp[G8,ins]
theorem Hs(x:B1)(n:Nat)(l:List A9):G8 (ins x (n+1)::l)=(n+1)::G8 l:=by simp[G8,ins]
theorem JW(n:Nat)(l:List A9):G8 (lab n::l)=G8 l:=by simp[G8,lab]
theorem Ev:G8 []= []:=rfl
theorem Ll(a o:Nat)(n:Int):G8 (C9 (a+1) n (o+1))= [a+1,o+1]:=by simp[C9,Hs,JW,Ev]
theorem QK(op n:Int)(o:Nat):∀x∈G8 (D6 op n (o+1)),x=o+1:=by
 intro x hx
 unfold D6 at hx
 split at hx<;>simp[Hs,FE,Ev]at hx<;>omega
theorem QL(t:A7)(o d:Nat):∀m k n:Nat,∀x∈G8 (CR t (o+1) (d+1) m k n),x=o+1\/x=d+1\/n<x/\x<=n+2*m
 |0,_,_,x,h=>by simp[CR,G8]at h
 |m+1,k,n,x,h=>by
  have e:CR t (o+1) (d+1) (m+1) k n= [ins (Cw 5 2 k) ((if k=15 then o else n)+1)]++C9 (n+1+1) (14+4*(k:Int)+t.pos+t.size) (o+1)++ [ins (BG t.size 2 7 (14+4*(k:Int)+t.pos)) 0,ins Bm (d+1),lab (n+1)]++CR t (o+1) (d+1) m (k+1) (n+2):=by
   by_cases hk:k=15<;>simp[CR,hk]
  rw[e]at h;simp only[DJ,Ll,Hs,FE,JW,Ev,List.mem_append,List.mem_cons,List.not_mem_nil,or_false]at h;rcases h with((h|h|h)|h)|h
  ·by_cases hk:k=15
   ·rw[if_pos hk]at h;omega
   ·rw[if_neg hk]at h;omega
  ·omega
  ·omega
  ·omega
  ·have:=QL t o d m (k+1) (n+2) x h;omega
theorem IT(t:A7)(o d:Nat):∀m k n x:Nat,n<x->x<=n+2*m->x∈AJ (CR t o d m k n)
 |0,_,_,x,h1,h2=>by omega
 |m+1,k,n,x,h1,h2=>by
  simp only[CR,BJ,Fa,Co,DX,List.mem_append];by_cases e1:x=n+1
  ·left;right;rw[e1];simp[AJ]
  ·by_cases e2:x=n+2
   ·left;left;right;simp[e2]
   ·right;exact IT t o d m (k+1) (n+2) x (by omega) (by omega)
theorem dO(t:A7)(n:Nat):∀x∈G8 (FC t n),x=n+1\/x∈AJ (FC t n):=by
 intro x hx
 unfold FC at hx ⊢
 by_cases h1:t.kind=1
 ·rw[if_pos h1]at hx;simp[FE,Ev]at hx
 ·rw[if_neg h1]at hx ⊢;by_cases h2:t.kind=2
  ·rw[if_pos h2]at hx;simp[FE,Ev]at hx
  ·rw[if_neg h2]at hx ⊢;by_cases h3:t.kind=3
   ·rw[if_pos h3]at hx ⊢;rw[DJ,Ll,FE,Ev]at hx;rw[BJ,Fa];simp at hx ⊢;omega
   ·rw[if_neg h3]at hx ⊢;rw[DJ,DJ,DJ,Ll,FE,FE,Ev,JW,Ev]at hx;rw[BJ,BJ,BJ,Fa];simp only[List.mem_append,List.mem_cons,List.not_mem_nil,or_false]at hx ⊢;have key:n+3∈AJ [lab (n+3)]:=by rw[DX];simp
    rcases hx with(hx|hx)|hx
    ·right;left;left;left;exact hx
    ·left;exact hx
    ·have:=QL t n (n+2) 16 0 (n+4) x hx;rcases this with h|h|h
     ·left;exact h
     ·right;right;rw[h];exact key
     ·right;left;right;exact IT t (n+1) (n+3) 16 0 (n+4) x h.1 (by omega)
theorem YJ(t:A7):G8 (D9 t)= []:=by
 unfold D9
 split
 ·rw[DJ];split<;>split<;>(try split)<;>simp[G8,ins]
 ·rfl
theorem WE(t:A7)(o:Nat):∀x∈G8 (ED t (o+1)),x=o+1:=by
 intro x hx
 unfold ED at hx
 rw[DJ]at hx
 rcases List.mem_append.1 hx with hx|hx
 ·split at hx
  ·exact QK _ _ _ x hx
  ·simp[G8]at hx
 ·split at hx
  ·exact QK _ _ _ x hx
  ·simp[G8]at hx
theorem dP(t:A7)(n f:Nat):∀x∈G8 (endS t (n+1) (n+2) (f+1)),x=n+2\/x=f+1:=by
 intro x hx
 unfold endS at hx
 split at hx<;>simp[AZ,Hs,FE,JW,Ev]at hx<;>omega
theorem YK(t:A7)(f n:Nat):∀x∈G8 (FD t (f+1) n),x=f+1\/x∈AJ (FD t (f+1) n):=by
 intro x hx
 have hl:∀y,y∈AJ (FD t (f+1) n)↔y∈AJ (FC t n)\/y=n+1\/y=n+2:=λy=>by
  unfold FD;rw[BJ,BJ,BJ,BJ,Jz,I8,Lf];simp[AJ,BY,AZ,ins]
 rw[hl]
 unfold FD at hx
 rw[DJ,DJ,DJ,DJ,YJ]at hx
 simp only[List.mem_append]at hx
 rcases hx with(((hx|hx)|hx)|hx)|hx
 ·simp[G8,AZ,ins]at hx
 ·rcases dO t n x hx with h|h
  ·right;right;left;exact h
  ·right;left;exact h
 ·simp at hx
 ·right;right;left;exact WE t n x hx
 ·rcases dP t n f x hx with h|h
  ·right;right;right;exact h
  ·left;exact h
theorem Np(f:Nat):∀(ts:List A7) (n:Nat),∀x∈G8 (CK (f+1) ts n),x=f+1\/x∈AJ (CK (f+1) ts n)
 | [],_,x,h=>by simp[CK,G8]at h
 |t::ts,n,x,h=>by
  simp only[CK,DJ,BJ,List.mem_append]at h ⊢;rcases h with h|h
  ·rcases YK t f n x h with h|h
   ·left;exact h
   ·right;left;exact h
  ·rcases Np f ts _ x h with h|h
   ·left;exact h
   ·right;right;exact h
theorem YL(r0:A5)(n:Nat):∀x∈G8 (G0 r0 n),x∈AJ (G0 r0 n):=by
 intro x hx
 have e:=KA r0 n []
 rw[List.append_nil]at e
 rw[e]at hx ⊢
 simp only[DJ,BJ,List.mem_append]at hx ⊢
 have key:n+1∈AJ [lab (n+1)]:=by rw[DX];simp
 rcases hx with hx|hx|hx|hx|hx
 ·simp[G8,AZ,ins]at hx
 ·split at hx
  ·rw[Hs,Ev]at hx;right;right;right;right;rw[show x=n+1 by simpa using hx];exact key
  ·simp[G8]at hx
 ·rcases Np n r0.tests (n+1) x hx with h|h
  ·right;right;right;right;rw[h];exact key
  ·right;right;left;exact h
 ·simp[G8,EX,ins]at hx
 ·rw[JW]at hx;simp[G8]at hx
theorem Nq:∀(l:List A5) (n:Nat),∀x∈G8 (Bv l n),x∈AJ (Bv l n)
 | [],_,x,h=>by simp[Bv,G8]at h
 |r0::l,n,x,h=>by
  simp only[Bv,DJ,BJ,List.mem_append]at h ⊢;rcases h with h|h
  ·left;exact YL r0 n x h
  ·right;exact Nq l _ x h
theorem WG(l:List A5):∀x∈G8 (BF l),x∈AJ (BF l):=by
 intro x hx
 unfold BF at hx ⊢
 simp only[DJ,BJ,List.mem_append]at hx ⊢
 rcases hx with((hx|hx)|hx)|hx
 ·simp[G8,ins]at hx
 ·left;left;right;exact Nq l 0 x hx
 ·simp[G8,AZ,ins]at hx
 ·simp[G8,EX,ins]at hx
theorem Nr:∀{s:List A9},Un s->0<BU s->∀n,∃l,Cx s n=n::l
 |_, .nil,h,_=>by simp[BU]at h
 |_, .lab (l:=l) (s:=s) hs,h,n=>by
  rw[G7];exact Nr hs (by simpa[BU,BY,lab]using h) n
 |_, .one (x:=y) (s:=s) hx hs,_,n=>⟨_,Dc 0 n s (Ia hx)⟩
 |_, .jump (x:=y) (l:=l) (s:=s) hx hs,_,n=>⟨_,Dc (l+1) n s (KG hx)⟩
 |_, .two (n:=m) (s:=s) hs,_,n=>⟨_,HY m n s⟩
end Go.Cmp
namespace Go.Cmp
open Go Go.DI
variable{rows suf:List A9}
theorem QM(l:Nat)(s:List A9):BU (lab (l+1)::s)=BU s:=by simp[BU,BY,lab]
theorem E0(x:B1)(to:Nat)(s:List A9):BU (ins x to::s)=BU s+1:=by simp[BU,BY,ins]
theorem QN{a:List A9}(ha:Un a)(b:List A9):∀n,Cx (a++b) n=Cx a n++Cx b (n+BU a):=by
 induction ha with
 |nil=>intro n;simp[Cx,HX,BU]
 |lab _ ih=>intro n;rw[List.cons_append,G7,G7,ih,QM]
 | @one x s hx _ ih=>intro n;rw[List.cons_append,Dc 0 _ _ (Ia hx),Dc 0 _ _ (Ia hx),ih,E0,List.cons_append,show n+1+BU s=n+(BU s+1)by omega]
 | @jump x l s hx _ ih=>intro n;rw[List.cons_append,Dc (l+1) _ _ (KG hx),Dc (l+1) _ _ (KG hx),ih,E0,List.cons_append,show n+1+BU s=n+(BU s+1)by omega]
 | @two m s _ ih=>intro n;rw[List.cons_append,List.cons_append,HY,HY,ih,E0,E0,List.cons_append,show n+2+BU s=n+(BU s+1+1)by omega]
theorem SL{l:List A9}{x:Nat}(h:Un l):x∈AJ l->∃a j b,x=j+1/\l=a++lab (j+1)::b/\j+1∉AJ b/\Un a/\Un b:=by
 induction h with
 |nil=>intro h;simp[AJ]at h
 | @lab l s hs ih=>
  intro h;by_cases hx:x∈AJ s
  ·obtain⟨a,j,b,e1,e2,e3,e4,e5⟩:=ih hx;exact⟨Go.Cmp.lab (l+1)::a,j,b,e1,by rw[e2];rfl,e3, .lab e4,e5⟩
  ·rw[DX]at h
   have e:x=l+1:=by
    rcases List.mem_cons.1 h with h|h
    ·exact h
    ·exact absurd h hx
   exact⟨[],l,s,e,rfl,by rw[←e];exact hx, .nil,hs⟩
 | @one y s hy hs ih=>
  intro h;rw[Co]at h;obtain⟨a,j,b,e1,e2,e3,e4,e5⟩:=ih h;exact⟨ins y 0::a,j,b,e1,by rw[e2];rfl,e3, .one hy e4,e5⟩
 | @jump y l s hy hs ih=>
  intro h;rw[Co]at h;obtain⟨a,j,b,e1,e2,e3,e4,e5⟩:=ih h;exact⟨ins y (l+1)::a,j,b,e1,by rw[e2];rfl,e3, .jump hy e4,e5⟩
 | @two n s hs ih=>
  intro h;rw[Co,Co]at h;obtain⟨a,j,b,e1,e2,e3,e4,e5⟩:=ih h;exact⟨ins (Bj n) 0::ins (Cp n) 0::a,j,b,e1,by rw[e2];rfl,e3, .two e4,e5⟩
theorem QO:∀{l:List A9},BU l=0->∀x∈l,BY x=true
 | [],_,x,h=>by simp at h
 |r::l,h,x,hx=>by
  simp only[BU]at h;by_cases hr:BY r=true
  ·rw[if_pos hr]at h;rcases List.mem_cons.1 hx with rfl|hx
   ·exact hr
   ·exact QO h x hx
  ·rw[if_neg hr]at h;omega
def Found(c:List B1)(p:Nat):Prop:=
 (∃x,XX x/\c[p]?=some x)\/(∃x o,∃q∈AW c,jf x/\c[p]?=some (BE x o)/\ -32768<=o/\o<=32767/\(q:Int)=(p:Int)+1+o)\/(∃n,c[p]?=some (Bj n)/\c[p+1]?=some (Cp n))
theorem QP{l:List A5}(hW:∀x∈l,JP x)(hbd:BU (BF l)<=20000):∀p∈AW (B6 (BF l)),Found (B6 (BF l)) p:=by
 have hU:=QI hW
 have hT:=WG l
 have hlast:∃R,BF l=R++ [ins DC 0]:=⟨[ins (Ba 11 6 1) 0,ins (BG 8 7 1 8) 0]++Bv l 0++AZ++ [ins (G3 (Jq 0)) 0],by simp[BF,EX]⟩
 obtain⟨rows,hr⟩:∃rows,BF l=rows:=⟨_,rfl⟩
 rw[hr]at hU hT hlast hbd ⊢
 obtain⟨R,hR⟩:=hlast
 have hst:AW (B6 rows)=Cx rows 0:=by
  unfold AW;have:=JV (rows:=rows) hU [] (B6 rows).length rfl (by unfold B6;rw[Bo];exact Nat.le_refl _);exact this
 have key:∀{suf:List A9},Un suf->∀pre,rows=pre++suf->∀p∈Cx suf (BU pre),Found (B6 rows) p:=by
  intro suf h;induction h with
  |nil=>intro pre _ p hp;simp[Cx,HX]at hp
  | @lab j s _ ih=>
   intro pre hp p hm;rw[G7]at hm;have e:BU (pre++ [Go.Cmp.lab (j+1)])=BU pre:=by rw[Bb,QM];rfl
   exact ih (pre++ [Go.Cmp.lab (j+1)]) (by rw[hp];simp) p (by rw[e];exact hm)
  | @one x s hx _ ih=>
   intro pre hp p hm;rw[Dc 0 _ _ (Ia hx)]at hm;have e:BU (pre++ [ins x 0])=BU pre+1:=by rw[Bb,E0];rfl
   rcases List.mem_cons.1 hm with rfl|hm
   ·have hm:=EA pre s x 0;rw[if_neg (Nat.lt_irrefl 0),←hp]at hm;exact .inl ⟨x,hx,hm⟩
   ·exact ih (pre++ [ins x 0]) (by rw[hp];simp) p (by rw[e];exact hm)
  | @jump x j s hx _ ih=>
   intro pre hp p hm;rw[Dc (j+1) _ _ (KG hx)]at hm;have e:BU (pre++ [ins x (j+1)])=BU pre+1:=by rw[Bb,E0];rfl
   rcases List.mem_cons.1 hm with rfl|hm
   ·have hm:=EA pre s x (j+1);rw[if_pos (Nat.succ_pos j),←hp]at hm;have hto:j+1∈G8 rows:=by rw[hp,DJ,Hs];simp
    obtain⟨a,j',b,e1,e2,e3,e4,e5⟩:=SL hU (hT _ hto);obtain rfl:j=j':=by omega
    have hat:JM rows (j+1)=BU a:=by rw[e2];exact Xc _ _ _ e3
    have hb:0<BU b:=by
     refine Nat.pos_of_ne_zero λh0=>?_
     have hall:∀y∈Go.Cmp.lab (j+1)::b,BY y=true:=λy hy=>by
      rcases List.mem_cons.1 hy with rfl|hy
      ·simp[BY,Go.Cmp.lab]
      ·exact QO h0 y hy
     have h1:rows.getLast?=some (ins DC 0):=by rw[hR];simp
     rw[e2,List.getLast?_append]at h1;obtain⟨z,hz⟩:∃z,(Go.Cmp.lab (j+1)::b).getLast?=some z:=⟨_,List.getLast?_eq_some_getLast (by simp)⟩;rw[hz]at h1;have hz2:z=ins DC 0:=by simpa using h1
     have:=hall z (List.mem_of_getLast? hz);rw[hz2]at this;simp[BY,ins]at this
    obtain⟨l',hl'⟩:=Nr e5 hb (BU a)
    have hq:BU a∈AW (B6 rows):=by
     rw[hst,e2,QN e4,G7,Nat.zero_add,hl'];simp
    have hcr:BU a<=BU rows:=by rw[e2,Bb];omega
    have hcp:BU pre<=BU rows:=by rw[hp,Bb];omega
    have hw:GZ ((BU a:Int) - (BU pre:Nat) - 1)=(BU a:Int) - (BU pre:Nat) - 1:=IntWalk.i16_in _ (by omega);rw[hat,cB,hw]at hm;exact .inr (.inl ⟨x,_,BU a,hq,hx,hm,by omega,by omega,by omega⟩)
   ·exact ih (pre++ [ins x (j+1)]) (by rw[hp];simp) p (by rw[e];exact hm)
  | @two n s _ ih=>
   intro pre hp p hm;rw[HY]at hm;have e:BU (pre++ [ins (Bj n) 0,ins (Cp n) 0])=BU pre+2:=by rw[Bb,E0,E0];rfl
   rcases List.mem_cons.1 hm with rfl|hm
   ·have a1:=EA pre (ins (Cp n) 0::s) (Bj n) 0;have a2:=EA (pre++ [ins (Bj n) 0]) s (Cp n) 0;have e0:pre++ [ins (Bj n) 0]++ins (Cp n) 0::s=rows:=by rw[hp];simp
    have e1:BU (pre++ [ins (Bj n) 0])=BU pre+1:=by rw[Bb,E0];rfl
    rw[if_neg (Nat.lt_irrefl 0),←hp]at a1;rw[if_neg (Nat.lt_irrefl 0),e0,e1]at a2;exact .inr (.inr ⟨n,a1,a2⟩)
   ·exact ih (pre++ [ins (Bj n) 0,ins (Cp n) 0]) (by rw[hp];simp) p (by rw[e];exact hm)
 intro p hp
 rw[hst]at hp
 exact key hU [] rfl p hp
theorem SM{l:List A5}(hW:∀x∈l,JP x):∃init p,AW (B6 (BF l))=init++ [p]/\(B6 (BF l))[p]?=some DC:=by
 have hU:=QI hW
 obtain⟨R,hR⟩:∃R,R= [ins (Ba 11 6 1) 0,ins (BG 8 7 1 8) 0]++Bv l 0++AZ:=⟨_,rfl⟩
 have hUR:Un R:=by
  rw[hR];exact(Un.append (.one (.movR (rg 6 (by decide) (by decide)) (rg 1 (by decide) (by decide))) (.one (.load (.inr (.inr (.inr rfl))) (rg 7 (by decide) (by decide)) (rg 1 (by decide) (by decide))) .nil)) (Lk l 0 hW)).append Fc
 have e:BF l=R++ [ins (G3 (Jq 0)) 0]++ [ins DC 0]:=by rw[hR];simp[BF,EX]
 have hU1:Un (R++ [ins (G3 (Jq 0)) 0]):=hUR.append (.one .low .nil)
 have hst:AW (B6 (BF l))=Cx (BF l) 0:=by
  unfold AW;exact JV (rows:=BF l) hU [] (B6 (BF l)).length rfl (by unfold B6;rw[Bo];exact Nat.le_refl _)
 refine⟨Cx (R++ [ins (G3 (Jq 0)) 0]) 0,BU (R++ [ins (G3 (Jq 0)) 0]),?_,?_⟩
 ·rw[hst,e,QN hU1,Nat.zero_add,Dc 0 _ _ (Ia .exit)];simp[Cx,HX]
 ·have:=EA (R++ [ins (G3 (Jq 0)) 0]) [] DC 0;rw[if_neg (Nat.lt_irrefl 0),←e]at this;exact this
end Go.Cmp
namespace Go.DI
namespace Kit
noncomputable section
def su(kp:Nat->Bool)(bs:List Nat)(M m:Mem):Mem:=
 ⟨λj=>if j<M.size then(match bs.idxOf? j with|some i=>GU (DQ bs M) (m.get (i+1))|none=>M.get j)else if j<M.size+(m.size - (1+bs.length))/\kp (j - M.size+1+bs.length)=true then GU (DQ bs M) (m.get (j - M.size+1+bs.length))else .none, .nil,M.size+(m.size - (1+bs.length))⟩
section
variable{P:Program}{K:TypeId->Bool}{gl:List Value}
theorem JZ{ρ:Nat->Nat}{k:Nat->Bool}{a a':List Value}(h:Gf ρ k a a'):PK ρ k (.agg ⟨a⟩) (.agg ⟨a'⟩):=λι v' g=>by
 obtain⟨b,rfl,hb⟩:=g.inv_agg
 have:=h.rel hb
 have e:b=b.toList.toArray:=by simp
 rw[e]
 exact AV.agg' this
end
end
end Kit
end Go.DI
namespace Go.DI
namespace Kit
noncomputable section
def U2(ρ:Nat->Nat)(A:Nat->Bool)(vs v:Value):Prop:=∀(ι κ:Ren) (v':Value),(∀i L,A i=true->ι i=some L->κ (ρ i)=some L)->AV ι vs v'->AV κ v v'
structure U3(ρ:Nat->Nat)(A:Nat->Bool)(bs b:BI):Prop where
 live:b.live->bs.live
 own:b.own=true->bs.own=true
 rel:∀(B0:Nat) (ι κ:Ren) (L:Loc) (w:World),(∀i L,A i=true->ι i=some L->κ (ρ i)=some L)->Bd B0 ι bs L w->Bd B0 κ b L w
theorem _root_.Go.DI.Free.embA{v:Value}(h:Free v)(ρ:Nat->Nat)(A:Nat->Bool):U2 ρ A v v:=λι κ v' _ g=>h ι κ v' g
theorem U4{v:Value}(h:bL v=true):PJ id v=v:=by
 unfold bL at h
 split at h<;>try (simp at h;done)
 ·rename_i a n c;cases a<;>rfl
 all_goals rfl
theorem sub_id(ι:Ren)(A:Nat->Bool)(i:Nat)(L:Loc)(h:(ι.sub id A) i=some L):A i=true/\ι i=some L:=by
 simp only[Ren.sub]at h
 split at h
 ·rename_i g;exact⟨g,h⟩
 ·cases h
theorem renB_id{b:BI}(h:okB b):GU id b=b:=by
 cases b with
 |none=>rfl
 |map=>exact h.elim
 |siter=>exact h.elim
 |cells o c=>
  show BI.cells o (c.map (PJ id))=_;congr 1;exact(List.map_congr_left λv hv=>U4 (h v hv)).trans (List.map_id _)
theorem Nz{ρ:Nat->Nat}{nb:Nat}{b:BI}(h:okB b)(hs:seenB nb b):U3 ρ (λi=>Nat.blt i nb) b (GU ρ b):=by
 have h1:=bsim_ren (ρ:=id) h hs
 rw[renB_id h]at h1
 have h2:=Q9 (ρ:=ρ) h
 exact⟨h2.live,h2.own,λB0 ι κ L w hm g=>h2.rel B0 _ κ L w (λi L hi=>by obtain⟨a,b⟩:=sub_id _ _ _ _ hi;exact hm i L a b) (h1.rel B0 ι L w g)⟩
theorem MJ{ρ:Nat->Nat}{A:Nat->Bool}{o:Bool}{c:List Value}(h:∀x∈c,Free x):U3 ρ A (.cells o c) (.cells o c):=by
 have h1:PL id A (.cells o c) (.cells o c):=El h
 have h2:S6 ρ (.cells o c) (.cells o c):=Hz h
 exact⟨h2.live,h2.own,λB0 ι κ L w hm g=>h2.rel B0 _ κ L w (λi L hi=>by obtain⟨a,b⟩:=sub_id _ _ _ _ hi;exact hm i L a b) (h1.rel B0 ι L w g)⟩
theorem WW{ρ:Nat->Nat}{x:BI}(h:(GU ρ x).live):x.live:=by cases x<;>first|trivial|exact h.elim
theorem Y5{ρ:Nat->Nat}{x:BI}(h:(GU ρ x).own=true):x.own=true:=by cases x<;>first|exact h|exact absurd h (by simp[GU,BI.own])
theorem WX{ρ:Nat->Nat}{x:BI}(ho:okB x)(h:x.live):(GU ρ x).live:=by cases x<;>first|trivial|exact h.elim|exact ho.elim
theorem Y6{ρ:Nat->Nat}{x:BI}(ho:okB x)(h:x.own=true):(GU ρ x).own=true:=by cases x<;>first|exact h|exact ho.elim
structure Y7(ρ:Nat->Nat)(A:Nat->Bool)(ms ms' M M':Mem):Prop where
 sees:∀i,A i=true->i<ms.size
 grw:Dx ms ms'
 top:ms.top
 top':M'.top
 old:∀i,A i=true->ρ i<M.size
 inj:∀i j,A i=true->A j=true->(ms.get i).live->(ms.get j).live->ρ i=ρ j->i=j
 size:M'.size=M.size
 sim:∀i,A i=true->PL ρ A (ms.get i) (M.get (ρ i))
 emb:∀i,A i=true->U3 ρ A (ms'.get i) (M'.get (ρ i))
 rest:∀b,b<M.size->(∀i,A i=true->ρ i≠b)->M'.get b=M.get b
theorem Y8{P:Program}{B0 G:Nat}(Gs:Nat){f:FuncId}{avs args:List Value}{vs v:Value}{ms ms' M M':Mem}{ρ:Nat->Nat}{A:Nat->Bool}(hG:∀g,g<Gs->g<G/\A g=true/\ρ g=g)(run:Dr P B0 Gs f avs ms vs ms')(h:Y7 ρ A ms ms' M M')
  (ha:Gf ρ A avs args) (hv:U2 ρ A vs v):Dr P B0 G f args M v M':=by
 intro ι w args' hr hf hargs
 have hms:=h.grw.size
 have hrs:Rel B0 Gs (ι.sub ρ A) ms w:=by
  refine⟨λb L hb hL=>?_,λb₁ b₂ L₁ L₂ h1 h2 e1 e2 l1 l2 g0 e=>?_,hr.floor,λg hg=>?_,λb hb=>h.top b hb⟩
  ·simp only[Ren.sub]at hL;split at hL
   ·rename_i hb;exact(h.sim b hb).rel _ _ _ _ (hr.blk _ _ (h.old b hb) hL)
   ·simp at hL
  ·simp only[Ren.sub]at e1 e2;split at e1
   ·rename_i h1;split at e2
    ·rename_i h2;exact h.inj _ _ h1 h2 l1 l2 (hr.inj _ _ _ _ (h.old _ h1) (h.old _ h2) e1 e2 ((h.sim _ h1).live l1) ((h.sim _ h2).live l2) g0 e)
    ·simp at e2
   ·simp at e1
  ·obtain⟨q1,q2,q3⟩:=hG g hg;obtain⟨L,p1,p2⟩:=hr.glob g q1;exact⟨L,by simp only[Ren.sub,q2,if_true,q3];exact p1,p2⟩
 refine(run _ w args' hrs (λb h1 _=>by simp only[Ren.sub];rw[if_neg (λg=>by have:=h.sees b g;omega)]) (ha.rel hargs)).mono ?_
 rintro e w' ⟨v',ι₂,he,hv',hr',hs⟩
 have hι₂old:∀i,A i=true->ι₂ i=ι (ρ i):=λi hi=>by
  rw[hs.out i (.inl (h.sees i hi))];simp only[Ren.sub,hi,if_true]
 have hmap:∀i L,A i=true->ι₂ i=some L->ι (ρ i)=some L:=λi L hi hL=>by rw[←hι₂old i hi];exact hL
 have hframe:∀B,B<w.heap.size->(∀b L,b<M.size->ι b=some L->(M.get b).own=true->L.block≠B)->w'.heap[B]?=w.heap[B]?:=by
  intro B hB hno;refine hs.frame B hB λi L hi hL ho=>?_;simp only[Ren.sub]at hL;split at hL
  ·rename_i hi;exact hno _ _ (h.old i hi) hL ((h.sim i hi).own ho)
  ·simp at hL
 have hsz:=h.size
 refine⟨v',ι,he,hv _ _ _ hmap hv',⟨λb L hb hL=>?_,λb₁ b₂ L₁ L₂ h1 h2 e1 e2 l1 l2 g0 e=>?_,hr'.floor,hr.glob,h.top'⟩,
  ⟨λ_ _ h=>h,λ_ _=>rfl,hs.os,hs.output,hs.tape,hs.hsize,hframe,λb L h1 h2 hL=>by omega,by omega,λb hb ho=>?_⟩⟩
 ·by_cases hx:∃i,A i=true/\ρ i=b
  ·obtain⟨i,hi,rfl⟩:=hx;have hi0:=h.sees i hi;exact(h.emb i hi).rel _ _ _ _ _ hmap (hr'.blk _ _ (by omega) (by rw[hι₂old i hi];exact hL))
  ·have h1:b<M.size:=by omega
   have h2:∀i,A i=true->ρ i≠b:=λi hi e=>hx ⟨i,hi,e⟩;rw[h.rest b h1 h2];have hb0:=hr.blk b L h1 hL;by_cases hl:(M.get b).live
   ·refine Bd.mono (λ_ _ h=>h) (hs.frame _ (hr.old _ _ hL hl) λi L' q1 q2 q3 q4=>?_) hb0;simp only[Ren.sub]at q2;split at q2
    ·rename_i q1;exact h2 i q1 (hr.inj _ _ _ _ (h.old i q1) h1 q2 hL (PM ((h.sim i q1).own q3)) hl ((hr.blk _ _ (h.old i q1) q2).own_floor ((h.sim i q1).own q3)) q4)
    ·simp at q2
   ·cases hg:M.get b with
    |none=>trivial
    |cells=>rw[hg]at hl;exact absurd trivial hl
    |map=>rw[hg]at hl;exact absurd trivial hl
    |siter=>rw[hg]at hl;exact absurd trivial hl
 ·have hl:∀b,b<M.size->(M'.get b).live->(M.get b).live:=λb hb l=>by
   by_cases hx:∃i,A i=true/\ρ i=b
   ·obtain⟨i,hi,rfl⟩:=hx;exact(h.sim i hi).live (h.grw.live i (h.sees i hi) ((h.emb i hi).live l))
   ·rw[h.rest b hb (λi hi e=>hx ⟨i,hi,e⟩)]at l;exact l
  exact hr.inj _ _ _ _ (by omega) (by omega) e1 e2 (hl _ (by omega) l1) (hl _ (by omega) l2) g0 e
 ·by_cases hx:∃i,A i=true/\ρ i=b
  ·obtain⟨i,hi,rfl⟩:=hx;have hi0:=h.sees i hi;exact(h.sim i hi).own (hs.ownk i hi0 ((h.emb i hi).own ho))
  ·rw[h.rest b hb (λi hi e=>hx ⟨i,hi,e⟩)]at ho;exact ho
section
variable{P:Program}{K:TypeId->Bool}{gl:List Value}
theorem U5{B0:Nat}{R:FuncId->List Value->Mem->Option (Value×Mem)}(hgl:∀x∈gl,Free x)(hR:CT P B0 1 R)(hRg:Bc R){bs:List Nat}{ss:List BI}{f:FuncId}{as_ args:List Value}{M M' m:Mem}{v v':Value}
  (hM:Fits gl bs ss M) (hrun:R f as_ (mS gl ss)=some (v,m)) (ha:Gf (DQ bs M) (λi=>Nat.blt i (1+bs.length)) as_ args) (hv:U2 (DQ bs M) (λi=>Nat.blt i (1+bs.length)) v v')
  (h0:m.get 0= .cells false gl) (hm:∀i,0<i->i<=bs.length->okB (m.get i)/\seenB (1+bs.length) (m.get i))
  (ht:M'.top) (hsz':M'.size=M.size) (hat:∀i b,bs[i]?=some b->M'.get b=GU (DQ bs M) (m.get (i+1))) (hre:∀j,j<M.size->j∉bs->M'.get j=M.get j):
  Dr P B0 1 f args M v' M'/\Dx M M':=by
 have hgr:=hRg _ _ _ _ _ hrun
 have hsz0:(mS gl ss).size=1+ss.length:=by unfold mS;rw[D0,mG_size]
 have hsz:=hgr.size
 rw[hsz0,←hM.len]at hsz
 have hA:∀i:Nat,Nat.blt i (1+bs.length)=true->i<1+bs.length:=λi hi=>by simpa[Nat.blt_eq]using hi
 have hA':∀i:Nat,i<1+bs.length->Nat.blt i (1+bs.length)=true:=λi hi=>by simpa[Nat.blt_eq]using hi
 have hget:∀j,(mS gl ss).get j=if j<1 then(mG gl).get j else(match ss[j - 1]? with|some x=>x|none=>(mG gl).get j):=λj=>CV ss (mG gl) j
 have hrho2:∀i,i<bs.length->∃b,bs[i]?=some b/\DQ bs M (i+1)=b:=λi hi=>⟨bs[i],List.getElem?_eq_getElem hi,by
  show(match bs[i]? with|some b=>b|none=>M.size+(i - bs.length))=_;rw[List.getElem?_eq_getElem hi]⟩
 have hidx:∀i j b,bs[i]?=some b->bs[j]?=some b->i=j:=λi j b hb hc=>by
  obtain⟨hi,e1⟩:=List.getElem?_eq_some_iff.1 hb;obtain⟨hj,e2⟩:=List.getElem?_eq_some_iff.1 hc;exact(List.getElem_inj hM.nd).1 (e1.trans e2.symm)
 have hz:0∉bs->M'.get 0=M.get 0:=λh=>hre 0 hM.pos h
 have hloc:Y7 (DQ bs M) (λi=>Nat.blt i (1+bs.length)) (mS gl ss) m M M':=by
  refine⟨λi hi=>(by rw[hsz0,←hM.len];exact hA i hi),hgr,λj hj=>?_,ht,λi hi=>?_,λi j hi hj _ _ e=>?_,hsz',λi hi=>?_,λi hi=>?_,λj hj hne=>?_⟩
  ·rw[hsz0]at hj;rw[hget,if_neg (by omega),List.getElem?_eq_none (by omega)];exact mG_top gl j (by rw[mG_size];omega)
  ·cases i with
   |zero=>exact hM.pos
   |succ i=>
    obtain⟨b,hb,e⟩:=hrho2 i (by have:=hA _ hi;omega);rw[e];exact hM.lt b (List.mem_of_getElem? hb)
  ·have hi:=hA i hi;have hj:=hA j hj;cases i with
   |zero=>
    cases j with
    |zero=>rfl
    |succ j=>
     obtain⟨b,hb,e2⟩:=hrho2 j (by omega);rw[e2]at e;have:b=0:=e.symm;subst this;exact absurd (List.mem_of_getElem? hb) hM.nz
   |succ i=>
    obtain⟨b,hb,e1⟩:=hrho2 i (by omega);cases j with
    |zero=>
     rw[e1]at e;have:b=0:=e;subst this;exact absurd (List.mem_of_getElem? hb) hM.nz
    |succ j=>
     obtain⟨c,hc,e2⟩:=hrho2 j (by omega);rw[e1,e2]at e;subst e;rw[hidx i j b hb hc]
  ·have hi':=hA i hi;cases i with
   |zero=>
    rw[hget,if_pos (by omega),mG_get];show PL _ _ _ (M.get 0);rw[hM.gl0];exact El hgl
   |succ i=>
    obtain⟨b,hb,e⟩:=hrho2 i (by omega);have hs:i<ss.length:=by rw[←hM.len];omega
    rw[hget,if_neg (by omega),show i+1 - 1=i by omega,List.getElem?_eq_getElem hs,e,hM.at_ i b ss[i] hb (List.getElem?_eq_getElem hs)];obtain⟨q1,q2⟩:=hM.ok ss[i] (List.getElem_mem hs);exact bsim_ren q1 q2
  ·have hi':=hA i hi;cases i with
   |zero=>
    rw[h0];show U3 _ _ _ (M'.get 0);rw[hz hM.nz,hM.gl0];exact MJ hgl
   |succ i=>
    obtain⟨b,hb,e⟩:=hrho2 i (by omega);rw[e,hat i b hb];obtain⟨q1,q2⟩:=hm (i+1) (by omega) (by omega);exact Nz q1 q2
  ·refine hre j hj λhmem=>?_;obtain⟨i,hi⟩:=List.getElem?_of_mem hmem;have hlt:i<bs.length:=(List.getElem?_eq_some_iff.1 hi).1;obtain⟨b,hb,e⟩:=hrho2 i hlt;rw[hi]at hb;cases hb;exact hne (i+1) (hA' _ (by omega)) e
 have hatM:∀j,j<M.size->j∈bs->∃i s,okB s/\M.get j=GU (DQ bs M) s/\(mS gl ss).get (i+1)=s/\i+1< (mS gl ss).size/\M'.get j=GU (DQ bs M) (m.get (i+1)):=λj hj hmem=>by
  obtain⟨i,hi⟩:=List.getElem?_of_mem hmem;have hlt:i<bs.length:=(List.getElem?_eq_some_iff.1 hi).1;have hs:i<ss.length:=by rw[←hM.len];exact hlt
  refine⟨i,ss[i],(hM.ok _ (List.getElem_mem hs)).1,hM.at_ i j _ hi (List.getElem?_eq_getElem hs),?_,by rw[hsz0];omega,hat i j hi⟩;rw[hget,if_neg (by omega),show i+1 - 1=i by omega,List.getElem?_eq_getElem hs]
 refine⟨Y8 1 (λg hg=>⟨hg,by
  obtain rfl:g=0:=by omega
  exact hA' 0 (by omega),by
   obtain rfl:g=0:=by omega
   rfl⟩) (hR.ok _ _ _ _ _ hrun) hloc ha hv,⟨by omega,λ_=>ht,λj hj hl=>?_,λj hj ho=>?_⟩⟩
 ·by_cases hmem:j∈bs
  ·obtain⟨i,s,q1,q2,q3,q4,q5⟩:=hatM j hj hmem;rw[q5]at hl;have h1:=hgr.live (i+1) q4 (WW hl);rw[q3]at h1;rw[q2];exact WX q1 h1
  ·rw[hre j hj hmem]at hl;exact hl
 ·by_cases hmem:j∈bs
  ·obtain⟨i,s,q1,q2,q3,q4,q5⟩:=hatM j hj hmem;rw[q5]at ho;have h1:=hgr.own (i+1) q4 (Y5 ho);rw[q3]at h1;rw[q2];exact Y6 q1 h1
  ·rw[hre j hj hmem]at ho;exact ho
theorem MK{B0:Nat}{R:FuncId->List Value->Mem->Option (Value×Mem)}(hgl:∀x∈gl,Free x)(hR:CT P B0 1 R)(hRg:Bc R){bs:List Nat}{ss:List BI}{f:FuncId}{as_ args:List Value}{M m:Mem}{v v':Value}
  (hM:Fits gl bs ss M) (hrun:R f as_ (mS gl ss)=some (v,m)) (ha:Gf (DQ bs M) (λi=>Nat.blt i (1+bs.length)) as_ args) (hv:U2 (DQ bs M) (λi=>Nat.blt i (1+bs.length)) v v')
  (h0:m.get 0= .cells false gl) (hm:∀i s,ss[i]?=some s->m.get (i+1)=s):Dr P B0 1 f args M v' M/\Dx M M:=by
 refine U5 hgl hR hRg hM hrun ha hv h0 (λi h1 h2=>?_) hM.top rfl (λi b hb=>?_) (λ_ _ _=>rfl)
 ·have hi:i - 1<ss.length:=by rw[←hM.len];omega
  have:=hm (i - 1) ss[i - 1] (List.getElem?_eq_getElem hi);rw[show i - 1+1=i by omega]at this;rw[this];exact hM.ok _ (List.getElem_mem hi)
 ·have hlt:i<bs.length:=(List.getElem?_eq_some_iff.1 hb).1;have hi:i<ss.length:=by rw[←hM.len];exact hlt
  rw[hm i ss[i] (List.getElem?_eq_getElem hi)];exact hM.at_ i b _ hb (List.getElem?_eq_getElem hi)
end
end
end Kit
end Go.DI
namespace Go.DI
theorem Tr.upd_upd{α:Type}(k:Nat)(v w:α):∀l:List (Nat×α),Tr.upd k w (Tr.upd k v l)=Tr.upd k w l
 | []=>by
  show cond (Nat.beq k k) [(k,w)] _=_;rw[show Nat.beq k k=true from Nat.beq_refl k];rfl
 |(j,u)::l=>by
  cases hb:Nat.beq j k with
  |true=>
   have e1:Tr.upd k v ((j,u)::l)=(k,v)::l:=by simp only[Tr.upd,hb,cond_true]
   have e2:Tr.upd k w ((j,u)::l)=(k,w)::l:=by simp only[Tr.upd,hb,cond_true]
   rw[e1,e2];simp only[Tr.upd,show Nat.beq k k=true from Nat.beq_refl k,cond_true]
  |false=>
   have e1:∀v,Tr.upd k v ((j,u)::l)=(j,u)::Tr.upd k v l:=λv=>by simp only[Tr.upd,hb,cond_false]
   rw[e1 v,e1 w];show cond (Nat.beq j k) _ _=_;rw[hb,cond_false,upd_upd k v w l]
theorem Tr.put_new{α:Type}(k:Nat)(v w:α):∀(d p d':Nat),Tr.put (Tr.new d p k v) d' p k w=Tr.new d p k w
 |0,p,d'=>by
  show Tr.bucket (Tr.upd k w [(k,v)])= .bucket [(k,w)];simp only[Tr.upd,show Nat.beq k k=true from Nat.beq_refl k,cond_true]
 |d+1,p,d'=>by
  cases hb:Nat.beq (p % 2) 0 with
  |true=>simp only[Tr.new,hb,cond_true,Tr.put,put_new k v w d]
  |false=>simp only[Tr.new,hb,cond_false,Tr.put,put_new k v w d]
theorem Tr.put_put{α:Type}(k:Nat)(v w:α):∀(t:Tr α) (d p:Nat),Tr.put (Tr.put t d p k v) d p k w=Tr.put t d p k w
 | .nil,d,p=>Tr.put_new k v w d p d
 | .bucket l,d,p=>by simp only[Tr.put,Tr.upd_upd]
 | .node l r,d,p=>by
  cases hb:Nat.beq (p % 2) 0 with
  |true=>simp only[Tr.put,hb,cond_true,put_put k v w l]
  |false=>simp only[Tr.put,hb,cond_false,put_put k v w r]
theorem Mem.set_set(M:Mem)(p:Nat)(x y:BI):(M.set p x).set p y=M.set p y:=by
 simp only[Mem.set,Tr.put_put]
end Go.DI
namespace Go.Proofs.YtgjflcgmieiafaaDoor
open Go Go.DI Go.DI.Kit Go.Proofs Go.Cmp
noncomputable section
open Classical in
def oS:DT:=λf a M=>match a with
 | [.pointer (some ⟨p,0,none⟩)]=>if f=21/\(∃l,Fz M p=p::l)/\Fits gl (Fz M p) (Jp M p) M then
   (match Bw Tryd.prog kp 1 oG 20 21 p1 (mS gl (Jp M p))with
    |some (v,m)=>if(Di v=true/\m.get 0= .cells false gl)/\(okB (m.get 1)/\seenB (1+(Fz M p).length) (m.get 1))/\∀i s,(Jp M p)[i+1]?=some s->m.get (i+2)=s then some (v,M.set p (GU (DQ (Fz M p) M) (m.get 1)))else none
    |none=>none)else none
 |_=>none
theorem lF{f:FuncId}(h:f≠21)(a:List Value)(M:Mem):oS f a M=none:=by
 unfold oS
 split
 ·rw[if_neg λg=>h g.1]
 ·rfl
theorem Pk{B0:Nat}{f:FuncId}{a:List Value}{M M':Mem}{v:Value}(h:oS f a M=some (v,M')):f=21/\Dr Tryd.prog B0 1 f a M v M'/\Dx M M':=by
 unfold oS at h
 split at h
 case h_2=>cases h
 rename_i p
 by_cases hc:f=21/\(∃l,Fz M p=p::l)/\Fits gl (Fz M p) (Jp M p) M
 case neg=>rw[if_neg hc]at h;cases h
 rw[if_pos hc]at h
 obtain⟨rfl,⟨l,hl⟩,hF⟩:=hc
 obtain⟨R,hR⟩:∃R,Bw Tryd.prog kp 1 oG 20 21 p1 (mS gl (Jp M p))=R:=⟨_,rfl⟩
 rw[hR]at h
 cases R with
 |none=>cases h
 |some r=>
 obtain⟨v0,m⟩:=r
 simp only at h
 by_cases hk:(Di v0=true/\m.get 0= .cells false gl)/\(okB (m.get 1)/\seenB (1+(Fz M p).length) (m.get 1))/\∀i s,(Jp M p)[i+1]?=some s->m.get (i+2)=s
 case neg=>rw[if_neg hk]at h;cases h
 rw[if_pos hk]at h
 simp only[Option.some.injEq,Prod.mk.injEq]at h
 obtain⟨rfl,rfl⟩:=h
 obtain⟨⟨k1,k2⟩,⟨k3,k4⟩,k5⟩:=hk
 have hp:p<M.size:=hF.lt p (by rw[hl];exact List.mem_cons_self ..)
 have hfree:Free v0:=by cases v0<;>simp[Di]at k1<;>first|exact Cq _ _|exact D4 _
 have hnd:p∉l:=by have:=hF.nd;rw[hl]at this;exact(List.nodup_cons.1 this).1
 refine⟨rfl,U5 (B0:=B0) (R:=Bw Tryd.prog kp 1 oG 20) Cs (Dg Br hK FZ (aN.1 B0) aN.2 20) (Cb aN.2 20) hF hR (.cons ?_ .nil) (hfree.embA _ _) k2 (λi h0 h7=>?_) (F3 hF.top hp) rfl (λi b hb=>?_) (λj _ hj=>?_)⟩
 ·have e:Value.pointer (some ⟨p,0,none⟩)= .pointer (some ⟨DQ (Fz M p) M 1,0,none⟩):=by
   rw[show DQ (Fz M p) M 1=p by rw[hl];rfl]
  rw[e];refine U0 (ρ:=DQ (Fz M p) M) ?_;rw[hl];show Nat.blt 1 (1+(l.length+1))=true;simp[Nat.blt_eq]
 ·by_cases e:i=1
  ·subst e;exact⟨k3,k4⟩
  ·obtain⟨j,rfl⟩:∃j,i=j+2:=⟨i - 2,by omega⟩;have hj:j+1< (Jp M p).length:=by rw[←hF.len];omega
   rw[k5 j _ (List.getElem?_eq_getElem hj)];exact hF.ok _ (List.getElem_mem hj)
 ·cases i with
  |zero=>
   rw[hl]at hb;have hb:some p=some b:=hb;cases hb;exact Mem.get_set_same ..
  |succ i=>
   have hlt:i+1< (Fz M p).length:=(List.getElem?_eq_some_iff.1 hb).1;have hj:i+1< (Jp M p).length:=by rw[←hF.len];exact hlt
   have hne:b≠p:=by
    rintro rfl;rw[hl]at hb;exact hnd (List.mem_of_getElem? (show l[i]?=some b from hb))
   rw[Mem.get_set_ne _ hne,k5 i _ (List.getElem?_eq_getElem hj)];exact hF.at_ (i+1) b _ hb (List.getElem?_eq_getElem hj)
 ·refine Mem.get_set_ne _ ?_ _;rintro rfl;rw[hl]at hj;exact hj (List.mem_cons_self ..)
theorem Zw:Bc oS:=λf a M v M' h=>(Pk (B0:=0) h).2.2
theorem gv(B0:Nat):CT Tryd.prog B0 1 oS:=⟨λf a M v M' h=>(Zw f a M v M' h).size,λf a M v M' h=>(Pk h).2.1,λf a M v M' h=>by
 obtain rfl:=(Pk (B0:=0) h).1
 exact hasB (by kernel_rfl)⟩
def Et(mm c t k tm ch n np:Nat)(sp:Option Nat)(port:Int)(regs:List Value)(at_ st:Int)(over:Bool):BI:=
 .cells true (.slice (some ⟨mm,0,none⟩) 0 0:: .slice (some ⟨c,0,some 5⟩) n n:: .slice (some ⟨t,0,none⟩) 0 0:: .slice (some ⟨k,0,sp⟩) np np:: .int .u32 port:: .slice (some ⟨tm,0,none⟩) 0 0:: .slice (some ⟨ch,0,none⟩) 0 0::O0 regs at_ st over)
structure K7(M:Mem)(p c k t mm tm ch:Nat)(l:List B1)(pk:List Int):Prop where
 top:M.top
 gl0:M.get 0= .cells false gl
 pos:1<=M.size
 lt:∀b∈ [p,c,k,t,mm,tm,ch],b<M.size
 nz:0∉ [p,c,k,t,mm,tm,ch]
 nd: [p,c,k,t,mm,tm,ch].Nodup
 gc:M.get c= .cells true (AD l)
 gk:M.get k= .cells true (AQ pk)
 gt:M.get t=Fv
 gm:M.get mm=Fv
 gtm:M.get tm=Fv
 gch:M.get ch=Fv
section
variable{M:Mem}{p c k t mm tm ch:Nat}{l:List B1}{pk:List Int}{sp:Option Nat}{port:Int}{r r':Int->RV}{at_ st at' st':Nat}{over:Bool}
theorem K7.set(h:K7 M p c k t mm tm ch l pk)(x:BI):K7 (M.set p x) p c k t mm tm ch l pk:=by
 have hnd:=h.nd
 simp only[List.nodup_cons,List.mem_cons,List.not_mem_nil,or_false,not_or]at hnd
 have hz:0≠p:=λe=>h.nz (by rw[e];simp)
 obtain⟨⟨n1,n2,n3,n4,n5,n6⟩,_⟩:=hnd
 refine⟨F3 h.top (h.lt p (by simp)),?_,h.pos,h.lt,h.nz,h.nd,?_,?_,?_,?_,?_,?_⟩
 ·rw[Mem.get_set_ne _ hz];exact h.gl0
 ·rw[Mem.get_set_ne _ (Ne.symm n1)];exact h.gc
 ·rw[Mem.get_set_ne _ (Ne.symm n2)];exact h.gk
 ·rw[Mem.get_set_ne _ (Ne.symm n3)];exact h.gt
 ·rw[Mem.get_set_ne _ (Ne.symm n4)];exact h.gm
 ·rw[Mem.get_set_ne _ (Ne.symm n5)];exact h.gtm
 ·rw[Mem.get_set_ne _ (Ne.symm n6)];exact h.gch
theorem K7.fits(h:K7 M p c k t mm tm ch l pk)(g:M.get p=Et mm c t k tm ch l.length pk.length sp port (AK r) (at_:Int) (st:Int) over):
  Fits gl [p,c,k,t,mm,tm,ch] (eV (AD l) (AQ pk) (AM l.length) (FN pk sp) port (AK r) (at_:Int) (st:Int) over 0) M:=by
 refine⟨h.top,h.gl0,h.pos,rfl,h.lt,h.nz,h.nd,λi b s hi hs=>?_,aI l pk sp port r (at_:Int) (st:Int) over⟩
 rcases i with _|_|_|_|_|_|_|i
 ·cases hi;cases hs;rw[g,Pj];rfl
 ·cases hi;cases hs;rw[h.gc];show _=BI.cells true _;rw[CP (BL l)]
 ·cases hi;cases hs;rw[h.gk];show _=BI.cells true _;rw[CP (Ea pk)]
 ·cases hi;cases hs;rw[h.gt];rfl
 ·cases hi;cases hs;rw[h.gm];rfl
 ·cases hi;cases hs;rw[h.gtm];rfl
 ·cases hi;cases hs;rw[h.gch];rfl
 ·cases hi
theorem K7.of(h:K7 M p c k t mm tm ch l pk)(g:M.get p=Et mm c t k tm ch l.length pk.length sp port (AK r) (at_:Int) (st:Int) over):
  Fz M p= [p,c,k,t,mm,tm,ch]/\Jp M p=eV (AD l) (AQ pk) (AM l.length) (FN pk sp) port (AK r) (at_:Int) (st:Int) over 0:=by
 have hb:Fz M p= [p,c,k,t,mm,tm,ch]:=by unfold Fz;rw[g];rfl
 refine⟨hb,?_⟩
 unfold Jp
 rw[hb]
 show s8 (M.get p):: [M.get c,M.get k,M.get t,M.get mm,M.get tm,M.get ch]=_
 rw[g,h.gc,h.gk,h.gt,h.gm,h.gtm,h.gch]
 rfl
theorem ei(h:K7 M p c k t mm tm ch l pk)(g:M.get p=Et mm c t k tm ch l.length pk.length sp port (AK r) (at_:Int) (st:Int) false)(hs:V0 l pk sp port r at_ st r' at' st' over):
  oS 21 [.pointer (some ⟨p,0,none⟩)] M=some (.bool true,M.set p (Et mm c t k tm ch l.length pk.length sp port (AK r') (at':Int) (st':Int) over)):=by
 obtain⟨v,m,hrun,hl⟩:=hs
 obtain⟨e1,e2⟩:=h.of g
 have hF:=h.fits g
 simp only[RW,Bn,seenV,Prod.mk.injEq]at hl
 obtain⟨rfl,q0,q1,q2,q3,q4,q5,q6,q7⟩:=hl
 have hv:=aI l pk sp port r' (at':Int) (st':Int) over
 have hv1:=hv _ (List.mem_cons_self ..)
 unfold oS
 simp only
 rw[e1,e2,if_pos ⟨rfl,⟨_,rfl⟩,hF⟩]
 have hrun':Bw Tryd.prog kp 1 oG 20 21 p1 (mS gl (eV (AD l) (AQ pk) (AM l.length) (FN pk sp) port (AK r) (at_:Int) (st:Int) false 0))=some (.bool true,m):=hrun
 rw[hrun']
 simp only
 have hk:(Di (.bool true)=true/\m.get 0= .cells false gl)/\(okB (m.get 1)/\seenB (1+ [p,c,k,t,mm,tm,ch].length) (m.get 1))/\∀i s,(eV (AD l) (AQ pk) (AM l.length) (FN pk sp) port (AK r) (at_:Int) (st:Int) false 0)[i+1]?=some s->m.get (i+2)=s:=by
  refine⟨⟨rfl,q0⟩,⟨by rw[q1];exact hv1.1,by rw[q1];exact hv1.2⟩,λi s hi=>?_⟩;rcases i with _|_|_|_|_|_|i
  ·exact q2.trans (Option.some.inj hi)
  ·exact q3.trans (Option.some.inj hi)
  ·exact q4.trans (Option.some.inj hi)
  ·exact q5.trans (Option.some.inj hi)
  ·exact q6.trans (Option.some.inj hi)
  ·exact q7.trans (Option.some.inj hi)
  ·cases hi
 rw[if_pos hk,q1,Pj]
 rfl
end
end
end Go.Proofs.YtgjflcgmieiafaaDoor
namespace Go.Proofs.YtgjflcgmieiafaaDoor
open Go Go.DI Go.DI.Kit Go.Proofs Go.Cmp
noncomputable section
structure DK(l:List B1):Prop where
 pos:l≠ []
 most:l.length<=512
 found:∀p∈AW l,Go.Cmp.Found l p
 last:∃init p,AW l=init++ [p]/\l[p]?=some DC
def AX(b:Nat)(n:Nat):Value:= .slice (some ⟨b,0,some 5⟩) n n
def E9(v:Value):Value:= .agg ⟨[.slice none 0 0,v]⟩
def TM(port:Int):Value:= .agg ⟨[.int .u32 port, .slice none 0 0, .slice none 0 0]⟩
def fF(args:List Value)(x:BI):Prop:=match args with
 | [.agg ⟨[.slice none 0 0, .slice (some ⟨_,0,some 5⟩) n n']⟩]=>∃own l,x= .cells own (AD l)/\n=l.length/\n'=l.length/\DK l
 |_=>False
def tO(a:List Value):Option Nat:=match a with
 | [.agg ⟨[.slice none 0 0, .slice (some ⟨b,0,some 5⟩) _ _]⟩]=>some b
 |_=>none
def oL(f:FuncId)(args:List Value)(x:BI)(v:Value):Prop:=f=35/\v= .tuple ⟨[.int .i64 0, .int .i64 0]⟩/\tO args=some 1/\fF args x
def p9(i:Nat):Value:= .slice (some ⟨i,0,none⟩) 0 0
def tT(p c k t mm tm ch:Nat)(n np:Nat)(sp:Option Nat)(port:Int):BI:=
 .cells true (nx (p9 mm) (AX c n) (p9 t) (.slice (some ⟨k,0,sp⟩) np np) (p9 tm) (p9 ch) port (AK Da) 0 0 false 0)
def tL(p:Nat):Value:= .tuple ⟨[.pointer (some ⟨p,0,none⟩), .int .i64 0]⟩
open Classical in
def bQ:DT:=λf a M=>if f=35/\∃b,tO a=some b/\fF a (M.get b)/\Fits gl [b] [M.get b] M then some (.tuple ⟨[.int .i64 0, .int .i64 0]⟩,M)else none
theorem ed{f:FuncId}(h:f≠35)(a:List Value)(M:Mem):bQ f a M=none:=if_neg λg=>h g.1
theorem fG{a:List Value}{x:BI}(h:fF a x):∃b own l,a= [E9 (AX b l.length)]/\x= .cells own (AD l)/\DK l:=by
 unfold fF at h
 split at h
 ·obtain⟨own,l,h1,rfl,rfl,h2⟩:=h;exact⟨_,own,l,rfl,h1,h2⟩
 ·cases h
def EM:Prop:=∀(B0:Nat) (b:Nat) (own:Bool) (l:List B1) (M:Mem),M.get b= .cells own (AD l)->DK l->Fits gl [b] [M.get b] M->Dr Tryd.prog B0 1 35 [E9 (AX b l.length)] M (.tuple ⟨[.int .i64 0, .int .i64 0]⟩) M
theorem Zx(hW:EM)(B0:Nat):CT Tryd.prog B0 1 bQ:=by
 refine⟨λf a M v M' h=>?_,λf a M v M' h=>?_,λf a M v M' h=>?_⟩
 all_goals
  unfold bQ at h;split at h
  case isFalse=>cases h
  rename_i hc;obtain⟨rfl,b,h1,h2,hF⟩:=hc;simp only[Option.some.injEq,Prod.mk.injEq]at h;obtain⟨rfl,rfl⟩:=h
 ·exact Nat.le_refl _
 ·obtain⟨b',own,l,rfl,h3,h4⟩:=fG h2;have h1:some b'=some b:=h1;cases h1;exact hW B0 b own l _ h3 h4 hF
 ·exact hasB (by kernel_rfl)
theorem ef:Bc bQ:=λf a M v M' h=>by
 unfold bQ at h
 split at h
 case isFalse=>cases h
 simp only[Option.some.injEq,Prod.mk.injEq]at h
 obtain⟨rfl,rfl⟩:=h
 exact Dx.refl _
section
variable{M:Mem}{K:CU}{c k:Nat}{l:List B1}{pk:List Int}{port:Int}{o1 o2:Bool}
theorem JH(hne:pk≠ [])(hl:pk.length<=65535):H.apOk (.cells o2 (AQ pk)) 0 1 1 pk.length (AQ pk):=by
 have hp:0<pk.length:=List.length_pos_iff.2 hne
 refine⟨hp,by omega,by omega,?_,?_,by rw[HI];omega⟩
 ·show(if 0+pk.length*1<=(AQ pk).length then some (((AQ pk).drop 0).take (pk.length*1))else none)=_;rw[if_pos (by rw[HI];omega),List.drop_zero,List.take_of_length_le (by rw[HI];omega)]
 ·unfold AQ;rw[List.all_map,List.all_eq_true];intro x _;rfl
theorem JI(l:List B1):(AD l).length=l.length*5:=DL Fk l
theorem Ka(hne:l≠ [])(hl:l.length<=512):H.apOk (.cells o1 (AD l)) 0 5 12 l.length (AD l):=by
 have hp:0<l.length:=List.length_pos_iff.2 hne
 refine⟨hp,by omega,by omega,?_,?_,JI l⟩
 ·show(if 0+l.length*5<=(AD l).length then some (((AD l).drop 0).take (l.length*5))else none)=_;rw[if_pos (by rw[JI];omega),List.drop_zero,List.take_of_length_le (by rw[JI];omega)]
 ·unfold AD;rw[List.all_flatMap,List.all_eq_true];intro x _;rfl
theorem ox(hM:M.top)(h0:M.get 0= .cells false gl)(h1:1<=M.size)(hc:c<M.size)(hk:k<M.size)(hc0:c≠0)(hk0:k≠0)(hck:c≠k)(gc:M.get c= .cells o1 (AD l))(gk:M.get k= .cells o2 (AQ pk)):Fits gl [c,k] [M.get c,M.get k] M:=by
 refine⟨hM,h0,h1,rfl,λb hb=>?_,?_,?_,λi b s hi hs=>?_,λs hs=>?_⟩
 ·simp only[List.mem_cons,List.not_mem_nil,or_false]at hb;rcases hb with rfl|rfl<;>assumption
 ·simp only[List.mem_cons,List.not_mem_nil,or_false,not_or];exact⟨λh=>hc0 h.symm,λh=>hk0 h.symm⟩
 ·simp[hck]
 ·rcases i with _|_|i
  ·cases hi;cases hs;rw[gc];show _=BI.cells o1 _;rw[CP (BL l)]
  ·cases hi;cases hs;rw[gk];show _=BI.cells o2 _;rw[CP (Ea pk)]
  ·cases hi
 ·have hpl:∀(o:Bool) (c:List Value),c.all Di=true->okB (.cells o c)/\seenB (1+2) (.cells o c):=λo c h=>⟨λv hv=>Fx (List.all_eq_true.1 h v hv),λv hv=>EL (List.all_eq_true.1 h v hv)⟩;simp only[List.mem_cons,List.not_mem_nil,or_false]at hs;rcases hs with rfl|rfl
  ·rw[gc];exact hpl _ _ (BL l)
  ·rw[gk];exact hpl _ _ (Ea pk)
theorem VV(hM:M.top)(h0:M.get 0= .cells false gl)(h1:1<=M.size)(hc:c<M.size)(hc0:c≠0)(gc:M.get c= .cells o1 (AD l)):Fits gl [c] [M.get c] M:=by
 refine⟨hM,h0,h1,rfl,λb hb=>?_,?_,?_,λi b s hi hs=>?_,λs hs=>?_⟩
 ·obtain rfl:=List.mem_singleton.1 hb;exact hc
 ·simp only[List.mem_cons,List.not_mem_nil,or_false];exact λh=>hc0 h.symm
 ·simp
 ·rcases i with _|i
  ·cases hi;cases hs;rw[gc];show _=BI.cells o1 _;rw[CP (BL l)]
  ·cases hi
 ·obtain rfl:=List.mem_singleton.1 hs;rw[gc];exact⟨λv hv=>Fx (List.all_eq_true.1 (BL l) v hv),λv hv=>EL (List.all_eq_true.1 (BL l) v hv)⟩
end
end
end Go.Proofs.YtgjflcgmieiafaaDoor
namespace Go.Proofs.YtgjflcgmieiafaaDoor
open Go Go.DI Go.DI.Kit Go.Proofs Go.Cmp
noncomputable section
noncomputable def Rd:Code:=AN Tryd.f10
theorem sW:Tryd.prog.funcs[10]?=some Tryd.f10:=by kernel_rfl
theorem sX:Tryd.f10.body=some Rd:=by kernel_rfl
theorem sY:Tryd.f10.ntmps=84:=by kernel_rfl
noncomputable def never:List Value->Mem->Value->Prop:=λ_ _ _=>False
noncomputable def hA(L:List Value)(P:Option (List Value)):H.Hint where
 ix _:=false
 ld _ _ _:=none
 cmp op t:=cond (Nat.beq t 3) (BinOp.rec (motive:=λ_=>Option Bool) none none none none none none none none none none none none none none none (some false) none op) none
 ap t:=cond (Nat.beq t 30) (some L) (cond (Nat.beq t 41) P none)
 call f:=cond (Nat.beq f 35) (some (.tuple ⟨[.int .i64 0, .int .i64 0]⟩)) (cond (Nat.beq f 21) (some (.bool true)) none)
 spec:=oL
 blk:=1
 specM f:=cond (Nat.beq f 21) (some never) (some λargs m v=>bQ f args m=some (v,m))
noncomputable def Zs(L:List Value)(P:Option (List Value))(args:List Value)(M:Mem):Option (H.TT (Ex×AE×Mem)):=
 H.codeT (hA L P) (Gz ((items Rd).take 6)) Tryd.prog kp 1 (H.callT (hA L P) Tryd.prog kp 1 20) (λbody _ k t m q=>Y.loopF body k t m q) 84 600 (AA 84 (CM args)) M λe t m=>some ((e,t,m),[],[])
noncomputable def e9:List Value:= [.int .i64 0, .int .i64 0, .int .u64 0, .int .i64 0, .slice none 0 0]
noncomputable def m3(zi p:Nat)(img pv wld:Value):List (Nat×Value):= [(4, .int .i64 512),(5, .pointer (some ⟨zi,0,none⟩)),(8, .pointer (some ⟨zi+1,0,none⟩)),(10, .pointer (some ⟨zi+2,0,none⟩)),(11, .int .i64 0),(12, .pointer (some ⟨p,0,none⟩)),(13, .int .i64 0),(15,tL p),(16,img),(17, .slice none 0 0),(18,pv),(19,wld),(20,tL p),(21, .pointer (some ⟨p,0,none⟩)),(22, .int .i64 0),(23, .int .i64 0),(24, .bool false),
 (27, .int .i64 512),(28, .bool false),(29, .bool false),(30, .int .i64 512),(31, .bool false),(32, .bool false)]
noncomputable def Hk(v:Value):List Value:= [.slice none 0 0,v]
noncomputable def LI(port:Int):List Value:= [.int .u32 port, .slice none 0 0, .slice none 0 0]
noncomputable def FY(n:Nat)(pv:Value)(port:Int):List Value:= [E9 (AX 1 n), .slice none 0 0,pv,TM port, .int .i64 512]
noncomputable def N6(o1 o2:Bool)(L P:List Value)(n:Nat):List BI:= [.cells o1 L, .cells o2 P, .cells true (Hk (AX 1 n)),Fv, .cells true P]
noncomputable def N7(o1 o2:Bool)(L:List Value)(n:Nat):List BI:= [.cells o1 L, .cells o2 [], .cells true (Hk (AX 1 n)),Fv]
noncomputable def N8(o1:Bool)(L:List Value)(n:Nat):List BI:= [.cells o1 L, .cells true (Hk (AX 1 n)),Fv]
noncomputable def kz(L P:List Value)(n np:Nat)(port:Int)(z:Nat)(regs:List Value)(at_ st:Int)(over:Bool):List BI:= [.cells true (Hk (AX 1 n)), .cells true (LI port), .cells true e9,
 .cells true (Hk (AX 1 n)), .cells true (LI port),Fv,Fv, .cells true P,Et (z+9) (z+11) (z+5) (z+7) (z+12) (z+13) n np (some 1) port regs at_ st over,Fv,Fv, .cells true L,Fv,Fv]
noncomputable def XE(L:List Value)(n:Nat)(port:Int)(z:Nat)(regs:List Value)(at_ st:Int)(over:Bool):List BI:= [.cells true (Hk (AX 1 n)), .cells true (LI port), .cells true e9,
 .cells true (Hk (AX 1 n)), .cells true (LI port),Fv,Fv,Et (z+8) (z+10) (z+5) (z+6) (z+11) (z+12) n 0 none port regs at_ st over,Fv,Fv, .cells true L,Fv,Fv]
noncomputable def sZ{A:Type}(r:Option (H.TT A)):Option (A×List Prop):=r.map λx=>(x.1,x.2.2)
abbrev tM{A:Type}(r:Option (H.TT A)):Prop:=(r.map λx=>x.2.1.map Prod.fst)=(r.map λx=>x.2.1.map Prod.snd)
abbrev Rn{A:Type}(r:Option (H.TT A))(y:A×List Prop):Prop:=sZ r=some y/\(r.map λx=>x.2.1.map Prod.fst)=(r.map λx=>x.2.1.map Prod.snd)
noncomputable def Zt:Prop:=CC Tryd.prog kp .gtr 3 (.int .i64 512) (.int .i64 1048576)=some (.bool false)
noncomputable def oN(n:Nat):Prop:=CC Tryd.prog kp .gtr 3 (.int .i64 (Int.ofNat n)) (.int .i64 65535)=some (.bool false)
noncomputable def oO(n:Nat)(port:Int)(ss:List BI):Prop:=bQ 35 [E9 (AX 1 n)] (mS gl (ss++ [.cells true (Hk (AX 1 n)), .cells true (LI port), .cells true e9, .cells true (Hk (AX 1 n)), .cells true (LI port)]))=some (.tuple ⟨[.int .i64 0, .int .i64 0]⟩,mS gl (ss++ [.cells true (Hk (AX 1 n)), .cells true (LI port), .cells true e9, .cells true (Hk (AX 1 n)), .cells true (LI port)]))
noncomputable def GV(b n:Nat)(sp:Option Nat):Value:= .slice (some ⟨b,0,sp⟩) n n
theorem lA(o1 o2:Bool)(L P:List Value)(n np:Nat)(port:Int):
  Rn (Zs L (some P) (FY n (GV 5 np (some 1)) port) (mS gl (N6 o1 o2 L P n))) ((.normal,AA 84 (up (CM (FY n (GV 5 np (some 1)) port)) (m3 6 14 (E9 (AX 1 n)) (GV 5 np (some 1)) (TM port))),mS gl (N6 o1 o2 L P n++kz L P n np port 6 (AK Da) 0 0 false)),
    [oO n port (N6 o1 o2 L P n),oN np,H.apOk (.cells true P) 0 1 1 np P,H.apOk (.cells o1 L) 0 5 12 n L,Zt]):=⟨by kernel_rfl,by kernel_rfl⟩
theorem lB(o1 o2:Bool)(L:List Value)(n:Nat)(port:Int):
  Rn (Zs L none (FY n (GV 4 0 none) port) (mS gl (N7 o1 o2 L n))) ((.normal,AA 84 (up (CM (FY n (GV 4 0 none) port)) (m3 5 12 (E9 (AX 1 n)) (GV 4 0 none) (TM port))),mS gl (N7 o1 o2 L n++XE L n port 5 (AK Da) 0 0 false)),
    [oO n port (N7 o1 o2 L n),oN 0,H.apOk (.cells o1 L) 0 5 12 n L,Zt]):=⟨by kernel_rfl,by kernel_rfl⟩
theorem lC(o1:Bool)(L:List Value)(n:Nat)(port:Int):
  Rn (Zs L none (FY n (GV 3 0 none) port) (mS gl (N8 o1 L n))) ((.normal,AA 84 (up (CM (FY n (GV 3 0 none) port)) (m3 4 11 (E9 (AX 1 n)) (GV 3 0 none) (TM port))),mS gl (N8 o1 L n++XE L n port 4 (AK Da) 0 0 false)),
    [oO n port (N8 o1 L n),oN 0,H.apOk (.cells o1 L) 0 5 12 n L,Zt]):=⟨by kernel_rfl,by kernel_rfl⟩
noncomputable def VX:Code:=match(items Rd)[6]? with|some c=>c|none=> .skip
noncomputable def Zu:Code:=match VX with| .block _ (.loop c)=>c|_=> .skip
theorem Zv:VX= .block 0 (.loop Zu):=by kernel_rfl
noncomputable def hL(p:Nat)(st:Int)(over:Bool)(blk:BI):H.Hint where
 ix _:=false
 ld _ t off:=cond (Nat.beq t 4) (cond (Nat.beq off 885) (some (.bool over)) none) (cond (Nat.beq t 3) (cond (Nat.beq off 884) (some (.int .i64 st)) none) none)
 cmp op t:=cond (Nat.beq t 3) (BinOp.rec (motive:=λ_=>Option Bool) none none none none none none none none none none none none none (some true) none none none op) none
 ap _:=none
 call f:=cond (Nat.beq f 35) (some (.tuple ⟨[.int .i64 0, .int .i64 0]⟩)) (cond (Nat.beq f 21) (some (.bool true)) none)
 spec _ _ _ _:=False
 blk:=0
 eff f m:=cond (Nat.beq f 21) (m.set p blk) m
 specM f:=cond (Nat.beq f 21) (some λargs m v=>oS 21 args m=some (v,m.set p blk)) none
noncomputable def gr(p:Nat)(st:Int)(over:Bool)(blk:BI)(k:Nat)(t:AE)(M:Mem):Option (H.TT (Ex×AE×Mem)):=
 H.codeT (hL p st over blk) Zu Tryd.prog kp 1 (H.callT (hL p st over blk) Tryd.prog kp 1 20) (λbody _ k t m q=>Y.loopF body k t m q) 84 k t M λe t m=>some ((e,t,m),[],[])
noncomputable def B4(p o:Nat):Value:= .pointer (some ⟨p,o,none⟩)
noncomputable def N9(z p:Nat):List (Nat×Value):= [(4, .int .i64 512),(10,B4 z 0),(11, .int .i64 0),(12,B4 p 0)]
theorem lD(x:Nat->Value)(z p k:Nat)(st:Int)(blk:BI)(M:Mem):
  Rn (gr p st false blk k (AA 84 (up x (N9 z p))) M) ((.normal,AA 84 (up (up x [(34,B4 p 0),(35,B4 p 0),(36,B4 p (Nat.add 0 885)),(37, .bool false),(38, .bool true),(39, .bool true),(40,B4 p 0),(41,B4 p 0),(42,B4 p (Nat.add 0 884)),(43, .int .i64 st),(44, .int .i64 512),(45, .bool true),(46, .bool true),(47,B4 p 0),(48, .bool true)]) (N9 z p)),M.set p blk),
    [H.ldOk (M.get p) 885 false 1 (.bool false),H.ldOk (M.get p) 884 false 1 (.int .i64 st),CC Tryd.prog kp .lss 3 (.int .i64 st) (.int .i64 512)=some (.bool true),oS 21 [B4 p 0] M=some (.bool true,M.set p blk)]):=⟨by kernel_rfl,by kernel_rfl⟩
theorem lE(x:Nat->Value)(z p k:Nat)(st:Int)(blk:BI)(M:Mem):
  Rn (gr p st true blk k (AA 84 (up x (N9 z p))) M) ((.exit 0,AA 84 (up (up x [(34,B4 p 0),(35,B4 p 0),(36,B4 p (Nat.add 0 885)),(37, .bool true),(38, .bool false),(39, .bool false),(40,undef),(41,undef),(42,undef),(43,undef),(44,undef),(45,undef),(46, .bool false)]) (N9 z p)),M),
    [H.ldOk (M.get p) 885 false 1 (.bool true)]):=⟨by kernel_rfl,by kernel_rfl⟩
noncomputable def oX:DT:=λf a M=>match oS f a M with
 |some r=>some r
 |none=>bQ f a M
theorem oP{a:List Value}{M:Mem}{r:Value×Mem}(h:oS 21 a M=some r):oX 21 a M=some r:=by unfold oX;rw[h]
theorem gu{f:FuncId}(h:f≠21)(a:List Value)(M:Mem):oX f a M=bQ f a M:=by unfold oX;rw[lF h]
theorem TN{f:FuncId}(h:f≠21)(h':f≠35)(a:List Value)(M:Mem):oX f a M=none:=by rw[gu h,ed h']
theorem Pf:Bc oX:=λf a M v M' h=>by
 unfold oX at h
 cases hq:oS f a M with
 |some r=>rw[hq]at h;cases h;exact Zw _ _ _ _ _ hq
 |none=>rw[hq]at h;exact ef _ _ _ _ _ h
theorem oR(hW:EM)(B0:Nat):CT Tryd.prog B0 1 oX:=by
 refine⟨λf a M v M' h=>(Pf f a M v M' h).size,λf a M v M' h=>?_,λf a M v M' h=>?_⟩
 all_goals
  unfold oX at h;cases hq:oS f a M with
  |some r=>rw[hq]at h;cases h;first|exact(gv B0).ok _ _ _ _ _ hq|exact(gv B0).body _ _ _ _ _ hq
  |none=>rw[hq]at h;first|exact(Zx hW B0).ok _ _ _ _ _ h|exact(Zx hW B0).body _ _ _ _ _ h
theorem hP{p:Nat}{st:Int}{over:Bool}{blk:BI}(f:FuncId)(v:Value)(args:List Value)(m:Mem)(hc:(hL p st over blk).call f=some v)(hs:(hL p st over blk).says f args m v):oX f args m=some (v,(hL p st over blk).eff f m):=by
 by_cases e:f=21
 ·subst e;exact oP hs
 ·have e1:Nat.beq f 21=false:=by cases hb:Nat.beq f 21 with
   |false=>rfl
   |true=>exact absurd (Nat.eq_of_beq_eq_true hb) e
  unfold H.Hint.says at hs;have:(hL p st over blk).specM f=none:=by show cond (Nat.beq f 21) _ _=_;rw[e1];rfl
  rw[this]at hs;exact hs.elim
theorem Zy{p:Nat}{st:Int}{over:Bool}{blk:BI}(f:FuncId)(hc:(hL p st over blk).call f=none)(a:List Value)(m:Mem):oX f a m=none:=
 TN (by rintro rfl;cases hc) (by rintro rfl;cases hc) a m
theorem VY{mm c t k tm ch n np:Nat}{sp:Option Nat}{port:Int}{r:Int->RV}{at_ st:Int}{over:Bool}:H.ldOk (Et mm c t k tm ch n np sp port (AK r) at_ st over) 885 false 1 (.bool over):=by
 show H.blkNth (Et mm c t k tm ch n np sp port (AK r) at_ st over) 885=some (.bool over)
 kernel_rfl
theorem oT{mm c t k tm ch n np:Nat}{sp:Option Nat}{port:Int}{r:Int->RV}{at_ st:Int}{over:Bool}:H.ldOk (Et mm c t k tm ch n np sp port (AK r) at_ st over) 884 false 1 (.int .i64 st):=by
 show H.blkNth (Et mm c t k tm ch n np sp port (AK r) at_ st over) 884=some (.int .i64 st)
 kernel_rfl
section
variable{p c k t mm tm ch z:Nat}{l:List B1}{pk:List Int}{sp:Option Nat}{port:Int}
abbrev VZ(k:Nat):AE->Mem->Option (Ex×AE×Mem):=AH Tryd.prog kp 1 (Bw Tryd.prog kp 1 oX 20) (A6 Tryd.prog kp 1 (Bw Tryd.prog kp 1 oX 20) 84) 84 k Zu
theorem Re{M:Mem}{r r':Int->RV}{at_ st at' st':Nat}{over:Bool}(h:K7 M p c k t mm tm ch l pk)(g:M.get p=Et mm c t k tm ch l.length pk.length sp port (AK r) (at_:Int) (st:Int) false)(hst:st<512)(hs:V0 l pk sp port r at_ st r' at' st' over)(kk:Nat)(x:Nat->Value):
  ∃x',VZ kk (AA 84 (up x (N9 z p))) M=some (.normal,AA 84 (up x' (N9 z p)),M.set p (Et mm c t k tm ch l.length pk.length sp port (AK r') (at':Int) (st':Int) over)):=by
 obtain⟨q1,q2⟩:=lD x z p kk (st:Int) (Et mm c t k tm ch l.length pk.length sp port (AK r') (at':Int) (st':Int) over) M
 obtain⟨e,t',m',h1,h2⟩:=H.codeO_H (H:=hL p (st:Int) false (Et mm c t k tm ch l.length pk.length sp port (AK r') (at':Int) (st':Int) over)) (o:=oX) (P:=Tryd.prog) (K:=kp) (G:=1) (j:=20) (n:=84) (k:=kk) (c:=Zu) (t:=AA 84 (up x (N9 z p))) (m:=M) (g:=λe t m=>(e,t,m)) hP Zy q1 q2 (by
  intro q hq;simp only[List.mem_cons,List.not_mem_nil,or_false]at hq;rcases hq with rfl|rfl|rfl|rfl
  ·rw[g];exact VY
  ·rw[g];exact oT
  ·simp[CC,CA,CN];omega
  ·exact ei h g hs)
 have e1:e=_:=congrArg (λx=>x.1) h2
 have e2:t'=_:=congrArg (λx=>x.2.1) h2
 have e3:m'=_:=congrArg (λx=>x.2.2) h2
 exact⟨_,h1.trans (by rw[e1,e2,e3])⟩
theorem Zz{M:Mem}{r:Int->RV}{at_ st:Nat}(g:M.get p=Et mm c t k tm ch l.length pk.length sp port (AK r) (at_:Int) (st:Int) true)(kk:Nat)(x:Nat->Value):
  ∃x',VZ kk (AA 84 (up x (N9 z p))) M=some (.exit 0,AA 84 (up x' (N9 z p)),M):=by
 obtain⟨q1,q2⟩:=lE x z p kk (st:Int) .none M
 obtain⟨e,t',m',h1,h2⟩:=H.codeO_H (H:=hL p (st:Int) true .none) (o:=oX) (P:=Tryd.prog) (K:=kp) (G:=1) (j:=20) (n:=84) (k:=kk) (c:=Zu) (t:=AA 84 (up x (N9 z p))) (m:=M) (g:=λe t m=>(e,t,m)) hP Zy q1 q2 (by
  intro q hq;obtain rfl:=List.mem_singleton.1 hq;rw[g];exact VY)
 have e1:e=_:=congrArg (λx=>x.1) h2
 have e2:t'=_:=congrArg (λx=>x.2.1) h2
 have e3:m'=_:=congrArg (λx=>x.2.2) h2
 exact⟨_,h1.trans (by rw[e1,e2,e3])⟩
theorem Pg(hb:∀b∈pk,0<=b/\b<256)(hpk:pk.length<=1000000)(hport:0<=port/\port<4294967296)(hl:l.length<=512){n:Nat}{a:Nat}{r rf:Int->RV}{pc:Nat}{v:Int}
  (hr:I7 l pk port n a r pc rf) (hx:l[pc]?=some DC) (hv:rf 0= .num v):∀{M:Mem} {st:Nat} (kk j:Nat) (x:Nat->Value),n+st<512->n+2<=j->GN r->
  K7 M p c k t mm tm ch l pk->M.get p=Et mm c t k tm ch l.length pk.length sp port (AK r) (a:Int) (st:Int) false->
  GN rf/\∃x',B2 (VZ kk) j (AA 84 (up x (N9 z p))) M=some (.exit 0,AA 84 (up x' (N9 z p)),M.set p (Et mm c t k tm ch l.length pk.length sp port (AK rf) (pc:Int) ((st+n+1:Nat):Int) true)):=by
 induction hr with
 |nil=>
  rename_i a r;intro M st kk j x hst hj hR hM hg;refine⟨hR,?_⟩;obtain⟨j,rfl⟩:∃j',j=j'+2:=⟨j - 2,by omega⟩;obtain⟨x1,h1⟩:=Re (z:=z) hM hg (by omega) (TO (sp:=sp) (port:=port) (st:=st) (by omega) hx hv) kk x;obtain⟨x2,h2⟩:=Zz (z:=z) (p:=p) (c:=c) (k:=k) (t:=t) (mm:=mm) (tm:=tm) (ch:=ch) (l:=l) (pk:=pk) (sp:=sp) (port:=port) (r:=r) (at_:=a) (st:=st+1) (M:=M.set p (Et mm c t k tm ch l.length pk.length sp port (AK r) (a:Int) ((st+1:Nat):Int) true)) (Mem.get_set_same ..) kk x1;refine⟨x2,?_⟩;simp only[B2,h1,h2]
 |cons hs hr ih=>
  rename_i n a a1 q r r1 s;intro M st kk j x hst hj hR hM hg;obtain⟨j,rfl⟩:∃j',j=j'+1:=⟨j - 1,by omega⟩;have hq:q<512:=by have:=(List.getElem?_eq_some_iff.1 hx).1;omega
  have hle:=hr.le;have ha:a+1<=a1:=by have:=(I7.cons hs .nil).le;omega
  obtain⟨s1,hR1⟩:=TP (sp:=sp) (st:=st) hR hb hpk hport (by omega) (by omega) (by omega) hs;obtain⟨x1,h1⟩:=Re (z:=z) hM hg (by omega) s1 kk x;obtain⟨g1,x2,h2⟩:=ih hx hv (M:=M.set p (Et mm c t k tm ch l.length pk.length sp port (AK r1) (a1:Int) ((st+1:Nat):Int) false)) (st:=st+1) kk j x1 (by omega) (by omega) hR1 (hM.set _) (Mem.get_set_same ..);refine⟨g1,x2,?_⟩;simp only[B2,h1,h2,Mem.set_set];rw[show st+1+n+1=st+(n+1)+1 by omega]
end
noncomputable def hT(P:Option (List Value)):H.Hint where
 ix _:=false
 ld _ _ _:=none
 cmp _ _:=none
 ap t:=cond (Nat.beq t 41) P none
 call f:=cond (Nat.beq f 35) (some (.tuple ⟨[.int .i64 0, .int .i64 0]⟩)) (cond (Nat.beq f 21) (some (.bool true)) none)
 spec _ _ _ _:=False
 blk:=0
 specM f:=cond (Nat.beq f 21) (some never) none
noncomputable def aA(P:Option (List Value))(t:AE)(M:Mem):Option (H.TT (Ex×Option (List Value)×Mem)):=
 H.codeT (hT P) (Gz ((items Rd).drop 7)) Tryd.prog kp 1 (H.callT (hT P) Tryd.prog kp 1 20) (λbody _ k t m q=>Y.loopF body k t m q) 84 600 t M λe t m=>some ((e,DM Tryd.prog t m Tryd.f10.results.toList,m),[],[])
noncomputable def IS(pc v st:Int)(pv:Value):List Value:= [.int .i64 0, .int .i64 pc, .int .u64 v, .int .i64 st,pv]
noncomputable def ej(L P:List Value)(n np:Nat)(port:Int)(z:Nat)(regs:List Value)(at_ st v:Int):List BI:= [.cells true (Hk (AX 1 n)), .cells true (LI port), .cells true (IS at_ v st (GV (z+15) np (some 1))),
 .cells true (Hk (AX 1 n)), .cells true (LI port),Fv,Fv, .cells true P,Et (z+9) (z+11) (z+5) (z+7) (z+12) (z+13) n np (some 1) port regs at_ st true,Fv,Fv, .cells true L,Fv,Fv,Fv, .cells true P, .cells true (IS at_ v st (GV (z+15) np (some 1)))]
noncomputable def Rf(L:List Value)(n:Nat)(port:Int)(z:Nat)(regs:List Value)(at_ st v:Int):List BI:= [.cells true (Hk (AX 1 n)), .cells true (LI port), .cells true (IS at_ v st (GV (z+13) 0 none)),
 .cells true (Hk (AX 1 n)), .cells true (LI port),Fv,Fv,Et (z+8) (z+10) (z+5) (z+6) (z+11) (z+12) n 0 none port regs at_ st true,Fv,Fv, .cells true L,Fv,Fv,Fv, .cells true (IS at_ v st (GV (z+13) 0 none))]
theorem lG(x:Nat->Value)(o1 o2:Bool)(L P:List Value)(n np:Nat)(port:Int)(rf:Int->RV)(pc st:Int):
  Rn (aA (some P) (AA 84 (up x (N9 8 14))) ((mS gl (N6 o1 o2 L P n++kz L P n np port 6 (AK Da) 0 0 false)).set 14 (Et 15 17 11 13 18 19 n np (some 1) port (AK rf) pc st true))) ((.ret,some [.agg ⟨IS pc (nv (rf 0)) st (GV 21 np (some 1))⟩, .int .i64 0],mS gl (N6 o1 o2 L P n++ej L P n np port 6 (AK rf) pc st (nv (rf 0)))),
    [H.apOk (.cells true P) 0 1 1 np P]):=⟨by kernel_rfl,by kernel_rfl⟩
theorem lH(x:Nat->Value)(o1 o2:Bool)(L:List Value)(n:Nat)(port:Int)(rf:Int->RV)(pc st:Int):
  Rn (aA none (AA 84 (up x (N9 7 12))) ((mS gl (N7 o1 o2 L n++XE L n port 5 (AK Da) 0 0 false)).set 12 (Et 13 15 10 11 16 17 n 0 none port (AK rf) pc st true))) ((.ret,some [.agg ⟨IS pc (nv (rf 0)) st (GV 18 0 none)⟩, .int .i64 0],mS gl (N7 o1 o2 L n++Rf L n port 5 (AK rf) pc st (nv (rf 0)))),[]):=⟨by kernel_rfl,by kernel_rfl⟩
theorem lI(x:Nat->Value)(o1:Bool)(L:List Value)(n:Nat)(port:Int)(rf:Int->RV)(pc st:Int):
  Rn (aA none (AA 84 (up x (N9 6 11))) ((mS gl (N8 o1 L n++XE L n port 4 (AK Da) 0 0 false)).set 11 (Et 12 14 9 10 15 16 n 0 none port (AK rf) pc st true))) ((.ret,some [.agg ⟨IS pc (nv (rf 0)) st (GV 17 0 none)⟩, .int .i64 0],mS gl (N8 o1 L n++Rf L n port 4 (AK rf) pc st (nv (rf 0)))),[]):=⟨by kernel_rfl,by kernel_rfl⟩
abbrev XF:FQ:=Bw Tryd.prog kp 1 oX 20
theorem lJ:List.drop 6 (items Rd)=VX::List.drop 7 (items Rd):=by kernel_rfl
theorem K8{args:List Value}{M0 M1 M2 M3:Mem}{t1 t2 t3:AE}{vs:List Value}(hn:args.length=5)
  (h1:AH Tryd.prog kp 1 XF (A6 Tryd.prog kp 1 XF 84) 84 600 (Gz ((items Rd).take 6)) (AA 84 (CM args)) M0=some (.normal,t1,M1))
  (h2:B2 (VZ 600) 600 t1 M1=some (.exit 0,t2,M2))
  (h3:AH Tryd.prog kp 1 XF (A6 Tryd.prog kp 1 XF 84) 84 600 (Gz ((items Rd).drop 7)) t2 M2=some (.ret,t3,M3)) (h4:DM Tryd.prog t3 M3 Tryd.f10.results.toList=some vs):
  Fq Tryd.prog kp 1 XF 600 10 args M0=some (FT vs,M3):=by
 have hm:max args.length Tryd.f10.ntmps=84:=by rw[sY,hn];rfl
 have key:AH Tryd.prog kp 1 XF (A6 Tryd.prog kp 1 XF 84) 84 600 Rd (AA 84 (CM args)) M0=some (.ret,t3,M3):=by
  rw[FI Rd,←List.take_append_drop 6 (items Rd),Em,←DA,h1];simp only;rw[lJ]
  have hb:AH Tryd.prog kp 1 XF (A6 Tryd.prog kp 1 XF 84) 84 600 VX t1 M1=some (.normal,t2,M2):=by
   rw[Zv];simp only[AH];rw[h2];rfl
  simp only[E7,hb];rw[←DA,h3]
 unfold Fq
 rw[sW]
 simp only
 rw[sX]
 simp only
 rw[hm,key]
 simp only[Wg,h4]
theorem NI{L:List Value}{P:Option (List Value)}(f:FuncId)(v:Value)(args:List Value)(m:Mem)(hc:(hA L P).call f=some v)(hs:(hA L P).says f args m v):oX f args m=some (v,(hA L P).eff f m):=by
 by_cases e:f=21
 ·subst e;exact hs.elim
 ·have e1:Nat.beq f 21=false:=by cases hb:Nat.beq f 21 with
   |false=>rfl
   |true=>exact absurd (Nat.eq_of_beq_eq_true hb) e
  unfold H.Hint.says at hs;have:(hA L P).specM f=some λargs m v=>bQ f args m=some (v,m):=by show cond (Nat.beq f 21) _ _=_;rw[e1];rfl
  rw[this]at hs;rw[gu e];exact hs
theorem K9{L:List Value}{P:Option (List Value)}(f:FuncId)(hc:(hA L P).call f=none)(a:List Value)(m:Mem):oX f a m=none:=
 TN (by rintro rfl;cases hc) (by rintro rfl;cases hc) a m
theorem aB{P:Option (List Value)}(f:FuncId)(v:Value)(args:List Value)(m:Mem)(hc:(hT P).call f=some v)(hs:(hT P).says f args m v):oX f args m=some (v,(hT P).eff f m):=by
 exfalso
 unfold H.Hint.says at hs
 cases hq:(hT P).specM f with
 |none=>rw[hq]at hs;exact hs
 |some g=>
  rw[hq]at hs;have hq:cond (Nat.beq f 21) (some never) none=some g:=hq;cases hb:Nat.beq f 21<;>rw[hb]at hq
  ·cases hq
  ·cases hq;exact hs
theorem TQ{P:Option (List Value)}(f:FuncId)(hc:(hT P).call f=none)(a:List Value)(m:Mem):oX f a m=none:=
 TN (by rintro rfl;cases hc) (by rintro rfl;cases hc) a m
structure Kt(l:List B1)(pk:List Int)(port v:Int):Prop where
 shape:DK l
 bytes:∀b∈pk,0<=b/\b<256
 len:pk.length<=65535
 prt:0<=port/\port<4294967296
 runs:∃pc n r,I7 l pk port n 0 Da pc r/\l[pc]?=some DC/\r 0= .num v/\n<l.length
theorem TR:GN Da:=by
 intro i n h
 unfold Da at h
 split at h<;>simp_all
section
variable{l:List B1}{pk:List Int}{port v:Int}{o1 o2:Bool}
theorem Du(ss:List BI):(mS gl ss).top:=λj hj=>by
 have e:(mS gl ss).size=1+ss.length:=by unfold mS;rw[D0,mG_size]
 rw[e]at hj
 have:=CV ss (mG gl) j
 unfold mS
 rw[this,mG_size,if_neg (by omega),List.getElem?_eq_none (by omega)]
 exact mG_top gl j (by rw[mG_size];omega)
theorem TS(h:DK l)(own:Bool)(ss:List BI):oO l.length port (.cells own (AD l)::ss):=by
 have e0:∀ss':List BI,(mS gl (.cells own (AD l)::ss')).get 0= .cells false gl:=λss'=>by
  have:=CV (.cells own (AD l)::ss') (mG gl) 0;unfold mS;rw[this,mG_size,if_pos (by decide),mG_get]
 have e1:∀ss':List BI,(mS gl (.cells own (AD l)::ss')).get 1= .cells own (AD l):=λss'=>by
  have:=CV (.cells own (AD l)::ss') (mG gl) 1;unfold mS;rw[this,mG_size,if_neg (by decide)];rfl
 have ez:∀ss':List BI,1< (mS gl (.cells own (AD l)::ss')).size:=λss'=>by
  unfold mS;rw[D0,mG_size,List.length_cons];omega
 unfold oO
 rw[List.cons_append]
 refine if_pos ⟨rfl,1,rfl,?_,VV (o1:=own) (l:=l) (Du _) (e0 _) (Nat.le_of_lt (ez _)) (ez _) (by decide) (e1 _)⟩
 rw[e1]
 exact⟨own,l,rfl,rfl,rfl,h⟩
theorem TU{n:Nat}(h:n<=65535):oN n:=by
 unfold oN
 simp[CC,CA,CN];omega
theorem Ph:Zt:=by unfold Zt;simp[CC,CA,CN]
theorem oU(hR:Kt l pk port v)(hne:pk≠ []):
  ∃pc st regs,Fq Tryd.prog kp 1 XF 600 10 (FY l.length (GV 5 pk.length (some 1)) port) (mS gl (N6 o1 o2 (AD l) (AQ pk) l.length))=
   some (.tuple ⟨[.agg ⟨IS pc v st (GV 21 pk.length (some 1))⟩, .int .i64 0]⟩,mS gl (N6 o1 o2 (AD l) (AQ pk) l.length++ej (AD l) (AQ pk) l.length pk.length port 6 (AK regs) pc st v)):=by
 obtain⟨pc,n,rf,hrun,hx,hv,hn⟩:=hR.runs
 obtain⟨q1,q2⟩:=lA o1 o2 (AD l) (AQ pk) l.length pk.length port
 obtain⟨e,t1,M1,a1,a2⟩:=H.codeO_H (H:=hA (AD l) (some (AQ pk))) (o:=oX) (P:=Tryd.prog) (K:=kp) (G:=1) (j:=20) (n:=84) (k:=600) (c:=Gz ((items Rd).take 6)) (t:=AA 84 (CM (FY l.length (GV 5 pk.length (some 1)) port))) (m:=mS gl (N6 o1 o2 (AD l) (AQ pk) l.length)) (g:=λe t m=>(e,t,m)) NI K9 q1 q2 (by
  intro q hq;simp only[List.mem_cons,List.not_mem_nil,or_false]at hq;rcases hq with rfl|rfl|rfl|rfl|rfl
  ·exact TS hR.shape o1 _
  ·exact TU hR.len
  ·exact JH hne hR.len
  ·exact Ka hR.shape.pos hR.shape.most
  ·exact Ph)
 have e1:e=_:=congrArg (λx=>x.1) a2
 have e2:t1=_:=congrArg (λx=>x.2.1) a2
 have e3:M1=_:=congrArg (λx=>x.2.2) a2
 simp only at e1 e2 e3
 have hM:K7 M1 14 17 13 11 15 18 19 l pk:=by
  rw[e3];have hz:(mS gl (N6 o1 o2 (AD l) (AQ pk) l.length++kz (AD l) (AQ pk) l.length pk.length port 6 (AK Da) 0 0 false)).size=20:=by kernel_rfl
  refine⟨Du _,by kernel_rfl,by rw[hz];decide,?_,by decide,by decide,by kernel_rfl,by kernel_rfl,by kernel_rfl,by kernel_rfl,by kernel_rfl,by kernel_rfl⟩;intro b hb;rw[hz]
  revert b
  decide
 have hg:M1.get 14=Et 15 17 11 13 18 19 l.length pk.length (some 1) port (AK Da) ((0:Nat):Int) ((0:Nat):Int) false:=by rw[e3];kernel_rfl
 have hf:∃x,t1=AA 84 (up x (N9 8 14)):=⟨up (CM (FY l.length (GV 5 pk.length (some 1)) port)) (m3 6 14 (E9 (AX 1 l.length)) (GV 5 pk.length (some 1)) (TM port)),by rw[e2];kernel_rfl⟩
 obtain⟨x,hf⟩:=hf
 have hm:=hR.shape.most
 have hn1:n+0<512:=by omega
 have hn2:n+2<=600:=by omega
 obtain⟨-,x',b1⟩:=Pg (z:=8) hR.bytes (by have:=hR.len;omega) hR.prt hm hrun hx hv (st:=0) 600 600 x hn1 hn2 TR hM hg
 obtain⟨c1,c2⟩:=lG x' o1 o2 (AD l) (AQ pk) l.length pk.length port rf (pc:Int) ((0+n+1:Nat):Int)
 obtain⟨e',t3,M3,d1,d2⟩:=H.codeO_H (H:=hT (some (AQ pk))) (o:=oX) (P:=Tryd.prog) (K:=kp) (G:=1) (j:=20) (n:=84) (k:=600) (c:=Gz ((items Rd).drop 7)) (t:=AA 84 (up x' (N9 8 14))) (g:=λe t m=>(e,DM Tryd.prog t m Tryd.f10.results.toList,m)) aB TQ c1 c2 (by
  intro q hq;obtain rfl:=List.mem_singleton.1 hq;exact JH hne hR.len)
 have f1:e'=_:=congrArg (λx=>x.1) d2
 have f2:DM Tryd.prog t3 M3 Tryd.f10.results.toList=_:=congrArg (λx=>x.2.1) d2
 have f3:M3=_:=congrArg (λx=>x.2.2) d2
 simp only at f1 f3
 have hnv:nv (rf 0)=v:=by rw[hv];rfl
 rw[e1]at a1
 rw[f1]at d1
 rw[hf]at a1
 rw[←e3]at d1
 refine⟨(pc:Int),((0+n+1:Nat):Int),rf,(K8 rfl a1 b1 d1 f2).trans ?_⟩
 rw[f3,hnv]
 kernel_rfl
theorem oV(hR:Kt l [] port v):
  ∃pc st regs,Fq Tryd.prog kp 1 XF 600 10 (FY l.length (GV 4 0 none) port) (mS gl (N7 o1 o2 (AD l) l.length))=
   some (.tuple ⟨[.agg ⟨IS pc v st (GV 18 0 none)⟩, .int .i64 0]⟩,mS gl (N7 o1 o2 (AD l) l.length++Rf (AD l) l.length port 5 (AK regs) pc st v)):=by
 obtain⟨pc,n,rf,hrun,hx,hv,hn⟩:=hR.runs
 obtain⟨q1,q2⟩:=lB o1 o2 (AD l) l.length port
 obtain⟨e,t1,M1,a1,a2⟩:=H.codeO_H (H:=hA (AD l) none) (o:=oX) (P:=Tryd.prog) (K:=kp) (G:=1) (j:=20) (n:=84) (k:=600) (c:=Gz ((items Rd).take 6)) (t:=AA 84 (CM (FY l.length (GV 4 0 none) port))) (m:=mS gl (N7 o1 o2 (AD l) l.length)) (g:=λe t m=>(e,t,m)) NI K9 q1 q2 (by
  intro q hq;simp only[List.mem_cons,List.not_mem_nil,or_false]at hq;rcases hq with rfl|rfl|rfl|rfl
  ·exact TS hR.shape o1 _
  ·exact TU hR.len
  ·exact Ka hR.shape.pos hR.shape.most
  ·exact Ph)
 have e1:e=_:=congrArg (λx=>x.1) a2
 have e2:t1=_:=congrArg (λx=>x.2.1) a2
 have e3:M1=_:=congrArg (λx=>x.2.2) a2
 simp only at e1 e2 e3
 have hM:K7 M1 12 15 11 10 13 16 17 l []:=by
  rw[e3];have hz:(mS gl (N7 o1 o2 (AD l) l.length++XE (AD l) l.length port 5 (AK Da) 0 0 false)).size=18:=by kernel_rfl
  refine⟨Du _,by kernel_rfl,by rw[hz];decide,?_,by decide,by decide,by kernel_rfl,by kernel_rfl,by kernel_rfl,by kernel_rfl,by kernel_rfl,by kernel_rfl⟩;intro b hb;rw[hz]
  revert b
  decide
 have hg:M1.get 12=Et 13 15 10 11 16 17 l.length ([]:List Int).length none port (AK Da) ((0:Nat):Int) ((0:Nat):Int) false:=by rw[e3];kernel_rfl
 have hf:∃x,t1=AA 84 (up x (N9 7 12)):=⟨up (CM (FY l.length (GV 4 0 none) port)) (m3 5 12 (E9 (AX 1 l.length)) (GV 4 0 none) (TM port)),by rw[e2];kernel_rfl⟩
 obtain⟨x,hf⟩:=hf
 have hm:=hR.shape.most
 have hn1:n+0<512:=by omega
 have hn2:n+2<=600:=by omega
 obtain⟨-,x',b1⟩:=Pg (z:=7) hR.bytes (by have:=hR.len;omega) hR.prt hm hrun hx hv (st:=0) 600 600 x hn1 hn2 TR hM hg
 obtain⟨c1,c2⟩:=lH x' o1 o2 (AD l) l.length port rf (pc:Int) ((0+n+1:Nat):Int)
 obtain⟨e',t3,M3,d1,d2⟩:=H.codeO_H (H:=hT none) (o:=oX) (P:=Tryd.prog) (K:=kp) (G:=1) (j:=20) (n:=84) (k:=600) (c:=Gz ((items Rd).drop 7)) (t:=AA 84 (up x' (N9 7 12))) (g:=λe t m=>(e,DM Tryd.prog t m Tryd.f10.results.toList,m)) aB TQ c1 c2 (by simp)
 have f1:e'=_:=congrArg (λx=>x.1) d2
 have f2:DM Tryd.prog t3 M3 Tryd.f10.results.toList=_:=congrArg (λx=>x.2.1) d2
 have f3:M3=_:=congrArg (λx=>x.2.2) d2
 simp only at f1 f3
 have hnv:nv (rf 0)=v:=by rw[hv];rfl
 rw[e1]at a1
 rw[f1]at d1
 rw[hf]at a1
 rw[←e3]at d1
 refine⟨(pc:Int),((0+n+1:Nat):Int),rf,(K8 rfl a1 b1 d1 f2).trans ?_⟩
 rw[f3,hnv]
 kernel_rfl
theorem oY(hR:Kt l [] port v):
  ∃pc st regs,Fq Tryd.prog kp 1 XF 600 10 (FY l.length (GV 3 0 none) port) (mS gl (N8 o1 (AD l) l.length))=
   some (.tuple ⟨[.agg ⟨IS pc v st (GV 17 0 none)⟩, .int .i64 0]⟩,mS gl (N8 o1 (AD l) l.length++Rf (AD l) l.length port 4 (AK regs) pc st v)):=by
 obtain⟨pc,n,rf,hrun,hx,hv,hn⟩:=hR.runs
 obtain⟨q1,q2⟩:=lC o1 (AD l) l.length port
 obtain⟨e,t1,M1,a1,a2⟩:=H.codeO_H (H:=hA (AD l) none) (o:=oX) (P:=Tryd.prog) (K:=kp) (G:=1) (j:=20) (n:=84) (k:=600) (c:=Gz ((items Rd).take 6)) (t:=AA 84 (CM (FY l.length (GV 3 0 none) port))) (m:=mS gl (N8 o1 (AD l) l.length)) (g:=λe t m=>(e,t,m)) NI K9 q1 q2 (by
  intro q hq;simp only[List.mem_cons,List.not_mem_nil,or_false]at hq;rcases hq with rfl|rfl|rfl|rfl
  ·exact TS hR.shape o1 _
  ·exact TU hR.len
  ·exact Ka hR.shape.pos hR.shape.most
  ·exact Ph)
 have e1:e=_:=congrArg (λx=>x.1) a2
 have e2:t1=_:=congrArg (λx=>x.2.1) a2
 have e3:M1=_:=congrArg (λx=>x.2.2) a2
 simp only at e1 e2 e3
 have hM:K7 M1 11 14 10 9 12 15 16 l []:=by
  rw[e3];have hz:(mS gl (N8 o1 (AD l) l.length++XE (AD l) l.length port 4 (AK Da) 0 0 false)).size=17:=by kernel_rfl
  refine⟨Du _,by kernel_rfl,by rw[hz];decide,?_,by decide,by decide,by kernel_rfl,by kernel_rfl,by kernel_rfl,by kernel_rfl,by kernel_rfl,by kernel_rfl⟩;intro b hb;rw[hz]
  revert b
  decide
 have hg:M1.get 11=Et 12 14 9 10 15 16 l.length ([]:List Int).length none port (AK Da) ((0:Nat):Int) ((0:Nat):Int) false:=by rw[e3];kernel_rfl
 have hf:∃x,t1=AA 84 (up x (N9 6 11)):=⟨up (CM (FY l.length (GV 3 0 none) port)) (m3 4 11 (E9 (AX 1 l.length)) (GV 3 0 none) (TM port)),by rw[e2];kernel_rfl⟩
 obtain⟨x,hf⟩:=hf
 have hm:=hR.shape.most
 have hn1:n+0<512:=by omega
 have hn2:n+2<=600:=by omega
 obtain⟨-,x',b1⟩:=Pg (z:=6) hR.bytes (by have:=hR.len;omega) hR.prt hm hrun hx hv (st:=0) 600 600 x hn1 hn2 TR hM hg
 obtain⟨c1,c2⟩:=lI x' o1 (AD l) l.length port rf (pc:Int) ((0+n+1:Nat):Int)
 obtain⟨e',t3,M3,d1,d2⟩:=H.codeO_H (H:=hT none) (o:=oX) (P:=Tryd.prog) (K:=kp) (G:=1) (j:=20) (n:=84) (k:=600) (c:=Gz ((items Rd).drop 7)) (t:=AA 84 (up x' (N9 6 11))) (g:=λe t m=>(e,DM Tryd.prog t m Tryd.f10.results.toList,m)) aB TQ c1 c2 (by simp)
 have f1:e'=_:=congrArg (λx=>x.1) d2
 have f2:DM Tryd.prog t3 M3 Tryd.f10.results.toList=_:=congrArg (λx=>x.2.1) d2
 have f3:M3=_:=congrArg (λx=>x.2.2) d2
 simp only at f1 f3
 have hnv:nv (rf 0)=v:=by rw[hv];rfl
 rw[e1]at a1
 rw[f1]at d1
 rw[hf]at a1
 rw[←e3]at d1
 refine⟨(pc:Int),((0+n+1:Nat):Int),rf,(K8 rfl a1 b1 d1 f2).trans ?_⟩
 rw[f3,hnv]
 kernel_rfl
end
noncomputable def oE:DT:=λf a M=>if f=10 then Fq Tryd.prog kp 1 XF 600 10 a M else none
noncomputable def hJ(P:Option (List Value))(e:List Value)(new:List BI)(s:ByteArray):H.Hint where
 ix _:=false
 ld _ _ _:=none
 cmp op t:=cond (Nat.beq t 9) (BinOp.rec (motive:=λ_=>Option Bool) none none none none none none none none none none none (some true) none none none none none op) none
 ap t:=cond (Nat.beq t 41) P none
 call f:=cond (Nat.beq f 10) (some (.tuple ⟨[.agg ⟨e⟩, .int .i64 0]⟩)) none
 spec _ _ _ _:=False
 blk:=0
 eff _ m:=new.foldl Mem.push m
 specM _:=some λargs m v=>oE 10 args m=some (v,new.foldl Mem.push m)
 cv a b:=cond (Nat.beq a 41 && Nat.beq b 9) (some (.string s)) none
noncomputable def lU(P:Option (List Value))(e:List Value)(new:List BI)(s:ByteArray)(n:Nat)(pv:Value)(port:Int)(M:Mem):Option (H.TT (Value×BI×BI×BI)):=
 H.callT (hJ P e new s) Tryd.prog kp 1 20 6 [E9 (AX 1 n),pv, .int .u32 port] M λv m=>some ((v,m.get 0,m.get 1,m.get 2),[],[])
noncomputable def s5(n:Nat)(pv:Value)(port:Int)(M:Mem)(e:List Value)(new:List BI):Prop:=oE 10 (FY n pv port) M=some (.tuple ⟨[.agg ⟨e⟩, .int .i64 0]⟩,new.foldl Mem.push M)
noncomputable def iC(x:BI)(v:Value)(s:ByteArray):Prop:=H.cvOk Tryd.prog x 41 9 v (.string s)
noncomputable def p6(s:ByteArray):Prop:=CC Tryd.prog kp .eql 9 (.string s) (.string s)=some (.bool true)
noncomputable def jv(v:Int):Value:= .tuple ⟨[.int .u64 v, .bool true]⟩
theorem lV(o1 o2:Bool)(L P:List Value)(n np cap:Nat)(sp:Option Nat)(port:Int)(regs:List Value)(pc st v:Int)(s:ByteArray):
  Rn (lU (some P) (IS pc v st (GV 21 np (some 1))) (ej L P n np port 6 regs pc st v) s n (.slice (some ⟨2,0,sp⟩) np cap) port (mS gl [.cells o1 L, .cells o2 P])) ((jv v, .cells false gl, .cells o1 L, .cells o2 P),[H.apOk (.cells o2 P) 0 1 1 np P,s5 n (GV 5 np (some 1)) port (mS gl (N6 o1 o2 L P n)) (IS pc v st (GV 21 np (some 1))) (ej L P n np port 6 regs pc st v),iC (.cells true P) (GV 21 np (some 1)) s,iC (.cells o2 P) (.slice (some ⟨2,0,sp⟩) np cap) s,p6 s]):=⟨by kernel_rfl,by kernel_rfl⟩
theorem lW(o1 o2:Bool)(L:List Value)(n cap:Nat)(sp:Option Nat)(port:Int)(regs:List Value)(pc st v:Int)(s:ByteArray):
  Rn (lU none (IS pc v st (GV 18 0 none)) (Rf L n port 5 regs pc st v) s n (.slice (some ⟨2,0,sp⟩) 0 cap) port (mS gl [.cells o1 L, .cells o2 []])) ((jv v, .cells false gl, .cells o1 L, .cells o2 []),[s5 n (GV 4 0 none) port (mS gl (N7 o1 o2 L n)) (IS pc v st (GV 18 0 none)) (Rf L n port 5 regs pc st v),iC Fv (GV 18 0 none) s,iC (.cells o2 []) (.slice (some ⟨2,0,sp⟩) 0 cap) s,p6 s]):=⟨by kernel_rfl,by kernel_rfl⟩
theorem lX(o1:Bool)(L:List Value)(n:Nat)(port:Int)(regs:List Value)(pc st v:Int)(s:ByteArray):
  Rn (lU none (IS pc v st (GV 17 0 none)) (Rf L n port 4 regs pc st v) s n (.slice none 0 0) port (mS gl [.cells o1 L])) ((jv v, .cells false gl, .cells o1 L, .cells true (Hk (AX 1 n))),[s5 n (GV 3 0 none) port (mS gl (N8 o1 L n)) (IS pc v st (GV 17 0 none)) (Rf L n port 4 regs pc st v),iC Fv (GV 17 0 none) s,iC (.cells false gl) (.slice none 0 0) s,p6 s]):=⟨by kernel_rfl,by kernel_rfl⟩
theorem lY{f:FuncId}(h:f≠10)(a:List Value)(M:Mem):oE f a M=none:=if_neg h
theorem TW:Bc oE:=λf a M v M' h=>by
 unfold oE at h
 split at h
 case isFalse=>cases h
 rename_i e
 subst e
 exact KS (Cb Pf 20) 600 10 a M v M' h
theorem ot(hW:EM)(B0:Nat):CT Tryd.prog B0 1 oE:=by
 have ih:=Qo Br hK FZ (Dg Br hK FZ (oR hW B0) Pf 20) (Cb Pf 20) 600
 refine⟨λf a M v M' h=>(TW f a M v M' h).size,λf a M v M' h=>?_,λf a M v M' h=>?_⟩
 all_goals
  unfold oE at h;split at h
  case isFalse=>cases h
  rename_i e;subst e
 ·exact ih.ok _ _ _ _ _ h
 ·exact ih.body _ _ _ _ _ h
def Kc(n n':Nat)(port:Int)(pv:Value)(ss:List BI):Option (Value×Mem):=
 Bw Tryd.prog kp 1 oE 20 6 [.agg ⟨[.slice none 0 0, .slice (some ⟨1,0,some 5⟩) n n']⟩,pv, .int .u32 port] (mS gl ss)
open Classical in
noncomputable def ZO:DT:=λf a M=>match a with
 | [.agg ⟨[.slice none 0 0, .slice (some ⟨c,0,some 5⟩) n n']⟩, .slice (some ⟨k,0,sp⟩) np cap, .int .u32 port]=>if f=6/\Fits gl [c,k] [M.get c,M.get k] M then
   (match Kc n n' port (.slice (some ⟨2,0,sp⟩) np cap) [M.get c,M.get k]with
    |some (.tuple ⟨[.int .u64 z, .bool b]⟩,m)=>if m.get 0= .cells false gl/\m.get 1=M.get c/\m.get 2=M.get k then some (.tuple ⟨[.int .u64 z, .bool b]⟩,M)else none
    |_=>none)else none
 | [.agg ⟨[.slice none 0 0, .slice (some ⟨c,0,some 5⟩) n n']⟩, .slice none 0 0, .int .u32 port]=>if f=6/\Fits gl [c] [M.get c] M then
   (match Kc n n' port (.slice none 0 0) [M.get c]with
    |some (.tuple ⟨[.int .u64 z, .bool b]⟩,m)=>if m.get 0= .cells false gl/\m.get 1=M.get c then some (.tuple ⟨[.int .u64 z, .bool b]⟩,M)else none
    |_=>none)else none
 |_=>none
theorem OZ(z:Int)(b:Bool):Free (.tuple ⟨[.int .u64 z, .bool b]⟩):=Ej (by
 intro x hx
 have hx:x∈ [Value.int .u64 z,Value.bool b]:=hx
 simp only[List.mem_cons,List.not_mem_nil,or_false]at hx
 rcases hx with rfl|rfl
 ·exact Cq _ _
 ·exact D4 _)
theorem NL(hW:EM){B0:Nat}{f:FuncId}{a:List Value}{M M':Mem}{v:Value}(h:ZO f a M=some (v,M')):f=6/\Dr Tryd.prog B0 1 f a M v M'/\Dx M M':=by
 have hE:=Dg Br hK FZ (ot hW B0) TW 20
 have hG:=Cb (P:=Tryd.prog) (K:=kp) (G:=1) TW 20
 unfold ZO at h
 split at h
 case h_3=>cases h
 ·rename_i c n n' k sp np cap port;by_cases hc:f=6/\Fits gl [c,k] [M.get c,M.get k] M
  case neg=>rw[if_neg hc]at h;cases h
  rw[if_pos hc]at h;obtain⟨rfl,hF⟩:=hc;split at h
  case h_2=>cases h
  rename_i z b m hR;by_cases hk:m.get 0= .cells false gl/\m.get 1=M.get c/\m.get 2=M.get k
  case neg=>rw[if_neg hk]at h;cases h
  rw[if_pos hk]at h;simp only[Option.some.injEq,Prod.mk.injEq]at h;obtain⟨rfl,rfl⟩:=h;refine⟨rfl,MK (B0:=B0) Cs hE hG hF hR ?_ ((OZ z b).embA _ _) hk.1 (λi s hi=>?_)⟩
  ·have h1:(λi=>Nat.blt i (1+ [c,k].length)) 1=true:=rfl;have h2:(λi=>Nat.blt i (1+ [c,k].length)) 2=true:=rfl;refine .cons (JZ (.cons ((EP _ _).sim _ _) (.cons (ER (ρ:=DQ [c,k] M) h1) .nil))) (.cons ?_ (.cons ((Cq _ _).sim _ _) .nil));cases sp with
   |none=>exact UZ (ρ:=DQ [c,k] M) h2
   |some e=>exact ER (ρ:=DQ [c,k] M) h2
  ·rcases i with _|_|i
   ·cases hi;exact hk.2.1
   ·cases hi;exact hk.2.2
   ·cases hi
 ·rename_i c n n' port;by_cases hc:f=6/\Fits gl [c] [M.get c] M
  case neg=>rw[if_neg hc]at h;cases h
  rw[if_pos hc]at h;obtain⟨rfl,hF⟩:=hc;split at h
  case h_2=>cases h
  rename_i z b m hR;by_cases hk:m.get 0= .cells false gl/\m.get 1=M.get c
  case neg=>rw[if_neg hk]at h;cases h
  rw[if_pos hk]at h;simp only[Option.some.injEq,Prod.mk.injEq]at h;obtain⟨rfl,rfl⟩:=h;refine⟨rfl,MK (B0:=B0) Cs hE hG hF hR ?_ ((OZ z b).embA _ _) hk.1 (λi s hi=>?_)⟩
  ·have h1:(λi=>Nat.blt i (1+ [c].length)) 1=true:=rfl;exact .cons (JZ (.cons ((EP _ _).sim _ _) (.cons (ER (ρ:=DQ [c] M) h1) .nil))) (.cons ((EP _ _).sim _ _) (.cons ((Cq _ _).sim _ _) .nil))
  ·rcases i with _|i
   ·cases hi;exact hk.2
   ·cases hi
theorem Uz(hW:EM):Bc ZO:=λf a M v M' h=>(NL hW (B0:=0) h).2.2
theorem kG(hW:EM)(B0:Nat):CT Tryd.prog B0 1 ZO:=⟨λf a M v M' h=>(Uz hW f a M v M' h).size,λf a M v M' h=>(NL hW h).2.1,λf a M v M' h=>by
 obtain rfl:=(NL hW (B0:=0) h).1
 exact hasB (by kernel_rfl)⟩
noncomputable def ou(pk:List Int):ByteArray:=⟨(pk.map λn=>UInt8.ofNat n.toNat).toArray⟩
theorem I3:∀pk:List Int,E2 (AQ pk)=some (pk.map λn=>UInt8.ofNat n.toNat)
 | []=>rfl
 |n::pk=>by
  show(match Go.DI.byteOf (.int .u8 n)with|some b=>(match E2 (AQ pk)with|some r=>some (b::r)|none=>none)|none=>none)=_;rw[I3 pk];rfl
theorem iD:Tryd.prog.underlying 41=some (.slice 5):=by kernel_rfl
theorem ov:Tryd.prog.underlying 9=some .string:=by kernel_rfl
theorem ow:Tryd.prog.underlying 5=some (.int .u8):=by kernel_rfl
theorem NM{o:Bool}{pk:List Int}{b:Nat}{sp:Option Nat}{c:Nat}:iC (.cells o (AQ pk)) (.slice (some ⟨b,0,sp⟩) pk.length c) (ou pk):=λm hm=>by
 have hm:m.get b= .cells o (AQ pk):=hm
 have hl:(AQ pk).length=pk.length:=HI pk
 unfold H3
 rw[iD,ov]
 simp only
 rw[ow]
 simp only
 have:Ck m b 0 pk.length=some (AQ pk):=E6 (rest:= []) (by rw[List.append_nil];exact hm) hl
 rw[this]
 simp only
 rw[I3]
 rfl
theorem fE{x:BI}:iC x (.slice none 0 0) (ou []):=λm _=>by
 unfold H3
 rw[iD,ov]
 simp only
 rw[ow]
 rfl
theorem TX(s:ByteArray):p6 s:=by
 show some (Value.bool (s.toList==s.toList))=_
 rw[beq_self_eq_true]
theorem aH{P:Option (List Value)}{e:List Value}{new:List BI}{s:ByteArray}(f:FuncId)(v:Value)(args:List Value)(m:Mem)(hc:(hJ P e new s).call f=some v)(hs:(hJ P e new s).says f args m v):oE f args m=some (v,(hJ P e new s).eff f m):=by
 by_cases e15:f=10
 ·subst e15;exact hs
 ·have e1:Nat.beq f 10=false:=by cases hb:Nat.beq f 10 with
   |false=>rfl
   |true=>exact absurd (Nat.eq_of_beq_eq_true hb) e15
  have hc:cond (Nat.beq f 10) _ none=some v:=hc;rw[e1]at hc;cases hc
theorem TY{P:Option (List Value)}{e:List Value}{new:List BI}{s:ByteArray}(f:FuncId)(hc:(hJ P e new s).call f=none)(a:List Value)(m:Mem):oE f a m=none:=
 lY (by rintro rfl;cases hc) a m
theorem TZ(a b:List BI):mS gl (a++b)=b.foldl Mem.push (mS gl a):=List.foldl_append ..
section
variable{l:List B1}{pk:List Int}{port v:Int}{o1 o2:Bool}
theorem lZ(hR:Kt l pk port v)(hne:pk≠ [])(sp:Option Nat)(cap:Nat):
  ∃m,Kc l.length l.length port (.slice (some ⟨2,0,sp⟩) pk.length cap) [.cells o1 (AD l), .cells o2 (AQ pk)]=some (jv v,m)/\m.get 0= .cells false gl/\m.get 1= .cells o1 (AD l)/\m.get 2= .cells o2 (AQ pk):=by
 obtain⟨pc,st,regs,hx⟩:=oU (o1:=o1) (o2:=o2) hR hne
 obtain⟨q1,q2⟩:=lV o1 o2 (AD l) (AQ pk) l.length pk.length cap sp port (AK regs) pc st v (ou pk)
 obtain⟨v',m,a1,a2⟩:=H.callO_H (o:=oE) (P:=Tryd.prog) (K:=kp) (G:=1) (k:=20) (f:=6) (g:=λv m=>(v,m.get 0,m.get 1,m.get 2)) aH TY q1 q2 (by
  intro q hq;simp only[List.mem_cons,List.not_mem_nil,or_false]at hq;rcases hq with rfl|rfl|rfl|rfl|rfl
  ·exact JH hne hR.len
  ·show oE 10 _ _=_;rw[←TZ];exact(if_pos rfl).trans hx
  ·exact NM
  ·exact NM
  ·exact TX _)
 have e1:v'=_:=congrArg (λx=>x.1) a2
 have e2:m.get 0=_:=congrArg (λx=>x.2.1) a2
 have e3:m.get 1=_:=congrArg (λx=>x.2.2.1) a2
 have e4:m.get 2=_:=congrArg (λx=>x.2.2.2) a2
 exact⟨m,a1.trans (by rw[e1]),e2,e3,e4⟩
theorem l4(hR:Kt l [] port v)(sp:Option Nat)(cap:Nat):
  ∃m,Kc l.length l.length port (.slice (some ⟨2,0,sp⟩) 0 cap) [.cells o1 (AD l), .cells o2 []]=some (jv v,m)/\m.get 0= .cells false gl/\m.get 1= .cells o1 (AD l)/\m.get 2= .cells o2 []:=by
 obtain⟨pc,st,regs,hx⟩:=oV (o1:=o1) (o2:=o2) hR
 obtain⟨q1,q2⟩:=lW o1 o2 (AD l) l.length cap sp port (AK regs) pc st v (ou [])
 obtain⟨v',m,a1,a2⟩:=H.callO_H (o:=oE) (P:=Tryd.prog) (K:=kp) (G:=1) (k:=20) (f:=6) (g:=λv m=>(v,m.get 0,m.get 1,m.get 2)) aH TY q1 q2 (by
  intro q hq;simp only[List.mem_cons,List.not_mem_nil,or_false]at hq;rcases hq with rfl|rfl|rfl|rfl
  ·show oE 10 _ _=_;rw[←TZ];exact(if_pos rfl).trans hx
  ·exact NM (pk:= [])
  ·exact NM (pk:= [])
  ·exact TX _)
 have e1:v'=_:=congrArg (λx=>x.1) a2
 have e2:m.get 0=_:=congrArg (λx=>x.2.1) a2
 have e3:m.get 1=_:=congrArg (λx=>x.2.2.1) a2
 have e4:m.get 2=_:=congrArg (λx=>x.2.2.2) a2
 exact⟨m,a1.trans (by rw[e1]),e2,e3,e4⟩
theorem l5(hR:Kt l [] port v):
  ∃m,Kc l.length l.length port (.slice none 0 0) [.cells o1 (AD l)]=some (jv v,m)/\m.get 0= .cells false gl/\m.get 1= .cells o1 (AD l):=by
 obtain⟨pc,st,regs,hx⟩:=oY (o1:=o1) hR
 obtain⟨q1,q2⟩:=lX o1 (AD l) l.length port (AK regs) pc st v (ou [])
 obtain⟨v',m,a1,a2⟩:=H.callO_H (o:=oE) (P:=Tryd.prog) (K:=kp) (G:=1) (k:=20) (f:=6) (g:=λv m=>(v,m.get 0,m.get 1,m.get 2)) aH TY q1 q2 (by
  intro q hq;simp only[List.mem_cons,List.not_mem_nil,or_false]at hq;rcases hq with rfl|rfl|rfl|rfl
  ·show oE 10 _ _=_;rw[←TZ];exact(if_pos rfl).trans hx
  ·exact NM (pk:= [])
  ·exact fE
  ·exact TX _)
 have e1:v'=_:=congrArg (λx=>x.1) a2
 have e2:m.get 0=_:=congrArg (λx=>x.2.1) a2
 have e3:m.get 1=_:=congrArg (λx=>x.2.2.1) a2
 exact⟨m,a1.trans (by rw[e1]),e2,e3⟩
def s7(M:Mem)(c:Nat)(pv:Value)(pk:List Int):Prop:=(pv= .slice none 0 0/\pk= [])\/∃k sp cap o,pv= .slice (some ⟨k,0,sp⟩) pk.length cap/\k<M.size/\k≠0/\k≠c/\M.get k= .cells o (AQ pk)
theorem OQ{M:Mem}{c:Nat}{pv:Value}(hR:Kt l pk port v)(hM:M.top)(h0:M.get 0= .cells false gl)(h1:1<=M.size)(hc:c<M.size)(hc0:c≠0)(gc:M.get c= .cells o1 (AD l))(hp:s7 M c pv pk):
  ZO 6 [E9 (AX c l.length),pv, .int .u32 port] M=some (jv v,M):=by
 rcases hp with⟨rfl,rfl⟩|⟨k,sp,cap,o2,rfl,hk,hk0,hkc,gk⟩
 ·obtain⟨m,a1,a2,a3⟩:=l5 (o1:=o1) hR;show ZO 6 [.agg ⟨[.slice none 0 0, .slice (some ⟨c,0,some 5⟩) l.length l.length]⟩, .slice none 0 0, .int .u32 port] M=_;unfold ZO;simp only;rw[if_pos ⟨rfl,VV hM h0 h1 hc hc0 gc⟩,gc,a1];exact if_pos ⟨a2,a3⟩
 ·show ZO 6 [.agg ⟨[.slice none 0 0, .slice (some ⟨c,0,some 5⟩) l.length l.length]⟩, .slice (some ⟨k,0,sp⟩) pk.length cap, .int .u32 port] M=_;unfold ZO;simp only;rw[if_pos ⟨rfl,ox hM h0 h1 hc hk hc0 hk0 (Ne.symm hkc) gc gk⟩,gc,gk];by_cases hne:pk= []
  ·subst hne;obtain⟨m,a1,a2,a3,a4⟩:=l4 (o1:=o1) (o2:=o2) hR sp cap;have a1:Kc l.length l.length port (.slice (some ⟨2,0,sp⟩) ([]:List Int).length cap) [.cells o1 (AD l), .cells o2 (AQ [])]=some (jv v,m):=a1;rw[a1];exact if_pos ⟨a2,a3,a4⟩
  ·obtain⟨m,a1,a2,a3,a4⟩:=lZ (o1:=o1) (o2:=o2) hR hne sp cap;rw[a1];exact if_pos ⟨a2,a3,a4⟩
end
end
end Go.Proofs.YtgjflcgmieiafaaDoor
namespace Go.Proofs.YtgjflcgmieiafaaDoor
open Go Go.DI Go.DI.Kit Go.Proofs Go.Cmp
noncomputable section
noncomputable def Be(x:Int):Prop:=CC Tryd.prog kp .gtr 5 (.int .u8 x) (.int .u8 10)=some (.bool false)
noncomputable def DP(x:Int):Prop:=CC Tryd.prog kp .eql 5 (.int .u8 x) (.int .u8 10)=some (.bool false)
noncomputable def hO(x y:List Value):H.Hint where
 ix t:=Nat.beq t 30
 ld _ _ _:=none
 cmp op t:=cond (Nat.beq t 5) (BinOp.rec (motive:=λ_=>Option Bool) none none none none none none none none none none none none none none none (some false) none op) none
 ap _:=none
 call _:=none
 spec _ _ _ _:=False
 blk:=0
 cmpY op t v:=cond (Nat.beq t 5) (BinOp.rec (motive:=λ_=>Option Bool) none none none none none none none none none none none (match v with| .int _ n=>cond (Nat.beq n.toNat 10) (some false) none|_=>none) none none none none none op) none
 ldA a t:=cond (Nat.beq t 88) (match a with| .tmp 13=>some (.agg ⟨x⟩)| .tmp 40=>some (.agg ⟨y⟩)|_=>none) none
 cmpO op t a:=cond (Nat.beq t 3) (BinOp.rec (motive:=λ_=>Option Bool) none none none none none none none none none none none (match a with| .tmp 33=>some false|_=>none) none none none none none op) none
noncomputable def GW(f:FuncId)(x:List Value):Option (H.TT (Value×BI)):=H.callT (hO [] []) Tryd.prog kp 1 20 f [.agg ⟨x⟩] (mS gl []) λv m=>some ((v,m.get 0),[],[])
noncomputable def NS(own:Bool)(L x y:List Value)(k:Nat)(p:Int):Option (H.TT (Value×BI×BI)):=H.callT (hO x y) Tryd.prog kp 1 20 52 [E9 (AX 1 k), .int .i64 p] (mS gl [.cells own L]) λv m=>some ((v,m.get 0,m.get 1),[],[])
noncomputable def Hl(p:Int)(k:Nat):Prop:=0<=p/\p< (k:Int)
noncomputable def JD(L:List Value)(p:Int)(x:List Value):Prop:=H.ldOk (.cells true L) (Nat.add 0 (Nat.mul p.toNat 5)) true 5 (.agg ⟨x⟩)
noncomputable def oz(p:Int)(k:Nat):Prop:=CC Tryd.prog kp .eql 3 (.int .i64 (IntKind.wrap .i64 (Int.add p 1))) (.int .i64 (Int.ofNat k))=some (.bool false)
theorem fJ(d n:Int):Rn (GW 37 [.int .u8 183, .int .u8 d, .int .u8 0, .int .i16 0, .int .i32 n]) ((.tuple ⟨[.agg ⟨[.int .i64 1, .int .i64 11, .int .i64 0, .bool true, .bool false]⟩, .int .i64 0]⟩, .cells false gl),[Be d,DP d]):=⟨by kernel_rfl,by kernel_rfl⟩
theorem fK(d n:Int):Rn (GW 38 [.int .u8 183, .int .u8 d, .int .u8 0, .int .i16 0, .int .i32 n]) ((.int .i64 1, .cells false gl),[Be d,DP d]):=⟨by kernel_rfl,by kernel_rfl⟩
theorem fL(d n:Int)(own:Bool)(L:List Value)(k:Nat)(p:Int):Rn (NS own L [.int .u8 183, .int .u8 d, .int .u8 0, .int .i16 0, .int .i32 n] [] k p) ((.tuple ⟨[.agg ⟨[.int .i64 1, .int .i64 11, .int .i64 0, .bool true, .bool false]⟩, .int .i64 0]⟩, .cells false gl, .cells own L),Hl p k::JD L p [.int .u8 183, .int .u8 d, .int .u8 0, .int .i16 0, .int .i32 n]:: [Be d,DP d]):=⟨by kernel_rfl,by kernel_rfl⟩
theorem fM(d n:Int):Rn (GW 37 [.int .u8 87, .int .u8 d, .int .u8 0, .int .i16 0, .int .i32 n]) ((.tuple ⟨[.agg ⟨[.int .i64 1, .int .i64 5, .int .i64 0, .bool true, .bool false]⟩, .int .i64 0]⟩, .cells false gl),[Be d,DP d]):=⟨by kernel_rfl,by kernel_rfl⟩
theorem fN(d n:Int):Rn (GW 38 [.int .u8 87, .int .u8 d, .int .u8 0, .int .i16 0, .int .i32 n]) ((.int .i64 1, .cells false gl),[Be d,DP d]):=⟨by kernel_rfl,by kernel_rfl⟩
theorem fO(d n:Int)(own:Bool)(L:List Value)(k:Nat)(p:Int):Rn (NS own L [.int .u8 87, .int .u8 d, .int .u8 0, .int .i16 0, .int .i32 n] [] k p) ((.tuple ⟨[.agg ⟨[.int .i64 1, .int .i64 5, .int .i64 0, .bool true, .bool false]⟩, .int .i64 0]⟩, .cells false gl, .cells own L),Hl p k::JD L p [.int .u8 87, .int .u8 d, .int .u8 0, .int .i16 0, .int .i32 n]:: [Be d,DP d]):=⟨by kernel_rfl,by kernel_rfl⟩
theorem fP(d s:Int):Rn (GW 37 [.int .u8 191, .int .u8 d, .int .u8 s, .int .i16 0, .int .i32 0]) ((.tuple ⟨[.agg ⟨[.int .i64 1, .int .i64 11, .int .i64 0, .bool true, .bool true]⟩, .int .i64 0]⟩, .cells false gl),[Be d,DP d,Be s]):=⟨by kernel_rfl,by kernel_rfl⟩
theorem fQ(d s:Int):Rn (GW 38 [.int .u8 191, .int .u8 d, .int .u8 s, .int .i16 0, .int .i32 0]) ((.int .i64 1, .cells false gl),[Be d,DP d,Be s]):=⟨by kernel_rfl,by kernel_rfl⟩
theorem fR(d s:Int)(own:Bool)(L:List Value)(k:Nat)(p:Int):Rn (NS own L [.int .u8 191, .int .u8 d, .int .u8 s, .int .i16 0, .int .i32 0] [] k p) ((.tuple ⟨[.agg ⟨[.int .i64 1, .int .i64 11, .int .i64 0, .bool true, .bool true]⟩, .int .i64 0]⟩, .cells false gl, .cells own L),Hl p k::JD L p [.int .u8 191, .int .u8 d, .int .u8 s, .int .i16 0, .int .i32 0]:: [Be d,DP d,Be s]):=⟨by kernel_rfl,by kernel_rfl⟩
theorem fS(d s:Int):Rn (GW 37 [.int .u8 95, .int .u8 d, .int .u8 s, .int .i16 0, .int .i32 0]) ((.tuple ⟨[.agg ⟨[.int .i64 1, .int .i64 5, .int .i64 0, .bool true, .bool true]⟩, .int .i64 0]⟩, .cells false gl),[Be d,DP d,Be s]):=⟨by kernel_rfl,by kernel_rfl⟩
theorem fT(d s:Int):Rn (GW 38 [.int .u8 95, .int .u8 d, .int .u8 s, .int .i16 0, .int .i32 0]) ((.int .i64 1, .cells false gl),[Be d,DP d,Be s]):=⟨by kernel_rfl,by kernel_rfl⟩
theorem fU(d s:Int)(own:Bool)(L:List Value)(k:Nat)(p:Int):Rn (NS own L [.int .u8 95, .int .u8 d, .int .u8 s, .int .i16 0, .int .i32 0] [] k p) ((.tuple ⟨[.agg ⟨[.int .i64 1, .int .i64 5, .int .i64 0, .bool true, .bool true]⟩, .int .i64 0]⟩, .cells false gl, .cells own L),Hl p k::JD L p [.int .u8 95, .int .u8 d, .int .u8 s, .int .i16 0, .int .i32 0]:: [Be d,DP d,Be s]):=⟨by kernel_rfl,by kernel_rfl⟩
theorem l9(n:Int):Rn (GW 37 [.int .u8 180, .int .u8 0, .int .u8 0, .int .i16 0, .int .i32 n]) ((.tuple ⟨[.agg ⟨[.int .i64 1, .int .i64 11, .int .i64 0, .bool false, .bool false]⟩, .int .i64 0]⟩, .cells false gl),[Be 0,DP 0]):=⟨by kernel_rfl,by kernel_rfl⟩
theorem lg(n:Int):Rn (GW 38 [.int .u8 180, .int .u8 0, .int .u8 0, .int .i16 0, .int .i32 n]) ((.int .i64 1, .cells false gl),[Be 0,DP 0]):=⟨by kernel_rfl,by kernel_rfl⟩
theorem lh(n:Int)(own:Bool)(L:List Value)(k:Nat)(p:Int):Rn (NS own L [.int .u8 180, .int .u8 0, .int .u8 0, .int .i16 0, .int .i32 n] [] k p) ((.tuple ⟨[.agg ⟨[.int .i64 1, .int .i64 11, .int .i64 0, .bool false, .bool false]⟩, .int .i64 0]⟩, .cells false gl, .cells own L),Hl p k::JD L p [.int .u8 180, .int .u8 0, .int .u8 0, .int .i16 0, .int .i32 n]:: [Be 0,DP 0]):=⟨by kernel_rfl,by kernel_rfl⟩
theorem fV:Rn (GW 37 [.int .u8 149, .int .u8 0, .int .u8 0, .int .i16 0, .int .i32 0]) ((.tuple ⟨[.agg ⟨[.int .i64 9, .int .i64 0, .int .i64 0, .bool false, .bool false]⟩, .int .i64 0]⟩, .cells false gl),[]):=⟨by kernel_rfl,by kernel_rfl⟩
theorem fW:Rn (GW 38 [.int .u8 149, .int .u8 0, .int .u8 0, .int .i16 0, .int .i32 0]) ((.int .i64 1, .cells false gl),[]):=⟨by kernel_rfl,by kernel_rfl⟩
theorem fX(own:Bool)(L:List Value)(k:Nat)(p:Int):Rn (NS own L [.int .u8 149, .int .u8 0, .int .u8 0, .int .i16 0, .int .i32 0] [] k p) ((.tuple ⟨[.agg ⟨[.int .i64 9, .int .i64 0, .int .i64 0, .bool false, .bool false]⟩, .int .i64 0]⟩, .cells false gl, .cells own L),Hl p k::JD L p [.int .u8 149, .int .u8 0, .int .u8 0, .int .i16 0, .int .i32 0]:: []):=⟨by kernel_rfl,by kernel_rfl⟩
theorem aO(d s o:Int):Rn (GW 37 [.int .u8 113, .int .u8 d, .int .u8 s, .int .i16 o, .int .i32 0]) ((.tuple ⟨[.agg ⟨[.int .i64 3, .int .i64 0, .int .i64 1, .bool false, .bool false]⟩, .int .i64 0]⟩, .cells false gl),[Be d,DP d,Be s]):=⟨by kernel_rfl,by kernel_rfl⟩
theorem aP(d s o:Int):Rn (GW 38 [.int .u8 113, .int .u8 d, .int .u8 s, .int .i16 o, .int .i32 0]) ((.int .i64 1, .cells false gl),[Be d,DP d,Be s]):=⟨by kernel_rfl,by kernel_rfl⟩
theorem aQ(d s o:Int)(own:Bool)(L:List Value)(k:Nat)(p:Int):Rn (NS own L [.int .u8 113, .int .u8 d, .int .u8 s, .int .i16 o, .int .i32 0] [] k p) ((.tuple ⟨[.agg ⟨[.int .i64 3, .int .i64 0, .int .i64 1, .bool false, .bool false]⟩, .int .i64 0]⟩, .cells false gl, .cells own L),Hl p k::JD L p [.int .u8 113, .int .u8 d, .int .u8 s, .int .i16 o, .int .i32 0]:: [Be d,DP d,Be s]):=⟨by kernel_rfl,by kernel_rfl⟩
theorem aR(d s o:Int):Rn (GW 37 [.int .u8 105, .int .u8 d, .int .u8 s, .int .i16 o, .int .i32 0]) ((.tuple ⟨[.agg ⟨[.int .i64 3, .int .i64 0, .int .i64 2, .bool false, .bool false]⟩, .int .i64 0]⟩, .cells false gl),[Be d,DP d,Be s]):=⟨by kernel_rfl,by kernel_rfl⟩
theorem aT(d s o:Int):Rn (GW 38 [.int .u8 105, .int .u8 d, .int .u8 s, .int .i16 o, .int .i32 0]) ((.int .i64 1, .cells false gl),[Be d,DP d,Be s]):=⟨by kernel_rfl,by kernel_rfl⟩
theorem aU(d s o:Int)(own:Bool)(L:List Value)(k:Nat)(p:Int):Rn (NS own L [.int .u8 105, .int .u8 d, .int .u8 s, .int .i16 o, .int .i32 0] [] k p) ((.tuple ⟨[.agg ⟨[.int .i64 3, .int .i64 0, .int .i64 2, .bool false, .bool false]⟩, .int .i64 0]⟩, .cells false gl, .cells own L),Hl p k::JD L p [.int .u8 105, .int .u8 d, .int .u8 s, .int .i16 o, .int .i32 0]:: [Be d,DP d,Be s]):=⟨by kernel_rfl,by kernel_rfl⟩
theorem aV(d s o:Int):Rn (GW 37 [.int .u8 97, .int .u8 d, .int .u8 s, .int .i16 o, .int .i32 0]) ((.tuple ⟨[.agg ⟨[.int .i64 3, .int .i64 0, .int .i64 4, .bool false, .bool false]⟩, .int .i64 0]⟩, .cells false gl),[Be d,DP d,Be s]):=⟨by kernel_rfl,by kernel_rfl⟩
theorem aW(d s o:Int):Rn (GW 38 [.int .u8 97, .int .u8 d, .int .u8 s, .int .i16 o, .int .i32 0]) ((.int .i64 1, .cells false gl),[Be d,DP d,Be s]):=⟨by kernel_rfl,by kernel_rfl⟩
theorem aX(d s o:Int)(own:Bool)(L:List Value)(k:Nat)(p:Int):Rn (NS own L [.int .u8 97, .int .u8 d, .int .u8 s, .int .i16 o, .int .i32 0] [] k p) ((.tuple ⟨[.agg ⟨[.int .i64 3, .int .i64 0, .int .i64 4, .bool false, .bool false]⟩, .int .i64 0]⟩, .cells false gl, .cells own L),Hl p k::JD L p [.int .u8 97, .int .u8 d, .int .u8 s, .int .i16 o, .int .i32 0]:: [Be d,DP d,Be s]):=⟨by kernel_rfl,by kernel_rfl⟩
theorem aY(d s o:Int):Rn (GW 37 [.int .u8 121, .int .u8 d, .int .u8 s, .int .i16 o, .int .i32 0]) ((.tuple ⟨[.agg ⟨[.int .i64 3, .int .i64 0, .int .i64 8, .bool false, .bool false]⟩, .int .i64 0]⟩, .cells false gl),[Be d,DP d,Be s]):=⟨by kernel_rfl,by kernel_rfl⟩
theorem aZ(d s o:Int):Rn (GW 38 [.int .u8 121, .int .u8 d, .int .u8 s, .int .i16 o, .int .i32 0]) ((.int .i64 1, .cells false gl),[Be d,DP d,Be s]):=⟨by kernel_rfl,by kernel_rfl⟩
theorem a7(d s o:Int)(own:Bool)(L:List Value)(k:Nat)(p:Int):Rn (NS own L [.int .u8 121, .int .u8 d, .int .u8 s, .int .i16 o, .int .i32 0] [] k p) ((.tuple ⟨[.agg ⟨[.int .i64 3, .int .i64 0, .int .i64 8, .bool false, .bool false]⟩, .int .i64 0]⟩, .cells false gl, .cells own L),Hl p k::JD L p [.int .u8 121, .int .u8 d, .int .u8 s, .int .i16 o, .int .i32 0]:: [Be d,DP d,Be s]):=⟨by kernel_rfl,by kernel_rfl⟩
theorem ab:Rn (GW 37 [.int .u8 215, .int .u8 2, .int .u8 0, .int .i16 0, .int .i32 16]) ((.tuple ⟨[.agg ⟨[.int .i64 2, .int .i64 0, .int .i64 2, .bool false, .bool false]⟩, .int .i64 0]⟩, .cells false gl),[Be 2,DP 2]):=⟨by kernel_rfl,by kernel_rfl⟩
theorem ae:Rn (GW 38 [.int .u8 215, .int .u8 2, .int .u8 0, .int .i16 0, .int .i32 16]) ((.int .i64 1, .cells false gl),[Be 2,DP 2]):=⟨by kernel_rfl,by kernel_rfl⟩
theorem af(own:Bool)(L:List Value)(k:Nat)(p:Int):Rn (NS own L [.int .u8 215, .int .u8 2, .int .u8 0, .int .i16 0, .int .i32 16] [] k p) ((.tuple ⟨[.agg ⟨[.int .i64 2, .int .i64 0, .int .i64 2, .bool false, .bool false]⟩, .int .i64 0]⟩, .cells false gl, .cells own L),Hl p k::JD L p [.int .u8 215, .int .u8 2, .int .u8 0, .int .i16 0, .int .i32 16]:: [Be 2,DP 2]):=⟨by kernel_rfl,by kernel_rfl⟩
theorem ah:Rn (GW 37 [.int .u8 215, .int .u8 2, .int .u8 0, .int .i16 0, .int .i32 32]) ((.tuple ⟨[.agg ⟨[.int .i64 2, .int .i64 0, .int .i64 4, .bool false, .bool false]⟩, .int .i64 0]⟩, .cells false gl),[Be 2,DP 2]):=⟨by kernel_rfl,by kernel_rfl⟩
theorem ai:Rn (GW 38 [.int .u8 215, .int .u8 2, .int .u8 0, .int .i16 0, .int .i32 32]) ((.int .i64 1, .cells false gl),[Be 2,DP 2]):=⟨by kernel_rfl,by kernel_rfl⟩
theorem aj(own:Bool)(L:List Value)(k:Nat)(p:Int):Rn (NS own L [.int .u8 215, .int .u8 2, .int .u8 0, .int .i16 0, .int .i32 32] [] k p) ((.tuple ⟨[.agg ⟨[.int .i64 2, .int .i64 0, .int .i64 4, .bool false, .bool false]⟩, .int .i64 0]⟩, .cells false gl, .cells own L),Hl p k::JD L p [.int .u8 215, .int .u8 2, .int .u8 0, .int .i16 0, .int .i32 32]:: [Be 2,DP 2]):=⟨by kernel_rfl,by kernel_rfl⟩
theorem ak:Rn (GW 37 [.int .u8 215, .int .u8 2, .int .u8 0, .int .i16 0, .int .i32 64]) ((.tuple ⟨[.agg ⟨[.int .i64 2, .int .i64 0, .int .i64 8, .bool false, .bool false]⟩, .int .i64 0]⟩, .cells false gl),[Be 2,DP 2]):=⟨by kernel_rfl,by kernel_rfl⟩
theorem ao:Rn (GW 38 [.int .u8 215, .int .u8 2, .int .u8 0, .int .i16 0, .int .i32 64]) ((.int .i64 1, .cells false gl),[Be 2,DP 2]):=⟨by kernel_rfl,by kernel_rfl⟩
theorem aq(own:Bool)(L:List Value)(k:Nat)(p:Int):Rn (NS own L [.int .u8 215, .int .u8 2, .int .u8 0, .int .i16 0, .int .i32 64] [] k p) ((.tuple ⟨[.agg ⟨[.int .i64 2, .int .i64 0, .int .i64 8, .bool false, .bool false]⟩, .int .i64 0]⟩, .cells false gl, .cells own L),Hl p k::JD L p [.int .u8 215, .int .u8 2, .int .u8 0, .int .i16 0, .int .i32 64]:: [Be 2,DP 2]):=⟨by kernel_rfl,by kernel_rfl⟩
theorem fY(d o n:Int):Rn (GW 37 [.int .u8 53, .int .u8 d, .int .u8 0, .int .i16 o, .int .i32 n]) ((.tuple ⟨[.agg ⟨[.int .i64 6, .int .i64 3, .int .i64 0, .bool true, .bool false]⟩, .int .i64 0]⟩, .cells false gl),[Be d]):=⟨by kernel_rfl,by kernel_rfl⟩
theorem fZ(d o n:Int):Rn (GW 38 [.int .u8 53, .int .u8 d, .int .u8 0, .int .i16 o, .int .i32 n]) ((.int .i64 1, .cells false gl),[Be d]):=⟨by kernel_rfl,by kernel_rfl⟩
theorem fa(d o n:Int)(own:Bool)(L:List Value)(k:Nat)(p:Int):Rn (NS own L [.int .u8 53, .int .u8 d, .int .u8 0, .int .i16 o, .int .i32 n] [] k p) ((.tuple ⟨[.agg ⟨[.int .i64 6, .int .i64 3, .int .i64 0, .bool true, .bool false]⟩, .int .i64 0]⟩, .cells false gl, .cells own L),Hl p k::JD L p [.int .u8 53, .int .u8 d, .int .u8 0, .int .i16 o, .int .i32 n]:: [Be d]):=⟨by kernel_rfl,by kernel_rfl⟩
theorem fb(d o n:Int):Rn (GW 37 [.int .u8 85, .int .u8 d, .int .u8 0, .int .i16 o, .int .i32 n]) ((.tuple ⟨[.agg ⟨[.int .i64 6, .int .i64 5, .int .i64 0, .bool true, .bool false]⟩, .int .i64 0]⟩, .cells false gl),[Be d]):=⟨by kernel_rfl,by kernel_rfl⟩
theorem fc(d o n:Int):Rn (GW 38 [.int .u8 85, .int .u8 d, .int .u8 0, .int .i16 o, .int .i32 n]) ((.int .i64 1, .cells false gl),[Be d]):=⟨by kernel_rfl,by kernel_rfl⟩
theorem fe(d o n:Int)(own:Bool)(L:List Value)(k:Nat)(p:Int):Rn (NS own L [.int .u8 85, .int .u8 d, .int .u8 0, .int .i16 o, .int .i32 n] [] k p) ((.tuple ⟨[.agg ⟨[.int .i64 6, .int .i64 5, .int .i64 0, .bool true, .bool false]⟩, .int .i64 0]⟩, .cells false gl, .cells own L),Hl p k::JD L p [.int .u8 85, .int .u8 d, .int .u8 0, .int .i16 o, .int .i32 n]:: [Be d]):=⟨by kernel_rfl,by kernel_rfl⟩
theorem ar(d o n:Int):Rn (GW 37 [.int .u8 165, .int .u8 d, .int .u8 0, .int .i16 o, .int .i32 n]) ((.tuple ⟨[.agg ⟨[.int .i64 6, .int .i64 10, .int .i64 0, .bool true, .bool false]⟩, .int .i64 0]⟩, .cells false gl),[Be d]):=⟨by kernel_rfl,by kernel_rfl⟩
theorem au(d o n:Int):Rn (GW 38 [.int .u8 165, .int .u8 d, .int .u8 0, .int .i16 o, .int .i32 n]) ((.int .i64 1, .cells false gl),[Be d]):=⟨by kernel_rfl,by kernel_rfl⟩
theorem aw(d o n:Int)(own:Bool)(L:List Value)(k:Nat)(p:Int):Rn (NS own L [.int .u8 165, .int .u8 d, .int .u8 0, .int .i16 o, .int .i32 n] [] k p) ((.tuple ⟨[.agg ⟨[.int .i64 6, .int .i64 10, .int .i64 0, .bool true, .bool false]⟩, .int .i64 0]⟩, .cells false gl, .cells own L),Hl p k::JD L p [.int .u8 165, .int .u8 d, .int .u8 0, .int .i16 o, .int .i32 n]:: [Be d]):=⟨by kernel_rfl,by kernel_rfl⟩
theorem ff(d o n:Int):Rn (GW 37 [.int .u8 37, .int .u8 d, .int .u8 0, .int .i16 o, .int .i32 n]) ((.tuple ⟨[.agg ⟨[.int .i64 6, .int .i64 2, .int .i64 0, .bool true, .bool false]⟩, .int .i64 0]⟩, .cells false gl),[Be d]):=⟨by kernel_rfl,by kernel_rfl⟩
theorem fg(d o n:Int):Rn (GW 38 [.int .u8 37, .int .u8 d, .int .u8 0, .int .i16 o, .int .i32 n]) ((.int .i64 1, .cells false gl),[Be d]):=⟨by kernel_rfl,by kernel_rfl⟩
theorem fh(d o n:Int)(own:Bool)(L:List Value)(k:Nat)(p:Int):Rn (NS own L [.int .u8 37, .int .u8 d, .int .u8 0, .int .i16 o, .int .i32 n] [] k p) ((.tuple ⟨[.agg ⟨[.int .i64 6, .int .i64 2, .int .i64 0, .bool true, .bool false]⟩, .int .i64 0]⟩, .cells false gl, .cells own L),Hl p k::JD L p [.int .u8 37, .int .u8 d, .int .u8 0, .int .i16 o, .int .i32 n]:: [Be d]):=⟨by kernel_rfl,by kernel_rfl⟩
theorem XI(o:Int):Rn (GW 37 [.int .u8 173, .int .u8 2, .int .u8 3, .int .i16 o, .int .i32 0]) ((.tuple ⟨[.agg ⟨[.int .i64 6, .int .i64 10, .int .i64 0, .bool true, .bool true]⟩, .int .i64 0]⟩, .cells false gl),[Be 2,Be 3]):=⟨by kernel_rfl,by kernel_rfl⟩
theorem XJ(o:Int):Rn (GW 38 [.int .u8 173, .int .u8 2, .int .u8 3, .int .i16 o, .int .i32 0]) ((.int .i64 1, .cells false gl),[Be 2,Be 3]):=⟨by kernel_rfl,by kernel_rfl⟩
theorem XK(o:Int)(own:Bool)(L:List Value)(k:Nat)(p:Int):Rn (NS own L [.int .u8 173, .int .u8 2, .int .u8 3, .int .i16 o, .int .i32 0] [] k p) ((.tuple ⟨[.agg ⟨[.int .i64 6, .int .i64 10, .int .i64 0, .bool true, .bool true]⟩, .int .i64 0]⟩, .cells false gl, .cells own L),Hl p k::JD L p [.int .u8 173, .int .u8 2, .int .u8 3, .int .i16 o, .int .i32 0]:: [Be 2,Be 3]):=⟨by kernel_rfl,by kernel_rfl⟩
theorem ax(o:Int):Rn (GW 37 [.int .u8 45, .int .u8 2, .int .u8 3, .int .i16 o, .int .i32 0]) ((.tuple ⟨[.agg ⟨[.int .i64 6, .int .i64 2, .int .i64 0, .bool true, .bool true]⟩, .int .i64 0]⟩, .cells false gl),[Be 2,Be 3]):=⟨by kernel_rfl,by kernel_rfl⟩
theorem ay(o:Int):Rn (GW 38 [.int .u8 45, .int .u8 2, .int .u8 3, .int .i16 o, .int .i32 0]) ((.int .i64 1, .cells false gl),[Be 2,Be 3]):=⟨by kernel_rfl,by kernel_rfl⟩
theorem az(o:Int)(own:Bool)(L:List Value)(k:Nat)(p:Int):Rn (NS own L [.int .u8 45, .int .u8 2, .int .u8 3, .int .i16 o, .int .i32 0] [] k p) ((.tuple ⟨[.agg ⟨[.int .i64 6, .int .i64 2, .int .i64 0, .bool true, .bool true]⟩, .int .i64 0]⟩, .cells false gl, .cells own L),Hl p k::JD L p [.int .u8 45, .int .u8 2, .int .u8 3, .int .i16 o, .int .i32 0]:: [Be 2,Be 3]):=⟨by kernel_rfl,by kernel_rfl⟩
theorem fi(o:Int):Rn (GW 37 [.int .u8 5, .int .u8 0, .int .u8 0, .int .i16 o, .int .i32 0]) ((.tuple ⟨[.agg ⟨[.int .i64 7, .int .i64 0, .int .i64 0, .bool false, .bool false]⟩, .int .i64 0]⟩, .cells false gl),[]):=⟨by kernel_rfl,by kernel_rfl⟩
theorem fj(o:Int):Rn (GW 38 [.int .u8 5, .int .u8 0, .int .u8 0, .int .i16 o, .int .i32 0]) ((.int .i64 1, .cells false gl),[]):=⟨by kernel_rfl,by kernel_rfl⟩
theorem fk(o:Int)(own:Bool)(L:List Value)(k:Nat)(p:Int):Rn (NS own L [.int .u8 5, .int .u8 0, .int .u8 0, .int .i16 o, .int .i32 0] [] k p) ((.tuple ⟨[.agg ⟨[.int .i64 7, .int .i64 0, .int .i64 0, .bool false, .bool false]⟩, .int .i64 0]⟩, .cells false gl, .cells own L),Hl p k::JD L p [.int .u8 5, .int .u8 0, .int .u8 0, .int .i16 o, .int .i32 0]:: []):=⟨by kernel_rfl,by kernel_rfl⟩
theorem bA(n:Int):Rn (GW 37 [.int .u8 24, .int .u8 3, .int .u8 0, .int .i16 0, .int .i32 n]) ((.tuple ⟨[.agg ⟨[.int .i64 10, .int .i64 0, .int .i64 0, .bool false, .bool false]⟩, .int .i64 0]⟩, .cells false gl),[Be 3,DP 3]):=⟨by kernel_rfl,by kernel_rfl⟩
theorem bB(n:Int):Rn (GW 38 [.int .u8 24, .int .u8 3, .int .u8 0, .int .i16 0, .int .i32 n]) ((.int .i64 2, .cells false gl),[Be 3,DP 3]):=⟨by kernel_rfl,by kernel_rfl⟩
theorem bC(n:Int)(h:Int)(own:Bool)(L:List Value)(k:Nat)(p:Int):Rn (NS own L [.int .u8 24, .int .u8 3, .int .u8 0, .int .i16 0, .int .i32 n] [.int .u8 0, .int .u8 0, .int .u8 0, .int .i16 0, .int .i32 h] k p) ((.tuple ⟨[.agg ⟨[.int .i64 10, .int .i64 0, .int .i64 0, .bool false, .bool false]⟩, .int .i64 0]⟩, .cells false gl, .cells own L),Hl p k::JD L p [.int .u8 24, .int .u8 3, .int .u8 0, .int .i16 0, .int .i32 n]::([Be 3,DP 3]++ [oz p k,Hl (IntKind.wrap .i64 (Int.add p 1)) k,JD L (IntKind.wrap .i64 (Int.add p 1)) [.int .u8 0, .int .u8 0, .int .u8 0, .int .i16 0, .int .i32 h]])):=⟨by kernel_rfl,by kernel_rfl⟩
end
end Go.Proofs.YtgjflcgmieiafaaDoor
namespace Go.DI
namespace Kit
noncomputable section
def Fs:Value->Bool
 | .int _ _=>true
 | .bool _=>true
 |_=>false
def Md:Value->Bool
 | .int _ _=>true
 | .bool _=>true
 | .agg ⟨l⟩=>l.all Fs
 |_=>false
def KU:Value->Bool
 | .int _ _=>true
 | .bool _=>true
 | .agg ⟨l⟩=>l.all Fs
 | .tuple ⟨l⟩=>l.all Md
 |_=>false
theorem Qu{v:Value}(h:Fs v=true):Free v:=by cases v<;>simp[Fs]at h<;>first|exact Cq _ _|exact D4 _
theorem IH{l:List Value}(h:l.all Fs=true):Free (.agg ⟨l⟩):=λι κ v' g=>by
 cases g with
 |agg _ a' hs hr=>
  refine .agg _ _ hs λi x y hx hy=>Qu (List.all_eq_true.1 h x ?_) ι κ y (hr i x y hx hy);exact Array.mem_toList_iff.2 (Array.mem_of_getElem? hx)
theorem Qv{v:Value}(h:Md v=true):Free v:=by
 cases v<;>simp only[Md]at h<;>try (cases h;done)
 ·exact D4 _
 ·exact Cq _ _
 ·exact IH h
theorem Qw{v:Value}(h:KU v=true):Free v:=by
 cases v<;>simp only[KU]at h<;>try (cases h;done)
 ·exact D4 _
 ·exact Cq _ _
 ·exact IH h
 ·exact Ej λx hx=>Qv (List.all_eq_true.1 h x hx)
section
variable{P:Program}{gl:List Value}
open Classical in
def IZ(gl:List Value)(F:FuncId)(R:FuncId->List Value->Mem->Option (Value×Mem))(op:List Value->Option (List Value×List Nat)):DT:=λf a M=>if f=F then(match op a with
 |some (sa,bs)=>if Fits gl bs (bs.map M.get) M/\Gf (DQ bs M) (λi=>Nat.blt i (1+bs.length)) sa a then
   (match R F sa (mS gl (bs.map M.get))with
    |some (v,m)=>if KU v=true/\m.get 0= .cells false gl/\∀i s,(bs.map M.get)[i]?=some s->m.get (i+1)=s then some (v,M)else none
    |none=>none)else none
 |none=>none)else none
variable{F:FuncId}{R:FuncId->List Value->Mem->Option (Value×Mem)}{op:List Value->Option (List Value×List Nat)}
theorem Fg{f:FuncId}(h:f≠F)(a:List Value)(M:Mem):IZ gl F R op f a M=none:=if_neg h
theorem Ir(hgl:∀x∈gl,Free x){B0:Nat}(hR:CT P B0 1 R)(hRg:Bc R){f:FuncId}{a:List Value}{M M':Mem}{v:Value}(h:IZ gl F R op f a M=some (v,M')):f=F/\Dr P B0 1 f a M v M'/\Dx M M'/\∃sa m m',R F sa m=some (v,m'):=by
 unfold IZ at h
 split at h
 case isFalse=>cases h
 rename_i e
 subst e
 split at h
 case h_2=>cases h
 rename_i sa bs hop
 split at h
 case isFalse=>cases h
 rename_i hF
 split at h
 case h_2=>cases h
 rename_i v0 m hr
 split at h
 case isFalse=>cases h
 rename_i hk
 simp only[Option.some.injEq,Prod.mk.injEq]at h
 obtain⟨rfl,rfl⟩:=h
 obtain⟨h1,h2⟩:=MK hgl hR hRg hF.1 hr hF.2 ((Qw hk.1).embA _ _) hk.2.1 hk.2.2
 exact⟨rfl,h1,h2,sa,_,m,hr⟩
theorem II(hgl:∀x∈gl,Free x)(hR:∀B0,CT P B0 1 R)(hRg:Bc R):Bc (IZ gl F R op):=λf a M v M' h=>(Ir hgl (hR 0) hRg h).2.2.1
theorem Me(hgl:∀x∈gl,Free x)(hR:∀B0,CT P B0 1 R)(hRg:Bc R)(B0:Nat):CT P B0 1 (IZ gl F R op):=
 ⟨λf a M v M' h=>(II hgl hR hRg f a M v M' h).size,λf a M v M' h=>(Ir hgl (hR B0) hRg h).2.1,λf a M v M' h=>by
  obtain⟨rfl,_,_,sa,m,m',hr⟩:=Ir hgl (hR B0) hRg h;exact(hR B0).body _ _ _ _ _ hr⟩
theorem Mf{a sa:List Value}{bs:List Nat}{M m:Mem}{v:Value}(hop:op a=some (sa,bs))(hF:Fits gl bs (bs.map M.get) M)(hs:Gf (DQ bs M) (λi=>Nat.blt i (1+bs.length)) sa a)
  (hr:R F sa (mS gl (bs.map M.get))=some (v,m)) (hv:KU v=true) (h0:m.get 0= .cells false gl) (hm:∀i s,(bs.map M.get)[i]?=some s->m.get (i+1)=s):IZ gl F R op F a M=some (v,M):=by
 unfold IZ
 rw[if_pos rfl,hop]
 simp only
 rw[if_pos ⟨hF,hs⟩,hr]
 exact if_pos ⟨hv,h0,hm⟩
def Mg(o o':DT):DT:=λf a M=>match o f a M with
 |some r=>some r
 |none=>o' f a M
theorem Mh{o o':DT}(h:Bc o)(h':Bc o'):Bc (Mg o o'):=λf a M v M' g=>by
 unfold Mg at g
 cases hq:o f a M with
 |some r=>rw[hq]at g;cases g;exact h _ _ _ _ _ hq
 |none=>rw[hq]at g;exact h' _ _ _ _ _ g
theorem PW{o o':DT}{B0:Nat}(h:CT P B0 1 o)(h':CT P B0 1 o'):CT P B0 1 (Mg o o'):=by
 refine⟨λf a M v M' g=>?_,λf a M v M' g=>?_,λf a M v M' g=>?_⟩
 all_goals
  unfold Mg at g;cases hq:o f a M with
  |some r=>rw[hq]at g;cases g;first|exact h.size _ _ _ _ _ hq|exact h.ok _ _ _ _ _ hq|exact h.body _ _ _ _ _ hq
  |none=>rw[hq]at g;first|exact h'.size _ _ _ _ _ g|exact h'.ok _ _ _ _ _ g|exact h'.body _ _ _ _ _ g
theorem PX{o o':DT}{f:FuncId}{a:List Value}{M:Mem}{r:Value×Mem}(h:o f a M=some r):Mg o o' f a M=some r:=by unfold Mg;rw[h]
theorem Is{o o':DT}{f:FuncId}{a:List Value}{M:Mem}(h:o f a M=none):Mg o o' f a M=o' f a M:=by unfold Mg;rw[h]
def Mi:DT:=λ_ _ _=>none
theorem Yk(B0:Nat):CT P B0 1 Mi:=⟨λ_ _ _ _ _ h=>(by cases h),λ_ _ _ _ _ h=>(by cases h),λ_ _ _ _ _ h=>(by cases h)⟩
theorem OG:Bc Mi:=λ_ _ _ _ _ h=>by cases h
end
end
end Kit
end Go.DI
namespace Go.Proofs.YtgjflcgmieiafaaDoor
open Go Go.DI Go.DI.Kit Go.Proofs Go.Cmp
noncomputable section
noncomputable abbrev Rw:FQ:=Bw Tryd.prog kp 1 Mi 20
theorem iE{x y:List Value}(f:FuncId)(v:Value)(args:List Value)(m:Mem)(hc:(hO x y).call f=some v)(hs:(hO x y).says f args m v):Mi f args m=some (v,(hO x y).eff f m):=by cases hc
theorem bD{x y:List Value}(f:FuncId)(hc:(hO x y).call f=none)(a:List Value)(m:Mem):Mi f a m=none:=rfl
theorem B8{f:FuncId}{x:List Value}{v:Value}{qs:List Prop}(h:Rn (GW f x) ((v, .cells false gl),qs))(hq:∀q∈qs,q):∃m,Rw f [.agg ⟨x⟩] (mS gl [])=some (v,m)/\m.get 0= .cells false gl:=by
 obtain⟨v',m,a1,a2⟩:=H.callO_H (H:=hO [] []) (o:=Mi) (P:=Tryd.prog) (K:=kp) (G:=1) (k:=20) (f:=f) (args:= [.agg ⟨x⟩]) (m:=mS gl []) (g:=λv m=>(v,m.get 0)) iE bD h.1 h.2 hq
 have e1:v'=v:=congrArg (λx=>x.1) a2
 have e2:m.get 0= .cells false gl:=congrArg (λx=>x.2) a2
 exact⟨m,by rw[←e1];exact a1,e2⟩
def OW(own:Bool)(L:List Value)(k:Nat)(p:Int)(w:List Value):Prop:=∃m,Rw 52 [E9 (AX 1 k), .int .i64 p] (mS gl [.cells own L])=some (.tuple ⟨[.agg ⟨w⟩, .int .i64 0]⟩,m)/\m.get 0= .cells false gl/\m.get 1= .cells own L
theorem DB{own:Bool}{L x y w:List Value}{k:Nat}{p:Int}{qs:List Prop}(h:Rn (NS own L x y k p) ((.tuple ⟨[.agg ⟨w⟩, .int .i64 0]⟩, .cells false gl, .cells own L),qs))(hq:∀q∈qs,q):OW own L k p w:=by
 obtain⟨v',m,a1,a2⟩:=H.callO_H (H:=hO x y) (o:=Mi) (P:=Tryd.prog) (K:=kp) (G:=1) (k:=20) (f:=52) (args:= [E9 (AX 1 k), .int .i64 p]) (m:=mS gl [.cells own L]) (g:=λv m=>(v,m.get 0,m.get 1)) iE bD h.1 h.2 hq
 have e1:v'=_:=congrArg (λx=>x.1) a2
 have e2:m.get 0=_:=congrArg (λx=>x.2.1) a2
 have e3:m.get 1=_:=congrArg (λx=>x.2.2) a2
 exact⟨m,a1.trans (by rw[e1]),e2,e3⟩
def OX(x:B1)(w:List Value):Prop:=∃m,Rw 37 [.agg ⟨AP x⟩] (mS gl [])=some (.tuple ⟨[.agg ⟨w⟩, .int .i64 0]⟩,m)/\m.get 0= .cells false gl
def Rh(x:B1)(n:Int):Prop:=∃m,Rw 38 [.agg ⟨AP x⟩] (mS gl [])=some (.int .i64 n,m)/\m.get 0= .cells false gl
structure Form(x:B1)(w:List Value):Prop where
 of:∃m,Rw 37 [.agg ⟨AP x⟩] (mS gl [])=some (.tuple ⟨[.agg ⟨w⟩, .int .i64 0]⟩,m)/\m.get 0= .cells false gl
 pl:∃m,Rw 38 [.agg ⟨AP x⟩] (mS gl [])=some (.int .i64 1,m)/\m.get 0= .cells false gl
 al:∀(own:Bool) (l:List B1) (p:Nat),l[p]?=some x->OW own (AD l) l.length (p:Int) w
theorem AB{p:Prop}{l:List Prop}(h:p)(hl:∀q∈l,q):∀q∈p::l,q:=λq hq=>by
 rcases List.mem_cons.1 hq with rfl|hq
 ·exact h
 ·exact hl q hq
theorem A8:∀q∈([]:List Prop),q:=λq hq=>by cases hq
theorem DG{d:Int}(h:0<=d)(h':d<=9):Bu d:=⟨h,h'⟩
theorem AO{d:Int}(h:Bu d):Be d:=by
 have:=h.2
 unfold Be
 simp[CC,CA,CN];omega
theorem BT{d:Int}(h:Bu d):DP d:=by
 have:=h.2
 unfold DP
 simp[CC,CA,CN];omega
theorem CX{l:List B1}{p:Nat}{x:B1}(h:l[p]?=some x):Hl (p:Int) l.length:=by
 have:=(List.getElem?_eq_some_iff.1 h).1
 exact⟨by omega,by omega⟩
theorem CY{l:List B1}{p:Nat}{x:B1}(h:l[p]?=some x):JD (AD l) (p:Int) (AP x):=(Dv h).2
theorem TL{p:Nat}(h:p<=1000000):IntKind.wrap .i64 (Int.add (p:Int) 1)=((p+1:Nat):Int):=Ca (by omega)
theorem VH{d n:Int}(hd:Bu d):Form (DE 11 d n) [.int .i64 1, .int .i64 11, .int .i64 0, .bool true, .bool false]:=by
 have e:AP (DE 11 d n)= [.int .u8 183, .int .u8 d, .int .u8 0, .int .i16 0, .int .i32 n]:=by kernel_rfl
 exact⟨by rw[e];exact B8 (fJ d n) (AB (AO hd) (AB (BT hd) A8)),by rw[e];exact B8 (fK d n) (AB (AO hd) (AB (BT hd) A8)),λown l p h=>DB (fL d n own (AD l) l.length (p:Int)) (AB (CX h) (AB (by rw[←e];exact CY h) (AB (AO hd) (AB (BT hd) A8))))⟩
theorem VI{d n:Int}(hd:Bu d):Form (DE 5 d n) [.int .i64 1, .int .i64 5, .int .i64 0, .bool true, .bool false]:=by
 have e:AP (DE 5 d n)= [.int .u8 87, .int .u8 d, .int .u8 0, .int .i16 0, .int .i32 n]:=by kernel_rfl
 exact⟨by rw[e];exact B8 (fM d n) (AB (AO hd) (AB (BT hd) A8)),by rw[e];exact B8 (fN d n) (AB (AO hd) (AB (BT hd) A8)),λown l p h=>DB (fO d n own (AD l) l.length (p:Int)) (AB (CX h) (AB (by rw[←e];exact CY h) (AB (AO hd) (AB (BT hd) A8))))⟩
theorem VJ{d s:Int}(hd:Bu d)(hs:Bu s):Form (Ba 11 d s) [.int .i64 1, .int .i64 11, .int .i64 0, .bool true, .bool true]:=by
 have e:AP (Ba 11 d s)= [.int .u8 191, .int .u8 d, .int .u8 s, .int .i16 0, .int .i32 0]:=by kernel_rfl
 exact⟨by rw[e];exact B8 (fP d s) (AB (AO hd) (AB (BT hd) (AB (AO hs) A8))),by rw[e];exact B8 (fQ d s) (AB (AO hd) (AB (BT hd) (AB (AO hs) A8))),λown l p h=>DB (fR d s own (AD l) l.length (p:Int)) (AB (CX h) (AB (by rw[←e];exact CY h) (AB (AO hd) (AB (BT hd) (AB (AO hs) A8)))))⟩
theorem VK{d s:Int}(hd:Bu d)(hs:Bu s):Form (Ba 5 d s) [.int .i64 1, .int .i64 5, .int .i64 0, .bool true, .bool true]:=by
 have e:AP (Ba 5 d s)= [.int .u8 95, .int .u8 d, .int .u8 s, .int .i16 0, .int .i32 0]:=by kernel_rfl
 exact⟨by rw[e];exact B8 (fS d s) (AB (AO hd) (AB (BT hd) (AB (AO hs) A8))),by rw[e];exact B8 (fT d s) (AB (AO hd) (AB (BT hd) (AB (AO hs) A8))),λown l p h=>DB (fU d s own (AD l) l.length (p:Int)) (AB (CX h) (AB (by rw[←e];exact CY h) (AB (AO hd) (AB (BT hd) (AB (AO hs) A8)))))⟩
theorem Zk{n:Int}:Form (G3 n) [.int .i64 1, .int .i64 11, .int .i64 0, .bool false, .bool false]:=by
 have e:AP (G3 n)= [.int .u8 180, .int .u8 0, .int .u8 0, .int .i16 0, .int .i32 n]:=by kernel_rfl
 exact⟨by rw[e];exact B8 (l9 n) (AB (AO (DG (by decide) (by decide))) (AB (BT (DG (by decide) (by decide))) A8)),by rw[e];exact B8 (lg n) (AB (AO (DG (by decide) (by decide))) (AB (BT (DG (by decide) (by decide))) A8)),λown l p h=>DB (lh n own (AD l) l.length (p:Int)) (AB (CX h) (AB (by rw[←e];exact CY h) (AB (AO (DG (by decide) (by decide))) (AB (BT (DG (by decide) (by decide))) A8))))⟩
theorem VL:Form (DC) [.int .i64 9, .int .i64 0, .int .i64 0, .bool false, .bool false]:=by
 have e:AP (DC)= [.int .u8 149, .int .u8 0, .int .u8 0, .int .i16 0, .int .i32 0]:=by kernel_rfl
 exact⟨by rw[e];exact B8 (fV) A8,by rw[e];exact B8 (fW) A8,λown l p h=>DB (fX own (AD l) l.length (p:Int)) (AB (CX h) (AB (by rw[←e];exact CY h) A8))⟩
theorem RZ{d s o:Int}(hd:Bu d)(hs:Bu s):Form (BG 1 d s o) [.int .i64 3, .int .i64 0, .int .i64 1, .bool false, .bool false]:=by
 have e:AP (BG 1 d s o)= [.int .u8 113, .int .u8 d, .int .u8 s, .int .i16 (GZ o), .int .i32 0]:=by kernel_rfl
 exact⟨by rw[e];exact B8 (aO d s (GZ o)) (AB (AO hd) (AB (BT hd) (AB (AO hs) A8))),by rw[e];exact B8 (aP d s (GZ o)) (AB (AO hd) (AB (BT hd) (AB (AO hs) A8))),λown l p h=>DB (aQ d s (GZ o) own (AD l) l.length (p:Int)) (AB (CX h) (AB (by rw[←e];exact CY h) (AB (AO hd) (AB (BT hd) (AB (AO hs) A8)))))⟩
theorem R1{d s o:Int}(hd:Bu d)(hs:Bu s):Form (BG 2 d s o) [.int .i64 3, .int .i64 0, .int .i64 2, .bool false, .bool false]:=by
 have e:AP (BG 2 d s o)= [.int .u8 105, .int .u8 d, .int .u8 s, .int .i16 (GZ o), .int .i32 0]:=by kernel_rfl
 exact⟨by rw[e];exact B8 (aR d s (GZ o)) (AB (AO hd) (AB (BT hd) (AB (AO hs) A8))),by rw[e];exact B8 (aT d s (GZ o)) (AB (AO hd) (AB (BT hd) (AB (AO hs) A8))),λown l p h=>DB (aU d s (GZ o) own (AD l) l.length (p:Int)) (AB (CX h) (AB (by rw[←e];exact CY h) (AB (AO hd) (AB (BT hd) (AB (AO hs) A8)))))⟩
theorem R2{d s o:Int}(hd:Bu d)(hs:Bu s):Form (BG 4 d s o) [.int .i64 3, .int .i64 0, .int .i64 4, .bool false, .bool false]:=by
 have e:AP (BG 4 d s o)= [.int .u8 97, .int .u8 d, .int .u8 s, .int .i16 (GZ o), .int .i32 0]:=by kernel_rfl
 exact⟨by rw[e];exact B8 (aV d s (GZ o)) (AB (AO hd) (AB (BT hd) (AB (AO hs) A8))),by rw[e];exact B8 (aW d s (GZ o)) (AB (AO hd) (AB (BT hd) (AB (AO hs) A8))),λown l p h=>DB (aX d s (GZ o) own (AD l) l.length (p:Int)) (AB (CX h) (AB (by rw[←e];exact CY h) (AB (AO hd) (AB (BT hd) (AB (AO hs) A8)))))⟩
theorem R4{d s o:Int}(hd:Bu d)(hs:Bu s):Form (BG 8 d s o) [.int .i64 3, .int .i64 0, .int .i64 8, .bool false, .bool false]:=by
 have e:AP (BG 8 d s o)= [.int .u8 121, .int .u8 d, .int .u8 s, .int .i16 (GZ o), .int .i32 0]:=by kernel_rfl
 exact⟨by rw[e];exact B8 (aY d s (GZ o)) (AB (AO hd) (AB (BT hd) (AB (AO hs) A8))),by rw[e];exact B8 (aZ d s (GZ o)) (AB (AO hd) (AB (BT hd) (AB (AO hs) A8))),λown l p h=>DB (a7 d s (GZ o) own (AD l) l.length (p:Int)) (AB (CX h) (AB (by rw[←e];exact CY h) (AB (AO hd) (AB (BT hd) (AB (AO hs) A8)))))⟩
theorem R6:Form (C0 2) [.int .i64 2, .int .i64 0, .int .i64 2, .bool false, .bool false]:=by
 have e:AP (C0 2)= [.int .u8 215, .int .u8 2, .int .u8 0, .int .i16 0, .int .i32 16]:=by kernel_rfl
 exact⟨by rw[e];exact B8 (ab) (AB (AO (DG (by decide) (by decide))) (AB (BT (DG (by decide) (by decide))) A8)),by rw[e];exact B8 (ae) (AB (AO (DG (by decide) (by decide))) (AB (BT (DG (by decide) (by decide))) A8)),λown l p h=>DB (af own (AD l) l.length (p:Int)) (AB (CX h) (AB (by rw[←e];exact CY h) (AB (AO (DG (by decide) (by decide))) (AB (BT (DG (by decide) (by decide))) A8))))⟩
theorem R7:Form (C0 4) [.int .i64 2, .int .i64 0, .int .i64 4, .bool false, .bool false]:=by
 have e:AP (C0 4)= [.int .u8 215, .int .u8 2, .int .u8 0, .int .i16 0, .int .i32 32]:=by kernel_rfl
 exact⟨by rw[e];exact B8 (ah) (AB (AO (DG (by decide) (by decide))) (AB (BT (DG (by decide) (by decide))) A8)),by rw[e];exact B8 (ai) (AB (AO (DG (by decide) (by decide))) (AB (BT (DG (by decide) (by decide))) A8)),λown l p h=>DB (aj own (AD l) l.length (p:Int)) (AB (CX h) (AB (by rw[←e];exact CY h) (AB (AO (DG (by decide) (by decide))) (AB (BT (DG (by decide) (by decide))) A8))))⟩
theorem R8:Form (C0 8) [.int .i64 2, .int .i64 0, .int .i64 8, .bool false, .bool false]:=by
 have e:AP (C0 8)= [.int .u8 215, .int .u8 2, .int .u8 0, .int .i16 0, .int .i32 64]:=by kernel_rfl
 exact⟨by rw[e];exact B8 (ak) (AB (AO (DG (by decide) (by decide))) (AB (BT (DG (by decide) (by decide))) A8)),by rw[e];exact B8 (ao) (AB (AO (DG (by decide) (by decide))) (AB (BT (DG (by decide) (by decide))) A8)),λown l p h=>DB (aq own (AD l) l.length (p:Int)) (AB (CX h) (AB (by rw[←e];exact CY h) (AB (AO (DG (by decide) (by decide))) (AB (BT (DG (by decide) (by decide))) A8))))⟩
theorem VM{d o n:Int}(hd:Bu d):Form (BE (Cw 3 d n) o) [.int .i64 6, .int .i64 3, .int .i64 0, .bool true, .bool false]:=by
 have e:AP (BE (Cw 3 d n) o)= [.int .u8 53, .int .u8 d, .int .u8 0, .int .i16 o, .int .i32 n]:=by kernel_rfl
 exact⟨by rw[e];exact B8 (fY d o n) (AB (AO hd) A8),by rw[e];exact B8 (fZ d o n) (AB (AO hd) A8),λown l p h=>DB (fa d o n own (AD l) l.length (p:Int)) (AB (CX h) (AB (by rw[←e];exact CY h) (AB (AO hd) A8)))⟩
theorem VN{d o n:Int}(hd:Bu d):Form (BE (Cw 5 d n) o) [.int .i64 6, .int .i64 5, .int .i64 0, .bool true, .bool false]:=by
 have e:AP (BE (Cw 5 d n) o)= [.int .u8 85, .int .u8 d, .int .u8 0, .int .i16 o, .int .i32 n]:=by kernel_rfl
 exact⟨by rw[e];exact B8 (fb d o n) (AB (AO hd) A8),by rw[e];exact B8 (fc d o n) (AB (AO hd) A8),λown l p h=>DB (fe d o n own (AD l) l.length (p:Int)) (AB (CX h) (AB (by rw[←e];exact CY h) (AB (AO hd) A8)))⟩
theorem R9{d o n:Int}(hd:Bu d):Form (BE (Cw 10 d n) o) [.int .i64 6, .int .i64 10, .int .i64 0, .bool true, .bool false]:=by
 have e:AP (BE (Cw 10 d n) o)= [.int .u8 165, .int .u8 d, .int .u8 0, .int .i16 o, .int .i32 n]:=by kernel_rfl
 exact⟨by rw[e];exact B8 (ar d o n) (AB (AO hd) A8),by rw[e];exact B8 (au d o n) (AB (AO hd) A8),λown l p h=>DB (aw d o n own (AD l) l.length (p:Int)) (AB (CX h) (AB (by rw[←e];exact CY h) (AB (AO hd) A8)))⟩
theorem VO{d o n:Int}(hd:Bu d):Form (BE (Cw 2 d n) o) [.int .i64 6, .int .i64 2, .int .i64 0, .bool true, .bool false]:=by
 have e:AP (BE (Cw 2 d n) o)= [.int .u8 37, .int .u8 d, .int .u8 0, .int .i16 o, .int .i32 n]:=by kernel_rfl
 exact⟨by rw[e];exact B8 (ff d o n) (AB (AO hd) A8),by rw[e];exact B8 (fg d o n) (AB (AO hd) A8),λown l p h=>DB (fh d o n own (AD l) l.length (p:Int)) (AB (CX h) (AB (by rw[←e];exact CY h) (AB (AO hd) A8)))⟩
theorem OV{o:Int}:Form (BE (Ec 10) o) [.int .i64 6, .int .i64 10, .int .i64 0, .bool true, .bool true]:=by
 have e:AP (BE (Ec 10) o)= [.int .u8 173, .int .u8 2, .int .u8 3, .int .i16 o, .int .i32 0]:=by kernel_rfl
 exact⟨by rw[e];exact B8 (XI o) (AB (AO (DG (by decide) (by decide))) (AB (AO (DG (by decide) (by decide))) A8)),by rw[e];exact B8 (XJ o) (AB (AO (DG (by decide) (by decide))) (AB (AO (DG (by decide) (by decide))) A8)),λown l p h=>DB (XK o own (AD l) l.length (p:Int)) (AB (CX h) (AB (by rw[←e];exact CY h) (AB (AO (DG (by decide) (by decide))) (AB (AO (DG (by decide) (by decide))) A8))))⟩
theorem Ra{o:Int}:Form (BE (Ec 2) o) [.int .i64 6, .int .i64 2, .int .i64 0, .bool true, .bool true]:=by
 have e:AP (BE (Ec 2) o)= [.int .u8 45, .int .u8 2, .int .u8 3, .int .i16 o, .int .i32 0]:=by kernel_rfl
 exact⟨by rw[e];exact B8 (ax o) (AB (AO (DG (by decide) (by decide))) (AB (AO (DG (by decide) (by decide))) A8)),by rw[e];exact B8 (ay o) (AB (AO (DG (by decide) (by decide))) (AB (AO (DG (by decide) (by decide))) A8)),λown l p h=>DB (az o own (AD l) l.length (p:Int)) (AB (CX h) (AB (by rw[←e];exact CY h) (AB (AO (DG (by decide) (by decide))) (AB (AO (DG (by decide) (by decide))) A8))))⟩
theorem VP{o:Int}:Form (BE Bm o) [.int .i64 7, .int .i64 0, .int .i64 0, .bool false, .bool false]:=by
 have e:AP (BE Bm o)= [.int .u8 5, .int .u8 0, .int .u8 0, .int .i16 o, .int .i32 0]:=by kernel_rfl
 exact⟨by rw[e];exact B8 (fi o) A8,by rw[e];exact B8 (fj o) A8,λown l p h=>DB (fk o own (AD l) l.length (p:Int)) (AB (CX h) (AB (by rw[←e];exact CY h) A8))⟩
theorem NF{n:Int}:OX (Bj n) [.int .i64 10, .int .i64 0, .int .i64 0, .bool false, .bool false]/\Rh (Bj n) 2/\∀(own:Bool) (l:List B1) (p:Nat),l[p]?=some (Bj n)->l[p+1]?=some (Cp n)->p+2<l.length->l.length<=1000000->OW own (AD l) l.length (p:Int) [.int .i64 10, .int .i64 0, .int .i64 0, .bool false, .bool false]:=by
 have e:AP (Bj n)= [.int .u8 24, .int .u8 3, .int .u8 0, .int .i16 0, .int .i32 (Jq (n % 4294967296))]:=by kernel_rfl
 have e':AP (Cp n)= [.int .u8 0, .int .u8 0, .int .u8 0, .int .i16 0, .int .i32 (Jq (n / 4294967296))]:=by kernel_rfl
 refine⟨by unfold OX;rw[e];exact B8 (bA (Jq (n % 4294967296))) (AB (AO (DG (by decide) (by decide))) (AB (BT (DG (by decide) (by decide))) A8)),by unfold Rh;rw[e];exact B8 (bB (Jq (n % 4294967296))) (AB (AO (DG (by decide) (by decide))) (AB (BT (DG (by decide) (by decide))) A8)),λown l p h h' hp hl=>?_⟩
 have hw:IntKind.wrap .i64 (Int.add (p:Int) 1)=((p+1:Nat):Int):=TL (by omega)
 exact DB (bC (Jq (n % 4294967296)) (Jq (n / 4294967296)) own (AD l) l.length (p:Int)) (AB (CX h) (AB (by rw[←e];exact CY h) (AB (AO (DG (by decide) (by decide))) (AB (BT (DG (by decide) (by decide))) (AB (by unfold oz;rw[hw];simp[CC,CA,CN];omega) (AB (by rw[hw];exact CX h') (AB (by rw[hw,←e'];exact CY h') A8)))))))
end
end Go.Proofs.YtgjflcgmieiafaaDoor
namespace Go.DI
noncomputable section
abbrev FR(l:Nat):Fence:=Fence.wide.inRound l
section
variable{P:Program}{l n:Nat}{Q:Exit->Act->World->Prop}{a:Act}{w:World}
theorem Ye:(FR l).depth.isSome=true->1<=n:=λh=>by cases h
theorem nI{row:String}{args:Array Value}{R:Value->World->Prop}(h:Rows P row args w R):RowsIn (FR l) n P row args w R:=λc cs _=>
 let⟨v,w',r,s⟩:=h c cs
 ⟨v,w',r,stepsIn_wide.2 s⟩
def Gy(o:Oper):Bool:=match o.op with| .defer _=>false|_=>true
theorem nJ{o:Oper}{next:Act->World->Prop}(hd:Gy o=true)(h:o.wp P a w next Q):o.wpIn (FR l) n P a w next Q:=by
 refine⟨λ_ _=>trivial,?_⟩
 have e:Oper.semAt (FR l).round a.eval o=execOp a.eval o:=Oper.semAt_some l _ _ (by intro c hc;simp[Gy,hc]at hd)
 rw[e]
 unfold Oper.wp at h
 generalize (execOp a.eval o).run P w=r at*
 cases r with
 |ok x w'=>
  cases x<;>simp only[Oper.upon,Oper.uponIn]at h ⊢ <;>
   first
    |exact h
    |exact h.elim
    |exact⟨Ye,(callsIn_wide.2 h).mono (λe w'' he=>by cases e<;>exact he)⟩
    |exact⟨Ye,nI h⟩
 |halt x w'=>cases x<;>simp only[Oper.upon,Oper.uponIn]at h ⊢ <;>exact h
theorem Ua(hQ:¬LetsOut Q){ops:Array Oper}(hd:ops.toList.all Gy=true):∀(is:List Nat) (a:Act) (w:World),wpOps P ops Q is a w->wpOpsIn (FR l) n P ops Q is a w
 | [],a,w,h=>h
 |i::rest,a,w,h=>by
  simp only[wpOps]at h;simp only[wpOpsIn];cases ho:ops[i]? with
  |none=>rw[ho]at h;exact Ua hQ hd rest a w h
  |some o=>
   rw[ho]at h;simp only at h ⊢;by_cases hw:Region.wanted o (yielded ops a.tmps)=true
   ·rw[if_pos hw]at h ⊢;have hdo:Gy o=true:=List.all_eq_true.1 hd o (by rw[←Array.getElem?_toList]at ho;exact List.mem_of_getElem? ho);rcases h with h|h
    ·exact nJ hdo (Oper.wp_mono (λa w h=>Ua hQ hd rest a w h) h)
    ·exact absurd h.2 hQ
   ·rw[if_neg hw]at h ⊢;exact⟨λ_ _=>trivial,Ua hQ hd rest _ w h⟩
theorem Ub(hQ:¬LetsOut Q){md:Region.Mode}{ops:Array Oper}(hd:ops.toList.all Gy=true):∀(fuel:Nat) (listed:Array Bool) (a:Act) (w:World),wpAny P md ops Q fuel listed a w->wpAnyIn (FR l) n P md ops Q fuel listed a w
 |0,listed,a,w,h=>h
 |fuel+1,listed,a,w,h=>by
  refine⟨h.1,λi hi=>?_⟩;have h2:=h.2 i hi;unfold wpOp at h2;unfold wpOpIn;cases ho:ops[i]? with
  |none=>rw[ho]at h2;exact Ub hQ hd fuel _ a w h2
  |some o=>
   rw[ho]at h2;simp only at h2 ⊢;by_cases hw:Region.wanted o (yielded ops a.tmps)=true
   ·rw[if_pos hw]at h2 ⊢;have hdo:Gy o=true:=List.all_eq_true.1 hd o (by rw[←Array.getElem?_toList]at ho;exact List.mem_of_getElem? ho);rcases h2 with h2|h2
    ·exact nJ hdo (Oper.wp_mono (λa w h=>Ub hQ hd fuel _ a w h) h2)
    ·exact absurd h2.2 hQ
   ·rw[if_neg hw]at h2 ⊢;exact⟨λ_ _=>trivial,Ub hQ hd fuel _ _ w h2⟩
end
def IY:Code->Bool
 | .skip=>true
 | .label _=>true
 | .region _ ops _=>ops.toList.all Gy
 | .seq a b=>IY a && IY b
 | .cond _ a b=>IY a && IY b
 | .block _ c=>IY c
 | .exit _=>true
 | .ret=>true
 |_=>false
section
variable{P:Program}{K:TypeId->Bool}{B0 G n:Nat}
theorem Wc(Br:P.follows .mixedOrders=true)(hK:Plain P K){cf:CD}(hcf:CT P B0 G cf)(hg:Bc cf){k l d:Nat}:
  ∀(c:Code),IY c=true->∀(t:AE) (m:Mem) (e:Ex) (t':AE) (m':Mem),AH P K G cf (A6 P K G cf n) n k c t m=some (e,t',m')->
   ∀(ι:Ren) (w:World) (a:Act) (Q:Exit->Act->World->Prop),¬LetsOut Q->Rel B0 G ι m w->BV ι n t a->Dy ι m.size m'.size->(∀a' w',DZ B0 G n ι m w a t' m' a' w'->Q e.to a' w')->c.wpIn (FR l) d P Q a w:=by
 intro c
 have hsz:=λc=>Gu (P:=P) (K:=K) (G:=G) (n:=n) (k:=k) hcf.size (Ha (n:=n) Br hK hcf hg).1 c
 induction c with
 |skip=>intro _ t m e t' m' h;simp[AH]at h;obtain⟨rfl,rfl,rfl⟩:=h;intro ι w a Q hx hr ht hf hQ;exact wpIn_skip (hQ a w ⟨ι,ht,hr,Dd.refl _ _ _,rfl⟩)
 |label l=>intro _ t m e t' m' h;simp[AH]at h;obtain⟨rfl,rfl,rfl⟩:=h;intro ι w a Q hx hr ht hf hQ;exact wpIn_label (hQ a w ⟨ι,ht,hr,Dd.refl _ _ _,rfl⟩)
 |region id ops draw=>
  intro hfl t m e t' m' h;simp only[AH]at h;split at h<;>simp at h;rename_i t₁ m₁ h1;obtain⟨rfl,rfl,rfl⟩:=h;intro ι w a Q hx hr ht hf hQ;cases draw
  ·refine wpIn_region (Ua hx hfl _ _ _ ?_);have:=Lv (Q:=Q) hK hcf (ops:=ops) ops.toList 0 (λj=>by simp) ι t m w a t₁ m₁ h1 hr ht hf hQ;rw[List.range_eq_range'];simpa using this
  ·exact wpIn_region_any Br (Ub hx hfl _ _ _ _ (Q6 hK hcf hg h1 hr ht hf hQ))
 |seq x y ihx ihy=>
  intro hfl t m e t' m' h;simp only[IY,Bool.and_eq_true]at hfl;simp only[AH]at h;intro ι w a Q hx hr ht hf hQ;split at h
  ·rename_i t₁ m₁ h1;have s1:=hsz x _ _ _ _ _ h1;have s2:=hsz y _ _ _ _ _ h;refine wpIn_seq (ihx hfl.1 _ _ _ _ _ h1 ι w a _ hx hr ht (hf.sub (Nat.le_refl _) s2) λa₁ w₁ ha=>?_);obtain⟨ι₁,g1,g2,g3,g4⟩:=ha;simp only[Ex.to,Exit.then];exact ihy hfl.2 _ _ _ _ _ h ι₁ w₁ a₁ Q hx g2 g1 ((hf.sub s1 (Nat.le_refl _)).stp g3 (Nat.le_refl _)) λa₂ w₂ ha₂=>hQ a₂ w₂ (DZ.trans g3 g4 ha₂)
  ·rename_i hne;refine wpIn_seq (ihx hfl.1 _ _ _ _ _ h ι w a _ hx hr ht hf λa₁ w₁ ha=>?_);have:=hQ a₁ w₁ ha;cases e with
   |normal=>exact absurd h (hne _ _)
   |exit id=>exact this
   |ret=>exact this
 |cond c x y ihx ihy=>
  intro hfl t m e t' m' h;simp only[IY,Bool.and_eq_true]at hfl;simp only[AH]at h;intro ι w a Q hx hr ht hf hQ;split at h<;>try (simp at h;done)
  ·rename_i hc;exact wpIn_cond_true (BR hr ht hc).inv_bool (ihx hfl.1 _ _ _ _ _ h ι w a Q hx hr ht hf hQ)
  ·rename_i hc;exact wpIn_cond_false (BR hr ht hc).inv_bool (ihy hfl.2 _ _ _ _ _ h ι w a Q hx hr ht hf hQ)
 |block id c ih=>
  intro hfl t m e t' m' h;simp only[AH]at h;intro ι w a Q hx hr ht hf hQ;split at h
  ·rename_i id' t₁ m₁ h1;split at h<;>simp at h
   ·rename_i he;obtain⟨rfl,rfl,rfl⟩:=h;refine wpIn_block (ih hfl _ _ _ _ _ h1 ι w a _ hx hr ht hf λa₁ w₁ ha=>?_);simp only[Ex.to,Exit.inBlock,he,if_true];exact hQ a₁ w₁ ha
   ·rename_i he;obtain⟨rfl,rfl,rfl⟩:=h;refine wpIn_block (ih hfl _ _ _ _ _ h1 ι w a _ hx hr ht hf λa₁ w₁ ha=>?_);simp only[Ex.to,Exit.inBlock,he,if_false];exact hQ a₁ w₁ ha
  ·rename_i hne;refine wpIn_block (ih hfl _ _ _ _ _ h ι w a _ hx hr ht hf λa₁ w₁ ha=>?_);have:=hQ a₁ w₁ ha;cases e with
   |normal=>exact this
   |exit id=>exact absurd h (hne _ _ _)
   |ret=>exact this
 |loop c ih=>intro hfl;cases hfl
 |exit id=>intro _ t m e t' m' h;simp[AH]at h;obtain⟨rfl,rfl,rfl⟩:=h;intro ι w a Q hx hr ht hf hQ;exact wpIn_exit (hQ a w ⟨ι,ht,hr,Dd.refl _ _ _,rfl⟩)
 |ret=>intro _ t m e t' m' h;simp[AH]at h;obtain⟨rfl,rfl,rfl⟩:=h;intro ι w a Q hx hr ht hf hQ;exact wpIn_ret (hQ a w ⟨ι,ht,hr,Dd.refl _ _ _,rfl⟩)
 |rangeFunc=>intro hfl;cases hfl
 |scope=>intro hfl;cases hfl
 |goto=>intro hfl;cases hfl
 |refuse=>intro hfl;cases hfl
end
end
end Go.DI
namespace Go.DI
open Go.RowKit
noncomputable section
structure St(B0:Nat)(w0:World)(ι:Ren)(m:Mem)(W:World):Prop where
 rel:Rel B0 1 ι m W
 fresh:∀b,m.size<=b->ι b=none
 below:Below w0.heap.size w0 W
 own:∀b L,ι b=some L->(m.get b).own=true->w0.heap.size<=L.block
def Fh(m:Mem):Prop:=∀b,(m.get b).own=true->∃o c,m.get b= .cells o c
def Eg(W W':World):Prop:=W.heap.size<=W'.heap.size/\∀(k:Nat) (o:Obj),W.heap[k]?=some o->o.isCells=false->W'.heap[k]?=some o
theorem Eg.refl(W:World):Eg W W:=⟨Nat.le_refl _,λ_ _ h _=>h⟩
theorem Eg.trans{A B C:World}(h:Eg A B)(g:Eg B C):Eg A C:=⟨Nat.le_trans h.1 g.1,λk o ho hc=>g.2 k o (h.2 k o ho hc) hc⟩
theorem Eg.from{A B:World}(h:Eg A B)(n:Nat):KeepsFrom n A B:=⟨h.1,λk o _ ho hc=>h.2 k o ho hc⟩
section
variable{P:Program}{K:TypeId->Bool}{B0 n:Nat}{w0 W:World}{ι:Ren}{m:Mem}{t:AE}{a:Act}
theorem St.fresh'(h:St B0 w0 ι m W)(y:Nat):Dy ι m.size y:=λb h1 _=>h.fresh b h1
theorem St.after(h:St B0 w0 ι m W)(hc:Fh m){ι':Ren}{m':Mem}{W':World}(hr:Rel B0 1 ι' m' W')(hs:Dd ι ι' m m' W W'):St B0 w0 ι' m' W'/\Eg W W':=by
 refine⟨⟨hr,λb hb=>?_,?_,λb L hL ho=>?_⟩,hs.hsize,λk o ho hno=>?_⟩
 ·rw[hs.out b (.inr hb)];exact h.fresh b (Nat.le_trans hs.msize hb)
 ·refine⟨hs.os.trans h.below.os,hs.tape.trans h.below.tape,hs.output.trans h.below.output,Nat.le_trans h.below.size hs.hsize,λk hk=>?_⟩;rw[←h.below.block k hk];refine hs.frame k (Nat.lt_of_lt_of_le hk h.below.size) λb L hb hL ho e=>?_;have:=h.own b L hL ho;omega
 ·rcases Nat.lt_or_ge b m.size with hb|hb
  ·exact h.own b L (by rw[←hs.out b (.inl hb)];exact hL) (hs.ownk b hb ho)
  ·rcases Nat.lt_or_ge b m'.size with hb'|hb'
   ·rcases hs.new b L hb hb' hL with g|⟨b0,L0,g1,g2,g3,g4⟩
    ·exact Nat.le_trans h.below.size g
    ·rw[←g4];exact h.own b0 L0 g2 g3
   ·rw[hs.out b (.inr hb'),h.fresh b hb]at hL;cases hL
 ·have hk:k<W.heap.size:=(Array.getElem?_eq_some_iff.1 ho).1;rw[hs.frame k hk λb L hb hL hw e=>?_]
  ·exact ho
  ·obtain⟨o',c,hg⟩:=hc b hw;have:=h.rel.blk b L hb hL;rw[hg]at this;obtain⟨rc,e1,fr,h1,_⟩:=this;rw[e,ho]at h1;cases h1;cases hno
theorem piece(Br:P.follows .mixedOrders=true)(hK:Plain P K){cf:CD}(hcf:CT P B0 1 cf)(hg:Bc cf){k d:Nat}{c:Code}{e:Ex}{t':AE}{m':Mem}
  (h:AH P K 1 cf (A6 P K 1 cf n) n k c t m=some (e,t',m')) (hs:St B0 w0 ι m W) (hc:Fh m) (ht:BV ι n t a) {Q:Exit->Act->World->Prop}
  (hQ:∀ι' a' W',St B0 w0 ι' m' W'->BV ι' n t' a'->a'.defers=a.defers->(∀b,b<m.size->ι' b=ι b)->Eg W W'->Q e.to a' W'):c.wpIn Fence.wide d P Q a W:=by
 refine wpIn_wide.2 (Gv hK hcf (Ha Br hK hcf hg) c t m e t' m' h ι W a Q hs.rel ht (hs.fresh' _) λa' W' ha=>?_)
 obtain⟨ι',g1,g2,g3,g4⟩:=ha
 obtain⟨h1,h2⟩:=hs.after hc g2 g3
 exact hQ ι' a' W' h1 g1 g4 (λb hb=>g3.out b (.inl hb)) h2
theorem dv(Br:P.follows .mixedOrders=true)(hK:Plain P K){cf:CD}(hcf:CT P B0 1 cf)(hg:Bc cf){k l d:Nat}{c:Code}(hfl:IY c=true){e:Ex}{t':AE}{m':Mem}
  (h:AH P K 1 cf (A6 P K 1 cf n) n k c t m=some (e,t',m')) (hs:St B0 w0 ι m W) (hc:Fh m) (ht:BV ι n t a) {Q:Exit->Act->World->Prop} (hx:¬LetsOut Q)
  (hQ:∀ι' a' W',St B0 w0 ι' m' W'->BV ι' n t' a'->a'.defers=a.defers->(∀b,b<m.size->ι' b=ι b)->Eg W W'->Q e.to a' W'):c.wpIn (FR l) d P Q a W:=by
 refine Wc Br hK hcf hg c hfl t m e t' m' h ι W a Q hx hs.rel ht (hs.fresh' _) λa' W' ha=>?_
 obtain⟨ι',g1,g2,g3,g4⟩:=ha
 obtain⟨h1,h2⟩:=hs.after hc g2 g3
 exact hQ ι' a' W' h1 g1 g4 (λb hb=>g3.out b (.inl hb)) h2
theorem St.cut(hs:St B0 w0 ι m W){z:Nat}(hz:z<=m.size)(h1:1<=z){mz:Mem}(hsz:mz.size=z)(ht:mz.top)(hget:∀b,b<z->mz.get b=m.get b)(hseen:∀b,b<z->Kit.okB (m.get b)/\Kit.seenB z (m.get b)):
  St B0 w0 (ι.sub id λi=>Nat.blt i z) mz W:=by
 have hin:∀b L,(ι.sub id λi=>Nat.blt i z) b=some L->b<z/\ι b=some L:=λb L h=>by
  obtain⟨g1,g2⟩:=Kit.sub_id _ _ _ _ h;exact⟨by simpa[Nat.blt_eq]using g1,g2⟩
 refine⟨⟨λb L hb hL=>?_,λb₁ b₂ L₁ L₂ b1 b2 e1 e2 l1 l2 g0 e=>?_,hs.rel.floor,λg hg=>?_,ht⟩,λb hb=>?_,hs.below,λb L hL ho=>?_⟩
 ·obtain⟨g1,g2⟩:=hin b L hL;obtain⟨k1,k2⟩:=hseen b g1;rw[hget b g1];have hb:=Kit.bsim_ren (ρ:=id) k1 k2;rw[Kit.renB_id k1]at hb;exact hb.rel _ _ _ _ (hs.rel.blk b L (by omega) g2)
 ·obtain⟨g1,g2⟩:=hin _ _ e1;obtain⟨k1,k2⟩:=hin _ _ e2;rw[hget _ g1]at l1;rw[hget _ k1]at l2;exact hs.rel.inj _ _ _ _ (by omega) (by omega) g2 k2 l1 l2 g0 e
 ·obtain⟨L,p1,p2⟩:=hs.rel.glob g hg;refine⟨L,?_,p2⟩;obtain rfl:g=0:=by omega
  show(if Nat.blt 0 z=true then ι 0 else none)=some L;rw[if_pos (by simp[Nat.blt_eq];omega)];exact p1
 ·show(if Nat.blt b z=true then ι b else none)=none;rw[if_neg (by simp[Nat.blt_eq];omega)]
 ·obtain⟨g1,g2⟩:=hin _ _ hL;rw[hget _ g1]at ho;exact hs.own _ _ g2 ho
theorem ZN{ι ι':Ren}{z:Nat}(hf:∀b,z<=b->ι b=none)(he:∀b,b<z->ι' b=ι b):(ι'.sub id λi=>Nat.blt i z)=ι:=by
 funext b
 show(if Nat.blt b z=true then ι' b else none)=ι b
 by_cases h:b<z
 ·rw[if_pos (by simp[Nat.blt_eq];omega)];exact he b h
 ·rw[if_neg (by simp[Nat.blt_eq];omega)];exact(hf b (by omega)).symm
theorem St.grown(hs:St B0 w0 ι m W)(hc:∀b,(m.get b).live->∃o c,m.get b= .cells o c){W':World}{row:Option Nat}{B:Nat}(hB:w0.heap.size<=B)(hg:W.grownBy W' row)(hr:∀r,row=some r->B<=r/\∃o:Obj,W.heap[r]?=some o/\o.isCells=false):St B0 w0 ι m W':=by
 refine⟨⟨λb L hb hL=>?_,hs.rel.inj,Nat.le_trans hs.rel.floor hg.size,hs.rel.glob,hs.rel.top⟩,hs.fresh,⟨hg.os.trans hs.below.os,hg.tape.trans hs.below.tape,hg.output.trans hs.below.output,Nat.le_trans hs.below.size hg.size,λk hk=>?_⟩,hs.own⟩
 ·have hb0:=hs.rel.blk b L hb hL;refine hb0.monoL (λ_ _ h=>h) λhl=>?_;obtain⟨o,c,hgb⟩:=hc b hl;have hlt:=hb0.lt hl;refine hg.block _ hlt λe=>?_;obtain⟨_,o',ho',hno⟩:=hr _ e.symm;rw[hgb]at hb0;obtain⟨rc,e1,fr,h1,_⟩:=hb0;rw[h1]at ho';cases ho';cases hno
 ·rw[hg.block k (Nat.lt_of_lt_of_le hk hs.below.size) λe=>?_]
  ·exact hs.below.block k hk
  ·obtain⟨h1,_⟩:=hr _ e.symm;omega
end
section
variable{P:Program}{F:Fence}{n:Nat}{Q:Exit->Act->World->Prop}{a:Act}{w w':World}{ops:Array Oper}{rest:List Nat}{i:Nat}{o:Oper}{ρ:Operand->Value}
theorem run_move{x:Operand}(h:o.op= .move x):(execOp ρ o).run P w= .ok (.value (ρ x)) w:=by unfold execOp;rw[h];rfl
theorem run_assign{x:Operand}(h:o.op= .assign x):(execOp ρ o).run P w= .ok (.value (ρ x)) w:=by unfold execOp;rw[h];rfl
theorem Ug{ty:TypeId}{x:Operand}{b:Bool}(h:o.op= .unOp .not ty x)(hx:ρ x= .bool b):(execOp ρ o).run P w= .ok (.value (.bool (!b))) w:=by
 unfold execOp;rw[h];simp only[hx];rfl
theorem Qy{f:Operand}{args:Array Operand}{tys:Array TypeId}{l:Nat}(h:o.op= .call ⟨.value f,args,tys⟩)(hf:ρ f= .func (.yield l) #[] #[]):(execOp ρ o).run P w=(Instr.yield l (args.map ρ)).run P w:=by
 unfold execOp;rw[h]
 simp[resolve,hf,Deferred.ofValue,invoke]
theorem Uh{v:Value}(ho:ops[i]?=some o)(hg:o.guard=none)(hF:∀f,F.fn f)(hr:(Oper.semAt F.round a.eval o).run P w= .ok (.value v) w')(h:wpOpsIn F n P ops Q rest (a.put o.dst v) w'):wpOpsIn F n P ops Q (i::rest) a w:=by
 simp only[wpOpsIn,ho]
 rw[if_pos (by simp[Region.wanted,hg])]
 refine⟨λf _=>hF f,?_⟩
 rw[hr]
 exact h
theorem Wl{l:Nat}{fn:FuncId}{tmps:Array Value}{assign body:Code}(ho:ops[i]?=some o)(hg:o.guard=none)(hF:∀f,F.fn f)(hd:F.depth=none)(hr:(Oper.semAt F.round a.eval o).run P w= .ok (.round l fn tmps assign body) w')
  (h:RoundIn F (n - 1) P l fn tmps assign body w' λe w''=>∃v,e= .returned v/\wpOpsIn F n P ops Q rest (a.put o.dst v) w''):wpOpsIn F n P ops Q (i::rest) a w:=by
 simp only[wpOpsIn,ho]
 rw[if_pos (by simp[Region.wanted,hg])]
 refine⟨λf _=>hF f,?_⟩
 rw[hr]
 refine⟨λg=>(by rw[hd]at g;cases g),h.mono ?_⟩
 rintro e w'' ⟨v,rfl,hv⟩
 exact hv
end
section
variable{P:Program}{n:Nat}{Q:Exit->Act->World->Prop}{a:Act}{w w':World}{ops:Array Oper}{rest:List Nat}{i:Nat}{o:Oper}
theorem Qz{ρ:Operand->Value}:Oper.semAt Fence.wide.round ρ o=execOp ρ o:=Oper.semAt_none ρ o
theorem J6{v:Value}(ho:ops[i]?=some o)(hg:o.guard=none)(hr:(execOp a.eval o).run P w= .ok (.value v) w')(h:wpOpsIn Fence.wide n P ops Q rest (a.put o.dst v) w'):wpOpsIn Fence.wide n P ops Q (i::rest) a w:=
 Uh ho hg (λ_=>trivial) (by rw[Qz];exact hr) h
theorem Sm{l:Nat}{fn:FuncId}{tmps:Array Value}{assign body:Code}(ho:ops[i]?=some o)(hg:o.guard=none)(hr:(execOp a.eval o).run P w= .ok (.round l fn tmps assign body) w')
  (h:RoundIn Fence.wide (n - 1) P l fn tmps assign body w' λe w''=>∃v,e= .returned v/\wpOpsIn Fence.wide n P ops Q rest (a.put o.dst v) w''):wpOpsIn Fence.wide n P ops Q (i::rest) a w:=
 Wl ho hg (λ_=>trivial) rfl (by rw[Qz];exact hr) h
end
section
variable{ι:Ren}{n:Nat}{t:AE}{a:Act}
theorem BV.full(h:BV ι n t a)(kn:List (Nat×Value))(hk:∀p∈kn,t.at p.1=p.2):∃x,BV ι n (AA n (up x kn)) a:=by
 refine⟨λd=>t.at d,h.1,λd=>?_⟩
 rw[Kit.up_self _ kn hk,FK]
 by_cases hd:d<n
 ·rw[if_pos hd];exact h.2 d
 ·rw[if_neg hd,Array.getD_eq_getD_getElem?,Array.getElem?_eq_none (by rw[h.1];omega)];exact AV.undef _
theorem BV.int(h:BV ι n t a){d:Nat}{k:IntKind}{z:Int}(hd:t.at d= .int k z):a.tmps.getD d undef= .int k z:=by
 have:=h.2 d
 rw[hd]at this
 generalize a.tmps.getD d undef=u at this ⊢
 cases this
 rfl
theorem BV.bool(h:BV ι n t a){d:Nat}{b:Bool}(hd:t.at d= .bool b):a.tmps.getD d undef= .bool b:=by
 have:=h.2 d
 rw[hd]at this
 generalize a.tmps.getD d undef=u at this ⊢
 cases this
 rfl
theorem BV.yield(h:BV ι n t a){d l:Nat}(hd:t.at d= .func (.yield l) #[] #[]):a.tmps.getD d undef= .func (.yield l) #[] #[]:=by
 have:=h.2 d
 rw[hd]at this
 generalize a.tmps.getD d undef=u at this ⊢
 cases this with
 |func fn x x' y y' hx hy=>
  have e1:x'= #[]:=Array.eq_empty_of_size_eq_zero hx.symm;have e2:y'= #[]:=Array.eq_empty_of_size_eq_zero hy.symm;rw[e1,e2]
theorem Mk(ι:Ren)(l:Nat):AV ι (.func (.yield l) #[] #[]) (.func (.yield l) #[] #[]):= .func _ _ _ _ _ rfl rfl (λi x y hx=>by simp at hx) (λi x y hx=>by simp at hx)
end
theorem IJ{ι:Ren}{args args':List Value}{nt:Nat}(hargs:B7 ι args args'):BV ι (max args.length nt) (AA (max args.length nt) (CM args)) {tmps:=args'.toArray++Array.replicate (nt - args'.toArray.size) undef,defers:= []}:=by
 have hlen:=hargs.length
 refine⟨by simp;omega,λd=>?_⟩
 rw[FK,PV]
 cases hd:args[d]? with
 |some v=>
  obtain⟨y,hy,hry⟩:=hargs.get hd
  have hlt:d<args'.length:=by
   rcases Nat.lt_or_ge d args'.length with h1|h1
   ·exact h1
   ·rw[List.getElem?_eq_none h1]at hy;cases hy
  have hld:d<args.length:=(List.getElem?_eq_some_iff.1 hd).1
  have:(args'.toArray++Array.replicate (nt - args'.toArray.size) undef).getD d undef=y:=by
   rw[Array.getD_eq_getD_getElem?,Array.getElem?_append_left (by simpa using hlt),List.getElem?_toArray,hy];rfl
  rw[this,if_pos (by omega)];exact hry
 |none=>
  have hge:args.length<=d:=List.getElem?_eq_none_iff.1 hd
  have:(args'.toArray++Array.replicate (nt - args'.toArray.size) undef).getD d undef=undef:=by
   rw[Array.getD_eq_getD_getElem?,Array.getElem?_append_right (by simp;omega),Array.getElem?_replicate];split<;>rfl
  rw[this];split
  ·exact AV.undef _
  ·exact AV.undef _
theorem OK{B0 G:Nat}{ι:Ren}{m:Mem}{w W:World}(hr:Rel B0 G ι m w)(hb:Below w.heap.size w W):Rel B0 G ι m W:=
 ⟨λb L h1 h2=>(hr.blk b L h1 h2).monoL (λ_ _ h=>h) λhl=>hb.block _ ((hr.blk b L h1 h2).lt hl),hr.inj,Nat.le_trans hr.floor hb.size,hr.glob,hr.top⟩
theorem Ym{P:Program}{ι ι':Ren}{m m':Mem}{W W':World}(hs:Dd ι ι' m m' W W')(ho:∀b,(m.get b).own=false):W.grownBy W' none:=
 ⟨hs.os,hs.tape,hs.output,hs.hsize,λk hk _=>hs.frame k hk λb L _ _ h=>by rw[ho b]at h;cases h⟩
theorem Yn{ι ι':Ren}{m:Mem}{W W':World}(hs:Dd ι ι' m m W W'):ι'=ι:=by
 funext b
 rcases Nat.lt_or_ge b m.size with h|h
 ·exact hs.out b (.inl h)
 ·exact hs.out b (.inr h)
def Iu:Code->Nat->Array Oper
 | .region id ops _,i=>if id=i then ops else #[]
 | .seq x y,i=>if(Iu x i).isEmpty then Iu y i else Iu x i
 | .cond _ x y,i=>if(Iu x i).isEmpty then Iu y i else Iu x i
 | .block _ c,i=>Iu c i
 | .loop c,i=>Iu c i
 | .scope c,i=>Iu c i
 | .rangeFunc _ _ x y,i=>if(Iu x i).isEmpty then Iu y i else Iu x i
 |_,_=> #[]
end
end Go.DI
namespace Go.Proofs.YtgjflcgmieiafaaDoor
open Go Go.DI Go.DI.Kit Go.Proofs Go.Cmp Go.RowKit
noncomputable section
def ew:List Value->Option (List Value×List Nat):=λa=>match a with
 | [.agg x]=>some ([.agg x],[])
 |_=>none
def o6:List Value->Option (List Value×List Nat):=λa=>match a with
 | [.agg ⟨[.slice none 0 0, .slice (some ⟨c,0,some 5⟩) n n']⟩, .int .i64 p]=>some ([.agg ⟨[.slice none 0 0, .slice (some ⟨1,0,some 5⟩) n n']⟩, .int .i64 p],[c])
 |_=>none
noncomputable def Pd:DT:=Mg (IZ gl 37 Rw ew) (Mg (IZ gl 38 Rw ew) (IZ gl 52 Rw o6))
theorem Kb(B0:Nat):CT Tryd.prog B0 1 Rw:=Dg Br hK FZ (Yk B0) OG 20
theorem IM:Bc Rw:=Cb OG 20
theorem GK:Bc Pd:=Mh (II Cs Kb IM) (Mh (II Cs Kb IM) (II Cs Kb IM))
theorem JE(B0:Nat):CT Tryd.prog B0 1 Pd:=PW (Me Cs Kb IM B0) (PW (Me Cs Kb IM B0) (Me Cs Kb IM B0))
theorem LY{f:FuncId}(h1:f≠37)(h2:f≠38)(h3:f≠52)(a:List Value)(M:Mem):Pd f a M=none:=by
 unfold Pd
 rw[Is (Fg h1 a M),Is (Fg h2 a M),Fg h3]
theorem iA{M:Mem}(ht:M.top)(h0:M.get 0= .cells false gl)(h1:1<=M.size):Fits gl [] (([]:List Nat).map M.get) M:=
 ⟨ht,h0,h1,rfl,λb hb=>by simp at hb,by simp,by simp,λi b s hi=>by simp at hi,λs hs=>by simp at hs⟩
theorem NK(x:B1):(AP x).all Fs=true:=rfl
theorem ku{M:Mem}{x:B1}{w:List Value}(ht:M.top)(h0:M.get 0= .cells false gl)(h1:1<=M.size)(h:OX x w)(hw:w.all Fs=true):Pd 37 [.agg ⟨AP x⟩] M=some (.tuple ⟨[.agg ⟨w⟩, .int .i64 0]⟩,M):=by
 obtain⟨m,a1,a2⟩:=h
 refine PX (Mf (op:=ew) rfl (iA ht h0 h1) (.cons ((IH (NK x)).sim _ _) .nil) a1 ?_ a2 (λi s hi=>by simp at hi))
 simp[KU,Md,hw]
theorem aE{M:Mem}{x:B1}{n:Int}(ht:M.top)(h0:M.get 0= .cells false gl)(h1:1<=M.size)(h:Rh x n):Pd 38 [.agg ⟨AP x⟩] M=some (.int .i64 n,M):=by
 obtain⟨m,a1,a2⟩:=h
 unfold Pd
 rw[Is (Fg (by decide) _ M)]
 exact PX (Mf (op:=ew) rfl (iA ht h0 h1) (.cons ((IH (NK x)).sim _ _) .nil) a1 rfl a2 (λi s hi=>by simp at hi))
theorem ks{M:Mem}{c:Nat}{own:Bool}{l:List B1}{p:Int}{w:List Value}(ht:M.top)(h0:M.get 0= .cells false gl)(h1:1<=M.size)(hc:c<M.size)(hc0:c≠0)(gc:M.get c= .cells own (AD l))(h:OW own (AD l) l.length p w)(hw:w.all Fs=true):
  Pd 52 [E9 (AX c l.length), .int .i64 p] M=some (.tuple ⟨[.agg ⟨w⟩, .int .i64 0]⟩,M):=by
 obtain⟨m,a1,a2,a3⟩:=h
 unfold Pd
 rw[Is (Fg (by decide) _ M),Is (Fg (by decide) _ M)]
 have hF:=VV (o1:=own) ht h0 h1 hc hc0 gc
 refine Mf (op:=o6) (sa:= [E9 (AX 1 l.length), .int .i64 p]) (bs:= [c]) rfl hF ?_ (m:=m) (by
  show Rw 52 _ (mS gl [M.get c])=_;rw[gc];exact a1) (by simp[KU,Md,hw]) a2 (λi s hi=>?_)
 ·have hb:(λi=>Nat.blt i (1+ [c].length)) 1=true:=rfl;exact .cons (JZ (.cons ((EP _ _).sim _ _) (.cons (ER (ρ:=DQ [c] M) hb) .nil))) (.cons ((Cq _ _).sim _ _) .nil)
 ·rcases i with _|i
  ·have hi:some (M.get c)=some s:=hi;cases hi;rw[gc];exact a3
  ·cases hi
noncomputable abbrev tN:FQ:=Bw Tryd.prog kp 1 Pd 20
theorem aF(B0:Nat):CT Tryd.prog B0 1 tN:=Dg Br hK FZ (JE B0) GK 20
theorem ey:Bc tN:=Cb GK 20
noncomputable def s4:Code:=AN Tryd.f77
theorem eY:Tryd.prog.funcs[77]?=some Tryd.f77:=by kernel_rfl
theorem eZ:Tryd.f77.body=some s4:=by kernel_rfl
noncomputable def fA(i:Nat):Array Oper:=Iu s4 i
noncomputable def t93:Code:= .seq (.seq (.region 1 (fA 1) false) (.cond (.tmp 7) .skip (.exit 0))) (.block 1 (.seq (.seq (.region 2 (fA 2) false) (.cond (.tmp 11) .ret .skip)) (.region 3 (fA 3) false)))
theorem lO:s4= .seq (.region 0 (fA 0) false) (.block 0 (.loop t93)):=by kernel_rfl
noncomputable def HQ(L:List Value)(n:Nat):Mem:=mS gl [.cells false L, .cells false [AX 1 n]]
noncomputable def hI(x:List Value)(lt:Bool)(pl:Int):H.Hint where
 ix t:=Nat.beq t 30
 ld _ t _:=cond (Nat.beq t 88) (some (.agg ⟨x⟩)) none
 cmp op t:=cond (Nat.beq t 3) (BinOp.rec (motive:=λ_=>Option Bool) none none none none none none none none none none none none none (some lt) none none none op) none
 ap _:=none
 call f:=cond (Nat.beq f 38) (some (.int .i64 pl)) (cond (Nat.beq f 37) (some undef) (cond (Nat.beq f 52) (some undef) none))
 spec _ _ _ _:=False
 blk:=0
 specM f:=cond (Nat.beq f 38) (some λargs m v=>Pd 38 args m=some (v,m)) (some never)
theorem o7{x:List Value}{lt:Bool}{pl:Int}(f:FuncId)(v:Value)(args:List Value)(m:Mem)(hc:(hI x lt pl).call f=some v)(hs:(hI x lt pl).says f args m v):Pd f args m=some (v,(hI x lt pl).eff f m):=by
 by_cases e:f=38
 ·subst e;exact hs
 ·exfalso
  have e1:Nat.beq f 38=false:=by cases hb:Nat.beq f 38 with
   |false=>rfl
   |true=>exact absurd (Nat.eq_of_beq_eq_true hb) e
  unfold H.Hint.says at hs;have:(hI x lt pl).specM f=some never:=by show cond (Nat.beq f 38) _ _=_;rw[e1];rfl
  rw[this]at hs;exact hs
theorem lP{x:List Value}{lt:Bool}{pl:Int}(f:FuncId)(hc:(hI x lt pl).call f=none)(a:List Value)(m:Mem):Pd f a m=none:=
 LY (by rintro rfl;cases hc) (by rintro rfl;cases hc) (by rintro rfl;cases hc) a m
noncomputable def yV(l:Nat):Value:= .func (.yield l) #[] #[]
noncomputable def bR(l:Nat)(p:Int):List (Nat×Value):= [(0,yV l),(1,B4 2 0),(3, .int .i64 p)]
abbrev oa:=Ex×Value×Value×Value×Value×Mem
noncomputable def oc(x:List Value)(lt:Bool)(pl:Int)(c:Code)(d:Nat)(t:AE)(M:Mem):Option (H.TT oa):=
 H.codeT (hI x lt pl) c Tryd.prog kp 1 (H.callT (hI x lt pl) Tryd.prog kp 1 20) (λbody _ k t m q=>Y.loopF body k t m q) 20 20 t M λe t m=>some ((e,t.at 0,t.at 1,t.at 3,t.at d,m),[],[])
theorem od(y:Nat->Value)(L:List Value)(n l:Nat):Rn (oc [] false 0 (.region 0 (fA 0) false) 3 (AA 20 (up y [(0,yV l),(1,B4 2 0)])) (HQ L n)) ((.normal,yV l,B4 2 0, .int .i64 0, .int .i64 0,HQ L n),[]):=⟨by kernel_rfl,by kernel_rfl⟩
theorem iB(y:Nat->Value)(L:List Value)(n l:Nat)(p:Int)(lt:Bool):Rn (oc [] lt 0 (.region 1 (fA 1) false) 7 (AA 20 (up y (bR l p))) (HQ L n)) ((.normal,yV l,B4 2 0, .int .i64 p, .bool lt,HQ L n),[CC Tryd.prog kp .lss 3 (.int .i64 p) (.int .i64 (Int.ofNat n))=some (.bool lt)]):=⟨by kernel_rfl,by kernel_rfl⟩
theorem lQ(y:Nat->Value)(L x:List Value)(n l:Nat)(p:Int):Rn (oc x false 1 (.region 3 (fA 3) false) 3 (AA 20 (up y (bR l p))) (HQ L n)) ((.normal,yV l,B4 2 0, .int .i64 (IntKind.wrap .i64 (Int.add p 1)), .int .i64 (IntKind.wrap .i64 (Int.add p 1)),HQ L n),[Hl p n,JD L p x,Pd 38 [.agg ⟨x⟩] (HQ L n)=some (.int .i64 1,HQ L n)]):=⟨by kernel_rfl,by kernel_rfl⟩
theorem lR(y:Nat->Value)(L x:List Value)(n l:Nat)(p:Int):Rn (oc x false 2 (.region 3 (fA 3) false) 3 (AA 20 (up y (bR l p))) (HQ L n)) ((.normal,yV l,B4 2 0, .int .i64 (IntKind.wrap .i64 (Int.add p 2)), .int .i64 (IntKind.wrap .i64 (Int.add p 2)),HQ L n),[Hl p n,JD L p x,Pd 38 [.agg ⟨x⟩] (HQ L n)=some (.int .i64 2,HQ L n)]):=⟨by kernel_rfl,by kernel_rfl⟩
end
end Go.Proofs.YtgjflcgmieiafaaDoor
