/- BinTexts' walk, as its row asks for it. -/
import Derived.Test.YtefiliomfiomfaaTextsLaw
import Derived.Test.YtefiliomfiomfaaBulk
namespace Go.Proofs.Ytefiliomfiomfaa
open Go.RowKit
theorem texts_row2 (a : Option Addr) (len cap : Nat) (l : List UInt8) (s : ByteArray) (p most : Int) (w : World) (hm : l.length = len) (hv : Rd w (.slice a len cap) l) (_ : (Lit.int .i64 p).wf = true) (hmost : (Lit.int .i64 most).wf = true) (hb : len + s.size ≤ 1048576) :
    Calls Try.prog 5 #[.slice a len cap, .string s, .int .i64 p, .int .i64 most] w fun e w' => e = .returned (.bool true) ∧ Below w.heap.size w w' := texts_row a len cap l s p most w hm hv hmost hb
end Go.Proofs.Ytefiliomfiomfaa
