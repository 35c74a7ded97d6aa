/- The walk of SimdiskLoads, at a row's arguments. -/
import Derived.Test.YtcffkmlnbnjibaaGreatPyB
import Derived.Test.YtcffkmlnbnjibaaGreatRowC
namespace Go.Proofs.YtcffkmlnbnjibaaGreat
open Go.RowKit
theorem pyloads_calls' (n : Int) (lA : Option Addr) (ln lc : Nat) (l : List FlV) (ch : ByteArray) (w : World) (hn1 : -9223372036854775808 ≤ n) (hn2 : n ≤ 9223372036854775807) (hlr : Row w 2 lA ln (l.flatMap FlV.cs)) (hln : ∀ f ∈ l, FlV.ok f) :
    Calls Tryz.prog 4 #[.int .i64 n, .slice lA ln lc, .string ch] w fun e w' => e = .returned (.bool true) ∧ Ex w w' := by
  obtain rfl := hlr.fls_len
  exact pyloads_calls n lA lc l ch w hn1 hn2 hlr (fun f hf => (hln f hf).1)
end Go.Proofs.YtcffkmlnbnjibaaGreat
