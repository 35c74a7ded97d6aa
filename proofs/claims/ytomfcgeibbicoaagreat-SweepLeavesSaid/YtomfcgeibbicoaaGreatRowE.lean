/- The walk of SweepLeaves at a row's arguments. -/
import Derived.Test.YtomfcgeibbicoaaGreatRowF
import Derived.Test.YtomfcgeibbicoaaGreatSvE
namespace Go.Proofs.YtomfcgeibbicoaaGreat
open Go.RowKit
theorem swleaves_calls' (lA : Option Addr) (ln lc : Nat) (l : List FlV) (ep : Int) (ch : ByteArray) (w : World) (hlr : Row w 2 lA ln (l.flatMap FlV.cs)) (hln : ∀ f ∈ l, FlV.ok f) :
    Calls Tryz.prog 6 #[.slice lA ln lc, .int .i64 ep, .string ch] w fun e w' => e = .returned (.bool true) ∧ Ex w w' := by
  obtain rfl := hlr.fls_len
  exact swleaves_calls lA lc l ep ch w hlr (fun f hf => (hln f hf).1)
end Go.Proofs.YtomfcgeibbicoaaGreat
