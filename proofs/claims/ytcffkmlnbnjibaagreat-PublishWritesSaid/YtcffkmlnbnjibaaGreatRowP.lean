/- The walk of PublishWrites, at a row's arguments. -/
import Derived.Test.YtcffkmlnbnjibaaGreatPxB
import Derived.Test.YtcffkmlnbnjibaaGreatRowC
namespace Go.Proofs.YtcffkmlnbnjibaaGreat
open Go.RowKit
theorem pxwrites_calls' (s b x : ByteArray) (lA : Option Addr) (ln lc : Nat) (l : List FlV) (fA : Option Addr) (fn fc : Nat) (fl : List FtV) (w : World) (hs : s.size ≤ maxLen) (hb : b.size ≤ maxLen) (hlr : Row w 2 lA ln (l.flatMap FlV.cs)) (hln : ∀ f ∈ l, FlV.ok f) (hr : Row w 2 fA fn (fl.flatMap FtV.cs)) (hl : ∀ f ∈ fl, f.ok) :
    Calls Tryz.prog 6 #[.slice lA ln lc, .agg #[.string s, .string b, .string x], .slice fA fn fc] w fun e w' => e = .returned (.bool true) ∧ Ex w w' := by
  obtain rfl := hr.fts_len
  obtain rfl := hlr.fls_len
  exact pxwrites_calls s b x lA lc l fA fc fl w hs hb hlr (fun f hf => (hln f hf).1) hr hl
end Go.Proofs.YtcffkmlnbnjibaaGreat
