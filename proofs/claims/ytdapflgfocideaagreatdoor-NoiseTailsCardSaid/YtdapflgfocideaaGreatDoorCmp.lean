/- The contract of rational.Compare, of two numbers in lowest terms of which the first is less. -/
import Derived.Test.YtdapflgfocideaaGreatDoorCmpA
import Derived.Test.YtdapflgfocideaaGreatDoorCmpB
namespace Go.Proofs.YtdapflgfocideaaGreatDoor
open Go Go.RowKit Go.Deep

theorem rcmp_less (B : Nat) (p q r s : Nat) (h1 : Low p q) (h2 : Low r s) (hlt : p * s < r * q) (w : World) (hE : Env B w) :
    Calls Tryz.prog 21 #[.agg #[.bool false, .string (ds p), .string (ds q)], .agg #[.bool false, .string (ds r), .string (ds s)]] w fun e w' => e = .returned (.int .i64 (-1)) ∧ Below w.heap.size w w' := by
  by_cases e : p = r
  · subst e
    refine rcmp_den B p q s (fun e => ?_) h1 h2 hlt w hE
    rw [ds_toList, ds_toList] at e
    rw [dec_inj e] at hlt
    omega
  · exact rcmp_num B p q r s (fun h => e (by rw [ds_toList, ds_toList] at h; exact dec_inj h)) h1 h2 hlt w hE
end Go.Proofs.YtdapflgfocideaaGreatDoor
