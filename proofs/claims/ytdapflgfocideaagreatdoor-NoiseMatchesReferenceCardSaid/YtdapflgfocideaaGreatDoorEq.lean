/- Comparing two outcomes, two rationals. -/
import Derived.Test.YtdapflgfocideaaGreatDoorDist
namespace Go.Proofs.YtdapflgfocideaaGreatDoor
open Go Go.RowKit Go.Deep
theorem S38 : Tryz.prog.underlying 38 = some (.struct (Tryz.prog.fieldsOf 38)) := by kernel_rfl
theorem S31 : Tryz.prog.underlying 31 = some (.struct (Tryz.prog.fieldsOf 31)) := by kernel_rfl
theorem H38 : Tryz.prog.stoodInHeld 38 = false := by kernel_rfl
theorem H31 : Tryz.prog.stoodInHeld 31 = false := by kernel_rfl
theorem G38 : Tryz.prog.eqGuardType Tryz.prog.depth 38 = false := by kernel_rfl
theorem G31 : Tryz.prog.eqGuardType Tryz.prog.depth 31 = false := by kernel_rfl
@[go_sem] theorem eqO (x y : Int) (s t : ByteArray) (w : World) : (Op.equalIn 10000 38 (.agg #[.int .i64 x, .string s]) (.agg #[.int .i64 y, .string t])).run Tryz.prog w = .ok ((x == y) && (s.toList == t.toList)) w := by
  have u3 := Tryz.underlying3
  have a3 := Tryz.isAgg3
  have z3 := Tryz.sizeOf3
  have u29 := und29
  have a29 := Tryz.isAgg29
  have z29 := Tryz.sizeOf29
  rw [show (10000 : Nat) = 9999 + 1 from rfl, run_equalIn_agg w 9999 38 _ _ S38 H38]
  simp only [Program.fieldsOf, Tryz.underlying38]
  go_simp
  by_cases h1 : x = y <;> by_cases h2 : s.toList = t.toList <;> simp [h1, h2]
@[go_sem] theorem eqR (m n : Bool) (p q r s : ByteArray) (w : World) : (Op.equalIn 10000 31 (.agg #[.bool m, .string p, .string q]) (.agg #[.bool n, .string r, .string s])).run Tryz.prog w = .ok ((m == n) && ((p.toList == r.toList) && (q.toList == s.toList))) w := by
  have u4 := Tryz.underlying4
  have a4 := Tryz.isAgg4
  have z4 := Tryz.sizeOf4
  have u29 := und29
  have a29 := Tryz.isAgg29
  have z29 := Tryz.sizeOf29
  rw [show (10000 : Nat) = 9999 + 1 from rfl, run_equalIn_agg w 9999 31 _ _ S31 H31]
  simp only [Program.fieldsOf, Tryz.underlying31]
  go_simp
  cases m <;> cases n <;> by_cases h1 : p.toList = r.toList <;> by_cases h2 : q.toList = s.toList <;> simp [h1, h2]
theorem guardO (op : BinOp) (x y : Operand) (xs ys : Array Value) (w : World) : (eqGuard op 38 x y (.agg xs) (.agg ys)).run Tryz.prog w = .ok () w := run_eqGuard_agg w op 38 x y xs ys G38
theorem guardR (op : BinOp) (x y : Operand) (xs ys : Array Value) (w : World) : (eqGuard op 31 x y (.agg xs) (.agg ys)).run Tryz.prog w = .ok () w := run_eqGuard_agg w op 31 x y xs ys G31
end Go.Proofs.YtdapflgfocideaaGreatDoor
