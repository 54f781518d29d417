/- Months: what a turn does to one of them, walked. -/
import Derived.Test.YtbdkhgenkekioaaMoM
namespace Go.Proofs.Ytbdkhgenkekioaa
open Go.RowKit Go.V Go.Sort Go.Shelf Go.Proofs Go.Maps

set_option maxHeartbeats 1000000 in
theorem close1_any (g o : Nat) (z : Bool) (w : World) (h : w.cell? ⟨g, o + 5, none⟩ = some (.bool z)) (hf : w.frozen? ⟨g, o + 5, none⟩ = false) :
    Calls Try.prog 52 #[.pointer (some ⟨g, o, none⟩)] w fun e w' => e = .returned (.int .i64 0) ∧ w' = w.setCell ⟨g, o + 5, none⟩ (.bool true) := by
  have hgb := World.block_lt_of_cell? w _ h
  go_enter Try.func52, Try.ntmps52
  go_wp2_with fail
  go_ret
  exact ⟨rfl, rfl⟩
end Go.Proofs.Ytbdkhgenkekioaa
