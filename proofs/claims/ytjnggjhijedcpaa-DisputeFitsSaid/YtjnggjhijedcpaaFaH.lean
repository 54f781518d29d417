/- Fares: a group's cost. -/
import Derived.Test.YtjnggjhijedcpaaFaG
namespace Go.Proofs.Ytjnggjhijedcpaa
open Go.RowKit Go.V Go.Proofs

def Tar.box (t : Tar) (hb hs hr : Hdr) : Obj := .cells #[.int .i64 t.ver, .slice hb.a hb.n hb.cap, .int .i64 t.over, .int .i64 t.full, .slice hs.a hs.n hs.cap, .int .i64 t.unit, .int .i64 t.window, .int .i64 t.chain, .slice hr.a hr.n hr.cap] 26

set_option maxHeartbeats 2000000 in
theorem cost_any (t : Tar) (hb hs hr : Hdr) (c : Nat) (s far : Int) (w : World) (hm : hb.n ≤ 1000000 ∧ hs.n ≤ 1000000) (hok : tarOk t = true) (hc : t.shares[c]? = some s) (hf : -1 ≤ far ∧ far ≤ 4294967296) (h : TarIn w t hb hs hr) :
    Calls Try.prog 61 #[t.val hb hs hr, .int .i64 c, .int .i64 far] w fun e w' => e = .returned (.tuple #[.int .i64 (costOf t s far), .int .i64 0]) ∧ Below w.heap.size w w' := by
  have HC := Lib.hid hc
  clear hc
  unfold Tar.val
  go_enter Try.func61, Try.ntmps61
  go_wp2_with (go_at_call 128; refine (through_any t hb hs hr w.heap.size (w.heap.size + 1) (w.heap.size + 1 + 1) c s far _ hm hok HC.out hf (h.below ?b1) ?tb ?gc ?f0 ?f1 ?f2).mono ?k)
  case b1 => exact (((Below.refl _ _).alloc (Nat.le_refl _) _).alloc (by simp) _).alloc (by simp; omega) _
  case tb => exact box_alloc (box_alloc (box_new w _))
  case gc => simp [go_sem]
  case f0 => simp [go_sem]
  case f1 => simp [go_sem]
  case f2 => simp [go_sem]
  case k =>
    rintro e w1 ⟨rfl, hb1⟩
    go_wp2_with fail
    go_ret2
    exact ⟨rfl, ((((Below.refl _ _).alloc (Nat.le_refl _) _).alloc (by simp) _).alloc (by simp; omega) _).trans (hb1.mono (by simp; omega))⟩
end Go.Proofs.Ytjnggjhijedcpaa
