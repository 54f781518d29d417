/- Months: are they one, by the document, walked (for those that are). -/
import Derived.Test.YtbdkhgenkekioaaMoB
import Derived.Deep.DeepFit
namespace Go.Proofs.Ytbdkhgenkekioaa
open Go.RowKit Go.V Go.Sort Go.Shelf Go.Proofs Go.Maps
open Go.Proofs.Ytbdkhgenkekioaa.Ne (box_alloc box_new box_cell box_below box_lt box2_cells)

set_option maxHeartbeats 4000000 in
set_option maxRecDepth 100000 in
theorem rmsame_eq (a1 : Option Addr) (n c1 : Nat) (hs1 : List Hdr) (a2 : Option Addr) (c2 : Nat) (hs2 : List Hdr) (ms : List Mon) (w : World) (hn : n ≤ 1000000) (hl : ∀ m ∈ ms, m.rides.length ≤ 1000000) (h1 : MonIn w a1 n c1 hs1 ms) (h2 : MonIn w a2 n c2 hs2 ms) :
    Calls Try.prog 13 #[.slice a1 n c1, .slice a2 n c2] w fun e w' => e = .returned (.bool true) ∧ Below w.heap.size w w' := by
  go_enter Try.func13, Try.ntmps13
  go_wp2_with fail
  go_loopw [5] (fun i wr => ∃ k : Nat, i = .int .i64 k ∧ k ≤ n ∧ Hid (Below w.heap.size w wr)) (fun i _ => n - (intOf i).toNat)
  case atStart => exact ⟨0, rfl, by omega, Below.refl _ _⟩
  case round =>
    obtain ⟨k, rfl, hk, hB⟩ := hrel
    by_cases hlt : k < n
    · obtain ⟨b, off, at_, ct, m, rfl, hbb, hm, -, ⟨c0, c1', c2', c3, c4, c5⟩, hrd⟩ := (h1.below hB.out).at hlt
      obtain ⟨b2, off2, at2, ct2, m2, rfl, hbb2, hm2, -, ⟨d0, d1, d2, d3, d4, d5⟩, hrd2⟩ := (h2.below hB.out).at hlt
      have := hm.symm.trans hm2
      cases this
      have HL := Lib.hid (hl m (List.mem_of_getElem? hm))
      have HRD := Lib.hid hrd
      have HRD2 := Lib.hid hrd2
      have hbs := hB.out.size
      have b1 : (k : Int) < (n : Int) := by omega
      clear hm hm2 hrd hrd2
      go_upto_region 8 with fail
      have X0 : Hid (((wr.alloc (.cells #[.int .i64 m.a, .int .i64 m.m, .int .i64 m.t, .int .i64 m.c, .slice at_ m.rides.length ct, .bool m.z] 27)).alloc (.cells #[.int .i64 m.a, .int .i64 m.m, .int .i64 m.t, .int .i64 m.c, .slice at2 m.rides.length ct2, .bool m.z] 27)).heap[wr.heap.size]? = some (.cells #[.int .i64 m.a, .int .i64 m.m, .int .i64 m.t, .int .i64 m.c, .slice at_ m.rides.length ct, .bool m.z] 27 (0, 0))) := box_alloc (box_new wr _)
      have X2 : Hid (((wr.alloc (.cells #[.int .i64 m.a, .int .i64 m.m, .int .i64 m.t, .int .i64 m.c, .slice at_ m.rides.length ct, .bool m.z] 27)).alloc (.cells #[.int .i64 m.a, .int .i64 m.m, .int .i64 m.t, .int .i64 m.c, .slice at2 m.rides.length ct2, .bool m.z] 27)).heap[wr.heap.size + 1]? = some (.cells #[.int .i64 m.a, .int .i64 m.m, .int .i64 m.t, .int .i64 m.c, .slice at2 m.rides.length ct2, .bool m.z] 27 (0, 0))) := by
        have := box_new (wr.alloc (.cells #[.int .i64 m.a, .int .i64 m.m, .int .i64 m.t, .int .i64 m.c, .slice at_ m.rides.length ct, .bool m.z] 27)) (.cells #[.int .i64 m.a, .int .i64 m.m, .int .i64 m.t, .int .i64 m.c, .slice at2 m.rides.length ct2, .bool m.z] 27)
        rwa [World.size_alloc] at this
      have B0 : Hid (Below wr.heap.size wr ((wr.alloc (.cells #[.int .i64 m.a, .int .i64 m.m, .int .i64 m.t, .int .i64 m.c, .slice at_ m.rides.length ct, .bool m.z] 27)).alloc (.cells #[.int .i64 m.a, .int .i64 m.m, .int .i64 m.t, .int .i64 m.c, .slice at2 m.rides.length ct2, .bool m.z] 27))) := ((Below.refl _ _).alloc (Nat.le_refl _) _).alloc (by simp) _
      obtain ⟨W, hW⟩ : ∃ W, (wr.alloc (.cells #[.int .i64 m.a, .int .i64 m.m, .int .i64 m.t, .int .i64 m.c, .slice at_ m.rides.length ct, .bool m.z] 27)).alloc (.cells #[.int .i64 m.a, .int .i64 m.m, .int .i64 m.t, .int .i64 m.c, .slice at2 m.rides.length ct2, .bool m.z] 27) = W := ⟨_, rfl⟩
      rw [hW] at X0 X2 B0 ⊢
      clear hW c0 c1' c2' c3 c4 c5 d0 d1 d2 d3 d4 d5
      have HBW : Hid (Below w.heap.size w W) := hB.out.trans (B0.out.mono hbs)
      obtain ⟨y0, y1, y2, y3, y4, y5⟩ := box6_cells X0.out
      obtain ⟨z0, z1, z2, z3, z4, z5⟩ := box6_cells X2.out
      have hz1 := box_lt X0.out
      have hz2 := box_lt X2.out
      go_wp2_with (go_at_call 45; refine (same_any at_ m.rides.length ct m.rides at2 m.rides.length ct2 m.rides _ HL.out (HRD.out.below B0.out) (HRD2.out.below B0.out)).mono ?_; rintro e w3 ⟨rfl, hb3⟩; rw [show decide (m.rides = m.rides) = true from decide_eq_true rfl]; have HB3 := Lib.hid (HBW.out.trans (hb3.mono HBW.out.size)); clear hb3)
      go_roundw
      case rel => exact ⟨k + 1, by go_num, by omega, HB3.out⟩
      case measure => simp [intOf]; omega
    · have hk' : k = n := by omega
      subst hk'
      go_wp2_with fail
      go_ret
      exact ⟨rfl, hB.out⟩
end Go.Proofs.Ytbdkhgenkekioaa
