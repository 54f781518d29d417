/- Fields: the document's reader, walked: raw. -/
import Derived.Test.YtbdkhgenkekioaaWiX
import Derived.BigQuiet
import Derived.Deep.QuietTactic
namespace Go.Proofs.Ytbdkhgenkekioaa.Wi
open Go.RowKit Go.V Go.Proofs Go.Sort
open Go.Proofs.Ytbdkhgenkekioaa.Ne (box_alloc box_new box_cell box_below box_lt box3_cells)

theorem grown_of_below {w w' : World} {g : Nat} (h : Below w.heap.size w w') : w.grownBy w' (some g) := ⟨h.os, h.tape, h.output, h.size, fun k hk _ => h.block k hk⟩
theorem grown_set {w w' : World} {g i : Nat} {v : Value} (h : w.grownBy w' (some g)) : w.grownBy (w'.setCell ⟨g, i, none⟩ v) (some g) :=
  ⟨h.os, h.tape, h.output, by simpa using h.size, fun k hk hne => (heap_setCell_other w' ⟨g, i, none⟩ k v (fun e => hne (by simp [e]))).trans (h.block k hk hne)⟩

set_option maxHeartbeats 4000000 in
theorem rraw_any (g : Nat) (a : Option Addr) (n cap : Nat) (at_ : Nat) (bad : Int) (c : List Int) (w : World) (hb : Rb w g a n cap at_ bad) (hs : Sl bcod w a n cap c) (hB : Byt c) (hn : n ≤ 1000000000) (hat : at_ ≤ n) :
    Calls Try.prog 110 #[.pointer (some ⟨g, 0, none⟩)] w fun e w' => (bad ≠ 0 → e = .returned (.tuple #[.int .u64 0, .int .i64 0]) ∧ Rb w' g a n cap at_ bad) ∧ (bad = 0 → e = .returned (.tuple #[.int .u64 ((takeV (c.drop at_)).1 : Int), .int .i64 ((takeV (c.drop at_)).2.1 : Int)]) ∧ Rb w' g a n cap at_ (takeV (c.drop at_)).2.2) ∧ w.grownBy w' (some g) := by
  have mixed : Try.prog.follows .mixedOrders = true := by kernel_rfl
  have HRB := Lib.hid hb
  have HS := Lib.hid hs
  obtain ⟨c0, c1, c2, -, -, z2⟩ := box3_cells hb
  have HBY := Lib.hid hB
  clear hb hs hB
  by_cases h0 : bad = 0
  case neg =>
    have h0' : (bad != 0) = true := by simpa using h0
    have H0 := Lib.hid h0
    clear h0
    go_enter Try.func110, Try.ntmps110
    go_wp2_with fail
    go_ret2
    exact ⟨fun _ => ⟨rfl, HRB.out⟩, fun q => absurd q H0.out, grown_of_below (Below.refl _ _)⟩
  case pos =>
    subst h0
    have hsl : ∀ W : World, (Instr.slice 47 (.slice a n cap) (some (.int .i64 (at_ : Int))) none none).run Try.prog W = .ok (.slice (if cap = at_ then a else a.map (·.add (at_ * bcod.k))) (n - at_) (cap - at_)) W := fun W => brun_from HS.out hat W
    have HSF := Lib.hid (sl_from HS.out hat)
    obtain ⟨a', ha'⟩ : ∃ a', (if cap = at_ then a else a.map (·.add (at_ * bcod.k))) = a' := ⟨_, rfl⟩
    rw [ha'] at HSF
    simp only [ha'] at hsl
    clear ha'
    obtain ⟨m, hm⟩ : ∃ m, n - at_ = m := ⟨_, rfl⟩
    obtain ⟨cp, hcp⟩ : ∃ cp, cap - at_ = cp := ⟨_, rfl⟩
    have hm9 : m ≤ 1000000000 := by omega
    rw [hm, hcp] at HSF
    simp only [hm, hcp] at hsl
    clear hm hcp
    have HBD := Lib.hid (HBY.out.drop at_)
    obtain ⟨t, ht⟩ : ∃ t, takeV (c.drop at_) = t := ⟨_, rfl⟩
    obtain ⟨N, K, E⟩ := t
    have HT := Lib.hid ht
    clear ht
    go_enter Try.func110, Try.ntmps110
    go_upto_region 3 with fail
    have K0 := cell_regrown c0
    have K1 := cell_regrown c1
    have hrt : ∀ nd osq, Calls Try.prog 130 #[.slice a' m cp] (Go.Sort.grow (redrawn w nd) osq) fun e w' => e = .returned (.tuple #[.int .u64 (N : Int), .int .i64 (K : Int), .int .i64 E]) ∧ Below (Go.Sort.grow (redrawn w nd) osq).heap.size (Go.Sort.grow (redrawn w nd) osq) w' := fun nd osq => by
      have := rtake_any a' m cp (c.drop at_) (Go.Sort.grow (redrawn w nd) osq) (HSF.out.below (below_regrown _ _ _)) HBD.out hm9
      rwa [HT.out] at this
    refine wp_region_quiet_below (by assumption) (by kernel_rfl) ?_
    repeat (go_big_quiet_step ((go_at_call 130; exact Calls.regrown_of (hrt _ _))))
    refine wpQuiet_nil ?_
    intro w2 hw2
    obtain ⟨⟨nd, osq⟩, rfl⟩ := hw2
    have HB2 := Lib.hid (below_regrown w nd osq)
    have z2' : (Go.Sort.grow (redrawn w nd) osq).frozen? ⟨g, 2, none⟩ = false := by
      have := (box_cell ((HB2.out.block g (box_lt HRB.out)).trans HRB.out) 2).2
      exact this
    have K2 := cell_regrown c2 nd osq
    have HRB2 : Hid (Rb (Go.Sort.grow (redrawn w nd) osq) g a n cap at_ 0) := (HB2.out.block g (box_lt HRB.out)).trans HRB.out
    generalize Go.Sort.grow (redrawn w nd) osq = w2 at HB2 z2' K2 HRB2 ⊢
    by_cases hE : E = 0
    · subst hE
      go_wp2_with fail
      go_ret2
      exact ⟨fun q => absurd rfl q, fun _ => ⟨by rw [HT.out]; rfl, by rw [HT.out]; exact HRB2.out⟩, grown_of_below HB2.out⟩
    · have hE' : (E != 0) = true := by simpa using hE
      clear hE
      go_wp2_with fail
      go_ret2
      exact ⟨fun q => absurd rfl q, fun _ => ⟨by rw [HT.out]; rfl, by rw [HT.out]; exact heap_setCell_same w2 g 2 _ _ _ HRB2.out⟩, grown_set (grown_of_below HB2.out)⟩
end Go.Proofs.Ytbdkhgenkekioaa.Wi
