/- The transfer layer: Clone and Sort. -/
import Derived.Test.YtjnggjhijedcpaaTrA
namespace Go.Proofs.Ytjnggjhijedcpaa
open Go.RowKit Go.V Go.Sort Go.Shelf Go.Proofs

theorem infoRide : (Try.prog.info? 42).map (fun i => (i.zero, i.size, i.bytes)) = some (some (.agg #[.int .i64 0, .int .i64 0, .int .i64 0, .int .i64 0]), 4, 32) := by kernel_rfl

/-- The slice a call made itself: it reads as xs, nobody else has it. -/
def OwnR (base : Nat) (w : World) (v : Value) (xs : List Ride) : Prop := w.ownsRow base 42 4 v xs.length (xs.flatMap Ride.enc)

theorem add_zero_addr (b off j : Nat) : (⟨b, off, none⟩ : Addr).add j = ⟨b, off + j, none⟩ := by
  unfold Addr.add; split <;> simp_all

set_option maxHeartbeats 1000000 in
theorem clone_any (a : Option Addr) (n cap : Nat) (xs : List Ride) (w : World) (hn : n ≤ 1099511627776) (h : Sl Ride.cod w a n cap xs) :
    Calls Try.prog 84 #[.slice a n cap] w fun e w' => ∃ v, e = .returned v ∧ OwnR w.heap.size w' v xs ∧ Below w.heap.size w w' ∧ (a ≠ none → v ≠ .slice none 0 0) := by
  cases a with
  | none =>
    obtain ⟨rfl, rfl⟩ := h.hnil rfl
    have hx : xs = [] := by have := h.hlen; exact List.eq_nil_of_length_eq_zero this.symm
    subst hx
    have hq := fun w a n c => Lib.run_eql_slice_nil (P := Try.prog) w 27 42 a n c 0 0 Try.underlying27
    go_enter Try.func84, Try.ntmps84
    go_wp2
    go_ret
    exact ⟨_, rfl, World.ownsRow_nil _ _ _ _, Below.refl _ _, fun h => absurd rfl h⟩
  | some d =>
    obtain ⟨h1, h2, h3⟩ := h.hat d rfl
    obtain ⟨b, off, sp⟩ := d
    simp at h1; subst h1
    obtain ⟨i0, hi, hz0, hz1, hz2⟩ := info_parts infoRide
    have hlen := Lib.hid h.hlen
    have HL : Hid ((xs.flatMap Ride.enc).length = n * 4) := by show (xs.flatMap Ride.cod.enc).length = _; rw [flat_len Ride.cod xs, ← h.hlen]; rfl
    have HC : Hid (∀ o, ∀ j u, (xs.flatMap Ride.enc)[j]? = some u → (w.alloc o).cell? ((⟨b, off, none⟩ : Addr).add j) = some u) := by
      intro o j u hu
      rw [add_zero_addr, World.cell?_alloc_lt _ _ _ (by simpa using h2)]
      exact h3 j u hu
    have HO : Hid (∀ u ∈ xs.flatMap Ride.enc, u.oneCell' = true) := fun u hu => by obtain ⟨x, -, hx⟩ := List.mem_flatMap.1 hu; exact Ride.enc_one x u hx
    have HM : Hid (0 + n ≤ maxLen) := by show _ ≤ _; unfold maxLen; omega
    have HB : Hid ((0 + n) * 32 ≤ 140737488355328) := by show _ ≤ _; omega
    clear h3 h
    have hq := fun w a n c => Lib.run_eql_slice_nil (P := Try.prog) w 27 42 a n c 0 0 Try.underlying27
    go_enter Try.func84, Try.ntmps84
    go_wp2_with (at_builtin; refine wpList_append_own _ rfl _ _ 27 rfl w.heap.size 42 i0 (.agg #[.int .i64 0, .int .i64 0, .int .i64 0, .int .i64 0]) 4 32 Try.underlying27 hi hz0 hz1 hz2 rfl (by decide) _ 0 [] rfl (World.ownsRow_made _ _ 0 (Nat.le_refl _) (by decide) rfl) ⟨b, off, none⟩ n cap (xs.flatMap Ride.enc) rfl HL.out (HC.out _) HO.out HM.out HB.out (by simp) ?_)
    intro v' w1 hown hgrow hnil
    have HW := Lib.hid hown
    have HG := Lib.hid hgrow
    have HN := Lib.hid hnil
    clear hown hgrow hnil
    go_wp2
    go_ret
    refine ⟨v', rfl, ?_, ?_, fun _ h => HN.out h⟩
    · have := HW.out
      rw [hlen.out] at this
      exact this
    · exact ((Below.refl _ _).alloc (Nat.le_refl _) _).grown HG.out (by simp) (fun k hk => by simp [Value.ownBlock] at hk; omega)

theorem ownR_sl {base : Nat} {w : World} {v : Value} {xs : List Ride} (h : OwnR base w v xs) : ∃ a cap, v = .slice a xs.length cap ∧ Sl Ride.cod w a xs.length cap xs ∧ (∀ d, a = some d → ∃ g cur, d = ⟨g, 0, none⟩ ∧ base ≤ g ∧ w.heap[g]? = some (.cells cur 42 (0, 0))) := by
  obtain ⟨h1, h2⟩ := id h
  rcases h2 with ⟨rfl, hn⟩ | ⟨g, cap, cur, rfl, hb, hg, hn, hm, hs, ht⟩
  · have : xs = [] := List.eq_nil_of_length_eq_zero hn
    subst this
    exact ⟨none, 0, rfl, ⟨rfl, Nat.le_refl _, by unfold maxLen; omega, (fun _ => ⟨rfl, rfl⟩), (fun d hd => nomatch hd)⟩, (fun d hd => nomatch hd)⟩
  · refine ⟨some ⟨g, 0, none⟩, cap, rfl, ⟨rfl, hn, hm, (fun hd => nomatch hd), (fun d hd => ?_)⟩, (fun d hd => ?_)⟩
    · simp at hd; subst hd
      refine ⟨rfl, (Array.getElem?_eq_some_iff.1 hg).1, fun j u hu => ?_⟩
      have := World.ownsRow.cells h (g := g) rfl j u hu
      rwa [add_zero_addr] at this
    · simp at hd; subst hd
      exact ⟨g, cur, rfl, hb, hg⟩
end Go.Proofs.Ytjnggjhijedcpaa
