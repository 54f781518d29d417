/- Grids: the document's square; clones; which grids may be; cells by definition. -/
import Derived.Test.YtknbpnkonhniiaaGrC
import Derived.Test.YtknbpnkonhniiaaIr
namespace Go.Proofs.Ytknbpnkonhniiaa.Ne
open Go.RowKit Go.V Go.Proofs

set_option maxHeartbeats 1000000 in
set_option maxRecDepth 100000 in
theorem rsq_any (p q : Stp) (w : World) :
    Calls Try.prog 31 #[p.val, q.val] w fun e w' => e = .returned (.int .i64 (sqE p q)) ∧ Below w.heap.size w w' := by
  have HX0 := Lib.hid (box_alloc (o := .cells #[.int .i64 q.x, .int .i64 q.y] 53) (box_new w (.cells #[.int .i64 p.x, .int .i64 p.y] 53)))
  have HY0 := Lib.hid (box_new (w.alloc (.cells #[.int .i64 p.x, .int .i64 p.y] 53)) (.cells #[.int .i64 q.x, .int .i64 q.y] 53))
  rw [World.size_alloc] at HY0
  have HB0 : Hid (Below w.heap.size w ((w.alloc (.cells #[.int .i64 p.x, .int .i64 p.y] 53)).alloc (.cells #[.int .i64 q.x, .int .i64 q.y] 53))) := ((Below.refl _ _).alloc (Nat.le_refl _) _).alloc (by simp) _
  obtain ⟨r, hr⟩ : ∃ r, sqE p q = r := ⟨_, rfl⟩
  have HR := Lib.hid hr
  rw [hr]
  clear hr
  obtain ⟨bp, hbp⟩ : ∃ b, stpB p = b := ⟨_, rfl⟩
  obtain ⟨bq, hbq⟩ : ∃ b, stpB q = b := ⟨_, rfl⟩
  have HP := Lib.hid hbp
  have HQ := Lib.hid hbq
  clear hbp hbq
  cases bp with
  | false =>
    have hz : 0 = r := by rw [← HR.out, sqE, if_neg (fun h => by rw [HP.out] at h; cases h.1)]
    subst hz
    go_enter Try.func31, Try.ntmps31
    go_wp2_with (go_at_call 23; refine (rmay_any p.x p.y _).mono ?_; rintro e w1 ⟨rfl, rfl⟩; rw [stp_may, HP.out])
    go_ret
    exact ⟨rfl, HB0.out⟩
  | true =>
    cases bq with
    | false =>
      have hz : 0 = r := by rw [← HR.out, sqE, if_neg (fun h => by rw [HQ.out] at h; cases h.2)]
      subst hz
      go_enter Try.func31, Try.ntmps31
      go_wp2_with (first
        | (go_at_call 23; go_fit (rmay_any p.x p.y _); rintro e w1 ⟨rfl, rfl⟩; rw [stp_may, HP.out])
        | (go_at_call 23; go_fit (rmay_any q.x q.y _); rintro e w2 ⟨rfl, rfl⟩; rw [stp_may, HQ.out]))
      go_ret
      exact ⟨rfl, HB0.out⟩
    | true =>
      have h1 := of_decide_eq_true HP.out
      have h2 := of_decide_eq_true HQ.out
      obtain ⟨m, hm⟩ : ∃ m, (p.x - q.x) * (p.x - q.x) = m := ⟨_, rfl⟩
      obtain ⟨k, hk⟩ : ∃ k, (p.y - q.y) * (p.y - q.y) = k := ⟨_, rfl⟩
      have hmm := sq_in ⟨h1.1, h1.2.1⟩ ⟨h2.1, h2.2.1⟩
      have hkk := sq_in ⟨h1.2.2.1, h1.2.2.2⟩ ⟨h2.2.2.1, h2.2.2.2⟩
      rw [hm] at hmm
      rw [hk] at hkk
      have hz : m + k = r := by rw [← HR.out, sqE, if_pos ⟨HP.out, HQ.out⟩, hm, hk]
      obtain ⟨a0, a1, a2, a3⟩ := h1
      obtain ⟨b0, b1, b2, b3⟩ := h2
      obtain ⟨dx, hdx⟩ : ∃ dx, p.x - q.x = dx := ⟨_, rfl⟩
      obtain ⟨dy, hdy⟩ : ∃ dy, p.y - q.y = dy := ⟨_, rfl⟩
      rw [hdx] at hm
      rw [hdy] at hk
      have hwx : IntKind.i64.wrap (p.x - q.x) = dx := by rw [hdx, IntKind.wrap_i64]; omega
      have hwy : IntKind.i64.wrap (p.y - q.y) = dy := by rw [hdy, IntKind.wrap_i64]; omega
      have HZ := Lib.hid hz
      clear hz
      go_enter Try.func31, Try.ntmps31
      go_wp2_with (first
        | (go_at_call 23; go_fit (rmay_any p.x p.y _); rintro e w1 ⟨rfl, rfl⟩; rw [stp_may, HP.out])
        | (go_at_call 23; go_fit (rmay_any q.x q.y _); rintro e w2 ⟨rfl, rfl⟩; rw [stp_may, HQ.out]))
      go_ret
      exact ⟨ret_int HZ.out, HB0.out⟩

theorem infoS : (Try.prog.info? 53).map (fun i => (i.zero, i.size, i.bytes)) = some (some (.agg #[.int .i64 0, .int .i64 0]), 2, 16) := by kernel_rfl
theorem eltStp : Elt Try.prog 22 53 Stp.cod 16 := Elt.of Try.underlying22 infoS rfl (by decide)

set_option maxHeartbeats 1000000 in
theorem sclone_any (a : Option Addr) (n cap : Nat) (xs : List Stp) (w : World) (hn : n ≤ 1000000000) (h : Sl Stp.cod w a n cap xs) :
    Calls Try.prog 24 #[.slice a n cap] w fun e w' => ∃ v, e = .returned v ∧ V.Own 53 Stp.cod w.heap.size w' v xs ∧ Below w.heap.size w w' := by
  have hq := fun w a n c => Lib.run_eql_slice_nil (P := Try.prog) w 22 53 a n c 0 0 Try.underlying22
  cases a with
  | none =>
    obtain ⟨rfl, rfl⟩ := h.hnil rfl
    have hx : xs = [] := by have := h.hlen; exact List.eq_nil_of_length_eq_zero this.symm
    subst hx
    go_enter Try.func24, Try.ntmps24
    go_wp2
    go_ret
    exact ⟨_, rfl, World.ownsRow_nil _ _ _ _, Below.refl _ _⟩
  | some d =>
    have HS := Lib.hid h
    have HM1 : Hid (([] : List Stp).length + n ≤ maxLen) := by show _ ≤ _; unfold maxLen; simp; omega
    have HM2 : Hid ((([] : List Stp).length + n) * 16 ≤ 140737488355328) := by show _ ≤ _; simp; omega
    clear h
    go_enter Try.func24, Try.ntmps24
    go_wp2_with (at_builtin; go_loud (refine wpList_app eltStp rfl (.tmp 5) (.tmp 6) rfl (base := w.heap.size) _ [] rfl (own_new (c := Stp.cod) w #[] 53 w.heap.size [] 0 rfl (Nat.le_refl _) (by unfold maxLen; omega) rfl) _ n cap xs rfl (HS.out.below ((Below.refl _ _).alloc (Nat.le_refl _) _)) HM1.out HM2.out (by simp) ?_); intro v1 w1 ho hg; have HO1 := Lib.hid ho; have HG1 := Lib.hid hg; clear ho hg)
    go_ret
    exact ⟨_, rfl, HO1.out, ((Below.refl _ _).alloc (Nat.le_refl _) _).trans (Ir.own_below (own_new (c := Stp.cod) w #[] 53 w.heap.size [] 0 rfl (Nat.le_refl _) (by unfold maxLen; omega) rfl) HG1.out (by simp))⟩

/-- May there be such a grid? -/
def rightE (S : List Stp) (z : Int) : Int := if z < 1 ∨ 67108864 < z then 2 else if S.all stpB = true then 0 else 2
theorem all_not {S : List Stp} {k : Nat} {s : Stp} (h : S[k]? = some s) (hs : stpB s = false) : S.all stpB = false := by
  rw [← Bool.not_eq_true]
  intro hh
  rw [List.all_eq_true] at hh
  have := hh s (List.mem_of_getElem? h)
  rw [hs] at this; cases this
end Go.Proofs.Ytknbpnkonhniiaa.Ne
