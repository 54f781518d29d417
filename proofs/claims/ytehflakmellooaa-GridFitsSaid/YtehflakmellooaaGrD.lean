/- Grids: the document's square; clones; which grids may be; cells by definition. -/
import Derived.Test.YtehflakmellooaaGrC
import Derived.Test.YtehflakmellooaaIr
namespace Go.Proofs.Ytehflakmellooaa.Ne
open Go.RowKit Go.V Go.Proofs

set_option maxHeartbeats 1000000 in
set_option maxRecDepth 100000 in
theorem rsq_any (p q : Stp) (w : World) :
    Calls Try.prog 25 #[p.val, q.val] w fun e w' => e = .returned (.int .i64 (sqE p q)) ∧ Below w.heap.size w w' := by
  have HX0 := Lib.hid (box_alloc (o := .cells #[.int .i64 q.x, .int .i64 q.y] 38) (box_new w (.cells #[.int .i64 p.x, .int .i64 p.y] 38)))
  have HY0 := Lib.hid (box_new (w.alloc (.cells #[.int .i64 p.x, .int .i64 p.y] 38)) (.cells #[.int .i64 q.x, .int .i64 q.y] 38))
  rw [World.size_alloc] at HY0
  have HB0 : Hid (Below w.heap.size w ((w.alloc (.cells #[.int .i64 p.x, .int .i64 p.y] 38)).alloc (.cells #[.int .i64 q.x, .int .i64 q.y] 38))) := ((Below.refl _ _).alloc (Nat.le_refl _) _).alloc (by simp) _
  obtain ⟨r, hr⟩ : ∃ r, sqE p q = r := ⟨_, rfl⟩
  have HR := Lib.hid hr
  rw [hr]
  clear hr
  obtain ⟨bp, hbp⟩ : ∃ b, stpB p = b := ⟨_, rfl⟩
  obtain ⟨bq, hbq⟩ : ∃ b, stpB q = b := ⟨_, rfl⟩
  have HP := Lib.hid hbp
  have HQ := Lib.hid hbq
  clear hbp hbq
  cases bp with
  | false =>
    have hz : 0 = r := by rw [← HR.out, sqE, if_neg (fun h => by rw [HP.out] at h; cases h.1)]
    subst hz
    go_enter Try.func25, Try.ntmps25
    go_wp2_with (go_at_call 14; refine (rmay_any p.x p.y _).mono ?_; rintro e w1 ⟨rfl, rfl⟩; rw [stp_may, HP.out])
    go_ret
    exact ⟨rfl, HB0.out⟩
  | true =>
    cases bq with
    | false =>
      have hz : 0 = r := by rw [← HR.out, sqE, if_neg (fun h => by rw [HQ.out] at h; cases h.2)]
      subst hz
      go_enter Try.func25, Try.ntmps25
      go_wp2_with (first
        | (go_at_call 14; go_fit (rmay_any p.x p.y _); rintro e w1 ⟨rfl, rfl⟩; rw [stp_may, HP.out])
        | (go_at_call 14; go_fit (rmay_any q.x q.y _); rintro e w2 ⟨rfl, rfl⟩; rw [stp_may, HQ.out]))
      go_ret
      exact ⟨rfl, HB0.out⟩
    | true =>
      have h1 := of_decide_eq_true HP.out
      have h2 := of_decide_eq_true HQ.out
      obtain ⟨m, hm⟩ : ∃ m, (p.x - q.x) * (p.x - q.x) = m := ⟨_, rfl⟩
      obtain ⟨k, hk⟩ : ∃ k, (p.y - q.y) * (p.y - q.y) = k := ⟨_, rfl⟩
      have hmm := sq_in ⟨h1.1, h1.2.1⟩ ⟨h2.1, h2.2.1⟩
      have hkk := sq_in ⟨h1.2.2.1, h1.2.2.2⟩ ⟨h2.2.2.1, h2.2.2.2⟩
      rw [hm] at hmm
      rw [hk] at hkk
      have hz : m + k = r := by rw [← HR.out, sqE, if_pos ⟨HP.out, HQ.out⟩, hm, hk]
      obtain ⟨a0, a1, a2, a3⟩ := h1
      obtain ⟨b0, b1, b2, b3⟩ := h2
      obtain ⟨dx, hdx⟩ : ∃ dx, p.x - q.x = dx := ⟨_, rfl⟩
      obtain ⟨dy, hdy⟩ : ∃ dy, p.y - q.y = dy := ⟨_, rfl⟩
      rw [hdx] at hm
      rw [hdy] at hk
      have hwx : IntKind.i64.wrap (p.x - q.x) = dx := by rw [hdx, IntKind.wrap_i64]; omega
      have hwy : IntKind.i64.wrap (p.y - q.y) = dy := by rw [hdy, IntKind.wrap_i64]; omega
      have HZ := Lib.hid hz
      clear hz
      go_enter Try.func25, Try.ntmps25
      go_wp2_with (first
        | (go_at_call 14; go_fit (rmay_any p.x p.y _); rintro e w1 ⟨rfl, rfl⟩; rw [stp_may, HP.out])
        | (go_at_call 14; go_fit (rmay_any q.x q.y _); rintro e w2 ⟨rfl, rfl⟩; rw [stp_may, HQ.out]))
      go_ret
      exact ⟨ret_int HZ.out, HB0.out⟩

theorem infoS : (Try.prog.info? 38).map (fun i => (i.zero, i.size, i.bytes)) = some (some (.agg #[.int .i64 0, .int .i64 0]), 2, 16) := by kernel_rfl
theorem eltStp : Elt Try.prog 22 38 Stp.cod 16 := Elt.of Try.underlying22 infoS rfl (by decide)

set_option maxHeartbeats 1000000 in
theorem sclone_any (a : Option Addr) (n cap : Nat) (xs : List Stp) (w : World) (hn : n ≤ 1000000000) (h : Sl Stp.cod w a n cap xs) :
    Calls Try.prog 22 #[.slice a n cap] w fun e w' => ∃ v, e = .returned v ∧ V.Own 38 Stp.cod w.heap.size w' v xs ∧ Below w.heap.size w w' := by
  have hq := fun w a n c => Lib.run_eql_slice_nil (P := Try.prog) w 22 38 a n c 0 0 Try.underlying22
  cases a with
  | none =>
    obtain ⟨rfl, rfl⟩ := h.hnil rfl
    have hx : xs = [] := by have := h.hlen; exact List.eq_nil_of_length_eq_zero this.symm
    subst hx
    go_enter Try.func22, Try.ntmps22
    go_wp2
    go_ret
    exact ⟨_, rfl, World.ownsRow_nil _ _ _ _, Below.refl _ _⟩
  | some d =>
    have HS := Lib.hid h
    have HM1 : Hid (([] : List Stp).length + n ≤ maxLen) := by show _ ≤ _; unfold maxLen; simp; omega
    have HM2 : Hid ((([] : List Stp).length + n) * 16 ≤ 140737488355328) := by show _ ≤ _; simp; omega
    clear h
    go_enter Try.func22, Try.ntmps22
    go_wp2_with (at_builtin; go_loud (refine wpList_app eltStp rfl (.tmp 5) (.tmp 6) rfl (base := w.heap.size) _ [] rfl (own_new (c := Stp.cod) w #[] 38 w.heap.size [] 0 rfl (Nat.le_refl _) (by unfold maxLen; omega) rfl) _ n cap xs rfl (HS.out.below ((Below.refl _ _).alloc (Nat.le_refl _) _)) HM1.out HM2.out (by simp) ?_); intro v1 w1 ho hg; have HO1 := Lib.hid ho; have HG1 := Lib.hid hg; clear ho hg)
    go_ret
    exact ⟨_, rfl, HO1.out, ((Below.refl _ _).alloc (Nat.le_refl _) _).trans (Ir.own_below (own_new (c := Stp.cod) w #[] 38 w.heap.size [] 0 rfl (Nat.le_refl _) (by unfold maxLen; omega) rfl) HG1.out (by simp))⟩
set_option maxHeartbeats 1000000 in
theorem iclone_any (a : Option Addr) (n cap : Nat) (xs : List Int) (w : World) (hn : n ≤ 1000000000) (h : Sl icod w a n cap xs) :
    Calls Try.prog 21 #[.slice a n cap] w fun e w' => ∃ v, e = .returned v ∧ V.Own 3 icod w.heap.size w' v xs ∧ Below w.heap.size w w' := by
  have hq := fun w a n c => Lib.run_eql_slice_nil (P := Try.prog) w 27 3 a n c 0 0 Try.underlying27
  cases a with
  | none =>
    obtain ⟨rfl, rfl⟩ := h.hnil rfl
    have hx : xs = [] := by have := h.hlen; exact List.eq_nil_of_length_eq_zero this.symm
    subst hx
    go_enter Try.func21, Try.ntmps21
    go_wp2
    go_ret
    exact ⟨_, rfl, World.ownsRow_nil _ _ _ _, Below.refl _ _⟩
  | some d =>
    have HS := Lib.hid h
    have HM1 : Hid (([] : List Int).length + n ≤ maxLen) := by show _ ≤ _; unfold maxLen; simp; omega
    have HM2 : Hid ((([] : List Int).length + n) * 8 ≤ 140737488355328) := by show _ ≤ _; simp; omega
    clear h
    go_enter Try.func21, Try.ntmps21
    go_wp2_with (at_builtin; go_loud (refine wpList_app Ir.eltI rfl (.tmp 5) (.tmp 6) rfl (base := w.heap.size) _ [] rfl (own_new (c := icod) w #[] 3 w.heap.size [] 0 rfl (Nat.le_refl _) (by unfold maxLen; omega) rfl) _ n cap xs rfl (HS.out.below ((Below.refl _ _).alloc (Nat.le_refl _) _)) HM1.out HM2.out (by simp) ?_); intro v1 w1 ho hg; have HO1 := Lib.hid ho; have HG1 := Lib.hid hg; clear ho hg)
    go_ret
    exact ⟨_, rfl, HO1.out, ((Below.refl _ _).alloc (Nat.le_refl _) _).trans (Ir.own_below (own_new (c := icod) w #[] 3 w.heap.size [] 0 rfl (Nat.le_refl _) (by unfold maxLen; omega) rfl) HG1.out (by simp))⟩

/-- May there be such a grid? -/
def rightE (S : List Stp) (z : Int) : Int := if z < 1 ∨ 67108864 < z then 2 else if S.all stpB = true then 0 else 2
theorem all_not {S : List Stp} {k : Nat} {s : Stp} (h : S[k]? = some s) (hs : stpB s = false) : S.all stpB = false := by
  rw [← Bool.not_eq_true]
  intro hh
  rw [List.all_eq_true] at hh
  have := hh s (List.mem_of_getElem? h)
  rw [hs] at this; cases this
set_option maxHeartbeats 1000000 in
theorem right14_any (a : Option Addr) (n cap : Nat) (S : List Stp) (z : Int) (w : World) (hn : n ≤ 200) (h : Sl Stp.cod w a n cap S) :
    Calls Try.prog 11 #[.slice a n cap, .int .i64 z] w fun e w' => e = .returned (.int .i64 (rightE S z)) ∧ Below w.heap.size w w' := by
  have hN := Lib.hid h.hlen
  by_cases h1 : z < 1
  · go_enter Try.func11, Try.ntmps11
    go_wp2
    go_ret
    exact ⟨ret_int (by rw [rightE, if_pos (.inl h1)]), Below.refl _ _⟩
  by_cases h2 : 67108864 < z
  · go_enter Try.func11, Try.ntmps11
    go_wp2
    go_ret
    exact ⟨ret_int (by rw [rightE, if_pos (.inr h2)]), Below.refl _ _⟩
  have HR : Hid (rightE S z = if S.all stpB = true then 0 else 2) := by show _ = _; rw [rightE, if_neg (fun hh => by omega)]
  have hm : n ≤ 9223372036854775807 := by omega
  go_enter Try.func11, Try.ntmps11
  go_wp2
  go_loopw [5] (fun i wr => ∃ (k : Nat), k ≤ n ∧ i = .int .i64 k ∧ Hid ((S.take k).all stpB = true) ∧ Below w.heap.size w wr) (fun i _ => n - (intOf i).toNat)
  case atStart => exact ⟨0, by omega, rfl, rfl, Below.refl _ _⟩
  case round =>
    obtain ⟨k, hk, rfl, he, hb⟩ := hrel
    by_cases hlt : k < n
    · obtain ⟨b, off, r, rfl, hbl, hr, c0, c1⟩ := stp_at (h.below hb) hlt
      have HRk := Lib.hid hr
      have HB := Lib.hid hb
      have hltz : (k : Int) < n := by omega
      clear hr hb
      obtain ⟨bb, hbb⟩ : ∃ bb, mayB r.x r.y = bb := ⟨_, rfl⟩
      have HBB := Lib.hid hbb
      clear hbb
      cases bb with
      | true =>
        go_wp2_with fail
        go_region_held3 (fun w' => w'.cell? ⟨b, off + k * 2, none⟩ = some (.int .i64 r.x) ∧ w'.cell? ⟨b, off + k * 2 + 1, none⟩ = some (.int .i64 r.y)) (go_keep) (first | (go_at_call 14; go_fit (rmay_any r.x r.y _); rintro e w1 ⟨rfl, rfl⟩; rw [HBB.out]))
        all_goals
          go_wp2_with fail
          go_roundw
          case rel => exact ⟨k + 1, by omega, by go_num, by show _ = _; rw [take_at HRk.out, List.all_append, he.out]; simp; exact HBB.out, Below.drew HB.out⟩
          case measure => simp [intOf]; omega
      | false =>
        go_wp2_with fail
        go_region_held3 (fun w' => w'.cell? ⟨b, off + k * 2, none⟩ = some (.int .i64 r.x) ∧ w'.cell? ⟨b, off + k * 2 + 1, none⟩ = some (.int .i64 r.y)) (go_keep) (first | (go_at_call 14; go_fit (rmay_any r.x r.y _); rintro e w1 ⟨rfl, rfl⟩; rw [HBB.out]))
        all_goals
          go_wp2_with fail
          go_ret
          exact ⟨ret_int (by rw [HR.out, all_not HRk.out HBB.out]; rfl), Below.drew HB.out⟩
    · have hk' : k = n := by omega
      have HK := Lib.hid hk'; clear hk'
      go_wp2
      go_ret
      exact ⟨ret_int (by
        have e := he.out
        rw [HK.out, List.take_of_length_le (by rw [← hN.out]; omega)] at e
        rw [HR.out, e]; rfl), hb⟩
end Go.Proofs.Ytehflakmellooaa.Ne
