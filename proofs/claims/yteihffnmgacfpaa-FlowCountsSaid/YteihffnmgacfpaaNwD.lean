/- Networks: the document's flows are these too: walked. -/
import Derived.Test.YteihffnmgacfpaaNwC
import Derived.Test.YteihffnmgacfpaaNvF
namespace Go.Proofs.Yteihffnmgacfpaa.Ne
open Go.RowKit Go.V Go.Proofs Go.Sort Go.Maps

/-- Where a way is. -/
theorem wayErr_good {n : Net} {k m : Nat} (hok : checkE n = 0) (e : k = n.stops.length) (hm : m = n.links.length) (h60 : k ≤ 60) (h120 : m ≤ 120) {a b : Int} (q : wayErr n k a b = 0) : 0 ≤ a ∧ a < k ∧ 0 ≤ b ∧ b < k ∧ 0 ≤ far n.links k a b ∧ (wayL n.links k a b).length ≤ 30000000000 := by
  have hL : LinksOk n.links k := by rw [e]; exact (check_ok hok).2.2.2.2.1
  unfold wayErr at q
  split at q
  · next q1 => exact absurd q q1
  · next q1 =>
    have hf : fromE n a = 0 := Classical.byContradiction q1
    unfold fromE at hf
    rw [if_pos hok] at hf
    split at hf
    · next q2 =>
      split at q
      · next q3 =>
        split at q
        · cases q
        · next q4 =>
          rw [← e] at q2
          have := wayL_len n.links k a b
          have := (far_lim hL q2 h60 (by rw [← hm]; exact h120) b).2
          exact ⟨q2.1, q2.2, q3.1, q3.2, by omega, by omega⟩
      · cases q
    · cases hf
theorem wayErr_bad {n : Net} {k : Nat} (hok : checkE n = 0) (e : k = n.stops.length) {a b : Int} (q : wayErr n k a b ≠ 0) : a < 0 ∨ b < 0 ∨ (k : Int) ≤ a ∨ (k : Int) ≤ b ∨ 0 ≤ a ∧ a < k ∧ 0 ≤ b ∧ b < k ∧ far n.links k a b < 0 := by
  apply Classical.byContradiction
  intro h
  apply q
  have hf : fromE n a = 0 := by unfold fromE; rw [if_pos hok, if_pos (by omega)]
  unfold wayErr
  rw [if_neg (by omega), if_pos (by omega), if_neg (by omega)]
/-- Links gone through one by one, a link's pairs one by one. -/
def hitsTo (L : List Lnk) (xs : List Int) (q e c i : Nat) : Int := if i < e then hitsAt L xs q i else if i = e then hitsAt L xs c i else 0
theorem hitsTo_start (L : List Lnk) (xs : List Int) (q i : Nat) : hitsTo L xs q 0 0 i = 0 := by
  unfold hitsTo
  split
  · omega
  · split
    · exact hitsAt_zero _ _ _
    · rfl
theorem hitsTo_next (L : List Lnk) (xs : List Int) (q e i : Nat) : hitsTo L xs q e q i = hitsTo L xs q (e + 1) 0 i := by
  unfold hitsTo
  by_cases h1 : i < e
  · rw [if_pos h1, if_pos (by omega)]
  · rw [if_neg h1]
    by_cases h2 : i = e
    · rw [if_pos h2, if_pos (by omega)]
    · rw [if_neg h2, if_neg (by omega)]
      split
      · exact (hitsAt_zero _ _ _).symm
      · rfl
theorem hitsTo_end (L : List Lnk) (xs : List Int) (q : Nat) {m : Nat} (h : m = L.length) (i : Nat) : hitsTo L xs q m 0 i = hitsAt L xs q i := by
  unfold hitsTo
  by_cases h1 : i < m
  · rw [if_pos h1]
  · rw [if_neg h1]
    have : L[i]? = none := List.getElem?_eq_none (by omega)
    have h2 : ∀ c, hitsAt L xs c i = 0 := fun c => by unfold hitsAt; rw [this]
    rw [h2, h2]
    split <;> rfl
theorem hitsTo_hit {L : List Lnk} {xs : List Int} {q e c : Nat} {l : Lnk} {u v : Int} (hu : xs.getD c 0 = u) (hv : xs.getD (c + 1) 0 = v) (he : L[e]? = some l) (b : Bool) (hb : pairHit l u v = b) (f : Nat → Int) :
    (fun i => f i + hitsTo L xs q e (c + 1) i) = if b = true then ups (fun i => f i + hitsTo L xs q e c i) e else fun i => f i + hitsTo L xs q e c i := by
  have key : ∀ i, hitsTo L xs q e (c + 1) i = hitsTo L xs q e c i + (if i = e then (if b = true then 1 else 0) else 0) := by
    intro i
    unfold hitsTo
    by_cases h1 : i < e
    · rw [if_pos h1, if_pos h1, if_neg (by omega)]; omega
    · rw [if_neg h1, if_neg h1]
      by_cases h2 : i = e
      · subst h2
        rw [if_pos rfl, if_pos rfl, if_pos rfl, hitsAt_some he, hitsAt_some he]
        show hits l xs c + _ = _
        rw [hu, hv, hb]
      · rw [if_neg h2, if_neg h2, if_neg h2]; omega
  funext i
  rw [key]
  cases b
  · simp
  · by_cases h : i = e
    · subst h; rw [if_pos rfl, if_pos rfl, if_pos rfl, ups_same]; omega
    · rw [if_neg h, if_pos rfl, ups_other _ h]; omega
theorem hitsTo_lim (L : List Lnk) (xs : List Int) {q c : Nat} (h : c ≤ q) (e i : Nat) : 0 ≤ hitsTo L xs q e c i ∧ hitsTo L xs q e c i ≤ q := by
  unfold hitsTo
  have h1 := hitsAt_lim L xs q i
  have h2 := hitsAt_lim L xs c i
  split
  · exact h1
  · split <;> omega
theorem pair_cases (A B u v : Int) : ∃ bb : Bool, decide (A = u ∧ B = v ∨ B = u ∧ A = v) = bb ∧ (((A == u) = true ∧ (B == v) = true ∧ bb = true) ∨ ((A == u) = true ∧ (B == v) = false ∧ (B == u) = true ∧ (A == v) = true ∧ bb = true) ∨ ((A == u) = true ∧ (B == v) = false ∧ (B == u) = true ∧ (A == v) = false ∧ bb = false) ∨ ((A == u) = true ∧ (B == v) = false ∧ (B == u) = false ∧ bb = false) ∨ ((A == u) = false ∧ (B == u) = true ∧ (A == v) = true ∧ bb = true) ∨ ((A == u) = false ∧ (B == u) = true ∧ (A == v) = false ∧ bb = false) ∨ ((A == u) = false ∧ (B == u) = false ∧ bb = false)) := by
  refine ⟨_, rfl, ?_⟩
  by_cases h1 : A = u <;> by_cases h2 : B = v <;> by_cases h3 : B = u <;> by_cases h4 : A = v <;> (try simp [h1, h2, h3, h4]) <;> (try omega)

set_option maxHeartbeats 8000000 in
set_option maxRecDepth 100000 in
theorem rcount_any (n : Net) (hs hl : Hdr) (pa : Option Addr) (pn pc : Nat) (ps : List Pr2) (w : World) (h : NetIn w n hs hl) (hok : checkE n = 0) (hp : Sl pr2 w pa pn pc ps) (h60 : hs.n ≤ 60) (h120 : hl.n ≤ 120) (h4 : pn ≤ 4096) :
    Calls Try.prog 53 #[n.val hs hl, .slice pa pn pc] w fun e w' => Below w.heap.size w w' ∧ ∃ h : FH, e = .returned (h.val (cntF n hs.n ps Fw.zero).lost) ∧ FlIn w' ((cntF n hs.n ps Fw.zero).fl hl.n hs.n) h := by
  have mixed : Try.prog.follows .mixedOrders = true := by kernel_rfl
  have HKN := Lib.hid h.s.hlen
  have HLN := Lib.hid h.l.hlen
  obtain ⟨sa, k, sc⟩ := hs
  obtain ⟨la, m, lc⟩ := hl
  have h60 : k ≤ 60 := h60
  have h120 : m ≤ 120 := h120
  have HH := Lib.hid h
  have HPP := Lib.hid hp
  have HOK := Lib.hid hok
  have hxz := box_alloc (o := .cells #[.slice none 0 0, .slice none 0 0, .slice none 0 0, .int .i64 0] 78) (box_new w (n.box ⟨sa, k, sc⟩ ⟨la, m, lc⟩))
  have hrz : ((w.alloc (n.box ⟨sa, k, sc⟩ ⟨la, m, lc⟩)).alloc (.cells #[.slice none 0 0, .slice none 0 0, .slice none 0 0, .int .i64 0] 78)).heap[w.heap.size + 1]? = some (.cells #[.slice none 0 0, .slice none 0 0, .slice none 0 0, .int .i64 0] 78 (0, 0)) := by
    rw [show w.heap.size + 1 = (w.alloc (n.box ⟨sa, k, sc⟩ ⟨la, m, lc⟩)).heap.size by simp]
    exact box_new _ _
  have hbz : Below w.heap.size w ((w.alloc (n.box ⟨sa, k, sc⟩ ⟨la, m, lc⟩)).alloc (.cells #[.slice none 0 0, .slice none 0 0, .slice none 0 0, .int .i64 0] 78)) := ((Below.refl _ _).alloc (Nat.le_refl _) _).alloc (by simp) _
  have HX0 := Lib.hid hxz
  have HR0 := Lib.hid hrz
  have HB0 := Lib.hid hbz
  have hmkm := run_make_row' (P := Try.prog) 42 3 (.int .i64 0) 8 Try.underlying42 infoI rfl .i64 .i64 m (by omega) (by omega)
  have hmkk := run_make_row' (P := Try.prog) 42 3 (.int .i64 0) 8 Try.underlying42 infoI rfl .i64 .i64 k (by omega) (by omega)
  clear h hp hok hxz hrz hbz
  go_enter Try.func53, Try.ntmps53
  go_upto_region 1 with fail
  obtain ⟨w1, hw1⟩ : ∃ w1, (w.alloc (n.box ⟨sa, k, sc⟩ ⟨la, m, lc⟩)).alloc (.cells #[.slice none 0 0, .slice none 0 0, .slice none 0 0, .int .i64 0] 78) = w1 := ⟨_, rfl⟩
  rw [hw1] at HX0 HR0 HB0 ⊢
  clear hw1
  obtain ⟨c0, c1, c2, -, -, -⟩ := box3_cells HX0.out
  have hxl := box_lt HX0.out
  have hxr := box_lt HR0.out
  have a11 : ∀ o, (w1.alloc o).cell? ⟨w.heap.size, 1, none⟩ = some (.slice sa k sc) := fun o => cell_alloc c1 _
  have a12 : ∀ o, (w1.alloc o).cell? ⟨w.heap.size, 2, none⟩ = some (.slice la m lc) := fun o => cell_alloc c2 _
  have a21 : ∀ o o', ((w1.alloc o).alloc o').cell? ⟨w.heap.size, 1, none⟩ = some (.slice sa k sc) := fun o _ => cell_alloc (a11 o) _
  have a22 : ∀ o o', ((w1.alloc o).alloc o').cell? ⟨w.heap.size, 2, none⟩ = some (.slice la m lc) := fun o _ => cell_alloc (a12 o) _
  have a31 : ∀ o o' o'', (((w1.alloc o).alloc o').alloc o'').cell? ⟨w.heap.size, 1, none⟩ = some (.slice sa k sc) := fun o o' _ => cell_alloc (a21 o o') _
  have a32 : ∀ o o' o'', (((w1.alloc o).alloc o').alloc o'').cell? ⟨w.heap.size, 2, none⟩ = some (.slice la m lc) := fun o o' _ => cell_alloc (a22 o o') _
  have a41 : ∀ o o' o'' o3, ((((w1.alloc o).alloc o').alloc o'').alloc o3).cell? ⟨w.heap.size, 1, none⟩ = some (.slice sa k sc) := fun o o' o'' _ => cell_alloc (a31 o o' o'') _
  have a42 : ∀ o o' o'' o3, ((((w1.alloc o).alloc o').alloc o'').alloc o3).cell? ⟨w.heap.size, 2, none⟩ = some (.slice la m lc) := fun o o' o'' _ => cell_alloc (a32 o o' o'') _
  go_cut [5] (fun v wx => ∃ g o1 o2 o3, v = .pointer (some ⟨g, 0, none⟩) ∧ Hid (FM w wx n ⟨sa, k, sc⟩ ⟨la, m, lc⟩ g o1 o2 o3 m k Fw.zero))
  case first =>
    as_aux_lemma =>
      --<<
      go_region_held3 (fun w' => w'.cell? ⟨w.heap.size, 1, none⟩ = some (.slice sa k sc) ∧ w'.cell? ⟨w.heap.size, 2, none⟩ = some (.slice la m lc)) (go_keep) (fail)
      all_goals
        go_wp2_with fail
        go_meet
        exact FM.ex (by omega) (by omega) (box_alloc (box_alloc (box_alloc (box_alloc HX0.out)))) (box_alloc (box_alloc (box_alloc (box_alloc HR0.out))))
          (by first | (refine bnew ?_; simp; done) | (refine box_alloc (bnew ?_); simp; done) | (refine box_alloc (box_alloc (bnew ?_)); simp; done) | (refine box_alloc (box_alloc (box_alloc (bnew ?_))); simp; done))
          (by first | (refine bnew ?_; simp; done) | (refine box_alloc (bnew ?_); simp; done) | (refine box_alloc (box_alloc (bnew ?_)); simp; done) | (refine box_alloc (box_alloc (box_alloc (bnew ?_))); simp; done))
          (by first | (refine bnew ?_; simp; done) | (refine box_alloc (bnew ?_); simp; done) | (refine box_alloc (box_alloc (bnew ?_)); simp; done) | (refine box_alloc (box_alloc (box_alloc (bnew ?_))); simp; done))
          (by first | (refine bnew ?_; simp; done) | (refine box_alloc (bnew ?_); simp; done) | (refine box_alloc (box_alloc (bnew ?_)); simp; done) | (refine box_alloc (box_alloc (box_alloc (bnew ?_))); simp; done))
          ((((HB0.out.alloc (by omega) _).alloc (by simp; omega) _).alloc (by simp; omega) _).alloc (by simp; omega) _)
          (by refine ⟨?_, ?_, ?_, ?_, ?_, ?_, ?_, ?_, ?_, ?_⟩ <;> omega)
      -->>
  case rest =>
    obtain ⟨g, o1, o2, o3, rfl, HF0⟩ := hcut
    clear c0 c1 c2 a11 a12 a21 a22 a31 a32 a41 a42 hmkm hmkk hxl hxr HX0 HR0 HB0
    rename World => W
    have HLO : Hid (LinksOk n.links k) := by have e : k = n.stops.length := HKN.out; show LinksOk _ _; rw [e]; exact (check_ok HOK.out).2.2.2.2.1
    have HPW : Hid (n.links.Pairwise fun a b => aftB a b = true) := (check_ok HOK.out).2.2.2.2.2
    have HWL : Hid (∀ a b : Int, wayErr n k a b = 0 → 0 ≤ a ∧ a < k ∧ 0 ≤ b ∧ b < k ∧ 0 ≤ far n.links k a b ∧ (wayL n.links k a b).length ≤ 30000000000) := fun a b q => wayErr_good HOK.out HKN.out HLN.out h60 h120 q
    have HWB : Hid (∀ a b : Int, wayErr n k a b ≠ 0 → a < 0 ∨ b < 0 ∨ (k : Int) ≤ a ∨ (k : Int) ≤ b ∨ 0 ≤ a ∧ a < k ∧ 0 ≤ b ∧ b < k ∧ far n.links k a b < 0) := fun a b q => wayErr_bad HOK.out HKN.out q
    have HLI : Hid (∀ j, j ≤ ps.length → (cntF n k (ps.take j) Fw.zero).Lim j) := by
      intro j
      induction j with
      | zero => intro _; exact Fw.Lim.zero
      | succ j ih =>
        intro hj
        obtain ⟨p, hp⟩ : ∃ p, ps[j]? = some p := ⟨ps[j], List.getElem?_eq_getElem (by omega)⟩
        rw [cntF_snoc hp]
        exact (ih (by omega)).go (fun q => (HWL.out _ _ q).2.2.2.2.2)
    go_wp2_with fail
    go_loopw [6] (fun i wr => ∃ j : Nat, i = .int .i64 j ∧ j ≤ pn ∧ Hid (FM w wr n ⟨sa, k, sc⟩ ⟨la, m, lc⟩ g o1 o2 o3 m k (cntF n k (ps.take j) Fw.zero))) (fun i _ => pn - (intOf i).toNat)
    case atStart => exact ⟨0, by go_num, by omega, HF0.out⟩
    case round =>
      clear HF0
      obtain ⟨j, rfl, hj, HF⟩ := hrel
      by_cases hlt : j < pn
      · obtain ⟨bl, off, p, e1, hbl, hpj, p0, p1⟩ := pr2_at (HPP.out.below HF.out.bl) hlt
        have e1 : pa = _ := e1
        subst e1
        have hcs := cntF_snoc (n := n) (k := k) (F := Fw.zero) hpj
        have hjl : j + 1 ≤ ps.length := by have := (List.getElem?_eq_some_iff.1 hpj).1; omega
        have hlm := HLI.out j (by omega)
        obtain ⟨F, hF⟩ : ∃ F, cntF n k (ps.take j) Fw.zero = F := ⟨_, rfl⟩
        rw [hF] at hcs hlm HF
        have HCS := Lib.hid hcs
        have HLM := Lib.hid hlm
        have hji : (j : Int) < (pn : Int) := by omega
        obtain ⟨P, Q⟩ := p
        have HWPQ := Lib.hid (HWL.out P Q)
        have HWBQ := Lib.hid (HWB.out P Q)
        obtain ⟨ev, hev⟩ : ∃ ev, wayErr n k P Q = ev := ⟨_, rfl⟩
        have HEV := Lib.hid hev
        clear hcs hlm hF hpj hev
        obtain ⟨hx1, hx2⟩ := HLM.out.x
        obtain ⟨c0, c1, c2, -, -, -⟩ := box3_cells HF.out.bx
        have hzl := box_lt HF.out.bx
        go_upto_region 7 with fail
        by_cases he : ev = 0
        case neg =>
          as_aux_lemma =>
            --<<
            have HST : Hid (cntF n k (ps.take (j + 1)) Fw.zero = ⟨F.L, F.on, F.off, F.lost + 1⟩) := by
              show _ = _
              rw [HCS.out]; unfold stepF; rw [if_neg (by rw [HEV.out]; exact he)]
            have HDJ := Lib.hid (HWBQ.out (by rw [HEV.out]; exact he))
            go_cut [70] (fun v wx => v = .bool true ∧ Hid (FM w wx n ⟨sa, k, sc⟩ ⟨la, m, lc⟩ g o1 o2 o3 m k F))
            case first =>
              clear p0 p1
              by_cases n1 : P < 0
              · go_wp2_with fail
                go_meet
                exact ⟨rfl, HF⟩
              · by_cases n2 : Q < 0
                · go_wp2_with fail
                  go_meet
                  exact ⟨rfl, HF⟩
                · by_cases n3 : (k : Int) ≤ P
                  · go_wp2_with fail
                    go_meet
                    exact ⟨rfl, HF⟩
                  · by_cases n4 : (k : Int) ≤ Q
                    · go_wp2_with fail
                      go_meet
                      exact ⟨rfl, HF⟩
                    · have hfq : far n.links k P Q < 0 := by have := HDJ.out; omega
                      obtain ⟨a, rfl⟩ : ∃ a : Nat, P = a := ⟨P.toNat, by omega⟩
                      obtain ⟨b, rfl⟩ : ∃ b : Nat, Q = b := ⟨Q.toNat, by omega⟩
                      have hak : a < k := by omega
                      have hbk : b < k := by omega
                      have hbi : (b : Int) < (k : Int) := by omega
                      go_wp2_with (go_at_call 48; go_loud (refine (rfrom_any n ⟨sa, k, sc⟩ ⟨la, m, lc⟩ a _ (HH.out.below HF.out.bl) HOK.out h60 h120 hak).mono ?_); rintro e w3 ⟨fo, fc, rfl, ho3, hb3⟩; rw [← HKN.out] at ho3; have q0 := bf_cell HLO.out ⟨by omega, by omega⟩ ho3 hbk; have HF3 := Lib.hid (HF.out.below hb3); clear ho3 hb3)
                      go_meet
                      exact ⟨rfl, HF3⟩
            case rest =>
              obtain ⟨rfl, HF4⟩ := hcut
              clear HF p0 p1 c0 c1 c2
              rename World => w4
              obtain ⟨d0, d1, d2, d3, df⟩ := HF4.out.cells
              have HF5 := Lib.hid HF4.out.lose
              have hgl := box_lt HF4.out.fb
              go_wp2_with fail
              go_roundw
              case rel => exact ⟨j + 1, by go_num, by omega, by show FM _ _ _ _ _ _ _ _ _ _ _ _; rw [HST.out]; exact HF5.out⟩
              case measure => simp [intOf]; omega
            -->>
        case pos =>
          as_aux_lemma =>
            subst he
            obtain ⟨g1, g2, g3, g4, g5, g6⟩ := HWPQ.out HEV.out
            obtain ⟨a, rfl⟩ : ∃ a : Nat, P = a := ⟨P.toNat, by omega⟩
            obtain ⟨b, rfl⟩ : ∃ b : Nat, Q = b := ⟨Q.toNat, by omega⟩
            have hak : a < k := by omega
            have hbk : b < k := by omega
            have hai : (a : Int) < (k : Int) := by omega
            have hbi : (b : Int) < (k : Int) := by omega
            have n1 : ¬ ((a : Int) < 0) := by omega
            have n2 : ¬ ((b : Int) < 0) := by omega
            have n3 : ¬ ((k : Int) ≤ (a : Int)) := by omega
            have n4 : ¬ ((k : Int) ≤ (b : Int)) := by omega
            have hfq : ¬ (far n.links k a b < 0) := by omega
            have hgd := wayL_good HLO.out HPW.out ⟨g1, g2⟩ g5
            have HWN : Hid (wayL n.links k a b ≠ []) := hgd.ne
            have HW6 := Lib.hid g6
            obtain ⟨vn, hvn⟩ : ∃ vn, (wayL n.links k a b).length = vn := ⟨_, rfl⟩
            have HVN := Lib.hid hvn
            clear hvn
            clear hgd g6 p0 p1
            go_upto_region 10 with (first
              | (go_at_call 48; go_loud (refine (rfrom_any n ⟨sa, k, sc⟩ ⟨la, m, lc⟩ a _ (HH.out.below HF.out.bl) HOK.out h60 h120 hak).mono ?_); rintro e w3 ⟨fo, fc, rfl, ho3, hb3⟩; rw [← HKN.out] at ho3; have q0 := bf_cell HLO.out ⟨by omega, by omega⟩ ho3 hbk; have HF3 := Lib.hid (HF.out.below hb3); obtain ⟨x0, x1, x2, -, -, -⟩ := box3_cells HF3.out.bx; clear ho3 hb3)
              | (go_at_call 49; go_loud (refine (rway_any n ⟨sa, k, sc⟩ ⟨la, m, lc⟩ a b _ (HH.out.below HF3.out.bl) HOK.out h60 h120 hak hbk g5).mono ?_); rintro e w4 ⟨vv, rfl, ho4, hb4⟩; have HF4 := Lib.hid (HF3.out.below hb4); obtain ⟨vb, vc, cur4, hve, hvb, -⟩ := own_ne ho4 HWN.out; rw [HVN.out] at hve; subst hve; obtain ⟨B0, hB0⟩ : ∃ B0, w3.heap.size = B0 := ⟨_, rfl⟩; have HVO : Hid (vb ≠ o1 ∧ vb ≠ o2 ∧ vb ≠ o3) := (by have q1 := (World.ownsRow.lt HF3.out.r1 o1 rfl).2; have q2 := (World.ownsRow.lt HF3.out.r2 o2 rfl).2; have q3 := (World.ownsRow.lt HF3.out.r3 o3 rfl).2; show _ ∧ _ ∧ _; omega); rw [hB0] at ho4; have HOW := Lib.hid ho4; clear hb4 ho4 hvb hB0))
            clear HF HF3 c0 c1 c2 x0 x1 x2 q0
            rename World => w4
            have hv1 : 1 ≤ vn := by rw [← HVN.out]; exact List.length_pos_iff.2 HWN.out
            have hv9 : vn ≤ 30000000000 := by rw [← HVN.out]; exact HW6.out
            go_cut [] (fun wx => Hid (FM w wx n ⟨sa, k, sc⟩ ⟨la, m, lc⟩ g o1 o2 o3 m k ⟨F.L, ups F.on a, F.off, F.lost⟩) ∧ Hid (V.Own 3 icod B0 wx (.slice (some ⟨vb, 0, none⟩) vn vc) (wayL n.links k a b)))
            case first =>
              as_aux_lemma =>
                obtain ⟨d0, d1, d2, d3, df⟩ := HF4.out.cells
                obtain ⟨r0, rf, rl⟩ := fl_cell HF4.out.r2 hak
                have hgl := box_lt HF4.out.fb
                have hn1 := HLM.out.n a
                go_region
                all_goals
                  have HF5 := Lib.hid ((HF4.out.below (Below.drew (Below.refl _ _))).set2 a)
                  have HO5 : Hid (V.Own 3 icod B0 (w4.drew.setCell ⟨o2, a, none⟩ (.int .i64 (F.on a + 1))) (.slice (some ⟨vb, 0, none⟩) vn vc) (wayL n.links k a b)) := own_kept_set (HOW.out.below (Below.drew (Below.refl _ _))) HVO.out.2.1
                  go_wp2_with fail
                  go_meet
                  exact ⟨HF5, HO5⟩
            case rest =>
              obtain ⟨HF5, HO5⟩ := hcut
              clear HF4 HOW
              rename World => w5
              go_upto_region 11 with fail
              go_cut [] (fun wx => Hid (FM w wx n ⟨sa, k, sc⟩ ⟨la, m, lc⟩ g o1 o2 o3 m k ⟨F.L, ups F.on a, ups F.off b, F.lost⟩) ∧ Hid (V.Own 3 icod B0 wx (.slice (some ⟨vb, 0, none⟩) vn vc) (wayL n.links k a b)))
              case first =>
                as_aux_lemma =>
                  obtain ⟨d0, d1, d2, d3, df⟩ := HF5.out.cells
                  obtain ⟨r0, rf, rl⟩ := fl_cell HF5.out.r3 hbk
                  have hgl := box_lt HF5.out.fb
                  have hn2 := HLM.out.f b
                  go_region
                  all_goals
                    have HF6 := Lib.hid ((HF5.out.below (Below.drew (Below.refl _ _))).set3 b)
                    have HO6 : Hid (V.Own 3 icod B0 (w5.drew.setCell ⟨o3, b, none⟩ (.int .i64 (F.off b + 1))) (.slice (some ⟨vb, 0, none⟩) vn vc) (wayL n.links k a b)) := own_kept_set (HO5.out.below (Below.drew (Below.refl _ _))) HVO.out.2.2
                    go_wp2_with fail
                    go_meet
                    exact ⟨HF6, HO6⟩
              case rest =>
                obtain ⟨HF6, HO6⟩ := hcut
                clear HF5 HO5
                rename World => w6
                have HST : Hid (cntF n k (ps.take (j + 1)) Fw.zero = ⟨fun i => F.L i + hitsAt n.links (wayL n.links k a b) (vn - 1) i, ups F.on a, ups F.off b, F.lost⟩) := by
                  show _ = _
                  rw [HCS.out]; unfold stepF; rw [if_pos HEV.out, ← HVN.out]; rfl
                obtain ⟨way, hway⟩ : ∃ way, wayL n.links k a b = way := ⟨_, rfl⟩
                rw [hway] at HST HO6 HVN
                clear hway HWN HW6
                go_wp2_with fail
                go_loopw [10] (fun i wr => ∃ e : Nat, i = .int .i64 e ∧ e ≤ m ∧ Hid (FM w wr n ⟨sa, k, sc⟩ ⟨la, m, lc⟩ g o1 o2 o3 m k ⟨fun i => F.L i + hitsTo n.links way (vn - 1) e 0 i, ups F.on a, ups F.off b, F.lost⟩) ∧ Hid (V.Own 3 icod B0 wr (.slice (some ⟨vb, 0, none⟩) vn vc) way)) (fun i _ => m - (intOf i).toNat)
                case atStart => exact ⟨0, by go_num, by omega, by have := HF6.out; simp only [hitsTo_start, Int.add_zero]; exact this, HO6.out⟩
                case round =>
                  clear HF6 HO6
                  obtain ⟨e, rfl, hem, HF7, HO7⟩ := hrel
                  obtain ⟨c0, c1, c2, -, -, -⟩ := box3_cells HF7.out.bx
                  have hzl7 := box_lt HF7.out.bx
                  by_cases hlt2 : e < m
                  · have hei : (e : Int) < (m : Int) := by omega
                    go_wp2_with fail
                    clear c0 c1 c2 hzl7
                    go_loopw [11] (fun i wr => ∃ c : Nat, i = .int .i64 c ∧ c + 1 ≤ vn ∧ Hid (FM w wr n ⟨sa, k, sc⟩ ⟨la, m, lc⟩ g o1 o2 o3 m k ⟨fun i => F.L i + hitsTo n.links way (vn - 1) e c i, ups F.on a, ups F.off b, F.lost⟩) ∧ Hid (V.Own 3 icod B0 wr (.slice (some ⟨vb, 0, none⟩) vn vc) way)) (fun i _ => vn - (intOf i).toNat)
                    case atStart => exact ⟨0, by go_num, by omega, HF7.out, HO7.out⟩
                    case round =>
                      as_aux_lemma =>
                        clear HF7 HO7
                        obtain ⟨c, rfl, hcv, HF8, HO8⟩ := hrel
                        by_cases hlt3 : c + 1 < vn
                        · obtain ⟨lb, loff, l, e1, hlbl, hlj, l0, l1, l2⟩ := lnk_at (HH.out.l.below HF8.out.bl) hlt2
                          have e1 : la = _ := e1
                          subst e1
                          obtain ⟨A, B, x⟩ := l
                          have hci : (c : Int) < (vn : Int) := by omega
                          have hci2 : (c : Int) + 1 < (vn : Int) := by omega
                          have hci3 : (0 : Int) ≤ (c : Int) + 1 := by omega
                          have hci4 : ((c : Int) + 1).toNat = c + 1 := by omega
                          have hcv2 : c < vn := by omega
                          obtain ⟨c0, c1, c2, -, -, -⟩ := box3_cells HF8.out.bx
                          have hzl8 := box_lt HF8.out.bx
                          go_upto_region 19 with fail
                          have HFc := Lib.hid (HF8.out.below ((Below.refl _ _).alloc (Nat.le_refl _) (.cells #[.int .i64 A, .int .i64 B, .int .i64 x] 49)))
                          have HOc := Lib.hid (HO8.out.alloc (.cells #[.int .i64 A, .int .i64 B, .int .i64 x] 49))
                          have HYc := Lib.hid (box_new wr (.cells #[.int .i64 A, .int .i64 B, .int .i64 x] 49))
                          obtain ⟨y, hy⟩ : ∃ y, wr.heap.size = y := ⟨_, rfl⟩
                          obtain ⟨w9, hw9⟩ : ∃ w9, wr.alloc (.cells #[.int .i64 A, .int .i64 B, .int .i64 x] 49) = w9 := ⟨_, rfl⟩
                          rw [hw9] at HFc HOc HYc ⊢
                          rw [hy] at HYc ⊢
                          clear hw9 hy HF8 HO8 l0 l1 l2 hlbl c0 c1 c2 hzl8
                          have HXL : Hid (vn = way.length) := HVN.out.symm
                          obtain ⟨u, hu, q0, -, -⟩ := icells HOc.out HXL.out hcv2
                          obtain ⟨v, hv, q1, -, hvw⟩ := icells HOc.out HXL.out hlt3
                          have hgu : way.getD c 0 = u := by rw [List.getD_eq_getElem?_getD, hu]; rfl
                          have hgv : way.getD (c + 1) 0 = v := by rw [List.getD_eq_getElem?_getD, hv]; rfl
                          obtain ⟨bb, hbb, hcase⟩ := pair_cases A B u v
                          have HNX := Lib.hid (hitsTo_hit (q := vn - 1) hgu hgv hlj bb hbb F.L)
                          have HLT := Lib.hid (hitsTo_lim n.links way (show c ≤ vn - 1 by omega) e e)
                          obtain ⟨y0, y1, y2, -, -, -⟩ := box3_cells HYc.out
                          have hyw := box_lt HYc.out
                          clear hu hv hgu hgv hbb hlj
                          go_cut [153] (fun v wx => v = .bool bb ∧ Hid (FM w wx n ⟨sa, k, sc⟩ ⟨some ⟨lb, loff, none⟩, m, lc⟩ g o1 o2 o3 m k ⟨fun i => F.L i + hitsTo n.links way (vn - 1) e c i, ups F.on a, ups F.off b, F.lost⟩) ∧ Hid (V.Own 3 icod B0 wx (.slice (some ⟨vb, 0, none⟩) vn vc) way))
                          case first =>
                            as_aux_lemma =>
                              rcases hcase with ⟨r1, r2, r5⟩ | ⟨r1, r2, r3, r4, r5⟩ | ⟨r1, r2, r3, r4, r5⟩ | ⟨r1, r2, r3, r5⟩ | ⟨r1, r2, r3, r5⟩ | ⟨r1, r2, r3, r5⟩ | ⟨r1, r2, r5⟩
                              all_goals
                                subst r5
                                go_quiet (fail)
                                go_wp2_with fail
                                go_meet
                                exact ⟨rfl, HFc.out.below (below_drewN (Below.refl _ _) _), HOc.out.below (below_drewN (Below.refl _ _) _)⟩
                          case rest =>
                            as_aux_lemma =>
                              clear q0 q1 hvw y0 y1 y2 hyw hcase
                              obtain ⟨rfl, HF9, HO9⟩ := hcut
                              clear HFc HOc HYc
                              rename World => w10
                              obtain ⟨f, hf⟩ : ∃ f, (fun i => F.L i + hitsTo n.links way (vn - 1) e c i) = f := ⟨_, rfl⟩
                              have hfe : F.L e + hitsTo n.links way (vn - 1) e c e = f e := by rw [← hf]
                              rw [hf] at HF9 HNX
                              have hfl := HLM.out.l e
                              have hhl := HLT.out
                              have hf0 : 0 ≤ f e ∧ f e ≤ 1000000000000000 := by omega
                              clear hf hfe hfl hhl
                              cases bb
                              · go_wp2_with fail
                                go_roundw
                                case rel => exact ⟨c + 1, by go_num, by omega, by show FM _ _ _ _ _ _ _ _ _ _ _ _; rw [HNX.out]; exact HF9.out, HO9.out⟩
                                case measure => simp [intOf]; omega
                              · obtain ⟨d0, d1, d2, d3, df⟩ := HF9.out.cells
                                obtain ⟨r0, rf, rl⟩ := fl_cell HF9.out.r1 hlt2
                                have hgl := box_lt HF9.out.fb
                                go_upto_region 20 with fail
                                go_region
                                have HF10 := Lib.hid ((HF9.out.set1 e).below (Below.drew (Below.refl _ _)))
                                have HO10 := Lib.hid ((own_kept_set (i := e) (v := .int .i64 (f e + 1)) HO9.out HVO.out.1).below (Below.drew (Below.refl _ _)))
                                go_wp2_with fail
                                go_roundw
                                case rel => exact ⟨c + 1, by go_num, by omega, by show FM _ _ _ _ _ _ _ _ _ _ _ _; rw [HNX.out]; exact HF10.out, HO10.out⟩
                                case measure => simp [intOf]; omega
                        · have hcv3 : vn - 1 = c := by omega
                          have hvc : vn = c + 1 := by omega
                          have HFE : Hid (FM w wr n ⟨sa, k, sc⟩ ⟨la, m, lc⟩ g o1 o2 o3 m k ⟨fun i => F.L i + hitsTo n.links way (vn - 1) (e + 1) 0 i, ups F.on a, ups F.off b, F.lost⟩) := by
                            have := HF8.out
                            rw [hcv3] at this
                            simp only [hitsTo_next] at this
                            show FM _ _ _ _ _ _ _ _ _ _ _ _
                            rw [hcv3]; exact this
                          have hci2 : decide ((c : Int) + 1 < (vn : Int)) = false := decide_eq_false (by omega)
                          clear hcv3 hvc
                          go_wp2_with fail
                          go_roundw
                          case rel => exact ⟨e + 1, by go_num, by omega, HFE.out, HO8.out⟩
                          case measure => simp [intOf]; omega
                  · have hem2 : e = m := by omega
                    have HFE : Hid (FM w wr n ⟨sa, k, sc⟩ ⟨la, m, lc⟩ g o1 o2 o3 m k (cntF n k (ps.take (j + 1)) Fw.zero)) := by
                      have := HF7.out
                      rw [hem2] at this
                      simp only [hitsTo_end n.links way (vn - 1) HLN.out] at this
                      show FM _ _ _ _ _ _ _ _ _ _ _ _
                      rw [HST.out]; exact this
                    have hei : ¬ ((e : Int) < (m : Int)) := by omega
                    clear hem2
                    go_wp2_with fail
                    go_roundw
                    case rel => exact ⟨j + 1, by go_num, by omega, HFE.out⟩
                    case measure => simp [intOf]; omega
      · have hjn : pn = j := by omega
        subst hjn
        have HPN : Hid (ps.take pn = ps) := List.take_of_length_le (by rw [← HPP.out.hlen]; exact Nat.le_refl _)
        rw [HPN.out] at HF
        obtain ⟨c0, c1, c2, c3, cf⟩ := HF.out.cells
        obtain ⟨q0, q1, q2, q3⟩ := box4_cells HF.out.rb
        have f0 := (box_cell HF.out.rb 0).2
        have f1 := (box_cell HF.out.rb 1).2
        have f2 := (box_cell HF.out.rb 2).2
        have f3 := (box_cell HF.out.rb 3).2
        have hrl := box_lt HF.out.rb
        obtain ⟨F, hF⟩ : ∃ F, cntF n k ps Fw.zero = F := ⟨_, rfl⟩
        have HFF := Lib.hid hF
        rw [hF] at c3
        clear hF
        obtain ⟨b1, b2, b3⟩ := HF.out.o1b
        have hn1 : o1 ≠ w.heap.size + 1 := by omega
        have hn2 : o2 ≠ w.heap.size + 1 := by omega
        have hn3 : o3 ≠ w.heap.size + 1 := by omega
        go_wp2_with fail
        refine bodyPost_ret (results_cell_row rfl _ _ (w.heap.size + 1) _ _ _ _ rfl (box4_set HF.out.rb _ _ _ _) Try.underlying78 rfl (by kernel_rfl)) rfl ⟨below_set (below_set (below_set (below_set HF.out.bl (by omega)) (by omega)) (by omega)) (by omega), ⟨⟨some ⟨o1, 0, none⟩, m, m⟩, ⟨some ⟨o2, 0, none⟩, k, k⟩, ⟨some ⟨o3, 0, none⟩, k, k⟩⟩, ?_, ⟨?_, ?_, ?_⟩⟩
        · rw [HFF.out]; rfl
        · exact (own_sl (own_kept_set (own_kept_set (own_kept_set (own_kept_set HF.out.r1 hn1) hn1) hn1) hn1)).1
        · exact (own_sl (own_kept_set (own_kept_set (own_kept_set (own_kept_set HF.out.r2 hn2) hn2) hn2) hn2)).1
        · exact (own_sl (own_kept_set (own_kept_set (own_kept_set (own_kept_set HF.out.r3 hn3) hn3) hn3) hn3)).1
end Go.Proofs.Yteihffnmgacfpaa.Ne
