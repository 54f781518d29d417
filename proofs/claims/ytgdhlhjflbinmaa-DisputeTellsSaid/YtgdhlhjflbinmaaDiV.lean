/- Disputes: the law on deltas and parts, walked. -/
import Derived.Test.YtgdhlhjflbinmaaDiT
import Derived.Test.YtgdhlhjflbinmaaFaR
import Derived.Test.YtgdhlhjflbinmaaTrO2
namespace Go.Proofs.Ytgdhlhjflbinmaa
open Go.RowKit Go.V Go.Sort Go.Shelf Go.Proofs Go.Maps Go.ChangeShapes Go.WideShapes Go.ChangeAt

/-- Another ride in one's stead: the month is as right as it was. -/
theorem rep_month {t : Tar} {c : Int} {l : List Ride} {x : Ride} (h : monthE t c l = 0) (hr : repE l x = 0) : monthE t c (repR l x) = 0 := by
  have hp : MonthP t c := by
    by_cases hp : MonthP t c
    · exact hp
    · unfold monthE at h; rw [if_neg hp] at h; cases h
  have hg0 : groupsE l t.window t.chain = 0 := by unfold monthE at h; rwa [if_pos hp] at h
  have hl : l.length ≤ 2048 := by
    unfold groupsE at hg0
    by_cases hl : l.length ≤ 2048
    · exact hl
    · rw [if_neg hl] at hg0; cases hg0
  have hP : GroupsP l t.window t.chain := by
    unfold groupsE at hg0
    rw [if_pos hl] at hg0
    by_cases hP : GroupsP l t.window t.chain
    · exact hP
    · rw [if_neg hP] at hg0; cases hg0
  have hx : RightP [x] := by
    by_cases hx : RightP [x]
    · exact hx
    · unfold repE at hr; rw [if_neg hx] at hr; cases hr
  have hf : findE l x.t = 0 := by unfold repE at hr; rwa [if_pos hx] at hr
  have hv : findV l x.t = findI l x.t := by unfold findV; rw [if_pos hf]
  have hneg : ¬ findI l x.t < 0 := by
    intro hh
    unfold findE at hf
    rw [if_pos hP.1, if_pos hh] at hf
    cases hf
  have hR : repR l x = l.set (findV l x.t).toNat x := by unfold repR; rw [if_pos hr]
  rcases findI_cases l x.t with ⟨h1, -⟩ | ⟨k, r, h1, h2, h3, h4, -⟩
  · omega
  have hk : (findV l x.t).toNat = k := by rw [hv, h1]; simp
  have ht : (l.set k x).map Ride.t = l.map Ride.t := by
    rw [List.map_set, ← h4]
    apply List.ext_getElem?
    intro i
    by_cases hi : i = k
    · subst hi
      rw [List.getElem?_set_self (by simpa using h2), List.getElem?_map, h3]; rfl
    · rw [List.getElem?_set_ne (by omega)]
  have hRP : RightP (repR l x) := by
    rw [hR, hk]
    refine ⟨by rw [List.length_set]; exact hl, fun r hr => ?_, by rw [ht]; exact hP.1.2.2⟩
    rcases List.mem_or_eq_of_mem_set hr with h5 | h5
    · exact hP.1.2.1 r h5
    · rw [h5]; exact hx.2.1 x (by simp)
  unfold monthE
  rw [if_pos hp]
  unfold groupsE
  rw [if_pos (by rw [hR, List.length_set]; exact hl), if_pos ⟨hRP, hP.2⟩]


/-! ### A case, opened -/

theorem list7 {α : Type} {l : List α} (h : l.length = 7) : ∃ a b c d e f g, l = [a, b, c, d, e, f, g] := by
  match l, h with
  | [a, b, c, d, e, f, g], _ => exact ⟨a, b, c, d, e, f, g, rfl⟩

set_option maxRecDepth 100000 in
theorem open_case {H : Type} {enc : TypeId × Value → H} {w : World} {b0 base : Nat} {spare : Nat → Bool} {held : Bool} {v : Value} {d : DataW H} {ps : List MemPlace} (hval : Value.okWide Try.prog w .any base 31 v) (h : DataW.Trod enc Try.prog w b0 spare held 31 v d ps) :
    ∃ (c : Int) (ha hb : Hdr) (xs ys : List Ride) (x : Ride), v = .agg (caseBox c ha hb x) ∧ Sl Ride.cod w ha.a ha.n ha.cap xs ∧ Sl Ride.cod w hb.a hb.n hb.cap ys ∧ (∀ r ∈ xs, Ride.ok r) ∧ (∀ r ∈ ys, Ride.ok r) ∧ Ride.ok x := by
  simp only [Value.okWide, Try.underlying31] at hval
  obtain ⟨cs, rfl, hsz, ts, hts, -, hcell⟩ := hval
  obtain ⟨fuel, hf⟩ := h
  obtain ⟨y0, y1, y2, y3, m, -, hl, g0, g1, g2, g3⟩ := Go.Joins.trod_struct4 Try.underlying31 hf
  have hc7 : Try.prog.cellsOf 31 = 7 := by kernel_rfl
  have hts' : Try.prog.cellTypes Try.prog.depth 31 = some [3, 27, 27, 3, 3, 3, 3] := by kernel_rfl
  rw [hts'] at hts
  cases hts
  have hc1 : Try.prog.cellsOf 3 = 1 := by kernel_rfl
  have hcs : Try.prog.cellsOf 27 = 1 := by kernel_rfl
  have hcr : Try.prog.cellsOf 29 = 4 := by kernel_rfl
  obtain ⟨l⟩ := cs
  rw [hc7] at hsz
  obtain ⟨v0, v1, v2, v3, v4, v5, v6, rfl⟩ := list7 (l := l) (by simpa using hsz)
  simp [Value.cells, hc1, hcs, hcr] at g0 g1 g2 g3
  have k1 : Value.okWide Try.prog w .any base 27 v1 := by
    obtain ⟨u, hu, hk⟩ := hcell 1 v1 rfl
    cases hu
    exact slice_val Try.underlying27 hk
  have k2 : Value.okWide Try.prog w .any base 27 v2 := by
    obtain ⟨u, hu, hk⟩ := hcell 2 v2 rfl
    cases hu
    exact slice_val Try.underlying27 hk
  obtain ⟨n0, e0, -, -⟩ := DataW.trod_int Try.underlying3 g0
  simp at e0
  subst e0
  obtain ⟨x, ex, hxo⟩ := ride_opened m _ y3 g3
  simp [Ride.cod, Ride.enc] at ex
  obtain ⟨rfl, rfl, rfl, rfl⟩ := ex
  obtain ⟨a1, m1, p1, l1, rfl, s1, o1⟩ := open_sl (c := Ride.cod) (ok := Ride.ok) (d := y1.1) (ps := y1.2) Try.underlying27 (by kernel_rfl) (fun n cs y => ride_opened n cs y) k1 ⟨m, by obtain ⟨a, n, c, rfl⟩ := okWide_slice Try.underlying27 k1; exact g1⟩
  obtain ⟨a2, m2, p2, l2, rfl, s2, o2⟩ := open_sl (c := Ride.cod) (ok := Ride.ok) (d := y2.1) (ps := y2.2) Try.underlying27 (by kernel_rfl) (fun n cs y => ride_opened n cs y) k2 ⟨m, by obtain ⟨a, n, c, rfl⟩ := okWide_slice Try.underlying27 k2; exact g2⟩
  exact ⟨n0, ⟨a1, m1, p1⟩, ⟨a2, m2, p2⟩, l1, l2, x, rfl, s1, s2, o1, o2, hxo⟩
end Go.Proofs.Ytgdhlhjflbinmaa
