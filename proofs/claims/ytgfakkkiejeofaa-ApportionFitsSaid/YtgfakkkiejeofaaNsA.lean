/- Networks: the links of a stop, as an iterator tells them. -/
import Derived.Test.YtgfakkkiejeofaaNeA
import Derived.Test.YtgfakkkiejeofaaNeK
import Derived.Test.YtgfakkkiejeofaaNeL
import Derived.Test.YtgfakkkiejeofaaRange
namespace Go.Proofs.Ytgfakkkiejeofaa.Ne
open Go.RowKit Go.V Go.Shelf Go.Proofs

attribute [local go_sem] Oper.semAt_some

/-- A link, the stop being A where it is B. -/
def turnL (s : Int) (l : Lnk) : Lnk := if l.b = s then ⟨l.b, l.a, l.w⟩ else l
/-- The links of a stop, the stop being A. -/
def fromL (L : List Lnk) (s : Int) : List Lnk := (L.map (turnL s)).filter (fun l => decide (l.a = s))
theorem fromL_snoc (L : List Lnk) (s : Int) (x : Lnk) : fromL (L ++ [x]) s = if (turnL s x).a = s then fromL L s ++ [turnL s x] else fromL L s := by
  unfold fromL
  rw [List.map_append, List.filter_append]
  by_cases h : (turnL s x).a = s
  · rw [if_pos h]; simp [h]
  · rw [if_neg h]; simp [h]
theorem fromL_split (L M : List Lnk) (s : Int) : fromL (L ++ M) s = fromL L s ++ fromL M s := by
  unfold fromL
  rw [List.map_append, List.filter_append]
theorem fromL_yields {L : List Lnk} {s : Int} {k : Nat} {x : Lnk} (hx : L[k]? = some x) (h : (turnL s x).a = s) : ∃ rest, fromL L s = fromL (L.take k) s ++ turnL s x :: rest := by
  refine ⟨fromL (L.drop (k + 1)) s, ?_⟩
  have e : L = L.take (k + 1) ++ L.drop (k + 1) := (List.take_append_drop _ _).symm
  have e2 : fromL L s = fromL (L.take (k + 1) ++ L.drop (k + 1)) s := by rw [← e]
  rw [e2, fromL_split, take_at hx, fromL_snoc, if_pos h, List.append_assoc]; rfl
theorem fromL_take {L : List Lnk} {s : Int} {k : Nat} {x : Lnk} (hx : L[k]? = some x) : fromL (L.take (k + 1)) s = if (turnL s x).a = s then fromL (L.take k) s ++ [turnL s x] else fromL (L.take k) s := by
  rw [take_at hx, fromL_snoc]
def encL (x : Lnk) : Array Value := #[.agg #[.int .i64 x.a, .int .i64 x.b, .int .i64 x.w]]
theorem cell_of_heap {w w' : World} {b : Nat} (h : w'.heap[b]? = w.heap[b]?) (o : Nat) : w'.cell? ⟨b, o, none⟩ = w.cell? ⟨b, o, none⟩ := by simp [World.cell?, h]

set_option maxRecDepth 100000 in
set_option maxHeartbeats 4000000 in
theorem from1_in (m l Bn Bs Ba : Nat) (n : Net) (hs hl : Hdr) (s : Int) (J : List Lnk → World → Prop) (W0 : World) (h1m : 1 ≤ m) (hm : hl.n ≤ 1000000)
    (hbn : W0.heap[Bn]? = some (n.box hs hl)) (hbs : W0.heap[Bs]? = some (.cells #[.int .i64 s] 3 (0, 0))) (hne : Bn ≠ Ba ∧ Bn ≠ l ∧ Bs ≠ Ba ∧ Bs ≠ l) (hn : NetIn W0 n hs hl) (hla : ∀ d, hl.a = some d → 0 < hl.cap → d.block ≠ Ba ∧ d.block ≠ l)
    (hk : ∀ pre W, J pre W → W0.heap.size ≤ W.heap.size ∧ ∀ k, k < W0.heap.size → k ≠ Ba → k ≠ l → W.heap[k]? = W0.heap[k]?)
    (hJ : ∀ pre W W', J pre W → Below W.heap.size W W' → J pre W')
    (hY : ∀ pre x rest W, fromL n.links s = pre ++ x :: rest → J pre W → YieldAt Fence.wide (m - 1) Try.prog l (encL x) W fun e W' => e = .returned (.bool true) ∧ J (pre ++ [x]) W')
    (h0 : J [] W0) :
    CallsIn Fence.wide m Try.prog 74 #[.func (.yield l) #[] #[], .pointer (some ⟨Bn, 0, none⟩), .pointer (some ⟨Bs, 0, none⟩)] W0 fun e W' => (∃ v, e = .returned v) ∧ J (fromL n.links s) W' := by
  obtain ⟨la, ln, lc⟩ := hl
  have hN : Hid (ln = n.links.length) := hn.l.hlen
  have HLC : Hid (ln ≤ lc) := hn.l.hcap
  have hm : ln ≤ 1000000 := hm
  refine callsIn_of_wp Try.func74 rfl trivial ?_ rfl
  simp only [Try.ntmps74, List.size_toArray, List.length_cons, List.length_nil, Nat.reduceAdd, Nat.reduceSub, Array.replicate_succ, Array.replicate_zero, List.push_toArray, List.append_toArray, List.nil_append, List.cons_append]
  have hnl := (Array.getElem?_eq_some_iff.1 hbn).1
  have hsl := (Array.getElem?_eq_some_iff.1 hbs).1
  have n2 : W0.cell? ⟨Bn, 2, none⟩ = some (.slice la ln lc) := (box_cell hbn 2).1
  have HBS := Lib.hid hbs
  have HNI := Lib.hid hn
  clear hbs hn
  gi_wp2
  gi_loopw [9] (fun i wr => ∃ k : Nat, i = .int .i64 k ∧ k ≤ ln ∧ Hid (J (fromL (n.links.take k) s) wr)) (fun i _ => ln - (intOf i).toNat)
  case atStart => exact ⟨0, rfl, by omega, h0⟩
  case round =>
    obtain ⟨k, rfl, hkl, hJk⟩ := hrel
    obtain ⟨hsz, hkeep⟩ := hk _ _ hJk.out
    have HKP := Lib.hid hkeep
    by_cases hlt : k < ln
    · obtain ⟨b, off, x, e1, hbl, hx, c0, c1, c2⟩ := lnk_at HNI.out.l hlt
      have e1 : la = some ⟨b, off, none⟩ := e1
      subst e1
      obtain ⟨s1, s2⟩ := hla _ rfl (by have h9 : ln ≤ lc := HLC.out; show 0 < lc; omega)
      have hbw := hkeep b hbl s1 s2
      have d0 : wr.cell? ⟨b, off + k * 3, none⟩ = some (.int .i64 x.a) := by rw [cell_of_heap hbw]; exact c0
      have d1 : wr.cell? ⟨b, off + k * 3 + 1, none⟩ = some (.int .i64 x.b) := by rw [cell_of_heap hbw]; exact c1
      have d2 : wr.cell? ⟨b, off + k * 3 + 2, none⟩ = some (.int .i64 x.w) := by rw [cell_of_heap hbw]; exact c2
      have g0 : wr.cell? ⟨Bs, 0, none⟩ = some (.int .i64 s) := by rw [cell_of_heap (hkeep Bs hsl hne.2.2.1 hne.2.2.2)]; exact (box_cell HBS.out 0).1
      have hbl2 := World.block_lt_of_cell? wr _ d0
      have HX := Lib.hid hx
      have hkI : (k : Int) < (ln : Int) := by omega
      have hBsw : Bs < wr.heap.size := by omega
      clear hx c0 c1 c2 hbw hkeep
      obtain ⟨xa, xb, xw⟩ := x
      by_cases hb : xb = s
      · subst hb
        have HT0 : Hid ((turnL xb ⟨xa, xb, xw⟩).a = xb) := by show _ = _; unfold turnL; rw [if_pos rfl]
        have HTX : Hid (turnL xb ⟨xa, xb, xw⟩ = ⟨xb, xa, xw⟩) := by show _ = _; unfold turnL; rw [if_pos rfl]
        obtain ⟨rest, hsp⟩ := fromL_yields HX.out HT0.out
        rw [HTX.out] at hsp
        have hBel : Below wr.heap.size wr (wr.alloc (.cells #[.int .i64 xb, .int .i64 xa, .int .i64 xw] 55)) := (Below.refl _ _).alloc (Nat.le_refl _) _
        obtain ⟨fn, tmps, assign, body, hy, hR⟩ := hY _ _ _ _ hsp (hJ _ _ _ hJk.out hBel)
        dsimp only [encL] at hy
        clear hBel hsp
        gi_wp2
        refine hR.mono ?_
        rintro e W3 ⟨rfl, hJ3⟩
        have HJ3 := Lib.hid hJ3
        clear hJ3 hR hy
        gi_wp2
        go_roundw
        case rel => exact ⟨k + 1, by go_num, by omega, by show J _ _; rw [fromL_take HX.out, if_pos HT0.out, HTX.out]; exact HJ3.out⟩
        case measure => simp [intOf]; omega
      · have hb' : (xb == s) = false := by simpa using hb
        have HTX : Hid (turnL s ⟨xa, xb, xw⟩ = ⟨xa, xb, xw⟩) := by show _ = _; unfold turnL; rw [if_neg hb]
        by_cases ha : xa = s
        · subst ha
          have HT0 : Hid ((turnL xa ⟨xa, xb, xw⟩).a = xa) := by show _ = _; rw [HTX.out]
          obtain ⟨rest, hsp⟩ := fromL_yields HX.out HT0.out
          rw [HTX.out] at hsp
          have hBel : Below wr.heap.size wr (wr.alloc (.cells #[.int .i64 xa, .int .i64 xb, .int .i64 xw] 55)) := (Below.refl _ _).alloc (Nat.le_refl _) _
          obtain ⟨fn, tmps, assign, body, hy, hR⟩ := hY _ _ _ _ hsp (hJ _ _ _ hJk.out hBel)
          dsimp only [encL] at hy
          clear hBel hsp
          gi_wp2
          refine hR.mono ?_
          rintro e W3 ⟨rfl, hJ3⟩
          have HJ3 := Lib.hid hJ3
          clear hJ3 hR hy
          gi_wp2
          go_roundw
          case rel => exact ⟨k + 1, by go_num, by omega, by show J _ _; rw [fromL_take HX.out, if_pos HT0.out, HTX.out]; exact HJ3.out⟩
          case measure => simp [intOf]; omega
        · have ha' : (xa == s) = false := by simpa using ha
          have HNA : Hid (¬ (turnL s ⟨xa, xb, xw⟩).a = s) := by show ¬ _; rw [HTX.out]; exact ha
          have hBel : Hid (Below wr.heap.size wr (wr.alloc (.cells #[.int .i64 xa, .int .i64 xb, .int .i64 xw] 55))) := (Below.refl _ _).alloc (Nat.le_refl _) _
          gi_wp2
          refine ⟨fun f hf => (by cases hf), ?_⟩
          gi_wp2
          go_roundw
          case rel => exact ⟨k + 1, by go_num, by omega, by show J _ _; rw [fromL_take HX.out, if_neg HNA.out]; exact hJ _ _ _ hJk.out hBel.out⟩
          case measure => simp [intOf]; omega
    · have hkk : k = ln := by omega
      subst hkk
      have HT : Hid (n.links.take k = n.links) := by show _ = _; rw [List.take_of_length_le (by rw [hN.out]; exact Nat.le_refl _)]
      gi_wp2
      go_end0
      exact ⟨⟨_, rfl⟩, by have := hJk.out; rw [HT.out] at this; exact this⟩

theorem from_any (n : Net) (hs hl : Hdr) (s : Int) (w : World) : Calls Try.prog 57 #[n.val hs hl, .int .i64 s] w fun e w' => e = .returned (.func (.func 74) #[] #[.pointer (some ⟨w.heap.size, 0, none⟩), .pointer (some ⟨w.heap.size + 1, 0, none⟩)]) ∧ w' = (w.alloc (n.box hs hl)).alloc (.cells #[.int .i64 s] 3) := by
  go_enter Try.func57, Try.ntmps57
  go_wp2
  go_ret
  exact ⟨by simp, rfl⟩
end Go.Proofs.Ytgfakkkiejeofaa.Ne
