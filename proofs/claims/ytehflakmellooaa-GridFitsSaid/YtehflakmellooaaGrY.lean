/- Grids: what holds whatever the cells' size, plain. -/
import Derived.Test.YtehflakmellooaaGrV
namespace Go.Proofs.Ytehflakmellooaa.Ne
open Go.RowKit Go.V Go.Proofs

theorem take_filter {P : Fnd → Bool} (hP : ∀ x y, ltF x y → P y = true → P x = true) : ∀ {L : List Fnd}, L.Pairwise ltF → L.take (L.filter P).length = L.filter P
  | [], _ => rfl
  | x :: L, h => by
    obtain ⟨h1, h2⟩ := List.pairwise_cons.1 h
    cases hx : P x with
    | true => rw [List.filter_cons_of_pos hx, List.length_cons, List.take_succ_cons, take_filter hP h2]
    | false =>
      have e : L.filter P = [] := List.filter_eq_nil_iff.2 fun y hy hh => by
        rw [hP x y (h1 y hy) hh] at hx; cases hx
      rw [List.filter_cons_of_neg (by rw [hx]; decide), e]; rfl
theorem near_sub {p : Stp} {S : List Stp} {m m' : Int} (h : m ≤ m') : (nearF p S m').filter (fun f => decide (f.sq ≤ m)) = nearF p S m := by
  refine near_uniq ⟨List.Nodup.sublist List.filter_sublist (near_good p S m').1, fun f => ?_⟩ (List.Pairwise.sublist List.filter_sublist (near_sorted p S m'))
  rw [List.mem_filter, (near_good p S m').2 f, decide_eq_true_iff]
  constructor
  · rintro ⟨⟨k, hk, e, -⟩, h2⟩; exact ⟨k, hk, e, h2⟩
  · rintro ⟨k, hk, e, h2⟩; exact ⟨⟨k, hk, e, by omega⟩, h2⟩
theorem near_full {p : Stp} {S : List Stp} {m : Int} {k : Nat} (h : S.length ≤ k) : nearL p S m k = (nearF p S m).map Fnd.stop := by
  unfold nearL
  rw [List.take_of_length_le (Nat.le_trans (near_len p S m) h)]
theorem near_prefix {p : Stp} {S : List Stp} {m m' : Int} {k : Nat} (hk : S.length ≤ k) (h : m ≤ m') : (nearL p S m k).length ≤ (nearL p S m' k).length ∧ (nearL p S m' k).take (nearL p S m k).length = nearL p S m k := by
  rw [near_full hk, near_full hk, List.length_map, List.length_map]
  have e := take_filter (P := fun f => decide (f.sq ≤ m)) (fun x y hxy hy => by
    have hy := of_decide_eq_true hy
    refine decide_eq_true ?_
    unfold ltF at hxy
    omega) (near_sorted p S m')
  rw [near_sub h] at e
  refine ⟨?_, ?_⟩
  · have := congrArg List.length e
    rw [List.length_take] at this
    omega
  · rw [← List.map_take, e]
theorem sq_zero {p q : Stp} (hp : stpB p = true) (hq : stpB q = true) (h : sqE p q ≤ 0) : q = p := by
  unfold sqE at h
  rw [if_pos ⟨hp, hq⟩] at h
  have nn : ∀ a : Int, 0 ≤ a * a := fun a => by
    rcases Int.le_total 0 a with h | h
    · exact Int.mul_nonneg h h
    · have := Int.mul_nonneg (show 0 ≤ -a by omega) (show 0 ≤ -a by omega)
      rwa [Int.neg_mul_neg] at this
  have h1 := nn (p.x - q.x)
  have h2 := nn (p.y - q.y)
  have e1 : (p.x - q.x) * (p.x - q.x) = 0 := by omega
  have e2 : (p.y - q.y) * (p.y - q.y) = 0 := by omega
  have e1 : p.x - q.x = 0 := by rcases Int.mul_eq_zero.1 e1 with e | e <;> exact e
  have e2 : p.y - q.y = 0 := by rcases Int.mul_eq_zero.1 e2 with e | e <;> exact e
  cases p; cases q
  simp at e1 e2 ⊢
  omega
theorem sq_self (p : Stp) : sqE p p = 0 := by
  unfold sqE
  split
  · rw [Int.sub_self, Int.sub_self]; rfl
  · rfl
theorem near_here {S : List Stp} {s : Stp} {k K : Nat} (hk : S[k]? = some s) (hS : ∀ s ∈ S, stpB s = true) (hK : S.length ≤ K) :
    (k : Int) ∈ nearL s S 0 K ∧ ∀ i ∈ nearL s S 0 K, ∃ j : Nat, i = (j : Int) ∧ S[j]? = some s := by
  rw [near_full hK]
  have hkl := (List.getElem?_eq_some_iff.1 hk).1
  constructor
  · refine List.mem_map.2 ⟨fnd s S (k : Int), ((near_good s S 0).2 _).2 ⟨k, hkl, rfl, ?_⟩, rfl⟩
    rw [fnd_get hk]
    show sqE s s ≤ 0
    rw [sq_self]; exact Int.le_refl _
  · intro i hi
    obtain ⟨f, hf, rfl⟩ := List.mem_map.1 hi
    obtain ⟨j, hj, rfl, hsq⟩ := ((near_good s S 0).2 f).1 hf
    have hjs : S[j]? = some S[j] := List.getElem?_eq_getElem hj
    refine ⟨j, rfl, ?_⟩
    rw [fnd_get hjs] at hsq
    rw [hjs, sq_zero (hS s (List.mem_of_getElem? hk)) (hS _ (List.mem_of_getElem? hjs)) hsq]
theorem near_nums {p : Stp} {S : List Stp} {m : Int} {K : Nat} : (nearL p S m K).length ≤ S.length := by
  unfold nearL
  rw [List.length_map, List.length_take]
  have := near_len p S m
  omega
theorem isame_self (a1 : Option Addr) (n1 cap1 : Nat) (xs : List Int) (a2 : Option Addr) (n2 cap2 : Nat) (w : World) (h1 : Sl icod w a1 n1 cap1 xs) (h2 : Sl icod w a2 n2 cap2 xs) :
    Calls Try.prog 10 #[.slice a1 n1 cap1, .slice a2 n2 cap2] w fun e w' => e = .returned (.bool true) ∧ Below w.heap.size w w' :=
  (isame_any a1 n1 cap1 xs a2 n2 cap2 xs w h1 h2).mono fun _ _ ⟨k1, k2⟩ => ⟨by rw [k1, decide_eq_true rfl], k2⟩
/-- A grid, as it lies. -/
structure GO (w : World) (g : Nat) (hs : Hdr) (z : Int) (b : Nat) (S : List Stp) : Prop where
  box : GBox w g hs z b
  sl : Sl Stp.cod w hs.a hs.n hs.cap S
  mp : GMap w b (idxs S z)
theorem GO.below {w w' : World} {g : Nat} {hs : Hdr} {z : Int} {b : Nat} {S : List Stp} (h : GO w g hs z b S) (hb : Below w.heap.size w w') : GO w' g hs z b S := ⟨h.box.below hb, h.sl.below hb, h.mp.below hb⟩
theorem gnew_ok (a : Option Addr) (n cap : Nat) (S : List Stp) (z : Int) (w : World) (hn : n ≤ 200) (h : Sl Stp.cod w a n cap S) (h0 : rightE S z = 0) :
    Calls Try.prog 9 #[.slice a n cap, .int .i64 z] w fun e w' => ∃ (g : Nat) (hs : Hdr) (b : Nat), e = .returned (.tuple #[gP g, .int .i64 0]) ∧ GO w' g hs z b S ∧ Below w.heap.size w w' :=
  (grnew_ok a n cap S z w hn h h0).mono fun _ _ ⟨g, hs, b, h1, h2, h3, h4, h5⟩ => ⟨g, hs, b, h1, ⟨h2, h3, h4⟩, h5⟩
theorem gnear_ok (g : Nat) (hs : Hdr) (z : Int) (b : Nat) (S : List Stp) (p : Stp) (reach : Int) (w : World)
    (hn : S.length ≤ 200) (hz : 1 ≤ z ∧ z ≤ 67108864) (hr : nearB p.x p.y reach 1048576 = true) (hS : ∀ s ∈ S, stpB s = true) (h : GO w g hs z b S) :
    Calls Try.prog 6 #[gP g, .int .i64 p.x, .int .i64 p.y, .int .i64 reach, .int .i64 1048576] w fun e w' => ∃ va vc, e = .returned (.tuple #[.slice va (nearL p S (reach * reach) 1048576).length vc, .int .i64 0]) ∧ Sl icod w' va (nearL p S (reach * reach) 1048576).length vc (nearL p S (reach * reach) 1048576) ∧ (∀ d, va = some d → d.spot = none) ∧ Below w.heap.size w w' :=
  (grnear_any g hs z b S p reach 1048576 w hn hz hr hS h.box h.sl h.mp).mono fun _ _ ⟨v, h1, h2, h3⟩ => by
    obtain ⟨a', c', rfl, hs', hd⟩ := h2.slice
    exact ⟨a', c', h1, hs', fun d hd' => by obtain ⟨g', cur, rfl, -⟩ := hd d hd'; rfl, h3⟩
theorem ints_upto {w : World} {a : Option Addr} {n cap q : Nat} {xs : List Int} (h : Sl icod w a n cap xs) (hd : ∀ d, a = some d → d.spot = none) (hq : q ≤ n) (W : World) : (Instr.slice 27 (.slice a n cap) none (some (.int .i64 (q : Int))) none).run Try.prog W = .ok (.slice a q cap) W := by
  have hc := h.hcap
  rw [run_slice_h W 27 a n cap (by kernel_rfl) .i64 (q : Int) (by omega) (by omega)]
  have e : (sizeOf (Try.prog.elem 27)).run Try.prog W = .ok 1 W := by kernel_rfl
  rw [e]
  show Result.ok (sliced a 0 (q : Int).toNat cap 1) W = _
  unfold sliced
  have hm : a.map (·.add (0 * 1)) = a := by
    cases a with
    | none => rfl
    | some d =>
      obtain ⟨b, off, sp⟩ := d
      have := hd _ rfl
      have this : sp = none := this
      subst this
      show some ((⟨b, off, none⟩ : Addr).add (0 * 1)) = some _
      rw [Nat.zero_mul, add_addr]; rfl
  rw [Int.toNat_natCast, hm, ite_self]; rfl
end Go.Proofs.Ytehflakmellooaa.Ne
