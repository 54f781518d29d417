/- Numbers as bytes: rows of bytes; the document's, walked. -/
import Derived.Test.YtbdkhgenkekioaaWiQ
import Derived.Test.YtbdkhgenkekioaaBy
import Derived.Test.YtbdkhgenkekioaaBase6
import Derived.Laws.BitsLemmas
import Derived.ScopeJumps
namespace Go.Proofs.Ytbdkhgenkekioaa.Wi
open Go.RowKit Go.V Go.Proofs
open Go.Proofs.Ytbdkhgenkekioaa.Ne (box_alloc box_new box_cell box_below box_lt below_drewN bcell)

/-- A byte. -/
def bcod : Cod Int := ⟨1, fun x => [.int .u8 x], fun _ => rfl, by simp [Value.oneCell']⟩
theorem infoB : (Try.prog.info? 5).map (fun i => (i.zero, i.size, i.bytes)) = some (some (.int .u8 0), 1, 1) := by kernel_rfl
theorem eltB : Elt Try.prog 47 5 bcod 1 := Elt.of Try.underlying47 infoB rfl (by decide)
theorem byte_at {w : World} {a : Option Addr} {n cap : Nat} {l : List Int} (h : Sl bcod w a n cap l) {i : Nat} (hi : i < n) :
   ∃ b off r, a = some ⟨b, off, none⟩ ∧ b < w.heap.size ∧ l[i]? = some r ∧ w.cell? ⟨b, off + i, none⟩ = some (.int .u8 r) := by
  obtain ⟨b, off, rfl, hb, r, hr, hc⟩ := h.some hi
  refine ⟨b, off, r, rfl, hb, hr, ?_⟩
  have := hc 0 _ rfl
  simpa [bcod] using this
theorem own_below {α : Type} {c : Cod α} {T : TypeId} {base : Nat} {w w1 : World} {v : Value} {xs : List α} (h : V.Own T c base w v xs) (hg : w.grownBy w1 v.ownBlock) (hb : base ≤ w.heap.size) : Below base w w1 :=
  ⟨hg.os, hg.tape, hg.output, hg.size, fun k hk => hg.block k (by omega) (fun q => by
    have := (World.ownsRow.lt h k q.symm).1
    omega)⟩
theorem wraps_u8n (n : Int) : IntKind.u8.wrap n = n % 256 := by simp [IntKind.wrap, IntKind.bits, IntKind.signed]
set_option maxRecDepth 10000 in
theorem or128 : ∀ x : Fin 256, (x.val ||| 128) = x.val % 128 + 128 := by decide
theorem or128_u8 (n : Nat) : Go.bits BinOp.or IntKind.u8 ((n % 256 : Nat) : Int) 128 = ((n % 128 + 128 : Nat) : Int) := by
  have h := (bits_nat .u8 8 (by decide) wraps_u8 (n % 256) 128 (by omega) (by decide)).2
  have h2 := or128 ⟨n % 256, by omega⟩
  simp only [] at h2
  rw [h2] at h
  have e : n % 256 % 128 = n % 128 := by omega
  rw [e] at h
  exact h

/-! ### Put -/
theorem put_pre {pre : List Int} {m n : Nat} (h : pre ++ putV m = putV n) (hm : ¬ m < 128) : (pre ++ [((m % 128 + 128 : Nat) : Int)]) ++ putV (m / 128) = putV n := by
  rw [putV_big hm] at h
  rw [List.append_assoc]; exact h
theorem put_len {pre : List Int} {m n : Nat} (h : pre ++ putV m = putV n) (hn : n < 18446744073709551616) : pre.length < 10 := by
  have h1 := putV_len 10 n (by have : (18446744073709551616 : Nat) ≤ 128 ^ 10 := by decide
                               omega) (by omega)
  have h2 := putV_pos m
  rw [← h, List.length_append] at h1
  omega

set_option maxHeartbeats 1000000 in
theorem rput_any (n : Nat) (w : World) (hn : n < 18446744073709551616) : Calls Try.prog 102 #[.int .u64 (n : Int)] w fun e w' => ∃ v, e = .returned v ∧ V.Own 5 bcod w.heap.size w' v (putV n) ∧ Below w.heap.size w w' := by
  go_enter Try.func102, Try.ntmps102
  go_wp2_with fail
  go_loopw [0, 3] (fun m v wr => ∃ (k : Nat) (pre : List Int), m = .int .u64 ((k : Nat) : Int) ∧ k ≤ n ∧ Hid (V.Own 5 bcod w.heap.size wr v pre) ∧ Hid (Below w.heap.size w wr) ∧ Hid (pre ++ putV k = putV n)) (fun m _ _ => (intOf m).toNat)
  case atStart => exact ⟨n, [], rfl, Nat.le_refl _, Own.nil, Below.refl _ _, rfl⟩
  case round =>
    obtain ⟨k, pre, rfl, hk, HO, HB, HE⟩ := hrel
    have hpl := put_len HE.out hn
    have HM1 : Hid (pre.length + 1 ≤ maxLen) := by show _ ≤ _; unfold maxLen; omega
    have HM2 : Hid ((pre.length + 1) * 1 ≤ 140737488355328) := by show _ ≤ _; omega
    clear hpl
    by_cases hs : k < 128
    · have hd : decide ((128 : Int) ≤ (k : Int)) = false := decide_eq_false (by omega)
      have hc1 : IntKind.u8.wrap (k : Int) = (k : Int) := by rw [wraps_u8n]; omega
      have HPS : Hid (pre ++ [(k : Int)] = putV n) := by
        have := HE.out
        rwa [putV_small hs] at this
      go_wp2_with (at_builtin; go_loud (refine wpList_app eltB rfl (.tmp 15) (.tmp 18) rfl (base := w.heap.size) _ pre rfl (HO.out.alloc _) _ 1 1 [(k : Int)] rfl (sl_new (c := bcod) _ #[.int .u8 k] 5 [(k : Int)] 1 rfl (by unfold maxLen; omega) rfl) HM1.out HM2.out (by have := HB.out.size; simp; omega) ?_); intro v1 w1 ho hg; have HO1 := Lib.hid ho; have HB1 : Hid (Below w.heap.size w w1) := (HB.out.alloc HB.out.size _).trans (own_below (HO.out.alloc _) hg (by have := HB.out.size; simp; omega)); clear ho hg)
      go_ret
      exact ⟨_, rfl, by rw [← HPS.out]; exact HO1.out, HB1.out⟩
    · have hd : decide ((128 : Int) ≤ (k : Int)) = true := decide_eq_true (by omega)
      have hk6 : (k : Int) < 18446744073709551616 := by omega
      obtain ⟨y, hy⟩ : ∃ y : Int, y = ((k % 128 + 128 : Nat) : Int) := ⟨_, rfl⟩
      obtain ⟨q, hq⟩ : ∃ q : Int, q = ((k / 128 : Nat) : Int) := ⟨_, rfl⟩
      have hc1 : IntKind.u8.wrap (128 + (k : Int) % 128) = y := by rw [wraps_u8n]; omega
      have hc2 : (k : Int) / 128 = q := by omega
      have HP := Lib.hid (put_pre HE.out hs)
      rw [← hy] at HP
      replace hy := Lib.hid hy
      replace hq := Lib.hid hq
      go_wp2_with (at_builtin; go_loud (refine wpList_app eltB rfl (.tmp 6) (.tmp 11) rfl (base := w.heap.size) _ pre rfl (HO.out.alloc _) _ 1 1 [y] rfl (sl_new (c := bcod) _ #[.int .u8 y] 5 [y] 1 rfl (by unfold maxLen; omega) rfl) HM1.out HM2.out (by have := HB.out.size; simp; omega) ?_); intro v1 w1 ho hg; have HO1 := Lib.hid ho; have HB1 : Hid (Below w.heap.size w w1) := (HB.out.alloc HB.out.size _).trans (own_below (HO.out.alloc _) hg (by have := HB.out.size; simp; omega)); clear ho hg)
      go_roundw
      case rel => exact ⟨k / 128, _, by rw [hq.out], by omega, HO1.out, HB1.out, HP.out⟩
      case measure => simp [intOf]; omega
end Go.Proofs.Ytbdkhgenkekioaa.Wi
