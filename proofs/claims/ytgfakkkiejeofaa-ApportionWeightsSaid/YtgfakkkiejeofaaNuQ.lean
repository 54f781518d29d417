/- Networks: the weight of two stops' link, a stop's links by it, one step back, what the distances come to; ref14.Same and ref15.Weight walked. -/
import Derived.Test.YtgfakkkiejeofaaNsP
import Derived.Test.YtgfakkkiejeofaaNeS
namespace Go.Proofs.Ytgfakkkiejeofaa.Ne
open Go.RowKit Go.V Go.Proofs Go.Sort

def twoB (a b : Int) (l : Lnk) : Bool := decide (l.a = a ∧ l.b = b ∨ l.a = b ∧ l.b = a)
/-- Of the link of two stops; 0: none. -/
def wtE (L : List Lnk) (a b : Int) : Int := match L.find? (twoB a b) with | some l => l.w | none => 0
theorem pair_of {α : Type} {R : α → α → Prop} {L : List α} (h : L.Pairwise R) {x y : α} (hx : x ∈ L) (hy : y ∈ L) : x = y ∨ R x y ∨ R y x := by
  induction h with
  | nil => simp at hx
  | cons h1 _ ih =>
    rcases List.mem_cons.1 hx with e | hx'
    · rcases List.mem_cons.1 hy with e' | hy'
      · exact .inl (e.trans e'.symm)
      · rw [e]; exact .inr (.inl (h1 _ hy'))
    · rcases List.mem_cons.1 hy with e' | hy'
      · rw [e']; exact .inr (.inr (h1 _ hx'))
      · exact ih hx' hy'
section
variable {L : List Lnk} {k : Nat}
theorem edge_uniq (hL : LinksOk L k) (hp : L.Pairwise fun a b => aftB a b = true) {a b w w' : Int} (h : V.Edge L a b w) (h' : V.Edge L a b w') : w = w' := by
  obtain ⟨l, h1, h2, h3⟩ := h
  obtain ⟨l', g1, g2, g3⟩ := h'
  have hl := hL l h1
  have hl' := hL l' g1
  rcases pair_of hp h1 g1 with e | e | e
  · rw [← h3, ← g3, e]
  · simp only [aftB, decide_eq_true_eq] at e; omega
  · simp only [aftB, decide_eq_true_eq] at e; omega
theorem wt_edge {a b : Int} (h : wtE L a b ≠ 0) : V.Edge L a b (wtE L a b) := by
  unfold wtE at h ⊢
  cases e : L.find? (twoB a b) with
  | none => rw [e] at h; exact absurd rfl h
  | some l =>
    have h1 := List.mem_of_find?_eq_some e
    have h2 : twoB a b l = true := List.find?_some e
    have h2 := of_decide_eq_true h2
    exact ⟨l, h1, h2, rfl⟩
theorem edge_wt (hL : LinksOk L k) (hp : L.Pairwise fun a b => aftB a b = true) {a b w : Int} (h : V.Edge L a b w) : wtE L a b = w ∧ wtE L a b ≠ 0 := by
  have hw := (hL.edge h).2.2.2.2.2.1
  have hne : wtE L a b ≠ 0 := by
    unfold wtE
    cases e : L.find? (twoB a b) with
    | none =>
      obtain ⟨l, h1, h2, -⟩ := h
      have := List.find?_eq_none.1 e l h1
      exact absurd (decide_eq_true h2) this
    | some l =>
      have h1 := List.mem_of_find?_eq_some e
      have := hL l h1
      show l.w ≠ 0
      omega
  exact ⟨edge_uniq hL hp (wt_edge hne) h, hne⟩
theorem wt_lim (hL : LinksOk L k) (a b : Int) : 0 ≤ wtE L a b ∧ wtE L a b ≤ 1048575 := by
  by_cases h : wtE L a b = 0
  · omega
  · have := hL.edge (wt_edge h); omega
/-- A stop's links by the weights. -/
def nearW (L : List Lnk) (s : Int) (k : Nat) : List Lnk := (List.range k).filterMap fun i : Nat => if wtE L s i = 0 then none else some ⟨s, i, wtE L s i⟩
theorem srt_eq : ∀ {A B : List Lnk}, A.Pairwise (fun x y => x.b < y.b) → B.Pairwise (fun x y => x.b < y.b) → (∀ x, x ∈ A ↔ x ∈ B) → A = B
  | [], [], _, _, _ => rfl
  | [], y :: B, _, _, h => by have := (h y).2 List.mem_cons_self; simp at this
  | x :: A, [], _, _, h => by have := (h x).1 List.mem_cons_self; simp at this
  | x :: A, y :: B, hA, hB, h => by
    obtain ⟨a1, a2⟩ := List.pairwise_cons.1 hA
    obtain ⟨b1, b2⟩ := List.pairwise_cons.1 hB
    have e : x = y := by
      rcases List.mem_cons.1 ((h x).1 List.mem_cons_self) with e | hx
      · exact e
      · rcases List.mem_cons.1 ((h y).2 List.mem_cons_self) with e | hy
        · exact e.symm
        · have := a1 y hy; have := b1 x hx; omega
    subst e
    congr 1
    refine srt_eq a2 b2 fun z => ⟨fun hz => ?_, fun hz => ?_⟩
    · rcases List.mem_cons.1 ((h z).1 (List.mem_cons_of_mem _ hz)) with e | hz'
      · subst e; have := a1 z hz; omega
      · exact hz'
    · rcases List.mem_cons.1 ((h z).2 (List.mem_cons_of_mem _ hz)) with e | hz'
      · subst e; have := b1 z hz; omega
      · exact hz'
theorem fromL_ne (hL : LinksOk L k) (hp : L.Pairwise fun a b => aftB a b = true) (s : Int) : (fromL L s).Pairwise (fun x y => x.b ≠ y.b) := by
  unfold fromL
  rw [List.pairwise_filter, List.pairwise_map]
  refine List.Pairwise.imp_of_mem (R := fun a b => aftB a b = true) (fun {x y} hx hy hr hx1 hy1 => ?_) hp
  have h1 := hL x hx
  have h2 := hL y hy
  have hx1 := of_decide_eq_true hx1
  have hy1 := of_decide_eq_true hy1
  simp only [aftB, decide_eq_true_eq] at hr
  unfold turnL at hx1 hy1 ⊢
  split at hx1 <;> split at hy1 <;> simp_all <;> omega
theorem nearL_srt (hL : LinksOk L k) (hp : L.Pairwise fun a b => aftB a b = true) (s : Int) : (nearL L s).Pairwise (fun x y => x.b < y.b) := by
  have h1 : (nearL L s).Pairwise (fun x y => ltB y x = false) := isort_srt ordB (fromL L s)
  have h2 : (nearL L s).Pairwise (fun x y => x.b ≠ y.b) := ((isort_perm (fromL L s)).pairwise_iff (fun {_ _} h e => h e.symm)).2 (fromL_ne hL hp s)
  refine (h1.and h2).imp fun {x y} h => ?_
  obtain ⟨g1, g2⟩ := h
  have : ¬ y.b < x.b := fun e => by rw [(ltB_iff _ _).2 e] at g1; cases g1
  omega
theorem nearW_srt (s : Int) : (nearW L s k).Pairwise (fun x y => x.b < y.b) := by
  unfold nearW
  rw [List.pairwise_filterMap]
  refine (List.pairwise_lt_range (n := k)).imp fun {i j} h x hx y hy => ?_
  split at hx
  · cases hx
  · cases hx
    split at hy
    · cases hy
    · cases hy
      show (i : Int) < j
      omega
theorem near_eq (hL : LinksOk L k) (hp : L.Pairwise fun a b => aftB a b = true) (s : Int) : nearL L s = nearW L s k := by
  refine srt_eq (nearL_srt hL hp s) (nearW_srt s) fun x => ⟨fun h => ?_, fun h => ?_⟩
  · obtain ⟨h1, h2⟩ := mem_nearL h
    have he := hL.edge h2
    obtain ⟨e1, e2⟩ := edge_wt hL hp h2
    unfold nearW
    rw [List.mem_filterMap]
    refine ⟨x.b.toNat, by simp; omega, ?_⟩
    rw [Int.toNat_of_nonneg (by omega), if_neg e2, e1]
    cases x
    simp only at h1
    subst h1
    rfl
  · unfold nearW at h
    rw [List.mem_filterMap] at h
    obtain ⟨i, hi, hx⟩ := h
    split at hx
    · cases hx
    · next hne =>
      cases hx
      have he := wt_edge hne
      exact nearL_mem he (hL.edge he).2.2.2.2.1
end

/-! ### The stop ahead, by the weights -/
/-- May one step back go to a stop? -/
def hopB (L : List Lnk) (f : Int → Int) (v : Int) (i : Nat) : Bool := decide (0 < wtE L v i ∧ 0 ≤ f i ∧ f i + wtE L v i = f v)
theorem prev_eq {L : List Lnk} {k : Nat} (hL : LinksOk L k) (hp : L.Pairwise fun a b => aftB a b = true) (f : Int → Int) (v : Int) :
    prevE L f v = match (List.range k).find? (hopB L f v) with | some i => (i : Int) | none => v := by
  unfold prevE
  rw [near_eq hL hp v]
  unfold nearW
  rw [List.find?_filterMap]
  have e : (fun i : Nat => ((if wtE L v i = 0 then none else some ⟨v, i, wtE L v i⟩ : Option Lnk)).any (backB f v)) = hopB L f v := by
    funext i
    have := wt_lim hL v i
    unfold hopB
    split
    · next h => rw [h]; simp
    · next h =>
      show backB f v _ = _
      unfold backB
      show decide (0 ≤ f i ∧ f i + wtE L v i = f v) = _
      rw [decide_eq_decide]
      constructor
      · intro q; exact ⟨by omega, q.1, q.2⟩
      · intro q; exact ⟨q.2.1, q.2.2⟩
  rw [e]
  cases hf : (List.range k).find? (hopB L f v) with
  | none => rfl
  | some i =>
    have h : hopB L f v i = true := List.find?_some hf
    have h := of_decide_eq_true h
    show (match (if wtE L v i = 0 then none else some (⟨v, i, wtE L v i⟩ : Lnk)) with | some l => l.b | none => v) = _
    rw [if_neg (by omega)]

theorem own_sl {α : Type} {e : TypeId} {c : Cod α} {base : Nat} {w : World} {a : Option Addr} {m cap : Nat} {xs : List α} (h : V.Own e c base w (.slice a m cap) xs) : Sl c w a m cap xs ∧ m = xs.length := by
  obtain ⟨a', c', e1, hsl, -⟩ := h.slice
  simp only [Value.slice.injEq] at e1
  obtain ⟨rfl, rfl, rfl⟩ := e1
  exact ⟨hsl, rfl⟩
def nxt (L : List Lnk) (f : Int → Int) (v : Int) : Nat → Int
  | 0 => -1
  | j + 1 => if nxt L f v j < 0 ∧ hopB L f v j = true then j else nxt L f v j
theorem nxt_find (L : List Lnk) (f : Int → Int) (v : Int) : ∀ j, nxt L f v j = match (List.range j).find? (hopB L f v) with | some i => (i : Int) | none => -1
  | 0 => rfl
  | j + 1 => by
    show (if nxt L f v j < 0 ∧ hopB L f v j = true then (j : Int) else nxt L f v j) = _
    rw [nxt_find L f v j, List.range_succ, List.find?_append]
    cases h : (List.range j).find? (hopB L f v) with
    | some i => simp; omega
    | none =>
      cases h2 : hopB L f v j with
      | true => simp [h2]
      | false => simp [h2]
theorem nxt_step {L : List Lnk} {f : Int → Int} {v t : Int} {j : Nat} (h : nxt L f v j = t) : nxt L f v (j + 1) = if t < 0 ∧ hopB L f v j = true then (j : Int) else t := by
  show (if nxt L f v j < 0 ∧ hopB L f v j = true then (j : Int) else nxt L f v j) = _
  rw [h]
theorem nxt_prev {L : List Lnk} {k : Nat} (hL : LinksOk L k) (hp : L.Pairwise fun a b => aftB a b = true) {a : Int} (ha : 0 ≤ a ∧ a < k) {v : Int} (h0 : 0 ≤ far L k a v) (hv : v ≠ a) :
    ∃ q : Nat, nxt L (far L k a) v k = q ∧ prevE L (far L k a) v = q ∧ q < k ∧ 0 ≤ far L k a q ∧ far L k a q < far L k a v := by
  obtain ⟨l, h1, h2⟩ := back_ex hL ha h0 hv
  have hpr := prev_eq hL hp (far L k a) v
  have hb : ∃ l, prevE L (far L k a) v = l.b ∧ l ∈ nearL L v ∧ backB (far L k a) v l = true := by
    unfold prevE
    cases hf : (nearL L v).find? (backB (far L k a) v) with
    | none => exact absurd h2 (List.find?_eq_none.1 hf l h1)
    | some x => exact ⟨x, rfl, List.mem_of_find?_eq_some hf, List.find?_some hf⟩
  obtain ⟨x, e, g1, g2⟩ := hb
  obtain ⟨i1, i2, i3, i4⟩ := back_in hL g1 g2
  rw [← e] at i1 i2 i3 i4
  rw [nxt_find]
  cases hf : (List.range k).find? (hopB L (far L k a) v) with
  | none =>
    rw [hf] at hpr
    have hpr : prevE L (far L k a) v = v := hpr
    rw [hpr] at i4
    omega
  | some i =>
    rw [hf] at hpr
    have hpr : prevE L (far L k a) v = (i : Int) := hpr
    rw [hpr] at i1 i2 i3 i4
    exact ⟨i, rfl, hpr, by omega, i3, i4⟩
theorem far_lim {L : List Lnk} {k : Nat} (hL : LinksOk L k) {a : Int} (ha : 0 ≤ a ∧ a < k) (h60 : k ≤ 60) (h120 : L.length ≤ 120) (v : Int) : -1 ≤ far L k a v ∧ far L k a v ≤ 20000000000 := by
  have hf := far_is hL ha
  by_cases hv : 0 ≤ v ∧ v < k
  · obtain ⟨x, rfl⟩ : ∃ x : Nat, v = x := ⟨v.toNat, (Int.toNat_of_nonneg hv.1).symm⟩
    have hs : Sound L k a (bf L k a) _ := (bf_sound ha).turns hL k
    have := hs.one x _ (bf_at hL ha (by omega))
    have e3 : (k : Int) * ((L.length : Int) * 2097150) ≤ 60 * (120 * 2097150) :=
      Int.mul_le_mul (by omega) (by omega) (by omega) (by omega)
    omega
  · rw [hf.out hL ha hv]; omega
theorem bf_cell {L : List Lnk} {k : Nat} (hL : LinksOk L k) {a : Int} (ha : 0 ≤ a ∧ a < k) {w : World} {base o cap : Nat} (h : V.Own 3 icod base w (.slice (some ⟨o, 0, none⟩) k cap) (bf L k a)) {i : Nat} (hi : i < k) : w.cell? ⟨o, i, none⟩ = some (.int .i64 (far L k a i)) := by
  obtain ⟨d, hd, p0, -, -⟩ := icells h bf_len.symm hi
  rw [bf_at hL ha hi] at hd
  cases hd
  exact p0

set_option maxHeartbeats 1000000 in
theorem isame_any (a1 : Option Addr) (n1 cap1 : Nat) (xs : List Int) (a2 : Option Addr) (n2 cap2 : Nat) (ys : List Int) (w : World) (h1 : Sl icod w a1 n1 cap1 xs) (h2 : Sl icod w a2 n2 cap2 ys) :
    Calls Try.prog 11 #[.slice a1 n1 cap1, .slice a2 n2 cap2] w fun e w' => e = .returned (.bool (decide (xs = ys))) ∧ Below w.heap.size w w' := by
  have hN := Lib.hid h1.hlen
  have hM := Lib.hid h2.hlen
  have hm : n1 ≤ 9223372036854775807 := by have := h1.hcap; have := h1.hmax; unfold maxLen at this; omega
  by_cases hlen : n1 = n2
  · subst hlen
    go_enter Try.func11, Try.ntmps11
    go_wp2
    go_loopw [5] (fun i wr => ∃ (k : Nat), k ≤ n1 ∧ i = .int .i64 k ∧ Hid (xs.take k = ys.take k) ∧ Below w.heap.size w wr) (fun i _ => n1 - (intOf i).toNat)
    case atStart => exact ⟨0, by omega, rfl, by show _ = _; rw [List.take_zero, List.take_zero], Below.refl _ _⟩
    case round =>
      obtain ⟨k, hk, rfl, he, hb⟩ := hrel
      by_cases hlt : k < n1
      · obtain ⟨b, off, r, rfl, -, hr, c0⟩ := int_at (h1.below hb) hlt
        obtain ⟨b', off', r', rfl, -, hr', c0'⟩ := int_at (h2.below hb) hlt
        have HR := Lib.hid hr
        have HR' := Lib.hid hr'
        have HB := Lib.hid hb
        have hltz : (k : Int) < n1 := by omega
        clear hr hr' hb
        by_cases heq : r = r'
        · subst heq
          go_wp2_with fail
          go_quiet (fail)
          go_wp2_with fail
          go_roundw
          case rel => exact ⟨k + 1, by omega, by go_num, by show _ = _; rw [take_at HR.out, take_at HR'.out, he.out], below_drewN HB.out _⟩
          case measure => simp [intOf]; omega
        · have hq : (r != r') = true := by simpa using heq
          have hq2 : (r == r') = false := by simpa using heq
          have HE := Lib.hid heq
          clear heq
          go_wp2_with fail
          go_quiet (fail)
          go_wp2_with fail
          go_ret
          exact ⟨ret_bool (by
            symm; rw [decide_eq_false_iff_not]
            intro h; apply HE.out
            have a1 := HR.out; have a2 := HR'.out
            rw [h, a2] at a1; exact (Option.some.inj a1).symm), below_drewN HB.out _⟩
      · have hk' : k = n1 := by omega
        have HK := Lib.hid hk'; clear hk'
        go_wp2
        go_ret
        exact ⟨ret_bool (by
          have e := he.out
          rw [HK.out, List.take_of_length_le (by rw [← hN.out]; omega), List.take_of_length_le (by rw [← hM.out]; omega)] at e
          simp [e]), hb⟩
  · have hl : (((n1 : Int)) != (n2 : Int)) = true := by simp; omega
    have HL := Lib.hid hlen
    clear hlen
    go_enter Try.func11, Try.ntmps11
    go_wp2
    go_ret
    exact ⟨ret_bool (by
      have := HL.out
      symm; rw [decide_eq_false_iff_not]
      intro h; apply this; rw [hN.out, hM.out, h]), Below.refl _ _⟩

theorem wtE_past {L : List Lnk} {a b : Int} {k : Nat} {l : Lnk} (hk : L[k]? = some l) (hn : ∀ x ∈ L.take k, twoB a b x = false) (hl : twoB a b l = true) : wtE L a b = l.w := by
  unfold wtE
  have e : L = L.take k ++ L.drop k := (List.take_append_drop _ _).symm
  rw [e, List.find?_append, List.find?_eq_none.2 (fun x hx => by rw [hn x hx]; simp), drop_at hk]
  simp [hl]
theorem wtE_none {L : List Lnk} {a b : Int} (hn : ∀ x ∈ L, twoB a b x = false) : wtE L a b = 0 := by
  unfold wtE
  rw [List.find?_eq_none.2 (fun x hx => by rw [hn x hx]; simp)]

set_option maxHeartbeats 4000000 in
set_option maxRecDepth 100000 in
theorem rwt_any (n : Net) (hs hl : Hdr) (a b : Int) (w : World) (h : NetIn w n hs hl) :
    Calls Try.prog 39 #[n.val hs hl, .int .i64 a, .int .i64 b] w fun e w' => e = .returned (.int .i64 (wtE n.links a b)) ∧ Below w.heap.size w w' := by
  have mixed : Try.prog.follows .mixedOrders = true := by kernel_rfl
  obtain ⟨sa, k, sc⟩ := hs
  obtain ⟨la, m, lc⟩ := hl
  have hln : m = n.links.length := h.l.hlen
  have hm9 : m ≤ 9223372036854775807 := by have h1 : m ≤ lc := h.l.hcap; have h2 : lc ≤ maxLen := h.l.hmax; unfold maxLen at h2; omega
  have HLN := Lib.hid hln
  have HH := Lib.hid h
  have HX0 := Lib.hid (box_new w (n.box ⟨sa, k, sc⟩ ⟨la, m, lc⟩))
  have HB0 : Hid (Below w.heap.size w (w.alloc (n.box ⟨sa, k, sc⟩ ⟨la, m, lc⟩))) := (Below.refl _ _).alloc (Nat.le_refl _) _
  clear h hln
  go_enter Try.func39, Try.ntmps39
  go_wp2_with fail
  go_loopw [7] (fun i wr => ∃ j : Nat, i = .int .i64 j ∧ j ≤ m ∧ Hid (∀ x ∈ n.links.take j, twoB a b x = false) ∧ Hid (wr.heap[w.heap.size]? = some (n.box ⟨sa, k, sc⟩ ⟨la, m, lc⟩)) ∧ Hid (Below w.heap.size w wr)) (fun i _ => m - (intOf i).toNat)
  case atStart => exact ⟨0, by go_num, by omega, (fun x hx => by simp at hx), HX0.out, HB0.out⟩
  case round =>
    obtain ⟨j, rfl, hj, hno, HXr, HBX⟩ := hrel
    obtain ⟨c0, c1, c2, -, -, -⟩ := box3_cells HXr.out
    by_cases hlt : j < m
    · obtain ⟨b', off, l, ha, hbl, hr, p0, p1, p2⟩ := lnk_at (HH.out.l.below HBX.out) hlt
      have ha : la = _ := ha
      subst ha
      have HR := Lib.hid hr
      obtain ⟨xa, xb, xw⟩ := l
      have b0 : (j : Int) < (m : Int) := by omega
      have HBE := Lib.hid (HBX.out.alloc HBX.out.size (.cells #[.int .i64 xa, .int .i64 xb, .int .i64 xw] 55))
      have HXE := Lib.hid (box_alloc (o := .cells #[.int .i64 xa, .int .i64 xb, .int .i64 xw] 55) HXr.out)
      clear hr
      obtain ⟨bb, hbb⟩ : ∃ bb, twoB a b ⟨xa, xb, xw⟩ = bb := ⟨_, rfl⟩
      have HBB := Lib.hid hbb
      clear hbb
      cases bb with
      | true =>
        have hc : xa = a ∧ xb = b ∨ xa = b ∧ xb = a := of_decide_eq_true HBB.out
        have hc : (xa == a) = true ∧ (xb == b) = true ∨ ((xa == a) = true ∧ (xb == b) = false ∧ (xa == b) = true ∧ (xb == a) = true) ∨ ((xa == a) = false ∧ (xa == b) = true ∧ (xb == a) = true) := by
          simp only [beq_iff_eq, beq_eq_false_iff_ne]
          omega
        rcases hc with ⟨d1, d2⟩ | ⟨d1, d2, d3, d4⟩ | ⟨d1, d2, d3⟩
        all_goals
          go_wp2_with fail
          go_ret
          exact ⟨by rw [wtE_past HR.out hno.out HBB.out]; rfl, HBE.out⟩
      | false =>
        have hc : ¬ (xa = a ∧ xb = b ∨ xa = b ∧ xb = a) := of_decide_eq_false HBB.out
        have HNO : Hid (∀ x ∈ n.links.take (j + 1), twoB a b x = false) := by
          intro x hx
          rw [take_at HR.out] at hx
          rcases List.mem_append.1 hx with hx | hx
          · exact hno.out x hx
          · rw [List.mem_singleton] at hx; subst hx; exact HBB.out
        have hc : ((xa == a) = false ∧ (xa == b) = false) ∨ ((xa == a) = false ∧ (xa == b) = true ∧ (xb == a) = false) ∨ ((xa == a) = true ∧ (xb == b) = false ∧ (xa == b) = false) ∨ ((xa == a) = true ∧ (xb == b) = false ∧ (xa == b) = true ∧ (xb == a) = false) := by
          simp only [beq_iff_eq, beq_eq_false_iff_ne]
          omega
        rcases hc with ⟨d1, d2⟩ | ⟨d1, d2, d3⟩ | ⟨d1, d2, d3⟩ | ⟨d1, d2, d3, d4⟩
        all_goals
          go_wp2_with fail
          go_roundw
          case rel => exact ⟨j + 1, by go_num, by omega, HNO.out, HXE.out, HBE.out⟩
          case measure => simp [intOf]; omega
    · have hjm : m = j := by omega
      subst hjm
      have HZ : Hid (wtE n.links a b = 0) := by
        show _ = _
        refine wtE_none fun x hx => hno.out x ?_
        rw [List.take_of_length_le (by have := HLN.out; omega)]; exact hx
      go_wp2_with fail
      go_ret
      exact ⟨by rw [HZ.out]; rfl, HBX.out⟩
end Go.Proofs.Ytgfakkkiejeofaa.Ne
