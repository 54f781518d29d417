/- Networks: a stop's links, sorted: walked. -/
import Derived.Test.YtgfakkkiejeofaaNsA
import Derived.Test.YtgfakkkiejeofaaNeC
import Derived.Test.YtgfakkkiejeofaaStNLink
namespace Go.Proofs.Ytgfakkkiejeofaa.Ne
open Go.RowKit Go.V Go.Shelf Go.Proofs Go.Sort

attribute [local go_sem] Oper.semAt_some

theorem flat_getElem {α : Type} [Inhabited α] (c : Cod α) (xs : List α) (t : Nat) (h : t < xs.length * c.k) : (xs.flatMap c.enc)[t]? = some ((c.enc xs.toArray[t / c.k]!)[t % c.k]!) := by
  have hk : 0 < c.k := by rcases Nat.eq_zero_or_pos c.k with e | e; rw [e] at h; omega; exact e
  have h1 : t % c.k < c.k := Nat.mod_lt _ hk
  have h2 : t / c.k < xs.length := by rw [Nat.div_lt_iff_lt_mul hk]; exact h
  have := flat_get c xs (t / c.k) (t % c.k) h1
  rw [show t / c.k * c.k + t % c.k = t by rw [Nat.mul_comm]; exact Nat.div_add_mod t c.k] at this
  rw [this]
  have e1 : xs[t / c.k]? = some xs[t / c.k] := List.getElem?_eq_getElem h2
  rw [e1]
  have e2 : xs.toArray[t / c.k]! = xs[t / c.k] := by rw [getElem!_pos xs.toArray _ (by simpa using h2)]; simp
  rw [e2]
  show (c.enc xs[t / c.k])[t % c.k]? = _
  rw [List.getElem?_eq_getElem (by rw [c.len]; exact h1), getElem!_pos (c.enc xs[t / c.k]) (t % c.k) (by rw [c.len]; exact h1)]

theorem holdsK_of_cells {α : Type} [Inhabited α] (c : Cod α) {w : World} {b off : Nat} {xs : List α} (h : Cells w b off (xs.flatMap c.enc)) (hf : ∀ j, w.frozen? ⟨b, j, none⟩ = false) : HoldsK c.enc c.k w b off xs.toArray := by
  intro j hj
  have hj' : j < xs.length * c.k := by simpa [size_flatK] using hj
  refine ⟨?_, hf _⟩
  rw [get_flatK _ _ _ _ (by simpa using hj')]
  exact h j _ (flat_getElem c xs j hj')

theorem cells_of_holdsK {α : Type} [Inhabited α] (c : Cod α) {w : World} {b off : Nat} {d : Array α} (h : HoldsK c.enc c.k w b off d) : Cells w b off (d.toList.flatMap c.enc) := by
  intro j u hu
  have hj : j < d.toList.length * c.k := by rw [← flat_len c]; exact (List.getElem?_eq_some_iff.1 hu).1
  have h1 := (h j (by simpa [size_flatK] using hj)).1
  rw [get_flatK _ _ _ _ (by simpa using hj)] at h1
  rw [h1]
  have := flat_getElem c d.toList j hj
  rw [hu] at this
  simpa using this.symm

/-- What a sort leaves of the rest of memory. -/
theorem swk_below {α : Type} {enc : α → List Value} {k : Nat} {w w' : World} {blk off : Nat} {dk : Array α} [Inhabited α] (h : SWK enc k w blk off dk w') {B : Nat} (hB : B ≤ blk) (hw : B ≤ w.heap.size) : Below B w w' := by
  obtain ⟨m, os, rfl⟩ := h
  unfold sortWorldK putRowK putRow mapBlock Sort.ahead grow
  refine ⟨rfl, rfl, rfl, by simp, fun i hi => ?_⟩
  simp only []
  rw [Array.getElem?_append_left (by simpa using (show i < w.heap.size by omega)), Array.getElem?_modify, if_neg (by omega)]

theorem swk_own {α : Type} [Inhabited α] (c : Cod α) {w w' : World} {base n cap g : Nat} {e : TypeId} {xs : List α} {dk : Array α} (h : w.ownsRow base e c.k (.slice (some ⟨g, 0, none⟩) n cap) n (xs.flatMap c.enc)) (S : SWK c.enc c.k w g 0 dk w') (hs : dk.size = n) :
    w'.ownsRow base e c.k (.slice (some ⟨g, 0, none⟩) n cap) n (dk.toList.flatMap c.enc) := by
  obtain ⟨h1, h2⟩ := h
  rcases h2 with ⟨h2, _⟩ | ⟨g', cap', cur, h2, hb, hg, hn, hm, hz, ht⟩
  · cases h2
  · cases h2
    obtain ⟨m, os, rfl⟩ := S
    have hgs := (Array.getElem?_eq_some_iff.1 hg).1
    have hh : (sortWorldK c.enc c.k w g 0 m dk os).heap[g]? = some (.cells (putCells id 0 (flatK c.enc c.k dk) cur) e (0, 0)) := by
      unfold sortWorldK putRowK putRow mapBlock Sort.ahead grow
      simp only []
      rw [Array.getElem?_append_left (by simpa using hgs), Array.getElem?_modify, if_pos rfl, hg]
      rfl
    have hlen : (dk.toList.flatMap c.enc).length = n * c.k := by rw [flat_len, Array.length_toList, hs]
    refine ⟨hlen, .inr ⟨g, cap, _, rfl, hb, hh, hn, hm, by simp only [putCells, Array.size_mapIdx]; exact hz, ?_⟩⟩
    have hfz : ∀ j, w.frozen? ⟨g, j, none⟩ = false := fun j => by simp [World.frozen?, hg]
    apply List.ext_getElem?
    intro j
    by_cases hj : j < n * c.k
    · rw [List.getElem?_take_of_lt hj]
      have hsz : n * c.k ≤ cap * c.k := Nat.mul_le_mul_right _ hn
      have hu : (dk.toList.flatMap c.enc)[j]? = some ((c.enc dk.toList.toArray[j / c.k]!)[j % c.k]!) := flat_getElem c dk.toList j (by rw [Array.length_toList, hs]; exact hj)
      rw [hu]
      simp only [Array.getElem?_toList]
      have hjc : j < cur.size := by rw [hz]; omega
      simp only [putCells, Array.getElem?_mapIdx, Array.getElem?_eq_getElem hjc, Option.map_some]
      rw [if_pos (by rw [size_flatK, hs]; omega), Nat.sub_zero, get_flatK _ _ _ _ (by rw [hs]; exact hj)]
      rfl
    · rw [List.getElem?_eq_none (by simp; omega), List.getElem?_eq_none (by omega)]

theorem own_base {w : World} {base base' : Nat} {e : TypeId} {k : Nat} {v : Value} {n : Nat} {cs : List Value} (h : w.ownsRow base e k v n cs) (hb : base' ≤ base) : w.ownsRow base' e k v n cs := by
  obtain ⟨h1, h2⟩ := h
  refine ⟨h1, ?_⟩
  rcases h2 with h2 | ⟨g, cap, cur, h2, h3, h4⟩
  · exact .inl h2
  · exact .inr ⟨g, cap, cur, h2, by omega, h4⟩


/-! ### The order -/
def cmpB (x y : Lnk) : Int := cmpI x.b y.b
def ltB : Lnk → Lnk → Bool := ltOf cmpB
theorem ltB_iff (x y : Lnk) : ltB x y = true ↔ x.b < y.b := by
  unfold ltB ltOf cmpB cmpI
  rw [decide_eq_true_iff]
  (repeat' split) <;> omega
theorem ordB : Ord ltB where
  asymm x y h := by
    cases h' : ltB y x with
    | false => rfl
    | true => have := (ltB_iff x y).1 h; have := (ltB_iff y x).1 h'; omega
  trans x y z h1 h2 := by
    have := (ltB_iff x y).1 h1; have := (ltB_iff y z).1 h2; exact (ltB_iff x z).2 (by omega)
  neg x y z h1 h2 := by
    cases h' : ltB x z with
    | false => rfl
    | true =>
      have a := (ltB_iff x z).1 h'
      have b : ¬ x.b < y.b := fun h => by rw [(ltB_iff x y).2 h] at h1; cases h1
      have c : ¬ y.b < z.b := fun h => by rw [(ltB_iff y z).2 h] at h2; cases h2
      omega
set_option maxHeartbeats 1000000 in
theorem near1_any (x y : Lnk) (w : World) : Calls Try.prog 59 #[lval x, lval y] w fun e w' => e = .returned (.int .i64 (cmpB x y)) ∧ ∃ q os, w' = grow (w.drewN q) os := by
  obtain ⟨xa, xb, xw⟩ := x
  obtain ⟨ya, yb, yw⟩ := y
  go_enter Try.func59, Try.ntmps59
  go_wp2_with (go_at_call 29; refine (cmpI_any _ _ _).mono ?_; rintro e w1 ⟨rfl, rfl⟩)
  go_ret
  refine ⟨rfl, 0, #[.cells #[.int .i64 xa, .int .i64 xb, .int .i64 xw] 55, .cells #[.int .i64 ya, .int .i64 yb, .int .i64 yw] 55], ?_⟩
  rw [alloc_eq_grow, alloc_eq_grow, grow_grow]; rfl
theorem nearLays (blk off sz : Nat) (w : World) : Link.CmpL Try.prog 59 #[] #[] lnkEnc 3 cmpB blk off sz w := by
  intro m os dk _ x y
  exact near1_any x y _

theorem wpListIn_app {α : Type} {c : Cod α} {e t : TypeId} {base : Nat} {w : World} {F : Fence} {n : Nat} {P : Program} {bytes : Nat} (E : Elt P t e c bytes) {ops : Array Oper} {rest : List Oper} {o : Oper} {a : Act} {Q : Exit → Act → World → Prop} (hgd : o.guard = none) (s x : Operand)
    (ho : o.op = .call { callee := .builtin .append, args := #[s, x], argTypes := #[t, t] }) (v : Value) (xs : List α) (hs : a.eval s = v) (hown : V.Own e c base w v xs)
    (d : Addr) (m cx : Nat) (ys : List α) (hx : a.eval x = .slice (some d) m cx) (hsl : Sl c w (some d) m cx ys) (hm : xs.length + m ≤ maxLen) (hb : (xs.length + m) * bytes ≤ 140737488355328) (hbase : base ≤ w.heap.size)
    (h : ∀ v' w', V.Own e c base w' v' (xs ++ ys) → w.grownBy w' v.ownBlock → wpListIn F n P ops Q rest (a.put o.dst v') w') : wpListIn F n P ops Q (o :: rest) a w := by
  obtain ⟨i, z, h1, h2, h3, h4, h5⟩ := E.row
  refine wpListIn_append_own _ hgd s x t ho base e i z c.k bytes E.ht h1 h2 h3 h4 h5 E.pos v xs.length _ hs hown d m cx (ys.flatMap c.enc) hx (by rw [flat_len, hsl.hlen]) ?_ ?_ hm hb hbase ?_
  · exact hsl.src
  · exact fun u hu => by obtain ⟨y, -, hy⟩ := List.mem_flatMap.1 hu; exact c.one y u hy
  · intro v' w' k1 k2 k3
    refine h v' w' ?_ k2
    unfold V.Own
    rw [List.length_append, List.flatMap_append, ← hsl.hlen]; exact k1

/-- Between two rounds. -/
structure NearJ (w W1 : World) (Ba l D : Nat) (o : Obj) (pre : List Lnk) (W : World) : Prop where
  out : ∃ v, W.heap[Ba]? = some (.cells #[v] 23 (0, 0)) ∧ V.Own 55 lcod W1.heap.size W v pre
  rcd : W.heap[l]? = some o
  def_ : W.heap[D]? = some (.deferred (some []))
  bel : Below w.heap.size w W
  sz : W1.heap.size ≤ W.heap.size
  kp : ∀ k, k < W1.heap.size → k ≠ Ba → k ≠ l → W.heap[k]? = W1.heap[k]?
theorem NearJ.below {w W1 W W' : World} {Ba l D : Nat} {o : Obj} {pre : List Lnk} (h : NearJ w W1 Ba l D o pre W) (hb : Below W.heap.size W W') : NearJ w W1 Ba l D o pre W' := by
  obtain ⟨v, h1, h2⟩ := h.out
  exact ⟨⟨v, box_below h1 hb, h2.below hb⟩, box_below h.rcd hb, box_below h.def_ hb, h.bel.trans (hb.mono h.bel.size), Nat.le_trans h.sz hb.size, fun k hk h3 h4 => (hb.block k (Nat.lt_of_lt_of_le hk h.sz)).trans (h.kp k hk h3 h4)⟩
end Go.Proofs.Ytgfakkkiejeofaa.Ne
