/- Fares: what they are, in plain Lean. -/
import Derived.Test.YtgdhlhjflbinmaaRows
import Derived.Test.YtgdhlhjflbinmaaBase2
namespace Go.Proofs.Ytgdhlhjflbinmaa
open Go.RowKit Go.V Go.Proofs

def wB (n lo hi : Int) : Bool := decide (lo ≤ n ∧ n ≤ hi)
theorem bcellX {W w1 : World} (hb : Below W.heap.size W w1) : (∀ b o, b < W.heap.size → w1.cell? ⟨b, o, none⟩ = W.cell? ⟨b, o, none⟩) ∧ (∀ b o, b < W.heap.size → w1.frozen? ⟨b, o, none⟩ = W.frozen? ⟨b, o, none⟩) :=
  ⟨fun b o h => hb.cell (p := ⟨b, o, none⟩) h, fun b o h => hb.frozen (p := ⟨b, o, none⟩) h⟩
theorem drop_atX {α : Type} {l : List α} {k : Nat} {r : α} (h : l[k]? = some r) : l.drop k = r :: l.drop (k + 1) := drop_at h

structure Pair where
  a : Int
  b : Int
deriving DecidableEq, Inhabited
def Pair.enc (r : Pair) : List Value := [.int .i64 r.a, .int .i64 r.b]
def Pair.cod : Cod Pair := ⟨2, Pair.enc, fun _ => rfl, by simp [Pair.enc, Value.oneCell']⟩
abbrev Pair.val (r : Pair) : Value := .agg #[.int .i64 r.a, .int .i64 r.b]
def Pair.ok (r : Pair) : Prop := (Lit.int .i64 r.a).wf = true ∧ (Lit.int .i64 r.b).wf = true
def icod : Cod Int := ⟨1, fun x => [.int .i64 x], fun _ => rfl, by simp [Value.oneCell']⟩
def Iok (x : Int) : Prop := (Lit.int .i64 x).wf = true

theorem pair_at {w : World} {a : Option Addr} {n cap : Nat} {l : List Pair} (h : Sl Pair.cod w a n cap l) {i : Nat} (hi : i < n) :
   ∃ b off r, a = some ⟨b, off, none⟩ ∧ b < w.heap.size ∧ l[i]? = some r ∧ w.cell? ⟨b, off + i * 2, none⟩ = some (.int .i64 r.a) ∧ w.cell? ⟨b, off + i * 2 + 1, none⟩ = some (.int .i64 r.b) := by
  obtain ⟨b, off, rfl, hb, r, hr, hc⟩ := h.some hi
  exact ⟨b, off, r, rfl, hb, hr, hc 0 _ rfl, hc 1 _ rfl⟩
theorem int_at {w : World} {a : Option Addr} {n cap : Nat} {l : List Int} (h : Sl icod w a n cap l) {i : Nat} (hi : i < n) :
   ∃ b off r, a = some ⟨b, off, none⟩ ∧ b < w.heap.size ∧ l[i]? = some r ∧ w.cell? ⟨b, off + i, none⟩ = some (.int .i64 r) := by
  obtain ⟨b, off, rfl, hb, r, hr, hc⟩ := h.some hi
  refine ⟨b, off, r, rfl, hb, hr, ?_⟩
  have := hc 0 _ rfl
  simpa [icod] using this

/-! ### Bands -/
def bandGo : Pair → List Pair → Int → Bool
  | last, [], over => decide (last.b ≤ over ∧ over ≤ 16777216)
  | last, x :: l, over => decide (last.a < x.a ∧ x.a ≤ 4294967296 ∧ last.b ≤ x.b ∧ x.b ≤ 16777216) && bandGo x l over
def bandOk (l : List Pair) (over : Int) : Bool := decide (l.length ≤ 64) && bandGo ⟨-1, 0⟩ l over
def bandFind : List Pair → Int → Int → Int
  | [], over, _ => over
  | x :: l, over, far => if far ≤ x.a then x.b else bandFind l over far

theorem bandFind_at : ∀ (l : List Pair) (over far : Int) (i : Nat), (∀ j x, j < i → l[j]? = some x → x.a < far) → (∀ x, l[i]? = some x → far ≤ x.a) → bandFind l over far = (match l[i]? with | some x => x.b | none => over)
  | [], over, far, i, _, _ => by simp [bandFind]
  | x :: l, over, far, 0, _, h2 => by
    have := h2 x (by simp)
    simp [bandFind, this]
  | x :: l, over, far, i + 1, h1, h2 => by
    have h3 := h1 0 x (by omega) (by simp)
    have h4 := bandFind_at l over far i (fun j y hj hy => h1 (j + 1) y (by omega) (by simpa using hy)) (fun y hy => h2 y (by simpa using hy))
    unfold bandFind
    rw [if_neg (by omega), h4]; simp

/-- What right bands are like, each and in order. -/
theorem bandGo_all : ∀ (l : List Pair) (last : Pair) (over : Int), bandGo last l over = true → (∀ x ∈ l, last.a < x.a ∧ x.a ≤ 4294967296 ∧ last.b ≤ x.b ∧ x.b ≤ 16777216) ∧ l.Pairwise (fun x y => x.a < y.a) ∧ last.b ≤ over ∧ over ≤ 16777216
  | [], last, over, h => by
    have := of_decide_eq_true h
    exact ⟨fun x hx => by simp at hx, .nil, this⟩
  | x :: l, last, over, h => by
    unfold bandGo at h
    rw [Bool.and_eq_true] at h
    have h1 := of_decide_eq_true h.1
    obtain ⟨g1, g2, g3, g4⟩ := bandGo_all l x over h.2
    refine ⟨fun y hy => ?_, List.pairwise_cons.2 ⟨fun y hy => (g1 y hy).1, g2⟩, by omega, g4⟩
    rcases List.mem_cons.1 hy with e | e
    · subst e; exact h1
    · have := g1 y e; omega
theorem bandFind_in : ∀ (l : List Pair) (over far : Int), (∀ x ∈ l, 0 ≤ x.b ∧ x.b ≤ 16777216) → 0 ≤ over → over ≤ 16777216 → 0 ≤ bandFind l over far ∧ bandFind l over far ≤ 16777216
  | [], over, far, _, h1, h2 => ⟨h1, h2⟩
  | x :: l, over, far, h, h1, h2 => by
    unfold bandFind
    split
    · exact h x (by simp)
    · exact bandFind_in l over far (fun y hy => h y (by simp [hy])) h1 h2

/-! ### Shares -/
def sharesOk (l : List Int) : Bool := decide (1 ≤ l.length ∧ l.length ≤ 16 ∧ l[0]? = some 1000 ∧ ∀ s ∈ l, 0 ≤ s ∧ s ≤ 1000)
theorem share_split (p s : Int) : p / 1000 * s + p % 1000 * s / 1000 = p * s / 1000 := by
  have e : p * s = (p / 1000 * s) * 1000 + p % 1000 * s := by
    have := Int.mul_ediv_add_emod p 1000
    conv => lhs; rw [← this]
    rw [Int.add_mul, Int.mul_comm 1000 (p / 1000), Int.mul_assoc, Int.mul_comm 1000 s, ← Int.mul_assoc]
  rw [e, Int.add_comm (p / 1000 * s * 1000), Int.add_mul_ediv_right _ _ (by decide), Int.add_comm]

/-! ### Rungs -/
def rungGo : Pair → List Pair → Bool
  | _, [] => true
  | last, x :: l => decide (last.a < x.a ∧ x.a ≤ 281474976710656 ∧ x.b < last.b ∧ 0 ≤ x.b) && rungGo x l
def rungsOk (l : List Pair) : Bool := decide (l.length ≤ 16) && rungGo ⟨-1, 1000⟩ l && decide (l = [] ∨ (l.getLastD ⟨-1, 1000⟩).b = 0)
def payGo (sum : Int) : Pair → List Pair → Int → Int
  | fr, [], all => if sum ≤ fr.a then all else all + (min sum 281474976710656 - fr.a) * fr.b / 1000
  | fr, r :: l, all => if sum ≤ fr.a then all else payGo sum r l (all + (min sum r.a - fr.a) * fr.b / 1000)
def payOf (l : List Pair) (sum : Int) : Int := payGo sum ⟨0, 1000⟩ l 0

def partOf (sum : Int) (r : Pair) (l : List Pair) : Int := match l with
  | [] => sum - r.a
  | q :: _ => if q.a < sum then q.a - r.a else sum - r.a
def payRGo (sum : Int) : List Pair → Int → Int
  | [], all => all
  | r :: l, all => payRGo sum l (if 0 < partOf sum r l then all + partOf sum r l * r.b / 1000 else all)
def payR (l : List Pair) (sum : Int) : Int := match l with
  | [] => sum
  | r :: _ => if sum ≤ r.a then sum else payRGo sum l r.a

theorem payRGo_none : ∀ (l : List Pair) (sum all : Int), (∀ x ∈ l, sum ≤ x.a) → payRGo sum l all = all
  | [], _, _, _ => rfl
  | r :: l, sum, all, h => by
    have h1 := h r (by simp)
    have : ¬ 0 < partOf sum r l := by
      cases l with
      | nil =>
        have e : partOf sum r [] = sum - r.a := rfl
        omega
      | cons q l =>
        have := h q (by simp)
        have e : partOf sum r (q :: l) = if q.a < sum then q.a - r.a else sum - r.a := rfl
        rw [e]; split <;> omega
    unfold payRGo
    rw [if_neg this]; exact payRGo_none l sum all (fun x hx => h x (by simp [hx]))
theorem rungGo_all : ∀ (l : List Pair) (last : Pair), rungGo last l = true → (∀ x ∈ l, last.a < x.a ∧ x.a ≤ 281474976710656 ∧ x.b < last.b ∧ 0 ≤ x.b)
  | [], _, _ => fun x hx => by simp at hx
  | x :: l, last, h => by
    unfold rungGo at h
    rw [Bool.and_eq_true] at h
    have h1 := of_decide_eq_true h.1
    have g := rungGo_all l x h.2
    intro y hy
    rcases List.mem_cons.1 hy with e | e
    · subst e; exact h1
    · have := g y e; omega
theorem pay_go (sum : Int) (hs : sum ≤ 281474976710656) : ∀ (l : List Pair) (fr : Pair) (all : Int), rungGo fr l = true → fr.a < sum → payGo sum fr l all = payRGo sum (fr :: l) all
  | [], fr, all, _, h => by
    unfold payGo payRGo payRGo
    rw [if_neg (by omega)]
    have : partOf sum fr [] = sum - fr.a := rfl
    rw [this, if_pos (by omega), Int.min_eq_left hs]
  | r :: l, fr, all, h, h1 => by
    unfold rungGo at h
    rw [Bool.and_eq_true] at h
    have h2 := of_decide_eq_true h.1
    unfold payGo payRGo
    rw [if_neg (by omega)]
    have e : partOf sum fr (r :: l) = min sum r.a - fr.a := by
      show (if r.a < sum then r.a - fr.a else sum - fr.a) = _
      split <;> omega
    rw [e, if_pos (by omega)]
    by_cases h3 : r.a < sum
    · exact pay_go sum hs l r _ h.2 h3
    · have g : payRGo sum (r :: l) (all + (min sum r.a - fr.a) * fr.b / 1000) = _ := payRGo_none (r :: l) sum _ (fun x hx => by
        rcases List.mem_cons.1 hx with e | e
        · subst e; omega
        · have := rungGo_all l r h.2 x e; omega)
      rw [g]
      cases l <;> (unfold payGo; rw [if_pos (by omega)])
theorem pay_same (l : List Pair) (sum : Int) (h : rungGo ⟨-1, 1000⟩ l = true) (h0 : 0 ≤ sum) (hs : sum ≤ 281474976710656) : payOf l sum = payR l sum := by
  unfold payOf payR
  cases l with
  | nil =>
    show payGo sum ⟨0, 1000⟩ [] 0 = sum
    unfold payGo
    split
    · show (0 : Int) = sum
      have : sum ≤ 0 := by assumption
      omega
    · show 0 + (min sum 281474976710656 - 0) * 1000 / 1000 = sum
      rw [Int.min_eq_left hs]; omega
  | cons r l =>
    unfold rungGo at h
    rw [Bool.and_eq_true] at h
    have h2 := of_decide_eq_true h.1
    simp only at h2
    show payGo sum ⟨0, 1000⟩ (r :: l) 0 = if sum ≤ r.a then sum else payRGo sum (r :: l) r.a
    unfold payGo
    simp only
    by_cases hz : sum ≤ 0
    · rw [if_pos hz, if_pos (by omega)]; omega
    · rw [if_neg hz]
      by_cases h3 : sum ≤ r.a
      · rw [if_pos h3]
        have e : 0 + (min sum r.a - 0) * 1000 / 1000 = sum := by rw [Int.min_eq_left h3]; omega
        rw [e]
        cases l <;> (unfold payGo; rw [if_pos h3])
      · rw [if_neg h3]
        have e : 0 + (min sum r.a - 0) * 1000 / 1000 = r.a := by rw [Int.min_eq_right (by omega)]; omega
        rw [e]
        exact pay_go sum hs l r _ h.2 (by omega)

/-! ### Tariffs and bills -/
structure Tar where
  ver : Int
  bands : List Pair
  over : Int
  full : Int
  shares : List Int
  unit : Int
  window : Int
  chain : Int
  rungs : List Pair
def Tar.val (t : Tar) (hb hs hr : Hdr) : Value := .agg #[.int .i64 t.ver, .slice hb.a hb.n hb.cap, .int .i64 t.over, .int .i64 t.full, .slice hs.a hs.n hs.cap, .int .i64 t.unit, .int .i64 t.window, .int .i64 t.chain, .slice hr.a hr.n hr.cap]
structure TarIn (w : World) (t : Tar) (hb hs hr : Hdr) : Prop where
  b : Sl Pair.cod w hb.a hb.n hb.cap t.bands
  s : Sl icod w hs.a hs.n hs.cap t.shares
  r : Sl Pair.cod w hr.a hr.n hr.cap t.rungs
theorem TarIn.below {w w' : World} {t : Tar} {hb hs hr : Hdr} (h : TarIn w t hb hs hr) (hw : Below w.heap.size w w') : TarIn w' t hb hs hr := ⟨h.b.below hw, h.s.below hw, h.r.below hw⟩
def tarOk (t : Tar) : Bool := wB t.ver 1 1048576 && bandOk t.bands t.over && wB t.full 0 16777216 && sharesOk t.shares && wB t.unit 1 16777216 && wB t.window 0 1099511627776 && wB t.chain 1 16 && rungsOk t.rungs

end Go.Proofs.Ytgdhlhjflbinmaa
