/- Networks: how they lie, and which are right. -/
import Derived.Test.YtknbpnkonhniiaaRows
import Derived.Test.YtknbpnkonhniiaaBx
import Derived.Test.YtknbpnkonhniiaaStp
import Derived.Test.YtknbpnkonhniiaaNeJ
import Derived.Lib.QuietBelow
import Derived.Deep.Cut
import Derived.Deep.CutBlock
import Derived.Deep.CutRange
import Derived.Deep.DeepCutAuto
import Derived.Deep.DeepFit
import Derived.Laws.OwnMore
import Derived.Deep.OwnRows
import Derived.StillTailTactics
import Derived.Deep.RegionLaw
namespace Go.Proofs.Ytknbpnkonhniiaa.Ne
open Go.RowKit Go.V Go.Proofs

def lnkEnc (r : Lnk) : List Value := [.int .i64 r.a, .int .i64 r.b, .int .i64 r.w]
def lcod : Cod Lnk := ⟨3, lnkEnc, fun _ => rfl, by simp [lnkEnc, Value.oneCell']⟩
abbrev lval (r : Lnk) : Value := .agg #[.int .i64 r.a, .int .i64 r.b, .int .i64 r.w]
def lok (r : Lnk) : Prop := (Lit.int .i64 r.a).wf = true ∧ (Lit.int .i64 r.b).wf = true ∧ (Lit.int .i64 r.w).wf = true
def rchEnc (r : Rch) : List Value := [.int .i64 r.stop, .int .i64 r.far]
def rcod : Cod Rch := ⟨2, rchEnc, fun _ => rfl, by simp [rchEnc, Value.oneCell']⟩
abbrev rval (r : Rch) : Value := .agg #[.int .i64 r.stop, .int .i64 r.far]
theorem lnk_at {w : World} {a : Option Addr} {n cap : Nat} {l : List Lnk} (h : Sl lcod w a n cap l) {i : Nat} (hi : i < n) :
   ∃ b off r, a = some ⟨b, off, none⟩ ∧ b < w.heap.size ∧ l[i]? = some r ∧ w.cell? ⟨b, off + i * 3, none⟩ = some (.int .i64 r.a) ∧ w.cell? ⟨b, off + i * 3 + 1, none⟩ = some (.int .i64 r.b) ∧ w.cell? ⟨b, off + i * 3 + 2, none⟩ = some (.int .i64 r.w) := by
  obtain ⟨b, off, rfl, hb, r, hr, hc⟩ := h.some hi
  exact ⟨b, off, r, rfl, hb, hr, hc 0 _ rfl, hc 1 _ rfl, hc 2 _ rfl⟩
/-! ### Networks -/
structure Net where
  ver : Int
  stops : List Stp
  links : List Lnk
deriving DecidableEq
abbrev Net.val (n : Net) (hs hl : Hdr) : Value := .agg #[.int .i64 n.ver, .slice hs.a hs.n hs.cap, .slice hl.a hl.n hl.cap]
abbrev Net.box (n : Net) (hs hl : Hdr) : Obj := .cells #[.int .i64 n.ver, .slice hs.a hs.n hs.cap, .slice hl.a hl.n hl.cap] 25
structure NetIn (w : World) (n : Net) (hs hl : Hdr) : Prop where
  s : Sl Stp.cod w hs.a hs.n hs.cap n.stops
  l : Sl lcod w hl.a hl.n hl.cap n.links
theorem NetIn.below {w w' : World} {n : Net} {hs hl : Hdr} (h : NetIn w n hs hl) (hb : Below w.heap.size w w') : NetIn w' n hs hl := ⟨h.s.below hb, h.l.below hb⟩
def NetBox (w : World) (g : Nat) (n : Net) (hs hl : Hdr) : Prop := w.heap[g]? = some (.cells #[.int .i64 n.ver, .slice hs.a hs.n hs.cap, .slice hl.a hl.n hl.cap] 25 (0, 0))
theorem NetBox.below {w w' : World} {g : Nat} {n : Net} {hs hl : Hdr} (h : NetBox w g n hs hl) (hw : Below w.heap.size w w') : NetBox w' g n hs hl := box_below h hw
theorem NetBox.alloc {w : World} {g : Nat} {n : Net} {hs hl : Hdr} (h : NetBox w g n hs hl) (o : Obj) : NetBox (w.alloc o) g n hs hl := box_alloc h
theorem NetBox.cells {w : World} {g : Nat} {n : Net} {hs hl : Hdr} (h : NetBox w g n hs hl) : g < w.heap.size ∧ w.cell? ⟨g, 0, none⟩ = some (.int .i64 n.ver) ∧ w.cell? ⟨g, 1, none⟩ = some (.slice hs.a hs.n hs.cap) ∧ w.cell? ⟨g, 2, none⟩ = some (.slice hl.a hl.n hl.cap) :=
  ⟨box_lt h, (box_cell h 0).1, (box_cell h 1).1, (box_cell h 2).1⟩

def wB (n lo hi : Int) : Bool := decide (lo ≤ n ∧ n ≤ hi)
def lnkB (k : Nat) (l : Lnk) : Bool := decide (0 ≤ l.a ∧ l.a < l.b ∧ l.b < k ∧ 1 ≤ l.w ∧ l.w ≤ 1048575)
def aftB (a b : Lnk) : Bool := decide (a.a < b.a ∨ a.a = b.a ∧ a.b < b.b)
def linksB (k : Nat) : Option Lnk → List Lnk → Bool
  | _, [] => true
  | none, l :: L => lnkB k l && linksB k (some l) L
  | some p, l :: L => lnkB k l && aftB p l && linksB k (some l) L
def netB (n : Net) : Bool := wB n.ver 1 1048576 && n.stops.all stpB && linksB n.stops.length none n.links
def checkE (n : Net) : Int := if n.stops.length ≤ 4096 ∧ n.links.length ≤ 16384 then if netB n then 0 else 2 else 3
def prv (L : List Lnk) : Nat → Option Lnk
  | 0 => none
  | i + 1 => L[i]?

theorem linksB_all {k : Nat} : ∀ (L : List Lnk) (p : Option Lnk), linksB k p L = true → (∀ l ∈ L, lnkB k l = true) ∧ (∀ q, p = some q → ∀ l ∈ L, aftB q l = true) ∧ L.Pairwise (fun a b => aftB a b = true)
  | [], _, _ => ⟨fun l hl => by simp at hl, fun _ _ l hl => by simp at hl, List.Pairwise.nil⟩
  | l :: L, p, h => by
    have h' : lnkB k l = true ∧ (∀ q, p = some q → aftB q l = true) ∧ linksB k (some l) L = true := by
      cases p with
      | none =>
        simp only [linksB, Bool.and_eq_true] at h
        exact ⟨h.1, fun q hq => (nomatch hq), h.2⟩
      | some q =>
        simp only [linksB, Bool.and_eq_true] at h
        exact ⟨h.1.1, fun q' hq => by cases hq; exact h.1.2, h.2⟩
    obtain ⟨h1, h2, h3⟩ := h'
    obtain ⟨g1, g2, g3⟩ := linksB_all L (some l) h3
    refine ⟨fun x hx => ?_, fun q hq x hx => ?_, List.Pairwise.cons (fun x hx => g2 l rfl x hx) g3⟩
    · rcases List.mem_cons.1 hx with rfl | hx
      · exact h1
      · exact g1 x hx
    · rcases List.mem_cons.1 hx with rfl | hx
      · exact h2 q hq
      · have a1 := h2 q hq
        have a2 := g2 l rfl x hx
        simp only [aftB, decide_eq_true_eq] at a1 a2 ⊢
        omega
/-- What is so of a right network. -/
theorem check_ok {n : Net} (h : checkE n = 0) : n.stops.length ≤ 4096 ∧ n.links.length ≤ 16384 ∧ (1 ≤ n.ver ∧ n.ver ≤ 1048576) ∧ (∀ s ∈ n.stops, stpB s = true) ∧ LinksOk n.links n.stops.length ∧ n.links.Pairwise (fun a b => aftB a b = true) := by
  unfold checkE at h
  split at h
  · next h1 =>
    split at h
    · next h2 =>
      unfold netB at h2
      simp only [Bool.and_eq_true] at h2
      obtain ⟨g1, -, g3⟩ := linksB_all _ _ h2.2
      refine ⟨h1.1, h1.2, of_decide_eq_true h2.1.1, by simpa using h2.1.2, fun l hl => ?_, g3⟩
      have := g1 l hl
      simp only [lnkB, decide_eq_true_eq] at this
      exact this
    · cases h
  · cases h
theorem check_cases (n : Net) : (checkE n = 3 ∧ ¬ (n.stops.length ≤ 4096 ∧ n.links.length ≤ 16384)) ∨ (n.stops.length ≤ 4096 ∧ n.links.length ≤ 16384) ∧ (netB n = false ∧ checkE n = 2 ∨ netB n = true ∧ checkE n = 0) := by
  unfold checkE
  by_cases h : n.stops.length ≤ 4096 ∧ n.links.length ≤ 16384
  · rw [if_pos h]
    refine .inr ⟨h, ?_⟩
    cases netB n
    · exact .inl ⟨rfl, rfl⟩
    · exact .inr ⟨rfl, rfl⟩
  · rw [if_neg h]; exact .inl ⟨rfl, h⟩
end Go.Proofs.Ytknbpnkonhniiaa.Ne
