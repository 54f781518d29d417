/- slices.SortStableFunc at a struct of k cells: the row holds the stable sort of what it held. -/
import Derived.Test.YtgfakkkiejeofaaSt5Link
import Derived.Test.YtgfakkkiejeofaaBase
namespace Go.Proofs.Ytgfakkkiejeofaa.Link
open Go.Shelf Go.RowKit Go.Lib Go.Sort Go.V
variable {P : Program} {α : Type} [Inhabited α]

set_option maxHeartbeats 1000000 in
set_option maxRecDepth 100000 in
theorem sortStable_any {k : Nat} (L : Sty P k) (F : P.funcs[58]? = some Try.f58) (FT : P.funcs[75]? = some Try.f75) (FI : P.funcs[83]? = some Try.f83) (FM : P.funcs[84]? = some Try.f84) (FR : P.funcs[86]? = some Try.f86) (FS : P.funcs[87]? = some Try.f87) (enc : α → List Value) (g : Nat) (fst cb : Array Value) (cf : α → α → Int) (blk off cap sz : Nat) (d : Array α) (w : World)
    (eg : ∀ args w, (callFunc g args).run P w = .ok (.enter g args) w) (et : ∀ args w, (callFunc 75 args).run P w = .ok (.enter 75 args) w) (ei : ∀ args w, (callFunc 83 args).run P w = .ok (.enter 83 args) w) (em : ∀ args w, (callFunc 84 args).run P w = .ok (.enter 84 args) w)
    (er : ∀ args w, (callFunc 86 args).run P w = .ok (.enter 86 args) w) (es : ∀ args w, (callFunc 87 args).run P w = .ok (.enter 87 args) w)
    (C : CmpL P g fst cb enc k cf blk off sz w)
    (R : RowK enc k w blk off d) (hs : d.size = sz) (hsz : sz < 1099511627776) :
    Calls P 58 #[.slice (some ⟨blk, off, none⟩) sz cap, .func (.func g) fst cb] w fun e w' => e = .returned (.tuple #[]) ∧ SWK enc k w blk off (stable (ltOf cf) d sz) w' := by
  have mixed := L.mixed; have t3 := L.t3; have a3 := L.a3; have z3 := L.z3; have v3 := L.v3; have t4 := L.t4; have a4 := L.a4; have z4 := L.z4; have v4 := L.v4; have tS := L.tS; have aS := L.aS; have zS := L.zS; have vS := L.vS; have tF := L.tF; have aF := L.aF; have zF := L.zF; have vF := L.vF; have aE := L.aE; have zE := L.zE
  have t0 := L.t0; have a0 := L.a0; have z0 := L.z0; have v0 := L.v0
  have HC : Aside _ := C
  have HS : Hid _ := hs
  clear C hs
  go_enter F, Try.ntmps58
  go_wp2_with fail
  refine (stable_any L FT FI FM FR FS enc g fst cb cf blk off cap sz d w eg ei em er es HC.out R HS.out hsz).mono ?_
  rintro e w2 ⟨rfl, S2⟩
  go_wp2_with fail
  go_end0
  exact ⟨rfl, S2⟩

/-- The types of the sort, in this program. -/
theorem sty : Sty Try.prog 3 where
  mixed := by kernel_rfl
  t0 := by kernel_rfl
  a0 := fun _ => by kernel_rfl
  z0 := fun _ => by kernel_rfl
  v0 := fun _ => by kernel_rfl
  t3 := by kernel_rfl
  a3 := fun _ => by kernel_rfl
  z3 := fun _ => by kernel_rfl
  v3 := fun _ => by kernel_rfl
  t4 := by kernel_rfl
  a4 := fun _ => by kernel_rfl
  z4 := fun _ => by kernel_rfl
  v4 := fun _ => by kernel_rfl
  tu := by kernel_rfl
  au := fun _ => by kernel_rfl
  zu := fun _ => by kernel_rfl
  vu := fun _ => by kernel_rfl
  tS := by kernel_rfl
  aS := fun _ => by kernel_rfl
  zS := fun _ => by kernel_rfl
  vS := fun _ => by kernel_rfl
  tF := by kernel_rfl
  aF := fun _ => by kernel_rfl
  zF := fun _ => by kernel_rfl
  vF := fun _ => by kernel_rfl
  aE := fun _ => by kernel_rfl
  zE := fun _ => by kernel_rfl

/-- slices.SortStableFunc in this program, where the comparison is function g. -/
theorem sortStable (enc : α → List Value) (g : Nat) (fst cb : Array Value) (cf : α → α → Int) (blk off cap sz : Nat) (d : Array α) (w : World)
    (eg : ∀ args w, (callFunc g args).run Try.prog w = .ok (.enter g args) w) (C : CmpL Try.prog g fst cb enc 3 cf blk off sz w)
    (R : RowK enc 3 w blk off d) (hs : d.size = sz) (hsz : sz < 1099511627776) :
    Calls Try.prog 58 #[.slice (some ⟨blk, off, none⟩) sz cap, .func (.func g) fst cb] w fun e w' => e = .returned (.tuple #[]) ∧ SWK enc 3 w blk off (stable (ltOf cf) d sz) w' :=
  sortStable_any sty (by kernel_rfl) (by kernel_rfl) (by kernel_rfl) (by kernel_rfl) (by kernel_rfl) (by kernel_rfl) enc g fst cb cf blk off cap sz d w eg (fun _ _ => by kernel_rfl) (fun _ _ => by kernel_rfl) (fun _ _ => by kernel_rfl) (fun _ _ => by kernel_rfl) (fun _ _ => by kernel_rfl) C R hs hsz
end Go.Proofs.Ytgfakkkiejeofaa.Link
