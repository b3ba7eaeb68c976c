/- viaticumlaw46.InspectTells returns true, whatever the replies and the two rows of bytes that come in, and these read as they did. No condition beyond the statement's own. -/
import Derived.Test.YtcceeigkgklkoaaRows
import Derived.Test.YtcceeigkgklkoaaOpen
import Derived.Test.YtcceeigkgklkoaaLaw46
namespace Go.Proofs.Ytcceeigkgklkoaa.inspectTells
open Go.ChangeShapes Go.WideShapes Go.ChangeAt Go.RowKit
set_option linter.unusedVariables false
theorem own : ownKnob Try.prog.godebug = none := by kernel_rfl
theorem laidOut : laidOutB Try.prog = true := by kernel_rfl
theorem shut_bool {H : Type} {enc : TypeId × Value → H} {W : World} {base : Nat} {sp : Nat → Bool} {held : Bool} (b : Bool) : DataW.Trod enc Try.prog W base sp held 4 (.bool b) (.lit (.bool b)) [] :=
  ⟨1, by simp [DataW.trod, Value.cells, Try.underlying4]⟩
section
variable {H : Type} {enc : TypeId × Value → H} {W : World}
theorem opens_bytes : Opens enc Try.prog W (laySl layB) 23 := opens_sl Try.underlying23 (by kernel_rfl) (opens_u8 Try.underlying5)
set_option maxRecDepth 100000 in
theorem opens_rpy : Opens enc Try.prog W layRpy 33 := by
  intro fuel cs x h
  obtain ⟨xs, n, _, rfl, hl, hlen, hf⟩ := DataW.trod_struct Try.underlying33 h
  rw [show Try.prog.cellsOf 33 = 4 from by kernel_rfl] at hl
  match cs, hl with
  | [c0, c1, c2, c3], _ =>
  have hx : ∀ i, i < 4 → ∃ y, xs[i]? = some y := fun i hi => ⟨_, List.getElem?_eq_getElem (by rw [hlen]; exact hi)⟩
  obtain ⟨y0, hy0⟩ := hx 0 (by decide)
  obtain ⟨y1, hy1⟩ := hx 1 (by decide)
  obtain ⟨y2, hy2⟩ := hx 2 (by decide)
  obtain ⟨y3, hy3⟩ := hx 3 (by decide)
  have g0 := (hf 0 _ rfl).trans hy0
  have g1 := (hf 1 _ rfl).trans hy1
  have g2 := (hf 2 _ rfl).trans hy2
  have g3 := (hf 3 _ rfl).trans hy3
  obtain ⟨n0, e0, _⟩ := trod_int_inv Try.underlying31 g0
  obtain ⟨n1, e1, _⟩ := trod_int_inv Try.underlying3 g1
  obtain ⟨n2, e2, _⟩ := trod_int_inv Try.underlying3 g2
  obtain ⟨l, v, e3, hv⟩ := opens_sl (L := layB) Try.underlying23 (by kernel_rfl) (opens_u8 Try.underlying5) _ _ _ g3
  replace e0 : ([c0, c1, c2, c3].drop 0).take (Try.prog.cellsOf 31) = _ := e0
  replace e1 : ([c0, c1, c2, c3].drop 1).take (Try.prog.cellsOf 3) = _ := e1
  replace e2 : ([c0, c1, c2, c3].drop 2).take (Try.prog.cellsOf 3) = _ := e2
  replace e3 : ([c0, c1, c2, c3].drop 3).take (Try.prog.cellsOf 23) = _ := e3
  rw [show Try.prog.cellsOf 31 = 1 from by kernel_rfl] at e0
  rw [show Try.prog.cellsOf 3 = 1 from by kernel_rfl] at e1 e2
  rw [show Try.prog.cellsOf 23 = 1 from by kernel_rfl] at e3
  simp at e0 e1 e2 e3
  subst e0 e1 e2 e3
  exact ⟨⟨n0, n1, n2, l⟩, _, rfl, hv⟩
end
set_option maxRecDepth 100000 in
theorem lifted (os : Os) (started : os.Started) (H : Type) (enc : TypeId × Value → H) :
    ReturnsInHanded {} Try.checked os 3 .any (Rows.inspectTellsSpec.pre6 enc Try.prog Try.f3 Rows.inspectTellsRow.domain false) (Rows.inspectTellsSpec.post enc Try.prog Try.f3 false true false false) := by
  refine returnsInHanded_of_change_sized (C := Try.checked) own started (by kernel_rfl) Try.func3
    (ChangeSpec.witness6 (enc := enc) (C := Try.checked) false ⟨#[], #[.slice none 0 0, .slice none 0 0, .slice none 0 0], []⟩ 8 (by kernel_rfl) (by kernel_rfl) (by kernel_rfl) (by kernel_rfl)) ?_
  intro W base args ds gs before hval0 hW hcnd hsz0 _
  have hW' := hW
  obtain ⟨p, q, hA0, hV, rfl, hfz, hnd⟩ := hW
  have hA : DataW.TrodAll enc Try.prog W 0 (fun _ => true) true Try.f3.params.toList args.toList ds p := hA0
  rw [Try.params3] at hA
  obtain ⟨v0, vs0, d0, ds0, p0, q0, hargs, rfl, rfl, h0, r0⟩ := trodAll_cons hA
  obtain ⟨v1, vs1, d1, ds1, p1, q1, rfl, rfl, rfl, h1, r1⟩ := trodAll_cons r0
  obtain ⟨v2, vs2, d2, ds2, p2, q2, rfl, rfl, rfl, h2, r2⟩ := trodAll_cons r1
  obtain ⟨rfl, rfl, rfl⟩ := trodAll_nil r2
  obtain rfl : args = #[v0, v1, v2] := by cases args; simp_all
  obtain ⟨rfl, rfl⟩ := trodVars_none hV
  have hval : ∀ (j : Nat) t v, Try.f3.params[j]? = some t → #[v0, v1, v2][j]? = some v → Value.okWide Try.prog W .any base t v := hval0
  rw [Try.params3] at hval
  obtain ⟨a0, len0, cap0, rfl⟩ := okWide_slice Try.underlying22 (hval 0 22 v0 rfl rfl)
  obtain ⟨a1, len1, cap1, rfl⟩ := okWide_slice Try.underlying23 (hval 1 23 v1 rfl rfl)
  obtain ⟨a2, len2, cap2, rfl⟩ := okWide_slice Try.underlying23 (hval 2 23 v2 rfl rfl)
  have lt0 : ∀ x ∈ p0, x.block < W.heap.size := by obtain ⟨m, hm⟩ := h0; exact DataW.trod_lt m _ _ _ hm
  have lt1 : ∀ x ∈ p1, x.block < W.heap.size := by obtain ⟨m, hm⟩ := h1; exact DataW.trod_lt m _ _ _ hm
  have lt2 : ∀ x ∈ p2, x.block < W.heap.size := by obtain ⟨m, hm⟩ := h2; exact DataW.trod_lt m _ _ _ hm
  obtain ⟨l, hl⟩ : ∃ l, Ls layRpy (fun _ _ => True) W (.slice a0 len0 cap0) l := by
    obtain ⟨m, hm⟩ := h0
    obtain ⟨l, v, e, hv⟩ := opens_sl (L := layRpy) Try.underlying22 (by kernel_rfl) opens_rpy _ _ _ hm
    simp [Value.cells] at e
    subst e
    exact ⟨l, hv⟩
  obtain ⟨a, ha⟩ : ∃ l, Ls layB (fun _ _ => True) W (.slice a1 len1 cap1) l := by
    obtain ⟨m, hm⟩ := h1
    obtain ⟨l, v, e, hv⟩ := opens_bytes _ _ _ hm
    simp [Value.cells] at e
    subst e
    exact ⟨l, hv⟩
  obtain ⟨b, hb⟩ : ∃ l, Ls layB (fun _ _ => True) W (.slice a2 len2 cap2) l := by
    obtain ⟨m, hm⟩ := h2
    obtain ⟨l, v, e, hv⟩ := opens_bytes _ _ _ hm
    simp [Value.cells] at e
    subst e
    exact ⟨l, hv⟩
  clear hA0 hval0 hsz0 hval hcnd
  refine (law46 l a b _ _ _ W _ hl ha.isB hb.isB).mono fun e W' ⟨x, he, hx, bel⟩ => ?_
  subst he hx
  exact ⟨_, rfl, _, _, _, [], _, [], hW', trodAll_mk1 (shut_bool _), (trodAll_cons_mk (Below.trod laidOut (by kernel_rfl) (of_decide_eq_true (by kernel_rfl)) h0 bel lt0) (trodAll_cons_mk (Below.trod laidOut (by kernel_rfl) (of_decide_eq_true (by kernel_rfl)) h1 bel lt1) (trodAll_cons_mk (Below.trod laidOut (by kernel_rfl) (of_decide_eq_true (by kernel_rfl)) h2 bel lt2) trodAll_mk0))), rfl, bel.frame _, fun h => by cases h⟩
theorem over : Rows.inspectTellsRow.holds Try.pinned (OpenSpec.ofChange Rows.inspectTellsSpec) :=
  OpenClaim.holds_of_wide 3 Try.f3 rfl rfl rfl rfl rfl rfl rfl ⟨rfl, rfl, rfl, rfl, rfl⟩ rfl rfl rfl rfl rfl (by kernel_rfl) Try.func3 (by kernel_rfl)
    (of_decide_eq_true (by kernel_rfl)) (by unfold Func.isWrapper; first | (rw [if_pos (by decide +kernel)]; kernel_rfl) | (rw [if_neg (by decide +kernel)]; exact ⟨rfl, rfl⟩))
    (fun os started H enc _ => lifted os started H enc)
end Go.Proofs.Ytcceeigkgklkoaa.inspectTells
namespace Go.Proofs.Ytcceeigkgklkoaa
/-- The row, under a short name, for the claim. -/
theorem InspectTells_holds : Rows.InspectTellsSaid := inspectTells.over
#print axioms InspectTells_holds
end Go.Proofs.Ytcceeigkgklkoaa
