/- What comes in, as lists and records: from how Go's data read to our words. -/
import Derived.Test.YtcceeigkgklkoaaList
import Derived.WalkKit
import Derived.ProofKit
import Derived.OpenShut
import Derived.ChangeOld
import Derived.Below
import Derived.SizedLaws
import Derived.Carry
import Derived.Deep.Slices
import Derived.DataReads
set_option linter.unusedSimpArgs false
set_option linter.unusedVariables false
namespace Go.Proofs.Ytcceeigkgklkoaa
open Go.RowKit Go.ChangeShapes Go.WideShapes Go.ChangeAt

section
variable {H : Type} {enc : TypeId × Value → H} {P : Program} {W : World}
/-- What reads as data of type t, reads in our words. -/
def Opens {α : Type} (enc : TypeId × Value → H) (P : Program) (W : World) (L : Lay α) (t : TypeId) : Prop :=
  ∀ fuel cs x, DataW.trod enc P W 0 (fun _ => true) true fuel t cs = some x → ∃ a : α, L.is (fun _ _ => True) W cs a
theorem trod_int_inv {t : TypeId} {k : IntKind} {fuel : Nat} {cs : List Value} {x : DataW H × List MemPlace} (ht : P.underlying t = some (.int k)) (h : DataW.trod enc P W 0 (fun _ => true) true fuel t cs = some x) : ∃ n, cs = [.int k n] ∧ (Lit.int k n).wf = true := by
  cases fuel with
  | zero => simp [DataW.trod] at h
  | succ fuel =>
    match cs with
    | [.int k' n] =>
      simp only [DataW.trod, ht] at h
      split at h
      · rename_i hc; obtain ⟨rfl, hw⟩ := hc; exact ⟨n, rfl, hw⟩
      · cases h
    | [] => simp [DataW.trod, ht] at h
    | _ :: _ :: _ => simp [DataW.trod, ht] at h
    | [.bool _] => simp [DataW.trod, ht] at h
    | [.string _] => simp [DataW.trod, ht] at h
    | [.float _ _] => simp [DataW.trod, ht] at h
    | [.complex _ _ _] => simp [DataW.trod, ht] at h
    | [.pointer _] => simp [DataW.trod, ht] at h
    | [.slice _ _ _] => simp [DataW.trod, ht] at h
    | [.map _] => simp [DataW.trod, ht] at h
    | [.chan _] => simp [DataW.trod, ht] at h
    | [.agg _] => simp [DataW.trod, ht] at h
    | [.tuple _] => simp [DataW.trod, ht] at h
    | [.func _ _ _] => simp [DataW.trod, ht] at h
    | [.nilFunc] => simp [DataW.trod, ht] at h
    | [.iface _ _] => simp [DataW.trod, ht] at h
    | [.nilIface] => simp [DataW.trod, ht] at h
theorem opens_u8 {t : TypeId} (ht : P.underlying t = some (.int .u8)) : Opens enc P W layB t := by
  intro fuel cs x h
  obtain ⟨n, rfl, hw⟩ := trod_int_inv ht h
  have hr : 0 ≤ n ∧ n ≤ 255 := by simpa [Lit.wf, IntKind.min, IntKind.max, IntKind.signed, IntKind.bits] using hw
  refine ⟨UInt8.ofNat n.toNat, ?_⟩
  show [Value.int .u8 n] = [bv (UInt8.ofNat n.toNat)]
  unfold bv
  rw [ofNat_toNat (by omega), Int.toNat_of_nonneg hr.1]
theorem els_choose {α : Type} {L : Lay α} {a : Addr} : ∀ (len : Nat), (∀ i, i < len → ∃ cs, W.cells? 0 (a.add (i * L.n)) L.n = some cs ∧ ∃ x, L.is (fun _ _ => True) W cs x) →
    ∃ (css : List (List Value)) (l : List α), l.length = len ∧ Els L (fun _ _ => True) W css l ∧ ∀ j u, css.flatten[j]? = some u → W.cell? (a.add j) = some u
  | 0, _ => ⟨[], [], rfl, trivial, fun j u h => by simp at h⟩
  | len + 1, h => by
    obtain ⟨css, l, h1, h2, h3⟩ := els_choose len fun i hi => h i (by omega)
    obtain ⟨cs, hc, x, hx⟩ := h len (by omega)
    obtain ⟨_, hl, hcell⟩ := World.cells?_some hc
    refine ⟨css ++ [cs], l ++ [x], by simp [h1], Els.app h2 (Els.one1 hx), fun j u hu => ?_⟩
    have hfl := Els.flen h2
    rw [List.flatten_append] at hu
    by_cases hj : j < css.flatten.length
    · rw [List.getElem?_append_left hj] at hu
      exact h3 j u hu
    · rw [List.getElem?_append_right (by omega)] at hu
      simp only [List.flatten_cons, List.flatten_nil, List.append_nil] at hu
      have hlt := (List.getElem?_eq_some_iff.1 hu).1
      have := hcell (j - css.flatten.length) (by omega)
      rw [add_of_add, hfl, h1, show len * L.n + (j - len * L.n) = j from by rw [hfl, h1] at hj; omega] at this
      rw [hfl, h1] at hu
      rw [this]; exact hu
theorem opens_sl {α : Type} {L : Lay α} {t e : TypeId} (ht : P.underlying t = some (.slice e)) (hn : P.cellsOf e = L.n) (he : Opens enc P W L e) : Opens enc P W (laySl L) t := by
  intro fuel cs x h
  rcases Go.Deep.open_slice ht h with ⟨rfl, _⟩ | ⟨a, len, cap, m, n, D, Pl, rfl, hb, hl, hm, hmm, rfl, hx⟩
  · exact ⟨[], _, rfl, Ls.nil _ _ _⟩
  · simp only [if_true] at hmm
    obtain rfl : m = cap := hmm
    obtain ⟨css, l, h1, h2, h3⟩ := els_choose (L := L) (a := a) (W := W) len fun i hi => by
      obtain ⟨cs', hc, htr⟩ := hx i (by omega)
      rw [hn] at hc
      exact ⟨cs', hc, he _ _ _ htr⟩
    subst h1
    refine ⟨l, _, rfl, some a, _, css, rfl, hl, by simp only [maxLen] at hm; omega, ?_, h2⟩
    exact (RdK.of_rds (show Rds W (some a) css.flatten from fun _ => ⟨a, rfl, h3⟩)).mono fun _ _ _ => trivial
end
end Go.Proofs.Ytcceeigkgklkoaa
