/- The engine's laws for bytes, at this translation's numbers. -/
import Derived.Test.YtcceeigkgklkoaaTypes
set_option linter.unusedSimpArgs false
set_option linter.unusedVariables false
namespace Go.Proofs.Ytcceeigkgklkoaa
open Go.RowKit
section
variable {n : Nat} {f : Nat → Value} {w : World} {d : Option Nat} {ty : TypeId} {pos : String} {aft : Array Edge} {g : Option (Nat × Bool)} {r : Option Nat} {ops : Array Oper} {rest : List Oper} {Q : Post} {ds : List Deferred}
/-- append(x, y...) of bytes. -/
theorem wl_appB {base : Nat} {x y : Operand} {v : Value} {l : List UInt8} (hx : evo n f x = v) (hown : OwnB base w v l) {A : Option Addr} {c : Nat} {k : List UInt8} (hy : evo n f y = .slice A k.length c) (hr : Rds w A (bvs k))
    (hlen : l.length + k.length ≤ 140737488355328) (hbase : base ≤ w.heap.size)
    (h : ∀ v' w', OwnB base w' v' (l ++ k) → w.grownBy w' v.ownBlock → (v'.ownBlock = v.ownBlock ∨ v'.ownBlock = some w.heap.size) → WL r Try.prog ops Q rest (mk n (updo f d v') ds) w') :
    WL r Try.prog ops Q (⟨d, .call { callee := .builtin .append, args := #[x, y], argTypes := #[23, 23] }, ty, pos, aft, none⟩ :: rest) (mk n f ds) w :=
  wl_app Try.underlying23 inf5 rfl (by omega) hx hown hy (by rw [bvs_length, Nat.mul_one]) hr (bvs_one k) (by omega) hbase
    fun v' w' h1 h2 h3 => h v' w' (by unfold OwnB; rw [bvs_append, List.length_append]; exact h1) h2 h3
/-- append(x, b): the byte lies in the variadic's box. -/
theorem wl_app1 {base : Nat} {x y : Operand} {v : Value} {l : List UInt8} {a : Int} (b : UInt8) (hb : a = (b.toNat : Int)) (hx : evo n f x = v) (hown : OwnB base w v l) (hy : evo n f y = .slice (some ⟨w.heap.size, 0, none⟩) 1 1)
    (hlen : l.length + 1 ≤ 140737488355328) (hbase : base ≤ w.heap.size)
    (h : ∀ v' w', OwnB base w' v' (l ++ [b]) → w.grownBy w' v.ownBlock → (v'.ownBlock = v.ownBlock ∨ ∃ k, v'.ownBlock = some k ∧ w.heap.size ≤ k) → WL r Try.prog ops Q rest (mk n (updo f d v') ds) w') :
    WL r Try.prog ops Q (⟨d, .call { callee := .builtin .append, args := #[x, y], argTypes := #[23, 23] }, ty, pos, aft, none⟩ :: rest) (mk n f ds) (w.alloc (.cells #[.int .u8 a] 5)) := by
  subst hb
  refine wl_appB (k := [b]) hx (hown.old ((Old.refl w).alloc _)) hy (Rds.new1 w (bv b) _) hlen (by simp; omega) fun v' w' h1 h2 h3 => h v' w' h1 (World.grownBy.trans (World.grownBy_alloc w _ _) h2) ?_
  rcases h3 with h3 | h3
  · exact .inl h3
  · exact .inr ⟨_, h3, by simp⟩
/-- A slice of bytes indexed, and the byte loaded. -/
theorem rdB {A : Option Addr} {l : List UInt8} (h : Rds w A (bvs l)) {i : Nat} (hi : i < l.length) : ∃ ad, A = some ad ∧ w.cell? (ad.add i) = some (.int .u8 (l[i].toNat : Int)) :=
  h.at_ (by rw [bvs_at]; simp [hi, bv])
end
end Go.Proofs.Ytcceeigkgklkoaa
