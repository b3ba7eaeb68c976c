/- []byte of a string, and append onto it. -/
import Derived.Test.YtcceeigkgklkoaaList
import Derived.ArgAppend
import Derived.Lib.ConvBytes
import Derived.Laws.OwnMore
set_option linter.unusedSimpArgs false
set_option linter.unusedVariables false
namespace Go.Proofs.Ytcceeigkgklkoaa
open Go.RowKit

theorem setCells_upd (g : Nat) : ∀ (vs : List Value) (o : Nat) (w : World), Upd1 g w (w.setCells g o vs)
  | [], o, w => Upd1.refl g w
  | v :: vs, o, w => (Upd1.setCell w g o v).trans (setCells_upd g vs (o + 1) _)
/-- A row of bytes of one's own, of which nothing is known but its cells. -/
def OwnM (base : Nat) (w : World) (v : Value) (l : List UInt8) : Prop :=
  ∃ g c, v = .slice (some ⟨g, 0, none⟩) l.length c ∧ base ≤ g ∧ g < w.heap.size ∧ l.length ≤ c ∧ c ≤ 9223372036854775807 ∧ (∀ j, j < c → (w.cell? ⟨g, j, none⟩).isSome = true ∧ w.frozen? ⟨g, j, none⟩ = false) ∧ (∀ j u, (bvs l)[j]? = some u → w.cell? ⟨g, j, none⟩ = some u)
def OwnA (base : Nat) (w : World) (v : Value) (l : List UInt8) : Prop := OwnB base w v l ∨ OwnM base w v l
section
variable {base : Nat} {w w' : World} {v : Value} {l : List UInt8}
theorem frozen_old (h : Old w w') {a : Addr} (ha : a.block < w.heap.size) : w'.frozen? a = w.frozen? a := by
  unfold World.frozen?
  rw [h.block _ ha]
theorem OwnM.old (h : OwnM base w v l) (hb : Old w w') : OwnM base w' v l := by
  obtain ⟨g, c, e, h1, h2, h3, h4, h5, h6⟩ := h
  refine ⟨g, c, e, h1, Nat.lt_of_lt_of_le h2 hb.size, h3, h4, fun j hj => ?_, fun j u hu => hb.cell (h6 j u hu)⟩
  obtain ⟨ha, hf⟩ := h5 j hj
  obtain ⟨x, hx⟩ := Option.isSome_iff_exists.1 ha
  exact ⟨by rw [hb.cell hx]; rfl, by rw [frozen_old hb h2]; exact hf⟩
theorem OwnM.isB (h : OwnM base w v l) : IsB w v l := by
  obtain ⟨g, c, rfl, h1, h2, h3, h4, h5, h6⟩ := h
  exact ⟨_, _, rfl, h3, h4, fun _ => ⟨_, rfl, fun j u hu => by rw [add_plain]; exact h6 j u hu⟩⟩
theorem OwnA.old (h : OwnA base w v l) (hb : Old w w') : OwnA base w' v l := h.elim (fun h => .inl (OwnB.old h hb)) fun h => .inr (h.old hb)
theorem OwnA.isB (h : OwnA base w v l) : IsB w v l := h.elim OwnB.isB OwnM.isB
theorem OwnA.ge (h : OwnA base w v l) : ∀ k, v.ownBlock = some k → base ≤ k := by
  rcases h with h | ⟨g, c, rfl, h1, _⟩
  · exact h.ge
  · intro k hk; injection hk with hk; subst hk; exact h1
end
section
variable {P : Program} {n : Nat} {f : Nat → Value} {w : World} {d : Option Nat} {ty : TypeId} {pos : String} {aft : Array Edge} {r : Option Nat} {ops : Array Oper} {rest : List Oper} {Q : Post} {ds : List Deferred}
theorem wl_bytesOf {src : TypeId} {x : Operand} {s : ByteArray} {u : TypeDesc} (hs : P.underlying src = some u) (hd : P.underlying 23 = some (.slice 5)) (he : P.underlying 5 = some (.int .u8)) (hx : evo n f x = .string s)
    (hsz : s.size ≤ 140737488355328)
    (h : ∀ v w', OwnM w.heap.size w' v s.data.toList → Old w w' → WL r P ops Q rest (mk n (updo f d v) ds) w') :
    WL r P ops Q (⟨d, .convert src 23 x, ty, pos, aft, none⟩ :: rest) (mk n f ds) w := by
  have hrun := Lib.run_convert_string_bytes (P := P) w src 23 5 s hs hd he
  refine wl_v (v := .slice (some ⟨w.heap.size, 0, none⟩) s.size (grownCap w s.size 0 5)) (w' := Lib.bytesWorld w 5 s) (by simp [EX, execOp, hx, hrun, Result.andThen]) (h _ _ ?_ ?_)
  · have hge := grownCap_ge w s.size 0 5
    have hcap : grownCap w s.size 0 5 ≤ 9223372036854775807 := by
      have := grownCap_le_maxLen w s.size 0 5 (by simp only [maxLen]; omega)
      simp only [maxLen] at this; omega
    have hl : s.data.toList.length = s.size := by simp
    have hsc : (Lib.bytesCells w 5 s).size = grownCap w s.size 0 5 := by
      simp [Lib.bytesCells]; omega
    refine ⟨w.heap.size, grownCap w s.size 0 5, by rw [hl], Nat.le_refl _, by rw [Lib.bytesWorld_size]; omega, by omega, hcap, fun j hj => ?_, fun j u hu => ?_⟩
    · constructor
      · simp only [World.cell?, Lib.bytesWorld_at_new]
        simp [hsc, hj]
      · simp only [World.frozen?, Lib.bytesWorld_at_new, hsc]
        simp; omega
    · have hj : j < s.size := by
        have := (List.getElem?_eq_some_iff.1 hu).1
        rw [bvs_length] at this; omega
      rw [Lib.bytesWorld_cell w _ s j hj]
      rw [bvs_at] at hu
      have hj' : j < s.data.toList.length := by omega
      rw [List.getElem?_eq_getElem hj'] at hu
      rw [List.getD_eq_getElem?_getD, List.getElem?_eq_getElem hj']
      exact hu
  · exact ⟨rfl, rfl, rfl, by rw [Lib.bytesWorld_size]; omega, fun k hk => Lib.bytesWorld_at_old w _ s k hk⟩
end
section
variable {n : Nat} {f : Nat → Value} {w : World} {d : Option Nat} {ty : TypeId} {pos : String} {aft : Array Edge} {r : Option Nat} {ops : Array Oper} {rest : List Oper} {Q : Post} {ds : List Deferred}
theorem wl_appA {base : Nat} {x y : Operand} {v u : Value} {l k : List UInt8} (hx : evo n f x = v) (hown : OwnA base w v l) (hy : evo n f y = u) (hu : IsB w u k)
    (hlen : l.length + k.length ≤ 140737488355328) (hbase : base ≤ w.heap.size)
    (h : ∀ v' w', OwnA base w' v' (l ++ k) → w.grownBy w' v.ownBlock → WL r Try.prog ops Q rest (mk n (updo f d v') ds) w') :
    WL r Try.prog ops Q (⟨d, .call { callee := .builtin .append, args := #[x, y], argTypes := #[23, 23] }, ty, pos, aft, none⟩ :: rest) (mk n f ds) w := by
  rcases hown with hown | hown
  · exact wl_appV hx hown hy hu hlen hbase fun v' w' h1 h2 _ => h v' w' (.inl h1) h2
  obtain ⟨i, hi, hz, hsize, hby⟩ := info_parts inf5
  obtain ⟨g, c, rfl, h1, h2, h3, h4, h5, h6⟩ := hown
  obtain ⟨A, c2, rfl, h7, h8, h9⟩ := hu
  have fin : ∀ v' w', (Builtin.append_ #[23, 23] ty #[.slice (some ⟨g, 0, none⟩) l.length c, .slice A k.length c2]).run Try.prog w = .ok v' w' → OwnA base w' v' (l ++ k) → w.grownBy w' (some g) → WL r Try.prog ops Q (⟨d, .call { callee := .builtin .append, args := #[x, y], argTypes := #[23, 23] }, ty, pos, aft, none⟩ :: rest) (mk n f ds) w := by
    intro v' w' hrun ho hg
    refine wl_v (v := v') (w' := w') ?_ (h v' w' ho hg)
    simp [EX, execOp, resolve, invoke, builtin, hx, hy, hrun, Result.andThen]
  rcases A with _ | ad
  · have hk : k = [] := by
      cases k with
      | nil => rfl
      | cons a k => obtain ⟨ad, e, _⟩ := h9 (by simp [bvs]); cases e
    subst hk
    refine fin (.slice (some ⟨g, 0, none⟩) l.length c) w ?_ (by rw [List.append_nil]; exact .inr ⟨g, c, rfl, h1, h2, h3, h4, h5, h6⟩) ⟨rfl, rfl, rfl, Nat.le_refl _, fun _ _ _ => rfl⟩
    have hu := Try.underlying23
    simp [Builtin.append_, run_underlying hu, sizeOf, typeInfo, hi, Builtin.lenOf, Builtin.firstCells, h3, storeCells]
  have hnews : ∀ j u, (bvs k)[j]? = some u → w.cell? (ad.add j) = some u := fun j u hu => by
    obtain ⟨ad', e, hc⟩ := h9.at_ hu
    obtain rfl := Option.some.inj e; exact hc
  by_cases hroom : l.length + k.length ≤ c
  · have hrun := run_append_room_cells (P := Try.prog) w 23 ty 5 i Try.underlying23 hi g 0 l.length c ad k.length c2 (bvs k) (by rw [bvs_length, hsize, Nat.mul_one]) hnews (bvs_one k) hroom
      (fun j hj => by rw [hsize, Nat.mul_one, Nat.zero_add]; rw [bvs_length] at hj; exact (h5 _ (by omega)).1) (fun j hj => by rw [hsize, Nat.mul_one, Nat.zero_add]; rw [bvs_length] at hj; exact (h5 _ (by omega)).2)
    rw [hsize, Nat.mul_one, Nat.zero_add] at hrun
    have hU := setCells_upd g (bvs k) l.length w
    have hin : ∀ j (hj : j < (bvs k).length), (w.setCells g l.length (bvs k)).cell? ⟨g, l.length + j, none⟩ = some (bvs k)[j] := World.cell?_setCells_in g (bvs k) l.length w (fun j hj => by rw [bvs_length] at hj; exact (h5 _ (by omega)).1)
    have hout : ∀ j, j < l.length ∨ l.length + k.length ≤ j → (w.setCells g l.length (bvs k)).cell? ⟨g, j, none⟩ = w.cell? ⟨g, j, none⟩ := fun j hj => World.cell?_setCells_out g (bvs k) l.length w _ (fun _ _ => by rw [bvs_length]; exact hj)
    refine fin _ _ hrun (.inr ⟨g, c, by rw [List.length_append], h1, Nat.lt_of_lt_of_le h2 hU.size, by rw [List.length_append]; exact hroom, h4, fun j hj => ⟨?_, by rw [World.frozen?_setCells]; exact (h5 j hj).2⟩, fun j u hu => ?_⟩) ⟨hU.os, hU.tape, hU.output, hU.size, fun j hj hne => hU.block j hj (fun e => hne (by rw [e]))⟩
    · by_cases hb : j < l.length ∨ l.length + k.length ≤ j
      · rw [hout j hb]; exact (h5 j hj).1
      · have := hin (j - l.length) (by rw [bvs_length]; omega)
        rw [show l.length + (j - l.length) = j from by omega] at this
        rw [this]; rfl
    · rw [bvs_append] at hu
      by_cases hb : j < l.length
      · rw [List.getElem?_append_left (by rw [bvs_length]; exact hb)] at hu
        rw [hout j (.inl hb)]; exact h6 j u hu
      · rw [List.getElem?_append_right (by rw [bvs_length]; omega), bvs_length] at hu
        have hj := (List.getElem?_eq_some_iff.1 hu).1
        have := hin (j - l.length) hj
        rw [show l.length + (j - l.length) = j from by omega] at this
        rw [this, ← hu, List.getElem?_eq_getElem hj]
  · obtain ⟨v', w', hrun, ho, hg⟩ := run_append_arg_grows (P := Try.prog) w 23 ty 5 i _ 1 1 Try.underlying23 hi hz hsize hby rfl (by omega) ⟨g, 0, none⟩ l.length c (bvs l) (by rw [bvs_length, Nat.mul_one]) (fun j u hu => by rw [add_plain]; exact h6 j u hu) ad k.length c2 (bvs k) (by rw [bvs_length, Nat.mul_one]) hnews (by omega) (by simp only [maxLen]; omega) (by omega)
    refine fin v' w' hrun (.inl (OwnB.base (base := w.heap.size) ?_ hbase)) ⟨hg.os, hg.tape, hg.output, hg.size, fun j hj _ => hg.block j hj (by simp)⟩
    unfold OwnB
    rw [bvs_append, List.length_append]; exact ho
end
/-! ### make -/
section
variable {P : Program} {n : Nat} {f : Nat → Value} {w : World} {d : Option Nat} {ty : TypeId} {pos : String} {aft : Array Edge} {gd : Option (Nat × Bool)}
theorem ex_make {t e : TypeId} {z : Value} {size bytes m : Nat} {x y : Operand} {k1 k2 : IntKind} {a b : Int} (ht : P.underlying t = some (.slice e)) (hi : Inf P e z size bytes) (hx : evo n f x = .int k1 a) (hy : evo n f y = .int k2 b) (ha : a = (m : Int)) (hb : b = (m : Int)) (hbytes : bytes * m ≤ 281474976710656) (h63 : m ≤ 9223372036854775807) :
    ∃ w', EX P ⟨d, .makeSlice t x y, ty, pos, aft, gd⟩ n f w (.slice (some ⟨w.heap.size, 0, none⟩) m m) w' ∧ w'.ownsRow w.heap.size e size (.slice (some ⟨w.heap.size, 0, none⟩) m m) m (madeCells z.cells (m * size)).toList ∧ Old w w' := by
  subst ha; subst hb
  obtain ⟨i, hi, hz, hs, hby⟩ := info_parts hi
  obtain ⟨w', hrun, ho, hg⟩ := run_make_full (P := P) w w.heap.size t e i z size ht hi hz hs k1 k2 m (by rw [hby]; exact hbytes) (by simp only [maxLen]; omega) (Nat.le_refl _)
  exact ⟨w', by simp [EX, execOp, hx, hy, hrun, Result.andThen], ho, ⟨hg.os, hg.tape, hg.output, hg.size, fun k hk => hg.block k hk (by simp)⟩⟩
end
section
variable {n : Nat} {f : Nat → Value} {w : World} {d : Option Nat} {ty : TypeId} {pos : String} {aft : Array Edge} {r : Option Nat} {ops : Array Oper} {rest : List Oper} {Q : Post} {ds : List Deferred}
theorem wl_makeB {m : Nat} {x y : Operand} {k1 k2 : IntKind} {a b : Int} (hx : evo n f x = .int k1 a) (hy : evo n f y = .int k2 b) (ha : a = (m : Int)) (hb : b = (m : Int)) (h63 : m ≤ 140737488355328)
    (h : ∀ v w', OwnB w.heap.size w' v (List.replicate m 0) → Old w w' → WL r Try.prog ops Q rest (mk n (updo f d v) ds) w') :
    WL r Try.prog ops Q (⟨d, .makeSlice 23 x y, ty, pos, aft, none⟩ :: rest) (mk n f ds) w := by
  obtain ⟨w', hex, ho, hO⟩ := ex_make (P := Try.prog) (d := d) (ty := ty) (pos := pos) (aft := aft) (gd := none) (w := w) Try.underlying23 inf5 hx hy ha hb (by omega) (by omega)
  refine wl_v hex (h _ w' ?_ hO)
  have e : (madeCells (Value.int .u8 0).cells (m * 1)).toList = bvs (List.replicate m 0) := by
    rw [Nat.mul_one, show (Value.int .u8 0).cells = #[.int .u8 0] from rfl, toList_madeCells_one]
    simp [bvs, bv]
  rw [e] at ho
  unfold OwnB
  rw [List.length_replicate]
  exact ho
end
end Go.Proofs.Ytcceeigkgklkoaa
