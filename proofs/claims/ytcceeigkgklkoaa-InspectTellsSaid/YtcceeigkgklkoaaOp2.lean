/- The engine's laws, part two: objects in memory, literals, comparisons, texts. -/
import Derived.Test.YtcceeigkgklkoaaMem
import Derived.Deep.MidRow
import Derived.Laws.BytesString
import Derived.Laws.Tables
import Derived.Great.BuildSlice
import Derived.Laws.Strings
set_option linter.unusedSimpArgs false
set_option linter.unusedVariables false
namespace Go.Proofs.Ytcceeigkgklkoaa
open Go.RowKit

/-! ### An object: a block of its own -/
def Box (w : World) (g : Nat) (e : TypeId) (cs : Array Value) : Prop := w.heap[g]? = some (.cells cs e (0, 0))
/-- All blocks but g are as they were. -/
def Upd1 (g : Nat) (w w' : World) : Prop := Upd (· = g) w w'
section
variable {w w' : World} {g : Nat} {e : TypeId} {cs : Array Value}
theorem Box.new (w : World) (e : TypeId) (cs : Array Value) : Box (w.alloc (.cells cs e)) w.heap.size e cs := by
  unfold Box World.alloc
  simp only [Array.getElem?_push_size]
theorem Box.lt (h : Box w g e cs) : g < w.heap.size := by
  unfold Box at h
  rcases Nat.lt_or_ge g w.heap.size with h' | h'
  · exact h'
  · rw [Array.getElem?_eq_none h'] at h; cases h
theorem Box.old (h : Box w g e cs) (hb : Old w w') : Box w' g e cs := by
  have := hb.block g h.lt
  unfold Box at h ⊢
  rw [this]; exact h
theorem Box.cell (h : Box w g e cs) {j : Nat} {v : Value} (hv : cs[j]? = some v) : w.cell? ⟨g, j, none⟩ = some v := by
  unfold Box at h
  simp [World.cell?, h, hv]
theorem Box.frozen (h : Box w g e cs) (j : Nat) : w.frozen? ⟨g, j, none⟩ = false := by
  unfold Box at h
  simp [World.frozen?, h]
theorem Box.set (h : Box w g e cs) (j : Nat) (v : Value) : Box (w.setCell ⟨g, j, none⟩ v) g e (cs.setIfInBounds j v) := by
  unfold Box at h ⊢
  simp only [World.setCell, Array.getElem?_modify, if_true, h, Option.map_some]
  rfl
theorem Upd1.setCell (w : World) (g j : Nat) (v : Value) : Upd1 g w (w.setCell ⟨g, j, none⟩ v) := by
  refine ⟨rfl, rfl, rfl, ?_, ?_⟩
  · simp [World.setCell]
  · intro k hk hg
    simp only [World.setCell, Array.getElem?_modify]
    rw [if_neg (by intro h; exact hg h.symm)]
theorem Upd1.refl (g : Nat) (w : World) : Upd1 g w w := ⟨rfl, rfl, rfl, Nat.le_refl _, fun _ _ _ => rfl⟩
theorem Upd1.trans {a b c : World} (h : Upd1 g a b) (k : Upd1 g b c) : Upd1 g a c :=
  ⟨k.os.trans h.os, k.tape.trans h.tape, k.output.trans h.output, Nat.le_trans h.size k.size, fun i hi hg => (k.block i (Nat.lt_of_lt_of_le hi h.size) hg).trans (h.block i hi hg)⟩
theorem Upd1.of_old (h : Old w w') : Upd1 g w w' := ⟨h.os, h.tape, h.output, h.size, fun k hk _ => h.block k hk⟩
theorem Upd1.old {a : World} (h : Upd1 g w w') (ha : Old a w) (hg : a.heap.size ≤ g) : Old a w' :=
  ⟨h.os.trans ha.os, h.tape.trans ha.tape, h.output.trans ha.output, Nat.le_trans ha.size h.size, fun k hk => (h.block k (Nat.lt_of_lt_of_le hk ha.size) (by omega)).trans (ha.block k hk)⟩
theorem Box.upd {g' : Nat} (h : Box w g e cs) (hu : Upd1 g' w w') (hne : g ≠ g') : Box w' g e cs := by
  have := hu.block g h.lt hne
  unfold Box at h ⊢
  rw [this]; exact h
theorem cell_upd {ad : Addr} {v : Value} (hu : Upd1 g w w') (hc : w.cell? ad = some v) (hne : ad.block ≠ g) : w'.cell? ad = some v := by
  have := hu.block ad.block (World.block_lt_of_cell? w ad hc) hne
  unfold World.cell? at hc ⊢
  rw [this]; exact hc
/-- No cell is a byte. -/
def noU8 (cs : Array Value) : Bool := cs.toList.all fun v => match v with | .int .u8 _ => false | _ => true
theorem Box.not_byte (h : Box w g e cs) (hn : noU8 cs = true) {ad : Addr} {a : Int} (hc : w.cell? ad = some (.int .u8 a)) : ad.block ≠ g := by
  intro he
  unfold Box at h
  unfold World.cell? at hc
  rw [he, h] at hc
  simp only at hc
  split at hc
  · cases hc
  · have := List.all_eq_true.1 hn _ (Array.mem_toList_iff.2 (Array.mem_of_getElem? hc))
    cases this
theorem Rds.upd {A : Option Addr} {l : List UInt8} (h : Rds w A (bvs l)) (hB : Box w g e cs) (hn : noU8 cs = true) (hu : Upd1 g w w') : Rds w' A (bvs l) := by
  intro hne
  obtain ⟨ad, rfl, hc⟩ := h hne
  refine ⟨ad, rfl, fun j u hj => ?_⟩
  have h1 := hc j u hj
  have : ∃ a, u = .int .u8 a := by
    rw [bvs_at] at hj
    cases hl : l[j]? with
    | none => rw [hl] at hj; cases hj
    | some b => rw [hl] at hj; injection hj with hj; exact ⟨_, hj.symm⟩
  obtain ⟨a, rfl⟩ := this
  exact cell_upd hu h1 (hB.not_byte hn h1)
theorem IsB.upd {v : Value} {l : List UInt8} (h : IsB w v l) (hB : Box w g e cs) (hn : noU8 cs = true) (hu : Upd1 g w w') : IsB w' v l := by
  obtain ⟨A, c, e, h1, h2, h3⟩ := h
  exact ⟨A, c, e, h1, h2, h3.upd hB hn hu⟩
theorem OwnB.upd {base : Nat} {v : Value} {l : List UInt8} (h : OwnB base w v l) (hB : Box w g e cs) (he : e ≠ 5) (hu : Upd1 g w w') : OwnB base w' v l := by
  refine ⟨h.1, ?_⟩
  rcases h.2 with h0 | ⟨k, cap, cur, rfl, hb, hk, hrest⟩
  · exact .inl h0
  · refine .inr ⟨k, cap, cur, rfl, hb, ?_, hrest⟩
    have hne : k ≠ g := by
      rintro rfl
      unfold Box at hB
      rw [hB] at hk
      injection hk with hk
      injection hk with _ h2
      exact he h2
    have hl : k < w.heap.size := by
      rcases Nat.lt_or_ge k w.heap.size with h' | h'
      · exact h'
      · rw [Array.getElem?_eq_none h'] at hk; cases hk
    rw [hu.block k hl hne]; exact hk
theorem OwnB.base {base base' : Nat} {v : Value} {l : List UInt8} (h : OwnB base w v l) (hb : base' ≤ base) : OwnB base' w v l := by
  refine ⟨h.1, ?_⟩
  rcases h.2 with h0 | ⟨k, cap, cur, rfl, hb', hrest⟩
  · exact .inl h0
  · exact .inr ⟨k, cap, cur, rfl, Nat.le_trans hb hb', hrest⟩
/-- A row of one's own, written to: the others stand. -/
theorem Box.grown {row : Option Nat} (h : Box w g e cs) (hg : w.grownBy w' row) (hne : row ≠ some g) : Box w' g e cs := by
  have := hg.block g h.lt (Ne.symm hne)
  unfold Box at h ⊢
  rw [this]; exact h
end

section
variable {P : Program} {n : Nat} {f : Nat → Value} {w : World} {d : Option Nat} {ty : TypeId} {pos : String} {aft : Array Edge} {gd : Option (Nat × Bool)} {r : Option Nat} {ops : Array Oper} {rest : List Oper} {Q : Post} {ds : List Deferred}
theorem ex_fld {s : TypeId} {x : Operand} {j off g o : Nat} (hF : Fld P s j off) (hx : evo n f x = .pointer (some ⟨g, o, none⟩)) :
    EX P ⟨d, .fieldAddr s x j, ty, pos, aft, gd⟩ n f w (.pointer (some ⟨g, o + off, none⟩)) w := by
  have h := ex_fieldAddr (w := w) (d := d) (ty := ty) (pos := pos) (aft := aft) (g := gd) hF hx
  rwa [add_plain'] at h
/-- One cell of an object is stored to. -/
theorem wl_st {t e : TypeId} {z : Value} {bytes g j : Nat} {x y : Operand} {v : Value} {cs : Array Value} (hi : Inf P t z 1 bytes) (hx : evo n f x = .pointer (some ⟨g, j, none⟩)) (hy : evo n f y = v) (hv : v.oneCell' = true) (hB : Box w g e cs) (hj : j < cs.size)
    (h : ∀ w', Box w' g e (cs.setIfInBounds j v) → Upd1 g w w' → WL r P ops Q rest (mk n (updo f d undef) ds) w') : WL r P ops Q (⟨d, .store t x y, ty, pos, aft, none⟩ :: rest) (mk n f ds) w :=
  wl_s (es_store1 hi hx hy hv (hB.cell (Array.getElem?_eq_getElem hj)) (hB.frozen j)) (h _ (hB.set j v) (Upd1.setCell w g j v))
theorem setCells_box : ∀ (vs : List Value) (o : Nat) (w : World) (g : Nat) (e : TypeId) (cs : Array Value), Box w g e cs → ∃ cs', Box (w.setCells g o vs) g e cs' ∧ cs'.size = cs.size ∧ Upd1 g w (w.setCells g o vs)
  | [], o, w, g, e, cs, h => ⟨cs, h, rfl, Upd1.refl g w⟩
  | v :: vs, o, w, g, e, cs, h => by
    obtain ⟨cs', h1, h2, h3⟩ := setCells_box vs (o + 1) _ g e _ (h.set o v)
    exact ⟨cs', h1, by simpa using h2, (Upd1.setCell w g o v).trans h3⟩
/-- All cells of an object are stored to. -/
theorem wl_stA {t e : TypeId} {z : Value} {size bytes g : Nat} {x y : Operand} {cs cs' : Array Value} (hi : Inf P t z size bytes) (hx : evo n f x = .pointer (some ⟨g, 0, none⟩)) (hy : evo n f y = .agg cs') (h1 : cs'.all (·.oneCell') = true) (hs' : cs'.size = size) (hB : Box w g e cs) (hs : cs.size = size)
    (h : ∀ w', Box w' g e cs' → Upd1 g w w' → WL r P ops Q rest (mk n (updo f d undef) ds) w') : WL r P ops Q (⟨d, .store t x y, ty, pos, aft, none⟩ :: rest) (mk n f ds) w := by
  have hth : w.there g 0 cs'.size := fun j hj => by
    rw [Nat.zero_add]
    exact ⟨by rw [hB.cell (Array.getElem?_eq_getElem (by omega : j < cs.size))]; rfl, hB.frozen j⟩
  obtain ⟨i, hi', _, hsz, _⟩ := info_parts hi
  have hrun := run_storeAt_mid (P := P) w g 0 t cs' hth (by rw [hi']; simp [hsz, hs']) h1
  obtain ⟨c2, hB2, hs2, hU⟩ := setCells_box cs'.toList 0 w g e cs hB
  have hc2 : c2 = cs' := by
    apply Array.ext_getElem?
    intro j
    rcases Nat.lt_or_ge j cs'.size with hj | hj
    · have := World.cell?_setCells_in g cs'.toList 0 w (fun i hi => (hth i (by simpa using hi)).1) j (by simpa using hj)
      rw [Nat.zero_add] at this
      have h2 := hB2.cell (Array.getElem?_eq_getElem (show j < c2.size by omega))
      rw [h2] at this
      injection this with this
      rw [Array.getElem?_eq_getElem (show j < c2.size by omega), this]
      simp [hj]
    · rw [Array.getElem?_eq_none hj, Array.getElem?_eq_none (by omega)]
  subst hc2
  exact wl_s (w' := w.setCells g 0 c2.toList) (by simp [ES, execOp, hx, hy, hrun, Result.andThen]) (h _ hB2 hU)
theorem ex_ldA {t e : TypeId} {s : TypeDesc} {z : Value} {size bytes g : Nat} {x : Operand} {cs : Array Value} (hs : P.underlying t = some s) (hr : s.isRow = true) (hi : Inf P t z size bytes) (hx : evo n f x = .pointer (some ⟨g, 0, none⟩)) (hB : Box w g e cs) (hsz : cs.size = size) :
    EX P ⟨d, .load t x, ty, pos, aft, gd⟩ n f w (.agg cs) w := by
  obtain ⟨i, hi', _, h1, _⟩ := info_parts hi
  have := run_loadAt_mid (P := P) w g 0 t cs.toList s (fun j v hv => by rw [Nat.zero_add]; exact hB.cell (by simpa using hv)) hs hr (by rw [hi']; simp [h1, hsz])
  simp [EX, execOp, hx, this, Result.andThen]
theorem ex_build {t : TypeId} {ps : Array (Nat × Operand)} (cs : Array Value) (hb : P.built t (ps.toList.map fun p => (p.1, evo n f p.2)) = some cs) : EX P ⟨d, .build t ps, ty, pos, aft, gd⟩ n f w (.agg cs) w := by
  have hb : P.built t (ps.map fun (i, x) => (i, evo n f x)).toList = some cs := by rw [Array.toList_map]; exact hb
  simp [EX, execOp, run_build w t _ cs hb, Result.andThen]
/-- The place of an array's element. -/
theorem ex_idxA {t e : TypeId} {x y : Operand} {len size g o : Nat} {k : IntKind} {a : Int} {z0 : Value} {bytes : Nat} (ht : P.underlying t = some (.array len e)) (hi : Inf P e z0 size bytes) (hx : evo n f x = .pointer (some ⟨g, o, none⟩)) (hy : evo n f y = .int k a) (h0 : 0 ≤ a) (h1 : a < len) :
    EX P ⟨d, .indexAddr t x y, ty, pos, aft, gd⟩ n f w (.pointer (some ⟨g, o + a.toNat * size, none⟩)) w := by
  obtain ⟨i, hi, _, hsz, _⟩ := info_parts hi
  simp [EX, execOp, Instr.indexAt, hx, hy, asIntOf, run_underlying ht, Instr.sureAddr, h0, h1, sizeOf, typeInfo, hi, hsz, Result.andThen, add_plain']
theorem run_part1 {t : TypeId} {s : TypeDesc} {cs : Array Value} {o : Nat} {v : Value} (hs : P.underlying t = some s) (hb : flatB s = true) (hv : cs[o]? = some v) : (part t cs o).run P w = .ok v w := by
  simp [part, run_isAgg_flat hs hb, hv, Result.andThen]
theorem ex_index1 {t e : TypeId} {s : TypeDesc} {x y : Operand} {len : Nat} {k : IntKind} {a : Int} {z0 : Value} {bytes : Nat} {cs : Array Value} {v : Value} (ht : P.underlying t = some (.array len e)) (he : P.underlying e = some s) (hi : Inf P e z0 1 bytes) (hx : evo n f x = .agg cs) (hy : evo n f y = .int k a) (h0 : 0 ≤ a) (h1 : a < len) (hv : cs[a.toNat]? = some v) (hb : flatB s = true := by rfl) :
    EX P ⟨d, .index t x y, ty, pos, aft, gd⟩ n f w v w := by
  obtain ⟨i, hi, _, hsz, _⟩ := info_parts hi
  simp [EX, execOp, Instr.index, hx, hy, asIntOf, run_underlying ht, h0, h1, sizeOf, typeInfo, hi, hsz, run_part1 he hb hv, Result.andThen]
theorem ex_field1 {s t : TypeId} {sd : TypeDesc} {x : Operand} {j o : Nat} {fs : Array Field} {fl : Field} {cs : Array Value} {v : Value} (hs : P.underlying s = some (.struct fs)) (hj : fs[j]? = some fl) (ht : P.underlying fl.type = some sd) (hx : evo n f x = .agg cs) (hv : cs[fl.offset]? = some v) (hb : flatB sd = true := by rfl) :
    EX P ⟨d, .field s x j, ty, pos, aft, gd⟩ n f w v w := by
  simp [EX, execOp, Instr.field, run_underlying hs, hj, hx, asAgg, run_part1 ht hb hv, Result.andThen]

/-! ### Comparisons -/
theorem run_eq_pnil {t e : TypeId} {p : Option Addr} (ht : P.underlying t = some (.pointer e)) : (Op.equal t (.pointer p) (.pointer none)).run P w = .ok p.isNone w := by
  show (Op.equalIn (9999 + 1) t (.pointer p) (.pointer none)).run P w = _
  unfold Op.equalIn
  simp only [Sem.run_bind, run_underlying ht, Result.andThen_ok]
  cases p <;> rfl
theorem run_eq_snil {t e : TypeId} {A : Option Addr} {l c : Nat} (ht : P.underlying t = some (.slice e)) : (Op.equal t (.slice A l c) (.slice none 0 0)).run P w = .ok A.isNone w := by
  show (Op.equalIn (9999 + 1) t (.slice A l c) (.slice none 0 0)).run P w = _
  unfold Op.equalIn
  simp only [Sem.run_bind, run_underlying ht, Result.andThen_ok]
  cases A <;> rfl
theorem run_eq_bool {t : TypeId} {a b : Bool} (ht : P.underlying t = some .bool) : (Op.equal t (.bool a) (.bool b)).run P w = .ok (a == b) w := by
  show (Op.equalIn (9999 + 1) t (.bool a) (.bool b)).run P w = _
  unfold Op.equalIn
  simp only [Sem.run_bind, run_underlying ht, Result.andThen_ok]
  rfl
section
variable {t t2 : TypeId} {x y : Operand}
theorem ex_pnil_neq {e : TypeId} {p : Option Addr} (ht : P.underlying t = some (.pointer e)) (hx : evo n f x = .pointer p) : EX P ⟨d, .binOp .neq t x (.const (.pointer none)) t2, ty, pos, aft, gd⟩ n f w (.bool p.isSome) w := by
  simp only [EX, execOp, hx, evo_const, eqGuard, binOp, Sem.run_bind, run_eq_pnil ht]
  cases p <;> rfl
theorem ex_pnil_eql {e : TypeId} {p : Option Addr} (ht : P.underlying t = some (.pointer e)) (hx : evo n f x = .pointer p) : EX P ⟨d, .binOp .eql t x (.const (.pointer none)) t2, ty, pos, aft, gd⟩ n f w (.bool p.isNone) w := by
  simp only [EX, execOp, hx, evo_const, eqGuard, binOp, Sem.run_bind, run_eq_pnil ht]
  cases p <;> rfl
theorem ex_snil_eql {e : TypeId} {A : Option Addr} {l c : Nat} (ht : P.underlying t = some (.slice e)) (hx : evo n f x = .slice A l c) : EX P ⟨d, .binOp .eql t x (.const (.slice none 0 0)) t2, ty, pos, aft, gd⟩ n f w (.bool A.isNone) w := by
  simp only [EX, execOp, hx, evo_const, eqGuard, binOp, Sem.run_bind, run_eq_snil ht]
  cases A <;> rfl
theorem ex_snil_neq {e : TypeId} {A : Option Addr} {l c : Nat} (ht : P.underlying t = some (.slice e)) (hx : evo n f x = .slice A l c) : EX P ⟨d, .binOp .neq t x (.const (.slice none 0 0)) t2, ty, pos, aft, gd⟩ n f w (.bool A.isSome) w := by
  simp only [EX, execOp, hx, evo_const, eqGuard, binOp, Sem.run_bind, run_eq_snil ht]
  cases A <;> rfl
theorem ex_eql_str {a b : ByteArray} (hx : evo n f x = .string a) (hy : evo n f y = .string b) : EX P ⟨d, .binOp .eql t x y t2, ty, pos, aft, gd⟩ n f w (.bool (a.toList == b.toList)) w := by
  simp [EX, execOp, hx, hy, eqGuard, binOp, Op.stringOp, Result.andThen]
theorem ex_neq_str {a b : ByteArray} (hx : evo n f x = .string a) (hy : evo n f y = .string b) : EX P ⟨d, .binOp .neq t x y t2, ty, pos, aft, gd⟩ n f w (.bool (!(a.toList == b.toList))) w := by
  simp [EX, execOp, hx, hy, eqGuard, binOp, Op.stringOp, Result.andThen]
theorem ex_eql_bool {a b : Bool} (ht : P.underlying t = some .bool) (hx : evo n f x = .bool a) (hy : evo n f y = .bool b) : EX P ⟨d, .binOp .eql t x y t2, ty, pos, aft, gd⟩ n f w (.bool (a == b)) w := by
  simp only [EX, execOp, hx, hy, eqGuard, binOp, Sem.run_bind, run_eq_bool ht]
  rfl
theorem ex_neq_bool {a b : Bool} (ht : P.underlying t = some .bool) (hx : evo n f x = .bool a) (hy : evo n f y = .bool b) : EX P ⟨d, .binOp .neq t x y t2, ty, pos, aft, gd⟩ n f w (.bool (!(a == b))) w := by
  simp only [EX, execOp, hx, hy, eqGuard, binOp, Sem.run_bind, run_eq_bool ht]
  rfl
end
theorem ex_compl {t : TypeId} {x : Operand} {k : IntKind} {a : Int} (hx : evo n f x = .int k a) : EX P ⟨d, .unOp .xor t x, ty, pos, aft, gd⟩ n f w (.int k (bits .xor k (if k.signed then -1 else k.max) a)) w := by
  simp [EX, execOp, hx, Op.unary, Op.intBits, bits, Result.andThen]

/-! ### Natural numbers -/
section nats
variable {t t2 : TypeId} {x y : Operand} {k : IntKind} {a b c : Int}
theorem ex_addW (hx : evo n f x = .int k a) (hy : evo n f y = .int k b) (hw : k.wrap (a + b) = c) : EX P ⟨d, .binOp .add t x y t2, ty, pos, aft, gd⟩ n f w (.int k c) w := hw ▸ ex_add hx hy
theorem ex_subW (hx : evo n f x = .int k a) (hy : evo n f y = .int k b) (hw : k.wrap (a - b) = c) : EX P ⟨d, .binOp .sub t x y t2, ty, pos, aft, gd⟩ n f w (.int k c) w := hw ▸ ex_sub hx hy
theorem ex_mulW (hx : evo n f x = .int k a) (hy : evo n f y = .int k b) (hw : k.wrap (a * b) = c) : EX P ⟨d, .binOp .mul t x y t2, ty, pos, aft, gd⟩ n f w (.int k c) w := hw ▸ ex_mul hx hy
theorem ex_convW {src dst : TypeId} {k' : IntKind} {s : TypeDesc} (hs : P.underlying src = some s) (hd : P.underlying dst = some (.int k')) (hx : evo n f x = .int k a) (hw : k'.wrap a = c) : EX P ⟨d, .convert src dst x, ty, pos, aft, gd⟩ n f w (.int k' c) w := hw ▸ ex_conv hs hd hx
theorem ex_remN {m q : Nat} (hx : evo n f x = .int k (m : Int)) (hy : evo n f y = .int k (q : Int)) (h : q ≠ 0) : EX P ⟨d, .binOp .rem t x y t2, ty, pos, aft, gd⟩ n f w (.int k ((m % q : Nat) : Int)) w := by
  have := ex_rem (P := P) (w := w) (d := d) (ty := ty) (pos := pos) (aft := aft) (g := gd) (t := t) (t2 := t2) hx hy (by omega)
  rwa [show ((m : Int)).tmod (q : Int) = ((m % q : Nat) : Int) from (Int.ofNat_tmod m q).symm] at this
theorem ex_quoN {m q : Nat} (hx : evo n f x = .int k (m : Int)) (hy : evo n f y = .int k (q : Int)) (h : q ≠ 0) (hw : k.wrap ((m / q : Nat) : Int) = ((m / q : Nat) : Int)) : EX P ⟨d, .binOp .quo t x y t2, ty, pos, aft, gd⟩ n f w (.int k ((m / q : Nat) : Int)) w := by
  have := ex_quo (P := P) (w := w) (d := d) (ty := ty) (pos := pos) (aft := aft) (g := gd) (t := t) (t2 := t2) hx hy (by omega)
  rwa [show ((m : Int)).tdiv (q : Int) = ((m / q : Nat) : Int) from (Int.ofNat_tdiv m q).symm, hw] at this
theorem u64id {n : Nat} (h : n < 18446744073709551616) : IntKind.u64.wrap (n : Int) = (n : Int) := wrapu64_id (by omega) (by omega)
theorem u32id {n : Nat} (h : n < 4294967296) : IntKind.u32.wrap (n : Int) = (n : Int) := wrapu32_id (by omega) (by omega)
theorem u8id {n : Nat} (h : n < 256) : IntKind.u8.wrap (n : Int) = (n : Int) := wrapu8_id (by omega) (by omega)
theorem i64id {n : Nat} (h : n < 9223372036854775808) : IntKind.i64.wrap (n : Int) = (n : Int) := wrap64_id (by omega) (by omega)
end nats

/-! ### Texts -/
theorem run_bytesStr {A : Option Addr} {c : Nat} {l : List UInt8} (h : Rds w A (bvs l)) : (Conv.bytesToString (.slice A l.length c)).run P w = .ok (.string ⟨l.toArray⟩) w := by
  cases A with
  | none =>
    have : l = [] := by
      cases l with
      | nil => rfl
      | cons a l => obtain ⟨ad, h, _⟩ := h (by simp [bvs]); cases h
    subst this
    simp [Conv.bytesToString]
    rfl
  | some ad =>
    have hl : (loadCells ad l.length).run P w = .ok ((l.map fun b => (b.toNat : Int)).map (Value.int .u8)).toArray w := by
      have := run_loadCells_list (P := P) w ad (bvs l) (fun j v hv => by
        obtain ⟨ad', h1, h2⟩ := h.at_ hv
        injection h1 with h1
        subst h1
        exact h2)
      rw [bvs_length] at this
      rw [this]
      simp [bvs, bv, List.map_map, Function.comp_def]
    rw [run_bytesToString w ad l.length c _ hl]
    congr 2
    have key : ∀ (l : List UInt8) (s : ByteArray), (l.map fun b => (b.toNat : Int)).foldl (fun r n => r.push (UInt8.ofNat n.toNat)) s = ⟨s.data ++ l.toArray⟩ := by
      intro l
      induction l with
      | nil => intro s; simp
      | cons b l ih =>
        intro s
        simp only [List.map_cons, List.foldl_cons]
        rw [ih]
        apply congrArg ByteArray.mk
        apply Array.ext'
        simp [ByteArray.push]
    rw [key]
    apply congrArg ByteArray.mk
    show (#[] : Array UInt8) ++ l.toArray = l.toArray
    simp
theorem ex_conv_str {src dst e : TypeId} {x : Operand} {A : Option Addr} {c : Nat} {l : List UInt8} (hs : P.underlying src = some (.slice e)) (he : P.underlying e = some (.int .u8)) (hd : P.underlying dst = some .string) (hx : evo n f x = .slice A l.length c) (h : Rds w A (bvs l)) :
    EX P ⟨d, .convert src dst x, ty, pos, aft, gd⟩ n f w (.string ⟨l.toArray⟩) w := by
  simp [EX, execOp, hx, run_convert_bytes_string w src dst e A l.length c hs he hd, run_bytesStr h, Result.andThen]
theorem toList_mk (l : List UInt8) : (⟨l.toArray⟩ : ByteArray).toList = l := ByteArray.toList_mk l

/-! ### Literals of slices -/
theorem ex_build0 {t e : TypeId} {z : Value} {size bytes : Nat} (ht : P.underlying t = some (.slice e)) (hi : Inf P e z size bytes) :
    EX P ⟨d, .buildSlice t 0 #[], ty, pos, aft, gd⟩ n f w (.slice (some ⟨w.heap.size, 0, none⟩) 0 0) (w.alloc (.cells #[] e)) := by
  obtain ⟨i, hi, hz, h1, _⟩ := info_parts hi
  simp [EX, execOp, Instr.buildSlice, run_underlying ht, sizeOf, typeInfo, hi, h1, Instr.fill, newRow, newObj, Result.andThen, Sem.run]
  congr 2
  exact Array.eq_empty_of_size_eq_zero (by simp)
/-- A literal of elements of one cell each, in order. -/
theorem ex_buildN {t e : TypeId} {z : Value} {bytes len : Nat} {ps : Array (Nat × Operand)} (ht : P.underlying t = some (.slice e)) (hi : Inf P e z 1 bytes) (vs : List Value) (hps : (ps.toList.map fun p => (p.1, evo n f p.2)) = (vs.zipIdx 0).map fun x => (x.2, x.1)) (h1 : ∀ v ∈ vs, v.cells = #[v]) (hn : vs.length = len) (hsm : len ≤ 2 ^ 24) (hpos : 0 < len) :
    EX P ⟨d, .buildSlice t len ps, ty, pos, aft, gd⟩ n f w (.slice (some ⟨w.heap.size, 0, none⟩) len len) (w.alloc (.cells vs.toArray e)) := by
  obtain ⟨i, hi, hz, hs, _⟩ := info_parts hi
  have := run_buildSlice (P := P) w t e len (ps.map fun (i, x) => (i, evo n f x)) vs.toArray i z ht hi hz (by rw [hs]; omega) (by rw [hs]; omega) (by
    rw [Array.toList_map, hs]
    refine (congrArg _ hps).trans ?_
    exact Great.fill_flat _ _ h1 (by simp [hn]))
  simp only [EX, execOp, Sem.run_bind, this]
  rfl
end
/-! ### Results that lie in cells -/
section ends
variable {P : Program} {fn : Func} {R : Ending → World → Prop} {n : Nat} {f : Nat → Value} {w : World}
theorem end1A {t g size bytes : Nat} {ty e : TypeId} {s : TypeDesc} {z : Value} {cs : Array Value} (hr : fn.results = #[.cell t ty]) (hs : P.underlying ty = some s) (hrow : s.isRow = true) (hi : Inf P ty z size bytes) (hx : evo n f (.tmp t) = .pointer (some ⟨g, 0, none⟩)) (hB : Box w g e cs) (hsz : cs.size = size) (h : R (.returned (.agg cs)) w) : bodyPost P fn R .ret (mk n f []) w := by
  obtain ⟨i, hi', _, h1, _⟩ := info_parts hi
  have hl := run_loadVar_mid (P := P) w g 0 ty cs.toList s (fun j v hv => by rw [Nat.zero_add]; exact hB.cell (by simpa using hv)) hs hrow (by rw [hi']; simp [h1, hsz])
  have hx' : ((mk n f []).tmps[t]?).getD undef = .pointer (some ⟨g, 0, none⟩) := by simp only [mk]; rw [getD_mk']; exact hx
  have hl' : (loadVar ty ⟨g, 0, none⟩).run P w = .ok (.agg cs) w := by rw [hl]
  refine ⟨rfl, .agg cs, ?_, h⟩
  simp [results, hr, hx', asAddr, hl', Result.andThen]
end ends
/-! ### Parts of slices -/
/-- v' is v[i:j]. -/
def SubV (size : Nat) (v : Value) (i j : Nat) (v' : Value) : Prop := ∃ A len c, v = .slice A len c ∧ v' = .slice (if c = i then A else A.map (·.add (i * size))) (j - i) (c - i) ∧ i ≤ j ∧ j ≤ len ∧ len ≤ c
section subs
variable {P : Program} {n : Nat} {f : Nat → Value} {w : World} {d : Option Nat} {ty : TypeId} {pos : String} {aft : Array Edge} {gd : Option (Nat × Bool)}
variable {t e : TypeId} {x y z : Operand} {size i j : Nat} {k k2 : IntKind} {a b : Int} {z0 v v' : Value} {bytes : Nat}
theorem ex_subLH (ht : P.underlying t = some (.slice e)) (hi : Inf P e z0 size bytes) (hx : evo n f x = v) (hs : SubV size v i j v') (hy : evo n f y = .int k a) (hz : evo n f z = .int k2 b) (ha : a = (i : Int)) (hb : b = (j : Int)) : EX P ⟨d, .slice t x (some y) (some z) none, ty, pos, aft, gd⟩ n f w v' w := by
  obtain ⟨A, len, c, rfl, rfl, h1, h2, h3⟩ := hs
  subst ha; subst hb
  have := ex_slice_lohi (w := w) (d := d) (ty := ty) (pos := pos) (aft := aft) (g := gd) ht hi hx hy hz (by omega) (by omega) (by omega)
  simpa using this
theorem ex_subLo (ht : P.underlying t = some (.slice e)) (hi : Inf P e z0 size bytes) {A : Option Addr} {c : Nat} (hx : evo n f x = .slice A j c) (hs : SubV size (.slice A j c) i j v') (hy : evo n f y = .int k a) (ha : a = (i : Int)) : EX P ⟨d, .slice t x (some y) none none, ty, pos, aft, gd⟩ n f w v' w := by
  obtain ⟨A, len, c, e1, rfl, h1, h2, h3⟩ := hs
  injection e1 with e1 e2 e3
  subst e1; subst e2; subst e3
  subst ha
  have := ex_slice_lo (w := w) (d := d) (ty := ty) (pos := pos) (aft := aft) (g := gd) ht hi hx hy (by omega) (by omega)
  simpa using this
theorem ex_subHi (ht : P.underlying t = some (.slice e)) (hi : Inf P e z0 size bytes) (hx : evo n f x = v) (hs : SubV size v 0 j v') (hz : evo n f z = .int k2 b) (hb : b = (j : Int)) : EX P ⟨d, .slice t x none (some z) none, ty, pos, aft, gd⟩ n f w v' w := by
  obtain ⟨A, len, c, rfl, rfl, h1, h2, h3⟩ := hs
  subst hb
  have := ex_slice_hi (w := w) (d := d) (ty := ty) (pos := pos) (aft := aft) (g := gd) ht hi hx hz (by omega) (by omega)
  simpa using this
end subs
theorem subB {w : World} {v : Value} {l : List UInt8} (hv : IsB w v l) (i j : Nat) (hij : i ≤ j) (hj : j ≤ l.length) : ∃ v', SubV 1 v i j v' ∧ IsB w v' ((l.drop i).take (j - i)) := by
  obtain ⟨A, c, rfl, h1, h2, h3⟩ := hv
  refine ⟨_, ⟨A, _, c, rfl, rfl, hij, hj, h1⟩, ?_⟩
  have hlen : ((l.drop i).take (j - i)).length = j - i := by rw [List.length_take, List.length_drop]; omega
  refine ⟨_, c - i, by rw [hlen], by rw [hlen]; omega, by omega, ?_⟩
  split
  · have : (l.drop i).take (j - i) = [] := List.eq_nil_of_length_eq_zero (by omega)
    rw [this]; exact Rds.nil
  · have := (h3.drop i).take (j - i)
    rw [Nat.mul_one]
    unfold bvs at this ⊢
    rwa [← List.map_drop, ← List.map_take] at this
/-- The bytes one by one. -/
theorem IsB.lay {w : World} {v : Value} {l : List UInt8} (hv : IsB w v l) : ∃ A c, v = .slice A l.length c := by
  obtain ⟨A, c, rfl, _⟩ := hv
  exact ⟨A, c, rfl⟩
section bytes
variable {P : Program} {n : Nat} {f : Nat → Value} {w w0 : World} {d : Option Nat} {ty : TypeId} {pos : String} {aft : Array Edge} {gd : Option (Nat × Bool)}
/-- len of bytes. -/
theorem ex_lenB {t e : TypeId} {x : Operand} {v : Value} {l : List UInt8} (ht : P.underlying t = some (.slice e)) (hx : evo n f x = v) (hv : IsB w0 v l) : EX P ⟨d, .call { callee := .builtin .len, args := #[x], argTypes := #[t] }, ty, pos, aft, gd⟩ n f w (.int .i64 (l.length : Int)) w := by
  obtain ⟨A, c, rfl, _⟩ := hv
  exact ex_len ht hx
end bytes
theorem byteAt {w : World} {v : Value} {l : List UInt8} (hv : IsB w v l) {i : Nat} (hi : i < l.length) : ∃ ad c, v = .slice (some ad) l.length c ∧ w.cell? (ad.add i) = some (.int .u8 (l[i].toNat : Int)) := by
  obtain ⟨A, c, rfl, _, _, h3⟩ := hv
  obtain ⟨ad, rfl, hc⟩ := rdB h3 hi
  exact ⟨ad, c, rfl, hc⟩
theorem OwnB.rds {base : Nat} {w : World} {v : Value} {l : List UInt8} (h : OwnB base w v l) : ∃ A c, v = .slice A l.length c ∧ Rds w A (bvs l) := by
  obtain ⟨A, c, rfl, _, _, h3⟩ := h.isB
  exact ⟨A, c, rfl, h3⟩
section
variable {n : Nat} {f : Nat → Value} {w : World} {d : Option Nat} {ty : TypeId} {pos : String} {aft : Array Edge} {g : Option (Nat × Bool)} {r : Option Nat} {ops : Array Oper} {rest : List Oper} {Q : Post} {ds : List Deferred}
/-- append(x, y...): y reads as bytes. -/
theorem wl_appV {base : Nat} {x y : Operand} {v u : Value} {l k : List UInt8} (hx : evo n f x = v) (hown : OwnB base w v l) (hy : evo n f y = u) (hu : IsB w u k)
    (hlen : l.length + k.length ≤ 140737488355328) (hbase : base ≤ w.heap.size)
    (h : ∀ v' w', OwnB base w' v' (l ++ k) → w.grownBy w' v.ownBlock → (v'.ownBlock = v.ownBlock ∨ v'.ownBlock = some w.heap.size) → WL r Try.prog ops Q rest (mk n (updo f d v') ds) w') :
    WL r Try.prog ops Q (⟨d, .call { callee := .builtin .append, args := #[x, y], argTypes := #[23, 23] }, ty, pos, aft, none⟩ :: rest) (mk n f ds) w := by
  obtain ⟨A, c, rfl, _, _, h3⟩ := hu
  exact wl_appB hx hown hy h3 hlen hbase h
end
theorem OwnB.new (w : World) (l : List UInt8) (h : l.length ≤ 140737488355328) : OwnB w.heap.size (w.alloc (.cells (bvs l).toArray 5)) (.slice (some ⟨w.heap.size, 0, none⟩) l.length l.length) l :=
  ⟨by rw [bvs_length, Nat.mul_one], .inr ⟨w.heap.size, l.length, (bvs l).toArray, rfl, Nat.le_refl _, Box.new _ _ _, Nat.le_refl _, by simp only [maxLen]; omega, by simp [bvs_length], by rw [Nat.mul_one, ← bvs_length l]; exact List.take_length⟩⟩
section
variable {P : Program} {n : Nat} {f : Nat → Value} {w : World} {d : Option Nat} {ty : TypeId} {pos : String} {aft : Array Edge} {gd : Option (Nat × Bool)}
theorem ex_max {x y : Operand} {ts : Array TypeId} {k k2 : IntKind} {a b : Int} (hx : evo n f x = .int k a) (hy : evo n f y = .int k2 b) : EX P ⟨d, .call { callee := .builtin .max, args := #[x, y], argTypes := ts }, ty, pos, aft, gd⟩ n f w (.int k (if b > a then b else a)) w := by
  simp [EX, execOp, resolve, invoke, builtin, hx, hy, Builtin.max_, Builtin.max2, Result.andThen]
end
section
variable {n : Nat} {f : Nat → Value} {w : World} {d : Option Nat} {ty : TypeId} {pos : String} {aft : Array Edge} {r : Option Nat} {ops : Array Oper} {S : World → Prop} {N : Act → World → Prop} {ds : List Deferred}
theorem wd_appV {base i : Nat} {rest : List (Nat × Bool)} {x y : Operand} {v u : Value} {l k : List UInt8} (ho : ops[i]? = some ⟨d, .call { callee := .builtin .append, args := #[x, y], argTypes := #[23, 23] }, ty, pos, aft, none⟩)
    (hx : evo n f x = v) (hown : OwnB base w v l) (hy : evo n f y = u) (hu : IsB w u k) (hlen : l.length + k.length ≤ 140737488355328) (hbase : base ≤ w.heap.size)
    (h : ∀ v' w', OwnB base w' v' (l ++ k) → w.grownBy w' v.ownBlock → (v'.ownBlock = v.ownBlock ∨ v'.ownBlock = some w.heap.size) → S w' ∧ WD r Try.prog ops S N rest (mk n (updo f d v') ds) w') :
    WD r Try.prog ops S N ((i, false) :: rest) (mk n f ds) w := by
  obtain ⟨A, c, rfl, _, _, h3⟩ := hu
  obtain ⟨v', w', hex, h2, h3, h4⟩ := ex_append (d := d) (ty := ty) (pos := pos) (aft := aft) (g := none) Try.underlying23 inf5 rfl (by omega) hx hown hy (by rw [bvs_length, Nat.mul_one]) h3 (bvs_one k) (by omega) hbase
  have := h v' w' (by unfold OwnB; rw [bvs_append, List.length_append]; exact h2) h3 h4
  exact wd_v ho rfl hex this.1 this.2
end
theorem OwnB.one {base : Nat} {w : World} {v : Value} {l : List UInt8} (h : OwnB base w v l) : v.oneCell' = true := by
  obtain ⟨A, c, rfl, _⟩ := h.rds; rfl
theorem IsB.one {w : World} {v : Value} {l : List UInt8} (h : IsB w v l) : v.oneCell' = true := by
  obtain ⟨A, c, rfl, _⟩ := h; rfl
theorem Upd1.below {g : Nat} {w w' : World} (h : Upd1 g w w') (hg : g ≤ w.heap.size) : Below g w w' := ⟨h.os, h.tape, h.output, h.size, fun k hk => h.block k (by omega) (by show ¬ k = g; omega)⟩
theorem Old.of_below {a w w' : World} {g : Nat} (h : Old a w) (hb : Below g w w') (hg : a.heap.size ≤ g) : Old a w' := Below.trans h (Below.mono hb hg)
section
variable {P : Program} {n : Nat} {f : Nat → Value} {w : World} {d : Option Nat} {ty : TypeId} {pos : String} {aft : Array Edge} {r : Option Nat} {ops : Array Oper} {rest : List Oper} {Q : Post} {ds : List Deferred}
theorem wl_stL {t e : TypeId} {z : Value} {size bytes g : Nat} {x y : Operand} {cs cs' : Array Value} (hi : Inf P t z size bytes) (hx : evo n f x = .pointer (some ⟨g, 0, none⟩)) (hy : evo n f y = .agg cs') (h1 : cs'.toList.all (·.oneCell') = true) (hs' : cs'.size = size) (hB : Box w g e cs) (hs : cs.size = size)
    (h : ∀ w', Box w' g e cs' → Upd1 g w w' → WL r P ops Q rest (mk n (updo f d undef) ds) w') : WL r P ops Q (⟨d, .store t x y, ty, pos, aft, none⟩ :: rest) (mk n f ds) w :=
  wl_stA hi hx hy (by rw [← Array.all_toList]; exact h1) hs' hB hs h
variable {fn : Func} {R : Ending → World → Prop}
theorem end3A {t u v g size bytes : Nat} {ty e : TypeId} {s : TypeDesc} {z : Value} {cs : Array Value} (hr : fn.results = #[.cell t ty, .tmp u, .tmp v]) (hs : P.underlying ty = some s) (hrow : s.isRow = true) (hi : Inf P ty z size bytes) (hx : evo n f (.tmp t) = .pointer (some ⟨g, 0, none⟩)) (hB : Box w g e cs) (hsz : cs.size = size) (h : R (.returned (.tuple #[.agg cs, evo n f (.tmp u), evo n f (.tmp v)])) w) : bodyPost P fn R .ret (mk n f []) w := by
  obtain ⟨i, hi', _, h1, _⟩ := info_parts hi
  have hl := run_loadVar_mid (P := P) w g 0 ty cs.toList s (fun j v hv => by rw [Nat.zero_add]; exact hB.cell (by simpa using hv)) hs hrow (by rw [hi']; simp [h1, hsz])
  have hx' : ((mk n f []).tmps[t]?).getD undef = .pointer (some ⟨g, 0, none⟩) := by simp only [mk]; rw [getD_mk']; exact hx
  have hl' : (loadVar ty ⟨g, 0, none⟩).run P w = .ok (.agg cs) w := by rw [hl]
  refine ⟨rfl, _, ?_, h⟩
  have h2 : ((mk n f []).tmps[u]?).getD undef = evo n f (.tmp u) := by simp only [mk]; rw [getD_mk']; rfl
  have h3 : ((mk n f []).tmps[v]?).getD undef = evo n f (.tmp v) := by simp only [mk]; rw [getD_mk']; rfl
  simp [results, hr, hx', h2, h3, asAddr, hl', Result.andThen]
end
end Go.Proofs.Ytcceeigkgklkoaa
