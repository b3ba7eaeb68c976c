/- Slices of any elements that read as lists: how a datum lies in cells; which blocks its reading touches. -/
import Derived.Test.YtcceeigkgklkoaaRange
import Derived.Laws.StructEq
set_option linter.unusedSimpArgs false
set_option linter.unusedVariables false
namespace Go.Proofs.Ytcceeigkgklkoaa
open Go.RowKit

/-- The type that a block's cells are of. -/
def tagOf : Obj → Option TypeId
  | .cells _ e _ => some e
  | _ => none
/-- Cells that read, in a block that K speaks of. -/
def RdK (K : Nat → Obj → Prop) (w : World) (A : Option Addr) (xs : List Value) : Prop :=
  xs ≠ [] → ∃ ad, A = some ad ∧ (∃ cs e fr, w.heap[ad.block]? = some (.cells cs e fr) ∧ K ad.block (.cells cs e fr)) ∧ ∀ j u, xs[j]? = some u → w.cell? (ad.add j) = some u
section
variable {K K' : Nat → Obj → Prop} {w w' : World} {A : Option Addr} {xs : List Value}
theorem RdK.nil : RdK K w A [] := fun h => absurd rfl h
theorem RdK.rds (h : RdK K w A xs) : Rds w A xs := fun hn => by
  obtain ⟨ad, e, _, hc⟩ := h hn
  exact ⟨ad, e, hc⟩
theorem RdK.kept (h : RdK K w A xs) (hk : Kp K w w') : RdK K w' A xs := fun hn => by
  obtain ⟨ad, e, ⟨cs, ee, fr, ho, hK⟩, hc⟩ := h hn
  have ho' := hk.block _ _ ho hK
  refine ⟨ad, e, ⟨cs, ee, fr, ho', hK⟩, fun j u hu => ?_⟩
  have := hc j u hu
  unfold World.cell? at this ⊢
  rw [block_of_add, ho] at this
  rw [block_of_add, ho']
  exact this
theorem RdK.mono (h : RdK K w A xs) (hk : ∀ k o, K k o → K' k o) : RdK K' w A xs := fun hn => by
  obtain ⟨ad, e, ⟨cs, ee, fr, ho, hK⟩, hc⟩ := h hn
  exact ⟨ad, e, ⟨cs, ee, fr, ho, hk _ _ hK⟩, hc⟩
theorem RdK.old (h : RdK K w A xs) (hb : Old w w') : RdK K w' A xs := h.kept (Kp.of_old hb)
/-- What reads, reads in blocks that are there. -/
theorem RdK.of_rds (h : Rds w A xs) : RdK (fun k _ => k < w.heap.size) w A xs := fun hn => by
  obtain ⟨ad, e, hc⟩ := h hn
  have h0 : ∃ u, xs[0]? = some u := by cases xs with
    | nil => exact absurd rfl hn
    | cons a l => exact ⟨a, rfl⟩
  obtain ⟨u, hu⟩ := h0
  have hc0 := hc 0 u hu
  refine ⟨ad, e, ?_, hc⟩
  unfold World.cell? at hc0
  rw [block_of_add] at hc0
  cases ho : w.heap[ad.block]? with
  | none => rw [ho] at hc0; cases hc0
  | some o =>
    rw [ho] at hc0
    cases o <;> first | exact ⟨_, _, _, rfl, lt_of_heap ho⟩ | (cases hc0; done)
theorem RdK.inn (h : RdK K w A xs) : RdK (fun k o => K k o ∧ k < w.heap.size) w A xs := fun hn => by
  obtain ⟨ad, e, ⟨cs, ee, fr, ho, hK⟩, hc⟩ := h hn
  exact ⟨ad, e, ⟨cs, ee, fr, ho, hK, lt_of_heap ho⟩, hc⟩
theorem RdK.take (h : RdK K w A xs) (n : Nat) : RdK K w A (xs.take n) := fun hn => by
  obtain ⟨ad, e, hb, hc⟩ := h (fun e => by subst e; simp at hn)
  refine ⟨ad, e, hb, fun j u hu => hc j u ?_⟩
  rw [List.getElem?_take] at hu
  split at hu
  · exact hu
  · cases hu
theorem RdK.drop (h : RdK K w A xs) (n : Nat) : RdK K w (A.map (·.add n)) (xs.drop n) := fun hn => by
  obtain ⟨ad, rfl, ⟨cs, ee, fr, ho, hK⟩, hc⟩ := h (fun e => by subst e; simp at hn)
  refine ⟨ad.add n, rfl, ⟨cs, ee, fr, by rw [block_of_add]; exact ho, by rw [block_of_add]; exact hK⟩, fun j u hu => ?_⟩
  rw [add_of_add]
  exact hc _ u (by rw [← hu, List.getElem?_drop])
theorem RdK.of_own {base : Nat} {e : TypeId} {size n c : Nat} (h : w.ownsRow base e size (.slice A n c) n xs) : RdK (fun k o => base ≤ k ∧ tagOf o = some e) w A xs := fun hn => by
  have hl : 0 < xs.length := by cases xs <;> simp_all
  have hn0 : 0 < n := by
    rcases Nat.eq_zero_or_pos n with h0 | h0
    · have := h.1; rw [h0] at this; omega
    · exact h0
  rcases h.2 with ⟨h1, h0⟩ | ⟨g, cap, cur, hv, hb, hg, hrest⟩
  · omega
  · injection hv with hA
    subst hA
    exact ⟨_, rfl, ⟨_, _, _, hg, hb, rfl⟩, h.cells (g := g) rfl⟩
end

/-- How a datum lies in cells. -/
structure Lay (α : Type) where
  n : Nat
  is : (Nat → Obj → Prop) → World → List Value → α → Prop
  len : ∀ {K w cs x}, is K w cs x → cs.length = n
  one : ∀ {K w cs x}, is K w cs x → ∀ u ∈ cs, u.oneCell' = true
  kept : ∀ {K w w' cs x}, is K w cs x → Kp K w w' → is K w' cs x
  mono : ∀ {K K' : Nat → Obj → Prop} {w cs x}, is K w cs x → (∀ k o, K k o → K' k o) → is K' w cs x
  inn : ∀ {K : Nat → Obj → Prop} {w cs x}, is K w cs x → is (fun k o => K k o ∧ k < w.heap.size) w cs x
/-- Cells that are all there is. -/
def Lay.flat {α : Type} (n : Nat) (enc : α → List Value) (h1 : ∀ x, (enc x).length = n) (h2 : ∀ x, (enc x).all (·.oneCell') = true) : Lay α where
  n := n
  is _ _ cs x := cs = enc x
  len h := by rw [h]; exact h1 _
  one h := by rw [h]; exact List.all_eq_true.1 (h2 _)
  kept h _ := h
  mono h _ := h
  inn h := h

/-- These cells, element by element. -/
def Els {α : Type} (L : Lay α) (K : Nat → Obj → Prop) (w : World) : List (List Value) → List α → Prop
  | [], [] => True
  | cs :: css, x :: l => L.is K w cs x ∧ Els L K w css l
  | _, _ => False
section
variable {α : Type} {L : Lay α} {K K' : Nat → Obj → Prop} {w w' : World}
theorem Els.len : ∀ {css : List (List Value)} {l : List α}, Els L K w css l → css.length = l.length
  | [], [], _ => rfl
  | _ :: _, _ :: _, h => by simp [Els.len h.2]
theorem Els.flen : ∀ {css : List (List Value)} {l : List α}, Els L K w css l → css.flatten.length = l.length * L.n
  | [], [], _ => by simp
  | _ :: _, _ :: l, h => by simp [Els.flen h.2, L.len h.1, Nat.succ_mul, Nat.add_comm]
theorem Els.one : ∀ {css : List (List Value)} {l : List α}, Els L K w css l → ∀ u ∈ css.flatten, u.oneCell' = true
  | [], [], _, u, hu => by simp at hu
  | _ :: _, _ :: l, h, u, hu => by
    rw [List.flatten_cons, List.mem_append] at hu
    rcases hu with hu | hu
    · exact L.one h.1 u hu
    · exact Els.one h.2 u hu
theorem Els.kept (hk : Kp K w w') : ∀ {css : List (List Value)} {l : List α}, Els L K w css l → Els L K w' css l
  | [], [], _ => trivial
  | _ :: _, _ :: _, h => ⟨L.kept h.1 hk, Els.kept hk h.2⟩
theorem Els.mono (hk : ∀ k o, K k o → K' k o) : ∀ {css : List (List Value)} {l : List α}, Els L K w css l → Els L K' w css l
  | [], [], _ => trivial
  | _ :: _, _ :: _, h => ⟨L.mono h.1 hk, Els.mono hk h.2⟩
theorem Els.inn : ∀ {css : List (List Value)} {l : List α}, Els L K w css l → Els L (fun k o => K k o ∧ k < w.heap.size) w css l
  | [], [], _ => trivial
  | _ :: _, _ :: _, h => ⟨L.inn h.1, Els.inn h.2⟩
theorem Els.app : ∀ {css css2 : List (List Value)} {l l2 : List α}, Els L K w css l → Els L K w css2 l2 → Els L K w (css ++ css2) (l ++ l2)
  | [], _, [], _, _, h => h
  | _ :: _, _, _ :: _, _, h, k => ⟨h.1, Els.app h.2 k⟩
theorem Els.one1 {cs : List Value} {x : α} (h : L.is K w cs x) : Els L K w [cs] [x] := ⟨h, trivial⟩
theorem Els.take : ∀ (i : Nat) {css : List (List Value)} {l : List α}, Els L K w css l → Els L K w (css.take i) (l.take i)
  | 0, _, _, _ => by simp [Els]
  | _ + 1, [], [], _ => trivial
  | i + 1, _ :: _, _ :: _, h => ⟨h.1, Els.take i h.2⟩
theorem Els.drop : ∀ (i : Nat) {css : List (List Value)} {l : List α}, Els L K w css l → Els L K w (css.drop i) (l.drop i)
  | 0, _, _, h => by simpa using h
  | _ + 1, [], [], _ => trivial
  | i + 1, _ :: _, _ :: _, h => by simpa using Els.drop i h.2
theorem Els.ftake : ∀ (i : Nat) {css : List (List Value)} {l : List α}, Els L K w css l → (css.take i).flatten = css.flatten.take (i * L.n)
  | 0, _, _, _ => by simp
  | i + 1, [], [], _ => by simp
  | i + 1, cs :: css, _ :: _, h => by
    rw [List.take_succ_cons, List.flatten_cons, List.flatten_cons, Els.ftake i h.2, Nat.succ_mul, Nat.add_comm, ← L.len h.1, List.take_length_add_append]
theorem Els.fdrop : ∀ (i : Nat) {css : List (List Value)} {l : List α}, Els L K w css l → (css.drop i).flatten = css.flatten.drop (i * L.n)
  | 0, _, _, _ => by simp
  | i + 1, [], [], _ => by simp
  | i + 1, cs :: css, _ :: _, h => by
    rw [List.drop_succ_cons, List.flatten_cons, Els.fdrop i h.2, Nat.succ_mul, Nat.add_comm, ← L.len h.1, List.drop_length_add_append]
theorem Els.at_ : ∀ (i : Nat) {css : List (List Value)} {l : List α}, Els L K w css l → ∀ (hi : i < l.length), ∃ cs, L.is K w cs l[i] ∧ ∀ j u, cs[j]? = some u → css.flatten[i * L.n + j]? = some u
  | _, [], [], _, hi => absurd hi (by simp)
  | 0, cs :: css, x :: l, h, hi => ⟨cs, h.1, fun j u hu => by
      rw [Nat.zero_mul, Nat.zero_add, List.flatten_cons, List.getElem?_append_left (List.getElem?_eq_some_iff.1 hu).1]; exact hu⟩
  | i + 1, cs :: css, x :: l, h, hi => by
    obtain ⟨c, h1, h2⟩ := Els.at_ i h.2 (by simpa using hi)
    refine ⟨c, h1, fun j u hu => ?_⟩
    rw [List.flatten_cons, List.getElem?_append_right (by rw [L.len h.1, Nat.succ_mul]; omega), L.len h.1]
    rw [show (i + 1) * L.n + j - L.n = i * L.n + j from by rw [Nat.succ_mul]; omega]
    exact h2 j u hu
theorem Els.flat {n : Nat} {enc : α → List Value} {h1 : ∀ x, (enc x).length = n} {h2 : ∀ x, (enc x).all (·.oneCell') = true} : ∀ {css : List (List Value)} {l : List α}, Els (Lay.flat n enc h1 h2) K w css l → css = l.map enc
  | [], [], _ => rfl
  | _ :: _, _ :: _, h => by rw [List.map_cons, ← Els.flat h.2, show _ = _ from h.1]
theorem Els.of_flat {n : Nat} {enc : α → List Value} {h1 : ∀ x, (enc x).length = n} {h2 : ∀ x, (enc x).all (·.oneCell') = true} : ∀ {l : List α}, Els (Lay.flat n enc h1 h2) K w (l.map enc) l
  | [] => trivial
  | _ :: _ => ⟨rfl, Els.of_flat⟩
end

/-- The value is a slice that reads as this list. -/
def Ls {α : Type} (L : Lay α) (K : Nat → Obj → Prop) (w : World) (v : Value) (l : List α) : Prop :=
  ∃ A c css, v = .slice A l.length c ∧ l.length ≤ c ∧ c ≤ 9223372036854775807 ∧ RdK K w A css.flatten ∧ Els L K w css l
def baseOf : Value → Addr
  | .slice (some ad) _ _ => ad
  | _ => ⟨0, 0, none⟩
section
variable {α : Type} {L : Lay α} {K K' : Nat → Obj → Prop} {w w' : World} {v : Value} {l : List α}
theorem Ls.kept (h : Ls L K w v l) (hk : Kp K w w') : Ls L K w' v l := by
  obtain ⟨A, c, css, e, h1, h2, h3, h4⟩ := h
  exact ⟨A, c, css, e, h1, h2, h3.kept hk, h4.kept hk⟩
theorem Ls.old (h : Ls L K w v l) (hk : Old w w') : Ls L K w' v l := h.kept (Kp.of_old hk)
theorem Ls.mono (h : Ls L K w v l) (hk : ∀ k o, K k o → K' k o) : Ls L K' w v l := by
  obtain ⟨A, c, css, e, h1, h2, h3, h4⟩ := h
  exact ⟨A, c, css, e, h1, h2, h3.mono hk, h4.mono hk⟩
theorem Ls.inn (h : Ls L K w v l) : Ls L (fun k o => K k o ∧ k < w.heap.size) w v l := by
  obtain ⟨A, c, css, e, h1, h2, h3, h4⟩ := h
  exact ⟨A, c, css, e, h1, h2, h3.inn, h4.inn⟩
/-- All that it reads lies there now. -/
theorem Ls.here (h : Ls L K w v l) : Ls L (fun k _ => k < w.heap.size) w v l := h.inn.mono fun _ _ h => h.2
theorem Ls.nil (L : Lay α) (K : Nat → Obj → Prop) (w : World) : Ls L K w (.slice none 0 0) [] := ⟨none, 0, [], rfl, Nat.le_refl _, by omega, RdK.nil, trivial⟩
theorem Ls.one (h : Ls L K w v l) : v.oneCell' = true := by obtain ⟨A, c, css, rfl, _⟩ := h; rfl
theorem Ls.cells (h : Ls L K w v l) : v.cells = #[v] := by obtain ⟨A, c, css, rfl, _⟩ := h; rfl
theorem Ls.lt (h : Ls L K w v l) : l.length ≤ 9223372036854775807 := by obtain ⟨A, c, css, rfl, h1, h2, _⟩ := h; omega
/-- The cells of an element. -/
theorem Ls.at_ (h : Ls L K w v l) {i : Nat} (hi : i < l.length) : ∃ cs, L.is K w cs l[i] ∧ ∀ j u, cs[j]? = some u → w.cell? ((baseOf v).add (i * L.n + j)) = some u := by
  obtain ⟨A, c, css, rfl, h1, h2, h3, h4⟩ := h
  obtain ⟨cs, hc, hu⟩ := Els.at_ i h4 hi
  refine ⟨cs, hc, fun j u hj => ?_⟩
  obtain ⟨ad, rfl, hcell⟩ := h3.rds.at_ (hu j u hj)
  exact hcell
/-- What a slice of them is called, and reads as. -/
theorem Ls.sub (h : Ls L K w v l) (i j : Nat) (hij : i ≤ j) (hj : j ≤ l.length) : ∃ v', SubV L.n v i j v' ∧ Ls L K w v' ((l.drop i).take (j - i)) := by
  obtain ⟨A, c, css, rfl, h1, h2, h3, h4⟩ := h
  refine ⟨_, ⟨A, _, c, rfl, rfl, hij, hj, h1⟩, ?_⟩
  have hlen : ((l.drop i).take (j - i)).length = j - i := by rw [List.length_take, List.length_drop]; omega
  refine ⟨_, c - i, (css.drop i).take (j - i), by rw [hlen], by rw [hlen]; omega, by omega, ?_, (h4.drop i).take (j - i)⟩
  rw [Els.ftake (j - i) (h4.drop i), Els.fdrop i h4]
  split
  · have : j - i = 0 := by omega
    rw [this, Nat.zero_mul, List.take_zero]; exact RdK.nil
  · exact (h3.drop _).take _
end
section
variable {P : Program} {n : Nat} {f : Nat → Value} {w w0 : World} {d : Option Nat} {ty : TypeId} {pos : String} {aft : Array Edge} {gd : Option (Nat × Bool)}
variable {α : Type} {L : Lay α} {K : Nat → Obj → Prop} {v : Value} {l : List α} {t e : TypeId} {x y : Operand} {z0 : Value} {bytes : Nat}
theorem ex_lenL (ht : P.underlying t = some (.slice e)) (hx : evo n f x = v) (hv : Ls L K w0 v l) : EX P ⟨d, .call { callee := .builtin .len, args := #[x], argTypes := #[t] }, ty, pos, aft, gd⟩ n f w (.int .i64 (l.length : Int)) w := by
  obtain ⟨A, c, css, rfl, _⟩ := hv
  exact ex_len ht hx
/-- The place of an element. -/
theorem ex_idxL {size i : Nat} {k : IntKind} {a : Int} (ht : P.underlying t = some (.slice e)) (hi : Inf P e z0 size bytes) (hx : evo n f x = v) (hv : Ls L K w0 v l) (hn : L.n = size) (hpos : 0 < size) (hy : evo n f y = .int k a) (ha : a = (i : Int)) (hlt : i < l.length) :
    EX P ⟨d, .indexAddr t x y, ty, pos, aft, gd⟩ n f w (.pointer (some ((baseOf v).add (i * size)))) w := by
  obtain ⟨cs, hc, hu⟩ := hv.at_ hlt
  have hl := L.len hc
  obtain ⟨A, c, css, rfl, h1, h2, h3, h4⟩ := hv
  have hne : css.flatten ≠ [] := by
    intro h0
    have := Els.flen h4
    rw [h0] at this
    have h5 := Nat.mul_pos (show 0 < l.length by omega) (show 0 < L.n by omega)
    simp at this
    omega
  obtain ⟨ad, rfl, _⟩ := h3 hne
  exact ex_idxN ht hi hx hy ha hlt
theorem ex_fldA {s : TypeId} {j off a : Nat} {ad : Addr} (hF : Fld P s j off) (hx : evo n f x = .pointer (some (ad.add a))) :
    EX P ⟨d, .fieldAddr s x j, ty, pos, aft, gd⟩ n f w (.pointer (some (ad.add (a + off)))) w := by
  have h := ex_fieldAddr (w := w) (d := d) (ty := ty) (pos := pos) (aft := aft) (g := gd) hF hx
  rwa [add_of_add] at h
/-- A whole struct, loaded from wherever it lies. -/
theorem ex_ldN {s : TypeDesc} {size : Nat} {ad : Addr} {cs : List Value} (hs : P.underlying t = some s) (hr : s.isRow = true) (hi : Inf P t z0 size bytes) (hx : evo n f x = .pointer (some ad)) (hc : ∀ j u, cs[j]? = some u → w.cell? (ad.add j) = some u) (hsz : cs.length = size) (hpos : 0 < size) :
    EX P ⟨d, .load t x, ty, pos, aft, gd⟩ n f w (.agg cs.toArray) w := by
  obtain ⟨i, hi', _, h1, _⟩ := info_parts hi
  obtain ⟨g, o, sp⟩ := ad
  have hsp : sp = none := by
    have h0 := hc 0 cs[0] (List.getElem?_eq_getElem (by omega))
    have e0 : (⟨g, o, sp⟩ : Addr).add 0 = ⟨g, o, sp⟩ := rfl
    rw [e0] at h0
    unfold World.cell? at h0
    cases sp with
    | none => rfl
    | some p =>
      simp only at h0
      cases ho : w.heap[g]? with
      | none => rw [ho] at h0; cases h0
      | some ob => rw [ho] at h0; cases ob <;> simp at h0
  subst hsp
  have := run_loadAt_mid (P := P) w g o t cs s (fun j v hv => by have := hc j v hv; rwa [add_plain'] at this) hs hr (by rw [hi']; simp [h1, hsz])
  simp [EX, execOp, hx, this, Result.andThen]
end
/-- The same, nothing being said of the slice's own block. -/
def LsE {α : Type} (L : Lay α) (K : Nat → Obj → Prop) (w : World) (v : Value) (l : List α) : Prop :=
  ∃ A c css, v = .slice A l.length c ∧ Rds w A css.flatten ∧ Els L K w css l
theorem Ls.e {α : Type} {L : Lay α} {K : Nat → Obj → Prop} {w : World} {v : Value} {l : List α} (h : Ls L K w v l) : LsE L K w v l := by
  obtain ⟨A, c, css, rfl, h1, h2, h3, h4⟩ := h
  exact ⟨A, c, css, rfl, h3.rds, h4⟩
/-- A row of one's own that reads as this list. -/
def OwnL {α : Type} (L : Lay α) (e : TypeId) (K : Nat → Obj → Prop) (base : Nat) (w : World) (v : Value) (l : List α) : Prop := ∃ css, w.ownsRow base e L.n v l.length css.flatten ∧ Els L K w css l
section
variable {α : Type} {L : Lay α} {e : TypeId} {K K' : Nat → Obj → Prop} {base : Nat} {w w' : World} {v : Value} {l : List α}
theorem OwnL.nil : OwnL L e K base w (.slice none 0 0) [] := ⟨[], World.ownsRow_nil _ _ _ _, trivial⟩
theorem OwnL.ls (h : OwnL L e K base w v l) (hK : ∀ k o, base ≤ k → tagOf o = some e → K k o) : Ls L K w v l := by
  obtain ⟨css, h1, h2⟩ := h
  rcases h1.2 with ⟨rfl, h0⟩ | ⟨g, cap, cur, rfl, hb, hg, hc1, hc2, hrest⟩
  · have : l = [] := List.eq_nil_of_length_eq_zero h0
    subst this
    exact Ls.nil _ _ _
  · exact ⟨_, _, css, rfl, hc1, by simp only [maxLen] at hc2; omega, (RdK.of_own h1).mono fun k o h => hK k o h.1 h.2, h2⟩
theorem OwnL.old (h : OwnL L e K base w v l) (hb : Old w w') : OwnL L e K base w' v l := by
  obtain ⟨css, h1, h2⟩ := h
  exact ⟨css, owns_old h1 hb, h2.kept (Kp.of_old hb)⟩
theorem OwnL.kept (h : OwnL L e K base w v l) (hk : Kp K w w') (hK : ∀ k cs, base ≤ k → K k (.cells cs e (0, 0))) : OwnL L e K base w' v l := by
  obtain ⟨css, h1, h2⟩ := h
  refine ⟨css, ⟨h1.1, ?_⟩, h2.kept hk⟩
  rcases h1.2 with h0 | ⟨g, cap, cur, hv, hb, hg, hrest⟩
  · exact .inl h0
  · exact .inr ⟨g, cap, cur, hv, hb, hk.block g _ hg (hK _ _ hb), hrest⟩
theorem OwnL.upd1 {g : Nat} (h : OwnL L e K base w v l) (hU : Upd1 g w w') (hg : g < base) (hK : ∀ o, ¬ K g o) : OwnL L e K base w' v l := by
  obtain ⟨css, h1, h2⟩ := h
  refine ⟨css, ⟨h1.1, ?_⟩, h2.kept (Kp.of_upd hU fun o _ => hK o)⟩
  rcases h1.2 with h0 | ⟨j, cap, cur, hv, hb, hj, hrest⟩
  · exact .inl h0
  · exact .inr ⟨j, cap, cur, hv, hb, (hU.block j (lt_of_heap hj) (by show ¬ j = g; omega)).trans hj, hrest⟩
theorem OwnL.kc (h : OwnL L e K base w v l) (hk : Kc w w') (hK : ∀ k o, K k o → isBook o = false) : OwnL L e K base w' v l := by
  obtain ⟨css, h1, h2⟩ := h
  exact ⟨css, Kc.owns hk h1, h2.kept (hk.mono hK)⟩
theorem OwnL.mono (h : OwnL L e K base w v l) (hk : ∀ k o, K k o → K' k o) : OwnL L e K' base w v l := by
  obtain ⟨css, h1, h2⟩ := h
  exact ⟨css, h1, h2.mono hk⟩
theorem OwnL.ge (h : OwnL L e K base w v l) : ∀ k, v.ownBlock = some k → base ≤ k := fun k hk => by
  obtain ⟨css, h1, h2⟩ := h
  exact (World.ownsRow.lt h1 k hk).1
theorem OwnL.tag (h : OwnL L e K base w v l) : ∀ k, v.ownBlock = some k → ∃ cs, w.heap[k]? = some (.cells cs e (0, 0)) := fun k hk => by
  obtain ⟨css, h1, h2⟩ := h
  rcases h1.2 with ⟨rfl, h0⟩ | ⟨g, cap, cur, rfl, hb, hg, hrest⟩
  · cases hk
  · injection hk with hk; subst hk; exact ⟨_, hg⟩
theorem OwnL.one (h : OwnL L e K base w v l) : v.oneCell' = true := by
  obtain ⟨css, h1, h2⟩ := h
  rcases h1.2 with ⟨rfl, h0⟩ | ⟨g, cap, cur, rfl, _⟩ <;> rfl
end
section
variable {P : Program} {n : Nat} {f : Nat → Value} {w : World} {d : Option Nat} {ty : TypeId} {pos : String} {aft : Array Edge} {r : Option Nat} {ops : Array Oper} {rest : List Oper} {Q : Post} {ds : List Deferred}
variable {α : Type} {L : Lay α} {K : Nat → Obj → Prop} {v u : Value} {l k : List α} {t e : TypeId} {x y : Operand} {z : Value} {size bytes base : Nat}
theorem ex_appL {gd : Option (Nat × Bool)} (ht : P.underlying t = some (.slice e)) (hinfo : Inf P e z size bytes) (hzs : z.cells.size = size) (hsz : 0 < size) (hn : L.n = size)
    (hx : evo n f x = v) (hown : OwnL L e K base w v l) (hy : evo n f y = u) (hu : LsE L K w u k)
    (hbytes : (l.length + k.length) * bytes ≤ 140737488355328) (hb0 : 0 < bytes) (hbase : base ≤ w.heap.size) (hK : ∀ j o, v.ownBlock = some j → w.heap[j]? = some o → ¬ K j o) :
    ∃ v' w', EX P ⟨d, .call { callee := .builtin .append, args := #[x, y], argTypes := #[t, t] }, ty, pos, aft, gd⟩ n f w v' w' ∧ OwnL L e K base w' v' (l ++ k) ∧ w.grownBy w' v.ownBlock ∧
      (v'.ownBlock = v.ownBlock ∨ v'.ownBlock = some w.heap.size) := by
  subst hn
  obtain ⟨css, h1, h2⟩ := hown
  obtain ⟨A, c, css2, rfl, h5, h6⟩ := hu
  have h0 : l.length + k.length ≤ 140737488355328 := Nat.le_trans (Nat.le_mul_of_pos_right _ hb0) hbytes
  obtain ⟨v', w', hex, h7, h8, h9⟩ := ex_append (d := d) (ty := ty) (pos := pos) (aft := aft) (g := gd) ht hinfo hzs hsz hx h1 hy (Els.flen h6) h5 (Els.one h6) ⟨h0, hbytes⟩ hbase
  exact ⟨v', w', hex, ⟨css ++ css2, by rw [List.length_append, List.flatten_append]; exact h7, (Els.app h2 h6).kept (Kp.of_grown h8 hK)⟩, h8, h9⟩
theorem wl_appL (ht : P.underlying t = some (.slice e)) (hinfo : Inf P e z size bytes) (hzs : z.cells.size = size) (hsz : 0 < size) (hn : L.n = size)
    (hx : evo n f x = v) (hown : OwnL L e K base w v l) (hy : evo n f y = u) (hu : LsE L K w u k)
    (hbytes : (l.length + k.length) * bytes ≤ 140737488355328) (hb0 : 0 < bytes) (hbase : base ≤ w.heap.size) (hK : ∀ j o, v.ownBlock = some j → w.heap[j]? = some o → ¬ K j o)
    (h : ∀ v' w', OwnL L e K base w' v' (l ++ k) → w.grownBy w' v.ownBlock → (v'.ownBlock = v.ownBlock ∨ v'.ownBlock = some w.heap.size) → WL r P ops Q rest (mk n (updo f d v') ds) w') :
    WL r P ops Q (⟨d, .call { callee := .builtin .append, args := #[x, y], argTypes := #[t, t] }, ty, pos, aft, none⟩ :: rest) (mk n f ds) w := by
  obtain ⟨v', w', hex, h2, h3, h4⟩ := ex_appL (d := d) (ty := ty) (pos := pos) (aft := aft) (gd := none) ht hinfo hzs hsz hn hx hown hy hu hbytes hb0 hbase hK
  exact wl_v hex (h v' w' h2 h3 h4)
end
section
variable {P : Program} {n : Nat} {f : Nat → Value} {w : World} {d : Option Nat} {ty : TypeId} {pos : String} {aft : Array Edge} {r : Option Nat} {ops : Array Oper} {S : World → Prop} {N : Act → World → Prop} {ds : List Deferred}
variable {α : Type} {L : Lay α} {K : Nat → Obj → Prop} {v u : Value} {l k : List α} {t e : TypeId} {x y : Operand} {z : Value} {size bytes base : Nat}
theorem wd_appL {i : Nat} {rest : List (Nat × Bool)} (ho : ops[i]? = some ⟨d, .call { callee := .builtin .append, args := #[x, y], argTypes := #[t, t] }, ty, pos, aft, none⟩) (ht : P.underlying t = some (.slice e)) (hinfo : Inf P e z size bytes) (hzs : z.cells.size = size) (hsz : 0 < size) (hn : L.n = size)
    (hx : evo n f x = v) (hown : OwnL L e K base w v l) (hy : evo n f y = u) (hu : LsE L K w u k)
    (hbytes : (l.length + k.length) * bytes ≤ 140737488355328) (hb0 : 0 < bytes) (hbase : base ≤ w.heap.size) (hK : ∀ j o, v.ownBlock = some j → w.heap[j]? = some o → ¬ K j o)
    (h : ∀ v' w', OwnL L e K base w' v' (l ++ k) → w.grownBy w' v.ownBlock → (v'.ownBlock = v.ownBlock ∨ v'.ownBlock = some w.heap.size) → S w' ∧ WD r P ops S N rest (mk n (updo f d v') ds) w') :
    WD r P ops S N ((i, false) :: rest) (mk n f ds) w := by
  obtain ⟨v', w', hex, h2, h3, h4⟩ := ex_appL (d := d) (ty := ty) (pos := pos) (aft := aft) (gd := none) ht hinfo hzs hsz hn hx hown hy hu hbytes hb0 hbase hK
  exact wd_v ho rfl hex (h v' w' h2 h3 h4).1 (h v' w' h2 h3 h4).2
end
section
variable {P : Program} {n : Nat} {f : Nat → Value} {w : World} {d : Option Nat} {ty : TypeId} {pos : String} {aft : Array Edge} {r : Option Nat} {ops : Array Oper} {N : Act → World → Prop} {ds : List Deferred}
variable {α : Type} {L : Lay α} {K : Nat → Obj → Prop} {v u : Value} {l k : List α} {t e : TypeId} {x y : Operand} {z : Value} {size bytes base : Nat}
theorem wt_appL {i : Nat} {rest : List Nat} (ho : ops[i]? = some ⟨d, .call { callee := .builtin .append, args := #[x, y], argTypes := #[t, t] }, ty, pos, aft, none⟩) (ht : P.underlying t = some (.slice e)) (hinfo : Inf P e z size bytes) (hzs : z.cells.size = size) (hsz : 0 < size) (hn : L.n = size)
    (hx : evo n f x = v) (hown : OwnL L e K base w v l) (hy : evo n f y = u) (hu : LsE L K w u k)
    (hbytes : (l.length + k.length) * bytes ≤ 140737488355328) (hb0 : 0 < bytes) (hbase : base ≤ w.heap.size) (hK : ∀ j o, v.ownBlock = some j → w.heap[j]? = some o → ¬ K j o)
    (h : ∀ v' w', OwnL L e K base w' v' (l ++ k) → w.grownBy w' v.ownBlock → (v'.ownBlock = v.ownBlock ∨ v'.ownBlock = some w.heap.size) → WT r P ops N rest (mk n (updo f d v') ds) w') :
    WT r P ops N (i :: rest) (mk n f ds) w := by
  obtain ⟨v', w', hex, h2, h3, h4⟩ := ex_appL (d := d) (ty := ty) (pos := pos) (aft := aft) (gd := none) ht hinfo hzs hsz hn hx hown hy hu hbytes hb0 hbase hK
  exact wt_v ho rfl hex (h v' w' h2 h3 h4)
end
/-- A new block of these cells. -/
theorem Ls.new {α : Type} {L : Lay α} {K : Nat → Obj → Prop} {w : World} {e : TypeId} {css : List (List Value)} {l : List α} (h : Els L K w css l) (hl : l.length ≤ 9223372036854775807) (hK : K w.heap.size (.cells css.flatten.toArray e (0, 0))) :
    Ls L K (w.alloc (.cells css.flatten.toArray e)) (.slice (some ⟨w.heap.size, 0, none⟩) l.length l.length) l := by
  have hB := Box.new w e css.flatten.toArray
  refine ⟨_, _, css, rfl, Nat.le_refl _, hl, ?_, h.kept (Kp.of_old ((Old.refl w).alloc _))⟩
  refine fun _ => ⟨_, rfl, ⟨_, _, _, hB, hK⟩, fun j u hu => ?_⟩
  rw [add_plain]
  exact hB.cell (by simpa using hu)
/-! ### Bytes; slices of slices -/
def layB : Lay UInt8 := Lay.flat 1 (fun b => [bv b]) (fun _ => rfl) (fun _ => rfl)
theorem flat_bvs : ∀ (l : List UInt8), (l.map fun b => [bv b]).flatten = bvs l
  | [] => rfl
  | b :: l => by rw [List.map_cons, List.flatten_cons, flat_bvs l]; rfl
theorem Ls.isB {K : Nat → Obj → Prop} {w : World} {v : Value} {l : List UInt8} (h : Ls layB K w v l) : IsB w v l := by
  obtain ⟨A, c, css, rfl, h1, h2, h3, h4⟩ := h
  have := Els.flat h4
  subst this
  rw [flat_bvs] at h3
  exact ⟨A, c, rfl, h1, h2, h3.rds⟩
theorem IsB.ls {w : World} {v : Value} {l : List UInt8} (h : IsB w v l) : Ls layB (fun k _ => k < w.heap.size) w v l := by
  obtain ⟨A, c, rfl, h1, h2, h3⟩ := h
  rw [← flat_bvs] at h3
  exact ⟨A, c, _, rfl, h1, h2, RdK.of_rds h3, Els.of_flat⟩
theorem OwnB.ownL {K : Nat → Obj → Prop} {base : Nat} {w : World} {v : Value} {l : List UInt8} (h : OwnB base w v l) : OwnL layB 5 K base w v l := ⟨_, by rw [flat_bvs]; exact h, Els.of_flat⟩
theorem OwnB.ls {base : Nat} {w : World} {v : Value} {l : List UInt8} (h : OwnB base w v l) : Ls layB (fun k o => base ≤ k ∧ tagOf o = some 5) w v l := h.ownL.ls fun _ _ h1 h2 => ⟨h1, h2⟩
/-- A slice, as an element. -/
def laySl {α : Type} (L : Lay α) : Lay (List α) where
  n := 1
  is K w cs l := ∃ v, cs = [v] ∧ Ls L K w v l
  len := by rintro _ _ _ _ ⟨v, rfl, _⟩; rfl
  one := by
    rintro _ _ _ _ ⟨v, rfl, h⟩ u hu
    simp only [List.mem_cons, List.not_mem_nil, or_false] at hu
    subst hu
    exact h.one
  kept := by rintro _ _ _ _ _ ⟨v, rfl, h⟩ hk; exact ⟨v, rfl, h.kept hk⟩
  mono := by rintro _ _ _ _ _ ⟨v, rfl, h⟩ hk; exact ⟨v, rfl, h.mono hk⟩
  inn := by rintro _ _ _ _ ⟨v, rfl, h⟩; exact ⟨v, rfl, h.inn⟩
/-- A new block of one slice. -/
theorem Ls.new1 {α : Type} {L : Lay α} {K : Nat → Obj → Prop} {w : World} {e : TypeId} {v : Value} {l : List α} (h : Ls L K w v l) (hK : K w.heap.size (.cells #[v] e (0, 0))) :
    Ls (laySl L) K (w.alloc (.cells #[v] e)) (.slice (some ⟨w.heap.size, 0, none⟩) 1 1) [l] :=
  Ls.new (L := laySl L) (css := [[v]]) (l := [l]) ⟨⟨v, rfl, h⟩, trivial⟩ (by simp) hK
/-- One element, in a block of its own: the variadic's. -/
theorem LsE.new1 {α : Type} {L : Lay α} {K : Nat → Obj → Prop} {w : World} {e : TypeId} {cs : List Value} {x : α} (h : L.is K w cs x) : LsE L K (w.alloc (.cells cs.toArray e)) (.slice (some ⟨w.heap.size, 0, none⟩) 1 1) [x] := by
  refine ⟨_, _, [cs], rfl, fun _ => ⟨_, rfl, fun j u hu => ?_⟩, L.kept h (Kp.of_old ((Old.refl w).alloc _)), trivial⟩
  rw [add_plain]
  exact (Box.new w e cs.toArray).cell (by simpa using hu)
theorem LsE.new1s {α : Type} {L : Lay α} {K : Nat → Obj → Prop} {w : World} {e : TypeId} {v : Value} {l : List α} (h : Ls L K w v l) : LsE (laySl L) K (w.alloc (.cells #[v] e)) (.slice (some ⟨w.heap.size, 0, none⟩) 1 1) [l] :=
  LsE.new1 (L := laySl L) (cs := [v]) ⟨v, rfl, h⟩
section
variable {n : Nat} {f : Nat → Value} {w : World} {d : Option Nat} {ty : TypeId} {pos : String} {aft : Array Edge} {r : Option Nat} {ops : Array Oper} {N : Act → World → Prop} {ds : List Deferred}
theorem wt_appV {base i : Nat} {rest : List Nat} {x y : Operand} {v u : Value} {l k : List UInt8} (ho : ops[i]? = some ⟨d, .call { callee := .builtin .append, args := #[x, y], argTypes := #[23, 23] }, ty, pos, aft, none⟩)
    (hx : evo n f x = v) (hown : OwnB base w v l) (hy : evo n f y = u) (hu : IsB w u k) (hlen : l.length + k.length ≤ 140737488355328) (hbase : base ≤ w.heap.size)
    (h : ∀ v' w', OwnB base w' v' (l ++ k) → w.grownBy w' v.ownBlock → (v'.ownBlock = v.ownBlock ∨ v'.ownBlock = some w.heap.size) → WT r Try.prog ops N rest (mk n (updo f d v') ds) w') :
    WT r Try.prog ops N (i :: rest) (mk n f ds) w := by
  obtain ⟨A, c, rfl, _, _, h3⟩ := hu
  obtain ⟨v', w', hex, h2, h3, h4⟩ := ex_append (d := d) (ty := ty) (pos := pos) (aft := aft) (g := none) Try.underlying23 inf5 rfl (by omega) hx hown hy (by rw [bvs_length, Nat.mul_one]) h3 (bvs_one k) (by omega) hbase
  exact wt_v ho rfl hex (h v' w' (by unfold OwnB; rw [bvs_append, List.length_append]; exact h2) h3 h4)
end
/-! ### Rows of one's own without bytes -/
def noU8v : Value → Bool
  | .int .u8 _ => false
  | _ => true
theorem noU8_iff (cs : Array Value) : noU8 cs = true ↔ ∀ u ∈ cs.toList, noU8v u = true := by
  unfold noU8
  rw [List.all_eq_true]
  exact Iff.rfl
/-- Of the value's own block no cell is a byte. -/
def Cln (w : World) (v : Value) : Prop := ∀ k, v.ownBlock = some k → ∃ cs e, Box w k e cs ∧ noU8 cs = true
theorem Cln.nil (w : World) : Cln w (.slice none 0 0) := fun k hk => by cases hk
theorem Cln.old {w w' : World} {v : Value} (h : Cln w v) (hb : Old w w') : Cln w' v := fun k hk => by
  obtain ⟨cs, e, h1, h2⟩ := h k hk
  exact ⟨cs, e, h1.old hb, h2⟩
theorem IsB.grownC {w w' : World} {v u : Value} {l : List UInt8} (h : IsB w u l) (hg : w.grownBy w' v.ownBlock) (hc : Cln w v) : IsB w' u l := by
  cases ho : v.ownBlock with
  | none => rw [ho] at hg; exact h.old ⟨hg.os, hg.tape, hg.output, hg.size, fun k hk => hg.block k hk (by simp)⟩
  | some k =>
    rw [ho] at hg
    obtain ⟨cs, e, hB, hn⟩ := hc k ho
    exact h.upd hB hn ⟨hg.os, hg.tape, hg.output, hg.size, fun j hj hne => hg.block j hj (fun e => hne (by injection e))⟩
section
variable {P : Program} {w : World}
theorem zeroCells_noU8 {z : Array Value} (hz : noU8 z = true) (n : Nat) : ∀ u ∈ (Builtin.zeroCells z n).toList, noU8v u = true := by
  intro u hu
  rw [noU8_iff] at hz
  simp only [Builtin.zeroCells] at hu
  simp at hu
  obtain ⟨j, hj, rfl⟩ := hu
  have hs : 0 < z.size := by
    rcases Nat.eq_zero_or_pos z.size with h0 | h0
    · rw [h0] at hj; simp at hj
    · exact h0
  have hlt : j % z.size < z.size := Nat.mod_lt _ hs
  have := hz z[j % z.size] (by simp)
  rw [getElem!_pos z (j % z.size) hlt]
  exact this
theorem run_append_clean (base : Nat) (t ty e : TypeId) (i : TypeInfo) (z : Value) (size bytes : Nat) (ht : P.underlying t = some (.slice e)) (hi : P.info? e = some i) (hz : i.zero = some z)
    (hsize : i.size = size) (hby : i.bytes = bytes)
    (v : Value) (n : Nat) (xs : List Value) (hown : w.ownsRow base e size v n xs)
    (a : Addr) (m c : Nat) (news : List Value) (hl : news.length = m * size) (hnews : ∀ j u, news[j]? = some u → w.cell? (a.add j) = some u) (h1 : ∀ u ∈ news, u.oneCell' = true)
    (h63 : n + m ≤ maxLen) (hbytes : (n + m) * bytes ≤ 140737488355328)
    (hc : Cln w v) (hzn : noU8 z.cells = true) (hnn : ∀ u ∈ news, noU8v u = true) {v' : Value} {w' : World} (hrun : (Builtin.append_ #[t, t] ty #[v, .slice (some a) m c]).run P w = .ok v' w') : Cln w' v' := by
  subst hsize
  subst hby
  have hsmall : n + m ≤ 9223372036854775807 := by simp only [maxLen] at h63; omega
  have hnew : ∀ (cs : Array Value), (∀ u ∈ cs.toList, noU8v u = true) → Cln (w.drew.alloc (.cells cs e)) (.slice (some ⟨w.heap.size, 0, none⟩) (n + m) 0) := by
    intro cs hcs k hk
    injection hk with hk
    subst hk
    exact ⟨cs, e, heap_alloc_new w.drew _, (noU8_iff _).2 hcs⟩
  rcases hown.2 with ⟨rfl, rfl⟩ | ⟨g, cap, cur, rfl, hbg, hg, hnc, hcm, hcs, htake⟩
  · have hx : xs = [] := List.eq_nil_of_length_eq_zero (by simpa using hown.1)
    subst hx
    by_cases hm : m = 0
    · subst hm
      have hn : news = [] := List.eq_nil_of_length_eq_zero (by simpa using hl)
      subst hn
      have : (Builtin.append_ #[t, t] ty #[.slice none 0 0, .slice (some a) 0 c]).run P w = .ok (.slice none 0 0) w := by
        simp [Builtin.append_, run_underlying ht, sizeOf, typeInfo, hi, Builtin.lenOf, Builtin.firstCells, loadCells, loadCellsFrom]
      rw [this] at hrun
      injection hrun with e1 e2
      subst e1; subst e2
      exact Cln.nil _
    · have hr := run_append_nil (P := P) w t ty e i z ht hi hz a m c news hl hnews (by omega) (by omega) (by have hb := hbytes; simp only [Nat.zero_add] at hb; omega)
      rw [hr] at hrun
      injection hrun with e1 e2
      subst e1; subst e2
      intro k hk
      refine hnew _ ?_ k hk
      intro u hu
      simp only [Array.toList_append, List.mem_append] at hu
      rcases hu with hu | hu
      · exact hnn u hu
      · exact zeroCells_noU8 hzn _ u hu
  · obtain ⟨cs0, e0, hB0, hn0⟩ := hc g rfl
    unfold Box at hB0
    rw [hg] at hB0
    injection hB0 with hB0
    injection hB0 with h2 h3
    subst h2
    rw [noU8_iff] at hn0
    by_cases hroom : n + m ≤ cap
    · have hfit : n * i.size + news.length ≤ cur.size := by rw [hl, hcs, ← Nat.add_mul]; exact Nat.mul_le_mul_right _ hroom
      have hr := run_append_room (P := P) w t ty e i ht hi g n cap cur hg a m c news hl hnews h1 hroom hfit
      rw [hr] at hrun
      injection hrun with e1 e2
      subst e1; subst e2
      intro k hk
      injection hk with hk
      subst hk
      refine ⟨_, e, setRow_heap w g cur _ e _ hg, (noU8_iff _).2 ?_⟩
      intro u hu
      simp only [List.mem_append] at hu
      rcases hu with (hu | hu) | hu
      · exact hn0 u (List.mem_of_mem_take hu)
      · exact hnn u hu
      · exact hn0 u (List.mem_of_mem_drop hu)
    · have holds : ∀ j u, xs[j]? = some u → w.cell? ((⟨g, 0, none⟩ : Addr).add j) = some u := hown.cells (g := g) rfl
      have hr := run_append_grow (P := P) w t ty e i z ht hi hz ⟨g, 0, none⟩ n cap xs hown.1 holds a m c news hl hnews (by omega) (by omega) (growslice_fits (by omega) hbytes)
      rw [hr] at hrun
      injection hrun with e1 e2
      subst e1; subst e2
      intro k hk
      refine hnew _ ?_ k hk
      intro u hu
      simp only [Array.toList_append, List.mem_append] at hu
      rcases hu with (hu | hu) | hu
      · rw [← htake] at hu; exact hn0 u (List.mem_of_mem_take hu)
      · exact hnn u hu
      · exact zeroCells_noU8 hzn _ u hu
end
section
variable {P : Program} {n : Nat} {f : Nat → Value} {w : World} {d : Option Nat} {ty : TypeId} {pos : String} {aft : Array Edge} {r : Option Nat} {ops : Array Oper} {rest : List Oper} {Q : Post} {ds : List Deferred}
variable {α : Type} {L : Lay α} {K : Nat → Obj → Prop} {v u : Value} {l k : List α} {t e : TypeId} {x y : Operand} {z : Value} {size bytes base : Nat}
/-- append, the row being without bytes. -/
theorem wl_appLC (ht : P.underlying t = some (.slice e)) (hinfo : Inf P e z size bytes) (hzs : z.cells.size = size) (hsz : 0 < size) (hn : L.n = size)
    (hx : evo n f x = v) (hown : OwnL L e K base w v l) (hcl : Cln w v) (hy : evo n f y = u) (hu : LsE L K w u k)
    (hbytes : (l.length + k.length) * bytes ≤ 140737488355328) (hb0 : 0 < bytes) (hbase : base ≤ w.heap.size) (hK : ∀ j o, v.ownBlock = some j → w.heap[j]? = some o → ¬ K j o)
    (hzn : noU8 z.cells = true) (hnn : ∀ css, Els L K w css k → ∀ u ∈ css.flatten, noU8v u = true)
    (h : ∀ v' w', OwnL L e K base w' v' (l ++ k) → Cln w' v' → w.grownBy w' v.ownBlock → (v'.ownBlock = v.ownBlock ∨ v'.ownBlock = some w.heap.size) → WL r P ops Q rest (mk n (updo f d v') ds) w') :
    WL r P ops Q (⟨d, .call { callee := .builtin .append, args := #[x, y], argTypes := #[t, t] }, ty, pos, aft, none⟩ :: rest) (mk n f ds) w := by
  obtain ⟨v', w', hex, h2, h3, h4⟩ := ex_appL (d := d) (ty := ty) (pos := pos) (aft := aft) (gd := none) ht hinfo hzs hsz hn hx hown hy hu hbytes hb0 hbase hK
  refine wl_v hex (h v' w' h2 ?_ h3 h4)
  subst hn
  obtain ⟨css, h5, h6⟩ := hown
  obtain ⟨A, c, css2, rfl, h7, h8⟩ := hu
  obtain ⟨i, hi, hz, hsize, hby⟩ := info_parts hinfo
  have h0 : l.length + k.length ≤ 140737488355328 := Nat.le_trans (Nat.le_mul_of_pos_right _ hb0) hbytes
  have hrun : (Builtin.append_ #[t, t] ty #[v, .slice A k.length c]).run P w = .ok v' w' := by
    unfold EX at hex
    simp only [execOp, resolve, invoke, builtin, Sem.run_bind, Sem.run_pure, Result.andThen_ok, List.map_toArray, List.map_cons, List.map_nil, hx, hy] at hex
    generalize (Builtin.append_ #[t, t] ty #[v, .slice A k.length c]).run P w = q at *
    cases q with
    | ok a b => simp [Result.andThen] at hex; obtain ⟨rfl, rfl⟩ := hex; rfl
    | halt a b => simp [Result.andThen] at hex
  cases A with
  | none =>
    have hk : k = [] := by
      have hf : css2.flatten = [] := by
        cases hc : css2.flatten with
        | nil => rfl
        | cons a b => rw [hc] at h7; obtain ⟨ad, e, _⟩ := h7 (by simp); cases e
      have := Els.flen h8
      rw [hf] at this
      rcases Nat.eq_zero_or_pos k.length with h0 | h0
      · exact List.eq_nil_of_length_eq_zero h0
      · have := Nat.mul_pos h0 hsz
        simp at *
        omega
    subst hk
    have hr := run_append_of_nil (P := P) w base t ty e i L.n ht hi v l.length css.flatten h5 c
    rw [List.length_nil] at hrun
    rw [hr] at hrun
    injection hrun with e1 e2
    subst e1; subst e2
    exact hcl
  | some ad =>
    exact run_append_clean (P := P) base t ty e i z L.n bytes ht hi hz hsize hby v l.length css.flatten h5 ad k.length c css2.flatten (Els.flen h8) (fun j u hu => by
      obtain ⟨ad', e, hc⟩ := h7.at_ hu
      obtain rfl := Option.some.inj e
      exact hc) (Els.one h8) (by simp only [maxLen]; omega) hbytes hcl hzn (hnn css2 h8) hrun
end
/-! ### A variable that is laid and given its value at once -/
section
variable {P : Program} {n : Nat} {f : Nat → Value} {w : World} {d2 : Option Nat} {p : Nat} {ty ty2 : TypeId} {pos pos2 : String} {aft aft2 : Array Edge} {r : Option Nat} {ops : Array Oper} {rest : List Oper} {Q : Post} {ds : List Deferred}
theorem wl_new {t : TypeId} {z : Value} {size bytes : Nat} {y : Operand} {cs : Array Value} (hi : Inf P t z size bytes) (hz : z.cells.size = size) (hp : Nat.blt p n = true) (hy : evo n (updo f (some p) (.pointer (some ⟨w.heap.size, 0, none⟩))) y = .agg cs) (h1 : cs.toList.all (·.oneCell') = true) (hs : cs.size = size)
    (h : ∀ w', Box w' w.heap.size t cs → Old w w' → WL r P ops Q rest (mk n (updo (updo f (some p) (.pointer (some ⟨w.heap.size, 0, none⟩))) d2 undef) ds) w') :
    WL r P ops Q (⟨some p, .alloc t, ty, pos, aft, none⟩ :: ⟨d2, .store t (.tmp p) y, ty2, pos2, aft2, none⟩ :: rest) (mk n f ds) w := by
  refine wl_v (ex_alloc hi) ?_
  have hB := Box.new w t z.cells
  refine wl_stL hi (g := w.heap.size) ?_ hy h1 hs hB hz fun w' hB' hU => h w' hB' (hU.old ((Old.refl w).alloc _) (Nat.le_refl _))
  simp only [evo, hp, cond_true]
  simp [updo, upd]
theorem wl_new1 {t : TypeId} {z : Value} {bytes : Nat} {y : Operand} {v : Value} (hi : Inf P t z 1 bytes) (hz : z.cells.size = 1) (hp : Nat.blt p n = true) (hy : evo n (updo f (some p) (.pointer (some ⟨w.heap.size, 0, none⟩))) y = v) (h1 : v.oneCell' = true)
    (h : ∀ w', Box w' w.heap.size t #[v] → Old w w' → WL r P ops Q rest (mk n (updo (updo f (some p) (.pointer (some ⟨w.heap.size, 0, none⟩))) d2 undef) ds) w') :
    WL r P ops Q (⟨some p, .alloc t, ty, pos, aft, none⟩ :: ⟨d2, .store t (.tmp p) y, ty2, pos2, aft2, none⟩ :: rest) (mk n f ds) w := by
  refine wl_v (ex_alloc hi) ?_
  have hB := Box.new w t z.cells
  have hx : evo n (updo f (some p) (.pointer (some ⟨w.heap.size, 0, none⟩))) (.tmp p) = .pointer (some ⟨w.heap.size, 0, none⟩) := by
    simp only [evo, hp, cond_true]
    simp [updo, upd]
  refine wl_st hi hx hy h1 hB (by omega) fun w' hB' hU => h w' ?_ (hU.old ((Old.refl w).alloc _) (Nat.le_refl _))
  have e : z.cells.setIfInBounds 0 v = #[v] := by
    generalize z.cells = a at hz
    match a, hz with
    | ⟨[x]⟩, _ => rfl
  rw [e] at hB'
  exact hB'
end
/-! ### More ends, tails, guards -/
section
variable {P : Program} {n : Nat} {f : Nat → Value} {w : World} {d : Option Nat} {ty : TypeId} {pos : String} {aft : Array Edge} {r : Option Nat} {ops : Array Oper} {N : Act → World → Prop} {ds : List Deferred}
theorem wt_st {i : Nat} {rest : List Nat} {t e : TypeId} {z : Value} {bytes g j : Nat} {x y : Operand} {v : Value} {cs : Array Value} (ho : ops[i]? = some ⟨d, .store t x y, ty, pos, aft, none⟩) (hi : Inf P t z 1 bytes) (hx : evo n f x = .pointer (some ⟨g, j, none⟩)) (hy : evo n f y = v) (hv : v.oneCell' = true) (hB : Box w g e cs) (hj : j < cs.size)
    (h : ∀ w', Box w' g e (cs.setIfInBounds j v) → Upd1 g w w' → WT r P ops N rest (mk n (updo f d undef) ds) w') : WT r P ops N (i :: rest) (mk n f ds) w :=
  wt_s ho rfl (es_store1 hi hx hy hv (hB.cell (Array.getElem?_eq_getElem hj)) (hB.frozen j)) (h _ (hB.set j v) (Upd1.setCell w g j v))
variable {fn : Func} {R : Ending → World → Prop}
theorem end1C {t g : Nat} {ty e : TypeId} {s : TypeDesc} {v : Value} (hr : fn.results = #[.cell t ty]) (hs : P.underlying ty = some s) (hf : flatB s = true) (hx : evo n f (.tmp t) = .pointer (some ⟨g, 0, none⟩)) (hB : Box w g e #[v]) (h : R (.returned v) w) : bodyPost P fn R .ret (mk n f []) w := by
  have hx' : ((mk n f []).tmps[t]?).getD undef = .pointer (some ⟨g, 0, none⟩) := by simp only [mk]; rw [getD_mk']; exact hx
  have hl := run_load1 hs hf (hB.cell (j := 0) rfl)
  refine ⟨rfl, v, ?_, h⟩
  simp [results, hr, hx', asAddr, hl, Result.andThen]
end
section
variable {r : Option Nat} {P : Program} {Q : Post} {w : World} {n : Nat} {f : Nat → Value} {ds : List Deferred} {ops : Array Oper} {rest : List Oper} {d : Option Nat} {ty : TypeId} {pos : String} {aft : Array Edge}
/-- a && b, b making memory. -/
theorem wl_andM {m y : Nat} {c q : Bool} (j k : Nat) (ts : List Nat) (M : World → Prop) {l : List Oper} (hk : l.drop k = ⟨d, .pick (.tmp m) (.tmp y) (.const (.bool false)), ty, pos, aft, none⟩ :: rest)
    (hj : (ops[j]?).bind (·.dst) = some m) (hm : evo n f (.tmp m) = .bool c) (hg : (okG j true ts (l.take k) && !isIn ts m) = true) (h0 : M w)
    (hy : c = true → WL r P ops (Amp n f ds w ts y q M) (l.take k) (mk n f ds) w)
    (kk : ∀ h w', M w' → WL r P ops Q rest (mk n (updo (blur f h ts) d (.bool (c && q))) ds) w') : WL r P ops Q l (mk n f ds) w := by
  simp only [Bool.and_eq_true, Bool.not_eq_true'] at hg
  have key : ∀ F w', M w' → agree F f ts → (c = true → evo n F (.tmp y) = .bool q) → WL r P ops Q (l.drop k) (mk n F ds) w' := by
    intro F w' hM hF hq
    have hm' : evo n F (.tmp m) = .bool c := by rw [← hm]; simp only [evo]; rw [hF m hg.2]
    rw [hk]
    refine wl_v (v := .bool (c && q)) (w' := w') ?_ (by rw [agree_blur hF]; exact kk F w' hM)
    cases c with
    | true => simp [EX, execOp, hm', asBool, Result.andThen, hq rfl]
    | false => simp [EX, execOp, hm', asBool, Result.andThen, evo_const]
  refine wl_split k ?_
  cases hc : c with
  | true =>
    refine wl_mono (hy hc) ?_
    rintro e a w' ⟨rfl, F, rfl, hF, hq, hM⟩
    exact key F w' hM hF fun _ => hq
  | false =>
    refine wl_passed hj hg.2 hm (by rw [hc]; rfl) _ _ hg.1 agree_refl fun F hF => ?_
    exact key F w h0 hF fun h => by rw [hc] at h; cases h
theorem wl_orM {m y : Nat} {c q : Bool} (j k : Nat) (ts : List Nat) (M : World → Prop) {l : List Oper} (hk : l.drop k = ⟨d, .pick (.tmp m) (.const (.bool true)) (.tmp y), ty, pos, aft, none⟩ :: rest)
    (hj : (ops[j]?).bind (·.dst) = some m) (hm : evo n f (.tmp m) = .bool c) (hg : (okG j false ts (l.take k) && !isIn ts m) = true) (h0 : M w)
    (hy : c = false → WL r P ops (Amp n f ds w ts y q M) (l.take k) (mk n f ds) w)
    (kk : ∀ h w', M w' → WL r P ops Q rest (mk n (updo (blur f h ts) d (.bool (c || q))) ds) w') : WL r P ops Q l (mk n f ds) w := by
  simp only [Bool.and_eq_true, Bool.not_eq_true'] at hg
  have key : ∀ F w', M w' → agree F f ts → (c = false → evo n F (.tmp y) = .bool q) → WL r P ops Q (l.drop k) (mk n F ds) w' := by
    intro F w' hM hF hq
    have hm' : evo n F (.tmp m) = .bool c := by rw [← hm]; simp only [evo]; rw [hF m hg.2]
    rw [hk]
    refine wl_v (v := .bool (c || q)) (w' := w') ?_ (by rw [agree_blur hF]; exact kk F w' hM)
    cases c with
    | false => simp [EX, execOp, hm', asBool, Result.andThen, hq rfl]
    | true => simp [EX, execOp, hm', asBool, Result.andThen, evo_const]
  refine wl_split k ?_
  cases hc : c with
  | false =>
    refine wl_mono (hy hc) ?_
    rintro e a w' ⟨rfl, F, rfl, hF, hq, hM⟩
    exact key F w' hM hF fun _ => hq
  | true =>
    refine wl_passed hj hg.2 hm (by rw [hc]; rfl) _ _ hg.1 agree_refl fun F hF => ?_
    exact key F w h0 hF fun h => by rw [hc] at h; cases h
end
/-! ### Structs compared -/
section
variable {P : Program} {d : Nat} {xs ys : Array Value} {f : Field} {fs : List Field} {a b : Value} {r s : Bool} {w : World}
theorem eqf_cons (hn : (f.name == "_") = false) (ha : (part f.type xs f.offset).run P w = .ok a w) (hb : (part f.type ys f.offset).run P w = .ok b w) (he : (Op.equalIn d f.type a b).run P w = .ok r w) (hr : (Op.eqFields d xs ys fs).run P w = .ok s w) : (Op.eqFields d xs ys (f :: fs)).run P w = .ok (r && s) w := by
  have hn' : f.name ≠ "_" := by simpa using hn
  rw [Op.eqFields]
  simp only [if_pos hn', Sem.run_bind, ha, hb, he, Result.andThen_ok]
  cases r
  · simp
  · simpa using hr
theorem eqf_nil : (Op.eqFields d xs ys []).run P w = .ok true w := by simp [Op.eqFields]
theorem run_eqInt {t : TypeId} {k : IntKind} {a b : Int} (ht : P.underlying t = some (.int k)) : (Op.equalIn (d + 1) t (.int k a) (.int k b)).run P w = .ok (decide (a = b)) w := by
  unfold Op.equalIn
  simp only [Sem.run_bind, run_underlying ht, Result.andThen_ok]
  have : (a == b) = decide (a = b) := by by_cases h : a = b <;> simp [h]
  simp [this]
/-- A field that is an integer. -/
theorem eqf_int {k : IntKind} {x y : Int} (hn : (f.name == "_") = false) (ht : P.underlying f.type = some (.int k)) (ha : xs[f.offset]? = some (.int k x)) (hb : ys[f.offset]? = some (.int k y)) (hr : (Op.eqFields (d + 1) xs ys fs).run P w = .ok s w) : (Op.eqFields (d + 1) xs ys (f :: fs)).run P w = .ok (decide (x = y) && s) w :=
  eqf_cons hn (run_part1 ht rfl ha) (run_part1 ht rfl hb) (run_eqInt ht) hr
theorem run_eqS {t : TypeId} {fs : Array Field} (hu : P.underlying t = some (.struct fs)) (hp : P.stoodInHeld t = false) (h : (Op.eqFields 9999 xs ys fs.toList).run P w = .ok r w) : (Op.equal t (.agg xs) (.agg ys)).run P w = .ok r w := by
  have hf : P.fieldsOf t = fs := by simp [Program.fieldsOf, hu]
  show (Op.equalIn (9999 + 1) t (.agg xs) (.agg ys)).run P w = _
  rw [run_equalIn_struct (P := P) w 9999 t xs ys (by rw [hf]; exact hu) hp, hf]
  exact h
end
section
variable {P : Program} {n : Nat} {f : Nat → Value} {w : World} {d : Option Nat} {ty : TypeId} {pos : String} {aft : Array Edge} {gd : Option (Nat × Bool)} {t t2 : TypeId} {x y : Operand} {xs ys : Array Value} {r : Bool}
theorem ex_eqlS (hm : P.eqGuardType P.depth t = false) (hx : evo n f x = .agg xs) (hy : evo n f y = .agg ys) (h : (Op.equal t (.agg xs) (.agg ys)).run P w = .ok r w) : EX P ⟨d, .binOp .eql t x y t2, ty, pos, aft, gd⟩ n f w (.bool r) w := by
  simp only [EX, execOp, hx, hy, Sem.run_bind, run_eqGuard_agg (hm := hm), binOp, Result.andThen_ok, h]
  rfl
theorem ex_neqS (hm : P.eqGuardType P.depth t = false) (hx : evo n f x = .agg xs) (hy : evo n f y = .agg ys) (h : (Op.equal t (.agg xs) (.agg ys)).run P w = .ok r w) : EX P ⟨d, .binOp .neq t x y t2, ty, pos, aft, gd⟩ n f w (.bool (!r)) w := by
  simp only [EX, execOp, hx, hy, Sem.run_bind, run_eqGuard_agg (hm := hm), binOp, Result.andThen_ok, h]
  rfl
end
/-! ### Loops that count -/
/-- How a round's body may be left. -/
def BodyQ (n : Nat) (ds : List Deferred) (b2 b : Nat) (Q : Post) (M : (Nat → Value) → World → Prop) : Post :=
  Exit.inBlock b2 (Exit.then (fun a' w' => ∃ f', a' = mk n f' ds ∧ M f' w') (Exit.inBlock b Q))
/-- A region that only turns the frame. -/
def RegQ (n : Nat) (ds : List Deferred) (M : (Nat → Value) → World → Prop) : Post := fun e a w => e = .normal ∧ ∃ f', a = mk n f' ds ∧ M f' w
theorem reg_end {n : Nat} {ds : List Deferred} {M : (Nat → Value) → World → Prop} {f : Nat → Value} {w : World} (h : M f w) : RegQ n ds M .normal (mk n f ds) w := ⟨rfl, f, rfl, h⟩
theorem body_end {n : Nat} {ds : List Deferred} {b2 b : Nat} {Q : Post} {M : (Nat → Value) → World → Prop} {f : Nat → Value} {w : World} (h : M f w) : BodyQ n ds b2 b Q M .normal (mk n f ds) w := ⟨f, rfl, h⟩
theorem body_cont {n : Nat} {ds : List Deferred} {b2 b : Nat} {Q : Post} {M : (Nat → Value) → World → Prop} {f : Nat → Value} {w : World} (h : M f w) : BodyQ n ds b2 b Q M (.exit b2) (mk n f ds) w := exit_hit (Q := Exit.then (fun a' w' => ∃ f', a' = mk n f' ds ∧ M f' w') (Exit.inBlock b Q)) ⟨f, rfl, h⟩
theorem body_break {n : Nat} {ds : List Deferred} {b2 b : Nat} {Q : Post} {M : (Nat → Value) → World → Prop} {a : Act} {w : World} (hne : Nat.beq b b2 = false) (h : Q .normal a w) : BodyQ n ds b2 b Q M (.exit b) a w := exit_miss hne (exit_then (exit_hit h))
theorem body_ret {n : Nat} {ds : List Deferred} {b2 b : Nat} {Q : Post} {M : (Nat → Value) → World → Prop} {a : Act} {w : World} (h : Q .ret a w) : BodyQ n ds b2 b Q M .ret a w := h
section
variable {r : Option Nat} {P : Program} {Q : Post} {w : World} {n : Nat} {f : Nat → Value} {ds : List Deferred}
theorem w_forC {b b2 tc : Nat} {test inc body : Code} (i N : Nat) (c : Nat → Int) (I : Nat → (Nat → Value) → World → Prop) (hi : f i = .int .i64 (c 0)) (h0 : I 0 f w)
    (htest : ∀ j f w, j ≤ N → f i = .int .i64 (c j) → I j f w → W r P test (RegQ n ds fun f' w' => (∃ q, evo n f' (.tmp tc) = .bool q ∧ (q = true ↔ j < N)) ∧ f' i = .int .i64 (c j) ∧ I j f' w') (mk n f ds) w)
    (hinc : ∀ j f w, j < N → f i = .int .i64 (c j) → I (j + 1) f w → W r P inc (RegQ n ds fun f' w' => f' i = .int .i64 (c (j + 1)) ∧ I (j + 1) f' w') (mk n f ds) w)
    (hbody : ∀ j f w, j < N → f i = .int .i64 (c j) → I j f w → W r P body (BodyQ n ds b2 b Q fun f' w' => f' i = .int .i64 (c j) ∧ I (j + 1) f' w') (mk n f ds) w)
    (hdone : ∀ f w, f i = .int .i64 (c N) → I N f w → Q .normal (mk n f ds) w) :
    W r P (.block b (.loop (.seq (.seq test (.cond (.tmp tc) .skip (.exit b))) (.seq (.block b2 body) inc)))) Q (mk n f ds) w := by
  refine w_block ?_
  refine w_loop (fun k f w => ∃ j : Nat, k = N - j ∧ j ≤ N ∧ f i = .int .i64 (c j) ∧ I j f w) N ⟨0, rfl, Nat.zero_le _, hi, h0⟩ ?_
  rintro k f w ⟨j, rfl, hj, hij, hI⟩
  refine w_seq (w_seq (w_mono (htest j f w hj hij hI) ?_))
  rintro e a w1 ⟨rfl, f1, rfl, ⟨q, hq, hqN⟩, hi1, hI1⟩
  refine then_k ?_
  refine w_if hq (fun hqt => w_skip (then_k ?_)) (fun hqf => w_exit (exit_then (exit_then (exit_hit ?_))))
  · have hlt : j < N := hqN.1 hqt
    refine w_seq (w_block (w_mono (hbody j f1 w1 hlt hi1 hI1) ?_))
    intro e a2 w2 h2
    have step : (∃ f', a2 = mk n f' ds ∧ f' i = .int .i64 (c j) ∧ I (j + 1) f' w2) → W r P inc (Exit.then (fun a' w' => ∃ k' f', k' < N - j ∧ a' = mk n f' ds ∧ ∃ j : Nat, k' = N - j ∧ j ≤ N ∧ f' i = .int .i64 (c j) ∧ I j f' w') (Exit.inBlock b Q)) a2 w2 := by
      rintro ⟨f2, rfl, hi2, hI2⟩
      refine w_mono (hinc j f2 w2 hlt hi2 hI2) ?_
      rintro e a w3 ⟨rfl, f3, rfl, hi3, hI3⟩
      exact ⟨N - (j + 1), f3, by omega, rfl, j + 1, rfl, hlt, hi3, hI3⟩
    cases e with
    | normal => exact step h2
    | exit id =>
      simp only [BodyQ, Exit.inBlock] at h2 ⊢
      by_cases hb : id = b2
      · rw [if_pos hb] at h2 ⊢; exact step h2
      · rw [if_neg hb] at h2 ⊢; exact h2
    | goto l => exact h2
    | ret => exact h2
    | panic ch => exact h2
    | outgrown => exact h2
  · have : j = N := by
      have : ¬ j < N := fun h => by rw [hqN.2 h] at hqf; cases hqf
      omega
    subst this
    exact hdone f1 w1 hi1 hI1
theorem w_forRC {b b2 tc : Nat} {test inc body : Code} (i N : Nat) (c : Nat → Int) (I : Nat → (Nat → Value) → World → Prop) (hi : f i = .int .i64 (c 0)) (h0 : I 0 f w)
    (htest : ∀ j f w, j ≤ N → f i = .int .i64 (c j) → I j f w → W r P test (RegQ n ds fun f' w' => (∃ q, evo n f' (.tmp tc) = .bool q ∧ (q = true ↔ j < N)) ∧ f' i = .int .i64 (c j) ∧ I j f' w') (mk n f ds) w)
    (hinc : ∀ j f w, j < N → f i = .int .i64 (c j) → I (j + 1) f w → W r P inc (RegQ n ds fun f' w' => f' i = .int .i64 (c (j + 1)) ∧ I (j + 1) f' w') (mk n f ds) w)
    (hbody : ∀ j f w, j < N → f i = .int .i64 (c j) → I j f w → W r P body (BodyQ n ds b2 b Q fun f' w' => f' i = .int .i64 (c j) ∧ I (j + 1) f' w') (mk n f ds) w)
    (hdone : ∀ f w, f i = .int .i64 (c N) → I N f w → Q .normal (mk n f ds) w) :
    W r P (.block b (.loop (.seq test (.seq (.cond (.tmp tc) .skip (.exit b)) (.seq (.block b2 body) inc))))) Q (mk n f ds) w := by
  refine w_block ?_
  refine w_loop (fun k f w => ∃ j : Nat, k = N - j ∧ j ≤ N ∧ f i = .int .i64 (c j) ∧ I j f w) N ⟨0, rfl, Nat.zero_le _, hi, h0⟩ ?_
  rintro k f w ⟨j, rfl, hj, hij, hI⟩
  refine w_seq (w_mono (htest j f w hj hij hI) ?_)
  rintro e a w1 ⟨rfl, f1, rfl, ⟨q, hq, hqN⟩, hi1, hI1⟩
  refine then_k ?_
  refine w_seq (w_if hq (fun hqt => w_skip (then_k ?_)) (fun hqf => w_exit (exit_then (exit_then (exit_hit ?_)))))
  · have hlt : j < N := hqN.1 hqt
    refine w_seq (w_block (w_mono (hbody j f1 w1 hlt hi1 hI1) ?_))
    intro e a2 w2 h2
    have step : (∃ f', a2 = mk n f' ds ∧ f' i = .int .i64 (c j) ∧ I (j + 1) f' w2) → W r P inc (Exit.then (fun a' w' => ∃ k' f', k' < N - j ∧ a' = mk n f' ds ∧ ∃ j : Nat, k' = N - j ∧ j ≤ N ∧ f' i = .int .i64 (c j) ∧ I j f' w') (Exit.inBlock b Q)) a2 w2 := by
      rintro ⟨f2, rfl, hi2, hI2⟩
      refine w_mono (hinc j f2 w2 hlt hi2 hI2) ?_
      rintro e a w3 ⟨rfl, f3, rfl, hi3, hI3⟩
      exact ⟨N - (j + 1), f3, by omega, rfl, j + 1, rfl, hlt, hi3, hI3⟩
    cases e with
    | normal => exact step h2
    | exit id =>
      simp only [BodyQ, Exit.inBlock] at h2 ⊢
      by_cases hb : id = b2
      · rw [if_pos hb] at h2 ⊢; exact step h2
      · rw [if_neg hb] at h2 ⊢; exact h2
    | goto l => exact h2
    | ret => exact h2
    | panic ch => exact h2
    | outgrown => exact h2
  · have : j = N := by
      have : ¬ j < N := fun h => by rw [hqN.2 h] at hqf; cases hqf
      omega
    subst this
    exact hdone f1 w1 hi1 hI1
theorem w_for {b b2 tc : Nat} {test inc body : Code} (i N : Nat) (I : Nat → (Nat → Value) → World → Prop) (hi : f i = .int .i64 0) (h0 : I 0 f w)
    (htest : ∀ j f w, j ≤ N → f i = .int .i64 (j : Int) → I j f w → W r P test (RegQ n ds fun f' w' => evo n f' (.tmp tc) = .bool (decide ((j : Int) < (N : Int))) ∧ f' i = .int .i64 (j : Int) ∧ I j f' w') (mk n f ds) w)
    (hinc : ∀ j f w, j < N → f i = .int .i64 (j : Int) → I (j + 1) f w → W r P inc (RegQ n ds fun f' w' => f' i = .int .i64 ((j + 1 : Nat) : Int) ∧ I (j + 1) f' w') (mk n f ds) w)
    (hbody : ∀ j f w, j < N → f i = .int .i64 (j : Int) → I j f w → W r P body (BodyQ n ds b2 b Q fun f' w' => f' i = .int .i64 (j : Int) ∧ I (j + 1) f' w') (mk n f ds) w)
    (hdone : ∀ f w, f i = .int .i64 (N : Int) → I N f w → Q .normal (mk n f ds) w) :
    W r P (.block b (.loop (.seq (.seq test (.cond (.tmp tc) .skip (.exit b))) (.seq (.block b2 body) inc)))) Q (mk n f ds) w :=
  w_forC i N (fun j => (j : Int)) I hi h0 (fun j f w hj hi hI => w_mono (htest j f w hj hi hI) fun e a w' h => by
    obtain ⟨rfl, f', rfl, h1, h2, h3⟩ := h
    exact ⟨rfl, f', rfl, ⟨_, h1, by simp⟩, h2, h3⟩) hinc hbody hdone
theorem w_forR {b b2 tc : Nat} {test inc body : Code} (i N : Nat) (I : Nat → (Nat → Value) → World → Prop) (hi : f i = .int .i64 0) (h0 : I 0 f w)
    (htest : ∀ j f w, j ≤ N → f i = .int .i64 (j : Int) → I j f w → W r P test (RegQ n ds fun f' w' => evo n f' (.tmp tc) = .bool (decide ((j : Int) < (N : Int))) ∧ f' i = .int .i64 (j : Int) ∧ I j f' w') (mk n f ds) w)
    (hinc : ∀ j f w, j < N → f i = .int .i64 (j : Int) → I (j + 1) f w → W r P inc (RegQ n ds fun f' w' => f' i = .int .i64 ((j + 1 : Nat) : Int) ∧ I (j + 1) f' w') (mk n f ds) w)
    (hbody : ∀ j f w, j < N → f i = .int .i64 (j : Int) → I j f w → W r P body (BodyQ n ds b2 b Q fun f' w' => f' i = .int .i64 (j : Int) ∧ I (j + 1) f' w') (mk n f ds) w)
    (hdone : ∀ f w, f i = .int .i64 (N : Int) → I N f w → Q .normal (mk n f ds) w) :
    W r P (.block b (.loop (.seq test (.seq (.cond (.tmp tc) .skip (.exit b)) (.seq (.block b2 body) inc))))) Q (mk n f ds) w :=
  w_forRC i N (fun j => (j : Int)) I hi h0 (fun j f w hj hi hI => w_mono (htest j f w hj hi hI) fun e a w' h => by
    obtain ⟨rfl, f', rfl, h1, h2, h3⟩ := h
    exact ⟨rfl, f', rfl, ⟨_, h1, by simp⟩, h2, h3⟩) hinc hbody hdone
end
end Go.Proofs.Ytcceeigkgklkoaa
