/- A range over a function of the program's own, in our engine's words: the round may know what memory says of the values it is handed; what rounds and iterator keep of one another's memory is said by predicates on blocks. -/
import Derived.Test.YtcceeigkgklkoaaOp2
set_option linter.unusedSimpArgs false
set_option linter.unusedVariables false
namespace Go.Proofs.Ytcceeigkgklkoaa
open Go.RowKit

/-- Bookkeeping of loops over functions. -/
def isBook : Obj → Bool
  | .loop _ => true
  | .deferred _ => true
  | _ => false
/-- What K speaks of lies in B as it lay in A. -/
structure Kp (K : Nat → Obj → Prop) (A B : World) : Prop where
  os : B.os = A.os
  tape : B.tape = A.tape
  output : B.output = A.output
  size : A.heap.size ≤ B.heap.size
  block : ∀ k o, A.heap[k]? = some o → K k o → B.heap[k]? = some o
theorem lt_of_heap {w : World} {k : Nat} {o : Obj} (h : w.heap[k]? = some o) : k < w.heap.size := (Array.getElem?_eq_some_iff.1 h).1
theorem Kp.refl (K : Nat → Obj → Prop) (A : World) : Kp K A A := ⟨rfl, rfl, rfl, Nat.le_refl _, fun _ _ h _ => h⟩
theorem Kp.trans {K : Nat → Obj → Prop} {A B C : World} (h : Kp K A B) (k : Kp K B C) : Kp K A C :=
  ⟨k.os.trans h.os, k.tape.trans h.tape, k.output.trans h.output, Nat.le_trans h.size k.size, fun i o ho hc => k.block i o (h.block i o ho hc) hc⟩
theorem Kp.mono {K K' : Nat → Obj → Prop} {A B : World} (h : Kp K A B) (hk : ∀ k o, K' k o → K k o) : Kp K' A B :=
  ⟨h.os, h.tape, h.output, h.size, fun i o ho hc => h.block i o ho (hk i o hc)⟩
theorem Kp.of_old {K : Nat → Obj → Prop} {A B : World} (h : Old A B) : Kp K A B := ⟨h.os, h.tape, h.output, h.size, fun k o ho _ => (h.block k (lt_of_heap ho)).trans ho⟩
theorem Kp.of_below {K : Nat → Obj → Prop} {A B : World} {n : Nat} (h : Below n A B) (hK : ∀ k o, K k o → k < n) : Kp K A B := ⟨h.os, h.tape, h.output, h.size, fun k o ho hk => (h.block k (hK k o hk)).trans ho⟩
theorem Kp.of_upd {K : Nat → Obj → Prop} {A B : World} {g : Nat} (h : Upd1 g A B) (hK : ∀ o, A.heap[g]? = some o → ¬ K g o) : Kp K A B := ⟨h.os, h.tape, h.output, h.size, fun k o ho hk => (h.block k (lt_of_heap ho) (by rintro rfl; exact hK o ho hk)).trans ho⟩
theorem Kp.of_grown {K : Nat → Obj → Prop} {A B : World} {row : Option Nat} (h : A.grownBy B row) (hK : ∀ k o, row = some k → A.heap[k]? = some o → ¬ K k o) : Kp K A B := ⟨h.os, h.tape, h.output, h.size, fun k o ho hk => (h.block k (lt_of_heap ho) (fun e => hK k o e.symm ho hk)).trans ho⟩
theorem Kp.below {K : Nat → Obj → Prop} {A B : World} {n : Nat} (h : Kp K A B) (hK : ∀ k o, k < n → A.heap[k]? = some o → K k o) (hn : n ≤ A.heap.size) : Below n A B :=
  ⟨h.os, h.tape, h.output, h.size, fun k hk => by
    cases ho : A.heap[k]? with
    | some o => exact h.block k o ho (hK k o hk ho)
    | none => simp only [Array.getElem?_eq_none_iff] at ho; omega⟩
theorem Kp.old {A B : World} (h : Kp (fun _ _ => True) A B) : Old A B := h.below (fun _ _ _ _ => trivial) (Nat.le_refl _)
theorem Kp.put {K : Nat → Obj → Prop} {w : World} {l : Nat} {o' : Obj} (hK : ∀ o, w.heap[l]? = some o → K l o → o = o') : Kp K w (w.putObj l o') :=
  ⟨rfl, rfl, rfl, by simp [World.putObj], fun k o ho hk => by
    by_cases e : k = l
    · subst e; rw [hK o ho hk]; exact World.putObj_heap_same (lt_of_heap ho)
    · exact (World.putObj_heap_other e).trans ho⟩
/-- All but bookkeeping. -/
abbrev Kc := Kp fun _ o => isBook o = false
theorem Kc.of_old {A B : World} (h : Old A B) : Kc A B := Kp.of_old h
theorem Kc.put {w : World} {l : Nat} {o o' : Obj} (ho : w.heap[l]? = some o) (hb : isBook o = true) : Kc w (w.putObj l o') := Kp.put fun o1 h1 hk => by rw [ho] at h1; injection h1 with h1; subst h1; rw [hb] at hk; cases hk
section
variable {A B : World}
theorem Kp.box {K : Nat → Obj → Prop} {g : Nat} {e : TypeId} {cs : Array Value} (h : Kp K A B) (hb : Box A g e cs) (hK : K g (.cells cs e (0, 0))) : Box B g e cs := h.block g _ hb hK
theorem Kc.box {g : Nat} {e : TypeId} {cs : Array Value} (h : Kc A B) (hb : Box A g e cs) : Box B g e cs := Kp.box h hb rfl
theorem Kp.cell {K : Nat → Obj → Prop} {ad : Addr} {v : Value} (h : Kp K A B) (hc : A.cell? ad = some v) (hK : ∀ cs e fr, A.heap[ad.block]? = some (.cells cs e fr) → K ad.block (.cells cs e fr)) : B.cell? ad = some v := by
  unfold World.cell? at hc ⊢
  cases ho : A.heap[ad.block]? with
  | none => rw [ho] at hc; cases hc
  | some o =>
    rw [ho] at hc
    cases o <;> first | (rw [h.block _ _ ho (hK _ _ _ ho)]; exact hc) | (cases hc; done)
theorem Kc.cell {ad : Addr} {v : Value} (h : Kc A B) (hc : A.cell? ad = some v) : B.cell? ad = some v := Kp.cell h hc fun _ _ _ _ => rfl
theorem Kc.rds {a : Option Addr} {xs : List Value} (h : Kc A B) (hr : Rds A a xs) : Rds B a xs := fun hn => by
  obtain ⟨ad, e, hc⟩ := hr hn
  exact ⟨ad, e, fun j u hu => h.cell (hc j u hu)⟩
theorem Kc.isB {v : Value} {l : List UInt8} (h : Kc A B) (hv : IsB A v l) : IsB B v l := by
  obtain ⟨a, c, e, h1, h2, h3⟩ := hv
  exact ⟨a, c, e, h1, h2, h.rds h3⟩
theorem Kc.owns {base size m : Nat} {e : TypeId} {v : Value} {xs : List Value} (h : Kc A B) (ho : A.ownsRow base e size v m xs) : B.ownsRow base e size v m xs := by
  refine ⟨ho.1, ?_⟩
  rcases ho.2 with h0 | ⟨g, cap, cur, hv, hb, hg, hrest⟩
  · exact .inl h0
  · exact .inr ⟨g, cap, cur, hv, hb, h.block g _ hg rfl, hrest⟩
theorem Kc.ownB {base : Nat} {v : Value} {l : List UInt8} (h : Kc A B) (ho : OwnB base A v l) : OwnB base B v l := Kc.owns h ho
end
theorem below_put {w : World} {b l : Nat} {o' : Obj} (hb : b ≤ l) : Below b w (w.putObj l o') :=
  ⟨rfl, rfl, rfl, by simp [World.putObj], fun k hk => World.putObj_heap_other (by omega)⟩
theorem Old.put {w0 w : World} {l : Nat} {o' : Obj} (h : Old w0 w) (hb : w0.heap.size ≤ l) : Old w0 (w.putObj l o') := Below.trans h (below_put hb)
theorem owns_old {w w' : World} {base size m : Nat} {e : TypeId} {v : Value} {xs : List Value} (h : w.ownsRow base e size v m xs) (hb : Old w w') : w'.ownsRow base e size v m xs :=
  World.ownsRow.kept (row := none) h ⟨hb.os, hb.tape, hb.output, hb.size, fun i hi _ => hb.block i hi⟩ (by cases v.ownBlock <;> simp)

/-- The frame with a round's arguments in its parameters. -/
def setps (f : Nat → Value) : List (Nat × Value) → Nat → Value
  | [] => f
  | (p, v) :: l => setps (upd f p v) l
theorem mk_set (n : Nat) (f : Nat → Value) (p : Nat) (v : Value) : (Array.ofFn (n := n) fun i => f i.val).setIfInBounds p v = Array.ofFn (n := n) fun i => upd f p v i.val := by
  have := put_mk n f [] (some p) v
  simp only [Act.put, mk, updo, Act.mk.injEq, and_true] at this
  exact this
theorem foldl_set (n : Nat) : ∀ (l : List (Nat × Value)) (f : Nat → Value), l.foldl (fun t (p, v) => t.setIfInBounds p v) (Array.ofFn (n := n) fun i => f i.val) = Array.ofFn (n := n) fun i => setps f l i.val
  | [], f => rfl
  | (p, v) :: l, f => by
    simp only [List.foldl_cons, mk_set, setps]
    exact foldl_set n l (upd f p v)

/-- How a round may be left. -/
def RoundQ (K : Nat → Obj → Prop) (I : Nat → World → Prop) (Ix : Code → World → Prop) (k : Nat) (W1 : World) : Post
  | .normal, _, W' => Kp K W1 W' ∧ I (k + 1) W'
  | .ret, _, W' => Kp K W1 W' ∧ Ix .ret W'
  | .exit id, _, W' => Kp K W1 W' ∧ Ix (.exit id) W'
  | .goto t, _, W' => Kp K W1 W' ∧ Ix (.goto t) W'
  | .panic _, _, _ => False
  | .outgrown, _, _ => False
/-- What an iterator promises: N values come, the k-th as X says, unless a round says no. Rounds keep K, the iterator keeps K'. -/
def Iter (P : Program) (gf : FuncId) (lb : List Value) (X : Nat → List Value → World → Prop) (N : Nat) (K K' : Nat → Obj → Prop) (w : World) : Prop :=
  ∀ (l : Nat) (J : Nat → World → Prop) (Jx : World → Prop) (W : World), Old w W → (∀ k A B, J k A → Kp K' A B → J k B) → (∀ A B, Jx A → Kp K' A B → Jx B) →
    (∀ k vs W1, k < N → J k W1 → X k vs W1 → YieldAt (FW none) 0 P l vs.toArray W1 fun e W' => (e = .returned (.bool true) ∧ J (k + 1) W' ∧ Kp K W1 W') ∨ (e = .returned (.bool false) ∧ Jx W')) →
    J 0 W → Calls P gf (.func (.yield l) #[] #[] :: lb).toArray W fun e W' => (∃ v, e = .returned v) ∧ (J N W' ∨ Jx W')
/-- What stands all steps that keep K' and, from b on, turn bookkeeping. -/
def Stb (K' : Nat → Obj → Prop) (b : Nat) (I : World → Prop) : Prop := ∀ A B, I A → Kp (fun k o => K' k o ∧ (isBook o = true → k < b)) A B → I B
section
variable {K' : Nat → Obj → Prop} {b : Nat}
theorem Stb.and {I J : World → Prop} (hI : Stb K' b I) (hJ : Stb K' b J) : Stb K' b fun W => I W ∧ J W := fun A B h k => ⟨hI A B h.1 k, hJ A B h.2 k⟩
theorem Stb.ex {α : Type} {I : α → World → Prop} (hI : ∀ a, Stb K' b (I a)) : Stb K' b fun W => ∃ a, I a W := fun A B h k => by obtain ⟨a, h⟩ := h; exact ⟨a, hI a A B h k⟩
theorem Stb.or {I J : World → Prop} (hI : Stb K' b I) (hJ : Stb K' b J) : Stb K' b fun W => I W ∨ J W := fun A B h k => h.elim (fun h => .inl (hI A B h k)) (fun h => .inr (hJ A B h k))
theorem Stb.pure (p : Prop) : Stb K' b fun _ => p := fun _ _ h _ => h
/-- Where the iterator keeps all that was: what speaks of cells and maps stands. -/
theorem Stb.kc {I : World → Prop} (hK : ∀ k o, K' k o) (h : ∀ A B, I A → Kc A B → I B) : Stb K' b I := fun A B hA k => h A B hA (k.mono fun k o ho => ⟨hK k o, fun h => by rw [ho] at h; cases h⟩)
theorem Stb.box (hK : ∀ k o, K' k o) (g : Nat) (e : TypeId) (cs : Array Value) : Stb K' b fun W => Box W g e cs := Stb.kc hK fun _ _ h k => Kc.box k h
theorem Stb.isB (hK : ∀ k o, K' k o) (v : Value) (l : List UInt8) : Stb K' b fun W => IsB W v l := Stb.kc hK fun _ _ h k => Kc.isB k h
theorem Stb.old (hK : ∀ k o, K' k o) (w0 : World) (hb : w0.heap.size ≤ b) : Stb K' b fun W => Old w0 W := fun A B h k =>
  Below.trans h (k.below (fun i o hi _ => ⟨hK i o, fun _ => by omega⟩) h.size)
end
theorem w_range {P : Program} {n : Nat} {f : Nat → Value} {g : Operand} {ps : List Nat} {assign body : Code} {Q : Post} {w : World} {gf : FuncId} {lb : List Value} (hg : evo n f g = .func (.func gf) #[] lb.toArray) (eg : Enters P gf)
    {X : Nat → List Value → World → Prop} {N : Nat} {K K' : Nat → Obj → Prop} (hit : Iter P gf lb X N K K' w) (hX : ∀ k vs W, X k vs W → vs.length = ps.length)
    (hbK : ∀ k o, isBook o = true → K k o) (hbK' : ∀ k o, isBook o = true → K' k o)
    (I : Nat → World → Prop) (hI : ∀ k, Stb K' w.heap.size (I k)) (Ix : Code → World → Prop) (hIx : ∀ c, Stb K' w.heap.size (Ix c)) (h0 : I 0 w)
    (Ax : Nat → (Nat → Value) → World → Prop) (hA : ∀ k f', Stb K' w.heap.size (Ax k f'))
    (hassign : ∀ l k vs W1, k < N → I k W1 → X k vs W1 → W (some l) P assign (Exit.then (fun a' W' => ∃ f', a' = mk n f' [] ∧ Ax k f' W' ∧ I k W' ∧ Kp K W1 W') (fun _ _ _ => False)) (mk n (setps f (ps.zip vs)) []) W1)
    (hbody : ∀ l k f' W1, k < N → I k W1 → Ax k f' W1 → W (some l) P body (RoundQ K I Ix k W1) (mk n f' []) W1)
    (hdone : ∀ D W', w.heap.size ≤ D → I N W' → W'.heap[D]? = some (.deferred (some [])) → Q .normal (mk n f [{ target := .collected D, args := #[] }]) W')
    (hstop : ∀ D c W', w.heap.size ≤ D → Ix c W' → W'.heap[D]? = some (.deferred (some [])) → W none P c Q (mk n f [{ target := .collected D, args := #[] }]) W') :
    W none P (.rangeFunc g ps.toArray assign body) Q (mk n f []) w := by
  unfold W at *
  refine wpIn_rangeFunc ?_
  intro fn hfn
  obtain ⟨rec, hrec⟩ : ∃ rec : LoopState → Option Code → Loop, rec = fun st pe => { state := st, pending := pe, fn, tmps := (mk n f []).tmps, params := ps.toArray, assign, body, defers := w.heap.size } := ⟨_, rfl⟩
  have hDw : Old w ((w.alloc (.deferred (some []))).alloc (.loop (rec .ready none))) := ((Old.refl w).alloc _).alloc _
  have hL1 : ((w.alloc (.deferred (some []))).alloc (.loop (rec .ready none))).heap[w.heap.size + 1]? = some (.loop (rec .ready none)) := by
    have := World.alloc_heap_new (w.alloc (.deferred (some []))) (.loop (rec .ready none)); rwa [World.size_alloc] at this
  have hK1 : ((w.alloc (.deferred (some []))).alloc (.loop (rec .ready none))).heap[w.heap.size]? = some (.deferred (some [])) :=
    (Below.heap_alloc _ _ _ (by simp)).trans (World.alloc_heap_new w _)
  have hI1 : I 0 ((w.alloc (.deferred (some []))).alloc (.loop (rec .ready none))) := hI 0 _ _ h0 (Kp.of_old hDw)
  have henter := run_enterLoop_outer (P := P) (w := w) fn (mk n f []).tmps ps.toArray assign body
  have hcall := eg (.func (.yield (w.heap.size + 1)) #[] #[] :: lb).toArray
  have hrec2 : ({ state := .ready, pending := none, fn, tmps := (mk n f []).tmps, params := ps.toArray, assign, body, defers := w.heap.size } : Loop) = rec .ready none := by rw [hrec]
  rw [hrec2] at henter
  generalize hW1 : (w.alloc (.deferred (some []))).alloc (.loop (rec .ready none)) = W1 at *
  have hput : ∀ {J : World → Prop}, Stb K' w.heap.size J → ∀ {A : World} {o o' : Obj} {l : Nat}, J A → w.heap.size ≤ l → A.heap[l]? = some o → isBook o = true → J (A.putObj l o') := by
    intro J hJ A o o' l hA hl ho hb
    refine hJ A _ hA (Kp.put fun o1 h1 hk => ?_)
    rw [ho] at h1; injection h1 with h1; subst h1
    have := hk.2 hb
    omega
  have hweak : ∀ {J : World → Prop}, Stb K' w.heap.size J → ∀ A B, J A → Kp K' A B → J B := fun hJ A B hA hb => hJ A B hA (hb.mono fun _ _ h => h.1)
  refine ⟨w.heap.size + 1, [{ target := .collected w.heap.size, args := #[] }], W1, { target := .fn (.func gf) lb.toArray, args := #[.func (.yield (w.heap.size + 1)) #[] #[]] }, W1, gf,
    (.func (.yield (w.heap.size + 1)) #[] #[] :: lb).toArray, W1, henter, ?_, ?_, ?_, fun h => by simp [FW, Fence.wide] at h, ?_⟩
  · have hg' : (mk n f []).eval g = .func (.func gf) #[] lb.toArray := by rw [eval_mk]; exact hg
    simp only [resolve, hg']
    simp [go_sem]
  · intro f' hf'; trivial
  · have := hcall W1
    simp [invoke, go_sem]
    simpa using this
  · refine calls_iff.2 ((hit (w.heap.size + 1)
      (fun k W => I k W ∧ W.heap[w.heap.size + 1]? = some (.loop (rec .ready none)) ∧ W.heap[w.heap.size]? = some (.deferred (some [])))
      (fun W => ∃ c, Ix c W ∧ W.heap[w.heap.size + 1]? = some (.loop (rec .done (some c))) ∧ W.heap[w.heap.size]? = some (.deferred (some [])))
      W1 hDw
      (fun k A B h hb => ⟨hweak (hI k) A B h.1 hb, hb.block _ _ h.2.1 (hbK' _ _ rfl), hb.block _ _ h.2.2 (hbK' _ _ rfl)⟩)
      (fun A B h hb => by
        obtain ⟨c, h1, h2, h3⟩ := h
        exact ⟨c, hweak (hIx c) A B h1 hb, hb.block _ _ h2 (hbK' _ _ rfl), hb.block _ _ h3 (hbK' _ _ rfl)⟩)
      ?_ ⟨hI1, hL1, hK1⟩).mono ?_)
    · rintro k vs V hkN ⟨hi, hl, hk⟩ hx
      have hlt : w.heap.size + 1 < V.heap.size := lt_of_heap hl
      have hy := run_yield (P := P) (args := vs.toArray) hl (by rw [hrec]; simpa using hX k vs V hx)
      have htm : (((rec .ready none).params.zip vs.toArray).foldl (fun tmps (t, a) => tmps.setIfInBounds t a) (rec .ready none).tmps) = (mk n (setps f (ps.zip vs)) []).tmps := by
        rw [hrec]
        simp only [mk, List.zip_toArray, List.foldl_toArray]
        exact foldl_set n (ps.zip vs) f
      rw [htm] at hy
      have e1 : (rec .ready none).fn = fn := by rw [hrec]
      have e2 : (rec .ready none).assign = assign := by rw [hrec]
      have e3 : (rec .ready none).body = body := by rw [hrec]
      rw [e1, e2, e3] at hy
      refine ⟨fn, _, assign, body, hy, roundIn_of_wpIn hfn (wpIn_mono (hassign (w.heap.size + 1) k vs V hkN hi hx) ?_)⟩
      clear hy
      rintro e a' Wa hq
      cases e with
      | normal =>
        obtain ⟨f', rfl, hax, hia, hkpa⟩ := hq
        have hla := hkpa.block _ _ hl (hbK _ _ rfl)
        have hka := hkpa.block _ _ hk (hbK _ _ rfl)
        have hlta : w.heap.size + 1 < Wa.heap.size := lt_of_heap hla
        refine ⟨_, run_beginRound hla (by rw [hrec]), ?_⟩
        have hl2 : (Wa.putObj (w.heap.size + 1) (.loop { rec .ready none with state := .busy })).heap[w.heap.size + 1]? = some (.loop { rec .ready none with state := .busy }) := World.putObj_heap_same hlta
        have hk2 : (Wa.putObj (w.heap.size + 1) (.loop { rec .ready none with state := .busy })).heap[w.heap.size]? = some (.deferred (some [])) := (World.putObj_heap_other (by omega)).trans hka
        have hia2 := hput (hI k) (o' := .loop { rec .ready none with state := .busy }) hia (by omega) hla rfl
        have hax2 := hput (hA k f') (o' := .loop { rec .ready none with state := .busy }) hax (by omega) hla rfl
        have hoth : ∀ j o, j ≠ w.heap.size + 1 → Wa.heap[j]? = some o → (Wa.putObj (w.heap.size + 1) (.loop { rec .ready none with state := .busy })).heap[j]? = some o := fun j o hj ho => (World.putObj_heap_other hj).trans ho
        have hs2 : Wa.heap.size ≤ (Wa.putObj (w.heap.size + 1) (.loop { rec .ready none with state := .busy })).heap.size := by simp [World.putObj]
        have ho2 : (Wa.putObj (w.heap.size + 1) (.loop { rec .ready none with state := .busy })).os = Wa.os := rfl
        have ht2 : (Wa.putObj (w.heap.size + 1) (.loop { rec .ready none with state := .busy })).tape = Wa.tape := rfl
        have hu2 : (Wa.putObj (w.heap.size + 1) (.loop { rec .ready none with state := .busy })).output = Wa.output := rfl
        generalize Wa.putObj (w.heap.size + 1) (.loop { rec .ready none with state := .busy }) = W2 at *
        refine wpIn_mono (hbody (w.heap.size + 1) k f' W2 hkN hia2 hax2) ?_
        have fin : ∀ (jump : Option Code) (W3 : World), Kp K W2 W3 →
            (Instr.endRound (w.heap.size + 1) jump).run P W3 = .ok (.bool jump.isNone) (W3.putObj (w.heap.size + 1) (.loop (rec (if jump.isNone then .ready else .done) jump))) ∧
            W3.heap[w.heap.size + 1]? = some (.loop { rec .ready none with state := .busy }) ∧
            (W3.putObj (w.heap.size + 1) (.loop (rec (if jump.isNone then .ready else .done) jump))).heap[w.heap.size + 1]? = some (.loop (rec (if jump.isNone then .ready else .done) jump)) ∧
            (W3.putObj (w.heap.size + 1) (.loop (rec (if jump.isNone then .ready else .done) jump))).heap[w.heap.size]? = some (.deferred (some [])) := fun jump W3 hk3 => by
          have hl3 := hk3.block _ _ hl2 (hbK _ _ rfl)
          have := run_endRound (P := P) jump hl3
          rw [hrec] at this ⊢
          exact ⟨this, by rw [hrec] at hl3; exact hl3, World.putObj_heap_same (lt_of_heap hl3), (World.putObj_heap_other (by omega)).trans (hk3.block _ _ hk2 (hbK _ _ rfl))⟩
        rintro e a3 W3 hp
        cases e with
        | normal =>
          obtain ⟨hk3, hi3⟩ := hp
          obtain ⟨hr, hl3, hl4, hk4⟩ := fin none W3 hk3
          refine ⟨_, _, hr, .inl ⟨rfl, ⟨hput (hI (k + 1)) hi3 (by omega) hl3 rfl, hl4, hk4⟩, ?_⟩⟩
          refine ⟨hk3.os.trans (ho2.trans hkpa.os), hk3.tape.trans (ht2.trans hkpa.tape), hk3.output.trans (hu2.trans hkpa.output), ?_, ?_⟩
          · have h1 := hkpa.size
            have h2 := hk3.size
            have h3 : W3.heap.size ≤ (W3.putObj (w.heap.size + 1) (.loop (rec (if (none : Option Code).isNone then .ready else .done) none))).heap.size := by simp [World.putObj]
            omega
          · intro j o ho hkj
            by_cases hj : j = w.heap.size + 1
            · subst hj
              rw [hl] at ho
              injection ho with ho
              subst ho
              exact hl4
            · exact (World.putObj_heap_other hj).trans (hk3.block j o (hoth j o hj (hkpa.block j o ho hkj)) hkj)
        | ret =>
          obtain ⟨hk3, hi3⟩ := hp
          obtain ⟨hr, hl3, hl4, hk4⟩ := fin (some .ret) W3 hk3
          exact ⟨_, _, hr, .inr ⟨rfl, .ret, hput (hIx _) hi3 (by omega) hl3 rfl, hl4, hk4⟩⟩
        | exit id =>
          obtain ⟨hk3, hi3⟩ := hp
          obtain ⟨hr, hl3, hl4, hk4⟩ := fin (some (.exit id)) W3 hk3
          exact ⟨_, _, hr, .inr ⟨rfl, .exit id, hput (hIx _) hi3 (by omega) hl3 rfl, hl4, hk4⟩⟩
        | goto t =>
          obtain ⟨hk3, hi3⟩ := hp
          obtain ⟨hr, hl3, hl4, hk4⟩ := fin (some (.goto t)) W3 hk3
          exact ⟨_, _, hr, .inr ⟨rfl, .goto t, hput (hIx _) hi3 (by omega) hl3 rfl, hl4, hk4⟩⟩
        | panic ch => exact hp.elim
        | outgrown => exact hp.elim
      | ret => exact hq.elim
      | exit id => exact hq.elim
      | goto t => exact hq.elim
      | panic ch => exact hq.elim
      | outgrown => exact hq.elim
    · rintro e W2 ⟨⟨v, rfl⟩, (⟨hi, hl, hk⟩ | ⟨c, hi, hl, hk⟩)⟩
      · refine ⟨none, _, ?_, hdone w.heap.size _ (Nat.le_refl _) (hput (hI N) (o' := .loop { rec .ready none with state := .exhausted }) hi (by omega) hl rfl) ((World.putObj_heap_other (by omega)).trans hk)⟩
        have := run_endLoop (P := P) hl (by rw [hrec]; simp)
        rw [this, hrec]
      · refine ⟨some c, _, ?_, hstop w.heap.size c _ (Nat.le_refl _) (hput (hIx c) (o' := .loop { rec .done (some c) with state := .exhausted }) hi (by omega) hl rfl) ((World.putObj_heap_other (by omega)).trans hk)⟩
        have := run_endLoop (P := P) hl (by rw [hrec]; simp)
        rw [this, hrec]
/-- The end of a function that ranged over a function. -/
theorem endM {P : Program} {fn : Func} {R : Ending → World → Prop} {n D : Nat} {f : Nat → Value} {w : World} (hD : w.heap[D]? = some (.deferred (some [])))
    (h : bodyPost P fn R .ret (mk n f []) (w.putObj D (.deferred none))) : bodyPostM (FW none) 0 P fn R .ret (mk n f [{ target := .collected D, args := #[] }]) w := by
  obtain ⟨_, v, hv, hR⟩ := h
  exact ⟨by simp, .inl ⟨D, _, rfl, run_takeDeferred hD, v, hv, hR⟩⟩
theorem endM0 {P : Program} {fn : Func} {R : Ending → World → Prop} {n : Nat} {f : Nat → Value} {w : World}
    (h : bodyPost P fn R .ret (mk n f []) w) : bodyPostM (FW none) 0 P fn R .ret (mk n f []) w := by
  obtain ⟨_, v, hv, hR⟩ := h
  exact ⟨v, hv, hR⟩
/-- A call of yield, within a region. -/
theorem wl_yield {P : Program} {n : Nat} {f : Nat → Value} {w : World} {d : Option Nat} {ty : TypeId} {pos : String} {aft : Array Edge} {ops : Array Oper} {rest : List Oper} {Q : Post} {ds : List Deferred}
    {x : Operand} {xs : List Operand} {ts : Array TypeId} {l : Nat} {R : Ending → World → Prop} (hx : evo n f x = .func (.yield l) #[] #[]) (hy : YieldAt (FW none) 0 P l (xs.map (evo n f)).toArray w R)
    (k : ∀ e w', R e w' → ∃ v, e = .returned v ∧ WL none P ops Q rest (mk n (updo f d v) ds) w') :
    WL none P ops Q (⟨d, .call { callee := .value x, args := xs.toArray, argTypes := ts }, ty, pos, aft, none⟩ :: rest) (mk n f ds) w := by
  obtain ⟨fn, tmps, assign, body, hrun, hR⟩ := hy
  refine wl_ow rfl ⟨about_wide _ _, ?_⟩
  have hex : (execOp (evo n f) ⟨d, .call { callee := .value x, args := xs.toArray, argTypes := ts }, ty, pos, aft, none⟩).run P w = .ok (.round l fn tmps assign body) w := by
    simp [execOp, resolve, hx, Deferred.ofValue, invoke] at hrun ⊢
    exact hrun
  rw [eval_mk, Oper.semAt_eq _ _ _ (by intro c hc; cases hc), hex]
  simp only [Oper.uponIn]
  refine ⟨fun h => by simp [Fence.wide] at h, ?_⟩
  refine hR.mono fun e w' he => ?_
  obtain ⟨v, rfl, hk⟩ := k e w' he
  simp only [put_mk]
  exact hk
end Go.Proofs.Ytcceeigkgklkoaa
