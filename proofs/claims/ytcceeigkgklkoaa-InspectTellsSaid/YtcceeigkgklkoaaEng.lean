/- An engine of our own for walking code: the frame of temporaries as a function, one law for each operation; it holds in rounds of loops over functions, too. -/
import Derived.Test.YtcceeigkgklkoaaBase
import Derived.RangeFuncNested
import Derived.RangeFuncBound
import Derived.RangeFuncCalls
import Derived.RangeFuncLeaves
import Derived.OrdersIn
import Derived.OrdersHeld
set_option linter.unusedSimpArgs false
set_option linter.unusedVariables false
namespace Go.Proofs.Ytcceeigkgklkoaa
open Go.RowKit

/-! ### The frame -/
abbrev FW (r : Option Nat) : Fence := { Fence.wide with round := r }
def upd (f : Nat → Value) (d : Nat) (v : Value) : Nat → Value := fun t => bif Nat.beq t d then v else f t
def updo (f : Nat → Value) : Option Nat → Value → Nat → Value
  | some d, v => upd f d v
  | none, _ => f
def mk (n : Nat) (f : Nat → Value) (ds : List Deferred) : Act := { tmps := Array.ofFn (n := n) fun i => f i.val, defers := ds }
def evo (n : Nat) (f : Nat → Value) : Operand → Value
  | .tmp t => bif Nat.blt t n then f t else undef
  | .const v => v
  | .global g => .pointer (some ⟨g, 0, none⟩)
  | .func k => .func (.func k) #[] #[]
theorem blt_iff {a b : Nat} : Nat.blt a b = true ↔ a < b := by rw [Nat.blt_eq]
theorem getD_mk (n : Nat) (f : Nat → Value) (t : Nat) : (Array.ofFn (n := n) fun i => f i.val).getD t undef = bif Nat.blt t n then f t else undef := by
  rw [Array.getD_eq_getD_getElem?, Array.getElem?_ofFn]
  by_cases h : t < n
  · have hb : Nat.blt t n = true := blt_iff.2 h
    simp [h, hb]
  · have hb : Nat.blt t n = false := by rw [Bool.eq_false_iff]; intro h'; exact h (blt_iff.1 h')
    simp [h, hb]
theorem get_mk (n : Nat) (f : Nat → Value) (t : Nat) : (Array.ofFn (n := n) fun i => f i.val)[t]? = bif Nat.blt t n then some (f t) else none := by
  rw [Array.getElem?_ofFn]
  by_cases h : t < n
  · have hb : Nat.blt t n = true := blt_iff.2 h
    simp [h, hb]
  · have hb : Nat.blt t n = false := by rw [Bool.eq_false_iff]; intro h'; exact h (blt_iff.1 h')
    simp [h, hb]
theorem eval_mk (n : Nat) (f : Nat → Value) (ds : List Deferred) : (mk n f ds).eval = evo n f := by
  funext x
  cases x with
  | tmp t => exact getD_mk n f t
  | const v => rfl
  | global g => rfl
  | func k => rfl
theorem put_mk (n : Nat) (f : Nat → Value) (ds : List Deferred) (d : Option Nat) (v : Value) : (mk n f ds).put d v = mk n (updo f d v) ds := by
  cases d with
  | none => rfl
  | some d =>
    simp only [Act.put, mk, updo, Act.mk.injEq, and_true]
    apply Array.ext
    · simp
    · intro i h1 h2
      simp only [Array.size_setIfInBounds, Array.size_ofFn] at h1
      rw [Array.getElem_setIfInBounds (by simpa using h1)]
      by_cases h : d = i
      · subst h
        simp [upd]
      · have hb : Nat.beq i d = false := by
          rw [Bool.eq_false_iff]; intro h'; exact h (Nat.eq_of_beq_eq_true h').symm
        simp [h, upd, hb]
/-- The frame at a call's beginning. -/
def argsOf (l : List Value) : Nat → Value := fun t => l.getD t undef
theorem enter_mk (l : List Value) (n : Nat) (h : l.length ≤ n) : ({ tmps := l.toArray ++ Array.replicate (n - l.toArray.size) undef, defers := [] } : Act) = mk n (argsOf l) [] := by
  simp only [mk, Act.mk.injEq, and_true]
  apply Array.ext
  · simp; omega
  · intro i h1 h2
    simp only [Array.getElem_ofFn, argsOf, List.getD_eq_getElem?_getD]
    by_cases hi : i < l.length
    · rw [Array.getElem_append_left (by simpa using hi)]
      simp [hi]
    · rw [Array.getElem_append_right (by simpa using hi)]
      simp [List.getElem?_eq_none (show l.length ≤ i by omega)]

/-! ### Code -/
abbrev Post := Exit → Act → World → Prop
def W (r : Option Nat) (P : Program) (c : Code) (Q : Post) (a : Act) (w : World) : Prop := c.wpIn (FW r) 0 P Q a w
def WL (r : Option Nat) (P : Program) (ops : Array Oper) (Q : Post) (l : List Oper) (a : Act) (w : World) : Prop := wpListIn (FW r) 0 P ops Q l a w

theorem calls_iff {r : Option Nat} {k : Nat} {P : Program} {f : FuncId} {args : Array Value} {w : World} {R : Ending → World → Prop} : CallsIn (FW r) k P f args w R ↔ Calls P f args w R := callsIn_wide (n := k)

theorem enter {P : Program} {f : FuncId} {fn : Func} {c : Code} {l : List Value} {w : World} {R : Ending → World → Prop} (n : Nat)
    (hf : P.funcs[f]? = some fn) (hb : fn.body = some c) (hn : fn.ntmps = n) (hl : l.length ≤ n) (h : W none P c (bodyPost P fn R) (mk n (argsOf l) []) w) : Calls P f l.toArray w R := by
  refine (callsIn_wide (n := 0)).1 (callsIn_of_wp hf hb trivial ?_)
  rw [hn, enter_mk l n hl]
  exact h
/-- The same for a body that ranges over a function. -/
theorem enterM {P : Program} {f : FuncId} {fn : Func} {c : Code} {l : List Value} {w : World} {R : Ending → World → Prop} (n : Nat)
    (hf : P.funcs[f]? = some fn) (hb : fn.body = some c) (hn : fn.ntmps = n) (hl : l.length ≤ n) (h : W none P c (bodyPostM (FW none) 0 P fn R) (mk n (argsOf l) []) w) : Calls P f l.toArray w R := by
  refine (callsIn_wide (n := 0)).1 (callsIn_of_wp_marks hf hb trivial ?_)
  rw [hn, enter_mk l n hl]
  exact h

section rules
variable {r : Option Nat} {P : Program} {Q : Post} {a : Act} {w : World} {n : Nat} {f : Nat → Value} {ds : List Deferred}

theorem w_mono {c : Code} {Q' : Post} (h : W r P c Q a w) (hq : ∀ e a w, Q e a w → Q' e a w) : W r P c Q' a w := wpIn_mono h hq
theorem w_skip (h : Q .normal a w) : W r P .skip Q a w := wpIn_skip h
theorem w_label {l : Nat} (h : Q .normal a w) : W r P (.label l) Q a w := wpIn_label h
theorem w_exit {id : Nat} (h : Q (.exit id) a w) : W r P (.exit id) Q a w := wpIn_exit h
theorem w_goto {l : Nat} (h : Q (.goto l) a w) : W r P (.goto l) Q a w := wpIn_goto h
theorem w_ret (h : Q .ret a w) : W r P .ret Q a w := wpIn_ret h
theorem w_seq {x y : Code} (h : W r P x (Exit.then (W r P y Q) Q) a w) : W r P (.seq x y) Q a w := wpIn_seq h
theorem then_k {N : Act → World → Prop} (h : N a w) : Exit.then N Q .normal a w := h
theorem w_skip_seq {y : Code} (h : W r P y Q a w) : W r P (.seq .skip y) Q a w := w_seq (w_skip (then_k h))
theorem w_if {c : Operand} {x y : Code} {t : Bool} (hc : evo n f c = .bool t) (ht : t = true → W r P x Q (mk n f ds) w) (hf : t = false → W r P y Q (mk n f ds) w) : W r P (.cond c x y) Q (mk n f ds) w :=
  wpIn_cond_split (by rw [eval_mk]; exact hc) ht hf
/-- A test that is a proposition. -/
theorem w_ifp {c : Operand} {x y : Code} {p : Prop} [Decidable p] (hc : evo n f c = .bool (decide p)) (ht : p → W r P x Q (mk n f ds) w) (hf : ¬ p → W r P y Q (mk n f ds) w) : W r P (.cond c x y) Q (mk n f ds) w :=
  w_if hc (fun h => ht (of_decide_eq_true h)) (fun h => hf (of_decide_eq_false h))
theorem w_ifn {c : Operand} {x y : Code} {p : Prop} [Decidable p] (hc : evo n f c = .bool (!decide p)) (ht : ¬ p → W r P x Q (mk n f ds) w) (hf : p → W r P y Q (mk n f ds) w) : W r P (.cond c x y) Q (mk n f ds) w :=
  w_if hc (fun h => ht (by simpa using h)) (fun h => hf (by simpa using h))
/-- A loop's test: the way out first. -/
theorem w_ifx {c : Operand} {x y : Code} {p : Prop} [Decidable p] (hc : evo n f c = .bool (decide p)) (hf : ¬ p → W r P y Q (mk n f ds) w) (ht : p → W r P x Q (mk n f ds) w) : W r P (.cond c x y) Q (mk n f ds) w := w_ifp hc ht hf
theorem w_if_t {c : Operand} {x y : Code} (hc : evo n f c = .bool true) (h : W r P x Q (mk n f ds) w) : W r P (.cond c x y) Q (mk n f ds) w := wpIn_cond_true (by rw [eval_mk]; exact hc) h
theorem w_if_f {c : Operand} {x y : Code} (hc : evo n f c = .bool false) (h : W r P y Q (mk n f ds) w) : W r P (.cond c x y) Q (mk n f ds) w := wpIn_cond_false (by rw [eval_mk]; exact hc) h
theorem w_block {id : Nat} {c : Code} (h : W r P c (Exit.inBlock id Q) a w) : W r P (.block id c) Q a w := wpIn_block h
/-- A loop: J k says what holds at a round's head when at most k rounds are to come. -/
theorem w_loop {c : Code} (J : Nat → (Nat → Value) → World → Prop) (k₀ : Nat) (h0 : J k₀ f w)
    (round : ∀ k f w, J k f w → W r P c (Exit.then (fun a' w' => ∃ k' f', k' < k ∧ a' = mk n f' ds ∧ J k' f' w') Q) (mk n f ds) w) : W r P (.loop c) Q (mk n f ds) w := by
  refine wpIn_loop (fun a w => ∃ k, ∃ f, a = mk n f ds ∧ J k f w) (fun a w => leastOf (fun k => ∃ f, a = mk n f ds ∧ J k f w)) ⟨k₀, f, rfl, h0⟩ ?_
  intro a w hI
  obtain ⟨f, rfl, hJ⟩ := (leastOf_spec hI).1
  refine wpIn_mono (round _ f w hJ) ?_
  intro e a' w' hq
  cases e with
  | normal =>
    obtain ⟨k', f', hlt, e1, hJ'⟩ := hq
    exact show (∃ k, ∃ f, a' = mk n f ds ∧ J k f w') ∧ leastOf (fun k => ∃ f, a' = mk n f ds ∧ J k f w') < leastOf (fun k => ∃ g, mk n f ds = mk n g ds ∧ J k g w) from
      ⟨⟨k', f', e1, hJ'⟩, Nat.lt_of_le_of_lt ((leastOf_spec ⟨k', f', e1, hJ'⟩).2 k' ⟨f', e1, hJ'⟩) hlt⟩
  | exit id => exact hq
  | goto l => exact hq
  | ret => exact hq
  | panic ch => exact hq
  | outgrown => exact hq
/-- A round's end. -/
theorem round_end {J : Nat → (Nat → Value) → World → Prop} {k : Nat} (k' : Nat) (hk : k' < k) (h : J k' f w) : Exit.then (fun a' w' => ∃ k' f', k' < k ∧ a' = mk n f' ds ∧ J k' f' w') Q .normal (mk n f ds) w := ⟨k', f, hk, rfl, h⟩

/-! ### Regions -/
theorem w_reg {id : Nat} {l : List Oper} (h : WL r P l.toArray Q l a w) : W r P (.region id l.toArray false) Q a w := wpIn_region_lit h
theorem wl_nil {ops : Array Oper} (h : Q .normal a w) : WL r P ops Q [] a w := wpListIn_nil h
/-- A region, and what follows it. -/
theorem w_sreg {id : Nat} {l : List Oper} {y : Code} (h : WL r P l.toArray (Exit.then (W r P y Q) Q) l a w) : W r P (.seq (.region id l.toArray false) y) Q a w := w_seq (w_reg h)
theorem wl_end {ops : Array Oper} {y : Code} (h : W r P y Q a w) : WL r P ops (Exit.then (W r P y Q) Q) [] a w := wl_nil h

theorem about_wide (o : Oper) (ρ : Operand → Value) : ∀ g, o.about P w ρ = some g → (FW r).fn g := fun _ _ => trivial
theorem not_defer {o : Oper} (h : (match o.op with | .defer _ => false | _ => true) = true) : ∀ c, o.op ≠ .defer c := by
  intro c hc; rw [hc] at h; cases h

/-- What an operation that yields a value does, whatever stands in the frame beside. -/
def EX (P : Program) (o : Oper) (n : Nat) (f : Nat → Value) (w : World) (v : Value) (w' : World) : Prop := (execOp (evo n f) o).run P w = .ok (.value v) w'
/-- The same for one that yields nothing. -/
def ES (P : Program) (o : Oper) (n : Nat) (f : Nat → Value) (w : World) (w' : World) : Prop := (execOp (evo n f) o).run P w = .ok .skip w'

theorem execOp_nodefer_value {o : Oper} {ρ : Operand → Value} {v : Value} {w' : World} (h : (execOp ρ o).run P w = .ok (.value v) w') : ∀ c, o.op ≠ .defer c := by
  intro c hc
  simp only [execOp, hc, Sem.run_bind] at h
  cases hr : (resolve ρ c o.type).run P w with
  | ok d w1 => simp [hr, Result.andThen] at h
  | halt x w1 => simp [hr, Result.andThen] at h
theorem execOp_nodefer_skip {o : Oper} {ρ : Operand → Value} {w' : World} (h : (execOp ρ o).run P w = .ok .skip w') : ∀ c, o.op ≠ .defer c := by
  intro c hc
  simp only [execOp, hc, Sem.run_bind] at h
  cases hr : (resolve ρ c o.type).run P w with
  | ok d w1 => simp [hr, Result.andThen] at h
  | halt x w1 => simp [hr, Result.andThen] at h
theorem execOp_nodefer_enter {o : Oper} {ρ : Operand → Value} {g : FuncId} {args : Array Value} {w' : World} (h : (execOp ρ o).run P w = .ok (.enter g args) w') : ∀ c, o.op ≠ .defer c := by
  intro c hc
  simp only [execOp, hc, Sem.run_bind] at h
  cases hr : (resolve ρ c o.type).run P w with
  | ok d w1 => simp [hr, Result.andThen] at h
  | halt x w1 => simp [hr, Result.andThen] at h

/-- One operation that is carried out. -/
def OW (r : Option Nat) (P : Program) (Q : Post) (o : Oper) (N : Act → World → Prop) (a : Act) (w : World) : Prop := o.wpIn (FW r) 0 P a w N Q
theorem ow_v {o : Oper} {N : Act → World → Prop} {v : Value} {w' : World} (h : EX P o n f w v w') (k : N (mk n (updo f o.dst v) ds) w') : OW r P Q o N (mk n f ds) w := by
  refine ⟨about_wide o _, ?_⟩
  rw [eval_mk, Oper.semAt_eq _ _ _ (execOp_nodefer_value h)]
  unfold EX at h
  rw [h]
  simp only [Oper.uponIn, put_mk]
  exact k
theorem ow_s {o : Oper} {N : Act → World → Prop} {w' : World} (h : ES P o n f w w') (k : N (mk n (updo f o.dst undef) ds) w') : OW r P Q o N (mk n f ds) w := by
  refine ⟨about_wide o _, ?_⟩
  rw [eval_mk, Oper.semAt_eq _ _ _ (execOp_nodefer_skip h)]
  unfold ES at h
  rw [h]
  simp only [Oper.uponIn, put_mk]
  exact k
/-- A call: what is called, with which arguments. -/
def EC (P : Program) (o : Oper) (n : Nat) (f : Nat → Value) (w : World) (g : FuncId) (args : Array Value) : Prop := (execOp (evo n f) o).run P w = .ok (.enter g args) w
theorem ow_c {o : Oper} {N : Act → World → Prop} {g : FuncId} {args : Array Value} {R : Value → World → Prop} (h : EC P o n f w g args) (hc : Calls P g args w fun e w' => ∃ v, e = .returned v ∧ R v w')
    (k : ∀ v w', R v w' → N (mk n (updo f o.dst v) ds) w') : OW r P Q o N (mk n f ds) w := by
  refine ⟨about_wide o _, ?_⟩
  rw [eval_mk, Oper.semAt_eq _ _ _ (execOp_nodefer_enter h)]
  unfold EC at h
  rw [h]
  simp only [Oper.uponIn]
  refine ⟨fun hd => by simp [Fence.wide] at hd, calls_iff.2 (hc.mono ?_)⟩
  rintro e w' ⟨v, rfl, hR⟩
  simp only [put_mk]
  exact k v w' hR

section list
variable {ops : Array Oper} {rest : List Oper} {d : Option Nat} {op : Op} {ty : TypeId} {pos : String} {aft : Array Edge}
theorem wl_ow {o : Oper} (hg : o.guard = none) (h : OW r P Q o (WL r P ops Q rest) a w) : WL r P ops Q (o :: rest) a w := by
  have hw : Region.wanted o (yielded ops a.tmps) = true := by simp [Region.wanted, hg]
  unfold WL
  simp only [wpListIn, hw, if_true]
  exact h
theorem wl_v {v : Value} {w' : World} (h : EX P ⟨d, op, ty, pos, aft, none⟩ n f w v w') (k : WL r P ops Q rest (mk n (updo f d v) ds) w') : WL r P ops Q (⟨d, op, ty, pos, aft, none⟩ :: rest) (mk n f ds) w :=
  wl_ow rfl (ow_v h k)
theorem wl_s {w' : World} (h : ES P ⟨d, op, ty, pos, aft, none⟩ n f w w') (k : WL r P ops Q rest (mk n (updo f d undef) ds) w') : WL r P ops Q (⟨d, op, ty, pos, aft, none⟩ :: rest) (mk n f ds) w :=
  wl_ow rfl (ow_s h k)
theorem wl_c {g : FuncId} {args : Array Value} {R : Value → World → Prop} (h : EC P ⟨d, op, ty, pos, aft, none⟩ n f w g args) (hc : Calls P g args w fun e w' => ∃ v, e = .returned v ∧ R v w')
    (k : ∀ v w', R v w' → WL r P ops Q rest (mk n (updo f d v) ds) w') : WL r P ops Q (⟨d, op, ty, pos, aft, none⟩ :: rest) (mk n f ds) w :=
  wl_ow rfl (ow_c h hc k)
theorem yielded_mk {j t : Nat} (hj : (ops[j]?).bind (·.dst) = some t) {b : Bool} (hv : evo n f (.tmp t) = .bool b) : yielded ops (mk n f ds).tmps j = some b := by
  unfold yielded
  rw [hj]
  simp only [Option.bind_some, mk, get_mk]
  simp only [evo] at hv
  cases hb : Nat.blt t n with
  | true => rw [hb] at hv; simp only [cond_true] at hv ⊢; rw [hv]
  | false => rw [hb] at hv; cases hv
theorem yielded_none {j t : Nat} (hj : (ops[j]?).bind (·.dst) = some t) (hv : evo n f (.tmp t) = undef) : yielded ops (mk n f ds).tmps j = none := by
  unfold yielded
  rw [hj]
  simp only [Option.bind_some, mk, get_mk]
  simp only [evo] at hv
  cases hb : Nat.blt t n with
  | true => rw [hb] at hv; simp only [cond_true] at hv ⊢; rw [hv]; rfl
  | false => rfl
/-- A guard that says yes. -/
theorem wl_gy {j t : Nat} {b : Bool} (hj : (ops[j]?).bind (·.dst) = some t) (hv : evo n f (.tmp t) = .bool b) (h : WL r P ops Q (⟨d, op, ty, pos, aft, none⟩ :: rest) (mk n f ds) w) :
    WL r P ops Q (⟨d, op, ty, pos, aft, some (j, b)⟩ :: rest) (mk n f ds) w := by
  have hy := yielded_mk (ds := ds) hj hv
  have hw : Region.wanted ⟨d, op, ty, pos, aft, some (j, b)⟩ (yielded ops (mk n f ds).tmps) = true := by simp [Region.wanted, hy]
  have hw' : Region.wanted ⟨d, op, ty, pos, aft, none⟩ (yielded ops (mk n f ds).tmps) = true := by simp [Region.wanted]
  unfold WL at h ⊢
  simp only [wpListIn, hw', if_true] at h
  simp only [wpListIn, hw, if_true]
  exact h
/-- One that says no. -/
theorem wl_gn {j t : Nat} {b b' : Bool} (hj : (ops[j]?).bind (·.dst) = some t) (hv : evo n f (.tmp t) = .bool b') (hne : (b' == b) = false) (h : WL r P ops Q rest (mk n (updo f d undef) ds) w) :
    WL r P ops Q (⟨d, op, ty, pos, aft, some (j, b)⟩ :: rest) (mk n f ds) w := by
  have hy := yielded_mk (ds := ds) hj hv
  have hne' : ¬ (b' = b) := by rintro rfl; simp at hne
  have hw : Region.wanted ⟨d, op, ty, pos, aft, some (j, b)⟩ (yielded ops (mk n f ds).tmps) = false := by simp [Region.wanted, hy, hne']
  unfold WL at h ⊢
  simp only [wpListIn, hw, Bool.false_eq_true, if_false, put_mk]
  exact ⟨fun _ _ => trivial, h⟩
/-- One whose own operation was passed over. -/
theorem wl_gu {j t : Nat} {b : Bool} (hj : (ops[j]?).bind (·.dst) = some t) (hv : evo n f (.tmp t) = undef) (h : WL r P ops Q rest (mk n (updo f d undef) ds) w) :
    WL r P ops Q (⟨d, op, ty, pos, aft, some (j, b)⟩ :: rest) (mk n f ds) w := by
  have hy := yielded_none (ds := ds) hj hv
  have hw : Region.wanted ⟨d, op, ty, pos, aft, some (j, b)⟩ (yielded ops (mk n f ds).tmps) = false := by simp [Region.wanted, hy]
  unfold WL at h ⊢
  simp only [wpListIn, hw, Bool.false_eq_true, if_false, put_mk]
  exact ⟨fun _ _ => trivial, h⟩
end list
end rules

/-! ### Ways out -/
section outs
variable {Q : Post} {a : Act} {w : World} {N : Act → World → Prop}
theorem ret_then (h : Q .ret a w) : Exit.then N Q .ret a w := h
theorem ret_block {id : Nat} (h : Q .ret a w) : Exit.inBlock id Q .ret a w := h
theorem ret_jump {l : Nat} {J : Act → World → Prop} (h : Q .ret a w) : Exit.jump l J Q .ret a w := h
theorem exit_then {id : Nat} (h : Q (.exit id) a w) : Exit.then N Q (.exit id) a w := h
theorem exit_jump {id l : Nat} {J : Act → World → Prop} (h : Q (.exit id) a w) : Exit.jump l J Q (.exit id) a w := h
theorem exit_hit {id : Nat} (h : Q .normal a w) : Exit.inBlock id Q (.exit id) a w := by simp [Exit.inBlock, h]
theorem exit_miss {id id' : Nat} (hne : Nat.beq id' id = false) (h : Q (.exit id') a w) : Exit.inBlock id Q (.exit id') a w := by
  have : ¬ id' = id := by rintro rfl; simp at hne
  simp [Exit.inBlock, this, h]
theorem goto_then {l : Nat} (h : Q (.goto l) a w) : Exit.then N Q (.goto l) a w := h
theorem goto_block {id l : Nat} (h : Q (.goto l) a w) : Exit.inBlock id Q (.goto l) a w := h
theorem norm_block {id : Nat} (h : Q .normal a w) : Exit.inBlock id Q .normal a w := h
theorem norm_jump {l : Nat} {J : Act → World → Prop} (h : Q .normal a w) : Exit.jump l J Q .normal a w := h
theorem goto_jump {l n : Nat} {f : Nat → Value} {ds : List Deferred} {J : Nat → (Nat → Value) → World → Prop} {k : Nat} (k' : Nat) (hk : k' < k) (h : J k' f w) : Exit.jump l (fun a' w' => ∃ k' f', k' < k ∧ a' = mk n f' ds ∧ J k' f' w') Q (.goto l) (mk n f ds) w := ⟨rfl, k', f, hk, rfl, h⟩
theorem goto_jump0 {l n : Nat} {f : Nat → Value} {ds : List Deferred} {J : Nat → (Nat → Value) → World → Prop} (k' : Nat) (h : J k' f w) : Exit.jump l (fun a' w' => ∃ k' f', a' = mk n f' ds ∧ J k' f' w') Q (.goto l) (mk n f ds) w := ⟨rfl, k', f, rfl, h⟩
end outs

/-- A scope with one label: J k holds whenever the run comes to it, at most k jumps being to come. -/
theorem w_scope {P : Program} {Q : Post} {w : World} {n : Nat} {f : Nat → Value} {ds : List Deferred} {c rest : Code} (l : Nat) (J : Nat → (Nat → Value) → World → Prop) (hf : findLabel c l = some (Code.skip.seq rest))
    (pass : ∀ k f w, J k f w → W none P rest (Exit.jump l (fun a' w' => ∃ k' f', k' < k ∧ a' = mk n f' ds ∧ J k' f' w') Q) (mk n f ds) w)
    (first : (∀ k f w, J k f w → W none P rest (Exit.jump l (fun a' w' => ∃ k' f', a' = mk n f' ds ∧ J k' f' w') Q) (mk n f ds) w) → W none P c (Exit.jump l (fun a' w' => ∃ k' f', a' = mk n f' ds ∧ J k' f' w') Q) (mk n f ds) w) :
    W none P (.scope c) Q (mk n f ds) w := by
  have weak : ∀ k f w, J k f w → W none P rest (Exit.jump l (fun a' w' => ∃ k' f', a' = mk n f' ds ∧ J k' f' w') Q) (mk n f ds) w := fun k f w hJ => w_mono (pass k f w hJ) fun e a' w' h => by
    cases e with
    | goto l' => obtain ⟨h1, k', f', _, h2, h3⟩ := h; exact ⟨h1, k', f', h2, h3⟩
    | normal => exact h
    | exit id => exact h
    | ret => exact h
    | panic ch => exact h
    | outgrown => exact h
  refine wpIn_wide.2 ?_
  refine wp_scope_jumps l (fun a' w' => ∃ k' f', a' = mk n f' ds ∧ J k' f' w') (fun a w => leastOf (fun k => ∃ f, a = mk n f ds ∧ J k f w)) hf (wpIn_wide.1 (first weak)) ?_
  intro a w hI
  obtain ⟨f, rfl, hJ⟩ := (leastOf_spec hI).1
  refine wp_seq (wp_skip (wp_mono (wpIn_wide.1 (pass _ f w hJ)) ?_))
  intro e a' w' hq
  cases e with
  | goto l' =>
    obtain ⟨rfl, k', f', hlt, e1, hJ'⟩ := hq
    exact show l' = l' ∧ (∃ k f, a' = mk n f ds ∧ J k f w') ∧ leastOf (fun k => ∃ f, a' = mk n f ds ∧ J k f w') < leastOf (fun k => ∃ g, mk n f ds = mk n g ds ∧ J k g w) from
      ⟨rfl, ⟨k', f', e1, hJ'⟩, Nat.lt_of_le_of_lt ((leastOf_spec ⟨k', f', e1, hJ'⟩).2 k' ⟨f', e1, hJ'⟩) hlt⟩
  | normal => exact hq
  | exit id => exact hq
  | ret => exact hq
  | panic ch => exact hq
  | outgrown => exact hq

/-- Two ways that meet: M is what holds there. -/
theorem w_cut {r : Option Nat} {P : Program} {Q : Post} {w : World} {n : Nat} {f : Nat → Value} {ds : List Deferred} {x y : Code} (M : (Nat → Value) → World → Prop)
    (h1 : W r P x (Exit.then (fun a' w' => ∃ f', a' = mk n f' ds ∧ M f' w') Q) (mk n f ds) w) (h2 : ∀ f w, M f w → W r P y Q (mk n f ds) w) : W r P (.seq x y) Q (mk n f ds) w :=
  w_seq (w_mono h1 fun e a' w' h => by
    cases e with
    | normal => obtain ⟨f', rfl, hM⟩ := h; exact h2 f' w' hM
    | exit id => exact h
    | goto l => exact h
    | ret => exact h
    | panic ch => exact h
    | outgrown => exact h)
theorem cut_end {Q : Post} {w : World} {n : Nat} {f : Nat → Value} {ds : List Deferred} {M : (Nat → Value) → World → Prop} (h : M f w) : Exit.then (fun a' w' => ∃ f', a' = mk n f' ds ∧ M f' w') Q .normal (mk n f ds) w := ⟨f, rfl, h⟩

/-! ### `a && b`, `a || b` in a region: the second part is carried out under a guard; the ways meet again behind it -/
def isIn : List Nat → Nat → Bool
  | [], _ => false
  | a :: l, t => bif Nat.beq t a then true else isIn l t
/-- f, with the slots ts as they are in h. -/
def blur (f h : Nat → Value) (ts : List Nat) : Nat → Value := fun t => bif isIn ts t then h t else f t
def agree (F f : Nat → Value) (ts : List Nat) : Prop := ∀ t, isIn ts t = false → F t = f t
theorem agree_refl {f : Nat → Value} {ts : List Nat} : agree f f ts := fun _ _ => rfl
theorem agree_upd {F f : Nat → Value} {ts : List Nat} {d : Nat} {v : Value} (h : agree F f ts) (hd : isIn ts d = true) : agree (updo F (some d) v) f ts := by
  intro t ht
  show upd F d v t = f t
  unfold upd
  cases hb : Nat.beq t d with
  | true => rw [Nat.eq_of_beq_eq_true hb, hd] at ht; cases ht
  | false => exact h t ht
theorem ag1 {f : Nat → Value} {ts : List Nat} {d0 : Nat} {v0 : Value} (h0 : isIn ts d0 = true) : agree (updo f (some d0) v0) f ts := (agree_upd agree_refl h0)
theorem ag2 {f : Nat → Value} {ts : List Nat} {d0 d1 : Nat} {v0 v1 : Value} (h0 : isIn ts d0 = true) (h1 : isIn ts d1 = true) : agree (updo (updo f (some d0) v0) (some d1) v1) f ts := (agree_upd (agree_upd agree_refl h0) h1)
theorem ag3 {f : Nat → Value} {ts : List Nat} {d0 d1 d2 : Nat} {v0 v1 v2 : Value} (h0 : isIn ts d0 = true) (h1 : isIn ts d1 = true) (h2 : isIn ts d2 = true) : agree (updo (updo (updo f (some d0) v0) (some d1) v1) (some d2) v2) f ts := (agree_upd (agree_upd (agree_upd agree_refl h0) h1) h2)
theorem ag4 {f : Nat → Value} {ts : List Nat} {d0 d1 d2 d3 : Nat} {v0 v1 v2 v3 : Value} (h0 : isIn ts d0 = true) (h1 : isIn ts d1 = true) (h2 : isIn ts d2 = true) (h3 : isIn ts d3 = true) : agree (updo (updo (updo (updo f (some d0) v0) (some d1) v1) (some d2) v2) (some d3) v3) f ts := (agree_upd (agree_upd (agree_upd (agree_upd agree_refl h0) h1) h2) h3)
theorem ag5 {f : Nat → Value} {ts : List Nat} {d0 d1 d2 d3 d4 : Nat} {v0 v1 v2 v3 v4 : Value} (h0 : isIn ts d0 = true) (h1 : isIn ts d1 = true) (h2 : isIn ts d2 = true) (h3 : isIn ts d3 = true) (h4 : isIn ts d4 = true) : agree (updo (updo (updo (updo (updo f (some d0) v0) (some d1) v1) (some d2) v2) (some d3) v3) (some d4) v4) f ts := (agree_upd (agree_upd (agree_upd (agree_upd (agree_upd agree_refl h0) h1) h2) h3) h4)
theorem ag6 {f : Nat → Value} {ts : List Nat} {d0 d1 d2 d3 d4 d5 : Nat} {v0 v1 v2 v3 v4 v5 : Value} (h0 : isIn ts d0 = true) (h1 : isIn ts d1 = true) (h2 : isIn ts d2 = true) (h3 : isIn ts d3 = true) (h4 : isIn ts d4 = true) (h5 : isIn ts d5 = true) : agree (updo (updo (updo (updo (updo (updo f (some d0) v0) (some d1) v1) (some d2) v2) (some d3) v3) (some d4) v4) (some d5) v5) f ts := (agree_upd (agree_upd (agree_upd (agree_upd (agree_upd (agree_upd agree_refl h0) h1) h2) h3) h4) h5)
theorem ag7 {f : Nat → Value} {ts : List Nat} {d0 d1 d2 d3 d4 d5 d6 : Nat} {v0 v1 v2 v3 v4 v5 v6 : Value} (h0 : isIn ts d0 = true) (h1 : isIn ts d1 = true) (h2 : isIn ts d2 = true) (h3 : isIn ts d3 = true) (h4 : isIn ts d4 = true) (h5 : isIn ts d5 = true) (h6 : isIn ts d6 = true) : agree (updo (updo (updo (updo (updo (updo (updo f (some d0) v0) (some d1) v1) (some d2) v2) (some d3) v3) (some d4) v4) (some d5) v5) (some d6) v6) f ts := (agree_upd (agree_upd (agree_upd (agree_upd (agree_upd (agree_upd (agree_upd agree_refl h0) h1) h2) h3) h4) h5) h6)
theorem ag8 {f : Nat → Value} {ts : List Nat} {d0 d1 d2 d3 d4 d5 d6 d7 : Nat} {v0 v1 v2 v3 v4 v5 v6 v7 : Value} (h0 : isIn ts d0 = true) (h1 : isIn ts d1 = true) (h2 : isIn ts d2 = true) (h3 : isIn ts d3 = true) (h4 : isIn ts d4 = true) (h5 : isIn ts d5 = true) (h6 : isIn ts d6 = true) (h7 : isIn ts d7 = true) : agree (updo (updo (updo (updo (updo (updo (updo (updo f (some d0) v0) (some d1) v1) (some d2) v2) (some d3) v3) (some d4) v4) (some d5) v5) (some d6) v6) (some d7) v7) f ts := (agree_upd (agree_upd (agree_upd (agree_upd (agree_upd (agree_upd (agree_upd (agree_upd agree_refl h0) h1) h2) h3) h4) h5) h6) h7)
theorem agree_blur {F f : Nat → Value} {ts : List Nat} (h : agree F f ts) : F = blur f F ts := by
  funext t
  unfold blur
  cases hb : isIn ts t with
  | true => rfl
  | false => exact h t hb
def okG (j : Nat) (b : Bool) (ts : List Nat) : List Oper → Bool
  | [] => true
  | o :: l => (o.guard == some (j, b)) && (match o.dst with | some d => isIn ts d | none => false) && okG j b ts l
section amp
variable {r : Option Nat} {P : Program} {Q : Post} {w : World} {n : Nat} {f : Nat → Value} {ds : List Deferred} {ops : Array Oper}
theorem evo_const {v : Value} : evo n f (.const v) = v := rfl
theorem evo_blur {h : Nat → Value} {ts : List Nat} {t : Nat} (ht : isIn ts t = false) : evo n (blur f h ts) (.tmp t) = evo n f (.tmp t) := by
  simp [evo, blur, ht]
theorem wl_append : ∀ (l1 l2 : List Oper) (a : Act) (w : World), WL r P ops (Exit.then (fun a w => WL r P ops Q l2 a w) Q) l1 a w → WL r P ops Q (l1 ++ l2) a w
  | [], _, _, _, h => h
  | o :: l1, l2, a, w, h => by
    unfold WL at h ⊢
    simp only [wpListIn, List.cons_append] at h ⊢
    split
    · rename_i hw
      rw [if_pos hw] at h
      unfold Oper.wpIn at h ⊢
      refine ⟨h.1, ?_⟩
      have h := h.2
      generalize (o.semAt (FW r).round a.eval).run P w = z at *
      cases z with
      | ok x w' =>
        cases x <;> simp only [Oper.uponIn] at h ⊢
        case value u => exact wl_append l1 l2 _ _ h
        case skip => exact wl_append l1 l2 _ _ h
        case defer d => exact wl_append l1 l2 _ _ h
        case enter g args =>
          refine ⟨h.1, CallsIn.mono h.2 fun e w'' he => ?_⟩
          cases e with
          | returned u => exact wl_append l1 l2 _ _ he
          | panicked c => exact he
          | outgrown => exact he
        case row row args => exact ⟨h.1, RowsIn.mono h.2 fun u w'' he => wl_append l1 l2 _ _ he⟩
        case round l g tmps assign body =>
          refine ⟨h.1, RoundIn.mono h.2 fun e w'' he => ?_⟩
          cases e with
          | returned u => exact wl_append l1 l2 _ _ he
          | panicked c => exact he
          | outgrown => exact he
      | halt x w' => cases x <;> simp only [Oper.uponIn] at h ⊢ <;> exact h
    · rename_i hw
      rw [if_neg hw] at h
      exact ⟨h.1, wl_append l1 l2 _ _ h.2⟩
theorem wl_mono' {Q Q' : Post} (hq : ∀ e a w, Q e a w → Q' e a w) : ∀ (l : List Oper) (a : Act) (w : World), WL r P ops Q l a w → WL r P ops Q' l a w
  | [], a, w, h => hq _ a w h
  | o :: l1, a, w, h => by
    unfold WL at h ⊢
    simp only [wpListIn] at h ⊢
    split
    · rename_i hw
      rw [if_pos hw] at h
      unfold Oper.wpIn at h ⊢
      refine ⟨h.1, ?_⟩
      have h := h.2
      generalize (o.semAt (FW r).round a.eval).run P w = z at *
      cases z with
      | ok x w' =>
        cases x <;> simp only [Oper.uponIn] at h ⊢
        case value u => exact wl_mono' hq l1 _ _ h
        case skip => exact wl_mono' hq l1 _ _ h
        case defer d => exact wl_mono' hq l1 _ _ h
        case enter g args =>
          refine ⟨h.1, CallsIn.mono h.2 fun e w'' he => ?_⟩
          cases e with
          | returned u => exact wl_mono' hq l1 _ _ he
          | panicked c => exact hq _ _ _ he
          | outgrown => obtain ⟨_, _, h⟩ := he; exact ⟨_, _, hq _ _ _ h⟩
        case row row args => exact ⟨h.1, RowsIn.mono h.2 fun u w'' he => wl_mono' hq l1 _ _ he⟩
        case round l g tmps assign body =>
          refine ⟨h.1, RoundIn.mono h.2 fun e w'' he => ?_⟩
          cases e with
          | returned u => exact wl_mono' hq l1 _ _ he
          | panicked c => exact hq _ _ _ he
          | outgrown => obtain ⟨_, _, h⟩ := he; exact ⟨_, _, hq _ _ _ h⟩
      | halt x w' => cases x <;> simp only [Oper.uponIn] at h ⊢ <;> first | exact hq _ _ _ h | exact h
    · rename_i hw
      rw [if_neg hw] at h
      exact ⟨h.1, wl_mono' hq l1 _ _ h.2⟩
theorem wl_mono {Q Q' : Post} {l : List Oper} {a : Act} {w : World} (h : WL r P ops Q l a w) (hq : ∀ e a w, Q e a w → Q' e a w) : WL r P ops Q' l a w := wl_mono' hq l a w h
theorem wl_split (k : Nat) {l : List Oper} {a : Act} (h : WL r P ops (Exit.then (fun a w => WL r P ops Q (l.drop k) a w) Q) (l.take k) a w) : WL r P ops Q l a w := by
  rw [← List.take_append_drop k l]
  exact wl_append _ _ _ _ h
theorem wl_passed {j t : Nat} {b b' : Bool} {ts : List Nat} (hj : (ops[j]?).bind (·.dst) = some t) (ht : isIn ts t = false) (hv : evo n f (.tmp t) = .bool b') (hne : (b' == b) = false) :
    ∀ (l : List Oper) (F : Nat → Value), okG j b ts l = true → agree F f ts → (∀ F, agree F f ts → Q .normal (mk n F ds) w) → WL r P ops Q l (mk n F ds) w
  | [], F, _, hF, hk => hk F hF
  | o :: l, F, hok, hF, hk => by
    simp only [okG, Bool.and_eq_true, beq_iff_eq] at hok
    obtain ⟨⟨hg, hd⟩, hok⟩ := hok
    obtain ⟨d, op, ty, pos, aft, g⟩ := o
    simp only at hg hd
    subst hg
    cases d with
    | none => cases hd
    | some d =>
      have hv' : evo n F (.tmp t) = .bool b' := by rw [← hv]; simp only [evo]; rw [hF t ht]
      exact wl_gn hj hv' hne (wl_passed hj ht hv hne l _ hok (agree_upd hF hd) hk)
/-- What the second part comes to. -/
def Amp (n : Nat) (f : Nat → Value) (ds : List Deferred) (w : World) (ts : List Nat) (y : Nat) (q : Bool) (M : World → Prop) : Post := fun e a w' => e = .normal ∧ ∃ F, a = mk n F ds ∧ agree F f ts ∧ evo n F (.tmp y) = .bool q ∧ M w'
theorem amp_end {F : Nat → Value} {w' : World} {ts : List Nat} {y : Nat} {q : Bool} {M : World → Prop} (h : agree F f ts) (hy : evo n F (.tmp y) = .bool q) (hM : M w') : Amp n f ds w ts y q M .normal (mk n F ds) w' := ⟨rfl, F, rfl, h, hy, hM⟩
section
variable {rest : List Oper} {d : Option Nat} {ty : TypeId} {pos : String} {aft : Array Edge}
theorem wl_and {m y : Nat} {c q : Bool} (j k : Nat) (ts : List Nat) {l : List Oper} (hk : l.drop k = ⟨d, .pick (.tmp m) (.tmp y) (.const (.bool false)), ty, pos, aft, none⟩ :: rest)
    (hj : (ops[j]?).bind (·.dst) = some m) (hm : evo n f (.tmp m) = .bool c) (hg : (okG j true ts (l.take k) && !isIn ts m) = true)
    (hy : c = true → WL r P ops (Amp n f ds w ts y q (· = w)) (l.take k) (mk n f ds) w)
    (kk : ∀ h, WL r P ops Q rest (mk n (updo (blur f h ts) d (.bool (c && q))) ds) w) : WL r P ops Q l (mk n f ds) w := by
  simp only [Bool.and_eq_true, Bool.not_eq_true'] at hg
  have key : ∀ F, agree F f ts → (c = true → evo n F (.tmp y) = .bool q) → WL r P ops Q (l.drop k) (mk n F ds) w := by
    intro F hF hq
    have hm' : evo n F (.tmp m) = .bool c := by rw [← hm]; simp only [evo]; rw [hF m hg.2]
    rw [hk]
    refine wl_v (v := .bool (c && q)) ?_ (by rw [agree_blur hF]; exact kk F)
    cases c with
    | true => simp [EX, execOp, hm', asBool, Result.andThen, hq rfl]
    | false => simp [EX, execOp, hm', asBool, Result.andThen, evo_const]
  refine wl_split k ?_
  cases hc : c with
  | true =>
    refine wl_mono (hy hc) ?_
    rintro e a w' ⟨rfl, F, rfl, hF, hq, rfl⟩
    exact key F hF fun _ => hq
  | false =>
    refine wl_passed hj hg.2 hm (by rw [hc]; rfl) _ _ hg.1 agree_refl fun F hF => ?_
    exact key F hF fun h => by rw [hc] at h; cases h
theorem wl_or {m y : Nat} {c q : Bool} (j k : Nat) (ts : List Nat) {l : List Oper} (hk : l.drop k = ⟨d, .pick (.tmp m) (.const (.bool true)) (.tmp y), ty, pos, aft, none⟩ :: rest)
    (hj : (ops[j]?).bind (·.dst) = some m) (hm : evo n f (.tmp m) = .bool c) (hg : (okG j false ts (l.take k) && !isIn ts m) = true)
    (hy : c = false → WL r P ops (Amp n f ds w ts y q (· = w)) (l.take k) (mk n f ds) w)
    (kk : ∀ h, WL r P ops Q rest (mk n (updo (blur f h ts) d (.bool (c || q))) ds) w) : WL r P ops Q l (mk n f ds) w := by
  simp only [Bool.and_eq_true, Bool.not_eq_true'] at hg
  have key : ∀ F, agree F f ts → (c = false → evo n F (.tmp y) = .bool q) → WL r P ops Q (l.drop k) (mk n F ds) w := by
    intro F hF hq
    have hm' : evo n F (.tmp m) = .bool c := by rw [← hm]; simp only [evo]; rw [hF m hg.2]
    rw [hk]
    refine wl_v (v := .bool (c || q)) ?_ (by rw [agree_blur hF]; exact kk F)
    cases c with
    | false => simp [EX, execOp, hm', asBool, Result.andThen, hq rfl]
    | true => simp [EX, execOp, hm', asBool, Result.andThen, evo_const]
  refine wl_split k ?_
  cases hc : c with
  | false =>
    refine wl_mono (hy hc) ?_
    rintro e a w' ⟨rfl, F, rfl, hF, hq, rfl⟩
    exact key F hF fun _ => hq
  | true =>
    refine wl_passed hj hg.2 hm (by rw [hc]; rfl) _ _ hg.1 agree_refl fun F hF => ?_
    exact key F hF fun h => by rw [hc] at h; cases h
end
theorem w_ifa {c : Operand} {x y : Code} {p q : Prop} [Decidable p] [Decidable q] (hc : evo n f c = .bool (decide p && decide q)) (ht : p ∧ q → W r P x Q (mk n f ds) w) (hf : ¬ (p ∧ q) → W r P y Q (mk n f ds) w) : W r P (.cond c x y) Q (mk n f ds) w :=
  w_if hc (fun h => ht (by simpa using h)) (fun h => hf (by simpa using h))
theorem w_ifo {c : Operand} {x y : Code} {p q : Prop} [Decidable p] [Decidable q] (hc : evo n f c = .bool (decide p || decide q)) (ht : p ∨ q → W r P x Q (mk n f ds) w) (hf : ¬ (p ∨ q) → W r P y Q (mk n f ds) w) : W r P (.cond c x y) Q (mk n f ds) w :=
  w_if hc (fun h => ht (by simpa using h)) (fun h => hf (by simp at h; rintro (h1 | h1) <;> simp_all))
end amp

/-! ### Regions that draw their order: what only reads may be taken first; what does more comes up in one order -/
section draw
variable {r : Option Nat} {P : Program} {ops : Array Oper} {S : World → Prop} {N : Act → World → Prop}
def QF : Post := fun _ _ _ => False
/-- In every world that meets S the operation yields v and does nothing else. -/
def YH (P : Program) (ops : Array Oper) (S : World → Prop) (o : Oper) (v : Value) (a : Act) : Prop :=
  (Region.wanted o (yielded ops a.tmps) = true ∧ ∀ w, S w → (execOp a.eval o).run P w = .ok (.value v) w) ∨ (Region.wanted o (yielded ops a.tmps) = false ∧ v = undef)
def opH (r : Option Nat) (P : Program) (ops : Array Oper) (i : Nat) (K : Act → World → Prop) (a : Act) (w : World) : Prop :=
  ∃ o, ops[i]? = some o ∧ if Region.wanted o (yielded ops a.tmps) then o.wpIn (FW r) 0 P a w K QF else K (a.put o.dst undef) w
theorem opH_mono {i : Nat} {a : Act} {w : World} {K K' : Act → World → Prop} (h : ∀ a w, K a w → K' a w) (hh : opH r P ops i K a w) : opH r P ops i K' a w := by
  obtain ⟨o, ho, hh⟩ := hh
  refine ⟨o, ho, ?_⟩
  split
  · rename_i hw; rw [if_pos hw] at hh; exact Oper.wpIn_mono h hh
  · rename_i hw; rw [if_neg hw] at hh; exact h _ _ hh
theorem YH.opH {i : Nat} {o : Oper} {v : Value} {a : Act} {w : World} {K : Act → World → Prop} (hi : ops[i]? = some o) (hy : YH P ops S o v a) (hS : S w) (h : K (a.put o.dst v) w) : opH r P ops i K a w := by
  refine ⟨o, hi, ?_⟩
  rcases hy with ⟨hw, hv⟩ | ⟨hw, rfl⟩
  · rw [if_pos hw]
    refine ⟨fun _ _ => trivial, ?_⟩
    rw [Oper.semAt_eq _ _ _ (execOp_nodefer_value (hv w hS)), hv w hS]
    exact h
  · rw [if_neg (by simp [hw])]
    exact h
theorem YH.of_same {o : Oper} {v : Value} {a a' : Act} (hy : YH P ops S o v a) (he : execOp a'.eval o = execOp a.eval o)
    (hw : Region.wanted o (yielded ops a'.tmps) = Region.wanted o (yielded ops a.tmps)) : YH P ops S o v a' := by
  unfold YH at *
  rw [he, hw]
  exact hy
theorem semAt_put {r : Option Nat} {o : Oper} (hd : ∀ c, o.op ≠ .defer c) {ρ ρ' : Operand → Value} (h : execOp ρ o = execOp ρ' o) : o.semAt r ρ = o.semAt r ρ' := by
  rw [Oper.semAt_eq _ _ _ hd, Oper.semAt_eq _ _ _ hd, h]
theorem opH_put {j : Nat} {oi oj : Oper} {v : Value} (hj : ops[j]? = some oj) (hap : oi.apart ops oj = true)
    (hsi : ∀ cs b, oi.op ≠ .select cs b) (hsj : ∀ cs b, oj.op ≠ .select cs b) (hdj : ∀ c, oj.op ≠ .defer c) {K : Act → World → Prop} {a : Act} {w : World}
    (hy : YH P ops S oi v a) (h : opH r P ops j K (a.put oi.dst v) w) : opH r P ops j (fun a' w' => YH P ops S oi v a' ∧ K (a'.put oi.dst v) w') a w := by
  obtain ⟨h1, h2, h3⟩ := Oper.apart_spec hap
  have keep : ∀ u, YH P ops S oi v (a.put oj.dst u) := fun u => hy.of_same (execOp_put oi hsi a oj.dst u h3) (wanted_put oi a oj.dst u h3)
  obtain ⟨o, ho, h⟩ := h
  rw [hj] at ho
  injection ho with ho
  subst ho
  refine ⟨oj, hj, ?_⟩
  rw [wanted_put oj a oi.dst v h1] at h
  split
  · rename_i hw
    rw [if_pos hw] at h
    refine ⟨fun _ _ => trivial, ?_⟩
    have h := h.2
    rw [semAt_put hdj (execOp_put oj hsj a oi.dst v h1)] at h
    generalize (oj.semAt (FW r).round a.eval).run P w = z at *
    cases z with
    | ok x w' =>
      cases x <;> simp only [Oper.uponIn] at h ⊢
      case value u => exact ⟨keep u, by rw [← Act.put_comm a v u h2]; exact h⟩
      case skip => exact ⟨keep _, by rw [← Act.put_comm a v undef h2]; exact h⟩
      case defer d' =>
        refine ⟨(hy.of_same rfl rfl : YH P ops S oi v { a with defers := d' :: a.defers }).of_same (execOp_put oi hsi _ oj.dst _ h3) (wanted_put oi _ oj.dst _ h3), ?_⟩
        rw [← Act.put_comm _ v undef h2, ← Act.put_defers]
        exact h
      case enter g args =>
        refine ⟨h.1, CallsIn.mono h.2 fun e w'' he => ?_⟩
        cases e with
        | returned u => exact ⟨keep u, by rw [← Act.put_comm a v u h2]; exact he⟩
        | panicked c => exact he
        | outgrown => exact he
      case row row args => exact ⟨h.1, RowsIn.mono h.2 fun u w'' he => ⟨keep u, by rw [← Act.put_comm a v u h2]; exact he⟩⟩
      case round l g tmps assign body =>
        refine ⟨h.1, RoundIn.mono h.2 fun e w'' he => ?_⟩
        cases e with
        | returned u => exact ⟨keep u, by rw [← Act.put_comm a v u h2]; exact he⟩
        | panicked c => exact he
        | outgrown => exact he
    | halt x w' =>
      cases x <;> simp only [Oper.uponIn] at h ⊢
      case panic u => exact h
  · rename_i hw
    rw [if_neg hw] at h
    exact ⟨keep _, by rw [← Act.put_comm a v undef h2]; exact h⟩

/-- tl: operations that come up last, behind all that only reads: S isn't asked behind these. -/
def anyH (r : Option Nat) (P : Program) (ops : Array Oper) (S : World → Prop) (tl : List Nat) (N : Act → World → Prop) : Nat → Array Bool → Act → World → Prop
  | 0, listed, a, w => Region.ready .any ops listed = [] ∧ N a w
  | fuel + 1, listed, a, w => (Region.ready .any ops listed = [] → N a w) ∧ ∀ i ∈ Region.ready .any ops listed, opH r P ops i (fun a' w' => (isIn tl i = false → S w') ∧ anyH r P ops S tl N fuel (listed.setIfInBounds i true) a' w') a w
theorem any_of_anyH {tl : List Nat} : ∀ (fuel : Nat) (listed : Array Bool) (a : Act) (w : World), anyH r P ops S tl N fuel listed a w → wpAnyIn (FW r) 0 P .any ops (Exit.then N QF) fuel listed a w
  | 0, _, _, _, h => h
  | fuel + 1, listed, a, w, h => ⟨h.1, fun i hi => by
      obtain ⟨o, ho, hh⟩ := h.2 i hi
      unfold wpOpIn
      rw [ho]
      simp only
      split
      · rename_i hw
        rw [if_pos hw] at hh
        have := Oper.wpIn_mono (K' := wpAnyIn (FW r) 0 P .any ops (Exit.then N QF) fuel _) (fun a' w' h' => any_of_anyH fuel _ a' w' h'.2) hh
        unfold Oper.wpIn at this ⊢
        refine ⟨this.1, ?_⟩
        have := this.2
        generalize (o.semAt (FW r).round a.eval).run P w = z at *
        cases z with
        | ok x w' =>
          cases x <;> simp only [Oper.uponIn] at this ⊢ <;> first
            | exact this
            | exact ⟨this.1, CallsIn.mono this.2 (fun e w'' he => by cases e with | returned u => exact he | panicked c => exact he.elim | outgrown => obtain ⟨_, _, h⟩ := he; exact h.elim)⟩
            | exact ⟨this.1, RoundIn.mono this.2 (fun e w'' he => by cases e with | returned u => exact he | panicked c => exact he.elim | outgrown => obtain ⟨_, _, h⟩ := he; exact h.elim)⟩
        | halt x w' => cases x <;> simp only [Oper.uponIn] at this ⊢ <;> exact this.elim
      · rename_i hw
        rw [if_neg hw] at hh
        exact ⟨fun _ _ => trivial, any_of_anyH fuel _ _ _ hh.2⟩⟩

/-- What is listed, all ahead of it is. -/
def closedL (ops : Array Oper) (listed : Array Bool) : Prop := ∀ p o, listed.getD p false = true → ops[p]? = some o → ∀ e ∈ o.after, Region.binds .any e = true → listed.getD e.on false = true
theorem closedL.start {ops : Array Oper} (n : Nat) : closedL ops (Array.replicate n false) := fun p o h => by
  rw [Array.getD_eq_getD_getElem?, Array.getElem?_replicate] at h
  split at h <;> cases h
theorem closedL.set {ops : Array Oper} {listed : Array Bool} {j : Nat} (h : closedL ops listed) (hj : j ∈ Region.ready .any ops listed) : closedL ops (listed.setIfInBounds j true) := fun p o hp ho e he hb => by
  obtain ⟨_, oj, hoj, hall⟩ := mem_ready.1 hj
  by_cases hpj : j = p
  · subst hpj
    rw [ho] at hoj; injection hoj with hoj; subst hoj
    exact getD_set_true (hall e he hb)
  · rw [getD_set_ne false hpj] at hp
    exact getD_set_true (h p o hp ho e he hb)
/-- j comes behind i, through others. -/
def behind (ops : Array Oper) (i : Nat) : Nat → Nat → Bool
  | 0, _ => false
  | k + 1, j => match ops[j]? with
    | some o => (o.after.any fun e => Region.binds .any e && (e.on == i)) || (o.after.any fun e => Region.binds .any e && behind ops i k e.on)
    | none => false
theorem behind_spec {ops : Array Oper} {listed : Array Bool} {i : Nat} (hc : closedL ops listed) (hi : listed.getD i false = false) : ∀ (k j : Nat) (o : Oper), behind ops i k j = true → ops[j]? = some o → (∀ e ∈ o.after, Region.binds .any e = true → listed.getD e.on false = true) → False
  | 0, _, _, h, _, _ => by cases h
  | k + 1, j, o, h, ho, hall => by
    unfold behind at h
    rw [ho] at h
    simp only [Bool.or_eq_true, Array.any_eq_true', Bool.and_eq_true, beq_iff_eq] at h
    rcases h with ⟨e, he, hb, heq⟩ | ⟨e, he, hb, hbeh⟩
    · have := hall e he hb
      rw [heq, hi] at this; cases this
    · have h1 := hall e he hb
      cases ho2 : ops[e.on]? with
      | none => cases k <;> simp [behind, ho2] at hbeh
      | some o2 => exact behind_spec hc hi k e.on o2 hbeh ho2 (hc e.on o2 h1 ho2)
theorem anyH_first {tl : List Nat} {i : Nat} {oi : Oper} {v : Value} (hT : ∀ j, isIn tl j = true → behind ops i ops.size j = true) (hi : ops[i]? = some oi) (hsel : ∀ (j : Nat) (o : Oper) cs b, ops[j]? = some o → o.op ≠ .select cs b) (hdef : ∀ (j : Nat) (o : Oper) c, ops[j]? = some o → o.op ≠ .defer c) :
    ∀ (fuel : Nat) (listed : Array Bool) (a : Act) (w : World), closedL ops listed →
      (∀ j oj, ops[j]? = some oj → j ≠ i → listed.getD j true = false → (∀ e ∈ oj.after, Region.binds .any e = true → e.on ≠ i) → oi.apart ops oj = true) →
      i ∈ Region.ready .any ops listed → YH P ops S oi v a → S w →
      anyH r P ops S tl N fuel (listed.setIfInBounds i true) (a.put oi.dst v) w → anyH r P ops S tl N (fuel + 1) listed a w := by
  intro fuel
  induction fuel with
  | zero =>
    intro listed a w _ _ hr hy hS H
    refine ⟨fun h => (by rw [h] at hr; cases hr), fun j hj => ?_⟩
    by_cases hji : j = i
    · subst hji; exact hy.opH hi hS ⟨fun _ => hS, H⟩
    · have := ready_mono hj hji
      rw [H.1] at this
      cases this
  | succ fuel ih =>
    intro listed a w hcl hfree hr hy hS H
    refine ⟨fun h => (by rw [h] at hr; cases hr), fun j hj => ?_⟩
    by_cases hji : j = i
    · subst hji; exact hy.opH hi hS ⟨fun _ => hS, H⟩
    · have h1 := H.2 j (ready_mono hj hji)
      obtain ⟨hjun, oj, hoj, hall⟩ := mem_ready.1 hj
      have hnot : ∀ e ∈ oj.after, Region.binds .any e = true → e.on ≠ i := fun e he hb heq => by
        have h1 := hall e he hb
        have h0 := (mem_ready.1 hr).1
        rw [heq] at h1
        rcases Nat.lt_or_ge i listed.size with h' | h'
        · simp [h'] at h0 h1; rw [h0] at h1; cases h1
        · simp [Array.getElem?_eq_none h'] at h1
      have htl : isIn tl j = false := by
        rw [Bool.eq_false_iff]
        intro hin
        refine behind_spec hcl ?_ ops.size j oj (hT j hin) hoj hall
        have h0 := (mem_ready.1 hr).1
        rcases Nat.lt_or_ge i listed.size with h' | h'
        · simp [h'] at h0 ⊢; exact h0
        · simp [Array.getElem?_eq_none h'] at h0
      have h2 := opH_put hoj (hfree j oj hoj hji hjun hnot) (fun cs b => hsel i oi cs b hi) (fun cs b => hsel j oj cs b hoj) (fun c => hdef j oj c hoj) hy h1
      have hfree' : ∀ k ok, ops[k]? = some ok → k ≠ i → (listed.setIfInBounds j true).getD k true = false →
          (∀ e ∈ ok.after, Region.binds .any e = true → e.on ≠ i) → oi.apart ops ok = true := fun k ok hk hki hun hno => by
        refine hfree k ok hk hki ?_ hno
        by_cases hjk : j = k
        · subst hjk; exact hjun
        · rw [getD_set_ne true hjk] at hun; exact hun
      refine opH_mono (fun a' w' h3 => ⟨h3.2.1, ih (listed.setIfInBounds j true) a' w' (hcl.set hj) hfree' (ready_mono hr (Ne.symm hji)) h3.1 (h3.2.1 htl) ?_⟩) h2
      rw [Array.setIfInBounds_comm _ _ hji]
      exact h3.2.2

/-- The walk in one order: (i, true): it only reads; (i, false): nothing else could come up. -/
def WD (r : Option Nat) (P : Program) (ops : Array Oper) (S : World → Prop) (N : Act → World → Prop) : List (Nat × Bool) → Act → World → Prop
  | [], a, w => N a w
  | (i, true) :: rest, a, w => ∃ o v, ops[i]? = some o ∧ YH P ops S o v a ∧ WD r P ops S N rest (a.put o.dst v) w
  | (i, false) :: rest, a, w => opH r P ops i (fun a' w' => S w' ∧ WD r P ops S N rest a' w') a w
/-- All of tl comes behind i. -/
def okT (ops : Array Oper) (tl : List Nat) (i : Nat) : Bool := tl.all fun j => behind ops i ops.size j
theorem mem_of_isIn : ∀ {l : List Nat} {t : Nat}, isIn l t = true → t ∈ l
  | [], _, h => by cases h
  | a :: l, t, h => by
    unfold isIn at h
    cases hb : Nat.beq t a with
    | true => rw [Nat.eq_of_beq_eq_true hb]; exact List.mem_cons_self
    | false => rw [hb] at h; exact List.mem_cons_of_mem _ (mem_of_isIn h)
theorem isIn_of_mem : ∀ {l : List Nat} {t : Nat}, t ∈ l → isIn l t = true
  | a :: l, t, h => by
    unfold isIn
    cases hb : Nat.beq t a with
    | true => rfl
    | false =>
      rcases List.mem_cons.1 h with h | h
      · subst h; simp at hb
      · exact isIn_of_mem h
theorem okT_spec {ops : Array Oper} {tl : List Nat} {i : Nat} (h : okT ops tl i = true) (j : Nat) (hj : isIn tl j = true) : behind ops i ops.size j = true := List.all_eq_true.1 h j (mem_of_isIn hj)
def okD (ops : Array Oper) (tl : List Nat) : Array Bool → List (Nat × Bool) → Bool
  | listed, [] => (Region.ready .any ops listed).isEmpty
  | listed, (i, true) :: rest => Region.free .any ops listed i && (Region.ready .any ops listed).contains i && okT ops tl i && okD ops tl (listed.setIfInBounds i true) rest
  | listed, (i, false) :: rest => (Region.ready .any ops listed == [i]) && okD ops tl (listed.setIfInBounds i true) rest
/-- What comes up last, one by one. -/
def WT (r : Option Nat) (P : Program) (ops : Array Oper) (N : Act → World → Prop) : List Nat → Act → World → Prop
  | [], a, w => N a w
  | i :: rest, a, w => opH r P ops i (fun a' w' => WT r P ops N rest a' w') a w
def noDefer (ops : Array Oper) : Bool := ops.all fun o => match o.op with | .defer _ => false | _ => true
theorem noDefer_spec (h : noDefer ops = true) (j : Nat) (o : Oper) (c : Call) (ho : ops[j]? = some o) : o.op ≠ .defer c := by
  intro heq
  have := Array.all_eq_true_iff_forall_mem.1 h o (Array.mem_of_getElem? ho)
  simp [heq] at this
theorem anyH_of_WT {tl : List Nat} : ∀ (l : List Nat) (listed : Array Bool) (a : Act) (w : World), (∀ i ∈ l, isIn tl i = true) → okD ops tl listed (l.map fun i => (i, false)) = true → WT r P ops N l a w → anyH r P ops S tl N l.length listed a w
  | [], listed, a, w, _, hok, h => ⟨by simpa [okD] using hok, h⟩
  | i :: rest, listed, a, w, hin, hok, h => by
    simp only [List.map_cons, okD, Bool.and_eq_true, beq_iff_eq] at hok
    refine ⟨fun h0 => (by rw [hok.1] at h0; cases h0), fun j hj => ?_⟩
    rw [hok.1] at hj
    obtain rfl : j = i := by simpa using hj
    refine opH_mono (fun a' w' h' => ⟨fun hf => ?_, anyH_of_WT rest _ a' w' (fun i hi => hin i (List.mem_cons_of_mem _ hi)) hok.2 h'⟩) h
    rw [hin j List.mem_cons_self] at hf
    cases hf
theorem anyH_of_WD (hs : Region.noSelect ops = true) (hd : noDefer ops = true) {tl : List Nat} : ∀ (l : List (Nat × Bool)) (listed : Array Bool) (a : Act) (w : World), closedL ops listed → okD ops tl listed (l ++ tl.map fun i => (i, false)) = true → S w → WD r P ops S (fun a w => WT r P ops N tl a w) l a w → anyH r P ops S tl N (l.length + tl.length) listed a w
  | [], listed, a, w, _, hok, hS, h => by
    rw [List.length_nil, Nat.zero_add]
    exact anyH_of_WT tl listed a w (fun i hi => isIn_of_mem hi) hok h
  | (i, true) :: rest, listed, a, w, hcl, hok, hS, h => by
    obtain ⟨o, v, ho, hy, hk⟩ := h
    simp only [List.cons_append, okD, Bool.and_eq_true] at hok
    rw [List.length_cons, Nat.add_right_comm]
    exact anyH_first (okT_spec hok.1.2) ho (Region.noSelect_spec hs) (noDefer_spec hd) _ listed a w hcl (Region.free_spec ho hok.1.1.1) (by simpa using hok.1.1.2) hy hS (anyH_of_WD hs hd rest _ _ w (hcl.set (by simpa using hok.1.1.2)) hok.2 hS hk)
  | (i, false) :: rest, listed, a, w, hcl, hok, hS, h => by
    simp only [List.cons_append, okD, Bool.and_eq_true, beq_iff_eq] at hok
    rw [List.length_cons, Nat.add_right_comm]
    refine ⟨fun h0 => (by rw [hok.1] at h0; cases h0), fun j hj => ?_⟩
    rw [hok.1] at hj
    have hji : j = i := by simpa using hj
    subst hji
    exact opH_mono (fun a' w' h' => ⟨fun _ => h'.1, anyH_of_WD hs hd rest _ a' w' (hcl.set (by rw [hok.1]; exact hj)) hok.2 h'.1 h'.2⟩) h
/-- A region that draws: what is behind order (tl) comes up last, one by one. -/
theorem w_drawT {Q : Post} {a : Act} {w : World} {id : Nat} (S : World → Prop) (order : List (Nat × Bool)) (tl : List Nat) (hm : P.follows .mixedOrders = true)
    (hok : (Region.noSelect ops && noDefer ops && okD ops tl (Array.replicate ops.size false) (order ++ tl.map fun i => (i, false)) && (order.length + tl.length == ops.size)) = true) (hS : S w.drew)
    (h : WD r P ops S (fun a w => WT r P ops (fun a w => Q .normal a w) tl a w) order a w.drew) : W r P (.region id ops true) Q a w := by
  simp only [Bool.and_eq_true, beq_iff_eq] at hok
  obtain ⟨⟨⟨h1, h2⟩, h3⟩, h4⟩ := hok
  have := anyH_of_WD h1 h2 order _ a w.drew (closedL.start _) h3 hS h
  rw [h4] at this
  refine wpIn_mono (wpIn_region_any (Q := Exit.then (fun a w => Q .normal a w) QF) hm (any_of_anyH _ _ _ _ this)) ?_
  intro e a' w' hq
  cases e with
  | normal => exact hq
  | exit id => exact hq.elim
  | goto l => exact hq.elim
  | ret => exact hq.elim
  | panic ch => exact hq.elim
  | outgrown => exact hq.elim
theorem w_draw {Q : Post} {a : Act} {w : World} {id : Nat} (S : World → Prop) (order : List (Nat × Bool)) (hm : P.follows .mixedOrders = true)
    (hok : (Region.noSelect ops && noDefer ops && okD ops [] (Array.replicate ops.size false) order && (order.length == ops.size)) = true) (hS : S w.drew)
    (h : WD r P ops S (fun a w => Q .normal a w) order a w.drew) : W r P (.region id ops true) Q a w :=
  w_drawT S order [] hm (by simpa using hok) hS h
theorem w_sdraw {Q : Post} {a : Act} {w : World} {id : Nat} {y : Code} (S : World → Prop) (order : List (Nat × Bool)) (hm : P.follows .mixedOrders = true)
    (hok : (Region.noSelect ops && noDefer ops && okD ops [] (Array.replicate ops.size false) order && (order.length == ops.size)) = true) (hS : S w.drew)
    (h : WD r P ops S (fun a w => W r P y Q a w) order a w.drew) : W r P (.seq (.region id ops true) y) Q a w := w_seq (w_draw S order hm hok hS h)
theorem w_sdrawT {Q : Post} {a : Act} {w : World} {id : Nat} {y : Code} (S : World → Prop) (order : List (Nat × Bool)) (tl : List Nat) (hm : P.follows .mixedOrders = true)
    (hok : (Region.noSelect ops && noDefer ops && okD ops tl (Array.replicate ops.size false) (order ++ tl.map fun i => (i, false)) && (order.length + tl.length == ops.size)) = true) (hS : S w.drew)
    (h : WD r P ops S (fun a w => WT r P ops (fun a w => W r P y Q a w) tl a w) order a w.drew) : W r P (.seq (.region id ops true) y) Q a w := w_seq (w_drawT S order tl hm hok hS h)

section tails
variable {n : Nat} {f : Nat → Value} {ds : List Deferred} {w : World} {i : Nat} {rest : List Nat} {d : Option Nat} {op : Op} {ty : TypeId} {pos : String} {aft : Array Edge} {gd : Option (Nat × Bool)}
theorem wt_nil {a : Act} (h : N a w) : WT r P ops N [] a w := h
theorem wt_ow (ho : ops[i]? = some ⟨d, op, ty, pos, aft, gd⟩) (hg : gd = none) {a : Act} (h : OW r P QF ⟨d, op, ty, pos, aft, gd⟩ (fun a w => WT r P ops N rest a w) a w) : WT r P ops N (i :: rest) a w :=
  ⟨_, ho, by rw [if_pos (by simp [Region.wanted, hg])]; exact h⟩
theorem wt_v {v : Value} {w' : World} (ho : ops[i]? = some ⟨d, op, ty, pos, aft, gd⟩) (hg : gd = none) (h : EX P ⟨d, op, ty, pos, aft, gd⟩ n f w v w') (k : WT r P ops N rest (mk n (updo f d v) ds) w') : WT r P ops N (i :: rest) (mk n f ds) w := wt_ow ho hg (ow_v h k)
theorem wt_s {w' : World} (ho : ops[i]? = some ⟨d, op, ty, pos, aft, gd⟩) (hg : gd = none) (h : ES P ⟨d, op, ty, pos, aft, gd⟩ n f w w') (k : WT r P ops N rest (mk n (updo f d undef) ds) w') : WT r P ops N (i :: rest) (mk n f ds) w := wt_ow ho hg (ow_s h k)
theorem wt_c {g : FuncId} {args : Array Value} {R : Value → World → Prop} (ho : ops[i]? = some ⟨d, op, ty, pos, aft, gd⟩) (hg : gd = none) (h : EC P ⟨d, op, ty, pos, aft, gd⟩ n f w g args) (hc : Calls P g args w fun e w' => ∃ v, e = .returned v ∧ R v w')
    (k : ∀ v w', R v w' → WT r P ops N rest (mk n (updo f d v) ds) w') : WT r P ops N (i :: rest) (mk n f ds) w := wt_ow ho hg (ow_c h hc k)
end tails
section steps
variable {n : Nat} {f : Nat → Value} {ds : List Deferred} {w : World} {i : Nat} {rest : List (Nat × Bool)} {d : Option Nat} {op : Op} {ty : TypeId} {pos : String} {aft : Array Edge} {gd : Option (Nat × Bool)}
theorem wd_nil {a : Act} (h : N a w) : WD r P ops S N [] a w := h
/-- What only reads. -/
theorem wd_f {v : Value} (ho : ops[i]? = some ⟨d, op, ty, pos, aft, gd⟩) (hg : gd = none) (hy : ∀ w, S w → EX P ⟨d, op, ty, pos, aft, gd⟩ n f w v w) (k : WD r P ops S N rest (mk n (updo f d v) ds) w) : WD r P ops S N ((i, true) :: rest) (mk n f ds) w :=
  ⟨_, v, ho, .inl ⟨by simp [Region.wanted, hg], fun w hS => by rw [eval_mk]; exact hy w hS⟩, by rw [put_mk]; exact k⟩
theorem wd_fgy {v : Value} {j t : Nat} {b : Bool} (ho : ops[i]? = some ⟨d, op, ty, pos, aft, gd⟩) (hg : gd = some (j, b)) (hj : (ops[j]?).bind (·.dst) = some t) (hv : evo n f (.tmp t) = .bool b) (hy : ∀ w, S w → EX P ⟨d, op, ty, pos, aft, gd⟩ n f w v w) (k : WD r P ops S N rest (mk n (updo f d v) ds) w) : WD r P ops S N ((i, true) :: rest) (mk n f ds) w := by
  have h := yielded_mk (ds := ds) hj hv
  exact ⟨_, v, ho, .inl ⟨by simp [Region.wanted, hg, h], fun w hS => by rw [eval_mk]; exact hy w hS⟩, by rw [put_mk]; exact k⟩
theorem wd_fgn {j t : Nat} {b b' : Bool} (ho : ops[i]? = some ⟨d, op, ty, pos, aft, gd⟩) (hg : gd = some (j, b)) (hj : (ops[j]?).bind (·.dst) = some t) (hv : evo n f (.tmp t) = .bool b') (hne : (b' == b) = false) (k : WD r P ops S N rest (mk n (updo f d undef) ds) w) : WD r P ops S N ((i, true) :: rest) (mk n f ds) w := by
  have h := yielded_mk (ds := ds) hj hv
  have hne' : ¬ (b' = b) := by rintro rfl; simp at hne
  exact ⟨_, undef, ho, .inr ⟨by simp [Region.wanted, hg, h, hne'], rfl⟩, by rw [put_mk]; exact k⟩
theorem wd_fgu {j t : Nat} {b : Bool} (ho : ops[i]? = some ⟨d, op, ty, pos, aft, gd⟩) (hg : gd = some (j, b)) (hj : (ops[j]?).bind (·.dst) = some t) (hv : evo n f (.tmp t) = undef) (k : WD r P ops S N rest (mk n (updo f d undef) ds) w) : WD r P ops S N ((i, true) :: rest) (mk n f ds) w := by
  have h := yielded_none (ds := ds) hj hv
  exact ⟨_, undef, ho, .inr ⟨by simp [Region.wanted, hg, h], rfl⟩, by rw [put_mk]; exact k⟩
theorem wd_v {v : Value} {w' : World} (ho : ops[i]? = some ⟨d, op, ty, pos, aft, gd⟩) (hg : gd = none) (h : EX P ⟨d, op, ty, pos, aft, gd⟩ n f w v w') (hS : S w') (k : WD r P ops S N rest (mk n (updo f d v) ds) w') : WD r P ops S N ((i, false) :: rest) (mk n f ds) w :=
  ⟨_, ho, by rw [if_pos (by simp [Region.wanted, hg])]; exact ow_v h ⟨hS, k⟩⟩
theorem wd_s {w' : World} (ho : ops[i]? = some ⟨d, op, ty, pos, aft, gd⟩) (hg : gd = none) (h : ES P ⟨d, op, ty, pos, aft, gd⟩ n f w w') (hS : S w') (k : WD r P ops S N rest (mk n (updo f d undef) ds) w') : WD r P ops S N ((i, false) :: rest) (mk n f ds) w :=
  ⟨_, ho, by rw [if_pos (by simp [Region.wanted, hg])]; exact ow_s h ⟨hS, k⟩⟩
theorem wd_c {g : FuncId} {args : Array Value} {R : Value → World → Prop} (ho : ops[i]? = some ⟨d, op, ty, pos, aft, gd⟩) (hg : gd = none) (h : EC P ⟨d, op, ty, pos, aft, gd⟩ n f w g args) (hc : Calls P g args w fun e w' => ∃ v, e = .returned v ∧ R v w')
    (k : ∀ v w', R v w' → S w' ∧ WD r P ops S N rest (mk n (updo f d v) ds) w') : WD r P ops S N ((i, false) :: rest) (mk n f ds) w :=
  ⟨_, ho, by rw [if_pos (by simp [Region.wanted, hg])]; exact ow_c h hc k⟩
theorem wd_cgy {g : FuncId} {args : Array Value} {R : Value → World → Prop} {j t : Nat} {b : Bool} (ho : ops[i]? = some ⟨d, op, ty, pos, aft, gd⟩) (hg : gd = some (j, b)) (hj : (ops[j]?).bind (·.dst) = some t) (hv : evo n f (.tmp t) = .bool b) (h : EC P ⟨d, op, ty, pos, aft, gd⟩ n f w g args) (hc : Calls P g args w fun e w' => ∃ v, e = .returned v ∧ R v w')
    (k : ∀ v w', R v w' → S w' ∧ WD r P ops S N rest (mk n (updo f d v) ds) w') : WD r P ops S N ((i, false) :: rest) (mk n f ds) w := by
  have hy := yielded_mk (ds := ds) hj hv
  exact ⟨_, ho, by rw [if_pos (by simp [Region.wanted, hg, hy])]; exact ow_c h hc k⟩
end steps
section amp
variable {n : Nat} {f : Nat → Value} {ds : List Deferred} {w : World}
theorem wd_append : ∀ (l1 l2 : List (Nat × Bool)) (a : Act) (w : World), WD r P ops S (fun a w => WD r P ops S N l2 a w) l1 a w → WD r P ops S N (l1 ++ l2) a w
  | [], _, _, _, h => h
  | (i, true) :: l1, l2, a, w, h => by
    obtain ⟨o, v, ho, hy, hk⟩ := h
    exact ⟨o, v, ho, hy, wd_append l1 l2 _ _ hk⟩
  | (i, false) :: l1, l2, a, w, h => opH_mono (fun a' w' h' => ⟨h'.1, wd_append l1 l2 a' w' h'.2⟩) h
theorem wd_mono {N' : Act → World → Prop} (hN : ∀ a w, N a w → N' a w) : ∀ (l : List (Nat × Bool)) (a : Act) (w : World), WD r P ops S N l a w → WD r P ops S N' l a w
  | [], _, _, h => hN _ _ h
  | (i, true) :: l, a, w, h => by
    obtain ⟨o, v, ho, hy, hk⟩ := h
    exact ⟨o, v, ho, hy, wd_mono hN l _ _ hk⟩
  | (i, false) :: l, a, w, h => opH_mono (fun a' w' h' => ⟨h'.1, wd_mono hN l a' w' h'.2⟩) h
def okGD (ops : Array Oper) (j : Nat) (b : Bool) (ts : List Nat) : List (Nat × Bool) → Bool
  | [] => true
  | (i, fl) :: l => fl && (match ops[i]? with | some o => (o.guard == some (j, b)) && (match o.dst with | some d => isIn ts d | none => false) | none => false) && okGD ops j b ts l
theorem wd_passed {j t : Nat} {b b' : Bool} {ts : List Nat} (hj : (ops[j]?).bind (·.dst) = some t) (ht : isIn ts t = false) (hv : evo n f (.tmp t) = .bool b') (hne : (b' == b) = false) :
    ∀ (l : List (Nat × Bool)) (F : Nat → Value), okGD ops j b ts l = true → agree F f ts → (∀ F, agree F f ts → N (mk n F ds) w) → WD r P ops S N l (mk n F ds) w
  | [], F, _, hF, hk => hk F hF
  | (i, fl) :: l, F, hok, hF, hk => by
    simp only [okGD, Bool.and_eq_true] at hok
    obtain ⟨⟨hfl, hop⟩, hok⟩ := hok
    subst hfl
    cases ho : ops[i]? with
    | none => rw [ho] at hop; cases hop
    | some o =>
      rw [ho] at hop
      simp only [Bool.and_eq_true, beq_iff_eq] at hop
      obtain ⟨hg, hd⟩ := hop
      have hv' : evo n F (.tmp t) = .bool b' := by rw [← hv]; simp only [evo]; rw [hF t ht]
      refine wd_fgn ho hg hj hv' hne (wd_passed hj ht hv hne l _ hok ?_ hk)
      cases hdst : o.dst with
      | none => rw [hdst] at hd; cases hd
      | some d => rw [hdst] at hd; exact agree_upd hF hd
def AmpD (n : Nat) (f : Nat → Value) (ds : List Deferred) (w : World) (ts : List Nat) (y : Nat) (q : Bool) : Act → World → Prop := fun a w' => ∃ F, a = mk n F ds ∧ agree F f ts ∧ evo n F (.tmp y) = .bool q ∧ w' = w
theorem ampd_end {F : Nat → Value} {ts : List Nat} {y : Nat} {q : Bool} (h : agree F f ts) (hy : evo n F (.tmp y) = .bool q) : AmpD n f ds w ts y q (mk n F ds) w := ⟨F, rfl, h, hy, rfl⟩
theorem wd_and {m y : Nat} {c q : Bool} (j k : Nat) (ts : List Nat) {l rest : List (Nat × Bool)} {ip : Nat} {d : Option Nat} {ty : TypeId} {pos : String} {aft : Array Edge}
    (hk : l.drop k = (ip, true) :: rest) (hp : ops[ip]? = some ⟨d, .pick (.tmp m) (.tmp y) (.const (.bool false)), ty, pos, aft, none⟩)
    (hj : (ops[j]?).bind (·.dst) = some m) (hm : evo n f (.tmp m) = .bool c) (hg : (okGD ops j true ts (l.take k) && !isIn ts m) = true)
    (hy : c = true → WD r P ops S (AmpD n f ds w ts y q) (l.take k) (mk n f ds) w)
    (kk : ∀ h, WD r P ops S N rest (mk n (updo (blur f h ts) d (.bool (c && q))) ds) w) : WD r P ops S N l (mk n f ds) w := by
  simp only [Bool.and_eq_true, Bool.not_eq_true'] at hg
  have key : ∀ F, agree F f ts → (c = true → evo n F (.tmp y) = .bool q) → WD r P ops S N (l.drop k) (mk n F ds) w := by
    intro F hF hq
    have hm' : evo n F (.tmp m) = .bool c := by rw [← hm]; simp only [evo]; rw [hF m hg.2]
    rw [hk]
    refine wd_f (v := .bool (c && q)) hp rfl (fun w _ => ?_) (by rw [agree_blur hF]; exact kk F)
    cases c with
    | true => simp [EX, execOp, hm', asBool, Result.andThen, hq rfl]
    | false => simp [EX, execOp, hm', asBool, Result.andThen, evo_const]
  rw [← List.take_append_drop k l]
  refine wd_append _ _ _ _ ?_
  cases hc : c with
  | true =>
    refine wd_mono ?_ _ _ _ (hy hc)
    rintro a w ⟨F, rfl, hF, hq, rfl⟩
    exact key F hF fun _ => hq
  | false =>
    refine wd_passed hj hg.2 hm (by rw [hc]; rfl) _ _ hg.1 agree_refl fun F hF => ?_
    exact key F hF fun h => by rw [hc] at h; cases h
theorem wd_or {m y : Nat} {c q : Bool} (j k : Nat) (ts : List Nat) {l rest : List (Nat × Bool)} {ip : Nat} {d : Option Nat} {ty : TypeId} {pos : String} {aft : Array Edge}
    (hk : l.drop k = (ip, true) :: rest) (hp : ops[ip]? = some ⟨d, .pick (.tmp m) (.const (.bool true)) (.tmp y), ty, pos, aft, none⟩)
    (hj : (ops[j]?).bind (·.dst) = some m) (hm : evo n f (.tmp m) = .bool c) (hg : (okGD ops j false ts (l.take k) && !isIn ts m) = true)
    (hy : c = false → WD r P ops S (AmpD n f ds w ts y q) (l.take k) (mk n f ds) w)
    (kk : ∀ h, WD r P ops S N rest (mk n (updo (blur f h ts) d (.bool (c || q))) ds) w) : WD r P ops S N l (mk n f ds) w := by
  simp only [Bool.and_eq_true, Bool.not_eq_true'] at hg
  have key : ∀ F, agree F f ts → (c = false → evo n F (.tmp y) = .bool q) → WD r P ops S N (l.drop k) (mk n F ds) w := by
    intro F hF hq
    have hm' : evo n F (.tmp m) = .bool c := by rw [← hm]; simp only [evo]; rw [hF m hg.2]
    rw [hk]
    refine wd_f (v := .bool (c || q)) hp rfl (fun w _ => ?_) (by rw [agree_blur hF]; exact kk F)
    cases c with
    | false => simp [EX, execOp, hm', asBool, Result.andThen, hq rfl]
    | true => simp [EX, execOp, hm', asBool, Result.andThen, evo_const]
  rw [← List.take_append_drop k l]
  refine wd_append _ _ _ _ ?_
  cases hc : c with
  | false =>
    refine wd_mono ?_ _ _ _ (hy hc)
    rintro a w ⟨F, rfl, hF, hq, rfl⟩
    exact key F hF fun _ => hq
  | true =>
    refine wd_passed hj hg.2 hm (by rw [hc]; rfl) _ _ hg.1 agree_refl fun F hF => ?_
    exact key F hF fun h => by rw [hc] at h; cases h
end amp
end draw
/-! What is unfolded is evaluated: guards would be looked up in the frame, an array. -/
attribute [irreducible] W WL WD WT
end Go.Proofs.Ytcceeigkgklkoaa
