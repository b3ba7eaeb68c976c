/- The engine's laws, an operation each. -/
import Derived.Test.YtcceeigkgklkoaaEng
import Derived.Shelf.Abstract
set_option linter.unusedSimpArgs false
set_option linter.unusedVariables false
namespace Go.Proofs.Ytcceeigkgklkoaa
open Go.RowKit

section
variable {P : Program} {n : Nat} {f : Nat → Value} {w : World} {d : Option Nat} {ty : TypeId} {pos : String} {aft : Array Edge} {g : Option (Nat × Bool)}

theorem ex_move {x : Operand} : EX P ⟨d, .move x, ty, pos, aft, g⟩ n f w (evo n f x) w := rfl
theorem ex_assign {x : Operand} : EX P ⟨d, .assign x, ty, pos, aft, g⟩ n f w (evo n f x) w := rfl
/-! Moves that lay the value open: by the value's kind. A move that keeps its value closed doubles the frame's term. -/
section moves
variable {x : Operand}
theorem mI {k : IntKind} {a : Int} (hx : evo n f x = .int k a) : EX P ⟨d, .move x, ty, pos, aft, g⟩ n f w (.int k a) w := hx ▸ rfl
theorem mB {b : Bool} (hx : evo n f x = .bool b) : EX P ⟨d, .move x, ty, pos, aft, g⟩ n f w (.bool b) w := hx ▸ rfl
theorem mS {A : Option Addr} {l c : Nat} (hx : evo n f x = .slice A l c) : EX P ⟨d, .move x, ty, pos, aft, g⟩ n f w (.slice A l c) w := hx ▸ rfl
theorem mP {p : Option Addr} (hx : evo n f x = .pointer p) : EX P ⟨d, .move x, ty, pos, aft, g⟩ n f w (.pointer p) w := hx ▸ rfl
theorem mF {fn : Fn} {xs cs : Array Value} (hx : evo n f x = .func fn xs cs) : EX P ⟨d, .move x, ty, pos, aft, g⟩ n f w (.func fn xs cs) w := hx ▸ rfl
theorem mT {vs : Array Value} (hx : evo n f x = .tuple vs) : EX P ⟨d, .move x, ty, pos, aft, g⟩ n f w (.tuple vs) w := hx ▸ rfl
theorem mV {v : Value} (hx : evo n f x = v) : EX P ⟨d, .move x, ty, pos, aft, g⟩ n f w (v) w := hx ▸ rfl
theorem aI {k : IntKind} {a : Int} (hx : evo n f x = .int k a) : EX P ⟨d, .assign x, ty, pos, aft, g⟩ n f w (.int k a) w := hx ▸ rfl
theorem aB {b : Bool} (hx : evo n f x = .bool b) : EX P ⟨d, .assign x, ty, pos, aft, g⟩ n f w (.bool b) w := hx ▸ rfl
theorem aS {A : Option Addr} {l c : Nat} (hx : evo n f x = .slice A l c) : EX P ⟨d, .assign x, ty, pos, aft, g⟩ n f w (.slice A l c) w := hx ▸ rfl
theorem aP {p : Option Addr} (hx : evo n f x = .pointer p) : EX P ⟨d, .assign x, ty, pos, aft, g⟩ n f w (.pointer p) w := hx ▸ rfl
theorem aF {fn : Fn} {xs cs : Array Value} (hx : evo n f x = .func fn xs cs) : EX P ⟨d, .assign x, ty, pos, aft, g⟩ n f w (.func fn xs cs) w := hx ▸ rfl
theorem aT {vs : Array Value} (hx : evo n f x = .tuple vs) : EX P ⟨d, .assign x, ty, pos, aft, g⟩ n f w (.tuple vs) w := hx ▸ rfl
theorem aV {v : Value} (hx : evo n f x = v) : EX P ⟨d, .assign x, ty, pos, aft, g⟩ n f w (v) w := hx ▸ rfl
theorem mZ {st : ByteArray} (hx : evo n f x = .string st) : EX P ⟨d, .move x, ty, pos, aft, g⟩ n f w (.string st) w := hx ▸ rfl
theorem mM {mr : Option Nat} (hx : evo n f x = .map mr) : EX P ⟨d, .move x, ty, pos, aft, g⟩ n f w (.map mr) w := hx ▸ rfl
theorem mD {k : FloatKind} {fb : Nat} (hx : evo n f x = .float k fb) : EX P ⟨d, .move x, ty, pos, aft, g⟩ n f w (.float k fb) w := hx ▸ rfl
theorem mA {cs : Array Value} (hx : evo n f x = .agg cs) : EX P ⟨d, .move x, ty, pos, aft, g⟩ n f w (.agg cs) w := hx ▸ rfl
theorem mN  (hx : evo n f x = .nilFunc) : EX P ⟨d, .move x, ty, pos, aft, g⟩ n f w (.nilFunc) w := hx ▸ rfl
theorem aZ {st : ByteArray} (hx : evo n f x = .string st) : EX P ⟨d, .assign x, ty, pos, aft, g⟩ n f w (.string st) w := hx ▸ rfl
theorem aM {mr : Option Nat} (hx : evo n f x = .map mr) : EX P ⟨d, .assign x, ty, pos, aft, g⟩ n f w (.map mr) w := hx ▸ rfl
theorem aD {k : FloatKind} {fb : Nat} (hx : evo n f x = .float k fb) : EX P ⟨d, .assign x, ty, pos, aft, g⟩ n f w (.float k fb) w := hx ▸ rfl
theorem aA {cs : Array Value} (hx : evo n f x = .agg cs) : EX P ⟨d, .assign x, ty, pos, aft, g⟩ n f w (.agg cs) w := hx ▸ rfl
theorem aN  (hx : evo n f x = .nilFunc) : EX P ⟨d, .assign x, ty, pos, aft, g⟩ n f w (.nilFunc) w := hx ▸ rfl
end moves
theorem ex_pick_t {c x y : Operand} {b : Bool} (hc : evo n f c = .bool true) (hx : evo n f x = .bool b) : EX P ⟨d, .pick c x y, ty, pos, aft, g⟩ n f w (.bool b) w := by
  simp [EX, execOp, hc, asBool, Result.andThen, hx]
theorem ex_pick_f {c x y : Operand} {b : Bool} (hc : evo n f c = .bool false) (hy : evo n f y = .bool b) : EX P ⟨d, .pick c x y, ty, pos, aft, g⟩ n f w (.bool b) w := by
  simp [EX, execOp, hc, asBool, Result.andThen, hy]
theorem ex_not {t : TypeId} {x : Operand} {b : Bool} (hx : evo n f x = .bool b) : EX P ⟨d, .unOp .not t x, ty, pos, aft, g⟩ n f w (.bool !b) w := by
  simp [EX, execOp, hx, Op.unary, Result.andThen]
theorem ex_neg {t : TypeId} {x : Operand} {k : IntKind} {a : Int} (hx : evo n f x = .int k a) : EX P ⟨d, .unOp .neg t x, ty, pos, aft, g⟩ n f w (.int k (k.wrap (0 - a))) w := by
  simp [EX, execOp, hx, Op.unary, Op.intArith, Result.andThen]
theorem ex_neg64 {t : TypeId} {x : Operand} {a : Int} (hx : evo n f x = .int .i64 a) (h1 : -9223372036854775807 ≤ a) (h2 : a ≤ 9223372036854775808) : EX P ⟨d, .unOp .neg t x, ty, pos, aft, g⟩ n f w (.int .i64 (-a)) w := by
  have h := ex_neg (P := P) (w := w) (d := d) (ty := ty) (pos := pos) (aft := aft) (g := g) (t := t) hx
  rw [IntKind.wrap_i64] at h
  rwa [show (0 - a + 9223372036854775808) % 18446744073709551616 - 9223372036854775808 = -a from by omega] at h
theorem ex_extract {x : Operand} {i : Nat} {vs : Array Value} {v : Value} (hx : evo n f x = .tuple vs) (hv : vs[i]? = some v) : EX P ⟨d, .extract x i, ty, pos, aft, g⟩ n f w v w := by
  simp [EX, execOp, hx, Instr.extract, hv, Result.andThen]
theorem ex_makeFunc {fn : Fn} {c : List Operand} : EX P ⟨d, .makeFunc fn #[] c.toArray, ty, pos, aft, g⟩ n f w (.func fn #[] (c.map (evo n f)).toArray) w := by
  simp [EX, execOp, Instr.makeFunc, Result.andThen]
theorem ex_nilCheck {x : Operand} {ad : Addr} (hx : evo n f x = .pointer (some ad)) : EX P ⟨d, .nilCheck x, ty, pos, aft, g⟩ n f w (.pointer (some ad)) w := by
  simp [EX, execOp, hx]

/-! ### Integers -/
section ints
variable {t t2 : TypeId} {x y : Operand} {k : IntKind} {a b : Int}
theorem ex_bin {op : BinOp} {v : Value} (hx : evo n f x = .int k a) (hy : evo n f y = .int k b) (h : (binOp op t (.int k a) (.int k b)).run P w = .ok v w) : EX P ⟨d, .binOp op t x y t2, ty, pos, aft, g⟩ n f w v w := by
  simp only [EX, execOp, hx, hy, eqGuard]
  cases op <;> simp [h, Result.andThen]
theorem ex_add (hx : evo n f x = .int k a) (hy : evo n f y = .int k b) : EX P ⟨d, .binOp .add t x y t2, ty, pos, aft, g⟩ n f w (.int k (k.wrap (a + b))) w := ex_bin hx hy (by simp [binOp, Op.intArith])
theorem ex_sub (hx : evo n f x = .int k a) (hy : evo n f y = .int k b) : EX P ⟨d, .binOp .sub t x y t2, ty, pos, aft, g⟩ n f w (.int k (k.wrap (a - b))) w := ex_bin hx hy (by simp [binOp, Op.intArith])
theorem ex_mul (hx : evo n f x = .int k a) (hy : evo n f y = .int k b) : EX P ⟨d, .binOp .mul t x y t2, ty, pos, aft, g⟩ n f w (.int k (k.wrap (a * b))) w := ex_bin hx hy (by simp [binOp, Op.intArith])
theorem ex_quo (hx : evo n f x = .int k a) (hy : evo n f y = .int k b) (h : b ≠ 0) : EX P ⟨d, .binOp .quo t x y t2, ty, pos, aft, g⟩ n f w (.int k (k.wrap (a.tdiv b))) w := ex_bin hx hy (by simp [binOp, Op.intDiv, h])
theorem ex_rem (hx : evo n f x = .int k a) (hy : evo n f y = .int k b) (h : b ≠ 0) : EX P ⟨d, .binOp .rem t x y t2, ty, pos, aft, g⟩ n f w (.int k (a.tmod b)) w := ex_bin hx hy (by simp [binOp, Op.intDiv, h])
theorem ex_lss (hx : evo n f x = .int k a) (hy : evo n f y = .int k b) : EX P ⟨d, .binOp .lss t x y t2, ty, pos, aft, g⟩ n f w (.bool (decide (a < b))) w := ex_bin hx hy (by simp [binOp, Op.intCmp])
theorem ex_leq (hx : evo n f x = .int k a) (hy : evo n f y = .int k b) : EX P ⟨d, .binOp .leq t x y t2, ty, pos, aft, g⟩ n f w (.bool (decide (a ≤ b))) w := ex_bin hx hy (by simp [binOp, Op.intCmp])
theorem ex_gtr (hx : evo n f x = .int k a) (hy : evo n f y = .int k b) : EX P ⟨d, .binOp .gtr t x y t2, ty, pos, aft, g⟩ n f w (.bool (decide (b < a))) w := ex_bin hx hy (by simp [binOp, Op.intCmp])
theorem ex_geq (hx : evo n f x = .int k a) (hy : evo n f y = .int k b) : EX P ⟨d, .binOp .geq t x y t2, ty, pos, aft, g⟩ n f w (.bool (decide (b ≤ a))) w := ex_bin hx hy (by simp [binOp, Op.intCmp])
theorem ex_eql (hx : evo n f x = .int k a) (hy : evo n f y = .int k b) : EX P ⟨d, .binOp .eql t x y t2, ty, pos, aft, g⟩ n f w (.bool (decide (a = b))) w := ex_bin hx hy (by
  simp only [binOp, Op.intCmp]
  have : (a == b) = decide (a = b) := by by_cases h : a = b <;> simp [h]
  simp [this])
theorem ex_neq (hx : evo n f x = .int k a) (hy : evo n f y = .int k b) : EX P ⟨d, .binOp .neq t x y t2, ty, pos, aft, g⟩ n f w (.bool (!decide (a = b))) w := ex_bin hx hy (by
  simp only [binOp, Op.intCmp]
  have : (a != b) = !decide (a = b) := by by_cases h : a = b <;> simp [h]
  simp [this])
theorem ex_and (hx : evo n f x = .int k a) (hy : evo n f y = .int k b) : EX P ⟨d, .binOp .and t x y t2, ty, pos, aft, g⟩ n f w (.int k (bits .and k a b)) w := ex_bin hx hy (by simp [binOp, Op.intBits, bits])
theorem ex_or (hx : evo n f x = .int k a) (hy : evo n f y = .int k b) : EX P ⟨d, .binOp .or t x y t2, ty, pos, aft, g⟩ n f w (.int k (bits .or k a b)) w := ex_bin hx hy (by simp [binOp, Op.intBits, bits])
theorem ex_xor (hx : evo n f x = .int k a) (hy : evo n f y = .int k b) : EX P ⟨d, .binOp .xor t x y t2, ty, pos, aft, g⟩ n f w (.int k (bits .xor k a b)) w := ex_bin hx hy (by simp [binOp, Op.intBits, bits])
theorem ex_bin2 {op : BinOp} {v : Value} {k2 : IntKind} (hx : evo n f x = .int k a) (hy : evo n f y = .int k2 b) (h : (binOp op t (.int k a) (.int k2 b)).run P w = .ok v w) : EX P ⟨d, .binOp op t x y t2, ty, pos, aft, g⟩ n f w v w := by
  simp only [EX, execOp, hx, hy, eqGuard]
  cases op <;> simp [h, Result.andThen]
theorem ex_shl {k2 : IntKind} (hx : evo n f x = .int k a) (hy : evo n f y = .int k2 b) (h : 0 ≤ b) : EX P ⟨d, .binOp .shl t x y t2, ty, pos, aft, g⟩ n f w (.int k (k.wrap (a * 2 ^ (min b.toNat k.bits)))) w := ex_bin2 hx hy (by
  have : ¬ b < 0 := by omega
  simp [binOp, Op.shift, this])
theorem ex_shrN {k2 : IntKind} {m c : Nat} (hx : evo n f x = .int k (m : Int)) (hy : evo n f y = .int k2 (c : Int)) (h : c ≤ k.bits) : EX P ⟨d, .binOp .shr t x y t2, ty, pos, aft, g⟩ n f w (.int k ((m / 2 ^ c : Nat) : Int)) w := ex_bin2 hx hy (by
  have h0 : ¬ (c : Int) < 0 := by omega
  have e : min ((c : Int)).toNat k.bits = c := by simp; omega
  simp only [binOp, Op.shift, h0, if_false, e]
  have e2 : ((m : Int)).fdiv (2 ^ c) = ((m / 2 ^ c : Nat) : Int) := by
    rw [Int.fdiv_eq_ediv_of_nonneg _ (Int.le_of_lt (Int.pow_pos (by omega)))]
    push_cast
    rfl
  rw [e2]; rfl)
theorem ex_shr {k2 : IntKind} (hx : evo n f x = .int k a) (hy : evo n f y = .int k2 b) (h : 0 ≤ b) : EX P ⟨d, .binOp .shr t x y t2, ty, pos, aft, g⟩ n f w (.int k (a.fdiv (2 ^ (min b.toNat k.bits)))) w := ex_bin2 hx hy (by
  have : ¬ b < 0 := by omega
  simp [binOp, Op.shift, this])
/-- Sums, differences and products that fit. -/
theorem wrap64_id {a : Int} (h1 : -9223372036854775808 ≤ a) (h2 : a ≤ 9223372036854775807) : IntKind.i64.wrap a = a := by rw [IntKind.wrap_i64]; omega
theorem wrapu64_id {a : Int} (h1 : 0 ≤ a) (h2 : a ≤ 18446744073709551615) : IntKind.u64.wrap a = a := by
  have : IntKind.u64.wrap a = a % 18446744073709551616 := by simp [IntKind.wrap, IntKind.bits, IntKind.signed]
  omega
theorem wrapu8_id {a : Int} (h1 : 0 ≤ a) (h2 : a ≤ 255) : IntKind.u8.wrap a = a := by rw [IntKind.wrap_u8]; omega
theorem wrapu32_id {a : Int} (h1 : 0 ≤ a) (h2 : a ≤ 4294967295) : IntKind.u32.wrap a = a := by rw [IntKind.wrap_u32]; omega
theorem wrapi32_id {a : Int} (h1 : -2147483648 ≤ a) (h2 : a ≤ 2147483647) : IntKind.i32.wrap a = a := by rw [IntKind.wrap_i32]; omega
theorem wrapu64 (a : Int) : IntKind.u64.wrap a = a % 18446744073709551616 := by simp [IntKind.wrap, IntKind.bits, IntKind.signed]
theorem ex_add64 (hx : evo n f x = .int .i64 a) (hy : evo n f y = .int .i64 b) (h1 : -9223372036854775808 ≤ a + b) (h2 : a + b ≤ 9223372036854775807) : EX P ⟨d, .binOp .add t x y t2, ty, pos, aft, g⟩ n f w (.int .i64 (a + b)) w := by
  have h := ex_add (P := P) (w := w) (d := d) (ty := ty) (pos := pos) (aft := aft) (g := g) (t := t) (t2 := t2) hx hy
  rwa [wrap64_id h1 h2] at h
theorem ex_sub64 (hx : evo n f x = .int .i64 a) (hy : evo n f y = .int .i64 b) (h1 : -9223372036854775808 ≤ a - b) (h2 : a - b ≤ 9223372036854775807) : EX P ⟨d, .binOp .sub t x y t2, ty, pos, aft, g⟩ n f w (.int .i64 (a - b)) w := by
  have h := ex_sub (P := P) (w := w) (d := d) (ty := ty) (pos := pos) (aft := aft) (g := g) (t := t) (t2 := t2) hx hy
  rwa [wrap64_id h1 h2] at h
theorem ex_mul64 (hx : evo n f x = .int .i64 a) (hy : evo n f y = .int .i64 b) (h1 : -9223372036854775808 ≤ a * b) (h2 : a * b ≤ 9223372036854775807) : EX P ⟨d, .binOp .mul t x y t2, ty, pos, aft, g⟩ n f w (.int .i64 (a * b)) w := by
  have h := ex_mul (P := P) (w := w) (d := d) (ty := ty) (pos := pos) (aft := aft) (g := g) (t := t) (t2 := t2) hx hy
  rwa [wrap64_id h1 h2] at h
/-- Whatever the result is called. -/
theorem ex_eq {o : Oper} {v v' : Value} {w' : World} (h : EX P o n f w v w') (e : v = v') : EX P o n f w v' w' := e ▸ h
theorem ex_conv {src dst : TypeId} {k' : IntKind} {s : TypeDesc} (hs : P.underlying src = some s) (hd : P.underlying dst = some (.int k')) (hx : evo n f x = .int k a) : EX P ⟨d, .convert src dst x, ty, pos, aft, g⟩ n f w (.int k' (k'.wrap a)) w := by
  simp [EX, execOp, hx, convert, run_underlying hs, run_underlying hd, Conv.intToInt, Result.andThen]
theorem ex_conv_id {src dst : TypeId} {k' : IntKind} {s : TypeDesc} (hs : P.underlying src = some s) (hd : P.underlying dst = some (.int k')) (hx : evo n f x = .int k a) (hw : k'.wrap a = a) : EX P ⟨d, .convert src dst x, ty, pos, aft, g⟩ n f w (.int k' a) w := by
  have h := ex_conv (P := P) (w := w) (d := d) (ty := ty) (pos := pos) (aft := aft) (g := g) hs hd hx
  rwa [hw] at h
end ints

/-! ### Memory -/
/-- No struct, no array. -/
def flatB : TypeDesc → Bool
  | .struct _ | .array _ _ => false
  | _ => true
theorem run_isAgg_flat {t : TypeId} {s : TypeDesc} (hs : P.underlying t = some s) (hb : flatB s = true) : (isAgg t).run P w = .ok false w :=
  run_isAgg_plain hs (by cases s <;> first | rfl | cases hb) w
theorem ex_alloc {e : TypeId} {z : Value} {size bytes : Nat} (hz : Inf P e z size bytes) : EX P ⟨d, .alloc e, ty, pos, aft, g⟩ n f w (.pointer (some ⟨w.heap.size, 0, none⟩)) (w.alloc (.cells z.cells e)) := by
  obtain ⟨i, hi, hz, _, _⟩ := info_parts hz
  simp [EX, execOp, Instr.alloc, zeroValue, typeInfo, hi, hz, newVar, newRow, Result.andThen, newObj, Sem.run]
  try rfl
theorem ex_box {e : TypeId} {x : Operand} {v : Value} {cs : Array Value} (hx : evo n f x = v) (hc : v.cells = cs) : EX P ⟨d, .box e x, ty, pos, aft, g⟩ n f w (.pointer (some ⟨w.heap.size, 0, none⟩)) (w.alloc (.cells cs e)) := by
  subst hx; subst hc
  simp [EX, execOp, Instr.box, newVar, newRow, Result.andThen, newObj, Sem.run]
  try rfl
theorem ex_load {t : TypeId} {x : Operand} {ad : Addr} {v : Value} (hx : evo n f x = .pointer (some ad)) (h : (loadVar t ad).run P w = .ok v w) : EX P ⟨d, .load t x, ty, pos, aft, g⟩ n f w v w := by
  simp [EX, execOp, Instr.loadAt, hx, Instr.sureAddr, h, Result.andThen]
theorem run_load1 {t : TypeId} {s : TypeDesc} {ad : Addr} {v : Value} (hs : P.underlying t = some s) (hb : flatB s = true) (hc : w.cell? ad = some v) : (loadVar t ad).run P w = .ok v w := by
  simp [loadVar, run_isAgg_flat hs hb, load, Sem.run, hc, Result.andThen]
theorem ex_load1 {t : TypeId} {s : TypeDesc} {x : Operand} {ad : Addr} {v : Value} (hs : P.underlying t = some s) (hx : evo n f x = .pointer (some ad)) (hc : w.cell? ad = some v) (hb : flatB s = true := by rfl) : EX P ⟨d, .load t x, ty, pos, aft, g⟩ n f w v w :=
  ex_load hx (run_load1 hs hb hc)
theorem es_store1 {t : TypeId} {z : Value} {bytes : Nat} {x y : Operand} {ad : Addr} {v u : Value} (hi : Inf P t z 1 bytes) (hx : evo n f x = .pointer (some ad)) (hy : evo n f y = v) (hv : v.oneCell' = true) (hc : w.cell? ad = some u) (hf : w.frozen? ad = false) :
    ES P ⟨d, .store t x y, ty, pos, aft, g⟩ n f w (w.setCell ad v) := by
  subst hy
  obtain ⟨i, hi, _, h1, _⟩ := info_parts hi
  have hcs : (evo n f y).cells = #[evo n f y] := by
    cases h : evo n f y <;> first | rfl | (rw [h] at hv; cases hv)
  have hst : (store ad (evo n f y)).run P w = .ok () (w.setCell ad (evo n f y)) := by
    cases h : evo n f y <;> first | (rw [h] at hv; cases hv; done) | simp [store, Sem.run, hc, hf]
  simp [ES, execOp, Instr.storeAt, hx, Instr.sureAddr, storeVar, hcs, sizeOf, typeInfo, hi, h1, storeCells, Addr.add, Result.andThen, hst]
/-- Where a struct's field lies. -/
def Fld (P : Program) (s : TypeId) (j off : Nat) : Prop := ∃ fs fl i, P.underlying s = some (.struct fs) ∧ fs[j]? = some fl ∧ P.info? fl.type = some i ∧ i.size ≠ 0 ∧ fl.offset = off
theorem fld_mk {P : Program} {s : TypeId} {j off : Nat} (fs : Array Field) (hs : P.underlying s = some (.struct fs)) (h : (match fs[j]? with | some fl => (fl.offset == off) && (match P.info? fl.type with | some i => i.size != 0 | none => false) | none => false) = true) : Fld P s j off := by
  cases hj : fs[j]? with
  | none => rw [hj] at h; cases h
  | some fl =>
    rw [hj] at h
    simp only [Bool.and_eq_true, beq_iff_eq] at h
    obtain ⟨h1, h2⟩ := h
    cases hi : P.info? fl.type with
    | none => rw [hi] at h2; cases h2
    | some i =>
      rw [hi] at h2
      exact ⟨fs, fl, i, hs, hj, hi, by simpa using h2, h1⟩
theorem ex_fieldAddr {s : TypeId} {x : Operand} {j off : Nat} {ad : Addr} (hF : Fld P s j off) (hx : evo n f x = .pointer (some ad)) :
    EX P ⟨d, .fieldAddr s x j, ty, pos, aft, g⟩ n f w (.pointer (some (ad.add off))) w := by
  obtain ⟨fs, fl, i, hs, hj, hi, hz, rfl⟩ := hF
  simp [EX, execOp, Instr.fieldAt, hx, Instr.sureAddr, run_underlying hs, hj, fieldPlace, sizeOf, typeInfo, hi, hz, Result.andThen]
theorem ex_indexAddr {t e : TypeId} {x y : Operand} {ad : Addr} {len cap size : Nat} {k : IntKind} {a : Int} {z0 : Value} {bytes : Nat} (ht : P.underlying t = some (.slice e)) (hi : Inf P e z0 size bytes) (hx : evo n f x = .slice (some ad) len cap) (hy : evo n f y = .int k a) (h0 : 0 ≤ a) (h1 : a < len) :
    EX P ⟨d, .indexAddr t x y, ty, pos, aft, g⟩ n f w (.pointer (some (ad.add (a.toNat * size)))) w := by
  obtain ⟨i, hi, _, hsz, _⟩ := info_parts hi
  simp [EX, execOp, Instr.indexAt, hx, hy, asIntOf, run_underlying ht, h0, h1, sizeOf, typeInfo, hi, hsz, Result.andThen]

/-- The same, the index a natural number. -/
theorem ex_idxN {t e : TypeId} {x y : Operand} {ad : Addr} {len cap size j : Nat} {k : IntKind} {a : Int} {z0 : Value} {bytes : Nat} (ht : P.underlying t = some (.slice e)) (hi : Inf P e z0 size bytes) (hx : evo n f x = .slice (some ad) len cap) (hy : evo n f y = .int k a) (hj : a = (j : Int)) (h1 : j < len) :
    EX P ⟨d, .indexAddr t x y, ty, pos, aft, g⟩ n f w (.pointer (some (ad.add (j * size)))) w := by
  subst hj
  exact ex_indexAddr ht hi hx hy (by omega) (by omega)
theorem ex_idx1 {t e : TypeId} {x y : Operand} {ad : Addr} {len cap j : Nat} {k : IntKind} {a : Int} {z0 : Value} {bytes : Nat} (ht : P.underlying t = some (.slice e)) (hi : Inf P e z0 1 bytes) (hx : evo n f x = .slice (some ad) len cap) (hy : evo n f y = .int k a) (hj : a = (j : Int)) (h1 : j < len) :
    EX P ⟨d, .indexAddr t x y, ty, pos, aft, g⟩ n f w (.pointer (some (ad.add j))) w := by
  have := ex_idxN (d := d) (ty := ty) (pos := pos) (aft := aft) (g := g) (w := w) ht hi hx hy hj h1
  rwa [Nat.mul_one] at this
theorem bool_t {p : Prop} [Decidable p] (h : p) : Value.bool (decide p) = .bool true := congrArg _ (decide_eq_true h)
theorem bool_f {p : Prop} [Decidable p] (h : ¬ p) : Value.bool (decide p) = .bool false := congrArg _ (decide_eq_false h)
theorem bool_nt {p : Prop} [Decidable p] (h : ¬ p) : Value.bool (!decide p) = .bool true := by simp [h]
theorem bool_nf {p : Prop} [Decidable p] (h : p) : Value.bool (!decide p) = .bool false := by simp [h]

/-! ### Slices -/
theorem ex_len {t e : TypeId} {x : Operand} {A : Option Addr} {l c : Nat} (ht : P.underlying t = some (.slice e)) (hx : evo n f x = .slice A l c) : EX P ⟨d, .call { callee := .builtin .len, args := #[x], argTypes := #[t] }, ty, pos, aft, g⟩ n f w (.int .i64 (l : Int)) w := by
  simp [EX, execOp, resolve, invoke, builtin, hx, Builtin.len_, run_underlying ht, goInt, Result.andThen]
theorem ex_lenS {t : TypeId} {x : Operand} {s : ByteArray} (ht : P.underlying t = some .string) (hx : evo n f x = .string s) : EX P ⟨d, .call { callee := .builtin .len, args := #[x], argTypes := #[t] }, ty, pos, aft, g⟩ n f w (.int .i64 (s.size : Int)) w := by
  simp [EX, execOp, resolve, invoke, builtin, hx, Builtin.len_, run_underlying ht, goInt, Result.andThen]
/-- What a part of a slice is called. -/
def cutA (A : Option Addr) (lo size : Nat) (full : Bool) : Option Addr := bif full then A else A.map (·.add (lo * size))
theorem run_sliceBound {k : IntKind} {a : Int} {y : Nat} {code : BoundsCode} (h0 : 0 ≤ a) (h1 : a ≤ y) : (Instr.sliceBound (.int k a) y code).run P w = .ok a.toNat w := by
  simp [Instr.sliceBound, asIntOf, h0, h1]
theorem ex_slice_lo {t e : TypeId} {x y : Operand} {A : Option Addr} {len cap size : Nat} {k : IntKind} {a : Int} {z0 : Value} {bytes : Nat} (ht : P.underlying t = some (.slice e)) (hi : Inf P e z0 size bytes) (hx : evo n f x = .slice A len cap) (hy : evo n f y = .int k a) (h0 : 0 ≤ a) (h1 : a ≤ len) :
    EX P ⟨d, .slice t x (some y) none none, ty, pos, aft, g⟩ n f w (.slice (if cap = a.toNat then A else A.map (·.add (a.toNat * size))) (len - a.toNat) (cap - a.toNat)) w := by
  obtain ⟨i, hi, _, hsz, _⟩ := info_parts hi
  simp [EX, execOp, Instr.sliceAt, run_underlying ht, hx, hy, Instr.slice, Instr.sliceBounds, run_sliceBound h0 h1, sizeOf, typeInfo, hi, hsz, Result.andThen]
theorem ex_slice_hi {t e : TypeId} {x y : Operand} {A : Option Addr} {len cap size : Nat} {k : IntKind} {a : Int} {z0 : Value} {bytes : Nat} (ht : P.underlying t = some (.slice e)) (hi : Inf P e z0 size bytes) (hx : evo n f x = .slice A len cap) (hy : evo n f y = .int k a) (h0 : 0 ≤ a) (h1 : a ≤ cap) :
    EX P ⟨d, .slice t x none (some y) none, ty, pos, aft, g⟩ n f w (.slice (if cap = 0 then A else A.map (·.add 0)) a.toNat cap) w := by
  obtain ⟨i, hi, _, hsz, _⟩ := info_parts hi
  simp [EX, execOp, Instr.sliceAt, run_underlying ht, hx, hy, Instr.slice, Instr.sliceBounds, run_sliceBound h0 h1, sizeOf, typeInfo, hi, hsz, Result.andThen]
theorem ex_slice_lohi {t e : TypeId} {x y z : Operand} {A : Option Addr} {len cap size : Nat} {k k2 : IntKind} {a b : Int} {z0 : Value} {bytes : Nat} (ht : P.underlying t = some (.slice e)) (hi : Inf P e z0 size bytes) (hx : evo n f x = .slice A len cap) (hy : evo n f y = .int k a) (hz : evo n f z = .int k2 b) (h0 : 0 ≤ a) (h1 : a ≤ b) (h2 : b ≤ cap) :
    EX P ⟨d, .slice t x (some y) (some z) none, ty, pos, aft, g⟩ n f w (.slice (if cap = a.toNat then A else A.map (·.add (a.toNat * size))) (b.toNat - a.toNat) (cap - a.toNat)) w := by
  obtain ⟨i, hi, _, hsz, _⟩ := info_parts hi
  have h3 : 0 ≤ b := by omega
  have h4 : a ≤ (b.toNat : Int) := by omega
  simp [EX, execOp, Instr.sliceAt, run_underlying ht, hx, hy, hz, Instr.slice, Instr.sliceBounds, run_sliceBound h3 h2, run_sliceBound h0 h4, sizeOf, typeInfo, hi, hsz, Result.andThen]
theorem one_cell_lit (g : Nat → Value) (v : Value) : (Array.map g (Array.range 1)).setIfInBounds 0 v = #[v] := by
  apply Array.ext
  · simp
  · intro i h1 h2
    simp at h1
    subst h1
    simp
/-- A literal of one element of one cell: the variadic's box. -/
theorem ex_box1 {t e : TypeId} {x : Operand} {v z : Value} {bytes : Nat} (ht : P.underlying t = some (.slice e)) (hi : Inf P e z 1 bytes) (hx : evo n f x = v) (hv : v.oneCell' = true) :
    EX P ⟨d, .buildSlice t 1 #[(0, x)], ty, pos, aft, g⟩ n f w (.slice (some ⟨w.heap.size, 0, none⟩) 1 1) (w.alloc (.cells #[v] e)) := by
  obtain ⟨i, hi, hz, h1, _⟩ := info_parts hi
  subst hx
  have hcs : (evo n f x).cells = #[evo n f x] := by
    cases h : evo n f x <;> first | rfl | (rw [h] at hv; cases hv)
  simp [EX, execOp, Instr.buildSlice, run_underlying ht, sizeOf, typeInfo, hi, h1, zeroValue, hz, Instr.fill, hcs, one_cell_lit, newRow, newObj, Result.andThen, Sem.run]
  try rfl
theorem ex_append {t e : TypeId} {x y : Operand} {z : Value} {size bytes base : Nat} (ht : P.underlying t = some (.slice e)) (hinfo : Inf P e z size bytes) (hzs : z.cells.size = size) (hsz : 0 < size)
    {v : Value} {m : Nat} {xs : List Value} (hx : evo n f x = v) (hown : w.ownsRow base e size v m xs)
    {A : Option Addr} {k c : Nat} {ys : List Value} (hy : evo n f y = .slice A k c) (hl : ys.length = k * size) (hr : Rds w A ys) (h1 : ∀ u ∈ ys, u.oneCell' = true)
    (hbytes : m + k ≤ 140737488355328 ∧ (m + k) * bytes ≤ 140737488355328) (hbase : base ≤ w.heap.size) :
    ∃ v' w', EX P ⟨d, .call { callee := .builtin .append, args := #[x, y], argTypes := #[t, t] }, ty, pos, aft, g⟩ n f w v' w' ∧ w'.ownsRow base e size v' (m + k) (xs ++ ys) ∧ w.grownBy w' v.ownBlock ∧
      (v'.ownBlock = v.ownBlock ∨ v'.ownBlock = some w.heap.size) := by
  obtain ⟨v', w', hrun, h2, h3, h4⟩ := run_app (P := P) w base t ty e z size bytes ht hinfo hzs hsz v m xs hown A k c ys hl hr h1 hbytes hbase
  refine ⟨v', w', ?_, h2, h3, h4⟩
  simp [EX, execOp, resolve, invoke, builtin, hx, hy, hrun, Result.andThen]

theorem wl_app {r : Option Nat} {ops : Array Oper} {rest : List Oper} {Q : Post} {ds : List Deferred} {t e : TypeId} {x y : Operand} {z : Value} {size bytes base : Nat} (ht : P.underlying t = some (.slice e)) (hinfo : Inf P e z size bytes) (hzs : z.cells.size = size) (hsz : 0 < size)
    {v : Value} {m : Nat} {xs : List Value} (hx : evo n f x = v) (hown : w.ownsRow base e size v m xs)
    {A : Option Addr} {k c : Nat} {ys : List Value} (hy : evo n f y = .slice A k c) (hl : ys.length = k * size) (hr : Rds w A ys) (h1 : ∀ u ∈ ys, u.oneCell' = true)
    (hbytes : m + k ≤ 140737488355328 ∧ (m + k) * bytes ≤ 140737488355328) (hbase : base ≤ w.heap.size)
    (h : ∀ v' w', w'.ownsRow base e size v' (m + k) (xs ++ ys) → w.grownBy w' v.ownBlock → (v'.ownBlock = v.ownBlock ∨ v'.ownBlock = some w.heap.size) → WL r P ops Q rest (mk n (updo f d v') ds) w') :
    WL r P ops Q (⟨d, .call { callee := .builtin .append, args := #[x, y], argTypes := #[t, t] }, ty, pos, aft, none⟩ :: rest) (mk n f ds) w := by
  obtain ⟨v', w', hex, h2, h3, h4⟩ := ex_append (d := d) (ty := ty) (pos := pos) (aft := aft) (g := none) ht hinfo hzs hsz hx hown hy hl hr h1 hbytes hbase
  exact wl_v hex (h v' w' h2 h3 h4)

/-! ### Calls -/
theorem ec_fn {k : FuncId} {xs : List Operand} {ts : Array TypeId} (hk : Enters P k) : EC P ⟨d, .call { callee := .value (.func k), args := xs.toArray, argTypes := ts }, ty, pos, aft, g⟩ n f w k (xs.map (evo n f)).toArray := by
  have := hk (xs.map (evo n f)).toArray w
  simp [EC, execOp, resolve, evo, Deferred.ofValue, invoke] at this ⊢
  exact this
theorem ec_clo {x : Operand} {k : FuncId} {xs : List Operand} {cap : List Value} {ts : Array TypeId} (hk : Enters P k) (hx : evo n f x = .func (.func k) #[] cap.toArray) : EC P ⟨d, .call { callee := .value x, args := xs.toArray, argTypes := ts }, ty, pos, aft, g⟩ n f w k (xs.map (evo n f) ++ cap).toArray := by
  have := hk (xs.map (evo n f) ++ cap).toArray w
  simp [EC, execOp, resolve, hx, Deferred.ofValue, invoke] at this ⊢
  exact this
end

/-! ### A function's end -/
section ends
variable {P : Program} {fn : Func} {R : Ending → World → Prop} {n : Nat} {f : Nat → Value} {w : World}
theorem getD_mk' (n : Nat) (f : Nat → Value) (t : Nat) : ((Array.ofFn (n := n) fun i => f i.val)[t]?).getD undef = bif Nat.blt t n then f t else undef := by
  rw [get_mk]; cases Nat.blt t n <;> rfl
theorem end0 (hr : fn.results = #[]) (h : R (.returned (.tuple #[])) w) : bodyPost P fn R .normal (mk n f []) w := ⟨rfl, _, by simp [results, hr], h⟩
theorem end0r (hr : fn.results = #[]) (h : R (.returned (.tuple #[])) w) : bodyPost P fn R .ret (mk n f []) w := ⟨rfl, _, by simp [results, hr], h⟩
theorem end1 {t : Nat} (hr : fn.results = #[.tmp t]) (h : R (.returned (evo n f (.tmp t))) w) : bodyPost P fn R .ret (mk n f []) w := by
  refine ⟨rfl, _, ?_, h⟩
  simp only [results, hr, mk]
  simp [getD_mk', evo]
theorem end2 {t u : Nat} (hr : fn.results = #[.tmp t, .tmp u]) (h : R (.returned (.tuple #[evo n f (.tmp t), evo n f (.tmp u)])) w) : bodyPost P fn R .ret (mk n f []) w := by
  refine ⟨rfl, _, ?_, h⟩
  simp only [results, hr, mk]
  simp [getD_mk', evo]
theorem end3 {t u s : Nat} (hr : fn.results = #[.tmp t, .tmp u, .tmp s]) (h : R (.returned (.tuple #[evo n f (.tmp t), evo n f (.tmp u), evo n f (.tmp s)])) w) : bodyPost P fn R .ret (mk n f []) w := by
  refine ⟨rfl, _, ?_, h⟩
  simp only [results, hr, mk]
  simp [getD_mk', evo]
theorem end4 {t u s q : Nat} (hr : fn.results = #[.tmp t, .tmp u, .tmp s, .tmp q]) (h : R (.returned (.tuple #[evo n f (.tmp t), evo n f (.tmp u), evo n f (.tmp s), evo n f (.tmp q)])) w) : bodyPost P fn R .ret (mk n f []) w := by
  refine ⟨rfl, _, ?_, h⟩
  simp only [results, hr, mk]
  simp [getD_mk', evo]
end ends

/-! ### What a frame holds, laid open -/
theorem upd_self {f : Nat → Value} {k : Nat} {v : Value} (h : f k = v) : upd f k v = f := by
  funext t
  unfold upd
  cases hb : Nat.beq t k with
  | true => rw [Nat.eq_of_beq_eq_true hb]; exact h.symm
  | false => rfl
theorem xp1 {f : Nat → Value} {k0 : Nat} {v0 : Value} (h0 : f k0 = v0) : ∃ g, f = (upd g k0 v0) := ⟨f, by rw [upd_self h0]⟩
theorem xp2 {f : Nat → Value} {k0 k1 : Nat} {v0 v1 : Value} (h0 : f k0 = v0) (h1 : f k1 = v1) : ∃ g, f = (upd (upd g k0 v0) k1 v1) := ⟨f, by rw [upd_self h0, upd_self h1]⟩
theorem xp3 {f : Nat → Value} {k0 k1 k2 : Nat} {v0 v1 v2 : Value} (h0 : f k0 = v0) (h1 : f k1 = v1) (h2 : f k2 = v2) : ∃ g, f = (upd (upd (upd g k0 v0) k1 v1) k2 v2) := ⟨f, by rw [upd_self h0, upd_self h1, upd_self h2]⟩
theorem xp4 {f : Nat → Value} {k0 k1 k2 k3 : Nat} {v0 v1 v2 v3 : Value} (h0 : f k0 = v0) (h1 : f k1 = v1) (h2 : f k2 = v2) (h3 : f k3 = v3) : ∃ g, f = (upd (upd (upd (upd g k0 v0) k1 v1) k2 v2) k3 v3) := ⟨f, by rw [upd_self h0, upd_self h1, upd_self h2, upd_self h3]⟩
theorem xp5 {f : Nat → Value} {k0 k1 k2 k3 k4 : Nat} {v0 v1 v2 v3 v4 : Value} (h0 : f k0 = v0) (h1 : f k1 = v1) (h2 : f k2 = v2) (h3 : f k3 = v3) (h4 : f k4 = v4) : ∃ g, f = (upd (upd (upd (upd (upd g k0 v0) k1 v1) k2 v2) k3 v3) k4 v4) := ⟨f, by rw [upd_self h0, upd_self h1, upd_self h2, upd_self h3, upd_self h4]⟩
theorem xp6 {f : Nat → Value} {k0 k1 k2 k3 k4 k5 : Nat} {v0 v1 v2 v3 v4 v5 : Value} (h0 : f k0 = v0) (h1 : f k1 = v1) (h2 : f k2 = v2) (h3 : f k3 = v3) (h4 : f k4 = v4) (h5 : f k5 = v5) : ∃ g, f = (upd (upd (upd (upd (upd (upd g k0 v0) k1 v1) k2 v2) k3 v3) k4 v4) k5 v5) := ⟨f, by rw [upd_self h0, upd_self h1, upd_self h2, upd_self h3, upd_self h4, upd_self h5]⟩
theorem xp7 {f : Nat → Value} {k0 k1 k2 k3 k4 k5 k6 : Nat} {v0 v1 v2 v3 v4 v5 v6 : Value} (h0 : f k0 = v0) (h1 : f k1 = v1) (h2 : f k2 = v2) (h3 : f k3 = v3) (h4 : f k4 = v4) (h5 : f k5 = v5) (h6 : f k6 = v6) : ∃ g, f = (upd (upd (upd (upd (upd (upd (upd g k0 v0) k1 v1) k2 v2) k3 v3) k4 v4) k5 v5) k6 v6) := ⟨f, by rw [upd_self h0, upd_self h1, upd_self h2, upd_self h3, upd_self h4, upd_self h5, upd_self h6]⟩
theorem xp8 {f : Nat → Value} {k0 k1 k2 k3 k4 k5 k6 k7 : Nat} {v0 v1 v2 v3 v4 v5 v6 v7 : Value} (h0 : f k0 = v0) (h1 : f k1 = v1) (h2 : f k2 = v2) (h3 : f k3 = v3) (h4 : f k4 = v4) (h5 : f k5 = v5) (h6 : f k6 = v6) (h7 : f k7 = v7) : ∃ g, f = (upd (upd (upd (upd (upd (upd (upd (upd g k0 v0) k1 v1) k2 v2) k3 v3) k4 v4) k5 v5) k6 v6) k7 v7) := ⟨f, by rw [upd_self h0, upd_self h1, upd_self h2, upd_self h3, upd_self h4, upd_self h5, upd_self h6, upd_self h7]⟩
theorem xp9 {f : Nat → Value} {k0 k1 k2 k3 k4 k5 k6 k7 k8 : Nat} {v0 v1 v2 v3 v4 v5 v6 v7 v8 : Value} (h0 : f k0 = v0) (h1 : f k1 = v1) (h2 : f k2 = v2) (h3 : f k3 = v3) (h4 : f k4 = v4) (h5 : f k5 = v5) (h6 : f k6 = v6) (h7 : f k7 = v7) (h8 : f k8 = v8) : ∃ g, f = (upd (upd (upd (upd (upd (upd (upd (upd (upd g k0 v0) k1 v1) k2 v2) k3 v3) k4 v4) k5 v5) k6 v6) k7 v7) k8 v8) := ⟨f, by rw [upd_self h0, upd_self h1, upd_self h2, upd_self h3, upd_self h4, upd_self h5, upd_self h6, upd_self h7, upd_self h8]⟩
theorem xp10 {f : Nat → Value} {k0 k1 k2 k3 k4 k5 k6 k7 k8 k9 : Nat} {v0 v1 v2 v3 v4 v5 v6 v7 v8 v9 : Value} (h0 : f k0 = v0) (h1 : f k1 = v1) (h2 : f k2 = v2) (h3 : f k3 = v3) (h4 : f k4 = v4) (h5 : f k5 = v5) (h6 : f k6 = v6) (h7 : f k7 = v7) (h8 : f k8 = v8) (h9 : f k9 = v9) : ∃ g, f = (upd (upd (upd (upd (upd (upd (upd (upd (upd (upd g k0 v0) k1 v1) k2 v2) k3 v3) k4 v4) k5 v5) k6 v6) k7 v7) k8 v8) k9 v9) := ⟨f, by rw [upd_self h0, upd_self h1, upd_self h2, upd_self h3, upd_self h4, upd_self h5, upd_self h6, upd_self h7, upd_self h8, upd_self h9]⟩
theorem xp11 {f : Nat → Value} {k0 k1 k2 k3 k4 k5 k6 k7 k8 k9 k10 : Nat} {v0 v1 v2 v3 v4 v5 v6 v7 v8 v9 v10 : Value} (h0 : f k0 = v0) (h1 : f k1 = v1) (h2 : f k2 = v2) (h3 : f k3 = v3) (h4 : f k4 = v4) (h5 : f k5 = v5) (h6 : f k6 = v6) (h7 : f k7 = v7) (h8 : f k8 = v8) (h9 : f k9 = v9) (h10 : f k10 = v10) : ∃ g, f = (upd (upd (upd (upd (upd (upd (upd (upd (upd (upd (upd g k0 v0) k1 v1) k2 v2) k3 v3) k4 v4) k5 v5) k6 v6) k7 v7) k8 v8) k9 v9) k10 v10) := ⟨f, by rw [upd_self h0, upd_self h1, upd_self h2, upd_self h3, upd_self h4, upd_self h5, upd_self h6, upd_self h7, upd_self h8, upd_self h9, upd_self h10]⟩
theorem xp12 {f : Nat → Value} {k0 k1 k2 k3 k4 k5 k6 k7 k8 k9 k10 k11 : Nat} {v0 v1 v2 v3 v4 v5 v6 v7 v8 v9 v10 v11 : Value} (h0 : f k0 = v0) (h1 : f k1 = v1) (h2 : f k2 = v2) (h3 : f k3 = v3) (h4 : f k4 = v4) (h5 : f k5 = v5) (h6 : f k6 = v6) (h7 : f k7 = v7) (h8 : f k8 = v8) (h9 : f k9 = v9) (h10 : f k10 = v10) (h11 : f k11 = v11) : ∃ g, f = (upd (upd (upd (upd (upd (upd (upd (upd (upd (upd (upd (upd g k0 v0) k1 v1) k2 v2) k3 v3) k4 v4) k5 v5) k6 v6) k7 v7) k8 v8) k9 v9) k10 v10) k11 v11) := ⟨f, by rw [upd_self h0, upd_self h1, upd_self h2, upd_self h3, upd_self h4, upd_self h5, upd_self h6, upd_self h7, upd_self h8, upd_self h9, upd_self h10, upd_self h11]⟩
end Go.Proofs.Ytcceeigkgklkoaa
