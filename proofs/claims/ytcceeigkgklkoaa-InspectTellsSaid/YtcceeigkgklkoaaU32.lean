/- 32-bit words: the engine's laws in the words of UInt32. -/
import Derived.Test.YtcceeigkgklkoaaList
import Derived.Laws.BitsAllLaws
set_option linter.unusedSimpArgs false
set_option linter.unusedVariables false
namespace Go.Proofs.Ytcceeigkgklkoaa
open Go.RowKit

def uv (x : UInt32) : Value := .int .u32 (x.toNat : Int)
def layU : Lay UInt32 := Lay.flat 1 (fun x => [uv x]) (fun _ => rfl) (fun _ => rfl)
def rotr (x : UInt32) (n : Nat) : UInt32 := (x >>> UInt32.ofNat n) ||| (x <<< UInt32.ofNat (32 - n))
theorem getD_at {α : Type} {l : List α} {i : Nat} (d : α) (hi : i < l.length) : l.getD i d = l[i] := by
  rw [List.getD_eq_getElem?_getD, List.getElem?_eq_getElem hi]; rfl
theorem Ls.u32 {K : Nat → Obj → Prop} {w : World} {v : Value} {l : List UInt32} (h : Ls layU K w v l) {i : Nat} (hi : i < l.length) : w.cell? ((baseOf v).add (i * 1)) = some (uv (l.getD i 0)) := by
  obtain ⟨cs, hc, hu⟩ := h.at_ hi
  have hc : cs = [uv l[i]] := hc
  subst hc
  have := hu 0 _ rfl
  rw [getD_at 0 hi]
  exact this
theorem Ls.u8 {K : Nat → Obj → Prop} {w : World} {v : Value} {l : List UInt8} (h : Ls layB K w v l) {i : Nat} (hi : i < l.length) : w.cell? ((baseOf v).add (i * 1)) = some (bv (l.getD i 0)) := by
  obtain ⟨cs, hc, hu⟩ := h.at_ hi
  have hc : cs = [bv l[i]] := hc
  subst hc
  have := hu 0 _ rfl
  rw [getD_at 0 hi]
  exact this
section
variable {P : Program} {n : Nat} {f : Nat → Value} {w : World} {d : Option Nat} {ty : TypeId} {pos : String} {aft : Array Edge} {gd : Option (Nat × Bool)} {t t2 : TypeId} {x y : Operand} {a b : UInt32}
theorem ex_addU (hx : evo n f x = uv a) (hy : evo n f y = uv b) : EX P ⟨d, .binOp .add t x y t2, ty, pos, aft, gd⟩ n f w (uv (a + b)) w := by
  refine ex_eq (ex_add hx hy) ?_
  unfold uv
  rw [UInt32.toNat_add, IntKind.wrap_u32']
  congr 1
theorem ex_mulU (hx : evo n f x = uv a) (hy : evo n f y = .int .u32 (b.toNat : Int)) : EX P ⟨d, .binOp .mul t x y t2, ty, pos, aft, gd⟩ n f w (uv (a * b)) w := by
  refine ex_eq (ex_mul hx hy) ?_
  unfold uv
  rw [UInt32.toNat_mul, IntKind.wrap_u32']
  congr 1
theorem ex_xorU (hx : evo n f x = uv a) (hy : evo n f y = uv b) : EX P ⟨d, .binOp .xor t x y t2, ty, pos, aft, gd⟩ n f w (uv (a ^^^ b)) w := by
  refine ex_eq (ex_xor hx hy) ?_
  rw [u32_xor_nat _ _ a.toNat_lt b.toNat_lt, ← UInt32.toNat_xor]; rfl
theorem ex_andU (hx : evo n f x = uv a) (hy : evo n f y = uv b) : EX P ⟨d, .binOp .and t x y t2, ty, pos, aft, gd⟩ n f w (uv (a &&& b)) w := by
  refine ex_eq (ex_and hx hy) ?_
  rw [u32_and_nat _ _ a.toNat_lt b.toNat_lt, ← UInt32.toNat_and]; rfl
theorem ex_orU (hx : evo n f x = uv a) (hy : evo n f y = uv b) : EX P ⟨d, .binOp .or t x y t2, ty, pos, aft, gd⟩ n f w (uv (a ||| b)) w := by
  refine ex_eq (ex_or hx hy) ?_
  rw [u32_or_nat _ _ a.toNat_lt b.toNat_lt, ← UInt32.toNat_or]; rfl
theorem xor_all (a : UInt32) : (4294967295 : UInt32) ^^^ a = ~~~ a := by
  apply UInt32.eq_of_toBitVec_eq
  rw [UInt32.toBitVec_xor, UInt32.toBitVec_not]
  exact BitVec.allOnes_xor
theorem ex_complU (hx : evo n f x = uv a) : EX P ⟨d, .unOp .xor t x, ty, pos, aft, gd⟩ n f w (uv (~~~ a)) w := by
  refine ex_eq (ex_compl hx) ?_
  rw [← xor_all]
  have := u32_xor_nat 4294967295 a.toNat (by omega) a.toNat_lt
  rw [show (if IntKind.u32.signed = true then -1 else IntKind.u32.max) = ((4294967295 : Nat) : Int) from by decide, this]
  unfold uv
  rw [UInt32.toNat_xor]; rfl
theorem ex_shrU {k2 : IntKind} {c : Nat} (hx : evo n f x = uv a) (hy : evo n f y = .int k2 (c : Int)) (h : c < 32) : EX P ⟨d, .binOp .shr t x y t2, ty, pos, aft, gd⟩ n f w (uv (a >>> UInt32.ofNat c)) w := by
  refine ex_eq (ex_shrN (m := a.toNat) (c := c) hx hy (by show c ≤ 32; omega)) ?_
  unfold uv
  rw [UInt32.toNat_shiftRight, UInt32.toNat_ofNat', Nat.shiftRight_eq_div_pow, Nat.mod_eq_of_lt (show c < 2 ^ 32 by omega), Nat.mod_eq_of_lt h]
theorem ex_shlU {k2 : IntKind} {c : Nat} {c' : Int} (hx : evo n f x = uv a) (hy : evo n f y = .int k2 c') (hc : c' = (c : Int)) (h : c < 32) : EX P ⟨d, .binOp .shl t x y t2, ty, pos, aft, gd⟩ n f w (uv (a <<< UInt32.ofNat c)) w := by
  subst hc
  refine ex_eq (ex_shl hx hy (by omega)) ?_
  unfold uv
  rw [UInt32.toNat_shiftLeft, UInt32.toNat_ofNat', Nat.shiftLeft_eq, Nat.mod_eq_of_lt (show c < 2 ^ 32 by omega), Nat.mod_eq_of_lt h, IntKind.wrap_u32']
  have e : min ((c : Int)).toNat IntKind.u32.bits = c := by simp [IntKind.bits]; omega
  rw [e]
  congr 1
theorem ex_quoU {c : Nat} (hx : evo n f x = uv a) (hy : evo n f y = .int .u32 (c : Int)) (h : 0 < c) (hc : c < 4294967296) : EX P ⟨d, .binOp .quo t x y t2, ty, pos, aft, gd⟩ n f w (uv (a / UInt32.ofNat c)) w := by
  refine ex_eq (ex_quo hx hy (by omega)) ?_
  have h2 : a.toNat / c < 4294967296 := Nat.lt_of_le_of_lt (Nat.div_le_self _ _) a.toNat_lt
  have e : ((a.toNat : Int).tdiv (c : Int)) = ((a.toNat / c : Nat) : Int) := by
    rw [Int.tdiv_eq_ediv_of_nonneg (by omega)]
    exact (Int.natCast_ediv _ _).symm
  unfold uv
  rw [UInt32.toNat_div, UInt32.toNat_ofNat', Nat.mod_eq_of_lt (show c < 2 ^ 32 by omega), IntKind.wrap_u32', e]
  congr 1
  generalize a.toNat / c = z at *
  omega
theorem ex_remU {c : Nat} (hx : evo n f x = uv a) (hy : evo n f y = .int .u32 (c : Int)) (h : 0 < c) (hc : c < 4294967296) : EX P ⟨d, .binOp .rem t x y t2, ty, pos, aft, gd⟩ n f w (uv (a % UInt32.ofNat c)) w := by
  refine ex_eq (ex_rem hx hy (by omega)) ?_
  unfold uv
  rw [UInt32.toNat_mod, UInt32.toNat_ofNat', Nat.mod_eq_of_lt (show c < 2 ^ 32 by omega), Int.tmod_eq_emod_of_nonneg (by omega)]
  rw [← Int.natCast_emod]
theorem ex_convYU {src dst : TypeId} {c : UInt8} {s : TypeDesc} (hs : P.underlying src = some s) (hd : P.underlying dst = some (.int .u32)) (hx : evo n f x = bv c) : EX P ⟨d, .convert src dst x, ty, pos, aft, gd⟩ n f w (uv c.toUInt32) w := by
  refine ex_eq (ex_conv hs hd hx) ?_
  unfold uv
  rw [UInt8.toNat_toUInt32, IntKind.wrap_u32']
  have := c.toNat_lt
  congr 1
  omega
theorem ex_convUY {src dst : TypeId} {s : TypeDesc} (hs : P.underlying src = some s) (hd : P.underlying dst = some (.int .u8)) (hx : evo n f x = uv a) : EX P ⟨d, .convert src dst x, ty, pos, aft, gd⟩ n f w (bv a.toUInt8) w := by
  refine ex_eq (ex_conv hs hd hx) ?_
  unfold bv
  rw [UInt32.toNat_toUInt8, IntKind.wrap_u8']
  congr 1
end
end Go.Proofs.Ytcceeigkgklkoaa
