/- crc, viaticumref02: what they return. -/
import Derived.Test.YtcceeigkgklkoaaCrcP
import Derived.Test.YtcceeigkgklkoaaRef01
namespace Go.Proofs.Ytcceeigkgklkoaa
open Go.RowKit

/-- What four steps do to each four bits. -/
def isTable (cs : Array Value) : Prop := cs.size = 16 ∧ ∀ j, j < 16 → cs[j]? = some (.int .u32 (shk 4 j : Int))
theorem sh_one {r : Nat} (h : r < 4294967296) (h1 : r % 2 = 1) : bits .xor .u32 ((r / 2 : Nat) : Int) 3988292384 = (sh r : Int) := by
  have := u32_xor_nat (r / 2) 3988292384 (by omega) (by decide)
  rw [show ((3988292384 : Nat) : Int) = 3988292384 from rfl] at this
  rw [this, sh, if_pos h1]
theorem and1 {r : Nat} (h : r < 4294967296) : bits .and .u32 (r : Int) 1 = ((r % 2 : Nat) : Int) := by
  have := u32_and_nat r 1 h (by decide)
  rw [show ((1 : Nat) : Int) = 1 from rfl] at this
  rw [this, Nat.and_one_is_mod]
theorem crc_table (w : World) : Calls Try.prog 63 #[] w fun e w' => ∃ v, e = .returned v ∧ ∃ cs, v = .agg cs ∧ isTable cs ∧ Old w w' := by
  refine enter (l := []) 25 Try.func63 rfl rfl (by simp) ?_
  refine w_sreg (wl_v (ex_alloc inf106) <| wl_end ?_)
  refine w_sreg (wl_v (ex_alloc inf106) <| wl_end ?_)
  refine w_seq ?_
  refine w_sreg (wl_v (mI rfl) <| wl_end ?_)
  refine w_block ?_
  have B0 := Box.new w 106 (Array.replicate 16 (Value.int .u32 0))
  have HB0 : Old w (w.alloc (.cells (Array.replicate 16 (Value.int .u32 0)) 106)) := (Old.refl w).alloc _
  have hz : (w.alloc (.cells (Array.replicate 16 (Value.int .u32 0)) 106)).heap.size = w.heap.size + 1 := by simp
  generalize hg0 : w.heap.size = g0 at *
  have B1 := Box.new (w.alloc (.cells (Array.replicate 16 (Value.int .u32 0)) 106)) 106 (Array.replicate 16 (Value.int .u32 0))
  have HB1 := HB0.alloc (.cells (Array.replicate 16 (Value.int .u32 0)) 106)
  have B0' := B0.old ((Old.refl _).alloc (.cells (Array.replicate 16 (Value.int .u32 0)) 106))
  generalize hg1 : (w.alloc (.cells (Array.replicate 16 (Value.int .u32 0)) 106)).heap.size = g1 at *
  have hne : g0 ≠ g1 := by omega
  refine w_loop (fun m f w' => ∃ (i : Nat) (cs : Array Value), f 0 = .pointer (some ⟨g0, 0, none⟩) ∧ f 1 = .pointer (some ⟨g1, 0, none⟩) ∧ f 4 = .int .i64 (i : Int) ∧ m = 16 - i ∧ i ≤ 16 ∧ Old w w' ∧ Box w' g0 106 (Array.replicate 16 (Value.int .u32 0)) ∧ Box w' g1 106 cs ∧ cs.size = 16 ∧ ∀ j, j < i → cs[j]? = some (.int .u32 (shk 4 j : Int))) 16 ?_ ?_
  · exact ⟨0, _, rfl, congrArg (fun g => Value.pointer (some ⟨g, 0, none⟩)) hg1, rfl, rfl, by omega, HB1, B0', B1, by simp, by omega⟩
  rintro m f w' ⟨i, cs, h0, h1, h4, rfl, hi, HB, BX0, BX1, hcs, hall⟩
  obtain ⟨f, rfl⟩ := xp3 h0 h1 h4
  refine w_sreg (wl_v (ex_lss rfl rfl) <| wl_end ?_)
  refine w_seq (w_ifx rfl (fun h1 => w_exit (exit_then (exit_then (exit_hit (then_k ?_))))) (fun h1 => w_skip (then_k ?_)))
  · have he : i = 16 := by omega
    subst he
    refine w_sreg (wl_v (ex_ldA Try.underlying106 rfl inf106 rfl BX1 hcs) <| wl_stA inf106 rfl rfl ?_ hcs BX0 (by simp) fun w1 BY0 U0 => wl_end ?_)
    · rw [Array.all_eq_true]
      intro j hj
      have := hall j (by omega)
      rw [Array.getElem?_eq_getElem hj] at this
      injection this with this
      rw [this]; rfl
    exact w_ret (end1A rfl Try.underlying106 rfl inf106 rfl BY0 hcs ⟨_, rfl, cs, rfl, ⟨hcs, hall⟩, U0.old HB (by omega)⟩)
  have hlt : i < 16 := by omega
  refine w_seq ?_
  refine w_block ?_
  refine w_sreg (wl_v (mI rfl) <| wl_v (aI rfl) <| wl_end ?_)
  refine w_sreg (wl_v (mI rfl) <| wl_v (ex_convW Try.underlying3 Try.underlying73 rfl (u32id (by omega))) <| wl_v (aI rfl) <| wl_end ?_)
  refine w_seq ?_
  refine w_sreg (wl_v (mI rfl) <| wl_end ?_)
  refine w_block ?_
  refine w_loop (fun m f w1 => ∃ (j : Nat), f 0 = .pointer (some ⟨g0, 0, none⟩) ∧ f 1 = .pointer (some ⟨g1, 0, none⟩) ∧ f 2 = .int .i64 (i : Int) ∧ f 3 = .int .u32 (shk j i : Int) ∧ f 4 = .int .i64 (i : Int) ∧ f 9 = .int .i64 (j : Int) ∧ m = 4 - j ∧ j ≤ 4 ∧ w1 = w') 4 ?_ ?_
  · exact ⟨0, rfl, rfl, rfl, rfl, rfl, rfl, rfl, by omega, rfl⟩
  rintro m f w1 ⟨j, h0, h1, h2, h3, h4, h9, rfl, hj, rfl⟩
  obtain ⟨f, rfl⟩ := xp6 h0 h1 h2 h3 h4 h9
  refine w_sreg (wl_v (ex_lss rfl rfl) <| wl_end ?_)
  refine w_seq (w_ifx rfl (fun h2 => w_exit (exit_then (exit_then (exit_hit (then_k ?_))))) (fun h2 => w_skip (then_k ?_)))
  · have he : j = 4 := by omega
    subst he
    refine w_reg (wl_v (mI rfl) <| wl_v (mI rfl) <| wl_v (ex_idxA Try.underlying106 inf73 rfl rfl (by omega) (by omega)) <| wl_st inf73 rfl rfl rfl BX1 (by omega) fun w2 BX1' U1 => wl_nil (norm_block (then_k ?_)))
    refine w_reg (wl_v (ex_add64 rfl rfl (by omega) (by omega)) <| wl_v (mI rfl) <| wl_nil (round_end (16 - (i + 1)) (by omega) ⟨i + 1, _, rfl, rfl, rfl, rfl, by omega, U1.old HB (by omega), BX0.upd U1 hne, BX1', by simpa using hcs, ?_⟩))
    intro j' hj'
    rw [Array.getElem?_setIfInBounds]
    by_cases he : j' = i
    · subst he
      rw [if_pos (by omega), if_pos (by omega)]; rfl
    · rw [if_neg (by omega)]
      exact hall j' (by omega)
  have hsl := shk_lt (r := i) (by omega) j
  refine w_seq ?_
  refine w_block ?_
  refine w_sreg (wl_v (mI rfl) <| wl_v (ex_eq (ex_and rfl rfl) (congrArg (Value.int .u32) (and1 hsl))) <| wl_v (ex_eql rfl rfl) <| wl_end ?_)
  refine w_ifp rfl (fun h3 => ?_) (fun h3 => ?_)
  · refine w_reg (wl_v (mI rfl) <| wl_v (ex_shrN (c := 1) rfl rfl (by decide)) <| wl_v (ex_eq (ex_xor rfl rfl) (congrArg (Value.int .u32) (sh_one hsl (by omega)))) <| wl_v (aI rfl) <| wl_nil (norm_block (then_k ?_)))
    exact w_reg (wl_v (ex_add64 rfl rfl (by omega) (by omega)) <| wl_v (mI rfl) <| wl_nil (round_end (4 - (j + 1)) (by omega) ⟨j + 1, rfl, rfl, rfl, rfl, rfl, rfl, rfl, by omega, rfl⟩))
  refine w_reg (wl_v (mI rfl) <| wl_v (ex_shrN (c := 1) rfl rfl (by decide)) <| wl_v (aI rfl) <| wl_nil (norm_block (then_k ?_)))
  refine w_reg (wl_v (ex_add64 rfl rfl (by omega) (by omega)) <| wl_v (mI rfl) <| wl_nil (round_end (4 - (j + 1)) (by omega) ⟨j + 1, rfl, rfl, rfl, ?_, rfl, rfl, rfl, by omega, rfl⟩))
  show Value.int .u32 ((shk j i / 2 ^ 1 : Nat) : Int) = .int .u32 (sh (shk j i) : Int)
  rw [sh, if_neg (by omega), Nat.pow_one]

theorem and15 {r : Nat} (h : r < 4294967296) : bits .and .u32 (r : Int) 15 = ((r % 16 : Nat) : Int) := by
  have := u32_and_nat r 15 h (by decide)
  rw [show ((15 : Nat) : Int) = 15 from rfl] at this
  rw [this, show (15 : Nat) = 2 ^ 4 - 1 from rfl, Nat.and_two_pow_sub_one_eq_mod]
theorem nib_step {r : Nat} (h : r < 4294967296) : bits .xor .u32 ((r / 2 ^ 4 : Nat) : Int) (shk 4 (r % 16) : Int) = (shk 4 r : Int) := by
  rw [u32_xor_nat _ _ (by omega) (shk_lt (by omega) 4), nibble r]
theorem crc_More (l : List UInt8) (v : Value) (w : World) (hv : IsB w v l) :
    Calls Try.prog 59 #[.int .u32 0, v] w fun e w' => ∃ v, e = .returned v ∧ v = .int .u32 (crcv l : Int) ∧ Old w w' := by
  obtain ⟨A, c, rfl, hc, hc2, HR⟩ := hv
  refine enter (l := [_, _]) 39 Try.func59 rfl rfl (by simp) ?_
  refine w_sreg (wl_v (aI rfl) <| wl_end ?_)
  refine w_sreg (wl_c (ec_fn en63) (crc_table w) ?_)
  rintro _ w1 ⟨cs, rfl, hT, HB⟩
  have B0 := Box.new w1 106 (Array.replicate 16 (Value.int .u32 0))
  have HB1 := HB.alloc (.cells (Array.replicate 16 (Value.int .u32 0)) 106)
  have hle := HB.size
  refine wl_v (ex_alloc inf106) <| wl_stA inf106 rfl rfl ?_ hT.1 B0 (by simp) fun w2 BX U0 => wl_end ?_
  · rw [Array.all_eq_true]
    intro j hj
    have := hT.2 j (by have := hT.1; omega)
    rw [Array.getElem?_eq_getElem hj] at this
    injection this with this
    rw [this]; rfl
  have HB2 := U0.old HB1 hle
  generalize w1.heap.size = g at *
  have hc0 : bits .xor .u32 (if IntKind.u32.signed = true then -1 else IntKind.u32.max) 0 = 4294967295 := by decide
  refine w_sreg (wl_v (mI rfl) <| wl_v (ex_eq (ex_compl rfl) (congrArg (Value.int .u32) hc0)) <| wl_v (aI rfl) <| wl_end ?_)
  refine w_seq ?_
  refine w_sreg (wl_v (mS rfl) <| wl_v (ex_len Try.underlying23 rfl) <| wl_v (mI rfl) <| wl_end ?_)
  refine w_block ?_
  refine w_loop (fun m f w' => ∃ (i : Nat), f 5 = .pointer (some ⟨g, 0, none⟩) ∧ f 6 = .int .u32 (crcR (l.take i) : Int) ∧ f 12 = .slice A l.length c ∧ f 13 = .int .i64 (l.length : Int) ∧ f 14 = .int .i64 (i : Int) ∧ m = l.length - i ∧ i ≤ l.length ∧ w' = w2) l.length ?_ ?_
  · exact ⟨0, rfl, rfl, rfl, rfl, rfl, rfl, by omega, rfl⟩
  rintro m f w' ⟨i, h5, h6, h12, h13, h14, rfl, hi, rfl⟩
  obtain ⟨f, rfl⟩ := xp5 h5 h6 h12 h13 h14
  refine w_sreg (wl_v (ex_lss rfl rfl) <| wl_end ?_)
  refine w_seq (w_ifx rfl (fun h1 => w_exit (exit_then (exit_then (exit_hit (then_k ?_))))) (fun h1 => w_skip (then_k ?_)))
  · have he : i = l.length := by omega
    subst he
    have hcc : bits .xor .u32 (if IntKind.u32.signed = true then -1 else IntKind.u32.max) (crcR (l.take l.length) : Int) = (crcv l : Int) := by
      rw [List.take_length]
      show bits .xor .u32 ((4294967295 : Nat) : Int) _ = _
      rw [u32_xor_nat _ _ (by decide) (crcR_lt l), compl32 (crcR_lt l), crcv]
    refine w_sreg (wl_v (mI rfl) <| wl_v (ex_eq (ex_compl rfl) (congrArg (Value.int .u32) hcc)) <| wl_v (aI rfl) <| wl_end ?_)
    exact w_ret (end1 rfl ⟨_, rfl, rfl, HB2⟩)
  have hlt : i < l.length := by omega
  have hcl := crcR_lt (l.take i)
  have hb : l[i].toNat < 256 := l[i].toNat_lt
  obtain ⟨ad, rfl, hcell⟩ := rdB HR hlt
  have hx : bits .xor .u32 (crcR (l.take i) : Int) (l[i].toNat : Int) = ((crcR (l.take i) ^^^ l[i].toNat : Nat) : Int) := u32_xor_nat _ _ hcl (by omega)
  have hxl : crcR (l.take i) ^^^ l[i].toNat < 4294967296 := Nat.xor_lt_two_pow (n := 32) hcl (by omega)
  have hnext := crcR_take l hlt
  unfold crcB at hnext
  rw [shk_add _ 4 4] at hnext
  generalize crcR (l.take i) ^^^ l[i].toNat = x at *
  have hyl := shk_lt hxl 4
  generalize hy : shk 4 x = y at *
  have hg1 := hT.2 (x % 16) (by omega)
  have hg2 := hT.2 (y % 16) (by omega)
  refine w_seq ?_
  refine w_block ?_
  refine w_sreg (wl_v (ex_idx1 Try.underlying23 inf5 rfl rfl rfl (by omega)) <| wl_v (ex_load1 Try.underlying5 rfl (HB2.cell hcell)) <| wl_v (aI rfl) <| wl_end ?_)
  refine w_sreg (wl_v (mI rfl) <| wl_v (mI rfl) <| wl_v (ex_convW Try.underlying5 Try.underlying73 rfl (u32id (by omega))) <| wl_v (ex_eq (ex_xor rfl rfl) (congrArg (Value.int .u32) hx)) <| wl_v (aI rfl) <| wl_end ?_)
  refine w_sreg (wl_v (mI rfl) <| wl_v (ex_shrN (c := 4) rfl rfl (by decide)) <| wl_v (mI rfl) <| wl_v (ex_eq (ex_and rfl rfl) (congrArg (Value.int .u32) (and15 hxl))) <| wl_v (ex_idxA Try.underlying106 inf73 rfl rfl (by omega) (by omega)) <| wl_v (ex_load1 Try.underlying73 rfl (BX.cell (by rw [Nat.zero_add, Nat.mul_one, Int.toNat_natCast]; exact hg1))) <| wl_v (ex_eq (ex_xor rfl rfl) (congrArg (Value.int .u32) (nib_step hxl))) <| wl_v (aI rfl) <| wl_end ?_)
  rw [hy]
  refine w_reg (wl_v (mI rfl) <| wl_v (ex_shrN (c := 4) rfl rfl (by decide)) <| wl_v (mI rfl) <| wl_v (ex_eq (ex_and rfl rfl) (congrArg (Value.int .u32) (and15 hyl))) <| wl_v (ex_idxA Try.underlying106 inf73 rfl rfl (by omega) (by omega)) <| wl_v (ex_load1 Try.underlying73 rfl (BX.cell (by rw [Nat.zero_add, Nat.mul_one, Int.toNat_natCast]; exact hg2))) <| wl_v (ex_eq (ex_xor rfl rfl) (congrArg (Value.int .u32) (nib_step hyl))) <| wl_v (aI rfl) <| wl_nil (norm_block (then_k ?_)))
  refine w_reg (wl_v (ex_add64 rfl rfl (by omega) (by omega)) <| wl_v (mI rfl) <| wl_nil (round_end (l.length - (i + 1)) (by omega) ⟨i + 1, rfl, ?_, rfl, rfl, rfl, rfl, hlt, rfl⟩))
  exact congrArg (fun n : Nat => Value.int .u32 (n : Int)) hnext.symm

theorem crc_Sum (l : List UInt8) (v : Value) (w : World) (hv : IsB w v l) :
    Calls Try.prog 50 #[v] w fun e w' => ∃ v, e = .returned v ∧ v = .int .u32 (crcv l : Int) ∧ Old w w' := by
  refine enter (l := [_]) 5 Try.func50 rfl rfl (by simp) ?_
  refine w_sreg (wl_v (aI rfl) <| wl_end ?_)
  refine w_sreg (wl_v (mV (v := v) rfl) <| wl_c (ec_fn en59) (crc_More l v w hv) ?_)
  rintro _ w1 ⟨rfl, HB⟩
  refine wl_v (aI rfl) <| wl_end ?_
  exact w_ret (end1 rfl ⟨_, rfl, rfl, HB⟩)

theorem u8w' (n : Nat) : IntKind.u8.wrap (n : Int) = ((UInt8.ofNat (n % 256)).toNat : Int) := by rw [IntKind.wrap_u8]; simp
theorem crc_Bytes (n : Nat) (w : World) :
    Calls Try.prog 49 #[.int .u32 (n : Int)] w fun e w' => ∃ v, e = .returned v ∧ OwnB w.heap.size w' v (bytes4 n) ∧ Old w w' := by
  refine enter (l := [_]) 15 Try.func49 rfl rfl (by simp) ?_
  refine w_sreg (wl_v (aS rfl) <| wl_end ?_)
  refine w_sreg (wl_v (mI rfl) <| wl_v (ex_convW Try.underlying73 Try.underlying5 rfl (u8w' _)) <| wl_v (mI rfl) <| wl_v (ex_shrN (c := 8) rfl rfl (by decide)) <| wl_v (ex_convW Try.underlying73 Try.underlying5 rfl (u8w' _)) <| wl_v (mI rfl) <| wl_v (ex_shrN (c := 16) rfl rfl (by decide)) <| wl_v (ex_convW Try.underlying73 Try.underlying5 rfl (u8w' _)) <| wl_v (mI rfl) <| wl_v (ex_shrN (c := 24) rfl rfl (by decide)) <| wl_v (ex_convW Try.underlying73 Try.underlying5 rfl (u8w' _)) <|
    wl_v (ex_buildN Try.underlying23 inf5 (bvs (bytes4 n)) rfl (by simp [bvs, bv, bytes4, Value.cells]) rfl (by decide) (by decide)) <| wl_v (aS rfl) <| wl_end ?_)
  refine w_ret (end1 rfl ⟨_, rfl, ⟨rfl, .inr ⟨w.heap.size, 4, (bvs (bytes4 n)).toArray, rfl, Nat.le_refl _, Box.new _ _ _, Nat.le_refl _, by decide, rfl, rfl⟩⟩, (Old.refl w).alloc _⟩)

theorem R2_Sum (l : List UInt8) (v : Value) (w : World) (hv : IsB w v l) :
    Calls Try.prog 32 #[v] w fun e w' => ∃ v, e = .returned v ∧ v = .int .u32 (crcv l : Int) ∧ w' = w := by
  obtain ⟨A, c, rfl, hc, hc2, HR⟩ := hv
  refine enter (l := [_]) 40 Try.func32 rfl rfl (by simp) ?_
  refine w_sreg (wl_v (aI rfl) <| wl_end ?_)
  refine w_sreg (wl_v (aI rfl) <| wl_end ?_)
  refine w_seq ?_
  refine w_sreg (wl_v (aI rfl) <| wl_end ?_)
  refine w_block ?_
  refine w_loop (fun m f w' => ∃ (i : Nat), f 0 = .slice A l.length c ∧ f 3 = .int .u32 (crcR (l.take i) : Int) ∧ f 4 = .int .i64 (i : Int) ∧ m = l.length - i ∧ i ≤ l.length ∧ w' = w) l.length ?_ ?_
  · exact ⟨0, rfl, rfl, rfl, rfl, by omega, rfl⟩
  rintro m f w' ⟨i, h0, h3, h4, rfl, hi, rfl⟩
  obtain ⟨f, rfl⟩ := xp3 h0 h3 h4
  refine w_seq ?_
  refine w_sreg (wl_v (mI rfl) <| wl_v (mS rfl) <| wl_v (ex_len Try.underlying23 rfl) <| wl_v (ex_lss rfl rfl) <| wl_end ?_)
  refine w_ifx rfl (fun h1 => w_exit (exit_then (exit_then (exit_hit (then_k ?_))))) (fun h1 => w_skip (then_k ?_))
  · have he : i = l.length := by omega
    subst he
    have hcl := crcR_lt l
    refine w_sreg (wl_v (mI rfl) <| wl_v (ex_subW (c := (crcv l : Int)) rfl rfl (by
      rw [List.take_length]
      rw [show (4294967295 : Int) - (crcR l : Int) = (crcv l : Int) from by unfold crcv; omega]
      exact u32id (crcv_lt l))) <| wl_v (aI rfl) <| wl_end ?_)
    exact w_ret (end1 rfl ⟨_, rfl, rfl, rfl⟩)
  have hlt : i < l.length := by omega
  have hcl := crcR_lt (l.take i)
  have hb : l[i].toNat < 256 := l[i].toNat_lt
  obtain ⟨ad, rfl, hcell⟩ := rdB HR hlt
  have hnext := crcR_take l hlt
  unfold crcB at hnext
  generalize crcR (l.take i) = r at *
  generalize l[i].toNat = b at *
  refine w_seq ?_
  refine w_block ?_
  refine w_sreg (wl_v (mS rfl) <| wl_v (mI rfl) <| wl_v (ex_idx1 Try.underlying23 inf5 rfl rfl rfl (by omega)) <| wl_v (ex_load1 Try.underlying5 rfl hcell) <| wl_v (ex_convW Try.underlying5 Try.underlying3 rfl (i64id (by omega))) <| wl_v (aI rfl) <| wl_end ?_)
  refine w_sreg (wl_v (aI rfl) <| wl_end ?_)
  refine w_block ?_
  refine w_loop (fun m f w1 => ∃ (k x y : Nat), f 0 = .slice (some ad) l.length c ∧ f 3 = .int .u32 (x : Int) ∧ f 4 = .int .i64 (i : Int) ∧ f 5 = .int .i64 (y : Int) ∧ f 6 = .int .i64 (k : Int) ∧ m = 8 - k ∧ k ≤ 8 ∧ x < 4294967296 ∧ y = b / 2 ^ k ∧ x ^^^ y = shk k (r ^^^ b) ∧ w1 = w') 8 ?_ ?_
  · exact ⟨0, r, b, rfl, rfl, rfl, rfl, rfl, rfl, by omega, hcl, by simp, rfl, rfl⟩
  rintro m f w1 ⟨k, x, y, h0, h3, h4, h5, h6, rfl, hk, hx, hy, hxy, rfl⟩
  obtain ⟨f, rfl⟩ := xp5 h0 h3 h4 h5 h6
  refine w_seq ?_
  refine w_sreg (wl_v (mI rfl) <| wl_v (ex_lss rfl rfl) <| wl_end ?_)
  refine w_ifx rfl (fun h2 => w_exit (exit_then (exit_then (exit_hit (norm_block (then_k ?_)))))) (fun h2 => w_skip (then_k ?_))
  · have he : k = 8 := by omega
    subst he
    have hy0 : y = 0 := by omega
    subst hy0
    rw [Nat.xor_zero] at hxy
    refine w_reg (wl_v (mI rfl) <| wl_v (ex_add64 rfl rfl (by omega) (by omega)) <| wl_v (aI rfl) <| wl_nil (round_end (l.length - (i + 1)) (by omega) ⟨i + 1, rfl, ?_, rfl, rfl, hlt, rfl⟩))
    rw [hnext, ← hxy]; rfl
  refine w_seq ?_
  refine w_block ?_
  refine w_sreg (wl_v (mI rfl) <| wl_v (ex_remN (q := 2) rfl rfl (by decide)) <| wl_v (ex_convW Try.underlying3 Try.underlying73 rfl (u32id (by omega))) <| wl_v (aI rfl) <| wl_end ?_)
  have hyb : y < 256 := by rw [hy]; exact Nat.lt_of_le_of_lt (Nat.div_le_self _ _) hb
  refine w_sreg (wl_v (mI rfl) <| wl_v (ex_quoN (q := 2) rfl rfl (by decide) (i64id (by omega))) <| wl_v (aI rfl) <| wl_end ?_)
  refine w_sreg (wl_v (mI rfl) <| wl_v (ex_remN (q := 2) rfl rfl (by decide)) <| wl_v (aI rfl) <| wl_end ?_)
  refine w_sreg (wl_v (mI rfl) <| wl_v (ex_quoN (q := 2) rfl rfl (by decide) (u32id (by omega))) <| wl_v (aI rfl) <| wl_end ?_)
  refine w_sreg (wl_v (mI rfl) <| wl_v (mI rfl) <| wl_v (ex_neq rfl rfl) <| wl_end ?_)
  have hbit := sh_bit x y
  have hy' : y / 2 = b / 2 ^ (k + 1) := by rw [hy, Nat.pow_succ, Nat.div_div_eq_div_mul]
  refine w_ifn rfl (fun h3 => ?_) (fun h3 => ?_)
  · rw [if_neg (by omega)] at hbit
    have hx2 := u32_xor_nat (x / 2) 3988292384 (by omega) (by decide)
    refine w_reg (wl_v (mI rfl) <| wl_v (ex_eq (ex_xor rfl rfl) (congrArg (Value.int .u32) hx2)) <| wl_v (aI rfl) <| wl_nil (norm_block (then_k ?_)))
    refine w_reg (wl_v (mI rfl) <| wl_v (ex_add64 rfl rfl (by omega) (by omega)) <| wl_v (aI rfl) <| wl_nil (round_end (8 - (k + 1)) (by omega) ⟨k + 1, _, _, rfl, rfl, rfl, rfl, rfl, rfl, by omega, Nat.xor_lt_two_pow (n := 32) (by omega) (by omega), hy', ?_, rfl⟩))
    rw [← hbit, hxy]; rfl
  rw [if_pos (by omega)] at hbit
  refine w_skip (norm_block (then_k ?_))
  refine w_reg (wl_v (mI rfl) <| wl_v (ex_add64 rfl rfl (by omega) (by omega)) <| wl_v (aI rfl) <| wl_nil (round_end (8 - (k + 1)) (by omega) ⟨k + 1, _, _, rfl, rfl, rfl, rfl, rfl, rfl, by omega, by omega, hy', ?_, rfl⟩))
  rw [← hbit, hxy]; rfl

theorem bytes4_at (n i : Nat) (hi : i < 4) : (bytes4 n).take (i + 1) = (bytes4 n).take i ++ [UInt8.ofNat (n / 256 ^ i % 256)] := by
  rcases i with _ | _ | _ | _ | i
  · simp [bytes4]
  · simp [bytes4]
  · simp [bytes4]
  · simp [bytes4]
  · omega
theorem R2_Bytes (n : Nat) (hn : n < 4294967296) (w : World) :
    Calls Try.prog 31 #[.int .u32 (n : Int)] w fun e w' => ∃ v, e = .returned v ∧ OwnB w.heap.size w' v (bytes4 n) ∧ Old w w' := by
  refine enter (l := [_]) 18 Try.func31 rfl rfl (by simp) ?_
  refine w_sreg (wl_v (aS rfl) <| wl_end ?_)
  refine w_sreg (wl_v (aS rfl) <| wl_end ?_)
  refine w_seq ?_
  refine w_sreg (wl_v (aI rfl) <| wl_end ?_)
  refine w_block ?_
  refine w_loop (fun m f w' => ∃ (i x : Nat) (v : Value), f 0 = .int .u32 (x : Int) ∧ f 3 = v ∧ f 4 = .int .i64 (i : Int) ∧ m = 4 - i ∧ i ≤ 4 ∧ x = n / 256 ^ i ∧ OwnB w.heap.size w' v ((bytes4 n).take i) ∧ Old w w') 4 ?_ ?_
  · exact ⟨0, n, _, rfl, rfl, rfl, rfl, by omega, by simp, OwnB.nil _ _, Old.refl _⟩
  rintro m f w' ⟨i, x, v, h0, h3, h4, rfl, hi, hx, HO, HB⟩
  obtain ⟨f, rfl⟩ := xp3 h0 h3 h4
  refine w_seq ?_
  refine w_sreg (wl_v (mI rfl) <| wl_v (ex_lss rfl rfl) <| wl_end ?_)
  refine w_ifx rfl (fun h1 => w_exit (exit_then (exit_then (exit_hit (then_k ?_))))) (fun h1 => w_skip (then_k ?_))
  · have he : i = 4 := by omega
    subst he
    refine w_sreg (wl_v (mV (v := v) rfl) <| wl_v (aV (v := v) rfl) <| wl_end ?_)
    exact w_ret (end1 rfl ⟨_, rfl, HO, HB⟩)
  have hxn : x < 4294967296 := by rw [hx]; exact Nat.lt_of_le_of_lt (Nat.div_le_self _ _) hn
  have hlen : ((bytes4 n).take i).length ≤ 4 := by rw [List.length_take, bytes4_len]; omega
  refine w_seq ?_
  refine w_block ?_
  refine w_sreg (wl_v (mV (v := v) rfl) <| wl_v (mI rfl) <| wl_v (ex_remN (q := 256) rfl rfl (by decide)) <| wl_v (ex_conv Try.underlying73 Try.underlying5 rfl) <| wl_v (ex_box1 Try.underlying23 inf5 rfl rfl) <|
    wl_app1 (UInt8.ofNat (x % 256)) (u8w _ (by omega)) rfl HO rfl (by omega) HB.size fun v1 w1 HO1 hg1 hat1 => wl_v (aV (v := v1) rfl) <| wl_end ?_)
  refine w_reg (wl_v (mI rfl) <| wl_v (ex_quoN (q := 256) rfl rfl (by decide) (u32id (by omega))) <| wl_v (aI rfl) <| wl_nil (norm_block (then_k ?_)))
  refine w_reg (wl_v (mI rfl) <| wl_v (ex_add64 rfl rfl (by omega) (by omega)) <| wl_v (aI rfl) <| wl_nil (round_end (4 - (i + 1)) (by omega) ⟨i + 1, _, v1, rfl, rfl, rfl, rfl, by omega, ?_, ?_, HB.grown hg1 HO.ge⟩))
  · rw [hx, Nat.pow_succ, Nat.div_div_eq_div_mul]
  · rw [bytes4_at n i (by omega), ← hx]; exact HO1
end Go.Proofs.Ytcceeigkgklkoaa
