/- viaticumref07: the sum, as lists of words. -/
import Derived.Test.YtcceeigkgklkoaaU32
import Derived.Test.YtcceeigkgklkoaaRef01
set_option linter.unusedSimpArgs false
set_option linter.unusedVariables false
namespace Go.Proofs.Ytcceeigkgklkoaa
open Go.RowKit

/-! ### What it is -/
def kC : List UInt32 := [1116352408, 1899447441, 3049323471, 3921009573, 961987163, 1508970993, 2453635748, 2870763221, 3624381080, 310598401, 607225278, 1426881987, 1925078388, 2162078206, 2614888103, 3248222580, 3835390401, 4022224774, 264347078, 604807628, 770255983, 1249150122, 1555081692, 1996064986, 2554220882, 2821834349, 2952996808, 3210313671, 3336571891, 3584528711, 113926993, 338241895, 666307205, 773529912, 1294757372, 1396182291, 1695183700, 1986661051, 2177026350, 2456956037, 2730485921, 2820302411, 3259730800, 3345764771, 3516065817, 3600352804, 4094571909, 275423344, 430227734, 506948616, 659060556, 883997877, 958139571, 1322822218, 1537002063, 1747873779, 1955562222, 2024104815, 2227730452, 2361852424, 2428436474, 2756734187, 3204031479, 3329325298]
def hC : List UInt32 := [1779033703, 3144134277, 1013904242, 2773480762, 1359893119, 2600822924, 528734635, 1541459225]
def beV : Nat → Nat → List UInt8
  | 0, _ => []
  | k + 1, n => beV k (n / 256) ++ [UInt8.ofNat n]
theorem beV_len : ∀ (k n : Nat), (beV k n).length = k
  | 0, _ => rfl
  | k + 1, n => by simp [beV, beV_len k]
def padZ (n : Nat) : Nat := (119 - n % 64) % 64
def padV (b : List UInt8) : List UInt8 := b ++ [128] ++ List.replicate (padZ b.length) 0 ++ beV 8 (8 * b.length)
theorem padV_len (b : List UInt8) : (padV b).length % 64 = 0 := by
  simp [padV, beV_len, padZ]; omega
def wordV (l : List UInt8) (a : Nat) : Nat → UInt32
  | 0 => 0
  | j + 1 => wordV l a j * 256 + (l.getD (a + j) 0).toUInt32
def w16 (l : List UInt8) (a : Nat) : List UInt32 := (List.range 16).map fun i => wordV l (a + 4 * i) 4
def extV (ws : List UInt32) (t : Nat) : UInt32 :=
  ws.getD (t - 16) 0 + (rotr (ws.getD (t - 15) 0) 7 ^^^ rotr (ws.getD (t - 15) 0) 18 ^^^ (ws.getD (t - 15) 0 >>> UInt32.ofNat 3)) + ws.getD (t - 7) 0 + (rotr (ws.getD (t - 2) 0) 17 ^^^ rotr (ws.getD (t - 2) 0) 19 ^^^ (ws.getD (t - 2) 0 >>> UInt32.ofNat 10))
def extN (ws : List UInt32) : Nat → List UInt32
  | 0 => ws
  | j + 1 => extN ws j ++ [extV (extN ws j) (16 + j)]
theorem extN_len (ws : List UInt32) : ∀ j, (extN ws j).length = ws.length + j
  | 0 => rfl
  | j + 1 => by simp [extN, extN_len ws j, Nat.add_assoc]
def rnd (k x : UInt32) (v : List UInt32) : List UInt32 :=
  [v.getD 7 0 + (rotr (v.getD 4 0) 6 ^^^ rotr (v.getD 4 0) 11 ^^^ rotr (v.getD 4 0) 25) + ((v.getD 4 0 &&& v.getD 5 0) ^^^ (~~~ v.getD 4 0 &&& v.getD 6 0)) + k + x + (rotr (v.getD 0 0) 2 ^^^ rotr (v.getD 0 0) 13 ^^^ rotr (v.getD 0 0) 22) + ((v.getD 0 0 &&& v.getD 1 0) ^^^ (v.getD 0 0 &&& v.getD 2 0) ^^^ (v.getD 1 0 &&& v.getD 2 0)),
    v.getD 0 0, v.getD 1 0, v.getD 2 0,
    v.getD 3 0 + (v.getD 7 0 + (rotr (v.getD 4 0) 6 ^^^ rotr (v.getD 4 0) 11 ^^^ rotr (v.getD 4 0) 25) + ((v.getD 4 0 &&& v.getD 5 0) ^^^ (~~~ v.getD 4 0 &&& v.getD 6 0)) + k + x),
    v.getD 4 0, v.getD 5 0, v.getD 6 0]
def rnds (ws : List UInt32) (h : List UInt32) : Nat → List UInt32
  | 0 => h
  | t + 1 => rnd (kC.getD t 0) (ws.getD t 0) (rnds ws h t)
theorem rnds_len {ws h : List UInt32} (hh : h.length = 8) : ∀ t, (rnds ws h t).length = 8
  | 0 => hh
  | t + 1 => rfl
def addW (h v : List UInt32) (n : Nat) : List UInt32 := (List.range n).map fun i => h.getD i 0 + v.getD i 0
def blockV (l : List UInt8) (a : Nat) (h : List UInt32) : List UInt32 := addW h (rnds (extN (w16 l a) 48) h 64) 8
def blocksV (l : List UInt8) : Nat → List UInt32
  | 0 => hC
  | j + 1 => blockV l (64 * j) (blocksV l j)
theorem blocksV_len (l : List UInt8) : ∀ j, (blocksV l j).length = 8
  | 0 => rfl
  | j + 1 => by simp [blocksV, blockV, addW]
def outB (x : UInt32) : List UInt8 := [(x / UInt32.ofNat 16777216).toUInt8, (x / UInt32.ofNat 65536 % UInt32.ofNat 256).toUInt8, (x / UInt32.ofNat 256 % UInt32.ofNat 256).toUInt8, (x % UInt32.ofNat 256).toUInt8]
def outV (h : List UInt32) (n : Nat) : List UInt8 := (List.range n).flatMap fun i => outB (h.getD i 0)
/-- The sum of bytes. -/
def shaV (b : List UInt8) : List UInt8 := outV (blocksV (padV b) ((padV b).length / 64)) 8
theorem outV_len (h : List UInt32) : ∀ n, (outV h n).length = 4 * n
  | 0 => rfl
  | n + 1 => by
    have := outV_len h n
    unfold outV at *
    rw [List.range_succ, List.flatMap_append, List.length_append, this]
    simp [outB]; omega
theorem shaV_len (b : List UInt8) : (shaV b).length = 32 := outV_len _ 8
theorem range_map {α : Type} (f : Nat → α) (n : Nat) : (List.range (n + 1)).map f = (List.range n).map f ++ [f n] := by rw [List.range_succ, List.map_append]; rfl

/-! ### The small ones -/
abbrev KF : Nat → Obj → Prop := fun _ _ => False
theorem R7_turned (x : UInt32) (c : Nat) (hc : 1 ≤ c ∧ c ≤ 31) (w : World) :
    Calls Try.prog 69 #[uv x, .int .i64 (c : Int)] w fun e w' => ∃ v, e = .returned v ∧ v = uv (rotr x c) ∧ Old w w' := by
  refine enter (l := [_, _]) 13 Try.func69 rfl rfl (by simp) ?_
  refine w_sreg (wl_v (aI rfl) <| wl_end ?_)
  refine w_sdraw (fun W => Old w W) [(0, true), (1, true), (2, true), (3, true), (4, true), (5, true), (6, true), (7, true), (8, true)] mixed (by decide +kernel) (Old.refl w).drew ?_
  refine wd_f rfl rfl (fun W hS => mV (v := uv x) rfl) <| wd_f rfl rfl (fun W hS => mI rfl) <| wd_f rfl rfl (fun W hS => ex_shrU rfl rfl (by omega)) <| wd_f rfl rfl (fun W hS => mV (v := uv x) rfl) <| wd_f rfl rfl (fun W hS => mI rfl) <| wd_f rfl rfl (fun W hS => ex_sub64 rfl rfl (by omega) (by omega)) <| wd_f rfl rfl (fun W hS => ex_shlU (c := 32 - c) rfl rfl (by omega) (by omega)) <| wd_f rfl rfl (fun W hS => ex_orU rfl rfl) <| wd_f rfl rfl (fun W hS => aV (v := uv (rotr x c)) rfl) <| wd_nil ?_
  exact w_ret (end1 rfl ⟨_, rfl, rfl, (Old.refl w).drew⟩)

theorem OwnL.newU (w : World) (l : List UInt32) (h : l.length ≤ 1000) : OwnL layU 73 KF w.heap.size (w.alloc (.cells (l.map uv).toArray 73)) (.slice (some ⟨w.heap.size, 0, none⟩) l.length l.length) l :=
  ⟨l.map fun x => [uv x], ⟨by
    have e : (l.map fun x => [uv x]).flatten = l.map uv := by induction l with | nil => rfl | cons a l ih => simp [ih (by simp at h; omega)]
    rw [e, List.length_map, show layU.n = 1 from rfl, Nat.mul_one], .inr ⟨w.heap.size, l.length, (l.map uv).toArray, rfl, Nat.le_refl _, Box.new _ _ _, Nat.le_refl _, by simp only [maxLen]; omega, by simp [show layU.n = 1 from rfl], by
    have e : (l.map fun x => [uv x]).flatten = l.map uv := by clear h; induction l with | nil => rfl | cons a l ih => simp [ih]
    rw [e, show layU.n = 1 from rfl, Nat.mul_one]; exact List.take_of_length_le (by simp)⟩⟩, Els.of_flat⟩
theorem R7_constants (w : World) :
    Calls Try.prog 66 #[] w fun e w' => ∃ v, e = .returned v ∧ OwnL layU 73 KF w.heap.size w' v kC ∧ Old w w' := by
  refine enter (l := []) 2 Try.func66 rfl rfl (by simp) ?_
  refine w_sreg (wl_v (aS rfl) <| wl_end ?_)
  refine w_sreg (wl_v (ex_buildN Try.underlying109 inf73 (kC.map uv) (by kernel_rfl) (by simp [uv, Value.cells]) rfl (by decide) (by decide)) <| wl_v (aS rfl) <| wl_end ?_)
  exact w_ret (end1 rfl ⟨_, rfl, OwnL.newU w kC (by decide), (Old.refl w).alloc _⟩)
theorem R7_begin (w : World) :
    Calls Try.prog 67 #[] w fun e w' => ∃ v, e = .returned v ∧ OwnL layU 73 KF w.heap.size w' v hC ∧ Old w w' := by
  refine enter (l := []) 2 Try.func67 rfl rfl (by simp) ?_
  refine w_sreg (wl_v (aS rfl) <| wl_end ?_)
  refine w_sreg (wl_v (ex_buildN Try.underlying109 inf73 (hC.map uv) (by kernel_rfl) (by simp [uv, Value.cells]) rfl (by decide) (by decide)) <| wl_v (aS rfl) <| wl_end ?_)
  exact w_ret (end1 rfl ⟨_, rfl, OwnL.newU w hC (by decide), (Old.refl w).alloc _⟩)
/-! ### Filled up -/
theorem zeros_add (z : Nat) : List.replicate (z + 1) (0 : UInt8) = List.replicate z 0 ++ [0] := by rw [List.replicate_succ']
theorem R7_padded (b : List UInt8) (v : Value) (w : World) (hv : IsB w v b) (hlen : b.length ≤ 1099511627776) :
    Calls Try.prog 68 #[v] w fun e w' => ∃ u, e = .returned u ∧ OwnB w.heap.size w' u (padV b) ∧ Old w w' := by
  refine enter (l := [_]) 38 Try.func68 rfl rfl (by simp) ?_
  refine w_sreg (wl_v (aS rfl) <| wl_end ?_)
  refine w_sreg (wl_v (aS rfl) <| wl_end ?_)
  refine w_sreg (wl_v (mS rfl) <| wl_v (mV (v := v) rfl) <| wl_appV rfl (OwnB.nil w.heap.size w) rfl hv (by simp; omega) (Nat.le_refl _) fun v1 w1 HO1 hg1 _ => wl_v (aV (v := v1) rfl) <| wl_end ?_)
  have hA1 : Old w w1 := (Old.refl w).grown hg1 fun k hk => by cases hk
  refine w_sreg (wl_v (mV (v := v1) rfl) <| wl_v (ex_box1 Try.underlying23 inf5 rfl rfl) <| wl_app1 128 rfl rfl HO1 rfl (by simp; omega) hA1.size fun v2 w2 HO2 hg2 _ => wl_v (aV (v := v2) rfl) <| wl_end ?_)
  have hA2 : Old w w2 := hA1.grown hg2 HO1.ge
  have hpz : padZ b.length < 64 := by unfold padZ; omega
  refine w_seq ?_
  refine w_block ?_
  refine w_loop (fun k f W => ∃ (z : Nat) (u : Value), f 0 = v ∧ f 3 = u ∧ k = padZ b.length - z ∧ z ≤ padZ b.length ∧ OwnB w.heap.size W u (b ++ [128] ++ List.replicate z 0) ∧ Old w W) (padZ b.length) ?_ ?_
  · exact ⟨0, v2, rfl, rfl, rfl, by omega, by simpa using HO2, hA2⟩
  rintro k f W ⟨z, u, f0, f3, rfl, hz, HO, hA⟩
  obtain ⟨f, rfl⟩ := xp2 f0 f3
  have hl : (b ++ [128] ++ List.replicate z (0 : UInt8)).length = b.length + 1 + z := by simp; omega
  refine w_seq ?_
  refine w_sreg (wl_v (mV (v := u) rfl) <| wl_v (ex_lenB Try.underlying23 rfl HO.isB) <| wl_v (ex_remN (q := 64) rfl rfl (by decide)) <| wl_v (ex_neq rfl rfl) <| wl_end ?_)
  rw [hl]
  refine w_ifx (p := ¬ (((b.length + 1 + z) % 64 : Nat) : Int) = 56) (congrArg Value.bool decide_not.symm) (fun h1 => w_exit (exit_then (exit_then (exit_hit (then_k ?_))))) (fun h1 => w_skip (then_k ?_))
  · have hz' : z = padZ b.length := by unfold padZ at *; omega
    subst hz'
    have hvW := hv.old hA
    refine w_sreg (wl_v (mV (v := v) rfl) <| wl_v (ex_lenB Try.underlying23 rfl hvW) <| wl_v (ex_mul64 rfl rfl (by omega) (by omega)) <| wl_v (aI rfl) <| wl_end ?_)
    refine w_sreg (wl_v (aS rfl) <| wl_end ?_)
    refine w_seq ?_
    refine w_sreg (wl_v (aI rfl) <| wl_end ?_)
    refine w_for 6 8 (fun j f W' => ∃ (sv : Value) (m : Nat) (s : List UInt8), f 3 = u ∧ f 4 = .int .i64 (m : Int) ∧ f 5 = sv ∧ beV 8 (8 * b.length) = beV (8 - j) m ++ s ∧ s.length = j ∧ m ≤ 8 * b.length ∧ OwnB w.heap.size W' sv s ∧ Old W W') rfl
      ⟨.slice none 0 0, 8 * b.length, [], rfl, by show Value.int .i64 (8 * (b.length : Int)) = _; rw [Int.natCast_mul]; rfl, rfl, by simp, rfl, Nat.le_refl _, OwnB.nil _ _, Old.refl _⟩
      (fun j f w hj hi hI => w_reg (wl_v (mI hi) <| wl_v (ex_lss rfl rfl) <| wl_nil (reg_end ⟨rfl, hi, hI⟩)))
      (fun j f w hj hi hI => w_reg (wl_v (mI hi) <| wl_v (ex_add64 rfl rfl (by omega) (by omega)) <| wl_v (aI rfl) <| wl_nil (reg_end ⟨rfl, hI⟩))) ?_ ?_
    · rintro j f W' hj f6 ⟨sv, m, s, f3, f4, f5, hs, hsl, hm, HS, hB⟩
      obtain ⟨f, rfl⟩ := xp4 f6 f3 f4 f5
      have hB1 : Old W' (W'.alloc (.cells #[bv (UInt8.ofNat m)] 5)) := (Old.refl _).alloc _
      have HN : OwnB W'.heap.size (W'.alloc (.cells #[bv (UInt8.ofNat m)] 5)) (.slice (some ⟨W'.heap.size, 0, none⟩) 1 1) [UInt8.ofNat m] := OwnB.new W' [UInt8.ofNat m] (by simp)
      have hmc : IntKind.u8.wrap ((m % 256 : Nat) : Int) = ((UInt8.ofNat m).toNat : Int) := by
        rw [wrapu8_id (by omega) (by omega)]; simp
      refine w_sreg (wl_v (mI rfl) <| wl_v (ex_remN (q := 256) rfl rfl (by decide)) <| wl_v (ex_convW Try.underlying3 Try.underlying5 rfl hmc) <| wl_v (ex_box1 (v := bv (UInt8.ofNat m)) Try.underlying23 inf5 rfl rfl) <| ?_)
      generalize W'.alloc (.cells #[bv (UInt8.ofNat m)] 5) = W2 at *
      refine wl_v (mV (v := sv) rfl) <| wl_appV rfl HN rfl (HS.old hB1).isB (by simp; omega) hB1.size fun u' W3 HO3 hg3 _ => wl_v (aV (v := u') rfl) <| wl_end ?_
      have hB3 : Old W' W3 := hB1.grown hg3 HN.ge
      refine w_reg (wl_v (mI rfl) <| wl_v (ex_quoN (q := 256) rfl rfl (by decide) (i64id (by omega))) <| wl_v (aI rfl) <| wl_nil (body_end ⟨rfl, u', m / 256, _, rfl, rfl, rfl, ?_, by simp [hsl], by omega, HO3.base (by have := hA.size; have := hB.size; omega), hB.trans hB3⟩))
      rw [hs, show 8 - j = (8 - (j + 1)) + 1 from by omega, beV]
      simp
    · rintro f W' f6 ⟨sv, m, s, f3, f4, f5, hs, hsl, hm, HS, hB⟩
      obtain ⟨f, rfl⟩ := xp2 f3 f5
      have hA' := hA.trans hB
      refine then_k ?_
      refine w_sreg (wl_v (mV (v := u) rfl) <| wl_v (mV (v := sv) rfl) <| wl_appV rfl (HO.old hB) rfl HS.isB (by rw [hl]; omega) hA'.size fun u' W3 HO3 hg3 _ => wl_v (aV (v := u') rfl) <| wl_end ?_)
      refine w_ret (end1 rfl ⟨_, rfl, ?_, hA'.grown hg3 HO.ge⟩)
      have e : padV b = b ++ [128] ++ List.replicate (padZ b.length) 0 ++ s := by unfold padV; rw [hs]; rfl
      rw [e]; exact HO3
  · have hz' : z < padZ b.length := by unfold padZ at *; omega
    refine w_block ?_
    refine w_reg (wl_v (mV (v := u) rfl) <| wl_v (ex_box1 Try.underlying23 inf5 rfl rfl) <| wl_app1 0 rfl rfl HO rfl (by rw [hl]; omega) hA.size fun u' W' HO' hg' _ => wl_v (aV (v := u') rfl) <| wl_nil (norm_block (round_end (padZ b.length - (z + 1)) (by omega) ⟨z + 1, u', rfl, rfl, rfl, by omega, ?_, hA.grown hg' HO.ge⟩)))
    rw [zeros_add, ← List.append_assoc]; exact HO'
/-! ### The sum -/
abbrev KT : Nat → Obj → Prop := fun _ _ => True
theorem OwnL.lsT {L : Lay UInt32} {e : TypeId} {base : Nat} {w : World} {v : Value} {l : List UInt32} (h : OwnL L e KF base w v l) : Ls L KT w v l := (h.mono (K' := KT) fun _ _ h => h.elim).ls fun _ _ _ _ => trivial
theorem OwnB.lsT {base : Nat} {w : World} {v : Value} {l : List UInt8} (h : OwnB base w v l) : Ls layB KT w v l := h.ls.mono fun _ _ _ => trivial
theorem OwnL.baseU {base base' : Nat} {e : TypeId} {w : World} {v : Value} {l : List UInt32} (h : OwnL layU e KF base w v l) (hb : base' ≤ base) : OwnL layU e KF base' w v l := by
  obtain ⟨css, h1, h2⟩ := h
  refine ⟨css, ⟨h1.1, ?_⟩, h2⟩
  rcases h1.2 with h0 | ⟨k, cap, cur, rfl, hb', hrest⟩
  · exact .inl h0
  · exact .inr ⟨k, cap, cur, rfl, Nat.le_trans hb hb', hrest⟩
theorem newU1 (w : World) (x : UInt32) : LsE layU KF (w.alloc (.cells #[uv x] 73)) (.slice (some ⟨w.heap.size, 0, none⟩) 1 1) [x] := LsE.new1 (L := layU) (cs := [uv x]) rfl
theorem hH1e {w : World} {v : Value} {l : List UInt32} (h : Ls layU KT w v l) : LsE layU KF w v l := by
  obtain ⟨A, c, css, rfl, h5, h6, h7, h8⟩ := h
  refine ⟨A, c, css, rfl, h7.rds, ?_⟩
  have := Els.flat h8
  subst this
  exact Els.of_flat
set_option maxRecDepth 100000 in
set_option maxHeartbeats 4000000 in
theorem R7_Sum (b : List UInt8) (v : Value) (w : World) (hv : IsB w v b) (hlen : b.length ≤ 1099511627776) :
    Calls Try.prog 64 #[v] w fun e w' => ∃ u, e = .returned u ∧ OwnB w.heap.size w' u (shaV b) ∧ Old w w' := by
  refine enter (l := [_]) 293 Try.func64 rfl rfl (by simp) ?_
  refine w_sreg (wl_v (aS rfl) <| wl_end ?_)
  refine w_sreg (wl_c (ec_fn en66) (R7_constants w) ?_)
  rintro kv w1 ⟨HK, hO1⟩
  refine wl_v (aV (v := kv) rfl) <| wl_end ?_
  refine w_sreg (wl_c (ec_fn en67) (R7_begin w1) ?_)
  rintro hv0 w2 ⟨HH, hO2⟩
  refine wl_v (aV (v := hv0) rfl) <| wl_end ?_
  have hO12 := hO1.trans hO2
  refine w_sreg (wl_v (mV (v := v) rfl) <| wl_c (ec_fn en68) (R7_padded b v w2 (hv.old hO12) hlen) ?_)
  rintro av w3 ⟨HA, hO3⟩
  refine wl_v (aV (v := av) rfl) <| wl_end ?_
  have hO13 := hO12.trans hO3
  have hk : Ls layU KT w3 kv kC := (HK.lsT.old hO2).old hO3
  have hh : Ls layU KT w3 hv0 hC := HH.lsT.old hO3
  have ha : Ls layB KT w3 av (padV b) := HA.lsT
  have hsh : shaV b = outV (blocksV (padV b) ((padV b).length / 64)) 8 := rfl
  have hPm := padV_len b
  have hPb : (padV b).length ≤ 1099511627900 := by
    have : padZ b.length < 64 := by unfold padZ; omega
    simp [padV, beV_len]; omega
  generalize padV b = pl at *
  obtain ⟨nb, hnb⟩ : ∃ nb, nb = pl.length / 64 := ⟨_, rfl⟩
  rw [← hnb] at hsh
  have hPl : pl.length = 64 * nb := by omega
  clear hnb hPm HA HK HH
  refine w_seq ?_
  refine w_sreg (wl_v (aI rfl) <| wl_end ?_)
  refine w_forC 6 nb (fun j => ((64 * j : Nat) : Int)) (fun j f W => ∃ hv', f 3 = kv ∧ f 4 = hv' ∧ f 5 = av ∧ Ls layU KT W hv' (blocksV pl j) ∧ Old w3 W) rfl ⟨hv0, rfl, rfl, rfl, hh, Old.refl _⟩
    (fun j f W hj hi hI => by
      obtain ⟨u, f3, f4, f5, HU, hO⟩ := hI
      exact w_reg (wl_v (mI hi) <| wl_v (mV (v := av) f5) <| wl_v (ex_lenL Try.underlying23 rfl ha) <| wl_v (ex_lss rfl rfl) <| wl_nil (reg_end ⟨⟨_, rfl, by simp; omega⟩, hi, u, f3, f4, f5, HU, hO⟩)))
    (fun j f W hj hi hI => w_reg (wl_v (mI hi) <| wl_v (ex_add64 rfl rfl (by omega) (by omega)) <| wl_v (aI rfl) <| wl_nil (reg_end ⟨congrArg (Value.int .i64) (by omega), hI⟩))) ?_ ?_
  · rintro j f W hj f6 ⟨hv', f3, f4, f5, HH, hO⟩
    obtain ⟨f, rfl⟩ := xp4 f6 f3 f4 f5
    have hbl := blocksV_len pl j
    have hnx : blocksV pl (j + 1) = addW (blocksV pl j) (rnds (extN (w16 pl (64 * j)) 48) (blocksV pl j) 64) 8 := rfl
    generalize blocksV pl j = hs at *
    have hkW := hk.old hO
    have haW := ha.old hO
    refine w_sreg (wl_v (aS rfl) <| wl_end ?_)
    refine w_seq ?_
    refine w_sreg (wl_v (aI rfl) <| wl_end ?_)
    refine w_for 8 16 (fun i f W1 => ∃ wv, f 3 = kv ∧ f 4 = hv' ∧ f 5 = av ∧ f 6 = .int .i64 ((64 * j : Nat) : Int) ∧ f 7 = wv ∧ OwnL layU 73 KF W.heap.size W1 wv ((List.range i).map fun i => wordV pl (64 * j + 4 * i) 4) ∧ Old W W1) rfl
      ⟨_, rfl, rfl, rfl, rfl, rfl, OwnL.nil, Old.refl _⟩ (fun j f w hj hi hI => w_reg (wl_v (mI hi) <| wl_v (ex_lss rfl rfl) <| wl_nil (reg_end ⟨rfl, hi, hI⟩))) (fun j f w hj hi hI => w_reg (wl_v (mI hi) <| wl_v (ex_add64 rfl rfl (by omega) (by omega)) <| wl_v (aI rfl) <| wl_nil (reg_end ⟨rfl, hI⟩))) ?_ ?_
    · rintro i f W1 hi f8 ⟨wv, f3, f4, f5, f6, f7, HW, hO1⟩
      obtain ⟨f, rfl⟩ := xp6 f8 f3 f4 f5 f6 f7
      have haW1 := haW.old hO1
      refine w_sreg (wl_v (aI rfl) <| wl_end ?_)
      refine w_seq ?_
      refine w_sreg (wl_v (aI rfl) <| wl_end ?_)
      refine w_for 10 4 (fun jj f W2 => f 3 = kv ∧ f 4 = hv' ∧ f 5 = av ∧ f 6 = .int .i64 ((64 * j : Nat) : Int) ∧ f 7 = wv ∧ f 8 = .int .i64 (i : Int) ∧ f 9 = uv (wordV pl (64 * j + 4 * i) jj) ∧ W1 = W2) rfl ⟨rfl, rfl, rfl, rfl, rfl, rfl, rfl, rfl⟩ (fun j f w hj hi hI => w_reg (wl_v (mI hi) <| wl_v (ex_lss rfl rfl) <| wl_nil (reg_end ⟨rfl, hi, hI⟩))) (fun j f w hj hi hI => w_reg (wl_v (mI hi) <| wl_v (ex_add64 rfl rfl (by omega) (by omega)) <| wl_v (aI rfl) <| wl_nil (reg_end ⟨rfl, hI⟩))) ?_ ?_
      · rintro jj f _ hjj f10 ⟨f3, f4, f5, f6, f7, f8, f9, rfl⟩
        obtain ⟨f, rfl⟩ := xp8 f10 f3 f4 f5 f6 f7 f8 f9
        refine w_reg (wl_v (mV (v := (uv (wordV pl (64 * j + 4 * i) jj))) rfl) <| wl_v (ex_mulU (b := 256) rfl rfl) <| wl_v (mV (v := av) rfl) <| wl_v (mI rfl) <| wl_v (mI rfl) <| wl_v (ex_mul64 rfl rfl (by omega) (by omega)) <| wl_v (ex_add64 rfl rfl (by omega) (by omega)) <| wl_v (mI rfl) <| wl_v (ex_add64 rfl rfl (by omega) (by omega)) <| wl_v (ex_idxL (i := (((64 * j) + (4 * i)) + jj)) Try.underlying23 inf5 rfl haW1 rfl (by decide) rfl (by omega) (by omega)) <| wl_v (ex_load1 Try.underlying5 rfl (haW1.u8 (by omega))) <| wl_v (ex_convYU Try.underlying5 Try.underlying73 rfl) <| wl_v (ex_addU rfl rfl) <| wl_v (aV (v := uv (wordV pl (64 * j + 4 * i) (jj + 1))) rfl) <| wl_nil (body_end ⟨rfl, rfl, rfl, rfl, rfl, rfl, rfl, rfl, rfl⟩))
      · rintro f _ f10 ⟨f3, f4, f5, f6, f7, f8, f9, rfl⟩
        obtain ⟨f, rfl⟩ := xp7 f3 f4 f5 f6 f7 f8 f9
        refine then_k ?_
        have hB1 : Old W1 (W1.alloc (.cells #[uv (wordV pl (64 * j + 4 * i) 4)] 73)) := (Old.refl _).alloc _
        have hN1 := newU1 W1 (wordV pl (64 * j + 4 * i) 4)
        refine w_reg (wl_v (mV (v := wv) rfl) <| wl_v (mV (v := uv (wordV pl (64 * j + 4 * i) 4)) rfl) <| wl_v (ex_box1 (v := uv (wordV pl (64 * j + 4 * i) 4)) Try.underlying109 inf73 rfl rfl) <| ?_)
        generalize W1.alloc (.cells #[uv (wordV pl (64 * j + 4 * i) 4)] 73) = W2 at *
        refine wl_appL Try.underlying109 inf73 rfl (by omega) rfl rfl (HW.old hB1) rfl hN1 (by simp; omega) (by omega) (hO1.trans hB1).size (fun _ _ _ _ h => h) fun wv' W3 HO3 hg3 _ => wl_v (aV (v := wv') rfl) <| wl_nil (body_end ⟨rfl, wv', rfl, rfl, rfl, rfl, rfl, ?_, (hO1.trans hB1).grown hg3 HW.ge⟩)
        rw [range_map]; exact HO3
    · rintro f W1 f8 ⟨wv, f3, f4, f5, f6, f7, HW, hO1⟩
      obtain ⟨f, rfl⟩ := xp5 f3 f4 f5 f6 f7
      have HW : OwnL layU 73 KF W.heap.size W1 wv (w16 pl (64 * j)) := HW
      have hwl : (w16 pl (64 * j)).length = 16 := by simp [w16]
      generalize w16 pl (64 * j) = ws0 at *
      refine then_k ?_
      refine w_seq ?_
      refine w_sreg (wl_v (aI rfl) <| wl_end ?_)
      refine w_forC 11 48 (fun t => ((16 + t : Nat) : Int)) (fun t f W2 => ∃ wv, f 3 = kv ∧ f 4 = hv' ∧ f 5 = av ∧ f 6 = .int .i64 ((64 * j : Nat) : Int) ∧ f 7 = wv ∧ OwnL layU 73 KF W.heap.size W2 wv (extN ws0 t) ∧ Old W W2) rfl
        ⟨_, rfl, rfl, rfl, rfl, rfl, HW, hO1⟩
        (fun j f w hj hi hI => w_reg (wl_v (mI hi) <| wl_v (ex_lss rfl rfl) <| wl_nil (reg_end ⟨⟨_, rfl, by simp; omega⟩, hi, hI⟩)))
        (fun j f w hj hi hI => w_reg (wl_v (mI hi) <| wl_v (ex_add64 rfl rfl (by omega) (by omega)) <| wl_v (aI rfl) <| wl_nil (reg_end ⟨congrArg (Value.int .i64) (by omega), hI⟩))) ?_ ?_
      · clear HW hO1 f8
        rintro t f W1 ht f11 ⟨wv, f3, f4, f5, f6, f7, HW, hO1⟩
        obtain ⟨f, rfl⟩ := xp6 f11 f3 f4 f5 f6 f7
        have hxl := extN_len ws0 t
        have hxn : extN ws0 (t + 1) = extN ws0 t ++ [extV (extN ws0 t) (16 + t)] := rfl
        rw [hwl] at hxl
        generalize extN ws0 t = ws at *
        have hw := HW.lsT
        refine w_sdraw (fun V => Old W1 V) [(0, true), (1, true), (2, true), (3, true), (4, true), (6, true), (7, true), (8, true), (9, true), (10, true), (13, true), (14, true), (15, true), (16, true), (17, true), (18, true), (5, false), (11, false), (12, true), (19, true), (20, true)] mixed (by decide +kernel) (Old.refl W1).drew ?_
        refine wd_f rfl rfl (fun W hS => mV (v := wv) rfl) <| wd_f rfl rfl (fun W hS => mI rfl) <| wd_f rfl rfl (fun W hS => ex_sub64 rfl rfl (by omega) (by omega)) <| wd_f rfl rfl (fun W hS => ex_idxL (i := ((16 + t) - 15)) Try.underlying109 inf73 rfl (hw.old hS) rfl (by decide) rfl (by omega) (by omega)) <| wd_f rfl rfl (fun W hS => ex_load1 Try.underlying73 rfl ((hw.old hS).u32 (by omega))) <| wd_f rfl rfl (fun W hS => mV (v := wv) rfl) <| wd_f rfl rfl (fun W hS => mI rfl) <| wd_f rfl rfl (fun W hS => ex_sub64 rfl rfl (by omega) (by omega)) <| wd_f rfl rfl (fun W hS => ex_idxL (i := ((16 + t) - 15)) Try.underlying109 inf73 rfl (hw.old hS) rfl (by decide) rfl (by omega) (by omega)) <| wd_f rfl rfl (fun W hS => ex_load1 Try.underlying73 rfl ((hw.old hS).u32 (by omega))) <| wd_f rfl rfl (fun W hS => mV (v := wv) rfl) <| wd_f rfl rfl (fun W hS => mI rfl) <| wd_f rfl rfl (fun W hS => ex_sub64 rfl rfl (by omega) (by omega)) <| wd_f rfl rfl (fun W hS => ex_idxL (i := ((16 + t) - 15)) Try.underlying109 inf73 rfl (hw.old hS) rfl (by decide) rfl (by omega) (by omega)) <| wd_f rfl rfl (fun W hS => ex_load1 Try.underlying73 rfl ((hw.old hS).u32 (by omega))) <| wd_f rfl rfl (fun W hS => ex_shrU (c := 3) rfl rfl (by decide)) <| wd_c rfl rfl (ec_fn en69) (R7_turned _ 7 (by decide) _) ?_
        rintro _ WWa ⟨rfl, hOWa⟩
        refine ⟨(Old.refl W1).drew.trans hOWa, ?_⟩
        refine wd_c rfl rfl (ec_fn en69) (R7_turned _ 18 (by decide) _) ?_
        rintro _ WWb ⟨rfl, hOWb⟩
        refine ⟨((Old.refl W1).drew.trans hOWa).trans hOWb, ?_⟩
        refine wd_f rfl rfl (fun W hS => ex_xorU rfl rfl) <| wd_f rfl rfl (fun W hS => ex_xorU rfl rfl) <| wd_f rfl rfl (fun W hS => aV (v := uv (rotr (ws.getD (16 + t - 15) 0) 7 ^^^ rotr (ws.getD (16 + t - 15) 0) 18 ^^^ (ws.getD (16 + t - 15) 0 >>> UInt32.ofNat 3))) rfl) <| wd_nil ?_
        have hOb := ((Old.refl W1).drew.trans hOWa).trans hOWb
        have HWb := HW.old hOb
        have hwb := hw.old hOb
        refine w_sdraw (fun V => Old WWb V) [(0, true), (1, true), (2, true), (3, true), (4, true), (6, true), (7, true), (8, true), (9, true), (10, true), (13, true), (14, true), (15, true), (16, true), (17, true), (18, true), (5, false), (11, false), (12, true), (19, true), (20, true)] mixed (by decide +kernel) (Old.refl WWb).drew ?_
        refine wd_f rfl rfl (fun W hS => mV (v := wv) rfl) <| wd_f rfl rfl (fun W hS => mI rfl) <| wd_f rfl rfl (fun W hS => ex_sub64 rfl rfl (by omega) (by omega)) <| wd_f rfl rfl (fun W hS => ex_idxL (i := ((16 + t) - 2)) Try.underlying109 inf73 rfl (hwb.old hS) rfl (by decide) rfl (by omega) (by omega)) <| wd_f rfl rfl (fun W hS => ex_load1 Try.underlying73 rfl ((hwb.old hS).u32 (by omega))) <| wd_f rfl rfl (fun W hS => mV (v := wv) rfl) <| wd_f rfl rfl (fun W hS => mI rfl) <| wd_f rfl rfl (fun W hS => ex_sub64 rfl rfl (by omega) (by omega)) <| wd_f rfl rfl (fun W hS => ex_idxL (i := ((16 + t) - 2)) Try.underlying109 inf73 rfl (hwb.old hS) rfl (by decide) rfl (by omega) (by omega)) <| wd_f rfl rfl (fun W hS => ex_load1 Try.underlying73 rfl ((hwb.old hS).u32 (by omega))) <| wd_f rfl rfl (fun W hS => mV (v := wv) rfl) <| wd_f rfl rfl (fun W hS => mI rfl) <| wd_f rfl rfl (fun W hS => ex_sub64 rfl rfl (by omega) (by omega)) <| wd_f rfl rfl (fun W hS => ex_idxL (i := ((16 + t) - 2)) Try.underlying109 inf73 rfl (hwb.old hS) rfl (by decide) rfl (by omega) (by omega)) <| wd_f rfl rfl (fun W hS => ex_load1 Try.underlying73 rfl ((hwb.old hS).u32 (by omega))) <| wd_f rfl rfl (fun W hS => ex_shrU (c := 10) rfl rfl (by decide)) <| wd_c rfl rfl (ec_fn en69) (R7_turned _ 17 (by decide) _) ?_
        rintro _ WWc ⟨rfl, hOWc⟩
        refine ⟨(Old.refl WWb).drew.trans hOWc, ?_⟩
        refine wd_c rfl rfl (ec_fn en69) (R7_turned _ 19 (by decide) _) ?_
        rintro _ WWd ⟨rfl, hOWd⟩
        refine ⟨((Old.refl WWb).drew.trans hOWc).trans hOWd, ?_⟩
        refine wd_f rfl rfl (fun W hS => ex_xorU rfl rfl) <| wd_f rfl rfl (fun W hS => ex_xorU rfl rfl) <| wd_f rfl rfl (fun W hS => aV (v := uv (rotr (ws.getD (16 + t - 2) 0) 17 ^^^ rotr (ws.getD (16 + t - 2) 0) 19 ^^^ (ws.getD (16 + t - 2) 0 >>> UInt32.ofNat 10))) rfl) <| wd_nil ?_
        have hOd := ((Old.refl WWb).drew.trans hOWc).trans hOWd
        have HWd := HWb.old hOd
        have hwd := hwb.old hOd
        have hOe := hOd.trans (Old.refl WWd).drew
        have hB1 : Old WWd.drew (WWd.drew.alloc (.cells #[uv (extV ws (16 + t))] 73)) := (Old.refl _).alloc _
        have hN1 := newU1 WWd.drew (extV ws (16 + t))
        have HW5 := (HWd.old (Old.refl WWd).drew).old hB1
        have hO5 := (hO1.trans hOb).trans ((hOe).trans hB1)
        refine w_drawT (fun V => Old WWd V) [(0, true), (1, true), (2, true), (3, true), (4, true), (5, true), (6, true), (7, true), (8, true), (9, true), (10, true), (11, true), (12, true), (13, true), (14, true), (15, true), (16, false)] [17, 18] mixed (by decide +kernel) (Old.refl WWd).drew ?_
        refine wd_f rfl rfl (fun W hS => mV (v := wv) rfl) <| wd_f rfl rfl (fun W hS => mV (v := wv) rfl) <| wd_f rfl rfl (fun W hS => mI rfl) <| wd_f rfl rfl (fun W hS => ex_sub64 rfl rfl (by omega) (by omega)) <| wd_f rfl rfl (fun W hS => ex_idxL (i := ((16 + t) - 16)) Try.underlying109 inf73 rfl (hwd.old hS) rfl (by decide) rfl (by omega) (by omega)) <| wd_f rfl rfl (fun W hS => ex_load1 Try.underlying73 rfl ((hwd.old hS).u32 (by omega))) <| wd_f rfl rfl (fun W hS => mI rfl) <| wd_f rfl rfl (fun W hS => ex_addU rfl rfl) <| wd_f rfl rfl (fun W hS => mV (v := wv) rfl) <| wd_f rfl rfl (fun W hS => mI rfl) <| wd_f rfl rfl (fun W hS => ex_sub64 rfl rfl (by omega) (by omega)) <| wd_f rfl rfl (fun W hS => ex_idxL (i := ((16 + t) - 7)) Try.underlying109 inf73 rfl (hwd.old hS) rfl (by decide) rfl (by omega) (by omega)) <| wd_f rfl rfl (fun W hS => ex_load1 Try.underlying73 rfl ((hwd.old hS).u32 (by omega))) <| wd_f rfl rfl (fun W hS => ex_addU rfl rfl) <| wd_f rfl rfl (fun W hS => mI rfl) <| wd_f rfl rfl (fun W hS => ex_addU rfl rfl) <| wd_v rfl rfl (ex_box1 (v := uv (extV ws (16 + t))) Try.underlying109 inf73 rfl rfl) ((Old.refl WWd).drew.trans hB1) <| wd_nil <| ?_
        generalize WWd.drew.alloc (.cells #[uv (extV ws (16 + t))] 73) = W5 at *
        refine wt_appL rfl Try.underlying109 inf73 rfl (by omega) rfl rfl HW5 rfl hN1 (by simp; omega) (by omega) hO5.size (fun _ _ _ _ h => h) fun wv' W3 HO3 hg3 _ => wt_v rfl rfl (aV (v := wv') rfl) <| wt_nil (body_end ⟨rfl, wv', rfl, rfl, rfl, rfl, rfl, ?_, hO5.grown hg3 HW5.ge⟩)
        rw [hxn]; exact HO3
      · clear HW hO1 f8
        rintro f W1 f11 ⟨wv, f3, f4, f5, f6, f7, HW, hO1⟩
        obtain ⟨f, rfl⟩ := xp5 f3 f4 f5 f6 f7
        have hxl := extN_len ws0 48
        rw [hwl] at hxl
        generalize extN ws0 48 = ws at *
        have hw0 := HW.lsT
        refine then_k ?_
        refine w_sreg (wl_v (aS rfl) <| wl_end ?_)
        have hH1 := HH.old hO1
        refine w_sreg (wl_v (mS rfl) <| wl_v (mV (v := hv') rfl) <| wl_appL Try.underlying109 inf73 rfl (by omega) rfl rfl (OwnL.nil (L := layU) (K := KF) (base := W1.heap.size)) rfl (hH1e hH1) (by simp [hbl]) (by omega) (Nat.le_refl _) (fun _ _ _ _ h => h) fun vv0 W2 HV2 hg2 _ => wl_v (aV (v := vv0) rfl) <| wl_end ?_)
        have hO2 : Old W1 W2 := (Old.refl W1).grown hg2 fun k hk => by cases hk
        have hkW1 := (hkW.old hO1).old hO2
        have hw1 := hw0.old hO2
        have hH2 := hH1.old hO2
        refine w_seq ?_
        refine w_sreg (wl_v (aI rfl) <| wl_end ?_)
        refine w_for 15 64 (fun t f W3 => ∃ vv, f 3 = kv ∧ f 4 = hv' ∧ f 5 = av ∧ f 6 = .int .i64 ((64 * j : Nat) : Int) ∧ f 7 = wv ∧ f 14 = vv ∧ Ls layU KT W3 vv (rnds ws hs t) ∧ Old W2 W3) rfl
          ⟨_, rfl, rfl, rfl, rfl, rfl, rfl, HV2.lsT, Old.refl _⟩ (fun j f w hj hi hI => w_reg (wl_v (mI hi) <| wl_v (ex_lss rfl rfl) <| wl_nil (reg_end ⟨rfl, hi, hI⟩))) (fun j f w hj hi hI => w_reg (wl_v (mI hi) <| wl_v (ex_add64 rfl rfl (by omega) (by omega)) <| wl_v (aI rfl) <| wl_nil (reg_end ⟨rfl, hI⟩))) ?_ ?_
        · rintro t f W3 ht f15 ⟨vv, f3, f4, f5, f6, f7, f14, HV, hO3⟩
          obtain ⟨f, rfl⟩ := xp7 f15 f3 f4 f5 f6 f7 f14
          have hvl := rnds_len (ws := ws) hbl t
          have hvn : rnds ws hs (t + 1) = rnd (kC.getD t 0) (ws.getD t 0) (rnds ws hs t) := rfl
          generalize rnds ws hs t = vs at *
          have hkl : kC.length = 64 := rfl
          refine w_sdraw (fun V => Old W3 V) [(0, true), (1, true), (2, true), (4, true), (5, true), (6, true), (9, true), (10, true), (11, true), (3, false), (7, false), (8, true), (12, false), (13, true), (14, true)] mixed (by decide +kernel) (Old.refl W3).drew ?_
          refine wd_f rfl rfl (fun W hS => mV (v := vv) rfl) <| wd_f rfl rfl (fun W hS => ex_idxL (i := 4) Try.underlying109 inf73 rfl (HV.old hS) rfl (by decide) rfl rfl (by omega)) <| wd_f rfl rfl (fun W hS => ex_load1 Try.underlying73 rfl ((HV.old hS).u32 (by omega))) <| wd_f rfl rfl (fun W hS => mV (v := vv) rfl) <| wd_f rfl rfl (fun W hS => ex_idxL (i := 4) Try.underlying109 inf73 rfl (HV.old hS) rfl (by decide) rfl rfl (by omega)) <| wd_f rfl rfl (fun W hS => ex_load1 Try.underlying73 rfl ((HV.old hS).u32 (by omega))) <| wd_f rfl rfl (fun W hS => mV (v := vv) rfl) <| wd_f rfl rfl (fun W hS => ex_idxL (i := 4) Try.underlying109 inf73 rfl (HV.old hS) rfl (by decide) rfl rfl (by omega)) <| wd_f rfl rfl (fun W hS => ex_load1 Try.underlying73 rfl ((HV.old hS).u32 (by omega))) <| wd_c rfl rfl (ec_fn en69) (R7_turned _ 6 (by decide) _) ?_
          rintro _ Wc1 ⟨rfl, hOc1⟩
          refine ⟨(Old.refl W3).drew.trans hOc1, ?_⟩
          refine wd_c rfl rfl (ec_fn en69) (R7_turned _ 11 (by decide) _) ?_
          rintro _ Wc2 ⟨rfl, hOc2⟩
          refine ⟨((Old.refl W3).drew.trans hOc1).trans hOc2, ?_⟩
          refine wd_f rfl rfl (fun W hS => ex_xorU rfl rfl) <| wd_c rfl rfl (ec_fn en69) (R7_turned _ 25 (by decide) _) ?_
          rintro _ Wc ⟨rfl, hOc3⟩
          have hOc := (((Old.refl W3).drew.trans hOc1).trans hOc2).trans hOc3
          refine ⟨hOc, ?_⟩
          refine wd_f rfl rfl (fun W hS => ex_xorU rfl rfl) <| wd_f rfl rfl (fun W hS => aV (v := uv (rotr (vs.getD 4 0) 6 ^^^ rotr (vs.getD 4 0) 11 ^^^ rotr (vs.getD 4 0) 25)) rfl) <| wd_nil ?_
          have hP4 := HV.old hOc
          refine w_sdraw (fun V => Old Wc V) [(0, true), (1, true), (2, true), (3, true), (4, true), (5, true), (6, true), (7, true), (8, true), (9, true), (10, true), (11, true), (12, true), (13, true), (14, true), (15, true), (16, true)] mixed (by decide +kernel) (Old.refl Wc).drew ?_
          refine wd_f rfl rfl (fun W hS => mV (v := vv) rfl) <| wd_f rfl rfl (fun W hS => ex_idxL (i := 4) Try.underlying109 inf73 rfl (hP4.old hS) rfl (by decide) rfl rfl (by omega)) <| wd_f rfl rfl (fun W hS => ex_load1 Try.underlying73 rfl ((hP4.old hS).u32 (by omega))) <| wd_f rfl rfl (fun W hS => mV (v := vv) rfl) <| wd_f rfl rfl (fun W hS => ex_idxL (i := 5) Try.underlying109 inf73 rfl (hP4.old hS) rfl (by decide) rfl rfl (by omega)) <| wd_f rfl rfl (fun W hS => ex_load1 Try.underlying73 rfl ((hP4.old hS).u32 (by omega))) <| wd_f rfl rfl (fun W hS => ex_andU rfl rfl) <| wd_f rfl rfl (fun W hS => mV (v := vv) rfl) <| wd_f rfl rfl (fun W hS => ex_idxL (i := 4) Try.underlying109 inf73 rfl (hP4.old hS) rfl (by decide) rfl rfl (by omega)) <| wd_f rfl rfl (fun W hS => ex_load1 Try.underlying73 rfl ((hP4.old hS).u32 (by omega))) <| wd_f rfl rfl (fun W hS => ex_complU rfl) <| wd_f rfl rfl (fun W hS => mV (v := vv) rfl) <| wd_f rfl rfl (fun W hS => ex_idxL (i := 6) Try.underlying109 inf73 rfl (hP4.old hS) rfl (by decide) rfl rfl (by omega)) <| wd_f rfl rfl (fun W hS => ex_load1 Try.underlying73 rfl ((hP4.old hS).u32 (by omega))) <| wd_f rfl rfl (fun W hS => ex_andU rfl rfl) <| wd_f rfl rfl (fun W hS => ex_xorU rfl rfl) <| wd_f rfl rfl (fun W hS => aV (v := uv ((vs.getD 4 0 &&& vs.getD 5 0) ^^^ (~~~ vs.getD 4 0 &&& vs.getD 6 0))) rfl) <| wd_nil ?_
          have hOd := hOc.trans (Old.refl Wc).drew
          have hP5 := HV.old hOd
          have hk5 := (hkW1.old hO3).old hOd
          have hw5 := (hw1.old hO3).old hOd
          generalize Wc.drew = Wd at *
          refine w_sdraw (fun V => Old Wd V) [(0, true), (1, true), (2, true), (3, true), (4, true), (5, true), (6, true), (7, true), (8, true), (9, true), (10, true), (11, true), (12, true), (13, true), (14, true), (15, true), (16, true), (17, true)] mixed (by decide +kernel) (Old.refl Wd).drew ?_
          refine wd_f rfl rfl (fun W hS => mV (v := vv) rfl) <| wd_f rfl rfl (fun W hS => ex_idxL (i := 7) Try.underlying109 inf73 rfl (hP5.old hS) rfl (by decide) rfl rfl (by omega)) <| wd_f rfl rfl (fun W hS => ex_load1 Try.underlying73 rfl ((hP5.old hS).u32 (by omega))) <| wd_f rfl rfl (fun W hS => mI rfl) <| wd_f rfl rfl (fun W hS => ex_addU rfl rfl) <| wd_f rfl rfl (fun W hS => mI rfl) <| wd_f rfl rfl (fun W hS => ex_addU rfl rfl) <| wd_f rfl rfl (fun W hS => mV (v := kv) rfl) <| wd_f rfl rfl (fun W hS => mI rfl) <| wd_f rfl rfl (fun W hS => ex_idxL (i := t) Try.underlying109 inf73 rfl (hk5.old hS) rfl (by decide) rfl (by omega) (by omega)) <| wd_f rfl rfl (fun W hS => ex_load1 Try.underlying73 rfl ((hk5.old hS).u32 (by omega))) <| wd_f rfl rfl (fun W hS => ex_addU rfl rfl) <| wd_f rfl rfl (fun W hS => mV (v := wv) rfl) <| wd_f rfl rfl (fun W hS => mI rfl) <| wd_f rfl rfl (fun W hS => ex_idxL (i := t) Try.underlying109 inf73 rfl (hw5.old hS) rfl (by decide) rfl (by omega) (by omega)) <| wd_f rfl rfl (fun W hS => ex_load1 Try.underlying73 rfl ((hw5.old hS).u32 (by omega))) <| wd_f rfl rfl (fun W hS => ex_addU rfl rfl) <| wd_f rfl rfl (fun W hS => aV (v := uv (vs.getD 7 0 + (rotr (vs.getD 4 0) 6 ^^^ rotr (vs.getD 4 0) 11 ^^^ rotr (vs.getD 4 0) 25) + ((vs.getD 4 0 &&& vs.getD 5 0) ^^^ (~~~ vs.getD 4 0 &&& vs.getD 6 0)) + kC.getD t 0 + ws.getD t 0)) rfl) <| wd_nil ?_
          have hOe := hOd.trans (Old.refl Wd).drew
          have hP6 := HV.old hOe
          generalize Wd.drew = We at *
          refine w_sdraw (fun V => Old We V) [(0, true), (1, true), (2, true), (4, true), (5, true), (6, true), (9, true), (10, true), (11, true), (3, false), (7, false), (8, true), (12, false), (13, true), (14, true)] mixed (by decide +kernel) (Old.refl We).drew ?_
          refine wd_f rfl rfl (fun W hS => mV (v := vv) rfl) <| wd_f rfl rfl (fun W hS => ex_idxL (i := 0) Try.underlying109 inf73 rfl (hP6.old hS) rfl (by decide) rfl rfl (by omega)) <| wd_f rfl rfl (fun W hS => ex_load1 Try.underlying73 rfl ((hP6.old hS).u32 (by omega))) <| wd_f rfl rfl (fun W hS => mV (v := vv) rfl) <| wd_f rfl rfl (fun W hS => ex_idxL (i := 0) Try.underlying109 inf73 rfl (hP6.old hS) rfl (by decide) rfl rfl (by omega)) <| wd_f rfl rfl (fun W hS => ex_load1 Try.underlying73 rfl ((hP6.old hS).u32 (by omega))) <| wd_f rfl rfl (fun W hS => mV (v := vv) rfl) <| wd_f rfl rfl (fun W hS => ex_idxL (i := 0) Try.underlying109 inf73 rfl (hP6.old hS) rfl (by decide) rfl rfl (by omega)) <| wd_f rfl rfl (fun W hS => ex_load1 Try.underlying73 rfl ((hP6.old hS).u32 (by omega))) <| wd_c rfl rfl (ec_fn en69) (R7_turned _ 2 (by decide) _) ?_
          rintro _ Wg1 ⟨rfl, hOg1⟩
          refine ⟨(Old.refl We).drew.trans hOg1, ?_⟩
          refine wd_c rfl rfl (ec_fn en69) (R7_turned _ 13 (by decide) _) ?_
          rintro _ Wg2 ⟨rfl, hOg2⟩
          refine ⟨((Old.refl We).drew.trans hOg1).trans hOg2, ?_⟩
          refine wd_f rfl rfl (fun W hS => ex_xorU rfl rfl) <| wd_c rfl rfl (ec_fn en69) (R7_turned _ 22 (by decide) _) ?_
          rintro _ Wg ⟨rfl, hOg3⟩
          have hOg := (((Old.refl We).drew.trans hOg1).trans hOg2).trans hOg3
          refine ⟨hOg, ?_⟩
          refine wd_f rfl rfl (fun W hS => ex_xorU rfl rfl) <| wd_f rfl rfl (fun W hS => aV (v := uv (rotr (vs.getD 0 0) 2 ^^^ rotr (vs.getD 0 0) 13 ^^^ rotr (vs.getD 0 0) 22)) rfl) <| wd_nil ?_
          have hOh := hOe.trans hOg
          have hP7 := HV.old hOh
          refine w_sdraw (fun V => Old Wg V) [(0, true), (1, true), (2, true), (3, true), (4, true), (5, true), (6, true), (7, true), (8, true), (9, true), (10, true), (11, true), (12, true), (13, true), (14, true), (15, true), (16, true), (17, true), (18, true), (19, true), (20, true), (21, true), (22, true), (23, true)] mixed (by decide +kernel) (Old.refl Wg).drew ?_
          refine wd_f rfl rfl (fun W hS => mV (v := vv) rfl) <| wd_f rfl rfl (fun W hS => ex_idxL (i := 0) Try.underlying109 inf73 rfl (hP7.old hS) rfl (by decide) rfl rfl (by omega)) <| wd_f rfl rfl (fun W hS => ex_load1 Try.underlying73 rfl ((hP7.old hS).u32 (by omega))) <| wd_f rfl rfl (fun W hS => mV (v := vv) rfl) <| wd_f rfl rfl (fun W hS => ex_idxL (i := 1) Try.underlying109 inf73 rfl (hP7.old hS) rfl (by decide) rfl rfl (by omega)) <| wd_f rfl rfl (fun W hS => ex_load1 Try.underlying73 rfl ((hP7.old hS).u32 (by omega))) <| wd_f rfl rfl (fun W hS => ex_andU rfl rfl) <| wd_f rfl rfl (fun W hS => mV (v := vv) rfl) <| wd_f rfl rfl (fun W hS => ex_idxL (i := 0) Try.underlying109 inf73 rfl (hP7.old hS) rfl (by decide) rfl rfl (by omega)) <| wd_f rfl rfl (fun W hS => ex_load1 Try.underlying73 rfl ((hP7.old hS).u32 (by omega))) <| wd_f rfl rfl (fun W hS => mV (v := vv) rfl) <| wd_f rfl rfl (fun W hS => ex_idxL (i := 2) Try.underlying109 inf73 rfl (hP7.old hS) rfl (by decide) rfl rfl (by omega)) <| wd_f rfl rfl (fun W hS => ex_load1 Try.underlying73 rfl ((hP7.old hS).u32 (by omega))) <| wd_f rfl rfl (fun W hS => ex_andU rfl rfl) <| wd_f rfl rfl (fun W hS => ex_xorU rfl rfl) <| wd_f rfl rfl (fun W hS => mV (v := vv) rfl) <| wd_f rfl rfl (fun W hS => ex_idxL (i := 1) Try.underlying109 inf73 rfl (hP7.old hS) rfl (by decide) rfl rfl (by omega)) <| wd_f rfl rfl (fun W hS => ex_load1 Try.underlying73 rfl ((hP7.old hS).u32 (by omega))) <| wd_f rfl rfl (fun W hS => mV (v := vv) rfl) <| wd_f rfl rfl (fun W hS => ex_idxL (i := 2) Try.underlying109 inf73 rfl (hP7.old hS) rfl (by decide) rfl rfl (by omega)) <| wd_f rfl rfl (fun W hS => ex_load1 Try.underlying73 rfl ((hP7.old hS).u32 (by omega))) <| wd_f rfl rfl (fun W hS => ex_andU rfl rfl) <| wd_f rfl rfl (fun W hS => ex_xorU rfl rfl) <| wd_f rfl rfl (fun W hS => aV (v := uv ((vs.getD 0 0 &&& vs.getD 1 0) ^^^ (vs.getD 0 0 &&& vs.getD 2 0) ^^^ (vs.getD 1 0 &&& vs.getD 2 0))) rfl) <| wd_nil ?_
          have hOi := hOh.trans (Old.refl Wg).drew
          have hP8 := HV.old hOi
          generalize Wg.drew = Wi at *
          refine w_draw (fun V => Old Wi V) [(0, true), (1, true), (2, true), (3, true), (4, true), (5, true), (6, true), (7, true), (8, true), (9, true), (10, true), (11, true), (12, true), (13, true), (14, true), (15, true), (16, true), (17, true), (18, true), (19, true), (20, true), (21, true), (22, true), (23, true), (24, true), (25, true), (26, true), (27, true), (28, false), (29, true)] mixed (by decide +kernel) (Old.refl Wi).drew ?_
          refine wd_f rfl rfl (fun W hS => mI rfl) <| wd_f rfl rfl (fun W hS => mI rfl) <| wd_f rfl rfl (fun W hS => ex_addU rfl rfl) <| wd_f rfl rfl (fun W hS => mI rfl) <| wd_f rfl rfl (fun W hS => ex_addU rfl rfl) <| wd_f rfl rfl (fun W hS => mV (v := vv) rfl) <| wd_f rfl rfl (fun W hS => ex_idxL (i := 0) Try.underlying109 inf73 rfl (hP8.old hS) rfl (by decide) rfl rfl (by omega)) <| wd_f rfl rfl (fun W hS => ex_load1 Try.underlying73 rfl ((hP8.old hS).u32 (by omega))) <| wd_f rfl rfl (fun W hS => mV (v := vv) rfl) <| wd_f rfl rfl (fun W hS => ex_idxL (i := 1) Try.underlying109 inf73 rfl (hP8.old hS) rfl (by decide) rfl rfl (by omega)) <| wd_f rfl rfl (fun W hS => ex_load1 Try.underlying73 rfl ((hP8.old hS).u32 (by omega))) <| wd_f rfl rfl (fun W hS => mV (v := vv) rfl) <| wd_f rfl rfl (fun W hS => ex_idxL (i := 2) Try.underlying109 inf73 rfl (hP8.old hS) rfl (by decide) rfl rfl (by omega)) <| wd_f rfl rfl (fun W hS => ex_load1 Try.underlying73 rfl ((hP8.old hS).u32 (by omega))) <| wd_f rfl rfl (fun W hS => mV (v := vv) rfl) <| wd_f rfl rfl (fun W hS => ex_idxL (i := 3) Try.underlying109 inf73 rfl (hP8.old hS) rfl (by decide) rfl rfl (by omega)) <| wd_f rfl rfl (fun W hS => ex_load1 Try.underlying73 rfl ((hP8.old hS).u32 (by omega))) <| wd_f rfl rfl (fun W hS => mI rfl) <| wd_f rfl rfl (fun W hS => ex_addU rfl rfl) <| wd_f rfl rfl (fun W hS => mV (v := vv) rfl) <| wd_f rfl rfl (fun W hS => ex_idxL (i := 4) Try.underlying109 inf73 rfl (hP8.old hS) rfl (by decide) rfl rfl (by omega)) <| wd_f rfl rfl (fun W hS => ex_load1 Try.underlying73 rfl ((hP8.old hS).u32 (by omega))) <| wd_f rfl rfl (fun W hS => mV (v := vv) rfl) <| wd_f rfl rfl (fun W hS => ex_idxL (i := 5) Try.underlying109 inf73 rfl (hP8.old hS) rfl (by decide) rfl rfl (by omega)) <| wd_f rfl rfl (fun W hS => ex_load1 Try.underlying73 rfl ((hP8.old hS).u32 (by omega))) <| wd_f rfl rfl (fun W hS => mV (v := vv) rfl) <| wd_f rfl rfl (fun W hS => ex_idxL (i := 6) Try.underlying109 inf73 rfl (hP8.old hS) rfl (by decide) rfl rfl (by omega)) <| wd_f rfl rfl (fun W hS => ex_load1 Try.underlying73 rfl ((hP8.old hS).u32 (by omega))) <| wd_v rfl rfl (ex_buildN Try.underlying109 inf73 ((rnd (kC.getD t 0) (ws.getD t 0) vs).map uv) rfl (by simp [uv, Value.cells]) rfl (by decide) (by decide)) ((Old.refl Wi).drew.trans ((Old.refl _).alloc _)) <| wd_f rfl rfl (fun W hS => aS rfl) <| wd_nil (body_end ⟨rfl, .slice (some ⟨Wi.drew.heap.size, 0, none⟩) 8 8, rfl, rfl, rfl, rfl, rfl, rfl, ?_, ?_⟩)
          · rw [hvn]
            exact (OwnL.newU Wi.drew (rnd (kC.getD t 0) (ws.getD t 0) vs) (by simp [rnd])).lsT
          · exact (hO3.trans hOi).trans ((Old.refl Wi).drew.trans ((Old.refl _).alloc _))
        · rintro f W3 f15 ⟨vv, f3, f4, f5, f6, f7, f14, HV, hO3⟩
          obtain ⟨f, rfl⟩ := xp6 f3 f4 f5 f6 f7 f14
          have hvl := rnds_len (ws := ws) hbl 64
          generalize rnds ws hs 64 = vs at *
          refine then_k ?_
          refine w_sreg (wl_v (aS rfl) <| wl_end ?_)
          have hH3 := hH2.old hO3
          refine w_seq ?_
          refine w_sreg (wl_v (aI rfl) <| wl_end ?_)
          refine w_for 22 8 (fun i f W4 => ∃ nv, f 3 = kv ∧ f 4 = hv' ∧ f 5 = av ∧ f 6 = .int .i64 ((64 * j : Nat) : Int) ∧ f 14 = vv ∧ f 21 = nv ∧ OwnL layU 73 KF W3.heap.size W4 nv (addW hs vs i) ∧ Old W3 W4) rfl
            ⟨_, rfl, rfl, rfl, rfl, rfl, rfl, OwnL.nil, Old.refl _⟩ (fun j f w hj hi hI => w_reg (wl_v (mI hi) <| wl_v (ex_lss rfl rfl) <| wl_nil (reg_end ⟨rfl, hi, hI⟩))) (fun j f w hj hi hI => w_reg (wl_v (mI hi) <| wl_v (ex_add64 rfl rfl (by omega) (by omega)) <| wl_v (aI rfl) <| wl_nil (reg_end ⟨rfl, hI⟩))) ?_ ?_
          · rintro i f W4 hi f22 ⟨nv, f3, f4, f5, f6, f14, f21, HN, hO4⟩
            obtain ⟨f, rfl⟩ := xp7 f22 f3 f4 f5 f6 f14 f21
            have hH4 := hH3.old hO4
            have hV4 := HV.old hO4
            have hN1 := newU1 W4.drew (hs.getD i 0 + vs.getD i 0)
            have hB1 : Old W4.drew (W4.drew.alloc (.cells #[uv (hs.getD i 0 + vs.getD i 0)] 73)) := (Old.refl _).alloc _
            have hB2 : Old W4 (W4.drew.alloc (.cells #[uv (hs.getD i 0 + vs.getD i 0)] 73)) := (Old.refl W4).drew.trans hB1
            refine w_drawT (fun V => Old W4 V) [(0, true), (1, true), (2, true), (3, true), (4, true), (5, true), (6, true), (7, true), (8, true), (9, true), (10, false)] [11, 12] mixed (by decide +kernel) (Old.refl W4).drew ?_
            refine wd_f rfl rfl (fun W hS => mV (v := nv) rfl) <| wd_f rfl rfl (fun W hS => mV (v := hv') rfl) <| wd_f rfl rfl (fun W hS => mI rfl) <| wd_f rfl rfl (fun W hS => ex_idxL (i := i) Try.underlying109 inf73 rfl (hH4.old hS) rfl (by decide) rfl (by omega) (by omega)) <| wd_f rfl rfl (fun W hS => ex_load1 Try.underlying73 rfl ((hH4.old hS).u32 (by omega))) <| wd_f rfl rfl (fun W hS => mV (v := vv) rfl) <| wd_f rfl rfl (fun W hS => mI rfl) <| wd_f rfl rfl (fun W hS => ex_idxL (i := i) Try.underlying109 inf73 rfl (hV4.old hS) rfl (by decide) rfl (by omega) (by omega)) <| wd_f rfl rfl (fun W hS => ex_load1 Try.underlying73 rfl ((hV4.old hS).u32 (by omega))) <| wd_f rfl rfl (fun W hS => ex_addU rfl rfl) <| wd_v rfl rfl (ex_box1 (v := uv (hs.getD i 0 + vs.getD i 0)) Try.underlying109 inf73 rfl rfl) (hB2) <| wd_nil <| ?_
            have HN5 := HN.old hB2
            have hO5 := hO4.trans hB2
            generalize W4.drew.alloc (.cells #[uv (hs.getD i 0 + vs.getD i 0)] 73) = W5 at *
            have hal : (addW hs vs i).length = i := by simp [addW]
            refine wt_appL rfl Try.underlying109 inf73 rfl (by omega) rfl rfl HN5 rfl hN1 (by rw [hal]; simp; omega) (by omega) hO5.size (fun _ _ _ _ h => h) fun nv' W6 HN6 hg6 _ => wt_v rfl rfl (aV (v := nv') rfl) <| wt_nil (body_end ⟨rfl, nv', rfl, rfl, rfl, rfl, rfl, rfl, ?_, hO5.grown hg6 HN5.ge⟩)
            have e : addW hs vs (i + 1) = addW hs vs i ++ [hs.getD i 0 + vs.getD i 0] := range_map _ _
            rw [e]; exact HN6
          · rintro f W4 f22 ⟨nv, f3, f4, f5, f6, f14, f21, HN, hO4⟩
            obtain ⟨f, rfl⟩ := xp5 f3 f4 f5 f6 f21
            refine then_k ?_
            refine w_reg (wl_v (mV (v := nv) rfl) <| wl_v (aV (v := nv) rfl) <| wl_nil (body_end ⟨rfl, nv, rfl, rfl, rfl, ?_, (((hO.trans hO1).trans hO2).trans hO3).trans hO4⟩))
            rw [hnx]; exact HN.lsT
  · rintro f W f6 ⟨hv', f3, f4, f5, HH, hO⟩
    obtain ⟨f, rfl⟩ := xp1 f4
    have hbl := blocksV_len pl nb
    rw [hsh]
    generalize blocksV pl nb = hs at *
    refine then_k ?_
    refine w_sreg (wl_v (aS rfl) <| wl_end ?_)
    refine w_seq ?_
    refine w_sreg (wl_v (aI rfl) <| wl_end ?_)
    refine w_for 24 8 (fun i f W1 => ∃ ov, f 4 = hv' ∧ f 23 = ov ∧ OwnB W.heap.size W1 ov (outV hs i) ∧ Old W W1) rfl ⟨_, rfl, rfl, OwnB.nil _ _, Old.refl _⟩ (fun j f w hj hi hI => w_reg (wl_v (mI hi) <| wl_v (ex_lss rfl rfl) <| wl_nil (reg_end ⟨rfl, hi, hI⟩))) (fun j f w hj hi hI => w_reg (wl_v (mI hi) <| wl_v (ex_add64 rfl rfl (by omega) (by omega)) <| wl_v (aI rfl) <| wl_nil (reg_end ⟨rfl, hI⟩))) ?_ ?_
    · rintro i f W1 hi f24 ⟨ov, f4, f23, HOv, hO1⟩
      obtain ⟨f, rfl⟩ := xp3 f24 f4 f23
      have hH1 := HH.old hO1
      have hol := outV_len hs i
      have hB1 : Old W1.drew (W1.drew.alloc (.cells (bvs (outB (hs.getD i 0))).toArray 5)) := (Old.refl _).alloc _
      have hN1 := OwnB.new W1.drew (outB (hs.getD i 0)) (by simp [outB])
      have hB2 := (Old.refl W1).drew.trans hB1
      refine w_drawT (fun V => Old W1 V) [(0, true), (1, true), (2, true), (3, true), (4, true), (5, true), (6, true), (7, true), (8, true), (9, true), (10, true), (11, true), (12, true), (13, true), (14, true), (15, true), (16, true), (17, true), (18, true), (19, true), (20, true), (21, true), (22, true), (23, true), (24, true), (25, true), (26, true), (27, false)] [28, 29] mixed (by decide +kernel) (Old.refl W1).drew ?_
      refine wd_f rfl rfl (fun W hS => mV (v := ov) rfl) <| wd_f rfl rfl (fun W hS => mV (v := hv') rfl) <| wd_f rfl rfl (fun W hS => mI rfl) <| wd_f rfl rfl (fun W hS => ex_idxL (i := i) Try.underlying109 inf73 rfl (hH1.old hS) rfl (by decide) rfl (by omega) (by omega)) <| wd_f rfl rfl (fun W hS => ex_load1 Try.underlying73 rfl ((hH1.old hS).u32 (by omega))) <| wd_f rfl rfl (fun W hS => ex_quoU (c := 16777216) rfl rfl (by decide) (by decide)) <| wd_f rfl rfl (fun W hS => ex_convUY Try.underlying73 Try.underlying5 rfl) <| wd_f rfl rfl (fun W hS => mV (v := hv') rfl) <| wd_f rfl rfl (fun W hS => mI rfl) <| wd_f rfl rfl (fun W hS => ex_idxL (i := i) Try.underlying109 inf73 rfl (hH1.old hS) rfl (by decide) rfl (by omega) (by omega)) <| wd_f rfl rfl (fun W hS => ex_load1 Try.underlying73 rfl ((hH1.old hS).u32 (by omega))) <| wd_f rfl rfl (fun W hS => ex_quoU (c := 65536) rfl rfl (by decide) (by decide)) <| wd_f rfl rfl (fun W hS => ex_remU (c := 256) rfl rfl (by decide) (by decide)) <| wd_f rfl rfl (fun W hS => ex_convUY Try.underlying73 Try.underlying5 rfl) <| wd_f rfl rfl (fun W hS => mV (v := hv') rfl) <| wd_f rfl rfl (fun W hS => mI rfl) <| wd_f rfl rfl (fun W hS => ex_idxL (i := i) Try.underlying109 inf73 rfl (hH1.old hS) rfl (by decide) rfl (by omega) (by omega)) <| wd_f rfl rfl (fun W hS => ex_load1 Try.underlying73 rfl ((hH1.old hS).u32 (by omega))) <| wd_f rfl rfl (fun W hS => ex_quoU (c := 256) rfl rfl (by decide) (by decide)) <| wd_f rfl rfl (fun W hS => ex_remU (c := 256) rfl rfl (by decide) (by decide)) <| wd_f rfl rfl (fun W hS => ex_convUY Try.underlying73 Try.underlying5 rfl) <| wd_f rfl rfl (fun W hS => mV (v := hv') rfl) <| wd_f rfl rfl (fun W hS => mI rfl) <| wd_f rfl rfl (fun W hS => ex_idxL (i := i) Try.underlying109 inf73 rfl (hH1.old hS) rfl (by decide) rfl (by omega) (by omega)) <| wd_f rfl rfl (fun W hS => ex_load1 Try.underlying73 rfl ((hH1.old hS).u32 (by omega))) <| wd_f rfl rfl (fun W hS => ex_remU (c := 256) rfl rfl (by decide) (by decide)) <| wd_f rfl rfl (fun W hS => ex_convUY Try.underlying73 Try.underlying5 rfl) <| wd_v rfl rfl (ex_buildN Try.underlying23 inf5 (bvs (outB (hs.getD i 0))) rfl (by simp [bvs, bv, Value.cells]) rfl (by decide) (by decide)) (hB2) <| wd_nil <| ?_
      have HO2 := HOv.old hB2
      have hO2 := hO1.trans hB2
      generalize W1.drew.alloc (.cells (bvs (outB (hs.getD i 0))).toArray 5) = W2 at *
      refine wt_appV rfl rfl HO2 rfl hN1.isB (by rw [hol]; simp [outB]; omega) hO2.size fun ov' W3 HO3 hg3 _ => wt_v rfl rfl (aV (v := ov') rfl) <| wt_nil (body_end ⟨rfl, ov', rfl, rfl, ?_, hO2.grown hg3 HO2.ge⟩)
      have e : outV hs (i + 1) = outV hs i ++ outB (hs.getD i 0) := by unfold outV; rw [List.range_succ, List.flatMap_append]; simp
      rw [e]; exact HO3
    · rintro f W1 f24 ⟨ov, f4, f23, HOv, hO1⟩
      obtain ⟨f, rfl⟩ := xp1 f23
      refine then_k ?_
      refine w_sreg (wl_v (mV (v := ov) rfl) <| wl_v (aV (v := ov) rfl) <| wl_end ?_)
      have hA := (hO13.trans hO).trans hO1
      exact w_ret (end1 rfl ⟨_, rfl, HOv.base (hO13.trans hO).size, hA⟩)
end Go.Proofs.Ytcceeigkgklkoaa
