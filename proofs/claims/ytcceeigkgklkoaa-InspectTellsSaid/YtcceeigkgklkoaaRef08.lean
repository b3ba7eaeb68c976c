/- viaticumref08: tags under a key. -/
import Derived.Test.YtcceeigkgklkoaaRef07
import Derived.Test.YtcceeigkgklkoaaConv
set_option linter.unusedSimpArgs false
set_option linter.unusedVariables false
namespace Go.Proofs.Ytcceeigkgklkoaa
open Go.RowKit

def keyV (key : List UInt8) : List UInt8 := if 64 < key.length then shaV key else key
def padK (key : List UInt8) (x : UInt8) (n : Nat) : List UInt8 := (List.range n).map fun i => if i < (keyV key).length then (keyV key).getD i 0 ^^^ x else x
def tagV (key b : List UInt8) : List UInt8 := shaV (padK key 92 64 ++ shaV (padK key 54 64 ++ b))
def deriveV (key name b : List UInt8) : List UInt8 := tagV key (name ++ [0] ++ b)
theorem tagV_len (key b : List UInt8) : (tagV key b).length = 32 := shaV_len _
theorem padK_len (key : List UInt8) (x : UInt8) (n : Nat) : (padK key x n).length = n := by simp [padK]
theorem xorB (a b : UInt8) : bits .xor .u8 (a.toNat : Int) (b.toNat : Int) = ((a ^^^ b).toNat : Int) := by
  rw [u8_xor_nat _ _ a.toNat_lt b.toNat_lt, ← UInt8.toNat_xor]

theorem R8_Block (key : List UInt8) (x : UInt8) (v : Value) (w : World) (hv : IsB w v key) (hlen : key.length ≤ 1099511627776) :
    Calls Try.prog 65 #[v, bv x] w fun e w' => ∃ u, e = .returned u ∧ OwnB w.heap.size w' u (padK key x 64) ∧ Old w w' := by
  refine enter (l := [_, _]) 34 Try.func65 rfl rfl (by simp) ?_
  refine w_sreg (wl_v (aS rfl) <| wl_end ?_)
  refine w_cut (fun f W => ∃ kv, f 0 = kv ∧ f 1 = bv x ∧ IsB W kv (keyV key) ∧ Old w W) ?_ ?_
  · refine w_sreg (wl_v (mV (v := v) rfl) <| wl_v (ex_lenB Try.underlying23 rfl hv) <| wl_v (ex_gtr rfl rfl) <| wl_end ?_)
    refine w_ifp rfl (fun h1 => ?_) (fun h1 => ?_)
    · refine w_reg (wl_v (mV (v := v) rfl) <| wl_c (ec_fn en64) (R7_Sum key v w hv hlen) ?_)
      rintro kv w1 ⟨HO, hO⟩
      refine wl_v (aV (v := kv) rfl) <| wl_nil (cut_end ⟨kv, rfl, rfl, ?_, hO⟩)
      rw [keyV, if_pos (by omega)]; exact HO.isB
    · refine w_skip (cut_end ⟨v, rfl, rfl, ?_, Old.refl _⟩)
      rw [keyV, if_neg (by omega)]; exact hv
  rintro f w1 ⟨kv, f0, f1, hk, hO1⟩
  obtain ⟨f, rfl⟩ := xp2 f0 f1
  have hpd : ∀ i, padK key x (i + 1) = padK key x i ++ [if i < (keyV key).length then (keyV key).getD i 0 ^^^ x else x] := fun i => range_map _ _
  have hpl := padK_len key x
  have hp0 : padK key x 0 = [] := rfl
  generalize padK key x = pk at *
  generalize keyV key = kk at *
  have hkl : Ls layB KT w1 kv kk := hk.ls.mono fun _ _ _ => trivial
  refine w_sreg (wl_v (aS rfl) <| wl_end ?_)
  refine w_seq ?_
  refine w_sreg (wl_v (aI rfl) <| wl_end ?_)
  refine w_for 6 64 (fun i f W => ∃ ov, f 0 = kv ∧ f 1 = bv x ∧ f 5 = ov ∧ OwnB w1.heap.size W ov (pk i) ∧ Old w1 W) rfl
    ⟨_, rfl, rfl, rfl, by rw [hp0]; exact OwnB.nil _ _, Old.refl _⟩
    (fun j f w hj hi hI => w_reg (wl_v (mI hi) <| wl_v (ex_lss rfl rfl) <| wl_nil (reg_end ⟨rfl, hi, hI⟩)))
    (fun j f w hj hi hI => w_reg (wl_v (mI hi) <| wl_v (ex_add64 rfl rfl (by omega) (by omega)) <| wl_v (aI rfl) <| wl_nil (reg_end ⟨rfl, hI⟩))) ?_ ?_
  · rintro i f W hi f6 ⟨ov, f0, f1, f5, HO, hO⟩
    obtain ⟨f, rfl⟩ := xp4 f6 f0 f1 f5
    have hkW := hkl.old hO
    have hpi := hpl i
    have hpn := hpd i
    refine w_sreg (wl_v (mI rfl) <| wl_v (mV (v := kv) rfl) <| wl_v (ex_lenL Try.underlying23 rfl hkW) <| wl_v (ex_lss rfl rfl) <| wl_end ?_)
    refine w_ifp rfl (fun h2 => ?_) (fun h2 => ?_)
    · have hlt : i < kk.length := by omega
      rw [if_pos hlt] at hpn
      refine w_reg (wl_v (mV (v := ov) rfl) <| wl_v (mV (v := kv) rfl) <| wl_v (mI rfl) <| wl_v (ex_idxL Try.underlying23 inf5 rfl hkW rfl (by decide) rfl rfl hlt) <| wl_v (ex_load1 Try.underlying5 rfl (hkW.u8 hlt)) <| wl_v (mI rfl) <| wl_v (ex_xor rfl rfl) <| wl_v (ex_box1 Try.underlying23 inf5 rfl rfl) <|
        wl_app1 (kk.getD i 0 ^^^ x) (xorB _ _) rfl HO rfl (by omega) hO.size fun ov' W' HO' hg' _ => wl_v (aV (v := ov') rfl) <| wl_nil (body_end ⟨rfl, ov', rfl, rfl, rfl, by rw [hpn]; exact HO', hO.grown hg' HO.ge⟩))
    · have hlt : ¬ i < kk.length := by omega
      rw [if_neg hlt] at hpn
      refine w_reg (wl_v (mV (v := ov) rfl) <| wl_v (mI rfl) <| wl_v (ex_box1 Try.underlying23 inf5 rfl rfl) <|
        wl_app1 x rfl rfl HO rfl (by omega) hO.size fun ov' W' HO' hg' _ => wl_v (aV (v := ov') rfl) <| wl_nil (body_end ⟨rfl, ov', rfl, rfl, rfl, by rw [hpn]; exact HO', hO.grown hg' HO.ge⟩))
  · rintro f W f6 ⟨ov, f0, f1, f5, HO, hO⟩
    obtain ⟨f, rfl⟩ := xp1 f5
    refine then_k ?_
    refine w_sreg (wl_v (mV (v := ov) rfl) <| wl_v (aV (v := ov) rfl) <| wl_end ?_)
    exact w_ret (end1 rfl ⟨_, rfl, HO.base hO1.size, hO1.trans hO⟩)

theorem R8_Tag (key b : List UInt8) (v u : Value) (w : World) (hv : IsB w v key) (hu : IsB w u b) (hk : key.length ≤ 1099511627776) (hb : b.length ≤ 1099511627000) :
    Calls Try.prog 60 #[v, u] w fun e w' => ∃ x, e = .returned x ∧ OwnB w.heap.size w' x (tagV key b) ∧ Old w w' := by
  refine enter (l := [_, _]) 16 Try.func60 rfl rfl (by simp) ?_
  refine w_sreg (wl_v (aS rfl) <| wl_end ?_)
  have hp1 := padK_len key 54 64
  have hp2 := padK_len key 92 64
  have htv : tagV key b = shaV (padK key 92 64 ++ shaV (padK key 54 64 ++ b)) := rfl
  rw [htv]
  clear htv
  refine w_sreg (wl_v (mV (v := v) rfl) <| wl_c (ec_fn en65) (R8_Block key 54 v w hv hk) ?_)
  rintro v1 w1 ⟨HO1, hO1⟩
  generalize padK key 54 64 = p1 at *
  refine wl_v (mV (v := u) rfl) <| wl_appV rfl HO1 rfl (hu.old hO1) (by omega) hO1.size fun v2 w2 HO2 hg2 _ => ?_
  have hO2 := hO1.grown hg2 HO1.ge
  have hl2 : (p1 ++ b).length ≤ 1099511627776 := by rw [List.length_append]; omega
  refine wl_c (ec_fn en64) (R7_Sum (p1 ++ b) v2 w2 HO2.isB hl2) ?_
  rintro v3 w3 ⟨HO3, hO3⟩
  have hs3 := shaV_len (p1 ++ b)
  generalize shaV (p1 ++ b) = s3 at *
  have hO13 := hO2.trans hO3
  refine wl_v (aV (v := v3) rfl) <| wl_end ?_
  refine w_sreg (wl_v (mV (v := v) rfl) <| wl_c (ec_fn en65) (R8_Block key 92 v w3 (hv.old hO13) hk) ?_)
  rintro v4 w4 ⟨HO4, hO4⟩
  generalize padK key 92 64 = p2 at *
  have hO14 := hO13.trans hO4
  refine wl_v (mV (v := v3) rfl) <| wl_appV rfl HO4 rfl (HO3.old hO4).isB (by omega) hO4.size fun v5 w5 HO5 hg5 _ => ?_
  have hO5 := hO14.grown hg5 fun k hk => by have := HO4.ge k hk; have := hO13.size; omega
  have hl5 : (p2 ++ s3).length ≤ 1099511627776 := by rw [List.length_append]; omega
  refine wl_c (ec_fn en64) (R7_Sum (p2 ++ s3) v5 w5 HO5.isB hl5) ?_
  rintro v6 w6 ⟨HO6, hO6⟩
  refine wl_v (aV (v := v6) rfl) <| wl_end ?_
  exact w_ret (end1 rfl ⟨_, rfl, HO6.base hO5.size, hO5.trans hO6⟩)

theorem R8_Derive (key b : List UInt8) (nm : ByteArray) (v u : Value) (w : World) (hv : IsB w v key) (hu : IsB w u b) (hk : key.length ≤ 1099511627776) (hn : nm.size ≤ 1000) (hb : b.length ≤ 1099511620000) :
    Calls Try.prog 51 #[v, .string nm, u] w fun e w' => ∃ x, e = .returned x ∧ OwnB w.heap.size w' x (deriveV key nm.data.toList b) ∧ Old w w' := by
  refine enter (l := [_, _, _]) 18 Try.func51 rfl rfl (by simp) ?_
  refine w_sreg (wl_v (aS rfl) <| wl_end ?_)
  have hnl : nm.data.toList.length = nm.size := by simp
  have hdv : deriveV key nm.data.toList b = tagV key (nm.data.toList ++ [0] ++ b) := rfl
  rw [hdv]
  clear hdv
  refine w_sreg (wl_v (mZ rfl) <| wl_bytesOf Try.underlying9 Try.underlying23 Try.underlying5 rfl (by omega) fun v1 w1 HM hO1 => wl_v (aV (v := v1) rfl) <| wl_end ?_)
  generalize nm.data.toList = nl at *
  have hB1 : Old w1 (w1.alloc (.cells #[bv 0] 5)) := (Old.refl _).alloc _
  have HN1 : OwnB w1.heap.size (w1.alloc (.cells #[bv 0] 5)) (.slice (some ⟨w1.heap.size, 0, none⟩) 1 1) [0] := OwnB.new w1 [0] (by simp)
  refine w_sreg (wl_v (mV (v := v1) rfl) <| wl_v (ex_box1 (v := bv 0) Try.underlying23 inf5 rfl rfl) <| ?_)
  generalize w1.alloc (.cells #[bv 0] 5) = w2 at *
  have hO2 := hO1.trans hB1
  have HM2 : OwnA w.heap.size w2 v1 nl := .inr (HM.old hB1)
  refine wl_appA rfl HM2 rfl HN1.isB (by simp; omega) hO2.size fun v3 w3 HO3 hg3 => wl_v (aV (v := v3) rfl) <| wl_end ?_
  have hO3 := hO2.grown hg3 HM2.ge
  refine w_sreg (wl_v (mV (v := v) rfl) <| wl_v (mV (v := v3) rfl) <| wl_v (mV (v := u) rfl) <| wl_appA rfl HO3 rfl (hu.old hO3) (by simp; omega) hO3.size fun v4 w4 HO4 hg4 => ?_)
  have hO4 := hO3.grown hg4 HO3.ge
  have hl4 : (nl ++ [0] ++ b).length ≤ 1099511627000 := by simp; omega
  refine wl_c (ec_fn en60) (R8_Tag key (nl ++ [0] ++ b) v v4 w4 (hv.old hO4) HO4.isB hk hl4) ?_
  rintro v5 w5 ⟨HO5, hO5⟩
  refine wl_v (aV (v := v5) rfl) <| wl_end ?_
  exact w_ret (end1 rfl ⟨_, rfl, HO5.base hO4.size, hO4.trans hO5⟩)
end Go.Proofs.Ytcceeigkgklkoaa
