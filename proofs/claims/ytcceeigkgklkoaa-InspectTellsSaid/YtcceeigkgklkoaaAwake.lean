/- viaticumlaw46: awake, small. -/
import Derived.Test.YtcceeigkgklkoaaIssue
import Derived.Test.YtcceeigkgklkoaaInspect2
set_option linter.unusedSimpArgs false
set_option linter.unusedVariables false
namespace Go.Proofs.Ytcceeigkgklkoaa
open Go.RowKit

/-! ### What is put, opens -/
theorem numV_in {c pre t : List UInt8} {n most p : Nat} (hc : c = pre ++ (putv n ++ t)) (hp : p = pre.length) (hm : n ≤ most) (hn : n ≤ 4611686018427387904) : numV c p 0 most = (n, (pre ++ putv n).length, 0) := by
  subst hc; subst hp
  unfold numV
  rw [List.drop_left, takev_put n (by omega) t, if_neg (by simp), if_neg (by simp), if_pos ⟨hn, hm⟩, List.length_append]
theorem openV_put (t : Tok) (tag : List UInt8) (ht : t.may) (hl : tag.length = 32) : openV (putF 2 (t.bytes ++ (putv tag.length ++ tag))) = (t, tag, 0) := by
  obtain ⟨m1, m2, m3, m4, m5, m6, m7, m8, m9, m10⟩ := id ht
  have hs : t.small := ⟨by omega, by omega, by omega, by omega, by omega, by omega⟩
  have hbl := Tok.bytes_len hs
  have hp32 := putv_len10 (n := tag.length) (by omega)
  have hw : wholeF 2 (putF 2 (t.bytes ++ (putv tag.length ++ tag))) = (t.bytes ++ (putv tag.length ++ tag), 0) := wholeF_put 2 _ (by simp only [List.length_append]; omega)
  have hc : t.bytes ++ (putv tag.length ++ tag) = putv t.a ++ (putv t.b ++ (putv t.c ++ (putv t.d ++ (putv t.e ++ (putv t.f ++ (putv tag.length ++ tag)))))) := by simp [Tok.bytes, List.append_assoc]
  have hO : openV (putF 2 (t.bytes ++ (putv tag.length ++ tag))) = if (wholeF 2 (putF 2 (t.bytes ++ (putv tag.length ++ tag)))).2 ≠ 0 then (Tok.zero, [], (wholeF 2 (putF 2 (t.bytes ++ (putv tag.length ++ tag)))).2)
      else if doneOf (wholeF 2 (putF 2 (t.bytes ++ (putv tag.length ++ tag)))).1 ≠ 0 then (Tok.zero, [], doneOf (wholeF 2 (putF 2 (t.bytes ++ (putv tag.length ++ tag)))).1)
      else if ¬ (tokOf (wholeF 2 (putF 2 (t.bytes ++ (putv tag.length ++ tag)))).1).may ∨ (n7 (wholeF 2 (putF 2 (t.bytes ++ (putv tag.length ++ tag)))).1).1.length ≠ 32 then (Tok.zero, [], 2)
      else (tokOf (wholeF 2 (putF 2 (t.bytes ++ (putv tag.length ++ tag)))).1, (n7 (wholeF 2 (putF 2 (t.bytes ++ (putv tag.length ++ tag)))).1).1, 0) := rfl
  rw [hw] at hO
  simp only at hO
  generalize t.bytes ++ (putv tag.length ++ tag) = c at *
  have h1 : n1 c = (t.a, _, 0) := numV_in (pre := []) hc rfl m2 (by omega)
  have h2 : n2 c = (t.b, (putv t.a ++ putv t.b).length, 0) := by unfold n2; rw [h1]; exact numV_in (pre := putv t.a) hc rfl m4 (by omega)
  have h3 : n3 c = (t.c, (putv t.a ++ putv t.b ++ putv t.c).length, 0) := by unfold n3; rw [h2]; exact numV_in (pre := putv t.a ++ putv t.b) (by rw [hc]; simp only [List.append_assoc]; rfl) rfl m5 (by omega)
  have h4 : n4 c = (t.d, (putv t.a ++ putv t.b ++ putv t.c ++ putv t.d).length, 0) := by unfold n4; rw [h3]; exact numV_in (pre := putv t.a ++ putv t.b ++ putv t.c) (by rw [hc]; simp only [List.append_assoc]; rfl) rfl m6 (by omega)
  have h5 : n5 c = (t.e, (putv t.a ++ putv t.b ++ putv t.c ++ putv t.d ++ putv t.e).length, 0) := by unfold n5; rw [h4]; exact numV_in (pre := putv t.a ++ putv t.b ++ putv t.c ++ putv t.d) (by rw [hc]; simp only [List.append_assoc]; rfl) rfl m8 (by omega)
  have h6 : n6 c = (t.f, (putv t.a ++ putv t.b ++ putv t.c ++ putv t.d ++ putv t.e ++ putv t.f).length, 0) := by unfold n6; rw [h5]; exact numV_in (pre := putv t.a ++ putv t.b ++ putv t.c ++ putv t.d ++ putv t.e) (by rw [hc]; simp only [List.append_assoc]; rfl) rfl m10 (by omega)
  have h7 : n7 c = (tag, c.length, 0) := by
    have hn : numV c (n6 c).2.1 (n6 c).2.2 32 = (tag.length, (putv t.a ++ putv t.b ++ putv t.c ++ putv t.d ++ putv t.e ++ putv t.f ++ putv tag.length).length, 0) := by
      rw [h6]; exact numV_in (pre := putv t.a ++ putv t.b ++ putv t.c ++ putv t.d ++ putv t.e ++ putv t.f) (by rw [hc]; simp only [List.append_assoc]; rfl) rfl (by omega) (by omega)
    have hc2 : c = (putv t.a ++ putv t.b ++ putv t.c ++ putv t.d ++ putv t.e ++ putv t.f ++ putv tag.length) ++ tag := by rw [hc]; simp only [List.append_assoc]
    unfold n7 bytesV
    rw [hn]
    generalize putv t.a ++ putv t.b ++ putv t.c ++ putv t.d ++ putv t.e ++ putv t.f ++ putv tag.length = q at *
    subst hc2
    rw [if_neg (by simp), if_neg (by simp), List.drop_left]
    simp
  have hd : doneOf c = 0 := by unfold doneOf; rw [h7]; simp [doneV]
  have htk : tokOf c = t := by unfold tokOf; rw [h1, h2, h3, h4, h5, h6]
  rw [hO, if_neg (by simp), if_neg (by rw [hd]; simp), htk, h7, if_neg (by simp [ht, hl])]
theorem open_nil : (openV []).2.2 ≠ 0 := by
  have h : (wholeF 2 []).2 ≠ 0 := by decide +kernel
  unfold openV
  rw [if_pos h]
  exact h
theorem openV_may {b : List UInt8} (h : (openV b).2.2 = 0) : (openV b).1.may ∧ (openV b).2.1.length = 32 := by
  have hO : openV b = if (wholeF 2 b).2 ≠ 0 then (Tok.zero, [], (wholeF 2 b).2)
      else if doneOf (wholeF 2 b).1 ≠ 0 then (Tok.zero, [], doneOf (wholeF 2 b).1)
      else if ¬ (tokOf (wholeF 2 b).1).may ∨ (n7 (wholeF 2 b).1).1.length ≠ 32 then (Tok.zero, [], 2)
      else (tokOf (wholeF 2 b).1, (n7 (wholeF 2 b).1).1, 0) := rfl
  generalize openV b = p at *
  generalize (wholeF 2 b).2 = er at *
  generalize (wholeF 2 b).1 = c at *
  generalize doneOf c = dn at *
  generalize tokOf c = tk at *
  generalize (n7 c).1 = tg at *
  by_cases h1 : er ≠ 0
  · rw [if_pos h1] at hO; subst hO; exact absurd h h1
  rw [if_neg h1] at hO
  by_cases h2 : dn ≠ 0
  · rw [if_pos h2] at hO; subst hO; exact absurd h h2
  rw [if_neg h2] at hO
  by_cases h3 : ¬ tk.may ∨ tg.length ≠ 32
  · rw [if_pos h3] at hO; subst hO; cases h
  rw [if_neg h3] at hO
  subst hO
  exact ⟨Decidable.byContradiction fun h4 => h3 (.inl h4), Decidable.byContradiction fun h4 => h3 (.inr h4)⟩
theorem Tok.may.small {t : Tok} (h : t.may) : t.small := by
  obtain ⟨m1, m2, m3, m4, m5, m6, m7, m8, m9, m10⟩ := h
  exact ⟨by omega, by omega, by omega, by omega, by omega, by omega⟩

section
variable {P : Program} {n : Nat} {f : Nat → Value} {w : World} {d : Option Nat} {ty : TypeId} {pos : String} {aft : Array Edge} {gd : Option (Nat × Bool)}
/-- A literal of structs. -/
theorem ex_buildS {t e : TypeId} {z : Value} {size bytes len : Nat} {ps : Array (Nat × Operand)} (cs : Array Value) (ht : P.underlying t = some (.slice e)) (hi : Inf P e z size bytes) (hsm : len * size ≤ 2 ^ 24) (hpos : 0 < len * size)
    (hf : Instr.fill (fun i => some (i * size, size)) ((Array.range (len * size)).map (z.cells[· % z.cells.size]!)) (ps.toList.map fun p => (p.1, evo n f p.2)) = some cs) :
    EX P ⟨d, .buildSlice t len ps, ty, pos, aft, gd⟩ n f w (.slice (some ⟨w.heap.size, 0, none⟩) len len) (w.alloc (.cells cs e)) := by
  obtain ⟨i, hi2, hz, hs, _⟩ := info_parts hi
  subst hs
  have := run_buildSlice (P := P) w t e len (ps.map fun (i, x) => (i, evo n f x)) cs i z ht hi2 hz (by omega) (by omega) (by rw [Array.toList_map]; exact hf)
  simp only [EX, execOp, Sem.run_bind, this]
  rfl
end

/-! ### awake -/
def tok1 : Tok := ⟨1, 1, 0, 0, 9, 1⟩
theorem L46_awake (w : World) : Calls Try.prog 4 #[] w fun e w' => ∃ x, e = .returned x ∧ x = .bool true ∧ Old w w' := by
  refine enter (l := []) 33 Try.func4 rfl rfl (by simp) ?_
  refine w_sreg (wl_v (aB rfl) <| wl_end ?_)
  refine w_sreg (wl_makeB (m := 32) rfl rfl rfl rfl (by decide) fun kb w1 HK hO1 => ?_)
  have hk := HK.isB
  obtain ⟨kA, kc, rfl⟩ := hk.lay
  have hD2 : Old w1 (w1.alloc (.cells #[.int .i64 1, .slice kA (List.replicate 32 (0 : UInt8)).length kc] 44)) := (Old.refl w1).alloc _
  have hB2 := Box.new w1 44 #[.int .i64 1, .slice kA (List.replicate 32 (0 : UInt8)).length kc]
  refine wl_v (ex_build #[.int .i64 1, .slice kA (List.replicate 32 (0 : UInt8)).length kc] (by kernel_rfl)) <| wl_v (ex_buildS #[.int .i64 1, .slice kA (List.replicate 32 (0 : UInt8)).length kc] Try.underlying45 inf44 (by decide) (by decide) (by kernel_rfl)) <| ?_
  have hk2 := hk.old hD2
  have hA2 := hO1.trans hD2
  generalize w1.alloc (.cells #[.int .i64 1, .slice kA (List.replicate 32 (0 : UInt8)).length kc] 44) = w2 at *
  generalize w1.heap.size = gk at *
  refine wl_v (ex_build #[.int .i64 1, .slice (some ⟨gk, 0, none⟩) 1 1] (by kernel_rfl)) <| wl_new inf47 rfl rfl rfl rfl rfl fun w3 hB3 hO3 => wl_end ?_
  have hA3 := hA2.trans hO3
  refine w_sreg (wl_v (ex_ldA Try.underlying47 rfl inf47 rfl hB3 rfl) <| wl_v (ex_build (⟨1, 1, 0, 0, 9, 0⟩ : Tok).cs (by kernel_rfl)) <| wl_c (ec_fn en15) (R10_Issue1 gk _ _ (⟨1, 1, 0, 0, 9, 0⟩ : Tok) ⟨by decide, by decide, by decide, by decide, by decide, by decide⟩ w3 (hB2.old hO3) (hk2.old hO3) rfl (by decide)) ?_)
  rintro _ w4 ⟨u, tag, rfl, htg, hu, hO4⟩
  obtain ⟨uA, uc, rfl⟩ := hu.lay
  have hA4 := hA3.trans hO4
  have hop := openV_put tok1 tag (by decide) htg
  have htx : ({ (⟨1, 1, 0, 0, 9, 0⟩ : Tok) with f := 1 } : Tok) = tok1 := rfl
  rw [htx] at hu
  have hlt : (putF 2 (tok1.bytes ++ (putv tag.length ++ tag))).length ≤ 1000 := by
    have h1 := Tok.bytes_len (t := tok1) (show tok1.may by decide).small
    have h2 := putv_len10 (n := tag.length) (by omega)
    have h3 := putv_len10 (n := (tok1.bytes ++ (putv tag.length ++ tag)).length) (by simp only [List.length_append]; omega)
    rw [putF_len]
    simp only [List.length_append] at h3 ⊢
    omega
  refine wl_v (mT rfl) <| wl_v (ex_extract rfl rfl) <| wl_v (ex_extract rfl rfl) <| wl_v (aS rfl) <| wl_v (aI rfl) <| wl_end ?_
  rw [htx]
  generalize putF 2 (tok1.bytes ++ (putv tag.length ++ tag)) = tx at *
  refine w_sreg (wl_v (mS rfl) <| wl_c (ec_fn en9) (inspect_Heard [] tx (.slice none 0 0) _ w4 KT (Ls.nil _ _ _) hu false (by simp [heardV, opened])) ?_)
  rintro _ w5 ⟨rfl, hO5⟩
  have hu5 := hu.old hO5
  have hA5 := hA4.trans hO5
  have hD6 : Old w5 (w5.alloc (.cells #[.int .i64 0, .int .i64 0, .int .i64 0, .slice uA tx.length uc] 33)) := (Old.refl w5).alloc _
  refine wl_v (ex_not rfl) <| wl_v (mB rfl) <| wl_gy rfl rfl <| wl_v (mS rfl) <| wl_gy rfl rfl <| wl_v (ex_build #[.int .i64 0, .int .i64 0, .int .i64 0, .slice uA tx.length uc] (by kernel_rfl)) <| wl_gy rfl rfl <| wl_v (ex_buildS #[.int .i64 0, .int .i64 0, .int .i64 0, .slice uA tx.length uc] Try.underlying22 inf33 (by decide) (by decide) (by kernel_rfl)) <| ?_
  have hl6 : Ls layRpy KT (w5.alloc (.cells #[.int .i64 0, .int .i64 0, .int .i64 0, .slice uA tx.length uc] 33)) (.slice (some ⟨w5.heap.size, 0, none⟩) 1 1) [⟨0, 0, 0, tx⟩] :=
    Ls.new (L := layRpy) (css := [[.int .i64 0, .int .i64 0, .int .i64 0, .slice uA tx.length uc]]) (l := [⟨0, 0, 0, tx⟩]) ⟨⟨_, rfl, hu5.ls.mono fun _ _ _ => trivial⟩, trivial⟩ (by simp) trivial
  have hu6 := hu5.old hD6
  have hA6 := hA5.trans hD6
  generalize w5.alloc (.cells #[.int .i64 0, .int .i64 0, .int .i64 0, .slice uA tx.length uc] 33) = w6 at *
  generalize w5.heap.size = g6 at *
  have ho1 : openR1 ⟨0, 0, 0, tx⟩ = some (tok1, tag, tx) := by
    unfold openR1
    simp only [hop]
    rfl
  have hop1 : opened [⟨0, 0, 0, tx⟩] = [(tok1, tag, tx)] := by
    unfold opened
    rw [List.filterMap_cons, ho1]; rfl
  refine wl_gy rfl rfl <| wl_v (mS rfl) <| wl_gy rfl rfl <| wl_c (ec_fn en10) (inspect_Honest [⟨0, 0, 0, tx⟩] tx _ _ w6 KT hl6 hu6 true (by simp [honestV, hop1, hop])) ?_
  rintro _ w7 ⟨rfl, hO7⟩
  have hu7 := hu6.old hO7
  have hA7 := hA6.trans hO7
  have hD8 : Old w7 (w7.alloc (.cells #[.int .i64 0, .int .i64 0, .int .i64 0, .slice none 0 0, .int .i64 0, .int .i64 0, .int .i64 0, .slice uA tx.length uc] 33)) := (Old.refl w7).alloc _
  refine wl_v (ex_pick_t rfl rfl) <| wl_v (mB rfl) <| wl_gy rfl rfl <| wl_v (ex_build #[.int .i64 0, .int .i64 0, .int .i64 0, .slice none 0 0] (by kernel_rfl)) <| wl_gy rfl rfl <| wl_v (mS rfl) <| wl_gy rfl rfl <| wl_v (ex_build #[.int .i64 0, .int .i64 0, .int .i64 0, .slice uA tx.length uc] (by kernel_rfl)) <| wl_gy rfl rfl <| wl_v (ex_buildS #[.int .i64 0, .int .i64 0, .int .i64 0, .slice none 0 0, .int .i64 0, .int .i64 0, .int .i64 0, .slice uA tx.length uc] Try.underlying22 inf33 (by decide) (by decide) (by kernel_rfl)) <| ?_
  have hl8 : Ls layRpy KT (w7.alloc (.cells #[.int .i64 0, .int .i64 0, .int .i64 0, .slice none 0 0, .int .i64 0, .int .i64 0, .int .i64 0, .slice uA tx.length uc] 33)) (.slice (some ⟨w7.heap.size, 0, none⟩) 2 2) [⟨0, 0, 0, []⟩, ⟨0, 0, 0, tx⟩] :=
    Ls.new (L := layRpy) (css := [[.int .i64 0, .int .i64 0, .int .i64 0, .slice none 0 0], [.int .i64 0, .int .i64 0, .int .i64 0, .slice uA tx.length uc]]) (l := [⟨0, 0, 0, []⟩, ⟨0, 0, 0, tx⟩]) ⟨⟨_, rfl, Ls.nil _ _ _⟩, ⟨_, rfl, hu7.ls.mono fun _ _ _ => trivial⟩, trivial⟩ (by simp) trivial
  have hA8 := hA7.trans hD8
  generalize w7.alloc (.cells #[.int .i64 0, .int .i64 0, .int .i64 0, .slice none 0 0, .int .i64 0, .int .i64 0, .int .i64 0, .slice uA tx.length uc] 33) = w8 at *
  generalize w7.heap.size = g8 at *
  have ho0 : openR1 ⟨0, 0, 0, []⟩ = none := if_neg open_nil
  have hop2 : opened [⟨0, 0, 0, []⟩, ⟨0, 0, 0, tx⟩] = [(tok1, tag, tx)] := by
    unfold opened
    rw [List.filterMap_cons, ho0]
    exact hop1
  refine wl_gy rfl rfl <| wl_c (ec_fn en8) (inspect_Issued [⟨0, 0, 0, []⟩, ⟨0, 0, 0, tx⟩] _ w8 KT hl8 (by simp) (by rw [hop2]; simp; omega)) ?_
  rintro v9 w9 ⟨hl9, hO9⟩
  refine wl_gy rfl rfl <| wl_v (ex_lenL Try.underlying30 rfl hl9) <| wl_gy rfl rfl <| wl_v (ex_eq (ex_eql rfl rfl) (bool_t (by rw [hop2]; rfl))) <| wl_v (ex_pick_t rfl rfl) <| wl_v (aB rfl) <| wl_end ?_
  exact w_ret (end1 rfl ⟨_, rfl, rfl, hA8.trans hO9⟩)

/-! ### small -/
def smallV (l : List Rpy) (bs : List (List UInt8)) : Prop := (∀ r ∈ l, r.text.length ≤ 500) ∧ (∀ b ∈ bs, b.length ≤ 500) ∧ l.length ≤ 40
theorem L46_small (l : List Rpy) (bs : List (List UInt8)) (v u : Value) (w : World) (K : Nat → Obj → Prop) (hl : Ls layRpy K w v l) (hb : Ls (laySl layB) K w u bs) (s : Bool) (hs : s = true ↔ smallV l bs) :
    Calls Try.prog 5 #[v, u] w fun e w' => ∃ x, e = .returned x ∧ x = .bool s ∧ Old w w' := by
  refine enter (l := [_, _]) 33 Try.func5 rfl rfl (by simp) ?_
  have hll := hl.lt
  have hbl := hb.lt
  refine w_sreg (wl_v (aB rfl) <| wl_end ?_)
  refine w_seq ?_
  refine w_sreg (wl_v (mV (v := v) rfl) <| wl_v (ex_lenL Try.underlying22 rfl hl) <| wl_v (mI rfl) <| wl_end ?_)
  refine w_forR 11 l.length (fun j f W => f 0 = v ∧ f 1 = u ∧ f 9 = v ∧ f 10 = .int .i64 (l.length : Int) ∧ (∀ r ∈ l.take j, r.text.length ≤ 500) ∧ Old w W) rfl ⟨rfl, rfl, rfl, rfl, by simp, Old.refl _⟩
    (fun j f W hj hi hI => w_reg (wl_v (ex_lss hi hI.2.2.2.1) <| wl_nil (reg_end ⟨rfl, hi, hI⟩)))
    (fun j f W hj hi hI => w_reg (wl_v (ex_add64 hi rfl (by omega) (by omega)) <| wl_v (mI rfl) <| wl_nil (reg_end ⟨rfl, hI⟩))) ?_ ?_
  · rintro j f W hj f11 ⟨f0, f1, f9, f10, hsm, hO⟩
    obtain ⟨f, rfl⟩ := xp5 f11 f0 f1 f9 f10
    have hlW := hl.old hO
    obtain ⟨cs, ⟨tv, rfl, htv⟩, hcell⟩ := hlW.at_ hj
    refine w_sreg (wl_v (ex_idxL Try.underlying22 inf33 rfl hlW rfl (by decide) rfl rfl hj) <| wl_v (ex_ldN Try.underlying33 rfl inf33 rfl (fun j u hu => by rw [add_of_add]; exact hcell j u hu) rfl (by decide)) <|
      wl_new inf33 rfl rfl rfl (one4 htv.one) rfl fun w2 hB2 hO2 => wl_end ?_)
    refine w_sreg (wl_v (ex_fld fld33_3 rfl) <| wl_v (ex_load1 Try.underlying23 rfl (hB2.cell rfl)) <| wl_v (ex_lenL Try.underlying23 rfl htv) <| wl_v (ex_gtr rfl rfl) <| wl_end ?_)
    refine w_ifp rfl (fun h1 => ?_) (fun h1 => ?_)
    · have hsf : s = false := by
        cases s with
        | false => rfl
        | true => have := (hs.1 rfl).1 l[j] (List.getElem_mem hj); omega
      subst hsf
      refine w_sreg (wl_v (aB rfl) <| wl_end ?_)
      exact w_ret (body_ret (ret_then (end1 rfl ⟨_, rfl, rfl, hO.trans hO2⟩)))
    · refine w_skip (body_end ⟨rfl, rfl, rfl, rfl, rfl, fun r hr => ?_, hO.trans hO2⟩)
      rw [List.take_succ_eq_append_getElem hj, List.mem_append] at hr
      rcases hr with hr | hr
      · exact hsm r hr
      · rw [List.mem_singleton] at hr; subst hr; omega
  · rintro f W f11 ⟨f0, f1, f9, f10, hsm, hO⟩
    obtain ⟨f, rfl⟩ := xp2 f0 f1
    rw [List.take_length] at hsm
    have hbW := hb.old hO
    refine then_k ?_
    refine w_seq ?_
    refine w_sreg (wl_v (mV (v := u) rfl) <| wl_v (ex_lenL Try.underlying30 rfl hbW) <| wl_v (mI rfl) <| wl_end ?_)
    refine w_forR 22 bs.length (fun j f W2 => f 0 = v ∧ f 20 = u ∧ f 21 = .int .i64 (bs.length : Int) ∧ (∀ r ∈ bs.take j, r.length ≤ 500) ∧ W = W2) rfl ⟨rfl, rfl, rfl, by simp, rfl⟩
      (fun j f W hj hi hI => w_reg (wl_v (ex_lss hi hI.2.2.1) <| wl_nil (reg_end ⟨rfl, hi, hI⟩)))
      (fun j f W hj hi hI => w_reg (wl_v (ex_add64 hi rfl (by omega) (by omega)) <| wl_v (mI rfl) <| wl_nil (reg_end ⟨rfl, hI⟩))) ?_ ?_
    · rintro j f W2 hj f22 ⟨f0, f20, f21, hbs, rfl⟩
      obtain ⟨f, rfl⟩ := xp4 f22 f0 f20 f21
      obtain ⟨cs, ⟨tv, rfl, htv⟩, hcell⟩ := hbW.at_ hj
      refine w_sreg (wl_v (ex_idxL Try.underlying30 inf23 rfl hbW rfl (by decide) rfl rfl hj) <| wl_v (ex_load1 Try.underlying23 rfl (hcell 0 _ rfl)) <| wl_v (aV (v := tv) rfl) <| wl_end ?_)
      refine w_sreg (wl_v (mV (v := tv) rfl) <| wl_v (ex_lenL Try.underlying23 rfl htv) <| wl_v (ex_gtr rfl rfl) <| wl_end ?_)
      refine w_ifp rfl (fun h1 => ?_) (fun h1 => ?_)
      · have hsf : s = false := by
          cases s with
          | false => rfl
          | true => have := (hs.1 rfl).2.1 bs[j] (List.getElem_mem hj); omega
        subst hsf
        refine w_sreg (wl_v (aB rfl) <| wl_end ?_)
        exact w_ret (body_ret (ret_then (end1 rfl ⟨_, rfl, rfl, hO⟩)))
      · refine w_skip (body_end ⟨rfl, rfl, rfl, rfl, fun r hr => ?_, rfl⟩)
        rw [List.take_succ_eq_append_getElem hj, List.mem_append] at hr
        rcases hr with hr | hr
        · exact hbs r hr
        · rw [List.mem_singleton] at hr; subst hr; omega
    · rintro f W2 f22 ⟨f0, f20, f21, hbs, rfl⟩
      obtain ⟨f, rfl⟩ := xp1 f0
      rw [List.take_length] at hbs
      refine then_k ?_
      have e : decide ((l.length : Int) ≤ 40) = s := by
        rw [Bool.eq_iff_iff, hs]
        simp only [decide_eq_true_eq]
        exact ⟨fun h => ⟨hsm, hbs, by omega⟩, fun h => by have := h.2.2; omega⟩
      refine w_sreg (wl_v (mV (v := v) rfl) <| wl_v (ex_lenL Try.underlying22 rfl hl) <| wl_v (ex_eq (ex_leq rfl rfl) (congrArg Value.bool e)) <| wl_v (aB rfl) <| wl_end ?_)
      exact w_ret (end1 rfl ⟨_, rfl, rfl, hO⟩)
end Go.Proofs.Ytcceeigkgklkoaa
