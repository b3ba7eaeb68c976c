/- inspect: what was issued. -/
import Derived.Test.YtcceeigkgklkoaaList
import Derived.Test.YtcceeigkgklkoaaToken2
namespace Go.Proofs.Ytcceeigkgklkoaa
open Go.RowKit

structure Rpy where
  err : Int
  n : Int
  m : Int
  text : List UInt8
def layRpy : Lay Rpy where
  n := 4
  is K w cs r := ∃ tv, cs = [.int .i64 r.err, .int .i64 r.n, .int .i64 r.m, tv] ∧ Ls layB K w tv r.text
  len := by rintro _ _ _ _ ⟨tv, rfl, _⟩; rfl
  one := by
    rintro _ _ _ _ ⟨tv, rfl, h⟩ u hu
    simp only [List.mem_cons, List.not_mem_nil, or_false] at hu
    rcases hu with rfl | rfl | rfl | rfl
    · rfl
    · rfl
    · rfl
    · exact h.one
  kept := by rintro _ _ _ _ _ ⟨tv, rfl, h⟩ hk; exact ⟨tv, rfl, h.kept hk⟩
  mono := by rintro _ _ _ _ _ ⟨tv, rfl, h⟩ hk; exact ⟨tv, rfl, h.mono hk⟩
  inn := by rintro _ _ _ _ ⟨tv, rfl, h⟩; exact ⟨tv, rfl, h.inn⟩
/-- A reply whose text is a token: the token, its tag, the text. -/
def openR1 (r : Rpy) : Option (Tok × List UInt8 × List UInt8) := if (openV r.text).2.2 = 0 then some ((openV r.text).1, (openV r.text).2.1, r.text) else none
def opened (l : List Rpy) : List (Tok × List UInt8 × List UInt8) := l.filterMap openR1
theorem opened_at {l : List Rpy} {i : Nat} (hi : i < l.length) : opened l = opened (l.take i) ++ ((openR1 l[i]).toList ++ opened (l.drop (i + 1))) := by
  have h : l = l.take i ++ l[i] :: l.drop (i + 1) := by simp
  have h2 : opened (l.take i ++ l[i] :: l.drop (i + 1)) = opened (l.take i) ++ ((openR1 l[i]).toList ++ opened (l.drop (i + 1))) := by
    unfold opened
    rw [List.filterMap_append, List.filterMap_cons]
    cases openR1 l[i] <;> simp
  rw [← h] at h2
  exact h2
theorem opened_next {l : List Rpy} {i : Nat} (hi : i < l.length) : opened (l.take (i + 1)) = opened (l.take i) ++ (openR1 l[i]).toList := by
  rw [List.take_succ_eq_append_getElem hi]
  unfold opened
  rw [List.filterMap_append, List.filterMap_cons, List.filterMap_nil]
  cases openR1 l[i] <;> simp
/-- The k-th that is told. -/
def shownX (o : List (Tok × List UInt8 × List UInt8)) (k : Nat) (vs : List Value) (w : World) : Prop := ∃ p tv xv, o[k]? = some p ∧ vs = [.agg (p.1.cs.push tv), xv] ∧ IsB w tv p.2.1 ∧ IsB w xv p.2.2

theorem one4 {a b c : Int} {v : Value} (h : v.oneCell' = true) : [Value.int .i64 a, .int .i64 b, .int .i64 c, v].all (·.oneCell') = true := by
  show (true && (true && (true && (v.oneCell' && true)))) = true
  rw [h]; rfl
theorem inspect_issued (v : Value) (w : World) :
    Calls Try.prog 22 #[v] w fun e w' => ∃ u, e = .returned u ∧ u = .func (.func 39) #[] [Value.pointer (some ⟨w.heap.size, 0, none⟩)].toArray ∧ w' = w.alloc (.cells v.cells 22) := by
  refine enter (l := [_]) 4 Try.func22 rfl rfl (by simp) ?_
  refine w_sreg (wl_v (ex_box (v := v) (cs := v.cells) rfl rfl) <| wl_v (aN rfl) <| wl_end ?_)
  refine w_sreg (wl_v ex_makeFunc <| wl_v (aF rfl) <| wl_end ?_)
  exact w_ret (end1 rfl ⟨_, rfl, rfl, rfl⟩)

theorem issued_iter (l : List Rpy) (v : Value) (g : Nat) (K : Nat → Obj → Prop) (w : World) (hB : Box w g 22 #[v]) (hl : Ls layRpy K w v l) :
    Iter Try.prog 39 [.pointer (some ⟨g, 0, none⟩)] (shownX (opened l)) (opened l).length K (fun _ _ => True) w := by
  intro ln J Jx W hW hJ hJx hY h0
  have hBW := hB.old hW
  have hlW := hl.old hW
  have hlen := hl.lt
  refine enter (l := [_, _]) 34 Try.func39 rfl rfl (by simp) ?_
  refine w_sreg (wl_v (ex_load1 Try.underlying22 rfl (hBW.cell rfl)) <| wl_v (ex_lenL Try.underlying22 rfl hlW) <| wl_v (mI rfl) <| wl_end ?_)
  refine w_block ?_
  refine w_loop (fun k f w' => ∃ i : Nat, f 0 = .func (.yield ln) #[] #[] ∧ f 8 = v ∧ f 9 = .int .i64 (l.length : Int) ∧ f 10 = .int .i64 (i : Int) ∧ k = l.length - i ∧ i ≤ l.length ∧ J (opened (l.take i)).length w' ∧ Ls layRpy K w' v l) l.length ?_ ?_
  · exact ⟨0, rfl, rfl, rfl, rfl, rfl, by omega, h0, hlW⟩
  rintro k f w' ⟨i, f0, f8, f9, f10, rfl, hi, hJi, hli⟩
  obtain ⟨f, rfl⟩ := xp4 f0 f8 f9 f10
  refine w_sreg (wl_v (ex_lss rfl rfl) <| wl_end ?_)
  refine w_seq (w_ifx rfl (fun h1 => w_exit (exit_then (exit_then (exit_hit (end0 rfl ?_))))) (fun h1 => w_skip (then_k ?_)))
  · refine ⟨⟨_, rfl⟩, .inl ?_⟩
    have : i = l.length := by omega
    subst this
    rwa [List.take_length] at hJi
  have hlt : i < l.length := by omega
  obtain ⟨cs, ⟨tv, rfl, htv⟩, hcell⟩ := hli.at_ hlt
  have hat := opened_at hlt
  have hnx := opened_next hlt
  refine w_seq ?_
  refine w_block ?_
  refine w_sreg (wl_v (ex_idxL Try.underlying22 inf33 rfl hli rfl (by decide) rfl rfl hlt) <| wl_v (ex_ldN Try.underlying33 rfl inf33 rfl (fun j u hu => by rw [add_of_add]; exact hcell j u hu) rfl (by decide)) <|
    wl_new inf33 rfl rfl rfl (one4 htv.one) rfl fun w2 hB2 hO2 => wl_end ?_)
  generalize w'.heap.size = g2 at *
  have htv2 := htv.old hO2
  refine w_sreg (wl_v (ex_fld fld33_3 rfl) <| wl_v (ex_load1 Try.underlying23 rfl (hB2.cell rfl)) <| wl_c (ec_fn en24) (token_Open _ tv w2 htv2.isB) ?_)
  rintro _ w3 ⟨u, rfl, hu, hO3⟩
  obtain ⟨uA, uc, rfl⟩ := hu.lay
  have ho : openR1 l[i] = if (openV l[i].text).2.2 = 0 then some ((openV l[i].text).1, (openV l[i].text).2.1, l[i].text) else none := rfl
  generalize (openV l[i].text).1 = t at *
  generalize (openV l[i].text).2.1 = tag at *
  generalize (openV l[i].text).2.2 = er at *
  refine wl_v (mT rfl) <| wl_v (ex_extract rfl rfl) <| wl_v (ex_extract rfl rfl) <| wl_v (ex_extract rfl rfl) <| wl_new (cs := t.cs) inf27 rfl rfl rfl rfl rfl fun w4 hB4 hO4 => wl_v (aS rfl) <| wl_v (aI rfl) <| wl_end ?_
  generalize w3.heap.size = g4 at *
  have hO24 := hO3.trans hO4
  have hOw := hO2.trans hO24
  have hu4 := hu.old hO4
  have hli4 := hli.old hOw
  have hJ4 := hJ _ _ _ hJi (Kp.of_old hOw)
  have hB24 := hB2.old hO24
  have htv4 := htv2.old hO24
  by_cases he : er = 0
  · subst he
    rw [if_pos rfl] at ho
    rw [ho] at hat hnx
    have hk : (opened l)[(opened (l.take i)).length]? = some (t, tag, l[i].text) := by
      rw [hat, List.getElem?_append_right (Nat.le_refl _), Nat.sub_self]; rfl
    have hkl : (opened (l.take i)).length < (opened l).length := (List.getElem?_eq_some_iff.1 hk).1
    refine w_sreg (wl_v (mI rfl) <| wl_v (ex_eq (ex_eql rfl rfl) (bool_t (by omega))) <| wl_v (mB rfl) <| wl_gy rfl rfl <| wl_v (mF rfl) <| wl_gy rfl rfl <| wl_v (ex_ldA Try.underlying27 rfl inf27 rfl hB4 rfl) <| wl_gy rfl rfl <| wl_v (mS rfl) <| wl_gy rfl rfl <| wl_v (ex_build (t.cs.push (.slice uA tag.length uc)) (by kernel_rfl)) <|
      wl_gy rfl rfl <| wl_v (ex_fld fld33_3 rfl) <| wl_gy rfl rfl <| wl_v (ex_load1 Try.underlying23 rfl (hB24.cell rfl)) <| wl_gy rfl rfl <| wl_yield rfl (hY _ _ w4 hkl hJ4 ⟨(t, tag, l[i].text), _, tv, hk, rfl, hu4, htv4.isB⟩) ?_)
    rintro e w5 (⟨rfl, hJ5, hK5⟩ | ⟨rfl, hx5⟩)
    · refine ⟨_, rfl, wl_gy rfl rfl <| wl_v (ex_not rfl) <| wl_v (ex_pick_t rfl rfl) <| wl_end ?_⟩
      refine w_if_f rfl ?_
      refine w_skip (norm_block (then_k ?_))
      refine w_reg (wl_v (ex_add64 rfl rfl (by omega) (by omega)) <| wl_v (mI rfl) <| wl_nil (round_end (l.length - (i + 1)) (by omega) ⟨i + 1, rfl, rfl, rfl, rfl, rfl, by omega, ?_, hli4.kept hK5⟩))
      rw [hnx, List.length_append]
      exact hJ5
    · refine ⟨_, rfl, wl_gy rfl rfl <| wl_v (ex_not rfl) <| wl_v (ex_pick_t rfl rfl) <| wl_end ?_⟩
      refine w_if_t rfl ?_
      exact w_ret (ret_block (ret_then (ret_then (ret_block (end0r rfl ⟨⟨_, rfl⟩, .inr hx5⟩)))))
  · rw [if_neg he] at ho
    rw [ho] at hat hnx
    refine w_sreg (wl_v (mI rfl) <| wl_v (ex_eq (ex_eql rfl rfl) (bool_f (by omega))) <| wl_v (mB rfl) <| wl_gn rfl rfl rfl <| wl_gn rfl rfl rfl <| wl_gn rfl rfl rfl <| wl_gn rfl rfl rfl <| wl_gn rfl rfl rfl <| wl_gn rfl rfl rfl <| wl_gn rfl rfl rfl <| wl_gn rfl rfl rfl <| wl_v (ex_pick_f rfl rfl) <| wl_end ?_)
    refine w_if_f rfl ?_
    refine w_skip (norm_block (then_k ?_))
    refine w_reg (wl_v (ex_add64 rfl rfl (by omega) (by omega)) <| wl_v (mI rfl) <| wl_nil (round_end (l.length - (i + 1)) (by omega) ⟨i + 1, rfl, rfl, rfl, rfl, rfl, by omega, ?_, hli4⟩))
    rw [hnx]
    simpa using hJ4
end Go.Proofs.Ytcceeigkgklkoaa
