/- inspect: Issued, Heard, Honest, Splice. -/
import Derived.Test.YtcceeigkgklkoaaInspect
namespace Go.Proofs.Ytcceeigkgklkoaa
open Go.RowKit

theorem kbook (p : Nat → Obj → Prop) : ∀ k o, isBook o = true → (p k o ∨ isBook o = true) := fun _ _ h => .inr h
/-- Rows of bytes, from b on. -/
def texts (o : List (Tok × List UInt8 × List UInt8)) : List (List UInt8) := o.map fun p => p.2.2
abbrev KB (b : Nat) : Nat → Obj → Prop := fun k o => b ≤ k ∧ tagOf o = some 5
theorem tag_book {o : Obj} {e : TypeId} (h : tagOf o = some e) : isBook o = false := by cases o <;> first | rfl | cases h
/-- What Issued returns. -/
theorem inspect_Issued (l : List Rpy) (v : Value) (w : World) (K : Nat → Obj → Prop) (hl : Ls layRpy K w v l) (hsm : l.length ≤ 1000000) (htx : ∀ p ∈ opened l, p.2.2.length ≤ 140737488355328) :
    Calls Try.prog 8 #[v] w fun e w' => ∃ u, e = .returned u ∧ Ls (laySl layB) (fun k _ => w.heap.size ≤ k) w' u (texts (opened l)) ∧ Old w w' := by
  refine enterM (l := [_]) 16 Try.func8 rfl rfl (by simp) ?_
  have hD : Old w (w.alloc (.cells #[.slice none 0 0] 30)) := (Old.refl w).alloc _
  have hB := Box.new w 30 #[.slice none 0 0]
  refine w_sreg (wl_v (aS rfl) <| wl_end ?_)
  refine w_sreg (wl_v (ex_alloc inf30) <| wl_end ?_)
  have hz : w.alloc (.cells (Value.slice none 0 0).cells 30) = w.alloc (.cells #[.slice none 0 0] 30) := rfl
  rw [hz]
  have hl1 := hl.here.old hD
  have hlt0 := hB.lt
  generalize w.alloc (.cells #[.slice none 0 0] 30) = w1 at *
  refine w_seq ?_
  refine w_sreg (wl_v (mV (v := v) rfl) <| wl_c (ec_fn en22) (inspect_issued v w1) ?_)
  rintro _ w2 ⟨rfl, rfl⟩
  rw [hl.cells]
  have hB4 := Box.new w1 22 #[v]
  have hD2 : Old w1 (w1.alloc (.cells #[v] 22)) := (Old.refl w1).alloc _
  refine wl_end ?_
  have hA2 := hD.trans hD2
  have hB2 := hB.old hD2
  have hl2 := hl1.old hD2
  have hs2 := hD2.size
  have hs4 := hB4.lt
  generalize w1.alloc (.cells #[v] 22) = w2 at *
  generalize hg4 : w1.heap.size = g4 at *
  have hon : (opened l).length ≤ l.length := List.length_filterMap_le _ _
  refine w_block ?_
  refine w_range (K := fun k o => k < w.heap.size ∨ isBook o = true) (K' := fun _ _ => True) (X := shownX (opened l)) rfl en39 (issued_iter l v g4 _ w2 hB4 (hl2.mono fun k o h => .inl h)) (by rintro k vs W ⟨p, tv, xv, _, rfl, _⟩; rfl) (kbook _) (fun _ _ _ => trivial)
    (fun k W => (∃ u, Box W w.heap.size 30 #[u] ∧ OwnL (laySl layB) 23 (KB (w.heap.size + 1)) (w.heap.size + 1) W u (texts ((opened l).take k))) ∧ Old w W)
    (fun k => Stb.and (Stb.ex fun u => Stb.and (Stb.box (fun _ _ => trivial) _ _ _) (Stb.kc (fun _ _ => trivial) fun A B h hk => h.kc hk fun _ _ h => tag_book h.2)) (Stb.old (fun _ _ => trivial) w (by omega)))
    (fun _ _ => False) (fun _ => Stb.pure _) ⟨⟨_, hB2, OwnL.nil⟩, hA2⟩
    (fun k f' W => ∃ p xv, (opened l)[k]? = some p ∧ f' 5 = xv ∧ f' 3 = .pointer (some ⟨w.heap.size, 0, none⟩) ∧ IsB W xv p.2.2)
    (fun k f' => Stb.ex fun p => Stb.ex fun xv => Stb.and (Stb.pure _) (Stb.and (Stb.pure _) (Stb.and (Stb.pure _) (Stb.isB (fun _ _ => trivial) _ _))))
    ?_ ?_ ?_ (fun _ _ _ _ h => h.elim)
  · rintro ln k vs W1 hk hI ⟨p, tv, xv, hp, rfl, htv, hxv⟩
    exact w_reg (wl_v (aV (v := xv) rfl) <| wl_nil (then_k ⟨_, rfl, ⟨p, xv, hp, rfl, rfl, hxv⟩, hI, Kp.refl _ _⟩))
  · rintro ln k f W1 hk ⟨⟨u, hBu, hOu⟩, hAu⟩ ⟨p, xv, hp, f5, f3, hxv⟩
    obtain ⟨f, rfl⟩ := xp2 f5 f3
    have hps := htx p (List.mem_of_getElem? hp)
    have hsz := hBu.lt
    refine w_block ?_
    have hDd : Old W1 W1.drew := (Old.refl _).drew
    refine w_drawT (fun W => Box W w.heap.size 30 #[u]) [(0, true), (1, true), (2, false), (3, false), (4, false)] [5] mixed (by decide +kernel) (hBu.old hDd) ?_
    refine wd_f rfl rfl (fun W hS => ex_load1 Try.underlying30 rfl (hS.cell rfl)) <| wd_f rfl rfl (fun W hS => mV (v := xv) rfl) <| wd_c rfl rfl (ec_fn en23) (clone p.2.2 xv W1.drew (hxv.old hDd) hps) ?_
    rintro cv W2 ⟨HO2, HB2⟩
    have hA2' := hDd.trans HB2
    have hb1 := hDd.size
    refine ⟨hBu.old hA2', wd_v rfl rfl (ex_box1 (v := cv) Try.underlying30 inf23 rfl HO2.one) ((hBu.old hA2').old ((Old.refl _).alloc _)) ?_⟩
    have hD3 : Old W2 (W2.alloc (.cells #[cv] 23)) := (Old.refl _).alloc _
    have hcv := (HO2.ls.mono (K' := KB (w.heap.size + 1)) fun k o h => ⟨by have := h.1; omega, h.2⟩)
    have hcl := LsE.new1s (e := 23) hcv
    have hA3 := hA2'.trans hD3
    have hBu3 := hBu.old hA3
    have hOu3 := hOu.old hA3
    have hs3 := hA3.size
    generalize W2.alloc (.cells #[cv] 23) = W3 at *
    have htn : (texts ((opened l).take k)).length ≤ 1000000 := by
      unfold texts
      rw [List.length_map, List.length_take]; omega
    refine wd_appL rfl Try.underlying30 inf23 rfl (by omega) rfl rfl hOu3 rfl hcl (by simp; omega) (by omega) (by omega) (fun j o hj ho hK => by
      obtain ⟨cs, hcs⟩ := hOu3.tag j hj
      rw [hcs] at ho; injection ho with ho; subst ho
      exact absurd hK.2 (by simp [tagOf])) ?_
    intro u' W4 HO4 hg4 hat4
    have hBu4 := hBu3.grown hg4 (fun h => by have := hOu3.ge _ h; omega)
    refine ⟨hBu4, ?_⟩
    refine wd_nil (wt_st rfl inf30 rfl (v := u') rfl HO4.one hBu4 (by simp) fun W5 hB5 hU5 => wt_nil (norm_block ⟨?_, ⟨⟨u', hB5, ?_⟩, ?_⟩⟩))
    · have k3 : Kp (fun k o => k < w.heap.size ∨ isBook o = true) W1 W3 := Kp.of_old hA3
      refine k3.trans ((Kp.of_grown hg4 fun k o hk ho => ?_).trans (Kp.of_upd hU5 fun o ho => ?_))
      · obtain ⟨cs, hcs⟩ := hOu3.tag k hk
        have := hOu3.ge k hk
        rw [hcs] at ho; injection ho with ho; subst ho
        rintro (h | h)
        · omega
        · cases h
      · unfold Box at hBu4
        rw [hBu4] at ho; injection ho with ho; subst ho
        rintro (h | h)
        · omega
        · cases h
    · have e : texts ((opened l).take (k + 1)) = texts ((opened l).take k) ++ [p.2.2] := by
        unfold texts
        rw [List.take_add_one, hp]; simp
      rw [e]
      exact HO4.upd1 hU5 (by omega) fun o hK => by have := hK.1; omega
    · exact hU5.old ((hAu.trans hA3).grown hg4 fun k hk => by have := hOu3.ge k hk; omega) (Nat.le_refl _)
  · intro D W' hD hI hDD
    obtain ⟨⟨u, hBu, hOu⟩, hAu⟩ := hI
    rw [List.take_length] at hOu
    refine norm_block (then_k ?_)
    refine w_sreg (wl_v (ex_load1 Try.underlying30 rfl (hBu.cell rfl)) <| wl_v (aV (v := u) rfl) <| wl_end ?_)
    have hk : Kc W' (W'.putObj D (.deferred none)) := Kc.put hDD rfl
    exact w_ret (endM hDD (end1 rfl ⟨_, rfl, ((hOu.kc hk fun _ _ h => tag_book h.2).mono fun k o h => by have := h.1; omega).ls fun _ _ h _ => by omega, hAu.put (by omega)⟩))

def heardV (l : List Rpy) (b : List UInt8) : Prop := (openV b).2.2 = 0 ∧ ∃ p ∈ opened l, p.2.1 = (openV b).2.1
def honestV (l : List Rpy) (b : List UInt8) : Prop := (openV b).2.2 = 0 ∧ ∃ p ∈ opened l, p.2.1 = (openV b).2.1 ∧ p.1 = (openV b).1
theorem one7 (t : Tok) {v : Value} (h : v.oneCell' = true) : (t.cs.push v).toList.all (·.oneCell') = true := by
  show (true && (true && (true && (true && (true && (true && (v.oneCell' && true))))))) = true
  rw [h]; rfl
theorem eqTok (t u : Tok) (w : World) : (Op.equal 27 (.agg t.cs) (.agg u.cs)).run Try.prog w = .ok (decide (t = u)) w := by
  have e : decide (t = u) = (decide ((t.a : Int) = u.a) && (decide ((t.b : Int) = u.b) && (decide ((t.c : Int) = u.c) && (decide ((t.d : Int) = u.d) && (decide ((t.e : Int) = u.e) && (decide ((t.f : Int) = u.f) && true)))))) := by
    obtain ⟨a, b, c, d, e, f⟩ := t
    obtain ⟨a', b', c', d', e', f'⟩ := u
    simp only [Tok.mk.injEq, Bool.decide_and, Int.natCast_inj, Bool.and_true]
  rw [e]
  refine run_eqS Try.underlying27 (by kernel_rfl) ?_
  exact eqf_int rfl Try.underlying3 rfl rfl <| eqf_int rfl Try.underlying3 rfl rfl <| eqf_int rfl Try.underlying3 rfl rfl <| eqf_int rfl Try.underlying3 rfl rfl <| eqf_int rfl Try.underlying3 rfl rfl <| eqf_int rfl Try.underlying3 rfl rfl eqf_nil
theorem tokCell {a : Array Value} {x u : Value} {j : Nat} (h : a.toList[j]? = some u) : (a.push x)[j]? = some u := by
  have hj : j < a.size := by have := (List.getElem?_eq_some_iff.1 h).1; simpa using this
  rw [Array.getElem?_push_lt hj]
  simpa [hj] using h
theorem inspect_Heard (l : List Rpy) (b : List UInt8) (v u : Value) (w : World) (K : Nat → Obj → Prop) (hl : Ls layRpy K w v l) (hu : IsB w u b) (r : Bool) (hr : r = true ↔ heardV l b) :
    Calls Try.prog 9 #[v, u] w fun e w' => ∃ x, e = .returned x ∧ x = .bool r ∧ Old w w' := by
  refine enterM (l := [_, _]) 25 Try.func9 rfl rfl (by simp) ?_
  have hD : Old w (w.alloc (.cells #[.bool false] 4)) := (Old.refl w).alloc _
  have hB := Box.new w 4 #[.bool false]
  refine w_sreg (wl_v (ex_alloc inf4) <| wl_end ?_)
  rw [show w.alloc (.cells (Value.bool false).cells 4) = w.alloc (.cells #[.bool false] 4) from rfl]
  have hl1 := hl.here.old hD
  have hu1 := hu.old hD
  have hlt4 := hB.lt
  generalize w.alloc (.cells #[.bool false] 4) = w1 at *
  refine w_sreg (wl_v (mV (v := u) rfl) <| wl_c (ec_fn en24) (token_Open b u w1 hu1) ?_)
  rintro _ w2 ⟨tv, rfl, htv, hO2⟩
  obtain ⟨tA, tc, rfl⟩ := htv.lay
  have hV : heardV l b ↔ (openV b).2.2 = 0 ∧ ∃ p ∈ opened l, p.2.1 = (openV b).2.1 := Iff.rfl
  rw [hV] at hr
  clear hV
  generalize (openV b).1 = t at *
  generalize (openV b).2.1 = tag at *
  generalize (openV b).2.2 = er at *
  have hA2 := hD.trans hO2
  have hB2 := hB.old hO2
  have hl2 := hl1.old hO2
  refine wl_v (mT rfl) <| wl_v (ex_extract rfl rfl) <| wl_v (ex_extract rfl rfl) <| wl_v (ex_extract rfl rfl) <| wl_v (ex_alloc inf27) <| wl_v (ex_alloc inf23) <| ?_
  have hD3 : Old w2 (w2.alloc (.cells (Value.agg #[.int .i64 0, .int .i64 0, .int .i64 0, .int .i64 0, .int .i64 0, .int .i64 0]).cells 27)) := (Old.refl w2).alloc _
  have hB5 := Box.new w2 27 (Value.agg #[.int .i64 0, .int .i64 0, .int .i64 0, .int .i64 0, .int .i64 0, .int .i64 0]).cells
  have hs5 := hB5.lt
  generalize w2.alloc (.cells (Value.agg #[.int .i64 0, .int .i64 0, .int .i64 0, .int .i64 0, .int .i64 0, .int .i64 0]).cells 27) = w3 at *
  have hD4 : Old w3 (w3.alloc (.cells (Value.slice none 0 0).cells 23)) := (Old.refl w3).alloc _
  have hB6 := Box.new w3 23 (Value.slice none 0 0).cells
  have hs6 := hB6.lt
  generalize w3.alloc (.cells (Value.slice none 0 0).cells 23) = w4 at *
  have hs2 := hA2.size
  have hB52 := hB5.old hD4
  refine wl_stL (cs' := t.cs) inf27 rfl rfl rfl rfl hB52 rfl fun w5 hB55 hU5 => ?_
  have hB65 := hB6.upd hU5 (by omega)
  refine wl_st inf23 rfl rfl rfl hB65 (by decide) fun w6 hB66 hU6 => wl_v (aI rfl) <| wl_end ?_
  have hO26 : Old w2 w6 := hU6.old (hU5.old (hD3.trans hD4) (Nat.le_refl _)) (by omega)
  have hA6 := hA2.trans hO26
  have hB46 := hB2.old hO26
  have hl6 := hl2.old hO26
  have htv6 := htv.old hO26
  have hB56 := hB55.upd hU6 (by omega)
  have hB66' : Box w6 w3.heap.size 23 #[.slice tA tag.length tc] := hB66
  have hs46 := hB66.lt
  clear hB66
  generalize hg5 : w2.heap.size = g5 at *
  generalize hg6 : w3.heap.size = g6 at *
  refine w_seq ?_
  refine w_sreg (wl_v (mI rfl) <| wl_v (ex_neq rfl rfl) <| wl_end ?_)
  refine w_ifn rfl (fun h3 => ?_) (fun h3 => ?_)
  · have hrf : r = false := by
      cases r with
      | false => rfl
      | true => exact absurd (hr.1 rfl).1 (by omega)
    subst hrf
    refine w_sreg (wl_st inf4 rfl rfl rfl hB46 (by decide) fun w7 hB7 hU7 => wl_end ?_)
    exact w_ret (ret_then (endM0 (end1C rfl Try.underlying4 rfl rfl hB7 ⟨_, rfl, rfl, hU7.old hA6 (Nat.le_refl _)⟩)))
  refine w_skip (then_k ?_)
  have he : er = 0 := by omega
  refine w_seq ?_
  refine w_sreg (wl_v (mV (v := v) rfl) <| wl_c (ec_fn en22) (inspect_issued v w6) ?_)
  rintro _ w7 ⟨rfl, rfl⟩
  rw [hl.cells]
  have hB8 := Box.new w6 22 #[v]
  have hD8 : Old w6 (w6.alloc (.cells #[v] 22)) := (Old.refl w6).alloc _
  refine wl_end ?_
  have hA8 := hA6.trans hD8
  have hB48 := hB46.old hD8
  have hB58 := hB56.old hD8
  have hB68 := hB66'.old hD8
  have hl8 := hl6.old hD8
  have htv8 := htv6.old hD8
  have hs8 := hD8.size
  have hs9 := hA8.size
  generalize w6.alloc (.cells #[v] 22) = w8 at *
  generalize hg7 : w6.heap.size = g7 at *
  refine w_block ?_
  refine w_range (K := fun k o => k < w.heap.size ∨ isBook o = true) (K' := fun _ _ => True) (X := shownX (opened l)) rfl en39 (issued_iter l v g7 _ w8 hB8 (hl8.mono fun k o h => .inl h)) (by rintro k vs W ⟨p, tv, xv, _, rfl, _⟩; rfl) (kbook _) (fun _ _ _ => trivial)
    (fun k W => Box W w.heap.size 4 #[.bool false] ∧ Box W g5 27 t.cs ∧ Box W g6 23 #[.slice tA tag.length tc] ∧ IsB W (.slice tA tag.length tc) tag ∧ Old w W ∧ ∀ p ∈ (opened l).take k, ¬ (p.2.1 = tag))
    (fun k => Stb.and (Stb.box (fun _ _ => trivial) _ _ _) (Stb.and (Stb.box (fun _ _ => trivial) _ _ _) (Stb.and (Stb.box (fun _ _ => trivial) _ _ _) (Stb.and (Stb.isB (fun _ _ => trivial) _ _) (Stb.and (Stb.old (fun _ _ => trivial) w (by omega)) (Stb.pure _))))))
    (fun c W => c = .ret ∧ Box W w.heap.size 4 #[.bool true] ∧ Old w W ∧ ∃ p ∈ opened l, p.2.1 = tag)
    (fun _ => Stb.and (Stb.pure _) (Stb.and (Stb.box (fun _ _ => trivial) _ _ _) (Stb.and (Stb.old (fun _ _ => trivial) w (by omega)) (Stb.pure _))))
    ⟨hB48, hB58, hB68, htv8, hA8, by simp⟩
    (fun k f' W => ∃ p tv g8, (opened l)[k]? = some p ∧ f' 8 = .pointer (some ⟨g8, 0, none⟩) ∧ f' 4 = .pointer (some ⟨w.heap.size, 0, none⟩) ∧ f' 5 = .pointer (some ⟨g5, 0, none⟩) ∧ f' 6 = .pointer (some ⟨g6, 0, none⟩) ∧ Box W g8 61 (p.1.cs.push tv) ∧ IsB W tv p.2.1)
    (fun k f' => Stb.ex fun p => Stb.ex fun tv => Stb.ex fun g8 => Stb.and (Stb.pure _) (Stb.and (Stb.pure _) (Stb.and (Stb.pure _) (Stb.and (Stb.pure _) (Stb.and (Stb.pure _) (Stb.and (Stb.box (fun _ _ => trivial) _ _ _) (Stb.isB (fun _ _ => trivial) _ _)))))))
    ?_ ?_ ?_ ?_
  · rintro ln k vs W1 hk ⟨i1, i2, i3, i4, i5, i6⟩ ⟨p, pv, xv, hp, rfl, hpv, hxv⟩
    refine w_reg (wl_new (cs := p.1.cs.push pv) inf61 rfl rfl rfl (one7 _ hpv.one) rfl fun W2 hB8 hO => wl_nil (then_k ?_))
    exact ⟨_, rfl, ⟨p, pv, W1.heap.size, hp, rfl, rfl, rfl, rfl, hB8, hpv.old hO⟩, ⟨i1.old hO, i2.old hO, i3.old hO, i4.old hO, i5.trans hO, i6⟩, Kp.of_old hO⟩
  · rintro ln k f W1 hk ⟨i1, i2, i3, i4, i5, i6⟩ ⟨p, pv, g8, hp, f8, f4, f5, f6, hB8, hpv⟩
    obtain ⟨f, rfl⟩ := xp4 f8 f4 f5 f6
    have hpm : p ∈ opened l := List.mem_of_getElem? hp
    have hnext : ∀ q ∈ (opened l).take (k + 1), q ∈ (opened l).take k ∨ q = p := by
      intro q hq
      rw [List.take_add_one, hp] at hq
      simpa using hq
    refine w_block ?_
    refine w_sreg (wl_v (ex_fld fld61_1 rfl) <| wl_v (ex_load1 Try.underlying23 rfl (hB8.cell rfl)) <| wl_v (ex_load1 Try.underlying23 rfl (i3.cell rfl)) <| wl_c (ec_fn en25) (sha_Same p.2.1 tag pv _ W1 hpv i4) ?_)
    rintro _ W2 ⟨rfl, rfl⟩
    refine wl_end ?_
    refine w_ifp rfl (fun h4 => ?_) (fun h4 => ?_)
    · refine w_sreg (wl_st inf4 rfl rfl rfl i1 (by decide) fun W3 hB3 hU3 => wl_end ?_)
      refine w_ret (ret_block ⟨Kp.of_upd hU3 fun o ho => ?_, rfl, hB3, hU3.old i5 (Nat.le_refl _), p, hpm, h4⟩)
      unfold Box at i1
      rw [i1] at ho; injection ho with ho; subst ho
      rintro (h | h)
      · omega
      · cases h
    · exact w_skip (norm_block ⟨Kp.refl _ _, i1, i2, i3, i4, i5, fun q hq => (hnext q hq).elim (i6 q) fun h => h ▸ h4⟩)
  · rintro D W' hD ⟨i1, i2, i3, i4, i5, i6⟩ hDD
    rw [List.take_length] at i6
    have hrf : r = false := by
      cases r with
      | false => rfl
      | true => obtain ⟨_, p, hp, h⟩ := hr.1 rfl; exact absurd h (i6 p hp)
    subst hrf
    refine norm_block (then_k ?_)
    refine w_sreg (wl_st inf4 rfl rfl rfl i1 (by decide) fun W3 hB3 hU3 => wl_end ?_)
    have hDD3 : W3.heap[D]? = some (.deferred (some [])) := (hU3.block D (lt_of_heap hDD) (by show ¬ D = _; omega)).trans hDD
    exact w_ret (endM hDD3 (end1C rfl Try.underlying4 rfl rfl ((Kc.put hDD3 rfl).box hB3) ⟨_, rfl, rfl, (hU3.old i5 (Nat.le_refl _)).put (by omega)⟩))
  · rintro D c W' hD ⟨rfl, i1, i5, hp⟩ hDD
    have hrt : r = true := hr.2 ⟨he, hp⟩
    subst hrt
    exact w_ret (ret_block (ret_then (endM hDD (end1C rfl Try.underlying4 rfl rfl ((Kc.put hDD rfl).box i1) ⟨_, rfl, rfl, i5.put (by omega)⟩))))

theorem inspect_Honest (l : List Rpy) (b : List UInt8) (v u : Value) (w : World) (K : Nat → Obj → Prop) (hl : Ls layRpy K w v l) (hu : IsB w u b) (r : Bool) (hr : r = true ↔ honestV l b) :
    Calls Try.prog 10 #[v, u] w fun e w' => ∃ x, e = .returned x ∧ x = .bool r ∧ Old w w' := by
  refine enterM (l := [_, _]) 31 Try.func10 rfl rfl (by simp) ?_
  have hD : Old w (w.alloc (.cells #[.bool false] 4)) := (Old.refl w).alloc _
  have hB := Box.new w 4 #[.bool false]
  refine w_sreg (wl_v (ex_alloc inf4) <| wl_end ?_)
  rw [show w.alloc (.cells (Value.bool false).cells 4) = w.alloc (.cells #[.bool false] 4) from rfl]
  have hl1 := hl.here.old hD
  have hu1 := hu.old hD
  have hlt4 := hB.lt
  generalize w.alloc (.cells #[.bool false] 4) = w1 at *
  refine w_sreg (wl_v (mV (v := u) rfl) <| wl_c (ec_fn en24) (token_Open b u w1 hu1) ?_)
  rintro _ w2 ⟨tv, rfl, htv, hO2⟩
  obtain ⟨tA, tc, rfl⟩ := htv.lay
  have hV : honestV l b ↔ (openV b).2.2 = 0 ∧ ∃ p ∈ opened l, p.2.1 = (openV b).2.1 ∧ p.1 = (openV b).1 := Iff.rfl
  rw [hV] at hr
  clear hV
  generalize (openV b).1 = t at *
  generalize (openV b).2.1 = tag at *
  generalize (openV b).2.2 = er at *
  have hA2 := hD.trans hO2
  have hB2 := hB.old hO2
  have hl2 := hl1.old hO2
  refine wl_v (mT rfl) <| wl_v (ex_extract rfl rfl) <| wl_v (ex_extract rfl rfl) <| wl_v (ex_extract rfl rfl) <| wl_v (ex_alloc inf27) <| wl_v (ex_alloc inf23) <| ?_
  have hD3 : Old w2 (w2.alloc (.cells (Value.agg #[.int .i64 0, .int .i64 0, .int .i64 0, .int .i64 0, .int .i64 0, .int .i64 0]).cells 27)) := (Old.refl w2).alloc _
  have hB5 := Box.new w2 27 (Value.agg #[.int .i64 0, .int .i64 0, .int .i64 0, .int .i64 0, .int .i64 0, .int .i64 0]).cells
  have hs5 := hB5.lt
  generalize w2.alloc (.cells (Value.agg #[.int .i64 0, .int .i64 0, .int .i64 0, .int .i64 0, .int .i64 0, .int .i64 0]).cells 27) = w3 at *
  have hD4 : Old w3 (w3.alloc (.cells (Value.slice none 0 0).cells 23)) := (Old.refl w3).alloc _
  have hB6 := Box.new w3 23 (Value.slice none 0 0).cells
  have hs6 := hB6.lt
  generalize w3.alloc (.cells (Value.slice none 0 0).cells 23) = w4 at *
  have hs2 := hA2.size
  have hB52 := hB5.old hD4
  refine wl_stL (cs' := t.cs) inf27 rfl rfl rfl rfl hB52 rfl fun w5 hB55 hU5 => ?_
  have hB65 := hB6.upd hU5 (by omega)
  refine wl_st inf23 rfl rfl rfl hB65 (by decide) fun w6 hB66 hU6 => wl_v (aI rfl) <| wl_end ?_
  have hO26 : Old w2 w6 := hU6.old (hU5.old (hD3.trans hD4) (Nat.le_refl _)) (by omega)
  have hA6 := hA2.trans hO26
  have hB46 := hB2.old hO26
  have hl6 := hl2.old hO26
  have htv6 := htv.old hO26
  have hB56 := hB55.upd hU6 (by omega)
  have hB66' : Box w6 w3.heap.size 23 #[.slice tA tag.length tc] := hB66
  have hs46 := hB66.lt
  clear hB66
  generalize hg5 : w2.heap.size = g5 at *
  generalize hg6 : w3.heap.size = g6 at *
  refine w_seq ?_
  refine w_sreg (wl_v (mI rfl) <| wl_v (ex_neq rfl rfl) <| wl_end ?_)
  refine w_ifn rfl (fun h3 => ?_) (fun h3 => ?_)
  · have hrf : r = false := by
      cases r with
      | false => rfl
      | true => exact absurd (hr.1 rfl).1 (by omega)
    subst hrf
    refine w_sreg (wl_st inf4 rfl rfl rfl hB46 (by decide) fun w7 hB7 hU7 => wl_end ?_)
    exact w_ret (ret_then (endM0 (end1C rfl Try.underlying4 rfl rfl hB7 ⟨_, rfl, rfl, hU7.old hA6 (Nat.le_refl _)⟩)))
  refine w_skip (then_k ?_)
  have he : er = 0 := by omega
  refine w_seq ?_
  refine w_sreg (wl_v (mV (v := v) rfl) <| wl_c (ec_fn en22) (inspect_issued v w6) ?_)
  rintro _ w7 ⟨rfl, rfl⟩
  rw [hl.cells]
  have hB8 := Box.new w6 22 #[v]
  have hD8 : Old w6 (w6.alloc (.cells #[v] 22)) := (Old.refl w6).alloc _
  refine wl_end ?_
  have hA8 := hA6.trans hD8
  have hB48 := hB46.old hD8
  have hB58 := hB56.old hD8
  have hB68 := hB66'.old hD8
  have hl8 := hl6.old hD8
  have htv8 := htv6.old hD8
  have hs8 := hD8.size
  have hs9 := hA8.size
  generalize w6.alloc (.cells #[v] 22) = w8 at *
  generalize hg7 : w6.heap.size = g7 at *
  refine w_block ?_
  refine w_range (K := fun k o => k < w.heap.size ∨ isBook o = true) (K' := fun _ _ => True) (X := shownX (opened l)) rfl en39 (issued_iter l v g7 _ w8 hB8 (hl8.mono fun k o h => .inl h)) (by rintro k vs W ⟨p, tv, xv, _, rfl, _⟩; rfl) (kbook _) (fun _ _ _ => trivial)
    (fun k W => Box W w.heap.size 4 #[.bool false] ∧ Box W g5 27 t.cs ∧ Box W g6 23 #[.slice tA tag.length tc] ∧ IsB W (.slice tA tag.length tc) tag ∧ Old w W ∧ ∀ p ∈ (opened l).take k, ¬ (p.2.1 = tag ∧ p.1 = t))
    (fun k => Stb.and (Stb.box (fun _ _ => trivial) _ _ _) (Stb.and (Stb.box (fun _ _ => trivial) _ _ _) (Stb.and (Stb.box (fun _ _ => trivial) _ _ _) (Stb.and (Stb.isB (fun _ _ => trivial) _ _) (Stb.and (Stb.old (fun _ _ => trivial) w (by omega)) (Stb.pure _))))))
    (fun c W => c = .ret ∧ Box W w.heap.size 4 #[.bool true] ∧ Old w W ∧ ∃ p ∈ opened l, p.2.1 = tag ∧ p.1 = t)
    (fun _ => Stb.and (Stb.pure _) (Stb.and (Stb.box (fun _ _ => trivial) _ _ _) (Stb.and (Stb.old (fun _ _ => trivial) w (by omega)) (Stb.pure _))))
    ⟨hB48, hB58, hB68, htv8, hA8, by simp⟩
    (fun k f' W => ∃ p tv g8, (opened l)[k]? = some p ∧ f' 8 = .pointer (some ⟨g8, 0, none⟩) ∧ f' 4 = .pointer (some ⟨w.heap.size, 0, none⟩) ∧ f' 5 = .pointer (some ⟨g5, 0, none⟩) ∧ f' 6 = .pointer (some ⟨g6, 0, none⟩) ∧ Box W g8 61 (p.1.cs.push tv) ∧ IsB W tv p.2.1)
    (fun k f' => Stb.ex fun p => Stb.ex fun tv => Stb.ex fun g8 => Stb.and (Stb.pure _) (Stb.and (Stb.pure _) (Stb.and (Stb.pure _) (Stb.and (Stb.pure _) (Stb.and (Stb.pure _) (Stb.and (Stb.box (fun _ _ => trivial) _ _ _) (Stb.isB (fun _ _ => trivial) _ _)))))))
    ?_ ?_ ?_ ?_
  · rintro ln k vs W1 hk ⟨i1, i2, i3, i4, i5, i6⟩ ⟨p, pv, xv, hp, rfl, hpv, hxv⟩
    refine w_reg (wl_new (cs := p.1.cs.push pv) inf61 rfl rfl rfl (one7 _ hpv.one) rfl fun W2 hB8 hO => wl_nil (then_k ?_))
    exact ⟨_, rfl, ⟨p, pv, W1.heap.size, hp, rfl, rfl, rfl, rfl, hB8, hpv.old hO⟩, ⟨i1.old hO, i2.old hO, i3.old hO, i4.old hO, i5.trans hO, i6⟩, Kp.of_old hO⟩
  · rintro ln k f W1 hk ⟨i1, i2, i3, i4, i5, i6⟩ ⟨p, pv, g8, hp, f8, f4, f5, f6, hB8, hpv⟩
    obtain ⟨f, rfl⟩ := xp4 f8 f4 f5 f6
    have hpm : p ∈ opened l := List.mem_of_getElem? hp
    have hnext : ∀ q ∈ (opened l).take (k + 1), q ∈ (opened l).take k ∨ q = p := by
      intro q hq
      rw [List.take_add_one, hp] at hq
      simpa using hq
    refine w_block ?_
    refine w_sreg (wl_v (ex_fld fld61_0 rfl) <| wl_v (ex_ldN Try.underlying27 rfl inf27 rfl (cs := p.1.cs.toList) (fun j u hu => by rw [add_plain]; exact hB8.cell (tokCell hu)) rfl (by decide)) <| wl_v (ex_ldA Try.underlying27 rfl inf27 rfl i2 rfl) <| wl_v (ex_eqlS (by kernel_rfl) rfl rfl (eqTok p.1 t W1)) <| wl_v (mB rfl) <|
      wl_and 4 4 [26, 27, 28, 29] rfl rfl rfl rfl (fun hp => wl_gy rfl (congrArg Value.bool hp) <| wl_v (ex_fld fld61_1 rfl) <| wl_gy rfl (congrArg Value.bool hp) <| wl_v (ex_load1 Try.underlying23 rfl (hB8.cell rfl)) <| wl_gy rfl (congrArg Value.bool hp) <| wl_v (ex_load1 Try.underlying23 rfl (i3.cell rfl)) <| wl_gy rfl (congrArg Value.bool hp) <| wl_c (ec_fn en25) (sha_Same p.2.1 tag pv _ W1 hpv i4) (by rintro _ _ ⟨rfl, rfl⟩; exact wl_nil (amp_end (ag4 rfl rfl rfl rfl) rfl rfl))) fun _ => wl_end ?_)
    refine w_ifa rfl (fun h4 => ?_) (fun h4 => ?_)
    · refine w_sreg (wl_st inf4 rfl rfl rfl i1 (by decide) fun W3 hB3 hU3 => wl_end ?_)
      refine w_ret (ret_block ⟨Kp.of_upd hU3 fun o ho => ?_, rfl, hB3, hU3.old i5 (Nat.le_refl _), p, hpm, h4.2, h4.1⟩)
      unfold Box at i1
      rw [i1] at ho; injection ho with ho; subst ho
      rintro (h | h)
      · omega
      · cases h
    · exact w_skip (norm_block ⟨Kp.refl _ _, i1, i2, i3, i4, i5, fun q hq => (hnext q hq).elim (i6 q) fun h => h ▸ fun h5 => h4 ⟨h5.2, h5.1⟩⟩)
  · rintro D W' hD ⟨i1, i2, i3, i4, i5, i6⟩ hDD
    rw [List.take_length] at i6
    have hrf : r = false := by
      cases r with
      | false => rfl
      | true => obtain ⟨_, p, hp, h⟩ := hr.1 rfl; exact absurd h (i6 p hp)
    subst hrf
    refine norm_block (then_k ?_)
    refine w_sreg (wl_st inf4 rfl rfl rfl i1 (by decide) fun W3 hB3 hU3 => wl_end ?_)
    have hDD3 : W3.heap[D]? = some (.deferred (some [])) := (hU3.block D (lt_of_heap hDD) (by show ¬ D = _; omega)).trans hDD
    exact w_ret (endM hDD3 (end1C rfl Try.underlying4 rfl rfl ((Kc.put hDD3 rfl).box hB3) ⟨_, rfl, rfl, (hU3.old i5 (Nat.le_refl _)).put (by omega)⟩))
  · rintro D c W' hD ⟨rfl, i1, i5, hp⟩ hDD
    have hrt : r = true := hr.2 ⟨he, hp⟩
    subst hrt
    exact w_ret (ret_block (ret_then (endM hDD (end1C rfl Try.underlying4 rfl rfl ((Kc.put hDD rfl).box i1) ⟨_, rfl, rfl, i5.put (by omega)⟩))))
end Go.Proofs.Ytcceeigkgklkoaa
