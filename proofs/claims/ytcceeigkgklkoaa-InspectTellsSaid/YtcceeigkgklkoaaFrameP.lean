/- frame, viaticumref04: what they return. -/
import Derived.Test.YtcceeigkgklkoaaCrc
namespace Go.Proofs.Ytcceeigkgklkoaa
open Go.RowKit

/-! ### What is read is what is written -/
theorem takeGo_spec : ∀ (l : List UInt8) (i acc n k : Nat), takeGo l i acc = (n, k, 0) → ∃ m, n = acc + m * 128 ^ i ∧ k = i + (putv m).length ∧ l.take (putv m).length = putv m ∧ (putv m).length ≤ l.length ∧ (0 < i → m ≠ 0) ∧ (i ≤ 9 → k ≤ 10)
  | [], i, acc, n, k, h => by simp [takeGo] at h
  | c :: r, i, acc, n, k, h => by
    have hc : c.toNat < 256 := c.toNat_lt
    rw [takeGo] at h
    split at h
    · simp at h
    · rename_i h9
      split at h
      · rename_i h1
        obtain ⟨m, e1, e2, e3, e4, e5, e6⟩ := takeGo_spec r (i + 1) _ n k h
        have hm : m ≠ 0 := e5 (by omega)
        have hp : putv (c.toNat % 128 + 128 * m) = c :: putv m := by
          rw [putv_more (by omega), show (c.toNat % 128 + 128 * m) % 128 + 128 = c.toNat from by omega, show (c.toNat % 128 + 128 * m) / 128 = m from by omega, UInt8.ofNat_toNat]
        refine ⟨c.toNat % 128 + 128 * m, ?_, ?_, ?_, ?_, by omega, fun h9' => e6 (by omega)⟩
        · rw [e1, Nat.pow_succ, Nat.add_mul, Nat.add_assoc]
          congr 2
          rw [Nat.mul_comm 128 m, Nat.mul_assoc, Nat.mul_comm (128 ^ i)]
        · rw [hp, e2, List.length_cons]; omega
        · rw [hp, List.length_cons, List.take_succ_cons, e3]
        · rw [hp, List.length_cons, List.length_cons]; omega
      · rename_i h1
        split at h
        · simp at h
        · rename_i h0
          have hp : putv c.toNat = [c] := by rw [putv_last h1, UInt8.ofNat_toNat]
          injection h with e1 h
          injection h with e2 _
          refine ⟨c.toNat, ?_, ?_, ?_, ?_, fun h hc0 => h0 ⟨hc0, h⟩, fun h9' => by omega⟩
          · rw [← e1, Nat.mod_eq_of_lt (by omega)]
          · rw [hp]; exact e2.symm
          · rw [hp]; simp
          · rw [hp]; simp
theorem takev_spec {l : List UInt8} (h : (takev l).2.2 = 0) : (takev l).2.1 = (putv (takev l).1).length ∧ l.take (takev l).2.1 = putv (takev l).1 ∧ (takev l).2.1 ≤ l.length ∧ (takev l).2.1 ≤ 10 ∧ 1 ≤ (takev l).2.1 := by
  have hs : takev l = ((takev l).1, (takev l).2.1, 0) := by rw [← h]
  obtain ⟨m, e1, e2, e3, e4, _, e6⟩ := takeGo_spec l 0 0 _ _ hs
  have hm : (takev l).1 = m := by omega
  rw [hm]
  have := putv_pos m
  refine ⟨by omega, ?_, by omega, e6 (by omega), by omega⟩
  rw [show (takev l).2.1 = (putv m).length from by omega, e3]
/-- What is written is read. -/
theorem takeGo_put : ∀ (n i acc : Nat) (t : List UInt8), (putv n).length + i ≤ 9 ∨ ((putv n).length + i = 10 ∧ n * 128 ^ i < 18446744073709551616) → (0 < i → n ≠ 0) → takeGo (putv n ++ t) i acc = (acc + n * 128 ^ i, i + (putv n).length, 0) := by
  intro n
  induction n using Nat.strongRecOn with
  | ind n ih =>
    intro i acc t hl hi
    by_cases h : 127 < n
    · have hp := putv_more h
      rw [hp, List.length_cons] at hl
      rw [hp, List.cons_append, takeGo]
      have hq := putv_pos (n / 128)
      have hx : (UInt8.ofNat (n % 128 + 128)).toNat = n % 128 + 128 := ofNat_toNat (by omega)
      rw [hx, if_neg (by omega), if_pos (by omega), ih (n / 128) (by omega) (i + 1) _ t (by
        rcases hl with hl | ⟨hl, hb⟩
        · left; omega
        · right
          refine ⟨by omega, Nat.lt_of_le_of_lt ?_ hb⟩
          rw [Nat.pow_succ, Nat.mul_comm (128 ^ i), ← Nat.mul_assoc]
          exact Nat.mul_le_mul_right _ (Nat.div_mul_le_self n 128)) (by omega), List.length_cons]
      have e : acc + (n % 128 + 128) % 128 * 128 ^ i + n / 128 * 128 ^ (i + 1) = acc + n * 128 ^ i := by
        rw [Nat.pow_succ, show (n % 128 + 128) % 128 = n % 128 from by omega, Nat.add_assoc]
        congr 1
        rw [Nat.mul_comm (128 ^ i) 128, ← Nat.mul_assoc, ← Nat.add_mul]
        congr 1
        omega
      rw [e]
      congr 2
      omega
    · have hp := putv_last h
      rw [hp] at hl
      rw [hp, List.cons_append, takeGo]
      have hx : (UInt8.ofNat n).toNat = n := ofNat_toNat (by omega)
      have h9 : ¬ (i = 9 ∧ 1 < n) := by
        rintro ⟨rfl, h1⟩
        rcases hl with hl | ⟨_, hb⟩
        · simp at hl
        · have := Nat.mul_le_mul_right (128 ^ 9) (show 2 ≤ n by omega)
          have e : (128 : Nat) ^ 9 = 9223372036854775808 := by decide
          rw [e] at *
          omega
      rw [hx, if_neg h9, if_neg h, if_neg (fun h0 => hi h0.2 h0.1), Nat.mod_eq_of_lt (by omega)]
      rfl
theorem takev_put (n : Nat) (hn : n < 18446744073709551616) (t : List UInt8) : takev (putv n ++ t) = (n, (putv n).length, 0) := by
  have h := putv_len10 hn
  have := takeGo_put n 0 0 t (by simp; omega) (by omega)
  simpa [takev] using this

/-! ### Frames -/
def headF (kind : UInt8) (l : List UInt8) : List UInt8 := 199 :: kind :: (putv l.length ++ l)
def putF (kind : UInt8) (l : List UInt8) : List UInt8 := headF kind l ++ bytes4 (crcv (headF kind l))
theorem headF_len (kind : UInt8) (l : List UInt8) : (headF kind l).length = 2 + (putv l.length).length + l.length := by simp [headF]; omega
theorem putF_len (kind : UInt8) (l : List UInt8) : (putF kind l).length = 2 + (putv l.length).length + l.length + 4 := by simp [putF, bytes4_len, headF_len]
/-- The frame that bytes begin with: the kind, the content, how many bytes; the error. -/
def takeF (b : List UInt8) : Nat × List UInt8 × Nat × Nat :=
  if h0 : b.length = 0 then (0, [], 0, 10)
  else if b[0].toNat ≠ 199 then (0, [], 0, 11)
  else if h1 : b.length = 1 then (0, [], 0, 10)
  else
    let t := takev (b.drop 2)
    if t.2.2 ≠ 0 then (0, [], 0, t.2.2)
    else if 1048576 < t.1 then (0, [], 0, 3)
    else if b.length < 2 + t.2.1 + t.1 + 4 then (0, [], 0, 10)
    else
      let c := (b.drop (2 + t.2.1)).take t.1
      if b.take (2 + t.2.1 + t.1 + 4) ≠ putF b[1] c then (0, [], 0, 12)
      else (b[1].toNat, c, 2 + t.2.1 + t.1 + 4, 0)
/-- The frame's head is the bytes'. -/
theorem head_is {b : List UInt8} (h1 : 1 < b.length) (h0 : b[0].toNat = 199) (h : (takev (b.drop 2)).2.2 = 0) (hl : 2 + (takev (b.drop 2)).2.1 + (takev (b.drop 2)).1 ≤ b.length) :
    headF b[1] ((b.drop (2 + (takev (b.drop 2)).2.1)).take (takev (b.drop 2)).1) = b.take (2 + (takev (b.drop 2)).2.1 + (takev (b.drop 2)).1) := by
  obtain ⟨e1, e2, e3, e4, e5⟩ := takev_spec h
  generalize (takev (b.drop 2)).1 = n at *
  generalize (takev (b.drop 2)).2.1 = k at *
  have hlen : ((b.drop (2 + k)).take n).length = n := by rw [List.length_take, List.length_drop]; omega
  obtain ⟨x, y, r, rfl⟩ : ∃ x y r, b = x :: y :: r := by
    match b, h1 with
    | x :: y :: r, _ => exact ⟨x, y, r, rfl⟩
  have hx : x = 199 := UInt8.toNat_inj.1 h0
  subst hx
  unfold headF
  rw [hlen, ← e2]
  simp only [List.drop_succ_cons, List.drop_zero, show 2 + k = k + 2 from by omega, show k + 2 + n = k + n + 2 from by omega, List.take_succ_cons, List.getElem_cons_succ, List.getElem_cons_zero]
  congr 2
  rw [List.take_add]
/-- The two ways to look at the checksum. -/
theorem sum_is {b : List UInt8} (h1 : 1 < b.length) (h0 : b[0].toNat = 199) (h : (takev (b.drop 2)).2.2 = 0) (hl : 2 + (takev (b.drop 2)).2.1 + (takev (b.drop 2)).1 + 4 ≤ b.length) :
    (b.take (2 + (takev (b.drop 2)).2.1 + (takev (b.drop 2)).1 + 4) = putF b[1] ((b.drop (2 + (takev (b.drop 2)).2.1)).take (takev (b.drop 2)).1)) ↔
    (b.drop (2 + (takev (b.drop 2)).2.1 + (takev (b.drop 2)).1)).take 4 = bytes4 (crcv (b.take (2 + (takev (b.drop 2)).2.1 + (takev (b.drop 2)).1))) := by
  unfold putF
  rw [head_is h1 h0 h (by omega), List.take_add]
  constructor
  · intro h; exact List.append_cancel_left h
  · intro h; rw [h]
theorem takeF_put (kind : UInt8) (l : List UInt8) (hl : l.length ≤ 1048576) (t : List UInt8) : takeF (putF kind l ++ t) = (kind.toNat, l, (putF kind l).length, 0) := by
  have hd : (putF kind l ++ t).drop 2 = putv l.length ++ (l ++ (bytes4 (crcv (headF kind l)) ++ t)) := by simp [putF, headF]
  have ht := takev_put l.length (by omega) (l ++ (bytes4 (crcv (headF kind l)) ++ t))
  have hlen := putF_len kind l
  have hall : (putF kind l ++ t).length = 2 + (putv l.length).length + l.length + 4 + t.length := by rw [List.length_append, hlen]
  unfold takeF
  rw [dif_neg (by omega)]
  have hz : (putF kind l ++ t)[0]'(by omega) = 199 := by simp [putF, headF]
  have ho : (putF kind l ++ t)[1]'(by omega) = kind := by simp [putF, headF]
  rw [if_neg (by rw [hz]; decide), dif_neg (by omega)]
  simp only [hd, ht, ho]
  rw [if_neg (by simp), if_neg (by omega), if_neg (by omega)]
  have hc : ((putF kind l ++ t).drop (2 + (putv l.length).length)).take l.length = l := by
    rw [← List.drop_drop, hd]
    simp
  rw [hc, ← hlen, List.take_left]
  simp
def wholeF (kind : UInt8) (b : List UInt8) : List UInt8 × Nat :=
  if (takeF b).2.2.2 ≠ 0 then ([], (takeF b).2.2.2) else if (takeF b).1 ≠ kind.toNat then ([], 11) else if (takeF b).2.2.1 < b.length then ([], 13) else ((takeF b).2.1, 0)
theorem wholeF_put (kind : UInt8) (l : List UInt8) (hl : l.length ≤ 1048576) : wholeF kind (putF kind l) = (l, 0) := by
  have := takeF_put kind l hl []
  rw [List.append_nil] at this
  simp [wholeF, this]
end Go.Proofs.Ytcceeigkgklkoaa
