import Derived.Test.YtihfmphaajdhnaaTl
import Derived.Test.YtihfmphaajdhnaaLv
/-! The law ChaseWrong: the plain side. -/
namespace Go.Proofs.Ytihfmphaajdhnaa.P
open Go.RowKit Go.Proofs.YtihfmphaajdhnaaW.PrintWords Go.Proofs.YtihfmphaajdhnaaW.PrintLast Go.Proofs.YtihfmphaajdhnaaW.PrintMore Go.Proofs.Ytihfmphaajdhnaa.Th
set_option linter.unusedVariables false
set_option linter.unusedSimpArgs false

/-- The watches that are not in a set, of the first so many. -/
def keepTo (l : List Int) (s k : Nat) : List Int := ((List.range k).filter fun i => !s.testBit i).map fun i => l.getD i 0
theorem keepTo_succ (l : List Int) (s k : Nat) : keepTo l s (k + 1) = keepTo l s k ++ if s.testBit k then [] else [l.getD k 0] := by
  unfold keepTo
  rw [List.range_succ, List.filter_append, List.map_append]
  congr 1
  cases h : s.testBit k <;> simp [h]
theorem keepTo_len (l : List Int) (s k : Nat) : (keepTo l s k).length ≤ k := by
  unfold keepTo
  rw [List.length_map]
  exact Nat.le_trans (List.length_filter_le _ _) (by simp)
theorem keep_clk (e : Int) (l : List Int) (s : Nat) : ∀ k, k ≤ l.length → clk e (keepTo l s k) = clkBut e (l.take k) s
  | 0, _ => rfl
  | k + 1, h => by
    rw [keepTo_succ, clkBut_take e l s k (by omega)]
    cases hb : s.testBit k
    · simp only [Bool.false_eq_true, if_false]
      rw [← keep_clk e l s k (by omega)]
      unfold clk
      rw [List.foldl_append]
      rfl
    · simp only [if_true, List.append_nil]
      exact keep_clk e l s k (by omega)
theorem keep_ok {l : List Int} (h : okL l = true) (s : Nat) (hne : keepTo l s l.length ≠ []) : okL (keepTo l s l.length) = true := by
  obtain ⟨h1, h2, h3⟩ := (okL_iff l).1 h
  refine (okL_iff _).2 ⟨List.length_pos_iff.2 hne, Nat.le_trans (keepTo_len l s _) h2, fun n hn => ?_⟩
  unfold keepTo at hn
  obtain ⟨i, hi, rfl⟩ := List.mem_map.1 hn
  have hi' := List.mem_range.1 (List.mem_filter.1 hi).1
  rw [List.getD_eq_getElem?_getD, List.getElem?_eq_getElem hi']
  exact h3 _ (List.getElem_mem hi')
/-- One pair alone. -/
theorem vld_one {e : Int} {x : List Int} (he : 0 ≤ e ∧ e ≤ 3) (h : okL x = true) : vld e 1 [x] = true := by
  unfold vld okH
  simp [h]
  omega
theorem bad_one (e : Int) (x : List Int) : bad (clks e [x]) = decide ((clk e x).2 < (clk e x).1) := by
  simp [bad, clks, mkc]
theorem time_one {e : Int} {l : List Int} (he : 0 ≤ e ∧ e ≤ 3) (h : okL l = true) (s : Nat) (hne : keepTo l s l.length ≠ []) :
    ∃ r1 r2 r3, chase_Time.f e 1 [keepTo l s l.length] 0 = some (r1, r2, r3) ∧ decide (r3 = 0) = okBut e l s ∧ 0 ≤ r3 ∧ r3 ≤ 10 := by
  have hv := vld_one he (keep_ok h s hne)
  have hc := keep_clk e l s l.length (Nat.le_refl _)
  rw [List.take_length] at hc
  have hp : isP [keepTo l s l.length] 0 = true := by simp [isP]
  unfold chase_Time.f
  unfold errOf
  rw [hv, hp, bad_one, hc]
  unfold okBut
  by_cases hb : (clkBut e l s).2 < (clkBut e l s).1
  · have : ¬ (clkBut e l s).1 ≤ (clkBut e l s).2 := by omega
    refine ⟨0, 0, 10, ?_, ?_, by decide, by decide⟩
    · simp [hb]
    · simp [this]
  · have : (clkBut e l s).1 ≤ (clkBut e l s).2 := by omega
    refine ⟨_, _, 0, by simp [hb]; exact ⟨rfl, rfl⟩, by simp [this], by decide, by decide⟩
theorem okBut_nil {e : Int} {l : List Int} {s : Nat} (h : keepTo l s l.length = []) : okBut e l s = true := by
  have hc := keep_clk e l s l.length (Nat.le_refl _)
  rw [List.take_length, h] at hc
  unfold okBut
  rw [← hc]
  rfl
/-- All but the first watch may be wrong. -/
theorem okBut_one {e : Int} {l : List Int} (he : 0 ≤ e ∧ e ≤ 3) (h : okL l = true) : okBut e l (2 ^ l.length - 2) = true := by
  obtain ⟨h1, h2, h3⟩ := (okL_iff l).1 h
  have key : ∀ a, 0 ≤ a ∧ a ≤ 200 → decide ((nar e (0, 203) a).1 ≤ (nar e (0, 203) a).2) = true := by
    intro a ha
    simp only [nar, mx, mn, decide_eq_true_eq]
    split <;> split <;> omega
  match l, h1, h2, h3 with
  | [a], _, _, h3 =>
    have e0 : (0 : Nat).testBit 0 = false := by decide
    have := key a (h3 a (by simp))
    show okBut e [a] 0 = true
    simpa [okBut, clkBut, e0] using this
  | [a, b], _, _, h3 =>
    have e0 : (2 : Nat).testBit 0 = false := by decide
    have e1 : (2 : Nat).testBit 1 = true := by decide
    have := key a (h3 a (by simp))
    show okBut e [a, b] 2 = true
    unfold okBut clkBut
    simp only [List.zipIdx_cons, List.zipIdx_nil, List.foldl_cons, List.foldl_nil, Nat.zero_add, e0, e1, Bool.false_eq_true, if_false, if_true]
    exact this
  | [a, b, c], _, _, h3 =>
    have e0 : (6 : Nat).testBit 0 = false := by decide
    have e1 : (6 : Nat).testBit 1 = true := by decide
    have e2 : (6 : Nat).testBit (1 + 1) = true := by decide
    have := key a (h3 a (by simp))
    show okBut e [a, b, c] 6 = true
    unfold okBut clkBut
    simp only [List.zipIdx_cons, List.zipIdx_nil, List.foldl_cons, List.foldl_nil, Nat.zero_add, e0, e1, e2, Bool.false_eq_true, if_false, if_true]
    exact this
/-- What is told of the best set, of all ways in which sets can be right. -/
def bestOk (n m : Nat) : Bool :=
  let b := bestOf n m.testBit (2 ^ n)
  decide (b < 2 ^ n - 1) && m.testBit b && (List.range n).all (fun i => !b.testBit i || !m.testBit (b - 2 ^ i)) && (List.range (2 ^ n)).all (fun o => !m.testBit o || !(decide (pop3 o < pop3 b) || (decide (pop3 o = pop3 b) && decide (o < b))))
theorem best_all : ∀ n, n < 4 → 1 ≤ n → ∀ m, m < 256 → m.testBit (2 ^ n - 2) = true → bestOk n m = true := by decide +kernel
theorem mask_all : ∀ b0 b1 b2 b3 b4 b5 b6 b7 : Bool, ∃ m, m < 256 ∧ m.testBit 0 = b0 ∧ m.testBit 1 = b1 ∧ m.testBit 2 = b2 ∧ m.testBit 3 = b3 ∧ m.testBit 4 = b4 ∧ m.testBit 5 = b5 ∧ m.testBit 6 = b6 ∧ m.testBit 7 = b7 := by
  intro b0 b1 b2 b3 b4 b5 b6 b7
  refine ⟨b0.toNat + 2 * b1.toNat + 4 * b2.toNat + 8 * b3.toNat + 16 * b4.toNat + 32 * b5.toNat + 64 * b6.toNat + 128 * b7.toNat, ?_⟩
  revert b0 b1 b2 b3 b4 b5 b6 b7
  decide +kernel
theorem bestOf_congr (n : Nat) {P Q : Nat → Bool} : ∀ k, (∀ s, s < k → P s = Q s) → bestOf n P k = bestOf n Q k
  | 0, _ => rfl
  | k + 1, h => by rw [bestOf_succ, bestOf_succ, bestOf_congr n k (fun s hs => h s (by omega)), h k (by omega)]
/-- The best set: right, with nothing to spare, none is better. -/
structure Best (n : Nat) (P : Nat → Bool) (b : Nat) : Prop where
  lt : b < 2 ^ n - 1
  ok : P b = true
  less : ∀ i, i < n → b.testBit i = true → P (b - 2 ^ i) = false
  best : ∀ o, o < 2 ^ n → P o = true → ¬ (pop3 o < pop3 b ∨ pop3 o = pop3 b ∧ o < b)
theorem best_of {n : Nat} {P : Nat → Bool} (h1 : 1 ≤ n) (h3 : n ≤ 3) (hP : P (2 ^ n - 2) = true) : Best n P (bestOf n P (2 ^ n)) := by
  obtain ⟨m, hm, a0, a1, a2, a3, a4, a5, a6, a7⟩ := mask_all (P 0) (P 1) (P 2) (P 3) (P 4) (P 5) (P 6) (P 7)
  have hlt : 2 ^ n ≤ 8 := Nat.le_trans (Nat.pow_le_pow_right (by decide) h3) (by decide)
  have h2n : 2 ≤ 2 ^ n := Nat.le_trans (by decide) (Nat.pow_le_pow_right (n := 2) (by decide) h1)
  have hmP : ∀ s, s < 8 → m.testBit s = P s := fun s hs => by
    have : s = 0 ∨ s = 1 ∨ s = 2 ∨ s = 3 ∨ s = 4 ∨ s = 5 ∨ s = 6 ∨ s = 7 := by omega
    rcases this with rfl | rfl | rfl | rfl | rfl | rfl | rfl | rfl <;> assumption
  have hb := best_all n (by omega) h1 m hm (by rw [hmP _ (by omega)]; exact hP)
  rw [bestOf_congr n (2 ^ n) (P := P) (Q := m.testBit) (fun s hs => (hmP s (by omega)).symm)]
  unfold bestOk at hb
  simp only [Bool.and_eq_true, decide_eq_true_eq, List.all_eq_true, List.mem_range, Bool.or_eq_true, Bool.not_eq_true'] at hb
  obtain ⟨⟨⟨c1, c2⟩, c3⟩, c4⟩ := hb
  generalize bestOf n m.testBit (2 ^ n) = b at *
  have hb8 : b < 8 := by omega
  refine ⟨c1, by rw [← hmP b (by omega)]; exact c2, fun i hi hbi => ?_, fun o ho hPo hbad => ?_⟩
  · rcases c3 i hi with h | h
    · rw [hbi] at h; cases h
    · rw [← hmP _ (Nat.lt_of_le_of_lt (Nat.sub_le _ _) hb8)]; exact h
  · rcases c4 o ho with h | h
    · rw [hmP o (by omega), hPo] at h; cases h
    · simp only [Bool.or_eq_false_iff, Bool.and_eq_false_iff, decide_eq_false_iff_not] at h
      rcases hbad with h' | ⟨h', h''⟩
      · exact h.1 h'
      · exact h.2.elim (fun x => x h') (fun x => x h'')
/-- What must be wrong of a pair's watches. -/
def wrongV (e : Int) (l : List Int) : Nat := bestOf l.length (okBut e l) (2 ^ l.length)
theorem wrong_best {e : Int} {l : List Int} (he : 0 ≤ e ∧ e ≤ 3) (h : okL l = true) : Best l.length (okBut e l) (wrongV e l) :=
  best_of ((okL_iff l).1 h).1 ((okL_iff l).1 h).2.1 (okBut_one he h)
theorem wrong_zero {e : Int} {l : List Int} (he : 0 ≤ e ∧ e ≤ 3) (h : okL l = true) : wrongV e l = 0 ↔ (clk e l).1 ≤ (clk e l).2 := by
  have hb := wrong_best he h
  have h0 : okBut e l 0 = decide ((clk e l).1 ≤ (clk e l).2) := by
    have hc := keep_clk e l 0 l.length (Nat.le_refl _)
    rw [List.take_length] at hc
    have hk : keepTo l 0 l.length = l := by
      unfold keepTo
      rw [List.filter_eq_self.2 (fun i _ => by simp)]
      refine List.ext_getElem (by simp) fun i h1 h2 => ?_
      simp [List.getElem?_eq_getElem h2]
    unfold okBut
    rw [← hc, hk]
  constructor
  · intro hz
    have := hb.ok
    rw [hz, h0] at this
    simpa using this
  · intro hle
    have h1 := hb.best 0 (Nat.two_pow_pos _) (by rw [h0]; simpa using hle)
    have hlt := hb.lt
    have h3 := ((okL_iff l).1 h).2.1
    have h8 : 2 ^ l.length ≤ 8 := Nat.le_trans (Nat.pow_le_pow_right (by decide) h3) (by decide)
    generalize wrongV e l = b at *
    have hp : pop3 0 = 0 := rfl
    rw [hp] at h1
    have : ∀ b, b < 8 → pop3 b = 0 → b = 0 := by decide
    exact this b (by omega) (by omega)
end Go.Proofs.Ytihfmphaajdhnaa.P
