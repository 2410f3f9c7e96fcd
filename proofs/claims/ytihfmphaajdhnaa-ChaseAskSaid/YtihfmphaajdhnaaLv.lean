import Derived.Test.YtihfmphaajdhnaaMc
/-! What laws ask first: is a chase long, is it valid. -/
namespace Go.Proofs.Ytihfmphaajdhnaa.P
open Go.RowKit Go.Proofs.YtihfmphaajdhnaaW.PrintWords Go.Proofs.YtihfmphaajdhnaaW.PrintLast Go.Proofs.YtihfmphaajdhnaaW.PrintMore
set_option linter.unusedVariables false
set_option linter.unusedSimpArgs false

theorem in_f (a b c : Int) : lapworksref07_in.f a b c = some (decide (b ≤ a) && decide (a ≤ c)) := by
  unfold lapworksref07_in.f
  by_cases h : b ≤ a <;> simp [h]
theorem wrap_s (i : Nat) (h : i < 9223372036854775807) : wrap64 ((i : Int) + 1) = ((i + 1 : Nat) : Int) := by unfold wrap64; omega
theorem long_l (ps : List (List Int)) (hlen : ps.length ≤ 9223372036854775807) : ∀ (d i : Nat) (m : Int), i + d = ps.length → ∃ b, lapworkslaw07_long.l0 (d + 1) m ps (ps.length : Int) (i : Int) = some b
  | 0, i, m, h => ⟨_, by simp only [lapworkslaw07_long.l0]; rw [if_neg (by omega)]⟩
  | d + 1, i, m, h => by
    obtain ⟨b, hb⟩ := long_l ps hlen d (i + 1) (mx m ((rd_L1 ps (i : Int)).length : Int)) (by omega)
    refine ⟨b, ?_⟩
    rw [lapworkslaw07_long.l0, if_pos (by omega), if_pos (by omega), if_pos (by omega), wrap_s i (by omega)]
    exact hb
theorem long_ex (e f : Int) (ps : List (List Int)) (hlen : ps.length ≤ 9223372036854775807) : ∃ k b, lapworkslaw07_long.f k e f ps = some b := by
  obtain ⟨b, hb⟩ := long_l ps hlen ps.length 0 (ps.length : Int) (by omega)
  exact ⟨_, b, hb⟩
theorem rdL_getD (ps : List (List Int)) (i : Nat) : rd_L1 ps (i : Int) = ps.getD i [] := by simp [rd_L1]
theorem chase_l1 (e f : Int) (ps : List (List Int)) (i : Nat) (hi : i < ps.length) (h6 : ps.length ≤ 6) (l : List Int) (hl : ps.getD i [] = l) (h3 : l.length ≤ 3) (k : Nat) : ∀ (d j : Nat), j + d = l.length →
    lapworksref07_Chase.l1 (k + d + 1) (i : Int) (j : Int) e f ps = if (l.drop j).all okN then lapworksref07_Chase.l0 k ((i + 1 : Nat) : Int) e f ps else some false
  | 0, j, h => by
    rw [lapworksref07_Chase.l1, if_pos (by omega), if_pos (by omega), rdL_getD, hl, if_neg (by omega), wrap_s i (by omega), List.drop_eq_nil_of_le (by omega)]
    simp
  | d + 1, j, h => by
    have hj : j < l.length := by omega
    have ih := chase_l1 e f ps i hi h6 l hl h3 k d (j + 1) (by omega)
    rw [show k + (d + 1) + 1 = (k + d + 1) + 1 from by omega, lapworksref07_Chase.l1, if_pos (by omega), if_pos (by omega), rdL_getD, hl, if_pos (by omega), if_pos (by omega), in_f, Option.bind_some, wrap_s j (by omega), ih]
    rw [List.drop_eq_getElem_cons hj, List.all_cons]
    have hr : rd l (j : Int) = l[j] := by simp [rd, List.getD_eq_getElem?_getD, List.getElem?_eq_getElem hj]
    rw [hr]
    show (if okN l[j] = true then _ else _) = _
    cases hk : okN l[j] <;> simp
theorem chase_l0 (e f : Int) (ps : List (List Int)) (h6 : ps.length ≤ 6) : ∀ (d i : Nat), i + d = ps.length → ∃ k0, ∀ k, k0 ≤ k → lapworksref07_Chase.l0 k (i : Int) e f ps = some ((ps.drop i).all okL)
  | 0, i, h => ⟨1, fun k hk => by
    obtain ⟨k, rfl⟩ : ∃ m, k = m + 1 := ⟨k - 1, by omega⟩
    rw [lapworksref07_Chase.l0, if_neg (by omega), List.drop_eq_nil_of_le (by omega)]
    rfl⟩
  | d + 1, i, h => by
    have hi : i < ps.length := by omega
    obtain ⟨k0, ih⟩ := chase_l0 e f ps h6 d (i + 1) (by omega)
    have hd : ps.drop i = ps.getD i [] :: ps.drop (i + 1) := by rw [List.drop_eq_getElem_cons hi, List.getD_eq_getElem?_getD, List.getElem?_eq_getElem hi]; rfl
    refine ⟨k0 + (ps.getD i []).length + 3, fun k hk => ?_⟩
    obtain ⟨k, rfl⟩ : ∃ m, k = m + 1 := ⟨k - 1, by omega⟩
    rw [lapworksref07_Chase.l0, if_pos (by omega), if_pos (by omega), in_f, Option.bind_some, rdL_getD, hd, List.all_cons]
    by_cases hb : (decide ((1 : Int) ≤ ((ps.getD i []).length : Int)) && decide (((ps.getD i []).length : Int) ≤ 3)) = true
    · rw [if_pos hb]
      simp only [Bool.and_eq_true, decide_eq_true_eq] at hb
      have h1 := chase_l1 e f ps i hi h6 (ps.getD i []) rfl (by omega) (k - (ps.getD i []).length - 1) (ps.getD i []).length 0 (by omega)
      rw [show k - (ps.getD i []).length - 1 + (ps.getD i []).length + 1 = k from by omega] at h1
      rw [show ((0 : Nat) : Int) = 0 from rfl] at h1
      rw [h1, List.drop_zero, ih _ (by omega)]
      unfold okL
      have e1 : decide (1 ≤ (ps.getD i []).length) = true := decide_eq_true (by omega)
      have e2 : decide ((ps.getD i []).length ≤ 3) = true := decide_eq_true (by omega)
      rw [e1, e2]
      cases (ps.getD i []).all okN <;> simp
    · rw [if_neg hb]
      have : okL (ps.getD i []) = false := by
        unfold okL
        rw [Bool.and_eq_false_iff]
        left
        simp only [Bool.and_eq_true, decide_eq_true_eq] at hb
        rw [Bool.and_eq_false_iff]
        simp only [decide_eq_false_iff_not]
        omega
      rw [this]
      rfl
theorem chase_ex (e f : Int) (ps : List (List Int)) : ∃ k, lapworksref07_Chase.f k e f ps = some (vld e f ps) := by
  by_cases hh : okH e f ps.length = true
  · obtain ⟨h1, h2, h3, h4, h5, h6⟩ := vld_head hh
    obtain ⟨k0, hk⟩ := chase_l0 e f ps h4 ps.length 0 (by omega)
    refine ⟨k0 + 1, ?_⟩
    unfold lapworksref07_Chase.f
    rw [in_f, in_f, in_f]
    simp only [Option.bind_some]
    rw [if_pos (by simp; omega), if_pos (by simp; omega), show (decide ((1 : Int) ≤ f) && decide (f ≤ (ps.length : Int))) = true from by simp; omega, lapworksref07_Chase.j0]
    have := hk k0 (Nat.le_refl _)
    rw [show ((0 : Nat) : Int) = 0 from rfl] at this
    simp only [Bool.not_true, Bool.false_eq_true, if_false]
    rw [this]
    unfold vld
    rw [hh]
    simp
  · refine ⟨1, ?_⟩
    have hv : vld e f ps = false := by unfold vld; simp [hh]
    rw [hv]
    unfold lapworksref07_Chase.f
    rw [in_f, in_f, in_f]
    simp only [Option.bind_some]
    simp only [okH, Bool.and_eq_true, decide_eq_true_eq] at hh
    by_cases a1 : (decide ((0 : Int) ≤ e) && decide (e ≤ 3)) = true
    · rw [if_pos a1]
      by_cases a2 : (decide ((1 : Int) ≤ (ps.length : Int)) && decide ((ps.length : Int) ≤ 6)) = true
      · rw [if_pos a2]
        have a3 : (decide ((1 : Int) ≤ f) && decide (f ≤ (ps.length : Int))) = false := by
          simp only [Bool.and_eq_true, decide_eq_true_eq] at a1 a2
          rw [Bool.and_eq_false_iff]
          simp only [decide_eq_false_iff_not]
          omega
        rw [a3]
        rfl
      · rw [if_neg a2]
        rfl
    · rw [if_neg a1]
      rfl
end Go.Proofs.Ytihfmphaajdhnaa.P
