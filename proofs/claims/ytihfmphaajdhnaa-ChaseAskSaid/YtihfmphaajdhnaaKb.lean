import Derived.Test.YtihfmphaajdhnaaKa
import Derived.Test.YtihfmphaajdhnaaAl
import Derived.Test.YtihfmphaajdhnaaLv
/-! The law ChaseAsk: its closures. -/
namespace Go.Proofs.Ytihfmphaajdhnaa.P
open Go.RowKit Go.Proofs.YtihfmphaajdhnaaW.PrintWords Go.Proofs.YtihfmphaajdhnaaW.PrintLast Go.Proofs.YtihfmphaajdhnaaW.PrintMore Go.Proofs.Ytihfmphaajdhnaa.Th
set_option linter.unusedVariables false
set_option linter.unusedSimpArgs false

theorem able_clks {e f : Int} {ps : List (List Int)} (hv : vld e f ps = true) (hb : bad (clks e ps) = false) : Able (clks e ps) := by
  obtain ⟨h1, h6, _⟩ := vld_len hv
  have hl := clks_len e ps
  refine ⟨clks_numbered _ _, by omega, fun p hp => (clks_bd hv (by omega)).1, fun p hp => ?_⟩
  unfold bad at hb
  rw [List.any_eq_false] at hb
  have := hb (cl (clks e ps) p) (by unfold cl; rw [List.getD_eq_getElem?_getD, List.getElem?_eq_getElem hp]; exact List.getElem_mem hp)
  simp only [decide_eq_true_eq, Int.not_lt] at this
  exact this
theorem bad_able {cs : List S65} (h : Able cs) : bad cs = false := by
  unfold bad
  rw [List.any_eq_false]
  intro k hk
  obtain ⟨i, hi, rfl⟩ := List.getElem_of_mem hk
  have h1 := h.le i hi
  unfold loF hiF cl at h1
  rw [List.getD_eq_getElem?_getD, List.getElem?_eq_getElem hi] at h1
  simpa using h1
theorem fin_call {e f : Int} {ps : List (List Int)} (hv : vld e f ps = true) (hb : bad (clks e ps) = false) {p : Nat} (hp : p < ps.length) :
    chase_Final.f e f ps (p : Int) = some (finOf f (clks e ps) p, 0) := by
  have hip : isP ps (p : Int) = true := by unfold isP; simp; omega
  unfold chase_Final.f
  rw [if_pos (show errOf e f ps (isP ps (p : Int)) = 0 from by simp [errOf, hv, hb, hip]), fin_eq (able_clks hv hb) f (by rw [clks_len]; exact hp)]
  rfl
theorem fin_range {e f : Int} {ps : List (List Int)} (hv : vld e f ps = true) (hb : bad (clks e ps) = false) {p : Nat} (hp : p < ps.length) : 0 ≤ finOf f (clks e ps) p ∧ finOf f (clks e ps) p ≤ 2 := by
  rw [fin_eq (able_clks hv hb) f (by rw [clks_len]; exact hp)]
  exact asked_range _ _
theorem settled_false {f : Int} {cs : List S65} {k : Nat} (hk : k < cs.length) (h : finOf f cs k = 1) : settledOf f cs = false := by
  unfold settledOf
  rw [List.all_eq_false]
  exact ⟨k, List.mem_range.2 hk, by simp [h]⟩
theorem settled_true {f : Int} {cs : List S65} (h : ∀ j, j < cs.length → finOf f cs j ≠ 1) : settledOf f cs = true := by
  unfold settledOf
  rw [List.all_eq_true]
  intro j hj
  simpa using h j (List.mem_range.1 hj)
theorem settles_false {f : Int} {cs : List S65} {p m : Nat} (hm : (loF cs p + m : Int) ≤ hiF cs p) (h : settledOf f (setT cs p (loF cs p + m)) = false) : settlesOf f cs p = false := by
  unfold settlesOf
  rw [List.all_eq_false]
  unfold loF hiF at *
  exact ⟨m, List.mem_range.2 (by omega), by rw [h]; simp⟩
theorem settles_true {f : Int} {cs : List S65} {p : Nat} (h : ∀ m : Nat, (loF cs p + m : Int) ≤ hiF cs p → settledOf f (setT cs p (loF cs p + m)) = true) : settlesOf f cs p = true := by
  unfold settlesOf
  rw [List.all_eq_true]
  intro m hm
  have := List.mem_range.1 hm
  unfold loF hiF at *
  exact h m (by omega)
/-- All watches are from 10 to 190. -/
def Inner (ps : List (List Int)) : Prop := ∀ p : Nat, p < ps.length → ∀ n ∈ ps.getD p [], 10 ≤ n ∧ n ≤ 190
theorem span_in {e f : Int} {ps : List (List Int)} (hv : vld e f ps = true) (hb : bad (clks e ps) = false) (hi : Inner ps) {p : Nat} (hp : p < ps.length) :
    10 - e ≤ loF (clks e ps) p ∧ loF (clks e ps) p ≤ hiF (clks e ps) p ∧ hiF (clks e ps) p ≤ 190 + e ∧ hiF (clks e ps) p ≤ loF (clks e ps) p + 2 * e := by
  have hle := (able_clks hv hb).le p (by rw [clks_len]; exact hp)
  have h1 := ((okL_iff _).1 (vld_row hv hp)).1
  have h2 := hi p hp
  refine ⟨?_, hle, ?_⟩
  all_goals
    rw [lo_clks hp, hi_clks hp] at *
    obtain ⟨n, l, hnl⟩ := List.exists_cons_of_length_pos h1
    have hn : n ∈ ps.getD p [] := by rw [hnl]; simp
    have := clk_near e _ n hn
    have := h2 n hn
    omega

set_option maxHeartbeats 2000000 in
set_option maxRecDepth 100000 in
theorem ask1_any (e f : Int) (A : Option Addr) (c : Nat) (ps : List (List Int)) (w : World) (hC : Kd.C (Kd.slice 3 (Kd.int .i64)) w A ps.length ps) (hc : ps.length ≤ c)
    (hv : vld e f ps = true) (hb : bad (clks e ps) = false) :
    Calls Try.prog 33 #[.agg #[.int .i64 e, .int .i64 f, .slice A ps.length c]] w fun en w' => en = .returned (.bool (settledOf f (clks e ps))) ∧ Below w.heap.size w w' := by
  obtain ⟨hn1, hn6, hf1, hfn⟩ := vld_len hv
  have hlen := clks_len e ps
  have hfin : ∀ k : Nat, k < ps.length → chase_Final.f e f ps (k : Int) = some (finOf f (clks e ps) k, 0) := fun k hk => fin_call hv hb hk
  have hrng : ∀ k : Nat, k < ps.length → 0 ≤ finOf f (clks e ps) k ∧ finOf f (clks e ps) k ≤ 2 := fun k hk => fin_range hv hb hk
  obtain ⟨cs, hcs⟩ : ∃ cs, cs = clks e ps := ⟨_, rfl⟩
  rw [← hcs] at hlen hfin hrng ⊢
  have HC := Lib.hid hC
  have HFIN := Lib.hid hfin
  have HRNG := Lib.hid hrng
  clear hC hfin hrng hcs hv hb
  go_enter Try.func33, Try.ntmps33
  go_wp2_with fail
  obtain ⟨w1, hw1, k1, hb1⟩ : ∃ w1, w1 = w.alloc (.cells #[.int .i64 e, .int .i64 f, .slice A ps.length c] 32) ∧ w1.heap[w.heap.size]? = some (.cells #[.int .i64 e, .int .i64 f, .slice A ps.length c] 32 (0, 0)) ∧ Below w.heap.size w w1 := ⟨_, rfl, blk_new _ _, (Below.refl _ _).alloc (Nat.le_refl _) _⟩
  rw [← hw1]
  have K1 := Lib.hid k1
  have HB1 := Lib.hid hb1
  clear k1 hb1 hw1
  go_loopw [9] (fun i wr => ∃ k : Nat, i = .int .i64 k ∧ k ≤ ps.length ∧ Hid (∀ j, j < k → finOf f cs j ≠ 1) ∧ Hid (Below w1.heap.size w1 wr)) (fun i _ => ps.length - (intOf i).toNat)
  case atStart => exact ⟨0, rfl, Nat.zero_le _, fun j hj => absurd hj (by omega), Below.refl _ _⟩
  case round =>
    obtain ⟨k, rfl, hk, HO, HBR⟩ := hrel
    have KR := Lib.hid (blk_below K1.out HBR.out)
    by_cases hkl : k < ps.length
    · have q0 := blk_nth KR.out 0 rfl
      have q1 := blk_nth KR.out 1 rfl
      have q2 := blk_nth KR.out 2 rfl
      have hcf := HFIN.out k hkl
      have hr := HRNG.out k hkl
      obtain ⟨fv, hfv⟩ : ∃ x, x = finOf f cs k := ⟨_, rfl⟩
      rw [← hfv] at hcf hr
      have HFV := Lib.hid hfv
      have HCF := Lib.hid hcf
      clear hfv hcf
      go_wp2_with fail
      clear q0 q1 q2
      refine (chase_Final.calls e f A c ps k fv 0 wr (Kd.C_below HC.out (HB1.out.trans (HBR.out.mono HB1.out.size))) hc HCF.out).mono ?_
      rintro en w2 ⟨rfl, hb2⟩
      have HB2 := Lib.hid (HBR.out.trans (hb2.mono HBR.out.size))
      clear hb2
      have hcase : fv = 0 ∨ fv = 1 ∨ fv = 2 := by omega
      clear hr
      rcases hcase with rfl | rfl | rfl
      · go_wp2
        refine ⟨⟨k + 1, by go_num, by omega, ?_, HB2⟩, by simp [intOf]; omega⟩
        intro j hj
        rcases Nat.lt_succ_iff_lt_or_eq.1 hj with hj | rfl
        · exact HO.out j hj
        · rw [← HFV.out]; decide
      · have HS := Lib.hid (settled_false (by omega) HFV.out.symm)
        go_wp2
        go_ret
        exact ⟨by rw [HS.out]; rfl, HB1.out.trans (HB2.out.mono HB1.out.size)⟩
      · go_wp2
        refine ⟨⟨k + 1, by go_num, by omega, ?_, HB2⟩, by simp [intOf]; omega⟩
        intro j hj
        rcases Nat.lt_succ_iff_lt_or_eq.1 hj with hj | rfl
        · exact HO.out j hj
        · rw [← HFV.out]; decide
    · obtain rfl : k = ps.length := by omega
      have HS := Lib.hid (settled_true (f := f) (cs := cs) (fun j hj => HO.out j (by omega)))
      go_wp2
      go_ret
      exact ⟨by rw [HS.out]; rfl, HB1.out.trans (HBR.out.mono HB1.out.size)⟩

set_option maxHeartbeats 4000000 in
set_option maxRecDepth 100000 in
theorem ask2_any {bc bs : Nat} (e f : Int) (A : Option Addr) (c : Nat) (ps : List (List Int)) (w : World) (hC : Kd.C (Kd.slice 3 (Kd.int .i64)) w A ps.length ps) (hc : ps.length ≤ c)
    (hbc : w.heap[bc]? = some (.cells #[.int .i64 e, .int .i64 f, .slice A ps.length c] 32 (0, 0)))
    (hbs : w.heap[bs]? = some (.cells #[.func (.func 33) #[] #[]] 52 (0, 0)))
    (hv : vld e f ps = true) (hb : bad (clks e ps) = false) (hi : Inner ps) (p : Nat) (hp : p < ps.length) :
    Calls Try.prog 34 #[.int .i64 (p : Int), .pointer (some ⟨bc, 0, none⟩), .pointer (some ⟨bs, 0, none⟩)] w fun en w' => en = .returned (.bool (settlesOf f (clks e ps) p)) ∧ Below w.heap.size w w' := by
  obtain ⟨hn1, hn6, hf1, hfn⟩ := vld_len hv
  have he := vld_err hv
  have hlen := clks_len e ps
  have hA := able_clks hv hb
  have hsp := span_in hv hb hi hp
  have hct : chase_Time.f e f ps (p : Int) = some (loF (clks e ps) p, hiF (clks e ps) p, 0) := by
    have hip : isP ps (p : Int) = true := by unfold isP; simp; omega
    unfold chase_Time.f
    rw [if_pos (show errOf e f ps (isP ps (p : Int)) = 0 from by simp [errOf, hv, hb, hip])]
    rfl
  have hset : ∀ t : Int, 0 ≤ t → t ≤ 203 → 0 ≤ t - e → t + e ≤ 200 → vld e f (ps.set p [t - e, t + e]) = true ∧ clks e (ps.set p [t - e, t + e]) = setT (clks e ps) p t ∧ bad (clks e (ps.set p [t - e, t + e])) = false := by
    intro t h0 h1 h2 h3
    have hcl := clks_set he ⟨h0, h1⟩ hp
    refine ⟨vld_set hv p (okL_known he.1 h2 h3), hcl, ?_⟩
    rw [hcl]
    exact bad_able (able_set hA (by rw [hlen]; exact hp) h0)
  obtain ⟨cs, hcs⟩ : ∃ cs, cs = clks e ps := ⟨_, rfl⟩
  rw [← hcs] at hlen hct hsp hset ⊢
  obtain ⟨lo, hlo⟩ : ∃ x, x = loF cs p := ⟨_, rfl⟩
  obtain ⟨hh, hhi⟩ : ∃ x, x = hiF cs p := ⟨_, rfl⟩
  rw [← hlo, ← hhi] at hct hsp
  obtain ⟨s1, s2, s3, s4⟩ := hsp
  have HLO := Lib.hid hlo
  have HHI := Lib.hid hhi
  have HC := Lib.hid hC
  have HCT := Lib.hid hct
  have HSET := Lib.hid hset
  have HBC := Lib.hid hbc
  have HBS := Lib.hid hbs
  have q0 := blk_nth hbc 0 rfl
  have q1 := blk_nth hbc 1 rfl
  have q2 := blk_nth hbc 2 rfl
  clear hC hct hset hbc hbs hcs hv hb hA hi hlo hhi
  go_enter Try.func34, Try.ntmps34
  go_wp2_with fail
  clear q0 q1 q2
  refine (chase_Time.calls e f A c ps p lo hh 0 w HC.out hc HCT.out).mono ?_
  rintro en w1 ⟨rfl, hb1⟩
  have HB1 := Lib.hid hb1
  clear hb1
  go_wp2_with fail
  obtain ⟨w2, hw2, k2, hb2⟩ : ∃ w2, w2 = w1.alloc (.cells #[.int .i64 lo, .int .i64 hh] 23) ∧ w2.heap[w1.heap.size]? = some (.cells #[.int .i64 lo, .int .i64 hh] 23 (0, 0)) ∧ Below w1.heap.size w1 w2 := ⟨_, rfl, blk_new _ _, (Below.refl _ _).alloc (Nat.le_refl _) _⟩
  rw [← hw2]
  have K2 := Lib.hid k2
  have HB2 := Lib.hid (HB1.out.trans (hb2.mono HB1.out.size))
  clear k2 hb2 hw2
  go_loopw [7] (fun i wr => ∃ m : Nat, i = .int .i64 (lo + m) ∧ (lo + m : Int) ≤ hh + 1 ∧ Hid (∀ j : Nat, j < m → settledOf f (setT cs p (lo + j)) = true) ∧ Hid (Below w2.heap.size w2 wr)) (fun i _ => (hh + 1 - intOf i).toNat)
  case atStart => exact ⟨0, by simp, by simp; omega, fun j hj => absurd hj (by omega), Below.refl _ _⟩
  case round =>
    obtain ⟨m, rfl, hm, HO, HBR⟩ := hrel
    obtain ⟨t, ht⟩ : ∃ t : Int, t = lo + m := ⟨_, rfl⟩
    rw [← ht] at hm ⊢
    have h0t : lo ≤ t := by omega
    have HT := Lib.hid ht
    clear ht
    have KR := Lib.hid (blk_below K2.out HBR.out)
    have HBW := Lib.hid (HB2.out.trans (HBR.out.mono HB2.out.size))
    have x0 := blk_nth KR.out 0 rfl
    have x1 := blk_nth KR.out 1 rfl
    have d1 : IntKind.i64.wrap (lo + 6) = lo + 6 := IntWalk.i64_in _ (by omega)
    by_cases htl : t ≤ hh
    · have q0 := blk_nth (blk_below HBC.out HBW.out) 0 rfl
      have q1 := blk_nth (blk_below HBC.out HBW.out) 1 rfl
      have q2 := blk_nth (blk_below HBC.out HBW.out) 2 rfl
      have dt : decide (t ≤ hh) = true := decide_eq_true htl
      have dt2 : decide (t ≤ min hh (lo + 6)) = true := decide_eq_true (by omega)
      have dk : (decide (0 ≤ t - e) && decide (t + e ≤ 200)) = true := by
        rw [decide_eq_true (show 0 ≤ t - e by omega), decide_eq_true (show t + e ≤ 200 by omega)]; rfl
      have DK := Lib.hid dk
      obtain ⟨z1, z2, z3⟩ := HSET.out t (by omega) (by omega) (by omega) (by omega)
      have HZ1 := Lib.hid z1
      have HZ2 := Lib.hid z2
      have HZ3 := Lib.hid z3
      clear dk z1 z2 z3
      go_wp2_with fail
      clear q0 q1 q2 x0 x1
      refine (known_any e f A c ps p t wr (Kd.C_below HC.out HBW.out) hc hp hn6 he (by omega)).mono ?_
      rintro en w3 ⟨ps', A', c', hps', hen, hC', hc', hb3⟩
      rw [DK.out] at hen
      subst hen
      subst hps'
      rw [List.length_set] at hC' hc'
      have hl' : (ps.set p [t - e, t + e]).length = ps.length := List.length_set
      have HL' := Lib.hid hl'
      rw [hl']
      clear hl'
      have y0 := fun o => cell_alloc (blk_nth (blk_below HBS.out (HB2.out.trans ((HBR.out.trans (hb3.mono HBR.out.size)).mono HB2.out.size))) 0 rfl) o
      have HC3 := Lib.hid hC'
      have HB3 := Lib.hid (HBR.out.trans (hb3.mono HBR.out.size))
      clear hC' hb3
      go_wp2_with fail
      clear y0
      obtain ⟨w4, hw4, hb4⟩ : ∃ w4, w4 = w3.alloc (.cells #[.int .i64 e, .int .i64 f, .slice A' ps.length c'] 32) ∧ Below w3.heap.size w3 w4 := ⟨_, rfl, (Below.refl _ _).alloc (Nat.le_refl _) _⟩
      rw [← hw4]
      have HB4 := Lib.hid (HB3.out.trans (hb4.mono HB3.out.size))
      have HC4 := Lib.hid (Kd.C_below HC3.out hb4)
      clear hb4 hw4
      have hask := ask1_any e f A' c' (ps.set p [t - e, t + e]) w4 (by rw [HL'.out]; exact HC4.out) (by rw [HL'.out]; exact hc') HZ1.out HZ3.out
      rw [HL'.out, HZ2.out] at hask
      refine hask.mono ?_
      clear hask
      rintro en w5 ⟨rfl, hb5⟩
      have HB5 := Lib.hid (HB4.out.trans (hb5.mono HB4.out.size))
      clear hb5
      cases hs : settledOf f (setT cs p t)
      · have HS := Lib.hid (settles_false (f := f) (cs := cs) (p := p) (m := m) (by rw [← HLO.out, ← HHI.out, ← HT.out]; exact htl) (by rw [← HLO.out, ← HT.out]; exact hs))
        clear hs
        go_wp2
        go_ret
        exact ⟨by rw [HS.out]; rfl, HB2.out.trans (HB5.out.mono HB2.out.size)⟩
      · have HS := Lib.hid hs
        clear hs
        go_wp2
        have ht : t = lo + (m : Int) := HT.out
        refine ⟨⟨m + 1, ?_, by omega, ?_, HB5⟩, by simp [intOf]; omega⟩
        · congr 1; omega
        · intro j hj
          rcases Nat.lt_succ_iff_lt_or_eq.1 hj with hj | rfl
          · exact HO.out j hj
          · rw [← ht]; exact HS.out
    · have dt : decide (t ≤ hh) = false := decide_eq_false htl
      have dt2 : decide (t ≤ min hh (lo + 6)) = false := decide_eq_false (by omega)
      have HS := Lib.hid (settles_true (f := f) (cs := cs) (p := p) (fun j hj => by rw [← HLO.out] at hj ⊢; rw [← HHI.out] at hj; exact HO.out j (by have h9 : t = lo + (m : Int) := HT.out; omega)))
      go_wp2
      go_ret
      exact ⟨by rw [HS.out]; rfl, HBW.out⟩
end Go.Proofs.Ytihfmphaajdhnaa.P
