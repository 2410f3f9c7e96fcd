import Derived.Test.YtihfmphaajdhnaaWb
import Derived.Test.YtihfmphaajdhnaaP4
/-! The law ChaseWrong: its walk. -/
namespace Go.Proofs.Ytihfmphaajdhnaa.P
open Go.RowKit Go.Proofs.YtihfmphaajdhnaaW.PrintWords Go.Proofs.YtihfmphaajdhnaaW.PrintLast Go.Proofs.YtihfmphaajdhnaaW.PrintMore Go.Proofs.Ytihfmphaajdhnaa.Th
set_option linter.unusedVariables false
set_option linter.unusedSimpArgs false

theorem shl4i : ∀ p : Nat, p < 4 → IntKind.i64.wrap ((2 : Int) ^ p) = (2 : Int) ^ p ∧ IntKind.i64.wrap ((2 : Int) ^ p - 1) = ((2 ^ p - 1 : Nat) : Int) := by decide +kernel
theorem andn3 : ∀ b : Nat, b < 8 → ∀ i : Nat, i < 3 → b.testBit i = true → Go.bits .andNot .i64 (b : Int) ((2 : Int) ^ i) = ((b - 2 ^ i : Nat) : Int) := by decide +kernel
theorem and_ev : ∀ b : Nat, b < 256 → ∀ n : Nat, n < 4 → Go.bits .and .i64 (b : Int) ((2 ^ n - 1 : Nat) : Int) = ((b % 2 ^ n : Nat) : Int) := by decide +kernel
theorem size_f : ∀ s : Nat, s < 8 → lapworksref07_Size.f 9 (s : Int) = some ((pop3 s : Nat) : Int) := by decide +kernel
def noneTo (e : Int) (ps : List (List Int)) (k : Nat) : Bool := (List.range k).all fun q => decide (wrongV e (ps.getD q []) = 0)
theorem noneTo_succ (e : Int) (ps : List (List Int)) (k : Nat) : noneTo e ps (k + 1) = (noneTo e ps k && decide (wrongV e (ps.getD k []) = 0)) := by
  unfold noneTo
  rw [List.range_succ, List.all_append]
  simp
theorem none_bad {e f : Int} {ps : List (List Int)} (hv : vld e f ps = true) : noneTo e ps ps.length = !bad (clks e ps) := by
  have he := vld_err hv
  rw [Bool.eq_iff_iff]
  unfold noneTo bad
  rw [Bool.not_eq_true', List.any_eq_false, List.all_eq_true]
  constructor
  · intro h k hk
    obtain ⟨i, hi, rfl⟩ := List.getElem_of_mem hk
    have hi' : i < ps.length := by rw [clks_len] at hi; exact hi
    have h1 := h i (List.mem_range.2 hi')
    rw [decide_eq_true_eq, wrong_zero he (vld_row hv hi')] at h1
    have h2 : (clks e ps)[i] = mkc e (ps.getD i []) i := by simp [clks, List.getD_eq_getElem?_getD, List.getElem?_eq_getElem hi']
    rw [h2]
    show ¬ (decide ((clk e (ps.getD i [])).2 < (clk e (ps.getD i [])).1) = true)
    rw [decide_eq_true_eq]
    omega
  · intro h i hi
    have hi' := List.mem_range.1 hi
    rw [decide_eq_true_eq, wrong_zero he (vld_row hv hi')]
    have hil : i < (clks e ps).length := by rw [clks_len]; exact hi'
    have h1 := h _ (List.getElem_mem hil)
    have h2 : (clks e ps)[i] = mkc e (ps.getD i []) i := by simp [clks, List.getD_eq_getElem?_getD, List.getElem?_eq_getElem hi']
    rw [h2] at h1
    have h1 : ¬ (decide ((clk e (ps.getD i [])).2 < (clk e (ps.getD i [])).1) = true) := h1
    rw [decide_eq_true_eq] at h1
    omega

set_option maxHeartbeats 4000000 in
set_option maxRecDepth 100000 in
theorem ChaseWrong_any (e f : Int) (A : Option Addr) (c : Nat) (ps : List (List Int)) (b1 b2 : Int) (w : World) (hC : Kd.C (Kd.slice 3 (Kd.int .i64)) w A ps.length ps) (hc : ps.length ≤ c) (hb1 : 0 ≤ b1 ∧ b1 ≤ 255) (hb2 : 0 ≤ b2 ∧ b2 ≤ 255) :
    Calls Try.prog 6 #[.agg #[.int .i64 e, .int .i64 f, .slice A ps.length c], .int .u8 b1, .int .u8 b2] w fun en w' => en = .returned (.bool true) ∧ Below w.heap.size w w' := by
  have hmf : ∀ (fn : Fn) (first cap : Array Value) (w : World), (Instr.makeFunc fn first cap).run Try.prog w = .ok (.func fn first cap) w := fun _ _ _ _ => rfl
  obtain ⟨kl, bl, hlong⟩ := long_ex e f ps (C_len hC).2
  obtain ⟨kc, hchase⟩ := chase_ex e f ps
  have HC := Lib.hid hC
  have HL := Lib.hid hlong
  have HCH := Lib.hid hchase
  clear hC hlong hchase
  go_enter Try.func6, Try.ntmps6
  go_wp2_with fail
  obtain ⟨w1, hw1, k1, hb1'⟩ : ∃ w1, w1 = w.alloc (.cells #[.int .i64 e, .int .i64 f, .slice A ps.length c] 32) ∧ w1.heap[w.heap.size]? = some (.cells #[.int .i64 e, .int .i64 f, .slice A ps.length c] 32 (0, 0)) ∧ Below w.heap.size w w1 := ⟨_, rfl, blk_new _ _, (Below.refl _ _).alloc (Nat.le_refl _) _⟩
  rw [← hw1]
  have K1 := Lib.hid k1
  have HB1 := Lib.hid hb1'
  clear k1 hb1' hw1
  refine (lapworkslaw07_long.calls kl e f A c ps bl w1 (Kd.C_below HC.out HB1.out) hc HL.out).mono ?_
  rintro en w2 ⟨rfl, hb⟩
  have HB2 := Lib.hid (HB1.out.trans (hb.mono HB1.out.size))
  have K2 := Lib.hid (blk_below K1.out hb)
  clear hb
  cases bl
  rotate_left
  · go_wp2_with fail
    refine (lapworkslaw07_alive.calls true _ rfl).mono ?_
    rintro en w3 ⟨rfl, hb3⟩
    go_wp2
    go_ret
    exact ⟨rfl, HB2.out.trans (hb3.mono HB2.out.size)⟩
  have q0 := blk_nth K2.out 0 rfl
  have q1 := blk_nth K2.out 1 rfl
  have q2 := blk_nth K2.out 2 rfl
  go_wp2_with fail
  clear q0 q1 q2
  refine (lapworksref07_Chase.calls kc e f A c ps _ w2 (Kd.C_below HC.out HB2.out) hc HCH.out).mono ?_
  rintro en w3 ⟨rfl, hb⟩
  have HB3 := Lib.hid (HB2.out.trans (hb.mono HB2.out.size))
  have K3 := Lib.hid (blk_below K2.out hb)
  clear hb
  have q0 := blk_nth K3.out 0 rfl
  have q1 := blk_nth K3.out 1 rfl
  have q2 := blk_nth K3.out 2 rfl
  have q2' := fun o => cell_alloc q2 o
  cases hv : vld e f ps
  · have hwr : chase_Wrong.f e f ps 0 = some (0, 1) := by simp [chase_Wrong.f, errWr, hv]
    clear hv q2'
    go_wp2_with fail
    clear q0 q1 q2
    refine (chase_Wrong.calls e f A c ps 0 0 1 w3 (Kd.C_below HC.out HB3.out) hc hwr).mono ?_
    rintro en w4 ⟨rfl, hb⟩
    have HB4 := Lib.hid (HB3.out.trans (hb.mono HB3.out.size))
    clear hb hwr
    go_wp2_with fail
    refine (lapworkslaw07_alive.calls true _ rfl).mono ?_
    rintro en w5 ⟨rfl, hb⟩
    go_wp2
    go_ret
    exact ⟨rfl, HB4.out.trans (hb.mono HB4.out.size)⟩
  have HV := Lib.hid hv
  clear hv
  obtain ⟨hn1, hn6, hf1, hfn⟩ := vld_len HV.out
  have he := vld_err HV.out
  obtain ⟨n1, rfl⟩ := Int.eq_ofNat_of_zero_le hb1.1
  obtain ⟨n2, rfl⟩ := Int.eq_ofNat_of_zero_le hb2.1
  obtain ⟨p, hp⟩ : ∃ p, p = n1 % ps.length := ⟨_, rfl⟩
  have hpl : p < ps.length := by rw [hp]; exact Nat.mod_lt _ (by omega)
  have hrem : (n1 : Int) % (ps.length : Int) = (p : Int) := by rw [hp]; exact (Int.natCast_emod _ _).symm
  have hlp := vld_row HV.out hpl
  have hbest := wrong_best he hlp
  obtain ⟨l1, l3, _⟩ := (okL_iff _).1 hlp
  have hwf : chase_Wrong.f e f ps (p : Int) = some (((wrongV e (ps.getD p []) : Nat) : Int), 0) := by
    have hip : isP ps (p : Int) = true := by unfold isP; simp; omega
    unfold chase_Wrong.f
    rw [if_pos (show errWr e f ps (isP ps (p : Int)) = 0 from by simp [errWr, HV.out, hip])]
    rfl
  have HP := Lib.hid hp
  have HLP := Lib.hid hlp
  have HBE := Lib.hid hbest
  have HWF := Lib.hid hwf
  have q0' := fun o => cell_alloc q0 o
  have q1' := fun o => cell_alloc q1 o
  clear hp hlp hbest hwf
  go_wp2_with fail
  clear q0 q1 q2 q0' q1' q2'
  obtain ⟨w4, hw4, kp, hb⟩ : ∃ w4, w4 = w3.alloc (.cells #[.int .i64 (p : Int)] 3) ∧ w4.heap[w3.heap.size]? = some (.cells #[.int .i64 (p : Int)] 3 (0, 0)) ∧ Below w3.heap.size w3 w4 := ⟨_, rfl, blk_new _ _, (Below.refl _ _).alloc (Nat.le_refl _) _⟩
  rw [← hw4]
  obtain ⟨bp, hbp⟩ : ∃ b, b = w3.heap.size := ⟨_, rfl⟩
  rw [← hbp] at kp ⊢
  have KP4 := Lib.hid kp
  have K4 := Lib.hid (blk_below K3.out hb)
  have HB4 := Lib.hid (HB3.out.trans (hb.mono HB3.out.size))
  clear kp hb hw4 hbp
  obtain ⟨wv, hwv⟩ : ∃ x, x = wrongV e (ps.getD p []) := ⟨_, rfl⟩
  rw [← hwv] at HBE HWF
  obtain ⟨lp, hlpe⟩ : ∃ x, x = ps.getD p [] := ⟨_, rfl⟩
  rw [← hlpe] at HBE HLP l1 l3
  obtain ⟨ev, hev⟩ : ∃ x, x = 2 ^ lp.length - 1 := ⟨_, rfl⟩
  obtain ⟨s1, s2⟩ := shl4i lp.length (by omega)
  rw [← hev] at s2
  have h8 : 2 ^ lp.length ≤ 8 := Nat.le_trans (Nat.pow_le_pow_right (by decide) l3) (by decide)
  have hwl : wv < ev := by rw [hev]; exact HBE.out.lt
  have hev7 : ev ≤ 7 := by omega
  have HLE := Lib.hid hlpe
  have HEV := Lib.hid hev
  have HRI := Lib.hid (fun (wx : World) (s : Nat) (hs : s < 8) (hb : Below w4.heap.size w4 wx) => right_any (bc := w.heap.size) (bp := bp) (e := e) (f := f) (A := A) (c := c) (p := p) (ps := ps) wx s hs (blk_below K4.out hb) (blk_below KP4.out hb) (Kd.C_below HC.out (HB4.out.trans (hb.mono HB4.out.size))) hpl he (by rw [← HLE.out]; exact HLP.out))
  rw [← hlpe] at HRI
  clear hwv hlpe hev h8
  refine (chase_Wrong.calls e f A c ps p wv 0 w4 (Kd.C_below HC.out HB4.out) hc HWF.out).mono ?_
  rintro en w5 ⟨rfl, hb⟩
  have HBX := Lib.hid hb
  have q2 := blk_nth (blk_below K4.out hb) 2 rfl
  have p0 := blk_nth (blk_below KP4.out hb) 0 rfl
  obtain ⟨ad, Al, cl0, rfl, hrow, hlc, hCl⟩ := row_at (Kd.C_below HC.out (HB4.out.trans (hb.mono HB4.out.size))) p hpl
  rw [← HLE.out] at hrow hlc hCl
  have HCl := Lib.hid hCl
  have HROW := Lib.hid hrow
  have dw1 : decide (ev ≤ wv) = false := decide_eq_false (by omega)
  have dw2 : decide ((wv : Int) < 0) = false := decide_eq_false (by omega)
  clear hb hCl
  go_wp2_with fail
  refine (HRI.out w5 wv (by omega) HBX.out).mono ?_
  rw [HBE.out.ok]
  rintro en w6 ⟨rfl, hb⟩
  have HB6 := Lib.hid (HBX.out.trans (hb.mono HBX.out.size))
  have q2 := blk_nth (blk_below K4.out HB6.out) 2 rfl
  have p0 := blk_nth (blk_below KP4.out HB6.out) 0 rfl
  have hrow := (hb.cell (p := ad.add p) (lt_of_cell HROW.out)).trans HROW.out
  have HROW6 := Lib.hid hrow
  clear hb
  go_wp2_with fail
  go_loopw [87] (fun i wr => ∃ k : Nat, i = .int .i64 k ∧ k ≤ lp.length ∧ Hid (Below w6.heap.size w6 wr)) (fun i _ => lp.length - (intOf i).toNat)
  case atStart => exact ⟨0, rfl, Nat.zero_le _, Below.refl _ _⟩
  case round =>
    obtain ⟨k, rfl, hk, HBR⟩ := hrel
    by_cases hkl : k < lp.length
    · have han := and3i wv k (by omega) (by omega)
      have hm := Nat.mod_two_eq_zero_or_one (wv / 2 ^ k)
      have hbt := bit3 wv k
      obtain ⟨t1, t2⟩ := shl4i k (by omega)
      have hnn := andn3 wv (by omega) k (by omega)
      obtain ⟨q, hq⟩ : ∃ q, q = wv / 2 ^ k % 2 := ⟨_, rfl⟩
      simp only [← hq] at han hm hbt
      clear hq t2
      rcases hm with rfl | rfl
      · clear hnn hbt
        go_wp2
        exact ⟨⟨k + 1, by go_num, by omega, HBR⟩, by simp [intOf]; omega⟩
      · have hbit : wv.testBit k = true := by rw [hbt]; rfl
        have hnn' := hnn hbit
        have HLS := Lib.hid (HBE.out.less k hkl hbit)
        clear hnn hbt hbit
        go_wp2_with fail
        refine (HRI.out wr (wv - 2 ^ k) (Nat.lt_of_le_of_lt (Nat.sub_le _ _) (by omega)) (HB6.out.trans (HBR.out.mono HB6.out.size))).mono ?_
        rw [HLS.out]
        rintro en w7 ⟨rfl, hb⟩
        have HB7 := Lib.hid (HBR.out.trans (hb.mono HBR.out.size))
        clear hb hnn' t1 han
        go_wp2
        exact ⟨⟨k + 1, by go_num, by omega, HB7⟩, by simp [intOf]; omega⟩
    · obtain rfl : k = lp.length := by omega
      have hae := and_ev n2 (by omega) lp.length (by omega)
      rw [← HEV.out] at hae
      obtain ⟨own, hown⟩ : ∃ x, x = n2 % 2 ^ lp.length := ⟨_, rfl⟩
      rw [← hown] at hae
      have hol : own < 2 ^ lp.length := by rw [hown]; exact Nat.mod_lt _ (Nat.two_pow_pos _)
      have ho8 : own < 8 := Nat.lt_of_lt_of_le hol (Nat.le_trans (Nat.pow_le_pow_right (by decide) l3) (by decide))
      have HBB := Lib.hid (HBE.out.best own hol)
      have HBR6 := Lib.hid (HB6.out.trans (HBR.out.mono HB6.out.size))
      clear hown hol
      go_wp2_with fail
      clear hae
      refine (HRI.out wr own ho8 HBR6.out).mono ?_
      rintro en w7 ⟨rfl, hb⟩
      have HB7 := Lib.hid (HBR6.out.trans (hb.mono HBR6.out.size))
      clear hb
      cases hob : okBut e lp own
      · clear hob
        have HBL := HB7
        have q2 := blk_nth (blk_below K4.out HBL.out) 2 rfl
        go_wp2_with fail
        clear q2
        obtain ⟨wo, rfl⟩ : ∃ wo : World, wo = w7 := ⟨_, rfl⟩
        go_loopw [137, 17] (fun i v wr => ∃ k : Nat, i = .int .i64 k ∧ k ≤ ps.length ∧ v = .bool (noneTo e ps k) ∧ Hid (Below wo.heap.size wo wr)) (fun i _ _ => ps.length - (intOf i).toNat)
        case atStart => exact ⟨0, rfl, Nat.zero_le _, rfl, Below.refl _ _⟩
        case round =>
          obtain ⟨k, rfl, hk, rfl, HBR2⟩ := hrel
          have HBY := Lib.hid (HBL.out.trans (HBR2.out.mono HBL.out.size))
          have hns := noneTo_succ e ps k
          by_cases hkl : k < ps.length
          · have hwf : chase_Wrong.f e f ps (k : Int) = some (((wrongV e (ps.getD k []) : Nat) : Int), 0) := by
              have hip : isP ps (k : Int) = true := by unfold isP; simp; omega
              unfold chase_Wrong.f
              rw [if_pos (show errWr e f ps (isP ps (k : Int)) = 0 from by simp [errWr, HV.out, hip])]
              rfl
            obtain ⟨wq, hwq⟩ : ∃ x, x = wrongV e (ps.getD k []) := ⟨_, rfl⟩
            obtain ⟨nb, hnb⟩ : ∃ x, x = noneTo e ps k := ⟨_, rfl⟩
            rw [← hwq] at hwf hns
            rw [← hnb] at hns ⊢
            have HWQ := Lib.hid hwf
            have HNS := Lib.hid hns
            have q0 := blk_nth (blk_below K4.out HBY.out) 0 rfl
            have q1 := blk_nth (blk_below K4.out HBY.out) 1 rfl
            have q2 := blk_nth (blk_below K4.out HBY.out) 2 rfl
            clear hwq hnb hwf hns
            go_wp2_with fail
            clear q0 q1 q2
            refine (chase_Wrong.calls e f (some ad) c ps k wq 0 wr (Kd.C_below HC.out (HB4.out.trans (HBY.out.mono HB4.out.size))) hc HWQ.out).mono ?_
            rintro en w9 ⟨rfl, hb⟩
            have HB9 := Lib.hid (HBR2.out.trans (hb.mono HBR2.out.size))
            clear hb
            cases nb
            · go_wp2
              exact ⟨⟨k + 1, by go_num, by omega, by rw [HNS.out]; rfl, HB9⟩, by simp [intOf]; omega⟩
            · by_cases hz : wq = 0
              · subst hz
                go_wp2
                exact ⟨⟨k + 1, by go_num, by omega, by rw [HNS.out]; rfl, HB9⟩, by simp [intOf]; omega⟩
              · have z1 : ((wq : Int) == 0) = false := by simpa using hz
                have z2 : (wq == 0) = false := by simpa using hz
                have z3 : decide (wq = 0) = false := by simpa using hz
                have HZ := Lib.hid z3
                clear hz
                go_wp2
                exact ⟨⟨k + 1, by go_num, by omega, by rw [HNS.out, HZ.out]; rfl, HB9⟩, by simp [intOf]; omega⟩
          · obtain rfl : k = ps.length := by omega
            have hnb := none_bad HV.out
            obtain ⟨bd, hbd⟩ : ∃ x, x = bad (clks e ps) := ⟨_, rfl⟩
            rw [← hbd] at hnb
            have hor : ∃ m, chase_Orders.f e f ps = some (m, if bd = true then 10 else 0) := by
              unfold chase_Orders.f
              have h1 : errOf e f ps true = if bd = true then 10 else 0 := by simp [errOf, HV.out, ← hbd]
              rw [h1]
              cases bd
              · exact ⟨_, rfl⟩
              · exact ⟨_, rfl⟩
            obtain ⟨m, hor⟩ := hor
            have HOR := Lib.hid hor
            rw [hnb]
            have q0 := blk_nth (blk_below K4.out HBY.out) 0 rfl
            have q1 := blk_nth (blk_below K4.out HBY.out) 1 rfl
            have q2 := blk_nth (blk_below K4.out HBY.out) 2 rfl
            clear hns hbd hnb hor
            go_wp2_with fail
            clear q0 q1 q2
            refine (chase_Orders.calls e f (some ad) c ps m (if bd = true then 10 else 0) wr (Kd.C_below HC.out (HB4.out.trans (HBY.out.mono HB4.out.size))) hc HOR.out).mono ?_
            rintro en w9 ⟨rfl, hb⟩
            have HB9 := Lib.hid (HB4.out.trans ((HBY.out.trans (hb.mono HBY.out.size)).mono HB4.out.size))
            clear hb
            cases bd
            · go_wp2_with fail
              refine (lapworkslaw07_alive.calls true _ rfl).mono ?_
              rintro en w10 ⟨rfl, hb⟩
              go_wp2
              go_ret
              exact ⟨rfl, HB9.out.trans (hb.mono HB9.out.size)⟩
            · go_wp2_with fail
              refine (lapworkslaw07_alive.calls true _ rfl).mono ?_
              rintro en w10 ⟨rfl, hb⟩
              go_wp2
              go_ret
              exact ⟨rfl, HB9.out.trans (hb.mono HB9.out.size)⟩
      · have hbb := HBB.out hob
        have z1 := size_f own ho8
        have z2 := size_f wv (by omega)
        obtain ⟨po, hpo⟩ : ∃ x, x = pop3 own := ⟨_, rfl⟩
        obtain ⟨pw, hpw⟩ : ∃ x, x = pop3 wv := ⟨_, rfl⟩
        rw [← hpo, ← hpw] at hbb
        rw [← hpo] at z1
        rw [← hpw] at z2
        have Z1 := Lib.hid z1
        have Z2 := Lib.hid z2
        clear hob z1 z2 hpo hpw
        have d1 : decide (po < pw) = false := decide_eq_false (by omega)
        by_cases hpp : po = pw
        · have d2 : decide (own < wv) = false := decide_eq_false (by omega)
          subst hpp
          clear hbb
          go_wp2_with fail
          refine (lapworksref07_Size.calls 9 _ _ _ Z1.out).mono ?_
          rintro en wx ⟨rfl, hb⟩
          have hb := hb.below
          have HBL := Lib.hid (HB7.out.trans (hb.mono HB7.out.size))
          clear hb
          go_wp2_with fail
          refine (lapworksref07_Size.calls 9 _ _ _ Z2.out).mono ?_
          rintro en wx ⟨rfl, hb⟩
          have hb := hb.below
          have HBL := Lib.hid (HBL.out.trans (hb.mono HBL.out.size))
          clear hb
          go_wp2_with fail
          refine (lapworksref07_Size.calls 9 _ _ _ Z1.out).mono ?_
          rintro en wx ⟨rfl, hb⟩
          have hb := hb.below
          have HBL := Lib.hid (HBL.out.trans (hb.mono HBL.out.size))
          clear hb
          go_wp2_with fail
          refine (lapworksref07_Size.calls 9 _ _ _ Z2.out).mono ?_
          rintro en wx ⟨rfl, hb⟩
          have hb := hb.below
          have HBL := Lib.hid (HBL.out.trans (hb.mono HBL.out.size))
          clear hb
          have q2 := blk_nth (blk_below K4.out HBL.out) 2 rfl
          go_wp2_with fail
          clear q2
          obtain ⟨wo, rfl⟩ : ∃ wo : World, wo = wx := ⟨_, rfl⟩
          go_loopw [137, 17] (fun i v wr => ∃ k : Nat, i = .int .i64 k ∧ k ≤ ps.length ∧ v = .bool (noneTo e ps k) ∧ Hid (Below wo.heap.size wo wr)) (fun i _ _ => ps.length - (intOf i).toNat)
          case atStart => exact ⟨0, rfl, Nat.zero_le _, rfl, Below.refl _ _⟩
          case round =>
            obtain ⟨k, rfl, hk, rfl, HBR2⟩ := hrel
            have HBY := Lib.hid (HBL.out.trans (HBR2.out.mono HBL.out.size))
            have hns := noneTo_succ e ps k
            by_cases hkl : k < ps.length
            · have hwf : chase_Wrong.f e f ps (k : Int) = some (((wrongV e (ps.getD k []) : Nat) : Int), 0) := by
                have hip : isP ps (k : Int) = true := by unfold isP; simp; omega
                unfold chase_Wrong.f
                rw [if_pos (show errWr e f ps (isP ps (k : Int)) = 0 from by simp [errWr, HV.out, hip])]
                rfl
              obtain ⟨wq, hwq⟩ : ∃ x, x = wrongV e (ps.getD k []) := ⟨_, rfl⟩
              obtain ⟨nb, hnb⟩ : ∃ x, x = noneTo e ps k := ⟨_, rfl⟩
              rw [← hwq] at hwf hns
              rw [← hnb] at hns ⊢
              have HWQ := Lib.hid hwf
              have HNS := Lib.hid hns
              have q0 := blk_nth (blk_below K4.out HBY.out) 0 rfl
              have q1 := blk_nth (blk_below K4.out HBY.out) 1 rfl
              have q2 := blk_nth (blk_below K4.out HBY.out) 2 rfl
              clear hwq hnb hwf hns
              go_wp2_with fail
              clear q0 q1 q2
              refine (chase_Wrong.calls e f (some ad) c ps k wq 0 wr (Kd.C_below HC.out (HB4.out.trans (HBY.out.mono HB4.out.size))) hc HWQ.out).mono ?_
              rintro en w9 ⟨rfl, hb⟩
              have HB9 := Lib.hid (HBR2.out.trans (hb.mono HBR2.out.size))
              clear hb
              cases nb
              · go_wp2
                exact ⟨⟨k + 1, by go_num, by omega, by rw [HNS.out]; rfl, HB9⟩, by simp [intOf]; omega⟩
              · by_cases hz : wq = 0
                · subst hz
                  go_wp2
                  exact ⟨⟨k + 1, by go_num, by omega, by rw [HNS.out]; rfl, HB9⟩, by simp [intOf]; omega⟩
                · have z1 : ((wq : Int) == 0) = false := by simpa using hz
                  have z2 : (wq == 0) = false := by simpa using hz
                  have z3 : decide (wq = 0) = false := by simpa using hz
                  have HZ := Lib.hid z3
                  clear hz
                  go_wp2
                  exact ⟨⟨k + 1, by go_num, by omega, by rw [HNS.out, HZ.out]; rfl, HB9⟩, by simp [intOf]; omega⟩
            · obtain rfl : k = ps.length := by omega
              have hnb := none_bad HV.out
              obtain ⟨bd, hbd⟩ : ∃ x, x = bad (clks e ps) := ⟨_, rfl⟩
              rw [← hbd] at hnb
              have hor : ∃ m, chase_Orders.f e f ps = some (m, if bd = true then 10 else 0) := by
                unfold chase_Orders.f
                have h1 : errOf e f ps true = if bd = true then 10 else 0 := by simp [errOf, HV.out, ← hbd]
                rw [h1]
                cases bd
                · exact ⟨_, rfl⟩
                · exact ⟨_, rfl⟩
              obtain ⟨m, hor⟩ := hor
              have HOR := Lib.hid hor
              rw [hnb]
              have q0 := blk_nth (blk_below K4.out HBY.out) 0 rfl
              have q1 := blk_nth (blk_below K4.out HBY.out) 1 rfl
              have q2 := blk_nth (blk_below K4.out HBY.out) 2 rfl
              clear hns hbd hnb hor
              go_wp2_with fail
              clear q0 q1 q2
              refine (chase_Orders.calls e f (some ad) c ps m (if bd = true then 10 else 0) wr (Kd.C_below HC.out (HB4.out.trans (HBY.out.mono HB4.out.size))) hc HOR.out).mono ?_
              rintro en w9 ⟨rfl, hb⟩
              have HB9 := Lib.hid (HB4.out.trans ((HBY.out.trans (hb.mono HBY.out.size)).mono HB4.out.size))
              clear hb
              cases bd
              · go_wp2_with fail
                refine (lapworkslaw07_alive.calls true _ rfl).mono ?_
                rintro en w10 ⟨rfl, hb⟩
                go_wp2
                go_ret
                exact ⟨rfl, HB9.out.trans (hb.mono HB9.out.size)⟩
              · go_wp2_with fail
                refine (lapworkslaw07_alive.calls true _ rfl).mono ?_
                rintro en w10 ⟨rfl, hb⟩
                go_wp2
                go_ret
                exact ⟨rfl, HB9.out.trans (hb.mono HB9.out.size)⟩
        · have d2 : ((po : Int) == (pw : Int)) = false := beq_eq_false_iff_ne.2 (by omega)
          have d3 : (po == pw) = false := by simpa using hpp
          have d4 : decide (po = pw) = false := decide_eq_false hpp
          clear hbb hpp
          go_wp2_with fail
          refine (lapworksref07_Size.calls 9 _ _ _ Z1.out).mono ?_
          rintro en wx ⟨rfl, hb⟩
          have hb := hb.below
          have HBL := Lib.hid (HB7.out.trans (hb.mono HB7.out.size))
          clear hb
          go_wp2_with fail
          refine (lapworksref07_Size.calls 9 _ _ _ Z2.out).mono ?_
          rintro en wx ⟨rfl, hb⟩
          have hb := hb.below
          have HBL := Lib.hid (HBL.out.trans (hb.mono HBL.out.size))
          clear hb
          go_wp2_with fail
          refine (lapworksref07_Size.calls 9 _ _ _ Z1.out).mono ?_
          rintro en wx ⟨rfl, hb⟩
          have hb := hb.below
          have HBL := Lib.hid (HBL.out.trans (hb.mono HBL.out.size))
          clear hb
          go_wp2_with fail
          refine (lapworksref07_Size.calls 9 _ _ _ Z2.out).mono ?_
          rintro en wx ⟨rfl, hb⟩
          have hb := hb.below
          have HBL := Lib.hid (HBL.out.trans (hb.mono HBL.out.size))
          clear hb
          have q2 := blk_nth (blk_below K4.out HBL.out) 2 rfl
          go_wp2_with fail
          clear q2
          obtain ⟨wo, rfl⟩ : ∃ wo : World, wo = wx := ⟨_, rfl⟩
          go_loopw [137, 17] (fun i v wr => ∃ k : Nat, i = .int .i64 k ∧ k ≤ ps.length ∧ v = .bool (noneTo e ps k) ∧ Hid (Below wo.heap.size wo wr)) (fun i _ _ => ps.length - (intOf i).toNat)
          case atStart => exact ⟨0, rfl, Nat.zero_le _, rfl, Below.refl _ _⟩
          case round =>
            obtain ⟨k, rfl, hk, rfl, HBR2⟩ := hrel
            have HBY := Lib.hid (HBL.out.trans (HBR2.out.mono HBL.out.size))
            have hns := noneTo_succ e ps k
            by_cases hkl : k < ps.length
            · have hwf : chase_Wrong.f e f ps (k : Int) = some (((wrongV e (ps.getD k []) : Nat) : Int), 0) := by
                have hip : isP ps (k : Int) = true := by unfold isP; simp; omega
                unfold chase_Wrong.f
                rw [if_pos (show errWr e f ps (isP ps (k : Int)) = 0 from by simp [errWr, HV.out, hip])]
                rfl
              obtain ⟨wq, hwq⟩ : ∃ x, x = wrongV e (ps.getD k []) := ⟨_, rfl⟩
              obtain ⟨nb, hnb⟩ : ∃ x, x = noneTo e ps k := ⟨_, rfl⟩
              rw [← hwq] at hwf hns
              rw [← hnb] at hns ⊢
              have HWQ := Lib.hid hwf
              have HNS := Lib.hid hns
              have q0 := blk_nth (blk_below K4.out HBY.out) 0 rfl
              have q1 := blk_nth (blk_below K4.out HBY.out) 1 rfl
              have q2 := blk_nth (blk_below K4.out HBY.out) 2 rfl
              clear hwq hnb hwf hns
              go_wp2_with fail
              clear q0 q1 q2
              refine (chase_Wrong.calls e f (some ad) c ps k wq 0 wr (Kd.C_below HC.out (HB4.out.trans (HBY.out.mono HB4.out.size))) hc HWQ.out).mono ?_
              rintro en w9 ⟨rfl, hb⟩
              have HB9 := Lib.hid (HBR2.out.trans (hb.mono HBR2.out.size))
              clear hb
              cases nb
              · go_wp2
                exact ⟨⟨k + 1, by go_num, by omega, by rw [HNS.out]; rfl, HB9⟩, by simp [intOf]; omega⟩
              · by_cases hz : wq = 0
                · subst hz
                  go_wp2
                  exact ⟨⟨k + 1, by go_num, by omega, by rw [HNS.out]; rfl, HB9⟩, by simp [intOf]; omega⟩
                · have z1 : ((wq : Int) == 0) = false := by simpa using hz
                  have z2 : (wq == 0) = false := by simpa using hz
                  have z3 : decide (wq = 0) = false := by simpa using hz
                  have HZ := Lib.hid z3
                  clear hz
                  go_wp2
                  exact ⟨⟨k + 1, by go_num, by omega, by rw [HNS.out, HZ.out]; rfl, HB9⟩, by simp [intOf]; omega⟩
            · obtain rfl : k = ps.length := by omega
              have hnb := none_bad HV.out
              obtain ⟨bd, hbd⟩ : ∃ x, x = bad (clks e ps) := ⟨_, rfl⟩
              rw [← hbd] at hnb
              have hor : ∃ m, chase_Orders.f e f ps = some (m, if bd = true then 10 else 0) := by
                unfold chase_Orders.f
                have h1 : errOf e f ps true = if bd = true then 10 else 0 := by simp [errOf, HV.out, ← hbd]
                rw [h1]
                cases bd
                · exact ⟨_, rfl⟩
                · exact ⟨_, rfl⟩
              obtain ⟨m, hor⟩ := hor
              have HOR := Lib.hid hor
              rw [hnb]
              have q0 := blk_nth (blk_below K4.out HBY.out) 0 rfl
              have q1 := blk_nth (blk_below K4.out HBY.out) 1 rfl
              have q2 := blk_nth (blk_below K4.out HBY.out) 2 rfl
              clear hns hbd hnb hor
              go_wp2_with fail
              clear q0 q1 q2
              refine (chase_Orders.calls e f (some ad) c ps m (if bd = true then 10 else 0) wr (Kd.C_below HC.out (HB4.out.trans (HBY.out.mono HB4.out.size))) hc HOR.out).mono ?_
              rintro en w9 ⟨rfl, hb⟩
              have HB9 := Lib.hid (HB4.out.trans ((HBY.out.trans (hb.mono HBY.out.size)).mono HB4.out.size))
              clear hb
              cases bd
              · go_wp2_with fail
                refine (lapworkslaw07_alive.calls true _ rfl).mono ?_
                rintro en w10 ⟨rfl, hb⟩
                go_wp2
                go_ret
                exact ⟨rfl, HB9.out.trans (hb.mono HB9.out.size)⟩
              · go_wp2_with fail
                refine (lapworkslaw07_alive.calls true _ rfl).mono ?_
                rintro en w10 ⟨rfl, hb⟩
                go_wp2
                go_ret
                exact ⟨rfl, HB9.out.trans (hb.mono HB9.out.size)⟩
end Go.Proofs.Ytihfmphaajdhnaa.P
