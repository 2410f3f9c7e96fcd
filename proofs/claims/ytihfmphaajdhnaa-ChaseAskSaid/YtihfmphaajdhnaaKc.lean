import Derived.Test.YtihfmphaajdhnaaKb
/-! The law ChaseAsk: its walk. -/
namespace Go.Proofs.Ytihfmphaajdhnaa.P
open Go.RowKit Go.Proofs.YtihfmphaajdhnaaW.PrintWords Go.Proofs.YtihfmphaajdhnaaW.PrintLast Go.Proofs.YtihfmphaajdhnaaW.PrintMore Go.Proofs.Ytihfmphaajdhnaa.Th
set_option linter.unusedVariables false
set_option linter.unusedSimpArgs false

theorem ask_cases {e f : Int} {ps : List (List Int)} (hv : vld e f ps = true) (hb : bad (clks e ps) = false) :
    (settledOf f (clks e ps) = true ∧ chase_Ask.f e f ps = some (0, 11)) ∨
    (settledOf f (clks e ps) = false ∧ ∃ p : Nat, chase_Ask.f e f ps = some ((p : Int), 0) ∧ p < ps.length ∧ settlesOf f (clks e ps) p = true ∧ ∀ j, j < p → settlesOf f (clks e ps) j = false) ∨
    (settledOf f (clks e ps) = false ∧ chase_Ask.f e f ps = some (0, 4) ∧ ∀ j, j < ps.length → settlesOf f (clks e ps) j = false) := by
  have h0 : errOf e f ps true = 0 := by simp [errOf, hv, hb]
  have hlen := clks_len e ps
  unfold chase_Ask.f
  rw [if_pos h0]
  cases hs : settledOf f (clks e ps)
  · right
    cases ha : askOf f (clks e ps) with
    | none =>
      right
      refine ⟨rfl, by simp, fun j hj => ?_⟩
      unfold askOf at ha
      rw [List.find?_eq_none] at ha
      simpa using ha j (List.mem_range.2 (by omega))
    | some p =>
      left
      unfold askOf at ha
      rw [List.find?_range_eq_some] at ha
      obtain ⟨h1, h2, h3⟩ := ha
      have := List.mem_range.1 h2
      exact ⟨rfl, p, by simp, by omega, h1, fun j hj => by simpa using h3 j hj⟩
  · left
    exact ⟨rfl, by simp⟩

set_option maxHeartbeats 4000000 in
set_option maxRecDepth 100000 in
theorem ChaseAsk_any (e f : Int) (A : Option Addr) (c : Nat) (ps : List (List Int)) (b1 : Int) (w : World) (hC : Kd.C (Kd.slice 3 (Kd.int .i64)) w A ps.length ps) (hc : ps.length ≤ c) (hb1 : 0 ≤ b1 ∧ b1 ≤ 255) :
    Calls Try.prog 8 #[.agg #[.int .i64 e, .int .i64 f, .slice A ps.length c], .int .u8 b1] w fun en w' => en = .returned (.bool true) ∧ Below w.heap.size w w' := by
  have hmf : ∀ (fn : Fn) (first cap : Array Value) (w : World), (Instr.makeFunc fn first cap).run Try.prog w = .ok (.func fn first cap) w := fun _ _ _ _ => rfl
  have hstf : ∀ (a : Addr) (fn : Fn) (x y : Array Value) (m : Mode) (w : World), (store a (.func fn x y) m).run Try.prog w = stored Try.prog w a (.func fn x y) m := fun a fn x y m w => run_store Try.prog w a _ m rfl
  obtain ⟨kl, bl, hlong⟩ := long_ex e f ps (C_len hC).2
  obtain ⟨kc, hchase⟩ := chase_ex e f ps
  have HC := Lib.hid hC
  have HL := Lib.hid hlong
  have HCH := Lib.hid hchase
  clear hC hlong hchase
  go_enter Try.func8, Try.ntmps8
  go_wp2_with fail
  obtain ⟨w1, hw1, k1, hb1'⟩ : ∃ w1, w1 = w.alloc (.cells #[.int .i64 e, .int .i64 f, .slice A ps.length c] 32) ∧ w1.heap[w.heap.size]? = some (.cells #[.int .i64 e, .int .i64 f, .slice A ps.length c] 32 (0, 0)) ∧ Below w.heap.size w w1 := ⟨_, rfl, blk_new _ _, (Below.refl _ _).alloc (Nat.le_refl _) _⟩
  rw [← hw1]
  have K1 := Lib.hid k1
  have HB1 := Lib.hid hb1'
  clear k1 hb1' hw1
  refine (lapworkslaw07_long.calls kl e f A c ps bl w1 (Kd.C_below HC.out HB1.out) hc HL.out).mono ?_
  rintro en w2 ⟨rfl, hb⟩
  have HB2 := Lib.hid (HB1.out.trans (hb.mono HB1.out.size))
  have K2 := Lib.hid (blk_below K1.out hb)
  clear hb
  cases bl
  rotate_left
  · go_wp2_with fail
    refine (lapworkslaw07_alive.calls true _ rfl).mono ?_
    rintro en w3 ⟨rfl, hb3⟩
    go_wp2
    go_ret
    exact ⟨rfl, HB2.out.trans (hb3.mono HB2.out.size)⟩
  have q0 := blk_nth K2.out 0 rfl
  have q1 := blk_nth K2.out 1 rfl
  have q2 := blk_nth K2.out 2 rfl
  go_wp2_with fail
  clear q0 q1 q2
  refine (lapworksref07_Chase.calls kc e f A c ps _ w2 (Kd.C_below HC.out HB2.out) hc HCH.out).mono ?_
  rintro en w3 ⟨rfl, hb⟩
  have HB3 := Lib.hid (HB2.out.trans (hb.mono HB2.out.size))
  have K3 := Lib.hid (blk_below K2.out hb)
  clear hb
  cases hv : vld e f ps
  · clear hv
    go_wp2_with fail
    refine (lapworkslaw07_alive.calls true _ rfl).mono ?_
    rintro en w4 ⟨rfl, hb4⟩
    go_wp2
    go_ret
    exact ⟨rfl, HB3.out.trans (hb4.mono HB3.out.size)⟩
  have HV := Lib.hid hv
  clear hv
  obtain ⟨hn1, hn6, hf1, hfn⟩ := vld_len HV.out
  obtain ⟨n1, rfl⟩ := Int.eq_ofNat_of_zero_le hb1.1
  obtain ⟨p, hp⟩ : ∃ p, p = n1 % ps.length := ⟨_, rfl⟩
  have hpl : p < ps.length := by rw [hp]; exact Nat.mod_lt _ (by omega)
  have hrem : (n1 : Int) % (ps.length : Int) = (p : Int) := by rw [hp]; exact (Int.natCast_emod _ _).symm
  have HREM := Lib.hid hrem
  clear hp hrem
  have q2 := blk_nth K3.out 2 rfl
  go_wp2_with fail
  clear q2
  go_loopw [27] (fun i wr => ∃ k : Nat, i = .int .i64 k ∧ k ≤ ps.length ∧ Hid (∀ j, j < k → ∀ n ∈ ps.getD j [], 10 ≤ n ∧ n ≤ 190) ∧ Hid (Below w3.heap.size w3 wr)) (fun i _ => ps.length - (intOf i).toNat)
  case atStart => exact ⟨0, rfl, Nat.zero_le _, fun j hj => absurd hj (by omega), Below.refl _ _⟩
  case round =>
    obtain ⟨k, rfl, hk, HO, HBR⟩ := hrel
    have HBW := Lib.hid (HB3.out.trans (HBR.out.mono HB3.out.size))
    by_cases hkl : k < ps.length
    · obtain ⟨ad, Al, cl0, rfl, hrow, hlc, hCl⟩ := row_at (Kd.C_below HC.out HBW.out) k hkl
      have h3 := ((okL_iff _).1 (vld_row HV.out hkl)).2.1
      have HK := Lib.hid (fun (h : ∀ n ∈ ps.getD k [], 10 ≤ n ∧ n ≤ 190) (j : Nat) (hj : j < k + 1) => show ∀ n ∈ ps.getD j [], 10 ≤ n ∧ n ≤ 190 from by
        rcases Nat.lt_succ_iff_lt_or_eq.1 hj with hj | rfl
        · exact HO.out j hj
        · exact h)
      obtain ⟨l, hl⟩ : ∃ l, l = ps.getD k [] := ⟨_, rfl⟩
      rw [← hl] at hrow hlc hCl h3 HK
      have HCL := Lib.hid hCl
      clear hCl hl
      go_wp2_with fail
      go_loopw [33] (fun i wx => ∃ m : Nat, i = .int .i64 m ∧ m ≤ l.length ∧ Hid (∀ n ∈ l.take m, 10 ≤ n ∧ n ≤ 190) ∧ Hid (Below wr.heap.size wr wx)) (fun i _ => l.length - (intOf i).toNat)
      case atStart => exact ⟨0, rfl, Nat.zero_le _, fun n hn => by simp at hn, Below.refl _ _⟩
      case round =>
        obtain ⟨m, rfl, hm, HI, HBX⟩ := hrel
        have HBY := Lib.hid (HBW.out.trans (HBX.out.mono HBW.out.size))
        by_cases hml : m < l.length
        · obtain ⟨al, hal, hcl⟩ := int_at (Kd.C_below HCL.out HBX.out) m hml
          have htk : l.take (m + 1) = l.take m ++ [l.getD m 0] := by
            rw [List.take_add_one, List.getD_eq_getElem?_getD, List.getElem?_eq_getElem hml]; rfl
          subst hal
          obtain ⟨x, hx⟩ : ∃ x, x = l.getD m 0 := ⟨_, rfl⟩
          rw [← hx] at hcl htk
          have HTK := Lib.hid htk
          clear hx htk
          by_cases hx1 : x < 10
          · have d1 : decide (x < 10) = true := decide_eq_true hx1
            go_wp2_with fail
            refine (lapworkslaw07_alive.calls true _ rfl).mono ?_
            rintro en w4 ⟨rfl, hb4⟩
            go_wp2
            go_ret
            exact ⟨rfl, HBY.out.trans (hb4.mono HBY.out.size)⟩
          have d1 : decide (x < 10) = false := decide_eq_false hx1
          by_cases hx2 : 190 < x
          · have d2 : decide (x > 190) = true := decide_eq_true hx2
            go_wp2_with fail
            refine (lapworkslaw07_alive.calls true _ rfl).mono ?_
            rintro en w4 ⟨rfl, hb4⟩
            go_wp2
            go_ret
            exact ⟨rfl, HBY.out.trans (hb4.mono HBY.out.size)⟩
          have d2 : decide (x > 190) = false := decide_eq_false hx2
          go_wp2
          refine ⟨⟨m + 1, by go_num, by omega, ?_, HBX⟩, by simp [intOf]; omega⟩
          rw [HTK.out]
          intro n hn
          rcases List.mem_append.1 hn with hn | hn
          · exact HI.out n hn
          · simp at hn; omega
        · obtain rfl : m = l.length := by omega
          have HI' := Lib.hid (HK.out (by have h := HI.out; rw [List.take_length] at h; exact h))
          clear hrow
          go_wp2
          exact ⟨⟨k + 1, by go_num, by omega, HI', HBR.out.trans (HBX.out.mono HBR.out.size)⟩, by simp [intOf]; omega⟩
    · obtain rfl : k = ps.length := by omega
      have HIN := Lib.hid (show Inner ps from HO.out)
      have K := Lib.hid (blk_below K3.out HBR.out)
      have q0 := fun o => cell_alloc (blk_nth K.out 0 rfl) o
      have q1 := fun o => cell_alloc (blk_nth K.out 1 rfl) o
      have q2 := fun o => cell_alloc (blk_nth K.out 2 rfl) o
      have hrem := HREM.out
      go_wp2_with fail
      clear q0 q1 q2
      obtain ⟨w4, hw4, k4, hb⟩ : ∃ w4, w4 = wr.alloc (.cells #[.func (.func 33) #[] #[]] 52) ∧ w4.heap[wr.heap.size]? = some (.cells #[.func (.func 33) #[] #[]] 52 (0, 0)) ∧ Below wr.heap.size wr w4 := ⟨_, rfl, blk_new _ _, (Below.refl _ _).alloc (Nat.le_refl _) _⟩
      rw [← hw4]
      obtain ⟨bs, hbs⟩ : ∃ b, b = wr.heap.size := ⟨_, rfl⟩
      rw [← hbs] at k4 ⊢
      have KS4 := Lib.hid k4
      have K4 := Lib.hid (blk_below K.out hb)
      have HB4 := Lib.hid (HBW.out.trans (hb.mono HBW.out.size))
      clear k4 hb hw4 hbs
      cases hbad : bad (clks e ps)
      rotate_left
      · have hca : chase_Ask.f e f ps = some (0, 10) := by simp [chase_Ask.f, errOf, HV.out, hbad]
        have hcut : chase_Cut.f e f ps = some (0, 0, 10) := by simp [chase_Cut.f, errOf, HV.out, hbad]
        have HCUT := Lib.hid hcut
        clear hbad hcut
        have HCA := Lib.hid hca
        clear hca
        refine (chase_Ask.calls e f A c ps 0 10 w4 (Kd.C_below HC.out HB4.out) hc HCA.out).mono ?_
        rintro en w5 ⟨rfl, hb⟩
        have HB5 := Lib.hid hb
        clear hb
        have q0 := blk_nth (blk_below K4.out HB5.out) 0 rfl
        have q1 := blk_nth (blk_below K4.out HB5.out) 1 rfl
        have q2 := blk_nth (blk_below K4.out HB5.out) 2 rfl
        go_wp2_with fail
        clear q0 q1 q2
        refine (chase_Cut.calls e f A c ps 0 0 10 w5 (Kd.C_below HC.out (HB4.out.trans (HB5.out.mono HB4.out.size))) hc HCUT.out).mono ?_
        rintro en w6 ⟨rfl, hb⟩
        have HB6 := Lib.hid (HB5.out.trans (hb.mono HB5.out.size))
        clear hb
        have q0 := fun o => cell_alloc (blk_nth (blk_below K4.out HB6.out) 0 rfl) o
        have q1 := fun o => cell_alloc (blk_nth (blk_below K4.out HB6.out) 1 rfl) o
        have q2 := fun o => cell_alloc (blk_nth (blk_below K4.out HB6.out) 2 rfl) o
        have s0 := fun o => cell_alloc (blk_nth (blk_below KS4.out HB6.out) 0 rfl) o
        go_wp2_with fail
        clear q0 q1 q2 s0
        obtain ⟨w7, hw7, hb⟩ : ∃ w7, w7 = w6.alloc (.cells #[.int .i64 0, .int .i64 0] 23) ∧ Below w6.heap.size w6 w7 := ⟨_, rfl, (Below.refl _ _).alloc (Nat.le_refl _) _⟩
        rw [← hw7]
        have HB74 := Lib.hid (HB6.out.trans (hb.mono HB6.out.size))
        have HB7 := Lib.hid (HB4.out.trans (HB74.out.mono HB4.out.size))
        clear hw7 hb
        refine (lapworkslaw07_alive.calls true _ rfl).mono ?_
        rintro en w8 ⟨rfl, hb⟩
        go_wp2
        go_ret
        exact ⟨rfl, HB7.out.trans (hb.mono HB7.out.size)⟩
      have HBAD := Lib.hid hbad
      obtain ⟨cl0, ch0, hcut⟩ : ∃ x y, chase_Cut.f e f ps = some (x, y, 0) := ⟨(sortI (losOf (clks e ps))).getD (f - 1).toNat 0, (sortI (hisOf (clks e ps))).getD (f - 1).toNat 0, by simp [chase_Cut.f, errOf, HV.out, hbad]⟩
      have HCUT := Lib.hid hcut
      clear hcut hbad
      rcases ask_cases HV.out HBAD.out with ⟨hse, hca⟩ | ⟨hse, r, hca, hrl, hrs, hrn⟩ | ⟨hse, hca, hrn⟩
      · have HSE := Lib.hid hse
        clear hse
        have HCA := Lib.hid hca
        clear hca
        refine (chase_Ask.calls e f A c ps 0 11 w4 (Kd.C_below HC.out HB4.out) hc HCA.out).mono ?_
        rintro en w5 ⟨rfl, hb⟩
        have HB5 := Lib.hid hb
        clear hb
        have q0 := blk_nth (blk_below K4.out HB5.out) 0 rfl
        have q1 := blk_nth (blk_below K4.out HB5.out) 1 rfl
        have q2 := blk_nth (blk_below K4.out HB5.out) 2 rfl
        go_wp2_with fail
        clear q0 q1 q2
        refine (chase_Cut.calls e f A c ps cl0 ch0 0 w5 (Kd.C_below HC.out (HB4.out.trans (HB5.out.mono HB4.out.size))) hc HCUT.out).mono ?_
        rintro en w6 ⟨rfl, hb⟩
        have HB6 := Lib.hid (HB5.out.trans (hb.mono HB5.out.size))
        clear hb
        have q0 := fun o => cell_alloc (blk_nth (blk_below K4.out HB6.out) 0 rfl) o
        have q1 := fun o => cell_alloc (blk_nth (blk_below K4.out HB6.out) 1 rfl) o
        have q2 := fun o => cell_alloc (blk_nth (blk_below K4.out HB6.out) 2 rfl) o
        have s0 := fun o => cell_alloc (blk_nth (blk_below KS4.out HB6.out) 0 rfl) o
        go_wp2_with fail
        clear q0 q1 q2 s0
        obtain ⟨w7, hw7, hb⟩ : ∃ w7, w7 = w6.alloc (.cells #[.int .i64 cl0, .int .i64 ch0] 23) ∧ Below w6.heap.size w6 w7 := ⟨_, rfl, (Below.refl _ _).alloc (Nat.le_refl _) _⟩
        rw [← hw7]
        have HB74 := Lib.hid (HB6.out.trans (hb.mono HB6.out.size))
        have HB7 := Lib.hid (HB4.out.trans (HB74.out.mono HB4.out.size))
        clear hw7 hb
        refine (ask1_any e f A c ps w7 (Kd.C_below HC.out HB7.out) hc HV.out HBAD.out).mono ?_
        rw [HSE.out]
        rintro en w8 ⟨rfl, hb⟩
        have HB84 := Lib.hid (HB74.out.trans (hb.mono HB74.out.size))
        have HB8 := Lib.hid (HB4.out.trans (HB84.out.mono HB4.out.size))
        clear hb
        have q2 := blk_nth (blk_below K4.out HB84.out) 2 rfl
        have z0 : ps ≠ [] := fun h => by rw [h] at hn1; simp at hn1
        have z1 : decide (ps = []) = false := decide_eq_false z0
        have z2 : decide (ps.length = 0) = false := decide_eq_false (by omega)
        have z3 : decide ((ps.length : Int) ≤ 0) = false := decide_eq_false (by omega)
        have z4 : decide ((0 : Int) ≥ (ps.length : Int)) = false := decide_eq_false (by omega)
        go_wp2_with fail
        clear q2 z0 z1 z2 z3 z4
        refine (lapworkslaw07_alive.calls true _ rfl).mono ?_
        rintro en w9 ⟨rfl, hb⟩
        go_wp2
        go_ret
        exact ⟨rfl, HB8.out.trans (hb.mono HB8.out.size)⟩
      · have HSE := Lib.hid hse
        have HRS := Lib.hid hrs
        have HRN := Lib.hid hrn
        clear hse hrs hrn
        have HCA := Lib.hid hca
        clear hca
        refine (chase_Ask.calls e f A c ps r 0 w4 (Kd.C_below HC.out HB4.out) hc HCA.out).mono ?_
        rintro en w5 ⟨rfl, hb⟩
        have HB5 := Lib.hid hb
        clear hb
        have q0 := blk_nth (blk_below K4.out HB5.out) 0 rfl
        have q1 := blk_nth (blk_below K4.out HB5.out) 1 rfl
        have q2 := blk_nth (blk_below K4.out HB5.out) 2 rfl
        go_wp2_with fail
        clear q0 q1 q2
        refine (chase_Cut.calls e f A c ps cl0 ch0 0 w5 (Kd.C_below HC.out (HB4.out.trans (HB5.out.mono HB4.out.size))) hc HCUT.out).mono ?_
        rintro en w6 ⟨rfl, hb⟩
        have HB6 := Lib.hid (HB5.out.trans (hb.mono HB5.out.size))
        clear hb
        have q0 := fun o => cell_alloc (blk_nth (blk_below K4.out HB6.out) 0 rfl) o
        have q1 := fun o => cell_alloc (blk_nth (blk_below K4.out HB6.out) 1 rfl) o
        have q2 := fun o => cell_alloc (blk_nth (blk_below K4.out HB6.out) 2 rfl) o
        have s0 := fun o => cell_alloc (blk_nth (blk_below KS4.out HB6.out) 0 rfl) o
        go_wp2_with fail
        clear q0 q1 q2 s0
        obtain ⟨w7, hw7, hb⟩ : ∃ w7, w7 = w6.alloc (.cells #[.int .i64 cl0, .int .i64 ch0] 23) ∧ Below w6.heap.size w6 w7 := ⟨_, rfl, (Below.refl _ _).alloc (Nat.le_refl _) _⟩
        rw [← hw7]
        have HB74 := Lib.hid (HB6.out.trans (hb.mono HB6.out.size))
        have HB7 := Lib.hid (HB4.out.trans (HB74.out.mono HB4.out.size))
        clear hw7 hb
        refine (ask1_any e f A c ps w7 (Kd.C_below HC.out HB7.out) hc HV.out HBAD.out).mono ?_
        rw [HSE.out]
        rintro en w8 ⟨rfl, hb⟩
        have HB84 := Lib.hid (HB74.out.trans (hb.mono HB74.out.size))
        have HB8 := Lib.hid (HB4.out.trans (HB84.out.mono HB4.out.size))
        clear hb
        have q2 := blk_nth (blk_below K4.out HB84.out) 2 rfl
        have z0 : ps ≠ [] := fun h => by rw [h] at hn1; simp at hn1
        have z1 : decide (ps = []) = false := decide_eq_false z0
        have z2 : decide (ps.length = 0) = false := decide_eq_false (by omega)
        have z3 : decide ((ps.length : Int) ≤ 0) = false := decide_eq_false (by omega)
        have z4 : decide ((0 : Int) ≥ (ps.length : Int)) = false := decide_eq_false (by omega)
        go_wp2_with fail
        clear q2 z0 z1 z2 z3 z4
        refine (ask2_any (bc := w.heap.size) (bs := bs) e f A c ps w8 (Kd.C_below HC.out HB8.out) hc (blk_below K4.out HB84.out) (blk_below KS4.out HB84.out) HV.out HBAD.out HIN.out r (by omega)).mono ?_
        rw [HRS.out]
        rintro en w9 ⟨rfl, hb9⟩
        have HB9 := Lib.hid (HB8.out.trans (hb9.mono HB8.out.size))
        have HB94 := Lib.hid (HB84.out.trans (hb9.mono HB84.out.size))
        clear hb9
        by_cases hpr : p < r
        · have d1 : decide ((p : Int) < (r : Int)) = true := decide_eq_true (by omega)
          have d2 : decide (p < r) = true := decide_eq_true hpr
          have HPR := Lib.hid hpr
          go_wp2_with fail
          refine (ask2_any (bc := w.heap.size) (bs := bs) e f A c ps w9 (Kd.C_below HC.out HB9.out) hc (blk_below K4.out HB94.out) (blk_below KS4.out HB94.out) HV.out HBAD.out HIN.out p hpl).mono ?_
          rw [HRN.out p HPR.out]
          rintro en w10 ⟨rfl, hb⟩
          have HB10 := Lib.hid (HB9.out.trans (hb.mono HB9.out.size))
          clear hb
          go_wp2_with fail
          refine (lapworkslaw07_alive.calls true _ rfl).mono ?_
          rintro en w11 ⟨rfl, hb⟩
          go_wp2
          go_ret
          exact ⟨rfl, HB10.out.trans (hb.mono HB10.out.size)⟩
        · have d1 : decide ((p : Int) < (r : Int)) = false := decide_eq_false (by omega)
          have d2 : decide (p < r) = false := decide_eq_false hpr
          go_wp2_with fail
          refine (lapworkslaw07_alive.calls true _ rfl).mono ?_
          rintro en w11 ⟨rfl, hb⟩
          go_wp2
          go_ret
          exact ⟨rfl, HB9.out.trans (hb.mono HB9.out.size)⟩
      · have HSE := Lib.hid hse
        have HRN := Lib.hid hrn
        clear hse hrn
        have HCA := Lib.hid hca
        clear hca
        refine (chase_Ask.calls e f A c ps 0 4 w4 (Kd.C_below HC.out HB4.out) hc HCA.out).mono ?_
        rintro en w5 ⟨rfl, hb⟩
        have HB5 := Lib.hid hb
        clear hb
        have q0 := blk_nth (blk_below K4.out HB5.out) 0 rfl
        have q1 := blk_nth (blk_below K4.out HB5.out) 1 rfl
        have q2 := blk_nth (blk_below K4.out HB5.out) 2 rfl
        go_wp2_with fail
        clear q0 q1 q2
        refine (chase_Cut.calls e f A c ps cl0 ch0 0 w5 (Kd.C_below HC.out (HB4.out.trans (HB5.out.mono HB4.out.size))) hc HCUT.out).mono ?_
        rintro en w6 ⟨rfl, hb⟩
        have HB6 := Lib.hid (HB5.out.trans (hb.mono HB5.out.size))
        clear hb
        have q0 := fun o => cell_alloc (blk_nth (blk_below K4.out HB6.out) 0 rfl) o
        have q1 := fun o => cell_alloc (blk_nth (blk_below K4.out HB6.out) 1 rfl) o
        have q2 := fun o => cell_alloc (blk_nth (blk_below K4.out HB6.out) 2 rfl) o
        have s0 := fun o => cell_alloc (blk_nth (blk_below KS4.out HB6.out) 0 rfl) o
        go_wp2_with fail
        clear q0 q1 q2 s0
        obtain ⟨w7, hw7, hb⟩ : ∃ w7, w7 = w6.alloc (.cells #[.int .i64 cl0, .int .i64 ch0] 23) ∧ Below w6.heap.size w6 w7 := ⟨_, rfl, (Below.refl _ _).alloc (Nat.le_refl _) _⟩
        rw [← hw7]
        have HB74 := Lib.hid (HB6.out.trans (hb.mono HB6.out.size))
        have HB7 := Lib.hid (HB4.out.trans (HB74.out.mono HB4.out.size))
        clear hw7 hb
        refine (ask1_any e f A c ps w7 (Kd.C_below HC.out HB7.out) hc HV.out HBAD.out).mono ?_
        rw [HSE.out]
        rintro en w8 ⟨rfl, hb⟩
        have HB84 := Lib.hid (HB74.out.trans (hb.mono HB74.out.size))
        have HB8 := Lib.hid (HB4.out.trans (HB84.out.mono HB4.out.size))
        clear hb
        have q2 := blk_nth (blk_below K4.out HB84.out) 2 rfl
        have z0 : ps ≠ [] := fun h => by rw [h] at hn1; simp at hn1
        have z1 : decide (ps = []) = false := decide_eq_false z0
        have z2 : decide (ps.length = 0) = false := decide_eq_false (by omega)
        have z3 : decide ((ps.length : Int) ≤ 0) = false := decide_eq_false (by omega)
        have z4 : decide ((0 : Int) ≥ (ps.length : Int)) = false := decide_eq_false (by omega)
        go_wp2_with fail
        clear q2 z0 z1 z2 z3 z4
        refine (ask2_any (bc := w.heap.size) (bs := bs) e f A c ps w8 (Kd.C_below HC.out HB8.out) hc (blk_below K4.out HB84.out) (blk_below KS4.out HB84.out) HV.out HBAD.out HIN.out p (by omega)).mono ?_
        rw [HRN.out p hpl]
        rintro en w9 ⟨rfl, hb⟩
        have HB9 := Lib.hid (HB8.out.trans (hb.mono HB8.out.size))
        clear hb
        go_wp2_with fail
        refine (lapworkslaw07_alive.calls true _ rfl).mono ?_
        rintro en w10 ⟨rfl, hb⟩
        go_wp2
        go_ret
        exact ⟨rfl, HB9.out.trans (hb.mono HB9.out.size)⟩
end Go.Proofs.Ytihfmphaajdhnaa.P
