import Derived.Test.YtihfmphaajdhnaaWa
import Derived.Test.YtihfmphaajdhnaaAl
/-! The law ChaseWrong: its closure. -/
namespace Go.Proofs.Ytihfmphaajdhnaa.P
open Go.RowKit Go.Proofs.YtihfmphaajdhnaaW.PrintWords Go.Proofs.YtihfmphaajdhnaaW.PrintLast Go.Proofs.YtihfmphaajdhnaaW.PrintMore Go.Proofs.Ytihfmphaajdhnaa.Th
set_option linter.unusedVariables false
set_option linter.unusedSimpArgs false

theorem and3i (s j : Nat) (h : s < 8) (hj : j < 3) : Go.bits .and .i64 ((s : Int) / 2 ^ j) 1 = ((s / 2 ^ j % 2 : Nat) : Int) := by
  have h1 : s = 0 ∨ s = 1 ∨ s = 2 ∨ s = 3 ∨ s = 4 ∨ s = 5 ∨ s = 6 ∨ s = 7 := by omega
  have h2 : j = 0 ∨ j = 1 ∨ j = 2 := by omega
  rcases h1 with rfl | rfl | rfl | rfl | rfl | rfl | rfl | rfl <;> rcases h2 with rfl | rfl | rfl <;> first | rfl | decide +kernel
/-- One list alone, as a chase's pairs. -/
theorem C_one {w : World} {nb : Nat} {A : Option Addr} {c : Nat} {l : List Int} (hb : w.heap[nb]? = some (.cells #[.slice A l.length c] 40 (0, 0))) (hl : l.length ≤ c) (hC : Kd.C (Kd.int .i64) w A l.length l) :
    Kd.C (Kd.slice 3 (Kd.int .i64)) w (some ⟨nb, 0, none⟩) [l].length [l] := by
  refine ⟨rfl, by simp, fun _ => ⟨_, rfl, fun j p hj => ?_⟩⟩
  have hj0 : j = 0 := by have := (List.getElem?_eq_some_iff.1 hj).1; simp at this; omega
  subst hj0
  simp only [List.getElem?_cons_zero, Option.some.injEq] at hj
  subst hj
  refine ⟨[.slice A l.length c], rfl, ⟨A, c, rfl, hl, hC⟩, fun i u hu => ?_⟩
  have hi : i = 0 := by have := (List.getElem?_eq_some_iff.1 hu).1; simp at this; omega
  subst hi
  simp only [List.getElem?_cons_zero, Option.some.injEq] at hu
  subst hu
  exact blk_nth hb 0 rfl

set_option maxHeartbeats 2000000 in
set_option maxRecDepth 100000 in
theorem right_any {bc bp : Nat} {e f : Int} {A : Option Addr} {c p : Nat} {ps : List (List Int)} (w : World) (s : Nat) (hs : s < 8)
    (hbc : w.heap[bc]? = some (.cells #[.int .i64 e, .int .i64 f, .slice A ps.length c] 32 (0, 0))) (hbp : w.heap[bp]? = some (.cells #[.int .i64 (p : Int)] 3 (0, 0)))
    (hC : Kd.C (Kd.slice 3 (Kd.int .i64)) w A ps.length ps) (hp : p < ps.length) (he : 0 ≤ e ∧ e ≤ 3) (hok : okL (ps.getD p []) = true) :
    Calls Try.prog 31 #[.int .i64 (s : Int), .pointer (some ⟨bc, 0, none⟩), .pointer (some ⟨bp, 0, none⟩)] w fun en w' =>
      en = .returned (.bool (okBut e (ps.getD p []) s)) ∧ Below w.heap.size w w' := by
  obtain ⟨h1, h3, hall⟩ := (okL_iff _).1 hok
  obtain ⟨ad, Al, cl, rfl, hrow, hlc, hCl⟩ := row_at hC p hp
  obtain ⟨l, hl⟩ : ∃ l, l = ps.getD p [] := ⟨_, rfl⟩
  rw [← hl] at h1 h3 hok hrow hlc hCl ⊢
  have HOK := Lib.hid hok
  have HCL := Lib.hid hCl
  have x0 := blk_nth hbc 0 rfl
  have x2 := fun o => cell_alloc (blk_nth hbc 2 rfl) o
  have y0 := fun o => cell_alloc (blk_nth hbp 0 rfl) o
  have z0 := fun o => cell_alloc hrow o
  clear hl hok hCl hall hbc hbp hC hrow
  go_enter Try.func31, Try.ntmps31
  go_wp2_with fail
  clear x0 x2 y0 z0
  obtain ⟨w1, hw1, k1, hb1⟩ : ∃ w1, w1 = w.alloc (.cells #[.int .i64 e, .int .i64 1, .slice none 0 0] 32) ∧ w1.heap[w.heap.size]? = some (.cells #[.int .i64 e, .int .i64 1, .slice none 0 0] 32 (0, 0)) ∧ Below w.heap.size w w1 := ⟨_, rfl, blk_new _ _, (Below.refl _ _).alloc (Nat.le_refl _) _⟩
  rw [← hw1]
  have hn1 : w.heap.size < w1.heap.size := blk_lt k1
  have K1 := Lib.hid k1
  have HB1 := Lib.hid hb1
  clear k1 hb1 hw1
  obtain ⟨bx, hbx⟩ : ∃ b, b = w.heap.size := ⟨_, rfl⟩
  rw [← hbx] at hn1 K1 ⊢
  have HBX := Lib.hid hbx
  clear hbx
  go_loopw [20, 6] (fun i v wr => ∃ j : Nat, i = .int .i64 j ∧ j ≤ l.length ∧ Hid (Below w1.heap.size w1 wr) ∧ Hid (Kd.R (Kd.int .i64) 3 wr w1.heap.size (fun _ => True) v (keepTo l s j))) (fun i _ _ => l.length - (intOf i).toNat)
  case atStart => exact ⟨0, rfl, Nat.zero_le _, Below.refl _ _, Kd.R_nil _ _ _ _ _⟩
  case round =>
    obtain ⟨j, rfl, hj, HBR, HR⟩ := hrel
    by_cases hjl : j < l.length
    · obtain ⟨al, hal, hcl⟩ := int_at (Kd.C_below HCL.out (HB1.out.trans (HBR.out.mono HB1.out.size))) j hjl
      obtain ⟨n, hn0⟩ : ∃ n, n = l.getD j 0 := ⟨_, rfl⟩
      rw [← hn0] at hcl
      have HN := Lib.hid hn0
      clear hn0
      subst hal
      have han := and3i s j hs (by omega)
      have hb := bit3 s j
      have hm := Nat.mod_two_eq_zero_or_one (s / 2 ^ j)
      have hks := keepTo_succ l s j
      obtain ⟨q, hq⟩ : ∃ q, q = s / 2 ^ j % 2 := ⟨_, rfl⟩
      simp only [← hq] at han hb hm
      have HB := Lib.hid hb
      have HKS := Lib.hid hks
      have hlen := keepTo_len l s j
      have hk8 : ((keepTo l s j).length + 1) * 8 ≤ 140737488355328 := by omega
      have HK8 := Lib.hid hk8
      clear hq hb hks hk8 hlen
      rcases hm with rfl | rfl
      · go_wp2_with (first
          | (at_builtin; refine Kd.R_append (Kd.int .i64) (w0 := w1) w1.heap.size rfl (.tmp 30) (.tmp 32) 40 3 (.int .i64 0) 8 rfl Try.underlying40 info_int rfl (by decide) (by decide) u6 (keepTo l s j) n [.int .i64 n] (fun _ => True) (fun _ => False) rfl rfl rfl (fun _ h => h.elim) (fun _ _ => trivial) HR.out HBR.out HBR.out.size HK8.out ?_; intro v9 w9 hr9 hb9 hg9 ha9; have HR9 := Lib.hid hr9; have HB9 := Lib.hid hb9; clear hr9 hb9 hg9 ha9))
        refine ⟨⟨j + 1, by go_num, by omega, HB9, ?_⟩, by simp [intOf]; omega⟩
        rw [HKS.out, HB.out, ← HN.out]
        exact HR9
      · go_wp2
        refine ⟨⟨j + 1, by go_num, by omega, HBR, ?_⟩, by simp [intOf]; omega⟩
        rw [HKS.out, HB.out]
        simpa using HR
    · obtain rfl : j = l.length := by omega
      obtain ⟨Av, cv, rfl, hcv, hCv⟩ := Kd.R_reads HR.out
      have hlen := keepTo_len l s l.length
      have HTO := Lib.hid (fun h => time_one he HOK.out s (l := l) h)
      have HNIL := Lib.hid (fun h => okBut_nil (e := e) (l := l) (s := s) h)
      obtain ⟨kp, hkp⟩ : ∃ x, x = keepTo l s l.length := ⟨_, rfl⟩
      rw [← hkp] at hcv hCv hlen HTO HNIL ⊢
      have HKP := Lib.hid hkp
      have HCV := Lib.hid hCv
      have KR := Lib.hid (blk_below K1.out HBR.out)
      clear hCv hkp
      by_cases hkl : kp.length = 0
      · have hk0 : kp = [] := List.length_eq_zero_iff.1 hkl
        have t1 : ((kp.length : Int) == 0) = true := by simp [hkl]
        have HNN := Lib.hid (HNIL.out hk0)
        subst hk0
        go_wp2
        go_ret
        exact ⟨by rw [HNN.out]; rfl, HB1.out.trans (HBR.out.mono HB1.out.size)⟩
      · have hk0 : kp ≠ [] := fun h => hkl (by rw [h]; rfl)
        obtain ⟨r1, r2, r3, hti, hdec, h30, h31⟩ := HTO.out hk0
        have HDEC := Lib.hid hdec
        have t1 : ((kp.length : Int) == 0) = false := by simp; exact hk0
        have t2 : (kp.length == 0) = false := by simp; exact hk0
        have t3 : decide (kp.length = 0) = false := by simp; exact hk0
        have HTI := Lib.hid hti
        have c0 := fun o => cell_alloc (blk_nth KR.out 0 rfl) o
        have c1 := fun o => cell_alloc (blk_nth KR.out 1 rfl) o
        have c2 := fun o => cell_alloc (blk_nth KR.out 2 rfl) o
        have f2 := blk_frozen (blk_alloc KR.out (.cells #[.slice Av kp.length cv] 40)) 2
        clear hti hdec hk0 hkl
        go_wp2_with fail
        clear c0 c1 c2 f2
        have HRK := Lib.hid (show Kd.R (Kd.int .i64) 3 wr w1.heap.size (fun _ => True) (.slice Av kp.length cv) kp from by
          have h := HR.out
          rw [← HKP.out] at h
          exact h)
        have hgeb : ∀ k, (Value.slice Av kp.length cv).ownBlock = some k → w1.heap.size ≤ k ∧ k < wr.heap.size := by
          obtain ⟨inner, ho⟩ := Kd.R_own HRK.out
          exact fun k hk => ⟨own_base ho k hk, own_lt ho k hk⟩
        obtain ⟨w9, hw9, hn9, hc9, hb9⟩ : ∃ w9, w9 = (wr.alloc (.cells #[.slice Av kp.length cv] 40)).setCell ⟨bx, 2, none⟩ (.slice (some ⟨wr.heap.size, 0, none⟩) 1 1) ∧ w9.heap[wr.heap.size]? = some (.cells #[.slice Av kp.length cv] 40 (0, 0)) ∧ Kd.C (Kd.int .i64) w9 Av kp.length kp ∧ Below w.heap.size w w9 := by
          have hlb := HBR.out.size
          refine ⟨_, rfl, blk_far (blk_new wr _) (by show wr.heap.size ≠ bx; omega) _, ?_, ?_⟩
          · have h9 := Kd.R_reok (ok := fun _ => True) rfl (Kd.R_move (w1 := (wr.alloc (.cells #[.slice Av kp.length cv] 40)).setCell ⟨bx, 2, none⟩ (.slice (some ⟨wr.heap.size, 0, none⟩) 1 1)) (Kd.R_tight rfl HRK.out) (fun k hk => by
              obtain ⟨h1, h2⟩ := hgeb k hk.symm
              rw [Below.heap_setCell _ _ _ _ (by show k ≠ bx; omega)]
              exact Below.heap_alloc wr _ k h2)) (fun _ _ => trivial)
            obtain ⟨A', c', hA', _, hC'⟩ := Kd.R_reads h9
            cases hA'
            exact hC'
          · exact ((HB1.out.trans (HBR.out.mono HB1.out.size)).alloc (Nat.le_trans HB1.out.size hlb) _).setCell (by show w.heap.size ≤ bx; rw [HBX.out]; exact Nat.le_refl _) _
        rw [← hw9]
        have HB9 := Lib.hid hb9
        have hC9 := C_one hn9 hcv hc9
        clear hw9 hn9 hc9 hb9
        refine (chase_Time.calls e 1 (some ⟨wr.heap.size, 0, none⟩) 1 [kp] 0 r1 r2 r3 w9 hC9 (by simp) HTI.out).mono ?_
        rintro en w10 ⟨rfl, hb10⟩
        have HB10 := Lib.hid (HB9.out.trans (hb10.mono HB9.out.size))
        clear hC9 hb10
        by_cases hr0 : r3 = 0
        · have hv := HDEC.out
          rw [decide_eq_true hr0] at hv
          have HV := Lib.hid hv
          subst hr0
          clear hv
          go_wp2
          go_ret
          exact ⟨by rw [← HV.out]; rfl, HB10.out.alloc HB10.out.size _⟩
        · have hv := HDEC.out
          rw [decide_eq_false hr0] at hv
          have HV := Lib.hid hv
          have e1 : (r3 == 0) = false := by simpa using hr0
          clear hv
          go_wp2
          go_ret
          exact ⟨by rw [← HV.out]; rfl, HB10.out.alloc HB10.out.size _⟩
end Go.Proofs.Ytihfmphaajdhnaa.P
