/- Walk: TopRecount returns true where its input is what it asks for. (written by gen_t2.py) -/
import Derived.Test.YtkkcbkfpaoldmaaGreatDoorM21
import Derived.Deep.CutRange
namespace Go.Proofs.YtkkcbkfpaoldmaaGreatDoor
open Go Go.RowKit Go.Shelf
attribute [local go_sem] Oper.semAt_some

set_option maxRecDepth 100000 in
set_option linter.unusedSimpArgs false in
set_option linter.unusedVariables false in
set_option maxHeartbeats 32000000 in
theorem top_good (x : Crit) (Ad Ap : Option Addr) (nd cd np cp : Nat) (AfD AfP : Nat → Option Addr) (NfD CfD NfP CfP : Nat → Nat) (MfD MfP : Nat → Nat → Int) (sm : Nat) (hsm : sm < 256) (b1 b2 : Bool) (A1 A2 : Option Addr) (n1 c1 n2 c2 : Nat) (p q : List Int) (d : List UInt8) (hd : d.length = 32)
    (w : World) (hL : Laid w) (hD : MatRd w w.heap.size Ad nd AfD NfD CfD MfD) (hP : MatRd w w.heap.size Ap np AfP NfP CfP MfP) (hLm : LimRd w w.heap.size A1 n1 c1 A2 n2 c2 p q)
    (G : TopOk x nd np NfD NfP MfD MfP b1 n1 p b2 n2 q) :
    Calls Tryz.prog 3 #[.agg x.c, .slice Ad nd cd, .slice Ap np cp, .int .u8 sm, .agg (ratD b1 A1 n1 c1 b2 A2 n2 c2), .agg (dig d)] w (Ret (.bool true) w) := by
  obtain rfl : b2 = false := G.ok.2.2.2.1
  obtain ⟨rfl, hlim⟩ := hLm.lim G.few G.ok G.lim
  have hnp : nd = np := G.tp.1.symm
  subst hnp
  have HT57 := Lib.hid (fun A n c Af Nf Cf Mf en ju he hj W hR => table57_any x G.cr A n c Af Nf Cf Mf en ju he hj W hR)
  have HS57 := Lib.hid (fun A n c Af Nf Cf Mf en ju he hj hT W hR => sums57_any x G.cr A n c Af Nf Cf Mf en ju he hj hT W hR)
  have HM57 := Lib.hid (fun A n c sf first ju h1 h2 h3 h4 h5 h6 W hR => margin57_ok x G.cr A n c sf first ju h1 h2 h3 h4 h5 h6 W hR)
  have HFILL := Lib.hid (fun gc tc Am cm m hm nb hnb W hc hmk => fill54_ok x G.cr gc tc Am cm m hm nb hnb W hc hmk)
  have HAGR := Lib.hid (fun gc tc no en ju hno hen hju Abx Ab kb nb cb bx t sm hnb hbx dd hdd Am cm W hc hv hb hm => shAgrees_ok x G.cr gc tc no en ju hno hen hju Abx Ab kb nb cb bx t sm hnb hbx dd hdd Am cm W hc hv hb hm)
  have HFW := Lib.hid (fun W => few10_any false false A1 A2 n1 c1 n2 c2 W)
  have HCK := Lib.hid (fun W (h : Below w.heap.size w W) => rCheck10_any false false A1 A2 n1 c1 n2 c2 p q W hLm.l1 hLm.l2 hLm.k1 hLm.k2 hLm.m1 hLm.m2 hLm.z1 hLm.z2 ((hLm.r1.below h).more h.size) ((hLm.r2.below h).more h.size) (by obtain ⟨f1, f2⟩ := G.few; unfold FewN at f1 f2; omega) (by obtain ⟨f1, f2⟩ := G.few; unfold FewN at f1 f2; omega) (by obtain ⟨f1, f2⟩ := G.few; unfold FewN at f1 f2; omega) (by obtain ⟨f1, f2⟩ := G.few; unfold FewN at f1 f2; omega))
  have HLI := Lib.hid (fun W (h : Below w.heap.size w W) => rLimit56_ok false A1 A2 n1 c1 n2 c2 p q W (((hLm.below h).more h.size).r10 G.few G.ok))
  rw [G.lim] at HLI
  rw [show (decide (FewN n1) && decide (FewN n2)) = true by simp [G.few.1, G.few.2]] at HFW
  have HLIM := Lib.hid hlim
  have HLAID := Lib.hid hL
  have HG := Lib.hid G
  have HD := Lib.hid hD
  have HP := Lib.hid hP
  have hnd2 : 2 ≤ nd := G.d2
  have hnd5 : nd ≤ 5 := G.d5
  obtain ⟨ju, hj⟩ : ∃ y, y = NfD 0 := ⟨_, rfl⟩
  have hn1 := G.n1
  have hn5 := G.n5
  have htd := G.td
  have htp := G.tp
  have hcr := G.cr
  have h40 := G.m40
  rw [← hj] at hn1 hn5 htd htp
  obtain ⟨n, hn⟩ : ∃ n, n = nd * ju := ⟨_, rfl⟩
  rw [← hn] at hn1 hn5
  have hwn : wrap64 ((nd : Int) * (ju : Int)) = (n : Int) := by rw [show (nd : Int) * (ju : Int) = (n : Int) by rw [hn]; exact (Int.natCast_mul _ _).symm]; exact wrap_in _ (by omega)
  have hj1 : 1 ≤ ju := by rcases Nat.eq_zero_or_pos ju with h | h; (rw [h, Nat.mul_zero] at hn; omega); exact h
  have hj2 : ju ≤ 2 := by have h3 : 2 * ju ≤ n := (by rw [hn]; exact Nat.mul_le_mul_right _ hnd2); omega
  obtain ⟨xs, lo, hi, st, ho, tr, rv⟩ := x
  simp only [Crit.c] at HT57 HS57 HM57 HFILL HAGR htd htp hcr h40 ⊢
  have k1 := hcr.l0
  have k2 := hcr.lh
  have k3 := hcr.h1
  have k4 := hcr.s1
  have HRT := Lib.hid (fun W => right16_any xs lo hi st ho tr rv W)
  have HJ := Lib.hid hj
  have HN := Lib.hid hn
  have HTD := Lib.hid htd
  have HTP := Lib.hid htp
  have HCR := Lib.hid hcr
  have s0 : (st == 0) = false := beq_eq_false_iff_ne.2 (by omega)
  have s0n : ¬ st = 0 := by omega
  have hws : wrap64 (hi - lo) = hi - lo := wrap_in _ (by omega)
  obtain ⟨m0, hm0⟩ : ∃ m, m = Int.tdiv (hi - lo) st := ⟨_, rfl⟩
  have f5 : Int.tdiv (hi - lo) st = m0 := hm0.symm
  have hm0r : 0 ≤ m0 ∧ m0 ≤ 1000 := by
    rw [hm0, Int.tdiv_eq_ediv_of_nonneg (by omega)]
    exact ⟨Int.ediv_nonneg (by omega) (by omega), Int.le_trans (Int.ediv_le_self _ (by omega)) (by omega)⟩
  rw [f5] at h40
  have t1 : decide ((40 : Int) < m0) = false := decide_eq_false (by omega)
  have t2 : decide ((nd : Int) < 2) = false := decide_eq_false (by omega)
  have t2n : decide (nd < 2) = false := decide_eq_false (by omega)
  have t3 : decide ((5 : Int) < (nd : Int)) = false := decide_eq_false (by omega)
  have t3n : decide (5 < nd) = false := decide_eq_false (by omega)
  have t4 : decide ((n : Int) < 1) = false := decide_eq_false (by omega)
  have t4n : decide (n < 1) = false := decide_eq_false (by omega)
  have t4m : (n == 0) = false := beq_eq_false_iff_ne.2 (by omega)
  have t5 : decide ((5 : Int) < (n : Int)) = false := decide_eq_false (by omega)
  have t5n : decide (5 < n) = false := decide_eq_false (by omega)
  clear hL hD hP hLm hlim G hj hn htd htp hcr hm0
  obtain ⟨H, hH⟩ : ∃ H, H = w.heap.size := ⟨_, rfl⟩
  have HH := Lib.hid hH
  clear hH
  go_enter Tryz.func3, Tryz.ntmps3
  go_wp2_with fail
  rw [← HH.out]
  refine calls_gen (fun W => Blk W H 23 (critC xs lo hi st ho tr rv) ∧ Blk W (H + 1) 29 (ratD false A1 n1 c1 false A2 n2 c2) ∧ Blk W (H + 2) 31 (dig d) ∧ Below w.heap.size w W)
    (by rw [HH.out]; exact ⟨((Blk.new _ _ _).alloc _).alloc _, (Blk.new' _ _ _ (by simp)).alloc _, Blk.new' _ _ _ (by simp), (((Below.refl _ w).alloc (Nat.le_refl _) _).alloc (by simp) _).alloc (by simp; omega) _⟩) (fun W0 ⟨b0, b1', b2', hB0⟩ => ?_)
  have BC0 := Lib.hid b0
  have BR0 := Lib.hid b1'
  have BG0 := Lib.hid b2'
  have HB0 := Lib.hid hB0
  clear b0 b1' b2' hB0
  refine (kNeed_zero W0).mono ?_
  rintro e W1 ⟨rfl, hb⟩
  have BC1 := Lib.hid (BC0.out.below hb BC0.out.lt)
  have BR1 := Lib.hid (BR0.out.below hb BR0.out.lt)
  have BG1 := Lib.hid (BG0.out.below hb BG0.out.lt)
  have HB1 := Lib.hid (HB0.out.trans (hb.mono HB0.out.size))
  clear hb BC0 BR0 BG0 HB0  
  have qc0 : W1.cell? ⟨H, 0, none⟩ = some (.string xs) := BC1.out.cell 0
  have qc1 : W1.cell? ⟨H, 1, none⟩ = some (.int .i64 lo) := BC1.out.cell 1
  have qc2 : W1.cell? ⟨H, 2, none⟩ = some (.int .i64 hi) := BC1.out.cell 2
  have qc3 : W1.cell? ⟨H, 3, none⟩ = some (.int .i64 st) := BC1.out.cell 3
  have qc4 : W1.cell? ⟨H, 4, none⟩ = some (.int .i64 ho) := BC1.out.cell 4
  have qc5 : W1.cell? ⟨H, 5, none⟩ = some (.int .i64 tr) := BC1.out.cell 5
  have qc6 : W1.cell? ⟨H, 6, none⟩ = some (.bool rv) := BC1.out.cell 6
  go_wp2_with fail
  refine (HRT.out W1).mono ?_
  rintro e W2 ⟨r, rfl, hr, hb⟩
  have BC2 := Lib.hid (BC1.out.below hb BC1.out.lt)
  have BR2 := Lib.hid (BR1.out.below hb BR1.out.lt)
  have BG2 := Lib.hid (BG1.out.below hb BG1.out.lt)
  have HB2 := Lib.hid (HB1.out.trans (hb.mono HB1.out.size))
  clear hb BC1 BR1 BG1 HB1  qc0 qc1 qc2 qc3 qc4 qc5 qc6
  obtain rfl : r = true := hr.2 HCR.out
  clear hr
  have qc0 : W2.cell? ⟨H, 0, none⟩ = some (.string xs) := BC2.out.cell 0
  have qc1 : W2.cell? ⟨H, 1, none⟩ = some (.int .i64 lo) := BC2.out.cell 1
  have qc2 : W2.cell? ⟨H, 2, none⟩ = some (.int .i64 hi) := BC2.out.cell 2
  have qc3 : W2.cell? ⟨H, 3, none⟩ = some (.int .i64 st) := BC2.out.cell 3
  have qc4 : W2.cell? ⟨H, 4, none⟩ = some (.int .i64 ho) := BC2.out.cell 4
  have qc5 : W2.cell? ⟨H, 5, none⟩ = some (.int .i64 tr) := BC2.out.cell 5
  have qc6 : W2.cell? ⟨H, 6, none⟩ = some (.bool rv) := BC2.out.cell 6
  have qr0 : W2.cell? ⟨H + 1, 0, none⟩ = some (.bool false) := BR2.out.cell 0
  have qr1 : W2.cell? ⟨H + 1, 1, none⟩ = some (.slice A1 n1 c1) := BR2.out.cell 1
  have qr2 : W2.cell? ⟨H + 1, 2, none⟩ = some (.bool false) := BR2.out.cell 2
  have qr3 : W2.cell? ⟨H + 1, 3, none⟩ = some (.slice A2 n2 c2) := BR2.out.cell 3
  go_wp2_with fail
  refine (HFW.out W2).mono ?_
  rintro e W3 ⟨rfl, hb⟩
  have BC3 := Lib.hid (BC2.out.below hb BC2.out.lt)
  have BR3 := Lib.hid (BR2.out.below hb BR2.out.lt)
  have BG3 := Lib.hid (BG2.out.below hb BG2.out.lt)
  have HB3 := Lib.hid (HB2.out.trans (hb.mono HB2.out.size))
  clear hb BC2 BR2 BG2 HB2  qc0 qc1 qc2 qc3 qc4 qc5 qc6 qr0 qr1 qr2 qr3
  have qc0 : W3.cell? ⟨H, 0, none⟩ = some (.string xs) := BC3.out.cell 0
  have qc1 : W3.cell? ⟨H, 1, none⟩ = some (.int .i64 lo) := BC3.out.cell 1
  have qc2 : W3.cell? ⟨H, 2, none⟩ = some (.int .i64 hi) := BC3.out.cell 2
  have qc3 : W3.cell? ⟨H, 3, none⟩ = some (.int .i64 st) := BC3.out.cell 3
  have qc4 : W3.cell? ⟨H, 4, none⟩ = some (.int .i64 ho) := BC3.out.cell 4
  have qc5 : W3.cell? ⟨H, 5, none⟩ = some (.int .i64 tr) := BC3.out.cell 5
  have qc6 : W3.cell? ⟨H, 6, none⟩ = some (.bool rv) := BC3.out.cell 6
  have qr0 : W3.cell? ⟨H + 1, 0, none⟩ = some (.bool false) := BR3.out.cell 0
  have qr1 : W3.cell? ⟨H + 1, 1, none⟩ = some (.slice A1 n1 c1) := BR3.out.cell 1
  have qr2 : W3.cell? ⟨H + 1, 2, none⟩ = some (.bool false) := BR3.out.cell 2
  have qr3 : W3.cell? ⟨H + 1, 3, none⟩ = some (.slice A2 n2 c2) := BR3.out.cell 3
  go_wp2_with fail
  refine (HCK.out W3 HB3.out).mono ?_
  rintro e W4 ⟨r2, rfl, hr2, hb⟩
  have BC4 := Lib.hid (BC3.out.below hb BC3.out.lt)
  have BR4 := Lib.hid (BR3.out.below hb BR3.out.lt)
  have BG4 := Lib.hid (BG3.out.below hb BG3.out.lt)
  have HB4 := Lib.hid (HB3.out.trans (hb.mono HB3.out.size))
  clear hb BC3 BR3 BG3 HB3  qc0 qc1 qc2 qc3 qc4 qc5 qc6 qr0 qr1 qr2 qr3
  obtain rfl : r2 = 0 := by rcases hr2 with ⟨h, _⟩ | ⟨_, h⟩; exact h; exact absurd HG.out.ok h
  clear hr2
  have qc0 : W4.cell? ⟨H, 0, none⟩ = some (.string xs) := BC4.out.cell 0
  have qc1 : W4.cell? ⟨H, 1, none⟩ = some (.int .i64 lo) := BC4.out.cell 1
  have qc2 : W4.cell? ⟨H, 2, none⟩ = some (.int .i64 hi) := BC4.out.cell 2
  have qc3 : W4.cell? ⟨H, 3, none⟩ = some (.int .i64 st) := BC4.out.cell 3
  have qc4 : W4.cell? ⟨H, 4, none⟩ = some (.int .i64 ho) := BC4.out.cell 4
  have qc5 : W4.cell? ⟨H, 5, none⟩ = some (.int .i64 tr) := BC4.out.cell 5
  have qc6 : W4.cell? ⟨H, 6, none⟩ = some (.bool rv) := BC4.out.cell 6
  have qr0 : W4.cell? ⟨H + 1, 0, none⟩ = some (.bool false) := BR4.out.cell 0
  have qr1 : W4.cell? ⟨H + 1, 1, none⟩ = some (.slice A1 n1 c1) := BR4.out.cell 1
  have qr2 : W4.cell? ⟨H + 1, 2, none⟩ = some (.bool false) := BR4.out.cell 2
  have qr3 : W4.cell? ⟨H + 1, 3, none⟩ = some (.slice A2 n2 c2) := BR4.out.cell 3
  go_wp2_with fail
  refine (HLI.out W4 HB4.out).mono ?_
  rintro e W5 ⟨rfl, hb⟩
  have BC5 := Lib.hid (BC4.out.below hb BC4.out.lt)
  have BR5 := Lib.hid (BR4.out.below hb BR4.out.lt)
  have BG5 := Lib.hid (BG4.out.below hb BG4.out.lt)
  have HB5 := Lib.hid (HB4.out.trans (hb.mono HB4.out.size))
  clear hb BC4 BR4 BG4 HB4  qc0 qc1 qc2 qc3 qc4 qc5 qc6 qr0 qr1 qr2 qr3
  have hx0 : ∃ bd od, Ad = some ⟨bd, od, none⟩ := by obtain ⟨b, o, e, _⟩ := HD.out.top (by omega); exact ⟨b, o, e⟩
  obtain ⟨bd, od, rfl⟩ := hx0
  have hcd : W5.cell? ⟨bd, od, none⟩ = some (.slice (AfD 0) ju (CfD 0)) := by
    obtain ⟨b, o, e, _, hc⟩ := (HD.out.below HB5.out).top.at_ (k := 0) (by omega)
    simp only [Option.some.injEq, Addr.mk.injEq, and_true] at e
    obtain ⟨rfl, rfl⟩ := e
    rw [Nat.add_zero, ← HJ.out] at hc
    exact hc
  have qc0 : W5.cell? ⟨H, 0, none⟩ = some (.string xs) := BC5.out.cell 0
  have qc1 : W5.cell? ⟨H, 1, none⟩ = some (.int .i64 lo) := BC5.out.cell 1
  have qc2 : W5.cell? ⟨H, 2, none⟩ = some (.int .i64 hi) := BC5.out.cell 2
  have qc3 : W5.cell? ⟨H, 3, none⟩ = some (.int .i64 st) := BC5.out.cell 3
  have qc4 : W5.cell? ⟨H, 4, none⟩ = some (.int .i64 ho) := BC5.out.cell 4
  have qc5 : W5.cell? ⟨H, 5, none⟩ = some (.int .i64 tr) := BC5.out.cell 5
  have qc6 : W5.cell? ⟨H, 6, none⟩ = some (.bool rv) := BC5.out.cell 6
  go_wp2_with fail
  refine (HT57.out (some ⟨bd, od, none⟩) nd cd AfD NfD CfD MfD nd ju hnd5 (by omega) W5 ((HD.out.below HB5.out).more HB5.out.size)).mono ?_
  rintro e W6 ⟨r3, rfl, hr3, hb⟩
  have BC6 := Lib.hid (BC5.out.below hb BC5.out.lt)
  have BR6 := Lib.hid (BR5.out.below hb BR5.out.lt)
  have BG6 := Lib.hid (BG5.out.below hb BG5.out.lt)
  have HB6 := Lib.hid (HB5.out.trans (hb.mono HB5.out.size))
  clear hb BC5 BR5 BG5 HB5  qc0 qc1 qc2 qc3 qc4 qc5 qc6 hcd
  obtain rfl : r3 = true := hr3.2 HTD.out
  clear hr3
  have qc0 : W6.cell? ⟨H, 0, none⟩ = some (.string xs) := BC6.out.cell 0
  have qc1 : W6.cell? ⟨H, 1, none⟩ = some (.int .i64 lo) := BC6.out.cell 1
  have qc2 : W6.cell? ⟨H, 2, none⟩ = some (.int .i64 hi) := BC6.out.cell 2
  have qc3 : W6.cell? ⟨H, 3, none⟩ = some (.int .i64 st) := BC6.out.cell 3
  have qc4 : W6.cell? ⟨H, 4, none⟩ = some (.int .i64 ho) := BC6.out.cell 4
  have qc5 : W6.cell? ⟨H, 5, none⟩ = some (.int .i64 tr) := BC6.out.cell 5
  have qc6 : W6.cell? ⟨H, 6, none⟩ = some (.bool rv) := BC6.out.cell 6
  go_wp2_with fail
  refine (HT57.out Ap nd cp AfP NfP CfP MfP nd ju hnd5 (by omega) W6 ((HP.out.below HB6.out).more HB6.out.size)).mono ?_
  rintro e W7 ⟨r4, rfl, hr4, hb⟩
  have BC7 := Lib.hid (BC6.out.below hb BC6.out.lt)
  have BR7 := Lib.hid (BR6.out.below hb BR6.out.lt)
  have BG7 := Lib.hid (BG6.out.below hb BG6.out.lt)
  have HB7 := Lib.hid (HB6.out.trans (hb.mono HB6.out.size))
  clear hb BC6 BR6 BG6 HB6  qc0 qc1 qc2 qc3 qc4 qc5 qc6
  obtain rfl : r4 = true := hr4.2 HTP.out
  clear hr4
  have qc0 : W7.cell? ⟨H, 0, none⟩ = some (.string xs) := BC7.out.cell 0
  have qc1 : W7.cell? ⟨H, 1, none⟩ = some (.int .i64 lo) := BC7.out.cell 1
  have qc2 : W7.cell? ⟨H, 2, none⟩ = some (.int .i64 hi) := BC7.out.cell 2
  have qc3 : W7.cell? ⟨H, 3, none⟩ = some (.int .i64 st) := BC7.out.cell 3
  have qc4 : W7.cell? ⟨H, 4, none⟩ = some (.int .i64 ho) := BC7.out.cell 4
  have qc5 : W7.cell? ⟨H, 5, none⟩ = some (.int .i64 tr) := BC7.out.cell 5
  have qc6 : W7.cell? ⟨H, 6, none⟩ = some (.bool rv) := BC7.out.cell 6
  go_wp2_with fail
  refine (HS57.out (some ⟨bd, od, none⟩) nd cd AfD NfD CfD MfD nd ju hnd5 (by omega) HTD.out W7 ((HD.out.below HB7.out).more HB7.out.size)).mono ?_
  rintro e W8 ⟨v18, rfl, hO18, hb⟩
  have BC8 := Lib.hid (BC7.out.below hb BC7.out.lt)
  have BR8 := Lib.hid (BR7.out.below hb BR7.out.lt)
  have BG8 := Lib.hid (BG7.out.below hb BG7.out.lt)
  have HB8 := Lib.hid (HB7.out.trans (hb.mono HB7.out.size))
  clear hb BC7 BR7 BG7 HB7  qc0 qc1 qc2 qc3 qc4 qc5 qc6
  obtain ⟨A18, c18, rfl, -, -, hR18⟩ := hO18.shape
  rw [sumsL_len] at hR18 ⊢
  have HSD8 := Lib.hid (Rd.congr hR18 fun k hk => by rw [sumsL_get _ _ _ _ _ _ _ hk])
  clear hO18 hR18
  have qc0 : W8.cell? ⟨H, 0, none⟩ = some (.string xs) := BC8.out.cell 0
  have qc1 : W8.cell? ⟨H, 1, none⟩ = some (.int .i64 lo) := BC8.out.cell 1
  have qc2 : W8.cell? ⟨H, 2, none⟩ = some (.int .i64 hi) := BC8.out.cell 2
  have qc3 : W8.cell? ⟨H, 3, none⟩ = some (.int .i64 st) := BC8.out.cell 3
  have qc4 : W8.cell? ⟨H, 4, none⟩ = some (.int .i64 ho) := BC8.out.cell 4
  have qc5 : W8.cell? ⟨H, 5, none⟩ = some (.int .i64 tr) := BC8.out.cell 5
  have qc6 : W8.cell? ⟨H, 6, none⟩ = some (.bool rv) := BC8.out.cell 6
  go_wp2_with fail
  refine (HS57.out Ap nd cp AfP NfP CfP MfP nd ju hnd5 (by omega) HTP.out W8 ((HP.out.below HB8.out).more HB8.out.size)).mono ?_
  rintro e W9 ⟨v20, rfl, hO20, hb⟩
  have BC9 := Lib.hid (BC8.out.below hb BC8.out.lt)
  have BR9 := Lib.hid (BR8.out.below hb BR8.out.lt)
  have BG9 := Lib.hid (BG8.out.below hb BG8.out.lt)
  have HB9 := Lib.hid (HB8.out.trans (hb.mono HB8.out.size))
  have HSD9 := Lib.hid ((Rd.below HSD8.out hb).more hb.size)
  clear hb BC8 BR8 BG8 HB8 HSD8 qc0 qc1 qc2 qc3 qc4 qc5 qc6
  obtain ⟨A20, c20, rfl, -, -, hR20⟩ := hO20.shape
  rw [sumsL_len] at hR20 ⊢
  have HSP9 := Lib.hid (Rd.congr hR20 fun k hk => by rw [sumsL_get _ _ _ _ _ _ _ hk])
  clear hO20 hR20
  obtain ⟨V, hV⟩ : ∃ V, V = W9 := ⟨_, rfl⟩
  subst hV
  have BC := BC9
  have BR := BR9
  have BG := BG9
  have HB := HB9
  have HSD := HSD9
  have HSP := HSP9
  clear BC9 BR9 BG9 HB9 HSD9 HSP9
  obtain ⟨sf, hsf⟩ : ∃ f, f = rowSum lo hi rv MfD ju := ⟨_, rfl⟩
  obtain ⟨rf, hrf⟩ : ∃ f, f = rowSum lo hi rv MfP ju := ⟨_, rfl⟩
  rw [← hsf] at HSD
  rw [← hrf] at HSP
  have hsr : ∀ k, k < nd → 0 ≤ sf k ∧ sf k ≤ 5000 := fun k hk => by
    have h := sumTo_range (f := fun j => bet lo hi rv (MfD k j)) (a := 0) (b := 1000) ju fun j hj => bet_range HCR.out ((HTD.out.2 k hk).2 j hj)
    rw [hsf]
    unfold rowSum
    omega
  have HSR := Lib.hid hsr
  have HSF := Lib.hid hsf
  have HRF := Lib.hid hrf
  clear hsr hsf hrf
  go_wp2_with fail
  go_loopw [22, 154] (fun v i wr => ∃ k f : Nat, k ≤ nd ∧ i = .int .i64 k ∧ v = .int .i64 f ∧ f < nd ∧ (∀ q, q < k → sf q ≤ sf f) ∧ wr = V) (fun _ i _ => nd - (intOf i).toNat)
  case atStart => exact ⟨0, 0, by omega, rfl, rfl, by omega, fun q h => by omega, rfl⟩
  case round =>
    obtain ⟨k, f, hk, rfl, rfl, hf, hm, hwr⟩ := hrel
    subst hwr
    obtain ⟨V, hV⟩ : ∃ V, V = wr := ⟨_, rfl⟩
    subst hV
    have HM := Lib.hid hm
    clear hm
    obtain ⟨bs, os, rfl, hbs, hcf⟩ := HSD.out.at_ (k := f) hf
    rcases Nat.lt_or_ge k nd with h5 | h5
    · skip
      as_aux_lemma =>
        have g5 : decide ((k : Int) < (nd : Int)) = true := decide_eq_true (by omega)
        have g5n : decide (k < nd) = true := decide_eq_true h5
        obtain ⟨bs', os', e', -, hck⟩ := HSD.out.at_ (k := k) h5
        simp only [Option.some.injEq, Addr.mk.injEq, and_true] at e'
        obtain ⟨rfl, rfl⟩ := e'
        obtain ⟨y, hy⟩ : ∃ y, y = sf k := ⟨_, rfl⟩
        obtain ⟨z, hz⟩ : ∃ z, z = sf f := ⟨_, rfl⟩
        rw [← hy] at hck
        rw [← hz] at hcf
        have HY := Lib.hid hy
        have HZ := Lib.hid hz
        clear hy hz
        rcases Int.lt_or_le z y with h6 | h6
        · skip
          have g6 : decide (z < y) = true := decide_eq_true h6
          have HM2 := Lib.hid (show ∀ q, q < k + 1 → sf q ≤ sf k from fun q hq => by
            rcases Nat.lt_or_ge q k with h7 | h7
            · have h8 := HM.out q h7
              have h9 := HY.out
              have h10 := HZ.out
              omega
            · obtain rfl : q = k := by omega
              exact Int.le_refl _)
          clear h6
          go_wp2_with fail
          go_roundw
          case rel => exact ⟨k + 1, k, by omega, by go_num, rfl, h5, HM2.out, by first | trivial | rfl⟩
          case measure => simp [intOf]; omega
        · skip
          have g6 : decide (z < y) = false := decide_eq_false (by omega)
          have HM2 := Lib.hid (show ∀ q, q < k + 1 → sf q ≤ sf f from fun q hq => by
            rcases Nat.lt_or_ge q k with h7 | h7
            · exact HM.out q h7
            · obtain rfl : q = k := by omega
              rw [← HY.out, ← HZ.out]; exact h6)
          clear h6
          go_wp2_with fail
          go_roundw
          case rel => exact ⟨k + 1, f, by omega, by go_num, rfl, hf, HM2.out, by first | trivial | rfl⟩
          case measure => simp [intOf]; omega
    · skip
      as_aux_lemma =>
        have g5 : decide ((k : Int) < (nd : Int)) = false := decide_eq_false (by omega)
        have g5n : decide (k < nd) = false := decide_eq_false (by omega)
        have HMX := Lib.hid (show ∀ q, q < nd → sf q ≤ sf f from fun q hq => HM.out q (by omega))
        clear HM hcf
        go_wp2_with fail
        go_loopw [25, 169] (fun v i wr => ∃ (k : Nat) (b : Bool), k ≤ nd ∧ i = .int .i64 k ∧ v = .bool b ∧ (b = true ↔ ∃ q, q < k ∧ rf f < rf q) ∧ wr = V) (fun _ i _ => nd - (intOf i).toNat)
        case atStart => exact ⟨0, false, by omega, rfl, rfl, by simp, by first | trivial | rfl⟩
        case round =>
          obtain ⟨k2, b, hk2, rfl, rfl, hb, hwr⟩ := hrel
          subst hwr
          obtain ⟨V, hV⟩ : ∃ V, V = wr := ⟨_, rfl⟩
          subst hV
          have HBQ := Lib.hid hb
          clear hb
          obtain ⟨bp, op, rfl, hbp, hcf⟩ := HSP.out.at_ (k := f) hf
          rcases Nat.lt_or_ge k2 nd with h5 | h5
          · skip
            as_aux_lemma =>
              have g5 : decide ((k2 : Int) < (nd : Int)) = true := decide_eq_true (by omega)
              have g5n : decide (k2 < nd) = true := decide_eq_true h5
              obtain ⟨bp', op', e', -, hck⟩ := HSP.out.at_ (k := k2) h5
              simp only [Option.some.injEq, Addr.mk.injEq, and_true] at e'
              obtain ⟨rfl, rfl⟩ := e'
              obtain ⟨y, hy⟩ : ∃ y, y = rf k2 := ⟨_, rfl⟩
              obtain ⟨z, hz⟩ : ∃ z, z = rf f := ⟨_, rfl⟩
              rw [← hy] at hck
              rw [← hz] at hcf
              obtain ⟨b2, hb2⟩ : ∃ b2, b2 = (b || decide (z < y)) := ⟨_, rfl⟩
              have HB2 := Lib.hid (show b2 = true ↔ ∃ q, q < k2 + 1 ∧ rf f < rf q by
                rw [hb2, Bool.or_eq_true, HBQ.out, decide_eq_true_eq, hy, hz]
                constructor
                · rintro (⟨q, h1, h2⟩ | h)
                  · exact ⟨q, by omega, h2⟩
                  · exact ⟨k2, by omega, h⟩
                · rintro ⟨q, h1, h2⟩
                  rcases Nat.lt_or_ge q k2 with h3 | h3
                  · exact .inl ⟨q, h3, h2⟩
                  · obtain rfl : q = k2 := by omega
                    exact .inr h2)
              clear hy hz
              cases b with
              | true =>
                obtain rfl : b2 = true := by rw [hb2]; rfl
                clear hb2
                go_wp2_with fail
                go_roundw
                case rel => exact ⟨k2 + 1, true, by omega, by go_num, rfl, HB2.out, by first | trivial | rfl⟩
                case measure => simp [intOf]; omega
              | false =>
                rw [Bool.false_or] at hb2
                have g6 : decide (z < y) = b2 := hb2.symm
                have HB3 := Lib.hid hb2
                clear hb2
                go_wp2_with fail
                go_roundw
                case rel => exact ⟨k2 + 1, b2, by omega, by go_num, by first | rfl | rw [HB3.out], HB2.out, by first | trivial | rfl⟩
                case measure => simp [intOf]; omega
          · skip
            as_aux_lemma =>
              have g5 : decide ((k2 : Int) < (nd : Int)) = false := decide_eq_false (by omega)
              have g5n : decide (k2 < nd) = false := decide_eq_false (by omega)
              have HWRONG := Lib.hid (show b = true ↔ ∃ q, q < nd ∧ rf f < rf q by rw [HBQ.out, show k2 = nd by omega])
              clear HBQ hcf
              have hx1 : ∃ bd od, Ap = some ⟨bd, od, none⟩ := by obtain ⟨b, o, e, _⟩ := HP.out.top (by omega); exact ⟨b, o, e⟩
              obtain ⟨bpp, opp, rfl⟩ := hx1
              obtain ⟨nb, hnb⟩ : ∃ nb : Nat, (nb : Int) = marksN lo hi st := ⟨(marksN lo hi st).toNat, by have := marks_range HCR.out; omega⟩
              have hnb2 : 2 ≤ nb ∧ nb ≤ 1001 := by have := marks_range HCR.out; omega
              have HNB := Lib.hid hnb
              clear hnb
              obtain ⟨smb, hsmb⟩ : ∃ f : Nat → Bool, f = fun s => (bits BinOp.and IntKind.u8 ((sm : Int) / 2 ^ s) 1 == 1) := ⟨_, rfl⟩
              have HSMB := Lib.hid hsmb
              clear hsmb
              obtain ⟨AG, hAG⟩ : ∃ f, f = agOf MfD MfP ju smb := ⟨_, rfl⟩
              have HAGL := Lib.hid (show ∀ t, (AG t).length = t from fun t => by rw [hAG]; exact agOf_len ..)
              have HAGS := Lib.hid (show ∀ t, AG (t + 1) = AG t ++ [agF MfD MfP ju smb t] from fun t => by rw [hAG]; exact agOf_succ ..)
              have HAG0 := Lib.hid (show AG 0 = [] by rw [hAG]; rfl)
              have HAG := Lib.hid hAG
              clear hAG
              have hvz : V.heap.size ≤ V.heap.size := Nat.le_refl _
              go_upto_region 29 with (refine make_bool0 rfl _ _ rfl V.heap.size n rfl rfl (by omega) hvz ?_; intro W10 hO10 hG10)
              have HO10 := Lib.hid hO10
              have HB10 := Lib.hid (show Below V.heap.size V W10 from ⟨hG10.os, hG10.tape, hG10.output, hG10.size, fun i hi => hG10.block i hi (by simp)⟩)
              clear hO10 hG10 hvz
              go_wp2_with fail
              go_loopw [28, 29, 186] (fun v o i wr => ∃ a t : Nat, a ≤ nd ∧ i = .int .i64 a ∧ t = a * ju ∧ BOwn wr V.heap.size v (AG t) ∧ o = .int .i64 (offOf (AG t) : Nat) ∧ Below V.heap.size V wr) (fun _ _ i _ => nd - (intOf i).toNat)
              case atStart => exact ⟨0, 0, by omega, rfl, by simp, by rw [HAG0.out]; exact HO10.out, by rw [HAG0.out]; rfl, HB10.out⟩
              case round =>
                clear HO10 HB10
                obtain ⟨a, t, ha, rfl, ht, hO, rfl, hBV⟩ := hrel
                have HO := Lib.hid hO
                have HBV := Lib.hid hBV
                have HT := Lib.hid ht
                clear hO hBV ht
                rcases Nat.lt_or_ge a nd with h5 | h5
                · skip
                  as_aux_lemma =>
                    have g5 : decide ((a : Int) < (nd : Int)) = true := decide_eq_true (by omega)
                    have g5n : decide (a < nd) = true := decide_eq_true h5
                    go_wp2_with fail
                    obtain ⟨wo, hwo⟩ : ∃ x, x = wr := ⟨wr, rfl⟩
                    subst hwo
                    go_loopw [28, 29, 190] (fun v o j wr => ∃ c t : Nat, c ≤ ju ∧ j = .int .i64 c ∧ t = a * ju + c ∧ BOwn wr V.heap.size v (AG t) ∧ o = .int .i64 (offOf (AG t) : Nat) ∧ Below V.heap.size V wr) (fun _ _ j _ => ju - (intOf j).toNat)
                    case atStart => exact ⟨0, t, by omega, rfl, by rw [Nat.add_zero]; exact HT.out, HO.out, rfl, HBV.out⟩
                    case round =>
                      clear HO HBV HT
                      obtain ⟨c, t2, hc, rfl, ht2, hO, rfl, hBV⟩ := hrel
                      rcases Nat.lt_or_ge c ju with h6 | h6
                      · skip
                        as_aux_lemma =>
                          have g6 : decide ((c : Int) < (ju : Int)) = true := decide_eq_true (by omega)
                          have g6n : decide (c < ju) = true := decide_eq_true h6
                          obtain ⟨q1, q2, q3⟩ := cell_at h6 h5
                          rw [← ht2] at q1 q2 q3
                          rw [← HN.out] at q3
                          have ht5 : t2 ≤ 4 := by omega
                          have HQ1 := Lib.hid q1
                          have HQ2 := Lib.hid q2
                          have HT2 := Lib.hid ht2
                          obtain ⟨A28, c28, rfl, hl28, hm28, -⟩ := hO.shape
                          rw [HAGL.out] at hl28 hO ⊢
                          obtain ⟨o5, ho5⟩ : ∃ y, y = offOf (AG t2) := ⟨_, rfl⟩
                          rw [← ho5]
                          have ho5r : o5 ≤ 4 := by have h := off_le (AG t2); rw [HAGL.out] at h; omega
                          have HO5 := Lib.hid ho5
                          clear ho5
                          have HO := Lib.hid hO
                          have HBV := Lib.hid hBV
                          obtain ⟨wb, hwb⟩ : ∃ x, x = wr := ⟨wr, rfl⟩
                          subst hwb
                          clear q1 q2 ht2 hO hBV
                          have hBw : Below w.heap.size w wb := HB.out.trans (HBV.out.mono HB.out.size)
                          have HBw := Lib.hid hBw
                          obtain ⟨m, hm⟩ : ∃ m, m = MfP a c := ⟨_, rfl⟩
                          obtain ⟨dd, hdd⟩ : ∃ m, m = MfD a c := ⟨_, rfl⟩
                          have hmo : OnSc lo hi st m := by rw [hm]; exact (HTP.out.2 a h5).2 c h6
                          have hdo : OnSc lo hi st dd := by rw [hdd]; exact (HTD.out.2 a h5).2 c h6
                          obtain ⟨Ar, hAr⟩ : ∃ y, y = AfP a := ⟨_, rfl⟩
                          obtain ⟨cr, hcrr⟩ : ∃ y, y = CfP a := ⟨_, rfl⟩
                          obtain ⟨As, hAs⟩ : ∃ y, y = AfD a := ⟨_, rfl⟩
                          obtain ⟨cs, hcs⟩ : ∃ y, y = CfD a := ⟨_, rfl⟩
                          have hNP : NfP a = ju := (HTP.out.2 a h5).1
                          have hltP : bpp < w.heap.size := by obtain ⟨b, o, e, h, _⟩ := HP.out.top (by omega); simp only [Option.some.injEq, Addr.mk.injEq, and_true] at e; rw [e.1]; exact h
                          have HCELLP := Lib.hid (show ∀ W, Below wb.heap.size wb W → W.cell? ⟨bpp, opp + a, none⟩ = some (.slice Ar ju cr) from fun W hW => by
                            obtain ⟨b, o, e, h, hcc⟩ := (HP.out.below (HBw.out.trans (hW.mono HBw.out.size))).top.at_ h5
                            simp only [Option.some.injEq, Addr.mk.injEq, and_true] at e
                            obtain ⟨rfl, rfl⟩ := e
                            rw [hcc, hNP, hAr, hcrr])
                          have hcapP : ju ≤ cr := by have := (HP.out.cap a h5).1; rw [hNP, ← hcrr] at this; exact this
                          have HROWP := Lib.hid (show ∀ W, Below wb.heap.size wb W → Rd W W.heap.size (partA Ar cr c) 1 (fun _ => .int .i64 m) from fun W hW => by
                            have hbw := HBw.out.trans (hW.mono HBw.out.size)
                            have h := partA_rd (i := c) (j := c + 1) (((HP.out.below hbw).more hbw.size).row a h5) (by omega) (by rw [hNP]; omega) (HP.out.cap a h5).1
                            rw [Nat.add_sub_cancel_left] at h
                            rw [hAr, hcrr]
                            refine h.congr fun k hk => ?_
                            rw [show c + k = c by omega, hm])
                          have HELTP := Lib.hid (show ∀ W, Below wb.heap.size wb W → ∃ b o, Ar = some ⟨b, o, none⟩ ∧ W.cell? ⟨b, o + c, none⟩ = some (.int .i64 m) from fun W hW => by
                            have hbw := HBw.out.trans (hW.mono HBw.out.size)
                            obtain ⟨b, o, e, h, hcc⟩ := ((HP.out.below hbw).row a h5).at_ (k := c) (by rw [hNP]; exact h6)
                            exact ⟨b, o, by rw [hAr]; exact e, by rw [hcc, hm]⟩)
                          have hslP : ∀ W : World, (Instr.slice 25 (.slice Ar ju cr) (some (.int .i64 (c : Int))) (some (.int .i64 ((c : Int) + 1))) none).run Tryz.prog W = .ok (.slice (partA Ar cr c) 1 (cr - c)) W := fun W => by
                            have h := slice_lohi Ar ju cr c (c + 1) (by omega) (by omega) hcapP W
                            rw [Nat.add_sub_cancel_left] at h
                            exact h
                          have hND : NfD a = ju := (HTD.out.2 a h5).1
                          have hltD : bd < w.heap.size := by obtain ⟨b, o, e, h, _⟩ := HD.out.top (by omega); simp only [Option.some.injEq, Addr.mk.injEq, and_true] at e; rw [e.1]; exact h
                          have HCELLD := Lib.hid (show ∀ W, Below wb.heap.size wb W → W.cell? ⟨bd, od + a, none⟩ = some (.slice As ju cs) from fun W hW => by
                            obtain ⟨b, o, e, h, hcc⟩ := (HD.out.below (HBw.out.trans (hW.mono HBw.out.size))).top.at_ h5
                            simp only [Option.some.injEq, Addr.mk.injEq, and_true] at e
                            obtain ⟨rfl, rfl⟩ := e
                            rw [hcc, hND, hAs, hcs])
                          have hcapD : ju ≤ cs := by have := (HD.out.cap a h5).1; rw [hND, ← hcs] at this; exact this
                          have HROWD := Lib.hid (show ∀ W, Below wb.heap.size wb W → Rd W W.heap.size (partA As cs c) 1 (fun _ => .int .i64 dd) from fun W hW => by
                            have hbw := HBw.out.trans (hW.mono HBw.out.size)
                            have h := partA_rd (i := c) (j := c + 1) (((HD.out.below hbw).more hbw.size).row a h5) (by omega) (by rw [hND]; omega) (HD.out.cap a h5).1
                            rw [Nat.add_sub_cancel_left] at h
                            rw [hAs, hcs]
                            refine h.congr fun k hk => ?_
                            rw [show c + k = c by omega, hdd])
                          have HELTD := Lib.hid (show ∀ W, Below wb.heap.size wb W → ∃ b o, As = some ⟨b, o, none⟩ ∧ W.cell? ⟨b, o + c, none⟩ = some (.int .i64 dd) from fun W hW => by
                            have hbw := HBw.out.trans (hW.mono HBw.out.size)
                            obtain ⟨b, o, e, h, hcc⟩ := ((HD.out.below hbw).row a h5).at_ (k := c) (by rw [hND]; exact h6)
                            exact ⟨b, o, by rw [hAs]; exact e, by rw [hcc, hdd]⟩)
                          have hslD : ∀ W : World, (Instr.slice 25 (.slice As ju cs) (some (.int .i64 (c : Int))) (some (.int .i64 ((c : Int) + 1))) none).run Tryz.prog W = .ok (.slice (partA As cs c) 1 (cs - c)) W := fun W => by
                            have h := slice_lohi As ju cs c (c + 1) (by omega) (by omega) hcapD W
                            rw [Nat.add_sub_cancel_left] at h
                            exact h
                          have HMM := Lib.hid hm
                          have HDD := Lib.hid hdd
                          have HMO := Lib.hid hmo
                          have HDO := Lib.hid hdo
                          obtain ⟨tk, htk⟩ : ∃ y, y = tickN lo st m := ⟨_, rfl⟩
                          have htf := tick_facts HCR.out hmo
                          rw [← htk] at htf
                          have htkn : tk < nb := by have h1 := htf.2.2; rw [← HNB.out] at h1; omega
                          have HTKV := Lib.hid htf.1
                          have HTK := Lib.hid htk
                          have HSL := Lib.hid (And.intro hslP hslD)
                          have HHL := Lib.hid (show H < V.heap.size from BC.out.lt)
                          have HCE := Lib.hid (show ∀ W, Below wb.heap.size wb W → Blk W H 23 (critC xs lo hi st ho tr rv) from fun W hW => BC.out.below (HBV.out.trans (hW.mono HBV.out.size)) BC.out.lt)
                          clear hBw hm hdd hmo hdo hAr hcrr hAs hcs hNP hND htk htf hslP hslD hcapP hcapD
                          go_upto_region 36 with fail
                          go_cut [32] from 191 to 269 (fun v W => ∃ gs gv kb gb : Nat, v = .pointer (some ⟨gs, 0, none⟩) ∧ Sh36 wb W gs gv kb gb nb t2 a c (fillL nb tk))
                          case first =>
                            as_aux_lemma =>
                              refine wp_region_held_drew (S := fun W' => Below wb.heap.size wb W') (by kernel_rfl) (Below.refl _ _).drew (fun hS => ?_)
                              have HB0 := Lib.hid (show Below wb.heap.size wb wb.drew from (Below.refl _ _).drew)
                              clear hS
                              generalize wb.drew = W0 at HB0 ⊢
                              refine wpAnyH_take (i := 0) (v := (.slice A28 t2 c28)) rfl (by kernel_rfl) (by kernel_rfl) (by kernel_rfl) (fun _ _ _ h => h) (Or.inl ⟨by rfl, fun W' hS' => by go_simp⟩) HB0.out ?_
                              simp only [Act.put, List.getElem_toArray, List.getElem_cons_zero, List.getElem_cons_succ, List.setIfInBounds_toArray, List.set_cons_zero, List.set_cons_succ]
                              refine wpAnyH_take (i := 1) (v := (.int .i64 t2)) rfl (by kernel_rfl) (by kernel_rfl) (by kernel_rfl) (fun _ _ _ h => h) (Or.inl ⟨by rfl, fun W' hS' => by go_simp⟩) HB0.out ?_
                              simp only [Act.put, List.getElem_toArray, List.getElem_cons_zero, List.getElem_cons_succ, List.setIfInBounds_toArray, List.set_cons_zero, List.set_cons_succ]
                              refine wpAnyH_take (i := 2) (v := (.int .i64 a)) rfl (by kernel_rfl) (by kernel_rfl) (by kernel_rfl) (fun _ _ _ h => h) (Or.inl ⟨by rfl, fun W' hS' => by go_simp⟩) HB0.out ?_
                              simp only [Act.put, List.getElem_toArray, List.getElem_cons_zero, List.getElem_cons_succ, List.setIfInBounds_toArray, List.set_cons_zero, List.set_cons_succ]
                              refine wpAnyH_take (i := 3) (v := (.int .i64 c)) rfl (by kernel_rfl) (by kernel_rfl) (by kernel_rfl) (fun _ _ _ h => h) (Or.inl ⟨by rfl, fun W' hS' => by go_simp⟩) HB0.out ?_
                              simp only [Act.put, List.getElem_toArray, List.getElem_cons_zero, List.getElem_cons_succ, List.setIfInBounds_toArray, List.set_cons_zero, List.set_cons_succ]
                              refine wpAnyH_take (i := 4) (v := (.agg (critC xs lo hi st ho tr rv))) rfl (by kernel_rfl) (by kernel_rfl) (by kernel_rfl) (fun _ _ _ h => h) (Or.inl ⟨by rfl, fun W' hS' => by have hC := HCE.out W' hS'; have qc0 : W'.cell? ⟨H, 0, none⟩ = some (.string xs) := hC.cell 0; have qc1 : W'.cell? ⟨H, 1, none⟩ = some (.int .i64 lo) := hC.cell 1; have qc2 : W'.cell? ⟨H, 2, none⟩ = some (.int .i64 hi) := hC.cell 2; have qc3 : W'.cell? ⟨H, 3, none⟩ = some (.int .i64 st) := hC.cell 3; have qc4 : W'.cell? ⟨H, 4, none⟩ = some (.int .i64 ho) := hC.cell 4; have qc5 : W'.cell? ⟨H, 5, none⟩ = some (.int .i64 tr) := hC.cell 5; have qc6 : W'.cell? ⟨H, 6, none⟩ = some (.bool rv) := hC.cell 6; go_simp⟩) HB0.out ?_
                              simp only [Act.put, List.getElem_toArray, List.getElem_cons_zero, List.getElem_cons_succ, List.setIfInBounds_toArray, List.set_cons_zero, List.set_cons_succ]
                              refine wpAnyH_take (i := 6) (v := (.slice (some ⟨bpp, opp, none⟩) nd cp)) rfl (by kernel_rfl) (by kernel_rfl) (by kernel_rfl) (fun _ _ _ h => h) (Or.inl ⟨by rfl, fun W' hS' => by go_simp⟩) HB0.out ?_
                              simp only [Act.put, List.getElem_toArray, List.getElem_cons_zero, List.getElem_cons_succ, List.setIfInBounds_toArray, List.set_cons_zero, List.set_cons_succ]
                              refine wpAnyH_take (i := 7) (v := (.int .i64 a)) rfl (by kernel_rfl) (by kernel_rfl) (by kernel_rfl) (fun _ _ _ h => h) (Or.inl ⟨by rfl, fun W' hS' => by go_simp⟩) HB0.out ?_
                              simp only [Act.put, List.getElem_toArray, List.getElem_cons_zero, List.getElem_cons_succ, List.setIfInBounds_toArray, List.set_cons_zero, List.set_cons_succ]
                              refine wpAnyH_take (i := 8) (v := (.pointer (some ⟨bpp, opp + a, none⟩))) rfl (by kernel_rfl) (by kernel_rfl) (by kernel_rfl) (fun _ _ _ h => h) (Or.inl ⟨by rfl, fun W' hS' => by go_simp⟩) HB0.out ?_
                              simp only [Act.put, List.getElem_toArray, List.getElem_cons_zero, List.getElem_cons_succ, List.setIfInBounds_toArray, List.set_cons_zero, List.set_cons_succ]
                              refine wpAnyH_take (i := 9) (v := (.slice Ar ju cr)) rfl (by kernel_rfl) (by kernel_rfl) (by kernel_rfl) (fun _ _ _ h => h) (Or.inl ⟨by rfl, fun W' hS' => by have q := HCELLP.out W' hS'; go_simp⟩) HB0.out ?_
                              simp only [Act.put, List.getElem_toArray, List.getElem_cons_zero, List.getElem_cons_succ, List.setIfInBounds_toArray, List.set_cons_zero, List.set_cons_succ]
                              refine wpAnyH_take (i := 10) (v := (.int .i64 c)) rfl (by kernel_rfl) (by kernel_rfl) (by kernel_rfl) (fun _ _ _ h => h) (Or.inl ⟨by rfl, fun W' hS' => by go_simp⟩) HB0.out ?_
                              simp only [Act.put, List.getElem_toArray, List.getElem_cons_zero, List.getElem_cons_succ, List.setIfInBounds_toArray, List.set_cons_zero, List.set_cons_succ]
                              refine wpAnyH_take (i := 11) (v := (.int .i64 c)) rfl (by kernel_rfl) (by kernel_rfl) (by kernel_rfl) (fun _ _ _ h => h) (Or.inl ⟨by rfl, fun W' hS' => by go_simp⟩) HB0.out ?_
                              simp only [Act.put, List.getElem_toArray, List.getElem_cons_zero, List.getElem_cons_succ, List.setIfInBounds_toArray, List.set_cons_zero, List.set_cons_succ]
                              refine wpAnyH_take (i := 12) (v := (.int .i64 ((c : Int) + 1))) rfl (by kernel_rfl) (by kernel_rfl) (by kernel_rfl) (fun _ _ _ h => h) (Or.inl ⟨by rfl, fun W' hS' => by have hww : IntKind.i64.wrap ((c : Int) + 1) = (c : Int) + 1 := IntWalk.i64_in _ (by omega); go_simp⟩) HB0.out ?_
                              simp only [Act.put, List.getElem_toArray, List.getElem_cons_zero, List.getElem_cons_succ, List.setIfInBounds_toArray, List.set_cons_zero, List.set_cons_succ]
                              refine wpAnyH_take (i := 13) (v := (.slice (partA Ar cr c) 1 (cr - c))) rfl (by kernel_rfl) (by kernel_rfl) (by kernel_rfl) (fun _ _ _ h => h) (Or.inl ⟨by rfl, fun W' hS' => by have q := HSL.out.1 W'; go_simp⟩) HB0.out ?_
                              simp only [Act.put, List.getElem_toArray, List.getElem_cons_zero, List.getElem_cons_succ, List.setIfInBounds_toArray, List.set_cons_zero, List.set_cons_succ]
                              refine wpAnyH_ready (rs := [5, 16]) (by kernel_rfl) (by simp) ?_
                              refine AllReadyH.cons rfl (fun Kq hKq => ?_) (AllReadyH.cons rfl (fun Kq hKq => ?_) (AllReadyH.nil))
                              · skip
                                as_aux_lemma =>
                                  simp only [List.getElem_toArray, List.getElem_cons_zero, List.getElem_cons_succ]
                                  rw [if_pos (by rfl)]
                                  refine wp_bslice_crit _ rfl xs lo hi st ho tr rv rfl ?_
                                  intro W1 hG hb hz
                                  obtain ⟨gc, hgc⟩ : ∃ g, g = W0.heap.size := ⟨_, rfl⟩
                                  rw [← hgc] at hG hz ⊢
                                  have HG1 := Lib.hid hG
                                  clear hgc hG hz
                                  have HB1 := Lib.hid (HB0.out.trans (hb.mono HB0.out.size))
                                  clear hb
                                  refine hKq.out _ _ HB1.out (fun _ => ?_)
                                  clear hKq Kq
                                  simp only [Act.put, List.getElem_toArray, List.getElem_cons_zero, List.getElem_cons_succ, List.setIfInBounds_toArray, List.set_cons_zero, List.set_cons_succ]
                                  refine wpAnyH_ready (rs := [14, 16]) (by kernel_rfl) (by simp) ?_
                                  refine AllReadyH.cons rfl (fun Kq hKq => ?_) (AllReadyH.cons rfl (fun Kq hKq => ?_) (AllReadyH.nil))
                                  · skip
                                    as_aux_lemma =>
                                      simp only [List.getElem_toArray, List.getElem_cons_zero, List.getElem_cons_succ]
                                      go_simp
                                      refine (HFILL.out gc 23 (partA Ar cr c) (cr - c) m HMO.out nb HNB.out W1 HG1.out (HROWP.out W1 HB1.out)).mono ?_
                                      rintro e W2 ⟨gv, kb, gb, rfl, hne3, hov, hox, hb⟩
                                      rw [← HTK.out] at hox
                                      have HF2 := Lib.hid (show SOwn W2 wb.heap.size (.slice (some ⟨gv, 0, none⟩) 1 kb) [.slice (some ⟨gb, 0, none⟩) nb nb] ∧ IOwn W2 wb.heap.size (.slice (some ⟨gb, 0, none⟩) nb nb) (fillL nb tk) from ⟨own_weaken hov HB1.out.size, own_sub hox HB1.out.size⟩)
                                      have HNE3 := Lib.hid hne3
                                      clear hov hox hne3
                                      have HB2 := Lib.hid (HB1.out.trans (hb.mono HB1.out.size))
                                      have HG2 := Lib.hid (HG1.out.below hb HG1.out.lt)
                                      clear hb
                                      refine hKq.out _ _ HB2.out (fun _ => ?_)
                                      clear hKq Kq
                                      try simp only [Act.put, List.getElem_toArray, List.getElem_cons_zero, List.getElem_cons_succ, List.setIfInBounds_toArray, List.set_cons_zero, List.set_cons_succ]
                                      refine wpAnyH_take (i := 15) (v := (.agg (sheetC t2 0 a c (some ⟨gv, 0, none⟩) kb))) rfl (by kernel_rfl) (by kernel_rfl) (by kernel_rfl) (fun _ _ _ h => h) (Or.inl ⟨by rfl, fun W' hS' => by have q := built_sheet (t2 : Int) (a : Int) (c : Int) (some ⟨gv, 0, none⟩) kb; go_simp⟩) HB2.out ?_
                                      simp only [Act.put, List.getElem_toArray, List.getElem_cons_zero, List.getElem_cons_succ, List.setIfInBounds_toArray, List.set_cons_zero, List.set_cons_succ]
                                      refine wpAnyH_ready (rs := [16]) (by kernel_rfl) (by simp) ?_
                                      refine AllReadyH.cons rfl (fun Kq hKq => ?_) (AllReadyH.nil)
                                      simp only [List.getElem_toArray, List.getElem_cons_zero, List.getElem_cons_succ]
                                      rw [if_pos (by rfl)]
                                      refine wp_alloc_sheet rfl ?_
                                      intro W3 z5 hz5 hG hb hz
                                      obtain ⟨gs, hgs⟩ : ∃ g, g = W2.heap.size := ⟨_, rfl⟩
                                      rw [← hgs] at hG hz ⊢
                                      have HGS0 := Lib.hid (show wb.heap.size ≤ gs by rw [hgs]; exact HB2.out.size)
                                      have HZ5 := Lib.hid hz5
                                      have HS3 := Lib.hid hG
                                      have HNE1 := Lib.hid (show gs ≠ gv by have := (World.ownsRow.lt HF2.out.1 gv (own_some _ _ _)).2; omega)
                                      have HNE2 := Lib.hid (show gs ≠ gb by have := (World.ownsRow.lt HF2.out.2 gb (own_some _ _ _)).2; omega)
                                      clear hgs hG hz hz5
                                      have HB3 := Lib.hid (HB2.out.trans (hb.mono HB2.out.size))
                                      have HG3 := Lib.hid (HG2.out.below hb HG2.out.lt)
                                      have HF3 := Lib.hid (And.intro (HF2.out.1.below hb) (IOwn.below HF2.out.2 hb))
                                      clear hb
                                      refine hKq.out _ _ HB3.out (fun _ => ?_)
                                      clear hKq Kq
                                      simp only [Act.put, List.getElem_toArray, List.getElem_cons_zero, List.getElem_cons_succ, List.setIfInBounds_toArray, List.set_cons_zero, List.set_cons_succ]
                                      refine wpAnyH_ready (rs := [17]) (by kernel_rfl) (by simp) ?_
                                      refine AllReadyH.cons rfl (fun Kq hKq => ?_) (AllReadyH.nil)
                                      simp only [List.getElem_toArray, List.getElem_cons_zero, List.getElem_cons_succ]
                                      rw [if_pos (by rfl)]
                                      refine wp_store_sheet _ _ rfl HS3.out (t2 : Int) 0 (a : Int) (c : Int) (some ⟨gv, 0, none⟩) kb rfl rfl HZ5.out ?_
                                      intro W4 hG hoo hzz
                                      have HSH := Lib.hid (sh36_of (t := (t2 : Int)) (a := (a : Int)) (c := (c : Int)) HB3.out HGS0.out HF3.out.1 HF3.out.2 (fillL_len _ _) HNE1.out HNE2.out HNE3.out hG hoo)
                                      have HB4 := Lib.hid HSH.out.below
                                      refine hKq.out _ _ HB4.out (fun _ => ?_)
                                      clear hKq Kq
                                      simp only [Act.put, List.getElem_toArray, List.getElem_cons_zero, List.getElem_cons_succ, List.setIfInBounds_toArray, List.set_cons_zero, List.set_cons_succ]
                                      refine wpAnyH_done (by kernel_rfl) ?_ _
                                      go_wp2_with fail
                                      go_meet
                                      case rel => exact ⟨gs, gv, kb, gb, rfl, HSH.out⟩
                                  · skip
                                    as_aux_lemma =>
                                      simp only [List.getElem_toArray, List.getElem_cons_zero, List.getElem_cons_succ]
                                      rw [if_pos (by rfl)]
                                      refine wp_alloc_sheet rfl ?_
                                      intro W2 z5 hz5 hG hb hz
                                      obtain ⟨gs, hgs⟩ : ∃ g, g = W1.heap.size := ⟨_, rfl⟩
                                      rw [← hgs] at hG hz ⊢
                                      have HGS0 := Lib.hid (show wb.heap.size ≤ gs by rw [hgs]; exact HB1.out.size)
                                      have HZ5 := Lib.hid hz5
                                      have HS2 := Lib.hid hG
                                      clear hgs hG hz hz5
                                      have HB2 := Lib.hid (HB1.out.trans (hb.mono HB1.out.size))
                                      have HG2 := Lib.hid (HG1.out.below hb HG1.out.lt)
                                      clear hb
                                      refine hKq.out _ _ HB2.out (fun _ => ?_)
                                      clear hKq Kq
                                      simp only [Act.put, List.getElem_toArray, List.getElem_cons_zero, List.getElem_cons_succ, List.setIfInBounds_toArray, List.set_cons_zero, List.set_cons_succ]
                                      refine wpAnyH_ready (rs := [14]) (by kernel_rfl) (by simp) ?_
                                      refine AllReadyH.cons rfl (fun Kq hKq => ?_) (AllReadyH.nil)
                                      simp only [List.getElem_toArray, List.getElem_cons_zero, List.getElem_cons_succ]
                                      go_simp
                                      refine (HFILL.out gc 23 (partA Ar cr c) (cr - c) m HMO.out nb HNB.out W2 HG2.out (HROWP.out W2 HB2.out)).mono ?_
                                      rintro e W3 ⟨gv, kb, gb, rfl, hne3, hov, hox, hb⟩
                                      rw [← HTK.out] at hox
                                      have HNE1 := Lib.hid (show gs ≠ gv by have h1 := (World.ownsRow.lt hov gv (own_some _ _ _)).1; have h2 := HS2.out.lt; omega)
                                      have HNE2 := Lib.hid (show gs ≠ gb by have h1 := (World.ownsRow.lt hox gb (own_some _ _ _)).1; have h2 := HS2.out.lt; omega)
                                      have HF3 := Lib.hid (show SOwn W3 wb.heap.size (.slice (some ⟨gv, 0, none⟩) 1 kb) [.slice (some ⟨gb, 0, none⟩) nb nb] ∧ IOwn W3 wb.heap.size (.slice (some ⟨gb, 0, none⟩) nb nb) (fillL nb tk) from ⟨own_weaken hov HB2.out.size, own_sub hox HB2.out.size⟩)
                                      have HNE3 := Lib.hid hne3
                                      clear hov hox hne3
                                      have HB3 := Lib.hid (HB2.out.trans (hb.mono HB2.out.size))
                                      have HG3 := Lib.hid (HG2.out.below hb HG2.out.lt)
                                      have HS3 := Lib.hid (HS2.out.below hb HS2.out.lt)
                                      clear hb
                                      refine hKq.out _ _ HB3.out (fun _ => ?_)
                                      clear hKq Kq
                                      try simp only [Act.put, List.getElem_toArray, List.getElem_cons_zero, List.getElem_cons_succ, List.setIfInBounds_toArray, List.set_cons_zero, List.set_cons_succ]
                                      refine wpAnyH_take (i := 15) (v := (.agg (sheetC t2 0 a c (some ⟨gv, 0, none⟩) kb))) rfl (by kernel_rfl) (by kernel_rfl) (by kernel_rfl) (fun _ _ _ h => h) (Or.inl ⟨by rfl, fun W' hS' => by have q := built_sheet (t2 : Int) (a : Int) (c : Int) (some ⟨gv, 0, none⟩) kb; go_simp⟩) HB3.out ?_
                                      simp only [Act.put, List.getElem_toArray, List.getElem_cons_zero, List.getElem_cons_succ, List.setIfInBounds_toArray, List.set_cons_zero, List.set_cons_succ]
                                      refine wpAnyH_ready (rs := [17]) (by kernel_rfl) (by simp) ?_
                                      refine AllReadyH.cons rfl (fun Kq hKq => ?_) (AllReadyH.nil)
                                      simp only [List.getElem_toArray, List.getElem_cons_zero, List.getElem_cons_succ]
                                      rw [if_pos (by rfl)]
                                      refine wp_store_sheet _ _ rfl HS3.out (t2 : Int) 0 (a : Int) (c : Int) (some ⟨gv, 0, none⟩) kb rfl rfl HZ5.out ?_
                                      intro W4 hG hoo hzz
                                      have HSH := Lib.hid (sh36_of (t := (t2 : Int)) (a := (a : Int)) (c := (c : Int)) HB3.out HGS0.out HF3.out.1 HF3.out.2 (fillL_len _ _) HNE1.out HNE2.out HNE3.out hG hoo)
                                      have HB4 := Lib.hid HSH.out.below
                                      refine hKq.out _ _ HB4.out (fun _ => ?_)
                                      clear hKq Kq
                                      simp only [Act.put, List.getElem_toArray, List.getElem_cons_zero, List.getElem_cons_succ, List.setIfInBounds_toArray, List.set_cons_zero, List.set_cons_succ]
                                      refine wpAnyH_done (by kernel_rfl) ?_ _
                                      go_wp2_with fail
                                      go_meet
                                      case rel => exact ⟨gs, gv, kb, gb, rfl, HSH.out⟩
                              · skip
                                as_aux_lemma =>
                                  simp only [List.getElem_toArray, List.getElem_cons_zero, List.getElem_cons_succ]
                                  rw [if_pos (by rfl)]
                                  refine wp_alloc_sheet rfl ?_
                                  intro W1 z5 hz5 hG hb hz
                                  obtain ⟨gs, hgs⟩ : ∃ g, g = W0.heap.size := ⟨_, rfl⟩
                                  rw [← hgs] at hG hz ⊢
                                  have HGS0 := Lib.hid (show wb.heap.size ≤ gs by rw [hgs]; exact HB0.out.size)
                                  have HZ5 := Lib.hid hz5
                                  have HS1 := Lib.hid hG
                                  clear hgs hG hz hz5
                                  have HB1 := Lib.hid (HB0.out.trans (hb.mono HB0.out.size))
                                  clear hb
                                  refine hKq.out _ _ HB1.out (fun _ => ?_)
                                  clear hKq Kq
                                  simp only [Act.put, List.getElem_toArray, List.getElem_cons_zero, List.getElem_cons_succ, List.setIfInBounds_toArray, List.set_cons_zero, List.set_cons_succ]
                                  refine wpAnyH_ready (rs := [5]) (by kernel_rfl) (by simp) ?_
                                  refine AllReadyH.cons rfl (fun Kq hKq => ?_) (AllReadyH.nil)
                                  simp only [List.getElem_toArray, List.getElem_cons_zero, List.getElem_cons_succ]
                                  rw [if_pos (by rfl)]
                                  refine wp_bslice_crit _ rfl xs lo hi st ho tr rv rfl ?_
                                  intro W2 hG hb hz
                                  obtain ⟨gc, hgc⟩ : ∃ g, g = W1.heap.size := ⟨_, rfl⟩
                                  rw [← hgc] at hG hz ⊢
                                  have HG2 := Lib.hid hG
                                  clear hgc hG hz
                                  have HB2 := Lib.hid (HB1.out.trans (hb.mono HB1.out.size))
                                  have HS2 := Lib.hid (HS1.out.below hb HS1.out.lt)
                                  clear hb
                                  refine hKq.out _ _ HB2.out (fun _ => ?_)
                                  clear hKq Kq
                                  simp only [Act.put, List.getElem_toArray, List.getElem_cons_zero, List.getElem_cons_succ, List.setIfInBounds_toArray, List.set_cons_zero, List.set_cons_succ]
                                  refine wpAnyH_ready (rs := [14]) (by kernel_rfl) (by simp) ?_
                                  refine AllReadyH.cons rfl (fun Kq hKq => ?_) (AllReadyH.nil)
                                  simp only [List.getElem_toArray, List.getElem_cons_zero, List.getElem_cons_succ]
                                  go_simp
                                  refine (HFILL.out gc 23 (partA Ar cr c) (cr - c) m HMO.out nb HNB.out W2 HG2.out (HROWP.out W2 HB2.out)).mono ?_
                                  rintro e W3 ⟨gv, kb, gb, rfl, hne3, hov, hox, hb⟩
                                  rw [← HTK.out] at hox
                                  have HNE1 := Lib.hid (show gs ≠ gv by have h1 := (World.ownsRow.lt hov gv (own_some _ _ _)).1; have h2 := HS2.out.lt; omega)
                                  have HNE2 := Lib.hid (show gs ≠ gb by have h1 := (World.ownsRow.lt hox gb (own_some _ _ _)).1; have h2 := HS2.out.lt; omega)
                                  have HF3 := Lib.hid (show SOwn W3 wb.heap.size (.slice (some ⟨gv, 0, none⟩) 1 kb) [.slice (some ⟨gb, 0, none⟩) nb nb] ∧ IOwn W3 wb.heap.size (.slice (some ⟨gb, 0, none⟩) nb nb) (fillL nb tk) from ⟨own_weaken hov HB2.out.size, own_sub hox HB2.out.size⟩)
                                  have HNE3 := Lib.hid hne3
                                  clear hov hox hne3
                                  have HB3 := Lib.hid (HB2.out.trans (hb.mono HB2.out.size))
                                  have HG3 := Lib.hid (HG2.out.below hb HG2.out.lt)
                                  have HS3 := Lib.hid (HS2.out.below hb HS2.out.lt)
                                  clear hb
                                  refine hKq.out _ _ HB3.out (fun _ => ?_)
                                  clear hKq Kq
                                  try simp only [Act.put, List.getElem_toArray, List.getElem_cons_zero, List.getElem_cons_succ, List.setIfInBounds_toArray, List.set_cons_zero, List.set_cons_succ]
                                  refine wpAnyH_take (i := 15) (v := (.agg (sheetC t2 0 a c (some ⟨gv, 0, none⟩) kb))) rfl (by kernel_rfl) (by kernel_rfl) (by kernel_rfl) (fun _ _ _ h => h) (Or.inl ⟨by rfl, fun W' hS' => by have q := built_sheet (t2 : Int) (a : Int) (c : Int) (some ⟨gv, 0, none⟩) kb; go_simp⟩) HB3.out ?_
                                  simp only [Act.put, List.getElem_toArray, List.getElem_cons_zero, List.getElem_cons_succ, List.setIfInBounds_toArray, List.set_cons_zero, List.set_cons_succ]
                                  refine wpAnyH_ready (rs := [17]) (by kernel_rfl) (by simp) ?_
                                  refine AllReadyH.cons rfl (fun Kq hKq => ?_) (AllReadyH.nil)
                                  simp only [List.getElem_toArray, List.getElem_cons_zero, List.getElem_cons_succ]
                                  rw [if_pos (by rfl)]
                                  refine wp_store_sheet _ _ rfl HS3.out (t2 : Int) 0 (a : Int) (c : Int) (some ⟨gv, 0, none⟩) kb rfl rfl HZ5.out ?_
                                  intro W4 hG hoo hzz
                                  have HSH := Lib.hid (sh36_of (t := (t2 : Int)) (a := (a : Int)) (c := (c : Int)) HB3.out HGS0.out HF3.out.1 HF3.out.2 (fillL_len _ _) HNE1.out HNE2.out HNE3.out hG hoo)
                                  have HB4 := Lib.hid HSH.out.below
                                  refine hKq.out _ _ HB4.out (fun _ => ?_)
                                  clear hKq Kq
                                  simp only [Act.put, List.getElem_toArray, List.getElem_cons_zero, List.getElem_cons_succ, List.setIfInBounds_toArray, List.set_cons_zero, List.set_cons_succ]
                                  refine wpAnyH_done (by kernel_rfl) ?_ _
                                  go_wp2_with fail
                                  go_meet
                                  case rel => exact ⟨gs, gv, kb, gb, rfl, HSH.out⟩
                          case rest =>
                            as_aux_lemma =>
                              obtain ⟨gs, gv, kb, gb, rfl, hS⟩ := hcut
                              have HSH := Lib.hid hS
                              clear hS
                              go_upto_if 215 with fail
                              obtain ⟨sv, hsv⟩ : ∃ sv, sv = (bits BinOp.and IntKind.u8 ((sm : Int) / 2 ^ t2) 1 == 1) := ⟨_, rfl⟩
                              rw [← hsv]
                              have HSV := Lib.hid (show smb t2 = sv by rw [HSMB.out, hsv])
                              clear hsv
                              go_cut [33] from 191 to 269 (fun v W => v = .bool sv ∧ Sh36 wb W gs gv kb gb nb t2 a c (if sv then (fillL nb tk).set 0 2 else fillL nb tk))
                              case first =>
                                as_aux_lemma =>
                                  cases sv with
                                  | false =>
                                    go_wp2_with fail
                                    go_meet
                                    case rel => exact ⟨rfl, HSH.out⟩
                                  | true =>
                                    obtain ⟨x4, x5, x6, x7⟩ := HSH.out.cells (by omega)
                                    go_wp2_with fail
                                    go_meet
                                    case rel => exact ⟨rfl, HSH.out.smudge⟩
                              case rest =>
                                as_aux_lemma =>
                                  clear HSH
                                  obtain ⟨rfl, hS⟩ := hcut
                                  obtain ⟨bx, hbx⟩ : ∃ bx, bx = (if sv then (fillL nb tk).set 0 2 else fillL nb tk) := ⟨_, rfl⟩
                                  rw [← hbx] at hS
                                  have hbb : Bx bx nb tk sv := by
                                    rw [hbx]
                                    cases sv
                                    · exact fill_bx nb tk htkn
                                    · exact smudge_bx nb tk htkn
                                  have HSH := Lib.hid hS
                                  have HBX := Lib.hid hbb
                                  clear hS hbx hbb
                                  go_upto_region 40 with fail
                                  refine wp_region_held_drew (S := fun W' => Below wc.heap.size wc W') (by kernel_rfl) (Below.refl _ _).drew (fun hS => ?_)
                                  have HB0 := Lib.hid (show Below wc.heap.size wc wc.drew from (Below.refl _ _).drew)
                                  have HBWC := Lib.hid HSH.out.below
                                  clear hS
                                  generalize wc.drew = W0 at HB0 ⊢
                                  refine wpAnyH_take (i := 0) (v := (.agg (critC xs lo hi st ho tr rv))) rfl (by kernel_rfl) (by kernel_rfl) (by kernel_rfl) (fun _ _ _ h => h) (Or.inl ⟨by rfl, fun W' hS' => by have hS2 : Below wb.heap.size wb W' := HBWC.out.trans (hS'.mono HBWC.out.size); have hC := HCE.out W' hS2; have qc0 : W'.cell? ⟨H, 0, none⟩ = some (.string xs) := hC.cell 0; have qc1 : W'.cell? ⟨H, 1, none⟩ = some (.int .i64 lo) := hC.cell 1; have qc2 : W'.cell? ⟨H, 2, none⟩ = some (.int .i64 hi) := hC.cell 2; have qc3 : W'.cell? ⟨H, 3, none⟩ = some (.int .i64 st) := hC.cell 3; have qc4 : W'.cell? ⟨H, 4, none⟩ = some (.int .i64 ho) := hC.cell 4; have qc5 : W'.cell? ⟨H, 5, none⟩ = some (.int .i64 tr) := hC.cell 5; have qc6 : W'.cell? ⟨H, 6, none⟩ = some (.bool rv) := hC.cell 6; go_simp⟩) HB0.out ?_
                                  simp only [Act.put, List.getElem_toArray, List.getElem_cons_zero, List.getElem_cons_succ, List.setIfInBounds_toArray, List.set_cons_zero, List.set_cons_succ]
                                  refine wpAnyH_take (i := 2) (v := (.agg (sheetC t2 0 a c (some ⟨gv, 0, none⟩) kb))) rfl (by kernel_rfl) (by kernel_rfl) (by kernel_rfl) (fun _ _ _ h => h) (Or.inl ⟨by rfl, fun W' hS' => by have hC := (HSH.out.of_below hS').sh; have qs0 : W'.cell? ⟨gs, 0, none⟩ = some (.int .i64 t2) := hC.cell 0; have qs1 : W'.cell? ⟨gs, 1, none⟩ = some (.int .i64 0) := hC.cell 1; have qs2 : W'.cell? ⟨gs, 2, none⟩ = some (.int .i64 a) := hC.cell 2; have qs3 : W'.cell? ⟨gs, 3, none⟩ = some (.int .i64 c) := hC.cell 3; have qs4 : W'.cell? ⟨gs, 4, none⟩ = some (.slice (some ⟨gv, 0, none⟩) 1 kb) := hC.cell 4; go_simp⟩) HB0.out ?_
                                  simp only [Act.put, List.getElem_toArray, List.getElem_cons_zero, List.getElem_cons_succ, List.setIfInBounds_toArray, List.set_cons_zero, List.set_cons_succ]
                                  refine wpAnyH_take (i := 3) (v := (.slice (some ⟨bd, od, none⟩) nd cd)) rfl (by kernel_rfl) (by kernel_rfl) (by kernel_rfl) (fun _ _ _ h => h) (Or.inl ⟨by rfl, fun W' hS' => by go_simp⟩) HB0.out ?_
                                  simp only [Act.put, List.getElem_toArray, List.getElem_cons_zero, List.getElem_cons_succ, List.setIfInBounds_toArray, List.set_cons_zero, List.set_cons_succ]
                                  refine wpAnyH_take (i := 4) (v := (.int .i64 a)) rfl (by kernel_rfl) (by kernel_rfl) (by kernel_rfl) (fun _ _ _ h => h) (Or.inl ⟨by rfl, fun W' hS' => by go_simp⟩) HB0.out ?_
                                  simp only [Act.put, List.getElem_toArray, List.getElem_cons_zero, List.getElem_cons_succ, List.setIfInBounds_toArray, List.set_cons_zero, List.set_cons_succ]
                                  refine wpAnyH_take (i := 5) (v := (.pointer (some ⟨bd, od + a, none⟩))) rfl (by kernel_rfl) (by kernel_rfl) (by kernel_rfl) (fun _ _ _ h => h) (Or.inl ⟨by rfl, fun W' hS' => by go_simp⟩) HB0.out ?_
                                  simp only [Act.put, List.getElem_toArray, List.getElem_cons_zero, List.getElem_cons_succ, List.setIfInBounds_toArray, List.set_cons_zero, List.set_cons_succ]
                                  refine wpAnyH_take (i := 6) (v := (.slice As ju cs)) rfl (by kernel_rfl) (by kernel_rfl) (by kernel_rfl) (fun _ _ _ h => h) (Or.inl ⟨by rfl, fun W' hS' => by have hS2 : Below wb.heap.size wb W' := HBWC.out.trans (hS'.mono HBWC.out.size); have q := HCELLD.out W' hS2; go_simp⟩) HB0.out ?_
                                  simp only [Act.put, List.getElem_toArray, List.getElem_cons_zero, List.getElem_cons_succ, List.setIfInBounds_toArray, List.set_cons_zero, List.set_cons_succ]
                                  refine wpAnyH_take (i := 7) (v := (.int .i64 c)) rfl (by kernel_rfl) (by kernel_rfl) (by kernel_rfl) (fun _ _ _ h => h) (Or.inl ⟨by rfl, fun W' hS' => by go_simp⟩) HB0.out ?_
                                  simp only [Act.put, List.getElem_toArray, List.getElem_cons_zero, List.getElem_cons_succ, List.setIfInBounds_toArray, List.set_cons_zero, List.set_cons_succ]
                                  refine wpAnyH_take (i := 8) (v := (.int .i64 c)) rfl (by kernel_rfl) (by kernel_rfl) (by kernel_rfl) (fun _ _ _ h => h) (Or.inl ⟨by rfl, fun W' hS' => by go_simp⟩) HB0.out ?_
                                  simp only [Act.put, List.getElem_toArray, List.getElem_cons_zero, List.getElem_cons_succ, List.setIfInBounds_toArray, List.set_cons_zero, List.set_cons_succ]
                                  refine wpAnyH_take (i := 9) (v := (.int .i64 ((c : Int) + 1))) rfl (by kernel_rfl) (by kernel_rfl) (by kernel_rfl) (fun _ _ _ h => h) (Or.inl ⟨by rfl, fun W' hS' => by have hww : IntKind.i64.wrap ((c : Int) + 1) = (c : Int) + 1 := IntWalk.i64_in _ (by omega); go_simp⟩) HB0.out ?_
                                  simp only [Act.put, List.getElem_toArray, List.getElem_cons_zero, List.getElem_cons_succ, List.setIfInBounds_toArray, List.set_cons_zero, List.set_cons_succ]
                                  refine wpAnyH_take (i := 10) (v := (.slice (partA As cs c) 1 (cs - c))) rfl (by kernel_rfl) (by kernel_rfl) (by kernel_rfl) (fun _ _ _ h => h) (Or.inl ⟨by rfl, fun W' hS' => by have q := HSL.out.2 W'; go_simp⟩) HB0.out ?_
                                  simp only [Act.put, List.getElem_toArray, List.getElem_cons_zero, List.getElem_cons_succ, List.setIfInBounds_toArray, List.set_cons_zero, List.set_cons_succ]
                                  refine wpAnyH_ready (rs := [1]) (by kernel_rfl) (by simp) ?_
                                  refine AllReadyH.cons rfl (fun Kq hKq => ?_) (AllReadyH.nil)
                                  simp only [List.getElem_toArray, List.getElem_cons_zero, List.getElem_cons_succ]
                                  rw [if_pos (by rfl)]
                                  refine wp_bslice_crit _ rfl xs lo hi st ho tr rv rfl ?_
                                  intro W1 hG hb hz
                                  obtain ⟨gc, hgc⟩ : ∃ g, g = W0.heap.size := ⟨_, rfl⟩
                                  rw [← hgc] at hG hz ⊢
                                  have HG1 := Lib.hid hG
                                  have HB1 := Lib.hid (HB0.out.trans (hb.mono HB0.out.size))
                                  clear hgc hG hz hb
                                  refine hKq.out _ _ HB1.out (fun _ => ?_)
                                  clear hKq Kq
                                  simp only [Act.put, List.getElem_toArray, List.getElem_cons_zero, List.getElem_cons_succ, List.setIfInBounds_toArray, List.set_cons_zero, List.set_cons_succ]
                                  have hcall := HAGR.out gc 23 (t2 : Int) (a : Int) (c : Int) (by omega) (by omega) (by omega) (some ⟨gv, 0, none⟩) (some ⟨gb, 0, none⟩) kb nb nb bx tk sv HNB.out HBX.out dd HDO.out (partA As cs c) (cs - c) W1 HG1.out (HSH.out.of_below HB1.out).hv (HSH.out.of_below HB1.out).hb (HROWD.out W1 (HBWC.out.trans (HB1.out.mono HBWC.out.size)))
                                  rw [HTKV.out] at hcall
                                  obtain ⟨okv, hok⟩ : ∃ b, b = (!sv && decide (m = dd)) := ⟨_, rfl⟩
                                  rw [← hok] at hcall
                                  have HCALL := Lib.hid hcall
                                  have HOK := Lib.hid hok
                                  clear hcall hok
                                  refine wpAnyH_ready (rs := [11]) (by kernel_rfl) (by simp) ?_
                                  refine AllReadyH.cons rfl (fun Kq hKq => ?_) (AllReadyH.nil)
                                  simp only [List.getElem_toArray, List.getElem_cons_zero, List.getElem_cons_succ]
                                  go_simp
                                  refine HCALL.out.mono ?_
                                  rintro e W2 ⟨rfl, hb⟩
                                  have HB2 := Lib.hid (HB1.out.trans (hb.mono HB1.out.size))
                                  clear hb HCALL
                                  refine hKq.out _ _ HB2.out (fun _ => ?_)
                                  clear hKq Kq
                                  try simp only [Act.put, List.getElem_toArray, List.getElem_cons_zero, List.getElem_cons_succ, List.setIfInBounds_toArray, List.set_cons_zero, List.set_cons_succ]
                                  refine wpAnyH_take (i := 12) (v := (.tuple #[.bool okv, .int .i64 0])) rfl (by kernel_rfl) (by kernel_rfl) (by kernel_rfl) (fun _ _ _ h => h) (Or.inl ⟨by rfl, fun W' hS' => by go_simp⟩) HB2.out ?_
                                  simp only [Act.put, List.getElem_toArray, List.getElem_cons_zero, List.getElem_cons_succ, List.setIfInBounds_toArray, List.set_cons_zero, List.set_cons_succ]
                                  refine wpAnyH_take (i := 13) (v := (.bool okv)) rfl (by kernel_rfl) (by kernel_rfl) (by kernel_rfl) (fun _ _ _ h => h) (Or.inl ⟨by rfl, fun W' hS' => by go_simp⟩) HB2.out ?_
                                  simp only [Act.put, List.getElem_toArray, List.getElem_cons_zero, List.getElem_cons_succ, List.setIfInBounds_toArray, List.set_cons_zero, List.set_cons_succ]
                                  refine wpAnyH_take (i := 14) (v := (.int .i64 0)) rfl (by kernel_rfl) (by kernel_rfl) (by kernel_rfl) (fun _ _ _ h => h) (Or.inl ⟨by rfl, fun W' hS' => by go_simp⟩) HB2.out ?_
                                  simp only [Act.put, List.getElem_toArray, List.getElem_cons_zero, List.getElem_cons_succ, List.setIfInBounds_toArray, List.set_cons_zero, List.set_cons_succ]
                                  refine wpAnyH_ready (rs := [15]) (by kernel_rfl) (by simp) ?_
                                  refine AllReadyH.cons rfl (fun Kq hKq => ?_) (AllReadyH.nil)
                                  simp only [List.getElem_toArray, List.getElem_cons_zero, List.getElem_cons_succ]
                                  go_simp
                                  refine hKq.out _ _ HB2.out (fun _ => ?_)
                                  clear hKq Kq
                                  try simp only [Act.put, List.getElem_toArray, List.getElem_cons_zero, List.getElem_cons_succ, List.setIfInBounds_toArray, List.set_cons_zero, List.set_cons_succ]
                                  refine wpAnyH_ready (rs := [16]) (by kernel_rfl) (by simp) ?_
                                  refine AllReadyH.cons rfl (fun Kq hKq => ?_) (AllReadyH.nil)
                                  simp only [List.getElem_toArray, List.getElem_cons_zero, List.getElem_cons_succ]
                                  go_simp
                                  refine hKq.out _ _ HB2.out (fun _ => ?_)
                                  clear hKq Kq
                                  try simp only [Act.put, List.getElem_toArray, List.getElem_cons_zero, List.getElem_cons_succ, List.setIfInBounds_toArray, List.set_cons_zero, List.set_cons_succ]
                                  refine wpAnyH_done (by kernel_rfl) ?_ _
                                  have HWB := Lib.hid (show Below wb.heap.size wb W2 from HBWC.out.trans (HB2.out.mono HBWC.out.size))
                                  clear HB0 HB1 HB2 HG1 HSH HBX HBWC
                                  obtain ⟨bpa, opa, eap, hce1⟩ := HELTP.out W2 HWB.out
                                  obtain ⟨bda, oda, ead, hce2⟩ := HELTD.out W2 HWB.out
                                  subst eap
                                  subst ead
                                  have hcp1 := HCELLP.out W2 HWB.out
                                  have hcp2 := HCELLD.out W2 HWB.out
                                  cases sv with
                                  | true =>
                                    by_cases hmd : m = dd
                                    · skip
                                      as_aux_lemma =>
                                        have gmd : (m == dd) = true := beq_iff_eq.2 hmd
                                        obtain rfl : okv = false := by rw [HOK.out]; simp [hmd]
                                        clear hmd
                                        go_wp2_with fail
                                        go_quiet (fail)
                                        have hb3 : Below wb.heap.size wb (W2.drewN nq) := below_drewN HWB.out nq
                                        have hO3 := HO.out.below hb3
                                        have HB3 := Lib.hid hb3
                                        generalize W2.drewN nq = W3 at hO3 HB3 ⊢
                                        have hO4 := hO3.alloc (.cells #[.bool false] 4)
                                        have HO3 := Lib.hid hO3
                                        have hlen4 : (AG t2).length + 1 ≤ 1000000000000 := by rw [HAGL.out]; omega
                                        have hsz4 : V.heap.size ≤ (W3.alloc (.cells #[.bool false] 4)).heap.size := by have h1 := HBV.out.size; have h2 := HB3.out.size; simp; omega
                                        clear hb3 hO3
                                        go_wp2_with (at_builtin; refine app_bool rfl _ _ rfl V.heap.size (.slice A28 t2 c28) (AG t2) rfl hO4 false (Blk.new _ _ _) rfl hlen4 hsz4 ?_; intro v9 w9 hown9 hg9)
                                        go_roundw
                                        case rel =>
                                          have hg := hg9.alloc_first
                                          have hagf : agF MfD MfP ju smb t2 = false := by unfold agF; rw [HQ1.out, HQ2.out, HSV.out, ← HMM.out, ← HDD.out, ← HOK.out]
                                          refine ⟨c + 1, t2 + 1, by omega, by go_num, by rw [HT2.out, Nat.add_assoc], by rw [HAGS.out, hagf]; exact hown9, by rw [HAGS.out, off_add, hagf, ← HO5.out]; first | rfl | simp, ?_⟩
                                          have hbx : Below V.heap.size V W3 := HBV.out.trans (HB3.out.mono HBV.out.size)
                                          exact hbx.trans (hg.below hbx.size fun k hk => (World.ownsRow.lt HO3.out _ hk).1)
                                        case measure => simp [intOf]; omega
                                    · skip
                                      as_aux_lemma =>
                                        have gmd : (m == dd) = false := beq_eq_false_iff_ne.2 hmd
                                        obtain rfl : okv = false := by rw [HOK.out]; simp [hmd]
                                        clear hmd
                                        go_wp2_with fail
                                        go_quiet (fail)
                                        have hb3 : Below wb.heap.size wb (W2.drewN nq) := below_drewN HWB.out nq
                                        have hO3 := HO.out.below hb3
                                        have HB3 := Lib.hid hb3
                                        generalize W2.drewN nq = W3 at hO3 HB3 ⊢
                                        have hO4 := hO3.alloc (.cells #[.bool false] 4)
                                        have HO3 := Lib.hid hO3
                                        have hlen4 : (AG t2).length + 1 ≤ 1000000000000 := by rw [HAGL.out]; omega
                                        have hsz4 : V.heap.size ≤ (W3.alloc (.cells #[.bool false] 4)).heap.size := by have h1 := HBV.out.size; have h2 := HB3.out.size; simp; omega
                                        clear hb3 hO3
                                        go_wp2_with (at_builtin; refine app_bool rfl _ _ rfl V.heap.size (.slice A28 t2 c28) (AG t2) rfl hO4 false (Blk.new _ _ _) rfl hlen4 hsz4 ?_; intro v9 w9 hown9 hg9)
                                        go_roundw
                                        case rel =>
                                          have hg := hg9.alloc_first
                                          have hagf : agF MfD MfP ju smb t2 = false := by unfold agF; rw [HQ1.out, HQ2.out, HSV.out, ← HMM.out, ← HDD.out, ← HOK.out]
                                          refine ⟨c + 1, t2 + 1, by omega, by go_num, by rw [HT2.out, Nat.add_assoc], by rw [HAGS.out, hagf]; exact hown9, by rw [HAGS.out, off_add, hagf, ← HO5.out]; first | rfl | simp, ?_⟩
                                          have hbx : Below V.heap.size V W3 := HBV.out.trans (HB3.out.mono HBV.out.size)
                                          exact hbx.trans (hg.below hbx.size fun k hk => (World.ownsRow.lt HO3.out _ hk).1)
                                        case measure => simp [intOf]; omega
                                  | false =>
                                    by_cases hmd : m = dd
                                    · skip
                                      as_aux_lemma =>
                                        have gmd : (m == dd) = true := beq_iff_eq.2 hmd
                                        obtain rfl : okv = true := by rw [HOK.out]; simp [hmd]
                                        clear hmd
                                        go_wp2_with fail
                                        go_quiet (fail)
                                        have hb3 : Below wb.heap.size wb (W2.drewN nq) := below_drewN HWB.out nq
                                        have hO3 := HO.out.below hb3
                                        have HB3 := Lib.hid hb3
                                        generalize W2.drewN nq = W3 at hO3 HB3 ⊢
                                        have hO4 := hO3.alloc (.cells #[.bool true] 4)
                                        have HO3 := Lib.hid hO3
                                        have hlen4 : (AG t2).length + 1 ≤ 1000000000000 := by rw [HAGL.out]; omega
                                        have hsz4 : V.heap.size ≤ (W3.alloc (.cells #[.bool true] 4)).heap.size := by have h1 := HBV.out.size; have h2 := HB3.out.size; simp; omega
                                        clear hb3 hO3
                                        go_wp2_with (at_builtin; refine app_bool rfl _ _ rfl V.heap.size (.slice A28 t2 c28) (AG t2) rfl hO4 true (Blk.new _ _ _) rfl hlen4 hsz4 ?_; intro v9 w9 hown9 hg9)
                                        go_roundw
                                        case rel =>
                                          have hg := hg9.alloc_first
                                          have hagf : agF MfD MfP ju smb t2 = true := by unfold agF; rw [HQ1.out, HQ2.out, HSV.out, ← HMM.out, ← HDD.out, ← HOK.out]
                                          refine ⟨c + 1, t2 + 1, by omega, by go_num, by rw [HT2.out, Nat.add_assoc], by rw [HAGS.out, hagf]; exact hown9, by rw [HAGS.out, off_add, hagf, ← HO5.out]; first | rfl | simp, ?_⟩
                                          have hbx : Below V.heap.size V W3 := HBV.out.trans (HB3.out.mono HBV.out.size)
                                          exact hbx.trans (hg.below hbx.size fun k hk => (World.ownsRow.lt HO3.out _ hk).1)
                                        case measure => simp [intOf]; omega
                                    · skip
                                      as_aux_lemma =>
                                        have gmd : (m == dd) = false := beq_eq_false_iff_ne.2 hmd
                                        obtain rfl : okv = false := by rw [HOK.out]; simp [hmd]
                                        clear hmd
                                        go_wp2_with fail
                                        go_quiet (fail)
                                        have hb3 : Below wb.heap.size wb (W2.drewN nq) := below_drewN HWB.out nq
                                        have hO3 := HO.out.below hb3
                                        have HB3 := Lib.hid hb3
                                        generalize W2.drewN nq = W3 at hO3 HB3 ⊢
                                        have hO4 := hO3.alloc (.cells #[.bool false] 4)
                                        have HO3 := Lib.hid hO3
                                        have hlen4 : (AG t2).length + 1 ≤ 1000000000000 := by rw [HAGL.out]; omega
                                        have hsz4 : V.heap.size ≤ (W3.alloc (.cells #[.bool false] 4)).heap.size := by have h1 := HBV.out.size; have h2 := HB3.out.size; simp; omega
                                        clear hb3 hO3
                                        go_wp2_with (at_builtin; refine app_bool rfl _ _ rfl V.heap.size (.slice A28 t2 c28) (AG t2) rfl hO4 false (Blk.new _ _ _) rfl hlen4 hsz4 ?_; intro v9 w9 hown9 hg9)
                                        go_roundw
                                        case rel =>
                                          have hg := hg9.alloc_first
                                          have hagf : agF MfD MfP ju smb t2 = false := by unfold agF; rw [HQ1.out, HQ2.out, HSV.out, ← HMM.out, ← HDD.out, ← HOK.out]
                                          refine ⟨c + 1, t2 + 1, by omega, by go_num, by rw [HT2.out, Nat.add_assoc], by rw [HAGS.out, hagf]; exact hown9, by rw [HAGS.out, off_add, hagf, ← HO5.out]; first | rfl | simp, ?_⟩
                                          have hbx : Below V.heap.size V W3 := HBV.out.trans (HB3.out.mono HBV.out.size)
                                          exact hbx.trans (hg.below hbx.size fun k hk => (World.ownsRow.lt HO3.out _ hk).1)
                                        case measure => simp [intOf]; omega
                      · skip
                        as_aux_lemma =>
                          have g6 : decide ((c : Int) < (ju : Int)) = false := decide_eq_false (by omega)
                          have g6n : decide (c < ju) = false := decide_eq_false (by omega)
                          have HT3 := Lib.hid (show t2 = (a + 1) * ju by rw [ht2, Nat.add_mul, Nat.one_mul, show c = ju by omega])
                          have HO := Lib.hid hO
                          have HBV := Lib.hid hBV
                          obtain ⟨o5, ho5⟩ : ∃ y, y = offOf (AG t2) := ⟨_, rfl⟩
                          rw [← ho5]
                          have HO5 := Lib.hid ho5
                          clear ht2 hO hBV ho5
                          go_wp2_with fail
                          go_roundw
                          case rel => exact ⟨a + 1, t2, by omega, by go_num, HT3.out, HO.out, by rw [HO5.out], HBV.out⟩
                          case measure => simp [intOf]; omega
                · skip
                  as_aux_lemma =>
                    have g5 : decide ((a : Int) < (nd : Int)) = false := decide_eq_false (by omega)
                    have g5n : decide (a < nd) = false := decide_eq_false (by omega)
                    have htn : n = t := by rw [HT.out, HN.out, show a = nd by omega]
                    subst htn
                    obtain ⟨A28, c28, rfl, hl28, hm28, hR28⟩ := HO.out.shape
                    rw [HAGL.out] at hR28 ⊢
                    obtain ⟨ag, hag⟩ : ∃ y, y = AG n := ⟨_, rfl⟩
                    have hagl : ag.length = n := by rw [hag, HAGL.out]
                    rw [← hag] at hR28 ⊢
                    obtain ⟨o5, ho5⟩ : ∃ y, y = offOf ag := ⟨_, rfl⟩
                    rw [← ho5]
                    have ho5r : o5 ≤ 5 := by have h := off_le ag; omega
                    obtain ⟨W20, hW20⟩ : ∃ x, x = wr := ⟨wr, rfl⟩
                    subst hW20
                    have BC20 := Lib.hid (BC.out.below HBV.out BC.out.lt)
                    have BR20 := Lib.hid (BR.out.below HBV.out BR.out.lt)
                    have BG20 := Lib.hid (BG.out.below HBV.out BG.out.lt)
                    have HB20 := Lib.hid (HB.out.trans (HBV.out.mono HB.out.size))
                    have HSD20 := Lib.hid ((Rd.below HSD.out HBV.out).more HBV.out.size)
                    have HRA20 := Lib.hid hR28
                    have HO5 := Lib.hid ho5
                    have HAGE := Lib.hid (show ag = agOf MfD MfP ju smb (nd * ju) by rw [hag, HAG.out, HN.out])
                    have HAL := Lib.hid hagl
                    clear hR28 hag hagl ho5 hl28 hm28 HO HBV HT BC BR BG HB HSD HSP
                    have qc0 : W20.cell? ⟨H, 0, none⟩ = some (.string xs) := BC20.out.cell 0
                    have qc1 : W20.cell? ⟨H, 1, none⟩ = some (.int .i64 lo) := BC20.out.cell 1
                    have qc2 : W20.cell? ⟨H, 2, none⟩ = some (.int .i64 hi) := BC20.out.cell 2
                    have qc3 : W20.cell? ⟨H, 3, none⟩ = some (.int .i64 st) := BC20.out.cell 3
                    have qc4 : W20.cell? ⟨H, 4, none⟩ = some (.int .i64 ho) := BC20.out.cell 4
                    have qc5 : W20.cell? ⟨H, 5, none⟩ = some (.int .i64 tr) := BC20.out.cell 5
                    have qc6 : W20.cell? ⟨H, 6, none⟩ = some (.bool rv) := BC20.out.cell 6
                    go_wp2_with fail
                    refine (HM57.out (some ⟨bs, os, none⟩) nd c18 sf f ju hnd5 hf hj1 (by omega) HSR.out HMX.out W20 HSD20.out).mono ?_
                    rintro e W21 ⟨mv, rfl, hMar, hb⟩
                    have BC21 := Lib.hid (BC20.out.below hb BC20.out.lt)
                    have BR21 := Lib.hid (BR20.out.below hb BR20.out.lt)
                    have BG21 := Lib.hid (BG20.out.below hb BG20.out.lt)
                    have HB21 := Lib.hid (HB20.out.trans (hb.mono HB20.out.size))
                    have HSD21 := Lib.hid ((Rd.below HSD20.out hb).more hb.size)
                    have HRA21 := Lib.hid ((Rd.below HRA20.out hb).more hb.size)
                    clear hb BC20 BR20 BG20 HB20 HSD20 HRA20 qc0 qc1 qc2 qc3 qc4 qc5 qc6
                    have hmv1 : 1 ≤ mv := hMar.pos HMX.out
                    have hwm : b = true → mv ≤ 2 * ju ∧ mv ≤ o5 := fun hbt => by
                      have h := wrong_margin rv HCR.out MfD MfP nd ju (fun k hk => (HTD.out.2 k hk).2) (fun k hk => (HTP.out.2 k hk).2) smb f hf mv (by rw [← HSF.out]; exact hMar) (by rw [← HRF.out]; exact HWRONG.out.1 hbt)
                      rw [← HAGE.out, ← HO5.out] at h
                      exact h
                    have HWM := Lib.hid hwm
                    clear hMar hwm
                    by_cases hpos : mv ≤ 2 * ju
                    rotate_left
                    · skip
                      obtain rfl : b = false := by cases hb3 : b with | false => rfl | true => exact absurd (HWM.out hb3).1 hpos
                      have g1 : decide (mv ≤ 2 * ju) = false := decide_eq_false hpos
                      rw [g1]
                      clear hpos g1
                      go_wp2_with fail
                      go_ret
                      exact ⟨rfl, HB21.out⟩
                    rw [decide_eq_true hpos]
                    have hmn : mv ≤ n := by have h3 : 2 * ju ≤ n := (by rw [HN.out]; exact Nat.mul_le_mul_right _ hnd2); omega
                    clear hpos
                    go_upto_region 49 with fail
                    go_cut [25, 293] from 280 (fun u v W => u = .bool b ∧ v = .bool false ∧ W = W21)
                    case first =>
                      as_aux_lemma =>
                        cases b with
                        | false =>
                          go_wp2_with fail
                          go_meet
                          case rel => exact ⟨rfl, rfl, rfl⟩
                        | true =>
                          have g1 : decide ((o5 : Int) < (mv : Int)) = false := decide_eq_false (by have := (HWM.out rfl).2; omega)
                          have g1n : decide (o5 < mv) = false := decide_eq_false (by have := (HWM.out rfl).2; omega)
                          go_wp2_with fail
                          go_meet
                          case rel => exact ⟨rfl, rfl, rfl⟩
                    case rest =>
                      as_aux_lemma =>
                        obtain ⟨rfl, rfl, hwc⟩ := hcut
                        subst hwc
                        obtain ⟨W21, hW21⟩ : ∃ x, x = wc := ⟨wc, rfl⟩
                        subst hW21
                        have HRST := Lib.hid (fun W (h : Below w.heap.size w W) => rcStart_ok n mv hn5 hmv1 hmn A1 A2 n1 c1 n2 c2 p q W ((HLIM.out.below h).more h.size))
                        have HNEED := Lib.hid (fun W (h : Below w.heap.size w W) => kNeed_lim n mv hn5 hmv1 hmn A1 A2 n1 c1 n2 c2 p q W ((HLIM.out.below h).more h.size))
                        have HRUN := Lib.hid (fun Ao Aa co ca o (ho : OrdOk n o) s5 a5 k5 hres W (h : Below w.heap.size w W) hRo hRa => rcRun_ok n mv hn5 hn1 hmv1 hmn A1 A2 n1 c1 n2 c2 p q Ao Aa co ca o ag ho.1 HAL.out ho.2.1 ho.2.2 s5 a5 k5 (need n mv (valL p) (valL q)) rfl hres W ((HLIM.out.below h).more h.size) hRo hRa)
                        obtain ⟨nn, hnn⟩ : ∃ y, y = need n mv (valL p) (valL q) := ⟨_, rfl⟩
                        rw [← hnn] at HRST HNEED HRUN
                        have hnnn : nn ≤ n := by rw [hnn]; exact (need_spec n mv hmv1 hmn _ _ (by have := HLIM.out.p0; omega)).2.1
                        obtain ⟨st0, hst0⟩ : ∃ y : Nat, y = startR nn := ⟨_, rfl⟩
                        rw [← hst0] at HRST HRUN
                        have HNN := Lib.hid hnn
                        clear hnn hst0
                        have qr0 : W21.cell? ⟨H + 1, 0, none⟩ = some (.bool false) := BR21.out.cell 0
                        have qr1 : W21.cell? ⟨H + 1, 1, none⟩ = some (.slice A1 n1 c1) := BR21.out.cell 1
                        have qr2 : W21.cell? ⟨H + 1, 2, none⟩ = some (.bool false) := BR21.out.cell 2
                        have qr3 : W21.cell? ⟨H + 1, 3, none⟩ = some (.slice A2 n2 c2) := BR21.out.cell 3
                        go_wp2_with fail
                        refine (HRST.out W21 HB21.out).mono ?_
                        rintro e W22 ⟨rfl, hb⟩
                        have BC22 := Lib.hid (BC21.out.below hb BC21.out.lt)
                        have BR22 := Lib.hid (BR21.out.below hb BR21.out.lt)
                        have BG22 := Lib.hid (BG21.out.below hb BG21.out.lt)
                        have HB22 := Lib.hid (HB21.out.trans (hb.mono HB21.out.size))
                        have HSD22 := Lib.hid ((Rd.below HSD21.out hb).more hb.size)
                        have HRA22 := Lib.hid ((Rd.below HRA21.out hb).more hb.size)
                        clear hb BC21 BR21 BG21 HB21 HSD21 HRA21 qr0 qr1 qr2 qr3
                        go_upto_region 54 with (refine store_rec rfl _ _ rfl (Blk.new W22 52 _) n mv A1 A2 n1 c1 n2 c2 0 st0 rfl rfl rfl ?_; intro W23 hD39 hO39 hz39)
                        have hb : Below W22.heap.size W22 W23 := ((Below.refl _ _).alloc (Nat.le_refl _) _).trans (hO39.toBelow (by simp) (Nat.le_refl _))
                        obtain ⟨g39, hg39⟩ : ∃ y, y = W22.heap.size := ⟨_, rfl⟩
                        rw [← hg39] at hD39 ⊢
                        have HR3923 := Lib.hid hD39
                        clear hD39 hO39 hz39 hg39
                        have BC23 := Lib.hid (BC22.out.below hb BC22.out.lt)
                        have BR23 := Lib.hid (BR22.out.below hb BR22.out.lt)
                        have BG23 := Lib.hid (BG22.out.below hb BG22.out.lt)
                        have HB23 := Lib.hid (HB22.out.trans (hb.mono HB22.out.size))
                        have HSD23 := Lib.hid ((Rd.below HSD22.out hb).more hb.size)
                        have HRA23 := Lib.hid ((Rd.below HRA22.out hb).more hb.size)
                        clear hb BC22 BR22 BG22 HB22 HSD22 HRA22 
                        have qr0 : W23.cell? ⟨H + 1, 0, none⟩ = some (.bool false) := BR23.out.cell 0
                        have qr1 : W23.cell? ⟨H + 1, 1, none⟩ = some (.slice A1 n1 c1) := BR23.out.cell 1
                        have qr2 : W23.cell? ⟨H + 1, 2, none⟩ = some (.bool false) := BR23.out.cell 2
                        have qr3 : W23.cell? ⟨H + 1, 3, none⟩ = some (.slice A2 n2 c2) := BR23.out.cell 3
                        go_wp2_with fail
                        refine (HNEED.out W23 HB23.out).mono ?_
                        rintro e W24 ⟨rfl, hb⟩
                        have BC24 := Lib.hid (BC23.out.below hb BC23.out.lt)
                        have BR24 := Lib.hid (BR23.out.below hb BR23.out.lt)
                        have BG24 := Lib.hid (BG23.out.below hb BG23.out.lt)
                        have HB24 := Lib.hid (HB23.out.trans (hb.mono HB23.out.size))
                        have HSD24 := Lib.hid ((Rd.below HSD23.out hb).more hb.size)
                        have HRA24 := Lib.hid ((Rd.below HRA23.out hb).more hb.size)
                        have HR3924 := Lib.hid (HR3923.out.below hb HR3923.out.lt)
                        clear hb BC23 BR23 BG23 HB23 HSD23 HRA23 HR3923 qr0 qr1 qr2 qr3
                        go_wp2_with fail
                        refine (perms57_ok n hn5 W24).mono ?_
                        rintro e W25 ⟨A43, c43, M, rfl, hM, hMc, hRows, hb⟩
                        have BC25 := Lib.hid (BC24.out.below hb BC24.out.lt)
                        have BR25 := Lib.hid (BR24.out.below hb BR24.out.lt)
                        have BG25 := Lib.hid (BG24.out.below hb BG24.out.lt)
                        have HB25 := Lib.hid (HB24.out.trans (hb.mono HB24.out.size))
                        have HSD25 := Lib.hid ((Rd.below HSD24.out hb).more hb.size)
                        have HRA25 := Lib.hid ((Rd.below HRA24.out hb).more hb.size)
                        have HR3925 := Lib.hid (HR3924.out.below hb HR3924.out.lt)
                        clear hb BC24 BR24 BG24 HB24 HSD24 HRA24 HR3924 
                        have hM1 := permsL_facts n hn5
                        rw [← hM] at hM1
                        have hM120 := hM1.1
                        have hM0 := hM1.2.1
                        have HM := Lib.hid hM
                        have HROWS := Lib.hid hRows
                        have HML := Lib.hid hM1.2.2
                        have hx43 : ∃ b o, A43 = some ⟨b, o, none⟩ := by obtain ⟨b, o, _, _, e, _⟩ := hRows.at_ (k := 0) (by rw [← hM]; exact hM0); exact ⟨b, o, e⟩
                        obtain ⟨b43, o43, rfl⟩ := hx43
                        clear hM hRows hM1
                        go_wp2_with fail
                        go_loopw [44, 320] (fun v i wr => ∃ k cnt : Nat, k ≤ M ∧ i = .int .i64 k ∧ v = .int .i64 cnt ∧ cnt = confOf nn ag ((permsL n).take k) ∧ Below W25.heap.size W25 wr) (fun _ i _ => M - (intOf i).toNat)
                        case atStart => exact ⟨0, 0, by omega, rfl, rfl, by simp [confOf], Below.refl _ _⟩
                        case round =>
                          obtain ⟨k5, cnt, hk5, rfl, rfl, hcnt, hBB⟩ := hrel
                          have hcb : cnt ≤ 120 := by have h := conf_le nn ag (permsL n) k5; omega
                          have HCNT := Lib.hid hcnt
                          have HBB := Lib.hid hBB
                          clear hcnt hBB
                          rcases Nat.lt_or_ge k5 M with h7 | h7
                          · skip
                            as_aux_lemma =>
                              have g7 : decide ((k5 : Int) < (M : Int)) = true := decide_eq_true (by omega)
                              have g7n : decide (k5 < M) = true := decide_eq_true h7
                              have h7L : k5 < (permsL n).length := by rw [← HM.out]; exact h7
                              obtain ⟨b', o', Ao, co, e', hbl, hcell1, hoc, hom, hRo⟩ := HROWS.out.at_ h7L
                              simp only [Option.some.injEq, Addr.mk.injEq, and_true] at e'
                              obtain ⟨rfl, rfl⟩ := e'
                              have hmem : (permsL n).getD k5 [] ∈ permsL n := by rw [List.getD_eq_getElem?_getD, List.getElem?_eq_getElem h7L]; exact List.getElem_mem _
                              have hol := HML.out _ hmem
                              have hoo := perms_ord n hn5 _ hmem
                              obtain ⟨o, hoe⟩ : ∃ y, y = (permsL n).getD k5 [] := ⟨_, rfl⟩
                              rw [← hoe] at hol hoo hRo hcell1 hoc
                              rw [hol] at hRo hcell1 hoc
                              have HOE := Lib.hid hoe
                              have HOO := Lib.hid hoo
                              have hcell := (HBB.out.cell (p := ⟨b43, o43 + k5, none⟩) hbl).trans hcell1
                              obtain ⟨⟨s5, a5, k6⟩, hres⟩ : ∃ r, runO nn ag o = r := ⟨_, rfl⟩
                              have hend := runO_ends nn ag o (by rw [hol]; exact hnnn)
                              rw [hres, hol] at hend
                              simp only at hend
                              obtain ⟨he1, he2, he3⟩ := hend
                              have hBw : Below w.heap.size w wr := HB25.out.trans (HBB.out.mono HB25.out.size)
                              have HRN := Lib.hid (fun W (hW : Below W25.heap.size W25 W) => HRUN.out Ao A28 co c28 o HOO.out s5 a5 k6 hres W (HB25.out.trans (hW.mono HB25.out.size)) ((Rd.below hRo hW).more hW.size) ((Rd.below HRA25.out hW).more hW.size))
                              have hall : o5 = 0 → s5 = 1 ∧ k6 = nn := fun h0 => by
                                have h := runO_agree nn ag o (HOO.out.all HAL.out (by rw [← HO5.out]; exact h0)) (by rw [hol]; exact hnnn)
                                rw [hres] at h
                                exact h
                              have HALL := Lib.hid hall
                              have HRES := Lib.hid hres
                              clear hRo hcell1 hoe hoo hmem hres hall hol
                              have hC := HR3925.out.below HBB.out HR3925.out.lt
                              have qq0 : wr.cell? ⟨g39, 0, none⟩ = some (.int .i64 n) := hC.cell 0
                              have qq1 : wr.cell? ⟨g39, 1, none⟩ = some (.int .i64 mv) := hC.cell 1
                              have qq2 : wr.cell? ⟨g39, 2, none⟩ = some (.bool false) := hC.cell 2
                              have qq3 : wr.cell? ⟨g39, 3, none⟩ = some (.slice A1 n1 c1) := hC.cell 3
                              have qq4 : wr.cell? ⟨g39, 4, none⟩ = some (.bool false) := hC.cell 4
                              have qq5 : wr.cell? ⟨g39, 5, none⟩ = some (.slice A2 n2 c2) := hC.cell 5
                              have qq6 : wr.cell? ⟨g39, 6, none⟩ = some (.int .i64 0) := hC.cell 6
                              have qq7 : wr.cell? ⟨g39, 7, none⟩ = some (.int .i64 st0) := hC.cell 7
                              clear hC
                              go_wp2_with fail
                              refine (HRN.out wr HBB.out).mono ?_
                              rintro e W6 ⟨rfl, hb6⟩
                              have hB6 := HBB.out.trans (hb6.mono HBB.out.size)
                              clear hb6 qq0 qq1 qq2 qq3 qq4 qq5 qq6 qq7 hcell
                              go_upto_region 62 with (refine store_rec rfl _ _ rfl (Blk.new W6 52 _) n mv A1 A2 n1 c1 n2 c2 a5 s5 rfl rfl rfl ?_; intro W7 hD47 hO47 hz47)
                              have hB7 : Below W25.heap.size W25 W7 := (hB6.alloc hB6.size _).trans (hO47.toBelow (by have := hB6.size; simp; omega) (by exact hB6.size))
                              obtain ⟨g47, hg47⟩ : ∃ y, y = W6.heap.size := ⟨_, rfl⟩
                              rw [← hg47] at hD47 ⊢
                              have q47 : W7.cell? ⟨g47, 7, none⟩ = some (.int .i64 s5) := hD47.cell 7
                              have HB7 := Lib.hid hB7
                              clear hB6 hB7 hO47 hz47 hg47 hD47
                              by_cases h0 : o5 = 0
                              · skip
                                obtain ⟨r1, r2⟩ := HALL.out h0
                                subst r1
                                have r3 := r2.symm
                                subst r3
                                clear r2
                                have g8 : ((o5 : Int) == 0) = true := beq_iff_eq.2 (by omega)
                                have g8n : (o5 == 0) = true := beq_iff_eq.2 h0
                                clear h0
                                have g9 : ((1 : Int) == 1) = true := rfl
                                go_wp2_with fail
                                go_roundw
                                case rel => exact ⟨k5 + 1, cnt + 1, by omega, by go_num, by first | rfl | go_num, by rw [conf_succ nn ag (permsL n) k5 (by rw [← HM.out]; exact h7), ← HOE.out, HRES.out, ← HCNT.out]; simp, HB7.out⟩
                                case measure => simp [intOf]; omega
                              · skip
                                have g8 : ((o5 : Int) == 0) = false := beq_eq_false_iff_ne.2 (by omega)
                                have g8n : (o5 == 0) = false := beq_eq_false_iff_ne.2 h0
                                have g8p : ¬ o5 = 0 := h0
                                by_cases h1 : s5 = 1
                                · skip
                                  subst h1
                                  go_wp2_with fail
                                  go_roundw
                                  case rel => exact ⟨k5 + 1, cnt + 1, by omega, by go_num, by first | rfl | go_num, by rw [conf_succ nn ag (permsL n) k5 (by rw [← HM.out]; exact h7), ← HOE.out, HRES.out, ← HCNT.out]; simp, HB7.out⟩
                                  case measure => simp [intOf]; omega
                                · skip
                                  have g9 : ((s5 : Int) == 1) = false := beq_eq_false_iff_ne.2 (by omega)
                                  have g9n : (s5 == 1) = false := beq_eq_false_iff_ne.2 h1
                                  have g9p : ¬ s5 = 1 := h1
                                  have HS1 := Lib.hid h1
                                  go_wp2_with fail
                                  go_roundw
                                  case rel => exact ⟨k5 + 1, cnt, by omega, by go_num, by first | rfl | go_num, by rw [conf_succ nn ag (permsL n) k5 (by rw [← HM.out]; exact h7), ← HOE.out, HRES.out, ← HCNT.out]; simp [HS1.out], HB7.out⟩
                                  case measure => simp [intOf]; omega
                          · skip
                            as_aux_lemma =>
                              have g7 : decide ((k5 : Int) < (M : Int)) = false := decide_eq_false (by omega)
                              have g7n : decide (k5 < M) = false := decide_eq_false (by omega)
                              have HC2 := Lib.hid (show cnt = confOf nn ag (permsL n) by have h := HCNT.out; rw [List.take_of_length_le (by rw [← HM.out]; exact h7)] at h; exact h)
                              obtain ⟨W30, hW30⟩ : ∃ x, x = wr := ⟨wr, rfl⟩
                              subst hW30
                              have BC30 := Lib.hid (BC25.out.below HBB.out BC25.out.lt)
                              have BR30 := Lib.hid (BR25.out.below HBB.out BR25.out.lt)
                              have BG30 := Lib.hid (BG25.out.below HBB.out BG25.out.lt)
                              have HR3930 := Lib.hid (HR3925.out.below HBB.out HR3925.out.lt)
                              have HB30 := Lib.hid (HB25.out.trans (HBB.out.mono HB25.out.size))
                              have HRA30 := Lib.hid ((Rd.below HRA25.out HBB.out).more HBB.out.size)
                              clear HBB HCNT HROWS HM57 HFILL HAGR BC25 BR25 BG25 HB25 HRA25 HSD25
                              go_wp2_with fail
                              refine (qMake_ok cnt M (by omega) (by omega) hM0 W30).mono ?_
                              rintro e W31 ⟨v50, rfl, p5, q5, A5, A6, n5, c5, n6, c6, rfl, hrat, hp5, hq5, -, -, hb⟩
                              have BC31 := Lib.hid (BC30.out.below hb BC30.out.lt)
                              have BR31 := Lib.hid (BR30.out.below hb BR30.out.lt)
                              have BG31 := Lib.hid (BG30.out.below hb BG30.out.lt)
                              have HB31 := Lib.hid (HB30.out.trans (hb.mono HB30.out.size))
                              have HRA31 := Lib.hid ((Rd.below HRA30.out hb).more hb.size)
                              have HR3931 := Lib.hid (HR3930.out.below hb HR3930.out.lt)
                              clear hb BC30 BR30 BG30 HB30 HRA30 HR3930 
                              have hlf := low_facts (by omega) (by omega) hp5 hq5
                              have hv120 := valL_120
                              have hd120 : DigL [120] := fun y hy => by rw [List.mem_singleton.1 hy]; omega
                              have hn5x : n5 ≤ 1 := by rw [hrat.num.len]; exact len_le_of_val hrat.num.dig hrat.num.trim hd120 (by rw [hv120]; have := hlf.2.2.1; omega)
                              have hn6x : n6 ≤ 1 := by rw [hrat.den.len]; exact len_le_of_val hrat.den.dig hrat.den.trim hd120 (by rw [hv120]; have := hlf.2.2.2.2; omega)
                              have HLF := Lib.hid hlf
                              have HQ531 := Lib.hid hrat
                              clear hrat hp5 hq5 hlf hv120 hd120
                              go_upto_region 68 with (refine store_rat rfl _ _ rfl (Blk.new W31 29 _) A5 A6 n5 c5 n6 c6 rfl rfl rfl ?_; intro W32 hD50 hO50 hz50)
                              have hb : Below W31.heap.size W31 W32 := ((Below.refl _ _).alloc (Nat.le_refl _) _).trans (hO50.toBelow (by simp) (Nat.le_refl _))
                              obtain ⟨g50, hg50⟩ : ∃ y, y = W31.heap.size := ⟨_, rfl⟩
                              rw [← hg50] at hD50 ⊢
                              have HR5032 := Lib.hid hD50
                              clear hD50 hO50 hz50 hg50
                              have BC32 := Lib.hid (BC31.out.below hb BC31.out.lt)
                              have BR32 := Lib.hid (BR31.out.below hb BR31.out.lt)
                              have BG32 := Lib.hid (BG31.out.below hb BG31.out.lt)
                              have HB32 := Lib.hid (HB31.out.trans (hb.mono HB31.out.size))
                              have HRA32 := Lib.hid ((Rd.below HRA31.out hb).more hb.size)
                              have HR3932 := Lib.hid (HR3931.out.below hb HR3931.out.lt)
                              have HQ532 := Lib.hid ((HQ531.out.below hb).more hb.size)
                              clear hb BC31 BR31 BG31 HB31 HRA31 HR3931 HQ531 
                              have qr0 : W32.cell? ⟨H + 1, 0, none⟩ = some (.bool false) := BR32.out.cell 0
                              have qr1 : W32.cell? ⟨H + 1, 1, none⟩ = some (.slice A1 n1 c1) := BR32.out.cell 1
                              have qr2 : W32.cell? ⟨H + 1, 2, none⟩ = some (.bool false) := BR32.out.cell 2
                              have qr3 : W32.cell? ⟨H + 1, 3, none⟩ = some (.slice A2 n2 c2) := BR32.out.cell 3
                              have qx0 : W32.cell? ⟨g50, 0, none⟩ = some (.bool false) := HR5032.out.cell 0
                              have qx1 : W32.cell? ⟨g50, 1, none⟩ = some (.slice A5 n5 c5) := HR5032.out.cell 1
                              have qx2 : W32.cell? ⟨g50, 2, none⟩ = some (.bool false) := HR5032.out.cell 2
                              have qx3 : W32.cell? ⟨g50, 3, none⟩ = some (.slice A6 n6 c6) := HR5032.out.cell 3
                              have hs1 := HLIM.out.s1
                              have hs2 := HLIM.out.s2
                              go_wp2_with fail
                              refine (qCmp_ok A5 A6 A1 A2 n5 c5 n6 c6 n1 c1 n2 c2 p5 q5 p q W32 HQ532.out (((HLIM.out.below HB32.out).more HB32.out.size).rat) (by omega) (by omega)).mono ?_
                              rintro e W33 ⟨rfl, hb⟩
                              have BC33 := Lib.hid (BC32.out.below hb BC32.out.lt)
                              have BR33 := Lib.hid (BR32.out.below hb BR32.out.lt)
                              have BG33 := Lib.hid (BG32.out.below hb BG32.out.lt)
                              have HB33 := Lib.hid (HB32.out.trans (hb.mono HB32.out.size))
                              have HRA33 := Lib.hid ((Rd.below HRA32.out hb).more hb.size)
                              have HR3933 := Lib.hid (HR3932.out.below hb HR3932.out.lt)
                              have HQ533 := Lib.hid ((HQ532.out.below hb).more hb.size)
                              clear hb BC32 BR32 BG32 HB32 HRA32 HR3932 HQ532 qr0 qr1 qr2 qr3 qx0 qx1 qx2 qx3
                              obtain ⟨sg, hsg⟩ : ∃ y, y = sgn (valL p5 * valL q - valL p * valL q5) := ⟨_, rfl⟩
                              rw [← hsg]
                              have hsgb : b = true → sg ≤ 0 := fun hbt => by
                                have hcl := conf_limit n mv hn5 hmv1 hmn (valL p) (valL q) (by have := HLIM.out.p0; omega) (by have h1 := HLIM.out.p0; have h2 := HLIM.out.p1; omega) ag HAL.out (by rw [← HO5.out]; exact (HWM.out hbt).2)
                                rw [← HNN.out, ← HC2.out, ← HM.out] at hcl
                                have hll := low_limit (a := (cnt : Int)) (b := (M : Int)) (N := valL p) (D := valL q) (by omega) (by have := HLF.out.2.2.2.1; omega) HLF.out.1 hcl
                                rw [hsg]
                                unfold sgn
                                split
                                · omega
                                · split <;> omega
                              have HSG := Lib.hid hsgb
                              clear hsg hsgb HLF
                              go_upto_region 69 with fail
                              go_cut [25, 379] from 367 (fun u v W => u = .bool b ∧ v = .bool false ∧ W = W33)
                              case first =>
                                as_aux_lemma =>
                                  cases b with
                                  | false =>
                                    go_wp2_with fail
                                    go_meet
                                    case rel => exact ⟨rfl, rfl, rfl⟩
                                  | true =>
                                    have g1 : decide ((0 : Int) < sg) = false := decide_eq_false (by have := HSG.out rfl; omega)
                                    go_wp2_with fail
                                    go_meet
                                    case rel => exact ⟨rfl, rfl, rfl⟩
                              case rest =>
                                as_aux_lemma =>
                                  obtain ⟨rfl, rfl, hwc⟩ := hcut
                                  subst hwc
                                  obtain ⟨W33, hW33⟩ : ∃ x, x = wc := ⟨wc, rfl⟩
                                  subst hW33
                                  go_wp2_with (refine load_dig rfl _ rfl d hd BG33.out rfl ?_)
                                  refine (sdraw_good d hd n n (Nat.le_refl _) (by omega) W33 (HLAID.out.below HB33.out)).mono ?_
                                  rintro e W34 ⟨A54, rfl, hHeld, hb⟩
                                  have BC34 := Lib.hid (BC33.out.below hb BC33.out.lt)
                                  have BR34 := Lib.hid (BR33.out.below hb BR33.out.lt)
                                  have BG34 := Lib.hid (BG33.out.below hb BG33.out.lt)
                                  have HB34 := Lib.hid (HB33.out.trans (hb.mono HB33.out.size))
                                  have HRA34 := Lib.hid ((Rd.below HRA33.out hb).more hb.size)
                                  have HR3934 := Lib.hid (HR3933.out.below hb HR3933.out.lt)
                                  have HQ534 := Lib.hid ((HQ533.out.below hb).more hb.size)
                                  clear hb BC33 BR33 BG33 HB33 HRA33 HR3933 HQ533 
                                  have HOR34 := Lib.hid hHeld.rd
                                  clear hHeld
                                  have hoo := order_ok d n
                                  obtain ⟨o, hoe⟩ : ∃ y, y = orderOf d n := ⟨_, rfl⟩
                                  rw [← hoe] at hoo HOR34
                                  clear hoe
                                  obtain ⟨⟨s6, a6, k6⟩, hres⟩ : ∃ r, runO nn ag o = r := ⟨_, rfl⟩
                                  have hend := runO_ends nn ag o (by rw [hoo.1]; exact hnnn)
                                  rw [hres, hoo.1] at hend
                                  simp only at hend
                                  obtain ⟨he1, he2, he3⟩ := hend
                                  have hall : o5 = 0 → s6 = 1 ∧ k6 = nn := fun h0 => by
                                    have h := runO_agree nn ag o (hoo.all HAL.out (by rw [← HO5.out]; exact h0)) (by rw [hoo.1]; exact hnnn)
                                    rw [hres] at h
                                    exact h
                                  have HALL := Lib.hid hall
                                  have HRN := Lib.hid (HRUN.out A54 A28 n c28 o hoo s6 a6 k6 hres W34 HB34.out HOR34.out HRA34.out)
                                  clear hoo hres hall
                                  have qq0 : W34.cell? ⟨g39, 0, none⟩ = some (.int .i64 n) := HR3934.out.cell 0
                                  have qq1 : W34.cell? ⟨g39, 1, none⟩ = some (.int .i64 mv) := HR3934.out.cell 1
                                  have qq2 : W34.cell? ⟨g39, 2, none⟩ = some (.bool false) := HR3934.out.cell 2
                                  have qq3 : W34.cell? ⟨g39, 3, none⟩ = some (.slice A1 n1 c1) := HR3934.out.cell 3
                                  have qq4 : W34.cell? ⟨g39, 4, none⟩ = some (.bool false) := HR3934.out.cell 4
                                  have qq5 : W34.cell? ⟨g39, 5, none⟩ = some (.slice A2 n2 c2) := HR3934.out.cell 5
                                  have qq6 : W34.cell? ⟨g39, 6, none⟩ = some (.int .i64 0) := HR3934.out.cell 6
                                  have qq7 : W34.cell? ⟨g39, 7, none⟩ = some (.int .i64 st0) := HR3934.out.cell 7
                                  go_wp2_with fail
                                  refine (HRN.out).mono ?_
                                  rintro e W35 ⟨rfl, hb⟩
                                  have BC35 := Lib.hid (BC34.out.below hb BC34.out.lt)
                                  have BR35 := Lib.hid (BR34.out.below hb BR34.out.lt)
                                  have BG35 := Lib.hid (BG34.out.below hb BG34.out.lt)
                                  have HB35 := Lib.hid (HB34.out.trans (hb.mono HB34.out.size))
                                  have HRA35 := Lib.hid ((Rd.below HRA34.out hb).more hb.size)
                                  have HR3935 := Lib.hid (HR3934.out.below hb HR3934.out.lt)
                                  have HQ535 := Lib.hid ((HQ534.out.below hb).more hb.size)
                                  have HOR35 := Lib.hid ((Rd.below HOR34.out hb).more hb.size)
                                  clear hb BC34 BR34 BG34 HB34 HRA34 HR3934 HQ534 HOR34 qq0 qq1 qq2 qq3 qq4 qq5 qq6 qq7
                                  go_upto_region 73 with (refine store_rec rfl _ _ rfl (Blk.new W35 52 _) n mv A1 A2 n1 c1 n2 c2 a6 s6 rfl rfl rfl ?_; intro W9 hD56 hO56 hz56)
                                  have hb : Below w.heap.size w W9 := (HB35.out.alloc HB35.out.size _).trans (hO56.toBelow (by have := HB35.out.size; simp; omega) HB35.out.size)
                                  obtain ⟨g56, hg56⟩ : ∃ y, y = W35.heap.size := ⟨_, rfl⟩
                                  rw [← hg56] at hD56 ⊢
                                  have q56 : W9.cell? ⟨g56, 7, none⟩ = some (.int .i64 s6) := hD56.cell 7
                                  have HB9 := Lib.hid hb
                                  clear hb hD56 hO56 hz56 hg56
                                  have g1 : ((s6 : Int) != 0) = true := bne_iff_ne.2 (by omega)
                                  have g1n : (s6 != 0) = true := bne_iff_ne.2 he1
                                  have g2 : decide ((k6 : Int) ≤ (n : Int)) = true := decide_eq_true (by omega)
                                  have g2n : decide (k6 ≤ n) = true := decide_eq_true he3
                                  by_cases h0 : o5 = 0
                                  · skip
                                    obtain ⟨r1, r2⟩ := HALL.out h0
                                    subst r1
                                    have r3 := r2.symm
                                    subst r3
                                    clear r2
                                    have g3 : decide ((0 : Int) < (o5 : Int)) = false := decide_eq_false (by omega)
                                    have g3n : decide (0 < o5) = false := decide_eq_false (by omega)
                                    clear h0
                                    go_wp2_with fail
                                    go_ret
                                    exact ⟨by first | rfl | simp, HB9.out⟩
                                  · skip
                                    have g3 : decide ((0 : Int) < (o5 : Int)) = true := decide_eq_true (by omega)
                                    have g3n : decide (0 < o5) = true := decide_eq_true (by omega)
                                    clear h0
                                    go_wp2_with fail
                                    go_ret
                                    exact ⟨by first | rfl | simp, HB9.out⟩
end Go.Proofs.YtkkcbkfpaoldmaaGreatDoor
