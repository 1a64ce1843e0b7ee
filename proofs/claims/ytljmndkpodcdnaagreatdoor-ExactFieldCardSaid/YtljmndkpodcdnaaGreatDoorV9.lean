/- A part of the proof: walks of the rational numbers. It holds without conditions. -/
import Derived.Test.YtljmndkpodcdnaaGreatDoorV8
import Derived.Test.YtljmndkpodcdnaaGreatDoorV6

section
set_option linter.unusedVariables false
set_option linter.unusedSimpArgs false
namespace Vou
open Go Go.RowKit Go.Proofs.Tryz
theorem w_add (x y : Nat) (hx : (d9 x).length < 1099511627776) (hy : (d9 y).length < 1099511627776) : FnP prog 98 [nP x, nP y] (packP [nP (x + y)]) := by
  rcases Nat.lt_or_ge (d9 x).length (d9 y).length with h | h
  · rw [Nat.add_comm]; exact w_add2 x y h hy
  · exact w_add1 x y h hx

theorem w_splus (na nb : Bool) (a b : Nat) (ha : (d9 a).length < 68719476736) (hb : (d9 b).length < 68719476736) : FnP prog 92 [sP na a, sP nb b] (packP [sP (plusF na a nb b).1 (plusF na a nb b).2]) := by
  refine fnP_of (fn := f92) fn92 rfl (Nat.le_of_ble_eq_true rfl) ?_
  refine r_seq ?_
  refine r_reg ?_
  refine r_op rfl (o_box (some 2) ⟨rfl, rfl⟩ rfl 2 rfl rfl rfl rfl) ?_
  refine r_op rfl (o_box (some 3) ⟨rfl, rfl⟩ rfl 3 rfl rfl rfl rfl) ?_
  refine r_op rfl (o_alloc (some 4) ⟨rfl, rfl⟩ rfl 4 rfl rfl ty126 rfl rfl) ?_
  refine r_end ?_
  refine s_n ?_
  refine r_seq ?_
  refine r_block ?_
  refine r_seq ?_
  refine r_reg ?_
  refine r_op rfl (o_fld (some 6) ⟨rfl, rfl⟩ rfl rfl rfl rfl ty126 fe126_0 ty4 rfl rfl) ?_
  refine r_op rfl (o_ld1 (some 7) ⟨rfl, rfl⟩ rfl rfl rfl rfl ty4 rfl rfl) ?_
  refine r_op rfl (o_fld (some 8) ⟨rfl, rfl⟩ rfl rfl rfl rfl ty126 fe126_0 ty4 rfl rfl) ?_
  refine r_op rfl (o_ld1 (some 9) ⟨rfl, rfl⟩ rfl rfl rfl rfl ty4 rfl rfl) ?_
  refine r_op rfl (o_beql (some 10) ⟨rfl, rfl⟩ rfl rfl ty4 rfl) ?_
  refine r_op rfl (o_as (some 5) ⟨rfl, rfl⟩ rfl (by exact (rfl : _ = Bo _))) ?_
  refine r_end ?_
  refine s_n ?_
  refine r_cond rfl (fun hc => ?_) (fun hc => ?_)
  · try simp only [decide_eq_true_eq, decide_eq_false_iff_not, Nat.not_lt, Nat.not_le, Bool.and_eq_true, Bool.or_eq_true, Bool.and_eq_false_iff, Bool.or_eq_false_iff, Bool.not_eq_true', Bool.not_eq_false', beq_iff_eq, beq_eq_false_iff_ne, ne_eq, Decidable.not_not] at hc
    refine r_seq ?_
    refine r_drawn mixed ?_
    refine d_op [2] [2, 3] rfl rfl (fun s hs => o_fld (some 11) ⟨rfl, rfl⟩ rfl (by exact (hs.1 2 rfl).trans (rfl)) (by exact (hs.2.1 _ rfl).trans rfl) rfl ty126 fe126_0 ty4 rfl rfl) ?_
    refine d_op [11] [2, 3] rfl rfl (fun s hs => o_ld1 (some 12) ⟨rfl, rfl⟩ rfl (by exact (hs.1 11 rfl).trans (rfl)) (by exact (hs.2.1 _ rfl).trans rfl) rfl ty4 rfl rfl) ?_
    refine d_op [2] [2, 3] rfl rfl (fun s hs => o_fld (some 13) ⟨rfl, rfl⟩ rfl (by exact (hs.1 2 rfl).trans (rfl)) (by exact (hs.2.1 _ rfl).trans rfl) rfl ty126 fe126_1 ty24 rfl rfl) ?_
    refine d_op [13] [2, 3] rfl rfl (fun s hs => o_ld1 (some 14) ⟨rfl, rfl⟩ rfl (by exact (hs.1 13 rfl).trans (rfl)) (by exact (hs.2.1 _ rfl).trans rfl) rfl ty24 rfl rfl) ?_
    refine d_op [3] [2, 3] rfl rfl (fun s hs => o_fld (some 15) ⟨rfl, rfl⟩ rfl (by exact (hs.1 3 rfl).trans (rfl)) (by exact (hs.2.1 _ rfl).trans rfl) rfl ty126 fe126_1 ty24 rfl rfl) ?_
    refine d_op [15] [2, 3] rfl rfl (fun s hs => o_ld1 (some 16) ⟨rfl, rfl⟩ rfl (by exact (hs.1 15 rfl).trans (rfl)) (by exact (hs.2.1 _ rfl).trans rfl) rfl ty24 rfl rfl) ?_
    refine d_op [14, 16] [2, 3] rfl rfl (fun s hs => o_call (some 17) ⟨rfl, rfl⟩ tx98 rfl rfl (w_add a b (by omega) (by omega)) (convL_cons (conv_e (hs.1 14 rfl) (by first | exact conv_p _ | exact conv_nilP _ | exact conv_nil _ | exact conv_sl rfl | exact conv_nums (by exact (hs.2.1 _ rfl).trans rfl) rfl rfl rfl (by rfl) (by rfl))) (convL_cons (conv_e (hs.1 16 rfl) (by first | exact conv_p _ | exact conv_nilP _ | exact conv_nil _ | exact conv_sl rfl | exact conv_nums (by exact (hs.2.1 _ rfl).trans rfl) rfl rfl rfl (by rfl) (by rfl))) convL_nil))) ?_
    refine d_op [12, 17] [] rfl rfl (fun s hs => o_bld (some 18) ⟨rfl, rfl⟩ rfl ty126 pl126 (lk_cons (by exact (hs.1 12 rfl).trans (rfl)) (lk_cons (by exact (hs.1 17 rfl).trans (rfl)) lk_nil)) rfl) ?_
    refine d_st [4, 18] [2, 3, 4] rfl rfl (fun s hs => o_stA rfl rfl (by exact (hs.1 4 rfl).trans (rfl)) (by exact (hs.2.1 _ rfl).trans rfl) rfl rfl ty126 (by exact (congrArg AV.cells (by exact (hs.1 18 rfl).trans (rfl))).trans rfl) rfl rfl rfl rfl) ?_
    refine d_end ⟨rfl, ?_⟩
    refine s_n ?_
    refine r_ret ?_
    refine b_ret ?_
    refine s_ret ?_
    refine ⟨.inl rfl, [sP (plusF na a nb b).1 (plusF na a nb b).2], rfl, ?_⟩
    exact resL_cons (res_cell rfl rfl rfl ty126 rfl (Nat.le_of_ble_eq_true rfl) (by rw [plusF_1 hc]; exact conv_s rfl (conv_p _))) (resL_nil)
  · try simp only [decide_eq_true_eq, decide_eq_false_iff_not, Nat.not_lt, Nat.not_le, Bool.and_eq_true, Bool.or_eq_true, Bool.and_eq_false_iff, Bool.or_eq_false_iff, Bool.not_eq_true', Bool.not_eq_false', beq_iff_eq, beq_eq_false_iff_ne, ne_eq, Decidable.not_not] at hc
    refine r_seq ?_
    refine r_reg ?_
    refine r_op rfl (o_fld (some 20) ⟨rfl, rfl⟩ rfl rfl rfl rfl ty126 fe126_1 ty24 rfl rfl) ?_
    refine r_op rfl (o_ld1 (some 21) ⟨rfl, rfl⟩ rfl rfl rfl rfl ty24 rfl rfl) ?_
    refine r_op rfl (o_fld (some 22) ⟨rfl, rfl⟩ rfl rfl rfl rfl ty126 fe126_1 ty24 rfl rfl) ?_
    refine r_op rfl (o_ld1 (some 23) ⟨rfl, rfl⟩ rfl rfl rfl rfl ty24 rfl rfl) ?_
    refine r_op rfl (o_call (some 24) ⟨rfl, rfl⟩ tx85 rfl rfl (w_cmp a b (by omega) (by omega)) (convL_cons (by first | exact conv_p _ | exact conv_nilP _ | exact conv_nil _ | exact conv_sl rfl | exact conv_nums rfl rfl rfl rfl (by rfl) (by rfl)) (convL_cons (by first | exact conv_p _ | exact conv_nilP _ | exact conv_nil _ | exact conv_sl rfl | exact conv_nums rfl rfl rfl rfl (by rfl) (by rfl)) convL_nil))) ?_
    refine r_op rfl (o_zgeq (some 25) ⟨rfl, rfl⟩ (by exact (rfl : _ = Z _ _)) (by exact (rfl : _ = Z _ (0))) rfl) ?_
    refine r_op rfl (o_as (some 19) ⟨rfl, rfl⟩ rfl (by exact (rfl : _ = Bo _))) ?_
    refine r_end ?_
    refine s_n ?_
    refine r_cond rfl (fun hc_1 => ?_) (fun hc_1 => ?_)
    · try simp only [decide_eq_true_eq, decide_eq_false_iff_not, Nat.not_lt, Nat.not_le, Bool.and_eq_true, Bool.or_eq_true, Bool.and_eq_false_iff, Bool.or_eq_false_iff, Bool.not_eq_true', Bool.not_eq_false', beq_iff_eq, beq_eq_false_iff_ne, ne_eq, Decidable.not_not] at hc_1
      refine r_seq ?_
      refine r_drawn mixed ?_
      refine d_op [2] [2, 3] rfl rfl (fun s hs => o_fld (some 26) ⟨rfl, rfl⟩ rfl (by exact (hs.1 2 rfl).trans (rfl)) (by exact (hs.2.1 _ rfl).trans rfl) rfl ty126 fe126_0 ty4 rfl rfl) ?_
      refine d_op [26] [2, 3] rfl rfl (fun s hs => o_ld1 (some 27) ⟨rfl, rfl⟩ rfl (by exact (hs.1 26 rfl).trans (rfl)) (by exact (hs.2.1 _ rfl).trans rfl) rfl ty4 rfl rfl) ?_
      refine d_op [2] [2, 3] rfl rfl (fun s hs => o_fld (some 28) ⟨rfl, rfl⟩ rfl (by exact (hs.1 2 rfl).trans (rfl)) (by exact (hs.2.1 _ rfl).trans rfl) rfl ty126 fe126_1 ty24 rfl rfl) ?_
      refine d_op [28] [2, 3] rfl rfl (fun s hs => o_ld1 (some 29) ⟨rfl, rfl⟩ rfl (by exact (hs.1 28 rfl).trans (rfl)) (by exact (hs.2.1 _ rfl).trans rfl) rfl ty24 rfl rfl) ?_
      refine d_op [3] [2, 3] rfl rfl (fun s hs => o_fld (some 30) ⟨rfl, rfl⟩ rfl (by exact (hs.1 3 rfl).trans (rfl)) (by exact (hs.2.1 _ rfl).trans rfl) rfl ty126 fe126_1 ty24 rfl rfl) ?_
      refine d_op [30] [2, 3] rfl rfl (fun s hs => o_ld1 (some 31) ⟨rfl, rfl⟩ rfl (by exact (hs.1 30 rfl).trans (rfl)) (by exact (hs.2.1 _ rfl).trans rfl) rfl ty24 rfl rfl) ?_
      refine d_op [29, 31] [2, 3] rfl rfl (fun s hs => o_call (some 32) ⟨rfl, rfl⟩ tx130 rfl rfl (w_sub a b (cmpI_ge hc_1) (by omega)) (convL_cons (conv_e (hs.1 29 rfl) (by first | exact conv_p _ | exact conv_nilP _ | exact conv_nil _ | exact conv_sl rfl | exact conv_nums (by exact (hs.2.1 _ rfl).trans rfl) rfl rfl rfl (by rfl) (by rfl))) (convL_cons (conv_e (hs.1 31 rfl) (by first | exact conv_p _ | exact conv_nilP _ | exact conv_nil _ | exact conv_sl rfl | exact conv_nums (by exact (hs.2.1 _ rfl).trans rfl) rfl rfl rfl (by rfl) (by rfl))) convL_nil))) ?_
      refine d_op [27, 32] [] rfl rfl (fun s hs => o_bld (some 33) ⟨rfl, rfl⟩ rfl ty126 pl126 (lk_cons (by exact (hs.1 27 rfl).trans (rfl)) (lk_cons (by exact (hs.1 32 rfl).trans (rfl)) lk_nil)) rfl) ?_
      refine d_st [4, 33] [2, 3, 4] rfl rfl (fun s hs => o_stA rfl rfl (by exact (hs.1 4 rfl).trans (rfl)) (by exact (hs.2.1 _ rfl).trans rfl) rfl rfl ty126 (by exact (congrArg AV.cells (by exact (hs.1 33 rfl).trans (rfl))).trans rfl) rfl rfl rfl rfl) ?_
      refine d_end ⟨rfl, ?_⟩
      refine s_n ?_
      refine r_ret ?_
      refine b_ret ?_
      refine s_ret ?_
      refine ⟨.inl rfl, [sP (plusF na a nb b).1 (plusF na a nb b).2], rfl, ?_⟩
      exact resL_cons (res_cell rfl rfl rfl ty126 rfl (Nat.le_of_ble_eq_true rfl) (by rw [plusF_2 hc hc_1]; exact conv_s rfl (conv_p _))) (resL_nil)
    · try simp only [decide_eq_true_eq, decide_eq_false_iff_not, Nat.not_lt, Nat.not_le, Bool.and_eq_true, Bool.or_eq_true, Bool.and_eq_false_iff, Bool.or_eq_false_iff, Bool.not_eq_true', Bool.not_eq_false', beq_iff_eq, beq_eq_false_iff_ne, ne_eq, Decidable.not_not] at hc_1
      refine r_skip ?_
      refine b_n ?_
      refine s_n ?_
      refine r_seq ?_
      refine r_drawn mixed ?_
      refine d_op [3] [2, 3] rfl rfl (fun s hs => o_fld (some 34) ⟨rfl, rfl⟩ rfl (by exact (hs.1 3 rfl).trans (rfl)) (by exact (hs.2.1 _ rfl).trans rfl) rfl ty126 fe126_0 ty4 rfl rfl) ?_
      refine d_op [34] [2, 3] rfl rfl (fun s hs => o_ld1 (some 35) ⟨rfl, rfl⟩ rfl (by exact (hs.1 34 rfl).trans (rfl)) (by exact (hs.2.1 _ rfl).trans rfl) rfl ty4 rfl rfl) ?_
      refine d_op [3] [2, 3] rfl rfl (fun s hs => o_fld (some 36) ⟨rfl, rfl⟩ rfl (by exact (hs.1 3 rfl).trans (rfl)) (by exact (hs.2.1 _ rfl).trans rfl) rfl ty126 fe126_1 ty24 rfl rfl) ?_
      refine d_op [36] [2, 3] rfl rfl (fun s hs => o_ld1 (some 37) ⟨rfl, rfl⟩ rfl (by exact (hs.1 36 rfl).trans (rfl)) (by exact (hs.2.1 _ rfl).trans rfl) rfl ty24 rfl rfl) ?_
      refine d_op [2] [2, 3] rfl rfl (fun s hs => o_fld (some 38) ⟨rfl, rfl⟩ rfl (by exact (hs.1 2 rfl).trans (rfl)) (by exact (hs.2.1 _ rfl).trans rfl) rfl ty126 fe126_1 ty24 rfl rfl) ?_
      refine d_op [38] [2, 3] rfl rfl (fun s hs => o_ld1 (some 39) ⟨rfl, rfl⟩ rfl (by exact (hs.1 38 rfl).trans (rfl)) (by exact (hs.2.1 _ rfl).trans rfl) rfl ty24 rfl rfl) ?_
      refine d_op [37, 39] [2, 3] rfl rfl (fun s hs => o_call (some 40) ⟨rfl, rfl⟩ tx130 rfl rfl (w_sub b a (cmpI_nge hc_1) (by omega)) (convL_cons (conv_e (hs.1 37 rfl) (by first | exact conv_p _ | exact conv_nilP _ | exact conv_nil _ | exact conv_sl rfl | exact conv_nums (by exact (hs.2.1 _ rfl).trans rfl) rfl rfl rfl (by rfl) (by rfl))) (convL_cons (conv_e (hs.1 39 rfl) (by first | exact conv_p _ | exact conv_nilP _ | exact conv_nil _ | exact conv_sl rfl | exact conv_nums (by exact (hs.2.1 _ rfl).trans rfl) rfl rfl rfl (by rfl) (by rfl))) convL_nil))) ?_
      refine d_op [35, 40] [] rfl rfl (fun s hs => o_bld (some 41) ⟨rfl, rfl⟩ rfl ty126 pl126 (lk_cons (by exact (hs.1 35 rfl).trans (rfl)) (lk_cons (by exact (hs.1 40 rfl).trans (rfl)) lk_nil)) rfl) ?_
      refine d_st [4, 41] [2, 3, 4] rfl rfl (fun s hs => o_stA rfl rfl (by exact (hs.1 4 rfl).trans (rfl)) (by exact (hs.2.1 _ rfl).trans rfl) rfl rfl ty126 (by exact (congrArg AV.cells (by exact (hs.1 41 rfl).trans (rfl))).trans rfl) rfl rfl rfl rfl) ?_
      refine d_end ⟨rfl, ?_⟩
      refine s_n ?_
      refine r_ret ?_
      refine ⟨.inl rfl, [sP (plusF na a nb b).1 (plusF na a nb b).2], rfl, ?_⟩
      exact resL_cons (res_cell rfl rfl rfl ty126 rfl (Nat.le_of_ble_eq_true rfl) (by rw [plusF_3 hc hc_1]; exact conv_s rfl (conv_p _))) (resL_nil)

theorem w_plus (x y : Rat) (hx : qh x < 17179869184) (hy : qh y < 17179869184) : FnP prog 22 [qP x, qP y] (packP [qP (x + y)]) := by
  have hx1 := qh_num x
  have hx2 := qh_den x
  have hx0 := qden_pos x
  have hxd := dn_len x.den_nz
  have hx3 := qh_dn x
  have hy1 := qh_num y
  have hy2 := qh_den y
  have hy0 := qden_pos y
  have hyd := dn_len y.den_nz
  have hy3 := qh_dn y
  have hm1 := d9_mul x.num.natAbs y.den
  have hm2 := d9_mul y.num.natAbs x.den
  have hm3 := d9_mul x.den y.den
  have hm6 := Nat.mul_pos hx0 hy0
  have hpl := plusF_len (decide (x.num < 0)) (decide (y.num < 0)) (x.num.natAbs * y.den) (y.num.natAbs * x.den)
  refine fnP_of (fn := f22) fn22 rfl (Nat.le_of_ble_eq_true rfl) ?_
  refine r_seq ?_
  refine r_reg ?_
  refine r_op rfl (o_box (some 2) ⟨rfl, rfl⟩ rfl 2 rfl rfl rfl rfl) ?_
  refine r_op rfl (o_box (some 3) ⟨rfl, rfl⟩ rfl 3 rfl rfl rfl rfl) ?_
  refine r_op rfl (o_alloc (some 4) ⟨rfl, rfl⟩ rfl 4 rfl rfl ty26 rfl rfl) ?_
  refine r_end ?_
  refine s_n ?_
  refine r_seq ?_
  refine r_seq ?_
  refine r_reg ?_
  refine r_op rfl (o_fld (some 7) ⟨rfl, rfl⟩ rfl rfl rfl rfl ty26 fe26_2 ty24 rfl rfl) ?_
  refine r_op rfl (o_ld1 (some 8) ⟨rfl, rfl⟩ rfl rfl rfl rfl ty24 rfl rfl) ?_
  refine r_op rfl ((by first | exact o_lenN (some 9) ⟨rfl, rfl⟩ rfl rfl ty24 rfl | exact o_lenO (some 9) ⟨rfl, rfl⟩ rfl rfl rfl rfl ty24 | exact o_lenZ (some 9) ⟨rfl, rfl⟩ rfl rfl ty24 | exact o_lenP (some 9) ⟨rfl, rfl⟩ rfl rfl ty24 rfl)) ?_
  refine r_op rfl (o_eql (some 10) ⟨rfl, rfl⟩ rfl (by exact (rfl : _ = I _ 0)) rfl) ?_
  refine r_op rfl (o_mv (some 11) ⟨rfl, rfl⟩ rfl (by exact (rfl : _ = Bo _))) ?_
  refine r_gd (d := some 12) rfl rfl rfl rfl ⟨rfl, rfl⟩ (fun hb => o_fld (some 12) ⟨rfl, rfl⟩ rfl rfl rfl rfl ty26 fe26_2 ty24 rfl rfl) ?_
  refine r_gd (d := some 13) rfl rfl rfl rfl ⟨rfl, rfl⟩ (fun hb => o_ld1 (some 13) ⟨rfl, rfl⟩ rfl (by exact gd hb) rfl rfl ty24 rfl rfl) ?_
  refine r_gd (d := some 14) rfl rfl rfl rfl ⟨rfl, rfl⟩ (fun hb => (by first | exact o_lenN (some 14) ⟨rfl, rfl⟩ rfl (by exact gd hb) ty24 rfl | exact o_lenO (some 14) ⟨rfl, rfl⟩ rfl (by exact gd hb) rfl rfl ty24 | exact o_lenZ (some 14) ⟨rfl, rfl⟩ rfl (by exact gd hb) ty24 | exact o_lenP (some 14) ⟨rfl, rfl⟩ rfl (by exact gd hb) ty24 rfl)) ?_
  refine r_gd (d := some 15) rfl rfl rfl rfl ⟨rfl, rfl⟩ (fun hb => o_eql (some 15) ⟨rfl, rfl⟩ (by exact gd hb) (by exact (rfl : _ = I _ 0)) rfl) ?_
  refine r_op rfl (o_and (some 16) ⟨rfl, rfl⟩ rfl rfl rfl rfl) ?_
  refine r_end ?_
  refine s_n ?_
  refine r_cond rfl (fun hc => ?_) (fun hc => ?_)
  · try simp only [decide_eq_true_eq, decide_eq_false_iff_not, Nat.not_lt, Nat.not_le, Bool.and_eq_true, Bool.or_eq_true, Bool.and_eq_false_iff, Bool.or_eq_false_iff, Bool.not_eq_true', Bool.not_eq_false', beq_iff_eq, beq_eq_false_iff_ne, ne_eq, Decidable.not_not] at hc
    obtain ⟨p1, p2⟩ := plus_dec hc.1 hc.2
    refine r_seq ?_
    refine r_reg ?_
    refine r_op rfl (o_fld (some 17) ⟨rfl, rfl⟩ rfl rfl rfl rfl ty26 fe26_0 ty4 rfl rfl) ?_
    refine r_op rfl (o_ld1 (some 18) ⟨rfl, rfl⟩ rfl rfl rfl rfl ty4 rfl rfl) ?_
    refine r_op rfl (o_fld (some 19) ⟨rfl, rfl⟩ rfl rfl rfl rfl ty26 fe26_1 ty24 rfl rfl) ?_
    refine r_op rfl (o_ld1 (some 20) ⟨rfl, rfl⟩ rfl rfl rfl rfl ty24 rfl rfl) ?_
    refine r_op rfl (o_bld (some 21) ⟨rfl, rfl⟩ rfl ty126 pl126 rfl rfl) ?_
    refine r_op rfl (o_fld (some 22) ⟨rfl, rfl⟩ rfl rfl rfl rfl ty26 fe26_0 ty4 rfl rfl) ?_
    refine r_op rfl (o_ld1 (some 23) ⟨rfl, rfl⟩ rfl rfl rfl rfl ty4 rfl rfl) ?_
    refine r_op rfl (o_fld (some 24) ⟨rfl, rfl⟩ rfl rfl rfl rfl ty26 fe26_1 ty24 rfl rfl) ?_
    refine r_op rfl (o_ld1 (some 25) ⟨rfl, rfl⟩ rfl rfl rfl rfl ty24 rfl rfl) ?_
    refine r_op rfl (o_bld (some 26) ⟨rfl, rfl⟩ rfl ty126 pl126 rfl rfl) ?_
    refine r_op rfl (o_call (some 27) ⟨rfl, rfl⟩ tx92 rfl rfl (w_splus (decide (x.num < 0)) (decide (y.num < 0)) x.num.natAbs y.num.natAbs (by omega) (by omega)) (convL_cons (by first | exact conv_p _ | exact conv_agg (convL_cons (by first | exact conv_p _ | exact conv_nilP _ | exact conv_nil _ | exact conv_sl rfl | exact conv_nums rfl rfl rfl rfl (by rfl) (by rfl)) (convL_cons (by first | exact conv_p _ | exact conv_nilP _ | exact conv_nil _ | exact conv_sl rfl | exact conv_nums rfl rfl rfl rfl (by rfl) (by rfl)) convL_nil))) (convL_cons (by first | exact conv_p _ | exact conv_agg (convL_cons (by first | exact conv_p _ | exact conv_nilP _ | exact conv_nil _ | exact conv_sl rfl | exact conv_nums rfl rfl rfl rfl (by rfl) (by rfl)) (convL_cons (by first | exact conv_p _ | exact conv_nilP _ | exact conv_nil _ | exact conv_sl rfl | exact conv_nums rfl rfl rfl rfl (by rfl) (by rfl)) convL_nil))) convL_nil))) ?_
    refine r_op rfl (o_alloc (some 5) ⟨rfl, rfl⟩ rfl 5 rfl rfl ty126 rfl rfl) ?_
    refine r_op rfl (o_stA rfl rfl rfl rfl rfl rfl ty126 rfl rfl rfl rfl rfl) ?_
    refine r_end ?_
    refine s_n ?_
    refine r_seq ?_
    refine r_reg ?_
    refine r_op rfl (o_fld (some 28) ⟨rfl, rfl⟩ rfl rfl rfl rfl ty126 fe126_0 ty4 rfl rfl) ?_
    refine r_op rfl (o_ld1 (some 29) ⟨rfl, rfl⟩ rfl rfl rfl rfl ty4 rfl rfl) ?_
    refine r_op rfl (o_mv (some 30) ⟨rfl, rfl⟩ rfl (by first | exact (rfl : _ = I _ _) | exact (rfl : _ = AV.p _) | exact (rfl : _ = AV.ptr _ _) | exact (rfl : _ = AV.own _ _ _ _ _) | exact (rfl : _ = AV.agg _) | exact (rfl : _ = AV.fn _ _))) ?_
    refine r_gd (d := some 31) rfl rfl rfl rfl ⟨rfl, rfl⟩ (fun hb => o_fld (some 31) ⟨rfl, rfl⟩ rfl rfl rfl rfl ty126 fe126_1 ty24 rfl rfl) ?_
    refine r_gd (d := some 32) rfl rfl rfl rfl ⟨rfl, rfl⟩ (fun hb => o_ld1 (some 32) ⟨rfl, rfl⟩ rfl (by exact gd hb) rfl rfl ty24 rfl rfl) ?_
    refine r_gd (d := some 33) rfl rfl rfl rfl ⟨rfl, rfl⟩ (fun hb => (by first | exact o_lenN (some 33) ⟨rfl, rfl⟩ rfl (by exact gd hb) ty24 rfl | exact o_lenO (some 33) ⟨rfl, rfl⟩ rfl (by exact gd hb) rfl rfl ty24 | exact o_lenZ (some 33) ⟨rfl, rfl⟩ rfl (by exact gd hb) ty24 | exact o_lenP (some 33) ⟨rfl, rfl⟩ rfl (by exact gd hb) ty24 rfl)) ?_
    refine r_gd (d := some 34) rfl rfl rfl rfl ⟨rfl, rfl⟩ (fun hb => o_gtr (some 34) ⟨rfl, rfl⟩ (by exact gd hb) (by exact (rfl : _ = I _ 0)) rfl) ?_
    refine r_op rfl (o_and (some 35) ⟨rfl, rfl⟩ rfl rfl rfl rfl) ?_
    refine r_op rfl (o_fld (some 36) ⟨rfl, rfl⟩ rfl rfl rfl rfl ty126 fe126_1 ty24 rfl rfl) ?_
    refine r_op rfl (o_ld1 (some 37) ⟨rfl, rfl⟩ rfl rfl rfl rfl ty24 rfl rfl) ?_
    refine r_op rfl (o_bld (some 38) ⟨rfl, rfl⟩ rfl ty26 pl26 rfl rfl) ?_
    refine r_op rfl (o_stA rfl rfl rfl rfl rfl rfl ty26 rfl rfl rfl rfl rfl) ?_
    refine r_end ?_
    refine s_n ?_
    refine r_ret ?_
    refine s_ret ?_
    refine ⟨.inl rfl, [qP (x + y)], rfl, ?_⟩
    exact resL_cons (res_cell rfl rfl rfl ty26 rfl (Nat.le_of_ble_eq_true rfl) (conv_q (sg_dec p1).1 (conv_pe rfl (by rw [← (sg_dec p1).2])) (conv_dn1 p2))) (resL_nil)
  · try simp only [decide_eq_true_eq, decide_eq_false_iff_not, Nat.not_lt, Nat.not_le, Bool.and_eq_true, Bool.or_eq_true, Bool.and_eq_false_iff, Bool.or_eq_false_iff, Bool.not_eq_true', Bool.not_eq_false', beq_iff_eq, beq_eq_false_iff_ne, ne_eq, Decidable.not_not] at hc
    refine r_skip ?_
    refine s_n ?_
    refine r_seq ?_
    refine r_drawn mixed ?_
    refine d_op [2] [2, 3, 4] rfl rfl (fun s hs => o_fld (some 39) ⟨rfl, rfl⟩ rfl (by exact (hs.1 2 rfl).trans (rfl)) (by exact (hs.2.1 _ rfl).trans rfl) rfl ty26 fe26_0 ty4 rfl rfl) ?_
    refine d_op [39] [2, 3, 4] rfl rfl (fun s hs => o_ld1 (some 40) ⟨rfl, rfl⟩ rfl (by exact (hs.1 39 rfl).trans (rfl)) (by exact (hs.2.1 _ rfl).trans rfl) rfl ty4 rfl rfl) ?_
    refine d_op [2] [2, 3, 4] rfl rfl (fun s hs => o_fld (some 41) ⟨rfl, rfl⟩ rfl (by exact (hs.1 2 rfl).trans (rfl)) (by exact (hs.2.1 _ rfl).trans rfl) rfl ty26 fe26_1 ty24 rfl rfl) ?_
    refine d_op [41] [2, 3, 4] rfl rfl (fun s hs => o_ld1 (some 42) ⟨rfl, rfl⟩ rfl (by exact (hs.1 41 rfl).trans (rfl)) (by exact (hs.2.1 _ rfl).trans rfl) rfl ty24 rfl rfl) ?_
    refine d_op [3] [2, 3, 4] rfl rfl (fun s hs => o_ldA (some 43) ⟨rfl, rfl⟩ rfl (by exact (hs.1 3 rfl).trans (rfl)) (by exact (hs.2.1 _ rfl).trans rfl) rfl ty26 rfl rfl rfl) ?_
    refine d_op [43] [2, 3, 4] rfl rfl (fun s hs => o_call (some 44) ⟨rfl, rfl⟩ tx94 rfl rfl (w_below y) (convL_cons (conv_e (hs.1 43 rfl) (by first | exact conv_p _ | exact conv_agg (convL_cons (by first | exact conv_p _ | exact conv_nilP _ | exact conv_nil _ | exact conv_sl rfl | exact conv_nums (by exact (hs.2.1 _ rfl).trans rfl) rfl rfl rfl (by rfl) (by rfl)) (convL_cons (by first | exact conv_p _ | exact conv_nilP _ | exact conv_nil _ | exact conv_sl rfl | exact conv_nums (by exact (hs.2.1 _ rfl).trans rfl) rfl rfl rfl (by rfl) (by rfl)) (convL_cons (by first | exact conv_p _ | exact conv_nilP _ | exact conv_nil _ | exact conv_sl rfl | exact conv_nums (by exact (hs.2.1 _ rfl).trans rfl) rfl rfl rfl (by rfl) (by rfl)) convL_nil))))) convL_nil)) ?_
    refine d_op [42, 44] [2, 3, 4] rfl rfl (fun s hs => o_call (some 45) ⟨rfl, rfl⟩ tx93 rfl rfl (w_mul x.num.natAbs y.den (by omega) (by omega)) (convL_cons (conv_e (hs.1 42 rfl) (by first | exact conv_p _ | exact conv_nilP _ | exact conv_nil _ | exact conv_sl rfl | exact conv_nums (by exact (hs.2.1 _ rfl).trans rfl) rfl rfl rfl (by rfl) (by rfl))) (convL_cons (conv_e (hs.1 44 rfl) (by first | exact conv_p _ | exact conv_nilP _ | exact conv_nil _ | exact conv_sl rfl | exact conv_nums (by exact (hs.2.1 _ rfl).trans rfl) rfl rfl rfl (by rfl) (by rfl))) convL_nil))) ?_
    refine d_op [40, 45] [] rfl rfl (fun s hs => o_bld (some 46) ⟨rfl, rfl⟩ rfl ty126 pl126 (lk_cons (by exact (hs.1 40 rfl).trans (rfl)) (lk_cons (by exact (hs.1 45 rfl).trans (rfl)) lk_nil)) rfl) ?_
    refine d_op [3] [2, 3, 4] rfl rfl (fun s hs => o_fld (some 47) ⟨rfl, rfl⟩ rfl (by exact (hs.1 3 rfl).trans (rfl)) (by exact (hs.2.1 _ rfl).trans rfl) rfl ty26 fe26_0 ty4 rfl rfl) ?_
    refine d_op [47] [2, 3, 4] rfl rfl (fun s hs => o_ld1 (some 48) ⟨rfl, rfl⟩ rfl (by exact (hs.1 47 rfl).trans (rfl)) (by exact (hs.2.1 _ rfl).trans rfl) rfl ty4 rfl rfl) ?_
    refine d_op [3] [2, 3, 4] rfl rfl (fun s hs => o_fld (some 49) ⟨rfl, rfl⟩ rfl (by exact (hs.1 3 rfl).trans (rfl)) (by exact (hs.2.1 _ rfl).trans rfl) rfl ty26 fe26_1 ty24 rfl rfl) ?_
    refine d_op [49] [2, 3, 4] rfl rfl (fun s hs => o_ld1 (some 50) ⟨rfl, rfl⟩ rfl (by exact (hs.1 49 rfl).trans (rfl)) (by exact (hs.2.1 _ rfl).trans rfl) rfl ty24 rfl rfl) ?_
    refine d_op [2] [2, 3, 4] rfl rfl (fun s hs => o_ldA (some 51) ⟨rfl, rfl⟩ rfl (by exact (hs.1 2 rfl).trans (rfl)) (by exact (hs.2.1 _ rfl).trans rfl) rfl ty26 rfl rfl rfl) ?_
    refine d_op [51] [2, 3, 4] rfl rfl (fun s hs => o_call (some 52) ⟨rfl, rfl⟩ tx94 rfl rfl (w_below x) (convL_cons (conv_e (hs.1 51 rfl) (by first | exact conv_p _ | exact conv_agg (convL_cons (by first | exact conv_p _ | exact conv_nilP _ | exact conv_nil _ | exact conv_sl rfl | exact conv_nums (by exact (hs.2.1 _ rfl).trans rfl) rfl rfl rfl (by rfl) (by rfl)) (convL_cons (by first | exact conv_p _ | exact conv_nilP _ | exact conv_nil _ | exact conv_sl rfl | exact conv_nums (by exact (hs.2.1 _ rfl).trans rfl) rfl rfl rfl (by rfl) (by rfl)) (convL_cons (by first | exact conv_p _ | exact conv_nilP _ | exact conv_nil _ | exact conv_sl rfl | exact conv_nums (by exact (hs.2.1 _ rfl).trans rfl) rfl rfl rfl (by rfl) (by rfl)) convL_nil))))) convL_nil)) ?_
    refine d_op [50, 52] [2, 3, 4] rfl rfl (fun s hs => o_call (some 53) ⟨rfl, rfl⟩ tx93 rfl rfl (w_mul y.num.natAbs x.den (by omega) (by omega)) (convL_cons (conv_e (hs.1 50 rfl) (by first | exact conv_p _ | exact conv_nilP _ | exact conv_nil _ | exact conv_sl rfl | exact conv_nums (by exact (hs.2.1 _ rfl).trans rfl) rfl rfl rfl (by rfl) (by rfl))) (convL_cons (conv_e (hs.1 52 rfl) (by first | exact conv_p _ | exact conv_nilP _ | exact conv_nil _ | exact conv_sl rfl | exact conv_nums (by exact (hs.2.1 _ rfl).trans rfl) rfl rfl rfl (by rfl) (by rfl))) convL_nil))) ?_
    refine d_op [48, 53] [] rfl rfl (fun s hs => o_bld (some 54) ⟨rfl, rfl⟩ rfl ty126 pl126 (lk_cons (by exact (hs.1 48 rfl).trans (rfl)) (lk_cons (by exact (hs.1 53 rfl).trans (rfl)) lk_nil)) rfl) ?_
    refine d_op [46, 54] [2, 3, 4] rfl rfl (fun s hs => o_call (some 55) ⟨rfl, rfl⟩ tx92 rfl rfl (w_splus (decide (x.num < 0)) (decide (y.num < 0)) (x.num.natAbs * y.den) (y.num.natAbs * x.den) (by omega) (by omega)) (convL_cons (conv_e (hs.1 46 rfl) (by first | exact conv_p _ | exact conv_agg (convL_cons (by first | exact conv_p _ | exact conv_nilP _ | exact conv_nil _ | exact conv_sl rfl | exact conv_nums (by exact (hs.2.1 _ rfl).trans rfl) rfl rfl rfl (by rfl) (by rfl)) (convL_cons (by first | exact conv_p _ | exact conv_nilP _ | exact conv_nil _ | exact conv_sl rfl | exact conv_nums (by exact (hs.2.1 _ rfl).trans rfl) rfl rfl rfl (by rfl) (by rfl)) convL_nil)))) (convL_cons (conv_e (hs.1 54 rfl) (by first | exact conv_p _ | exact conv_agg (convL_cons (by first | exact conv_p _ | exact conv_nilP _ | exact conv_nil _ | exact conv_sl rfl | exact conv_nums (by exact (hs.2.1 _ rfl).trans rfl) rfl rfl rfl (by rfl) (by rfl)) (convL_cons (by first | exact conv_p _ | exact conv_nilP _ | exact conv_nil _ | exact conv_sl rfl | exact conv_nums (by exact (hs.2.1 _ rfl).trans rfl) rfl rfl rfl (by rfl) (by rfl)) convL_nil)))) convL_nil))) ?_
    refine d_al [] [2, 3, 4, 6] rfl rfl (fun s hs => o_alloc (some 6) ⟨rfl, rfl⟩ rfl 6 (by exact (hs.2.1 _ rfl).trans rfl) (nx_of hs.2.2 rfl) ty126 rfl rfl) ?_
    refine d_st [6, 55] [2, 3, 4, 6] rfl rfl (fun s hs => o_stA rfl rfl (by exact (hs.1 6 rfl).trans (rfl)) (by exact (hs.2.1 _ rfl).trans rfl) rfl rfl ty126 (by exact (congrArg AV.cells (by exact (hs.1 55 rfl).trans (rfl))).trans rfl) rfl rfl rfl rfl) ?_
    refine d_end ⟨rfl, ?_⟩
    refine s_n ?_
    refine r_seq ?_
    refine r_drawn mixed ?_
    refine d_op [6] [2, 3, 6] rfl rfl (fun s hs => o_fld (some 56) ⟨rfl, rfl⟩ rfl (by exact (hs.1 6 rfl).trans (rfl)) (by exact (hs.2.1 _ rfl).trans rfl) rfl ty126 fe126_0 ty4 rfl rfl) ?_
    refine d_op [56] [2, 3, 6] rfl rfl (fun s hs => o_ld1 (some 57) ⟨rfl, rfl⟩ rfl (by exact (hs.1 56 rfl).trans (rfl)) (by exact (hs.2.1 _ rfl).trans rfl) rfl ty4 rfl rfl) ?_
    refine d_op [6] [2, 3, 6] rfl rfl (fun s hs => o_fld (some 58) ⟨rfl, rfl⟩ rfl (by exact (hs.1 6 rfl).trans (rfl)) (by exact (hs.2.1 _ rfl).trans rfl) rfl ty126 fe126_1 ty24 rfl rfl) ?_
    refine d_op [58] [2, 3, 6] rfl rfl (fun s hs => o_ld1 (some 59) ⟨rfl, rfl⟩ rfl (by exact (hs.1 58 rfl).trans (rfl)) (by exact (hs.2.1 _ rfl).trans rfl) rfl ty24 rfl rfl) ?_
    refine d_op [2] [2, 3, 6] rfl rfl (fun s hs => o_ldA (some 60) ⟨rfl, rfl⟩ rfl (by exact (hs.1 2 rfl).trans (rfl)) (by exact (hs.2.1 _ rfl).trans rfl) rfl ty26 rfl rfl rfl) ?_
    refine d_op [60] [2, 3, 6] rfl rfl (fun s hs => o_call (some 61) ⟨rfl, rfl⟩ tx94 rfl rfl (w_below x) (convL_cons (conv_e (hs.1 60 rfl) (by first | exact conv_p _ | exact conv_agg (convL_cons (by first | exact conv_p _ | exact conv_nilP _ | exact conv_nil _ | exact conv_sl rfl | exact conv_nums (by exact (hs.2.1 _ rfl).trans rfl) rfl rfl rfl (by rfl) (by rfl)) (convL_cons (by first | exact conv_p _ | exact conv_nilP _ | exact conv_nil _ | exact conv_sl rfl | exact conv_nums (by exact (hs.2.1 _ rfl).trans rfl) rfl rfl rfl (by rfl) (by rfl)) (convL_cons (by first | exact conv_p _ | exact conv_nilP _ | exact conv_nil _ | exact conv_sl rfl | exact conv_nums (by exact (hs.2.1 _ rfl).trans rfl) rfl rfl rfl (by rfl) (by rfl)) convL_nil))))) convL_nil)) ?_
    refine d_op [3] [2, 3, 6] rfl rfl (fun s hs => o_ldA (some 62) ⟨rfl, rfl⟩ rfl (by exact (hs.1 3 rfl).trans (rfl)) (by exact (hs.2.1 _ rfl).trans rfl) rfl ty26 rfl rfl rfl) ?_
    refine d_op [62] [2, 3, 6] rfl rfl (fun s hs => o_call (some 63) ⟨rfl, rfl⟩ tx94 rfl rfl (w_below y) (convL_cons (conv_e (hs.1 62 rfl) (by first | exact conv_p _ | exact conv_agg (convL_cons (by first | exact conv_p _ | exact conv_nilP _ | exact conv_nil _ | exact conv_sl rfl | exact conv_nums (by exact (hs.2.1 _ rfl).trans rfl) rfl rfl rfl (by rfl) (by rfl)) (convL_cons (by first | exact conv_p _ | exact conv_nilP _ | exact conv_nil _ | exact conv_sl rfl | exact conv_nums (by exact (hs.2.1 _ rfl).trans rfl) rfl rfl rfl (by rfl) (by rfl)) (convL_cons (by first | exact conv_p _ | exact conv_nilP _ | exact conv_nil _ | exact conv_sl rfl | exact conv_nums (by exact (hs.2.1 _ rfl).trans rfl) rfl rfl rfl (by rfl) (by rfl)) convL_nil))))) convL_nil)) ?_
    refine d_op [61, 63] [2, 3, 6] rfl rfl (fun s hs => o_call (some 64) ⟨rfl, rfl⟩ tx93 rfl rfl (w_mul x.den y.den (by omega) (by omega)) (convL_cons (conv_e (hs.1 61 rfl) (by first | exact conv_p _ | exact conv_nilP _ | exact conv_nil _ | exact conv_sl rfl | exact conv_nums (by exact (hs.2.1 _ rfl).trans rfl) rfl rfl rfl (by rfl) (by rfl))) (convL_cons (conv_e (hs.1 63 rfl) (by first | exact conv_p _ | exact conv_nilP _ | exact conv_nil _ | exact conv_sl rfl | exact conv_nums (by exact (hs.2.1 _ rfl).trans rfl) rfl rfl rfl (by rfl) (by rfl))) convL_nil))) ?_
    refine d_op [57, 59, 64] [2, 3, 6] rfl rfl (fun s hs => o_call (some 65) ⟨rfl, rfl⟩ tx95 rfl rfl (w_ratio (plusF (decide (x.num < 0)) (x.num.natAbs * y.den) (decide (y.num < 0)) (y.num.natAbs * x.den)).1 (plusF (decide (x.num < 0)) (x.num.natAbs * y.den) (decide (y.num < 0)) (y.num.natAbs * x.den)).2 (x.den * y.den) hm6 (by omega) (by omega)) (convL_cons (conv_e (hs.1 57 rfl) (conv_p _)) (convL_cons (conv_e (hs.1 59 rfl) (by first | exact conv_p _ | exact conv_nilP _ | exact conv_nil _ | exact conv_sl rfl | exact conv_nums (by exact (hs.2.1 _ rfl).trans rfl) rfl rfl rfl (by rfl) (by rfl))) (convL_cons (conv_e (hs.1 64 rfl) (by first | exact conv_p _ | exact conv_nilP _ | exact conv_nil _ | exact conv_sl rfl | exact conv_nums (by exact (hs.2.1 _ rfl).trans rfl) rfl rfl rfl (by rfl) (by rfl))) convL_nil)))) ?_
    refine d_st [4, 65] [2, 3, 4, 6] rfl rfl (fun s hs => o_stA rfl rfl (by exact (hs.1 4 rfl).trans (rfl)) (by exact (hs.2.1 _ rfl).trans rfl) rfl rfl ty26 (by exact (congrArg AV.cells (by exact (hs.1 65 rfl).trans (rfl))).trans rfl) rfl rfl rfl rfl) ?_
    refine d_end ⟨rfl, ?_⟩
    refine s_n ?_
    refine r_ret ?_
    refine ⟨.inl rfl, [qP (x + y)], rfl, ?_⟩
    exact resL_cons (res_cell rfl rfl rfl ty26 rfl (Nat.le_of_ble_eq_true rfl) (conv_qe (q_add x y))) (resL_nil)

theorem w_times (x y : Rat) (hx : qh x < 17179869184) (hy : qh y < 17179869184) : FnP prog 23 [qP x, qP y] (packP [qP (x * y)]) := by
  have hx1 := qh_num x
  have hx2 := qh_den x
  have hx0 := qden_pos x
  have hxd := dn_len x.den_nz
  have hx3 := qh_dn x
  have hy1 := qh_num y
  have hy2 := qh_den y
  have hy0 := qden_pos y
  have hyd := dn_len y.den_nz
  have hy3 := qh_dn y
  have hm3 := d9_mul x.den y.den
  have hm4 := d9_mul x.num.natAbs y.num.natAbs
  have hm6 := Nat.mul_pos hx0 hy0
  refine fnP_of (fn := f23) fn23 rfl (Nat.le_of_ble_eq_true rfl) ?_
  refine r_seq ?_
  refine r_reg ?_
  refine r_op rfl (o_box (some 2) ⟨rfl, rfl⟩ rfl 2 rfl rfl rfl rfl) ?_
  refine r_op rfl (o_box (some 3) ⟨rfl, rfl⟩ rfl 3 rfl rfl rfl rfl) ?_
  refine r_op rfl (o_alloc (some 4) ⟨rfl, rfl⟩ rfl 4 rfl rfl ty26 rfl rfl) ?_
  refine r_end ?_
  refine s_n ?_
  refine r_seq ?_
  refine r_seq ?_
  refine r_reg ?_
  refine r_op rfl (o_fld (some 6) ⟨rfl, rfl⟩ rfl rfl rfl rfl ty26 fe26_2 ty24 rfl rfl) ?_
  refine r_op rfl (o_ld1 (some 7) ⟨rfl, rfl⟩ rfl rfl rfl rfl ty24 rfl rfl) ?_
  refine r_op rfl ((by first | exact o_lenN (some 8) ⟨rfl, rfl⟩ rfl rfl ty24 rfl | exact o_lenO (some 8) ⟨rfl, rfl⟩ rfl rfl rfl rfl ty24 | exact o_lenZ (some 8) ⟨rfl, rfl⟩ rfl rfl ty24 | exact o_lenP (some 8) ⟨rfl, rfl⟩ rfl rfl ty24 rfl)) ?_
  refine r_op rfl (o_eql (some 9) ⟨rfl, rfl⟩ rfl (by exact (rfl : _ = I _ 0)) rfl) ?_
  refine r_op rfl (o_mv (some 10) ⟨rfl, rfl⟩ rfl (by exact (rfl : _ = Bo _))) ?_
  refine r_gd (d := some 11) rfl rfl rfl rfl ⟨rfl, rfl⟩ (fun hb => o_fld (some 11) ⟨rfl, rfl⟩ rfl rfl rfl rfl ty26 fe26_2 ty24 rfl rfl) ?_
  refine r_gd (d := some 12) rfl rfl rfl rfl ⟨rfl, rfl⟩ (fun hb => o_ld1 (some 12) ⟨rfl, rfl⟩ rfl (by exact gd hb) rfl rfl ty24 rfl rfl) ?_
  refine r_gd (d := some 13) rfl rfl rfl rfl ⟨rfl, rfl⟩ (fun hb => (by first | exact o_lenN (some 13) ⟨rfl, rfl⟩ rfl (by exact gd hb) ty24 rfl | exact o_lenO (some 13) ⟨rfl, rfl⟩ rfl (by exact gd hb) rfl rfl ty24 | exact o_lenZ (some 13) ⟨rfl, rfl⟩ rfl (by exact gd hb) ty24 | exact o_lenP (some 13) ⟨rfl, rfl⟩ rfl (by exact gd hb) ty24 rfl)) ?_
  refine r_gd (d := some 14) rfl rfl rfl rfl ⟨rfl, rfl⟩ (fun hb => o_eql (some 14) ⟨rfl, rfl⟩ (by exact gd hb) (by exact (rfl : _ = I _ 0)) rfl) ?_
  refine r_op rfl (o_and (some 15) ⟨rfl, rfl⟩ rfl rfl rfl rfl) ?_
  refine r_end ?_
  refine s_n ?_
  refine r_cond rfl (fun hc => ?_) (fun hc => ?_)
  · try simp only [decide_eq_true_eq, decide_eq_false_iff_not, Nat.not_lt, Nat.not_le, Bool.and_eq_true, Bool.or_eq_true, Bool.and_eq_false_iff, Bool.or_eq_false_iff, Bool.not_eq_true', Bool.not_eq_false', beq_iff_eq, beq_eq_false_iff_ne, ne_eq, Decidable.not_not] at hc
    obtain ⟨p1, p2⟩ := times_dec hc.1 hc.2
    refine r_seq ?_
    refine r_reg ?_
    refine r_op rfl (o_fld (some 16) ⟨rfl, rfl⟩ rfl rfl rfl rfl ty26 fe26_1 ty24 rfl rfl) ?_
    refine r_op rfl (o_ld1 (some 17) ⟨rfl, rfl⟩ rfl rfl rfl rfl ty24 rfl rfl) ?_
    refine r_op rfl (o_fld (some 18) ⟨rfl, rfl⟩ rfl rfl rfl rfl ty26 fe26_1 ty24 rfl rfl) ?_
    refine r_op rfl (o_ld1 (some 19) ⟨rfl, rfl⟩ rfl rfl rfl rfl ty24 rfl rfl) ?_
    refine r_op rfl (o_call (some 20) ⟨rfl, rfl⟩ tx93 rfl rfl (w_mul x.num.natAbs y.num.natAbs (by omega) (by omega)) (convL_cons (by first | exact conv_p _ | exact conv_nilP _ | exact conv_nil _ | exact conv_sl rfl | exact conv_nums rfl rfl rfl rfl (by rfl) (by rfl)) (convL_cons (by first | exact conv_p _ | exact conv_nilP _ | exact conv_nil _ | exact conv_sl rfl | exact conv_nums rfl rfl rfl rfl (by rfl) (by rfl)) convL_nil))) ?_
    refine r_op rfl (o_as (some 5) ⟨rfl, rfl⟩ rfl (by exact (rfl : _ = AV.p _))) ?_
    refine r_end ?_
    refine s_n ?_
    refine r_seq ?_
    refine r_reg ?_
    refine r_op rfl (o_fld (some 21) ⟨rfl, rfl⟩ rfl rfl rfl rfl ty26 fe26_0 ty4 rfl rfl) ?_
    refine r_op rfl (o_ld1 (some 22) ⟨rfl, rfl⟩ rfl rfl rfl rfl ty4 rfl rfl) ?_
    refine r_op rfl (o_fld (some 23) ⟨rfl, rfl⟩ rfl rfl rfl rfl ty26 fe26_0 ty4 rfl rfl) ?_
    refine r_op rfl (o_ld1 (some 24) ⟨rfl, rfl⟩ rfl rfl rfl rfl ty4 rfl rfl) ?_
    refine r_op rfl (o_bneq (some 25) ⟨rfl, rfl⟩ rfl rfl ty4 rfl) ?_
    refine r_op rfl (o_mv (some 26) ⟨rfl, rfl⟩ rfl (by exact (rfl : _ = Bo _))) ?_
    refine r_gd (d := some 27) rfl rfl rfl rfl ⟨rfl, rfl⟩ (fun hb => o_mv (some 27) ⟨rfl, rfl⟩ rfl (by exact (rfl : _ = AV.p _))) ?_
    refine r_gd (d := some 28) rfl rfl rfl rfl ⟨rfl, rfl⟩ (fun hb => (by first | exact o_lenN (some 28) ⟨rfl, rfl⟩ rfl (by exact gd hb) ty24 rfl | exact o_lenO (some 28) ⟨rfl, rfl⟩ rfl (by exact gd hb) rfl rfl ty24 | exact o_lenZ (some 28) ⟨rfl, rfl⟩ rfl (by exact gd hb) ty24 | exact o_lenP (some 28) ⟨rfl, rfl⟩ rfl (by exact gd hb) ty24 rfl)) ?_
    refine r_gd (d := some 29) rfl rfl rfl rfl ⟨rfl, rfl⟩ (fun hb => o_gtr (some 29) ⟨rfl, rfl⟩ (by exact gd hb) (by exact (rfl : _ = I _ 0)) rfl) ?_
    refine r_op rfl (o_and (some 30) ⟨rfl, rfl⟩ rfl rfl rfl rfl) ?_
    refine r_op rfl (o_mv (some 31) ⟨rfl, rfl⟩ rfl (by exact (rfl : _ = AV.p _))) ?_
    refine r_op rfl (o_bld (some 32) ⟨rfl, rfl⟩ rfl ty26 pl26 rfl rfl) ?_
    refine r_op rfl (o_stA rfl rfl rfl rfl rfl rfl ty26 rfl rfl rfl rfl rfl) ?_
    refine r_end ?_
    refine s_n ?_
    refine r_ret ?_
    refine s_ret ?_
    refine ⟨.inl rfl, [qP (x * y)], rfl, ?_⟩
    exact resL_cons (res_cell rfl rfl rfl ty26 rfl (Nat.le_of_ble_eq_true rfl) (conv_q (sg_dec p1).1 (conv_pe rfl (by rw [← (sg_dec p1).2]; rfl)) (conv_dn1 p2))) (resL_nil)
  · try simp only [decide_eq_true_eq, decide_eq_false_iff_not, Nat.not_lt, Nat.not_le, Bool.and_eq_true, Bool.or_eq_true, Bool.and_eq_false_iff, Bool.or_eq_false_iff, Bool.not_eq_true', Bool.not_eq_false', beq_iff_eq, beq_eq_false_iff_ne, ne_eq, Decidable.not_not] at hc
    refine r_skip ?_
    refine s_n ?_
    refine r_seq ?_
    refine r_drawn mixed ?_
    refine d_op [2] [2, 3] rfl rfl (fun s hs => o_fld (some 33) ⟨rfl, rfl⟩ rfl (by exact (hs.1 2 rfl).trans (rfl)) (by exact (hs.2.1 _ rfl).trans rfl) rfl ty26 fe26_0 ty4 rfl rfl) ?_
    refine d_op [33] [2, 3] rfl rfl (fun s hs => o_ld1 (some 34) ⟨rfl, rfl⟩ rfl (by exact (hs.1 33 rfl).trans (rfl)) (by exact (hs.2.1 _ rfl).trans rfl) rfl ty4 rfl rfl) ?_
    refine d_op [3] [2, 3] rfl rfl (fun s hs => o_fld (some 35) ⟨rfl, rfl⟩ rfl (by exact (hs.1 3 rfl).trans (rfl)) (by exact (hs.2.1 _ rfl).trans rfl) rfl ty26 fe26_0 ty4 rfl rfl) ?_
    refine d_op [35] [2, 3] rfl rfl (fun s hs => o_ld1 (some 36) ⟨rfl, rfl⟩ rfl (by exact (hs.1 35 rfl).trans (rfl)) (by exact (hs.2.1 _ rfl).trans rfl) rfl ty4 rfl rfl) ?_
    refine d_op [34, 36] [] rfl rfl (fun s hs => o_bneq (some 37) ⟨rfl, rfl⟩ (by exact (hs.1 34 rfl).trans (rfl)) (by exact (hs.1 36 rfl).trans (rfl)) ty4 rfl) ?_
    refine d_op [2] [2, 3] rfl rfl (fun s hs => o_fld (some 38) ⟨rfl, rfl⟩ rfl (by exact (hs.1 2 rfl).trans (rfl)) (by exact (hs.2.1 _ rfl).trans rfl) rfl ty26 fe26_1 ty24 rfl rfl) ?_
    refine d_op [38] [2, 3] rfl rfl (fun s hs => o_ld1 (some 39) ⟨rfl, rfl⟩ rfl (by exact (hs.1 38 rfl).trans (rfl)) (by exact (hs.2.1 _ rfl).trans rfl) rfl ty24 rfl rfl) ?_
    refine d_op [3] [2, 3] rfl rfl (fun s hs => o_fld (some 40) ⟨rfl, rfl⟩ rfl (by exact (hs.1 3 rfl).trans (rfl)) (by exact (hs.2.1 _ rfl).trans rfl) rfl ty26 fe26_1 ty24 rfl rfl) ?_
    refine d_op [40] [2, 3] rfl rfl (fun s hs => o_ld1 (some 41) ⟨rfl, rfl⟩ rfl (by exact (hs.1 40 rfl).trans (rfl)) (by exact (hs.2.1 _ rfl).trans rfl) rfl ty24 rfl rfl) ?_
    refine d_op [39, 41] [2, 3] rfl rfl (fun s hs => o_call (some 42) ⟨rfl, rfl⟩ tx93 rfl rfl (w_mul x.num.natAbs y.num.natAbs (by omega) (by omega)) (convL_cons (conv_e (hs.1 39 rfl) (by first | exact conv_p _ | exact conv_nilP _ | exact conv_nil _ | exact conv_sl rfl | exact conv_nums (by exact (hs.2.1 _ rfl).trans rfl) rfl rfl rfl (by rfl) (by rfl))) (convL_cons (conv_e (hs.1 41 rfl) (by first | exact conv_p _ | exact conv_nilP _ | exact conv_nil _ | exact conv_sl rfl | exact conv_nums (by exact (hs.2.1 _ rfl).trans rfl) rfl rfl rfl (by rfl) (by rfl))) convL_nil))) ?_
    refine d_op [2] [2, 3] rfl rfl (fun s hs => o_ldA (some 43) ⟨rfl, rfl⟩ rfl (by exact (hs.1 2 rfl).trans (rfl)) (by exact (hs.2.1 _ rfl).trans rfl) rfl ty26 rfl rfl rfl) ?_
    refine d_op [43] [2, 3] rfl rfl (fun s hs => o_call (some 44) ⟨rfl, rfl⟩ tx94 rfl rfl (w_below x) (convL_cons (conv_e (hs.1 43 rfl) (by first | exact conv_p _ | exact conv_agg (convL_cons (by first | exact conv_p _ | exact conv_nilP _ | exact conv_nil _ | exact conv_sl rfl | exact conv_nums (by exact (hs.2.1 _ rfl).trans rfl) rfl rfl rfl (by rfl) (by rfl)) (convL_cons (by first | exact conv_p _ | exact conv_nilP _ | exact conv_nil _ | exact conv_sl rfl | exact conv_nums (by exact (hs.2.1 _ rfl).trans rfl) rfl rfl rfl (by rfl) (by rfl)) (convL_cons (by first | exact conv_p _ | exact conv_nilP _ | exact conv_nil _ | exact conv_sl rfl | exact conv_nums (by exact (hs.2.1 _ rfl).trans rfl) rfl rfl rfl (by rfl) (by rfl)) convL_nil))))) convL_nil)) ?_
    refine d_op [3] [2, 3] rfl rfl (fun s hs => o_ldA (some 45) ⟨rfl, rfl⟩ rfl (by exact (hs.1 3 rfl).trans (rfl)) (by exact (hs.2.1 _ rfl).trans rfl) rfl ty26 rfl rfl rfl) ?_
    refine d_op [45] [2, 3] rfl rfl (fun s hs => o_call (some 46) ⟨rfl, rfl⟩ tx94 rfl rfl (w_below y) (convL_cons (conv_e (hs.1 45 rfl) (by first | exact conv_p _ | exact conv_agg (convL_cons (by first | exact conv_p _ | exact conv_nilP _ | exact conv_nil _ | exact conv_sl rfl | exact conv_nums (by exact (hs.2.1 _ rfl).trans rfl) rfl rfl rfl (by rfl) (by rfl)) (convL_cons (by first | exact conv_p _ | exact conv_nilP _ | exact conv_nil _ | exact conv_sl rfl | exact conv_nums (by exact (hs.2.1 _ rfl).trans rfl) rfl rfl rfl (by rfl) (by rfl)) (convL_cons (by first | exact conv_p _ | exact conv_nilP _ | exact conv_nil _ | exact conv_sl rfl | exact conv_nums (by exact (hs.2.1 _ rfl).trans rfl) rfl rfl rfl (by rfl) (by rfl)) convL_nil))))) convL_nil)) ?_
    refine d_op [44, 46] [2, 3] rfl rfl (fun s hs => o_call (some 47) ⟨rfl, rfl⟩ tx93 rfl rfl (w_mul x.den y.den (by omega) (by omega)) (convL_cons (conv_e (hs.1 44 rfl) (by first | exact conv_p _ | exact conv_nilP _ | exact conv_nil _ | exact conv_sl rfl | exact conv_nums (by exact (hs.2.1 _ rfl).trans rfl) rfl rfl rfl (by rfl) (by rfl))) (convL_cons (conv_e (hs.1 46 rfl) (by first | exact conv_p _ | exact conv_nilP _ | exact conv_nil _ | exact conv_sl rfl | exact conv_nums (by exact (hs.2.1 _ rfl).trans rfl) rfl rfl rfl (by rfl) (by rfl))) convL_nil))) ?_
    refine d_op [37, 42, 47] [2, 3] rfl rfl (fun s hs => o_call (some 48) ⟨rfl, rfl⟩ tx95 rfl rfl (w_ratio (decide (x.num < 0) != decide (y.num < 0)) (x.num.natAbs * y.num.natAbs) (x.den * y.den) hm6 (by omega) (by omega)) (convL_cons (conv_e (hs.1 37 rfl) (conv_p _)) (convL_cons (conv_e (hs.1 42 rfl) (by first | exact conv_p _ | exact conv_nilP _ | exact conv_nil _ | exact conv_sl rfl | exact conv_nums (by exact (hs.2.1 _ rfl).trans rfl) rfl rfl rfl (by rfl) (by rfl))) (convL_cons (conv_e (hs.1 47 rfl) (by first | exact conv_p _ | exact conv_nilP _ | exact conv_nil _ | exact conv_sl rfl | exact conv_nums (by exact (hs.2.1 _ rfl).trans rfl) rfl rfl rfl (by rfl) (by rfl))) convL_nil)))) ?_
    refine d_st [4, 48] [2, 3, 4] rfl rfl (fun s hs => o_stA rfl rfl (by exact (hs.1 4 rfl).trans (rfl)) (by exact (hs.2.1 _ rfl).trans rfl) rfl rfl ty26 (by exact (congrArg AV.cells (by exact (hs.1 48 rfl).trans (rfl))).trans rfl) rfl rfl rfl rfl) ?_
    refine d_end ⟨rfl, ?_⟩
    refine s_n ?_
    refine r_ret ?_
    refine ⟨.inl rfl, [qP (x * y)], rfl, ?_⟩
    exact resL_cons (res_cell rfl rfl rfl ty26 rfl (Nat.le_of_ble_eq_true rfl) (conv_qe (q_mul x y))) (resL_nil)

theorem w_over (x y : Rat) (hx : qh x < 17179869184) (hy : qh y < 17179869184) : FnP prog 28 [qP x, qP y] (packP [qP (x / y), .v (.int .i64 (if y = 0 then 10 else 0))]) := by
  have hx1 := qh_num x
  have hx2 := qh_den x
  have hx0 := qden_pos x
  have hxd := dn_len x.den_nz
  have hx3 := qh_dn x
  have hy1 := qh_num y
  have hy2 := qh_den y
  have hy0 := qden_pos y
  have hyd := dn_len y.den_nz
  have hy3 := qh_dn y
  have hm1 := d9_mul x.num.natAbs y.den
  have hm5 := d9_mul x.den y.num.natAbs
  refine fnP_of (fn := f28) fn28 rfl (Nat.le_of_ble_eq_true rfl) ?_
  refine r_seq ?_
  refine r_reg ?_
  refine r_op rfl (o_box (some 2) ⟨rfl, rfl⟩ rfl 2 rfl rfl rfl rfl) ?_
  refine r_op rfl (o_box (some 3) ⟨rfl, rfl⟩ rfl 3 rfl rfl rfl rfl) ?_
  refine r_op rfl (o_alloc (some 4) ⟨rfl, rfl⟩ rfl 4 rfl rfl ty26 rfl rfl) ?_
  refine r_op rfl (o_as (some 5) ⟨rfl, rfl⟩ rfl (by exact (rfl : _ = I _ 0))) ?_
  refine r_end ?_
  refine s_n ?_
  refine r_seq ?_
  refine r_seq ?_
  refine r_reg ?_
  refine r_op rfl (o_fld (some 6) ⟨rfl, rfl⟩ rfl rfl rfl rfl ty26 fe26_1 ty24 rfl rfl) ?_
  refine r_op rfl (o_ld1 (some 7) ⟨rfl, rfl⟩ rfl rfl rfl rfl ty24 rfl rfl) ?_
  refine r_op rfl ((by first | exact o_lenN (some 8) ⟨rfl, rfl⟩ rfl rfl ty24 rfl | exact o_lenO (some 8) ⟨rfl, rfl⟩ rfl rfl rfl rfl ty24 | exact o_lenZ (some 8) ⟨rfl, rfl⟩ rfl rfl ty24 | exact o_lenP (some 8) ⟨rfl, rfl⟩ rfl rfl ty24 rfl)) ?_
  refine r_op rfl (o_eql (some 9) ⟨rfl, rfl⟩ rfl (by exact (rfl : _ = I _ 0)) rfl) ?_
  refine r_end ?_
  refine s_n ?_
  refine r_cond rfl (fun hc => ?_) (fun hc => ?_)
  · try simp only [decide_eq_true_eq, decide_eq_false_iff_not, Nat.not_lt, Nat.not_le, Bool.and_eq_true, Bool.or_eq_true, Bool.and_eq_false_iff, Bool.or_eq_false_iff, Bool.not_eq_true', Bool.not_eq_false', beq_iff_eq, beq_eq_false_iff_ne, ne_eq, Decidable.not_not] at hc
    have hy00 := num0_of hc
    refine r_seq ?_
    refine r_reg ?_
    refine r_op rfl (o_bld (some 10) ⟨rfl, rfl⟩ rfl ty26 pl26 rfl rfl) ?_
    refine r_op rfl (o_stA rfl rfl rfl rfl rfl rfl ty26 rfl rfl rfl rfl rfl) ?_
    refine r_op rfl (o_as (some 5) ⟨rfl, rfl⟩ rfl (by exact (rfl : _ = I _ 10))) ?_
    refine r_end ?_
    refine s_n ?_
    refine r_ret ?_
    refine s_ret ?_
    refine ⟨.inl rfl, [qP (x / y), .v (.int .i64 (if y = 0 then 10 else 0))], rfl, ?_⟩
    exact resL_cons (res_cell rfl rfl rfl ty26 rfl (Nat.le_of_ble_eq_true rfl) (conv_qz (by rw [hy00, div_zero']))) (resL_cons (res_tmp (conv_pe rfl (by rw [if_pos hy00]; rfl))) (resL_nil))
  · try simp only [decide_eq_true_eq, decide_eq_false_iff_not, Nat.not_lt, Nat.not_le, Bool.and_eq_true, Bool.or_eq_true, Bool.and_eq_false_iff, Bool.or_eq_false_iff, Bool.not_eq_true', Bool.not_eq_false', beq_iff_eq, beq_eq_false_iff_ne, ne_eq, Decidable.not_not] at hc
    have hy00 : y ≠ 0 := fun h => hc (by rw [(q_num0 y).2 h, d9_zero]; rfl)
    have hm6 : 0 < x.den * y.num.natAbs := Nat.mul_pos hx0 (by have := q_num0 y; have : y.num.natAbs ≠ 0 := fun h => hy00 (this.1 h); omega)
    refine r_skip ?_
    refine s_n ?_
    refine r_seq ?_
    refine r_drawn mixed ?_
    refine d_op [2] [2, 3] rfl rfl (fun s hs => o_fld (some 11) ⟨rfl, rfl⟩ rfl (by exact (hs.1 2 rfl).trans (rfl)) (by exact (hs.2.1 _ rfl).trans rfl) rfl ty26 fe26_0 ty4 rfl rfl) ?_
    refine d_op [11] [2, 3] rfl rfl (fun s hs => o_ld1 (some 12) ⟨rfl, rfl⟩ rfl (by exact (hs.1 11 rfl).trans (rfl)) (by exact (hs.2.1 _ rfl).trans rfl) rfl ty4 rfl rfl) ?_
    refine d_op [3] [2, 3] rfl rfl (fun s hs => o_fld (some 13) ⟨rfl, rfl⟩ rfl (by exact (hs.1 3 rfl).trans (rfl)) (by exact (hs.2.1 _ rfl).trans rfl) rfl ty26 fe26_0 ty4 rfl rfl) ?_
    refine d_op [13] [2, 3] rfl rfl (fun s hs => o_ld1 (some 14) ⟨rfl, rfl⟩ rfl (by exact (hs.1 13 rfl).trans (rfl)) (by exact (hs.2.1 _ rfl).trans rfl) rfl ty4 rfl rfl) ?_
    refine d_op [12, 14] [] rfl rfl (fun s hs => o_bneq (some 15) ⟨rfl, rfl⟩ (by exact (hs.1 12 rfl).trans (rfl)) (by exact (hs.1 14 rfl).trans (rfl)) ty4 rfl) ?_
    refine d_op [2] [2, 3] rfl rfl (fun s hs => o_fld (some 16) ⟨rfl, rfl⟩ rfl (by exact (hs.1 2 rfl).trans (rfl)) (by exact (hs.2.1 _ rfl).trans rfl) rfl ty26 fe26_1 ty24 rfl rfl) ?_
    refine d_op [16] [2, 3] rfl rfl (fun s hs => o_ld1 (some 17) ⟨rfl, rfl⟩ rfl (by exact (hs.1 16 rfl).trans (rfl)) (by exact (hs.2.1 _ rfl).trans rfl) rfl ty24 rfl rfl) ?_
    refine d_op [3] [2, 3] rfl rfl (fun s hs => o_ldA (some 18) ⟨rfl, rfl⟩ rfl (by exact (hs.1 3 rfl).trans (rfl)) (by exact (hs.2.1 _ rfl).trans rfl) rfl ty26 rfl rfl rfl) ?_
    refine d_op [18] [2, 3] rfl rfl (fun s hs => o_call (some 19) ⟨rfl, rfl⟩ tx94 rfl rfl (w_below y) (convL_cons (conv_e (hs.1 18 rfl) (by first | exact conv_p _ | exact conv_agg (convL_cons (by first | exact conv_p _ | exact conv_nilP _ | exact conv_nil _ | exact conv_sl rfl | exact conv_nums (by exact (hs.2.1 _ rfl).trans rfl) rfl rfl rfl (by rfl) (by rfl)) (convL_cons (by first | exact conv_p _ | exact conv_nilP _ | exact conv_nil _ | exact conv_sl rfl | exact conv_nums (by exact (hs.2.1 _ rfl).trans rfl) rfl rfl rfl (by rfl) (by rfl)) (convL_cons (by first | exact conv_p _ | exact conv_nilP _ | exact conv_nil _ | exact conv_sl rfl | exact conv_nums (by exact (hs.2.1 _ rfl).trans rfl) rfl rfl rfl (by rfl) (by rfl)) convL_nil))))) convL_nil)) ?_
    refine d_op [17, 19] [2, 3] rfl rfl (fun s hs => o_call (some 20) ⟨rfl, rfl⟩ tx93 rfl rfl (w_mul x.num.natAbs y.den (by omega) (by omega)) (convL_cons (conv_e (hs.1 17 rfl) (by first | exact conv_p _ | exact conv_nilP _ | exact conv_nil _ | exact conv_sl rfl | exact conv_nums (by exact (hs.2.1 _ rfl).trans rfl) rfl rfl rfl (by rfl) (by rfl))) (convL_cons (conv_e (hs.1 19 rfl) (by first | exact conv_p _ | exact conv_nilP _ | exact conv_nil _ | exact conv_sl rfl | exact conv_nums (by exact (hs.2.1 _ rfl).trans rfl) rfl rfl rfl (by rfl) (by rfl))) convL_nil))) ?_
    refine d_op [2] [2, 3] rfl rfl (fun s hs => o_ldA (some 21) ⟨rfl, rfl⟩ rfl (by exact (hs.1 2 rfl).trans (rfl)) (by exact (hs.2.1 _ rfl).trans rfl) rfl ty26 rfl rfl rfl) ?_
    refine d_op [21] [2, 3] rfl rfl (fun s hs => o_call (some 22) ⟨rfl, rfl⟩ tx94 rfl rfl (w_below x) (convL_cons (conv_e (hs.1 21 rfl) (by first | exact conv_p _ | exact conv_agg (convL_cons (by first | exact conv_p _ | exact conv_nilP _ | exact conv_nil _ | exact conv_sl rfl | exact conv_nums (by exact (hs.2.1 _ rfl).trans rfl) rfl rfl rfl (by rfl) (by rfl)) (convL_cons (by first | exact conv_p _ | exact conv_nilP _ | exact conv_nil _ | exact conv_sl rfl | exact conv_nums (by exact (hs.2.1 _ rfl).trans rfl) rfl rfl rfl (by rfl) (by rfl)) (convL_cons (by first | exact conv_p _ | exact conv_nilP _ | exact conv_nil _ | exact conv_sl rfl | exact conv_nums (by exact (hs.2.1 _ rfl).trans rfl) rfl rfl rfl (by rfl) (by rfl)) convL_nil))))) convL_nil)) ?_
    refine d_op [3] [2, 3] rfl rfl (fun s hs => o_fld (some 23) ⟨rfl, rfl⟩ rfl (by exact (hs.1 3 rfl).trans (rfl)) (by exact (hs.2.1 _ rfl).trans rfl) rfl ty26 fe26_1 ty24 rfl rfl) ?_
    refine d_op [23] [2, 3] rfl rfl (fun s hs => o_ld1 (some 24) ⟨rfl, rfl⟩ rfl (by exact (hs.1 23 rfl).trans (rfl)) (by exact (hs.2.1 _ rfl).trans rfl) rfl ty24 rfl rfl) ?_
    refine d_op [22, 24] [2, 3] rfl rfl (fun s hs => o_call (some 25) ⟨rfl, rfl⟩ tx93 rfl rfl (w_mul x.den y.num.natAbs (by omega) (by omega)) (convL_cons (conv_e (hs.1 22 rfl) (by first | exact conv_p _ | exact conv_nilP _ | exact conv_nil _ | exact conv_sl rfl | exact conv_nums (by exact (hs.2.1 _ rfl).trans rfl) rfl rfl rfl (by rfl) (by rfl))) (convL_cons (conv_e (hs.1 24 rfl) (by first | exact conv_p _ | exact conv_nilP _ | exact conv_nil _ | exact conv_sl rfl | exact conv_nums (by exact (hs.2.1 _ rfl).trans rfl) rfl rfl rfl (by rfl) (by rfl))) convL_nil))) ?_
    refine d_op [15, 20, 25] [2, 3] rfl rfl (fun s hs => o_call (some 26) ⟨rfl, rfl⟩ tx95 rfl rfl (w_ratio (decide (x.num < 0) != decide (y.num < 0)) (x.num.natAbs * y.den) (x.den * y.num.natAbs) hm6 (by omega) (by omega)) (convL_cons (conv_e (hs.1 15 rfl) (conv_p _)) (convL_cons (conv_e (hs.1 20 rfl) (by first | exact conv_p _ | exact conv_nilP _ | exact conv_nil _ | exact conv_sl rfl | exact conv_nums (by exact (hs.2.1 _ rfl).trans rfl) rfl rfl rfl (by rfl) (by rfl))) (convL_cons (conv_e (hs.1 25 rfl) (by first | exact conv_p _ | exact conv_nilP _ | exact conv_nil _ | exact conv_sl rfl | exact conv_nums (by exact (hs.2.1 _ rfl).trans rfl) rfl rfl rfl (by rfl) (by rfl))) convL_nil)))) ?_
    refine d_st [4, 26] [2, 3, 4] rfl rfl (fun s hs => o_stA rfl rfl (by exact (hs.1 4 rfl).trans (rfl)) (by exact (hs.2.1 _ rfl).trans rfl) rfl rfl ty26 (by exact (congrArg AV.cells (by exact (hs.1 26 rfl).trans (rfl))).trans rfl) rfl rfl rfl rfl) ?_
    refine d_op [] [] rfl rfl (fun s hs => o_as (some 5) ⟨rfl, rfl⟩ rfl (by exact (rfl : _ = I _ 0))) ?_
    refine d_end ⟨rfl, ?_⟩
    refine s_n ?_
    refine r_ret ?_
    refine ⟨.inl rfl, [qP (x / y), .v (.int .i64 (if y = 0 then 10 else 0))], rfl, ?_⟩
    exact resL_cons (res_cell rfl rfl rfl ty26 rfl (Nat.le_of_ble_eq_true rfl) (conv_qe (q_div x y hy00))) (resL_cons (res_tmp (conv_pe rfl (by rw [if_neg hy00]; rfl))) (resL_nil))

theorem w_neg (x : Rat) : FnP prog 25 [qP x] (packP [qP (-x)]) := by
  refine fnP_of (fn := f25) fn25 rfl (Nat.le_of_ble_eq_true rfl) ?_
  refine r_seq ?_
  refine r_reg ?_
  refine r_op rfl (o_box (some 1) ⟨rfl, rfl⟩ rfl 1 rfl rfl rfl rfl) ?_
  refine r_op rfl (o_alloc (some 2) ⟨rfl, rfl⟩ rfl 2 rfl rfl ty26 rfl rfl) ?_
  refine r_end ?_
  refine s_n ?_
  refine r_seq ?_
  refine r_reg ?_
  refine r_op rfl (o_fld (some 3) ⟨rfl, rfl⟩ rfl rfl rfl rfl ty26 fe26_0 ty4 rfl rfl) ?_
  refine r_op rfl (o_ld1 (some 4) ⟨rfl, rfl⟩ rfl rfl rfl rfl ty4 rfl rfl) ?_
  refine r_op rfl (o_not (some 5) ⟨rfl, rfl⟩ rfl rfl) ?_
  refine r_op rfl (o_mv (some 6) ⟨rfl, rfl⟩ rfl (by exact (rfl : _ = Bo _))) ?_
  refine r_gd (d := some 7) rfl rfl rfl rfl ⟨rfl, rfl⟩ (fun hb => o_fld (some 7) ⟨rfl, rfl⟩ rfl rfl rfl rfl ty26 fe26_1 ty24 rfl rfl) ?_
  refine r_gd (d := some 8) rfl rfl rfl rfl ⟨rfl, rfl⟩ (fun hb => o_ld1 (some 8) ⟨rfl, rfl⟩ rfl (by exact gd hb) rfl rfl ty24 rfl rfl) ?_
  refine r_gd (d := some 9) rfl rfl rfl rfl ⟨rfl, rfl⟩ (fun hb => (by first | exact o_lenN (some 9) ⟨rfl, rfl⟩ rfl (by exact gd hb) ty24 rfl | exact o_lenO (some 9) ⟨rfl, rfl⟩ rfl (by exact gd hb) rfl rfl ty24 | exact o_lenZ (some 9) ⟨rfl, rfl⟩ rfl (by exact gd hb) ty24 | exact o_lenP (some 9) ⟨rfl, rfl⟩ rfl (by exact gd hb) ty24 rfl)) ?_
  refine r_gd (d := some 10) rfl rfl rfl rfl ⟨rfl, rfl⟩ (fun hb => o_gtr (some 10) ⟨rfl, rfl⟩ (by exact gd hb) (by exact (rfl : _ = I _ 0)) rfl) ?_
  refine r_op rfl (o_and (some 11) ⟨rfl, rfl⟩ rfl rfl rfl rfl) ?_
  refine r_op rfl (o_fld (some 12) ⟨rfl, rfl⟩ rfl rfl rfl rfl ty26 fe26_0 ty4 rfl rfl) ?_
  refine r_op rfl (o_st1 rfl rfl rfl rfl rfl rfl ty4 rfl rfl (Nat.le_of_ble_eq_true rfl) rfl) ?_
  refine r_end ?_
  refine s_n ?_
  refine r_seq ?_
  refine r_reg ?_
  refine r_op rfl (o_ldA (some 13) ⟨rfl, rfl⟩ rfl rfl rfl rfl ty26 rfl rfl rfl) ?_
  refine r_op rfl (o_stA rfl rfl rfl rfl rfl rfl ty26 rfl rfl rfl rfl rfl) ?_
  refine r_end ?_
  refine s_n ?_
  refine r_ret ?_
  refine ⟨.inl rfl, [qP (-x)], rfl, ?_⟩
  exact resL_cons (res_cell rfl rfl rfl ty26 rfl (Nat.le_of_ble_eq_true rfl) (conv_q (neg_dec x) (conv_pe rfl (by rw [neg_num_abs])) (conv_pe rfl (by rw [Rat.neg_den])))) (resL_nil)

theorem w_abs (x : Rat) : FnP prog 58 [qP x] (packP [qP (qabs x)]) := by
  refine fnP_of (fn := f58) fn58 rfl (Nat.le_of_ble_eq_true rfl) ?_
  refine r_seq ?_
  refine r_reg ?_
  refine r_op rfl (o_box (some 1) ⟨rfl, rfl⟩ rfl 1 rfl rfl rfl rfl) ?_
  refine r_op rfl (o_alloc (some 2) ⟨rfl, rfl⟩ rfl 2 rfl rfl ty26 rfl rfl) ?_
  refine r_end ?_
  refine s_n ?_
  refine r_seq ?_
  refine r_reg ?_
  refine r_op rfl (o_fld (some 3) ⟨rfl, rfl⟩ rfl rfl rfl rfl ty26 fe26_0 ty4 rfl rfl) ?_
  refine r_op rfl (o_st1 rfl rfl rfl rfl rfl rfl ty4 rfl rfl (Nat.le_of_ble_eq_true rfl) rfl) ?_
  refine r_end ?_
  refine s_n ?_
  refine r_seq ?_
  refine r_reg ?_
  refine r_op rfl (o_ldA (some 4) ⟨rfl, rfl⟩ rfl rfl rfl rfl ty26 rfl rfl rfl) ?_
  refine r_op rfl (o_stA rfl rfl rfl rfl rfl rfl ty26 rfl rfl rfl rfl rfl) ?_
  refine r_end ?_
  refine s_n ?_
  refine r_ret ?_
  refine ⟨.inl rfl, [qP (qabs x)], rfl, ?_⟩
  exact resL_cons (res_cell rfl rfl rfl ty26 rfl (Nat.le_of_ble_eq_true rfl) (conv_q (by rw [(qabs_num x).1]; simp) (conv_pe rfl (by rw [(qabs_num x).1, Int.natAbs_natCast])) (conv_pe rfl (by rw [(qabs_num x).2])))) (resL_nil)

theorem w_sign (x : Rat) : FnP prog 26 [qP x] (packP [.v (.int .i64 x.num.sign)]) := by
  refine fnP_of (fn := f26) fn26 rfl (Nat.le_of_ble_eq_true rfl) ?_
  refine r_seq ?_
  refine r_reg ?_
  refine r_op rfl (o_box (some 1) ⟨rfl, rfl⟩ rfl 1 rfl rfl rfl rfl) ?_
  refine r_op rfl (o_as (some 2) ⟨rfl, rfl⟩ rfl (by exact (rfl : _ = I _ 0))) ?_
  refine r_end ?_
  refine s_n ?_
  refine r_seq ?_
  refine r_block ?_
  refine r_seq ?_
  refine r_reg ?_
  refine r_op rfl (o_fld (some 4) ⟨rfl, rfl⟩ rfl rfl rfl rfl ty26 fe26_0 ty4 rfl rfl) ?_
  refine r_op rfl (o_ld1 (some 5) ⟨rfl, rfl⟩ rfl rfl rfl rfl ty4 rfl rfl) ?_
  refine r_op rfl (o_as (some 3) ⟨rfl, rfl⟩ rfl (by first | exact (rfl : _ = I _ _) | exact (rfl : _ = AV.p _) | exact (rfl : _ = AV.ptr _ _) | exact (rfl : _ = AV.own _ _ _ _ _) | exact (rfl : _ = AV.agg _) | exact (rfl : _ = AV.fn _ _))) ?_
  refine r_end ?_
  refine s_n ?_
  refine r_cond rfl (fun hc => ?_) (fun hc => ?_)
  · try simp only [decide_eq_true_eq, decide_eq_false_iff_not, Nat.not_lt, Nat.not_le, Bool.and_eq_true, Bool.or_eq_true, Bool.and_eq_false_iff, Bool.or_eq_false_iff, Bool.not_eq_true', Bool.not_eq_false', beq_iff_eq, beq_eq_false_iff_ne, ne_eq, Decidable.not_not] at hc
    refine r_seq ?_
    refine r_reg ?_
    refine r_op rfl (o_as (some 2) ⟨rfl, rfl⟩ rfl (by exact (rfl : _ = AV.p _))) ?_
    refine r_end ?_
    refine s_n ?_
    refine r_ret ?_
    refine b_ret ?_
    refine s_ret ?_
    refine ⟨.inl rfl, [.v (.int .i64 x.num.sign)], rfl, ?_⟩
    exact resL_cons (res_tmp (conv_pe rfl (by rw [sign_neg hc]))) (resL_nil)
  · try simp only [decide_eq_true_eq, decide_eq_false_iff_not, Nat.not_lt, Nat.not_le, Bool.and_eq_true, Bool.or_eq_true, Bool.and_eq_false_iff, Bool.or_eq_false_iff, Bool.not_eq_true', Bool.not_eq_false', beq_iff_eq, beq_eq_false_iff_ne, ne_eq, Decidable.not_not] at hc
    refine r_seq ?_
    refine r_reg ?_
    refine r_op rfl (o_fld (some 7) ⟨rfl, rfl⟩ rfl rfl rfl rfl ty26 fe26_1 ty24 rfl rfl) ?_
    refine r_op rfl (o_ld1 (some 8) ⟨rfl, rfl⟩ rfl rfl rfl rfl ty24 rfl rfl) ?_
    refine r_op rfl ((by first | exact o_lenN (some 9) ⟨rfl, rfl⟩ rfl rfl ty24 rfl | exact o_lenO (some 9) ⟨rfl, rfl⟩ rfl rfl rfl rfl ty24 | exact o_lenZ (some 9) ⟨rfl, rfl⟩ rfl rfl ty24 | exact o_lenP (some 9) ⟨rfl, rfl⟩ rfl rfl ty24 rfl)) ?_
    refine r_op rfl (o_gtr (some 10) ⟨rfl, rfl⟩ rfl (by exact (rfl : _ = I _ 0)) rfl) ?_
    refine r_op rfl (o_as (some 6) ⟨rfl, rfl⟩ rfl (by exact (rfl : _ = Bo _))) ?_
    refine r_end ?_
    refine s_n ?_
    refine r_cond rfl (fun hc_1 => ?_) (fun hc_1 => ?_)
    · try simp only [decide_eq_true_eq, decide_eq_false_iff_not, Nat.not_lt, Nat.not_le, Bool.and_eq_true, Bool.or_eq_true, Bool.and_eq_false_iff, Bool.or_eq_false_iff, Bool.not_eq_true', Bool.not_eq_false', beq_iff_eq, beq_eq_false_iff_ne, ne_eq, Decidable.not_not] at hc_1
      refine r_seq ?_
      refine r_reg ?_
      refine r_op rfl (o_as (some 2) ⟨rfl, rfl⟩ rfl (by exact (rfl : _ = I _ 1))) ?_
      refine r_end ?_
      refine s_n ?_
      refine r_ret ?_
      refine b_ret ?_
      refine s_ret ?_
      refine ⟨.inl rfl, [.v (.int .i64 x.num.sign)], rfl, ?_⟩
      exact resL_cons (res_tmp (conv_pe rfl (by rw [sign_pos' hc hc_1]; rfl))) (resL_nil)
    · try simp only [decide_eq_true_eq, decide_eq_false_iff_not, Nat.not_lt, Nat.not_le, Bool.and_eq_true, Bool.or_eq_true, Bool.and_eq_false_iff, Bool.or_eq_false_iff, Bool.not_eq_true', Bool.not_eq_false', beq_iff_eq, beq_eq_false_iff_ne, ne_eq, Decidable.not_not] at hc_1
      refine r_skip ?_
      refine b_n ?_
      refine s_n ?_
      refine r_seq ?_
      refine r_reg ?_
      refine r_op rfl (o_as (some 2) ⟨rfl, rfl⟩ rfl (by exact (rfl : _ = I _ 0))) ?_
      refine r_end ?_
      refine s_n ?_
      refine r_ret ?_
      refine ⟨.inl rfl, [.v (.int .i64 x.num.sign)], rfl, ?_⟩
      exact resL_cons (res_tmp (conv_pe rfl (by rw [sign_zero' hc (by omega)]; rfl))) (resL_nil)

theorem w_cmpq (x y : Rat) (hx : qh x < 17179869184) (hy : qh y < 17179869184) : FnP prog 29 [qP x, qP y] (packP [.v (.int .i64 (cmpQ x y))]) := by
  have hx1 := qh_num x
  have hx2 := qh_den x
  have hx0 := qden_pos x
  have hxd := dn_len x.den_nz
  have hx3 := qh_dn x
  have hy1 := qh_num y
  have hy2 := qh_den y
  have hy0 := qden_pos y
  have hyd := dn_len y.den_nz
  have hy3 := qh_dn y
  have hm1 := d9_mul x.num.natAbs y.den
  have hm2 := d9_mul y.num.natAbs x.den
  refine fnP_of (fn := f29) fn29 rfl (Nat.le_of_ble_eq_true rfl) ?_
  refine r_seq ?_
  refine r_reg ?_
  refine r_op rfl (o_box (some 2) ⟨rfl, rfl⟩ rfl 2 rfl rfl rfl rfl) ?_
  refine r_op rfl (o_box (some 3) ⟨rfl, rfl⟩ rfl 3 rfl rfl rfl rfl) ?_
  refine r_op rfl (o_as (some 4) ⟨rfl, rfl⟩ rfl (by exact (rfl : _ = I _ 0))) ?_
  refine r_end ?_
  refine s_n ?_
  refine r_seq ?_
  refine r_seq ?_
  refine r_drawn mixed ?_
  refine d_op [2] [2, 3] rfl rfl (fun s hs => o_ldA (some 6) ⟨rfl, rfl⟩ rfl (by exact (hs.1 2 rfl).trans (rfl)) (by exact (hs.2.1 _ rfl).trans rfl) rfl ty26 rfl rfl rfl) ?_
  refine d_op [6] [2, 3] rfl rfl (fun s hs => o_call (some 7) ⟨rfl, rfl⟩ tx26 rfl rfl (w_sign x) (convL_cons (conv_e (hs.1 6 rfl) (by first | exact conv_p _ | exact conv_agg (convL_cons (by first | exact conv_p _ | exact conv_nilP _ | exact conv_nil _ | exact conv_sl rfl | exact conv_nums (by exact (hs.2.1 _ rfl).trans rfl) rfl rfl rfl (by rfl) (by rfl)) (convL_cons (by first | exact conv_p _ | exact conv_nilP _ | exact conv_nil _ | exact conv_sl rfl | exact conv_nums (by exact (hs.2.1 _ rfl).trans rfl) rfl rfl rfl (by rfl) (by rfl)) (convL_cons (by first | exact conv_p _ | exact conv_nilP _ | exact conv_nil _ | exact conv_sl rfl | exact conv_nums (by exact (hs.2.1 _ rfl).trans rfl) rfl rfl rfl (by rfl) (by rfl)) convL_nil))))) convL_nil)) ?_
  refine d_op [3] [2, 3] rfl rfl (fun s hs => o_ldA (some 8) ⟨rfl, rfl⟩ rfl (by exact (hs.1 3 rfl).trans (rfl)) (by exact (hs.2.1 _ rfl).trans rfl) rfl ty26 rfl rfl rfl) ?_
  refine d_op [8] [2, 3] rfl rfl (fun s hs => o_call (some 9) ⟨rfl, rfl⟩ tx26 rfl rfl (w_sign y) (convL_cons (conv_e (hs.1 8 rfl) (by first | exact conv_p _ | exact conv_agg (convL_cons (by first | exact conv_p _ | exact conv_nilP _ | exact conv_nil _ | exact conv_sl rfl | exact conv_nums (by exact (hs.2.1 _ rfl).trans rfl) rfl rfl rfl (by rfl) (by rfl)) (convL_cons (by first | exact conv_p _ | exact conv_nilP _ | exact conv_nil _ | exact conv_sl rfl | exact conv_nums (by exact (hs.2.1 _ rfl).trans rfl) rfl rfl rfl (by rfl) (by rfl)) (convL_cons (by first | exact conv_p _ | exact conv_nilP _ | exact conv_nil _ | exact conv_sl rfl | exact conv_nums (by exact (hs.2.1 _ rfl).trans rfl) rfl rfl rfl (by rfl) (by rfl)) convL_nil))))) convL_nil)) ?_
  refine d_op [7, 9] [] rfl rfl (fun s hs => o_zneq (some 10) ⟨rfl, rfl⟩ (by exact ((hs.1 7 rfl).trans (rfl) : _ = Z _ _)) (by exact ((hs.1 9 rfl).trans (rfl) : _ = Z _ _)) rfl) ?_
  refine d_end ⟨rfl, ?_⟩
  refine s_n ?_
  refine r_cond rfl (fun hc => ?_) (fun hc => ?_)
  · try simp only [decide_eq_true_eq, decide_eq_false_iff_not, Nat.not_lt, Nat.not_le, Bool.and_eq_true, Bool.or_eq_true, Bool.and_eq_false_iff, Bool.or_eq_false_iff, Bool.not_eq_true', Bool.not_eq_false', beq_iff_eq, beq_eq_false_iff_ne, ne_eq, Decidable.not_not] at hc
    refine r_seq ?_
    refine r_seq ?_
    refine r_drawn mixed ?_
    refine d_op [2] [2, 3] rfl rfl (fun s hs => o_ldA (some 11) ⟨rfl, rfl⟩ rfl (by exact (hs.1 2 rfl).trans (rfl)) (by exact (hs.2.1 _ rfl).trans rfl) rfl ty26 rfl rfl rfl) ?_
    refine d_op [11] [2, 3] rfl rfl (fun s hs => o_call (some 12) ⟨rfl, rfl⟩ tx26 rfl rfl (w_sign x) (convL_cons (conv_e (hs.1 11 rfl) (by first | exact conv_p _ | exact conv_agg (convL_cons (by first | exact conv_p _ | exact conv_nilP _ | exact conv_nil _ | exact conv_sl rfl | exact conv_nums (by exact (hs.2.1 _ rfl).trans rfl) rfl rfl rfl (by rfl) (by rfl)) (convL_cons (by first | exact conv_p _ | exact conv_nilP _ | exact conv_nil _ | exact conv_sl rfl | exact conv_nums (by exact (hs.2.1 _ rfl).trans rfl) rfl rfl rfl (by rfl) (by rfl)) (convL_cons (by first | exact conv_p _ | exact conv_nilP _ | exact conv_nil _ | exact conv_sl rfl | exact conv_nums (by exact (hs.2.1 _ rfl).trans rfl) rfl rfl rfl (by rfl) (by rfl)) convL_nil))))) convL_nil)) ?_
    refine d_op [3] [2, 3] rfl rfl (fun s hs => o_ldA (some 13) ⟨rfl, rfl⟩ rfl (by exact (hs.1 3 rfl).trans (rfl)) (by exact (hs.2.1 _ rfl).trans rfl) rfl ty26 rfl rfl rfl) ?_
    refine d_op [13] [2, 3] rfl rfl (fun s hs => o_call (some 14) ⟨rfl, rfl⟩ tx26 rfl rfl (w_sign y) (convL_cons (conv_e (hs.1 13 rfl) (by first | exact conv_p _ | exact conv_agg (convL_cons (by first | exact conv_p _ | exact conv_nilP _ | exact conv_nil _ | exact conv_sl rfl | exact conv_nums (by exact (hs.2.1 _ rfl).trans rfl) rfl rfl rfl (by rfl) (by rfl)) (convL_cons (by first | exact conv_p _ | exact conv_nilP _ | exact conv_nil _ | exact conv_sl rfl | exact conv_nums (by exact (hs.2.1 _ rfl).trans rfl) rfl rfl rfl (by rfl) (by rfl)) (convL_cons (by first | exact conv_p _ | exact conv_nilP _ | exact conv_nil _ | exact conv_sl rfl | exact conv_nums (by exact (hs.2.1 _ rfl).trans rfl) rfl rfl rfl (by rfl) (by rfl)) convL_nil))))) convL_nil)) ?_
    refine d_op [12, 14] [] rfl rfl (fun s hs => o_zlss (some 15) ⟨rfl, rfl⟩ (by exact ((hs.1 12 rfl).trans (rfl) : _ = Z _ _)) (by exact ((hs.1 14 rfl).trans (rfl) : _ = Z _ _)) rfl) ?_
    refine d_end ⟨rfl, ?_⟩
    refine s_n ?_
    refine r_cond rfl (fun hc_1 => ?_) (fun hc_1 => ?_)
    · try simp only [decide_eq_true_eq, decide_eq_false_iff_not, Nat.not_lt, Nat.not_le, Bool.and_eq_true, Bool.or_eq_true, Bool.and_eq_false_iff, Bool.or_eq_false_iff, Bool.not_eq_true', Bool.not_eq_false', beq_iff_eq, beq_eq_false_iff_ne, ne_eq, Decidable.not_not] at hc_1
      refine r_seq ?_
      refine r_reg ?_
      refine r_op rfl (o_as (some 4) ⟨rfl, rfl⟩ rfl (by exact (rfl : _ = AV.p _))) ?_
      refine r_end ?_
      refine s_n ?_
      refine r_ret ?_
      refine s_ret ?_
      refine s_ret ?_
      refine ⟨.inl rfl, [.v (.int .i64 (cmpQ x y))], rfl, ?_⟩
      exact resL_cons (res_tmp (conv_pe rfl (by rw [cmpQ_sign hc_1]))) (resL_nil)
    · try simp only [decide_eq_true_eq, decide_eq_false_iff_not, Nat.not_lt, Nat.not_le, Bool.and_eq_true, Bool.or_eq_true, Bool.and_eq_false_iff, Bool.or_eq_false_iff, Bool.not_eq_true', Bool.not_eq_false', beq_iff_eq, beq_eq_false_iff_ne, ne_eq, Decidable.not_not] at hc_1
      refine r_skip ?_
      refine s_n ?_
      refine r_seq ?_
      refine r_reg ?_
      refine r_op rfl (o_as (some 4) ⟨rfl, rfl⟩ rfl (by exact (rfl : _ = I _ 1))) ?_
      refine r_end ?_
      refine s_n ?_
      refine r_ret ?_
      refine s_ret ?_
      refine ⟨.inl rfl, [.v (.int .i64 (cmpQ x y))], rfl, ?_⟩
      exact resL_cons (res_tmp (conv_pe rfl (by rw [cmpQ_anti y x, cmpQ_sign (by omega)]; rfl))) (resL_nil)
  · try simp only [decide_eq_true_eq, decide_eq_false_iff_not, Nat.not_lt, Nat.not_le, Bool.and_eq_true, Bool.or_eq_true, Bool.and_eq_false_iff, Bool.or_eq_false_iff, Bool.not_eq_true', Bool.not_eq_false', beq_iff_eq, beq_eq_false_iff_ne, ne_eq, Decidable.not_not] at hc
    refine r_skip ?_
    refine s_n ?_
    refine r_seq ?_
    refine r_drawn mixed ?_
    refine d_op [2] [2, 3] rfl rfl (fun s hs => o_fld (some 16) ⟨rfl, rfl⟩ rfl (by exact (hs.1 2 rfl).trans (rfl)) (by exact (hs.2.1 _ rfl).trans rfl) rfl ty26 fe26_1 ty24 rfl rfl) ?_
    refine d_op [16] [2, 3] rfl rfl (fun s hs => o_ld1 (some 17) ⟨rfl, rfl⟩ rfl (by exact (hs.1 16 rfl).trans (rfl)) (by exact (hs.2.1 _ rfl).trans rfl) rfl ty24 rfl rfl) ?_
    refine d_op [3] [2, 3] rfl rfl (fun s hs => o_ldA (some 18) ⟨rfl, rfl⟩ rfl (by exact (hs.1 3 rfl).trans (rfl)) (by exact (hs.2.1 _ rfl).trans rfl) rfl ty26 rfl rfl rfl) ?_
    refine d_op [18] [2, 3] rfl rfl (fun s hs => o_call (some 19) ⟨rfl, rfl⟩ tx94 rfl rfl (w_below y) (convL_cons (conv_e (hs.1 18 rfl) (by first | exact conv_p _ | exact conv_agg (convL_cons (by first | exact conv_p _ | exact conv_nilP _ | exact conv_nil _ | exact conv_sl rfl | exact conv_nums (by exact (hs.2.1 _ rfl).trans rfl) rfl rfl rfl (by rfl) (by rfl)) (convL_cons (by first | exact conv_p _ | exact conv_nilP _ | exact conv_nil _ | exact conv_sl rfl | exact conv_nums (by exact (hs.2.1 _ rfl).trans rfl) rfl rfl rfl (by rfl) (by rfl)) (convL_cons (by first | exact conv_p _ | exact conv_nilP _ | exact conv_nil _ | exact conv_sl rfl | exact conv_nums (by exact (hs.2.1 _ rfl).trans rfl) rfl rfl rfl (by rfl) (by rfl)) convL_nil))))) convL_nil)) ?_
    refine d_op [17, 19] [2, 3] rfl rfl (fun s hs => o_call (some 20) ⟨rfl, rfl⟩ tx93 rfl rfl (w_mul x.num.natAbs y.den (by omega) (by omega)) (convL_cons (conv_e (hs.1 17 rfl) (by first | exact conv_p _ | exact conv_nilP _ | exact conv_nil _ | exact conv_sl rfl | exact conv_nums (by exact (hs.2.1 _ rfl).trans rfl) rfl rfl rfl (by rfl) (by rfl))) (convL_cons (conv_e (hs.1 19 rfl) (by first | exact conv_p _ | exact conv_nilP _ | exact conv_nil _ | exact conv_sl rfl | exact conv_nums (by exact (hs.2.1 _ rfl).trans rfl) rfl rfl rfl (by rfl) (by rfl))) convL_nil))) ?_
    refine d_op [3] [2, 3] rfl rfl (fun s hs => o_fld (some 21) ⟨rfl, rfl⟩ rfl (by exact (hs.1 3 rfl).trans (rfl)) (by exact (hs.2.1 _ rfl).trans rfl) rfl ty26 fe26_1 ty24 rfl rfl) ?_
    refine d_op [21] [2, 3] rfl rfl (fun s hs => o_ld1 (some 22) ⟨rfl, rfl⟩ rfl (by exact (hs.1 21 rfl).trans (rfl)) (by exact (hs.2.1 _ rfl).trans rfl) rfl ty24 rfl rfl) ?_
    refine d_op [2] [2, 3] rfl rfl (fun s hs => o_ldA (some 23) ⟨rfl, rfl⟩ rfl (by exact (hs.1 2 rfl).trans (rfl)) (by exact (hs.2.1 _ rfl).trans rfl) rfl ty26 rfl rfl rfl) ?_
    refine d_op [23] [2, 3] rfl rfl (fun s hs => o_call (some 24) ⟨rfl, rfl⟩ tx94 rfl rfl (w_below x) (convL_cons (conv_e (hs.1 23 rfl) (by first | exact conv_p _ | exact conv_agg (convL_cons (by first | exact conv_p _ | exact conv_nilP _ | exact conv_nil _ | exact conv_sl rfl | exact conv_nums (by exact (hs.2.1 _ rfl).trans rfl) rfl rfl rfl (by rfl) (by rfl)) (convL_cons (by first | exact conv_p _ | exact conv_nilP _ | exact conv_nil _ | exact conv_sl rfl | exact conv_nums (by exact (hs.2.1 _ rfl).trans rfl) rfl rfl rfl (by rfl) (by rfl)) (convL_cons (by first | exact conv_p _ | exact conv_nilP _ | exact conv_nil _ | exact conv_sl rfl | exact conv_nums (by exact (hs.2.1 _ rfl).trans rfl) rfl rfl rfl (by rfl) (by rfl)) convL_nil))))) convL_nil)) ?_
    refine d_op [22, 24] [2, 3] rfl rfl (fun s hs => o_call (some 25) ⟨rfl, rfl⟩ tx93 rfl rfl (w_mul y.num.natAbs x.den (by omega) (by omega)) (convL_cons (conv_e (hs.1 22 rfl) (by first | exact conv_p _ | exact conv_nilP _ | exact conv_nil _ | exact conv_sl rfl | exact conv_nums (by exact (hs.2.1 _ rfl).trans rfl) rfl rfl rfl (by rfl) (by rfl))) (convL_cons (conv_e (hs.1 24 rfl) (by first | exact conv_p _ | exact conv_nilP _ | exact conv_nil _ | exact conv_sl rfl | exact conv_nums (by exact (hs.2.1 _ rfl).trans rfl) rfl rfl rfl (by rfl) (by rfl))) convL_nil))) ?_
    refine d_op [20, 25] [2, 3] rfl rfl (fun s hs => o_call (some 26) ⟨rfl, rfl⟩ tx85 rfl rfl (w_cmp (x.num.natAbs * y.den) (y.num.natAbs * x.den) (by omega) (by omega)) (convL_cons (conv_e (hs.1 20 rfl) (by first | exact conv_p _ | exact conv_nilP _ | exact conv_nil _ | exact conv_sl rfl | exact conv_nums (by exact (hs.2.1 _ rfl).trans rfl) rfl rfl rfl (by rfl) (by rfl))) (convL_cons (conv_e (hs.1 25 rfl) (by first | exact conv_p _ | exact conv_nilP _ | exact conv_nil _ | exact conv_sl rfl | exact conv_nums (by exact (hs.2.1 _ rfl).trans rfl) rfl rfl rfl (by rfl) (by rfl))) convL_nil))) ?_
    refine d_op [26] [] rfl rfl (fun s hs => o_as (some 5) ⟨rfl, rfl⟩ rfl (by exact ((hs.1 26 rfl).trans (rfl) : _ = AV.p _))) ?_
    refine d_end ⟨rfl, ?_⟩
    refine s_n ?_
    refine r_seq ?_
    refine r_seq ?_
    refine r_reg ?_
    refine r_op rfl (o_fld (some 27) ⟨rfl, rfl⟩ rfl rfl rfl rfl ty26 fe26_0 ty4 rfl rfl) ?_
    refine r_op rfl (o_ld1 (some 28) ⟨rfl, rfl⟩ rfl rfl rfl rfl ty4 rfl rfl) ?_
    refine r_end ?_
    refine s_n ?_
    refine r_cond rfl (fun hc_2 => ?_) (fun hc_2 => ?_)
    · try simp only [decide_eq_true_eq, decide_eq_false_iff_not, Nat.not_lt, Nat.not_le, Bool.and_eq_true, Bool.or_eq_true, Bool.and_eq_false_iff, Bool.or_eq_false_iff, Bool.not_eq_true', Bool.not_eq_false', beq_iff_eq, beq_eq_false_iff_ne, ne_eq, Decidable.not_not] at hc_2
      refine r_seq ?_
      refine r_reg ?_
      refine r_op rfl (o_mv (some 29) ⟨rfl, rfl⟩ rfl (by exact (rfl : _ = AV.p _))) ?_
      refine r_op rfl (o_zneg (some 30) ⟨rfl, rfl⟩ rfl (by exact (rfl : _ = Z _ _)) (by first | exact (cmpI_lim _ _).1 | exact (cmpI_lim _ _).2) (by first | exact (cmpI_lim _ _).1 | exact (cmpI_lim _ _).2)) ?_
      refine r_op rfl (o_as (some 4) ⟨rfl, rfl⟩ rfl (by exact (rfl : _ = Z _ _))) ?_
      refine r_end ?_
      refine s_n ?_
      refine r_ret ?_
      refine s_ret ?_
      refine ⟨.inl rfl, [.v (.int .i64 (cmpQ x y))], rfl, ?_⟩
      exact resL_cons (res_tmp (conv_pe rfl (by rw [cmpQ_same hc, if_pos hc_2]))) (resL_nil)
    · try simp only [decide_eq_true_eq, decide_eq_false_iff_not, Nat.not_lt, Nat.not_le, Bool.and_eq_true, Bool.or_eq_true, Bool.and_eq_false_iff, Bool.or_eq_false_iff, Bool.not_eq_true', Bool.not_eq_false', beq_iff_eq, beq_eq_false_iff_ne, ne_eq, Decidable.not_not] at hc_2
      refine r_skip ?_
      refine s_n ?_
      refine r_seq ?_
      refine r_reg ?_
      refine r_op rfl (o_mv (some 31) ⟨rfl, rfl⟩ rfl (by exact (rfl : _ = AV.p _))) ?_
      refine r_op rfl (o_as (some 4) ⟨rfl, rfl⟩ rfl (by exact (rfl : _ = AV.p _))) ?_
      refine r_end ?_
      refine s_n ?_
      refine r_ret ?_
      refine ⟨.inl rfl, [.v (.int .i64 (cmpQ x y))], rfl, ?_⟩
      exact resL_cons (res_tmp (conv_pe rfl (by rw [cmpQ_same hc, if_neg hc_2]; rfl))) (resL_nil)

theorem w_minus (x y : Rat) (hx : qh x < 17179869184) (hy : qh y < 17179869184) : FnP prog 24 [qP x, qP y] (packP [qP (x - y)]) := by
  refine fnP_of (fn := f24) fn24 rfl (Nat.le_of_ble_eq_true rfl) ?_
  refine r_seq ?_
  refine r_reg ?_
  refine r_op rfl (o_box (some 2) ⟨rfl, rfl⟩ rfl 2 rfl rfl rfl rfl) ?_
  refine r_op rfl (o_box (some 3) ⟨rfl, rfl⟩ rfl 3 rfl rfl rfl rfl) ?_
  refine r_op rfl (o_alloc (some 4) ⟨rfl, rfl⟩ rfl 4 rfl rfl ty26 rfl rfl) ?_
  refine r_end ?_
  refine s_n ?_
  refine r_seq ?_
  refine r_drawn mixed ?_
  refine d_op [2] [2, 3] rfl rfl (fun s hs => o_ldA (some 5) ⟨rfl, rfl⟩ rfl (by exact (hs.1 2 rfl).trans (rfl)) (by exact (hs.2.1 _ rfl).trans rfl) rfl ty26 rfl rfl rfl) ?_
  refine d_op [3] [2, 3] rfl rfl (fun s hs => o_ldA (some 6) ⟨rfl, rfl⟩ rfl (by exact (hs.1 3 rfl).trans (rfl)) (by exact (hs.2.1 _ rfl).trans rfl) rfl ty26 rfl rfl rfl) ?_
  refine d_op [6] [2, 3] rfl rfl (fun s hs => o_call (some 7) ⟨rfl, rfl⟩ tx25 rfl rfl (w_neg y) (convL_cons (conv_e (hs.1 6 rfl) (by first | exact conv_p _ | exact conv_agg (convL_cons (by first | exact conv_p _ | exact conv_nilP _ | exact conv_nil _ | exact conv_sl rfl | exact conv_nums (by exact (hs.2.1 _ rfl).trans rfl) rfl rfl rfl (by rfl) (by rfl)) (convL_cons (by first | exact conv_p _ | exact conv_nilP _ | exact conv_nil _ | exact conv_sl rfl | exact conv_nums (by exact (hs.2.1 _ rfl).trans rfl) rfl rfl rfl (by rfl) (by rfl)) (convL_cons (by first | exact conv_p _ | exact conv_nilP _ | exact conv_nil _ | exact conv_sl rfl | exact conv_nums (by exact (hs.2.1 _ rfl).trans rfl) rfl rfl rfl (by rfl) (by rfl)) convL_nil))))) convL_nil)) ?_
  refine d_op [5, 7] [2, 3] rfl rfl (fun s hs => o_call (some 8) ⟨rfl, rfl⟩ tx22 rfl rfl (w_plus x (-y) hx (by rw [qh_neg]; exact hy)) (convL_cons (conv_e (hs.1 5 rfl) (by first | exact conv_p _ | exact conv_agg (convL_cons (by first | exact conv_p _ | exact conv_nilP _ | exact conv_nil _ | exact conv_sl rfl | exact conv_nums (by exact (hs.2.1 _ rfl).trans rfl) rfl rfl rfl (by rfl) (by rfl)) (convL_cons (by first | exact conv_p _ | exact conv_nilP _ | exact conv_nil _ | exact conv_sl rfl | exact conv_nums (by exact (hs.2.1 _ rfl).trans rfl) rfl rfl rfl (by rfl) (by rfl)) (convL_cons (by first | exact conv_p _ | exact conv_nilP _ | exact conv_nil _ | exact conv_sl rfl | exact conv_nums (by exact (hs.2.1 _ rfl).trans rfl) rfl rfl rfl (by rfl) (by rfl)) convL_nil))))) (convL_cons (conv_e (hs.1 7 rfl) (by first | exact conv_p _ | exact conv_agg (convL_cons (by first | exact conv_p _ | exact conv_nilP _ | exact conv_nil _ | exact conv_sl rfl | exact conv_nums (by exact (hs.2.1 _ rfl).trans rfl) rfl rfl rfl (by rfl) (by rfl)) (convL_cons (by first | exact conv_p _ | exact conv_nilP _ | exact conv_nil _ | exact conv_sl rfl | exact conv_nums (by exact (hs.2.1 _ rfl).trans rfl) rfl rfl rfl (by rfl) (by rfl)) (convL_cons (by first | exact conv_p _ | exact conv_nilP _ | exact conv_nil _ | exact conv_sl rfl | exact conv_nums (by exact (hs.2.1 _ rfl).trans rfl) rfl rfl rfl (by rfl) (by rfl)) convL_nil))))) convL_nil))) ?_
  refine d_st [4, 8] [2, 3, 4] rfl rfl (fun s hs => o_stA rfl rfl (by exact (hs.1 4 rfl).trans (rfl)) (by exact (hs.2.1 _ rfl).trans rfl) rfl rfl ty26 (by exact (congrArg AV.cells (by exact (hs.1 8 rfl).trans (rfl))).trans rfl) rfl rfl rfl rfl) ?_
  refine d_end ⟨rfl, ?_⟩
  refine s_n ?_
  refine r_ret ?_
  refine ⟨.inl rfl, [qP (x - y)], rfl, ?_⟩
  exact resL_cons (res_cell rfl rfl rfl ty26 rfl (Nat.le_of_ble_eq_true rfl) (conv_qe (Rat.sub_eq_add_neg x y).symm)) (resL_nil)

theorem w_floor (x : Rat) (hx : qh x < 17179869184) : FnP prog 30 [qP x] (packP [qP ((x.floor : Int) : Rat)]) := by
  have hx1 := qh_num x
  have hx2 := qh_den x
  have hx0 := qden_pos x
  have hxd := dn_len x.den_nz
  have hx3 := qh_dn x
  have hdv := d9_mono (Nat.div_le_self x.num.natAbs x.den)
  have h1l : (d9 1).length = 1 := by rw [d9_one]; rfl
  refine fnP_of (fn := f30) fn30 rfl (Nat.le_of_ble_eq_true rfl) ?_
  refine r_seq ?_
  refine r_reg ?_
  refine r_op rfl (o_box (some 1) ⟨rfl, rfl⟩ rfl 1 rfl rfl rfl rfl) ?_
  refine r_op rfl (o_alloc (some 2) ⟨rfl, rfl⟩ rfl 2 rfl rfl ty26 rfl rfl) ?_
  refine r_end ?_
  refine s_n ?_
  refine r_seq ?_
  refine r_seq ?_
  refine r_reg ?_
  refine r_op rfl (o_fld (some 5) ⟨rfl, rfl⟩ rfl rfl rfl rfl ty26 fe26_2 ty24 rfl rfl) ?_
  refine r_op rfl (o_ld1 (some 6) ⟨rfl, rfl⟩ rfl rfl rfl rfl ty24 rfl rfl) ?_
  refine r_op rfl ((by first | exact o_lenN (some 7) ⟨rfl, rfl⟩ rfl rfl ty24 rfl | exact o_lenO (some 7) ⟨rfl, rfl⟩ rfl rfl rfl rfl ty24 | exact o_lenZ (some 7) ⟨rfl, rfl⟩ rfl rfl ty24 | exact o_lenP (some 7) ⟨rfl, rfl⟩ rfl rfl ty24 rfl)) ?_
  refine r_op rfl (o_eql (some 8) ⟨rfl, rfl⟩ rfl (by exact (rfl : _ = I _ 0)) rfl) ?_
  refine r_end ?_
  refine s_n ?_
  refine r_cond rfl (fun hc => ?_) (fun hc => ?_)
  · try simp only [decide_eq_true_eq, decide_eq_false_iff_not, Nat.not_lt, Nat.not_le, Bool.and_eq_true, Bool.or_eq_true, Bool.and_eq_false_iff, Bool.or_eq_false_iff, Bool.not_eq_true', Bool.not_eq_false', beq_iff_eq, beq_eq_false_iff_ne, ne_eq, Decidable.not_not] at hc
    refine r_seq ?_
    refine r_reg ?_
    refine r_op rfl (o_ldA (some 9) ⟨rfl, rfl⟩ rfl rfl rfl rfl ty26 rfl rfl rfl) ?_
    refine r_op rfl (o_stA rfl rfl rfl rfl rfl rfl ty26 rfl rfl rfl rfl rfl) ?_
    refine r_end ?_
    refine s_n ?_
    refine r_ret ?_
    refine s_ret ?_
    refine ⟨.inl rfl, [qP ((x.floor : Int) : Rat)], rfl, ?_⟩
    exact resL_cons (res_cell rfl rfl rfl ty26 rfl (Nat.le_of_ble_eq_true rfl) (conv_qe (floor_int (hxd.1 hc)).symm)) (resL_nil)
  · try simp only [decide_eq_true_eq, decide_eq_false_iff_not, Nat.not_lt, Nat.not_le, Bool.and_eq_true, Bool.or_eq_true, Bool.and_eq_false_iff, Bool.or_eq_false_iff, Bool.not_eq_true', Bool.not_eq_false', beq_iff_eq, beq_eq_false_iff_ne, ne_eq, Decidable.not_not] at hc
    have hne : ¬ x.den = 1 := fun h => hc (hxd.2 h)
    refine r_skip ?_
    refine s_n ?_
    refine r_seq ?_
    refine r_reg ?_
    refine r_op rfl (o_fld (some 11) ⟨rfl, rfl⟩ rfl rfl rfl rfl ty26 fe26_1 ty24 rfl rfl) ?_
    refine r_op rfl (o_ld1 (some 12) ⟨rfl, rfl⟩ rfl rfl rfl rfl ty24 rfl rfl) ?_
    refine r_op rfl (o_fld (some 13) ⟨rfl, rfl⟩ rfl rfl rfl rfl ty26 fe26_2 ty24 rfl rfl) ?_
    refine r_op rfl (o_ld1 (some 14) ⟨rfl, rfl⟩ rfl rfl rfl rfl ty24 rfl rfl) ?_
    refine r_op rfl (o_call (some 15) ⟨rfl, rfl⟩ tx97 rfl rfl (w_div x.num.natAbs (dn x.den) (by rw [dn_ne hne]; exact hx0) (by omega) (by omega)) (convL_cons (by first | exact conv_p _ | exact conv_nilP _ | exact conv_nil _ | exact conv_sl rfl | exact conv_nums rfl rfl rfl rfl (by rfl) (by rfl)) (convL_cons (by first | exact conv_p _ | exact conv_nilP _ | exact conv_nil _ | exact conv_sl rfl | exact conv_nums rfl rfl rfl rfl (by rfl) (by rfl)) convL_nil))) ?_
    refine r_op rfl (o_mv (some 10) ⟨rfl, rfl⟩ rfl (by exact (rfl : _ = AV.p _))) ?_
    refine r_op rfl (o_ext (some 16) ⟨rfl, rfl⟩ rfl rfl rfl) ?_
    refine r_op rfl (o_ext (some 17) ⟨rfl, rfl⟩ rfl rfl rfl) ?_
    refine r_op rfl (o_as (some 3) ⟨rfl, rfl⟩ rfl (by exact (rfl : _ = AV.p _))) ?_
    refine r_op rfl (o_as (some 4) ⟨rfl, rfl⟩ rfl (by exact (rfl : _ = AV.p _))) ?_
    refine r_end ?_
    refine s_n ?_
    refine r_seq ?_
    refine r_seq ?_
    refine r_reg ?_
    refine r_op rfl (o_fld (some 18) ⟨rfl, rfl⟩ rfl rfl rfl rfl ty26 fe26_0 ty4 rfl rfl) ?_
    refine r_op rfl (o_ld1 (some 19) ⟨rfl, rfl⟩ rfl rfl rfl rfl ty4 rfl rfl) ?_
    refine r_end ?_
    refine s_n ?_
    refine r_cond rfl (fun hc_1 => ?_) (fun hc_1 => ?_)
    · try simp only [decide_eq_true_eq, decide_eq_false_iff_not, Nat.not_lt, Nat.not_le, Bool.and_eq_true, Bool.or_eq_true, Bool.and_eq_false_iff, Bool.or_eq_false_iff, Bool.not_eq_true', Bool.not_eq_false', beq_iff_eq, beq_eq_false_iff_ne, ne_eq, Decidable.not_not] at hc_1
      refine r_reg ?_
      refine r_op rfl (o_mv (some 20) ⟨rfl, rfl⟩ rfl (by exact (rfl : _ = AV.p _))) ?_
      refine r_op rfl (o_call (some 21) ⟨rfl, rfl⟩ tx86 rfl rfl w_one convL_nil) ?_
      refine r_op rfl (o_call (some 22) ⟨rfl, rfl⟩ tx98 rfl rfl (w_add (x.num.natAbs / dn x.den) 1 (by rw [dn_ne hne]; omega) (by omega)) (convL_cons (by first | exact conv_p _ | exact conv_nilP _ | exact conv_nil _ | exact conv_sl rfl | exact conv_nums rfl rfl rfl rfl (by rfl) (by rfl)) (convL_cons (by first | exact conv_p _ | exact conv_nilP _ | exact conv_nil _ | exact conv_sl rfl | exact conv_nums rfl rfl rfl rfl (by rfl) (by rfl)) convL_nil))) ?_
      refine r_op rfl (o_as (some 3) ⟨rfl, rfl⟩ rfl (by exact (rfl : _ = AV.p _))) ?_
      refine r_end ?_
      refine s_n ?_
      refine r_seq ?_
      refine r_reg ?_
      refine r_op rfl (o_fld (some 23) ⟨rfl, rfl⟩ rfl rfl rfl rfl ty26 fe26_0 ty4 rfl rfl) ?_
      refine r_op rfl (o_ld1 (some 24) ⟨rfl, rfl⟩ rfl rfl rfl rfl ty4 rfl rfl) ?_
      refine r_op rfl (o_mv (some 25) ⟨rfl, rfl⟩ rfl (by exact (rfl : _ = AV.p _))) ?_
      refine r_op rfl (o_bld (some 26) ⟨rfl, rfl⟩ rfl ty26 pl26 rfl rfl) ?_
      refine r_op rfl (o_stA rfl rfl rfl rfl rfl rfl ty26 rfl rfl rfl rfl rfl) ?_
      refine r_end ?_
      refine s_n ?_
      refine r_ret ?_
      refine ⟨.inl rfl, [qP ((x.floor : Int) : Rat)], rfl, ?_⟩
      exact resL_cons (res_cell rfl rfl rfl ty26 rfl (Nat.le_of_ble_eq_true rfl) (by rw [floor_neg hne hc_1, dn_ne hne]; exact conv_q (by rw [decide_eq_true hc_1, (rat_int _).1]; exact (dec_neg1 _).symm) (conv_pe rfl (by rw [(rat_int _).1, Int.natAbs_neg, Int.natAbs_natCast]; rfl)) (conv_dn1 rfl))) (resL_nil)
    · try simp only [decide_eq_true_eq, decide_eq_false_iff_not, Nat.not_lt, Nat.not_le, Bool.and_eq_true, Bool.or_eq_true, Bool.and_eq_false_iff, Bool.or_eq_false_iff, Bool.not_eq_true', Bool.not_eq_false', beq_iff_eq, beq_eq_false_iff_ne, ne_eq, Decidable.not_not] at hc_1
      refine r_skip ?_
      refine s_n ?_
      refine r_seq ?_
      refine r_reg ?_
      refine r_op rfl (o_fld (some 23) ⟨rfl, rfl⟩ rfl rfl rfl rfl ty26 fe26_0 ty4 rfl rfl) ?_
      refine r_op rfl (o_ld1 (some 24) ⟨rfl, rfl⟩ rfl rfl rfl rfl ty4 rfl rfl) ?_
      refine r_op rfl (o_mv (some 25) ⟨rfl, rfl⟩ rfl (by exact (rfl : _ = AV.p _))) ?_
      refine r_op rfl (o_bld (some 26) ⟨rfl, rfl⟩ rfl ty26 pl26 rfl rfl) ?_
      refine r_op rfl (o_stA rfl rfl rfl rfl rfl rfl ty26 rfl rfl rfl rfl rfl) ?_
      refine r_end ?_
      refine s_n ?_
      refine r_ret ?_
      refine ⟨.inl rfl, [qP ((x.floor : Int) : Rat)], rfl, ?_⟩
      exact resL_cons (res_cell rfl rfl rfl ty26 rfl (Nat.le_of_ble_eq_true rfl) (by rw [floor_pos hne hc_1, dn_ne hne]; exact conv_q (by rw [decide_eq_false hc_1, (rat_int _).1]; exact (dec_nat _).symm) (conv_pe rfl (by rw [(rat_int _).1, Int.natAbs_natCast])) (conv_dn1 rfl))) (resL_nil)
end Vou
end
