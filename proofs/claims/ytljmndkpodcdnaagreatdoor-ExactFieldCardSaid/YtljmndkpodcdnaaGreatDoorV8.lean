/- A part of the proof: walks of the natural numbers: quotients, greatest common divisors, lowest terms. It holds without conditions. -/
import Derived.Test.YtljmndkpodcdnaaGreatDoorV5
import Derived.Test.YtljmndkpodcdnaaGreatDoorV7
import Derived.Test.YtljmndkpodcdnaaGreatDoorV6

section
set_option linter.unusedVariables false
set_option linter.unusedSimpArgs false
namespace Vou
open Go Go.RowKit Go.Proofs.Tryz
theorem cmp_lt_of {x y : Nat} (h : cmpI x y < 0) : x < y := cmpI_neg.1 h
theorem cmp_ge_of {x y : Nat} (h : ¬ cmpI x y < 0) : y ≤ x := by
  have : ¬ x < y := fun h' => h (cmpI_neg.2 h')
  omega

theorem d9_two {n : Nat} (h : (d9 n).length ≤ 2) : n < 18446744073709551616 := by
  have h1 := lt_pow_dl (b := 1000000000) (by omega) n
  have h2 : 1000000000 ^ (d9 n).length ≤ 1000000000 ^ 2 := Nat.pow_le_pow_right (by omega) h
  exact Nat.lt_of_lt_of_le (Nat.lt_of_lt_of_le h1 h2) (by decide)

theorem w_div (x y : Nat) (hy : 0 < y) (hx : (d9 x).length < 68719476736) (hyl : (d9 y).length < 4611686018427387904) : FnP prog 97 [nP x, nP y] (packP [nP (x / y), nP (x % y)]) := by
  refine fnP_of (fn := f97) fn97 rfl (Nat.le_of_ble_eq_true rfl) ?_
  refine r_seq ?_
  refine r_reg ?_
  refine r_op rfl (o_as (some 4) ⟨rfl, rfl⟩ rfl (by exact (rfl : _ = AV.p _))) ?_
  refine r_op rfl (o_as (some 5) ⟨rfl, rfl⟩ rfl (by exact (rfl : _ = AV.p _))) ?_
  refine r_end ?_
  refine s_n ?_
  refine r_seq ?_
  refine r_seq ?_
  refine r_reg ?_
  refine r_op rfl (o_mv (some 21) ⟨rfl, rfl⟩ rfl (by first | exact (rfl : _ = I _ _) | exact (rfl : _ = AV.p _) | exact (rfl : _ = AV.ptr _ _) | exact (rfl : _ = AV.own _ _ _ _ _) | exact (rfl : _ = AV.agg _) | exact (rfl : _ = AV.fn _ _))) ?_
  refine r_op rfl (o_mv (some 22) ⟨rfl, rfl⟩ rfl (by first | exact (rfl : _ = I _ _) | exact (rfl : _ = AV.p _) | exact (rfl : _ = AV.ptr _ _) | exact (rfl : _ = AV.own _ _ _ _ _) | exact (rfl : _ = AV.agg _) | exact (rfl : _ = AV.fn _ _))) ?_
  refine r_op rfl (o_call (some 23) ⟨rfl, rfl⟩ tx85 rfl rfl (w_cmp x y (by omega) hyl) (convL_cons (by first | exact conv_p _ | exact conv_nilP _ | exact conv_nil _ | exact conv_sl rfl | exact conv_nums rfl rfl rfl rfl (by first | rfl | omega | (rw [List.drop_zero, List.take_of_length_le (by omega)])) (by first | rfl | omega | (rw [List.drop_zero, List.take_of_length_le (by omega)]))) (convL_cons (by first | exact conv_p _ | exact conv_nilP _ | exact conv_nil _ | exact conv_sl rfl | exact conv_nums rfl rfl rfl rfl (by first | rfl | omega | (rw [List.drop_zero, List.take_of_length_le (by omega)])) (by first | rfl | omega | (rw [List.drop_zero, List.take_of_length_le (by omega)]))) convL_nil))) ?_
  refine r_op rfl (o_zlss (some 24) ⟨rfl, rfl⟩ (by exact (rfl : _ = Z _ _)) (by exact (rfl : _ = Z _ (0))) rfl) ?_
  refine r_end ?_
  refine s_n ?_
  refine r_cond rfl (fun hc => ?_) (fun hc => ?_)
  · try simp only [decide_eq_true_eq, decide_eq_false_iff_not, Nat.not_lt, Nat.not_le, Bool.and_eq_true, Bool.or_eq_true, Bool.and_eq_false_iff, Bool.or_eq_false_iff, Bool.not_eq_true', Bool.not_eq_false', beq_iff_eq, beq_eq_false_iff_ne, ne_eq, Decidable.not_not] at hc
    have hlt := cmp_lt_of hc
    refine r_seq ?_
    refine r_reg ?_
    refine r_op rfl (o_mv (some 25) ⟨rfl, rfl⟩ rfl (by first | exact (rfl : _ = I _ _) | exact (rfl : _ = AV.p _) | exact (rfl : _ = AV.ptr _ _) | exact (rfl : _ = AV.own _ _ _ _ _) | exact (rfl : _ = AV.agg _) | exact (rfl : _ = AV.fn _ _))) ?_
    refine r_op rfl (o_as (some 4) ⟨rfl, rfl⟩ rfl (by exact (rfl : _ = AV.p _))) ?_
    refine r_op rfl (o_as (some 5) ⟨rfl, rfl⟩ rfl (by first | exact (rfl : _ = I _ _) | exact (rfl : _ = AV.p _) | exact (rfl : _ = AV.ptr _ _) | exact (rfl : _ = AV.own _ _ _ _ _) | exact (rfl : _ = AV.agg _) | exact (rfl : _ = AV.fn _ _))) ?_
    refine r_end ?_
    refine s_n ?_
    refine r_ret ?_
    refine s_ret ?_
    refine ⟨.inl rfl, [nP (x / y), nP (x % y)], rfl, ?_⟩
    exact resL_cons (res_tmp (by rw [Nat.div_eq_of_lt hlt]; exact conv_n0)) (resL_cons (res_tmp (conv_pe rfl (by rw [Nat.mod_eq_of_lt hlt]))) (resL_nil))
  · try simp only [decide_eq_true_eq, decide_eq_false_iff_not, Nat.not_lt, Nat.not_le, Bool.and_eq_true, Bool.or_eq_true, Bool.and_eq_false_iff, Bool.or_eq_false_iff, Bool.not_eq_true', Bool.not_eq_false', beq_iff_eq, beq_eq_false_iff_ne, ne_eq, Decidable.not_not] at hc
    have hge := cmp_ge_of hc
    refine r_skip ?_
    refine s_n ?_
    refine r_seq ?_
    refine r_reg ?_
    refine r_op rfl (o_mv (some 26) ⟨rfl, rfl⟩ rfl (by first | exact (rfl : _ = I _ _) | exact (rfl : _ = AV.p _) | exact (rfl : _ = AV.ptr _ _) | exact (rfl : _ = AV.own _ _ _ _ _) | exact (rfl : _ = AV.agg _) | exact (rfl : _ = AV.fn _ _))) ?_
    refine r_op rfl ((by first | exact o_lenN (some 27) ⟨rfl, rfl⟩ rfl rfl ty24 rfl | exact o_lenO (some 27) ⟨rfl, rfl⟩ rfl rfl rfl rfl ty24 | exact o_lenZ (some 27) ⟨rfl, rfl⟩ rfl rfl ty24 | exact o_lenP (some 27) ⟨rfl, rfl⟩ rfl rfl ty24 rfl)) ?_
    refine r_op rfl (o_as (some 6) ⟨rfl, rfl⟩ rfl (by exact (rfl : _ = I _ _))) ?_
    refine r_end ?_
    refine s_n ?_
    refine r_seq ?_
    refine r_seq ?_
    refine r_reg ?_
    refine r_op rfl (o_mv (some 28) ⟨rfl, rfl⟩ rfl (by exact (rfl : _ = I _ _))) ?_
    refine r_op rfl (o_eql (some 29) ⟨rfl, rfl⟩ rfl (by exact (rfl : _ = I _ 1)) rfl) ?_
    refine r_end ?_
    refine s_n ?_
    refine r_cond rfl (fun hc_1 => ?_) (fun hc_1 => ?_)
    · try simp only [decide_eq_true_eq, decide_eq_false_iff_not, Nat.not_lt, Nat.not_le, Bool.and_eq_true, Bool.or_eq_true, Bool.and_eq_false_iff, Bool.or_eq_false_iff, Bool.not_eq_true', Bool.not_eq_false', beq_iff_eq, beq_eq_false_iff_ne, ne_eq, Decidable.not_not] at hc_1
      have hy0 := nat_of_d9_1 hc_1
      have g0 := lim9 y 0
      have hm := Nat.mod_lt x (show (d9 y).getD 0 0 > 0 by omega)
      refine r_seq ?_
      refine r_reg ?_
      refine r_op rfl (o_mv (some 31) ⟨rfl, rfl⟩ rfl (by first | exact (rfl : _ = I _ _) | exact (rfl : _ = AV.p _) | exact (rfl : _ = AV.ptr _ _) | exact (rfl : _ = AV.own _ _ _ _ _) | exact (rfl : _ = AV.agg _) | exact (rfl : _ = AV.fn _ _))) ?_
      refine r_op rfl (o_mv (some 32) ⟨rfl, rfl⟩ rfl (by first | exact (rfl : _ = I _ _) | exact (rfl : _ = AV.p _) | exact (rfl : _ = AV.ptr _ _) | exact (rfl : _ = AV.own _ _ _ _ _) | exact (rfl : _ = AV.agg _) | exact (rfl : _ = AV.fn _ _))) ?_
      refine r_op rfl ((by first | exact o_ixN (some 33) ⟨rfl, rfl⟩ rfl rfl (by exact (rfl : _ = I _ 0)) ty24 ty138 (by first | (simp only [lim]; omega) | omega | (simp only [List.length_set]; omega) | (simp at hb; omega)) | exact o_ixM (some 33) ⟨rfl, rfl⟩ rfl rfl rfl rfl (by exact (rfl : _ = I _ 0)) ty24 ty138 (by first | (simp only [lim]; omega) | omega | (simp only [List.length_set]; omega) | (simp at hb; omega)))) ?_
      refine r_op rfl ((by first | exact o_ld1 (some 34) ⟨rfl, rfl⟩ rfl rfl rfl rfl ty138 rfl rfl | exact o_ldN (some 34) ⟨rfl, rfl⟩ rfl rfl rfl rfl ty138 rfl rfl (by first | (simp only [lim]; omega) | omega | (simp only [List.length_set]; omega) | (simp at hb; omega)) | exact o_ldc (some 34) ⟨rfl, rfl⟩ rfl rfl ty138 rfl)) ?_
      refine r_op rfl (o_call (some 35) ⟨rfl, rfl⟩ tx131 rfl rfl (w_short x ((d9 y).getD 0 0) (by have := nat_of_d9_1 hc_1; omega) (by have := lim9 y 0; omega) (by omega)) (convL_cons (by first | exact conv_p _ | exact conv_nilP _ | exact conv_nil _ | exact conv_sl rfl | exact conv_nums rfl rfl rfl rfl (by first | rfl | omega | (rw [List.drop_zero, List.take_of_length_le (by omega)])) (by first | rfl | omega | (rw [List.drop_zero, List.take_of_length_le (by omega)]))) (convL_cons (conv_p _) convL_nil))) ?_
      refine r_op rfl (o_mv (some 30) ⟨rfl, rfl⟩ rfl (by exact (rfl : _ = AV.p _))) ?_
      refine r_op rfl (o_ext (some 36) ⟨rfl, rfl⟩ rfl rfl rfl) ?_
      refine r_op rfl (o_ext (some 37) ⟨rfl, rfl⟩ rfl rfl rfl) ?_
      refine r_op rfl (o_as (some 7) ⟨rfl, rfl⟩ rfl (by exact (rfl : _ = AV.p _))) ?_
      refine r_op rfl (o_as (some 8) ⟨rfl, rfl⟩ rfl (by exact (rfl : _ = AV.p _))) ?_
      refine r_end ?_
      refine s_n ?_
      refine r_seq ?_
      refine r_reg ?_
      refine r_op rfl (o_mv (some 38) ⟨rfl, rfl⟩ rfl (by exact (rfl : _ = AV.p _))) ?_
      refine r_op rfl (o_mv (some 39) ⟨rfl, rfl⟩ rfl (by exact (rfl : _ = AV.p _))) ?_
      refine r_op rfl (o_conv (some 40) ⟨rfl, rfl⟩ rfl rfl ty138 ty137 (by first | (simp only [lim]; omega) | omega | (simp only [List.length_set]; omega) | (simp at hb; omega))) ?_
      refine r_op rfl (o_call (some 41) ⟨rfl, rfl⟩ tx122 rfl rfl (w_natOf (x % (d9 y).getD 0 0) (by have := Nat.mod_lt x (show (d9 y).getD 0 0 > 0 by have := nat_of_d9_1 hc_1; omega); have := lim9 y 0; omega)) (convL_cons (conv_p _) convL_nil)) ?_
      refine r_op rfl (o_as (some 4) ⟨rfl, rfl⟩ rfl (by exact (rfl : _ = AV.p _))) ?_
      refine r_op rfl (o_as (some 5) ⟨rfl, rfl⟩ rfl (by exact (rfl : _ = AV.p _))) ?_
      refine r_end ?_
      refine s_n ?_
      refine r_ret ?_
      refine s_ret ?_
      refine ⟨.inl rfl, [nP (x / y), nP (x % y)], rfl, ?_⟩
      exact resL_cons (res_tmp (conv_pe rfl (by rw [← hy0]))) (resL_cons (res_tmp (conv_pe rfl (by rw [← hy0]; rfl))) (resL_nil))
    · try simp only [decide_eq_true_eq, decide_eq_false_iff_not, Nat.not_lt, Nat.not_le, Bool.and_eq_true, Bool.or_eq_true, Bool.and_eq_false_iff, Bool.or_eq_false_iff, Bool.not_eq_true', Bool.not_eq_false', beq_iff_eq, beq_eq_false_iff_ne, ne_eq, Decidable.not_not] at hc_1
      refine r_skip ?_
      refine s_n ?_
      refine r_seq ?_
      refine r_reg ?_
      obtain ⟨n, hn⟩ : ∃ n, (d9 y).length = n + 2 := ⟨(d9 y).length - 2, by have := (d9_nil y).1; omega⟩
      have g0 := lim9 y ((d9 y).length - 1)
      refine r_op rfl (o_mv (some 42) ⟨rfl, rfl⟩ rfl (by first | exact (rfl : _ = I _ _) | exact (rfl : _ = AV.p _) | exact (rfl : _ = AV.ptr _ _) | exact (rfl : _ = AV.own _ _ _ _ _) | exact (rfl : _ = AV.agg _) | exact (rfl : _ = AV.fn _ _))) ?_
      refine r_op rfl (o_mv (some 43) ⟨rfl, rfl⟩ rfl (by exact (rfl : _ = I _ _))) ?_
      refine r_op rfl (o_sub (some 44) ⟨rfl, rfl⟩ rfl (by exact (rfl : _ = I _ 1)) rfl (by first | (simp only [lim]; omega) | omega | (simp only [List.length_set]; omega) | (simp at hb; omega)) (by first | (simp only [lim]; omega) | omega | (simp only [List.length_set]; omega) | (simp at hb; omega))) ?_
      refine r_op rfl ((by first | exact o_ixN (some 45) ⟨rfl, rfl⟩ rfl rfl rfl ty24 ty138 (by first | (simp only [lim]; omega) | omega | (simp only [List.length_set]; omega) | (simp at hb; omega)) | exact o_ixM (some 45) ⟨rfl, rfl⟩ rfl rfl rfl rfl rfl ty24 ty138 (by first | (simp only [lim]; omega) | omega | (simp only [List.length_set]; omega) | (simp at hb; omega)))) ?_
      refine r_op rfl ((by first | exact o_ld1 (some 46) ⟨rfl, rfl⟩ rfl rfl rfl rfl ty138 rfl rfl | exact o_ldN (some 46) ⟨rfl, rfl⟩ rfl rfl rfl rfl ty138 rfl rfl (by first | (simp only [lim]; omega) | omega | (simp only [List.length_set]; omega) | (simp at hb; omega)) | exact o_ldc (some 46) ⟨rfl, rfl⟩ rfl rfl ty138 rfl)) ?_
      refine r_op rfl (o_conv (some 47) ⟨rfl, rfl⟩ rfl rfl ty138 ty137 (by first | (simp only [lim]; omega) | omega | (simp only [List.length_set]; omega) | (simp at hb; omega))) ?_
      refine r_op rfl (o_add (some 48) ⟨rfl, rfl⟩ rfl (by exact (rfl : _ = I _ 1)) rfl (by first | (simp only [lim]; omega) | omega | (simp only [List.length_set]; omega) | (simp at hb; omega))) ?_
      refine r_op rfl (o_quo (some 49) ⟨rfl, rfl⟩ (by exact (rfl : _ = I _ 1000000000)) rfl rfl (by first | (simp only [lim]; omega) | omega | (simp only [List.length_set]; omega) | (simp at hb; omega)) (by first | (simp only [lim]; omega) | omega | (simp only [List.length_set]; omega) | (simp at hb; omega))) ?_
      refine r_op rfl (o_as (some 9) ⟨rfl, rfl⟩ rfl (by exact (rfl : _ = I _ _))) ?_
      refine r_end ?_
      refine s_n ?_
      refine r_seq ?_
      refine r_reg ?_
      obtain ⟨s, hs⟩ : ∃ s, s = 1000000000 / ((d9 y).getD ((d9 y).length - 1) 0 + 1) := ⟨_, rfl⟩
      rw [← hs]
      obtain ⟨f1, f2, f3, f4⟩ := scale_top (b := 1000000000) (by omega) (by omega) (y := y) (n := n + 1) hn (s := s) (by rw [hs, hn]; rfl)
      obtain ⟨f5, f6, f7⟩ := div_start (b := 1000000000) (by omega) f1 f2 (n := n + 1) hn hge f3
      change (d9 (x * s)).length ≤ (d9 x).length + 1 at f5
      change n + 1 + 1 ≤ (d9 x).length at f6
      change (d9 (y * s)).length = n + 1 + 1 at f3
      change 1000000000 ≤ 2 * (d9 (y * s)).getD (n + 1) 0 at f4
      change DivInv 1000000000 (x * s) (d9 (y * s)) ((d9 x).length - (n + 1)) ((d9 x).length - (n + 1)) (d9 (x * s) ++ List.replicate ((d9 x).length + 1 - (d9 (x * s)).length) 0) (List.replicate ((d9 x).length - (n + 1)) 0) at f7
      refine r_op rfl (o_mv (some 50) ⟨rfl, rfl⟩ rfl (by first | exact (rfl : _ = I _ _) | exact (rfl : _ = AV.p _) | exact (rfl : _ = AV.ptr _ _) | exact (rfl : _ = AV.own _ _ _ _ _) | exact (rfl : _ = AV.agg _) | exact (rfl : _ = AV.fn _ _))) ?_
      refine r_op rfl (o_mv (some 51) ⟨rfl, rfl⟩ rfl (by exact (rfl : _ = I _ _))) ?_
      refine r_op rfl (o_call (some 52) ⟨rfl, rfl⟩ tx122 rfl rfl (w_natOf s (by omega)) (convL_cons (conv_p _) convL_nil)) ?_
      refine r_op rfl (o_call (some 53) ⟨rfl, rfl⟩ tx93 rfl rfl (w_mul x s (by omega) (by have := d9_u64 (n := s) (by omega); omega)) (convL_cons (by first | exact conv_p _ | exact conv_nilP _ | exact conv_nil _ | exact conv_sl rfl | exact conv_nums rfl rfl rfl rfl (by first | rfl | omega | (rw [List.drop_zero, List.take_of_length_le (by omega)])) (by first | rfl | omega | (rw [List.drop_zero, List.take_of_length_le (by omega)]))) (convL_cons (by first | exact conv_p _ | exact conv_nilP _ | exact conv_nil _ | exact conv_sl rfl | exact conv_nums rfl rfl rfl rfl (by first | rfl | omega | (rw [List.drop_zero, List.take_of_length_le (by omega)])) (by first | rfl | omega | (rw [List.drop_zero, List.take_of_length_le (by omega)]))) convL_nil))) ?_
      refine r_op rfl (o_mv (some 54) ⟨rfl, rfl⟩ rfl (by first | exact (rfl : _ = I _ _) | exact (rfl : _ = AV.p _) | exact (rfl : _ = AV.ptr _ _) | exact (rfl : _ = AV.own _ _ _ _ _) | exact (rfl : _ = AV.agg _) | exact (rfl : _ = AV.fn _ _))) ?_
      refine r_op rfl (o_mv (some 55) ⟨rfl, rfl⟩ rfl (by exact (rfl : _ = I _ _))) ?_
      refine r_op rfl (o_call (some 56) ⟨rfl, rfl⟩ tx122 rfl rfl (w_natOf s (by omega)) (convL_cons (conv_p _) convL_nil)) ?_
      refine r_op rfl (o_call (some 57) ⟨rfl, rfl⟩ tx93 rfl rfl (w_mul y s (by omega) (by have := d9_u64 (n := s) (by omega); omega)) (convL_cons (by first | exact conv_p _ | exact conv_nilP _ | exact conv_nil _ | exact conv_sl rfl | exact conv_nums rfl rfl rfl rfl (by first | rfl | omega | (rw [List.drop_zero, List.take_of_length_le (by omega)])) (by first | rfl | omega | (rw [List.drop_zero, List.take_of_length_le (by omega)]))) (convL_cons (by first | exact conv_p _ | exact conv_nilP _ | exact conv_nil _ | exact conv_sl rfl | exact conv_nums rfl rfl rfl rfl (by first | rfl | omega | (rw [List.drop_zero, List.take_of_length_le (by omega)])) (by first | rfl | omega | (rw [List.drop_zero, List.take_of_length_le (by omega)]))) convL_nil))) ?_
      refine r_op rfl (o_as (some 10) ⟨rfl, rfl⟩ rfl (by exact (rfl : _ = AV.p _))) ?_
      refine r_op rfl (o_as (some 11) ⟨rfl, rfl⟩ rfl (by exact (rfl : _ = AV.p _))) ?_
      refine r_end ?_
      refine s_n ?_
      refine r_seq ?_
      refine r_reg ?_
      refine r_op rfl (o_mv (some 58) ⟨rfl, rfl⟩ rfl (by exact (rfl : _ = AV.p _))) ?_
      refine r_op rfl (o_callF (some 59) ⟨rfl, rfl⟩ tx132 rfl rfl 59 rfl rfl (w_clone (d9 (x * s)) (by omega)) (convL_cons (by first | exact conv_p _ | exact conv_nilP _ | exact conv_nil _ | exact conv_sl rfl | exact conv_nums rfl rfl rfl rfl (by first | rfl | omega | (rw [List.drop_zero, List.take_of_length_le (by omega)])) (by first | rfl | omega | (rw [List.drop_zero, List.take_of_length_le (by omega)]))) convL_nil) (pvs_p _ _)) ?_
      refine r_op rfl (o_mv (some 60) ⟨rfl, rfl⟩ rfl (by first | exact (rfl : _ = I _ _) | exact (rfl : _ = AV.p _) | exact (rfl : _ = AV.ptr _ _) | exact (rfl : _ = AV.own _ _ _ _ _) | exact (rfl : _ = AV.agg _) | exact (rfl : _ = AV.fn _ _))) ?_
      refine r_op rfl ((by first | exact o_lenN (some 61) ⟨rfl, rfl⟩ rfl rfl ty24 rfl | exact o_lenO (some 61) ⟨rfl, rfl⟩ rfl rfl rfl rfl ty24 | exact o_lenZ (some 61) ⟨rfl, rfl⟩ rfl rfl ty24 | exact o_lenP (some 61) ⟨rfl, rfl⟩ rfl rfl ty24 rfl)) ?_
      refine r_op rfl (o_add (some 62) ⟨rfl, rfl⟩ rfl (by exact (rfl : _ = I _ 1)) rfl (by first | (simp only [lim]; omega) | omega | (simp only [List.length_set]; omega) | (simp at hb; omega))) ?_
      refine r_op rfl (o_mv (some 63) ⟨rfl, rfl⟩ rfl (by exact (rfl : _ = AV.p _))) ?_
      refine r_op rfl ((by first | exact o_lenN (some 64) ⟨rfl, rfl⟩ rfl rfl ty24 rfl | exact o_lenO (some 64) ⟨rfl, rfl⟩ rfl rfl rfl rfl ty24 | exact o_lenZ (some 64) ⟨rfl, rfl⟩ rfl rfl ty24 | exact o_lenP (some 64) ⟨rfl, rfl⟩ rfl rfl ty24 rfl)) ?_
      refine r_op rfl (o_sub (some 65) ⟨rfl, rfl⟩ rfl rfl rfl (by first | (simp only [lim]; omega) | omega | (simp only [List.length_set]; omega) | (simp at hb; omega)) (by first | (simp only [lim]; omega) | omega | (simp only [List.length_set]; omega) | (simp at hb; omega))) ?_
      refine r_op rfl (o_apZ (some 66) ⟨rfl, rfl⟩ rfl 66 rfl rfl ty24 ty138 rfl ty3 rfl rfl rfl rfl rfl rfl rfl rfl (by omega) (by omega)) ?_
      refine r_op rfl (o_as (some 10) ⟨rfl, rfl⟩ rfl (by exact (rfl : _ = AV.own _ _ _ _ _))) ?_
      refine r_end ?_
      refine s_n ?_
      refine r_seq ?_
      refine r_reg ?_
      refine r_op rfl (o_mv (some 67) ⟨rfl, rfl⟩ rfl (by exact (rfl : _ = AV.own _ _ _ _ _))) ?_
      refine r_op rfl (o_lenO (some 68) ⟨rfl, rfl⟩ rfl rfl rfl rfl ty24) ?_
      refine r_op rfl (o_mv (some 69) ⟨rfl, rfl⟩ rfl (by exact (rfl : _ = I _ _))) ?_
      refine r_op rfl (o_sub (some 70) ⟨rfl, rfl⟩ rfl rfl rfl (by first | (simp only [lim]; omega) | omega | (simp only [List.length_set]; omega) | (simp at hb; omega)) (by first | (simp only [lim]; omega) | omega | (simp only [List.length_set]; omega) | (simp at hb; omega))) ?_
      refine r_op rfl (o_mkN (some 71) ⟨rfl, rfl⟩ rfl rfl rfl 71 rfl rfl ty24 ty138 (by first | (simp only [lim]; omega) | omega | (simp only [List.length_set]; omega) | (simp at hb; omega)) rfl) ?_
      refine r_op rfl (o_as (some 12) ⟨rfl, rfl⟩ rfl (by exact (rfl : _ = AV.own _ _ _ _ _))) ?_
      refine r_end ?_
      refine s_n ?_
      refine r_seq ?_
      have g1 := lim9 (y * s) ((d9 y).length - 1)
      have g2 := lim9 (y * s) ((d9 y).length - 2)
      refine r_drawn mixed ?_
      refine d_op [11] [] rfl rfl (fun s hs => o_mv (some 72) ⟨rfl, rfl⟩ rfl (by exact ((hs.1 11 rfl).trans (rfl) : _ = AV.p _))) ?_
      refine d_op [6] [] rfl rfl (fun s hs => o_mv (some 73) ⟨rfl, rfl⟩ rfl (by exact ((hs.1 6 rfl).trans (rfl) : _ = I _ _))) ?_
      refine d_op [73] [] rfl rfl (fun s hs => o_sub (some 74) ⟨rfl, rfl⟩ (by exact (hs.1 73 rfl).trans (rfl)) (by exact (rfl : _ = I _ 1)) rfl (by first | (simp only [lim]; omega) | omega | (simp only [List.length_set]; omega) | (simp at hb; omega)) (by first | (simp only [lim]; omega) | omega | (simp only [List.length_set]; omega) | (simp at hb; omega))) ?_
      refine d_op [72, 74] [59, 66, 71] rfl rfl (fun s hs => o_ixN (some 75) ⟨rfl, rfl⟩ rfl (by exact (hs.1 72 rfl).trans (rfl)) (by exact (hs.1 74 rfl).trans (rfl)) ty24 ty138 (by first | (simp only [lim]; omega) | omega | (simp only [List.length_set]; omega) | (simp at hb; omega))) ?_
      refine d_op [75] [59, 66, 71] rfl rfl (fun s hs => o_ldc (some 76) ⟨rfl, rfl⟩ rfl (by exact (hs.1 75 rfl).trans (rfl)) ty138 rfl) ?_
      refine d_op [76] [] rfl rfl (fun s hs => o_conv (some 77) ⟨rfl, rfl⟩ rfl (by exact (hs.1 76 rfl).trans (rfl)) ty138 ty137 (by first | (simp only [lim]; omega) | omega | (simp only [List.length_set]; omega) | (simp at hb; omega))) ?_
      refine d_op [11] [] rfl rfl (fun s hs => o_mv (some 78) ⟨rfl, rfl⟩ rfl (by exact ((hs.1 11 rfl).trans (rfl) : _ = AV.p _))) ?_
      refine d_op [6] [] rfl rfl (fun s hs => o_mv (some 79) ⟨rfl, rfl⟩ rfl (by exact ((hs.1 6 rfl).trans (rfl) : _ = I _ _))) ?_
      refine d_op [79] [] rfl rfl (fun s hs => o_sub (some 80) ⟨rfl, rfl⟩ (by exact (hs.1 79 rfl).trans (rfl)) (by exact (rfl : _ = I _ 2)) rfl (by first | (simp only [lim]; omega) | omega | (simp only [List.length_set]; omega) | (simp at hb; omega)) (by first | (simp only [lim]; omega) | omega | (simp only [List.length_set]; omega) | (simp at hb; omega))) ?_
      refine d_op [78, 80] [59, 66, 71] rfl rfl (fun s hs => o_ixN (some 81) ⟨rfl, rfl⟩ rfl (by exact (hs.1 78 rfl).trans (rfl)) (by exact (hs.1 80 rfl).trans (rfl)) ty24 ty138 (by first | (simp only [lim]; omega) | omega | (simp only [List.length_set]; omega) | (simp at hb; omega))) ?_
      refine d_op [81] [59, 66, 71] rfl rfl (fun s hs => o_ldc (some 82) ⟨rfl, rfl⟩ rfl (by exact (hs.1 81 rfl).trans (rfl)) ty138 rfl) ?_
      refine d_op [82] [] rfl rfl (fun s hs => o_conv (some 83) ⟨rfl, rfl⟩ rfl (by exact (hs.1 82 rfl).trans (rfl)) ty138 ty137 (by first | (simp only [lim]; omega) | omega | (simp only [List.length_set]; omega) | (simp at hb; omega))) ?_
      refine d_op [77] [] rfl rfl (fun s hs => o_as (some 13) ⟨rfl, rfl⟩ rfl (by exact ((hs.1 77 rfl).trans (rfl) : _ = I _ _))) ?_
      refine d_op [83] [] rfl rfl (fun s hs => o_as (some 14) ⟨rfl, rfl⟩ rfl (by exact ((hs.1 83 rfl).trans (rfl) : _ = I _ _))) ?_
      refine d_end ⟨rfl, ?_⟩
      refine s_n ?_
      refine r_seq ?_
      refine r_seq ?_
      refine r_reg ?_
      refine r_op rfl (o_mv (some 84) ⟨rfl, rfl⟩ rfl (by exact (rfl : _ = AV.own _ _ _ _ _))) ?_
      refine r_op rfl (o_lenO (some 85) ⟨rfl, rfl⟩ rfl rfl rfl rfl ty24) ?_
      refine r_op rfl (o_sub (some 86) ⟨rfl, rfl⟩ rfl (by exact (rfl : _ = I _ 1)) rfl (by first | (simp only [lim]; omega) | omega | (simp only [List.length_set]; omega) | (simp at hb; omega)) (by first | (simp only [lim]; omega) | omega | (simp only [List.length_set]; omega) | (simp at hb; omega))) ?_
      refine r_op rfl (o_as (some 15) ⟨rfl, rfl⟩ rfl (by exact (rfl : _ = I _ _))) ?_
      refine r_end ?_
      refine s_n ?_
      refine r_block ?_
      refine r_loop (ι := { p : Nat × List Nat × List Nat // DivInv 1000000000 (x * s) (d9 (y * s)) ((d9 x).length - (n + 1)) p.1 p.2.1 p.2.2 ∧ p.1 ≤ (d9 x).length - (n + 1) }) (fun p => stL [(6, I .i64 (n + 2)), (9, I .u64 (s)), (10, .own true 1 66 0 ((d9 x).length + 1)), (11, .p (nP (y * s))), (12, .own true 1 71 0 ((d9 x).length - (n + 1))), (13, I .u64 ((d9 (y * s)).getD (n + 1) 0)), (14, I .u64 ((d9 (y * s)).getD n 0)), (15, Z .i64 ((((p.1.1) : Nat) : Int) - 1))] [(66, { cells := nums .u32 ((p.1.2.1)), ty := 138 }), (71, { cells := nums .u32 ((p.1.2.2)), ty := 138 })]) (fun p => p.1.1) (⟨((d9 x).length - (n + 1), _, _), f7, Nat.le_refl _⟩) ?_ (fun i_ => ?_)
      · exact gh_st id (tlc (td_I rfl hn) (tlc (td_I rfl rfl) (tlc (td_own rfl (by omega) rfl) (tlc (td_p rfl rfl) (tlc (td_own rfl (by omega) rfl) (tlc (td_I rfl (by rw [hn]; rfl)) (tlc (td_I rfl (by rw [hn]; rfl)) (tlc (td_Z rfl (by show _ = ((((d9 x).length - (n + 1) : Nat)) : Int) - 1; omega)) tl0)))))))) (hpc (hp_nums rfl rfl rfl rfl rfl rfl) (hpc (hp_nums rfl rfl rfl rfl rfl (congrArg (fun k => List.replicate k 0) (by omega))) hp0)) rfl
      · obtain ⟨⟨j, u, q⟩, h1, h2⟩ := i_
        simp only at h1 h2
        change Tr _ _ _ (stL [(6, I .i64 (n + 2)), (9, I .u64 (s)), (10, .own true 1 66 0 ((d9 x).length + 1)), (11, .p (nP (y * s))), (12, .own true 1 71 0 ((d9 x).length - (n + 1))), (13, I .u64 ((d9 (y * s)).getD (n + 1) 0)), (14, I .u64 ((d9 (y * s)).getD n 0)), (15, Z .i64 ((((j) : Nat) : Int) - 1))] [(66, { cells := nums .u32 ((u)), ty := 138 }), (71, { cells := nums .u32 ((q)), ty := 138 })]) _
        refine r_seq ?_
        refine r_seq ?_
        refine r_reg ?_
        refine r_op rfl (o_mv (some 87) ⟨rfl, rfl⟩ rfl (by exact (rfl : _ = Z _ _))) ?_
        refine r_op rfl (o_zgeq (some 88) ⟨rfl, rfl⟩ (by exact (rfl : _ = Z _ _)) (by exact (rfl : _ = Z _ (0))) rfl) ?_
        refine r_end ?_
        refine s_n ?_
        refine r_cond rfl (fun hc_2 => ?_) (fun hc_2 => ?_)
        · try simp only [decide_eq_true_eq, decide_eq_false_iff_not, Nat.not_lt, Nat.not_le, Bool.and_eq_true, Bool.or_eq_true, Bool.and_eq_false_iff, Bool.or_eq_false_iff, Bool.not_eq_true', Bool.not_eq_false', beq_iff_eq, beq_eq_false_iff_ne, ne_eq, Decidable.not_not] at hc_2
          obtain ⟨i, rfl⟩ : ∃ i, j = i + 1 := ⟨j - 1, by omega⟩
          have hI := h1
          obtain ⟨pp⟩ := hI.parts (by omega) (lim_d9 _) (by omega) (n := n) f3 f4
          have hlu := hI.lenu
          rw [f3] at hlu
          have hlq := hI.lenq
          have w3 := (hI.window (by omega) (lim_d9 _) (by omega)).2.2.1
          have k1 := hI.limu.getD (by omega) (i + (n + 2))
          have k2 := hI.limu.getD (by omega) (i + (n + 2) - 1)
          have k3 := hI.limu.getD (by omega) (i + (n + 2) - 2)
          have k4 := lim9 (y * s) (n + 1)
          have k5 := lim9 (y * s) n
          refine r_skip ?_
          refine s_n ?_
          refine r_seq ?_
          refine r_block ?_
          refine r_seq ?_
          refine r_ghc (σ' := stL [(6, I .i64 (n + 2)), (9, I .u64 (s)), (10, .own true 1 66 0 ((d9 x).length + 1)), (11, .p (nP (y * s))), (12, .own true 1 71 0 ((d9 x).length - (n + 1))), (13, I .u64 ((d9 (y * s)).getD (n + 1) 0)), (14, I .u64 ((d9 (y * s)).getD n 0)), (15, I .i64 ((i)))] [(66, { cells := nums .u32 ((u)), ty := 138 }), (71, { cells := nums .u32 ((q)), ty := 138 })]) ?_ (gh_st id (tlc (td_I rfl rfl) (tlc (td_I rfl rfl) (tlc (td_own rfl rfl rfl) (tlc (td_p rfl rfl) (tlc (td_own rfl rfl rfl) (tlc (td_I rfl rfl) (tlc (td_I rfl rfl) (tlc (td_Z rfl (by omega)) tl0)))))))) (hpc (hp_nums rfl rfl rfl rfl rfl rfl) (hpc (hp_nums rfl rfl rfl rfl rfl rfl) hp0)) rfl)
          refine r_drawn mixed ?_
          refine d_op [10] [] rfl rfl (fun s hs => o_mv (some 91) ⟨rfl, rfl⟩ rfl (by exact ((hs.1 10 rfl).trans (rfl) : _ = AV.own _ _ _ _ _))) ?_
          refine d_op [15] [] rfl rfl (fun s hs => o_mv (some 92) ⟨rfl, rfl⟩ rfl (by exact ((hs.1 15 rfl).trans (rfl) : _ = I _ _))) ?_
          refine d_op [6] [] rfl rfl (fun s hs => o_mv (some 93) ⟨rfl, rfl⟩ rfl (by exact ((hs.1 6 rfl).trans (rfl) : _ = I _ _))) ?_
          refine d_op [92, 93] [] rfl rfl (fun s hs => o_add (some 94) ⟨rfl, rfl⟩ (by exact (hs.1 92 rfl).trans (rfl)) (by exact (hs.1 93 rfl).trans (rfl)) rfl (by first | (simp only [lim]; omega) | omega | (simp only [List.length_set]; omega) | (simp at hb; omega))) ?_
          refine d_op [91, 94] [59, 66, 71] rfl rfl (fun s hs => o_ixM (some 95) ⟨rfl, rfl⟩ rfl (by exact (hs.1 91 rfl).trans (rfl)) (by exact (hs.2.1 _ rfl).trans rfl) rfl (by exact (hs.1 94 rfl).trans (rfl)) ty24 ty138 (by first | (simp only [lim]; omega) | omega | (simp only [List.length_set]; omega) | (simp at hb; omega))) ?_
          refine d_op [95] [59, 66, 71] rfl rfl (fun s hs => (by first | exact o_ld1 (some 96) ⟨rfl, rfl⟩ rfl (by exact (hs.1 95 rfl).trans (rfl)) (by exact (hs.2.1 _ rfl).trans rfl) rfl ty138 rfl rfl | exact o_ldN (some 96) ⟨rfl, rfl⟩ rfl (by exact (hs.1 95 rfl).trans (rfl)) (by exact (hs.2.1 _ rfl).trans rfl) rfl ty138 rfl rfl (by first | (simp only [lim]; omega) | omega | (simp only [List.length_set]; omega) | (simp at hb; omega)))) ?_
          refine d_op [96] [] rfl rfl (fun s hs => o_conv (some 97) ⟨rfl, rfl⟩ rfl (by exact (hs.1 96 rfl).trans (rfl)) ty138 ty137 (by first | (simp only [lim]; omega) | omega | (simp only [List.length_set]; omega) | (simp at hb; omega))) ?_
          refine d_op [97] [] rfl rfl (fun s hs => o_mul (some 98) ⟨rfl, rfl⟩ (by exact (hs.1 97 rfl).trans (rfl)) (by exact (rfl : _ = I _ 1000000000)) rfl (by first | (simp only [lim]; omega) | omega | (simp only [List.length_set]; omega) | (simp at hb; omega))) ?_
          refine d_op [10] [] rfl rfl (fun s hs => o_mv (some 99) ⟨rfl, rfl⟩ rfl (by exact ((hs.1 10 rfl).trans (rfl) : _ = AV.own _ _ _ _ _))) ?_
          refine d_op [15] [] rfl rfl (fun s hs => o_mv (some 100) ⟨rfl, rfl⟩ rfl (by exact ((hs.1 15 rfl).trans (rfl) : _ = I _ _))) ?_
          refine d_op [6] [] rfl rfl (fun s hs => o_mv (some 101) ⟨rfl, rfl⟩ rfl (by exact ((hs.1 6 rfl).trans (rfl) : _ = I _ _))) ?_
          refine d_op [100, 101] [] rfl rfl (fun s hs => o_add (some 102) ⟨rfl, rfl⟩ (by exact (hs.1 100 rfl).trans (rfl)) (by exact (hs.1 101 rfl).trans (rfl)) rfl (by first | (simp only [lim]; omega) | omega | (simp only [List.length_set]; omega) | (simp at hb; omega))) ?_
          refine d_op [102] [] rfl rfl (fun s hs => o_sub (some 103) ⟨rfl, rfl⟩ (by exact (hs.1 102 rfl).trans (rfl)) (by exact (rfl : _ = I _ 1)) rfl (by first | (simp only [lim]; omega) | omega | (simp only [List.length_set]; omega) | (simp at hb; omega)) (by first | (simp only [lim]; omega) | omega | (simp only [List.length_set]; omega) | (simp at hb; omega))) ?_
          refine d_op [99, 103] [59, 66, 71] rfl rfl (fun s hs => o_ixM (some 104) ⟨rfl, rfl⟩ rfl (by exact (hs.1 99 rfl).trans (rfl)) (by exact (hs.2.1 _ rfl).trans rfl) rfl (by exact (hs.1 103 rfl).trans (rfl)) ty24 ty138 (by first | (simp only [lim]; omega) | omega | (simp only [List.length_set]; omega) | (simp at hb; omega))) ?_
          refine d_op [104] [59, 66, 71] rfl rfl (fun s hs => (by first | exact o_ld1 (some 105) ⟨rfl, rfl⟩ rfl (by exact (hs.1 104 rfl).trans (rfl)) (by exact (hs.2.1 _ rfl).trans rfl) rfl ty138 rfl rfl | exact o_ldN (some 105) ⟨rfl, rfl⟩ rfl (by exact (hs.1 104 rfl).trans (rfl)) (by exact (hs.2.1 _ rfl).trans rfl) rfl ty138 rfl rfl (by first | (simp only [lim]; omega) | omega | (simp only [List.length_set]; omega) | (simp at hb; omega)))) ?_
          refine d_op [105] [] rfl rfl (fun s hs => o_conv (some 106) ⟨rfl, rfl⟩ rfl (by exact (hs.1 105 rfl).trans (rfl)) ty138 ty137 (by first | (simp only [lim]; omega) | omega | (simp only [List.length_set]; omega) | (simp at hb; omega))) ?_
          refine d_op [98, 106] [] rfl rfl (fun s hs => o_add (some 107) ⟨rfl, rfl⟩ (by exact (hs.1 98 rfl).trans (rfl)) (by exact (hs.1 106 rfl).trans (rfl)) rfl (by first | (simp only [lim]; omega) | omega | (simp only [List.length_set]; omega) | (simp at hb; omega))) ?_
          refine d_op [107] [] rfl rfl (fun s hs => o_as (some 16) ⟨rfl, rfl⟩ rfl (by exact ((hs.1 107 rfl).trans (rfl) : _ = I _ _))) ?_
          refine d_end ⟨rfl, ?_⟩
          refine s_n ?_
          refine r_seq ?_
          refine r_drawn mixed ?_
          refine d_op [16] [] rfl rfl (fun s hs => o_mv (some 108) ⟨rfl, rfl⟩ rfl (by exact ((hs.1 16 rfl).trans (rfl) : _ = I _ _))) ?_
          refine d_op [13] [] rfl rfl (fun s hs => o_mv (some 109) ⟨rfl, rfl⟩ rfl (by exact ((hs.1 13 rfl).trans (rfl) : _ = I _ _))) ?_
          refine d_op [108, 109] [] rfl rfl (fun s hs => o_quo (some 110) ⟨rfl, rfl⟩ (by exact (hs.1 108 rfl).trans (rfl)) (by exact (hs.1 109 rfl).trans (rfl)) rfl (by first | (simp only [lim]; omega) | omega | (simp only [List.length_set]; omega) | (simp at hb; omega)) (by first | (simp only [lim]; omega) | omega | (simp only [List.length_set]; omega) | (simp at hb; omega))) ?_
          refine d_op [16] [] rfl rfl (fun s hs => o_mv (some 111) ⟨rfl, rfl⟩ rfl (by exact ((hs.1 16 rfl).trans (rfl) : _ = I _ _))) ?_
          refine d_op [13] [] rfl rfl (fun s hs => o_mv (some 112) ⟨rfl, rfl⟩ rfl (by exact ((hs.1 13 rfl).trans (rfl) : _ = I _ _))) ?_
          refine d_op [111, 112] [] rfl rfl (fun s hs => o_rem (some 113) ⟨rfl, rfl⟩ (by exact (hs.1 111 rfl).trans (rfl)) (by exact (hs.1 112 rfl).trans (rfl)) rfl (by first | (simp only [lim]; omega) | omega | (simp only [List.length_set]; omega) | (simp at hb; omega))) ?_
          refine d_op [110] [] rfl rfl (fun s hs => o_as (some 17) ⟨rfl, rfl⟩ rfl (by exact ((hs.1 110 rfl).trans (rfl) : _ = I _ _))) ?_
          refine d_op [113] [] rfl rfl (fun s hs => o_as (some 18) ⟨rfl, rfl⟩ rfl (by exact ((hs.1 113 rfl).trans (rfl) : _ = I _ _))) ?_
          refine d_end ⟨rfl, ?_⟩
          refine s_n ?_
          refine r_seq ?_
          refine r_block ?_
          refine r_loop (ι := { p : Nat × Nat // Guess 1000000000 (val 1000000000 (u.drop i)) (val 1000000000 (d9 (y * s))) ((d9 (y * s)).getD (n + 1) 0) ((d9 (y * s)).getD n 0) (u.getD (i + (n + 2)) 0 * 1000000000 + u.getD (i + (n + 1)) 0) (u.getD (i + n) 0) p.1 p.2 }) (fun p => stL [(6, I .i64 (n + 2)), (9, I .u64 (s)), (10, .own true 1 66 0 ((d9 x).length + 1)), (11, .p (nP (y * s))), (12, .own true 1 71 0 ((d9 x).length - (n + 1))), (13, I .u64 ((d9 (y * s)).getD (n + 1) 0)), (14, I .u64 ((d9 (y * s)).getD n 0)), (15, I .i64 ((i))), (17, I .u64 ((p.1.1))), (18, I .u64 ((p.1.2)))] [(66, { cells := nums .u32 ((u)), ty := 138 }), (71, { cells := nums .u32 ((q)), ty := 138 })]) (fun p => p.1.1) (⟨(_, _), Guess.start (by omega) pp⟩) ?_ (fun i_ => ?_)
          · exact gh_st id (tlc (td_I rfl rfl) (tlc (td_I rfl rfl) (tlc (td_own rfl rfl rfl) (tlc (td_p rfl rfl) (tlc (td_own rfl rfl rfl) (tlc (td_I rfl rfl) (tlc (td_I rfl rfl) (tlc (td_I rfl rfl) (tlc (td_I rfl (by rw [show i + (n + 2) - 1 = i + (n + 1) by omega])) (tlc (td_I rfl (by rw [show i + (n + 2) - 1 = i + (n + 1) by omega])) tl0)))))))))) (hpc (hp_nums rfl rfl rfl rfl rfl rfl) (hpc (hp_nums rfl rfl rfl rfl rfl rfl) hp0)) rfl
          · obtain ⟨⟨g, r⟩, h3⟩ := i_
            simp only at h3
            have hg2 := h3.le
            have hg3 := h3.rb
            change Tr _ _ _ (stL [(6, I .i64 (n + 2)), (9, I .u64 (s)), (10, .own true 1 66 0 ((d9 x).length + 1)), (11, .p (nP (y * s))), (12, .own true 1 71 0 ((d9 x).length - (n + 1))), (13, I .u64 ((d9 (y * s)).getD (n + 1) 0)), (14, I .u64 ((d9 (y * s)).getD n 0)), (15, I .i64 ((i))), (17, I .u64 ((g))), (18, I .u64 ((r)))] [(66, { cells := nums .u32 ((u)), ty := 138 }), (71, { cells := nums .u32 ((q)), ty := 138 })]) _
            refine r_seq ?_
            refine r_seq ?_
            refine r_reg ?_
            refine r_op rfl (o_mv (some 114) ⟨rfl, rfl⟩ rfl (by exact (rfl : _ = I _ _))) ?_
            refine r_op rfl (o_geq (some 115) ⟨rfl, rfl⟩ rfl (by exact (rfl : _ = I _ 1000000000)) rfl) ?_
            refine r_op rfl (o_mv (some 116) ⟨rfl, rfl⟩ rfl (by exact (rfl : _ = Bo _))) ?_
            refine r_gd (d := some 117) rfl rfl rfl rfl ⟨rfl, rfl⟩ (fun hb => o_mv (some 117) ⟨rfl, rfl⟩ rfl (by exact (rfl : _ = I _ _))) ?_
            refine r_gd (d := some 118) rfl rfl rfl rfl ⟨rfl, rfl⟩ (fun hb => o_mv (some 118) ⟨rfl, rfl⟩ rfl (by exact (rfl : _ = I _ _))) ?_
            refine r_gd (d := some 119) rfl rfl rfl rfl ⟨rfl, rfl⟩ (fun hb => o_mul (some 119) ⟨rfl, rfl⟩ (by exact gd hb) (by exact gd hb) rfl (by (simp at hb; exact mul64 (by omega) (by omega)))) ?_
            refine r_gd (d := some 120) rfl rfl rfl rfl ⟨rfl, rfl⟩ (fun hb => o_mv (some 120) ⟨rfl, rfl⟩ rfl (by exact (rfl : _ = I _ _))) ?_
            refine r_gd (d := some 121) rfl rfl rfl rfl ⟨rfl, rfl⟩ (fun hb => o_mul (some 121) ⟨rfl, rfl⟩ (by exact gd hb) (by exact (rfl : _ = I _ 1000000000)) rfl (by first | (simp only [lim]; omega) | omega | (simp only [List.length_set]; omega) | (simp at hb; omega))) ?_
            refine r_gd (d := some 122) rfl rfl rfl rfl ⟨rfl, rfl⟩ (fun hb => o_mv (some 122) ⟨rfl, rfl⟩ rfl (by exact (rfl : _ = AV.own _ _ _ _ _))) ?_
            refine r_gd (d := some 123) rfl rfl rfl rfl ⟨rfl, rfl⟩ (fun hb => o_mv (some 123) ⟨rfl, rfl⟩ rfl (by exact (rfl : _ = I _ _))) ?_
            refine r_gd (d := some 124) rfl rfl rfl rfl ⟨rfl, rfl⟩ (fun hb => o_mv (some 124) ⟨rfl, rfl⟩ rfl (by exact (rfl : _ = I _ _))) ?_
            refine r_gd (d := some 125) rfl rfl rfl rfl ⟨rfl, rfl⟩ (fun hb => o_add (some 125) ⟨rfl, rfl⟩ (by exact gd hb) (by exact gd hb) rfl (by first | (simp only [lim]; omega) | omega | (simp only [List.length_set]; omega) | (simp at hb; omega))) ?_
            refine r_gd (d := some 126) rfl rfl rfl rfl ⟨rfl, rfl⟩ (fun hb => o_sub (some 126) ⟨rfl, rfl⟩ (by exact gd hb) (by exact (rfl : _ = I _ 2)) rfl (by first | (simp only [lim]; omega) | omega | (simp only [List.length_set]; omega) | (simp at hb; omega)) (by first | (simp only [lim]; omega) | omega | (simp only [List.length_set]; omega) | (simp at hb; omega))) ?_
            refine r_gd (d := some 127) rfl rfl rfl rfl ⟨rfl, rfl⟩ (fun hb => o_ixM (some 127) ⟨rfl, rfl⟩ rfl (by exact gd hb) rfl rfl (by exact gd hb) ty24 ty138 (by first | (simp only [lim]; omega) | omega | (simp only [List.length_set]; omega) | (simp at hb; omega))) ?_
            refine r_gd (d := some 128) rfl rfl rfl rfl ⟨rfl, rfl⟩ (fun hb => (by first | exact o_ld1 (some 128) ⟨rfl, rfl⟩ rfl (by exact gd hb) rfl rfl ty138 rfl rfl | exact o_ldN (some 128) ⟨rfl, rfl⟩ rfl (by exact gd hb) rfl rfl ty138 rfl rfl (by first | (simp only [lim]; omega) | omega | (simp only [List.length_set]; omega) | (simp at hb; omega)))) ?_
            refine r_gd (d := some 129) rfl rfl rfl rfl ⟨rfl, rfl⟩ (fun hb => o_conv (some 129) ⟨rfl, rfl⟩ rfl (by exact gd hb) ty138 ty137 (by first | (simp only [lim]; omega) | omega | (simp only [List.length_set]; omega) | (simp at hb; omega))) ?_
            refine r_gd (d := some 130) rfl rfl rfl rfl ⟨rfl, rfl⟩ (fun hb => o_add (some 130) ⟨rfl, rfl⟩ (by exact gd hb) (by exact gd hb) rfl (by first | (simp only [lim]; omega) | omega | (simp only [List.length_set]; omega) | (simp at hb; omega))) ?_
            refine r_gd (d := some 131) rfl rfl rfl rfl ⟨rfl, rfl⟩ (fun hb => o_gtr (some 131) ⟨rfl, rfl⟩ (by exact gd hb) (by exact gd hb) rfl) ?_
            refine r_op rfl (o_or (some 132) ⟨rfl, rfl⟩ rfl rfl rfl rfl) ?_
            refine r_end ?_
            refine s_n ?_
            refine r_cond rfl (fun hc_3 => ?_) (fun hc_3 => ?_)
            · try simp only [decide_eq_true_eq, decide_eq_false_iff_not, Nat.not_lt, Nat.not_le, Bool.and_eq_true, Bool.or_eq_true, Bool.and_eq_false_iff, Bool.or_eq_false_iff, Bool.not_eq_true', Bool.not_eq_false', beq_iff_eq, beq_eq_false_iff_ne, ne_eq, Decidable.not_not] at hc_3
              rw [show i + (n + 2) - 2 = i + n by omega] at hc_3
              have hg1 := (h3.step (by omega) pp hc_3 w3).1
              refine r_skip ?_
              refine s_n ?_
              refine r_block ?_
              refine r_seq ?_
              refine r_reg ?_
              refine r_op rfl (o_mv (some 133) ⟨rfl, rfl⟩ rfl (by exact (rfl : _ = I _ _))) ?_
              refine r_op rfl (o_sub (some 134) ⟨rfl, rfl⟩ rfl (by exact (rfl : _ = I _ 1)) rfl (by first | (simp only [lim]; omega) | omega | (simp only [List.length_set]; omega) | (simp at hb; omega)) (by first | (simp only [lim]; omega) | omega | (simp only [List.length_set]; omega) | (simp at hb; omega))) ?_
              refine r_op rfl (o_as (some 17) ⟨rfl, rfl⟩ rfl (by exact (rfl : _ = I _ _))) ?_
              refine r_end ?_
              refine s_n ?_
              refine r_seq ?_
              refine r_reg ?_
              refine r_op rfl (o_mv (some 135) ⟨rfl, rfl⟩ rfl (by exact (rfl : _ = I _ _))) ?_
              refine r_op rfl (o_mv (some 136) ⟨rfl, rfl⟩ rfl (by exact (rfl : _ = I _ _))) ?_
              refine r_op rfl (o_add (some 137) ⟨rfl, rfl⟩ rfl rfl rfl (by first | (simp only [lim]; omega) | omega | (simp only [List.length_set]; omega) | (simp at hb; omega))) ?_
              refine r_op rfl (o_as (some 18) ⟨rfl, rfl⟩ rfl (by exact (rfl : _ = I _ _))) ?_
              refine r_end ?_
              refine s_n ?_
              refine r_seq ?_
              refine r_reg ?_
              refine r_op rfl (o_mv (some 138) ⟨rfl, rfl⟩ rfl (by exact (rfl : _ = I _ _))) ?_
              refine r_op rfl (o_geq (some 139) ⟨rfl, rfl⟩ rfl (by exact (rfl : _ = I _ 1000000000)) rfl) ?_
              refine r_end ?_
              refine s_n ?_
              refine r_cond rfl (fun hc_4 => ?_) (fun hc_4 => ?_)
              · try simp only [decide_eq_true_eq, decide_eq_false_iff_not, Nat.not_lt, Nat.not_le, Bool.and_eq_true, Bool.or_eq_true, Bool.and_eq_false_iff, Bool.or_eq_false_iff, Bool.not_eq_true', Bool.not_eq_false', beq_iff_eq, beq_eq_false_iff_ne, ne_eq, Decidable.not_not] at hc_4
                have hF := h3.broke (by omega) pp hc_3 w3 hc_4
                obtain ⟨G, hG⟩ : ∃ G, G = g - 1 := ⟨_, rfl⟩
                rw [← hG] at hF
                refine r_exit ?_
                refine b_out rfl ?_
                refine s_exit ?_
                refine b_here ?_
                refine s_n ?_
                refine r_seq ?_
                refine r_seq ?_
                refine r_ghc (σ' := stL [(6, I .i64 (n + 2)), (9, I .u64 (s)), (10, .own true 1 66 0 ((d9 x).length + 1)), (11, .p (nP (y * s))), (12, .own true 1 71 0 ((d9 x).length - (n + 1))), (13, I .u64 ((d9 (y * s)).getD (n + 1) 0)), (14, I .u64 ((d9 (y * s)).getD n 0)), (15, I .i64 ((i))), (17, I .u64 ((G)))] [(66, { cells := nums .u32 ((u)), ty := 138 }), (71, { cells := nums .u32 ((q)), ty := 138 })]) ?_ (gh_st id (tlc (td_I rfl rfl) (tlc (td_I rfl rfl) (tlc (td_own rfl rfl rfl) (tlc (td_p rfl rfl) (tlc (td_own rfl rfl rfl) (tlc (td_I rfl rfl) (tlc (td_I rfl rfl) (tlc (td_I rfl rfl) (tlc (td_I rfl hG.symm) tl0))))))))) (hpc (hp_nums rfl rfl rfl rfl rfl rfl) (hpc (hp_nums rfl rfl rfl rfl rfl rfl) hp0)) rfl)
                have hR := div_roundW hI (lim_d9 _) (by omega) hF rfl
                have hG1 := hF.1
                refine r_reg ?_
                refine r_op rfl (o_mv (some 140) ⟨rfl, rfl⟩ rfl (by exact (rfl : _ = AV.own _ _ _ _ _))) ?_
                refine r_op rfl (o_mv (some 141) ⟨rfl, rfl⟩ rfl (by exact (rfl : _ = I _ _))) ?_
                refine r_op rfl (o_slO (off' := i) (some 142) ⟨rfl, rfl⟩ rfl rfl rfl rfl ty24 ty138 (cut1 rfl (by omega)) (by omega) (by omega) rfl) ?_
                refine r_op rfl (o_mv (some 143) ⟨rfl, rfl⟩ rfl (by exact (rfl : _ = AV.p _))) ?_
                refine r_op rfl (o_mv (some 144) ⟨rfl, rfl⟩ rfl (by exact (rfl : _ = I _ _))) ?_
                refine r_op rfl (o_callH (some 145) ⟨rfl, rfl⟩ tx133 rfl rfl (w_take u i (y * s) G _ hI.limu (by omega) (by omega) hF.1) rfl rfl rfl rfl (pvs_p _ _).symm (pvs_ne (by omega)) (alc (td_own rfl (by omega) trivial) (alc (td_p rfl rfl) (alc (td_I rfl rfl) al0))) (pvs_p _ _)) ?_
                refine r_end ?_
                refine s_n ?_
                refine r_cond rfl (fun hc_5 => ?_) (fun hc_5 => ?_)
                · try simp only [decide_eq_true_eq, decide_eq_false_iff_not, Nat.not_lt, Nat.not_le, Bool.and_eq_true, Bool.or_eq_true, Bool.and_eq_false_iff, Bool.or_eq_false_iff, Bool.not_eq_true', Bool.not_eq_false', beq_iff_eq, beq_eq_false_iff_ne, ne_eq, Decidable.not_not] at hc_5
                  have r1 := (hR.2.1 hc_5).1
                  refine r_seq ?_
                  refine r_reg ?_
                  refine r_op rfl (o_mv (some 146) ⟨rfl, rfl⟩ rfl (by exact (rfl : _ = I _ _))) ?_
                  refine r_op rfl (o_sub (some 147) ⟨rfl, rfl⟩ rfl (by exact (rfl : _ = I _ 1)) rfl (by first | (simp only [lim]; omega) | omega | (simp only [List.length_set]; omega) | (simp at hb; omega)) (by first | (simp only [lim]; omega) | omega | (simp only [List.length_set]; omega) | (simp at hb; omega))) ?_
                  refine r_op rfl (o_as (some 17) ⟨rfl, rfl⟩ rfl (by exact (rfl : _ = I _ _))) ?_
                  refine r_end ?_
                  refine s_n ?_
                  refine r_reg ?_
                  refine r_op rfl (o_mv (some 148) ⟨rfl, rfl⟩ rfl (by exact (rfl : _ = AV.own _ _ _ _ _))) ?_
                  refine r_op rfl (o_mv (some 149) ⟨rfl, rfl⟩ rfl (by exact (rfl : _ = I _ _))) ?_
                  refine r_op rfl (o_slO (off' := i) (some 150) ⟨rfl, rfl⟩ rfl rfl rfl rfl ty24 ty138 (cut1 rfl (by omega)) (by omega) (by omega) rfl) ?_
                  refine r_op rfl (o_mv (some 151) ⟨rfl, rfl⟩ rfl (by exact (rfl : _ = AV.p _))) ?_
                  refine r_op rfl (o_callH (some 152) ⟨rfl, rfl⟩ tx134 rfl rfl (w_back _ i (y * s) _ hR.2.2.1 (by rw [hR.2.2.2]; omega) (by rw [hR.2.2.2]; omega)) rfl rfl rfl rfl (pvs_p _ _).symm (pvs_ne (by rw [hR.2.2.2]; omega)) (alc (td_own rfl (by rw [hR.2.2.2]; omega) trivial) (alc (td_p rfl rfl) al0)) (pvs_p _ _)) ?_
                  refine r_end ?_
                  refine s_n ?_
                  refine r_reg ?_
                  refine r_op rfl (o_mv (some 153) ⟨rfl, rfl⟩ rfl (by exact (rfl : _ = AV.own _ _ _ _ _))) ?_
                  refine r_op rfl (o_mv (some 154) ⟨rfl, rfl⟩ rfl (by exact (rfl : _ = I _ _))) ?_
                  refine r_op rfl (o_mv (some 155) ⟨rfl, rfl⟩ rfl (by exact (rfl : _ = I _ _))) ?_
                  refine r_op rfl (o_conv (some 156) ⟨rfl, rfl⟩ rfl rfl ty137 ty138 (by first | (simp only [lim]; omega) | omega | (simp only [List.length_set]; omega) | (simp at hb; omega))) ?_
                  refine r_op rfl (o_ixM (some 157) ⟨rfl, rfl⟩ rfl rfl rfl rfl rfl ty24 ty138 (by first | (simp only [lim]; omega) | omega | (simp only [List.length_set]; omega) | (simp at hb; omega))) ?_
                  refine r_op rfl ((by first | exact o_stN rfl rfl rfl rfl rfl rfl ty138 rfl rfl (by first | (simp only [lim]; omega) | omega | (simp only [List.length_set]; omega) | (simp at hb; omega)) | exact o_st1 rfl rfl rfl rfl rfl rfl ty138 rfl rfl (Nat.le_of_ble_eq_true rfl) rfl)) ?_
                  refine r_end ?_
                  refine b_n ?_
                  refine s_n ?_
                  refine r_reg ?_
                  refine r_op rfl (o_mv (some 89) ⟨rfl, rfl⟩ rfl (by exact (rfl : _ = I _ _))) ?_
                  refine r_op rfl (o_zsub (some 90) ⟨rfl, rfl⟩ (by exact (rfl : _ = Z _ _)) (by exact (rfl : _ = Z _ (1))) rfl (by first | (simp only [lim]; omega) | omega | (simp only [List.length_set]; omega) | (simp at hb; omega)) (by first | (simp only [lim]; omega) | omega | (simp only [List.length_set]; omega) | (simp at hb; omega))) ?_
                  refine r_op rfl (o_as (some 15) ⟨rfl, rfl⟩ rfl (by exact (rfl : _ = Z _ _))) ?_
                  refine r_end ?_
                  refine s_n ?_
                  first | exact ⟨⟨(i, _, _), hR.1 (Nat.not_lt.2 (by first | exact hc_5 | exact hc_6)), by show i ≤ _; omega⟩, by show i < i + 1; omega, gh_st id (tlc (td_I rfl rfl) (tlc (td_I rfl rfl) (tlc (td_own rfl rfl rfl) (tlc (td_p rfl rfl) (tlc (td_own rfl rfl rfl) (tlc (td_I rfl rfl) (tlc (td_I rfl rfl) (tlc (td_Z rfl rfl) tl0)))))))) (hpc (hp_nums rfl rfl rfl rfl rfl rfl) (hpc (hp_nums rfl rfl rfl rfl rfl rfl) hp0)) rfl⟩ | exact ⟨⟨(i, _, _), (hR.2.1 (by first | exact hc_5 | exact hc_6)).2, by show i ≤ _; omega⟩, by show i < i + 1; omega, gh_st id (tlc (td_I rfl rfl) (tlc (td_I rfl rfl) (tlc (td_own rfl rfl rfl) (tlc (td_p rfl rfl) (tlc (td_own rfl rfl rfl) (tlc (td_I rfl rfl) (tlc (td_I rfl rfl) (tlc (td_Z rfl rfl) tl0)))))))) (hpc (hp_nums rfl rfl rfl rfl rfl rfl) (hpc (hp_nums rfl rfl rfl rfl rfl rfl) hp0)) rfl⟩
                · try simp only [decide_eq_true_eq, decide_eq_false_iff_not, Nat.not_lt, Nat.not_le, Bool.and_eq_true, Bool.or_eq_true, Bool.and_eq_false_iff, Bool.or_eq_false_iff, Bool.not_eq_true', Bool.not_eq_false', beq_iff_eq, beq_eq_false_iff_ne, ne_eq, Decidable.not_not] at hc_5
                  refine r_skip ?_
                  refine s_n ?_
                  refine r_reg ?_
                  refine r_op rfl (o_mv (some 153) ⟨rfl, rfl⟩ rfl (by exact (rfl : _ = AV.own _ _ _ _ _))) ?_
                  refine r_op rfl (o_mv (some 154) ⟨rfl, rfl⟩ rfl (by exact (rfl : _ = I _ _))) ?_
                  refine r_op rfl (o_mv (some 155) ⟨rfl, rfl⟩ rfl (by exact (rfl : _ = I _ _))) ?_
                  refine r_op rfl (o_conv (some 156) ⟨rfl, rfl⟩ rfl rfl ty137 ty138 (by first | (simp only [lim]; omega) | omega | (simp only [List.length_set]; omega) | (simp at hb; omega))) ?_
                  refine r_op rfl (o_ixM (some 157) ⟨rfl, rfl⟩ rfl rfl rfl rfl rfl ty24 ty138 (by first | (simp only [lim]; omega) | omega | (simp only [List.length_set]; omega) | (simp at hb; omega))) ?_
                  refine r_op rfl ((by first | exact o_stN rfl rfl rfl rfl rfl rfl ty138 rfl rfl (by first | (simp only [lim]; omega) | omega | (simp only [List.length_set]; omega) | (simp at hb; omega)) | exact o_st1 rfl rfl rfl rfl rfl rfl ty138 rfl rfl (Nat.le_of_ble_eq_true rfl) rfl)) ?_
                  refine r_end ?_
                  refine b_n ?_
                  refine s_n ?_
                  refine r_reg ?_
                  refine r_op rfl (o_mv (some 89) ⟨rfl, rfl⟩ rfl (by exact (rfl : _ = I _ _))) ?_
                  refine r_op rfl (o_zsub (some 90) ⟨rfl, rfl⟩ (by exact (rfl : _ = Z _ _)) (by exact (rfl : _ = Z _ (1))) rfl (by first | (simp only [lim]; omega) | omega | (simp only [List.length_set]; omega) | (simp at hb; omega)) (by first | (simp only [lim]; omega) | omega | (simp only [List.length_set]; omega) | (simp at hb; omega))) ?_
                  refine r_op rfl (o_as (some 15) ⟨rfl, rfl⟩ rfl (by exact (rfl : _ = Z _ _))) ?_
                  refine r_end ?_
                  refine s_n ?_
                  first | exact ⟨⟨(i, _, _), hR.1 (Nat.not_lt.2 (by first | exact hc_5 | exact hc_6)), by show i ≤ _; omega⟩, by show i < i + 1; omega, gh_st id (tlc (td_I rfl rfl) (tlc (td_I rfl rfl) (tlc (td_own rfl rfl rfl) (tlc (td_p rfl rfl) (tlc (td_own rfl rfl rfl) (tlc (td_I rfl rfl) (tlc (td_I rfl rfl) (tlc (td_Z rfl rfl) tl0)))))))) (hpc (hp_nums rfl rfl rfl rfl rfl rfl) (hpc (hp_nums rfl rfl rfl rfl rfl rfl) hp0)) rfl⟩ | exact ⟨⟨(i, _, _), (hR.2.1 (by first | exact hc_5 | exact hc_6)).2, by show i ≤ _; omega⟩, by show i < i + 1; omega, gh_st id (tlc (td_I rfl rfl) (tlc (td_I rfl rfl) (tlc (td_own rfl rfl rfl) (tlc (td_p rfl rfl) (tlc (td_own rfl rfl rfl) (tlc (td_I rfl rfl) (tlc (td_I rfl rfl) (tlc (td_Z rfl rfl) tl0)))))))) (hpc (hp_nums rfl rfl rfl rfl rfl rfl) (hpc (hp_nums rfl rfl rfl rfl rfl rfl) hp0)) rfl⟩
              · try simp only [decide_eq_true_eq, decide_eq_false_iff_not, Nat.not_lt, Nat.not_le, Bool.and_eq_true, Bool.or_eq_true, Bool.and_eq_false_iff, Bool.or_eq_false_iff, Bool.not_eq_true', Bool.not_eq_false', beq_iff_eq, beq_eq_false_iff_ne, ne_eq, Decidable.not_not] at hc_4
                refine r_skip ?_
                refine b_n ?_
                refine s_n ?_
                exact ⟨⟨(g - 1, r + (d9 (y * s)).getD (n + 1) 0), h3.next_ (by omega) pp hc_3 w3 hc_4⟩, Nat.sub_lt hg1 (by omega), gh_st id (tlc (td_I rfl rfl) (tlc (td_I rfl rfl) (tlc (td_own rfl rfl rfl) (tlc (td_p rfl rfl) (tlc (td_own rfl rfl rfl) (tlc (td_I rfl rfl) (tlc (td_I rfl rfl) (tlc (td_I rfl rfl) (tlc (td_I rfl rfl) (tlc (td_I rfl rfl) tl0)))))))))) (hpc (hp_nums rfl rfl rfl rfl rfl rfl) (hpc (hp_nums rfl rfl rfl rfl rfl rfl) hp0)) rfl⟩
            · try simp only [decide_eq_true_eq, decide_eq_false_iff_not, Nat.not_lt, Nat.not_le, Bool.and_eq_true, Bool.or_eq_true, Bool.and_eq_false_iff, Bool.or_eq_false_iff, Bool.not_eq_true', Bool.not_eq_false', beq_iff_eq, beq_eq_false_iff_ne, ne_eq, Decidable.not_not] at hc_3
              rw [show i + (n + 2) - 2 = i + n by omega] at hc_3
              have hF := h3.out (by omega) pp hc_3.1 hc_3.2
              obtain ⟨G, hG⟩ : ∃ G, G = g := ⟨_, rfl⟩
              rw [← hG] at hF
              refine r_exit ?_
              refine s_exit ?_
              refine s_exit ?_
              refine b_here ?_
              refine s_n ?_
              refine r_seq ?_
              refine r_seq ?_
              refine r_ghc (σ' := stL [(6, I .i64 (n + 2)), (9, I .u64 (s)), (10, .own true 1 66 0 ((d9 x).length + 1)), (11, .p (nP (y * s))), (12, .own true 1 71 0 ((d9 x).length - (n + 1))), (13, I .u64 ((d9 (y * s)).getD (n + 1) 0)), (14, I .u64 ((d9 (y * s)).getD n 0)), (15, I .i64 ((i))), (17, I .u64 ((G)))] [(66, { cells := nums .u32 ((u)), ty := 138 }), (71, { cells := nums .u32 ((q)), ty := 138 })]) ?_ (gh_st id (tlc (td_I rfl rfl) (tlc (td_I rfl rfl) (tlc (td_own rfl rfl rfl) (tlc (td_p rfl rfl) (tlc (td_own rfl rfl rfl) (tlc (td_I rfl rfl) (tlc (td_I rfl rfl) (tlc (td_I rfl rfl) (tlc (td_I rfl hG.symm) tl0))))))))) (hpc (hp_nums rfl rfl rfl rfl rfl rfl) (hpc (hp_nums rfl rfl rfl rfl rfl rfl) hp0)) rfl)
              have hR := div_roundW hI (lim_d9 _) (by omega) hF rfl
              have hG1 := hF.1
              refine r_reg ?_
              refine r_op rfl (o_mv (some 140) ⟨rfl, rfl⟩ rfl (by exact (rfl : _ = AV.own _ _ _ _ _))) ?_
              refine r_op rfl (o_mv (some 141) ⟨rfl, rfl⟩ rfl (by exact (rfl : _ = I _ _))) ?_
              refine r_op rfl (o_slO (off' := i) (some 142) ⟨rfl, rfl⟩ rfl rfl rfl rfl ty24 ty138 (cut1 rfl (by omega)) (by omega) (by omega) rfl) ?_
              refine r_op rfl (o_mv (some 143) ⟨rfl, rfl⟩ rfl (by exact (rfl : _ = AV.p _))) ?_
              refine r_op rfl (o_mv (some 144) ⟨rfl, rfl⟩ rfl (by exact (rfl : _ = I _ _))) ?_
              refine r_op rfl (o_callH (some 145) ⟨rfl, rfl⟩ tx133 rfl rfl (w_take u i (y * s) G _ hI.limu (by omega) (by omega) hF.1) rfl rfl rfl rfl (pvs_p _ _).symm (pvs_ne (by omega)) (alc (td_own rfl (by omega) trivial) (alc (td_p rfl rfl) (alc (td_I rfl rfl) al0))) (pvs_p _ _)) ?_
              refine r_end ?_
              refine s_n ?_
              refine r_cond rfl (fun hc_6 => ?_) (fun hc_6 => ?_)
              · try simp only [decide_eq_true_eq, decide_eq_false_iff_not, Nat.not_lt, Nat.not_le, Bool.and_eq_true, Bool.or_eq_true, Bool.and_eq_false_iff, Bool.or_eq_false_iff, Bool.not_eq_true', Bool.not_eq_false', beq_iff_eq, beq_eq_false_iff_ne, ne_eq, Decidable.not_not] at hc_6
                have r1 := (hR.2.1 hc_6).1
                refine r_seq ?_
                refine r_reg ?_
                refine r_op rfl (o_mv (some 146) ⟨rfl, rfl⟩ rfl (by exact (rfl : _ = I _ _))) ?_
                refine r_op rfl (o_sub (some 147) ⟨rfl, rfl⟩ rfl (by exact (rfl : _ = I _ 1)) rfl (by first | (simp only [lim]; omega) | omega | (simp only [List.length_set]; omega) | (simp at hb; omega)) (by first | (simp only [lim]; omega) | omega | (simp only [List.length_set]; omega) | (simp at hb; omega))) ?_
                refine r_op rfl (o_as (some 17) ⟨rfl, rfl⟩ rfl (by exact (rfl : _ = I _ _))) ?_
                refine r_end ?_
                refine s_n ?_
                refine r_reg ?_
                refine r_op rfl (o_mv (some 148) ⟨rfl, rfl⟩ rfl (by exact (rfl : _ = AV.own _ _ _ _ _))) ?_
                refine r_op rfl (o_mv (some 149) ⟨rfl, rfl⟩ rfl (by exact (rfl : _ = I _ _))) ?_
                refine r_op rfl (o_slO (off' := i) (some 150) ⟨rfl, rfl⟩ rfl rfl rfl rfl ty24 ty138 (cut1 rfl (by omega)) (by omega) (by omega) rfl) ?_
                refine r_op rfl (o_mv (some 151) ⟨rfl, rfl⟩ rfl (by exact (rfl : _ = AV.p _))) ?_
                refine r_op rfl (o_callH (some 152) ⟨rfl, rfl⟩ tx134 rfl rfl (w_back _ i (y * s) _ hR.2.2.1 (by rw [hR.2.2.2]; omega) (by rw [hR.2.2.2]; omega)) rfl rfl rfl rfl (pvs_p _ _).symm (pvs_ne (by rw [hR.2.2.2]; omega)) (alc (td_own rfl (by rw [hR.2.2.2]; omega) trivial) (alc (td_p rfl rfl) al0)) (pvs_p _ _)) ?_
                refine r_end ?_
                refine s_n ?_
                refine r_reg ?_
                refine r_op rfl (o_mv (some 153) ⟨rfl, rfl⟩ rfl (by exact (rfl : _ = AV.own _ _ _ _ _))) ?_
                refine r_op rfl (o_mv (some 154) ⟨rfl, rfl⟩ rfl (by exact (rfl : _ = I _ _))) ?_
                refine r_op rfl (o_mv (some 155) ⟨rfl, rfl⟩ rfl (by exact (rfl : _ = I _ _))) ?_
                refine r_op rfl (o_conv (some 156) ⟨rfl, rfl⟩ rfl rfl ty137 ty138 (by first | (simp only [lim]; omega) | omega | (simp only [List.length_set]; omega) | (simp at hb; omega))) ?_
                refine r_op rfl (o_ixM (some 157) ⟨rfl, rfl⟩ rfl rfl rfl rfl rfl ty24 ty138 (by first | (simp only [lim]; omega) | omega | (simp only [List.length_set]; omega) | (simp at hb; omega))) ?_
                refine r_op rfl ((by first | exact o_stN rfl rfl rfl rfl rfl rfl ty138 rfl rfl (by first | (simp only [lim]; omega) | omega | (simp only [List.length_set]; omega) | (simp at hb; omega)) | exact o_st1 rfl rfl rfl rfl rfl rfl ty138 rfl rfl (Nat.le_of_ble_eq_true rfl) rfl)) ?_
                refine r_end ?_
                refine b_n ?_
                refine s_n ?_
                refine r_reg ?_
                refine r_op rfl (o_mv (some 89) ⟨rfl, rfl⟩ rfl (by exact (rfl : _ = I _ _))) ?_
                refine r_op rfl (o_zsub (some 90) ⟨rfl, rfl⟩ (by exact (rfl : _ = Z _ _)) (by exact (rfl : _ = Z _ (1))) rfl (by first | (simp only [lim]; omega) | omega | (simp only [List.length_set]; omega) | (simp at hb; omega)) (by first | (simp only [lim]; omega) | omega | (simp only [List.length_set]; omega) | (simp at hb; omega))) ?_
                refine r_op rfl (o_as (some 15) ⟨rfl, rfl⟩ rfl (by exact (rfl : _ = Z _ _))) ?_
                refine r_end ?_
                refine s_n ?_
                first | exact ⟨⟨(i, _, _), hR.1 (Nat.not_lt.2 (by first | exact hc_5 | exact hc_6)), by show i ≤ _; omega⟩, by show i < i + 1; omega, gh_st id (tlc (td_I rfl rfl) (tlc (td_I rfl rfl) (tlc (td_own rfl rfl rfl) (tlc (td_p rfl rfl) (tlc (td_own rfl rfl rfl) (tlc (td_I rfl rfl) (tlc (td_I rfl rfl) (tlc (td_Z rfl rfl) tl0)))))))) (hpc (hp_nums rfl rfl rfl rfl rfl rfl) (hpc (hp_nums rfl rfl rfl rfl rfl rfl) hp0)) rfl⟩ | exact ⟨⟨(i, _, _), (hR.2.1 (by first | exact hc_5 | exact hc_6)).2, by show i ≤ _; omega⟩, by show i < i + 1; omega, gh_st id (tlc (td_I rfl rfl) (tlc (td_I rfl rfl) (tlc (td_own rfl rfl rfl) (tlc (td_p rfl rfl) (tlc (td_own rfl rfl rfl) (tlc (td_I rfl rfl) (tlc (td_I rfl rfl) (tlc (td_Z rfl rfl) tl0)))))))) (hpc (hp_nums rfl rfl rfl rfl rfl rfl) (hpc (hp_nums rfl rfl rfl rfl rfl rfl) hp0)) rfl⟩
              · try simp only [decide_eq_true_eq, decide_eq_false_iff_not, Nat.not_lt, Nat.not_le, Bool.and_eq_true, Bool.or_eq_true, Bool.and_eq_false_iff, Bool.or_eq_false_iff, Bool.not_eq_true', Bool.not_eq_false', beq_iff_eq, beq_eq_false_iff_ne, ne_eq, Decidable.not_not] at hc_6
                refine r_skip ?_
                refine s_n ?_
                refine r_reg ?_
                refine r_op rfl (o_mv (some 153) ⟨rfl, rfl⟩ rfl (by exact (rfl : _ = AV.own _ _ _ _ _))) ?_
                refine r_op rfl (o_mv (some 154) ⟨rfl, rfl⟩ rfl (by exact (rfl : _ = I _ _))) ?_
                refine r_op rfl (o_mv (some 155) ⟨rfl, rfl⟩ rfl (by exact (rfl : _ = I _ _))) ?_
                refine r_op rfl (o_conv (some 156) ⟨rfl, rfl⟩ rfl rfl ty137 ty138 (by first | (simp only [lim]; omega) | omega | (simp only [List.length_set]; omega) | (simp at hb; omega))) ?_
                refine r_op rfl (o_ixM (some 157) ⟨rfl, rfl⟩ rfl rfl rfl rfl rfl ty24 ty138 (by first | (simp only [lim]; omega) | omega | (simp only [List.length_set]; omega) | (simp at hb; omega))) ?_
                refine r_op rfl ((by first | exact o_stN rfl rfl rfl rfl rfl rfl ty138 rfl rfl (by first | (simp only [lim]; omega) | omega | (simp only [List.length_set]; omega) | (simp at hb; omega)) | exact o_st1 rfl rfl rfl rfl rfl rfl ty138 rfl rfl (Nat.le_of_ble_eq_true rfl) rfl)) ?_
                refine r_end ?_
                refine b_n ?_
                refine s_n ?_
                refine r_reg ?_
                refine r_op rfl (o_mv (some 89) ⟨rfl, rfl⟩ rfl (by exact (rfl : _ = I _ _))) ?_
                refine r_op rfl (o_zsub (some 90) ⟨rfl, rfl⟩ (by exact (rfl : _ = Z _ _)) (by exact (rfl : _ = Z _ (1))) rfl (by first | (simp only [lim]; omega) | omega | (simp only [List.length_set]; omega) | (simp at hb; omega)) (by first | (simp only [lim]; omega) | omega | (simp only [List.length_set]; omega) | (simp at hb; omega))) ?_
                refine r_op rfl (o_as (some 15) ⟨rfl, rfl⟩ rfl (by exact (rfl : _ = Z _ _))) ?_
                refine r_end ?_
                refine s_n ?_
                first | exact ⟨⟨(i, _, _), hR.1 (Nat.not_lt.2 (by first | exact hc_5 | exact hc_6)), by show i ≤ _; omega⟩, by show i < i + 1; omega, gh_st id (tlc (td_I rfl rfl) (tlc (td_I rfl rfl) (tlc (td_own rfl rfl rfl) (tlc (td_p rfl rfl) (tlc (td_own rfl rfl rfl) (tlc (td_I rfl rfl) (tlc (td_I rfl rfl) (tlc (td_Z rfl rfl) tl0)))))))) (hpc (hp_nums rfl rfl rfl rfl rfl rfl) (hpc (hp_nums rfl rfl rfl rfl rfl rfl) hp0)) rfl⟩ | exact ⟨⟨(i, _, _), (hR.2.1 (by first | exact hc_5 | exact hc_6)).2, by show i ≤ _; omega⟩, by show i < i + 1; omega, gh_st id (tlc (td_I rfl rfl) (tlc (td_I rfl rfl) (tlc (td_own rfl rfl rfl) (tlc (td_p rfl rfl) (tlc (td_own rfl rfl rfl) (tlc (td_I rfl rfl) (tlc (td_I rfl rfl) (tlc (td_Z rfl rfl) tl0)))))))) (hpc (hp_nums rfl rfl rfl rfl rfl rfl) (hpc (hp_nums rfl rfl rfl rfl rfl rfl) hp0)) rfl⟩
        · try simp only [decide_eq_true_eq, decide_eq_false_iff_not, Nat.not_lt, Nat.not_le, Bool.and_eq_true, Bool.or_eq_true, Bool.and_eq_false_iff, Bool.or_eq_false_iff, Bool.not_eq_true', Bool.not_eq_false', beq_iff_eq, beq_eq_false_iff_ne, ne_eq, Decidable.not_not] at hc_2
          have hj : j = 0 := by omega
          subst hj
          have hE := div_end (by omega) f1 h1
          have hlu := h1.lenu
          rw [f3] at hlu
          have hlq := h1.lenq
          have hvl : (d9 (val 1000000000 u)).length ≤ u.length := dl_le_of_lt (by omega) (val_lt h1.limu)
          refine r_exit ?_
          refine s_exit ?_
          refine s_exit ?_
          refine b_here ?_
          refine s_n ?_
          refine r_seq ?_
          refine r_ghc ?_ (gh_publish (b := 66) rfl rfl)
          refine r_reg ?_
          refine r_op rfl (o_mv (some 159) ⟨rfl, rfl⟩ rfl (by exact (rfl : _ = AV.own _ _ _ _ _))) ?_
          refine r_op rfl (o_call (some 160) ⟨rfl, rfl⟩ tx119 rfl rfl (w_norm u h1.limu (by omega)) (convL_cons (by first | exact conv_p _ | exact conv_nilP _ | exact conv_nil _ | exact conv_sl rfl | exact conv_nums rfl rfl rfl rfl (by first | rfl | omega | (rw [List.drop_zero, List.take_of_length_le (by omega)])) (by first | rfl | omega | (rw [List.drop_zero, List.take_of_length_le (by omega)]))) convL_nil)) ?_
          refine r_op rfl (o_mv (some 161) ⟨rfl, rfl⟩ rfl (by exact (rfl : _ = I _ _))) ?_
          refine r_op rfl (o_conv (some 162) ⟨rfl, rfl⟩ rfl rfl ty137 ty138 (by first | (simp only [lim]; omega) | omega | (simp only [List.length_set]; omega) | (simp at hb; omega))) ?_
          refine r_op rfl (o_call (some 163) ⟨rfl, rfl⟩ tx131 rfl rfl (w_short (val 1000000000 u) s f1 (by omega) (by omega)) (convL_cons (by first | exact conv_p _ | exact conv_nilP _ | exact conv_nil _ | exact conv_sl rfl | exact conv_nums rfl rfl rfl rfl (by first | rfl | omega | (rw [List.drop_zero, List.take_of_length_le (by omega)])) (by first | rfl | omega | (rw [List.drop_zero, List.take_of_length_le (by omega)]))) (convL_cons (conv_p _) convL_nil))) ?_
          refine r_op rfl (o_mv (some 158) ⟨rfl, rfl⟩ rfl (by exact (rfl : _ = AV.p _))) ?_
          refine r_op rfl (o_ext (some 164) ⟨rfl, rfl⟩ rfl rfl rfl) ?_
          refine r_op rfl (o_ext (some 165) ⟨rfl, rfl⟩ rfl rfl rfl) ?_
          refine r_op rfl (o_as (some 19) ⟨rfl, rfl⟩ rfl (by exact (rfl : _ = AV.p _))) ?_
          refine r_op rfl (o_as (some 20) ⟨rfl, rfl⟩ rfl (by exact (rfl : _ = AV.p _))) ?_
          refine r_end ?_
          refine s_n ?_
          refine r_seq ?_
          refine r_ghc ?_ (gh_publish (b := 71) rfl rfl)
          refine r_reg ?_
          refine r_op rfl (o_mv (some 166) ⟨rfl, rfl⟩ rfl (by exact (rfl : _ = AV.own _ _ _ _ _))) ?_
          refine r_op rfl (o_call (some 167) ⟨rfl, rfl⟩ tx119 rfl rfl (w_norm q h1.limq (by omega)) (convL_cons (by first | exact conv_p _ | exact conv_nilP _ | exact conv_nil _ | exact conv_sl rfl | exact conv_nums rfl rfl rfl rfl (by first | rfl | omega | (rw [List.drop_zero, List.take_of_length_le (by omega)])) (by first | rfl | omega | (rw [List.drop_zero, List.take_of_length_le (by omega)]))) convL_nil)) ?_
          refine r_op rfl (o_mv (some 168) ⟨rfl, rfl⟩ rfl (by exact (rfl : _ = AV.p _))) ?_
          refine r_op rfl (o_as (some 4) ⟨rfl, rfl⟩ rfl (by exact (rfl : _ = AV.p _))) ?_
          refine r_op rfl (o_as (some 5) ⟨rfl, rfl⟩ rfl (by exact (rfl : _ = AV.p _))) ?_
          refine r_end ?_
          refine s_n ?_
          refine r_ret ?_
          refine ⟨.inl rfl, [nP (x / y), nP (x % y)], rfl, ?_⟩
          exact resL_cons (res_tmp (conv_pe rfl (by rw [hE.1]; rfl))) (resL_cons (res_tmp (conv_pe rfl (by rw [hE.2]))) (resL_nil))

theorem w_gcd (x y : Nat) (hx : (d9 x).length < 68719476736) (hy : (d9 y).length < 68719476736) : FnP prog 87 [nP x, nP y] (packP [nP (Nat.gcd x y)]) := by
  refine fnP_of (fn := f87) fn87 rfl (Nat.le_of_ble_eq_true rfl) ?_
  refine r_seq ?_
  refine r_reg ?_
  refine r_op rfl (o_as (some 4) ⟨rfl, rfl⟩ rfl (by exact (rfl : _ = AV.p _))) ?_
  refine r_end ?_
  refine s_n ?_
  refine r_seq ?_
  refine r_block ?_
  refine r_loop (ι := { p : Nat × Nat // Nat.gcd p.1 p.2 = Nat.gcd x y ∧ (d9 p.1).length < 68719476736 ∧ (d9 p.2).length < 68719476736 }) (fun p => stL [(0, .p (nP (p.1.1))), (1, .p (nP (p.1.2)))] []) (fun p => p.1.2) (⟨(x, y), rfl, hx, hy⟩) ?_ (fun i_ => ?_)
  · exact gh_st id (tlc (td_p rfl rfl) (tlc (td_p rfl rfl) tl0)) hp0 rfl
  · obtain ⟨⟨a, b⟩, h1, h2, h3⟩ := i_
    simp only at h1 h2 h3
    change Tr _ _ _ (stL [(0, .p (nP (a))), (1, .p (nP (b)))] []) _
    refine r_seq ?_
    refine r_seq ?_
    refine r_reg ?_
    refine r_op rfl (o_mv (some 11) ⟨rfl, rfl⟩ rfl (by exact (rfl : _ = AV.p _))) ?_
    refine r_op rfl ((by first | exact o_lenN (some 12) ⟨rfl, rfl⟩ rfl rfl ty24 rfl | exact o_lenO (some 12) ⟨rfl, rfl⟩ rfl rfl rfl rfl ty24 | exact o_lenZ (some 12) ⟨rfl, rfl⟩ rfl rfl ty24 | exact o_lenP (some 12) ⟨rfl, rfl⟩ rfl rfl ty24 rfl)) ?_
    refine r_op rfl (o_gtr (some 13) ⟨rfl, rfl⟩ rfl (by exact (rfl : _ = I _ 0)) rfl) ?_
    refine r_end ?_
    refine s_n ?_
    refine r_cond rfl (fun hc => ?_) (fun hc => ?_)
    · try simp only [decide_eq_true_eq, decide_eq_false_iff_not, Nat.not_lt, Nat.not_le, Bool.and_eq_true, Bool.or_eq_true, Bool.and_eq_false_iff, Bool.or_eq_false_iff, Bool.not_eq_true', Bool.not_eq_false', beq_iff_eq, beq_eq_false_iff_ne, ne_eq, Decidable.not_not] at hc
      have hb0 : 0 < b := by have := (d9_nil b).2; omega
      refine r_skip ?_
      refine s_n ?_
      refine r_block ?_
      refine r_seq ?_
      refine r_reg ?_
      refine r_op rfl (o_mv (some 15) ⟨rfl, rfl⟩ rfl (by exact (rfl : _ = AV.p _))) ?_
      refine r_op rfl (o_call (some 16) ⟨rfl, rfl⟩ tx121 rfl rfl (w_word a (by omega)) (convL_cons (by first | exact conv_p _ | exact conv_nilP _ | exact conv_nil _ | exact conv_sl rfl | exact conv_nums rfl rfl rfl rfl (by rfl) (by rfl)) convL_nil)) ?_
      refine r_op rfl (o_mv (some 14) ⟨rfl, rfl⟩ rfl (by exact (rfl : _ = AV.p _))) ?_
      refine r_op rfl (o_ext (some 17) ⟨rfl, rfl⟩ rfl rfl rfl) ?_
      refine r_op rfl (o_ext (some 18) ⟨rfl, rfl⟩ rfl rfl rfl) ?_
      refine r_op rfl (o_as (some 5) ⟨rfl, rfl⟩ rfl (by exact (rfl : _ = AV.p _))) ?_
      refine r_op rfl (o_as (some 6) ⟨rfl, rfl⟩ rfl (by exact (rfl : _ = AV.p _))) ?_
      refine r_end ?_
      refine s_n ?_
      refine r_seq ?_
      refine r_reg ?_
      refine r_op rfl (o_mv (some 20) ⟨rfl, rfl⟩ rfl (by exact (rfl : _ = AV.p _))) ?_
      refine r_op rfl (o_call (some 21) ⟨rfl, rfl⟩ tx121 rfl rfl (w_word b (by omega)) (convL_cons (by first | exact conv_p _ | exact conv_nilP _ | exact conv_nil _ | exact conv_sl rfl | exact conv_nums rfl rfl rfl rfl (by rfl) (by rfl)) convL_nil)) ?_
      refine r_op rfl (o_mv (some 19) ⟨rfl, rfl⟩ rfl (by exact (rfl : _ = AV.p _))) ?_
      refine r_op rfl (o_ext (some 22) ⟨rfl, rfl⟩ rfl rfl rfl) ?_
      refine r_op rfl (o_ext (some 23) ⟨rfl, rfl⟩ rfl rfl rfl) ?_
      refine r_op rfl (o_as (some 7) ⟨rfl, rfl⟩ rfl (by exact (rfl : _ = AV.p _))) ?_
      refine r_op rfl (o_as (some 8) ⟨rfl, rfl⟩ rfl (by exact (rfl : _ = AV.p _))) ?_
      refine r_end ?_
      refine s_n ?_
      refine r_seq ?_
      refine r_seq ?_
      refine r_reg ?_
      refine r_op rfl (o_mv (some 24) ⟨rfl, rfl⟩ rfl (by exact (rfl : _ = AV.p _))) ?_
      refine r_op rfl (o_mv (some 25) ⟨rfl, rfl⟩ rfl (by exact (rfl : _ = AV.p _))) ?_
      refine r_gd (d := some 26) rfl rfl rfl rfl ⟨rfl, rfl⟩ (fun hb => o_mv (some 26) ⟨rfl, rfl⟩ rfl (by exact (rfl : _ = AV.p _))) ?_
      refine r_op rfl (o_and (some 27) ⟨rfl, rfl⟩ rfl rfl rfl rfl) ?_
      refine r_end ?_
      refine s_n ?_
      refine r_cond rfl (fun hc_1 => ?_) (fun hc_1 => ?_)
      · try simp only [decide_eq_true_eq, decide_eq_false_iff_not, Nat.not_lt, Nat.not_le, Bool.and_eq_true, Bool.or_eq_true, Bool.and_eq_false_iff, Bool.or_eq_false_iff, Bool.not_eq_true', Bool.not_eq_false', beq_iff_eq, beq_eq_false_iff_ne, ne_eq, Decidable.not_not] at hc_1
        have ha8 := d9_two hc_1.1
        have hb8 := d9_two hc_1.2
        refine r_seq ?_
        refine r_block ?_
        refine r_loop (ι := { p : Nat × Nat // Nat.gcd p.1 p.2 = Nat.gcd x y ∧ p.1 < 18446744073709551616 ∧ p.2 < 18446744073709551616 }) (fun p => stL [(5, I .u64 ((p.1.1))), (7, I .u64 ((p.1.2)))] []) (fun p => p.1.2) (⟨(a, b), h1, ha8, hb8⟩) ?_ (fun i_ => ?_)
        · exact gh_st id (tlc (td_I rfl (if_pos hc_1.1)) (tlc (td_I rfl (if_pos hc_1.2)) tl0)) hp0 rfl
        · obtain ⟨⟨c, d⟩, k1, k2, k3⟩ := i_
          simp only at k1 k2 k3
          change Tr _ _ _ (stL [(5, I .u64 ((c))), (7, I .u64 ((d)))] []) _
          refine r_seq ?_
          refine r_seq ?_
          refine r_reg ?_
          refine r_op rfl (o_mv (some 28) ⟨rfl, rfl⟩ rfl (by exact (rfl : _ = I _ _))) ?_
          refine r_op rfl (o_gtr (some 29) ⟨rfl, rfl⟩ rfl (by exact (rfl : _ = I _ 0)) rfl) ?_
          refine r_end ?_
          refine s_n ?_
          refine r_cond rfl (fun hc_2 => ?_) (fun hc_2 => ?_)
          · try simp only [decide_eq_true_eq, decide_eq_false_iff_not, Nat.not_lt, Nat.not_le, Bool.and_eq_true, Bool.or_eq_true, Bool.and_eq_false_iff, Bool.or_eq_false_iff, Bool.not_eq_true', Bool.not_eq_false', beq_iff_eq, beq_eq_false_iff_ne, ne_eq, Decidable.not_not] at hc_2
            refine r_skip ?_
            refine s_n ?_
            refine r_block ?_
            refine r_drawn mixed ?_
            refine d_op [7] [] rfl rfl (fun s hs => o_mv (some 30) ⟨rfl, rfl⟩ rfl (by exact ((hs.1 7 rfl).trans (rfl) : _ = I _ _))) ?_
            refine d_op [5] [] rfl rfl (fun s hs => o_mv (some 31) ⟨rfl, rfl⟩ rfl (by exact ((hs.1 5 rfl).trans (rfl) : _ = I _ _))) ?_
            refine d_op [7] [] rfl rfl (fun s hs => o_mv (some 32) ⟨rfl, rfl⟩ rfl (by exact ((hs.1 7 rfl).trans (rfl) : _ = I _ _))) ?_
            refine d_op [31, 32] [] rfl rfl (fun s hs => o_rem (some 33) ⟨rfl, rfl⟩ (by exact (hs.1 31 rfl).trans (rfl)) (by exact (hs.1 32 rfl).trans (rfl)) rfl (by first | (simp only [lim]; omega) | omega | (simp only [List.length_set]; omega) | (simp at hb; omega))) ?_
            refine d_op [30] [] rfl rfl (fun s hs => o_as (some 5) ⟨rfl, rfl⟩ rfl (by exact ((hs.1 30 rfl).trans (rfl) : _ = I _ _))) ?_
            refine d_op [33] [] rfl rfl (fun s hs => o_as (some 7) ⟨rfl, rfl⟩ rfl (by exact ((hs.1 33 rfl).trans (rfl) : _ = I _ _))) ?_
            refine d_end ⟨rfl, ?_⟩
            refine b_n ?_
            refine s_n ?_
            exact ⟨⟨(d, c % d), by rw [Nat.gcd_comm, ← Nat.gcd_rec]; rw [Nat.gcd_comm]; exact k1, k3, Nat.lt_trans (Nat.mod_lt _ hc_2) k3⟩, Nat.mod_lt _ hc_2, gh_st id (tlc (td_I rfl rfl) (tlc (td_I rfl rfl) tl0)) hp0 rfl⟩
          · try simp only [decide_eq_true_eq, decide_eq_false_iff_not, Nat.not_lt, Nat.not_le, Bool.and_eq_true, Bool.or_eq_true, Bool.and_eq_false_iff, Bool.or_eq_false_iff, Bool.not_eq_true', Bool.not_eq_false', beq_iff_eq, beq_eq_false_iff_ne, ne_eq, Decidable.not_not] at hc_2
            have hd0 : d = 0 := by omega
            subst hd0
            refine r_exit ?_
            refine s_exit ?_
            refine s_exit ?_
            refine b_here ?_
            refine s_n ?_
            refine r_seq ?_
            refine r_reg ?_
            refine r_op rfl (o_mv (some 34) ⟨rfl, rfl⟩ rfl (by exact (rfl : _ = I _ _))) ?_
            refine r_op rfl (o_call (some 35) ⟨rfl, rfl⟩ tx122 rfl rfl (w_natOf c (by omega)) (convL_cons (conv_p _) convL_nil)) ?_
            refine r_op rfl (o_as (some 4) ⟨rfl, rfl⟩ rfl (by exact (rfl : _ = AV.p _))) ?_
            refine r_end ?_
            refine s_n ?_
            refine r_ret ?_
            refine s_ret ?_
            refine b_ret ?_
            refine s_ret ?_
            refine b_ret ?_
            refine s_ret ?_
            refine ⟨.inl rfl, [nP (Nat.gcd x y)], rfl, ?_⟩
            exact resL_cons (res_tmp (conv_pe rfl (by rw [Nat.gcd_zero_right] at k1; rw [k1]; rfl))) (resL_nil)
      · try simp only [decide_eq_true_eq, decide_eq_false_iff_not, Nat.not_lt, Nat.not_le, Bool.and_eq_true, Bool.or_eq_true, Bool.and_eq_false_iff, Bool.or_eq_false_iff, Bool.not_eq_true', Bool.not_eq_false', beq_iff_eq, beq_eq_false_iff_ne, ne_eq, Decidable.not_not] at hc_1
        refine r_skip ?_
        refine s_n ?_
        refine r_seq ?_
        refine r_reg ?_
        refine r_op rfl (o_mv (some 37) ⟨rfl, rfl⟩ rfl (by exact (rfl : _ = AV.p _))) ?_
        refine r_op rfl (o_mv (some 38) ⟨rfl, rfl⟩ rfl (by exact (rfl : _ = AV.p _))) ?_
        refine r_op rfl (o_call (some 39) ⟨rfl, rfl⟩ tx97 rfl rfl (w_div a b (by omega) (by omega) (by omega)) (convL_cons (by first | exact conv_p _ | exact conv_nilP _ | exact conv_nil _ | exact conv_sl rfl | exact conv_nums rfl rfl rfl rfl (by rfl) (by rfl)) (convL_cons (by first | exact conv_p _ | exact conv_nilP _ | exact conv_nil _ | exact conv_sl rfl | exact conv_nums rfl rfl rfl rfl (by rfl) (by rfl)) convL_nil))) ?_
        refine r_op rfl (o_mv (some 36) ⟨rfl, rfl⟩ rfl (by exact (rfl : _ = AV.p _))) ?_
        refine r_op rfl (o_ext (some 40) ⟨rfl, rfl⟩ rfl rfl rfl) ?_
        refine r_op rfl (o_ext (some 41) ⟨rfl, rfl⟩ rfl rfl rfl) ?_
        refine r_op rfl (o_as (some 9) ⟨rfl, rfl⟩ rfl (by exact (rfl : _ = AV.p _))) ?_
        refine r_op rfl (o_as (some 10) ⟨rfl, rfl⟩ rfl (by exact (rfl : _ = AV.p _))) ?_
        refine r_end ?_
        refine s_n ?_
        refine r_reg ?_
        refine r_op rfl (o_mv (some 42) ⟨rfl, rfl⟩ rfl (by exact (rfl : _ = AV.p _))) ?_
        refine r_op rfl (o_mv (some 43) ⟨rfl, rfl⟩ rfl (by exact (rfl : _ = AV.p _))) ?_
        refine r_op rfl (o_as (some 0) ⟨rfl, rfl⟩ rfl (by exact (rfl : _ = AV.p _))) ?_
        refine r_op rfl (o_as (some 1) ⟨rfl, rfl⟩ rfl (by exact (rfl : _ = AV.p _))) ?_
        refine r_end ?_
        refine b_n ?_
        refine s_n ?_
        exact ⟨⟨(b, a % b), by rw [Nat.gcd_comm, ← Nat.gcd_rec]; rw [Nat.gcd_comm]; exact h1, h3, Nat.lt_of_le_of_lt (d9_mono (Nat.le_of_lt (Nat.mod_lt _ hb0))) h3⟩, Nat.mod_lt _ hb0, gh_st id (tlc (td_p rfl rfl) (tlc (td_p rfl rfl) tl0)) hp0 rfl⟩
    · try simp only [decide_eq_true_eq, decide_eq_false_iff_not, Nat.not_lt, Nat.not_le, Bool.and_eq_true, Bool.or_eq_true, Bool.and_eq_false_iff, Bool.or_eq_false_iff, Bool.not_eq_true', Bool.not_eq_false', beq_iff_eq, beq_eq_false_iff_ne, ne_eq, Decidable.not_not] at hc
      have hb0 : b = 0 := (d9_nil b).1 (by omega)
      subst hb0
      refine r_exit ?_
      refine s_exit ?_
      refine s_exit ?_
      refine b_here ?_
      refine s_n ?_
      refine r_seq ?_
      refine r_reg ?_
      refine r_op rfl (o_mv (some 44) ⟨rfl, rfl⟩ rfl (by exact (rfl : _ = AV.p _))) ?_
      refine r_op rfl (o_as (some 4) ⟨rfl, rfl⟩ rfl (by exact (rfl : _ = AV.p _))) ?_
      refine r_end ?_
      refine s_n ?_
      refine r_ret ?_
      refine ⟨.inl rfl, [nP (Nat.gcd x y)], rfl, ?_⟩
      exact resL_cons (res_tmp (conv_pe rfl (by rw [Nat.gcd_zero_right] at h1; rw [h1]))) (resL_nil)
end Vou
end

section
set_option linter.unusedVariables false
set_option linter.unusedSimpArgs false
/- Laws for the walks of the rational numbers. -/
namespace Vou
open Go Go.RowKit

section
variable {P : Program} {N : Nat} {o : Oper} {σ : ASt}
theorem o_zneg (d : Option Nat) (hd : DS N o d) {t : TypeId} {x : Operand} (ho : o.op = .unOp .neg t x) {m : Int} (hx : σ.look x = Z .i64 m) (h1 : -9223372036854775808 < m) (h2 : m < 9223372036854775808) : Ok P N o σ (σ.put d (Z .i64 (-m))) :=
  o_yl d hd (by have := yl_neg (P := P) (N := N) ho hx; rwa [wrap_i64' (by omega) (by omega), Int.zero_sub] at this)
theorem o_znegk (d : Option Nat) (hd : DS N o d) {t : TypeId} {x : Operand} (ho : o.op = .unOp .neg t x) {k : IntKind} {m r : Int} (hx : σ.look x = Z k m) (hr : k.wrap (0 - m) = r) : Ok P N o σ (σ.put d (Z k r)) :=
  o_yl d hd (by have := yl_neg (P := P) (N := N) ho hx; rwa [hr] at this)
theorem o_zconv (d : Option Nat) (hd : DS N o d) {src dst : TypeId} {x : Operand} (ho : o.op = .convert src dst x) {k k' : IntKind} {m r : Int} (hx : σ.look x = Z k m)
    {D : TypeDesc} {r0 r' : Nat × Nat × Option Value} (hs : tyOf P src = some (D, r0)) (hdt : tyOf P dst = some (.int k', r')) (hr : k'.wrap m = r) : Ok P N o σ (σ.put d (Z k' r)) :=
  o_yl d hd (by have := yl_convert_int (N := N) ho hx hs hdt; rwa [hr] at this)
end
theorem conv_q {σ : ASt} {b : Bool} {x1 x2 : AV} {r : Rat} (h0 : b = decide (r.num < 0)) (h1 : Conv σ x1 (nP r.num.natAbs)) (h2 : Conv σ x2 (nP (dn r.den))) : Conv σ (.agg [Bo b, x1, x2]) (qP r) := by
  subst h0
  exact conv_agg (convL_cons (conv_p _) (convL_cons h1 (convL_cons h2 convL_nil)))
theorem conv_s {σ : ASt} {b b' : Bool} {n : Nat} {x1 : AV} (h0 : b = b') (h1 : Conv σ x1 (nP n)) : Conv σ (.agg [Bo b, x1]) (sP b' n) := by
  subst h0
  exact conv_agg (convL_cons (conv_p _) (convL_cons h1 convL_nil))

theorem ratio_f (neg : Bool) {n d N D : Nat} (hd : 0 < d) (hN : n / Nat.gcd n d = N) (hD : d / Nat.gcd n d = D) :
    (mkRat (sg neg n) d).num.natAbs = N ∧ (mkRat (sg neg n) d).den = D ∧ (neg && decide (0 < (d9 N).length)) = decide ((mkRat (sg neg n) d).num < 0) := by
  have h1 := mk_natAbs (z := sg neg n) hd
  have h2 := mk_den (z := sg neg n) hd
  rw [sg_natAbs, hN] at h1
  rw [sg_natAbs, hD] at h2
  refine ⟨h1, h2, ?_⟩
  have h3 : (0 < (d9 N).length) ↔ 0 < n := by
    have := d9_nil N
    have hg : 0 < Nat.gcd n d := Nat.gcd_pos_of_pos_right _ hd
    constructor
    · intro h
      rcases Nat.eq_zero_or_pos n with h0 | h0
      · subst h0; rw [Nat.zero_div] at hN; omega
      · exact h0
    · intro h
      have : 0 < N := by rw [← hN]; exact Nat.div_pos (Nat.le_of_dvd h (Nat.gcd_dvd_left _ _)) hg
      omega
  rw [Bool.eq_iff_iff]
  simp only [Bool.and_eq_true, decide_eq_true_iff]
  rw [h3, mk_neg hd, sg_neg]

theorem dn_of {d : Nat} (h : d = 1) : nP (dn d) = nP 0 := by rw [h]; rfl
theorem conv_dn1 {σ : ASt} {d : Nat} (h : d = 1) : Conv σ (.p (.v (.slice none 0 0))) (nP (dn d)) := by
  rw [dn_of h]; exact conv_n0
theorem conv_dn {σ : ASt} {d D : Nat} (e : d = D) (h : D ≠ 1) : Conv σ (.p (nP D)) (nP (dn d)) := conv_pe rfl (by rw [e, dn_ne h])
theorem qden_pos (r : Rat) : 0 < r.den := Nat.pos_of_ne_zero r.den_nz
theorem sign_neg {z : Int} (h : z < 0) : z.sign = -1 := Int.sign_eq_neg_one_of_neg h
theorem sign_pos' {z : Int} (h : ¬ z < 0) (h2 : 0 < (d9 z.natAbs).length) : z.sign = 1 := by
  have := d9_nil z.natAbs
  exact Int.sign_eq_one_of_pos (by omega)
theorem sign_zero' {z : Int} (h : ¬ z < 0) (h2 : ¬ 0 < (d9 z.natAbs).length) : z.sign = 0 := by
  have := d9_nil z.natAbs
  have : z = 0 := by omega
  subst this; rfl

/-- What 'Cmp' returns. -/
def cmpQ (x y : Rat) : Int := if x < y then -1 else if y < x then 1 else 0
theorem cmpQ_sign {x y : Rat} (h : x.num.sign < y.num.sign) : cmpQ x y = -1 := by
  have : x < y := by
    rw [Rat.lt_iff]
    have hx := qden_pos x
    have hy := qden_pos y
    rcases Int.lt_trichotomy x.num 0 with h1 | h1 | h1 <;> rcases Int.lt_trichotomy y.num 0 with h2 | h2 | h2
    · rw [sign_neg h1, sign_neg h2] at h; omega
    · rw [h2, Int.zero_mul]; exact Int.mul_neg_of_neg_of_pos h1 (by omega)
    · exact Int.lt_trans (Int.mul_neg_of_neg_of_pos h1 (by omega)) (Int.mul_pos h2 (by omega))
    · rw [h1, sign_neg h2] at h; simp at h
    · rw [h1, h2] at h; simp at h
    · rw [h1, Int.zero_mul]; exact Int.mul_pos h2 (by omega)
    · rw [Int.sign_eq_one_of_pos h1, sign_neg h2] at h; omega
    · rw [Int.sign_eq_one_of_pos h1, h2] at h; simp at h
    · rw [Int.sign_eq_one_of_pos h1, Int.sign_eq_one_of_pos h2] at h; omega
  simp [cmpQ, this]
theorem cmpQ_anti (x y : Rat) : cmpQ y x = - cmpQ x y := by
  unfold cmpQ
  by_cases h1 : x < y
  · have h2 : ¬ y < x := fun h => by
      rw [Rat.lt_iff] at h h1
      omega
    simp [h1, h2]
  · by_cases h2 : y < x
    · simp [h1, h2]
    · simp [h1, h2]
theorem cmpQ_int (x y : Rat) : cmpQ x y = if x.num * y.den < y.num * x.den then -1 else if y.num * x.den < x.num * y.den then 1 else 0 := by
  have e1 : x < y ↔ x.num * y.den < y.num * x.den := Rat.lt_iff x y
  have e2 : y < x ↔ y.num * x.den < x.num * y.den := Rat.lt_iff y x
  unfold cmpQ
  by_cases h1 : x < y
  · rw [if_pos h1, if_pos (e1.1 h1)]
  · rw [if_neg h1, if_neg (fun h => h1 (e1.2 h))]
    by_cases h2 : y < x
    · rw [if_pos h2, if_pos (e2.1 h2)]
    · rw [if_neg h2, if_neg (fun h => h2 (e2.2 h))]
theorem cmpQ_same {x y : Rat} (h : x.num.sign = y.num.sign) : cmpQ x y = if x.num < 0 then -(cmpI (x.num.natAbs * y.den) (y.num.natAbs * x.den)) else cmpI (x.num.natAbs * y.den) (y.num.natAbs * x.den) := by
  have hs : x.num < 0 ↔ y.num < 0 := by rw [← Int.sign_eq_neg_one_iff_neg, ← Int.sign_eq_neg_one_iff_neg, h]
  rw [cmpQ_int]
  unfold cmpI
  by_cases hn : x.num < 0
  · rw [if_pos hn]
    obtain ⟨a, ha⟩ : ∃ a : Nat, x.num = -(a : Int) := ⟨x.num.natAbs, by omega⟩
    obtain ⟨b, hb⟩ : ∃ b : Nat, y.num = -(b : Int) := ⟨y.num.natAbs, by have := hs.1 hn; omega⟩
    rw [ha, hb, Int.natAbs_neg, Int.natAbs_neg, Int.natAbs_natCast, Int.natAbs_natCast, Int.neg_mul, Int.neg_mul, ← Int.natCast_mul, ← Int.natCast_mul]
    generalize a * y.den = p
    generalize b * x.den = q
    by_cases h1 : p < q
    · rw [if_pos h1, if_neg (by omega), if_pos (by omega)]
      rfl
    · rw [if_neg h1]
      by_cases h2 : q < p
      · rw [if_pos h2, if_pos (by omega)]
      · rw [if_neg h2, if_neg (by omega), if_neg (by omega)]; rfl
  · rw [if_neg hn]
    obtain ⟨a, ha⟩ : ∃ a : Nat, x.num = (a : Int) := ⟨x.num.natAbs, by omega⟩
    obtain ⟨b, hb⟩ : ∃ b : Nat, y.num = (b : Int) := ⟨y.num.natAbs, by have := fun h => hn (hs.2 h); omega⟩
    rw [ha, hb, Int.natAbs_natCast, Int.natAbs_natCast, ← Int.natCast_mul, ← Int.natCast_mul]
    generalize a * y.den = p
    generalize b * x.den = q
    by_cases h1 : p < q
    · rw [if_pos h1, if_pos (by omega)]
    · rw [if_neg h1, if_neg (by omega)]
      by_cases h2 : q < p
      · rw [if_pos h2, if_pos (by omega)]
      · rw [if_neg h2, if_neg (by omega)]
end Vou
end

section
set_option linter.unusedVariables false
set_option linter.unusedSimpArgs false
namespace Vou
open Go Go.RowKit Go.Proofs.Tryz
theorem w_below (r : Rat) : FnP prog 94 [qP r] (packP [nP r.den]) := by
  have hdn := dn_len r.den_nz
  refine fnP_of (fn := f94) fn94 rfl (Nat.le_of_ble_eq_true rfl) ?_
  refine r_seq ?_
  refine r_reg ?_
  refine r_op rfl (o_box (some 1) ⟨rfl, rfl⟩ rfl 1 rfl rfl rfl rfl) ?_
  refine r_op rfl (o_as (some 2) ⟨rfl, rfl⟩ rfl (by exact (rfl : _ = AV.p _))) ?_
  refine r_end ?_
  refine s_n ?_
  refine r_seq ?_
  refine r_seq ?_
  refine r_reg ?_
  refine r_op rfl (o_fld (some 3) ⟨rfl, rfl⟩ rfl rfl rfl rfl ty26 fe26_2 ty24 rfl rfl) ?_
  refine r_op rfl (o_ld1 (some 4) ⟨rfl, rfl⟩ rfl rfl rfl rfl ty24 rfl rfl) ?_
  refine r_op rfl ((by first | exact o_lenN (some 5) ⟨rfl, rfl⟩ rfl rfl ty24 rfl | exact o_lenO (some 5) ⟨rfl, rfl⟩ rfl rfl rfl rfl ty24 | exact o_lenZ (some 5) ⟨rfl, rfl⟩ rfl rfl ty24 | exact o_lenP (some 5) ⟨rfl, rfl⟩ rfl rfl ty24 rfl)) ?_
  refine r_op rfl (o_eql (some 6) ⟨rfl, rfl⟩ rfl (by exact (rfl : _ = I _ 0)) rfl) ?_
  refine r_end ?_
  refine s_n ?_
  refine r_cond rfl (fun hc => ?_) (fun hc => ?_)
  · try simp only [decide_eq_true_eq, decide_eq_false_iff_not, Nat.not_lt, Nat.not_le, Bool.and_eq_true, Bool.or_eq_true, Bool.and_eq_false_iff, Bool.or_eq_false_iff, Bool.not_eq_true', Bool.not_eq_false', beq_iff_eq, beq_eq_false_iff_ne, ne_eq, Decidable.not_not] at hc
    refine r_seq ?_
    refine r_reg ?_
    refine r_op rfl (o_call (some 7) ⟨rfl, rfl⟩ tx86 rfl rfl w_one convL_nil) ?_
    refine r_op rfl (o_as (some 2) ⟨rfl, rfl⟩ rfl (by exact (rfl : _ = AV.p _))) ?_
    refine r_end ?_
    refine s_n ?_
    refine r_ret ?_
    refine s_ret ?_
    refine ⟨.inl rfl, [nP r.den], rfl, ?_⟩
    exact resL_cons (res_tmp (conv_pe rfl (by rw [hdn.1 hc]; rfl))) (resL_nil)
  · try simp only [decide_eq_true_eq, decide_eq_false_iff_not, Nat.not_lt, Nat.not_le, Bool.and_eq_true, Bool.or_eq_true, Bool.and_eq_false_iff, Bool.or_eq_false_iff, Bool.not_eq_true', Bool.not_eq_false', beq_iff_eq, beq_eq_false_iff_ne, ne_eq, Decidable.not_not] at hc
    refine r_skip ?_
    refine s_n ?_
    refine r_seq ?_
    refine r_reg ?_
    refine r_op rfl (o_fld (some 8) ⟨rfl, rfl⟩ rfl rfl rfl rfl ty26 fe26_2 ty24 rfl rfl) ?_
    refine r_op rfl (o_ld1 (some 9) ⟨rfl, rfl⟩ rfl rfl rfl rfl ty24 rfl rfl) ?_
    refine r_op rfl (o_as (some 2) ⟨rfl, rfl⟩ rfl (by first | exact (rfl : _ = I _ _) | exact (rfl : _ = AV.p _) | exact (rfl : _ = AV.ptr _ _) | exact (rfl : _ = AV.own _ _ _ _ _) | exact (rfl : _ = AV.agg _) | exact (rfl : _ = AV.fn _ _))) ?_
    refine r_end ?_
    refine s_n ?_
    refine r_ret ?_
    refine ⟨.inl rfl, [nP r.den], rfl, ?_⟩
    exact resL_cons (res_tmp (conv_pe rfl (by rw [dn_ne (fun h => hc (hdn.2 h))]))) (resL_nil)

theorem w_ratio (neg : Bool) (n d : Nat) (hd : 0 < d) (hn : (d9 n).length < 68719476736) (hdl : (d9 d).length < 68719476736) : FnP prog 95 [.v (.bool neg), nP n, nP d] (packP [qP (mkRat (sg neg n) d)]) := by
  have hg : 0 < Nat.gcd n d := Nat.gcd_pos_of_pos_right _ hd
  have hgl := d9_mono (Nat.gcd_le_right n hd)
  have h1l : (d9 1).length = 1 := by rw [d9_one]; rfl
  have hdd := d9_mono (Nat.div_le_self d (Nat.gcd n d))
  refine fnP_of (fn := f95) fn95 rfl (Nat.le_of_ble_eq_true rfl) ?_
  refine r_seq ?_
  refine r_reg ?_
  refine r_op rfl (o_alloc (some 6) ⟨rfl, rfl⟩ rfl 6 rfl rfl ty26 rfl rfl) ?_
  refine r_end ?_
  refine s_n ?_
  refine r_seq ?_
  refine r_seq ?_
  refine r_reg ?_
  refine r_op rfl (o_mv (some 8) ⟨rfl, rfl⟩ rfl (by first | exact (rfl : _ = I _ _) | exact (rfl : _ = AV.p _) | exact (rfl : _ = AV.ptr _ _) | exact (rfl : _ = AV.own _ _ _ _ _) | exact (rfl : _ = AV.agg _) | exact (rfl : _ = AV.fn _ _))) ?_
  refine r_op rfl (o_mv (some 9) ⟨rfl, rfl⟩ rfl (by first | exact (rfl : _ = I _ _) | exact (rfl : _ = AV.p _) | exact (rfl : _ = AV.ptr _ _) | exact (rfl : _ = AV.own _ _ _ _ _) | exact (rfl : _ = AV.agg _) | exact (rfl : _ = AV.fn _ _))) ?_
  refine r_op rfl (o_call (some 10) ⟨rfl, rfl⟩ tx87 rfl rfl (w_gcd n d hn hdl) (convL_cons (by first | exact conv_p _ | exact conv_nilP _ | exact conv_nil _ | exact conv_sl rfl | exact conv_nums rfl rfl rfl rfl (by rfl) (by rfl)) (convL_cons (by first | exact conv_p _ | exact conv_nilP _ | exact conv_nil _ | exact conv_sl rfl | exact conv_nums rfl rfl rfl rfl (by rfl) (by rfl)) convL_nil))) ?_
  refine r_op rfl (o_as (some 7) ⟨rfl, rfl⟩ rfl (by exact (rfl : _ = AV.p _))) ?_
  refine r_end ?_
  refine s_n ?_
  refine r_seq ?_
  refine r_reg ?_
  refine r_op rfl (o_mv (some 11) ⟨rfl, rfl⟩ rfl (by exact (rfl : _ = AV.p _))) ?_
  refine r_op rfl (o_call (some 12) ⟨rfl, rfl⟩ tx86 rfl rfl w_one convL_nil) ?_
  refine r_op rfl (o_call (some 13) ⟨rfl, rfl⟩ tx85 rfl rfl (w_cmp (Nat.gcd n d) 1 (by omega) (by omega)) (convL_cons (by first | exact conv_p _ | exact conv_nilP _ | exact conv_nil _ | exact conv_sl rfl | exact conv_nums rfl rfl rfl rfl (by rfl) (by rfl)) (convL_cons (by first | exact conv_p _ | exact conv_nilP _ | exact conv_nil _ | exact conv_sl rfl | exact conv_nums rfl rfl rfl rfl (by rfl) (by rfl)) convL_nil))) ?_
  refine r_op rfl (o_zneq (some 14) ⟨rfl, rfl⟩ (by exact (rfl : _ = Z _ _)) (by exact (rfl : _ = Z _ (0))) rfl) ?_
  refine r_end ?_
  refine s_n ?_
  refine r_cond rfl (fun hc => ?_) (fun hc => ?_)
  · try simp only [decide_eq_true_eq, decide_eq_false_iff_not, Nat.not_lt, Nat.not_le, Bool.and_eq_true, Bool.or_eq_true, Bool.and_eq_false_iff, Bool.or_eq_false_iff, Bool.not_eq_true', Bool.not_eq_false', beq_iff_eq, beq_eq_false_iff_ne, ne_eq, Decidable.not_not] at hc
    obtain ⟨f1, f2, f3⟩ := ratio_f neg (n := n) (d := d) (N := n / Nat.gcd n d) (D := d / Nat.gcd n d) hd rfl rfl
    have hDl := hdd
    refine r_seq ?_
    refine r_reg ?_
    refine r_op rfl (o_mv (some 16) ⟨rfl, rfl⟩ rfl (by first | exact (rfl : _ = I _ _) | exact (rfl : _ = AV.p _) | exact (rfl : _ = AV.ptr _ _) | exact (rfl : _ = AV.own _ _ _ _ _) | exact (rfl : _ = AV.agg _) | exact (rfl : _ = AV.fn _ _))) ?_
    refine r_op rfl (o_mv (some 17) ⟨rfl, rfl⟩ rfl (by exact (rfl : _ = AV.p _))) ?_
    refine r_op rfl (o_call (some 18) ⟨rfl, rfl⟩ tx97 rfl rfl (w_div n (Nat.gcd n d) hg hn (by omega)) (convL_cons (by first | exact conv_p _ | exact conv_nilP _ | exact conv_nil _ | exact conv_sl rfl | exact conv_nums rfl rfl rfl rfl (by rfl) (by rfl)) (convL_cons (by first | exact conv_p _ | exact conv_nilP _ | exact conv_nil _ | exact conv_sl rfl | exact conv_nums rfl rfl rfl rfl (by rfl) (by rfl)) convL_nil))) ?_
    refine r_op rfl (o_mv (some 15) ⟨rfl, rfl⟩ rfl (by exact (rfl : _ = AV.p _))) ?_
    refine r_op rfl (o_ext (some 19) ⟨rfl, rfl⟩ rfl rfl rfl) ?_
    refine r_op rfl (o_ext (some 20) ⟨rfl, rfl⟩ rfl rfl rfl) ?_
    refine r_op rfl (o_as (some 1) ⟨rfl, rfl⟩ rfl (by exact (rfl : _ = AV.p _))) ?_
    refine r_end ?_
    refine s_n ?_
    refine r_reg ?_
    refine r_op rfl (o_mv (some 22) ⟨rfl, rfl⟩ rfl (by first | exact (rfl : _ = I _ _) | exact (rfl : _ = AV.p _) | exact (rfl : _ = AV.ptr _ _) | exact (rfl : _ = AV.own _ _ _ _ _) | exact (rfl : _ = AV.agg _) | exact (rfl : _ = AV.fn _ _))) ?_
    refine r_op rfl (o_mv (some 23) ⟨rfl, rfl⟩ rfl (by exact (rfl : _ = AV.p _))) ?_
    refine r_op rfl (o_call (some 24) ⟨rfl, rfl⟩ tx97 rfl rfl (w_div d (Nat.gcd n d) hg hdl (by omega)) (convL_cons (by first | exact conv_p _ | exact conv_nilP _ | exact conv_nil _ | exact conv_sl rfl | exact conv_nums rfl rfl rfl rfl (by rfl) (by rfl)) (convL_cons (by first | exact conv_p _ | exact conv_nilP _ | exact conv_nil _ | exact conv_sl rfl | exact conv_nums rfl rfl rfl rfl (by rfl) (by rfl)) convL_nil))) ?_
    refine r_op rfl (o_mv (some 21) ⟨rfl, rfl⟩ rfl (by exact (rfl : _ = AV.p _))) ?_
    refine r_op rfl (o_ext (some 25) ⟨rfl, rfl⟩ rfl rfl rfl) ?_
    refine r_op rfl (o_ext (some 26) ⟨rfl, rfl⟩ rfl rfl rfl) ?_
    refine r_op rfl (o_as (some 2) ⟨rfl, rfl⟩ rfl (by exact (rfl : _ = AV.p _))) ?_
    refine r_end ?_
    refine s_n ?_
    refine r_seq ?_
    refine r_seq ?_
    refine r_reg ?_
    refine r_op rfl (o_mv (some 27) ⟨rfl, rfl⟩ rfl (by exact (rfl : _ = AV.p _))) ?_
    refine r_op rfl (o_call (some 28) ⟨rfl, rfl⟩ tx86 rfl rfl w_one convL_nil) ?_
    refine r_op rfl (o_call (some 29) ⟨rfl, rfl⟩ tx85 rfl rfl (w_cmp (d / Nat.gcd n d) 1 (by omega) (by omega)) (convL_cons (by first | exact conv_p _ | exact conv_nilP _ | exact conv_nil _ | exact conv_sl rfl | exact conv_nums rfl rfl rfl rfl (by rfl) (by rfl)) (convL_cons (by first | exact conv_p _ | exact conv_nilP _ | exact conv_nil _ | exact conv_sl rfl | exact conv_nums rfl rfl rfl rfl (by rfl) (by rfl)) convL_nil))) ?_
    refine r_op rfl (o_zeql (some 30) ⟨rfl, rfl⟩ (by exact (rfl : _ = Z _ _)) (by exact (rfl : _ = Z _ (0))) rfl) ?_
    refine r_end ?_
    refine s_n ?_
    refine r_cond rfl (fun hc_1 => ?_) (fun hc_1 => ?_)
    · try simp only [decide_eq_true_eq, decide_eq_false_iff_not, Nat.not_lt, Nat.not_le, Bool.and_eq_true, Bool.or_eq_true, Bool.and_eq_false_iff, Bool.or_eq_false_iff, Bool.not_eq_true', Bool.not_eq_false', beq_iff_eq, beq_eq_false_iff_ne, ne_eq, Decidable.not_not] at hc_1
      refine r_reg ?_
      refine r_op rfl (o_as (some 2) ⟨rfl, rfl⟩ rfl (by exact (rfl : _ = AV.p _))) ?_
      refine r_end ?_
      refine s_n ?_
      refine r_seq ?_
      refine r_reg ?_
      refine r_op rfl (o_mv (some 31) ⟨rfl, rfl⟩ rfl (by first | exact (rfl : _ = I _ _) | exact (rfl : _ = AV.p _) | exact (rfl : _ = AV.ptr _ _) | exact (rfl : _ = AV.own _ _ _ _ _) | exact (rfl : _ = AV.agg _) | exact (rfl : _ = AV.fn _ _))) ?_
      refine r_op rfl (o_mv (some 32) ⟨rfl, rfl⟩ rfl (by first | exact (rfl : _ = I _ _) | exact (rfl : _ = AV.p _) | exact (rfl : _ = AV.ptr _ _) | exact (rfl : _ = AV.own _ _ _ _ _) | exact (rfl : _ = AV.agg _) | exact (rfl : _ = AV.fn _ _))) ?_
      refine r_gd (d := some 33) rfl rfl rfl rfl ⟨rfl, rfl⟩ (fun hb => o_mv (some 33) ⟨rfl, rfl⟩ rfl (by exact (rfl : _ = AV.p _))) ?_
      refine r_gd (d := some 34) rfl rfl rfl rfl ⟨rfl, rfl⟩ (fun hb => (by first | exact o_lenN (some 34) ⟨rfl, rfl⟩ rfl (by exact gd hb) ty24 rfl | exact o_lenO (some 34) ⟨rfl, rfl⟩ rfl (by exact gd hb) rfl rfl ty24 | exact o_lenZ (some 34) ⟨rfl, rfl⟩ rfl (by exact gd hb) ty24 | exact o_lenP (some 34) ⟨rfl, rfl⟩ rfl (by exact gd hb) ty24 rfl)) ?_
      refine r_gd (d := some 35) rfl rfl rfl rfl ⟨rfl, rfl⟩ (fun hb => o_gtr (some 35) ⟨rfl, rfl⟩ (by exact gd hb) (by exact (rfl : _ = I _ 0)) rfl) ?_
      refine r_op rfl (o_and (some 36) ⟨rfl, rfl⟩ rfl rfl rfl rfl) ?_
      refine r_op rfl (o_mv (some 37) ⟨rfl, rfl⟩ rfl (by exact (rfl : _ = AV.p _))) ?_
      refine r_op rfl (o_mv (some 38) ⟨rfl, rfl⟩ rfl (by exact (rfl : _ = AV.p _))) ?_
      refine r_op rfl (o_bld (some 39) ⟨rfl, rfl⟩ rfl ty26 pl26 rfl rfl) ?_
      refine r_op rfl (o_stA rfl rfl rfl rfl rfl rfl ty26 rfl rfl rfl rfl rfl) ?_
      refine r_end ?_
      refine s_n ?_
      refine r_ret ?_
      refine ⟨.inl rfl, [qP (mkRat (sg neg n) d)], rfl, ?_⟩
      exact resL_cons (res_cell rfl rfl rfl ty26 rfl (Nat.le_of_ble_eq_true rfl) (conv_q f3 (conv_pe rfl (by rw [f1])) (conv_dn1 (f2.trans (cmpI_zero.1 hc_1))))) (resL_nil)
    · try simp only [decide_eq_true_eq, decide_eq_false_iff_not, Nat.not_lt, Nat.not_le, Bool.and_eq_true, Bool.or_eq_true, Bool.and_eq_false_iff, Bool.or_eq_false_iff, Bool.not_eq_true', Bool.not_eq_false', beq_iff_eq, beq_eq_false_iff_ne, ne_eq, Decidable.not_not] at hc_1
      refine r_skip ?_
      refine s_n ?_
      refine r_seq ?_
      refine r_reg ?_
      refine r_op rfl (o_mv (some 31) ⟨rfl, rfl⟩ rfl (by first | exact (rfl : _ = I _ _) | exact (rfl : _ = AV.p _) | exact (rfl : _ = AV.ptr _ _) | exact (rfl : _ = AV.own _ _ _ _ _) | exact (rfl : _ = AV.agg _) | exact (rfl : _ = AV.fn _ _))) ?_
      refine r_op rfl (o_mv (some 32) ⟨rfl, rfl⟩ rfl (by first | exact (rfl : _ = I _ _) | exact (rfl : _ = AV.p _) | exact (rfl : _ = AV.ptr _ _) | exact (rfl : _ = AV.own _ _ _ _ _) | exact (rfl : _ = AV.agg _) | exact (rfl : _ = AV.fn _ _))) ?_
      refine r_gd (d := some 33) rfl rfl rfl rfl ⟨rfl, rfl⟩ (fun hb => o_mv (some 33) ⟨rfl, rfl⟩ rfl (by exact (rfl : _ = AV.p _))) ?_
      refine r_gd (d := some 34) rfl rfl rfl rfl ⟨rfl, rfl⟩ (fun hb => (by first | exact o_lenN (some 34) ⟨rfl, rfl⟩ rfl (by exact gd hb) ty24 rfl | exact o_lenO (some 34) ⟨rfl, rfl⟩ rfl (by exact gd hb) rfl rfl ty24 | exact o_lenZ (some 34) ⟨rfl, rfl⟩ rfl (by exact gd hb) ty24 | exact o_lenP (some 34) ⟨rfl, rfl⟩ rfl (by exact gd hb) ty24 rfl)) ?_
      refine r_gd (d := some 35) rfl rfl rfl rfl ⟨rfl, rfl⟩ (fun hb => o_gtr (some 35) ⟨rfl, rfl⟩ (by exact gd hb) (by exact (rfl : _ = I _ 0)) rfl) ?_
      refine r_op rfl (o_and (some 36) ⟨rfl, rfl⟩ rfl rfl rfl rfl) ?_
      refine r_op rfl (o_mv (some 37) ⟨rfl, rfl⟩ rfl (by exact (rfl : _ = AV.p _))) ?_
      refine r_op rfl (o_mv (some 38) ⟨rfl, rfl⟩ rfl (by exact (rfl : _ = AV.p _))) ?_
      refine r_op rfl (o_bld (some 39) ⟨rfl, rfl⟩ rfl ty26 pl26 rfl rfl) ?_
      refine r_op rfl (o_stA rfl rfl rfl rfl rfl rfl ty26 rfl rfl rfl rfl rfl) ?_
      refine r_end ?_
      refine s_n ?_
      refine r_ret ?_
      refine ⟨.inl rfl, [qP (mkRat (sg neg n) d)], rfl, ?_⟩
      exact resL_cons (res_cell rfl rfl rfl ty26 rfl (Nat.le_of_ble_eq_true rfl) (conv_q f3 (conv_pe rfl (by rw [f1])) (conv_dn f2 (fun h => hc_1 (cmpI_zero.2 h))))) (resL_nil)
  · try simp only [decide_eq_true_eq, decide_eq_false_iff_not, Nat.not_lt, Nat.not_le, Bool.and_eq_true, Bool.or_eq_true, Bool.and_eq_false_iff, Bool.or_eq_false_iff, Bool.not_eq_true', Bool.not_eq_false', beq_iff_eq, beq_eq_false_iff_ne, ne_eq, Decidable.not_not] at hc
    have hg1 : Nat.gcd n d = 1 := cmpI_zero.1 hc
    obtain ⟨f1, f2, f3⟩ := ratio_f neg (n := n) (d := d) (N := n) (D := d) hd (by rw [hg1, Nat.div_one]) (by rw [hg1, Nat.div_one])
    have hDl := hdl
    refine r_skip ?_
    refine s_n ?_
    refine r_seq ?_
    refine r_seq ?_
    refine r_reg ?_
    refine r_op rfl (o_mv (some 27) ⟨rfl, rfl⟩ rfl (by first | exact (rfl : _ = I _ _) | exact (rfl : _ = AV.p _) | exact (rfl : _ = AV.ptr _ _) | exact (rfl : _ = AV.own _ _ _ _ _) | exact (rfl : _ = AV.agg _) | exact (rfl : _ = AV.fn _ _))) ?_
    refine r_op rfl (o_call (some 28) ⟨rfl, rfl⟩ tx86 rfl rfl w_one convL_nil) ?_
    refine r_op rfl (o_call (some 29) ⟨rfl, rfl⟩ tx85 rfl rfl (w_cmp d 1 (by omega) (by omega)) (convL_cons (by first | exact conv_p _ | exact conv_nilP _ | exact conv_nil _ | exact conv_sl rfl | exact conv_nums rfl rfl rfl rfl (by rfl) (by rfl)) (convL_cons (by first | exact conv_p _ | exact conv_nilP _ | exact conv_nil _ | exact conv_sl rfl | exact conv_nums rfl rfl rfl rfl (by rfl) (by rfl)) convL_nil))) ?_
    refine r_op rfl (o_zeql (some 30) ⟨rfl, rfl⟩ (by exact (rfl : _ = Z _ _)) (by exact (rfl : _ = Z _ (0))) rfl) ?_
    refine r_end ?_
    refine s_n ?_
    refine r_cond rfl (fun hc_2 => ?_) (fun hc_2 => ?_)
    · try simp only [decide_eq_true_eq, decide_eq_false_iff_not, Nat.not_lt, Nat.not_le, Bool.and_eq_true, Bool.or_eq_true, Bool.and_eq_false_iff, Bool.or_eq_false_iff, Bool.not_eq_true', Bool.not_eq_false', beq_iff_eq, beq_eq_false_iff_ne, ne_eq, Decidable.not_not] at hc_2
      refine r_reg ?_
      refine r_op rfl (o_as (some 2) ⟨rfl, rfl⟩ rfl (by exact (rfl : _ = AV.p _))) ?_
      refine r_end ?_
      refine s_n ?_
      refine r_seq ?_
      refine r_reg ?_
      refine r_op rfl (o_mv (some 31) ⟨rfl, rfl⟩ rfl (by first | exact (rfl : _ = I _ _) | exact (rfl : _ = AV.p _) | exact (rfl : _ = AV.ptr _ _) | exact (rfl : _ = AV.own _ _ _ _ _) | exact (rfl : _ = AV.agg _) | exact (rfl : _ = AV.fn _ _))) ?_
      refine r_op rfl (o_mv (some 32) ⟨rfl, rfl⟩ rfl (by first | exact (rfl : _ = I _ _) | exact (rfl : _ = AV.p _) | exact (rfl : _ = AV.ptr _ _) | exact (rfl : _ = AV.own _ _ _ _ _) | exact (rfl : _ = AV.agg _) | exact (rfl : _ = AV.fn _ _))) ?_
      refine r_gd (d := some 33) rfl rfl rfl rfl ⟨rfl, rfl⟩ (fun hb => o_mv (some 33) ⟨rfl, rfl⟩ rfl (by first | exact (rfl : _ = I _ _) | exact (rfl : _ = AV.p _) | exact (rfl : _ = AV.ptr _ _) | exact (rfl : _ = AV.own _ _ _ _ _) | exact (rfl : _ = AV.agg _) | exact (rfl : _ = AV.fn _ _))) ?_
      refine r_gd (d := some 34) rfl rfl rfl rfl ⟨rfl, rfl⟩ (fun hb => (by first | exact o_lenN (some 34) ⟨rfl, rfl⟩ rfl (by exact gd hb) ty24 rfl | exact o_lenO (some 34) ⟨rfl, rfl⟩ rfl (by exact gd hb) rfl rfl ty24 | exact o_lenZ (some 34) ⟨rfl, rfl⟩ rfl (by exact gd hb) ty24 | exact o_lenP (some 34) ⟨rfl, rfl⟩ rfl (by exact gd hb) ty24 rfl)) ?_
      refine r_gd (d := some 35) rfl rfl rfl rfl ⟨rfl, rfl⟩ (fun hb => o_gtr (some 35) ⟨rfl, rfl⟩ (by exact gd hb) (by exact (rfl : _ = I _ 0)) rfl) ?_
      refine r_op rfl (o_and (some 36) ⟨rfl, rfl⟩ rfl rfl rfl rfl) ?_
      refine r_op rfl (o_mv (some 37) ⟨rfl, rfl⟩ rfl (by first | exact (rfl : _ = I _ _) | exact (rfl : _ = AV.p _) | exact (rfl : _ = AV.ptr _ _) | exact (rfl : _ = AV.own _ _ _ _ _) | exact (rfl : _ = AV.agg _) | exact (rfl : _ = AV.fn _ _))) ?_
      refine r_op rfl (o_mv (some 38) ⟨rfl, rfl⟩ rfl (by exact (rfl : _ = AV.p _))) ?_
      refine r_op rfl (o_bld (some 39) ⟨rfl, rfl⟩ rfl ty26 pl26 rfl rfl) ?_
      refine r_op rfl (o_stA rfl rfl rfl rfl rfl rfl ty26 rfl rfl rfl rfl rfl) ?_
      refine r_end ?_
      refine s_n ?_
      refine r_ret ?_
      refine ⟨.inl rfl, [qP (mkRat (sg neg n) d)], rfl, ?_⟩
      exact resL_cons (res_cell rfl rfl rfl ty26 rfl (Nat.le_of_ble_eq_true rfl) (conv_q f3 (conv_pe rfl (by rw [f1])) (conv_dn1 (f2.trans (cmpI_zero.1 hc_2))))) (resL_nil)
    · try simp only [decide_eq_true_eq, decide_eq_false_iff_not, Nat.not_lt, Nat.not_le, Bool.and_eq_true, Bool.or_eq_true, Bool.and_eq_false_iff, Bool.or_eq_false_iff, Bool.not_eq_true', Bool.not_eq_false', beq_iff_eq, beq_eq_false_iff_ne, ne_eq, Decidable.not_not] at hc_2
      refine r_skip ?_
      refine s_n ?_
      refine r_seq ?_
      refine r_reg ?_
      refine r_op rfl (o_mv (some 31) ⟨rfl, rfl⟩ rfl (by first | exact (rfl : _ = I _ _) | exact (rfl : _ = AV.p _) | exact (rfl : _ = AV.ptr _ _) | exact (rfl : _ = AV.own _ _ _ _ _) | exact (rfl : _ = AV.agg _) | exact (rfl : _ = AV.fn _ _))) ?_
      refine r_op rfl (o_mv (some 32) ⟨rfl, rfl⟩ rfl (by first | exact (rfl : _ = I _ _) | exact (rfl : _ = AV.p _) | exact (rfl : _ = AV.ptr _ _) | exact (rfl : _ = AV.own _ _ _ _ _) | exact (rfl : _ = AV.agg _) | exact (rfl : _ = AV.fn _ _))) ?_
      refine r_gd (d := some 33) rfl rfl rfl rfl ⟨rfl, rfl⟩ (fun hb => o_mv (some 33) ⟨rfl, rfl⟩ rfl (by first | exact (rfl : _ = I _ _) | exact (rfl : _ = AV.p _) | exact (rfl : _ = AV.ptr _ _) | exact (rfl : _ = AV.own _ _ _ _ _) | exact (rfl : _ = AV.agg _) | exact (rfl : _ = AV.fn _ _))) ?_
      refine r_gd (d := some 34) rfl rfl rfl rfl ⟨rfl, rfl⟩ (fun hb => (by first | exact o_lenN (some 34) ⟨rfl, rfl⟩ rfl (by exact gd hb) ty24 rfl | exact o_lenO (some 34) ⟨rfl, rfl⟩ rfl (by exact gd hb) rfl rfl ty24 | exact o_lenZ (some 34) ⟨rfl, rfl⟩ rfl (by exact gd hb) ty24 | exact o_lenP (some 34) ⟨rfl, rfl⟩ rfl (by exact gd hb) ty24 rfl)) ?_
      refine r_gd (d := some 35) rfl rfl rfl rfl ⟨rfl, rfl⟩ (fun hb => o_gtr (some 35) ⟨rfl, rfl⟩ (by exact gd hb) (by exact (rfl : _ = I _ 0)) rfl) ?_
      refine r_op rfl (o_and (some 36) ⟨rfl, rfl⟩ rfl rfl rfl rfl) ?_
      refine r_op rfl (o_mv (some 37) ⟨rfl, rfl⟩ rfl (by first | exact (rfl : _ = I _ _) | exact (rfl : _ = AV.p _) | exact (rfl : _ = AV.ptr _ _) | exact (rfl : _ = AV.own _ _ _ _ _) | exact (rfl : _ = AV.agg _) | exact (rfl : _ = AV.fn _ _))) ?_
      refine r_op rfl (o_mv (some 38) ⟨rfl, rfl⟩ rfl (by first | exact (rfl : _ = I _ _) | exact (rfl : _ = AV.p _) | exact (rfl : _ = AV.ptr _ _) | exact (rfl : _ = AV.own _ _ _ _ _) | exact (rfl : _ = AV.agg _) | exact (rfl : _ = AV.fn _ _))) ?_
      refine r_op rfl (o_bld (some 39) ⟨rfl, rfl⟩ rfl ty26 pl26 rfl rfl) ?_
      refine r_op rfl (o_stA rfl rfl rfl rfl rfl rfl ty26 rfl rfl rfl rfl rfl) ?_
      refine r_end ?_
      refine s_n ?_
      refine r_ret ?_
      refine ⟨.inl rfl, [qP (mkRat (sg neg n) d)], rfl, ?_⟩
      exact resL_cons (res_cell rfl rfl rfl ty26 rfl (Nat.le_of_ble_eq_true rfl) (conv_q f3 (conv_pe rfl (by rw [f1])) (conv_dn f2 (fun h => hc_2 (cmpI_zero.2 h))))) (resL_nil)
end Vou
end

section
set_option linter.unusedVariables false
set_option linter.unusedSimpArgs false
/- More of the rational numbers: what the operations return. -/
namespace Vou
open Go Go.RowKit

theorem plusF_1 {na nb : Bool} {a b : Nat} (h : na = nb) : plusF na a nb b = (na, a + b) := by rw [plusF, if_pos h]
theorem plusF_2 {na nb : Bool} {a b : Nat} (h : ¬ na = nb) (h2 : 0 ≤ cmpI a b) : plusF na a nb b = (na, a - b) := by
  have : b ≤ a := by
    rcases Nat.lt_or_ge a b with h3 | h3
    · rw [cmpI_lt h3] at h2; omega
    · exact h3
  rw [plusF, if_neg h, if_pos this]
theorem plusF_3 {na nb : Bool} {a b : Nat} (h : ¬ na = nb) (h2 : ¬ 0 ≤ cmpI a b) : plusF na a nb b = (nb, b - a) := by
  have := cmpI_neg (x := a) (y := b)
  rw [plusF, if_neg h, if_neg (by omega)]
theorem cmpI_ge {a b : Nat} (h : 0 ≤ cmpI a b) : b ≤ a := by
  rcases Nat.lt_or_ge a b with h3 | h3
  · rw [cmpI_lt h3] at h; omega
  · exact h3
theorem cmpI_nge {a b : Nat} (h : ¬ 0 ≤ cmpI a b) : a ≤ b := by
  have := cmpI_neg (x := a) (y := b)
  omega
theorem cmpI_lim (x y : Nat) : -9223372036854775808 < cmpI x y ∧ cmpI x y < 9223372036854775808 := by
  unfold cmpI
  split
  · decide
  · split <;> decide

theorem sg_dec {neg : Bool} {n : Nat} {z : Int} (h : sg neg n = z) : (neg && decide (0 < (d9 n).length)) = decide (z < 0) ∧ n = z.natAbs := by
  subst h
  refine ⟨?_, (sg_natAbs neg n).symm⟩
  rw [Bool.eq_iff_iff]
  simp only [Bool.and_eq_true, decide_eq_true_iff]
  rw [sg_neg]
  have := d9_nil n
  constructor
  · rintro ⟨h1, h2⟩; exact ⟨h1, by omega⟩
  · rintro ⟨h1, h2⟩; exact ⟨h1, by omega⟩

theorem plus_dec {x y : Rat} (hx : (d9 (dn x.den)).length = 0) (hy : (d9 (dn y.den)).length = 0) : sg (plusF (decide (x.num < 0)) x.num.natAbs (decide (y.num < 0)) y.num.natAbs).1 (plusF (decide (x.num < 0)) x.num.natAbs (decide (y.num < 0)) y.num.natAbs).2 = (x + y).num ∧ (x + y).den = 1 := by
  have h := q_add_int x y ((dn_len x.den_nz).1 hx) ((dn_len y.den_nz).1 hy)
  rw [plusF_sg, sg_self, sg_self, h.1, h.2]
  exact ⟨rfl, rfl⟩
theorem times_dec {x y : Rat} (hx : (d9 (dn x.den)).length = 0) (hy : (d9 (dn y.den)).length = 0) : sg (decide (x.num < 0) != decide (y.num < 0)) (x.num.natAbs * y.num.natAbs) = (x * y).num ∧ (x * y).den = 1 := by
  have h := q_mul_int x y ((dn_len x.den_nz).1 hx) ((dn_len y.den_nz).1 hy)
  rw [sg_mul, sg_self, sg_self, h.1, h.2]
  exact ⟨rfl, rfl⟩
theorem conv_q0 {σ : ASt} : Conv σ (.agg [Bo false, .p (.v (.slice none 0 0)), .p (.v (.slice none 0 0))]) (qP 0) := conv_q (by decide) conv_n0 conv_n0
theorem conv_qz {σ : ASt} {r : Rat} (h : r = 0) : Conv σ (.agg [Bo false, .p (.v (.slice none 0 0)), .p (.v (.slice none 0 0))]) (qP r) := by subst h; exact conv_q0
theorem conv_qe {σ : ASt} {r r' : Rat} (h : r' = r) : Conv σ (.agg [Bo (decide (r'.num < 0)), .p (nP r'.num.natAbs), .p (nP (dn r'.den))]) (qP r) := by subst h; exact conv_q rfl (conv_p _) (conv_p _)
theorem num0_of {r : Rat} (h : (d9 r.num.natAbs).length = 0) : r = 0 := (q_num0 r).1 ((d9_nil _).1 h)

def qabs (x : Rat) : Rat := if x.num < 0 then -x else x
theorem qabs_num (x : Rat) : (qabs x).num = (x.num.natAbs : Int) ∧ (qabs x).den = x.den := by
  unfold qabs
  split
  · rw [Rat.neg_num, Rat.neg_den]; exact ⟨by omega, rfl⟩
  · exact ⟨by omega, rfl⟩
theorem neg_dec (x : Rat) : (!(decide (x.num < 0)) && decide (0 < (d9 x.num.natAbs).length)) = decide ((-x).num < 0) := by
  rw [Rat.neg_num, Bool.eq_iff_iff]
  simp only [Bool.and_eq_true, decide_eq_true_iff, Bool.not_eq_true', decide_eq_false_iff_not]
  have := d9_nil x.num.natAbs
  omega
theorem neg_num_abs (x : Rat) : (-x).num.natAbs = x.num.natAbs := by rw [Rat.neg_num, Int.natAbs_neg]

/-! ### Integers -/
theorem rat_int (z : Int) : ((z : Rat).num = z) ∧ ((z : Rat).den = 1) := ⟨rfl, rfl⟩
theorem floor_int {x : Rat} (h : x.den = 1) : ((x.floor : Int) : Rat) = x := by
  rw [Rat.floor, if_pos h]
  exact Rat.ext rfl h.symm
theorem floor_pos {x : Rat} (h : ¬ x.den = 1) (hn : ¬ x.num < 0) : x.floor = ((x.num.natAbs / x.den : Nat) : Int) := by
  rw [Rat.floor, if_neg h, Int.natCast_ediv]
  congr 1
  omega
theorem floor_neg {x : Rat} (h : ¬ x.den = 1) (hn : x.num < 0) : x.floor = -((x.num.natAbs / x.den + 1 : Nat) : Int) := by
  rw [Rat.floor, if_neg h]
  have hd := qden_pos x
  obtain ⟨a, ha⟩ : ∃ a : Nat, x.num.natAbs = a := ⟨_, rfl⟩
  have hz : x.num = -(a : Int) := by omega
  have hr : 0 < a % x.den := by
    rcases Nat.eq_zero_or_pos (a % x.den) with h0 | h0
    · exfalso
      have h1 := x.reduced
      rw [ha] at h1
      have h2 : x.den ∣ a := Nat.dvd_of_mod_eq_zero h0
      have h3 : Nat.gcd a x.den = x.den := Nat.gcd_eq_right h2
      have h4 : Nat.gcd a x.den = 1 := h1
      omega
    · exact h0
  have hlt := Nat.mod_lt a hd
  have he := Nat.div_add_mod a x.den
  rw [ha, hz]
  have key : -(a : Int) / (x.den : Int) = -((a / x.den + 1 : Nat) : Int) ∧ -(a : Int) % (x.den : Int) = ((x.den - a % x.den : Nat) : Int) := by
    refine (Int.ediv_emod_unique (by omega)).2 ⟨?_, by omega, by omega⟩
    have : (x.den : Int) * ((a / x.den : Nat) : Int) = ((x.den * (a / x.den) : Nat) : Int) := by rw [Int.natCast_mul]
    have e1 : ((x.den - a % x.den : Nat) : Int) = (x.den : Int) - ((a % x.den : Nat) : Int) := by omega
    rw [e1, Int.mul_neg, Int.natCast_add, Int.mul_add, this]
    generalize x.den * (a / x.den) = p at *
    generalize a % x.den = q at *
    simp only [Int.natCast_one, Int.mul_one]
    omega
  exact key.1
theorem q_of_int {z : Int} : qP (z : Rat) = .agg [.v (.bool (decide (z < 0))), nP z.natAbs, nP 0] := rfl

theorem wrap_mag {z : Int} (h1 : -9223372036854775808 ≤ z) (h2 : z < 0) : IntKind.u64.wrap z = z + 18446744073709551616 := by
  rw [IntKind.wrap_u64]; omega
theorem wrap_mag2 {z : Int} (h1 : -9223372036854775808 ≤ z) (h2 : z < 0) : IntKind.u64.wrap (0 - (z + 18446744073709551616)) = ((z.natAbs : Nat) : Int) := by
  rw [IntKind.wrap_u64]; omega
theorem wrap_mag3 {z : Int} (h1 : ¬ z < 0) (h2 : z < 9223372036854775808) : IntKind.u64.wrap z = ((z.natAbs : Nat) : Int) := by
  rw [IntKind.wrap_u64]; omega
/-- A fraction of two integers. -/
theorem of_frac {a b : Int} (hb : b ≠ 0) : mkRat (sg (decide (a < 0) != decide (b < 0)) a.natAbs) b.natAbs = (a : Rat) / (b : Rat) := by
  have h := q_div (a : Rat) (b : Rat) (fun h => hb (by have := congrArg Rat.num h; simpa using this))
  have h' : mkRat (sg (decide (a < 0) != decide (b < 0)) (a.natAbs * 1)) (1 * b.natAbs) = (a : Rat) / (b : Rat) := h
  rwa [Nat.mul_one, Nat.one_mul] at h'
theorem div_zero' (x : Rat) : x / 0 = 0 := by rw [Rat.div_def, Rat.inv_zero, Rat.mul_zero]
theorem dec_neg1 (n : Nat) : decide (-((n + 1 : Nat) : Int) < 0) = true := decide_eq_true (by omega)
theorem dec_nat (n : Nat) : decide ((n : Int) < 0) = false := decide_eq_false (by omega)
end Vou
end
