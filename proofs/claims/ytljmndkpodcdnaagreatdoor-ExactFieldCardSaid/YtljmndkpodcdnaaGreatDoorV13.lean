/- A part of the proof: walks of what the laws share; from a contract to a row. It holds without conditions. -/
import Derived.Test.YtljmndkpodcdnaaGreatDoorV12
import Derived.Test.YtljmndkpodcdnaaGreatDoorV11
import Derived.Test.YtljmndkpodcdnaaGreatDoorV3
import Derived.Stop.LaidErr
import Derived.Test.YtljmndkpodcdnaaGreatDoorRows
import Derived.Test.YtljmndkpodcdnaaGreatDoorTie
import Derived.HandedShaped
import Derived.ProofKit
import Derived.Lay
import Derived.Shelf.Vars
import Derived.Lib.LaidTab

section
set_option linter.unusedVariables false
set_option linter.unusedSimpArgs false
namespace Vou
open Go Go.RowKit Go.Proofs.Tryz
theorem kn_of : FnP prog 48 [.v (.int .i64 6), .v (.int .i64 (-4))] (packP [qP (mkRat (-3) 2), .v (.int .i64 0)]) := by
  have h := w_of 6 (-4) (by decide) (by decide) (by decide) (by decide)
  rw [show (((6 : Int) : Rat) / ((-4 : Int) : Rat)) = mkRat (-3) 2 from k1, if_neg (by decide)] at h
  exact h
theorem kn_read : FnP prog 15 [.v (.string ⟨#[54, 47, 52]⟩)] (packP [qP 0, .v (.int .i64 4)]) := by
  have h := w_read ⟨#[54, 47, 52]⟩
  rw [readR, k11] at h
  exact h
theorem kn_int (z : Int) (h : z.natAbs < 1000) : FnP prog 27 [.v (.int .i64 z)] (packP [qP (zQ z)]) := w_int z (by omega) (by omega)
theorem kn_t32 : FnP prog 18 [qP (mkRat (-3) 2)] (packP [.v (.string ⟨#[45, 51, 47, 50]⟩)]) := by
  have h := w_qtext (mkRat (-3) 2) (Nat.lt_of_le_of_lt qh_32 (by decide))
  rw [t1] at h
  exact h
theorem kn_tz (z : Int) (t : List UInt8) (h : z.natAbs < 10) (e : (if z < 0 then [45] else []) ++ [UInt8.ofNat (48 + z.natAbs)] = t) : FnP prog 18 [qP (zQ z)] (packP [.v (.string ⟨t.toArray⟩)]) := by
  have k := w_qtext (zQ z) (Nat.lt_of_le_of_lt (qh_z z (by omega)) (by decide))
  rw [tz z h, e] at k
  exact k
theorem kn_fl : FnP prog 30 [qP (mkRat (-3) 2)] (packP [qP (zQ (-2))]) := by
  have h := w_floor (mkRat (-3) 2) (Nat.lt_of_le_of_lt qh_32 (by decide))
  rw [k2] at h
  exact h
theorem kn_ce : FnP prog 31 [qP (mkRat (-3) 2)] (packP [qP (zQ (-1))]) := by
  have h := w_ceil (mkRat (-3) 2) (Nat.lt_of_le_of_lt qh_32 (by decide))
  rw [k2c] at h
  exact h
theorem zb (z : Int) {B : Nat} (hB : 3 < B) (h : z.natAbs < 1000) : qh (zQ z) < B := Nat.lt_of_le_of_lt (qh_z z (by omega)) hB
theorem kn_bt1 : FnP prog 43 [qP (zQ 2), qP (zQ (-1))] (packP [spP (zQ (-1), zQ 2)]) := by
  have h := w_between (zQ 2) (zQ (-1)) (zb _ (by decide) (by decide)) (zb _ (by decide) (by decide))
  rw [k3] at h
  exact h
theorem kn_bt2 : FnP prog 43 [qP (zQ 3), qP (zQ 4)] (packP [spP (zQ 3, zQ 4)]) := by
  have h := w_between (zQ 3) (zQ 4) (zb _ (by decide) (by decide)) (zb _ (by decide) (by decide))
  rw [k3b] at h
  exact h
theorem kn_bt3 : FnP prog 43 [qP (zQ 0), qP (zQ 3)] (packP [spP (zQ 0, zQ 3)]) := by
  have h := w_between (zQ 0) (zQ 3) (zb _ (by decide) (by decide)) (zb _ (by decide) (by decide))
  rw [k3c] at h
  exact h
theorem kn_times : FnP prog 66 [spP (zQ (-1), zQ 2), spP (zQ 3, zQ 4)] (packP [spP (zQ (-4), zQ 8)]) := by
  have h := w_Stimes (zQ (-1), zQ 2) (zQ 3, zQ 4) (spB_z _ _ (by decide) (by decide) (by decide)) (spB_z _ _ (by decide) (by decide) (by decide))
  rw [k6] at h
  exact h
theorem kn_sq : FnP prog 67 [spP (zQ (-1), zQ 2)] (packP [spP (zQ 0, zQ 4)]) := by
  have h := w_square (zQ (-1), zQ 2) (spB_z _ _ (by decide) (by decide) (by decide))
  rw [k5] at h
  exact h
theorem kn_quad : FnP prog 41 [qP (zQ 1), qP (zQ (-2)), qP (zQ 0), spP (zQ 0, zQ 3)] (packP [spP (zQ (-1), zQ 3)]) := by
  have h := w_quad (zQ 1) (zQ (-2)) (zQ 0) (zb _ (by decide) (by decide)) (zb _ (by decide) (by decide)) (zb _ (by decide) (by decide)) (zQ 0, zQ 3) (spB_z _ _ (by decide) (by decide) (by decide))
  rw [k4] at h
  exact h

theorem w_long (l : List ByteArray) (hn : l.length < 1099511627776) : FnP prog 19 [sL l] (packP [.v (.bool (longF l))]) := by
  refine fnP_of (fn := f19) fn19 rfl (Nat.le_of_ble_eq_true rfl) ?_
  refine r_seq ?_
  refine r_reg ?_
  refine r_op rfl (o_as (some 2) ⟨rfl, rfl⟩ rfl (by exact (rfl : _ = AV.p _))) ?_
  refine r_end ?_
  refine s_n ?_
  refine r_seq ?_
  refine r_seq ?_
  refine r_reg ?_
  refine r_op rfl (o_as (some 3) ⟨rfl, rfl⟩ rfl (by exact (rfl : _ = I _ 0))) ?_
  refine r_end ?_
  refine s_n ?_
  refine r_block ?_
  refine r_loop (ι := { i : Nat // i ≤ l.length ∧ ∀ s ∈ l.take i, s.size ≤ 120 }) (fun p => stL [(0, .p (sL l)), (3, I .i64 ((p.1)))] []) (fun p => l.length - p.1) (⟨0, Nat.zero_le _, by intro s hs; cases hs⟩) ?_ (fun i_ => ?_)
  · exact gh_st id (tlc (td_p rfl rfl) (tlc (td_I rfl rfl) tl0)) hp0 rfl
  · obtain ⟨i, h1, h2⟩ := i_
    change Tr _ _ _ (stL [(0, .p (sL l)), (3, I .i64 ((i)))] []) _
    refine r_seq ?_
    refine r_seq ?_
    refine r_reg ?_
    refine r_op rfl (o_mv (some 4) ⟨rfl, rfl⟩ rfl (by exact (rfl : _ = I _ _))) ?_
    refine r_op rfl (o_mv (some 5) ⟨rfl, rfl⟩ rfl (by exact (rfl : _ = AV.p _))) ?_
    refine r_op rfl ((by first | exact o_lenN (some 6) ⟨rfl, rfl⟩ rfl rfl ty67 rfl | exact o_lenO (some 6) ⟨rfl, rfl⟩ rfl rfl rfl rfl ty67 | exact o_lenZ (some 6) ⟨rfl, rfl⟩ rfl rfl ty67 | exact o_lenP (some 6) ⟨rfl, rfl⟩ rfl rfl ty67 rfl)) ?_
    refine r_op rfl (o_lss (some 7) ⟨rfl, rfl⟩ rfl rfl rfl) ?_
    refine r_end ?_
    refine s_n ?_
    refine r_cond rfl (fun hc => ?_) (fun hc => ?_)
    · try simp only [decide_eq_true_eq, decide_eq_false_iff_not, Nat.not_lt, Nat.not_le, Bool.and_eq_true, Bool.or_eq_true, Bool.and_eq_false_iff, Bool.or_eq_false_iff, Bool.not_eq_true', Bool.not_eq_false', beq_iff_eq, beq_eq_false_iff_ne, ne_eq, Decidable.not_not] at hc
      rw [List.length_map] at hc
      refine r_skip ?_
      refine s_n ?_
      refine r_seq ?_
      refine r_block ?_
      refine r_seq ?_
      refine r_reg ?_
      refine r_op rfl (o_mv (some 10) ⟨rfl, rfl⟩ rfl (by exact (rfl : _ = AV.p _))) ?_
      refine r_op rfl (o_mv (some 11) ⟨rfl, rfl⟩ rfl (by exact (rfl : _ = I _ _))) ?_
      refine r_op rfl (o_ixP (some 12) ⟨rfl, rfl⟩ rfl rfl rfl ty67 ty9 (by exact sL_get l hc) rfl) ?_
      refine r_op rfl (o_ldc (some 13) ⟨rfl, rfl⟩ rfl rfl ty9 rfl) ?_
      refine r_op rfl (o_lenS (some 14) ⟨rfl, rfl⟩ rfl rfl ty9) ?_
      refine r_op rfl (o_gtr (some 15) ⟨rfl, rfl⟩ rfl (by exact (rfl : _ = I _ 120)) rfl) ?_
      refine r_end ?_
      refine s_n ?_
      refine r_cond rfl (fun hc_1 => ?_) (fun hc_1 => ?_)
      · try simp only [decide_eq_true_eq, decide_eq_false_iff_not, Nat.not_lt, Nat.not_le, Bool.and_eq_true, Bool.or_eq_true, Bool.and_eq_false_iff, Bool.or_eq_false_iff, Bool.not_eq_true', Bool.not_eq_false', beq_iff_eq, beq_eq_false_iff_ne, ne_eq, Decidable.not_not] at hc_1
        refine r_seq ?_
        refine r_reg ?_
        refine r_op rfl (o_as (some 2) ⟨rfl, rfl⟩ rfl (by exact (rfl : _ = AV.p _))) ?_
        refine r_end ?_
        refine s_n ?_
        refine r_ret ?_
        refine b_ret ?_
        refine s_ret ?_
        refine s_ret ?_
        refine b_ret ?_
        refine s_ret ?_
        refine ⟨.inl rfl, [.v (.bool (longF l))], rfl, ?_⟩
        exact resL_cons (res_tmp (conv_pe rfl (by rw [long_yes l hc hc_1]))) (resL_nil)
      · try simp only [decide_eq_true_eq, decide_eq_false_iff_not, Nat.not_lt, Nat.not_le, Bool.and_eq_true, Bool.or_eq_true, Bool.and_eq_false_iff, Bool.or_eq_false_iff, Bool.not_eq_true', Bool.not_eq_false', beq_iff_eq, beq_eq_false_iff_ne, ne_eq, Decidable.not_not] at hc_1
        refine r_skip ?_
        refine b_n ?_
        refine s_n ?_
        refine r_reg ?_
        refine r_op rfl (o_mv (some 8) ⟨rfl, rfl⟩ rfl (by exact (rfl : _ = I _ _))) ?_
        refine r_op rfl (o_add (some 9) ⟨rfl, rfl⟩ rfl (by exact (rfl : _ = I _ 1)) rfl (by first | (simp only [lim]; omega) | omega | (simp only [List.length_set]; omega) | (simp at hb; omega))) ?_
        refine r_op rfl (o_as (some 3) ⟨rfl, rfl⟩ rfl (by exact (rfl : _ = I _ _))) ?_
        refine r_end ?_
        refine s_n ?_
        exact ⟨⟨i + 1, by omega, long_step l hc h2 (by omega)⟩, by show l.length - (i + 1) < l.length - i; omega, gh_st id (tlc (td_p rfl rfl) (tlc (td_I rfl rfl) tl0)) hp0 rfl⟩
    · try simp only [decide_eq_true_eq, decide_eq_false_iff_not, Nat.not_lt, Nat.not_le, Bool.and_eq_true, Bool.or_eq_true, Bool.and_eq_false_iff, Bool.or_eq_false_iff, Bool.not_eq_true', Bool.not_eq_false', beq_iff_eq, beq_eq_false_iff_ne, ne_eq, Decidable.not_not] at hc
      rw [List.length_map] at hc
      refine r_exit ?_
      refine s_exit ?_
      refine s_exit ?_
      refine b_here ?_
      refine s_n ?_
      refine r_seq ?_
      refine r_reg ?_
      refine r_op rfl (o_as (some 2) ⟨rfl, rfl⟩ rfl (by exact (rfl : _ = AV.p _))) ?_
      refine r_end ?_
      refine s_n ?_
      refine r_ret ?_
      refine ⟨.inl rfl, [.v (.bool (longF l))], rfl, ?_⟩
      exact resL_cons (res_tmp (conv_pe rfl (by rw [long_no l (i := i) (by omega) h2]))) (resL_nil)

theorem w_number (s : ByteArray) : FnP prog 20 [.v (.string s)] (packP [qP (readF s).1]) := by
  refine fnP_of (fn := f20) fn20 rfl (Nat.le_of_ble_eq_true rfl) ?_
  refine r_seq ?_
  refine r_reg ?_
  refine r_op rfl (o_alloc (some 2) ⟨rfl, rfl⟩ rfl 2 rfl rfl ty26 rfl rfl) ?_
  refine r_end ?_
  refine s_n ?_
  refine r_seq ?_
  refine r_reg ?_
  refine r_op rfl (o_mv (some 6) ⟨rfl, rfl⟩ rfl (by first | exact (rfl : _ = I _ _) | exact (rfl : _ = AV.p _) | exact (rfl : _ = AV.ptr _ _) | exact (rfl : _ = AV.own _ _ _ _ _) | exact (rfl : _ = AV.agg _) | exact (rfl : _ = AV.fn _ _))) ?_
  refine r_op rfl (o_call (some 7) ⟨rfl, rfl⟩ tx15 rfl rfl (w_read s) (convL_cons (conv_p _) convL_nil)) ?_
  refine r_op rfl (o_mv (some 5) ⟨rfl, rfl⟩ rfl (by exact (rfl : _ = AV.p _))) ?_
  refine r_op rfl (o_ext (some 8) ⟨rfl, rfl⟩ rfl rfl rfl) ?_
  refine r_op rfl (o_ext (some 9) ⟨rfl, rfl⟩ rfl rfl rfl) ?_
  refine r_op rfl (o_alloc (some 3) ⟨rfl, rfl⟩ rfl 3 rfl rfl ty26 rfl rfl) ?_
  refine r_op rfl (o_stA rfl rfl rfl rfl rfl rfl ty26 rfl rfl rfl rfl rfl) ?_
  refine r_op rfl (o_as (some 4) ⟨rfl, rfl⟩ rfl (by exact (rfl : _ = AV.p _))) ?_
  refine r_end ?_
  refine s_n ?_
  refine r_seq ?_
  refine r_reg ?_
  refine r_op rfl (o_ldA (some 10) ⟨rfl, rfl⟩ rfl rfl rfl rfl ty26 rfl rfl rfl) ?_
  refine r_op rfl (o_stA rfl rfl rfl rfl rfl rfl ty26 rfl rfl rfl rfl rfl) ?_
  refine r_end ?_
  refine s_n ?_
  refine r_ret ?_
  refine ⟨.inl rfl, [qP (readF s).1], rfl, ?_⟩
  exact resL_cons (res_cell rfl rfl rfl ty26 rfl (Nat.le_of_ble_eq_true rfl) (by first | exact conv_p _ | exact conv_q0 | exact conv_agg (convL_cons (by first | exact conv_p _ | exact conv_nilP _ | exact conv_nil _ | exact conv_sl rfl | exact conv_nums rfl rfl rfl rfl (by rfl) (by rfl)) (convL_cons (by first | exact conv_p _ | exact conv_nilP _ | exact conv_nil _ | exact conv_sl rfl | exact conv_nums rfl rfl rfl rfl (by rfl) (by rfl)) (convL_cons (by first | exact conv_p _ | exact conv_nilP _ | exact conv_nil _ | exact conv_sl rfl | exact conv_nums rfl rfl rfl rfl (by rfl) (by rfl)) convL_nil))))) (resL_nil)

theorem w_equal (x y : Rat) (hx : qh x < 1000000) (hy : qh y < 1000000) : FnP prog 21 [qP x, qP y] (packP [.v (.bool (decide (x = y)))]) := by
  refine fnP_of (fn := f21) fn21 rfl (Nat.le_of_ble_eq_true rfl) ?_
  refine r_seq ?_
  refine r_reg ?_
  refine r_op rfl (o_box (some 2) ⟨rfl, rfl⟩ rfl 2 rfl rfl rfl rfl) ?_
  refine r_op rfl (o_box (some 3) ⟨rfl, rfl⟩ rfl 3 rfl rfl rfl rfl) ?_
  refine r_op rfl (o_as (some 4) ⟨rfl, rfl⟩ rfl (by exact (rfl : _ = AV.p _))) ?_
  refine r_end ?_
  refine s_n ?_
  refine r_seq ?_
  refine r_drawn mixed ?_
  refine d_op [2] [2, 3] rfl rfl (fun s hs => o_ldA (some 5) ⟨rfl, rfl⟩ rfl (by exact (hs.1 2 rfl).trans (rfl)) (by exact (hs.2.1 _ rfl).trans rfl) rfl ty26 rfl rfl rfl) ?_
  refine d_op [3] [2, 3] rfl rfl (fun s hs => o_ldA (some 6) ⟨rfl, rfl⟩ rfl (by exact (hs.1 3 rfl).trans (rfl)) (by exact (hs.2.1 _ rfl).trans rfl) rfl ty26 rfl rfl rfl) ?_
  refine d_op [5, 6] [2, 3] rfl rfl (fun s hs => o_call (some 7) ⟨rfl, rfl⟩ tx29 rfl rfl (w_cmpq x y (by omega) (by omega)) (convL_cons (conv_e (hs.1 5 rfl) (by first | exact conv_p _ | exact conv_q0 | exact conv_agg (convL_cons (by first | exact conv_p _ | exact conv_nilP _ | exact conv_nil _ | exact conv_sl rfl | exact conv_nums (by exact (hs.2.1 _ rfl).trans rfl) rfl rfl rfl (by rfl) (by rfl)) (convL_cons (by first | exact conv_p _ | exact conv_nilP _ | exact conv_nil _ | exact conv_sl rfl | exact conv_nums (by exact (hs.2.1 _ rfl).trans rfl) rfl rfl rfl (by rfl) (by rfl)) (convL_cons (by first | exact conv_p _ | exact conv_nilP _ | exact conv_nil _ | exact conv_sl rfl | exact conv_nums (by exact (hs.2.1 _ rfl).trans rfl) rfl rfl rfl (by rfl) (by rfl)) convL_nil))))) (convL_cons (conv_e (hs.1 6 rfl) (by first | exact conv_p _ | exact conv_q0 | exact conv_agg (convL_cons (by first | exact conv_p _ | exact conv_nilP _ | exact conv_nil _ | exact conv_sl rfl | exact conv_nums (by exact (hs.2.1 _ rfl).trans rfl) rfl rfl rfl (by rfl) (by rfl)) (convL_cons (by first | exact conv_p _ | exact conv_nilP _ | exact conv_nil _ | exact conv_sl rfl | exact conv_nums (by exact (hs.2.1 _ rfl).trans rfl) rfl rfl rfl (by rfl) (by rfl)) (convL_cons (by first | exact conv_p _ | exact conv_nilP _ | exact conv_nil _ | exact conv_sl rfl | exact conv_nums (by exact (hs.2.1 _ rfl).trans rfl) rfl rfl rfl (by rfl) (by rfl)) convL_nil))))) convL_nil))) ?_
  refine d_op [7] [] rfl rfl (fun s hs => o_zeql (some 8) ⟨rfl, rfl⟩ (by exact ((hs.1 7 rfl).trans (rfl) : _ = Z _ _)) (by exact (rfl : _ = Z _ (0))) rfl) ?_
  refine d_op [8] [] rfl rfl (fun s hs => o_mv (some 9) ⟨rfl, rfl⟩ rfl (by exact ((hs.1 8 rfl).trans (rfl) : _ = Bo _))) ?_
  refine d_gd [2, 9] [2, 3] (d := some 10) rfl rfl rfl rfl rfl rfl ⟨rfl, rfl⟩ (fun s hs hb => o_ldA (some 10) ⟨rfl, rfl⟩ rfl (by exact (hs.1 2 rfl).trans (rfl)) (by exact (hs.2.1 _ rfl).trans rfl) rfl ty26 rfl rfl rfl) ?_
  refine d_gd [9, 10] [2, 3] (d := some 11) rfl rfl rfl rfl rfl rfl ⟨rfl, rfl⟩ (fun s hs hb => o_call (some 11) ⟨rfl, rfl⟩ tx18 rfl rfl (w_qtext x hx) (convL_cons (conv_e (hs.1 10 rfl) (conv_gd hb (by first | exact conv_p _ | exact conv_q0 | exact conv_agg (convL_cons (by first | exact conv_p _ | exact conv_nilP _ | exact conv_nil _ | exact conv_sl rfl | exact conv_nums (by exact (hs.2.1 _ rfl).trans rfl) rfl rfl rfl (by rfl) (by rfl)) (convL_cons (by first | exact conv_p _ | exact conv_nilP _ | exact conv_nil _ | exact conv_sl rfl | exact conv_nums (by exact (hs.2.1 _ rfl).trans rfl) rfl rfl rfl (by rfl) (by rfl)) (convL_cons (by first | exact conv_p _ | exact conv_nilP _ | exact conv_nil _ | exact conv_sl rfl | exact conv_nums (by exact (hs.2.1 _ rfl).trans rfl) rfl rfl rfl (by rfl) (by rfl)) convL_nil)))))) convL_nil)) ?_
  refine d_gd [3, 9] [2, 3] (d := some 12) rfl rfl rfl rfl rfl rfl ⟨rfl, rfl⟩ (fun s hs hb => o_ldA (some 12) ⟨rfl, rfl⟩ rfl (by exact (hs.1 3 rfl).trans (rfl)) (by exact (hs.2.1 _ rfl).trans rfl) rfl ty26 rfl rfl rfl) ?_
  refine d_gd [9, 12] [2, 3] (d := some 13) rfl rfl rfl rfl rfl rfl ⟨rfl, rfl⟩ (fun s hs hb => o_call (some 13) ⟨rfl, rfl⟩ tx18 rfl rfl (w_qtext y hy) (convL_cons (conv_e (hs.1 12 rfl) (conv_gd hb (by first | exact conv_p _ | exact conv_q0 | exact conv_agg (convL_cons (by first | exact conv_p _ | exact conv_nilP _ | exact conv_nil _ | exact conv_sl rfl | exact conv_nums (by exact (hs.2.1 _ rfl).trans rfl) rfl rfl rfl (by rfl) (by rfl)) (convL_cons (by first | exact conv_p _ | exact conv_nilP _ | exact conv_nil _ | exact conv_sl rfl | exact conv_nums (by exact (hs.2.1 _ rfl).trans rfl) rfl rfl rfl (by rfl) (by rfl)) (convL_cons (by first | exact conv_p _ | exact conv_nilP _ | exact conv_nil _ | exact conv_sl rfl | exact conv_nums (by exact (hs.2.1 _ rfl).trans rfl) rfl rfl rfl (by rfl) (by rfl)) convL_nil)))))) convL_nil)) ?_
  refine d_gd [9, 11, 13] [] (d := some 14) rfl rfl rfl rfl rfl rfl ⟨rfl, rfl⟩ (fun s hs hb => o_seql (some 14) ⟨rfl, rfl⟩ (by exact (hs.1 11 rfl).trans (gd hb)) (by exact (hs.1 13 rfl).trans (gd hb)) rfl) ?_
  refine d_op [9, 14] [] rfl rfl (fun s hs => o_and (some 15) ⟨rfl, rfl⟩ rfl (by exact (hs.1 9 rfl).trans (rfl)) (by exact (hs.1 14 rfl).trans (rfl)) rfl) ?_
  refine d_op [15] [] rfl rfl (fun s hs => o_as (some 4) ⟨rfl, rfl⟩ rfl (by exact ((hs.1 15 rfl).trans (rfl) : _ = Bo _))) ?_
  refine d_end ⟨rfl, ?_⟩
  refine s_n ?_
  refine r_ret ?_
  refine ⟨.inl rfl, [.v (.bool (decide (x = y)))], rfl, ?_⟩
  exact resL_cons (res_tmp (conv_pe rfl (by rw [eq_dec]))) (resL_nil)

theorem w_known  : FnP prog 14 [] (packP [.v (.bool true)]) := by
  refine fnP_of (fn := f14) fn14 rfl (Nat.le_of_ble_eq_true rfl) ?_
  refine r_seq ?_
  refine r_reg ?_
  refine r_op rfl (o_as (some 0) ⟨rfl, rfl⟩ rfl (by exact (rfl : _ = AV.p _))) ?_
  refine r_end ?_
  refine s_n ?_
  refine r_seq ?_
  refine r_reg ?_
  refine r_op rfl (o_call (some 9) ⟨rfl, rfl⟩ tx48 rfl rfl kn_of (convL_cons (conv_p _) (convL_cons (conv_p _) convL_nil))) ?_
  refine r_op rfl (o_mv (some 8) ⟨rfl, rfl⟩ rfl (by exact (rfl : _ = AV.p _))) ?_
  refine r_op rfl (o_ext (some 10) ⟨rfl, rfl⟩ rfl rfl rfl) ?_
  refine r_op rfl (o_ext (some 11) ⟨rfl, rfl⟩ rfl rfl rfl) ?_
  refine r_op rfl (o_alloc (some 1) ⟨rfl, rfl⟩ rfl 1 rfl rfl ty26 rfl rfl) ?_
  refine r_op rfl (o_stA rfl rfl rfl rfl rfl rfl ty26 rfl rfl rfl rfl rfl) ?_
  refine r_op rfl (o_as (some 2) ⟨rfl, rfl⟩ rfl (by exact (rfl : _ = AV.p _))) ?_
  refine r_end ?_
  refine s_n ?_
  refine r_seq ?_
  refine r_reg ?_
  refine r_op rfl (o_call (some 13) ⟨rfl, rfl⟩ tx15 rfl rfl kn_read (convL_cons (conv_p _) convL_nil)) ?_
  refine r_op rfl (o_mv (some 12) ⟨rfl, rfl⟩ rfl (by exact (rfl : _ = AV.p _))) ?_
  refine r_op rfl (o_ext (some 14) ⟨rfl, rfl⟩ rfl rfl rfl) ?_
  refine r_op rfl (o_ext (some 15) ⟨rfl, rfl⟩ rfl rfl rfl) ?_
  refine r_op rfl (o_alloc (some 3) ⟨rfl, rfl⟩ rfl 3 rfl rfl ty26 rfl rfl) ?_
  refine r_op rfl (o_stA rfl rfl rfl rfl rfl rfl ty26 rfl rfl rfl rfl rfl) ?_
  refine r_op rfl (o_as (some 4) ⟨rfl, rfl⟩ rfl (by exact (rfl : _ = AV.p _))) ?_
  refine r_end ?_
  refine s_n ?_
  refine r_seq ?_
  refine r_seq ?_
  refine r_reg ?_
  refine r_op rfl (o_mv (some 16) ⟨rfl, rfl⟩ rfl (by exact (rfl : _ = AV.p _))) ?_
  refine r_op rfl (o_zneq (some 17) ⟨rfl, rfl⟩ (by exact (rfl : _ = Z _ _)) (by exact (rfl : _ = Z _ (0))) rfl) ?_
  refine r_op rfl (o_mv (some 18) ⟨rfl, rfl⟩ rfl (by exact (rfl : _ = Bo _))) ?_
  refine r_gd (d := some 19) rfl rfl rfl rfl ⟨rfl, rfl⟩ (fun hb => o_mv (some 19) ⟨rfl, rfl⟩ rfl (by exact (rfl : _ = AV.p _))) ?_
  refine r_gd (d := some 20) rfl rfl rfl rfl ⟨rfl, rfl⟩ (fun hb => o_zneq (some 20) ⟨rfl, rfl⟩ (by exact (gd hb : _ = Z _ _)) (by exact (rfl : _ = Z _ (4))) rfl) ?_
  refine r_op rfl (o_or (some 21) ⟨rfl, rfl⟩ rfl rfl rfl rfl) ?_
  refine r_op rfl (o_mv (some 22) ⟨rfl, rfl⟩ rfl (by exact (rfl : _ = Bo _))) ?_
  refine r_gd (d := some 23) rfl rfl rfl rfl ⟨rfl, rfl⟩ (fun hb => o_ldA (some 23) ⟨rfl, rfl⟩ rfl rfl rfl rfl ty26 rfl rfl rfl) ?_
  refine r_gd (d := some 24) rfl rfl rfl rfl ⟨rfl, rfl⟩ (fun hb => o_call (some 24) ⟨rfl, rfl⟩ tx18 rfl rfl kn_t32 (convL_cons (conv_gd hb (by first | exact conv_p _ | exact conv_q0 | exact conv_agg (convL_cons (by first | exact conv_p _ | exact conv_nilP _ | exact conv_nil _ | exact conv_sl rfl | exact conv_nums rfl rfl rfl rfl (by rfl) (by rfl)) (convL_cons (by first | exact conv_p _ | exact conv_nilP _ | exact conv_nil _ | exact conv_sl rfl | exact conv_nums rfl rfl rfl rfl (by rfl) (by rfl)) (convL_cons (by first | exact conv_p _ | exact conv_nilP _ | exact conv_nil _ | exact conv_sl rfl | exact conv_nums rfl rfl rfl rfl (by rfl) (by rfl)) convL_nil))))) convL_nil)) ?_
  refine r_gd (d := some 25) rfl rfl rfl rfl ⟨rfl, rfl⟩ (fun hb => o_sneq (some 25) ⟨rfl, rfl⟩ (by exact gd hb) rfl rfl) ?_
  refine r_op rfl (o_or (some 26) ⟨rfl, rfl⟩ rfl rfl rfl rfl) ?_
  refine r_op rfl (o_mv (some 27) ⟨rfl, rfl⟩ rfl (by exact (rfl : _ = Bo _))) ?_
  refine r_gd (d := some 28) rfl rfl rfl rfl ⟨rfl, rfl⟩ (fun hb => o_ldA (some 28) ⟨rfl, rfl⟩ rfl rfl rfl rfl ty26 rfl rfl rfl) ?_
  refine r_gd (d := some 29) rfl rfl rfl rfl ⟨rfl, rfl⟩ (fun hb => o_call (some 29) ⟨rfl, rfl⟩ tx30 rfl rfl kn_fl (convL_cons (conv_gd hb (by first | exact conv_p _ | exact conv_q0 | exact conv_agg (convL_cons (by first | exact conv_p _ | exact conv_nilP _ | exact conv_nil _ | exact conv_sl rfl | exact conv_nums rfl rfl rfl rfl (by rfl) (by rfl)) (convL_cons (by first | exact conv_p _ | exact conv_nilP _ | exact conv_nil _ | exact conv_sl rfl | exact conv_nums rfl rfl rfl rfl (by rfl) (by rfl)) (convL_cons (by first | exact conv_p _ | exact conv_nilP _ | exact conv_nil _ | exact conv_sl rfl | exact conv_nums rfl rfl rfl rfl (by rfl) (by rfl)) convL_nil))))) convL_nil)) ?_
  refine r_gd (d := some 30) rfl rfl rfl rfl ⟨rfl, rfl⟩ (fun hb => o_call (some 30) ⟨rfl, rfl⟩ tx18 rfl rfl (kn_tz (-2) [45, 50] (by decide) (by decide)) (convL_cons (conv_gd hb (by first | exact conv_p _ | exact conv_q0 | exact conv_agg (convL_cons (by first | exact conv_p _ | exact conv_nilP _ | exact conv_nil _ | exact conv_sl rfl | exact conv_nums rfl rfl rfl rfl (by rfl) (by rfl)) (convL_cons (by first | exact conv_p _ | exact conv_nilP _ | exact conv_nil _ | exact conv_sl rfl | exact conv_nums rfl rfl rfl rfl (by rfl) (by rfl)) (convL_cons (by first | exact conv_p _ | exact conv_nilP _ | exact conv_nil _ | exact conv_sl rfl | exact conv_nums rfl rfl rfl rfl (by rfl) (by rfl)) convL_nil))))) convL_nil)) ?_
  refine r_gd (d := some 31) rfl rfl rfl rfl ⟨rfl, rfl⟩ (fun hb => o_sneq (some 31) ⟨rfl, rfl⟩ (by exact gd hb) rfl rfl) ?_
  refine r_op rfl (o_or (some 32) ⟨rfl, rfl⟩ rfl rfl rfl rfl) ?_
  refine r_op rfl (o_mv (some 33) ⟨rfl, rfl⟩ rfl (by exact (rfl : _ = Bo _))) ?_
  refine r_gd (d := some 34) rfl rfl rfl rfl ⟨rfl, rfl⟩ (fun hb => o_ldA (some 34) ⟨rfl, rfl⟩ rfl rfl rfl rfl ty26 rfl rfl rfl) ?_
  refine r_gd (d := some 35) rfl rfl rfl rfl ⟨rfl, rfl⟩ (fun hb => o_call (some 35) ⟨rfl, rfl⟩ tx31 rfl rfl kn_ce (convL_cons (conv_gd hb (by first | exact conv_p _ | exact conv_q0 | exact conv_agg (convL_cons (by first | exact conv_p _ | exact conv_nilP _ | exact conv_nil _ | exact conv_sl rfl | exact conv_nums rfl rfl rfl rfl (by rfl) (by rfl)) (convL_cons (by first | exact conv_p _ | exact conv_nilP _ | exact conv_nil _ | exact conv_sl rfl | exact conv_nums rfl rfl rfl rfl (by rfl) (by rfl)) (convL_cons (by first | exact conv_p _ | exact conv_nilP _ | exact conv_nil _ | exact conv_sl rfl | exact conv_nums rfl rfl rfl rfl (by rfl) (by rfl)) convL_nil))))) convL_nil)) ?_
  refine r_gd (d := some 36) rfl rfl rfl rfl ⟨rfl, rfl⟩ (fun hb => o_call (some 36) ⟨rfl, rfl⟩ tx18 rfl rfl (kn_tz (-1) [45, 49] (by decide) (by decide)) (convL_cons (conv_gd hb (by first | exact conv_p _ | exact conv_q0 | exact conv_agg (convL_cons (by first | exact conv_p _ | exact conv_nilP _ | exact conv_nil _ | exact conv_sl rfl | exact conv_nums rfl rfl rfl rfl (by rfl) (by rfl)) (convL_cons (by first | exact conv_p _ | exact conv_nilP _ | exact conv_nil _ | exact conv_sl rfl | exact conv_nums rfl rfl rfl rfl (by rfl) (by rfl)) (convL_cons (by first | exact conv_p _ | exact conv_nilP _ | exact conv_nil _ | exact conv_sl rfl | exact conv_nums rfl rfl rfl rfl (by rfl) (by rfl)) convL_nil))))) convL_nil)) ?_
  refine r_gd (d := some 37) rfl rfl rfl rfl ⟨rfl, rfl⟩ (fun hb => o_sneq (some 37) ⟨rfl, rfl⟩ (by exact gd hb) rfl rfl) ?_
  refine r_op rfl (o_or (some 38) ⟨rfl, rfl⟩ rfl rfl rfl rfl) ?_
  refine r_end ?_
  refine s_n ?_
  refine r_cond rfl (fun hc => ?_) (fun hc => ?_)
  · skip
    simp at hc
  · skip
    refine r_skip ?_
    refine s_n ?_
    refine r_seq ?_
    refine r_reg ?_
    refine r_op rfl (o_call (some 39) ⟨rfl, rfl⟩ tx27 rfl rfl (kn_int 2 (by decide)) (convL_cons (conv_p _) convL_nil)) ?_
    refine r_op rfl (o_call (some 40) ⟨rfl, rfl⟩ tx27 rfl rfl (kn_int (-1) (by decide)) (convL_cons (conv_p _) convL_nil)) ?_
    refine r_op rfl (o_call (some 41) ⟨rfl, rfl⟩ tx43 rfl rfl kn_bt1 (convL_cons (by first | exact conv_p _ | exact conv_q0 | exact conv_agg (convL_cons (by first | exact conv_p _ | exact conv_nilP _ | exact conv_nil _ | exact conv_sl rfl | exact conv_nums rfl rfl rfl rfl (by rfl) (by rfl)) (convL_cons (by first | exact conv_p _ | exact conv_nilP _ | exact conv_nil _ | exact conv_sl rfl | exact conv_nums rfl rfl rfl rfl (by rfl) (by rfl)) (convL_cons (by first | exact conv_p _ | exact conv_nilP _ | exact conv_nil _ | exact conv_sl rfl | exact conv_nums rfl rfl rfl rfl (by rfl) (by rfl)) convL_nil)))) (convL_cons (by first | exact conv_p _ | exact conv_q0 | exact conv_agg (convL_cons (by first | exact conv_p _ | exact conv_nilP _ | exact conv_nil _ | exact conv_sl rfl | exact conv_nums rfl rfl rfl rfl (by rfl) (by rfl)) (convL_cons (by first | exact conv_p _ | exact conv_nilP _ | exact conv_nil _ | exact conv_sl rfl | exact conv_nums rfl rfl rfl rfl (by rfl) (by rfl)) (convL_cons (by first | exact conv_p _ | exact conv_nilP _ | exact conv_nil _ | exact conv_sl rfl | exact conv_nums rfl rfl rfl rfl (by rfl) (by rfl)) convL_nil)))) convL_nil))) ?_
    refine r_op rfl (o_alloc (some 5) ⟨rfl, rfl⟩ rfl 5 rfl rfl ty54 rfl rfl) ?_
    refine r_op rfl (o_stA rfl rfl rfl rfl rfl rfl ty54 rfl rfl rfl rfl rfl) ?_
    refine r_end ?_
    refine s_n ?_
    refine r_seq ?_
    refine r_drawn mixed ?_
    refine d_op [5] [1, 3, 5] rfl rfl (fun s hs => o_ldA (some 42) ⟨rfl, rfl⟩ rfl (by exact (hs.1 5 rfl).trans (rfl)) (by exact (hs.2.1 _ rfl).trans rfl) rfl ty54 rfl rfl rfl) ?_
    refine d_op [] [1, 3, 5] rfl rfl (fun s hs => o_call (some 43) ⟨rfl, rfl⟩ tx27 rfl rfl (kn_int 3 (by decide)) (convL_cons (conv_p _) convL_nil)) ?_
    refine d_op [] [1, 3, 5] rfl rfl (fun s hs => o_call (some 44) ⟨rfl, rfl⟩ tx27 rfl rfl (kn_int 4 (by decide)) (convL_cons (conv_p _) convL_nil)) ?_
    refine d_op [43, 44] [1, 3, 5] rfl rfl (fun s hs => o_call (some 45) ⟨rfl, rfl⟩ tx43 rfl rfl kn_bt2 (convL_cons (conv_e (hs.1 43 rfl) (by first | exact conv_p _ | exact conv_q0 | exact conv_agg (convL_cons (by first | exact conv_p _ | exact conv_nilP _ | exact conv_nil _ | exact conv_sl rfl | exact conv_nums (by exact (hs.2.1 _ rfl).trans rfl) rfl rfl rfl (by rfl) (by rfl)) (convL_cons (by first | exact conv_p _ | exact conv_nilP _ | exact conv_nil _ | exact conv_sl rfl | exact conv_nums (by exact (hs.2.1 _ rfl).trans rfl) rfl rfl rfl (by rfl) (by rfl)) (convL_cons (by first | exact conv_p _ | exact conv_nilP _ | exact conv_nil _ | exact conv_sl rfl | exact conv_nums (by exact (hs.2.1 _ rfl).trans rfl) rfl rfl rfl (by rfl) (by rfl)) convL_nil))))) (convL_cons (conv_e (hs.1 44 rfl) (by first | exact conv_p _ | exact conv_q0 | exact conv_agg (convL_cons (by first | exact conv_p _ | exact conv_nilP _ | exact conv_nil _ | exact conv_sl rfl | exact conv_nums (by exact (hs.2.1 _ rfl).trans rfl) rfl rfl rfl (by rfl) (by rfl)) (convL_cons (by first | exact conv_p _ | exact conv_nilP _ | exact conv_nil _ | exact conv_sl rfl | exact conv_nums (by exact (hs.2.1 _ rfl).trans rfl) rfl rfl rfl (by rfl) (by rfl)) (convL_cons (by first | exact conv_p _ | exact conv_nilP _ | exact conv_nil _ | exact conv_sl rfl | exact conv_nums (by exact (hs.2.1 _ rfl).trans rfl) rfl rfl rfl (by rfl) (by rfl)) convL_nil))))) convL_nil))) ?_
    refine d_op [42, 45] [1, 3, 5] rfl rfl (fun s hs => o_call (some 46) ⟨rfl, rfl⟩ tx66 rfl rfl kn_times (convL_cons (conv_e (hs.1 42 rfl) (by first | exact conv_p _ | exact conv_agg (convL_cons (by first | exact conv_p _ | exact conv_nilP _ | exact conv_nil _ | exact conv_sl rfl | exact conv_nums (by exact (hs.2.1 _ rfl).trans rfl) rfl rfl rfl (by rfl) (by rfl)) (convL_cons (by first | exact conv_p _ | exact conv_nilP _ | exact conv_nil _ | exact conv_sl rfl | exact conv_nums (by exact (hs.2.1 _ rfl).trans rfl) rfl rfl rfl (by rfl) (by rfl)) (convL_cons (by first | exact conv_p _ | exact conv_nilP _ | exact conv_nil _ | exact conv_sl rfl | exact conv_nums (by exact (hs.2.1 _ rfl).trans rfl) rfl rfl rfl (by rfl) (by rfl)) (convL_cons (by first | exact conv_p _ | exact conv_nilP _ | exact conv_nil _ | exact conv_sl rfl | exact conv_nums (by exact (hs.2.1 _ rfl).trans rfl) rfl rfl rfl (by rfl) (by rfl)) (convL_cons (by first | exact conv_p _ | exact conv_nilP _ | exact conv_nil _ | exact conv_sl rfl | exact conv_nums (by exact (hs.2.1 _ rfl).trans rfl) rfl rfl rfl (by rfl) (by rfl)) (convL_cons (by first | exact conv_p _ | exact conv_nilP _ | exact conv_nil _ | exact conv_sl rfl | exact conv_nums (by exact (hs.2.1 _ rfl).trans rfl) rfl rfl rfl (by rfl) (by rfl)) convL_nil)))))))) (convL_cons (conv_e (hs.1 45 rfl) (by first | exact conv_p _ | exact conv_agg (convL_cons (by first | exact conv_p _ | exact conv_nilP _ | exact conv_nil _ | exact conv_sl rfl | exact conv_nums (by exact (hs.2.1 _ rfl).trans rfl) rfl rfl rfl (by rfl) (by rfl)) (convL_cons (by first | exact conv_p _ | exact conv_nilP _ | exact conv_nil _ | exact conv_sl rfl | exact conv_nums (by exact (hs.2.1 _ rfl).trans rfl) rfl rfl rfl (by rfl) (by rfl)) (convL_cons (by first | exact conv_p _ | exact conv_nilP _ | exact conv_nil _ | exact conv_sl rfl | exact conv_nums (by exact (hs.2.1 _ rfl).trans rfl) rfl rfl rfl (by rfl) (by rfl)) (convL_cons (by first | exact conv_p _ | exact conv_nilP _ | exact conv_nil _ | exact conv_sl rfl | exact conv_nums (by exact (hs.2.1 _ rfl).trans rfl) rfl rfl rfl (by rfl) (by rfl)) (convL_cons (by first | exact conv_p _ | exact conv_nilP _ | exact conv_nil _ | exact conv_sl rfl | exact conv_nums (by exact (hs.2.1 _ rfl).trans rfl) rfl rfl rfl (by rfl) (by rfl)) (convL_cons (by first | exact conv_p _ | exact conv_nilP _ | exact conv_nil _ | exact conv_sl rfl | exact conv_nums (by exact (hs.2.1 _ rfl).trans rfl) rfl rfl rfl (by rfl) (by rfl)) convL_nil)))))))) convL_nil))) ?_
    refine d_al [] [1, 3, 5, 6] rfl rfl (fun s hs => o_alloc (some 6) ⟨rfl, rfl⟩ rfl 6 (by exact (hs.2.1 _ rfl).trans rfl) (nx_of hs.2.2 rfl) ty54 rfl rfl) ?_
    refine d_st [6, 46] [1, 3, 5, 6] rfl rfl (fun s hs => o_stA rfl rfl (by exact (hs.1 6 rfl).trans (rfl)) (by exact (hs.2.1 _ rfl).trans rfl) rfl rfl ty54 (by exact (congrArg AV.cells (by exact (hs.1 46 rfl).trans (rfl))).trans rfl) rfl rfl rfl rfl) ?_
    refine d_end ⟨rfl, ?_⟩
    refine s_n ?_
    refine r_seq ?_
    refine r_reg ?_
    refine r_op rfl (o_call (some 47) ⟨rfl, rfl⟩ tx27 rfl rfl (kn_int 1 (by decide)) (convL_cons (conv_p _) convL_nil)) ?_
    refine r_op rfl (o_call (some 48) ⟨rfl, rfl⟩ tx27 rfl rfl (kn_int (-2) (by decide)) (convL_cons (conv_p _) convL_nil)) ?_
    refine r_op rfl (o_call (some 49) ⟨rfl, rfl⟩ tx27 rfl rfl (kn_int 0 (by decide)) (convL_cons (conv_p _) convL_nil)) ?_
    refine r_op rfl (o_call (some 50) ⟨rfl, rfl⟩ tx27 rfl rfl (kn_int 0 (by decide)) (convL_cons (conv_p _) convL_nil)) ?_
    refine r_op rfl (o_call (some 51) ⟨rfl, rfl⟩ tx27 rfl rfl (kn_int 3 (by decide)) (convL_cons (conv_p _) convL_nil)) ?_
    refine r_op rfl (o_call (some 52) ⟨rfl, rfl⟩ tx43 rfl rfl kn_bt3 (convL_cons (by first | exact conv_p _ | exact conv_q0 | exact conv_agg (convL_cons (by first | exact conv_p _ | exact conv_nilP _ | exact conv_nil _ | exact conv_sl rfl | exact conv_nums rfl rfl rfl rfl (by rfl) (by rfl)) (convL_cons (by first | exact conv_p _ | exact conv_nilP _ | exact conv_nil _ | exact conv_sl rfl | exact conv_nums rfl rfl rfl rfl (by rfl) (by rfl)) (convL_cons (by first | exact conv_p _ | exact conv_nilP _ | exact conv_nil _ | exact conv_sl rfl | exact conv_nums rfl rfl rfl rfl (by rfl) (by rfl)) convL_nil)))) (convL_cons (by first | exact conv_p _ | exact conv_q0 | exact conv_agg (convL_cons (by first | exact conv_p _ | exact conv_nilP _ | exact conv_nil _ | exact conv_sl rfl | exact conv_nums rfl rfl rfl rfl (by rfl) (by rfl)) (convL_cons (by first | exact conv_p _ | exact conv_nilP _ | exact conv_nil _ | exact conv_sl rfl | exact conv_nums rfl rfl rfl rfl (by rfl) (by rfl)) (convL_cons (by first | exact conv_p _ | exact conv_nilP _ | exact conv_nil _ | exact conv_sl rfl | exact conv_nums rfl rfl rfl rfl (by rfl) (by rfl)) convL_nil)))) convL_nil))) ?_
    refine r_op rfl (o_call (some 53) ⟨rfl, rfl⟩ tx41 rfl rfl kn_quad (convL_cons (by first | exact conv_p _ | exact conv_q0 | exact conv_agg (convL_cons (by first | exact conv_p _ | exact conv_nilP _ | exact conv_nil _ | exact conv_sl rfl | exact conv_nums rfl rfl rfl rfl (by rfl) (by rfl)) (convL_cons (by first | exact conv_p _ | exact conv_nilP _ | exact conv_nil _ | exact conv_sl rfl | exact conv_nums rfl rfl rfl rfl (by rfl) (by rfl)) (convL_cons (by first | exact conv_p _ | exact conv_nilP _ | exact conv_nil _ | exact conv_sl rfl | exact conv_nums rfl rfl rfl rfl (by rfl) (by rfl)) convL_nil)))) (convL_cons (by first | exact conv_p _ | exact conv_q0 | exact conv_agg (convL_cons (by first | exact conv_p _ | exact conv_nilP _ | exact conv_nil _ | exact conv_sl rfl | exact conv_nums rfl rfl rfl rfl (by rfl) (by rfl)) (convL_cons (by first | exact conv_p _ | exact conv_nilP _ | exact conv_nil _ | exact conv_sl rfl | exact conv_nums rfl rfl rfl rfl (by rfl) (by rfl)) (convL_cons (by first | exact conv_p _ | exact conv_nilP _ | exact conv_nil _ | exact conv_sl rfl | exact conv_nums rfl rfl rfl rfl (by rfl) (by rfl)) convL_nil)))) (convL_cons (by first | exact conv_p _ | exact conv_q0 | exact conv_agg (convL_cons (by first | exact conv_p _ | exact conv_nilP _ | exact conv_nil _ | exact conv_sl rfl | exact conv_nums rfl rfl rfl rfl (by rfl) (by rfl)) (convL_cons (by first | exact conv_p _ | exact conv_nilP _ | exact conv_nil _ | exact conv_sl rfl | exact conv_nums rfl rfl rfl rfl (by rfl) (by rfl)) (convL_cons (by first | exact conv_p _ | exact conv_nilP _ | exact conv_nil _ | exact conv_sl rfl | exact conv_nums rfl rfl rfl rfl (by rfl) (by rfl)) convL_nil)))) (convL_cons (by first | exact conv_p _ | exact conv_agg (convL_cons (by first | exact conv_p _ | exact conv_nilP _ | exact conv_nil _ | exact conv_sl rfl | exact conv_nums rfl rfl rfl rfl (by rfl) (by rfl)) (convL_cons (by first | exact conv_p _ | exact conv_nilP _ | exact conv_nil _ | exact conv_sl rfl | exact conv_nums rfl rfl rfl rfl (by rfl) (by rfl)) (convL_cons (by first | exact conv_p _ | exact conv_nilP _ | exact conv_nil _ | exact conv_sl rfl | exact conv_nums rfl rfl rfl rfl (by rfl) (by rfl)) (convL_cons (by first | exact conv_p _ | exact conv_nilP _ | exact conv_nil _ | exact conv_sl rfl | exact conv_nums rfl rfl rfl rfl (by rfl) (by rfl)) (convL_cons (by first | exact conv_p _ | exact conv_nilP _ | exact conv_nil _ | exact conv_sl rfl | exact conv_nums rfl rfl rfl rfl (by rfl) (by rfl)) (convL_cons (by first | exact conv_p _ | exact conv_nilP _ | exact conv_nil _ | exact conv_sl rfl | exact conv_nums rfl rfl rfl rfl (by rfl) (by rfl)) convL_nil))))))) convL_nil))))) ?_
    refine r_op rfl (o_alloc (some 7) ⟨rfl, rfl⟩ rfl 7 rfl rfl ty54 rfl rfl) ?_
    refine r_op rfl (o_stA rfl rfl rfl rfl rfl rfl ty54 rfl rfl rfl rfl rfl) ?_
    refine r_end ?_
    refine s_n ?_
    refine r_seq ?_
    refine r_reg ?_
    refine r_op rfl (o_fld (some 54) ⟨rfl, rfl⟩ rfl rfl rfl rfl ty54 fe54_0 ty26 rfl rfl) ?_
    refine r_op rfl (o_ldA (some 55) ⟨rfl, rfl⟩ rfl rfl rfl rfl ty26 rfl rfl rfl) ?_
    refine r_op rfl (o_call (some 56) ⟨rfl, rfl⟩ tx18 rfl rfl (kn_tz (-4) [45, 52] (by decide) (by decide)) (convL_cons (by first | exact conv_p _ | exact conv_q0 | exact conv_agg (convL_cons (by first | exact conv_p _ | exact conv_nilP _ | exact conv_nil _ | exact conv_sl rfl | exact conv_nums rfl rfl rfl rfl (by rfl) (by rfl)) (convL_cons (by first | exact conv_p _ | exact conv_nilP _ | exact conv_nil _ | exact conv_sl rfl | exact conv_nums rfl rfl rfl rfl (by rfl) (by rfl)) (convL_cons (by first | exact conv_p _ | exact conv_nilP _ | exact conv_nil _ | exact conv_sl rfl | exact conv_nums rfl rfl rfl rfl (by rfl) (by rfl)) convL_nil)))) convL_nil)) ?_
    refine r_op rfl (o_seql (some 57) ⟨rfl, rfl⟩ rfl rfl rfl) ?_
    refine r_op rfl (o_mv (some 58) ⟨rfl, rfl⟩ rfl (by exact (rfl : _ = Bo _))) ?_
    refine r_gd (d := some 59) rfl rfl rfl rfl ⟨rfl, rfl⟩ (fun hb => o_fld (some 59) ⟨rfl, rfl⟩ rfl rfl rfl rfl ty54 fe54_1 ty26 rfl rfl) ?_
    refine r_gd (d := some 60) rfl rfl rfl rfl ⟨rfl, rfl⟩ (fun hb => o_ldA (some 60) ⟨rfl, rfl⟩ rfl (by exact gd hb) rfl rfl ty26 rfl rfl rfl) ?_
    refine r_gd (d := some 61) rfl rfl rfl rfl ⟨rfl, rfl⟩ (fun hb => o_call (some 61) ⟨rfl, rfl⟩ tx18 rfl rfl (kn_tz 8 [56] (by decide) (by decide)) (convL_cons (conv_gd hb (by first | exact conv_p _ | exact conv_q0 | exact conv_agg (convL_cons (by first | exact conv_p _ | exact conv_nilP _ | exact conv_nil _ | exact conv_sl rfl | exact conv_nums rfl rfl rfl rfl (by rfl) (by rfl)) (convL_cons (by first | exact conv_p _ | exact conv_nilP _ | exact conv_nil _ | exact conv_sl rfl | exact conv_nums rfl rfl rfl rfl (by rfl) (by rfl)) (convL_cons (by first | exact conv_p _ | exact conv_nilP _ | exact conv_nil _ | exact conv_sl rfl | exact conv_nums rfl rfl rfl rfl (by rfl) (by rfl)) convL_nil))))) convL_nil)) ?_
    refine r_gd (d := some 62) rfl rfl rfl rfl ⟨rfl, rfl⟩ (fun hb => o_seql (some 62) ⟨rfl, rfl⟩ (by exact gd hb) rfl rfl) ?_
    refine r_op rfl (o_and (some 63) ⟨rfl, rfl⟩ rfl rfl rfl rfl) ?_
    refine r_op rfl (o_mv (some 64) ⟨rfl, rfl⟩ rfl (by exact (rfl : _ = Bo _))) ?_
    refine r_gd (d := some 65) rfl rfl rfl rfl ⟨rfl, rfl⟩ (fun hb => o_ldA (some 65) ⟨rfl, rfl⟩ rfl rfl rfl rfl ty54 rfl rfl rfl) ?_
    refine r_gd (d := some 66) rfl rfl rfl rfl ⟨rfl, rfl⟩ (fun hb => o_call (some 66) ⟨rfl, rfl⟩ tx67 rfl rfl kn_sq (convL_cons (conv_gd hb (by first | exact conv_p _ | exact conv_agg (convL_cons (by first | exact conv_p _ | exact conv_nilP _ | exact conv_nil _ | exact conv_sl rfl | exact conv_nums rfl rfl rfl rfl (by rfl) (by rfl)) (convL_cons (by first | exact conv_p _ | exact conv_nilP _ | exact conv_nil _ | exact conv_sl rfl | exact conv_nums rfl rfl rfl rfl (by rfl) (by rfl)) (convL_cons (by first | exact conv_p _ | exact conv_nilP _ | exact conv_nil _ | exact conv_sl rfl | exact conv_nums rfl rfl rfl rfl (by rfl) (by rfl)) (convL_cons (by first | exact conv_p _ | exact conv_nilP _ | exact conv_nil _ | exact conv_sl rfl | exact conv_nums rfl rfl rfl rfl (by rfl) (by rfl)) (convL_cons (by first | exact conv_p _ | exact conv_nilP _ | exact conv_nil _ | exact conv_sl rfl | exact conv_nums rfl rfl rfl rfl (by rfl) (by rfl)) (convL_cons (by first | exact conv_p _ | exact conv_nilP _ | exact conv_nil _ | exact conv_sl rfl | exact conv_nums rfl rfl rfl rfl (by rfl) (by rfl)) convL_nil)))))))) convL_nil)) ?_
    refine r_gd (d := some 67) rfl rfl rfl rfl ⟨rfl, rfl⟩ (fun hb => o_fv (some 67) ⟨rfl, rfl⟩ rfl (by exact gd hb) ty54 fe54_0 ty26 rfl rfl) ?_
    refine r_gd (d := some 68) rfl rfl rfl rfl ⟨rfl, rfl⟩ (fun hb => o_call (some 68) ⟨rfl, rfl⟩ tx18 rfl rfl (kn_tz 0 [48] (by decide) (by decide)) (convL_cons (conv_gd hb (by first | exact conv_p _ | exact conv_q0 | exact conv_agg (convL_cons (by first | exact conv_p _ | exact conv_nilP _ | exact conv_nil _ | exact conv_sl rfl | exact conv_nums rfl rfl rfl rfl (by rfl) (by rfl)) (convL_cons (by first | exact conv_p _ | exact conv_nilP _ | exact conv_nil _ | exact conv_sl rfl | exact conv_nums rfl rfl rfl rfl (by rfl) (by rfl)) (convL_cons (by first | exact conv_p _ | exact conv_nilP _ | exact conv_nil _ | exact conv_sl rfl | exact conv_nums rfl rfl rfl rfl (by rfl) (by rfl)) convL_nil))))) convL_nil)) ?_
    refine r_gd (d := some 69) rfl rfl rfl rfl ⟨rfl, rfl⟩ (fun hb => o_seql (some 69) ⟨rfl, rfl⟩ (by exact gd hb) rfl rfl) ?_
    refine r_op rfl (o_and (some 70) ⟨rfl, rfl⟩ rfl rfl rfl rfl) ?_
    refine r_op rfl (o_mv (some 71) ⟨rfl, rfl⟩ rfl (by exact (rfl : _ = Bo _))) ?_
    refine r_gd (d := some 72) rfl rfl rfl rfl ⟨rfl, rfl⟩ (fun hb => o_fld (some 72) ⟨rfl, rfl⟩ rfl rfl rfl rfl ty54 fe54_0 ty26 rfl rfl) ?_
    refine r_gd (d := some 73) rfl rfl rfl rfl ⟨rfl, rfl⟩ (fun hb => o_ldA (some 73) ⟨rfl, rfl⟩ rfl (by exact gd hb) rfl rfl ty26 rfl rfl rfl) ?_
    refine r_gd (d := some 74) rfl rfl rfl rfl ⟨rfl, rfl⟩ (fun hb => o_call (some 74) ⟨rfl, rfl⟩ tx18 rfl rfl (kn_tz (-1) [45, 49] (by decide) (by decide)) (convL_cons (conv_gd hb (by first | exact conv_p _ | exact conv_q0 | exact conv_agg (convL_cons (by first | exact conv_p _ | exact conv_nilP _ | exact conv_nil _ | exact conv_sl rfl | exact conv_nums rfl rfl rfl rfl (by rfl) (by rfl)) (convL_cons (by first | exact conv_p _ | exact conv_nilP _ | exact conv_nil _ | exact conv_sl rfl | exact conv_nums rfl rfl rfl rfl (by rfl) (by rfl)) (convL_cons (by first | exact conv_p _ | exact conv_nilP _ | exact conv_nil _ | exact conv_sl rfl | exact conv_nums rfl rfl rfl rfl (by rfl) (by rfl)) convL_nil))))) convL_nil)) ?_
    refine r_gd (d := some 75) rfl rfl rfl rfl ⟨rfl, rfl⟩ (fun hb => o_seql (some 75) ⟨rfl, rfl⟩ (by exact gd hb) rfl rfl) ?_
    refine r_op rfl (o_and (some 76) ⟨rfl, rfl⟩ rfl rfl rfl rfl) ?_
    refine r_op rfl (o_mv (some 77) ⟨rfl, rfl⟩ rfl (by exact (rfl : _ = Bo _))) ?_
    refine r_gd (d := some 78) rfl rfl rfl rfl ⟨rfl, rfl⟩ (fun hb => o_fld (some 78) ⟨rfl, rfl⟩ rfl rfl rfl rfl ty54 fe54_1 ty26 rfl rfl) ?_
    refine r_gd (d := some 79) rfl rfl rfl rfl ⟨rfl, rfl⟩ (fun hb => o_ldA (some 79) ⟨rfl, rfl⟩ rfl (by exact gd hb) rfl rfl ty26 rfl rfl rfl) ?_
    refine r_gd (d := some 80) rfl rfl rfl rfl ⟨rfl, rfl⟩ (fun hb => o_call (some 80) ⟨rfl, rfl⟩ tx18 rfl rfl (kn_tz 3 [51] (by decide) (by decide)) (convL_cons (conv_gd hb (by first | exact conv_p _ | exact conv_q0 | exact conv_agg (convL_cons (by first | exact conv_p _ | exact conv_nilP _ | exact conv_nil _ | exact conv_sl rfl | exact conv_nums rfl rfl rfl rfl (by rfl) (by rfl)) (convL_cons (by first | exact conv_p _ | exact conv_nilP _ | exact conv_nil _ | exact conv_sl rfl | exact conv_nums rfl rfl rfl rfl (by rfl) (by rfl)) (convL_cons (by first | exact conv_p _ | exact conv_nilP _ | exact conv_nil _ | exact conv_sl rfl | exact conv_nums rfl rfl rfl rfl (by rfl) (by rfl)) convL_nil))))) convL_nil)) ?_
    refine r_gd (d := some 81) rfl rfl rfl rfl ⟨rfl, rfl⟩ (fun hb => o_seql (some 81) ⟨rfl, rfl⟩ (by exact gd hb) rfl rfl) ?_
    refine r_op rfl (o_and (some 82) ⟨rfl, rfl⟩ rfl rfl rfl rfl) ?_
    refine r_op rfl (o_as (some 0) ⟨rfl, rfl⟩ rfl (by exact (rfl : _ = Bo _))) ?_
    refine r_end ?_
    refine s_n ?_
    refine r_ret ?_
    refine ⟨.inl rfl, [.v (.bool true)], rfl, ?_⟩
    exact resL_cons (res_tmp (conv_pe rfl (by simp))) (resL_nil)
end Vou
end

section
set_option linter.unusedVariables false
set_option linter.unusedSimpArgs false
/- Bounds of results, and what the laws say of rational numbers. -/
namespace Vou
open Go Go.RowKit
theorem b_add {x y : Rat} {m n : Nat} (hx : qh x < m) (hy : qh y < n) : qh (x + y) < m + n := by have := qh_add x y; omega
theorem b_mul {x y : Rat} {m n : Nat} (hx : qh x < m) (hy : qh y < n) : qh (x * y) < m + n := by have := qh_mul x y; omega
theorem b_neg {x : Rat} {m : Nat} (hx : qh x < m) : qh (-x) < m := by rw [qh_neg]; exact hx
theorem b_sub {x y : Rat} {m n : Nat} (hx : qh x < m) (hy : qh y < n) : qh (x - y) < m + n := by rw [Rat.sub_eq_add_neg]; exact b_add hx (b_neg hy)
theorem b_div {x y : Rat} {m n : Nat} (hx : qh x < m) (hy : qh y < n) : qh (x / y) < m + n := by have := qh_div' x y; omega
theorem b_le {x : Rat} {m n : Nat} (hx : qh x < m) (h : m ≤ n) : qh x < n := Nat.lt_of_lt_of_le hx h
theorem b_zero : qh 0 < 2 := by rw [qh_zero]; decide
theorem b_one : qh (zQ 1) < 4 := Nat.lt_of_le_of_lt (qh_z 1 (by decide)) (by decide)
theorem b_int {z : Int} {n m : Nat} (h : z.natAbs ≤ n + 1) (hn : (d9 n).length < m) : qh (z : Rat) < m + 2 := by
  have h1 := qh_int z
  have h2 := d9_mono h
  have h3 : (d9 (n + 1)).length ≤ max (d9 n).length (d9 1).length + 1 := dl_add (by omega) n 1
  have h4 : (d9 1).length = 1 := by rw [d9_one]; rfl
  omega
theorem floor_abs (x : Rat) : x.floor.natAbs ≤ x.num.natAbs + 1 := by
  rw [Rat.floor_def]
  have hd : 0 < (x.den : Int) := by have := x.den_nz; omega
  have h1 := Int.mul_ediv_add_emod x.num x.den
  have h2 := Int.emod_nonneg x.num (show (x.den : Int) ≠ 0 by omega)
  have h3 := Int.emod_lt_of_pos x.num hd
  generalize x.num / (x.den : Int) = q at *
  generalize x.num % (x.den : Int) = r at *
  generalize x.num = n at *
  generalize (x.den : Int) = d at *
  rcases Int.lt_or_le q 0 with hq | hq
  · have : d * (-q - 1) ≥ (-q - 1) := by
      have := Int.mul_nonneg (show 0 ≤ d - 1 by omega) (show 0 ≤ -q - 1 by omega)
      have e : (d - 1) * (-q - 1) = d * (-q - 1) - (-q - 1) := by rw [Int.sub_mul, Int.one_mul]
      omega
    have e : d * (-q - 1) = -(d * q) - d := by rw [Int.mul_sub, Int.mul_neg, Int.mul_one]
    omega
  · have := Int.mul_nonneg (show 0 ≤ d - 1 by omega) hq
    have e : (d - 1) * q = d * q - q := by rw [Int.sub_mul, Int.one_mul]
    omega
theorem b_floor {x : Rat} {m : Nat} (hx : qh x < m) : qh ((x.floor : Int) : Rat) < m + 2 :=
  b_int (floor_abs x) (Nat.lt_of_le_of_lt (qh_num x) hx)
theorem b_ceil {x : Rat} {m : Nat} (hx : qh x < m) : qh (-(((-x).floor : Int) : Rat)) < m + 2 := b_neg (b_floor (b_neg hx))
theorem b_num {x : Rat} {m : Nat} (hx : qh x < m) : qh ((x.num : Int) : Rat) < m + 2 := b_int (n := x.num.natAbs) (by omega) (Nat.lt_of_le_of_lt (qh_num x) hx)
theorem b_den {x : Rat} {m : Nat} (hx : qh x < m) : qh (((x.den : Nat) : Int) : Rat) < m + 2 := b_int (n := x.den) (by omega) (Nat.lt_of_le_of_lt (qh_den x) hx)
theorem read_b {s : ByteArray} (h : s.size ≤ 120) : qh (readF s).1 < 130 := by
  have h1 := rdN_len s
  have h2 := rdD_len s
  have h3 : (d9 1).length = 1 := by rw [d9_one]; rfl
  have z := qh_zero
  unfold readF
  repeat' split
  · show qh 0 < _; omega
  · show qh 0 < _; omega
  · show qh (mkRat _ _) < _
    have := qh_mk (z := sg (rdNeg s) ((rdN s).getD 0)) (d := 1) (by omega)
    rw [sg_natAbs] at this
    omega
  · show qh 0 < _; omega
  · rename_i k
    show qh (mkRat _ _) < _
    have := qh_mk (z := sg (rdNeg s) ((rdN s).getD 0)) (d := (rdD s).getD 0) (by
      have : ¬ (rdD s).getD 0 ≤ 1 := fun e => k (.inr (.inl e))
      omega)
    rw [sg_natAbs] at this
    omega
theorem long_of {l : List ByteArray} (h : longF l = false) {s : ByteArray} (hs : s ∈ l) : s.size ≤ 120 := by
  have := List.any_eq_false.1 h s hs
  simp at this
  omega

/-! ### The field -/
theorem f_assoc_mul (x y z : Rat) : x * y * z = x * (y * z) := Rat.mul_assoc x y z
theorem f_sub (x y : Rat) : x - y + y = x := by rw [Rat.sub_eq_add_neg, Rat.add_assoc, Rat.neg_add_cancel, Rat.add_zero]
theorem f_sign (x : Rat) : (x + -x).num.sign = 0 := by rw [Rat.add_comm, Rat.neg_add_cancel]; rfl
theorem f_one (x : Rat) : x * zQ 1 = x := Rat.mul_one x
theorem sign_zero (y : Rat) : y.num.sign = 0 ↔ y = 0 := by
  rw [Int.sign_eq_zero_iff_zero]
  exact ⟨fun h => (q_num0 y).1 (by omega), fun h => by rw [h]; rfl⟩
theorem f_div (x y : Rat) : ((decide ((if y = 0 then (10 : Int) else 0) = 10) == decide (y.num.sign = 0)) && (decide ((if y = 0 then (10 : Int) else 0) ≠ 0) || decide (x / y * y = x))) = true := by
  by_cases h : y = 0
  · simp [h]
  · have := fun e => h ((sign_zero y).1 e)
    have e : x / y * y = x := by rw [Rat.div_mul_cancel h]
    simp [h, this, e]
end Vou
end

section
set_option linter.unusedVariables false
set_option linter.unusedSimpArgs false
/- From a contract of the abstract machine to a row: what the condition on memory gives, and the wrap that keeps the world's shape. -/
namespace Vou
open Go Go.RowKit Go.Proofs Go.Proofs.YtljmndkpodcdnaaGreatDoor
variable {H : Type} {enc : TypeId × Value → H}

/-- The wrap with a condition on memory and the world's shape. -/
theorem returns_shaped {a : Assume} {C : Checked} {os : Os} {f : FuncId} {fn : Func} {s : ChangeSpec} {conds : List PathCond} {apart fresh handsOn again : Bool} {X : World → Array Value → Prop}
    (hX : ∀ (w w' : World) (args : Array Value), w.heap = w'.heap → X w args → X w' args)
    (own : ownKnob C.prog.godebug = none) (started : os.Started) (noInit : C.prog.inits.idxOf? f = none) (hfn : C.prog.funcs[f]? = some fn)
    (witness : ∃ (w : World) (tape : Tape) (i : Input), w.os = os ∧ (w.forCall tape i).Shaped C.prog ∧ i.vars = [] ∧ Input.okWide C.prog (w.forCall tape i) .any w.heap.size f i ∧
      ((s.pre enc C.prog fn conds apart (w.forCall tape i).memory i.args ∧ X (w.forCall tape i).memory i.args) ∧ sizedMet enc C.prog fn (OpenSpec.ofChange s) apart (w.forCall tape i).memory i.args) ∧ a.holds C.prog (lone (Frame.enter C.prog f i.args .normal) [] (w.forCall tape i)))
    (contract : ∀ (W : World) (base : Nat) (args : Array Value) (ds gs : List (DataW H)) (before : List MemPlace),
      (∀ (j : Nat) t v, fn.params[j]? = some t → args[j]? = some v → Value.okWide C.prog W .any base t v) →
      DataW.Whole enc C.prog fn.params.toList s.vars apart W args.toList ds gs before → X W args → W.ShapedOpen C.prog →
      Calls C.prog f args W fun e W' => ∃ v, e = .returned v ∧ s.post enc C.prog fn apart fresh handsOn again W args v W') :
    ReturnsInHanded a C os f .any (fun w args => (s.pre enc C.prog fn conds apart w args ∧ X w args) ∧ sizedMet enc C.prog fn (OpenSpec.ofChange s) apart w args) (s.post enc C.prog fn apart fresh handsOn again) := by
  refine returnsInHanded_of_calls own started noInit witness ?_
  intro w tape i _ hsh _ hok hpre _
  obtain ⟨_, _, _, fn', hfn', _, _, _, _, hval⟩ := hok
  have e : fn' = fn := Option.some.inj (hfn'.symm.trans hfn)
  subst e
  obtain ⟨⟨⟨ds, gs, before, hw, hc⟩, hx⟩, hz⟩ := hpre
  have hw' := DataW.Whole.of_heap (w' := w.forCall tape i) (by rfl) hw
  refine (contract (w.forCall tape i) w.heap.size i.args ds gs before hval hw' (hX _ _ _ (by rfl) hx) hsh).mono fun e W' ⟨v, he, hp⟩ => ?_
  subst he
  exact ChangeSpec.post_blind hp

theorem gPow : Tryz.prog.globalNamed "internal/strconv.uint64pow10" = some 3 := by kernel_rfl
theorem tPow : (Tryz.prog.globals[3]?).map (·.type) = some 208 := by kernel_rfl
theorem uPow : Tryz.prog.underlying 208 = some (.array 20 137) := by kernel_rfl
theorem ePow : Tryz.prog.underlying 137 = some (.int .u64) := by kernel_rfl
theorem cPow : Tryz.prog.cellsOf 137 = 1 := by kernel_rfl
theorem sPow : Tryz.prog.cellsOf 208 = 20 := by kernel_rfl
theorem dPow : (Rows.laid_internal_strconv_uint64pow10 : DataW Unit) = Lib.tabData .u64 Lib.pow10Tab := by kernel_rfl
theorem zMax : ((begin Tryz.prog (fun _ _ => 0) default).world.heap[0]?).bind Obj.row? = some (#[.int .i64 0], 3) := by kernel_rfl
/-- The variables of the library that are read. -/
def glS (g : Nat) : Prop := g = 3 ∨ g = 0
theorem cl_of {W : World} (h : laidMetH Tryz.prog Rows.exactFieldRow.laid W) (hs : W.ShapedOpen Tryz.prog) : Cl glS W := by
  rw [MakeChecks.laidMetH_plain _ _ _ (by kernel_rfl)] at h
  have h2 := laidMet.tail (laidMet.tail h)
  rw [dPow] at h2
  have hT := Lib.tabIs_of_head gPow tPow uPow ePow cPow sPow h2
  have h3 : ∃ t f, W.heap[3]? = some (.cells (Lib.pow10Tab.map fun z => Value.int .u64 z).toArray t f) := by
    unfold Lib.TabIs World.var? at hT
    rw [gPow, Option.bind_some] at hT
    split at hT
    · rename_i cs t f e
      cases hT
      exact ⟨t, f, e⟩
    · cases hT
  have h0 : ∃ (n : Int) (t : TypeId) (f : Nat × Nat), W.heap[0]? = some (.cells #[.int .i64 n] t f) := by
    obtain ⟨m, hm⟩ := Go.Proofs.cell_of_shapedOpen_int (g := 0) (k := .i64) hs (of_decide_eq_true (by kernel_rfl)) zMax rfl (by kernel_rfl) (by kernel_rfl) (by kernel_rfl)
    obtain ⟨cs, hh, hz, _⟩ := hs.1 0 _ 3 (of_decide_eq_true (by kernel_rfl)) zMax
    have e : cs[0]? = some (.int .i64 m) := by simpa [World.cell?, hh] using hm
    obtain ⟨l⟩ := cs
    have hl : l.length = 1 := hz
    match l, hl with
    | [v], _ =>
      simp at e
      subst e
      exact ⟨m, 3, _, hh⟩
  obtain ⟨t, f, h3⟩ := h3
  obtain ⟨m, t', f', h0⟩ := h0
  refine ⟨fun g hg => ?_, ⟨⟨.inl rfl, t, f, h3⟩, .inr rfl, m, t', f', h0⟩⟩
  rcases hg with rfl | rfl
  · exact ⟨_, _, _, h3⟩
  · exact ⟨_, _, _, h0⟩
end Vou
end
