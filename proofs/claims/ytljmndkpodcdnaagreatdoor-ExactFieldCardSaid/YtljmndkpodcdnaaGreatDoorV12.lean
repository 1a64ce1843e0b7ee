/- A part of the proof: walks of spans. It holds without conditions. -/
import Derived.Test.YtljmndkpodcdnaaGreatDoorV11
import Derived.Test.YtljmndkpodcdnaaGreatDoorV10

section
set_option linter.unusedVariables false
set_option linter.unusedSimpArgs false
namespace Vou
open Go Go.RowKit Go.Proofs.Tryz
theorem qh_sub (x y : Rat) : qh (x - y) ≤ qh x + qh y + 1 := by
  rw [Rat.sub_eq_add_neg]
  have := qh_add x (-y)
  rw [qh_neg] at this
  exact this
theorem quad_no {p : Prop} [Decidable p] {b : Bool} (h : ¬ (if p then (10 : Int) else 0) = 0 ∨ b = false) : ¬ (¬ p ∧ b = true) := by
  rintro ⟨h1, h2⟩
  rw [if_neg h1] at h
  rcases h with h | h
  · exact h rfl
  · rw [h] at h2; cases h2
theorem w_around (x : Rat) (l : List Rat) (hx : qh x < 17179869184) (hl : ∀ y ∈ l, qh y < 17179869184) (hn : l.length < 1099511627776) : FnP prog 101 [qP x, qL l] (packP [spP (arF x l)]) := by
  refine fnP_of (fn := f101) fn101 rfl (Nat.le_of_ble_eq_true rfl) ?_
  refine r_seq ?_
  refine r_reg ?_
  refine r_op rfl (o_box (some 2) ⟨rfl, rfl⟩ rfl 2 rfl rfl rfl rfl) ?_
  refine r_op rfl (o_alloc (some 4) ⟨rfl, rfl⟩ rfl 4 rfl rfl ty54 rfl rfl) ?_
  refine r_end ?_
  refine s_n ?_
  refine r_seq ?_
  refine r_reg ?_
  refine r_op rfl (o_ldA (some 8) ⟨rfl, rfl⟩ rfl rfl rfl rfl ty26 rfl rfl rfl) ?_
  refine r_op rfl (o_ldA (some 9) ⟨rfl, rfl⟩ rfl rfl rfl rfl ty26 rfl rfl rfl) ?_
  refine r_op rfl (o_bld (some 10) ⟨rfl, rfl⟩ rfl ty54 pl54 rfl rfl) ?_
  refine r_op rfl (o_alloc (some 5) ⟨rfl, rfl⟩ rfl 5 rfl rfl ty54 rfl rfl) ?_
  refine r_op rfl (o_stA rfl rfl rfl rfl rfl rfl ty54 rfl rfl rfl rfl rfl) ?_
  refine r_end ?_
  refine s_n ?_
  refine r_seq ?_
  refine r_seq ?_
  refine r_reg ?_
  refine r_op rfl (o_mv (some 11) ⟨rfl, rfl⟩ rfl (by first | exact (rfl : _ = I _ _) | exact (rfl : _ = AV.p _) | exact (rfl : _ = AV.ptr _ _) | exact (rfl : _ = AV.own _ _ _ _ _) | exact (rfl : _ = AV.agg _) | exact (rfl : _ = AV.fn _ _))) ?_
  refine r_op rfl ((by first | exact o_lenN (some 12) ⟨rfl, rfl⟩ rfl rfl ty69 rfl | exact o_lenO (some 12) ⟨rfl, rfl⟩ rfl rfl rfl rfl ty69 | exact o_lenZ (some 12) ⟨rfl, rfl⟩ rfl rfl ty69 | exact o_lenP (some 12) ⟨rfl, rfl⟩ rfl rfl ty69 rfl)) ?_
  refine r_op rfl (o_mv (some 13) ⟨rfl, rfl⟩ rfl (by exact (rfl : _ = I _ 0))) ?_
  refine r_end ?_
  refine s_n ?_
  refine r_block ?_
  refine r_loop (ι := { p : Nat × Rat × Rat // p.1 ≤ l.length ∧ (p.2.1, p.2.2) = arF x (l.take p.1) }) (fun p => stL [(4, .ptr 4 0), (5, .ptr 5 0), (11, .p (qL l)), (12, I .i64 (l.length)), (13, I .i64 ((p.1.1)))] [(4, { cells := ([.v (.bool false), .v (.slice none 0 0), .v (.slice none 0 0), .v (.bool false), .v (.slice none 0 0), .v (.slice none 0 0)]).map AV.p, ty := 54 }), (5, { cells := (spC ((p.1.2.1), (p.1.2.2))).map AV.p, ty := 54 })]) (fun p => l.length - p.1.1) (⟨(0, x, x), Nat.zero_le _, rfl⟩) ?_ (fun i_ => ?_)
  · exact gh_st id (tlc (td_ptr rfl rfl) (tlc (td_ptr rfl rfl) (tlc (td_p rfl rfl) (tlc (td_I rfl (List.length_map ..)) (tlc (td_I rfl rfl) tl0))))) (hpc (hp_ps rfl rfl rfl rfl rfl) (hpc (hp_ps rfl rfl rfl rfl rfl) hp0)) rfl
  · obtain ⟨⟨i, a, b⟩, h1, h2⟩ := i_
    simp only at h1 h2
    obtain ⟨ha, hb⟩ : spB (a, b) 17179869184 := by rw [h2]; exact arF_b hx (fun z hz => hl z (List.mem_of_mem_take hz))
    simp only at ha hb
    change Tr _ _ _ (stL [(4, .ptr 4 0), (5, .ptr 5 0), (11, .p (qL l)), (12, I .i64 (l.length)), (13, I .i64 ((i)))] [(4, { cells := ([.v (.bool false), .v (.slice none 0 0), .v (.slice none 0 0), .v (.bool false), .v (.slice none 0 0), .v (.slice none 0 0)]).map AV.p, ty := 54 }), (5, { cells := (spC ((a), (b))).map AV.p, ty := 54 })]) _
    refine r_seq ?_
    refine r_reg ?_
    refine r_op rfl (o_lss (some 14) ⟨rfl, rfl⟩ rfl rfl rfl) ?_
    refine r_end ?_
    refine s_n ?_
    refine r_seq ?_
    refine r_cond rfl (fun hc => ?_) (fun hc => ?_)
    · try simp only [decide_eq_true_eq, decide_eq_false_iff_not, Nat.not_lt, Nat.not_le, Bool.and_eq_true, Bool.or_eq_true, Bool.and_eq_false_iff, Bool.or_eq_false_iff, Bool.not_eq_true', Bool.not_eq_false', beq_iff_eq, beq_eq_false_iff_ne, ne_eq, Decidable.not_not] at hc
      have hy := getD_b hl hc
      refine r_skip ?_
      refine s_n ?_
      refine r_seq ?_
      refine r_block ?_
      refine r_seq ?_
      refine r_reg ?_
      refine r_op rfl (o_ixP (some 15) ⟨rfl, rfl⟩ rfl rfl rfl ty69 ty26 (by exact qL_get l hc) rfl) ?_
      refine r_op rfl (o_ldC (some 16) ⟨rfl, rfl⟩ rfl rfl ty26 rfl rfl) ?_
      refine r_op rfl (o_alloc (some 7) ⟨rfl, rfl⟩ rfl 7 rfl rfl ty26 rfl rfl) ?_
      refine r_op rfl (o_stA rfl rfl rfl rfl rfl rfl ty26 rfl rfl rfl rfl rfl) ?_
      refine r_end ?_
      refine s_n ?_
      refine r_seq ?_
      refine r_seq ?_
      refine r_reg ?_
      refine r_op rfl (o_ldA (some 17) ⟨rfl, rfl⟩ rfl rfl rfl rfl ty26 rfl rfl rfl) ?_
      refine r_op rfl (o_fld (some 18) ⟨rfl, rfl⟩ rfl rfl rfl rfl ty54 fe54_0 ty26 rfl rfl) ?_
      refine r_op rfl (o_ldA (some 19) ⟨rfl, rfl⟩ rfl rfl rfl rfl ty26 rfl rfl rfl) ?_
      refine r_op rfl (o_call (some 20) ⟨rfl, rfl⟩ tx29 rfl rfl (w_cmpq (l.getD i 0) a hy ha) (convL_cons (by first | exact conv_p _ | exact conv_q0 | exact conv_agg (convL_cons (by first | exact conv_p _ | exact conv_nilP _ | exact conv_nil _ | exact conv_sl rfl | exact conv_nums rfl rfl rfl rfl (by rfl) (by rfl)) (convL_cons (by first | exact conv_p _ | exact conv_nilP _ | exact conv_nil _ | exact conv_sl rfl | exact conv_nums rfl rfl rfl rfl (by rfl) (by rfl)) (convL_cons (by first | exact conv_p _ | exact conv_nilP _ | exact conv_nil _ | exact conv_sl rfl | exact conv_nums rfl rfl rfl rfl (by rfl) (by rfl)) convL_nil)))) (convL_cons (by first | exact conv_p _ | exact conv_q0 | exact conv_agg (convL_cons (by first | exact conv_p _ | exact conv_nilP _ | exact conv_nil _ | exact conv_sl rfl | exact conv_nums rfl rfl rfl rfl (by rfl) (by rfl)) (convL_cons (by first | exact conv_p _ | exact conv_nilP _ | exact conv_nil _ | exact conv_sl rfl | exact conv_nums rfl rfl rfl rfl (by rfl) (by rfl)) (convL_cons (by first | exact conv_p _ | exact conv_nilP _ | exact conv_nil _ | exact conv_sl rfl | exact conv_nums rfl rfl rfl rfl (by rfl) (by rfl)) convL_nil)))) convL_nil))) ?_
      refine r_op rfl (o_zlss (some 21) ⟨rfl, rfl⟩ (by exact (rfl : _ = Z _ _)) (by exact (rfl : _ = Z _ (0))) rfl) ?_
      refine r_end ?_
      refine s_n ?_
      refine r_cond rfl (fun hc_1 => ?_) (fun hc_1 => ?_)
      · try simp only [decide_eq_true_eq, decide_eq_false_iff_not, Nat.not_lt, Nat.not_le, Bool.and_eq_true, Bool.or_eq_true, Bool.and_eq_false_iff, Bool.or_eq_false_iff, Bool.not_eq_true', Bool.not_eq_false', beq_iff_eq, beq_eq_false_iff_ne, ne_eq, Decidable.not_not] at hc_1
        refine r_reg ?_
        refine r_op rfl (o_ldA (some 22) ⟨rfl, rfl⟩ rfl rfl rfl rfl ty26 rfl rfl rfl) ?_
        refine r_op rfl (o_fld (some 23) ⟨rfl, rfl⟩ rfl rfl rfl rfl ty54 fe54_0 ty26 rfl rfl) ?_
        refine r_op rfl (o_stA rfl rfl rfl rfl rfl rfl ty26 rfl rfl rfl rfl rfl) ?_
        refine r_end ?_
        refine s_n ?_
        refine r_seq ?_
        refine r_reg ?_
        refine r_op rfl (o_ldA (some 24) ⟨rfl, rfl⟩ rfl rfl rfl rfl ty26 rfl rfl rfl) ?_
        refine r_op rfl (o_fld (some 25) ⟨rfl, rfl⟩ rfl rfl rfl rfl ty54 fe54_1 ty26 rfl rfl) ?_
        refine r_op rfl (o_ldA (some 26) ⟨rfl, rfl⟩ rfl rfl rfl rfl ty26 rfl rfl rfl) ?_
        refine r_op rfl (o_call (some 27) ⟨rfl, rfl⟩ tx29 rfl rfl (w_cmpq (l.getD i 0) b hy hb) (convL_cons (by first | exact conv_p _ | exact conv_q0 | exact conv_agg (convL_cons (by first | exact conv_p _ | exact conv_nilP _ | exact conv_nil _ | exact conv_sl rfl | exact conv_nums rfl rfl rfl rfl (by rfl) (by rfl)) (convL_cons (by first | exact conv_p _ | exact conv_nilP _ | exact conv_nil _ | exact conv_sl rfl | exact conv_nums rfl rfl rfl rfl (by rfl) (by rfl)) (convL_cons (by first | exact conv_p _ | exact conv_nilP _ | exact conv_nil _ | exact conv_sl rfl | exact conv_nums rfl rfl rfl rfl (by rfl) (by rfl)) convL_nil)))) (convL_cons (by first | exact conv_p _ | exact conv_q0 | exact conv_agg (convL_cons (by first | exact conv_p _ | exact conv_nilP _ | exact conv_nil _ | exact conv_sl rfl | exact conv_nums rfl rfl rfl rfl (by rfl) (by rfl)) (convL_cons (by first | exact conv_p _ | exact conv_nilP _ | exact conv_nil _ | exact conv_sl rfl | exact conv_nums rfl rfl rfl rfl (by rfl) (by rfl)) (convL_cons (by first | exact conv_p _ | exact conv_nilP _ | exact conv_nil _ | exact conv_sl rfl | exact conv_nums rfl rfl rfl rfl (by rfl) (by rfl)) convL_nil)))) convL_nil))) ?_
        refine r_op rfl (o_zgtr (some 28) ⟨rfl, rfl⟩ (by exact (rfl : _ = Z _ _)) (by exact (rfl : _ = Z _ (0))) rfl) ?_
        refine r_end ?_
        refine s_n ?_
        refine r_cond rfl (fun hc_2 => ?_) (fun hc_2 => ?_)
        · try simp only [decide_eq_true_eq, decide_eq_false_iff_not, Nat.not_lt, Nat.not_le, Bool.and_eq_true, Bool.or_eq_true, Bool.and_eq_false_iff, Bool.or_eq_false_iff, Bool.not_eq_true', Bool.not_eq_false', beq_iff_eq, beq_eq_false_iff_ne, ne_eq, Decidable.not_not] at hc_2
          refine r_reg ?_
          refine r_op rfl (o_ldA (some 29) ⟨rfl, rfl⟩ rfl rfl rfl rfl ty26 rfl rfl rfl) ?_
          refine r_op rfl (o_fld (some 30) ⟨rfl, rfl⟩ rfl rfl rfl rfl ty54 fe54_1 ty26 rfl rfl) ?_
          refine r_op rfl (o_stA rfl rfl rfl rfl rfl rfl ty26 rfl rfl rfl rfl rfl) ?_
          refine r_end ?_
          refine b_n ?_
          refine s_n ?_
          refine r_reg ?_
          refine r_op rfl (o_add (some 31) ⟨rfl, rfl⟩ rfl (by exact (rfl : _ = I _ 1)) rfl (by first | (simp only [lim]; omega) | omega | (simp only [List.length_set]; omega) | (simp at hb; omega))) ?_
          refine r_op rfl (o_mv (some 13) ⟨rfl, rfl⟩ rfl (by exact (rfl : _ = I _ _))) ?_
          refine r_end ?_
          refine s_n ?_
          first | (exact ⟨⟨(i + 1, (l.getD i 0), (l.getD i 0)), by show i + 1 ≤ _; omega, by show (_, _) = arF x _; rw [arF_take x l hc, ← h2]; exact Prod.ext (by first | exact (if_pos (by assumption)).symm | exact (if_neg (by assumption)).symm) (by first | exact (if_pos (by assumption)).symm | exact (if_neg (by assumption)).symm)⟩, by show l.length - (i + 1) < l.length - i; omega, gh_st id (tlc (td_ptr rfl rfl) (tlc (td_ptr rfl rfl) (tlc (td_p rfl rfl) (tlc (td_I rfl rfl) (tlc (td_I rfl rfl) tl0))))) (hpc (hp_ps rfl rfl rfl rfl rfl) (hpc (hp_ps rfl rfl rfl rfl rfl) hp0)) rfl⟩) | (exact ⟨⟨(i + 1, (l.getD i 0), b), by show i + 1 ≤ _; omega, by show (_, _) = arF x _; rw [arF_take x l hc, ← h2]; exact Prod.ext (by first | exact (if_pos (by assumption)).symm | exact (if_neg (by assumption)).symm) (by first | exact (if_pos (by assumption)).symm | exact (if_neg (by assumption)).symm)⟩, by show l.length - (i + 1) < l.length - i; omega, gh_st id (tlc (td_ptr rfl rfl) (tlc (td_ptr rfl rfl) (tlc (td_p rfl rfl) (tlc (td_I rfl rfl) (tlc (td_I rfl rfl) tl0))))) (hpc (hp_ps rfl rfl rfl rfl rfl) (hpc (hp_ps rfl rfl rfl rfl rfl) hp0)) rfl⟩) | (exact ⟨⟨(i + 1, a, (l.getD i 0)), by show i + 1 ≤ _; omega, by show (_, _) = arF x _; rw [arF_take x l hc, ← h2]; exact Prod.ext (by first | exact (if_pos (by assumption)).symm | exact (if_neg (by assumption)).symm) (by first | exact (if_pos (by assumption)).symm | exact (if_neg (by assumption)).symm)⟩, by show l.length - (i + 1) < l.length - i; omega, gh_st id (tlc (td_ptr rfl rfl) (tlc (td_ptr rfl rfl) (tlc (td_p rfl rfl) (tlc (td_I rfl rfl) (tlc (td_I rfl rfl) tl0))))) (hpc (hp_ps rfl rfl rfl rfl rfl) (hpc (hp_ps rfl rfl rfl rfl rfl) hp0)) rfl⟩) | (exact ⟨⟨(i + 1, a, b), by show i + 1 ≤ _; omega, by show (_, _) = arF x _; rw [arF_take x l hc, ← h2]; exact Prod.ext (by first | exact (if_pos (by assumption)).symm | exact (if_neg (by assumption)).symm) (by first | exact (if_pos (by assumption)).symm | exact (if_neg (by assumption)).symm)⟩, by show l.length - (i + 1) < l.length - i; omega, gh_st id (tlc (td_ptr rfl rfl) (tlc (td_ptr rfl rfl) (tlc (td_p rfl rfl) (tlc (td_I rfl rfl) (tlc (td_I rfl rfl) tl0))))) (hpc (hp_ps rfl rfl rfl rfl rfl) (hpc (hp_ps rfl rfl rfl rfl rfl) hp0)) rfl⟩)
        · try simp only [decide_eq_true_eq, decide_eq_false_iff_not, Nat.not_lt, Nat.not_le, Bool.and_eq_true, Bool.or_eq_true, Bool.and_eq_false_iff, Bool.or_eq_false_iff, Bool.not_eq_true', Bool.not_eq_false', beq_iff_eq, beq_eq_false_iff_ne, ne_eq, Decidable.not_not] at hc_2
          refine r_skip ?_
          refine b_n ?_
          refine s_n ?_
          refine r_reg ?_
          refine r_op rfl (o_add (some 31) ⟨rfl, rfl⟩ rfl (by exact (rfl : _ = I _ 1)) rfl (by first | (simp only [lim]; omega) | omega | (simp only [List.length_set]; omega) | (simp at hb; omega))) ?_
          refine r_op rfl (o_mv (some 13) ⟨rfl, rfl⟩ rfl (by exact (rfl : _ = I _ _))) ?_
          refine r_end ?_
          refine s_n ?_
          first | (exact ⟨⟨(i + 1, (l.getD i 0), (l.getD i 0)), by show i + 1 ≤ _; omega, by show (_, _) = arF x _; rw [arF_take x l hc, ← h2]; exact Prod.ext (by first | exact (if_pos (by assumption)).symm | exact (if_neg (by assumption)).symm) (by first | exact (if_pos (by assumption)).symm | exact (if_neg (by assumption)).symm)⟩, by show l.length - (i + 1) < l.length - i; omega, gh_st id (tlc (td_ptr rfl rfl) (tlc (td_ptr rfl rfl) (tlc (td_p rfl rfl) (tlc (td_I rfl rfl) (tlc (td_I rfl rfl) tl0))))) (hpc (hp_ps rfl rfl rfl rfl rfl) (hpc (hp_ps rfl rfl rfl rfl rfl) hp0)) rfl⟩) | (exact ⟨⟨(i + 1, (l.getD i 0), b), by show i + 1 ≤ _; omega, by show (_, _) = arF x _; rw [arF_take x l hc, ← h2]; exact Prod.ext (by first | exact (if_pos (by assumption)).symm | exact (if_neg (by assumption)).symm) (by first | exact (if_pos (by assumption)).symm | exact (if_neg (by assumption)).symm)⟩, by show l.length - (i + 1) < l.length - i; omega, gh_st id (tlc (td_ptr rfl rfl) (tlc (td_ptr rfl rfl) (tlc (td_p rfl rfl) (tlc (td_I rfl rfl) (tlc (td_I rfl rfl) tl0))))) (hpc (hp_ps rfl rfl rfl rfl rfl) (hpc (hp_ps rfl rfl rfl rfl rfl) hp0)) rfl⟩) | (exact ⟨⟨(i + 1, a, (l.getD i 0)), by show i + 1 ≤ _; omega, by show (_, _) = arF x _; rw [arF_take x l hc, ← h2]; exact Prod.ext (by first | exact (if_pos (by assumption)).symm | exact (if_neg (by assumption)).symm) (by first | exact (if_pos (by assumption)).symm | exact (if_neg (by assumption)).symm)⟩, by show l.length - (i + 1) < l.length - i; omega, gh_st id (tlc (td_ptr rfl rfl) (tlc (td_ptr rfl rfl) (tlc (td_p rfl rfl) (tlc (td_I rfl rfl) (tlc (td_I rfl rfl) tl0))))) (hpc (hp_ps rfl rfl rfl rfl rfl) (hpc (hp_ps rfl rfl rfl rfl rfl) hp0)) rfl⟩) | (exact ⟨⟨(i + 1, a, b), by show i + 1 ≤ _; omega, by show (_, _) = arF x _; rw [arF_take x l hc, ← h2]; exact Prod.ext (by first | exact (if_pos (by assumption)).symm | exact (if_neg (by assumption)).symm) (by first | exact (if_pos (by assumption)).symm | exact (if_neg (by assumption)).symm)⟩, by show l.length - (i + 1) < l.length - i; omega, gh_st id (tlc (td_ptr rfl rfl) (tlc (td_ptr rfl rfl) (tlc (td_p rfl rfl) (tlc (td_I rfl rfl) (tlc (td_I rfl rfl) tl0))))) (hpc (hp_ps rfl rfl rfl rfl rfl) (hpc (hp_ps rfl rfl rfl rfl rfl) hp0)) rfl⟩)
      · try simp only [decide_eq_true_eq, decide_eq_false_iff_not, Nat.not_lt, Nat.not_le, Bool.and_eq_true, Bool.or_eq_true, Bool.and_eq_false_iff, Bool.or_eq_false_iff, Bool.not_eq_true', Bool.not_eq_false', beq_iff_eq, beq_eq_false_iff_ne, ne_eq, Decidable.not_not] at hc_1
        refine r_skip ?_
        refine s_n ?_
        refine r_seq ?_
        refine r_reg ?_
        refine r_op rfl (o_ldA (some 24) ⟨rfl, rfl⟩ rfl rfl rfl rfl ty26 rfl rfl rfl) ?_
        refine r_op rfl (o_fld (some 25) ⟨rfl, rfl⟩ rfl rfl rfl rfl ty54 fe54_1 ty26 rfl rfl) ?_
        refine r_op rfl (o_ldA (some 26) ⟨rfl, rfl⟩ rfl rfl rfl rfl ty26 rfl rfl rfl) ?_
        refine r_op rfl (o_call (some 27) ⟨rfl, rfl⟩ tx29 rfl rfl (w_cmpq (l.getD i 0) b hy hb) (convL_cons (by first | exact conv_p _ | exact conv_q0 | exact conv_agg (convL_cons (by first | exact conv_p _ | exact conv_nilP _ | exact conv_nil _ | exact conv_sl rfl | exact conv_nums rfl rfl rfl rfl (by rfl) (by rfl)) (convL_cons (by first | exact conv_p _ | exact conv_nilP _ | exact conv_nil _ | exact conv_sl rfl | exact conv_nums rfl rfl rfl rfl (by rfl) (by rfl)) (convL_cons (by first | exact conv_p _ | exact conv_nilP _ | exact conv_nil _ | exact conv_sl rfl | exact conv_nums rfl rfl rfl rfl (by rfl) (by rfl)) convL_nil)))) (convL_cons (by first | exact conv_p _ | exact conv_q0 | exact conv_agg (convL_cons (by first | exact conv_p _ | exact conv_nilP _ | exact conv_nil _ | exact conv_sl rfl | exact conv_nums rfl rfl rfl rfl (by rfl) (by rfl)) (convL_cons (by first | exact conv_p _ | exact conv_nilP _ | exact conv_nil _ | exact conv_sl rfl | exact conv_nums rfl rfl rfl rfl (by rfl) (by rfl)) (convL_cons (by first | exact conv_p _ | exact conv_nilP _ | exact conv_nil _ | exact conv_sl rfl | exact conv_nums rfl rfl rfl rfl (by rfl) (by rfl)) convL_nil)))) convL_nil))) ?_
        refine r_op rfl (o_zgtr (some 28) ⟨rfl, rfl⟩ (by exact (rfl : _ = Z _ _)) (by exact (rfl : _ = Z _ (0))) rfl) ?_
        refine r_end ?_
        refine s_n ?_
        refine r_cond rfl (fun hc_3 => ?_) (fun hc_3 => ?_)
        · try simp only [decide_eq_true_eq, decide_eq_false_iff_not, Nat.not_lt, Nat.not_le, Bool.and_eq_true, Bool.or_eq_true, Bool.and_eq_false_iff, Bool.or_eq_false_iff, Bool.not_eq_true', Bool.not_eq_false', beq_iff_eq, beq_eq_false_iff_ne, ne_eq, Decidable.not_not] at hc_3
          refine r_reg ?_
          refine r_op rfl (o_ldA (some 29) ⟨rfl, rfl⟩ rfl rfl rfl rfl ty26 rfl rfl rfl) ?_
          refine r_op rfl (o_fld (some 30) ⟨rfl, rfl⟩ rfl rfl rfl rfl ty54 fe54_1 ty26 rfl rfl) ?_
          refine r_op rfl (o_stA rfl rfl rfl rfl rfl rfl ty26 rfl rfl rfl rfl rfl) ?_
          refine r_end ?_
          refine b_n ?_
          refine s_n ?_
          refine r_reg ?_
          refine r_op rfl (o_add (some 31) ⟨rfl, rfl⟩ rfl (by exact (rfl : _ = I _ 1)) rfl (by first | (simp only [lim]; omega) | omega | (simp only [List.length_set]; omega) | (simp at hb; omega))) ?_
          refine r_op rfl (o_mv (some 13) ⟨rfl, rfl⟩ rfl (by exact (rfl : _ = I _ _))) ?_
          refine r_end ?_
          refine s_n ?_
          first | (exact ⟨⟨(i + 1, (l.getD i 0), (l.getD i 0)), by show i + 1 ≤ _; omega, by show (_, _) = arF x _; rw [arF_take x l hc, ← h2]; exact Prod.ext (by first | exact (if_pos (by assumption)).symm | exact (if_neg (by assumption)).symm) (by first | exact (if_pos (by assumption)).symm | exact (if_neg (by assumption)).symm)⟩, by show l.length - (i + 1) < l.length - i; omega, gh_st id (tlc (td_ptr rfl rfl) (tlc (td_ptr rfl rfl) (tlc (td_p rfl rfl) (tlc (td_I rfl rfl) (tlc (td_I rfl rfl) tl0))))) (hpc (hp_ps rfl rfl rfl rfl rfl) (hpc (hp_ps rfl rfl rfl rfl rfl) hp0)) rfl⟩) | (exact ⟨⟨(i + 1, (l.getD i 0), b), by show i + 1 ≤ _; omega, by show (_, _) = arF x _; rw [arF_take x l hc, ← h2]; exact Prod.ext (by first | exact (if_pos (by assumption)).symm | exact (if_neg (by assumption)).symm) (by first | exact (if_pos (by assumption)).symm | exact (if_neg (by assumption)).symm)⟩, by show l.length - (i + 1) < l.length - i; omega, gh_st id (tlc (td_ptr rfl rfl) (tlc (td_ptr rfl rfl) (tlc (td_p rfl rfl) (tlc (td_I rfl rfl) (tlc (td_I rfl rfl) tl0))))) (hpc (hp_ps rfl rfl rfl rfl rfl) (hpc (hp_ps rfl rfl rfl rfl rfl) hp0)) rfl⟩) | (exact ⟨⟨(i + 1, a, (l.getD i 0)), by show i + 1 ≤ _; omega, by show (_, _) = arF x _; rw [arF_take x l hc, ← h2]; exact Prod.ext (by first | exact (if_pos (by assumption)).symm | exact (if_neg (by assumption)).symm) (by first | exact (if_pos (by assumption)).symm | exact (if_neg (by assumption)).symm)⟩, by show l.length - (i + 1) < l.length - i; omega, gh_st id (tlc (td_ptr rfl rfl) (tlc (td_ptr rfl rfl) (tlc (td_p rfl rfl) (tlc (td_I rfl rfl) (tlc (td_I rfl rfl) tl0))))) (hpc (hp_ps rfl rfl rfl rfl rfl) (hpc (hp_ps rfl rfl rfl rfl rfl) hp0)) rfl⟩) | (exact ⟨⟨(i + 1, a, b), by show i + 1 ≤ _; omega, by show (_, _) = arF x _; rw [arF_take x l hc, ← h2]; exact Prod.ext (by first | exact (if_pos (by assumption)).symm | exact (if_neg (by assumption)).symm) (by first | exact (if_pos (by assumption)).symm | exact (if_neg (by assumption)).symm)⟩, by show l.length - (i + 1) < l.length - i; omega, gh_st id (tlc (td_ptr rfl rfl) (tlc (td_ptr rfl rfl) (tlc (td_p rfl rfl) (tlc (td_I rfl rfl) (tlc (td_I rfl rfl) tl0))))) (hpc (hp_ps rfl rfl rfl rfl rfl) (hpc (hp_ps rfl rfl rfl rfl rfl) hp0)) rfl⟩)
        · try simp only [decide_eq_true_eq, decide_eq_false_iff_not, Nat.not_lt, Nat.not_le, Bool.and_eq_true, Bool.or_eq_true, Bool.and_eq_false_iff, Bool.or_eq_false_iff, Bool.not_eq_true', Bool.not_eq_false', beq_iff_eq, beq_eq_false_iff_ne, ne_eq, Decidable.not_not] at hc_3
          refine r_skip ?_
          refine b_n ?_
          refine s_n ?_
          refine r_reg ?_
          refine r_op rfl (o_add (some 31) ⟨rfl, rfl⟩ rfl (by exact (rfl : _ = I _ 1)) rfl (by first | (simp only [lim]; omega) | omega | (simp only [List.length_set]; omega) | (simp at hb; omega))) ?_
          refine r_op rfl (o_mv (some 13) ⟨rfl, rfl⟩ rfl (by exact (rfl : _ = I _ _))) ?_
          refine r_end ?_
          refine s_n ?_
          first | (exact ⟨⟨(i + 1, (l.getD i 0), (l.getD i 0)), by show i + 1 ≤ _; omega, by show (_, _) = arF x _; rw [arF_take x l hc, ← h2]; exact Prod.ext (by first | exact (if_pos (by assumption)).symm | exact (if_neg (by assumption)).symm) (by first | exact (if_pos (by assumption)).symm | exact (if_neg (by assumption)).symm)⟩, by show l.length - (i + 1) < l.length - i; omega, gh_st id (tlc (td_ptr rfl rfl) (tlc (td_ptr rfl rfl) (tlc (td_p rfl rfl) (tlc (td_I rfl rfl) (tlc (td_I rfl rfl) tl0))))) (hpc (hp_ps rfl rfl rfl rfl rfl) (hpc (hp_ps rfl rfl rfl rfl rfl) hp0)) rfl⟩) | (exact ⟨⟨(i + 1, (l.getD i 0), b), by show i + 1 ≤ _; omega, by show (_, _) = arF x _; rw [arF_take x l hc, ← h2]; exact Prod.ext (by first | exact (if_pos (by assumption)).symm | exact (if_neg (by assumption)).symm) (by first | exact (if_pos (by assumption)).symm | exact (if_neg (by assumption)).symm)⟩, by show l.length - (i + 1) < l.length - i; omega, gh_st id (tlc (td_ptr rfl rfl) (tlc (td_ptr rfl rfl) (tlc (td_p rfl rfl) (tlc (td_I rfl rfl) (tlc (td_I rfl rfl) tl0))))) (hpc (hp_ps rfl rfl rfl rfl rfl) (hpc (hp_ps rfl rfl rfl rfl rfl) hp0)) rfl⟩) | (exact ⟨⟨(i + 1, a, (l.getD i 0)), by show i + 1 ≤ _; omega, by show (_, _) = arF x _; rw [arF_take x l hc, ← h2]; exact Prod.ext (by first | exact (if_pos (by assumption)).symm | exact (if_neg (by assumption)).symm) (by first | exact (if_pos (by assumption)).symm | exact (if_neg (by assumption)).symm)⟩, by show l.length - (i + 1) < l.length - i; omega, gh_st id (tlc (td_ptr rfl rfl) (tlc (td_ptr rfl rfl) (tlc (td_p rfl rfl) (tlc (td_I rfl rfl) (tlc (td_I rfl rfl) tl0))))) (hpc (hp_ps rfl rfl rfl rfl rfl) (hpc (hp_ps rfl rfl rfl rfl rfl) hp0)) rfl⟩) | (exact ⟨⟨(i + 1, a, b), by show i + 1 ≤ _; omega, by show (_, _) = arF x _; rw [arF_take x l hc, ← h2]; exact Prod.ext (by first | exact (if_pos (by assumption)).symm | exact (if_neg (by assumption)).symm) (by first | exact (if_pos (by assumption)).symm | exact (if_neg (by assumption)).symm)⟩, by show l.length - (i + 1) < l.length - i; omega, gh_st id (tlc (td_ptr rfl rfl) (tlc (td_ptr rfl rfl) (tlc (td_p rfl rfl) (tlc (td_I rfl rfl) (tlc (td_I rfl rfl) tl0))))) (hpc (hp_ps rfl rfl rfl rfl rfl) (hpc (hp_ps rfl rfl rfl rfl rfl) hp0)) rfl⟩)
    · try simp only [decide_eq_true_eq, decide_eq_false_iff_not, Nat.not_lt, Nat.not_le, Bool.and_eq_true, Bool.or_eq_true, Bool.and_eq_false_iff, Bool.or_eq_false_iff, Bool.not_eq_true', Bool.not_eq_false', beq_iff_eq, beq_eq_false_iff_ne, ne_eq, Decidable.not_not] at hc
      refine r_exit ?_
      refine s_exit ?_
      refine s_exit ?_
      refine b_here ?_
      refine s_n ?_
      refine r_seq ?_
      refine r_reg ?_
      refine r_op rfl (o_ldA (some 32) ⟨rfl, rfl⟩ rfl rfl rfl rfl ty54 rfl rfl rfl) ?_
      refine r_op rfl (o_stA rfl rfl rfl rfl rfl rfl ty54 rfl rfl rfl rfl rfl) ?_
      refine r_end ?_
      refine s_n ?_
      refine r_ret ?_
      refine ⟨.inl rfl, [spP (arF x l)], rfl, ?_⟩
      exact resL_cons (res_cell rfl rfl rfl ty54 rfl (Nat.le_of_ble_eq_true rfl) (conv_sp rfl (by rw [h2, List.take_of_length_le (by omega)]))) (resL_nil)

theorem w_between (a b : Rat) (ha : qh a < 17179869184) (hb : qh b < 17179869184) : FnP prog 43 [qP a, qP b] (packP [spP (arF a [b])]) := by
  refine fnP_of (fn := f43) fn43 rfl (Nat.le_of_ble_eq_true rfl) ?_
  refine r_seq ?_
  refine r_reg ?_
  refine r_op rfl (o_box (some 2) ⟨rfl, rfl⟩ rfl 2 rfl rfl rfl rfl) ?_
  refine r_op rfl (o_box (some 3) ⟨rfl, rfl⟩ rfl 3 rfl rfl rfl rfl) ?_
  refine r_op rfl (o_alloc (some 4) ⟨rfl, rfl⟩ rfl 4 rfl rfl ty54 rfl rfl) ?_
  refine r_end ?_
  refine s_n ?_
  refine r_seq ?_
  refine r_reg ?_
  refine r_op rfl (o_ldA (some 5) ⟨rfl, rfl⟩ rfl rfl rfl rfl ty26 rfl rfl rfl) ?_
  refine r_op rfl (o_ldA (some 6) ⟨rfl, rfl⟩ rfl rfl rfl rfl ty26 rfl rfl rfl) ?_
  refine r_op rfl (o_bsP (some 7) ⟨rfl, rfl⟩ rfl 7 rfl rfl ty69 ty26 rfl rfl rfl rfl rfl rfl) ?_
  refine r_op rfl (o_call (some 8) ⟨rfl, rfl⟩ tx101 rfl rfl (w_around a [b] (by omega) (mem1 (by omega)) (by show _ < _; simp)) (convL_cons (by first | exact conv_p _ | exact conv_q0 | exact conv_agg (convL_cons (by first | exact conv_p _ | exact conv_nilP _ | exact conv_nil _ | exact conv_sl rfl | exact conv_nums rfl rfl rfl rfl (by rfl) (by rfl)) (convL_cons (by first | exact conv_p _ | exact conv_nilP _ | exact conv_nil _ | exact conv_sl rfl | exact conv_nums rfl rfl rfl rfl (by rfl) (by rfl)) (convL_cons (by first | exact conv_p _ | exact conv_nilP _ | exact conv_nil _ | exact conv_sl rfl | exact conv_nums rfl rfl rfl rfl (by rfl) (by rfl)) convL_nil)))) (convL_cons (by first | exact conv_p _ | exact conv_nil _ | exact conv_qL rfl rfl rfl rfl rfl | exact conv_sL rfl rfl rfl rfl rfl) convL_nil))) ?_
  refine r_op rfl (o_stA rfl rfl rfl rfl rfl rfl ty54 rfl rfl rfl rfl rfl) ?_
  refine r_end ?_
  refine s_n ?_
  refine r_ret ?_
  refine ⟨.inl rfl, [spP (arF a [b])], rfl, ?_⟩
  exact resL_cons (res_cell rfl rfl rfl ty54 rfl (Nat.le_of_ble_eq_true rfl) (by first | exact conv_p _ | exact conv_agg (convL_cons (by first | exact conv_p _ | exact conv_nilP _ | exact conv_nil _ | exact conv_sl rfl | exact conv_nums rfl rfl rfl rfl (by rfl) (by rfl)) (convL_cons (by first | exact conv_p _ | exact conv_nilP _ | exact conv_nil _ | exact conv_sl rfl | exact conv_nums rfl rfl rfl rfl (by rfl) (by rfl)) (convL_cons (by first | exact conv_p _ | exact conv_nilP _ | exact conv_nil _ | exact conv_sl rfl | exact conv_nums rfl rfl rfl rfl (by rfl) (by rfl)) (convL_cons (by first | exact conv_p _ | exact conv_nilP _ | exact conv_nil _ | exact conv_sl rfl | exact conv_nums rfl rfl rfl rfl (by rfl) (by rfl)) (convL_cons (by first | exact conv_p _ | exact conv_nilP _ | exact conv_nil _ | exact conv_sl rfl | exact conv_nums rfl rfl rfl rfl (by rfl) (by rfl)) (convL_cons (by first | exact conv_p _ | exact conv_nilP _ | exact conv_nil _ | exact conv_sl rfl | exact conv_nums rfl rfl rfl rfl (by rfl) (by rfl)) convL_nil)))))))) (resL_nil)

theorem w_order (p : Rat × Rat) (h : spB p 17179869184) : FnP prog 100 [spP p] (packP [spP (arF p.1 [p.2])]) := by
  obtain ⟨h1, h2⟩ := h
  refine fnP_of (fn := f100) fn100 rfl (Nat.le_of_ble_eq_true rfl) ?_
  refine r_seq ?_
  refine r_reg ?_
  refine r_op rfl (o_box (some 1) ⟨rfl, rfl⟩ rfl 1 rfl rfl rfl rfl) ?_
  refine r_op rfl (o_alloc (some 2) ⟨rfl, rfl⟩ rfl 2 rfl rfl ty54 rfl rfl) ?_
  refine r_end ?_
  refine s_n ?_
  refine r_seq ?_
  refine r_reg ?_
  refine r_op rfl (o_fld (some 3) ⟨rfl, rfl⟩ rfl rfl rfl rfl ty54 fe54_0 ty26 rfl rfl) ?_
  refine r_op rfl (o_ldA (some 4) ⟨rfl, rfl⟩ rfl rfl rfl rfl ty26 rfl rfl rfl) ?_
  refine r_op rfl (o_fld (some 5) ⟨rfl, rfl⟩ rfl rfl rfl rfl ty54 fe54_1 ty26 rfl rfl) ?_
  refine r_op rfl (o_ldA (some 6) ⟨rfl, rfl⟩ rfl rfl rfl rfl ty26 rfl rfl rfl) ?_
  refine r_op rfl (o_bsP (some 7) ⟨rfl, rfl⟩ rfl 7 rfl rfl ty69 ty26 rfl rfl rfl rfl rfl rfl) ?_
  refine r_op rfl (o_call (some 8) ⟨rfl, rfl⟩ tx101 rfl rfl (w_around p.1 [p.2] (by omega) (mem1 (by omega)) (by show _ < _; simp)) (convL_cons (by first | exact conv_p _ | exact conv_q0 | exact conv_agg (convL_cons (by first | exact conv_p _ | exact conv_nilP _ | exact conv_nil _ | exact conv_sl rfl | exact conv_nums rfl rfl rfl rfl (by rfl) (by rfl)) (convL_cons (by first | exact conv_p _ | exact conv_nilP _ | exact conv_nil _ | exact conv_sl rfl | exact conv_nums rfl rfl rfl rfl (by rfl) (by rfl)) (convL_cons (by first | exact conv_p _ | exact conv_nilP _ | exact conv_nil _ | exact conv_sl rfl | exact conv_nums rfl rfl rfl rfl (by rfl) (by rfl)) convL_nil)))) (convL_cons (by first | exact conv_p _ | exact conv_nil _ | exact conv_qL rfl rfl rfl rfl rfl | exact conv_sL rfl rfl rfl rfl rfl) convL_nil))) ?_
  refine r_op rfl (o_stA rfl rfl rfl rfl rfl rfl ty54 rfl rfl rfl rfl rfl) ?_
  refine r_end ?_
  refine s_n ?_
  refine r_ret ?_
  refine ⟨.inl rfl, [spP (arF p.1 [p.2])], rfl, ?_⟩
  exact resL_cons (res_cell rfl rfl rfl ty54 rfl (Nat.le_of_ble_eq_true rfl) (by first | exact conv_p _ | exact conv_agg (convL_cons (by first | exact conv_p _ | exact conv_nilP _ | exact conv_nil _ | exact conv_sl rfl | exact conv_nums rfl rfl rfl rfl (by rfl) (by rfl)) (convL_cons (by first | exact conv_p _ | exact conv_nilP _ | exact conv_nil _ | exact conv_sl rfl | exact conv_nums rfl rfl rfl rfl (by rfl) (by rfl)) (convL_cons (by first | exact conv_p _ | exact conv_nilP _ | exact conv_nil _ | exact conv_sl rfl | exact conv_nums rfl rfl rfl rfl (by rfl) (by rfl)) (convL_cons (by first | exact conv_p _ | exact conv_nilP _ | exact conv_nil _ | exact conv_sl rfl | exact conv_nums rfl rfl rfl rfl (by rfl) (by rfl)) (convL_cons (by first | exact conv_p _ | exact conv_nilP _ | exact conv_nil _ | exact conv_sl rfl | exact conv_nums rfl rfl rfl rfl (by rfl) (by rfl)) (convL_cons (by first | exact conv_p _ | exact conv_nilP _ | exact conv_nil _ | exact conv_sl rfl | exact conv_nums rfl rfl rfl rfl (by rfl) (by rfl)) convL_nil)))))))) (resL_nil)

theorem w_has (p : Rat × Rat) (h : spB p 17179869184) (x : Rat) (hx : qh x < 17179869184) : FnP prog 45 [spP p, qP x] (packP [.v (.bool (hasF p x))]) := by
  have hz : spB (arF p.1 [p.2]) 17179869184 := arF_b h.1 (mem1 h.2)
  refine fnP_of (fn := f45) fn45 rfl (Nat.le_of_ble_eq_true rfl) ?_
  refine r_seq ?_
  refine r_reg ?_
  refine r_op rfl (o_box (some 2) ⟨rfl, rfl⟩ rfl 2 rfl rfl rfl rfl) ?_
  refine r_op rfl (o_box (some 3) ⟨rfl, rfl⟩ rfl 3 rfl rfl rfl rfl) ?_
  refine r_op rfl (o_as (some 4) ⟨rfl, rfl⟩ rfl (by exact (rfl : _ = AV.p _))) ?_
  refine r_end ?_
  refine s_n ?_
  refine r_seq ?_
  refine r_reg ?_
  refine r_op rfl (o_ldA (some 5) ⟨rfl, rfl⟩ rfl rfl rfl rfl ty54 rfl rfl rfl) ?_
  refine r_op rfl (o_call (some 6) ⟨rfl, rfl⟩ tx100 rfl rfl (w_order p h) (convL_cons (by first | exact conv_p _ | exact conv_agg (convL_cons (by first | exact conv_p _ | exact conv_nilP _ | exact conv_nil _ | exact conv_sl rfl | exact conv_nums rfl rfl rfl rfl (by rfl) (by rfl)) (convL_cons (by first | exact conv_p _ | exact conv_nilP _ | exact conv_nil _ | exact conv_sl rfl | exact conv_nums rfl rfl rfl rfl (by rfl) (by rfl)) (convL_cons (by first | exact conv_p _ | exact conv_nilP _ | exact conv_nil _ | exact conv_sl rfl | exact conv_nums rfl rfl rfl rfl (by rfl) (by rfl)) (convL_cons (by first | exact conv_p _ | exact conv_nilP _ | exact conv_nil _ | exact conv_sl rfl | exact conv_nums rfl rfl rfl rfl (by rfl) (by rfl)) (convL_cons (by first | exact conv_p _ | exact conv_nilP _ | exact conv_nil _ | exact conv_sl rfl | exact conv_nums rfl rfl rfl rfl (by rfl) (by rfl)) (convL_cons (by first | exact conv_p _ | exact conv_nilP _ | exact conv_nil _ | exact conv_sl rfl | exact conv_nums rfl rfl rfl rfl (by rfl) (by rfl)) convL_nil))))))) convL_nil)) ?_
  refine r_op rfl (o_stA rfl rfl rfl rfl rfl rfl ty54 rfl rfl rfl rfl rfl) ?_
  refine r_end ?_
  refine s_n ?_
  refine r_seq ?_
  refine r_reg ?_
  refine r_op rfl (o_fld (some 7) ⟨rfl, rfl⟩ rfl rfl rfl rfl ty54 fe54_0 ty26 rfl rfl) ?_
  refine r_op rfl (o_ldA (some 8) ⟨rfl, rfl⟩ rfl rfl rfl rfl ty26 rfl rfl rfl) ?_
  refine r_op rfl (o_ldA (some 9) ⟨rfl, rfl⟩ rfl rfl rfl rfl ty26 rfl rfl rfl) ?_
  refine r_op rfl (o_call (some 10) ⟨rfl, rfl⟩ tx29 rfl rfl (w_cmpq (arF p.1 [p.2]).1 x hz.1 hx) (convL_cons (by first | exact conv_p _ | exact conv_q0 | exact conv_agg (convL_cons (by first | exact conv_p _ | exact conv_nilP _ | exact conv_nil _ | exact conv_sl rfl | exact conv_nums rfl rfl rfl rfl (by rfl) (by rfl)) (convL_cons (by first | exact conv_p _ | exact conv_nilP _ | exact conv_nil _ | exact conv_sl rfl | exact conv_nums rfl rfl rfl rfl (by rfl) (by rfl)) (convL_cons (by first | exact conv_p _ | exact conv_nilP _ | exact conv_nil _ | exact conv_sl rfl | exact conv_nums rfl rfl rfl rfl (by rfl) (by rfl)) convL_nil)))) (convL_cons (by first | exact conv_p _ | exact conv_q0 | exact conv_agg (convL_cons (by first | exact conv_p _ | exact conv_nilP _ | exact conv_nil _ | exact conv_sl rfl | exact conv_nums rfl rfl rfl rfl (by rfl) (by rfl)) (convL_cons (by first | exact conv_p _ | exact conv_nilP _ | exact conv_nil _ | exact conv_sl rfl | exact conv_nums rfl rfl rfl rfl (by rfl) (by rfl)) (convL_cons (by first | exact conv_p _ | exact conv_nilP _ | exact conv_nil _ | exact conv_sl rfl | exact conv_nums rfl rfl rfl rfl (by rfl) (by rfl)) convL_nil)))) convL_nil))) ?_
  refine r_op rfl (o_zleq (some 11) ⟨rfl, rfl⟩ (by exact (rfl : _ = Z _ _)) (by exact (rfl : _ = Z _ (0))) rfl) ?_
  refine r_op rfl (o_mv (some 12) ⟨rfl, rfl⟩ rfl (by exact (rfl : _ = Bo _))) ?_
  refine r_gd (d := some 13) rfl rfl rfl rfl ⟨rfl, rfl⟩ (fun hb => o_ldA (some 13) ⟨rfl, rfl⟩ rfl rfl rfl rfl ty26 rfl rfl rfl) ?_
  refine r_gd (d := some 14) rfl rfl rfl rfl ⟨rfl, rfl⟩ (fun hb => o_fld (some 14) ⟨rfl, rfl⟩ rfl rfl rfl rfl ty54 fe54_1 ty26 rfl rfl) ?_
  refine r_gd (d := some 15) rfl rfl rfl rfl ⟨rfl, rfl⟩ (fun hb => o_ldA (some 15) ⟨rfl, rfl⟩ rfl (by exact gd hb) rfl rfl ty26 rfl rfl rfl) ?_
  refine r_gd (d := some 16) rfl rfl rfl rfl ⟨rfl, rfl⟩ (fun hb => o_call (some 16) ⟨rfl, rfl⟩ tx29 rfl rfl (w_cmpq x (arF p.1 [p.2]).2 hx hz.2) (convL_cons (conv_gd hb (by first | exact conv_p _ | exact conv_q0 | exact conv_agg (convL_cons (by first | exact conv_p _ | exact conv_nilP _ | exact conv_nil _ | exact conv_sl rfl | exact conv_nums rfl rfl rfl rfl (by rfl) (by rfl)) (convL_cons (by first | exact conv_p _ | exact conv_nilP _ | exact conv_nil _ | exact conv_sl rfl | exact conv_nums rfl rfl rfl rfl (by rfl) (by rfl)) (convL_cons (by first | exact conv_p _ | exact conv_nilP _ | exact conv_nil _ | exact conv_sl rfl | exact conv_nums rfl rfl rfl rfl (by rfl) (by rfl)) convL_nil))))) (convL_cons (conv_gd hb (by first | exact conv_p _ | exact conv_q0 | exact conv_agg (convL_cons (by first | exact conv_p _ | exact conv_nilP _ | exact conv_nil _ | exact conv_sl rfl | exact conv_nums rfl rfl rfl rfl (by rfl) (by rfl)) (convL_cons (by first | exact conv_p _ | exact conv_nilP _ | exact conv_nil _ | exact conv_sl rfl | exact conv_nums rfl rfl rfl rfl (by rfl) (by rfl)) (convL_cons (by first | exact conv_p _ | exact conv_nilP _ | exact conv_nil _ | exact conv_sl rfl | exact conv_nums rfl rfl rfl rfl (by rfl) (by rfl)) convL_nil))))) convL_nil))) ?_
  refine r_gd (d := some 17) rfl rfl rfl rfl ⟨rfl, rfl⟩ (fun hb => o_zleq (some 17) ⟨rfl, rfl⟩ (by exact (gd hb : _ = Z _ _)) (by exact (rfl : _ = Z _ (0))) rfl) ?_
  refine r_op rfl (o_and (some 18) ⟨rfl, rfl⟩ rfl rfl rfl rfl) ?_
  refine r_op rfl (o_as (some 4) ⟨rfl, rfl⟩ rfl (by exact (rfl : _ = Bo _))) ?_
  refine r_end ?_
  refine s_n ?_
  refine r_ret ?_
  refine ⟨.inl rfl, [.v (.bool (hasF p x))], rfl, ?_⟩
  exact resL_cons (res_tmp (conv_p _)) (resL_nil)

theorem w_hull (p q : Rat × Rat) (h : spB p 17179869184) (k : spB q 17179869184) : FnP prog 62 [spP p, spP q] (packP [spP (hullF p q)]) := by
  obtain ⟨h1, h2⟩ := h
  obtain ⟨k1, k2⟩ := k
  refine fnP_of (fn := f62) fn62 rfl (Nat.le_of_ble_eq_true rfl) ?_
  refine r_seq ?_
  refine r_reg ?_
  refine r_op rfl (o_box (some 2) ⟨rfl, rfl⟩ rfl 2 rfl rfl rfl rfl) ?_
  refine r_op rfl (o_box (some 3) ⟨rfl, rfl⟩ rfl 3 rfl rfl rfl rfl) ?_
  refine r_op rfl (o_alloc (some 4) ⟨rfl, rfl⟩ rfl 4 rfl rfl ty54 rfl rfl) ?_
  refine r_end ?_
  refine s_n ?_
  refine r_seq ?_
  refine r_reg ?_
  refine r_op rfl (o_fld (some 5) ⟨rfl, rfl⟩ rfl rfl rfl rfl ty54 fe54_0 ty26 rfl rfl) ?_
  refine r_op rfl (o_ldA (some 6) ⟨rfl, rfl⟩ rfl rfl rfl rfl ty26 rfl rfl rfl) ?_
  refine r_op rfl (o_fld (some 7) ⟨rfl, rfl⟩ rfl rfl rfl rfl ty54 fe54_1 ty26 rfl rfl) ?_
  refine r_op rfl (o_ldA (some 8) ⟨rfl, rfl⟩ rfl rfl rfl rfl ty26 rfl rfl rfl) ?_
  refine r_op rfl (o_fld (some 9) ⟨rfl, rfl⟩ rfl rfl rfl rfl ty54 fe54_0 ty26 rfl rfl) ?_
  refine r_op rfl (o_ldA (some 10) ⟨rfl, rfl⟩ rfl rfl rfl rfl ty26 rfl rfl rfl) ?_
  refine r_op rfl (o_fld (some 11) ⟨rfl, rfl⟩ rfl rfl rfl rfl ty54 fe54_1 ty26 rfl rfl) ?_
  refine r_op rfl (o_ldA (some 12) ⟨rfl, rfl⟩ rfl rfl rfl rfl ty26 rfl rfl rfl) ?_
  refine r_op rfl (o_bsP (some 13) ⟨rfl, rfl⟩ rfl 13 rfl rfl ty69 ty26 rfl rfl rfl rfl rfl rfl) ?_
  refine r_op rfl (o_call (some 14) ⟨rfl, rfl⟩ tx101 rfl rfl (w_around p.1 [p.2, q.1, q.2] (by omega) (mem3 (by omega) (by omega) (by omega)) (by show _ < _; simp)) (convL_cons (by first | exact conv_p _ | exact conv_q0 | exact conv_agg (convL_cons (by first | exact conv_p _ | exact conv_nilP _ | exact conv_nil _ | exact conv_sl rfl | exact conv_nums rfl rfl rfl rfl (by rfl) (by rfl)) (convL_cons (by first | exact conv_p _ | exact conv_nilP _ | exact conv_nil _ | exact conv_sl rfl | exact conv_nums rfl rfl rfl rfl (by rfl) (by rfl)) (convL_cons (by first | exact conv_p _ | exact conv_nilP _ | exact conv_nil _ | exact conv_sl rfl | exact conv_nums rfl rfl rfl rfl (by rfl) (by rfl)) convL_nil)))) (convL_cons (by first | exact conv_p _ | exact conv_nil _ | exact conv_qL rfl rfl rfl rfl rfl | exact conv_sL rfl rfl rfl rfl rfl) convL_nil))) ?_
  refine r_op rfl (o_stA rfl rfl rfl rfl rfl rfl ty54 rfl rfl rfl rfl rfl) ?_
  refine r_end ?_
  refine s_n ?_
  refine r_ret ?_
  refine ⟨.inl rfl, [spP (hullF p q)], rfl, ?_⟩
  exact resL_cons (res_cell rfl rfl rfl ty54 rfl (Nat.le_of_ble_eq_true rfl) (by first | exact conv_p _ | exact conv_agg (convL_cons (by first | exact conv_p _ | exact conv_nilP _ | exact conv_nil _ | exact conv_sl rfl | exact conv_nums rfl rfl rfl rfl (by rfl) (by rfl)) (convL_cons (by first | exact conv_p _ | exact conv_nilP _ | exact conv_nil _ | exact conv_sl rfl | exact conv_nums rfl rfl rfl rfl (by rfl) (by rfl)) (convL_cons (by first | exact conv_p _ | exact conv_nilP _ | exact conv_nil _ | exact conv_sl rfl | exact conv_nums rfl rfl rfl rfl (by rfl) (by rfl)) (convL_cons (by first | exact conv_p _ | exact conv_nilP _ | exact conv_nil _ | exact conv_sl rfl | exact conv_nums rfl rfl rfl rfl (by rfl) (by rfl)) (convL_cons (by first | exact conv_p _ | exact conv_nilP _ | exact conv_nil _ | exact conv_sl rfl | exact conv_nums rfl rfl rfl rfl (by rfl) (by rfl)) (convL_cons (by first | exact conv_p _ | exact conv_nilP _ | exact conv_nil _ | exact conv_sl rfl | exact conv_nums rfl rfl rfl rfl (by rfl) (by rfl)) convL_nil)))))))) (resL_nil)

theorem w_all {g : FuncId} (hT : Txt prog g) (F : Rat → Rat → Rat) (p q : Rat × Rat) (f1 : FnP prog g [qP p.1, qP q.1] (packP [qP (F p.1 q.1)])) (b1 : qh (F p.1 q.1) < 17179869184) (f2 : FnP prog g [qP p.1, qP q.2] (packP [qP (F p.1 q.2)])) (b2 : qh (F p.1 q.2) < 17179869184) (f3 : FnP prog g [qP p.2, qP q.1] (packP [qP (F p.2 q.1)])) (b3 : qh (F p.2 q.1) < 17179869184) (f4 : FnP prog g [qP p.2, qP q.2] (packP [qP (F p.2 q.2)])) (b4 : qh (F p.2 q.2) < 17179869184) : FnP prog 111 [spP p, spP q, fnV g] (packP [spP (alF F p q)]) := by
  refine fnP_of (fn := f111) fn111 rfl (Nat.le_of_ble_eq_true rfl) ?_
  refine r_seq ?_
  refine r_reg ?_
  refine r_op rfl (o_box (some 3) ⟨rfl, rfl⟩ rfl 3 rfl rfl rfl rfl) ?_
  refine r_op rfl (o_box (some 4) ⟨rfl, rfl⟩ rfl 4 rfl rfl rfl rfl) ?_
  refine r_op rfl (o_alloc (some 6) ⟨rfl, rfl⟩ rfl 6 rfl rfl ty54 rfl rfl) ?_
  refine r_end ?_
  refine s_n ?_
  refine r_seq ?_
  refine r_drawn mixed ?_
  refine d_op [2] [] rfl rfl (fun s hs => o_mv (some 7) ⟨rfl, rfl⟩ rfl (by first | exact ((hs.1 2 rfl).trans (rfl) : _ = I _ _) | exact ((hs.1 2 rfl).trans (rfl) : _ = AV.p _) | exact ((hs.1 2 rfl).trans (rfl) : _ = AV.ptr _ _) | exact ((hs.1 2 rfl).trans (rfl) : _ = AV.own _ _ _ _ _) | exact ((hs.1 2 rfl).trans (rfl) : _ = AV.agg _) | exact ((hs.1 2 rfl).trans (rfl) : _ = AV.fn _ _))) ?_
  refine d_op [3] [3, 4] rfl rfl (fun s hs => o_fld (some 8) ⟨rfl, rfl⟩ rfl (by exact (hs.1 3 rfl).trans (rfl)) (by exact (hs.2.1 _ rfl).trans rfl) rfl ty54 fe54_0 ty26 rfl rfl) ?_
  refine d_op [8] [3, 4] rfl rfl (fun s hs => o_ldA (some 9) ⟨rfl, rfl⟩ rfl (by exact (hs.1 8 rfl).trans (rfl)) (by exact (hs.2.1 _ rfl).trans rfl) rfl ty26 rfl rfl rfl) ?_
  refine d_op [4] [3, 4] rfl rfl (fun s hs => o_fld (some 10) ⟨rfl, rfl⟩ rfl (by exact (hs.1 4 rfl).trans (rfl)) (by exact (hs.2.1 _ rfl).trans rfl) rfl ty54 fe54_0 ty26 rfl rfl) ?_
  refine d_op [10] [3, 4] rfl rfl (fun s hs => o_ldA (some 11) ⟨rfl, rfl⟩ rfl (by exact (hs.1 10 rfl).trans (rfl)) (by exact (hs.2.1 _ rfl).trans rfl) rfl ty26 rfl rfl rfl) ?_
  refine d_op [7, 9, 11] [3, 4] rfl rfl (fun s hs => o_callV (some 12) ⟨rfl, rfl⟩ hT rfl (by exact (hs.1 7 rfl).trans (rfl)) f1 (convL_cons (conv_e (hs.1 9 rfl) (by first | exact conv_p _ | exact conv_q0 | exact conv_agg (convL_cons (by first | exact conv_p _ | exact conv_nilP _ | exact conv_nil _ | exact conv_sl rfl | exact conv_nums (by exact (hs.2.1 _ rfl).trans rfl) rfl rfl rfl (by rfl) (by rfl)) (convL_cons (by first | exact conv_p _ | exact conv_nilP _ | exact conv_nil _ | exact conv_sl rfl | exact conv_nums (by exact (hs.2.1 _ rfl).trans rfl) rfl rfl rfl (by rfl) (by rfl)) (convL_cons (by first | exact conv_p _ | exact conv_nilP _ | exact conv_nil _ | exact conv_sl rfl | exact conv_nums (by exact (hs.2.1 _ rfl).trans rfl) rfl rfl rfl (by rfl) (by rfl)) convL_nil))))) (convL_cons (conv_e (hs.1 11 rfl) (by first | exact conv_p _ | exact conv_q0 | exact conv_agg (convL_cons (by first | exact conv_p _ | exact conv_nilP _ | exact conv_nil _ | exact conv_sl rfl | exact conv_nums (by exact (hs.2.1 _ rfl).trans rfl) rfl rfl rfl (by rfl) (by rfl)) (convL_cons (by first | exact conv_p _ | exact conv_nilP _ | exact conv_nil _ | exact conv_sl rfl | exact conv_nums (by exact (hs.2.1 _ rfl).trans rfl) rfl rfl rfl (by rfl) (by rfl)) (convL_cons (by first | exact conv_p _ | exact conv_nilP _ | exact conv_nil _ | exact conv_sl rfl | exact conv_nums (by exact (hs.2.1 _ rfl).trans rfl) rfl rfl rfl (by rfl) (by rfl)) convL_nil))))) convL_nil))) ?_
  refine d_op [2] [] rfl rfl (fun s hs => o_mv (some 13) ⟨rfl, rfl⟩ rfl (by first | exact ((hs.1 2 rfl).trans (rfl) : _ = I _ _) | exact ((hs.1 2 rfl).trans (rfl) : _ = AV.p _) | exact ((hs.1 2 rfl).trans (rfl) : _ = AV.ptr _ _) | exact ((hs.1 2 rfl).trans (rfl) : _ = AV.own _ _ _ _ _) | exact ((hs.1 2 rfl).trans (rfl) : _ = AV.agg _) | exact ((hs.1 2 rfl).trans (rfl) : _ = AV.fn _ _))) ?_
  refine d_op [3] [3, 4] rfl rfl (fun s hs => o_fld (some 14) ⟨rfl, rfl⟩ rfl (by exact (hs.1 3 rfl).trans (rfl)) (by exact (hs.2.1 _ rfl).trans rfl) rfl ty54 fe54_0 ty26 rfl rfl) ?_
  refine d_op [14] [3, 4] rfl rfl (fun s hs => o_ldA (some 15) ⟨rfl, rfl⟩ rfl (by exact (hs.1 14 rfl).trans (rfl)) (by exact (hs.2.1 _ rfl).trans rfl) rfl ty26 rfl rfl rfl) ?_
  refine d_op [4] [3, 4] rfl rfl (fun s hs => o_fld (some 16) ⟨rfl, rfl⟩ rfl (by exact (hs.1 4 rfl).trans (rfl)) (by exact (hs.2.1 _ rfl).trans rfl) rfl ty54 fe54_1 ty26 rfl rfl) ?_
  refine d_op [16] [3, 4] rfl rfl (fun s hs => o_ldA (some 17) ⟨rfl, rfl⟩ rfl (by exact (hs.1 16 rfl).trans (rfl)) (by exact (hs.2.1 _ rfl).trans rfl) rfl ty26 rfl rfl rfl) ?_
  refine d_op [13, 15, 17] [3, 4] rfl rfl (fun s hs => o_callV (some 18) ⟨rfl, rfl⟩ hT rfl (by exact (hs.1 13 rfl).trans (rfl)) f2 (convL_cons (conv_e (hs.1 15 rfl) (by first | exact conv_p _ | exact conv_q0 | exact conv_agg (convL_cons (by first | exact conv_p _ | exact conv_nilP _ | exact conv_nil _ | exact conv_sl rfl | exact conv_nums (by exact (hs.2.1 _ rfl).trans rfl) rfl rfl rfl (by rfl) (by rfl)) (convL_cons (by first | exact conv_p _ | exact conv_nilP _ | exact conv_nil _ | exact conv_sl rfl | exact conv_nums (by exact (hs.2.1 _ rfl).trans rfl) rfl rfl rfl (by rfl) (by rfl)) (convL_cons (by first | exact conv_p _ | exact conv_nilP _ | exact conv_nil _ | exact conv_sl rfl | exact conv_nums (by exact (hs.2.1 _ rfl).trans rfl) rfl rfl rfl (by rfl) (by rfl)) convL_nil))))) (convL_cons (conv_e (hs.1 17 rfl) (by first | exact conv_p _ | exact conv_q0 | exact conv_agg (convL_cons (by first | exact conv_p _ | exact conv_nilP _ | exact conv_nil _ | exact conv_sl rfl | exact conv_nums (by exact (hs.2.1 _ rfl).trans rfl) rfl rfl rfl (by rfl) (by rfl)) (convL_cons (by first | exact conv_p _ | exact conv_nilP _ | exact conv_nil _ | exact conv_sl rfl | exact conv_nums (by exact (hs.2.1 _ rfl).trans rfl) rfl rfl rfl (by rfl) (by rfl)) (convL_cons (by first | exact conv_p _ | exact conv_nilP _ | exact conv_nil _ | exact conv_sl rfl | exact conv_nums (by exact (hs.2.1 _ rfl).trans rfl) rfl rfl rfl (by rfl) (by rfl)) convL_nil))))) convL_nil))) ?_
  refine d_op [2] [] rfl rfl (fun s hs => o_mv (some 19) ⟨rfl, rfl⟩ rfl (by first | exact ((hs.1 2 rfl).trans (rfl) : _ = I _ _) | exact ((hs.1 2 rfl).trans (rfl) : _ = AV.p _) | exact ((hs.1 2 rfl).trans (rfl) : _ = AV.ptr _ _) | exact ((hs.1 2 rfl).trans (rfl) : _ = AV.own _ _ _ _ _) | exact ((hs.1 2 rfl).trans (rfl) : _ = AV.agg _) | exact ((hs.1 2 rfl).trans (rfl) : _ = AV.fn _ _))) ?_
  refine d_op [3] [3, 4] rfl rfl (fun s hs => o_fld (some 20) ⟨rfl, rfl⟩ rfl (by exact (hs.1 3 rfl).trans (rfl)) (by exact (hs.2.1 _ rfl).trans rfl) rfl ty54 fe54_1 ty26 rfl rfl) ?_
  refine d_op [20] [3, 4] rfl rfl (fun s hs => o_ldA (some 21) ⟨rfl, rfl⟩ rfl (by exact (hs.1 20 rfl).trans (rfl)) (by exact (hs.2.1 _ rfl).trans rfl) rfl ty26 rfl rfl rfl) ?_
  refine d_op [4] [3, 4] rfl rfl (fun s hs => o_fld (some 22) ⟨rfl, rfl⟩ rfl (by exact (hs.1 4 rfl).trans (rfl)) (by exact (hs.2.1 _ rfl).trans rfl) rfl ty54 fe54_0 ty26 rfl rfl) ?_
  refine d_op [22] [3, 4] rfl rfl (fun s hs => o_ldA (some 23) ⟨rfl, rfl⟩ rfl (by exact (hs.1 22 rfl).trans (rfl)) (by exact (hs.2.1 _ rfl).trans rfl) rfl ty26 rfl rfl rfl) ?_
  refine d_op [19, 21, 23] [3, 4] rfl rfl (fun s hs => o_callV (some 24) ⟨rfl, rfl⟩ hT rfl (by exact (hs.1 19 rfl).trans (rfl)) f3 (convL_cons (conv_e (hs.1 21 rfl) (by first | exact conv_p _ | exact conv_q0 | exact conv_agg (convL_cons (by first | exact conv_p _ | exact conv_nilP _ | exact conv_nil _ | exact conv_sl rfl | exact conv_nums (by exact (hs.2.1 _ rfl).trans rfl) rfl rfl rfl (by rfl) (by rfl)) (convL_cons (by first | exact conv_p _ | exact conv_nilP _ | exact conv_nil _ | exact conv_sl rfl | exact conv_nums (by exact (hs.2.1 _ rfl).trans rfl) rfl rfl rfl (by rfl) (by rfl)) (convL_cons (by first | exact conv_p _ | exact conv_nilP _ | exact conv_nil _ | exact conv_sl rfl | exact conv_nums (by exact (hs.2.1 _ rfl).trans rfl) rfl rfl rfl (by rfl) (by rfl)) convL_nil))))) (convL_cons (conv_e (hs.1 23 rfl) (by first | exact conv_p _ | exact conv_q0 | exact conv_agg (convL_cons (by first | exact conv_p _ | exact conv_nilP _ | exact conv_nil _ | exact conv_sl rfl | exact conv_nums (by exact (hs.2.1 _ rfl).trans rfl) rfl rfl rfl (by rfl) (by rfl)) (convL_cons (by first | exact conv_p _ | exact conv_nilP _ | exact conv_nil _ | exact conv_sl rfl | exact conv_nums (by exact (hs.2.1 _ rfl).trans rfl) rfl rfl rfl (by rfl) (by rfl)) (convL_cons (by first | exact conv_p _ | exact conv_nilP _ | exact conv_nil _ | exact conv_sl rfl | exact conv_nums (by exact (hs.2.1 _ rfl).trans rfl) rfl rfl rfl (by rfl) (by rfl)) convL_nil))))) convL_nil))) ?_
  refine d_op [2] [] rfl rfl (fun s hs => o_mv (some 25) ⟨rfl, rfl⟩ rfl (by first | exact ((hs.1 2 rfl).trans (rfl) : _ = I _ _) | exact ((hs.1 2 rfl).trans (rfl) : _ = AV.p _) | exact ((hs.1 2 rfl).trans (rfl) : _ = AV.ptr _ _) | exact ((hs.1 2 rfl).trans (rfl) : _ = AV.own _ _ _ _ _) | exact ((hs.1 2 rfl).trans (rfl) : _ = AV.agg _) | exact ((hs.1 2 rfl).trans (rfl) : _ = AV.fn _ _))) ?_
  refine d_op [3] [3, 4] rfl rfl (fun s hs => o_fld (some 26) ⟨rfl, rfl⟩ rfl (by exact (hs.1 3 rfl).trans (rfl)) (by exact (hs.2.1 _ rfl).trans rfl) rfl ty54 fe54_1 ty26 rfl rfl) ?_
  refine d_op [26] [3, 4] rfl rfl (fun s hs => o_ldA (some 27) ⟨rfl, rfl⟩ rfl (by exact (hs.1 26 rfl).trans (rfl)) (by exact (hs.2.1 _ rfl).trans rfl) rfl ty26 rfl rfl rfl) ?_
  refine d_op [4] [3, 4] rfl rfl (fun s hs => o_fld (some 28) ⟨rfl, rfl⟩ rfl (by exact (hs.1 4 rfl).trans (rfl)) (by exact (hs.2.1 _ rfl).trans rfl) rfl ty54 fe54_1 ty26 rfl rfl) ?_
  refine d_op [28] [3, 4] rfl rfl (fun s hs => o_ldA (some 29) ⟨rfl, rfl⟩ rfl (by exact (hs.1 28 rfl).trans (rfl)) (by exact (hs.2.1 _ rfl).trans rfl) rfl ty26 rfl rfl rfl) ?_
  refine d_op [25, 27, 29] [3, 4] rfl rfl (fun s hs => o_callV (some 30) ⟨rfl, rfl⟩ hT rfl (by exact (hs.1 25 rfl).trans (rfl)) f4 (convL_cons (conv_e (hs.1 27 rfl) (by first | exact conv_p _ | exact conv_q0 | exact conv_agg (convL_cons (by first | exact conv_p _ | exact conv_nilP _ | exact conv_nil _ | exact conv_sl rfl | exact conv_nums (by exact (hs.2.1 _ rfl).trans rfl) rfl rfl rfl (by rfl) (by rfl)) (convL_cons (by first | exact conv_p _ | exact conv_nilP _ | exact conv_nil _ | exact conv_sl rfl | exact conv_nums (by exact (hs.2.1 _ rfl).trans rfl) rfl rfl rfl (by rfl) (by rfl)) (convL_cons (by first | exact conv_p _ | exact conv_nilP _ | exact conv_nil _ | exact conv_sl rfl | exact conv_nums (by exact (hs.2.1 _ rfl).trans rfl) rfl rfl rfl (by rfl) (by rfl)) convL_nil))))) (convL_cons (conv_e (hs.1 29 rfl) (by first | exact conv_p _ | exact conv_q0 | exact conv_agg (convL_cons (by first | exact conv_p _ | exact conv_nilP _ | exact conv_nil _ | exact conv_sl rfl | exact conv_nums (by exact (hs.2.1 _ rfl).trans rfl) rfl rfl rfl (by rfl) (by rfl)) (convL_cons (by first | exact conv_p _ | exact conv_nilP _ | exact conv_nil _ | exact conv_sl rfl | exact conv_nums (by exact (hs.2.1 _ rfl).trans rfl) rfl rfl rfl (by rfl) (by rfl)) (convL_cons (by first | exact conv_p _ | exact conv_nilP _ | exact conv_nil _ | exact conv_sl rfl | exact conv_nums (by exact (hs.2.1 _ rfl).trans rfl) rfl rfl rfl (by rfl) (by rfl)) convL_nil))))) convL_nil))) ?_
  refine d_al [18, 24, 30] [3, 4, 31] rfl rfl (fun s hs => o_bsP (some 31) ⟨rfl, rfl⟩ rfl 31 (by exact (hs.2.1 _ rfl).trans rfl) (nx_of hs.2.2 rfl) ty69 ty26 rfl rfl rfl rfl (lk_cons (by exact (hs.1 18 rfl).trans (rfl)) (lk_cons (by exact (hs.1 24 rfl).trans (rfl)) (lk_cons (by exact (hs.1 30 rfl).trans (rfl)) lk_nil))) rfl) ?_
  refine d_op [12, 31] [3, 4, 31] rfl rfl (fun s hs => o_call (some 32) ⟨rfl, rfl⟩ tx101 rfl rfl (w_around (F p.1 q.1) [(F p.1 q.2), (F p.2 q.1), (F p.2 q.2)] (by omega) (mem3 (by omega) (by omega) (by omega)) (by show _ < _; simp)) (convL_cons (conv_e (hs.1 12 rfl) (by first | exact conv_p _ | exact conv_q0 | exact conv_agg (convL_cons (by first | exact conv_p _ | exact conv_nilP _ | exact conv_nil _ | exact conv_sl rfl | exact conv_nums (by exact (hs.2.1 _ rfl).trans rfl) rfl rfl rfl (by rfl) (by rfl)) (convL_cons (by first | exact conv_p _ | exact conv_nilP _ | exact conv_nil _ | exact conv_sl rfl | exact conv_nums (by exact (hs.2.1 _ rfl).trans rfl) rfl rfl rfl (by rfl) (by rfl)) (convL_cons (by first | exact conv_p _ | exact conv_nilP _ | exact conv_nil _ | exact conv_sl rfl | exact conv_nums (by exact (hs.2.1 _ rfl).trans rfl) rfl rfl rfl (by rfl) (by rfl)) convL_nil))))) (convL_cons (conv_e (hs.1 31 rfl) (by first | exact conv_p _ | exact conv_nil _ | exact conv_qL (by exact (hs.2.1 _ rfl).trans rfl) rfl rfl rfl rfl | exact conv_sL (by exact (hs.2.1 _ rfl).trans rfl) rfl rfl rfl rfl)) convL_nil))) ?_
  refine d_st [6, 32] [3, 4, 6, 31] rfl rfl (fun s hs => o_stA rfl rfl (by exact (hs.1 6 rfl).trans (rfl)) (by exact (hs.2.1 _ rfl).trans rfl) rfl rfl ty54 (by exact (congrArg AV.cells (by exact (hs.1 32 rfl).trans (rfl))).trans rfl) rfl rfl rfl rfl) ?_
  refine d_end ⟨rfl, ?_⟩
  refine s_n ?_
  refine r_ret ?_
  refine ⟨.inl rfl, [spP (alF F p q)], rfl, ?_⟩
  exact resL_cons (res_cell rfl rfl rfl ty54 rfl (Nat.le_of_ble_eq_true rfl) (by first | exact conv_p _ | exact conv_agg (convL_cons (by first | exact conv_p _ | exact conv_nilP _ | exact conv_nil _ | exact conv_sl rfl | exact conv_nums rfl rfl rfl rfl (by rfl) (by rfl)) (convL_cons (by first | exact conv_p _ | exact conv_nilP _ | exact conv_nil _ | exact conv_sl rfl | exact conv_nums rfl rfl rfl rfl (by rfl) (by rfl)) (convL_cons (by first | exact conv_p _ | exact conv_nilP _ | exact conv_nil _ | exact conv_sl rfl | exact conv_nums rfl rfl rfl rfl (by rfl) (by rfl)) (convL_cons (by first | exact conv_p _ | exact conv_nilP _ | exact conv_nil _ | exact conv_sl rfl | exact conv_nums rfl rfl rfl rfl (by rfl) (by rfl)) (convL_cons (by first | exact conv_p _ | exact conv_nilP _ | exact conv_nil _ | exact conv_sl rfl | exact conv_nums rfl rfl rfl rfl (by rfl) (by rfl)) (convL_cons (by first | exact conv_p _ | exact conv_nilP _ | exact conv_nil _ | exact conv_sl rfl | exact conv_nums rfl rfl rfl rfl (by rfl) (by rfl)) convL_nil)))))))) (resL_nil)

theorem w_Splus (p q : Rat × Rat) (h : spB p 8000000000) (k : spB q 8000000000) : FnP prog 64 [spP p, spP q] (packP [spP (alF (fun x y => x + y) p q)]) := by
  obtain ⟨h1, h2⟩ := h
  obtain ⟨k1, k2⟩ := k
  have e0 := qh_add p.1 q.1
  have e1 := qh_add p.1 q.2
  have e2 := qh_add p.2 q.1
  have e3 := qh_add p.2 q.2
  refine fnP_of (fn := f64) fn64 rfl (Nat.le_of_ble_eq_true rfl) ?_
  refine r_seq ?_
  refine r_reg ?_
  refine r_op rfl (o_box (some 2) ⟨rfl, rfl⟩ rfl 2 rfl rfl rfl rfl) ?_
  refine r_op rfl (o_box (some 3) ⟨rfl, rfl⟩ rfl 3 rfl rfl rfl rfl) ?_
  refine r_op rfl (o_alloc (some 4) ⟨rfl, rfl⟩ rfl 4 rfl rfl ty54 rfl rfl) ?_
  refine r_end ?_
  refine s_n ?_
  refine r_seq ?_
  refine r_reg ?_
  refine r_op rfl (o_ldA (some 5) ⟨rfl, rfl⟩ rfl rfl rfl rfl ty54 rfl rfl rfl) ?_
  refine r_op rfl (o_ldA (some 6) ⟨rfl, rfl⟩ rfl rfl rfl rfl ty54 rfl rfl rfl) ?_
  refine r_op rfl (o_call (some 7) ⟨rfl, rfl⟩ tx111 rfl rfl (w_all tx22 (fun x y => x + y) p q (w_plus p.1 q.1 (by omega) (by omega)) (by show qh (_ + _) < _; omega) (w_plus p.1 q.2 (by omega) (by omega)) (by show qh (_ + _) < _; omega) (w_plus p.2 q.1 (by omega) (by omega)) (by show qh (_ + _) < _; omega) (w_plus p.2 q.2 (by omega) (by omega)) (by show qh (_ + _) < _; omega)) (convL_cons (by first | exact conv_p _ | exact conv_agg (convL_cons (by first | exact conv_p _ | exact conv_nilP _ | exact conv_nil _ | exact conv_sl rfl | exact conv_nums rfl rfl rfl rfl (by rfl) (by rfl)) (convL_cons (by first | exact conv_p _ | exact conv_nilP _ | exact conv_nil _ | exact conv_sl rfl | exact conv_nums rfl rfl rfl rfl (by rfl) (by rfl)) (convL_cons (by first | exact conv_p _ | exact conv_nilP _ | exact conv_nil _ | exact conv_sl rfl | exact conv_nums rfl rfl rfl rfl (by rfl) (by rfl)) (convL_cons (by first | exact conv_p _ | exact conv_nilP _ | exact conv_nil _ | exact conv_sl rfl | exact conv_nums rfl rfl rfl rfl (by rfl) (by rfl)) (convL_cons (by first | exact conv_p _ | exact conv_nilP _ | exact conv_nil _ | exact conv_sl rfl | exact conv_nums rfl rfl rfl rfl (by rfl) (by rfl)) (convL_cons (by first | exact conv_p _ | exact conv_nilP _ | exact conv_nil _ | exact conv_sl rfl | exact conv_nums rfl rfl rfl rfl (by rfl) (by rfl)) convL_nil))))))) (convL_cons (by first | exact conv_p _ | exact conv_agg (convL_cons (by first | exact conv_p _ | exact conv_nilP _ | exact conv_nil _ | exact conv_sl rfl | exact conv_nums rfl rfl rfl rfl (by rfl) (by rfl)) (convL_cons (by first | exact conv_p _ | exact conv_nilP _ | exact conv_nil _ | exact conv_sl rfl | exact conv_nums rfl rfl rfl rfl (by rfl) (by rfl)) (convL_cons (by first | exact conv_p _ | exact conv_nilP _ | exact conv_nil _ | exact conv_sl rfl | exact conv_nums rfl rfl rfl rfl (by rfl) (by rfl)) (convL_cons (by first | exact conv_p _ | exact conv_nilP _ | exact conv_nil _ | exact conv_sl rfl | exact conv_nums rfl rfl rfl rfl (by rfl) (by rfl)) (convL_cons (by first | exact conv_p _ | exact conv_nilP _ | exact conv_nil _ | exact conv_sl rfl | exact conv_nums rfl rfl rfl rfl (by rfl) (by rfl)) (convL_cons (by first | exact conv_p _ | exact conv_nilP _ | exact conv_nil _ | exact conv_sl rfl | exact conv_nums rfl rfl rfl rfl (by rfl) (by rfl)) convL_nil))))))) (convL_cons (by first | exact conv_p _ | exact conv_fn) convL_nil)))) ?_
  refine r_op rfl (o_stA rfl rfl rfl rfl rfl rfl ty54 rfl rfl rfl rfl rfl) ?_
  refine r_end ?_
  refine s_n ?_
  refine r_ret ?_
  refine ⟨.inl rfl, [spP (alF (fun x y => x + y) p q)], rfl, ?_⟩
  exact resL_cons (res_cell rfl rfl rfl ty54 rfl (Nat.le_of_ble_eq_true rfl) (by first | exact conv_p _ | exact conv_agg (convL_cons (by first | exact conv_p _ | exact conv_nilP _ | exact conv_nil _ | exact conv_sl rfl | exact conv_nums rfl rfl rfl rfl (by rfl) (by rfl)) (convL_cons (by first | exact conv_p _ | exact conv_nilP _ | exact conv_nil _ | exact conv_sl rfl | exact conv_nums rfl rfl rfl rfl (by rfl) (by rfl)) (convL_cons (by first | exact conv_p _ | exact conv_nilP _ | exact conv_nil _ | exact conv_sl rfl | exact conv_nums rfl rfl rfl rfl (by rfl) (by rfl)) (convL_cons (by first | exact conv_p _ | exact conv_nilP _ | exact conv_nil _ | exact conv_sl rfl | exact conv_nums rfl rfl rfl rfl (by rfl) (by rfl)) (convL_cons (by first | exact conv_p _ | exact conv_nilP _ | exact conv_nil _ | exact conv_sl rfl | exact conv_nums rfl rfl rfl rfl (by rfl) (by rfl)) (convL_cons (by first | exact conv_p _ | exact conv_nilP _ | exact conv_nil _ | exact conv_sl rfl | exact conv_nums rfl rfl rfl rfl (by rfl) (by rfl)) convL_nil)))))))) (resL_nil)

theorem w_Sminus (p q : Rat × Rat) (h : spB p 8000000000) (k : spB q 8000000000) : FnP prog 65 [spP p, spP q] (packP [spP (alF (fun x y => x - y) p q)]) := by
  obtain ⟨h1, h2⟩ := h
  obtain ⟨k1, k2⟩ := k
  have e0 := qh_sub p.1 q.1
  have e1 := qh_sub p.1 q.2
  have e2 := qh_sub p.2 q.1
  have e3 := qh_sub p.2 q.2
  refine fnP_of (fn := f65) fn65 rfl (Nat.le_of_ble_eq_true rfl) ?_
  refine r_seq ?_
  refine r_reg ?_
  refine r_op rfl (o_box (some 2) ⟨rfl, rfl⟩ rfl 2 rfl rfl rfl rfl) ?_
  refine r_op rfl (o_box (some 3) ⟨rfl, rfl⟩ rfl 3 rfl rfl rfl rfl) ?_
  refine r_op rfl (o_alloc (some 4) ⟨rfl, rfl⟩ rfl 4 rfl rfl ty54 rfl rfl) ?_
  refine r_end ?_
  refine s_n ?_
  refine r_seq ?_
  refine r_reg ?_
  refine r_op rfl (o_ldA (some 5) ⟨rfl, rfl⟩ rfl rfl rfl rfl ty54 rfl rfl rfl) ?_
  refine r_op rfl (o_ldA (some 6) ⟨rfl, rfl⟩ rfl rfl rfl rfl ty54 rfl rfl rfl) ?_
  refine r_op rfl (o_call (some 7) ⟨rfl, rfl⟩ tx111 rfl rfl (w_all tx24 (fun x y => x - y) p q (w_minus p.1 q.1 (by omega) (by omega)) (by show qh (_ - _) < _; omega) (w_minus p.1 q.2 (by omega) (by omega)) (by show qh (_ - _) < _; omega) (w_minus p.2 q.1 (by omega) (by omega)) (by show qh (_ - _) < _; omega) (w_minus p.2 q.2 (by omega) (by omega)) (by show qh (_ - _) < _; omega)) (convL_cons (by first | exact conv_p _ | exact conv_agg (convL_cons (by first | exact conv_p _ | exact conv_nilP _ | exact conv_nil _ | exact conv_sl rfl | exact conv_nums rfl rfl rfl rfl (by rfl) (by rfl)) (convL_cons (by first | exact conv_p _ | exact conv_nilP _ | exact conv_nil _ | exact conv_sl rfl | exact conv_nums rfl rfl rfl rfl (by rfl) (by rfl)) (convL_cons (by first | exact conv_p _ | exact conv_nilP _ | exact conv_nil _ | exact conv_sl rfl | exact conv_nums rfl rfl rfl rfl (by rfl) (by rfl)) (convL_cons (by first | exact conv_p _ | exact conv_nilP _ | exact conv_nil _ | exact conv_sl rfl | exact conv_nums rfl rfl rfl rfl (by rfl) (by rfl)) (convL_cons (by first | exact conv_p _ | exact conv_nilP _ | exact conv_nil _ | exact conv_sl rfl | exact conv_nums rfl rfl rfl rfl (by rfl) (by rfl)) (convL_cons (by first | exact conv_p _ | exact conv_nilP _ | exact conv_nil _ | exact conv_sl rfl | exact conv_nums rfl rfl rfl rfl (by rfl) (by rfl)) convL_nil))))))) (convL_cons (by first | exact conv_p _ | exact conv_agg (convL_cons (by first | exact conv_p _ | exact conv_nilP _ | exact conv_nil _ | exact conv_sl rfl | exact conv_nums rfl rfl rfl rfl (by rfl) (by rfl)) (convL_cons (by first | exact conv_p _ | exact conv_nilP _ | exact conv_nil _ | exact conv_sl rfl | exact conv_nums rfl rfl rfl rfl (by rfl) (by rfl)) (convL_cons (by first | exact conv_p _ | exact conv_nilP _ | exact conv_nil _ | exact conv_sl rfl | exact conv_nums rfl rfl rfl rfl (by rfl) (by rfl)) (convL_cons (by first | exact conv_p _ | exact conv_nilP _ | exact conv_nil _ | exact conv_sl rfl | exact conv_nums rfl rfl rfl rfl (by rfl) (by rfl)) (convL_cons (by first | exact conv_p _ | exact conv_nilP _ | exact conv_nil _ | exact conv_sl rfl | exact conv_nums rfl rfl rfl rfl (by rfl) (by rfl)) (convL_cons (by first | exact conv_p _ | exact conv_nilP _ | exact conv_nil _ | exact conv_sl rfl | exact conv_nums rfl rfl rfl rfl (by rfl) (by rfl)) convL_nil))))))) (convL_cons (by first | exact conv_p _ | exact conv_fn) convL_nil)))) ?_
  refine r_op rfl (o_stA rfl rfl rfl rfl rfl rfl ty54 rfl rfl rfl rfl rfl) ?_
  refine r_end ?_
  refine s_n ?_
  refine r_ret ?_
  refine ⟨.inl rfl, [spP (alF (fun x y => x - y) p q)], rfl, ?_⟩
  exact resL_cons (res_cell rfl rfl rfl ty54 rfl (Nat.le_of_ble_eq_true rfl) (by first | exact conv_p _ | exact conv_agg (convL_cons (by first | exact conv_p _ | exact conv_nilP _ | exact conv_nil _ | exact conv_sl rfl | exact conv_nums rfl rfl rfl rfl (by rfl) (by rfl)) (convL_cons (by first | exact conv_p _ | exact conv_nilP _ | exact conv_nil _ | exact conv_sl rfl | exact conv_nums rfl rfl rfl rfl (by rfl) (by rfl)) (convL_cons (by first | exact conv_p _ | exact conv_nilP _ | exact conv_nil _ | exact conv_sl rfl | exact conv_nums rfl rfl rfl rfl (by rfl) (by rfl)) (convL_cons (by first | exact conv_p _ | exact conv_nilP _ | exact conv_nil _ | exact conv_sl rfl | exact conv_nums rfl rfl rfl rfl (by rfl) (by rfl)) (convL_cons (by first | exact conv_p _ | exact conv_nilP _ | exact conv_nil _ | exact conv_sl rfl | exact conv_nums rfl rfl rfl rfl (by rfl) (by rfl)) (convL_cons (by first | exact conv_p _ | exact conv_nilP _ | exact conv_nil _ | exact conv_sl rfl | exact conv_nums rfl rfl rfl rfl (by rfl) (by rfl)) convL_nil)))))))) (resL_nil)

theorem w_Stimes (p q : Rat × Rat) (h : spB p 8000000000) (k : spB q 8000000000) : FnP prog 66 [spP p, spP q] (packP [spP (alF (fun x y => x * y) p q)]) := by
  obtain ⟨h1, h2⟩ := h
  obtain ⟨k1, k2⟩ := k
  have e0 := qh_mul p.1 q.1
  have e1 := qh_mul p.1 q.2
  have e2 := qh_mul p.2 q.1
  have e3 := qh_mul p.2 q.2
  refine fnP_of (fn := f66) fn66 rfl (Nat.le_of_ble_eq_true rfl) ?_
  refine r_seq ?_
  refine r_reg ?_
  refine r_op rfl (o_box (some 2) ⟨rfl, rfl⟩ rfl 2 rfl rfl rfl rfl) ?_
  refine r_op rfl (o_box (some 3) ⟨rfl, rfl⟩ rfl 3 rfl rfl rfl rfl) ?_
  refine r_op rfl (o_alloc (some 4) ⟨rfl, rfl⟩ rfl 4 rfl rfl ty54 rfl rfl) ?_
  refine r_end ?_
  refine s_n ?_
  refine r_seq ?_
  refine r_reg ?_
  refine r_op rfl (o_ldA (some 5) ⟨rfl, rfl⟩ rfl rfl rfl rfl ty54 rfl rfl rfl) ?_
  refine r_op rfl (o_ldA (some 6) ⟨rfl, rfl⟩ rfl rfl rfl rfl ty54 rfl rfl rfl) ?_
  refine r_op rfl (o_call (some 7) ⟨rfl, rfl⟩ tx111 rfl rfl (w_all tx23 (fun x y => x * y) p q (w_times p.1 q.1 (by omega) (by omega)) (by show qh (_ * _) < _; omega) (w_times p.1 q.2 (by omega) (by omega)) (by show qh (_ * _) < _; omega) (w_times p.2 q.1 (by omega) (by omega)) (by show qh (_ * _) < _; omega) (w_times p.2 q.2 (by omega) (by omega)) (by show qh (_ * _) < _; omega)) (convL_cons (by first | exact conv_p _ | exact conv_agg (convL_cons (by first | exact conv_p _ | exact conv_nilP _ | exact conv_nil _ | exact conv_sl rfl | exact conv_nums rfl rfl rfl rfl (by rfl) (by rfl)) (convL_cons (by first | exact conv_p _ | exact conv_nilP _ | exact conv_nil _ | exact conv_sl rfl | exact conv_nums rfl rfl rfl rfl (by rfl) (by rfl)) (convL_cons (by first | exact conv_p _ | exact conv_nilP _ | exact conv_nil _ | exact conv_sl rfl | exact conv_nums rfl rfl rfl rfl (by rfl) (by rfl)) (convL_cons (by first | exact conv_p _ | exact conv_nilP _ | exact conv_nil _ | exact conv_sl rfl | exact conv_nums rfl rfl rfl rfl (by rfl) (by rfl)) (convL_cons (by first | exact conv_p _ | exact conv_nilP _ | exact conv_nil _ | exact conv_sl rfl | exact conv_nums rfl rfl rfl rfl (by rfl) (by rfl)) (convL_cons (by first | exact conv_p _ | exact conv_nilP _ | exact conv_nil _ | exact conv_sl rfl | exact conv_nums rfl rfl rfl rfl (by rfl) (by rfl)) convL_nil))))))) (convL_cons (by first | exact conv_p _ | exact conv_agg (convL_cons (by first | exact conv_p _ | exact conv_nilP _ | exact conv_nil _ | exact conv_sl rfl | exact conv_nums rfl rfl rfl rfl (by rfl) (by rfl)) (convL_cons (by first | exact conv_p _ | exact conv_nilP _ | exact conv_nil _ | exact conv_sl rfl | exact conv_nums rfl rfl rfl rfl (by rfl) (by rfl)) (convL_cons (by first | exact conv_p _ | exact conv_nilP _ | exact conv_nil _ | exact conv_sl rfl | exact conv_nums rfl rfl rfl rfl (by rfl) (by rfl)) (convL_cons (by first | exact conv_p _ | exact conv_nilP _ | exact conv_nil _ | exact conv_sl rfl | exact conv_nums rfl rfl rfl rfl (by rfl) (by rfl)) (convL_cons (by first | exact conv_p _ | exact conv_nilP _ | exact conv_nil _ | exact conv_sl rfl | exact conv_nums rfl rfl rfl rfl (by rfl) (by rfl)) (convL_cons (by first | exact conv_p _ | exact conv_nilP _ | exact conv_nil _ | exact conv_sl rfl | exact conv_nums rfl rfl rfl rfl (by rfl) (by rfl)) convL_nil))))))) (convL_cons (by first | exact conv_p _ | exact conv_fn) convL_nil)))) ?_
  refine r_op rfl (o_stA rfl rfl rfl rfl rfl rfl ty54 rfl rfl rfl rfl rfl) ?_
  refine r_end ?_
  refine s_n ?_
  refine r_ret ?_
  refine ⟨.inl rfl, [spP (alF (fun x y => x * y) p q)], rfl, ?_⟩
  exact resL_cons (res_cell rfl rfl rfl ty54 rfl (Nat.le_of_ble_eq_true rfl) (by first | exact conv_p _ | exact conv_agg (convL_cons (by first | exact conv_p _ | exact conv_nilP _ | exact conv_nil _ | exact conv_sl rfl | exact conv_nums rfl rfl rfl rfl (by rfl) (by rfl)) (convL_cons (by first | exact conv_p _ | exact conv_nilP _ | exact conv_nil _ | exact conv_sl rfl | exact conv_nums rfl rfl rfl rfl (by rfl) (by rfl)) (convL_cons (by first | exact conv_p _ | exact conv_nilP _ | exact conv_nil _ | exact conv_sl rfl | exact conv_nums rfl rfl rfl rfl (by rfl) (by rfl)) (convL_cons (by first | exact conv_p _ | exact conv_nilP _ | exact conv_nil _ | exact conv_sl rfl | exact conv_nums rfl rfl rfl rfl (by rfl) (by rfl)) (convL_cons (by first | exact conv_p _ | exact conv_nilP _ | exact conv_nil _ | exact conv_sl rfl | exact conv_nums rfl rfl rfl rfl (by rfl) (by rfl)) (convL_cons (by first | exact conv_p _ | exact conv_nilP _ | exact conv_nil _ | exact conv_sl rfl | exact conv_nums rfl rfl rfl rfl (by rfl) (by rfl)) convL_nil)))))))) (resL_nil)

theorem w_sabs (p : Rat × Rat) (h : spB p 17179869184) : FnP prog 68 [spP p] (packP [spP (absF p)]) := by
  obtain ⟨h1, h2⟩ := id h
  have q0 := qh_zero
  have q1 := qh_qabs p.1
  have q2 := qh_qabs p.2
  refine fnP_of (fn := f68) fn68 rfl (Nat.le_of_ble_eq_true rfl) ?_
  refine r_seq ?_
  refine r_reg ?_
  refine r_op rfl (o_box (some 1) ⟨rfl, rfl⟩ rfl 1 rfl rfl rfl rfl) ?_
  refine r_op rfl (o_alloc (some 2) ⟨rfl, rfl⟩ rfl 2 rfl rfl ty54 rfl rfl) ?_
  refine r_end ?_
  refine s_n ?_
  refine r_seq ?_
  refine r_seq ?_
  refine r_reg ?_
  refine r_op rfl (o_ldA (some 3) ⟨rfl, rfl⟩ rfl rfl rfl rfl ty54 rfl rfl rfl) ?_
  refine r_op rfl (o_bld (some 4) ⟨rfl, rfl⟩ rfl ty26 pl26 rfl rfl) ?_
  refine r_op rfl (o_call (some 5) ⟨rfl, rfl⟩ tx45 rfl rfl (w_has p h 0 (by omega)) (convL_cons (by first | exact conv_p _ | exact conv_agg (convL_cons (by first | exact conv_p _ | exact conv_nilP _ | exact conv_nil _ | exact conv_sl rfl | exact conv_nums rfl rfl rfl rfl (by rfl) (by rfl)) (convL_cons (by first | exact conv_p _ | exact conv_nilP _ | exact conv_nil _ | exact conv_sl rfl | exact conv_nums rfl rfl rfl rfl (by rfl) (by rfl)) (convL_cons (by first | exact conv_p _ | exact conv_nilP _ | exact conv_nil _ | exact conv_sl rfl | exact conv_nums rfl rfl rfl rfl (by rfl) (by rfl)) (convL_cons (by first | exact conv_p _ | exact conv_nilP _ | exact conv_nil _ | exact conv_sl rfl | exact conv_nums rfl rfl rfl rfl (by rfl) (by rfl)) (convL_cons (by first | exact conv_p _ | exact conv_nilP _ | exact conv_nil _ | exact conv_sl rfl | exact conv_nums rfl rfl rfl rfl (by rfl) (by rfl)) (convL_cons (by first | exact conv_p _ | exact conv_nilP _ | exact conv_nil _ | exact conv_sl rfl | exact conv_nums rfl rfl rfl rfl (by rfl) (by rfl)) convL_nil))))))) (convL_cons (by first | exact conv_p _ | exact conv_q0 | exact conv_agg (convL_cons (by first | exact conv_p _ | exact conv_nilP _ | exact conv_nil _ | exact conv_sl rfl | exact conv_nums rfl rfl rfl rfl (by rfl) (by rfl)) (convL_cons (by first | exact conv_p _ | exact conv_nilP _ | exact conv_nil _ | exact conv_sl rfl | exact conv_nums rfl rfl rfl rfl (by rfl) (by rfl)) (convL_cons (by first | exact conv_p _ | exact conv_nilP _ | exact conv_nil _ | exact conv_sl rfl | exact conv_nums rfl rfl rfl rfl (by rfl) (by rfl)) convL_nil)))) convL_nil))) ?_
  refine r_end ?_
  refine s_n ?_
  refine r_cond rfl (fun hc => ?_) (fun hc => ?_)
  · try simp only [decide_eq_true_eq, decide_eq_false_iff_not, Nat.not_lt, Nat.not_le, Bool.and_eq_true, Bool.or_eq_true, Bool.and_eq_false_iff, Bool.or_eq_false_iff, Bool.not_eq_true', Bool.not_eq_false', beq_iff_eq, beq_eq_false_iff_ne, ne_eq, Decidable.not_not] at hc
    refine r_seq ?_
    refine r_drawn mixed ?_
    refine d_op [] [] rfl rfl (fun s hs => o_bld (some 6) ⟨rfl, rfl⟩ rfl ty26 pl26 rfl rfl) ?_
    refine d_op [1] [1] rfl rfl (fun s hs => o_fld (some 7) ⟨rfl, rfl⟩ rfl (by exact (hs.1 1 rfl).trans (rfl)) (by exact (hs.2.1 _ rfl).trans rfl) rfl ty54 fe54_0 ty26 rfl rfl) ?_
    refine d_op [7] [1] rfl rfl (fun s hs => o_ldA (some 8) ⟨rfl, rfl⟩ rfl (by exact (hs.1 7 rfl).trans (rfl)) (by exact (hs.2.1 _ rfl).trans rfl) rfl ty26 rfl rfl rfl) ?_
    refine d_op [8] [1] rfl rfl (fun s hs => o_call (some 9) ⟨rfl, rfl⟩ tx58 rfl rfl (w_abs p.1) (convL_cons (conv_e (hs.1 8 rfl) (by first | exact conv_p _ | exact conv_q0 | exact conv_agg (convL_cons (by first | exact conv_p _ | exact conv_nilP _ | exact conv_nil _ | exact conv_sl rfl | exact conv_nums (by exact (hs.2.1 _ rfl).trans rfl) rfl rfl rfl (by rfl) (by rfl)) (convL_cons (by first | exact conv_p _ | exact conv_nilP _ | exact conv_nil _ | exact conv_sl rfl | exact conv_nums (by exact (hs.2.1 _ rfl).trans rfl) rfl rfl rfl (by rfl) (by rfl)) (convL_cons (by first | exact conv_p _ | exact conv_nilP _ | exact conv_nil _ | exact conv_sl rfl | exact conv_nums (by exact (hs.2.1 _ rfl).trans rfl) rfl rfl rfl (by rfl) (by rfl)) convL_nil))))) convL_nil)) ?_
    refine d_op [1] [1] rfl rfl (fun s hs => o_fld (some 10) ⟨rfl, rfl⟩ rfl (by exact (hs.1 1 rfl).trans (rfl)) (by exact (hs.2.1 _ rfl).trans rfl) rfl ty54 fe54_1 ty26 rfl rfl) ?_
    refine d_op [10] [1] rfl rfl (fun s hs => o_ldA (some 11) ⟨rfl, rfl⟩ rfl (by exact (hs.1 10 rfl).trans (rfl)) (by exact (hs.2.1 _ rfl).trans rfl) rfl ty26 rfl rfl rfl) ?_
    refine d_op [11] [1] rfl rfl (fun s hs => o_call (some 12) ⟨rfl, rfl⟩ tx58 rfl rfl (w_abs p.2) (convL_cons (conv_e (hs.1 11 rfl) (by first | exact conv_p _ | exact conv_q0 | exact conv_agg (convL_cons (by first | exact conv_p _ | exact conv_nilP _ | exact conv_nil _ | exact conv_sl rfl | exact conv_nums (by exact (hs.2.1 _ rfl).trans rfl) rfl rfl rfl (by rfl) (by rfl)) (convL_cons (by first | exact conv_p _ | exact conv_nilP _ | exact conv_nil _ | exact conv_sl rfl | exact conv_nums (by exact (hs.2.1 _ rfl).trans rfl) rfl rfl rfl (by rfl) (by rfl)) (convL_cons (by first | exact conv_p _ | exact conv_nilP _ | exact conv_nil _ | exact conv_sl rfl | exact conv_nums (by exact (hs.2.1 _ rfl).trans rfl) rfl rfl rfl (by rfl) (by rfl)) convL_nil))))) convL_nil)) ?_
    refine d_al [9, 12] [1, 13] rfl rfl (fun s hs => o_bsP (some 13) ⟨rfl, rfl⟩ rfl 13 (by exact (hs.2.1 _ rfl).trans rfl) (nx_of hs.2.2 rfl) ty69 ty26 rfl rfl rfl rfl (lk_cons (by exact (hs.1 9 rfl).trans (rfl)) (lk_cons (by exact (hs.1 12 rfl).trans (rfl)) lk_nil)) rfl) ?_
    refine d_op [6, 13] [1, 13] rfl rfl (fun s hs => o_call (some 14) ⟨rfl, rfl⟩ tx101 rfl rfl (w_around 0 [(qabs p.1), (qabs p.2)] (by omega) (mem2 (by omega) (by omega)) (by show _ < _; simp)) (convL_cons (conv_e (hs.1 6 rfl) (by first | exact conv_p _ | exact conv_q0 | exact conv_agg (convL_cons (by first | exact conv_p _ | exact conv_nilP _ | exact conv_nil _ | exact conv_sl rfl | exact conv_nums (by exact (hs.2.1 _ rfl).trans rfl) rfl rfl rfl (by rfl) (by rfl)) (convL_cons (by first | exact conv_p _ | exact conv_nilP _ | exact conv_nil _ | exact conv_sl rfl | exact conv_nums (by exact (hs.2.1 _ rfl).trans rfl) rfl rfl rfl (by rfl) (by rfl)) (convL_cons (by first | exact conv_p _ | exact conv_nilP _ | exact conv_nil _ | exact conv_sl rfl | exact conv_nums (by exact (hs.2.1 _ rfl).trans rfl) rfl rfl rfl (by rfl) (by rfl)) convL_nil))))) (convL_cons (conv_e (hs.1 13 rfl) (by first | exact conv_p _ | exact conv_nil _ | exact conv_qL (by exact (hs.2.1 _ rfl).trans rfl) rfl rfl rfl rfl | exact conv_sL (by exact (hs.2.1 _ rfl).trans rfl) rfl rfl rfl rfl)) convL_nil))) ?_
    refine d_st [2, 14] [1, 2, 13] rfl rfl (fun s hs => o_stA rfl rfl (by exact (hs.1 2 rfl).trans (rfl)) (by exact (hs.2.1 _ rfl).trans rfl) rfl rfl ty54 (by exact (congrArg AV.cells (by exact (hs.1 14 rfl).trans (rfl))).trans rfl) rfl rfl rfl rfl) ?_
    refine d_end ⟨rfl, ?_⟩
    refine s_n ?_
    refine r_ret ?_
    refine s_ret ?_
    refine ⟨.inl rfl, [spP (absF p)], rfl, ?_⟩
    exact resL_cons (res_cell rfl rfl rfl ty54 rfl (Nat.le_of_ble_eq_true rfl) (conv_sp (s := arF 0 [qabs p.1, qabs p.2]) rfl (by rw [absF, if_pos hc]))) (resL_nil)
  · try simp only [decide_eq_true_eq, decide_eq_false_iff_not, Nat.not_lt, Nat.not_le, Bool.and_eq_true, Bool.or_eq_true, Bool.and_eq_false_iff, Bool.or_eq_false_iff, Bool.not_eq_true', Bool.not_eq_false', beq_iff_eq, beq_eq_false_iff_ne, ne_eq, Decidable.not_not] at hc
    refine r_skip ?_
    refine s_n ?_
    refine r_seq ?_
    refine r_drawn mixed ?_
    refine d_op [1] [1] rfl rfl (fun s hs => o_fld (some 15) ⟨rfl, rfl⟩ rfl (by exact (hs.1 1 rfl).trans (rfl)) (by exact (hs.2.1 _ rfl).trans rfl) rfl ty54 fe54_0 ty26 rfl rfl) ?_
    refine d_op [15] [1] rfl rfl (fun s hs => o_ldA (some 16) ⟨rfl, rfl⟩ rfl (by exact (hs.1 15 rfl).trans (rfl)) (by exact (hs.2.1 _ rfl).trans rfl) rfl ty26 rfl rfl rfl) ?_
    refine d_op [16] [1] rfl rfl (fun s hs => o_call (some 17) ⟨rfl, rfl⟩ tx58 rfl rfl (w_abs p.1) (convL_cons (conv_e (hs.1 16 rfl) (by first | exact conv_p _ | exact conv_q0 | exact conv_agg (convL_cons (by first | exact conv_p _ | exact conv_nilP _ | exact conv_nil _ | exact conv_sl rfl | exact conv_nums (by exact (hs.2.1 _ rfl).trans rfl) rfl rfl rfl (by rfl) (by rfl)) (convL_cons (by first | exact conv_p _ | exact conv_nilP _ | exact conv_nil _ | exact conv_sl rfl | exact conv_nums (by exact (hs.2.1 _ rfl).trans rfl) rfl rfl rfl (by rfl) (by rfl)) (convL_cons (by first | exact conv_p _ | exact conv_nilP _ | exact conv_nil _ | exact conv_sl rfl | exact conv_nums (by exact (hs.2.1 _ rfl).trans rfl) rfl rfl rfl (by rfl) (by rfl)) convL_nil))))) convL_nil)) ?_
    refine d_op [1] [1] rfl rfl (fun s hs => o_fld (some 18) ⟨rfl, rfl⟩ rfl (by exact (hs.1 1 rfl).trans (rfl)) (by exact (hs.2.1 _ rfl).trans rfl) rfl ty54 fe54_1 ty26 rfl rfl) ?_
    refine d_op [18] [1] rfl rfl (fun s hs => o_ldA (some 19) ⟨rfl, rfl⟩ rfl (by exact (hs.1 18 rfl).trans (rfl)) (by exact (hs.2.1 _ rfl).trans rfl) rfl ty26 rfl rfl rfl) ?_
    refine d_op [19] [1] rfl rfl (fun s hs => o_call (some 20) ⟨rfl, rfl⟩ tx58 rfl rfl (w_abs p.2) (convL_cons (conv_e (hs.1 19 rfl) (by first | exact conv_p _ | exact conv_q0 | exact conv_agg (convL_cons (by first | exact conv_p _ | exact conv_nilP _ | exact conv_nil _ | exact conv_sl rfl | exact conv_nums (by exact (hs.2.1 _ rfl).trans rfl) rfl rfl rfl (by rfl) (by rfl)) (convL_cons (by first | exact conv_p _ | exact conv_nilP _ | exact conv_nil _ | exact conv_sl rfl | exact conv_nums (by exact (hs.2.1 _ rfl).trans rfl) rfl rfl rfl (by rfl) (by rfl)) (convL_cons (by first | exact conv_p _ | exact conv_nilP _ | exact conv_nil _ | exact conv_sl rfl | exact conv_nums (by exact (hs.2.1 _ rfl).trans rfl) rfl rfl rfl (by rfl) (by rfl)) convL_nil))))) convL_nil)) ?_
    refine d_al [20] [1, 21] rfl rfl (fun s hs => o_bsP (some 21) ⟨rfl, rfl⟩ rfl 21 (by exact (hs.2.1 _ rfl).trans rfl) (nx_of hs.2.2 rfl) ty69 ty26 rfl rfl rfl rfl (lk_cons (by exact (hs.1 20 rfl).trans (rfl)) lk_nil) rfl) ?_
    refine d_op [17, 21] [1, 21] rfl rfl (fun s hs => o_call (some 22) ⟨rfl, rfl⟩ tx101 rfl rfl (w_around (qabs p.1) [(qabs p.2)] (by omega) (mem1 (by omega)) (by show _ < _; simp)) (convL_cons (conv_e (hs.1 17 rfl) (by first | exact conv_p _ | exact conv_q0 | exact conv_agg (convL_cons (by first | exact conv_p _ | exact conv_nilP _ | exact conv_nil _ | exact conv_sl rfl | exact conv_nums (by exact (hs.2.1 _ rfl).trans rfl) rfl rfl rfl (by rfl) (by rfl)) (convL_cons (by first | exact conv_p _ | exact conv_nilP _ | exact conv_nil _ | exact conv_sl rfl | exact conv_nums (by exact (hs.2.1 _ rfl).trans rfl) rfl rfl rfl (by rfl) (by rfl)) (convL_cons (by first | exact conv_p _ | exact conv_nilP _ | exact conv_nil _ | exact conv_sl rfl | exact conv_nums (by exact (hs.2.1 _ rfl).trans rfl) rfl rfl rfl (by rfl) (by rfl)) convL_nil))))) (convL_cons (conv_e (hs.1 21 rfl) (by first | exact conv_p _ | exact conv_nil _ | exact conv_qL (by exact (hs.2.1 _ rfl).trans rfl) rfl rfl rfl rfl | exact conv_sL (by exact (hs.2.1 _ rfl).trans rfl) rfl rfl rfl rfl)) convL_nil))) ?_
    refine d_st [2, 22] [1, 2, 21] rfl rfl (fun s hs => o_stA rfl rfl (by exact (hs.1 2 rfl).trans (rfl)) (by exact (hs.2.1 _ rfl).trans rfl) rfl rfl ty54 (by exact (congrArg AV.cells (by exact (hs.1 22 rfl).trans (rfl))).trans rfl) rfl rfl rfl rfl) ?_
    refine d_end ⟨rfl, ?_⟩
    refine s_n ?_
    refine r_ret ?_
    refine ⟨.inl rfl, [spP (absF p)], rfl, ?_⟩
    exact resL_cons (res_cell rfl rfl rfl ty54 rfl (Nat.le_of_ble_eq_true rfl) (conv_sp (s := arF (qabs p.1) [qabs p.2]) rfl (by rw [absF, if_neg (by simp [hc])]))) (resL_nil)

theorem w_square (p : Rat × Rat) (h : spB p 17179869184) : FnP prog 67 [spP p] (packP [spP (sqF p)]) := by
  obtain ⟨h1, h2⟩ := absF_b h (by omega)
  refine fnP_of (fn := f67) fn67 rfl (Nat.le_of_ble_eq_true rfl) ?_
  refine r_seq ?_
  refine r_reg ?_
  refine r_op rfl (o_box (some 1) ⟨rfl, rfl⟩ rfl 1 rfl rfl rfl rfl) ?_
  refine r_op rfl (o_alloc (some 2) ⟨rfl, rfl⟩ rfl 2 rfl rfl ty54 rfl rfl) ?_
  refine r_end ?_
  refine s_n ?_
  refine r_seq ?_
  refine r_reg ?_
  refine r_op rfl (o_ldA (some 3) ⟨rfl, rfl⟩ rfl rfl rfl rfl ty54 rfl rfl rfl) ?_
  refine r_op rfl (o_call (some 4) ⟨rfl, rfl⟩ tx68 rfl rfl (w_sabs p h) (convL_cons (by first | exact conv_p _ | exact conv_agg (convL_cons (by first | exact conv_p _ | exact conv_nilP _ | exact conv_nil _ | exact conv_sl rfl | exact conv_nums rfl rfl rfl rfl (by rfl) (by rfl)) (convL_cons (by first | exact conv_p _ | exact conv_nilP _ | exact conv_nil _ | exact conv_sl rfl | exact conv_nums rfl rfl rfl rfl (by rfl) (by rfl)) (convL_cons (by first | exact conv_p _ | exact conv_nilP _ | exact conv_nil _ | exact conv_sl rfl | exact conv_nums rfl rfl rfl rfl (by rfl) (by rfl)) (convL_cons (by first | exact conv_p _ | exact conv_nilP _ | exact conv_nil _ | exact conv_sl rfl | exact conv_nums rfl rfl rfl rfl (by rfl) (by rfl)) (convL_cons (by first | exact conv_p _ | exact conv_nilP _ | exact conv_nil _ | exact conv_sl rfl | exact conv_nums rfl rfl rfl rfl (by rfl) (by rfl)) (convL_cons (by first | exact conv_p _ | exact conv_nilP _ | exact conv_nil _ | exact conv_sl rfl | exact conv_nums rfl rfl rfl rfl (by rfl) (by rfl)) convL_nil))))))) convL_nil)) ?_
  refine r_op rfl (o_stA rfl rfl rfl rfl rfl rfl ty54 rfl rfl rfl rfl rfl) ?_
  refine r_end ?_
  refine s_n ?_
  refine r_seq ?_
  refine r_drawn mixed ?_
  refine d_op [1] [1] rfl rfl (fun s hs => o_fld (some 5) ⟨rfl, rfl⟩ rfl (by exact (hs.1 1 rfl).trans (rfl)) (by exact (hs.2.1 _ rfl).trans rfl) rfl ty54 fe54_0 ty26 rfl rfl) ?_
  refine d_op [5] [1] rfl rfl (fun s hs => o_ldA (some 6) ⟨rfl, rfl⟩ rfl (by exact (hs.1 5 rfl).trans (rfl)) (by exact (hs.2.1 _ rfl).trans rfl) rfl ty26 rfl rfl rfl) ?_
  refine d_op [1] [1] rfl rfl (fun s hs => o_fld (some 7) ⟨rfl, rfl⟩ rfl (by exact (hs.1 1 rfl).trans (rfl)) (by exact (hs.2.1 _ rfl).trans rfl) rfl ty54 fe54_0 ty26 rfl rfl) ?_
  refine d_op [7] [1] rfl rfl (fun s hs => o_ldA (some 8) ⟨rfl, rfl⟩ rfl (by exact (hs.1 7 rfl).trans (rfl)) (by exact (hs.2.1 _ rfl).trans rfl) rfl ty26 rfl rfl rfl) ?_
  refine d_op [6, 8] [1] rfl rfl (fun s hs => o_call (some 9) ⟨rfl, rfl⟩ tx23 rfl rfl (w_times (absF p).1 (absF p).1 (by omega) (by omega)) (convL_cons (conv_e (hs.1 6 rfl) (by first | exact conv_p _ | exact conv_q0 | exact conv_agg (convL_cons (by first | exact conv_p _ | exact conv_nilP _ | exact conv_nil _ | exact conv_sl rfl | exact conv_nums (by exact (hs.2.1 _ rfl).trans rfl) rfl rfl rfl (by rfl) (by rfl)) (convL_cons (by first | exact conv_p _ | exact conv_nilP _ | exact conv_nil _ | exact conv_sl rfl | exact conv_nums (by exact (hs.2.1 _ rfl).trans rfl) rfl rfl rfl (by rfl) (by rfl)) (convL_cons (by first | exact conv_p _ | exact conv_nilP _ | exact conv_nil _ | exact conv_sl rfl | exact conv_nums (by exact (hs.2.1 _ rfl).trans rfl) rfl rfl rfl (by rfl) (by rfl)) convL_nil))))) (convL_cons (conv_e (hs.1 8 rfl) (by first | exact conv_p _ | exact conv_q0 | exact conv_agg (convL_cons (by first | exact conv_p _ | exact conv_nilP _ | exact conv_nil _ | exact conv_sl rfl | exact conv_nums (by exact (hs.2.1 _ rfl).trans rfl) rfl rfl rfl (by rfl) (by rfl)) (convL_cons (by first | exact conv_p _ | exact conv_nilP _ | exact conv_nil _ | exact conv_sl rfl | exact conv_nums (by exact (hs.2.1 _ rfl).trans rfl) rfl rfl rfl (by rfl) (by rfl)) (convL_cons (by first | exact conv_p _ | exact conv_nilP _ | exact conv_nil _ | exact conv_sl rfl | exact conv_nums (by exact (hs.2.1 _ rfl).trans rfl) rfl rfl rfl (by rfl) (by rfl)) convL_nil))))) convL_nil))) ?_
  refine d_op [1] [1] rfl rfl (fun s hs => o_fld (some 10) ⟨rfl, rfl⟩ rfl (by exact (hs.1 1 rfl).trans (rfl)) (by exact (hs.2.1 _ rfl).trans rfl) rfl ty54 fe54_1 ty26 rfl rfl) ?_
  refine d_op [10] [1] rfl rfl (fun s hs => o_ldA (some 11) ⟨rfl, rfl⟩ rfl (by exact (hs.1 10 rfl).trans (rfl)) (by exact (hs.2.1 _ rfl).trans rfl) rfl ty26 rfl rfl rfl) ?_
  refine d_op [1] [1] rfl rfl (fun s hs => o_fld (some 12) ⟨rfl, rfl⟩ rfl (by exact (hs.1 1 rfl).trans (rfl)) (by exact (hs.2.1 _ rfl).trans rfl) rfl ty54 fe54_1 ty26 rfl rfl) ?_
  refine d_op [12] [1] rfl rfl (fun s hs => o_ldA (some 13) ⟨rfl, rfl⟩ rfl (by exact (hs.1 12 rfl).trans (rfl)) (by exact (hs.2.1 _ rfl).trans rfl) rfl ty26 rfl rfl rfl) ?_
  refine d_op [11, 13] [1] rfl rfl (fun s hs => o_call (some 14) ⟨rfl, rfl⟩ tx23 rfl rfl (w_times (absF p).2 (absF p).2 (by omega) (by omega)) (convL_cons (conv_e (hs.1 11 rfl) (by first | exact conv_p _ | exact conv_q0 | exact conv_agg (convL_cons (by first | exact conv_p _ | exact conv_nilP _ | exact conv_nil _ | exact conv_sl rfl | exact conv_nums (by exact (hs.2.1 _ rfl).trans rfl) rfl rfl rfl (by rfl) (by rfl)) (convL_cons (by first | exact conv_p _ | exact conv_nilP _ | exact conv_nil _ | exact conv_sl rfl | exact conv_nums (by exact (hs.2.1 _ rfl).trans rfl) rfl rfl rfl (by rfl) (by rfl)) (convL_cons (by first | exact conv_p _ | exact conv_nilP _ | exact conv_nil _ | exact conv_sl rfl | exact conv_nums (by exact (hs.2.1 _ rfl).trans rfl) rfl rfl rfl (by rfl) (by rfl)) convL_nil))))) (convL_cons (conv_e (hs.1 13 rfl) (by first | exact conv_p _ | exact conv_q0 | exact conv_agg (convL_cons (by first | exact conv_p _ | exact conv_nilP _ | exact conv_nil _ | exact conv_sl rfl | exact conv_nums (by exact (hs.2.1 _ rfl).trans rfl) rfl rfl rfl (by rfl) (by rfl)) (convL_cons (by first | exact conv_p _ | exact conv_nilP _ | exact conv_nil _ | exact conv_sl rfl | exact conv_nums (by exact (hs.2.1 _ rfl).trans rfl) rfl rfl rfl (by rfl) (by rfl)) (convL_cons (by first | exact conv_p _ | exact conv_nilP _ | exact conv_nil _ | exact conv_sl rfl | exact conv_nums (by exact (hs.2.1 _ rfl).trans rfl) rfl rfl rfl (by rfl) (by rfl)) convL_nil))))) convL_nil))) ?_
  refine d_op [9, 14] [] rfl rfl (fun s hs => o_bld (some 15) ⟨rfl, rfl⟩ rfl ty54 pl54 (lk_cons (by exact (hs.1 9 rfl).trans (rfl)) (lk_cons (by exact (hs.1 14 rfl).trans (rfl)) lk_nil)) rfl) ?_
  refine d_st [2, 15] [1, 2] rfl rfl (fun s hs => o_stA rfl rfl (by exact (hs.1 2 rfl).trans (rfl)) (by exact (hs.2.1 _ rfl).trans rfl) rfl rfl ty54 (by exact (congrArg AV.cells (by exact (hs.1 15 rfl).trans (rfl))).trans rfl) rfl rfl rfl rfl) ?_
  refine d_end ⟨rfl, ?_⟩
  refine s_n ?_
  refine r_ret ?_
  refine ⟨.inl rfl, [spP (sqF p)], rfl, ?_⟩
  exact resL_cons (res_cell rfl rfl rfl ty54 rfl (Nat.le_of_ble_eq_true rfl) (by first | exact conv_p _ | exact conv_agg (convL_cons (by first | exact conv_p _ | exact conv_nilP _ | exact conv_nil _ | exact conv_sl rfl | exact conv_nums rfl rfl rfl rfl (by rfl) (by rfl)) (convL_cons (by first | exact conv_p _ | exact conv_nilP _ | exact conv_nil _ | exact conv_sl rfl | exact conv_nums rfl rfl rfl rfl (by rfl) (by rfl)) (convL_cons (by first | exact conv_p _ | exact conv_nilP _ | exact conv_nil _ | exact conv_sl rfl | exact conv_nums rfl rfl rfl rfl (by rfl) (by rfl)) (convL_cons (by first | exact conv_p _ | exact conv_nilP _ | exact conv_nil _ | exact conv_sl rfl | exact conv_nums rfl rfl rfl rfl (by rfl) (by rfl)) (convL_cons (by first | exact conv_p _ | exact conv_nilP _ | exact conv_nil _ | exact conv_sl rfl | exact conv_nums rfl rfl rfl rfl (by rfl) (by rfl)) (convL_cons (by first | exact conv_p _ | exact conv_nilP _ | exact conv_nil _ | exact conv_sl rfl | exact conv_nums rfl rfl rfl rfl (by rfl) (by rfl)) convL_nil)))))))) (resL_nil)

theorem w_val (a b c x : Rat) (ha0 : qh a < 1000000000) (hb0 : qh b < 1000000000) (hc0 : qh c < 1000000000) (hx : qh x < 3000000000) : FnP prog 102 [qP x, .cp (qC a), .cp (qC b), .cp (qC c)] (packP [qP (valF a b c x)]) := by
  have m1 := qh_mul a x
  have m2 := qh_add (a * x) b
  have m3 := qh_mul (a * x + b) x
  refine fnP_of (fn := f102) fn102 rfl (Nat.le_of_ble_eq_true rfl) ?_
  refine r_seq ?_
  refine r_reg ?_
  refine r_op rfl (o_box (some 4) ⟨rfl, rfl⟩ rfl 4 rfl rfl rfl rfl) ?_
  refine r_op rfl (o_alloc (some 5) ⟨rfl, rfl⟩ rfl 5 rfl rfl ty26 rfl rfl) ?_
  refine r_end ?_
  refine s_n ?_
  refine r_seq ?_
  refine r_drawn mixed ?_
  refine d_op [1] [4] rfl rfl (fun s hs => (by first | exact o_ldA (some 6) ⟨rfl, rfl⟩ rfl (by exact (hs.1 1 rfl).trans (rfl)) (by exact (hs.2.1 _ rfl).trans rfl) rfl ty26 rfl rfl rfl | exact o_ldC (some 6) ⟨rfl, rfl⟩ rfl (by exact (hs.1 1 rfl).trans (rfl)) ty26 rfl rfl)) ?_
  refine d_op [4] [4] rfl rfl (fun s hs => o_ldA (some 7) ⟨rfl, rfl⟩ rfl (by exact (hs.1 4 rfl).trans (rfl)) (by exact (hs.2.1 _ rfl).trans rfl) rfl ty26 rfl rfl rfl) ?_
  refine d_op [6, 7] [4] rfl rfl (fun s hs => o_call (some 8) ⟨rfl, rfl⟩ tx23 rfl rfl (w_times a x (by omega) (by omega)) (convL_cons (conv_e (hs.1 6 rfl) (by first | exact conv_p _ | exact conv_q0 | exact conv_agg (convL_cons (by first | exact conv_p _ | exact conv_nilP _ | exact conv_nil _ | exact conv_sl rfl | exact conv_nums (by exact (hs.2.1 _ rfl).trans rfl) rfl rfl rfl (by rfl) (by rfl)) (convL_cons (by first | exact conv_p _ | exact conv_nilP _ | exact conv_nil _ | exact conv_sl rfl | exact conv_nums (by exact (hs.2.1 _ rfl).trans rfl) rfl rfl rfl (by rfl) (by rfl)) (convL_cons (by first | exact conv_p _ | exact conv_nilP _ | exact conv_nil _ | exact conv_sl rfl | exact conv_nums (by exact (hs.2.1 _ rfl).trans rfl) rfl rfl rfl (by rfl) (by rfl)) convL_nil))))) (convL_cons (conv_e (hs.1 7 rfl) (by first | exact conv_p _ | exact conv_q0 | exact conv_agg (convL_cons (by first | exact conv_p _ | exact conv_nilP _ | exact conv_nil _ | exact conv_sl rfl | exact conv_nums (by exact (hs.2.1 _ rfl).trans rfl) rfl rfl rfl (by rfl) (by rfl)) (convL_cons (by first | exact conv_p _ | exact conv_nilP _ | exact conv_nil _ | exact conv_sl rfl | exact conv_nums (by exact (hs.2.1 _ rfl).trans rfl) rfl rfl rfl (by rfl) (by rfl)) (convL_cons (by first | exact conv_p _ | exact conv_nilP _ | exact conv_nil _ | exact conv_sl rfl | exact conv_nums (by exact (hs.2.1 _ rfl).trans rfl) rfl rfl rfl (by rfl) (by rfl)) convL_nil))))) convL_nil))) ?_
  refine d_op [2] [4] rfl rfl (fun s hs => (by first | exact o_ldA (some 9) ⟨rfl, rfl⟩ rfl (by exact (hs.1 2 rfl).trans (rfl)) (by exact (hs.2.1 _ rfl).trans rfl) rfl ty26 rfl rfl rfl | exact o_ldC (some 9) ⟨rfl, rfl⟩ rfl (by exact (hs.1 2 rfl).trans (rfl)) ty26 rfl rfl)) ?_
  refine d_op [8, 9] [4] rfl rfl (fun s hs => o_call (some 10) ⟨rfl, rfl⟩ tx22 rfl rfl (w_plus (a * x) b (by omega) (by omega)) (convL_cons (conv_e (hs.1 8 rfl) (by first | exact conv_p _ | exact conv_q0 | exact conv_agg (convL_cons (by first | exact conv_p _ | exact conv_nilP _ | exact conv_nil _ | exact conv_sl rfl | exact conv_nums (by exact (hs.2.1 _ rfl).trans rfl) rfl rfl rfl (by rfl) (by rfl)) (convL_cons (by first | exact conv_p _ | exact conv_nilP _ | exact conv_nil _ | exact conv_sl rfl | exact conv_nums (by exact (hs.2.1 _ rfl).trans rfl) rfl rfl rfl (by rfl) (by rfl)) (convL_cons (by first | exact conv_p _ | exact conv_nilP _ | exact conv_nil _ | exact conv_sl rfl | exact conv_nums (by exact (hs.2.1 _ rfl).trans rfl) rfl rfl rfl (by rfl) (by rfl)) convL_nil))))) (convL_cons (conv_e (hs.1 9 rfl) (by first | exact conv_p _ | exact conv_q0 | exact conv_agg (convL_cons (by first | exact conv_p _ | exact conv_nilP _ | exact conv_nil _ | exact conv_sl rfl | exact conv_nums (by exact (hs.2.1 _ rfl).trans rfl) rfl rfl rfl (by rfl) (by rfl)) (convL_cons (by first | exact conv_p _ | exact conv_nilP _ | exact conv_nil _ | exact conv_sl rfl | exact conv_nums (by exact (hs.2.1 _ rfl).trans rfl) rfl rfl rfl (by rfl) (by rfl)) (convL_cons (by first | exact conv_p _ | exact conv_nilP _ | exact conv_nil _ | exact conv_sl rfl | exact conv_nums (by exact (hs.2.1 _ rfl).trans rfl) rfl rfl rfl (by rfl) (by rfl)) convL_nil))))) convL_nil))) ?_
  refine d_op [4] [4] rfl rfl (fun s hs => o_ldA (some 11) ⟨rfl, rfl⟩ rfl (by exact (hs.1 4 rfl).trans (rfl)) (by exact (hs.2.1 _ rfl).trans rfl) rfl ty26 rfl rfl rfl) ?_
  refine d_op [10, 11] [4] rfl rfl (fun s hs => o_call (some 12) ⟨rfl, rfl⟩ tx23 rfl rfl (w_times (a * x + b) x (by omega) (by omega)) (convL_cons (conv_e (hs.1 10 rfl) (by first | exact conv_p _ | exact conv_q0 | exact conv_agg (convL_cons (by first | exact conv_p _ | exact conv_nilP _ | exact conv_nil _ | exact conv_sl rfl | exact conv_nums (by exact (hs.2.1 _ rfl).trans rfl) rfl rfl rfl (by rfl) (by rfl)) (convL_cons (by first | exact conv_p _ | exact conv_nilP _ | exact conv_nil _ | exact conv_sl rfl | exact conv_nums (by exact (hs.2.1 _ rfl).trans rfl) rfl rfl rfl (by rfl) (by rfl)) (convL_cons (by first | exact conv_p _ | exact conv_nilP _ | exact conv_nil _ | exact conv_sl rfl | exact conv_nums (by exact (hs.2.1 _ rfl).trans rfl) rfl rfl rfl (by rfl) (by rfl)) convL_nil))))) (convL_cons (conv_e (hs.1 11 rfl) (by first | exact conv_p _ | exact conv_q0 | exact conv_agg (convL_cons (by first | exact conv_p _ | exact conv_nilP _ | exact conv_nil _ | exact conv_sl rfl | exact conv_nums (by exact (hs.2.1 _ rfl).trans rfl) rfl rfl rfl (by rfl) (by rfl)) (convL_cons (by first | exact conv_p _ | exact conv_nilP _ | exact conv_nil _ | exact conv_sl rfl | exact conv_nums (by exact (hs.2.1 _ rfl).trans rfl) rfl rfl rfl (by rfl) (by rfl)) (convL_cons (by first | exact conv_p _ | exact conv_nilP _ | exact conv_nil _ | exact conv_sl rfl | exact conv_nums (by exact (hs.2.1 _ rfl).trans rfl) rfl rfl rfl (by rfl) (by rfl)) convL_nil))))) convL_nil))) ?_
  refine d_op [3] [4] rfl rfl (fun s hs => (by first | exact o_ldA (some 13) ⟨rfl, rfl⟩ rfl (by exact (hs.1 3 rfl).trans (rfl)) (by exact (hs.2.1 _ rfl).trans rfl) rfl ty26 rfl rfl rfl | exact o_ldC (some 13) ⟨rfl, rfl⟩ rfl (by exact (hs.1 3 rfl).trans (rfl)) ty26 rfl rfl)) ?_
  refine d_op [12, 13] [4] rfl rfl (fun s hs => o_call (some 14) ⟨rfl, rfl⟩ tx22 rfl rfl (w_plus ((a * x + b) * x) c (by omega) (by omega)) (convL_cons (conv_e (hs.1 12 rfl) (by first | exact conv_p _ | exact conv_q0 | exact conv_agg (convL_cons (by first | exact conv_p _ | exact conv_nilP _ | exact conv_nil _ | exact conv_sl rfl | exact conv_nums (by exact (hs.2.1 _ rfl).trans rfl) rfl rfl rfl (by rfl) (by rfl)) (convL_cons (by first | exact conv_p _ | exact conv_nilP _ | exact conv_nil _ | exact conv_sl rfl | exact conv_nums (by exact (hs.2.1 _ rfl).trans rfl) rfl rfl rfl (by rfl) (by rfl)) (convL_cons (by first | exact conv_p _ | exact conv_nilP _ | exact conv_nil _ | exact conv_sl rfl | exact conv_nums (by exact (hs.2.1 _ rfl).trans rfl) rfl rfl rfl (by rfl) (by rfl)) convL_nil))))) (convL_cons (conv_e (hs.1 13 rfl) (by first | exact conv_p _ | exact conv_q0 | exact conv_agg (convL_cons (by first | exact conv_p _ | exact conv_nilP _ | exact conv_nil _ | exact conv_sl rfl | exact conv_nums (by exact (hs.2.1 _ rfl).trans rfl) rfl rfl rfl (by rfl) (by rfl)) (convL_cons (by first | exact conv_p _ | exact conv_nilP _ | exact conv_nil _ | exact conv_sl rfl | exact conv_nums (by exact (hs.2.1 _ rfl).trans rfl) rfl rfl rfl (by rfl) (by rfl)) (convL_cons (by first | exact conv_p _ | exact conv_nilP _ | exact conv_nil _ | exact conv_sl rfl | exact conv_nums (by exact (hs.2.1 _ rfl).trans rfl) rfl rfl rfl (by rfl) (by rfl)) convL_nil))))) convL_nil))) ?_
  refine d_st [5, 14] [4, 5] rfl rfl (fun s hs => o_stA rfl rfl (by exact (hs.1 5 rfl).trans (rfl)) (by exact (hs.2.1 _ rfl).trans rfl) rfl rfl ty26 (by exact (congrArg AV.cells (by exact (hs.1 14 rfl).trans (rfl))).trans rfl) rfl rfl rfl rfl) ?_
  refine d_end ⟨rfl, ?_⟩
  refine s_n ?_
  refine r_ret ?_
  refine ⟨.inl rfl, [qP (valF a b c x)], rfl, ?_⟩
  exact resL_cons (res_cell rfl rfl rfl ty26 rfl (Nat.le_of_ble_eq_true rfl) (by first | exact conv_p _ | exact conv_q0 | exact conv_agg (convL_cons (by first | exact conv_p _ | exact conv_nilP _ | exact conv_nil _ | exact conv_sl rfl | exact conv_nums rfl rfl rfl rfl (by rfl) (by rfl)) (convL_cons (by first | exact conv_p _ | exact conv_nilP _ | exact conv_nil _ | exact conv_sl rfl | exact conv_nums rfl rfl rfl rfl (by rfl) (by rfl)) (convL_cons (by first | exact conv_p _ | exact conv_nilP _ | exact conv_nil _ | exact conv_sl rfl | exact conv_nums rfl rfl rfl rfl (by rfl) (by rfl)) convL_nil))))) (resL_nil)

theorem w_quad (a b c : Rat) (ha0 : qh a < 1000000000) (hb0 : qh b < 1000000000) (hc0 : qh c < 1000000000) (p : Rat × Rat) (h : spB p 1000000000) : FnP prog 41 [qP a, qP b, qP c, spP p] (packP [spP (quadF a b c p)]) := by
  obtain ⟨h1, h2⟩ := id h
  have h3 : spB p 17179869184 := ⟨by omega, by omega⟩
  have v1 := qh_val a b c p.1
  have v2 := qh_val a b c p.2
  have v3 := qh_val a b c (-b / (a + a))
  have v4 := qh_div' (-b) (a + a)
  have v5 := qh_add a a
  have v6 := qh_neg b
  have v7 : spB (arF (valF a b c p.1) [valF a b c p.2]) 17179869184 := arF_b (by omega) (mem1 (by omega))
  have v8 : spB (arF (valF a b c (-b / (a + a))) []) 17179869184 := arF_b (by omega) mem0
  refine fnP_of (fn := f41) fn41 rfl (Nat.le_of_ble_eq_true rfl) ?_
  refine r_seq ?_
  refine r_reg ?_
  refine r_op rfl (o_box (some 4) ⟨rfl, rfl⟩ rfl 4 rfl rfl rfl rfl) ?_
  refine r_op rfl (o_box (some 5) ⟨rfl, rfl⟩ rfl 5 rfl rfl rfl rfl) ?_
  refine r_op rfl (o_box (some 6) ⟨rfl, rfl⟩ rfl 6 rfl rfl rfl rfl) ?_
  refine r_op rfl (o_box (some 7) ⟨rfl, rfl⟩ rfl 7 rfl rfl rfl rfl) ?_
  refine r_op rfl (o_alloc (some 8) ⟨rfl, rfl⟩ rfl 8 rfl rfl ty54 rfl rfl) ?_
  refine r_end ?_
  refine s_n ?_
  refine r_seq ?_
  refine r_ghc ?_ (gh_publish (b := 4) rfl rfl)
  refine r_ghc ?_ (gh_publish (b := 5) rfl rfl)
  refine r_ghc ?_ (gh_publish (b := 6) rfl rfl)
  refine r_reg ?_
  refine r_op rfl (o_mkf (some 13) ⟨rfl, rfl⟩ rfl rfl) ?_
  refine r_op rfl (o_as (some 9) ⟨rfl, rfl⟩ rfl (by exact (rfl : _ = AV.fn _ _))) ?_
  refine r_end ?_
  refine s_n ?_
  refine r_seq ?_
  refine r_drawn mixed ?_
  refine d_op [9] [] rfl rfl (fun s hs => o_mv (some 14) ⟨rfl, rfl⟩ rfl (by exact ((hs.1 9 rfl).trans (rfl) : _ = AV.fn _ _))) ?_
  refine d_op [7] [4, 5, 6, 7, 8] rfl rfl (fun s hs => o_fld (some 15) ⟨rfl, rfl⟩ rfl (by exact (hs.1 7 rfl).trans (rfl)) (by exact (hs.2.1 _ rfl).trans rfl) rfl ty54 fe54_0 ty26 rfl rfl) ?_
  refine d_op [15] [4, 5, 6, 7, 8] rfl rfl (fun s hs => o_ldA (some 16) ⟨rfl, rfl⟩ rfl (by exact (hs.1 15 rfl).trans (rfl)) (by exact (hs.2.1 _ rfl).trans rfl) rfl ty26 rfl rfl rfl) ?_
  refine d_op [14, 16] [4, 5, 6, 7, 8] rfl rfl (fun s hs => o_callC (some 17) ⟨rfl, rfl⟩ tx102 rfl (by exact (hs.1 14 rfl).trans (rfl)) (w_val a b c p.1 ha0 hb0 hc0 (by omega)) (convL_cons (conv_e (hs.1 16 rfl) (by first | exact conv_p _ | exact conv_q0 | exact conv_agg (convL_cons (by first | exact conv_p _ | exact conv_nilP _ | exact conv_nil _ | exact conv_sl rfl | exact conv_nums (by exact (hs.2.1 _ rfl).trans rfl) rfl rfl rfl (by rfl) (by rfl)) (convL_cons (by first | exact conv_p _ | exact conv_nilP _ | exact conv_nil _ | exact conv_sl rfl | exact conv_nums (by exact (hs.2.1 _ rfl).trans rfl) rfl rfl rfl (by rfl) (by rfl)) (convL_cons (by first | exact conv_p _ | exact conv_nilP _ | exact conv_nil _ | exact conv_sl rfl | exact conv_nums (by exact (hs.2.1 _ rfl).trans rfl) rfl rfl rfl (by rfl) (by rfl)) convL_nil))))) (convL_cons (conv_ptr (by exact (hs.2.1 _ rfl).trans rfl) rfl rfl rfl) (convL_cons (conv_ptr (by exact (hs.2.1 _ rfl).trans rfl) rfl rfl rfl) (convL_cons (conv_ptr (by exact (hs.2.1 _ rfl).trans rfl) rfl rfl rfl) convL_nil))))) ?_
  refine d_op [9] [] rfl rfl (fun s hs => o_mv (some 18) ⟨rfl, rfl⟩ rfl (by exact ((hs.1 9 rfl).trans (rfl) : _ = AV.fn _ _))) ?_
  refine d_op [7] [4, 5, 6, 7, 8] rfl rfl (fun s hs => o_fld (some 19) ⟨rfl, rfl⟩ rfl (by exact (hs.1 7 rfl).trans (rfl)) (by exact (hs.2.1 _ rfl).trans rfl) rfl ty54 fe54_1 ty26 rfl rfl) ?_
  refine d_op [19] [4, 5, 6, 7, 8] rfl rfl (fun s hs => o_ldA (some 20) ⟨rfl, rfl⟩ rfl (by exact (hs.1 19 rfl).trans (rfl)) (by exact (hs.2.1 _ rfl).trans rfl) rfl ty26 rfl rfl rfl) ?_
  refine d_op [18, 20] [4, 5, 6, 7, 8] rfl rfl (fun s hs => o_callC (some 21) ⟨rfl, rfl⟩ tx102 rfl (by exact (hs.1 18 rfl).trans (rfl)) (w_val a b c p.2 ha0 hb0 hc0 (by omega)) (convL_cons (conv_e (hs.1 20 rfl) (by first | exact conv_p _ | exact conv_q0 | exact conv_agg (convL_cons (by first | exact conv_p _ | exact conv_nilP _ | exact conv_nil _ | exact conv_sl rfl | exact conv_nums (by exact (hs.2.1 _ rfl).trans rfl) rfl rfl rfl (by rfl) (by rfl)) (convL_cons (by first | exact conv_p _ | exact conv_nilP _ | exact conv_nil _ | exact conv_sl rfl | exact conv_nums (by exact (hs.2.1 _ rfl).trans rfl) rfl rfl rfl (by rfl) (by rfl)) (convL_cons (by first | exact conv_p _ | exact conv_nilP _ | exact conv_nil _ | exact conv_sl rfl | exact conv_nums (by exact (hs.2.1 _ rfl).trans rfl) rfl rfl rfl (by rfl) (by rfl)) convL_nil))))) (convL_cons (conv_ptr (by exact (hs.2.1 _ rfl).trans rfl) rfl rfl rfl) (convL_cons (conv_ptr (by exact (hs.2.1 _ rfl).trans rfl) rfl rfl rfl) (convL_cons (conv_ptr (by exact (hs.2.1 _ rfl).trans rfl) rfl rfl rfl) convL_nil))))) ?_
  refine d_al [21] [4, 5, 6, 7, 8, 22] rfl rfl (fun s hs => o_bsP (some 22) ⟨rfl, rfl⟩ rfl 22 (by exact (hs.2.1 _ rfl).trans rfl) (nx_of hs.2.2 rfl) ty69 ty26 rfl rfl rfl rfl (lk_cons (by exact (hs.1 21 rfl).trans (rfl)) lk_nil) rfl) ?_
  refine d_op [17, 22] [4, 5, 6, 7, 8, 22] rfl rfl (fun s hs => o_call (some 23) ⟨rfl, rfl⟩ tx101 rfl rfl (w_around (valF a b c p.1) [(valF a b c p.2)] (by omega) (mem1 (by omega)) (by show _ < _; simp)) (convL_cons (conv_e (hs.1 17 rfl) (by first | exact conv_p _ | exact conv_q0 | exact conv_agg (convL_cons (by first | exact conv_p _ | exact conv_nilP _ | exact conv_nil _ | exact conv_sl rfl | exact conv_nums (by exact (hs.2.1 _ rfl).trans rfl) rfl rfl rfl (by rfl) (by rfl)) (convL_cons (by first | exact conv_p _ | exact conv_nilP _ | exact conv_nil _ | exact conv_sl rfl | exact conv_nums (by exact (hs.2.1 _ rfl).trans rfl) rfl rfl rfl (by rfl) (by rfl)) (convL_cons (by first | exact conv_p _ | exact conv_nilP _ | exact conv_nil _ | exact conv_sl rfl | exact conv_nums (by exact (hs.2.1 _ rfl).trans rfl) rfl rfl rfl (by rfl) (by rfl)) convL_nil))))) (convL_cons (conv_e (hs.1 22 rfl) (by first | exact conv_p _ | exact conv_nil _ | exact conv_qL (by exact (hs.2.1 _ rfl).trans rfl) rfl rfl rfl rfl | exact conv_sL (by exact (hs.2.1 _ rfl).trans rfl) rfl rfl rfl rfl)) convL_nil))) ?_
  refine d_al [] [4, 5, 6, 7, 8, 10] rfl rfl (fun s hs => o_alloc (some 10) ⟨rfl, rfl⟩ rfl 10 (by exact (hs.2.1 _ rfl).trans rfl) (nx_of hs.2.2 rfl) ty54 rfl rfl) ?_
  refine d_st [10, 23] [4, 5, 6, 7, 8, 10, 22] rfl rfl (fun s hs => o_stA rfl rfl (by exact (hs.1 10 rfl).trans (rfl)) (by exact (hs.2.1 _ rfl).trans rfl) rfl rfl ty54 (by exact (congrArg AV.cells (by exact (hs.1 23 rfl).trans (rfl))).trans rfl) rfl rfl rfl rfl) ?_
  refine d_end ⟨rfl, ?_⟩
  refine s_n ?_
  refine r_seq ?_
  refine r_seq ?_
  refine r_drawn mixed ?_
  refine d_op [5] [4, 5, 6, 7, 8, 10, 22] rfl rfl (fun s hs => o_ldA (some 25) ⟨rfl, rfl⟩ rfl (by exact (hs.1 5 rfl).trans (rfl)) (by exact (hs.2.1 _ rfl).trans rfl) rfl ty26 rfl rfl rfl) ?_
  refine d_op [25] [4, 5, 6, 7, 8, 10, 22] rfl rfl (fun s hs => o_call (some 26) ⟨rfl, rfl⟩ tx25 rfl rfl (w_neg b) (convL_cons (conv_e (hs.1 25 rfl) (by first | exact conv_p _ | exact conv_q0 | exact conv_agg (convL_cons (by first | exact conv_p _ | exact conv_nilP _ | exact conv_nil _ | exact conv_sl rfl | exact conv_nums (by exact (hs.2.1 _ rfl).trans rfl) rfl rfl rfl (by rfl) (by rfl)) (convL_cons (by first | exact conv_p _ | exact conv_nilP _ | exact conv_nil _ | exact conv_sl rfl | exact conv_nums (by exact (hs.2.1 _ rfl).trans rfl) rfl rfl rfl (by rfl) (by rfl)) (convL_cons (by first | exact conv_p _ | exact conv_nilP _ | exact conv_nil _ | exact conv_sl rfl | exact conv_nums (by exact (hs.2.1 _ rfl).trans rfl) rfl rfl rfl (by rfl) (by rfl)) convL_nil))))) convL_nil)) ?_
  refine d_op [4] [4, 5, 6, 7, 8, 10, 22] rfl rfl (fun s hs => o_ldA (some 27) ⟨rfl, rfl⟩ rfl (by exact (hs.1 4 rfl).trans (rfl)) (by exact (hs.2.1 _ rfl).trans rfl) rfl ty26 rfl rfl rfl) ?_
  refine d_op [4] [4, 5, 6, 7, 8, 10, 22] rfl rfl (fun s hs => o_ldA (some 28) ⟨rfl, rfl⟩ rfl (by exact (hs.1 4 rfl).trans (rfl)) (by exact (hs.2.1 _ rfl).trans rfl) rfl ty26 rfl rfl rfl) ?_
  refine d_op [27, 28] [4, 5, 6, 7, 8, 10, 22] rfl rfl (fun s hs => o_call (some 29) ⟨rfl, rfl⟩ tx22 rfl rfl (w_plus a a (by omega) (by omega)) (convL_cons (conv_e (hs.1 27 rfl) (by first | exact conv_p _ | exact conv_q0 | exact conv_agg (convL_cons (by first | exact conv_p _ | exact conv_nilP _ | exact conv_nil _ | exact conv_sl rfl | exact conv_nums (by exact (hs.2.1 _ rfl).trans rfl) rfl rfl rfl (by rfl) (by rfl)) (convL_cons (by first | exact conv_p _ | exact conv_nilP _ | exact conv_nil _ | exact conv_sl rfl | exact conv_nums (by exact (hs.2.1 _ rfl).trans rfl) rfl rfl rfl (by rfl) (by rfl)) (convL_cons (by first | exact conv_p _ | exact conv_nilP _ | exact conv_nil _ | exact conv_sl rfl | exact conv_nums (by exact (hs.2.1 _ rfl).trans rfl) rfl rfl rfl (by rfl) (by rfl)) convL_nil))))) (convL_cons (conv_e (hs.1 28 rfl) (by first | exact conv_p _ | exact conv_q0 | exact conv_agg (convL_cons (by first | exact conv_p _ | exact conv_nilP _ | exact conv_nil _ | exact conv_sl rfl | exact conv_nums (by exact (hs.2.1 _ rfl).trans rfl) rfl rfl rfl (by rfl) (by rfl)) (convL_cons (by first | exact conv_p _ | exact conv_nilP _ | exact conv_nil _ | exact conv_sl rfl | exact conv_nums (by exact (hs.2.1 _ rfl).trans rfl) rfl rfl rfl (by rfl) (by rfl)) (convL_cons (by first | exact conv_p _ | exact conv_nilP _ | exact conv_nil _ | exact conv_sl rfl | exact conv_nums (by exact (hs.2.1 _ rfl).trans rfl) rfl rfl rfl (by rfl) (by rfl)) convL_nil))))) convL_nil))) ?_
  refine d_op [26, 29] [4, 5, 6, 7, 8, 10, 22] rfl rfl (fun s hs => o_call (some 30) ⟨rfl, rfl⟩ tx28 rfl rfl (w_over (-b) (a + a) (by omega) (by omega)) (convL_cons (conv_e (hs.1 26 rfl) (by first | exact conv_p _ | exact conv_q0 | exact conv_agg (convL_cons (by first | exact conv_p _ | exact conv_nilP _ | exact conv_nil _ | exact conv_sl rfl | exact conv_nums (by exact (hs.2.1 _ rfl).trans rfl) rfl rfl rfl (by rfl) (by rfl)) (convL_cons (by first | exact conv_p _ | exact conv_nilP _ | exact conv_nil _ | exact conv_sl rfl | exact conv_nums (by exact (hs.2.1 _ rfl).trans rfl) rfl rfl rfl (by rfl) (by rfl)) (convL_cons (by first | exact conv_p _ | exact conv_nilP _ | exact conv_nil _ | exact conv_sl rfl | exact conv_nums (by exact (hs.2.1 _ rfl).trans rfl) rfl rfl rfl (by rfl) (by rfl)) convL_nil))))) (convL_cons (conv_e (hs.1 29 rfl) (by first | exact conv_p _ | exact conv_q0 | exact conv_agg (convL_cons (by first | exact conv_p _ | exact conv_nilP _ | exact conv_nil _ | exact conv_sl rfl | exact conv_nums (by exact (hs.2.1 _ rfl).trans rfl) rfl rfl rfl (by rfl) (by rfl)) (convL_cons (by first | exact conv_p _ | exact conv_nilP _ | exact conv_nil _ | exact conv_sl rfl | exact conv_nums (by exact (hs.2.1 _ rfl).trans rfl) rfl rfl rfl (by rfl) (by rfl)) (convL_cons (by first | exact conv_p _ | exact conv_nilP _ | exact conv_nil _ | exact conv_sl rfl | exact conv_nums (by exact (hs.2.1 _ rfl).trans rfl) rfl rfl rfl (by rfl) (by rfl)) convL_nil))))) convL_nil))) ?_
  refine d_op [30] [] rfl rfl (fun s hs => o_mv (some 24) ⟨rfl, rfl⟩ rfl (by exact ((hs.1 30 rfl).trans (rfl) : _ = AV.p _))) ?_
  refine d_op [24] [] rfl rfl (fun s hs => o_ext (some 31) ⟨rfl, rfl⟩ rfl (by exact (hs.1 24 rfl).trans (rfl)) rfl) ?_
  refine d_op [24] [] rfl rfl (fun s hs => o_ext (some 32) ⟨rfl, rfl⟩ rfl (by exact (hs.1 24 rfl).trans (rfl)) rfl) ?_
  refine d_al [] [4, 5, 6, 7, 8, 10, 11, 22] rfl rfl (fun s hs => o_alloc (some 11) ⟨rfl, rfl⟩ rfl 11 (by exact (hs.2.1 _ rfl).trans rfl) (nx_of hs.2.2 rfl) ty26 rfl rfl) ?_
  refine d_st [11, 31] [4, 5, 6, 7, 8, 10, 11, 22] rfl rfl (fun s hs => o_stA rfl rfl (by exact (hs.1 11 rfl).trans (rfl)) (by exact (hs.2.1 _ rfl).trans rfl) rfl rfl ty26 (by exact (congrArg AV.cells (by exact (hs.1 31 rfl).trans (rfl))).trans rfl) rfl rfl rfl rfl) ?_
  refine d_op [32] [] rfl rfl (fun s hs => o_as (some 12) ⟨rfl, rfl⟩ rfl (by exact ((hs.1 32 rfl).trans (rfl) : _ = AV.p _))) ?_
  refine d_end ⟨rfl, ?_⟩
  refine s_n ?_
  refine r_seq ?_
  refine r_reg ?_
  refine r_op rfl (o_mv (some 33) ⟨rfl, rfl⟩ rfl (by exact (rfl : _ = AV.p _))) ?_
  refine r_op rfl (o_zeql (some 34) ⟨rfl, rfl⟩ (by exact (rfl : _ = Z _ _)) (by exact (rfl : _ = Z _ (0))) rfl) ?_
  refine r_op rfl (o_mv (some 35) ⟨rfl, rfl⟩ rfl (by exact (rfl : _ = Bo _))) ?_
  refine r_gd (d := some 36) rfl rfl rfl rfl ⟨rfl, rfl⟩ (fun hb => o_ldA (some 36) ⟨rfl, rfl⟩ rfl rfl rfl rfl ty54 rfl rfl rfl) ?_
  refine r_gd (d := some 37) rfl rfl rfl rfl ⟨rfl, rfl⟩ (fun hb => o_ldA (some 37) ⟨rfl, rfl⟩ rfl rfl rfl rfl ty26 rfl rfl rfl) ?_
  refine r_gd (d := some 38) rfl rfl rfl rfl ⟨rfl, rfl⟩ (fun hb => o_call (some 38) ⟨rfl, rfl⟩ tx45 rfl rfl (w_has p h3 (-b / (a + a)) (by omega)) (convL_cons (conv_gd hb (by first | exact conv_p _ | exact conv_agg (convL_cons (by first | exact conv_p _ | exact conv_nilP _ | exact conv_nil _ | exact conv_sl rfl | exact conv_nums rfl rfl rfl rfl (by rfl) (by rfl)) (convL_cons (by first | exact conv_p _ | exact conv_nilP _ | exact conv_nil _ | exact conv_sl rfl | exact conv_nums rfl rfl rfl rfl (by rfl) (by rfl)) (convL_cons (by first | exact conv_p _ | exact conv_nilP _ | exact conv_nil _ | exact conv_sl rfl | exact conv_nums rfl rfl rfl rfl (by rfl) (by rfl)) (convL_cons (by first | exact conv_p _ | exact conv_nilP _ | exact conv_nil _ | exact conv_sl rfl | exact conv_nums rfl rfl rfl rfl (by rfl) (by rfl)) (convL_cons (by first | exact conv_p _ | exact conv_nilP _ | exact conv_nil _ | exact conv_sl rfl | exact conv_nums rfl rfl rfl rfl (by rfl) (by rfl)) (convL_cons (by first | exact conv_p _ | exact conv_nilP _ | exact conv_nil _ | exact conv_sl rfl | exact conv_nums rfl rfl rfl rfl (by rfl) (by rfl)) convL_nil)))))))) (convL_cons (conv_gd hb (by first | exact conv_p _ | exact conv_q0 | exact conv_agg (convL_cons (by first | exact conv_p _ | exact conv_nilP _ | exact conv_nil _ | exact conv_sl rfl | exact conv_nums rfl rfl rfl rfl (by rfl) (by rfl)) (convL_cons (by first | exact conv_p _ | exact conv_nilP _ | exact conv_nil _ | exact conv_sl rfl | exact conv_nums rfl rfl rfl rfl (by rfl) (by rfl)) (convL_cons (by first | exact conv_p _ | exact conv_nilP _ | exact conv_nil _ | exact conv_sl rfl | exact conv_nums rfl rfl rfl rfl (by rfl) (by rfl)) convL_nil))))) convL_nil))) ?_
  refine r_op rfl (o_and (some 39) ⟨rfl, rfl⟩ rfl rfl rfl rfl) ?_
  refine r_end ?_
  refine s_n ?_
  refine r_cond rfl (fun hc => ?_) (fun hc => ?_)
  · try simp only [decide_eq_true_eq, decide_eq_false_iff_not, Nat.not_lt, Nat.not_le, Bool.and_eq_true, Bool.or_eq_true, Bool.and_eq_false_iff, Bool.or_eq_false_iff, Bool.not_eq_true', Bool.not_eq_false', beq_iff_eq, beq_eq_false_iff_ne, ne_eq, Decidable.not_not] at hc
    refine r_drawn mixed ?_
    refine d_op [10] [10] rfl rfl (fun s hs => o_ldA (some 40) ⟨rfl, rfl⟩ rfl (by exact (hs.1 10 rfl).trans (rfl)) (by exact (hs.2.1 _ rfl).trans rfl) rfl ty54 rfl rfl rfl) ?_
    refine d_op [9] [] rfl rfl (fun s hs => o_mv (some 41) ⟨rfl, rfl⟩ rfl (by exact ((hs.1 9 rfl).trans (rfl) : _ = AV.fn _ _))) ?_
    refine d_op [11] [4, 5, 6, 7, 8, 11, 22] rfl rfl (fun s hs => o_ldA (some 42) ⟨rfl, rfl⟩ rfl (by exact (hs.1 11 rfl).trans (rfl)) (by exact (hs.2.1 _ rfl).trans rfl) rfl ty26 rfl rfl rfl) ?_
    refine d_op [41, 42] [4, 5, 6, 7, 8, 11, 22] rfl rfl (fun s hs => o_callC (some 43) ⟨rfl, rfl⟩ tx102 rfl (by exact (hs.1 41 rfl).trans (rfl)) (w_val a b c (-b / (a + a)) ha0 hb0 hc0 (by omega)) (convL_cons (conv_e (hs.1 42 rfl) (by first | exact conv_p _ | exact conv_q0 | exact conv_agg (convL_cons (by first | exact conv_p _ | exact conv_nilP _ | exact conv_nil _ | exact conv_sl rfl | exact conv_nums (by exact (hs.2.1 _ rfl).trans rfl) rfl rfl rfl (by rfl) (by rfl)) (convL_cons (by first | exact conv_p _ | exact conv_nilP _ | exact conv_nil _ | exact conv_sl rfl | exact conv_nums (by exact (hs.2.1 _ rfl).trans rfl) rfl rfl rfl (by rfl) (by rfl)) (convL_cons (by first | exact conv_p _ | exact conv_nilP _ | exact conv_nil _ | exact conv_sl rfl | exact conv_nums (by exact (hs.2.1 _ rfl).trans rfl) rfl rfl rfl (by rfl) (by rfl)) convL_nil))))) (convL_cons (conv_ptr (by exact (hs.2.1 _ rfl).trans rfl) rfl rfl rfl) (convL_cons (conv_ptr (by exact (hs.2.1 _ rfl).trans rfl) rfl rfl rfl) (convL_cons (conv_ptr (by exact (hs.2.1 _ rfl).trans rfl) rfl rfl rfl) convL_nil))))) ?_
    refine d_op [43] [4, 5, 6, 7, 8, 11, 22] rfl rfl (fun s hs => o_call (some 44) ⟨rfl, rfl⟩ tx101 rfl rfl (w_around (valF a b c (-b / (a + a))) [] (by omega) (mem0 ) (by show _ < _; simp)) (convL_cons (conv_e (hs.1 43 rfl) (by first | exact conv_p _ | exact conv_q0 | exact conv_agg (convL_cons (by first | exact conv_p _ | exact conv_nilP _ | exact conv_nil _ | exact conv_sl rfl | exact conv_nums (by exact (hs.2.1 _ rfl).trans rfl) rfl rfl rfl (by rfl) (by rfl)) (convL_cons (by first | exact conv_p _ | exact conv_nilP _ | exact conv_nil _ | exact conv_sl rfl | exact conv_nums (by exact (hs.2.1 _ rfl).trans rfl) rfl rfl rfl (by rfl) (by rfl)) (convL_cons (by first | exact conv_p _ | exact conv_nilP _ | exact conv_nil _ | exact conv_sl rfl | exact conv_nums (by exact (hs.2.1 _ rfl).trans rfl) rfl rfl rfl (by rfl) (by rfl)) convL_nil))))) (convL_cons (by first | exact conv_p _ | exact conv_nil _ | exact conv_qL (by exact (hs.2.1 _ rfl).trans rfl) rfl rfl rfl rfl | exact conv_sL (by exact (hs.2.1 _ rfl).trans rfl) rfl rfl rfl rfl) convL_nil))) ?_
    refine d_op [40, 44] [4, 5, 6, 7, 8, 11, 22] rfl rfl (fun s hs => o_call (some 45) ⟨rfl, rfl⟩ tx62 rfl rfl (w_hull (arF (valF a b c p.1) [valF a b c p.2]) (arF (valF a b c (-b / (a + a))) []) v7 v8) (convL_cons (conv_e (hs.1 40 rfl) (by first | exact conv_p _ | exact conv_agg (convL_cons (by first | exact conv_p _ | exact conv_nilP _ | exact conv_nil _ | exact conv_sl rfl | exact conv_nums (by exact (hs.2.1 _ rfl).trans rfl) rfl rfl rfl (by rfl) (by rfl)) (convL_cons (by first | exact conv_p _ | exact conv_nilP _ | exact conv_nil _ | exact conv_sl rfl | exact conv_nums (by exact (hs.2.1 _ rfl).trans rfl) rfl rfl rfl (by rfl) (by rfl)) (convL_cons (by first | exact conv_p _ | exact conv_nilP _ | exact conv_nil _ | exact conv_sl rfl | exact conv_nums (by exact (hs.2.1 _ rfl).trans rfl) rfl rfl rfl (by rfl) (by rfl)) (convL_cons (by first | exact conv_p _ | exact conv_nilP _ | exact conv_nil _ | exact conv_sl rfl | exact conv_nums (by exact (hs.2.1 _ rfl).trans rfl) rfl rfl rfl (by rfl) (by rfl)) (convL_cons (by first | exact conv_p _ | exact conv_nilP _ | exact conv_nil _ | exact conv_sl rfl | exact conv_nums (by exact (hs.2.1 _ rfl).trans rfl) rfl rfl rfl (by rfl) (by rfl)) (convL_cons (by first | exact conv_p _ | exact conv_nilP _ | exact conv_nil _ | exact conv_sl rfl | exact conv_nums (by exact (hs.2.1 _ rfl).trans rfl) rfl rfl rfl (by rfl) (by rfl)) convL_nil)))))))) (convL_cons (conv_e (hs.1 44 rfl) (by first | exact conv_p _ | exact conv_agg (convL_cons (by first | exact conv_p _ | exact conv_nilP _ | exact conv_nil _ | exact conv_sl rfl | exact conv_nums (by exact (hs.2.1 _ rfl).trans rfl) rfl rfl rfl (by rfl) (by rfl)) (convL_cons (by first | exact conv_p _ | exact conv_nilP _ | exact conv_nil _ | exact conv_sl rfl | exact conv_nums (by exact (hs.2.1 _ rfl).trans rfl) rfl rfl rfl (by rfl) (by rfl)) (convL_cons (by first | exact conv_p _ | exact conv_nilP _ | exact conv_nil _ | exact conv_sl rfl | exact conv_nums (by exact (hs.2.1 _ rfl).trans rfl) rfl rfl rfl (by rfl) (by rfl)) (convL_cons (by first | exact conv_p _ | exact conv_nilP _ | exact conv_nil _ | exact conv_sl rfl | exact conv_nums (by exact (hs.2.1 _ rfl).trans rfl) rfl rfl rfl (by rfl) (by rfl)) (convL_cons (by first | exact conv_p _ | exact conv_nilP _ | exact conv_nil _ | exact conv_sl rfl | exact conv_nums (by exact (hs.2.1 _ rfl).trans rfl) rfl rfl rfl (by rfl) (by rfl)) (convL_cons (by first | exact conv_p _ | exact conv_nilP _ | exact conv_nil _ | exact conv_sl rfl | exact conv_nums (by exact (hs.2.1 _ rfl).trans rfl) rfl rfl rfl (by rfl) (by rfl)) convL_nil)))))))) convL_nil))) ?_
    refine d_st [10, 45] [4, 5, 6, 7, 8, 10, 11, 22] rfl rfl (fun s hs => o_stA rfl rfl (by exact (hs.1 10 rfl).trans (rfl)) (by exact (hs.2.1 _ rfl).trans rfl) rfl rfl ty54 (by exact (congrArg AV.cells (by exact (hs.1 45 rfl).trans (rfl))).trans rfl) rfl rfl rfl rfl) ?_
    refine d_end ⟨rfl, ?_⟩
    refine s_n ?_
    refine r_seq ?_
    refine r_reg ?_
    refine r_op rfl (o_ldA (some 46) ⟨rfl, rfl⟩ rfl rfl rfl rfl ty54 rfl rfl rfl) ?_
    refine r_op rfl (o_stA rfl rfl rfl rfl rfl rfl ty54 rfl rfl rfl rfl rfl) ?_
    refine r_end ?_
    refine s_n ?_
    refine r_ret ?_
    refine ⟨.inl rfl, [spP (quadF a b c p)], rfl, ?_⟩
    exact resL_cons (res_cell rfl rfl rfl ty54 rfl (Nat.le_of_ble_eq_true rfl) (conv_sp rfl (by rw [quadF, if_pos ⟨by intro e; rw [if_pos e] at hc; exact absurd hc.1 (by decide), hc.2⟩]))) (resL_nil)
  · try simp only [decide_eq_true_eq, decide_eq_false_iff_not, Nat.not_lt, Nat.not_le, Bool.and_eq_true, Bool.or_eq_true, Bool.and_eq_false_iff, Bool.or_eq_false_iff, Bool.not_eq_true', Bool.not_eq_false', beq_iff_eq, beq_eq_false_iff_ne, ne_eq, Decidable.not_not] at hc
    refine r_skip ?_
    refine s_n ?_
    refine r_seq ?_
    refine r_reg ?_
    refine r_op rfl (o_ldA (some 46) ⟨rfl, rfl⟩ rfl rfl rfl rfl ty54 rfl rfl rfl) ?_
    refine r_op rfl (o_stA rfl rfl rfl rfl rfl rfl ty54 rfl rfl rfl rfl rfl) ?_
    refine r_end ?_
    refine s_n ?_
    refine r_ret ?_
    refine ⟨.inl rfl, [spP (quadF a b c p)], rfl, ?_⟩
    exact resL_cons (res_cell rfl rfl rfl ty54 rfl (Nat.le_of_ble_eq_true rfl) (conv_sp rfl (by unfold quadF; exact (if_neg (quad_no (p := a + a = 0) hc)).symm))) (resL_nil)
end Vou
end

section
set_option linter.unusedVariables false
set_option linter.unusedSimpArgs false
/- The examples of the law functions, lists of texts, and equality of numbers. -/
namespace Vou
open Go Go.RowKit

abbrev zQ (z : Int) : Rat := (z : Rat)
theorem k1 : zQ 6 / zQ (-4) = mkRat (-3) 2 := by decide +kernel
theorem k2 : (((mkRat (-3) 2).floor : Int) : Rat) = zQ (-2) := by decide +kernel
theorem k2c : -(((-(mkRat (-3) 2)).floor : Int) : Rat) = zQ (-1) := by decide +kernel
theorem k3 : arF (zQ 2) [zQ (-1)] = (zQ (-1), zQ 2) := by decide +kernel
theorem k3b : arF (zQ 3) [zQ 4] = (zQ 3, zQ 4) := by decide +kernel
theorem k3c : arF (zQ 0) [zQ 3] = (zQ 0, zQ 3) := by decide +kernel
theorem k4 : quadF (zQ 1) (zQ (-2)) (zQ 0) (zQ 0, zQ 3) = (zQ (-1), zQ 3) := by decide +kernel
theorem k5 : sqF (zQ (-1), zQ 2) = (zQ 0, zQ 4) := by decide +kernel
theorem k6 : alF (fun x y => x * y) (zQ (-1), zQ 2) (zQ 3, zQ 4) = (zQ (-4), zQ 8) := by decide +kernel
theorem k11 : readF ⟨#[54, 47, 52]⟩ = (0, 4) := by
  unfold readF
  decide +kernel
theorem dec1 {n : Nat} (h : n < 10) : Lib.decDigits n = [UInt8.ofNat (48 + n)] := by rw [Lib.decDigits, dif_pos h]
theorem t1 : qT (mkRat (-3) 2) = [45, 51, 47, 50] := by
  have h1 : (mkRat (-3) 2).num = -3 := by decide +kernel
  have h2 : (mkRat (-3) 2).den = 2 := by decide +kernel
  unfold qT
  rw [h1, h2, if_pos (by decide), if_neg (by decide), dec1 (by decide), dec1 (by decide)]
  rfl
theorem tz (z : Int) (h : z.natAbs < 10) : qT (zQ z) = (if z < 0 then [45] else []) ++ [UInt8.ofNat (48 + z.natAbs)] := by
  unfold qT
  rw [show (zQ z).num = z from rfl, show (zQ z).den = 1 from rfl, if_pos rfl, dec1 h, List.append_nil]
theorem qh_z (z : Int) (h : z.natAbs < 1000000000000000000000000000) : qh (zQ z) ≤ 3 := by
  have : qh (zQ z) = max (d9 z.natAbs).length 1 := qh_int z
  have := d9_27 h
  omega
theorem qh_32 : qh (mkRat (-3) 2) ≤ 6 := by
  rw [← k1]
  have := qh_div' (zQ 6) (zQ (-4))
  have := qh_z 6 (by decide)
  have := qh_z (-4) (by decide)
  omega
theorem spB_z (a b : Int) (ha : a.natAbs < 1000000000000000000000000000) (hb : b.natAbs < 1000000000000000000000000000) {B : Nat} (hB : 3 < B) : spB (zQ a, zQ b) B := ⟨Nat.lt_of_le_of_lt (qh_z a ha) hB, Nat.lt_of_le_of_lt (qh_z b hb) hB⟩

/-! ### Lists of texts -/
def sL (l : List ByteArray) : PV := .sl false (l.map fun s => [.v (.string s)])
theorem conv_sL {σ : ASt} {full : Bool} {b off n : Nat} {B : Blk} {l : List ByteArray} (hb : σ.heap b = some B) (hl : B.live = true) (hp : B.pub = true) (hn : l.length = n) (hc : (B.cells.drop off).take (n * 1) = (l.map fun s => AV.p (.v (.string s)))) : Conv σ (.own full 1 b off n) (sL l) :=
  conv_own hb hl hp (by rw [List.length_map]; exact hn) (fun e he => by obtain ⟨r, _, rfl⟩ := List.mem_map.1 he; rfl) (by
    rw [hc]
    refine convL_ps ?_
    clear hc hn
    induction l with
    | nil => rfl
    | cons a l ih => rw [List.map_cons, List.map_cons, List.flatten_cons, List.map_append, ← ih]; rfl)
theorem sL_get (l : List ByteArray) {i : Nat} (h : i < l.length) : (l.map fun s => [PV.v (.string s)])[i]? = some [.v (.string (l.getD i ⟨#[]⟩))] := by
  rw [List.getElem?_map, List.getElem?_eq_getElem h, List.getD_eq_getElem?_getD, List.getElem?_eq_getElem h]; rfl
/-- Whether one of some texts is longer than 120 bytes. -/
def longF (l : List ByteArray) : Bool := l.any fun s => decide (120 < s.size)
theorem long_yes (l : List ByteArray) {i : Nat} (h : i < l.length) (h2 : 120 < (l.getD i ⟨#[]⟩).size) : longF l = true := by
  rw [List.getD_eq_getElem?_getD, List.getElem?_eq_getElem h] at h2
  exact List.any_eq_true.2 ⟨_, List.getElem_mem h, decide_eq_true h2⟩
theorem long_step (l : List ByteArray) {i : Nat} (h : i < l.length) (h1 : ∀ s ∈ l.take i, s.size ≤ 120) (h2 : ¬ 120 < (l.getD i ⟨#[]⟩).size) : ∀ s ∈ l.take (i + 1), s.size ≤ 120 := by
  intro s hs
  rw [List.take_succ_eq_append_getElem h, List.mem_append] at hs
  rcases hs with hs | hs
  · exact h1 s hs
  · simp only [List.mem_cons, List.not_mem_nil, or_false] at hs
    subst hs
    rw [List.getD_eq_getElem?_getD, List.getElem?_eq_getElem h] at h2
    exact Nat.not_lt.1 h2
theorem long_no (l : List ByteArray) {i : Nat} (h : ¬ i < l.length) (h1 : ∀ s ∈ l.take i, s.size ≤ 120) : longF l = false := by
  rw [List.take_of_length_le (by omega)] at h1
  refine List.any_eq_false.2 fun s hs => ?_
  have := h1 s hs
  simp; omega

/-! ### Equality -/
theorem cmpQ_eq (x y : Rat) : cmpQ x y = 0 ↔ x = y := by
  unfold cmpQ
  constructor
  · intro h
    by_cases h1 : x < y
    · rw [if_pos h1] at h; cases h
    · rw [if_neg h1] at h
      by_cases h2 : y < x
      · rw [if_pos h2] at h; cases h
      · exact Rat.le_antisymm (Rat.not_lt.1 h2) (Rat.not_lt.1 h1)
  · rintro rfl
    rw [if_neg Rat.lt_irrefl, if_neg Rat.lt_irrefl]
theorem eq_dec (x y : Rat) : (decide (cmpQ x y = 0) && ((⟨(qT x).toArray⟩ : ByteArray).toList == (⟨(qT y).toArray⟩ : ByteArray).toList)) = decide (x = y) := by
  by_cases h : x = y
  · subst h
    simp [(cmpQ_eq x x).2 rfl]
  · rw [decide_eq_false (fun e => h ((cmpQ_eq x y).1 e)), decide_eq_false h]; rfl
end Vou
end
