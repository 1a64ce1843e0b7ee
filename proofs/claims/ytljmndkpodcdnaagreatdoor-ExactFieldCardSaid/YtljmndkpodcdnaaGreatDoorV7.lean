/- A part of the proof: walks of the natural numbers: sums, differences, products, order. It holds without conditions. -/
import Derived.Test.YtljmndkpodcdnaaGreatDoorV4
import Derived.Test.YtljmndkpodcdnaaGreatDoorV6
import Derived.Test.YtljmndkpodcdnaaGreatDoorV5

section
set_option linter.unusedVariables false
set_option linter.unusedSimpArgs false
namespace Vou
open Go Go.RowKit Go.Proofs.Tryz
theorem w_natOf (n : Nat) (hn : n < 18446744073709551616) : FnP prog 122 [.v (.int .u64 (n : Nat))] (packP [nP n]) := by
  have hl3 := d9_u64 hn
  refine fnP_of (fn := f122) fn122 rfl (Nat.le_of_ble_eq_true rfl) ?_
  refine r_seq ?_
  refine r_reg ?_
  refine r_op rfl (o_as (some 2) ⟨rfl, rfl⟩ rfl (by exact (rfl : _ = AV.p _))) ?_
  refine r_end ?_
  refine s_n ?_
  refine r_seq ?_
  refine r_reg ?_
  refine r_op rfl (o_as (some 3) ⟨rfl, rfl⟩ rfl (by exact (rfl : _ = AV.p _))) ?_
  refine r_end ?_
  refine s_n ?_
  refine r_seq ?_
  refine r_block ?_
  refine r_ghc ?_ (gh_nilOwn (d := 3) (t := 3) rfl (Nat.zero_le 3) rfl 1 138)
  refine r_loop (ι := { p : Nat × List Nat // p.2 ++ d9 p.1 = d9 n ∧ p.1 ≤ n }) (fun p => stL [(0, I .u64 (p.1.1)), (3, .own true 1 3 0 (p.1.2).length)] [(3, { cells := nums .u32 (p.1.2), ty := 138 })]) (fun p => p.1.1) (⟨(n, []), rfl, Nat.le_refl _⟩) ?_ (fun i_ => ?_)
  · exact gh_st id (tlc (td_I rfl rfl) (tlc (td_own rfl rfl rfl) tl0)) (hpc (hp_nums rfl rfl rfl rfl rfl rfl) hp0) rfl
  · obtain ⟨⟨m, zs⟩, h1, h2⟩ := i_
    simp only at h1 h2
    have hz := d9_le h1
    change Tr _ _ _ (stL [(0, I .u64 (m)), (3, .own true 1 3 0 (zs).length)] [(3, { cells := nums .u32 (zs), ty := 138 })]) _
    refine r_seq ?_
    refine r_seq ?_
    refine r_reg ?_
    refine r_op rfl (o_mv (some 4) ⟨rfl, rfl⟩ rfl (by exact (rfl : _ = I _ _))) ?_
    refine r_op rfl (o_gtr (some 5) ⟨rfl, rfl⟩ rfl (by exact (rfl : _ = I _ 0)) rfl) ?_
    refine r_end ?_
    refine s_n ?_
    refine r_cond rfl (fun hc => ?_) (fun hc => ?_)
    · try simp only [decide_eq_true_eq, decide_eq_false_iff_not, Nat.not_lt, Nat.not_le, Bool.and_eq_true, Bool.or_eq_true, Bool.and_eq_false_iff, Bool.or_eq_false_iff, Bool.not_eq_true', Bool.not_eq_false', beq_iff_eq, beq_eq_false_iff_ne, ne_eq, Decidable.not_not] at hc
      refine r_skip ?_
      refine s_n ?_
      refine r_seq ?_
      refine r_block ?_
      refine r_reg ?_
      refine r_op rfl (o_mv (some 8) ⟨rfl, rfl⟩ rfl (by exact (rfl : _ = AV.own _ _ _ _ _))) ?_
      refine r_op rfl (o_mv (some 9) ⟨rfl, rfl⟩ rfl (by exact (rfl : _ = I _ _))) ?_
      refine r_op rfl (o_rem (some 10) ⟨rfl, rfl⟩ rfl (by exact (rfl : _ = I _ 1000000000)) rfl (by first | (simp only [lim]; omega) | omega | (simp only [List.length_set]; omega) | (simp at hb; omega))) ?_
      refine r_op rfl (o_conv (some 11) ⟨rfl, rfl⟩ rfl rfl ty137 ty138 (by first | (simp only [lim]; omega) | omega | (simp only [List.length_set]; omega) | (simp at hb; omega))) ?_
      refine r_op rfl (o_bsN (some 12) ⟨rfl, rfl⟩ rfl rfl 12 rfl rfl ty24 ty138) ?_
      refine r_op rfl (o_apN (some 13) ⟨rfl, rfl⟩ rfl 13 rfl rfl ty24 ty138 rfl rfl rfl rfl rfl rfl (by exact rfl) rfl rfl rfl rfl (by exact rfl) (by first | (simp only [lim]; omega) | omega | (simp only [List.length_set]; omega) | (simp at hb; omega))) ?_
      refine r_op rfl (o_as (some 3) ⟨rfl, rfl⟩ rfl (by exact (rfl : _ = AV.own _ _ _ _ _))) ?_
      refine r_end ?_
      refine b_n ?_
      refine s_n ?_
      refine r_reg ?_
      refine r_op rfl (o_mv (some 6) ⟨rfl, rfl⟩ rfl (by exact (rfl : _ = I _ _))) ?_
      refine r_op rfl (o_quo (some 7) ⟨rfl, rfl⟩ rfl (by exact (rfl : _ = I _ 1000000000)) rfl (by first | (simp only [lim]; omega) | omega | (simp only [List.length_set]; omega) | (simp at hb; omega)) (by first | (simp only [lim]; omega) | omega | (simp only [List.length_set]; omega) | (simp at hb; omega))) ?_
      refine r_op rfl (o_as (some 0) ⟨rfl, rfl⟩ rfl (by exact (rfl : _ = I _ _))) ?_
      refine r_end ?_
      refine s_n ?_
      exact ⟨⟨(m / 1000000000, zs ++ [m % 1000000000]), d9_snoc h1 hc, Nat.le_trans (Nat.div_le_self _ _) h2⟩, Nat.div_lt_self hc (by omega), gh_st (fun _ => 13) (tlc (td_I rfl rfl) (tlc (td_own rfl (by simp) rfl) tl0)) (hpc (hp_nums rfl rfl rfl rfl rfl rfl) hp0) rfl⟩
    · try simp only [decide_eq_true_eq, decide_eq_false_iff_not, Nat.not_lt, Nat.not_le, Bool.and_eq_true, Bool.or_eq_true, Bool.and_eq_false_iff, Bool.or_eq_false_iff, Bool.not_eq_true', Bool.not_eq_false', beq_iff_eq, beq_eq_false_iff_ne, ne_eq, Decidable.not_not] at hc
      refine r_exit ?_
      refine s_exit ?_
      refine s_exit ?_
      refine b_here ?_
      refine s_n ?_
      refine r_seq ?_
      refine r_reg ?_
      refine r_gh ?_ (gh_publish (b := 3) rfl rfl)
      refine r_op rfl (o_mv (some 14) ⟨rfl, rfl⟩ rfl (by exact (rfl : _ = AV.own _ _ _ _ _))) ?_
      refine r_op rfl (o_as (some 2) ⟨rfl, rfl⟩ rfl (by exact (rfl : _ = AV.own _ _ _ _ _))) ?_
      refine r_end ?_
      refine s_n ?_
      refine r_ret ?_
      have hm : m = 0 := by omega
      subst hm
      rw [d9_zero, List.append_nil] at h1
      refine ⟨.inl rfl, [nP n], rfl, ?_⟩
      exact resL_cons (res_tmp (by first | exact conv_p _ | exact conv_nilP _ | exact conv_nil _ | exact conv_sl rfl | exact conv_nums rfl rfl rfl rfl (by first | rfl | (simp [h1, dl])) (by first | rfl | (simp [h1, dl])))) (resL_nil)

theorem w_norm (zs : List Nat) (hL : Lim 1000000000 zs) (hlen : zs.length < 4611686018427387904) : FnP prog 119 [slP .u32 zs] (packP [nP (val 1000000000 zs)]) := by
  refine fnP_of (fn := f119) fn119 rfl (Nat.le_of_ble_eq_true rfl) ?_
  refine r_seq ?_
  refine r_reg ?_
  refine r_op rfl (o_as (some 2) ⟨rfl, rfl⟩ rfl (by exact (rfl : _ = AV.p _))) ?_
  refine r_end ?_
  refine s_n ?_
  refine r_seq ?_
  refine r_reg ?_
  refine r_op rfl (o_mv (some 4) ⟨rfl, rfl⟩ rfl (by first | exact (rfl : _ = I _ _) | exact (rfl : _ = AV.p _) | exact (rfl : _ = AV.ptr _ _) | exact (rfl : _ = AV.own _ _ _ _ _) | exact (rfl : _ = AV.agg _) | exact (rfl : _ = AV.fn _ _))) ?_
  refine r_op rfl ((by first | exact o_lenN (some 5) ⟨rfl, rfl⟩ rfl rfl ty24 rfl | exact o_lenO (some 5) ⟨rfl, rfl⟩ rfl rfl rfl rfl ty24 | exact o_lenZ (some 5) ⟨rfl, rfl⟩ rfl rfl ty24 | exact o_lenP (some 5) ⟨rfl, rfl⟩ rfl rfl ty24 rfl)) ?_
  refine r_op rfl (o_as (some 3) ⟨rfl, rfl⟩ rfl (by exact (rfl : _ = I _ _))) ?_
  refine r_end ?_
  refine s_n ?_
  refine r_seq ?_
  refine r_block ?_
  refine r_loop (ι := { n : Nat // n ≤ zs.length ∧ ∀ i, n ≤ i → i < zs.length → zs.getD i 0 = 0 }) (fun n => stL [(0, .p (slP .u32 zs)), (3, I .i64 (n.1))] []) (fun n => n.1) (⟨zs.length, Nat.le_refl _, fun i h1 h2 => by omega⟩) ?_ (fun i_ => ?_)
  · exact gh_st id (tlc (td_p rfl rfl) (tlc (td_I rfl rfl) tl0)) hp0 rfl
  · obtain ⟨n, h1, h2⟩ := i_
    change Tr _ _ _ (stL [(0, .p (slP .u32 zs)), (3, I .i64 (n))] []) _
    refine r_seq ?_
    refine r_seq ?_
    refine r_reg ?_
    refine r_op rfl (o_mv (some 6) ⟨rfl, rfl⟩ rfl (by exact (rfl : _ = I _ _))) ?_
    refine r_op rfl (o_gtr (some 7) ⟨rfl, rfl⟩ rfl (by exact (rfl : _ = I _ 0)) rfl) ?_
    refine r_op rfl (o_mv (some 8) ⟨rfl, rfl⟩ rfl (by exact (rfl : _ = Bo _))) ?_
    refine r_gd (d := some 9) rfl rfl rfl rfl ⟨rfl, rfl⟩ (fun hb => o_mv (some 9) ⟨rfl, rfl⟩ rfl (by exact (rfl : _ = AV.p _))) ?_
    refine r_gd (d := some 10) rfl rfl rfl rfl ⟨rfl, rfl⟩ (fun hb => o_mv (some 10) ⟨rfl, rfl⟩ rfl (by exact (rfl : _ = I _ _))) ?_
    refine r_gd (d := some 11) rfl rfl rfl rfl ⟨rfl, rfl⟩ (fun hb => o_sub (some 11) ⟨rfl, rfl⟩ (by exact gd hb) (by exact (rfl : _ = I _ 1)) rfl (by first | (simp only [lim]; omega) | omega | (simp only [List.length_set]; omega) | (simp at hb; omega)) (by first | (simp only [lim]; omega) | omega | (simp only [List.length_set]; omega) | (simp at hb; omega))) ?_
    refine r_gd (d := some 12) rfl rfl rfl rfl ⟨rfl, rfl⟩ (fun hb => o_ixN (some 12) ⟨rfl, rfl⟩ rfl (by exact gd hb) (by exact gd hb) ty24 ty138 (by first | (simp only [lim]; omega) | omega | (simp only [List.length_set]; omega) | (simp at hb; omega))) ?_
    refine r_gd (d := some 13) rfl rfl rfl rfl ⟨rfl, rfl⟩ (fun hb => o_ldc (some 13) ⟨rfl, rfl⟩ rfl (by exact gd hb) ty138 rfl) ?_
    refine r_gd (d := some 14) rfl rfl rfl rfl ⟨rfl, rfl⟩ (fun hb => o_eql (some 14) ⟨rfl, rfl⟩ (by exact gd hb) (by exact (rfl : _ = I _ 0)) rfl) ?_
    refine r_op rfl (o_and (some 15) ⟨rfl, rfl⟩ rfl rfl rfl rfl) ?_
    refine r_end ?_
    refine s_n ?_
    refine r_cond rfl (fun hc => ?_) (fun hc => ?_)
    · try simp only [decide_eq_true_eq, decide_eq_false_iff_not, Nat.not_lt, Nat.not_le, Bool.and_eq_true, Bool.or_eq_true, Bool.and_eq_false_iff, Bool.or_eq_false_iff, Bool.not_eq_true', Bool.not_eq_false', beq_iff_eq, beq_eq_false_iff_ne, ne_eq, Decidable.not_not] at hc
      refine r_skip ?_
      refine s_n ?_
      refine r_block ?_
      refine r_reg ?_
      refine r_op rfl (o_mv (some 16) ⟨rfl, rfl⟩ rfl (by exact (rfl : _ = I _ _))) ?_
      refine r_op rfl (o_sub (some 17) ⟨rfl, rfl⟩ rfl (by exact (rfl : _ = I _ 1)) rfl (by first | (simp only [lim]; omega) | omega | (simp only [List.length_set]; omega) | (simp at hb; omega)) (by first | (simp only [lim]; omega) | omega | (simp only [List.length_set]; omega) | (simp at hb; omega))) ?_
      refine r_op rfl (o_as (some 3) ⟨rfl, rfl⟩ rfl (by exact (rfl : _ = I _ _))) ?_
      refine r_end ?_
      refine b_n ?_
      refine s_n ?_
      refine ⟨⟨n - 1, by omega, fun i h3 h4 => ?_⟩, by show n - 1 < n; omega, gh_st id (tlc (td_p rfl rfl) (tlc (td_I rfl rfl) tl0)) hp0 rfl⟩
      by_cases h5 : i = n - 1
      · subst h5; exact hc.2
      · exact h2 i (by omega) h4
    · try simp only [decide_eq_true_eq, decide_eq_false_iff_not, Nat.not_lt, Nat.not_le, Bool.and_eq_true, Bool.or_eq_true, Bool.and_eq_false_iff, Bool.or_eq_false_iff, Bool.not_eq_true', Bool.not_eq_false', beq_iff_eq, beq_eq_false_iff_ne, ne_eq, Decidable.not_not] at hc
      refine r_exit ?_
      refine s_exit ?_
      refine s_exit ?_
      refine b_here ?_
      refine s_n ?_
      refine r_seq ?_
      refine r_reg ?_
      refine r_op rfl (o_mv (some 18) ⟨rfl, rfl⟩ rfl (by exact (rfl : _ = AV.p _))) ?_
      refine r_op rfl (o_mv (some 19) ⟨rfl, rfl⟩ rfl (by exact (rfl : _ = I _ _))) ?_
      refine r_op rfl (o_mv (some 20) ⟨rfl, rfl⟩ rfl (by exact (rfl : _ = I _ _))) ?_
      refine r_op rfl (o_slN (some 21) ⟨rfl, rfl⟩ rfl rfl ty24 ty138 (cut3 (by exact rfl) rfl rfl (by first | (simp only [lim]; omega) | omega | (simp only [List.length_set]; omega) | (simp at hb; omega)) (by first | (simp only [lim]; omega) | omega | (simp only [List.length_set]; omega) | (simp at hb; omega))) rfl) ?_
      refine r_op rfl (o_as (some 2) ⟨rfl, rfl⟩ rfl (by first | exact (rfl : _ = I _ _) | exact (rfl : _ = AV.p _) | exact (rfl : _ = AV.ptr _ _) | exact (rfl : _ = AV.own _ _ _ _ _) | exact (rfl : _ = AV.agg _) | exact (rfl : _ = AV.fn _ _))) ?_
      refine r_end ?_
      refine s_n ?_
      refine r_ret ?_
      have hfin : zs.take n = d9 (val 1000000000 zs) := take_noZ (by omega) hL h1 h2 (hc.elim (fun h => .inl (by omega)) (fun h => .inr h))
      refine ⟨.inl rfl, [nP (val 1000000000 zs)], rfl, ?_⟩
      exact resL_cons (res_tmp (conv_sl (congrArg (els .u32) (by rw [List.drop_zero]; exact hfin)))) (resL_nil)
theorem w_normE {zs : List Nat} {n : Nat} (hL : Lim 1000000000 zs) (hlen : zs.length < 4611686018427387904) (e : val 1000000000 zs = n) : FnP prog 119 [slP .u32 zs] (nP n) := by subst e; exact w_norm zs hL hlen


theorem w_word (n : Nat) (hn : (d9 n).length < 4611686018427387904) : FnP prog 121 [nP n] (wordP n) := by
  have g0 := lim9 n 0
  have g1 := lim9 n 1
  refine fnP_of (fn := f121) fn121 rfl (Nat.le_of_ble_eq_true rfl) ?_
  refine r_seq ?_
  refine r_reg ?_
  refine r_op rfl (o_as (some 2) ⟨rfl, rfl⟩ rfl (by exact (rfl : _ = I _ 0))) ?_
  refine r_op rfl (o_as (some 3) ⟨rfl, rfl⟩ rfl (by exact (rfl : _ = AV.p _))) ?_
  refine r_end ?_
  refine s_n ?_
  refine r_seq ?_
  refine r_seq ?_
  refine r_reg ?_
  refine r_op rfl (o_mv (some 4) ⟨rfl, rfl⟩ rfl (by first | exact (rfl : _ = I _ _) | exact (rfl : _ = AV.p _) | exact (rfl : _ = AV.ptr _ _) | exact (rfl : _ = AV.own _ _ _ _ _) | exact (rfl : _ = AV.agg _) | exact (rfl : _ = AV.fn _ _))) ?_
  refine r_op rfl ((by first | exact o_lenN (some 5) ⟨rfl, rfl⟩ rfl rfl ty24 rfl | exact o_lenO (some 5) ⟨rfl, rfl⟩ rfl rfl rfl rfl ty24 | exact o_lenZ (some 5) ⟨rfl, rfl⟩ rfl rfl ty24 | exact o_lenP (some 5) ⟨rfl, rfl⟩ rfl rfl ty24 rfl)) ?_
  refine r_end ?_
  refine s_n ?_
  refine r_block ?_
  refine r_seq ?_
  refine r_reg ?_
  refine r_op rfl (o_eql (some 7) ⟨rfl, rfl⟩ rfl (by exact (rfl : _ = I _ 0)) rfl) ?_
  refine r_op rfl (o_as (some 6) ⟨rfl, rfl⟩ rfl (by exact (rfl : _ = Bo _))) ?_
  refine r_end ?_
  refine s_n ?_
  refine r_cond rfl (fun hc => ?_) (fun hc => ?_)
  · try simp only [decide_eq_true_eq, decide_eq_false_iff_not, Nat.not_lt, Nat.not_le, Bool.and_eq_true, Bool.or_eq_true, Bool.and_eq_false_iff, Bool.or_eq_false_iff, Bool.not_eq_true', Bool.not_eq_false', beq_iff_eq, beq_eq_false_iff_ne, ne_eq, Decidable.not_not] at hc
    refine r_seq ?_
    refine r_reg ?_
    refine r_op rfl (o_as (some 2) ⟨rfl, rfl⟩ rfl (by exact (rfl : _ = I _ 0))) ?_
    refine r_op rfl (o_as (some 3) ⟨rfl, rfl⟩ rfl (by exact (rfl : _ = AV.p _))) ?_
    refine r_end ?_
    refine s_n ?_
    refine r_ret ?_
    refine b_ret ?_
    refine s_ret ?_
    refine ⟨.inl rfl, [.v (.int .u64 ((n : Nat) : Int)), .v (.bool true)], word_le (n := n) (by omega), ?_⟩
    exact resL_cons (res_tmp (conv_I rfl (nat_of_d9_0 hc).symm)) (resL_cons (res_tmp (conv_p _)) (resL_nil))
  · try simp only [decide_eq_true_eq, decide_eq_false_iff_not, Nat.not_lt, Nat.not_le, Bool.and_eq_true, Bool.or_eq_true, Bool.and_eq_false_iff, Bool.or_eq_false_iff, Bool.not_eq_true', Bool.not_eq_false', beq_iff_eq, beq_eq_false_iff_ne, ne_eq, Decidable.not_not] at hc
    refine r_seq ?_
    refine r_reg ?_
    refine r_op rfl (o_eql (some 9) ⟨rfl, rfl⟩ rfl (by exact (rfl : _ = I _ 1)) rfl) ?_
    refine r_op rfl (o_as (some 8) ⟨rfl, rfl⟩ rfl (by exact (rfl : _ = Bo _))) ?_
    refine r_end ?_
    refine s_n ?_
    refine r_cond rfl (fun hc_1 => ?_) (fun hc_1 => ?_)
    · try simp only [decide_eq_true_eq, decide_eq_false_iff_not, Nat.not_lt, Nat.not_le, Bool.and_eq_true, Bool.or_eq_true, Bool.and_eq_false_iff, Bool.or_eq_false_iff, Bool.not_eq_true', Bool.not_eq_false', beq_iff_eq, beq_eq_false_iff_ne, ne_eq, Decidable.not_not] at hc_1
      refine r_seq ?_
      refine r_reg ?_
      refine r_op rfl (o_mv (some 10) ⟨rfl, rfl⟩ rfl (by first | exact (rfl : _ = I _ _) | exact (rfl : _ = AV.p _) | exact (rfl : _ = AV.ptr _ _) | exact (rfl : _ = AV.own _ _ _ _ _) | exact (rfl : _ = AV.agg _) | exact (rfl : _ = AV.fn _ _))) ?_
      refine r_op rfl ((by first | exact o_ixN (some 11) ⟨rfl, rfl⟩ rfl rfl (by exact (rfl : _ = I _ 0)) ty24 ty138 (by first | (simp only [lim]; omega) | omega | (simp only [List.length_set]; omega) | (simp at hb; omega)) | exact o_ixM (some 11) ⟨rfl, rfl⟩ rfl rfl rfl rfl (by exact (rfl : _ = I _ 0)) ty24 ty138 (by first | (simp only [lim]; omega) | omega | (simp only [List.length_set]; omega) | (simp at hb; omega)))) ?_
      refine r_op rfl ((by first | exact o_ld1 (some 12) ⟨rfl, rfl⟩ rfl rfl rfl rfl ty138 rfl rfl | exact o_ldN (some 12) ⟨rfl, rfl⟩ rfl rfl rfl rfl ty138 rfl rfl (by first | (simp only [lim]; omega) | omega | (simp only [List.length_set]; omega) | (simp at hb; omega)) | exact o_ldc (some 12) ⟨rfl, rfl⟩ rfl rfl ty138 rfl)) ?_
      refine r_op rfl (o_conv (some 13) ⟨rfl, rfl⟩ rfl rfl ty138 ty137 (by first | (simp only [lim]; omega) | omega | (simp only [List.length_set]; omega) | (simp at hb; omega))) ?_
      refine r_op rfl (o_as (some 2) ⟨rfl, rfl⟩ rfl (by exact (rfl : _ = I _ _))) ?_
      refine r_op rfl (o_as (some 3) ⟨rfl, rfl⟩ rfl (by exact (rfl : _ = AV.p _))) ?_
      refine r_end ?_
      refine s_n ?_
      refine r_ret ?_
      refine b_ret ?_
      refine s_ret ?_
      refine ⟨.inl rfl, [.v (.int .u64 ((n : Nat) : Int)), .v (.bool true)], word_le (n := n) (by omega), ?_⟩
      exact resL_cons (res_tmp (conv_I rfl (nat_of_d9_1 hc_1).symm)) (resL_cons (res_tmp (conv_p _)) (resL_nil))
    · try simp only [decide_eq_true_eq, decide_eq_false_iff_not, Nat.not_lt, Nat.not_le, Bool.and_eq_true, Bool.or_eq_true, Bool.and_eq_false_iff, Bool.or_eq_false_iff, Bool.not_eq_true', Bool.not_eq_false', beq_iff_eq, beq_eq_false_iff_ne, ne_eq, Decidable.not_not] at hc_1
      refine r_seq ?_
      refine r_reg ?_
      refine r_op rfl (o_eql (some 15) ⟨rfl, rfl⟩ rfl (by exact (rfl : _ = I _ 2)) rfl) ?_
      refine r_op rfl (o_as (some 14) ⟨rfl, rfl⟩ rfl (by exact (rfl : _ = Bo _))) ?_
      refine r_end ?_
      refine s_n ?_
      refine r_cond rfl (fun hc_2 => ?_) (fun hc_2 => ?_)
      · try simp only [decide_eq_true_eq, decide_eq_false_iff_not, Nat.not_lt, Nat.not_le, Bool.and_eq_true, Bool.or_eq_true, Bool.and_eq_false_iff, Bool.or_eq_false_iff, Bool.not_eq_true', Bool.not_eq_false', beq_iff_eq, beq_eq_false_iff_ne, ne_eq, Decidable.not_not] at hc_2
        refine r_seq ?_
        refine r_drawn mixed ?_
        refine d_op [0] [] rfl rfl (fun s hs => o_mv (some 16) ⟨rfl, rfl⟩ rfl (by first | exact ((hs.1 0 rfl).trans (rfl) : _ = I _ _) | exact ((hs.1 0 rfl).trans (rfl) : _ = AV.p _) | exact ((hs.1 0 rfl).trans (rfl) : _ = AV.ptr _ _) | exact ((hs.1 0 rfl).trans (rfl) : _ = AV.own _ _ _ _ _) | exact ((hs.1 0 rfl).trans (rfl) : _ = AV.agg _) | exact ((hs.1 0 rfl).trans (rfl) : _ = AV.fn _ _))) ?_
        refine d_op [16] [] rfl rfl (fun s hs => (by first | exact o_ixN (some 17) ⟨rfl, rfl⟩ rfl (by exact (hs.1 16 rfl).trans (rfl)) (by exact (rfl : _ = I _ 1)) ty24 ty138 (by first | (simp only [lim]; omega) | omega | (simp only [List.length_set]; omega) | (simp at hb; omega)) | exact o_ixM (some 17) ⟨rfl, rfl⟩ rfl (by exact (hs.1 16 rfl).trans (rfl)) (by exact (hs.2.1 _ rfl).trans rfl) rfl (by exact (rfl : _ = I _ 1)) ty24 ty138 (by first | (simp only [lim]; omega) | omega | (simp only [List.length_set]; omega) | (simp at hb; omega)))) ?_
        refine d_op [17] [] rfl rfl (fun s hs => (by first | exact o_ld1 (some 18) ⟨rfl, rfl⟩ rfl (by exact (hs.1 17 rfl).trans (rfl)) (by exact (hs.2.1 _ rfl).trans rfl) rfl ty138 rfl rfl | exact o_ldN (some 18) ⟨rfl, rfl⟩ rfl (by exact (hs.1 17 rfl).trans (rfl)) (by exact (hs.2.1 _ rfl).trans rfl) rfl ty138 rfl rfl (by first | (simp only [lim]; omega) | omega | (simp only [List.length_set]; omega) | (simp at hb; omega)) | exact o_ldc (some 18) ⟨rfl, rfl⟩ rfl (by exact (hs.1 17 rfl).trans (rfl)) ty138 rfl)) ?_
        refine d_op [18] [] rfl rfl (fun s hs => o_conv (some 19) ⟨rfl, rfl⟩ rfl (by exact (hs.1 18 rfl).trans (rfl)) ty138 ty137 (by first | (simp only [lim]; omega) | omega | (simp only [List.length_set]; omega) | (simp at hb; omega))) ?_
        refine d_op [19] [] rfl rfl (fun s hs => o_mul (some 20) ⟨rfl, rfl⟩ (by exact (hs.1 19 rfl).trans (rfl)) (by exact (rfl : _ = I _ 1000000000)) rfl (by first | (simp only [lim]; omega) | omega | (simp only [List.length_set]; omega) | (simp at hb; omega))) ?_
        refine d_op [0] [] rfl rfl (fun s hs => o_mv (some 21) ⟨rfl, rfl⟩ rfl (by first | exact ((hs.1 0 rfl).trans (rfl) : _ = I _ _) | exact ((hs.1 0 rfl).trans (rfl) : _ = AV.p _) | exact ((hs.1 0 rfl).trans (rfl) : _ = AV.ptr _ _) | exact ((hs.1 0 rfl).trans (rfl) : _ = AV.own _ _ _ _ _) | exact ((hs.1 0 rfl).trans (rfl) : _ = AV.agg _) | exact ((hs.1 0 rfl).trans (rfl) : _ = AV.fn _ _))) ?_
        refine d_op [21] [] rfl rfl (fun s hs => (by first | exact o_ixN (some 22) ⟨rfl, rfl⟩ rfl (by exact (hs.1 21 rfl).trans (rfl)) (by exact (rfl : _ = I _ 0)) ty24 ty138 (by first | (simp only [lim]; omega) | omega | (simp only [List.length_set]; omega) | (simp at hb; omega)) | exact o_ixM (some 22) ⟨rfl, rfl⟩ rfl (by exact (hs.1 21 rfl).trans (rfl)) (by exact (hs.2.1 _ rfl).trans rfl) rfl (by exact (rfl : _ = I _ 0)) ty24 ty138 (by first | (simp only [lim]; omega) | omega | (simp only [List.length_set]; omega) | (simp at hb; omega)))) ?_
        refine d_op [22] [] rfl rfl (fun s hs => (by first | exact o_ld1 (some 23) ⟨rfl, rfl⟩ rfl (by exact (hs.1 22 rfl).trans (rfl)) (by exact (hs.2.1 _ rfl).trans rfl) rfl ty138 rfl rfl | exact o_ldN (some 23) ⟨rfl, rfl⟩ rfl (by exact (hs.1 22 rfl).trans (rfl)) (by exact (hs.2.1 _ rfl).trans rfl) rfl ty138 rfl rfl (by first | (simp only [lim]; omega) | omega | (simp only [List.length_set]; omega) | (simp at hb; omega)) | exact o_ldc (some 23) ⟨rfl, rfl⟩ rfl (by exact (hs.1 22 rfl).trans (rfl)) ty138 rfl)) ?_
        refine d_op [23] [] rfl rfl (fun s hs => o_conv (some 24) ⟨rfl, rfl⟩ rfl (by exact (hs.1 23 rfl).trans (rfl)) ty138 ty137 (by first | (simp only [lim]; omega) | omega | (simp only [List.length_set]; omega) | (simp at hb; omega))) ?_
        refine d_op [20, 24] [] rfl rfl (fun s hs => o_add (some 25) ⟨rfl, rfl⟩ (by exact (hs.1 20 rfl).trans (rfl)) (by exact (hs.1 24 rfl).trans (rfl)) rfl (by first | (simp only [lim]; omega) | omega | (simp only [List.length_set]; omega) | (simp at hb; omega))) ?_
        refine d_op [25] [] rfl rfl (fun s hs => o_as (some 2) ⟨rfl, rfl⟩ rfl (by exact ((hs.1 25 rfl).trans (rfl) : _ = I _ _))) ?_
        refine d_op [] [] rfl rfl (fun s hs => o_as (some 3) ⟨rfl, rfl⟩ rfl (by exact (rfl : _ = AV.p _))) ?_
        refine d_end ⟨rfl, ?_⟩
        refine s_n ?_
        refine r_ret ?_
        refine b_ret ?_
        refine s_ret ?_
        refine ⟨.inl rfl, [.v (.int .u64 ((n : Nat) : Int)), .v (.bool true)], word_le (n := n) (by omega), ?_⟩
        exact resL_cons (res_tmp (conv_I rfl (nat_of_d9_2 hc_2).symm)) (resL_cons (res_tmp (conv_p _)) (resL_nil))
      · try simp only [decide_eq_true_eq, decide_eq_false_iff_not, Nat.not_lt, Nat.not_le, Bool.and_eq_true, Bool.or_eq_true, Bool.and_eq_false_iff, Bool.or_eq_false_iff, Bool.not_eq_true', Bool.not_eq_false', beq_iff_eq, beq_eq_false_iff_ne, ne_eq, Decidable.not_not] at hc_2
        refine r_skip ?_
        refine b_n ?_
        refine s_n ?_
        refine r_seq ?_
        refine r_reg ?_
        refine r_op rfl (o_as (some 2) ⟨rfl, rfl⟩ rfl (by exact (rfl : _ = I _ 0))) ?_
        refine r_op rfl (o_as (some 3) ⟨rfl, rfl⟩ rfl (by exact (rfl : _ = AV.p _))) ?_
        refine r_end ?_
        refine s_n ?_
        refine r_ret ?_
        refine ⟨.inl rfl, [.v (.int .u64 ((0 : Nat) : Int)), .v (.bool false)], word_gt (n := n) (by omega), ?_⟩
        exact resL_cons (res_tmp (conv_p _)) (resL_cons (res_tmp (conv_p _)) (resL_nil))

theorem w_one  : FnP prog 86 [] (packP [nP 1]) := by
  refine fnP_of (fn := f86) fn86 rfl (Nat.le_of_ble_eq_true rfl) ?_
  refine r_seq ?_
  refine r_reg ?_
  refine r_op rfl (o_as (some 0) ⟨rfl, rfl⟩ rfl (by exact (rfl : _ = AV.p _))) ?_
  refine r_end ?_
  refine s_n ?_
  refine r_seq ?_
  refine r_reg ?_
  refine r_op rfl (o_bsN (some 1) ⟨rfl, rfl⟩ rfl (by exact (rfl : _ = I _ 1)) 1 rfl rfl ty24 ty138) ?_
  refine r_gh ?_ (gh_publish (b := 1) rfl rfl)
  refine r_op rfl (o_as (some 0) ⟨rfl, rfl⟩ rfl (by exact (rfl : _ = AV.own _ _ _ _ _))) ?_
  refine r_end ?_
  refine s_n ?_
  refine r_ret ?_
  refine ⟨.inl rfl, [nP 1], rfl, ?_⟩
  exact resL_cons (res_tmp (by first | exact conv_p _ | exact conv_nilP _ | exact conv_nil _ | exact conv_sl rfl | exact conv_nums rfl rfl rfl rfl (by first | rfl | exact d9_one.symm | (rw [d9_one]; rfl)) (by first | rfl | exact d9_one.symm | (rw [d9_one]; rfl)))) (resL_nil)

theorem w_add1 (x y : Nat) (hxy : (d9 x).length ≥ (d9 y).length) (hx : (d9 x).length < 1099511627776) : FnP prog 98 [nP x, nP y] (packP [nP (x + y)]) := by
  refine fnP_of (fn := f98) fn98 rfl (Nat.le_of_ble_eq_true rfl) ?_
  refine r_seq ?_
  refine r_reg ?_
  refine r_op rfl (o_as (some 4) ⟨rfl, rfl⟩ rfl (by exact (rfl : _ = AV.p _))) ?_
  refine r_end ?_
  refine s_n ?_
  refine r_seq ?_
  refine r_seq ?_
  refine r_reg ?_
  refine r_op rfl (o_mv (some 9) ⟨rfl, rfl⟩ rfl (by first | exact (rfl : _ = I _ _) | exact (rfl : _ = AV.p _) | exact (rfl : _ = AV.ptr _ _) | exact (rfl : _ = AV.own _ _ _ _ _) | exact (rfl : _ = AV.agg _) | exact (rfl : _ = AV.fn _ _))) ?_
  refine r_op rfl ((by first | exact o_lenN (some 10) ⟨rfl, rfl⟩ rfl rfl ty24 rfl | exact o_lenO (some 10) ⟨rfl, rfl⟩ rfl rfl rfl rfl ty24 | exact o_lenZ (some 10) ⟨rfl, rfl⟩ rfl rfl ty24 | exact o_lenP (some 10) ⟨rfl, rfl⟩ rfl rfl ty24 rfl)) ?_
  refine r_op rfl (o_mv (some 11) ⟨rfl, rfl⟩ rfl (by first | exact (rfl : _ = I _ _) | exact (rfl : _ = AV.p _) | exact (rfl : _ = AV.ptr _ _) | exact (rfl : _ = AV.own _ _ _ _ _) | exact (rfl : _ = AV.agg _) | exact (rfl : _ = AV.fn _ _))) ?_
  refine r_op rfl ((by first | exact o_lenN (some 12) ⟨rfl, rfl⟩ rfl rfl ty24 rfl | exact o_lenO (some 12) ⟨rfl, rfl⟩ rfl rfl rfl rfl ty24 | exact o_lenZ (some 12) ⟨rfl, rfl⟩ rfl rfl ty24 | exact o_lenP (some 12) ⟨rfl, rfl⟩ rfl rfl ty24 rfl)) ?_
  refine r_op rfl (o_lss (some 13) ⟨rfl, rfl⟩ rfl rfl rfl) ?_
  refine r_end ?_
  refine s_n ?_
  refine r_cond rfl (fun hc => ?_) (fun hc => ?_)
  · try simp only [decide_eq_true_eq, decide_eq_false_iff_not, Nat.not_lt, Nat.not_le, Bool.and_eq_true, Bool.or_eq_true, Bool.and_eq_false_iff, Bool.or_eq_false_iff, Bool.not_eq_true', Bool.not_eq_false', beq_iff_eq, beq_eq_false_iff_ne, ne_eq, Decidable.not_not] at hc
    omega
  · try simp only [decide_eq_true_eq, decide_eq_false_iff_not, Nat.not_lt, Nat.not_le, Bool.and_eq_true, Bool.or_eq_true, Bool.and_eq_false_iff, Bool.or_eq_false_iff, Bool.not_eq_true', Bool.not_eq_false', beq_iff_eq, beq_eq_false_iff_ne, ne_eq, Decidable.not_not] at hc
    refine r_skip ?_
    refine s_n ?_
    refine r_seq ?_
    refine r_reg ?_
    refine r_op rfl (o_mv (some 16) ⟨rfl, rfl⟩ rfl (by first | exact (rfl : _ = I _ _) | exact (rfl : _ = AV.p _) | exact (rfl : _ = AV.ptr _ _) | exact (rfl : _ = AV.own _ _ _ _ _) | exact (rfl : _ = AV.agg _) | exact (rfl : _ = AV.fn _ _))) ?_
    refine r_op rfl ((by first | exact o_lenN (some 17) ⟨rfl, rfl⟩ rfl rfl ty24 rfl | exact o_lenO (some 17) ⟨rfl, rfl⟩ rfl rfl rfl rfl ty24 | exact o_lenZ (some 17) ⟨rfl, rfl⟩ rfl rfl ty24 | exact o_lenP (some 17) ⟨rfl, rfl⟩ rfl rfl ty24 rfl)) ?_
    refine r_op rfl (o_add (some 18) ⟨rfl, rfl⟩ rfl (by exact (rfl : _ = I _ 1)) rfl (by first | (simp only [lim]; omega) | omega | (simp only [List.length_set]; omega) | (simp at hb; omega))) ?_
    refine r_op rfl (o_mkN (some 19) ⟨rfl, rfl⟩ rfl rfl rfl 19 rfl rfl ty24 ty138 (by first | (simp only [lim]; omega) | omega | (simp only [List.length_set]; omega) | (simp at hb; omega)) rfl) ?_
    refine r_op rfl (o_as (some 5) ⟨rfl, rfl⟩ rfl (by exact (rfl : _ = AV.own _ _ _ _ _))) ?_
    refine r_end ?_
    refine s_n ?_
    refine r_seq ?_
    refine r_reg ?_
    refine r_op rfl (o_mv (some 20) ⟨rfl, rfl⟩ rfl (by exact (rfl : _ = AV.own _ _ _ _ _))) ?_
    refine r_op rfl (o_mv (some 21) ⟨rfl, rfl⟩ rfl (by first | exact (rfl : _ = I _ _) | exact (rfl : _ = AV.p _) | exact (rfl : _ = AV.ptr _ _) | exact (rfl : _ = AV.own _ _ _ _ _) | exact (rfl : _ = AV.agg _) | exact (rfl : _ = AV.fn _ _))) ?_
    refine r_op rfl (o_cpN (some 22) ⟨rfl, rfl⟩ rfl ty24 ty138 rfl rfl rfl rfl rfl (List.length_replicate ..) rfl (by first | (simp only [lim]; omega) | omega | (simp only [List.length_set]; omega) | (simp at hb; omega)) (by first | (simp only [lim]; omega) | omega | (simp only [List.length_set]; omega) | (simp at hb; omega)) (by first | (simp only [lim]; omega) | omega | (simp only [List.length_set]; omega) | (simp at hb; omega))) ?_
    refine r_end ?_
    refine s_n ?_
    refine r_seq ?_
    refine r_reg ?_
    refine r_op rfl (o_as (some 6) ⟨rfl, rfl⟩ rfl (by exact (rfl : _ = I _ 0))) ?_
    refine r_end ?_
    refine s_n ?_
    refine r_seq ?_
    refine r_seq ?_
    refine r_reg ?_
    refine r_op rfl (o_mv (some 23) ⟨rfl, rfl⟩ rfl (by exact (rfl : _ = AV.own _ _ _ _ _))) ?_
    refine r_op rfl (o_lenO (some 24) ⟨rfl, rfl⟩ rfl rfl rfl rfl ty24) ?_
    refine r_op rfl (o_mv (some 25) ⟨rfl, rfl⟩ rfl (by exact (rfl : _ = I _ 0))) ?_
    refine r_end ?_
    refine s_n ?_
    refine r_block ?_
    refine r_loop (ι := { p : Nat × List Nat × Nat // AddInv 1000000000 (d9 x) (d9 y) p.1 p.2.1 p.2.2 ∧ p.1 ≤ (d9 x).length + 1 }) (fun p => stL [(0, .p (nP x)), (1, .p (nP y)), (4, .p .any), (5, .own true 1 19 0 ((d9 x).length + 1)), (6, I .u32 (p.1.2.2)), (24, I .i64 ((d9 x).length + 1)), (25, I .i64 (p.1.1))] [(19, { cells := nums .u32 (addC x (p.1.1) (p.1.2.1)), ty := 138 })]) (fun p => (d9 x).length + 1 - p.1.1) (⟨(0, [], 0), AddInv.start _ _ _, Nat.zero_le _⟩) ?_ (fun i_ => ?_)
    · exact gh_st id (tlc (td_p rfl rfl) (tlc (td_p rfl rfl) (tlc td_any (tlc (td_own rfl rfl rfl) (tlc (td_I rfl rfl) (tlc (td_I rfl rfl) (tlc (td_I rfl rfl) tl0))))))) (hpc (hp_nums rfl rfl rfl rfl rfl (addC_start x)) hp0) rfl
    · obtain ⟨⟨i, r, c⟩, h1, h2⟩ := i_
      simp only at h1 h2
      have g1 := h1.c1
      have g2 := h1.len
      have g3 := addC_len x h1.len h2
      have g4 := lim9 x i
      have g5 := lim9 y i
      have g6 := addC_get x h1.len
      change Tr _ _ _ (stL [(0, .p (nP x)), (1, .p (nP y)), (4, .p .any), (5, .own true 1 19 0 ((d9 x).length + 1)), (6, I .u32 (c)), (24, I .i64 ((d9 x).length + 1)), (25, I .i64 (i))] [(19, { cells := nums .u32 (addC x (i) (r)), ty := 138 })]) _
      refine r_seq ?_
      refine r_reg ?_
      refine r_op rfl (o_lss (some 26) ⟨rfl, rfl⟩ rfl rfl rfl) ?_
      refine r_end ?_
      refine s_n ?_
      refine r_seq ?_
      refine r_cond rfl (fun hc_1 => ?_) (fun hc_1 => ?_)
      · try simp only [decide_eq_true_eq, decide_eq_false_iff_not, Nat.not_lt, Nat.not_le, Bool.and_eq_true, Bool.or_eq_true, Bool.and_eq_false_iff, Bool.or_eq_false_iff, Bool.not_eq_true', Bool.not_eq_false', beq_iff_eq, beq_eq_false_iff_ne, ne_eq, Decidable.not_not] at hc_1
        refine r_skip ?_
        refine s_n ?_
        refine r_seq ?_
        refine r_block ?_
        refine r_seq ?_
        refine r_reg ?_
        refine r_op rfl (o_mv (some 27) ⟨rfl, rfl⟩ rfl (by exact (rfl : _ = I _ _))) ?_
        refine r_op rfl (o_as (some 7) ⟨rfl, rfl⟩ rfl (by exact (rfl : _ = I _ _))) ?_
        refine r_end ?_
        refine s_n ?_
        refine r_seq ?_
        refine r_reg ?_
        refine r_op rfl (o_mv (some 28) ⟨rfl, rfl⟩ rfl (by exact (rfl : _ = AV.own _ _ _ _ _))) ?_
        refine r_op rfl (o_mv (some 29) ⟨rfl, rfl⟩ rfl (by exact (rfl : _ = I _ _))) ?_
        refine r_op rfl (o_ixM (some 30) ⟨rfl, rfl⟩ rfl rfl rfl rfl rfl ty24 ty138 (by first | (simp only [lim]; omega) | omega | (simp only [List.length_set]; omega) | (simp at hb; omega))) ?_
        refine r_op rfl ((by first | exact o_ld1 (some 31) ⟨rfl, rfl⟩ rfl rfl rfl rfl ty138 rfl rfl | exact o_ldN (some 31) ⟨rfl, rfl⟩ rfl rfl rfl rfl ty138 rfl rfl (by first | (simp only [lim]; omega) | omega | (simp only [List.length_set]; omega) | (simp at hb; omega)))) ?_
        rw [g6]
        refine r_op rfl (o_mv (some 32) ⟨rfl, rfl⟩ rfl (by exact (rfl : _ = I _ _))) ?_
        refine r_op rfl (o_add (some 33) ⟨rfl, rfl⟩ rfl rfl rfl (by first | (simp only [lim]; omega) | omega | (simp only [List.length_set]; omega) | (simp at hb; omega))) ?_
        refine r_op rfl (o_as (some 8) ⟨rfl, rfl⟩ rfl (by exact (rfl : _ = I _ _))) ?_
        refine r_end ?_
        refine s_n ?_
        refine r_midp 8 (I .u32 ((d9 x).getD i 0 + c + (d9 y).getD i 0)) ?_ ?_
        · refine r_seq ?_
          refine r_reg ?_
          refine r_op rfl (o_mv (some 34) ⟨rfl, rfl⟩ rfl (by exact (rfl : _ = I _ _))) ?_
          refine r_op rfl (o_mv (some 35) ⟨rfl, rfl⟩ rfl (by exact (rfl : _ = AV.p _))) ?_
          refine r_op rfl ((by first | exact o_lenN (some 36) ⟨rfl, rfl⟩ rfl rfl ty24 rfl | exact o_lenO (some 36) ⟨rfl, rfl⟩ rfl rfl rfl rfl ty24 | exact o_lenZ (some 36) ⟨rfl, rfl⟩ rfl rfl ty24 | exact o_lenP (some 36) ⟨rfl, rfl⟩ rfl rfl ty24 rfl)) ?_
          refine r_op rfl (o_lss (some 37) ⟨rfl, rfl⟩ rfl rfl rfl) ?_
          refine r_end ?_
          refine s_n ?_
          refine r_cond rfl (fun hc_2 => ?_) (fun hc_2 => ?_)
          · try simp only [decide_eq_true_eq, decide_eq_false_iff_not, Nat.not_lt, Nat.not_le, Bool.and_eq_true, Bool.or_eq_true, Bool.and_eq_false_iff, Bool.or_eq_false_iff, Bool.not_eq_true', Bool.not_eq_false', beq_iff_eq, beq_eq_false_iff_ne, ne_eq, Decidable.not_not] at hc_2
            refine r_reg ?_
            refine r_op rfl (o_mv (some 38) ⟨rfl, rfl⟩ rfl (by exact (rfl : _ = I _ _))) ?_
            refine r_op rfl (o_mv (some 39) ⟨rfl, rfl⟩ rfl (by exact (rfl : _ = AV.p _))) ?_
            refine r_op rfl (o_mv (some 40) ⟨rfl, rfl⟩ rfl (by exact (rfl : _ = I _ _))) ?_
            refine r_op rfl (o_ixN (some 41) ⟨rfl, rfl⟩ rfl rfl rfl ty24 ty138 (by first | (simp only [lim]; omega) | omega | (simp only [List.length_set]; omega) | (simp at hb; omega))) ?_
            refine r_op rfl (o_ldc (some 42) ⟨rfl, rfl⟩ rfl rfl ty138 rfl) ?_
            refine r_op rfl (o_add (some 43) ⟨rfl, rfl⟩ rfl rfl rfl (by first | (simp only [lim]; omega) | omega | (simp only [List.length_set]; omega) | (simp at hb; omega))) ?_
            refine r_op rfl (o_as (some 8) ⟨rfl, rfl⟩ rfl (by exact (rfl : _ = I _ _))) ?_
            refine r_end ?_
            refine s_n ?_
            repeat (first | exact Le.refl _ | exact Le.same rfl (congrArg (I _) (by have := getD_ge (l := d9 y) (i := i) (by omega); omega)) | refine Le.drop ?_ rfl | refine Le.both ?_ rfl)
          · try simp only [decide_eq_true_eq, decide_eq_false_iff_not, Nat.not_lt, Nat.not_le, Bool.and_eq_true, Bool.or_eq_true, Bool.and_eq_false_iff, Bool.or_eq_false_iff, Bool.not_eq_true', Bool.not_eq_false', beq_iff_eq, beq_eq_false_iff_ne, ne_eq, Decidable.not_not] at hc_2
            refine r_skip ?_
            refine s_n ?_
            repeat (first | exact Le.refl _ | exact Le.same rfl (congrArg (I _) (by have := getD_ge (l := d9 y) (i := i) (by omega); omega)) | refine Le.drop ?_ rfl | refine Le.both ?_ rfl)
        · refine r_seq ?_
          refine r_reg ?_
          refine r_op rfl (o_mv (some 44) ⟨rfl, rfl⟩ rfl (by exact (rfl : _ = I _ _))) ?_
          refine r_op rfl (o_quo (some 45) ⟨rfl, rfl⟩ rfl (by exact (rfl : _ = I _ 1000000000)) rfl (by first | (simp only [lim]; omega) | omega | (simp only [List.length_set]; omega) | (simp at hb; omega)) (by first | (simp only [lim]; omega) | omega | (simp only [List.length_set]; omega) | (simp at hb; omega))) ?_
          refine r_op rfl (o_as (some 6) ⟨rfl, rfl⟩ rfl (by exact (rfl : _ = I _ _))) ?_
          refine r_end ?_
          refine s_n ?_
          refine r_reg ?_
          refine r_op rfl (o_mv (some 46) ⟨rfl, rfl⟩ rfl (by exact (rfl : _ = AV.own _ _ _ _ _))) ?_
          refine r_op rfl (o_mv (some 47) ⟨rfl, rfl⟩ rfl (by exact (rfl : _ = I _ _))) ?_
          refine r_op rfl (o_mv (some 48) ⟨rfl, rfl⟩ rfl (by exact (rfl : _ = I _ _))) ?_
          refine r_op rfl (o_rem (some 49) ⟨rfl, rfl⟩ rfl (by exact (rfl : _ = I _ 1000000000)) rfl (by first | (simp only [lim]; omega) | omega | (simp only [List.length_set]; omega) | (simp at hb; omega))) ?_
          refine r_op rfl (o_ixM (some 50) ⟨rfl, rfl⟩ rfl rfl rfl rfl rfl ty24 ty138 (by first | (simp only [lim]; omega) | omega | (simp only [List.length_set]; omega) | (simp at hb; omega))) ?_
          refine r_op rfl ((by first | exact o_stN rfl rfl rfl rfl rfl rfl ty138 rfl rfl (by first | (simp only [lim]; omega) | omega | (simp only [List.length_set]; omega) | (simp at hb; omega)) | exact o_st1 rfl rfl rfl rfl rfl rfl ty138 rfl rfl (Nat.le_of_ble_eq_true rfl) rfl)) ?_
          refine r_end ?_
          refine b_n ?_
          refine s_n ?_
          refine r_reg ?_
          refine r_op rfl (o_add (some 51) ⟨rfl, rfl⟩ rfl (by exact (rfl : _ = I _ 1)) rfl (by first | (simp only [lim]; omega) | omega | (simp only [List.length_set]; omega) | (simp at hb; omega))) ?_
          refine r_op rfl (o_mv (some 25) ⟨rfl, rfl⟩ rfl (by exact (rfl : _ = I _ _))) ?_
          refine r_end ?_
          refine s_n ?_
          exact ⟨⟨(i + 1, r ++ [((d9 x).getD i 0 + c + (d9 y).getD i 0) % 1000000000], ((d9 x).getD i 0 + c + (d9 y).getD i 0) / 1000000000), h1.step (by omega) (lim_d9 x) (lim_d9 y), by show i + 1 ≤ _; omega⟩, by show _ - (i + 1) < _ - i; omega, gh_st id (tlc (td_p rfl rfl) (tlc (td_p rfl rfl) (tlc td_any (tlc (td_own rfl rfl rfl) (tlc (td_I rfl rfl) (tlc (td_I rfl rfl) (tlc (td_I rfl rfl) tl0))))))) (hpc (hp_nums rfl rfl rfl rfl rfl (addC_step x h1.len (by omega))) hp0) rfl⟩
      · try simp only [decide_eq_true_eq, decide_eq_false_iff_not, Nat.not_lt, Nat.not_le, Bool.and_eq_true, Bool.or_eq_true, Bool.and_eq_false_iff, Bool.or_eq_false_iff, Bool.not_eq_true', Bool.not_eq_false', beq_iff_eq, beq_eq_false_iff_ne, ne_eq, Decidable.not_not] at hc_1
        refine r_exit ?_
        refine s_exit ?_
        refine s_exit ?_
        refine b_here ?_
        refine s_n ?_
        refine r_seq ?_
        refine r_reg ?_
        refine r_op rfl (o_mv (some 52) ⟨rfl, rfl⟩ rfl (by exact (rfl : _ = AV.own _ _ _ _ _))) ?_
        have hi : i = (d9 x).length + 1 := by omega
        subst hi
        refine r_gh ?_ (gh_publish (b := 19) rfl rfl)
        refine r_op rfl (o_call (some 53) ⟨rfl, rfl⟩ tx119 rfl rfl (w_normE (zs := addC x ((d9 x).length + 1) r) (by rw [addC_end]; exact h1.lim) (by omega) (by rw [addC_end, AddInv.done (by omega) (lim_d9 x) (lim_d9 y) (by omega) h1, val_d9, val_d9])) (convL_cons (by first | exact conv_p _ | exact conv_nilP _ | exact conv_nil _ | exact conv_sl rfl | exact conv_nums rfl rfl rfl rfl (by first | rfl | (rw [List.drop_zero, List.take_of_length_le (by omega)]) | omega) (by first | rfl | (rw [List.drop_zero, List.take_of_length_le (by omega)]) | omega)) convL_nil)) ?_
        refine r_op rfl (o_as (some 4) ⟨rfl, rfl⟩ rfl (by exact (rfl : _ = AV.p _))) ?_
        refine r_end ?_
        refine s_n ?_
        refine r_ret ?_
        refine ⟨.inl rfl, [nP (x + y)], rfl, ?_⟩
        exact resL_cons (res_tmp (by first | exact conv_p _ | exact conv_nilP _ | exact conv_nil _ | exact conv_sl rfl | exact conv_nums rfl rfl rfl rfl (by first | rfl | (rw [List.drop_zero, List.take_of_length_le (by omega)]) | omega) (by first | rfl | (rw [List.drop_zero, List.take_of_length_le (by omega)]) | omega))) (resL_nil)

theorem w_add2 (x y : Nat) (hxy : (d9 x).length < (d9 y).length) (hx : (d9 y).length < 1099511627776) : FnP prog 98 [nP x, nP y] (packP [nP (y + x)]) := by
  refine fnP_of (fn := f98) fn98 rfl (Nat.le_of_ble_eq_true rfl) ?_
  refine r_seq ?_
  refine r_reg ?_
  refine r_op rfl (o_as (some 4) ⟨rfl, rfl⟩ rfl (by exact (rfl : _ = AV.p _))) ?_
  refine r_end ?_
  refine s_n ?_
  refine r_seq ?_
  refine r_seq ?_
  refine r_reg ?_
  refine r_op rfl (o_mv (some 9) ⟨rfl, rfl⟩ rfl (by first | exact (rfl : _ = I _ _) | exact (rfl : _ = AV.p _) | exact (rfl : _ = AV.ptr _ _) | exact (rfl : _ = AV.own _ _ _ _ _) | exact (rfl : _ = AV.agg _) | exact (rfl : _ = AV.fn _ _))) ?_
  refine r_op rfl ((by first | exact o_lenN (some 10) ⟨rfl, rfl⟩ rfl rfl ty24 rfl | exact o_lenO (some 10) ⟨rfl, rfl⟩ rfl rfl rfl rfl ty24 | exact o_lenZ (some 10) ⟨rfl, rfl⟩ rfl rfl ty24 | exact o_lenP (some 10) ⟨rfl, rfl⟩ rfl rfl ty24 rfl)) ?_
  refine r_op rfl (o_mv (some 11) ⟨rfl, rfl⟩ rfl (by first | exact (rfl : _ = I _ _) | exact (rfl : _ = AV.p _) | exact (rfl : _ = AV.ptr _ _) | exact (rfl : _ = AV.own _ _ _ _ _) | exact (rfl : _ = AV.agg _) | exact (rfl : _ = AV.fn _ _))) ?_
  refine r_op rfl ((by first | exact o_lenN (some 12) ⟨rfl, rfl⟩ rfl rfl ty24 rfl | exact o_lenO (some 12) ⟨rfl, rfl⟩ rfl rfl rfl rfl ty24 | exact o_lenZ (some 12) ⟨rfl, rfl⟩ rfl rfl ty24 | exact o_lenP (some 12) ⟨rfl, rfl⟩ rfl rfl ty24 rfl)) ?_
  refine r_op rfl (o_lss (some 13) ⟨rfl, rfl⟩ rfl rfl rfl) ?_
  refine r_end ?_
  refine s_n ?_
  refine r_cond rfl (fun hc => ?_) (fun hc => ?_)
  · try simp only [decide_eq_true_eq, decide_eq_false_iff_not, Nat.not_lt, Nat.not_le, Bool.and_eq_true, Bool.or_eq_true, Bool.and_eq_false_iff, Bool.or_eq_false_iff, Bool.not_eq_true', Bool.not_eq_false', beq_iff_eq, beq_eq_false_iff_ne, ne_eq, Decidable.not_not] at hc
    refine r_reg ?_
    refine r_op rfl (o_mv (some 14) ⟨rfl, rfl⟩ rfl (by first | exact (rfl : _ = I _ _) | exact (rfl : _ = AV.p _) | exact (rfl : _ = AV.ptr _ _) | exact (rfl : _ = AV.own _ _ _ _ _) | exact (rfl : _ = AV.agg _) | exact (rfl : _ = AV.fn _ _))) ?_
    refine r_op rfl (o_mv (some 15) ⟨rfl, rfl⟩ rfl (by first | exact (rfl : _ = I _ _) | exact (rfl : _ = AV.p _) | exact (rfl : _ = AV.ptr _ _) | exact (rfl : _ = AV.own _ _ _ _ _) | exact (rfl : _ = AV.agg _) | exact (rfl : _ = AV.fn _ _))) ?_
    refine r_op rfl (o_as (some 0) ⟨rfl, rfl⟩ rfl (by first | exact (rfl : _ = I _ _) | exact (rfl : _ = AV.p _) | exact (rfl : _ = AV.ptr _ _) | exact (rfl : _ = AV.own _ _ _ _ _) | exact (rfl : _ = AV.agg _) | exact (rfl : _ = AV.fn _ _))) ?_
    refine r_op rfl (o_as (some 1) ⟨rfl, rfl⟩ rfl (by first | exact (rfl : _ = I _ _) | exact (rfl : _ = AV.p _) | exact (rfl : _ = AV.ptr _ _) | exact (rfl : _ = AV.own _ _ _ _ _) | exact (rfl : _ = AV.agg _) | exact (rfl : _ = AV.fn _ _))) ?_
    refine r_end ?_
    refine s_n ?_
    refine r_seq ?_
    refine r_reg ?_
    refine r_op rfl (o_mv (some 16) ⟨rfl, rfl⟩ rfl (by first | exact (rfl : _ = I _ _) | exact (rfl : _ = AV.p _) | exact (rfl : _ = AV.ptr _ _) | exact (rfl : _ = AV.own _ _ _ _ _) | exact (rfl : _ = AV.agg _) | exact (rfl : _ = AV.fn _ _))) ?_
    refine r_op rfl ((by first | exact o_lenN (some 17) ⟨rfl, rfl⟩ rfl rfl ty24 rfl | exact o_lenO (some 17) ⟨rfl, rfl⟩ rfl rfl rfl rfl ty24 | exact o_lenZ (some 17) ⟨rfl, rfl⟩ rfl rfl ty24 | exact o_lenP (some 17) ⟨rfl, rfl⟩ rfl rfl ty24 rfl)) ?_
    refine r_op rfl (o_add (some 18) ⟨rfl, rfl⟩ rfl (by exact (rfl : _ = I _ 1)) rfl (by first | (simp only [lim]; omega) | omega | (simp only [List.length_set]; omega) | (simp at hb; omega))) ?_
    refine r_op rfl (o_mkN (some 19) ⟨rfl, rfl⟩ rfl rfl rfl 19 rfl rfl ty24 ty138 (by first | (simp only [lim]; omega) | omega | (simp only [List.length_set]; omega) | (simp at hb; omega)) rfl) ?_
    refine r_op rfl (o_as (some 5) ⟨rfl, rfl⟩ rfl (by exact (rfl : _ = AV.own _ _ _ _ _))) ?_
    refine r_end ?_
    refine s_n ?_
    refine r_seq ?_
    refine r_reg ?_
    refine r_op rfl (o_mv (some 20) ⟨rfl, rfl⟩ rfl (by exact (rfl : _ = AV.own _ _ _ _ _))) ?_
    refine r_op rfl (o_mv (some 21) ⟨rfl, rfl⟩ rfl (by first | exact (rfl : _ = I _ _) | exact (rfl : _ = AV.p _) | exact (rfl : _ = AV.ptr _ _) | exact (rfl : _ = AV.own _ _ _ _ _) | exact (rfl : _ = AV.agg _) | exact (rfl : _ = AV.fn _ _))) ?_
    refine r_op rfl (o_cpN (some 22) ⟨rfl, rfl⟩ rfl ty24 ty138 rfl rfl rfl rfl rfl (List.length_replicate ..) rfl (by first | (simp only [lim]; omega) | omega | (simp only [List.length_set]; omega) | (simp at hb; omega)) (by first | (simp only [lim]; omega) | omega | (simp only [List.length_set]; omega) | (simp at hb; omega)) (by first | (simp only [lim]; omega) | omega | (simp only [List.length_set]; omega) | (simp at hb; omega))) ?_
    refine r_end ?_
    refine s_n ?_
    refine r_seq ?_
    refine r_reg ?_
    refine r_op rfl (o_as (some 6) ⟨rfl, rfl⟩ rfl (by exact (rfl : _ = I _ 0))) ?_
    refine r_end ?_
    refine s_n ?_
    refine r_seq ?_
    refine r_seq ?_
    refine r_reg ?_
    refine r_op rfl (o_mv (some 23) ⟨rfl, rfl⟩ rfl (by exact (rfl : _ = AV.own _ _ _ _ _))) ?_
    refine r_op rfl (o_lenO (some 24) ⟨rfl, rfl⟩ rfl rfl rfl rfl ty24) ?_
    refine r_op rfl (o_mv (some 25) ⟨rfl, rfl⟩ rfl (by exact (rfl : _ = I _ 0))) ?_
    refine r_end ?_
    refine s_n ?_
    refine r_block ?_
    refine r_loop (ι := { p : Nat × List Nat × Nat // AddInv 1000000000 (d9 y) (d9 x) p.1 p.2.1 p.2.2 ∧ p.1 ≤ (d9 y).length + 1 }) (fun p => stL [(0, .p (nP y)), (1, .p (nP x)), (4, .p .any), (5, .own true 1 19 0 ((d9 y).length + 1)), (6, I .u32 (p.1.2.2)), (24, I .i64 ((d9 y).length + 1)), (25, I .i64 (p.1.1))] [(19, { cells := nums .u32 (addC y (p.1.1) (p.1.2.1)), ty := 138 })]) (fun p => (d9 y).length + 1 - p.1.1) (⟨(0, [], 0), AddInv.start _ _ _, Nat.zero_le _⟩) ?_ (fun i_ => ?_)
    · exact gh_st id (tlc (td_p rfl rfl) (tlc (td_p rfl rfl) (tlc td_any (tlc (td_own rfl rfl rfl) (tlc (td_I rfl rfl) (tlc (td_I rfl rfl) (tlc (td_I rfl rfl) tl0))))))) (hpc (hp_nums rfl rfl rfl rfl rfl (addC_start y)) hp0) rfl
    · obtain ⟨⟨i, r, c⟩, h1, h2⟩ := i_
      simp only at h1 h2
      have g1 := h1.c1
      have g2 := h1.len
      have g3 := addC_len y h1.len h2
      have g4 := lim9 y i
      have g5 := lim9 x i
      have g6 := addC_get y h1.len
      change Tr _ _ _ (stL [(0, .p (nP y)), (1, .p (nP x)), (4, .p .any), (5, .own true 1 19 0 ((d9 y).length + 1)), (6, I .u32 (c)), (24, I .i64 ((d9 y).length + 1)), (25, I .i64 (i))] [(19, { cells := nums .u32 (addC y (i) (r)), ty := 138 })]) _
      refine r_seq ?_
      refine r_reg ?_
      refine r_op rfl (o_lss (some 26) ⟨rfl, rfl⟩ rfl rfl rfl) ?_
      refine r_end ?_
      refine s_n ?_
      refine r_seq ?_
      refine r_cond rfl (fun hc_1 => ?_) (fun hc_1 => ?_)
      · try simp only [decide_eq_true_eq, decide_eq_false_iff_not, Nat.not_lt, Nat.not_le, Bool.and_eq_true, Bool.or_eq_true, Bool.and_eq_false_iff, Bool.or_eq_false_iff, Bool.not_eq_true', Bool.not_eq_false', beq_iff_eq, beq_eq_false_iff_ne, ne_eq, Decidable.not_not] at hc_1
        refine r_skip ?_
        refine s_n ?_
        refine r_seq ?_
        refine r_block ?_
        refine r_seq ?_
        refine r_reg ?_
        refine r_op rfl (o_mv (some 27) ⟨rfl, rfl⟩ rfl (by exact (rfl : _ = I _ _))) ?_
        refine r_op rfl (o_as (some 7) ⟨rfl, rfl⟩ rfl (by exact (rfl : _ = I _ _))) ?_
        refine r_end ?_
        refine s_n ?_
        refine r_seq ?_
        refine r_reg ?_
        refine r_op rfl (o_mv (some 28) ⟨rfl, rfl⟩ rfl (by exact (rfl : _ = AV.own _ _ _ _ _))) ?_
        refine r_op rfl (o_mv (some 29) ⟨rfl, rfl⟩ rfl (by exact (rfl : _ = I _ _))) ?_
        refine r_op rfl (o_ixM (some 30) ⟨rfl, rfl⟩ rfl rfl rfl rfl rfl ty24 ty138 (by first | (simp only [lim]; omega) | omega | (simp only [List.length_set]; omega) | (simp at hb; omega))) ?_
        refine r_op rfl ((by first | exact o_ld1 (some 31) ⟨rfl, rfl⟩ rfl rfl rfl rfl ty138 rfl rfl | exact o_ldN (some 31) ⟨rfl, rfl⟩ rfl rfl rfl rfl ty138 rfl rfl (by first | (simp only [lim]; omega) | omega | (simp only [List.length_set]; omega) | (simp at hb; omega)))) ?_
        rw [g6]
        refine r_op rfl (o_mv (some 32) ⟨rfl, rfl⟩ rfl (by exact (rfl : _ = I _ _))) ?_
        refine r_op rfl (o_add (some 33) ⟨rfl, rfl⟩ rfl rfl rfl (by first | (simp only [lim]; omega) | omega | (simp only [List.length_set]; omega) | (simp at hb; omega))) ?_
        refine r_op rfl (o_as (some 8) ⟨rfl, rfl⟩ rfl (by exact (rfl : _ = I _ _))) ?_
        refine r_end ?_
        refine s_n ?_
        refine r_midp 8 (I .u32 ((d9 y).getD i 0 + c + (d9 x).getD i 0)) ?_ ?_
        · refine r_seq ?_
          refine r_reg ?_
          refine r_op rfl (o_mv (some 34) ⟨rfl, rfl⟩ rfl (by exact (rfl : _ = I _ _))) ?_
          refine r_op rfl (o_mv (some 35) ⟨rfl, rfl⟩ rfl (by exact (rfl : _ = AV.p _))) ?_
          refine r_op rfl ((by first | exact o_lenN (some 36) ⟨rfl, rfl⟩ rfl rfl ty24 rfl | exact o_lenO (some 36) ⟨rfl, rfl⟩ rfl rfl rfl rfl ty24 | exact o_lenZ (some 36) ⟨rfl, rfl⟩ rfl rfl ty24 | exact o_lenP (some 36) ⟨rfl, rfl⟩ rfl rfl ty24 rfl)) ?_
          refine r_op rfl (o_lss (some 37) ⟨rfl, rfl⟩ rfl rfl rfl) ?_
          refine r_end ?_
          refine s_n ?_
          refine r_cond rfl (fun hc_2 => ?_) (fun hc_2 => ?_)
          · try simp only [decide_eq_true_eq, decide_eq_false_iff_not, Nat.not_lt, Nat.not_le, Bool.and_eq_true, Bool.or_eq_true, Bool.and_eq_false_iff, Bool.or_eq_false_iff, Bool.not_eq_true', Bool.not_eq_false', beq_iff_eq, beq_eq_false_iff_ne, ne_eq, Decidable.not_not] at hc_2
            refine r_reg ?_
            refine r_op rfl (o_mv (some 38) ⟨rfl, rfl⟩ rfl (by exact (rfl : _ = I _ _))) ?_
            refine r_op rfl (o_mv (some 39) ⟨rfl, rfl⟩ rfl (by exact (rfl : _ = AV.p _))) ?_
            refine r_op rfl (o_mv (some 40) ⟨rfl, rfl⟩ rfl (by exact (rfl : _ = I _ _))) ?_
            refine r_op rfl (o_ixN (some 41) ⟨rfl, rfl⟩ rfl rfl rfl ty24 ty138 (by first | (simp only [lim]; omega) | omega | (simp only [List.length_set]; omega) | (simp at hb; omega))) ?_
            refine r_op rfl (o_ldc (some 42) ⟨rfl, rfl⟩ rfl rfl ty138 rfl) ?_
            refine r_op rfl (o_add (some 43) ⟨rfl, rfl⟩ rfl rfl rfl (by first | (simp only [lim]; omega) | omega | (simp only [List.length_set]; omega) | (simp at hb; omega))) ?_
            refine r_op rfl (o_as (some 8) ⟨rfl, rfl⟩ rfl (by exact (rfl : _ = I _ _))) ?_
            refine r_end ?_
            refine s_n ?_
            repeat (first | exact Le.refl _ | exact Le.same rfl (congrArg (I _) (by have := getD_ge (l := d9 x) (i := i) (by omega); omega)) | refine Le.drop ?_ rfl | refine Le.both ?_ rfl)
          · try simp only [decide_eq_true_eq, decide_eq_false_iff_not, Nat.not_lt, Nat.not_le, Bool.and_eq_true, Bool.or_eq_true, Bool.and_eq_false_iff, Bool.or_eq_false_iff, Bool.not_eq_true', Bool.not_eq_false', beq_iff_eq, beq_eq_false_iff_ne, ne_eq, Decidable.not_not] at hc_2
            refine r_skip ?_
            refine s_n ?_
            repeat (first | exact Le.refl _ | exact Le.same rfl (congrArg (I _) (by have := getD_ge (l := d9 x) (i := i) (by omega); omega)) | refine Le.drop ?_ rfl | refine Le.both ?_ rfl)
        · refine r_seq ?_
          refine r_reg ?_
          refine r_op rfl (o_mv (some 44) ⟨rfl, rfl⟩ rfl (by exact (rfl : _ = I _ _))) ?_
          refine r_op rfl (o_quo (some 45) ⟨rfl, rfl⟩ rfl (by exact (rfl : _ = I _ 1000000000)) rfl (by first | (simp only [lim]; omega) | omega | (simp only [List.length_set]; omega) | (simp at hb; omega)) (by first | (simp only [lim]; omega) | omega | (simp only [List.length_set]; omega) | (simp at hb; omega))) ?_
          refine r_op rfl (o_as (some 6) ⟨rfl, rfl⟩ rfl (by exact (rfl : _ = I _ _))) ?_
          refine r_end ?_
          refine s_n ?_
          refine r_reg ?_
          refine r_op rfl (o_mv (some 46) ⟨rfl, rfl⟩ rfl (by exact (rfl : _ = AV.own _ _ _ _ _))) ?_
          refine r_op rfl (o_mv (some 47) ⟨rfl, rfl⟩ rfl (by exact (rfl : _ = I _ _))) ?_
          refine r_op rfl (o_mv (some 48) ⟨rfl, rfl⟩ rfl (by exact (rfl : _ = I _ _))) ?_
          refine r_op rfl (o_rem (some 49) ⟨rfl, rfl⟩ rfl (by exact (rfl : _ = I _ 1000000000)) rfl (by first | (simp only [lim]; omega) | omega | (simp only [List.length_set]; omega) | (simp at hb; omega))) ?_
          refine r_op rfl (o_ixM (some 50) ⟨rfl, rfl⟩ rfl rfl rfl rfl rfl ty24 ty138 (by first | (simp only [lim]; omega) | omega | (simp only [List.length_set]; omega) | (simp at hb; omega))) ?_
          refine r_op rfl ((by first | exact o_stN rfl rfl rfl rfl rfl rfl ty138 rfl rfl (by first | (simp only [lim]; omega) | omega | (simp only [List.length_set]; omega) | (simp at hb; omega)) | exact o_st1 rfl rfl rfl rfl rfl rfl ty138 rfl rfl (Nat.le_of_ble_eq_true rfl) rfl)) ?_
          refine r_end ?_
          refine b_n ?_
          refine s_n ?_
          refine r_reg ?_
          refine r_op rfl (o_add (some 51) ⟨rfl, rfl⟩ rfl (by exact (rfl : _ = I _ 1)) rfl (by first | (simp only [lim]; omega) | omega | (simp only [List.length_set]; omega) | (simp at hb; omega))) ?_
          refine r_op rfl (o_mv (some 25) ⟨rfl, rfl⟩ rfl (by exact (rfl : _ = I _ _))) ?_
          refine r_end ?_
          refine s_n ?_
          exact ⟨⟨(i + 1, r ++ [((d9 y).getD i 0 + c + (d9 x).getD i 0) % 1000000000], ((d9 y).getD i 0 + c + (d9 x).getD i 0) / 1000000000), h1.step (by omega) (lim_d9 y) (lim_d9 x), by show i + 1 ≤ _; omega⟩, by show _ - (i + 1) < _ - i; omega, gh_st id (tlc (td_p rfl rfl) (tlc (td_p rfl rfl) (tlc td_any (tlc (td_own rfl rfl rfl) (tlc (td_I rfl rfl) (tlc (td_I rfl rfl) (tlc (td_I rfl rfl) tl0))))))) (hpc (hp_nums rfl rfl rfl rfl rfl (addC_step y h1.len (by omega))) hp0) rfl⟩
      · try simp only [decide_eq_true_eq, decide_eq_false_iff_not, Nat.not_lt, Nat.not_le, Bool.and_eq_true, Bool.or_eq_true, Bool.and_eq_false_iff, Bool.or_eq_false_iff, Bool.not_eq_true', Bool.not_eq_false', beq_iff_eq, beq_eq_false_iff_ne, ne_eq, Decidable.not_not] at hc_1
        refine r_exit ?_
        refine s_exit ?_
        refine s_exit ?_
        refine b_here ?_
        refine s_n ?_
        refine r_seq ?_
        refine r_reg ?_
        refine r_op rfl (o_mv (some 52) ⟨rfl, rfl⟩ rfl (by exact (rfl : _ = AV.own _ _ _ _ _))) ?_
        have hi : i = (d9 y).length + 1 := by omega
        subst hi
        refine r_gh ?_ (gh_publish (b := 19) rfl rfl)
        refine r_op rfl (o_call (some 53) ⟨rfl, rfl⟩ tx119 rfl rfl (w_normE (zs := addC y ((d9 y).length + 1) r) (by rw [addC_end]; exact h1.lim) (by omega) (by rw [addC_end, AddInv.done (by omega) (lim_d9 y) (lim_d9 x) (by omega) h1, val_d9, val_d9])) (convL_cons (by first | exact conv_p _ | exact conv_nilP _ | exact conv_nil _ | exact conv_sl rfl | exact conv_nums rfl rfl rfl rfl (by first | rfl | (rw [List.drop_zero, List.take_of_length_le (by omega)]) | omega) (by first | rfl | (rw [List.drop_zero, List.take_of_length_le (by omega)]) | omega)) convL_nil)) ?_
        refine r_op rfl (o_as (some 4) ⟨rfl, rfl⟩ rfl (by exact (rfl : _ = AV.p _))) ?_
        refine r_end ?_
        refine s_n ?_
        refine r_ret ?_
        refine ⟨.inl rfl, [nP (y + x)], rfl, ?_⟩
        exact resL_cons (res_tmp (by first | exact conv_p _ | exact conv_nilP _ | exact conv_nil _ | exact conv_sl rfl | exact conv_nums rfl rfl rfl rfl (by first | rfl | (rw [List.drop_zero, List.take_of_length_le (by omega)]) | omega) (by first | rfl | (rw [List.drop_zero, List.take_of_length_le (by omega)]) | omega))) (resL_nil)
  · try simp only [decide_eq_true_eq, decide_eq_false_iff_not, Nat.not_lt, Nat.not_le, Bool.and_eq_true, Bool.or_eq_true, Bool.and_eq_false_iff, Bool.or_eq_false_iff, Bool.not_eq_true', Bool.not_eq_false', beq_iff_eq, beq_eq_false_iff_ne, ne_eq, Decidable.not_not] at hc
    omega

theorem w_mul (x y : Nat) (hx : (d9 x).length < 549755813888) (hy : (d9 y).length < 549755813888) : FnP prog 93 [nP x, nP y] (packP [nP (x * y)]) := by
  refine fnP_of (fn := f93) fn93 rfl (Nat.le_of_ble_eq_true rfl) ?_
  refine r_seq ?_
  refine r_reg ?_
  refine r_op rfl (o_as (some 4) ⟨rfl, rfl⟩ rfl (by exact (rfl : _ = AV.p _))) ?_
  refine r_end ?_
  refine s_n ?_
  refine r_seq ?_
  refine r_reg ?_
  refine r_op rfl (o_mv (some 12) ⟨rfl, rfl⟩ rfl (by first | exact (rfl : _ = I _ _) | exact (rfl : _ = AV.p _) | exact (rfl : _ = AV.ptr _ _) | exact (rfl : _ = AV.own _ _ _ _ _) | exact (rfl : _ = AV.agg _) | exact (rfl : _ = AV.fn _ _))) ?_
  refine r_op rfl ((by first | exact o_lenN (some 13) ⟨rfl, rfl⟩ rfl rfl ty24 rfl | exact o_lenO (some 13) ⟨rfl, rfl⟩ rfl rfl rfl rfl ty24 | exact o_lenZ (some 13) ⟨rfl, rfl⟩ rfl rfl ty24 | exact o_lenP (some 13) ⟨rfl, rfl⟩ rfl rfl ty24 rfl)) ?_
  refine r_op rfl (o_mv (some 14) ⟨rfl, rfl⟩ rfl (by first | exact (rfl : _ = I _ _) | exact (rfl : _ = AV.p _) | exact (rfl : _ = AV.ptr _ _) | exact (rfl : _ = AV.own _ _ _ _ _) | exact (rfl : _ = AV.agg _) | exact (rfl : _ = AV.fn _ _))) ?_
  refine r_op rfl ((by first | exact o_lenN (some 15) ⟨rfl, rfl⟩ rfl rfl ty24 rfl | exact o_lenO (some 15) ⟨rfl, rfl⟩ rfl rfl rfl rfl ty24 | exact o_lenZ (some 15) ⟨rfl, rfl⟩ rfl rfl ty24 | exact o_lenP (some 15) ⟨rfl, rfl⟩ rfl rfl ty24 rfl)) ?_
  refine r_op rfl (o_add (some 16) ⟨rfl, rfl⟩ rfl rfl rfl (by first | (simp only [lim]; omega) | omega | (simp only [List.length_set]; omega) | (simp at hb; omega))) ?_
  refine r_op rfl (o_mkN (some 17) ⟨rfl, rfl⟩ rfl rfl rfl 17 rfl rfl ty24 ty138 (by first | (simp only [lim]; omega) | omega | (simp only [List.length_set]; omega) | (simp at hb; omega)) rfl) ?_
  refine r_op rfl (o_as (some 5) ⟨rfl, rfl⟩ rfl (by exact (rfl : _ = AV.own _ _ _ _ _))) ?_
  refine r_end ?_
  refine s_n ?_
  refine r_seq ?_
  refine r_seq ?_
  refine r_reg ?_
  refine r_op rfl (o_mv (some 18) ⟨rfl, rfl⟩ rfl (by first | exact (rfl : _ = I _ _) | exact (rfl : _ = AV.p _) | exact (rfl : _ = AV.ptr _ _) | exact (rfl : _ = AV.own _ _ _ _ _) | exact (rfl : _ = AV.agg _) | exact (rfl : _ = AV.fn _ _))) ?_
  refine r_op rfl ((by first | exact o_lenN (some 19) ⟨rfl, rfl⟩ rfl rfl ty24 rfl | exact o_lenO (some 19) ⟨rfl, rfl⟩ rfl rfl rfl rfl ty24 | exact o_lenZ (some 19) ⟨rfl, rfl⟩ rfl rfl ty24 | exact o_lenP (some 19) ⟨rfl, rfl⟩ rfl rfl ty24 rfl)) ?_
  refine r_op rfl (o_mv (some 20) ⟨rfl, rfl⟩ rfl (by exact (rfl : _ = I _ 0))) ?_
  refine r_end ?_
  refine s_n ?_
  refine r_block ?_
  refine r_loop (ι := { p : Nat × List Nat // MulInv 1000000000 (d9 x) (d9 y) p.1 0 p.2 0 ∧ p.1 ≤ (d9 x).length }) (fun p => stL [(0, .p (nP x)), (1, .p (nP y)), (4, .p .any), (5, .own true 1 17 0 ((d9 x).length + (d9 y).length)), (18, .p (nP x)), (19, I .i64 ((d9 x).length)), (20, I .i64 ((p.1.1)))] [(17, { cells := nums .u32 ((p.1.2)), ty := 138 })]) (fun p => (d9 x).length - p.1.1) (⟨(0, _), MulInv.start (by omega) _ _, Nat.zero_le _⟩) ?_ (fun i_ => ?_)
  · exact gh_st id (tlc (td_p rfl rfl) (tlc (td_p rfl rfl) (tlc td_any (tlc (td_own rfl rfl rfl) (tlc (td_p rfl rfl) (tlc (td_I rfl rfl) (tlc (td_I rfl rfl) tl0))))))) (hpc (hp_nums rfl rfl rfl rfl rfl rfl) hp0) rfl
  · obtain ⟨⟨i, z⟩, h1, h2⟩ := i_
    simp only at h1 h2
    have g1 := lim9 x i
    have g2 := h1.len
    change Tr _ _ _ (stL [(0, .p (nP x)), (1, .p (nP y)), (4, .p .any), (5, .own true 1 17 0 ((d9 x).length + (d9 y).length)), (18, .p (nP x)), (19, I .i64 ((d9 x).length)), (20, I .i64 ((i)))] [(17, { cells := nums .u32 ((z)), ty := 138 })]) _
    refine r_seq ?_
    refine r_reg ?_
    refine r_op rfl (o_lss (some 21) ⟨rfl, rfl⟩ rfl rfl rfl) ?_
    refine r_end ?_
    refine s_n ?_
    refine r_seq ?_
    refine r_cond rfl (fun hc => ?_) (fun hc => ?_)
    · try simp only [decide_eq_true_eq, decide_eq_false_iff_not, Nat.not_lt, Nat.not_le, Bool.and_eq_true, Bool.or_eq_true, Bool.and_eq_false_iff, Bool.or_eq_false_iff, Bool.not_eq_true', Bool.not_eq_false', beq_iff_eq, beq_eq_false_iff_ne, ne_eq, Decidable.not_not] at hc
      refine r_skip ?_
      refine s_n ?_
      refine r_seq ?_
      refine r_block ?_
      refine r_seq ?_
      refine r_reg ?_
      refine r_op rfl (o_mv (some 22) ⟨rfl, rfl⟩ rfl (by exact (rfl : _ = I _ _))) ?_
      refine r_op rfl (o_ixN (some 23) ⟨rfl, rfl⟩ rfl rfl rfl ty24 ty138 (by first | (simp only [lim]; omega) | omega | (simp only [List.length_set]; omega) | (simp at hb; omega))) ?_
      refine r_op rfl (o_ldc (some 24) ⟨rfl, rfl⟩ rfl rfl ty138 rfl) ?_
      refine r_op rfl (o_as (some 6) ⟨rfl, rfl⟩ rfl (by exact (rfl : _ = I _ _))) ?_
      refine r_op rfl (o_as (some 7) ⟨rfl, rfl⟩ rfl (by first | exact (rfl : _ = I _ _) | exact (rfl : _ = AV.p _) | exact (rfl : _ = AV.ptr _ _) | exact (rfl : _ = AV.own _ _ _ _ _) | exact (rfl : _ = AV.agg _) | exact (rfl : _ = AV.fn _ _))) ?_
      refine r_end ?_
      refine s_n ?_
      refine r_seq ?_
      refine r_reg ?_
      refine r_op rfl (o_as (some 8) ⟨rfl, rfl⟩ rfl (by exact (rfl : _ = I _ 0))) ?_
      refine r_end ?_
      refine s_n ?_
      refine r_seq ?_
      refine r_seq ?_
      refine r_reg ?_
      refine r_op rfl (o_mv (some 25) ⟨rfl, rfl⟩ rfl (by exact (rfl : _ = AV.p _))) ?_
      refine r_op rfl ((by first | exact o_lenN (some 26) ⟨rfl, rfl⟩ rfl rfl ty24 rfl | exact o_lenO (some 26) ⟨rfl, rfl⟩ rfl rfl rfl rfl ty24 | exact o_lenZ (some 26) ⟨rfl, rfl⟩ rfl rfl ty24 | exact o_lenP (some 26) ⟨rfl, rfl⟩ rfl rfl ty24 rfl)) ?_
      refine r_op rfl (o_mv (some 27) ⟨rfl, rfl⟩ rfl (by exact (rfl : _ = I _ 0))) ?_
      refine r_end ?_
      refine s_n ?_
      refine r_block ?_
      refine r_loop (ι := { p : Nat × List Nat × Nat // MulInv 1000000000 (d9 x) (d9 y) i p.1 p.2.1 p.2.2 ∧ p.1 ≤ (d9 y).length }) (fun p => stL [(0, .p (nP x)), (1, .p (nP y)), (4, .p .any), (5, .own true 1 17 0 ((d9 x).length + (d9 y).length)), (18, .p (nP x)), (19, I .i64 ((d9 x).length)), (20, I .i64 ((i))), (6, I .i64 ((i))), (7, I .u32 ((d9 x).getD (i) 0)), (8, I .u64 ((p.1.2.2))), (25, .p (nP y)), (26, I .i64 ((d9 y).length)), (27, I .i64 ((p.1.1)))] [(17, { cells := nums .u32 ((p.1.2.1)), ty := 138 })]) (fun p => (d9 y).length - p.1.1) (⟨(0, z, 0), h1, Nat.zero_le _⟩) ?_ (fun i_ => ?_)
      · exact gh_st id (tlc (td_p rfl rfl) (tlc (td_p rfl rfl) (tlc td_any (tlc (td_own rfl rfl rfl) (tlc (td_p rfl rfl) (tlc (td_I rfl rfl) (tlc (td_I rfl rfl) (tlc (td_I rfl rfl) (tlc (td_I rfl rfl) (tlc (td_I rfl rfl) (tlc (td_p rfl rfl) (tlc (td_I rfl rfl) (tlc (td_I rfl rfl) tl0))))))))))))) (hpc (hp_nums rfl rfl rfl rfl rfl rfl) hp0) rfl
      · obtain ⟨⟨j, z, c⟩, h3, h4⟩ := i_
        simp only at h3 h4
        have g3 := lim9 y j
        have g4 := h3.len
        have g5 := h3.cb
        change Tr _ _ _ (stL [(0, .p (nP x)), (1, .p (nP y)), (4, .p .any), (5, .own true 1 17 0 ((d9 x).length + (d9 y).length)), (18, .p (nP x)), (19, I .i64 ((d9 x).length)), (20, I .i64 ((i))), (6, I .i64 ((i))), (7, I .u32 ((d9 x).getD (i) 0)), (8, I .u64 ((c))), (25, .p (nP y)), (26, I .i64 ((d9 y).length)), (27, I .i64 ((j)))] [(17, { cells := nums .u32 ((z)), ty := 138 })]) _
        refine r_seq ?_
        refine r_reg ?_
        refine r_op rfl (o_lss (some 28) ⟨rfl, rfl⟩ rfl rfl rfl) ?_
        refine r_end ?_
        refine s_n ?_
        refine r_seq ?_
        refine r_cond rfl (fun hc_1 => ?_) (fun hc_1 => ?_)
        · try simp only [decide_eq_true_eq, decide_eq_false_iff_not, Nat.not_lt, Nat.not_le, Bool.and_eq_true, Bool.or_eq_true, Bool.and_eq_false_iff, Bool.or_eq_false_iff, Bool.not_eq_true', Bool.not_eq_false', beq_iff_eq, beq_eq_false_iff_ne, ne_eq, Decidable.not_not] at hc_1
          have g6 := h3.step (by omega) (lim_d9 x) (lim_d9 y) hc hc_1
          refine r_skip ?_
          refine s_n ?_
          refine r_seq ?_
          refine r_block ?_
          refine r_seq ?_
          refine r_reg ?_
          refine r_op rfl (o_mv (some 29) ⟨rfl, rfl⟩ rfl (by exact (rfl : _ = I _ _))) ?_
          refine r_op rfl (o_ixN (some 30) ⟨rfl, rfl⟩ rfl rfl rfl ty24 ty138 (by first | (simp only [lim]; omega) | omega | (simp only [List.length_set]; omega) | (simp at hb; omega))) ?_
          refine r_op rfl (o_ldc (some 31) ⟨rfl, rfl⟩ rfl rfl ty138 rfl) ?_
          refine r_op rfl (o_as (some 9) ⟨rfl, rfl⟩ rfl (by exact (rfl : _ = I _ _))) ?_
          refine r_op rfl (o_as (some 10) ⟨rfl, rfl⟩ rfl (by first | exact (rfl : _ = I _ _) | exact (rfl : _ = AV.p _) | exact (rfl : _ = AV.ptr _ _) | exact (rfl : _ = AV.own _ _ _ _ _) | exact (rfl : _ = AV.agg _) | exact (rfl : _ = AV.fn _ _))) ?_
          refine r_end ?_
          refine s_n ?_
          refine r_seq ?_
          refine r_reg ?_
          refine r_op rfl (o_mv (some 32) ⟨rfl, rfl⟩ rfl (by exact (rfl : _ = I _ _))) ?_
          refine r_op rfl (o_conv (some 33) ⟨rfl, rfl⟩ rfl rfl ty138 ty137 (by first | (simp only [lim]; omega) | omega | (simp only [List.length_set]; omega) | (simp at hb; omega))) ?_
          refine r_op rfl (o_mv (some 34) ⟨rfl, rfl⟩ rfl (by first | exact (rfl : _ = I _ _) | exact (rfl : _ = AV.p _) | exact (rfl : _ = AV.ptr _ _) | exact (rfl : _ = AV.own _ _ _ _ _) | exact (rfl : _ = AV.agg _) | exact (rfl : _ = AV.fn _ _))) ?_
          refine r_op rfl (o_conv (some 35) ⟨rfl, rfl⟩ rfl rfl ty138 ty137 (by first | (simp only [lim]; omega) | omega | (simp only [List.length_set]; omega) | (simp at hb; omega))) ?_
          refine r_op rfl (o_mul (some 36) ⟨rfl, rfl⟩ rfl rfl rfl (by first | (simp only [lim]; omega) | omega | (simp only [List.length_set]; omega) | (simp at hb; omega))) ?_
          refine r_op rfl (o_mv (some 37) ⟨rfl, rfl⟩ rfl (by exact (rfl : _ = AV.own _ _ _ _ _))) ?_
          refine r_op rfl (o_mv (some 38) ⟨rfl, rfl⟩ rfl (by exact (rfl : _ = I _ _))) ?_
          refine r_op rfl (o_mv (some 39) ⟨rfl, rfl⟩ rfl (by exact (rfl : _ = I _ _))) ?_
          refine r_op rfl (o_add (some 40) ⟨rfl, rfl⟩ rfl rfl rfl (by first | (simp only [lim]; omega) | omega | (simp only [List.length_set]; omega) | (simp at hb; omega))) ?_
          refine r_op rfl (o_ixM (some 41) ⟨rfl, rfl⟩ rfl rfl rfl rfl rfl ty24 ty138 (by first | (simp only [lim]; omega) | omega | (simp only [List.length_set]; omega) | (simp at hb; omega))) ?_
          refine r_op rfl ((by first | exact o_ld1 (some 42) ⟨rfl, rfl⟩ rfl rfl rfl rfl ty138 rfl rfl | exact o_ldN (some 42) ⟨rfl, rfl⟩ rfl rfl rfl rfl ty138 rfl rfl (by first | (simp only [lim]; omega) | omega | (simp only [List.length_set]; omega) | (simp at hb; omega)))) ?_
          refine r_op rfl (o_conv (some 43) ⟨rfl, rfl⟩ rfl rfl ty138 ty137 (by first | (simp only [lim]; omega) | omega | (simp only [List.length_set]; omega) | (simp at hb; omega))) ?_
          refine r_op rfl (o_add (some 44) ⟨rfl, rfl⟩ rfl rfl rfl (by first | (simp only [lim]; omega) | omega | (simp only [List.length_set]; omega) | (simp at hb; omega))) ?_
          refine r_op rfl (o_mv (some 45) ⟨rfl, rfl⟩ rfl (by exact (rfl : _ = I _ _))) ?_
          refine r_op rfl (o_add (some 46) ⟨rfl, rfl⟩ rfl rfl rfl (by first | (simp only [lim]; omega) | omega | (simp only [List.length_set]; omega) | (simp at hb; omega))) ?_
          refine r_op rfl (o_as (some 11) ⟨rfl, rfl⟩ rfl (by exact (rfl : _ = I _ _))) ?_
          refine r_end ?_
          refine s_n ?_
          refine r_seq ?_
          refine r_reg ?_
          refine r_op rfl (o_mv (some 47) ⟨rfl, rfl⟩ rfl (by exact (rfl : _ = AV.own _ _ _ _ _))) ?_
          refine r_op rfl (o_mv (some 48) ⟨rfl, rfl⟩ rfl (by exact (rfl : _ = I _ _))) ?_
          refine r_op rfl (o_mv (some 49) ⟨rfl, rfl⟩ rfl (by exact (rfl : _ = I _ _))) ?_
          refine r_op rfl (o_add (some 50) ⟨rfl, rfl⟩ rfl rfl rfl (by first | (simp only [lim]; omega) | omega | (simp only [List.length_set]; omega) | (simp at hb; omega))) ?_
          refine r_op rfl (o_mv (some 51) ⟨rfl, rfl⟩ rfl (by exact (rfl : _ = I _ _))) ?_
          refine r_op rfl (o_rem (some 52) ⟨rfl, rfl⟩ rfl (by exact (rfl : _ = I _ 1000000000)) rfl (by first | (simp only [lim]; omega) | omega | (simp only [List.length_set]; omega) | (simp at hb; omega))) ?_
          refine r_op rfl (o_conv (some 53) ⟨rfl, rfl⟩ rfl rfl ty137 ty138 (by first | (simp only [lim]; omega) | omega | (simp only [List.length_set]; omega) | (simp at hb; omega))) ?_
          refine r_op rfl (o_ixM (some 54) ⟨rfl, rfl⟩ rfl rfl rfl rfl rfl ty24 ty138 (by first | (simp only [lim]; omega) | omega | (simp only [List.length_set]; omega) | (simp at hb; omega))) ?_
          refine r_op rfl ((by first | exact o_stN rfl rfl rfl rfl rfl rfl ty138 rfl rfl (by first | (simp only [lim]; omega) | omega | (simp only [List.length_set]; omega) | (simp at hb; omega)) | exact o_st1 rfl rfl rfl rfl rfl rfl ty138 rfl rfl (Nat.le_of_ble_eq_true rfl) rfl)) ?_
          refine r_end ?_
          refine s_n ?_
          refine r_reg ?_
          refine r_op rfl (o_mv (some 55) ⟨rfl, rfl⟩ rfl (by exact (rfl : _ = I _ _))) ?_
          refine r_op rfl (o_quo (some 56) ⟨rfl, rfl⟩ rfl (by exact (rfl : _ = I _ 1000000000)) rfl (by first | (simp only [lim]; omega) | omega | (simp only [List.length_set]; omega) | (simp at hb; omega)) (by first | (simp only [lim]; omega) | omega | (simp only [List.length_set]; omega) | (simp at hb; omega))) ?_
          refine r_op rfl (o_as (some 8) ⟨rfl, rfl⟩ rfl (by exact (rfl : _ = I _ _))) ?_
          refine r_end ?_
          refine b_n ?_
          refine s_n ?_
          refine r_reg ?_
          refine r_op rfl (o_add (some 57) ⟨rfl, rfl⟩ rfl (by exact (rfl : _ = I _ 1)) rfl (by first | (simp only [lim]; omega) | omega | (simp only [List.length_set]; omega) | (simp at hb; omega))) ?_
          refine r_op rfl (o_mv (some 27) ⟨rfl, rfl⟩ rfl (by exact (rfl : _ = I _ _))) ?_
          refine r_end ?_
          refine s_n ?_
          exact ⟨⟨(j + 1, _, _), g6.2, by show j + 1 ≤ _; omega⟩, by show _ - (j + 1) < _ - j; omega, gh_st id (tlc (td_p rfl rfl) (tlc (td_p rfl rfl) (tlc td_any (tlc (td_own rfl rfl rfl) (tlc (td_p rfl rfl) (tlc (td_I rfl rfl) (tlc (td_I rfl rfl) (tlc (td_I rfl rfl) (tlc (td_I rfl rfl) (tlc (td_I rfl rfl) (tlc (td_p rfl rfl) (tlc (td_I rfl rfl) (tlc (td_I rfl rfl) tl0))))))))))))) (hpc (hp_nums rfl rfl rfl rfl rfl rfl) hp0) rfl⟩
        · try simp only [decide_eq_true_eq, decide_eq_false_iff_not, Nat.not_lt, Nat.not_le, Bool.and_eq_true, Bool.or_eq_true, Bool.and_eq_false_iff, Bool.or_eq_false_iff, Bool.not_eq_true', Bool.not_eq_false', beq_iff_eq, beq_eq_false_iff_ne, ne_eq, Decidable.not_not] at hc_1
          have hj : j = (d9 y).length := by omega
          subst hj
          refine r_exit ?_
          refine s_exit ?_
          refine s_exit ?_
          refine b_here ?_
          refine s_n ?_
          refine r_reg ?_
          refine r_op rfl (o_mv (some 58) ⟨rfl, rfl⟩ rfl (by exact (rfl : _ = AV.own _ _ _ _ _))) ?_
          refine r_op rfl (o_mv (some 59) ⟨rfl, rfl⟩ rfl (by exact (rfl : _ = I _ _))) ?_
          refine r_op rfl (o_mv (some 60) ⟨rfl, rfl⟩ rfl (by exact (rfl : _ = AV.p _))) ?_
          refine r_op rfl ((by first | exact o_lenN (some 61) ⟨rfl, rfl⟩ rfl rfl ty24 rfl | exact o_lenO (some 61) ⟨rfl, rfl⟩ rfl rfl rfl rfl ty24 | exact o_lenZ (some 61) ⟨rfl, rfl⟩ rfl rfl ty24 | exact o_lenP (some 61) ⟨rfl, rfl⟩ rfl rfl ty24 rfl)) ?_
          refine r_op rfl (o_add (some 62) ⟨rfl, rfl⟩ rfl rfl rfl (by first | (simp only [lim]; omega) | omega | (simp only [List.length_set]; omega) | (simp at hb; omega))) ?_
          refine r_op rfl (o_mv (some 63) ⟨rfl, rfl⟩ rfl (by exact (rfl : _ = I _ _))) ?_
          refine r_op rfl (o_conv (some 64) ⟨rfl, rfl⟩ rfl rfl ty137 ty138 (by first | (simp only [lim]; omega) | omega | (simp only [List.length_set]; omega) | (simp at hb; omega))) ?_
          refine r_op rfl (o_ixM (some 65) ⟨rfl, rfl⟩ rfl rfl rfl rfl rfl ty24 ty138 (by first | (simp only [lim]; omega) | omega | (simp only [List.length_set]; omega) | (simp at hb; omega))) ?_
          refine r_op rfl ((by first | exact o_stN rfl rfl rfl rfl rfl rfl ty138 rfl rfl (by first | (simp only [lim]; omega) | omega | (simp only [List.length_set]; omega) | (simp at hb; omega)) | exact o_st1 rfl rfl rfl rfl rfl rfl ty138 rfl rfl (Nat.le_of_ble_eq_true rfl) rfl)) ?_
          refine r_end ?_
          refine b_n ?_
          refine s_n ?_
          refine r_reg ?_
          refine r_op rfl (o_add (some 66) ⟨rfl, rfl⟩ rfl (by exact (rfl : _ = I _ 1)) rfl (by first | (simp only [lim]; omega) | omega | (simp only [List.length_set]; omega) | (simp at hb; omega))) ?_
          refine r_op rfl (o_mv (some 20) ⟨rfl, rfl⟩ rfl (by exact (rfl : _ = I _ _))) ?_
          refine r_end ?_
          refine s_n ?_
          exact ⟨⟨(i + 1, z.set (i + (d9 y).length) c), MulInv.next (by omega) hc h3, by show i + 1 ≤ _; omega⟩, by show _ - (i + 1) < _ - i; omega, gh_st id (tlc (td_p rfl rfl) (tlc (td_p rfl rfl) (tlc td_any (tlc (td_own rfl rfl rfl) (tlc (td_p rfl rfl) (tlc (td_I rfl rfl) (tlc (td_I rfl rfl) tl0))))))) (hpc (hp_nums rfl rfl rfl rfl rfl rfl) hp0) rfl⟩
    · try simp only [decide_eq_true_eq, decide_eq_false_iff_not, Nat.not_lt, Nat.not_le, Bool.and_eq_true, Bool.or_eq_true, Bool.and_eq_false_iff, Bool.or_eq_false_iff, Bool.not_eq_true', Bool.not_eq_false', beq_iff_eq, beq_eq_false_iff_ne, ne_eq, Decidable.not_not] at hc
      refine r_exit ?_
      refine s_exit ?_
      refine s_exit ?_
      refine b_here ?_
      refine s_n ?_
      refine r_seq ?_
      refine r_reg ?_
      refine r_op rfl (o_mv (some 67) ⟨rfl, rfl⟩ rfl (by exact (rfl : _ = AV.own _ _ _ _ _))) ?_
      have hi : i = (d9 x).length := by omega
      subst hi
      refine r_gh ?_ (gh_publish (b := 17) rfl rfl)
      refine r_op rfl (o_call (some 68) ⟨rfl, rfl⟩ tx119 rfl rfl (w_normE h1.lim (by omega) (by rw [MulInv.done h1 rfl, val_d9, val_d9])) (convL_cons (by first | exact conv_p _ | exact conv_nilP _ | exact conv_nil _ | exact conv_sl rfl | exact conv_nums rfl rfl rfl rfl (by first | rfl | (rw [List.drop_zero, List.take_of_length_le (by omega)]) | omega) (by first | rfl | (rw [List.drop_zero, List.take_of_length_le (by omega)]) | omega)) convL_nil)) ?_
      refine r_op rfl (o_as (some 4) ⟨rfl, rfl⟩ rfl (by exact (rfl : _ = AV.p _))) ?_
      refine r_end ?_
      refine s_n ?_
      refine r_ret ?_
      refine ⟨.inl rfl, [nP (x * y)], rfl, ?_⟩
      exact resL_cons (res_tmp (by first | exact conv_p _ | exact conv_nilP _ | exact conv_nil _ | exact conv_sl rfl | exact conv_nums rfl rfl rfl rfl (by first | rfl | (rw [List.drop_zero, List.take_of_length_le (by omega)]) | omega) (by first | rfl | (rw [List.drop_zero, List.take_of_length_le (by omega)]) | omega))) (resL_nil)

theorem w_clone (xs : List Nat) (hx : xs.length < 1099511627776) : FnF prog 132 [slP .u32 xs] 1 xs.length 138 (pvs .u32 xs) := by
  refine fnF_of (fn := f132) fn132 rfl (Nat.le_of_ble_eq_true rfl) rfl ?_
  refine r_seq ?_
  refine r_reg ?_
  refine r_op rfl (o_as (some 2) ⟨rfl, rfl⟩ rfl (by exact (rfl : _ = AV.p _))) ?_
  refine r_end ?_
  refine s_n ?_
  refine r_seq ?_
  refine r_seq ?_
  refine r_reg ?_
  refine r_op rfl (o_mv (some 3) ⟨rfl, rfl⟩ rfl (by first | exact (rfl : _ = I _ _) | exact (rfl : _ = AV.p _) | exact (rfl : _ = AV.ptr _ _) | exact (rfl : _ = AV.own _ _ _ _ _) | exact (rfl : _ = AV.agg _) | exact (rfl : _ = AV.fn _ _))) ?_
  refine r_eqnil (d := some 4) (op := .eql) rfl ⟨rfl, rfl⟩ rfl rfl ty24 (fun bb hbb => ?_)
  refine r_end ?_
  refine s_n ?_
  refine r_cond rfl (fun hc => ?_) (fun hc => ?_)
  · try simp only [decide_eq_true_eq, decide_eq_false_iff_not, Nat.not_lt, Nat.not_le, Bool.and_eq_true, Bool.or_eq_true, Bool.and_eq_false_iff, Bool.or_eq_false_iff, Bool.not_eq_true', Bool.not_eq_false', beq_iff_eq, beq_eq_false_iff_ne, ne_eq, Decidable.not_not] at hc
    refine r_seq ?_
    refine r_reg ?_
    refine r_op rfl (o_as (some 2) ⟨rfl, rfl⟩ rfl (by exact (rfl : _ = AV.p _))) ?_
    refine r_end ?_
    refine s_n ?_
    refine r_ret ?_
    refine s_ret ?_
    have he := hbb hc
    have he : xs = [] := List.map_eq_nil_iff.1 he
    subst he
    exact ⟨.inl rfl, .inl ⟨rfl, rfl, rfl⟩⟩
  · try simp only [decide_eq_true_eq, decide_eq_false_iff_not, Nat.not_lt, Nat.not_le, Bool.and_eq_true, Bool.or_eq_true, Bool.and_eq_false_iff, Bool.or_eq_false_iff, Bool.not_eq_true', Bool.not_eq_false', beq_iff_eq, beq_eq_false_iff_ne, ne_eq, Decidable.not_not] at hc
    refine r_skip ?_
    refine s_n ?_
    refine r_seq ?_
    refine r_reg ?_
    refine r_op rfl (o_bsN0 (some 5) ⟨rfl, rfl⟩ rfl 5 rfl rfl ty24 ty138) ?_
    refine r_op rfl (o_mv (some 6) ⟨rfl, rfl⟩ rfl (by first | exact (rfl : _ = I _ _) | exact (rfl : _ = AV.p _) | exact (rfl : _ = AV.ptr _ _) | exact (rfl : _ = AV.own _ _ _ _ _) | exact (rfl : _ = AV.agg _) | exact (rfl : _ = AV.fn _ _))) ?_
    refine r_op rfl (o_apS (some 7) ⟨rfl, rfl⟩ rfl 7 rfl rfl ty24 ty138 rfl rfl rfl rfl rfl rfl (by exact rfl) (by exact rfl) rfl (by first | (simp only [lim]; omega) | omega | (simp only [List.length_set]; omega) | (simp at hb; omega))) ?_
    refine r_op rfl (o_as (some 2) ⟨rfl, rfl⟩ rfl (by exact (rfl : _ = AV.own _ _ _ _ _))) ?_
    refine r_end ?_
    refine s_n ?_
    refine r_ret ?_
    exact ⟨.inl rfl, .inr ⟨_, _, (congrArg (AV.own true 1 7 0) (Nat.zero_add _)), rfl, rfl, rfl, rfl, (by exact (pvs_p _ _).symm)⟩⟩

theorem w_sub (x y : Nat) (hxy : y ≤ x) (hx : (d9 x).length < 549755813888) : FnP prog 130 [nP x, nP y] (packP [nP (x - y)]) := by
  have hl := d9_mono hxy
  refine fnP_of (fn := f130) fn130 rfl (Nat.le_of_ble_eq_true rfl) ?_
  refine r_seq ?_
  refine r_reg ?_
  refine r_op rfl (o_as (some 4) ⟨rfl, rfl⟩ rfl (by exact (rfl : _ = AV.p _))) ?_
  refine r_end ?_
  refine s_n ?_
  refine r_seq ?_
  refine r_reg ?_
  refine r_op rfl (o_mv (some 9) ⟨rfl, rfl⟩ rfl (by first | exact (rfl : _ = I _ _) | exact (rfl : _ = AV.p _) | exact (rfl : _ = AV.ptr _ _) | exact (rfl : _ = AV.own _ _ _ _ _) | exact (rfl : _ = AV.agg _) | exact (rfl : _ = AV.fn _ _))) ?_
  refine r_op rfl (o_callF (some 10) ⟨rfl, rfl⟩ tx132 rfl rfl 10 rfl rfl (w_clone (d9 x) (by omega)) (convL_cons (by first | exact conv_p _ | exact conv_nilP _ | exact conv_nil _ | exact conv_sl rfl | exact conv_nums rfl rfl rfl rfl (by first | rfl | (rw [List.drop_zero, List.take_of_length_le (by omega)]) | omega) (by first | rfl | (rw [List.drop_zero, List.take_of_length_le (by omega)]) | omega)) convL_nil) (pvs_p _ _)) ?_
  refine r_op rfl (o_as (some 5) ⟨rfl, rfl⟩ rfl (by exact (rfl : _ = AV.own _ _ _ _ _))) ?_
  refine r_end ?_
  refine s_n ?_
  refine r_seq ?_
  refine r_reg ?_
  refine r_op rfl (o_as (some 6) ⟨rfl, rfl⟩ rfl (by exact (rfl : _ = I _ 0))) ?_
  refine r_end ?_
  refine s_n ?_
  refine r_seq ?_
  refine r_seq ?_
  refine r_reg ?_
  refine r_op rfl (o_mv (some 11) ⟨rfl, rfl⟩ rfl (by exact (rfl : _ = AV.own _ _ _ _ _))) ?_
  refine r_op rfl (o_lenO (some 12) ⟨rfl, rfl⟩ rfl rfl rfl rfl ty24) ?_
  refine r_op rfl (o_mv (some 13) ⟨rfl, rfl⟩ rfl (by exact (rfl : _ = I _ 0))) ?_
  refine r_end ?_
  refine s_n ?_
  refine r_block ?_
  refine r_loop (ι := { p : Nat × List Nat × Nat // SubInv 1000000000 (d9 x) (d9 y) p.1 p.2.1 p.2.2 ∧ p.1 ≤ (d9 x).length }) (fun p => stL [(0, .p (nP x)), (1, .p (nP y)), (4, .p .any), (5, .own true 1 10 0 ((d9 x).length)), (6, I .u32 ((p.1.2.2))), (12, I .i64 ((d9 x).length)), (13, I .i64 ((p.1.1)))] [(10, { cells := nums .u32 (subC x (p.1.1) (p.1.2.1)), ty := 138 })]) (fun p => (d9 x).length - p.1.1) (⟨(0, [], 0), SubInv.start _ _ _, Nat.zero_le _⟩) ?_ (fun i_ => ?_)
  · exact gh_st id (tlc (td_p rfl rfl) (tlc (td_p rfl rfl) (tlc td_any (tlc (td_own rfl rfl rfl) (tlc (td_I rfl rfl) (tlc (td_I rfl rfl) (tlc (td_I rfl rfl) tl0))))))) (hpc (hp_nums rfl rfl rfl rfl rfl rfl) hp0) rfl
  · obtain ⟨⟨i, r, c⟩, h1, h2⟩ := i_
    simp only at h1 h2
    have g1 := lim9 x i
    have g2 := lim9 y i
    have g3 := h1.len
    have g4 := h1.c1
    have g5 := subC_len x h1.len h2
    have g6 := subC_get x h1.len
    change Tr _ _ _ (stL [(0, .p (nP x)), (1, .p (nP y)), (4, .p .any), (5, .own true 1 10 0 ((d9 x).length)), (6, I .u32 ((c))), (12, I .i64 ((d9 x).length)), (13, I .i64 ((i)))] [(10, { cells := nums .u32 (subC x (i) (r)), ty := 138 })]) _
    refine r_seq ?_
    refine r_reg ?_
    refine r_op rfl (o_lss (some 14) ⟨rfl, rfl⟩ rfl rfl rfl) ?_
    refine r_end ?_
    refine s_n ?_
    refine r_seq ?_
    refine r_cond rfl (fun hc => ?_) (fun hc => ?_)
    · try simp only [decide_eq_true_eq, decide_eq_false_iff_not, Nat.not_lt, Nat.not_le, Bool.and_eq_true, Bool.or_eq_true, Bool.and_eq_false_iff, Bool.or_eq_false_iff, Bool.not_eq_true', Bool.not_eq_false', beq_iff_eq, beq_eq_false_iff_ne, ne_eq, Decidable.not_not] at hc
      refine r_skip ?_
      refine s_n ?_
      refine r_seq ?_
      refine r_block ?_
      refine r_seq ?_
      refine r_reg ?_
      refine r_op rfl (o_mv (some 15) ⟨rfl, rfl⟩ rfl (by exact (rfl : _ = I _ _))) ?_
      refine r_op rfl (o_as (some 7) ⟨rfl, rfl⟩ rfl (by exact (rfl : _ = I _ _))) ?_
      refine r_end ?_
      refine s_n ?_
      refine r_seq ?_
      refine r_reg ?_
      refine r_op rfl (o_mv (some 16) ⟨rfl, rfl⟩ rfl (by exact (rfl : _ = I _ _))) ?_
      refine r_op rfl (o_as (some 8) ⟨rfl, rfl⟩ rfl (by exact (rfl : _ = I _ _))) ?_
      refine r_end ?_
      refine s_n ?_
      refine r_midp 8 (I .u32 (c + (d9 y).getD i 0)) ?_ ?_
      · refine r_seq ?_
        refine r_reg ?_
        refine r_op rfl (o_mv (some 17) ⟨rfl, rfl⟩ rfl (by exact (rfl : _ = I _ _))) ?_
        refine r_op rfl (o_mv (some 18) ⟨rfl, rfl⟩ rfl (by exact (rfl : _ = AV.p _))) ?_
        refine r_op rfl ((by first | exact o_lenN (some 19) ⟨rfl, rfl⟩ rfl rfl ty24 rfl | exact o_lenO (some 19) ⟨rfl, rfl⟩ rfl rfl rfl rfl ty24 | exact o_lenZ (some 19) ⟨rfl, rfl⟩ rfl rfl ty24 | exact o_lenP (some 19) ⟨rfl, rfl⟩ rfl rfl ty24 rfl)) ?_
        refine r_op rfl (o_lss (some 20) ⟨rfl, rfl⟩ rfl rfl rfl) ?_
        refine r_end ?_
        refine s_n ?_
        refine r_cond rfl (fun hc_1 => ?_) (fun hc_1 => ?_)
        · try simp only [decide_eq_true_eq, decide_eq_false_iff_not, Nat.not_lt, Nat.not_le, Bool.and_eq_true, Bool.or_eq_true, Bool.and_eq_false_iff, Bool.or_eq_false_iff, Bool.not_eq_true', Bool.not_eq_false', beq_iff_eq, beq_eq_false_iff_ne, ne_eq, Decidable.not_not] at hc_1
          refine r_reg ?_
          refine r_op rfl (o_mv (some 21) ⟨rfl, rfl⟩ rfl (by exact (rfl : _ = I _ _))) ?_
          refine r_op rfl (o_mv (some 22) ⟨rfl, rfl⟩ rfl (by exact (rfl : _ = AV.p _))) ?_
          refine r_op rfl (o_mv (some 23) ⟨rfl, rfl⟩ rfl (by exact (rfl : _ = I _ _))) ?_
          refine r_op rfl (o_ixN (some 24) ⟨rfl, rfl⟩ rfl rfl rfl ty24 ty138 (by first | (simp only [lim]; omega) | omega | (simp only [List.length_set]; omega) | (simp at hb; omega))) ?_
          refine r_op rfl (o_ldc (some 25) ⟨rfl, rfl⟩ rfl rfl ty138 rfl) ?_
          refine r_op rfl (o_add (some 26) ⟨rfl, rfl⟩ rfl rfl rfl (by first | (simp only [lim]; omega) | omega | (simp only [List.length_set]; omega) | (simp at hb; omega))) ?_
          refine r_op rfl (o_as (some 8) ⟨rfl, rfl⟩ rfl (by exact (rfl : _ = I _ _))) ?_
          refine r_end ?_
          refine s_n ?_
          repeat (first | exact Le.refl _ | exact Le.same rfl (congrArg (I _) (by have := getD_ge (l := d9 y) (i := i) (by omega); omega)) | refine Le.drop ?_ rfl | refine Le.both ?_ rfl)
        · try simp only [decide_eq_true_eq, decide_eq_false_iff_not, Nat.not_lt, Nat.not_le, Bool.and_eq_true, Bool.or_eq_true, Bool.and_eq_false_iff, Bool.or_eq_false_iff, Bool.not_eq_true', Bool.not_eq_false', beq_iff_eq, beq_eq_false_iff_ne, ne_eq, Decidable.not_not] at hc_1
          refine r_skip ?_
          refine s_n ?_
          repeat (first | exact Le.refl _ | exact Le.same rfl (congrArg (I _) (by have := getD_ge (l := d9 y) (i := i) (by omega); omega)) | refine Le.drop ?_ rfl | refine Le.both ?_ rfl)
      · refine r_seq ?_
        refine r_reg ?_
        refine r_op rfl (o_as (some 6) ⟨rfl, rfl⟩ rfl (by exact (rfl : _ = I _ 0))) ?_
        refine r_end ?_
        refine s_n ?_
        refine r_seq ?_
        refine r_seq ?_
        refine r_reg ?_
        refine r_op rfl (o_mv (some 27) ⟨rfl, rfl⟩ rfl (by exact (rfl : _ = AV.own _ _ _ _ _))) ?_
        refine r_op rfl (o_mv (some 28) ⟨rfl, rfl⟩ rfl (by exact (rfl : _ = I _ _))) ?_
        refine r_op rfl (o_ixM (some 29) ⟨rfl, rfl⟩ rfl rfl rfl rfl rfl ty24 ty138 (by first | (simp only [lim]; omega) | omega | (simp only [List.length_set]; omega) | (simp at hb; omega))) ?_
        refine r_op rfl ((by first | exact o_ld1 (some 30) ⟨rfl, rfl⟩ rfl rfl rfl rfl ty138 rfl rfl | exact o_ldN (some 30) ⟨rfl, rfl⟩ rfl rfl rfl rfl ty138 rfl rfl (by first | (simp only [lim]; omega) | omega | (simp only [List.length_set]; omega) | (simp at hb; omega)))) ?_
        rw [g6]
        refine r_op rfl (o_mv (some 31) ⟨rfl, rfl⟩ rfl (by exact (rfl : _ = I _ _))) ?_
        refine r_op rfl (o_lss (some 32) ⟨rfl, rfl⟩ rfl rfl rfl) ?_
        refine r_end ?_
        refine s_n ?_
        refine r_cond rfl (fun hc_2 => ?_) (fun hc_2 => ?_)
        · try simp only [decide_eq_true_eq, decide_eq_false_iff_not, Nat.not_lt, Nat.not_le, Bool.and_eq_true, Bool.or_eq_true, Bool.and_eq_false_iff, Bool.or_eq_false_iff, Bool.not_eq_true', Bool.not_eq_false', beq_iff_eq, beq_eq_false_iff_ne, ne_eq, Decidable.not_not] at hc_2
          refine r_seq ?_
          refine r_reg ?_
          refine r_op rfl (o_mv (some 33) ⟨rfl, rfl⟩ rfl (by exact (rfl : _ = AV.own _ _ _ _ _))) ?_
          refine r_op rfl (o_mv (some 34) ⟨rfl, rfl⟩ rfl (by exact (rfl : _ = I _ _))) ?_
          refine r_op rfl (o_ixM (some 35) ⟨rfl, rfl⟩ rfl rfl rfl rfl rfl ty24 ty138 (by first | (simp only [lim]; omega) | omega | (simp only [List.length_set]; omega) | (simp at hb; omega))) ?_
          refine r_op rfl ((by first | exact o_ld1 (some 36) ⟨rfl, rfl⟩ rfl rfl rfl rfl ty138 rfl rfl | exact o_ldN (some 36) ⟨rfl, rfl⟩ rfl rfl rfl rfl ty138 rfl rfl (by first | (simp only [lim]; omega) | omega | (simp only [List.length_set]; omega) | (simp at hb; omega)))) ?_
          rw [g6]
          refine r_op rfl (o_add (some 37) ⟨rfl, rfl⟩ rfl (by exact (rfl : _ = I _ 1000000000)) rfl (by first | (simp only [lim]; omega) | omega | (simp only [List.length_set]; omega) | (simp at hb; omega))) ?_
          refine r_op rfl (o_ixM (some 38) ⟨rfl, rfl⟩ rfl rfl rfl rfl rfl ty24 ty138 (by first | (simp only [lim]; omega) | omega | (simp only [List.length_set]; omega) | (simp at hb; omega))) ?_
          refine r_op rfl ((by first | exact o_stN rfl rfl rfl rfl rfl rfl ty138 rfl rfl (by first | (simp only [lim]; omega) | omega | (simp only [List.length_set]; omega) | (simp at hb; omega)) | exact o_st1 rfl rfl rfl rfl rfl rfl ty138 rfl rfl (Nat.le_of_ble_eq_true rfl) rfl)) ?_
          refine r_end ?_
          refine s_n ?_
          refine r_reg ?_
          refine r_op rfl (o_as (some 6) ⟨rfl, rfl⟩ rfl (by exact (rfl : _ = I _ 1))) ?_
          refine r_end ?_
          refine s_n ?_
          refine r_reg ?_
          refine r_op rfl (o_mv (some 39) ⟨rfl, rfl⟩ rfl (by exact (rfl : _ = AV.own _ _ _ _ _))) ?_
          refine r_op rfl (o_mv (some 40) ⟨rfl, rfl⟩ rfl (by exact (rfl : _ = I _ _))) ?_
          refine r_op rfl (o_ixM (some 41) ⟨rfl, rfl⟩ rfl rfl rfl rfl rfl ty24 ty138 (by first | (simp only [lim]; omega) | omega | (simp only [List.length_set]; omega) | (simp at hb; omega))) ?_
          refine r_op rfl ((by first | exact o_ld1 (some 42) ⟨rfl, rfl⟩ rfl rfl rfl rfl ty138 rfl rfl | exact o_ldN (some 42) ⟨rfl, rfl⟩ rfl rfl rfl rfl ty138 rfl rfl (by first | (simp only [lim]; omega) | omega | (simp only [List.length_set]; omega) | (simp at hb; omega)))) ?_
          first | rw [getD_set_self _ _ _ (by omega)] | rw [g6]
          refine r_op rfl (o_mv (some 43) ⟨rfl, rfl⟩ rfl (by exact (rfl : _ = I _ _))) ?_
          refine r_op rfl (o_sub (some 44) ⟨rfl, rfl⟩ rfl rfl rfl (by first | (simp only [lim]; omega) | omega | (simp only [List.length_set]; omega) | (simp at hb; omega)) (by first | (simp only [lim]; omega) | omega | (simp only [List.length_set]; omega) | (simp at hb; omega))) ?_
          refine r_op rfl (o_ixM (some 45) ⟨rfl, rfl⟩ rfl rfl rfl rfl rfl ty24 ty138 (by first | (simp only [lim]; omega) | omega | (simp only [List.length_set]; omega) | (simp at hb; omega))) ?_
          refine r_op rfl ((by first | exact o_stN rfl rfl rfl rfl rfl rfl ty138 rfl rfl (by first | omega | (simp only [List.length_set]; omega)) | exact o_st1 rfl rfl rfl rfl rfl rfl ty138 rfl rfl (Nat.le_of_ble_eq_true rfl) rfl)) ?_
          refine r_end ?_
          refine b_n ?_
          refine s_n ?_
          refine r_reg ?_
          refine r_op rfl (o_add (some 46) ⟨rfl, rfl⟩ rfl (by exact (rfl : _ = I _ 1)) rfl (by first | (simp only [lim]; omega) | omega | (simp only [List.length_set]; omega) | (simp at hb; omega))) ?_
          refine r_op rfl (o_mv (some 13) ⟨rfl, rfl⟩ rfl (by exact (rfl : _ = I _ _))) ?_
          refine r_end ?_
          refine s_n ?_
          first | exact ⟨⟨(i + 1, r ++ [(d9 x).getD i 0 + 1000000000 - (c + (d9 y).getD i 0)], 1), h1.low (by omega) (lim_d9 x) (lim_d9 y) (by omega), by show i + 1 ≤ _; omega⟩, by show _ - (i + 1) < _ - i; omega, gh_st id (tlc (td_p rfl rfl) (tlc (td_p rfl rfl) (tlc td_any (tlc (td_own rfl rfl rfl) (tlc (td_I rfl rfl) (tlc (td_I rfl rfl) (tlc (td_I rfl rfl) tl0))))))) (hpc (hp_nums rfl rfl rfl rfl rfl (subC_step2 x h1.len (by omega))) hp0) rfl⟩ | exact ⟨⟨(i + 1, r ++ [(d9 x).getD i 0 - (c + (d9 y).getD i 0)], 0), h1.high (by omega) (lim_d9 x) (by omega), by show i + 1 ≤ _; omega⟩, by show _ - (i + 1) < _ - i; omega, gh_st id (tlc (td_p rfl rfl) (tlc (td_p rfl rfl) (tlc td_any (tlc (td_own rfl rfl rfl) (tlc (td_I rfl rfl) (tlc (td_I rfl rfl) (tlc (td_I rfl rfl) tl0))))))) (hpc (hp_nums rfl rfl rfl rfl rfl (subC_step x h1.len (by omega))) hp0) rfl⟩
        · try simp only [decide_eq_true_eq, decide_eq_false_iff_not, Nat.not_lt, Nat.not_le, Bool.and_eq_true, Bool.or_eq_true, Bool.and_eq_false_iff, Bool.or_eq_false_iff, Bool.not_eq_true', Bool.not_eq_false', beq_iff_eq, beq_eq_false_iff_ne, ne_eq, Decidable.not_not] at hc_2
          refine r_skip ?_
          refine s_n ?_
          refine r_reg ?_
          refine r_op rfl (o_mv (some 39) ⟨rfl, rfl⟩ rfl (by exact (rfl : _ = AV.own _ _ _ _ _))) ?_
          refine r_op rfl (o_mv (some 40) ⟨rfl, rfl⟩ rfl (by exact (rfl : _ = I _ _))) ?_
          refine r_op rfl (o_ixM (some 41) ⟨rfl, rfl⟩ rfl rfl rfl rfl rfl ty24 ty138 (by first | (simp only [lim]; omega) | omega | (simp only [List.length_set]; omega) | (simp at hb; omega))) ?_
          refine r_op rfl ((by first | exact o_ld1 (some 42) ⟨rfl, rfl⟩ rfl rfl rfl rfl ty138 rfl rfl | exact o_ldN (some 42) ⟨rfl, rfl⟩ rfl rfl rfl rfl ty138 rfl rfl (by first | (simp only [lim]; omega) | omega | (simp only [List.length_set]; omega) | (simp at hb; omega)))) ?_
          first | rw [getD_set_self _ _ _ (by omega)] | rw [g6]
          refine r_op rfl (o_mv (some 43) ⟨rfl, rfl⟩ rfl (by exact (rfl : _ = I _ _))) ?_
          refine r_op rfl (o_sub (some 44) ⟨rfl, rfl⟩ rfl rfl rfl (by first | (simp only [lim]; omega) | omega | (simp only [List.length_set]; omega) | (simp at hb; omega)) (by first | (simp only [lim]; omega) | omega | (simp only [List.length_set]; omega) | (simp at hb; omega))) ?_
          refine r_op rfl (o_ixM (some 45) ⟨rfl, rfl⟩ rfl rfl rfl rfl rfl ty24 ty138 (by first | (simp only [lim]; omega) | omega | (simp only [List.length_set]; omega) | (simp at hb; omega))) ?_
          refine r_op rfl ((by first | exact o_stN rfl rfl rfl rfl rfl rfl ty138 rfl rfl (by first | omega | (simp only [List.length_set]; omega)) | exact o_st1 rfl rfl rfl rfl rfl rfl ty138 rfl rfl (Nat.le_of_ble_eq_true rfl) rfl)) ?_
          refine r_end ?_
          refine b_n ?_
          refine s_n ?_
          refine r_reg ?_
          refine r_op rfl (o_add (some 46) ⟨rfl, rfl⟩ rfl (by exact (rfl : _ = I _ 1)) rfl (by first | (simp only [lim]; omega) | omega | (simp only [List.length_set]; omega) | (simp at hb; omega))) ?_
          refine r_op rfl (o_mv (some 13) ⟨rfl, rfl⟩ rfl (by exact (rfl : _ = I _ _))) ?_
          refine r_end ?_
          refine s_n ?_
          first | exact ⟨⟨(i + 1, r ++ [(d9 x).getD i 0 + 1000000000 - (c + (d9 y).getD i 0)], 1), h1.low (by omega) (lim_d9 x) (lim_d9 y) (by omega), by show i + 1 ≤ _; omega⟩, by show _ - (i + 1) < _ - i; omega, gh_st id (tlc (td_p rfl rfl) (tlc (td_p rfl rfl) (tlc td_any (tlc (td_own rfl rfl rfl) (tlc (td_I rfl rfl) (tlc (td_I rfl rfl) (tlc (td_I rfl rfl) tl0))))))) (hpc (hp_nums rfl rfl rfl rfl rfl (subC_step2 x h1.len (by omega))) hp0) rfl⟩ | exact ⟨⟨(i + 1, r ++ [(d9 x).getD i 0 - (c + (d9 y).getD i 0)], 0), h1.high (by omega) (lim_d9 x) (by omega), by show i + 1 ≤ _; omega⟩, by show _ - (i + 1) < _ - i; omega, gh_st id (tlc (td_p rfl rfl) (tlc (td_p rfl rfl) (tlc td_any (tlc (td_own rfl rfl rfl) (tlc (td_I rfl rfl) (tlc (td_I rfl rfl) (tlc (td_I rfl rfl) tl0))))))) (hpc (hp_nums rfl rfl rfl rfl rfl (subC_step x h1.len (by omega))) hp0) rfl⟩
    · try simp only [decide_eq_true_eq, decide_eq_false_iff_not, Nat.not_lt, Nat.not_le, Bool.and_eq_true, Bool.or_eq_true, Bool.and_eq_false_iff, Bool.or_eq_false_iff, Bool.not_eq_true', Bool.not_eq_false', beq_iff_eq, beq_eq_false_iff_ne, ne_eq, Decidable.not_not] at hc
      refine r_exit ?_
      refine s_exit ?_
      refine s_exit ?_
      refine b_here ?_
      refine s_n ?_
      refine r_seq ?_
      refine r_reg ?_
      refine r_op rfl (o_mv (some 47) ⟨rfl, rfl⟩ rfl (by exact (rfl : _ = AV.own _ _ _ _ _))) ?_
      have hi : i = (d9 x).length := by omega
      subst hi
      refine r_gh ?_ (gh_publish (b := 10) rfl rfl)
      refine r_op rfl (o_call (some 48) ⟨rfl, rfl⟩ tx119 rfl rfl (w_normE (zs := subC x (d9 x).length r) (by rw [subC_end]; exact h1.lim) (by omega) (by rw [subC_end, SubInv.done hl (by rw [val_d9, val_d9]; exact hxy) h1, val_d9, val_d9])) (convL_cons (by first | exact conv_p _ | exact conv_nilP _ | exact conv_nil _ | exact conv_sl rfl | exact conv_nums rfl rfl rfl rfl (by first | rfl | (rw [List.drop_zero, List.take_of_length_le (by omega)]) | omega) (by first | rfl | (rw [List.drop_zero, List.take_of_length_le (by omega)]) | omega)) convL_nil)) ?_
      refine r_op rfl (o_as (some 4) ⟨rfl, rfl⟩ rfl (by exact (rfl : _ = AV.p _))) ?_
      refine r_end ?_
      refine s_n ?_
      refine r_ret ?_
      refine ⟨.inl rfl, [nP (x - y)], rfl, ?_⟩
      exact resL_cons (res_tmp (by first | exact conv_p _ | exact conv_nilP _ | exact conv_nil _ | exact conv_sl rfl | exact conv_nums rfl rfl rfl rfl (by first | rfl | (rw [List.drop_zero, List.take_of_length_le (by omega)]) | omega) (by first | rfl | (rw [List.drop_zero, List.take_of_length_le (by omega)]) | omega))) (resL_nil)
end Vou
end

section
set_option linter.unusedVariables false
set_option linter.unusedSimpArgs false
namespace Vou
open Go Go.RowKit Go.Proofs.Tryz
theorem w_back (us : List Nat) (j v : Nat) (f : Bool) (hL : Lim 1000000000 us) (hj : j + (d9 v).length + 1 ≤ us.length) (hu : us.length < 1099511627776) : FnH prog 134 [.own f 1 1000 j (us.length - j), .p (nP v)] 138 (pvs .u32 us) (packP []) (pvs .u32 (winC us j (addR 1000000000 (us.drop j) (d9 v) ((d9 v).length + 1)).1)) := by
  have hI := addR_inv (b := 1000000000) (by omega) (hL.drop j) (lim_d9 v)
  refine fnH_of (fn := f134) fn134 rfl (Nat.le_of_ble_eq_true rfl) ⟨rfl, trivial, trivial⟩ rfl (pvs_ne (by rw [winC_len (by rw [(addR_inv (by omega) (hL.drop j) (lim_d9 v) _).len]; omega)]; omega)) (fun sz => ?_)
  refine r_seq ?_
  refine r_reg ?_
  refine r_op rfl (o_as (some 4) ⟨rfl, rfl⟩ rfl (by exact (rfl : _ = I _ 0))) ?_
  refine r_end ?_
  refine s_n ?_
  refine r_seq ?_
  refine r_reg ?_
  refine r_op rfl (o_mv (some 7) ⟨rfl, rfl⟩ rfl (by first | exact (rfl : _ = I _ _) | exact (rfl : _ = AV.p _) | exact (rfl : _ = AV.ptr _ _) | exact (rfl : _ = AV.own _ _ _ _ _) | exact (rfl : _ = AV.agg _) | exact (rfl : _ = AV.fn _ _))) ?_
  refine r_op rfl ((by first | exact o_lenN (some 8) ⟨rfl, rfl⟩ rfl rfl ty24 rfl | exact o_lenO (some 8) ⟨rfl, rfl⟩ rfl rfl rfl rfl ty24 | exact o_lenZ (some 8) ⟨rfl, rfl⟩ rfl rfl ty24 | exact o_lenP (some 8) ⟨rfl, rfl⟩ rfl rfl ty24 rfl)) ?_
  refine r_op rfl (o_add (some 9) ⟨rfl, rfl⟩ rfl (by exact (rfl : _ = I _ 1)) rfl (by first | (simp only [lim]; omega) | omega | (simp only [List.length_set]; omega) | (simp at hb; omega))) ?_
  refine r_op rfl (o_mv (some 10) ⟨rfl, rfl⟩ rfl (by exact (rfl : _ = I _ 0))) ?_
  refine r_end ?_
  refine s_n ?_
  refine r_block ?_
  refine r_loop (ι := { i : Nat // i ≤ (d9 v).length + 1 }) (fun p => stL [(0, .own f 1 1000 j (us.length - j)), (1, .p (nP v)), (4, I .u32 ((addR 1000000000 (us.drop j) (d9 v) (p.1)).2)), (9, I .i64 ((d9 v).length + 1)), (10, I .i64 ((p.1)))] [(1000, { cells := nums .u32 (winC us j (addR 1000000000 (us.drop j) (d9 v) (p.1)).1), ty := 138, pin := some sz })]) (fun p => (d9 v).length + 1 - p.1) (⟨0, Nat.zero_le _⟩) ?_ (fun i_ => ?_)
  · exact gh_st id (tlc (td_own rfl rfl rfl) (tlc (td_p rfl rfl) (tlc (td_I rfl rfl) (tlc (td_I rfl rfl) (tlc (td_I rfl rfl) tl0))))) (hpc (hp_pin rfl rfl rfl rfl rfl (pvs_p _ _) (winC_nil us j)) hp0) rfl
  · obtain ⟨i, h2⟩ := i_
    have h1 := hI i
    have g1 := h1.c1
    have g2 := h1.len
    have g3 := lim9 v i
    have g4 := (hL.drop j).getD (by omega) i
    change Tr _ _ _ (stL [(0, .own f 1 1000 j (us.length - j)), (1, .p (nP v)), (4, I .u32 ((addR 1000000000 (us.drop j) (d9 v) (i)).2)), (9, I .i64 ((d9 v).length + 1)), (10, I .i64 ((i)))] [(1000, { cells := nums .u32 (winC us j (addR 1000000000 (us.drop j) (d9 v) (i)).1), ty := 138, pin := some sz })]) _
    refine r_seq ?_
    refine r_reg ?_
    refine r_op rfl (o_lss (some 11) ⟨rfl, rfl⟩ rfl rfl rfl) ?_
    refine r_end ?_
    refine s_n ?_
    refine r_seq ?_
    refine r_cond rfl (fun hc => ?_) (fun hc => ?_)
    · try simp only [decide_eq_true_eq, decide_eq_false_iff_not, Nat.not_lt, Nat.not_le, Bool.and_eq_true, Bool.or_eq_true, Bool.and_eq_false_iff, Bool.or_eq_false_iff, Bool.not_eq_true', Bool.not_eq_false', beq_iff_eq, beq_eq_false_iff_ne, ne_eq, Decidable.not_not] at hc
      refine r_skip ?_
      refine s_n ?_
      refine r_seq ?_
      refine r_block ?_
      refine r_seq ?_
      refine r_reg ?_
      refine r_op rfl (o_mv (some 12) ⟨rfl, rfl⟩ rfl (by exact (rfl : _ = I _ _))) ?_
      refine r_op rfl (o_as (some 5) ⟨rfl, rfl⟩ rfl (by exact (rfl : _ = I _ _))) ?_
      refine r_end ?_
      refine s_n ?_
      refine r_seq ?_
      refine r_reg ?_
      refine r_op rfl (o_mv (some 13) ⟨rfl, rfl⟩ rfl (by exact (rfl : _ = AV.own _ _ _ _ _))) ?_
      refine r_op rfl (o_mv (some 14) ⟨rfl, rfl⟩ rfl (by exact (rfl : _ = I _ _))) ?_
      refine r_op rfl (o_ixK (some 15) ⟨rfl, rfl⟩ rfl rfl rfl rfl rfl ty24 ty138 (by omega)) ?_
      have g5 := winC_len (us := us) (j := j) (r := (addR 1000000000 (us.drop j) (d9 v) i).1) (by omega)
      refine r_op rfl ((by first | exact o_ld1 (some 16) ⟨rfl, rfl⟩ rfl rfl rfl rfl ty138 rfl rfl | exact o_ldN (some 16) ⟨rfl, rfl⟩ rfl rfl rfl rfl ty138 rfl rfl (by first | (simp only [lim]; omega) | omega | (simp only [List.length_set]; omega) | (simp at hb; omega)) | exact o_ldc (some 16) ⟨rfl, rfl⟩ rfl rfl ty138 rfl)) ?_
      rw [winC_get h1.len (by omega)]
      refine r_op rfl (o_mv (some 17) ⟨rfl, rfl⟩ rfl (by exact (rfl : _ = I _ _))) ?_
      refine r_op rfl (o_add (some 18) ⟨rfl, rfl⟩ rfl rfl rfl (by first | (simp only [lim]; omega) | omega | (simp only [List.length_set]; omega) | (simp at hb; omega))) ?_
      refine r_op rfl (o_as (some 6) ⟨rfl, rfl⟩ rfl (by exact (rfl : _ = I _ _))) ?_
      refine r_end ?_
      refine s_n ?_
      refine r_midp 6 (I .u32 ((us.drop j).getD i 0 + (addR 1000000000 (us.drop j) (d9 v) i).2 + (d9 v).getD i 0)) ?_ ?_
      · refine r_seq ?_
        refine r_reg ?_
        refine r_op rfl (o_mv (some 19) ⟨rfl, rfl⟩ rfl (by exact (rfl : _ = I _ _))) ?_
        refine r_op rfl (o_mv (some 20) ⟨rfl, rfl⟩ rfl (by exact (rfl : _ = AV.p _))) ?_
        refine r_op rfl ((by first | exact o_lenN (some 21) ⟨rfl, rfl⟩ rfl rfl ty24 rfl | exact o_lenO (some 21) ⟨rfl, rfl⟩ rfl rfl rfl rfl ty24 | exact o_lenZ (some 21) ⟨rfl, rfl⟩ rfl rfl ty24 | exact o_lenP (some 21) ⟨rfl, rfl⟩ rfl rfl ty24 rfl)) ?_
        refine r_op rfl (o_lss (some 22) ⟨rfl, rfl⟩ rfl rfl rfl) ?_
        refine r_end ?_
        refine s_n ?_
        refine r_cond rfl (fun hc_1 => ?_) (fun hc_1 => ?_)
        · try simp only [decide_eq_true_eq, decide_eq_false_iff_not, Nat.not_lt, Nat.not_le, Bool.and_eq_true, Bool.or_eq_true, Bool.and_eq_false_iff, Bool.or_eq_false_iff, Bool.not_eq_true', Bool.not_eq_false', beq_iff_eq, beq_eq_false_iff_ne, ne_eq, Decidable.not_not] at hc_1
          refine r_reg ?_
          refine r_op rfl (o_mv (some 23) ⟨rfl, rfl⟩ rfl (by exact (rfl : _ = I _ _))) ?_
          refine r_op rfl (o_mv (some 24) ⟨rfl, rfl⟩ rfl (by exact (rfl : _ = AV.p _))) ?_
          refine r_op rfl (o_mv (some 25) ⟨rfl, rfl⟩ rfl (by exact (rfl : _ = I _ _))) ?_
          refine r_op rfl (o_ixN (some 26) ⟨rfl, rfl⟩ rfl rfl rfl ty24 ty138 (by first | (simp only [lim]; omega) | omega | (simp only [List.length_set]; omega) | (simp at hb; omega))) ?_
          refine r_op rfl (o_ldc (some 27) ⟨rfl, rfl⟩ rfl rfl ty138 rfl) ?_
          refine r_op rfl (o_add (some 28) ⟨rfl, rfl⟩ rfl rfl rfl (by first | (simp only [lim]; omega) | omega | (simp only [List.length_set]; omega) | (simp at hb; omega))) ?_
          refine r_op rfl (o_as (some 6) ⟨rfl, rfl⟩ rfl (by exact (rfl : _ = I _ _))) ?_
          refine r_end ?_
          refine s_n ?_
          repeat (first | exact Le.refl _ | exact Le.same rfl (congrArg (I _) (by have := getD_ge (l := d9 v) (i := i) (by omega); omega)) | refine Le.drop ?_ rfl | refine Le.both ?_ rfl)
        · try simp only [decide_eq_true_eq, decide_eq_false_iff_not, Nat.not_lt, Nat.not_le, Bool.and_eq_true, Bool.or_eq_true, Bool.and_eq_false_iff, Bool.or_eq_false_iff, Bool.not_eq_true', Bool.not_eq_false', beq_iff_eq, beq_eq_false_iff_ne, ne_eq, Decidable.not_not] at hc_1
          refine r_skip ?_
          refine s_n ?_
          repeat (first | exact Le.refl _ | exact Le.same rfl (congrArg (I _) (by have := getD_ge (l := d9 v) (i := i) (by omega); omega)) | refine Le.drop ?_ rfl | refine Le.both ?_ rfl)
      · refine r_seq ?_
        refine r_reg ?_
        refine r_op rfl (o_mv (some 29) ⟨rfl, rfl⟩ rfl (by exact (rfl : _ = AV.own _ _ _ _ _))) ?_
        refine r_op rfl (o_mv (some 30) ⟨rfl, rfl⟩ rfl (by exact (rfl : _ = I _ _))) ?_
        refine r_op rfl (o_mv (some 31) ⟨rfl, rfl⟩ rfl (by exact (rfl : _ = I _ _))) ?_
        refine r_op rfl (o_rem (some 32) ⟨rfl, rfl⟩ rfl (by exact (rfl : _ = I _ 1000000000)) rfl (by first | (simp only [lim]; omega) | omega | (simp only [List.length_set]; omega) | (simp at hb; omega))) ?_
        refine r_op rfl (o_ixK (some 33) ⟨rfl, rfl⟩ rfl rfl rfl rfl rfl ty24 ty138 (by omega)) ?_
        refine r_op rfl ((by first | exact o_stN rfl rfl rfl rfl rfl rfl ty138 rfl rfl (by first | (simp only [lim]; omega) | omega | (simp only [List.length_set]; omega) | (simp at hb; omega)) | exact o_st1 rfl rfl rfl rfl rfl rfl ty138 rfl rfl (Nat.le_of_ble_eq_true rfl) rfl)) ?_
        refine r_end ?_
        refine s_n ?_
        refine r_reg ?_
        refine r_op rfl (o_mv (some 34) ⟨rfl, rfl⟩ rfl (by exact (rfl : _ = I _ _))) ?_
        refine r_op rfl (o_quo (some 35) ⟨rfl, rfl⟩ rfl (by exact (rfl : _ = I _ 1000000000)) rfl (by first | (simp only [lim]; omega) | omega | (simp only [List.length_set]; omega) | (simp at hb; omega)) (by first | (simp only [lim]; omega) | omega | (simp only [List.length_set]; omega) | (simp at hb; omega))) ?_
        refine r_op rfl (o_as (some 4) ⟨rfl, rfl⟩ rfl (by exact (rfl : _ = I _ _))) ?_
        refine r_end ?_
        refine b_n ?_
        refine s_n ?_
        refine r_reg ?_
        refine r_op rfl (o_add (some 36) ⟨rfl, rfl⟩ rfl (by exact (rfl : _ = I _ 1)) rfl (by first | (simp only [lim]; omega) | omega | (simp only [List.length_set]; omega) | (simp at hb; omega))) ?_
        refine r_op rfl (o_mv (some 10) ⟨rfl, rfl⟩ rfl (by exact (rfl : _ = I _ _))) ?_
        refine r_end ?_
        refine s_n ?_
        exact ⟨⟨i + 1, by omega⟩, by show _ - (i + 1) < _ - i; omega, gh_st id (tlc (td_own rfl rfl rfl) (tlc (td_p rfl rfl) (tlc (td_I rfl rfl) (tlc (td_I rfl rfl) (tlc (td_I rfl rfl) tl0))))) (hpc (hp_pin rfl rfl rfl rfl rfl rfl (winC_step h1.len (by omega))) hp0) rfl⟩
    · try simp only [decide_eq_true_eq, decide_eq_false_iff_not, Nat.not_lt, Nat.not_le, Bool.and_eq_true, Bool.or_eq_true, Bool.and_eq_false_iff, Bool.or_eq_false_iff, Bool.not_eq_true', Bool.not_eq_false', beq_iff_eq, beq_eq_false_iff_ne, ne_eq, Decidable.not_not] at hc
      refine r_exit ?_
      refine s_exit ?_
      refine s_exit ?_
      refine b_here ?_
      have hi : i = (d9 v).length + 1 := by omega
      subst hi
      refine ⟨.inr rfl, ?_, _, rfl, rfl, rfl, rfl, rfl, (by exact (pvs_p _ _).symm)⟩
      refine ⟨[], rfl, ?_⟩
      exact resL_nil

theorem w_take (us : List Nat) (j v n : Nat) (f : Bool) (hL : Lim 1000000000 us) (hj : j + (d9 v).length + 1 ≤ us.length) (hu : us.length < 1099511627776) (hn : n < 1000000000) : FnH prog 133 [.own f 1 1000 j (us.length - j), .p (nP v), I .u64 n] 138 (pvs .u32 us) (packP [.v (.bool (decide (0 < (takeR 1000000000 (us.drop j) (d9 v) n ((d9 v).length + 1)).2)))]) (pvs .u32 (winC us j (takeR 1000000000 (us.drop j) (d9 v) n ((d9 v).length + 1)).1)) := by
  have hI := takeR_inv (b := 1000000000) (by omega) (hL.drop j) (lim_d9 v) hn
  refine fnH_of (fn := f133) fn133 rfl (Nat.le_of_ble_eq_true rfl) ⟨rfl, trivial, trivial, trivial⟩ rfl (pvs_ne (by rw [winC_len (by rw [(takeR_inv (by omega) (hL.drop j) (lim_d9 v) hn _).len]; omega)]; omega)) (fun sz => ?_)
  refine r_seq ?_
  refine r_reg ?_
  refine r_op rfl (o_as (some 6) ⟨rfl, rfl⟩ rfl (by exact (rfl : _ = AV.p _))) ?_
  refine r_end ?_
  refine s_n ?_
  refine r_seq ?_
  refine r_reg ?_
  refine r_op rfl (o_as (some 7) ⟨rfl, rfl⟩ rfl (by exact (rfl : _ = I _ 0))) ?_
  refine r_end ?_
  refine s_n ?_
  refine r_seq ?_
  refine r_seq ?_
  refine r_reg ?_
  refine r_op rfl (o_mv (some 11) ⟨rfl, rfl⟩ rfl (by first | exact (rfl : _ = I _ _) | exact (rfl : _ = AV.p _) | exact (rfl : _ = AV.ptr _ _) | exact (rfl : _ = AV.own _ _ _ _ _) | exact (rfl : _ = AV.agg _) | exact (rfl : _ = AV.fn _ _))) ?_
  refine r_op rfl ((by first | exact o_lenN (some 12) ⟨rfl, rfl⟩ rfl rfl ty24 rfl | exact o_lenO (some 12) ⟨rfl, rfl⟩ rfl rfl rfl rfl ty24 | exact o_lenZ (some 12) ⟨rfl, rfl⟩ rfl rfl ty24 | exact o_lenP (some 12) ⟨rfl, rfl⟩ rfl rfl ty24 rfl)) ?_
  refine r_op rfl (o_add (some 13) ⟨rfl, rfl⟩ rfl (by exact (rfl : _ = I _ 1)) rfl (by first | (simp only [lim]; omega) | omega | (simp only [List.length_set]; omega) | (simp at hb; omega))) ?_
  refine r_op rfl (o_mv (some 14) ⟨rfl, rfl⟩ rfl (by exact (rfl : _ = I _ 0))) ?_
  refine r_end ?_
  refine s_n ?_
  refine r_block ?_
  refine r_loop (ι := { i : Nat // i ≤ (d9 v).length + 1 }) (fun p => stL [(0, .own f 1 1000 j (us.length - j)), (1, .p (nP v)), (2, I .u64 (n)), (7, I .u64 ((takeR 1000000000 (us.drop j) (d9 v) n (p.1)).2)), (13, I .i64 ((d9 v).length + 1)), (14, I .i64 ((p.1)))] [(1000, { cells := nums .u32 (winC us j (takeR 1000000000 (us.drop j) (d9 v) n (p.1)).1), ty := 138, pin := some sz })]) (fun p => (d9 v).length + 1 - p.1) (⟨0, Nat.zero_le _⟩) ?_ (fun i_ => ?_)
  · exact gh_st id (tlc (td_own rfl rfl rfl) (tlc (td_p rfl rfl) (tlc (td_I rfl rfl) (tlc (td_I rfl rfl) (tlc (td_I rfl rfl) (tlc (td_I rfl rfl) tl0)))))) (hpc (hp_pin rfl rfl rfl rfl rfl (pvs_p _ _) (winC_nil us j)) hp0) rfl
  · obtain ⟨i, h2⟩ := i_
    have h1 := hI i
    have g1 := h1.cb
    have g2 := h1.len
    have g3 := lim9 v i
    have g4 := (hL.drop j).getD (by omega) i
    have g6 := (h1.bound (by omega) (lim_d9 v) hn).1
    have g5 := winC_len (us := us) (j := j) (r := (takeR 1000000000 (us.drop j) (d9 v) n i).1) (by omega)
    change Tr _ _ _ (stL [(0, .own f 1 1000 j (us.length - j)), (1, .p (nP v)), (2, I .u64 (n)), (7, I .u64 ((takeR 1000000000 (us.drop j) (d9 v) n (i)).2)), (13, I .i64 ((d9 v).length + 1)), (14, I .i64 ((i)))] [(1000, { cells := nums .u32 (winC us j (takeR 1000000000 (us.drop j) (d9 v) n (i)).1), ty := 138, pin := some sz })]) _
    refine r_seq ?_
    refine r_reg ?_
    refine r_op rfl (o_lss (some 15) ⟨rfl, rfl⟩ rfl rfl rfl) ?_
    refine r_end ?_
    refine s_n ?_
    refine r_seq ?_
    refine r_cond rfl (fun hc => ?_) (fun hc => ?_)
    · try simp only [decide_eq_true_eq, decide_eq_false_iff_not, Nat.not_lt, Nat.not_le, Bool.and_eq_true, Bool.or_eq_true, Bool.and_eq_false_iff, Bool.or_eq_false_iff, Bool.not_eq_true', Bool.not_eq_false', beq_iff_eq, beq_eq_false_iff_ne, ne_eq, Decidable.not_not] at hc
      refine r_skip ?_
      refine s_n ?_
      refine r_seq ?_
      refine r_block ?_
      refine r_seq ?_
      refine r_reg ?_
      refine r_op rfl (o_mv (some 16) ⟨rfl, rfl⟩ rfl (by exact (rfl : _ = I _ _))) ?_
      refine r_op rfl (o_as (some 8) ⟨rfl, rfl⟩ rfl (by exact (rfl : _ = I _ _))) ?_
      refine r_end ?_
      refine s_n ?_
      refine r_seq ?_
      refine r_reg ?_
      refine r_op rfl (o_mv (some 17) ⟨rfl, rfl⟩ rfl (by exact (rfl : _ = I _ _))) ?_
      refine r_op rfl (o_as (some 9) ⟨rfl, rfl⟩ rfl (by exact (rfl : _ = I _ _))) ?_
      refine r_end ?_
      refine s_n ?_
      refine r_midp 9 (I .u64 ((takeR 1000000000 (us.drop j) (d9 v) n i).2 + n * (d9 v).getD i 0)) ?_ ?_
      · refine r_seq ?_
        refine r_reg ?_
        refine r_op rfl (o_mv (some 18) ⟨rfl, rfl⟩ rfl (by exact (rfl : _ = I _ _))) ?_
        refine r_op rfl (o_mv (some 19) ⟨rfl, rfl⟩ rfl (by exact (rfl : _ = AV.p _))) ?_
        refine r_op rfl ((by first | exact o_lenN (some 20) ⟨rfl, rfl⟩ rfl rfl ty24 rfl | exact o_lenO (some 20) ⟨rfl, rfl⟩ rfl rfl rfl rfl ty24 | exact o_lenZ (some 20) ⟨rfl, rfl⟩ rfl rfl ty24 | exact o_lenP (some 20) ⟨rfl, rfl⟩ rfl rfl ty24 rfl)) ?_
        refine r_op rfl (o_lss (some 21) ⟨rfl, rfl⟩ rfl rfl rfl) ?_
        refine r_end ?_
        refine s_n ?_
        refine r_cond rfl (fun hc_1 => ?_) (fun hc_1 => ?_)
        · try simp only [decide_eq_true_eq, decide_eq_false_iff_not, Nat.not_lt, Nat.not_le, Bool.and_eq_true, Bool.or_eq_true, Bool.and_eq_false_iff, Bool.or_eq_false_iff, Bool.not_eq_true', Bool.not_eq_false', beq_iff_eq, beq_eq_false_iff_ne, ne_eq, Decidable.not_not] at hc_1
          refine r_reg ?_
          refine r_op rfl (o_mv (some 22) ⟨rfl, rfl⟩ rfl (by exact (rfl : _ = I _ _))) ?_
          refine r_op rfl (o_mv (some 23) ⟨rfl, rfl⟩ rfl (by exact (rfl : _ = I _ _))) ?_
          refine r_op rfl (o_mv (some 24) ⟨rfl, rfl⟩ rfl (by exact (rfl : _ = AV.p _))) ?_
          refine r_op rfl (o_mv (some 25) ⟨rfl, rfl⟩ rfl (by exact (rfl : _ = I _ _))) ?_
          refine r_op rfl (o_ixN (some 26) ⟨rfl, rfl⟩ rfl rfl rfl ty24 ty138 (by first | (simp only [lim]; omega) | omega | (simp only [List.length_set]; omega) | (simp at hb; omega))) ?_
          refine r_op rfl (o_ldc (some 27) ⟨rfl, rfl⟩ rfl rfl ty138 rfl) ?_
          refine r_op rfl (o_conv (some 28) ⟨rfl, rfl⟩ rfl rfl ty138 ty137 (by first | (simp only [lim]; omega) | omega | (simp only [List.length_set]; omega) | (simp at hb; omega))) ?_
          refine r_op rfl (o_mul (some 29) ⟨rfl, rfl⟩ rfl rfl rfl (by first | (simp only [lim]; omega) | omega | (simp only [List.length_set]; omega) | (simp at hb; omega))) ?_
          refine r_op rfl (o_add (some 30) ⟨rfl, rfl⟩ rfl rfl rfl (by first | (simp only [lim]; omega) | omega | (simp only [List.length_set]; omega) | (simp at hb; omega))) ?_
          refine r_op rfl (o_as (some 9) ⟨rfl, rfl⟩ rfl (by exact (rfl : _ = I _ _))) ?_
          refine r_end ?_
          refine s_n ?_
          repeat (first | exact Le.refl _ | exact Le.same rfl (congrArg (I _) (by rw [getD_ge (l := d9 v) (i := i) (by omega), Nat.mul_zero, Nat.add_zero])) | refine Le.drop ?_ rfl | refine Le.both ?_ rfl)
        · try simp only [decide_eq_true_eq, decide_eq_false_iff_not, Nat.not_lt, Nat.not_le, Bool.and_eq_true, Bool.or_eq_true, Bool.and_eq_false_iff, Bool.or_eq_false_iff, Bool.not_eq_true', Bool.not_eq_false', beq_iff_eq, beq_eq_false_iff_ne, ne_eq, Decidable.not_not] at hc_1
          refine r_skip ?_
          refine s_n ?_
          repeat (first | exact Le.refl _ | exact Le.same rfl (congrArg (I _) (by rw [getD_ge (l := d9 v) (i := i) (by omega), Nat.mul_zero, Nat.add_zero])) | refine Le.drop ?_ rfl | refine Le.both ?_ rfl)
      · refine r_seq ?_
        refine r_reg ?_
        refine r_op rfl (o_mv (some 31) ⟨rfl, rfl⟩ rfl (by exact (rfl : _ = I _ _))) ?_
        refine r_op rfl (o_quo (some 32) ⟨rfl, rfl⟩ rfl (by exact (rfl : _ = I _ 1000000000)) rfl (by first | (simp only [lim]; omega) | omega | (simp only [List.length_set]; omega) | (simp at hb; omega)) (by first | (simp only [lim]; omega) | omega | (simp only [List.length_set]; omega) | (simp at hb; omega))) ?_
        refine r_op rfl (o_as (some 7) ⟨rfl, rfl⟩ rfl (by exact (rfl : _ = I _ _))) ?_
        refine r_end ?_
        refine s_n ?_
        refine r_seq ?_
        refine r_reg ?_
        refine r_op rfl (o_mv (some 33) ⟨rfl, rfl⟩ rfl (by exact (rfl : _ = I _ _))) ?_
        refine r_op rfl (o_rem (some 34) ⟨rfl, rfl⟩ rfl (by exact (rfl : _ = I _ 1000000000)) rfl (by first | (simp only [lim]; omega) | omega | (simp only [List.length_set]; omega) | (simp at hb; omega))) ?_
        refine r_op rfl (o_conv (some 35) ⟨rfl, rfl⟩ rfl rfl ty137 ty138 (by first | (simp only [lim]; omega) | omega | (simp only [List.length_set]; omega) | (simp at hb; omega))) ?_
        refine r_op rfl (o_as (some 10) ⟨rfl, rfl⟩ rfl (by exact (rfl : _ = I _ _))) ?_
        refine r_end ?_
        refine s_n ?_
        refine r_seq ?_
        refine r_seq ?_
        refine r_reg ?_
        refine r_op rfl (o_mv (some 36) ⟨rfl, rfl⟩ rfl (by exact (rfl : _ = AV.own _ _ _ _ _))) ?_
        refine r_op rfl (o_mv (some 37) ⟨rfl, rfl⟩ rfl (by exact (rfl : _ = I _ _))) ?_
        refine r_op rfl (o_ixK (some 38) ⟨rfl, rfl⟩ rfl rfl rfl rfl rfl ty24 ty138 (by first | omega | (simp only [List.length_set]; omega))) ?_
        refine r_op rfl ((by first | exact o_ld1 (some 39) ⟨rfl, rfl⟩ rfl rfl rfl rfl ty138 rfl rfl | exact o_ldN (some 39) ⟨rfl, rfl⟩ rfl rfl rfl rfl ty138 rfl rfl (by first | (simp only [lim]; omega) | omega | (simp only [List.length_set]; omega) | (simp at hb; omega)) | exact o_ldc (some 39) ⟨rfl, rfl⟩ rfl rfl ty138 rfl)) ?_
        rw [winC_get h1.len (by omega)]
        refine r_op rfl (o_mv (some 40) ⟨rfl, rfl⟩ rfl (by exact (rfl : _ = I _ _))) ?_
        refine r_op rfl (o_lss (some 41) ⟨rfl, rfl⟩ rfl rfl rfl) ?_
        refine r_end ?_
        refine s_n ?_
        refine r_cond rfl (fun hc_2 => ?_) (fun hc_2 => ?_)
        · try simp only [decide_eq_true_eq, decide_eq_false_iff_not, Nat.not_lt, Nat.not_le, Bool.and_eq_true, Bool.or_eq_true, Bool.and_eq_false_iff, Bool.or_eq_false_iff, Bool.not_eq_true', Bool.not_eq_false', beq_iff_eq, beq_eq_false_iff_ne, ne_eq, Decidable.not_not] at hc_2
          refine r_seq ?_
          refine r_reg ?_
          refine r_op rfl (o_mv (some 42) ⟨rfl, rfl⟩ rfl (by exact (rfl : _ = AV.own _ _ _ _ _))) ?_
          refine r_op rfl (o_mv (some 43) ⟨rfl, rfl⟩ rfl (by exact (rfl : _ = I _ _))) ?_
          refine r_op rfl (o_ixK (some 44) ⟨rfl, rfl⟩ rfl rfl rfl rfl rfl ty24 ty138 (by first | omega | (simp only [List.length_set]; omega))) ?_
          refine r_op rfl ((by first | exact o_ld1 (some 45) ⟨rfl, rfl⟩ rfl rfl rfl rfl ty138 rfl rfl | exact o_ldN (some 45) ⟨rfl, rfl⟩ rfl rfl rfl rfl ty138 rfl rfl (by first | (simp only [lim]; omega) | omega | (simp only [List.length_set]; omega) | (simp at hb; omega)) | exact o_ldc (some 45) ⟨rfl, rfl⟩ rfl rfl ty138 rfl)) ?_
          rw [winC_get h1.len (by omega)]
          refine r_op rfl (o_add (some 46) ⟨rfl, rfl⟩ rfl (by exact (rfl : _ = I _ 1000000000)) rfl (by first | (simp only [lim]; omega) | omega | (simp only [List.length_set]; omega) | (simp at hb; omega))) ?_
          refine r_op rfl (o_ixK (some 47) ⟨rfl, rfl⟩ rfl rfl rfl rfl rfl ty24 ty138 (by first | omega | (simp only [List.length_set]; omega))) ?_
          refine r_op rfl ((by first | exact o_stN rfl rfl rfl rfl rfl rfl ty138 rfl rfl (by first | (simp only [lim]; omega) | omega | (simp only [List.length_set]; omega) | (simp at hb; omega)) | exact o_st1 rfl rfl rfl rfl rfl rfl ty138 rfl rfl (Nat.le_of_ble_eq_true rfl) rfl)) ?_
          refine r_end ?_
          refine s_n ?_
          refine r_reg ?_
          refine r_op rfl (o_mv (some 48) ⟨rfl, rfl⟩ rfl (by exact (rfl : _ = I _ _))) ?_
          refine r_op rfl (o_add (some 49) ⟨rfl, rfl⟩ rfl (by exact (rfl : _ = I _ 1)) rfl (by first | (simp only [lim]; omega) | omega | (simp only [List.length_set]; omega) | (simp at hb; omega))) ?_
          refine r_op rfl (o_as (some 7) ⟨rfl, rfl⟩ rfl (by exact (rfl : _ = I _ _))) ?_
          refine r_end ?_
          refine s_n ?_
          refine r_reg ?_
          refine r_op rfl (o_mv (some 50) ⟨rfl, rfl⟩ rfl (by exact (rfl : _ = AV.own _ _ _ _ _))) ?_
          refine r_op rfl (o_mv (some 51) ⟨rfl, rfl⟩ rfl (by exact (rfl : _ = I _ _))) ?_
          refine r_op rfl (o_ixK (some 52) ⟨rfl, rfl⟩ rfl rfl rfl rfl rfl ty24 ty138 (by first | omega | (simp only [List.length_set]; omega))) ?_
          refine r_op rfl ((by first | exact o_ld1 (some 53) ⟨rfl, rfl⟩ rfl rfl rfl rfl ty138 rfl rfl | exact o_ldN (some 53) ⟨rfl, rfl⟩ rfl rfl rfl rfl ty138 rfl rfl (by first | (simp only [lim]; omega) | omega | (simp only [List.length_set]; omega) | (simp at hb; omega)) | exact o_ldc (some 53) ⟨rfl, rfl⟩ rfl rfl ty138 rfl)) ?_
          first | rw [getD_set_self _ _ _ (by omega)] | rw [winC_get h1.len (by omega)]
          refine r_op rfl (o_mv (some 54) ⟨rfl, rfl⟩ rfl (by exact (rfl : _ = I _ _))) ?_
          refine r_op rfl (o_sub (some 55) ⟨rfl, rfl⟩ rfl rfl rfl (by first | (simp only [lim]; omega) | omega | (simp only [List.length_set]; omega) | (simp at hb; omega)) (by first | (simp only [lim]; omega) | omega | (simp only [List.length_set]; omega) | (simp at hb; omega))) ?_
          refine r_op rfl (o_ixK (some 56) ⟨rfl, rfl⟩ rfl rfl rfl rfl rfl ty24 ty138 (by first | omega | (simp only [List.length_set]; omega))) ?_
          refine r_op rfl ((by first | exact o_stN rfl rfl rfl rfl rfl rfl ty138 rfl rfl (by first | (simp only [lim]; omega) | omega | (simp only [List.length_set]; omega) | (simp at hb; omega)) | exact o_st1 rfl rfl rfl rfl rfl rfl ty138 rfl rfl (Nat.le_of_ble_eq_true rfl) rfl)) ?_
          refine r_end ?_
          refine b_n ?_
          refine s_n ?_
          refine r_reg ?_
          refine r_op rfl (o_add (some 57) ⟨rfl, rfl⟩ rfl (by exact (rfl : _ = I _ 1)) rfl (by first | (simp only [lim]; omega) | omega | (simp only [List.length_set]; omega) | (simp at hb; omega))) ?_
          refine r_op rfl (o_mv (some 14) ⟨rfl, rfl⟩ rfl (by exact (rfl : _ = I _ _))) ?_
          refine r_end ?_
          refine s_n ?_
          first | exact ⟨⟨i + 1, by omega⟩, by show _ - (i + 1) < _ - i; omega, gh_st id (tlc (td_own rfl rfl rfl) (tlc (td_p rfl rfl) (tlc (td_I rfl rfl) (tlc (td_I rfl (by rw [takeR_low hc_2])) (tlc (td_I rfl rfl) (tlc (td_I rfl rfl) tl0)))))) (hpc (hp_pin rfl rfl rfl rfl rfl rfl (by rw [takeR_low hc_2]; exact winC_step2 h1.len (by omega))) hp0) rfl⟩ | exact ⟨⟨i + 1, by omega⟩, by show _ - (i + 1) < _ - i; omega, gh_st id (tlc (td_own rfl rfl rfl) (tlc (td_p rfl rfl) (tlc (td_I rfl rfl) (tlc (td_I rfl (by rw [takeR_high hc_2])) (tlc (td_I rfl rfl) (tlc (td_I rfl rfl) tl0)))))) (hpc (hp_pin rfl rfl rfl rfl rfl rfl (by rw [takeR_high hc_2]; exact winC_step h1.len (by omega))) hp0) rfl⟩
        · try simp only [decide_eq_true_eq, decide_eq_false_iff_not, Nat.not_lt, Nat.not_le, Bool.and_eq_true, Bool.or_eq_true, Bool.and_eq_false_iff, Bool.or_eq_false_iff, Bool.not_eq_true', Bool.not_eq_false', beq_iff_eq, beq_eq_false_iff_ne, ne_eq, Decidable.not_not] at hc_2
          refine r_skip ?_
          refine s_n ?_
          refine r_reg ?_
          refine r_op rfl (o_mv (some 50) ⟨rfl, rfl⟩ rfl (by exact (rfl : _ = AV.own _ _ _ _ _))) ?_
          refine r_op rfl (o_mv (some 51) ⟨rfl, rfl⟩ rfl (by exact (rfl : _ = I _ _))) ?_
          refine r_op rfl (o_ixK (some 52) ⟨rfl, rfl⟩ rfl rfl rfl rfl rfl ty24 ty138 (by first | omega | (simp only [List.length_set]; omega))) ?_
          refine r_op rfl ((by first | exact o_ld1 (some 53) ⟨rfl, rfl⟩ rfl rfl rfl rfl ty138 rfl rfl | exact o_ldN (some 53) ⟨rfl, rfl⟩ rfl rfl rfl rfl ty138 rfl rfl (by first | (simp only [lim]; omega) | omega | (simp only [List.length_set]; omega) | (simp at hb; omega)) | exact o_ldc (some 53) ⟨rfl, rfl⟩ rfl rfl ty138 rfl)) ?_
          first | rw [getD_set_self _ _ _ (by omega)] | rw [winC_get h1.len (by omega)]
          refine r_op rfl (o_mv (some 54) ⟨rfl, rfl⟩ rfl (by exact (rfl : _ = I _ _))) ?_
          refine r_op rfl (o_sub (some 55) ⟨rfl, rfl⟩ rfl rfl rfl (by first | (simp only [lim]; omega) | omega | (simp only [List.length_set]; omega) | (simp at hb; omega)) (by first | (simp only [lim]; omega) | omega | (simp only [List.length_set]; omega) | (simp at hb; omega))) ?_
          refine r_op rfl (o_ixK (some 56) ⟨rfl, rfl⟩ rfl rfl rfl rfl rfl ty24 ty138 (by first | omega | (simp only [List.length_set]; omega))) ?_
          refine r_op rfl ((by first | exact o_stN rfl rfl rfl rfl rfl rfl ty138 rfl rfl (by first | (simp only [lim]; omega) | omega | (simp only [List.length_set]; omega) | (simp at hb; omega)) | exact o_st1 rfl rfl rfl rfl rfl rfl ty138 rfl rfl (Nat.le_of_ble_eq_true rfl) rfl)) ?_
          refine r_end ?_
          refine b_n ?_
          refine s_n ?_
          refine r_reg ?_
          refine r_op rfl (o_add (some 57) ⟨rfl, rfl⟩ rfl (by exact (rfl : _ = I _ 1)) rfl (by first | (simp only [lim]; omega) | omega | (simp only [List.length_set]; omega) | (simp at hb; omega))) ?_
          refine r_op rfl (o_mv (some 14) ⟨rfl, rfl⟩ rfl (by exact (rfl : _ = I _ _))) ?_
          refine r_end ?_
          refine s_n ?_
          first | exact ⟨⟨i + 1, by omega⟩, by show _ - (i + 1) < _ - i; omega, gh_st id (tlc (td_own rfl rfl rfl) (tlc (td_p rfl rfl) (tlc (td_I rfl rfl) (tlc (td_I rfl (by rw [takeR_low hc_2])) (tlc (td_I rfl rfl) (tlc (td_I rfl rfl) tl0)))))) (hpc (hp_pin rfl rfl rfl rfl rfl rfl (by rw [takeR_low hc_2]; exact winC_step2 h1.len (by omega))) hp0) rfl⟩ | exact ⟨⟨i + 1, by omega⟩, by show _ - (i + 1) < _ - i; omega, gh_st id (tlc (td_own rfl rfl rfl) (tlc (td_p rfl rfl) (tlc (td_I rfl rfl) (tlc (td_I rfl (by rw [takeR_high hc_2])) (tlc (td_I rfl rfl) (tlc (td_I rfl rfl) tl0)))))) (hpc (hp_pin rfl rfl rfl rfl rfl rfl (by rw [takeR_high hc_2]; exact winC_step h1.len (by omega))) hp0) rfl⟩
    · try simp only [decide_eq_true_eq, decide_eq_false_iff_not, Nat.not_lt, Nat.not_le, Bool.and_eq_true, Bool.or_eq_true, Bool.and_eq_false_iff, Bool.or_eq_false_iff, Bool.not_eq_true', Bool.not_eq_false', beq_iff_eq, beq_eq_false_iff_ne, ne_eq, Decidable.not_not] at hc
      refine r_exit ?_
      refine s_exit ?_
      refine s_exit ?_
      refine b_here ?_
      refine s_n ?_
      refine r_seq ?_
      refine r_reg ?_
      have hi : i = (d9 v).length + 1 := by omega
      subst hi
      refine r_op rfl (o_mv (some 58) ⟨rfl, rfl⟩ rfl (by exact (rfl : _ = I _ _))) ?_
      refine r_op rfl (o_gtr (some 59) ⟨rfl, rfl⟩ rfl (by exact (rfl : _ = I _ 0)) rfl) ?_
      refine r_op rfl (o_as (some 6) ⟨rfl, rfl⟩ rfl (by exact (rfl : _ = Bo _))) ?_
      refine r_end ?_
      refine s_n ?_
      refine r_ret ?_
      refine ⟨.inl rfl, ?_, _, rfl, rfl, rfl, rfl, rfl, (by exact (pvs_p _ _).symm)⟩
      refine ⟨[.v (.bool (decide (0 < (takeR 1000000000 (us.drop j) (d9 v) n ((d9 v).length + 1)).2)))], rfl, ?_⟩
      exact resL_cons (res_tmp (conv_p _)) (resL_nil)
end Vou
end

section
set_option linter.unusedVariables false
set_option linter.unusedSimpArgs false
namespace Vou
open Go Go.RowKit Go.Proofs.Tryz
theorem w_cmp (x y : Nat) (hx : (d9 x).length < 4611686018427387904) (hy : (d9 y).length < 4611686018427387904) : FnP prog 85 [nP x, nP y] (packP [.v (.int .i64 (cmpI x y))]) := by
  refine fnP_of (fn := f85) fn85 rfl (Nat.le_of_ble_eq_true rfl) ?_
  refine r_seq ?_
  refine r_reg ?_
  refine r_op rfl (o_box (some 3) ⟨rfl, rfl⟩ rfl 3 rfl rfl rfl rfl) ?_
  refine r_op rfl (o_alloc (some 4) ⟨rfl, rfl⟩ rfl 4 rfl rfl ty3 rfl rfl) ?_
  refine r_end ?_
  refine s_n ?_
  refine r_seq ?_
  refine r_seq ?_
  refine r_reg ?_
  refine r_op rfl (o_mv (some 7) ⟨rfl, rfl⟩ rfl (by first | exact (rfl : _ = I _ _) | exact (rfl : _ = AV.p _) | exact (rfl : _ = AV.ptr _ _) | exact (rfl : _ = AV.own _ _ _ _ _) | exact (rfl : _ = AV.agg _) | exact (rfl : _ = AV.fn _ _))) ?_
  refine r_op rfl ((by first | exact o_lenN (some 8) ⟨rfl, rfl⟩ rfl rfl ty24 rfl | exact o_lenO (some 8) ⟨rfl, rfl⟩ rfl rfl rfl rfl ty24 | exact o_lenZ (some 8) ⟨rfl, rfl⟩ rfl rfl ty24 | exact o_lenP (some 8) ⟨rfl, rfl⟩ rfl rfl ty24 rfl)) ?_
  refine r_op rfl (o_ld1 (some 9) ⟨rfl, rfl⟩ rfl rfl rfl rfl ty24 rfl rfl) ?_
  refine r_op rfl ((by first | exact o_lenN (some 10) ⟨rfl, rfl⟩ rfl rfl ty24 rfl | exact o_lenO (some 10) ⟨rfl, rfl⟩ rfl rfl rfl rfl ty24 | exact o_lenZ (some 10) ⟨rfl, rfl⟩ rfl rfl ty24 | exact o_lenP (some 10) ⟨rfl, rfl⟩ rfl rfl ty24 rfl)) ?_
  refine r_op rfl (o_neq (some 11) ⟨rfl, rfl⟩ rfl rfl rfl) ?_
  refine r_end ?_
  refine s_n ?_
  refine r_cond rfl (fun hc => ?_) (fun hc => ?_)
  · try simp only [decide_eq_true_eq, decide_eq_false_iff_not, Nat.not_lt, Nat.not_le, Bool.and_eq_true, Bool.or_eq_true, Bool.and_eq_false_iff, Bool.or_eq_false_iff, Bool.not_eq_true', Bool.not_eq_false', beq_iff_eq, beq_eq_false_iff_ne, ne_eq, Decidable.not_not] at hc
    refine r_seq ?_
    refine r_seq ?_
    refine r_reg ?_
    refine r_op rfl (o_mv (some 12) ⟨rfl, rfl⟩ rfl (by first | exact (rfl : _ = I _ _) | exact (rfl : _ = AV.p _) | exact (rfl : _ = AV.ptr _ _) | exact (rfl : _ = AV.own _ _ _ _ _) | exact (rfl : _ = AV.agg _) | exact (rfl : _ = AV.fn _ _))) ?_
    refine r_op rfl ((by first | exact o_lenN (some 13) ⟨rfl, rfl⟩ rfl rfl ty24 rfl | exact o_lenO (some 13) ⟨rfl, rfl⟩ rfl rfl rfl rfl ty24 | exact o_lenZ (some 13) ⟨rfl, rfl⟩ rfl rfl ty24 | exact o_lenP (some 13) ⟨rfl, rfl⟩ rfl rfl ty24 rfl)) ?_
    refine r_op rfl (o_ld1 (some 14) ⟨rfl, rfl⟩ rfl rfl rfl rfl ty24 rfl rfl) ?_
    refine r_op rfl ((by first | exact o_lenN (some 15) ⟨rfl, rfl⟩ rfl rfl ty24 rfl | exact o_lenO (some 15) ⟨rfl, rfl⟩ rfl rfl rfl rfl ty24 | exact o_lenZ (some 15) ⟨rfl, rfl⟩ rfl rfl ty24 | exact o_lenP (some 15) ⟨rfl, rfl⟩ rfl rfl ty24 rfl)) ?_
    refine r_op rfl (o_lss (some 16) ⟨rfl, rfl⟩ rfl rfl rfl) ?_
    refine r_end ?_
    refine s_n ?_
    refine r_cond rfl (fun hc_1 => ?_) (fun hc_1 => ?_)
    · try simp only [decide_eq_true_eq, decide_eq_false_iff_not, Nat.not_lt, Nat.not_le, Bool.and_eq_true, Bool.or_eq_true, Bool.and_eq_false_iff, Bool.or_eq_false_iff, Bool.not_eq_true', Bool.not_eq_false', beq_iff_eq, beq_eq_false_iff_ne, ne_eq, Decidable.not_not] at hc_1
      refine r_seq ?_
      refine r_reg ?_
      refine r_op rfl ((by first | exact o_stN rfl rfl rfl rfl rfl rfl ty3 rfl rfl (by first | (simp only [lim]; omega) | omega | (simp only [List.length_set]; omega) | (simp at hb; omega)) | exact o_st1 rfl rfl rfl rfl rfl rfl ty3 rfl rfl (Nat.le_of_ble_eq_true rfl) rfl)) ?_
      refine r_end ?_
      refine s_n ?_
      refine r_ret ?_
      refine s_ret ?_
      refine s_ret ?_
      refine ⟨.inl rfl, [.v (.int .i64 (cmpI x y))], rfl, ?_⟩
      exact resL_cons (res_cell1 rfl rfl rfl ty3 rfl rfl (by rw [cmpI_lt (d9_lt_len (by omega))]; exact conv_p _)) (resL_nil)
    · try simp only [decide_eq_true_eq, decide_eq_false_iff_not, Nat.not_lt, Nat.not_le, Bool.and_eq_true, Bool.or_eq_true, Bool.and_eq_false_iff, Bool.or_eq_false_iff, Bool.not_eq_true', Bool.not_eq_false', beq_iff_eq, beq_eq_false_iff_ne, ne_eq, Decidable.not_not] at hc_1
      refine r_skip ?_
      refine s_n ?_
      refine r_seq ?_
      refine r_reg ?_
      refine r_op rfl ((by first | exact o_stN rfl rfl rfl rfl rfl rfl ty3 (by exact (rfl : _ = I _ 1)) rfl (by first | (simp only [lim]; omega) | omega | (simp only [List.length_set]; omega) | (simp at hb; omega)) | exact o_st1 rfl rfl rfl rfl rfl rfl ty3 (by exact (congrArg AV.cells (by exact (rfl : _ = I _ 1))).trans rfl) rfl (Nat.le_of_ble_eq_true rfl) rfl)) ?_
      refine r_end ?_
      refine s_n ?_
      refine r_ret ?_
      refine s_ret ?_
      refine ⟨.inl rfl, [.v (.int .i64 (cmpI x y))], rfl, ?_⟩
      exact resL_cons (res_cell1 rfl rfl rfl ty3 rfl rfl (by rw [cmpI_gt (d9_lt_len (by omega))]; exact conv_p _)) (resL_nil)
  · try simp only [decide_eq_true_eq, decide_eq_false_iff_not, Nat.not_lt, Nat.not_le, Bool.and_eq_true, Bool.or_eq_true, Bool.and_eq_false_iff, Bool.or_eq_false_iff, Bool.not_eq_true', Bool.not_eq_false', beq_iff_eq, beq_eq_false_iff_ne, ne_eq, Decidable.not_not] at hc
    refine r_skip ?_
    refine s_n ?_
    refine r_seq ?_
    refine r_seq ?_
    refine r_reg ?_
    refine r_op rfl (o_mv (some 17) ⟨rfl, rfl⟩ rfl (by first | exact (rfl : _ = I _ _) | exact (rfl : _ = AV.p _) | exact (rfl : _ = AV.ptr _ _) | exact (rfl : _ = AV.own _ _ _ _ _) | exact (rfl : _ = AV.agg _) | exact (rfl : _ = AV.fn _ _))) ?_
    refine r_op rfl (o_callB (some 18) ⟨rfl, rfl⟩ tx120 box120 rfl rfl 18 rfl rfl rfl) ?_
    refine r_end ?_
    refine s_n ?_
    refine r_block ?_
    refine r_ghc (σ' := stL ((18, .fn 145 [.ptr 18 0]) :: [(0, .p (nP x)), (1, .p (nP y)), (3, .ptr 3 0), (4, .ptr 4 0)]) ((18, { cells := [.p (slP .u32 (d9 x))], ty := 24 }) :: [(3, { cells := [.p (nP y)], ty := 24 }), (4, { cells := [I .i64 0], ty := 3 })])) ?_ (gh_st id (tlc (td_fn rfl rfl) (tlc (td_p rfl rfl) (tlc (td_p rfl rfl) (tlc (td_ptr rfl rfl) (tlc (td_ptr rfl rfl) tl0))))) (hpc (hp_c rfl rfl rfl rfl rfl ⟨trivial, trivial⟩) (hpc (hp_c rfl rfl rfl rfl rfl ⟨trivial, trivial⟩) (hpc (hp_c rfl rfl rfl rfl rfl ⟨trivial, trivial⟩) hp0))) rfl)
    refine r_range backSeq tx145 (fun s_ : Unit => [(3, { cells := [.p (nP y)], ty := 24 }), (4, { cells := [I .i64 0], ty := 3 })]) (fun r_ : Bool => [(3, { cells := [.p (nP y)], ty := 24 }), (4, { cells := [.p (.v (.int .i64 (if r_ then -1 else 1)))], ty := 3 })]) (fun _ _ => True) (fun k _ => (d9 x).drop ((d9 x).length - k) = (d9 y).drop ((d9 x).length - k)) (fun _ r => if r then x < y else y < x) (()) (d9 x) rfl rfl rfl rfl rfl rfl rfl rfl (hh_of (hhc ⟨trivial, trivial⟩ (hhc ⟨trivial, trivial⟩ hh0))) (lh_of (lhc rfl trivial (lhc rfl trivial (lhc rfl rfl (lhc rfl rfl lh0))))) (trivial) (by rw [Nat.sub_zero, List.drop_of_length_le (Nat.le_refl _), List.drop_of_length_le (by omega)]) (fun l_ k_ s_ i hSh hk hi => ?_) (fun s_ hSh hEx => ?_) (fun k_ r_ hk hExR => ?_)
    · have hlen : (d9 x).length = (d9 y).length := by omega
      have g1 := lim9 x i
      have g2 := lim9 y i
      refine i_block ?_
      refine i_block ?_
      refine i_seq ?_
      refine i_reg rfl ?_
      refine r_op rfl (o_mv (some 22) ⟨rfl, rfl⟩ rfl (by exact (rfl : _ = I _ _))) ?_
      refine r_op rfl (o_ld1 (some 23) ⟨rfl, rfl⟩ rfl rfl rfl rfl ty24 rfl rfl) ?_
      refine r_op rfl (o_mv (some 24) ⟨rfl, rfl⟩ rfl (by exact (rfl : _ = I _ _))) ?_
      refine r_op rfl ((by first | exact o_ixN (some 25) ⟨rfl, rfl⟩ rfl rfl rfl ty24 ty138 (by first | (simp only [lim]; omega) | omega | (simp only [List.length_set]; omega) | (simp at hb; omega)) | exact o_ixM (some 25) ⟨rfl, rfl⟩ rfl rfl rfl rfl rfl ty24 ty138 (by first | (simp only [lim]; omega) | omega | (simp only [List.length_set]; omega) | (simp at hb; omega)))) ?_
      refine r_op rfl ((by first | exact o_ld1 (some 26) ⟨rfl, rfl⟩ rfl rfl rfl rfl ty138 rfl rfl | exact o_ldN (some 26) ⟨rfl, rfl⟩ rfl rfl rfl rfl ty138 rfl rfl (by first | (simp only [lim]; omega) | omega | (simp only [List.length_set]; omega) | (simp at hb; omega)) | exact o_ldc (some 26) ⟨rfl, rfl⟩ rfl rfl ty138 rfl)) ?_
      refine r_op rfl (o_lss (some 27) ⟨rfl, rfl⟩ rfl rfl rfl) ?_
      refine r_op rfl (o_as (some 21) ⟨rfl, rfl⟩ rfl (by exact (rfl : _ = Bo _))) ?_
      refine r_end ?_
      refine s_n ?_
      refine i_cond rfl (fun hc_2 => ?_) (fun hc_2 => ?_)
      · try simp only [decide_eq_true_eq, decide_eq_false_iff_not, Nat.not_lt, Nat.not_le, Bool.and_eq_true, Bool.or_eq_true, Bool.and_eq_false_iff, Bool.or_eq_false_iff, Bool.not_eq_true', Bool.not_eq_false', beq_iff_eq, beq_eq_false_iff_ne, ne_eq, Decidable.not_not] at hc_2
        refine i_seq ?_
        refine i_reg rfl ?_
        refine r_op rfl ((by first | exact o_stN rfl rfl rfl rfl rfl rfl ty3 rfl rfl (by first | (simp only [lim]; omega) | omega | (simp only [List.length_set]; omega) | (simp at hb; omega)) | exact o_st1 rfl rfl rfl rfl rfl rfl ty3 rfl rfl (Nat.le_of_ble_eq_true rfl) rfl)) ?_
        refine r_end ?_
        refine s_n ?_
        refine i_ret ?_
        refine b_ret ?_
        refine b_ret ?_
        first | exact .inr ⟨rfl, true, fun h1 h2 => d9_lt_top (by omega) (by omega) (by have e : i + 1 = (d9 x).length - k_ := (by omega); rw [e]; exact h1) hc_2, (outB_of (by simp only [List.map_cons, List.map_nil]) (occ (op_c rfl rfl rfl rfl rfl rfl rfl (by simp) ⟨trivial, trivial⟩) (occ (op_c rfl rfl rfl rfl rfl rfl rfl (by simp) ⟨trivial, trivial⟩) oc0)))⟩ | exact .inr ⟨rfl, false, fun h1 h2 => d9_lt_top (by omega) (by omega) (by have e : i + 1 = (d9 x).length - k_ := (by omega); rw [e]; exact Eq.symm h1) hc_3, (outB_of (by simp only [List.map_cons, List.map_nil]) (occ (op_c rfl rfl rfl rfl rfl rfl rfl (by simp) ⟨trivial, trivial⟩) (occ (op_c rfl rfl rfl rfl rfl rfl rfl (by simp) ⟨trivial, trivial⟩) oc0)))⟩
      · try simp only [decide_eq_true_eq, decide_eq_false_iff_not, Nat.not_lt, Nat.not_le, Bool.and_eq_true, Bool.or_eq_true, Bool.and_eq_false_iff, Bool.or_eq_false_iff, Bool.not_eq_true', Bool.not_eq_false', beq_iff_eq, beq_eq_false_iff_ne, ne_eq, Decidable.not_not] at hc_2
        refine i_seq ?_
        refine i_reg rfl ?_
        refine r_op rfl (o_mv (some 29) ⟨rfl, rfl⟩ rfl (by exact (rfl : _ = I _ _))) ?_
        refine r_op rfl (o_ld1 (some 30) ⟨rfl, rfl⟩ rfl rfl rfl rfl ty24 rfl rfl) ?_
        refine r_op rfl (o_mv (some 31) ⟨rfl, rfl⟩ rfl (by exact (rfl : _ = I _ _))) ?_
        refine r_op rfl ((by first | exact o_ixN (some 32) ⟨rfl, rfl⟩ rfl rfl rfl ty24 ty138 (by first | (simp only [lim]; omega) | omega | (simp only [List.length_set]; omega) | (simp at hb; omega)) | exact o_ixM (some 32) ⟨rfl, rfl⟩ rfl rfl rfl rfl rfl ty24 ty138 (by first | (simp only [lim]; omega) | omega | (simp only [List.length_set]; omega) | (simp at hb; omega)))) ?_
        refine r_op rfl ((by first | exact o_ld1 (some 33) ⟨rfl, rfl⟩ rfl rfl rfl rfl ty138 rfl rfl | exact o_ldN (some 33) ⟨rfl, rfl⟩ rfl rfl rfl rfl ty138 rfl rfl (by first | (simp only [lim]; omega) | omega | (simp only [List.length_set]; omega) | (simp at hb; omega)) | exact o_ldc (some 33) ⟨rfl, rfl⟩ rfl rfl ty138 rfl)) ?_
        refine r_op rfl (o_gtr (some 34) ⟨rfl, rfl⟩ rfl rfl rfl) ?_
        refine r_op rfl (o_as (some 28) ⟨rfl, rfl⟩ rfl (by exact (rfl : _ = Bo _))) ?_
        refine r_end ?_
        refine s_n ?_
        refine i_cond rfl (fun hc_3 => ?_) (fun hc_3 => ?_)
        · try simp only [decide_eq_true_eq, decide_eq_false_iff_not, Nat.not_lt, Nat.not_le, Bool.and_eq_true, Bool.or_eq_true, Bool.and_eq_false_iff, Bool.or_eq_false_iff, Bool.not_eq_true', Bool.not_eq_false', beq_iff_eq, beq_eq_false_iff_ne, ne_eq, Decidable.not_not] at hc_3
          refine i_seq ?_
          refine i_reg rfl ?_
          refine r_op rfl ((by first | exact o_stN rfl rfl rfl rfl rfl rfl ty3 (by exact (rfl : _ = I _ 1)) rfl (by first | (simp only [lim]; omega) | omega | (simp only [List.length_set]; omega) | (simp at hb; omega)) | exact o_st1 rfl rfl rfl rfl rfl rfl ty3 (by exact (congrArg AV.cells (by exact (rfl : _ = I _ 1))).trans rfl) rfl (Nat.le_of_ble_eq_true rfl) rfl)) ?_
          refine r_end ?_
          refine s_n ?_
          refine i_ret ?_
          refine b_ret ?_
          refine b_ret ?_
          first | exact .inr ⟨rfl, true, fun h1 h2 => d9_lt_top (by omega) (by omega) (by have e : i + 1 = (d9 x).length - k_ := (by omega); rw [e]; exact h1) hc_2, (outB_of (by simp only [List.map_cons, List.map_nil]) (occ (op_c rfl rfl rfl rfl rfl rfl rfl (by simp) ⟨trivial, trivial⟩) (occ (op_c rfl rfl rfl rfl rfl rfl rfl (by simp) ⟨trivial, trivial⟩) oc0)))⟩ | exact .inr ⟨rfl, false, fun h1 h2 => d9_lt_top (by omega) (by omega) (by have e : i + 1 = (d9 x).length - k_ := (by omega); rw [e]; exact Eq.symm h1) hc_3, (outB_of (by simp only [List.map_cons, List.map_nil]) (occ (op_c rfl rfl rfl rfl rfl rfl rfl (by simp) ⟨trivial, trivial⟩) (occ (op_c rfl rfl rfl rfl rfl rfl rfl (by simp) ⟨trivial, trivial⟩) oc0)))⟩
        · try simp only [decide_eq_true_eq, decide_eq_false_iff_not, Nat.not_lt, Nat.not_le, Bool.and_eq_true, Bool.or_eq_true, Bool.and_eq_false_iff, Bool.or_eq_false_iff, Bool.not_eq_true', Bool.not_eq_false', beq_iff_eq, beq_eq_false_iff_ne, ne_eq, Decidable.not_not] at hc_3
          refine i_skip ?_
          refine b_n ?_
          refine b_n ?_
          refine .inl ⟨rfl, (), trivial, fun h1 h2 => ?_, (outB_of (by simp only [List.map_cons, List.map_nil]) (occ (op_c rfl rfl rfl rfl rfl rfl rfl (by simp) ⟨trivial, trivial⟩) (occ (op_c rfl rfl rfl rfl rfl rfl rfl (by simp) ⟨trivial, trivial⟩) oc0)))⟩
          have e : (d9 x).length - k_ = i + 1 := by omega
          have e2 : (d9 x).length - (k_ + 1) = i := by omega
          rw [e] at h1
          rw [e2]
          exact drop_step i (by omega) (by omega) h1 (by omega)
    · have hEx : (d9 x).drop ((d9 x).length - (d9 x).length) = (d9 y).drop ((d9 x).length - (d9 x).length) := hEx
      have hxy : x = y := d9_inj (by simpa using hEx)
      refine b_n ?_
      refine s_n ?_
      refine r_seq ?_
      refine r_reg ?_
      refine r_op rfl ((by first | exact o_stN rfl rfl rfl rfl rfl rfl ty3 (by exact (rfl : _ = I _ 0)) rfl (by first | (simp only [lim]; omega) | omega | (simp only [List.length_set]; omega) | (simp at hb; omega)) | exact o_st1 rfl rfl rfl rfl rfl rfl ty3 (by exact (congrArg AV.cells (by exact (rfl : _ = I _ 0))).trans rfl) rfl (Nat.le_of_ble_eq_true rfl) rfl)) ?_
      refine r_end ?_
      refine s_n ?_
      refine r_ret ?_
      refine ⟨.inl rfl, [.v (.int .i64 (cmpI x y))], rfl, ?_⟩
      exact resL_cons (res_cell1 rfl rfl rfl ty3 rfl rfl (by rw [cmpI_eq hxy]; exact conv_p _)) (resL_nil)
    · refine b_ret ?_
      refine s_ret ?_
      have hR : cmpI x y = if r_ then -1 else 1 := by
        cases r_
        · exact cmpI_gt (by simpa using hExR)
        · exact cmpI_lt (by simpa using hExR)
      refine ⟨.inl rfl, [.v (.int .i64 (cmpI x y))], rfl, ?_⟩
      exact resL_cons (res_cell1 rfl rfl rfl ty3 rfl rfl (by rw [hR]; exact conv_p _)) (resL_nil)

theorem w_short (x y : Nat) (hy : 0 < y) (hy2 : y < 4294967296) (hx : (d9 x).length < 1099511627776) : FnP prog 131 [nP x, .v (.int .u32 (y : Nat))] (packP [nP (x / y), .v (.int .u32 ((x % y : Nat) : Int))]) := by
  refine fnP_of (fn := f131) fn131 rfl (Nat.le_of_ble_eq_true rfl) ?_
  refine r_seq ?_
  refine r_reg ?_
  refine r_op rfl (o_box (some 3) ⟨rfl, rfl⟩ rfl 3 rfl rfl rfl rfl) ?_
  refine r_op rfl (o_as (some 4) ⟨rfl, rfl⟩ rfl (by exact (rfl : _ = AV.p _))) ?_
  refine r_op rfl (o_as (some 5) ⟨rfl, rfl⟩ rfl (by exact (rfl : _ = I _ 0))) ?_
  refine r_end ?_
  refine s_n ?_
  refine r_seq ?_
  refine r_reg ?_
  refine r_op rfl (o_mv (some 10) ⟨rfl, rfl⟩ rfl (by first | exact (rfl : _ = I _ _) | exact (rfl : _ = AV.p _) | exact (rfl : _ = AV.ptr _ _) | exact (rfl : _ = AV.own _ _ _ _ _) | exact (rfl : _ = AV.agg _) | exact (rfl : _ = AV.fn _ _))) ?_
  refine r_op rfl ((by first | exact o_lenN (some 11) ⟨rfl, rfl⟩ rfl rfl ty24 rfl | exact o_lenO (some 11) ⟨rfl, rfl⟩ rfl rfl rfl rfl ty24 | exact o_lenZ (some 11) ⟨rfl, rfl⟩ rfl rfl ty24 | exact o_lenP (some 11) ⟨rfl, rfl⟩ rfl rfl ty24 rfl)) ?_
  refine r_op rfl (o_mkN (some 12) ⟨rfl, rfl⟩ rfl rfl rfl 12 rfl rfl ty24 ty138 (by first | (simp only [lim]; omega) | omega | (simp only [List.length_set]; omega) | (simp at hb; omega)) rfl) ?_
  refine r_op rfl (o_alloc (some 6) ⟨rfl, rfl⟩ rfl 6 rfl rfl ty24 rfl rfl) ?_
  refine r_op rfl (o_st1 rfl rfl rfl rfl rfl rfl ty24 rfl rfl (Nat.le_of_ble_eq_true rfl) rfl) ?_
  refine r_end ?_
  refine s_n ?_
  refine r_seq ?_
  refine r_reg ?_
  refine r_op rfl (o_alloc (some 7) ⟨rfl, rfl⟩ rfl 7 rfl rfl ty137 rfl rfl) ?_
  refine r_op rfl ((by first | exact o_stN rfl rfl rfl rfl rfl rfl ty137 (by exact (rfl : _ = I _ 0)) rfl (by first | (simp only [lim]; omega) | omega | (simp only [List.length_set]; omega) | (simp at hb; omega)) | exact o_st1 rfl rfl rfl rfl rfl rfl ty137 (by exact (congrArg AV.cells (by exact (rfl : _ = I _ 0))).trans rfl) rfl (Nat.le_of_ble_eq_true rfl) rfl)) ?_
  refine r_end ?_
  refine s_n ?_
  refine r_seq ?_
  refine r_seq ?_
  refine r_reg ?_
  refine r_op rfl (o_mv (some 13) ⟨rfl, rfl⟩ rfl (by first | exact (rfl : _ = I _ _) | exact (rfl : _ = AV.p _) | exact (rfl : _ = AV.ptr _ _) | exact (rfl : _ = AV.own _ _ _ _ _) | exact (rfl : _ = AV.agg _) | exact (rfl : _ = AV.fn _ _))) ?_
  refine r_op rfl (o_callB (some 14) ⟨rfl, rfl⟩ tx120 box120 rfl rfl 14 rfl rfl rfl) ?_
  refine r_end ?_
  refine s_n ?_
  refine r_block ?_
  refine r_ghc (σ' := stL ((14, .fn 145 [.ptr 14 0]) :: [(0, .p (nP x)), (1, I .u32 (y)), (3, .ptr 3 0), (6, .ptr 6 0), (7, .ptr 7 0)]) ((14, { cells := [.p (slP .u32 (d9 x))], ty := 24 }) :: [(3, { cells := [I .u32 y], ty := 138 }), (6, { cells := [.own true 1 12 0 (d9 x).length], ty := 24 }), (7, { cells := [I .u64 0], ty := 137 }), (12, { cells := nums .u32 (List.replicate (d9 x).length 0), ty := 138 })])) ?_ (gh_st id (tlc (td_fn rfl rfl) (tlc (td_p rfl rfl) (tlc (td_I rfl rfl) (tlc (td_ptr rfl rfl) (tlc (td_ptr rfl rfl) (tlc (td_ptr rfl rfl) tl0)))))) (hpc (hp_c rfl rfl rfl rfl rfl ⟨trivial, trivial⟩) (hpc (hp_c rfl rfl rfl rfl rfl ⟨trivial, trivial⟩) (hpc (hp_c rfl rfl rfl rfl rfl ⟨rfl, trivial⟩) (hpc (hp_c rfl rfl rfl rfl rfl ⟨trivial, trivial⟩) (hpc (hp_nums rfl rfl rfl rfl rfl rfl) hp0))))) rfl)
  refine r_range backSeq tx145 (fun s_ : List Nat × Nat => [(3, { cells := [I .u32 y], ty := 138 }), (6, { cells := [.own true 1 12 0 (d9 x).length], ty := 24 }), (7, { cells := [I .u64 s_.2], ty := 137 }), (12, { cells := nums .u32 (s_.1), ty := 138 })]) (fun r_ : Unit => [(3, { cells := [I .u32 y], ty := 138 }), (6, { cells := [.own true 1 12 0 (d9 x).length], ty := 24 }), (7, { cells := [I .u64 0], ty := 137 }), (12, { cells := nums .u32 (List.replicate (d9 x).length 0), ty := 138 })]) (fun _ s => s.1.length = (d9 x).length ∧ s.2 < y) (fun k s => ShortInv 1000000000 (d9 x) y ((d9 x).length - k) s.1 s.2) (fun _ _ => False) ((List.replicate (d9 x).length 0, 0)) (d9 x) rfl rfl rfl rfl rfl rfl rfl rfl (hh_of (hhc ⟨trivial, trivial⟩ (hhc ⟨rfl, trivial⟩ (hhc ⟨trivial, trivial⟩ (hhn hh0))))) (lh_of (lhc rfl trivial (lhc rfl trivial (lhc rfl rfl (lhc rfl rfl (lhc rfl rfl lh0)))))) (⟨by simp, hy⟩) (by rw [Nat.sub_zero]; exact ShortInv.start (by omega) _ hy) (fun l_ k_ s_ i hSh hk hi => ?_) (fun s_ hSh hEx => ?_) (fun k_ r_ hk hExR => ?_)
  · have g1 := lim9 x i
    obtain ⟨q, r⟩ := s_
    obtain ⟨h1, h2⟩ := hSh
    simp only at h1 h2
    change Ti _ _ _ _ (stR ((9, I .u32 ((d9 x).getD i 0)) :: (8, I .i64 i) :: (16, I .u32 ((d9 x).getD i 0)) :: (15, I .i64 i) :: [(0, .p (nP x)), (1, I .u32 (y)), (3, .ptr 3 0), (6, .ptr 6 0), (7, .ptr 7 0)]) [(3, { cells := [I .u32 y], ty := 138 }), (6, { cells := [.own true 1 12 0 (d9 x).length], ty := 24 }), (7, { cells := [I .u64 r], ty := 137 }), (12, { cells := nums .u32 (q), ty := 138 })]) _
    refine i_block ?_
    refine i_seq ?_
    refine i_reg rfl ?_
    refine r_op rfl ((by first | exact o_ld1 (some 17) ⟨rfl, rfl⟩ rfl rfl rfl rfl ty137 rfl rfl | exact o_ldN (some 17) ⟨rfl, rfl⟩ rfl rfl rfl rfl ty137 rfl rfl (by first | (simp only [lim]; omega) | omega | (simp only [List.length_set]; omega) | (simp at hb; omega)))) ?_
    refine r_op rfl (o_mul (some 18) ⟨rfl, rfl⟩ rfl (by exact (rfl : _ = I _ 1000000000)) rfl (by first | (simp only [lim]; omega) | omega | (simp only [List.length_set]; omega) | (simp at hb; omega))) ?_
    refine r_op rfl (o_mv (some 19) ⟨rfl, rfl⟩ rfl (by exact (rfl : _ = I _ _))) ?_
    refine r_op rfl (o_conv (some 20) ⟨rfl, rfl⟩ rfl rfl ty138 ty137 (by first | (simp only [lim]; omega) | omega | (simp only [List.length_set]; omega) | (simp at hb; omega))) ?_
    refine r_op rfl (o_add (some 21) ⟨rfl, rfl⟩ rfl rfl rfl (by first | (simp only [lim]; omega) | omega | (simp only [List.length_set]; omega) | (simp at hb; omega))) ?_
    refine r_op rfl (o_st1 rfl rfl rfl rfl rfl rfl ty137 rfl rfl (Nat.le_of_ble_eq_true rfl) rfl) ?_
    refine r_end ?_
    refine s_n ?_
    refine i_seq ?_
    refine i_drawn rfl mixed ?_
    refine d_op [6] [3, 6, 7] rfl rfl (fun s hs => o_ld1 (some 22) ⟨rfl, rfl⟩ rfl (by exact (hs.1 6 rfl).trans (rfl)) (by exact (hs.2.1 _ rfl).trans rfl) rfl ty24 rfl rfl) ?_
    refine d_op [8] [] rfl rfl (fun s hs => o_mv (some 23) ⟨rfl, rfl⟩ rfl (by exact ((hs.1 8 rfl).trans (rfl) : _ = I _ _))) ?_
    refine d_op [7] [3, 6, 7] rfl rfl (fun s hs => (by first | exact o_ld1 (some 24) ⟨rfl, rfl⟩ rfl (by exact (hs.1 7 rfl).trans (rfl)) (by exact (hs.2.1 _ rfl).trans rfl) rfl ty137 rfl rfl | exact o_ldN (some 24) ⟨rfl, rfl⟩ rfl (by exact (hs.1 7 rfl).trans (rfl)) (by exact (hs.2.1 _ rfl).trans rfl) rfl ty137 rfl rfl (by first | (simp only [lim]; omega) | omega | (simp only [List.length_set]; omega) | (simp at hb; omega)))) ?_
    refine d_op [3] [3, 6, 7] rfl rfl (fun s hs => (by first | exact o_ld1 (some 25) ⟨rfl, rfl⟩ rfl (by exact (hs.1 3 rfl).trans (rfl)) (by exact (hs.2.1 _ rfl).trans rfl) rfl ty138 rfl rfl | exact o_ldN (some 25) ⟨rfl, rfl⟩ rfl (by exact (hs.1 3 rfl).trans (rfl)) (by exact (hs.2.1 _ rfl).trans rfl) rfl ty138 rfl rfl (by first | (simp only [lim]; omega) | omega | (simp only [List.length_set]; omega) | (simp at hb; omega)))) ?_
    refine d_op [25] [] rfl rfl (fun s hs => o_conv (some 26) ⟨rfl, rfl⟩ rfl (by exact (hs.1 25 rfl).trans (rfl)) ty138 ty137 (by first | (simp only [lim]; omega) | omega | (simp only [List.length_set]; omega) | (simp at hb; omega))) ?_
    refine d_op [24, 26] [] rfl rfl (fun s hs => o_quo (some 27) ⟨rfl, rfl⟩ (by exact (hs.1 24 rfl).trans (rfl)) (by exact (hs.1 26 rfl).trans (rfl)) rfl (by first | (simp only [lim]; omega) | omega | (simp only [List.length_set]; omega) | (simp at hb; omega)) (by first | (simp only [lim]; omega) | omega | (simp only [List.length_set]; omega) | (simp at hb; omega))) ?_
    refine d_op [27] [] rfl rfl (fun s hs => o_conv (some 28) ⟨rfl, rfl⟩ rfl (by exact (hs.1 27 rfl).trans (rfl)) ty137 ty138 (by exact short_q h2 g1)) ?_
    refine d_op [22, 23] [3, 6, 7, 12] rfl rfl (fun s hs => o_ixM (some 29) ⟨rfl, rfl⟩ rfl (by exact (hs.1 22 rfl).trans (rfl)) (by exact (hs.2.1 _ rfl).trans rfl) rfl (by exact (hs.1 23 rfl).trans (rfl)) ty24 ty138 (by omega)) ?_
    refine d_st [28, 29] [3, 6, 7, 12] rfl rfl (fun s hs => (by first | exact o_stN rfl rfl (by exact (hs.1 29 rfl).trans (rfl)) (by exact (hs.2.1 _ rfl).trans rfl) rfl rfl ty138 (by exact (hs.1 28 rfl).trans (rfl)) rfl (by first | (simp only [lim]; omega) | omega | (simp only [List.length_set]; omega) | (simp at hb; omega)) | exact o_st1 rfl rfl (by exact (hs.1 29 rfl).trans (rfl)) (by exact (hs.2.1 _ rfl).trans rfl) rfl rfl ty138 (by exact (congrArg AV.cells (by exact (hs.1 28 rfl).trans (rfl))).trans rfl) rfl (Nat.le_of_ble_eq_true rfl) rfl)) ?_
    refine d_end ⟨rfl, ?_⟩
    refine s_n ?_
    refine i_reg rfl ?_
    refine r_op rfl ((by first | exact o_ld1 (some 30) ⟨rfl, rfl⟩ rfl rfl rfl rfl ty137 rfl rfl | exact o_ldN (some 30) ⟨rfl, rfl⟩ rfl rfl rfl rfl ty137 rfl rfl (by first | (simp only [lim]; omega) | omega | (simp only [List.length_set]; omega) | (simp at hb; omega)))) ?_
    refine r_op rfl ((by first | exact o_ld1 (some 31) ⟨rfl, rfl⟩ rfl rfl rfl rfl ty138 rfl rfl | exact o_ldN (some 31) ⟨rfl, rfl⟩ rfl rfl rfl rfl ty138 rfl rfl (by first | (simp only [lim]; omega) | omega | (simp only [List.length_set]; omega) | (simp at hb; omega)))) ?_
    refine r_op rfl (o_conv (some 32) ⟨rfl, rfl⟩ rfl rfl ty138 ty137 (by first | (simp only [lim]; omega) | omega | (simp only [List.length_set]; omega) | (simp at hb; omega))) ?_
    refine r_op rfl (o_rem (some 33) ⟨rfl, rfl⟩ rfl rfl rfl (by first | (simp only [lim]; omega) | omega | (simp only [List.length_set]; omega) | (simp at hb; omega))) ?_
    refine r_op rfl (o_st1 rfl rfl rfl rfl rfl rfl ty137 rfl rfl (Nat.le_of_ble_eq_true rfl) rfl) ?_
    refine r_end ?_
    refine b_n ?_
    refine .inl ⟨rfl, (q.set i ((r * 1000000000 + (d9 x).getD i 0) / y), (r * 1000000000 + (d9 x).getD i 0) % y), ⟨by simpa using h1, Nat.mod_lt _ hy⟩, fun e1 e2 => ?_, (outB_of (by simp only [List.map_cons, List.map_nil]) (occ (op_c rfl rfl rfl rfl rfl rfl rfl (by simp) ⟨trivial, trivial⟩) (occ (op_c rfl rfl rfl rfl rfl rfl rfl (by simp) ⟨rfl, trivial⟩) (occ (op_c rfl rfl rfl rfl rfl rfl rfl (by simp) ⟨trivial, trivial⟩) (occ (op_n rfl rfl rfl rfl rfl rfl rfl (Nat.lt_of_le_of_lt (Nat.zero_le i) (by simp only [List.length_set, h1]; exact hi))) oc0)))))⟩
    have e3 : (d9 x).length - k_ = i + 1 := by omega
    have e4 : (d9 x).length - (k_ + 1) = i := by omega
    rw [e3] at e1
    rw [e4]
    exact (ShortInv.step (by omega) (lim_d9 x) hi e1).2.2
  · obtain ⟨q, r⟩ := s_
    obtain ⟨h1, h2⟩ := hSh
    have hEx : ShortInv 1000000000 (d9 x) y ((d9 x).length - (d9 x).length) q r := hEx
    rw [Nat.sub_self] at hEx
    simp only at h1 h2
    change blockQ _ _ _ (stL [(0, .p (nP x)), (1, I .u32 (y)), (3, .ptr 3 0), (6, .ptr 6 0), (7, .ptr 7 0)] [(3, { cells := [I .u32 y], ty := 138 }), (6, { cells := [.own true 1 12 0 (d9 x).length], ty := 24 }), (7, { cells := [I .u64 r], ty := 137 }), (12, { cells := nums .u32 (q), ty := 138 })])
    refine b_n ?_
    refine s_n ?_
    refine r_seq ?_
    refine r_ghc ?_ (gh_publish (b := 12) rfl rfl)
    refine r_drawn mixed ?_
    refine d_op [6] [3, 6, 7, 12] rfl rfl (fun s hs => o_ld1 (some 34) ⟨rfl, rfl⟩ rfl (by exact (hs.1 6 rfl).trans (rfl)) (by exact (hs.2.1 _ rfl).trans rfl) rfl ty24 rfl rfl) ?_
    refine d_op [34] [3, 6, 7, 12] rfl rfl (fun s hs => o_call (some 35) ⟨rfl, rfl⟩ tx119 rfl rfl (w_normE (zs := q) hEx.lim (by omega) (by rw [hEx.done.1, val_d9])) (convL_cons (conv_e (hs.1 34 rfl) (by first | exact conv_p _ | exact conv_nilP _ | exact conv_nil _ | exact conv_sl rfl | exact conv_nums (by exact (hs.2.1 _ rfl).trans rfl) rfl rfl rfl (by first | rfl | omega | (rw [List.drop_zero, List.take_of_length_le (by omega)])) (by first | rfl | omega | (rw [List.drop_zero, List.take_of_length_le (by omega)])))) convL_nil)) ?_
    refine d_op [7] [3, 6, 7, 12] rfl rfl (fun s hs => (by first | exact o_ld1 (some 36) ⟨rfl, rfl⟩ rfl (by exact (hs.1 7 rfl).trans (rfl)) (by exact (hs.2.1 _ rfl).trans rfl) rfl ty137 rfl rfl | exact o_ldN (some 36) ⟨rfl, rfl⟩ rfl (by exact (hs.1 7 rfl).trans (rfl)) (by exact (hs.2.1 _ rfl).trans rfl) rfl ty137 rfl rfl (by first | (simp only [lim]; omega) | omega | (simp only [List.length_set]; omega) | (simp at hb; omega)))) ?_
    refine d_op [36] [] rfl rfl (fun s hs => o_conv (some 37) ⟨rfl, rfl⟩ rfl (by exact (hs.1 36 rfl).trans (rfl)) ty137 ty138 (by first | (simp only [lim]; omega) | omega | (simp only [List.length_set]; omega) | (simp at hb; omega))) ?_
    refine d_op [35] [] rfl rfl (fun s hs => o_as (some 4) ⟨rfl, rfl⟩ rfl (by exact ((hs.1 35 rfl).trans (rfl) : _ = AV.p _))) ?_
    refine d_op [37] [] rfl rfl (fun s hs => o_as (some 5) ⟨rfl, rfl⟩ rfl (by exact ((hs.1 37 rfl).trans (rfl) : _ = I _ _))) ?_
    refine d_end ⟨rfl, ?_⟩
    refine s_n ?_
    refine r_ret ?_
    refine ⟨.inl rfl, [nP (x / y), .v (.int .u32 ((x % y : Nat) : Int))], rfl, ?_⟩
    exact resL_cons (res_tmp (by first | exact conv_p _ | exact conv_nilP _ | exact conv_nil _ | exact conv_sl rfl | exact conv_nums rfl rfl rfl rfl (by first | rfl | omega | (rw [List.drop_zero, List.take_of_length_le (by omega)])) (by first | rfl | omega | (rw [List.drop_zero, List.take_of_length_le (by omega)])))) (resL_cons (res_tmp (conv_I rfl (by rw [hEx.done.2, val_d9]))) (resL_nil))
  · exact hExR.elim
end Vou
end
