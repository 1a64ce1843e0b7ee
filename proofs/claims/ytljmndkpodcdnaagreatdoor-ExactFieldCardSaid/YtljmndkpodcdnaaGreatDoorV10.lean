/- A part of the proof: walks of reading and writing numbers. It holds without conditions. -/
import Derived.Test.YtljmndkpodcdnaaGreatDoorV6
import Derived.Test.YtljmndkpodcdnaaGreatDoorV8
import Derived.Test.YtljmndkpodcdnaaGreatDoorV9

section
set_option linter.unusedVariables false
set_option linter.unusedSimpArgs false
/- Reading numbers: the decimal digits. -/
namespace Vou
open Go Go.RowKit

def isDig (b : Nat) : Bool := decide (48 ≤ b) && decide (b ≤ 57)
/-- What a list of decimal digits stands for, the first one first. -/
def decV : List Nat → Nat → Nat
  | [], n => n
  | b :: l, n => decV l (10 * n + (b - 48))
theorem decV_app : ∀ (l m : List Nat) (n : Nat), decV (l ++ m) n = decV m (decV l n)
  | [], _, _ => rfl
  | _ :: l, m, n => decV_app l m _
theorem decV_lin : ∀ (l : List Nat) (n : Nat), decV l n = n * 10 ^ l.length + decV l 0
  | [], n => by simp [decV]
  | b :: l, n => by
    rw [decV, decV, decV_lin l, decV_lin l (10 * 0 + (b - 48)), List.length_cons, Nat.pow_succ]
    grind
theorem decV_lt : ∀ (l : List Nat), (∀ b ∈ l, b ≤ 57) → decV l 0 < 10 ^ l.length
  | [], _ => by simp [decV]
  | b :: l, h => by
    have h1 := decV_lt l fun x hx => h x (List.mem_cons_of_mem _ hx)
    have hb := h b (List.mem_cons_self)
    rw [decV, decV_lin, List.length_cons, Nat.pow_succ]
    have : (10 * 0 + (b - 48)) * 10 ^ l.length ≤ 9 * 10 ^ l.length := Nat.mul_le_mul_right _ (by omega)
    omega
/-- The digits, that are read from the end in lots of nine. -/
theorem decV_split (l : List Nat) (a : Nat) (h : a ≤ l.length) : decV l 0 = decV (l.take a) 0 * 10 ^ (l.length - a) + decV (l.drop a) 0 := by
  conv => lhs; rw [← List.take_append_drop a l]
  rw [decV_app, decV_lin (l.drop a), List.length_drop]

/-- The number that a text tells, if it tells one. -/
def natF (l : List Nat) : Option Nat := if l = [] ∨ (l.head? = some 48 ∧ l ≠ [48]) ∨ ¬ (l.all isDig = true) then none else some (decV l 0)
def natR (r : Option Nat) : PV := .tup [nP (r.getD 0), .v (.bool r.isSome)]
theorem sB_extract (s : ByteArray) (a b : Nat) : sB (s.extract a b) = ((sB s).drop a).take (b - a) := by
  simp [sB, List.map_drop, List.map_take]
theorem bt_eq (s t : ByteArray) : s.toList = t.toList ↔ s.data.toList = t.data.toList := by rw [Lib.toList_data, Lib.toList_data]
theorem st_pos {s : ByteArray} (h : ((s.toList == (⟨#[]⟩ : ByteArray).toList) == false) = true) : 0 < s.size := by
  rcases Nat.eq_zero_or_pos s.size with h0 | h0
  · exfalso
    have : s.toList = (⟨#[]⟩ : ByteArray).toList := by
      rw [bt_eq]
      have : s.data = #[] := Array.eq_empty_of_size_eq_zero h0
      rw [this]
    rw [this] at h
    simp at h
  · exact h0
theorem dropWhile_nil {α : Type} (p : α → Bool) : ∀ l : List α, l.dropWhile p = [] ↔ ∀ b ∈ l, p b = true
  | [] => by simp
  | a :: l => by
    rw [List.dropWhile_cons]
    by_cases h : p a = true
    · rw [if_pos h, dropWhile_nil p l]; simp [h]
    · rw [if_neg h]
      constructor
      · intro h'; cases h'
      · intro h'; exact absurd (h' a (List.mem_cons_self)) h
def digB : List UInt8 := [48, 49, 50, 51, 52, 53, 54, 55, 56, 57]
theorem digB_iff (b : UInt8) : digB.contains b = true ↔ isDig b.toNat = true := by
  have : ∀ n : Fin 256, digB.contains (UInt8.ofNat n.1) = isDig n.1 := by decide +kernel
  have h := this ⟨b.toNat, b.toNat_lt⟩
  simp only [UInt8.ofNat_toNat] at h
  rw [h]
theorem dropWhile_twice {α : Type} (p : α → Bool) : ∀ l : List α, (l.dropWhile p).dropWhile p = l.dropWhile p
  | [] => rfl
  | a :: l => by
    rw [List.dropWhile_cons]
    by_cases h : p a = true
    · rw [if_pos h]; exact dropWhile_twice p l
    · rw [if_neg h, List.dropWhile_cons, if_neg h]
theorem trim_nil (l : List UInt8) : Lib.trimS l digB = [] ↔ (l.map UInt8.toNat).all isDig = true := by
  have h1 : Lib.trimS l digB = [] ↔ (l.reverse.dropWhile (digB.contains ·)) = [] := by
    unfold Lib.trimS Lib.trimLeftS Lib.trimRightS
    rw [dropWhile_nil, ← dropWhile_twice (digB.contains ·) l.reverse, dropWhile_nil, dropWhile_twice]
    simp only [List.mem_reverse]
  rw [h1, dropWhile_nil]
  simp only [List.mem_reverse, List.all_map, List.all_eq_true, Function.comp]
  constructor
  · intro h b hb; exact (digB_iff b).1 (h b hb)
  · intro h b hb; exact (digB_iff b).2 (h b hb)
theorem byte_head (s : ByteArray) : byteAt s 0 = 48 ∧ s.data.toList ≠ [] ↔ (sB s).head? = some 48 := by
  unfold byteAt sB
  cases s.data.toList with
  | nil => simp
  | cons a l => simp
theorem sB_nil (s : ByteArray) : sB s = [] ↔ s.data.toList = [] := by simp [sB]
theorem sB_zero (s : ByteArray) : sB s = [48] ↔ s.data.toList = [48] := by
  unfold sB
  constructor
  · intro h
    have h2 : s.data.toList.map UInt8.toNat = ([48] : List UInt8).map UInt8.toNat := h
    exact (List.map_inj_right (fun x y e => UInt8.toNat_inj.1 e)).1 h2
  · intro h; rw [h]; rfl
theorem natF_none {s : ByteArray} (h : (s.toList = (⟨#[]⟩ : ByteArray).toList ∨ byteAt s 0 = 48 ∧ ¬ s.toList = (⟨#[48]⟩ : ByteArray).toList) ∨ ¬ (⟨(Lib.trimS s.data.toList [48, 49, 50, 51, 52, 53, 54, 55, 56, 57]).toArray⟩ : ByteArray).toList = (⟨#[]⟩ : ByteArray).toList) : natF (sB s) = none := by
  rw [bt_eq, bt_eq, bt_eq] at h
  unfold natF
  rw [if_pos]
  rcases h with (h | ⟨h1, h2⟩) | h
  · exact .inl ((sB_nil s).2 h)
  · by_cases h0 : s.data.toList = []
    · exact .inl ((sB_nil s).2 h0)
    · exact .inr (.inl ⟨(byte_head s).1 ⟨h1, h0⟩, fun e => h2 ((sB_zero s).1 e)⟩)
  · exact .inr (.inr fun e => h ((trim_nil _).2 e))
theorem natF_some {s : ByteArray} (h : (¬ s.toList = (⟨#[]⟩ : ByteArray).toList ∧ (¬ byteAt s 0 = 48 ∨ s.toList = (⟨#[48]⟩ : ByteArray).toList)) ∧ (⟨(Lib.trimS s.data.toList [48, 49, 50, 51, 52, 53, 54, 55, 56, 57]).toArray⟩ : ByteArray).toList = (⟨#[]⟩ : ByteArray).toList) :
    natF (sB s) = some (decV (sB s) 0) ∧ (∀ b ∈ sB s, 48 ≤ b ∧ b ≤ 57) ∧ 0 < s.size := by
  rw [bt_eq, bt_eq, bt_eq] at h
  obtain ⟨⟨h1, h2⟩, h3⟩ := h
  have hall : (sB s).all isDig = true := (trim_nil _).1 h3
  refine ⟨?_, fun b hb => ?_, ?_⟩
  · unfold natF
    rw [if_neg]
    rintro (h | ⟨h4, h5⟩ | h)
    · exact h1 ((sB_nil s).1 h)
    · rcases h2 with h2 | h2
      · exact h2 ((byte_head s).2 h4).1
      · exact h5 ((sB_zero s).2 h2)
    · exact h hall
  · have := List.all_eq_true.1 hall b hb
    simpa [isDig] using this
  · rcases Nat.eq_zero_or_pos s.size with h0 | h0
    · exact absurd (by
        have : s.data = #[] := Array.eq_empty_of_size_eq_zero h0
        rw [this]) h1
    · exact h0
theorem sub_mem {s : ByteArray} {a b j : Nat} (hj : j < (sB (s.extract a b)).length) : (sB (s.extract a b)).getD j 0 ∈ sB s := by
  rw [List.getD_eq_getElem?_getD, List.getElem?_eq_getElem hj]
  have : (sB (s.extract a b))[j] ∈ sB (s.extract a b) := List.getElem_mem hj
  have h2 : ∀ x ∈ sB (s.extract a b), x ∈ sB s := fun x hx => by
    rw [sB_extract] at hx
    exact List.mem_of_mem_drop (List.mem_of_mem_take hx)
  exact h2 _ this
theorem decV_lt8 (l : List Nat) (i : Nat) (hl : l.length ≤ 9) (hd : ∀ j, j < l.length → l.getD j 0 ≤ 57) : i < l.length → decV (l.take i) 0 < 100000000 := fun hi => by
  have h1 := decV_lt (l.take i) fun b hb => by
    have hb := List.mem_of_mem_take hb
    obtain ⟨j, hj, rfl⟩ := List.getElem_of_mem hb
    have := hd j hj
    rwa [List.getD_eq_getElem?_getD, List.getElem?_eq_getElem hj] at this
  have h2 : 10 ^ (l.take i).length ≤ 10 ^ 8 := Nat.pow_le_pow_right (by omega) (by rw [List.length_take]; omega)
  exact Nat.lt_of_lt_of_le h1 (Nat.le_trans h2 (by decide))
theorem natR_none {l : List Nat} (h : natF l = none) : natR (natF l) = packP [nP 0, .v (.bool false)] := by rw [h]; rfl
theorem natR_some {l : List Nat} {n : Nat} (h : natF l = some n) : natR (natF l) = packP [nP n, .v (.bool true)] := by rw [h]; rfl
/-- Between two lots. -/
structure LotInv (l : List Nat) (k : Nat) (zs : List Nat) : Prop where
  len : zs.length = k
  lim : Lim 1000000000 zs
  le : 9 * k ≤ l.length + 8
  eq : val 1000000000 zs = decV (l.drop (l.length - 9 * k)) 0
theorem LotInv.start (l : List Nat) : LotInv l 0 [] := ⟨rfl, Lim.nil _, by omega, by simp [val, decV]⟩
theorem LotInv.step {l : List Nat} {k : Nat} {zs : List Nat} (h : LotInv l k zs) (hd : ∀ b ∈ l, b ≤ 57) {E : Nat} (hE : E = l.length - 9 * k) (h0 : 0 < E) : decV ((l.drop (E - 9)).take (E - (E - 9))) 0 < 1000000000 ∧ LotInv l (k + 1) (zs ++ [decV ((l.drop (E - 9)).take (E - (E - 9))) 0]) := by
  have hlen : ((l.drop (E - 9)).take (E - (E - 9))).length ≤ 9 := by simp; omega
  have hlt : decV ((l.drop (E - 9)).take (E - (E - 9))) 0 < 1000000000 := by
    have h1 := decV_lt ((l.drop (E - 9)).take (E - (E - 9))) fun b hb => hd b (List.mem_of_mem_drop (List.mem_of_mem_take hb))
    have h2 : 10 ^ ((l.drop (E - 9)).take (E - (E - 9))).length ≤ 10 ^ 9 := Nat.pow_le_pow_right (by omega) hlen
    exact Nat.lt_of_lt_of_le h1 (Nat.le_trans h2 (by decide))
  refine ⟨hlt, by simp [h.len], h.lim.snoc hlt, by have := h.le; omega, ?_⟩
  have e1 := decV_split (l.drop (E - 9)) (E - (E - 9)) (by rw [List.length_drop]; omega)
  rw [List.drop_drop, show E - 9 + (E - (E - 9)) = E by omega, List.length_drop] at e1
  rw [show l.length - 9 * (k + 1) = E - 9 by omega, e1, val_snoc, h.eq, h.len, ← hE]
  rw [show l.length - (E - 9) - (E - (E - 9)) = 9 * k by omega, Nat.pow_mul, show (10 : Nat) ^ 9 = 1000000000 from rfl, Nat.mul_comm]
  omega
theorem LotInv.done {l : List Nat} {k : Nat} {zs : List Nat} (h : LotInv l k zs) (hk : l.length ≤ 9 * k) : val 1000000000 zs = decV l 0 := by
  rw [h.eq, show l.length - 9 * k = 0 by omega, List.drop_zero]
theorem decV_snoc (l : List Nat) (i : Nat) (h : i < l.length) : decV (l.take (i + 1)) 0 = 10 * decV (l.take i) 0 + (l.getD i 0 - 48) := by
  rw [List.take_add_one, List.getElem?_eq_getElem h, decV_app, List.getD_eq_getElem?_getD, List.getElem?_eq_getElem h]
  rfl
end Vou
end

section
set_option linter.unusedVariables false
set_option linter.unusedSimpArgs false
namespace Vou
open Go Go.RowKit Go.Proofs.Tryz
theorem w_natFrom (s : ByteArray) (hs : s.size < 1000000) : FnP prog 84 [.v (.string s)] (natR (natF (sB s))) := by
  have hsl := sB_len s
  refine fnP_of (fn := f84) fn84 rfl (Nat.le_of_ble_eq_true rfl) ?_
  refine r_seq ?_
  refine r_reg ?_
  refine r_op rfl (o_as (some 2) ⟨rfl, rfl⟩ rfl (by exact (rfl : _ = AV.p _))) ?_
  refine r_op rfl (o_as (some 3) ⟨rfl, rfl⟩ rfl (by exact (rfl : _ = AV.p _))) ?_
  refine r_end ?_
  refine s_n ?_
  refine r_seq ?_
  refine r_seq ?_
  refine r_reg ?_
  refine r_op rfl (o_mv (some 9) ⟨rfl, rfl⟩ rfl (by first | exact (rfl : _ = I _ _) | exact (rfl : _ = AV.p _) | exact (rfl : _ = AV.ptr _ _) | exact (rfl : _ = AV.own _ _ _ _ _) | exact (rfl : _ = AV.agg _) | exact (rfl : _ = AV.fn _ _))) ?_
  refine r_op rfl (o_seql (some 10) ⟨rfl, rfl⟩ rfl rfl rfl) ?_
  refine r_op rfl (o_mv (some 11) ⟨rfl, rfl⟩ rfl (by exact (rfl : _ = Bo _))) ?_
  refine r_gd (d := some 12) rfl rfl rfl rfl ⟨rfl, rfl⟩ (fun hb => o_mv (some 12) ⟨rfl, rfl⟩ rfl (by first | exact (rfl : _ = I _ _) | exact (rfl : _ = AV.p _) | exact (rfl : _ = AV.ptr _ _) | exact (rfl : _ = AV.own _ _ _ _ _) | exact (rfl : _ = AV.agg _) | exact (rfl : _ = AV.fn _ _))) ?_
  refine r_gd (d := some 13) rfl rfl rfl rfl ⟨rfl, rfl⟩ (fun hb => o_ixS (some 13) ⟨rfl, rfl⟩ rfl (by exact gd hb) (by exact (rfl : _ = I _ 0)) ty9 (by exact st_pos hb)) ?_
  refine r_gd (d := some 14) rfl rfl rfl rfl ⟨rfl, rfl⟩ (fun hb => o_eql (some 14) ⟨rfl, rfl⟩ (by exact gd hb) (by exact (rfl : _ = I _ 48)) rfl) ?_
  refine r_gd (d := some 15) rfl rfl rfl rfl ⟨rfl, rfl⟩ (fun hb => o_mv (some 15) ⟨rfl, rfl⟩ rfl (by exact (gd hb : _ = Bo _))) ?_
  refine r_gd2 (d := some 16) rfl rfl rfl rfl ⟨rfl, rfl⟩ (fun hb => o_mv (some 16) ⟨rfl, rfl⟩ rfl (by first | exact (rfl : _ = I _ _) | exact (rfl : _ = AV.p _) | exact (rfl : _ = AV.ptr _ _) | exact (rfl : _ = AV.own _ _ _ _ _) | exact (rfl : _ = AV.agg _) | exact (rfl : _ = AV.fn _ _))) ?_
  refine r_gd2 (d := some 17) rfl rfl rfl rfl ⟨rfl, rfl⟩ (fun hb => o_sneq (some 17) ⟨rfl, rfl⟩ (by exact gd hb) rfl rfl) ?_
  refine r_gd (d := some 18) rfl rfl rfl rfl ⟨rfl, rfl⟩ (fun hb => o_and (some 18) ⟨rfl, rfl⟩ rfl (by exact gd hb) (by exact gd2 hb) rfl) ?_
  refine r_op rfl (o_or (some 19) ⟨rfl, rfl⟩ rfl rfl rfl rfl) ?_
  refine r_op rfl (o_mv (some 20) ⟨rfl, rfl⟩ rfl (by exact (rfl : _ = Bo _))) ?_
  refine r_gd (d := some 21) rfl rfl rfl rfl ⟨rfl, rfl⟩ (fun hb => o_mv (some 21) ⟨rfl, rfl⟩ rfl (by first | exact (rfl : _ = I _ _) | exact (rfl : _ = AV.p _) | exact (rfl : _ = AV.ptr _ _) | exact (rfl : _ = AV.own _ _ _ _ _) | exact (rfl : _ = AV.agg _) | exact (rfl : _ = AV.fn _ _))) ?_
  refine r_gd (d := some 22) rfl rfl rfl rfl ⟨rfl, rfl⟩ (fun hb => o_call (some 22) ⟨rfl, rfl⟩ tx118 rfl rfl (w_trim s (by omega)) (convL_cons (conv_gd hb (conv_p _)) (convL_cons (conv_p _) convL_nil))) ?_
  refine r_gd (d := some 23) rfl rfl rfl rfl ⟨rfl, rfl⟩ (fun hb => o_sneq (some 23) ⟨rfl, rfl⟩ (by exact gd hb) rfl rfl) ?_
  refine r_op rfl (o_or (some 24) ⟨rfl, rfl⟩ rfl rfl rfl rfl) ?_
  refine r_end ?_
  refine s_n ?_
  refine r_cond rfl (fun hc => ?_) (fun hc => ?_)
  · try simp only [decide_eq_true_eq, decide_eq_false_iff_not, Nat.not_lt, Nat.not_le, Bool.and_eq_true, Bool.or_eq_true, Bool.and_eq_false_iff, Bool.or_eq_false_iff, Bool.not_eq_true', Bool.not_eq_false', beq_iff_eq, beq_eq_false_iff_ne, ne_eq, Decidable.not_not] at hc
    have hN := natF_none hc
    refine r_seq ?_
    refine r_reg ?_
    refine r_op rfl (o_as (some 2) ⟨rfl, rfl⟩ rfl (by exact (rfl : _ = AV.p _))) ?_
    refine r_op rfl (o_as (some 3) ⟨rfl, rfl⟩ rfl (by exact (rfl : _ = AV.p _))) ?_
    refine r_end ?_
    refine s_n ?_
    refine r_ret ?_
    refine s_ret ?_
    refine ⟨.inl rfl, [nP 0, .v (.bool false)], natR_none hN, ?_⟩
    exact resL_cons (res_tmp conv_n0) (resL_cons (res_tmp (conv_p _)) (resL_nil))
  · try simp only [decide_eq_true_eq, decide_eq_false_iff_not, Nat.not_lt, Nat.not_le, Bool.and_eq_true, Bool.or_eq_true, Bool.and_eq_false_iff, Bool.or_eq_false_iff, Bool.not_eq_true', Bool.not_eq_false', beq_iff_eq, beq_eq_false_iff_ne, ne_eq, Decidable.not_not] at hc
    obtain ⟨hN, hD, hp⟩ := natF_some hc
    refine r_skip ?_
    refine s_n ?_
    refine r_seq ?_
    refine r_reg ?_
    refine r_op rfl (o_as (some 4) ⟨rfl, rfl⟩ rfl (by exact (rfl : _ = AV.p _))) ?_
    refine r_end ?_
    refine s_n ?_
    refine r_seq ?_
    refine r_seq ?_
    refine r_reg ?_
    refine r_op rfl (o_mv (some 25) ⟨rfl, rfl⟩ rfl (by first | exact (rfl : _ = I _ _) | exact (rfl : _ = AV.p _) | exact (rfl : _ = AV.ptr _ _) | exact (rfl : _ = AV.own _ _ _ _ _) | exact (rfl : _ = AV.agg _) | exact (rfl : _ = AV.fn _ _))) ?_
    refine r_op rfl (o_lenS (some 26) ⟨rfl, rfl⟩ rfl rfl ty9) ?_
    refine r_op rfl (o_as (some 5) ⟨rfl, rfl⟩ rfl (by exact (rfl : _ = I _ _))) ?_
    refine r_end ?_
    refine s_n ?_
    refine r_block ?_
    refine r_ghc ?_ (gh_nilOwn (d := 4) (t := 4) rfl (Nat.zero_le 4) rfl 1 138)
    refine r_loop (ι := { p : Nat × List Nat // LotInv (sB s) p.1 p.2 }) (fun p => stL [(0, .p (.v (.string s))), (4, .own true 1 4 0 ((p.1.1))), (5, Z .i64 ((s.size : Int) - 9 * (((p.1.1) : Nat) : Int)))] [(4, { cells := nums .u32 ((p.1.2)), ty := 138 })]) (fun p => s.size + 9 - 9 * p.1.1) (⟨(0, []), LotInv.start _⟩) ?_ (fun i_ => ?_)
    · exact gh_st id (tlc (td_p rfl rfl) (tlc (td_own rfl rfl rfl) (tlc (td_Z rfl (by show (s.size : Int) = (s.size : Int) - 9 * ((0 : Nat) : Int); omega)) tl0))) (hpc (hp_nums rfl rfl rfl rfl rfl rfl) hp0) rfl
    · obtain ⟨⟨k, z⟩, h1⟩ := i_
      simp only at h1
      have h2 := h1.len
      have hle := h1.le
      change Tr _ _ _ (stL [(0, .p (.v (.string s))), (4, .own true 1 4 0 ((k))), (5, Z .i64 ((s.size : Int) - 9 * (((k) : Nat) : Int)))] [(4, { cells := nums .u32 ((z)), ty := 138 })]) _
      refine r_seq ?_
      refine r_seq ?_
      refine r_reg ?_
      refine r_op rfl (o_mv (some 27) ⟨rfl, rfl⟩ rfl (by exact (rfl : _ = Z _ _))) ?_
      refine r_op rfl (o_zgtr (some 28) ⟨rfl, rfl⟩ (by exact (rfl : _ = Z _ _)) (by exact (rfl : _ = Z _ (0))) rfl) ?_
      refine r_end ?_
      refine s_n ?_
      refine r_cond rfl (fun hc_1 => ?_) (fun hc_1 => ?_)
      · try simp only [decide_eq_true_eq, decide_eq_false_iff_not, Nat.not_lt, Nat.not_le, Bool.and_eq_true, Bool.or_eq_true, Bool.and_eq_false_iff, Bool.or_eq_false_iff, Bool.not_eq_true', Bool.not_eq_false', beq_iff_eq, beq_eq_false_iff_ne, ne_eq, Decidable.not_not] at hc_1
        obtain ⟨e, he⟩ : ∃ e : Nat, e = s.size - 9 * k := ⟨_, rfl⟩
        have he0 : 0 < e := by omega
        have hst := h1.step (fun b hb => (hD b hb).2) (E := e) (by omega) he0
        have hBl : (sB (s.extract (e - 9) e)).length = e - (e - 9) := by rw [sB_extract, List.length_take, List.length_drop]; omega
        rw [← sB_extract] at hst
        have hBd : ∀ j, j < (sB (s.extract (e - 9) e)).length → 48 ≤ (sB (s.extract (e - 9) e)).getD j 0 ∧ (sB (s.extract (e - 9) e)).getD j 0 ≤ 57 := fun j hj => hD _ (sub_mem hj)
        refine r_skip ?_
        refine s_n ?_
        refine r_seq ?_
        refine r_block ?_
        refine r_seq ?_
        refine r_ghc (σ' := stL [(0, .p (.v (.string s))), (4, .own true 1 4 0 ((k))), (5, I .i64 ((e)))] [(4, { cells := nums .u32 ((z)), ty := 138 })]) ?_ (gh_st id (tlc (td_p rfl rfl) (tlc (td_own rfl rfl rfl) (tlc (td_Z rfl (by omega)) tl0))) (hpc (hp_nums rfl rfl rfl rfl rfl rfl) hp0) rfl)
        refine r_reg ?_
        refine r_op rfl (o_as (some 6) ⟨rfl, rfl⟩ rfl (by exact (rfl : _ = I _ 0))) ?_
        refine r_end ?_
        refine s_n ?_
        refine r_seq ?_
        refine r_seq ?_
        refine r_reg ?_
        refine r_op rfl (o_mv (some 31) ⟨rfl, rfl⟩ rfl (by exact (rfl : _ = AV.p _))) ?_
        refine r_op rfl (o_mv (some 32) ⟨rfl, rfl⟩ rfl (by exact (rfl : _ = I _ _))) ?_
        refine r_op rfl (o_zsub (some 33) ⟨rfl, rfl⟩ (by exact (rfl : _ = Z _ _)) (by exact (rfl : _ = Z _ (9))) rfl (by first | (simp only [lim]; omega) | omega | (simp only [List.length_set]; omega) | (simp at hb; omega)) (by first | (simp only [lim]; omega) | omega | (simp only [List.length_set]; omega) | (simp at hb; omega))) ?_
        refine r_op rfl (o_max (r := ((e - 9 : Nat) : Int)) (some 34) ⟨rfl, rfl⟩ rfl (by exact (rfl : _ = Z _ (0))) (by exact (rfl : _ = Z _ _)) (by split <;> omega)) ?_
        refine r_op rfl (o_mv (some 35) ⟨rfl, rfl⟩ rfl (by exact (rfl : _ = I _ _))) ?_
        refine r_op rfl (o_slS (some 36) ⟨rfl, rfl⟩ rfl rfl ty9 _ _ (by exact ⟨_, rfl⟩) (by exact ⟨_, rfl⟩) (by first | (simp only [lim]; omega) | omega | (simp only [List.length_set]; omega) | (simp at hb; omega)) (by first | (simp only [lim]; omega) | omega | (simp only [List.length_set]; omega) | (simp at hb; omega))) ?_
        refine r_op rfl (o_s2b (some 37) ⟨rfl, rfl⟩ rfl rfl ty9 ty78 ty5 (by (unfold maxLen; show _ ≤ _; rw [← sB_len, sB_extract, List.length_take, List.length_drop]; omega))) ?_
        generalize sB (s.extract (e - 9) e) = B at *
        refine r_op rfl ((by first | exact o_lenN (some 38) ⟨rfl, rfl⟩ rfl rfl ty78 rfl | exact o_lenO (some 38) ⟨rfl, rfl⟩ rfl rfl rfl rfl ty78 | exact o_lenZ (some 38) ⟨rfl, rfl⟩ rfl rfl ty78 | exact o_lenP (some 38) ⟨rfl, rfl⟩ rfl rfl ty78 rfl)) ?_
        refine r_op rfl (o_mv (some 39) ⟨rfl, rfl⟩ rfl (by exact (rfl : _ = I _ 0))) ?_
        refine r_end ?_
        refine s_n ?_
        refine r_block ?_
        refine r_loop (ι := { p : Nat × Nat // p.1 ≤ B.length ∧ p.2 = decV (B.take p.1) 0 }) (fun p => stL [(0, .p (.v (.string s))), (4, .own true 1 4 0 ((k))), (5, I .i64 ((e))), (6, I .u32 ((p.1.2))), (37, .p (slP .u8 (B))), (38, I .i64 ((B).length)), (39, I .i64 ((p.1.1)))] [(4, { cells := nums .u32 ((z)), ty := 138 })]) (fun p => B.length - p.1.1) (⟨(0, 0), Nat.zero_le _, rfl⟩) ?_ (fun i_ => ?_)
        · exact gh_st id (tlc (td_p rfl rfl) (tlc (td_own rfl rfl rfl) (tlc (td_I rfl rfl) (tlc (td_I rfl rfl) (tlc (td_p rfl rfl) (tlc (td_I rfl rfl) (tlc (td_I rfl rfl) tl0))))))) (hpc (hp_nums rfl rfl rfl rfl rfl rfl) hp0) rfl
        · obtain ⟨⟨i, n⟩, h3, h4⟩ := i_
          simp only at h3 h4
          have h5 := decV_lt8 B i (by omega) (fun j hj => (hBd j hj).2)
          change Tr _ _ _ (stL [(0, .p (.v (.string s))), (4, .own true 1 4 0 ((k))), (5, I .i64 ((e))), (6, I .u32 ((n))), (37, .p (slP .u8 (B))), (38, I .i64 ((B).length)), (39, I .i64 ((i)))] [(4, { cells := nums .u32 ((z)), ty := 138 })]) _
          refine r_seq ?_
          refine r_reg ?_
          refine r_op rfl (o_lss (some 40) ⟨rfl, rfl⟩ rfl rfl rfl) ?_
          refine r_end ?_
          refine s_n ?_
          refine r_seq ?_
          refine r_cond rfl (fun hc_2 => ?_) (fun hc_2 => ?_)
          · try simp only [decide_eq_true_eq, decide_eq_false_iff_not, Nat.not_lt, Nat.not_le, Bool.and_eq_true, Bool.or_eq_true, Bool.and_eq_false_iff, Bool.or_eq_false_iff, Bool.not_eq_true', Bool.not_eq_false', beq_iff_eq, beq_eq_false_iff_ne, ne_eq, Decidable.not_not] at hc_2
            have hdj := hBd i hc_2
            refine r_skip ?_
            refine s_n ?_
            refine r_seq ?_
            refine r_block ?_
            refine r_seq ?_
            refine r_reg ?_
            refine r_op rfl (o_ixN (some 41) ⟨rfl, rfl⟩ rfl rfl rfl ty78 ty5 (by first | (simp only [lim]; omega) | omega | (simp only [List.length_set]; omega) | (simp at hb; omega))) ?_
            refine r_op rfl (o_ldc (some 42) ⟨rfl, rfl⟩ rfl rfl ty5 rfl) ?_
            refine r_op rfl (o_as (some 8) ⟨rfl, rfl⟩ rfl (by first | exact (rfl : _ = I _ _) | exact (rfl : _ = AV.p _) | exact (rfl : _ = AV.ptr _ _) | exact (rfl : _ = AV.own _ _ _ _ _) | exact (rfl : _ = AV.agg _) | exact (rfl : _ = AV.fn _ _))) ?_
            refine r_end ?_
            refine s_n ?_
            refine r_seq ?_
            refine r_seq ?_
            refine r_reg ?_
            refine r_op rfl (o_mv (some 43) ⟨rfl, rfl⟩ rfl (by first | exact (rfl : _ = I _ _) | exact (rfl : _ = AV.p _) | exact (rfl : _ = AV.ptr _ _) | exact (rfl : _ = AV.own _ _ _ _ _) | exact (rfl : _ = AV.agg _) | exact (rfl : _ = AV.fn _ _))) ?_
            refine r_op rfl (o_lss (some 44) ⟨rfl, rfl⟩ rfl (by exact (rfl : _ = I _ 48)) rfl) ?_
            refine r_op rfl (o_mv (some 45) ⟨rfl, rfl⟩ rfl (by exact (rfl : _ = Bo _))) ?_
            refine r_gd (d := some 46) rfl rfl rfl rfl ⟨rfl, rfl⟩ (fun hb => o_mv (some 46) ⟨rfl, rfl⟩ rfl (by first | exact (rfl : _ = I _ _) | exact (rfl : _ = AV.p _) | exact (rfl : _ = AV.ptr _ _) | exact (rfl : _ = AV.own _ _ _ _ _) | exact (rfl : _ = AV.agg _) | exact (rfl : _ = AV.fn _ _))) ?_
            refine r_gd (d := some 47) rfl rfl rfl rfl ⟨rfl, rfl⟩ (fun hb => o_gtr (some 47) ⟨rfl, rfl⟩ (by exact gd hb) (by exact (rfl : _ = I _ 57)) rfl) ?_
            refine r_op rfl (o_or (some 48) ⟨rfl, rfl⟩ rfl rfl rfl rfl) ?_
            refine r_end ?_
            refine s_n ?_
            refine r_cond rfl (fun hc_3 => ?_) (fun hc_3 => ?_)
            · try simp only [decide_eq_true_eq, decide_eq_false_iff_not, Nat.not_lt, Nat.not_le, Bool.and_eq_true, Bool.or_eq_true, Bool.and_eq_false_iff, Bool.or_eq_false_iff, Bool.not_eq_true', Bool.not_eq_false', beq_iff_eq, beq_eq_false_iff_ne, ne_eq, Decidable.not_not] at hc_3
              omega
            · try simp only [decide_eq_true_eq, decide_eq_false_iff_not, Nat.not_lt, Nat.not_le, Bool.and_eq_true, Bool.or_eq_true, Bool.and_eq_false_iff, Bool.or_eq_false_iff, Bool.not_eq_true', Bool.not_eq_false', beq_iff_eq, beq_eq_false_iff_ne, ne_eq, Decidable.not_not] at hc_3
              refine r_skip ?_
              refine s_n ?_
              refine r_reg ?_
              refine r_op rfl (o_mv (some 49) ⟨rfl, rfl⟩ rfl (by exact (rfl : _ = I _ _))) ?_
              refine r_op rfl (o_mul (some 50) ⟨rfl, rfl⟩ (by exact (rfl : _ = I _ 10)) rfl rfl (by first | (simp only [lim]; omega) | omega | (simp only [List.length_set]; omega) | (simp at hb; omega))) ?_
              refine r_op rfl (o_mv (some 51) ⟨rfl, rfl⟩ rfl (by first | exact (rfl : _ = I _ _) | exact (rfl : _ = AV.p _) | exact (rfl : _ = AV.ptr _ _) | exact (rfl : _ = AV.own _ _ _ _ _) | exact (rfl : _ = AV.agg _) | exact (rfl : _ = AV.fn _ _))) ?_
              refine r_op rfl (o_sub (some 52) ⟨rfl, rfl⟩ rfl (by exact (rfl : _ = I _ 48)) rfl (by first | (simp only [lim]; omega) | omega | (simp only [List.length_set]; omega) | (simp at hb; omega)) (by first | (simp only [lim]; omega) | omega | (simp only [List.length_set]; omega) | (simp at hb; omega))) ?_
              refine r_op rfl (o_conv (some 53) ⟨rfl, rfl⟩ rfl rfl ty5 ty138 (by first | (simp only [lim]; omega) | omega | (simp only [List.length_set]; omega) | (simp at hb; omega))) ?_
              refine r_op rfl (o_add (some 54) ⟨rfl, rfl⟩ rfl rfl rfl (by first | (simp only [lim]; omega) | omega | (simp only [List.length_set]; omega) | (simp at hb; omega))) ?_
              refine r_op rfl (o_as (some 6) ⟨rfl, rfl⟩ rfl (by exact (rfl : _ = I _ _))) ?_
              refine r_end ?_
              refine b_n ?_
              refine s_n ?_
              refine r_reg ?_
              refine r_op rfl (o_add (some 55) ⟨rfl, rfl⟩ rfl (by exact (rfl : _ = I _ 1)) rfl (by first | (simp only [lim]; omega) | omega | (simp only [List.length_set]; omega) | (simp at hb; omega))) ?_
              refine r_op rfl (o_mv (some 39) ⟨rfl, rfl⟩ rfl (by exact (rfl : _ = I _ _))) ?_
              refine r_end ?_
              refine s_n ?_
              exact ⟨⟨(i + 1, 10 * n + (B.getD i 0 - 48)), by show i + 1 ≤ _; omega, by show _ = decV _ 0; rw [decV_snoc _ _ hc_2, h4]⟩, by show _ - (i + 1) < _ - i; omega, gh_st id (tlc (td_p rfl rfl) (tlc (td_own rfl rfl rfl) (tlc (td_I rfl rfl) (tlc (td_I rfl rfl) (tlc (td_p rfl rfl) (tlc (td_I rfl rfl) (tlc (td_I rfl rfl) tl0))))))) (hpc (hp_nums rfl rfl rfl rfl rfl rfl) hp0) rfl⟩
          · try simp only [decide_eq_true_eq, decide_eq_false_iff_not, Nat.not_lt, Nat.not_le, Bool.and_eq_true, Bool.or_eq_true, Bool.and_eq_false_iff, Bool.or_eq_false_iff, Bool.not_eq_true', Bool.not_eq_false', beq_iff_eq, beq_eq_false_iff_ne, ne_eq, Decidable.not_not] at hc_2
            have hi : i = B.length := by omega
            subst hi
            rw [List.take_of_length_le (Nat.le_refl _)] at h4
            subst h4
            refine r_exit ?_
            refine s_exit ?_
            refine s_exit ?_
            refine b_here ?_
            refine s_n ?_
            refine r_reg ?_
            refine r_op rfl (o_mv (some 56) ⟨rfl, rfl⟩ rfl (by exact (rfl : _ = AV.own _ _ _ _ _))) ?_
            refine r_op rfl (o_mv (some 57) ⟨rfl, rfl⟩ rfl (by exact (rfl : _ = I _ _))) ?_
            refine r_op rfl (o_bsN (some 58) ⟨rfl, rfl⟩ rfl rfl 58 rfl rfl ty24 ty138) ?_
            refine r_op rfl (o_apN (some 59) ⟨rfl, rfl⟩ rfl 59 rfl rfl ty24 ty138 rfl rfl rfl rfl rfl rfl (by exact rfl) h2 rfl rfl rfl (by exact rfl) (by first | (simp only [lim]; omega) | omega | (simp only [List.length_set]; omega) | (simp at hb; omega))) ?_
            refine r_op rfl (o_as (some 4) ⟨rfl, rfl⟩ rfl (by exact (rfl : _ = AV.own _ _ _ _ _))) ?_
            refine r_end ?_
            refine b_n ?_
            refine s_n ?_
            refine r_reg ?_
            refine r_op rfl (o_mv (some 29) ⟨rfl, rfl⟩ rfl (by exact (rfl : _ = I _ _))) ?_
            refine r_op rfl (o_zsub (some 30) ⟨rfl, rfl⟩ (by exact (rfl : _ = Z _ _)) (by exact (rfl : _ = Z _ (9))) rfl (by first | (simp only [lim]; omega) | omega | (simp only [List.length_set]; omega) | (simp at hb; omega)) (by first | (simp only [lim]; omega) | omega | (simp only [List.length_set]; omega) | (simp at hb; omega))) ?_
            refine r_op rfl (o_as (some 5) ⟨rfl, rfl⟩ rfl (by exact (rfl : _ = Z _ _))) ?_
            refine r_end ?_
            refine s_n ?_
            exact ⟨⟨(k + 1, _), hst.2⟩, by show s.size + 9 - 9 * (k + 1) < s.size + 9 - 9 * k; omega, gh_st (fun _ => 59) (tlc (td_p rfl rfl) (tlc (td_own rfl rfl rfl) (tlc (td_Z rfl (by show _ = (s.size : Int) - 9 * ((k + 1 : Nat) : Int); omega)) tl0))) (hpc (hp_nums rfl rfl rfl rfl rfl rfl) hp0) rfl⟩
      · try simp only [decide_eq_true_eq, decide_eq_false_iff_not, Nat.not_lt, Nat.not_le, Bool.and_eq_true, Bool.or_eq_true, Bool.and_eq_false_iff, Bool.or_eq_false_iff, Bool.not_eq_true', Bool.not_eq_false', beq_iff_eq, beq_eq_false_iff_ne, ne_eq, Decidable.not_not] at hc_1
        refine r_exit ?_
        refine s_exit ?_
        refine s_exit ?_
        refine b_here ?_
        refine s_n ?_
        refine r_seq ?_
        refine r_ghc ?_ (gh_publish (b := 4) rfl rfl)
        refine r_reg ?_
        refine r_op rfl (o_mv (some 60) ⟨rfl, rfl⟩ rfl (by exact (rfl : _ = AV.own _ _ _ _ _))) ?_
        refine r_op rfl (o_call (some 61) ⟨rfl, rfl⟩ tx119 rfl rfl (w_normE (zs := z) h1.lim (by omega) (h1.done (by omega))) (convL_cons (by first | exact conv_p _ | exact conv_nilP _ | exact conv_nil _ | exact conv_sl rfl | exact conv_nums rfl rfl rfl rfl (by first | rfl | omega | (rw [List.drop_zero, List.take_of_length_le (by omega)])) (by first | rfl | omega | (rw [List.drop_zero, List.take_of_length_le (by omega)]))) convL_nil)) ?_
        refine r_op rfl (o_as (some 2) ⟨rfl, rfl⟩ rfl (by exact (rfl : _ = AV.p _))) ?_
        refine r_op rfl (o_as (some 3) ⟨rfl, rfl⟩ rfl (by exact (rfl : _ = AV.p _))) ?_
        refine r_end ?_
        refine s_n ?_
        refine r_ret ?_
        refine ⟨.inl rfl, [nP (decV (sB s) 0), .v (.bool true)], natR_some hN, ?_⟩
        exact resL_cons (res_tmp (by first | exact conv_p _ | exact conv_nilP _ | exact conv_nil _ | exact conv_sl rfl | exact conv_nums rfl rfl rfl rfl (by first | rfl | omega | (rw [List.drop_zero, List.take_of_length_le (by omega)])) (by first | rfl | omega | (rw [List.drop_zero, List.take_of_length_le (by omega)])))) (resL_cons (res_tmp (conv_p _)) (resL_nil))
end Vou
end

section
set_option linter.unusedVariables false
set_option linter.unusedSimpArgs false
/- Texts of rational numbers: what is read and what is written. -/
namespace Vou
open Go Go.RowKit

theorem ba_app (a b : List UInt8) : (⟨a.toArray⟩ : ByteArray) ++ ⟨b.toArray⟩ = ⟨(a ++ b).toArray⟩ := by
  apply ByteArray.ext
  simp
theorem ba_size (a : List UInt8) : (⟨a.toArray⟩ : ByteArray).size = a.length := rfl
theorem dec_len_d9 (x : Nat) : (Lib.decDigits x).length ≤ 9 * (d9 x).length + 1 := by
  refine dec_len_le (9 * (d9 x).length) ?_
  have h := lt_pow_dl (b := 1000000000) (by omega) x
  have h2 : (1000000000 : Nat) ^ (d9 x).length = 10 ^ (9 * (d9 x).length) := by rw [Nat.pow_mul]
  have h3 : (10 : Nat) ^ (9 * (d9 x).length) ≤ 10 ^ (9 * (d9 x).length + 1) := Nat.pow_le_pow_right (by omega) (by omega)
  have h : x < 1000000000 ^ (d9 x).length := h
  rw [h2] at h
  omega

/-- The text of a rational number. -/
def qT (r : Rat) : List UInt8 := (if r.num < 0 then [45] else []) ++ Lib.decDigits r.num.natAbs ++ (if r.den = 1 then [] else 47 :: Lib.decDigits r.den)
theorem qT_nd {r : Rat} (h : r.num < 0) (h2 : ¬ r.den = 1) : (sV (qT r)) = .string (((⟨#[45]⟩ : ByteArray) ++ ⟨(Lib.decDigits r.num.natAbs).toArray⟩) ++ ((⟨#[47]⟩ : ByteArray) ++ ⟨(Lib.decDigits r.den).toArray⟩)) := by
  rw [show (⟨#[45]⟩ : ByteArray) = ⟨([45] : List UInt8).toArray⟩ from rfl, show (⟨#[47]⟩ : ByteArray) = ⟨([47] : List UInt8).toArray⟩ from rfl, ba_app, ba_app, ba_app, qT, if_pos h, if_neg h2]; rfl
theorem qT_ni {r : Rat} (h : r.num < 0) (h2 : r.den = 1) : (sV (qT r)) = .string ((⟨#[45]⟩ : ByteArray) ++ ⟨(Lib.decDigits r.num.natAbs).toArray⟩) := by
  rw [show (⟨#[45]⟩ : ByteArray) = ⟨([45] : List UInt8).toArray⟩ from rfl, ba_app, qT, if_pos h, if_pos h2, List.append_nil]
theorem qT_pd {r : Rat} (h : ¬ r.num < 0) (h2 : ¬ r.den = 1) : (sV (qT r)) = .string ((⟨(Lib.decDigits r.num.natAbs).toArray⟩ : ByteArray) ++ ((⟨#[47]⟩ : ByteArray) ++ ⟨(Lib.decDigits r.den).toArray⟩)) := by
  rw [show (⟨#[47]⟩ : ByteArray) = ⟨([47] : List UInt8).toArray⟩ from rfl, ba_app, ba_app, qT, if_neg h, if_neg h2]; rfl
theorem qT_pi {r : Rat} (h : ¬ r.num < 0) (h2 : r.den = 1) : (sV (qT r)) = .string (⟨(Lib.decDigits r.num.natAbs).toArray⟩ : ByteArray) := by
  rw [qT, if_neg h, if_pos h2, List.append_nil]; rfl

/-- The parts of a text that is read. -/
def rdNeg (s : ByteArray) : Bool := Lib.hasPrefix s.data.toList [45]
def rdC (s : ByteArray) : List UInt8 × List UInt8 × Bool := Lib.cut (Lib.trimPrefix s.data.toList [45]) [47]
def rdN (s : ByteArray) : Option Nat := natF ((rdC s).1.map UInt8.toNat)
def rdD (s : ByteArray) : Option Nat := natF ((rdC s).2.1.map UInt8.toNat)
/-- What 'Read' returns. -/
def readF (s : ByteArray) : Rat × Int :=
  if 4000 < s.size then (0, 5) else
  if (rdN s).isSome = false ∨ (rdNeg s = true ∧ (rdN s).getD 0 = 0) then (0, 4) else
  if (rdC s).2.2 = false then (mkRat (sg (rdNeg s) ((rdN s).getD 0)) 1, 0) else
  if (rdD s).isSome = false ∨ (rdD s).getD 0 ≤ 1 ∨ Nat.gcd ((rdN s).getD 0) ((rdD s).getD 0) ≠ 1 then (0, 4) else (mkRat (sg (rdNeg s) ((rdN s).getD 0)) ((rdD s).getD 0), 0)
def readR (s : ByteArray) : PV := packP [qP (readF s).1, .v (.int .i64 (readF s).2)]
theorem rd_1 {s : ByteArray} (h0 : 4000 < s.size) : readR s = packP [qP 0, .v (.int .i64 5)] := by rw [readR, readF, if_pos h0]
theorem rd_2 {s : ByteArray} (h0 : s.size ≤ 4000) (h : (rdN s).isSome = false ∨ rdNeg s = true ∧ (d9 ((rdN s).getD 0)).length = 0) : readR s = packP [qP 0, .v (.int .i64 4)] := by
  rw [readR, readF, if_neg (by omega), if_pos (by rwa [d9_nil] at h)]
theorem rd_n {s : ByteArray} (h : (rdN s).isSome = true ∧ (rdNeg s = false ∨ ¬ (d9 ((rdN s).getD 0)).length = 0)) : ¬ ((rdN s).isSome = false ∨ (rdNeg s = true ∧ (rdN s).getD 0 = 0)) := by
  rw [d9_nil] at h
  rintro (h1 | ⟨h1, h2⟩)
  · rw [h1] at h; cases h.1
  · rcases h.2 with h3 | h3
    · rw [h1] at h3; cases h3
    · exact h3 h2
theorem rd_3 {s : ByteArray} (h0 : s.size ≤ 4000) (h1 : (rdN s).isSome = true ∧ (rdNeg s = false ∨ ¬ (d9 ((rdN s).getD 0)).length = 0)) (h2 : (rdC s).2.2 = false) :
    readR s = packP [qP (mkRat (sg (rdNeg s) ((rdN s).getD 0)) 1), .v (.int .i64 0)] ∧ rdNeg s = decide ((mkRat (sg (rdNeg s) ((rdN s).getD 0)) 1).num < 0) := by
  refine ⟨by rw [readR, readF, if_neg (by omega), if_neg (rd_n h1), if_pos h2], ?_⟩
  rw [(mk1 _).1, Bool.eq_iff_iff, decide_eq_true_iff, sg_neg]
  have h3 := h1.2
  rw [d9_nil] at h3
  constructor
  · intro h; rw [h] at h3 ⊢; exact ⟨rfl, by rcases h3 with h3 | h3; cases h3; omega⟩
  · intro h; exact h.1
theorem rd_4 {s : ByteArray} (h0 : s.size ≤ 4000) (h1 : (rdN s).isSome = true ∧ (rdNeg s = false ∨ ¬ (d9 ((rdN s).getD 0)).length = 0)) (h2 : (rdC s).2.2 = true)
    (h3 : ((rdD s).isSome = false ∨ cmpI ((rdD s).getD 0) 1 ≤ 0) ∨ ¬ cmpI (Nat.gcd ((rdN s).getD 0) ((rdD s).getD 0)) 1 = 0) : readR s = packP [qP 0, .v (.int .i64 4)] := by
  rw [readR, readF, if_neg (by omega), if_neg (rd_n h1), if_neg (by rw [h2]; simp), if_pos]
  rcases h3 with (h3 | h3) | h3
  · exact .inl h3
  · have := cmpI_pos (x := (rdD s).getD 0) (y := 1)
    exact .inr (.inl (by omega))
  · exact .inr (.inr fun e => h3 (cmpI_zero.2 e))
theorem rd_5 {s : ByteArray} (h0 : s.size ≤ 4000) (h1 : (rdN s).isSome = true ∧ (rdNeg s = false ∨ ¬ (d9 ((rdN s).getD 0)).length = 0)) (h2 : (rdC s).2.2 = true)
    (h3 : ((rdD s).isSome = true ∧ 0 < cmpI ((rdD s).getD 0) 1) ∧ cmpI (Nat.gcd ((rdN s).getD 0) ((rdD s).getD 0)) 1 = 0) :
    readR s = packP [qP (mkRat (sg (rdNeg s) ((rdN s).getD 0)) ((rdD s).getD 0)), .v (.int .i64 0)] ∧ rdNeg s = decide ((mkRat (sg (rdNeg s) ((rdN s).getD 0)) ((rdD s).getD 0)).num < 0) ∧
      (mkRat (sg (rdNeg s) ((rdN s).getD 0)) ((rdD s).getD 0)).num.natAbs = (rdN s).getD 0 ∧ (mkRat (sg (rdNeg s) ((rdN s).getD 0)) ((rdD s).getD 0)).den = (rdD s).getD 0 ∧ (rdD s).getD 0 ≠ 1 := by
  obtain ⟨⟨h4, h5⟩, h6⟩ := h3
  rw [cmpI_pos] at h5
  rw [cmpI_zero] at h6
  generalize hd : (rdD s).getD 0 = d at *
  generalize hn : (rdN s).getD 0 = n at *
  obtain ⟨f1, f2, f3⟩ := ratio_f (rdNeg s) (n := n) (d := d) (N := n) (D := d) (by omega) (by rw [h6, Nat.div_one]) (by rw [h6, Nat.div_one])
  refine ⟨?_, ?_, f1, f2, by omega⟩
  · rw [readR, readF, if_neg (by omega), if_neg (by rw [hn]; have := rd_n (s := s) (by rw [hn]; exact h1); rwa [hn] at this), if_neg (by rw [h2]; simp), if_neg, hn, hd]
    rw [hn, hd, h4]
    rintro (h | h | h)
    · cases h
    · omega
    · exact h h6
  · rw [← f3]
    have h3 := h1.2
    have h7 := d9_nil n
    cases hng : rdNeg s with
    | false => rfl
    | true =>
      rw [hng] at h3
      have : 0 < (d9 n).length := by rcases h3 with h3 | h3; cases h3; omega
      simp [this]
theorem gcd_len (n d : Nat) : (d9 (Nat.gcd n d)).length ≤ max (d9 n).length (d9 d).length := by
  rcases Nat.eq_zero_or_pos d with rfl | h
  · rw [Nat.gcd_zero_right]; omega
  · have := d9_mono (Nat.gcd_le_right n h); omega

theorem natF_len (l : List Nat) : (d9 ((natF l).getD 0)).length ≤ l.length := by
  unfold natF
  split
  · rename_i h; rw [Option.getD_none, d9_zero]; exact Nat.zero_le _
  · rename_i h
    have h : l.all isDig = true := Decidable.byContradiction fun hn => h (.inr (.inr hn))
    have h1 := decV_lt l fun b hb => by have := List.all_eq_true.1 h b hb; simp [isDig] at this; omega
    refine dl_le_of_lt (by omega) (Nat.lt_of_lt_of_le h1 ?_)
    exact Nat.pow_le_pow_left (by omega) _
theorem trim_len (l p : List UInt8) : (Lib.trimPrefix l p).length ≤ l.length := by
  unfold Lib.trimPrefix; split
  · simp
  · exact Nat.le_refl _
theorem cut_len1 (l p : List UInt8) : (Lib.cut l p).1.length ≤ l.length := by
  unfold Lib.cut; split <;> simp <;> omega
theorem cut_len2 (l p : List UInt8) : (Lib.cut l p).2.1.length ≤ l.length := by
  unfold Lib.cut; split <;> simp
theorem rdN_len (s : ByteArray) : (d9 ((rdN s).getD 0)).length ≤ s.size := by
  have h := natF_len ((rdC s).1.map UInt8.toNat)
  rw [List.length_map] at h
  have h1 := cut_len1 (Lib.trimPrefix s.data.toList [45]) [47]
  have h2 := trim_len s.data.toList [45]
  have h3 : s.data.toList.length = s.size := rfl
  have h4 : (rdC s).1.length = (Lib.cut (Lib.trimPrefix s.data.toList [45]) [47]).1.length := rfl
  unfold rdN
  omega
theorem rdD_len (s : ByteArray) : (d9 ((rdD s).getD 0)).length ≤ s.size := by
  have h := natF_len ((rdC s).2.1.map UInt8.toNat)
  rw [List.length_map] at h
  have h1 := cut_len2 (Lib.trimPrefix s.data.toList [45]) [47]
  have h2 := trim_len s.data.toList [45]
  have h3 : s.data.toList.length = s.size := rfl
  have h4 : (rdC s).2.1.length = (Lib.cut (Lib.trimPrefix s.data.toList [45]) [47]).2.1.length := rfl
  unfold rdD
  omega
theorem rdC_len (s : ByteArray) : (rdC s).1.length ≤ s.size ∧ (rdC s).2.1.length ≤ s.size := by
  have h1 := cut_len1 (Lib.trimPrefix s.data.toList [45]) [47]
  have h1' := cut_len2 (Lib.trimPrefix s.data.toList [45]) [47]
  have h2 := trim_len s.data.toList [45]
  have h3 : s.data.toList.length = s.size := rfl
  exact ⟨Nat.le_trans h1 h2, Nat.le_trans h1' h2⟩
end Vou
end

section
set_option linter.unusedVariables false
set_option linter.unusedSimpArgs false
namespace Vou
open Go Go.RowKit Go.Proofs.Tryz
theorem w_pre (s : ByteArray) : FnP prog 82 [.v (.string s), .v (.string ⟨#[45]⟩)] (packP [.v (sV (Lib.trimPrefix s.data.toList [45])), .v (.bool (rdNeg s))]) := w_cutPrefix s ⟨#[45]⟩
theorem w_cutR (s : ByteArray) (h : s.size ≤ 4000) : FnP prog 83 [.v (sV (Lib.trimPrefix s.data.toList [45])), .v (.string ⟨#[47]⟩)] (packP [.v (sV (rdC s).1), .v (sV (rdC s).2.1), .v (.bool (rdC s).2.2)]) :=
  w_cut ⟨(Lib.trimPrefix s.data.toList [45]).toArray⟩ ⟨#[47]⟩ (by
    have h1 := trim_len s.data.toList [45]
    have h3 : s.data.toList.length = s.size := rfl
    rw [ba_size]; omega)
theorem w_natN (s : ByteArray) (h : s.size ≤ 4000) : FnP prog 84 [.v (sV (rdC s).1)] (natR (rdN s)) := w_natFrom ⟨(rdC s).1.toArray⟩ (by rw [ba_size]; have := rdC_len s; omega)
theorem w_natD (s : ByteArray) (h : s.size ≤ 4000) : FnP prog 84 [.v (sV (rdC s).2.1)] (natR (rdD s)) := w_natFrom ⟨(rdC s).2.1.toArray⟩ (by rw [ba_size]; have := rdC_len s; omega)

theorem w_qtext (r : Rat) (hr : qh r < 1000000) : FnP prog 18 [qP r] (packP [.v (sV (qT r))]) := by
  have h1 := qh_num r
  have h2 := qh_den r
  have h3 := qh_dn r
  have h4 := dn_len r.den_nz
  have l1 := dec_len_d9 r.num.natAbs
  have l2 := dec_len_d9 r.den
  have l3 := dec_len_d9 (dn r.den)
  refine fnP_of (fn := f18) fn18 rfl (Nat.le_of_ble_eq_true rfl) ?_
  refine r_seq ?_
  refine r_reg ?_
  refine r_op rfl (o_box (some 1) ⟨rfl, rfl⟩ rfl 1 rfl rfl rfl rfl) ?_
  refine r_op rfl (o_as (some 2) ⟨rfl, rfl⟩ rfl (by exact (rfl : _ = AV.p _))) ?_
  refine r_end ?_
  refine s_n ?_
  refine r_seq ?_
  refine r_reg ?_
  refine r_op rfl (o_fld (some 4) ⟨rfl, rfl⟩ rfl rfl rfl rfl ty26 fe26_1 ty24 rfl rfl) ?_
  refine r_op rfl (o_ld1 (some 5) ⟨rfl, rfl⟩ rfl rfl rfl rfl ty24 rfl rfl) ?_
  refine r_op rfl (o_call (some 6) ⟨rfl, rfl⟩ tx91 rfl rfl (w_text r.num.natAbs (by omega)) (convL_cons (by first | exact conv_p _ | exact conv_nilP _ | exact conv_nil _ | exact conv_sl rfl | exact conv_nums rfl rfl rfl rfl (by rfl) (by rfl)) convL_nil)) ?_
  refine r_op rfl (o_as (some 3) ⟨rfl, rfl⟩ rfl (by exact (rfl : _ = AV.p _))) ?_
  refine r_end ?_
  refine s_n ?_
  refine r_seq ?_
  refine r_seq ?_
  refine r_reg ?_
  refine r_op rfl (o_fld (some 7) ⟨rfl, rfl⟩ rfl rfl rfl rfl ty26 fe26_0 ty4 rfl rfl) ?_
  refine r_op rfl (o_ld1 (some 8) ⟨rfl, rfl⟩ rfl rfl rfl rfl ty4 rfl rfl) ?_
  refine r_end ?_
  refine s_n ?_
  refine r_cond rfl (fun hc => ?_) (fun hc => ?_)
  · try simp only [decide_eq_true_eq, decide_eq_false_iff_not, Nat.not_lt, Nat.not_le, Bool.and_eq_true, Bool.or_eq_true, Bool.and_eq_false_iff, Bool.or_eq_false_iff, Bool.not_eq_true', Bool.not_eq_false', beq_iff_eq, beq_eq_false_iff_ne, ne_eq, Decidable.not_not] at hc
    refine r_reg ?_
    refine r_op rfl (o_mv (some 9) ⟨rfl, rfl⟩ rfl (by exact (rfl : _ = AV.p _))) ?_
    refine r_op rfl (o_sadd (some 10) ⟨rfl, rfl⟩ rfl rfl rfl (by first | omega | (rw [ba_size]; first | omega | (rw [ba_size]; show 1 + _ < _; omega)) | (show 1 + (Lib.decDigits _).toArray.size < _; simp; omega) | (simp [ba_app, ba_size]; omega))) ?_
    refine r_op rfl (o_as (some 3) ⟨rfl, rfl⟩ rfl (by exact (rfl : _ = AV.p _))) ?_
    refine r_end ?_
    refine s_n ?_
    refine r_seq ?_
    refine r_seq ?_
    refine r_reg ?_
    refine r_op rfl (o_fld (some 11) ⟨rfl, rfl⟩ rfl rfl rfl rfl ty26 fe26_2 ty24 rfl rfl) ?_
    refine r_op rfl (o_ld1 (some 12) ⟨rfl, rfl⟩ rfl rfl rfl rfl ty24 rfl rfl) ?_
    refine r_op rfl ((by first | exact o_lenN (some 13) ⟨rfl, rfl⟩ rfl rfl ty24 rfl | exact o_lenO (some 13) ⟨rfl, rfl⟩ rfl rfl rfl rfl ty24 | exact o_lenZ (some 13) ⟨rfl, rfl⟩ rfl rfl ty24 | exact o_lenP (some 13) ⟨rfl, rfl⟩ rfl rfl ty24 rfl)) ?_
    refine r_op rfl (o_gtr (some 14) ⟨rfl, rfl⟩ rfl (by exact (rfl : _ = I _ 0)) rfl) ?_
    refine r_end ?_
    refine s_n ?_
    refine r_cond rfl (fun hc_1 => ?_) (fun hc_1 => ?_)
    · try simp only [decide_eq_true_eq, decide_eq_false_iff_not, Nat.not_lt, Nat.not_le, Bool.and_eq_true, Bool.or_eq_true, Bool.and_eq_false_iff, Bool.or_eq_false_iff, Bool.not_eq_true', Bool.not_eq_false', beq_iff_eq, beq_eq_false_iff_ne, ne_eq, Decidable.not_not] at hc_1
      refine r_reg ?_
      refine r_op rfl (o_mv (some 15) ⟨rfl, rfl⟩ rfl (by exact (rfl : _ = AV.p _))) ?_
      refine r_op rfl (o_fld (some 16) ⟨rfl, rfl⟩ rfl rfl rfl rfl ty26 fe26_2 ty24 rfl rfl) ?_
      refine r_op rfl (o_ld1 (some 17) ⟨rfl, rfl⟩ rfl rfl rfl rfl ty24 rfl rfl) ?_
      refine r_op rfl (o_call (some 18) ⟨rfl, rfl⟩ tx91 rfl rfl (w_text (dn r.den) (by omega)) (convL_cons (by first | exact conv_p _ | exact conv_nilP _ | exact conv_nil _ | exact conv_sl rfl | exact conv_nums rfl rfl rfl rfl (by rfl) (by rfl)) convL_nil)) ?_
      refine r_op rfl (o_sadd (some 19) ⟨rfl, rfl⟩ rfl rfl rfl (by first | omega | (rw [ba_size]; first | omega | (rw [ba_size]; show 1 + _ < _; omega)) | (show 1 + (Lib.decDigits _).toArray.size < _; simp; omega) | (simp [ba_app, ba_size]; omega))) ?_
      refine r_op rfl (o_sadd (some 20) ⟨rfl, rfl⟩ rfl rfl rfl (by first | omega | (rw [ba_size]; first | omega | (rw [ba_size]; show 1 + _ < _; omega)) | (show 1 + (Lib.decDigits _).toArray.size < _; simp; omega) | (simp [ba_app, ba_size]; omega))) ?_
      refine r_op rfl (o_as (some 3) ⟨rfl, rfl⟩ rfl (by exact (rfl : _ = AV.p _))) ?_
      refine r_end ?_
      refine s_n ?_
      refine r_seq ?_
      refine r_reg ?_
      refine r_op rfl (o_mv (some 21) ⟨rfl, rfl⟩ rfl (by exact (rfl : _ = AV.p _))) ?_
      refine r_op rfl (o_as (some 2) ⟨rfl, rfl⟩ rfl (by exact (rfl : _ = AV.p _))) ?_
      refine r_end ?_
      refine s_n ?_
      refine r_ret ?_
      refine ⟨.inl rfl, [.v (sV (qT r))], rfl, ?_⟩
      exact resL_cons (res_tmp (conv_pe rfl (by rw [qT_nd hc (fun h => by have := h4.2 h; omega), dn_ne (fun h => by have := h4.2 h; omega)]))) (resL_nil)
    · try simp only [decide_eq_true_eq, decide_eq_false_iff_not, Nat.not_lt, Nat.not_le, Bool.and_eq_true, Bool.or_eq_true, Bool.and_eq_false_iff, Bool.or_eq_false_iff, Bool.not_eq_true', Bool.not_eq_false', beq_iff_eq, beq_eq_false_iff_ne, ne_eq, Decidable.not_not] at hc_1
      refine r_skip ?_
      refine s_n ?_
      refine r_seq ?_
      refine r_reg ?_
      refine r_op rfl (o_mv (some 21) ⟨rfl, rfl⟩ rfl (by exact (rfl : _ = AV.p _))) ?_
      refine r_op rfl (o_as (some 2) ⟨rfl, rfl⟩ rfl (by exact (rfl : _ = AV.p _))) ?_
      refine r_end ?_
      refine s_n ?_
      refine r_ret ?_
      refine ⟨.inl rfl, [.v (sV (qT r))], rfl, ?_⟩
      exact resL_cons (res_tmp (conv_pe rfl (by rw [qT_ni hc (h4.1 (by omega))]))) (resL_nil)
  · try simp only [decide_eq_true_eq, decide_eq_false_iff_not, Nat.not_lt, Nat.not_le, Bool.and_eq_true, Bool.or_eq_true, Bool.and_eq_false_iff, Bool.or_eq_false_iff, Bool.not_eq_true', Bool.not_eq_false', beq_iff_eq, beq_eq_false_iff_ne, ne_eq, Decidable.not_not] at hc
    refine r_skip ?_
    refine s_n ?_
    refine r_seq ?_
    refine r_seq ?_
    refine r_reg ?_
    refine r_op rfl (o_fld (some 11) ⟨rfl, rfl⟩ rfl rfl rfl rfl ty26 fe26_2 ty24 rfl rfl) ?_
    refine r_op rfl (o_ld1 (some 12) ⟨rfl, rfl⟩ rfl rfl rfl rfl ty24 rfl rfl) ?_
    refine r_op rfl ((by first | exact o_lenN (some 13) ⟨rfl, rfl⟩ rfl rfl ty24 rfl | exact o_lenO (some 13) ⟨rfl, rfl⟩ rfl rfl rfl rfl ty24 | exact o_lenZ (some 13) ⟨rfl, rfl⟩ rfl rfl ty24 | exact o_lenP (some 13) ⟨rfl, rfl⟩ rfl rfl ty24 rfl)) ?_
    refine r_op rfl (o_gtr (some 14) ⟨rfl, rfl⟩ rfl (by exact (rfl : _ = I _ 0)) rfl) ?_
    refine r_end ?_
    refine s_n ?_
    refine r_cond rfl (fun hc_2 => ?_) (fun hc_2 => ?_)
    · try simp only [decide_eq_true_eq, decide_eq_false_iff_not, Nat.not_lt, Nat.not_le, Bool.and_eq_true, Bool.or_eq_true, Bool.and_eq_false_iff, Bool.or_eq_false_iff, Bool.not_eq_true', Bool.not_eq_false', beq_iff_eq, beq_eq_false_iff_ne, ne_eq, Decidable.not_not] at hc_2
      refine r_reg ?_
      refine r_op rfl (o_mv (some 15) ⟨rfl, rfl⟩ rfl (by exact (rfl : _ = AV.p _))) ?_
      refine r_op rfl (o_fld (some 16) ⟨rfl, rfl⟩ rfl rfl rfl rfl ty26 fe26_2 ty24 rfl rfl) ?_
      refine r_op rfl (o_ld1 (some 17) ⟨rfl, rfl⟩ rfl rfl rfl rfl ty24 rfl rfl) ?_
      refine r_op rfl (o_call (some 18) ⟨rfl, rfl⟩ tx91 rfl rfl (w_text (dn r.den) (by omega)) (convL_cons (by first | exact conv_p _ | exact conv_nilP _ | exact conv_nil _ | exact conv_sl rfl | exact conv_nums rfl rfl rfl rfl (by rfl) (by rfl)) convL_nil)) ?_
      refine r_op rfl (o_sadd (some 19) ⟨rfl, rfl⟩ rfl rfl rfl (by first | omega | (rw [ba_size]; first | omega | (rw [ba_size]; show 1 + _ < _; omega)) | (show 1 + (Lib.decDigits _).toArray.size < _; simp; omega) | (simp [ba_app, ba_size]; omega))) ?_
      refine r_op rfl (o_sadd (some 20) ⟨rfl, rfl⟩ rfl rfl rfl (by first | omega | (rw [ba_size]; first | omega | (rw [ba_size]; show 1 + _ < _; omega)) | (show 1 + (Lib.decDigits _).toArray.size < _; simp; omega) | (simp [ba_app, ba_size]; omega))) ?_
      refine r_op rfl (o_as (some 3) ⟨rfl, rfl⟩ rfl (by exact (rfl : _ = AV.p _))) ?_
      refine r_end ?_
      refine s_n ?_
      refine r_seq ?_
      refine r_reg ?_
      refine r_op rfl (o_mv (some 21) ⟨rfl, rfl⟩ rfl (by exact (rfl : _ = AV.p _))) ?_
      refine r_op rfl (o_as (some 2) ⟨rfl, rfl⟩ rfl (by exact (rfl : _ = AV.p _))) ?_
      refine r_end ?_
      refine s_n ?_
      refine r_ret ?_
      refine ⟨.inl rfl, [.v (sV (qT r))], rfl, ?_⟩
      exact resL_cons (res_tmp (conv_pe rfl (by rw [qT_pd hc (fun h => by have := h4.2 h; omega), dn_ne (fun h => by have := h4.2 h; omega)]))) (resL_nil)
    · try simp only [decide_eq_true_eq, decide_eq_false_iff_not, Nat.not_lt, Nat.not_le, Bool.and_eq_true, Bool.or_eq_true, Bool.and_eq_false_iff, Bool.or_eq_false_iff, Bool.not_eq_true', Bool.not_eq_false', beq_iff_eq, beq_eq_false_iff_ne, ne_eq, Decidable.not_not] at hc_2
      refine r_skip ?_
      refine s_n ?_
      refine r_seq ?_
      refine r_reg ?_
      refine r_op rfl (o_mv (some 21) ⟨rfl, rfl⟩ rfl (by exact (rfl : _ = AV.p _))) ?_
      refine r_op rfl (o_as (some 2) ⟨rfl, rfl⟩ rfl (by exact (rfl : _ = AV.p _))) ?_
      refine r_end ?_
      refine s_n ?_
      refine r_ret ?_
      refine ⟨.inl rfl, [.v (sV (qT r))], rfl, ?_⟩
      exact resL_cons (res_tmp (conv_pe rfl (by rw [qT_pi hc (h4.1 (by omega))]))) (resL_nil)

theorem w_read (s : ByteArray) : FnP prog 15 [.v (.string s)] (readR s) := by
  have hl := rdC_len s
  have hn := rdN_len s
  have hd := rdD_len s
  have hg := gcd_len ((rdN s).getD 0) ((rdD s).getD 0)
  have h1l : (d9 1).length = 1 := by rw [d9_one]; rfl
  refine fnP_of (fn := f15) fn15 rfl (Nat.le_of_ble_eq_true rfl) ?_
  refine r_seq ?_
  refine r_reg ?_
  refine r_op rfl (o_alloc (some 2) ⟨rfl, rfl⟩ rfl 2 rfl rfl ty26 rfl rfl) ?_
  refine r_op rfl (o_as (some 3) ⟨rfl, rfl⟩ rfl (by exact (rfl : _ = I _ 0))) ?_
  refine r_end ?_
  refine s_n ?_
  refine r_seq ?_
  refine r_seq ?_
  refine r_reg ?_
  refine r_op rfl (o_mv (some 12) ⟨rfl, rfl⟩ rfl (by first | exact (rfl : _ = I _ _) | exact (rfl : _ = AV.p _) | exact (rfl : _ = AV.ptr _ _) | exact (rfl : _ = AV.own _ _ _ _ _) | exact (rfl : _ = AV.agg _) | exact (rfl : _ = AV.fn _ _))) ?_
  refine r_op rfl (o_lenS (some 13) ⟨rfl, rfl⟩ rfl rfl ty9) ?_
  refine r_op rfl (o_gtr (some 14) ⟨rfl, rfl⟩ rfl (by exact (rfl : _ = I _ 4000)) rfl) ?_
  refine r_end ?_
  refine s_n ?_
  refine r_cond rfl (fun hc => ?_) (fun hc => ?_)
  · try simp only [decide_eq_true_eq, decide_eq_false_iff_not, Nat.not_lt, Nat.not_le, Bool.and_eq_true, Bool.or_eq_true, Bool.and_eq_false_iff, Bool.or_eq_false_iff, Bool.not_eq_true', Bool.not_eq_false', beq_iff_eq, beq_eq_false_iff_ne, ne_eq, Decidable.not_not] at hc
    refine r_seq ?_
    refine r_reg ?_
    refine r_op rfl (o_bld (some 15) ⟨rfl, rfl⟩ rfl ty26 pl26 rfl rfl) ?_
    refine r_op rfl (o_stA rfl rfl rfl rfl rfl rfl ty26 rfl rfl rfl rfl rfl) ?_
    refine r_op rfl (o_as (some 3) ⟨rfl, rfl⟩ rfl (by exact (rfl : _ = I _ 5))) ?_
    refine r_end ?_
    refine s_n ?_
    refine r_ret ?_
    refine s_ret ?_
    refine ⟨.inl rfl, [qP 0, .v (.int .i64 5)], rd_1 hc, ?_⟩
    exact resL_cons (res_cell rfl rfl rfl ty26 rfl (Nat.le_of_ble_eq_true rfl) conv_q0) (resL_cons (res_tmp (conv_p _)) (resL_nil))
  · try simp only [decide_eq_true_eq, decide_eq_false_iff_not, Nat.not_lt, Nat.not_le, Bool.and_eq_true, Bool.or_eq_true, Bool.and_eq_false_iff, Bool.or_eq_false_iff, Bool.not_eq_true', Bool.not_eq_false', beq_iff_eq, beq_eq_false_iff_ne, ne_eq, Decidable.not_not] at hc
    have h40 : s.size ≤ 4000 := by omega
    refine r_skip ?_
    refine s_n ?_
    refine r_seq ?_
    refine r_reg ?_
    refine r_op rfl (o_mv (some 17) ⟨rfl, rfl⟩ rfl (by first | exact (rfl : _ = I _ _) | exact (rfl : _ = AV.p _) | exact (rfl : _ = AV.ptr _ _) | exact (rfl : _ = AV.own _ _ _ _ _) | exact (rfl : _ = AV.agg _) | exact (rfl : _ = AV.fn _ _))) ?_
    refine r_op rfl (o_call (some 18) ⟨rfl, rfl⟩ tx82 rfl rfl (w_pre s) (convL_cons (conv_p _) (convL_cons (conv_p _) convL_nil))) ?_
    refine r_op rfl (o_mv (some 16) ⟨rfl, rfl⟩ rfl (by exact (rfl : _ = AV.p _))) ?_
    refine r_op rfl (o_ext (some 19) ⟨rfl, rfl⟩ rfl rfl rfl) ?_
    refine r_op rfl (o_ext (some 20) ⟨rfl, rfl⟩ rfl rfl rfl) ?_
    refine r_op rfl (o_as (some 4) ⟨rfl, rfl⟩ rfl (by exact (rfl : _ = AV.p _))) ?_
    refine r_op rfl (o_as (some 5) ⟨rfl, rfl⟩ rfl (by exact (rfl : _ = AV.p _))) ?_
    refine r_end ?_
    refine s_n ?_
    refine r_seq ?_
    refine r_reg ?_
    refine r_op rfl (o_mv (some 22) ⟨rfl, rfl⟩ rfl (by exact (rfl : _ = AV.p _))) ?_
    refine r_op rfl (o_call (some 23) ⟨rfl, rfl⟩ tx83 rfl rfl (w_cutR s (by omega)) (convL_cons (conv_p _) (convL_cons (conv_p _) convL_nil))) ?_
    refine r_op rfl (o_mv (some 21) ⟨rfl, rfl⟩ rfl (by exact (rfl : _ = AV.p _))) ?_
    refine r_op rfl (o_ext (some 24) ⟨rfl, rfl⟩ rfl rfl rfl) ?_
    refine r_op rfl (o_ext (some 25) ⟨rfl, rfl⟩ rfl rfl rfl) ?_
    refine r_op rfl (o_ext (some 26) ⟨rfl, rfl⟩ rfl rfl rfl) ?_
    refine r_op rfl (o_as (some 6) ⟨rfl, rfl⟩ rfl (by exact (rfl : _ = AV.p _))) ?_
    refine r_op rfl (o_as (some 7) ⟨rfl, rfl⟩ rfl (by exact (rfl : _ = AV.p _))) ?_
    refine r_op rfl (o_as (some 8) ⟨rfl, rfl⟩ rfl (by exact (rfl : _ = AV.p _))) ?_
    refine r_end ?_
    refine s_n ?_
    refine r_seq ?_
    refine r_reg ?_
    refine r_op rfl (o_mv (some 28) ⟨rfl, rfl⟩ rfl (by exact (rfl : _ = AV.p _))) ?_
    refine r_op rfl (o_call (some 29) ⟨rfl, rfl⟩ tx84 rfl rfl (w_natN s (by omega)) (convL_cons (conv_p _) convL_nil)) ?_
    refine r_op rfl (o_mv (some 27) ⟨rfl, rfl⟩ rfl (by exact (rfl : _ = AV.p _))) ?_
    refine r_op rfl (o_ext (some 30) ⟨rfl, rfl⟩ rfl rfl rfl) ?_
    refine r_op rfl (o_ext (some 31) ⟨rfl, rfl⟩ rfl rfl rfl) ?_
    refine r_op rfl (o_as (some 9) ⟨rfl, rfl⟩ rfl (by exact (rfl : _ = AV.p _))) ?_
    refine r_op rfl (o_as (some 10) ⟨rfl, rfl⟩ rfl (by exact (rfl : _ = AV.p _))) ?_
    refine r_end ?_
    refine s_n ?_
    refine r_seq ?_
    refine r_seq ?_
    refine r_reg ?_
    refine r_op rfl (o_mv (some 32) ⟨rfl, rfl⟩ rfl (by exact (rfl : _ = AV.p _))) ?_
    refine r_op rfl (o_not (some 33) ⟨rfl, rfl⟩ rfl rfl) ?_
    refine r_op rfl (o_mv (some 34) ⟨rfl, rfl⟩ rfl (by exact (rfl : _ = Bo _))) ?_
    refine r_gd (d := some 35) rfl rfl rfl rfl ⟨rfl, rfl⟩ (fun hb => o_mv (some 35) ⟨rfl, rfl⟩ rfl (by exact (rfl : _ = AV.p _))) ?_
    refine r_gd (d := some 36) rfl rfl rfl rfl ⟨rfl, rfl⟩ (fun hb => o_mv (some 36) ⟨rfl, rfl⟩ rfl (by exact (gd hb : _ = AV.p _))) ?_
    refine r_gd2 (d := some 37) rfl rfl rfl rfl ⟨rfl, rfl⟩ (fun hb => o_mv (some 37) ⟨rfl, rfl⟩ rfl (by exact (rfl : _ = AV.p _))) ?_
    refine r_gd2 (d := some 38) rfl rfl rfl rfl ⟨rfl, rfl⟩ (fun hb => (by first | exact o_lenN (some 38) ⟨rfl, rfl⟩ rfl (by exact gd hb) ty24 rfl | exact o_lenO (some 38) ⟨rfl, rfl⟩ rfl (by exact gd hb) rfl rfl ty24 | exact o_lenZ (some 38) ⟨rfl, rfl⟩ rfl (by exact gd hb) ty24 | exact o_lenP (some 38) ⟨rfl, rfl⟩ rfl (by exact gd hb) ty24 rfl)) ?_
    refine r_gd2 (d := some 39) rfl rfl rfl rfl ⟨rfl, rfl⟩ (fun hb => o_eql (some 39) ⟨rfl, rfl⟩ (by exact gd hb) (by exact (rfl : _ = I _ 0)) rfl) ?_
    refine r_gd (d := some 40) rfl rfl rfl rfl ⟨rfl, rfl⟩ (fun hb => o_and (some 40) ⟨rfl, rfl⟩ rfl (by exact gd hb) (by exact gd2 hb) rfl) ?_
    refine r_op rfl (o_or (some 41) ⟨rfl, rfl⟩ rfl rfl rfl rfl) ?_
    refine r_end ?_
    refine s_n ?_
    refine r_cond rfl (fun hc_1 => ?_) (fun hc_1 => ?_)
    · try simp only [decide_eq_true_eq, decide_eq_false_iff_not, Nat.not_lt, Nat.not_le, Bool.and_eq_true, Bool.or_eq_true, Bool.and_eq_false_iff, Bool.or_eq_false_iff, Bool.not_eq_true', Bool.not_eq_false', beq_iff_eq, beq_eq_false_iff_ne, ne_eq, Decidable.not_not] at hc_1
      refine r_seq ?_
      refine r_reg ?_
      refine r_op rfl (o_bld (some 42) ⟨rfl, rfl⟩ rfl ty26 pl26 rfl rfl) ?_
      refine r_op rfl (o_stA rfl rfl rfl rfl rfl rfl ty26 rfl rfl rfl rfl rfl) ?_
      refine r_op rfl (o_as (some 3) ⟨rfl, rfl⟩ rfl (by exact (rfl : _ = I _ 4))) ?_
      refine r_end ?_
      refine s_n ?_
      refine r_ret ?_
      refine s_ret ?_
      refine ⟨.inl rfl, [qP 0, .v (.int .i64 4)], rd_2 h40 hc_1, ?_⟩
      exact resL_cons (res_cell rfl rfl rfl ty26 rfl (Nat.le_of_ble_eq_true rfl) conv_q0) (resL_cons (res_tmp (conv_p _)) (resL_nil))
    · try simp only [decide_eq_true_eq, decide_eq_false_iff_not, Nat.not_lt, Nat.not_le, Bool.and_eq_true, Bool.or_eq_true, Bool.and_eq_false_iff, Bool.or_eq_false_iff, Bool.not_eq_true', Bool.not_eq_false', beq_iff_eq, beq_eq_false_iff_ne, ne_eq, Decidable.not_not] at hc_1
      refine r_skip ?_
      refine s_n ?_
      refine r_seq ?_
      refine r_seq ?_
      refine r_reg ?_
      refine r_op rfl (o_mv (some 43) ⟨rfl, rfl⟩ rfl (by exact (rfl : _ = AV.p _))) ?_
      refine r_op rfl (o_not (some 44) ⟨rfl, rfl⟩ rfl rfl) ?_
      refine r_end ?_
      refine s_n ?_
      refine r_cond rfl (fun hc_2 => ?_) (fun hc_2 => ?_)
      · try simp only [decide_eq_true_eq, decide_eq_false_iff_not, Nat.not_lt, Nat.not_le, Bool.and_eq_true, Bool.or_eq_true, Bool.and_eq_false_iff, Bool.or_eq_false_iff, Bool.not_eq_true', Bool.not_eq_false', beq_iff_eq, beq_eq_false_iff_ne, ne_eq, Decidable.not_not] at hc_2
        obtain ⟨k1, k2⟩ := rd_3 h40 hc_1 hc_2
        refine r_seq ?_
        refine r_reg ?_
        refine r_op rfl (o_mv (some 45) ⟨rfl, rfl⟩ rfl (by exact (rfl : _ = AV.p _))) ?_
        refine r_op rfl (o_mv (some 46) ⟨rfl, rfl⟩ rfl (by exact (rfl : _ = AV.p _))) ?_
        refine r_op rfl (o_bld (some 47) ⟨rfl, rfl⟩ rfl ty26 pl26 rfl rfl) ?_
        refine r_op rfl (o_stA rfl rfl rfl rfl rfl rfl ty26 rfl rfl rfl rfl rfl) ?_
        refine r_op rfl (o_as (some 3) ⟨rfl, rfl⟩ rfl (by exact (rfl : _ = I _ 0))) ?_
        refine r_end ?_
        refine s_n ?_
        refine r_ret ?_
        refine s_ret ?_
        refine ⟨.inl rfl, [qP (mkRat (sg (rdNeg s) ((rdN s).getD 0)) 1), .v (.int .i64 0)], k1, ?_⟩
        exact resL_cons (res_cell rfl rfl rfl ty26 rfl (Nat.le_of_ble_eq_true rfl) (conv_q k2 (conv_pe rfl (by rw [(mk1 _).1, sg_natAbs])) (conv_dn1 (mk1 _).2))) (resL_cons (res_tmp (conv_p _)) (resL_nil))
      · try simp only [decide_eq_true_eq, decide_eq_false_iff_not, Nat.not_lt, Nat.not_le, Bool.and_eq_true, Bool.or_eq_true, Bool.and_eq_false_iff, Bool.or_eq_false_iff, Bool.not_eq_true', Bool.not_eq_false', beq_iff_eq, beq_eq_false_iff_ne, ne_eq, Decidable.not_not] at hc_2
        refine r_skip ?_
        refine s_n ?_
        refine r_seq ?_
        refine r_reg ?_
        refine r_op rfl (o_mv (some 49) ⟨rfl, rfl⟩ rfl (by exact (rfl : _ = AV.p _))) ?_
        refine r_op rfl (o_call (some 50) ⟨rfl, rfl⟩ tx84 rfl rfl (w_natD s (by omega)) (convL_cons (conv_p _) convL_nil)) ?_
        refine r_op rfl (o_mv (some 48) ⟨rfl, rfl⟩ rfl (by exact (rfl : _ = AV.p _))) ?_
        refine r_op rfl (o_ext (some 51) ⟨rfl, rfl⟩ rfl rfl rfl) ?_
        refine r_op rfl (o_ext (some 52) ⟨rfl, rfl⟩ rfl rfl rfl) ?_
        refine r_op rfl (o_as (some 11) ⟨rfl, rfl⟩ rfl (by exact (rfl : _ = AV.p _))) ?_
        refine r_op rfl (o_as (some 10) ⟨rfl, rfl⟩ rfl (by exact (rfl : _ = AV.p _))) ?_
        refine r_end ?_
        refine s_n ?_
        refine r_seq ?_
        refine r_seq ?_
        refine r_reg ?_
        refine r_op rfl (o_mv (some 53) ⟨rfl, rfl⟩ rfl (by exact (rfl : _ = AV.p _))) ?_
        refine r_op rfl (o_not (some 54) ⟨rfl, rfl⟩ rfl rfl) ?_
        refine r_op rfl (o_mv (some 55) ⟨rfl, rfl⟩ rfl (by exact (rfl : _ = Bo _))) ?_
        refine r_gd (d := some 56) rfl rfl rfl rfl ⟨rfl, rfl⟩ (fun hb => o_mv (some 56) ⟨rfl, rfl⟩ rfl (by exact (rfl : _ = AV.p _))) ?_
        refine r_gd (d := some 57) rfl rfl rfl rfl ⟨rfl, rfl⟩ (fun hb => o_call (some 57) ⟨rfl, rfl⟩ tx86 rfl rfl w_one convL_nil) ?_
        refine r_gd (d := some 58) rfl rfl rfl rfl ⟨rfl, rfl⟩ (fun hb => o_call (some 58) ⟨rfl, rfl⟩ tx85 rfl rfl (w_cmp ((rdD s).getD 0) 1 (by omega) (by omega)) (convL_cons (conv_gd hb (by first | exact conv_p _ | exact conv_nilP _ | exact conv_nil _ | exact conv_sl rfl | exact conv_nums rfl rfl rfl rfl (by rfl) (by rfl))) (convL_cons (conv_gd hb (by first | exact conv_p _ | exact conv_nilP _ | exact conv_nil _ | exact conv_sl rfl | exact conv_nums rfl rfl rfl rfl (by rfl) (by rfl))) convL_nil))) ?_
        refine r_gd (d := some 59) rfl rfl rfl rfl ⟨rfl, rfl⟩ (fun hb => o_zleq (some 59) ⟨rfl, rfl⟩ (by exact (gd hb : _ = Z _ _)) (by exact (rfl : _ = Z _ (0))) rfl) ?_
        refine r_op rfl (o_or (some 60) ⟨rfl, rfl⟩ rfl rfl rfl rfl) ?_
        refine r_op rfl (o_mv (some 61) ⟨rfl, rfl⟩ rfl (by exact (rfl : _ = Bo _))) ?_
        refine r_gd (d := some 62) rfl rfl rfl rfl ⟨rfl, rfl⟩ (fun hb => o_mv (some 62) ⟨rfl, rfl⟩ rfl (by exact (rfl : _ = AV.p _))) ?_
        refine r_gd (d := some 63) rfl rfl rfl rfl ⟨rfl, rfl⟩ (fun hb => o_mv (some 63) ⟨rfl, rfl⟩ rfl (by exact (rfl : _ = AV.p _))) ?_
        refine r_gd (d := some 64) rfl rfl rfl rfl ⟨rfl, rfl⟩ (fun hb => o_call (some 64) ⟨rfl, rfl⟩ tx87 rfl rfl (w_gcd ((rdN s).getD 0) ((rdD s).getD 0) (by omega) (by omega)) (convL_cons (conv_gd hb (by first | exact conv_p _ | exact conv_nilP _ | exact conv_nil _ | exact conv_sl rfl | exact conv_nums rfl rfl rfl rfl (by rfl) (by rfl))) (convL_cons (conv_gd hb (by first | exact conv_p _ | exact conv_nilP _ | exact conv_nil _ | exact conv_sl rfl | exact conv_nums rfl rfl rfl rfl (by rfl) (by rfl))) convL_nil))) ?_
        refine r_gd (d := some 65) rfl rfl rfl rfl ⟨rfl, rfl⟩ (fun hb => o_call (some 65) ⟨rfl, rfl⟩ tx86 rfl rfl w_one convL_nil) ?_
        refine r_gd (d := some 66) rfl rfl rfl rfl ⟨rfl, rfl⟩ (fun hb => o_call (some 66) ⟨rfl, rfl⟩ tx85 rfl rfl (w_cmp (Nat.gcd ((rdN s).getD 0) ((rdD s).getD 0)) 1 (by omega) (by omega)) (convL_cons (conv_gd hb (by first | exact conv_p _ | exact conv_nilP _ | exact conv_nil _ | exact conv_sl rfl | exact conv_nums rfl rfl rfl rfl (by rfl) (by rfl))) (convL_cons (conv_gd hb (by first | exact conv_p _ | exact conv_nilP _ | exact conv_nil _ | exact conv_sl rfl | exact conv_nums rfl rfl rfl rfl (by rfl) (by rfl))) convL_nil))) ?_
        refine r_gd (d := some 67) rfl rfl rfl rfl ⟨rfl, rfl⟩ (fun hb => o_zneq (some 67) ⟨rfl, rfl⟩ (by exact (gd hb : _ = Z _ _)) (by exact (rfl : _ = Z _ (0))) rfl) ?_
        refine r_op rfl (o_or (some 68) ⟨rfl, rfl⟩ rfl rfl rfl rfl) ?_
        refine r_end ?_
        refine s_n ?_
        refine r_cond rfl (fun hc_3 => ?_) (fun hc_3 => ?_)
        · try simp only [decide_eq_true_eq, decide_eq_false_iff_not, Nat.not_lt, Nat.not_le, Bool.and_eq_true, Bool.or_eq_true, Bool.and_eq_false_iff, Bool.or_eq_false_iff, Bool.not_eq_true', Bool.not_eq_false', beq_iff_eq, beq_eq_false_iff_ne, ne_eq, Decidable.not_not] at hc_3
          refine r_seq ?_
          refine r_reg ?_
          refine r_op rfl (o_bld (some 69) ⟨rfl, rfl⟩ rfl ty26 pl26 rfl rfl) ?_
          refine r_op rfl (o_stA rfl rfl rfl rfl rfl rfl ty26 rfl rfl rfl rfl rfl) ?_
          refine r_op rfl (o_as (some 3) ⟨rfl, rfl⟩ rfl (by exact (rfl : _ = I _ 4))) ?_
          refine r_end ?_
          refine s_n ?_
          refine r_ret ?_
          refine s_ret ?_
          refine ⟨.inl rfl, [qP 0, .v (.int .i64 4)], rd_4 h40 hc_1 hc_2 hc_3, ?_⟩
          exact resL_cons (res_cell rfl rfl rfl ty26 rfl (Nat.le_of_ble_eq_true rfl) conv_q0) (resL_cons (res_tmp (conv_p _)) (resL_nil))
        · try simp only [decide_eq_true_eq, decide_eq_false_iff_not, Nat.not_lt, Nat.not_le, Bool.and_eq_true, Bool.or_eq_true, Bool.and_eq_false_iff, Bool.or_eq_false_iff, Bool.not_eq_true', Bool.not_eq_false', beq_iff_eq, beq_eq_false_iff_ne, ne_eq, Decidable.not_not] at hc_3
          obtain ⟨k1, k2, k3, k4, k5⟩ := rd_5 h40 hc_1 hc_2 ⟨⟨hc_3.1.1, by omega⟩, hc_3.2⟩
          refine r_skip ?_
          refine s_n ?_
          refine r_seq ?_
          refine r_reg ?_
          refine r_op rfl (o_mv (some 70) ⟨rfl, rfl⟩ rfl (by exact (rfl : _ = AV.p _))) ?_
          refine r_op rfl (o_mv (some 71) ⟨rfl, rfl⟩ rfl (by exact (rfl : _ = AV.p _))) ?_
          refine r_op rfl (o_mv (some 72) ⟨rfl, rfl⟩ rfl (by exact (rfl : _ = AV.p _))) ?_
          refine r_op rfl (o_bld (some 73) ⟨rfl, rfl⟩ rfl ty26 pl26 rfl rfl) ?_
          refine r_op rfl (o_stA rfl rfl rfl rfl rfl rfl ty26 rfl rfl rfl rfl rfl) ?_
          refine r_op rfl (o_as (some 3) ⟨rfl, rfl⟩ rfl (by exact (rfl : _ = I _ 0))) ?_
          refine r_end ?_
          refine s_n ?_
          refine r_ret ?_
          refine ⟨.inl rfl, [qP (mkRat (sg (rdNeg s) ((rdN s).getD 0)) ((rdD s).getD 0)), .v (.int .i64 0)], k1, ?_⟩
          exact resL_cons (res_cell rfl rfl rfl ty26 rfl (Nat.le_of_ble_eq_true rfl) (conv_q k2 (conv_pe rfl (by rw [k3])) (conv_dn k4 k5))) (resL_cons (res_tmp (conv_p _)) (resL_nil))
end Vou
end
