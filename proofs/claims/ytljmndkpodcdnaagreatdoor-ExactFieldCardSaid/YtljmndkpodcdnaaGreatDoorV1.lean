/- A part of the proof: numbers in limbs: their digits, sums, differences, products and quotients. It holds without conditions. -/

section
set_option linter.unusedVariables false
set_option linter.unusedSimpArgs false
/- Numbers in a base: lists of limbs, the last one first. Plain mathematics without the program. -/
namespace Vou

/-- The number of a list of limbs, the last one first. -/
def val (b : Nat) : List Nat → Nat
  | [] => 0
  | a :: l => a + b * val b l

/-- All limbs are below the base. -/
def Lim (b : Nat) (l : List Nat) : Prop := ∀ x ∈ l, x < b

/-- The limbs of a number, without zeros at the end. -/
def dg (b n : Nat) : List Nat :=
  if _h : n = 0 ∨ b ≤ 1 then [] else n % b :: dg b (n / b)
  termination_by n
  decreasing_by exact Nat.div_lt_self (by omega) (by omega)

theorem dg_zero (b : Nat) : dg b 0 = [] := by rw [dg]; simp
theorem dg_pos {b n : Nat} (hb : 1 < b) (hn : 0 < n) : dg b n = n % b :: dg b (n / b) := by
  rw [dg, dif_neg (by omega)]

theorem val_nil (b : Nat) : val b [] = 0 := rfl
theorem val_cons (b a : Nat) (l : List Nat) : val b (a :: l) = a + b * val b l := rfl

theorem val_append (b : Nat) (l m : List Nat) : val b (l ++ m) = val b l + b ^ l.length * val b m := by
  induction l with
  | nil => simp [val]
  | cons a l ih =>
    simp only [List.cons_append, val, ih, List.length_cons, Nat.pow_succ]
    rw [Nat.mul_add, Nat.mul_comm (b ^ l.length) b, Nat.mul_assoc]; omega

theorem val_snoc (b : Nat) (l : List Nat) (a : Nat) : val b (l ++ [a]) = val b l + b ^ l.length * a := by
  rw [val_append]; simp [val]

theorem val_replicate (b n : Nat) : val b (List.replicate n 0) = 0 := by
  induction n with
  | zero => rfl
  | succ n ih => simp [List.replicate_succ, val, ih]

theorem Lim.nil (b : Nat) : Lim b [] := by intro x hx; simp at hx
theorem Lim.cons {b a : Nat} {l : List Nat} (ha : a < b) (h : Lim b l) : Lim b (a :: l) := by
  intro x hx
  rcases List.mem_cons.1 hx with rfl | hx
  · exact ha
  · exact h x hx
theorem Lim.append {b : Nat} {l m : List Nat} (h : Lim b l) (k : Lim b m) : Lim b (l ++ m) := by
  intro x hx
  rcases List.mem_append.1 hx with hx | hx
  · exact h x hx
  · exact k x hx
theorem Lim.snoc {b a : Nat} {l : List Nat} (h : Lim b l) (ha : a < b) : Lim b (l ++ [a]) := h.append (Lim.cons ha (Lim.nil b))
theorem Lim.take {b : Nat} {l : List Nat} (h : Lim b l) (n : Nat) : Lim b (l.take n) := fun x hx => h x (List.mem_of_mem_take hx)
theorem Lim.drop {b : Nat} {l : List Nat} (h : Lim b l) (n : Nat) : Lim b (l.drop n) := fun x hx => h x (List.mem_of_mem_drop hx)
theorem Lim.tail {b a : Nat} {l : List Nat} (h : Lim b (a :: l)) : Lim b l := fun x hx => h x (List.mem_cons_of_mem _ hx)
theorem Lim.head {b a : Nat} {l : List Nat} (h : Lim b (a :: l)) : a < b := h a (List.mem_cons_self)
theorem Lim.set {b : Nat} {l : List Nat} (h : Lim b l) {a : Nat} (ha : a < b) (i : Nat) : Lim b (l.set i a) := by
  intro x hx
  rcases List.mem_or_eq_of_mem_set hx with hx | rfl
  · exact h x hx
  · exact ha
theorem Lim.replicate {b : Nat} (hb : 0 < b) (n : Nat) : Lim b (List.replicate n 0) := by
  intro x hx
  rw [(List.mem_replicate.1 hx).2]; exact hb
theorem Lim.get {b : Nat} {l : List Nat} (h : Lim b l) {i : Nat} (hi : i < l.length) : l[i] < b := h _ (List.getElem_mem hi)
theorem Lim.getD {b : Nat} {l : List Nat} (h : Lim b l) (hb : 0 < b) (i : Nat) : l.getD i 0 < b := by
  by_cases hi : i < l.length
  · rw [List.getD_eq_getElem?_getD, List.getElem?_eq_getElem hi]; exact h.get hi
  · rw [List.getD_eq_getElem?_getD, List.getElem?_eq_none (by omega)]; exact hb

theorem val_lt {b : Nat} {l : List Nat} (h : Lim b l) : val b l < b ^ l.length := by
  induction l with
  | nil => simp [val]
  | cons a l ih =>
    have h1 := ih h.tail
    have h2 := h.head
    simp only [val, List.length_cons, Nat.pow_succ]
    have : b * val b l + b ≤ b * b ^ l.length := by
      rw [← Nat.mul_succ]; exact Nat.mul_le_mul_left _ h1
    rw [Nat.mul_comm (b ^ l.length) b]; omega

theorem val_dg {b : Nat} (hb : 1 < b) (n : Nat) : val b (dg b n) = n := by
  induction n using Nat.strongRecOn with
  | _ n ih =>
    rcases Nat.eq_zero_or_pos n with rfl | hn
    · rw [dg_zero]; rfl
    · rw [dg_pos hb hn, val, ih _ (Nat.div_lt_self hn hb)]
      exact Nat.mod_add_div n b

theorem lim_dg {b : Nat} (hb : 1 < b) (n : Nat) : Lim b (dg b n) := by
  induction n using Nat.strongRecOn with
  | _ n ih =>
    rcases Nat.eq_zero_or_pos n with rfl | hn
    · rw [dg_zero]; exact Lim.nil b
    · rw [dg_pos hb hn]
      exact Lim.cons (Nat.mod_lt _ (by omega)) (ih _ (Nat.div_lt_self hn hb))

/-- No zero at the end. -/
def NoZ (l : List Nat) : Prop := l.getLast? ≠ some 0

theorem noZ_dg {b : Nat} (hb : 1 < b) (n : Nat) : NoZ (dg b n) := by
  induction n using Nat.strongRecOn with
  | _ n ih =>
    rcases Nat.eq_zero_or_pos n with rfl | hn
    · rw [dg_zero]; simp [NoZ]
    · have h1 := ih _ (Nat.div_lt_self hn hb)
      rw [dg_pos hb hn]
      unfold NoZ at h1 ⊢
      rw [List.getLast?_cons]
      by_cases h : n / b = 0
      · rw [h, dg_zero]
        have : n % b = n := Nat.mod_eq_of_lt (by
          rcases (Nat.div_eq_zero_iff).1 h with h | h <;> omega)
        simp [this]; omega
      · rw [dg_pos hb (Nat.pos_of_ne_zero h)] at h1 ⊢
        rw [List.getLast?_cons] at h1
        rw [List.getLast?_cons]
        simpa using h1

theorem NoZ.tail {a : Nat} {l : List Nat} (h : NoZ (a :: l)) : NoZ l := by
  unfold NoZ at h ⊢
  intro hl
  apply h
  rw [List.getLast?_cons, hl]; rfl

theorem val_pos {b : Nat} (hb : 0 < b) {l : List Nat} (h : NoZ l) (hl : l ≠ []) : 0 < val b l := by
  induction l with
  | nil => exact absurd rfl hl
  | cons a l ih =>
    rw [val]
    by_cases h0 : l = []
    · subst h0
      have : a ≠ 0 := by intro h1; apply h; simp [h1]
      omega
    · have := ih h.tail h0
      have := Nat.mul_pos hb this
      omega

theorem dg_val {b : Nat} (hb : 1 < b) {l : List Nat} (h : Lim b l) (hz : NoZ l) : dg b (val b l) = l := by
  induction l with
  | nil => exact dg_zero b
  | cons a l ih =>
    have hp : 0 < val b (a :: l) := val_pos (by omega) hz (by simp)
    rw [dg_pos hb hp, val]
    have ha := h.head
    have e1 : (a + b * val b l) % b = a := by rw [Nat.add_mul_mod_self_left, Nat.mod_eq_of_lt ha]
    have e2 : (a + b * val b l) / b = val b l := by rw [Nat.add_mul_div_left _ _ (by omega), Nat.div_eq_of_lt ha]; omega
    rw [e1, e2, ih h.tail hz.tail]

theorem dg_inj {b : Nat} (hb : 1 < b) {m n : Nat} (h : dg b m = dg b n) : m = n := by
  rw [← val_dg hb m, h, val_dg hb n]

theorem dg_eq_nil {b : Nat} (hb : 1 < b) (n : Nat) : dg b n = [] ↔ n = 0 := by
  constructor
  · intro h; apply dg_inj hb; rw [h, dg_zero]
  · rintro rfl; exact dg_zero b

/-- The number of limbs. -/
def dl (b n : Nat) : Nat := (dg b n).length
theorem dl_zero (b : Nat) : dl b 0 = 0 := by simp [dl, dg_zero]
theorem dl_eq_zero {b : Nat} (hb : 1 < b) (n : Nat) : dl b n = 0 ↔ n = 0 := by
  unfold dl; rw [List.length_eq_zero_iff, dg_eq_nil hb]
theorem dl_pos {b : Nat} (hb : 1 < b) {n : Nat} (h : 0 < n) : 0 < dl b n := by
  have := dl_eq_zero hb n; omega

theorem lt_pow_dl {b : Nat} (hb : 1 < b) (n : Nat) : n < b ^ dl b n := by
  have := val_lt (lim_dg hb n)
  rwa [val_dg hb] at this

theorem pow_dl_le {b : Nat} (hb : 1 < b) {n : Nat} (h : 0 < n) : b ^ (dl b n - 1) ≤ n := by
  induction n using Nat.strongRecOn with
  | _ n ih =>
    unfold dl at ih ⊢
    rw [dg_pos hb h, List.length_cons, Nat.add_sub_cancel]
    rcases Nat.eq_zero_or_pos (n / b) with h0 | h0
    · rw [h0, dg_zero]; simp; omega
    · have h1 := ih _ (Nat.div_lt_self h hb) h0
      have hlen : 0 < (dg b (n / b)).length := dl_pos hb h0
      have h2 : b ^ (dg b (n / b)).length = b * b ^ ((dg b (n / b)).length - 1) := by
        rw [← Nat.pow_succ']; congr 1; omega
      rw [h2]
      exact Nat.le_trans (Nat.mul_le_mul_left b h1) (Nat.mul_div_le n b)

theorem dl_le_of_lt {b : Nat} (hb : 1 < b) {n k : Nat} (h : n < b ^ k) : dl b n ≤ k := by
  rcases Nat.eq_zero_or_pos n with rfl | hn
  · rw [dl_zero]; omega
  · have h1 := pow_dl_le hb hn
    have h2 : b ^ (dl b n - 1) < b ^ k := Nat.lt_of_le_of_lt h1 h
    have h3 := (Nat.pow_lt_pow_iff_right hb).1 h2
    omega

theorem dl_mono {b : Nat} (hb : 1 < b) {m n : Nat} (h : m ≤ n) : dl b m ≤ dl b n :=
  dl_le_of_lt hb (Nat.lt_of_le_of_lt h (lt_pow_dl hb n))

theorem dl_mul {b : Nat} (hb : 1 < b) (m n : Nat) : dl b (m * n) ≤ dl b m + dl b n :=
  dl_le_of_lt hb (by rw [Nat.pow_add]; exact Nat.mul_lt_mul_of_lt_of_lt (lt_pow_dl hb m) (lt_pow_dl hb n))

theorem dl_add {b : Nat} (hb : 1 < b) (m n : Nat) : dl b (m + n) ≤ max (dl b m) (dl b n) + 1 := by
  apply dl_le_of_lt hb
  have h1 := lt_pow_dl hb m
  have h2 := lt_pow_dl hb n
  have h3 : b ^ dl b m ≤ b ^ max (dl b m) (dl b n) := Nat.pow_le_pow_right (by omega) (by omega)
  have h4 : b ^ dl b n ≤ b ^ max (dl b m) (dl b n) := Nat.pow_le_pow_right (by omega) (by omega)
  rw [Nat.pow_succ]
  have h5 : b ^ max (dl b m) (dl b n) * 2 ≤ b ^ max (dl b m) (dl b n) * b := Nat.mul_le_mul_left _ hb
  omega

theorem dl_le_self_one {b : Nat} (hb : 1 < b) {n : Nat} (h : n < b) : dl b n ≤ 1 := dl_le_of_lt hb (by simpa using h)

/-! ### Cutting the zeros at the end -/

theorem take_noZ {b : Nat} (hb : 1 < b) {l : List Nat} (h : Lim b l) {n : Nat} (hn : n ≤ l.length) (hz : ∀ i, n ≤ i → i < l.length → l.getD i 0 = 0) (hl : n = 0 ∨ l.getD (n - 1) 0 ≠ 0) :
    l.take n = dg b (val b l) := by
  have e1 : l = l.take n ++ List.replicate (l.length - n) 0 := by
    apply List.ext_getElem
    · simp; omega
    · intro i h1 h2
      rw [List.getElem_append]
      split
      · simp
      · rename_i h3
        simp only [List.length_take] at h3
        have := hz i (by omega) h1
        rw [List.getD_eq_getElem?_getD, List.getElem?_eq_getElem h1] at this
        simpa using this
  have e2 : val b l = val b (l.take n) := by
    conv => lhs; rw [e1]
    rw [val_append, val_replicate]; simp
  rw [e2]
  symm
  apply dg_val hb (h.take n)
  unfold NoZ
  rcases hl with rfl | hl
  · simp
  · intro h0
    rw [List.getLast?_eq_getElem?] at h0
    rw [List.length_take, Nat.min_eq_left hn] at h0
    rcases Nat.eq_zero_or_pos n with rfl | hp
    · simp at h0
    · rw [List.getElem?_take, if_pos (by omega)] at h0
      apply hl
      rw [List.getD_eq_getElem?_getD, h0]; rfl

end Vou
end

section
set_option linter.unusedVariables false
set_option linter.unusedSimpArgs false
/- The arithmetic of limbs: what each loop keeps. Plain mathematics without the program. -/
namespace Vou

theorem val_take_succ (b : Nat) (l : List Nat) (i : Nat) : val b (l.take (i + 1)) = val b (l.take i) + b ^ i * l.getD i 0 := by
  by_cases h : i < l.length
  · rw [List.take_succ_eq_append_getElem h, val_snoc, List.length_take, Nat.min_eq_left (by omega), List.getD_eq_getElem?_getD, List.getElem?_eq_getElem h]; rfl
  · rw [List.take_of_length_le (by omega), List.take_of_length_le (by omega), List.getD_eq_getElem?_getD, List.getElem?_eq_none (by omega)]; simp

theorem val_take_drop (b : Nat) (l : List Nat) (i : Nat) (h : i ≤ l.length) : val b l = val b (l.take i) + b ^ i * val b (l.drop i) := by
  conv => lhs; rw [← List.take_append_drop i l]
  rw [val_append, List.length_take, Nat.min_eq_left h]

theorem val_drop (b : Nat) (l : List Nat) (i : Nat) (h : i < l.length) : val b (l.drop i) = l.getD i 0 + b * val b (l.drop (i + 1)) := by
  rw [List.drop_eq_getElem_cons h, val, List.getD_eq_getElem?_getD, List.getElem?_eq_getElem h]; rfl

theorem val_set (b : Nat) (l : List Nat) (i v : Nat) (h : i < l.length) : val b (l.set i v) + b ^ i * l.getD i 0 = val b l + b ^ i * v := by
  induction l generalizing i with
  | nil => simp at h
  | cons a l ih =>
    cases i with
    | zero => simp [val]; omega
    | succ i =>
      have h1 := ih i (by simpa using h)
      simp only [List.set_cons_succ, val, List.getD_cons_succ, Nat.pow_succ]
      have e1 : b ^ i * b * l.getD i 0 = b * (b ^ i * l.getD i 0) := by rw [Nat.mul_comm (b ^ i) b, Nat.mul_assoc]
      have e2 : b ^ i * b * v = b * (b ^ i * v) := by rw [Nat.mul_comm (b ^ i) b, Nat.mul_assoc]
      rw [e1, e2, Nat.add_assoc, ← Nat.mul_add, h1, Nat.mul_add, Nat.add_assoc]

theorem getD_set (l : List Nat) (i j v : Nat) : (l.set i v).getD j 0 = if i = j ∧ i < l.length then v else l.getD j 0 := by
  rw [List.getD_eq_getElem?_getD, List.getElem?_set, List.getD_eq_getElem?_getD]
  split
  · rename_i h; subst h
    split
    · rename_i h; rw [if_pos ⟨rfl, h⟩]; rfl
    · rename_i h; rw [if_neg (by simp [h])]; rw [List.getElem?_eq_none (by omega)]
  · rename_i h; rw [if_neg (by simp [h])]

theorem getD_set_self (l : List Nat) (i v : Nat) (h : i < l.length) : (l.set i v).getD i 0 = v := by rw [getD_set, if_pos ⟨rfl, h⟩]
theorem getD_set_ne (l : List Nat) (i j v : Nat) (h : i ≠ j) : (l.set i v).getD j 0 = l.getD j 0 := by rw [getD_set, if_neg (by simp [h])]

/-! ### The order -/
theorem lt_of_dl {b : Nat} (hb : 1 < b) {m n : Nat} (h : dl b m < dl b n) : m < n := by
  rcases Nat.lt_or_ge m n with h1 | h1
  · exact h1
  · have := dl_mono hb h1; omega

theorem val_lt_top {b : Nat} {l m : List Nat} (hl : Lim b l) (i : Nat) (h1 : i < l.length) (h2 : i < m.length) (he : l.drop (i + 1) = m.drop (i + 1)) (h : l.getD i 0 < m.getD i 0) : val b l < val b m := by
  rw [val_take_drop b l i (by omega), val_take_drop b m i (by omega), val_drop b l i h1, val_drop b m i h2, he]
  have h3 := val_lt (hl.take i)
  rw [List.length_take, Nat.min_eq_left (by omega)] at h3
  have h4 : b ^ i * (l.getD i 0 + 1) ≤ b ^ i * m.getD i 0 := Nat.mul_le_mul_left _ h
  rw [Nat.mul_add, Nat.mul_add]
  rw [Nat.mul_add] at h4
  omega

theorem drop_step {l m : List Nat} (i : Nat) (h1 : i < l.length) (h2 : i < m.length) (he : l.drop (i + 1) = m.drop (i + 1)) (h : l.getD i 0 = m.getD i 0) : l.drop i = m.drop i := by
  rw [List.getD_eq_getElem?_getD, List.getElem?_eq_getElem h1, List.getD_eq_getElem?_getD, List.getElem?_eq_getElem h2] at h
  have h' : l[i] = m[i] := h
  rw [List.drop_eq_getElem_cons h1, List.drop_eq_getElem_cons h2, he, h']

/-! ### The sum -/
/-- After i rounds: r is what has been written, c is carried. -/
structure AddInv (b : Nat) (x y : List Nat) (i : Nat) (r : List Nat) (c : Nat) : Prop where
  len : r.length = i
  lim : Lim b r
  c1 : c ≤ 1
  eq : val b r + b ^ i * c = val b (x.take i) + val b (y.take i)

theorem AddInv.start (b : Nat) (x y : List Nat) : AddInv b x y 0 [] 0 := ⟨rfl, Lim.nil b, by omega, by simp [val]⟩

theorem AddInv.step {b : Nat} (hb : 1 < b) {x y : List Nat} (hx : Lim b x) (hy : Lim b y) {i : Nat} {r : List Nat} {c : Nat} (h : AddInv b x y i r c) :
    AddInv b x y (i + 1) (r ++ [(x.getD i 0 + c + y.getD i 0) % b]) ((x.getD i 0 + c + y.getD i 0) / b) := by
  have h1 := hx.getD (by omega) i
  have h2 := hy.getD (by omega) i
  have h3 := h.c1
  refine ⟨by simp [h.len], h.lim.snoc (Nat.mod_lt _ (by omega)), ?_, ?_⟩
  · have : (x.getD i 0 + c + y.getD i 0) / b < 2 := by
      rw [Nat.div_lt_iff_lt_mul (by omega)]; omega
    omega
  · rw [val_snoc, h.len, val_take_succ, val_take_succ, Nat.pow_succ]
    have e := h.eq
    have e2 := Nat.mod_add_div (x.getD i 0 + c + y.getD i 0) b
    have e3 : b ^ i * b * ((x.getD i 0 + c + y.getD i 0) / b) = b ^ i * (b * ((x.getD i 0 + c + y.getD i 0) / b)) := by rw [Nat.mul_assoc]
    rw [e3, Nat.add_assoc, ← Nat.mul_add, e2, Nat.mul_add, Nat.mul_add]
    omega

theorem AddInv.done {b : Nat} (hb : 1 < b) {x y : List Nat} (hx : Lim b x) (hy : Lim b y) (hl : y.length ≤ x.length) {r : List Nat} {c : Nat} (h : AddInv b x y (x.length + 1) r c) : val b r = val b x + val b y := by
  have e := h.eq
  rw [List.take_of_length_le (by omega), List.take_of_length_le (by omega)] at e
  have h1 := val_lt hx
  have h2 := val_lt hy
  have h3 : b ^ y.length ≤ b ^ x.length := Nat.pow_le_pow_right (by omega) hl
  have h4 : b ^ x.length * 2 ≤ b ^ (x.length + 1) := by rw [Nat.pow_succ]; exact Nat.mul_le_mul_left _ hb
  have h5 := h.c1
  rcases Nat.eq_zero_or_pos c with rfl | hc
  · omega
  · obtain rfl : c = 1 := by omega
    omega

/-! ### The difference -/
structure SubInv (b : Nat) (x y : List Nat) (i : Nat) (r : List Nat) (c : Nat) : Prop where
  len : r.length = i
  lim : Lim b r
  c1 : c ≤ 1
  eq : val b (x.take i) + b ^ i * c = val b r + val b (y.take i)

theorem SubInv.start (b : Nat) (x y : List Nat) : SubInv b x y 0 [] 0 := ⟨rfl, Lim.nil b, by omega, by simp [val]⟩

theorem SubInv.low {b : Nat} (hb : 1 < b) {x y : List Nat} (hx : Lim b x) (hy : Lim b y) {i : Nat} {r : List Nat} {c : Nat} (h : SubInv b x y i r c) (hlt : x.getD i 0 < c + y.getD i 0) :
    SubInv b x y (i + 1) (r ++ [x.getD i 0 + b - (c + y.getD i 0)]) 1 := by
  have h1 := hx.getD (by omega) i
  have h2 := hy.getD (by omega) i
  have h3 := h.c1
  refine ⟨by simp [h.len], h.lim.snoc (by omega), by omega, ?_⟩
  rw [val_snoc, h.len, val_take_succ, val_take_succ, Nat.pow_succ]
  have e := h.eq
  have e2 : b ^ i * (x.getD i 0 + b - (c + y.getD i 0)) + b ^ i * (c + y.getD i 0) = b ^ i * (x.getD i 0 + b) := by rw [← Nat.mul_add]; congr 1; omega
  rw [Nat.mul_add, Nat.mul_add] at e2
  omega

theorem SubInv.high {b : Nat} (hb : 1 < b) {x y : List Nat} (hx : Lim b x) {i : Nat} {r : List Nat} {c : Nat} (h : SubInv b x y i r c) (hlt : c + y.getD i 0 ≤ x.getD i 0) :
    SubInv b x y (i + 1) (r ++ [x.getD i 0 - (c + y.getD i 0)]) 0 := by
  have h1 := hx.getD (by omega) i
  have h3 := h.c1
  refine ⟨by simp [h.len], h.lim.snoc (by omega), by omega, ?_⟩
  rw [val_snoc, h.len, val_take_succ, val_take_succ, Nat.pow_succ]
  have e := h.eq
  have e2 : b ^ i * (x.getD i 0 - (c + y.getD i 0)) + b ^ i * (c + y.getD i 0) = b ^ i * (x.getD i 0) := by rw [← Nat.mul_add]; congr 1; omega
  rw [Nat.mul_add] at e2
  omega

theorem SubInv.done {b : Nat} {x y : List Nat} (hl : y.length ≤ x.length) (hle : val b y ≤ val b x) {r : List Nat} {c : Nat} (h : SubInv b x y x.length r c) : val b r = val b x - val b y := by
  have e := h.eq
  rw [List.take_of_length_le (by omega), List.take_of_length_le (by omega)] at e
  have h1 := val_lt h.lim
  rw [h.len] at h1
  have h5 := h.c1
  rcases Nat.eq_zero_or_pos c with rfl | hc
  · omega
  · obtain rfl : c = 1 := by omega
    omega

/-! ### The product -/
/-- In round i, j: z is what lies in the result, c is carried. -/
structure MulInv (b : Nat) (x y : List Nat) (i j : Nat) (z : List Nat) (c : Nat) : Prop where
  len : z.length = x.length + y.length
  lim : Lim b z
  cb : c < b
  zero : ∀ k, i + y.length ≤ k → z.getD k 0 = 0
  eq : val b z + b ^ (i + j) * c = val b (x.take i) * val b y + b ^ i * (x.getD i 0 * val b (y.take j))

theorem MulInv.start {b : Nat} (hb : 1 < b) (x y : List Nat) : MulInv b x y 0 0 (List.replicate (x.length + y.length) 0) 0 := by
  refine ⟨by simp, Lim.replicate (by omega) _, by omega, ?_, ?_⟩
  · intro k _
    rw [List.getD_eq_getElem?_getD, List.getElem?_replicate]; split <;> rfl
  · rw [val_replicate]; simp [val]

theorem MulInv.step {b : Nat} (hb : 1 < b) {x y : List Nat} (hx : Lim b x) (hy : Lim b y) {i j : Nat} {z : List Nat} {c : Nat} (hi : i < x.length) (hj : j < y.length) (h : MulInv b x y i j z c) :
    x.getD i 0 * y.getD j 0 + z.getD (i + j) 0 + c < b * b ∧
    MulInv b x y i (j + 1) (z.set (i + j) ((x.getD i 0 * y.getD j 0 + z.getD (i + j) 0 + c) % b)) ((x.getD i 0 * y.getD j 0 + z.getD (i + j) 0 + c) / b) := by
  have h1 := hx.getD (by omega) i
  have h2 := hy.getD (by omega) j
  have h3 := h.lim.getD (by omega) (i + j)
  have h4 := h.cb
  have hs : x.getD i 0 * y.getD j 0 + z.getD (i + j) 0 + c < b * b := by
    have e1 : x.getD i 0 * y.getD j 0 ≤ (b - 1) * (b - 1) := Nat.mul_le_mul (by omega) (by omega)
    obtain ⟨d, rfl⟩ : ∃ d, b = d + 1 := ⟨b - 1, by omega⟩
    simp only [Nat.add_sub_cancel] at e1
    rw [Nat.add_mul, Nat.mul_add]; omega
  refine ⟨hs, ?_⟩
  have hlen : i + j < z.length := by rw [h.len]; omega
  refine ⟨by simp [h.len], h.lim.set (Nat.mod_lt _ (by omega)) _, ?_, ?_, ?_⟩
  · rw [Nat.div_lt_iff_lt_mul (by omega)]; exact hs
  · intro k hk
    rw [getD_set_ne _ _ _ _ (by omega)]; exact h.zero k hk
  · have e := h.eq
    have e1 := val_set b z (i + j) ((x.getD i 0 * y.getD j 0 + z.getD (i + j) 0 + c) % b) hlen
    have e2 := Nat.mod_add_div (x.getD i 0 * y.getD j 0 + z.getD (i + j) 0 + c) b
    rw [val_take_succ, ← Nat.add_assoc i j 1, Nat.pow_succ, Nat.mul_assoc (b ^ (i + j)) b]
    have e3 : b ^ (i + j) * ((x.getD i 0 * y.getD j 0 + z.getD (i + j) 0 + c) % b) + b ^ (i + j) * (b * ((x.getD i 0 * y.getD j 0 + z.getD (i + j) 0 + c) / b)) = b ^ (i + j) * (x.getD i 0 * y.getD j 0 + z.getD (i + j) 0 + c) := by rw [← Nat.mul_add, e2]
    have e4 : b ^ i * (x.getD i 0 * (val b (y.take j) + b ^ j * y.getD j 0)) = b ^ i * (x.getD i 0 * val b (y.take j)) + b ^ (i + j) * (x.getD i 0 * y.getD j 0) := by
      rw [Nat.mul_add, Nat.mul_add, Nat.pow_add]
      congr 1
      rw [← Nat.mul_assoc (x.getD i 0), Nat.mul_comm (x.getD i 0) (b ^ j), Nat.mul_assoc, Nat.mul_assoc]
    rw [e4]
    rw [Nat.mul_add, Nat.mul_add] at e3
    omega

theorem MulInv.next {b : Nat} (hb : 1 < b) {x y : List Nat} {i : Nat} {z : List Nat} {c : Nat} (hi : i < x.length) (h : MulInv b x y i y.length z c) :
    MulInv b x y (i + 1) 0 (z.set (i + y.length) c) 0 := by
  have hlen : i + y.length < z.length := by rw [h.len]; omega
  refine ⟨by simp [h.len], h.lim.set h.cb _, by omega, ?_, ?_⟩
  · intro k hk
    rw [getD_set_ne _ _ _ _ (by omega)]; exact h.zero k (by omega)
  · have e := h.eq
    have e1 := val_set b z (i + y.length) c hlen
    rw [h.zero _ (Nat.le_refl _)] at e1
    rw [List.take_of_length_le (Nat.le_refl _)] at e
    rw [val_take_succ, Nat.add_mul, Nat.mul_assoc (b ^ i)]
    simp only [List.take_zero, val_nil, Nat.mul_zero, Nat.add_zero] at e1 ⊢
    omega

theorem MulInv.done {b : Nat} {x y : List Nat} {z : List Nat} {c : Nat} (h : MulInv b x y x.length 0 z c) (hc : c = 0) : val b z = val b x * val b y := by
  have e := h.eq
  rw [List.take_of_length_le (Nat.le_refl _), hc] at e
  simpa [val] using e

/-! ### The quotient by one limb -/
structure ShortInv (b : Nat) (x : List Nat) (y i : Nat) (q : List Nat) (r : Nat) : Prop where
  len : q.length = x.length
  lim : Lim b q
  low : ∀ k, k < i → q.getD k 0 = 0
  ry : r < y
  eq : val b (x.drop i) = val b (q.drop i) * y + r

theorem ShortInv.start {b : Nat} (hb : 1 < b) (x : List Nat) {y : Nat} (hy : 0 < y) : ShortInv b x y x.length (List.replicate x.length 0) 0 := by
  refine ⟨by simp, Lim.replicate (by omega) _, ?_, hy, by simp [val]⟩
  intro k hk
  rw [List.getD_eq_getElem?_getD, List.getElem?_replicate]; split <;> rfl

theorem drop_set_self (q : List Nat) (i v : Nat) (h : i < q.length) : (q.set i v).drop i = v :: q.drop (i + 1) := by
  rw [List.drop_eq_getElem_cons (by simpa using h), List.getElem_set_self, List.drop_set_of_lt (by omega)]

theorem ShortInv.step {b : Nat} (hb : 1 < b) {x : List Nat} (hx : Lim b x) {y i : Nat} {q : List Nat} {r : Nat} (hi : i < x.length) (h : ShortInv b x y (i + 1) q r) :
    r * b + x.getD i 0 < y * b ∧ (r * b + x.getD i 0) / y < b ∧ ShortInv b x y i (q.set i ((r * b + x.getD i 0) / y)) ((r * b + x.getD i 0) % y) := by
  have h1 := hx.getD (by omega) i
  have h2 := h.ry
  have hs : r * b + x.getD i 0 < y * b := by
    have : (r + 1) * b ≤ y * b := Nat.mul_le_mul_right _ h2
    rw [Nat.add_mul] at this; omega
  have hq : (r * b + x.getD i 0) / y < b := by rw [Nat.div_lt_iff_lt_mul (by omega), Nat.mul_comm b y]; exact hs
  refine ⟨hs, hq, ?_⟩
  have hlen : i < q.length := by rw [h.len]; omega
  refine ⟨by simp [h.len], h.lim.set hq _, ?_, Nat.mod_lt _ (by omega), ?_⟩
  · intro k hk
    rw [getD_set_ne _ _ _ _ (by omega)]; exact h.low k (by omega)
  · rw [val_drop b x i hi, h.eq, drop_set_self q i _ hlen, val]
    have e := Nat.mod_add_div (r * b + x.getD i 0) y
    have e2 : (((r * b + x.getD i 0) / y) + b * val b (q.drop (i + 1))) * y = y * ((r * b + x.getD i 0) / y) + b * (val b (q.drop (i + 1)) * y) := by
      rw [Nat.add_mul, Nat.mul_comm _ y, Nat.mul_assoc]
    rw [e2, Nat.mul_add, Nat.mul_comm b r]; omega

theorem ShortInv.done {b : Nat} {x : List Nat} {y : Nat} {q : List Nat} {r : Nat} (h : ShortInv b x y 0 q r) : val b q = val b x / y ∧ r = val b x % y := by
  have e := h.eq
  have h1 := h.ry
  simp only [List.drop_zero] at e
  rw [e]
  constructor
  · rw [Nat.mul_comm, Nat.mul_add_div (by omega), Nat.div_eq_of_lt h1]; rfl
  · rw [Nat.mul_comm, Nat.mul_add_mod, Nat.mod_eq_of_lt h1]

end Vou
end

section
set_option linter.unusedVariables false
set_option linter.unusedSimpArgs false
/- The long division: what its loops keep. Plain mathematics without the program. -/
namespace Vou

/-- The first limb of a divisor that is scaled is at least half the base. -/
theorem half_scale {b t : Nat} (he : b % 2 = 0) (ht : 0 < t) (htb : t < b) : b ≤ 2 * (t * (b / (t + 1))) := by
  have hd := Nat.div_add_mod b (t + 1)
  have hr := Nat.mod_lt b (show t + 1 > 0 by omega)
  have hd1 : 1 ≤ b / (t + 1) := by rw [Nat.le_div_iff_mul_le (by omega)]; omega
  generalize b / (t + 1) = d at *
  generalize b % (t + 1) = r at *
  obtain ⟨h, rfl⟩ : ∃ h, b = 2 * h := ⟨b / 2, by omega⟩
  rcases Nat.lt_or_ge (t * d) h with hlt | hge
  · exfalso
    have e1 : (t + 1) * d = t * d + d := by rw [Nat.add_mul, Nat.one_mul]
    have hth : t < h := by
      rcases Nat.lt_or_ge t h with h1 | h1
      · exact h1
      · have : t * 1 ≤ t * d := Nat.mul_le_mul_left _ hd1
        omega
    obtain ⟨e, rfl⟩ : ∃ e, h = t + e := ⟨h - t, by omega⟩
    have h2 : e + 1 ≤ d := by omega
    have h3 : t * (e + 1) ≤ t * d := Nat.mul_le_mul_left _ h2
    have h4 : 1 * e ≤ t * e := Nat.mul_le_mul_right _ ht
    rw [Nat.mul_add] at h3; omega
  · omega

/-- The guess of a limb of the quotient: v is the divisor (top, next: its first two limbs), w the part of the dividend (head: its first two limbs, u2 the third one). -/
structure Guess (b w v top next head u2 : Nat) (g r : Nat) : Prop where
  eq : g * top + r = head
  ge : w / v ≤ g
  le : g ≤ b + 1
  rb : r < b

structure Parts (b w v top next head u2 : Nat) where
  P : Nat
  vl : Nat
  ul : Nat
  v_eq : v = (top * b + next) * P + vl
  w_eq : w = (head * b + u2) * P + ul
  vlP : vl < P
  ulP : ul < P
  half : b ≤ 2 * top
  topb : top < b
  nextb : next < b
  u2b : u2 < b
  headb : head ≤ top * b + (b - 1)

theorem Parts.vpos {b w v top next head u2 : Nat} (hb : 1 < b) (p : Parts b w v top next head u2) : 0 < v := by
  have h1 := p.half
  have h2 := p.vlP
  have h3 := p.v_eq
  have : 1 * 1 ≤ (top * b + next) * p.P := Nat.mul_le_mul (by have : 1 * 1 ≤ top * b := Nat.mul_le_mul (by omega) (by omega); omega) (by omega)
  omega

theorem Guess.start {b w v top next head u2 : Nat} (hb : 1 < b) (p : Parts b w v top next head u2) : Guess b w v top next head u2 (head / top) (head % top) := by
  have h1 := p.half
  have hm := Nat.div_add_mod head top
  have hr := Nat.mod_lt head (show top > 0 by omega)
  have hv := p.vpos hb
  refine ⟨by rw [Nat.mul_comm]; exact hm, ?_, ?_, by have := p.topb; omega⟩
  · have : w / v < head / top + 1 := by
      rw [Nat.div_lt_iff_lt_mul hv]
      have e1 : head + 1 ≤ (head / top + 1) * top := by rw [Nat.add_mul, Nat.mul_comm]; omega
      have e2 : (head + 1) * b * p.P ≤ (head / top + 1) * v := by
        calc (head + 1) * b * p.P ≤ (head / top + 1) * top * b * p.P := Nat.mul_le_mul_right _ (Nat.mul_le_mul_right _ e1)
          _ = (head / top + 1) * (top * b * p.P) := by rw [Nat.mul_assoc (head / top + 1), Nat.mul_assoc (head / top + 1)]
          _ ≤ (head / top + 1) * v := Nat.mul_le_mul_left _ (by have h5 := p.v_eq; rw [Nat.add_mul] at h5; omega)
      have e3 : w < (head + 1) * b * p.P := by
        have h2 := p.ulP
        have h3 := p.u2b
        have h4 : (head * b + u2 + 1) * p.P ≤ (head + 1) * b * p.P := Nat.mul_le_mul_right _ (by rw [Nat.add_mul]; omega)
        have h6 := p.w_eq
        rw [Nat.add_mul (head * b + u2)] at h4
        omega
      omega
    omega
  · have h2 := p.headb
    have h3 : head / top < b + 2 := by
      rw [Nat.div_lt_iff_lt_mul (by omega), Nat.add_mul, Nat.mul_comm b top]; omega
    omega

/-- One round: the guess was too great. -/
theorem Guess.step {b w v top next head u2 g r : Nat} (hb : 1 < b) (p : Parts b w v top next head u2) (h : Guess b w v top next head u2 g r) (hc : b ≤ g ∨ r * b + u2 < g * next) (hwv : w < b * v) :
    1 ≤ g ∧ (g - 1) * top + (r + top) = head ∧ w / v ≤ g - 1 := by
  have hv := p.vpos hb
  have hg1 : 1 ≤ g := by
    rcases hc with hc | hc
    · omega
    · rcases Nat.eq_zero_or_pos g with rfl | h0
      · simp at hc
      · exact h0
  obtain ⟨k, rfl⟩ : ∃ k, g = k + 1 := ⟨g - 1, by omega⟩
  simp only [Nat.add_sub_cancel]
  have e := h.eq
  refine ⟨hg1, by rw [Nat.add_mul] at e; omega, ?_⟩
  have : w / v < k + 1 := by
    rcases hc with hc | hc
    · have : w / v < b := by rw [Nat.div_lt_iff_lt_mul hv]; exact hwv
      omega
    · rw [Nat.div_lt_iff_lt_mul hv]
      have e1 : head * b + u2 + 1 ≤ (k + 1) * (top * b + next) := by
        rw [← e, Nat.mul_add, Nat.add_mul, Nat.mul_assoc]; omega
      have e2 : (head * b + u2 + 1) * p.P ≤ (k + 1) * v := by
        calc (head * b + u2 + 1) * p.P ≤ (k + 1) * (top * b + next) * p.P := Nat.mul_le_mul_right _ e1
          _ = (k + 1) * ((top * b + next) * p.P) := Nat.mul_assoc _ _ _
          _ ≤ (k + 1) * v := Nat.mul_le_mul_left _ (by have h5 := p.v_eq; omega)
      rw [Nat.add_mul (head * b + u2)] at e2
      have h2 := p.ulP
      have h6 := p.w_eq
      omega
  omega

theorem Guess.fine {b w v top next head u2 g r : Nat} (hb : 1 < b) (p : Parts b w v top next head u2) (e : g * top + r = head) (hgb : g < b) (hn : g * next ≤ r * b + u2) : g * v ≤ w + v := by
  have e1 : g * (top * b + next) ≤ head * b + u2 := by
    rw [← e, Nat.mul_add, Nat.add_mul, Nat.mul_assoc]; omega
  have e2 : g * v = g * (top * b + next) * p.P + g * p.vl := by rw [Nat.mul_assoc, ← Nat.mul_add, ← p.v_eq]
  have e3 : g * (top * b + next) * p.P ≤ (head * b + u2) * p.P := Nat.mul_le_mul_right _ e1
  have e4 : g * p.vl ≤ b * p.P := Nat.mul_le_mul (by omega) (by have := p.vlP; omega)
  have e5 : b * p.P ≤ (top * b + next) * p.P := Nat.mul_le_mul_right _ (by have := p.half; have : 1 * b ≤ top * b := Nat.mul_le_mul_right _ (by omega); omega)
  have e6 := p.v_eq
  have e7 := p.w_eq
  omega

/-- The loop was left at its test. -/
theorem Guess.out {b w v top next head u2 g r : Nat} (hb : 1 < b) (p : Parts b w v top next head u2) (h : Guess b w v top next head u2 g r) (h1 : g < b) (h2 : g * next ≤ r * b + u2) : g < b ∧ w / v ≤ g ∧ g * v ≤ w + v :=
  ⟨h1, h.ge, Guess.fine hb p h.eq h1 h2⟩

/-- The loop was left by its break. -/
theorem Guess.broke {b w v top next head u2 g r : Nat} (hb : 1 < b) (p : Parts b w v top next head u2) (h : Guess b w v top next head u2 g r) (hc : b ≤ g ∨ r * b + u2 < g * next) (hwv : w < b * v) (hr : b ≤ r + top) :
    g - 1 < b ∧ w / v ≤ g - 1 ∧ (g - 1) * v ≤ w + v := by
  obtain ⟨h1, h2, h3⟩ := h.step hb p hc hwv
  have hgb : g - 1 < b := by
    have h4 := h.le
    rcases Nat.lt_or_ge g (b + 1) with h5 | h5
    · omega
    · obtain rfl : g = b + 1 := by omega
      have h6 := h.eq
      have h7 := p.headb
      have h8 := p.topb
      rw [Nat.add_mul, Nat.mul_comm b top] at h6; omega
  refine ⟨hgb, h3, Guess.fine hb p h2 hgb ?_⟩
  have e1 : (g - 1) * next ≤ b * b := Nat.mul_le_mul (by omega) (by have := p.nextb; omega)
  have e2 : b * b ≤ (r + top) * b := Nat.mul_le_mul_right _ hr
  omega

/-- The loop goes on. -/
theorem Guess.next_ {b w v top next head u2 g r : Nat} (hb : 1 < b) (p : Parts b w v top next head u2) (h : Guess b w v top next head u2 g r) (hc : b ≤ g ∨ r * b + u2 < g * next) (hwv : w < b * v) (hr : r + top < b) :
    Guess b w v top next head u2 (g - 1) (r + top) := by
  obtain ⟨h1, h2, h3⟩ := h.step hb p hc hwv
  exact ⟨h2, h3, by have := h.le; omega, hr⟩

/-! ### A multiple is taken away -/
structure TakeInv (b : Nat) (u v : List Nat) (n : Nat) (i : Nat) (r : List Nat) (c : Nat) : Prop where
  len : r.length = i
  lim : Lim b r
  cb : c ≤ b
  eq : val b (u.take i) + b ^ i * c = val b r + n * val b (v.take i)

theorem TakeInv.start (b : Nat) (u v : List Nat) (n : Nat) : TakeInv b u v n 0 [] 0 := ⟨rfl, Lim.nil b, by omega, by simp [val]⟩

theorem TakeInv.bound {b : Nat} (hb : 1 < b) {u v : List Nat} (hv : Lim b v) {n i : Nat} (hn : n < b) {r : List Nat} {c : Nat} (h : TakeInv b u v n i r c) : c + n * v.getD i 0 < b * b ∧ (c + n * v.getD i 0) / b < b := by
  have h2 := hv.getD (by omega) i
  have h3 := h.cb
  have e1 : n * v.getD i 0 ≤ (b - 1) * (b - 1) := Nat.mul_le_mul (by omega) (by omega)
  have e2 : c + n * v.getD i 0 < b * b := by
    obtain ⟨d, rfl⟩ : ∃ d, b = d + 1 := ⟨b - 1, by omega⟩
    simp only [Nat.add_sub_cancel] at e1
    rw [Nat.add_mul, Nat.mul_add]; omega
  exact ⟨e2, by rw [Nat.div_lt_iff_lt_mul (by omega)]; exact e2⟩

theorem TakeInv.low {b : Nat} (hb : 1 < b) {u v : List Nat} (hu : Lim b u) (hv : Lim b v) {n i : Nat} (hn : n < b) {r : List Nat} {c : Nat} (h : TakeInv b u v n i r c) (hlt : u.getD i 0 < (c + n * v.getD i 0) % b) :
    TakeInv b u v n (i + 1) (r ++ [u.getD i 0 + b - (c + n * v.getD i 0) % b]) ((c + n * v.getD i 0) / b + 1) := by
  have h1 := hu.getD (by omega) i
  have h2 := h.bound hb hv hn
  have h3 := Nat.mod_lt (c + n * v.getD i 0) (show b > 0 by omega)
  have e2 := Nat.mod_add_div (c + n * v.getD i 0) b
  refine ⟨by simp [h.len], h.lim.snoc (by omega), by omega, ?_⟩
  rw [val_snoc, h.len, val_take_succ, val_take_succ, Nat.pow_succ]
  have e := h.eq
  generalize (c + n * v.getD i 0) % b = m at *
  generalize (c + n * v.getD i 0) / b = d at *
  have e4 : b ^ i * (u.getD i 0 + b - m) + b ^ i * m = b ^ i * (u.getD i 0 + b) := by rw [← Nat.mul_add]; congr 1; omega
  have e5 : b ^ i * b * (d + 1) = b ^ i * (b * d) + b ^ i * b := by rw [Nat.mul_add, Nat.mul_assoc, Nat.mul_one]
  have e6 : b ^ i * (m + b * d) = b ^ i * c + n * (b ^ i * v.getD i 0) := by rw [e2, Nat.mul_add, Nat.mul_left_comm]
  rw [e5]
  rw [Nat.mul_add] at e4 e6
  rw [Nat.mul_add n]
  omega

theorem TakeInv.high {b : Nat} (hb : 1 < b) {u v : List Nat} (hu : Lim b u) (hv : Lim b v) {n i : Nat} (hn : n < b) {r : List Nat} {c : Nat} (h : TakeInv b u v n i r c) (hlt : (c + n * v.getD i 0) % b ≤ u.getD i 0) :
    TakeInv b u v n (i + 1) (r ++ [u.getD i 0 - (c + n * v.getD i 0) % b]) ((c + n * v.getD i 0) / b) := by
  have h1 := hu.getD (by omega) i
  have h2 := h.bound hb hv hn
  have e2 := Nat.mod_add_div (c + n * v.getD i 0) b
  refine ⟨by simp [h.len], h.lim.snoc (by omega), by omega, ?_⟩
  rw [val_snoc, h.len, val_take_succ, val_take_succ, Nat.pow_succ]
  have e := h.eq
  generalize (c + n * v.getD i 0) % b = m at *
  generalize (c + n * v.getD i 0) / b = d at *
  have e4 : b ^ i * (u.getD i 0 - m) + b ^ i * m = b ^ i * (u.getD i 0) := by rw [← Nat.mul_add]; congr 1; omega
  have e5 : b ^ i * b * d = b ^ i * (b * d) := by rw [Nat.mul_assoc]
  have e6 : b ^ i * (m + b * d) = b ^ i * c + n * (b ^ i * v.getD i 0) := by rw [e2, Nat.mul_add, Nat.mul_left_comm]
  rw [e5]
  rw [Nat.mul_add] at e6
  rw [Nat.mul_add n]
  omega

/-- What the taking leaves: u has one limb more than v. -/
theorem TakeInv.done {b : Nat} (hb : 1 < b) {u v : List Nat} (hv : Lim b v) (hl : u.length = v.length + 1) {n : Nat} {r : List Nat} {c : Nat} (h : TakeInv b u v n (v.length + 1) r c) (hle : n * val b v ≤ val b u + val b v) :
    (c = 0 ∧ n * val b v ≤ val b u ∧ val b r = val b u - n * val b v) ∨ (c = 1 ∧ val b u < n * val b v ∧ val b r + n * val b v = val b u + b ^ (v.length + 1)) := by
  have e := h.eq
  rw [List.take_of_length_le (by omega), List.take_of_length_le (by omega)] at e
  have h1 := val_lt h.lim
  rw [h.len] at h1
  have h2 := val_lt hv
  rcases Nat.eq_zero_or_pos c with rfl | hc
  · left; refine ⟨rfl, ?_, ?_⟩ <;> omega
  · right
    have h3 : c < 2 := by
      have h4 : b ^ (v.length + 1) * c < b ^ (v.length + 1) * 2 := by
        have : b ^ v.length * 1 ≤ b ^ v.length * b := Nat.mul_le_mul_left _ (by omega)
        rw [Nat.pow_succ] at e h1 ⊢; omega
      exact Nat.lt_of_mul_lt_mul_left h4
    obtain rfl : c = 1 := by omega
    refine ⟨rfl, ?_, ?_⟩ <;> omega

/-- What the adding back leaves. -/
theorem back_done {b : Nat} {u v : List Nat} (hl : u.length = v.length + 1) {r : List Nat} {c : Nat} (h : AddInv b u v (v.length + 1) r c) {w n : Nat} (hn : 1 ≤ n) (hu : val b u + n * val b v = w + b ^ (v.length + 1)) (hw : (n - 1) * val b v ≤ w) (hwb : w - (n - 1) * val b v < b ^ (v.length + 1)) :
    val b r = w - (n - 1) * val b v := by
  have e := h.eq
  rw [List.take_of_length_le (by omega), List.take_of_length_le (by omega)] at e
  have h1 := val_lt h.lim
  rw [h.len] at h1
  obtain ⟨k, rfl⟩ : ∃ k, n = k + 1 := ⟨n - 1, by omega⟩
  simp only [Nat.add_sub_cancel] at *
  rw [Nat.add_mul] at hu
  have h5 := h.c1
  rcases Nat.eq_zero_or_pos c with rfl | hc
  · omega
  · obtain rfl : c = 1 := by omega
    omega

/-! ### The whole division -/
structure DivInv (b X : Nat) (v : List Nat) (m j : Nat) (u q : List Nat) : Prop where
  lenq : q.length = m
  lenu : u.length = m + v.length
  limq : Lim b q
  limu : Lim b u
  low : ∀ k, k < j → q.getD k 0 = 0
  top : val b (u.drop j) < val b v
  eq : val b q * val b v + val b u = X

/-- The window of u at j: one limb more than v. -/
theorem DivInv.window {b X : Nat} (hb : 1 < b) {v : List Nat} (hv : Lim b v) {m j : Nat} {u q : List Nat} (h : DivInv b X v m (j + 1) u q) (hj : j < m) :
    val b ((u.drop j).take (v.length + 1)) = val b (u.drop j) ∧ val b (u.drop j) = u.getD j 0 + b * val b (u.drop (j + 1)) ∧ val b (u.drop j) < b * val b v ∧ val b (u.drop (j + (v.length + 1))) = 0 := by
  have h1 := h.lenu
  have h2 := h.top
  have e1 := val_drop b u j (by omega)
  have h3 := h.limu.getD (by omega) j
  have h4 : val b (u.drop j) < b * val b v := by
    rw [e1]
    have : b * (val b (u.drop (j + 1)) + 1) ≤ b * val b v := Nat.mul_le_mul_left _ h2
    rw [Nat.mul_add] at this; omega
  have e2 := val_take_drop b (u.drop j) (v.length + 1) (by rw [List.length_drop]; omega)
  rw [List.drop_drop] at e2
  have h5 := val_lt hv
  have h6 : b * val b v < b ^ (v.length + 1) := by
    rw [Nat.pow_succ, Nat.mul_comm]; exact Nat.mul_lt_mul_of_pos_right h5 (by omega)
  have h7 : val b (u.drop (j + (v.length + 1))) = 0 := by
    rcases Nat.eq_zero_or_pos (val b (u.drop (j + (v.length + 1)))) with h0 | h0
    · exact h0
    · have : b ^ (v.length + 1) * 1 ≤ b ^ (v.length + 1) * val b (u.drop (j + (v.length + 1))) := Nat.mul_le_mul_left _ h0
      omega
  rw [h7] at e2
  exact ⟨by omega, e1, h4, h7⟩

theorem DivInv.step {b X : Nat} (hb : 1 < b) {v : List Nat} (hv : Lim b v) {m j : Nat} {u q : List Nat} (h : DivInv b X v m (j + 1) u q) (hj : j < m) {g : Nat} (hg : g = val b (u.drop j) / val b v) {r : List Nat} (hr : r.length = v.length + 1) (hrl : Lim b r)
    (hrv : val b r = val b (u.drop j) - g * val b v) : g < b ∧ DivInv b X v m j (u.take j ++ r ++ u.drop (j + (v.length + 1))) (q.set j g) := by
  obtain ⟨w1, w2, w3, w4⟩ := h.window hb hv hj
  have h1 := h.lenu
  have h0 := h.lenq
  have hvp : 0 < val b v := by have := h.top; omega
  have hgb : g < b := by rw [hg, Nat.div_lt_iff_lt_mul hvp]; exact w3
  have hgv : g * val b v ≤ val b (u.drop j) := by rw [hg]; exact Nat.div_mul_le_self _ _
  have hgr : val b (u.drop j) - g * val b v < val b v := by
    have := Nat.mod_lt (val b (u.drop j)) hvp
    have e := Nat.mod_add_div (val b (u.drop j)) (val b v)
    rw [← hg, Nat.mul_comm] at e; omega
  have hlt : (u.take j).length = j := by rw [List.length_take]; omega
  have ed : (u.take j ++ r ++ u.drop (j + (v.length + 1))).drop j = r ++ u.drop (j + (v.length + 1)) := by
    rw [List.append_assoc, List.drop_append_of_le_length (by omega), List.drop_of_length_le (by omega), List.nil_append]
  refine ⟨hgb, by simp [h0], ?_, h.limq.set hgb _, ((h.limu.take j).append hrl).append (h.limu.drop _), ?_, ?_, ?_⟩
  · simp only [List.length_append, List.length_drop, hlt, hr]; omega
  · intro k hk
    rw [getD_set_ne _ _ _ _ (by omega)]; exact h.low k (by omega)
  · rw [ed, val_append, w4, hrv]; omega
  · have e1 := val_set b q j g (by omega)
    rw [h.low j (by omega)] at e1
    have e2 : val b (q.set j g) = val b q + b ^ j * g := by omega
    have e3 := val_take_drop b u j (by omega)
    rw [e2, val_append, val_append, w4, hlt, hrv, Nat.add_mul]
    have e4 := h.eq
    have e5 : b ^ j * (val b (u.drop j) - g * val b v) + b ^ j * g * val b v = b ^ j * val b (u.drop j) := by rw [Nat.mul_assoc, ← Nat.mul_add]; congr 1; omega
    simp only [Nat.mul_zero, Nat.add_zero]
    omega

theorem DivInv.done {b X : Nat} {v : List Nat} {m : Nat} {u q : List Nat} (h : DivInv b X v m 0 u q) : val b q = X / val b v ∧ val b u = X % val b v := by
  have e := h.eq
  have h1 := h.top
  simp only [List.drop_zero] at h1
  rw [← e]
  constructor
  · rw [Nat.mul_comm, Nat.mul_add_div (by omega), Nat.div_eq_of_lt h1]; rfl
  · rw [Nat.mul_comm, Nat.mul_add_mod, Nat.mod_eq_of_lt h1]

theorem DivInv.start {b X : Nat} (hb : 1 < b) {v u : List Nat} {m : Nat} (hl : u.length = m + v.length) (hu : Lim b u) (hX : val b u = X) (hlt : X < b ^ m * val b v) : DivInv b X v m m u (List.replicate m 0) := by
  refine ⟨by simp, hl, Lim.replicate (by omega) _, hu, ?_, ?_, ?_⟩
  · intro k hk
    rw [List.getD_eq_getElem?_getD, List.getElem?_replicate]; split <;> rfl
  · have e := val_take_drop b u m (by omega)
    have h1 : b ^ m * val b (u.drop m) < b ^ m * val b v := by omega
    exact Nat.lt_of_mul_lt_mul_left h1
  · rw [val_replicate, hX]; omega

end Vou
end

section
set_option linter.unusedVariables false
set_option linter.unusedSimpArgs false
/- The long division: one round, the beginning and the end. Plain mathematics without the program. -/
namespace Vou

/-- The first limb. -/
theorem top_val {b : Nat} (hb : 1 < b) {l : List Nat} (h : Lim b l) {n : Nat} (hl : l.length = n + 1) : l.getD n 0 = val b l / b ^ n := by
  have e1 := val_take_drop b l n (by omega)
  have e2 := val_drop b l n (by omega)
  have h1 := val_lt (h.take n)
  rw [List.length_take, Nat.min_eq_left (by omega)] at h1
  rw [List.drop_of_length_le (i := n + 1) (by omega), val_nil, Nat.mul_zero, Nat.add_zero] at e2
  rw [e1, e2, Nat.add_mul_div_left _ _ (Nat.pow_pos (by omega)), Nat.div_eq_of_lt h1, Nat.zero_add]

theorem val_two {b : Nat} {l : List Nat} {n : Nat} (hl : l.length = n + 2) : val b l = (l.getD (n + 1) 0 * b + l.getD n 0) * b ^ n + val b (l.take n) := by
  have e1 := val_take_succ b l (n + 1)
  have e2 := val_take_succ b l n
  rw [List.take_of_length_le (by omega)] at e1
  rw [e1, e2]
  grind

/-- The parts of a round. -/
theorem DivInv.parts {b X : Nat} (hb : 1 < b) {v : List Nat} (hv : Lim b v) {m j n : Nat} {u q : List Nat} (h : DivInv b X v m (j + 1) u q) (hj : j < m) (hn : v.length = n + 2) (hh : b ≤ 2 * v.getD (n + 1) 0) :
    Nonempty (Parts b (val b (u.drop j)) (val b v) (v.getD (n + 1) 0) (v.getD n 0) (u.getD (j + (n + 2)) 0 * b + u.getD (j + (n + 1)) 0) (u.getD (j + n) 0)) := by
  obtain ⟨w1, w2, w3, w4⟩ := h.window hb hv hj
  have hlu := h.lenu
  have hU : Lim b (u.drop j) := h.limu.drop j
  have hg : ∀ i, (u.drop j).getD i 0 = u.getD (j + i) 0 := fun i => by
    simp only [List.getD_eq_getElem?_getD, List.getElem?_drop]
  have e1 := val_take_succ b (u.drop j) (n + 2)
  have e2 := val_take_succ b (u.drop j) (n + 1)
  have e3 := val_take_succ b (u.drop j) n
  rw [hn] at w1
  rw [w1] at e1
  rw [hg] at e1 e2 e3
  have hP : 0 < b ^ n := Nat.pow_pos (by omega)
  have ht1 := val_lt (hv.take n)
  have ht2 := val_lt (hU.take n)
  rw [List.length_take, Nat.min_eq_left (by omega)] at ht1
  rw [List.length_take, List.length_drop, Nat.min_eq_left (by omega)] at ht2
  have k1 := h.limu.getD (by omega) (j + (n + 2))
  have k2 := h.limu.getD (by omega) (j + (n + 1))
  have k3 := h.limu.getD (by omega) (j + n)
  refine ⟨⟨b ^ n, val b (v.take n), val b ((u.drop j).take n), val_two hn, ?_, ht1, ht2, hh, hv.getD (by omega) _, hv.getD (by omega) _, k3, ?_⟩⟩
  · rw [e1, e2, e3]
    grind
  · -- the head is not too great
    have h2 := h.top
    have e4 := val_take_drop b (u.drop (j + 1)) (n + 2) (by rw [List.length_drop]; omega)
    rw [List.drop_drop, show j + 1 + (n + 2) = j + (v.length + 1) by omega, w4, Nat.mul_zero, Nat.add_zero] at e4
    have e5 : val b ((u.drop (j + 1)).take (n + 2)) = _ := val_take_succ b (u.drop (j + 1)) (n + 1)
    have hg' : (u.drop (j + 1)).getD (n + 1) 0 = u.getD (j + (n + 2)) 0 := by
      simp only [List.getD_eq_getElem?_getD, List.getElem?_drop]
      congr 2; omega
    rw [hg'] at e5
    have h3 : val b v < (v.getD (n + 1) 0 + 1) * b ^ (n + 1) := by
      rw [val_two hn, show (v.getD (n + 1) 0 + 1) * b ^ (n + 1) = ((v.getD (n + 1) 0 + 1) * b) * b ^ n by grind]
      have k4 := hv.getD (by omega) n
      have : ((v.getD (n + 1) 0) * b + v.getD n 0 + 1) * b ^ n ≤ ((v.getD (n + 1) 0 + 1) * b) * b ^ n := Nat.mul_le_mul_right _ (by rw [Nat.add_mul]; omega)
      rw [Nat.add_mul _ 1] at this
      omega
    have h4 : b ^ (n + 1) * u.getD (j + (n + 2)) 0 < b ^ (n + 1) * (v.getD (n + 1) 0 + 1) := by
      rw [Nat.mul_comm (b ^ (n + 1)) (v.getD (n + 1) 0 + 1)]; omega
    have h5 := Nat.lt_of_mul_lt_mul_left h4
    have h6 : u.getD (j + (n + 2)) 0 * b ≤ v.getD (n + 1) 0 * b := Nat.mul_le_mul_right _ (by omega)
    omega

/-- A round: what the taking leaves, and what the adding back leaves. -/
theorem DivInv.round {b X : Nat} (hb : 1 < b) {v : List Nat} (hv : Lim b v) {m j : Nat} {u q : List Nat} (h : DivInv b X v m (j + 1) u q) (hj : j < m) {g : Nat} (hgb : g < b) (h1 : val b (u.drop j) / val b v ≤ g) (h2 : g * val b v ≤ val b (u.drop j) + val b v)
    {r : List Nat} {c : Nat} (ht : TakeInv b (u.drop j) v g (v.length + 1) r c) :
    (c = 0 → DivInv b X v m j (u.take j ++ r ++ u.drop (j + (v.length + 1))) (q.set j g)) ∧
    (0 < c → 1 ≤ g ∧ ∀ r2 c2, AddInv b (r ++ u.drop (j + (v.length + 1))) v (v.length + 1) r2 c2 → DivInv b X v m j (u.take j ++ r2 ++ u.drop (j + (v.length + 1))) (q.set j (g - 1))) := by
  obtain ⟨w1, w2, w3, w4⟩ := h.window hb hv hj
  have hlu := h.lenu
  have hvp : 0 < val b v := by have := h.top; omega
  have hlen : ((u.drop j).take (v.length + 1)).length = v.length + 1 := by rw [List.length_take, List.length_drop]; omega
  have ht' : TakeInv b ((u.drop j).take (v.length + 1)) v g (v.length + 1) r c := ⟨ht.len, ht.lim, ht.cb, by rw [List.take_take, Nat.min_self]; exact ht.eq⟩
  have hd := ht'.done hb hv hlen (by rw [w1]; exact h2)
  rw [w1] at hd
  have hlt := Nat.mod_lt (val b (u.drop j)) hvp
  have hme := Nat.mod_add_div (val b (u.drop j)) (val b v)
  rw [Nat.mul_comm] at hme
  constructor
  · rintro rfl
    rcases hd with ⟨_, k1, k2⟩ | ⟨k1, _⟩
    · refine (h.step hb hv hj (g := g) ?_ ht.len ht.lim k2).2
      have : g ≤ val b (u.drop j) / val b v := by rw [Nat.le_div_iff_mul_le hvp]; exact k1
      omega
    · omega
  · intro hc
    rcases hd with ⟨k1, _⟩ | ⟨_, k1, k2⟩
    · omega
    · have hg1 : 1 ≤ g := by
        rcases Nat.eq_zero_or_pos g with rfl | hp
        · omega
        · exact hp
      refine ⟨hg1, fun r2 c2 ha => ?_⟩
      have hgq : g - 1 = val b (u.drop j) / val b v := by
        have : val b (u.drop j) / val b v < g := by rw [Nat.div_lt_iff_lt_mul hvp]; exact k1
        have e : (g - 1) * val b v ≤ val b (u.drop j) := by
          obtain ⟨k, rfl⟩ : ∃ k, g = k + 1 := ⟨g - 1, by omega⟩
          rw [Nat.add_mul] at h2
          simp only [Nat.add_sub_cancel]
          omega
        have : g - 1 ≤ val b (u.drop j) / val b v := by rw [Nat.le_div_iff_mul_le hvp]; exact e
        omega
      have hr : r.length = v.length + 1 := ht.len
      have ha' : AddInv b r v (v.length + 1) r2 c2 := ⟨ha.len, ha.lim, ha.c1, by
        have := ha.eq
        rwa [List.take_append_of_le_length (by omega)] at this⟩
      have hv1 := val_lt hv
      have hvb : val b v < b ^ (v.length + 1) := Nat.lt_of_lt_of_le hv1 (Nat.pow_le_pow_right (by omega) (by omega))
      have hdm : (g - 1) * val b v ≤ val b (u.drop j) := by rw [hgq]; exact Nat.div_mul_le_self _ _
      have hw : val b (u.drop j) - (g - 1) * val b v < val b v := by
        rw [hgq]; omega
      have hb2 := back_done hr ha' hg1 k2 hdm (by omega)
      exact (h.step hb hv hj hgq ha.len ha.lim hb2).2

/-- The scaling. -/
theorem scale_top {b : Nat} (hb : 1 < b) (he : b % 2 = 0) {y n : Nat} (hn : dl b y = n + 1) {s : Nat} (hs : s = b / ((dg b y).getD n 0 + 1)) : 0 < s ∧ s < b ∧ dl b (y * s) = n + 1 ∧ b ≤ 2 * (dg b (y * s)).getD n 0 := by
  have hyp : 0 < y := by
    rcases Nat.eq_zero_or_pos y with rfl | h
    · rw [dl_zero] at hn; omega
    · exact h
  have ht := top_val hb (lim_dg hb y) (n := n) hn
  rw [val_dg hb] at ht
  have hpn : 0 < b ^ n := Nat.pow_pos (by omega)
  have hle := pow_dl_le hb hyp
  rw [hn, Nat.add_sub_cancel] at hle
  have htp : 0 < (dg b y).getD n 0 := by rw [ht]; exact Nat.div_pos hle hpn
  have htb : (dg b y).getD n 0 < b := (lim_dg hb y).getD (by omega) n
  have hh := half_scale he htp htb
  rw [← hs] at hh
  generalize (dg b y).getD n 0 = t at *
  have hs1 : 0 < s := by rw [hs]; exact Nat.div_pos (by omega) (by omega)
  have hsb : s < b := by rw [hs]; exact Nat.div_lt_self (by omega) (by omega)
  have hst : s * (t + 1) ≤ b := by rw [hs]; exact Nat.div_mul_le_self _ _
  have hmod := Nat.mod_lt y hpn
  have hdm := Nat.div_add_mod y (b ^ n)
  rw [← ht] at hdm
  obtain ⟨ρ, hρ⟩ : ∃ r, y % b ^ n = r := ⟨_, rfl⟩
  rw [hρ] at hdm hmod
  -- y * s is below b ^ (n + 1), and its first limb is at least t * s
  have hlt : y * s < b ^ (n + 1) := by
    have h1 : y < (t + 1) * b ^ n := by rw [Nat.add_mul, Nat.mul_comm t]; omega
    have h2 : y * s < (t + 1) * b ^ n * s := Nat.mul_lt_mul_of_pos_right h1 hs1
    have h3 : (t + 1) * b ^ n * s = s * (t + 1) * b ^ n := by rw [Nat.mul_comm, Nat.mul_assoc]
    have h4 : s * (t + 1) * b ^ n ≤ b * b ^ n := Nat.mul_le_mul_right _ hst
    rw [Nat.pow_succ, Nat.mul_comm (b ^ n)]
    omega
  have hge : t * s * b ^ n ≤ y * s := by
    have h1 : t * b ^ n ≤ y := by rw [Nat.mul_comm]; omega
    have h2 : t * b ^ n * s ≤ y * s := Nat.mul_le_mul_right _ h1
    rwa [Nat.mul_right_comm] at h2
  have hl1 : dl b (y * s) ≤ n + 1 := dl_le_of_lt hb hlt
  have hl2 : dl b (y * s) = n + 1 := by
    have := dl_mono hb (show y ≤ y * s from Nat.le_mul_of_pos_right _ hs1)
    omega
  refine ⟨hs1, hsb, hl2, ?_⟩
  have ht2 := top_val hb (lim_dg hb (y * s)) (n := n) hl2
  rw [val_dg hb] at ht2
  have : t * s ≤ y * s / b ^ n := by rw [Nat.le_div_iff_mul_le hpn]; exact hge
  rw [ht2]
  omega

theorem div_start {b : Nat} (hb : 1 < b) {x y s : Nat} (hs : 0 < s) (hsb : s < b) {n : Nat} (hn : dl b y = n + 1) (hxy : y ≤ x) (hsy : dl b (y * s) = n + 1) :
    dl b (x * s) ≤ dl b x + 1 ∧ n + 1 ≤ dl b x ∧ DivInv b (x * s) (dg b (y * s)) (dl b x - n) (dl b x - n) (dg b (x * s) ++ List.replicate (dl b x + 1 - dl b (x * s)) 0) (List.replicate (dl b x - n) 0) := by
  have hyp : 0 < y := by
    rcases Nat.eq_zero_or_pos y with rfl | h
    · rw [dl_zero] at hn; omega
    · exact h
  have h1 : dl b (x * s) ≤ dl b x + 1 := by
    have := dl_mul hb x s
    have := dl_le_self_one hb hsb
    omega
  have h2 : n + 1 ≤ dl b x := by rw [← hn]; exact dl_mono hb hxy
  refine ⟨h1, h2, DivInv.start hb ?_ ?_ ?_ ?_⟩
  · simp only [List.length_append, List.length_replicate]
    show dl b (x * s) + _ = _ + dl b (y * s)
    omega
  · exact (lim_dg hb _).append (Lim.replicate (by omega) _)
  · rw [val_append, val_replicate, val_dg hb]; omega
  · rw [val_dg hb, ← Nat.mul_assoc]
    refine Nat.mul_lt_mul_of_pos_right ?_ hs
    have h3 := lt_pow_dl hb x
    have h4 := pow_dl_le hb hyp
    rw [hn, Nat.add_sub_cancel] at h4
    have h5 : b ^ (dl b x - n) * b ^ n ≤ b ^ (dl b x - n) * y := Nat.mul_le_mul_left _ h4
    rw [← Nat.pow_add, show dl b x - n + n = dl b x by omega] at h5
    omega

theorem div_end {b : Nat} {x y s : Nat} (hb : 1 < b) (hs : 0 < s) {m : Nat} {u q : List Nat} (h : DivInv b (x * s) (dg b (y * s)) m 0 u q) : val b q = x / y ∧ val b u / s = x % y := by
  have h1 := h.done
  rw [val_dg hb] at h1
  refine ⟨by rw [h1.1, Nat.mul_div_mul_right _ _ hs], ?_⟩
  rw [h1.2, Nat.mul_mod_mul_right, Nat.mul_div_cancel _ hs]
end Vou
end
