/- A part of the proof: texts of numbers; the types and functions of the program. It holds without conditions. -/
import Derived.Test.YtljmndkpodcdnaaGreatDoorShelf
import Derived.Lib.AppendStr
import Derived.WalkKit
import Derived.Test.YtljmndkpodcdnaaGreatDoorV4
import Derived.RangeFuncCalls
import Derived.Lib.UnsafeStr
import Derived.Lib.ItoaMem
import Derived.Lib.AppendIntMem
import Derived.Test.YtljmndkpodcdnaaGreatDoorV5
import Derived.RangeFuncNested
import Derived.OwnWalkIn
import Derived.Shelf.Abstract
import Derived.Shelf.Strings.SlTrimAscii
import Derived.Laws.IdiomStrings
import Derived.Test.YtljmndkpodcdnaaGreatDoorV3
import Derived.Test.YtljmndkpodcdnaaGreatDoorProg
import Derived.KernelRfl

section
set_option linter.unusedVariables false
set_option linter.unusedSimpArgs false
/- strings.Builder, as the package uses it: what its writer does, and to which blocks. -/
namespace Vou
open Go Go.RowKit Go.Proofs.Tryz

theorem infoBuilder : (prog.info? 155).map (fun i => i.size) = some 2 := by kernel_rfl
theorem infoByte : (prog.info? 5).map (fun i => (i.zero, i.size, i.bytes)) = some (some (.int .u8 0), 1, 1) := by kernel_rfl
theorem liesBuilder : liesAt prog prog.depth 155 (2 / prog.cellsOf 155) 0 155 1 = true := by kernel_rfl

set_option maxHeartbeats 1000000 in
set_option maxRecDepth 100000 in
theorem cc_used (b : Nat) (w : World) (h0 : w.cell? ⟨b, 0, none⟩ = some (.pointer (some ⟨b, 0, none⟩))) :
    Calls prog 147 #[.pointer (some ⟨b, 0, none⟩)] w fun e w' => e = .returned (.tuple #[]) ∧ w' = w := by
  obtain ⟨j, hj, _⟩ := Option.map_eq_some_iff.1 infoBuilder
  go_enter func147, ntmps147
  go_wp2
  rw [Lib.run_neq_ptr_same w _ underlying153 hj]
  go_wp2
  go_end0
  exact ⟨rfl, rfl⟩

set_option maxHeartbeats 1000000 in
set_option maxRecDepth 100000 in
theorem cc_fresh (b : Nat) (w : World) (h0 : w.cell? ⟨b, 0, none⟩ = some (.pointer none)) (hsh : w.shape? b = some (155, 2)) (hfz : w.frozen? ⟨b, 0, none⟩ = false) :
    Calls prog 147 #[.pointer (some ⟨b, 0, none⟩)] w fun e w' => e = .returned (.tuple #[]) ∧ w' = w.setCell ⟨b, 0, none⟩ (.pointer (some ⟨b, 0, none⟩)) := by
  obtain ⟨j, hj, hjs⟩ := Option.map_eq_some_iff.1 infoBuilder
  go_enter func147, ntmps147
  go_wp2
  rw [Lib.run_to_unsafe w ⟨b, 0, none⟩ underlying153 underlying188 hj (by rw [hjs]; decide) hsh (Nat.zero_lt_succ 1)]
  simp only [Result.andThen]
  rw [Oper.upon_value]
  go_wp2
  rw [run_callFunc_extern func161 (by kernel_rfl) (by kernel_rfl) (by kernel_rfl) (e := Extern.AbiNoEscape.same) (by kernel_rfl)]
  rw [Lib.run_noEscape]
  simp only [Result.andThen]
  rw [Oper.upon_value]
  go_wp2
  rw [Lib.run_from_unsafe w ⟨b, 0, none⟩ underlying188 underlying153 hj hsh liesBuilder]
  simp only [Result.andThen]
  rw [Oper.upon_value]
  go_wp2
  go_end0
  exact ⟨rfl, rfl⟩

/-- A builder in block b that holds these bytes; its buffer lies from B on. -/
def IsB (B b : Nat) (bs : List Value) (w : World) : Prop := ∃ p v, (p = .pointer none ∨ p = .pointer (some ⟨b, 0, none⟩)) ∧ w.heap[b]? = some (.cells #[p, v] 155 (0, 0)) ∧ w.ownsRow B 5 1 v bs.length bs

/-- What lies below B lies as it lay, but for block b. -/
structure Fr (B b : Nat) (w w' : World) : Prop where
  os : w'.os = w.os
  tape : w'.tape = w.tape
  output : w'.output = w.output
  size : w.heap.size ≤ w'.heap.size
  block : ∀ k, k < B → k ≠ b → w'.heap[k]? = w.heap[k]?
theorem Fr.refl (B b : Nat) (w : World) : Fr B b w w := ⟨rfl, rfl, rfl, Nat.le_refl _, fun _ _ _ => rfl⟩
theorem Fr.trans {B b : Nat} {w1 w2 w3 : World} (h : Fr B b w1 w2) (k : Fr B b w2 w3) : Fr B b w1 w3 := ⟨k.os.trans h.os, k.tape.trans h.tape, k.output.trans h.output, Nat.le_trans h.size k.size, fun i hi hn => (k.block i hi hn).trans (h.block i hi hn)⟩
theorem Fr.of_below {B b : Nat} {w w' : World} (h : Below B w w') : Fr B b w w' := ⟨h.os, h.tape, h.output, h.size, fun k hk _ => h.block k hk⟩
theorem Fr.below {B b n : Nat} {w w' : World} (h : Fr B b w w') (h1 : n ≤ B) (h2 : n ≤ b) : Below n w w' := ⟨h.os, h.tape, h.output, h.size, fun k hk => h.block k (by omega) (by omega)⟩
theorem fr_setCell {B b o : Nat} (w : World) (v : Value) : Fr B b w (w.setCell ⟨b, o, none⟩ v) :=
  ⟨rfl, rfl, rfl, by simp, fun k _ hk => Below.heap_setCell _ _ _ _ (fun e => hk (by simp [e]))⟩

set_option maxHeartbeats 2000000 in
set_option maxRecDepth 100000 in
theorem ws (B b : Nat) (bs : List Value) (s : ByteArray) (w : World) (h : IsB B b bs w) (hlen : bs.length + s.size ≤ 140737488355328) (hBw : B ≤ w.heap.size) (hbB : b < B) :
    Calls prog 127 #[.pointer (some ⟨b, 0, none⟩), .string s] w fun e w' => (∃ r, e = .returned r) ∧ IsB B b (bs ++ Lib.strCells s) w' ∧ Fr B b w w' ∧ KeepsOthers w w' := by
  obtain ⟨i0, hi, hz0, hz1, hz2⟩ := info_parts infoByte
  have e147 : ∀ args w, (callFunc 147 args).run prog w = .ok (.enter 147 args) w := Go.Proofs.enters_of func147 (by kernel_rfl) rfl
  have hcc : Calls prog 147 #[.pointer (some ⟨b, 0, none⟩)] w fun e w' => e = .returned (.tuple #[]) ∧ (∃ v, w'.heap[b]? = some (.cells #[.pointer (some ⟨b, 0, none⟩), v] 155 (0, 0)) ∧ w'.ownsRow B 5 1 v bs.length bs) ∧ Fr B b w w' ∧ KeepsOthers w w' := by
    obtain ⟨p, v, hp, hbk, hown⟩ := h
    rcases hp with rfl | rfl
    · refine (cc_fresh b w (by rw [Lib.cell_of_heap hbk]; rfl) (by simp [World.shape?, hbk]) (Lib.frozen_of_heap hbk 0)).mono ?_
      rintro e w' ⟨rfl, rfl⟩
      refine ⟨rfl, ⟨v, ?_, ?_⟩, fr_setCell w _, KeepsOthers.setCell _ _ _⟩
      · simp [World.setCell, Array.getElem?_modify, hbk]
      · exact hown.kept (row := some b) ⟨rfl, rfl, rfl, by simp [World.setCell], fun k _ hk => Below.heap_setCell _ _ _ _ (fun e => hk (by simp [e]))⟩ (Or.inr (fun e => by have := (hown.lt b e).1; omega))
    · refine (cc_used b w (by rw [Lib.cell_of_heap hbk]; rfl)).mono ?_
      rintro e w' ⟨rfl, rfl⟩
      exact ⟨rfl, ⟨v, hbk, hown⟩, Fr.refl _ _ _, KeepsOthers.refl _⟩
  go_enter func127, ntmps127
  go_wp2_with (go_at_call 147; refine hcc.mono ?_)
  rintro e w1 ⟨rfl, ⟨v, hbk, hown⟩, hb1, hko1⟩
  have c1 : w1.cell? ⟨b, 1, none⟩ = some v := by rw [Lib.cell_of_heap hbk]; rfl
  go_wp2_with (at_builtin; refine Lib.wpList_append_own_string _ rfl _ _ 78 9 rfl B 5 i0 underlying78 underlying9 hi hz0 hz1 hz2 _ _ _ rfl hown s rfl ?c3 ?c4 ?c5 ?_)
  case c3 => unfold maxLen; omega
  case c4 => omega
  case c5 => have := hb1.size; omega
  intro v' w2 hown' hgrow _
  have hrow : ∀ k, v.ownBlock = some k → B ≤ k := fun k hk => (hown.lt k hk).1
  have hlt : b < w1.heap.size := (Array.getElem?_eq_some_iff.1 hbk).1
  have hb2 : w2.heap[b]? = some (.cells #[.pointer (some ⟨b, 0, none⟩), v] 155 (0, 0)) := by
    rw [hgrow.block b hlt (fun e => by have := hrow b e.symm; omega)]
    exact hbk
  have d1 : w2.cell? ⟨b, 1, none⟩ = some v := by rw [Lib.cell_of_heap hb2]; rfl
  have f1 : w2.frozen? ⟨b, 1, none⟩ = false := Lib.frozen_of_heap hb2 1
  obtain ⟨ao, n', cap, rfl⟩ : ∃ ao n' cap, v' = .slice ao n' cap := by
    rcases hown'.2 with ⟨hv, _⟩ | ⟨g, cap, cur, hv, _⟩
    · exact ⟨_, _, _, hv⟩
    · exact ⟨_, _, _, hv⟩
  go_wp2
  go_ret2
  refine ⟨⟨_, rfl⟩, ⟨_, .slice ao n' cap, .inr rfl, by simp [World.setCell, Array.getElem?_modify, hb2], ?_⟩, ?_, ?_⟩
  · have hk := hown'.kept (row := some b) (w' := w2.setCell ⟨b, 1, none⟩ (.slice ao n' cap)) ⟨rfl, rfl, rfl, by simp [World.setCell], fun k _ hk => Below.heap_setCell _ _ _ _ (fun e => hk (by simp [e]))⟩ (Or.inr (fun e => by have := (hown'.lt b e).1; omega))
    simpa [Lib.strCells_length] using hk
  · refine (hb1.trans ?_).trans (fr_setCell w2 _)
    exact ⟨hgrow.os, hgrow.tape, hgrow.output, hgrow.size, fun k hk hne => by
      rcases Nat.lt_or_ge k w1.heap.size with h1 | h1
      · exact hgrow.block k h1 (fun e => by have := hrow k e.symm; omega)
      · have := hb1.size; omega⟩
  · refine (hko1.trans (KeepsOthers.of_grownBy hgrow fun j o hj ho => ?_)).trans (KeepsOthers.setCell _ _ _)
    rcases hown.2 with ⟨h1, _⟩ | ⟨g, cap, cur, rfl, _, hc, _⟩
    · rw [h1] at hj; cases hj
    · have hj : some g = some j := hj
      cases hj
      rw [hc] at ho
      cases ho
      rfl

theorem ko_freeze (w : World) {g : Nat} {c : Array Value} {t : TypeId} {f : Nat × Nat} (hg : w.heap[g]? = some (.cells c t f)) (n : Nat) : KeepsOthers w (w.drew.freeze ⟨g, 0, none⟩ n) := by
  unfold World.freeze
  split
  · exact KeepsOthers.drew w
  · refine ⟨by show w.heap.size ≤ (Array.modify w.heap g _).size; rw [Array.size_modify]; exact Nat.le_refl _, fun k o hk ho => ?_⟩
    have hne : g ≠ k := fun e => by
      subst e
      rw [hg] at hk
      cases hk
      cases ho
    show (Array.modify w.heap g _)[k]? = some o
    rw [Array.getElem?_modify, if_neg hne]
    exact hk

set_option maxHeartbeats 1000000 in
set_option maxRecDepth 100000 in
theorem bString (B b : Nat) (l : List UInt8) (w : World) (h : IsB B b (Lib.byteCells l) w) (h0 : l ≠ []) (hbB : b < B) :
    Calls prog 129 #[.pointer (some ⟨b, 0, none⟩)] w fun e w' => e = .returned (.string ⟨l.toArray⟩) ∧ Below B w w' ∧ KeepsOthers w w' := by
  obtain ⟨p, v, hp, hbk, hown⟩ := h
  have hl0 : l.length ≠ 0 := by simpa using h0
  rw [Lib.byteCells_length] at hown
  obtain ⟨g, cap, cur, rfl, hbg, hg, hnc, hcm, hcs, htake⟩ : ∃ g cap cur, v = .slice (some ⟨g, 0, none⟩) l.length cap ∧ B ≤ g ∧ w.heap[g]? = some (.cells cur 5 (0, 0)) ∧ l.length ≤ cap ∧ cap ≤ maxLen ∧ cur.size = cap * 1 ∧ cur.toList.take (l.length * 1) = Lib.byteCells l := by
    rcases hown.2 with ⟨_, hz⟩ | ⟨g, cap, cur, hv, r⟩
    · exact absurd hz hl0
    · exact ⟨g, cap, cur, hv, r⟩
  have c1 : w.drew.cell? ⟨b, 1, none⟩ = some (.slice (some ⟨g, 0, none⟩) l.length cap) := by
    have : w.drew.heap[b]? = some (.cells #[p, .slice (some ⟨g, 0, none⟩) l.length cap] 155 (0, 0)) := hbk
    rw [Lib.cell_of_heap this]; rfl
  have hSD : (Builtin.unsafeSliceData_ #[78] 180 #[.slice (some ⟨g, 0, none⟩) l.length cap]).run prog w.drew = .ok (.pointer (some ⟨g, 0, none⟩)) w.drew :=
    Lib.run_unsafeSliceData_row _ _ _ _ _ _ (by omega)
  have hcb : prog.cellsOf 5 = 1 := by kernel_rfl
  have hUS : (Builtin.unsafeString_ #[180, 3] 9 #[.pointer (some ⟨g, 0, none⟩), .int .i64 l.length]).run prog w.drew = .ok (.string ⟨l.toArray⟩) (w.drew.freeze ⟨g, 0, none⟩ l.length) := by
    refine Lib.run_unsafeString_row w.drew 180 3 9 5 underlying180 hcb g cur.size (by have hg' : w.drew.heap[g]? = some (.cells cur 5 (0, 0)) := hg; simp [World.shape?, hg']) l h0 (by omega) (by unfold maxLen at hcm; omega) ?_
    intro j x hx
    have := hown.cells (g := g) rfl j (.int .u8 x.toNat) (by simp [Lib.byteCells, hx])
    exact this
  go_enter func129, ntmps129
  go_wp2
  go_region
  all_goals (go_wp2; go_ret; exact ⟨rfl, Lib.below_freeze (Below.drew (Below.refl B w)) (p := ⟨g, 0, none⟩) hbg _, ko_freeze w hg _⟩)
end Vou
end

section
set_option linter.unusedVariables false
set_option linter.unusedSimpArgs false
/- Decimal texts of numbers, by limbs. -/
namespace Vou
open Go

def dByte (d : Nat) : UInt8 := UInt8.ofNat (48 + d)
/-- k digits. -/
def padk : Nat → Nat → List UInt8
  | 0, _ => []
  | k + 1, a => padk k (a / 10) ++ [dByte (a % 10)]
theorem padk_len : ∀ k a, (padk k a).length = k
  | 0, _ => rfl
  | k + 1, a => by rw [padk, List.length_append, padk_len k]; rfl
theorem padk_zero : ∀ k, padk k 0 = List.replicate k 48
  | 0 => rfl
  | k + 1 => by
    rw [padk, Nat.zero_div, padk_zero k, List.replicate_succ']
    rfl
theorem dec_lt {a : Nat} (h : a < 10) : Lib.decDigits a = [dByte a] := Lib.decDigits_one h
theorem dec_ge {a : Nat} (h : ¬ a < 10) : Lib.decDigits a = Lib.decDigits (a / 10) ++ [dByte (a % 10)] := by
  rw [Lib.decDigits, dif_neg h]; rfl
theorem dec_len_pos (a : Nat) : 0 < (Lib.decDigits a).length := by
  by_cases h : a < 10
  · rw [dec_lt h]; simp
  · rw [dec_ge h]; simp
theorem dec_len_le : ∀ (k : Nat) {a : Nat}, a < 10 ^ (k + 1) → (Lib.decDigits a).length ≤ k + 1
  | 0, a, h => by rw [dec_lt (by simpa using h)]; simp
  | k + 1, a, h => by
    by_cases h1 : a < 10
    · rw [dec_lt h1]; simp
    · rw [dec_ge h1, List.length_append]
      have := dec_len_le k (a := a / 10) (by rw [Nat.div_lt_iff_lt_mul (by omega), ← Nat.pow_succ]; exact h)
      simp only [List.length_cons, List.length_nil]; omega
theorem padk_eq : ∀ (k : Nat) {a : Nat}, a < 10 ^ (k + 1) → padk (k + 1) a = List.replicate (k + 1 - (Lib.decDigits a).length) 48 ++ Lib.decDigits a
  | 0, a, h => by
    have h : a < 10 := by simpa using h
    rw [dec_lt h, padk, padk, Nat.mod_eq_of_lt h]; rfl
  | k + 1, a, h => by
    by_cases h1 : a < 10
    · rw [dec_lt h1, padk, Nat.mod_eq_of_lt h1, Nat.div_eq_of_lt h1, padk_zero]; rfl
    · have hlt : a / 10 < 10 ^ (k + 1) := by rw [Nat.div_lt_iff_lt_mul (by omega), ← Nat.pow_succ]; exact h
      have hl := dec_len_le k hlt
      rw [dec_ge h1, padk, padk_eq k hlt, List.length_append, List.append_assoc]
      simp only [List.length_cons, List.length_nil]
      rw [show k + 1 + 1 - ((Lib.decDigits (a / 10)).length + (0 + 1)) = k + 1 - (Lib.decDigits (a / 10)).length by omega]
theorem dec_pad : ∀ (k : Nat) {V a : Nat}, 0 < V → a < 10 ^ k → Lib.decDigits (V * 10 ^ k + a) = Lib.decDigits V ++ padk k a
  | 0, V, a, hV, h => by
    have h : a = 0 := by simpa using h
    subst h
    simp [padk]
  | k + 1, V, a, hV, h => by
    have hp : 0 < 10 ^ k := Nat.pow_pos (by omega)
    have e : V * 10 ^ (k + 1) = 10 * (V * 10 ^ k) := by rw [Nat.pow_succ]; grind
    have h10 : ¬ V * 10 ^ (k + 1) + a < 10 := by
      have : 1 * 1 ≤ V * 10 ^ k := Nat.mul_le_mul hV hp
      omega
    have hlt : a / 10 < 10 ^ k := by rw [Nat.div_lt_iff_lt_mul (by omega), ← Nat.pow_succ]; exact h
    rw [dec_ge h10, padk, ← List.append_assoc, ← dec_pad k hV hlt, e]
    congr 2
    · congr 1; omega
    · congr 1; omega

/-- The text of a limb behind others. -/
def pad9 (a : Nat) : List UInt8 := List.replicate (9 - (Lib.decDigits a).length) 48 ++ Lib.decDigits a
theorem dec_limb {V a : Nat} (hV : 0 < V) (ha : a < 1000000000) : Lib.decDigits (V * 1000000000 + a) = Lib.decDigits V ++ pad9 a := by
  have h := dec_pad 9 (V := V) (a := a) hV (by simpa using ha)
  rw [padk_eq 8 (by simpa using ha)] at h
  simpa [pad9] using h
theorem dec_len9 {a : Nat} (ha : a < 1000000000) : (Lib.decDigits a).length ≤ 9 := dec_len_le 8 (by simpa using ha)

/-- The limbs from i on. -/
def topV (x i : Nat) : Nat := val 1000000000 ((d9 x).drop i)
theorem topV_step {x i : Nat} (h : i < (d9 x).length) : topV x i = topV x (i + 1) * 1000000000 + (d9 x).getD i 0 := by
  unfold topV
  rw [val_drop _ _ _ h]; omega
theorem topV_zero (x : Nat) : topV x 0 = x := val_d9 x
theorem topV_end (x : Nat) : topV x (d9 x).length = 0 := by simp [topV, val]
theorem topV_pos {x i : Nat} (h : i < (d9 x).length) : 0 < topV x i := by
  unfold topV
  refine val_pos (by omega) ?_ (fun e => by have := congrArg List.length e; simp at this; omega)
  have hz := noZ_dg (b := 1000000000) (by omega) x
  intro e
  exact hz (by
    rw [show dg 1000000000 x = d9 x from rfl]
    rw [List.getLast?_drop, if_neg (by omega)] at e
    exact e)
/-- The text of the limbs from i on; nothing of none. -/
def topT (x i : Nat) : List UInt8 := if i < (d9 x).length then Lib.decDigits (topV x i) else []
theorem topT_first {x i : Nat} (h : i + 1 = (d9 x).length) : topT x i = Lib.decDigits ((d9 x).getD i 0) := by
  rw [topT, if_pos (by omega), topV_step (by omega), h, topV_end, Nat.zero_mul, Nat.zero_add]
theorem topT_next {x i : Nat} (h : i + 1 < (d9 x).length) : topT x i = topT x (i + 1) ++ pad9 ((d9 x).getD i 0) := by
  rw [topT, if_pos (by omega), topT, if_pos h, topV_step (by omega), dec_limb (topV_pos h) (lim9 x i)]
theorem topT_zero {x : Nat} (h : 0 < (d9 x).length) : topT x 0 = Lib.decDigits x := by rw [topT, if_pos h, topV_zero]
end Vou
end

section
set_option linter.unusedVariables false
set_option linter.unusedSimpArgs false
/- The text of a number. -/
namespace Vou
open Go Go.RowKit Go.Proofs.Tryz
attribute [local go_sem] Oper.semAt_some
theorem fnA91 : prog.funcs[91]? = some f91 := by kernel_rfl
theorem fnA145x : prog.funcs[145]? = some f145 := by kernel_rfl

theorem IsB.other {B b : Nat} {bs : List Value} {W W' : World} {row : Option Nat} (h : IsB B b bs W) (hb : b < B) (hg : W.grownBy W' row) (hr : ∀ r, row = some r → B ≤ r ∧ ∃ o : Obj, W.heap[r]? = some o ∧ o.isCells = false) : IsB B b bs W' := by
  obtain ⟨p, v, hp, hbk, hown⟩ := h
  refine ⟨p, v, hp, (grown_cells hg hr ⟨_, _, _, hbk⟩).trans hbk, hown.kept hg ?_⟩
  rcases hown.2 with ⟨h1, _⟩ | ⟨g, cap, cur, rfl, _, hc, _⟩
  · left; rw [h1]; rfl
  · right
    intro e
    have e : some g = row := e
    obtain ⟨_, o, ho, hoc⟩ := hr g e.symm
    rw [hc] at ho
    cases ho
    cases hoc
theorem Fr.other {B b : Nat} {W0 W W' : World} {row : Option Nat} (h : Fr B b W0 W) (hle : B ≤ W.heap.size) (hg : W.grownBy W' row) (hr : ∀ r, row = some r → B ≤ r ∧ ∃ o : Obj, W.heap[r]? = some o ∧ o.isCells = false) : Fr B b W0 W' :=
  ⟨hg.os.trans h.os, hg.tape.trans h.tape, hg.output.trans h.output, Nat.le_trans h.size hg.size, fun k hk hne => (hg.block k (by omega) (fun e => by have := (hr k e.symm).1; omega)).trans (h.block k hk hne)⟩
theorem tab3 : prog.globalNamed "internal/strconv.uint64pow10" = some 3 := by kernel_rfl
theorem tabIs {S : Nat → Prop} {w : World} (h : Gl S w) : Lib.TabIs prog w "internal/strconv.uint64pow10" .u64 Lib.pow10Tab := by
  obtain ⟨⟨_, t, f, h2⟩, _⟩ := h
  simp [Lib.TabIs, World.var?, tab3, h2]
theorem itoaB (a : Nat) (ha : a < 1000000000) {S : Nat → Prop} {w : World} (h : Gl S w) : Calls prog 126 #[.int .i64 (a : Int)] w fun e w' => e = .returned (.string ⟨(Lib.decDigits a).toArray⟩) ∧ Below w.heap.size w w' := by
  refine (strconv_Itoa (a : Int) (by omega) (by omega) w (tabIs h)).mono ?_
  rintro e w' ⟨rfl, k, os, rfl⟩
  rw [Lib.itoa_nonneg]
  exact ⟨rfl, Lib.below_grow _ _ (Nat.le_refl _) _ _⟩
theorem repB (c : Nat) (hc : c ≤ 9) (w : World) : Calls prog 128 #[.string ⟨#[48]⟩, .int .i64 (c : Int)] w fun e w' => e = .returned (.string ⟨(List.replicate c (48 : UInt8)).toArray⟩) ∧ Below w.heap.size w w' := by
  refine (strings_Repeat ⟨#[48]⟩ c w (by omega) (by show 1 * c ≤ _; omega)).mono ?_
  rintro e w' ⟨rfl, hB⟩
  refine ⟨?_, hB⟩
  have : Lib.repeatL [48] c = List.replicate c (48 : UInt8) := by
    induction c with
    | zero => rfl
    | succ c ih => rw [Lib.repeatL, ih (by omega)]; rfl
  simp [this]
theorem IsB.below {B b : Nat} {bs : List Value} {W W' : World} (h : IsB B b bs W) (hb : Below W.heap.size W W') : IsB B b bs W' := by
  obtain ⟨p, v, hp, hbk, hown⟩ := h
  have hlt : b < W.heap.size := (Array.getElem?_eq_some_iff.1 hbk).1
  refine ⟨p, v, hp, (hb.block b hlt).trans hbk, ?_⟩
  exact hown.kept (row := none) ⟨hb.os, hb.tape, hb.output, hb.size, fun k hk _ => hb.block k hk⟩ (by
    rcases hown.2 with ⟨h1, _⟩ | ⟨g, cap, cur, rfl, _⟩
    · left; rw [h1]; rfl
    · right; simp [Value.ownBlock])
theorem Fr.belowN {B b : Nat} {W W' : World} (h : Below W.heap.size W W') (hB : B ≤ W.heap.size) : Fr B b W W' := ⟨h.os, h.tape, h.output, h.size, fun k hk _ => h.block k (by omega)⟩
theorem ko_below {W W' : World} (h : Below W.heap.size W W') : KeepsOthers W W' := ⟨h.size, fun k o hk _ => (h.block k (Array.getElem?_eq_some_iff.1 hk).1).trans hk⟩
theorem bytes_app (bs l : List UInt8) : Lib.byteCells bs ++ Lib.strCells ⟨l.toArray⟩ = Lib.byteCells (bs ++ l) := by simp [Lib.byteCells, Lib.strCells]
/-- Between two rounds. -/
def TxI (x B b : Nat) (w1 : World) (pre : List { i : Nat // i < (d9 x).length }) (W : World) : Prop :=
  ∃ bs : List UInt8, bs.length ≤ 9 * pre.length ∧ (Beg (d9 x).length pre → bs = topT x ((d9 x).length - pre.length)) ∧ IsB B b (Lib.byteCells bs) W ∧ Fr B b w1 W
set_option maxRecDepth 100000 in
set_option maxHeartbeats 4000000 in
theorem text_wp (x : Nat) (w : World) (S : Nat → Prop) (v : Value) (hcl : Cl S w) (hv : RelP S w (nP x) v) (hx : (d9 x).length < 1073741824) :
    CallsIn Fence.wide 2 prog 91 #[v] w fun e w' => e = .returned (.string ⟨(Lib.decDigits x).toArray⟩) ∧ Below w.heap.size w w' := by
  obtain ⟨A, c, rfl, hmax, hsl⟩ := rel_slP hv
  refine callsIn_of_wp_marks fnA91 rfl trivial ?_
  simp only [show f91.ntmps = 30 from rfl, List.size_toArray, List.length_cons, List.length_nil, Nat.reduceAdd, Nat.reduceSub, Array.replicate_succ, Array.replicate_zero, List.push_toArray, List.append_toArray, List.nil_append, List.cons_append]
  by_cases h0 : (d9 x).length = 0
  · rw [h0]
    gi_wp2
    have hx0 : x = 0 := nat_of_d9_0 h0
    subst hx0
    refine ⟨.string ⟨#[48]⟩, by rw [results_tmp (t := 2) rfl]; rfl, ?_, (Below.refl _ w).alloc (Nat.le_refl _) _⟩
    rw [dec_lt (by omega)]
    rfl
  · gi_wp2
    refine ⟨trivial, CallsIn.mono (callsIn_wide.2 (box120 _ A _ c)) ?_⟩
    rintro e w1 ⟨gb, rfl, hB1, hge, hh⟩
    gi_wp2
    have hs1 : w.heap.size + 2 ≤ w1.heap.size := by have := hB1.size; simp at this; omega
    simp only [World.size_alloc] at hB1 hge
    have hW1 : ∀ k, k < w.heap.size → w1.heap[k]? = w.heap[k]? := fun k hk => by
      rw [hB1.block k (by omega), Below.heap_alloc _ _ _ (by simp; omega), Below.heap_alloc _ _ _ hk]
    have hbox : w1.heap[w.heap.size]? = some (.cells #[.slice A (d9 x).length c] 24 (0, 0)) := by
      rw [hB1.block _ (by omega), Below.heap_alloc _ _ _ (by simp)]; exact World.alloc_heap_new w _
    have hbu : w1.heap[w.heap.size + 1]? = some (.cells #[.pointer none, .slice none 0 0] 155 (0, 0)) := by
      rw [hB1.block _ (by omega)]
      have := World.alloc_heap_new (w.alloc (.cells #[.slice A (d9 x).length c] 24)) (.cells #[.pointer none, .slice none 0 0] 155)
      rwa [World.size_alloc] at this
    have hgbl : gb < w1.heap.size := (Array.getElem?_eq_some_iff.1 hh).1
    have hcell : w1.cell? ⟨gb, 0, none⟩ = some (.slice A (d9 x).length c) := by simp [World.cell?, hh]
    have hsl1 : (d9 x).length = 0 ∨ ∃ ge off, A = some ⟨ge, off, none⟩ ∧ ∀ i, i < (d9 x).length → w1.cell? ⟨ge, off + i, none⟩ = some (.int .u32 ((d9 x).getD i 0 : Nat)) := hsl.imp id fun ⟨ge, off, h1, h2, h3⟩ => ⟨ge, off, h1, fun i hi => cell_same (h3 i hi) (hW1 ge (hcl.at_ ge h2).lt)⟩
    have hseq := backSeq (d9 x) gb A c w1 hcell hmax hsl1
    refine wpIn_rangeFunc_ownF (n := 2) (F := Fence.wide) (w0 := w1) (gf := 145) (lb := #[.pointer (some ⟨gb, 0, none⟩)]) (encs := encB (d9 x)) (Kp := KpB (gsB gb A)) rfl (by omega) rfl trivial ?_ hseq ?_ ?_ (Below.refl _ _) (fun _ => rfl)
      (TxI x w1.heap.size (w.heap.size + 1) w1) (fun _ _ _ => False) ?_ ?_ ?_
      (fun y => { tmps := #[.slice A (d9 x).length c, .pointer (some ⟨w.heap.size, 0, none⟩), .string { data := #[] }, .pointer (some ⟨w.heap.size + 1, 0, none⟩), .int .i64 (y.1 : Nat), .int .u32 ((d9 x).getD y.1 0 : Nat), undef, .slice A (d9 x).length c, .int .i64 ((d9 x).length : Nat), .bool false, .slice A (d9 x).length c, .func (.func 145) #[] #[.pointer (some ⟨gb, 0, none⟩)], .int .i64 (y.1 : Nat), .int .u32 ((d9 x).getD y.1 0 : Nat), undef, undef, undef, undef, undef, undef, undef, undef, undef, undef, undef, undef, undef, undef, undef, undef], defers := [] }) ?_ ?_ ?_ ?_
    · exact Go.Proofs.enters_of fnA145x (by kernel_rfl) rfl
    · intro A' B' C' h1 h2 g hg hc
      have e1 := h1 g hg hc
      rw [h2 g hg (hc.same e1), e1]
    · intro W l o o' hl ho hc hw g hg hcl'
      refine World.putObj_heap_other fun e => ?_
      subst e
      rw [cells_isCells hcl' ho] at hc
      cases hc
    · rintro pre W W' row ⟨bs, h1, h2, h3, h4⟩ hg hr
      exact ⟨bs, h1, h2, h3.other (by omega) hg hr, h4.other h4.size hg hr⟩
    · rintro c' pre W W' row h hg hr
      exact h
    · exact ⟨[], by simp, fun _ => by simp [topT], ⟨_, _, .inl rfl, hbu, World.ownsRow_nil _ _ _ _⟩, Fr.refl _ _ _⟩
    · intro l y W K hK
      have hz : ∀ T : Array Value, (#[12, 13].zip (encB (d9 x) y)).foldl (fun t (p, v) => t.setIfInBounds p v) T = (T.setIfInBounds 12 (.int .i64 (y.1 : Nat))).setIfInBounds 13 (.int .u32 ((d9 x).getD y.1 0 : Nat)) := fun T => by simp [encB]
      rw [hz]
      refine assign_in rfl rfl rfl rfl rfl rfl ?_
      simpa using hK
    · rintro l pre y W ⟨bs, h1, h2, h3, h4⟩ hlen
      have hlim := lim9 x y.1
      obtain ⟨a, ha⟩ : ∃ a, (d9 x).getD y.1 0 = a := ⟨_, rfl⟩
      have hWs := h4.size
      have hgl : ∀ {W' : World}, Fr w1.heap.size (w.heap.size + 1) w1 W' → Gl S W' := fun {W'} h => hcl.gl.mono fun g hg => ⟨hg, by
        have hlt := (hcl.at_ g hg).lt
        rw [h.block g (by omega) (by omega), hW1 g hlt]⟩
      have hbx : ∀ {W' : World}, Fr w1.heap.size (w.heap.size + 1) w1 W' → W'.cell? ⟨w.heap.size, 0, none⟩ = some (.slice A (d9 x).length c) := fun {W'} h => by
        have := h.block w.heap.size (by omega) (by omega)
        simp [World.cell?, this, hbox]
      have hkp : ∀ {V V' : World}, Fr w1.heap.size (w.heap.size + 1) V V' → KpB (gsB gb A) V V' := fun {V V'} h g hg hc => by
        rcases hg with rfl | ⟨off, hA⟩
        · exact h.block g hgbl (by omega)
        · rcases hsl with h0' | ⟨ge, off', hA', hS, _⟩
          · exact absurd h0' h0
          · rw [hA] at hA'
            cases hA'
            have := (hcl.at_ g hS).lt
            exact h.block g (by omega) (by omega)
      have hdl := dec_len9 (a := a) (by omega)
      have hit := itoaB a (by omega) (hgl h4)
      rw [ha]
      gi_wp2
      refine ⟨trivial, rfl, CallsIn.mono (CallsIn.inRound l (callsIn_wide.2 hit)) ?_⟩
      rintro e W2 ⟨rfl, hB2⟩
      have f2 := h4.trans (Fr.belowN hB2 hWs)
      have b2 := h3.below hB2
      have c2 := hbx f2
      gi_wp2
      · have hi : y.1 + 1 < (d9 x).length := by omega
        have hw : 9 - ((Lib.decDigits a).length : Int) = ((9 - (Lib.decDigits a).length : Nat) : Int) := by omega
        rw [hw]
        refine ⟨trivial, rfl, CallsIn.mono (CallsIn.inRound l (callsIn_wide.2 (repB _ (by omega) W2))) ?_⟩
        rintro e W3 ⟨rfl, hB3⟩
        have b3 := b2.below hB3
        have s2 := hB2.size
        have s3 := hB3.size
        gi_wp2
        refine ⟨trivial, rfl, CallsIn.mono (CallsIn.inRound l (callsIn_wide.2 (ws w1.heap.size (w.heap.size + 1) _ _ W3 b3 (by rw [Lib.byteCells_length]; show bs.length + (List.replicate (9 - (Lib.decDigits a).length) (48 : UInt8)).toArray.size ≤ _; simp; omega) (by omega) (by omega)))) ?_⟩
        rintro e W4 ⟨⟨r, rfl⟩, b4, f4, k4⟩
        rw [bytes_app] at b4
        have s4 := f4.size
        gi_wp2
        refine ⟨trivial, rfl, CallsIn.mono (CallsIn.inRound l (callsIn_wide.2 (ws w1.heap.size (w.heap.size + 1) _ _ W4 b4 (by rw [Lib.byteCells_length]; show (bs ++ List.replicate (9 - (Lib.decDigits a).length) (48 : UInt8)).length + (Lib.decDigits a).toArray.size ≤ _; simp; omega) (by omega) (by omega)))) ?_⟩
        rintro e W5 ⟨⟨r', rfl⟩, b5, f5, k5⟩
        rw [bytes_app] at b5
        gi_wp2
        have fW : Fr w1.heap.size (w.heap.size + 1) W W5 := (((Fr.belowN hB2 hWs).trans (Fr.belowN hB3 (by omega))).trans f4).trans f5
        refine ⟨(((ko_below hB2).trans (ko_below hB3)).trans k4).trans k5, hkp fW, _, by simp; omega, fun hb => ?_, b5, h4.trans fW⟩
        obtain ⟨hb1, hb2⟩ := hb.step
        rw [h2 hb1]
        simp only [List.length_append, List.length_cons, List.length_nil]
        rw [show (d9 x).length - (pre.length + (0 + 1)) = y.1 by omega, show (d9 x).length - pre.length = y.1 + 1 by omega, topT_next hi, ha, pad9, List.append_assoc]
        simp
      · have s2 := hB2.size
        refine ⟨trivial, rfl, CallsIn.mono (CallsIn.inRound l (callsIn_wide.2 (ws w1.heap.size (w.heap.size + 1) _ _ W2 b2 (by rw [Lib.byteCells_length]; show bs.length + (Lib.decDigits a).toArray.size ≤ _; simp; omega) (by omega) (by omega)))) ?_⟩
        rintro e W5 ⟨⟨r', rfl⟩, b5, f5, k5⟩
        rw [bytes_app] at b5
        gi_wp2
        have fW : Fr w1.heap.size (w.heap.size + 1) W W5 := (Fr.belowN hB2 hWs).trans f5
        refine ⟨(ko_below hB2).trans k5, hkp fW, _, by simp; omega, fun hb => ?_, b5, h4.trans fW⟩
        obtain ⟨hb1, hb2⟩ := hb.step
        have hy := y.2
        have hi : y.1 + 1 = (d9 x).length := by omega
        rw [h2 hb1]
        simp only [List.length_append, List.length_cons, List.length_nil]
        rw [show (d9 x).length - (pre.length + (0 + 1)) = y.1 by omega, show (d9 x).length - pre.length = (d9 x).length by omega, topT_first hi, ha, topT, if_neg (by omega)]
        rfl
    · rintro D pre W hD hS ⟨bs, h1, h2, h3, h4⟩ hDW
      obtain ⟨hl, hb⟩ := Beg.all hS
      have hbs := h2 hb
      rw [hl, Nat.sub_self, topT_zero (by omega)] at hbs
      subst hbs
      have hWs := h4.size
      gi_wp2
      refine ⟨trivial, CallsIn.mono (callsIn_wide.2 (bString w1.heap.size (w.heap.size + 1) _ W h3 (fun e => by have := dec_len_pos x; rw [e] at this; simp at this) (by omega))) ?_⟩
      rintro e W5 ⟨rfl, hB5, hk5⟩
      gi_wp2
      have hK := hk5.same D _ hDW rfl
      refine ⟨by simp, .inl ⟨_, _, rfl, run_takeDeferred hK, ?_⟩⟩
      refine ⟨.string ⟨(Lib.decDigits x).toArray⟩, by rw [results_tmp (t := 2) rfl]; rw [← topT_zero (x := x) (by omega)]; rfl, rfl, ?_⟩
      have hB := hB5.mono (show w.heap.size ≤ w1.heap.size by omega)
      have hBW := h4.below (n := w.heap.size) (by omega) (by omega)
      have hBw1 : Below w.heap.size w w1 := by
        refine ⟨?_, ?_, ?_, by omega, hW1⟩
        · exact hB1.os
        · exact hB1.tape
        · exact hB1.output
      refine ((hBw1.trans hBW).trans hB).trans ⟨rfl, rfl, rfl, by simp, fun k hk => World.putObj_heap_other (by omega)⟩
    · rintro D c' pre W hD _ h _
      exact h.elim

/-- The text of a number. -/
theorem w_text (x : Nat) (hx : (d9 x).length < 1073741824) : FnP prog 91 [nP x] (.v (.string ⟨(Lib.decDigits x).toArray⟩)) := by
  intro w S vals hcl hR
  obtain ⟨v, us, rfl, hv, hnil⟩ := hR
  have hnil : us = [] := hnil
  subst hnil
  refine (callsIn_wide.1 (text_wp x w S v hcl hv hx)).mono ?_
  rintro e w' ⟨rfl, hB⟩
  exact ⟨_, S, rfl, rfl, hB, fun _ h => h, fun g h => .inl h⟩
end Vou
end

section
set_option linter.unusedVariables false
set_option linter.unusedSimpArgs false
/- Contracts of the library's functions on strings. -/
namespace Vou
open Go Go.RowKit Go.Proofs Go.Proofs.Tryz

abbrev sV (l : List UInt8) : Value := .string ⟨l.toArray⟩
theorem fnP_same {f : FuncId} {args : List PV} {r : PV} (h : ∀ (w : World) (S : Nat → Prop) (vals : List Value), Cl S w → RelL S w args vals → Calls prog f vals.toArray w fun e w' => ∃ v, e = .returned v ∧ RelP S w' r v ∧ Below w.heap.size w w') : FnP prog f args r := fun w S vals hcl hR =>
  (h w S vals hcl hR).mono fun e w' ⟨v, he, hv, hB⟩ => ⟨v, S, he, hv, hB, fun _ h => h, fun g h => .inl h⟩

/-- strings.CutPrefix. -/
theorem w_cutPrefix (s p : ByteArray) : FnP prog 82 [.v (.string s), .v (.string p)] (packP [.v (sV (Lib.trimPrefix s.data.toList p.data.toList)), .v (.bool (Lib.hasPrefix s.data.toList p.data.toList))]) := fnP_same fun w S vals hcl hR => by
  obtain ⟨_, _, rfl, rfl, _, _, rfl, rfl, rfl⟩ := hR
  refine (strings_CutPrefix s p w).mono ?_
  rintro e w' ⟨rfl, rfl⟩
  exact ⟨_, rfl, ⟨[_, _], rfl, _, _, rfl, rfl, _, _, rfl, rfl, rfl⟩, Below.refl _ _⟩
theorem drewN_below (w : World) (n : Nat) : Below w.heap.size w (w.drewN n) := ⟨rfl, rfl, rfl, Nat.le_refl _, fun _ _ => rfl⟩
/-- strings.Cut. -/
theorem w_cut (s p : ByteArray) (hs : s.size < 4294967281) : FnP prog 83 [.v (.string s), .v (.string p)] (packP [.v (sV (Lib.cut s.data.toList p.data.toList).1), .v (sV (Lib.cut s.data.toList p.data.toList).2.1), .v (.bool (Lib.cut s.data.toList p.data.toList).2.2)]) := fnP_same fun w S vals hcl hR => by
  obtain ⟨_, _, rfl, rfl, _, _, rfl, rfl, rfl⟩ := hR
  obtain ⟨_, hm, n, t, f, hmx⟩ := hcl.gl
  refine (strings_Cut s p n w hs (by simp [World.cell?, hmx])).mono ?_
  rintro e w' ⟨rfl, k, rfl⟩
  exact ⟨_, rfl, ⟨[_, _, _], rfl, _, _, rfl, rfl, _, _, rfl, rfl, _, _, rfl, rfl, rfl⟩, drewN_below w k⟩
/-- strings.Trim at the digits. -/
theorem w_trim (s : ByteArray) (hs : s.size ≤ 9223372036854775807) : FnP prog 118 [.v (.string s), .v (.string ⟨#[48, 49, 50, 51, 52, 53, 54, 55, 56, 57]⟩)] (.v (sV (Lib.trimS s.data.toList [48, 49, 50, 51, 52, 53, 54, 55, 56, 57]))) := fnP_same fun w S vals hcl hR => by
  obtain ⟨_, _, rfl, rfl, _, _, rfl, rfl, rfl⟩ := hR
  refine (Any.strings_Trim_laid lays160 (by kernel_rfl) s ⟨#[48, 49, 50, 51, 52, 53, 54, 55, 56, 57]⟩ w hs (by decide) (ascii_of_all (by decide))).mono ?_
  rintro e w' ⟨rfl, hB⟩
  exact ⟨_, rfl, rfl, hB⟩
end Vou
end

section
set_option linter.unusedVariables false
set_option linter.unusedSimpArgs false
/- Operations on strings: a part of one, its bytes as a slice; the greater of two numbers. -/
namespace Vou
open Go Go.RowKit

/-- The bytes of a string. -/
def sB (s : ByteArray) : List Nat := s.data.toList.map UInt8.toNat
theorem sB_len (s : ByteArray) : (sB s).length = s.size := by simp [sB]

section
variable {P : Program} {N : Nat} {o : Oper} {σ : ASt}
theorem o_slS (d : Option Nat) (hd : DS N o d) {t : TypeId} {x : Operand} {lo hi : Option Operand} (ho : o.op = .slice t x lo hi none) {s : ByteArray} (hx : σ.look x = .p (.v (.string s)))
    {r : Nat × Nat × Option Value} (ht : tyOf P t = some (.string, r)) (l h' : Nat) (hlo : Bnd σ lo 0 l) (hhi : Bnd σ hi s.size h') (h1 : l ≤ h') (h2 : h' ≤ s.size) : Ok P N o σ (σ.put d (.p (.v (.string (s.extract l h'))))) :=
  o_yl d hd (yl_slice_str ho hx ht l h' hlo hhi h1 h2)

theorem o_max (d : Option Nat) (hd : DS N o d) {t : Array TypeId} {x y : Operand} (ho : o.op = .call { callee := .builtin .max, args := #[x, y], argTypes := t }) {k : IntKind} {m n : Int} (hx : σ.look x = Z k m) (hy : σ.look y = Z k n) {r : Int} (hr : (if n > m then n else m) = r) : Ok P N o σ (σ.put d (Z k r)) :=
  o_yl d hd (fun w0 S0 Hd a w β S hI => by
    subst hr
    have h1 := hI.look x β (Agree.refl _ _)
    have h2 := hI.look y β (Agree.refl _ _)
    rw [hx] at h1
    rw [hy] at h2
    have h1 : a.eval x = .int k m := h1
    have h2 : a.eval y = .int k n := h2
    refine ⟨.int k (if n > m then n else m), ?_, fun _ _ => rfl⟩
    unfold execOp
    simp [ho, resolve, invoke, builtin, h1, h2, Builtin.max_, Builtin.max2])

theorem relE_bytes {S : Nat → Prop} {w : World} {b : Nat} : ∀ (l : List Nat) (o : Nat), (∀ i, i < l.length → w.cell? ⟨b, o + i, none⟩ = some (.int .u8 (l.getD i 0 : Nat))) → RelE S w (els .u8 l) b o 1
  | [], _, _ => trivial
  | x :: l, o, h => by
    refine ⟨rfl, ⟨⟨_, h 0 (by simp), rfl, rfl⟩, trivial⟩, relE_bytes l (o + 1) fun i hi => ?_⟩
    have := h (i + 1) (by simpa using hi)
    rw [show o + 1 + i = o + (i + 1) by omega]
    simpa using this

theorem o_s2b (d : Option Nat) (hd : DS N o d) {src dst e : TypeId} {x : Operand} (ho : o.op = .convert src dst x) {s : ByteArray} (hx : σ.look x = .p (.v (.string s)))
    {r r' r'' : Nat × Nat × Option Value} (hs : tyOf P src = some (.string, r)) (hdt : tyOf P dst = some (.slice e, r')) (he : tyOf P e = some (.int .u8, r'')) (hsz : s.size ≤ maxLen) : Ok P N o σ (σ.put d (.p (slP .u8 (sB s)))) := ⟨fun w0 S0 Hd a w ⟨β, S, hI⟩ K Q hK => by
  obtain ⟨u1, _⟩ := tyOf_spec hs
  obtain ⟨u2, _⟩ := tyOf_spec hdt
  obtain ⟨u3, _⟩ := tyOf_spec he
  have h1 := hI.look x β (Agree.refl _ _)
  rw [hx] at h1
  have h1 : a.eval x = .string s := h1
  have hrun := run_bytes_of_string (P := P) w src dst e s u1 u2 u3
  obtain ⟨w', hw'⟩ : ∃ w', w.drew.alloc (.cells (bytesRow s (grownCap w s.size 0 e)) e ((bytesRow s (grownCap w s.size 0 e)).size, (bytesRow s (grownCap w s.size 0 e)).size + 1)) = w' := ⟨_, rfl⟩
  rw [hw'] at hrun
  have hr : (execOp a.eval o).run P w = .ok (.value (.slice (some ⟨w.heap.size, 0, none⟩) s.size (grownCap w s.size 0 e))) w' := by
    unfold execOp
    simp only [ho, Sem.run_bind, h1, hrun, Result.andThen_ok, Sem.run_pure]
  unfold Oper.wp
  rw [hr]
  have hnew : w'.heap[w.heap.size]? = some (.cells (bytesRow s (grownCap w s.size 0 e)) e ((bytesRow s (grownCap w s.size 0 e)).size, (bytesRow s (grownCap w s.size 0 e)).size + 1)) := by
    rw [← hw']; exact World.alloc_heap_new w.drew _
  have hB : Below w.heap.size w w' := by
    rw [← hw']; exact (Below.refl _ w).drew.alloc (Nat.le_refl _) _
  have hG := hI.grow (S' := fun g => S g ∨ g = w.heap.size) hB (fun g h => .inl h) (fun g hg => by
    rcases hg with hg | rfl
    · exact .inl hg
    · exact .inr ⟨Nat.le_refl _, _, _, _, hnew⟩)
  rw [Oper.upon_value, hd.1]
  refine hK _ _ ⟨β, _, hG.putO (fun d' e => hd.ok d' (by rw [hd.1]; exact e)) fun β' _ => ?_⟩
  have hcap : s.size ≤ grownCap w s.size 0 e := grownCap_ge w s.size 0 e
  have hcm : grownCap w s.size 0 e ≤ maxLen := grownCap_le_maxLen w s.size 0 e hsz
  have hl : (els .u8 (sB s)).length = s.size := by rw [els_len, sB_len]
  have hE : RelE (fun g => S g ∨ g = w.heap.size) w' (els .u8 (sB s)) w.heap.size 0 1 := relE_bytes _ _ fun i hi => by
    rw [sB_len] at hi
    have hi' : i < s.data.size := hi
    simp only [World.cell?, hnew, Nat.zero_add]
    simp [bytesRow, Array.getElem?_append, sB, List.getD_eq_getElem?_getD]
    rw [if_pos hi, Array.getElem?_eq_getElem hi']
    rfl
  show RelP _ _ (.sl false (els .u8 (sB s))) _
  clear hrun hr hw' hK hnew
  generalize grownCap w s.size 0 e = gc at *
  cases hs0 : els .u8 (sB s) with
  | nil =>
    rw [hs0] at hl
    have hl : 0 = s.size := hl
    rw [← hl]
    exact ⟨_, _, rfl, Nat.zero_le _, hcm, (fun h => by cases h), .inl rfl⟩
  | cons a0 l0 =>
    rw [hs0] at hl hE
    rw [← hl] at hcap ⊢
    exact ⟨_, _, rfl, hcap, hcm, (fun h => by cases h), .inr ⟨_, _, _, rfl, .inr rfl, hE⟩⟩⟩
end
end Vou
end

section
set_option linter.unusedVariables false
set_option linter.unusedSimpArgs false
/- The types and functions of the program that the walks name. -/
namespace Vou
open Go Go.RowKit Go.Proofs.Tryz
theorem mixed : prog.follows .mixedOrders = true := by kernel_rfl
theorem ty3 : tyOf prog 3 = some (TypeDesc.int IntKind.i64, 1, 8, some (Value.int IntKind.i64 0)) := by kernel_rfl
theorem ty4 : tyOf prog 4 = some (TypeDesc.bool, 1, 1, some (Value.bool false)) := by kernel_rfl
theorem ty5 : tyOf prog 5 = some (TypeDesc.int IntKind.u8, 1, 1, some (Value.int IntKind.u8 0)) := by kernel_rfl
theorem ty9 : tyOf prog 9 = some (TypeDesc.string, 1, 16, some (Value.string (ByteArray.mk (Array.mk [])))) := by kernel_rfl
theorem ty24 : tyOf prog 24 = some (TypeDesc.slice 138, 1, 24, some (Value.slice none 0 0)) := by kernel_rfl
theorem ty26 : tyOf prog 26 = some (TypeDesc.struct (Array.mk [Field.mk "neg" 4 0 false "" "voussoir/exact" 0, Field.mk "num" 24 1 false "" "voussoir/exact" 8, Field.mk "den" 24 2 false "" "voussoir/exact" 32]), 3, 56, some (Value.agg (Array.mk [Value.bool false, Value.slice none 0 0, Value.slice none 0 0]))) := by kernel_rfl
theorem ty78 : tyOf prog 78 = some (TypeDesc.slice 5, 1, 24, some (Value.slice none 0 0)) := by kernel_rfl
theorem ty126 : tyOf prog 126 = some (TypeDesc.struct (Array.mk [Field.mk "neg" 4 0 false "" "voussoir/exact" 0, Field.mk "n" 24 1 false "" "voussoir/exact" 8]), 2, 32, some (Value.agg (Array.mk [Value.bool false, Value.slice none 0 0]))) := by kernel_rfl
theorem ty137 : tyOf prog 137 = some (TypeDesc.int IntKind.u64, 1, 8, some (Value.int IntKind.u64 0)) := by kernel_rfl
theorem ty138 : tyOf prog 138 = some (TypeDesc.int IntKind.u32, 1, 4, some (Value.int IntKind.u32 0)) := by kernel_rfl
theorem fn15 : prog.funcs[15]? = some f15 := by kernel_rfl
theorem fn18 : prog.funcs[18]? = some f18 := by kernel_rfl
theorem fn22 : prog.funcs[22]? = some f22 := by kernel_rfl
theorem fn23 : prog.funcs[23]? = some f23 := by kernel_rfl
theorem fn24 : prog.funcs[24]? = some f24 := by kernel_rfl
theorem fn25 : prog.funcs[25]? = some f25 := by kernel_rfl
theorem fn26 : prog.funcs[26]? = some f26 := by kernel_rfl
theorem fn28 : prog.funcs[28]? = some f28 := by kernel_rfl
theorem fn29 : prog.funcs[29]? = some f29 := by kernel_rfl
theorem fn30 : prog.funcs[30]? = some f30 := by kernel_rfl
theorem fn58 : prog.funcs[58]? = some f58 := by kernel_rfl
theorem fn84 : prog.funcs[84]? = some f84 := by kernel_rfl
theorem fn85 : prog.funcs[85]? = some f85 := by kernel_rfl
theorem fn86 : prog.funcs[86]? = some f86 := by kernel_rfl
theorem fn87 : prog.funcs[87]? = some f87 := by kernel_rfl
theorem fn92 : prog.funcs[92]? = some f92 := by kernel_rfl
theorem fn93 : prog.funcs[93]? = some f93 := by kernel_rfl
theorem fn94 : prog.funcs[94]? = some f94 := by kernel_rfl
theorem fn95 : prog.funcs[95]? = some f95 := by kernel_rfl
theorem fn97 : prog.funcs[97]? = some f97 := by kernel_rfl
theorem fn98 : prog.funcs[98]? = some f98 := by kernel_rfl
theorem fn119 : prog.funcs[119]? = some f119 := by kernel_rfl
theorem fn121 : prog.funcs[121]? = some f121 := by kernel_rfl
theorem fn122 : prog.funcs[122]? = some f122 := by kernel_rfl
theorem fn130 : prog.funcs[130]? = some f130 := by kernel_rfl
theorem fn131 : prog.funcs[131]? = some f131 := by kernel_rfl
theorem fn132 : prog.funcs[132]? = some f132 := by kernel_rfl
theorem fn133 : prog.funcs[133]? = some f133 := by kernel_rfl
theorem fn134 : prog.funcs[134]? = some f134 := by kernel_rfl
theorem tx22 : Txt prog 22 := ⟨f22, by kernel_rfl, by decide, rfl⟩
theorem tx25 : Txt prog 25 := ⟨f25, by kernel_rfl, by decide, rfl⟩
theorem tx26 : Txt prog 26 := ⟨f26, by kernel_rfl, by decide, rfl⟩
theorem tx82 : Txt prog 82 := ⟨f82, by kernel_rfl, by decide, rfl⟩
theorem tx83 : Txt prog 83 := ⟨f83, by kernel_rfl, by decide, rfl⟩
theorem tx84 : Txt prog 84 := ⟨f84, by kernel_rfl, by decide, rfl⟩
theorem tx85 : Txt prog 85 := ⟨f85, by kernel_rfl, by decide, rfl⟩
theorem tx86 : Txt prog 86 := ⟨f86, by kernel_rfl, by decide, rfl⟩
theorem tx87 : Txt prog 87 := ⟨f87, by kernel_rfl, by decide, rfl⟩
theorem tx91 : Txt prog 91 := ⟨f91, by kernel_rfl, by decide, rfl⟩
theorem tx92 : Txt prog 92 := ⟨f92, by kernel_rfl, by decide, rfl⟩
theorem tx93 : Txt prog 93 := ⟨f93, by kernel_rfl, by decide, rfl⟩
theorem tx94 : Txt prog 94 := ⟨f94, by kernel_rfl, by decide, rfl⟩
theorem tx95 : Txt prog 95 := ⟨f95, by kernel_rfl, by decide, rfl⟩
theorem tx97 : Txt prog 97 := ⟨f97, by kernel_rfl, by decide, rfl⟩
theorem tx98 : Txt prog 98 := ⟨f98, by kernel_rfl, by decide, rfl⟩
theorem tx118 : Txt prog 118 := ⟨f118, by kernel_rfl, by decide, rfl⟩
theorem tx119 : Txt prog 119 := ⟨f119, by kernel_rfl, by decide, rfl⟩
theorem tx120 : Txt prog 120 := ⟨f120, by kernel_rfl, by decide, rfl⟩
theorem tx121 : Txt prog 121 := ⟨f121, by kernel_rfl, by decide, rfl⟩
theorem tx122 : Txt prog 122 := ⟨f122, by kernel_rfl, by decide, rfl⟩
theorem tx130 : Txt prog 130 := ⟨f130, by kernel_rfl, by decide, rfl⟩
theorem tx131 : Txt prog 131 := ⟨f131, by kernel_rfl, by decide, rfl⟩
theorem tx132 : Txt prog 132 := ⟨f132, by kernel_rfl, by decide, rfl⟩
theorem tx133 : Txt prog 133 := ⟨f133, by kernel_rfl, by decide, rfl⟩
theorem tx134 : Txt prog 134 := ⟨f134, by kernel_rfl, by decide, rfl⟩
theorem tx145 : Txt prog 145 := ⟨f145, by kernel_rfl, by decide, rfl⟩
theorem fe126_0 : (Array.mk [Field.mk "neg" 4 0 false "" "voussoir/exact" 0, Field.mk "n" 24 1 false "" "voussoir/exact" 8] : Array Field)[0]? = some (Field.mk "neg" 4 0 false "" "voussoir/exact" 0) := rfl
theorem fe126_1 : (Array.mk [Field.mk "neg" 4 0 false "" "voussoir/exact" 0, Field.mk "n" 24 1 false "" "voussoir/exact" 8] : Array Field)[1]? = some (Field.mk "n" 24 1 false "" "voussoir/exact" 8) := rfl
theorem fe26_0 : (Array.mk [Field.mk "neg" 4 0 false "" "voussoir/exact" 0, Field.mk "num" 24 1 false "" "voussoir/exact" 8, Field.mk "den" 24 2 false "" "voussoir/exact" 32] : Array Field)[0]? = some (Field.mk "neg" 4 0 false "" "voussoir/exact" 0) := rfl
theorem fe26_1 : (Array.mk [Field.mk "neg" 4 0 false "" "voussoir/exact" 0, Field.mk "num" 24 1 false "" "voussoir/exact" 8, Field.mk "den" 24 2 false "" "voussoir/exact" 32] : Array Field)[1]? = some (Field.mk "num" 24 1 false "" "voussoir/exact" 8) := rfl
theorem fe26_2 : (Array.mk [Field.mk "neg" 4 0 false "" "voussoir/exact" 0, Field.mk "num" 24 1 false "" "voussoir/exact" 8, Field.mk "den" 24 2 false "" "voussoir/exact" 32] : Array Field)[2]? = some (Field.mk "den" 24 2 false "" "voussoir/exact" 32) := rfl
theorem pl126 : ((Array.mk [Field.mk "neg" 4 0 false "" "voussoir/exact" 0, Field.mk "n" 24 1 false "" "voussoir/exact" 8] : Array Field).mapM (m := Option) fun f => (prog.info? f.type).map fun i => (f.offset, i.size)) = some [(0, 1), (1, 1)].toArray := by kernel_rfl
theorem pl26 : ((Array.mk [Field.mk "neg" 4 0 false "" "voussoir/exact" 0, Field.mk "num" 24 1 false "" "voussoir/exact" 8, Field.mk "den" 24 2 false "" "voussoir/exact" 32] : Array Field).mapM (m := Option) fun f => (prog.info? f.type).map fun i => (f.offset, i.size)) = some [(0, 1), (1, 1), (2, 1)].toArray := by kernel_rfl
end Vou
end
