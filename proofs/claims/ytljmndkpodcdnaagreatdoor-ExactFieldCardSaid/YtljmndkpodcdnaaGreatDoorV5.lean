/- A part of the proof: the range over the backward iterator; rational numbers as the package keeps them. It holds without conditions. -/
import Derived.Test.YtljmndkpodcdnaaGreatDoorV4
import Derived.TacticsInMore
import Derived.RegionIn
import Derived.LoopNIn
import Derived.LoopIn
import Derived.WalkKit
import Derived.Test.YtljmndkpodcdnaaGreatDoorProg
import Derived.KernelRfl
import Derived.Test.YtljmndkpodcdnaaGreatDoorV1

section
set_option linter.unusedVariables false
set_option linter.unusedSimpArgs false
/- The closure of slices.Backward keeps its contract. -/
namespace Vou
open Go Go.RowKit Go.Proofs.Tryz
theorem fnA145 : prog.funcs[145]? = some f145 := by kernel_rfl
theorem rev_take {n i : Nat} (h : i < n) : (List.range n).reverse.take (n - i) = (List.range n).reverse.take (n - (i + 1)) ++ [i] := by
  rw [show n - i = (n - (i + 1)) + 1 by omega, List.take_add_one]
  congr 1
  rw [List.getElem?_reverse (by simp; omega), List.length_range, show n - 1 - (n - (i + 1)) = i by omega, List.getElem?_range h]
  rfl
def muI (v : Value) : Nat := match v with | .int _ i => (i + 1).toNat | _ => 0
set_option maxRecDepth 100000 in
set_option maxHeartbeats 1000000 in
theorem back_seq (l g : Nat) (A : Option Addr) (c : Nat) (xs : List Nat) (W : World) (J Jx : List Nat → World → Prop)
    (hn : xs.length ≤ 9223372036854775807) (hA : xs.length = 0 ∨ ∃ ge off, A = some ⟨ge, off, none⟩ ∧ ∀ pre W, J pre W → ∀ i, i < xs.length → W.cell? ⟨ge, off + i, none⟩ = some (.int .u32 (xs.getD i 0 : Nat)))
    (hJc : ∀ pre W, J pre W → W.cell? ⟨g, 0, none⟩ = some (.slice A xs.length c))
    (hY : ∀ pre x W1, J pre W1 → pre.length < xs.length → x < xs.length → YieldAt Fence.wide 0 prog l #[.int .i64 (x : Nat), .int .u32 (xs.getD x 0 : Nat)] W1 fun e W' =>
      (e = .returned (.bool true) ∧ J (pre ++ [x]) W') ∨ (e = .returned (.bool false) ∧ Jx (pre ++ [x]) W'))
    (h0 : J [] W) :
    CallsIn Fence.wide 1 prog 145 #[.func (.yield l) #[] #[], .pointer (some ⟨g, 0, none⟩)] W fun e W' => (∃ v, e = .returned v) ∧
      (J ((List.range xs.length).reverse) W' ∨ ∃ k, k < xs.length ∧ Jx ((List.range xs.length).reverse.take (k + 1)) W') := by
  refine callsIn_of_wp fnA145 rfl trivial ?_ rfl
  have hu := hJc _ _ h0
  simp only [show f145.ntmps = 19 from rfl, List.size_toArray, List.length_cons, List.length_nil, Nat.reduceAdd, Nat.reduceSub, Array.replicate_succ, Array.replicate_zero, List.push_toArray, List.append_toArray, List.nil_append, List.cons_append]
  gi_wp2

  gi_loopw [3] (fun (v : Value) wr => ∃ j : Nat, j ≤ xs.length ∧ v = .int .i64 ((j : Int) - 1) ∧ J (((List.range xs.length).reverse).take (xs.length - j)) wr) (fun (v : Value) (_ : World) => muI v)
  case atStart => exact ⟨xs.length, Nat.le_refl _, by simp, by simpa using h0⟩
  case round =>
    obtain ⟨j, hj, rfl, hJ⟩ := hrel
    have hu := hJc _ _ hJ
    by_cases hj0 : j = 0
    · subst hj0
      gi_wp2
      refine bodyPost_end (results_none rfl _ _ _) rfl ?_
      exact ⟨⟨_, rfl⟩, .inl (by rwa [Nat.sub_zero, List.take_of_length_le (by simp)] at hJ)⟩
    obtain ⟨i, rfl⟩ : ∃ i, j = i + 1 := ⟨j - 1, by omega⟩
    rcases hA with hA | ⟨ge, off, rfl, hel⟩
    · omega
    have hci := hel _ _ hJ i (by omega)
    rw [show ((i + 1 : Nat) : Int) - 1 = (i : Nat) by omega]
    obtain ⟨fn, tmps, assign, body, hy, hR⟩ := hY _ i wr hJ (by simp; omega) (by omega)
    obtain ⟨x, hx⟩ : ∃ x, xs.getD i 0 = x := ⟨_, rfl⟩
    rw [hx] at hci hy
    clear hel
    rw [← rev_take (by omega)] at hR
    gi_wp2
    · refine hR.mono ?_
      rintro e W3 (⟨rfl, hJ3⟩ | ⟨rfl, hJx3⟩)
      · gi_wp2
        go_roundw
        case rel => exact ⟨i, by omega, rfl, hJ3⟩
        case measure =>
          show muI (.int .i64 ((i : Int) - 1)) < muI (.int .i64 (i : Int))
          simp only [muI]
          omega
      · gi_wp2
        refine bodyPost_ret (results_none rfl _ _ _) rfl ?_
        exact ⟨⟨_, rfl⟩, .inr ⟨xs.length - (i + 1), by omega, by rw [show xs.length - (i + 1) + 1 = xs.length - i by omega]; exact hJx3⟩⟩
end Vou
end

section
set_option linter.unusedVariables false
set_option linter.unusedSimpArgs false
/- The contract of the closure, as the rule of the range wants it. -/
namespace Vou
open Go Go.RowKit Go.Proofs.Tryz

theorem cellsAt_of_cell {W : World} {g o : Nat} {v : Value} (h : W.cell? ⟨g, o, none⟩ = some v) : CellsAt W g := by
  unfold World.cell? at h
  cases ho : W.heap[g]? with
  | none => simp [ho] at h
  | some x => cases x <;> simp_all [CellsAt]

theorem cell_same {W W' : World} {g o : Nat} {v : Value} (h : W.cell? ⟨g, o, none⟩ = some v) (e : W'.heap[g]? = W.heap[g]?) : W'.cell? ⟨g, o, none⟩ = some v := by
  rw [← h]; simp [World.cell?, e]

theorem backSeq : BackSeq prog 145 := by
  intro xs gb A c W hcell hmax hsl l J Jx W1 hB hJa hJxa hY h0
  have hgb : CellsAt W gb := cellsAt_of_cell hcell
  have hW1 : ∀ g, CellsAt W g → W1.heap[g]? = W.heap[g]? := fun g hc => hB.block g hc.lt
  have key := back_seq l gb A c xs W1 (fun pre W' => ∃ p : List { i : Nat // i < xs.length }, p.map (·.1) = pre ∧ J p W' ∧ ∀ g, gsB gb A g → CellsAt W g → W'.heap[g]? = W.heap[g]?)
    (fun pre W' => ∃ p : List { i : Nat // i < xs.length }, p.map (·.1) = pre ∧ Jx p W') hmax
    (hsl.imp id fun ⟨ge, off, h1, h2⟩ => ⟨ge, off, h1, fun pre W' ⟨_, _, _, hk⟩ i hi => cell_same (h2 i hi) (hk ge (.inr ⟨off, h1⟩) (cellsAt_of_cell (h2 i hi)))⟩)
    (fun pre W' ⟨_, _, _, hk⟩ => cell_same hcell (hk gb (.inl rfl) hgb)) (fun pre x W2 ⟨p, hp, hJ, hk⟩ hlen hx => by
      obtain ⟨fn, tmps, assign, body, hy, hR⟩ := hY p ⟨x, hx⟩ W2 hJ (by rw [← hp] at hlen; simpa using hlen)
      refine ⟨fn, tmps, assign, body, hy, hR.mono fun e W3 he => ?_⟩
      rcases he with ⟨h1, h2, h3⟩ | ⟨h1, h2⟩
      · refine .inl ⟨h1, p ++ [⟨x, hx⟩], by simp [hp], h2, fun g hg hc => ?_⟩
        rw [h3 g hg (hc.same (hk g hg hc))]
        exact hk g hg hc
      · exact .inr ⟨h1, p ++ [⟨x, hx⟩], by simp [hp], h2⟩) ⟨[], rfl, h0, fun g _ hc => hW1 g hc⟩
  refine CallsIn.mono key ?_
  rintro e W' ⟨hv, ⟨p, hp, hJ, _⟩ | ⟨k, hk, p, hp, hJ⟩⟩
  · exact ⟨hv, .inl ⟨p, hp, hJ⟩⟩
  · exact ⟨hv, .inr ⟨p, ⟨k, hk, hp⟩, hJ⟩⟩
end Vou
end

section
set_option linter.unusedVariables false
set_option linter.unusedSimpArgs false
/- The call of slices.Backward: its closure over a box. -/
namespace Vou
open Go Go.RowKit

/-- A function that lays its argument into a box and hands back a closure over it. -/
def BoxF (P : Program) (f gf : FuncId) (T : TypeId) : Prop := ∀ (w : World) (A : Option Addr) (n c : Nat), Calls P f #[.slice A n c] w fun e w' =>
  ∃ gb, e = .returned (.func (.func gf) #[] #[.pointer (some ⟨gb, 0, none⟩)]) ∧ Below w.heap.size w w' ∧ w.heap.size ≤ gb ∧ w'.heap[gb]? = some (.cells #[.slice A n c] T (0, 0))

section
variable {P : Program} {N : Nat} {o : Oper} {σ : ASt}
theorem o_callB (d : Option Nat) (hd : DS N o d) {f gf : FuncId} {T : TypeId} (hT : Txt P f) (hf : BoxF P f gf T) {x arg : Operand} {ts : Array TypeId} (ho : o.op = .call { callee := .value x, args := #[arg], argTypes := ts }) (hx : σ.look x = .fn f [])
    (b : Nat) (hfresh : σ.heap b = none) (hnx : Nat.ble σ.nx b = true) {xs : List Nat} (ha : σ.look arg = .p (slP .u32 xs)) :
    Ok P N o σ ((σ.setB b { cells := [.p (slP .u32 xs)], ty := T }).put d (.fn gf [.ptr b 0])) := ⟨fun w0 S0 Hd a w ⟨β, S, hI⟩ K Q hK => by
  have hnx := Nat.le_of_ble_eq_true hnx
  have e1 := hI.look x β (Agree.refl _ _)
  rw [hx] at e1
  obtain ⟨us, he, hnil⟩ := e1
  have hnil : us = [] := hnil
  subst hnil
  have e2 := hI.look arg β (Agree.refl _ _)
  rw [ha] at e2
  obtain ⟨A, c, hv, _⟩ := rel_slP e2
  unfold Oper.wp
  have hrun := run_call (args := [arg]) hT ho he w
  rw [hrun, List.append_nil]
  refine ((show Calls P f ([arg].map a.eval).toArray w _ from by rw [List.map_cons, List.map_nil, hv]; exact hf w A xs.length c)).mono fun e w' => ?_
  rintro ⟨gb, rfl, hB, hge, hh⟩
  have hG := hI.grow hB (fun _ h => h) (fun g hg => .inl hg)
  have hRP : RelP S w' (slP .u32 xs) (.slice A xs.length c) := by
    rw [hv] at e2
    exact RelP.mono (fun g hg => ⟨hg, hB.block g (hI.lt g hg)⟩) _ _ e2
  rw [hd.1]
  have hdd : ∀ d', d = some d' → d' < N := fun d' e => hd.ok d' (by rw [hd.1]; exact e)
  have h3 := hG.place (us := [.slice A xs.length c]) (rest := []) hfresh hnx hh (fun hS => by have := hI.lt gb hS; omega) (fun b' k szz e hl hbl => by
    have := hI.loc_lt e hl hbl
    omega) (.inl (Nat.le_trans hI.frame.size hge)) (xs := [.p (slP .u32 xs)]) (fun β' _ => ⟨_, _, rfl, hRP, rfl⟩) (fun u hu => by simp at hu; subst hu; rfl)
  refine hK _ _ ⟨_, S, Inv.putO (σ := σ.setB b { cells := [.p (slP .u32 xs)], ty := T }) h3 hdd (fun β' hb => ?_)⟩
  have : β' b = .loc gb 1 := by rw [hb b (.inr (by simp [ASt.setB, upd])), upd_same]; rfl
  refine ⟨[_], rfl, _, _, rfl, ?_, rfl⟩
  simp only [RelA, this]⟩
end
end Vou
end

section
set_option linter.unusedVariables false
set_option linter.unusedSimpArgs false
/- slices.Backward keeps its contract. -/
namespace Vou
open Go Go.RowKit Go.Proofs.Tryz
theorem fnA120 : prog.funcs[120]? = some f120 := by kernel_rfl
set_option maxRecDepth 100000 in
set_option maxHeartbeats 1000000 in
theorem box120 : BoxF prog 120 145 24 := by
  intro w A n c
  refine (callsIn_wide (n := 1)).1 (callsIn_of_wp fnA120 rfl trivial ?_ rfl)
  simp only [show f120.ntmps = 4 from rfl, List.size_toArray, List.length_cons, List.length_nil, Nat.reduceAdd, Nat.reduceSub, Array.replicate_succ, Array.replicate_zero, List.push_toArray, List.append_toArray, List.nil_append, List.cons_append]
  gi_wp2
  refine bodyPost_ret (v := .func (.func 145) #[] #[.pointer (some ⟨w.heap.size, 0, none⟩)]) (by rw [results_tmp (t := 2) rfl]; rfl) rfl ?_
  exact ⟨w.heap.size, rfl, (Below.refl _ w).alloc (Nat.le_refl _) _, Nat.le_refl _, World.alloc_heap_new w _⟩
end Vou
end

section
set_option linter.unusedVariables false
set_option linter.unusedSimpArgs false
/- Small laws that the printed walks of ranges use. -/
namespace Vou
open Go Go.RowKit

section
variable {σ σ' : ASt} {D : Nat → Prop} {ρ : Nat → Nat} {x : AV} {H H0 : List (Nat × Blk)}
theorem td_fn {f : FuncId} {b o : Nat} (h : x = .fn f [.ptr (ρ b) o]) (hb : D b) : Told σ D ρ x (.fn f [.ptr b o]) := .inl ⟨⟨hb, trivial⟩, h⟩
theorem hp_c {b : Nat} {K : Blk} {cs : List AV} {ty : TypeId} {pub : Bool} (h : σ.heap (ρ b) = some K) (hl : K.live = true) (hty : K.ty = ty) (hp : K.pub = pub) (hc : K.cells = AV.renL ρ cs) (hd : AV.inDL (fun b => (heapL H b).isSome = true) cs) : HeapOk σ H ρ (b, { cells := cs, ty := ty, pub := pub }) :=
  ⟨K, h, hl, rfl, hty, hp, hd, hc, fun n e => by cases e⟩

/-- A block that a round leaves. -/
def OutP (H0 : List (Nat × Blk)) (σ' : ASt) (p : Nat × Blk) : Prop :=
  σ'.heap p.1 = some { p.2 with pin := some p.1 } ∧ p.2.live = true ∧ p.2.pub = false ∧ p.2.pin = none ∧ p.2.cells ≠ [] ∧ AV.inDL (fun c => (heapL H0 c).isSome = true) p.2.cells
def OutL (H0 : List (Nat × Blk)) (σ' : ASt) : List (Nat × Blk) → Prop
  | [] => True
  | p :: l => OutP H0 σ' p ∧ OutL H0 σ' l
theorem oc0 : OutL H0 σ' [] := trivial
theorem occ {p : Nat × Blk} {l : List (Nat × Blk)} (h : OutP H0 σ' p) (k : OutL H0 σ' l) : OutL H0 σ' (p :: l) := ⟨h, k⟩
theorem op_c {b : Nat} {K : Blk} {cs cs' : List AV} {ty : TypeId} (h : σ'.heap b = some K) (hty : K.ty = ty) (hl : K.live = true) (hp : K.pub = false) (hn : K.pin = some b) (hc : K.cells = cs') (e : cs' = cs) (hne : cs ≠ []) (hd : AV.inDL (fun c => (heapL H0 c).isSome = true) cs) : OutP H0 σ' (b, { cells := cs, ty := ty }) := by
  subst e
  cases K
  subst hty hl hp hn hc
  exact ⟨h, rfl, rfl, rfl, hne, hd⟩
theorem op_n {b : Nat} {K : Blk} {k : IntKind} {zs zs' : List Nat} {ty : TypeId} (h : σ'.heap b = some K) (hty : K.ty = ty) (hl : K.live = true) (hp : K.pub = false) (hn : K.pin = some b) (hc : K.cells = nums k zs') (e : zs' = zs) (hne : 0 < zs.length) : OutP H0 σ' (b, { cells := nums k zs, ty := ty }) :=
  op_c h hty hl hp hn hc (by rw [e]) (fun h => by have := congrArg List.length h; rw [nums_len] at this; simp at this; simp [this] at hne) (inDL_map_p _ _ _)

theorem heapL_isSome_keys : ∀ {H H' : List (Nat × Blk)}, H.map (·.1) = H'.map (·.1) → ∀ b, (heapL H b).isSome = (heapL H' b).isSome
  | [], [], _, _ => rfl
  | [], _ :: _, h, _ => by cases h
  | _ :: _, [], h, _ => by cases h
  | (i, x) :: l, (j, y) :: l', h, b => by
    simp only [List.map_cons, List.cons.injEq] at h
    obtain ⟨rfl, h⟩ := h
    simp only [heapL]
    split
    · rfl
    · exact heapL_isSome_keys h b
theorem outB_of {H' : List (Nat × Blk)} (hk : H'.map (·.1) = H0.map (·.1)) (h : OutL H0 σ' H') : OutB H0 H' σ' := by
  refine ⟨heapL_isSome_keys hk, fun b k e => ?_⟩
  have : ∀ {l : List (Nat × Blk)}, OutL H0 σ' l → ∀ p ∈ l, OutP H0 σ' p := by
    intro l
    induction l with
    | nil => intro _ p hp; cases hp
    | cons q l ih =>
      intro h p hp
      rcases List.mem_cons.1 hp with rfl | hp
      · exact h.1
      · exact ih h.2 p hp
  exact this h _ (heapL_mem e)

/-- The blocks before the first round. -/
def HhL (H0 : List (Nat × Blk)) : List (Nat × Blk) → Prop
  | [] => True
  | p :: l => (p.2.live = true ∧ p.2.pub = false ∧ AV.inDL (fun b => (heapL H0 b).isSome = true) p.2.cells) ∧ HhL H0 l
theorem hh0 : HhL H0 [] := trivial
theorem hhc {b : Nat} {cs : List AV} {ty : TypeId} {l : List (Nat × Blk)} (h : AV.inDL (fun b => (heapL H0 b).isSome = true) cs) (k : HhL H0 l) : HhL H0 ((b, { cells := cs, ty := ty }) :: l) := ⟨⟨rfl, rfl, h⟩, k⟩
theorem hhn {b : Nat} {k : IntKind} {zs : List Nat} {ty : TypeId} {l : List (Nat × Blk)} (h : HhL H0 l) : HhL H0 ((b, { cells := nums k zs, ty := ty }) :: l) := ⟨⟨rfl, rfl, inDL_map_p _ _ _⟩, h⟩
theorem hh_of {l : List (Nat × Blk)} (h : HhL H0 l) : ∀ b k, heapL l b = some k → k.live = true ∧ k.pub = false ∧ AV.inDL (fun b => (heapL H0 b).isSome = true) k.cells := by
  intro b k e
  have : ∀ {l : List (Nat × Blk)}, HhL H0 l → ∀ p ∈ l, p.2.live = true ∧ p.2.pub = false ∧ AV.inDL (fun b => (heapL H0 b).isSome = true) p.2.cells := by
    intro l
    induction l with
    | nil => intro _ p hp; cases hp
    | cons q l ih =>
      intro h p hp
      rcases List.mem_cons.1 hp with rfl | hp
      · exact h.1
      · exact ih h.2 p hp
  exact this h _ (heapL_mem e)
def LhL (H0 : List (Nat × Blk)) (tg : Nat) : List (Nat × AV) → Prop
  | [] => True
  | p :: l => (p.1 ≠ tg ∧ AV.inD (fun b => (heapL H0 b).isSome = true) p.2) ∧ LhL H0 tg l
theorem lh0 {tg : Nat} : LhL H0 tg [] := trivial
theorem lhc {tg t : Nat} {x : AV} {l : List (Nat × AV)} (h1 : Nat.beq t tg = false) (h2 : AV.inD (fun b => (heapL H0 b).isSome = true) x) (k : LhL H0 tg l) : LhL H0 tg ((t, x) :: l) := ⟨⟨fun e => by subst e; simp at h1, h2⟩, k⟩
theorem lh_of {tg : Nat} {l : List (Nat × AV)} (h : LhL H0 tg l) : ∀ p ∈ l, p.1 ≠ tg ∧ AV.inD (fun b => (heapL H0 b).isSome = true) p.2 := by
  induction l with
  | nil => intro p hp; cases hp
  | cons q l ih =>
    intro p hp
    rcases List.mem_cons.1 hp with rfl | hp
    · exact h.1
    · exact ih h.2 p hp
end

theorem short_q {r a y : Nat} (h2 : r < y) (g1 : a < 1000000000) : (r * 1000000000 + a) / y < 4294967296 := by
  have h : r * 1000000000 + a < 1000000000 * y := by
    have : (r + 1) * 1000000000 ≤ y * 1000000000 := Nat.mul_le_mul_right _ h2
    omega
  have : (r * 1000000000 + a) / y < 1000000000 := by rw [Nat.div_lt_iff_lt_mul (by omega)]; exact h
  exact Nat.lt_trans this (by decide)

/-- What 'cmp' returns. -/
def cmpI (x y : Nat) : Int := if x < y then -1 else if y < x then 1 else 0
theorem cmpI_lt {x y : Nat} (h : x < y) : cmpI x y = -1 := by simp [cmpI, h]
theorem cmpI_gt {x y : Nat} (h : y < x) : cmpI x y = 1 := by
  have : ¬ x < y := by omega
  simp [cmpI, h, this]
theorem cmpI_eq {x y : Nat} (h : x = y) : cmpI x y = 0 := by subst h; simp [cmpI]
theorem d9_lt_len {x y : Nat} (h : (d9 x).length < (d9 y).length) : x < y := lt_of_dl (by omega) h
theorem d9_lt_top {x y i : Nat} (h1 : i < (d9 x).length) (h2 : i < (d9 y).length) (he : (d9 x).drop (i + 1) = (d9 y).drop (i + 1)) (h : (d9 x).getD i 0 < (d9 y).getD i 0) : x < y := by
  have := val_lt_top (lim_d9 x) i h1 h2 he h
  rwa [val_d9, val_d9] at this
theorem d9_inj {x y : Nat} (h : d9 x = d9 y) : x = y := dg_inj (b := 1000000000) (by omega) h
end Vou
end

section
set_option linter.unusedVariables false
set_option linter.unusedSimpArgs false
/- Operations with any integers; a part of a list of the call's own. -/
namespace Vou
open Go Go.RowKit

abbrev Z (k : IntKind) (n : Int) : AV := .p (.v (.int k n))

theorem wrap_i64' {n : Int} (h1 : -9223372036854775808 ≤ n) (h2 : n < 9223372036854775808) : IntKind.i64.wrap n = n := by
  rw [IntKind.wrap_i64]; omega

section
variable {P : Program} {N : Nat} {o : Oper} {σ : ASt}
section
theorem o_zlss {t t' : TypeId} {x y : Operand} {k : IntKind} {m n : Int} (d : Option Nat) (hd : DS N o d) (hx : σ.look x = Z k m) (hy : σ.look y = Z k n) (ho : o.op = .binOp .lss t x y t') : Ok P N o σ (σ.put d (Bo (decide (m < n)))) := o_yl d hd (yl_bin ho hx hy (by simp [aBin]))
theorem o_zleq {t t' : TypeId} {x y : Operand} {k : IntKind} {m n : Int} (d : Option Nat) (hd : DS N o d) (hx : σ.look x = Z k m) (hy : σ.look y = Z k n) (ho : o.op = .binOp .leq t x y t') : Ok P N o σ (σ.put d (Bo (decide (m ≤ n)))) := o_yl d hd (yl_bin ho hx hy (by simp [aBin]))
theorem o_zgtr {t t' : TypeId} {x y : Operand} {k : IntKind} {m n : Int} (d : Option Nat) (hd : DS N o d) (hx : σ.look x = Z k m) (hy : σ.look y = Z k n) (ho : o.op = .binOp .gtr t x y t') : Ok P N o σ (σ.put d (Bo (decide (n < m)))) := o_yl d hd (yl_bin ho hx hy (by simp [aBin]))
theorem o_zgeq {t t' : TypeId} {x y : Operand} {k : IntKind} {m n : Int} (d : Option Nat) (hd : DS N o d) (hx : σ.look x = Z k m) (hy : σ.look y = Z k n) (ho : o.op = .binOp .geq t x y t') : Ok P N o σ (σ.put d (Bo (decide (n ≤ m)))) := o_yl d hd (yl_bin ho hx hy (by simp [aBin]))
theorem o_zeql {t t' : TypeId} {x y : Operand} {k : IntKind} {m n : Int} (d : Option Nat) (hd : DS N o d) (hx : σ.look x = Z k m) (hy : σ.look y = Z k n) (ho : o.op = .binOp .eql t x y t') : Ok P N o σ (σ.put d (Bo (decide (m = n)))) := o_yl d hd (yl_bin ho hx hy (by
    simp only [aBin, if_true]
    congr 2))
theorem o_zneq {t t' : TypeId} {x y : Operand} {k : IntKind} {m n : Int} (d : Option Nat) (hd : DS N o d) (hx : σ.look x = Z k m) (hy : σ.look y = Z k n) (ho : o.op = .binOp .neq t x y t') : Ok P N o σ (σ.put d (Bo (decide (m ≠ n)))) := o_yl d hd (yl_bin ho hx hy (by
    simp only [aBin, if_true]
    congr 2
    rw [Bool.eq_iff_iff]; simp))
end
section
theorem o_zadd {t t' : TypeId} {x y : Operand} {m n : Int} (d : Option Nat) (hd : DS N o d) (hx : σ.look x = Z .i64 m) (hy : σ.look y = Z .i64 n) (ho : o.op = .binOp .add t x y t') (h1 : -9223372036854775808 ≤ m + n) (h2 : m + n < 9223372036854775808) : Ok P N o σ (σ.put d (Z .i64 (m + n))) := o_yl d hd (yl_bin ho hx hy (by simp only [aBin, if_true]; rw [wrap_i64' h1 h2]))
theorem o_zsub {t t' : TypeId} {x y : Operand} {m n : Int} (d : Option Nat) (hd : DS N o d) (hx : σ.look x = Z .i64 m) (hy : σ.look y = Z .i64 n) (ho : o.op = .binOp .sub t x y t') (h1 : -9223372036854775808 ≤ m - n) (h2 : m - n < 9223372036854775808) : Ok P N o σ (σ.put d (Z .i64 (m - n))) := o_yl d hd (yl_bin ho hx hy (by simp only [aBin, if_true]; rw [wrap_i64' h1 h2]))
theorem o_zmul {t t' : TypeId} {x y : Operand} {m n : Int} (d : Option Nat) (hd : DS N o d) (hx : σ.look x = Z .i64 m) (hy : σ.look y = Z .i64 n) (ho : o.op = .binOp .mul t x y t') (h1 : -9223372036854775808 ≤ m * n) (h2 : m * n < 9223372036854775808) : Ok P N o σ (σ.put d (Z .i64 (m * n))) := o_yl d hd (yl_bin ho hx hy (by simp only [aBin, if_true]; rw [wrap_i64' h1 h2]))
end

/-- A part of a list of the call's own. -/
theorem o_slO (d : Option Nat) (hd : DS N o d) {t : TypeId} {x : Operand} {lo hi mx : Option Operand} (ho : o.op = .slice t x lo hi mx) {full : Bool} {b off n : Nat} (hx : σ.look x = .own full 1 b off n) {B : Blk} (hb : σ.heap b = some B) (hl : B.live = true)
    {e : TypeId} {r : Nat × Nat × Option Value} (ht : tyOf P t = some (.slice e, r)) {D : TypeDesc} {r' : Nat × Option Value} (hte : tyOf P e = some (D, 1, r')) {l h m : Nat} (hc : Cut σ n lo hi mx l h m) (hlh : l < h) {off' n' : Nat} (hoff : off + l * 1 = off') (hn : h - l = n') :
    Ok P N o σ (σ.put d (.own (full && decide (l = 0) && mx.isNone) 1 b off' n')) := by
  subst hoff hn
  exact o_yl d hd (yl_slice_own (P := P) (N := N) ho hx hb hl ht hte hc hlh)
end
section
variable {σ : ASt} {D : Nat → Prop} {ρ : Nat → Nat} {x : AV}
theorem td_Z {k : IntKind} {m n : Int} (h : x = Z k m) (e : m = n) : Told σ D ρ x (Z k n) := by subst h; subst e; exact .inl ⟨trivial, rfl⟩
end

theorem conv_pe {σ : ASt} {x : AV} {pv pv' : PV} (h : x = .p pv') (e : pv' = pv) : Conv σ x pv := by subst h; subst e; exact conv_p _
theorem conv_n0 {σ : ASt} : Conv σ (.p (.v (.slice none 0 0))) (nP 0) := by
  rw [nP, d9_zero]; exact conv_nilP _

theorem cmpI_neg {x y : Nat} : cmpI x y < 0 ↔ x < y := by
  unfold cmpI; split <;> rename_i h
  · simp [h]
  · split <;> simp [h]
theorem cmpI_zero {x y : Nat} : cmpI x y = 0 ↔ x = y := by
  unfold cmpI; split <;> rename_i h
  · simp; omega
  · split <;> rename_i h2
    · simp; omega
    · simp; omega
theorem cmpI_pos {x y : Nat} : 0 < cmpI x y ↔ y < x := by
  unfold cmpI; split <;> rename_i h
  · simp; omega
  · split <;> rename_i h2 <;> simp [h2]
theorem mul64 {a b : Nat} (ha : a < 4294967296) (hb : b < 4294967296) : a * b < 18446744073709551616 := by
  have : a * b ≤ 4294967295 * 4294967295 := Nat.mul_le_mul (by omega) (by omega)
  omega
end Vou
end

section
set_option linter.unusedVariables false
set_option linter.unusedSimpArgs false
/- A round of the long division, as the code leaves it. -/
namespace Vou

theorem winC_drop {us : List Nat} {j : Nat} {r : List Nat} (h : j + r.length ≤ us.length) : (winC us j r).drop j = r ++ us.drop (j + r.length) := by
  have hl : (us.take j).length = j := by rw [List.length_take]; omega
  rw [winC, List.append_assoc, List.drop_append_of_le_length (by omega), List.drop_of_length_le (by omega), List.nil_append]
theorem winC_twice {us : List Nat} {j : Nat} {r r2 : List Nat} (h : j + r.length ≤ us.length) (h2 : r2.length = r.length) : winC (winC us j r) j r2 = winC us j r2 := by
  have hl : (us.take j).length = j := by rw [List.length_take]; omega
  have e1 : (winC us j r).take j = us.take j := by
    rw [winC, List.append_assoc, List.take_append_of_le_length (by omega), List.take_of_length_le (by omega)]
  have e2 : (winC us j r).drop (j + r2.length) = us.drop (j + r2.length) := by
    rw [h2, ← List.drop_drop, winC_drop h, List.drop_append_of_le_length (by omega), List.drop_of_length_le (by omega), List.nil_append]
  rw [winC, e1, e2]
  rfl

theorem div_roundW {X : Nat} {v : List Nat} {m i : Nat} {u q : List Nat} (h : DivInv 1000000000 X v m (i + 1) u q) (hv : Lim 1000000000 v) (hi : i < m) {G : Nat}
    (hF : G < 1000000000 ∧ val 1000000000 (u.drop i) / val 1000000000 v ≤ G ∧ G * val 1000000000 v ≤ val 1000000000 (u.drop i) + val 1000000000 v) {T : List Nat × Nat} (hT : takeR 1000000000 (u.drop i) v G (v.length + 1) = T) :
    (¬ 0 < T.2 → DivInv 1000000000 X v m i (winC u i T.1) (q.set i G)) ∧
    (0 < T.2 → 1 ≤ G ∧ DivInv 1000000000 X v m i (winC (winC u i T.1) i (addR 1000000000 ((winC u i T.1).drop i) v (v.length + 1)).1) (q.set i (G - 1))) ∧
    Lim 1000000000 (winC u i T.1) ∧ (winC u i T.1).length = u.length := by
  subst hT
  have ht := takeR_inv (b := 1000000000) (by omega) (h.limu.drop i) hv hF.1 (v.length + 1)
  obtain ⟨hA, hB⟩ := h.round (by omega) hv hi hF.1 hF.2.1 hF.2.2 ht
  have hlu := h.lenu
  have hle : i + (takeR 1000000000 (u.drop i) v G (v.length + 1)).1.length ≤ u.length := by rw [ht.len]; omega
  have hlim : Lim 1000000000 (winC u i (takeR 1000000000 (u.drop i) v G (v.length + 1)).1) := ((h.limu.take i).append ht.lim).append (h.limu.drop _)
  refine ⟨fun hc => ?_, fun hc => ?_, hlim, winC_len hle⟩
  · have := hA (by omega)
    rwa [winC, ht.len]
  · obtain ⟨h1, h2⟩ := hB hc
    refine ⟨h1, ?_⟩
    have ha := addR_inv (b := 1000000000) (by omega) (hlim.drop i) hv (v.length + 1)
    obtain ⟨R, hR⟩ : ∃ R, addR 1000000000 ((winC u i (takeR 1000000000 (u.drop i) v G (v.length + 1)).1).drop i) v (v.length + 1) = R := ⟨_, rfl⟩
    rw [hR] at ha ⊢
    rw [winC_twice hle (by rw [ha.len, ht.len]), winC, ha.len]
    rw [winC_drop hle, ht.len] at ha
    exact h2 _ _ ha
end Vou
end

section
set_option linter.unusedVariables false
set_option linter.unusedSimpArgs false
/- The rational numbers as the package keeps them. -/
namespace Vou
open Go Go.RowKit

/-- A number with a sign. -/
def sg (neg : Bool) (n : Nat) : Int := if neg then -(n : Int) else (n : Int)
theorem sg_natAbs (neg : Bool) (n : Nat) : (sg neg n).natAbs = n := by cases neg <;> simp [sg]
theorem sg_self (z : Int) : sg (decide (z < 0)) z.natAbs = z := by
  by_cases h : z < 0
  · simp [sg, h]; omega
  · simp [sg, h]; omega
theorem sg_mul (a b : Bool) (m n : Nat) : sg (a != b) (m * n) = sg a m * sg b n := by
  cases a <;> cases b <;> simp [sg, Int.neg_mul, Int.mul_neg]
theorem sg_neg (neg : Bool) (n : Nat) : (sg neg n < 0) ↔ (neg = true ∧ 0 < n) := by cases neg <;> simp [sg] <;> omega

/-- How a denominator is kept. -/
def dn (d : Nat) : Nat := if d = 1 then 0 else d
theorem dn_len {d : Nat} (hd : d ≠ 0) : (d9 (dn d)).length = 0 ↔ d = 1 := by
  rw [d9_nil]; unfold dn; split <;> omega
theorem dn_ne {d : Nat} (h : d ≠ 1) : dn d = d := by simp [dn, h]
theorem dn_one : dn 1 = 0 := rfl
theorem dn_le (d : Nat) : (d9 (dn d)).length ≤ (d9 d).length := d9_mono (by unfold dn; split <;> omega)

/-- A rational number as the package keeps it. -/
def qP (r : Rat) : PV := .agg [.v (.bool (decide (r.num < 0))), nP r.num.natAbs, nP (dn r.den)]
def sP (neg : Bool) (n : Nat) : PV := .agg [.v (.bool neg), nP n]

/-- How many limbs its parts have at most. -/
def qh (r : Rat) : Nat := max (d9 r.num.natAbs).length (d9 r.den).length
theorem qh_num (r : Rat) : (d9 r.num.natAbs).length ≤ qh r := Nat.le_max_left _ _
theorem qh_den (r : Rat) : (d9 r.den).length ≤ qh r := Nat.le_max_right _ _
theorem qh_dn (r : Rat) : (d9 (dn r.den)).length ≤ qh r := Nat.le_trans (dn_le _) (qh_den r)

theorem mk_natAbs {z : Int} {d : Nat} (hd : 0 < d) : (mkRat z d).num.natAbs = z.natAbs / Nat.gcd z.natAbs d := by
  rw [Rat.num_mkRat, if_neg (by omega), Nat.gcd_comm]
  have hg : ((Nat.gcd z.natAbs d : Nat) : Int) ∣ z := Int.ofNat_dvd_left.2 (Nat.gcd_dvd_left _ _)
  obtain ⟨k, hk⟩ := hg
  have hpos : 0 < Nat.gcd z.natAbs d := Nat.gcd_pos_of_pos_right _ hd
  generalize Nat.gcd z.natAbs d = g at *
  subst hk
  rw [Int.mul_ediv_cancel_left _ (by omega), Int.natAbs_mul, Int.natAbs_natCast, Nat.mul_div_cancel_left _ hpos]
theorem mk_den {z : Int} {d : Nat} (hd : 0 < d) : (mkRat z d).den = d / Nat.gcd z.natAbs d := by
  rw [Rat.den_mkRat, if_neg (by omega), Nat.gcd_comm]
theorem mk_neg {z : Int} {d : Nat} (hd : 0 < d) : (mkRat z d).num < 0 ↔ z < 0 := by
  rw [Rat.num_mkRat, if_neg (by omega), Nat.gcd_comm]
  have hg : ((Nat.gcd z.natAbs d : Nat) : Int) ∣ z := Int.ofNat_dvd_left.2 (Nat.gcd_dvd_left _ _)
  obtain ⟨k, hk⟩ := hg
  have hpos : 0 < Nat.gcd z.natAbs d := Nat.gcd_pos_of_pos_right _ hd
  generalize Nat.gcd z.natAbs d = g at *
  subst hk
  rw [Int.mul_ediv_cancel_left _ (by omega)]
  constructor
  · intro h; exact Int.mul_neg_of_pos_of_neg (by omega) h
  · intro h
    rcases Int.lt_or_le k 0 with h1 | h1
    · exact h1
    · have := Int.mul_nonneg (show (0 : Int) ≤ (g : Int) by omega) h1
      omega

theorem qh_mk {z : Int} {d : Nat} (hd : 0 < d) : qh (mkRat z d) ≤ max (d9 z.natAbs).length (d9 d).length := by
  unfold qh
  rw [mk_natAbs hd, mk_den hd]
  have h1 := d9_mono (Nat.div_le_self z.natAbs (Nat.gcd z.natAbs d))
  have h2 := d9_mono (Nat.div_le_self d (Nat.gcd z.natAbs d))
  omega

/-- The sum of two numbers with signs. -/
def plusF (na : Bool) (a : Nat) (nb : Bool) (b : Nat) : Bool × Nat := if na = nb then (na, a + b) else if b ≤ a then (na, a - b) else (nb, b - a)
theorem plusF_sg (na nb : Bool) (a b : Nat) : sg (plusF na a nb b).1 (plusF na a nb b).2 = sg na a + sg nb b := by
  by_cases h : na = nb
  · subst h
    simp only [plusF, if_true]
    cases na <;> simp [sg] <;> omega
  · simp only [plusF, if_neg h]
    by_cases h2 : b ≤ a
    · simp only [if_pos h2]
      cases na <;> cases nb <;> simp [sg] at h ⊢ <;> omega
    · simp only [if_neg h2]
      cases na <;> cases nb <;> simp [sg] at h ⊢ <;> omega
theorem plusF_len (na nb : Bool) (a b : Nat) : (d9 (plusF na a nb b).2).length ≤ max (d9 a).length (d9 b).length + 1 := by
  have h1 := d9_add a b
  have h2 := d9_mono (Nat.sub_le a b)
  have h3 := d9_mono (Nat.sub_le b a)
  unfold plusF
  split
  · exact h1
  · split
    · show (d9 (a - b)).length ≤ _; omega
    · show (d9 (b - a)).length ≤ _; omega

theorem q_self (r : Rat) : mkRat (sg (decide (r.num < 0)) r.num.natAbs) r.den = r := by rw [sg_self, Rat.mkRat_self]

theorem q_add (x y : Rat) : mkRat (sg (plusF (decide (x.num < 0)) (x.num.natAbs * y.den) (decide (y.num < 0)) (y.num.natAbs * x.den)).1 (plusF (decide (x.num < 0)) (x.num.natAbs * y.den) (decide (y.num < 0)) (y.num.natAbs * x.den)).2) (x.den * y.den) = x + y := by
  rw [plusF_sg]
  have e : ∀ (b : Bool) (m n : Nat), sg b (m * n) = sg b m * (n : Int) := fun b m n => by cases b <;> simp [sg, Int.neg_mul]
  rw [e, e, sg_self, sg_self]
  have := Rat.mkRat_add_mkRat x.num y.num x.den_nz y.den_nz
  rw [Rat.mkRat_self, Rat.mkRat_self] at this
  exact this.symm
theorem q_mul (x y : Rat) : mkRat (sg (decide (x.num < 0) != decide (y.num < 0)) (x.num.natAbs * y.num.natAbs)) (x.den * y.den) = x * y := by
  rw [sg_mul, sg_self, sg_self]
  have := Rat.mkRat_mul_mkRat x.num y.num x.den y.den
  rw [Rat.mkRat_self, Rat.mkRat_self] at this
  exact this.symm
theorem int_rat (r : Rat) (h : r.den = 1) : r = mkRat r.num 1 := by rw [← h, Rat.mkRat_self]
theorem mk1 (z : Int) : (mkRat z 1).num = z ∧ (mkRat z 1).den = 1 := by
  rw [Rat.num_mkRat, Rat.den_mkRat]
  simp
theorem q_add_int (x y : Rat) (hx : x.den = 1) (hy : y.den = 1) : (x + y).num = x.num + y.num ∧ (x + y).den = 1 := by
  rw [int_rat x hx, int_rat y hy, Rat.mkRat_add_mkRat _ _ (by omega) (by omega)]
  have h := mk1 (x.num * (1 : Nat) + y.num * (1 : Nat))
  rw [Nat.mul_one, h.1, h.2, (mk1 _).1, (mk1 _).1]
  simp
theorem q_mul_int (x y : Rat) (hx : x.den = 1) (hy : y.den = 1) : (x * y).num = x.num * y.num ∧ (x * y).den = 1 := by
  rw [int_rat x hx, int_rat y hy, Rat.mkRat_mul_mkRat]
  have h := mk1 (x.num * y.num)
  rw [Nat.mul_one, h.1, h.2, (mk1 _).1, (mk1 _).1]
  exact ⟨rfl, rfl⟩
theorem q_div (x y : Rat) (hy : y ≠ 0) : mkRat (sg (decide (x.num < 0) != decide (y.num < 0)) (x.num.natAbs * y.den)) (x.den * y.num.natAbs) = x / y := by
  have hyn : y.num ≠ 0 := fun h => hy (Rat.num_eq_zero.1 h)
  have e : x / y = Rat.divInt (x.num * y.den) (x.den * y.num) := by
    rw [Rat.div_def, Rat.inv_def]
    have : x = Rat.divInt x.num x.den := by rw [Rat.divInt_ofNat, Rat.mkRat_self]
    conv => lhs; rw [this]
    rw [Rat.divInt_mul_divInt]
  rw [e, sg_mul, sg_self, ← Rat.divInt_ofNat]
  by_cases h : y.num < 0
  · have hs : sg (decide (y.num < 0)) y.den = -(y.den : Int) := by simp [sg, h]
    obtain ⟨k, hk⟩ : ∃ k : Nat, y.num = -(k : Int) := ⟨y.num.natAbs, by omega⟩
    rw [hs, hk, Int.natAbs_neg, Int.natAbs_natCast, Int.mul_neg, Int.mul_neg, Rat.divInt_neg', Int.natCast_mul]
  · have hs : sg (decide (y.num < 0)) y.den = (y.den : Int) := by simp [sg, h]
    obtain ⟨k, hk⟩ : ∃ k : Nat, y.num = (k : Int) := ⟨y.num.natAbs, by omega⟩
    rw [hs, hk, Int.natAbs_natCast, Int.natCast_mul]
theorem q_num0 (r : Rat) : r.num.natAbs = 0 ↔ r = 0 := by
  rw [Int.natAbs_eq_zero, Rat.num_eq_zero]

theorem qh_add (x y : Rat) : qh (x + y) ≤ qh x + qh y + 1 := by
  have hp := Nat.mul_pos (Nat.pos_of_ne_zero x.den_nz) (Nat.pos_of_ne_zero y.den_nz)
  rw [← q_add]
  refine Nat.le_trans (qh_mk hp) ?_
  rw [sg_natAbs]
  have h1 := plusF_len (decide (x.num < 0)) (decide (y.num < 0)) (x.num.natAbs * y.den) (y.num.natAbs * x.den)
  have h2 := d9_mul x.num.natAbs y.den
  have h3 := d9_mul y.num.natAbs x.den
  have h4 := d9_mul x.den y.den
  have := qh_num x; have := qh_num y; have := qh_den x; have := qh_den y
  omega
theorem qh_mul (x y : Rat) : qh (x * y) ≤ qh x + qh y := by
  have hp := Nat.mul_pos (Nat.pos_of_ne_zero x.den_nz) (Nat.pos_of_ne_zero y.den_nz)
  rw [← q_mul]
  refine Nat.le_trans (qh_mk hp) ?_
  rw [sg_natAbs]
  have h2 := d9_mul x.num.natAbs y.num.natAbs
  have h4 := d9_mul x.den y.den
  have := qh_num x; have := qh_num y; have := qh_den x; have := qh_den y
  omega
theorem qh_neg (x : Rat) : qh (-x) = qh x := by simp [qh]
end Vou
end
