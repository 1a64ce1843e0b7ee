/- A part of the proof: the abstract machine: the rounds of a range over a function. It holds without conditions. -/
import Derived.Test.YtljmndkpodcdnaaGreatDoorV3
import Derived.OrdersIn
import Derived.TacticsIn
import Derived.RangeFuncMany
import Derived.Test.YtljmndkpodcdnaaGreatDoorV1
import Derived.RangeFuncFrom

section
set_option linter.unusedVariables false
set_option linter.unusedSimpArgs false
/- The body of a round of a range over a function. -/
namespace Vou
open Go Go.RowKit

def notDefer (o : Oper) : Bool := match o.op with | .defer _ => false | _ => true

section
variable {P : Program} {l n : Nat}

/-- In a round's frame an operation goes as it goes elsewhere. -/
theorem opIn_of {o : Oper} (hnd : notDefer o = true) {a : Act} {w : World} {K : Act → World → Prop} {Q : Exit → Act → World → Prop} (h : o.wp P a w K Q) : o.wpIn (Fence.wide.inRound l) n P a w K Q := by
  refine ⟨fun _ _ => trivial, ?_⟩
  rw [Oper.semAt_eq _ _ _ (fun c e => by simp [notDefer, e] at hnd)]
  unfold Oper.wp at h
  generalize (execOp a.eval o).run P w = r at *
  cases r with
  | ok x w' =>
    cases x <;> simp only [Oper.upon, Oper.uponIn] at h ⊢ <;> try exact h
    case enter f args => exact ⟨(fun hd => by cases hd), (callsIn_wide (n := n - 1)).2 h⟩
    case row row args =>
      refine ⟨(fun hd => by cases hd), fun c cs _ => ?_⟩
      obtain ⟨v, w'', hr, hs⟩ := h c cs
      exact ⟨v, w'', hr, stepsIn_wide.2 hs⟩
  | halt x w' => cases x <;> simp only [Oper.upon, Oper.uponIn] at h ⊢ <;> exact h

theorem listIn_of {ops : Array Oper} {Q : Exit → Act → World → Prop} (hQ : ¬ LetsOut Q) : ∀ (rest : List Oper), (rest.all notDefer = true) → ∀ a w, wpList P ops Q rest a w → wpListIn (Fence.wide.inRound l) n P ops Q rest a w
  | [], _, _, _, h => h
  | o :: rest, hd, a, w, h => by
    simp only [List.all_cons, Bool.and_eq_true] at hd
    simp only [wpList] at h
    simp only [wpListIn]
    split
    · rename_i hw
      rw [if_pos hw] at h
      rcases h with h | ⟨_, h⟩
      · exact Oper.wpIn_mono (fun a w h => listIn_of hQ rest hd.2 a w h) (opIn_of hd.1 h)
      · exact absurd h hQ
    · rename_i hw
      rw [if_neg hw] at h
      exact ⟨fun _ _ => trivial, listIn_of hQ rest hd.2 _ _ h⟩

theorem anyIn_of {ops : Array Oper} (hd : ops.toList.all notDefer = true) {Q : Exit → Act → World → Prop} (hQ : ¬ LetsOut Q) : ∀ (fuel : Nat) (listed : Array Bool) (a : Act) (w : World), wpAny P .any ops Q fuel listed a w → wpAnyIn (Fence.wide.inRound l) n P .any ops Q fuel listed a w
  | 0, _, _, _, h => h
  | fuel + 1, listed, a, w, h => by
    refine ⟨h.1, fun i hi => ?_⟩
    have := h.2 i hi
    unfold wpOp at this
    unfold wpOpIn
    split
    · rename_i e; simp only [e] at this; exact anyIn_of hd hQ fuel _ _ _ this
    · rename_i o e
      simp only [e] at this
      have hno : notDefer o = true := List.all_eq_true.1 hd o (by
        obtain ⟨hlt, he⟩ := Array.getElem?_eq_some_iff.1 e
        rw [← he]; simp)
      split
      · rename_i hw
        rw [if_pos hw] at this
        rcases this with this | ⟨_, this⟩
        · exact Oper.wpIn_mono (fun a w h => anyIn_of hd hQ fuel _ a w h) (opIn_of hno this)
        · exact absurd this hQ
      · rename_i hw
        rw [if_neg hw] at this
        exact ⟨fun _ _ => trivial, anyIn_of hd hQ fuel _ _ _ this⟩
end

/-- A code in a round's frame. -/
structure Ti (P : Program) (N l : Nat) (c : Code) (σ : ASt) (Q : Exit → ASt → Prop) : Prop where
  get : ∀ w0 S0 Hd a w, RelSt N w0 S0 Hd σ a w → c.wpIn (Fence.wide.inRound l) 0 P (fun e a' w' => ∃ σ', Q e σ' ∧ RelSt N w0 S0 Hd σ' a' w') a w

section
variable {P : Program} {N l : Nat} {σ σ' : ASt} {Q : Exit → ASt → Prop}

theorem Ti.gh {c : Code} (h : Ti P N l c σ' Q) (k : Gh N σ σ') : Ti P N l c σ Q := ⟨fun w0 S0 Hd a w r => h.get w0 S0 Hd a w (k w0 S0 Hd a w r)⟩
theorem i_reg {id : Nat} {os : List Oper} (hd : os.all notDefer = true) (h : Tl P N os.toArray os σ (fun σ' => Q .normal σ')) : Ti P N l (.region id os.toArray false) σ Q := ⟨fun w0 S0 Hd a w r => by
  refine wpIn_mono (wpIn_region_lit (listIn_of (fun hQ => ?_) os hd a w (h.get w0 S0 Hd a w r))) ?_
  · obtain ⟨_, _, _, ⟨h1, _⟩, _⟩ := hQ; cases h1
  · rintro e a' w' ⟨σ', ⟨rfl, hq⟩, r'⟩
    exact ⟨σ', hq, r'⟩⟩
theorem i_drawn {id : Nat} {os : List Oper} (hd : os.all notDefer = true) (hm : P.follows .mixedOrders = true) (h : Drs P N os.toArray 0 σ os (fun es F => okAll os.toArray es = true ∧ Q .normal F)) : Ti P N l (.region id os.toArray true) σ Q := ⟨fun w0 S0 Hd a w ⟨β, S, hI⟩ => by
  obtain ⟨es, F, h, hchk, hq⟩ := h.get
  have key := any_ok (P := P) (N := N) (ops := os.toArray) (es := es) (σ := σ) (w0 := w0) (S0 := S0) (Hd := Hd) (Q := fun e a' w' => e = .normal ∧ RelSt N w0 S0 Hd F a' w') hchk (fun i e he s hs => by have := h.get i e he s hs; rwa [Nat.zero_add] at this)
    (fun a w r => ⟨rfl, by rw [h.fin] at r; exact r⟩) os.toArray.size (Array.replicate os.toArray.size false) a { w with drawn := w.drawn + 1 } (by simp)
    (fun j o ho hj => by
      simp [Array.getD_eq_getD_getElem?, Array.getElem?_replicate] at hj
      split at hj <;> simp at hj) (Nat.le_trans (List.length_filter_le _ _) (by simp)) (by
      rw [doneS_none]
      · exact ⟨β, S, hI.drawn rfl rfl rfl rfl⟩
      · intro j _
        simp [Array.getD_eq_getD_getElem?, Array.getElem?_replicate]
        split <;> rfl)
  refine wpIn_mono (wpIn_region_any hm (anyIn_of (by simpa using hd) (fun hQ => ?_) _ _ _ _ key)) ?_
  · obtain ⟨_, _, h1, _⟩ := hQ; cases h1
  · rintro e a' w' ⟨rfl, r'⟩
    exact ⟨F, hq, r'⟩⟩
theorem i_skip (h : Q .normal σ) : Ti P N l .skip σ Q := ⟨fun _ _ _ _ _ r => wpIn_skip ⟨σ, h, r⟩⟩
theorem i_ret (h : Q .ret σ) : Ti P N l .ret σ Q := ⟨fun _ _ _ _ _ r => wpIn_ret ⟨σ, h, r⟩⟩
theorem i_exit {id : Nat} (h : Q (.exit id) σ) : Ti P N l (.exit id) σ Q := ⟨fun _ _ _ _ _ r => wpIn_exit ⟨σ, h, r⟩⟩
theorem i_seq {x y : Code} (h : Ti P N l x σ (thenQ (fun σ' => Ti P N l y σ' Q) Q)) : Ti P N l (.seq x y) σ Q := ⟨fun w0 S0 Hd a w r => by
  refine wpIn_seq (wpIn_mono (h.get w0 S0 Hd a w r) ?_)
  rintro e a' w' ⟨σ', q, r'⟩
  cases e with
  | normal => exact Ti.get q w0 S0 Hd a' w' r'
  | _ => exact ⟨σ', q, r'⟩⟩
theorem i_cond {c : Operand} {x y : Code} {t : Bool} (hc : σ.look c = Bo t) (h1 : t = true → Ti P N l x σ Q) (h2 : t = false → Ti P N l y σ Q) : Ti P N l (.cond c x y) σ Q := ⟨fun w0 S0 Hd a w r => by
  obtain ⟨β, S, hI⟩ := r
  have e := hI.look c β (Agree.refl _ _)
  rw [hc] at e
  have e : a.eval c = .bool t := e
  exact wpIn_cond_split e (fun ht => (h1 ht).get w0 S0 Hd a w ⟨β, S, hI⟩) (fun ht => (h2 ht).get w0 S0 Hd a w ⟨β, S, hI⟩)⟩
theorem i_block {id : Nat} {c : Code} (h : Ti P N l c σ (blockQ id Q)) : Ti P N l (.block id c) σ Q := ⟨fun w0 S0 Hd a w r => by
  refine wpIn_block (wpIn_mono (h.get w0 S0 Hd a w r) ?_)
  rintro e a' w' ⟨σ', q, r'⟩
  cases e with
  | exit id' =>
    simp only [blockQ] at q
    simp only [Exit.inBlock]
    split
    · rename_i hid; rw [if_pos hid] at q; exact ⟨σ', q, r'⟩
    · rename_i hid; rw [if_neg hid] at q; exact ⟨σ', q, r'⟩
  | _ => exact ⟨σ', q, r'⟩⟩
end
end Vou
end

section
set_option linter.unusedVariables false
set_option linter.unusedSimpArgs false
/- Into a round of a range over a function and out of it. -/
namespace Vou
open Go Go.RowKit

/-- The blocks, each pinned by its own name. -/
def pinB (H : List (Nat × Blk)) : List (Nat × Blk) := H.map fun p => (p.1, { p.2 with pin := some p.1 })

theorem heapL_pinB : ∀ (H : List (Nat × Blk)) (b : Nat), heapL (pinB H) b = (heapL H b).map fun k => { k with pin := some b }
  | [], b => rfl
  | p :: H, b => by
    have ih := heapL_pinB H b
    simp only [pinB, List.map_cons, heapL] at ih ⊢
    split
    · rename_i h; subst h; rfl
    · exact ih

/-- Where the blocks of a round lie. -/
def HdR (H : List (Nat × Blk)) (β : Nat → Pl) : Nat → Nat → Nat → Prop := fun b g sz => (heapL H b).isSome = true ∧ β b = .loc g sz

/-- The state at the beginning of a round. -/
def stR (L : List (Nat × AV)) (H : List (Nat × Blk)) : ASt := { env := envL L, heap := heapL (pinB H), nx := 0 }

section
variable {N : Nat} {w0 : World} {S0 : Nat → Prop} {Hd : Nat → Nat → Nat → Prop} {a : Act} {W : World} {β : Nat → Pl} {S : Nat → Prop} {L : List (Nat × AV)} {H : List (Nat × Blk)}

theorem Inv.enter (h : Inv N w0 S0 Hd (stL L H) a W β S) {a' : Act} {L' : List (Nat × AV)} (hd : a'.defers = []) (hs : a'.tmps.size = N) (hL : ∀ t, (envL L' t = envL L t ∧ a'.tmps.getD t undef = a.tmps.getD t undef) ∨ ∃ v, envL L' t = .p (.v v) ∧ a'.tmps.getD t undef = v) :
    Inv N W S (HdR H β) (stR L' H) a' W β S := by
  have hag : ∀ β', Agree (stR L' H) β β' → Agree (stL L H) β β' := fun β' hb b hbn => hb b (by
    rcases hbn with hbn | hbn
    · exact .inl hbn
    · right
      show (heapL (pinB H) b).isSome = true
      rw [heapL_pinB, Option.isSome_map]
      exact hbn)
  refine ⟨by rw [hd]; exact Dfr.nil, hs, fun β' hb t => ?_, fun β' hb b k e hl => ?_, fun b b' k k' g sz sz' e hl e' hl' hb hb' => ?_, h.cl, fun g hg => hg, fun g hg => .inl hg, ⟨rfl, rfl, rfl, Nat.le_refl _, fun _ _ _ => rfl⟩⟩
  · rcases hL t with ⟨e1, e2⟩ | ⟨v, e1, e2⟩
    · show RelA β' S W (envL L' t) _
      rw [e1, e2]
      exact h.env β' (hag β' hb) t
    · show RelA β' S W (envL L' t) _
      rw [e1, e2]
      exact rfl
  · have e : heapL (pinB H) b = some k := e
    rw [heapL_pinB] at e
    cases hk : heapL H b with
    | none => rw [hk] at e; cases e
    | some k0 =>
      rw [hk] at e
      simp only [Option.map_some, Option.some.injEq] at e
      subst e
      have h1 := h.heap β' (hag β' hb) b k0 hk hl
      cases hpl : β b with
      | gone => rw [hpl] at h1; exact h1
      | nil => rw [hpl] at h1; exact h1
      | loc g sz =>
        rw [hpl] at h1
        obtain ⟨j1, j2, j3⟩ := h1
        exact ⟨j1, j2, .inr ⟨b, sz, by rw [hk]; rfl, hpl⟩, fun n hn => by
          simp only [Option.some.injEq] at hn
          subst hn
          exact ⟨by rw [hk]; rfl, hpl⟩⟩
  · have key : ∀ b k, heapL (pinB H) b = some k → k.live = true → ∃ k0, heapL H b = some k0 ∧ k0.live = true := fun b k e hl => by
      rw [heapL_pinB] at e
      cases hk : heapL H b with
      | none => rw [hk] at e; cases e
      | some k0 =>
        rw [hk] at e
        simp only [Option.map_some, Option.some.injEq] at e
        subst e
        exact ⟨k0, rfl, hl⟩
    obtain ⟨k0, e1, l1⟩ := key b k e hl
    obtain ⟨k1, e2, l2⟩ := key b' k' e' hl'
    exact h.inj b b' k0 k1 g sz sz' e1 l1 e2 l2 hb hb'

theorem Inv.outOf (h : Inv N w0 S0 Hd (stL L H) a W β S) (hH : ∀ b k, heapL H b = some k → k.live = true ∧ k.pub = false) {σ' : ASt} {a' : Act} {W' : World} {β' : Nat → Pl} {S' : Nat → Prop} (h' : Inv N W S (HdR H β) σ' a' W' β' S')
    {H' : List (Nat × Blk)} (hdom : ∀ b, (heapL H' b).isSome = (heapL H b).isSome)
    (hk : ∀ b k, heapL H' b = some k → σ'.heap b = some { k with pin := some b } ∧ k.live = true ∧ k.pub = false ∧ k.pin = none ∧ k.cells ≠ [] ∧ AV.inDL (fun c => (heapL H c).isSome = true) k.cells ∧ AV.renL (fun c => c) k.cells = k.cells) : Inv N w0 S0 Hd (stL L H') a W' β S' := by
  have hloc : ∀ b k, heapL H' b = some k → ∃ g sz, β' b = .loc g sz ∧ β b = .loc g sz := fun b k e => by
    obtain ⟨k1, k2, k3, k4, k5, _⟩ := hk b k e
    have hb := h'.heap β' (Agree.refl _ _) b _ k1 k2
    cases hpl : β' b with
    | gone => rw [hpl] at hb; exact hb.elim
    | nil => rw [hpl] at hb; exact absurd hb k5
    | loc g sz =>
      rw [hpl] at hb
      obtain ⟨_, _, j3⟩ := hb
      exact ⟨g, sz, rfl, (j3.2 b rfl).2⟩
  have hsame : ∀ b, (heapL H b).isSome = true → β' b = β b := fun b hb => by
    rw [← hdom] at hb
    obtain ⟨k, e⟩ := Option.isSome_iff_exists.1 hb
    obtain ⟨g, sz, e1, e2⟩ := hloc b k e
    rw [e1, e2]
  have hhome : ∀ b g sz, (heapL H b).isSome = true → β b = .loc g sz → (w0.heap.size ≤ g ∨ Hdd Hd g) ∧ ¬ S g ∧ CellsAt W g := fun b g sz hb hpl => by
    obtain ⟨k, e⟩ := Option.isSome_iff_exists.1 hb
    obtain ⟨l1, l2⟩ := hH b k e
    have hb := h.heap β (Agree.refl _ _) b k e l1
    rw [hpl] at hb
    obtain ⟨⟨us, rest, j0, _⟩, j2, j3⟩ := hb
    exact ⟨j3.1, (fun hS => by rw [j2.1 hS] at l2; cases l2), ⟨_, _, _, j0⟩⟩
  have hnot : ∀ g, S g → ¬ Hdd (HdR H β) g := fun g hS ⟨b, sz, hb, hpl⟩ => (hhome b g sz hb hpl).2.1 hS
  have hs : Stab S S' W W' := fun g hS => ⟨h'.keep g hS, h'.frame.block g (h.lt g hS) (hnot g hS)⟩
  have hag : ∀ β'', Agree (stL L H') β β'' → Agree (stL L H) β β'' := fun β'' hb b hbn => hb b (by
    rcases hbn with hbn | hbn
    · exact .inl hbn
    · right
      show (heapL H' b).isSome = true
      rw [hdom]; exact hbn)
  refine ⟨h.defers.keep fun D hB hS hD => ?_, h.size, fun β'' hb t => RelA.mono hs _ _ (h.env β'' (hag β'' hb) t), fun β'' hb b k e hl => ?_, fun b b' k k' g sz sz' e hl e' hl' hb hb' => ?_, h'.cl, fun g hg => h'.keep g (h.keep g hg), fun g hg => ?_, ?_⟩
  · have hlt := (Array.getElem?_eq_some_iff.1 hD).1
    have hnd : ¬ Hdd (HdR H β) D := fun ⟨b, sz, hb, hpl⟩ => by
      obtain ⟨_, _, cs, t, f, hc⟩ := hhome b D sz hb hpl
      rw [hD] at hc
      injection hc with hc
      injection hc
    refine ⟨fun hS' => ?_, h'.frame.block D hlt hnd⟩
    rcases h'.new D hS' with h1 | h1 | h1
    · exact hS h1
    · omega
    · exact hnd h1
  · have e : heapL H' b = some k := e
    obtain ⟨k1, k2, k3, k4, k5, k6, k7⟩ := hk b k e
    obtain ⟨g, sz, e1, e2⟩ := hloc b k e
    have hb' := h'.heap β' (Agree.refl _ _) b _ k1 k2
    rw [e1] at hb'
    rw [e2]
    obtain ⟨⟨us, rest, j1, j2, j3, j4⟩, j5, j6⟩ := hb'
    have hbs : (heapL H b).isSome = true := by rw [← hdom, e]; rfl
    refine ⟨⟨us, rest, j1, j2, j3, RelAL.ren (D := fun c => (heapL H c).isSome = true) (ρ := fun c => c) (β := β') (fun c hc => ?_) _ _ k6 (by rw [k7]; exact j4)⟩, j5, (hhome b g sz hbs e2).1, fun n hn => by rw [k4] at hn; cases hn⟩
    rw [hsame c hc]
    exact hag β'' hb c (.inr hc)
  · have key : ∀ b k, heapL H' b = some k → ∃ k0, heapL H b = some k0 ∧ k0.live = true := fun b k e => by
      have : (heapL H b).isSome = true := by rw [← hdom, e]; rfl
      obtain ⟨k0, e0⟩ := Option.isSome_iff_exists.1 this
      exact ⟨k0, e0, (hH b k0 e0).1⟩
    obtain ⟨k0, e1, l1⟩ := key b k e
    obtain ⟨k1, e2, l2⟩ := key b' k' e'
    exact h.inj b b' k0 k1 g sz sz' e1 l1 e2 l2 hb hb'
  · rcases h'.new g hg with h1 | h1 | ⟨b, sz, hb, hpl⟩
    · exact h.new g h1
    · exact .inr (.inl (Nat.le_trans h.frame.size h1))
    · exact .inr (hhome b g sz hb hpl).1
  · refine ⟨h'.frame.os.trans h.frame.os, h'.frame.tape.trans h.frame.tape, h'.frame.output.trans h.frame.output, Nat.le_trans h.frame.size h'.frame.size, fun g hg hn => ?_⟩
    rw [h'.frame.block g (Nat.lt_of_lt_of_le hg h.frame.size) (fun ⟨b, sz, hb, hpl⟩ => by
      rcases (hhome b g sz hb hpl).1 with h1 | h1
      · omega
      · exact hn h1)]
    exact h.frame.block g hg hn
end
end Vou
end

section
set_option linter.unusedVariables false
set_option linter.unusedSimpArgs false
/- Zeros are appended to a list of the call's own. -/
namespace Vou
open Go Go.RowKit

theorem zeroCells_one (v : Value) (m : Nat) : (Builtin.zeroCells #[v] m).toList = List.replicate m v := by
  apply List.ext_getElem
  · simp [Builtin.zeroCells]
  · intro i h1 h2
    simp [Builtin.zeroCells, Nat.mod_one]

section
variable {P : Program} {w : World}
theorem run_append_own_zeros (t tn ty e : TypeId) (i : TypeInfo) (z : Value) (k kn : IntKind) (ht : P.underlying t = some (.slice e)) (htn : P.underlying tn = some (.int kn)) (hi : P.info? e = some i) (hz : i.zero = some z) (hzs : z.cells.size = i.size) (hsz : 0 < i.size) (hz1 : ∀ u ∈ z.cells.toList, u.oneCell' = true)
    (v : Value) (n : Nat) (xs : List Value) (hown : w.ownsRow 0 e i.size v n xs) (m : Nat) (h63 : n + m ≤ maxLen) (hbytes : (n + m) * i.bytes ≤ 140737488355328) :
    ∃ v' w', (Builtin.append_ #[t, tn] ty #[v, .int k (m : Nat)]).run P w = .ok v' w' ∧ w'.ownsRow 0 e i.size v' (n + m) (xs ++ (Builtin.zeroCells z.cells m).toList) ∧ w.grownBy w' v.ownBlock ∧ (v'.ownBlock = v.ownBlock ∨ v'.ownBlock = some w.heap.size) := by
  have hsmall : n + m ≤ 9223372036854775807 := by simp only [maxLen] at h63; omega
  have hl : (Builtin.zeroCells z.cells m).toList.length = m * i.size := by rw [Array.length_toList, size_zeroCells, hzs]
  have hlen : (xs ++ (Builtin.zeroCells z.cells m).toList).length = (n + m) * i.size := by rw [List.length_append, hown.1, hl, Nat.add_mul]
  have hw : IntKind.i64.wrap (m : Int) = m := by rw [IntKind.wrap_i64]; omega
  have hneg : ¬ ((m : Int) < 0) := by omega
  have hmb : m * i.bytes ≤ 140737488355328 := Nat.le_trans (Nat.mul_le_mul_right _ (Nat.le_add_left m n)) hbytes
  have h48i : ¬ (281474976710656 < (m : Int) * (i.bytes : Int)) := by rw [← Int.natCast_mul]; omega
  have hone : ∀ u ∈ (Builtin.zeroCells z.cells m).toList, u.oneCell' = true := by
    intro u hu
    obtain ⟨j, hj, rfl⟩ := List.getElem_of_mem hu
    have hj' : j % z.cells.size < z.cells.size := Nat.mod_lt _ (by omega)
    have : (Builtin.zeroCells z.cells m).toList[j] = z.cells[j % z.cells.size] := by
      simp [Builtin.zeroCells, getElem!_pos z.cells (j % z.cells.size) hj']
    rw [this]
    exact hz1 _ (by simp)
  have grown : ∀ (old : Nat), old < n + m → ∀ (row : Option Nat),
      (w.drew.alloc (.cells (xs.toArray ++ Builtin.zeroCells z.cells m ++ Builtin.zeroCells z.cells (grownCap w (n + m) old e - (n + m))) e)).ownsRow 0 e i.size
        (.slice (some ⟨w.heap.size, 0, none⟩) (n + m) (grownCap w (n + m) old e)) (n + m) (xs ++ (Builtin.zeroCells z.cells m).toList) ∧
      w.grownBy (w.drew.alloc (.cells (xs.toArray ++ Builtin.zeroCells z.cells m ++ Builtin.zeroCells z.cells (grownCap w (n + m) old e - (n + m))) e)) row := by
    intro old ho row
    have hge := grownCap_ge w (n + m) old e
    have hcm : grownCap w (n + m) old e ≤ maxLen := grownCap_le_maxLen w (n + m) old e h63
    refine ⟨⟨hlen, .inr ⟨w.heap.size, _, _, rfl, Nat.zero_le _, Go.heap_alloc_new w.drew _, hge, hcm, ?_, ?_⟩⟩, ⟨rfl, rfl, rfl, by simp, fun k hk _ => Go.heap_alloc_old w.drew _ hk⟩⟩
    · simp only [Array.size_append, List.size_toArray, size_zeroCells, hzs, hown.1, ← Nat.add_mul]
      congr 1
      omega
    · simp only [Array.toList_append, List.append_assoc]
      rw [← List.append_assoc, ← hlen]
      exact List.take_left
  by_cases hm : m = 0
  · subst hm
    have hz0 : Builtin.zeroCells z.cells 0 = #[] := by simp [Builtin.zeroCells]
    refine ⟨v, w, ?_, by simpa [hz0] using hown, ⟨rfl, rfl, rfl, Nat.le_refl _, fun _ _ _ => rfl⟩, Or.inl rfl⟩
    have hw0 : IntKind.i64.wrap 0 = 0 := by rw [IntKind.wrap_i64]; omega
    rcases hown.2 with ⟨rfl, rfl⟩ | ⟨g, cap, cur, rfl, hbg, hg, hnc, hcm, hcs, htake⟩
    · simp [Builtin.append_, run_underlying ht, run_underlying htn, Go.sizeOf, typeInfo, hi, asInt, asIntOf, hw0]
    · simp [Builtin.append_, run_underlying ht, run_underlying htn, Go.sizeOf, typeInfo, hi, asInt, asIntOf, hw0, hnc, storeCells]
  rcases hown.2 with ⟨rfl, rfl⟩ | ⟨g, cap, cur, rfl, hbg, hg, hnc, hcm, hcs, htake⟩
  · have hx : xs = [] := List.eq_nil_of_length_eq_zero (by simpa using hown.1)
    subst hx
    have hr := Go.Lib.run_append_nil_zeros (P := P) w t tn ty e i z k kn ht htn hi hz m (by omega) hsz (by omega) (by omega)
    have hgr := grown 0 (by omega) (Value.ownBlock (.slice none 0 0))
    simp only [Nat.zero_add, List.nil_append, Array.empty_append] at hgr ⊢
    exact ⟨_, _, hr, hgr.1, hgr.2, Or.inr rfl⟩
  · have h0 : ¬ m * i.size = 0 := Nat.mul_ne_zero hm (by omega)
    by_cases hroom : n + m ≤ cap
    · have hfit : n * i.size + (Builtin.zeroCells z.cells m).toList.length ≤ cur.size := by rw [hl, hcs, ← Nat.add_mul]; exact Nat.mul_le_mul_right _ hroom
      have hst := run_storeCells_at P g (n * i.size) e (Builtin.zeroCells z.cells m).toList 0 cur w hg (by simpa using hfit) hone
      simp only [Nat.add_zero] at hst
      have hr : (Builtin.append_ #[t, tn] ty #[.slice (some ⟨g, 0, none⟩) n cap, .int k (m : Nat)]).run P w = .ok (.slice (some ⟨g, 0, none⟩) (n + m) cap) (w.setRow g (cur.toList.take (n * i.size) ++ (Builtin.zeroCells z.cells m).toList ++ cur.toList.drop (n * i.size + (Builtin.zeroCells z.cells m).toList.length)).toArray) := by
        simp [Builtin.append_, run_underlying ht, run_underlying htn, Go.sizeOf, typeInfo, zeroValue, hi, hz, asInt, asIntOf, hw, hneg, h48i, hroom, Addr.add_lit, hst, h0]
      refine ⟨_, _, hr, ⟨hlen, .inr ⟨g, cap, _, rfl, hbg, setRow_heap w g cur _ e _ hg, hroom, hcm, ?_, ?_⟩⟩, ⟨rfl, rfl, rfl, by simp, fun k _ hk => setRow_other w g k _ (fun e => hk (by simp [Value.ownBlock, e]))⟩, Or.inl rfl⟩
      · simp only [List.size_toArray, List.length_append, List.length_take, List.length_drop, Array.length_toList] at hfit ⊢
        omega
      · rw [htake, ← hlen]
        exact List.take_left
    · have holds : ∀ j u, xs[j]? = some u → w.cell? ((⟨g, 0, none⟩ : Addr).add j) = some u := hown.cells (g := g) rfl
      have hn : ¬ (n + m ≤ cap) := hroom
      have h63' : ¬ (9223372036854775807 < ((n : Int) + (m : Int))) := by omega
      have h48' : ¬ (281474976710656 < Builtin.nextslicecap (n + m) cap * i.bytes) := by
        have := growslice_fits (need := n + m) (old := cap) (by omega) hbytes
        omega
      have hfo := run_firstCells_some (P := P) w.drew i.size n ⟨g, 0, none⟩ n cap xs hown.1 (by simpa using holds)
      have hr : (Builtin.append_ #[t, tn] ty #[.slice (some ⟨g, 0, none⟩) n cap, .int k (m : Nat)]).run P w = .ok (.slice (some ⟨w.heap.size, 0, none⟩) (n + m) (grownCap w (n + m) cap e)) (w.drew.alloc (.cells (xs.toArray ++ Builtin.zeroCells z.cells m ++ Builtin.zeroCells z.cells (grownCap w (n + m) cap e - (n + m))) e)) := by
        simp [Builtin.append_, run_underlying ht, run_underlying htn, Go.sizeOf, typeInfo, zeroValue, hi, hz, asInt, asIntOf, hw, hneg, h48i, hn, h63', h48', Question.forced, hfo, newRow, grownCap, h0]
      have hgr := grown cap (by omega) (Value.ownBlock (.slice (some ⟨g, 0, none⟩) n cap))
      exact ⟨_, _, hr, hgr.1, hgr.2, Or.inr rfl⟩
end

section
variable {P : Program} {N : Nat} {o : Oper} {σ : ASt}
/-- An append, whose run is known. -/
theorem ok_append_g {d : Nat} (hfresh : σ.heap d = none) (hnx : σ.nx ≤ d) {e : TypeId} {sz : Nat} (hz0 : 0 < sz) {s : Operand}
    {n m : Nat} {xs ys : List AV} {ob : Option Nat} (hdest : Dest σ e sz (σ.look s) n xs ob) (hm : 0 < n + m) (hd : DstOk N o)
    (hlaw : ∀ w0 S0 Hd a w β S, Inv N w0 S0 Hd σ a w β S → ∃ news : List Value, (∀ β', Agree σ β β' → RelAL β' S w ys news) ∧ (∀ v ∈ news, v.oneCell' = true) ∧ ∀ us, w.ownsRow 0 e sz (a.eval s) n us →
      ∃ v' w', (execOp a.eval o).run P w = .ok (.value v') w' ∧ w'.ownsRow 0 e sz v' (n + m) (us ++ news) ∧ w.grownBy w' (a.eval s).ownBlock ∧ (v'.ownBlock = (a.eval s).ownBlock ∨ v'.ownBlock = some w.heap.size)) :
    OpOk P N o σ (((σ.killO ob).setB d { cells := xs ++ ys, ty := e }).put o.dst (.own true sz d 0 (n + m))) := fun w0 S0 Hd a w ⟨β, S, hI⟩ K Q hK => by
  obtain ⟨news, hnR, hn1, hlaw⟩ := hlaw _ _ _ _ _ _ _ hI
  have hse := hI.look s β (Agree.refl _ _)
  -- the slice that is appended to, as the kit tells it
  have hown : ∃ us : List Value, w.ownsRow 0 e sz (a.eval s) n us ∧ (∀ β', Agree σ β β' → RelAL β' S w xs us) ∧ (∀ v ∈ us, v.oneCell' = true) ∧
      (∀ g, (a.eval s).ownBlock = some g → ∃ b szb, ob = some b ∧ β b = .loc g szb) := by
    generalize σ.look s = X at hdest hse
    cases hdest with
    | nil =>
      have hse : a.eval s = .slice none 0 0 := hse
      exact ⟨[], by rw [hse]; exact World.ownsRow_nil w 0 e sz, fun β' _ => rfl, by simp, by rw [hse]; simp [Value.ownBlock]⟩
    | own hb hl hp hty hlen =>
      rename_i b B
      have hk0 := hI.heap β (Agree.refl _ _) b B hb hl
      simp only [RelA] at hse
      cases hpl : β b with
      | gone => rw [hpl] at hk0; exact hk0.elim
      | nil =>
        rw [hpl] at hse hk0
        obtain ⟨hse, rfl⟩ := hse
        have hk0 : B.cells = [] := hk0
        refine ⟨[], by rw [hse]; exact World.ownsRow_nil w 0 e sz, fun β' _ => by rw [hk0]; rfl, by simp, by rw [hse]; simp [Value.ownBlock]⟩
      | loc g szb =>
        rw [hpl] at hse hk0
        obtain ⟨c', hse, hnc, hcm, hfull⟩ := hse
        obtain ⟨⟨us, rest, hh, hsz, h1, hR⟩, _, _⟩ := hk0
        have hul : us.length = B.cells.length := hR.length
        refine ⟨us, ⟨by rw [hul, hlen], .inr ⟨g, c', (us ++ rest).toArray, hse, Nat.zero_le _, by rw [hh, hty], hnc, hcm, ?_, ?_⟩⟩, fun β' hb' => hI.cells_at hb hl hpl hh hul hb', h1, ?_⟩
        · rw [List.size_toArray, hsz, (hfull trivial).2]
        · rw [show n * sz = us.length by rw [hul, hlen]]
          simp
        · intro g' hg'
          rw [hse] at hg'
          simp only [Value.ownBlock, Option.some.injEq] at hg'
          subst hg'
          exact ⟨b, szb, rfl, hpl⟩
  obtain ⟨us, hrow, husR, hus1, hblk⟩ := hown
  obtain ⟨v', w', hrun, hrow', hgr, hat⟩ := hlaw us hrow
  unfold Oper.wp
  rw [hrun]
  -- the elder block is no longer spoken of
  have hk : Inv N w0 S0 Hd (σ.killO ob) a w β S := by
    cases ob with
    | none => exact hI
    | some b =>
      simp only [ASt.killO]
      split
      · exact hI
      · rename_i B hb; exact hI.kill b B
  have hcells : ∀ g, (a.eval s).ownBlock = some g → ∃ cs t f, w.heap[g]? = some (.cells cs t f) := by
    intro g hg
    obtain ⟨b, szb, hob, hbl⟩ := hblk g hg
    generalize σ.look s = X at hdest hse
    cases hdest with
    | nil => cases hob
    | own hb hl hp hty hlen =>
      rename_i b0 B
      cases hob
      have hk0 := hI.heap β (Agree.refl _ _) b B hb hl
      rw [hbl] at hk0
      obtain ⟨⟨us, rest, j1, _⟩, _⟩ := hk0
      exact ⟨_, _, _, j1⟩
  have hnoS : ∀ g, (a.eval s).ownBlock = some g → ¬ S g ∧ (∀ b k szz, (σ.killO ob).heap b = some k → k.live = true → β b ≠ .loc g szz) ∧ (w0.heap.size ≤ g ∨ Hdd Hd g) := by
    intro g hg
    obtain ⟨b, szb, hob, hbl⟩ := hblk g hg
    generalize σ.look s = X at hdest hse
    cases hdest with
    | nil => cases hob
    | own hb hl hp hty hlen =>
      rename_i b0 B
      cases hob
      have hk0 := hI.heap β (Agree.refl _ _) b B hb hl
      rw [hbl] at hk0
      obtain ⟨_, hS, hB⟩ := hk0
      refine ⟨fun hSg => (by rw [hS.1 hSg] at hp; cases hp), fun b' k' szz e' hl' hb' => ?_, hB.1⟩
      simp only [ASt.killO, hb, ASt.setB, upd] at e'
      split at e'
      · (cases e'; cases hl')
      · rename_i hne
        exact hne (hI.inj b' b k' B g szz szb e' hl' hb hl hb' hbl)
  have h2 := hk.renew hgr hnoS hcells
  have hs2 : Stab S S w w' := fun g hS => ⟨hS, hgr.block g (hI.lt g hS) (fun e => (hnoS g e.symm).1 hS)⟩
  -- the new one
  rcases hrow'.2 with ⟨_, hn0⟩ | ⟨g', cap, cur, rfl, _, hg', hnc, hcm, hcs, htake⟩
  · omega
  · have hcur : cur = ((us ++ news) ++ cur.toList.drop ((n + m) * sz)).toArray := by
      apply Array.ext'
      rw [← htake]
      simp
    rw [hcur] at hg'
    have hag : ∀ β', Agree (σ.killO ob) β β' → Agree σ β β' := fun β' hb b hbn => hb b (by
      rcases hbn with hbn | hbn
      · left
        cases ob with
        | none => exact hbn
        | some b' =>
          simp only [ASt.killO]
          split
          · exact hbn
          · exact hbn
      · right
        cases ob with
        | none => exact hbn
        | some b' =>
          simp only [ASt.killO]
          split
          · exact hbn
          · simp only [ASt.setB, upd]
            split
            · rfl
            · exact hbn)
    have hfresh' : (σ.killO ob).heap d = none := by
      cases ob with
      | none => exact hfresh
      | some b' =>
        simp only [ASt.killO]
        split
        · exact hfresh
        · rename_i B' hB'
          simp only [ASt.setB, upd]
          split
          · rename_i hdb; rw [hdb, hB'] at hfresh; cases hfresh
          · exact hfresh
    have hnx' : (σ.killO ob).nx ≤ d := by
      cases ob with
      | none => exact hnx
      | some b' =>
        simp only [ASt.killO]
        split <;> exact hnx
    have hg'2 : (¬ S g') ∧ (∀ b k szz, (σ.killO ob).heap b = some k → k.live = true → β b ≠ .loc g' szz) ∧ (w0.heap.size ≤ g' ∨ Hdd Hd g') := by
      rcases hat with hat | hat
      · exact hnoS g' (by rw [← hat]; rfl)
      · have : g' = w.heap.size := by simpa [Value.ownBlock] using hat
        subst this
        exact ⟨fun hS => by have := hI.lt _ hS; omega, fun b k szz e hl hb => by have := hk.loc_lt e hl hb; omega, .inl hI.frame.size⟩
    have hones : ∀ v ∈ us ++ news, v.oneCell' = true := fun v hv => by
      rcases List.mem_append.1 hv with hv | hv
      · exact hus1 v hv
      · exact hn1 v hv
    have h3 := h2.place hfresh' hnx' hg' hg'2.1 hg'2.2.1 hg'2.2.2 (xs := xs ++ ys) (fun β' hb => (RelAL.mono hs2 _ _ (husR β' (hag β' hb))).append (RelAL.mono hs2 _ _ (hnR β' (hag β' hb)))) hones
    refine hK _ _ ⟨_, S, Inv.putO (σ := (σ.killO ob).setB d { cells := xs ++ ys, ty := e }) h3 hd (fun β' hb => ?_)⟩
    have hbd := hb d (.inr (by simp [ASt.setB, upd]))
    rw [upd_same] at hbd
    simp only [RelA, hbd]
    refine ⟨cap, rfl, hnc, hcm, fun _ => ⟨trivial, ?_⟩⟩
    rw [← hcs]
    have := congrArg Array.size hcur
    simpa using this


/-- 'append(s, make(T, m)...)' of numbers. -/
theorem ok_append_zeros {t tn : TypeId} {s x : Operand} (ho : o.op = .call { callee := .builtin .append, args := #[s, x], argTypes := #[t, tn] }) {d : Nat} (hfresh : σ.heap d = none) (hnx : σ.nx ≤ d)
    {e : TypeId} {r : Nat × Nat × Option Value} (ht : tyOf P t = some (.slice e, r)) {k kn kx : IntKind} {by_ : Nat} (hte : tyOf P e = some (.int k, 1, by_, some (.int k 0))) {rn : Nat × Nat × Option Value} (htn : tyOf P tn = some (.int kn, rn))
    {n m : Nat} {xs : List AV} {ob : Option Nat} (hdest : Dest σ e 1 (σ.look s) n xs ob) (hx : σ.look x = I kx m) (hm : 0 < n + m) (hb1 : (n + m) * by_ ≤ 140737488355328) (hb2 : n + m ≤ 140737488355328) (hd : DstOk N o) :
    OpOk P N o σ (((σ.killO ob).setB d { cells := xs ++ nums k (List.replicate m 0), ty := e }).put o.dst (.own true 1 d 0 (n + m))) := by
  obtain ⟨hu, _⟩ := tyOf_spec ht
  obtain ⟨hun, _⟩ := tyOf_spec htn
  obtain ⟨_, i, hi, hs, hby, hzz⟩ := tyOf_spec hte
  refine ok_append_g hfresh hnx (by omega) hdest hm hd (fun w0 S0 Hd a w β S hI => ⟨List.replicate m (.int k 0), fun β' _ => ?_, fun v hv => by rw [(List.mem_replicate.1 hv).2]; rfl, fun us hrow => ?_⟩)
  · clear hdest hx hm hb1 hb2
    induction m with
    | zero => rfl
    | succ m ih => exact ⟨_, _, rfl, rfl, ih⟩
  · have hxe := hI.look x β (Agree.refl _ _)
    rw [hx] at hxe
    have hxe : a.eval x = .int kx (m : Nat) := hxe
    obtain ⟨v', w', hr, h1, h2, h3⟩ := run_append_own_zeros (P := P) (w := w) t tn o.type e i (.int k 0) kx kn hu hun hi hzz (by rw [hs]; rfl) (by rw [hs]; omega) (fun u hu => by simp [Value.cells] at hu; subst hu; rfl) (a.eval s) n us (by rw [hs]; exact hrow) m (by unfold maxLen; omega) (by rw [hby]; exact hb1)
    rw [hs] at h1
    have hzc : (Builtin.zeroCells (Value.int k 0).cells m).toList = List.replicate m (.int k 0) := zeroCells_one _ m
    rw [hzc] at h1
    refine ⟨v', w', ?_, h1, h2, h3⟩
    unfold execOp
    simp only [ho, resolve, invoke, builtin, Sem.run_bind, Sem.run_pure, Result.andThen_ok, List.map_toArray, List.map_cons, List.map_nil, hxe, hr]

theorem o_apZ (d : Option Nat) (hd : DS N o d) {t tn : TypeId} {s x : Operand} (ho : o.op = .call { callee := .builtin .append, args := #[s, x], argTypes := #[t, tn] }) (b : Nat) (hfresh : σ.heap b = none) (hnx : Nat.ble σ.nx b = true)
    {e : TypeId} {r : Nat × Nat × Option Value} (ht : tyOf P t = some (.slice e, r)) {k kn kx : IntKind} {by_ : Nat} (hte : tyOf P e = some (.int k, 1, by_, some (.int k 0))) (hby : Nat.ble by_ 8 = true) {rn : Nat × Nat × Option Value} (htn : tyOf P tn = some (.int kn, rn))
    {bs n m : Nat} {B : Blk} {zs : List Nat} (hs : σ.look s = .own true 1 bs 0 n) (hb : σ.heap bs = some B) (hl : B.live = true) (hp : B.pub = false) (hty : B.ty = e) (hc : B.cells = nums k zs) (hlen : zs.length = n) (hx : σ.look x = I kx m) (hm : 0 < n + m) (hb2 : n + m ≤ 1099511627776) :
    Ok P N o σ (((σ.setB bs { B with live := false }).setB b { cells := nums k (zs ++ List.replicate m 0), ty := e }).put d (.own true 1 b 0 (n + m))) := by
  have hD : Dest σ e 1 (σ.look s) n B.cells (some bs) := by rw [hs]; exact .own hb hl hp hty (by rw [hc, nums_len, hlen, Nat.mul_one])
  have hby := Nat.le_of_ble_eq_true hby
  have := ok_append_zeros (P := P) (N := N) ho hfresh (Nat.le_of_ble_eq_true hnx) ht hte htn hD hx hm (by
    have : (n + m) * by_ ≤ (n + m) * 8 := Nat.mul_le_mul_left _ hby
    omega) (by omega) hd.ok
  rw [hd.1, hc] at this
  have e1 : nums k zs ++ nums k (List.replicate m 0) = nums k (zs ++ List.replicate m 0) := by simp [nums]
  rw [e1] at this
  have e2 : σ.killO (some bs) = σ.setB bs { B with live := false } := by simp only [ASt.killO, hb]
  rw [e2] at this
  exact ⟨this⟩
end
end Vou
end

section
set_option linter.unusedVariables false
set_option linter.unusedSimpArgs false
/- What the package's numbers stand for. -/
namespace Vou
open Go Go.RowKit

/-- The digits of a number, the last one first. -/
def d9 (n : Nat) : List Nat := dg 1000000000 n
/-- A number as the package keeps it. -/
def nP (n : Nat) : PV := slP .u32 (d9 n)

theorem d9_zero : d9 0 = [] := dg_zero _
theorem d9_snoc {n m : Nat} {zs : List Nat} (h : zs ++ d9 m = d9 n) (hm : 0 < m) : (zs ++ [m % 1000000000]) ++ d9 (m / 1000000000) = d9 n := by
  rw [List.append_assoc, List.singleton_append, d9, d9, ← dg_pos (by omega) hm]
  exact h
theorem d9_le {n m : Nat} {zs : List Nat} (h : zs ++ d9 m = d9 n) : zs.length ≤ (d9 n).length := by
  have := congrArg List.length h
  simp only [List.length_append] at this
  omega
theorem d9_u64 {n : Nat} (h : n < 18446744073709551616) : (d9 n).length ≤ 3 := dl_le_of_lt (by omega) (by omega)
theorem lim_d9 (n : Nat) : Lim 1000000000 (d9 n) := lim_dg (by omega) n
theorem lim9 (n i : Nat) : (d9 n).getD i 0 < 1000000000 := (lim_d9 n).getD (by omega) i
theorem val_d9 (n : Nat) : val 1000000000 (d9 n) = n := val_dg (by omega) n
theorem nat_of_d9_0 {n : Nat} (h : (d9 n).length = 0) : n = 0 := (dl_eq_zero (by omega) n).1 h
theorem nat_of_d9_1 {n : Nat} (h : (d9 n).length = 1) : n = (d9 n).getD 0 0 := by
  have := val_d9 n
  match hd : d9 n, h with
  | [a], _ => rw [hd] at this; simp [val] at this ⊢; omega
theorem nat_of_d9_2 {n : Nat} (h : (d9 n).length = 2) : n = (d9 n).getD 1 0 * 1000000000 + (d9 n).getD 0 0 := by
  have := val_d9 n
  match hd : d9 n, h with
  | [a, b], _ => rw [hd] at this; simp [val] at this ⊢; omega
theorem d9_small {n : Nat} (h : n < 1000000000) (h0 : 0 < n) : d9 n = [n] := by
  rw [d9, dg_pos (by omega) h0, Nat.mod_eq_of_lt h, Nat.div_eq_of_lt h, dg_zero]
theorem d9_one : d9 1 = [1] := d9_small (by omega) (by omega)
theorem d9_nil (n : Nat) : (d9 n).length = 0 ↔ n = 0 := dl_eq_zero (by omega) n
theorem d9_add (m n : Nat) : (d9 (m + n)).length ≤ max (d9 m).length (d9 n).length + 1 := dl_add (by omega) m n
theorem d9_mul (m n : Nat) : (d9 (m * n)).length ≤ (d9 m).length + (d9 n).length := dl_mul (by omega) m n
theorem d9_mono {m n : Nat} (h : m ≤ n) : (d9 m).length ≤ (d9 n).length := dl_mono (by omega) h

theorem getD_ge {l : List Nat} {i : Nat} (h : l.length ≤ i) : l.getD i 0 = 0 := by
  rw [List.getD_eq_getElem?_getD, List.getElem?_eq_none h]; rfl

/-- What stands in the sum's limbs behind i rounds. -/
def addC (x i : Nat) (r : List Nat) : List Nat := r ++ (d9 x ++ [0]).drop i
theorem addC_start (x : Nat) : d9 x ++ (List.replicate ((d9 x).length + 1) 0).drop (d9 x).length = addC x 0 [] := by
  simp [addC, List.drop_replicate]
theorem addC_len (x : Nat) {i : Nat} {r : List Nat} (h : r.length = i) (hi : i ≤ (d9 x).length + 1) : (addC x i r).length = (d9 x).length + 1 := by
  simp [addC, h]; omega
theorem addC_get (x : Nat) {i : Nat} {r : List Nat} (h : r.length = i) : (addC x i r).getD i 0 = (d9 x).getD i 0 := by
  subst h
  rw [addC, List.getD_eq_getElem?_getD, List.getElem?_append_right (Nat.le_refl _), Nat.sub_self, List.getElem?_drop, Nat.add_zero, List.getD_eq_getElem?_getD, List.getElem?_append]
  split
  · rfl
  · rename_i hge
    rw [List.getElem?_eq_none (l := d9 x) (by omega)]
    by_cases h0 : r.length - (d9 x).length = 0
    · rw [h0]; rfl
    · rw [List.getElem?_eq_none (by simp; omega)]
theorem addC_step (x : Nat) {i v : Nat} {r : List Nat} (h : r.length = i) (hi : i < (d9 x).length + 1) : (addC x i r).set i v = addC x (i + 1) (r ++ [v]) := by
  subst h
  rw [addC, List.set_append_right _ _ (Nat.le_refl _), Nat.sub_self, List.drop_eq_getElem_cons (by simp; omega), List.set_cons_zero, addC, List.append_assoc]
  rfl
theorem addC_end (x : Nat) {r : List Nat} : addC x ((d9 x).length + 1) r = r := by
  simp [addC]

/-- What stands in the difference's limbs behind i rounds. -/
def subC (x i : Nat) (r : List Nat) : List Nat := r ++ (d9 x).drop i
theorem subC_len (x : Nat) {i : Nat} {r : List Nat} (h : r.length = i) (hi : i ≤ (d9 x).length) : (subC x i r).length = (d9 x).length := by
  simp [subC, h]; omega
theorem subC_get (x : Nat) {i : Nat} {r : List Nat} (h : r.length = i) : (subC x i r).getD i 0 = (d9 x).getD i 0 := by
  subst h
  rw [subC, List.getD_eq_getElem?_getD, List.getElem?_append_right (Nat.le_refl _), Nat.sub_self, List.getElem?_drop, Nat.add_zero, List.getD_eq_getElem?_getD]
theorem subC_step (x : Nat) {i v : Nat} {r : List Nat} (h : r.length = i) (hi : i < (d9 x).length) : (subC x i r).set i v = subC x (i + 1) (r ++ [v]) := by
  subst h
  rw [subC, List.set_append_right _ _ (Nat.le_refl _), Nat.sub_self, List.drop_eq_getElem_cons hi, List.set_cons_zero, subC, List.append_assoc]
  rfl
theorem subC_step2 (x : Nat) {i u v : Nat} {r : List Nat} (h : r.length = i) (hi : i < (d9 x).length) : ((subC x i r).set i u).set i v = subC x (i + 1) (r ++ [v]) := by
  rw [List.set_set]; exact subC_step x h hi
theorem subC_end (x : Nat) {r : List Nat} : subC x (d9 x).length r = r := by simp [subC]

/-- What 'word' returns. -/
def wordP (n : Nat) : PV := .tup [.v (.int .u64 ((if (d9 n).length ≤ 2 then n else 0 : Nat) : Int)), .v (.bool (decide ((d9 n).length ≤ 2)))]
theorem word_le {n : Nat} (h : (d9 n).length ≤ 2) : wordP n = packP [.v (.int .u64 ((n : Nat) : Int)), .v (.bool true)] := by simp [wordP, packP, h]
theorem word_gt {n : Nat} (h : 2 < (d9 n).length) : wordP n = packP [.v (.int .u64 ((0 : Nat) : Int)), .v (.bool false)] := by
  have : ¬ (d9 n).length ≤ 2 := by omega
  simp [wordP, packP, this]
end Vou
end

section
set_option linter.unusedVariables false
set_option linter.unusedSimpArgs false
/- Windows of a list: what 'take' and 'back' leave. -/
namespace Vou
open Go Go.RowKit

def addR (b : Nat) (x y : List Nat) : Nat → List Nat × Nat
  | 0 => ([], 0)
  | i + 1 => ((addR b x y i).1 ++ [(x.getD i 0 + (addR b x y i).2 + y.getD i 0) % b], (x.getD i 0 + (addR b x y i).2 + y.getD i 0) / b)
theorem addR_inv {b : Nat} (hb : 1 < b) {x y : List Nat} (hx : Lim b x) (hy : Lim b y) : ∀ i, AddInv b x y i (addR b x y i).1 (addR b x y i).2
  | 0 => AddInv.start b x y
  | i + 1 => (addR_inv hb hx hy i).step hb hx hy

def takeR (b : Nat) (u v : List Nat) (n : Nat) : Nat → List Nat × Nat
  | 0 => ([], 0)
  | i + 1 =>
    if u.getD i 0 < ((takeR b u v n i).2 + n * v.getD i 0) % b then ((takeR b u v n i).1 ++ [u.getD i 0 + b - ((takeR b u v n i).2 + n * v.getD i 0) % b], ((takeR b u v n i).2 + n * v.getD i 0) / b + 1)
    else ((takeR b u v n i).1 ++ [u.getD i 0 - ((takeR b u v n i).2 + n * v.getD i 0) % b], ((takeR b u v n i).2 + n * v.getD i 0) / b)
theorem takeR_low {b : Nat} {u v : List Nat} {n i : Nat} (h : u.getD i 0 < ((takeR b u v n i).2 + n * v.getD i 0) % b) : takeR b u v n (i + 1) = ((takeR b u v n i).1 ++ [u.getD i 0 + b - ((takeR b u v n i).2 + n * v.getD i 0) % b], ((takeR b u v n i).2 + n * v.getD i 0) / b + 1) := by
  rw [takeR, if_pos h]
theorem takeR_high {b : Nat} {u v : List Nat} {n i : Nat} (h : ((takeR b u v n i).2 + n * v.getD i 0) % b ≤ u.getD i 0) : takeR b u v n (i + 1) = ((takeR b u v n i).1 ++ [u.getD i 0 - ((takeR b u v n i).2 + n * v.getD i 0) % b], ((takeR b u v n i).2 + n * v.getD i 0) / b) := by
  rw [takeR, if_neg (by omega)]
theorem takeR_inv {b : Nat} (hb : 1 < b) {u v : List Nat} (hu : Lim b u) (hv : Lim b v) {n : Nat} (hn : n < b) : ∀ i, TakeInv b u v n i (takeR b u v n i).1 (takeR b u v n i).2
  | 0 => TakeInv.start b u v n
  | i + 1 => by
    have h := takeR_inv hb hu hv hn i
    by_cases hlt : u.getD i 0 < ((takeR b u v n i).2 + n * v.getD i 0) % b
    · rw [takeR_low hlt]; exact h.low hb hu hv hn hlt
    · rw [takeR_high (by omega)]; exact h.high hb hu hv hn (by omega)

/-- The list, whose limbs from j on are turned into r. -/
def winC (us : List Nat) (j : Nat) (r : List Nat) : List Nat := us.take j ++ r ++ us.drop (j + r.length)
theorem winC_nil (us : List Nat) (j : Nat) : us = winC us j [] := by simp [winC]
theorem winC_len {us : List Nat} {j : Nat} {r : List Nat} (h : j + r.length ≤ us.length) : (winC us j r).length = us.length := by
  simp [winC]; omega
theorem winC_get {us : List Nat} {j i : Nat} {r : List Nat} (h : r.length = i) (hj : j + i < us.length) : (winC us j r).getD (j + i) 0 = (us.drop j).getD i 0 := by
  subst h
  rw [winC, List.getD_eq_getElem?_getD, List.getElem?_append_right (by simp; omega), List.getElem?_drop, List.getD_eq_getElem?_getD, List.getElem?_drop]
  congr 2
  simp; omega
theorem winC_step {us : List Nat} {j i v : Nat} {r : List Nat} (h : r.length = i) (hj : j + i < us.length) : (winC us j r).set (j + i) v = winC us j (r ++ [v]) := by
  subst h
  have e1 : (us.take j ++ r).length = j + r.length := by simp; omega
  rw [winC, List.set_append_right _ _ (by omega), e1, Nat.sub_self, List.drop_eq_getElem_cons (by omega), List.set_cons_zero, winC]
  simp [List.append_assoc, Nat.add_assoc]
theorem winC_step2 {us : List Nat} {j i u v : Nat} {r : List Nat} (h : r.length = i) (hj : j + i < us.length) : ((winC us j r).set (j + i) u).set (j + i) v = winC us j (r ++ [v]) := by
  rw [List.set_set]; exact winC_step h hj
end Vou
end

section
set_option linter.unusedVariables false
set_option linter.unusedSimpArgs false
/- A range over a function that gives the places and elements of a list, the last ones first: its rule. -/
namespace Vou
open Go Go.RowKit

mutual
theorem ren_id' : ∀ x : AV, x.ren (fun b => b) = x
  | .p _ => rfl
  | .own .. => rfl
  | .ptr .. => rfl
  | .agg xs => congrArg AV.agg (renL_id' xs)
  | .tup xs => congrArg AV.tup (renL_id' xs)
  | .fn f xs => congrArg (AV.fn f) (renL_id' xs)
theorem renL_id' : ∀ xs : List AV, AV.renL (fun b => b) xs = xs
  | [] => rfl
  | x :: xs => by rw [AV.renL, ren_id' x, renL_id' xs]
end

/-- These blocks lie as they lie, if they hold cells. -/
def KpB (gs : Nat → Prop) (A B : World) : Prop := ∀ g, gs g → CellsAt A g → B.heap[g]? = A.heap[g]?

theorem mark_inj {D D' : Nat} (h : mark D = mark D') : D = D' := by
  injection h with h1
  injection h1

theorem cells_isCells {W : World} {g : Nat} {o : Obj} (h : CellsAt W g) (e : W.heap[g]? = some o) : o.isCells = true := by
  obtain ⟨cs, t, f, h⟩ := h
  rw [h] at e
  injection e with e
  subst e
  rfl

section
variable {N : Nat} {w0 : World} {S0 : Nat → Prop} {Hd : Nat → Nat → Nat → Prop} {σ : ASt} {a : Act} {W : World} {β : Nat → Pl} {S : Nat → Prop} {L : List (Nat × AV)} {H : List (Nat × Blk)}

theorem grown_cells {B : Nat} {W' : World} {row : Option Nat} (hg : W.grownBy W' row) (hr : ∀ r, row = some r → B ≤ r ∧ ∃ o : Obj, W.heap[r]? = some o ∧ o.isCells = false) {g : Nat} (h : CellsAt W g) : W'.heap[g]? = W.heap[g]? := by
  refine hg.block g h.lt fun e => ?_
  obtain ⟨_, o, ho, hc⟩ := hr g e.symm
  rw [cells_isCells h ho] at hc
  cases hc

/-- A block that holds no cells and none of the marks turns. -/
theorem Inv.other (h : Inv N w0 S0 Hd σ a W β S) {B : Nat} {W' : World} {row : Option Nat} (hB : w0.heap.size ≤ B) (hmk : ∀ D, mark D ∈ a.defers → D < B) (hg : W.grownBy W' row) (hr : ∀ r, row = some r → B ≤ r ∧ ∃ o : Obj, W.heap[r]? = some o ∧ o.isCells = false) : Inv N w0 S0 Hd σ a W' β S := by
  have hs : Stab S S W W' := fun g hS => ⟨hS, grown_cells hg hr (h.cl g hS)⟩
  refine ⟨?_, h.size, fun β' hb t => RelA.mono hs _ _ (h.env β' hb t), fun β' hb b k e hl => (h.heap β' hb b k e hl).mono hs (fun g sz e' => ⟨?_, Iff.rfl⟩), h.inj, h.cl.step hs, h.keep, h.new,
    ⟨hg.os.trans h.frame.os, hg.tape.trans h.frame.tape, hg.output.trans h.frame.output, Nat.le_trans h.frame.size hg.size, fun g hlt hn => ?_⟩⟩
  · obtain ⟨Ds, e, hd, hk⟩ := h.defers
    refine ⟨Ds, e, hd, fun D hD => ⟨(hk D hD).1, (hk D hD).2.1, ?_⟩⟩
    have hlt := hmk D (by rw [e]; exact List.mem_map.2 ⟨D, hD, rfl⟩)
    have hD3 := (hk D hD).2.2
    rw [hg.block D (Array.getElem?_eq_some_iff.1 hD3).1 (fun e' => by have := (hr D e'.symm).1; omega)]
    exact hD3
  · have hk := h.heap β (Agree.refl _ _) b k e hl
    rw [e'] at hk
    obtain ⟨⟨us, rest, j0, _⟩, _⟩ := hk
    exact grown_cells hg hr ⟨_, _, _, j0⟩
  · rw [hg.block g (Nat.lt_of_lt_of_le hlt h.frame.size) (fun e' => by have := (hr g e'.symm).1; omega)]
    exact h.frame.block g hlt hn

/-- A slot and a block that nothing else names are forgotten. -/
theorem Inv.forget {tg bx : Nat} {x : AV} {kb : Blk} (h : Inv N w0 S0 Hd (stL ((tg, x) :: L) ((bx, kb) :: H)) a W β S) (hL : ∀ p ∈ L, p.1 ≠ tg ∧ AV.inD (fun b => (heapL H b).isSome = true) p.2) (hH : ∀ b k, heapL H b = some k → AV.inDL (fun b => (heapL H b).isSome = true) k.cells) (hb : heapL H bx = none) : Inv N w0 S0 Hd (stL L H) a W β S := by
  have hheap : ∀ b k, heapL H b = some k → (stL ((tg, x) :: L) ((bx, kb) :: H)).heap b = some k := fun b k e => by
    show (if b = bx then some kb else heapL H b) = some k
    rw [if_neg (fun e' => by rw [e', hb] at e; cases e)]
    exact e
  have hag : ∀ β', Agree (stL L H) β β' → ∀ b, (heapL H b).isSome = true → β' b = β b := fun β' hb' b hs => hb' b (.inr hs)
  refine ⟨h.defers, h.size, fun β' hb' t => ?_, fun β' hb' b k e hl => ?_, fun b b' k k' g sz sz' e hl e' hl' => h.inj b b' k k' g sz sz' (hheap b k e) hl (hheap b' k' e') hl', h.cl, h.keep, h.new, h.frame⟩
  · show RelA β' S W (envL L t) _
    rcases envL_cases L t with h1 | h1
    · rw [h1]; trivial
    · obtain ⟨h2, h3⟩ := hL _ h1
      have h4 := h.env β (Agree.refl _ _) t
      have h5 : (stL ((tg, x) :: L) ((bx, kb) :: H)).env t = envL L t := by
        show (if t = tg then x else envL L t) = _
        rw [if_neg h2]
      rw [h5] at h4
      exact RelA.ren (ρ := fun b => b) (fun b hb'' => hag β' hb' b hb'') _ _ h3 (by rw [ren_id']; exact h4)
  · have e : heapL H b = some k := e
    have h1 := h.heap β (Agree.refl _ _) b k (hheap b k e) hl
    cases hpl : β b with
    | gone => rw [hpl] at h1; exact h1
    | nil => rw [hpl] at h1; exact h1
    | loc g sz =>
      rw [hpl] at h1
      obtain ⟨⟨us, rest, j1, j2, j3, j4⟩, j5, j6⟩ := h1
      exact ⟨⟨us, rest, j1, j2, j3, RelAL.ren (ρ := fun b => b) (fun b hb'' => hag β' hb' b hb'') _ _ (hH b k e) (by rw [renL_id']; exact j4)⟩, j5, j6⟩

theorem Inv.marked (h : Inv N w0 S0 Hd σ a W β S) {D : Nat} (h1 : w0.heap.size ≤ D) (h3 : W.heap[D]? = some (.deferred (some []))) (hn : mark D ∉ a.defers) : Inv N w0 S0 Hd σ { a with defers := mark D :: a.defers } W β S :=
  ⟨h.defers.cons h1 (fun hS => by obtain ⟨_, _, _, hc⟩ := h.cl D hS; rw [h3] at hc; cases hc) h3 hn, h.size, h.env, h.heap, h.inj, h.cl, h.keep, h.new, h.frame⟩

theorem Inv.marks (h : Inv N w0 S0 Hd σ a W β S) : ∀ D, mark D ∈ a.defers → D < W.heap.size := fun D hD => by
  obtain ⟨Ds, e, _, hk⟩ := h.defers
  rw [e] at hD
  obtain ⟨D', hD', e'⟩ := List.mem_map.1 hD
  have := mark_inj e'
  subst this
  exact (Array.getElem?_eq_some_iff.1 (hk D' hD').2.2).1
end

/-- The first of the places from the last one on. -/
def Beg (n : Nat) (pre : List { i : Nat // i < n }) : Prop := pre.map (·.1) = (List.range n).reverse.take pre.length

theorem Beg.nil (n : Nat) : Beg n [] := rfl
theorem Beg.step {n : Nat} {pre : List { i : Nat // i < n }} {x : { i : Nat // i < n }} (h : Beg n (pre ++ [x])) : Beg n pre ∧ x.1 + 1 + pre.length = n := by
  unfold Beg at h ⊢
  have hl := congrArg List.length h
  simp only [List.length_map, List.length_append, List.length_cons, List.length_nil, List.length_take, List.length_reverse, List.length_range] at hl
  have hk : pre.length < n := by omega
  simp only [List.map_append, List.map_cons, List.map_nil, List.length_append, List.length_cons, List.length_nil, Nat.zero_add] at h
  rw [List.take_add_one, List.getElem?_reverse (by simpa using hk), List.length_range, List.getElem?_range (by omega)] at h
  obtain ⟨h1, h2⟩ := List.append_inj h (by simp; omega)
  refine ⟨h1, ?_⟩
  simp only [Option.toList_some, List.cons.injEq, and_true] at h2
  omega
theorem Beg.all {n : Nat} {pre : List { i : Nat // i < n }} (h : pre.map (·.1) = (List.range n).reverse) : pre.length = n ∧ Beg n pre := by
  have hl := congrArg List.length h
  simp only [List.length_map, List.length_reverse, List.length_range] at hl
  exact ⟨hl, by rw [Beg, hl, List.take_of_length_le (by simp)]; exact h⟩
theorem Beg.some {n k : Nat} {pre : List { i : Nat // i < n }} (hk : k < n) (h : pre.map (·.1) = (List.range n).reverse.take (k + 1)) : pre.length = k + 1 ∧ Beg n pre := by
  have hl := congrArg List.length h
  simp only [List.length_map, List.length_take, List.length_reverse, List.length_range] at hl
  have hl : pre.length = k + 1 := by omega
  exact ⟨hl, by rw [Beg, hl]; exact h⟩

/-- What the iterator hands to a round. -/
def encB (xs : List Nat) (x : { i : Nat // i < xs.length }) : Array Value := #[.int .i64 (x.1 : Nat), .int .u32 (xs.getD x.1 0 : Nat)]

/-- The blocks that the iterator reads. -/
def gsB (gb : Nat) (A : Option Addr) : Nat → Prop := fun g => g = gb ∨ ∃ off, A = some ⟨g, off, none⟩

/-- The closure of slices.Backward over a list in a box gives the places and elements, the last ones first. -/
def BackSeq (P : Program) (gf : FuncId) : Prop := ∀ (xs : List Nat) (gb : Nat) (A : Option Addr) (c : Nat) (W : World),
  W.cell? ⟨gb, 0, none⟩ = some (.slice A xs.length c) → xs.length ≤ maxLen → (xs.length = 0 ∨ ∃ ge off, A = some ⟨ge, off, none⟩ ∧ ∀ i, i < xs.length → W.cell? ⟨ge, off + i, none⟩ = some (.int .u32 (xs.getD i 0 : Nat))) →
  SeqStopsK Fence.wide 1 P gf #[.pointer (some ⟨gb, 0, none⟩)] (encB xs) (KpB (gsB gb A))
    (fun l => l.map (·.1) = (List.range xs.length).reverse) (fun l => ∃ k, k < xs.length ∧ l.map (·.1) = (List.range xs.length).reverse.take (k + 1)) xs.length W

/-- The blocks that a round leaves. -/
def OutB (H0 H' : List (Nat × Blk)) (σ' : ASt) : Prop :=
  (∀ b, (heapL H' b).isSome = (heapL H0 b).isSome) ∧ ∀ b k, heapL H' b = some k → σ'.heap b = some { k with pin := some b } ∧ k.live = true ∧ k.pub = false ∧ k.pin = none ∧ k.cells ≠ [] ∧ AV.inDL (fun c => (heapL H0 c).isSome = true) k.cells

theorem rel_els {S : Nat → Prop} {w : World} : ∀ (xs : List Nat) (b o k : Nat), RelE S w (els .u32 xs) b o k → (∀ i, i < xs.length → w.cell? ⟨b, o + i, none⟩ = some (.int .u32 (xs.getD i 0 : Nat)))
  | [], _, _, _, _, i, hi => by cases hi
  | x :: xs, b, o, k, h, i, hi => by
    obtain ⟨h1, ⟨⟨u, h2, _, h3⟩, _⟩, h4⟩ := h
    have h1 : 1 = k := h1
    subst h1
    have h3 : u = .int .u32 (x : Nat) := h3
    subst h3
    cases i with
    | zero => exact h2
    | succ i =>
      have := rel_els xs b (o + 1) 1 h4 i (by simpa using hi)
      rw [show o + (i + 1) = o + 1 + i by omega]
      simpa using this

theorem rel_slP {S : Nat → Prop} {w : World} {xs : List Nat} {u : Value} (h : RelP S w (slP .u32 xs) u) : ∃ A c, u = .slice A xs.length c ∧ xs.length ≤ maxLen ∧ (xs.length = 0 ∨ ∃ ge off, A = some ⟨ge, off, none⟩ ∧ S ge ∧ ∀ i, i < xs.length → w.cell? ⟨ge, off + i, none⟩ = some (.int .u32 (xs.getD i 0 : Nat))) := by
  unfold slP at h
  cases xs with
  | nil =>
    obtain ⟨A, c, e, h1, h2, _⟩ := h
    exact ⟨A, c, e, Nat.zero_le _, .inl rfl⟩
  | cons x xs =>
    obtain ⟨A, c, e, h1, h2, _, h4⟩ := h
    have hl : ([PV.v (.int .u32 (x : Nat))] :: els .u32 xs).length = (x :: xs).length := by simp [els_len]
    rcases h4 with h4 | ⟨b, o, k, hA, hS, hE⟩
    · cases h4
    · refine ⟨A, c, ?_, ?_, .inr ⟨b, o, hA, hS, rel_els (x :: xs) b o k hE⟩⟩
      · rw [e]
        show Value.slice A ([PV.v (.int .u32 (x : Nat))] :: els .u32 xs).length c = _
        rw [hl]
      · have h1 : ([PV.v (.int .u32 (x : Nat))] :: els .u32 xs).length ≤ c := h1
        omega

/-- The round's variables are laid. -/
theorem assign_in {P : Program} {l j0 j1 p0 p1 v0 v1 : Nat} {o0 o1 : Oper} (hg0 : o0.guard = none) (hg1 : o1.guard = none) (ho0 : o0.op = .assign (.tmp p0)) (ho1 : o1.op = .assign (.tmp p1)) (hd0 : o0.dst = some v0) (hd1 : o1.dst = some v1)
    {tm : Array Value} {W : World} {K : Act → World → Prop} (hK : K { tmps := (tm.setIfInBounds v0 (tm.getD p0 undef)).setIfInBounds v1 ((tm.setIfInBounds v0 (tm.getD p0 undef)).getD p1 undef), defers := [] } W) :
    (Code.seq (.region j0 #[o0] false) (.region j1 #[o1] false)).wpIn (Fence.wide.inRound l) 0 P (Exit.then K (fun _ _ _ => False)) { tmps := tm, defers := [] } W := by
  refine wpIn_seq (wpIn_region_lit (l := [o0]) ?_)
  simp only [wpListIn]
  rw [if_pos (by simp [Region.wanted, hg0])]
  refine opIn_of (by simp [notDefer, ho0]) ?_
  unfold Oper.wp
  unfold execOp
  simp only [ho0, Sem.run_bind, Sem.run_pure, Oper.upon]
  simp only [Oper.upon, hd0, Act.put, Act.eval, Exit.then]
  refine wpIn_region_lit (l := [o1]) ?_
  simp only [wpListIn]
  rw [if_pos (by simp [Region.wanted, hg1])]
  refine opIn_of (by simp [notDefer, ho1]) ?_
  unfold Oper.wp
  unfold execOp
  simp only [ho1, Sem.run_bind, Sem.run_pure, Oper.upon]
  simp only [Oper.upon, hd1, Act.put, Act.eval, Exit.then]
  exact hK
end Vou
end

section
set_option linter.unusedVariables false
set_option linter.unusedSimpArgs false
/- The rule of a range over the closure of slices.Backward. -/
namespace Vou
open Go Go.RowKit

section
variable {P : Program} {N : Nat} {ι ιr : Type}

/-- The blocks' shape stays. -/
def OkH (H0 H : List (Nat × Blk)) : Prop := (∀ b, (heapL H b).isSome = (heapL H0 b).isSome) ∧ ∀ b k, heapL H b = some k → k.live = true ∧ k.pub = false

theorem getA_set (t : Array Value) (i j : Nat) (u : Value) (h : i < t.size) : (t.setIfInBounds i u).getD j undef = if j = i then u else t.getD j undef := by
  simp only [Array.getD_eq_getD_getElem?, Array.getElem?_setIfInBounds]
  by_cases e : i = j
  · subst e; simp [h]
  · simp [e, Ne.symm e]

theorem r_range {gf : FuncId} (hB : BackSeq P gf) (hT : Txt P gf) (H : ι → List (Nat × Blk)) (Hr : ιr → List (Nat × Blk)) (Sh Ex : Nat → ι → Prop) (ExR : Nat → ιr → Prop) (s0 : ι) (xs : List Nat)
    {L : List (Nat × AV)} {bx tg p0 p1 v0 v1 j0 j1 : Nat} {T : TypeId} {o0 o1 : Oper} {body : Code} {Q : Exit → ASt → Prop}
    (ho0 : o0.op = .assign (.tmp p0)) (ho1 : o1.op = .assign (.tmp p1)) (hg0 : o0.guard = none) (hg1 : o1.guard = none) (hd0 : o0.dst = some v0) (hd1 : o1.dst = some v1)
    (hlt : (Nat.blt p0 N && Nat.blt p1 N && Nat.blt v0 N && Nat.blt v1 N && p0 != p1 && p0 != v0 && p0 != v1 && p1 != v0 && p1 != v1 && v0 != v1) = true)
    (hbx : heapL (H s0) bx = none) (hH0 : ∀ b k, heapL (H s0) b = some k → k.live = true ∧ k.pub = false ∧ AV.inDL (fun b => (heapL (H s0) b).isSome = true) k.cells)
    (hL : ∀ p ∈ L, p.1 ≠ tg ∧ AV.inD (fun b => (heapL (H s0) b).isSome = true) p.2) (h0 : Sh 0 s0) (e0 : Ex 0 s0)
    (hbody : ∀ l k s i, Sh k s → k < xs.length → i < xs.length → Ti P N l body (stR ((v1, I .u32 (xs.getD i 0)) :: (v0, I .i64 i) :: (p1, I .u32 (xs.getD i 0)) :: (p0, I .i64 i) :: L) (H s)) (fun e σ' =>
      (e = .normal ∧ ∃ s', Sh (k + 1) s' ∧ (Ex k s → i + 1 + k = xs.length → Ex (k + 1) s') ∧ OutB (H s0) (H s') σ') ∨ (e = .ret ∧ ∃ r, (Ex k s → i + 1 + k = xs.length → ExR k r) ∧ OutB (H s0) (Hr r) σ')))
    (hdone : ∀ s, Sh xs.length s → Ex xs.length s → Q .normal (stL L (H s)))
    (hstop : ∀ k r, k < xs.length → ExR k r → Q .ret (stL L (Hr r))) :
    Tr P N (.rangeFunc (.tmp tg) #[p0, p1] (.seq (.region j0 #[o0] false) (.region j1 #[o1] false)) body) (stL ((tg, .fn gf [.ptr bx 0]) :: L) ((bx, { cells := [.p (slP .u32 xs)], ty := T }) :: H s0)) Q := ⟨fun w0 S0 Hd a w ⟨β, S, hI⟩ => by
  simp only [Bool.and_eq_true, Nat.blt_eq, bne_iff_ne] at hlt
  obtain ⟨⟨⟨⟨⟨⟨⟨⟨⟨hp0, hp1⟩, hv0⟩, hv1⟩, n1⟩, n2⟩, n3⟩, n4⟩, n5⟩, n6⟩ := hlt
  -- the closure, its box and the list in it
  have hbh : (stL ((tg, .fn gf [.ptr bx 0]) :: L) ((bx, { cells := [.p (slP .u32 xs)], ty := T }) :: H s0)).heap bx = some { cells := [.p (slP .u32 xs)], ty := T } := by
    show (if bx = bx then _ else _) = _
    rw [if_pos rfl]
  have e1 := hI.look (.tmp tg) β (Agree.refl _ _)
  have e2 : (stL ((tg, .fn gf [.ptr bx 0]) :: L) ((bx, { cells := [.p (slP .u32 xs)], ty := T }) :: H s0)).look (.tmp tg) = .fn gf [.ptr bx 0] := by
    show (if tg = tg then _ else _) = _
    rw [if_pos rfl]
  rw [e2] at e1
  obtain ⟨us, he, u1, us1, rfl, hu1, hnil⟩ := e1
  have hnil : us1 = [] := hnil
  subst hnil
  obtain ⟨gb, sz, us2, rest, hβ, rfl, hcells, hsz, hone, hrel, hpub, hnew⟩ := hI.at_ptr hu1 hbh rfl
  obtain ⟨u2, us3, rfl, hu2, _⟩ := hrel
  obtain ⟨A, c, rfl, hmax, hsl⟩ := rel_slP hu2
  have hcell : w.cell? ⟨gb, 0, none⟩ = some (.slice A xs.length c) := by
    simp [World.cell?, hcells]
  have hseq := hB xs gb A c w hcell hmax (hsl.imp id fun ⟨ge, off, h1, _, h3⟩ => ⟨ge, off, h1, h3⟩)
  have hI1 := hI.forget hL (fun b k e => (hH0 b k e).2.2) hbx
  have hmk := hI.marks
  have hbxne : ∀ b k sz', heapL (H s0) b = some k → β b ≠ .loc gb sz' := fun b k sz' e hb => by
    have hl := (hH0 b k e).1
    have : (stL ((tg, .fn gf [.ptr bx 0]) :: L) ((bx, { cells := [.p (slP .u32 xs)], ty := T }) :: H s0)).heap b = some k := by
      show (if b = bx then _ else heapL (H s0) b) = _
      rw [if_neg (fun e' => by rw [e', hbx] at e; cases e)]
      exact e
    have := hI.inj b bx _ _ _ _ _ this hl hbh rfl hb hβ
    rw [this, hbx] at e
    cases e
  refine wpIn_wide.1 (wpIn_rangeFunc_ownF (n := 2) (F := Fence.wide) (w0 := w) (gf := gf) (encs := encB xs) (Kp := KpB (gsB gb A)) rfl (by omega) he trivial ?_ hseq ?_ ?_ (Below.refl _ _) (fun x => rfl)
    (fun pre W => ∃ s S', Sh pre.length s ∧ (Beg xs.length pre → Ex pre.length s) ∧ OkH (H s0) (H s) ∧ (∀ g, S g → S' g) ∧ Inv N w0 S0 Hd (stL L (H s)) a W β S')
    (fun c pre W => c = .ret ∧ ∃ r S', (∀ k, pre.length = k + 1 → Beg xs.length pre → ExR k r) ∧ Inv N w0 S0 Hd (stL L (Hr r)) a W β S') ?_ ?_
    ⟨s0, S, h0, fun _ => e0, ⟨fun _ => rfl, fun b k e => ⟨(hH0 b k e).1, (hH0 b k e).2.1⟩⟩, fun _ h => h, hI1⟩
    (fun x => { tmps := (((a.tmps.setIfInBounds p0 (.int .i64 (x.1 : Nat))).setIfInBounds p1 (.int .u32 (xs.getD x.1 0 : Nat))).setIfInBounds v0 (.int .i64 (x.1 : Nat))).setIfInBounds v1 (.int .u32 (xs.getD x.1 0 : Nat)), defers := [] }) ?_ ?_ ?_ ?_)
  · -- the call of the iterator
    intro args W
    obtain ⟨fn, hf, hn, hb⟩ := hT
    have hn' : fn.name ≠ "runtime.NumGoroutine" := by simpa using hn
    have hb' : fn.body ≠ none := by intro h; rw [h] at hb; cases hb
    simp [callFunc, hf, hn', hb']
  · -- what is kept is kept by two steps
    intro A' B' C' h1 h2 g hg hc
    have e1 := h1 g hg hc
    rw [h2 g hg (hc.same e1), e1]
  · intro W l o o' hl ho hc hw g hg hcl
    refine World.putObj_heap_other fun e => ?_
    subst e
    rw [cells_isCells hcl ho] at hc
    cases hc
  · -- the invariant abides a turn of other blocks
    rintro pre W W' row ⟨s, S', h1, h2, h3, h4, h5⟩ hg hr
    exact ⟨s, S', h1, h2, h3, h4, h5.other hI.frame.size hmk hg hr⟩
  · rintro c' pre W W' row ⟨h1, r, S', h2, h5⟩ hg hr
    exact ⟨h1, r, S', h2, h5.other hI.frame.size hmk hg hr⟩
  · -- the round's variables
    intro l x W K hK
    have hs := hI.size
    have hz : (#[p0, p1].zip (encB xs x)).foldl (fun t (p, v) => t.setIfInBounds p v) a.tmps = (a.tmps.setIfInBounds p0 (.int .i64 (x.1 : Nat))).setIfInBounds p1 (.int .u32 (xs.getD x.1 0 : Nat)) := by simp [encB]
    rw [hz]
    refine assign_in hg0 hg1 ho0 ho1 hd0 hd1 ?_
    rw [getA_set _ _ _ _ (by simpa [hs] using hp1), if_neg n1, getA_set _ _ _ _ (by simpa [hs] using hp0), if_pos rfl, getA_set _ _ _ _ (by simpa [hs] using hv0), if_neg n4, getA_set _ _ _ _ (by simpa [hs] using hp1), if_pos rfl]
    exact hK
  · -- one round
    rintro l pre x W ⟨s, S', h1, h2, h3, h4, h5⟩ hlen
    have hs := hI.size
    have hin := h5.enter (a' := { tmps := (((a.tmps.setIfInBounds p0 (.int .i64 (x.1 : Nat))).setIfInBounds p1 (.int .u32 (xs.getD x.1 0 : Nat))).setIfInBounds v0 (.int .i64 (x.1 : Nat))).setIfInBounds v1 (.int .u32 (xs.getD x.1 0 : Nat)), defers := [] })
      (L' := (v1, I .u32 (xs.getD x.1 0)) :: (v0, I .i64 x.1) :: (p1, I .u32 (xs.getD x.1 0)) :: (p0, I .i64 x.1) :: L) rfl (by simp [hs]) (fun t => by
        show (envL _ t = envL L t ∧ Array.getD (((((a.tmps.setIfInBounds p0 _).setIfInBounds p1 _).setIfInBounds v0 _).setIfInBounds v1 _)) t undef = _) ∨ _
        rw [getA_set _ _ _ _ (by simpa [hs] using hv1), getA_set _ _ _ _ (by simpa [hs] using hv0), getA_set _ _ _ _ (by simpa [hs] using hp1), getA_set _ _ _ _ (by simpa [hs] using hp0)]
        simp only [envL]
        by_cases c1 : t = v1
        · right; exact ⟨_, by rw [if_pos c1], by rw [if_pos c1]⟩
        · rw [if_neg c1, if_neg c1]
          by_cases c2 : t = v0
          · right; exact ⟨_, by rw [if_pos c2], by rw [if_pos c2]⟩
          · rw [if_neg c2, if_neg c2]
            by_cases c3 : t = p1
            · right; exact ⟨_, by rw [if_pos c3], by rw [if_pos c3]⟩
            · rw [if_neg c3, if_neg c3]
              by_cases c4 : t = p0
              · right; exact ⟨_, by rw [if_pos c4], by rw [if_pos c4]⟩
              · rw [if_neg c4, if_neg c4]
                exact .inl ⟨rfl, rfl⟩)
    have hblk : ∀ b g sz, (heapL (H s) b).isSome = true → β b = .loc g sz → CellsAt W g ∧ ¬ S' g ∧ g ≠ gb := fun b g sz hb hpl => by
      obtain ⟨k, e⟩ := Option.isSome_iff_exists.1 hb
      have hk := h5.heap β (Agree.refl _ _) b k e (h3.2 b k e).1
      rw [hpl] at hk
      obtain ⟨⟨us, rest, j0, _⟩, j2, j3⟩ := hk
      refine ⟨⟨_, _, _, j0⟩, fun hS => ?_, fun e' => ?_⟩
      · have := (h3.2 b k e).2
        rw [j2.1 hS] at this
        cases this
      · subst e'
        rw [h3.1 b] at hb
        obtain ⟨k', e'⟩ := Option.isSome_iff_exists.1 hb
        exact hbxne b k' sz e' hpl
    refine wpIn_mono ((hbody l pre.length s x.1 h1 hlen x.2).get W S' (HdR (H s) β) _ W ⟨β, S', hin⟩) ?_
    rintro e a3 W3 ⟨σ', hq, β3, S3, h6⟩
    have hko : KeepsOthers W W3 := ⟨h6.frame.size, fun k o ho hc => by
      rw [h6.frame.block k (Array.getElem?_eq_some_iff.1 ho).1 (fun ⟨b, sz, hb, hpl⟩ => by rw [cells_isCells (hblk b k sz hb hpl).1 ho] at hc; cases hc)]
      exact ho⟩
    have hkp : KpB (gsB gb A) W W3 := fun g hg hc => h6.frame.block g hc.lt fun ⟨b, sz, hb, hpl⟩ => by
      obtain ⟨_, q2, q3⟩ := hblk b g sz hb hpl
      rcases hg with hg | ⟨off, hA⟩
      · exact q3 hg
      · rcases hsl with h0 | ⟨ge, off', hA', hS, _⟩
        · exact absurd hlen (by omega)
        · rw [hA] at hA'
          cases hA'
          exact q2 (h4 _ hS)
    rcases hq with ⟨rfl, s', q1, q2, q3⟩ | ⟨rfl, r, q2, q3⟩
    · refine ⟨hko, hkp, s', S3, by simpa using q1, fun hb => ?_, ⟨q3.1, fun b k e => ⟨(q3.2 b k e).2.1, (q3.2 b k e).2.2.1⟩⟩, fun g hg => h6.keep g (h4 g hg), ?_⟩
      · have hb := hb.step
        simpa using q2 (h2 hb.1) hb.2
      · refine h5.outOf (fun b k e => h3.2 b k e) h6 (fun b => (q3.1 b).trans (h3.1 b).symm) fun b k e => ?_
        obtain ⟨k1, k2, k3, k4, k5, k6⟩ := q3.2 b k e
        refine ⟨k1, k2, k3, k4, k5, ?_, renL_id' _⟩
        have : (fun c => (heapL (H s) c).isSome = true) = (fun c => (heapL (H s0) c).isSome = true) := by funext c; rw [h3.1 c]
        rw [this]; exact k6
    · refine ⟨hko, rfl, r, S3, fun k hk hb => ?_, ?_⟩
      · have hb := hb.step
        have hk : pre.length = k := by simpa using hk
        subst hk
        exact q2 (h2 hb.1) hb.2
      · refine h5.outOf (fun b k e => h3.2 b k e) h6 (fun b => (q3.1 b).trans (h3.1 b).symm) fun b k e => ?_
        obtain ⟨k1, k2, k3, k4, k5, k6⟩ := q3.2 b k e
        refine ⟨k1, k2, k3, k4, k5, ?_, renL_id' _⟩
        have : (fun c => (heapL (H s) c).isSome = true) = (fun c => (heapL (H s0) c).isSome = true) := by funext c; rw [h3.1 c]
        rw [this]; exact k6
  · -- behind all rounds
    rintro D pre W hD hS ⟨s, S', h1, h2, h3, h4, h5⟩ hDW
    obtain ⟨hl, hb⟩ := Beg.all hS
    refine ⟨_, hdone s (by rw [← hl]; exact h1) (by have := h2 hb; rwa [hl] at this), β, S', h5.marked (Nat.le_trans hI.frame.size hD) hDW fun hm => ?_⟩
    have := hmk D hm
    omega
  · -- out of a round
    rintro D c' pre W hD ⟨k, hk, hS⟩ ⟨rfl, r, S', h2, h5⟩ hDW
    obtain ⟨hl, hb⟩ := Beg.some hk hS
    refine wpIn_ret ⟨_, hstop k r hk (h2 k hl hb), β, S', h5.marked (Nat.le_trans hI.frame.size hD) hDW fun hm => ?_⟩
    have := hmk D hm
    omega⟩
end
end Vou
end
