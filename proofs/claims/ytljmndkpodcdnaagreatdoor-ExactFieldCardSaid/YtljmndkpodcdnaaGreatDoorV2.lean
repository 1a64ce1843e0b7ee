/- A part of the proof: an abstract machine over the weakest preconditions of the model: values, states, operations, calls. It holds without conditions. -/
import Derived.Orders
import Derived.Below
import Derived.Lib.ItoaNum
import Derived.WalkKit

section
set_option linter.unusedVariables false
set_option linter.unusedSimpArgs false
/- Values without addresses, and when a value of the machine stands for one. -/
namespace Vou
open Go Go.RowKit

/-- A value that does not change: `v`: this very value; `sl`: a slice, its elements' cells (clip: no room behind it); `agg`: a struct; `tup`: several results; `cp`: a pointer to cells that do not change. -/
inductive PV where
  | any
  | v (x : Value)
  | sl (clip : Bool) (es : List (List PV))
  | agg (xs : List PV)
  | tup (xs : List PV)
  | cp (xs : List PV)

/-- A value in a call: what does not change; a slice into a block of the call's own; a pointer into one; a struct; a function with what it captures. -/
inductive AV where
  | p (x : PV)
  | own (full : Bool) (k b o n : Nat)
  | ptr (b o : Nat)
  | agg (xs : List AV)
  | tup (xs : List AV)
  | fn (f : FuncId) (caps : List AV)

/-- Where a block of the call's own lies. -/
inductive Pl where
  | gone
  | nil
  | loc (g sz : Nat)

mutual
def RelP (S : Nat → Prop) (w : World) : PV → Value → Prop
  | .any, _ => True
  | .v x, u => u = x
  | .sl clip es, u => ∃ A c, u = .slice A es.length c ∧ es.length ≤ c ∧ c ≤ maxLen ∧ (clip = true → c = es.length) ∧ (es = [] ∨ ∃ b o k, A = some ⟨b, o, none⟩ ∧ S b ∧ RelE S w es b o k)
  | .agg xs, u => ∃ us : List Value, u = .agg us.toArray ∧ RelL S w xs us
  | .tup xs, u => ∃ us : List Value, u = .tuple us.toArray ∧ RelL S w xs us
  | .cp xs, u => ∃ b o, u = .pointer (some ⟨b, o, none⟩) ∧ S b ∧ RelC S w xs b o
def RelL (S : Nat → Prop) (w : World) : List PV → List Value → Prop
  | [], us => us = []
  | x :: xs, us => ∃ u us', us = u :: us' ∧ RelP S w x u ∧ RelL S w xs us'
def RelE (S : Nat → Prop) (w : World) : List (List PV) → Nat → Nat → Nat → Prop
  | [], _, _, _ => True
  | e :: es, b, o, k => e.length = k ∧ RelC S w e b o ∧ RelE S w es b (o + k) k
def RelC (S : Nat → Prop) (w : World) : List PV → Nat → Nat → Prop
  | [], _, _ => True
  | x :: xs, b, o => (∃ u, w.cell? ⟨b, o, none⟩ = some u ∧ u.oneCell' = true ∧ RelP S w x u) ∧ RelC S w xs b (o + 1)
end

mutual
def RelA (β : Nat → Pl) (S : Nat → Prop) (w : World) : AV → Value → Prop
  | .p x, u => RelP S w x u
  | .own full k b o n, u => match β b with
    | .gone => u.oneCell' = true
    | .nil => u = .slice none 0 0 ∧ n = 0
    | .loc g sz => ∃ c, u = .slice (some ⟨g, o, none⟩) n c ∧ n ≤ c ∧ c ≤ maxLen ∧ (full = true → o = 0 ∧ c * k = sz)
  | .ptr b o, u => match β b with
    | .gone => u.oneCell' = true
    | .nil => False
    | .loc g _ => u = .pointer (some ⟨g, o, none⟩)
  | .agg xs, u => ∃ us : List Value, u = .agg us.toArray ∧ RelAL β S w xs us
  | .tup xs, u => ∃ us : List Value, u = .tuple us.toArray ∧ RelAL β S w xs us
  | .fn f caps, u => ∃ us : List Value, u = .func (.func f) #[] us.toArray ∧ RelAL β S w caps us
def RelAL (β : Nat → Pl) (S : Nat → Prop) (w : World) : List AV → List Value → Prop
  | [], us => us = []
  | x :: xs, us => ∃ u us', us = u :: us' ∧ RelA β S w x u ∧ RelAL β S w xs us'
end

/-- What holds of the stable blocks of w holds of those of w'. -/
def Stab (S S' : Nat → Prop) (w w' : World) : Prop := ∀ g, S g → S' g ∧ w'.heap[g]? = w.heap[g]?

theorem Stab.refl (S : Nat → Prop) (w : World) : Stab S S w w := fun _ h => ⟨h, rfl⟩
theorem Stab.trans {S S' S'' : Nat → Prop} {w w' w'' : World} (h : Stab S S' w w') (k : Stab S' S'' w' w'') : Stab S S'' w w'' :=
  fun g hg => ⟨(k g (h g hg).1).1, (k g (h g hg).1).2.trans (h g hg).2⟩
theorem Stab.cell {S S' : Nat → Prop} {w w' : World} (h : Stab S S' w w') {b o : Nat} (hb : S b) : w'.cell? ⟨b, o, none⟩ = w.cell? ⟨b, o, none⟩ := by
  simp [World.cell?, (h b hb).2]

mutual
theorem RelP.mono {S S' : Nat → Prop} {w w' : World} (h : Stab S S' w w') : ∀ (x : PV) (u : Value), RelP S w x u → RelP S' w' x u
  | .any, _, _ => trivial
  | .v _, _, hu => hu
  | .sl _ [], _, hu => by
    obtain ⟨A, c, e, h1, h2, h3, _⟩ := hu
    exact ⟨A, c, e, h1, h2, h3, .inl rfl⟩
  | .sl _ (e1 :: es), _, hu => by
    obtain ⟨A, c, e, h1, h2, h3, h4⟩ := hu
    rcases h4 with h4 | ⟨b, o, k, hA, hb, hE⟩
    · cases h4
    · exact ⟨A, c, e, h1, h2, h3, .inr ⟨b, o, k, hA, (h b hb).1, RelE.mono h (e1 :: es) b o k hb hE⟩⟩
  | .agg xs, _, hu => by
    obtain ⟨us, e, hl⟩ := hu
    exact ⟨us, e, RelL.mono h xs us hl⟩
  | .tup xs, _, hu => by
    obtain ⟨us, e, hl⟩ := hu
    exact ⟨us, e, RelL.mono h xs us hl⟩
  | .cp xs, _, hu => by
    obtain ⟨b, o, e, hb, hl⟩ := hu
    exact ⟨b, o, e, (h b hb).1, RelC.mono h xs b o hb hl⟩
theorem RelL.mono {S S' : Nat → Prop} {w w' : World} (h : Stab S S' w w') : ∀ (xs : List PV) (us : List Value), RelL S w xs us → RelL S' w' xs us
  | [], _, hu => hu
  | x :: xs, _, hu => by
    obtain ⟨u, us', e, h1, h2⟩ := hu
    exact ⟨u, us', e, RelP.mono h x u h1, RelL.mono h xs us' h2⟩
theorem RelE.mono {S S' : Nat → Prop} {w w' : World} (h : Stab S S' w w') : ∀ (es : List (List PV)) (b o k : Nat), S b → RelE S w es b o k → RelE S' w' es b o k
  | [], _, _, _, _, _ => trivial
  | e :: es, b, o, k, hb, hu => ⟨hu.1, RelC.mono h e b o hb hu.2.1, RelE.mono h es b (o + k) k hb hu.2.2⟩
theorem RelC.mono {S S' : Nat → Prop} {w w' : World} (h : Stab S S' w w') : ∀ (xs : List PV) (b o : Nat), S b → RelC S w xs b o → RelC S' w' xs b o
  | [], _, _, _, _ => trivial
  | x :: xs, b, o, hb, hu => by
    obtain ⟨⟨u, h1, h2, h3⟩, h4⟩ := hu
    exact ⟨⟨u, (h.cell hb).trans h1, h2, RelP.mono h x u h3⟩, RelC.mono h xs b (o + 1) hb h4⟩
end

mutual
theorem RelA.mono {β : Nat → Pl} {S S' : Nat → Prop} {w w' : World} (h : Stab S S' w w') : ∀ (x : AV) (u : Value), RelA β S w x u → RelA β S' w' x u
  | .p x, u, hu => RelP.mono h x u hu
  | .own _ _ b _ _, _, hu => by
    simp only [RelA] at hu ⊢
    exact hu
  | .ptr b _, _, hu => by
    simp only [RelA] at hu ⊢
    exact hu
  | .agg xs, _, hu => by
    obtain ⟨us, e, hl⟩ := hu
    exact ⟨us, e, RelAL.mono h xs us hl⟩
  | .tup xs, _, hu => by
    obtain ⟨us, e, hl⟩ := hu
    exact ⟨us, e, RelAL.mono h xs us hl⟩
  | .fn _ xs, _, hu => by
    obtain ⟨us, e, hl⟩ := hu
    exact ⟨us, e, RelAL.mono h xs us hl⟩
theorem RelAL.mono {β : Nat → Pl} {S S' : Nat → Prop} {w w' : World} (h : Stab S S' w w') : ∀ (xs : List AV) (us : List Value), RelAL β S w xs us → RelAL β S' w' xs us
  | [], _, hu => hu
  | x :: xs, _, hu => by
    obtain ⟨u, us', e, h1, h2⟩ := hu
    exact ⟨u, us', e, RelA.mono h x u h1, RelAL.mono h xs us' h2⟩
end

/-! ### Lists -/
section
variable {β : Nat → Pl} {S : Nat → Prop} {w : World}
theorem RelAL.length : ∀ {xs : List AV} {us : List Value}, RelAL β S w xs us → us.length = xs.length
  | [], _, h => by cases h; rfl
  | _ :: xs, _, h => by
    obtain ⟨u, us', rfl, _, h2⟩ := h
    simp [RelAL.length h2]
theorem RelAL.get : ∀ {xs : List AV} {us : List Value}, RelAL β S w xs us → ∀ (i : Nat) (x : AV), xs[i]? = some x → ∃ u, us[i]? = some u ∧ RelA β S w x u
  | [], _, _, i, x, hx => by simp at hx
  | y :: xs, _, h, i, x, hx => by
    obtain ⟨u, us', rfl, h1, h2⟩ := h
    cases i with
    | zero => simp at hx; subst hx; exact ⟨u, rfl, h1⟩
    | succ i => simp at hx; obtain ⟨v, hv, hr⟩ := RelAL.get h2 i x hx; exact ⟨v, by simpa using hv, hr⟩
theorem RelAL.set : ∀ {xs : List AV} {us : List Value}, RelAL β S w xs us → ∀ (i : Nat) (x : AV) (u : Value), RelA β S w x u → RelAL β S w (xs.set i x) (us.set i u)
  | [], _, h, i, x, u, _ => by cases h; simp [RelAL]
  | y :: xs, _, h, i, x, u, hu => by
    obtain ⟨v, us', rfl, h1, h2⟩ := h
    cases i with
    | zero => exact ⟨u, us', rfl, hu, h2⟩
    | succ i => exact ⟨v, us'.set i u, rfl, h1, RelAL.set h2 i x u hu⟩
theorem RelAL.append : ∀ {xs ys : List AV} {us vs : List Value}, RelAL β S w xs us → RelAL β S w ys vs → RelAL β S w (xs ++ ys) (us ++ vs)
  | [], _, _, _, h, k => by cases h; exact k
  | _ :: xs, _, _, _, h, k => by
    obtain ⟨v, us', rfl, h1, h2⟩ := h
    exact ⟨v, us' ++ _, rfl, h1, RelAL.append h2 k⟩
theorem RelAL.take : ∀ {xs : List AV} {us : List Value}, RelAL β S w xs us → ∀ n, RelAL β S w (xs.take n) (us.take n)
  | [], _, h, n => by cases h; simp [RelAL]
  | _ :: xs, _, h, n => by
    obtain ⟨v, us', rfl, h1, h2⟩ := h
    cases n with
    | zero => simp [RelAL]
    | succ n => exact ⟨v, us'.take n, by simp, h1, RelAL.take h2 n⟩
theorem RelAL.drop : ∀ {xs : List AV} {us : List Value}, RelAL β S w xs us → ∀ n, RelAL β S w (xs.drop n) (us.drop n)
  | [], _, h, n => by cases h; simp [RelAL]
  | x :: xs, _, h, n => by
    obtain ⟨v, us', rfl, h1, h2⟩ := h
    cases n with
    | zero => exact ⟨v, us', rfl, h1, h2⟩
    | succ n => simpa using RelAL.drop h2 n
theorem RelL.length : ∀ {xs : List PV} {us : List Value}, RelL S w xs us → us.length = xs.length
  | [], _, h => by cases h; rfl
  | _ :: xs, _, h => by
    obtain ⟨u, us', rfl, _, h2⟩ := h
    simp [RelL.length h2]
theorem RelAL.of_RelL : ∀ {xs : List PV} {us : List Value}, RelL S w xs us → RelAL β S w (xs.map AV.p) us
  | [], _, h => h
  | _ :: xs, _, h => by
    obtain ⟨u, us', rfl, h1, h2⟩ := h
    exact ⟨u, us', rfl, h1, RelAL.of_RelL h2⟩
theorem RelL.of_RelAL : ∀ {xs : List PV} {us : List Value}, RelAL β S w (xs.map AV.p) us → RelL S w xs us
  | [], _, h => h
  | _ :: xs, _, h => by
    obtain ⟨u, us', rfl, h1, h2⟩ := h
    exact ⟨u, us', rfl, h1, RelL.of_RelAL h2⟩
end

end Vou
end

section
set_option linter.unusedVariables false
set_option linter.unusedSimpArgs false
/- The state of a call, and how a state of the machine stands for one. -/
namespace Vou
open Go Go.RowKit

/-- A block of the call's own: the cells that are known, the type of its elements, whether it is still spoken of, whether it is handed out (then it does not change any more). -/
structure Blk where
  cells : List AV
  ty : TypeId
  live : Bool := true
  pub : Bool := false
  pin : Option Nat := none

/-- The slots, the blocks of the call's own, and a number above which no block has been named yet. -/
structure ASt where
  env : Nat → AV
  heap : Nat → Option Blk
  nx : Nat

def upd {α : Type} (f : Nat → α) (i : Nat) (x : α) : Nat → α := fun j => if j = i then x else f j
theorem upd_same {α : Type} (f : Nat → α) (i : Nat) (x : α) : upd f i x i = x := by simp [upd]
theorem upd_ne {α : Type} (f : Nat → α) (i j : Nat) (x : α) (h : j ≠ i) : upd f i x j = f j := by simp [upd, h]

/-- β' places the blocks that are named as β does. -/
def Agree (σ : ASt) (β β' : Nat → Pl) : Prop := ∀ b, (b < σ.nx ∨ (σ.heap b).isSome = true) → β' b = β b

theorem Agree.refl (σ : ASt) (β : Nat → Pl) : Agree σ β β := fun _ _ => rfl

/-- A block that was handed. -/
def Hdd (Hd : Nat → Nat → Nat → Prop) (g : Nat) : Prop := ∃ n sz, Hd n g sz

/-- A block lies where it is placed. -/
def BlkRel (B : Nat) (Hd : Nat → Nat → Nat → Prop) (S : Nat → Prop) (w : World) (β : Nat → Pl) (k : Blk) : Pl → Prop
  | .gone => False
  | .nil => k.cells = []
  | .loc g sz => (∃ us rest : List Value, w.heap[g]? = some (.cells (us ++ rest).toArray k.ty (0, 0)) ∧ (us ++ rest).length = sz ∧ (∀ u ∈ us, u.oneCell' = true) ∧ RelAL β S w k.cells us) ∧
      (S g ↔ k.pub = true) ∧ ((B ≤ g ∨ Hdd Hd g) ∧ (∀ n, k.pin = some n → Hd n g sz))

/-- What the call may have done to the world in which it began. -/
structure FrameW (w0 : World) (Hd : Nat → Nat → Nat → Prop) (w : World) : Prop where
  os : w.os = w0.os
  tape : w.tape = w0.tape
  output : w.output = w0.output
  size : w0.heap.size ≤ w.heap.size
  block : ∀ g, g < w0.heap.size → ¬ Hdd Hd g → w.heap[g]? = w0.heap[g]?

/-- The mark of a range over a function among the deferred calls. -/
def mark (D : Nat) : Deferred := { target := .collected D, args := #[] }

/-- The deferred calls: marks of ranges over functions alone. -/
def Dfr (B : Nat) (S : Nat → Prop) (w : World) (ds : List Deferred) : Prop :=
  ∃ Ds : List Nat, ds = Ds.map mark ∧ Ds.Nodup ∧ ∀ D ∈ Ds, B ≤ D ∧ ¬ S D ∧ w.heap[D]? = some (.deferred (some []))

theorem Dfr.nil {B : Nat} {S : Nat → Prop} {w : World} : Dfr B S w [] := ⟨[], rfl, List.nodup_nil, fun _ h => by cases h⟩
theorem Dfr.cons {B : Nat} {S : Nat → Prop} {w : World} {ds : List Deferred} (h : Dfr B S w ds) {D : Nat} (h1 : B ≤ D) (h2 : ¬ S D) (h3 : w.heap[D]? = some (.deferred (some []))) (hn : mark D ∉ ds) : Dfr B S w (mark D :: ds) := by
  obtain ⟨Ds, e, hd, hk⟩ := h
  subst e
  refine ⟨D :: Ds, rfl, List.nodup_cons.2 ⟨fun hm => hn (List.mem_map.2 ⟨D, hm, rfl⟩), hd⟩, fun D' hD => ?_⟩
  rcases List.mem_cons.1 hD with rfl | hD
  · exact ⟨h1, h2, h3⟩
  · exact hk D' hD

theorem Dfr.keep {B : Nat} {S S' : Nat → Prop} {w w' : World} {ds : List Deferred} (h : Dfr B S w ds) (k : ∀ D, B ≤ D → ¬ S D → w.heap[D]? = some (.deferred (some [])) → ¬ S' D ∧ w'.heap[D]? = w.heap[D]?) : Dfr B S' w' ds := by
  obtain ⟨Ds, e, hd, hk⟩ := h
  refine ⟨Ds, e, hd, fun D hD => ?_⟩
  obtain ⟨h2, h3, h4⟩ := hk D hD
  obtain ⟨k1, k2⟩ := k D h2 h3 h4
  exact ⟨h2, k1, k2.trans h4⟩

/-- A block of cells. -/
def CellsAt (w : World) (g : Nat) : Prop := ∃ cs t f, w.heap[g]? = some (.cells cs t f)
theorem CellsAt.lt {w : World} {g : Nat} (h : CellsAt w g) : g < w.heap.size := by
  obtain ⟨_, _, _, h⟩ := h
  exact (Array.getElem?_eq_some_iff.1 h).1
theorem CellsAt.same {w w' : World} {g : Nat} (h : CellsAt w g) (e : w'.heap[g]? = w.heap[g]?) : CellsAt w' g := by
  obtain ⟨cs, t, f, h⟩ := h
  exact ⟨cs, t, f, e.trans h⟩

/-- What the package-level variables hold that the library's functions read: they are among the blocks that do not change. -/
structure Gl (S : Nat → Prop) (w : World) : Prop where
  pow : S 3 ∧ ∃ t f, w.heap[3]? = some (.cells (Lib.pow10Tab.map fun z => Value.int .u64 z).toArray t f)
  max : S 0 ∧ ∃ (n : Int) (t : TypeId) (f : Nat × Nat), w.heap[0]? = some (.cells #[.int .i64 n] t f)
theorem Gl.mono {S S' : Nat → Prop} {w w' : World} (hs : Stab S S' w w') (h : Gl S w) : Gl S' w' := by
  obtain ⟨⟨h1, t, f, h2⟩, h3, n, t', f', h4⟩ := h
  exact ⟨⟨(hs 3 h1).1, t, f, (hs 3 h1).2.trans h2⟩, (hs 0 h3).1, n, t', f', (hs 0 h3).2.trans h4⟩

/-- The blocks that do not change hold cells. -/
structure Cl (S : Nat → Prop) (w : World) : Prop where
  at_ : ∀ g, S g → CellsAt w g
  gl : Gl S w
instance {S : Nat → Prop} {w : World} : CoeFun (Cl S w) (fun _ => ∀ g, S g → CellsAt w g) := ⟨Cl.at_⟩
theorem Cl.step {S : Nat → Prop} {w w' : World} (h : Cl S w) (hs : Stab S S w w') : Cl S w' := ⟨fun g hg => (h.at_ g hg).same (hs g hg).2, h.gl.mono hs⟩

structure Inv (N : Nat) (w0 : World) (S0 : Nat → Prop) (Hd : Nat → Nat → Nat → Prop) (σ : ASt) (a : Act) (w : World) (β : Nat → Pl) (S : Nat → Prop) : Prop where
  defers : Dfr w0.heap.size S w a.defers
  size : a.tmps.size = N
  env : ∀ β', Agree σ β β' → ∀ t, RelA β' S w (σ.env t) (a.tmps.getD t undef)
  heap : ∀ β', Agree σ β β' → ∀ b k, σ.heap b = some k → k.live = true → BlkRel w0.heap.size Hd S w β' k (β b)
  inj : ∀ b b' k k' g sz sz', σ.heap b = some k → k.live = true → σ.heap b' = some k' → k'.live = true → β b = .loc g sz → β b' = .loc g sz' → b = b'
  cl : Cl S w
  keep : ∀ g, S0 g → S g
  new : ∀ g, S g → S0 g ∨ w0.heap.size ≤ g ∨ Hdd Hd g
  frame : FrameW w0 Hd w

theorem Inv.lt {N : Nat} {w0 : World} {S0 : Nat → Prop} {Hd : Nat → Nat → Nat → Prop} {σ : ASt} {a : Act} {w : World} {β : Nat → Pl} {S : Nat → Prop} (h : Inv N w0 S0 Hd σ a w β S) : ∀ g, S g → g < w.heap.size := fun g hg => (h.cl g hg).lt

def RelSt (N : Nat) (w0 : World) (S0 : Nat → Prop) (Hd : Nat → Nat → Nat → Prop) (σ : ASt) (a : Act) (w : World) : Prop := ∃ β S, Inv N w0 S0 Hd σ a w β S

section
variable {N : Nat} {w0 : World} {S0 : Nat → Prop} {Hd : Nat → Nat → Nat → Prop} {σ : ASt} {a : Act} {w : World} {β : Nat → Pl} {S : Nat → Prop}

theorem getD_put (a : Act) (d : Nat) (u : Value) (hd : d < a.tmps.size) (t : Nat) : (a.put (some d) u).tmps.getD t undef = if t = d then u else a.tmps.getD t undef := by
  simp only [Act.put, Array.getD_eq_getD_getElem?, Array.getElem?_setIfInBounds]
  by_cases h : d = t
  · subst h; simp [hd]
  · simp [h, Ne.symm h]

/-- A value is laid into a slot. -/
theorem Inv.put (h : Inv N w0 S0 Hd σ a w β S) {d : Nat} (hd : d < N) {x : AV} {u : Value} (hx : ∀ β', Agree σ β β' → RelA β' S w x u) :
    Inv N w0 S0 Hd { σ with env := upd σ.env d x } (a.put (some d) u) w β S where
  defers := h.defers
  size := by simp [Act.put, h.size]
  env := fun β' hb t => by
    rw [getD_put a d u (by rw [h.size]; exact hd)]
    simp only [upd]
    split
    · exact hx β' hb
    · exact h.env β' hb t
  heap := h.heap
  inj := h.inj
  cl := h.cl
  keep := h.keep
  new := h.new
  frame := h.frame

theorem Inv.put_none (h : Inv N w0 S0 Hd σ a w β S) (u : Value) : Inv N w0 S0 Hd σ (a.put none u) w β S := h

theorem BlkRel.mono {B : Nat} {k : Blk} {w' : World} {S' : Nat → Prop} (hs : Stab S S' w w') {pl : Pl} (h : BlkRel B Hd S w β k pl)
    (hg : ∀ g sz, pl = .loc g sz → w'.heap[g]? = w.heap[g]? ∧ (S' g ↔ S g)) : BlkRel B Hd S' w' β k pl := by
  cases pl with
  | gone => exact h
  | nil => exact h
  | loc g sz =>
    obtain ⟨⟨us, rest, h1, h2, h3, h4⟩, h5, h6⟩ := h
    obtain ⟨e1, e2⟩ := hg g sz rfl
    exact ⟨⟨us, rest, e1.trans h1, h2, h3, RelAL.mono hs _ _ h4⟩, e2.trans h5, h6⟩

/-- The world has turned in nothing but its draws. -/
theorem Inv.drawn (h : Inv N w0 S0 Hd σ a w β S) {w' : World} (hh : w'.heap = w.heap) (ho : w'.os = w.os) (ht : w'.tape = w.tape) (hp : w'.output = w.output) : Inv N w0 S0 Hd σ a w' β S := by
  have hs : Stab S S w w' := fun g hg => ⟨hg, by rw [hh]⟩
  exact ⟨h.defers.keep fun D _ hS _ => ⟨hS, by rw [hh]⟩, h.size, fun β' hb t => RelA.mono hs _ _ (h.env β' hb t), fun β' hb b k e hl => (h.heap β' hb b k e hl).mono hs (fun g sz _ => ⟨by rw [hh], Iff.rfl⟩), h.inj,
    h.cl.step hs, h.keep, h.new, ⟨ho.trans h.frame.os, ht.trans h.frame.tape, hp.trans h.frame.output, by rw [hh]; exact h.frame.size, fun g hg hn => by rw [hh]; exact h.frame.block g hg hn⟩⟩

theorem Inv.loc_lt (h : Inv N w0 S0 Hd σ a w β S) {b : Nat} {k : Blk} {g sz : Nat} (e : σ.heap b = some k) (hl : k.live = true) (hb : β b = .loc g sz) : g < w.heap.size := by
  have := h.heap β (Agree.refl _ _) b k e hl
  rw [hb] at this
  obtain ⟨⟨us, rest, h1, _⟩, _⟩ := this
  exact (Array.getElem?_eq_some_iff.1 h1).1

/-- New blocks have come, and one that is not spoken of may have turned. -/
theorem Inv.renewD (h : Inv N w0 S0 Hd σ a w β S) {w1 : World} {row : Option Nat} (hg : w.grownBy w1 row)
    (hrow : ∀ g, row = some g → ¬ S g ∧ (∀ b k sz, σ.heap b = some k → k.live = true → β b ≠ .loc g sz) ∧ (w0.heap.size ≤ g ∨ Hdd Hd g)) (hdf : Dfr w0.heap.size S w1 a.defers) : Inv N w0 S0 Hd σ a w1 β S := by
  have hs : Stab S S w w1 := fun g hS => ⟨hS, hg.block g (h.lt g hS) (fun e => (hrow g e.symm).1 hS)⟩
  refine ⟨hdf, h.size, fun β' hb t => RelA.mono hs _ _ (h.env β' hb t), fun β' hb b k e hl => (h.heap β' hb b k e hl).mono hs (fun g sz hgg => ⟨?_, Iff.rfl⟩), h.inj, h.cl.step hs, h.keep, h.new, ?_⟩
  · exact hg.block g (h.loc_lt e hl hgg) (fun er => (hrow g er.symm).2.1 b k sz e hl hgg)
  · refine ⟨hg.os.trans h.frame.os, hg.tape.trans h.frame.tape, hg.output.trans h.frame.output, Nat.le_trans h.frame.size hg.size, fun g hlt hn => ?_⟩
    rw [hg.block g (Nat.lt_of_lt_of_le hlt h.frame.size) (fun e => by
      rcases (hrow g e.symm).2.2 with h6 | h6
      · omega
      · exact hn h6)]
    exact h.frame.block g hlt hn

theorem Inv.renew (h : Inv N w0 S0 Hd σ a w β S) {w1 : World} {row : Option Nat} (hg : w.grownBy w1 row)
    (hrow : ∀ g, row = some g → ¬ S g ∧ (∀ b k sz, σ.heap b = some k → k.live = true → β b ≠ .loc g sz) ∧ (w0.heap.size ≤ g ∨ Hdd Hd g)) (hcl : ∀ g, row = some g → ∃ cs t f, w.heap[g]? = some (.cells cs t f)) : Inv N w0 S0 Hd σ a w1 β S := by
  exact h.renewD hg hrow (h.defers.keep fun D _ hS hD => ⟨hS, hg.block D (Array.getElem?_eq_some_iff.1 hD).1 (fun e => by obtain ⟨cs, t, f, hc⟩ := hcl D e.symm; rw [hD] at hc; cases hc)⟩)

/-- A block is named. -/
theorem Inv.place (h : Inv N w0 S0 Hd σ a w β S) {d : Nat} (hd : σ.heap d = none) (hn : σ.nx ≤ d) {xs : List AV} {us rest : List Value} {ty : TypeId} {g : Nat} (hh : w.heap[g]? = some (.cells (us ++ rest).toArray ty (0, 0)))
    (hS : ¬ S g) (hfree : ∀ b k sz, σ.heap b = some k → k.live = true → β b ≠ .loc g sz) (hB : w0.heap.size ≤ g ∨ Hdd Hd g)
    (hx : ∀ β', Agree σ β β' → RelAL β' S w xs us) (h1 : ∀ u ∈ us, u.oneCell' = true) :
    Inv N w0 S0 Hd { σ with heap := upd σ.heap d (some { cells := xs, ty := ty }) } a w (upd β d (.loc g (us ++ rest).length)) S := by
  have hag : ∀ β', Agree { σ with heap := upd σ.heap d (some { cells := xs, ty := ty }) } (upd β d (.loc g (us ++ rest).length)) β' → Agree σ β β' := fun β' hb b hbn => by
    have hne : b ≠ d := by
      rintro rfl
      rcases hbn with hbn | hbn
      · omega
      · rw [hd] at hbn; simp at hbn
    have := hb b (by
      rcases hbn with hbn | hbn
      · exact .inl hbn
      · right; simp only [upd, if_neg hne]; exact hbn)
    rw [this, upd_ne _ _ _ _ hne]
  refine ⟨h.defers, h.size, fun β' hb t => h.env β' (hag β' hb) t, ?_, ?_, h.cl, h.keep, h.new, h.frame⟩
  · intro β' hb b k e hl
    simp only [upd] at e
    by_cases hbd : b = d
    · subst hbd
      rw [if_pos rfl] at e
      cases e
      rw [upd_same]
      refine ⟨⟨us, rest, hh, rfl, h1, hx β' (hag β' hb)⟩, ?_, hB, fun _ h => by cases h⟩
      constructor
      · intro hS'; exact absurd hS' hS
      · intro hp; cases hp
    · rw [if_neg hbd] at e
      rw [upd_ne _ _ _ _ hbd]
      exact h.heap β' (hag β' hb) b k e hl
  · intro b b' k k' g1 sz sz' e hl e' hl' hb hb'
    simp only [upd] at e e' hb hb'
    by_cases hbd : b = d
    · by_cases hbd' : b' = d
      · rw [hbd, hbd']
      · exfalso
        rw [if_pos hbd] at hb
        rw [if_neg hbd'] at e' hb'
        cases hb
        exact hfree b' k' _ e' hl' hb'
    · by_cases hbd' : b' = d
      · exfalso
        rw [if_pos hbd'] at hb'
        rw [if_neg hbd] at e hb
        cases hb'
        exact hfree b k _ e hl hb
      · rw [if_neg hbd] at e hb
        rw [if_neg hbd'] at e' hb'
        exact h.inj b b' k k' g1 sz sz' e hl e' hl' hb hb'

/-- A nil slice is named as a block without cells. -/
theorem Inv.placeNil (h : Inv N w0 S0 Hd σ a w β S) {d : Nat} (hd : σ.heap d = none) (hn : σ.nx ≤ d) (ty : TypeId) :
    Inv N w0 S0 Hd { σ with heap := upd σ.heap d (some { cells := [], ty := ty }) } a w (upd β d .nil) S := by
  have hag : ∀ β', Agree { σ with heap := upd σ.heap d (some { cells := [], ty := ty }) } (upd β d .nil) β' → Agree σ β β' := fun β' hb b hbn => by
    have hne : b ≠ d := by
      rintro rfl
      rcases hbn with hbn | hbn
      · omega
      · rw [hd] at hbn; simp at hbn
    have := hb b (by
      rcases hbn with hbn | hbn
      · exact .inl hbn
      · right; simp only [upd, if_neg hne]; exact hbn)
    rw [this, upd_ne _ _ _ _ hne]
  refine ⟨h.defers, h.size, fun β' hb t => h.env β' (hag β' hb) t, ?_, ?_, h.cl, h.keep, h.new, h.frame⟩
  · intro β' hb b k e hl
    simp only [upd] at e
    by_cases hbd : b = d
    · subst hbd
      rw [if_pos rfl] at e
      cases e
      rw [upd_same]
      exact rfl
    · rw [if_neg hbd] at e
      rw [upd_ne _ _ _ _ hbd]
      exact h.heap β' (hag β' hb) b k e hl
  · intro b b' k k' g1 sz sz' e hl e' hl' hb hb'
    simp only [upd] at e e' hb hb'
    by_cases hbd : b = d
    · rw [if_pos hbd] at hb; cases hb
    · by_cases hbd' : b' = d
      · rw [if_pos hbd'] at hb'; cases hb'
      · rw [if_neg hbd] at e hb
        rw [if_neg hbd'] at e' hb'
        exact h.inj b b' k k' g1 sz sz' e hl e' hl' hb hb'

/-- A new block. -/
theorem Inv.alloc (h : Inv N w0 S0 Hd σ a w β S) {d : Nat} (hd : σ.heap d = none) (hn : σ.nx ≤ d) {xs : List AV} {us rest : List Value} {ty : TypeId}
    (hx : ∀ β', Agree σ β β' → RelAL β' S w xs us) (h1 : ∀ u ∈ us, u.oneCell' = true) :
    Inv N w0 S0 Hd { σ with heap := upd σ.heap d (some { cells := xs, ty := ty }) } a (w.alloc (.cells (us ++ rest).toArray ty)) (upd β d (.loc w.heap.size (us ++ rest).length)) S := by
  have hg := World.grownBy_alloc w (.cells (us ++ rest).toArray ty) none
  have h2 := h.renew hg (by simp) (by simp)
  have hs : Stab S S w (w.alloc (.cells (us ++ rest).toArray ty)) := fun g hS => ⟨hS, hg.block g (h.lt g hS) (by simp)⟩
  refine h2.place hd hn (heap_alloc_new _ _) (fun hS => by have := h.lt _ hS; omega) (fun b k sz e hl hb => by have := h.loc_lt e hl hb; omega) (.inl h.frame.size) (fun β' hb => RelAL.mono hs _ _ (hx β' hb)) h1

/-- One block of the call's own has turned. -/
theorem Inv.turn (h : Inv N w0 S0 Hd σ a w β S) {b : Nat} {k : Blk} (hb : σ.heap b = some k) (hl : k.live = true) (hp : k.pub = false) {g sz : Nat} (hg : β b = .loc g sz) {xs : List AV} {us rest : List Value} {w' : World}
    (h1 : w'.heap[g]? = some (.cells (us ++ rest).toArray k.ty (0, 0))) (h2 : (us ++ rest).length = sz) (h3 : ∀ u ∈ us, u.oneCell' = true) (hx : ∀ β', Agree σ β β' → RelAL β' S w xs us)
    (ho : ∀ g', g' ≠ g → w'.heap[g']? = w.heap[g']?) (hz : w'.heap.size = w.heap.size) (hos : w'.os = w.os) (ht : w'.tape = w.tape) (hpu : w'.output = w.output) :
    Inv N w0 S0 Hd { σ with heap := upd σ.heap b (some { k with cells := xs }) } a w' β S := by
  have hk := h.heap β (Agree.refl _ _) b k hb hl
  rw [hg] at hk
  obtain ⟨⟨us0, rest0, k1, k2, k3, k4⟩, k5, k6⟩ := hk
  have hng : ¬ S g := fun hS => by rw [k5.1 hS] at hp; cases hp
  have hs : Stab S S w w' := fun g' hg' => ⟨hg', ho g' (by rintro rfl; exact hng hg')⟩
  have hag : ∀ β', Agree { σ with heap := upd σ.heap b (some { k with cells := xs }) } β β' → Agree σ β β' := fun β' hb' c hc => hb' c (by
    rcases hc with hc | hc
    · exact .inl hc
    · right
      simp only [upd]
      split
      · rfl
      · exact hc)
  refine ⟨h.defers.keep fun D _ hS hD => ⟨hS, ho D (fun e => by subst e; rw [k1] at hD; cases hD)⟩, h.size, fun β' hb' t => RelA.mono hs _ _ (h.env β' (hag β' hb') t), ?_, ?_, h.cl.step hs, h.keep, h.new, ?_⟩
  · intro β' hb' c k' e hl'
    simp only [upd] at e
    by_cases hcb : c = b
    · subst hcb
      rw [if_pos rfl] at e
      cases e
      rw [hg]
      exact ⟨⟨us, rest, h1, h2, h3, RelAL.mono hs _ _ (hx β' (hag β' hb'))⟩, k5, k6⟩
    · rw [if_neg hcb] at e
      refine (h.heap β' (hag β' hb') c k' e hl').mono hs (fun g' sz' hg' => ⟨ho g' ?_, Iff.rfl⟩)
      rintro rfl
      exact hcb (h.inj c b k' k _ _ _ e hl' hb hl hg' hg)
  · intro c c' k1 k2 g' s s' e hl1 e' hl2 hc hc'
    have key : ∀ c k1, upd σ.heap b (some { k with cells := xs }) c = some k1 → k1.live = true → ∃ k0, σ.heap c = some k0 ∧ k0.live = true := by
      intro c k1 e hl1
      simp only [upd] at e
      split at e
      · rename_i hcb; exact ⟨k, by rw [hcb]; exact hb, hl⟩
      · exact ⟨k1, e, hl1⟩
    obtain ⟨j1, e1, l1⟩ := key c k1 e hl1
    obtain ⟨j2, e2, l2⟩ := key c' k2 e' hl2
    exact h.inj c c' j1 j2 g' s s' e1 l1 e2 l2 hc hc'
  · exact ⟨hos.trans h.frame.os, ht.trans h.frame.tape, hpu.trans h.frame.output, by rw [hz]; exact h.frame.size, fun g' hg' hn => by
      rw [ho g' (by
        rintro rfl
        rcases k6 with k6 | k6
        · omega
        · exact hn k6)]
      exact h.frame.block g' hg' hn⟩

/-- A block is handed out. -/
theorem Inv.publish (h : Inv N w0 S0 Hd σ a w β S) {b : Nat} {k : Blk} (hb : σ.heap b = some k) (hl : k.live = true) :
    ∃ S', Inv N w0 S0 Hd { σ with heap := upd σ.heap b (some { k with pub := true }) } a w β S' ∧ (∀ g, S g → S' g) ∧ (∀ g sz, β b = .loc g sz → S' g) := by
  have hag : ∀ β', Agree { σ with heap := upd σ.heap b (some { k with pub := true }) } β β' → Agree σ β β' := fun β' hb' c hc => hb' c (by
    rcases hc with hc | hc
    · exact .inl hc
    · right
      simp only [upd]
      split
      · rfl
      · exact hc)
  have hk := h.heap β (Agree.refl _ _) b k hb hl
  let S' : Nat → Prop := fun g => S g ∨ ∃ sz, β b = .loc g sz
  have hs : Stab S S' w w := fun g hg => ⟨.inl hg, rfl⟩
  refine ⟨S', ⟨h.defers.keep fun D _ hS hD => ⟨fun h' => by
      rcases h' with h' | ⟨sz, h'⟩
      · exact hS h'
      · rw [h'] at hk
        obtain ⟨⟨us, rest, j1, _⟩, _⟩ := hk
        rw [hD] at j1
        injection j1 with j1
        injection j1, rfl⟩, h.size, fun β' hb' t => RelA.mono hs _ _ (h.env β' (hag β' hb') t), ?_, ?_, ?_, fun g hg => .inl (h.keep g hg), ?_, h.frame⟩, fun g hg => .inl hg, fun g sz hg => .inr ⟨sz, hg⟩⟩
  · intro β' hb' c k' e hl'
    simp only [upd] at e
    by_cases hcb : c = b
    · subst hcb
      rw [if_pos rfl] at e
      cases e
      have hk' := h.heap β' (hag β' hb') c k hb hl
      cases hpl : β c with
      | gone => rw [hpl] at hk'; exact hk'
      | nil => rw [hpl] at hk'; exact hk'
      | loc g sz =>
        rw [hpl] at hk'
        obtain ⟨⟨us, rest, j1, j2, j3, j4⟩, j5, j6⟩ := hk'
        exact ⟨⟨us, rest, j1, j2, j3, RelAL.mono hs _ _ j4⟩, ⟨fun _ => rfl, fun _ => .inr ⟨sz, hpl⟩⟩, j6⟩
    · rw [if_neg hcb] at e
      refine (h.heap β' (hag β' hb') c k' e hl').mono hs (fun g sz hg => ⟨rfl, ?_⟩)
      constructor
      · rintro (hS | ⟨sz', hS⟩)
        · exact hS
        · exact absurd (h.inj c b k' k _ _ _ e hl' hb hl hg hS) hcb
      · exact .inl
  · intro c c' k1 k2 g' s s' e hl1 e' hl2 hc hc'
    have key : ∀ c k1, upd σ.heap b (some { k with pub := true }) c = some k1 → k1.live = true → ∃ k0, σ.heap c = some k0 ∧ k0.live = true := by
      intro c k1 e hl1
      simp only [upd] at e
      split at e
      · rename_i hcb; exact ⟨k, by rw [hcb]; exact hb, hl⟩
      · exact ⟨k1, e, hl1⟩
    obtain ⟨j1, e1, l1⟩ := key c k1 e hl1
    obtain ⟨j2, e2, l2⟩ := key c' k2 e' hl2
    exact h.inj c c' j1 j2 g' s s' e1 l1 e2 l2 hc hc'
  · refine ⟨?_, h.cl.gl.mono (fun g hg => ⟨.inl hg, rfl⟩)⟩
    rintro g (hg | ⟨sz, hg⟩)
    · exact h.cl g hg
    · rw [hg] at hk
      obtain ⟨⟨us, rest, j1, _⟩, _⟩ := hk
      exact ⟨_, _, _, j1⟩
  · rintro g (hg | ⟨sz, hg⟩)
    · exact h.new g hg
    · rw [hg] at hk
      obtain ⟨_, _, j6⟩ := hk
      exact .inr j6.1

/-- A block is no longer spoken of. -/
theorem Inv.kill (h : Inv N w0 S0 Hd σ a w β S) (b : Nat) (k : Blk) :
    Inv N w0 S0 Hd { σ with heap := upd σ.heap b (some { k with live := false }) } a w β S := by
  have hag : ∀ β', Agree { σ with heap := upd σ.heap b (some { k with live := false }) } β β' → Agree σ β β' := fun β' hb' c hc => hb' c (by
    rcases hc with hc | hc
    · exact .inl hc
    · right
      simp only [upd]
      split
      · rfl
      · exact hc)
  have key : ∀ c k1, upd σ.heap b (some { k with live := false }) c = some k1 → k1.live = true → σ.heap c = some k1 := by
    intro c k1 e hl1
    simp only [upd] at e
    split at e
    · cases e; cases hl1
    · exact e
  exact ⟨h.defers, h.size, fun β' hb' t => h.env β' (hag β' hb') t, fun β' hb' c k' e hl' => h.heap β' (hag β' hb') c k' (key c k' e hl') hl',
    fun c c' k1 k2 g' s s' e hl1 e' hl2 hc hc' => h.inj c c' k1 k2 g' s s' (key c k1 e hl1) hl1 (key c' k2 e' hl2) hl2 hc hc', h.cl, h.keep, h.new, h.frame⟩
end

end Vou
end

section
set_option linter.unusedVariables false
set_option linter.unusedSimpArgs false
/- What an operation yields, told of values without addresses. -/
namespace Vou
open Go Go.RowKit

/-- What the program's table tells of a type: its form, the number of its cells, its bytes, its zero value. -/
def tyOf (P : Program) (t : TypeId) : Option (TypeDesc × Nat × Nat × Option Value) :=
  match P.underlying t, P.info? t with
  | some d, some i => some (d, i.size, i.bytes, i.zero)
  | _, _ => none

theorem tyOf_spec {P : Program} {t : TypeId} {d : TypeDesc} {sz by_ : Nat} {z : Option Value} (h : tyOf P t = some (d, sz, by_, z)) :
    P.underlying t = some d ∧ ∃ i, P.info? t = some i ∧ i.size = sz ∧ i.bytes = by_ ∧ i.zero = z := by
  unfold tyOf at h
  split at h
  · rename_i d' i h1 h2
    simp only [Option.some.injEq, Prod.mk.injEq] at h
    obtain ⟨rfl, rfl, rfl, rfl⟩ := h
    exact ⟨h1, i, h2, rfl, rfl, rfl⟩
  · cases h

def isAggD : TypeDesc → Bool
  | .struct _ | .array _ _ => true
  | _ => false

/-- A constant as a value without addresses. -/
def ofV : Value → AV
  | .agg cs => .agg (cs.toList.map fun c => .p (.v c))
  | v => .p (.v v)

theorem RelAL.vals (β : Nat → Pl) (S : Nat → Prop) (w : World) : ∀ l : List Value, RelAL β S w (l.map fun c => AV.p (.v c)) l
  | [] => rfl
  | c :: l => ⟨c, l, rfl, rfl, RelAL.vals β S w l⟩

theorem ofV_rel (β : Nat → Pl) (S : Nat → Prop) (w : World) (v : Value) : RelA β S w (ofV v) v := by
  cases v with
  | agg cs => exact ⟨cs.toList, by simp, RelAL.vals β S w _⟩
  | _ => rfl

def ASt.look (σ : ASt) : Operand → AV
  | .tmp t => σ.env t
  | .const v => ofV v
  | .func f => .fn f []
  | .global _ => .p .any

section
variable {N : Nat} {w0 : World} {S0 : Nat → Prop} {Hd : Nat → Nat → Nat → Prop} {σ : ASt} {a : Act} {w : World} {β : Nat → Pl} {S : Nat → Prop}

theorem Inv.look (h : Inv N w0 S0 Hd σ a w β S) (x : Operand) (β' : Nat → Pl) (hb : Agree σ β β') : RelA β' S w (σ.look x) (a.eval x) := by
  cases x with
  | tmp t => exact h.env β' hb t
  | const v => exact ofV_rel _ _ _ v
  | func f => exact ⟨[], rfl, rfl⟩
  | global g => trivial
end

/-- The cells of a value. -/
def AV.cells : AV → List AV
  | .agg xs => xs
  | .p (.agg xs) => xs.map AV.p
  | x => [x]

/-- A value that is surely one cell. -/
def AV.one : AV → Bool
  | .p (.v x) => x.oneCell'
  | .p (.sl _ _) => true
  | .p (.cp _) => true
  | .own .. | .ptr .. | .fn .. => true
  | _ => false

theorem AV.one_rel {β : Nat → Pl} {S : Nat → Prop} {w : World} {x : AV} {u : Value} (h : RelA β S w x u) (h1 : x.one = true) : u.oneCell' = true := by
  cases x with
  | p y =>
    cases y with
    | v z => cases h; exact h1
    | sl c es => obtain ⟨A, c, rfl, _⟩ := h; rfl
    | cp xs => obtain ⟨b, o, rfl, _⟩ := h; rfl
    | _ => cases h1
  | own full k b o n =>
    simp only [RelA] at h
    split at h
    · exact h
    · rw [h.1]; rfl
    · obtain ⟨c, rfl, _⟩ := h; rfl
  | ptr b o =>
    simp only [RelA] at h
    split at h
    · exact h
    · exact h.elim
    · rw [h]; rfl
  | fn f caps => obtain ⟨us, rfl, _⟩ := h; rfl
  | _ => cases h1

theorem oneCell'_cells {u : Value} (h : u.oneCell' = true) : u.cells = #[u] := by
  cases u <;> first | rfl | cases h

/-- The cells of what stands for a value stand for its cells. -/
theorem AV.cells_rel {β : Nat → Pl} {S : Nat → Prop} {w : World} {x : AV} {u : Value} (h : RelA β S w x u) (h1 : x.cells.all AV.one = true) :
    RelAL β S w x.cells u.cells.toList ∧ ∀ v ∈ u.cells.toList, v.oneCell' = true := by
  have key : ∀ (xs : List AV) (us : List Value), RelAL β S w xs us → xs.all AV.one = true → ∀ v ∈ us, v.oneCell' = true := by
    intro xs
    induction xs with
    | nil => intro us hu _ v hv; cases hu; cases hv
    | cons y ys ih =>
      rintro _ ⟨u, us', rfl, h1, h2⟩ hall v hv
      simp only [List.all_cons, Bool.and_eq_true] at hall
      rcases List.mem_cons.1 hv with rfl | hv
      · exact AV.one_rel h1 hall.1
      · exact ih us' h2 hall.2 v hv
  have hR : RelAL β S w x.cells u.cells.toList := by
    cases x with
    | agg xs =>
      obtain ⟨us, rfl, hl⟩ := h
      simpa [Value.cells, AV.cells] using hl
    | p y =>
      cases y with
      | agg xs =>
        obtain ⟨us, rfl, hl⟩ := h
        simpa [Value.cells, AV.cells] using RelAL.of_RelL hl
      | any => simp [AV.cells, AV.one] at h1
      | v z =>
        simp only [AV.cells, List.all_cons, List.all_nil, Bool.and_true] at h1 ⊢
        rw [oneCell'_cells (AV.one_rel h h1)]
        exact ⟨u, [], rfl, h, rfl⟩
      | sl c es =>
        simp only [AV.cells, List.all_cons, List.all_nil, Bool.and_true] at h1 ⊢
        rw [oneCell'_cells (AV.one_rel h h1)]
        exact ⟨u, [], rfl, h, rfl⟩
      | cp xs =>
        simp only [AV.cells, List.all_cons, List.all_nil, Bool.and_true] at h1 ⊢
        rw [oneCell'_cells (AV.one_rel h h1)]
        exact ⟨u, [], rfl, h, rfl⟩
      | tup xs => simp [AV.cells, AV.one] at h1
    | tup xs => simp [AV.cells, AV.one] at h1
    | own full k b o n =>
      rw [oneCell'_cells (AV.one_rel h rfl)]
      exact ⟨u, [], rfl, h, rfl⟩
    | ptr b o =>
      rw [oneCell'_cells (AV.one_rel h rfl)]
      exact ⟨u, [], rfl, h, rfl⟩
    | fn f caps =>
      rw [oneCell'_cells (AV.one_rel h rfl)]
      exact ⟨u, [], rfl, h, rfl⟩
  exact ⟨hR, key _ _ hR h1⟩

/-! ### Operations on numbers, truths and texts -/

def aBin (op : BinOp) : Value → Value → Option Value
  | .int k a, .int k' b => if k = k' then
      match op with
      | .add => some (.int k (k.wrap (a + b)))
      | .sub => some (.int k (k.wrap (a - b)))
      | .mul => some (.int k (k.wrap (a * b)))
      | .quo => if b = 0 then none else some (.int k (k.wrap (a.tdiv b)))
      | .rem => if b = 0 then none else some (.int k (a.tmod b))
      | .eql => some (.bool (a == b))
      | .neq => some (.bool (a != b))
      | .lss => some (.bool (a < b))
      | .leq => some (.bool (a ≤ b))
      | .gtr => some (.bool (a > b))
      | .geq => some (.bool (a ≥ b))
      | _ => none
    else none
  | .bool a, .bool b =>
      match op with
      | .eql => some (.bool (a == b))
      | .neq => some (.bool (a != b))
      | _ => none
  | .string a, .string b =>
      match op with
      | .add => if ((a.size + b.size : Nat) : Int) > IntKind.i64.max then none else some (.string (a ++ b))
      | .eql => some (.bool (a.toList == b.toList))
      | .neq => some (.bool !(a.toList == b.toList))
      | _ => none
  | _, _ => none

theorem aBin_int {P : Program} {op : BinOp} {t : TypeId} {k : IntKind} {a b : Int} {r : Value} (h : aBin op (.int k a) (.int k b) = some r) (w : World) : (binOp op t (.int k a) (.int k b)).run P w = .ok r w := by
  cases op <;> simp only [aBin, if_true] at h <;> simp [binOp, Op.intArith, Op.intDiv, Op.intCmp] <;>
    first
    | (cases h; done)
    | (cases h; rfl)
    | (split at h
       · cases h
       · cases h; rename_i hb; simp [hb])

end Vou
end

section
set_option linter.unusedVariables false
set_option linter.unusedSimpArgs false
/- What operations yield that leave memory as it is: one law for each. -/
namespace Vou
open Go Go.RowKit

/-- In every state of the machine that σ stands for, the operation yields a value that x stands for, and turns nothing. -/
def Yl (P : Program) (N : Nat) (o : Oper) (σ : ASt) (x : AV) : Prop :=
  ∀ w0 S0 Hd a w β S, Inv N w0 S0 Hd σ a w β S → ∃ u, (execOp a.eval o).run P w = .ok (.value u) w ∧ ∀ β', Agree σ β β' → RelA β' S w x u

section
variable {P : Program} {N : Nat} {o : Oper} {σ : ASt}

theorem yl_move {x : Operand} (ho : o.op = .move x) : Yl P N o σ (σ.look x) := fun w0 S0 Hd a w β S h =>
  ⟨a.eval x, by unfold execOp; simp [ho], h.look x⟩

theorem yl_assign {x : Operand} (ho : o.op = .assign x) : Yl P N o σ (σ.look x) := fun w0 S0 Hd a w β S h =>
  ⟨a.eval x, by unfold execOp; simp [ho], h.look x⟩

theorem yl_pick {c x y : Operand} (ho : o.op = .pick c x y) {t : Bool} (hc : σ.look c = .p (.v (.bool t))) : Yl P N o σ (if t then σ.look x else σ.look y) := fun w0 S0 Hd a w β S h => by
  have h1 := h.look c β (Agree.refl _ _)
  rw [hc] at h1
  have h1 : a.eval c = .bool t := h1
  refine ⟨if t then a.eval x else a.eval y, by unfold execOp; simp [ho, h1, asBool], fun β' hb => ?_⟩
  cases t
  · exact h.look y β' hb
  · exact h.look x β' hb

/-- What a pointer into a block of the call's own leads to. -/
theorem Inv.at_ptr {w0 : World} {S0 : Nat → Prop} {Hd : Nat → Nat → Nat → Prop} {a : Act} {w : World} {β : Nat → Pl} {S : Nat → Prop} (h : Inv N w0 S0 Hd σ a w β S) {b off : Nat} {k : Blk} {u : Value} (hu : RelA β S w (.ptr b off) u)
    (hb : σ.heap b = some k) (hl : k.live = true) :
    ∃ g sz us rest, β b = .loc g sz ∧ u = .pointer (some ⟨g, off, none⟩) ∧ w.heap[g]? = some (.cells (us ++ rest).toArray k.ty (0, 0)) ∧ (us ++ rest).length = sz ∧ (∀ v ∈ us, v.oneCell' = true) ∧
      RelAL β S w k.cells us ∧ (S g ↔ k.pub = true) ∧ (w0.heap.size ≤ g ∨ Hdd Hd g) := by
  have hk := h.heap β (Agree.refl _ _) b k hb hl
  simp only [RelA] at hu
  cases hpl : β b with
  | gone => rw [hpl] at hk; exact hk.elim
  | nil => rw [hpl] at hu; exact hu.elim
  | loc g sz =>
    rw [hpl] at hk hu
    obtain ⟨⟨us, rest, h1, h2, h3, h4⟩, h5, h6⟩ := hk
    exact ⟨g, sz, us, rest, rfl, hu, h1, h2, h3, h4, h5, h6.1⟩

/-- The same cells, whatever is placed where beyond what is named. -/
theorem Inv.cells_at {w0 : World} {S0 : Nat → Prop} {Hd : Nat → Nat → Nat → Prop} {a : Act} {w : World} {β : Nat → Pl} {S : Nat → Prop} (h : Inv N w0 S0 Hd σ a w β S) {b : Nat} {k : Blk} (hb : σ.heap b = some k) (hl : k.live = true) {g sz : Nat} (hg : β b = .loc g sz)
    {us rest : List Value} (h1 : w.heap[g]? = some (.cells (us ++ rest).toArray k.ty (0, 0))) (hlen : us.length = k.cells.length) {β' : Nat → Pl} (hβ : Agree σ β β') : RelAL β' S w k.cells us := by
  have hk := h.heap β' hβ b k hb hl
  rw [hg] at hk
  obtain ⟨⟨us', rest', h1', h2', h3', h4'⟩, _⟩ := hk
  rw [h1] at h1'
  have e : us ++ rest = us' ++ rest' := by
    injection h1' with h1'
    injection h1' with h1'
    simpa using congrArg Array.toList h1'
  have hl' : us'.length = k.cells.length := h4'.length
  have : us = us' := by
    have := congrArg (List.take k.cells.length) e
    rwa [List.take_append_of_le_length (by omega), List.take_of_length_le (by omega), List.take_append_of_le_length (by omega), List.take_of_length_le (by omega)] at this
  rw [this]; exact h4'

theorem isAgg_run {t : TypeId} {d : TypeDesc} (h : P.underlying t = some d) (w : World) : (isAgg t).run P w = .ok (isAggD d) w := by
  unfold isAgg
  rw [Sem.run_bind, run_underlying h w]
  cases d <;> simp [isAggD]

theorem cell_of_list {w : World} {g : Nat} {l : List Value} {ty : TypeId} {fr : Nat × Nat} (h : w.heap[g]? = some (.cells l.toArray ty fr)) (j : Nat) : w.cell? ⟨g, j, none⟩ = l[j]? := by
  simp [World.cell?, h]

theorem yl_load_agg {t : TypeId} {x : Operand} (ho : o.op = .load t x) {b off : Nat} (hx : σ.look x = .ptr b off) {k : Blk} (hb : σ.heap b = some k) (hl : k.live = true)
    {d : TypeDesc} {sz by_ : Nat} {z : Option Value} (ht : tyOf P t = some (d, sz, by_, z)) (hd : isAggD d = true) (hlen : off + sz ≤ k.cells.length) :
    Yl P N o σ (.agg ((k.cells.drop off).take sz)) := fun w0 S0 Hd a w β S h => by
  obtain ⟨hu, i, hi, hs, _⟩ := tyOf_spec ht
  have h1 := h.look x β (Agree.refl _ _)
  rw [hx] at h1
  obtain ⟨g, szb, us, rest, hg, he, hh, hsz, h1c, hR, _⟩ := h.at_ptr h1 hb hl
  have hul : us.length = k.cells.length := hR.length
  have hload : (loadCells ⟨g, off, none⟩ sz).run P w = .ok ((us.drop off).take sz).toArray w := by
    have := run_loadCells_list (P := P) w ⟨g, off, none⟩ ((us.drop off).take sz) (fun j v hv => by
      rw [Addr.add_lit, cell_of_list hh]
      rw [List.getElem?_take, List.getElem?_drop] at hv
      split at hv
      · rename_i hj
        rw [List.getElem?_append_left (by omega)]; exact hv
      · cases hv)
    rwa [List.length_take, List.length_drop, Nat.min_eq_left (by omega)] at this
  refine ⟨.agg ((us.drop off).take sz).toArray, ?_, fun β' hb' => ?_⟩
  · unfold execOp
    simp only [ho, he, Instr.loadAt, Instr.sureAddr, Sem.run_bind, Sem.run_pure, Result.andThen_ok, loadVar, isAgg_run hu, hd, if_true, Go.sizeOf, typeInfo]
    simp [hi, hs, hload]
  · exact ⟨_, rfl, ((h.cells_at hb hl hg hh hul hb').drop off).take sz⟩

theorem yl_load_one {t : TypeId} {x : Operand} (ho : o.op = .load t x) {b off : Nat} (hx : σ.look x = .ptr b off) {k : Blk} (hb : σ.heap b = some k) (hl : k.live = true)
    {d : TypeDesc} {sz by_ : Nat} {z : Option Value} (ht : tyOf P t = some (d, sz, by_, z)) (hd : isAggD d = false) {y : AV} (hy : k.cells[off]? = some y) :
    Yl P N o σ y := fun w0 S0 Hd a w β S h => by
  obtain ⟨hu, i, hi, hs, _⟩ := tyOf_spec ht
  have h1 := h.look x β (Agree.refl _ _)
  rw [hx] at h1
  obtain ⟨g, szb, us, rest, hg, he, hh, hsz, h1c, hR, _⟩ := h.at_ptr h1 hb hl
  have hul : us.length = k.cells.length := hR.length
  obtain ⟨u, hu1, _⟩ := hR.get off y hy
  have hlt : off < us.length := (List.getElem?_eq_some_iff.1 hu1).1
  have hc : w.cell? ⟨g, off, none⟩ = some u := by
    rw [cell_of_list hh, List.getElem?_append_left hlt]; exact hu1
  refine ⟨u, ?_, fun β' hb' => ?_⟩
  · unfold execOp
    simp only [ho, he, Instr.loadAt, Instr.sureAddr, Sem.run_bind, Sem.run_pure, Result.andThen_ok, loadVar, isAgg_run hu, hd]
    simp [run_load, hc]
  · obtain ⟨u', hu', hr⟩ := (h.cells_at hb hl hg hh hul hb').get off y hy
    rw [hu1] at hu'
    cases hu'
    exact hr

theorem yl_load_cp_agg {t : TypeId} {x : Operand} (ho : o.op = .load t x) {xs : List PV} (hx : σ.look x = .p (.cp xs))
    {d : TypeDesc} {by_ : Nat} {sz : Nat} {z : Option Value} (ht : tyOf P t = some (d, sz, by_, z)) (hd : isAggD d = true) (hlen : xs.length = sz) :
    Yl P N o σ (.p (.agg xs)) := fun w0 S0 Hd a w β S h => by
  obtain ⟨hu, i, hi, hs, _⟩ := tyOf_spec ht
  have h1 := h.look x β (Agree.refl _ _)
  rw [hx] at h1
  obtain ⟨b, off, he, hS, hC⟩ := h1
  have key : ∀ (xs : List PV) (off : Nat), RelC S w xs b off → ∃ us : List Value, RelL S w xs us ∧ ∀ j v, us[j]? = some v → w.cell? ⟨b, off + j, none⟩ = some v := by
    intro xs
    induction xs with
    | nil => intro off _; exact ⟨[], rfl, fun j v hv => by simp at hv⟩
    | cons y ys ih =>
      rintro off ⟨⟨u, h1, _, h2⟩, h3⟩
      obtain ⟨us, h4, h5⟩ := ih (off + 1) h3
      refine ⟨u :: us, ⟨u, us, rfl, h2, h4⟩, fun j v hv => ?_⟩
      cases j with
      | zero => simp at hv; subst hv; exact h1
      | succ j => simp at hv; have := h5 j v hv; rwa [show off + 1 + j = off + (j + 1) by omega] at this
  obtain ⟨us, hL, hcell⟩ := key xs off hC
  have hul : us.length = sz := by rw [hL.length, hlen]
  have hload : (loadCells ⟨b, off, none⟩ sz).run P w = .ok us.toArray w := by
    have := run_loadCells_list (P := P) w ⟨b, off, none⟩ us (fun j v hv => by rw [Addr.add_lit]; exact hcell j v hv)
    rwa [hul] at this
  refine ⟨.agg us.toArray, ?_, fun β' hb' => ⟨us, rfl, hL⟩⟩
  unfold execOp
  simp only [ho, he, Instr.loadAt, Instr.sureAddr, Sem.run_bind, Sem.run_pure, Result.andThen_ok, loadVar, isAgg_run hu, hd, if_true, Go.sizeOf, typeInfo]
  simp [hi, hs, hload]

theorem yl_load_cp_one {t : TypeId} {x : Operand} (ho : o.op = .load t x) {y : PV} {xs : List PV} (hx : σ.look x = .p (.cp (y :: xs)))
    {d : TypeDesc} {sz by_ : Nat} {z : Option Value} (ht : tyOf P t = some (d, sz, by_, z)) (hd : isAggD d = false) :
    Yl P N o σ (.p y) := fun w0 S0 Hd a w β S h => by
  obtain ⟨hu, i, hi, hs, _⟩ := tyOf_spec ht
  have h1 := h.look x β (Agree.refl _ _)
  rw [hx] at h1
  obtain ⟨b, off, he, hS, ⟨⟨u, hc, _, hr⟩, _⟩⟩ := h1
  refine ⟨u, ?_, fun β' hb' => hr⟩
  unfold execOp
  simp only [ho, he, Instr.loadAt, Instr.sureAddr, Sem.run_bind, Sem.run_pure, Result.andThen_ok, loadVar, isAgg_run hu, hd]
  simp [run_load, hc]

theorem yl_field {t : TypeId} {x : Operand} {f : Nat} (ho : o.op = .fieldAddr t x f) {b off : Nat} (hx : σ.look x = .ptr b off) {k : Blk} (hb : σ.heap b = some k) (hl : k.live = true)
    {fields : Array Field} {r : Nat × Nat × Option Value} (ht : tyOf P t = some (.struct fields, r)) {fd : Field} (hf : fields[f]? = some fd) {d' : TypeDesc} {sz' : Nat} {r' : Nat × Option Value} (ht' : tyOf P fd.type = some (d', sz', r')) (hz : sz' ≠ 0) :
    Yl P N o σ (.ptr b (off + fd.offset)) := fun w0 S0 Hd a w β S h => by
  obtain ⟨hu, _⟩ := tyOf_spec ht
  obtain ⟨_, i, hi, hs, _⟩ := tyOf_spec ht'
  have h1 := h.look x β (Agree.refl _ _)
  rw [hx] at h1
  obtain ⟨g, szb, us, rest, hg, he, hh, hsz, h1c, hR, _⟩ := h.at_ptr h1 hb hl
  refine ⟨.pointer (some ⟨g, off + fd.offset, none⟩), ?_, fun β' hb' => ?_⟩
  · unfold execOp
    simp only [ho, he, Instr.fieldAt, Sem.run_bind, run_underlying hu, Result.andThen_ok, hf, Instr.sureAddr, Sem.run_pure, fieldPlace, Go.sizeOf, typeInfo]
    simp [hi, hs, hz, Addr.add_lit]
  · have e : β' b = β b := hb' b (.inr (by rw [hb]; rfl))
    simp [RelA, e, hg]

theorem RelC.drop {S : Nat → Prop} {w : World} {b : Nat} : ∀ (n : Nat) (xs : List PV) (off : Nat), RelC S w xs b off → RelC S w (xs.drop n) b (off + n)
  | 0, _, _, h => h
  | n + 1, [], _, _ => by simp [RelC]
  | n + 1, x :: xs, off, h => by
    have := RelC.drop n xs (off + 1) h.2
    rwa [show off + 1 + n = off + (n + 1) by omega] at this

theorem yl_field_cp {t : TypeId} {x : Operand} {f : Nat} (ho : o.op = .fieldAddr t x f) {xs : List PV} (hx : σ.look x = .p (.cp xs))
    {fields : Array Field} {r : Nat × Nat × Option Value} (ht : tyOf P t = some (.struct fields, r)) {fd : Field} (hf : fields[f]? = some fd) {d' : TypeDesc} {sz' : Nat} {r' : Nat × Option Value} (ht' : tyOf P fd.type = some (d', sz', r')) (hz : sz' ≠ 0) :
    Yl P N o σ (.p (.cp ((xs.drop fd.offset).take sz'))) := fun w0 S0 Hd a w β S h => by
  obtain ⟨hu, _⟩ := tyOf_spec ht
  obtain ⟨_, i, hi, hs, _⟩ := tyOf_spec ht'
  have h1 := h.look x β (Agree.refl _ _)
  rw [hx] at h1
  obtain ⟨b, off, he, hS, hC⟩ := h1
  have take : ∀ (n : Nat) (xs : List PV) (off : Nat), RelC S w xs b off → RelC S w (xs.take n) b off := by
    intro n
    induction n with
    | zero => intro xs off _; simp [RelC]
    | succ n ih =>
      intro xs off hx
      cases xs with
      | nil => simp [RelC]
      | cons y ys => exact ⟨hx.1, ih ys (off + 1) hx.2⟩
  refine ⟨.pointer (some ⟨b, off + fd.offset, none⟩), ?_, fun β' hb' => ⟨b, off + fd.offset, rfl, hS, take _ _ _ (RelC.drop _ _ _ hC)⟩⟩
  unfold execOp
  simp only [ho, he, Instr.fieldAt, Sem.run_bind, run_underlying hu, Result.andThen_ok, hf, Instr.sureAddr, Sem.run_pure, fieldPlace, Go.sizeOf, typeInfo]
  simp [hi, hs, hz, Addr.add_lit]

theorem yl_nilCheck {x : Operand} (ho : o.op = .nilCheck x) {b off : Nat} (hx : σ.look x = .ptr b off) {k : Blk} (hb : σ.heap b = some k) (hl : k.live = true) : Yl P N o σ (.ptr b off) := fun w0 S0 Hd a w β S h => by
  have h1 := h.look x β (Agree.refl _ _)
  rw [hx] at h1
  obtain ⟨g, szb, us, rest, hg, he, _⟩ := h.at_ptr h1 hb hl
  refine ⟨.pointer (some ⟨g, off, none⟩), ?_, fun β' hb' => ?_⟩
  · unfold execOp
    simp [ho, he]
  · have e : β' b = β b := hb' b (.inr (by rw [hb]; rfl))
    simp [RelA, e, hg]

theorem yl_nilCheck_cp {x : Operand} (ho : o.op = .nilCheck x) {xs : List PV} (hx : σ.look x = .p (.cp xs)) : Yl P N o σ (.p (.cp xs)) := fun w0 S0 Hd a w β S h => by
  have h1 := h.look x β (Agree.refl _ _)
  rw [hx] at h1
  obtain ⟨b, off, he, hS, hC⟩ := h1
  refine ⟨a.eval x, ?_, fun β' hb' => ⟨b, off, he, hS, hC⟩⟩
  unfold execOp
  simp [ho, he]

theorem yl_bin {op : BinOp} {t t' : TypeId} {x y : Operand} (ho : o.op = .binOp op t x y t') {k k' : IntKind} {m n : Int} (hx : σ.look x = .p (.v (.int k m))) (hy : σ.look y = .p (.v (.int k' n))) {r : Value} (hr : aBin op (.int k m) (.int k' n) = some r) :
    Yl P N o σ (.p (.v r)) := fun w0 S0 Hd a w β S h => by
  have h1 := h.look x β (Agree.refl _ _)
  have h2 := h.look y β (Agree.refl _ _)
  rw [hx] at h1
  rw [hy] at h2
  have h1 : a.eval x = .int k m := h1
  have h2 : a.eval y = .int k' n := h2
  have hk : k = k' := by
    simp only [aBin] at hr
    split at hr
    · assumption
    · cases hr
  subst hk
  refine ⟨r, ?_, fun β' hb' => rfl⟩
  unfold execOp
  simp only [ho, h1, h2, Sem.run_bind]
  have hg : (eqGuard op t x y (.int k m) (.int k n)).run P w = .ok () w := by cases op <;> simp [eqGuard]
  rw [hg]
  simp [aBin_int hr]

theorem yl_bin_str {op : BinOp} {t t' : TypeId} {x y : Operand} (ho : o.op = .binOp op t x y t') {m n : ByteArray} (hx : σ.look x = .p (.v (.string m))) (hy : σ.look y = .p (.v (.string n))) {r : Value} (hr : aBin op (.string m) (.string n) = some r) :
    Yl P N o σ (.p (.v r)) := fun w0 S0 Hd a w β S h => by
  have h1 := h.look x β (Agree.refl _ _)
  have h2 := h.look y β (Agree.refl _ _)
  rw [hx] at h1
  rw [hy] at h2
  have h1 : a.eval x = .string m := h1
  have h2 : a.eval y = .string n := h2
  refine ⟨r, ?_, fun β' hb' => rfl⟩
  unfold execOp
  simp only [ho, h1, h2, Sem.run_bind]
  have hg : (eqGuard op t x y (.string m) (.string n)).run P w = .ok () w := by cases op <;> simp [eqGuard]
  rw [hg]
  cases op <;> simp [aBin] at hr <;> simp [binOp, Op.stringOp] <;> first
    | (obtain ⟨h3, rfl⟩ := hr; simp; omega)
    | (subst hr; simp)

theorem yl_bin_bool {op : BinOp} {t t' : TypeId} {x y : Operand} (ho : o.op = .binOp op t x y t') {m n : Bool} (hx : σ.look x = .p (.v (.bool m))) (hy : σ.look y = .p (.v (.bool n)))
    {r0 : Nat × Nat × Option Value} (ht : tyOf P t = some (.bool, r0)) {r : Value} (hr : aBin op (.bool m) (.bool n) = some r) :
    Yl P N o σ (.p (.v r)) := fun w0 S0 Hd a w β S h => by
  obtain ⟨hu, _⟩ := tyOf_spec ht
  have h1 := h.look x β (Agree.refl _ _)
  have h2 := h.look y β (Agree.refl _ _)
  rw [hx] at h1
  rw [hy] at h2
  have h1 : a.eval x = .bool m := h1
  have h2 : a.eval y = .bool n := h2
  refine ⟨r, ?_, fun β' hb' => rfl⟩
  unfold execOp
  simp only [ho, h1, h2, Sem.run_bind]
  have hg : (eqGuard op t x y (.bool m) (.bool n)).run P w = .ok () w := by cases op <;> simp [eqGuard]
  rw [hg]
  have he : (Op.equal t (.bool m) (.bool n)).run P w = .ok (m == n) w := by
    have key : ∀ d, (Op.equalIn (d + 1) t (.bool m) (.bool n)).run P w = .ok (m == n) w := fun d => by simp [Op.equalIn, run_underlying hu]
    exact key 9999
  cases op <;> simp [aBin] at hr <;> subst hr <;> simp [binOp, he] <;> cases m <;> cases n <;> rfl

theorem yl_not {t : TypeId} {x : Operand} (ho : o.op = .unOp .not t x) {m : Bool} (hx : σ.look x = .p (.v (.bool m))) : Yl P N o σ (.p (.v (.bool !m))) := fun w0 S0 Hd a w β S h => by
  have h1 := h.look x β (Agree.refl _ _)
  rw [hx] at h1
  have h1 : a.eval x = .bool m := h1
  exact ⟨.bool !m, by unfold execOp; simp [ho, h1, Op.unary], fun _ _ => rfl⟩

theorem yl_neg {t : TypeId} {x : Operand} (ho : o.op = .unOp .neg t x) {k : IntKind} {m : Int} (hx : σ.look x = .p (.v (.int k m))) : Yl P N o σ (.p (.v (.int k (k.wrap (0 - m))))) := fun w0 S0 Hd a w β S h => by
  have h1 := h.look x β (Agree.refl _ _)
  rw [hx] at h1
  have h1 : a.eval x = .int k m := h1
  exact ⟨.int k (k.wrap (0 - m)), by unfold execOp; simp [ho, h1, Op.unary, Op.intArith], fun _ _ => rfl⟩

theorem yl_convert_int {src dst : TypeId} {x : Operand} (ho : o.op = .convert src dst x) {k k' : IntKind} {m : Int} (hx : σ.look x = .p (.v (.int k m)))
    {d : TypeDesc} {r r' : Nat × Nat × Option Value} (hs : tyOf P src = some (d, r)) (hd : tyOf P dst = some (.int k', r')) : Yl P N o σ (.p (.v (.int k' (k'.wrap m)))) := fun w0 S0 Hd a w β S h => by
  obtain ⟨hu, _⟩ := tyOf_spec hs
  obtain ⟨hu', _⟩ := tyOf_spec hd
  have h1 := h.look x β (Agree.refl _ _)
  rw [hx] at h1
  have h1 : a.eval x = .int k m := h1
  refine ⟨.int k' (k'.wrap m), ?_, fun _ _ => rfl⟩
  unfold execOp
  simp [ho, h1, convert, run_underlying hu, run_underlying hu', Conv.intToInt]

theorem RelAL.map_look {w0 : World} {S0 : Nat → Prop} {Hd : Nat → Nat → Nat → Prop} {a : Act} {w : World} {β : Nat → Pl} {S : Nat → Prop} (h : Inv N w0 S0 Hd σ a w β S) {β' : Nat → Pl} (hb : Agree σ β β') :
    ∀ l : List Operand, RelAL β' S w (l.map σ.look) (l.map a.eval)
  | [] => rfl
  | x :: l => ⟨a.eval x, l.map a.eval, rfl, h.look x β' hb, RelAL.map_look h hb l⟩

theorem yl_makeFunc {f : FuncId} {caps : List Operand} (ho : o.op = .makeFunc (.func f) #[] caps.toArray) : Yl P N o σ (.fn f (caps.map σ.look)) := fun w0 S0 Hd a w β S h => by
  refine ⟨.func (.func f) #[] (caps.map a.eval).toArray, ?_, fun β' hb => ⟨_, rfl, RelAL.map_look h hb caps⟩⟩
  unfold execOp
  simp [ho, Instr.makeFunc]

theorem yl_extract {x : Operand} {i : Nat} (ho : o.op = .extract x i) {xs : List AV} (hx : σ.look x = .tup xs) {y : AV} (hy : xs[i]? = some y) : Yl P N o σ y := fun w0 S0 Hd a w β S h => by
  have h1 := h.look x β (Agree.refl _ _)
  rw [hx] at h1
  obtain ⟨us, he, hR⟩ := h1
  obtain ⟨u, hu, _⟩ := hR.get i y hy
  refine ⟨u, ?_, fun β' hb => ?_⟩
  · unfold execOp
    simp [ho, he, Instr.extract, hu]
  · have h2 := h.look x β' hb
    rw [hx] at h2
    obtain ⟨us', he', hR'⟩ := h2
    rw [he] at he'
    have : us = us' := by injection he' with he'; simpa using congrArg Array.toList he'
    subst this
    obtain ⟨u', hu', hr⟩ := hR'.get i y hy
    rw [hu] at hu'; cases hu'
    exact hr

theorem RelL.get {S : Nat → Prop} {w : World} : ∀ {xs : List PV} {us : List Value}, RelL S w xs us → ∀ (i : Nat) (x : PV), xs[i]? = some x → ∃ u, us[i]? = some u ∧ RelP S w x u
  | [], _, _, i, x, hx => by simp at hx
  | y :: xs, _, h, i, x, hx => by
    obtain ⟨u, us', rfl, h1, h2⟩ := h
    cases i with
    | zero => simp at hx; subst hx; exact ⟨u, rfl, h1⟩
    | succ i => simp at hx; obtain ⟨v, hv, hr⟩ := RelL.get h2 i x hx; exact ⟨v, by simpa using hv, hr⟩

theorem yl_extract_p {x : Operand} {i : Nat} (ho : o.op = .extract x i) {xs : List PV} (hx : σ.look x = .p (.tup xs)) {y : PV} (hy : xs[i]? = some y) : Yl P N o σ (.p y) := fun w0 S0 Hd a w β S h => by
  have h1 := h.look x β (Agree.refl _ _)
  rw [hx] at h1
  obtain ⟨us, he, hR⟩ := h1
  obtain ⟨u, hu, hr⟩ := RelL.get hR i y hy
  refine ⟨u, ?_, fun β' hb => hr⟩
  unfold execOp
  simp [ho, he, Instr.extract, hu]

theorem yl_len_own {x : Operand} {t : TypeId} (ho : o.op = .call { callee := .builtin .len, args := #[x], argTypes := #[t] }) {full : Bool} {k b off n : Nat} (hx : σ.look x = .own full k b off n) {B : Blk} (hb : σ.heap b = some B) (hl : B.live = true)
    {e : TypeId} {r : Nat × Nat × Option Value} (ht : tyOf P t = some (.slice e, r)) : Yl P N o σ (.p (.v (.int .i64 n))) := fun w0 S0 Hd a w β S h => by
  obtain ⟨hu, _⟩ := tyOf_spec ht
  have h1 := h.look x β (Agree.refl _ _)
  rw [hx] at h1
  have hk := h.heap β (Agree.refl _ _) b B hb hl
  have : ∃ A c, a.eval x = .slice A n c := by
    simp only [RelA] at h1
    cases hpl : β b with
    | gone => rw [hpl] at hk; exact hk.elim
    | nil => rw [hpl] at h1; exact ⟨none, 0, by rw [h1.1, h1.2]⟩
    | loc g sz => rw [hpl] at h1; obtain ⟨c, h2, _⟩ := h1; exact ⟨_, c, h2⟩
  obtain ⟨A, c, he⟩ := this
  refine ⟨.int .i64 n, ?_, fun _ _ => rfl⟩
  unfold execOp
  simp [ho, resolve, invoke, builtin, Builtin.len_, he, run_underlying hu, goInt]

theorem yl_len_sl {x : Operand} {t : TypeId} (ho : o.op = .call { callee := .builtin .len, args := #[x], argTypes := #[t] }) {c : Bool} {es : List (List PV)} (hx : σ.look x = .p (.sl c es))
    {e : TypeId} {r : Nat × Nat × Option Value} (ht : tyOf P t = some (.slice e, r)) : Yl P N o σ (.p (.v (.int .i64 es.length))) := fun w0 S0 Hd a w β S h => by
  obtain ⟨hu, _⟩ := tyOf_spec ht
  have h1 := h.look x β (Agree.refl _ _)
  rw [hx] at h1
  obtain ⟨A, c', he, _⟩ := h1
  refine ⟨.int .i64 es.length, ?_, fun _ _ => rfl⟩
  unfold execOp
  simp [ho, resolve, invoke, builtin, Builtin.len_, he, run_underlying hu, goInt]

theorem yl_len_nil {x : Operand} {t : TypeId} (ho : o.op = .call { callee := .builtin .len, args := #[x], argTypes := #[t] }) (hx : σ.look x = .p (.v (.slice none 0 0)))
    {e : TypeId} {r : Nat × Nat × Option Value} (ht : tyOf P t = some (.slice e, r)) : Yl P N o σ (.p (.v (.int .i64 0))) := fun w0 S0 Hd a w β S h => by
  obtain ⟨hu, _⟩ := tyOf_spec ht
  have h1 := h.look x β (Agree.refl _ _)
  rw [hx] at h1
  have he : a.eval x = .slice none 0 0 := h1
  refine ⟨.int .i64 0, ?_, fun _ _ => rfl⟩
  unfold execOp
  simp [ho, resolve, invoke, builtin, Builtin.len_, he, run_underlying hu, goInt]

theorem yl_len_str {x : Operand} {t : TypeId} (ho : o.op = .call { callee := .builtin .len, args := #[x], argTypes := #[t] }) {s : ByteArray} (hx : σ.look x = .p (.v (.string s)))
    {r : Nat × Nat × Option Value} (ht : tyOf P t = some (.string, r)) : Yl P N o σ (.p (.v (.int .i64 s.size))) := fun w0 S0 Hd a w β S h => by
  obtain ⟨hu, _⟩ := tyOf_spec ht
  have h1 := h.look x β (Agree.refl _ _)
  rw [hx] at h1
  have he : a.eval x = .string s := h1
  refine ⟨.int .i64 s.size, ?_, fun _ _ => rfl⟩
  unfold execOp
  simp [ho, resolve, invoke, builtin, Builtin.len_, he, run_underlying hu, goInt]
end

end Vou
end

section
set_option linter.unusedVariables false
set_option linter.unusedSimpArgs false
/- Addresses of elements, parts of slices and texts, structs that are built. -/
namespace Vou
open Go Go.RowKit

section
variable {P : Program} {N : Nat} {o : Oper} {σ : ASt}

theorem RelE.get {S : Nat → Prop} {w : World} {b k : Nat} : ∀ (es : List (List PV)) (off : Nat), RelE S w es b off k → ∀ (i : Nat) (e : List PV), es[i]? = some e → e.length = k ∧ RelC S w e b (off + i * k)
  | [], _, _, i, e, he => by simp at he
  | e0 :: es, off, h, i, e, he => by
    obtain ⟨h1, h2, h3⟩ := h
    cases i with
    | zero => simp at he; subst he; exact ⟨h1, by simpa using h2⟩
    | succ i =>
      simp at he
      have := RelE.get es (off + k) h3 i e he
      refine ⟨this.1, ?_⟩
      have e2 : off + k + i * k = off + (i + 1) * k := by rw [Nat.add_mul]; omega
      rw [← e2]; exact this.2

theorem RelE.drop {S : Nat → Prop} {w : World} {b k : Nat} : ∀ (n : Nat) (es : List (List PV)) (off : Nat), RelE S w es b off k → RelE S w (es.drop n) b (off + n * k) k
  | 0, _, _, h => by simpa using h
  | n + 1, [], _, _ => by simp [RelE]
  | n + 1, e :: es, off, h => by
    have := RelE.drop n es (off + k) h.2.2
    have e2 : off + k + n * k = off + (n + 1) * k := by rw [Nat.add_mul]; omega
    rw [e2] at this
    simpa using this

theorem RelE.take {S : Nat → Prop} {w : World} {b k : Nat} : ∀ (n : Nat) (es : List (List PV)) (off : Nat), RelE S w es b off k → RelE S w (es.take n) b off k
  | 0, _, _, _ => by simp [RelE]
  | n + 1, [], _, _ => by simp [RelE]
  | n + 1, e :: es, off, h => ⟨h.1, h.2.1, RelE.take n es (off + k) h.2.2⟩

theorem yl_index_own {t : TypeId} {x ix : Operand} (ho : o.op = .indexAddr t x ix) {full : Bool} {k b off n : Nat} (hx : σ.look x = .own full k b off n) {B : Blk} (hb : σ.heap b = some B) (hl : B.live = true)
    {ki : IntKind} {i : Int} (hi : σ.look ix = .p (.v (.int ki i))) {e : TypeId} {r : Nat × Nat × Option Value} (ht : tyOf P t = some (.slice e, r)) {d : TypeDesc} {r' : Nat × Option Value} (hte : tyOf P e = some (d, k, r')) (h0 : 0 ≤ i) (hn : i < n) :
    Yl P N o σ (.ptr b (off + i.toNat * k)) := fun w0 S0 Hd a w β S h => by
  obtain ⟨hu, _⟩ := tyOf_spec ht
  obtain ⟨_, j, hj, hs, _⟩ := tyOf_spec hte
  have h1 := h.look x β (Agree.refl _ _)
  have h2 := h.look ix β (Agree.refl _ _)
  rw [hx] at h1
  rw [hi] at h2
  have h2 : a.eval ix = .int ki i := h2
  have hk := h.heap β (Agree.refl _ _) b B hb hl
  simp only [RelA] at h1
  cases hpl : β b with
  | gone => rw [hpl] at hk; exact hk.elim
  | nil => rw [hpl] at h1; omega
  | loc g sz =>
    rw [hpl] at h1
    obtain ⟨c, he, _⟩ := h1
    refine ⟨.pointer (some ⟨g, off + i.toNat * k, none⟩), ?_, fun β' hb' => ?_⟩
    · unfold execOp
      simp only [ho, he, h2, Instr.indexAt, asIntOf, Sem.run_bind, Sem.run_pure, Result.andThen_ok, run_underlying hu]
      simp [h0, hn, Go.sizeOf, typeInfo, hj, hs, Addr.add_lit]
    · have e : β' b = β b := hb' b (.inr (by rw [hb]; rfl))
      simp [RelA, e, hpl]

theorem yl_index_sl {t : TypeId} {x ix : Operand} (ho : o.op = .indexAddr t x ix) {c : Bool} {es : List (List PV)} (hx : σ.look x = .p (.sl c es))
    {ki : IntKind} {i : Int} (hi : σ.look ix = .p (.v (.int ki i))) {e : TypeId} {r : Nat × Nat × Option Value} (ht : tyOf P t = some (.slice e, r)) {d : TypeDesc} {k : Nat} {r' : Nat × Option Value} (hte : tyOf P e = some (d, k, r')) (h0 : 0 ≤ i)
    {xs : List PV} (hn : es[i.toNat]? = some xs) (hlen : xs.length = k) :
    Yl P N o σ (.p (.cp xs)) := fun w0 S0 Hd a w β S h => by
  obtain ⟨hu, _⟩ := tyOf_spec ht
  obtain ⟨_, j, hj, hs, _⟩ := tyOf_spec hte
  have h1 := h.look x β (Agree.refl _ _)
  have h2 := h.look ix β (Agree.refl _ _)
  rw [hx] at h1
  rw [hi] at h2
  have h2 : a.eval ix = .int ki i := h2
  obtain ⟨A, c', he, _, _, _, h4⟩ := h1
  have hlt : i.toNat < es.length := (List.getElem?_eq_some_iff.1 hn).1
  rcases h4 with h4 | ⟨b, off, k', hA, hS, hE⟩
  · subst h4; simp at hlt
  · subst hA
    have hg := RelE.get es off hE i.toNat xs hn
    refine ⟨.pointer (some ⟨b, off + i.toNat * k, none⟩), ?_, fun β' hb' => ⟨b, off + i.toNat * k, rfl, hS, ?_⟩⟩
    · have hn' : i < (es.length : Int) := by omega
      unfold execOp
      simp only [ho, he, h2, Instr.indexAt, asIntOf, Sem.run_bind, Sem.run_pure, Result.andThen_ok, run_underlying hu]
      simp [h0, hn', Go.sizeOf, typeInfo, hj, hs, Addr.add_lit]
    · rw [← hlen, hg.1]; exact hg.2

theorem yl_index_arr {t : TypeId} {x ix : Operand} (ho : o.op = .indexAddr t x ix) {b off : Nat} (hx : σ.look x = .ptr b off) {B : Blk} (hb : σ.heap b = some B) (hl : B.live = true)
    {ki : IntKind} {i : Int} (hi : σ.look ix = .p (.v (.int ki i))) {len : Nat} {e : TypeId} {r : Nat × Nat × Option Value} (ht : tyOf P t = some (.array len e, r)) {d : TypeDesc} {k : Nat} {r' : Nat × Option Value} (hte : tyOf P e = some (d, k, r')) (h0 : 0 ≤ i) (hn : i < len) :
    Yl P N o σ (.ptr b (off + i.toNat * k)) := fun w0 S0 Hd a w β S h => by
  obtain ⟨hu, _⟩ := tyOf_spec ht
  obtain ⟨_, j, hj, hs, _⟩ := tyOf_spec hte
  have h1 := h.look x β (Agree.refl _ _)
  have h2 := h.look ix β (Agree.refl _ _)
  rw [hx] at h1
  rw [hi] at h2
  have h2 : a.eval ix = .int ki i := h2
  obtain ⟨g, szb, us, rest, hg, he, _⟩ := h.at_ptr h1 hb hl
  refine ⟨.pointer (some ⟨g, off + i.toNat * k, none⟩), ?_, fun β' hb' => ?_⟩
  · unfold execOp
    simp only [ho, he, h2, Instr.indexAt, asIntOf, Sem.run_bind, Sem.run_pure, Result.andThen_ok, run_underlying hu, Instr.sureAddr]
    simp [h0, hn, Go.sizeOf, typeInfo, hj, hs, Addr.add_lit]
  · have e : β' b = β b := hb' b (.inr (by rw [hb]; rfl))
    simp [RelA, e, hg]

theorem RelC.take {S : Nat → Prop} {w : World} {b : Nat} : ∀ (n : Nat) (xs : List PV) (off : Nat), RelC S w xs b off → RelC S w (xs.take n) b off
  | 0, _, _, _ => by simp [RelC]
  | n + 1, [], _, _ => by simp [RelC]
  | n + 1, _ :: xs, off, h => ⟨h.1, RelC.take n xs (off + 1) h.2⟩

theorem yl_index_arr_cp {t : TypeId} {x ix : Operand} (ho : o.op = .indexAddr t x ix) {xs : List PV} (hx : σ.look x = .p (.cp xs))
    {ki : IntKind} {i : Int} (hi : σ.look ix = .p (.v (.int ki i))) {len : Nat} {e : TypeId} {r : Nat × Nat × Option Value} (ht : tyOf P t = some (.array len e, r)) {d : TypeDesc} {k : Nat} {r' : Nat × Option Value} (hte : tyOf P e = some (d, k, r')) (h0 : 0 ≤ i) (hn : i < len) :
    Yl P N o σ (.p (.cp ((xs.drop (i.toNat * k)).take k))) := fun w0 S0 Hd a w β S h => by
  obtain ⟨hu, _⟩ := tyOf_spec ht
  obtain ⟨_, j, hj, hs, _⟩ := tyOf_spec hte
  have h1 := h.look x β (Agree.refl _ _)
  have h2 := h.look ix β (Agree.refl _ _)
  rw [hx] at h1
  rw [hi] at h2
  have h2 : a.eval ix = .int ki i := h2
  obtain ⟨b, off, he, hS, hC⟩ := h1
  refine ⟨.pointer (some ⟨b, off + i.toNat * k, none⟩), ?_, fun β' hb' => ⟨b, _, rfl, hS, RelC.take _ _ _ (RelC.drop _ _ _ hC)⟩⟩
  unfold execOp
  simp only [ho, he, h2, Instr.indexAt, asIntOf, Sem.run_bind, Sem.run_pure, Result.andThen_ok, run_underlying hu, Instr.sureAddr]
  simp [h0, hn, Go.sizeOf, typeInfo, hj, hs, Addr.add_lit]

/-- A byte of a text. -/
def byteAt (s : ByteArray) (i : Nat) : Nat := (s.data.toList.getD i 0).toNat

theorem yl_index_str {t : TypeId} {x ix : Operand} (ho : o.op = .index t x ix) {s : ByteArray} (hx : σ.look x = .p (.v (.string s))) {ki : IntKind} {i : Int} (hi : σ.look ix = .p (.v (.int ki i)))
    {r : Nat × Nat × Option Value} (ht : tyOf P t = some (.string, r)) (h0 : 0 ≤ i) (hn : i < s.size) : Yl P N o σ (.p (.v (.int .u8 (byteAt s i.toNat)))) := fun w0 S0 Hd a w β S h => by
  obtain ⟨hu, _⟩ := tyOf_spec ht
  have h1 := h.look x β (Agree.refl _ _)
  have h2 := h.look ix β (Agree.refl _ _)
  rw [hx] at h1
  rw [hi] at h2
  have h1 : a.eval x = .string s := h1
  have h2 : a.eval ix = .int ki i := h2
  refine ⟨.int .u8 (byteAt s i.toNat), ?_, fun _ _ => rfl⟩
  have hlt : i.toNat < s.size := by omega
  have hlt' : i.toNat < s.data.toList.length := by simpa using hlt
  unfold execOp
  simp only [ho, h1, h2, Instr.index, asIntOf, Sem.run_bind, Sem.run_pure, Result.andThen_ok, run_underlying hu]
  have hs : s[i.toNat]? = some s[i.toNat] := getElem?_pos s i.toNat hlt
  have hb : byteAt s i.toNat = s[i.toNat].toNat := by
    unfold byteAt
    rw [List.getD_eq_getElem?_getD, List.getElem?_eq_getElem hlt']
    rfl
  simp [h0, hs, hb]

/-! ### Parts -/
/-- A bound of a part: n where none is given. -/
def Bnd (σ : ASt) (x : Option Operand) (n l : Nat) : Prop :=
  match x with
  | none => l = n
  | some y => ∃ k, σ.look y = .p (.v (.int k (l : Nat)))

theorem run_bound {x : Value} {k : IntKind} {i : Int} (hx : x = .int k i) {y : Nat} {code : BoundsCode} (h0 : 0 ≤ i) (h1 : i ≤ y) (w : World) : (Instr.sliceBound x y code).run P w = .ok i.toNat w := by
  subst hx
  simp [Instr.sliceBound, asIntOf, h0, h1]

theorem yl_slice_str {t : TypeId} {x : Operand} {lo hi : Option Operand} (ho : o.op = .slice t x lo hi none) {s : ByteArray} (hx : σ.look x = .p (.v (.string s)))
    {r : Nat × Nat × Option Value} (ht : tyOf P t = some (.string, r)) (l h' : Nat) (hlo : Bnd σ lo 0 l) (hhi : Bnd σ hi s.size h')
    (h1 : l ≤ h') (h2 : h' ≤ s.size) : Yl P N o σ (.p (.v (.string (s.extract l h')))) := fun w0 S0 Hd a w β S h => by
  obtain ⟨hu, _⟩ := tyOf_spec ht
  have e1 := h.look x β (Agree.refl _ _)
  rw [hx] at e1
  have e1 : a.eval x = .string s := e1
  refine ⟨.string (s.extract l h'), ?_, fun _ _ => rfl⟩
  have hb : (Instr.sliceBounds false s.size s.size (lo.map a.eval) (hi.map a.eval) none).run P w = .ok (l, h', s.size) w := by
    cases lo with
    | none =>
      subst hlo
      cases hi with
      | none => subst hhi; simp [Instr.sliceBounds]
      | some y =>
        obtain ⟨k, hk⟩ := hhi
        have e2 := h.look y β (Agree.refl _ _)
        rw [hk] at e2
        have e2 : a.eval y = .int k h' := e2
        simp [Instr.sliceBounds, run_bound (P := P) e2 (by omega) (show (h' : Int) ≤ (s.size : Nat) by omega)]
    | some z =>
      obtain ⟨k', hk'⟩ := hlo
      have e3 := h.look z β (Agree.refl _ _)
      rw [hk'] at e3
      have e3 : a.eval z = .int k' l := e3
      cases hi with
      | none => subst hhi; simp [Instr.sliceBounds, run_bound (P := P) e3 (by omega) (show (l : Int) ≤ (s.size : Nat) by omega)]
      | some y =>
        obtain ⟨k, hk⟩ := hhi
        have e2 := h.look y β (Agree.refl _ _)
        rw [hk] at e2
        have e2 : a.eval y = .int k h' := e2
        simp [Instr.sliceBounds, run_bound (P := P) e2 (by omega) (show (h' : Int) ≤ (s.size : Nat) by omega), run_bound (P := P) e3 (by omega) (show (l : Int) ≤ (h' : Nat) by omega)]
  unfold execOp
  simp only [ho, e1, Instr.sliceAt, Sem.run_bind, run_underlying hu, Result.andThen_ok, Instr.slice]
  simp only [Option.map_none, Option.isSome_none, Bool.false_eq_true, if_false, Sem.run_bind]
  rw [hb]
  simp

/-- The bounds of a part: low (0), high (the length), max (none, or at most the length). -/
structure Cut (σ : ASt) (n : Nat) (lo hi mx : Option Operand) (l h m : Nat) : Prop where
  flo : Bnd σ lo 0 l
  fhi : Bnd σ hi n h
  fmx : Bnd σ mx n m
  fhm : mx.isSome = true → hi.isSome = true
  lh : l ≤ h
  hm : h ≤ m
  mn : m ≤ n

theorem Cut.run {w0 : World} {S0 : Nat → Prop} {Hd : Nat → Nat → Nat → Prop} {a : Act} {w : World} {β : Nat → Pl} {S : Nat → Prop} (hI : Inv N w0 S0 Hd σ a w β S) {n c : Nat} {lo hi mx : Option Operand} {l h m : Nat} (hc : Cut σ n lo hi mx l h m) (hnc : n ≤ c) :
    (Instr.sliceBounds true n c (lo.map a.eval) (hi.map a.eval) (mx.map a.eval)).run P w = .ok (l, h, if mx.isSome then m else c) w := by
  obtain ⟨h1, h2, h3, h7, h4, h5, h6⟩ := hc
  have val : ∀ (y : Operand) (k : IntKind) (j : Nat), σ.look y = .p (.v (.int k (j : Nat))) → a.eval y = .int k j := fun y k j hy => by
    have := hI.look y β (Agree.refl _ _)
    rw [hy] at this; exact this
  cases mx with
  | none =>
    subst h3
    cases hi with
    | none =>
      subst h2
      cases lo with
      | none => subst h1; simp [Instr.sliceBounds]
      | some z =>
        obtain ⟨k, hk⟩ := h1
        simp [Instr.sliceBounds, run_bound (P := P) (val z k l hk) (by omega) (show (l : Int) ≤ (h : Nat) by omega)]
    | some y =>
      obtain ⟨k', hk'⟩ := h2
      cases lo with
      | none => subst h1; simp [Instr.sliceBounds, run_bound (P := P) (val y k' h hk') (by omega) (show (h : Int) ≤ (c : Nat) by omega)]
      | some z =>
        obtain ⟨k, hk⟩ := h1
        simp [Instr.sliceBounds, run_bound (P := P) (val y k' h hk') (by omega) (show (h : Int) ≤ (c : Nat) by omega), run_bound (P := P) (val z k l hk) (by omega) (show (l : Int) ≤ (h : Nat) by omega)]
  | some v =>
    obtain ⟨k3, hk3⟩ := h3
    cases hi with
    | none => simp at h7
    | some y =>
      obtain ⟨k', hk'⟩ := h2
      cases lo with
      | none => subst h1; simp [Instr.sliceBounds, run_bound (P := P) (val v k3 m hk3) (by omega) (show (m : Int) ≤ (c : Nat) by omega), run_bound (P := P) (val y k' h hk') (by omega) (show (h : Int) ≤ (m : Nat) by omega)]
      | some z =>
        obtain ⟨k, hk⟩ := h1
        simp [Instr.sliceBounds, run_bound (P := P) (val v k3 m hk3) (by omega) (show (m : Int) ≤ (c : Nat) by omega), run_bound (P := P) (val y k' h hk') (by omega) (show (h : Int) ≤ (m : Nat) by omega), run_bound (P := P) (val z k l hk) (by omega) (show (l : Int) ≤ (h : Nat) by omega)]

theorem slice_exec {t : TypeId} {x : Operand} {lo hi mx : Option Operand} (ho : o.op = .slice t x lo hi mx) {w0 : World} {S0 : Nat → Prop} {Hd : Nat → Nat → Nat → Prop} {a : Act} {w : World} {β : Nat → Pl} {S : Nat → Prop} (hI : Inv N w0 S0 Hd σ a w β S)
    {e : TypeId} {r : Nat × Nat × Option Value} (ht : tyOf P t = some (.slice e, r)) {d : TypeDesc} {k : Nat} {r' : Nat × Option Value} (hte : tyOf P e = some (d, k, r'))
    {A : Option Addr} {n c : Nat} (hx : a.eval x = .slice A n c) {l h m : Nat} (hc : Cut σ n lo hi mx l h m) (hnc : n ≤ c) :
    (execOp a.eval o).run P w = .ok (.value (.slice (if (if mx.isSome then m else c) = l then A else A.map (·.add (l * k))) (h - l) ((if mx.isSome then m else c) - l))) w := by
  obtain ⟨hu, _⟩ := tyOf_spec ht
  obtain ⟨_, j, hj, hs, _⟩ := tyOf_spec hte
  unfold execOp
  simp only [ho, hx, Instr.sliceAt, Sem.run_bind, run_underlying hu, Result.andThen_ok, Instr.slice, hc.run (P := P) hI hnc, Go.sizeOf, typeInfo]
  simp [hj, hs]

theorem yl_slice_own {t : TypeId} {x : Operand} {lo hi mx : Option Operand} (ho : o.op = .slice t x lo hi mx) {full : Bool} {k b off n : Nat} (hx : σ.look x = .own full k b off n) {B : Blk} (hb : σ.heap b = some B) (hl : B.live = true)
    {e : TypeId} {r : Nat × Nat × Option Value} (ht : tyOf P t = some (.slice e, r)) {d : TypeDesc} {r' : Nat × Option Value} (hte : tyOf P e = some (d, k, r')) {l h m : Nat} (hc : Cut σ n lo hi mx l h m) (hlh : l < h) :
    Yl P N o σ (.own (full && decide (l = 0) && mx.isNone) k b (off + l * k) (h - l)) := fun w0 S0 Hd a w β S hI => by
  have h1 := hI.look x β (Agree.refl _ _)
  rw [hx] at h1
  have hk := hI.heap β (Agree.refl _ _) b B hb hl
  have c1 := hc.hm
  have c2 := hc.mn
  simp only [RelA] at h1
  cases hpl : β b with
  | gone => rw [hpl] at hk; exact hk.elim
  | nil => rw [hpl] at h1; omega
  | loc g sz =>
    rw [hpl] at h1
    obtain ⟨c, he, hnc, hcm, hfull⟩ := h1
    refine ⟨_, slice_exec ho hI ht hte he hc hnc, fun β' hb' => ?_⟩
    have e : β' b = β b := hb' b (.inr (by rw [hb]; rfl))
    simp only [RelA, e, hpl]
    have hne : (if mx.isSome then m else c) ≠ l := by split <;> omega
    rw [if_neg hne]
    refine ⟨(if mx.isSome then m else c) - l, ?_, ?_, ?_, ?_⟩
    · simp [Addr.add_lit]
    · split <;> omega
    · split <;> omega
    · intro hf
      simp only [Bool.and_eq_true, decide_eq_true_eq] at hf
      obtain ⟨⟨hf1, hf2⟩, hf3⟩ := hf
      obtain ⟨q1, q2⟩ := hfull hf1
      subst hf2
      have : mx.isSome = false := by cases mx <;> simp_all
      simp [this, q1, q2]

theorem yl_slice_empty_own {t : TypeId} {x : Operand} {lo hi mx : Option Operand} (ho : o.op = .slice t x lo hi mx) {full : Bool} {k b off n : Nat} (hx : σ.look x = .own full k b off n) {B : Blk} (hb : σ.heap b = some B) (hl : B.live = true)
    {e : TypeId} {r : Nat × Nat × Option Value} (ht : tyOf P t = some (.slice e, r)) {d : TypeDesc} {k' : Nat} {r' : Nat × Option Value} (hte : tyOf P e = some (d, k', r')) {l m : Nat} (hc : Cut σ n lo hi mx l l m) :
    Yl P N o σ (.p (.sl false [])) := fun w0 S0 Hd a w β S hI => by
  have h1 := hI.look x β (Agree.refl _ _)
  rw [hx] at h1
  have hk := hI.heap β (Agree.refl _ _) b B hb hl
  have c1 := hc.hm
  have c2 := hc.mn
  have : ∃ A c, a.eval x = .slice A n c ∧ n ≤ c ∧ c ≤ maxLen := by
    simp only [RelA] at h1
    cases hpl : β b with
    | gone => rw [hpl] at hk; exact hk.elim
    | nil => rw [hpl] at h1; exact ⟨none, 0, by rw [h1.1, h1.2], by omega, by omega⟩
    | loc g sz => rw [hpl] at h1; obtain ⟨c, h2, h3, h4, _⟩ := h1; exact ⟨_, c, h2, h3, h4⟩
  obtain ⟨A, c, he, hnc, hcm⟩ := this
  refine ⟨_, slice_exec ho hI ht hte he hc hnc, fun β' hb' => ?_⟩
  rw [Nat.sub_self]
  exact ⟨_, _, rfl, by simp, by split <;> omega, by simp, .inl rfl⟩

theorem yl_slice_sl {t : TypeId} {x : Operand} {lo hi mx : Option Operand} (ho : o.op = .slice t x lo hi mx) {cl : Bool} {es : List (List PV)} (hx : σ.look x = .p (.sl cl es))
    {e : TypeId} {r : Nat × Nat × Option Value} (ht : tyOf P t = some (.slice e, r)) {d : TypeDesc} {k : Nat} {r' : Nat × Option Value} (hte : tyOf P e = some (d, k, r')) {l h m : Nat} (hc : Cut σ es.length lo hi mx l h m) (hk : ∀ xs ∈ es, xs.length = k) :
    Yl P N o σ (.p (.sl ((cl || mx.isSome) && decide (h = m)) ((es.take h).drop l))) := fun w0 S0 Hd a w β S hI => by
  have h1 := hI.look x β (Agree.refl _ _)
  rw [hx] at h1
  obtain ⟨A, c, he, hnc, hcm, hcl, h4⟩ := h1
  have c0 := hc.lh
  have c1 := hc.hm
  have c2 := hc.mn
  have c3 := hc.fmx
  have hlen : ((es.take h).drop l).length = h - l := by rw [List.length_drop, List.length_take, Nat.min_eq_left (by omega)]
  refine ⟨_, slice_exec ho hI ht hte he hc hnc, fun β' hb' => ⟨if (if mx.isSome then m else c) = l then A else A.map (·.add (l * k)), (if mx.isSome then m else c) - l, by rw [hlen], ?_, ?_, ?_, ?_⟩⟩
  · rw [hlen]
    split <;> omega
  · split <;> omega
  · intro hq
    simp only [Bool.and_eq_true, Bool.or_eq_true, decide_eq_true_eq] at hq
    obtain ⟨hq1, hq2⟩ := hq
    rw [hlen]
    by_cases hs : mx.isSome = true
    · rw [if_pos hs]; omega
    · rw [if_neg hs]
      rcases hq1 with hq1 | hq1
      · have hm : m = es.length := by cases mx with
          | none => exact c3
          | some y => simp at hs
        have := hcl hq1
        omega
      · exact absurd hq1 hs
  · rcases h4 with h4 | ⟨b, off, k', hA, hS, hE⟩
    · left; subst h4; simp
    · by_cases hlt : l < h
      · right
        have hne : (if mx.isSome then m else c) ≠ l := by split <;> omega
        have hk' : k' = k := by
          cases es with
          | nil => simp at c2; omega
          | cons e0 es => have := hE.1; rw [← this]; exact hk e0 (List.mem_cons_self)
        subst hk'
        refine ⟨b, off + l * k', k', ?_, hS, RelE.drop _ _ _ (RelE.take _ _ _ hE)⟩
        rw [if_neg hne, hA]
        simp [Addr.add_lit]
      · left
        apply List.eq_nil_of_length_eq_zero
        rw [List.length_drop, List.length_take]; omega

theorem yl_slice_nil {t : TypeId} {x : Operand} {lo hi mx : Option Operand} (ho : o.op = .slice t x lo hi mx) (hx : σ.look x = .p (.v (.slice none 0 0)))
    {e : TypeId} {r : Nat × Nat × Option Value} (ht : tyOf P t = some (.slice e, r)) {d : TypeDesc} {k : Nat} {r' : Nat × Option Value} (hte : tyOf P e = some (d, k, r')) (hc : Cut σ 0 lo hi mx 0 0 0) :
    Yl P N o σ (.p (.v (.slice none 0 0))) := fun w0 S0 Hd a w β S hI => by
  have h1 := hI.look x β (Agree.refl _ _)
  rw [hx] at h1
  have he : a.eval x = .slice none 0 0 := h1
  refine ⟨_, slice_exec ho hI ht hte he hc (Nat.le_refl _), fun β' hb' => ?_⟩
  show _ = _
  simp

/-! ### Structs -/
def aFill (place : Nat → Option (Nat × Nat)) : List AV → List (Nat × AV) → Option (List AV)
  | cells, [] => some cells
  | cells, (i, x) :: rest =>
    match place i with
    | none => none
    | some (off, size) => if x.cells.length = size ∧ off + size ≤ cells.length ∧ x.cells.all AV.one = true then aFill place (cells.take off ++ x.cells ++ cells.drop (off + size)) rest else none

theorem fold_set : ∀ (l : List Value) (s off : Nat) (cs : Array Value), off + s + l.length ≤ cs.size →
    (l.zipIdx s).foldl (fun cs (p : Value × Nat) => cs.setIfInBounds (off + p.2) p.1) cs = (cs.toList.take (off + s) ++ l ++ cs.toList.drop (off + s + l.length)).toArray
  | [], s, off, cs, _ => by simp
  | v :: l, s, off, cs, h => by
    simp only [List.length_cons] at h
    simp only [List.zipIdx_cons, List.foldl_cons]
    rw [fold_set l (s + 1) off (cs.setIfInBounds (off + s) v) (by simp; omega)]
    congr 1
    simp only [Array.toList_setIfInBounds]
    have hlt : off + s < cs.toList.length := by simp; omega
    rw [List.drop_set_of_lt (by omega)]
    have e1 : (cs.toList.set (off + s) v).take (off + (s + 1)) = cs.toList.take (off + s) ++ [v] := by
      rw [show off + (s + 1) = off + s + 1 by omega, List.take_succ_eq_append_getElem (by simpa using hlt)]
      rw [List.take_set_of_le (Nat.le_refl _)]
      simp
    rw [e1]
    simp only [List.length_cons, List.append_assoc, List.cons_append, List.nil_append]
    rw [show off + (s + 1) + l.length = off + s + (l.length + 1) by omega]

theorem aFill_run {β : Nat → Pl} {S : Nat → Prop} {w : World} {place : Nat → Option (Nat × Nat)} : ∀ (parts : List (Nat × AV)) (vals : List (Nat × Value)) (xs : List AV) (us : List Value) (ys : List AV),
    aFill place xs parts = some ys → RelAL β S w xs us → parts.length = vals.length → (∀ (j i : Nat) (x : AV), parts[j]? = some (i, x) → ∃ v : Value, vals[j]? = some (i, v) ∧ RelA β S w x v) →
    ∃ vs : List Value, Instr.fill place us.toArray vals = some vs.toArray ∧ RelAL β S w ys vs
  | [], [], xs, us, ys, h, hR, _, _ => by simp only [aFill, Option.some.injEq] at h; subst h; exact ⟨us, rfl, hR⟩
  | [], _ :: _, _, _, _, _, _, h, _ => by simp at h
  | _ :: _, [], _, _, _, _, _, h, _ => by simp at h
  | (i, x) :: parts, (i', v) :: vals, xs, us, ys, h, hR, hl, hp => by
    obtain ⟨v', hv', hr⟩ := hp 0 i x rfl
    simp only [List.getElem?_cons_zero, Option.some.injEq, Prod.mk.injEq] at hv'
    obtain ⟨rfl, rfl⟩ := hv'
    simp only [aFill] at h
    simp only [Instr.fill]
    split at h
    · cases h
    · rename_i off size hpl
      rw [hpl]
      split at h
      · rename_i hc
        obtain ⟨c1, c2, c3⟩ := hc
        obtain ⟨hcR, _⟩ := AV.cells_rel hr c3
        have hvl : v.cells.size = size := by have := hcR.length; simp at this; omega
        have hul : us.length = xs.length := hR.length
        have hcond : ¬ ((decide (v.cells.size ≠ size) || decide (off + v.cells.size > us.toArray.size)) = true) := by
          simp only [List.size_toArray, Bool.or_eq_true, decide_eq_true_eq]; omega
        dsimp only
        rw [if_neg hcond]
        have hf := fold_set v.cells.toList 0 off us.toArray (by simp; omega)
        have e1 : v.cells.zipIdx.foldl (fun cs (p : Value × Nat) => cs.setIfInBounds (off + p.2) p.1) us.toArray = (us.take off ++ v.cells.toList ++ us.drop (off + size)).toArray := by
          rw [← Array.foldl_toList, Array.toList_zipIdx]
          simpa [hvl] using hf
        have e2 : (Array.foldl (fun cs x => match x with | (c, j) => cs.setIfInBounds (off + j) c) us.toArray v.cells.zipIdx) = (us.take off ++ v.cells.toList ++ us.drop (off + size)).toArray := e1
        rw [e2]
        exact aFill_run parts vals _ _ ys h (((hR.take off).append hcR).append (hR.drop (off + size))) (by simpa using hl) (fun j i x hj => by
          have := hp (j + 1) i x (by simpa using hj)
          simpa using this)
      · cases h

theorem run_sizeOf {P : Program} {t : TypeId} {i : TypeInfo} (h : P.info? t = some i) (w : World) : (Go.sizeOf t).run P w = .ok i.size w := by
  simp [Go.sizeOf, typeInfo, h]

theorem yl_build {t : TypeId} {parts : List (Nat × Operand)} (ho : o.op = .build t parts.toArray) {fields : Array Field} {sz by_ : Nat} {z : Value} (ht : tyOf P t = some (.struct fields, sz, by_, some z))
    {places : List (Nat × Nat)} (hp : (fields.mapM (m := Option) fun f => (P.info? f.type).map fun i => (f.offset, i.size)) = some places.toArray) {ys : List AV} (hf : aFill (fun i => places[i]?) (z.cells.toList.map fun c => .p (.v c)) (parts.map fun q => (q.1, σ.look q.2)) = some ys) :
    Yl P N o σ (.agg ys) := fun w0 S0 Hd a w β S h => by
  obtain ⟨hu, i, hi, hs, _, hz⟩ := tyOf_spec ht
  have rel : ∀ β', Agree σ β β' → ∃ vs : List Value, Instr.fill (fun i => places.toArray[i]?) z.cells (parts.map fun q => (q.1, a.eval q.2)) = some vs.toArray ∧ RelAL β' S w ys vs := fun β' hb' => by
    have := aFill_run (β := β') (S := S) (w := w) (place := fun i => places[i]?) _ (parts.map fun q => (q.1, a.eval q.2)) _ z.cells.toList ys hf (RelAL.vals _ _ _ _) (by simp) (fun j i x hj => by
      rw [List.getElem?_map] at hj
      cases hq : parts[j]? with
      | none => rw [hq] at hj; cases hj
      | some q =>
        rw [hq] at hj
        simp only [Option.map_some, Option.some.injEq, Prod.mk.injEq] at hj
        obtain ⟨rfl, rfl⟩ := hj
        exact ⟨a.eval q.2, by simp [hq], h.look q.2 β' hb'⟩)
    simpa using this
  obtain ⟨vs, hv, hR⟩ := rel β (Agree.refl _ _)
  have hmap : ∀ (l : List Field) (pl : List (Nat × Nat)), (l.mapM (m := Option) fun f => (P.info? f.type).map fun i => (f.offset, i.size)) = some pl →
      (l.mapM (m := Sem) fun f => Prod.mk f.offset <$> Go.sizeOf f.type).run P w = .ok pl w := by
    intro l
    induction l with
    | nil => intro pl hpl; simp at hpl; subst hpl; simp
    | cons f l ih =>
      intro pl hpl
      simp only [List.mapM_cons] at hpl ⊢
      cases hq : P.info? f.type with
      | none => simp [hq] at hpl
      | some j =>
        cases hr : (l.mapM (m := Option) fun f => (P.info? f.type).map fun i => (f.offset, i.size)) with
        | none => simp [hq, hr] at hpl
        | some pl' =>
          simp only [hq, hr, Option.map_some, Option.bind_eq_bind, Option.bind_some, Option.pure_def, Option.some.injEq] at hpl
          subst hpl
          have := ih pl' hr
          simp [run_sizeOf hq, this]
  have hmap' : (fields.mapM (m := Sem) fun f => Prod.mk f.offset <$> Go.sizeOf f.type).run P w = .ok places.toArray w := by
    rw [Array.mapM_eq_mapM_toList] at hp ⊢
    cases hr : (fields.toList.mapM (m := Option) fun f => (P.info? f.type).map fun i => (f.offset, i.size)) with
    | none => rw [hr] at hp; simp at hp
    | some pl =>
      rw [hr] at hp
      have hpl : pl = places := by simpa using hp
      subst hpl
      have := hmap _ _ hr
      simp [this]
  refine ⟨.agg vs.toArray, ?_, fun β' hb' => ?_⟩
  · unfold execOp
    simp only [ho, Instr.build, Sem.run_bind, zeroValue, typeInfo, run_underlying hu, run_program, Result.andThen_ok, hi, hz, Sem.run_pure]
    have hv2 : Instr.fill (fun x => places[x]?) z.cells (parts.map fun x => (x.fst, a.eval x.snd)) = some vs.toArray := by simpa using hv
    simp [hmap', hv2]
  · obtain ⟨vs', hv', hR'⟩ := rel β' hb'
    rw [hv] at hv'
    have : vs = vs' := by simpa using hv'
    subst this
    exact ⟨vs, rfl, hR'⟩
end

end Vou
end

section
set_option linter.unusedVariables false
set_option linter.unusedSimpArgs false
/- Operations that make or turn memory, and calls. -/
namespace Vou
open Go Go.RowKit

def ASt.put (σ : ASt) (dst : Option Nat) (x : AV) : ASt :=
  match dst with
  | some d => { σ with env := upd σ.env d x }
  | none => σ

def ASt.setB (σ : ASt) (b : Nat) (k : Blk) : ASt := { σ with heap := upd σ.heap b (some k) }

/-- The operation leads from σ to σ'. -/
def OpOk (P : Program) (N : Nat) (o : Oper) (σ σ' : ASt) : Prop :=
  ∀ w0 S0 Hd a w, RelSt N w0 S0 Hd σ a w → ∀ (K : Act → World → Prop) (Q : Exit → Act → World → Prop), (∀ a' w', RelSt N w0 S0 Hd σ' a' w' → K a' w') → o.wp P a w K Q

/-- A state may be told more weakly. -/
def Gh (N : Nat) (σ σ' : ASt) : Prop := ∀ w0 S0 Hd a w, RelSt N w0 S0 Hd σ a w → RelSt N w0 S0 Hd σ' a w

theorem Gh.refl (N : Nat) (σ : ASt) : Gh N σ σ := fun _ _ _ _ _ h => h
theorem Gh.trans {N : Nat} {σ σ' σ'' : ASt} (h : Gh N σ σ') (k : Gh N σ' σ'') : Gh N σ σ'' := fun w0 S0 Hd a w r => k w0 S0 Hd a w (h w0 S0 Hd a w r)

/-- The slot that an operation writes is one of the call's. -/
def DstOk (N : Nat) (o : Oper) : Prop := ∀ d, o.dst = some d → d < N

section
variable {P : Program} {N : Nat} {o : Oper} {σ σ' : ASt}

theorem OpOk.gh (h : OpOk P N o σ σ') {σ'' : ASt} (k : Gh N σ' σ'') : OpOk P N o σ σ'' := fun w0 S0 Hd a w r K Q hK => h w0 S0 Hd a w r K Q fun a' w' r' => hK a' w' (k w0 S0 Hd a' w' r')

theorem Inv.putO {w0 : World} {S0 : Nat → Prop} {Hd : Nat → Nat → Nat → Prop} {a : Act} {w : World} {β : Nat → Pl} {S : Nat → Prop} (h : Inv N w0 S0 Hd σ a w β S) {dst : Option Nat} (hd : ∀ d, dst = some d → d < N) {x : AV} {u : Value} (hx : ∀ β', Agree σ β β' → RelA β' S w x u) :
    Inv N w0 S0 Hd (σ.put dst x) (a.put dst u) w β S := by
  cases dst with
  | none => exact h
  | some d => exact h.put (hd d rfl) hx

theorem OpOk.of_yl {x : AV} (h : Yl P N o σ x) (hd : DstOk N o) : OpOk P N o σ (σ.put o.dst x) := fun w0 S0 Hd a w ⟨β, S, hI⟩ K Q hK => by
  obtain ⟨u, hu, hR⟩ := h w0 S0 Hd a w β S hI
  unfold Oper.wp
  rw [hu]
  exact hK _ _ ⟨β, S, hI.putO hd hR⟩

/-- A new block of cells, and a value that may lead to it. -/
theorem OpOk.of_alloc {d : Nat} (hfresh : σ.heap d = none) (hnx : σ.nx ≤ d) {xs : List AV} {ty : TypeId} {x : AV}
    (hrun : ∀ w0 S0 Hd a w β S, Inv N w0 S0 Hd σ a w β S → ∃ us rest : List Value, ∃ u : Value, (execOp a.eval o).run P w = .ok (.value u) (w.alloc (.cells (us ++ rest).toArray ty)) ∧ (∀ β', Agree σ β β' → RelAL β' S w xs us) ∧ (∀ v ∈ us, v.oneCell' = true) ∧
      ∀ (β' : Nat → Pl) (S' : Nat → Prop) (w' : World), β' d = .loc w.heap.size (us ++ rest).length → RelA β' S' w' x u)
    (hd : DstOk N o) : OpOk P N o σ ((σ.setB d { cells := xs, ty := ty }).put o.dst x) := fun w0 S0 Hd a w ⟨β, S, hI⟩ K Q hK => by
  obtain ⟨us, rest, u, hu, hR, h1, hx⟩ := hrun w0 S0 Hd a w β S hI
  unfold Oper.wp
  rw [hu]
  have h2 := hI.alloc hfresh hnx (rest := rest) (ty := ty) hR h1
  refine hK _ _ ⟨_, S, Inv.putO (σ := σ.setB d { cells := xs, ty := ty }) h2 hd (fun β' hb => hx β' S _ ?_)⟩
  rw [hb d (.inr (by simp [ASt.setB, upd])), upd_same]

theorem ok_alloc {t : TypeId} (ho : o.op = .alloc t) {d : Nat} (hfresh : σ.heap d = none) (hnx : σ.nx ≤ d) {D : TypeDesc} {sz by_ : Nat} {z : Value} (ht : tyOf P t = some (D, sz, by_, some z)) (h1 : z.cells.toList.all Value.oneCell' = true) (hd : DstOk N o) :
    OpOk P N o σ ((σ.setB d { cells := z.cells.toList.map fun c => .p (.v c), ty := t }).put o.dst (.ptr d 0)) := by
  obtain ⟨_, i, hi, _, _, hz⟩ := tyOf_spec ht
  refine OpOk.of_alloc hfresh hnx (fun w0 S0 Hd a w β S hI => ⟨z.cells.toList, [], .pointer (some ⟨w.heap.size, 0, none⟩), ?_, fun β' _ => RelAL.vals _ _ _ _, fun v hv => List.all_eq_true.1 h1 v hv, fun β' S' w' hb => ?_⟩) hd
  · unfold execOp
    simp [ho, Instr.alloc, zeroValue, typeInfo, hi, hz, newVar, newRow]
  · simp [RelA, hb]

theorem ok_box {t : TypeId} {x : Operand} (ho : o.op = .box t x) {d : Nat} (hfresh : σ.heap d = none) (hnx : σ.nx ≤ d) (h1 : (σ.look x).cells.all AV.one = true) (hd : DstOk N o) :
    OpOk P N o σ ((σ.setB d { cells := (σ.look x).cells, ty := t }).put o.dst (.ptr d 0)) := by
  refine OpOk.of_alloc hfresh hnx (fun w0 S0 Hd a w β S hI => ⟨(a.eval x).cells.toList, [], .pointer (some ⟨w.heap.size, 0, none⟩), ?_, fun β' hb => (AV.cells_rel (hI.look x β' hb) h1).1, (AV.cells_rel (hI.look x β (Agree.refl _ _)) h1).2, fun β' S' w' hb => ?_⟩) hd
  · unfold execOp
    simp [ho, Instr.box, newVar, newRow]
  · simp [RelA, hb]

theorem madeCells_mul (z : List Value) (hz : 0 < z.length) : ∀ n, (madeCells z.toArray (n * z.length)).toList = (List.replicate n z).flatten
  | 0 => by simp [madeCells]
  | n + 1 => by
    have ih := madeCells_mul z hz n
    have e : (n + 1) * z.length = n * z.length + z.length := by rw [Nat.add_mul, Nat.one_mul]
    have e1 : (madeCells z.toArray ((n + 1) * z.length)).toList = (madeCells z.toArray (n * z.length)).toList ++ z := by
      apply List.ext_getElem
      · simp [madeCells, e]
      · intro i h1 h2
        simp only [madeCells, Array.toList_map, Array.toList_range, List.length_map, List.length_range] at h1
        rw [List.getElem_append]
        split
        · rename_i h3
          simp [madeCells]
        · rename_i h3
          simp only [madeCells, Array.toList_map, Array.toList_range, List.length_map, List.length_range] at h3
          simp only [madeCells, List.size_toArray, Array.toList_map, Array.toList_range, List.getElem_map, List.getElem_range, List.length_map, List.length_range]
          have hm : i % z.length = i - n * z.length := by
            obtain ⟨j, rfl⟩ : ∃ j, i = n * z.length + j := ⟨i - n * z.length, by omega⟩
            rw [Nat.add_comm, Nat.add_mul_mod_self_right, Nat.mod_eq_of_lt (by omega)]; omega
          rw [hm]
          simp [show i - n * z.length < z.length by omega]
    rw [e1, ih, List.replicate_succ', List.flatten_append]
    simp

theorem RelAL.flat_replicate (β : Nat → Pl) (S : Nat → Prop) (w : World) (z : List Value) : ∀ n, RelAL β S w (List.replicate n (z.map fun c => AV.p (.v c))).flatten (List.replicate n z).flatten
  | 0 => rfl
  | n + 1 => by
    simp only [List.replicate_succ, List.flatten_cons]
    exact (RelAL.vals β S w z).append (RelAL.flat_replicate β S w z n)

/-- `make([]T, n)`. -/
theorem ok_make {t : TypeId} {x y : Operand} (ho : o.op = .makeSlice t x y) {n : Nat} {kl kc : IntKind} (hx : σ.look x = .p (.v (.int kl (n : Int)))) (hy : σ.look y = .p (.v (.int kc (n : Int)))) {d : Nat} (hfresh : σ.heap d = none) (hnx : σ.nx ≤ d)
    {e : TypeId} {r : Nat × Nat × Option Value} (ht : tyOf P t = some (.slice e, r)) {D : TypeDesc} {sz by_ : Nat} {z : Value} (hte : tyOf P e = some (D, sz, by_, some z)) (hz : z.cells.size = sz) (hz0 : 0 < sz) (h1 : z.cells.toList.all Value.oneCell' = true)
    (hb1 : by_ * n ≤ 281474976710656) (hb2 : n ≤ 281474976710656) (hd : DstOk N o) :
    OpOk P N o σ ((σ.setB d { cells := (List.replicate n (z.cells.toList.map fun c => AV.p (.v c))).flatten, ty := e }).put o.dst (.own true sz d 0 n)) := by
  obtain ⟨hu, _⟩ := tyOf_spec ht
  obtain ⟨_, i, hi, hs, hby, hzz⟩ := tyOf_spec hte
  have hzl : z.cells.toList.length = sz := by simpa using hz
  have hfl := madeCells_mul z.cells.toList (by omega) n
  rw [hzl] at hfl
  have hlen : ((List.replicate n z.cells.toList).flatten).length = n * sz := by rw [List.length_flatten]; simp [hz]
  refine OpOk.of_alloc hfresh hnx (fun w0 S0 Hd a w β S hI => ⟨(List.replicate n z.cells.toList).flatten, [], .slice (some ⟨w.heap.size, 0, none⟩) n n, ?_, fun β' _ => RelAL.flat_replicate _ _ _ _ _, ?_, fun β' S' w' hb => ?_⟩) hd
  · have e1 := hI.look x β (Agree.refl _ _)
    have e2 := hI.look y β (Agree.refl _ _)
    rw [hx] at e1
    rw [hy] at e2
    have e1 : a.eval x = .int kl n := e1
    have e2 : a.eval y = .int kc n := e2
    have hr := run_make (P := P) w t e i z hu hi hzz kl kc n n (by omega) (Int.le_refl _) (by
      rw [hby]
      have h3 : ((by_ * n : Nat) : Int) ≤ 281474976710656 := by omega
      rwa [Int.natCast_mul] at h3) (by omega)
    rw [Int.toNat_natCast, hs] at hr
    have hm : madeCells z.cells (n * sz) = ((List.replicate n z.cells.toList).flatten).toArray := by
      apply Array.ext'
      simp only [Array.toArray_toList] at hfl
      rw [hfl]
    rw [hm] at hr
    unfold execOp
    simp only [ho, e1, e2, Sem.run_bind, hr]
    simp
  · intro v hv
    rw [List.mem_flatten] at hv
    obtain ⟨l, hl, hv⟩ := hv
    rw [(List.mem_replicate.1 hl).2] at hv
    exact List.all_eq_true.1 h1 v hv
  · simp only [RelA, hb, List.append_nil, hlen]
    exact ⟨n, rfl, Nat.le_refl _, by unfold maxLen; omega, fun _ => ⟨trivial, rfl⟩⟩

/-- A store of a value into cells. -/
theorem ok_store {t : TypeId} {x y : Operand} (ho : o.op = .store t x y) (hdst : o.dst = none) {b off : Nat} (hx : σ.look x = .ptr b off) {k : Blk} (hb : σ.heap b = some k) (hl : k.live = true) (hp : k.pub = false)
    {D : TypeDesc} {sz : Nat} {r : Nat × Option Value} (ht : tyOf P t = some (D, sz, r)) (h1 : (σ.look y).cells.all AV.one = true) (h2 : (σ.look y).cells.length = sz) (h3 : off + sz ≤ k.cells.length) :
    OpOk P N o σ (σ.setB b { k with cells := k.cells.take off ++ (σ.look y).cells ++ k.cells.drop (off + sz) }) := fun w0 S0 Hd a w ⟨β, S, hI⟩ K Q hK => by
  obtain ⟨_, i, hi, hs, _⟩ := tyOf_spec ht
  have e1 := hI.look x β (Agree.refl _ _)
  rw [hx] at e1
  obtain ⟨g, szb, us, rest, hg, he, hh, hsz, h1c, hR, hSp, hB⟩ := hI.at_ptr e1 hb hl
  have hul : us.length = k.cells.length := hR.length
  have hv := AV.cells_rel (hI.look y β (Agree.refl _ _)) h1
  have hvl : (a.eval y).cells.size = sz := by have := hv.1.length; simp at this; omega
  have hst := run_storeCells_at P g off k.ty (a.eval y).cells.toList 0 (us ++ rest).toArray w hh (by simp [hvl]; omega) hv.2
  have hvl' : (a.eval y).cells.toList.length = sz := by simpa using hvl
  have ecells : ((us ++ rest).toArray.toList.take (off + 0) ++ (a.eval y).cells.toList ++ (us ++ rest).toArray.toList.drop (off + 0 + (a.eval y).cells.toList.length)) = (us.take off ++ (a.eval y).cells.toList ++ us.drop (off + sz)) ++ rest := by
    rw [hvl', Nat.add_zero]
    simp only []
    rw [List.take_append_of_le_length (by omega), List.drop_append_of_le_length (by omega)]
    simp
  rw [ecells] at hst
  unfold Oper.wp
  have hrun : (execOp a.eval o).run P w = .ok .skip (w.setRow g ((us.take off ++ (a.eval y).cells.toList ++ us.drop (off + sz)) ++ rest).toArray) := by
    unfold execOp
    simp only [ho, he, Instr.storeAt, Instr.sureAddr, Sem.run_bind, Sem.run_pure, Result.andThen_ok, storeVar, run_sizeOf hi, hs, hvl]
    simp only [ne_eq, not_true_eq_false, if_false, Result.andThen_ok, hst]
  rw [hrun]
  have hlen : ((us.take off ++ (a.eval y).cells.toList ++ us.drop (off + sz)) ++ rest).length = szb := by
    rw [← hsz]
    simp only [List.length_append, List.length_take, List.length_drop, hvl']
    omega
  refine hK _ _ ⟨β, S, ?_⟩
  rw [hdst]
  refine hI.turn hb hl hp hg (setRow_heap w g _ _ _ _ hh) hlen ?_ ?_ (fun g' hne => setRow_other w g g' _ hne) (by simp [World.setRow]) rfl rfl rfl
  · intro v hv'
    rcases List.mem_append.1 hv' with hv' | hv'
    · rcases List.mem_append.1 hv' with hv' | hv'
      · exact h1c v (List.mem_of_mem_take hv')
      · exact hv.2 v hv'
    · exact h1c v (List.mem_of_mem_drop hv')
  · intro β' hb'
    have := hI.cells_at hb hl hg hh hul hb'
    exact ((this.take off).append (AV.cells_rel (hI.look y β' hb') h1).1).append (this.drop (off + sz))

theorem set_eq_take_drop {α : Type} (l : List α) (i : Nat) (x : α) (h : i < l.length) : l.set i x = l.take i ++ [x] ++ l.drop (i + 1) := by
  apply List.ext_getElem?
  intro j
  rw [List.getElem?_set, List.append_assoc, List.getElem?_append]
  simp only [List.length_take, Nat.min_eq_left (Nat.le_of_lt h)]
  by_cases hji : j < i
  · rw [if_pos hji, List.getElem?_take, if_pos hji, if_neg (by omega)]
  · rw [if_neg hji, List.getElem?_append]
    by_cases he : i = j
    · subst he; simp [h]
    · rw [if_neg he, List.length_singleton, if_neg (by omega), List.getElem?_drop]
      congr 1; omega

/-- A store of one cell. -/
theorem ok_store_one {t : TypeId} {x y : Operand} (ho : o.op = .store t x y) (hdst : o.dst = none) {b off : Nat} (hx : σ.look x = .ptr b off) {k : Blk} (hb : σ.heap b = some k) (hl : k.live = true) (hp : k.pub = false)
    {D : TypeDesc} {r : Nat × Option Value} (ht : tyOf P t = some (D, 1, r)) (h1 : (σ.look y).cells.all AV.one = true) {c : AV} (h2 : (σ.look y).cells = [c]) (h3 : off < k.cells.length) :
    OpOk P N o σ (σ.setB b { k with cells := k.cells.set off c }) := by
  have := ok_store (P := P) (N := N) ho hdst hx hb hl hp ht h1 (by rw [h2]; rfl) (by omega)
  rw [h2] at this
  rwa [set_eq_take_drop _ _ _ h3]

/-! ### Publishing -/
theorem gh_publish {b : Nat} {k : Blk} (hb : σ.heap b = some k) (hl : k.live = true) : Gh N σ (σ.setB b { k with pub := true }) := fun w0 S0 Hd a w ⟨β, S, hI⟩ => by
  obtain ⟨S', h, _⟩ := hI.publish hb hl
  exact ⟨β, S', h⟩

theorem gh_nx {m : Nat} (h : σ.nx ≤ m) : Gh N σ { σ with nx := m } := fun w0 S0 Hd a w ⟨β, S, hI⟩ => by
  have hag : ∀ β', Agree { σ with nx := m } β β' → Agree σ β β' := fun β' hb b hbn => hb b (by
    rcases hbn with hbn | hbn
    · left; show b < m; omega
    · right; exact hbn)
  exact ⟨β, S, hI.defers, hI.size, fun β' hb => hI.env β' (hag β' hb), fun β' hb => hI.heap β' (hag β' hb), hI.inj, hI.cl, hI.keep, hI.new, hI.frame⟩

/-- A nil slice is taken for a slice of the call's own. -/
theorem gh_nilOwn {d t : Nat} (hfresh : σ.heap d = none) (hnx : σ.nx ≤ d) (he : σ.env t = .p (.v (.slice none 0 0))) (k : Nat) (ty : TypeId) :
    Gh N σ { σ with env := upd σ.env t (.own true k d 0 0), heap := upd σ.heap d (some { cells := [], ty := ty }) } := fun w0 S0 Hd a w ⟨β, S, hI⟩ => by
  have h2 := hI.placeNil hfresh hnx ty
  refine ⟨_, S, h2.defers, h2.size, fun β' hb t' => ?_, h2.heap, h2.inj, h2.cl, h2.keep, h2.new, h2.frame⟩
  have h3 := h2.env β' hb t'
  by_cases ht : t' = t
  · subst ht
    simp only [he] at h3
    have h3 : a.tmps.getD t' undef = .slice none 0 0 := h3
    have hbd : β' d = .nil := by rw [hb d (.inr (by simp [upd])), upd_same]
    simp only [upd, if_true, RelA, hbd, h3, and_self]
  · simp only [upd, if_neg ht]
    exact h3

/-! ### What is handed to a call -/
/-- What x stands for pv stands for. -/
def Conv (σ : ASt) (x : AV) (pv : PV) : Prop := ∀ N w0 S0 Hd a w β S, Inv N w0 S0 Hd σ a w β S → ∀ u, RelA β S w x u → RelP S w pv u

theorem conv_p (x : PV) : Conv σ (.p x) x := fun _ _ _ _ _ _ _ _ _ _ h => h
theorem conv_any (x : AV) : Conv σ x .any := fun _ _ _ _ _ _ _ _ _ _ _ => trivial
theorem conv_nil (c : Bool) : Conv σ (.p (.v (.slice none 0 0))) (.sl c []) := fun _ _ _ _ _ _ _ _ _ u h => by
  cases h
  exact ⟨none, 0, rfl, Nat.le_refl _, by simp [maxLen], fun _ => rfl, .inl rfl⟩
theorem conv_clip (c : Bool) (es : List (List PV)) : Conv σ (.p (.sl c es)) (.sl false es) := fun _ _ _ _ _ _ _ _ _ u h => by
  obtain ⟨A, c', h1, h2, h3, _, h5⟩ := h
  exact ⟨A, c', h1, h2, h3, by simp, h5⟩

def ConvL (σ : ASt) : List AV → List PV → Prop
  | [], [] => True
  | x :: xs, y :: ys => Conv σ x y ∧ ConvL σ xs ys
  | _, _ => False

theorem ConvL.rel {w0 : World} {S0 : Nat → Prop} {Hd : Nat → Nat → Nat → Prop} {a : Act} {w : World} {β : Nat → Pl} {S : Nat → Prop} (hI : Inv N w0 S0 Hd σ a w β S) : ∀ {xs : List AV} {ys : List PV} {us : List Value}, ConvL σ xs ys → RelAL β S w xs us → RelL S w ys us
  | [], [], _, _, h => h
  | _ :: _, _ :: _, _, hc, h => by
    obtain ⟨u, us', rfl, h1, h2⟩ := h
    exact ⟨u, us', rfl, hc.1 _ _ _ _ _ _ _ _ hI u h1, ConvL.rel hI hc.2 h2⟩
  | [], _ :: _, _, hc, _ => hc.elim
  | _ :: _, [], _, hc, _ => hc.elim

theorem conv_agg {xs : List AV} {ys : List PV} (h : ConvL σ xs ys) : Conv σ (.agg xs) (.agg ys) := fun N w0 S0 Hd a w β S hI u hu => by
  obtain ⟨us, rfl, hl⟩ := hu
  exact ⟨us, rfl, ConvL.rel hI h hl⟩

/-- The cells of some elements, as they lie behind one another. -/
theorem conv_own {full : Bool} {k b off n : Nat} {B : Blk} (hb : σ.heap b = some B) (hl : B.live = true) (hp : B.pub = true) {es : List (List PV)} (hn : es.length = n) (hk : ∀ e ∈ es, e.length = k)
    (hc : ConvL σ ((B.cells.drop off).take (n * k)) es.flatten) : Conv σ (.own full k b off n) (.sl false es) := fun N w0 S0 Hd a w β S hI u hu => by
  have hk0 := hI.heap β (Agree.refl _ _) b B hb hl
  simp only [RelA] at hu
  cases hpl : β b with
  | gone => rw [hpl] at hk0; exact hk0.elim
  | nil =>
    rw [hpl] at hu
    obtain ⟨rfl, rfl⟩ := hu
    have : es = [] := List.eq_nil_of_length_eq_zero hn
    subst this
    exact ⟨none, 0, rfl, Nat.le_refl _, by simp [maxLen], by simp, .inl rfl⟩
  | loc g sz =>
    rw [hpl] at hu hk0
    obtain ⟨c, rfl, hnc, hcm, _⟩ := hu
    obtain ⟨⟨us, rest, hh, hsz, h1, hR⟩, hS, _⟩ := hk0
    refine ⟨some ⟨g, off, none⟩, c, by rw [hn], by omega, hcm, by simp, ?_⟩
    by_cases he : es = []
    · exact .inl he
    · right
      refine ⟨g, off, k, rfl, hS.2 hp, ?_⟩
      have hL := ConvL.rel hI hc ((hR.drop off).take (n * k))
      have cell : ∀ j v, ((us.drop off).take (n * k))[j]? = some v → w.cell? ⟨g, off + j, none⟩ = some v ∧ v.oneCell' = true := fun j v hv => by
        rw [List.getElem?_take, List.getElem?_drop] at hv
        split at hv
        · have hlt := (List.getElem?_eq_some_iff.1 hv).1
          refine ⟨?_, h1 v (List.mem_of_getElem? hv)⟩
          rw [cell_of_list hh, List.getElem?_append_left hlt]; exact hv
        · cases hv
      -- the elements, one behind the other
      have keyC : ∀ (e : List PV) (vs : List Value) (off : Nat), RelL S w e vs → (∀ j v, vs[j]? = some v → w.cell? ⟨g, off + j, none⟩ = some v ∧ v.oneCell' = true) → RelC S w e g off := by
        intro e
        induction e with
        | nil => intro vs off _ _; trivial
        | cons x e ih =>
          rintro vs off ⟨u, us', rfl, hx, hr⟩ hcell
          have h0 := hcell 0 u rfl
          exact ⟨⟨u, h0.1, h0.2, hx⟩, ih us' (off + 1) hr fun j v hv => by
            have := hcell (j + 1) v (by simpa using hv)
            rwa [show off + (j + 1) = off + 1 + j by omega] at this⟩
      have split_rel : ∀ (e e' : List PV) (vs : List Value), RelL S w (e ++ e') vs → RelL S w e (vs.take e.length) ∧ RelL S w e' (vs.drop e.length) := by
        intro e
        induction e with
        | nil => intro e' vs h; simpa [RelL] using h
        | cons x e ih =>
          rintro e' vs ⟨u, us', rfl, hx, hr⟩
          obtain ⟨i1, i2⟩ := ih e' us' hr
          exact ⟨⟨u, us'.take e.length, by simp, hx, i1⟩, by simpa using i2⟩
      have keyE : ∀ (es : List (List PV)) (vs : List Value) (off : Nat), (∀ e ∈ es, e.length = k) → RelL S w es.flatten vs → (∀ j v, vs[j]? = some v → w.cell? ⟨g, off + j, none⟩ = some v ∧ v.oneCell' = true) → RelE S w es g off k := by
        intro es
        induction es with
        | nil => intro vs off _ _ _; trivial
        | cons e es ih =>
          intro vs off hk hr hcell
          have hke := hk e (List.mem_cons_self)
          rw [List.flatten_cons] at hr
          obtain ⟨r1, r2⟩ := split_rel e _ vs hr
          refine ⟨hke, keyC e _ off r1 (fun j v hv => hcell j v ?_), ih _ (off + k) (fun e' he' => hk e' (List.mem_cons_of_mem _ he')) r2 (fun j v hv => ?_)⟩
          · rw [List.getElem?_take] at hv
            split at hv
            · exact hv
            · cases hv
          · rw [List.getElem?_drop, hke] at hv
            have := hcell (k + j) v hv
            rwa [show off + (k + j) = off + k + j by omega] at this
      exact keyE es _ off hk hL cell

/-! ### Calls -/
/-- A function of the program that has Go text. -/
def Txt (P : Program) (f : FuncId) : Prop := ∃ fn, P.funcs[f]? = some fn ∧ (fn.name == "runtime.NumGoroutine") = false ∧ fn.body.isNone = false

theorem run_call {f : FuncId} (h : Txt P f) {x : Operand} {args : List Operand} {ts : Array TypeId} (ho : o.op = .call { callee := .value x, args := args.toArray, argTypes := ts }) {a : Act} {caps : List Value} (hx : a.eval x = .func (.func f) #[] caps.toArray) (w : World) :
    (execOp a.eval o).run P w = .ok (.enter f (args.map a.eval ++ caps).toArray) w := by
  obtain ⟨fn, hf, hn, hb⟩ := h
  have hn' : fn.name ≠ "runtime.NumGoroutine" := by simpa using hn
  have hb' : fn.body ≠ none := by intro h; rw [h] at hb; cases hb
  unfold execOp
  simp [ho, resolve, hx, Deferred.ofValue, invoke, callFunc, hf, hn', hb']

/-- With these arguments the call hands back this, and leaves all memory as it is. -/
def FnP (P : Program) (f : FuncId) (args : List PV) (r : PV) : Prop :=
  ∀ (w : World) (S : Nat → Prop) (vals : List Value), Cl S w → RelL S w args vals →
    Calls P f vals.toArray w fun e w' => ∃ (v : Value) (S' : Nat → Prop), e = .returned v ∧ RelP S' w' r v ∧ Below w.heap.size w w' ∧ (∀ g, S g → S' g) ∧ (∀ g, S' g → S g ∨ (w.heap.size ≤ g ∧ CellsAt w' g))

/-- A call has laid new blocks. -/
theorem Inv.grow {w0 : World} {S0 : Nat → Prop} {Hd : Nat → Nat → Nat → Prop} {a : Act} {w : World} {β : Nat → Pl} {S : Nat → Prop} (h : Inv N w0 S0 Hd σ a w β S) {w' : World} {S' : Nat → Prop} (hB : Below w.heap.size w w') (h1 : ∀ g, S g → S' g) (h2 : ∀ g, S' g → S g ∨ (w.heap.size ≤ g ∧ CellsAt w' g)) :
    Inv N w0 S0 Hd σ a w' β S' := by
  have hs : Stab S S' w w' := fun g hg => ⟨h1 g hg, hB.block g (h.lt g hg)⟩
  refine ⟨h.defers.keep fun D _ hS hD => ⟨fun h' => by
      rcases h2 D h' with h' | h'
      · exact hS h'
      · have := (Array.getElem?_eq_some_iff.1 hD).1; omega, hB.block D (Array.getElem?_eq_some_iff.1 hD).1⟩, h.size, fun β' hb t => RelA.mono hs _ _ (h.env β' hb t), fun β' hb b k e hl => (h.heap β' hb b k e hl).mono hs (fun g sz hg => ?_), h.inj, ⟨fun g hg => ?_, h.cl.gl.mono hs⟩, fun g hg => h1 g (h.keep g hg), fun g hg => ?_, ?_⟩
  · have hlt := h.loc_lt e hl hg
    refine ⟨hB.block g hlt, ?_, h1 g⟩
    intro hS'
    rcases h2 g hS' with h3 | h3
    · exact h3
    · omega
  · rcases h2 g hg with h3 | h3
    · exact (h.cl g h3).same (hB.block g (h.lt g h3))
    · exact h3.2
  · rcases h2 g hg with h3 | h3
    · exact h.new g h3
    · exact .inr (.inl (Nat.le_trans h.frame.size h3.1))
  · exact ⟨hB.os.trans h.frame.os, hB.tape.trans h.frame.tape, hB.output.trans h.frame.output, Nat.le_trans h.frame.size hB.size, fun g hg hn => (hB.block g (Nat.lt_of_lt_of_le hg h.frame.size)).trans (h.frame.block g hg hn)⟩

/-- A call of a function whose arguments and result do not change. -/
theorem ok_call {f : FuncId} (hT : Txt P f) {x : Operand} {args : List Operand} {ts : Array TypeId} (ho : o.op = .call { callee := .value x, args := args.toArray, argTypes := ts }) (hx : σ.look x = .fn f []) {pvs : List PV} {r : PV}
    (hf : FnP P f pvs r) (hc : ConvL σ (args.map σ.look) pvs) (hd : DstOk N o) : OpOk P N o σ (σ.put o.dst (.p r)) := fun w0 S0 Hd a w ⟨β, S, hI⟩ K Q hK => by
  have e1 := hI.look x β (Agree.refl _ _)
  rw [hx] at e1
  obtain ⟨us, he, hnil⟩ := e1
  have hnil : us = [] := hnil
  subst hnil
  unfold Oper.wp
  rw [run_call hT ho he w, List.append_nil]
  have hR := ConvL.rel hI hc (RelAL.map_look hI (Agree.refl _ _) args)
  refine (hf w S _ hI.cl hR).mono fun e w' => ?_
  rintro ⟨v, S', rfl, hv, hB, h1, h2⟩
  exact hK _ _ ⟨β, S', (hI.grow hB h1 h2).putO hd fun β' _ => hv⟩
end

end Vou
end
