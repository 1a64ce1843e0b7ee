/- A part of the proof: the abstract machine: regions, walks, contracts of functions. It holds without conditions. -/
import Derived.Test.YtljmndkpodcdnaaGreatDoorV2
import Derived.Maps.AppendAt
import Derived.Lib.AppendZeros
import Derived.RangeFuncLeaves
import Derived.RangeFuncRecord
import Derived.Deep.LoopGhost
import Derived.Test.YtljmndkpodcdnaaGreatDoorV1

section
set_option linter.unusedVariables false
set_option linter.unusedSimpArgs false
/- Slices that are built, appended to, copied into. -/
namespace Vou
open Go Go.RowKit

section
variable {P : Program} {N : Nat} {o : Oper} {σ σ' : ASt}

/-- What is appended: m elements, these cells. -/
def SrcOk (σ : ASt) (k m : Nat) (x : AV) (ys : List AV) : Prop :=
  ∀ N w0 S0 Hd a w β S, Inv N w0 S0 Hd σ a w β S → ∀ u, RelA β S w x u →
    ∃ (A : Option Addr) (c : Nat) (news : List Value), u = .slice A m c ∧ news.length = m * k ∧ (∀ β', Agree σ β β' → RelAL β' S w ys news) ∧ (∀ v ∈ news, v.oneCell' = true) ∧
      (0 < m → ∃ ad, A = some ad ∧ ∀ j v, news[j]? = some v → w.cell? (ad.add j) = some v)

theorem src_own {full : Bool} {k b off n : Nat} {B : Blk} (hb : σ.heap b = some B) (hl : B.live = true) (hlen : off + n * k ≤ B.cells.length) : SrcOk σ k n (.own full k b off n) ((B.cells.drop off).take (n * k)) := fun N w0 S0 Hd a w β S hI u hu => by
  have hk0 := hI.heap β (Agree.refl _ _) b B hb hl
  simp only [RelA] at hu
  cases hpl : β b with
  | gone => rw [hpl] at hk0; exact hk0.elim
  | nil =>
    rw [hpl] at hu hk0
    obtain ⟨rfl, rfl⟩ := hu
    exact ⟨none, 0, [], rfl, by simp, fun β' _ => by simp [RelAL], by simp, by simp⟩
  | loc g sz =>
    rw [hpl] at hu hk0
    obtain ⟨c, rfl, hnc, hcm, _⟩ := hu
    obtain ⟨⟨us, rest, hh, hsz, h1, hR⟩, _, _⟩ := hk0
    have hul : us.length = B.cells.length := hR.length
    refine ⟨_, c, (us.drop off).take (n * k), rfl, ?_, fun β' hb' => ((hI.cells_at hb hl hpl hh hul hb').drop off).take (n * k), fun v hv => h1 v (List.mem_of_mem_drop (List.mem_of_mem_take hv)), fun _ => ⟨_, rfl, fun j v hv => ?_⟩⟩
    · rw [List.length_take, List.length_drop]; omega
    · rw [Addr.add_lit, cell_of_list hh]
      rw [List.getElem?_take, List.getElem?_drop] at hv
      split at hv
      · have hlt := (List.getElem?_eq_some_iff.1 hv).1
        rw [List.getElem?_append_left hlt]; exact hv
      · cases hv

theorem RelC.list {S : Nat → Prop} {w : World} {b : Nat} : ∀ (xs : List PV) (off : Nat), RelC S w xs b off → ∃ us : List Value, us.length = xs.length ∧ RelL S w xs us ∧ (∀ v ∈ us, v.oneCell' = true) ∧ ∀ j v, us[j]? = some v → w.cell? ⟨b, off + j, none⟩ = some v
  | [], _, _ => ⟨[], rfl, rfl, by simp, fun j v hv => by simp at hv⟩
  | x :: xs, off, h => by
    obtain ⟨⟨u, h1, h2, h3⟩, h4⟩ := h
    obtain ⟨us, i1, i2, i3, i4⟩ := RelC.list xs (off + 1) h4
    refine ⟨u :: us, by simp [i1], ⟨u, us, rfl, h3, i2⟩, fun v hv => ?_, fun j v hv => ?_⟩
    · rcases List.mem_cons.1 hv with rfl | hv
      · exact h2
      · exact i3 v hv
    · cases j with
      | zero => simp at hv; subst hv; exact h1
      | succ j => simp at hv; have := i4 j v hv; rwa [show off + 1 + j = off + (j + 1) by omega] at this

theorem RelL.append {S : Nat → Prop} {w : World} : ∀ {xs ys : List PV} {us vs : List Value}, RelL S w xs us → RelL S w ys vs → RelL S w (xs ++ ys) (us ++ vs)
  | [], _, _, _, h, k => by cases h; exact k
  | _ :: xs, _, _, _, h, k => by
    obtain ⟨v, us', rfl, h1, h2⟩ := h
    exact ⟨v, us' ++ _, rfl, h1, RelL.append h2 k⟩

theorem RelE.list {S : Nat → Prop} {w : World} {b k : Nat} : ∀ (es : List (List PV)) (off : Nat), RelE S w es b off k → ∃ us : List Value, us.length = es.length * k ∧ RelL S w es.flatten us ∧ (∀ v ∈ us, v.oneCell' = true) ∧ ∀ j v, us[j]? = some v → w.cell? ⟨b, off + j, none⟩ = some v
  | [], _, _ => ⟨[], by simp, rfl, by simp, fun j v hv => by simp at hv⟩
  | e :: es, off, h => by
    obtain ⟨h1, h2, h3⟩ := h
    obtain ⟨us, i1, i2, i3, i4⟩ := RelC.list e off h2
    obtain ⟨vs, j1, j2, j3, j4⟩ := RelE.list es (off + k) h3
    refine ⟨us ++ vs, ?_, ?_, fun v hv => ?_, fun j v hv => ?_⟩
    · rw [List.length_append, i1, j1, h1, List.length_cons, Nat.add_mul]; omega
    · rw [List.flatten_cons]; exact i2.append j2
    · rcases List.mem_append.1 hv with hv | hv
      · exact i3 v hv
      · exact j3 v hv
    · rw [List.getElem?_append] at hv
      split at hv
      · exact i4 j v hv
      · have := j4 _ v hv
        rwa [show off + k + (j - us.length) = off + j by omega] at this

theorem src_sl {c : Bool} {es : List (List PV)} {k : Nat} (hk : ∀ e ∈ es, e.length = k) : SrcOk σ k es.length (.p (.sl c es)) (es.flatten.map AV.p) := fun N w0 S0 Hd a w β S hI u hu => by
  obtain ⟨A, c', rfl, h1, h2, h3, h4⟩ := hu
  rcases h4 with rfl | ⟨b, off, k', rfl, hS, hE⟩
  · exact ⟨A, c', [], rfl, by simp, fun β' _ => by simp [RelAL], by simp, by simp⟩
  · obtain ⟨us, i1, i2, i3, i4⟩ := RelE.list es off hE
    have hk' : es.length * k' = es.length * k := by
      cases es with
      | nil => simp
      | cons e es => rw [← hE.1, hk e (List.mem_cons_self)]
    exact ⟨_, c', us, rfl, by rw [i1, hk'], fun β' _ => RelAL.of_RelL i2, i3, fun _ => ⟨_, rfl, fun j v hv => by rw [Addr.add_lit]; exact i4 j v hv⟩⟩

theorem src_nil {k : Nat} : SrcOk σ k 0 (.p (.v (.slice none 0 0))) [] := fun N w0 S0 Hd a w β S hI u hu => by
  cases hu
  exact ⟨none, 0, [], rfl, by simp, fun β' _ => rfl, by simp, by simp⟩

theorem RelAL.prefix {β : Nat → Pl} {S : Nat → Prop} {w : World} {xs : List AV} {us rest : List Value} (h : RelAL β S w xs us) : (us ++ rest).take xs.length = us := by
  rw [List.take_append_of_le_length (by rw [h.length]; exact Nat.le_refl _), List.take_of_length_le (by rw [h.length]; exact Nat.le_refl _)]

/-- `[]T{..}`. -/
theorem ok_buildSlice {t : TypeId} {len : Nat} {parts : List (Nat × Operand)} (ho : o.op = .buildSlice t len parts.toArray) {d : Nat} (hfresh : σ.heap d = none) (hnx : σ.nx ≤ d)
    {e : TypeId} {r : Nat × Nat × Option Value} (ht : tyOf P t = some (.slice e, r)) {D : TypeDesc} {sz by_ : Nat} {z : Value} (hte : tyOf P e = some (D, sz, by_, some z)) (hz : z.cells.size = sz) (hz0 : 0 < sz) (h1 : z.cells.toList.all Value.oneCell' = true)
    (hlen : len * sz ≤ 16777216) {ys : List AV} (hf : aFill (fun i => some (i * sz, sz)) (List.replicate len (z.cells.toList.map fun c => AV.p (.v c))).flatten (parts.map fun q => (q.1, σ.look q.2)) = some ys) (hd : DstOk N o) :
    OpOk P N o σ ((σ.setB d { cells := ys, ty := e }).put o.dst (.own true sz d 0 len)) := by
  obtain ⟨hu, _⟩ := tyOf_spec ht
  obtain ⟨_, i, hi, hs, hby, hzz⟩ := tyOf_spec hte
  have hzl : z.cells.toList.length = sz := by simpa using hz
  have hlenz : ((List.replicate len z.cells.toList).flatten).length = len * sz := by rw [List.length_flatten]; simp [hz]
  have hones : ∀ v ∈ (List.replicate len z.cells.toList).flatten, v.oneCell' = true := by
    intro v hv
    rw [List.mem_flatten] at hv
    obtain ⟨l, hl, hv⟩ := hv
    rw [(List.mem_replicate.1 hl).2] at hv
    exact List.all_eq_true.1 h1 v hv
  refine OpOk.of_alloc hfresh hnx (fun w0 S0 Hd a w β S hI => ?_) hd
  have rel : ∀ β', Agree σ β β' → ∃ vs : List Value, Instr.fill (fun i => some (i * sz, sz)) ((List.replicate len z.cells.toList).flatten).toArray (parts.map fun q => (q.1, a.eval q.2)) = some vs.toArray ∧ RelAL β' S w ys vs := fun β' hb' =>
    aFill_run _ (parts.map fun q => (q.1, a.eval q.2)) _ _ ys hf (RelAL.flat_replicate _ _ _ _ _) (by simp) (fun j i x hj => by
      rw [List.getElem?_map] at hj
      cases hq : parts[j]? with
      | none => rw [hq] at hj; cases hj
      | some q =>
        rw [hq] at hj
        simp only [Option.map_some, Option.some.injEq, Prod.mk.injEq] at hj
        obtain ⟨rfl, rfl⟩ := hj
        exact ⟨a.eval q.2, by simp [hq], hI.look q.2 β' hb'⟩)
  obtain ⟨vs, hv, hR⟩ := rel β (Agree.refl _ _)
  -- what is filled in is one cell each, and the length stays
  have fill_one : ∀ (parts : List (Nat × Value)) (aparts : List (Nat × AV)) (xs : List AV) (us vs : List Value) (ys : List AV), aFill (fun i => some (i * sz, sz)) xs aparts = some ys → parts.length = aparts.length →
      (∀ (j i : Nat) (x : AV), aparts[j]? = some (i, x) → ∃ v : Value, parts[j]? = some (i, v) ∧ RelA β S w x v) → us.length = xs.length → (∀ v ∈ us, v.oneCell' = true) → Instr.fill (fun i => some (i * sz, sz)) us.toArray parts = some vs.toArray → vs.length = us.length ∧ ∀ v ∈ vs, v.oneCell' = true := by
    intro parts
    induction parts with
    | nil =>
      intro aparts xs us vs ys _ hl _ _ h1 hfl
      simp only [Instr.fill, Option.some.injEq] at hfl
      have : us = vs := by simpa using hfl
      subst this
      exact ⟨rfl, h1⟩
    | cons p parts ih =>
      intro aparts xs us vs ys ha hl hp hul h1 hfl
      obtain ⟨i, v⟩ := p
      cases aparts with
      | nil => simp at hl
      | cons ap aparts =>
        obtain ⟨i', x⟩ := ap
        obtain ⟨v', hv', hr⟩ := hp 0 i' x rfl
        simp only [List.getElem?_cons_zero, Option.some.injEq, Prod.mk.injEq] at hv'
        obtain ⟨rfl, rfl⟩ := hv'
        simp only [aFill] at ha
        split at ha
        · rename_i hc
          obtain ⟨c1, c2, c3⟩ := hc
          obtain ⟨hcR, hone⟩ := AV.cells_rel hr c3
          have hvl : v.cells.size = sz := by have := hcR.length; simp at this; omega
          simp only [Instr.fill] at hfl
          have hcond : ¬ ((decide (v.cells.size ≠ sz) || decide (i * sz + v.cells.size > us.toArray.size)) = true) := by
            simp only [List.size_toArray, Bool.or_eq_true, decide_eq_true_eq]; omega
          rw [if_neg hcond] at hfl
          have hf2 := fold_set v.cells.toList 0 (i * sz) us.toArray (by simp; omega)
          have e1 : v.cells.zipIdx.foldl (fun cs (p : Value × Nat) => cs.setIfInBounds (i * sz + p.2) p.1) us.toArray = (us.take (i * sz) ++ v.cells.toList ++ us.drop (i * sz + sz)).toArray := by
            rw [← Array.foldl_toList, Array.toList_zipIdx]
            simpa [hvl] using hf2
          have e2 : (Array.foldl (fun cs x => match x with | (c, j) => cs.setIfInBounds (i * sz + j) c) us.toArray v.cells.zipIdx) = (us.take (i * sz) ++ v.cells.toList ++ us.drop (i * sz + sz)).toArray := e1
          rw [e2] at hfl
          have hvl' : v.cells.toList.length = sz := by simpa using hvl
          have hlen2 : (us.take (i * sz) ++ v.cells.toList ++ us.drop (i * sz + sz)).length = us.length := by
            simp only [List.length_append, List.length_take, List.length_drop, hvl']; omega
          have hlen3 : (List.take (i * sz) xs ++ x.cells ++ List.drop (i * sz + sz) xs).length = xs.length := by
            simp only [List.length_append, List.length_take, List.length_drop, c1]; omega
          have := ih aparts _ _ vs ys ha (by simpa using hl) (fun j i x hj => by
            have := hp (j + 1) i x (by simpa using hj)
            simpa using this) (by rw [hlen2, hlen3, hul]) (fun u hu => by
              rcases List.mem_append.1 hu with hu | hu
              · rcases List.mem_append.1 hu with hu | hu
                · exact h1 u (List.mem_of_mem_take hu)
                · exact hone u hu
              · exact h1 u (List.mem_of_mem_drop hu)) hfl
          rwa [hlen2] at this
        · cases ha
  have hvs := fill_one (parts.map fun q => (q.1, a.eval q.2)) _ _ ((List.replicate len z.cells.toList).flatten) vs ys hf (by simp) (fun j i x hj => by
      rw [List.getElem?_map] at hj
      cases hq : parts[j]? with
      | none => rw [hq] at hj; cases hj
      | some q =>
        rw [hq] at hj
        simp only [Option.map_some, Option.some.injEq, Prod.mk.injEq] at hj
        obtain ⟨rfl, rfl⟩ := hj
        exact ⟨a.eval q.2, by simp [hq], hI.look q.2 β (Agree.refl _ _)⟩) (by rw [hlenz, List.length_flatten]; simp [hz]) hones hv
  refine ⟨vs, [], .slice (some ⟨w.heap.size, 0, none⟩) len len, ?_, fun β' hb' => ?_, hvs.2, fun β' S' w' hb => ?_⟩
  · have hm : ((Array.range (len * sz)).map (z.cells[· % z.cells.size]!)) = ((List.replicate len z.cells.toList).flatten).toArray := by
      have hfl := madeCells_mul z.cells.toList (by omega) len
      rw [hzl] at hfl
      simp only [Array.toArray_toList] at hfl
      exact Array.ext' (by rw [← hfl]; rfl)
    unfold execOp
    simp only [ho, Instr.buildSlice, Sem.run_bind, run_underlying hu, Result.andThen_ok, run_sizeOf hi, hs]
    have hnot : ¬ (len * sz > 2 ^ 24) := by omega
    rw [if_neg hnot]
    by_cases h0 : len * sz = 0
    · have : ((List.replicate len z.cells.toList).flatten).toArray = #[] := by
        apply Array.ext'
        simp only []
        exact List.eq_nil_of_length_eq_zero (by rw [hlenz, h0])
      rw [this] at hv
      have hv2 : Instr.fill (fun i => some (i * sz, sz)) #[] (parts.map fun x => (x.1, a.eval x.2)) = some vs.toArray := hv
      have hr0 : Array.range 0 = #[] := rfl
      simp [h0, hr0, hv2, newRow]
    · have hv2 : Instr.fill (fun i => some (i * sz, sz)) ((List.replicate len z.cells.toList).flatten).toArray (parts.map fun x => (x.1, a.eval x.2)) = some vs.toArray := hv
      have hzv : (zeroValue e).run P w = .ok z w := by simp [zeroValue, typeInfo, hi, hzz]
      rw [if_neg h0]
      simp only [Sem.run_bind, hzv, Result.andThen_ok, Sem.run_pure, hm]
      simp [hv2, newRow]
  · obtain ⟨vs', hv', hR'⟩ := rel β' hb'
    rw [hv] at hv'
    have : vs = vs' := by simpa using hv'
    subst this
    exact hR'
  · simp only [RelA, hb, List.append_nil, hvs.1, hlenz]
    refine ⟨len, rfl, Nat.le_refl _, ?_, fun _ => ⟨trivial, rfl⟩⟩
    have : len * 1 ≤ len * sz := Nat.mul_le_mul_left _ hz0
    unfold maxLen; omega

/-- What a slice that is appended to may be: of the call's own (then its block is b), or nil. -/
inductive Dest (σ : ASt) (e : TypeId) (k : Nat) : AV → Nat → List AV → Option Nat → Prop
  | own {b n : Nat} {B : Blk} (hb : σ.heap b = some B) (hl : B.live = true) (hp : B.pub = false) (ht : B.ty = e) (hlen : B.cells.length = n * k) : Dest σ e k (.own true k b 0 n) n B.cells (some b)
  | nil : Dest σ e k (.p (.v (.slice none 0 0))) 0 [] none

def ASt.killO (σ : ASt) : Option Nat → ASt
  | none => σ
  | some b => match σ.heap b with
    | none => σ
    | some B => σ.setB b { B with live := false }

theorem ok_append {t : TypeId} {s x : Operand} (ho : o.op = .call { callee := .builtin .append, args := #[s, x], argTypes := #[t, t] }) {d : Nat} (hfresh : σ.heap d = none) (hnx : σ.nx ≤ d)
    {e : TypeId} {r : Nat × Nat × Option Value} (ht : tyOf P t = some (.slice e, r)) {D : TypeDesc} {sz by_ : Nat} {z : Value} (hte : tyOf P e = some (D, sz, by_, some z)) (hz : z.cells.size = sz) (hz0 : 0 < sz)
    {n m : Nat} {xs ys : List AV} {ob : Option Nat} (hdest : Dest σ e sz (σ.look s) n xs ob) (hsrc : SrcOk σ sz m (σ.look x) ys) (hm : 0 < m) (hb1 : (n + m) * by_ ≤ 140737488355328) (hb2 : n + m ≤ 140737488355328) (hd : DstOk N o) :
    OpOk P N o σ (((σ.killO ob).setB d { cells := xs ++ ys, ty := e }).put o.dst (.own true sz d 0 (n + m))) := fun w0 S0 Hd a w ⟨β, S, hI⟩ K Q hK => by
  obtain ⟨hu, _⟩ := tyOf_spec ht
  obtain ⟨_, i, hi, hs, hby, hzz⟩ := tyOf_spec hte
  obtain ⟨A, c, news, hxe, hnl, hnR, hn1, hncell⟩ := hsrc _ _ _ _ _ _ _ _ hI _ (hI.look x β (Agree.refl _ _))
  obtain ⟨ad, rfl, hcell⟩ := hncell hm
  have hse := hI.look s β (Agree.refl _ _)
  -- the slice that is appended to, as the kit tells it
  have hown : ∃ us : List Value, w.ownsRow 0 e sz (a.eval s) n us ∧ (∀ β', Agree σ β β' → RelAL β' S w xs us) ∧ (∀ v ∈ us, v.oneCell' = true) ∧
      (∀ g, (a.eval s).ownBlock = some g → ∃ b szb, ob = some b ∧ β b = .loc g szb) := by
    generalize σ.look s = X at hdest hse
    cases hdest with
    | nil =>
      have hse : a.eval s = .slice none 0 0 := hse
      exact ⟨[], by rw [hse]; exact World.ownsRow_nil w 0 e sz, fun β' _ => rfl, by simp, by rw [hse]; simp [Value.ownBlock]⟩
    | own hb hl hp hty hlen =>
      rename_i b B
      have hk0 := hI.heap β (Agree.refl _ _) b B hb hl
      simp only [RelA] at hse
      cases hpl : β b with
      | gone => rw [hpl] at hk0; exact hk0.elim
      | nil =>
        rw [hpl] at hse hk0
        obtain ⟨hse, rfl⟩ := hse
        have hk0 : B.cells = [] := hk0
        refine ⟨[], by rw [hse]; exact World.ownsRow_nil w 0 e sz, fun β' _ => by rw [hk0]; rfl, by simp, by rw [hse]; simp [Value.ownBlock]⟩
      | loc g szb =>
        rw [hpl] at hse hk0
        obtain ⟨c', hse, hnc, hcm, hfull⟩ := hse
        obtain ⟨⟨us, rest, hh, hsz, h1, hR⟩, _, _⟩ := hk0
        have hul : us.length = B.cells.length := hR.length
        refine ⟨us, ⟨by rw [hul, hlen], .inr ⟨g, c', (us ++ rest).toArray, hse, Nat.zero_le _, by rw [hh, hty], hnc, hcm, ?_, ?_⟩⟩, fun β' hb' => hI.cells_at hb hl hpl hh hul hb', h1, ?_⟩
        · rw [List.size_toArray, hsz, (hfull trivial).2]
        · rw [show n * sz = us.length by rw [hul, hlen]]
          simp
        · intro g' hg'
          rw [hse] at hg'
          simp only [Value.ownBlock, Option.some.injEq] at hg'
          subst hg'
          exact ⟨b, szb, rfl, hpl⟩
  obtain ⟨us, hrow, husR, hus1, hblk⟩ := hown
  obtain ⟨v', w', hr, hrow', hgr, _, hat⟩ := run_append_own_at (P := P) w 0 t o.type e i z sz by_ hu hi hzz hs hby hz hz0 (a.eval s) n us hrow ad m c news hnl hcell hn1 (by unfold maxLen; omega) hb1 (Nat.zero_le _)
  unfold Oper.wp
  have hrun : (execOp a.eval o).run P w = .ok (.value v') w' := by
    unfold execOp
    simp only [ho, resolve, invoke, builtin, Sem.run_bind, Sem.run_pure, Result.andThen_ok, List.map_toArray, List.map_cons, List.map_nil, hxe, hr]
  rw [hrun]
  -- the elder block is no longer spoken of
  have hk : Inv N w0 S0 Hd (σ.killO ob) a w β S := by
    cases ob with
    | none => exact hI
    | some b =>
      simp only [ASt.killO]
      split
      · exact hI
      · rename_i B hb; exact hI.kill b B
  have hcells : ∀ g, (a.eval s).ownBlock = some g → ∃ cs t f, w.heap[g]? = some (.cells cs t f) := by
    intro g hg
    obtain ⟨b, szb, hob, hbl⟩ := hblk g hg
    generalize σ.look s = X at hdest hse
    cases hdest with
    | nil => cases hob
    | own hb hl hp hty hlen =>
      rename_i b0 B
      cases hob
      have hk0 := hI.heap β (Agree.refl _ _) b B hb hl
      rw [hbl] at hk0
      obtain ⟨⟨us, rest, j1, _⟩, _⟩ := hk0
      exact ⟨_, _, _, j1⟩
  have hnoS : ∀ g, (a.eval s).ownBlock = some g → ¬ S g ∧ (∀ b k szz, (σ.killO ob).heap b = some k → k.live = true → β b ≠ .loc g szz) ∧ (w0.heap.size ≤ g ∨ Hdd Hd g) := by
    intro g hg
    obtain ⟨b, szb, hob, hbl⟩ := hblk g hg
    generalize σ.look s = X at hdest hse
    cases hdest with
    | nil => cases hob
    | own hb hl hp hty hlen =>
      rename_i b0 B
      cases hob
      have hk0 := hI.heap β (Agree.refl _ _) b B hb hl
      rw [hbl] at hk0
      obtain ⟨_, hS, hB⟩ := hk0
      refine ⟨fun hSg => (by rw [hS.1 hSg] at hp; cases hp), fun b' k' szz e' hl' hb' => ?_, hB.1⟩
      simp only [ASt.killO, hb, ASt.setB, upd] at e'
      split at e'
      · (cases e'; cases hl')
      · rename_i hne
        exact hne (hI.inj b' b k' B g szz szb e' hl' hb hl hb' hbl)
  have h2 := hk.renew hgr hnoS hcells
  have hs2 : Stab S S w w' := fun g hS => ⟨hS, hgr.block g (hI.lt g hS) (fun e => (hnoS g e.symm).1 hS)⟩
  -- the new one
  rcases hrow'.2 with ⟨_, hn0⟩ | ⟨g', cap, cur, rfl, _, hg', hnc, hcm, hcs, htake⟩
  · omega
  · have hcur : cur = ((us ++ news) ++ cur.toList.drop ((n + m) * sz)).toArray := by
      apply Array.ext'
      rw [← htake]
      simp
    rw [hcur] at hg'
    have hag : ∀ β', Agree (σ.killO ob) β β' → Agree σ β β' := fun β' hb b hbn => hb b (by
      rcases hbn with hbn | hbn
      · left
        cases ob with
        | none => exact hbn
        | some b' =>
          simp only [ASt.killO]
          split
          · exact hbn
          · exact hbn
      · right
        cases ob with
        | none => exact hbn
        | some b' =>
          simp only [ASt.killO]
          split
          · exact hbn
          · simp only [ASt.setB, upd]
            split
            · rfl
            · exact hbn)
    have hfresh' : (σ.killO ob).heap d = none := by
      cases ob with
      | none => exact hfresh
      | some b' =>
        simp only [ASt.killO]
        split
        · exact hfresh
        · rename_i B' hB'
          simp only [ASt.setB, upd]
          split
          · rename_i hdb; rw [hdb, hB'] at hfresh; cases hfresh
          · exact hfresh
    have hnx' : (σ.killO ob).nx ≤ d := by
      cases ob with
      | none => exact hnx
      | some b' =>
        simp only [ASt.killO]
        split <;> exact hnx
    have hg'2 : (¬ S g') ∧ (∀ b k szz, (σ.killO ob).heap b = some k → k.live = true → β b ≠ .loc g' szz) ∧ (w0.heap.size ≤ g' ∨ Hdd Hd g') := by
      rcases hat with hat | hat
      · exact hnoS g' (by rw [← hat]; rfl)
      · have : g' = w.heap.size := by simpa [Value.ownBlock] using hat
        subst this
        exact ⟨fun hS => by have := hI.lt _ hS; omega, fun b k szz e hl hb => by have := hk.loc_lt e hl hb; omega, .inl hI.frame.size⟩
    have hones : ∀ v ∈ us ++ news, v.oneCell' = true := fun v hv => by
      rcases List.mem_append.1 hv with hv | hv
      · exact hus1 v hv
      · exact hn1 v hv
    have h3 := h2.place hfresh' hnx' hg' hg'2.1 hg'2.2.1 hg'2.2.2 (xs := xs ++ ys) (fun β' hb => (RelAL.mono hs2 _ _ (husR β' (hag β' hb))).append (RelAL.mono hs2 _ _ (hnR β' (hag β' hb)))) hones
    refine hK _ _ ⟨_, S, Inv.putO (σ := (σ.killO ob).setB d { cells := xs ++ ys, ty := e }) h3 hd (fun β' hb => ?_)⟩
    have hbd := hb d (.inr (by simp [ASt.setB, upd]))
    rw [upd_same] at hbd
    simp only [RelA, hbd]
    refine ⟨cap, rfl, hnc, hcm, fun _ => ⟨trivial, ?_⟩⟩
    rw [← hcs]
    have := congrArg Array.size hcur
    simpa using this

/-- Nothing is appended. -/
theorem ok_append_zero {t : TypeId} {s x : Operand} (ho : o.op = .call { callee := .builtin .append, args := #[s, x], argTypes := #[t, t] })
    {e : TypeId} {r : Nat × Nat × Option Value} (ht : tyOf P t = some (.slice e, r)) {D : TypeDesc} {sz by_ : Nat} {z : Option Value} (hte : tyOf P e = some (D, sz, by_, z))
    (hslice : ∀ w0 S0 Hd a w β S, Inv N w0 S0 Hd σ a w β S → ∃ A n c, a.eval s = .slice A n c ∧ n ≤ c) {ys : List AV} (hsrc : SrcOk σ sz 0 (σ.look x) ys) (hd : DstOk N o) :
    OpOk P N o σ (σ.put o.dst (σ.look s)) := by
  obtain ⟨hu, _⟩ := tyOf_spec ht
  obtain ⟨_, i, hi, hs, hby, hzz⟩ := tyOf_spec hte
  refine OpOk.of_yl (fun w0 S0 Hd a w β S hI => ⟨a.eval s, ?_, hI.look s⟩) hd
  obtain ⟨A, n, c, hse, hnc⟩ := hslice w0 S0 Hd a w β S hI
  obtain ⟨A', c', news, hxe, hnl, _⟩ := hsrc _ _ _ _ _ _ _ _ hI _ (hI.look x β (Agree.refl _ _))
  have hrun : (Builtin.append_ #[t, t] o.type #[.slice A n c, .slice A' 0 c']).run P w = .ok (.slice A n c) w := by
    have hload : ∀ b, (loadCells b 0).run P w = .ok #[] w := fun b => by simp [loadCells, loadCellsFrom]
    cases A <;> cases A' <;> simp [Builtin.append_, run_underlying hu, run_sizeOf hi, Builtin.lenOf, hnc, Builtin.firstCells, hload, storeCells]
  unfold execOp
  simp only [ho, resolve, invoke, builtin, Sem.run_bind, Sem.run_pure, Result.andThen_ok, List.map_toArray, List.map_cons, List.map_nil, hxe, hse, hrun]
end

end Vou
end

section
set_option linter.unusedVariables false
set_option linter.unusedSimpArgs false
/- Code: one law for each form. Loops; the way in and out of a function. -/
namespace Vou
open Go Go.RowKit

/-- From σ the code comes to an exit and a state of which Q holds. -/
def TR (P : Program) (N : Nat) (c : Code) (σ : ASt) (Q : Exit → ASt → Prop) : Prop :=
  ∀ w0 S0 Hd a w, RelSt N w0 S0 Hd σ a w → c.wp P (fun e a' w' => ∃ σ', Q e σ' ∧ RelSt N w0 S0 Hd σ' a' w') a w

/-- The same of the rest of a region. -/
def TL (P : Program) (N : Nat) (ops : Array Oper) (rest : List Oper) (σ : ASt) (Q : ASt → Prop) : Prop :=
  ∀ w0 S0 Hd a w, RelSt N w0 S0 Hd σ a w → wpList P ops (fun e a' w' => ∃ σ', (e = .normal ∧ Q σ') ∧ RelSt N w0 S0 Hd σ' a' w') rest a w

/-- The exit of a sequence: behind a normal end the rest. -/
def thenQ (N : ASt → Prop) (Q : Exit → ASt → Prop) : Exit → ASt → Prop
  | .normal, σ => N σ
  | e, σ => Q e σ

def blockQ (id : Nat) (Q : Exit → ASt → Prop) : Exit → ASt → Prop
  | .exit id', σ => if id' = id then Q .normal σ else Q (.exit id') σ
  | e, σ => Q e σ

section
variable {P : Program} {N : Nat} {σ σ' : ASt} {Q : Exit → ASt → Prop}

theorem TR.mono {c : Code} {Q' : Exit → ASt → Prop} (h : TR P N c σ Q) (hq : ∀ e σ', Q e σ' → Q' e σ') : TR P N c σ Q' := fun w0 S0 Hd a w r =>
  wp_mono (h w0 S0 Hd a w r) fun e _ _ ⟨σ', q, r'⟩ => ⟨σ', hq e σ' q, r'⟩

theorem TR.gh {c : Code} (h : TR P N c σ' Q) (k : Gh N σ σ') : TR P N c σ Q := fun w0 S0 Hd a w r => h w0 S0 Hd a w (k w0 S0 Hd a w r)
theorem TL.gh {ops : Array Oper} {rest : List Oper} {Q : ASt → Prop} (h : TL P N ops rest σ' Q) (k : Gh N σ σ') : TL P N ops rest σ Q := fun w0 S0 Hd a w r => h w0 S0 Hd a w (k w0 S0 Hd a w r)

theorem tr_skip (h : Q .normal σ) : TR P N .skip σ Q := fun _ _ _ _ _ r => wp_skip ⟨σ, h, r⟩
theorem tr_ret (h : Q .ret σ) : TR P N .ret σ Q := fun _ _ _ _ _ r => wp_ret ⟨σ, h, r⟩
theorem tr_exit {id : Nat} (h : Q (.exit id) σ) : TR P N (.exit id) σ Q := fun _ _ _ _ _ r => wp_exit ⟨σ, h, r⟩

theorem tr_seq {x y : Code} (h : TR P N x σ (thenQ (fun σ' => TR P N y σ' Q) Q)) : TR P N (.seq x y) σ Q := fun w0 S0 Hd a w r => by
  refine wp_seq (wp_mono (h w0 S0 Hd a w r) ?_)
  rintro e a' w' ⟨σ', q, r'⟩
  cases e with
  | normal => exact q w0 S0 Hd a' w' r'
  | _ => exact ⟨σ', q, r'⟩

theorem tr_cond {c : Operand} {x y : Code} {t : Bool} (hc : σ.look c = .p (.v (.bool t))) (h1 : t = true → TR P N x σ Q) (h2 : t = false → TR P N y σ Q) : TR P N (.cond c x y) σ Q := fun w0 S0 Hd a w r => by
  obtain ⟨β, S, hI⟩ := r
  have e := hI.look c β (Agree.refl _ _)
  rw [hc] at e
  have e : a.eval c = .bool t := e
  exact wp_cond_split e (fun ht => h1 ht w0 S0 Hd a w ⟨β, S, hI⟩) (fun ht => h2 ht w0 S0 Hd a w ⟨β, S, hI⟩)

theorem tr_block {id : Nat} {c : Code} (h : TR P N c σ (blockQ id Q)) : TR P N (.block id c) σ Q := fun w0 S0 Hd a w r => by
  refine wp_block (wp_mono (h w0 S0 Hd a w r) ?_)
  rintro e a' w' ⟨σ', q, r'⟩
  cases e with
  | exit id' =>
    simp only [blockQ] at q
    simp only [Exit.inBlock]
    split
    · rename_i hid; rw [if_pos hid] at q; exact ⟨σ', q, r'⟩
    · rename_i hid; rw [if_neg hid] at q; exact ⟨σ', q, r'⟩
  | _ => exact ⟨σ', q, r'⟩

/-- A loop: I i is the state at the head of a round, μ i what each round lowers. -/
theorem tr_loop {ι : Type} (I : ι → ASt) (μ : ι → Nat) (i0 : ι) {c : Code} (h0 : Gh N σ (I i0)) (h : ∀ i, TR P N c (I i) (thenQ (fun σ' => ∃ j, μ j < μ i ∧ Gh N σ' (I j)) Q)) : TR P N (.loop c) σ Q := fun w0 S0 Hd a w r => by
  refine wp_loop_ghost (fun n a w => ∃ i, μ i = n ∧ RelSt N w0 S0 Hd (I i) a w) (μ i0) ⟨i0, rfl, h0 _ _ _ _ _ r⟩ ?_
  rintro n a w ⟨i, rfl, r⟩
  refine wp_mono (h i w0 S0 Hd a w r) ?_
  rintro e a' w' ⟨σ', q, r'⟩
  cases e with
  | normal =>
    obtain ⟨j, hj, hg⟩ := q
    exact ⟨μ j, hj, j, rfl, hg _ _ _ _ _ r'⟩
  | _ => exact ⟨σ', q, r'⟩

theorem tr_region {id : Nat} {ops : Array Oper} {Qn : ASt → Prop} (h : TL P N ops ops.toList σ Qn) (hq : ∀ σ', Qn σ' → Q .normal σ') : TR P N (.region id ops false) σ Q := fun w0 S0 Hd a w r => by
  refine wp_region_list ?_
  have := h w0 S0 Hd a w r
  have mono : ∀ (rest : List Oper) (a : Act) (w : World), wpList P ops (fun e a' w' => ∃ σ', (e = .normal ∧ Qn σ') ∧ RelSt N w0 S0 Hd σ' a' w') rest a w → wpList P ops (fun e a' w' => ∃ σ', Q e σ' ∧ RelSt N w0 S0 Hd σ' a' w') rest a w := by
    intro rest
    have hmono : ∀ (o : Oper) (a : Act) (w : World) (K K' : Act → World → Prop), (∀ a w, K a w → K' a w) → o.wp P a w K (fun e a' w' => ∃ σ', (e = .normal ∧ Qn σ') ∧ RelSt N w0 S0 Hd σ' a' w') → o.wp P a w K' (fun e a' w' => ∃ σ', Q e σ' ∧ RelSt N w0 S0 Hd σ' a' w') := by
      intro o a w K K' hK hh
      unfold Oper.wp at *
      generalize (execOp a.eval o).run P w = r at *
      cases r with
      | ok n w' =>
        cases n <;> simp only [Oper.upon] at hh ⊢
        case value v => exact hK _ _ hh
        case skip => exact hK _ _ hh
        case defer d => exact hK _ _ hh
        case enter f args =>
          refine Calls.mono hh fun e w'' he => ?_
          cases e with
          | returned v => exact hK _ _ he
          | panicked ch => obtain ⟨_, ⟨h1, _⟩, _⟩ := he; cases h1
          | outgrown => obtain ⟨_, _, _, ⟨h1, _⟩, _⟩ := he; cases h1
        case row row args => exact Rows.mono hh fun v w'' he => hK _ _ he
      | halt x w' =>
        cases x <;> simp only [Oper.upon] at hh ⊢
        case panic v => obtain ⟨_, ⟨h1, _⟩, _⟩ := hh; cases h1
    induction rest with
    | nil =>
      rintro a w ⟨σ', ⟨_, q⟩, r'⟩
      exact ⟨σ', hq σ' q, r'⟩
    | cons o rest ih =>
      intro a w hh
      simp only [wpList] at hh ⊢
      split
      · rename_i hw
        rw [if_pos hw] at hh
        rcases hh with hh | ⟨_, ⟨_, _, _, ⟨h1, _⟩, _⟩⟩
        · exact .inl (hmono o a w _ _ ih hh)
        · cases h1
      · rename_i hw
        rw [if_neg hw] at hh
        exact ih _ _ hh
  exact mono _ _ _ this

theorem tl_nil {ops : Array Oper} {Q : ASt → Prop} (h : Q σ) : TL P N ops [] σ Q := fun _ _ _ _ _ r => ⟨σ, ⟨rfl, h⟩, r⟩

theorem tl_step {ops : Array Oper} {o : Oper} {rest : List Oper} {Q : ASt → Prop} (hg : o.guard = none) (ho : OpOk P N o σ σ') (h : TL P N ops rest σ' Q) : TL P N ops (o :: rest) σ Q := fun w0 S0 Hd a w r => by
  simp only [wpList]
  rw [if_pos (by simp [Region.wanted, hg])]
  exact .inl (ho w0 S0 Hd a w r _ _ fun a' w' r' => h w0 S0 Hd a' w' r')

/-- An operation under a guard: whether it is wanted stands in a slot. -/
theorem tl_guard {ops : Array Oper} {o : Oper} {rest : List Oper} {Q : ASt → Prop} {j d : Nat} {want b : Bool} (hg : o.guard = some (j, want)) (hj : (ops[j]?).bind (·.dst) = some d) (hd : d < N) (hb : σ.env d = .p (.v (.bool b)))
    (h1 : b = want → ∃ σ', OpOk P N o σ σ' ∧ TL P N ops rest σ' Q) (h2 : b ≠ want → (∀ d, o.dst = some d → d < N) ∧ TL P N ops rest (σ.put o.dst (.p (.v undef))) Q) : TL P N ops (o :: rest) σ Q := fun w0 S0 Hd a w r => by
  obtain ⟨β, S, hI⟩ := r
  have e := hI.env β (Agree.refl _ _) d
  rw [hb] at e
  have e : a.tmps.getD d undef = .bool b := e
  have hlt : d < a.tmps.size := by rw [hI.size]; exact hd
  have hy : yielded ops a.tmps j = some b := by
    unfold yielded
    rw [hj]
    have : a.tmps[d]? = some (.bool b) := by
      rw [Array.getD_eq_getD_getElem?, Array.getElem?_eq_getElem hlt] at e
      rw [Array.getElem?_eq_getElem hlt]
      exact congrArg some e
    simp [this]
  simp only [wpList]
  by_cases hw : b = want
  · rw [if_pos (by simp [Region.wanted, hg, hy, hw])]
    obtain ⟨σ', ho, hr⟩ := h1 hw
    exact .inl (ho w0 S0 Hd a w ⟨β, S, hI⟩ _ _ fun a' w' r' => hr w0 S0 Hd a' w' r')
  · rw [if_neg (by simp [Region.wanted, hg, hy, hw])]
    obtain ⟨hd', hr⟩ := h2 hw
    exact hr w0 S0 Hd _ w ⟨β, S, hI.putO hd' (fun β' _ => rfl)⟩

/-! ### A state is told more weakly -/
mutual
def AV.ren (ρ : Nat → Nat) : AV → AV
  | .p x => .p x
  | .own full k b o n => .own full k (ρ b) o n
  | .ptr b o => .ptr (ρ b) o
  | .agg xs => .agg (AV.renL ρ xs)
  | .tup xs => .tup (AV.renL ρ xs)
  | .fn f xs => .fn f (AV.renL ρ xs)
def AV.renL (ρ : Nat → Nat) : List AV → List AV
  | [] => []
  | x :: xs => AV.ren ρ x :: AV.renL ρ xs
end

mutual
/-- The blocks that a value names are some of these. -/
def AV.inD (D : Nat → Prop) : AV → Prop
  | .p _ => True
  | .own _ _ b _ _ => D b
  | .ptr b _ => D b
  | .agg xs => AV.inDL D xs
  | .tup xs => AV.inDL D xs
  | .fn _ xs => AV.inDL D xs
def AV.inDL (D : Nat → Prop) : List AV → Prop
  | [] => True
  | x :: xs => AV.inD D x ∧ AV.inDL D xs
end

mutual
theorem RelA.ren {D : Nat → Prop} {ρ : Nat → Nat} {β β' : Nat → Pl} {S : Nat → Prop} {w : World} (hb : ∀ b, D b → β' b = β (ρ b)) : ∀ (x : AV) (u : Value), AV.inD D x → RelA β S w (x.ren ρ) u → RelA β' S w x u
  | .p _, _, _, h => h
  | .own _ _ b _ _, _, hd, h => by
    simp only [RelA, AV.ren] at h ⊢
    rw [hb b hd]; exact h
  | .ptr b _, _, hd, h => by
    simp only [RelA, AV.ren] at h ⊢
    rw [hb b hd]; exact h
  | .agg xs, _, hd, h => by
    obtain ⟨us, e, hl⟩ := h
    exact ⟨us, e, RelAL.ren hb xs us hd hl⟩
  | .tup xs, _, hd, h => by
    obtain ⟨us, e, hl⟩ := h
    exact ⟨us, e, RelAL.ren hb xs us hd hl⟩
  | .fn _ xs, _, hd, h => by
    obtain ⟨us, e, hl⟩ := h
    exact ⟨us, e, RelAL.ren hb xs us hd hl⟩
theorem RelAL.ren {D : Nat → Prop} {ρ : Nat → Nat} {β β' : Nat → Pl} {S : Nat → Prop} {w : World} (hb : ∀ b, D b → β' b = β (ρ b)) : ∀ (xs : List AV) (us : List Value), AV.inDL D xs → RelAL β S w (AV.renL ρ xs) us → RelAL β' S w xs us
  | [], _, _, h => h
  | x :: xs, _, hd, h => by
    obtain ⟨u, us', e, h1, h2⟩ := h
    exact ⟨u, us', e, RelA.ren hb x u hd.1 h1, RelAL.ren hb xs us' hd.2 h2⟩
end

/-- A list of slots with their values; the others hold something. -/
def envL : List (Nat × AV) → Nat → AV
  | [], _ => .p .any
  | (i, x) :: l, t => if t = i then x else envL l t
def heapL : List (Nat × Blk) → Nat → Option Blk
  | [], _ => none
  | (i, x) :: l, b => if b = i then some x else heapL l b

theorem envL_cases (l : List (Nat × AV)) (t : Nat) : envL l t = .p .any ∨ (t, envL l t) ∈ l := by
  induction l with
  | nil => exact .inl rfl
  | cons p l ih =>
    obtain ⟨i, x⟩ := p
    simp only [envL]
    split
    · rename_i h; subst h; exact .inr (List.mem_cons_self)
    · rcases ih with h | h
      · exact .inl h
      · exact .inr (List.mem_cons_of_mem _ h)

theorem heapL_mem {l : List (Nat × Blk)} {b : Nat} {k : Blk} (h : heapL l b = some k) : (b, k) ∈ l := by
  induction l with
  | nil => cases h
  | cons p l ih =>
    obtain ⟨i, x⟩ := p
    simp only [heapL] at h
    split at h
    · rename_i hb; cases h; subst hb; exact List.mem_cons_self
    · exact List.mem_cons_of_mem _ (ih h)

/-- A state that lists what it says. -/
def stL (L : List (Nat × AV)) (H : List (Nat × Blk)) : ASt := { env := envL L, heap := heapL H, nx := 0 }

/-- What a slot holds is told anew: by another name of its block, or of values that do not change. -/
def Told (σ : ASt) (D : Nat → Prop) (ρ : Nat → Nat) (x y : AV) : Prop := (AV.inD D y ∧ x = y.ren ρ) ∨ ∃ pv, y = .p pv ∧ Conv σ x pv

theorem gh_told (ρ : Nat → Nat) (L : List (Nat × AV)) (H : List (Nat × Blk)) (hL : ∀ p ∈ L, Told σ (fun b => (heapL H b).isSome = true) ρ (σ.env p.1) p.2)
    (hH : ∀ p ∈ H, ∃ k', σ.heap (ρ p.1) = some k' ∧ k'.live = true ∧ p.2.live = true ∧ k'.ty = p.2.ty ∧ k'.pub = p.2.pub ∧ AV.inDL (fun b => (heapL H b).isSome = true) p.2.cells ∧ k'.cells = AV.renL ρ p.2.cells ∧ (∀ n, p.2.pin = some n → k'.pin = some n))
    (hinj : ∀ b b', (heapL H b).isSome = true → (heapL H b').isSome = true → ρ b = ρ b' → b = b') : Gh N σ (stL L H) := fun w0 S0 Hd a w ⟨β, S, hI⟩ => by
  have hdom : ∀ b, (heapL H b).isSome = true → ∃ k', σ.heap (ρ b) = some k' := fun b hb => by
    obtain ⟨k, hk⟩ := Option.isSome_iff_exists.1 hb
    obtain ⟨k', h1, _⟩ := hH _ (heapL_mem hk)
    exact ⟨k', h1⟩
  -- any placing of the listed blocks comes of one of the others
  have lift : ∀ β', Agree (stL L H) (fun b => if (heapL H b).isSome = true then β (ρ b) else .gone) β' → ∀ b, (heapL H b).isSome = true → β' b = β (ρ b) := fun β' hb b hbs => by
    have := hb b (.inr hbs)
    rw [this]
    show (if (heapL H b).isSome = true then β (ρ b) else Pl.gone) = _
    rw [if_pos hbs]
  refine ⟨fun b => if (heapL H b).isSome = true then β (ρ b) else .gone, S, hI.defers, hI.size, fun β' hb t => ?_, fun β' hb b k e hl => ?_, fun b b' k k' g sz sz' e hl e' hl' hb hb' => ?_, hI.cl, hI.keep, hI.new, hI.frame⟩
  · show RelA β' S w (envL L t) _
    rcases envL_cases L t with h | h
    · rw [h]; trivial
    · rcases hL _ h with ⟨hD, he⟩ | ⟨pv, he, hc⟩
      · refine RelA.ren (D := fun b => (heapL H b).isSome = true) (ρ := ρ) (β := β) (fun b hbs => lift β' hb b hbs) _ _ hD ?_
        rw [← he]
        exact hI.env β (Agree.refl _ _) t
      · simp only at he
        rw [he]
        exact hc _ _ _ _ _ _ _ _ hI _ (hI.env β (Agree.refl _ _) t)
  · have hk : heapL H b = some k := e
    have hbs : (heapL H b).isSome = true := by rw [hk]; rfl
    obtain ⟨k', h1, h2, h3, h4, h5, h6, h7, h8⟩ := hH _ (heapL_mem hk)
    simp only at h1 h3 h4 h5 h6 h7 h8
    show BlkRel w0.heap.size Hd S w β' k (if (heapL H b).isSome = true then β (ρ b) else .gone)
    rw [if_pos hbs]
    have hk' := hI.heap β (Agree.refl _ _) (ρ b) k' h1 h2
    cases hpl : β (ρ b) with
    | gone => rw [hpl] at hk'; exact hk'
    | nil =>
      rw [hpl] at hk'
      have hk' : k'.cells = [] := hk'
      rw [h7] at hk'
      show k.cells = []
      cases hc : k.cells with
      | nil => rfl
      | cons x xs => rw [hc] at hk'; simp [AV.renL] at hk'
    | loc g sz =>
      rw [hpl] at hk'
      obtain ⟨⟨us, rest, j1, j2, j3, j4⟩, j5, j6⟩ := hk'
      rw [h7] at j4
      exact ⟨⟨us, rest, by rw [← h4]; exact j1, j2, j3, RelAL.ren (D := fun b => (heapL H b).isSome = true) (fun b hbs => lift β' hb b hbs) _ _ h6 j4⟩, by rw [← h5]; exact j5, j6.1, fun n h => j6.2 n (h8 n h)⟩
  · have hbs : (heapL H b).isSome = true := by
      have : heapL H b = some k := e
      rw [this]; rfl
    have hbs' : (heapL H b').isSome = true := by
      have : heapL H b' = some k' := e'
      rw [this]; rfl
    rw [if_pos hbs] at hb
    rw [if_pos hbs'] at hb'
    obtain ⟨k1, e1, l1, _⟩ := hH _ (heapL_mem e)
    obtain ⟨k2, e2, l2, _⟩ := hH _ (heapL_mem e')
    exact hinj b b' hbs hbs' (hI.inj _ _ k1 k2 g sz sz' e1 l1 e2 l2 hb hb')

theorem renL_id : ∀ xs : List AV, (∀ x ∈ xs, x.ren id = x) → AV.renL id xs = xs
  | [], _ => rfl
  | x :: xs, h => by
    simp only [AV.renL]
    rw [h x (List.mem_cons_self), renL_id xs (fun y hy => h y (List.mem_cons_of_mem _ hy))]

/-- Lists of values that do not change name no block. -/
theorem renL_map_p {α : Type} (ρ : Nat → Nat) (f : α → PV) : ∀ l : List α, AV.renL ρ (l.map fun x => AV.p (f x)) = l.map fun x => AV.p (f x)
  | [] => rfl
  | x :: l => by simp only [List.map_cons, AV.renL, AV.ren, renL_map_p ρ f l]
theorem inDL_map_p {α : Type} (D : Nat → Prop) (f : α → PV) : ∀ l : List α, AV.inDL D (l.map fun x => AV.p (f x))
  | [] => trivial
  | _ :: l => ⟨trivial, inDL_map_p D f l⟩

/-! ### A function -/
def resOf (tmps : Array Value) : ResultVar → Sem Value
  | .tmp t => pure (tmps.getD t undef)
  | .cell a t => do loadVar t (← asAddr (tmps.getD a undef))

theorem results_eq (fn : Func) (tmps : Array Value) : results fn tmps = (do
    let vs ← fn.results.mapM (resOf tmps)
    pure (if h : vs.size = 1 then vs[0] else .tuple vs)) := by
  unfold results
  congr 1

/-- A result as the function's variables hold it. -/
def ResOk (P : Program) (N : Nat) (σ : ASt) (r : ResultVar) (pv : PV) : Prop :=
  ∀ w0 S0 Hd a w β S, Inv N w0 S0 Hd σ a w β S → ∃ u, (resOf a.tmps r).run P w = .ok u w ∧ RelP S w pv u

theorem res_tmp {t : Nat} {pv : PV} (h : Conv σ (σ.env t) pv) : ResOk P N σ (.tmp t) pv := fun w0 S0 Hd a w β S hI => ⟨a.tmps.getD t undef, by simp [resOf], h _ _ _ _ _ _ _ _ hI _ (hI.env β (Agree.refl _ _) t)⟩

theorem res_cell {b t blk off : Nat} {pv : PV} (hx : σ.env b = .ptr blk off) {k : Blk} (hb : σ.heap blk = some k) (hl : k.live = true) {d : TypeDesc} {sz by_ : Nat} {z : Option Value} (ht : tyOf P t = some (d, sz, by_, z)) (hd : isAggD d = true) (hlen : off + sz ≤ k.cells.length)
    (h : Conv σ (.agg ((k.cells.drop off).take sz)) pv) : ResOk P N σ (.cell b t) pv := fun w0 S0 Hd a w β S hI => by
  obtain ⟨hu, i, hi, hs, _⟩ := tyOf_spec ht
  have h1 := hI.env β (Agree.refl _ _) b
  rw [hx] at h1
  obtain ⟨g, szb, us, rest, hg, he, hh, hsz, h1c, hR, _⟩ := hI.at_ptr h1 hb hl
  have hul : us.length = k.cells.length := hR.length
  have hload : (loadCells ⟨g, off, none⟩ sz).run P w = .ok ((us.drop off).take sz).toArray w := by
    have := run_loadCells_list (P := P) w ⟨g, off, none⟩ ((us.drop off).take sz) (fun j v hv => by
      rw [Addr.add_lit, cell_of_list hh]
      rw [List.getElem?_take, List.getElem?_drop] at hv
      split at hv
      · rename_i hj
        rw [List.getElem?_append_left (by omega)]; exact hv
      · cases hv)
    rwa [List.length_take, List.length_drop, Nat.min_eq_left (by omega)] at this
  refine ⟨.agg ((us.drop off).take sz).toArray, ?_, h _ _ _ _ _ _ _ _ hI _ ⟨_, rfl, (hR.drop off).take sz⟩⟩
  simp only [resOf, he, asAddr, Sem.run_bind, Sem.run_pure, Result.andThen_ok, loadVar, isAgg_run hu, hd, if_true, run_sizeOf hi, hs]
  simp [hload]

def ResL (P : Program) (N : Nat) (σ : ASt) : List ResultVar → List PV → Prop
  | [], [] => True
  | r :: rs, p :: ps => ResOk P N σ r p ∧ ResL P N σ rs ps
  | _, _ => False

/-- The result of a function: one value, or several. -/
def packP : List PV → PV
  | [x] => x
  | xs => .tup xs

theorem ResL.run {w0 : World} {S0 : Nat → Prop} {Hd : Nat → Nat → Nat → Prop} {a : Act} {w : World} {β : Nat → Pl} {S : Nat → Prop} (hI : Inv N w0 S0 Hd σ a w β S) : ∀ {rs : List ResultVar} {ps : List PV}, ResL P N σ rs ps → ∃ us : List Value,
    (rs.mapM (resOf a.tmps)).run P w = .ok us w ∧ RelL S w ps us
  | [], [], _ => ⟨[], by simp, rfl⟩
  | r :: rs, p :: ps, h => by
    obtain ⟨u, hu, hr⟩ := h.1 w0 S0 Hd a w β S hI
    obtain ⟨us, hus, hrs⟩ := ResL.run hI h.2
    refine ⟨u :: us, ?_, u, us, rfl, hr, hrs⟩
    rw [List.mapM_cons, Sem.run_bind, hu, Result.andThen_ok, Sem.run_bind, hus]
    simp
  | [], _ :: _, h => h.elim
  | _ :: _, [], h => h.elim

def packV : List Value → Value
  | [x] => x
  | xs => .tuple xs.toArray

/-- How the arguments lie at the beginning. -/
def st0 (args : List PV) : ASt := { env := fun t => match args[t]? with | some x => .p x | none => .p .any, heap := fun _ => none, nx := 0 }

theorem st0_inv {args : List PV} {vals : List Value} {w : World} {S : Nat → Prop} (hS : Cl S w) (hR : RelL S w args vals) (hN : args.length ≤ N) :
    Inv N w S (fun _ _ _ => False) (st0 args) { tmps := vals.toArray ++ Array.replicate (N - vals.toArray.size) undef, defers := [] } w (fun _ => .gone) S := by
  have hl := hR.length
  refine ⟨Dfr.nil, ?_, fun β' _ t => ?_, fun β' _ b k e => ?_, fun b b' k k' g sz sz' e => ?_, hS, fun g h => h, fun g h => .inl h, ⟨rfl, rfl, rfl, Nat.le_refl _, fun _ _ _ => rfl⟩⟩
  · simp; omega
  · show RelA β' S w (match args[t]? with | some x => .p x | none => .p .any) _
    split
    · rename_i x hx
      obtain ⟨u, hu, hr⟩ := RelL.get hR t x hx
      have hlt := (List.getElem?_eq_some_iff.1 hu).1
      have : (vals.toArray ++ Array.replicate (N - vals.toArray.size) undef).getD t undef = u := by
        rw [Array.getD_eq_getD_getElem?, Array.getElem?_append_left (by simpa using hlt)]
        simp [hu]
      rw [this]; exact hr
    · trivial
  · cases e
  · cases e

/-- On the way out the marks of ranges are taken. -/
theorem Inv.leaveL {w0 : World} {S0 : Nat → Prop} {Hd : Nat → Nat → Nat → Prop} {σ : ASt} {a : Act} {β : Nat → Pl} {S : Nat → Prop} : ∀ (Ds : List Nat) (w : World), Ds.Nodup → (∀ D ∈ Ds, w0.heap.size ≤ D ∧ ¬ S D ∧ w.heap[D]? = some (.deferred (some []))) →
    Inv N w0 S0 Hd σ { a with defers := [] } w β S → ∃ w'', Inv N w0 S0 Hd σ { a with defers := [] } w'' β S ∧ ∀ (fn : Func) (R : Ending → World → Prop), (∃ v, (results fn a.tmps).run P w'' = .ok v w'' ∧ R (.returned v) w'') → LeavesInM Fence.wide 0 P fn a.tmps R (Ds.map mark) .returning w
  | [], w, _, _, h0 => ⟨w, h0, fun fn R h => h⟩
  | D :: Ds, w, hn, hk, h0 => by
    obtain ⟨hB, hS, hD⟩ := hk D (List.mem_cons_self)
    have hg : w.grownBy (w.putObj D (.deferred none)) (some D) := ⟨rfl, rfl, rfl, by simp, fun k _ hk => World.putObj_heap_other (fun e => hk (by rw [e]))⟩
    have h1 : Inv N w0 S0 Hd σ { a with defers := [] } (w.putObj D (.deferred none)) β S := h0.renewD hg (fun g e => by
      cases e
      refine ⟨hS, fun b k sz hb hl hbl => ?_, .inl hB⟩
      have hk := h0.heap β (Agree.refl _ _) b k hb hl
      rw [hbl] at hk
      obtain ⟨⟨us, rest, j1, _⟩, _⟩ := hk
      rw [hD] at j1
      injection j1 with j1
      injection j1) Dfr.nil
    obtain ⟨hnD, hn2⟩ := List.nodup_cons.1 hn
    obtain ⟨w'', h2, h3⟩ := Inv.leaveL Ds (w.putObj D (.deferred none)) hn2 (fun D' hD' => by
      obtain ⟨k1, k2, k3⟩ := hk D' (List.mem_cons_of_mem _ hD')
      exact ⟨k1, k2, (World.putObj_heap_other (fun e => hnD (by rw [← e]; exact hD'))).trans k3⟩) h1
    refine ⟨w'', h2, fun fn R h => ?_⟩
    exact ⟨by simp, .inl ⟨D, _, rfl, run_takeDeferred hD, h3 fn R h⟩⟩

theorem Inv.leave {w0 : World} {S0 : Nat → Prop} {Hd : Nat → Nat → Nat → Prop} {σ : ASt} {a : Act} {w : World} {β : Nat → Pl} {S : Nat → Prop} (hI : Inv N w0 S0 Hd σ a w β S) :
    ∃ w'', Inv N w0 S0 Hd σ { a with defers := [] } w'' β S ∧ ∀ (fn : Func) (R : Ending → World → Prop), (∃ v, (results fn a.tmps).run P w'' = .ok v w'' ∧ R (.returned v) w'') → LeavesInM Fence.wide 0 P fn a.tmps R a.defers .returning w := by
  have h0 : Inv N w0 S0 Hd σ { a with defers := [] } w β S := ⟨Dfr.nil, hI.size, hI.env, hI.heap, hI.inj, hI.cl, hI.keep, hI.new, hI.frame⟩
  obtain ⟨Ds, e, hd, hk⟩ := hI.defers
  rw [e]
  exact Inv.leaveL Ds w hd hk h0

theorem fnP_of_tr {f : FuncId} {fn : Func} (hf : P.funcs[f]? = some fn) {c : Code} (hb : fn.body = some c) {args : List PV} {r : PV} (hN : args.length ≤ fn.ntmps)
    (h : TR P fn.ntmps c (st0 args) (fun e σ => (e = .ret ∨ e = .normal) ∧ ∃ ps, r = packP ps ∧ ResL P fn.ntmps σ fn.results.toList ps)) : FnP P f args r := fun w S vals hS hR => by
  refine callsIn_wide (n := 0).1 (callsIn_of_wp_marks hf hb trivial (wpIn_wide.2 (wp_mono (h w S (fun _ _ _ => False) _ w ⟨_, S, st0_inv hS hR hN⟩) ?_)))
  rintro e a' w' ⟨σ', ⟨he, ps, rfl, hps⟩, β, S', hI⟩
  obtain ⟨w'', hI, hleave⟩ := hI.leave (P := P)
  obtain ⟨us, hus, hrs⟩ := ResL.run hI hps
  have hres : (results fn a'.tmps).run P w'' = .ok (packV us) w'' := by
    rw [results_eq, Sem.run_bind, Array.mapM_eq_mapM_toList, Sem.run_map, hus]
    cases us with
    | nil => rfl
    | cons u us => cases us with
      | nil => rfl
      | cons u' us => simp; rfl
  have hfin : ∃ v S'', (results fn a'.tmps).run P w'' = .ok v w'' ∧ (∃ (v' : Value), Ending.returned v = .returned v' ∧ RelP S'' w'' (packP ps) v' ∧ Below w.heap.size w w'' ∧ (∀ g, S g → S'' g) ∧ (∀ g, S'' g → S g ∨ (w.heap.size ≤ g ∧ CellsAt w'' g))) := by
    refine ⟨_, S', hres, _, rfl, ?_, ⟨hI.frame.os, hI.frame.tape, hI.frame.output, hI.frame.size, fun g hg => hI.frame.block g hg (fun ⟨_, _, h⟩ => h)⟩, hI.keep, fun g hg => ?_⟩
    · cases ps with
      | nil => cases hrs; exact ⟨[], rfl, rfl⟩
      | cons p ps => cases ps with
        | nil =>
          obtain ⟨u, us', rfl, h1, h2⟩ := hrs
          cases h2
          exact h1
        | cons p' ps =>
          obtain ⟨u, us', rfl, h1, u', us'', rfl, h2, h3⟩ := hrs
          exact ⟨_, rfl, u, _, rfl, h1, u', us'', rfl, h2, h3⟩
    · rcases hI.new g hg with h1 | h1 | h1
      · exact .inl h1
      · exact .inr ⟨h1, hI.cl g hg⟩
      · obtain ⟨_, _, h1⟩ := h1; exact h1.elim
  obtain ⟨v, S'', hv, v', hvv, hrest⟩ := hfin
  rcases he with rfl | rfl
  · exact hleave fn _ ⟨v, hv, v', S'', hvv, hrest⟩
  · exact hleave fn _ ⟨v, hv, v', S'', hvv, hrest⟩
end

end Vou
end

section
set_option linter.unusedVariables false
set_option linter.unusedSimpArgs false
/- Regions that draw their order: what is done stands in events that do not hinder each other. -/
namespace Vou
open Go Go.RowKit

/-- What an operation does: the slot and its value, the blocks; and what it looks at. -/
structure Ev where
  d : Option Nat
  x : AV
  hs : List (Nat × Blk)
  rt : List Nat
  rb : List Nat

def ASt.setBs : List (Nat × Blk) → ASt → ASt
  | [], σ => σ
  | p :: l, σ => ASt.setBs l (σ.setB p.1 p.2)

def Ev.ap (e : Ev) (s : ASt) : ASt := (ASt.setBs e.hs s).put e.d e.x

def lexS : List Ev → ASt → ASt
  | [], s => s
  | e :: l, s => lexS l (e.ap s)

/-- What is looked at stands as in L. -/
def Hold (e : Ev) (L s : ASt) : Prop := (∀ t, e.rt.contains t = true → s.env t = L.env t) ∧ (∀ b, e.rb.contains b = true → s.heap b = L.heap b) ∧ s.nx = L.nx

def OpG (P : Program) (N : Nat) (ops : Array Oper) (i : Nat) (s s' : ASt) : Prop :=
  ∀ w0 S0 Hd a w, RelSt N w0 S0 Hd s a w → ∀ (K : Act → World → Prop) (Q : Exit → Act → World → Prop), (∀ a' w', RelSt N w0 S0 Hd s' a' w' → K a' w') → wpOp P ops Q i K a w

/-! ### Footprints -/
def Ev.writesT (e : Ev) (t : Nat) : Bool := match e.d with | some d => Nat.beq d t | none => false
def Ev.writesB (e : Ev) (b : Nat) : Bool := e.hs.any fun p => Nat.beq p.1 b

/-- x may not be exchanged with y. -/
def Ev.hits (x y : Ev) : Bool :=
  (match x.d with | some d => y.rt.contains d || y.writesT d | none => false) ||
  (match y.d with | some d => x.rt.contains d | none => false) ||
  x.hs.any (fun p => y.rb.contains p.1 || y.writesB p.1) || y.hs.any (fun p => x.rb.contains p.1)

def bindsOn (o : Oper) (i : Nat) : Bool := o.after.toList.any fun e => Nat.beq e.on i && Region.binds .any e

/-- Operation number j, with what stands ahead of it. -/
def okOne (ops : Array Oper) (es : List Ev) (j : Nat) (y : Ev) : Bool :=
  match ops[j]? with
  | none => false
  | some o => (o.after.toList.all fun e => !Region.binds .any e || Nat.blt e.on j) && (List.range j).all fun i => match es[i]? with | some x => !x.hits y || bindsOn o i | none => false

def okAll (ops : Array Oper) (es : List Ev) : Bool := Nat.beq es.length ops.size && (List.range ops.size).all fun j => match es[j]? with | some y => okOne ops es j y | none => false

/-! ### What has been done so far -/
def doneS : List Ev → Nat → (Nat → Bool) → ASt → ASt
  | [], _, _, s => s
  | e :: l, k, m, s => doneS l (k + 1) m (if m k then e.ap s else s)

theorem setBs_env : ∀ (l : List (Nat × Blk)) (s : ASt), (ASt.setBs l s).env = s.env
  | [], _ => rfl
  | _ :: l, s => setBs_env l _
theorem setBs_nx : ∀ (l : List (Nat × Blk)) (s : ASt), (ASt.setBs l s).nx = s.nx
  | [], _ => rfl
  | _ :: l, s => setBs_nx l _
theorem put_heap (s : ASt) (d : Option Nat) (x : AV) : (s.put d x).heap = s.heap := by cases d <;> rfl
theorem put_nx (s : ASt) (d : Option Nat) (x : AV) : (s.put d x).nx = s.nx := by cases d <;> rfl
theorem ap_nx (e : Ev) (s : ASt) : (e.ap s).nx = s.nx := by rw [Ev.ap, put_nx, setBs_nx]

/-- The block that a list of blocks lays at b, the last one counts. -/
def lastB : List (Nat × Blk) → Nat → Option Blk → Option Blk
  | [], _, o => o
  | p :: l, b, o => lastB l b (if b = p.1 then some p.2 else o)
theorem setBs_heap : ∀ (l : List (Nat × Blk)) (s : ASt) (b : Nat), (ASt.setBs l s).heap b = lastB l b (s.heap b)
  | [], _, _ => rfl
  | p :: l, s, b => by rw [ASt.setBs, setBs_heap l, lastB]; rfl
theorem lastB_not : ∀ (l : List (Nat × Blk)) (b : Nat) (o : Option Blk), (l.any fun p => Nat.beq p.1 b) = false → lastB l b o = o
  | [], _, _, _ => rfl
  | p :: l, b, o, h => by
    simp only [List.any_cons, Bool.or_eq_false_iff] at h
    have hne : ¬ b = p.1 := fun e => by rw [e, Nat.beq_refl] at h; cases h.1
    rw [lastB, if_neg hne, lastB_not l b o h.2]
theorem lastB_is : ∀ (l : List (Nat × Blk)) (b : Nat) (o o' : Option Blk), (l.any fun p => Nat.beq p.1 b) = true → lastB l b o = lastB l b o'
  | [], _, _, _, h => by cases h
  | p :: l, b, o, o', h => by
    rw [lastB, lastB]
    by_cases hb : b = p.1
    · rw [if_pos hb, if_pos hb]
    · rw [if_neg hb, if_neg hb]
      refine lastB_is l b o o' ?_
      simp only [List.any_cons, Bool.or_eq_true] at h
      rcases h with h | h
      · exact absurd (Nat.eq_of_beq_eq_true h).symm hb
      · exact h

theorem ap_heap (e : Ev) (s : ASt) (b : Nat) : (e.ap s).heap b = lastB e.hs b (s.heap b) := by rw [Ev.ap, put_heap, setBs_heap]
theorem ap_env (e : Ev) (s : ASt) (t : Nat) : (e.ap s).env t = if e.writesT t = true then e.x else s.env t := by
  unfold Ev.ap Ev.writesT
  cases he : e.d with
  | none => simp [ASt.put, setBs_env]
  | some d =>
    simp only [ASt.put, upd, setBs_env]
    by_cases h : t = d
    · subst h; simp
    · have : Nat.beq d t = false := by
        cases hq : Nat.beq d t with
        | false => rfl
        | true => exact absurd (Nat.eq_of_beq_eq_true hq).symm h
      simp [h, this]

theorem ASt.ext' {s s' : ASt} (h1 : ∀ t, s.env t = s'.env t) (h2 : ∀ b, s.heap b = s'.heap b) (h3 : s.nx = s'.nx) : s = s' := by
  cases s; cases s'
  simp only at h1 h2 h3
  obtain rfl := funext h1
  obtain rfl := funext h2
  obtain rfl := h3
  rfl

theorem ap_comm {x y : Ev} (h : x.hits y = false) (s : ASt) : x.ap (y.ap s) = y.ap (x.ap s) := by
  simp only [Ev.hits, Bool.or_eq_false_iff] at h
  obtain ⟨⟨⟨h1, h2⟩, h3⟩, h4⟩ := h
  refine ASt.ext' (fun t => ?_) (fun b => ?_) (by simp only [ap_nx])
  · simp only [ap_env]
    by_cases hx : x.writesT t = true
    · have : y.writesT t = false := by
        unfold Ev.writesT at hx ⊢
        cases hd : x.d with
        | none => rw [hd] at hx; cases hx
        | some d =>
          rw [hd] at hx h1
          have e := Nat.eq_of_beq_eq_true hx
          subst e
          simp only [Bool.or_eq_false_iff] at h1
          exact h1.2
      simp [hx, this]
    · simp [hx]
  · simp only [ap_heap]
    cases hx : x.hs.any fun p => Nat.beq p.1 b with
    | false => rw [lastB_not _ _ _ hx, lastB_not _ _ _ hx]
    | true =>
      have hy : (y.hs.any fun p => Nat.beq p.1 b) = false := by
        rw [List.any_eq_true] at hx
        obtain ⟨p, hp, hpb⟩ := hx
        have e := Nat.eq_of_beq_eq_true hpb
        subst e
        have := List.any_eq_false.1 h3 p hp
        simp only [Bool.or_eq_true, not_or, Bool.not_eq_true] at this
        exact this.2
      rw [lastB_not _ _ _ hy, lastB_not _ _ _ hy]

theorem doneS_nx : ∀ (l : List Ev) (k : Nat) (m : Nat → Bool) (s : ASt), (doneS l k m s).nx = s.nx
  | [], _, _, _ => rfl
  | e :: l, k, m, s => by
    rw [doneS, doneS_nx l]
    split
    · exact ap_nx e s
    · rfl

theorem doneS_push (e : Ev) : ∀ (l : List Ev) (k : Nat) (m : Nat → Bool) (s : ASt), (∀ j y, l[j]? = some y → m (k + j) = true → e.hits y = false) → doneS l k m (e.ap s) = e.ap (doneS l k m s)
  | [], _, _, _, _ => rfl
  | y :: l, k, m, s, h => by
    rw [doneS, doneS]
    have ih := doneS_push e l (k + 1) m
    have h' : ∀ j z, l[j]? = some z → m (k + 1 + j) = true → e.hits z = false := fun j z hz hm => h (j + 1) z (by simpa using hz) (by rw [show k + (j + 1) = k + 1 + j by omega]; exact hm)
    split
    · rename_i hm
      have hc := ap_comm (h 0 y rfl (by simpa using hm)) s
      rw [← hc, ih _ h']
    · exact ih _ h'

theorem doneS_cong : ∀ (l : List Ev) (k : Nat) (m m' : Nat → Bool) (s : ASt), (∀ j, j < l.length → m (k + j) = m' (k + j)) → doneS l k m s = doneS l k m' s
  | [], _, _, _, _, _ => rfl
  | y :: l, k, m, m', s, h => by
    rw [doneS, doneS, show m k = m' k from by simpa using h 0 (by simp)]
    exact doneS_cong l (k + 1) m m' _ fun j hj => by
      have := h (j + 1) (by simp only [List.length_cons]; omega)
      rwa [show k + (j + 1) = k + 1 + j by omega] at this

/-- One more is done. -/
theorem doneS_insert : ∀ (l : List Ev) (k : Nat) (m m' : Nat → Bool) (s : ASt) (i : Nat) (e : Ev), l[i]? = some e → m (k + i) = false → m' (k + i) = true → (∀ j, j ≠ k + i → m' j = m j) →
    (∀ j y, i < j → l[j]? = some y → m (k + j) = true → e.hits y = false) → doneS l k m' s = e.ap (doneS l k m s)
  | [], _, _, _, _, i, _, h, _, _, _, _ => by simp at h
  | y :: l, k, m, m', s, 0, e, h, h0, h1, hm, hc => by
    simp only [List.getElem?_cons_zero, Option.some.injEq] at h
    subst h
    rw [doneS, doneS]
    simp only [Nat.add_zero] at h0 h1 hm
    rw [h0, h1]
    simp only [if_true, Bool.false_eq_true, if_false]
    rw [doneS_cong l (k + 1) m' m _ (fun j _ => hm _ (by omega))]
    refine doneS_push y l (k + 1) m s fun j z hz hmj => hc (j + 1) z (by omega) (by simpa using hz) (by rw [show k + (j + 1) = k + 1 + j by omega]; exact hmj)
  | y :: l, k, m, m', s, i + 1, e, h, h0, h1, hm, hc => by
    rw [doneS, doneS, hm k (by omega)]
    exact doneS_insert l (k + 1) m m' _ i e (by simpa using h) (by rw [show k + 1 + i = k + (i + 1) by omega]; exact h0) (by rw [show k + 1 + i = k + (i + 1) by omega]; exact h1)
      (fun j hj => hm j (by omega)) (fun j z hij hz hmj => hc (j + 1) z (by omega) (by simpa using hz) (by rw [show k + (j + 1) = k + 1 + j by omega]; exact hmj))

theorem doneS_env (t : Nat) : ∀ (l : List Ev) (k : Nat) (m m' : Nat → Bool) (s s' : ASt), s.env t = s'.env t → (∀ j y, l[j]? = some y → y.writesT t = true → m (k + j) = m' (k + j)) → (doneS l k m s).env t = (doneS l k m' s').env t
  | [], _, _, _, _, _, h, _ => h
  | y :: l, k, m, m', s, s', h, hj => by
    rw [doneS, doneS]
    refine doneS_env t l (k + 1) m m' _ _ ?_ (fun j z hz hw => by
      have := hj (j + 1) z (by simpa using hz) hw
      rwa [show k + (j + 1) = k + 1 + j by omega] at this)
    by_cases hw : y.writesT t = true
    · have := hj 0 y rfl hw
      simp only [Nat.add_zero] at this
      rw [this]
      split
      · rw [ap_env, ap_env, if_pos hw, if_pos hw]
      · exact h
    · have e1 : ∀ s, (y.ap s).env t = s.env t := fun s => by rw [ap_env, if_neg hw]
      split <;> split <;> simp [e1, h]

theorem doneS_heap (b : Nat) : ∀ (l : List Ev) (k : Nat) (m m' : Nat → Bool) (s s' : ASt), s.heap b = s'.heap b → (∀ j y, l[j]? = some y → y.writesB b = true → m (k + j) = m' (k + j)) → (doneS l k m s).heap b = (doneS l k m' s').heap b
  | [], _, _, _, _, _, h, _ => h
  | y :: l, k, m, m', s, s', h, hj => by
    rw [doneS, doneS]
    refine doneS_heap b l (k + 1) m m' _ _ ?_ (fun j z hz hw => by
      have := hj (j + 1) z (by simpa using hz) hw
      rwa [show k + (j + 1) = k + 1 + j by omega] at this)
    cases hw : y.writesB b with
    | true =>
      have := hj 0 y rfl hw
      simp only [Nat.add_zero] at this
      rw [this]
      split
      · rw [ap_heap, ap_heap]; exact lastB_is _ _ _ _ hw
      · exact h
    | false =>
      have e1 : ∀ s, (y.ap s).heap b = s.heap b := fun s => by rw [ap_heap]; exact lastB_not _ _ _ hw
      split <;> split <;> simp [e1, h]

theorem doneS_none : ∀ (l : List Ev) (k : Nat) (m : Nat → Bool) (s : ASt), (∀ j, j < l.length → m (k + j) = false) → doneS l k m s = s
  | [], _, _, _, _ => rfl
  | y :: l, k, m, s, h => by
    rw [doneS, show m k = false from by simpa using h 0 (by simp)]
    exact doneS_none l (k + 1) m _ fun j hj => by
      have := h (j + 1) (by simp only [List.length_cons]; omega)
      rwa [show k + (j + 1) = k + 1 + j by omega] at this

theorem doneS_all : ∀ (l : List Ev) (k : Nat) (m : Nat → Bool) (s : ASt), (∀ j, j < l.length → m (k + j) = true) → doneS l k m s = lexS l s
  | [], _, _, _, _ => rfl
  | y :: l, k, m, s, h => by
    rw [doneS, show m k = true from by simpa using h 0 (by simp), lexS]
    exact doneS_all l (k + 1) m _ fun j hj => by
      have := h (j + 1) (by simp only [List.length_cons]; omega)
      rwa [show k + (j + 1) = k + 1 + j by omega] at this

theorem doneS_take : ∀ (l : List Ev) (k n : Nat) (s : ASt), doneS l k (fun j => Nat.blt j (k + n)) s = lexS (l.take n) s
  | [], _, n, s => by simp [doneS, lexS]
  | y :: l, k, 0, s => by
    rw [doneS_none]
    · rfl
    · intro j _
      exact Bool.eq_false_iff.2 (fun h => by rw [Nat.blt_eq] at h; omega)
  | y :: l, k, n + 1, s => by
    rw [doneS, List.take_succ_cons, lexS, ← doneS_take l (k + 1) n]
    have : Nat.blt k (k + (n + 1)) = true := by simp
    rw [this]
    simp only [if_true, show k + (n + 1) = k + 1 + n by omega]

/-! ### The region -/
theorem okAll_get {ops : Array Oper} {es : List Ev} (h : okAll ops es = true) : es.length = ops.size ∧ ∀ j y, es[j]? = some y → ∃ o, ops[j]? = some o ∧ (∀ e ∈ o.after.toList, Region.binds .any e = true → e.on < j) ∧ ∀ i x, i < j → es[i]? = some x → x.hits y = true → ∃ e ∈ o.after.toList, e.on = i ∧ Region.binds .any e = true := by
  simp only [okAll, Bool.and_eq_true] at h
  have hl := Nat.eq_of_beq_eq_true h.1
  refine ⟨hl, fun j y hy => ?_⟩
  have hj : j < ops.size := by rw [← hl]; exact (List.getElem?_eq_some_iff.1 hy).1
  have h2 := List.all_eq_true.1 h.2 j (List.mem_range.2 hj)
  rw [hy] at h2
  simp only [okOne] at h2
  split at h2
  · cases h2
  · rename_i o ho
    refine ⟨o, ho, ?_, ?_⟩
    · intro e he hb
      simp only [Bool.and_eq_true] at h2
      have := List.all_eq_true.1 h2.1 e he
      rwa [hb, Bool.not_true, Bool.false_or, Nat.blt_eq] at this
    · intro i x hi hx hh
      simp only [Bool.and_eq_true] at h2
      have := List.all_eq_true.1 h2.2 i (List.mem_range.2 hi)
      rw [hx] at this
      simp only [hh, Bool.not_true, Bool.false_or] at this
      obtain ⟨e, he, hb⟩ := List.any_eq_true.1 this
      simp only [Bool.and_eq_true] at hb
      exact ⟨e, he, Nat.eq_of_beq_eq_true hb.1, hb.2⟩

theorem hits_of_writesT {x y : Ev} {t : Nat} (h : x.writesT t = true) (hy : y.rt.contains t = true) : x.hits y = true := by
  unfold Ev.writesT at h
  unfold Ev.hits
  cases hd : x.d with
  | none => rw [hd] at h; cases h
  | some d =>
    rw [hd] at h
    have e := Nat.eq_of_beq_eq_true h
    subst e
    simp [hy, -List.contains_eq_mem]
theorem hits_of_writesT' {x y : Ev} {t : Nat} (h : y.writesT t = true) (hx : x.rt.contains t = true) : x.hits y = true := by
  unfold Ev.writesT at h
  unfold Ev.hits
  cases hd : y.d with
  | none => rw [hd] at h; cases h
  | some d =>
    rw [hd] at h
    have e := Nat.eq_of_beq_eq_true h
    subst e
    simp [hx, -List.contains_eq_mem]
theorem hits_of_writesB {x y : Ev} {b : Nat} (h : x.writesB b = true) (hy : y.rb.contains b = true) : x.hits y = true := by
  obtain ⟨p, hp, hpb⟩ := List.any_eq_true.1 h
  have e := Nat.eq_of_beq_eq_true hpb
  subst e
  have : (x.hs.any fun p => y.rb.contains p.1 || y.writesB p.1) = true := List.any_eq_true.2 ⟨p, hp, by simp [hy, -List.contains_eq_mem]⟩
  unfold Ev.hits
  simp [this, -List.any_eq_true, -List.contains_eq_mem]
theorem hits_of_writesB' {x y : Ev} {b : Nat} (h : y.writesB b = true) (hx : x.rb.contains b = true) : x.hits y = true := by
  obtain ⟨p, hp, hpb⟩ := List.any_eq_true.1 h
  have e := Nat.eq_of_beq_eq_true hpb
  subst e
  have : (y.hs.any fun p => x.rb.contains p.1) = true := List.any_eq_true.2 ⟨p, hp, hx⟩
  unfold Ev.hits
  simp [this, -List.any_eq_true, -List.contains_eq_mem]

section
variable {P : Program} {N : Nat} {ops : Array Oper}

/-- A region whose order is drawn goes as in the order of its text. -/
theorem any_ok {es : List Ev} {σ : ASt} (hchk : okAll ops es = true) (hstep : ∀ i e, es[i]? = some e → ∀ s, Hold e (lexS (es.take i) σ) s → OpG P N ops i s (e.ap s))
    {w0 : World} {S0 : Nat → Prop} {Hd : Nat → Nat → Nat → Prop} {Q : Exit → Act → World → Prop} (hQ : ∀ a w, RelSt N w0 S0 Hd (lexS es σ) a w → Q .normal a w) :
    ∀ (fuel : Nat) (listed : Array Bool) (a : Act) (w : World), listed.size = ops.size → (∀ j o, ops[j]? = some o → listed.getD j false = true → ∀ e ∈ o.after.toList, Region.binds .any e = true → listed.getD e.on false = true) →
      ((List.range ops.size).filter fun j => !listed.getD j false).length ≤ fuel → RelSt N w0 S0 Hd (doneS es 0 (fun j => listed.getD j false) σ) a w → wpAny P .any ops Q fuel listed a w := by
  obtain ⟨hlen, hget⟩ := okAll_get hchk
  intro fuel
  -- where nothing is ready, all is done
  have hend : ∀ (listed : Array Bool) (a : Act) (w : World), listed.size = ops.size → RelSt N w0 S0 Hd (doneS es 0 (fun j => listed.getD j false) σ) a w → Region.ready .any ops listed = [] → Q .normal a w := by
    intro listed a w hsz hr hn
    have hall : ∀ j, j < ops.size → listed.getD j false = true := by
      intro j
      induction j using Nat.strongRecOn with
      | ind j ih =>
        intro hj
        cases hq : listed.getD j false with
        | true => rfl
        | false =>
          exfalso
          have hmem : j ∈ Region.ready .any ops listed := by
            unfold Region.ready
            rw [List.mem_filter]
            refine ⟨List.mem_range.2 hj, ?_⟩
            obtain ⟨y, hy⟩ : ∃ y, es[j]? = some y := ⟨es[j]'(by rw [hlen]; exact hj), List.getElem?_eq_getElem _⟩
            obtain ⟨o, ho, haft, _⟩ := hget j y hy
            rw [ho]
            have h1 : listed.getD j true = false := by
              rw [Array.getD_eq_getD_getElem?, Array.getElem?_eq_getElem (by rw [hsz]; exact hj)] at hq ⊢
              exact hq
            simp only [h1, Bool.not_false, Option.map_some, Option.getD_some, Bool.true_and]
            rw [Array.all_eq_true_iff_forall_mem]
            intro e he
            cases hb : Region.binds .any e with
            | false => rfl
            | true =>
              have := ih e.on (haft e (by simpa using he) hb) (Nat.lt_trans (haft e (by simpa using he) hb) hj)
              simp [this, -Array.getD_eq_getD_getElem?]
          rw [hn] at hmem
          cases hmem
    refine hQ a w ?_
    rwa [doneS_all es 0 _ σ (fun j hj => by rw [Nat.zero_add]; exact hall j (by rw [← hlen]; exact hj))] at hr
  induction fuel with
  | zero =>
    intro listed a w hsz hcl hf hr
    have hn : Region.ready .any ops listed = [] := by
      unfold Region.ready
      rw [List.filter_eq_nil_iff]
      intro j hj hh
      have : j ∈ (List.range ops.size).filter fun j => !listed.getD j false := by
        rw [List.mem_filter]
        refine ⟨hj, ?_⟩
        simp only [Bool.and_eq_true] at hh
        have h1 := hh.1
        rw [Array.getD_eq_getD_getElem?, Array.getElem?_eq_getElem (by rw [hsz]; exact List.mem_range.1 hj)] at h1 ⊢
        exact h1
      rw [List.eq_nil_of_length_eq_zero (Nat.le_zero.1 hf)] at this
      cases this
    exact ⟨hn, hend listed a w hsz hr hn⟩
  | succ fuel ih =>
    intro listed a w hsz hcl hf hr
    refine ⟨fun hn => hend listed a w hsz hr hn, fun i hi => ?_⟩
    unfold Region.ready at hi
    rw [List.mem_filter] at hi
    obtain ⟨hir, hi⟩ := hi
    have hil := List.mem_range.1 hir
    obtain ⟨e, he⟩ : ∃ e, es[i]? = some e := ⟨es[i]'(by rw [hlen]; exact hil), List.getElem?_eq_getElem _⟩
    obtain ⟨o, ho, haft, hhit⟩ := hget i e he
    rw [ho] at hi
    simp only [Bool.and_eq_true, Option.map_some, Option.getD_some] at hi
    have hi0 : listed.getD i false = false := by
      have h1 := hi.1
      rw [Array.getD_eq_getD_getElem?, Array.getElem?_eq_getElem (by rw [hsz]; exact hil)] at h1 ⊢
      simpa using h1
    have hready : ∀ ed ∈ o.after.toList, Region.binds .any ed = true → listed.getD ed.on false = true := by
      intro ed hed hb
      have := (Array.all_eq_true_iff_forall_mem.1 hi.2) ed (by simpa using hed)
      rw [hb] at this
      simpa using this
    -- what is done and hits i stands ahead of it, and all that stands ahead and hits it is done
    have hahead : ∀ j y, es[j]? = some y → j < i → y.hits e = true → listed.getD j false = true := by
      intro j y hy hji hh
      obtain ⟨ed, hed, hon, hb⟩ := hhit j y hji hy hh
      rw [← hon]; exact hready ed hed hb
    have hbehind : ∀ j y, es[j]? = some y → i < j → listed.getD j false = true → e.hits y = false := by
      intro j y hy hij hm
      cases hq : e.hits y with
      | false => rfl
      | true =>
        exfalso
        obtain ⟨o', ho', _, hh'⟩ := hget j y hy
        obtain ⟨ed, hed, hon, hb⟩ := hh' i e hij he hq
        have := hcl j o' ho' hm ed hed hb
        rw [hon, hi0] at this
        cases this
    have hsame : ∀ j y, es[j]? = some y → (j < i → y.hits e = true) → (i < j → e.hits y = true) → listed.getD (0 + j) false = Nat.blt (0 + j) (0 + i) := by
      intro j y hy h1 h2
      rw [Nat.zero_add, Nat.zero_add]
      rcases Nat.lt_trichotomy j i with h | h | h
      · rw [hahead j y hy h (h1 h)]
        exact ((Nat.blt_eq).mpr h).symm
      · subst h
        rw [hi0]
        cases hq : Nat.blt j j with
        | false => rfl
        | true => rw [Nat.blt_eq] at hq; omega
      · have : listed.getD j false = false := by
          cases hq : listed.getD j false with
          | false => rfl
          | true =>
            have := hbehind j y hy h hq
            rw [h2 h] at this; cases this
        rw [this]
        cases hq : Nat.blt j i with
        | false => rfl
        | true => rw [Nat.blt_eq] at hq; omega
    have hhold : Hold e (lexS (es.take i) σ) (doneS es 0 (fun j => listed.getD j false) σ) := by
      rw [← doneS_take es 0 i σ]
      refine ⟨fun t ht => ?_, fun b hb => ?_, ?_⟩
      · exact doneS_env t es 0 _ _ σ σ rfl fun j y hy hw => hsame j y hy (fun _ => hits_of_writesT hw ht) (fun _ => hits_of_writesT' hw ht)
      · exact doneS_heap b es 0 _ _ σ σ rfl fun j y hy hw => hsame j y hy (fun _ => hits_of_writesB hw hb) (fun _ => hits_of_writesB' hw hb)
      · rw [doneS_nx, doneS_nx]
    refine hstep i e he _ hhold w0 S0 Hd a w hr _ _ fun a' w' hr' => ?_
    have hgd : ∀ j, (listed.setIfInBounds i true).getD j false = if j = i then true else listed.getD j false := by
      intro j
      rw [Array.getD_eq_getD_getElem?, Array.getD_eq_getD_getElem?, Array.getElem?_setIfInBounds]
      by_cases h : i = j
      · subst h; simp [hsz, hil]
      · simp [h, Ne.symm h]
    refine ih _ a' w' (by simpa using hsz) ?_ ?_ ?_
    · intro j o' ho' hj ed hed hb
      rw [hgd] at hj ⊢
      split
      · rfl
      · by_cases hji : j = i
        · subst hji
          rw [ho] at ho'; cases ho'
          exact hready ed hed hb
        · rw [if_neg hji] at hj
          exact hcl j o' ho' hj ed hed hb
    · have hlt : ((List.range ops.size).filter fun j => !(listed.setIfInBounds i true).getD j false).length < ((List.range ops.size).filter fun j => !listed.getD j false).length := by
        have hsub : ((List.range ops.size).filter fun j => !(listed.setIfInBounds i true).getD j false) = ((List.range ops.size).filter fun j => !listed.getD j false).filter fun j => !(Nat.beq j i) := by
          rw [List.filter_filter]
          refine List.filter_congr fun j _ => ?_
          rw [hgd]
          by_cases h : j = i
          · subst h; simp
          · have : Nat.beq j i = false := by
              cases hq : Nat.beq j i with
              | false => rfl
              | true => exact absurd (Nat.eq_of_beq_eq_true hq) h
            simp [h, this, -Array.getD_eq_getD_getElem?]
        rw [hsub]
        refine List.length_filter_lt_length_iff_exists.2 ⟨i, ?_, by simp⟩
        rw [List.mem_filter]
        exact ⟨hir, by rw [hi0]; rfl⟩
      omega
    · rwa [doneS_insert es 0 (fun j => listed.getD j false) _ σ i e he (by simpa using hi0) (by simp [hgd, -Array.getD_eq_getD_getElem?]) (fun j hj => by simp only [hgd]; rw [if_neg (by omega)]) (fun j y hij hy hm => hbehind j y hy hij (by simpa using hm))]

theorem tr_any {id : Nat} {σ : ASt} {Q : Exit → ASt → Prop} (hm : P.follows .mixedOrders = true) {es : List Ev} (hchk : okAll ops es = true) (hstep : ∀ i e, es[i]? = some e → ∀ s, Hold e (lexS (es.take i) σ) s → OpG P N ops i s (e.ap s))
    (h : Q .normal (lexS es σ)) : TR P N (.region id ops true) σ Q := fun w0 S0 Hd a w ⟨β, S, hI⟩ => by
  refine wp_region_any hm ?_
  refine any_ok (es := es) (σ := σ) (w0 := w0) (S0 := S0) (Hd := Hd) hchk hstep (fun a w r => ⟨_, h, r⟩) _ _ _ _ (by simp) ?_ ?_ ?_
  · intro j o ho hj
    simp [Array.getD_eq_getD_getElem?, Array.getElem?_replicate] at hj
    split at hj <;> simp at hj
  · exact Nat.le_trans (List.length_filter_le _ _) (by simp)
  · rw [doneS_none]
    · exact ⟨β, S, hI.drawn rfl rfl rfl rfl⟩
    · intro j _
      simp [Array.getD_eq_getD_getElem?, Array.getElem?_replicate]
      split <;> rfl

/-! ### The walk of such a region, operation by operation -/
/-- The first operations are told by 'es' (the last one first); 'rest' is to come. -/
def DR (P : Program) (N : Nat) (ops : Array Oper) (σ : ASt) : Nat → ASt → List Oper → List Ev → Prop
  | i, L, [], es => es = [] ∧ i = ops.size
  | i, L, o :: rest, [] => False
  | i, L, o :: rest, e :: es => (∀ s, Hold e L s → OpG P N ops i s (e.ap s)) ∧ DR P N ops σ (i + 1) (e.ap L) rest es

theorem DR.get {σ : ASt} : ∀ {rest : List Oper} {es : List Ev} {i : Nat} {L : ASt}, DR P N ops σ i L rest es → ∀ j e, es[j]? = some e → ∀ s, Hold e (lexS (es.take j) L) s → OpG P N ops (i + j) s (e.ap s)
  | [], es, i, L, h, j, e, he => by rw [h.1] at he; simp at he
  | o :: rest, [], i, L, h, j, e, he => h.elim
  | o :: rest, e' :: es, i, L, h, 0, e, he => by
    simp only [List.getElem?_cons_zero, Option.some.injEq] at he
    subst he
    exact h.1
  | o :: rest, e' :: es, i, L, h, j + 1, e, he => by
    have := DR.get h.2 j e (by simpa using he)
    rw [show i + 1 + j = i + (j + 1) by omega] at this
    exact this

theorem tr_drawn {id : Nat} {σ : ASt} {Q : Exit → ASt → Prop} (hm : P.follows .mixedOrders = true) {es : List Ev} (h : DR P N ops σ 0 σ ops.toList es) (hchk : okAll ops es = true) (hq : Q .normal (lexS es σ)) : TR P N (.region id ops true) σ Q :=
  tr_any hm hchk (fun i e he s hs => by have := h.get i e he s hs; rwa [Nat.zero_add] at this) hq

theorem opG_of {i : Nat} {o : Oper} {s s' : ASt} (hi : ops[i]? = some o) (hg : o.guard = none) (h : OpOk P N o s s') : OpG P N ops i s s' := fun w0 S0 Hd a w r K Q hK => by
  simp only [wpOp, hi]
  rw [if_pos (by simp [Region.wanted, hg])]
  exact .inl (h w0 S0 Hd a w r K Q hK)

theorem opG_guard {i : Nat} {o : Oper} {s s' : ASt} {j d : Nat} {want b : Bool} (hi : ops[i]? = some o) (hg : o.guard = some (j, want)) (hj : (ops[j]?).bind (·.dst) = some d) (hd : d < N) (hb : s.env d = .p (.v (.bool b)))
    (h1 : b = want → OpOk P N o s s') (h2 : b ≠ want → (∀ d, o.dst = some d → d < N) ∧ s' = s.put o.dst (.p (.v undef))) : OpG P N ops i s s' := fun w0 S0 Hd a w ⟨β, S, hI⟩ K Q hK => by
  have e := hI.env β (Agree.refl _ _) d
  rw [hb] at e
  have e : a.tmps.getD d undef = .bool b := e
  have hlt : d < a.tmps.size := by rw [hI.size]; exact hd
  have hy : yielded ops a.tmps j = some b := by
    unfold yielded
    rw [hj]
    have : a.tmps[d]? = some (.bool b) := by
      rw [Array.getD_eq_getD_getElem?, Array.getElem?_eq_getElem hlt] at e
      rw [Array.getElem?_eq_getElem hlt]
      exact congrArg some (by simpa using e)
    simp [this]
  simp only [wpOp, hi]
  by_cases hbw : b = want
  · rw [if_pos (by simp [Region.wanted, hg, hy, hbw])]
    exact .inl (h1 hbw w0 S0 Hd a w ⟨β, S, hI⟩ K Q hK)
  · rw [if_neg (by simp [Region.wanted, hg, hy, hbw])]
    obtain ⟨hdd, hs'⟩ := h2 hbw
    subst hs'
    exact hK _ _ ⟨β, S, hI.putO hdd fun β' _ => rfl⟩
end

end Vou
end

section
set_option linter.unusedVariables false
set_option linter.unusedSimpArgs false
/- The operations, told as a walk needs them. -/
namespace Vou
open Go Go.RowKit

/-- The slot that an operation writes. -/
def DS (N : Nat) (o : Oper) (d : Option Nat) : Prop := o.dst = d ∧ (match d with | some d => Nat.blt d N | none => true) = true

theorem DS.ok {N : Nat} {o : Oper} {d : Option Nat} (h : DS N o d) : DstOk N o := fun e he => by
  obtain ⟨h1, h2⟩ := h
  rw [← h1, he] at h2
  rwa [Nat.blt_eq] at h2

/-- How many numbers a kind without sign has, and how many of the positive ones a kind with sign has. -/
def lim : IntKind → Nat
  | .u8 => 256
  | .u16 => 65536
  | .u32 => 4294967296
  | .u64 => 18446744073709551616
  | .i64 => 9223372036854775808
  | .i32 => 2147483648
  | .i16 => 32768
  | .i8 => 128

theorem wrap_lim {k : IntKind} {n : Nat} (h : n < lim k) : k.wrap (n : Int) = n := by
  cases k <;> simp only [lim] at h <;> simp only [IntKind.wrap, IntKind.signed, IntKind.bits, Bool.false_eq_true, if_false, if_true, Bool.cond_true, Bool.cond_false] <;> first | omega | (simp; omega)

/-- The same as 'OpOk', 'TR', 'TL': as structures, so that Lean does not look into them. -/
structure Ok (P : Program) (N : Nat) (o : Oper) (σ σ' : ASt) : Prop where
  get : OpOk P N o σ σ'
structure Tr (P : Program) (N : Nat) (c : Code) (σ : ASt) (Q : Exit → ASt → Prop) : Prop where
  get : TR P N c σ Q
structure Tl (P : Program) (N : Nat) (ops : Array Oper) (rest : List Oper) (σ : ASt) (Q : ASt → Prop) : Prop where
  get : TL P N ops rest σ Q

abbrev I (k : IntKind) (n : Nat) : AV := .p (.v (.int k ((n : Nat) : Int)))
abbrev Bo (b : Bool) : AV := .p (.v (.bool b))

section
variable {P : Program} {N : Nat} {o : Oper} {σ : ASt}

theorem o_mv (d : Option Nat) (hd : DS N o d) {x : Operand} (ho : o.op = .move x) {y : AV} (hx : σ.look x = y) : Ok P N o σ (σ.put d y) := by
  have := OpOk.of_yl (P := P) (σ := σ) (yl_move ho) hd.ok
  rw [hd.1, hx] at this
  exact ⟨this⟩
theorem o_as (d : Option Nat) (hd : DS N o d) {x : Operand} (ho : o.op = .assign x) {y : AV} (hx : σ.look x = y) : Ok P N o σ (σ.put d y) := by
  have := OpOk.of_yl (P := P) (σ := σ) (yl_assign ho) hd.ok
  rw [hd.1, hx] at this
  exact ⟨this⟩

theorem o_yl (d : Option Nat) (hd : DS N o d) {y : AV} (h : Yl P N o σ y) : Ok P N o σ (σ.put d y) := by
  have := OpOk.of_yl h hd.ok
  rw [hd.1] at this
  exact ⟨this⟩

/-! ### Numbers -/
section

theorem o_add {t t' : TypeId} {x y : Operand} {k : IntKind} {m n : Nat} (d : Option Nat) (hd : DS N o d) (hx : σ.look x = I k m) (hy : σ.look y = I k n) (ho : o.op = .binOp .add t x y t') (hr : m + n < lim k) : Ok P N o σ (σ.put d (I k (m + n))) :=
  o_yl d hd (yl_bin ho hx hy (by
    simp only [aBin, if_true]
    rw [← Int.natCast_add, wrap_lim hr]))
theorem o_sub {t t' : TypeId} {x y : Operand} {k : IntKind} {m n : Nat} (d : Option Nat) (hd : DS N o d) (hx : σ.look x = I k m) (hy : σ.look y = I k n) (ho : o.op = .binOp .sub t x y t') (hm : m < lim k) (hr : n ≤ m) : Ok P N o σ (σ.put d (I k (m - n))) :=
  o_yl d hd (yl_bin ho hx hy (by
    simp only [aBin, if_true]
    rw [show (m : Int) - (n : Int) = ((m - n : Nat) : Int) by omega, wrap_lim (by omega)]))
theorem o_mul {t t' : TypeId} {x y : Operand} {k : IntKind} {m n : Nat} (d : Option Nat) (hd : DS N o d) (hx : σ.look x = I k m) (hy : σ.look y = I k n) (ho : o.op = .binOp .mul t x y t') (hr : m * n < lim k) : Ok P N o σ (σ.put d (I k (m * n))) :=
  o_yl d hd (yl_bin ho hx hy (by
    simp only [aBin, if_true]
    rw [← Int.natCast_mul, wrap_lim hr]))
theorem o_quo {t t' : TypeId} {x y : Operand} {k : IntKind} {m n : Nat} (d : Option Nat) (hd : DS N o d) (hx : σ.look x = I k m) (hy : σ.look y = I k n) (ho : o.op = .binOp .quo t x y t') (hm : m < lim k) (hr : 0 < n) : Ok P N o σ (σ.put d (I k (m / n))) :=
  o_yl d hd (yl_bin ho hx hy (by
    simp only [aBin, if_true]
    rw [if_neg (by omega), ← Int.ofNat_tdiv, wrap_lim (Nat.lt_of_le_of_lt (Nat.div_le_self _ _) hm)]))
theorem o_rem {t t' : TypeId} {x y : Operand} {k : IntKind} {m n : Nat} (d : Option Nat) (hd : DS N o d) (hx : σ.look x = I k m) (hy : σ.look y = I k n) (ho : o.op = .binOp .rem t x y t') (hr : 0 < n) : Ok P N o σ (σ.put d (I k (m % n))) :=
  o_yl d hd (yl_bin ho hx hy (by
    simp only [aBin, if_true]
    rw [if_neg (by omega), ← Int.ofNat_tmod]))
theorem o_lss {t t' : TypeId} {x y : Operand} {k : IntKind} {m n : Nat} (d : Option Nat) (hd : DS N o d) (hx : σ.look x = I k m) (hy : σ.look y = I k n) (ho : o.op = .binOp .lss t x y t') : Ok P N o σ (σ.put d (Bo (decide (m < n)))) :=
  o_yl d hd (yl_bin ho hx hy (by simp [aBin]))
theorem o_leq {t t' : TypeId} {x y : Operand} {k : IntKind} {m n : Nat} (d : Option Nat) (hd : DS N o d) (hx : σ.look x = I k m) (hy : σ.look y = I k n) (ho : o.op = .binOp .leq t x y t') : Ok P N o σ (σ.put d (Bo (decide (m ≤ n)))) :=
  o_yl d hd (yl_bin ho hx hy (by simp [aBin]))
theorem o_gtr {t t' : TypeId} {x y : Operand} {k : IntKind} {m n : Nat} (d : Option Nat) (hd : DS N o d) (hx : σ.look x = I k m) (hy : σ.look y = I k n) (ho : o.op = .binOp .gtr t x y t') : Ok P N o σ (σ.put d (Bo (decide (n < m)))) :=
  o_yl d hd (yl_bin ho hx hy (by simp [aBin]))
theorem o_geq {t t' : TypeId} {x y : Operand} {k : IntKind} {m n : Nat} (d : Option Nat) (hd : DS N o d) (hx : σ.look x = I k m) (hy : σ.look y = I k n) (ho : o.op = .binOp .geq t x y t') : Ok P N o σ (σ.put d (Bo (decide (n ≤ m)))) :=
  o_yl d hd (yl_bin ho hx hy (by simp [aBin]))
theorem o_eql {t t' : TypeId} {x y : Operand} {k : IntKind} {m n : Nat} (d : Option Nat) (hd : DS N o d) (hx : σ.look x = I k m) (hy : σ.look y = I k n) (ho : o.op = .binOp .eql t x y t') : Ok P N o σ (σ.put d (Bo (decide (m = n)))) :=
  o_yl d hd (yl_bin ho hx hy (by
    simp only [aBin, if_true]
    congr 2
    rw [Bool.eq_iff_iff]; simp; omega))
theorem o_neq {t t' : TypeId} {x y : Operand} {k : IntKind} {m n : Nat} (d : Option Nat) (hd : DS N o d) (hx : σ.look x = I k m) (hy : σ.look y = I k n) (ho : o.op = .binOp .neq t x y t') : Ok P N o σ (σ.put d (Bo (decide (m ≠ n)))) :=
  o_yl d hd (yl_bin ho hx hy (by
    simp only [aBin, if_true]
    congr 2
    rw [Bool.eq_iff_iff]; simp; omega))
end

/-- Any operation with two numbers. -/
theorem o_int (d : Option Nat) (hd : DS N o d) {op : BinOp} {t t' : TypeId} {x y : Operand} {k k' : IntKind} {m n : Int} (hx : σ.look x = .p (.v (.int k m))) (hy : σ.look y = .p (.v (.int k' n))) (ho : o.op = .binOp op t x y t') {r : Value} (hr : aBin op (.int k m) (.int k' n) = some r) :
    Ok P N o σ (σ.put d (.p (.v r))) := o_yl d hd (yl_bin ho hx hy hr)

theorem o_not (d : Option Nat) (hd : DS N o d) {t : TypeId} {x : Operand} (ho : o.op = .unOp .not t x) {m : Bool} (hx : σ.look x = Bo m) : Ok P N o σ (σ.put d (Bo !m)) := o_yl d hd (yl_not ho hx)

theorem o_conv (d : Option Nat) (hd : DS N o d) {src dst : TypeId} {x : Operand} (ho : o.op = .convert src dst x) {k k' : IntKind} {m : Nat} (hx : σ.look x = I k m)
    {D : TypeDesc} {r r' : Nat × Nat × Option Value} (hs : tyOf P src = some (D, r)) (hdt : tyOf P dst = some (.int k', r')) (hr : m < lim k') : Ok P N o σ (σ.put d (I k' m)) :=
  o_yl d hd (by have := yl_convert_int (N := N) ho hx hs hdt; rwa [wrap_lim hr] at this)

theorem o_seql (d : Option Nat) (hd : DS N o d) {t t' : TypeId} {x y : Operand} {m n : ByteArray} (hx : σ.look x = .p (.v (.string m))) (hy : σ.look y = .p (.v (.string n))) (ho : o.op = .binOp .eql t x y t') : Ok P N o σ (σ.put d (Bo (m.toList == n.toList))) :=
  o_yl d hd (yl_bin_str ho hx hy rfl)
theorem o_sneq (d : Option Nat) (hd : DS N o d) {t t' : TypeId} {x y : Operand} {m n : ByteArray} (hx : σ.look x = .p (.v (.string m))) (hy : σ.look y = .p (.v (.string n))) (ho : o.op = .binOp .neq t x y t') : Ok P N o σ (σ.put d (Bo (!(m.toList == n.toList)))) :=
  o_yl d hd (yl_bin_str ho hx hy rfl)
theorem o_sadd (d : Option Nat) (hd : DS N o d) {t t' : TypeId} {x y : Operand} {m n : ByteArray} (hx : σ.look x = .p (.v (.string m))) (hy : σ.look y = .p (.v (.string n))) (ho : o.op = .binOp .add t x y t') (hr : m.size + n.size < 9223372036854775808) : Ok P N o σ (σ.put d (.p (.v (.string (m ++ n))))) :=
  o_yl d hd (yl_bin_str ho hx hy (by
    simp only [aBin]
    rw [if_neg]
    have : IntKind.i64.max = 9223372036854775807 := by decide
    omega))
theorem o_beql (d : Option Nat) (hd : DS N o d) {t t' : TypeId} {x y : Operand} {m n : Bool} (hx : σ.look x = Bo m) (hy : σ.look y = Bo n) {r0 : Nat × Nat × Option Value} (ht : tyOf P t = some (.bool, r0)) (ho : o.op = .binOp .eql t x y t') : Ok P N o σ (σ.put d (Bo (m == n))) :=
  o_yl d hd (yl_bin_bool ho hx hy ht rfl)
theorem o_bneq (d : Option Nat) (hd : DS N o d) {t t' : TypeId} {x y : Operand} {m n : Bool} (hx : σ.look x = Bo m) (hy : σ.look y = Bo n) {r0 : Nat × Nat × Option Value} (ht : tyOf P t = some (.bool, r0)) (ho : o.op = .binOp .neq t x y t') : Ok P N o σ (σ.put d (Bo (m != n))) :=
  o_yl d hd (yl_bin_bool ho hx hy ht rfl)

/-! ### What stands under a guard -/
/-- The value of an operation that is done only if b. -/
def gv (b : Bool) (x : AV) : AV := match b with | true => x | false => .p (.v undef)
theorem gd {b : Bool} {x : AV} (h : b = true) : gv b x = x := by rw [h]; rfl

theorem o_and (d : Option Nat) (hd : DS N o d) {c x y : Operand} (ho : o.op = .pick c x y) {b m : Bool} (hc : σ.look c = Bo b) (hx : σ.look x = gv (b == true) (Bo m)) (hy : σ.look y = Bo false) : Ok P N o σ (σ.put d (Bo (b && m))) := by
  refine o_yl d hd ?_
  have := yl_pick (P := P) (N := N) ho hc
  rw [hx, hy] at this
  cases b <;> exact this
theorem o_or (d : Option Nat) (hd : DS N o d) {c x y : Operand} (ho : o.op = .pick c x y) {b m : Bool} (hc : σ.look c = Bo b) (hx : σ.look x = Bo true) (hy : σ.look y = gv (b == false) (Bo m)) : Ok P N o σ (σ.put d (Bo (b || m))) := by
  refine o_yl d hd ?_
  have := yl_pick (P := P) (N := N) ho hc
  rw [hx, hy] at this
  cases b <;> exact this

/-! ### Memory -/
theorem o_ld1 (d : Option Nat) (hd : DS N o d) {t : TypeId} {x : Operand} (ho : o.op = .load t x) {b off : Nat} (hx : σ.look x = .ptr b off) {k : Blk} (hb : σ.heap b = some k) (hl : k.live = true)
    {D : TypeDesc} {sz by_ : Nat} {z : Option Value} (ht : tyOf P t = some (D, sz, by_, z)) (hD : isAggD D = false) {y : AV} (hy : k.cells[off]? = some y) : Ok P N o σ (σ.put d y) := o_yl d hd (yl_load_one ho hx hb hl ht hD hy)
theorem o_ldA (d : Option Nat) (hd : DS N o d) {t : TypeId} {x : Operand} (ho : o.op = .load t x) {b off : Nat} (hx : σ.look x = .ptr b off) {k : Blk} (hb : σ.heap b = some k) (hl : k.live = true)
    {D : TypeDesc} {sz by_ : Nat} {z : Option Value} (ht : tyOf P t = some (D, sz, by_, z)) (hD : isAggD D = true) (hlen : Nat.ble (off + sz) k.cells.length = true) {ys : List AV} (hy : (k.cells.drop off).take sz = ys) : Ok P N o σ (σ.put d (.agg ys)) := by
  subst hy
  exact o_yl d hd (yl_load_agg ho hx hb hl ht hD (Nat.le_of_ble_eq_true hlen))
theorem o_ldc (d : Option Nat) (hd : DS N o d) {t : TypeId} {x : Operand} (ho : o.op = .load t x) {y : PV} {xs : List PV} (hx : σ.look x = .p (.cp (y :: xs)))
    {D : TypeDesc} {sz by_ : Nat} {z : Option Value} (ht : tyOf P t = some (D, sz, by_, z)) (hD : isAggD D = false) : Ok P N o σ (σ.put d (.p y)) := o_yl d hd (yl_load_cp_one ho hx ht hD)
theorem o_ldC (d : Option Nat) (hd : DS N o d) {t : TypeId} {x : Operand} (ho : o.op = .load t x) {xs : List PV} (hx : σ.look x = .p (.cp xs))
    {D : TypeDesc} {by_ : Nat} {sz : Nat} {z : Option Value} (ht : tyOf P t = some (D, sz, by_, z)) (hD : isAggD D = true) (hlen : xs.length = sz) : Ok P N o σ (σ.put d (.p (.agg xs))) := o_yl d hd (yl_load_cp_agg ho hx ht hD hlen)
theorem o_fld (d : Option Nat) (hd : DS N o d) {t : TypeId} {x : Operand} {f : Nat} (ho : o.op = .fieldAddr t x f) {b off : Nat} (hx : σ.look x = .ptr b off) {k : Blk} (hb : σ.heap b = some k) (hl : k.live = true)
    {fields : Array Field} {r : Nat × Nat × Option Value} (ht : tyOf P t = some (.struct fields, r)) {fd : Field} (hf : fields[f]? = some fd) {D' : TypeDesc} {sz' : Nat} {r' : Nat × Option Value} (ht' : tyOf P fd.type = some (D', sz', r')) (hz : Nat.blt 0 sz' = true) {off' : Nat} (ho' : off + fd.offset = off') :
    Ok P N o σ (σ.put d (.ptr b off')) := by
  subst ho'
  exact o_yl d hd (yl_field ho hx hb hl ht hf ht' (by rw [Nat.blt_eq] at hz; omega))
theorem o_fldc (d : Option Nat) (hd : DS N o d) {t : TypeId} {x : Operand} {f : Nat} (ho : o.op = .fieldAddr t x f) {xs : List PV} (hx : σ.look x = .p (.cp xs))
    {fields : Array Field} {r : Nat × Nat × Option Value} (ht : tyOf P t = some (.struct fields, r)) {fd : Field} (hf : fields[f]? = some fd) {D' : TypeDesc} {sz' : Nat} {r' : Nat × Option Value} (ht' : tyOf P fd.type = some (D', sz', r')) (hz : Nat.blt 0 sz' = true) {ys : List PV} (hy : (xs.drop fd.offset).take sz' = ys) :
    Ok P N o σ (σ.put d (.p (.cp ys))) := by
  subst hy
  exact o_yl d hd (yl_field_cp ho hx ht hf ht' (by rw [Nat.blt_eq] at hz; omega))
theorem o_ext (d : Option Nat) (hd : DS N o d) {x : Operand} {i : Nat} (ho : o.op = .extract x i) {xs : List PV} (hx : σ.look x = .p (.tup xs)) {y : PV} (hy : xs[i]? = some y) : Ok P N o σ (σ.put d (.p y)) := o_yl d hd (yl_extract_p ho hx hy)
theorem o_nilc (d : Option Nat) (hd : DS N o d) {x : Operand} (ho : o.op = .nilCheck x) {b off : Nat} (hx : σ.look x = .ptr b off) {k : Blk} (hb : σ.heap b = some k) (hl : k.live = true) : Ok P N o σ (σ.put d (.ptr b off)) := o_yl d hd (yl_nilCheck ho hx hb hl)
theorem o_nilcc (d : Option Nat) (hd : DS N o d) {x : Operand} (ho : o.op = .nilCheck x) {xs : List PV} (hx : σ.look x = .p (.cp xs)) : Ok P N o σ (σ.put d (.p (.cp xs))) := o_yl d hd (yl_nilCheck_cp ho hx)
theorem o_lenO (d : Option Nat) (hd : DS N o d) {x : Operand} {t : TypeId} (ho : o.op = .call { callee := .builtin .len, args := #[x], argTypes := #[t] }) {full : Bool} {k b off n : Nat} (hx : σ.look x = .own full k b off n) {B : Blk} (hb : σ.heap b = some B) (hl : B.live = true)
    {e : TypeId} {r : Nat × Nat × Option Value} (ht : tyOf P t = some (.slice e, r)) : Ok P N o σ (σ.put d (I .i64 n)) := o_yl d hd (yl_len_own ho hx hb hl ht)
theorem o_lenP (d : Option Nat) (hd : DS N o d) {x : Operand} {t : TypeId} (ho : o.op = .call { callee := .builtin .len, args := #[x], argTypes := #[t] }) {c : Bool} {es : List (List PV)} (hx : σ.look x = .p (.sl c es))
    {e : TypeId} {r : Nat × Nat × Option Value} (ht : tyOf P t = some (.slice e, r)) {n : Nat} (hn : es.length = n) : Ok P N o σ (σ.put d (I .i64 n)) := by
  subst hn
  exact o_yl d hd (yl_len_sl ho hx ht)
theorem o_lenZ (d : Option Nat) (hd : DS N o d) {x : Operand} {t : TypeId} (ho : o.op = .call { callee := .builtin .len, args := #[x], argTypes := #[t] }) (hx : σ.look x = .p (.v (.slice none 0 0)))
    {e : TypeId} {r : Nat × Nat × Option Value} (ht : tyOf P t = some (.slice e, r)) : Ok P N o σ (σ.put d (I .i64 0)) := o_yl d hd (yl_len_nil ho hx ht)
theorem o_lenS (d : Option Nat) (hd : DS N o d) {x : Operand} {t : TypeId} (ho : o.op = .call { callee := .builtin .len, args := #[x], argTypes := #[t] }) {s : ByteArray} (hx : σ.look x = .p (.v (.string s)))
    {r : Nat × Nat × Option Value} (ht : tyOf P t = some (.string, r)) : Ok P N o σ (σ.put d (I .i64 s.size)) := o_yl d hd (yl_len_str ho hx ht)
theorem o_ixO (d : Option Nat) (hd : DS N o d) {t : TypeId} {x ix : Operand} (ho : o.op = .indexAddr t x ix) {full : Bool} {k b off n : Nat} (hx : σ.look x = .own full k b off n) {B : Blk} (hb : σ.heap b = some B) (hl : B.live = true)
    {ki : IntKind} {i : Nat} (hi : σ.look ix = I ki i) {e : TypeId} {r : Nat × Nat × Option Value} (ht : tyOf P t = some (.slice e, r)) {D : TypeDesc} {r' : Nat × Option Value} (hte : tyOf P e = some (D, k, r')) (hn : i < n) {off' : Nat} (hoff : off + i * k = off') :
    Ok P N o σ (σ.put d (.ptr b off')) := by
  have := yl_index_own (P := P) (N := N) ho hx hb hl hi ht hte (by omega) (by omega)
  rw [Int.toNat_natCast, hoff] at this
  exact o_yl d hd this
theorem o_ixP (d : Option Nat) (hd : DS N o d) {t : TypeId} {x ix : Operand} (ho : o.op = .indexAddr t x ix) {c : Bool} {es : List (List PV)} (hx : σ.look x = .p (.sl c es))
    {ki : IntKind} {i : Nat} (hi : σ.look ix = I ki i) {e : TypeId} {r : Nat × Nat × Option Value} (ht : tyOf P t = some (.slice e, r)) {D : TypeDesc} {k : Nat} {r' : Nat × Option Value} (hte : tyOf P e = some (D, k, r'))
    {xs : List PV} (hn : es[i]? = some xs) (hlen : xs.length = k) : Ok P N o σ (σ.put d (.p (.cp xs))) :=
  o_yl d hd (yl_index_sl ho hx hi ht hte (by omega) (by rw [Int.toNat_natCast]; exact hn) hlen)
theorem o_ixS (d : Option Nat) (hd : DS N o d) {t : TypeId} {x ix : Operand} (ho : o.op = .index t x ix) {s : ByteArray} (hx : σ.look x = .p (.v (.string s))) {ki : IntKind} {i : Nat} (hi : σ.look ix = I ki i)
    {r : Nat × Nat × Option Value} (ht : tyOf P t = some (.string, r)) (hn : i < s.size) : Ok P N o σ (σ.put d (.p (.v (.int .u8 (byteAt s i))))) :=
  o_yl d hd (by have := yl_index_str (P := P) (N := N) ho hx hi ht (by omega) (by omega); rwa [Int.toNat_natCast] at this)

theorem lk_nil : ([] : List Operand).map σ.look = [] := rfl
theorem lk_cons {x : Operand} {l : List Operand} {y : AV} {ys : List AV} (h : σ.look x = y) (k : l.map σ.look = ys) : (x :: l).map σ.look = y :: ys := by rw [List.map_cons, h, k]
theorem parts_eq (parts : List (Nat × Operand)) {xs : List AV} (hx : (parts.map (·.2)).map σ.look = xs) : (parts.map fun q => (q.1, σ.look q.2)) = (parts.map (·.1)).zip xs := by
  subst hx
  induction parts with
  | nil => rfl
  | cons p l ih => simp only [List.map_cons, List.zip_cons_cons, ih]
theorem o_bld (d : Option Nat) (hd : DS N o d) {t : TypeId} {parts : List (Nat × Operand)} (ho : o.op = .build t parts.toArray) {fields : Array Field} {sz by_ : Nat} {z : Value} (ht : tyOf P t = some (.struct fields, sz, by_, some z))
    {places : List (Nat × Nat)} (hp : (fields.mapM (m := Option) fun f => (P.info? f.type).map fun i => (f.offset, i.size)) = some places.toArray) {xs : List AV} (hx : (parts.map (·.2)).map σ.look = xs) {ys : List AV} (hf : aFill (fun i => places[i]?) (z.cells.toList.map fun c => .p (.v c)) ((parts.map (·.1)).zip xs) = some ys) :
    Ok P N o σ (σ.put d (.agg ys)) := o_yl d hd (yl_build ho ht hp (by rw [parts_eq parts hx]; exact hf))

theorem o_alloc (d : Option Nat) (hd : DS N o d) {t : TypeId} (ho : o.op = .alloc t) (b : Nat) (hfresh : σ.heap b = none) (hnx : Nat.ble σ.nx b = true) {D : TypeDesc} {sz by_ : Nat} {z : Value} (ht : tyOf P t = some (D, sz, by_, some z)) (h1 : z.cells.toList.all Value.oneCell' = true)
    {zs : List AV} (hzs : (z.cells.toList.map fun c => AV.p (.v c)) = zs) : Ok P N o σ ((σ.setB b { cells := zs, ty := t }).put d (.ptr b 0)) := by
  subst hzs
  have := ok_alloc (P := P) (N := N) ho hfresh (Nat.le_of_ble_eq_true hnx) ht h1 hd.ok
  rw [hd.1] at this
  exact ⟨this⟩
theorem o_box (d : Option Nat) (hd : DS N o d) {t : TypeId} {x : Operand} (ho : o.op = .box t x) (b : Nat) (hfresh : σ.heap b = none) (hnx : Nat.ble σ.nx b = true) {cs : List AV} (hcs : (σ.look x).cells = cs) (h1 : cs.all AV.one = true) :
    Ok P N o σ ((σ.setB b { cells := cs, ty := t }).put d (.ptr b 0)) := by
  subst hcs
  have := ok_box (P := P) (N := N) ho hfresh (Nat.le_of_ble_eq_true hnx) h1 hd.ok
  rw [hd.1] at this
  exact ⟨this⟩
theorem o_st1 {t : TypeId} {x y : Operand} (ho : o.op = .store t x y) (hdst : o.dst = none) {b off : Nat} (hx : σ.look x = .ptr b off) {k : Blk} (hb : σ.heap b = some k) (hl : k.live = true) (hp : k.pub = false)
    {D : TypeDesc} {r : Nat × Option Value} (ht : tyOf P t = some (D, 1, r)) {c : AV} (hc : (σ.look y).cells = [c]) (h1 : c.one = true) (h3 : off < k.cells.length) {zs : List AV} (hz : k.cells.set off c = zs) :
    Ok P N o σ (σ.setB b { k with cells := zs }) := by
  subst hz
  exact ⟨ok_store_one ho hdst hx hb hl hp ht (by rw [hc]; simp [h1]) hc h3⟩
theorem o_stA {t : TypeId} {x y : Operand} (ho : o.op = .store t x y) (hdst : o.dst = none) {b off : Nat} (hx : σ.look x = .ptr b off) {k : Blk} (hb : σ.heap b = some k) (hl : k.live = true) (hp : k.pub = false)
    {D : TypeDesc} {sz : Nat} {r : Nat × Option Value} (ht : tyOf P t = some (D, sz, r)) {cs : List AV} (hc : (σ.look y).cells = cs) (h1 : cs.all AV.one = true) (h2 : cs.length = sz) (h3 : Nat.ble (off + sz) k.cells.length = true) {zs : List AV} (hz : k.cells.take off ++ cs ++ k.cells.drop (off + sz) = zs) :
    Ok P N o σ (σ.setB b { k with cells := zs }) := by
  subst hz; subst hc
  exact ⟨ok_store ho hdst hx hb hl hp ht h1 h2 (Nat.le_of_ble_eq_true h3)⟩

/-! ### Calls -/
theorem convL_nil : ConvL σ [] [] := trivial
theorem convL_cons {x : AV} {y : PV} {xs : List AV} {ys : List PV} (h : Conv σ x y) (k : ConvL σ xs ys) : ConvL σ (x :: xs) (y :: ys) := ⟨h, k⟩
theorem o_call (d : Option Nat) (hd : DS N o d) {f : FuncId} (hT : Txt P f) {x : Operand} {args : List Operand} {ts : Array TypeId} (ho : o.op = .call { callee := .value x, args := args.toArray, argTypes := ts }) (hx : σ.look x = .fn f []) {pvs : List PV} {r : PV}
    (hf : FnP P f pvs r) (hc : ConvL σ (args.map σ.look) pvs) : Ok P N o σ (σ.put d (.p r)) := by
  have := ok_call (P := P) (N := N) hT ho hx hf hc hd.ok
  rw [hd.1] at this
  exact ⟨this⟩

/-! ### Steps of a walk -/
variable {Q : Exit → ASt → Prop} {QL : ASt → Prop} {ops : Array Oper} {rest : List Oper} {σ' : ASt}
theorem r_reg {id : Nat} {l : List Oper} (h : Tl P N l.toArray l σ (fun σ' => Q .normal σ')) : Tr P N (.region id l.toArray false) σ Q := ⟨tr_region h.get fun _ h => h⟩
theorem r_end (h : QL σ) : Tl P N ops [] σ QL := ⟨tl_nil h⟩
theorem r_op (hg : o.guard = none) (ho : Ok P N o σ σ') (h : Tl P N ops rest σ' QL) : Tl P N ops (o :: rest) σ QL := ⟨tl_step hg ho.get h.get⟩
theorem r_gd {j g : Nat} {want b : Bool} {d : Option Nat} {x : AV} (hg : o.guard = some (j, want)) (hj : (ops[j]?).bind (·.dst) = some g) (hN : Nat.blt g N = true) (hb : σ.env g = Bo b) (hd : DS N o d)
    (h1 : (b == want) = true → Ok P N o σ (σ.put d x)) (h : Tl P N ops rest (σ.put d (gv (b == want) x)) QL) : Tl P N ops (o :: rest) σ QL := by
  refine ⟨tl_guard hg hj (by rwa [Nat.blt_eq] at hN) hb (fun e => ⟨_, (h1 (by simp [e])).get, ?_⟩) (fun e => ⟨hd.ok, ?_⟩)⟩
  · have := h.get
    rwa [gd (by simp [e])] at this
  · have e2 : (b == want) = false := by simpa using e
    have := h.get
    rw [e2] at this
    rw [hd.1]; exact this
theorem r_gh {QL : ASt → Prop} (h : Tl P N ops rest σ' QL) (k : Gh N σ σ') : Tl P N ops rest σ QL := ⟨h.get.gh k⟩

theorem s_n {R : ASt → Prop} (h : R σ) : thenQ R Q .normal σ := h
theorem r_seq {x y : Code} (h : Tr P N x σ (thenQ (fun σ' => Tr P N y σ' Q) Q)) : Tr P N (.seq x y) σ Q := ⟨tr_seq (h.get.mono fun e σ' q => by
  cases e with
  | normal => exact Tr.get q
  | _ => exact q)⟩
theorem r_skip (h : Q .normal σ) : Tr P N .skip σ Q := ⟨tr_skip h⟩
theorem r_ret (h : Q .ret σ) : Tr P N .ret σ Q := ⟨tr_ret h⟩
theorem r_exit {id : Nat} (h : Q (.exit id) σ) : Tr P N (.exit id) σ Q := ⟨tr_exit h⟩
theorem r_cond {c : Operand} {x y : Code} {t : Bool} (hc : σ.look c = Bo t) (h1 : t = true → Tr P N x σ Q) (h2 : t = false → Tr P N y σ Q) : Tr P N (.cond c x y) σ Q := ⟨tr_cond hc (fun h => (h1 h).get) (fun h => (h2 h).get)⟩
theorem r_block {id : Nat} {c : Code} (h : Tr P N c σ (blockQ id Q)) : Tr P N (.block id c) σ Q := ⟨tr_block h.get⟩
theorem r_loop {ι : Type} (I : ι → ASt) (μ : ι → Nat) (i0 : ι) {c : Code} (h0 : Gh N σ (I i0)) (h : ∀ i, Tr P N c (I i) (thenQ (fun σ' => ∃ j, μ j < μ i ∧ Gh N σ' (I j)) Q)) : Tr P N (.loop c) σ Q := ⟨tr_loop I μ i0 h0 fun i => (h i).get⟩
theorem r_ghc {c : Code} (h : Tr P N c σ' Q) (k : Gh N σ σ') : Tr P N c σ Q := ⟨h.get.gh k⟩
end

/-! ### Weaker states -/
/-- τ tells less of the slots than σ. -/
def Le (σ τ : ASt) : Prop := (∀ t, τ.env t = .p .any ∨ σ.env t = τ.env t) ∧ σ.heap = τ.heap ∧ σ.nx = τ.nx

theorem Le.refl (σ : ASt) : Le σ σ := ⟨fun _ => .inr rfl, rfl, rfl⟩
theorem Le.drop {σ τ : ASt} {d : Nat} {x : AV} (h : Le σ τ) (hd : τ.env d = .p .any) : Le (σ.put (some d) x) τ := ⟨fun t => by
  by_cases e : t = d
  · subst e; exact .inl hd
  · rcases h.1 t with h1 | h1
    · exact .inl h1
    · right; simp only [ASt.put, upd, if_neg e]; exact h1, h.2.1, h.2.2⟩
theorem Le.both {σ τ : ASt} {d : Nat} {x y : AV} (h : Le σ τ) (hx : x = y) : Le (σ.put (some d) x) (τ.put (some d) y) := ⟨fun t => by
  subst hx
  simp only [ASt.put, upd]
  by_cases e : t = d
  · simp [e]
  · simpa [e] using h.1 t, h.2.1, h.2.2⟩

theorem Le.gh {N : Nat} {σ τ : ASt} (h : Le σ τ) : Gh N σ τ := fun w0 S0 Hd a w ⟨β, S, hI⟩ => by
  obtain ⟨h1, h2, h3⟩ := h
  have hag : ∀ β', Agree τ β β' → Agree σ β β' := fun β' hb b hbn => hb b (by rwa [h2, h3] at hbn)
  refine ⟨β, S, hI.defers, hI.size, fun β' hb t => ?_, fun β' hb b k e => hI.heap β' (hag β' hb) b k (by rw [h2]; exact e), fun b b' k k' g sz sz' e hl e' => hI.inj b b' k k' g sz sz' (by rw [h2]; exact e) hl (by rw [h2]; exact e'), hI.cl, hI.keep, hI.new, hI.frame⟩
  rcases h1 t with e | e
  · rw [e]; trivial
  · rw [← e]; exact hI.env β' (hag β' hb) t

/-- Both ways of a branch come to one state. -/
theorem r_mid {P : Program} {N : Nat} {σ : ASt} {Q : Exit → ASt → Prop} (mid : ASt) {x y : Code} (h1 : Tr P N x σ (thenQ (fun σ' => Gh N σ' mid) Q)) (h2 : Tr P N y mid Q) : Tr P N (.seq x y) σ Q :=
  r_seq ⟨h1.get.mono fun e σ' h => by
    cases e with
    | normal => exact r_ghc h2 h
    | _ => exact h⟩

theorem fnP_of {P : Program} {f : FuncId} {fn : Func} (hf : P.funcs[f]? = some fn) {c : Code} (hb : fn.body = some c) {args : List PV} {r : PV} (hN : args.length ≤ fn.ntmps)
    (h : Tr P fn.ntmps c (st0 args) (fun e σ => (e = .ret ∨ e = .normal) ∧ ∃ ps, r = packP ps ∧ ResL P fn.ntmps σ fn.results.toList ps)) : FnP P f args r := fnP_of_tr hf hb hN h.get
end Vou
end

section
set_option linter.unusedVariables false
set_option linter.unusedSimpArgs false
/- Lists of numbers in memory, and numbers with digits. -/
namespace Vou
open Go Go.RowKit

/-- Cells that hold numbers. -/
def nums (k : IntKind) (zs : List Nat) : List AV := zs.map fun d => I k d

theorem nums_len (k : IntKind) (zs : List Nat) : (nums k zs).length = zs.length := List.length_map ..
theorem nums_get {k : IntKind} {zs : List Nat} {i : Nat} (h : i < zs.length) : (nums k zs)[i]? = some (I k (zs.getD i 0)) := by
  simp [nums, List.getD_eq_getElem?_getD, List.getElem?_eq_getElem h]
theorem nums_set (k : IntKind) (zs : List Nat) (i v : Nat) : (nums k zs).set i (I k v) = nums k (zs.set i v) := by
  simp [nums, List.map_set]
theorem nums_append (k : IntKind) (zs ys : List Nat) : nums k zs ++ nums k ys = nums k (zs ++ ys) := by simp [nums]
theorem nums_one (k : IntKind) (zs : List Nat) : (nums k zs).all AV.one = true := by
  simp [nums, AV.one, Value.oneCell']

/-- The elements of a slice of numbers. -/
def els (k : IntKind) (zs : List Nat) : List (List PV) := zs.map fun d => [PV.v (.int k (d : Nat))]
theorem els_len (k : IntKind) (zs : List Nat) : (els k zs).length = zs.length := List.length_map ..
theorem els_one (k : IntKind) (zs : List Nat) : ∀ e ∈ els k zs, e.length = 1 := by
  intro e he
  obtain ⟨d, _, rfl⟩ := List.mem_map.1 he
  rfl
theorem els_get {k : IntKind} {zs : List Nat} {i : Nat} (h : i < zs.length) : (els k zs)[i]? = some [PV.v (.int k ((zs.getD i 0 : Nat) : Int))] := by
  simp [els, List.getD_eq_getElem?_getD, List.getElem?_eq_getElem h]
theorem els_flat (k : IntKind) (zs : List Nat) : (els k zs).flatten = zs.map fun d => PV.v (.int k (d : Nat)) := by
  induction zs with
  | nil => rfl
  | cons z zs ih => simp only [els, List.map_cons, List.flatten_cons] at ih ⊢; rw [ih]; rfl
theorem els_take (k : IntKind) (zs : List Nat) (l h : Nat) : ((els k zs).take h).drop l = els k ((zs.take h).drop l) := by
  simp [els, List.map_drop, List.map_take]

/-- A slice of numbers. -/
def slP (k : IntKind) (zs : List Nat) : PV := .sl false (els k zs)
/-- A number as the digits of a base, the last one first. -/
def natP (b : Nat) (k : IntKind) (n : Nat) : PV := slP k (dg b n)

section
variable {P : Program} {N : Nat} {o : Oper} {σ : ASt}

theorem convL_nums (k : IntKind) : ∀ zs : List Nat, ConvL σ (nums k zs) (zs.map fun d => PV.v (.int k (d : Nat)))
  | [] => trivial
  | z :: zs => ⟨conv_p _, convL_nums k zs⟩

/-- A list of the call's own is handed on. -/
theorem conv_nums {full : Bool} {b off n : Nat} {k : IntKind} {B : Blk} (hb : σ.heap b = some B) (hl : B.live = true) (hp : B.pub = true) {cs zs : List Nat} (hc : B.cells = nums k cs) (hz : (cs.drop off).take n = zs) (hn : zs.length = n) : Conv σ (.own full 1 b off n) (slP k zs) := by
  refine conv_own hb hl hp (by rw [els_len, hn]) (els_one k zs) ?_
  rw [hc, els_flat, ← hz, Nat.mul_one]
  have : List.take n (List.drop off (nums k cs)) = nums k ((cs.drop off).take n) := by simp [nums, List.map_drop, List.map_take]
  rw [this]
  exact convL_nums k _

theorem conv_sl {c : Bool} {k : IntKind} {es : List (List PV)} {zs : List Nat} (h : es = els k zs) : Conv σ (.p (.sl c es)) (slP k zs) := by
  subst h; exact conv_clip c _

theorem conv_nilP (k : IntKind) : Conv σ (.p (.v (.slice none 0 0))) (slP k []) := conv_nil false

/-! ### Operations on such lists -/
theorem o_lenN (d : Option Nat) (hd : DS N o d) {x : Operand} {t : TypeId} (ho : o.op = .call { callee := .builtin .len, args := #[x], argTypes := #[t] }) {k : IntKind} {zs : List Nat} (hx : σ.look x = .p (slP k zs))
    {e : TypeId} {r : Nat × Nat × Option Value} (ht : tyOf P t = some (.slice e, r)) {n : Nat} (hn : zs.length = n) : Ok P N o σ (σ.put d (I .i64 n)) := o_lenP d hd ho hx ht (by rw [els_len, hn])
theorem o_ixN (d : Option Nat) (hd : DS N o d) {t : TypeId} {x ix : Operand} (ho : o.op = .indexAddr t x ix) {k : IntKind} {zs : List Nat} (hx : σ.look x = .p (slP k zs))
    {ki : IntKind} {i : Nat} (hi : σ.look ix = I ki i) {e : TypeId} {r : Nat × Nat × Option Value} (ht : tyOf P t = some (.slice e, r)) {D : TypeDesc} {r' : Nat × Option Value} (hte : tyOf P e = some (D, 1, r')) (hn : i < zs.length) :
    Ok P N o σ (σ.put d (.p (.cp [PV.v (.int k ((zs.getD i 0 : Nat) : Int))]))) := o_ixP d hd ho hx hi ht hte (els_get hn) rfl
theorem o_ixM (d : Option Nat) (hd : DS N o d) {t : TypeId} {x ix : Operand} (ho : o.op = .indexAddr t x ix) {full : Bool} {b n : Nat} (hx : σ.look x = .own full 1 b 0 n) {B : Blk} (hb : σ.heap b = some B) (hl : B.live = true)
    {ki : IntKind} {i : Nat} (hi : σ.look ix = I ki i) {e : TypeId} {r : Nat × Nat × Option Value} (ht : tyOf P t = some (.slice e, r)) {D : TypeDesc} {r' : Nat × Option Value} (hte : tyOf P e = some (D, 1, r')) (hn : i < n) :
    Ok P N o σ (σ.put d (.ptr b i)) := o_ixO d hd ho hx hb hl hi ht hte hn (by omega)
theorem o_ixK (d : Option Nat) (hd : DS N o d) {t : TypeId} {x ix : Operand} (ho : o.op = .indexAddr t x ix) {full : Bool} {b off n : Nat} (hx : σ.look x = .own full 1 b off n) {B : Blk} (hb : σ.heap b = some B) (hl : B.live = true)
    {ki : IntKind} {i : Nat} (hi : σ.look ix = I ki i) {e : TypeId} {r : Nat × Nat × Option Value} (ht : tyOf P t = some (.slice e, r)) {D : TypeDesc} {r' : Nat × Option Value} (hte : tyOf P e = some (D, 1, r')) (hn : i < n) :
    Ok P N o σ (σ.put d (.ptr b (off + i))) := o_ixO d hd ho hx hb hl hi ht hte hn (by omega)
theorem o_ldN (d : Option Nat) (hd : DS N o d) {t : TypeId} {x : Operand} (ho : o.op = .load t x) {b i : Nat} (hx : σ.look x = .ptr b i) {B : Blk} (hb : σ.heap b = some B) (hl : B.live = true)
    {D : TypeDesc} {sz by_ : Nat} {z : Option Value} (ht : tyOf P t = some (D, sz, by_, z)) (hD : isAggD D = false) {k : IntKind} {zs : List Nat} (hc : B.cells = nums k zs) (hi : i < zs.length) : Ok P N o σ (σ.put d (I k (zs.getD i 0))) :=
  o_ld1 d hd ho hx hb hl ht hD (by rw [hc]; exact nums_get hi)
theorem o_stN {t : TypeId} {x y : Operand} (ho : o.op = .store t x y) (hdst : o.dst = none) {b i : Nat} (hx : σ.look x = .ptr b i) {B : Blk} (hb : σ.heap b = some B) (hl : B.live = true) (hp : B.pub = false)
    {D : TypeDesc} {r : Nat × Option Value} (ht : tyOf P t = some (D, 1, r)) {k : IntKind} {v : Nat} (hy : σ.look y = I k v) {zs : List Nat} (hc : B.cells = nums k zs) (hi : i < zs.length) :
    Ok P N o σ (σ.setB b { B with cells := nums k (zs.set i v) }) :=
  o_st1 ho hdst hx hb hl hp ht (c := I k v) (by rw [hy]; rfl) rfl (by rw [hc, nums_len]; exact hi) (by rw [hc, nums_set])
theorem o_mkN (d : Option Nat) (hd : DS N o d) {t : TypeId} {x y : Operand} (ho : o.op = .makeSlice t x y) {n : Nat} {kl kc : IntKind} (hx : σ.look x = I kl n) (hy : σ.look y = I kc n) (b : Nat) (hfresh : σ.heap b = none) (hnx : Nat.ble σ.nx b = true)
    {e : TypeId} {r : Nat × Nat × Option Value} (ht : tyOf P t = some (.slice e, r)) {k : IntKind} {by_ : Nat} (hte : tyOf P e = some (.int k, 1, by_, some (.int k 0))) (hb1 : n ≤ 1099511627776) (hb2 : Nat.ble by_ 8 = true) :
    Ok P N o σ ((σ.setB b { cells := nums k (List.replicate n 0), ty := e }).put d (.own true 1 b 0 n)) := by
  have h8 := Nat.le_of_ble_eq_true hb2
  have hm : by_ * n ≤ 8 * n := Nat.mul_le_mul_right n h8
  have := ok_make (P := P) (N := N) ho hx hy hfresh (Nat.le_of_ble_eq_true hnx) ht hte rfl (by omega) rfl (by omega) (by omega) hd.ok
  rw [hd.1] at this
  have e1 : (List.replicate n (((Value.int k 0).cells.toList).map fun c => AV.p (.v c))).flatten = nums k (List.replicate n 0) := by
    have : ((Value.int k 0).cells.toList).map (fun c => AV.p (.v c)) = [I k 0] := rfl
    rw [this, List.flatten_replicate_singleton]
    simp [nums]
  rw [e1] at this
  exact ⟨this⟩
/-- One number in a new list (the argument of an append). -/
theorem o_bsN (d : Option Nat) (hd : DS N o d) {t : TypeId} {x : Operand} (ho : o.op = .buildSlice t 1 #[(0, x)]) {k : IntKind} {v : Nat} (hx : σ.look x = I k v) (b : Nat) (hfresh : σ.heap b = none) (hnx : Nat.ble σ.nx b = true)
    {e : TypeId} {r : Nat × Nat × Option Value} (ht : tyOf P t = some (.slice e, r)) {by_ : Nat} (hte : tyOf P e = some (.int k, 1, by_, some (.int k 0))) :
    Ok P N o σ ((σ.setB b { cells := nums k [v], ty := e }).put d (.own true 1 b 0 1)) := by
  have := ok_buildSlice (P := P) (N := N) (σ := σ) (parts := [(0, x)]) ho hfresh (Nat.le_of_ble_eq_true hnx) ht hte rfl (by omega) rfl (by omega) (ys := nums k [v]) (by
    simp only [List.map_cons, List.map_nil, hx]
    rfl) hd.ok
  rw [hd.1] at this
  exact ⟨this⟩
/-- A new list of any values. -/
theorem o_bs (d : Option Nat) (hd : DS N o d) {t : TypeId} {len : Nat} {parts : List (Nat × Operand)} (ho : o.op = .buildSlice t len parts.toArray) (b : Nat) (hfresh : σ.heap b = none) (hnx : Nat.ble σ.nx b = true)
    {e : TypeId} {r : Nat × Nat × Option Value} (ht : tyOf P t = some (.slice e, r)) {D : TypeDesc} {sz by_ : Nat} {z : Value} (hte : tyOf P e = some (D, sz, by_, some z)) (hz : z.cells.size = sz) (hz0 : Nat.blt 0 sz = true) (h1 : z.cells.toList.all Value.oneCell' = true)
    (hlen : Nat.ble (len * sz) 16777216 = true) {xs : List AV} (hx : (parts.map (·.2)).map σ.look = xs) {ys : List AV} (hf : aFill (fun i => some (i * sz, sz)) (List.replicate len (z.cells.toList.map fun c => AV.p (.v c))).flatten ((parts.map (·.1)).zip xs) = some ys) :
    Ok P N o σ ((σ.setB b { cells := ys, ty := e }).put d (.own true sz b 0 len)) := by
  have := ok_buildSlice (P := P) (N := N) (σ := σ) ho hfresh (Nat.le_of_ble_eq_true hnx) ht hte hz (by rwa [Nat.blt_eq] at hz0) h1 (Nat.le_of_ble_eq_true hlen) (by rw [parts_eq parts hx]; exact hf) hd.ok
  rw [hd.1] at this
  exact ⟨this⟩
/-- A number is appended. -/
theorem o_apN (d : Option Nat) (hd : DS N o d) {t : TypeId} {s x : Operand} (ho : o.op = .call { callee := .builtin .append, args := #[s, x], argTypes := #[t, t] }) (b : Nat) (hfresh : σ.heap b = none) (hnx : Nat.ble σ.nx b = true)
    {e : TypeId} {r : Nat × Nat × Option Value} (ht : tyOf P t = some (.slice e, r)) {k : IntKind} {by_ : Nat} (hte : tyOf P e = some (.int k, 1, by_, some (.int k 0))) (hb2 : Nat.ble by_ 8 = true)
    {b0 n : Nat} {B0 : Blk} {zs : List Nat} (hs : σ.look s = .own true 1 b0 0 n) (h0 : σ.heap b0 = some B0) (hl0 : B0.live = true) (hp0 : B0.pub = false) (ht0 : B0.ty = e) (hc0 : B0.cells = nums k zs) (hn : zs.length = n)
    {b1 : Nat} {B1 : Blk} {v : Nat} {f1 : Bool} (hx : σ.look x = .own f1 1 b1 0 1) (h1 : σ.heap b1 = some B1) (hl1 : B1.live = true) (hc1 : B1.cells = nums k [v]) (hr : n ≤ 1099511627776) :
    Ok P N o σ (((σ.setB b0 { B0 with live := false }).setB b { cells := nums k (zs ++ [v]), ty := e }).put d (.own true 1 b 0 (n + 1))) := by
  have h8 := Nat.le_of_ble_eq_true hb2
  have hm : (n + 1) * by_ ≤ (n + 1) * 8 := Nat.mul_le_mul_left _ h8
  have hdst : Dest σ e 1 (σ.look s) n B0.cells (some b0) := by
    rw [hs]
    exact .own h0 hl0 hp0 ht0 (by rw [hc0, nums_len, hn, Nat.mul_one])
  have hsrc : SrcOk σ 1 1 (σ.look x) (nums k [v]) := by
    rw [hx]
    have := src_own (σ := σ) (full := f1) (k := 1) (off := 0) (n := 1) h1 hl1 (by rw [hc1]; simp [nums])
    rwa [hc1] at this
  have := ok_append (P := P) (N := N) ho hfresh (Nat.le_of_ble_eq_true hnx) ht hte rfl (by omega) hdst hsrc (by omega) (by omega) (by omega) hd.ok
  rw [hd.1] at this
  have e1 : B0.cells ++ nums k [v] = nums k (zs ++ [v]) := by rw [hc0, nums_append]
  rw [e1] at this
  simp only [ASt.killO, h0] at this
  exact ⟨this⟩

/-- A part of a list that is handed on. -/
theorem o_slN (d : Option Nat) (hd : DS N o d) {t : TypeId} {x : Operand} {lo hi mx : Option Operand} (ho : o.op = .slice t x lo hi mx) {k : IntKind} {zs : List Nat} (hx : σ.look x = .p (slP k zs))
    {e : TypeId} {r : Nat × Nat × Option Value} (ht : tyOf P t = some (.slice e, r)) {D : TypeDesc} {r' : Nat × Option Value} (hte : tyOf P e = some (D, 1, r')) {l h m : Nat} (hc : Cut σ zs.length lo hi mx l h m) {ys : List Nat} (hy : (zs.take h).drop l = ys) :
    Ok P N o σ (σ.put d (.p (.sl ((false || mx.isSome) && decide (h = m)) (els k ys)))) := by
  subst hy
  have := yl_slice_sl (P := P) (N := N) ho hx ht hte (by rw [els_len]; exact hc) (els_one k zs)
  rw [els_take] at this
  exact o_yl d hd this

/-- All bounds are given, and the last two are one. -/
theorem cut3 {lo : Option Operand} {hi mx : Operand} {n l h : Nat} (hlo : Bnd σ lo 0 l) {k k' : IntKind} (h1 : σ.look hi = I k h) (h2 : σ.look mx = I k' h) (hlh : l ≤ h) (hn : h ≤ n) : Cut σ n lo (some hi) (some mx) l h h :=
  ⟨hlo, ⟨k, h1⟩, ⟨k', h2⟩, fun _ => rfl, hlh, Nat.le_refl _, hn⟩
theorem cut2 {lo : Option Operand} {hi : Operand} {n l h : Nat} (hlo : Bnd σ lo 0 l) {k : IntKind} (h1 : σ.look hi = I k h) (hlh : l ≤ h) (hn : h ≤ n) : Cut σ n lo (some hi) none l h n :=
  ⟨hlo, ⟨k, h1⟩, rfl, (fun h => by cases h), hlh, hn, Nat.le_refl _⟩
theorem cut1 {lo : Operand} {n l : Nat} {k : IntKind} (h1 : σ.look lo = I k l) (hln : l ≤ n) : Cut σ n (some lo) none none l n n :=
  ⟨⟨k, h1⟩, rfl, rfl, (fun h => by cases h), hln, Nat.le_refl _, Nat.le_refl _⟩
end
end Vou
end

section
set_option linter.unusedVariables false
set_option linter.unusedSimpArgs false
/- The frame of a walk. -/
namespace Vou
open Go Go.RowKit

section
variable {P : Program} {N : Nat} {σ : ASt} {Q : Exit → ASt → Prop} {R : ASt → Prop} {id k : Nat}
theorem s_ret (h : Q .ret σ) : thenQ R Q .ret σ := h
theorem s_exit (h : Q (.exit k) σ) : thenQ R Q (.exit k) σ := h
theorem b_n (h : Q .normal σ) : blockQ id Q .normal σ := h
theorem b_ret (h : Q .ret σ) : blockQ id Q .ret σ := h
theorem b_here (h : Q .normal σ) : blockQ id Q (.exit id) σ := by simp only [blockQ, if_true]; exact h
theorem b_out (hk : Nat.beq k id = false) (h : Q (.exit k) σ) : blockQ id Q (.exit k) σ := by
  have : ¬ k = id := fun e => by subst e; rw [Nat.beq_refl] at hk; cases hk
  simp only [blockQ, if_neg this]; exact h

/-- A result in a variable of one cell. -/
theorem res_cell1 {b t blk off : Nat} {pv : PV} (hx : σ.env b = .ptr blk off) {K : Blk} (hb : σ.heap blk = some K) (hl : K.live = true) {d : TypeDesc} {sz by_ : Nat} {z : Option Value} (ht : tyOf P t = some (d, sz, by_, z)) (hd : isAggD d = false) {y : AV} (hy : K.cells[off]? = some y)
    (h : Conv σ y pv) : ResOk P N σ (.cell b t) pv := fun w0 S0 Hd a w β S hI => by
  obtain ⟨hu, i, hi, hs, _⟩ := tyOf_spec ht
  have h1 := hI.env β (Agree.refl _ _) b
  rw [hx] at h1
  obtain ⟨g, szb, us, rest, hg, he, hh, hsz, h1c, hR, _⟩ := hI.at_ptr h1 hb hl
  obtain ⟨u, hu1, hu2⟩ := RelAL.get hR off y hy
  refine ⟨u, ?_, h _ _ _ _ _ _ _ _ hI _ hu2⟩
  have hlt := (List.getElem?_eq_some_iff.1 hu1).1
  have hcell : w.cell? ⟨g, off, none⟩ = some u := by
    have := cell_of_list (j := off) hh
    rw [this, List.getElem?_append_left hlt, hu1]
  simp only [resOf, he, asAddr, Sem.run_bind, Sem.run_pure, Result.andThen_ok, loadVar, isAgg_run hu, hd]
  simp [hcell]

theorem resL_nil : ResL P N σ [] [] := trivial
theorem resL_cons {r : ResultVar} {p : PV} {rs : List ResultVar} {ps : List PV} (h : ResOk P N σ r p) (k : ResL P N σ rs ps) : ResL P N σ (r :: rs) (p :: ps) := ⟨h, k⟩
end

/-! ### The state at the head of a loop -/
def ToldL (σ : ASt) (D : Nat → Prop) (ρ : Nat → Nat) : List (Nat × AV) → Prop
  | [] => True
  | p :: l => Told σ D ρ (σ.env p.1) p.2 ∧ ToldL σ D ρ l
theorem ToldL.get {σ : ASt} {D : Nat → Prop} {ρ : Nat → Nat} : ∀ {l : List (Nat × AV)}, ToldL σ D ρ l → ∀ p ∈ l, Told σ D ρ (σ.env p.1) p.2
  | _ :: _, h, _, .head _ => h.1
  | _ :: _, h, _, .tail _ hm => ToldL.get h.2 _ hm

def HeapOk (σ : ASt) (H : List (Nat × Blk)) (ρ : Nat → Nat) (p : Nat × Blk) : Prop :=
  ∃ k', σ.heap (ρ p.1) = some k' ∧ k'.live = true ∧ p.2.live = true ∧ k'.ty = p.2.ty ∧ k'.pub = p.2.pub ∧ AV.inDL (fun b => (heapL H b).isSome = true) p.2.cells ∧ k'.cells = AV.renL ρ p.2.cells ∧ (∀ n, p.2.pin = some n → k'.pin = some n)
def HeapOkL (σ : ASt) (H : List (Nat × Blk)) (ρ : Nat → Nat) : List (Nat × Blk) → Prop
  | [] => True
  | p :: l => HeapOk σ H ρ p ∧ HeapOkL σ H ρ l
theorem HeapOkL.get {σ : ASt} {H : List (Nat × Blk)} {ρ : Nat → Nat} : ∀ {l : List (Nat × Blk)}, HeapOkL σ H ρ l → ∀ p ∈ l, HeapOk σ H ρ p
  | _ :: _, h, _, .head _ => h.1
  | _ :: _, h, _, .tail _ hm => HeapOkL.get h.2 _ hm

/-- No two of the listed blocks come of one. -/
def injB (H : List (Nat × Blk)) (ρ : Nat → Nat) : Bool := H.all fun p => H.all fun q => Nat.beq p.1 q.1 || !Nat.beq (ρ p.1) (ρ q.1)

theorem gh_st {N : Nat} {σ : ASt} (ρ : Nat → Nat) {L : List (Nat × AV)} {H : List (Nat × Blk)} (h1 : ToldL σ (fun b => (heapL H b).isSome = true) ρ L) (h2 : HeapOkL σ H ρ H) (h3 : injB H ρ = true) : Gh N σ (stL L H) := by
  refine gh_told ρ L H h1.get h2.get fun b b' hb hb' e => ?_
  obtain ⟨k, hk⟩ := Option.isSome_iff_exists.1 hb
  obtain ⟨k', hk'⟩ := Option.isSome_iff_exists.1 hb'
  have := List.all_eq_true.1 (List.all_eq_true.1 h3 _ (heapL_mem hk)) _ (heapL_mem hk')
  simp only [Bool.or_eq_true, Bool.not_eq_true'] at this
  rcases this with h | h
  · exact Nat.eq_of_beq_eq_true h
  · rw [e, Nat.beq_refl] at h; cases h

section
variable {σ : ASt} {D : Nat → Prop} {ρ : Nat → Nat} {x : AV}
theorem tl0 : ToldL σ D ρ [] := trivial
theorem tlc {t : Nat} {y : AV} {l : List (Nat × AV)} (h : Told σ D ρ (σ.env t) y) (k : ToldL σ D ρ l) : ToldL σ D ρ ((t, y) :: l) := ⟨h, k⟩
theorem td_p {pv pv' : PV} (h : x = .p pv') (e : pv' = pv) : Told σ D ρ x (.p pv) := by subst h; subst e; exact .inl ⟨trivial, rfl⟩
theorem td_I {k : IntKind} {m n : Nat} (h : x = I k m) (e : m = n) : Told σ D ρ x (I k n) := by subst h; subst e; exact .inl ⟨trivial, rfl⟩
theorem td_any : Told σ D ρ x (.p .any) := .inr ⟨.any, rfl, conv_any _⟩
theorem td_ptr {b o : Nat} (h : x = .ptr (ρ b) o) (hb : D b) : Told σ D ρ x (.ptr b o) := .inl ⟨hb, h⟩
theorem td_own {f : Bool} {k b o m n : Nat} (h : x = .own f k (ρ b) o m) (e : m = n) (hb : D b) : Told σ D ρ x (.own f k b o n) := by subst e; exact .inl ⟨hb, h⟩
theorem td_c {pv : PV} (h : Conv σ x pv) : Told σ D ρ x (.p pv) := .inr ⟨pv, rfl, h⟩
theorem conv_I {σ : ASt} {x : AV} {k : IntKind} {m n : Nat} (h : x = I k m) (e : m = n) : Conv σ x (.v (.int k ((n : Nat) : Int))) := by subst h; subst e; exact conv_p _
theorem hp0 {H : List (Nat × Blk)} : HeapOkL σ H ρ [] := trivial
theorem hpc {H : List (Nat × Blk)} {p : Nat × Blk} {l : List (Nat × Blk)} (h : HeapOk σ H ρ p) (k : HeapOkL σ H ρ l) : HeapOkL σ H ρ (p :: l) := ⟨h, k⟩
theorem hp_nums {H : List (Nat × Blk)} {b : Nat} {K : Blk} {k : IntKind} {zs zs' : List Nat} {ty : TypeId} {pub : Bool} (h : σ.heap (ρ b) = some K) (hl : K.live = true) (hty : K.ty = ty) (hp : K.pub = pub) (hc : K.cells = nums k zs') (e : zs' = zs) : HeapOk σ H ρ (b, { cells := nums k zs, ty := ty, pub := pub }) := by
  subst e
  exact ⟨K, h, hl, rfl, hty, hp, inDL_map_p _ _ _, by rw [hc]; exact (renL_map_p ρ _ _).symm, fun _ h => by cases h⟩
theorem hp_ps {H : List (Nat × Blk)} {b : Nat} {K : Blk} {ps : List PV} {ty : TypeId} {pub : Bool} (h : σ.heap (ρ b) = some K) (hl : K.live = true) (hty : K.ty = ty) (hp : K.pub = pub) (hc : K.cells = ps.map AV.p) : HeapOk σ H ρ (b, { cells := ps.map AV.p, ty := ty, pub := pub }) :=
  ⟨K, h, hl, rfl, hty, hp, inDL_map_p _ _ _, by rw [hc]; exact (renL_map_p ρ _ _).symm, fun _ h => by cases h⟩
/-- The block that was handed. -/
theorem hp_pin {H : List (Nat × Blk)} {b : Nat} {K : Blk} {k : IntKind} {zs zs' : List Nat} {ty : TypeId} {sz : Nat} (h : σ.heap (ρ b) = some K) (hl : K.live = true) (hty : K.ty = ty) (hp : K.pub = false) (hn : K.pin = some sz) (hc : K.cells = nums k zs') (e : zs' = zs) : HeapOk σ H ρ (b, { cells := nums k zs, ty := ty, pin := some sz }) := by
  subst e
  exact ⟨K, h, hl, rfl, hty, hp, inDL_map_p _ _ _, by rw [hc]; exact (renL_map_p ρ _ _).symm, fun n h => hn.trans h⟩
end
end Vou
end

section
set_option linter.unusedVariables false
set_option linter.unusedSimpArgs false
/- Regions that draw their order, as a walk needs them. -/
namespace Vou
open Go Go.RowKit

section
variable {P : Program} {N : Nat} {ops : Array Oper}

/-- The operations from number i on, the state so far in the order of the text, the events, the last state. -/
def Dr (P : Program) (N : Nat) (ops : Array Oper) : Nat → ASt → List Oper → List Ev → ASt → Prop
  | i, L, [], es, F => es = [] ∧ F = L
  | i, L, o :: rest, [], F => False
  | i, L, o :: rest, e :: es, F => (∀ s, Hold e L s → OpG P N ops i s (e.ap s)) ∧ Dr P N ops (i + 1) (e.ap L) rest es F

theorem Dr.fin : ∀ {rest : List Oper} {es : List Ev} {i : Nat} {L F : ASt}, Dr P N ops i L rest es F → lexS es L = F
  | [], _, _, _, _, h => by rw [h.1, h.2]; rfl
  | _ :: _, [], _, _, _, h => h.elim
  | _ :: _, e :: es, i, L, F, h => Dr.fin (rest := _) (es := es) (i := i + 1) (L := e.ap L) (F := F) h.2
theorem Dr.get : ∀ {rest : List Oper} {es : List Ev} {i : Nat} {L F : ASt}, Dr P N ops i L rest es F → ∀ j e, es[j]? = some e → ∀ s, Hold e (lexS (es.take j) L) s → OpG P N ops (i + j) s (e.ap s)
  | [], es, i, L, F, h, j, e, he => by rw [h.1] at he; simp at he
  | o :: rest, [], i, L, F, h, j, e, he => h.elim
  | o :: rest, e' :: es, i, L, F, h, 0, e, he => by
    simp only [List.getElem?_cons_zero, Option.some.injEq] at he
    subst he
    exact h.1
  | o :: rest, e' :: es, i, L, F, h, j + 1, e, he => by
    have := Dr.get h.2 j e (by simpa using he)
    rw [show i + 1 + j = i + (j + 1) by omega] at this
    exact this

/-- The same, with what is to hold of the events and the last state. -/
structure Drs (P : Program) (N : Nat) (ops : Array Oper) (i : Nat) (L : ASt) (rest : List Oper) (K : List Ev → ASt → Prop) : Prop where
  get : ∃ es F, Dr P N ops i L rest es F ∧ K es F

theorem r_drawn {id : Nat} {σ : ASt} {Q : Exit → ASt → Prop} {l : List Oper} (hm : P.follows .mixedOrders = true) (h : Drs P N l.toArray 0 σ l (fun es F => okAll l.toArray es = true ∧ Q .normal F)) : Tr P N (.region id l.toArray true) σ Q := by
  obtain ⟨es, F, h, hchk, hq⟩ := h.get
  exact ⟨tr_any hm hchk (fun i e he s hs => by have := h.get i e he s hs; rwa [Nat.zero_add] at this) (by rw [h.fin]; exact hq)⟩

variable {L F : ASt} {i : Nat} {o : Oper} {rest : List Oper} {K : List Ev → ASt → Prop}
theorem d_end (h : K [] L) : Drs P N ops i L [] K := ⟨[], L, ⟨rfl, rfl⟩, h⟩
theorem Drs.more {e : Ev} (h : ∀ s, Hold e L s → OpG P N ops i s (e.ap s)) (k : Drs P N ops (i + 1) (e.ap L) rest (fun es F => K (e :: es) F)) : Drs P N ops i L (o :: rest) K := by
  obtain ⟨es, F, h1, h2⟩ := k.get
  exact ⟨e :: es, F, ⟨h, h1⟩, h2⟩
/-- An operation that gives a value. -/
theorem d_op (rt rb : List Nat) {d : Option Nat} {x : AV} (hi : ops[i]? = some o) (hg : o.guard = none) (h : ∀ s, Hold ⟨d, x, [], rt, rb⟩ L s → Ok P N o s (s.put d x)) (k : Drs P N ops (i + 1) (L.put d x) rest (fun es F => K (⟨d, x, [], rt, rb⟩ :: es) F)) : Drs P N ops i L (o :: rest) K :=
  Drs.more (fun s hs => opG_of hi hg (h s hs).get) k
/-- An operation that lays a block. -/
theorem d_al (rt rb : List Nat) {d : Option Nat} {x : AV} {b : Nat} {B : Blk} (hi : ops[i]? = some o) (hg : o.guard = none) (h : ∀ s, Hold ⟨d, x, [(b, B)], rt, rb⟩ L s → Ok P N o s ((s.setB b B).put d x)) (k : Drs P N ops (i + 1) ((L.setB b B).put d x) rest (fun es F => K (⟨d, x, [(b, B)], rt, rb⟩ :: es) F)) : Drs P N ops i L (o :: rest) K :=
  Drs.more (fun s hs => opG_of hi hg (h s hs).get) k
/-- A store. -/
theorem d_st (rt rb : List Nat) {b : Nat} {B : Blk} (hi : ops[i]? = some o) (hg : o.guard = none) (h : ∀ s, Hold ⟨none, .p .any, [(b, B)], rt, rb⟩ L s → Ok P N o s (s.setB b B)) (k : Drs P N ops (i + 1) (L.setB b B) rest (fun es F => K (⟨none, .p .any, [(b, B)], rt, rb⟩ :: es) F)) : Drs P N ops i L (o :: rest) K :=
  Drs.more (fun s hs => opG_of hi hg (h s hs).get) k
/-- An operation that lays a block and turns another one. -/
theorem d_al2 (rt rb : List Nat) {d : Option Nat} {x : AV} {b0 b : Nat} {B0 B : Blk} (hi : ops[i]? = some o) (hg : o.guard = none) (h : ∀ s, Hold ⟨d, x, [(b0, B0), (b, B)], rt, rb⟩ L s → Ok P N o s (((s.setB b0 B0).setB b B).put d x)) (k : Drs P N ops (i + 1) (((L.setB b0 B0).setB b B).put d x) rest (fun es F => K (⟨d, x, [(b0, B0), (b, B)], rt, rb⟩ :: es) F)) : Drs P N ops i L (o :: rest) K :=
  Drs.more (fun s hs => opG_of hi hg (h s hs).get) k
/-- An operation under a guard. -/
theorem d_gd (rt rb : List Nat) {d : Option Nat} {x : AV} {j g : Nat} {want b : Bool} (hi : ops[i]? = some o) (hg : o.guard = some (j, want)) (hj : (ops[j]?).bind (·.dst) = some g) (hN : Nat.blt g N = true) (hgr : rt.contains g = true) (hb : L.env g = Bo b) (hd : DS N o d)
    (h : ∀ s, Hold ⟨d, gv (b == want) x, [], rt, rb⟩ L s → (b == want) = true → Ok P N o s (s.put d x)) (k : Drs P N ops (i + 1) (L.put d (gv (b == want) x)) rest (fun es F => K (⟨d, gv (b == want) x, [], rt, rb⟩ :: es) F)) : Drs P N ops i L (o :: rest) K :=
  Drs.more (e := ⟨d, gv (b == want) x, [], rt, rb⟩) (fun s hs => opG_guard hi hg hj (by rwa [Nat.blt_eq] at hN) ((hs.1 g hgr).trans hb) (fun e => by
      have e2 : (b == want) = true := by simp [e]
      have := (h s hs e2).get
      show OpOk P N o s (s.put d (gv (b == want) x))
      rw [gd e2]; exact this) (fun e => ⟨hd.ok, by
      have e2 : (b == want) = false := by simpa using e
      show s.put d (gv (b == want) x) = _
      rw [e2, hd.1]; rfl⟩)) k
theorem opG_guard2 {i : Nat} {o : Oper} {s s' : ASt} {j d : Nat} {want b c : Bool} (hi : ops[i]? = some o) (hg : o.guard = some (j, want)) (hj : (ops[j]?).bind (·.dst) = some d) (hd : d < N) (hb : s.env d = gv c (Bo b))
    (h1 : (c && (b == want)) = true → OpOk P N o s s') (h2 : (c && (b == want)) = false → (∀ d, o.dst = some d → d < N) ∧ s' = s.put o.dst (.p (.v undef))) : OpG P N ops i s s' := by
  cases c with
  | true => exact opG_guard hi hg hj hd hb (fun e => h1 (by simp [e])) (fun e => h2 (by simpa using e))
  | false =>
    rintro w0 S0 Hd a w ⟨β, S, hI⟩ K Q hK
    have e := hI.env β (Agree.refl _ _) d
    rw [hb] at e
    have e : a.tmps.getD d undef = undef := e
    have hlt : d < a.tmps.size := by rw [hI.size]; exact hd
    have hy : yielded ops a.tmps j = none := by
      unfold yielded
      rw [hj]
      have : a.tmps[d]? = some undef := by
        rw [Array.getD_eq_getD_getElem?, Array.getElem?_eq_getElem hlt] at e
        rw [Array.getElem?_eq_getElem hlt]
        exact congrArg some (by simpa using e)
      simp [this, undef]
    simp only [wpOp, hi]
    rw [if_neg (by simp [Region.wanted, hg, hy])]
    obtain ⟨hdd, hs'⟩ := h2 rfl
    subst hs'
    exact hK _ _ ⟨β, S, hI.putO hdd fun β' _ => rfl⟩

/-- An operation under a guard that stands itself under one. -/
theorem d_gd2 (rt rb : List Nat) {d : Option Nat} {x : AV} {j g : Nat} {want b c : Bool} (hi : ops[i]? = some o) (hg : o.guard = some (j, want)) (hj : (ops[j]?).bind (·.dst) = some g) (hN : Nat.blt g N = true) (hgr : rt.contains g = true) (hb : L.env g = gv c (Bo b)) (hd : DS N o d)
    (h : ∀ s, Hold ⟨d, gv (c && (b == want)) x, [], rt, rb⟩ L s → (c && (b == want)) = true → Ok P N o s (s.put d x)) (k : Drs P N ops (i + 1) (L.put d (gv (c && (b == want)) x)) rest (fun es F => K (⟨d, gv (c && (b == want)) x, [], rt, rb⟩ :: es) F)) : Drs P N ops i L (o :: rest) K := by
  refine Drs.more (e := ⟨d, gv (c && (b == want)) x, [], rt, rb⟩) (fun s hs => opG_guard2 hi hg hj (by rwa [Nat.blt_eq] at hN) ((hs.1 g hgr).trans hb) (fun e2 => ?_) (fun e2 => ⟨hd.ok, ?_⟩)) k
  · have := (h s hs e2).get
    show OpOk P N o s (s.put d (gv (c && (b == want)) x))
    rw [gd e2]; exact this
  · show s.put d (gv (c && (b == want)) x) = _
    rw [e2, hd.1]; rfl
theorem r_gd2 {QL : ASt → Prop} {σ : ASt} {j g : Nat} {want b c : Bool} {d : Option Nat} {x : AV} (hg : o.guard = some (j, want)) (hj : (ops[j]?).bind (·.dst) = some g) (hN : Nat.blt g N = true) (hb : σ.env g = gv c (Bo b)) (hd : DS N o d)
    (h1 : (c && (b == want)) = true → Ok P N o σ (σ.put d x)) (h : Tl P N ops rest (σ.put d (gv (c && (b == want)) x)) QL) : Tl P N ops (o :: rest) σ QL := by
  cases c with
  | true => exact r_gd hg hj hN hb hd (fun e => h1 (by simpa using e)) h
  | false =>
    refine ⟨fun w0 S0 Hd a w ⟨β, S, hI⟩ => ?_⟩
    have e := hI.env β (Agree.refl _ _) g
    rw [hb] at e
    have e : a.tmps.getD g undef = undef := e
    have hlt : g < a.tmps.size := by rw [hI.size]; rwa [Nat.blt_eq] at hN
    have hy : yielded ops a.tmps j = none := by
      unfold yielded
      rw [hj]
      have : a.tmps[g]? = some undef := by
        rw [Array.getD_eq_getD_getElem?, Array.getElem?_eq_getElem hlt] at e
        rw [Array.getElem?_eq_getElem hlt]
        exact congrArg some (by simpa using e)
      simp [this, undef]
    simp only [wpList]
    rw [if_neg (by simp [Region.wanted, hg, hy])]
    have h3 := h.get w0 S0 Hd (a.put d undef) w ⟨β, S, hI.putO (fun d' e => hd.ok d' (by rw [hd.1]; exact e)) (fun β' _ => rfl)⟩
    rw [hd.1]
    exact h3
end

theorem andl {a b : Bool} (h : (a && b) = true) : a = true := by cases a <;> simp_all
theorem gd2 {a b : Bool} {x : AV} (h : a = true) : gv (a && b) x = gv b x := by rw [h]; rfl
theorem conv_e {σ : ASt} {x y : AV} {pv : PV} (e : x = y) (h : Conv σ y pv) : Conv σ x pv := by rw [e]; exact h
theorem conv_gd {σ : ASt} {b : Bool} {x : AV} {pv : PV} (h : b = true) (k : Conv σ x pv) : Conv σ (gv b x) pv := by rw [gd h]; exact k
theorem nx_of {s L : ASt} {b : Nat} (h : s.nx = L.nx) (k : Nat.ble L.nx b = true) : Nat.ble s.nx b = true := by rw [h]; exact k

theorem Le.same {σ : ASt} {d : Nat} {x y : AV} (h : σ.env d = y) (e : y = x) : Le σ (σ.put (some d) x) := ⟨fun t => by
  simp only [ASt.put, upd]
  by_cases ht : t = d
  · subst ht; right; simp [h, e]
  · right; simp [ht], rfl, rfl⟩
/-- Both ways of a branch lay the same value into a slot. -/
theorem r_midp {P : Program} {N : Nat} {σ : ASt} {Q : Exit → ASt → Prop} (d : Nat) (v : AV) {x y : Code} (h1 : Tr P N x σ (thenQ (fun σ' => Le σ' (σ.put (some d) v)) Q)) (h2 : Tr P N y (σ.put (some d) v) Q) : Tr P N (.seq x y) σ Q :=
  r_mid (σ.put (some d) v) ⟨h1.get.mono fun e σ' h => by
    cases e with
    | normal => exact Le.gh h
    | _ => exact h⟩ h2
/-- Nothing but slots that are not spoken of is written. -/
theorem r_mid0 {P : Program} {N : Nat} {σ : ASt} {Q : Exit → ASt → Prop} {x y : Code} (h1 : Tr P N x σ (thenQ (fun σ' => Le σ' σ) Q)) (h2 : Tr P N y σ Q) : Tr P N (.seq x y) σ Q :=
  r_mid σ ⟨h1.get.mono fun e σ' h => by
    cases e with
    | normal => exact Le.gh h
    | _ => exact h⟩ h2
end Vou
end

section
set_option linter.unusedVariables false
set_option linter.unusedSimpArgs false
/- More operations: copy, tests for nil, parts of texts, zeros at the end. -/
namespace Vou
open Go Go.RowKit

section
variable {P : Program} {N : Nat} {o : Oper} {σ : ASt}

theorem ok_copy {t t' : TypeId} {x y : Operand} (ho : o.op = .call { callee := .builtin .copy, args := #[x, y], argTypes := #[t, t'] }) {e : TypeId} {r : Nat × Nat × Option Value} (ht : tyOf P t = some (.slice e, r)) {D : TypeDesc} {sz : Nat} {r' : Nat × Option Value} (hte : tyOf P e = some (D, sz, r'))
    {full : Bool} {b n m : Nat} (hx : σ.look x = .own full sz b 0 n) {B : Blk} (hb : σ.heap b = some B) (hl : B.live = true) (hp : B.pub = false) (hlen : n * sz ≤ B.cells.length) {ys : List AV} (hsrc : SrcOk σ sz m (σ.look y) ys) (hmn : m ≤ n) (hn : 0 < n) (hm : m < 9223372036854775808) (hd : DstOk N o) :
    OpOk P N o σ ((σ.setB b { B with cells := ys ++ B.cells.drop (m * sz) }).put o.dst (I .i64 m)) := fun w0 S0 Hd a w ⟨β, S, hI⟩ K Q hK => by
  obtain ⟨hu, _⟩ := tyOf_spec ht
  obtain ⟨_, i, hi, hs, _⟩ := tyOf_spec hte
  have hxe := hI.look x β (Agree.refl _ _)
  rw [hx] at hxe
  obtain ⟨A, c, news, hye, hnl, hnR, hn1, hncell⟩ := hsrc _ _ _ _ _ _ _ _ hI _ (hI.look y β (Agree.refl _ _))
  have hk0 := hI.heap β (Agree.refl _ _) b B hb hl
  simp only [RelA] at hxe
  cases hpl : β b with
  | gone => rw [hpl] at hk0; exact hk0.elim
  | nil => rw [hpl] at hxe; omega
  | loc g szb =>
    rw [hpl] at hxe hk0
    obtain ⟨c', hxe, hnc, hcm, _⟩ := hxe
    obtain ⟨⟨us, rest, hh, hsz, h1c, hR⟩, _, _⟩ := hk0
    have hul : us.length = B.cells.length := hR.length
    have hle : m * sz ≤ us.length := by rw [hul]; exact Nat.le_trans (Nat.mul_le_mul_right _ hmn) hlen
    have hfc : (Builtin.firstCells sz m (.slice A m c)).run P w = .ok news.toArray w := by
      rcases Nat.eq_zero_or_pos m with h0 | h0
      · subst h0
        have : news = [] := List.eq_nil_of_length_eq_zero (by rw [hnl]; simp)
        subst this
        cases A <;> simp [Builtin.firstCells, loadCells, loadCellsFrom]
      · obtain ⟨ad, rfl, hcell⟩ := hncell h0
        have := run_loadCells_list (P := P) w ad news hcell
        rw [hnl] at this
        simp only [Builtin.firstCells]
        exact this
    have hst := run_storeCells_at P g 0 B.ty news 0 (us ++ rest).toArray w hh (by simp [hnl]; omega) hn1
    have ecells : ((us ++ rest).toArray.toList.take (0 + 0) ++ news ++ (us ++ rest).toArray.toList.drop (0 + 0 + news.length)) = (news ++ us.drop (m * sz)) ++ rest := by
      rw [hnl]
      simp only [Nat.zero_add, List.take_zero, List.nil_append]
      rw [List.drop_append_of_le_length hle, List.append_assoc]
    rw [ecells] at hst
    have hrun : (Builtin.copy_ #[t, t'] o.type #[.slice (some ⟨g, 0, none⟩) n c', .slice A m c]).run P w = .ok (.int .i64 (m : Int)) (w.setRow g ((news ++ us.drop (m * sz)) ++ rest).toArray) := by
      have hmin : Nat.min m n = m := Nat.min_eq_left hmn
      simp only [Builtin.copy_, Sem.run_bind, run_underlying hu, Result.andThen_ok, Builtin.lenOf, Sem.run_pure, run_sizeOf hi, hs, hmin, hfc, List.getElem?_toArray, List.getElem?_cons_zero, List.getElem?_cons_succ]
      simp only [hst, Result.andThen_ok, goInt]
    unfold Oper.wp
    have hex : (execOp a.eval o).run P w = .ok (.value (.int .i64 (m : Int))) (w.setRow g ((news ++ us.drop (m * sz)) ++ rest).toArray) := by
      unfold execOp
      simp only [ho, resolve, invoke, builtin, Sem.run_bind, Sem.run_pure, Result.andThen_ok, List.map_toArray, List.map_cons, List.map_nil, hxe, hye, hrun]
    rw [hex]
    have hlen2 : ((news ++ us.drop (m * sz)) ++ rest).length = szb := by
      rw [← hsz]
      simp only [List.length_append, List.length_drop, hnl]
      omega
    have h2 := hI.turn (xs := ys ++ B.cells.drop (m * sz)) hb hl hp hpl (setRow_heap w g _ _ _ _ hh) hlen2 (fun v hv => by
      rcases List.mem_append.1 hv with hv | hv
      · exact hn1 v hv
      · exact h1c v (List.mem_of_mem_drop hv)) (fun β' hb' => (hnR β' hb').append ((hI.cells_at hb hl hpl hh hul hb').drop _)) (fun g' hne => setRow_other w g g' _ hne) (by simp [World.setRow]) rfl rfl rfl
    exact hK _ _ ⟨β, S, Inv.putO (σ := σ.setB b { B with cells := ys ++ B.cells.drop (m * sz) }) h2 hd fun β' _ => rfl⟩

theorem src_slP (k : IntKind) (xs : List Nat) : SrcOk σ 1 xs.length (.p (slP k xs)) (nums k xs) := by
  have := src_sl (σ := σ) (c := false) (els_one k xs)
  rw [els_len, els_flat, List.map_map] at this
  exact this

/-- A list of numbers is copied into one of the call's own. -/
theorem o_cpN (d : Option Nat) (hd : DS N o d) {t t' : TypeId} {x y : Operand} (ho : o.op = .call { callee := .builtin .copy, args := #[x, y], argTypes := #[t, t'] }) {e : TypeId} {r : Nat × Nat × Option Value} (ht : tyOf P t = some (.slice e, r)) {D : TypeDesc} {r' : Nat × Option Value} (hte : tyOf P e = some (D, 1, r'))
    {full : Bool} {b n : Nat} (hx : σ.look x = .own full 1 b 0 n) {B : Blk} (hb : σ.heap b = some B) (hl : B.live = true) (hp : B.pub = false) {k : IntKind} {zs : List Nat} (hc : B.cells = nums k zs) (hzn : zs.length = n) {xs : List Nat} (hy : σ.look y = .p (slP k xs)) (hmn : xs.length ≤ n) (hn : 0 < n) (hm : xs.length < 9223372036854775808) :
    Ok P N o σ ((σ.setB b { B with cells := nums k (xs ++ zs.drop xs.length) }).put d (I .i64 xs.length)) := by
  have := ok_copy (P := P) (N := N) ho ht hte hx hb hl hp (by rw [hc, nums_len]; omega) (m := xs.length) (ys := nums k xs) (by rw [hy]; exact src_slP k xs) hmn hn hm hd.ok
  rw [hd.1, hc, Nat.mul_one] at this
  have e1 : nums k xs ++ (nums k zs).drop xs.length = nums k (xs ++ zs.drop xs.length) := by simp [nums, List.map_drop]
  rw [e1] at this
  exact ⟨this⟩
end
end Vou
end

section
set_option linter.unusedVariables false
set_option linter.unusedSimpArgs false
/- Functions that hand back a new list of the caller's own. -/
namespace Vou
open Go Go.RowKit

section
variable {P : Program} {N : Nat} {o : Oper} {σ : ASt} {QL : ASt → Prop} {ops : Array Oper} {rest : List Oper}

/-- A slice is held against nil. -/
theorem r_eqnil {d : Option Nat} {op : BinOp} {t t' : TypeId} {x : Operand} (hg : o.guard = none) (hd : DS N o d) (ho : o.op = .binOp .eql t x (.const (.slice none 0 0)) t') {c : Bool} {es : List (List PV)} (hx : σ.look x = .p (.sl c es))
    {e : TypeId} {r : Nat × Nat × Option Value} (ht : tyOf P t = some (.slice e, r)) (h : ∀ b : Bool, (b = true → es = []) → Tl P N ops rest (σ.put d (Bo b)) QL) : Tl P N ops (o :: rest) σ QL := by
  refine ⟨fun w0 S0 Hd a w ⟨β, S, hI⟩ => ?_⟩
  obtain ⟨hu, _⟩ := tyOf_spec ht
  have h1 := hI.look x β (Agree.refl _ _)
  rw [hx] at h1
  obtain ⟨A, c', hxe, _, _, _, hA⟩ := h1
  simp only [wpList]
  rw [if_pos (by simp [Region.wanted, hg])]
  refine .inl ?_
  have hrun : (execOp a.eval o).run P w = .ok (.value (.bool A.isNone)) w := by
    unfold execOp
    have hce : a.eval (.const (.slice none 0 0)) = .slice none 0 0 := rfl
    simp only [ho, hxe, hce, Sem.run_bind]
    have hgd : (eqGuard .eql t x (.const (.slice none 0 0)) (.slice A es.length c') (.slice none 0 0)).run P w = .ok () w := by simp [eqGuard]
    rw [hgd]
    have he : (Op.equal t (.slice A es.length c') (.slice none 0 0)).run P w = .ok A.isNone w := by
      have key : ∀ d, (Op.equalIn (d + 1) t (.slice A es.length c') (.slice none 0 0)).run P w = .ok A.isNone w := fun d => by
        cases A <;> simp [Op.equalIn, run_underlying hu]
      exact key 9999
    simp [binOp, he]
  unfold Oper.wp
  rw [hrun]
  refine (h A.isNone (fun hn => ?_)).get w0 S0 Hd (a.put o.dst (.bool A.isNone)) w ⟨β, S, ?_⟩
  · rcases hA with hA | ⟨b, off, k, rfl, _⟩
    · exact hA
    · cases hn
  · rw [hd.1]
    exact hI.putO (fun d' e => hd.ok d' (by rw [hd.1]; exact e)) (fun β' _ => rfl)

/-- The function hands back a new slice: no one else knows its block. -/
def FnF (P : Program) (f : FuncId) (args : List PV) (sz n : Nat) (ty : TypeId) (xs : List PV) : Prop :=
  ∀ (w : World) (S : Nat → Prop) (vals : List Value), Cl S w → RelL S w args vals →
    Calls P f vals.toArray w fun e w' => ∃ (v : Value) (S' : Nat → Prop), e = .returned v ∧ Below w.heap.size w w' ∧ (∀ g, S g → S' g) ∧ (∀ g, S' g → S g ∨ (w.heap.size ≤ g ∧ CellsAt w' g)) ∧
      ((v = .slice none 0 0 ∧ n = 0 ∧ xs = []) ∨ ∃ (g c : Nat) (us rest : List Value), v = .slice (some ⟨g, 0, none⟩) n c ∧ n ≤ c ∧ c ≤ maxLen ∧ c * sz = (us ++ rest).length ∧ w.heap.size ≤ g ∧ ¬ S' g ∧ w'.heap[g]? = some (.cells (us ++ rest).toArray ty (0, 0)) ∧ (∀ u ∈ us, u.oneCell' = true) ∧ RelL S' w' xs us)

theorem RelL.toA {β : Nat → Pl} {S : Nat → Prop} {w : World} : ∀ {xs : List PV} {us : List Value}, RelL S w xs us → RelAL β S w (xs.map AV.p) us
  | [], _, h => h
  | _ :: _, _, ⟨u, us', h0, h1, h2⟩ => ⟨u, us', h0, h1, RelL.toA h2⟩
theorem RelL.ofA {β : Nat → Pl} {S : Nat → Prop} {w : World} : ∀ {xs : List PV} {us : List Value}, RelAL β S w (xs.map AV.p) us → RelL S w xs us
  | [], _, h => h
  | _ :: _, _, ⟨u, us', h0, h1, h2⟩ => ⟨u, us', h0, h1, RelL.ofA h2⟩

theorem o_callF (d : Option Nat) (hd : DS N o d) {f : FuncId} (hT : Txt P f) {x : Operand} {args : List Operand} {ts : Array TypeId} (ho : o.op = .call { callee := .value x, args := args.toArray, argTypes := ts }) (hx : σ.look x = .fn f [])
    (b : Nat) (hfresh : σ.heap b = none) (hnx : Nat.ble σ.nx b = true) {pvs : List PV} {sz n : Nat} {ty : TypeId} {xs : List PV} (hf : FnF P f pvs sz n ty xs) (hc : ConvL σ (args.map σ.look) pvs) {cs : List AV} (hcs : xs.map AV.p = cs) :
    Ok P N o σ ((σ.setB b { cells := cs, ty := ty }).put d (.own true sz b 0 n)) := ⟨fun w0 S0 Hd a w ⟨β, S, hI⟩ K Q hK => by
  subst hcs
  have hnx := Nat.le_of_ble_eq_true hnx
  have e1 := hI.look x β (Agree.refl _ _)
  rw [hx] at e1
  obtain ⟨us, he, hnil⟩ := e1
  have hnil : us = [] := hnil
  subst hnil
  unfold Oper.wp
  rw [run_call hT ho he w, List.append_nil]
  have hR := ConvL.rel hI hc (RelAL.map_look hI (Agree.refl _ _) args)
  refine (hf w S _ hI.cl hR).mono fun e w' => ?_
  rintro ⟨v, S', rfl, hB, h1, h2, hv⟩
  have hG := hI.grow hB h1 h2
  rw [hd.1]
  have hdd : ∀ d', d = some d' → d' < N := fun d' e => hd.ok d' (by rw [hd.1]; exact e)
  rcases hv with ⟨rfl, rfl, rfl⟩ | ⟨g, c, us, rest, rfl, hnc, hcm, hsz, hge, hSg, hh, hone, hrel⟩
  · have h3 := hG.placeNil hfresh hnx ty
    refine hK _ _ ⟨_, S', Inv.putO (σ := σ.setB b { cells := [], ty := ty }) h3 hdd (fun β' hb => ?_)⟩
    have : β' b = .nil := by rw [hb b (.inr (by simp [ASt.setB, upd])), upd_same]
    simp [RelA, this]
  · have h3 := hG.place hfresh hnx hh hSg (fun b' k szz e hl hbl => by
      have := hI.loc_lt e hl hbl
      omega) (.inl (Nat.le_trans hI.frame.size hge)) (xs := xs.map AV.p) (fun β' _ => RelL.toA hrel) hone
    refine hK _ _ ⟨_, S', Inv.putO (σ := σ.setB b { cells := xs.map AV.p, ty := ty }) h3 hdd (fun β' hb => ?_)⟩
    have : β' b = .loc g (us ++ rest).length := by rw [hb b (.inr (by simp [ASt.setB, upd])), upd_same]
    simp only [RelA, this]
    exact ⟨c, rfl, hnc, hcm, fun _ => ⟨trivial, hsz⟩⟩⟩

/-- The result of such a function: a list of the call's own, or a nil slice. -/
def ResF (σ : ASt) (t : Nat) (sz n : Nat) (ty : TypeId) (xs : List PV) : Prop :=
  (σ.env t = .p (.v (.slice none 0 0)) ∧ n = 0 ∧ xs = []) ∨ ∃ (b : Nat) (B : Blk), σ.env t = .own true sz b 0 n ∧ σ.heap b = some B ∧ B.live = true ∧ B.pub = false ∧ B.ty = ty ∧ B.cells = xs.map AV.p

theorem fnF_of {f : FuncId} {fn : Func} (hf : P.funcs[f]? = some fn) {c : Code} (hb : fn.body = some c) {args : List PV} {sz n : Nat} {ty : TypeId} {xs : List PV} (hN : args.length ≤ fn.ntmps) {t : Nat} (hres : fn.results = #[.tmp t])
    (h : Tr P fn.ntmps c (st0 args) (fun e σ => (e = .ret ∨ e = .normal) ∧ ResF σ t sz n ty xs)) : FnF P f args sz n ty xs := fun w S vals hS hR => by
  refine callsIn_wide (n := 0).1 (callsIn_of_wp_marks hf hb trivial (wpIn_wide.2 (wp_mono (h.get w S (fun _ _ _ => False) _ w ⟨_, S, st0_inv hS hR hN⟩) ?_)))
  rintro e a' w' ⟨σ', ⟨he, hr⟩, β, S', hI⟩
  obtain ⟨w'', hI, hleave⟩ := hI.leave (P := P)
  have hrun : (results fn a'.tmps).run P w'' = .ok (a'.tmps.getD t undef) w'' := by
    rw [results_eq, Sem.run_bind, hres]
    simp [resOf]
  have hfin : ∃ v S'', (results fn a'.tmps).run P w'' = .ok v w'' ∧ (∃ (v' : Value), Ending.returned v = .returned v' ∧ Below w.heap.size w w'' ∧ (∀ g, S g → S'' g) ∧ (∀ g, S'' g → S g ∨ (w.heap.size ≤ g ∧ CellsAt w'' g)) ∧
      ((v' = .slice none 0 0 ∧ n = 0 ∧ xs = []) ∨ ∃ (g c : Nat) (us rest : List Value), v' = .slice (some ⟨g, 0, none⟩) n c ∧ n ≤ c ∧ c ≤ maxLen ∧ c * sz = (us ++ rest).length ∧ w.heap.size ≤ g ∧ ¬ S'' g ∧ w''.heap[g]? = some (.cells (us ++ rest).toArray ty (0, 0)) ∧ (∀ u ∈ us, u.oneCell' = true) ∧ RelL S'' w'' xs us)) := by
    refine ⟨_, S', hrun, _, rfl, ⟨hI.frame.os, hI.frame.tape, hI.frame.output, hI.frame.size, fun g hg => hI.frame.block g hg (fun ⟨_, _, h⟩ => h)⟩, hI.keep, fun g hg => ?_, ?_⟩
    · rcases hI.new g hg with h1 | h1 | h1
      · exact .inl h1
      · exact .inr ⟨h1, hI.cl g hg⟩
      · obtain ⟨_, _, h1⟩ := h1; exact h1.elim
    · have he := hI.env β (Agree.refl _ _) t
      rcases hr with ⟨h1, h2, h3⟩ | ⟨b, B, h1, h2, h3, h4, h5, h6⟩
      · rw [h1] at he
        exact .inl ⟨he, h2, h3⟩
      · rw [h1] at he
        have hk := hI.heap β (Agree.refl _ _) b B h2 h3
        simp only [RelA] at he
        cases hpl : β b with
        | gone => rw [hpl] at hk; exact hk.elim
        | nil =>
          rw [hpl] at he hk
          refine .inl ⟨he.1, he.2, ?_⟩
          have hk : B.cells = [] := hk
          rw [h6] at hk
          exact List.map_eq_nil_iff.1 hk
        | loc g szb =>
          rw [hpl] at he hk
          obtain ⟨c, e1, e2, e3, e4⟩ := he
          obtain ⟨⟨us, rest, k1, k2, k3, k4⟩, k5, k6⟩ := hk
          refine .inr ⟨g, c, us, rest, e1, e2, e3, by rw [k2]; exact (e4 trivial).2, ?_, (fun hS' => by rw [k5.1 hS'] at h4; cases h4), by rw [← h5]; exact k1, k3, ?_⟩
          · rcases k6.1 with k6 | k6
            · exact k6
            · obtain ⟨_, _, k6⟩ := k6; exact k6.elim
          · rw [h6] at k4
            exact RelL.ofA k4
  obtain ⟨v, S'', hv, v', hvv, hrest⟩ := hfin
  rcases he with rfl | rfl
  · exact hleave fn _ ⟨v, hv, v', S'', hvv, hrest⟩
  · exact hleave fn _ ⟨v, hv, v', S'', hvv, hrest⟩
end
end Vou
end

section
set_option linter.unusedVariables false
set_option linter.unusedSimpArgs false
/- A whole list is appended; a call hands back a new list. -/
namespace Vou
open Go Go.RowKit

section
variable {P : Program} {N : Nat} {o : Oper} {σ : ASt}

/-- A block of the call's own gets another name. -/
theorem Inv.rename {w0 : World} {S0 : Nat → Prop} {Hd : Nat → Nat → Nat → Prop} {a : Act} {w : World} {β : Nat → Pl} {S : Nat → Prop} (hI : Inv N w0 S0 Hd σ a w β S) {b0 b : Nat} {B0 : Blk} (h0 : σ.heap b0 = some B0) (hl : B0.live = true) (hp : B0.pub = false) (hfresh : σ.heap b = none) (hnx : σ.nx ≤ b) :
    ∃ β', Inv N w0 S0 Hd ((σ.setB b0 { B0 with live := false }).setB b { cells := B0.cells, ty := B0.ty }) a w β' S ∧ β' b = β b0 ∧ β' b0 = β b0 := by
  have hk := hI.kill b0 B0
  have hne : b ≠ b0 := fun e => by rw [e, h0] at hfresh; cases hfresh
  have hfresh' : (σ.setB b0 { B0 with live := false }).heap b = none := by
    simp only [ASt.setB, upd, if_neg hne]; exact hfresh
  have hb0 := hI.heap β (Agree.refl _ _) b0 B0 h0 hl
  cases hpl : β b0 with
  | gone => rw [hpl] at hb0; exact hb0.elim
  | nil =>
    rw [hpl] at hb0
    have hc : B0.cells = [] := hb0
    have := hk.placeNil hfresh' hnx B0.ty
    have e : ({ cells := B0.cells, ty := B0.ty } : Blk) = { cells := [], ty := B0.ty } := by rw [hc]
    rw [e]
    exact ⟨_, this, by rw [upd_same], by rw [upd_ne _ _ _ _ (Ne.symm hne)]; exact hpl⟩
  | loc g sz =>
    rw [hpl] at hb0
    obtain ⟨⟨us, rest, k1, k2, k3, k4⟩, k5, k6⟩ := hb0
    have hS : ¬ S g := fun hS => by rw [k5.1 hS] at hp; cases hp
    have := hk.place (d := b) hfresh' hnx (xs := B0.cells) (us := us) (rest := rest) (ty := B0.ty) k1 hS (fun b' k szz e hl' hb' => by
      simp only [ASt.setB, upd] at e
      split at e
      · cases e; cases hl'
      · rename_i hn
        exact hn (hI.inj b' b0 k B0 g szz sz e hl' h0 hl hb' hpl)) k6.1 (fun β' hb' => by
      refine hI.cells_at h0 hl hpl k1 k4.length (fun b' hb'' => hb' b' ?_)
      rcases hb'' with h | h
      · exact .inl h
      · right
        simp only [ASt.setB, upd]
        split
        · rfl
        · exact h) k3
    rw [k2] at this
    exact ⟨_, this, by rw [upd_same], by rw [upd_ne _ _ _ _ (Ne.symm hne)]; exact hpl⟩

/-- The cells of a list of numbers, as values that do not change. -/
def pvs (k : IntKind) (zs : List Nat) : List PV := zs.map fun d => PV.v (.int k (d : Nat))
theorem pvs_p (k : IntKind) (zs : List Nat) : (pvs k zs).map AV.p = nums k zs := by simp [pvs, nums]

theorem pvs_ne {k : IntKind} {zs : List Nat} (h : 0 < zs.length) : pvs k zs ≠ [] := fun e => by
  have := congrArg List.length e
  simp [pvs] at this
  subst this; simp at h

/-- A new list without numbers. -/
theorem o_bsN0 (d : Option Nat) (hd : DS N o d) {t : TypeId} (ho : o.op = .buildSlice t 0 #[]) (b : Nat) (hfresh : σ.heap b = none) (hnx : Nat.ble σ.nx b = true)
    {e : TypeId} {r : Nat × Nat × Option Value} (ht : tyOf P t = some (.slice e, r)) {k : IntKind} {by_ : Nat} (hte : tyOf P e = some (.int k, 1, by_, some (.int k 0))) :
    Ok P N o σ ((σ.setB b { cells := nums k [], ty := e }).put d (.own true 1 b 0 0)) := by
  have := ok_buildSlice (P := P) (N := N) (σ := σ) (parts := []) ho hfresh (Nat.le_of_ble_eq_true hnx) ht hte rfl (by omega) rfl (by omega) (ys := nums k []) rfl hd.ok
  rw [hd.1] at this
  exact ⟨this⟩

/-- A list is appended to a list of the call's own. -/
theorem o_apS (d : Option Nat) (hd : DS N o d) {t : TypeId} {s x : Operand} (ho : o.op = .call { callee := .builtin .append, args := #[s, x], argTypes := #[t, t] }) (b : Nat) (hfresh : σ.heap b = none) (hnx : Nat.ble σ.nx b = true)
    {e : TypeId} {r : Nat × Nat × Option Value} (ht : tyOf P t = some (.slice e, r)) {k : IntKind} {by_ : Nat} (hte : tyOf P e = some (.int k, 1, by_, some (.int k 0))) (hb2 : Nat.ble by_ 8 = true)
    {b0 n : Nat} {B0 : Blk} {zs : List Nat} (hs : σ.look s = .own true 1 b0 0 n) (h0 : σ.heap b0 = some B0) (hl0 : B0.live = true) (hp0 : B0.pub = false) (ht0 : B0.ty = e) (hc0 : B0.cells = nums k zs) (hn : zs.length = n)
    {xs : List Nat} (hx : σ.look x = .p (slP k xs)) (hr : n + xs.length ≤ 1099511627776) :
    Ok P N o σ (((σ.setB b0 { B0 with live := false }).setB b { cells := nums k (zs ++ xs), ty := e }).put d (.own true 1 b 0 (n + xs.length))) := by
  have h8 := Nat.le_of_ble_eq_true hb2
  have hnx' := Nat.le_of_ble_eq_true hnx
  have hm : (n + xs.length) * by_ ≤ (n + xs.length) * 8 := Nat.mul_le_mul_left _ h8
  by_cases h00 : xs.length = 0
  · -- nothing is appended
    have hxs : xs = [] := List.eq_nil_of_length_eq_zero h00
    subst hxs
    have hz := ok_append_zero (P := P) (N := N) (σ := σ) ho ht hte (fun w0 S0 Hd a w β S hI => by
      have he := hI.look s β (Agree.refl _ _)
      rw [hs] at he
      have hk := hI.heap β (Agree.refl _ _) b0 B0 h0 hl0
      simp only [RelA] at he
      cases hpl : β b0 with
      | gone => rw [hpl] at hk; exact hk.elim
      | nil => rw [hpl] at he; exact ⟨none, 0, 0, he.1, Nat.le_refl _⟩
      | loc g sz => rw [hpl] at he; obtain ⟨c, e1, e2, _⟩ := he; exact ⟨_, n, c, e1, e2⟩) (by rw [hx]; exact src_slP k []) hd.ok
    rw [hd.1] at hz
    refine ⟨fun w0 S0 Hd a w r K Q hK => hz w0 S0 Hd a w r K Q fun a' w' r' => hK a' w' ?_⟩
    obtain ⟨β, S, hI⟩ := r'
    have e0 : (σ.put d (σ.look s)).heap b0 = some B0 := by rw [put_heap]; exact h0
    obtain ⟨β', hI', hb, hb0⟩ := hI.rename e0 hl0 hp0 (b := b) (by rw [put_heap]; exact hfresh) (by rw [put_nx]; exact hnx')
    refine ⟨β', S, ?_⟩
    simp only [List.append_nil, List.length_nil, Nat.add_zero]
    rw [← hc0, ← ht0]
    cases d with
    | none => exact hI'
    | some dd =>
      have hput : ∀ β'', Agree _ β' β'' → RelA β'' S w' (.own true 1 b 0 n) (a'.tmps.getD dd undef) := fun β'' hag => by
        have h1 := hI'.env β'' hag dd
        simp only [ASt.setB, ASt.put, upd_same, hs] at h1
        have e2 : β'' b = β' b := hag b (.inr (by simp [ASt.setB, upd]))
        have e3 : β'' b0 = β' b0 := hag b0 (.inr (by
          simp only [ASt.setB, upd]
          split <;> simp))
        simp only [RelA] at h1 ⊢
        rw [e2, hb]
        rw [e3, hb0] at h1
        exact h1
      have hlt : dd < N := hd.ok dd hd.1
      refine ⟨hI'.defers, hI'.size, fun β'' hag t => ?_, hI'.heap, hI'.inj, hI'.cl, hI'.keep, hI'.new, hI'.frame⟩
      by_cases ht' : t = dd
      · subst ht'
        simp only [ASt.put, upd_same]
        exact hput β'' hag
      · have := hI'.env β'' hag t
        simp only [ASt.setB, ASt.put, upd, if_neg ht'] at this ⊢
        exact this
  · have hdst : Dest σ e 1 (σ.look s) n B0.cells (some b0) := by
      rw [hs]
      exact .own h0 hl0 hp0 ht0 (by rw [hc0, nums_len, hn, Nat.mul_one])
    have := ok_append (P := P) (N := N) ho hfresh hnx' ht hte rfl (by omega) hdst (m := xs.length) (ys := nums k xs) (by rw [hx]; exact src_slP k xs) (by omega) (by omega) (by omega) hd.ok
    rw [hd.1] at this
    have e1 : B0.cells ++ nums k xs = nums k (zs ++ xs) := by rw [hc0, nums_append]
    rw [e1] at this
    simp only [ASt.killO, h0] at this
    exact ⟨this⟩
end
end Vou
end

section
set_option linter.unusedVariables false
set_option linter.unusedSimpArgs false
/- A call that may turn one block that it is handed. -/
namespace Vou
open Go Go.RowKit

/-- With these arguments the call hands back r, and of what was there it turns one block alone: its cells were cs, and are cs' then. In the arguments the block's name is 1000. -/
def FnH (P : Program) (f : FuncId) (args : List AV) (ty : TypeId) (cs : List PV) (r : PV) (cs' : List PV) : Prop :=
  ∀ (w : World) (S : Nat → Prop) (vals : List Value) (g sz : Nat) (us rest : List Value), Cl S w → ¬ S g → w.heap[g]? = some (.cells (us ++ rest).toArray ty (0, 0)) → (us ++ rest).length = sz → (∀ u ∈ us, u.oneCell' = true) → RelL S w cs us →
    RelAL (fun _ => .loc g sz) S w args vals →
    Calls P f vals.toArray w fun e w' => ∃ (v : Value) (S' : Nat → Prop), e = .returned v ∧ RelP S' w' r v ∧ FrameW w (fun n g' s => g' = g ∧ s = n) w' ∧ (∀ g', S g' → S' g') ∧ (∀ g', S' g' → S g' ∨ (w.heap.size ≤ g' ∧ CellsAt w' g')) ∧ ¬ S' g ∧
      ∃ us' rest' : List Value, w'.heap[g]? = some (.cells (us' ++ rest').toArray ty (0, 0)) ∧ (us' ++ rest').length = sz ∧ (∀ u ∈ us', u.oneCell' = true) ∧ RelL S' w' cs' us'

theorem hdd1 {g x : Nat} (h : Hdd (fun n g' s => g' = g ∧ s = n) x) : x = g := by
  obtain ⟨_, _, h, _⟩ := h
  exact h

section
variable {P : Program} {N : Nat} {o : Oper} {σ : ASt}

/-- What is handed to such a call. -/
def ArgL (σ : ASt) (b : Nat) : List AV → List AV → Prop
  | [], [] => True
  | x :: xs, y :: ys => Told σ (fun _ => True) (fun _ => b) x y ∧ ArgL σ b xs ys
  | _, _ => False

theorem al0 {b : Nat} : ArgL σ b [] [] := trivial
theorem alc {b : Nat} {x y : AV} {xs ys : List AV} (h : Told σ (fun _ => True) (fun _ => b) x y) (k : ArgL σ b xs ys) : ArgL σ b (x :: xs) (y :: ys) := ⟨h, k⟩

theorem ArgL.rel {w0 : World} {S0 : Nat → Prop} {Hd : Nat → Nat → Nat → Prop} {a : Act} {w : World} {β : Nat → Pl} {S : Nat → Prop} (hI : Inv N w0 S0 Hd σ a w β S) {b : Nat} : ∀ {xs ys : List AV} {us : List Value}, ArgL σ b xs ys → RelAL β S w xs us → RelAL (fun _ => β b) S w ys us
  | [], [], _, _, h => h
  | x :: xs, y :: ys, _, ⟨h1, h2⟩, ⟨u, us, h0, k1, k2⟩ => by
    refine ⟨u, us, h0, ?_, ArgL.rel hI h2 k2⟩
    rcases h1 with ⟨hD, rfl⟩ | ⟨pv, rfl, hc⟩
    · exact RelA.ren (D := fun _ => True) (ρ := fun _ => b) (fun _ _ => rfl) y u hD k1
    · exact hc _ _ _ _ _ _ _ _ hI u k1
  | [], _ :: _, _, h, _ => h.elim
  | _ :: _, [], _, h, _ => h.elim

theorem o_callH (d : Option Nat) (hd : DS N o d) {f : FuncId} (hT : Txt P f) {x : Operand} {args : List Operand} {ts : Array TypeId} (ho : o.op = .call { callee := .value x, args := args.toArray, argTypes := ts }) (hx : σ.look x = .fn f [])
    {avs : List AV} {ty : TypeId} {cs cs' : List PV} {r : PV} (hf : FnH P f avs ty cs r cs') {b : Nat} {B : Blk} (hb : σ.heap b = some B) (hl : B.live = true) (hp : B.pub = false) (hty : B.ty = ty) (hcs : B.cells = cs.map AV.p) (hne : cs ≠ []) (hc : ArgL σ b (args.map σ.look) avs) {zs : List AV} (hz : cs'.map AV.p = zs) :
    Ok P N o σ ((σ.setB b { B with cells := zs }).put d (.p r)) := ⟨fun w0 S0 Hd a w ⟨β, S, hI⟩ K Q hK => by
  subst hz
  have e1 := hI.look x β (Agree.refl _ _)
  rw [hx] at e1
  obtain ⟨us, he, hnil⟩ := e1
  have hnil : us = [] := hnil
  subst hnil
  unfold Oper.wp
  rw [run_call hT ho he w, List.append_nil]
  have hR := ArgL.rel hI hc (RelAL.map_look hI (Agree.refl _ _) args)
  have hk0 := hI.heap β (Agree.refl _ _) b B hb hl
  cases hpl : β b with
  | gone => rw [hpl] at hk0; exact hk0.elim
  | nil =>
    rw [hpl] at hk0
    have hk0 : B.cells = [] := hk0
    rw [hcs] at hk0
    exact absurd (List.map_eq_nil_iff.1 hk0) hne
  | loc g sz =>
    rw [hpl] at hk0
    obtain ⟨⟨us, rest, hh, hsz, h1c, hRc⟩, hSp, hB⟩ := hk0
    have hng : ¬ S g := fun hS => by rw [hSp.1 hS] at hp; cases hp
    have hRc2 : RelL S w cs us := by rw [hcs] at hRc; exact RelL.ofA hRc
    rw [hpl] at hR
    refine (hf w S _ g sz us rest hI.cl hng (by rw [← hty]; exact hh) hsz h1c hRc2 hR).mono fun e w' => ?_
    rintro ⟨v, S', rfl, hv, hF, h1, h2, hng', us', rest', hh', hsz', h1c', hR'⟩
    rw [hd.1]
    have hdd : ∀ d', d = some d' → d' < N := fun d' e => hd.ok d' (by rw [hd.1]; exact e)
    have hglt := hI.loc_lt hb hl hpl
    have hs : Stab S S' w w' := fun g' hg => ⟨h1 g' hg, hF.block g' (hI.lt g' hg) (fun e => hng (by rw [← hdd1 e]; exact hg))⟩
    have hother : ∀ b' k g' szz, σ.heap b' = some k → k.live = true → β b' = .loc g' szz → b' ≠ b → w'.heap[g']? = w.heap[g']? ∧ (S' g' ↔ S g') := fun b' k g' szz e hl' hb' hne' => by
      have hlt := hI.loc_lt e hl' hb'
      refine ⟨hF.block g' hlt (fun e2 => hne' (hI.inj b' b k B g szz sz e hl' hb hl (by rw [← hdd1 e2]; exact hb') hpl)), fun hS' => ?_, h1 g'⟩
      rcases h2 g' hS' with h3 | h3
      · exact h3
      · omega
    have h2' : Inv N w0 S0 Hd (σ.setB b { B with cells := cs'.map AV.p }) a w' β S' := by
      have hag : ∀ β', Agree (σ.setB b { B with cells := cs'.map AV.p }) β β' → Agree σ β β' := fun β' hb' c hc' => hb' c (by
        rcases hc' with h | h
        · exact .inl h
        · right
          simp only [ASt.setB, upd]
          split
          · rfl
          · exact h)
      refine ⟨hI.defers.keep fun D _ hS hD => ⟨fun h' => by
        rcases h2 D h' with h' | h'
        · exact hS h'
        · have := (Array.getElem?_eq_some_iff.1 hD).1; omega, hF.block D (Array.getElem?_eq_some_iff.1 hD).1 (fun e => by
        have e : D = g := hdd1 e
        subst e; rw [hh] at hD; cases hD)⟩, hI.size, fun β' hb' t => RelA.mono hs _ _ (hI.env β' (hag β' hb') t), ?_, ?_, ?_, fun g' hg => h1 g' (hI.keep g' hg), ?_, ?_⟩
      · intro β' hb' b' k e hl'
        simp only [ASt.setB, upd] at e
        split at e
        · rename_i hbb
          subst hbb
          cases e
          rw [hpl]
          exact ⟨⟨us', rest', by rw [hty]; exact hh', hsz', h1c', RelL.toA hR'⟩, ⟨fun hS' => absurd hS' hng', fun hp' => by simp only at hp'; rw [hp] at hp'; cases hp'⟩, hB⟩
        · rename_i hbb
          exact (hI.heap β' (hag β' hb') b' k e hl').mono hs (fun g' szz hgg => hother b' k g' szz e hl' hgg hbb)
      · intro b1 b2 k1 k2 g1 s1 s2 e1 l1 e2 l2 p1 p2
        have key : ∀ b' k', (σ.setB b { B with cells := cs'.map AV.p }).heap b' = some k' → k'.live = true → ∃ k'', σ.heap b' = some k'' ∧ k''.live = true := fun b' k' e l => by
          simp only [ASt.setB, upd] at e
          split at e
          · rename_i hbb; subst hbb; exact ⟨B, hb, hl⟩
          · exact ⟨k', e, l⟩
        obtain ⟨k1', e1', l1'⟩ := key b1 k1 e1 l1
        obtain ⟨k2', e2', l2'⟩ := key b2 k2 e2 l2
        exact hI.inj b1 b2 k1' k2' g1 s1 s2 e1' l1' e2' l2' p1 p2
      · refine ⟨?_, hI.cl.gl.mono hs⟩
        intro g' hg
        rcases h2 g' hg with h3 | h3
        · exact (hI.cl g' h3).same (hF.block g' (hI.lt g' h3) (fun e => hng (by rw [← hdd1 e]; exact h3)))
        · exact h3.2
      · intro g' hg
        rcases h2 g' hg with h3 | h3
        · exact hI.new g' h3
        · exact .inr (.inl (Nat.le_trans hI.frame.size h3.1))
      · refine ⟨hF.os.trans hI.frame.os, hF.tape.trans hI.frame.tape, hF.output.trans hI.frame.output, Nat.le_trans hI.frame.size hF.size, fun g' hg hn => ?_⟩
        rw [hF.block g' (Nat.lt_of_lt_of_le hg hI.frame.size) (fun e => by
          have e := hdd1 e
          subst e
          rcases hB.1 with hB | hB
          · omega
          · exact hn hB)]
        exact hI.frame.block g' hg hn
    exact hK _ _ ⟨β, S', h2'.putO hdd fun β' _ => hv⟩⟩

/-- How the arguments lie at the beginning of such a call. -/
def st0H (args : List AV) (ty : TypeId) (cs : List PV) (sz : Nat) : ASt := { env := fun t => match args[t]? with | some x => x | none => .p .any, heap := fun b => if b = 1000 then some { cells := cs.map AV.p, ty := ty, pin := some sz } else none, nx := 0 }

theorem fnH_of {f : FuncId} {fn : Func} (hf : P.funcs[f]? = some fn) {c : Code} (hb : fn.body = some c) {args : List AV} {ty : TypeId} {cs cs' : List PV} {r : PV} (hN : args.length ≤ fn.ntmps) (hin : AV.inDL (fun b => b = 1000) args) (hid : AV.renL (fun b => b) args = args)
    (hne : cs' ≠ []) (h : ∀ sz, Tr P fn.ntmps c (st0H args ty cs sz) (fun e σ => (e = .ret ∨ e = .normal) ∧ (∃ ps, r = packP ps ∧ ResL P fn.ntmps σ fn.results.toList ps) ∧ ∃ B, σ.heap 1000 = some B ∧ B.live = true ∧ B.pub = false ∧ B.ty = ty ∧ B.pin = some sz ∧ B.cells = cs'.map AV.p)) : FnH P f args ty cs r cs' := fun w S vals g sz us rest hS hng hh hsz h1 hRc hR => by
  have hl := hR.length
  have hglt : g < w.heap.size := (Array.getElem?_eq_some_iff.1 hh).1
  have h0 : Inv fn.ntmps w S (fun n g' s => g' = g ∧ s = n) (st0H args ty cs sz) { tmps := vals.toArray ++ Array.replicate (fn.ntmps - vals.toArray.size) undef, defers := [] } w (fun b => if b = 1000 then .loc g sz else .gone) S := by
    have hag : ∀ β', Agree (st0H args ty cs sz) (fun b => if b = 1000 then .loc g sz else .gone) β' → β' 1000 = .loc g sz := fun β' hb' => by
      rw [hb' 1000 (.inr (by simp [st0H]))]; simp
    refine ⟨Dfr.nil, ?_, fun β' hb' t => ?_, fun β' hb' b k e hl' => ?_, fun b b' k k' g1 s1 s2 e _ e' _ _ _ => ?_, hS, fun g h => h, fun g h => .inl h, ⟨rfl, rfl, rfl, Nat.le_refl _, fun _ _ _ => rfl⟩⟩
    · simp; omega
    · show RelA β' S w (match args[t]? with | some x => x | none => .p .any) _
      split
      · rename_i x hx
        obtain ⟨u, hu, hr⟩ := RelAL.get hR t x hx
        have hlt := (List.getElem?_eq_some_iff.1 hu).1
        have e : (vals.toArray ++ Array.replicate (fn.ntmps - vals.toArray.size) undef).getD t undef = u := by
          rw [Array.getD_eq_getD_getElem?, Array.getElem?_append_left (by simpa using hlt)]
          simp [hu]
        rw [e]
        have hxin : AV.inD (fun b => b = 1000) x := by
          have : ∀ (l : List AV) (t : Nat), AV.inDL (fun b => b = 1000) l → l[t]? = some x → AV.inD (fun b => b = 1000) x := by
            intro l
            induction l with
            | nil => intro t _ h; simp at h
            | cons y l ih =>
              intro t hd ht
              cases t with
              | zero => simp at ht; subst ht; exact hd.1
              | succ t => exact ih t hd.2 (by simpa using ht)
          exact this args t hin hx
        refine RelA.ren (D := fun b => b = 1000) (ρ := fun b => b) (β := fun _ => .loc g sz) (fun b hb2 => by subst hb2; exact hag β' hb') x u hxin ?_
        have hidx : x.ren (fun b => b) = x := by
          have : ∀ (l : List AV) (t : Nat), AV.renL (fun b => b) l = l → l[t]? = some x → x.ren (fun b => b) = x := by
            intro l
            induction l with
            | nil => intro t _ h; simp at h
            | cons y l ih =>
              intro t hd ht
              simp only [AV.renL, List.cons.injEq] at hd
              cases t with
              | zero => simp at ht; subst ht; exact hd.1
              | succ t => exact ih t hd.2 (by simpa using ht)
          exact this args t hid hx
        rw [hidx]; exact hr
      · trivial
    · simp only [st0H] at e
      split at e
      · rename_i hb2
        subst hb2
        cases e
        simp only [if_true]
        exact ⟨⟨us, rest, hh, hsz, h1, RelL.toA hRc⟩, ⟨fun hS' => absurd hS' hng, fun hp' => by cases hp'⟩, .inr ⟨sz, sz, rfl, rfl⟩, fun n h => by cases h; exact ⟨rfl, rfl⟩⟩
      · cases e
    · simp only [st0H] at e e'
      split at e
      · split at e'
        · omega
        · cases e'
      · cases e
  refine callsIn_wide (n := 0).1 (callsIn_of_wp_marks hf hb trivial (wpIn_wide.2 (wp_mono ((h sz).get w S (fun n g' s => g' = g ∧ s = n) _ w ⟨_, S, h0⟩) ?_)))
  rintro e a' w' ⟨σ', ⟨he, ⟨ps, rfl, hps⟩, B, hB1, hB2, hB3, hB4, hB6, hB5⟩, β, S', hI⟩
  obtain ⟨w'', hI, hleave⟩ := hI.leave (P := P)
  obtain ⟨us2, hus, hrs⟩ := ResL.run hI hps
  have hres : (results fn a'.tmps).run P w'' = .ok (packV us2) w'' := by
    rw [results_eq, Sem.run_bind, Array.mapM_eq_mapM_toList, Sem.run_map, hus]
    cases us2 with
    | nil => rfl
    | cons u us => cases us with
      | nil => rfl
      | cons u' us => simp; rfl
  have hk := hI.heap β (Agree.refl _ _) 1000 B hB1 hB2
  have hfin : ∃ v S'', (results fn a'.tmps).run P w'' = .ok v w'' ∧ (∃ (v' : Value), Ending.returned v = .returned v' ∧ RelP S'' w'' (packP ps) v' ∧ FrameW w (fun n g' s => g' = g ∧ s = n) w'' ∧ (∀ g', S g' → S'' g') ∧ (∀ g', S'' g' → S g' ∨ (w.heap.size ≤ g' ∧ CellsAt w'' g')) ∧ ¬ S'' g ∧
      ∃ us' rest' : List Value, w''.heap[g]? = some (.cells (us' ++ rest').toArray ty (0, 0)) ∧ (us' ++ rest').length = sz ∧ (∀ u ∈ us', u.oneCell' = true) ∧ RelL S'' w'' cs' us') := by
    cases hpl : β 1000 with
    | gone => rw [hpl] at hk; exact hk.elim
    | nil =>
      rw [hpl] at hk
      have hk : B.cells = [] := hk
      rw [hB5] at hk
      exact absurd (List.map_eq_nil_iff.1 hk) hne
    | loc g1 sz1 =>
      rw [hpl] at hk
      obtain ⟨⟨us', rest', k1, k2, k3, k4⟩, k5, k6⟩ := hk
      obtain ⟨hg, hs1⟩ := k6.2 sz hB6
      have hg : g1 = g := hg
      subst hg; subst hs1
      refine ⟨_, S', hres, _, rfl, ?_, hI.frame, hI.keep, fun g' hg' => ?_, fun hS' => (by rw [k5.1 hS'] at hB3; cases hB3), us', rest', by rw [← hB4]; exact k1, k2, k3, ?_⟩
      · cases ps with
        | nil => cases hrs; exact ⟨[], rfl, rfl⟩
        | cons p ps => cases ps with
          | nil =>
            obtain ⟨u, us', rfl, h1, h2⟩ := hrs
            cases h2
            exact h1
          | cons p' ps =>
            obtain ⟨u, us', rfl, h1, u', us'', rfl, h2, h3⟩ := hrs
            exact ⟨_, rfl, u, _, rfl, h1, u', us'', rfl, h2, h3⟩
      · rcases hI.new g' hg' with h1 | h1 | h1
        · exact .inl h1
        · exact .inr ⟨h1, hI.cl g' hg'⟩
        · have h1 : g' = g1 := hdd1 h1
          subst h1
          exact absurd (k5.1 hg') (by rw [hB3]; simp)
      · rw [hB5] at k4
        exact RelL.ofA k4
  obtain ⟨v, S'', hv, v', hvv, hrest⟩ := hfin
  rcases he with rfl | rfl
  · exact hleave fn _ ⟨v, hv, v', S'', hvv, hrest⟩
  · exact hleave fn _ ⟨v, hv, v', S'', hvv, hrest⟩
end
end Vou
end
