/- A part of the proof: spans, calls of function values; walks of integers and fractions. It holds without conditions. -/
import Derived.Test.YtljmndkpodcdnaaGreatDoorV8
import Derived.Test.YtljmndkpodcdnaaGreatDoorV6
import Derived.Test.YtljmndkpodcdnaaGreatDoorV10

section
set_option linter.unusedVariables false
set_option linter.unusedSimpArgs false
/- Spans, lists of numbers, and calls of function values. -/
namespace Vou
open Go Go.RowKit

/-! ### Plain facts -/
theorem d9_27 {n : Nat} (h : n < 1000000000000000000000000000) : (d9 n).length ≤ 3 := dl_le_of_lt (by omega) (show n < 1000000000 ^ 3 from h)
theorem qh_div (x y : Rat) (hy : y ≠ 0) : qh (x / y) ≤ qh x + qh y := by
  have hp : 0 < x.den * y.num.natAbs := Nat.mul_pos (Nat.pos_of_ne_zero x.den_nz) (by have := q_num0 y; have : y.num.natAbs ≠ 0 := fun h => hy (this.1 h); omega)
  rw [← q_div x y hy]
  have h1 := qh_mk (z := sg (decide (x.num < 0) != decide (y.num < 0)) (x.num.natAbs * y.den)) hp
  rw [sg_natAbs] at h1
  have h2 := d9_mul x.num.natAbs y.den
  have h3 := d9_mul x.den y.num.natAbs
  have a1 := qh_num x
  have a2 := qh_den x
  have b1 := qh_num y
  have b2 := qh_den y
  omega
theorem qh_qabs (x : Rat) : qh (qabs x) = qh x := by
  unfold qabs
  split
  · rw [qh_neg]
  · rfl
theorem qh_int (z : Int) : qh (z : Rat) = max (d9 z.natAbs).length 1 := by
  show max (d9 z.natAbs).length (d9 1).length = _
  rw [d9_one]; rfl

/-! ### Values -/
def qC (r : Rat) : List PV := [.v (.bool (decide (r.num < 0))), nP r.num.natAbs, nP (dn r.den)]
def spC (s : Rat × Rat) : List PV := [.v (.bool (decide (s.1.num < 0))), nP s.1.num.natAbs, nP (dn s.1.den), .v (.bool (decide (s.2.num < 0))), nP s.2.num.natAbs, nP (dn s.2.den)]
def spP (s : Rat × Rat) : PV := .agg (spC s)
def qL (l : List Rat) : PV := .sl false (l.map qC)
/-- The value of a function of the program. -/
def fnV (f : FuncId) : PV := .v (.func (.func f) #[] #[])

/-- A number widens a span. -/
def arS (s : Rat × Rat) (y : Rat) : Rat × Rat := (if cmpQ y s.1 < 0 then y else s.1, if 0 < cmpQ y s.2 then y else s.2)
def arF (x : Rat) (l : List Rat) : Rat × Rat := l.foldl arS (x, x)
theorem arF_take (x : Rat) (l : List Rat) {i : Nat} (h : i < l.length) : arF x (l.take (i + 1)) = arS (arF x (l.take i)) (l.getD i 0) := by
  have h2 : l.take (i + 1) = l.take i ++ [l.getD i 0] := by
    rw [List.take_succ_eq_append_getElem h, List.getD_eq_getElem?_getD, List.getElem?_eq_getElem h]; rfl
  rw [h2]
  simp [arF, List.foldl_append]
theorem qL_get (l : List Rat) {i : Nat} (h : i < l.length) : (l.map qC)[i]? = some (qC (l.getD i 0)) := by
  rw [List.getElem?_map, List.getElem?_eq_getElem h, List.getD_eq_getElem?_getD, List.getElem?_eq_getElem h]; rfl
/-- Bounds of the parts of a span. -/
def spB (s : Rat × Rat) (B : Nat) : Prop := qh s.1 < B ∧ qh s.2 < B
theorem arS_b {s : Rat × Rat} {y : Rat} {B : Nat} (h : spB s B) (hy : qh y < B) : spB (arS s y) B := by
  constructor
  · show qh (if _ then _ else _) < B
    split
    · exact hy
    · exact h.1
  · show qh (if _ then _ else _) < B
    split
    · exact hy
    · exact h.2
theorem foldl_b {B : Nat} : ∀ (l : List Rat) (s : Rat × Rat), spB s B → (∀ y ∈ l, qh y < B) → spB (l.foldl arS s) B
  | [], s, h, _ => h
  | y :: l, s, h, hl => foldl_b l (arS s y) (arS_b h (hl y (List.mem_cons_self))) (fun z hz => hl z (List.mem_cons_of_mem _ hz))
theorem arF_b {x : Rat} {l : List Rat} {B : Nat} (h : qh x < B) (hl : ∀ y ∈ l, qh y < B) : spB (arF x l) B := foldl_b l _ ⟨h, h⟩ hl
theorem getD_b {l : List Rat} {B : Nat} (hl : ∀ y ∈ l, qh y < B) {i : Nat} (h : i < l.length) : qh (l.getD i 0) < B := by
  rw [List.getD_eq_getElem?_getD, List.getElem?_eq_getElem h]; exact hl _ (List.getElem_mem h)

/-! ### What is handed -/
section
variable {σ : ASt}
theorem convL_ps {xs : List AV} {ps : List PV} (h : xs = ps.map AV.p) : ConvL σ xs ps := by
  subst h
  induction ps with
  | nil => trivial
  | cons p ps ih => exact ⟨conv_p p, ih⟩
theorem conv_ps {xs : List AV} {ps ps' : List PV} (h : xs = ps.map AV.p) (e : ps = ps') : Conv σ (.agg xs) (.agg ps') := by subst e; exact conv_agg (convL_ps h)
theorem conv_sp {xs : List AV} {s s' : Rat × Rat} (h : xs = (spC s).map AV.p) (e : s = s') : Conv σ (.agg xs) (spP s') := by subst e; exact conv_agg (convL_ps h)
theorem conv_pq {s s' : Rat × Rat} (e : s = s') : Conv σ (.p (spP s)) (spP s') := by subst e; exact conv_p _
theorem conv_fn {f : FuncId} : Conv σ (.fn f []) (fnV f) := fun _ _ _ _ _ _ _ _ _ u h => by
  obtain ⟨us, rfl, h⟩ := h
  have h : us = [] := h
  subst h
  rfl
theorem conv_qL {full : Bool} {b off n : Nat} {B : Blk} {l : List Rat} (hb : σ.heap b = some B) (hl : B.live = true) (hp : B.pub = true) (hn : l.length = n) (hc : (B.cells.drop off).take (n * 3) = (l.map qC).flatten.map AV.p) : Conv σ (.own full 3 b off n) (qL l) :=
  conv_own hb hl hp (by rw [List.length_map]; exact hn) (fun e he => by obtain ⟨r, _, rfl⟩ := List.mem_map.1 he; rfl) (by rw [hc]; exact convL_ps rfl)
theorem conv_qL0 : Conv σ (.p (.v (.slice none 0 0))) (qL []) := conv_nil false
/-- A pointer to a block that does not change any more. -/
theorem conv_ptr {b off : Nat} {B : Blk} (hb : σ.heap b = some B) (hl : B.live = true) (hp : B.pub = true) {ps : List PV} (hc : B.cells.drop off = ps.map AV.p) : Conv σ (.ptr b off) (.cp ps) := fun N w0 S0 Hd a w β S hI u hu => by
  have hk0 := hI.heap β (Agree.refl _ _) b B hb hl
  simp only [RelA] at hu
  cases hpl : β b with
  | gone => rw [hpl] at hk0; exact hk0.elim
  | nil => rw [hpl] at hu; exact hu.elim
  | loc g sz =>
    rw [hpl] at hu hk0
    subst hu
    obtain ⟨⟨us, rest, hh, hsz, h1, hR⟩, hS, _⟩ := hk0
    refine ⟨g, off, rfl, hS.2 hp, ?_⟩
    have hL := hR.drop off
    rw [hc] at hL
    have hL := RelL.of_RelAL hL
    have cell : ∀ j v, (us.drop off)[j]? = some v → w.cell? ⟨g, off + j, none⟩ = some v ∧ v.oneCell' = true := fun j v hv => by
      rw [List.getElem?_drop] at hv
      have hlt := (List.getElem?_eq_some_iff.1 hv).1
      refine ⟨?_, h1 v (List.mem_of_getElem? hv)⟩
      rw [cell_of_list hh, List.getElem?_append_left hlt]; exact hv
    have keyC : ∀ (e : List PV) (vs : List Value) (off : Nat), RelL S w e vs → (∀ j v, vs[j]? = some v → w.cell? ⟨g, off + j, none⟩ = some v ∧ v.oneCell' = true) → RelC S w e g off := by
      intro e
      induction e with
      | nil => intro vs off _ _; trivial
      | cons x e ih =>
        rintro vs off ⟨u, us', rfl, hx, hr⟩ hcell
        have h0 := hcell 0 u rfl
        exact ⟨⟨u, h0.1, h0.2, hx⟩, ih us' (off + 1) hr fun j v hv => by
          have := hcell (j + 1) v (by simpa using hv)
          rwa [show off + (j + 1) = off + 1 + j by omega] at this⟩
    exact keyC ps _ off hL cell
end

/-! ### Operations -/
section
variable {P : Program} {N : Nat} {o : Oper} {σ : ASt}
/-- A call of a function that captures something. -/
theorem o_callC (d : Option Nat) (hd : DS N o d) {f : FuncId} (hT : Txt P f) {x : Operand} {args : List Operand} {ts : Array TypeId} (ho : o.op = .call { callee := .value x, args := args.toArray, argTypes := ts }) {caps : List AV} (hx : σ.look x = .fn f caps) {pvs : List PV} {r : PV}
    (hf : FnP P f pvs r) (hc : ConvL σ (args.map σ.look ++ caps) pvs) : Ok P N o σ (σ.put d (.p r)) := ⟨fun w0 S0 Hd a w ⟨β, S, hI⟩ K Q hK => by
  have e1 := hI.look x β (Agree.refl _ _)
  rw [hx] at e1
  obtain ⟨us, he, hcp⟩ := e1
  unfold Oper.wp
  rw [run_call hT ho he w]
  have hR := ConvL.rel hI hc ((RelAL.map_look hI (Agree.refl _ _) args).append hcp)
  refine (hf w S _ hI.cl hR).mono fun e w' => ?_
  rintro ⟨v, S', rfl, hv, hB, h1, h2⟩
  rw [← hd.1] at hK
  exact hK _ _ ⟨β, S', (hI.grow hB h1 h2).putO hd.ok fun β' _ => hv⟩⟩
/-- A call of a function value. -/
theorem o_callV (d : Option Nat) (hd : DS N o d) {f : FuncId} (hT : Txt P f) {x : Operand} {args : List Operand} {ts : Array TypeId} (ho : o.op = .call { callee := .value x, args := args.toArray, argTypes := ts }) (hx : σ.look x = .p (fnV f)) {pvs : List PV} {r : PV}
    (hf : FnP P f pvs r) (hc : ConvL σ (args.map σ.look) pvs) : Ok P N o σ (σ.put d (.p r)) := ⟨fun w0 S0 Hd a w ⟨β, S, hI⟩ K Q hK => by
  have he := hI.look x β (Agree.refl _ _)
  rw [hx] at he
  have he : a.eval x = .func (.func f) #[] ([] : List Value).toArray := he
  unfold Oper.wp
  rw [run_call hT ho he w, List.append_nil]
  have hR := ConvL.rel hI hc (RelAL.map_look hI (Agree.refl _ _) args)
  refine (hf w S _ hI.cl hR).mono fun e w' => ?_
  rintro ⟨v, S', rfl, hv, hB, h1, h2⟩
  rw [← hd.1] at hK
  exact hK _ _ ⟨β, S', (hI.grow hB h1 h2).putO hd.ok fun β' _ => hv⟩⟩
theorem o_mkf (d : Option Nat) (hd : DS N o d) {f : FuncId} {caps : List Operand} (ho : o.op = .makeFunc (.func f) #[] caps.toArray) {xs : List AV} (hx : caps.map σ.look = xs) : Ok P N o σ (σ.put d (.fn f xs)) := by
  subst hx
  exact o_yl d hd (yl_makeFunc ho)
/-- A new list that will not change. -/
theorem o_bsP (d : Option Nat) (hd : DS N o d) {t : TypeId} {len : Nat} {parts : List (Nat × Operand)} (ho : o.op = .buildSlice t len parts.toArray) (b : Nat) (hfresh : σ.heap b = none) (hnx : Nat.ble σ.nx b = true)
    {e : TypeId} {r : Nat × Nat × Option Value} (ht : tyOf P t = some (.slice e, r)) {D : TypeDesc} {sz by_ : Nat} {z : Value} (hte : tyOf P e = some (D, sz, by_, some z)) (hz : z.cells.size = sz) (hz0 : Nat.blt 0 sz = true) (h1 : z.cells.toList.all Value.oneCell' = true)
    (hlen : Nat.ble (len * sz) 16777216 = true) {xs : List AV} (hx : (parts.map (·.2)).map σ.look = xs) {ys : List AV} (hf : aFill (fun i => some (i * sz, sz)) (List.replicate len (z.cells.toList.map fun c => AV.p (.v c))).flatten ((parts.map (·.1)).zip xs) = some ys) :
    Ok P N o σ ((σ.setB b { cells := ys, ty := e, pub := true }).put d (.own true sz b 0 len)) := by
  have h := o_bs (P := P) (N := N) (σ := σ) d hd ho b hfresh hnx ht hte hz hz0 h1 hlen hx hf
  have e1 : (σ.setB b { cells := ys, ty := e, pub := true }).put d (.own true sz b 0 len) = ((σ.setB b { cells := ys, ty := e }).put d (.own true sz b 0 len)).setB b { cells := ys, ty := e, pub := true } := by
    have hu : ∀ (k1 k2 : Option Blk), upd (upd σ.heap b k1) b k2 = upd σ.heap b k2 := fun k1 k2 => by funext c; by_cases h : c = b <;> simp [upd, h]
    cases d with
    | none => simp [ASt.setB, ASt.put, hu]
    | some d => simp [ASt.setB, ASt.put, hu]
  have hhb : ((σ.setB b { cells := ys, ty := e }).put d (.own true sz b 0 len)).heap b = some { cells := ys, ty := e } := by cases d <;> simp [ASt.setB, ASt.put, upd]
  have hG := gh_publish (N := N) hhb rfl
  exact ⟨fun w0 S0 Hd a w hR K Q hK => h.get w0 S0 Hd a w hR K Q fun a' w' hR' => hK a' w' (by rw [e1]; exact hG w0 S0 Hd a' w' hR')⟩
/-- A field of a struct, a struct itself. -/
theorem o_fv (d : Option Nat) (hd : DS N o d) {t : TypeId} {x : Operand} {f : Nat} (ho : o.op = .field t x f) {xs : List PV} (hx : σ.look x = .p (.agg xs))
    {fields : Array Field} {r : Nat × Nat × Option Value} (ht : tyOf P t = some (.struct fields, r)) {fd : Field} (hf : fields[f]? = some fd) {D' : TypeDesc} {sz' : Nat} {r' : Nat × Option Value} (ht' : tyOf P fd.type = some (D', sz', r')) (hD : isAggD D' = true) {ys : List PV} (hy : (xs.drop fd.offset).take sz' = ys) :
    Ok P N o σ (σ.put d (.p (.agg ys))) := by
  subst hy
  refine o_yl d hd fun w0 S0 Hd a w β S h => ?_
  obtain ⟨hu, _⟩ := tyOf_spec ht
  obtain ⟨hu', i, hi, hs, _⟩ := tyOf_spec ht'
  have h1 := h.look x β (Agree.refl _ _)
  rw [hx] at h1
  obtain ⟨us, he, hR⟩ := h1
  have dropL : ∀ (n : Nat) (xs : List PV) (us : List Value), RelL S w xs us → RelL S w (xs.drop n) (us.drop n) := by
    intro n
    induction n with
    | zero => intro xs us h; simpa using h
    | succ n ih =>
      intro xs us h
      cases xs with
      | nil => cases h; simp [RelL]
      | cons x xs => obtain ⟨u, us', rfl, _, h2⟩ := h; simpa using ih xs us' h2
  have takeL : ∀ (n : Nat) (xs : List PV) (us : List Value), RelL S w xs us → RelL S w (xs.take n) (us.take n) := by
    intro n
    induction n with
    | zero => intro xs us h; simp [RelL]
    | succ n ih =>
      intro xs us h
      cases xs with
      | nil => cases h; simp [RelL]
      | cons x xs => obtain ⟨u, us', rfl, h1, h2⟩ := h; exact ⟨u, us'.take n, by simp, h1, ih xs us' h2⟩
  have hex : us.toArray.extract fd.offset (fd.offset + sz') = ((us.drop fd.offset).take sz').toArray := by
    simp
  refine ⟨.agg ((us.drop fd.offset).take sz').toArray, ?_, fun β' hb' => ⟨_, rfl, takeL _ _ _ (dropL _ _ _ hR)⟩⟩
  unfold execOp
  simp only [ho, he, Instr.field, Sem.run_bind, run_underlying hu, Result.andThen_ok, hf, asAgg, Sem.run_pure, part, isAgg_run hu', hD, if_true, Go.sizeOf, typeInfo]
  simp [hi, hs]
end
end Vou
end

section
set_option linter.unusedVariables false
set_option linter.unusedSimpArgs false
/- The types and functions of the program that the walks name. -/
namespace Vou
open Go Go.RowKit Go.Proofs.Tryz
theorem ty2 : tyOf prog 2 = some (TypeDesc.int IntKind.i64, 1, 8, some (Value.int IntKind.i64 0)) := by kernel_rfl
theorem ty54 : tyOf prog 54 = some (TypeDesc.struct (Array.mk [Field.mk "Low" 26 0 false "" "" 0, Field.mk "High" 26 3 false "" "" 56]), 6, 112, some (Value.agg (Array.mk [Value.bool false, Value.slice none 0 0, Value.slice none 0 0, Value.bool false, Value.slice none 0 0, Value.slice none 0 0]))) := by kernel_rfl
theorem ty67 : tyOf prog 67 = some (TypeDesc.slice 9, 1, 24, some (Value.slice none 0 0)) := by kernel_rfl
theorem ty69 : tyOf prog 69 = some (TypeDesc.slice 26, 1, 24, some (Value.slice none 0 0)) := by kernel_rfl
theorem fn4 : prog.funcs[4]? = some f4 := by kernel_rfl
theorem fn14 : prog.funcs[14]? = some f14 := by kernel_rfl
theorem fn19 : prog.funcs[19]? = some f19 := by kernel_rfl
theorem fn20 : prog.funcs[20]? = some f20 := by kernel_rfl
theorem fn21 : prog.funcs[21]? = some f21 := by kernel_rfl
theorem fn27 : prog.funcs[27]? = some f27 := by kernel_rfl
theorem fn31 : prog.funcs[31]? = some f31 := by kernel_rfl
theorem fn32 : prog.funcs[32]? = some f32 := by kernel_rfl
theorem fn41 : prog.funcs[41]? = some f41 := by kernel_rfl
theorem fn43 : prog.funcs[43]? = some f43 := by kernel_rfl
theorem fn45 : prog.funcs[45]? = some f45 := by kernel_rfl
theorem fn48 : prog.funcs[48]? = some f48 := by kernel_rfl
theorem fn62 : prog.funcs[62]? = some f62 := by kernel_rfl
theorem fn64 : prog.funcs[64]? = some f64 := by kernel_rfl
theorem fn65 : prog.funcs[65]? = some f65 := by kernel_rfl
theorem fn66 : prog.funcs[66]? = some f66 := by kernel_rfl
theorem fn67 : prog.funcs[67]? = some f67 := by kernel_rfl
theorem fn68 : prog.funcs[68]? = some f68 := by kernel_rfl
theorem fn96 : prog.funcs[96]? = some f96 := by kernel_rfl
theorem fn100 : prog.funcs[100]? = some f100 := by kernel_rfl
theorem fn101 : prog.funcs[101]? = some f101 := by kernel_rfl
theorem fn102 : prog.funcs[102]? = some f102 := by kernel_rfl
theorem fn111 : prog.funcs[111]? = some f111 := by kernel_rfl
theorem tx14 : Txt prog 14 := ⟨f14, by kernel_rfl, by decide, rfl⟩
theorem tx15 : Txt prog 15 := ⟨f15, by kernel_rfl, by decide, rfl⟩
theorem tx18 : Txt prog 18 := ⟨f18, by kernel_rfl, by decide, rfl⟩
theorem tx19 : Txt prog 19 := ⟨f19, by kernel_rfl, by decide, rfl⟩
theorem tx20 : Txt prog 20 := ⟨f20, by kernel_rfl, by decide, rfl⟩
theorem tx21 : Txt prog 21 := ⟨f21, by kernel_rfl, by decide, rfl⟩
theorem tx23 : Txt prog 23 := ⟨f23, by kernel_rfl, by decide, rfl⟩
theorem tx24 : Txt prog 24 := ⟨f24, by kernel_rfl, by decide, rfl⟩
theorem tx27 : Txt prog 27 := ⟨f27, by kernel_rfl, by decide, rfl⟩
theorem tx28 : Txt prog 28 := ⟨f28, by kernel_rfl, by decide, rfl⟩
theorem tx29 : Txt prog 29 := ⟨f29, by kernel_rfl, by decide, rfl⟩
theorem tx30 : Txt prog 30 := ⟨f30, by kernel_rfl, by decide, rfl⟩
theorem tx31 : Txt prog 31 := ⟨f31, by kernel_rfl, by decide, rfl⟩
theorem tx41 : Txt prog 41 := ⟨f41, by kernel_rfl, by decide, rfl⟩
theorem tx43 : Txt prog 43 := ⟨f43, by kernel_rfl, by decide, rfl⟩
theorem tx45 : Txt prog 45 := ⟨f45, by kernel_rfl, by decide, rfl⟩
theorem tx48 : Txt prog 48 := ⟨f48, by kernel_rfl, by decide, rfl⟩
theorem tx58 : Txt prog 58 := ⟨f58, by kernel_rfl, by decide, rfl⟩
theorem tx62 : Txt prog 62 := ⟨f62, by kernel_rfl, by decide, rfl⟩
theorem tx66 : Txt prog 66 := ⟨f66, by kernel_rfl, by decide, rfl⟩
theorem tx67 : Txt prog 67 := ⟨f67, by kernel_rfl, by decide, rfl⟩
theorem tx68 : Txt prog 68 := ⟨f68, by kernel_rfl, by decide, rfl⟩
theorem tx96 : Txt prog 96 := ⟨f96, by kernel_rfl, by decide, rfl⟩
theorem tx100 : Txt prog 100 := ⟨f100, by kernel_rfl, by decide, rfl⟩
theorem tx101 : Txt prog 101 := ⟨f101, by kernel_rfl, by decide, rfl⟩
theorem tx102 : Txt prog 102 := ⟨f102, by kernel_rfl, by decide, rfl⟩
theorem tx111 : Txt prog 111 := ⟨f111, by kernel_rfl, by decide, rfl⟩
theorem fe54_0 : (Array.mk [Field.mk "Low" 26 0 false "" "" 0, Field.mk "High" 26 3 false "" "" 56] : Array Field)[0]? = some (Field.mk "Low" 26 0 false "" "" 0) := rfl
theorem fe54_1 : (Array.mk [Field.mk "Low" 26 0 false "" "" 0, Field.mk "High" 26 3 false "" "" 56] : Array Field)[1]? = some (Field.mk "High" 26 3 false "" "" 56) := rfl
theorem pl54 : ((Array.mk [Field.mk "Low" 26 0 false "" "" 0, Field.mk "High" 26 3 false "" "" 56] : Array Field).mapM (m := Option) fun f => (prog.info? f.type).map fun i => (f.offset, i.size)) = some [(0, 3), (3, 3)].toArray := by kernel_rfl
end Vou
end

section
set_option linter.unusedVariables false
set_option linter.unusedSimpArgs false
/- Spans: what the package's functions on spans compute. -/
namespace Vou
open Go Go.RowKit
def hasF (s : Rat × Rat) (x : Rat) : Bool := decide (cmpQ (arF s.1 [s.2]).1 x ≤ 0) && decide (cmpQ x (arF s.1 [s.2]).2 ≤ 0)
def alF (F : Rat → Rat → Rat) (s t : Rat × Rat) : Rat × Rat := arF (F s.1 t.1) [F s.1 t.2, F s.2 t.1, F s.2 t.2]
def hullF (s t : Rat × Rat) : Rat × Rat := arF s.1 [s.2, t.1, t.2]
def absF (s : Rat × Rat) : Rat × Rat := if hasF s 0 then arF 0 [qabs s.1, qabs s.2] else arF (qabs s.1) [qabs s.2]
def sqF (s : Rat × Rat) : Rat × Rat := ((absF s).1 * (absF s).1, (absF s).2 * (absF s).2)
def valF (a b c x : Rat) : Rat := (a * x + b) * x + c
def quadF (a b c : Rat) (s : Rat × Rat) : Rat × Rat :=
  if a + a ≠ 0 ∧ hasF s (-b / (a + a)) = true then hullF (arF (valF a b c s.1) [valF a b c s.2]) (arF (valF a b c (-b / (a + a))) []) else arF (valF a b c s.1) [valF a b c s.2]
theorem qh_zero : qh 0 = 1 := by
  show max (d9 0).length (d9 1).length = 1
  rw [d9_one, d9_zero]; rfl
theorem qh_pos (x : Rat) : 1 ≤ qh x := by
  have h : (d9 x.den).length ≠ 0 := fun e => x.den_nz ((d9_nil x.den).1 e)
  have := qh_den x
  omega
theorem qh_div' (x y : Rat) : qh (x / y) ≤ qh x + qh y := by
  by_cases h : y = 0
  · subst h; rw [div_zero', qh_zero]; have := qh_pos x; omega
  · exact qh_div x y h
theorem qh_val (a b c x : Rat) : qh (valF a b c x) ≤ qh a + qh b + qh c + 2 * qh x + 3 := by
  unfold valF
  have h1 := qh_add ((a * x + b) * x) c
  have h2 := qh_mul (a * x + b) x
  have h3 := qh_add (a * x) b
  have h4 := qh_mul a x
  omega
theorem absF_b {s : Rat × Rat} {B : Nat} (h : spB s B) (hB : 1 < B) : spB (absF s) B := by
  have h1 := qh_qabs s.1
  have h2 := qh_qabs s.2
  have h3 := h.1
  have h4 := h.2
  unfold absF
  split
  · refine arF_b (by rw [qh_zero]; exact hB) fun y hy => ?_
    simp only [List.mem_cons, List.not_mem_nil, or_false] at hy
    rcases hy with rfl | rfl <;> omega
  · refine arF_b (by omega) fun y hy => ?_
    simp only [List.mem_cons, List.not_mem_nil, or_false] at hy
    subst hy; omega
theorem mem1 {P : Rat → Prop} {a : Rat} (ha : P a) : ∀ y ∈ [a], P y := by
  intro y hy
  simp only [List.mem_cons, List.not_mem_nil, or_false] at hy
  subst hy; exact ha
theorem mem2 {P : Rat → Prop} {a b : Rat} (ha : P a) (hb : P b) : ∀ y ∈ [a, b], P y := by
  intro y hy
  simp only [List.mem_cons, List.not_mem_nil, or_false] at hy
  rcases hy with rfl | rfl <;> assumption
theorem mem3 {P : Rat → Prop} {a b c : Rat} (ha : P a) (hb : P b) (hc : P c) : ∀ y ∈ [a, b, c], P y := by
  intro y hy
  simp only [List.mem_cons, List.not_mem_nil, or_false] at hy
  rcases hy with rfl | rfl | rfl <;> assumption
theorem mem0 {P : Rat → Prop} : ∀ y ∈ ([] : List Rat), P y := by
  intro y hy
  cases hy
end Vou
end

section
set_option linter.unusedVariables false
set_option linter.unusedSimpArgs false
namespace Vou
open Go Go.RowKit Go.Proofs.Tryz
theorem w_mag (z : Int) (z1 : -9223372036854775808 ≤ z) (z2 : z < 9223372036854775808) : FnP prog 96 [.v (.int .i64 z)] (packP [nP z.natAbs]) := by
  refine fnP_of (fn := f96) fn96 rfl (Nat.le_of_ble_eq_true rfl) ?_
  refine r_seq ?_
  refine r_reg ?_
  refine r_op rfl (o_as (some 2) ⟨rfl, rfl⟩ rfl (by exact (rfl : _ = AV.p _))) ?_
  refine r_end ?_
  refine s_n ?_
  refine r_seq ?_
  refine r_seq ?_
  refine r_reg ?_
  refine r_op rfl (o_mv (some 3) ⟨rfl, rfl⟩ rfl (by first | exact (rfl : _ = I _ _) | exact (rfl : _ = AV.p _) | exact (rfl : _ = AV.ptr _ _) | exact (rfl : _ = AV.own _ _ _ _ _) | exact (rfl : _ = AV.agg _) | exact (rfl : _ = AV.fn _ _))) ?_
  refine r_op rfl (o_zlss (some 4) ⟨rfl, rfl⟩ (by exact (rfl : _ = Z _ _)) (by exact (rfl : _ = Z _ (0))) rfl) ?_
  refine r_end ?_
  refine s_n ?_
  refine r_cond rfl (fun hc => ?_) (fun hc => ?_)
  · try simp only [decide_eq_true_eq, decide_eq_false_iff_not, Nat.not_lt, Nat.not_le, Bool.and_eq_true, Bool.or_eq_true, Bool.and_eq_false_iff, Bool.or_eq_false_iff, Bool.not_eq_true', Bool.not_eq_false', beq_iff_eq, beq_eq_false_iff_ne, ne_eq, Decidable.not_not] at hc
    refine r_seq ?_
    refine r_reg ?_
    refine r_op rfl (o_mv (some 5) ⟨rfl, rfl⟩ rfl (by first | exact (rfl : _ = I _ _) | exact (rfl : _ = AV.p _) | exact (rfl : _ = AV.ptr _ _) | exact (rfl : _ = AV.own _ _ _ _ _) | exact (rfl : _ = AV.agg _) | exact (rfl : _ = AV.fn _ _))) ?_
    refine r_op rfl (o_zconv (r := z + 18446744073709551616) (some 6) ⟨rfl, rfl⟩ rfl (by exact (rfl : _ = Z _ _)) ty2 ty137 (wrap_mag z1 hc)) ?_
    refine r_op rfl (o_znegk (r := ((z.natAbs : Nat) : Int)) (some 7) ⟨rfl, rfl⟩ rfl (by exact (rfl : _ = Z _ _)) (wrap_mag2 z1 hc)) ?_
    refine r_op rfl (o_call (some 8) ⟨rfl, rfl⟩ tx122 rfl rfl (w_natOf z.natAbs (by omega)) (convL_cons (conv_p _) convL_nil)) ?_
    refine r_op rfl (o_as (some 2) ⟨rfl, rfl⟩ rfl (by exact (rfl : _ = AV.p _))) ?_
    refine r_end ?_
    refine s_n ?_
    refine r_ret ?_
    refine s_ret ?_
    refine ⟨.inl rfl, [nP z.natAbs], rfl, ?_⟩
    exact resL_cons (res_tmp (by first | exact conv_p _ | exact conv_nilP _ | exact conv_nil _ | exact conv_sl rfl | exact conv_nums rfl rfl rfl rfl (by rfl) (by rfl))) (resL_nil)
  · try simp only [decide_eq_true_eq, decide_eq_false_iff_not, Nat.not_lt, Nat.not_le, Bool.and_eq_true, Bool.or_eq_true, Bool.and_eq_false_iff, Bool.or_eq_false_iff, Bool.not_eq_true', Bool.not_eq_false', beq_iff_eq, beq_eq_false_iff_ne, ne_eq, Decidable.not_not] at hc
    refine r_skip ?_
    refine s_n ?_
    refine r_seq ?_
    refine r_reg ?_
    refine r_op rfl (o_mv (some 9) ⟨rfl, rfl⟩ rfl (by first | exact (rfl : _ = I _ _) | exact (rfl : _ = AV.p _) | exact (rfl : _ = AV.ptr _ _) | exact (rfl : _ = AV.own _ _ _ _ _) | exact (rfl : _ = AV.agg _) | exact (rfl : _ = AV.fn _ _))) ?_
    refine r_op rfl (o_zconv (r := ((z.natAbs : Nat) : Int)) (some 10) ⟨rfl, rfl⟩ rfl (by exact (rfl : _ = Z _ _)) ty2 ty137 (wrap_mag3 hc z2)) ?_
    refine r_op rfl (o_call (some 11) ⟨rfl, rfl⟩ tx122 rfl rfl (w_natOf z.natAbs (by omega)) (convL_cons (conv_p _) convL_nil)) ?_
    refine r_op rfl (o_as (some 2) ⟨rfl, rfl⟩ rfl (by exact (rfl : _ = AV.p _))) ?_
    refine r_end ?_
    refine s_n ?_
    refine r_ret ?_
    refine ⟨.inl rfl, [nP z.natAbs], rfl, ?_⟩
    exact resL_cons (res_tmp (by first | exact conv_p _ | exact conv_nilP _ | exact conv_nil _ | exact conv_sl rfl | exact conv_nums rfl rfl rfl rfl (by rfl) (by rfl))) (resL_nil)

theorem w_int (z : Int) (z1 : -9223372036854775808 ≤ z) (z2 : z < 9223372036854775808) : FnP prog 27 [.v (.int .i64 z)] (packP [qP ((z : Int) : Rat)]) := by
  refine fnP_of (fn := f27) fn27 rfl (Nat.le_of_ble_eq_true rfl) ?_
  refine r_seq ?_
  refine r_reg ?_
  refine r_op rfl (o_alloc (some 2) ⟨rfl, rfl⟩ rfl 2 rfl rfl ty26 rfl rfl) ?_
  refine r_end ?_
  refine s_n ?_
  refine r_seq ?_
  refine r_reg ?_
  refine r_op rfl (o_mv (some 3) ⟨rfl, rfl⟩ rfl (by first | exact (rfl : _ = I _ _) | exact (rfl : _ = AV.p _) | exact (rfl : _ = AV.ptr _ _) | exact (rfl : _ = AV.own _ _ _ _ _) | exact (rfl : _ = AV.agg _) | exact (rfl : _ = AV.fn _ _))) ?_
  refine r_op rfl (o_zlss (some 4) ⟨rfl, rfl⟩ (by exact (rfl : _ = Z _ _)) (by exact (rfl : _ = Z _ (0))) rfl) ?_
  refine r_op rfl (o_mv (some 5) ⟨rfl, rfl⟩ rfl (by first | exact (rfl : _ = I _ _) | exact (rfl : _ = AV.p _) | exact (rfl : _ = AV.ptr _ _) | exact (rfl : _ = AV.own _ _ _ _ _) | exact (rfl : _ = AV.agg _) | exact (rfl : _ = AV.fn _ _))) ?_
  refine r_op rfl (o_call (some 6) ⟨rfl, rfl⟩ tx96 rfl rfl (w_mag z z1 z2) (convL_cons (conv_p _) convL_nil)) ?_
  refine r_op rfl (o_bld (some 7) ⟨rfl, rfl⟩ rfl ty26 pl26 rfl rfl) ?_
  refine r_op rfl (o_stA rfl rfl rfl rfl rfl rfl ty26 rfl rfl rfl rfl rfl) ?_
  refine r_end ?_
  refine s_n ?_
  refine r_ret ?_
  refine ⟨.inl rfl, [qP ((z : Int) : Rat)], rfl, ?_⟩
  exact resL_cons (res_cell rfl rfl rfl ty26 rfl (Nat.le_of_ble_eq_true rfl) (conv_q rfl (conv_pe rfl rfl) (conv_dn1 rfl))) (resL_nil)

theorem w_of (a b : Int) (a1 : -9223372036854775808 ≤ a) (a2 : a < 9223372036854775808) (b1 : -9223372036854775808 ≤ b) (b2 : b < 9223372036854775808) : FnP prog 48 [.v (.int .i64 a), .v (.int .i64 b)] (packP [qP ((a : Rat) / (b : Rat)), .v (.int .i64 (if b = 0 then 10 else 0))]) := by
  have ha := d9_27 (n := a.natAbs) (by omega)
  have hb := d9_27 (n := b.natAbs) (by omega)
  refine fnP_of (fn := f48) fn48 rfl (Nat.le_of_ble_eq_true rfl) ?_
  refine r_seq ?_
  refine r_reg ?_
  refine r_op rfl (o_alloc (some 4) ⟨rfl, rfl⟩ rfl 4 rfl rfl ty26 rfl rfl) ?_
  refine r_op rfl (o_as (some 5) ⟨rfl, rfl⟩ rfl (by exact (rfl : _ = I _ 0))) ?_
  refine r_end ?_
  refine s_n ?_
  refine r_seq ?_
  refine r_seq ?_
  refine r_reg ?_
  refine r_op rfl (o_mv (some 6) ⟨rfl, rfl⟩ rfl (by first | exact (rfl : _ = I _ _) | exact (rfl : _ = AV.p _) | exact (rfl : _ = AV.ptr _ _) | exact (rfl : _ = AV.own _ _ _ _ _) | exact (rfl : _ = AV.agg _) | exact (rfl : _ = AV.fn _ _))) ?_
  refine r_op rfl (o_zeql (some 7) ⟨rfl, rfl⟩ (by exact (rfl : _ = Z _ _)) (by exact (rfl : _ = Z _ (0))) rfl) ?_
  refine r_end ?_
  refine s_n ?_
  refine r_cond rfl (fun hc => ?_) (fun hc => ?_)
  · try simp only [decide_eq_true_eq, decide_eq_false_iff_not, Nat.not_lt, Nat.not_le, Bool.and_eq_true, Bool.or_eq_true, Bool.and_eq_false_iff, Bool.or_eq_false_iff, Bool.not_eq_true', Bool.not_eq_false', beq_iff_eq, beq_eq_false_iff_ne, ne_eq, Decidable.not_not] at hc
    refine r_seq ?_
    refine r_reg ?_
    refine r_op rfl (o_bld (some 8) ⟨rfl, rfl⟩ rfl ty26 pl26 rfl rfl) ?_
    refine r_op rfl (o_stA rfl rfl rfl rfl rfl rfl ty26 rfl rfl rfl rfl rfl) ?_
    refine r_op rfl (o_as (some 5) ⟨rfl, rfl⟩ rfl (by exact (rfl : _ = I _ 10))) ?_
    refine r_end ?_
    refine s_n ?_
    refine r_ret ?_
    refine s_ret ?_
    refine ⟨.inl rfl, [qP ((a : Rat) / (b : Rat)), .v (.int .i64 (if b = 0 then 10 else 0))], rfl, ?_⟩
    exact resL_cons (res_cell rfl rfl rfl ty26 rfl (Nat.le_of_ble_eq_true rfl) (conv_qz (by rw [hc]; exact div_zero' _))) (resL_cons (res_tmp (conv_pe rfl (by rw [if_pos hc]; rfl))) (resL_nil))
  · try simp only [decide_eq_true_eq, decide_eq_false_iff_not, Nat.not_lt, Nat.not_le, Bool.and_eq_true, Bool.or_eq_true, Bool.and_eq_false_iff, Bool.or_eq_false_iff, Bool.not_eq_true', Bool.not_eq_false', beq_iff_eq, beq_eq_false_iff_ne, ne_eq, Decidable.not_not] at hc
    refine r_skip ?_
    refine s_n ?_
    refine r_seq ?_
    refine r_reg ?_
    refine r_op rfl (o_mv (some 9) ⟨rfl, rfl⟩ rfl (by first | exact (rfl : _ = I _ _) | exact (rfl : _ = AV.p _) | exact (rfl : _ = AV.ptr _ _) | exact (rfl : _ = AV.own _ _ _ _ _) | exact (rfl : _ = AV.agg _) | exact (rfl : _ = AV.fn _ _))) ?_
    refine r_op rfl (o_zlss (some 10) ⟨rfl, rfl⟩ (by exact (rfl : _ = Z _ _)) (by exact (rfl : _ = Z _ (0))) rfl) ?_
    refine r_op rfl (o_mv (some 11) ⟨rfl, rfl⟩ rfl (by first | exact (rfl : _ = I _ _) | exact (rfl : _ = AV.p _) | exact (rfl : _ = AV.ptr _ _) | exact (rfl : _ = AV.own _ _ _ _ _) | exact (rfl : _ = AV.agg _) | exact (rfl : _ = AV.fn _ _))) ?_
    refine r_op rfl (o_zlss (some 12) ⟨rfl, rfl⟩ (by exact (rfl : _ = Z _ _)) (by exact (rfl : _ = Z _ (0))) rfl) ?_
    refine r_op rfl (o_bneq (some 13) ⟨rfl, rfl⟩ rfl rfl ty4 rfl) ?_
    refine r_op rfl (o_mv (some 14) ⟨rfl, rfl⟩ rfl (by first | exact (rfl : _ = I _ _) | exact (rfl : _ = AV.p _) | exact (rfl : _ = AV.ptr _ _) | exact (rfl : _ = AV.own _ _ _ _ _) | exact (rfl : _ = AV.agg _) | exact (rfl : _ = AV.fn _ _))) ?_
    refine r_op rfl (o_call (some 15) ⟨rfl, rfl⟩ tx96 rfl rfl (w_mag a a1 a2) (convL_cons (conv_p _) convL_nil)) ?_
    refine r_op rfl (o_mv (some 16) ⟨rfl, rfl⟩ rfl (by first | exact (rfl : _ = I _ _) | exact (rfl : _ = AV.p _) | exact (rfl : _ = AV.ptr _ _) | exact (rfl : _ = AV.own _ _ _ _ _) | exact (rfl : _ = AV.agg _) | exact (rfl : _ = AV.fn _ _))) ?_
    refine r_op rfl (o_call (some 17) ⟨rfl, rfl⟩ tx96 rfl rfl (w_mag b b1 b2) (convL_cons (conv_p _) convL_nil)) ?_
    refine r_op rfl (o_call (some 18) ⟨rfl, rfl⟩ tx95 rfl rfl (w_ratio (decide (a < 0) != decide (b < 0)) a.natAbs b.natAbs (by omega) (by omega) (by omega)) (convL_cons (conv_p _) (convL_cons (by first | exact conv_p _ | exact conv_nilP _ | exact conv_nil _ | exact conv_sl rfl | exact conv_nums rfl rfl rfl rfl (by rfl) (by rfl)) (convL_cons (by first | exact conv_p _ | exact conv_nilP _ | exact conv_nil _ | exact conv_sl rfl | exact conv_nums rfl rfl rfl rfl (by rfl) (by rfl)) convL_nil)))) ?_
    refine r_op rfl (o_stA rfl rfl rfl rfl rfl rfl ty26 rfl rfl rfl rfl rfl) ?_
    refine r_op rfl (o_as (some 5) ⟨rfl, rfl⟩ rfl (by exact (rfl : _ = I _ 0))) ?_
    refine r_end ?_
    refine s_n ?_
    refine r_ret ?_
    refine ⟨.inl rfl, [qP ((a : Rat) / (b : Rat)), .v (.int .i64 (if b = 0 then 10 else 0))], rfl, ?_⟩
    exact resL_cons (res_cell rfl rfl rfl ty26 rfl (Nat.le_of_ble_eq_true rfl) (conv_qe (of_frac hc))) (resL_cons (res_tmp (conv_pe rfl (by rw [if_neg hc]; rfl))) (resL_nil))

theorem w_ceil (x : Rat) (hx : qh x < 17179869184) : FnP prog 31 [qP x] (packP [qP (-(((-x).floor : Int) : Rat))]) := by
  refine fnP_of (fn := f31) fn31 rfl (Nat.le_of_ble_eq_true rfl) ?_
  refine r_seq ?_
  refine r_reg ?_
  refine r_op rfl (o_box (some 1) ⟨rfl, rfl⟩ rfl 1 rfl rfl rfl rfl) ?_
  refine r_op rfl (o_alloc (some 2) ⟨rfl, rfl⟩ rfl 2 rfl rfl ty26 rfl rfl) ?_
  refine r_end ?_
  refine s_n ?_
  refine r_seq ?_
  refine r_reg ?_
  refine r_op rfl (o_ldA (some 3) ⟨rfl, rfl⟩ rfl rfl rfl rfl ty26 rfl rfl rfl) ?_
  refine r_op rfl (o_call (some 4) ⟨rfl, rfl⟩ tx25 rfl rfl (w_neg x) (convL_cons (by first | exact conv_p _ | exact conv_agg (convL_cons (by first | exact conv_p _ | exact conv_nilP _ | exact conv_nil _ | exact conv_sl rfl | exact conv_nums rfl rfl rfl rfl (by rfl) (by rfl)) (convL_cons (by first | exact conv_p _ | exact conv_nilP _ | exact conv_nil _ | exact conv_sl rfl | exact conv_nums rfl rfl rfl rfl (by rfl) (by rfl)) (convL_cons (by first | exact conv_p _ | exact conv_nilP _ | exact conv_nil _ | exact conv_sl rfl | exact conv_nums rfl rfl rfl rfl (by rfl) (by rfl)) convL_nil)))) convL_nil)) ?_
  refine r_op rfl (o_call (some 5) ⟨rfl, rfl⟩ tx30 rfl rfl (w_floor (-x) (by rw [qh_neg]; exact hx)) (convL_cons (by first | exact conv_p _ | exact conv_agg (convL_cons (by first | exact conv_p _ | exact conv_nilP _ | exact conv_nil _ | exact conv_sl rfl | exact conv_nums rfl rfl rfl rfl (by rfl) (by rfl)) (convL_cons (by first | exact conv_p _ | exact conv_nilP _ | exact conv_nil _ | exact conv_sl rfl | exact conv_nums rfl rfl rfl rfl (by rfl) (by rfl)) (convL_cons (by first | exact conv_p _ | exact conv_nilP _ | exact conv_nil _ | exact conv_sl rfl | exact conv_nums rfl rfl rfl rfl (by rfl) (by rfl)) convL_nil)))) convL_nil)) ?_
  refine r_op rfl (o_call (some 6) ⟨rfl, rfl⟩ tx25 rfl rfl (w_neg _) (convL_cons (by first | exact conv_p _ | exact conv_agg (convL_cons (by first | exact conv_p _ | exact conv_nilP _ | exact conv_nil _ | exact conv_sl rfl | exact conv_nums rfl rfl rfl rfl (by rfl) (by rfl)) (convL_cons (by first | exact conv_p _ | exact conv_nilP _ | exact conv_nil _ | exact conv_sl rfl | exact conv_nums rfl rfl rfl rfl (by rfl) (by rfl)) (convL_cons (by first | exact conv_p _ | exact conv_nilP _ | exact conv_nil _ | exact conv_sl rfl | exact conv_nums rfl rfl rfl rfl (by rfl) (by rfl)) convL_nil)))) convL_nil)) ?_
  refine r_op rfl (o_stA rfl rfl rfl rfl rfl rfl ty26 rfl rfl rfl rfl rfl) ?_
  refine r_end ?_
  refine s_n ?_
  refine r_ret ?_
  refine ⟨.inl rfl, [qP (-(((-x).floor : Int) : Rat))], rfl, ?_⟩
  exact resL_cons (res_cell rfl rfl rfl ty26 rfl (Nat.le_of_ble_eq_true rfl) (by first | exact conv_p _ | exact conv_agg (convL_cons (by first | exact conv_p _ | exact conv_nilP _ | exact conv_nil _ | exact conv_sl rfl | exact conv_nums rfl rfl rfl rfl (by rfl) (by rfl)) (convL_cons (by first | exact conv_p _ | exact conv_nilP _ | exact conv_nil _ | exact conv_sl rfl | exact conv_nums rfl rfl rfl rfl (by rfl) (by rfl)) (convL_cons (by first | exact conv_p _ | exact conv_nilP _ | exact conv_nil _ | exact conv_sl rfl | exact conv_nums rfl rfl rfl rfl (by rfl) (by rfl)) convL_nil))))) (resL_nil)

theorem w_parts (x : Rat) : FnP prog 32 [qP x] (packP [qP ((x.num : Int) : Rat), qP (((x.den : Nat) : Int) : Rat)]) := by
  refine fnP_of (fn := f32) fn32 rfl (Nat.le_of_ble_eq_true rfl) ?_
  refine r_seq ?_
  refine r_reg ?_
  refine r_op rfl (o_box (some 1) ⟨rfl, rfl⟩ rfl 1 rfl rfl rfl rfl) ?_
  refine r_op rfl (o_alloc (some 2) ⟨rfl, rfl⟩ rfl 2 rfl rfl ty26 rfl rfl) ?_
  refine r_op rfl (o_alloc (some 3) ⟨rfl, rfl⟩ rfl 3 rfl rfl ty26 rfl rfl) ?_
  refine r_end ?_
  refine s_n ?_
  refine r_seq ?_
  refine r_drawn mixed ?_
  refine d_op [1] [1] rfl rfl (fun s hs => o_fld (some 4) ⟨rfl, rfl⟩ rfl (by exact (hs.1 1 rfl).trans (rfl)) (by exact (hs.2.1 _ rfl).trans rfl) rfl ty26 fe26_0 ty4 rfl rfl) ?_
  refine d_op [4] [1] rfl rfl (fun s hs => o_ld1 (some 5) ⟨rfl, rfl⟩ rfl (by exact (hs.1 4 rfl).trans (rfl)) (by exact (hs.2.1 _ rfl).trans rfl) rfl ty4 rfl rfl) ?_
  refine d_op [1] [1] rfl rfl (fun s hs => o_fld (some 6) ⟨rfl, rfl⟩ rfl (by exact (hs.1 1 rfl).trans (rfl)) (by exact (hs.2.1 _ rfl).trans rfl) rfl ty26 fe26_1 ty24 rfl rfl) ?_
  refine d_op [6] [1] rfl rfl (fun s hs => o_ld1 (some 7) ⟨rfl, rfl⟩ rfl (by exact (hs.1 6 rfl).trans (rfl)) (by exact (hs.2.1 _ rfl).trans rfl) rfl ty24 rfl rfl) ?_
  refine d_op [5, 7] [] rfl rfl (fun s hs => o_bld (some 8) ⟨rfl, rfl⟩ rfl ty26 pl26 (lk_cons (by exact (hs.1 5 rfl).trans (rfl)) (lk_cons (by exact (hs.1 7 rfl).trans (rfl)) lk_nil)) rfl) ?_
  refine d_op [1] [1] rfl rfl (fun s hs => o_ldA (some 9) ⟨rfl, rfl⟩ rfl (by exact (hs.1 1 rfl).trans (rfl)) (by exact (hs.2.1 _ rfl).trans rfl) rfl ty26 rfl rfl rfl) ?_
  refine d_op [9] [1] rfl rfl (fun s hs => o_call (some 10) ⟨rfl, rfl⟩ tx94 rfl rfl (w_below x) (convL_cons (conv_e (hs.1 9 rfl) (by first | exact conv_p _ | exact conv_agg (convL_cons (by first | exact conv_p _ | exact conv_nilP _ | exact conv_nil _ | exact conv_sl rfl | exact conv_nums (by exact (hs.2.1 _ rfl).trans rfl) rfl rfl rfl (by rfl) (by rfl)) (convL_cons (by first | exact conv_p _ | exact conv_nilP _ | exact conv_nil _ | exact conv_sl rfl | exact conv_nums (by exact (hs.2.1 _ rfl).trans rfl) rfl rfl rfl (by rfl) (by rfl)) (convL_cons (by first | exact conv_p _ | exact conv_nilP _ | exact conv_nil _ | exact conv_sl rfl | exact conv_nums (by exact (hs.2.1 _ rfl).trans rfl) rfl rfl rfl (by rfl) (by rfl)) convL_nil))))) convL_nil)) ?_
  refine d_op [10] [] rfl rfl (fun s hs => o_bld (some 11) ⟨rfl, rfl⟩ rfl ty26 pl26 (lk_cons (by exact (hs.1 10 rfl).trans (rfl)) lk_nil) rfl) ?_
  refine d_st [2, 8] [1, 2] rfl rfl (fun s hs => o_stA rfl rfl (by exact (hs.1 2 rfl).trans (rfl)) (by exact (hs.2.1 _ rfl).trans rfl) rfl rfl ty26 (by exact (congrArg AV.cells (by exact (hs.1 8 rfl).trans (rfl))).trans rfl) rfl rfl rfl rfl) ?_
  refine d_st [3, 11] [1, 2, 3] rfl rfl (fun s hs => o_stA rfl rfl (by exact (hs.1 3 rfl).trans (rfl)) (by exact (hs.2.1 _ rfl).trans rfl) rfl rfl ty26 (by exact (congrArg AV.cells (by exact (hs.1 11 rfl).trans (rfl))).trans rfl) rfl rfl rfl rfl) ?_
  refine d_end ⟨rfl, ?_⟩
  refine s_n ?_
  refine r_ret ?_
  refine ⟨.inl rfl, [qP ((x.num : Int) : Rat), qP (((x.den : Nat) : Int) : Rat)], rfl, ?_⟩
  exact resL_cons (res_cell rfl rfl rfl ty26 rfl (Nat.le_of_ble_eq_true rfl) (conv_q rfl (conv_pe rfl rfl) (conv_dn1 rfl))) (resL_cons (res_cell rfl rfl rfl ty26 rfl (Nat.le_of_ble_eq_true rfl) (conv_q (by rw [(rat_int _).1]; exact (dec_nat _).symm) (conv_pe rfl rfl) (conv_dn1 rfl))) (resL_nil))
end Vou
end
