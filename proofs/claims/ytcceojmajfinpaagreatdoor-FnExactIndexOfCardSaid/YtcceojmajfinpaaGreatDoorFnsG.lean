/-
  Shapes, changes, rows, of the reference's
-/
import Derived.Test.YtcceojmajfinpaaGreatDoorFnsF
section
set_option linter.unusedVariables false
set_option linter.unusedSectionVars false
set_option linter.unusedSimpArgs false
namespace Go.Vm.T
open Go.Proofs
def Zbf (c : Chg) : ColV := if c.k = 4 then { zC with k := c.col.k } else zC
theorem Zyn (a b : ColV) : (decide (a.nm = b.nm) && (decide (a.k = b.k) && (decide (a.need = b.need) && (decide (a.once = b.once) && (decide (a.df.k = b.df.k) && (decide (a.df.n = b.df.n) && decide (a.df.t = b.df.t))))))) = decide (a = b) := by
 obtain ⟨cn, ck, need, once, dk, dn, dt⟩ := a
 obtain ⟨cn', ck', need', once', dk', dn', dt'⟩ := b
 rw [Bool.eq_iff_iff]
 simp only [ColV.mk.injEq, Val.mk.injEq, Bool.and_eq_true, decide_eq_true_eq]
variable [Pr2]
theorem Zwp {D : Nat} (hD : 1 ≤ D) (c : Chg) : den pr D Xh [.agg c.c] = some [.agg (Zbf c).c] := by
 obtain ⟨D, rfl, hd⟩ := Z8 hD
 rw [Zgx]
 unfold Zbf
 rcases pf (c.k = 4) with h | h
 · simp only [c_spec_l2Rest, go_sem, h, if_true, zC, zV]
 · simp only [c_spec_l2Rest, go_sem, h, if_false, zC, zV]
theorem Y0h {D : Nat} (hD : 1 ≤ D) (s : List ColV) (i : Nat) (hi : i < s.length) (hl : s.length ≤ big) : den pr D Wv [.lit Z0 (s.map ColV.c), .n (i : Int)] = some [.olit Z0 ((offL i s).map ColV.c)] := by
 obtain ⟨D, rfl, hd⟩ := Z8 hD
 rw [Zkf]
 have hw : IntKind.i64.wrap ((i : Int) + 1) = (i : Int) + 1 := Zf (n := i) (by unfold big at hl; omega)
 have i0 : (0 : Int) ≤ (i : Int) := by omega
 have it : ((i : Int)).toNat = i := by omega
 have j0 : (0 : Int) ≤ (i : Int) + 1 := by omega
 have jt : ((i : Int) + 1).toNat = i + 1 := by omega
 have h1 : i ≤ s.length := by omega
 have h2 : i + 1 ≤ s.length := by omega
 have h3 : ((s.map ColV.c).drop (i + 1)).take (s.length - (i + 1)) = (s.map ColV.c).drop (i + 1) := List.take_of_length_le (by simp)
 have h4 : i + (s.length - (i + 1)) ≤ big := by omega
 have h5 : ((s.map ColV.c).take i).take i = (s.map ColV.c).take i := by rw [List.take_take, Nat.min_self]
 have h6 : min i s.length = i := by omega
 have h7 : i ≤ big := by omega
 have em : (offL i s).map ColV.c = (s.map ColV.c).take i ++ (s.map ColV.c).drop (i + 1) := by unfold offL; rw [List.map_append, List.map_take, List.map_drop]
 have h8 : List.take s.length (List.map ColV.c s) = List.map ColV.c s := List.take_of_length_le (by simp)
 have h9 : (List.take i (List.map ColV.c s) ++ List.drop (i + 1) (List.map ColV.c s)).length = i + (s.length - (i + 1)) := by simp; omega
 have h10 : ¬ (i + (s.length - (i + 1)) < i + (s.length - (i + 1))) := Nat.lt_irrefl _
 simp only [c_spec_l2Cut, go_sem, hw, i0, it, j0, jt, h1, h2, h3, h4, h5, h6, h7, h8, h9, h10, em, List.length_map, List.length_take, List.length_drop, Option.isNone_none, and_self, if_true, Nat.zero_le, Nat.le_refl, Nat.zero_add, List.nil_append, Nat.sub_zero, List.drop_zero]
def do2 (s : List ColV) (c : Chg) : List ColV :=
 if c.k = 1 then (if c.nm = eT ∧ c.nw = eT ∧ (c.col.need = false ∨ ¬ c.col.df.k = 0) then s ++ [c.col] else [])
 else match nmAt c.nm s with
  | none => []
  | some i => match s[i]? with
    | none => []
    | some x => if c.col = Zbf c then (if c.k = 2 then (if c.nw = eT then offL i s else []) else if c.k = 3 then s.set i { x with nm := c.nw } else if c.k = 4 then (if c.nw = eT ∧ ¬ c.col.k = x.k then s.set i { x with k := c.col.k, df := Z23 x.df c.col.k } else []) else []) else []
theorem Zzr {s : List ColV} {c : Chg} : finA s (do2 s c) = chgA s c := by
 have hnil : Zk [] = false := by decide
 have fnil : finA s [] = (s, false) := by unfold finA; rw [hnil]; rfl
 unfold do2 chgA Z21 chgK Zbf
 by_cases h1 : c.k = 1
 · by_cases a : c.nm = eT <;> by_cases b : c.nw = eT <;> by_cases d : c.col.need = true <;> by_cases e : c.col.df.k = 0 <;> simp [h1, a, b, d, e, fnil]
 · simp only [h1, if_false]
   cases hk : nmAt c.nm s with
   | none =>
     simp only [fnil, ite_self]
   | some i =>
     have hi := Z4h hk
     have hx : s[i]? = some s[i] := List.getElem?_eq_getElem hi
     simp only [hx]
     generalize s[i] = x
     by_cases h2 : c.k = 2
     · by_cases b : c.nw = eT <;> by_cases d : c.col = zC <;> simp [h2, b, d, fnil]
     · by_cases h3 : c.k = 3
       · by_cases d : c.col = zC <;> simp [h3, d, fnil]
       · by_cases h4 : c.k = 4
         · have n2 : ¬ (4 : Int) = 2 := by decide
           have n3 : ¬ (4 : Int) = 3 := by decide
           simp only [h4, n2, n3, if_false, if_true]
           by_cases d : c.col = { zC with k := c.col.k }
           · have d' : decide (c.col = { zC with k := c.col.k }) = true := decide_eq_true d
             simp only [if_pos d, d', Bool.and_true]
             by_cases b : c.nw = eT <;> by_cases e : c.col.k = x.k <;> simp [b, e, fnil]
           · have d' : decide (c.col = { zC with k := c.col.k }) = false := decide_eq_false d
             simp only [if_neg d, d', Bool.and_false, fnil, if_true]
         · simp [h2, h3, h4, fnil]
end Go.Vm.T
namespace Go.Vm.T
open Go.Proofs
variable [Pr2]
structure L2 (D : Nat) (s : List ColV) (c : Chg) : Prop where
 e1 : den pr D Yl [.lit Z0 (s.map ColV.c), .s c.nm] = some [.n (nmI c.nm s)]
 e2 : den pr D Xh [.agg c.c] = some [.agg (Zbf c).c]
 hb : s.length ≤ big
 hl : s.length + 1 ≤ big
 ht : (s.map ColV.c).take s.length = s.map ColV.c
 hta : ∀ r : List A, List.take (s.length + 1) (s.map ColV.c ++ [r]) = s.map ColV.c ++ [r]
theorem Y01 {D : Nat} (s : List ColV) (c : Chg) (L : L2 D s c) (h1 : (c.k = 1) = True) (h2 : (c.nm = eT) = True) (h3 : (c.nw = eT) = True) (h4 : c.col.need = false) : den pr (D + 1) Zo [.lit Z0 (s.map ColV.c), .agg c.c] = some [.olit Z0 ((s ++ [c.col]).map ColV.c)] := by
 rw [X3]
 obtain ⟨e1, e2, hb, hl, ht, hta⟩ := L
 have em : (s ++ [c.col]).map ColV.c = s.map ColV.c ++ [c.col.c] := by simp
 rw [em]
 have e2' := e2
 simp only [Chg.c, h4] at e2'
 simp only [ColV.c, h4]
 simp only [c_spec_l2Do, go_sem, e1, e2', e2, hb, hl, ht, hta, h1, h2, h3, h4, List.length_map, List.length_append, Nat.zero_add, List.nil_append, Nat.le_refl, Nat.zero_le, and_self, if_true, List.map_nil]
theorem Zz2 {D : Nat} (s : List ColV) (c : Chg) (L : L2 D s c) (h1 : (c.k = 1) = True) (h2 : (c.nm = eT) = True) (h3 : (c.nw = eT) = True) (h4 : c.col.need = true) (h5 : (c.col.df.k = 0) = False) : den pr (D + 1) Zo [.lit Z0 (s.map ColV.c), .agg c.c] = some [.olit Z0 ((s ++ [c.col]).map ColV.c)] := by
 rw [X3]
 obtain ⟨e1, e2, hb, hl, ht, hta⟩ := L
 have em : (s ++ [c.col]).map ColV.c = s.map ColV.c ++ [c.col.c] := by simp
 rw [em]
 have e2' := e2
 simp only [Chg.c, h4] at e2'
 simp only [ColV.c, h4]
 simp only [c_spec_l2Do, go_sem, e1, e2', e2, hb, hl, ht, hta, h1, h2, h3, h4, h5, List.length_map, List.length_append, Nat.zero_add, List.nil_append, Nat.le_refl, Nat.zero_le, and_self, if_true, List.map_nil]
theorem Zzt {D : Nat} (s : List ColV) (c : Chg) (L : L2 D s c) (h1 : (c.k = 1) = True) (h2 : (c.nm = eT) = True) (h3 : (c.nw = eT) = True) (h4 : c.col.need = true) (h5 : (c.col.df.k = 0) = True) : den pr (D + 1) Zo [.lit Z0 (s.map ColV.c), .agg c.c] = some [.olit Z0 ([])] := by
 rw [X3]
 obtain ⟨e1, e2, hb, hl, ht, hta⟩ := L
 have e2' := e2
 simp only [Chg.c, h4] at e2'
 simp only [c_spec_l2Do, go_sem, e1, e2', e2, hb, hl, ht, hta, h1, h2, h3, h4, h5, List.length_map, List.length_append, Nat.zero_add, List.nil_append, Nat.le_refl, Nat.zero_le, and_self, if_true, List.map_nil]
theorem Y10 {D : Nat} (s : List ColV) (c : Chg) (L : L2 D s c) (h1 : (c.k = 1) = True) (h2 : (c.nm = eT) = True) (h3 : (c.nw = eT) = False) : den pr (D + 1) Zo [.lit Z0 (s.map ColV.c), .agg c.c] = some [.olit Z0 ([])] := by
 rw [X3]
 obtain ⟨e1, e2, hb, hl, ht, hta⟩ := L
 simp only [c_spec_l2Do, go_sem, e1, e2, hb, hl, ht, hta, h1, h2, h3, List.length_map, List.length_append, Nat.zero_add, List.nil_append, Nat.le_refl, Nat.zero_le, and_self, if_true, List.map_nil]
theorem Y0f {D : Nat} (s : List ColV) (c : Chg) (L : L2 D s c) (h1 : (c.k = 1) = True) (h2 : (c.nm = eT) = False) : den pr (D + 1) Zo [.lit Z0 (s.map ColV.c), .agg c.c] = some [.olit Z0 ([])] := by
 rw [X3]
 obtain ⟨e1, e2, hb, hl, ht, hta⟩ := L
 simp only [c_spec_l2Do, go_sem, e1, e2, hb, hl, ht, hta, h1, h2, List.length_map, List.length_append, Nat.zero_add, List.nil_append, Nat.le_refl, Nat.zero_le, and_self, if_true, List.map_nil]
theorem Y4b {D : Nat} (s : List ColV) (c : Chg) (L : L2 D s c) (h1 : (c.k = 1) = True) : den pr (D + 1) Zo [.lit Z0 (s.map ColV.c), .agg c.c] = some [.olit Z0 ((do2 s c).map ColV.c)] := by
 unfold do2
 simp only [h1, if_true]
 rcases pf (c.nm = eT) with h2 | h2
 · rcases pf (c.nw = eT) with h3 | h3
   · cases h4 : c.col.need with
     | false =>
       rw [Y01 s c L h1 h2 h3 h4]
       simp only [h2, h3, true_and, true_or, if_true]
     | true =>
       rcases pf (c.col.df.k = 0) with h5 | h5
       · rw [Zzt s c L h1 h2 h3 h4 h5]
         simp only [h5, not_true, or_self, and_false, if_false, Bool.true_eq_false, List.map_nil]
       · rw [Zz2 s c L h1 h2 h3 h4 h5]
         simp only [h2, h3, h5, true_and, not_false_iff, or_true, if_true]
   · rw [Y10 s c L h1 h2 h3]
     simp only [h3, false_and, and_false, if_false, List.map_nil]
 · rw [Y0f s c L h1 h2]
   simp only [h2, false_and, if_false, List.map_nil]
theorem Y3b {D : Nat} (s : List ColV) (c : Chg) (L : L2 D s c) (h1 : (c.k = 1) = False) (ha : nmAt c.nm s = none) : den pr (D + 1) Zo [.lit Z0 (s.map ColV.c), .agg c.c] = some [.olit Z0 ((do2 s c).map ColV.c)] := by
 rw [X3]
 obtain ⟨e1, e2, hb, hl, ht, hta⟩ := L
 unfold do2
 unfold nmI at e1
 rw [ha] at e1
 have hm : (-1 : Int) < 0 := by decide
 simp only [c_spec_l2Do, go_sem, e1, e2, hb, hl, ht, h1, ha, hm, List.length_map, List.length_append, Nat.zero_add, List.nil_append, Nat.le_refl, Nat.zero_le, and_self, if_true, if_false, List.map_nil]
theorem Y3v {D : Nat} (s : List ColV) (c : Chg) (L : L2 D s c) (h1 : (c.k = 1) = False) (i : Nat) (ha : nmAt c.nm s = some i) (x : ColV) (hx : s[i]? = some x) (hr : ¬ c.col = Zbf c) : den pr (D + 1) Zo [.lit Z0 (s.map ColV.c), .agg c.c] = some [.olit Z0 ((do2 s c).map ColV.c)] := by
 rw [X3]
 obtain ⟨e1, e2, hb, hl, ht, hta⟩ := L
 unfold do2
 unfold nmI at e1
 rw [ha] at e1
 simp only at e1
 have hm : ¬ ((i : Int) < 0) := by omega
 have hq := Zyn c.col (Zbf c)
 rw [decide_eq_false hr] at hq
 simp only [h1, if_false, ha, hx, hr]
 generalize Zbf c = R at *
 simp only [c_spec_l2Do, go_sem, e1, e2, hb, hl, ht, h1, hm, hq, List.length_map, List.length_append, Nat.zero_add, List.nil_append, Nat.le_refl, Nat.zero_le, and_self, if_true, if_false, List.map_nil]
end Go.Vm.T
namespace Go.Vm.T
open Go.Proofs
variable [Pr2]
structure L3 (D : Nat) (s : List ColV) (c : Chg) (i : Nat) (x R : ColV) : Prop where
 e1 : den pr D Yl [.lit Z0 (s.map ColV.c), .s c.nm] = some [.n (i : Int)]
 e2 : den pr D Xh [.agg c.c] = some [.agg R.c]
 hq : (decide (c.col.nm = R.nm) && (decide (c.col.k = R.k) && (decide (c.col.need = R.need) && (decide (c.col.once = R.once) && (decide (c.col.df.k = R.df.k) && (decide (c.col.df.n = R.df.n) && decide (c.col.df.t = R.df.t))))))) = true
 hb : s.length ≤ big
 ht : (s.map ColV.c).take s.length = s.map ColV.c
 hm : ¬ ((i : Int) < 0)
 hi : i < s.length
 i0 : (0 : Int) ≤ (i : Int)
 it : ((i : Int)).toNat = i
 hr : (s.map ColV.c)[i]? = some x.c
 hset : ∀ r, ((s.map ColV.c).set i r)[i]? = some r
theorem Y20 {D : Nat} (s : List ColV) (c : Chg) (i : Nat) (x R : ColV) (L : L3 D s c i x R) (h1 : (c.k = 1) = False) (h2 : (c.k = 2) = True) (h3 : (c.nw = eT) = True) (e3 : den pr D Wv [.lit Z0 (s.map ColV.c), .n (i : Int)] = some [.olit Z0 ((offL i s).map ColV.c)]) :
 den pr (D + 1) Zo [.lit Z0 (s.map ColV.c), .agg c.c] = some [.olit Z0 ((offL i s).map ColV.c)] := by
 rw [X3]
 obtain ⟨e1, e2, hq, hb, ht, hm, hi, i0, it, hr, hset⟩ := L
 simp only [c_spec_l2Do, go_sem, e1, e2, e3, hq, hb, ht, h1, h2, h3, hm, List.length_map, List.length_append, Nat.zero_add, List.nil_append, Nat.le_refl, Nat.zero_le, and_self, if_true, if_false, Z6]
theorem Zz5 {D : Nat} (s : List ColV) (c : Chg) (i : Nat) (x R : ColV) (L : L3 D s c i x R) (h1 : (c.k = 1) = False) (h2 : (c.k = 2) = True) (h2' : (c.k = 3) = False) (h2'' : (c.k = 4) = False) (h3 : (c.nw = eT) = False) :
 den pr (D + 1) Zo [.lit Z0 (s.map ColV.c), .agg c.c] = some [.olit Z0 []] := by
 rw [X3]
 obtain ⟨e1, e2, hq, hb, ht, hm, hi, i0, it, hr, hset⟩ := L
 simp only [c_spec_l2Do, go_sem, e1, e2, hq, hb, ht, h1, h2, h2', h2'', h3, hm, hi, i0, it, hr, List.length_map, List.length_append, Nat.zero_add, List.nil_append, Nat.le_refl, Nat.zero_le, and_self, if_true, if_false, Z6]
theorem Y34 {D : Nat} (s : List ColV) (c : Chg) (i : Nat) (x R : ColV) (L : L3 D s c i x R) (h1 : (c.k = 1) = False) (h2 : (c.k = 2) = False) (h3 : (c.k = 3) = False) (h4 : (c.k = 4) = False) :
 den pr (D + 1) Zo [.lit Z0 (s.map ColV.c), .agg c.c] = some [.olit Z0 []] := by
 rw [X3]
 obtain ⟨e1, e2, hq, hb, ht, hm, hi, i0, it, hr, hset⟩ := L
 simp only [c_spec_l2Do, go_sem, e1, e2, hq, hb, ht, h1, h2, h3, h4, hm, hi, i0, it, hr, List.length_map, List.length_append, Nat.zero_add, List.nil_append, Nat.le_refl, Nat.zero_le, and_self, if_true, if_false, Z6]
theorem Y3r {D : Nat} (s : List ColV) (c : Chg) (i : Nat) (x R : ColV) (L : L3 D s c i x R) (h1 : (c.k = 1) = False) (h2 : (c.k = 2) = False) (h3 : (c.k = 3) = True) :
 den pr (D + 1) Zo [.lit Z0 (s.map ColV.c), .agg c.c] = some [.olit Z0 ((s.set i { x with nm := c.nw }).map ColV.c)] := by
 rw [X3]
 obtain ⟨e1, e2, hq, hb, ht, hm, hi, i0, it, hr, hset⟩ := L
 have em : (s.set i { x with nm := c.nw }).map ColV.c = (s.map ColV.c).set i (ColV.c { x with nm := c.nw }) := List.map_set
 rw [em]
 simp only [c_spec_l2Do, go_sem, e1, e2, hq, hb, ht, h1, h2, h3, hm, hi, i0, it, hr, hset, V4, List.length_map, List.length_append, List.length_set, Nat.zero_add, List.nil_append, Nat.le_refl, Nat.zero_le, and_self, if_true, if_false, Z6]
end Go.Vm.T
namespace Go.Vm.T
open Go.Proofs
variable [Pr2]
theorem Zzg {D : Nat} (s : List ColV) (c : Chg) (i : Nat) (x R : ColV) (L : L3 D s c i x R) (h1 : (c.k = 1) = False) (h2 : (c.k = 2) = False) (h3 : (c.k = 3) = False) (h4 : (c.k = 4) = True) (h5 : (c.nw = eT) = False) :
 den pr (D + 1) Zo [.lit Z0 (s.map ColV.c), .agg c.c] = some [.olit Z0 []] := by
 rw [X3]
 obtain ⟨e1, e2, hq, hb, ht, hm, hi, i0, it, hr, hset⟩ := L
 simp only [c_spec_l2Do, go_sem, e1, e2, hq, hb, ht, h1, h2, h3, h4, h5, hm, hi, i0, it, hr, List.length_map, List.length_append, Nat.zero_add, List.nil_append, Nat.le_refl, Nat.zero_le, and_self, if_true, if_false, Z6]
theorem Zz3 {D : Nat} (s : List ColV) (c : Chg) (i : Nat) (x R : ColV) (L : L3 D s c i x R) (h1 : (c.k = 1) = False) (h2 : (c.k = 2) = False) (h3 : (c.k = 3) = False) (h4 : (c.k = 4) = True) (h5 : (c.nw = eT) = True) (h6 : (c.col.k = x.k) = True) :
 den pr (D + 1) Zo [.lit Z0 (s.map ColV.c), .agg c.c] = some [.olit Z0 []] := by
 rw [X3]
 obtain ⟨e1, e2, hq, hb, ht, hm, hi, i0, it, hr, hset⟩ := L
 simp only [c_spec_l2Do, go_sem, e1, e2, hq, hb, ht, h1, h2, h3, h4, h5, h6, hm, hi, i0, it, hr, List.length_map, List.length_append, Nat.zero_add, List.nil_append, Nat.le_refl, Nat.zero_le, and_self, if_true, if_false, Z6]
theorem Y2j {D : Nat} (s : List ColV) (c : Chg) (i : Nat) (x R : ColV) (L : L3 D s c i x R) (h1 : (c.k = 1) = False) (h2 : (c.k = 2) = False) (h3 : (c.k = 3) = False) (h4 : (c.k = 4) = True) (h5 : (c.nw = eT) = True) (h6 : (c.col.k = x.k) = False) (ev : den pr D W5 [.agg x.df.c, .n c.col.k] = some [.agg (Z23 x.df c.col.k).c]) :
 den pr (D + 1) Zo [.lit Z0 (s.map ColV.c), .agg c.c] = some [.olit Z0 ((s.set i { x with k := c.col.k, df := Z23 x.df c.col.k }).map ColV.c)] := by
 rw [X3]
 obtain ⟨e1, e2, hq, hb, ht, hm, hi, i0, it, hr, hset⟩ := L
 have em : (s.set i { x with k := c.col.k, df := Z23 x.df c.col.k }).map ColV.c = (s.map ColV.c).set i (ColV.c { x with k := c.col.k, df := Z23 x.df c.col.k }) := List.map_set
 rw [em]
 simp only [c_spec_l2Do, go_sem, e1, e2, ev, hq, hb, ht, h1, h2, h3, h4, h5, h6, hm, hi, i0, it, hr, hset, List.set_set, V4, List.length_map, List.length_append, List.length_set, Nat.zero_add, List.nil_append, Nat.le_refl, Nat.zero_le, and_self, if_true, if_false, Z6]
theorem Y2b {D : Nat} (hD : 5 ≤ D) (s : List ColV) (c : Chg) (hs : SmallC s) (hl : s.length + 1 ≤ big) (hc : SmallG c) : den pr D Zo [.lit Z0 (s.map ColV.c), .agg c.c] = some [.olit Z0 ((do2 s c).map ColV.c)] := by
 obtain ⟨D, rfl, hd⟩ := Z8 hD
 have e1 := Zos (show 1 ≤ D by omega) c.nm s hs.len
 have e2 := Zwp (show 1 ≤ D by omega) c
 have L : L2 D s c := ⟨e1, e2, hs.len, hl, List.take_of_length_le (by simp), fun r => List.take_of_length_le (by simp)⟩
 rcases pf (c.k = 1) with h1 | h1
 · exact Y4b s c L h1
 · cases ha : nmAt c.nm s with
   | none => exact Y3b s c L h1 ha
   | some i =>
     have hi := Z4h ha
     have hx : s[i]? = some s[i] := List.getElem?_eq_getElem hi
     generalize s[i] = x at hx
     have hxs := hs.txt x (List.mem_of_getElem? hx)
     by_cases hr : c.col = Zbf c
     · have hq := Zyn c.col (Zbf c)
       rw [decide_eq_true hr] at hq
       unfold nmI at e1
       rw [ha] at e1
       have L' : L3 D s c i x (Zbf c) := ⟨e1, e2, hq, hs.len, List.take_of_length_le (by simp), by omega, hi, by omega, by omega, Zq (f := ColV.c) hx, fun r => List.getElem?_set_self (by simpa using hi)⟩
       have hk1 : ¬ c.k = 1 := of_eq_false h1
       have hdo : do2 s c = if c.k = 2 then (if c.nw = eT then offL i s else []) else if c.k = 3 then s.set i { x with nm := c.nw } else if c.k = 4 then (if c.nw = eT ∧ ¬ c.col.k = x.k then s.set i { x with k := c.col.k, df := Z23 x.df c.col.k } else []) else [] := by
        unfold do2
        rw [if_neg hk1]
        simp only [ha, hx]
        rw [if_pos hr]
       rw [hdo]
       rcases pf (c.k = 2) with h2 | h2
       · have hk := of_eq_true h2
         rw [if_pos hk]
         rcases pf (c.nw = eT) with h3 | h3
         · rw [if_pos (of_eq_true h3)]
           exact Y20 s c i x _ L' h1 h2 h3 (Y0h (by omega) s i hi hs.len)
         · rw [if_neg (of_eq_false h3)]
           exact Zz5 s c i x _ L' h1 h2 (eq_false (by omega)) (eq_false (by omega)) h3
       · rw [if_neg (of_eq_false h2)]
         rcases pf (c.k = 3) with h3 | h3
         · rw [if_pos (of_eq_true h3)]
           exact Y3r s c i x _ L' h1 h2 h3
         · rw [if_neg (of_eq_false h3)]
           rcases pf (c.k = 4) with h4 | h4
           · rw [if_pos (of_eq_true h4)]
             rcases pf (c.nw = eT) with h5 | h5
             · rcases pf (c.col.k = x.k) with h6 | h6
               · rw [if_neg (fun q => q.2 (of_eq_true h6))]
                 exact Zz3 s c i x _ L' h1 h2 h3 h4 h5 h6
               · rw [if_pos ⟨of_eq_true h5, of_eq_false h6⟩]
                 exact Y2j s c i x _ L' h1 h2 h3 h4 h5 h6 (Zaf (by omega) x.df c.col.k hxs.2)
             · rw [if_neg (fun q => of_eq_false h5 q.1)]
               exact Zzg s c i x _ L' h1 h2 h3 h4 h5
           · rw [if_neg (of_eq_false h4)]
             exact Y34 s c i x _ L' h1 h2 h3 h4
     · exact Y3v s c L h1 i ha x hx hr
theorem Zsw {s : List ColV} {c : Chg} (hs : SmallC s) (hl : s.length + 1 ≤ big) (hc : SmallG c) : SmallC (do2 s c) := by
 have h0 : SmallC [] := ⟨by unfold big; simp, fun c h => by simp at h⟩
 unfold do2
 split
 · split
   · refine ⟨by simpa using hl, fun x hx => ?_⟩
     rcases List.mem_append.1 hx with h | h
     · exact hs.txt x h
     · rw [List.mem_singleton.1 h]; exact ⟨hc.cn, hc.dt⟩
   · exact h0
 · split
   · exact h0
   · rename_i i hi
     have hil := Z4h hi
     split
     · exact h0
     · rename_i x hx
       have hxs := hs.txt x (List.mem_of_getElem? hx)
       split
       · split
         · split
           · refine ⟨by rw [Z0v hil]; have := hs.len; omega, fun y hy => hs.txt y ?_⟩
             unfold offL at hy
             rcases List.mem_append.1 hy with h | h
             · exact List.mem_of_mem_take h
             · exact List.mem_of_mem_drop h
           · exact h0
         · split
           · refine ⟨by rw [List.length_set]; exact hs.len, fun y hy => ?_⟩
             rcases List.mem_or_eq_of_mem_set hy with h | h
             · exact hs.txt y h
             · rw [h]; exact ⟨hc.nw, hxs.2⟩
           · split
             · split
               · refine ⟨by rw [List.length_set]; exact hs.len, fun y hy => ?_⟩
                 rcases List.mem_or_eq_of_mem_set hy with h | h
                 · exact hs.txt y h
                 · rw [h]; exact ⟨hxs.1, Za0 hxs.2⟩
               · exact h0
             · exact h0
       · exact h0
theorem Z6u {D : Nat} (hD : 6 ≤ D) (s : List ColV) (c : Chg) (hs : Zk s = true) (hc : SmallG c) : den pr D Xq [.lit Z0 (s.map ColV.c), .agg c.c] = some [.olit Z0 ((chgA s c).1.map ColV.c), .q (chgA s c).2] := by
 obtain ⟨D, rfl, hd⟩ := Z8 hD
 rw [Zd4]
 have hsm := Xs hs
 have e1 := Z1q (show 4 ≤ D by omega) s hsm.1
 rw [hs] at e1
 have e2 := Y2b (show 5 ≤ D by omega) s c hsm.1 hsm.2 hc
 have hds := Zsw (c := c) hsm.1 hsm.2 hc
 have e3 := Z1q (show 4 ≤ D by omega) (do2 s c) hds
 have hlen := hsm.1.len
 have ht : (s.map ColV.c).take s.length = s.map ColV.c := List.take_of_length_le (by simp)
 rw [← Zzr]
 generalize do2 s c = o at *
 have ho : (o.map ColV.c).take o.length = o.map ColV.c := List.take_of_length_le (by simp)
 unfold finA
 cases h : Zk o with
 | false =>
   rw [h] at e3
   simp only [c_spec_ShapeDo, go_sem, e1, e2, e3, ho, ht, hlen, Z6, List.length_map, Nat.zero_add, List.nil_append, Nat.le_refl, Nat.zero_le, and_self, if_true, if_false, Bool.false_eq_true]
 | true =>
   rw [h] at e3
   simp only [c_spec_ShapeDo, go_sem, e1, e2, e3, ho, ht, hlen, Z6, List.length_map, Nat.zero_add, List.nil_append, Nat.le_refl, Nat.zero_le, and_self, if_true, if_false, Bool.false_eq_true]
end Go.Vm.T
namespace Go.Vm.T
open Go.Proofs
variable [Pr2]
abbrev saS (cs : List Chg) (i : Nat) (s : List ColV) : St := ⟨upd (upd (upd (fun _ => .bad) 1 (.lit Z4 (cs.map Chg.c))) 6 (.ref Z0 0 0 s.length s.length false)) 7 (.n i), upd (fun _ => none) 0 (some ⟨Z0, s.map ColV.c, true, false⟩), 1, 0⟩
theorem Zjb {D : Nat} (hD : 6 ≤ D) (s : List ColV) (cs : List Chg) (hs : Zk s = true) (hc : ∀ c ∈ cs, SmallG c) (hcl : cs.length ≤ big) :
 Xr (Z9 (exec ⟨den pr D, dcl pr D, dfl pr D⟩ Znt) [1, 6, 7] rounds (saS cs 0 s)) (List ColV) Unit (runI chgG 0 s cs)
  (fun s' o => ∃ σ', o = .exit 0 σ' ∧ σ'.s 6 = .ref Z0 0 0 s'.length s'.length false ∧ σ'.h 0 = some ⟨Z0, s'.map ColV.c, true, false⟩) (fun _ o => ∃ σ' b, o = .ret σ' ∧ σ'.s 4 = .ref Z0 b 0 0 0 true ∧ σ'.h b = some ⟨Z0, [], true, false⟩ ∧ σ'.s 5 = .q false) := by
 refine Zh cs (saS cs) chgG (fun _ s => Zk s = true) _ _ s hs hcl (fun i s c K hcx hlt hI => ?_) (fun s K hI => ?_)
 · have hr := Zq (f := Chg.c) hcx
   have hw := Zf (n := i) (by unfold big at hcl; omega)
   have e1 := Z6u hD s c hI (hc c (List.mem_of_getElem? hcx))
   have hlt2 : (s.map ColV.c).take s.length = s.map ColV.c := List.take_of_length_le (by simp)
   unfold chgG
   have hok := Z9b (s := s) (c := c)
   generalize chgA s c = r at *
   obtain ⟨s', q⟩ := r
   simp only at e1 hok ⊢
   cases q with
   | true =>
     simp only [saS, Z9, Zll, Zct, go_sem, List.length_map, hr, hlt, hw, e1, hlt2, Z6, Nat.le_refl]
     exact hok rfl
   | false =>
     simp only [saS, Z9, Zll, Zct, go_sem, List.length_map, hr, hlt, hw, e1, hlt2, Z6, Nat.le_refl]
     exact ⟨_, rfl, _, _, rfl, rfl, rfl, rfl⟩
 · have hi : ¬ cs.length < cs.length := by omega
   simp only [saS, Z9, Zll, Zct, go_sem, List.length_map, hi]
   exact ⟨_, rfl, _, rfl, rfl, rfl⟩
theorem Z35 {D : Nat} (hD : 7 ≤ D) (s : List ColV) (cs : List Chg) (hs : SmallC s) (hc : ∀ c ∈ cs, SmallG c) (hcl : cs.length ≤ big) :
 den pr D Zgb [.lit Z0 (s.map ColV.c), .lit Z4 (cs.map Chg.c)] = some [.olit Z0 (((Z3k s cs).getD []).map ColV.c), .q (Z3k s cs).isSome] := by
 obtain ⟨D, rfl, hd⟩ := Z8 hD
 rw [Y77]
 have e1 := Z1q (show 4 ≤ D by omega) s hs
 have ht : (s.map ColV.c).take s.length = s.map ColV.c := List.take_of_length_le (by simp)
 have hlen := hs.len
 unfold Z3k
 cases h : Zk s with
 | false =>
   rw [h] at e1
   simp only [c_q32, go_sem, e1, Bool.false_eq_true, if_false, Option.getD_none, Option.isSome_none, List.map_nil]
 | true =>
   rw [h] at e1
   obtain ⟨out, lo, lp⟩ := Zjb (show 6 ≤ D by omega) s cs h hc hcl
   simp only [saS] at lo
   rw [show ((0 : Nat) : Int) = 0 from rfl] at lo
   unfold chgs
   cases hr : runI chgG 0 s cs with
   | inl s' =>
     rw [hr] at lp
     obtain ⟨σ', rfl, l1, l2⟩ := lp
     simp only [c_q32, go_sem, e1, lo, l1, l2, ht, hlen, List.length_map, Z6, Nat.le_refl, Nat.zero_le, Nat.zero_add, List.nil_append, and_self, if_true, Option.getD_some, Option.isSome_some]
   | inr u =>
     rw [hr] at lp
     obtain ⟨σ', b, rfl, l1, l2, l3⟩ := lp
     simp only [c_q32, go_sem, e1, lo, l1, l2, l3, ht, hlen, List.length_map, Z6, Nat.le_refl, Nat.zero_le, Nat.zero_add, List.nil_append, and_self, if_true, Option.getD_none, Option.isSome_none, List.map_nil]
theorem Y17 {D : Nat} (hD : 5 ≤ D) (s : List ColV) (c : Chg) (row : List Val) (hs : SmallC s) (hc : SmallG c) (hr : Z2x row) (hl : row.length + 1 ≤ big) (hk : c.k = 1 ∨ ((c.k = 2 ∨ c.k = 3 ∨ c.k = 4) ∧ ∃ i, nmAt c.nm s = some i ∧ i < row.length)) :
 den pr D Z01 [.lit Z0 (s.map ColV.c), .agg c.c, .lit Z1 (row.map Val.c)] = some [.olit Z1 ((rowA s c row).map Val.c)] := by
 obtain ⟨D, rfl, hd⟩ := Z8 hD
 rw [Zld]
 have e1 := Zos (show 1 ≤ D by omega) c.nm s hs.len
 have htk : (row.map Val.c).take row.length = row.map Val.c := List.take_of_length_le (by simp)
 have hbl : row.length ≤ big := by omega
 unfold rowA
 rcases hk with hk | ⟨hk, i, ha, hi⟩
 · have hk1 : (c.k = 1) = True := by rw [hk]; decide
   have em : (row ++ [c.col.df]).map Val.c = row.map Val.c ++ [c.col.df.c] := by simp
   have hta : ∀ r : List A, List.take (row.length + 1) (row.map Val.c ++ [r]) = row.map Val.c ++ [r] := fun r => List.take_of_length_le (by simp)
   simp only [c_spec_l2Row, go_sem, e1, hk1, em, hbl, if_true, List.length_map, List.length_append, Zg, Nat.le_refl, Nat.zero_le, hl, htk, hta, and_self, Nat.zero_add, List.nil_append]
 · unfold nmI at e1
   rw [ha] at e1
   simp only at e1
   have hm : ¬ ((i : Int) < 0) := by omega
   have hw : IntKind.i64.wrap ((i : Int) + 1) = (i : Int) + 1 := Zf (n := i) (by unfold big at hl; omega)
   rcases hk with hk | hk | hk
   · have hk1 : (c.k = 1) = False := by rw [hk]; decide
     have hk2 : (c.k = 2) = True := by rw [hk]; decide
     have i0 : (0 : Int) ≤ (i : Int) := by omega
     have it : ((i : Int)).toNat = i := by omega
     have j0 : (0 : Int) ≤ (i : Int) + 1 := by omega
     have jt : ((i : Int) + 1).toNat = i + 1 := by omega
     have h1 : i ≤ row.length := by omega
     have h2 : i + 1 ≤ row.length := by omega
     have h3 : ((row.map Val.c).drop (i + 1)).take (row.length - (i + 1)) = (row.map Val.c).drop (i + 1) := List.take_of_length_le (by simp)
     have h4 : i + (row.length - (i + 1)) ≤ big := by omega
     have h5 : ((row.map Val.c).take i).take i = (row.map Val.c).take i := by rw [List.take_take, Nat.min_self]
     have h6 : min i row.length = i := by omega
     have h7 : i ≤ big := by omega
     have em : (offL i row).map Val.c = (row.map Val.c).take i ++ (row.map Val.c).drop (i + 1) := by unfold offL; rw [List.map_append, List.map_take, List.map_drop]
     have h9 : (List.take i (List.map Val.c row) ++ List.drop (i + 1) (List.map Val.c row)).length = i + (row.length - (i + 1)) := by simp; omega
     have h10 : ¬ (i + (row.length - (i + 1)) < i + (row.length - (i + 1))) := Nat.lt_irrefl _
     simp only [c_spec_l2Row, go_sem, e1, ha, hk1, hk2, hm, hw, i0, it, j0, jt, h1, h2, h3, h4, h5, h6, h7, h9, h10, hbl, htk, em, if_true, if_false, List.length_map, List.length_take, List.length_drop, Zg, Nat.zero_le, Nat.le_refl, Option.isNone_none, and_self, Nat.zero_add, List.nil_append, Nat.sub_zero, List.drop_zero]
   · have hk1 : (c.k = 1) = False := by rw [hk]; decide
     have hk2 : (c.k = 2) = False := by rw [hk]; decide
     have hk4 : (c.k = 4) = False := by rw [hk]; decide
     simp only [c_spec_l2Row, go_sem, e1, ha, hk1, hk2, hk4, hm, htk, hbl, if_true, if_false, List.length_map, Zg, Nat.zero_le, Nat.le_refl, and_self, Nat.zero_add, List.nil_append]
   · have hk1 : (c.k = 1) = False := by rw [hk]; decide
     have hk2 : (c.k = 2) = False := by rw [hk]; decide
     have hk4 : (c.k = 4) = True := by rw [hk]; decide
     have hx : row[i]? = some row[i] := List.getElem?_eq_getElem hi
     simp only [ha, hx]
     generalize row[i] = x at hx
     have hxr := Zq (f := Val.c) hx
     have ev := Zaf (show 3 ≤ D by omega) x c.col.k (hr x (List.mem_of_getElem? hx))
     have em : (row.set i (Z23 x c.col.k)).map Val.c = (row.map Val.c).set i (Z23 x c.col.k).c := List.map_set
     have i0 : (0 : Int) ≤ (i : Int) := by omega
     have it : ((i : Int)).toNat = i := by omega
     simp only [c_spec_l2Row, go_sem, e1, ev, hk1, hk2, hk4, hm, hi, i0, it, hxr, htk, hbl, em, V4, if_true, if_false, List.length_map, List.length_set, Zg, Nat.zero_le, Nat.le_refl, and_self, Nat.zero_add, List.nil_append]
end Go.Vm.T
namespace Go.Vm.T
open Go.Proofs
variable [Pr2]
def raS (s : List ColV) (cs : List Chg) (i : Nat) (b : List ColV × List Val) : St :=
 if i = 0 then ⟨upd (upd (upd (upd (fun _ => .bad) 0 (.lit Z0 (s.map ColV.c))) 1 (.lit Z4 (cs.map Chg.c))) 9 (.ref Z1 0 0 b.2.length b.2.length false)) 10 (.n i), upd (fun _ => none) 0 (some ⟨Z1, b.2.map Val.c, true, false⟩), 1, 0⟩
 else ⟨upd (upd (upd (upd (fun _ => .bad) 0 (.ref Z0 0 0 b.1.length b.1.length false)) 1 (.lit Z4 (cs.map Chg.c))) 9 (.ref Z1 1 0 b.2.length b.2.length false)) 10 (.n i), upd (upd (fun _ => none) 0 (some ⟨Z0, b.1.map ColV.c, true, false⟩)) 1 (some ⟨Z1, b.2.map Val.c, true, false⟩), 2, 0⟩
theorem Zui {D : Nat} (hD : 6 ≤ D) (s : List ColV) (cs : List Chg) (row : List Val) (hs : Zk s = true) (hc : ∀ c ∈ cs, SmallG c) (hcl : cs.length ≤ big) (I : RwI s cs 0 (s, row)) :
 Xr (Z9 (exec ⟨den pr D, dcl pr D, dfl pr D⟩ Z2r) [0, 1, 9, 10] rounds (raS s cs 0 (s, row))) (List ColV × List Val) Unit (.inl (Zdj (s, row) cs))
  (fun b o => ∃ σ' m, o = .exit 0 σ' ∧ σ'.s 9 = .ref Z1 m 0 b.2.length b.2.length false ∧ σ'.h m = some ⟨Z1, b.2.map Val.c, true, false⟩) (fun _ o => False) := by
 rw [← Zud cs 0]
 refine Zh cs (raS s cs) rwG (fun i b => RwI s cs i b ∧ Zk b.1 = true) _ _ (s, row) ⟨I, hs⟩ hcl (fun i b c K hcx hlt hI => ?_) (fun b K hI => ?_)
 · obtain ⟨hI, hsh⟩ := hI
   obtain ⟨hq, hI', hk⟩ := hI.step hcx (hc c (List.mem_of_getElem? hcx))
   have hr := Zq (f := Chg.c) hcx
   have hw := Zf (n := i) (by unfold big at hcl; omega)
   have hg := hc c (List.mem_of_getElem? hcx)
   have e1 := Z6u hD b.1 c hsh hg
   have e2 := Y17 (show 5 ≤ D by omega) b.1 c b.2 hI.cols hg hI.vals (by rw [hI.len]; exact hI.clen) hk
   have htc : (b.1.map ColV.c).take b.1.length = b.1.map ColV.c := List.take_of_length_le (by simp)
   have htv : (b.2.map Val.c).take b.2.length = b.2.map Val.c := List.take_of_length_le (by simp)
   refine ⟨?_, hI', Z9b hq⟩
   obtain ⟨bs, br⟩ := b
   simp only at e1 e2 htc htv hq
   rw [hq] at e1
   cases i with
   | zero =>
     have hf := hI.first rfl
     simp only at hf
     subst hf
     unfold raS
     rw [if_pos rfl, if_neg (by omega)]
     simp only [Z9, Z17, Ws, go_sem, List.length_map, hr, hlt, hw, e1, e2, htc, htv, Z6, Zg, Nat.le_refl]
   | succ i =>
     unfold raS
     rw [if_neg (by omega), if_neg (by omega)]
     simp only [Z9, Z17, Ws, go_sem, List.length_map, hr, hlt, hw, e1, e2, htc, htv, Z6, Zg, Nat.le_refl]
 · have hi : ¬ cs.length < cs.length := by omega
   obtain ⟨bs, br⟩ := b
   unfold raS
   split
   · simp only [Z9, Z17, Ws, go_sem, List.length_map, hi]
     exact ⟨_, rfl, _, _, rfl, rfl, rfl⟩
   · simp only [Z9, Z17, Ws, go_sem, List.length_map, hi]
     exact ⟨_, rfl, _, _, rfl, rfl, rfl⟩
theorem Zvy {D : Nat} (hD : 8 ≤ D) (s s' : List ColV) (cs : List Chg) (row : List Val) (hs : Zk s = true) (hch : chgs s cs = some s') (hc : ∀ c ∈ cs, SmallG c) (hcl : cs.length ≤ big) (hl : row.length = s.length) (hv : Z2x row) :
 den pr D Vb [.lit Z0 (s.map ColV.c), .lit Z4 (cs.map Chg.c), .lit Z1 (row.map Val.c)] = some [.olit Z1 ((Zca s cs row).map Val.c)] := by
 obtain ⟨D, rfl, hd⟩ := Z8 hD
 rw [Zgm]
 have hsm := Xs hs
 have e1 := Z35 (show 7 ≤ D by omega) s cs hsm.1 hc hcl
 unfold Z3k at e1
 rw [if_pos hs, hch] at e1
 simp only [Option.getD_some, Option.isSome_some] at e1
 have I : RwI s cs 0 (s, row) := ⟨hsm.1, hsm.2, hv, hl, by rw [List.drop_zero]; simp only [hch]; rfl, fun _ => rfl⟩
 obtain ⟨out, lo, lp⟩ := Zui (show 6 ≤ D by omega) s cs row hs hc hcl I
 unfold raS at lo
 rw [if_pos rfl, show ((0 : Nat) : Int) = 0 from rfl] at lo
 simp only at lp lo
 obtain ⟨σ', m, rfl, l1, l2⟩ := lp
 have htv : ((Zdj (s, row) cs).2.map Val.c).take (Zdj (s, row) cs).2.length = (Zdj (s, row) cs).2.map Val.c := List.take_of_length_le (by simp)
 have htr : (row.map Val.c).take row.length = row.map Val.c := List.take_of_length_le (by simp)
 have hbl : row.length ≤ big := by have := hsm.2; omega
 have hli : ((row.length : Int) = (s.length : Int)) = True := by rw [hl]; simp
 simp only [c_spec_RowAll, go_sem, e1, lo, l1, l2, htr, hbl, hli, List.length_map, Zg, Z6, Nat.le_refl, Nat.zero_le, Nat.zero_add, List.nil_append, and_self, if_true, htv, Zca]
theorem Zby {D : Nat} (hD : 8 ≤ D) (t : Tab) (ht : SmallT t) (v : Nat) (hv : v ≤ t.chg.length) : den pr D Zm [.agg t.c, .n (v : Int)] = some [.olit Z0 (((Z3k t.first (t.chg.take v)).getD []).map ColV.c)] := by
 obtain ⟨D, rfl, hd⟩ := Z8 hD
 rw [Zcv]
 have hg := ht.glen
 have e1 := Z35 (show 7 ≤ D by omega) t.first (t.chg.take v) ht.cols (fun c hc => ht.chg c (List.mem_of_mem_take hc)) (by rw [List.length_take]; omega)
 have m1 : (t.chg.take v).map Chg.c = (t.chg.map Chg.c).take v := List.map_take
 rw [m1] at e1
 have v0 : (0 : Int) ≤ (v : Int) := by omega
 have vt : ((v : Int)).toNat = v := by omega
 simp only [c_spec_l3Shape, go_sem, e1, v0, vt, hv, Z6, List.length_map, Nat.le_refl, Nat.zero_le, Option.isNone_none, and_self, if_true, List.drop_zero, Nat.sub_zero]
theorem Zhb {D : Nat} (hD : 9 ≤ D) (t : Tab) (ht : SmallT t) (hs : Zk t.first = true) : den pr D Yx [.agg t.c] = some [.olit Z0 ((Zc t).map ColV.c)] := by
 obtain ⟨D, rfl, hd⟩ := Z8 hD
 rw [Zg0]
 have e1 := Zby (show 8 ≤ D by omega) t ht t.chg.length (Nat.le_refl _)
 unfold Z3k at e1
 rw [if_pos hs, List.take_length] at e1
 have e1' : den pr D Zm [.agg t.c, .n (t.chg.length : Int)] = some [.olit Z0 ((Zc t).map ColV.c)] := e1
 simp only [c_spec_l3Last, go_sem, e1', Z6, List.length_map, Nat.le_refl]
theorem Zn9 {D : Nat} (hD : 9 ≤ D) (t : Tab) (ht : SmallT t) (hs : Zk t.first = true) (r : RowV) (H : NowOk t r) :
 den pr D Yq [.agg t.c, .agg r.c] = some [.olit Z1 ((nowV t r).map Val.c)] := by
 obtain ⟨D, rfl, hd⟩ := Z8 hD
 rw [Zkm]
 obtain ⟨s, s', h1, h2, h3⟩ := H.then_
 obtain ⟨v, hv⟩ : ∃ v : Nat, r.ver = v := ⟨r.ver.toNat, by have := H.lo; omega⟩
 have hvt : r.ver.toNat = v := by omega
 have hvl : v ≤ t.chg.length := by have := H.hi; omega
 have hlen := H.len
 unfold nowV
 rw [hvt] at h1 h2 hlen ⊢
 rw [h1] at hlen ⊢
 simp only [Option.getD_some] at hlen ⊢
 have hg := ht.glen
 have e1 := Zby (show 8 ≤ D by omega) t ht v hvl
 unfold Z3k at e1
 rw [if_pos hs, h1] at e1
 have hss := Z2l hs h1
 have e2 := Zvy (show 8 ≤ D by omega) s s' (t.chg.drop v) r.vals hss h2 (fun c hc => ht.chg c (List.mem_of_mem_drop hc)) (by rw [List.length_drop]; omega) hlen H.vals
 have m2 : (t.chg.drop v).map Chg.c = (t.chg.map Chg.c).drop v := List.map_drop
 rw [m2] at e2
 have v0 : (0 : Int) ≤ (v : Int) := by omega
 have vt : ((v : Int)).toNat = v := by omega
 have htf : List.take t.chg.length (List.map Chg.c t.chg) = List.map Chg.c t.chg := List.take_of_length_le (by simp)
 have hts : (s.map ColV.c).take s.length = s.map ColV.c := List.take_of_length_le (by simp)
 obtain ⟨rid, rver, rvals⟩ := r
 simp only at hv e2 ⊢
 subst hv
 simp only [Option.getD_some] at e1
 simp only [c_spec_l3Now, go_sem, e1, e2, v0, vt, hvl, htf, hts, Z6, Zg, List.length_map, Nat.le_refl, Nat.zero_le, Option.isNone_none, and_self, if_true, List.drop_zero, Nat.sub_zero]
end Go.Vm.T
namespace Go.Vm.T
open Go.Proofs
variable [Pr2]
abbrev roS (s : List ColV) (row : List Val) (i : Nat) : St := ⟨upd (upd (upd (fun _ => .bad) 0 (.lit Z0 (s.map ColV.c))) 1 (.lit Z1 (row.map Val.c))) 5 (.n i), fun _ => none, 0, 0⟩
theorem Zq7 {D : Nat} (s : List ColV) (row : List Val) (i : Nat) (vk vn : Int) (vt cn : ByteArray) (ck : Int) (need once : Bool) (cd : Val) (q1 : Bool) (K : Nat)
 (hx : (row.map Val.c)[i]? = some (Val.mk vk vn vt).c) (hc : (s.map ColV.c)[i]? = some (ColV.mk cn ck need once cd).c) (hlt : i < row.length) (his : i < s.length) (hw : IntKind.i64.wrap ((i : Int) + 1) = ((i + 1 : Nat) : Int)) (e1 : den pr D X9 [.agg (Val.mk vk vn vt).c] = some [.q q1]) :
 match (bif q1 && ((decide (vk = 0) || decide (vk = ck)) && !(need && decide (vk = 0))) then (.inl () : Unit ⊕ Unit) else .inr ()) with
 | .inl _ => Z9 (exec ⟨den pr D, dcl pr D, dfl pr D⟩ Vn) [0, 1, 5] (K + 1) (roS s row i) = Z9 (exec ⟨den pr D, dcl pr D, dfl pr D⟩ Vn) [0, 1, 5] K (roS s row (i + 1))
 | .inr _ => ∃ out, Z9 (exec ⟨den pr D, dcl pr D, dfl pr D⟩ Vn) [0, 1, 5] (K + 1) (roS s row i) = some out ∧ ∃ σ', out = .ret σ' ∧ σ'.s 4 = .q false := by
 cases q1 with
 | false =>
   simp only [Bool.false_and, cond_false]
   rcases pf (vk = 0) with h0 | h0
   · simp only [roS, Z9, Xp, X1, go_sem, List.length_map, hx, hlt, hw, e1, hc, his, h0]
     exact ⟨_, rfl, _, rfl, rfl⟩
   · simp only [roS, Z9, Xp, X1, go_sem, List.length_map, hx, hlt, hw, e1, hc, his, h0]
     exact ⟨_, rfl, _, rfl, rfl⟩
 | true =>
   rcases pf (vk = 0) with h0 | h0
   · cases need with
     | false =>
       simp only [h0, decide_true, Bool.true_or, Bool.true_and, Bool.false_and, Bool.not_false, cond_true]
       simp only [roS, Z9, Xp, X1, go_sem, List.length_map, hx, hlt, hw, e1, hc, his, h0]
     | true =>
       simp only [h0, decide_true, Bool.true_or, Bool.true_and, Bool.not_true, cond_false]
       simp only [roS, Z9, Xp, X1, go_sem, List.length_map, hx, hlt, hw, e1, hc, his, h0]
       exact ⟨_, rfl, _, rfl, rfl⟩
   · rcases pf (vk = ck) with h1 | h1
     · simp only [h0, h1, decide_true, decide_false, Bool.false_or, Bool.true_and, Bool.and_false, Bool.not_false, cond_true]
       cases need with
       | false => simp only [roS, Z9, Xp, X1, go_sem, List.length_map, hx, hlt, hw, e1, hc, his, h0, h1]
       | true => simp only [roS, Z9, Xp, X1, go_sem, List.length_map, hx, hlt, hw, e1, hc, his, h0, h1]
     · simp only [h0, h1, decide_false, Bool.or_self, Bool.false_and, Bool.and_false, cond_false]
       simp only [roS, Z9, Xp, X1, go_sem, List.length_map, hx, hlt, hw, e1, hc, his, h0, h1]
       exact ⟨_, rfl, _, rfl, rfl⟩
theorem Zu7 {D : Nat} (hD : 2 ≤ D) (s : List ColV) (row : List Val) (hr : Z2x row) (hl : row.length = s.length) (hb : row.length ≤ big) :
 Xr (Z9 (exec ⟨den pr D, dcl pr D, dfl pr D⟩ Vn) [0, 1, 5] rounds (roS s row 0)) Unit Unit (runI (rowG s) 0 () row)
  (fun _ o => ∃ σ', o = .exit 0 σ') (fun _ o => ∃ σ', o = .ret σ' ∧ σ'.s 4 = .q false) := by
 refine Zh row (fun i _ => roS s row i) (rowG s) (fun _ _ => True) _ _ () trivial hb (fun i _ v K hv hlt _ => ?_) (fun _ K _ => ?_)
 · have hx := Zq (f := Val.c) hv
   have hw := Zf (n := i) (by unfold big at hb; omega)
   have hs : s[i]? = some s[i] := List.getElem?_eq_getElem (by omega)
   unfold rowG rOk fitK
   rw [hs]
   generalize s[i] = c at hs
   have hc := Zq (f := ColV.c) hs
   have his : i < s.length := by omega
   have e1 := Z58 hD v (hr v (List.mem_of_getElem? hv))
   obtain ⟨vk, vn, vt⟩ := v
   obtain ⟨cn, ck, need, once, cd⟩ := c
   have := Zq7 s row i vk vn vt cn ck need once cd _ K hx hc hlt his hw e1
   simp only at this ⊢
   generalize (bif Z31 ⟨vk, vn, vt⟩ && ((decide (vk = 0) || decide (vk = ck)) && !(need && decide (vk = 0))) then (Sum.inl () : Unit ⊕ Unit) else Sum.inr ()) = g at this
   cases g with
   | inl u => exact ⟨this, trivial⟩
   | inr u => exact this
 · have hi : ¬ row.length < row.length := by omega
   simp only [roS, Z9, Xp, X1, go_sem, List.length_map, hi]
   exact ⟨_, rfl, _, rfl⟩
theorem Za8 {D : Nat} (hD : 5 ≤ D) (s : List ColV) (row : List Val) (hs : SmallC s) (hr : Z2x row) (hb : row.length ≤ big) : den pr D Zl [.lit Z0 (s.map ColV.c), .lit Z1 (row.map Val.c)] = some [.q (Zk s && Z7o s row)] := by
 obtain ⟨D, rfl, hd⟩ := Z8 hD
 rw [Zl0]
 have e1 := Z1q (show 4 ≤ D by omega) s hs
 unfold Z7o
 cases h : Zk s with
 | false =>
   rw [h] at e1
   simp only [c_spec_RowOk, go_sem, e1, List.length_map]
 | true =>
   rw [h] at e1
   by_cases hl : row.length = s.length
   · obtain ⟨out, lo, lp⟩ := Zu7 (show 2 ≤ D by omega) s row hr hl hb
     simp only [roS] at lo
     rw [show ((0 : Nat) : Int) = 0 from rfl] at lo
     have hli : ((row.length : Int) = (s.length : Int)) = True := by rw [hl]; simp
     rw [show decide (row.length = s.length) = true from by simp [hl], Bool.true_and]
     cases hq : runI (rowG s) 0 () row with
     | inl u =>
       rw [hq] at lp
       obtain ⟨σ', rfl⟩ := lp
       simp only [c_spec_RowOk, go_sem, e1, List.length_map, lo, hli]
     | inr u =>
       rw [hq] at lp
       obtain ⟨σ', rfl, l2⟩ := lp
       simp only [c_spec_RowOk, go_sem, e1, List.length_map, lo, l2, hli]
   · have hli : ((row.length : Int) = (s.length : Int)) = False := eq_false (by omega)
     simp only [c_spec_RowOk, go_sem, e1, List.length_map, hl, hli]
end Go.Vm.T
end
