/-
  What the functions under the law compute, of values, entries, sizes
-/
import Derived.Test.YtcceojmajfinpaaGreatDoorCode
import Derived.Test.YtcceojmajfinpaaGreatDoorVmD
import Derived.IntWalk
section
set_option linter.unusedVariables false
set_option linter.unusedSectionVars false
set_option linter.unusedSimpArgs false
namespace Go.Vm.T
variable [Pr0]
structure Val where
 k : Int
 n : Int
 t : ByteArray
 deriving DecidableEq
abbrev Val.c (v : Val) : List A := [.n v.k, .n v.n, .s v.t]
structure Ent where
 v : Val
 id : Int
 deriving DecidableEq
abbrev Ent.c (e : Ent) : List A := [.n e.v.k, .n e.v.n, .s e.v.t, .n e.id]
theorem Zfv (c x y : Bool) : (bif c then some [A.v (Value.bool x)] else some [A.v (Value.bool y)]) = some [A.v (Value.bool (bif c then x else y))] := by cases c <;> rfl
theorem Z8 {D k : Nat} (h : k + 1 ≤ D) : ∃ d, D = d + 1 ∧ k ≤ d := ⟨D - 1, by omega, by omega⟩
theorem wrap_i64 {n : Int} (h1 : -9223372036854775808 ≤ n) (h2 : n ≤ 9223372036854775807) : IntKind.i64.wrap n = n := IntWalk.i64_in _ (by exact ⟨h1, h2⟩)
theorem Zf {n : Nat} (h : n ≤ 9223372036854775806) : IntKind.i64.wrap ((n : Int) + 1) = ((n + 1 : Nat) : Int) := by
 rw [wrap_i64 (by omega) (by omega)]; rfl
def inB (n lo hi : Int) : Bool := decide (lo ≤ n) && decide (n ≤ hi)
theorem d_in {D : Nat} (hD : 1 ≤ D) (n lo hi : Int) : den pr D Xg [.n n, .n lo, .n hi] = some [.q (inB n lo hi)] := by
 obtain ⟨D, rfl, hd⟩ := Z8 hD
 rw [Zsa]
 simp only [c_impl_in, go_sem, inB]
def Z77 (a b : Val) : Bool := bif !decide (a.k = b.k) then decide (a.k < b.k) else bif !decide (a.n = b.n) then decide (a.n < b.n) else Z3h a.t.toList b.t.toList
theorem Zr1 {D : Nat} (hD : 1 ≤ D) (a b : Val) : den pr D Wc [.agg a.c, .agg b.c] = some [.q (Z77 a b)] := by
 obtain ⟨D, rfl, hd⟩ := Z8 hD
 rw [Zds]
 simp only [c_impl_ValLess, go_sem, Zfv, Z77]
theorem Zdx {D : Nat} (hD : 1 ≤ D) (a b : Val) : den pr D Wi [.agg a.c, .agg b.c] = some [.q (Z77 a b)] := by
 obtain ⟨D, rfl, hd⟩ := Z8 hD
 rw [Zdv]
 simp only [c_spec_ValLess, go_sem, Zfv, Z77]
end Go.Vm.T
namespace Go.Vm.T
variable [Pr0]
def badC (c : UInt8) : Bool := (decide ((c.toNat : Int) < 97) || decide (122 < (c.toNat : Int))) && (decide ((c.toNat : Int) < 48) || decide (57 < (c.toNat : Int))) && !decide ((c.toNat : Int) = 45)
def okL (l : List UInt8) : Bool := l.all fun c => !badC c
theorem Zlw : ∀ (l : List UInt8) (i : Nat), (runI (fun _ (_ : Unit) c => if badC c then .inr () else .inl ()) i () l : Unit ⊕ Unit) = if okL l then .inl () else .inr ()
 | [], i => rfl
 | c :: l, i => by
   unfold runI
   have : okL (c :: l) = (!badC c && okL l) := rfl
   rw [this]
   cases badC c with
   | true => rfl
   | false => simp only [Bool.false_eq_true, if_false, Bool.not_false, Bool.true_and]; exact Zlw l (i + 1)
def Z31 (v : Val) : Bool :=
 bif decide (v.k = 0) then decide (v.k = 0) && (decide (v.n = 0) && decide (v.t = ⟨#[]⟩))
 else bif decide (v.k = 1) then inB v.n (-999) 999 && decide (v.t = ⟨#[]⟩)
 else bif decide (v.k = 2) then bif okL v.t.data.toList then decide (v.n = 0) && decide ((v.t.size : Int) ≤ 4) else false
 else false
theorem Zwk (E : Env) (k n : Int) (t : ByteArray) (ht : t.size ≤ big) :
 Xr (Z9 (exec E Z3i) [1, 26, 27] rounds ⟨upd (upd (upd (fun _ => .bad) 1 (.ptr 0 0 0)) 26 (.n t.size)) 27 (.n (0 : Nat)), upd (fun _ => none) 0 (some ⟨Z1, [[.n k, .n n, .s t]], true, true⟩), 1, 0⟩) Unit Unit (if okL t.data.toList then .inl () else .inr ())
  (fun _ o => ∃ σ', o = .exit 1 σ' ∧ σ'.s 1 = .ptr 0 0 0 ∧ σ'.h 0 = some ⟨Z1, [[.n k, .n n, .s t]], true, true⟩) (fun _ o => ∃ σ', o = .ret σ' ∧ σ'.s 2 = .q false) := by
 rw [← Zlw _ 0]
 have hsz : t.size = t.data.toList.length := Z57 t
 refine Zh t.data.toList (fun i (_ : Unit) => ⟨upd (upd (upd (fun _ => .bad) 1 (.ptr 0 0 0)) 26 (.n t.size)) 27 (.n i), upd (fun _ => none) 0 (some ⟨Z1, [[.n k, .n n, .s t]], true, true⟩), 1, 0⟩) _ (fun _ _ => True) _ _ () trivial (by rw [← hsz]; exact ht) (fun i _ c K hc hlt _ => ?_) (fun _ K _ => ?_)
 · have hlt' : i < t.size := by omega
   have hw := Zf (n := i) (by unfold big at ht; omega)
   simp only [Z9, Z6p, Z1t, go_sem, hc, hlt', hw]
   have hb : badC c = ((decide ((c.toNat : Int) < 97) || decide (122 < (c.toNat : Int))) && (decide ((c.toNat : Int) < 48) || decide (57 < (c.toNat : Int))) && !decide ((c.toNat : Int) = 45)) := rfl
   rw [← hb]
   cases badC c with
   | true => exact ⟨_, rfl, _, rfl, rfl⟩
   | false => exact rfl
 · have hi : ¬ t.data.toList.length < t.size := by omega
   simp only [Z9, Z6p, Z1t, go_sem, hi]
   exact ⟨_, rfl, _, rfl, rfl, rfl⟩
theorem Zgf {D : Nat} (hD : 2 ≤ D) (v : Val) (ht : v.t.size ≤ big) : den pr D X8 [.agg v.c] = some [.q (Z31 v)] := by
 obtain ⟨D, rfl, hd⟩ := Z8 hD
 obtain ⟨k, n, t⟩ := v
 rw [Zhv]
 simp only at ht
 obtain ⟨out, lo, lp⟩ := Zwk ⟨den pr D, dcl pr D, dfl pr D⟩ k n t ht
 rw [show ((0 : Nat) : Int) = 0 from rfl] at lo
 simp only [c_impl_ValOk, go_sem, d_in hd, Z31]
 cases h0 : decide (k = 0) with
 | true => simp only [go_sem]
 | false =>
   cases h1 : decide (k = 1) with
   | true => simp only [go_sem]
   | false =>
     cases h2 : decide (k = 2) with
     | false => simp only [go_sem]
     | true =>
       cases hl : okL t.data.toList with
       | true =>
         rw [hl] at lp
         obtain ⟨σ', rfl, l2, l3⟩ := lp
         simp only [go_sem, lo, l2, l3]
       | false =>
         rw [hl] at lp
         obtain ⟨σ', rfl, l2⟩ := lp
         simp only [go_sem, lo, l2]
theorem Z5q {D : Nat} (hD : 1 ≤ D) (n : Int) : den pr D W6 [.n n] = some [.q (inB n (-999) 999)] := by
 obtain ⟨D, rfl, hd⟩ := Z8 hD
 rw [Ziz]
 simp only [c_spec_l1Num, go_sem, inB]
theorem Zt7 (E : Env) (t : ByteArray) (ht : t.size ≤ big) :
 Xr (Z9 (exec E Z2n) [0, 3] rounds ⟨upd (upd (fun _ => .bad) 0 (.s t)) 3 (.n (0 : Nat)), fun _ => none, 0, 0⟩) Unit Unit (if okL t.data.toList then .inl () else .inr ())
  (fun _ o => ∃ σ', o = .exit 0 σ' ∧ σ'.s 0 = .s t) (fun _ o => ∃ σ', o = .ret σ' ∧ σ'.s 2 = .q false) := by
 rw [← Zlw _ 0]
 have hsz : t.size = t.data.toList.length := Z57 t
 refine Zh t.data.toList (fun i (_ : Unit) => ⟨upd (upd (fun _ => .bad) 0 (.s t)) 3 (.n i), fun _ => none, 0, 0⟩) _ (fun _ _ => True) _ _ () trivial (by rw [← hsz]; exact ht) (fun i _ c K hc hlt _ => ?_) (fun _ K _ => ?_)
 · have hlt' : i < t.size := by omega
   have hw := Zf (n := i) (by unfold big at ht; omega)
   simp only [Z9, Z5y, Z18, go_sem, hc, hlt', hw]
   have hb : badC c = ((decide ((c.toNat : Int) < 97) || decide (122 < (c.toNat : Int))) && (decide ((c.toNat : Int) < 48) || decide (57 < (c.toNat : Int))) && !decide ((c.toNat : Int) = 45)) := rfl
   rw [← hb]
   cases badC c with
   | true => exact ⟨_, rfl, _, rfl, rfl⟩
   | false => exact rfl
 · have hi : ¬ t.data.toList.length < t.size := by omega
   simp only [Z9, Z5y, Z18, go_sem, hi]
   exact ⟨_, rfl, _, rfl, rfl⟩
theorem Zg9 {D : Nat} (hD : 1 ≤ D) (t : ByteArray) (ht : t.size ≤ big) : den pr D V9 [.s t] = some [.q (bif okL t.data.toList then decide ((t.size : Int) ≤ 4) else false)] := by
 obtain ⟨D, rfl, hd⟩ := Z8 hD
 rw [Zft]
 obtain ⟨out, lo, lp⟩ := Zt7 ⟨den pr D, dcl pr D, dfl pr D⟩ t ht
 rw [show ((0 : Nat) : Int) = 0 from rfl] at lo
 simp only [c_spec_l1Text, go_sem]
 cases hl : okL t.data.toList with
 | true =>
   rw [hl] at lp
   obtain ⟨σ', rfl, l2⟩ := lp
   simp only [go_sem, lo, l2]
 | false =>
   rw [hl] at lp
   obtain ⟨σ', rfl, l2⟩ := lp
   simp only [go_sem, lo, l2]
theorem Z58 {D : Nat} (hD : 2 ≤ D) (v : Val) (ht : v.t.size ≤ big) : den pr D X9 [.agg v.c] = some [.q (Z31 v)] := by
 obtain ⟨D, rfl, hd⟩ := Z8 hD
 obtain ⟨k, n, t⟩ := v
 rw [Zjf]
 simp only at ht
 simp only [c_spec_ValOk, go_sem, Z5q hd, Zg9 hd t ht, Z31]
 cases h0 : decide (k = 0) <;> cases h1 : decide (k = 1) <;> cases h2 : decide (k = 2) <;> simp only [go_sem]
 · cases okL t.data.toList <;> simp only [go_sem]
 all_goals first | rfl | (rw [Bool.and_comm])
end Go.Vm.T
namespace Go.Vm.T
class Pr1 extends Pr0 where
 num : pg.ext Yf = some numF
variable [Pr1]
theorem Zgw (D : Nat) (as : List A) : den pr (D + 1) Yf as = numF as := Z7g Pr1.num
def sDig (neg : Bool) (l : List UInt8) : Option Nat := if l.length = 0 ∨ 17 < l.length ∨ (l.head? = some 48 ∧ (1 < l.length ∨ neg = true)) then none else Lib.decFrom 0 l
def sNum (l : List UInt8) : Option Int := if l.head? = some 45 then (sDig true l.tail).map (fun m => -(m : Int)) else (sDig false l).map (fun m => (m : Int))
def digG (_ : Nat) (acc : Nat) (c : UInt8) : Nat ⊕ Unit := match Lib.digitVal c with
 | some d => .inl (acc * 10 + d)
 | none => .inr ()
theorem Zuw : ∀ (l : List UInt8) (i acc : Nat), (runI digG i acc l : Nat ⊕ Unit) = match Lib.decFrom acc l with | some m => .inl m | none => .inr ()
 | [], i, acc => rfl
 | c :: l, i, acc => by
   unfold runI Lib.decFrom digG
   cases Lib.digitVal c with
   | none => rfl
   | some d => exact Zuw l (i + 1) _
theorem Y6i {i m acc d : Nat} (hi : i < 17) (h : acc < 10 ^ i) (hd : d ≤ 9) : acc * 10 + d < 10 ^ (i + 1) := by
 rw [Nat.pow_succ]; omega
theorem Zw8 {i : Nat} (hi : i ≤ 17) : 10 ^ i ≤ 100000000000000000 := by
 have := Nat.pow_le_pow_right (n := 10) (by decide) hi
 have e : (10 : Nat) ^ 17 = 100000000000000000 := by decide
 omega
theorem Zc5 (E : Env) (neg : Bool) (t : ByteArray) (ht : t.size ≤ 17) :
 Xr (Z9 (exec E Z0y) [0, 4, 5, 6] rounds ⟨upd (upd (upd (upd (fun _ => .bad) 0 (.s t)) 4 (.q neg)) 5 (.n (0 : Nat))) 6 (.n (0 : Nat)), fun _ => none, 0, 0⟩) Nat Unit (match Lib.decFrom 0 t.data.toList with | some m => .inl m | none => .inr ())
  (fun m o => ∃ σ', o = .exit 0 σ' ∧ σ'.s 4 = .q neg ∧ σ'.s 5 = .n m) (fun _ o => ∃ σ', o = .ret σ' ∧ σ'.s 2 = .n 0 ∧ σ'.s 3 = .q false) := by
 rw [← Zuw _ 0]
 have hsz : t.size = t.data.toList.length := Z57 t
 refine Zh t.data.toList (fun i (acc : Nat) => ⟨upd (upd (upd (upd (fun _ => .bad) 0 (.s t)) 4 (.q neg)) 5 (.n acc)) 6 (.n i), fun _ => none, 0, 0⟩) digG (fun i acc => acc < 10 ^ i) _ _ 0 (by decide) (by rw [← hsz]; unfold big; omega) (fun i acc c K hc hlt hI => ?_) (fun acc K _ => ?_)
 · have hlt' : i < t.size := by omega
   have hw := Zf (n := i) (by omega)
   have hp := Zw8 (show i ≤ 17 by omega)
   unfold digG Lib.digitVal
   have hc256 : c.toNat < 256 := c.toNat_lt
   by_cases h1 : 48 ≤ c.toNat ∧ c.toNat ≤ 57
   · rw [if_pos h1]
     have g1 : ¬ ((c.toNat : Int) < 48) := by omega
     have g2 : ¬ ((57 : Int) < (c.toNat : Int)) := by omega
     have w1 : IntKind.u8.wrap ((c.toNat : Int) - 48) = ((c.toNat - 48 : Nat) : Int) := by
      rw [IntWalk.u8_in _ ⟨by omega, by omega⟩]; omega
     have w2 : IntKind.i64.wrap ((c.toNat - 48 : Nat) : Int) = ((c.toNat - 48 : Nat) : Int) := wrap_i64 (by omega) (by omega)
     have w3 : IntKind.i64.wrap ((acc : Int) * 10) = ((acc * 10 : Nat) : Int) := by rw [wrap_i64 (by omega) (by omega)]; omega
     have w4 : IntKind.i64.wrap (((acc * 10 : Nat) : Int) + ((c.toNat - 48 : Nat) : Int)) = ((acc * 10 + (c.toNat - 48) : Nat) : Int) := by rw [wrap_i64 (by omega) (by omega)]; omega
     simp only [Z9, Z16, Wr, go_sem, hc, hlt', hw, g1, g2, w1, w2, w3, w4]
     exact Y6i (m := 0) (by omega) hI (by omega)
   · rw [if_neg h1]
     by_cases g1 : ((c.toNat : Int) < 48)
     · simp only [Z9, Z16, Wr, go_sem, hc, hlt', hw, g1]
       exact ⟨_, rfl, _, rfl, rfl, rfl⟩
     · have g2 : ((57 : Int) < (c.toNat : Int)) := by omega
       simp only [Z9, Z16, Wr, go_sem, hc, hlt', hw, g1, g2]
       exact ⟨_, rfl, _, rfl, rfl, rfl⟩
 · have hi : ¬ t.data.toList.length < t.size := by omega
   simp only [Z9, Z16, Wr, go_sem, hi]
   exact ⟨_, rfl, _, rfl, rfl, rfl⟩
def Z1m : ACode := (.sq (.sq (.rg 0 false [.o (.mv 18 (.t 0)), .o (.len 19 true (.t 18)), .o (.bin 20 .eql (.t 19) (.k (.v (.int .i64 0)))), .o (.mv 21 (.t 20)), .g 21 false (.mv 22 (.t 0)), .g 21 false (.len 23 true (.t 22)), .g 21 false (.bin 24 .gtr (.t 23) (.k (.v (.int .i64 17)))), .o (.pick 25 (.t 21) (.k (.v (.bool true))) (.t 24)), .o (.mv 26 (.t 25)), .g 26 false (.mv 27 (.t 0)), .g 26 false (.ix 28 (.t 27) (.k (.v (.int .i64 0)))), .g 26 false (.bin 29 .eql (.t 28) (.k (.v (.int .u8 48)))), .g 26 false (.mv 30 (.t 29)), .g 30 true (.mv 31 (.t 0)), .g 30 true (.len 32 true (.t 31)), .g 30 true (.bin 33 .gtr (.t 32) (.k (.v (.int .i64 1)))), .g 30 true (.mv 34 (.t 33)), .g 34 false (.mv 35 (.t 4)), .g 30 true (.pick 36 (.t 34) (.k (.v (.bool true))) (.t 35)), .g 26 false (.pick 37 (.t 30) (.t 36) (.k (.v (.bool false)))), .o (.pick 38 (.t 26) (.k (.v (.bool true))) (.t 37))]) (.ite (.t 38) (.sq (.rg 0 false [.o (.mv 2 (.k (.v (.int .i64 0)))), .o (.mv 3 (.k (.v (.bool false))))]) .rt) .sk)) (.sq (.rg 0 false [.o (.mv 5 (.k (.v (.int .i64 0))))]) (.sq (.sq (.rg 0 false [.o (.mv 6 (.k (.v (.int .i64 0))))]) (.bl 0 (.lp [0, 4, 5, 6] Z0y))) (.sq (.sq (.rg 0 false [.o (.mv 63 (.t 4))]) (.ite (.t 63) (.rg 0 false [.o (.mv 64 (.t 5)), .o (.un 65 .neg (.t 64)), .o (.mv 5 (.t 65))]) .sk)) (.sq (.rg 0 false [.o (.mv 66 (.t 5)), .o (.mv 2 (.t 66)), .o (.mv 3 (.k (.v (.bool true))))]) .rt)))))
theorem Zw4 (E : Env) (s : Nat → A) (neg : Bool) (t : ByteArray) (ht : t.size ≤ big) (s0 : s 0 = .s t) (s4 : s 4 = .q neg) : ∃ σ', exec E Z1m ⟨s, fun _ => none, 0, 0⟩ = some (.ret σ') ∧
 (match sDig neg t.data.toList with | some m => σ'.s 2 = .n (if neg then -(m : Int) else m) ∧ σ'.s 3 = .q true | none => σ'.s 2 = .n 0 ∧ σ'.s 3 = .q false) := by
 have hsz := Z57 t
 have h00 : Int.toNat 0 = 0 := rfl
 have h0i : (0 : Int) ≤ 0 := Int.le_refl 0
 unfold sDig
 by_cases h1 : t.size = 0
 · rw [if_pos (.inl (by omega))]
   have hn : t.data.toList[0]? = none := List.getElem?_eq_none (by omega)
   have g1 : ((t.size : Int) = 0) := by omega
   simp only [Z1m, go_sem, s0, s4, g1, h00, h0i, hn, ite_self, show Wt true (.ifg false .und) = some false from rfl, show Wt false (.ifg false .und) = some false from rfl]
   exact ⟨_, rfl, rfl, rfl⟩
 · obtain ⟨c, r, hl⟩ : ∃ c r, t.data.toList = c :: r := by
    cases hq : t.data.toList with
    | nil => rw [hq] at hsz; exact absurd hsz h1
    | cons c r => exact ⟨c, r, rfl⟩
   have hn : t.data.toList[0]? = some c := by rw [hl]; rfl
   have g1 : ¬ ((t.size : Int) = 0) := by omega
   by_cases h2 : 17 < t.size
   · rw [if_pos (.inr (.inl (by omega)))]
     have g2 : (17 : Int) < (t.size : Int) := by omega
     have g3 : (1 : Int) < (t.size : Int) := by omega
     simp only [Z1m, go_sem, s0, s4, g1, g2, g3, h00, h0i, hn]
     exact ⟨_, rfl, rfl, rfl⟩
   · have g2 : ¬ (17 : Int) < (t.size : Int) := by omega
     by_cases h3 : c.toNat = 48
     · have g3 : (c.toNat : Int) = 48 := by omega
       by_cases h4 : 1 < t.size
       · rw [if_pos (.inr (.inr ⟨by rw [hl]; simp; exact UInt8.toNat_inj.1 h3, .inl (by omega)⟩))]
         have g4 : (1 : Int) < (t.size : Int) := by omega
         simp only [Z1m, go_sem, s0, s4, g1, g2, g3, g4, h00, h0i, hn]
         exact ⟨_, rfl, rfl, rfl⟩
       · have g4 : ¬ (1 : Int) < (t.size : Int) := by omega
         cases neg with
         | true =>
           rw [if_pos (.inr (.inr ⟨by rw [hl]; simp; exact UInt8.toNat_inj.1 h3, .inr rfl⟩))]
           simp only [Z1m, go_sem, s0, s4, g1, g2, g3, g4, h00, h0i, hn]
           exact ⟨_, rfl, rfl, rfl⟩
         | false =>
           rw [if_neg (by intro h; rcases h with h | h | ⟨_, h | h⟩ <;> first | omega | cases h)]
           obtain ⟨out, lo, lp⟩ := Zc5 E false t (by omega)
           rw [show ((0 : Nat) : Int) = 0 from rfl] at lo
           cases hq : Lib.decFrom 0 t.data.toList with
           | some m =>
             rw [hq] at lp
             obtain ⟨σ', rfl, l4, l5⟩ := lp
             have hm : m < 1000000000000000000 := Lib.decFrom_lt18 hq (by omega)
             have hw : IntKind.i64.wrap (0 - (m : Int)) = -(m : Int) := by rw [wrap_i64 (by omega) (by omega)]; omega
             simp only [Z1m, go_sem, s0, s4, g1, g2, g3, g4, h00, h0i, hn, lo, l4, l5, hw]
             exact ⟨_, rfl, rfl, rfl⟩
           | none =>
             rw [hq] at lp
             obtain ⟨σ', rfl, l2, l3⟩ := lp
             simp only [Z1m, go_sem, s0, s4, g1, g2, g3, g4, h00, h0i, hn, lo]
             exact ⟨_, rfl, l2, l3⟩
     · have g3 : ¬ (c.toNat : Int) = 48 := by omega
       have hne : ¬ c = 48 := fun q => h3 (by rw [q]; rfl)
       rw [if_neg (by intro h; rcases h with h | h | ⟨h, _⟩ <;> first | omega | (rw [hl] at h; simp at h; exact hne h))]
       cases neg with
       | true =>
         obtain ⟨out, lo, lp⟩ := Zc5 E true t (by omega)
         rw [show ((0 : Nat) : Int) = 0 from rfl] at lo
         cases hq : Lib.decFrom 0 t.data.toList with
         | some m =>
           rw [hq] at lp
           obtain ⟨σ', rfl, l4, l5⟩ := lp
           have hm : m < 1000000000000000000 := Lib.decFrom_lt18 hq (by omega)
           have hw : IntKind.i64.wrap (0 - (m : Int)) = -(m : Int) := by rw [wrap_i64 (by omega) (by omega)]; omega
           simp only [Z1m, go_sem, s0, s4, g1, g2, g3,  h00, h0i, hn, lo, l4, l5, hw]
           exact ⟨_, rfl, rfl, rfl⟩
         | none =>
           rw [hq] at lp
           obtain ⟨σ', rfl, l2, l3⟩ := lp
           simp only [Z1m, go_sem, s0, s4, g1, g2, g3,  h00, h0i, hn, lo]
           exact ⟨_, rfl, l2, l3⟩
       | false =>
         obtain ⟨out, lo, lp⟩ := Zc5 E false t (by omega)
         rw [show ((0 : Nat) : Int) = 0 from rfl] at lo
         cases hq : Lib.decFrom 0 t.data.toList with
         | some m =>
           rw [hq] at lp
           obtain ⟨σ', rfl, l4, l5⟩ := lp
           have hm : m < 1000000000000000000 := Lib.decFrom_lt18 hq (by omega)
           have hw : IntKind.i64.wrap (0 - (m : Int)) = -(m : Int) := by rw [wrap_i64 (by omega) (by omega)]; omega
           simp only [Z1m, go_sem, s0, s4, g1, g2, g3,  h00, h0i, hn, lo, l4, l5, hw]
           exact ⟨_, rfl, rfl, rfl⟩
         | none =>
           rw [hq] at lp
           obtain ⟨σ', rfl, l2, l3⟩ := lp
           simp only [Z1m, go_sem, s0, s4, g1, g2, g3,  h00, h0i, hn, lo]
           exact ⟨_, rfl, l2, l3⟩
theorem Zxq (t : ByteArray) (c : UInt8) (r : List UInt8) (h : t.data.toList = c :: r) : (t.extract 1 t.size).data.toList = r := by
 rw [ByteArray.data_extract]
 simp [Array.toList_extract, h]
 have : t.size = t.data.toList.length := Z57 t
 rw [this, h]; simp
theorem Zcd (E : Env) (s : Nat → A) (neg : Bool) (t : ByteArray) (ht : t.size ≤ big) (s0 : s 0 = .s t) (s4 : s 4 = .q neg) : endO (exec E Z1m ⟨s, fun _ => none, 0, 0⟩) (res [.t 2, .t 3]) = some (match sDig neg t.data.toList with | some m => [.n (if neg then -(m : Int) else m), .q true] | none => [.n 0, .q false]) := by
 obtain ⟨σ', e, h⟩ := Zw4 E s neg t ht s0 s4
 rw [e]
 cases hq : sDig neg t.data.toList with
 | some m =>
   rw [hq] at h
   simp only [go_sem, h.1, h.2]
 | none =>
   rw [hq] at h
   simp only [go_sem, h.1, h.2]
theorem Zvb {D : Nat} (hD : 1 ≤ D) (t : ByteArray) (ht : t.size ≤ big) : den pr D Xk [.s t] = some (match sNum t.data.toList with | some n => [.n n, .q true] | none => [.n 0, .q false]) := by
 obtain ⟨D, rfl, hd⟩ := Z8 hD
 rw [Zhd]
 have hsz := Z57 t
 have h00 : Int.toNat 0 = 0 := rfl
 have h01 : Int.toNat 1 = 1 := rfl
 have h0i : (0 : Int) ≤ 0 := Int.le_refl 0
 have h1i : (0 : Int) ≤ 1 := by decide
 have hcode : c_spec_l10Num.code = .sq (.rg 0 false [.o (.mv 2 (.k (.v (.int .i64 0)))), .o (.mv 3 (.k (.v (.bool false))))]) (.sq (.rg 0 false [.o (.mv 7 (.t 0)), .o (.len 8 true (.t 7)), .o (.bin 9 .gtr (.t 8) (.k (.v (.int .i64 0)))), .o (.mv 10 (.t 9)), .g 10 true (.mv 11 (.t 0)), .g 10 true (.ix 12 (.t 11) (.k (.v (.int .i64 0)))), .g 10 true (.bin 13 .eql (.t 12) (.k (.v (.int .u8 45)))), .o (.pick 14 (.t 10) (.t 13) (.k (.v (.bool false)))), .o (.mv 4 (.t 14))]) (.sq (.sq (.rg 0 false [.o (.mv 15 (.t 4))]) (.ite (.t 15) (.rg 0 false [.o (.mv 16 (.t 0)), .o (.sl 17 none (.t 16) (some (.k (.v (.int .i64 1)))) none none), .o (.mv 0 (.t 17))]) .sk)) Z1m)) := rfl
 have hres : c_spec_l10Num.res = [.t 2, .t 3] := rfl
 rw [hcode, hres]
 cases hl : t.data.toList with
 | nil =>
   have hn : t.data.toList[0]? = none := by rw [hl]; rfl
   have g1 : ¬ ((0 : Int) < (t.size : Int)) := by rw [hsz, hl]; simp
   simp only [go_sem, g1, h00, h0i, hn, ite_self]
   rw [Zcd _ _ false t ht rfl rfl, hl]
   rfl
 | cons c r =>
   have hn : t.data.toList[0]? = some c := by rw [hl]; rfl
   have g1 : ((0 : Int) < (t.size : Int)) := by rw [hsz, hl]; simp
   by_cases h45 : c.toNat = 45
   · have g2 : (c.toNat : Int) = 45 := by omega
     have hc : c = 45 := UInt8.toNat_inj.1 h45
     have hle : 1 ≤ t.size := by omega
     simp only [go_sem, g1, g2, h00, h01, h0i, h1i, hn, hle, Nat.le_refl, and_self, Option.isNone_none, if_true]
     rw [Zcd _ _ true (t.extract 1 t.size) (by simp; omega) rfl rfl, Zxq t c r hl]
     subst hc
     simp only [sNum, List.head?_cons, if_true, List.tail_cons]
     cases sDig true r <;> rfl
   · have g2 : ¬ (c.toNat : Int) = 45 := by omega
     have hc : ¬ c = 45 := fun q => h45 (by rw [q]; rfl)
     simp only [go_sem, g1, g2, h00, h01, h0i, h1i, hn]
     rw [Zcd _ _ false t ht rfl rfl, hl]
     simp only [sNum, List.head?_cons, Option.some.injEq, hc, if_false]
     cases sDig false (c :: r) <;> rfl
end Go.Vm.T
namespace Go.Vm.T
variable [Pr0]
theorem Zag : ∀ l, Z3h l l = false
 | [] => rfl
 | a :: l => by
   have h : decide (a < a) = false := by simp
   have h2 : Z3h (a :: l) (a :: l) = (decide (a < a) || (a == a && Z3h l l)) := rfl
   rw [h2, h, Zag l]; simp
theorem Ziu (a : Val) : Z77 a a = false := by
 unfold Z77
 rw [Zag]
 simp
theorem Zib (a b : Val) : (decide (a.k = b.k) && (decide (a.n = b.n) && decide (a.t = b.t))) = decide (a = b) := by
 obtain ⟨k, n, t⟩ := a
 obtain ⟨k', n', t'⟩ := b
 simp only [Val.mk.injEq]
 by_cases h1 : k = k' <;> by_cases h2 : n = n' <;> by_cases h3 : t = t' <;> simp [h1, h2, h3]
def Z59 (a b : Ent) : Bool := bif !decide (a.v = b.v) then Z77 a.v b.v else decide (a.id < b.id)
theorem Zl6 {D : Nat} (hD : 2 ≤ D) (a b : Ent) : den pr D Znf [.agg a.c, .agg b.c] = some [.q (Z59 a b)] := by
 obtain ⟨D, rfl, hd⟩ := Z8 hD
 rw [Y5h]
 have h1 := Zr1 hd a.v b.v
 simp only [c_q51, go_sem, h1, Z59, Zib]
 by_cases h : a.v = b.v
 · rw [h, Ziu]; simp
 · simp [h]
theorem Zxc {D : Nat} (hD : 2 ≤ D) (a b : Ent) : den pr D Vi [.agg a.c, .agg b.c] = some [.q (Z59 a b)] := by
 obtain ⟨D, rfl, hd⟩ := Z8 hD
 rw [Zgd]
 have h1 := Zdx hd a.v b.v
 simp only [c_spec_l8Less, go_sem, h1, Z59, Zib, Zfv]
theorem Zq {α β : Type} {f : α → β} {l : List α} {i : Nat} {x : α} (h : l[i]? = some x) : (l.map f)[i]? = some (f x) := by rw [List.getElem?_map, h]; rfl
structure Small (es : List Ent) : Prop where
 len : es.length ≤ big
 txt : ∀ e ∈ es, e.v.t.size ≤ big
end Go.Vm.T
namespace Go.Vm.T
variable [Pr0]
def cap : Int := 1048576
def dec (l : Int) (s : Nat) : Int := if l - s < 0 then -1 else l - s
theorem Ztk {D : Nat} (hD : 1 ≤ D) (v : Val) (l : Int) (h0 : 0 ≤ l) (h1 : l ≤ cap) (hv : v.t.size ≤ maxLen) : den pr D Wz [.agg v.c, .n l] = some [.n (dec l v.t.size)] := by
 obtain ⟨D, rfl, hd⟩ := Z8 hD
 rw [Zk7]
 have hw : IntKind.i64.wrap (l - (v.t.size : Int)) = l - v.t.size := wrap_i64 (by unfold maxLen at hv; omega) (by unfold cap at h1; omega)
 simp only [c_laws_szVal, go_sem, hw, dec]
 by_cases h : l - (v.t.size : Int) < 0
 · simp only [h, go_sem]
 · simp only [h, go_sem]
theorem Zms {l : Int} {s : Nat} (h : dec l s < 0) : dec l s = -1 := by unfold dec at *; split at h <;> simp_all
theorem Zbc {l : Int} {s : Nat} (h : ¬ dec l s < 0) : dec l s = l - s ∧ 0 ≤ l - s := by
 unfold dec at *
 by_cases hn : l - (s : Int) < 0
 · simp [hn] at h
 · rw [if_neg hn]; exact ⟨rfl, by omega⟩
def Z7q {α : Type} (w : α → Nat) : Int → List α → Option Int
 | l, [] => some l
 | l, e :: es => if dec l (w e) < 0 then none else Z7q w (dec l (w e)) es
def szGo {α : Type} (w : α → Nat) : Nat → Int → α → Int ⊕ Unit := fun _ l e => if dec l (w e) < 0 then .inr () else .inl (dec l (w e))
theorem Z62 {α : Type} (w : α → Nat) : ∀ (es : List α) (i : Nat) (l : Int), runI (szGo w) i l es = match Z7q w l es with | some m => .inl m | none => .inr ()
 | [], i, l => rfl
 | e :: es, i, l => by
   unfold runI Z7q szGo
   by_cases h : dec l (w e) < 0
   · simp [h]
   · simp only [h, if_false]; exact Z62 w es (i + 1) _
theorem Zod {α : Type} (w : α → Nat) : ∀ (es : List α) (l m : Int), Z7q w l es = some m → m ≤ l ∧ (0 ≤ l → 0 ≤ m) ∧ ∀ e ∈ es, (w e : Int) ≤ l
 | [], l, m, h => by cases h; exact ⟨Int.le_refl _, id, fun e he => nomatch he⟩
 | e :: es, l, m, h => by
   unfold Z7q at h
   by_cases hn : dec l (w e) < 0
   · simp [hn] at h
   · simp only [hn, if_false] at h
     obtain ⟨h1, h2, h3⟩ := Zod w es _ m h
     obtain ⟨h4, h5⟩ := Zbc hn
     refine ⟨by omega, fun _ => h2 (by omega), fun x hx => ?_⟩
     rcases List.mem_cons.1 hx with rfl | hx
     · omega
     · have := h3 x hx; omega
def Wm {α : Type} (w : α → Nat) (l : Int) (es : List α) : Int := if l - es.length < 0 then -1 else (Z7q w (l - es.length) es).getD (-1)
theorem Z3q {α : Type} {w : α → Nat} {l : Int} {es : List α} (h0 : 0 ≤ l) (h : ¬ Wm w l es < 0) : Wm w l es ≤ l ∧ (es.length : Int) ≤ l ∧ ∀ e ∈ es, (w e : Int) ≤ l := by
 unfold Wm at *
 by_cases hn : l - (es.length : Int) < 0
 · simp [hn] at h
 · simp only [hn, if_false] at h ⊢
   cases hq : Z7q w (l - es.length) es with
   | none => rw [hq] at h; simp at h
   | some m =>
     obtain ⟨h1, h2, h3⟩ := Zod w es _ m hq
     simp only [Option.getD_some]
     exact ⟨by omega, by omega, fun e he => by have := h3 e he; omega⟩
end Go.Vm.T
namespace Go.Vm.T
variable [Pr0]
def frow (z : List A) (cs : List (List A)) (i : Nat) : List (List A) := cs.take i ++ List.replicate (cs.length - i) z
theorem Z8q (z : List A) (cs : List (List A)) : frow z cs 0 = List.replicate cs.length z := by simp [frow]
theorem Zb0 (z : List A) (cs : List (List A)) : frow z cs cs.length = cs := by simp [frow]
theorem Zhj {z : List A} {cs : List (List A)} {i : Nat} (h : i < cs.length) : (frow z cs i)[i]? = some z := by
 unfold frow
 rw [List.getElem?_append_right (by simp; omega)]
 simp [List.getElem?_replicate]; omega
theorem Zau {z : List A} {cs : List (List A)} {i : Nat} {c : List A} (h : cs[i]? = some c) : (frow z cs i).set i c = frow z cs (i + 1) := by
 have hlt := (List.getElem?_eq_some_iff.1 h).1
 unfold frow
 rw [List.set_append_right _ _ (by simp; omega)]
 have h1 : i - (cs.take i).length = 0 := by simp; omega
 rw [h1, List.take_add_one, h]
 obtain ⟨k, hk⟩ : ∃ k, cs.length - i = k + 1 := ⟨cs.length - i - 1, by omega⟩
 have hk2 : cs.length - (i + 1) = k := by omega
 rw [hk, hk2, List.replicate_succ]
 simp
theorem Z4i {z : List A} {cs : List (List A)} {i : Nat} (h : i ≤ cs.length) : (frow z cs i).length = cs.length := by simp [frow]; omega
theorem Zrv {D : Nat} (hD : 1 ≤ D) (v : Val) : den pr D Wx [.agg v.c] = some [.agg v.c] := by
 obtain ⟨D, rfl, hd⟩ := Z8 hD
 rw [Zku]
 simp only [c_laws_toVal, go_sem]
theorem Wo {α : Type} : ∀ (es : List α) (i : Nat), runI (fun _ (_ : Unit) _ => (.inl () : Unit ⊕ Unit)) i () es = .inl ()
 | [], _ => rfl
 | e :: es, i => by unfold runI; exact Wo es (i + 1)
theorem Zlq {D : Nat} (hD : 1 ≤ D) (v : Val) : den pr D W4 [.agg v.c, .agg v.c] = some [.q true] := by
 obtain ⟨D, rfl, hd⟩ := Z8 hD
 rw [Zl8]
 simp only [c_laws_eqVal, go_sem]
theorem Zrq {D : Nat} (hD : 2 ≤ D) (e : Ent) : den pr D Wj [.agg e.c, .agg e.c] = some [.q true] := by
 obtain ⟨D, rfl, hd⟩ := Z8 hD
 have h1 := Zlq hd e.v
 rw [Zdl]
 simp only [c_laws_eqEntry, go_sem, h1]
theorem Znn {D : Nat} (hD : 2 ≤ D) (es : List Ent) (hl : es.length ≤ big) :
 Xr (Z9 (exec ⟨den pr D, dcl pr D, dfl pr D⟩ Zu2) [0, 1, 5] rounds ⟨upd (upd (upd (fun _ => .bad) 0 (.lit Z2 (es.map Ent.c))) 1 (.lit Z2 (es.map Ent.c))) 5 (.n (0 : Nat)), fun _ => none, 0, 0⟩) Unit Unit (runI (fun _ _ _ => .inl ()) 0 () es)
  (fun m o => ∃ σ', o = .exit 0 σ') (fun _ o => False) := by
 refine Zh es (fun i (_ : Unit) => ⟨upd (upd (upd (fun _ => .bad) 0 (.lit Z2 (es.map Ent.c))) 1 (.lit Z2 (es.map Ent.c))) 5 (.n i), fun _ => none, 0, 0⟩) _ (fun _ _ => True) _ _ () trivial hl (fun i m e K hc hlt hi => ?_) (fun m K _ => ?_)
 · have hr := Zq (f := Ent.c) hc
   have hw := Zf (n := i) (by unfold big at hl; omega)
   have hm := Zrq hD e
   simp only [Z9, Zyc, Zo0, go_sem, List.length_map, hr, hlt, hw, hm]
 · have hi : ¬ es.length < es.length := by omega
   simp only [Z9, Zyc, Zo0, go_sem, List.length_map, hi]
   exact ⟨_, rfl, _, rfl⟩
theorem Z9s {D : Nat} (hD : 3 ≤ D) (es : List Ent) (hl : es.length ≤ big) : den pr D f_q8 [.lit Z2 (es.map Ent.c), .lit Z2 (es.map Ent.c)] = some [.q true] := by
 obtain ⟨D, rfl, hd⟩ := Z8 hD
 rw [u_q8]
 obtain ⟨out, lo, lp⟩ := Znn hd es hl
 rw [Wo] at lp
 obtain ⟨σ', rfl⟩ := lp
 rw [show ((0 : Nat) : Int) = 0 from rfl] at lo
 simp only [c_q8, go_sem, List.length_map, lo]
end Go.Vm.T
namespace Go.Vm.T
variable [Pr0]
theorem Z2k {α : Type} (f : α → List A) (h : ∀ x, Zi4 (f x) = false) : ∀ l : List α, W9 (l.map f) = false
 | [] => rfl
 | x :: l => by
   have : W9 ((x :: l).map f) = (Zi4 (f x) || W9 (l.map f)) := rfl
   rw [this, h, Z2k f h l]
   rfl
theorem Vq (es : List Ent) : W9 (es.map Ent.c) = false := Z2k _ (fun _ => rfl) es
theorem Zhl {α β : Type} (f : α → β) (l : List α) : (l.map f).take l.length = l.map f := List.take_of_length_le (by simp)
end Go.Vm.T
namespace Go.Vm.T
variable [Pr0]
end Go.Vm.T
end
