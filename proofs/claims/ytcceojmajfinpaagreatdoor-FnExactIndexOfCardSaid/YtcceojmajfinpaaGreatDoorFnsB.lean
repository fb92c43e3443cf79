/-
  What the functions under the law compute, of marks, columns, conditions
-/
import Derived.Test.YtcceojmajfinpaaGreatDoorFnsA
section
set_option linter.unusedVariables false
set_option linter.unusedSectionVars false
set_option linter.unusedSimpArgs false
namespace Go.Vm.T
variable [Pr0]
theorem Z4l {n b : Nat} (hb : b < n) (h : Hp) (x : Option Blk) : low n (upd h b x) = upd (low n h) b x := by
 funext i
 simp only [low, Z7]
 by_cases h1 : i = b
 · subst h1; simp [hb]
 · simp [h1]
theorem Zb9 (n : Nat) (h : Hp) : low n (low n h) = low n h := by
 funext i
 simp only [low]
 split <;> simp_all
theorem Z50 {n b : Nat} (hb : b < n) (h : Hp) : low n h b = h b := by simp [low, hb]
theorem V4 {α : Type} (f : Nat → α) (k : Nat) (x y : α) : upd (upd f k x) k y = upd f k y := by
 funext i
 simp only [Z7]
 split <;> rfl
def mrow (f : Int → List A) (w : Nat) (k : Int) (cs : List (List A)) (i : Nat) : List (List A) := (List.range i).map (fun j => f (k + ((w * j : Nat) : Int))) ++ cs.drop i
theorem Z8y (f : Int → List A) (w : Nat) (k : Int) (cs : List (List A)) : mrow f w k cs 0 = cs := by simp [mrow]
theorem Zfw {f : Int → List A} {w : Nat} {k : Int} {cs : List (List A)} {i : Nat} {c : List A} (h : cs[i]? = some c) : (mrow f w k cs i)[i]? = some c := by
 unfold mrow
 rw [List.getElem?_append_right (by simp)]
 simp [h]
theorem Zay {f : Int → List A} {w : Nat} {k : Int} {cs : List (List A)} {i : Nat} {c : List A} (h : cs[i]? = some c) : (mrow f w k cs i).set i (f (k + ((w * i : Nat) : Int))) = mrow f w k cs (i + 1) := by
 have hlt := (List.getElem?_eq_some_iff.1 h).1
 unfold mrow
 rw [List.set_append_right _ _ (by simp)]
 simp only [List.length_map, List.length_range, Nat.sub_self]
 rw [List.drop_eq_getElem_cons hlt, List.set_cons_zero, List.range_succ, List.map_append, List.append_assoc]
 rfl
theorem Z48 {f : Int → List A} {w : Nat} {k : Int} {cs : List (List A)} {i : Nat} (h : i ≤ cs.length) : (mrow f w k cs i).length = cs.length := by simp [mrow]; omega
def V6 (f : Int → List A) (w : Nat) (k : Int) (n : Nat) : List (List A) := (List.range n).map fun j => f (k + ((w * j : Nat) : Int))
theorem Zax (f : Int → List A) (w : Nat) (k : Int) (cs : List (List A)) : mrow f w k cs cs.length = V6 f w k cs.length := by simp [mrow, V6]
theorem Z56 (f : Int → List A) (w : Nat) (k : Int) (n : Nat) : (V6 f w k n).length = n := by simp [V6]
theorem Zvm {f : Int → List A} {w : Nat} {k : Int} {n i : Nat} (h : i < n) : (V6 f w k n)[i]? = some (f (k + ((w * i : Nat) : Int))) := by
 unfold V6
 rw [List.getElem?_map, List.getElem?_range h]
 rfl
end Go.Vm.T
namespace Go.Vm.T
variable [Pr0]
def dig (k : Int) : ByteArray := ⟨[UInt8.ofNat (IntKind.u8.wrap (IntKind.i64.wrap (48 + k.tmod 10))).toNat].toArray⟩
def q10 (k : Int) : Int := IntKind.i64.wrap (k.tdiv 10)
def digs : Nat → Int → ByteArray → ByteArray
 | 0, _, s => s
 | n + 1, k, s => if 0 < k then digs n (q10 k) (dig k ++ s) else s
theorem Zfe (k : Int) (s : ByteArray) : (dig k ++ s).size = s.size + 1 := by
 rw [ByteArray.size_append, Nat.add_comm]
 rfl
theorem Zla : ∀ (n : Nat) (k : Int) (s : ByteArray), (digs n k s).size ≤ s.size + n
 | 0, _, s => Nat.le_refl _
 | n + 1, k, s => by
   unfold digs
   split
   · have := Zla n (q10 k) (dig k ++ s)
     rw [Zfe] at this
     omega
   · omega
theorem Y2w {k : Int} (h0 : 0 ≤ k) (h1 : k ≤ 2 ^ 62) : q10 k = k / 10 := by
 unfold q10
 rw [Int.tdiv_eq_ediv_of_nonneg h0, wrap_i64 (by omega) (by omega)]
theorem Zck {D : Nat} : ∀ (n : Nat) (k : Int) (s : ByteArray) (K : Nat), 0 ≤ k → k < 10 ^ n → k ≤ 2 ^ 62 → s.size + n ≤ 2 ^ 20 → n < K →
 ∃ σ', Z9 (exec ⟨den pr D, dcl pr D, dfl pr D⟩ Zmi) [0, 3] K ⟨upd (upd (fun _ => .bad) 0 (.n k)) 3 (.s s), fun _ => none, 0, 0⟩ = some (.exit 0 σ') ∧ σ'.s 3 = .s (digs n k s)
 | n, k, s, K, h0, h1, h2, h3, h4 => by
   obtain ⟨K, rfl⟩ : ∃ j, K = j + 1 := ⟨K - 1, by omega⟩
   by_cases hk : 0 < k
   · cases n with
     | zero => simp at h1; omega
     | succ n =>
       have hq := Y2w h0 h2
       have hsz : (dig k).size + s.size ≤ 2 ^ 62 := by have := Zfe k s; rw [ByteArray.size_append] at this; omega
       obtain ⟨σ', e1, e2⟩ := Zck (D := D) n (q10 k) (dig k ++ s) K (by rw [hq]; omega) (by rw [hq]; rw [Int.pow_succ] at h1; omega) (by rw [hq]; omega) (by rw [Zfe]; omega) (by omega)
       refine ⟨σ', ?_, ?_⟩
       · rw [← e1]
         have hd : (10 : Int) = 0 ↔ False := by decide
         have hdg : (⟨[UInt8.ofNat (IntKind.u8.wrap (IntKind.i64.wrap (48 + k.tmod 10))).toNat].toArray⟩ : ByteArray) = dig k := rfl
         have hqq : IntKind.i64.wrap (k.tdiv 10) = q10 k := rfl
         rw [Z9]
         simp only [Zrs, Zff, go_sem, hk, hd, Z2s, hdg, hqq, hsz]
       · rw [e2]
         show _ = A.s (if 0 < k then digs n (q10 k) (dig k ++ s) else s)
         rw [if_pos hk]
   · have hx : digs n k s = s := by
      cases n with
      | zero => rfl
      | succ n => show (if 0 < k then digs n (q10 k) (dig k ++ s) else s) = s; rw [if_neg hk]
     rw [hx]
     simp only [Z9, Zrs, Zff, go_sem, hk]
     exact ⟨_, rfl, rfl⟩
def Zbj (k : Int) : ByteArray := if k ≤ 0 then ⟨#[109, 48]⟩ else ⟨#[109]⟩ ++ digs 13 k ⟨#[]⟩
theorem Z08 {D : Nat} (hD : 1 ≤ D) (k : Int) (hk : k ≤ 2 ^ 42) : den pr D Z70 [.n k] = some [.s (Zbj k)] := by
 obtain ⟨D, rfl, hd⟩ := Z8 hD
 rw [Y4l]
 by_cases h : k ≤ 0
 · simp only [c_q39, go_sem, h, Zbj]
 · obtain ⟨σ', e1, e2⟩ := Zck (D := D) 13 k ⟨#[]⟩ rounds (by omega) (by omega) (by omega) (by decide) (by decide)
   have hs := Zla 13 k ⟨#[]⟩
   have hs2 : (⟨#[109]⟩ : ByteArray).size + (digs 13 k ⟨#[]⟩).size ≤ 2 ^ 62 := by
    have h1 : (⟨#[109]⟩ : ByteArray).size = 1 := rfl
    have h2 : (⟨#[]⟩ : ByteArray).size = 0 := rfl
    omega
   simp only [c_q39, go_sem, h, Zbj, e1, e2, hs2]
abbrev entC (x : Int) : List A := [.n x, .n (x + 1), .s (Zbj (x + 2)), .n (x + 3)]
theorem Zl7 (w i : Nat) : ((w * (i + 1) : Nat) : Int) = ((w * i : Nat) : Int) + w := by rw [Nat.mul_succ]; omega
theorem set_set {α : Type} (l : List α) (i : Nat) (a b : α) : (l.set i a).set i b = l.set i b := List.set_set ..
theorem Zh2 {D : Nat} (hD : 1 ≤ D) (cs : List Ent) (k : Int) (hk : 0 ≤ k ∧ k ≤ 2 ^ 40) (hl : cs.length ≤ big) (h : Hp) (n b c : Nat) (ex : Bool) (hb : b < n) :
 Xr (Z9 (exec ⟨den pr D, dcl pr D, dfl pr D⟩ Zsr) [0, 1, 5] rounds ⟨upd (upd (upd (fun _ => .bad) 0 (.ref Z2 b 0 cs.length c ex)) 1 (.n (k + ((4 * 0 : Nat) : Int)))) 5 (.n (0 : Nat)), upd (low n h) b (some ⟨Z2, mrow entC 4 k (cs.map Ent.c) 0, true, false⟩), n, n⟩) Unit Unit (runI (fun _ _ _ => .inl ()) 0 () cs)
  (fun m o => ∃ σ', o = .exit 0 σ' ∧ σ'.s 1 = .n (k + ((4 * cs.length : Nat) : Int)) ∧ σ'.h = upd (low n h) b (some ⟨Z2, V6 entC 4 k cs.length, true, false⟩) ∧ σ'.n = n ∧ σ'.base = n) (fun _ o => False) := by
 refine Zh cs (fun i (_ : Unit) => ⟨upd (upd (upd (fun _ => .bad) 0 (.ref Z2 b 0 cs.length c ex)) 1 (.n (k + ((4 * i : Nat) : Int)))) 5 (.n i), upd (low n h) b (some ⟨Z2, mrow entC 4 k (cs.map Ent.c) i, true, false⟩), n, n⟩) _ (fun _ _ => True) _ _ () trivial hl (fun i m e K hc hlt hi => ?_) (fun m K _ => ?_)
 · have hr := Zq (f := Ent.c) hc
   have hw := Zf (n := i) (by unfold big at hl; omega)
   have hx : ((4 * (i + 1) : Nat) : Int) = ((4 * i : Nat) : Int) + 4 := Zl7 4 i
   have hi4 : ((4 * i : Nat) : Int) ≤ 2 ^ 39 := by unfold big at hl; omega
   have hp : (0 : Int) ≤ ((4 * i : Nat) : Int) := by omega
   have hf := Zfw (f := entC) (w := 4) (k := k) hr
   have hs := Zay (f := entC) (w := 4) (k := k) hr
   have hlen : i < (mrow entC 4 k (cs.map Ent.c) i).length := by rw [Z48 (by simp; omega)]; simpa using hlt
   rw [hx]
   generalize ((4 * i : Nat) : Int) = z at *
   have hw2 : IntKind.i64.wrap (k + z + 1) = k + z + 1 := wrap_i64 (by omega) (by omega)
   have hw3 : IntKind.i64.wrap (k + z + 1 + 1) = k + z + 2 := by rw [wrap_i64 (by omega) (by omega)]; omega
   have hw4 : IntKind.i64.wrap (k + z + 2 + 1) = k + z + 3 := by rw [wrap_i64 (by omega) (by omega)]; omega
   have hw5 : IntKind.i64.wrap (k + z + 3 + 1) = k + (z + 4) := by rw [wrap_i64 (by omega) (by omega)]; omega
   have hm := Z08 hD (k + z + 2) (by omega)
   have hnb : ¬ n ≤ b := by omega
   have hset : ∀ r, ((mrow entC 4 k (cs.map Ent.c) i).set i r)[i]? = some r := fun r => List.getElem?_set_self hlen
   simp only [Z9, Zy0, Zov, go_sem, List.length_map, hr, hlt, hw, hw2, hw3, hw4, hw5, hf, hs, hb, hnb, hm, hset, set_set, Z4l hb, Zb9, V4]
 · have hi : ¬ cs.length < cs.length := by omega
   have ha := Zax entC 4 k (cs.map Ent.c)
   rw [List.length_map] at ha
   simp only [Z9, Zy0, Zov, go_sem, List.length_map, hi, ha]
   exact ⟨_, rfl, _, rfl, rfl, rfl, rfl, rfl⟩
theorem Zj1 {D : Nat} (hD : 2 ≤ D) (cs : List Ent) (k : Int) (hk : 0 ≤ k ∧ k ≤ 2 ^ 40) (hl : cs.length ≤ big) (h : Hp) (n b c : Nat) (ex : Bool) (hb : b < n) (hh : h b = some ⟨Z2, cs.map Ent.c, true, false⟩) :
 dcl pr D f_q9 [.ref Z2 b 0 cs.length c ex, .n k] h n = some ([.n (k + ((4 * cs.length : Nat) : Int))], upd (low n h) b (some ⟨Z2, V6 entC 4 k cs.length, true, false⟩), n) := by
 obtain ⟨D, rfl, hd⟩ := Z8 hD
 rw [v_q9]
 obtain ⟨out, lo, lp⟩ := Zh2 (D := D) hd cs k hk hl h n b c ex hb
 rw [Wo] at lp
 obtain ⟨σ', rfl, l2, l3, l4, l5⟩ := lp
 have hnb : ¬ n ≤ b := by omega
 have hu : upd (low n h) b (some ⟨Z2, cs.map Ent.c, true, false⟩) = low n h := by
  funext i
  simp only [Z7]
  split
  · rename_i e; subst e; rw [Z50 hb, hh]
  · rfl
 rw [show k + ((4 * 0 : Nat) : Int) = k by simp, show ((0 : Nat) : Int) = 0 from rfl, Z8y, hu] at lo
 simp only [c_q9, go_sem, hb, hnb, hh, lo, l2, l3, l4, l5]
theorem Zho {D : Nat} (hD : 1 ≤ D) (m : Nat) (hl : m ≤ big) :
 Xr (Z9 (exec ⟨den pr D, dcl pr D, dfl pr D⟩ Zm4) [0, 1, 5] rounds ⟨upd (upd (upd (fun _ => .bad) 0 (.lit Z2 (V6 entC 4 1 m))) 1 (.n (1 + ((4 * 0 : Nat) : Int)))) 5 (.n (0 : Nat)), fun _ => none, 0, 0⟩) Unit Unit (runI (fun _ _ _ => .inl ()) 0 () (List.range m))
  (fun _ o => ∃ σ', o = .exit 0 σ' ∧ σ'.s 1 = .n (1 + ((4 * m : Nat) : Int))) (fun _ o => False) := by
 have hm := Z56 entC 4 1 m
 have hrl : (List.range m).length = m := List.length_range
 refine Zh (List.range m) (fun i (_ : Unit) => ⟨upd (upd (upd (fun _ => .bad) 0 (.lit Z2 (V6 entC 4 1 m))) 1 (.n (1 + ((4 * i : Nat) : Int)))) 5 (.n i), fun _ => none, 0, 0⟩) _ (fun _ _ => True) _ _ () trivial (by omega) (fun i _ e K hc hlt hi => ?_) (fun _ K _ => ?_)
 · have hlt' : i < m := by omega
   have hr := Zvm (f := entC) (w := 4) (k := 1) hlt'
   have hw := Zf (n := i) (by unfold big at hl; omega)
   have hx : ((4 * (i + 1) : Nat) : Int) = ((4 * i : Nat) : Int) + 4 := Zl7 4 i
   have hi4 : ((4 * i : Nat) : Int) ≤ 2 ^ 39 := by unfold big at hl; omega
   have hp : (0 : Int) ≤ ((4 * i : Nat) : Int) := by omega
   rw [hx]
   generalize ((4 * i : Nat) : Int) = z at *
   have hw2 : IntKind.i64.wrap (1 + z + 1) = 1 + z + 1 := wrap_i64 (by omega) (by omega)
   have hw3 : IntKind.i64.wrap (1 + z + 1 + 1) = 1 + z + 2 := by rw [wrap_i64 (by omega) (by omega)]; omega
   have hw4 : IntKind.i64.wrap (1 + z + 2 + 1) = 1 + z + 3 := by rw [wrap_i64 (by omega) (by omega)]; omega
   have hw5 : IntKind.i64.wrap (1 + z + 3 + 1) = 1 + (z + 4) := by rw [wrap_i64 (by omega) (by omega)]; omega
   have hmt := Z08 hD (1 + z + 2) (by omega)
   simp only [Z9, Zuh, Zhg, go_sem, hm, hlt', hr, hw, hw2, hw3, hw4, hw5, hmt]
 · have hi : ¬ m < m := by omega
   rw [hrl]
   simp only [Z9, Zuh, Zhg, go_sem, hm, hi]
   exact ⟨_, rfl, _, rfl, rfl⟩
theorem Zad {D : Nat} (hD : 2 ≤ D) (m : Nat) (hl : m ≤ big) : den pr D Zkt [.lit Z2 (V6 entC 4 1 m), .n 1] = some [.n (1 + ((4 * m : Nat) : Int))] := by
 obtain ⟨D, rfl, hd⟩ := Z8 hD
 rw [Y4n]
 obtain ⟨out, lo, lp⟩ := Zho (D := D) hd m hl
 rw [Wo] at lp
 obtain ⟨σ', rfl, l2⟩ := lp
 rw [show (1 : Int) + ((4 * 0 : Nat) : Int) = 1 from rfl, show ((0 : Nat) : Int) = 0 from rfl] at lo
 simp only [c_q10, go_sem, lo, l2]
end Go.Vm.T
end
