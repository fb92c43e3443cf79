/-
  What the functions under the law compute, of shapes, changes and rows
-/
import Derived.Test.YtcceojmajfinpaaGreatDoorFnsA
section
set_option linter.unusedVariables false
set_option linter.unusedSimpArgs false
set_option linter.unusedSectionVars false
namespace Go.Vm.T
theorem Zed (m : Nat) (h : m <= 999) : (Lib.decDigits m).length <= 3 := by
 rw [Lib.decDigits_length]
 by_cases h1 : m < 10
 . rw [Lib.nDigits_small h1]; omega
 . rw [Lib.nDigits_big h1]
   by_cases h2 : m / 10 < 10
   . rw [Lib.nDigits_small h2]; omega
   . rw [Lib.nDigits_big h2, Lib.nDigits_small (by omega)]; omega
variable [Pr1]
theorem Zcc {a b : ByteArray} (h : a.data = b.data) : a = b := by cases a; cases b; simp at h; rw [h]
def Zxz (n : Nat) : ByteArray := ⟨[UInt8.ofNat (48 + n)].toArray⟩
theorem Yef (n : Nat) (h : 9 < n) (s : ByteArray) : (⟨(Lib.decDigits n).toArray⟩ : ByteArray) ++ s = ⟨(Lib.decDigits (n / 10)).toArray⟩ ++ (Zxz (n % 10) ++ s) := by
 rw [Lib.decDigits, dif_neg (by omega)]
 apply Zcc
 simp [ByteArray.data_append, Zxz]
theorem Yd0 (n : Nat) (h : n <= 9) (s : ByteArray) : (⟨(Lib.decDigits n).toArray⟩ : ByteArray) ++ s = Zxz n ++ s := by
 rw [Lib.decDigits, dif_pos (by omega)]
 rfl
theorem Zxx {x : Int} {n : Nat} (hn : n <= 9) (h : x = n) : (⟨[UInt8.ofNat (IntKind.u8.wrap (IntKind.i64.wrap (48 + x))).toNat].toArray⟩ : ByteArray) = Zxz n := by
 subst h
 have : IntKind.u8.wrap (IntKind.i64.wrap (48 + (n : Int))) = ((48 + n : Nat) : Int) := by
  rw [wrap_i64 (by omega) (by omega), IntWalk.u8_in _ ⟨by omega, by omega⟩]; omega
 rw [this]
 rfl
theorem Zn4 (E : Env) : ∀ (m n : Nat) (s : ByteArray) (K : Nat), n < 10 ^ (m + 1) -> n <= 999 -> s.size + m <= 2 ^ 20 -> m < K ->
 ∃ U' q s', Zd (Zj E Z5a) [0, 3] K ⟨upd (upd (fun _ => .bad) 0 (.n (n : Int))) 3 (.s s), fun _ => none, 0, 0⟩ = some (.exit 0 U') /\ U'.s 0 = .n (q : Nat) /\ U'.s 3 = .s s' /\ U'.n = 0 /\ U'.h = (fun _ => none) /\ U'.base = 0 /\ q <= 9 /\ s'.size <= s.size + m /\ Zxz q ++ s' = ⟨(Lib.decDigits n).toArray⟩ ++ s
 | m, n, s, K, h1, h2, h3, h4 => by
   obtain ⟨K, rfl⟩ : ∃ j, K = j + 1 := ⟨K - 1, by omega⟩
   by_cases hk : 9 < n
   . have j1 : (9 : Int) < (n : Int) := by omega
     cases m with
     | zero => simp at h1; omega
     | succ m =>
       have hq : IntKind.i64.wrap ((n : Int).tdiv 10) = ((n / 10 : Nat) : Int) := by
        rw [Int.tdiv_eq_ediv_of_nonneg (by omega), wrap_i64 (by omega) (by omega)]; omega
       have j2 : (⟨[UInt8.ofNat (IntKind.u8.wrap (IntKind.i64.wrap (48 + (n : Int).tmod 10))).toNat].toArray⟩ : ByteArray) = Zxz (n % 10) :=
        Zxx (by omega) (by rw [Int.tmod_eq_emod_of_nonneg (by omega)]; omega)
       have j0 : (Zxz (n % 10) ++ s).size = s.size + 1 := by rw [ByteArray.size_append, Nat.add_comm]; rfl
       have j3 : (Zxz (n % 10)).size + s.size <= 2 ^ 62 := by rw [ByteArray.size_append] at j0; omega
       obtain ⟨U', q, s', e1, e2, e3, e4, e5, e6, e7, e8, e9⟩ := Zn4 E m (n / 10) (Zxz (n % 10) ++ s) K (by rw [Nat.pow_succ] at h1; omega) (by omega) (by rw [j0]; omega) (by omega)
       refine ⟨U', q, s', ?_, e2, e3, e4, e5, e6, e7, by rw [j0] at e8; omega, by rw [Yef n hk, e9]⟩
       rw [<- e1]
       have hd : (10 : Int) = 0 ↔ False := by decide
       rw [Zd]
       simp only [Z91, Z22, go_sem, j1, hd, Z6b, j2, hq, j3]
   . have j1 : ¬ (9 : Int) < (n : Int) := by omega
     simp only [Zd, Z91, Z22, go_sem, j1]
     exact ⟨_, n, s, rfl, rfl, rfl, rfl, rfl, rfl, by omega, by omega, (Yd0 n (by omega) s).symm⟩
theorem Y5x (s : ByteArray) : s ++ (⟨#[]⟩ : ByteArray) = s := Zcc (by simp [ByteArray.data_append])
theorem Zlg {D : Nat} (hD : 1 <= D) (n : Nat) (hn : n <= 999) : den pr D Z0e [.n (n : Int)] = some [.s (Z9a n)] := by
 obtain ⟨D, rfl, hd⟩ := Zc hD
 rw [Zb7]
 have g0 : ¬ ((n : Int) < -9223372036854775807) := by omega
 have g1 : ¬ ((n : Int) < 0) := by omega
 obtain ⟨U', q, s', e1, e2, e3, e4, e5, e6, e7, e8, e9⟩ := Zn4 (aH D) 2 n ⟨#[]⟩ rounds (by omega) hn (by decide) (by unfold rounds; omega)
 have j0 := Zxx e7 rfl
 have hs : s'.size <= 2 := e8
 have hz : (Zxz q).size + s'.size <= 2 ^ 62 := by have : (Zxz q).size = 1 := rfl; omega
 simp only [Z4q, go_sem, g0, g1, e1, e2, e3, e4, e5, e6, Z6b, j0, hz]
 rw [e9, Y5x]
 unfold Z9a Lib.itoa
 rw [if_neg (by omega)]
 rfl
theorem Zzt {D : Nat} (hD : 2 <= D) (n : Int) (h1 : -999 <= n) (h2 : n <= 999) : den pr D Z0e [.n n] = some [.s (Z9a n)] := by
 by_cases h : n < 0
 . obtain ⟨D, rfl, hd⟩ := Zc (show 1 + 1 <= D from hD)
   obtain ⟨m, rfl⟩ : ∃ m : Nat, n = -(m : Int) := ⟨n.natAbs, by omega⟩
   have g0 : ¬ (-(m : Int) < -9223372036854775807) := by omega
   have hw : IntKind.i64.wrap (0 - (-(m : Int))) = (m : Int) := by rw [wrap_i64 (by omega) (by omega)]; omega
   have j0 := Zlg hd m (by omega)
   have hz : (⟨#[45]⟩ : ByteArray).size + (Z9a m).size <= 2 ^ 62 := by
    have h3 : (Z9a m).size = (Lib.decDigits m).length := by
     unfold Z9a Lib.itoa
     rw [if_neg (by omega)]
     rfl
    have := Zed m (by omega)
    have h4 : (⟨#[45]⟩ : ByteArray).size = 1 := rfl
    omega
   rw [Zb7]
   simp only [Z4q, go_sem, g0, h, hw, j0, hz]
   unfold Z9a Lib.itoa
   rw [if_neg (by omega), if_pos h]
   congr 4
   apply Zcc
   simp [ByteArray.data_append]
 . obtain ⟨m, rfl⟩ : ∃ m : Nat, n = (m : Int) := ⟨n.toNat, by omega⟩
   exact Zlg (by omega) m (by omega)
end Go.Vm.T
namespace Go.Vm.T
open Go.Lib
theorem Zjc (b : UInt8) : ∀ (l : List UInt8) (a : Nat), decFrom a (l ++ [b]) = match decFrom a l with | some n => (match digitVal b with | some d => some (n * 10 + d) | none => none) | none => none
 | [], a => by
   simp only [dH, decFrom]
   cases digitVal b <;> rfl
 | c :: l, a => by
   simp only [gT, decFrom]
   cases digitVal c with
   | none => rfl
   | some d => exact Zjc b l _
theorem Zxh {b : UInt8} {d : Nat} (h : digitVal b = some d) : d <= 9 /\ decDigits d = [b] := by
 obtain ⟨h1, h2, h3⟩ := digitVal_eq h
 refine ⟨by omega, ?_⟩
 rw [decDigits_one (by omega)]
 congr 1
 apply UInt8.toNat_inj.1
 rw [UInt8.toNat_ofNat']
 omega
theorem canon : ∀ (k : Nat) (l : List UInt8) (m : Nat), l.length = k + 1 -> decFrom 0 l = some m -> (l.head? = some 48 -> k = 0) -> decDigits m = l
 | 0, l, m, hl, h, _ => by
   match l, hl with
   | [b], _ =>
     simp only [decFrom] at h
     cases hd : digitVal b with
     | none => rw [hd] at h; cases h
     | some d =>
       rw [hd] at h
       simp only [dM, gV, dF] at h
       subst h
       exact (Zxh hd).2
 | k + 1, l, m, hl, h, h0 => by
   obtain ⟨l', b, rfl⟩ : ∃ l' b, l = l' ++ [b] := by
    rcases List.eq_nil_or_concat l with h | ⟨l', b, h⟩
    . rw [h] at hl; simp at hl
    . exact ⟨l', b, by rw [h]; simp⟩
   have j2 : l'.length = k + 1 := by simp at hl; omega
   have j0 : (l' ++ [b]).head? = l'.head? := by
    cases l' with
    | nil => simp at j2
    | cons c r => rfl
   rw [j0] at h0
   have j1 : l'.head? ≠ some 48 := fun q => by have := h0 q; omega
   rw [Zjc] at h
   cases hn : decFrom 0 l' with
   | none => rw [hn] at h; cases h
   | some n =>
     cases hd : digitVal b with
     | none => rw [hn, hd] at h; cases h
     | some d =>
       rw [hn, hd] at h
       simp only [dM] at h
       subst h
       have ih := canon k l' n j2 hn (fun q => absurd q j1)
       obtain ⟨j5, j3⟩ := Zxh hd
       have j4 : n ≠ 0 := fun q => by
        subst q
        rw [decDigits_one (by omega)] at ih
        rw [<- ih] at j1
        exact j1 rfl
       rw [decDigits, dif_neg (by omega), show (n * 10 + d) / 10 = n by omega, show (n * 10 + d) % 10 = d by omega, ih]
       rw [decDigits_one (by omega)] at j3
       rw [j3]
theorem Zfi {d : Nat} (h : d <= 9) : digitVal (UInt8.ofNat (48 + d)) = some d := by
 unfold digitVal
 rw [UInt8.toNat_ofNat']
 rw [if_pos (by omega)]
 congr 1
 omega
theorem Zqm (m : Nat) : decFrom 0 (decDigits m) = some m /\ decDigits m ≠ [] /\ ((decDigits m).head? = some 48 -> m = 0) /\ ∀ c, (decDigits m).head? = some c -> 48 <= c.toNat := by
 induction m using Nat.strongRecOn with
 | ind m ih =>
   by_cases h : m < 10
   . rw [decDigits_one h]
     refine ⟨by simp only [decFrom, Zfi (show m <= 9 by omega)]; simp, by simp, fun q => ?_, fun c q => ?_⟩
     . simp only [gX, dM] at q
       have := congrArg UInt8.toNat q
       rw [UInt8.toNat_ofNat'] at this
       have j0 : (48 : UInt8).toNat = 48 := rfl
       omega
     . simp only [gX, dM] at q
       subst q
       rw [UInt8.toNat_ofNat']
       omega
   . obtain ⟨h1, h2, h3, h4⟩ := ih (m / 10) (by omega)
     rw [decDigits, dif_neg h]
     have hh : (decDigits (m / 10) ++ [UInt8.ofNat (48 + m % 10)]).head? = (decDigits (m / 10)).head? := by
      cases hq : decDigits (m / 10) with
      | nil => exact absurd hq h2
      | cons c r => rfl
     refine ⟨?_, by simp, fun q => ?_, fun c q => h4 c (by rw [<- hh]; exact q)⟩
     . rw [Zjc, h1, Zfi (show m % 10 <= 9 by omega)]
       simp only [dM]
       omega
     . rw [hh] at q
       have := h3 q
       omega
theorem Zl0 {neg : Bool} {l : List UInt8} {m : Nat} (h : Zrj neg l = some m) : l.length ≠ 0 /\ decFrom 0 l = some m /\ (l.head? = some 48 -> l.length = 1 /\ neg = false) := by
 unfold Zrj at h
 split at h
 . cases h
 . rename_i hn
   refine ⟨fun q => hn (.inl q), h, fun q => ?_⟩
   by_cases h1 : 1 < l.length
   . exact absurd (.inr (.inr ⟨q, .inl h1⟩)) hn
   . cases neg with
     | true => exact absurd (.inr (.inr ⟨q, .inr rfl⟩)) hn
     | false => exact ⟨by have : l.length ≠ 0 := fun q => hn (.inl q); omega, rfl⟩
theorem Y7v {l : List UInt8} {n : Int} (h : Zy5 l = some n) : atoi l = some n /\ itoa n = l := by
 unfold Zy5 at h
 split at h
 . rename_i j0
   match l, j0 with
   | c :: r, j0 =>
     simp only [gX, dM] at j0
     subst j0
     simp only [List.tail_cons] at h
     cases hm : Zrj true r with
     | none => rw [hm] at h; cases h
     | some m =>
       rw [hm] at h
       have h : -(m : Int) = n := eM h
       subst h
       obtain ⟨h1, h2, h3⟩ := Zl0 hm
       have hd := canon (r.length - 1) r m (by omega) h2 (fun q => by have := h3 q; simp at this)
       have j4 : m ≠ 0 := fun q => by
        subst q
        rw [decDigits_one (by omega)] at hd
        have := h3 (by rw [<- hd]; rfl)
        simp at this
       constructor
       . have : decNat r = some m := by unfold decNat; rw [if_neg (by cases r <;> simp at h1 ⊢)]; exact h2
         simp [atoi, this]
       . unfold itoa
         rw [if_pos (by omega), show (-(m : Int)).natAbs = m by omega, hd]
 . rename_i j0
   cases hm : Zrj false l with
   | none => rw [hm] at h; cases h
   | some m =>
     rw [hm] at h
     have h : (m : Int) = n := eM h
     subst h
     obtain ⟨h1, h2, h3⟩ := Zl0 hm
     have hd := canon (l.length - 1) l m (by omega) h2 (fun q => by have := h3 q; omega)
     constructor
     . match l, h1 with
       | c :: r, _ =>
         have j1 : c ≠ 45 := fun q => j0 (by rw [q]; rfl)
         obtain ⟨dv, j3⟩ := digit_of_decFrom (c :: r) 0 m h2 0 c rfl
         have j2 : c ≠ 43 := fun q => by subst q; have := digitVal_eq j3; have j5 : (43 : UInt8).toNat = 43 := rfl; omega
         have hn : decNat (c :: r) = some m := by unfold decNat; rw [if_neg (by simp)]; exact h2
         simp [atoi, j1, j2, hn]
     . unfold itoa
       rw [if_neg (by omega), show ((m : Int)).toNat = m by omega, hd]
theorem Y03 {l : List UInt8} {n : Int} (h1 : -999 <= n) (h2 : n <= 999) (h : itoa n = l) : Zy5 l = some n := by
 subst h
 unfold itoa
 split
 . rename_i hn
   obtain ⟨m, rfl⟩ : ∃ m : Nat, n = -(m : Int) := ⟨n.natAbs, by omega⟩
   rw [show (-(m : Int)).natAbs = m by omega]
   obtain ⟨b1, b2, b3, b4⟩ := Zqm m
   have hl := Zed m (by omega)
   unfold Zy5 Zrj
   simp only [gX, if_true, List.tail_cons]
   rw [if_neg]
   . rw [b1]; rfl
   . intro q
     rcases q with q | q | ⟨q, _⟩
     . exact b2 (fE.1 q)
     . omega
     . have := b3 q; omega
 . rename_i hn
   obtain ⟨m, rfl⟩ : ∃ m : Nat, n = (m : Int) := ⟨n.toNat, by omega⟩
   rw [show ((m : Int)).toNat = m by omega]
   obtain ⟨b1, b2, b3, b4⟩ := Zqm m
   have hl := Zed m (by omega)
   unfold Zy5 Zrj
   rw [if_neg (fun q => by have := b4 _ q; have j0 : (45 : UInt8).toNat = 45 := rfl; omega), if_neg]
   . rw [b1]; rfl
   . intro q
     rcases q with q | q | ⟨q, q2⟩
     . exact b2 (fE.1 q)
     . omega
     . have := b3 q
       subst this
       rcases q2 with q2 | q2
       . rw [decDigits_one (by omega)] at q2; simp at q2
       . cases q2
theorem Zyv (t : ByteArray) : Zt8 t = match Zy5 t.data.toList with | some n => if inB n (-999) 999 = true then (1, n) else (0, 0) | none => (0, 0) := by
 unfold Zt8
 cases hs : Zy5 t.data.toList with
 | some n =>
   obtain ⟨h1, h2⟩ := Y7v hs
   rw [h1]
   simp only [inB, dQ, eJ, h2, and_true]
 | none =>
   cases ha : atoi t.data.toList with
   | none => rfl
   | some n =>
     simp only
     rw [if_neg]
     intro h
     have := Y03 h.1 h.2.1 h.2.2
     rw [hs] at this
     cases this
end Go.Vm.T
namespace Go.Vm.T
def zV : Val := ⟨0, 0, ⟨#[]⟩⟩
def Y86 (t : ByteArray) : Val := ⟨(Zt8 t).1, (Zt8 t).2, ⟨#[]⟩⟩
def Z3m (v : Val) (k : Int) : Val :=
 if Z1b v = false \/ v.k = 0 \/ inB k 1 2 = false then zV else if v.k = k then v else if k = 2 then ⟨2, 0, Z9a v.n⟩ else Y86 v.t
theorem Z8e {v : Val} (h : Z1b v = true) (h1 : v.k = 1) : -999 <= v.n /\ v.n <= 999 /\ v.t = ⟨#[]⟩ := by
 unfold Z1b at h
 simp [h1, inB] at h
 exact ⟨h.1.1, h.1.2, h.2⟩
theorem Zgc {v : Val} (h : Z1b v = true) (h1 : v.k = 2) : v.n = 0 /\ v.t.size <= 4 /\ okL v.t.data.toList = true := by
 unfold Z1b at h
 simp [h1] at h
 refine ⟨h.2.1, by have := h.2.2; omega, h.1⟩
theorem Z4r {v : Val} (h : Z1b v = true) : v.k = 0 \/ v.k = 1 \/ v.k = 2 := by
 unfold Z1b at h
 by_cases h0 : v.k = 0
 . exact .inl h0
 . by_cases h1 : v.k = 1
   . exact .inr (.inl h1)
   . by_cases h2 : v.k = 2
     . exact .inr (.inr h2)
     . simp [h0, h1, h2] at h
theorem Yds {k : Int} (h : inB k 1 2 = true) : k = 1 \/ k = 2 := by
 simp [inB] at h; omega
variable [Pr1]
theorem Y1e {D : Nat} (hD : 1 <= D) (t : ByteArray) (ht : t.size <= 18) : den pr D Ys [.s t] = some [.agg (Y86 t).c] := by
 obtain ⟨D, rfl, hd⟩ := Zc hD
 rw [Zjm]
 simp only [Ztw, ht, if_true, Y86]
theorem Zv3 {D : Nat} (hD : 3 <= D) (v : Val) (k : Int) (ht : v.t.size <= big) : den pr D Z1e [.agg v.c, .n k] = some [.agg (Z3m v k).c] := by
 obtain ⟨D, rfl, hd⟩ := Zc hD
 rw [Zkr]
 have e1 := Zff (show 2 <= D by omega) v ht
 have e2 := Y27 (show 1 <= D by omega) k 1 2
 have ei : ∀ n : Int, -999 <= n /\ n <= 999 -> den pr D V2 [.n n] = some [.s (Z9a n)] := fun n hn => by
  obtain ⟨D, rfl, hd⟩ := Zc (show 1 + 1 <= D by omega)
  rw [Zaa]
  have : -9223372036854775808 <= n /\ n <= 9223372036854775807 := by omega
  simp only [Zt4, this, and_self, if_true]
 have en : v.t.size <= 4 -> den pr D Ys [.s v.t] = some [.agg (Y86 v.t).c] := fun h => Y1e (by omega) _ (by omega)
 unfold Z3m
 cases h1 : Z1b v with
 | false =>
   rw [h1] at e1
   simp only [Vn, go_sem, e1, e2, true_or, if_true, zV]
 | true =>
   rw [h1] at e1
   rcases pf (v.k = 0) with h2 | h2
   . simp only [Vn, go_sem, e1, e2, h2, true_or, or_true, if_true, zV]
   . cases h3 : inB k 1 2 with
     | false =>
       rw [h3] at e2
       simp only [Vn, go_sem, e1, e2, h2, or_true, if_true, zV]
     | true =>
       rw [h3] at e2
       rcases pf (v.k = k) with h4 | h4
       . simp only [Vn, go_sem, e1, e2, h2, h4, or_false, fS, if_false, if_true]
       . rcases pf (k = 2) with h5 | h5
         . have hk : v.k = 1 := by
            rcases Z4r h1 with q | q | q
            . exact absurd q (by rw [h2]; exact id)
            . exact q
            . exact absurd (q.trans (of_eq_true h5).symm) (by rw [h4]; exact id)
           have j1 := ei v.n (by have := Z8e h1 hk; omega)
           simp only [Vn, go_sem, e1, e2, h2, h4, h5, j1, or_false, fS, if_false, if_true]
         . have hk : v.k = 2 := by
            rcases Yds h3 with q | q
            . rcases Z4r h1 with p | p | p
              . exact absurd p (by rw [h2]; exact id)
              . exact absurd (p.trans q.symm) (by rw [h4]; exact id)
              . exact p
            . exact absurd q (by rw [h5]; exact id)
           have j0 := en (Zgc h1 hk).2.1
           simp only [Vn, go_sem, e1, e2, h2, h4, h5, j0, or_false, fS, if_false, if_true]
theorem Znc {D : Nat} (hd : 2 <= D) (v : Val) (hk : v.k = 2) (r1 : Int) (r2 : Bool) (e1 : den pr D Wy [.agg v.c] = some [.q true]) (e2 : den pr D Z0j [.s v.t] = some [.n r1, .q r2]) (e3 : den pr D Z1d [.n r1] = some [.q (inB r1 (-999) 999)]) :
 Zbk (Zj (aH D) Xs.code ⟨slots [.agg v.c, .n 1], fun _ => none, 0, 0⟩) (res Xs.res) = some [.agg (Val.c ⟨(if (r2 && inB r1 (-999) 999) = true then ((1 : Int), r1) else (0, 0)).1, (if (r2 && inB r1 (-999) 999) = true then ((1 : Int), r1) else (0, 0)).2, ⟨#[]⟩⟩)] := by
 obtain ⟨vk, vn, vt⟩ := v
 simp only at hk e2
 subst hk
 have g1 : ¬ ((1 : Int) < 1) := by decide
 have g2 : ¬ ((2 : Int) < 1) := by decide
 have g3 : ¬ ((2 : Int) = 0) := by decide
 have g4 : ¬ ((2 : Int) = 1) := by decide
 have g5 : ¬ ((1 : Int) = 2) := by decide
 cases r2 with
 | false => simp only [Xs, go_sem, e1, e2, e3, g1, g2, g3, g4, g5, gF, eH, if_false]
 | true =>
   cases h7 : inB r1 (-999) 999 with
   | false =>
     rw [h7] at e3
     simp only [Xs, go_sem, e1, e2, e3, g1, g2, g3, g4, g5, hU, eH, if_false]
   | true =>
     rw [h7] at e3
     simp only [Xs, go_sem, e1, e2, e3, g1, g2, g3, g4, g5, gY, if_true]
theorem Zd4 {D : Nat} (hD : 3 <= D) (v : Val) (k : Int) (ht : v.t.size <= big) : den pr D Z1i [.agg v.c, .n k] = some [.agg (Z3m v k).c] := by
 obtain ⟨D, rfl, hd⟩ := Zc hD
 rw [Zlb]
 have e1 := Z5h (show 2 <= D by omega) v ht
 have e2 := Zyg (show 1 <= D by omega) v.t ht
 have e3 := Z8g (show 1 <= D by omega)
 have e4 := Zzt (show 2 <= D by omega) v.n
 obtain ⟨r, e2, hr⟩ : ∃ r : Int × Bool, den pr D Z0j [.s v.t] = some [.n r.1, .q r.2] /\ Zt8 v.t = if (r.2 && inB r.1 (-999) 999) = true then (1, r.1) else (0, 0) := by
  rw [e2, Zyv]
  cases Zy5 v.t.data.toList with
  | none => exact ⟨(0, false), rfl, rfl⟩
  | some n => exact ⟨(n, true), rfl, by simp⟩
 unfold Z3m Y86
 rw [hr]
 obtain ⟨r1, r2⟩ := r
 simp only at e2 ⊢
 have j4 := e3 r1
 have j0 : inB k 1 2 = (!(decide (k < 1)) && !(decide (2 < k))) := by
  rw [Bool.eq_iff_iff]
  simp [inB]
 rw [j0]
 cases h1 : Z1b v with
 | false =>
   rw [h1] at e1
   simp only [Xs, go_sem, e1, e2, true_or, if_true, zV]
 | true =>
   rw [h1] at e1
   rcases pf (k < 1) with h2 | h2
   . simp only [Xs, go_sem, e1, e2, h2, or_true, if_true, zV]
   . rcases pf (2 < k) with h3 | h3
     . simp only [Xs, go_sem, e1, e2, h2, h3, or_true, if_true, zV]
     . rcases pf (v.k = 0) with h4 | h4
       . simp only [Xs, go_sem, e1, e2, h2, h3, h4, true_or, or_true, if_true, zV]
       . rcases pf (v.k = k) with h5 | h5
         . simp only [Xs, go_sem, e1, e2, h2, h3, h4, h5, or_false, fS, if_false, if_true]
         . rcases pf (k = 2) with h6 | h6
           . have hk : v.k = 1 := by
              rcases Z4r h1 with q | q | q
              . exact absurd q (by rw [h4]; exact id)
              . exact q
              . exact absurd (q.trans (of_eq_true h6).symm) (by rw [h5]; exact id)
             have j3 := e4 (by have := Z8e h1 hk; omega) (by have := Z8e h1 hk; omega)
             have j1 := of_eq_true h6
             subst j1
             simp only [Xs, go_sem, e1, e2, h4, h5, j3, false_or, fS, if_false, if_true]
             try simp
           . have j2 : k = 1 := by
              have a2 : ¬ k < 1 := by rw [h2]; exact id
              have a3 : ¬ 2 < k := by rw [h3]; exact id
              have a6 : ¬ k = 2 := by rw [h6]; exact id
              omega
             subst j2
             have hk : v.k = 2 := by
              rcases Z4r h1 with q | q | q
              . exact absurd q (by rw [h4]; exact id)
              . exact absurd q (by rw [h5]; exact id)
              . exact q
             have := Znc hd v hk r1 r2 e1 e2 (Z8g (show 1 <= D by omega) r1)
             rw [this]
             simp only [h4, or_false, fS, if_false, h5, h6, h2, h3, fR, Bool.and_self, decide_false]
end Go.Vm.T
namespace Go.Vm.T
structure Chg where
 k : Int
 nm : ByteArray
 nw : ByteArray
 col : ColV
 deriving DecidableEq
abbrev Chg.c (c : Chg) : List A := [.n c.k, .s c.nm, .s c.nw, .s c.col.nm, .n c.col.k, .q c.col.need, .q c.col.once, .n c.col.df.k, .n c.col.df.n, .s c.col.df.t]
abbrev eT : ByteArray := ⟨#[]⟩
def zC : ColV := ⟨eT, 0, false, false, zV⟩
abbrev Y78 : List A := [.n 0, .n 0, .s ⟨#[]⟩]
def Z37 (c : Chg) : Bool :=
 if c.k = 1 then decide (c.nm = eT) && decide (c.nw = eT)
 else if c.k = 2 then decide (c.nw = eT) && decide (c.col = zC)
 else if c.k = 3 then decide (c.col = zC)
 else if c.k = 4 then decide (c.nw = eT) && decide (c.col = { zC with k := c.col.k })
 else false
variable [Pr1]
theorem Z4n {D : Nat} (hD : 2 <= D) (rows : List (List A)) (hl : rows.length <= big) : den pr D Zf4 [.lit Z0 rows] = some [.olit Z0 rows] := by
 obtain ⟨D, rfl, hd⟩ := Zc hD
 obtain ⟨D, rfl, hd⟩ := Zc hd
 rw [Yde]
 have h1 : den pr (D + 1) Zgd [.lit Z0 rows] = some [.olit Z0 rows] := by
  rw [Y8g]
  simp only [Z8h, hl, go_sem]
 have h2 : Vl rows = true \/ Vl rows = false := by cases Vl rows <;> simp
 rcases h2 with h2 | h2 <;> simp only [Y3t, go_sem, h1, h2, Y90, Zu1, dO, dG, fL, fI, frz]
theorem Zbb {D : Nat} (hD : 2 <= D) (rows : List (List A)) (hl : rows.length <= big) : den pr D Zsl [.lit Z2 rows] = some [.olit Z2 rows] := by
 obtain ⟨D, rfl, hd⟩ := Zc hD
 obtain ⟨D, rfl, hd⟩ := Zc hd
 rw [Yaz]
 have h1 : den pr (D + 1) Zhb [.lit Z2 rows] = some [.olit Z2 rows] := by
  rw [Y9t]
  simp only [Z8h, hl, go_sem]
 have h2 : Vl rows = true \/ Vl rows = false := by cases Vl rows <;> simp
 rcases h2 with h2 | h2 <;> simp only [Y47, go_sem, h1, h2, Y7i, Zwb, dO, dG, fL, fI, frz]
theorem Zxa {D : Nat} (hD : 1 <= D) (rows : List (List A)) (i : Nat) (hi : i < rows.length) (hl : rows.length <= big) (h : Hp) (m b : Nat) (hb : b < m) (hh : h b = some ⟨Z0, rows, true, false⟩) (ex : Bool) :
 dcl pr D Zr9 [cV Z0 b rows.length ex, .n (i : Int), .n ((i : Int) + 1)] h m = some ([.ref Z0 b 0 (rows.length - 1) rows.length ex], upd (upd h m (cU Z0 [])) b (some ⟨Z0, Z3z i rows ++ [Yaj], true, false⟩), m + 1 + 1) := by
 obtain ⟨D, rfl, hd⟩ := Zc hD
 rw [Y9s]
 have j0 : ¬ b = m := by omega
 have e1 : (0 : Int) <= (i : Int) + 1 := by omega
 have e2 : ((i : Int) + 1).toNat = i + 1 := by omega
 have e3 : ¬ ((i : Int) = (i : Int) + 1) := by omega
 have e4 : i <= i + 1 := by omega
 have e5 : i + 1 <= rows.length := by omega
 have e6 : i <= rows.length := by omega
 have e7 : ¬ rows.length = i := by omega
 have f2 : i + (rows.length - (i + 1)) = rows.length - 1 := by omega
 have f3 : rows.length - 1 <= big := by omega
 have f4 : rows.length - 1 <= rows.length := by omega
 have f5 : (rows.drop (i + 1)).take (rows.length - (i + 1)) = rows.drop (i + 1) := dP (by simp)
 have f6 : rows.take i ++ rows.drop (i + 1) = Z3z i rows := rfl
 have f7 : rows.length - (rows.length - 1) = 1 := by omega
 have g := Z1o hi
 have f8 : (Z3z i rows ++ rows.drop (rows.length - 1)).take (rows.length - 1) = Z3z i rows := by rw [<- g, List.take_left]
 have f9 : (Z3z i rows ++ rows.drop (rows.length - 1)).drop (rows.length - 1 + 1) = [] := gH (by simp [g]; omega)
 have fa : rows.length - 1 + 1 <= (Z3z i rows ++ rows.drop (rows.length - 1)).length := by simp [g]; omega
 have fb : List.replicate 1 Yaj = [Yaj] := rfl
 have fc : i + 1 + (rows.length - (i + 1)) <= rows.length := by omega
 have fd : i + (1 + (rows.length - (i + 1))) <= rows.length := by omega
 simp only [Zvb, go_sem, hh, j0, e1, e2, e3, e4, e5, e6, e7, fc, fd, f2, f3, f4, f5, f6, f7, f8, f9, fa, fb, Wl, dO, dG, fL, gB, fI, fQ]
theorem Zuz {D : Nat} (hD : 1 <= D) (rows : List (List A)) (i : Nat) (hi : i < rows.length) (hl : rows.length <= big) (h : Hp) (m b : Nat) (hb : b < m) (hh : h b = some ⟨Z2, rows, true, false⟩) (ex : Bool) :
 dcl pr D Zqn [cV Z2 b rows.length ex, .n (i : Int), .n ((i : Int) + 1)] h m = some ([.ref Z2 b 0 (rows.length - 1) rows.length ex], upd (upd h m (cU Z2 [])) b (some ⟨Z2, Z3z i rows ++ [Y78], true, false⟩), m + 1 + 1) := by
 obtain ⟨D, rfl, hd⟩ := Zc hD
 rw [Ya3]
 have j0 : ¬ b = m := by omega
 have e1 : (0 : Int) <= (i : Int) + 1 := by omega
 have e2 : ((i : Int) + 1).toNat = i + 1 := by omega
 have e3 : ¬ ((i : Int) = (i : Int) + 1) := by omega
 have e4 : i <= i + 1 := by omega
 have e5 : i + 1 <= rows.length := by omega
 have e6 : i <= rows.length := by omega
 have e7 : ¬ rows.length = i := by omega
 have f2 : i + (rows.length - (i + 1)) = rows.length - 1 := by omega
 have f3 : rows.length - 1 <= big := by omega
 have f4 : rows.length - 1 <= rows.length := by omega
 have f5 : (rows.drop (i + 1)).take (rows.length - (i + 1)) = rows.drop (i + 1) := dP (by simp)
 have f6 : rows.take i ++ rows.drop (i + 1) = Z3z i rows := rfl
 have f7 : rows.length - (rows.length - 1) = 1 := by omega
 have g := Z1o hi
 have f8 : (Z3z i rows ++ rows.drop (rows.length - 1)).take (rows.length - 1) = Z3z i rows := by rw [<- g, List.take_left]
 have f9 : (Z3z i rows ++ rows.drop (rows.length - 1)).drop (rows.length - 1 + 1) = [] := gH (by simp [g]; omega)
 have fa : rows.length - 1 + 1 <= (Z3z i rows ++ rows.drop (rows.length - 1)).length := by simp [g]; omega
 have fb : List.replicate 1 Y78 = [Y78] := rfl
 have fc : i + 1 + (rows.length - (i + 1)) <= rows.length := by omega
 have fd : i + (1 + (rows.length - (i + 1))) <= rows.length := by omega
 simp only [Zui, go_sem, hh, j0, e1, e2, e3, e4, e5, e6, e7, fc, fd, f2, f3, f4, f5, f6, f7, f8, f9, fa, fb, Wl, dO, dG, fL, gB, fI, fQ]
theorem Zjq {V : Type} [DecidableEq V] (a b : V) : decide (a = b) = decide (b = a) := by by_cases h : a = b <;> simp [h, eq_comm]
theorem Znb (cn : ByteArray) (ck : Int) (need once : Bool) (dk dn : Int) (dt : ByteArray) :
 (decide (eT = cn) && (decide (0 = ck) && (decide (false = need) && (decide (false = once) && (decide (0 = dk) && (decide (0 = dn) && decide (eT = dt))))))) = decide (ColV.mk cn ck need once ⟨dk, dn, dt⟩ = zC) := by
 rw [Bool.eq_iff_iff]
 simp only [zC, zV, ColV.mk.injEq, Val.mk.injEq, dQ, eJ, @eq_comm _ cn, @eq_comm _ ck, @eq_comm _ need, @eq_comm _ once, @eq_comm _ dk, @eq_comm _ dn, @eq_comm _ dt]
theorem Y1n (nw cn : ByteArray) (ck : Int) (need once : Bool) (dk dn : Int) (dt : ByteArray) :
 (decide (eT = nw) && (decide (eT = cn) && (decide (0 = ck) && (decide (false = need) && (decide (false = once) && (decide (0 = dk) && (decide (0 = dn) && decide (eT = dt)))))))) = (decide (nw = eT) && decide (ColV.mk cn ck need once ⟨dk, dn, dt⟩ = zC)) := by
 rw [Znb, Zjq nw]
theorem Zwk (nw cn : ByteArray) (ck : Int) (need once : Bool) (dk dn : Int) (dt : ByteArray) :
 (decide (eT = nw) && (decide (eT = cn) && (decide (false = need) && (decide (false = once) && (decide (0 = dk) && (decide (0 = dn) && decide (eT = dt))))))) = (decide (nw = eT) && decide (ColV.mk cn ck need once ⟨dk, dn, dt⟩ = { zC with k := ck })) := by
 rw [Bool.eq_iff_iff]
 simp only [zC, zV, ColV.mk.injEq, Val.mk.injEq, dQ, eJ, true_and, @eq_comm _ nw, @eq_comm _ cn, @eq_comm _ need, @eq_comm _ once, @eq_comm _ dk, @eq_comm _ dn, @eq_comm _ dt]
theorem Zfb {D : Nat} (hD : 1 <= D) (c : Chg) : den pr D Zhe [.agg c.c] = some [.q (Z37 c)] := by
 obtain ⟨D, rfl, hd⟩ := Zc hD
 rw [Y8z]
 obtain ⟨k, nm, nw, cn, ck, need, once, dk, dn, dt⟩ := c
 unfold Z37
 simp only
 rcases pf (k = 1) with h1 | h1
 . simp only [Zeu, go_sem, h1, if_true]
   rw [Zjq nm, Zjq nw]
 . rcases pf (k = 2) with h2 | h2
   . simp only [Zeu, go_sem, h1, h2, if_true, if_false]
     exact congrArg (fun b => some [A.q b]) (Y1n _ _ _ _ _ _ _ _)
   . rcases pf (k = 3) with h3 | h3
     . simp only [Zeu, go_sem, h1, h2, h3, if_true, if_false]
       exact congrArg (fun b => some [A.q b]) (Znb _ _ _ _ _ _ _)
     . rcases pf (k = 4) with h4 | h4
       . simp only [Zeu, go_sem, h1, h2, h3, h4, if_true, if_false]
         exact congrArg (fun b => some [A.q b]) (Zwk _ _ _ _ _ _ _ _)
       . simp only [Zeu, go_sem, h1, h2, h3, h4, if_true, if_false]
end Go.Vm.T
namespace Go.Vm.T
def Zby (s out : List ColV) : List ColV × Bool := if Zl out then (out, true) else (s, false)
def Y73 (s : List ColV) (c : Chg) (i : Nat) (x : ColV) : List ColV × Bool :=
 if c.k = 2 then Zby s (Z3z i s) else if c.k = 3 then Zby s (s.set i { x with nm := c.nw }) else if c.col.k = x.k then (s, false) else Zby s (s.set i { x with k := c.col.k, df := Z3m x.df c.col.k })
def Z72 (s : List ColV) (c : Chg) : List ColV × Bool :=
 if Z37 c = false then (s, false)
 else if c.k = 1 then (if c.col.need && decide (c.col.df.k = 0) then (s, false) else Zby s (s ++ [c.col]))
 else match Z6s c.nm s with
  | none => (s, false)
  | some i => match s[i]? with
    | some x => Y73 s c i x
    | none => (s, false)
structure SmallG (c : Chg) : Prop where
 nm : c.nm.size <= big
 nw : c.nw.size <= big
 cn : c.col.nm.size <= big
 dt : c.col.df.t.size <= big
theorem Zcq {v : Val} {k : Int} (h : v.t.size <= big) : (Z3m v k).t.size <= big := by
 unfold Z3m
 split
 . show (0 : Nat) <= big; omega
 . rename_i hn
   split
   . exact h
   . split
     . rename_i h1 h2
       have hv : Z1b v = true := by cases hq : Z1b v with
        | true => rfl
        | false => exact absurd (.inl hq) hn
       have hk : v.k = 1 := by
        rcases Z4r hv with q | q | q
        . exact absurd (.inr (.inl q)) hn
        . exact q
        . exact absurd (q.trans h2.symm) h1
       have := Z8e hv hk
       show (Z9a v.n).size <= big
       have h3 : (Z9a v.n).size = (Lib.itoa v.n).length := rfl
       rw [h3]
       unfold Lib.itoa
       split
       . have := Zed v.n.natAbs (by omega); simp only [eF]; unfold big; omega
       . have := Zed v.n.toNat (by omega); unfold big; omega
     . show (0 : Nat) <= big; omega
variable [Pr1]
structure C1 (D : Nat) (s : List ColV) (c : Chg) : Prop where
 e0 : den pr D Zf4 [.lit Z0 (s.map ColV.c)] = some [.olit Z0 (s.map ColV.c)]
 e1 : den pr D Xu [.lit Z0 (s.map ColV.c), .s c.nm] = some [.n (nmI c.nm s)]
 e2 : den pr D Zhe [.agg c.c] = some [.q true]
 e3 : den pr D W7 [.lit Z0 (s.map ColV.c ++ [c.col.c])] = some [.q (Zl (s ++ [c.col]))]
 e4 : den pr D Zf4 [.lit Z0 (s.map ColV.c ++ [c.col.c])] = some [.olit Z0 (s.map ColV.c ++ [c.col.c])]
 hl : s.length + 1 <= big
 hlt : (s.map ColV.c).take s.length = s.map ColV.c
 hta : ∀ r : List A, List.take (s.length + 1) (s.map ColV.c ++ [r]) = s.map ColV.c ++ [r]
 rsa : Vl (s.map ColV.c ++ [c.col.c]) = false
theorem Zvl {D : Nat} (s : List ColV) (nm nw cn : ByteArray) (ck : Int) (once : Bool) (dk dn : Int) (dt : ByteArray) (C : C1 D s ⟨1, nm, nw, ⟨cn, ck, false, once, dk, dn, dt⟩⟩) :
 Zbk (Zj (aH D) Y9.code ⟨slots [.lit Z0 (s.map ColV.c), .agg (Chg.c ⟨1, nm, nw, ⟨cn, ck, false, once, dk, dn, dt⟩⟩)], fun _ => none, 0, 0⟩) (res Y9.res) = some [.olit Z0 ((Zby s (s ++ [⟨cn, ck, false, once, dk, dn, dt⟩])).1.map ColV.c), .q (Zby s (s ++ [⟨cn, ck, false, once, dk, dn, dt⟩])).2] := by
 obtain ⟨e0, e1, e2, e3, e4, hl, hlt, hta, rsa⟩ := C
 unfold Zby
 simp only at e3 e4 rsa
 have em : (s ++ [(⟨cn, ck, false, once, dk, dn, dt⟩ : ColV)]).map ColV.c = s.map ColV.c ++ [(⟨cn, ck, false, once, dk, dn, dt⟩ : ColV).c] := by simp
 cases h4 : Zl (s ++ [⟨cn, ck, false, once, dk, dn, dt⟩]) with
 | false =>
   rw [h4] at e3
   simp only [Y9, go_sem, e0, e1, e2, e3, eH, if_false, if_true, dN, eE, Za, dO, hl, hlt, hta, and_self]
 | true =>
   rw [h4] at e3
   simp only [Y9, go_sem, e0, e1, e2, e3, e4, eH, if_false, em, if_true, dN, eE, Za, dO, hl, hlt, hta, rsa, and_self]
theorem Zy2 {D : Nat} (s : List ColV) (nm nw cn : ByteArray) (ck : Int) (once : Bool) (dk dn : Int) (dt : ByteArray) (h3 : (dk = 0) = False) (C : C1 D s ⟨1, nm, nw, ⟨cn, ck, true, once, dk, dn, dt⟩⟩) :
 Zbk (Zj (aH D) Y9.code ⟨slots [.lit Z0 (s.map ColV.c), .agg (Chg.c ⟨1, nm, nw, ⟨cn, ck, true, once, dk, dn, dt⟩⟩)], fun _ => none, 0, 0⟩) (res Y9.res) = some [.olit Z0 ((Zby s (s ++ [⟨cn, ck, true, once, dk, dn, dt⟩])).1.map ColV.c), .q (Zby s (s ++ [⟨cn, ck, true, once, dk, dn, dt⟩])).2] := by
 obtain ⟨e0, e1, e2, e3, e4, hl, hlt, hta, rsa⟩ := C
 unfold Zby
 simp only at e3 e4 rsa
 have em : (s ++ [(⟨cn, ck, true, once, dk, dn, dt⟩ : ColV)]).map ColV.c = s.map ColV.c ++ [(⟨cn, ck, true, once, dk, dn, dt⟩ : ColV).c] := by simp
 cases h4 : Zl (s ++ [⟨cn, ck, true, once, dk, dn, dt⟩]) with
 | false =>
   rw [h4] at e3
   simp only [Y9, go_sem, h3, e0, e1, e2, e3, eH, if_false, if_true, dN, eE, Za, dO, hl, hlt, hta, and_self]
 | true =>
   rw [h4] at e3
   simp only [Y9, go_sem, h3, e0, e1, e2, e3, e4, eH, if_false, em, if_true, dN, eE, Za, dO, hl, hlt, hta, rsa, and_self]
theorem Zx9 {D : Nat} (s : List ColV) (nm nw cn : ByteArray) (ck : Int) (once : Bool) (dn : Int) (dt : ByteArray) (C : C1 D s ⟨1, nm, nw, ⟨cn, ck, true, once, 0, dn, dt⟩⟩) :
 Zbk (Zj (aH D) Y9.code ⟨slots [.lit Z0 (s.map ColV.c), .agg (Chg.c ⟨1, nm, nw, ⟨cn, ck, true, once, 0, dn, dt⟩⟩)], fun _ => none, 0, 0⟩) (res Y9.res) = some [.olit Z0 (s.map ColV.c), .q false] := by
 obtain ⟨e0, e1, e2, e3, e4, hl, hlt, hta, rsa⟩ := C
 simp only [Y9, go_sem, e0, e1, e2, if_true, dN, Za]
theorem Y17 {D : Nat} (hD : 5 <= D) (s : List ColV) (c : Chg) (hs : SmallC s) (hl : s.length + 1 <= big) (hc : SmallG c) (h1 : Z37 c = true) (hk : c.k = 1) : den pr D X8 [.lit Z0 (s.map ColV.c), .agg c.c] = some [.olit Z0 ((Z72 s c).1.map ColV.c), .q (Z72 s c).2] := by
 obtain ⟨D, rfl, hd⟩ := Zc hD
 rw [Vt]
 have C : C1 D s c := by
  have e3 := Z8f (show 4 <= D by omega) (s ++ [c.col]) ⟨by simpa using hl, fun x hx => by
   rcases dW.1 hx with h | h
   . exact hs.txt x h
   . rw [dX.1 h]; exact ⟨hc.cn, hc.dt⟩⟩
  have e4 := Z4n (show 2 <= D by omega) ((s ++ [c.col]).map ColV.c) (by simpa using hl)
  have em : (s ++ [c.col]).map ColV.c = s.map ColV.c ++ [c.col.c] := by simp
  have rsa := Za (s ++ [c.col])
  rw [em] at e3 e4 rsa
  refine ⟨Z4n (show 2 <= D by omega) (s.map ColV.c) (by rw [dN]; omega), Z68 (show 3 <= D by omega) c.nm s hs.len, ?_, e3, e4, hl, dP (by simp), fun r => dP (by simp), rsa⟩
  rw [Zfb (show 1 <= D by omega) c, h1]
 obtain ⟨k, nm, nw, cn, ck, need, once, dk, dn, dt⟩ := c
 simp only at hk hc
 subst hk
 unfold Z72
 simp only [h1, if_true, fS, if_false]
 cases need with
 | false => rw [Zvl s nm nw cn ck once dk dn dt C]; rfl
 | true =>
   rcases pf (dk = 0) with h3 | h3
   . have j0 := of_eq_true h3
     subst j0
     rw [Zx9 s nm nw cn ck once dn dt C]; rfl
   . rw [Zy2 s nm nw cn ck once dk dn dt h3 C]
     simp only [h3, eZ, decide_false, eH, if_false]
end Go.Vm.T
namespace Go.Vm.T
variable [Pr1]
theorem Zys {D : Nat} (hD : 5 <= D) (s : List ColV) (c : Chg) (hs : SmallC s) (h1 : Z37 c = false) : den pr D X8 [.lit Z0 (s.map ColV.c), .agg c.c] = some [.olit Z0 (s.map ColV.c), .q false] := by
 obtain ⟨D, rfl, hd⟩ := Zc hD
 rw [Vt]
 have e0 := Z4n (show 2 <= D by omega) (s.map ColV.c) (by rw [dN]; exact hs.len)
 have e1 := Z68 (show 3 <= D by omega) c.nm s hs.len
 have e2 := Zfb (show 1 <= D by omega) c
 rw [h1] at e2
 simp only [Y9, go_sem, e0, e1, e2, if_true, dN, Za]
theorem Zyf {D : Nat} (hD : 5 <= D) (s : List ColV) (c : Chg) (hs : SmallC s) (h1 : Z37 c = true) (hk : (c.k = 1) = False) (ha : Z6s c.nm s = none) : den pr D X8 [.lit Z0 (s.map ColV.c), .agg c.c] = some [.olit Z0 (s.map ColV.c), .q false] := by
 obtain ⟨D, rfl, hd⟩ := Zc hD
 rw [Vt]
 have e0 := Z4n (show 2 <= D by omega) (s.map ColV.c) (by rw [dN]; exact hs.len)
 have e1 := Z68 (show 3 <= D by omega) c.nm s hs.len
 have e2 := Zfb (show 1 <= D by omega) c
 rw [h1] at e2
 unfold nmI at e1
 rw [ha] at e1
 have hm : (-1 : Int) < 0 := by decide
 simp only [Y9, go_sem, e0, e1, e2, if_true, dN, Za, hk, hm]
theorem Y0d {D : Nat} (hD : 5 <= D) (s : List ColV) (c : Chg) (hs : SmallC s) (h1 : Z37 c = true) (hk : c.k = 2) (i : Nat) (ha : Z6s c.nm s = some i) : den pr D X8 [.lit Z0 (s.map ColV.c), .agg c.c] = some [.olit Z0 ((Zby s (Z3z i s)).1.map ColV.c), .q (Zby s (Z3z i s)).2] := by
 obtain ⟨D, rfl, hd⟩ := Zc hD
 rw [Vt]
 have hl := hs.len
 have hi := Z0p ha
 have e0 := Z4n (show 2 <= D by omega) (s.map ColV.c) (by rw [dN]; exact hs.len)
 have e1 := Z68 (show 3 <= D by omega) c.nm s hs.len
 have e2 := Zfb (show 1 <= D by omega) c
 rw [h1] at e2
 unfold nmI at e1
 rw [ha] at e1
 simp only at e1
 have hm : ¬ ((i : Int) < 0) := by omega
 have hw : IntKind.i64.wrap ((i : Int) + 1) = (i : Int) + 1 := Zk (n := i) (by unfold big at hl; omega)
 have h4 := Zxa (show 1 <= D by omega) (s.map ColV.c) i (by simpa using hi) (by simpa using hl)
 have j2 : (Z3z i s).length <= big := by rw [Z1o hi]; omega
 have j0 : ∀ x ∈ Z3z i s, x ∈ s := fun x hx => by
  unfold Z3z at hx
  rcases dW.1 hx with h | h
  . exact fC h
  . exact eS h
 have e5 := Z4n (show 2 <= D by omega) ((Z3z i s).map ColV.c) (by rw [dN]; exact j2)
 have e3 := Z8f (show 4 <= D by omega) (Z3z i s) ⟨j2, fun x hx => hs.txt x (j0 x hx)⟩
 have q1 : Z3z i (s.map ColV.c) = (Z3z i s).map ColV.c := Zr5 _ _ _
 have q2 : ((Z3z i s).map ColV.c ++ [Yaj]).take (s.length - 1) = (Z3z i s).map ColV.c := by
  rw [<- Z1o hi, <- dN (f := ColV.c), List.take_left]
 have q3 : s.length - 1 <= (Z3z i s).length + 1 := by rw [Z1o hi]; omega
 simp only [dN] at h4
 have j3 : (c.k = 1) = False := by rw [hk]; decide
 have j1 : (c.k = 2) = True := by rw [hk]; decide
 unfold Zby
 cases h5 : Zl (Z3z i s) with
 | false =>
   rw [h5] at e3
   simp only [Y9, go_sem, e0, e1, e2, e3, j3, j1, hm, hw, h4, q1, q2, q3, Wl, eH, if_false, if_true, dN, eE, Za, dO]
 | true =>
   rw [h5] at e3
   simp only [Y9, go_sem, e0, e1, e2, e3, e5, j3, j1, hm, hw, h4, q1, q2, q3, Wl, eH, if_false, if_true, dN, eE, Za, dO]
structure C3 (D : Nat) (s : List ColV) (c : Chg) (i : Nat) (x : ColV) (y : ColV) : Prop where
 e0 : den pr D Zf4 [.lit Z0 (s.map ColV.c)] = some [.olit Z0 (s.map ColV.c)]
 e1 : den pr D Xu [.lit Z0 (s.map ColV.c), .s c.nm] = some [.n (i : Int)]
 e2 : den pr D Zhe [.agg c.c] = some [.q true]
 e3 : den pr D W7 [.lit Z0 ((s.map ColV.c).set i y.c)] = some [.q (Zl (s.set i y))]
 e4 : den pr D Zf4 [.lit Z0 ((s.map ColV.c).set i y.c)] = some [.olit Z0 ((s.map ColV.c).set i y.c)]
 hr : (s.map ColV.c)[i]? = some x.c
 hi : i < s.length
 rsa : Vl ((s.map ColV.c).set i y.c) = false
 hm : ¬ ((i : Int) < 0)
 em : (s.set i y).map ColV.c = (s.map ColV.c).set i y.c
 len : s.length <= big
 tk : ∀ r, List.take s.length ((s.map ColV.c).set i r) = (s.map ColV.c).set i r
 hset : ∀ r, ((s.map ColV.c).set i r)[i]? = some r
theorem C3.of {D : Nat} (hD : 4 <= D) {s : List ColV} {c : Chg} (hs : SmallC s) (h1 : Z37 c = true) {i : Nat} (ha : Z6s c.nm s = some i) {x : ColV} (hx : s[i]? = some x) (y : ColV) (hy : y.nm.size <= big /\ y.df.t.size <= big) : C3 D s c i x y := by
 have hi := Z0p ha
 have em : (s.set i y).map ColV.c = (s.map ColV.c).set i y.c := gN
 have e3 := Z8f hD (s.set i y) ⟨by rw [dK]; exact hs.len, fun z hz => by
  rcases fB hz with h | h
  . exact hs.txt z h
  . rw [h]; exact hy⟩
 have e4 := Z4n (show 2 <= D by omega) ((s.set i y).map ColV.c) (by simpa using hs.len)
 have rsa := Za (s.set i y)
 rw [em] at e3 e4 rsa
 have e1 := Z68 (show 3 <= D by omega) c.nm s hs.len
 unfold nmI at e1
 rw [ha] at e1
 refine ⟨Z4n (show 2 <= D by omega) (s.map ColV.c) (by rw [dN]; exact hs.len), e1, ?_, e3, e4, Zq (f := ColV.c) hx, hi, rsa, by omega, em, hs.len, fun r => dP (by simp), fun r => gI (by simpa using hi)⟩
 rw [Zfb (show 1 <= D by omega) c, h1]
theorem Zz3 {D : Nat} (s : List ColV) (c : Chg) (hk : c.k = 3) (i : Nat) (x : ColV) (C : C3 D s c i x { x with nm := c.nw }) : den pr (D + 1) X8 [.lit Z0 (s.map ColV.c), .agg c.c] = some [.olit Z0 ((Zby s (s.set i { x with nm := c.nw })).1.map ColV.c), .q (Zby s (s.set i { x with nm := c.nw })).2] := by
 rw [Vt]
 have j1 : (c.k = 1) = False := by rw [hk]; decide
 have j0 : (c.k = 2) = False := by rw [hk]; decide
 have j2 : (c.k = 3) = True := by rw [hk]; decide
 obtain ⟨e0, e1, e2, e3, e4, hr, hi, rsa, hm, em, hl, tk, hset⟩ := C
 unfold Zby
 cases h5 : Zl (s.set i { x with nm := c.nw }) with
 | false =>
   rw [h5] at e3
   simp only [Y9, go_sem, e0, e1, e2, e3, j1, j0, j2, hm, hr, hi, Wl, eH, if_false, if_true, dN, dK, Za, tk, dO]
 | true =>
   rw [h5] at e3
   simp only [Y9, go_sem, e0, e1, e2, e3, e4, em, j1, j0, j2, hm, hr, hi, Wl, eH, if_false, if_true, dN, dK, Za, rsa, tk, dO]
theorem Zw3 {D : Nat} (s : List ColV) (c : Chg) (hk : c.k = 4) (i : Nat) (x y : ColV) (hx : (c.col.k = x.k) = True) (C : C3 D s c i x y) : den pr (D + 1) X8 [.lit Z0 (s.map ColV.c), .agg c.c] = some [.olit Z0 (s.map ColV.c), .q false] := by
 rw [Vt]
 have j2 : (c.k = 1) = False := by rw [hk]; decide
 have j0 : (c.k = 2) = False := by rw [hk]; decide
 have j3 : (c.k = 3) = False := by rw [hk]; decide
 have j1 : (c.k = 4) = True := by rw [hk]; decide
 obtain ⟨e0, e1, e2, e3, e4, hr, hi, rsa, hm, em, hl, tk, hset⟩ := C
 simp only [Y9, go_sem, e0, e1, e2, j2, j0, j3, j1, hx, hm, hr, hi, Wl, eH, if_false, if_true, dN, Za, dO]
theorem Y1a {D : Nat} (s : List ColV) (c : Chg) (hk : c.k = 4) (i : Nat) (x : ColV) (hx : (c.col.k = x.k) = False) (C : C3 D s c i x { x with k := c.col.k, df := Z3m x.df c.col.k }) (ev : den pr D Z1e [.agg x.df.c, .n c.col.k] = some [.agg (Z3m x.df c.col.k).c]) : den pr (D + 1) X8 [.lit Z0 (s.map ColV.c), .agg c.c] = some [.olit Z0 ((Zby s (s.set i { x with k := c.col.k, df := Z3m x.df c.col.k })).1.map ColV.c), .q (Zby s (s.set i { x with k := c.col.k, df := Z3m x.df c.col.k })).2] := by
 rw [Vt]
 have j2 : (c.k = 1) = False := by rw [hk]; decide
 have j0 : (c.k = 2) = False := by rw [hk]; decide
 have j3 : (c.k = 3) = False := by rw [hk]; decide
 have j1 : (c.k = 4) = True := by rw [hk]; decide
 obtain ⟨e0, e1, e2, e3, e4, hr, hi, rsa, hm, em, hl, tk, hset⟩ := C
 unfold Zby
 cases h5 : Zl (s.set i { x with k := c.col.k, df := Z3m x.df c.col.k }) with
 | false =>
   rw [h5] at e3
   simp only [Y9, go_sem, e0, e1, e2, e3, ev, j2, j0, j3, j1, hx, hm, hr, hi, hset, List.set_set, Wl, eH, if_false, if_true, dN, dK, Za, tk, dO]
 | true =>
   rw [h5] at e3
   simp only [Y9, go_sem, e0, e1, e2, e3, e4, ev, em, j2, j0, j3, j1, hx, hm, hr, hi, hset, List.set_set, Wl, eH, if_false, if_true, dN, dK, Za, rsa, tk, dO]
end Go.Vm.T
namespace Go.Vm.T
theorem Zo8 {c : ColV} (h : Za0 c = true) : c.nm.size <= 3 /\ c.df.t.size <= 4 := by
 unfold Za0 Y23 inB at h
 simp at h
 obtain ⟨⟨⟨⟨h1, h2⟩, h3⟩, h4⟩, h5⟩ := h
 constructor
 . omega
 . rcases Z4r h3 with q | q | q
   . have : c.df.t = eT := by unfold Z1b at h3; simp [q] at h3; exact h3.2
     rw [this]; show (0 : Nat) <= 4; omega
   . rw [(Z8e h3 q).2.2]; show (0 : Nat) <= 4; omega
   . exact (Zgc h3 q).2.1
theorem Zuk {V : Type} {g : Nat -> V -> Bool} : ∀ {l : List V} {i : Nat} {u : Unit}, (Zv (fun i (_ : Unit) c => bif g i c then (.inl () : Unit ⊕ Unit) else .inr ()) i () l) = .inl u -> ∀ (j : Nat) (c : V), l[j]? = some c -> g (i + j) c = true
 | [], i, u, _, j, c, h => by simp at h
 | x :: l, i, u, hr, j, c, h => by
   unfold Zv at hr
   cases hg : g i x with
   | false => rw [hg] at hr; cases hr
   | true =>
     rw [hg] at hr
     cases j with
     | zero => simp at h; subst h; exact hg
     | succ j =>
       have := Zuk (l := l) (i := i + 1) hr j c (by simpa using h)
       rw [show i + (j + 1) = i + 1 + j by omega]
       exact this
theorem Z6x {cs : List ColV} (h : Zl cs = true) : 1 <= cs.length /\ cs.length <= 5 := by
 unfold Zl inB at h
 simp at h
 omega
theorem Y07 {cs : List ColV} (h : Zl cs = true) {i : Nat} {c : ColV} (hc : cs[i]? = some c) : Za0 c = true /\ nmI c.nm cs = i := by
 unfold Zl at h
 rw [dQ] at h
 have h1 := h.1
 split at h1
 . rename_i u hr
   have := Zuk (g := fun i c => Za0 c && decide (nmI c.nm cs = (i : Int))) hr i c hc
   simpa using this
 . cases h1
theorem Yq {cs : List ColV} (h : Zl cs = true) : SmallC cs /\ cs.length + 1 <= big := by
 have h1 := Z6x h
 refine ⟨⟨by unfold big; omega, fun c hc => ?_⟩, by unfold big; omega⟩
 obtain ⟨i, hi⟩ := eU hc
 have := Zo8 (Y07 h hi).1
 unfold big
 omega
theorem Zcp {s out : List ColV} (h : (Zby s out).2 = true) : (Zby s out).1 = out /\ Zl out = true := by
 unfold Zby at *
 split at h
 . rename_i hs; rw [if_pos hs]; exact ⟨rfl, hs⟩
 . cases h
theorem Zcm {s : List ColV} {c : Chg} (h : (Z72 s c).2 = true) : Zl (Z72 s c).1 = true := by
 have key : ∀ out, (Zby s out).2 = true -> Zl (Zby s out).1 = true := fun out h => by rw [(Zcp h).1]; exact (Zcp h).2
 unfold Z72 at *
 split at h
 . cases h
 . rename_i h1
   rw [if_neg h1]
   split at h
   . rename_i h2
     rw [if_pos h2]
     split at h
     . cases h
     . rename_i h3
       rw [if_neg h3]
       exact key _ h
   . rename_i h2
     rw [if_neg h2]
     split at h
     . cases h
     . rename_i i hi
       split at h
       . rename_i x hx
         unfold Y73 at *
         split at h
         . rename_i h4; rw [if_pos h4]; exact key _ h
         . rename_i h4
           rw [if_neg h4]
           split at h
           . rename_i h5; rw [if_pos h5]; exact key _ h
           . rename_i h5
             rw [if_neg h5]
             split at h
             . cases h
             . rename_i h6; rw [if_neg h6]; exact key _ h
       . cases h
def Zpl (_ : Nat) (s : List ColV) (c : Chg) : List ColV ⊕ Unit := bif (Z72 s c).2 then .inl (Z72 s c).1 else .inr ()
def chgs (s : List ColV) (cs : List Chg) : Option (List ColV) := match Zv Zpl 0 s cs with
 | .inl s' => some s'
 | .inr _ => none
variable [Pr1]
theorem Zqd {D : Nat} (hD : 5 <= D) (s : List ColV) (c : Chg) (hs : SmallC s) (hl : s.length + 1 <= big) (hc : SmallG c) : den pr D X8 [.lit Z0 (s.map ColV.c), .agg c.c] = some [.olit Z0 ((Z72 s c).1.map ColV.c), .q (Z72 s c).2] := by
 cases h1 : Z37 c with
 | false =>
   rw [Zys hD s c hs h1]
   unfold Z72
   rw [if_pos h1]
 | true =>
   by_cases hk1 : c.k = 1
   . exact Y17 hD s c hs hl hc h1 hk1
   . have hk : c.k = 2 \/ c.k = 3 \/ c.k = 4 := by
      unfold Z37 at h1
      rw [if_neg hk1] at h1
      by_cases h2 : c.k = 2
      . exact .inl h2
      . by_cases h3 : c.k = 3
        . exact .inr (.inl h3)
        . by_cases h4 : c.k = 4
          . exact .inr (.inr h4)
          . rw [if_neg h2, if_neg h3, if_neg h4] at h1; cases h1
     have hf : ¬ (Z37 c = false) := by rw [h1]; decide
     unfold Z72
     rw [if_neg hf, if_neg hk1]
     cases ha : Z6s c.nm s with
     | none => rw [Zyf hD s c hs h1 (eq_false hk1) ha]
     | some i =>
       have hi := Z0p ha
       have hx : s[i]? = some s[i] := dS hi
       simp only [hx]
       generalize s[i] = x at hx
       have j0 := hs.txt x (dY hx)
       unfold Y73
       obtain ⟨D, rfl, hd⟩ := Zc hD
       rcases hk with hk | hk | hk
       . rw [Y0d hD s c hs h1 hk i ha, if_pos hk]
       . rw [Zz3 s c hk i x (C3.of hd hs h1 ha hx _ ⟨hc.nw, j0.2⟩), if_neg (by omega), if_pos hk]
       . rw [if_neg (by omega), if_neg (by omega)]
         by_cases hq : c.col.k = x.k
         . rw [if_pos hq, Zw3 s c hk i x x (eq_true hq) (C3.of hd hs h1 ha hx _ j0)]
         . rw [if_neg hq, Y1a s c hk i x (eq_false hq) (C3.of hd hs h1 ha hx _ ⟨j0.1, Zcq j0.2⟩) (Zv3 (by omega) x.df c.col.k j0.2)]
theorem Zt3 {D : Nat} (hD : 5 <= D) (s : List ColV) (cs : List Chg) (hs : SmallC s) (hl : s.length + 1 <= big) (hc : ∀ c ∈ cs, SmallG c) (hcl : cs.length <= big) :
 Vg (Zd (Zj (aH D) Z3l) [6, 13, 14, 15] rounds ⟨upd (upd (upd (upd (fun _ => .bad) 6 (cV Z0 0 s.length false)) 13 (.lit Z3 (cs.map Chg.c))) 14 (.n cs.length)) 15 (.n (0 : Nat)), upd (fun _ => none) 0 (cU Z0 (s.map ColV.c)), 1, 0⟩) (List ColV) Unit (Zv Zpl 0 s cs)
  (fun s' o => ∃ U', o = .exit 0 U' /\ U'.s 6 = cV Z0 0 s'.length false /\ U'.h 0 = cU Z0 (s'.map ColV.c)) (fun _ o => ∃ U' b, o = .ret U' /\ U'.s 4 = cV Z0 b 0 false /\ U'.h b = cU Z0 [] /\ U'.s 5 = .q false) := by
 refine Zt cs (fun i (s : List ColV) => ⟨upd (upd (upd (upd (fun _ => .bad) 6 (cV Z0 0 s.length false)) 13 (.lit Z3 (cs.map Chg.c))) 14 (.n cs.length)) 15 (.n i), upd (fun _ => none) 0 (cU Z0 (s.map ColV.c)), 1, 0⟩) Zpl (fun _ s => SmallC s /\ s.length + 1 <= big) _ _ s ⟨hs, hl⟩ hcl (fun i s c K j2 hlt hI => ?_) (fun s K hI => ?_)
 . have hr := Zq (f := Chg.c) j2
   have hw := Zk (n := i) (by unfold big at hcl; omega)
   have e1 := Zqd hD s c hI.1 hI.2 (hc c (dY j2))
   have j0 := Zb ColV.c s
   unfold Zpl
   have j1 := Zcm (s := s) (c := c)
   generalize Z72 s c = r at *
   obtain ⟨s', q⟩ := r
   simp only at e1 j1 ⊢
   cases q with
   | true =>
     simp only [Zd, Z3k, Vz, go_sem, dN, hr, hlt, hw, e1, j0, Za, dO]
     exact Yq (j1 rfl)
   | false =>
     simp only [Zd, Z3k, Vz, go_sem, dN, hr, hlt, e1, j0, Za, dO]
     exact ⟨_, rfl, _, _, rfl, rfl, rfl, rfl⟩
 . have hi : ¬ cs.length < cs.length := by omega
   simp only [Zd, Z3k, Vz, go_sem, hi]
   exact ⟨_, rfl, _, rfl, rfl, rfl⟩
theorem Zbn {D : Nat} (hD : 6 <= D) (s : List ColV) (cs : List Chg) (hs : SmallC s) (hl : s.length + 1 <= big) (hc : ∀ c ∈ cs, SmallG c) (hcl : cs.length <= big) :
 den pr D Wc [.lit Z0 (s.map ColV.c), .lit Z3 (cs.map Chg.c)] = some [.olit Z0 (((chgs s cs).getD []).map ColV.c), .q (chgs s cs).isSome] := by
 obtain ⟨D, rfl, hd⟩ := Zc hD
 rw [Zg4]
 have e0 := Z4n (show 2 <= D by omega) (s.map ColV.c) (by rw [dN]; exact hs.len)
 obtain ⟨out, lo, lp⟩ := Zt3 hd s cs hs hl hc hcl
 rw [show ((0 : Nat) : Int) = 0 from rfl] at lo
 unfold chgs
 cases hr : Zv Zpl 0 s cs with
 | inl s' =>
   rw [hr] at lp
   obtain ⟨U', rfl, l1, l2⟩ := lp
   have j0 := Zb ColV.c s'
   simp only [Z2y, go_sem, e0, lo, l1, l2, dN, Za, j0, dD, fI]
 | inr u =>
   rw [hr] at lp
   obtain ⟨U', b, rfl, l1, l2, l3⟩ := lp
   simp only [Z2y, go_sem, e0, lo, l1, l2, l3, dN, Za, Option.getD_none, fQ, dJ]
end Go.Vm.T
namespace Go.Vm.T
variable [Pr0]
abbrev Znr : List ByteArray := [⟨#[97]⟩, ⟨#[98]⟩, ⟨#[99]⟩, ⟨#[100]⟩, ⟨#[101]⟩, ⟨#[97, 98]⟩]
theorem Zeh {D : Nat} (hD : 1 <= D) : den pr D Z02 [] = some [.olit Wu (Znr.map Yar)] := by
 obtain ⟨D, rfl, hd⟩ := Zc hD
 rw [Zg7]
 simp only [Z6j, go_sem]
theorem Y0h {k : Int} {v : Val} (hk : k = 1 \/ k = 2) (h : Drawn k v) : Z1b v = true /\ Zix v k = true := by
 rcases h with rfl | ⟨h1, ⟨h2, h3, h4⟩ | ⟨h2, h3, h4⟩⟩
 . exact ⟨by decide, by simp [Zix]⟩
 . obtain ⟨vk, vn, vt⟩ := v
   simp only at h1 h3 h4
   subst h1 h2 h4
   have : ∀ n ∈ Zx7, Z1b ⟨1, n, ⟨#[]⟩⟩ = true := by decide
   exact ⟨this vn h3, by simp [Zix]⟩
 . obtain ⟨vk, vn, vt⟩ := v
   have j0 : k = 2 := hk.resolve_left h2
   simp only at h1 h3 h4
   subst h1 j0 h3
   have : ∀ t ∈ Zr0, Z1b ⟨2, 0, t⟩ = true := by decide
   exact ⟨this vt h4, by simp [Zix]⟩
theorem DrawnC.ok {nm : ByteArray} {c : ColV} (h : DrawnC nm c) (hn : nm ∈ Znr) : Za0 c = true := by
 obtain ⟨h1, h2, h3, h4⟩ := h
 have : ∀ t ∈ Znr, Y23 t = true := by decide
 have h5 := this nm hn
 obtain ⟨h6, h7⟩ := Y0h h2 h3
 unfold Za0
 rw [h1, h5, h6, h7]
 have h8 : inB c.k 1 2 = true := by unfold inB; rcases h2 with h | h <;> simp [h]
 rw [h8]
 cases ho : c.once with
 | false => rfl
 | true => rw [h4 ho]; rfl
structure ShI (cs : List ColV) : Prop where
 at_ : ∀ (i : Nat) (c : ColV), cs[i]? = some c -> Za0 c = true /\ Z6s c.nm cs = some i
theorem Zug (nm : ByteArray) (bs : List ColV) : ∀ (as : List ColV) (i : Nat), Zv (nmG nm) i () (as ++ bs) = (match Zv (nmG nm) i () as with
 | .inl _ => Zv (nmG nm) (i + as.length) () bs
 | .inr k => .inr k)
 | [], i => by simp [Zv]
 | a :: as, i => by
   rw [gT]
   have e1 : ∀ l, Zv (nmG nm) i () (a :: l) = match nmG nm i () a with
    | .inl b' => Zv (nmG nm) (i + 1) b' l
    | .inr r => .inr r := fun _ => by rw [Zv]; cases nmG nm i () a <;> rfl
   rw [e1, e1]
   cases hg : nmG nm i () a with
   | inl u =>
     cases u
     simp only
     rw [Zug nm bs as (i + 1), eF, show i + 1 + as.length = i + (as.length + 1) by omega]
   | inr k => rfl
theorem Zzc {nm : ByteArray} {as : List ColV} {k : Nat} (bs : List ColV) (h : Z6s nm as = some k) : Z6s nm (as ++ bs) = some k := by
 unfold Z6s at h ⊢
 rw [Zug]
 cases hr : Zv (nmG nm) 0 () as with
 | inl u => rw [hr] at h; cases h
 | inr j => rw [hr] at h; exact h
theorem Y18 {nm : ByteArray} {as : List ColV} (c : ColV) (h : Z6s nm as = none) (hc : c.nm = nm) : Z6s nm (as ++ [c]) = some as.length := by
 unfold Z6s at h ⊢
 rw [Zug]
 cases hr : Zv (nmG nm) 0 () as with
 | inl u =>
   simp only [dF, Zv, nmG, hc, decide_true, cond_true]
 | inr j => rw [hr] at h; cases h
theorem ShI.app {cs : List ColV} (h : ShI cs) {c : ColV} (hc : Za0 c = true) (hn : Z6s c.nm cs = none) : ShI (cs ++ [c]) := ⟨fun i x hx => by
 by_cases hi : i < cs.length
 . rw [dZ hi] at hx
   obtain ⟨q1, q2⟩ := h.at_ i x hx
   exact ⟨q1, Zzc [c] q2⟩
 . rw [eA (by omega)] at hx
   have : i - cs.length = 0 := by
    have := (dU.1 hx).1
    simp at this; omega
   rw [this] at hx
   simp at hx
   subst hx
   have : i = cs.length := by omega
   subst this
   exact ⟨hc, Y18 c hn rfl⟩⟩
theorem Zhd {V : Type} {g : Nat -> V -> Bool} : ∀ (l : List V) (i : Nat), (∀ (j : Nat) (c : V), l[j]? = some c -> g (i + j) c = true) -> (Zv (fun i (_ : Unit) c => bif g i c then (.inl () : Unit ⊕ Unit) else .inr ()) i () l) = .inl ()
 | [], i, _ => rfl
 | c :: l, i, h => by
   unfold Zv
   have h0 := h 0 c (by simp)
   rw [fM] at h0
   simp only [h0, cond_true]
   exact Zhd l (i + 1) (fun j c hc => by have := h (j + 1) c (by simpa using hc); rw [show i + 1 + j = i + (j + 1) by omega]; exact this)
theorem ShI.shape {cs : List ColV} (h : ShI cs) (h1 : 1 <= cs.length) (h5 : cs.length <= 5) : Zl cs = true := by
 unfold Zl
 have : Zv (shG cs) 0 () cs = .inl () := Zhd (g := fun i c => Za0 c && decide (nmI c.nm cs = i)) cs 0 (fun j c hc => by
  obtain ⟨q1, q2⟩ := h.at_ j c hc
  simp only [q1, eZ, eJ, nmI, q2, dF])
 rw [this]
 simp only [eZ]
 unfold inB
 simp; omega
abbrev Zej (h : Hp) (m b : Nat) (ns : List Int) (p : Nat) (cs : List ColV) : Hp := upd (upd (low m h) b (rdB ns p)) m (cU Z0 (cs.map ColV.c))
theorem Zcg {D : Nat} (hD : 4 <= D) (ns : List Int) (hc : Code ns) (h : Hp) (m b : Nat) (B : Below b m) : ∀ (r : Nat) (cs : List ColV) (ex : Bool) (p K : Nat), ShI cs -> cs.length + r <= 4 -> p + 6 * r <= 2 ^ 30 -> r < K ->
 ∃ cs' ex' p', ShI cs' /\ cs'.length <= cs.length + r /\ cs.length <= cs'.length /\ (0 < r -> 0 < cs'.length) /\ p' <= p + 6 * r /\ ∃ U', Zd (Zj (aH D) Z3s) [0, 3, 4] K ⟨upd (upd (upd (fun _ => .bad) 0 (.ptr b 0 0)) 3 (cV Z0 m cs.length ex)) 4 (.n (r : Int)), Zej h m b ns p cs, m + 1, m⟩ = some (.exit 0 U') /\ U'.s 3 = cV Z0 m cs'.length ex' /\ U'.h = Zej h m b ns p' cs' /\ U'.n = m + 1 /\ U'.base = m
 | 0, cs, ex, p, K, hf, hl, hp, hK => by
   obtain ⟨K, rfl⟩ : ∃ j, K = j + 1 := ⟨K - 1, by omega⟩
   have hz : ¬ ((0 : Int) < ((0 : Nat) : Int)) := by decide
   refine ⟨cs, ex, p, hf, by omega, by omega, by omega, by omega, ?_⟩
   simp only [Zd, Z3r, Vy, go_sem, hz]
   exact ⟨_, rfl, rfl, rfl, rfl, rfl⟩
 | r + 1, cs, ex, p, K, hf, hl, hp, hK => by
   obtain ⟨K, rfl⟩ : ∃ j, K = j + 1 := ⟨K - 1, by omega⟩
   have hz : (0 : Int) < ((r + 1 : Nat) : Int) := by omega
   have hw : IntKind.i64.wrap (((r + 1 : Nat) : Int) - 1) = (r : Int) := Zfk (by omega)
   obtain ⟨nm, j7, e1⟩ := Zv4 ns hc Znr (by decide) p (by omega)
   have j2 := fun h m b bl => e1 D (by omega) h m b bl 6 false
   simp only [eF, eG] at j2
   obtain ⟨c, p1, g1, G1, j3, j9, e2⟩ := Zv5 ns hc nm (p + 1) (by omega)
   have j5 := j3.nm
   have e3 := Ze2 (show 1 <= D by omega) nm cs (by unfold big; omega)
   have e0 := Zeh (show 1 <= D by omega)
   have j4 := Zb ColV.c cs
   have j1 : cs.length + 1 <= big := by unfold big; omega
   obtain ⟨cn, ck, cd, co, cf⟩ := c
   simp only at j5
   subst j5
   unfold nmI at e3
   cases hat : Z6s cn cs with
   | some j =>
     rw [hat] at e3
     simp only at e3
     have j0 : ¬ (j : Int) < 0 := by omega
     obtain ⟨cs', ex', p', f1, f2, f3, f4, f5, U', f6⟩ := Zcg hD ns hc h m b B r cs ex p1 K hf (by omega) (by omega) (by omega)
     have j8 : 0 < cs.length := by have := Z0p hat; omega
     refine ⟨cs', ex', p', f1, by omega, by omega, by omega, by omega, U', ?_⟩
     rw [<- f6.1]
     refine ⟨?_, f6.2⟩
     simp only [Zd, Z3r, Vy, go_sem, hz, hw, e0, j2, e2 D (by omega), e3, j0, j4, B.a, Z8y (of_eq_true B.l), Wl, dN, dO]
   | none =>
     rw [hat] at e3
     simp only at e3
     have j0 : (-1 : Int) < 0 := by decide
     have j6 := hf.app (j3.ok j7) hat
     obtain ⟨cs', ex', p', f1, f2, f3, f4, f5, U', f6⟩ := Zcg hD ns hc h m b B r (cs ++ [⟨cn, ck, cd, co, cf⟩]) false p1 K j6 (by simp; omega) (by omega) (by omega)
     simp only [eE, eF, eG] at f2 f3
     refine ⟨cs', ex', p', f1, by omega, by omega, by omega, by omega, U', ?_⟩
     rw [<- f6.1]
     refine ⟨?_, f6.2⟩
     simp only [Zd, Z3r, Vy, go_sem, hz, hw, e0, j2, e2 D (by omega), e3, j0, j4, j1, B.a, Z8y (of_eq_true B.l), Wl, dN, eE, eO, Zej, dO]
theorem Zwp {D : Nat} (hD : 5 <= D) (ns : List Int) (hc : Code ns) (p : Nat) (hp : p <= 2 ^ 29) (h : Hp) (m b : Nat) (hb : b < m) (hh : h b = rdB ns p) :
 ∃ cs ex p', ShI cs /\ 1 <= cs.length /\ cs.length <= 4 /\ p' <= p + 25 /\ dcl pr D Z31 [.ptr b 0 0] h m = some ([cV Z0 m cs.length ex], Zej h m b ns p' cs, m + 1) := by
 obtain ⟨D, rfl, hd⟩ := Zc hD
 rw [Zfu]
 have B := Z8 hb
 obtain ⟨x, hx, e1⟩ := Wv ns hc 4 p (by omega)
 have j1 := hx.1 (by decide)
 have j0 : IntKind.i64.wrap (1 + x) = 1 + x := wrap_i64 (by omega) (by omega)
 obtain ⟨r, hr⟩ : ∃ r : Nat, 1 + x = (r : Int) := ⟨(1 + x).toNat, by omega⟩
 rw [hr] at j0
 obtain ⟨cs, ex, p', f1, f2, f3, f4, f5, U', lo, l1, l2, l3, l4⟩ := Zcg hd ns hc h m b B r [] true (p + 1) rounds ⟨fun i c h => by simp at h⟩ (by simp; omega) (by omega) (by unfold rounds; omega)
 simp only [Zej, eG, dJ] at lo
 simp only [eG] at f2
 refine ⟨cs, ex, p', f1, f4 (by omega), by omega, by omega, ?_⟩
 simp only [Z6i, go_sem, e1 D (by omega), j0, hr, hh, B.a, Z8y hb, lo, l1, l2, l3, l4]
end Go.Vm.T
namespace Go.Vm.T
def hdQ : ACode -> ACode
 | .sq a _ => a
 | c => c
def tlQ : ACode -> ACode
 | .sq _ b => b
 | c => c
def Zs : Nat -> ACode -> ACode
 | 0, c => c
 | n + 1, c => tlQ (Zs n c)
attribute [go_sem] hdQ tlQ Zs
theorem Xz {E : Env} {C : ACode} {U U' : St} (i : Nat) (h : Zj E (hdQ (Zs i C)) U = some (.norm U')) (hC : Zs i C = .sq (hdQ (Zs i C)) (Zs (i + 1) C)) : Zj E (Zs i C) U = Zj E (Zs (i + 1) C) U' := by
 rw [hC]
 show Zh2 (Zj E (hdQ (Zs i C)) U) (fun O => Zj E (Zs (i + 1) C) O) = _
 rw [h]
 rfl
variable [Pr0]
abbrev Y98 : List ByteArray := [⟨#[97]⟩, ⟨#[98]⟩, ⟨#[99]⟩, ⟨#[100]⟩, ⟨#[101]⟩, ⟨#[120]⟩, ⟨#[121, 121]⟩]
abbrev Y9l : List ByteArray := [⟨#[]⟩, ⟨#[65]⟩, ⟨#[97, 98, 99, 100]⟩, ⟨#[97]⟩]
abbrev Yab : List ByteArray := [⟨#[113]⟩, ⟨#[65]⟩, ⟨#[97, 98, 99, 100]⟩]
abbrev Ye0 : List Int := [0, 5, -1, 2]
abbrev Yeq : List Int := [0, 3, 1]
abbrev Y15 : List A := [.n 0, .s ⟨#[]⟩, .s ⟨#[]⟩, .s ⟨#[]⟩, .n 0, .q false, .q false, .n 0, .n 0, .s ⟨#[]⟩]
structure Drew (ns : List Int) (p k b m : Nat) (h : Hp) (n' : Nat) (h' : Hp) : Prop where
 at_ : ∃ p', p' <= p + k /\ h' b = rdB ns p'
 n : m <= n'
 low : ∀ y, y < m -> ¬ y = b -> h' y = h y
structure CS (ns : List Int) (b m qs cp : Nat) (ex ow : Bool) (cs : List ColV) (h : Hp) (q4 q6 : Nat) (nm : ByteArray) (s : Nat -> A) (H : Hp) (n p : Nat) (c : Chg) : Prop where
 s0 : s 0 = .ptr b 0 0
 s1 : s 1 = .ref Z0 qs 0 cs.length cp ex
 s4 : s 4 = .ptr q4 0 0
 s5 : s 5 = .s nm
 s6 : s 6 = .ptr q6 0 0
 hb : H b = rdB ns p
 hs : H qs = some ⟨Z0, cs.map ColV.c, ow, false⟩
 h4 : H q4 = cT Z3 [Y15]
 h6 : H q6 = cT Z3 [c.c]
 bm : b < m
 sm : qs < m
 sb : ¬ qs = b
 m4 : m <= q4
 m6 : m <= q6
 l4 : q4 < n
 l6 : q6 < n
 ne : ¬ q4 = q6
 low : ∀ y, y < m -> ¬ y = b -> H y = h y
 sg : SmallG c
theorem CS.next {ns : List Int} {b m qs cp : Nat} {ex ow : Bool} {cs : List ColV} {h : Hp} {q4 q6 : Nat} {nm : ByteArray} {s : Nat -> A} {H : Hp} {n p : Nat} {c : Chg} (I : CS ns b m qs cp ex ow cs h q4 q6 nm s H n p c) {s' : Nat -> A} {H' : Hp} {n' p' : Nat} {c' : Chg}
 (e0 : s' 0 = s 0) (e1 : s' 1 = s 1) (e4 : s' 4 = s 4) (e5 : s' 5 = s 5) (e6 : s' 6 = s 6) (hb : H' b = rdB ns p') (h6 : H' q6 = cT Z3 [c'.c]) (hH : ∀ y, y < n -> ¬ y = b -> ¬ y = q6 -> H' y = H y) (hn : n <= n') (sg : SmallG c') : CS ns b m qs cp ex ow cs h q4 q6 nm s' H' n' p' c' := by
 have i1 := I.bm; have i2 := I.sm; have i3 := I.m4; have i4 := I.m6; have i5 := I.l4; have i6 := I.l6
 exact ⟨e0.trans I.s0, e1.trans I.s1, e4.trans I.s4, e5.trans I.s5, e6.trans I.s6, hb, (hH qs (by omega) I.sb (by omega)).trans I.hs, (hH q4 (by omega) (by omega) I.ne).trans I.h4, h6, I.bm, I.sm, I.sb, I.m4, I.m6, by omega, by omega, I.ne, fun y hy j0 => (hH y (by omega) j0 (by omega)).trans (I.low y hy j0), sg⟩
def cLQ : ACode -> ACode
 | .sq a _ | .ite _ a _ => a
 | .bl _ c => c
 | c => c
def cRQ : ACode -> ACode
 | .sq _ b | .ite _ _ b => b
 | c => c
attribute [go_sem] cLQ cRQ
theorem Ydx {D : Nat} (hD : 4 <= D) (ns : List Int) (hc : Code ns) (p : Nat) (hp : p + 40 <= 2 ^ 40) (cs : List ColV) (hcs : SmallC cs) (cp : Nat) (ex ow : Bool) (h : Hp) (m b qs : Nat) (hb : b < m) (hqs : qs < m) (hne : ¬ qs = b) (hh : h b = rdB ns p) (hs : h qs = some ⟨Z0, cs.map ColV.c, ow, false⟩) :
 ∃ s H n q4 q6 nm p' c, Zj (aH D) Z07.code ⟨slots [.ptr b 0 0, .ref Z0 qs 0 cs.length cp ex], h, m, m⟩ = Zj (aH D) (Zs 4 Z07.code) ⟨s, H, n, m⟩ /\ p' <= p + 4 /\ nm.size <= big /\ CS ns b m qs cp ex ow cs h q4 q6 nm s H n p' c /\ c.col = zC /\ 1 <= c.k /\ c.k <= 4 := by
 show ∃ s H n q4 q6 nm p' c, Zj _ (Zs 0 Z07.code) _ = _ /\ _
 have B := Z8 hb
 have Q := Z8 hqs
 have n3 := eqF hne
 have n4 := eqF (Ne.symm hne)
 obtain ⟨j2, j5, e1⟩ := Zv4 ns hc Znr (by decide) p (by omega)
 have j8 := fun h m b bl => e1 D (by omega) h m b bl 6 false
 simp only [eF, eG] at j8
 have e0 := Zeh (show 1 <= D by omega)
 have h0 : Zj (aH D) (hdQ (Zs 0 Z07.code)) ⟨slots [.ptr b 0 0, .ref Z0 qs 0 cs.length cp ex], h, m, m⟩ = some (.norm ⟨upd (slots [.ptr b 0 0, .ref Z0 qs 0 cs.length cp ex]) 4 (.ptr m 0 0), upd h m (cT Z3 [Y15]), m + 1, m⟩) := by
  simp only [Z07, hdQ, Zs, go_sem]
 rw [Xz 0 h0 rfl]
 have h1 : ∃ s H n, Zj (aH D) (hdQ (Zs 1 Z07.code)) ⟨upd (slots [.ptr b 0 0, .ref Z0 qs 0 cs.length cp ex]) 4 (.ptr m 0 0), upd h m (cT Z3 [Y15]), m + 1, m⟩ = some (.norm ⟨s, H, n, m⟩) /\ s 0 = .ptr b 0 0 /\ s 1 = .ref Z0 qs 0 cs.length cp ex /\ s 4 = .ptr m 0 0 /\ s 5 = .s j2 /\ m < n /\ H b = rdB ns (p + 1) /\ H qs = some ⟨Z0, cs.map ColV.c, ow, false⟩ /\ H m = cT Z3 [Y15] /\ ∀ y, y < m -> ¬ y = b -> H y = h y := by
  simp only [Z07, go_sem, e0, j8, hh, B.a]
  refine ⟨_, _, _, rfl, rfl, rfl, rfl, rfl, by omega, ?_, ?_, ?_, fun y hy hne => ?_⟩
  . simp only [go_sem, B.a]
  . simp only [go_sem, hs, n3, Q.a]
  . simp only [go_sem, B.e']
  . have Y := Z8 hy
    simp only [go_sem, hne, Y.a]
 obtain ⟨s, H, n, h1, a0, a1, a4, a5, an, ab, as, am, j4⟩ := h1
 rw [Xz 1 h1 rfl]
 have B := Z8 (Nat.lt_trans hb an)
 have Q := Z8 (Nat.lt_trans hqs an)
 have M := Z8 an
 have m1 : (m = b) = False := eqF (by omega)
 have m2 : (b = m) = False := eqF (by omega)
 have m3 : (qs = m) = False := eqF (by omega)
 have hl : cs.length <= big := hcs.len
 have h2 : ∃ s' H' n' nm p', Zj (aH D) (hdQ (Zs 2 Z07.code)) ⟨s, H, n, m⟩ = some (.norm ⟨s', H', n', m⟩) /\ p' <= p + 3 /\ nm.size <= big /\ s' 0 = .ptr b 0 0 /\ s' 1 = .ref Z0 qs 0 cs.length cp ex /\ s' 4 = .ptr m 0 0 /\ s' 5 = .s nm /\ n <= n' /\ H' b = rdB ns p' /\ ∀ y, y < n -> ¬ y = b -> H' y = H y := by
  have j6 : j2.size <= big := by
   have : ∀ x ∈ Znr, x.size <= 5 := by decide
   have := this j2 j5
   unfold big; omega
  by_cases hz : (0 : Int) < (cs.length : Int)
  . obtain ⟨x, hx, e2⟩ := Wv ns hc 6 (p + 1) (by omega)
    by_cases hx0 : 0 < x
    . obtain ⟨y, hy, e3⟩ := Wv ns hc cs.length (p + 2) (by omega)
      have je := hy.1 (by omega)
      obtain ⟨j, rfl⟩ : ∃ j : Nat, y = (j : Int) := ⟨y.toNat, by omega⟩
      have hj : j < cs.length := by omega
      have j9 : cs[j]? = some cs[j] := dS hj
      have hr := Zq (f := ColV.c) j9
      have jc := (hcs.txt cs[j] (eV hj)).1
      generalize cs[j] = cj at *
      have j0 := eP j
      have jt := eQ j
      simp only [Z07, go_sem, a0, a1, hz, hx0, hj, hr, j0, jt, ab, as, n3, e2 D (by omega), e3 D (by omega), B.l]
      refine ⟨_, _, _, cj.nm, p + 3, rfl, by omega, jc, a0, a1, a4, rfl, by omega, ?_, fun y hy hne => ?_⟩
      . simp only [go_sem]
      . simp only [go_sem, hne]
    . simp only [Z07, go_sem, a0, a1, hz, hx0, ab, e2 D (by omega), B.l]
      refine ⟨_, _, _, j2, p + 2, rfl, by omega, j6, a0, a1, a4, a5, by omega, ?_, fun y hy hne => ?_⟩
      . simp only [go_sem]
      . simp only [go_sem, hne]
  . simp only [Z07, go_sem, a0, a1, hz]
    exact ⟨_, _, _, j2, p + 1, rfl, by omega, j6, a0, a1, a4, a5, by omega, ab, fun y hy hne => rfl⟩
 obtain ⟨s2, H2, n2, nm, p2, h2, jf, j7, c0, c1, c4, c5, cn, cb, j1⟩ := h2
 rw [Xz 2 h2 rfl]
 obtain ⟨x, hx, e4⟩ := Wv ns hc 4 p2 (by omega)
 have jd := hx.1 (by decide)
 have jb : IntKind.i64.wrap (1 + x) = 1 + x := wrap_i64 (by omega) (by omega)
 have B := Z8 (show b < n2 by omega)
 have Q := Z8 (show qs < n2 by omega)
 have M := Z8 (show m < n2 by omega)
 have h3 : ∃ s' H' n' q6, Zj (aH D) (hdQ (Zs 3 Z07.code)) ⟨s2, H2, n2, m⟩ = some (.norm ⟨s', H', n', m⟩) /\ CS ns b m qs cp ex ow cs h m q6 nm s' H' n' (p2 + 1) ⟨1 + x, nm, ⟨#[]⟩, zC⟩ := by
  simp only [Z07, go_sem, c0, c5, cb, e4 D (by omega), jb, B.a]
  refine ⟨_, _, _, n2 + 1, rfl, ⟨c0, c1, c4, c5, rfl, ?_, ?_, ?_, ?_, hb, hqs, hne, dO _, by omega, by omega, by omega, by omega, fun y hy j3 => ?_, ⟨j7, dG _, dG _, dG _⟩⟩⟩
  . simp only [go_sem, B.k]
  . simp only [go_sem, Q.k, n3]; rw [j1 qs (by omega) hne]; exact as
  . simp only [go_sem, M.k, m1]; rw [j1 m (by omega) (by omega)]; exact am
  . simp only [go_sem]; rfl
  . have Y := Z8 (show y < n2 by omega)
    simp only [go_sem, Y.k, j3]; rw [j1 y (by omega) j3]; exact j4 y hy j3
 obtain ⟨s3, H3, ja, q6, h3, I⟩ := h3
 exact ⟨s3, H3, ja, m, q6, nm, p2 + 1, ⟨1 + x, nm, ⟨#[]⟩, zC⟩, Xz 3 h3 rfl, by omega, j7, I, rfl, by simp only; omega, by simp only; omega⟩
set_option maxHeartbeats 4000000 in
theorem Yee {D : Nat} (hD : 5 <= D) (ns : List Int) (hc : Code ns) (cs : List ColV) (hcs : SmallC cs) (cp : Nat) (ex ow : Bool) (h : Hp) (m b qs q4 q6 : Nat) (nm : ByteArray) (s : Nat -> A) (H : Hp) (n p : Nat) (hp : p + 20 <= 2 ^ 40) (c : Chg) (I : CS ns b m qs cp ex ow cs h q4 q6 nm s H n p c) (hcol : c.col = zC) (k1 : 1 <= c.k) (k4 : c.k <= 4) :
 ∃ s' H' n' p' c', Zj (aH D) (hdQ (Zs 4 Z07.code)) ⟨s, H, n, m⟩ = some (.norm ⟨s', H', n', m⟩) /\ p' <= p + 8 /\ CS ns b m qs cp ex ow cs h q4 q6 nm s' H' n' p' c' := by
 have i1 := I.bm; have i2 := I.sm; have i3 := I.m4; have i4 := I.m6; have i5 := I.l4; have i6 := I.l6
 have B := Z8 (show b < n by omega)
 have Q := Z8 (show qs < n by omega)
 have M := Z8 I.l6
 have n3 := eqF I.sb
 have n4 := eqF (Ne.symm I.sb)
 have n7 : (b = q6) = False := eqF (by omega)
 have n8 : (q6 = b) = False := eqF (by omega)
 have j9 : (qs = q6) = False := eqF (by omega)
 have n12 : (q6 = qs) = False := eqF (by omega)
 obtain ⟨ck, j7, j3, jd⟩ := c
 simp only at hcol k1 k4
 subst hcol
 have z0 := I.sg.nm
 have z1 := I.sg.nw
 simp only at z0 z1
 rcases (show ck = 1 \/ ck = 2 \/ ck = 3 \/ ck = 4 by omega) with rfl | rfl | rfl | rfl
 . -- a column more
   obtain ⟨j4, j2, e1⟩ := Zv4 ns hc Znr (by decide) p (by omega)
   have j1 := fun h m b bl => e1 D (by omega) h m b bl 6 false
   simp only [eF, eG] at j1
   have e0 := Zeh (show 1 <= D by omega)
   obtain ⟨col, p1, g1, G1, hcol, jg, e2⟩ := Zv5 ns hc j4 (p + 1) (by omega)
   have w1 : j4.size <= big := by
    have : ∀ x ∈ Znr, x.size <= 5 := by decide
    have := this j4 j2
    unfold big; omega
   have w2 := hcol.df.size
   have w3 := hcol.nm
   obtain ⟨xn, xk, xd, xo, j8, j6, j5⟩ := col
   simp only at w2 w3
   subst w3
   have w4 : j5.size <= big := by unfold big; omega
   by_cases hq : xd = true /\ j8 = 0
   . obtain ⟨rfl, rfl⟩ := hq
     obtain ⟨x, hx, e3⟩ := Wv ns hc 4 p1 (by omega)
     by_cases hx0 : 0 < x
     . simp only [Z07, go_sem, I.s0, I.s6, I.hb, I.h6, n7, n8, B.a, M.a, e0, j1, e2 D (by omega), e3 D (by omega), hx0]
       refine ⟨_, _, _, p1 + 1, ⟨1, ⟨#[]⟩, j3, ⟨xn, xk, false, xo, ⟨0, j6, j5⟩⟩⟩, rfl, by omega, I.next rfl rfl rfl rfl rfl ?_ ?_ (fun y hy h1 h2 => ?_) (by omega) ⟨dG _, z1, w1, w4⟩⟩
       . simp only [go_sem, B.a, n7]
       . simp only [go_sem, M.a, n8]
         first | done | rfl | exact I.h6
       . have Y := Z8 hy
         simp only [go_sem, h1, h2, Y.a]
     . simp only [Z07, go_sem, I.s0, I.s6, I.hb, I.h6, n7, n8, B.a, M.a, e0, j1, e2 D (by omega), e3 D (by omega), hx0]
       refine ⟨_, _, _, p1 + 1, ⟨1, ⟨#[]⟩, j3, ⟨xn, xk, true, xo, ⟨0, j6, j5⟩⟩⟩, rfl, by omega, I.next rfl rfl rfl rfl rfl ?_ ?_ (fun y hy h1 h2 => ?_) (by omega) ⟨dG _, z1, w1, w4⟩⟩
       . simp only [go_sem, B.a, n7]
       . simp only [go_sem, M.a, n8]
         first | done | rfl | exact I.h6
       . have Y := Z8 hy
         simp only [go_sem, h1, h2, Y.a]
   . have jf : xd = false \/ (xd = true /\ (j8 = 0) = False) := by
      cases xd with
      | false => exact .inl rfl
      | true => exact .inr ⟨rfl, eq_false fun h => hq ⟨rfl, h⟩⟩
     rcases jf with rfl | ⟨rfl, je⟩
     . simp only [Z07, go_sem, I.s0, I.s6, I.hb, I.h6, n7, n8, B.a, M.a, e0, j1, e2 D (by omega)]
       refine ⟨_, _, _, p1, ⟨1, ⟨#[]⟩, j3, ⟨xn, xk, false, xo, ⟨j8, j6, j5⟩⟩⟩, rfl, by omega, I.next rfl rfl rfl rfl rfl ?_ ?_ (fun y hy h1 h2 => ?_) (by omega) ⟨dG _, z1, w1, w4⟩⟩
       . simp only [go_sem, B.a, n7]
       . simp only [go_sem, M.a, n8]
         first | done | rfl | exact I.h6
       . have Y := Z8 hy
         simp only [go_sem, h1, h2, Y.a]
     . simp only [Z07, go_sem, I.s0, I.s6, I.hb, I.h6, n7, n8, B.a, M.a, e0, j1, e2 D (by omega), je]
       refine ⟨_, _, _, p1, ⟨1, ⟨#[]⟩, j3, ⟨xn, xk, true, xo, ⟨j8, j6, j5⟩⟩⟩, rfl, by omega, I.next rfl rfl rfl rfl rfl ?_ ?_ (fun y hy h1 h2 => ?_) (by omega) ⟨dG _, z1, w1, w4⟩⟩
       . simp only [go_sem, B.a, n7]
       . simp only [go_sem, M.a, n8]
         first | done | rfl | exact I.h6
       . have Y := Z8 hy
         simp only [go_sem, h1, h2, Y.a]
 . -- a column less
   simp only [Z07, go_sem, I.s0, I.s6, I.h6]
   exact ⟨_, _, _, p, _, rfl, by omega, I.next rfl rfl rfl rfl rfl I.hb I.h6 (fun y hy h1 h2 => rfl) (by omega) I.sg⟩
 . -- another name
   obtain ⟨j4, j2, e1⟩ := Zv4 ns hc Y98 (by decide) p (by omega)
   have j1 := fun h m b bl => e1 D (by omega) h m b bl 7 true
   simp only [eF, eG] at j1
   have w1 : j4.size <= big := by
    have : ∀ x ∈ Y98, x.size <= 5 := by decide
    have := this j4 j2
    unfold big; omega
   simp only [Z07, go_sem, I.s0, I.s6, I.hb, I.h6, n8, B.a, M.e, j1]
   refine ⟨_, _, _, p + 1, ⟨3, j7, j4, zC⟩, rfl, by omega, I.next rfl rfl rfl rfl rfl ?_ ?_ (fun y hy h1 h2 => ?_) (by omega) ⟨z0, w1, dG _, dG _⟩⟩
   . simp only [go_sem, B.e, n7]
   . simp only [go_sem, M.e, n8]
     first | done | rfl | exact I.h6
   . have Y := Z8 hy
     simp only [go_sem, h1, h2, Y.e]
 . -- another kind
   obtain ⟨x, hx, e1⟩ := Wv ns hc 2 p (by omega)
   have jh := hx.1 (by decide)
   have ja : IntKind.i64.wrap (1 + x) = 1 + x := wrap_i64 (by omega) (by omega)
   have hl : cs.length <= big := hcs.len
   have e2 := Ze2 (show 1 <= D by omega) nm cs hl
   have jb := Zb ColV.c cs
   unfold nmI at e2
   cases hat : Z6s nm cs with
   | none =>
     rw [hat] at e2
     simp only at e2
     have m0 : ¬ (0 : Int) <= -1 := by decide
     simp only [Z07, go_sem, I.s0, I.s1, I.s5, I.s6, I.hb, I.h6, I.hs, n3, n8, j9, B.l, e1 D (by omega), e2, ja, m0, jb, dN, dO]
     refine ⟨_, _, _, p + 1, ⟨4, j7, j3, { zC with k := 1 + x }⟩, rfl, by omega, I.next rfl rfl rfl rfl rfl ?_ ?_ (fun y hy h1 h2 => ?_) (by omega) ⟨z0, z1, dG _, dG _⟩⟩
     . simp only [go_sem, n7]
     . simp only [go_sem, n8]
       first | done | rfl | exact I.h6
     . have Y := Z8 hy
       simp only [go_sem, h1, h2]
   | some j =>
     rw [hat] at e2
     simp only at e2
     have j0 := eP j
     have jt := eQ j
     have hj := Z0p hat
     have jc : cs[j]? = some cs[j] := dS hj
     have hr := Zq (f := ColV.c) jc
     generalize cs[j] = cj at *
     obtain ⟨y, hy, e3⟩ := Wv ns hc 6 (p + 1) (by omega)
     by_cases hy0 : 0 < y
     . simp only [Z07, go_sem, I.s0, I.s1, I.s5, I.s6, I.hb, I.h6, I.hs, n3, n7, n8, j9, B.l, e1 D (by omega), e2, e3 D (by omega), hy0, ja, j0, jt, hj, hr, jb, dN, dO]
       refine ⟨_, _, _, p + 2, ⟨4, j7, j3, { zC with k := IntKind.i64.wrap (3 - cj.k) }⟩, rfl, by omega, I.next rfl rfl rfl rfl rfl ?_ ?_ (fun y hy h1 h2 => ?_) (by omega) ⟨z0, z1, dG _, dG _⟩⟩
       . simp only [go_sem, n7]
       . simp only [go_sem, n8]
         first | done | rfl | exact I.h6
       . have Y := Z8 hy
         simp only [go_sem, h1, h2]
     . simp only [Z07, go_sem, I.s0, I.s1, I.s5, I.s6, I.hb, I.h6, I.hs, n3, n7, n8, j9, B.l, e1 D (by omega), e2, e3 D (by omega), hy0, ja, j0, jt, hj, hr, jb, dN, dO]
       refine ⟨_, _, _, p + 2, ⟨4, j7, j3, { zC with k := 1 + x }⟩, rfl, by omega, I.next rfl rfl rfl rfl rfl ?_ ?_ (fun y hy h1 h2 => ?_) (by omega) ⟨z0, z1, dG _, dG _⟩⟩
       . simp only [go_sem, n7]
       . simp only [go_sem, n8]
         first | done | rfl | exact I.h6
       . have Y := Z8 hy
         simp only [go_sem, h1, h2]
theorem Ye1 {D : Nat} (hD : 5 <= D) (ns : List Int) (hc : Code ns) (cs : List ColV) (hcs : SmallC cs) (cp : Nat) (ex ow : Bool) (h : Hp) (m b qs q4 q6 : Nat) (nm : ByteArray) (s : Nat -> A) (H : Hp) (n p : Nat) (hp : p + 20 <= 2 ^ 40) (c : Chg) (I : CS ns b m qs cp ex ow cs h q4 q6 nm s H n p c) :
 ∃ s' H' n' p' c', Zj (aH D) (hdQ (Zs 5 Z07.code)) ⟨s, H, n, m⟩ = some (.norm ⟨s', H', n', m⟩) /\ p' <= p + 2 /\ CS ns b m qs cp ex ow cs h q4 q6 nm s' H' n' p' c' := by
 have i1 := I.bm; have i2 := I.sm; have i3 := I.m4; have i4 := I.m6; have i5 := I.l4; have i6 := I.l6
 have B := Z8 (show b < n by omega)
 have Q := Z8 (show qs < n by omega)
 have M := Z8 I.l6
 have n3 := eqF I.sb
 have n4 := eqF (Ne.symm I.sb)
 have n7 : (b = q6) = False := eqF (by omega)
 have n8 : (q6 = b) = False := eqF (by omega)
 have ja : (qs = q6) = False := eqF (by omega)
 have n12 : (q6 = qs) = False := eqF (by omega)
 obtain ⟨ck, j9, j7, j4, j8, j3, j2, j6, j5, j1⟩ := c
 have z0 := I.sg.nm
 have z1 := I.sg.nw
 have z2 := I.sg.cn
 have z3 := I.sg.dt
 simp only at z0 z1 z2 z3
 obtain ⟨x, hx, e0⟩ := Wv ns hc 50 p (by omega)
 by_cases x0 : x = 0
 . obtain ⟨y, hy, e1⟩ := Zt5 ns hc Ye0 (by decide) (p + 1) (by omega)
   have j0 := fun h m b bl => e1 D (by omega) h m b bl 4 true
   simp only [eF, eG] at j0
   simp only [Z07, go_sem, I.s0, I.s6, I.hb, I.h6, n8, B.a, M.e, e0 D (by omega), j0, x0]
   refine ⟨_, _, _, p + 2, ⟨y, j9, j7, j4, j8, j3, j2, j6, j5, j1⟩, rfl, by omega, I.next rfl rfl rfl rfl rfl ?_ ?_ (fun y hy h1 h2 => ?_) (by omega) ⟨z0, z1, z2, z3⟩⟩
   . simp only [go_sem, B.e, n7]
   . simp only [go_sem, M.e, n8]
     first | done | rfl | exact I.h6
   . have Y := Z8 hy
     simp only [go_sem, h1, h2, Y.e]
 . by_cases x1 : x = 1
   . obtain ⟨y, hy, e1⟩ := Zv4 ns hc Y9l (by decide) (p + 1) (by omega)
     have j0 := fun h m b bl => e1 D (by omega) h m b bl 4 true
     simp only [eF, eG] at j0
     have w1 : y.size <= big := by
      have : ∀ x ∈ Y9l, x.size <= 5 := by decide
      have := this y hy
      unfold big; omega
     subst x1
     simp only [Z07, go_sem, I.s0, I.s6, I.hb, I.h6, n8, B.a, M.e, e0 D (by omega), j0]
     refine ⟨_, _, _, p + 2, ⟨ck, y, j7, j4, j8, j3, j2, j6, j5, j1⟩, rfl, by omega, I.next rfl rfl rfl rfl rfl ?_ ?_ (fun y hy h1 h2 => ?_) (by omega) ⟨w1, z1, z2, z3⟩⟩
     . simp only [go_sem, B.e, n7]
     . simp only [go_sem, M.e, n8]
       first | done | rfl | exact I.h6
     . have Y := Z8 hy
       simp only [go_sem, h1, h2, Y.e]
   . by_cases x2 : x = 2
     . obtain ⟨y, hy, e1⟩ := Zv4 ns hc Yab (by decide) (p + 1) (by omega)
       have j0 := fun h m b bl => e1 D (by omega) h m b bl 3 true
       simp only [eF, eG] at j0
       have w1 : y.size <= big := by
        have : ∀ x ∈ Yab, x.size <= 5 := by decide
        have := this y hy
        unfold big; omega
       subst x2
       simp only [Z07, go_sem, I.s0, I.s6, I.hb, I.h6, n8, B.a, M.e, e0 D (by omega), j0]
       refine ⟨_, _, _, p + 2, ⟨ck, j9, y, j4, j8, j3, j2, j6, j5, j1⟩, rfl, by omega, I.next rfl rfl rfl rfl rfl ?_ ?_ (fun y hy h1 h2 => ?_) (by omega) ⟨z0, w1, z2, z3⟩⟩
       . simp only [go_sem, B.e, n7]
       . simp only [go_sem, M.e, n8]
         first | done | rfl | exact I.h6
       . have Y := Z8 hy
         simp only [go_sem, h1, h2, Y.e]
     . by_cases x3 : x = 3
       . obtain ⟨y, hy, e1⟩ := Zt5 ns hc Yeq (by decide) (p + 1) (by omega)
         have j0 := fun h m b bl => e1 D (by omega) h m b bl 3 true
         simp only [eF, eG] at j0
         subst x3
         simp only [Z07, go_sem, I.s0, I.s6, I.hb, I.h6, n8, B.a, M.e, e0 D (by omega), j0]
         refine ⟨_, _, _, p + 2, ⟨ck, j9, j7, j4, y, j3, j2, j6, j5, j1⟩, rfl, by omega, I.next rfl rfl rfl rfl rfl ?_ ?_ (fun y hy h1 h2 => ?_) (by omega) ⟨z0, z1, z2, z3⟩⟩
         . simp only [go_sem, B.e, n7]
         . simp only [go_sem, M.e, n8]
           first | done | rfl | exact I.h6
         . have Y := Z8 hy
           simp only [go_sem, h1, h2, Y.e]
       . by_cases x4 : x = 4
         . subst x4
           simp only [Z07, go_sem, I.s0, I.s6, I.hb, I.h6, n8, B.l, e0 D (by omega)]
           refine ⟨_, _, _, p + 1, ⟨ck, j9, j7, j4, j8, !j3, j2, j6, j5, j1⟩, rfl, by omega, I.next rfl rfl rfl rfl rfl ?_ ?_ (fun y hy h1 h2 => ?_) (by omega) ⟨z0, z1, z2, z3⟩⟩
           . simp only [go_sem, n7]
           . simp only [go_sem, n8]
             first | done | rfl | exact I.h6
           . have Y := Z8 hy
             simp only [go_sem, h1, h2]
         . simp only [Z07, go_sem, I.s0, I.s6, I.hb, I.h6, n8, B.l, e0 D (by omega), x0, x1, x2, x3, x4]
           refine ⟨_, _, _, p + 1, ⟨ck, j9, j7, j4, j8, j3, j2, j6, j5, j1⟩, rfl, by omega, I.next rfl rfl rfl rfl rfl ?_ ?_ (fun y hy h1 h2 => ?_) (by omega) ⟨z0, z1, z2, z3⟩⟩
           . simp only [go_sem]
           . simp only [go_sem, n8]
             first | done | rfl | exact I.h6
           . have Y := Z8 hy
             simp only [go_sem, h1]
theorem Zsw {D : Nat} (hD : 6 <= D) (ns : List Int) (hc : Code ns) (p : Nat) (hp : p + 40 <= 2 ^ 40) (cs : List ColV) (hcs : SmallC cs) (cp : Nat) (ex ow : Bool) (h : Hp) (m b qs : Nat) (hb : b < m) (hqs : qs < m) (hne : ¬ qs = b) (hh : h b = rdB ns p) (hs : h qs = some ⟨Z0, cs.map ColV.c, ow, false⟩) :
 ∃ c h' n', SmallG c /\ dcl pr D Zqa [.ptr b 0 0, .ref Z0 qs 0 cs.length cp ex] h m = some ([.agg c.c], h', n') /\ Drew ns p 14 b m h n' h' := by
 obtain ⟨D, rfl, hd⟩ := Zc hD
 rw [Y8w]
 obtain ⟨s1, H1, n1, q4, q6, nm, p1, c1, e1, j1, j2, I1, i2, i3, i4⟩ := Ydx (D := D) (by omega) ns hc p hp cs hcs cp ex ow h m b qs hb hqs hne hh hs
 obtain ⟨s2, H2, n2, p2, c2, e2, j4, I2⟩ := Yee (D := D) (by omega) ns hc cs hcs cp ex ow h m b qs q4 q6 nm s1 H1 n1 p1 (by omega) c1 I1 i2 i3 i4
 obtain ⟨s3, H3, n3, p3, c3, e3, j3, I3⟩ := Ye1 (D := D) (by omega) ns hc cs hcs cp ex ow h m b qs q4 q6 nm s2 H2 n2 p2 (by omega) c2 I2
 rw [e1, Xz 4 e2 rfl, Xz 5 e3 rfl]
 have n1 := eqF I3.ne
 have i1 := I3.bm; have i3 := I3.m4; have i5 := I3.l4
 have n5 : (b = q4) = False := eqF (by omega)
 refine ⟨c3, upd H3 q4 (cT Z3 [c3.c]), n3, I3.sg, ?_, ⟨⟨p3, by omega, ?_⟩, by omega, fun y hy j0 => ?_⟩⟩
 . simp only [Z07, tlQ, Zs, go_sem, I3.s4, I3.s6, I3.h4, I3.h6]
 . simp only [go_sem, n5]; exact I3.hb
 . simp only [go_sem, eqF (show ¬ y = q4 by omega)]; exact I3.low y hy j0
end Go.Vm.T
namespace Go.Vm.T
variable [Pr0]
structure SetV where
 nm : ByteArray
 v : Val
abbrev SetV.c (x : SetV) : List A := [.s x.nm, .n x.v.k, .n x.v.n, .s x.v.t]
def SmallS (l : List SetV) : Prop := ∀ x ∈ l, x.v.t.size <= big
theorem SmallS.app {l : List SetV} (h : SmallS l) {x : SetV} (hx : x.v.t.size <= big) : SmallS (l ++ [x]) := fun y hy => by
 rcases dW.1 hy with hy | hy
 . exact h y hy
 . rw [dX.1 hy]; exact hx
abbrev Zgq (h : Hp) (m b : Nat) (ns : List Int) (p : Nat) (l : List SetV) : Hp := upd (upd (low m h) b (rdB ns p)) m (cU Zh (l.map SetV.c))
set_option maxHeartbeats 8000000 in
theorem Zds {D : Nat} (hD : 4 <= D) (ns : List Int) (hc : Code ns) (cs : List ColV) (hl : cs.length <= 20) (cp : Nat) (exc ow : Bool) (h : Hp) (m b qs : Nat) (hb : b < m) (hqs : qs < m) (hne : ¬ qs = b) (hs : h qs = some ⟨Z0, cs.map ColV.c, ow, false⟩) : ∀ (r i : Nat) (l : List SetV) (ex : Bool) (p K : Nat), i + r = cs.length -> SmallS l -> l.length <= i -> p + 6 * r <= 2 ^ 30 -> r < K ->
 ∃ l' ex' p', SmallS l' /\ l'.length <= 20 /\ p' <= p + 6 * r /\ ∃ U', Zd (Zj (aH D) Z1w) [0, 1, 5, 6] K ⟨upd (upd (upd (upd (fun _ => .bad) 0 (.ptr b 0 0)) 1 (.ref Z0 qs 0 cs.length cp exc)) 5 (cV Zh m l.length ex)) 6 (.n i), Zgq h m b ns p l, m + 1, m⟩ = some (.exit 0 U') /\ U'.s 0 = .ptr b 0 0 /\ U'.s 5 = cV Zh m l'.length ex' /\ U'.h = Zgq h m b ns p' l' /\ U'.n = m + 1 /\ U'.base = m
 | 0, i, l, ex, p, K, hi, hf, hle, hp, hK => by
   obtain ⟨K, rfl⟩ : ∃ j, K = j + 1 := ⟨K - 1, by omega⟩
   have hz : ¬ i < cs.length := by omega
   refine ⟨l, ex, p, hf, by omega, by omega, ?_⟩
   simp only [Zd, Ve, Xp, go_sem, hz]
   exact ⟨_, rfl, rfl, rfl, rfl, rfl, rfl⟩
 | r + 1, i, l, ex, p, K, hi, hf, hle, hp, hK => by
   obtain ⟨K, rfl⟩ : ∃ j, K = j + 1 := ⟨K - 1, by omega⟩
   have hlt : i < cs.length := by omega
   have hw := Zk (n := i) (by omega)
   have B := Z8 hb
   have Q := Z8 hqs
   have n3 := eqF hne
   have n4 := eqF (Ne.symm hne)
   have j3 : low m h qs = some ⟨Z0, cs.map ColV.c, ow, false⟩ := by rw [Zgi hqs]; exact hs
   have j7 : cs[i]? = some cs[i] := dS hlt
   have hr := Zq (f := ColV.c) j7
   generalize cs[i] = c at *
   obtain ⟨cn, ck, cd, co, cf⟩ := c
   have j5 : l.length + 1 <= big := by unfold big; omega
   have j4 := Zb SetV.c l
   have j0 : ∀ (v : Val) (p1 : Nat), v.t.size <= big -> p1 <= p + 6 -> ∃ l' ex' p', SmallS l' /\ l'.length <= 20 /\ p' <= p + 6 * (r + 1) /\ ∃ U', Zd (Zj (aH D) Z1w) [0, 1, 5, 6] K ⟨upd (upd (upd (upd (fun _ => .bad) 0 (.ptr b 0 0)) 1 (.ref Z0 qs 0 cs.length cp exc)) 5 (.ref Zh m 0 (l.length + 1) (l.length + 1) false)) 6 (.n ((i + 1 : Nat) : Int)), upd (upd (low m h) b (rdB ns p1)) m (some ⟨Zh, l.map SetV.c ++ [[.s cn, .n v.k, .n v.n, .s v.t]], true, false⟩), m + 1, m⟩ = some (.exit 0 U') /\ U'.s 0 = .ptr b 0 0 /\ U'.s 5 = cV Zh m l'.length ex' /\ U'.h = Zgq h m b ns p' l' /\ U'.n = m + 1 /\ U'.base = m := fun v p1 hv j6 => by
    obtain ⟨l', ex', p', f1, f2, f3, U', f4⟩ := Zds hD ns hc cs hl cp exc ow h m b qs hb hqs hne hs r (i + 1) (l ++ [⟨cn, v⟩]) false p1 K (by omega) (hf.app hv) (by simp; omega) (by omega) (by omega)
    simp only [eE, eF, eG, dF, Zgq, eO, fO, dJ] at f4
    exact ⟨l', ex', p', f1, f2, by omega, U', f4⟩
   cases cd with
   | true =>
     obtain ⟨v, p1, g1, G1, hv, j6, e1⟩ := Zjn ns hc ck p (by omega)
     obtain ⟨vk, vn, vt⟩ := v
     have j2 : vt.size <= big := by simp only at hv; unfold big; omega
     rcases pf (vk = 0) with hk | hk
     . obtain ⟨x, hx, e2⟩ := Wv ns hc 6 p1 (by omega)
       rcases pf (0 < x) with j1 | j1
       . obtain ⟨l', ex', p', f1, f2, f3, U', f4⟩ := j0 ⟨ck, vn, vt⟩ (p1 + 1) j2 (by omega)
         refine ⟨l', ex', p', f1, f2, f3, U', ?_⟩
         rw [<- f4.1]
         refine ⟨?_, f4.2⟩
         simp only [Zd, Ve, Xp, go_sem, hlt, hw, hr, j3, e1 D (by omega), e2 D (by omega), hk, j1, j5, j4, n3, B.a, Q.a, Z8y hb, Wl, dN, dO]
       . obtain ⟨l', ex', p', f1, f2, f3, U', f4⟩ := j0 ⟨vk, vn, vt⟩ (p1 + 1) j2 (by omega)
         refine ⟨l', ex', p', f1, f2, f3, U', ?_⟩
         rw [<- f4.1]
         refine ⟨?_, f4.2⟩
         simp only [Zd, Ve, Xp, go_sem, hlt, hw, hr, j3, e1 D (by omega), e2 D (by omega), hk, j1, j5, j4, n3, B.a, Q.a, Z8y hb, Wl, dN, dO]
     . obtain ⟨l', ex', p', f1, f2, f3, U', f4⟩ := j0 ⟨vk, vn, vt⟩ p1 j2 (by omega)
       refine ⟨l', ex', p', f1, f2, f3, U', ?_⟩
       rw [<- f4.1]
       refine ⟨?_, f4.2⟩
       simp only [Zd, Ve, Xp, go_sem, hlt, hw, hr, j3, e1 D (by omega), hk, j5, j4, n3, B.a, Q.a, Z8y hb, Wl, dN, dO]
   | false =>
     obtain ⟨x, hx, e2⟩ := Wv ns hc 2 p (by omega)
     rcases pf (x = 0) with j1 | j1
     . obtain ⟨v, p1, g1, G1, hv, j6, e1⟩ := Zjn ns hc ck (p + 1) (by omega)
       obtain ⟨vk, vn, vt⟩ := v
       have j2 : vt.size <= big := by simp only at hv; unfold big; omega
       obtain ⟨l', ex', p', f1, f2, f3, U', f4⟩ := j0 ⟨vk, vn, vt⟩ p1 j2 (by omega)
       refine ⟨l', ex', p', f1, f2, f3, U', ?_⟩
       rw [<- f4.1]
       refine ⟨?_, f4.2⟩
       simp only [Zd, Ve, Xp, go_sem, hlt, hw, hr, j3, e1 D (by omega), e2 D (by omega), j1, j5, j4, n3, B.a, Q.a, Z8y hb, Wl, dN, dO]
     . obtain ⟨l', ex', p', f1, f2, f3, U', f4⟩ := Zds hD ns hc cs hl cp exc ow h m b qs hb hqs hne hs r (i + 1) l ex (p + 1) K (by omega) hf (by omega) (by omega) (by omega)
       refine ⟨l', ex', p', f1, f2, by omega, U', ?_⟩
       rw [<- f4.1]
       refine ⟨?_, f4.2⟩
       simp only [Zd, Ve, Xp, go_sem, hlt, hw, hr, j3, e2 D (by omega), j1, n3, B.a, Q.a, Z8y hb, Wl]
theorem Zyq {V : Type} {f : Nat -> V} {k : Nat} {x : V} (h : f k = x) : upd f k x = f := by
 funext i
 rw [Z7]
 split
 . rename_i e; rw [e, h]
 . rfl
abbrev Yc8 : List ByteArray := [⟨#[97]⟩, ⟨#[122, 122]⟩, ⟨#[]⟩]
set_option maxHeartbeats 8000000 in
theorem Ziq {D : Nat} (hD : 5 <= D) (ns : List Int) (hc : Code ns) (p : Nat) (hp : p <= 2 ^ 29) (cs : List ColV) (hl : cs.length <= 20) (cp : Nat) (exc ow : Bool) (h : Hp) (m b qs : Nat) (hb : b < m) (hqs : qs < m) (hne : ¬ qs = b) (hh : h b = rdB ns p) (hs : h qs = some ⟨Z0, cs.map ColV.c, ow, false⟩) :
 ∃ l q cp' ex' h' n', SmallS l /\ l.length <= 21 /\ dcl pr D Z1l [.ptr b 0 0, .ref Z0 qs 0 cs.length cp exc] h m = some ([.ref Zh q 0 l.length cp' ex'], h', n') /\ h' q = cU Zh (l.map SetV.c) /\ m <= q /\ q < n' /\ Drew ns p 130 b m h n' h' := by
 obtain ⟨D, rfl, hd⟩ := Zc hD
 rw [Zj0]
 have B := Z8 hb
 have Q := Z8 hqs
 obtain ⟨l, ex, p1, f1, f2, f3, U', lo, l0, l1, l2, l3, l4⟩ := Zds hd ns hc cs hl cp exc ow h m b qs hb hqs hne hs cs.length 0 [] true p rounds (by omega) (fun x hx => nomatch hx) (dO _) (by omega) (by unfold rounds; omega)
 simp only [Zgq, eG, dJ] at lo
 rw [show ((0 : Nat) : Int) = 0 from rfl, Zyq (show low m h b = rdB ns p by rw [Zgi hb]; exact hh)] at lo
 simp only [Zgq] at l2
 have j2 := Zb SetV.c l
 have j3 : l.length + 1 <= big := by unfold big; omega
 obtain ⟨x, hx, e0⟩ := Wv ns hc 40 p1 (by omega)
 by_cases x0 : x = 0
 . obtain ⟨y, hy, e1⟩ := Zv4 ns hc Yc8 (by decide) (p1 + 1) (by omega)
   have j1 := fun h m b bl => e1 D (by omega) h m b bl 3 true
   simp only [eF, eG] at j1
   simp only [Z0i, go_sem, lo, l0, l1, l2, l3, l4, x0, e0 D (by omega), j1, j2, j3, B.a, Q.a, dN, dO]
   refine ⟨l ++ [⟨y, ⟨0, 0, ⟨#[]⟩⟩⟩], _, _, _, _, _, f1.app (dG _), by simp; omega, by rw [eE]; rfl, ?_, ?_, ?_, ⟨⟨p1 + 2, by omega, ?_⟩, by omega, fun y hy j0 => ?_⟩⟩
   . simp only [go_sem, eO]
   . omega
   . omega
   . simp only [go_sem, B.a]
   . have Y := Z8 hy
     simp only [go_sem, j0, Y.a]
     exact Zgi hy h
 . by_cases x1 : x = 1
   . subst x1
     cases l with
     | nil =>
       simp only [eG, dJ] at l1 l2
       simp only [Z0i, go_sem, lo, l0, l1, l2, l3, l4, Int.natCast_zero, Int.lt_irrefl, x0, e0 D (by omega), B.a, Q.a]
       refine ⟨[], _, _, _, _, _, fun x hx => (nomatch hx), by simp, rfl, ?_, ?_, ?_, ⟨⟨p1 + 1, by omega, ?_⟩, by omega, fun y hy j0 => ?_⟩⟩
       . simp only [go_sem, B.e']
       . omega
       . omega
       . simp only [go_sem, B.e]
       . have Y := Z8 hy
         simp only [go_sem, j0, Y.e]
         exact Zgi hy h
     | cons a l =>
       obtain ⟨v, p2, g2, G2, hv, j5, e1⟩ := Zji ns hc (p1 + 1) (by omega)
       have j4 : v.t.size <= big := by unfold big; omega
       have hz : (0 : Int) < ((l.length + 1 : Nat) : Int) := by omega
       simp only [eF, fO] at l1 l2
       simp only [Z0i, go_sem, lo, l0, l1, l2, l3, l4, hz, x0, gU, Int.toNat_zero, e0 D (by omega), e1 D (by omega), B.a, Q.a, Wl, dO, Nat.succ_pos]
       refine ⟨⟨a.nm, v⟩ :: l, _, _, _, _, _, fun x hx => ?_, by simp at f2 ⊢; omega, rfl, ?_, ?_, ?_, ⟨⟨p2, by omega, ?_⟩, by omega, fun y hy j0 => ?_⟩⟩
       . rcases eK.1 hx with rfl | hx
         . exact j4
         . exact f1 x (eB _ hx)
       . simp only [go_sem]
       . omega
       . omega
       . simp only [go_sem, B.a]
       . have Y := Z8 hy
         simp only [go_sem, j0, Y.a]
         exact Zgi hy h
   . simp only [Z0i, go_sem, lo, l0, l1, l2, l3, l4, x0, x1, e0 D (by omega), B.a, Q.a]
     refine ⟨l, _, _, _, _, _, f1, by omega, rfl, ?_, ?_, ?_, ⟨⟨p1 + 1, by omega, ?_⟩, by omega, fun y hy j0 => ?_⟩⟩
     . simp only [go_sem, B.e']
     . omega
     . omega
     . simp only [go_sem, B.e]
     . have Y := Z8 hy
       simp only [go_sem, j0, Y.e]
       exact Zgi hy h
end Go.Vm.T
namespace Go.Vm.T
def Zvu (s : List ColV) (c : Chg) (row : List Val) : List Val :=
 if c.k = 1 then row ++ [c.col.df]
 else match Z6s c.nm s with
  | none => row
  | some i => if c.k = 2 then Z3z i row else if c.k = 4 then (match row[i]? with | some v => row.set i (Z3m v c.col.k) | none => row) else row
variable [Pr1]
theorem Zl7 {s : List ColV} {c : Chg} (h : (Z72 s c).2 = true) : Z37 c = true /\ (c.k = 1 \/ ((c.k = 2 \/ c.k = 3 \/ c.k = 4) /\ ∃ i x, Z6s c.nm s = some i /\ s[i]? = some x /\ i < s.length /\ (Z72 s c) = Y73 s c i x)) /\ (c.k = 1 -> (Z72 s c).1 = s ++ [c.col]) := by
 have hn : Z37 c = true := by
  cases hq : Z37 c with
  | true => rfl
  | false => unfold Z72 at h; rw [if_pos hq] at h; cases h
 have hf : ¬ (Z37 c = false) := by rw [hn]; decide
 refine ⟨hn, ?_, fun hk => ?_⟩
 . by_cases hk1 : c.k = 1
   . exact .inl hk1
   . refine .inr ⟨?_, ?_⟩
     . unfold Z37 at hn
       rw [if_neg hk1] at hn
       by_cases h2 : c.k = 2
       . exact .inl h2
       . by_cases h3 : c.k = 3
         . exact .inr (.inl h3)
         . by_cases h4 : c.k = 4
           . exact .inr (.inr h4)
           . rw [if_neg h2, if_neg h3, if_neg h4] at hn; cases hn
     . unfold Z72 at *
       rw [if_neg hf, if_neg hk1] at *
       cases ha : Z6s c.nm s with
       | none => rw [ha] at h; cases h
       | some i =>
         have hi := Z0p ha
         have hx : s[i]? = some s[i] := dS hi
         refine ⟨i, s[i], rfl, hx, hi, ?_⟩
         simp only [hx]
 . unfold Z72 at *
   rw [if_neg hf, if_pos hk] at *
   split at h
   . cases h
   . rename_i h3
     rw [if_neg h3]
     exact (Zcp h).1
theorem Zqr {s : List ColV} {c : Chg} {row : List Val} (h : (Z72 s c).2 = true) (hl : row.length = s.length) : (Zvu s c row).length = (Z72 s c).1.length := by
 obtain ⟨hn, hk, h1⟩ := Zl7 h
 unfold Zvu
 by_cases hk1 : c.k = 1
 . rw [if_pos hk1, h1 hk1]; simp [hl]
 . rw [if_neg hk1]
   rcases hk with hk | ⟨hk, i, x, ha, hx, hi, he⟩
   . exact absurd hk hk1
   . rw [ha]
     rw [he] at h ⊢
     simp only
     unfold Y73 at *
     by_cases h2 : c.k = 2
     . rw [if_pos h2] at h ⊢
       rw [if_pos h2, (Zcp h).1, Z1o (by omega), Z1o hi, hl]
     . rw [if_neg h2] at h ⊢
       rw [if_neg h2]
       by_cases h3 : c.k = 3
       . rw [if_pos h3] at h ⊢
         rw [if_neg (by omega), (Zcp h).1]; simp [hl]
       . rw [if_neg h3] at h ⊢
         have h4 : c.k = 4 := by omega
         rw [if_pos h4]
         have hr : row[i]? = some row[i] := dS (by omega)
         rw [hr]
         simp only
         split at h
         . cases h
         . rename_i h5
           rw [if_neg h5, (Zcp h).1]; simp [hl]
def V9 (row : List Val) : Prop := ∀ v ∈ row, v.t.size <= big
theorem Zgh {s : List ColV} {c : Chg} {row : List Val} (hr : V9 row) (hc : SmallG c) : V9 (Zvu s c row) := by
 intro v hv
 unfold Zvu at hv
 split at hv
 . rcases dW.1 hv with h | h
   . exact hr v h
   . rw [dX.1 h]; exact hc.dt
 . split at hv
   . exact hr v hv
   . split at hv
     . unfold Z3z at hv
       rcases dW.1 hv with h | h
       . exact hr v (fC h)
       . exact hr v (eS h)
     . split at hv
       . split at hv
         . rename_i w hw
           rcases fB hv with h | h
           . exact hr v h
           . rw [h]; exact Zcq (hr w (dY hw))
         . exact hr v hv
       . exact hr v hv
theorem Zp (es : List Val) : Vl (es.map Val.c) = false := Z6u _ (fun _ => rfl) es
theorem Znk {D : Nat} (hD : 5 <= D) (s : List ColV) (c : Chg) (row : List Val) (hs : SmallC s) (hc : SmallG c) (hr : V9 row) (hl : row.length + 1 <= big) (hk : c.k = 1 \/ ((c.k = 2 \/ c.k = 3 \/ c.k = 4) /\ ∃ i, Z6s c.nm s = some i /\ i < row.length)) :
 den pr D Zzy [.lit Z0 (s.map ColV.c), .agg c.c, .lit Z2 (row.map Val.c)] = some [.olit Z2 ((Zvu s c row).map Val.c)] := by
 obtain ⟨D, rfl, hd⟩ := Zc hD
 rw [Ycq]
 have e0 := Zbb (show 2 <= D by omega) (row.map Val.c) (by rw [dN]; omega)
 have e1 := Z68 (show 3 <= D by omega) c.nm s hs.len
 have j3 := Zb Val.c row
 have j4 : row.length <= big := by omega
 unfold Zvu
 rcases hk with hk | ⟨hk, i, ha, hi⟩
 . have j0 : (c.k = 1) = True := by rw [hk]; decide
   have e2 := Zbb (show 2 <= D by omega) ((row ++ [c.col.df]).map Val.c) (by simpa using hl)
   have em : (row ++ [c.col.df]).map Val.c = row.map Val.c ++ [c.col.df.c] := by simp
   have hta : ∀ r : List A, List.take (row.length + 1) (row.map Val.c ++ [r]) = row.map Val.c ++ [r] := fun r => dP (by simp)
   have rsa := Zp (row ++ [c.col.df])
   rw [em] at e2 rsa
   simp only [Zru, go_sem, e0, e1, e2, j0, em, if_true, dN, eE, Zp, dO, hl, j3, hta, rsa, and_self]
 . unfold nmI at e1
   rw [ha] at e1
   simp only at e1
   have hm : ¬ ((i : Int) < 0) := by omega
   have hw : IntKind.i64.wrap ((i : Int) + 1) = (i : Int) + 1 := Zk (n := i) (by unfold big at hl; omega)
   rcases hk with hk | hk | hk
   . have j0 : (c.k = 1) = False := by rw [hk]; decide
     have j1 : (c.k = 2) = True := by rw [hk]; decide
     have h4 := Zuz (show 1 <= D by omega) (row.map Val.c) i (by simpa using hi) (by simpa using j4)
     have j5 : (Z3z i row).length <= big := by rw [Z1o hi]; omega
     have e5 := Zbb (show 2 <= D by omega) ((Z3z i row).map Val.c) (by rw [dN]; exact j5)
     have q1 : Z3z i (row.map Val.c) = (Z3z i row).map Val.c := Zr5 _ _ _
     have q2 : ((Z3z i row).map Val.c ++ [Y78]).take (row.length - 1) = (Z3z i row).map Val.c := by
      rw [<- Z1o hi, <- dN (f := Val.c), List.take_left]
     have q3 : row.length - 1 <= (Z3z i row).length + 1 := by rw [Z1o hi]; omega
     simp only [dN] at h4
     simp only [Zru, go_sem, e0, e1, e5, ha, j0, j1, hw, h4, q1, q2, q3, Wl, if_true, if_false, dN, eE, Zp, dO]
   . have j0 : (c.k = 1) = False := by rw [hk]; decide
     have j1 : (c.k = 2) = False := by rw [hk]; decide
     have j2 : (c.k = 4) = False := by rw [hk]; decide
     simp only [Zru, go_sem, e0, e1, ha, j0, j1, j2, j3, if_true, if_false, dN, Zp, dO]
   . have j0 : (c.k = 1) = False := by rw [hk]; decide
     have j1 : (c.k = 2) = False := by rw [hk]; decide
     have j2 : (c.k = 4) = True := by rw [hk]; decide
     have hx : row[i]? = some row[i] := dS hi
     simp only [ha, hx]
     generalize row[i] = x at hx
     have j6 := Zq (f := Val.c) hx
     have ev := Zv3 (show 3 <= D by omega) x c.col.k (hr x (dY hx))
     have em : (row.set i (Z3m x c.col.k)).map Val.c = (row.map Val.c).set i (Z3m x c.col.k).c := gN
     have e5 := Zbb (show 2 <= D by omega) ((row.set i (Z3m x c.col.k)).map Val.c) (by simpa using j4)
     have rsa := Zp (row.set i (Z3m x c.col.k))
     have tk : ∀ r, List.take row.length ((row.map Val.c).set i r) = (row.map Val.c).set i r := fun r => dP (by simp)
     rw [em] at e5 rsa
     simp only [Zru, go_sem, e0, e1, e5, ev, j0, j1, j2, hi, j6, j3, em, rsa, tk, Wl, if_true, if_false, dN, dK, Zp, dO]
end Go.Vm.T
namespace Go.Vm.T
theorem Y5q (i j : Nat) : ∀ (s : List ColV) (cs : List Chg), Zv Zpl i s cs = Zv Zpl j s cs := by
 intro s cs
 induction cs generalizing i j s with
 | nil => rfl
 | cons c cs ih =>
   unfold Zv Zpl
   cases (Z72 s c).2 with
   | true => exact ih (i + 1) (j + 1) _
   | false => rfl
theorem Z4u (s : List ColV) (c : Chg) (cs : List Chg) : chgs s (c :: cs) = if (Z72 s c).2 = true then chgs (Z72 s c).1 cs else none := by
 unfold chgs
 conv => lhs; unfold Zv Zpl
 cases h : (Z72 s c).2 with
 | true =>
   simp only [cond_true, if_true]
   show (match Zv Zpl (0 + 1) (Z72 s c).1 cs with | .inl s' => some s' | .inr _ => none) = _
   rw [Y5q (0 + 1) 0]
   first | done | rfl
 | false => rfl
theorem Zdi (s : List ColV) : chgs s [] = some s := rfl
theorem Z0h {s s' : List ColV} {cs : List Chg} (hs : Zl s = true) (h : chgs s cs = some s') : Zl s' = true := by
 induction cs generalizing s with
 | nil => rw [Zdi] at h; cases h; exact hs
 | cons c cs ih =>
   rw [Z4u] at h
   split at h
   . rename_i hc; exact ih (Zcm hc) h
   . cases h
theorem Zdh (s : List ColV) (as bs : List Chg) : chgs s (as ++ bs) = match chgs s as with | some t => chgs t bs | none => none := by
 induction as generalizing s with
 | nil => rfl
 | cons c cs ih =>
   rw [gT, Z4u, Z4u]
   split
   . exact ih _
   . rfl
def rwG (_ : Nat) (b : List ColV × List Val) (c : Chg) : (List ColV × List Val) ⊕ Unit := .inl ((Z72 b.1 c).1, Zvu b.1 c b.2)
def Zg2 (b : List ColV × List Val) (cs : List Chg) : List ColV × List Val := cs.foldl (fun b c => ((Z72 b.1 c).1, Zvu b.1 c b.2)) b
def Zek (s : List ColV) (cs : List Chg) (row : List Val) : List Val := (Zg2 (s, row) cs).2
theorem Zx3 : ∀ (cs : List Chg) (i : Nat) (b : List ColV × List Val), Zv rwG i b cs = .inl (Zg2 b cs)
 | [], i, b => rfl
 | c :: cs, i, b => Zx3 cs (i + 1) _
variable [Pr1]
theorem Zx1 {s s' : List ColV} {cs : List Chg} {row : List Val} (h : chgs s cs = some s') (hl : row.length = s.length) : (Zek s cs row).length = s'.length := by
 unfold Zek
 induction cs generalizing s row with
 | nil => rw [Zdi] at h; cases h; exact hl
 | cons c cs ih =>
   rw [Z4u] at h
   split at h
   . rename_i hc; exact ih h (Zqr hc hl)
   . cases h
theorem Z4x {s : List ColV} {cs : List Chg} {row : List Val} (hr : V9 row) (hc : ∀ c ∈ cs, SmallG c) : V9 (Zek s cs row) := by
 unfold Zek
 induction cs generalizing s row with
 | nil => exact hr
 | cons c cs ih => exact ih (Zgh hr (hc c dC)) (fun c h => hc c (eB _ h))
def rwS (s : List ColV) (cs : List Chg) (i : Nat) (b : List ColV × List Val) : St :=
 if i = 0 then ⟨upd (upd (upd (upd (upd (fun _ => .bad) 0 (.lit Z0 (s.map ColV.c))) 7 (cV Z2 0 b.2.length false)) 12 (.lit Z3 (cs.map Chg.c))) 13 (.n cs.length)) 14 (.n i), upd (fun _ => none) 0 (cU Z2 (b.2.map Val.c)), 1, 0⟩
 else ⟨upd (upd (upd (upd (upd (fun _ => .bad) 0 (cV Z0 0 b.1.length false)) 7 (cV Z2 1 b.2.length false)) 12 (.lit Z3 (cs.map Chg.c))) 13 (.n cs.length)) 14 (.n i), upd (upd (fun _ => none) 0 (cU Z0 (b.1.map ColV.c))) 1 (cU Z2 (b.2.map Val.c)), 2, 0⟩
structure RwI (s : List ColV) (cs : List Chg) (i : Nat) (b : List ColV × List Val) : Prop where
 cols : SmallC b.1
 clen : b.1.length + 1 <= big
 vals : V9 b.2
 len : b.2.length = b.1.length
 rest : (chgs b.1 (cs.drop i)).isSome = true
 first : i = 0 -> b.1 = s
theorem RwI.step {s : List ColV} {cs : List Chg} {i : Nat} {b : List ColV × List Val} (I : RwI s cs i b) {c : Chg} (hc : cs[i]? = some c) (hg : SmallG c) : (Z72 b.1 c).2 = true /\ RwI s cs (i + 1) ((Z72 b.1 c).1, Zvu b.1 c b.2) /\
 (c.k = 1 \/ ((c.k = 2 \/ c.k = 3 \/ c.k = 4) /\ ∃ i, Z6s c.nm b.1 = some i /\ i < b.2.length)) := by
 have hi : i < cs.length := (dU.1 hc).1
 have hd : cs.drop i = c :: cs.drop (i + 1) := by
  rw [List.drop_eq_getElem_cons hi]
  congr 1
  exact (dU.1 hc).2
 have hr := I.rest
 rw [hd, Z4u] at hr
 have hq : (Z72 b.1 c).2 = true := by
  cases h : (Z72 b.1 c).2 with
  | true => rfl
  | false => rw [h] at hr; cases hr
 rw [if_pos hq] at hr
 have j0 := Yq (Zcm hq)
 refine ⟨hq, ⟨j0.1, j0.2, Zgh I.vals hg, Zqr hq I.len, hr, fun h => by omega⟩, ?_⟩
 obtain ⟨_, hk, _⟩ := Zl7 hq
 rcases hk with hk | ⟨hk, i, x, h1, h2, h3, h4⟩
 . exact .inl hk
 . exact .inr ⟨hk, i, h1, by rw [I.len]; exact h3⟩
theorem Zj3 {D : Nat} (hD : 5 <= D) (s : List ColV) (cs : List Chg) (row : List Val) (hc : ∀ c ∈ cs, SmallG c) (hcl : cs.length <= big) (I : RwI s cs 0 (s, row)) :
 Vg (Zd (Zj (aH D) Zo6) [0, 7, 12, 13, 14] rounds (rwS s cs 0 (s, row))) (List ColV × List Val) Unit (.inl (Zg2 (s, row) cs))
  (fun b o => ∃ U' m, o = .exit 0 U' /\ U'.s 7 = cV Z2 m b.2.length false /\ U'.h m = cU Z2 (b.2.map Val.c)) (fun _ o => False) := by
 rw [<- Zx3 cs 0]
 refine Zt cs (rwS s cs) rwG (RwI s cs) _ _ (s, row) I hcl (fun i b c K j0 hlt hI => ?_) (fun b K hI => ?_)
 . obtain ⟨hq, j3, hk⟩ := hI.step j0 (hc c (dY j0))
   have hr := Zq (f := Chg.c) j0
   have hw := Zk (n := i) (by unfold big at hcl; omega)
   have hg := hc c (dY j0)
   have e1 := Zqd hD b.1 c hI.cols hI.clen hg
   have e2 := Znk hD b.1 c b.2 hI.cols hg hI.vals (by rw [hI.len]; exact hI.clen) hk
   have j2 := Zb ColV.c b.1
   have j1 := Zb Val.c b.2
   refine ⟨?_, j3⟩
   obtain ⟨bs, br⟩ := b
   simp only at e1 e2 j2 j1 hq
   rw [hq] at e1
   cases i with
   | zero =>
     have hf := hI.first rfl
     simp only at hf
     subst hf
     unfold rwS
     rw [if_pos rfl, if_neg (by omega)]
     simp only [Zd, Zjo, Zc7, go_sem, dN, hr, hlt, hw, e1, e2, j1, Za, Zp, dO]
   | succ i =>
     unfold rwS
     rw [if_neg (by omega), if_neg (by omega)]
     simp only [Zd, Zjo, Zc7, go_sem, dN, hr, hlt, hw, e1, e2, j2, j1, Za, Zp, dO]
 . have hi : ¬ cs.length < cs.length := by omega
   obtain ⟨bs, br⟩ := b
   unfold rwS
   split
   . simp only [Zd, Zjo, Zc7, go_sem, hi]
     exact ⟨_, rfl, _, _, rfl, rfl, rfl⟩
   . simp only [Zd, Zjo, Zc7, go_sem, hi]
     exact ⟨_, rfl, _, _, rfl, rfl, rfl⟩
theorem Zme {D : Nat} (hD : 6 <= D) (s : List ColV) (cs : List Chg) (row : List Val) (hc : ∀ c ∈ cs, SmallG c) (hcl : cs.length <= big) (I : RwI s cs 0 (s, row)) :
 den pr D Zz4 [.lit Z0 (s.map ColV.c), .lit Z3 (cs.map Chg.c), .lit Z2 (row.map Val.c)] = some [.olit Z2 ((Zek s cs row).map Val.c)] := by
 obtain ⟨D, rfl, hd⟩ := Zc hD
 rw [Yd4]
 have e0 := Zbb (show 2 <= D by omega) (row.map Val.c) (by rw [dN]; have := I.len; have := I.clen; simp only at *; omega)
 obtain ⟨out, lo, lp⟩ := Zj3 hd s cs row hc hcl I
 unfold rwS at lo
 rw [if_pos rfl, show ((0 : Nat) : Int) = 0 from rfl] at lo
 simp only at lp lo
 obtain ⟨U', m, rfl, l1, l2⟩ := lp
 have j0 : ((Zg2 (s, row) cs).2.map Val.c).take (Zg2 (s, row) cs).2.length = (Zg2 (s, row) cs).2.map Val.c := dP (by simp)
 simp only [Y6u, go_sem, e0, lo, l1, l2, dN, Zp, j0, Zek]
end Go.Vm.T
namespace Go.Vm.T
structure RowV where
 id : Int
 ver : Int
 vals : List Val
 deriving DecidableEq
abbrev RowV.c (r : RowV) : List A := [.n r.id, .n r.ver, .lit Z2 (r.vals.map Val.c)]
structure Tab where
 first : List ColV
 chg : List Chg
 rows : List RowV
 next : Int
 deriving DecidableEq
abbrev Tab.c (t : Tab) : List A := [.lit Z0 (t.first.map ColV.c), .lit Z3 (t.chg.map Chg.c), .lit Z4 (t.rows.map RowV.c), .n t.next]
structure SmallT (t : Tab) : Prop where
 cols : SmallC t.first
 clen : t.first.length + 1 <= big
 chg : ∀ c ∈ t.chg, SmallG c
 glen : t.chg.length <= big
 rlen : t.rows.length <= big
 vals : ∀ r ∈ t.rows, V9 r.vals /\ r.vals.length + 1 <= big
def rOk (s : List ColV) (i : Nat) (v : Val) : Bool := match s[i]? with
 | some c => Z1b v && (Zix v c.k && !(c.need && decide (v.k = 0)))
 | none => false
def Zvq (s : List ColV) (i : Nat) (_ : Unit) (v : Val) : Unit ⊕ Unit := bif rOk s i v then .inl () else .inr ()
def Z5e (s : List ColV) (row : List Val) : Bool := decide (row.length = s.length) && (match Zv (Zvq s) 0 () row with | .inl _ => true | .inr _ => false)
variable [Pr1]
theorem Y01 {D : Nat} (hD : 2 <= D) (s : List ColV) (row : List Val) (hr : V9 row) (hl : row.length = s.length) (hb : row.length <= big) :
 Vg (Zd (Zj (aH D) Z6d) [0, 12, 13, 14] rounds ⟨upd (upd (upd (upd (fun _ => .bad) 0 (.lit Z0 (s.map ColV.c))) 12 (.lit Z2 (row.map Val.c))) 13 (.n row.length)) 14 (.n (0 : Nat)), fun _ => none, 0, 0⟩) Unit Unit (Zv (Zvq s) 0 () row)
  (fun _ o => ∃ U', o = .exit 0 U') (fun _ o => ∃ U', o = .ret U' /\ U'.s 4 = .q false) := by
 refine Zt row (fun i (_ : Unit) => ⟨upd (upd (upd (upd (fun _ => .bad) 0 (.lit Z0 (s.map ColV.c))) 12 (.lit Z2 (row.map Val.c))) 13 (.n row.length)) 14 (.n i), fun _ => none, 0, 0⟩) (Zvq s) (fun _ _ => True) _ _ () trivial hb (fun i _ v K hv hlt _ => ?_) (fun _ K _ => ?_)
 . have hx := Zq (f := Val.c) hv
   have hw := Zk (n := i) (by unfold big at hb; omega)
   have hs : s[i]? = some s[i] := dS (by omega)
   unfold Zvq rOk
   rw [hs]
   generalize s[i] = c at hs
   have hc := Zq (f := ColV.c) hs
   have j0 : i < s.length := by omega
   have e1 := Zff hD v (hr v (dY hv))
   have e2 := Y2w (show 1 <= D by omega) v c.k
   obtain ⟨vk, vn, vt⟩ := v
   obtain ⟨cn, ck, need, once, cd⟩ := c
   simp only at e1 e2 ⊢
   generalize Z1b ⟨vk, vn, vt⟩ = q1 at *
   generalize Zix ⟨vk, vn, vt⟩ ck = q2 at *
   cases q1 with
   | false =>
     simp only [Zd, Z00, Wb, go_sem, hx, hlt, e1, e2, hc]
     exact ⟨_, rfl, _, rfl, rfl⟩
   | true =>
     cases q2 with
     | false =>
       simp only [Zd, Z00, Wb, go_sem, hx, hlt, e1, e2, hc]
       exact ⟨_, rfl, _, rfl, rfl⟩
     | true =>
       cases need with
       | false =>
         simp only [Zd, Z00, Wb, go_sem, hx, hlt, hw, e1, e2, hc]
       | true =>
         rcases pf (vk = 0) with h0 | h0
         . simp only [Zd, Z00, Wb, go_sem, hx, hlt, e1, e2, hc, h0]
           exact ⟨_, rfl, _, rfl, rfl⟩
         . simp only [Zd, Z00, Wb, go_sem, hx, hlt, hw, e1, e2, hc, h0]
 . have hi : ¬ row.length < row.length := by omega
   simp only [Zd, Z00, Wb, go_sem, hi]
   exact ⟨_, rfl, _, rfl⟩
theorem Zxe {D : Nat} (hD : 3 <= D) (s : List ColV) (row : List Val) (hr : V9 row) (hb : row.length <= big) : den pr D Xg [.lit Z0 (s.map ColV.c), .lit Z2 (row.map Val.c)] = some [.q (Z5e s row)] := by
 obtain ⟨D, rfl, hd⟩ := Zc hD
 rw [Zmr]
 unfold Z5e
 by_cases hl : row.length = s.length
 . obtain ⟨out, lo, lp⟩ := Y01 hd s row hr hl hb
   rw [show ((0 : Nat) : Int) = 0 from rfl] at lo
   have j0 : ((row.length : Int) = (s.length : Int)) = True := by rw [hl]; simp
   rw [show decide (row.length = s.length) = true from by simp [hl], eZ]
   cases hq : Zv (Zvq s) 0 () row with
   | inl u =>
     rw [hq] at lp
     obtain ⟨U', rfl⟩ := lp
     simp only [Z36, go_sem, dN, lo, j0]
   | inr u =>
     rw [hq] at lp
     obtain ⟨U', rfl, l2⟩ := lp
     simp only [Z36, go_sem, dN, lo, l2, j0]
 . have j0 : ((row.length : Int) = (s.length : Int)) = False := eq_false (by omega)
   simp only [Z36, go_sem, dN, hl, j0]
def Z6k (s : List ColV) (cs : List Chg) : Option (List ColV) := if Zl s = true then chgs s cs else none
theorem Zrp {D : Nat} (hD : 7 <= D) (s : List ColV) (cs : List Chg) (hs : SmallC s) (hl : s.length + 1 <= big) (hc : ∀ c ∈ cs, SmallG c) (hcl : cs.length <= big) :
 den pr D Y25 [.lit Z0 (s.map ColV.c), .lit Z3 (cs.map Chg.c)] = some [.olit Z0 (((Z6k s cs).getD []).map ColV.c), .q (Z6k s cs).isSome] := by
 obtain ⟨D, rfl, hd⟩ := Zc hD
 rw [Yay]
 have e1 := Z8f (show 4 <= D by omega) s hs
 have e2 := Zbn hd s cs hs hl hc hcl
 unfold Z6k
 cases h : Zl s with
 | false =>
   rw [h] at e1
   simp only [Y21, go_sem, e1, eH, if_false, Option.getD_none, fQ, dJ]
 | true =>
   rw [h] at e1
   simp only [Y21, go_sem, e1, e2, if_true, Za]
theorem Zij {D : Nat} (hD : 7 <= D) (t : Tab) (ht : SmallT t) :
 den pr D Zmf [.agg t.c] = some [.olit Z0 (((chgs t.first t.chg).getD []).map ColV.c)] := by
 obtain ⟨D, rfl, hd⟩ := Zc hD
 rw [Yci]
 have e2 := Zbn hd t.first t.chg ht.cols ht.clen ht.chg ht.glen
 simp only [Y4u, go_sem, e2, Za, dN]
def Wf (t : Tab) (r : RowV) : List Val := Zek ((chgs t.first (t.chg.take r.ver.toNat)).getD []) (t.chg.drop r.ver.toNat) r.vals
structure NowOk (t : Tab) (r : RowV) : Prop where
 lo : 0 <= r.ver
 hi : r.ver <= t.chg.length
 all : (chgs t.first t.chg).isSome = true
 len : r.vals.length = ((chgs t.first (t.chg.take r.ver.toNat)).getD []).length
 vals : V9 r.vals
theorem NowOk.then_ {t : Tab} {r : RowV} (H : NowOk t r) : ∃ s s', chgs t.first (t.chg.take r.ver.toNat) = some s /\ chgs s (t.chg.drop r.ver.toNat) = some s' /\ chgs t.first t.chg = some s' := by
 have h := Zdh t.first (t.chg.take r.ver.toNat) (t.chg.drop r.ver.toNat)
 rw [List.take_append_drop] at h
 have ha := H.all
 cases h1 : chgs t.first (t.chg.take r.ver.toNat) with
 | none => rw [h, h1] at ha; cases ha
 | some s =>
   rw [h1] at h
   cases h2 : chgs s (t.chg.drop r.ver.toNat) with
   | none => rw [h] at ha; simp only [h2] at ha; cases ha
   | some s' => exact ⟨s, s', rfl, h2, by rw [h]; exact h2⟩
theorem Z2c {s s' : List ColV} {cs : List Chg} (hs : SmallC s /\ s.length + 1 <= big) (h : chgs s cs = some s') : SmallC s' /\ s'.length + 1 <= big := by
 cases cs with
 | nil => rw [Zdi] at h; cases h; exact hs
 | cons c cs =>
   rw [Z4u] at h
   split at h
   . rename_i hc; exact Yq (Z0h (Zcm hc) h)
   . cases h
theorem Zwj {D : Nat} (hD : 7 <= D) (t : Tab) (ht : SmallT t) (r : RowV) (H : NowOk t r) :
 den pr D Zfy [.agg t.c, .agg r.c] = some [.olit Z2 ((Wf t r).map Val.c)] := by
 obtain ⟨D, rfl, hd⟩ := Zc hD
 rw [Ycg]
 obtain ⟨s, s', h1, h2, h3⟩ := H.then_
 obtain ⟨v, hv⟩ : ∃ v : Nat, r.ver = v := ⟨r.ver.toNat, by have := H.lo; omega⟩
 have j2 : r.ver.toNat = v := by omega
 have hvl : v <= t.chg.length := by have := H.hi; omega
 have j0 := H.len
 unfold Wf
 rw [j2] at h1 h2 j0 ⊢
 rw [h1] at j0 ⊢
 simp only [dD] at j0 ⊢
 have hs := Z2c ⟨ht.cols, ht.clen⟩ h1
 have hg := ht.glen
 have e1 := Zbn hd t.first (t.chg.take v) ht.cols ht.clen (fun c hc => ht.chg c (fC hc)) (by rw [gS]; omega)
 rw [h1] at e1
 have e2 := Zme hd s (t.chg.drop v) r.vals (fun c hc => ht.chg c (eS hc)) (by rw [gB]; omega) ⟨hs.1, hs.2, H.vals, j0, by rw [dI, h2]; rfl, fun _ => rfl⟩
 have m1 : (t.chg.take v).map Chg.c = (t.chg.map Chg.c).take v := gQ
 have m2 : (t.chg.drop v).map Chg.c = (t.chg.map Chg.c).drop v := List.map_drop
 rw [m1] at e1
 rw [m2] at e2
 have v0 := eP v
 have vt := eQ v
 have j4 : ((t.chg.map Chg.c).drop v).take (t.chg.length - v) = (t.chg.map Chg.c).drop v := dP (by simp)
 have htf : List.take t.chg.length (List.map Chg.c t.chg) = List.map Chg.c t.chg := dP (by simp)
 have hts := Zb ColV.c s
 obtain ⟨j5, j3, j1⟩ := r
 simp only at hv e2 ⊢
 subst hv
 simp only [Y59, go_sem, e1, e2, v0, vt, hvl, hts, htf, dD, Za, Zp, dN, dO, dG, fJ, and_self, if_true, dI, fL]
end Go.Vm.T
end
