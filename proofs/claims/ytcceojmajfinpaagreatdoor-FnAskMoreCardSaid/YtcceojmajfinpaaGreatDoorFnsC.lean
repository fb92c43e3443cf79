/-
  What the functions under the law compute, of shapes, changes and rows
-/
import Derived.Test.YtcceojmajfinpaaGreatDoorFnsA
section
set_option linter.unusedVariables false
set_option linter.unusedSimpArgs false
set_option linter.unusedSectionVars false
namespace Go.Vm.T
theorem Zep (m : Nat) (h : m <= 999) : (Lib.decDigits m).length <= 3 := by
 rw [Lib.decDigits_length]
 by_cases h1 : m < 10
 . rw [Lib.nDigits_small h1]; omega
 . rw [Lib.nDigits_big h1]
   by_cases h2 : m / 10 < 10
   . rw [Lib.nDigits_small h2]; omega
   . rw [Lib.nDigits_big h2, Lib.nDigits_small (by omega)]; omega
variable [Pr1]
theorem Zcb {a b : ByteArray} (h : a.data = b.data) : a = b := by cases a; cases b; simp at h; rw [h]
def Zzx (n : Nat) : ByteArray := ⟨[UInt8.ofNat (48 + n)].toArray⟩
theorem Yg6 (n : Nat) (h : 9 < n) (s : ByteArray) : (⟨(Lib.decDigits n).toArray⟩ : ByteArray) ++ s = ⟨(Lib.decDigits (n / 10)).toArray⟩ ++ (Zzx (n % 10) ++ s) := by
 rw [Lib.decDigits, dif_neg (by omega)]
 apply Zcb
 simp [ByteArray.data_append, Zzx]
theorem Yep (n : Nat) (h : n <= 9) (s : ByteArray) : (⟨(Lib.decDigits n).toArray⟩ : ByteArray) ++ s = Zzx n ++ s := by
 rw [Lib.decDigits, dif_pos (by omega)]
 rfl
theorem Zzv {x : Int} {n : Nat} (hn : n <= 9) (h : x = n) : (⟨[UInt8.ofNat (IntKind.u8.wrap (IntKind.i64.wrap (48 + x))).toNat].toArray⟩ : ByteArray) = Zzx n := by
 subst h
 have : IntKind.u8.wrap (IntKind.i64.wrap (48 + (n : Int))) = ((48 + n : Nat) : Int) := by
  rw [Zt (by omega) (by omega), IntWalk.u8_in _ ⟨by omega, by omega⟩]; omega
 rw [this]
 rfl
theorem Zp0 (E : Env) : ∀ (m n : Nat) (s : ByteArray) (K : Nat), n < 10 ^ (m + 1) -> n <= 999 -> s.size + m <= 2 ^ 20 -> m < K ->
 ∃ U' q s', Zc (Zg E Z5o) [0, 3] K ⟨upd (upd (fun _ => .bad) 0 (.n (n : Int))) 3 (.s s), fun _ => none, 0, 0⟩ = some (.exit 0 U') /\ U'.s 0 = .n (q : Nat) /\ U'.s 3 = .s s' /\ U'.n = 0 /\ U'.h = (fun _ => none) /\ U'.base = 0 /\ q <= 9 /\ s'.size <= s.size + m /\ Zzx q ++ s' = ⟨(Lib.decDigits n).toArray⟩ ++ s
 | m, n, s, K, h1, h2, h3, h4 => by
   obtain ⟨K, rfl⟩ : ∃ j, K = j + 1 := ⟨K - 1, by omega⟩
   by_cases hk : 9 < n
   . have j1 : (9 : Int) < (n : Int) := by omega
     cases m with
     | zero => simp at h1; omega
     | succ m =>
       have hq : IntKind.i64.wrap ((n : Int).tdiv 10) = ((n / 10 : Nat) : Int) := by
        rw [Int.tdiv_eq_ediv_of_nonneg (by omega), Zt (by omega) (by omega)]; omega
       have j2 : (⟨[UInt8.ofNat (IntKind.u8.wrap (IntKind.i64.wrap (48 + (n : Int).tmod 10))).toNat].toArray⟩ : ByteArray) = Zzx (n % 10) :=
        Zzv (by omega) (by rw [Int.tmod_eq_emod_of_nonneg (by omega)]; omega)
       have j0 : (Zzx (n % 10) ++ s).size = s.size + 1 := by rw [ByteArray.size_append, Nat.add_comm]; rfl
       have j3 : (Zzx (n % 10)).size + s.size <= 2 ^ 62 := by rw [ByteArray.size_append] at j0; omega
       obtain ⟨U', q, s', e1, e2, e3, e4, e5, e6, e7, e8, e9⟩ := Zp0 E m (n / 10) (Zzx (n % 10) ++ s) K (by rw [Nat.pow_succ] at h1; omega) (by omega) (by rw [j0]; omega) (by omega)
       refine ⟨U', q, s', ?_, e2, e3, e4, e5, e6, e7, by rw [j0] at e8; omega, by rw [Yg6 n hk, e9]⟩
       rw [<- e1]
       have hd : (10 : Int) = 0 ↔ False := by decide
       rw [Zc]
       simp only [Z94, Z2g, go_sem, j1, hd, Z6g, j2, hq, j3]
   . have j1 : ¬ (9 : Int) < (n : Int) := by omega
     simp only [Zc, Z94, Z2g, go_sem, j1]
     exact ⟨_, n, s, rfl, rfl, rfl, rfl, rfl, rfl, by omega, by omega, (Yep n (by omega) s).symm⟩
theorem Y7o (s : ByteArray) : s ++ (⟨#[]⟩ : ByteArray) = s := Zcb (by simp [ByteArray.data_append])
theorem Zml {D : Nat} (hD : 1 <= D) (n : Nat) (hn : n <= 999) : den pr D Z0w [.n (n : Int)] = some [.s (Z9d n)] := by
 obtain ⟨D, rfl, hd⟩ := Zd hD
 rw [Zb4]
 have g0 : ¬ ((n : Int) < -9223372036854775807) := by omega
 have g1 : ¬ ((n : Int) < 0) := by omega
 obtain ⟨U', q, s', e1, e2, e3, e4, e5, e6, e7, e8, e9⟩ := Zp0 (aH D) 2 n ⟨#[]⟩ rounds (by omega) hn (by decide) (by unfold rounds; omega)
 have j0 := Zzv e7 rfl
 have hs : s'.size <= 2 := e8
 have hz : (Zzx q).size + s'.size <= 2 ^ 62 := by have : (Zzx q).size = 1 := rfl; omega
 simp only [Z4x, go_sem, g0, g1, e1, e2, e3, e4, e5, e6, Z6g, j0, hz]
 rw [e9, Y7o]
 unfold Z9d Lib.itoa
 rw [if_neg (by omega)]
 rfl
theorem Y1n {D : Nat} (hD : 2 <= D) (n : Int) (h1 : -999 <= n) (h2 : n <= 999) : den pr D Z0w [.n n] = some [.s (Z9d n)] := by
 by_cases h : n < 0
 . obtain ⟨D, rfl, hd⟩ := Zd (show 1 + 1 <= D from hD)
   obtain ⟨m, rfl⟩ : ∃ m : Nat, n = -(m : Int) := ⟨n.natAbs, by omega⟩
   have g0 : ¬ (-(m : Int) < -9223372036854775807) := by omega
   have hw : IntKind.i64.wrap (0 - (-(m : Int))) = (m : Int) := by rw [Zt (by omega) (by omega)]; omega
   have j0 := Zml hd m (by omega)
   have hz : (⟨#[45]⟩ : ByteArray).size + (Z9d m).size <= 2 ^ 62 := by
    have h3 : (Z9d m).size = (Lib.decDigits m).length := by
     unfold Z9d Lib.itoa
     rw [if_neg (by omega)]
     rfl
    have := Zep m (by omega)
    have h4 : (⟨#[45]⟩ : ByteArray).size = 1 := rfl
    omega
   rw [Zb4]
   simp only [Z4x, go_sem, g0, h, hw, j0, hz]
   unfold Z9d Lib.itoa
   rw [if_neg (by omega), if_pos h]
   congr 4
   apply Zcb
   simp [ByteArray.data_append]
 . obtain ⟨m, rfl⟩ : ∃ m : Nat, n = (m : Int) := ⟨n.toNat, by omega⟩
   exact Zml (by omega) m (by omega)
end Go.Vm.T
namespace Go.Vm.T
open Go.Lib
theorem Zk1 (b : UInt8) : ∀ (l : List UInt8) (a : Nat), decFrom a (l ++ [b]) = match decFrom a l with | some n => (match digitVal b with | some d => some (n * 10 + d) | none => none) | none => none
 | [], a => by
   simp only [dF, decFrom]
   cases digitVal b <;> rfl
 | c :: l, a => by
   simp only [List.cons_append, decFrom]
   cases digitVal c with
   | none => rfl
   | some d => exact Zk1 b l _
theorem Zzh {b : UInt8} {d : Nat} (h : digitVal b = some d) : d <= 9 /\ decDigits d = [b] := by
 obtain ⟨h1, h2, h3⟩ := digitVal_eq h
 refine ⟨by omega, ?_⟩
 rw [decDigits_one (by omega)]
 congr 1
 apply UInt8.toNat_inj.1
 rw [UInt8.toNat_ofNat']
 omega
theorem canon : ∀ (k : Nat) (l : List UInt8) (m : Nat), l.length = k + 1 -> decFrom 0 l = some m -> (l.head? = some 48 -> k = 0) -> decDigits m = l
 | 0, l, m, hl, h, _ => by
   match l, hl with
   | [b], _ =>
     simp only [decFrom] at h
     cases hd : digitVal b with
     | none => rw [hd] at h; cases h
     | some d =>
       rw [hd] at h
       simp only [dK, Nat.zero_mul, dD] at h
       subst h
       exact (Zzh hd).2
 | k + 1, l, m, hl, h, h0 => by
   obtain ⟨l', b, rfl⟩ : ∃ l' b, l = l' ++ [b] := by
    rcases List.eq_nil_or_concat l with h | ⟨l', b, h⟩
    . rw [h] at hl; simp at hl
    . exact ⟨l', b, by rw [h]; simp⟩
   have j2 : l'.length = k + 1 := by simp at hl; omega
   have j0 : (l' ++ [b]).head? = l'.head? := by
    cases l' with
    | nil => simp at j2
    | cons c r => rfl
   rw [j0] at h0
   have j1 : l'.head? ≠ some 48 := fun q => by have := h0 q; omega
   rw [Zk1] at h
   cases hn : decFrom 0 l' with
   | none => rw [hn] at h; cases h
   | some n =>
     cases hd : digitVal b with
     | none => rw [hn, hd] at h; cases h
     | some d =>
       rw [hn, hd] at h
       simp only [dK] at h
       subst h
       have ih := canon k l' n j2 hn (fun q => absurd q j1)
       obtain ⟨j5, j3⟩ := Zzh hd
       have j4 : n ≠ 0 := fun q => by
        subst q
        rw [decDigits_one (by omega)] at ih
        rw [<- ih] at j1
        exact j1 rfl
       rw [decDigits, dif_neg (by omega), show (n * 10 + d) / 10 = n by omega, show (n * 10 + d) % 10 = d by omega, ih]
       rw [decDigits_one (by omega)] at j3
       rw [j3]
theorem Zft {d : Nat} (h : d <= 9) : digitVal (UInt8.ofNat (48 + d)) = some d := by
 unfold digitVal
 rw [UInt8.toNat_ofNat']
 rw [if_pos (by omega)]
 congr 1
 omega
theorem Zsm (m : Nat) : decFrom 0 (decDigits m) = some m /\ decDigits m ≠ [] /\ ((decDigits m).head? = some 48 -> m = 0) /\ ∀ c, (decDigits m).head? = some c -> 48 <= c.toNat := by
 induction m using Nat.strongRecOn with
 | ind m ih =>
   by_cases h : m < 10
   . rw [decDigits_one h]
     refine ⟨by simp only [decFrom, Zft (show m <= 9 by omega)]; simp, by simp, fun q => ?_, fun c q => ?_⟩
     . simp only [gS, dK] at q
       have := congrArg UInt8.toNat q
       rw [UInt8.toNat_ofNat'] at this
       have j0 : (48 : UInt8).toNat = 48 := rfl
       omega
     . simp only [gS, dK] at q
       subst q
       rw [UInt8.toNat_ofNat']
       omega
   . obtain ⟨h1, h2, h3, h4⟩ := ih (m / 10) (by omega)
     rw [decDigits, dif_neg h]
     have hh : (decDigits (m / 10) ++ [UInt8.ofNat (48 + m % 10)]).head? = (decDigits (m / 10)).head? := by
      cases hq : decDigits (m / 10) with
      | nil => exact absurd hq h2
      | cons c r => rfl
     refine ⟨?_, by simp, fun q => ?_, fun c q => h4 c (by rw [<- hh]; exact q)⟩
     . rw [Zk1, h1, Zft (show m % 10 <= 9 by omega)]
       simp only [dK]
       omega
     . rw [hh] at q
       have := h3 q
       omega
theorem Zm7 {neg : Bool} {l : List UInt8} {m : Nat} (h : Zte neg l = some m) : l.length ≠ 0 /\ decFrom 0 l = some m /\ (l.head? = some 48 -> l.length = 1 /\ neg = false) := by
 unfold Zte at h
 split at h
 . cases h
 . rename_i hn
   refine ⟨fun q => hn (.inl q), h, fun q => ?_⟩
   by_cases h1 : 1 < l.length
   . exact absurd (.inr (.inr ⟨q, .inl h1⟩)) hn
   . cases neg with
     | true => exact absurd (.inr (.inr ⟨q, .inr rfl⟩)) hn
     | false => exact ⟨by have : l.length ≠ 0 := fun q => hn (.inl q); omega, rfl⟩
theorem Y9q {l : List UInt8} {n : Int} (h : Y04 l = some n) : atoi l = some n /\ itoa n = l := by
 unfold Y04 at h
 split at h
 . rename_i j0
   match l, j0 with
   | c :: r, j0 =>
     simp only [gS, dK] at j0
     subst j0
     simp only [List.tail_cons] at h
     cases hm : Zte true r with
     | none => rw [hm] at h; cases h
     | some m =>
       rw [hm] at h
       have h : -(m : Int) = n := eI h
       subst h
       obtain ⟨h1, h2, h3⟩ := Zm7 hm
       have hd := canon (r.length - 1) r m (by omega) h2 (fun q => by have := h3 q; simp at this)
       have j4 : m ≠ 0 := fun q => by
        subst q
        rw [decDigits_one (by omega)] at hd
        have := h3 (by rw [<- hd]; rfl)
        simp at this
       constructor
       . have : decNat r = some m := by unfold decNat; rw [if_neg (by cases r <;> simp at h1 ⊢)]; exact h2
         simp [atoi, this]
       . unfold itoa
         rw [if_pos (by omega), show (-(m : Int)).natAbs = m by omega, hd]
 . rename_i j0
   cases hm : Zte false l with
   | none => rw [hm] at h; cases h
   | some m =>
     rw [hm] at h
     have h : (m : Int) = n := eI h
     subst h
     obtain ⟨h1, h2, h3⟩ := Zm7 hm
     have hd := canon (l.length - 1) l m (by omega) h2 (fun q => by have := h3 q; omega)
     constructor
     . match l, h1 with
       | c :: r, _ =>
         have j1 : c ≠ 45 := fun q => j0 (by rw [q]; rfl)
         obtain ⟨dv, j3⟩ := digit_of_decFrom (c :: r) 0 m h2 0 c rfl
         have j2 : c ≠ 43 := fun q => by subst q; have := digitVal_eq j3; have j5 : (43 : UInt8).toNat = 43 := rfl; omega
         have hn : decNat (c :: r) = some m := by unfold decNat; rw [if_neg (by simp)]; exact h2
         simp [atoi, j1, j2, hn]
     . unfold itoa
       rw [if_neg (by omega), show ((m : Int)).toNat = m by omega, hd]
theorem Y1v {l : List UInt8} {n : Int} (h1 : -999 <= n) (h2 : n <= 999) (h : itoa n = l) : Y04 l = some n := by
 subst h
 unfold itoa
 split
 . rename_i hn
   obtain ⟨m, rfl⟩ : ∃ m : Nat, n = -(m : Int) := ⟨n.natAbs, by omega⟩
   rw [show (-(m : Int)).natAbs = m by omega]
   obtain ⟨b1, b2, b3, b4⟩ := Zsm m
   have hl := Zep m (by omega)
   unfold Y04 Zte
   simp only [gS, if_true, List.tail_cons]
   rw [if_neg]
   . rw [b1]; rfl
   . intro q
     rcases q with q | q | ⟨q, _⟩
     . exact b2 (fE.1 q)
     . omega
     . have := b3 q; omega
 . rename_i hn
   obtain ⟨m, rfl⟩ : ∃ m : Nat, n = (m : Int) := ⟨n.toNat, by omega⟩
   rw [show ((m : Int)).toNat = m by omega]
   obtain ⟨b1, b2, b3, b4⟩ := Zsm m
   have hl := Zep m (by omega)
   unfold Y04 Zte
   rw [if_neg (fun q => by have := b4 _ q; have j0 : (45 : UInt8).toNat = 45 := rfl; omega), if_neg]
   . rw [b1]; rfl
   . intro q
     rcases q with q | q | ⟨q, q2⟩
     . exact b2 (fE.1 q)
     . omega
     . have := b3 q
       subst this
       rcases q2 with q2 | q2
       . rw [decDigits_one (by omega)] at q2; simp at q2
       . cases q2
theorem Y0t (t : ByteArray) : Zv2 t = match Y04 t.data.toList with | some n => if inB n (-999) 999 = true then (1, n) else (0, 0) | none => (0, 0) := by
 unfold Zv2
 cases hs : Y04 t.data.toList with
 | some n =>
   obtain ⟨h1, h2⟩ := Y9q hs
   rw [h1]
   simp only [inB, dO, eF, h2, and_true]
 | none =>
   cases ha : atoi t.data.toList with
   | none => rfl
   | some n =>
     simp only
     rw [if_neg]
     intro h
     have := Y1v h.1 h.2.1 h.2.2
     rw [hs] at this
     cases this
end Go.Vm.T
namespace Go.Vm.T
def zV : Val := ⟨0, 0, ⟨#[]⟩⟩
def Ya2 (t : ByteArray) : Val := ⟨(Zv2 t).1, (Zv2 t).2, ⟨#[]⟩⟩
def Z3v (v : Val) (k : Int) : Val :=
 if Z0i v = false \/ v.k = 0 \/ inB k 1 2 = false then zV else if v.k = k then v else if k = 2 then ⟨2, 0, Z9d v.n⟩ else Ya2 v.t
theorem Z8e {v : Val} (h : Z0i v = true) (h1 : v.k = 1) : -999 <= v.n /\ v.n <= 999 /\ v.t = ⟨#[]⟩ := by
 unfold Z0i at h
 simp [h1, inB] at h
 exact ⟨h.1.1, h.1.2, h.2⟩
theorem Zgn {v : Val} (h : Z0i v = true) (h1 : v.k = 2) : v.n = 0 /\ v.t.size <= 4 /\ okL v.t.data.toList = true := by
 unfold Z0i at h
 simp [h1] at h
 refine ⟨h.2.1, by have := h.2.2; omega, h.1⟩
theorem Z4y {v : Val} (h : Z0i v = true) : v.k = 0 \/ v.k = 1 \/ v.k = 2 := by
 unfold Z0i at h
 by_cases h0 : v.k = 0
 . exact .inl h0
 . by_cases h1 : v.k = 1
   . exact .inr (.inl h1)
   . by_cases h2 : v.k = 2
     . exact .inr (.inr h2)
     . simp [h0, h1, h2] at h
theorem Yfi {k : Int} (h : inB k 1 2 = true) : k = 1 \/ k = 2 := by
 simp [inB] at h; omega
variable [Pr1]
theorem Y3a {D : Nat} (hD : 1 <= D) (t : ByteArray) (ht : t.size <= 18) : den pr D Yv [.s t] = some [.agg (Ya2 t).c] := by
 obtain ⟨D, rfl, hd⟩ := Zd hD
 rw [Zke]
 simp only [Zvq, ht, if_true, Ya2]
theorem Zx2 {D : Nat} (hD : 3 <= D) (v : Val) (k : Int) (ht : v.t.size <= big) : den pr D Z1q [.agg v.c, .n k] = some [.agg (Z3v v k).c] := by
 obtain ⟨D, rfl, hd⟩ := Zd hD
 rw [Zlt]
 have e1 := Zfp (show 2 <= D by omega) v ht
 have e2 := Y40 (show 1 <= D by omega) k 1 2
 have ei : ∀ n : Int, -999 <= n /\ n <= 999 -> den pr D Ve [.n n] = some [.s (Z9d n)] := fun n hn => by
  obtain ⟨D, rfl, hd⟩ := Zd (show 1 + 1 <= D by omega)
  rw [Za7]
  have : -9223372036854775808 <= n /\ n <= 9223372036854775807 := by omega
  simp only [Zuy, this, and_self, if_true]
 have en : v.t.size <= 4 -> den pr D Yv [.s v.t] = some [.agg (Ya2 v.t).c] := fun h => Y3a (by omega) _ (by omega)
 unfold Z3v
 cases h1 : Z0i v with
 | false =>
   rw [h1] at e1
   simp only [Vx, go_sem, e1, e2, true_or, if_true, zV]
 | true =>
   rw [h1] at e1
   rcases pf (v.k = 0) with h2 | h2
   . simp only [Vx, go_sem, e1, e2, h2, true_or, or_true, if_true, zV]
   . cases h3 : inB k 1 2 with
     | false =>
       rw [h3] at e2
       simp only [Vx, go_sem, e1, e2, h2, or_true, if_true, zV]
     | true =>
       rw [h3] at e2
       rcases pf (v.k = k) with h4 | h4
       . simp only [Vx, go_sem, e1, e2, h2, h4, or_false, fO, if_false, if_true]
       . rcases pf (k = 2) with h5 | h5
         . have hk : v.k = 1 := by
            rcases Z4y h1 with q | q | q
            . exact absurd q (by rw [h2]; exact id)
            . exact q
            . exact absurd (q.trans (of_eq_true h5).symm) (by rw [h4]; exact id)
           have j1 := ei v.n (by have := Z8e h1 hk; omega)
           simp only [Vx, go_sem, e1, e2, h2, h4, h5, j1, or_false, fO, if_false, if_true]
         . have hk : v.k = 2 := by
            rcases Yfi h3 with q | q
            . rcases Z4y h1 with p | p | p
              . exact absurd p (by rw [h2]; exact id)
              . exact absurd (p.trans q.symm) (by rw [h4]; exact id)
              . exact p
            . exact absurd q (by rw [h5]; exact id)
           have j0 := en (Zgn h1 hk).2.1
           simp only [Vx, go_sem, e1, e2, h2, h4, h5, j0, or_false, fO, if_false, if_true]
theorem Zp9 {D : Nat} (hd : 2 <= D) (v : Val) (hk : v.k = 2) (r1 : Int) (r2 : Bool) (e1 : den pr D Wl [.agg v.c] = some [.q true]) (e2 : den pr D Z12 [.s v.t] = some [.n r1, .q r2]) (e3 : den pr D Z1p [.n r1] = some [.q (inB r1 (-999) 999)]) :
 Zc0 (Zg (aH D) W6.code ⟨slots [.agg v.c, .n 1], fun _ => none, 0, 0⟩) (res W6.res) = some [.agg (Val.c ⟨(if (r2 && inB r1 (-999) 999) = true then ((1 : Int), r1) else (0, 0)).1, (if (r2 && inB r1 (-999) 999) = true then ((1 : Int), r1) else (0, 0)).2, ⟨#[]⟩⟩)] := by
 obtain ⟨vk, vn, vt⟩ := v
 simp only at hk e2
 subst hk
 have g1 : ¬ ((1 : Int) < 1) := by decide
 have g2 : ¬ ((2 : Int) < 1) := by decide
 have g3 : ¬ ((2 : Int) = 0) := by decide
 have g4 : ¬ ((2 : Int) = 1) := by decide
 have g5 : ¬ ((1 : Int) = 2) := by decide
 cases r2 with
 | false => simp only [W6, go_sem, e1, e2, e3, g1, g2, g3, g4, g5, fR, eD, if_false]
 | true =>
   cases h7 : inB r1 (-999) 999 with
   | false =>
     rw [h7] at e3
     simp only [W6, go_sem, e1, e2, e3, g1, g2, g3, g4, g5, gZ, eD, if_false]
   | true =>
     rw [h7] at e3
     simp only [W6, go_sem, e1, e2, e3, g1, g2, g3, g4, g5, Bool.and_true, if_true]
theorem Zd6 {D : Nat} (hD : 3 <= D) (v : Val) (k : Int) (ht : v.t.size <= big) : den pr D Z1u [.agg v.c, .n k] = some [.agg (Z3v v k).c] := by
 obtain ⟨D, rfl, hd⟩ := Zd hD
 rw [Zmh]
 have e1 := Z3f (show 2 <= D by omega) v ht
 have e2 := Y0h (show 1 <= D by omega) v.t ht
 have e3 := Z8i (show 1 <= D by omega)
 have e4 := Y1n (show 2 <= D by omega) v.n
 obtain ⟨r, e2, hr⟩ : ∃ r : Int × Bool, den pr D Z12 [.s v.t] = some [.n r.1, .q r.2] /\ Zv2 v.t = if (r.2 && inB r.1 (-999) 999) = true then (1, r.1) else (0, 0) := by
  rw [e2, Y0t]
  cases Y04 v.t.data.toList with
  | none => exact ⟨(0, false), rfl, rfl⟩
  | some n => exact ⟨(n, true), rfl, by simp⟩
 unfold Z3v Ya2
 rw [hr]
 obtain ⟨r1, r2⟩ := r
 simp only at e2 ⊢
 have j4 := e3 r1
 have j0 : inB k 1 2 = (!(decide (k < 1)) && !(decide (2 < k))) := by
  rw [Bool.eq_iff_iff]
  simp [inB]
 rw [j0]
 cases h1 : Z0i v with
 | false =>
   rw [h1] at e1
   simp only [W6, go_sem, e1, e2, true_or, if_true, zV]
 | true =>
   rw [h1] at e1
   rcases pf (k < 1) with h2 | h2
   . simp only [W6, go_sem, e1, e2, h2, or_true, if_true, zV]
   . rcases pf (2 < k) with h3 | h3
     . simp only [W6, go_sem, e1, e2, h2, h3, or_true, if_true, zV]
     . rcases pf (v.k = 0) with h4 | h4
       . simp only [W6, go_sem, e1, e2, h2, h3, h4, true_or, or_true, if_true, zV]
       . rcases pf (v.k = k) with h5 | h5
         . simp only [W6, go_sem, e1, e2, h2, h3, h4, h5, or_false, fO, if_false, if_true]
         . rcases pf (k = 2) with h6 | h6
           . have hk : v.k = 1 := by
              rcases Z4y h1 with q | q | q
              . exact absurd q (by rw [h4]; exact id)
              . exact q
              . exact absurd (q.trans (of_eq_true h6).symm) (by rw [h5]; exact id)
             have j3 := e4 (by have := Z8e h1 hk; omega) (by have := Z8e h1 hk; omega)
             have j1 := of_eq_true h6
             subst j1
             simp only [W6, go_sem, e1, e2, h4, h5, j3, false_or, fO, if_false, if_true]
             try simp
           . have j2 : k = 1 := by
              have a2 : ¬ k < 1 := by rw [h2]; exact id
              have a3 : ¬ 2 < k := by rw [h3]; exact id
              have a6 : ¬ k = 2 := by rw [h6]; exact id
              omega
             subst j2
             have hk : v.k = 2 := by
              rcases Z4y h1 with q | q | q
              . exact absurd q (by rw [h4]; exact id)
              . exact absurd q (by rw [h5]; exact id)
              . exact q
             have := Zp9 hd v hk r1 r2 e1 e2 (Z8i (show 1 <= D by omega) r1)
             rw [this]
             simp only [h4, or_false, fO, if_false, h5, h6, h2, h3, fQ, Bool.and_self, decide_false]
end Go.Vm.T
namespace Go.Vm.T
structure Chg where
 k : Int
 nm : ByteArray
 nw : ByteArray
 col : ColV
 deriving DecidableEq
abbrev Chg.c (c : Chg) : List A := [.n c.k, .s c.nm, .s c.nw, .s c.col.nm, .n c.col.k, .q c.col.need, .q c.col.once, .n c.col.df.k, .n c.col.df.n, .s c.col.df.t]
abbrev eT : ByteArray := ⟨#[]⟩
def zC : ColV := ⟨eT, 0, false, false, zV⟩
abbrev Y24 : List A := [.n 0, .n 0, .s ⟨#[]⟩]
def Z3h (c : Chg) : Bool :=
 if c.k = 1 then decide (c.nm = eT) && decide (c.nw = eT)
 else if c.k = 2 then decide (c.nw = eT) && decide (c.col = zC)
 else if c.k = 3 then decide (c.col = zC)
 else if c.k = 4 then decide (c.nw = eT) && decide (c.col = { zC with k := c.col.k })
 else false
variable [Pr1]
theorem Z4u {D : Nat} (hD : 2 <= D) (rows : List (List A)) (hl : rows.length <= big) : den pr D Ze5 [.lit Z0 rows] = some [.olit Z0 rows] := by
 obtain ⟨D, rfl, hd⟩ := Zd hD
 obtain ⟨D, rfl, hd⟩ := Zd hd
 rw [Ydl]
 have h1 : den pr (D + 1) Zh7 [.lit Z0 rows] = some [.olit Z0 rows] := by
  rw [Ybb]
  simp only [Zcv, hl, go_sem]
 have h2 : Z0n rows = true \/ Z0n rows = false := by cases Z0n rows <;> simp
 rcases h2 with h2 | h2 <;> simp only [Y65, go_sem, h1, h2, Yat, Zwm, dM, dE, fD, eX, frz]
theorem Zb9 {D : Nat} (hD : 2 <= D) (rows : List (List A)) (hl : rows.length <= big) : den pr D Zu2 [.lit Z2 rows] = some [.olit Z2 rows] := by
 obtain ⟨D, rfl, hd⟩ := Zd hD
 obtain ⟨D, rfl, hd⟩ := Zd hd
 rw [Yez]
 have h1 : den pr (D + 1) Zhu [.lit Z2 rows] = some [.olit Z2 rows] := by
  rw [Yay]
  simp only [Zcv, hl, go_sem]
 have h2 : Z0n rows = true \/ Z0n rows = false := by cases Z0n rows <;> simp
 rcases h2 with h2 | h2 <;> simp only [Y6u, go_sem, h1, h2, Ybs, Zx8, dM, dE, fD, eX, frz]
theorem Zz9 {D : Nat} (hD : 1 <= D) (rows : List (List A)) (i : Nat) (hi : i < rows.length) (hl : rows.length <= big) (h : Hp) (m b : Nat) (hb : b < m) (hh : h b = some ⟨Z0, rows, true, false⟩) (ex : Bool) :
 dcl pr D Zrj [cT Z0 b rows.length ex, .n (i : Int), .n ((i : Int) + 1)] h m = some ([.ref Z0 b 0 (rows.length - 1) rows.length ex], upd (upd h m (cS Z0 [])) b (some ⟨Z0, Z46 i rows ++ [Ycd], true, false⟩), m + 1 + 1) := by
 obtain ⟨D, rfl, hd⟩ := Zd hD
 rw [Y9d]
 have j0 : ¬ b = m := by omega
 have e1 : (0 : Int) <= (i : Int) + 1 := by omega
 have e2 : ((i : Int) + 1).toNat = i + 1 := by omega
 have e3 : ¬ ((i : Int) = (i : Int) + 1) := by omega
 have e4 : i <= i + 1 := by omega
 have e5 : i + 1 <= rows.length := by omega
 have e6 : i <= rows.length := by omega
 have e7 : ¬ rows.length = i := by omega
 have f2 : i + (rows.length - (i + 1)) = rows.length - 1 := by omega
 have f3 : rows.length - 1 <= big := by omega
 have f4 : rows.length - 1 <= rows.length := by omega
 have f5 : (rows.drop (i + 1)).take (rows.length - (i + 1)) = rows.drop (i + 1) := dN (by simp)
 have f6 : rows.take i ++ rows.drop (i + 1) = Z46 i rows := rfl
 have f7 : rows.length - (rows.length - 1) = 1 := by omega
 have g := Z21 hi
 have f8 : (Z46 i rows ++ rows.drop (rows.length - 1)).take (rows.length - 1) = Z46 i rows := by rw [<- g, List.take_left]
 have f9 : (Z46 i rows ++ rows.drop (rows.length - 1)).drop (rows.length - 1 + 1) = [] := gP (by simp [g]; omega)
 have fa : rows.length - 1 + 1 <= (Z46 i rows ++ rows.drop (rows.length - 1)).length := by simp [g]; omega
 have fb : List.replicate 1 Ycd = [Ycd] := rfl
 have fc : i + 1 + (rows.length - (i + 1)) <= rows.length := by omega
 have fd : i + (1 + (rows.length - (i + 1))) <= rows.length := by omega
 simp only [Zy5, go_sem, hh, j0, e1, e2, e3, e4, e5, e6, e7, fc, fd, f2, f3, f4, f5, f6, f7, f8, f9, fa, fb, Wx, dM, dE, fD, gD, eX, fC]
theorem Zwx {D : Nat} (hD : 1 <= D) (rows : List (List A)) (i : Nat) (hi : i < rows.length) (hl : rows.length <= big) (h : Hp) (m b : Nat) (hb : b < m) (hh : h b = some ⟨Z2, rows, true, false⟩) (ex : Bool) :
 dcl pr D Zrz [cT Z2 b rows.length ex, .n (i : Int), .n ((i : Int) + 1)] h m = some ([.ref Z2 b 0 (rows.length - 1) rows.length ex], upd (upd h m (cS Z2 [])) b (some ⟨Z2, Z46 i rows ++ [Y24], true, false⟩), m + 1 + 1) := by
 obtain ⟨D, rfl, hd⟩ := Zd hD
 rw [Y9a]
 have j0 : ¬ b = m := by omega
 have e1 : (0 : Int) <= (i : Int) + 1 := by omega
 have e2 : ((i : Int) + 1).toNat = i + 1 := by omega
 have e3 : ¬ ((i : Int) = (i : Int) + 1) := by omega
 have e4 : i <= i + 1 := by omega
 have e5 : i + 1 <= rows.length := by omega
 have e6 : i <= rows.length := by omega
 have e7 : ¬ rows.length = i := by omega
 have f2 : i + (rows.length - (i + 1)) = rows.length - 1 := by omega
 have f3 : rows.length - 1 <= big := by omega
 have f4 : rows.length - 1 <= rows.length := by omega
 have f5 : (rows.drop (i + 1)).take (rows.length - (i + 1)) = rows.drop (i + 1) := dN (by simp)
 have f6 : rows.take i ++ rows.drop (i + 1) = Z46 i rows := rfl
 have f7 : rows.length - (rows.length - 1) = 1 := by omega
 have g := Z21 hi
 have f8 : (Z46 i rows ++ rows.drop (rows.length - 1)).take (rows.length - 1) = Z46 i rows := by rw [<- g, List.take_left]
 have f9 : (Z46 i rows ++ rows.drop (rows.length - 1)).drop (rows.length - 1 + 1) = [] := gP (by simp [g]; omega)
 have fa : rows.length - 1 + 1 <= (Z46 i rows ++ rows.drop (rows.length - 1)).length := by simp [g]; omega
 have fb : List.replicate 1 Y24 = [Y24] := rfl
 have fc : i + 1 + (rows.length - (i + 1)) <= rows.length := by omega
 have fd : i + (1 + (rows.length - (i + 1))) <= rows.length := by omega
 simp only [Zy8, go_sem, hh, j0, e1, e2, e3, e4, e5, e6, e7, fc, fd, f2, f3, f4, f5, f6, f7, f8, f9, fa, fb, Wx, dM, dE, fD, gD, eX, fC]
theorem Zkg {J : Type} [DecidableEq J] (a b : J) : decide (a = b) = decide (b = a) := by by_cases h : a = b <;> simp [h, eq_comm]
theorem Zp8 (cn : ByteArray) (ck : Int) (need once : Bool) (dk dn : Int) (dt : ByteArray) :
 (decide (eT = cn) && (decide (0 = ck) && (decide (false = need) && (decide (false = once) && (decide (0 = dk) && (decide (0 = dn) && decide (eT = dt))))))) = decide (ColV.mk cn ck need once ⟨dk, dn, dt⟩ = zC) := by
 rw [Bool.eq_iff_iff]
 simp only [zC, zV, ColV.mk.injEq, Val.mk.injEq, dO, eF, @eq_comm _ cn, @eq_comm _ ck, @eq_comm _ need, @eq_comm _ once, @eq_comm _ dk, @eq_comm _ dn, @eq_comm _ dt]
theorem Y3i (nw cn : ByteArray) (ck : Int) (need once : Bool) (dk dn : Int) (dt : ByteArray) :
 (decide (eT = nw) && (decide (eT = cn) && (decide (0 = ck) && (decide (false = need) && (decide (false = once) && (decide (0 = dk) && (decide (0 = dn) && decide (eT = dt)))))))) = (decide (nw = eT) && decide (ColV.mk cn ck need once ⟨dk, dn, dt⟩ = zC)) := by
 rw [Zp8, Zkg nw]
theorem Zyh (nw cn : ByteArray) (ck : Int) (need once : Bool) (dk dn : Int) (dt : ByteArray) :
 (decide (eT = nw) && (decide (eT = cn) && (decide (false = need) && (decide (false = once) && (decide (0 = dk) && (decide (0 = dn) && decide (eT = dt))))))) = (decide (nw = eT) && decide (ColV.mk cn ck need once ⟨dk, dn, dt⟩ = { zC with k := ck })) := by
 rw [Bool.eq_iff_iff]
 simp only [zC, zV, ColV.mk.injEq, Val.mk.injEq, dO, eF, true_and, @eq_comm _ nw, @eq_comm _ cn, @eq_comm _ need, @eq_comm _ once, @eq_comm _ dk, @eq_comm _ dn, @eq_comm _ dt]
theorem Zfl {D : Nat} (hD : 1 <= D) (c : Chg) : den pr D Zhs [.agg c.c] = some [.q (Z3h c)] := by
 obtain ⟨D, rfl, hd⟩ := Zd hD
 rw [Yax]
 obtain ⟨k, nm, nw, cn, ck, need, once, dk, dn, dt⟩ := c
 unfold Z3h
 simp only
 rcases pf (k = 1) with h1 | h1
 . simp only [Ze9, go_sem, h1, if_true]
   rw [Zkg nm, Zkg nw]
 . rcases pf (k = 2) with h2 | h2
   . simp only [Ze9, go_sem, h1, h2, if_true, if_false]
     exact congrArg (fun b => some [A.q b]) (Y3i _ _ _ _ _ _ _ _)
   . rcases pf (k = 3) with h3 | h3
     . simp only [Ze9, go_sem, h1, h2, h3, if_true, if_false]
       exact congrArg (fun b => some [A.q b]) (Zp8 _ _ _ _ _ _ _)
     . rcases pf (k = 4) with h4 | h4
       . simp only [Ze9, go_sem, h1, h2, h3, h4, if_true, if_false]
         exact congrArg (fun b => some [A.q b]) (Zyh _ _ _ _ _ _ _ _)
       . simp only [Ze9, go_sem, h1, h2, h3, h4, if_true, if_false]
end Go.Vm.T
namespace Go.Vm.T
def Zc1 (s out : List ColV) : List ColV × Bool := if Zm out then (out, true) else (s, false)
def Y8s (s : List ColV) (c : Chg) (i : Nat) (x : ColV) : List ColV × Bool :=
 if c.k = 2 then Zc1 s (Z46 i s) else if c.k = 3 then Zc1 s (s.set i { x with nm := c.nw }) else if c.col.k = x.k then (s, false) else Zc1 s (s.set i { x with k := c.col.k, df := Z3v x.df c.col.k })
def Z72 (s : List ColV) (c : Chg) : List ColV × Bool :=
 if Z3h c = false then (s, false)
 else if c.k = 1 then (if c.col.need && decide (c.col.df.k = 0) then (s, false) else Zc1 s (s ++ [c.col]))
 else match Z3w c.nm s with
  | none => (s, false)
  | some i => match s[i]? with
    | some x => Y8s s c i x
    | none => (s, false)
structure SmallG (c : Chg) : Prop where
 nm : c.nm.size <= big
 nw : c.nw.size <= big
 cn : c.col.nm.size <= big
 dt : c.col.df.t.size <= big
theorem Zcr {v : Val} {k : Int} (h : v.t.size <= big) : (Z3v v k).t.size <= big := by
 unfold Z3v
 split
 . show (0 : Nat) <= big; omega
 . rename_i hn
   split
   . exact h
   . split
     . rename_i h1 h2
       have hv : Z0i v = true := by cases hq : Z0i v with
        | true => rfl
        | false => exact absurd (.inl hq) hn
       have hk : v.k = 1 := by
        rcases Z4y hv with q | q | q
        . exact absurd (.inr (.inl q)) hn
        . exact q
        . exact absurd (q.trans h2.symm) h1
       have := Z8e hv hk
       show (Z9d v.n).size <= big
       have h3 : (Z9d v.n).size = (Lib.itoa v.n).length := rfl
       rw [h3]
       unfold Lib.itoa
       split
       . have := Zep v.n.natAbs (by omega); simp only [eB]; unfold big; omega
       . have := Zep v.n.toNat (by omega); unfold big; omega
     . show (0 : Nat) <= big; omega
variable [Pr1]
structure C1 (D : Nat) (s : List ColV) (c : Chg) : Prop where
 e0 : den pr D Ze5 [.lit Z0 (s.map ColV.c)] = some [.olit Z0 (s.map ColV.c)]
 e1 : den pr D Wb [.lit Z0 (s.map ColV.c), .s c.nm] = some [.n (nmI c.nm s)]
 e2 : den pr D Zhs [.agg c.c] = some [.q true]
 e3 : den pr D Wj [.lit Z0 (s.map ColV.c ++ [c.col.c])] = some [.q (Zm (s ++ [c.col]))]
 e4 : den pr D Ze5 [.lit Z0 (s.map ColV.c ++ [c.col.c])] = some [.olit Z0 (s.map ColV.c ++ [c.col.c])]
 hl : s.length + 1 <= big
 hlt : (s.map ColV.c).take s.length = s.map ColV.c
 hta : ∀ r : List A, List.take (s.length + 1) (s.map ColV.c ++ [r]) = s.map ColV.c ++ [r]
 rsa : Z0n (s.map ColV.c ++ [c.col.c]) = false
theorem Zxi {D : Nat} (s : List ColV) (nm nw cn : ByteArray) (ck : Int) (once : Bool) (dk dn : Int) (dt : ByteArray) (C : C1 D s ⟨1, nm, nw, ⟨cn, ck, false, once, dk, dn, dt⟩⟩) :
 Zc0 (Zg (aH D) Yf.code ⟨slots [.lit Z0 (s.map ColV.c), .agg (Chg.c ⟨1, nm, nw, ⟨cn, ck, false, once, dk, dn, dt⟩⟩)], fun _ => none, 0, 0⟩) (res Yf.res) = some [.olit Z0 ((Zc1 s (s ++ [⟨cn, ck, false, once, dk, dn, dt⟩])).1.map ColV.c), .q (Zc1 s (s ++ [⟨cn, ck, false, once, dk, dn, dt⟩])).2] := by
 obtain ⟨e0, e1, e2, e3, e4, hl, hlt, hta, rsa⟩ := C
 unfold Zc1
 simp only at e3 e4 rsa
 have em : (s ++ [(⟨cn, ck, false, once, dk, dn, dt⟩ : ColV)]).map ColV.c = s.map ColV.c ++ [(⟨cn, ck, false, once, dk, dn, dt⟩ : ColV).c] := by simp
 cases h4 : Zm (s ++ [⟨cn, ck, false, once, dk, dn, dt⟩]) with
 | false =>
   rw [h4] at e3
   simp only [Yf, go_sem, e0, e1, e2, e3, eD, if_false, if_true, dL, eA, Z9, dM, hl, hlt, hta, and_self]
 | true =>
   rw [h4] at e3
   simp only [Yf, go_sem, e0, e1, e2, e3, e4, eD, if_false, em, if_true, dL, eA, Z9, dM, hl, hlt, hta, rsa, and_self]
theorem Y00 {D : Nat} (s : List ColV) (nm nw cn : ByteArray) (ck : Int) (once : Bool) (dk dn : Int) (dt : ByteArray) (h3 : (dk = 0) = False) (C : C1 D s ⟨1, nm, nw, ⟨cn, ck, true, once, dk, dn, dt⟩⟩) :
 Zc0 (Zg (aH D) Yf.code ⟨slots [.lit Z0 (s.map ColV.c), .agg (Chg.c ⟨1, nm, nw, ⟨cn, ck, true, once, dk, dn, dt⟩⟩)], fun _ => none, 0, 0⟩) (res Yf.res) = some [.olit Z0 ((Zc1 s (s ++ [⟨cn, ck, true, once, dk, dn, dt⟩])).1.map ColV.c), .q (Zc1 s (s ++ [⟨cn, ck, true, once, dk, dn, dt⟩])).2] := by
 obtain ⟨e0, e1, e2, e3, e4, hl, hlt, hta, rsa⟩ := C
 unfold Zc1
 simp only at e3 e4 rsa
 have em : (s ++ [(⟨cn, ck, true, once, dk, dn, dt⟩ : ColV)]).map ColV.c = s.map ColV.c ++ [(⟨cn, ck, true, once, dk, dn, dt⟩ : ColV).c] := by simp
 cases h4 : Zm (s ++ [⟨cn, ck, true, once, dk, dn, dt⟩]) with
 | false =>
   rw [h4] at e3
   simp only [Yf, go_sem, h3, e0, e1, e2, e3, eD, if_false, if_true, dL, eA, Z9, dM, hl, hlt, hta, and_self]
 | true =>
   rw [h4] at e3
   simp only [Yf, go_sem, h3, e0, e1, e2, e3, e4, eD, if_false, em, if_true, dL, eA, Z9, dM, hl, hlt, hta, rsa, and_self]
theorem Zz8 {D : Nat} (s : List ColV) (nm nw cn : ByteArray) (ck : Int) (once : Bool) (dn : Int) (dt : ByteArray) (C : C1 D s ⟨1, nm, nw, ⟨cn, ck, true, once, 0, dn, dt⟩⟩) :
 Zc0 (Zg (aH D) Yf.code ⟨slots [.lit Z0 (s.map ColV.c), .agg (Chg.c ⟨1, nm, nw, ⟨cn, ck, true, once, 0, dn, dt⟩⟩)], fun _ => none, 0, 0⟩) (res Yf.res) = some [.olit Z0 (s.map ColV.c), .q false] := by
 obtain ⟨e0, e1, e2, e3, e4, hl, hlt, hta, rsa⟩ := C
 simp only [Yf, go_sem, e0, e1, e2, if_true, dL, Z9]
theorem Y33 {D : Nat} (hD : 5 <= D) (s : List ColV) (c : Chg) (hs : SmallC s) (hl : s.length + 1 <= big) (hc : SmallG c) (h1 : Z3h c = true) (hk : c.k = 1) : den pr D Xb [.lit Z0 (s.map ColV.c), .agg c.c] = some [.olit Z0 ((Z72 s c).1.map ColV.c), .q (Z72 s c).2] := by
 obtain ⟨D, rfl, hd⟩ := Zd hD
 rw [Z04]
 have C : C1 D s c := by
  have e3 := Z8f (show 4 <= D by omega) (s ++ [c.col]) ⟨by simpa using hl, fun x hx => by
   rcases dS.1 hx with h | h
   . exact hs.txt x h
   . rw [dT.1 h]; exact ⟨hc.cn, hc.dt⟩⟩
  have e4 := Z4u (show 2 <= D by omega) ((s ++ [c.col]).map ColV.c) (by simpa using hl)
  have em : (s ++ [c.col]).map ColV.c = s.map ColV.c ++ [c.col.c] := by simp
  have rsa := Z9 (s ++ [c.col])
  rw [em] at e3 e4 rsa
  refine ⟨Z4u (show 2 <= D by omega) (s.map ColV.c) (by rw [dL]; omega), Z6d (show 3 <= D by omega) c.nm s hs.len, ?_, e3, e4, hl, dN (by simp), fun r => dN (by simp), rsa⟩
  rw [Zfl (show 1 <= D by omega) c, h1]
 obtain ⟨k, nm, nw, cn, ck, need, once, dk, dn, dt⟩ := c
 simp only at hk hc
 subst hk
 unfold Z72
 simp only [h1, if_true, fO, if_false]
 cases need with
 | false => rw [Zxi s nm nw cn ck once dk dn dt C]; rfl
 | true =>
   rcases pf (dk = 0) with h3 | h3
   . have j0 := of_eq_true h3
     subst j0
     rw [Zz8 s nm nw cn ck once dn dt C]; rfl
   . rw [Y00 s nm nw cn ck once dk dn dt h3 C]
     simp only [h3, eN, decide_false, eD, if_false]
end Go.Vm.T
namespace Go.Vm.T
variable [Pr1]
theorem Y0r {D : Nat} (hD : 5 <= D) (s : List ColV) (c : Chg) (hs : SmallC s) (h1 : Z3h c = false) : den pr D Xb [.lit Z0 (s.map ColV.c), .agg c.c] = some [.olit Z0 (s.map ColV.c), .q false] := by
 obtain ⟨D, rfl, hd⟩ := Zd hD
 rw [Z04]
 have e0 := Z4u (show 2 <= D by omega) (s.map ColV.c) (by rw [dL]; exact hs.len)
 have e1 := Z6d (show 3 <= D by omega) c.nm s hs.len
 have e2 := Zfl (show 1 <= D by omega) c
 rw [h1] at e2
 simp only [Yf, go_sem, e0, e1, e2, if_true, dL, Z9]
theorem Y0g {D : Nat} (hD : 5 <= D) (s : List ColV) (c : Chg) (hs : SmallC s) (h1 : Z3h c = true) (hk : (c.k = 1) = False) (ha : Z3w c.nm s = none) : den pr D Xb [.lit Z0 (s.map ColV.c), .agg c.c] = some [.olit Z0 (s.map ColV.c), .q false] := by
 obtain ⟨D, rfl, hd⟩ := Zd hD
 rw [Z04]
 have e0 := Z4u (show 2 <= D by omega) (s.map ColV.c) (by rw [dL]; exact hs.len)
 have e1 := Z6d (show 3 <= D by omega) c.nm s hs.len
 have e2 := Zfl (show 1 <= D by omega) c
 rw [h1] at e2
 unfold nmI at e1
 rw [ha] at e1
 have hm : (-1 : Int) < 0 := by decide
 simp only [Yf, go_sem, e0, e1, e2, if_true, dL, Z9, hk, hm]
theorem Y25 {D : Nat} (hD : 5 <= D) (s : List ColV) (c : Chg) (hs : SmallC s) (h1 : Z3h c = true) (hk : c.k = 2) (i : Nat) (ha : Z3w c.nm s = some i) : den pr D Xb [.lit Z0 (s.map ColV.c), .agg c.c] = some [.olit Z0 ((Zc1 s (Z46 i s)).1.map ColV.c), .q (Zc1 s (Z46 i s)).2] := by
 obtain ⟨D, rfl, hd⟩ := Zd hD
 rw [Z04]
 have hl := hs.len
 have hi := Z0q ha
 have e0 := Z4u (show 2 <= D by omega) (s.map ColV.c) (by rw [dL]; exact hs.len)
 have e1 := Z6d (show 3 <= D by omega) c.nm s hs.len
 have e2 := Zfl (show 1 <= D by omega) c
 rw [h1] at e2
 unfold nmI at e1
 rw [ha] at e1
 simp only at e1
 have hm : ¬ ((i : Int) < 0) := by omega
 have hw : IntKind.i64.wrap ((i : Int) + 1) = (i : Int) + 1 := Zn (n := i) (by unfold big at hl; omega)
 have h4 := Zz9 (show 1 <= D by omega) (s.map ColV.c) i (by simpa using hi) (by simpa using hl)
 have j2 : (Z46 i s).length <= big := by rw [Z21 hi]; omega
 have j0 : ∀ x ∈ Z46 i s, x ∈ s := fun x hx => by
  unfold Z46 at hx
  rcases dS.1 hx with h | h
  . exact eZ h
  . exact eO h
 have e5 := Z4u (show 2 <= D by omega) ((Z46 i s).map ColV.c) (by rw [dL]; exact j2)
 have e3 := Z8f (show 4 <= D by omega) (Z46 i s) ⟨j2, fun x hx => hs.txt x (j0 x hx)⟩
 have q1 : Z46 i (s.map ColV.c) = (Z46 i s).map ColV.c := Zt3 _ _ _
 have q2 : ((Z46 i s).map ColV.c ++ [Ycd]).take (s.length - 1) = (Z46 i s).map ColV.c := by
  rw [<- Z21 hi, <- dL (f := ColV.c), List.take_left]
 have q3 : s.length - 1 <= (Z46 i s).length + 1 := by rw [Z21 hi]; omega
 simp only [dL] at h4
 have j3 : (c.k = 1) = False := by rw [hk]; decide
 have j1 : (c.k = 2) = True := by rw [hk]; decide
 unfold Zc1
 cases h5 : Zm (Z46 i s) with
 | false =>
   rw [h5] at e3
   simp only [Yf, go_sem, e0, e1, e2, e3, j3, j1, hm, hw, h4, q1, q2, q3, Wx, eD, if_false, if_true, dL, eA, Z9, dM]
 | true =>
   rw [h5] at e3
   simp only [Yf, go_sem, e0, e1, e2, e3, e5, j3, j1, hm, hw, h4, q1, q2, q3, Wx, eD, if_false, if_true, dL, eA, Z9, dM]
structure C3 (D : Nat) (s : List ColV) (c : Chg) (i : Nat) (x : ColV) (y : ColV) : Prop where
 e0 : den pr D Ze5 [.lit Z0 (s.map ColV.c)] = some [.olit Z0 (s.map ColV.c)]
 e1 : den pr D Wb [.lit Z0 (s.map ColV.c), .s c.nm] = some [.n (i : Int)]
 e2 : den pr D Zhs [.agg c.c] = some [.q true]
 e3 : den pr D Wj [.lit Z0 ((s.map ColV.c).set i y.c)] = some [.q (Zm (s.set i y))]
 e4 : den pr D Ze5 [.lit Z0 ((s.map ColV.c).set i y.c)] = some [.olit Z0 ((s.map ColV.c).set i y.c)]
 hr : (s.map ColV.c)[i]? = some x.c
 hi : i < s.length
 rsa : Z0n ((s.map ColV.c).set i y.c) = false
 hm : ¬ ((i : Int) < 0)
 em : (s.set i y).map ColV.c = (s.map ColV.c).set i y.c
 len : s.length <= big
 tk : ∀ r, List.take s.length ((s.map ColV.c).set i r) = (s.map ColV.c).set i r
 hset : ∀ r, ((s.map ColV.c).set i r)[i]? = some r
theorem C3.of {D : Nat} (hD : 4 <= D) {s : List ColV} {c : Chg} (hs : SmallC s) (h1 : Z3h c = true) {i : Nat} (ha : Z3w c.nm s = some i) {x : ColV} (hx : s[i]? = some x) (y : ColV) (hy : y.nm.size <= big /\ y.df.t.size <= big) : C3 D s c i x y := by
 have hi := Z0q ha
 have em : (s.set i y).map ColV.c = (s.map ColV.c).set i y.c := gI
 have e3 := Z8f hD (s.set i y) ⟨by rw [dI]; exact hs.len, fun z hz => by
  rcases eW hz with h | h
  . exact hs.txt z h
  . rw [h]; exact hy⟩
 have e4 := Z4u (show 2 <= D by omega) ((s.set i y).map ColV.c) (by simpa using hs.len)
 have rsa := Z9 (s.set i y)
 rw [em] at e3 e4 rsa
 have e1 := Z6d (show 3 <= D by omega) c.nm s hs.len
 unfold nmI at e1
 rw [ha] at e1
 refine ⟨Z4u (show 2 <= D by omega) (s.map ColV.c) (by rw [dL]; exact hs.len), e1, ?_, e3, e4, Zu (f := ColV.c) hx, hi, rsa, by omega, em, hs.len, fun r => dN (by simp), fun r => gB (by simpa using hi)⟩
 rw [Zfl (show 1 <= D by omega) c, h1]
theorem Y12 {D : Nat} (s : List ColV) (c : Chg) (hk : c.k = 3) (i : Nat) (x : ColV) (C : C3 D s c i x { x with nm := c.nw }) : den pr (D + 1) Xb [.lit Z0 (s.map ColV.c), .agg c.c] = some [.olit Z0 ((Zc1 s (s.set i { x with nm := c.nw })).1.map ColV.c), .q (Zc1 s (s.set i { x with nm := c.nw })).2] := by
 rw [Z04]
 have j1 : (c.k = 1) = False := by rw [hk]; decide
 have j0 : (c.k = 2) = False := by rw [hk]; decide
 have j2 : (c.k = 3) = True := by rw [hk]; decide
 obtain ⟨e0, e1, e2, e3, e4, hr, hi, rsa, hm, em, hl, tk, hset⟩ := C
 unfold Zc1
 cases h5 : Zm (s.set i { x with nm := c.nw }) with
 | false =>
   rw [h5] at e3
   simp only [Yf, go_sem, e0, e1, e2, e3, j1, j0, j2, hm, hr, hi, Wx, eD, if_false, if_true, dL, dI, Z9, tk, dM]
 | true =>
   rw [h5] at e3
   simp only [Yf, go_sem, e0, e1, e2, e3, e4, em, j1, j0, j2, hm, hr, hi, Wx, eD, if_false, if_true, dL, dI, Z9, rsa, tk, dM]
theorem Zy0 {D : Nat} (s : List ColV) (c : Chg) (hk : c.k = 4) (i : Nat) (x y : ColV) (hx : (c.col.k = x.k) = True) (C : C3 D s c i x y) : den pr (D + 1) Xb [.lit Z0 (s.map ColV.c), .agg c.c] = some [.olit Z0 (s.map ColV.c), .q false] := by
 rw [Z04]
 have j2 : (c.k = 1) = False := by rw [hk]; decide
 have j0 : (c.k = 2) = False := by rw [hk]; decide
 have j3 : (c.k = 3) = False := by rw [hk]; decide
 have j1 : (c.k = 4) = True := by rw [hk]; decide
 obtain ⟨e0, e1, e2, e3, e4, hr, hi, rsa, hm, em, hl, tk, hset⟩ := C
 simp only [Yf, go_sem, e0, e1, e2, j2, j0, j3, j1, hx, hm, hr, hi, Wx, eD, if_false, if_true, dL, Z9, dM]
theorem Y36 {D : Nat} (s : List ColV) (c : Chg) (hk : c.k = 4) (i : Nat) (x : ColV) (hx : (c.col.k = x.k) = False) (C : C3 D s c i x { x with k := c.col.k, df := Z3v x.df c.col.k }) (ev : den pr D Z1q [.agg x.df.c, .n c.col.k] = some [.agg (Z3v x.df c.col.k).c]) : den pr (D + 1) Xb [.lit Z0 (s.map ColV.c), .agg c.c] = some [.olit Z0 ((Zc1 s (s.set i { x with k := c.col.k, df := Z3v x.df c.col.k })).1.map ColV.c), .q (Zc1 s (s.set i { x with k := c.col.k, df := Z3v x.df c.col.k })).2] := by
 rw [Z04]
 have j2 : (c.k = 1) = False := by rw [hk]; decide
 have j0 : (c.k = 2) = False := by rw [hk]; decide
 have j3 : (c.k = 3) = False := by rw [hk]; decide
 have j1 : (c.k = 4) = True := by rw [hk]; decide
 obtain ⟨e0, e1, e2, e3, e4, hr, hi, rsa, hm, em, hl, tk, hset⟩ := C
 unfold Zc1
 cases h5 : Zm (s.set i { x with k := c.col.k, df := Z3v x.df c.col.k }) with
 | false =>
   rw [h5] at e3
   simp only [Yf, go_sem, e0, e1, e2, e3, ev, j2, j0, j3, j1, hx, hm, hr, hi, hset, List.set_set, Wx, eD, if_false, if_true, dL, dI, Z9, tk, dM]
 | true =>
   rw [h5] at e3
   simp only [Yf, go_sem, e0, e1, e2, e3, e4, ev, em, j2, j0, j3, j1, hx, hm, hr, hi, hset, List.set_set, Wx, eD, if_false, if_true, dL, dI, Z9, rsa, tk, dM]
end Go.Vm.T
namespace Go.Vm.T
theorem Zq5 {c : ColV} (h : Z6w c = true) : c.nm.size <= 3 /\ c.df.t.size <= 4 := by
 unfold Z6w Y3w inB at h
 simp at h
 obtain ⟨⟨⟨⟨h1, h2⟩, h3⟩, h4⟩, h5⟩ := h
 constructor
 . omega
 . rcases Z4y h3 with q | q | q
   . have : c.df.t = eT := by unfold Z0i at h3; simp [q] at h3; exact h3.2
     rw [this]; show (0 : Nat) <= 4; omega
   . rw [(Z8e h3 q).2.2]; show (0 : Nat) <= 4; omega
   . exact (Zgn h3 q).2.1
theorem Zwe {J : Type} {g : Nat -> J -> Bool} : ∀ {l : List J} {i : Nat} {u : Unit}, (Zz (fun i (_ : Unit) c => bif g i c then (.inl () : Unit ⊕ Unit) else .inr ()) i () l) = .inl u -> ∀ (j : Nat) (c : J), l[j]? = some c -> g (i + j) c = true
 | [], i, u, _, j, c, h => by simp at h
 | x :: l, i, u, hr, j, c, h => by
   unfold Zz at hr
   cases hg : g i x with
   | false => rw [hg] at hr; cases hr
   | true =>
     rw [hg] at hr
     cases j with
     | zero => simp at h; subst h; exact hg
     | succ j =>
       have := Zwe (l := l) (i := i + 1) hr j c (by simpa using h)
       rw [show i + (j + 1) = i + 1 + j by omega]
       exact this
theorem Z6x {cs : List ColV} (h : Zm cs = true) : 1 <= cs.length /\ cs.length <= 5 := by
 unfold Zm inB at h
 simp at h
 omega
theorem Y1y {cs : List ColV} (h : Zm cs = true) {i : Nat} {c : ColV} (hc : cs[i]? = some c) : Z6w c = true /\ nmI c.nm cs = i := by
 unfold Zm at h
 rw [dO] at h
 have h1 := h.1
 split at h1
 . rename_i u hr
   have := Zwe (g := fun i c => Z6w c && decide (nmI c.nm cs = (i : Int))) hr i c hc
   simpa using this
 . cases h1
theorem Yh {cs : List ColV} (h : Zm cs = true) : SmallC cs /\ cs.length + 1 <= big := by
 have h1 := Z6x h
 refine ⟨⟨by unfold big; omega, fun c hc => ?_⟩, by unfold big; omega⟩
 obtain ⟨i, hi⟩ := eU hc
 have := Zq5 (Y1y h hi).1
 unfold big
 omega
theorem Zcq {s out : List ColV} (h : (Zc1 s out).2 = true) : (Zc1 s out).1 = out /\ Zm out = true := by
 unfold Zc1 at *
 split at h
 . rename_i hs; rw [if_pos hs]; exact ⟨rfl, hs⟩
 . cases h
theorem Zcm {s : List ColV} {c : Chg} (h : (Z72 s c).2 = true) : Zm (Z72 s c).1 = true := by
 have key : ∀ out, (Zc1 s out).2 = true -> Zm (Zc1 s out).1 = true := fun out h => by rw [(Zcq h).1]; exact (Zcq h).2
 unfold Z72 at *
 split at h
 . cases h
 . rename_i h1
   rw [if_neg h1]
   split at h
   . rename_i h2
     rw [if_pos h2]
     split at h
     . cases h
     . rename_i h3
       rw [if_neg h3]
       exact key _ h
   . rename_i h2
     rw [if_neg h2]
     split at h
     . cases h
     . rename_i i hi
       split at h
       . rename_i x hx
         unfold Y8s at *
         split at h
         . rename_i h4; rw [if_pos h4]; exact key _ h
         . rename_i h4
           rw [if_neg h4]
           split at h
           . rename_i h5; rw [if_pos h5]; exact key _ h
           . rename_i h5
             rw [if_neg h5]
             split at h
             . cases h
             . rename_i h6; rw [if_neg h6]; exact key _ h
       . cases h
def Zrn (_ : Nat) (s : List ColV) (c : Chg) : List ColV ⊕ Unit := bif (Z72 s c).2 then .inl (Z72 s c).1 else .inr ()
def chgs (s : List ColV) (cs : List Chg) : Option (List ColV) := match Zz Zrn 0 s cs with
 | .inl s' => some s'
 | .inr _ => none
variable [Pr1]
theorem Zsf {D : Nat} (hD : 5 <= D) (s : List ColV) (c : Chg) (hs : SmallC s) (hl : s.length + 1 <= big) (hc : SmallG c) : den pr D Xb [.lit Z0 (s.map ColV.c), .agg c.c] = some [.olit Z0 ((Z72 s c).1.map ColV.c), .q (Z72 s c).2] := by
 cases h1 : Z3h c with
 | false =>
   rw [Y0r hD s c hs h1]
   unfold Z72
   rw [if_pos h1]
 | true =>
   by_cases hk1 : c.k = 1
   . exact Y33 hD s c hs hl hc h1 hk1
   . have hk : c.k = 2 \/ c.k = 3 \/ c.k = 4 := by
      unfold Z3h at h1
      rw [if_neg hk1] at h1
      by_cases h2 : c.k = 2
      . exact .inl h2
      . by_cases h3 : c.k = 3
        . exact .inr (.inl h3)
        . by_cases h4 : c.k = 4
          . exact .inr (.inr h4)
          . rw [if_neg h2, if_neg h3, if_neg h4] at h1; cases h1
     have hf : ¬ (Z3h c = false) := by rw [h1]; decide
     unfold Z72
     rw [if_neg hf, if_neg hk1]
     cases ha : Z3w c.nm s with
     | none => rw [Y0g hD s c hs h1 (eq_false hk1) ha]
     | some i =>
       have hi := Z0q ha
       have hx : s[i]? = some s[i] := dP hi
       simp only [hx]
       generalize s[i] = x at hx
       have j0 := hs.txt x (dU hx)
       unfold Y8s
       obtain ⟨D, rfl, hd⟩ := Zd hD
       rcases hk with hk | hk | hk
       . rw [Y25 hD s c hs h1 hk i ha, if_pos hk]
       . rw [Y12 s c hk i x (C3.of hd hs h1 ha hx _ ⟨hc.nw, j0.2⟩), if_neg (by omega), if_pos hk]
       . rw [if_neg (by omega), if_neg (by omega)]
         by_cases hq : c.col.k = x.k
         . rw [if_pos hq, Zy0 s c hk i x x (eq_true hq) (C3.of hd hs h1 ha hx _ j0)]
         . rw [if_neg hq, Y36 s c hk i x (eq_false hq) (C3.of hd hs h1 ha hx _ ⟨j0.1, Zcr j0.2⟩) (Zx2 (by omega) x.df c.col.k j0.2)]
theorem Zuw {D : Nat} (hD : 5 <= D) (s : List ColV) (cs : List Chg) (hs : SmallC s) (hl : s.length + 1 <= big) (hc : ∀ c ∈ cs, SmallG c) (hcl : cs.length <= big) :
 Vs (Zc (Zg (aH D) Z3u) [6, 13, 14, 15] rounds ⟨upd (upd (upd (upd (fun _ => .bad) 6 (cT Z0 0 s.length false)) 13 (.lit Z3 (cs.map Chg.c))) 14 (.n cs.length)) 15 (.n (0 : Nat)), upd (fun _ => none) 0 (cS Z0 (s.map ColV.c)), 1, 0⟩) (List ColV) Unit (Zz Zrn 0 s cs)
  (fun s' o => ∃ U', o = .exit 0 U' /\ U'.s 6 = cT Z0 0 s'.length false /\ U'.h 0 = cS Z0 (s'.map ColV.c)) (fun _ o => ∃ U' b, o = .ret U' /\ U'.s 4 = cT Z0 b 0 false /\ U'.h b = cS Z0 [] /\ U'.s 5 = .q false) := by
 refine Zw cs (fun i (s : List ColV) => ⟨upd (upd (upd (upd (fun _ => .bad) 6 (cT Z0 0 s.length false)) 13 (.lit Z3 (cs.map Chg.c))) 14 (.n cs.length)) 15 (.n i), upd (fun _ => none) 0 (cS Z0 (s.map ColV.c)), 1, 0⟩) Zrn (fun _ s => SmallC s /\ s.length + 1 <= big) _ _ s ⟨hs, hl⟩ hcl (fun i s c K j2 hlt hI => ?_) (fun s K hI => ?_)
 . have hr := Zu (f := Chg.c) j2
   have hw := Zn (n := i) (by unfold big at hcl; omega)
   have e1 := Zsf hD s c hI.1 hI.2 (hc c (dU j2))
   have j0 := Za ColV.c s
   unfold Zrn
   have j1 := Zcm (s := s) (c := c)
   generalize Z72 s c = r at *
   obtain ⟨s', q⟩ := r
   simp only at e1 j1 ⊢
   cases q with
   | true =>
     simp only [Zc, Z3t, Z09, go_sem, dL, hr, hlt, hw, e1, j0, Z9, dM]
     exact Yh (j1 rfl)
   | false =>
     simp only [Zc, Z3t, Z09, go_sem, dL, hr, hlt, e1, j0, Z9, dM]
     exact ⟨_, rfl, _, _, rfl, rfl, rfl, rfl⟩
 . have hi : ¬ cs.length < cs.length := by omega
   simp only [Zc, Z3t, Z09, go_sem, hi]
   exact ⟨_, rfl, _, rfl, rfl, rfl⟩
theorem Zbp {D : Nat} (hD : 6 <= D) (s : List ColV) (cs : List Chg) (hs : SmallC s) (hl : s.length + 1 <= big) (hc : ∀ c ∈ cs, SmallG c) (hcl : cs.length <= big) :
 den pr D Wq [.lit Z0 (s.map ColV.c), .lit Z3 (cs.map Chg.c)] = some [.olit Z0 (((chgs s cs).getD []).map ColV.c), .q (chgs s cs).isSome] := by
 obtain ⟨D, rfl, hd⟩ := Zd hD
 rw [Zgf]
 have e0 := Z4u (show 2 <= D by omega) (s.map ColV.c) (by rw [dL]; exact hs.len)
 obtain ⟨out, lo, lp⟩ := Zuw hd s cs hs hl hc hcl
 rw [show ((0 : Nat) : Int) = 0 from rfl] at lo
 unfold chgs
 cases hr : Zz Zrn 0 s cs with
 | inl s' =>
   rw [hr] at lp
   obtain ⟨U', rfl, l1, l2⟩ := lp
   have j0 := Za ColV.c s'
   simp only [Z3c, go_sem, e0, lo, l1, l2, dL, Z9, j0, dB, eX]
 | inr u =>
   rw [hr] at lp
   obtain ⟨U', b, rfl, l1, l2, l3⟩ := lp
   simp only [Z3c, go_sem, e0, lo, l1, l2, l3, dL, Z9, Option.getD_none, fC, dH]
end Go.Vm.T
namespace Go.Vm.T
variable [Pr0]
abbrev Zg2 : List ByteArray := [⟨#[97]⟩, ⟨#[98]⟩, ⟨#[99]⟩, ⟨#[100]⟩, ⟨#[101]⟩, ⟨#[97, 98]⟩]
theorem Z91 {D : Nat} (hD : 1 <= D) : den pr D Wk [] = some [.olit Vl (Zg2.map Yaw)] := by
 obtain ⟨D, rfl, hd⟩ := Zd hD
 rw [Zgk]
 simp only [Z6l, go_sem]
theorem Y2a {k : Int} {v : Val} (hk : k = 1 \/ k = 2) (h : Drawn k v) : Z0i v = true /\ Zjg v k = true := by
 rcases h with rfl | ⟨h1, ⟨h2, h3, h4⟩ | ⟨h2, h3, h4⟩⟩
 . exact ⟨by decide, by simp [Zjg]⟩
 . obtain ⟨vk, vn, vt⟩ := v
   simp only at h1 h3 h4
   subst h1 h2 h4
   have : ∀ n ∈ Zz3, Z0i ⟨1, n, ⟨#[]⟩⟩ = true := by decide
   exact ⟨this vn h3, by simp [Zjg]⟩
 . obtain ⟨vk, vn, vt⟩ := v
   have j0 : k = 2 := hk.resolve_left h2
   simp only at h1 h3 h4
   subst h1 j0 h3
   have : ∀ t ∈ Zsy, Z0i ⟨2, 0, t⟩ = true := by decide
   exact ⟨this vt h4, by simp [Zjg]⟩
theorem DrawnC.ok {nm : ByteArray} {c : ColV} (h : DrawnC nm c) (hn : nm ∈ Zg2) : Z6w c = true := by
 obtain ⟨h1, h2, h3, h4⟩ := h
 have : ∀ t ∈ Zg2, Y3w t = true := by decide
 have h5 := this nm hn
 obtain ⟨h6, h7⟩ := Y2a h2 h3
 unfold Z6w
 rw [h1, h5, h6, h7]
 have h8 : inB c.k 1 2 = true := by unfold inB; rcases h2 with h | h <;> simp [h]
 rw [h8]
 cases ho : c.once with
 | false => rfl
 | true => rw [h4 ho]; rfl
structure ShI (cs : List ColV) : Prop where
 at_ : ∀ (i : Nat) (c : ColV), cs[i]? = some c -> Z6w c = true /\ Z3w c.nm cs = some i
theorem Zw8 (nm : ByteArray) (bs : List ColV) : ∀ (as : List ColV) (i : Nat), Zz (nmG nm) i () (as ++ bs) = (match Zz (nmG nm) i () as with
  | .inl _ => Zz (nmG nm) (i + as.length) () bs
  | .inr k => .inr k)
 | [], i => by simp [Zz]
 | a :: as, i => by
   rw [List.cons_append]
   have e1 : ∀ l, Zz (nmG nm) i () (a :: l) = match nmG nm i () a with
    | .inl b' => Zz (nmG nm) (i + 1) b' l
    | .inr r => .inr r := fun _ => by rw [Zz]; cases nmG nm i () a <;> rfl
   rw [e1, e1]
   cases hg : nmG nm i () a with
   | inl u =>
     cases u
     simp only
     rw [Zw8 nm bs as (i + 1), eB, show i + 1 + as.length = i + (as.length + 1) by omega]
   | inr k => rfl
theorem Y1a {nm : ByteArray} {as : List ColV} {k : Nat} (bs : List ColV) (h : Z3w nm as = some k) : Z3w nm (as ++ bs) = some k := by
 unfold Z3w at h ⊢
 rw [Zw8]
 cases hr : Zz (nmG nm) 0 () as with
 | inl u => rw [hr] at h; cases h
 | inr j => rw [hr] at h; exact h
theorem Y34 {nm : ByteArray} {as : List ColV} (c : ColV) (h : Z3w nm as = none) (hc : c.nm = nm) : Z3w nm (as ++ [c]) = some as.length := by
 unfold Z3w at h ⊢
 rw [Zw8]
 cases hr : Zz (nmG nm) 0 () as with
 | inl u =>
   simp only [dD, Zz, nmG, hc, decide_true, cond_true]
 | inr j => rw [hr] at h; cases h
theorem ShI.app {cs : List ColV} (h : ShI cs) {c : ColV} (hc : Z6w c = true) (hn : Z3w c.nm cs = none) : ShI (cs ++ [c]) := ⟨fun i x hx => by
 by_cases hi : i < cs.length
 . rw [dV hi] at hx
   obtain ⟨q1, q2⟩ := h.at_ i x hx
   exact ⟨q1, Y1a [c] q2⟩
 . rw [dW (by omega)] at hx
   have : i - cs.length = 0 := by
    have := (dQ.1 hx).1
    simp at this; omega
   rw [this] at hx
   simp at hx
   subst hx
   have : i = cs.length := by omega
   subst this
   exact ⟨hc, Y34 c hn rfl⟩⟩
theorem Zhn {J : Type} {g : Nat -> J -> Bool} : ∀ (l : List J) (i : Nat), (∀ (j : Nat) (c : J), l[j]? = some c -> g (i + j) c = true) -> (Zz (fun i (_ : Unit) c => bif g i c then (.inl () : Unit ⊕ Unit) else .inr ()) i () l) = .inl ()
 | [], i, _ => rfl
 | c :: l, i, h => by
   unfold Zz
   have h0 := h 0 c (by simp)
   rw [fL] at h0
   simp only [h0, cond_true]
   exact Zhn l (i + 1) (fun j c hc => by have := h (j + 1) c (by simpa using hc); rw [show i + 1 + j = i + (j + 1) by omega]; exact this)
theorem ShI.shape {cs : List ColV} (h : ShI cs) (h1 : 1 <= cs.length) (h5 : cs.length <= 5) : Zm cs = true := by
 unfold Zm
 have : Zz (shG cs) 0 () cs = .inl () := Zhn (g := fun i c => Z6w c && decide (nmI c.nm cs = i)) cs 0 (fun j c hc => by
  obtain ⟨q1, q2⟩ := h.at_ j c hc
  simp only [q1, eN, eF, nmI, q2, dD])
 rw [this]
 simp only [eN]
 unfold inB
 simp; omega
abbrev Zet (h : Hp) (m b : Nat) (ns : List Int) (p : Nat) (cs : List ColV) : Hp := upd (upd (low m h) b (rdB ns p)) m (cS Z0 (cs.map ColV.c))
theorem Zce {D : Nat} (hD : 4 <= D) (ns : List Int) (hc : Code ns) (h : Hp) (m b : Nat) (B : Below b m) : ∀ (r : Nat) (cs : List ColV) (ex : Bool) (p K : Nat), ShI cs -> cs.length + r <= 4 -> p + 6 * r <= 2 ^ 30 -> r < K ->
 ∃ cs' ex' p', ShI cs' /\ cs'.length <= cs.length + r /\ cs.length <= cs'.length /\ (0 < r -> 0 < cs'.length) /\ p' <= p + 6 * r /\ ∃ U', Zc (Zg (aH D) Z40) [0, 3, 4] K ⟨upd (upd (upd (fun _ => .bad) 0 (.ptr b 0 0)) 3 (cT Z0 m cs.length ex)) 4 (.n (r : Int)), Zet h m b ns p cs, m + 1, m⟩ = some (.exit 0 U') /\ U'.s 3 = cT Z0 m cs'.length ex' /\ U'.h = Zet h m b ns p' cs' /\ U'.n = m + 1 /\ U'.base = m
 | 0, cs, ex, p, K, hf, hl, hp, hK => by
   obtain ⟨K, rfl⟩ : ∃ j, K = j + 1 := ⟨K - 1, by omega⟩
   have hz : ¬ ((0 : Int) < ((0 : Nat) : Int)) := by decide
   refine ⟨cs, ex, p, hf, by omega, by omega, by omega, by omega, ?_⟩
   simp only [Zc, Z3z, Z08, go_sem, hz]
   exact ⟨_, rfl, rfl, rfl, rfl, rfl⟩
 | r + 1, cs, ex, p, K, hf, hl, hp, hK => by
   obtain ⟨K, rfl⟩ : ∃ j, K = j + 1 := ⟨K - 1, by omega⟩
   have hz : (0 : Int) < ((r + 1 : Nat) : Int) := by omega
   have hw : IntKind.i64.wrap (((r + 1 : Nat) : Int) - 1) = (r : Int) := Zrh (by omega)
   obtain ⟨nm, j7, e1⟩ := Zv0 ns hc Zg2 (by decide) p (by omega)
   have j2 := fun h m b bl => e1 D (by omega) h m b bl 6 false
   simp only [eB, eC] at j2
   obtain ⟨c, p1, g1, G1, j3, j9, e2⟩ := Zx3 ns hc nm (p + 1) (by omega)
   have j5 := j3.nm
   have e3 := Zcy (show 1 <= D by omega) nm cs (by unfold big; omega)
   have e0 := Z91 (show 1 <= D by omega)
   have j4 := Za ColV.c cs
   have j1 : cs.length + 1 <= big := by unfold big; omega
   obtain ⟨cn, ck, cd, co, cf⟩ := c
   simp only at j5
   subst j5
   unfold nmI at e3
   cases hat : Z3w cn cs with
   | some j =>
     rw [hat] at e3
     simp only at e3
     have j0 : ¬ (j : Int) < 0 := by omega
     obtain ⟨cs', ex', p', f1, f2, f3, f4, f5, U', f6⟩ := Zce hD ns hc h m b B r cs ex p1 K hf (by omega) (by omega) (by omega)
     have j8 : 0 < cs.length := by have := Z0q hat; omega
     refine ⟨cs', ex', p', f1, by omega, by omega, by omega, by omega, U', ?_⟩
     rw [<- f6.1]
     refine ⟨?_, f6.2⟩
     simp only [Zc, Z3z, Z08, go_sem, hz, hw, e0, j2, e2 D (by omega), e3, j0, j4, B.a, Z90 (of_eq_true B.l), Wx, dL, dM]
   | none =>
     rw [hat] at e3
     simp only at e3
     have j0 : (-1 : Int) < 0 := by decide
     have j6 := hf.app (j3.ok j7) hat
     obtain ⟨cs', ex', p', f1, f2, f3, f4, f5, U', f6⟩ := Zce hD ns hc h m b B r (cs ++ [⟨cn, ck, cd, co, cf⟩]) false p1 K j6 (by simp; omega) (by omega) (by omega)
     simp only [eA, eB, eC] at f2 f3
     refine ⟨cs', ex', p', f1, by omega, by omega, by omega, by omega, U', ?_⟩
     rw [<- f6.1]
     refine ⟨?_, f6.2⟩
     simp only [Zc, Z3z, Z08, go_sem, hz, hw, e0, j2, e2 D (by omega), e3, j0, j4, j1, B.a, Z90 (of_eq_true B.l), Wx, dL, eA, eK, Zet, dM]
theorem Zym {D : Nat} (hD : 5 <= D) (ns : List Int) (hc : Code ns) (p : Nat) (hp : p <= 2 ^ 29) (h : Hp) (m b : Nat) (hb : b < m) (hh : h b = rdB ns p) :
 ∃ cs ex p', ShI cs /\ 1 <= cs.length /\ cs.length <= 4 /\ p' <= p + 25 /\ dcl pr D Z3d [.ptr b 0 0] h m = some ([cT Z0 m cs.length ex], Zet h m b ns p' cs, m + 1) := by
 obtain ⟨D, rfl, hd⟩ := Zd hD
 rw [Zg5]
 have B := Z8 hb
 obtain ⟨x, hx, e1⟩ := W8 ns hc 4 p (by omega)
 have j1 := hx.1 (by decide)
 have j0 : IntKind.i64.wrap (1 + x) = 1 + x := Zt (by omega) (by omega)
 obtain ⟨r, hr⟩ : ∃ r : Nat, 1 + x = (r : Int) := ⟨(1 + x).toNat, by omega⟩
 rw [hr] at j0
 obtain ⟨cs, ex, p', f1, f2, f3, f4, f5, U', lo, l1, l2, l3, l4⟩ := Zce hd ns hc h m b B r [] true (p + 1) rounds ⟨fun i c h => by simp at h⟩ (by simp; omega) (by omega) (by unfold rounds; omega)
 simp only [Zet, eC, dH] at lo
 simp only [eC] at f2
 refine ⟨cs, ex, p', f1, f4 (by omega), by omega, by omega, ?_⟩
 simp only [Z6k, go_sem, e1 D (by omega), j0, hr, hh, B.a, Z90 hb, lo, l1, l2, l3, l4]
end Go.Vm.T
namespace Go.Vm.T
def hdQ : ACode -> ACode
 | .sq a _ => a
 | c => c
def tlQ : ACode -> ACode
 | .sq _ b => b
 | c => c
def Zs : Nat -> ACode -> ACode
 | 0, c => c
 | n + 1, c => tlQ (Zs n c)
attribute [go_sem] hdQ tlQ Zs
theorem Xc {E : Env} {C : ACode} {U U' : St} (i : Nat) (h : Zg E (hdQ (Zs i C)) U = some (.norm U')) (hC : Zs i C = .sq (hdQ (Zs i C)) (Zs (i + 1) C)) : Zg E (Zs i C) U = Zg E (Zs (i + 1) C) U' := by
 rw [hC]
 show Zgc (Zg E (hdQ (Zs i C)) U) (fun O => Zg E (Zs (i + 1) C) O) = _
 rw [h]
 rfl
variable [Pr0]
abbrev Yb5 : List ByteArray := [⟨#[97]⟩, ⟨#[98]⟩, ⟨#[99]⟩, ⟨#[100]⟩, ⟨#[101]⟩, ⟨#[120]⟩, ⟨#[121, 121]⟩]
abbrev Ybl : List ByteArray := [⟨#[]⟩, ⟨#[65]⟩, ⟨#[97, 98, 99, 100]⟩, ⟨#[97]⟩]
abbrev Yc3 : List ByteArray := [⟨#[113]⟩, ⟨#[65]⟩, ⟨#[97, 98, 99, 100]⟩]
abbrev Yfr : List Int := [0, 5, -1, 2]
abbrev Ygk : List Int := [0, 3, 1]
abbrev Y31 : List A := [.n 0, .s ⟨#[]⟩, .s ⟨#[]⟩, .s ⟨#[]⟩, .n 0, .q false, .q false, .n 0, .n 0, .s ⟨#[]⟩]
structure Drew (ns : List Int) (p k b m : Nat) (h : Hp) (n' : Nat) (h' : Hp) : Prop where
 at_ : ∃ p', p' <= p + k /\ h' b = rdB ns p'
 n : m <= n'
 low : ∀ y, y < m -> ¬ y = b -> h' y = h y
structure CS (ns : List Int) (b m qs cp : Nat) (ex ow : Bool) (cs : List ColV) (h : Hp) (q4 q6 : Nat) (nm : ByteArray) (s : Nat -> A) (H : Hp) (n p : Nat) (c : Chg) : Prop where
 s0 : s 0 = .ptr b 0 0
 s1 : s 1 = .ref Z0 qs 0 cs.length cp ex
 s4 : s 4 = .ptr q4 0 0
 s5 : s 5 = .s nm
 s6 : s 6 = .ptr q6 0 0
 hb : H b = rdB ns p
 hs : H qs = some ⟨Z0, cs.map ColV.c, ow, false⟩
 h4 : H q4 = cR Z3 [Y31]
 h6 : H q6 = cR Z3 [c.c]
 bm : b < m
 sm : qs < m
 sb : ¬ qs = b
 m4 : m <= q4
 m6 : m <= q6
 l4 : q4 < n
 l6 : q6 < n
 ne : ¬ q4 = q6
 low : ∀ y, y < m -> ¬ y = b -> H y = h y
 sg : SmallG c
theorem CS.next {ns : List Int} {b m qs cp : Nat} {ex ow : Bool} {cs : List ColV} {h : Hp} {q4 q6 : Nat} {nm : ByteArray} {s : Nat -> A} {H : Hp} {n p : Nat} {c : Chg} (I : CS ns b m qs cp ex ow cs h q4 q6 nm s H n p c) {s' : Nat -> A} {H' : Hp} {n' p' : Nat} {c' : Chg}
 (e0 : s' 0 = s 0) (e1 : s' 1 = s 1) (e4 : s' 4 = s 4) (e5 : s' 5 = s 5) (e6 : s' 6 = s 6) (hb : H' b = rdB ns p') (h6 : H' q6 = cR Z3 [c'.c]) (hH : ∀ y, y < n -> ¬ y = b -> ¬ y = q6 -> H' y = H y) (hn : n <= n') (sg : SmallG c') : CS ns b m qs cp ex ow cs h q4 q6 nm s' H' n' p' c' := by
 have i1 := I.bm; have i2 := I.sm; have i3 := I.m4; have i4 := I.m6; have i5 := I.l4; have i6 := I.l6
 exact ⟨e0.trans I.s0, e1.trans I.s1, e4.trans I.s4, e5.trans I.s5, e6.trans I.s6, hb, (hH qs (by omega) I.sb (by omega)).trans I.hs, (hH q4 (by omega) (by omega) I.ne).trans I.h4, h6, I.bm, I.sm, I.sb, I.m4, I.m6, by omega, by omega, I.ne, fun y hy j0 => (hH y (by omega) j0 (by omega)).trans (I.low y hy j0), sg⟩
def cLQ : ACode -> ACode
 | .sq a _ | .ite _ a _ => a
 | .bl _ c => c
 | c => c
def cRQ : ACode -> ACode
 | .sq _ b | .ite _ _ b => b
 | c => c
attribute [go_sem] cLQ cRQ
theorem Yfn {D : Nat} (hD : 4 <= D) (ns : List Int) (hc : Code ns) (p : Nat) (hp : p + 40 <= 2 ^ 40) (cs : List ColV) (hcs : SmallC cs) (cp : Nat) (ex ow : Bool) (h : Hp) (m b qs : Nat) (hb : b < m) (hqs : qs < m) (hne : ¬ qs = b) (hh : h b = rdB ns p) (hs : h qs = some ⟨Z0, cs.map ColV.c, ow, false⟩) :
 ∃ s H n q4 q6 nm p' c, Zg (aH D) Z4q.code ⟨slots [.ptr b 0 0, .ref Z0 qs 0 cs.length cp ex], h, m, m⟩ = Zg (aH D) (Zs 4 Z4q.code) ⟨s, H, n, m⟩ /\ p' <= p + 4 /\ nm.size <= big /\ CS ns b m qs cp ex ow cs h q4 q6 nm s H n p' c /\ c.col = zC /\ 1 <= c.k /\ c.k <= 4 := by
 show ∃ s H n q4 q6 nm p' c, Zg _ (Zs 0 Z4q.code) _ = _ /\ _
 have B := Z8 hb
 have Q := Z8 hqs
 have n3 := eqF hne
 have n4 := eqF (Ne.symm hne)
 obtain ⟨j2, j5, e1⟩ := Zv0 ns hc Zg2 (by decide) p (by omega)
 have j8 := fun h m b bl => e1 D (by omega) h m b bl 6 false
 simp only [eB, eC] at j8
 have e0 := Z91 (show 1 <= D by omega)
 have h0 : Zg (aH D) (hdQ (Zs 0 Z4q.code)) ⟨slots [.ptr b 0 0, .ref Z0 qs 0 cs.length cp ex], h, m, m⟩ = some (.norm ⟨upd (slots [.ptr b 0 0, .ref Z0 qs 0 cs.length cp ex]) 4 (.ptr m 0 0), upd h m (cR Z3 [Y31]), m + 1, m⟩) := by
  simp only [Z4q, hdQ, Zs, go_sem]
 rw [Xc 0 h0 rfl]
 have h1 : ∃ s H n, Zg (aH D) (hdQ (Zs 1 Z4q.code)) ⟨upd (slots [.ptr b 0 0, .ref Z0 qs 0 cs.length cp ex]) 4 (.ptr m 0 0), upd h m (cR Z3 [Y31]), m + 1, m⟩ = some (.norm ⟨s, H, n, m⟩) /\ s 0 = .ptr b 0 0 /\ s 1 = .ref Z0 qs 0 cs.length cp ex /\ s 4 = .ptr m 0 0 /\ s 5 = .s j2 /\ m < n /\ H b = rdB ns (p + 1) /\ H qs = some ⟨Z0, cs.map ColV.c, ow, false⟩ /\ H m = cR Z3 [Y31] /\ ∀ y, y < m -> ¬ y = b -> H y = h y := by
  simp only [Z4q, go_sem, e0, j8, hh, B.a]
  refine ⟨_, _, _, rfl, rfl, rfl, rfl, rfl, by omega, ?_, ?_, ?_, fun y hy hne => ?_⟩
  . simp only [go_sem, B.a]
  . simp only [go_sem, hs, n3, Q.a]
  . simp only [go_sem, B.e']
  . have Y := Z8 hy
    simp only [go_sem, hne, Y.a]
 obtain ⟨s, H, n, h1, a0, a1, a4, a5, an, ab, as, am, j4⟩ := h1
 rw [Xc 1 h1 rfl]
 have B := Z8 (Nat.lt_trans hb an)
 have Q := Z8 (Nat.lt_trans hqs an)
 have M := Z8 an
 have m1 : (m = b) = False := eqF (by omega)
 have m2 : (b = m) = False := eqF (by omega)
 have m3 : (qs = m) = False := eqF (by omega)
 have hl : cs.length <= big := hcs.len
 have h2 : ∃ s' H' n' nm p', Zg (aH D) (hdQ (Zs 2 Z4q.code)) ⟨s, H, n, m⟩ = some (.norm ⟨s', H', n', m⟩) /\ p' <= p + 3 /\ nm.size <= big /\ s' 0 = .ptr b 0 0 /\ s' 1 = .ref Z0 qs 0 cs.length cp ex /\ s' 4 = .ptr m 0 0 /\ s' 5 = .s nm /\ n <= n' /\ H' b = rdB ns p' /\ ∀ y, y < n -> ¬ y = b -> H' y = H y := by
  have j6 : j2.size <= big := by
   have : ∀ x ∈ Zg2, x.size <= 5 := by decide
   have := this j2 j5
   unfold big; omega
  by_cases hz : (0 : Int) < (cs.length : Int)
  . obtain ⟨x, hx, e2⟩ := W8 ns hc 6 (p + 1) (by omega)
    by_cases hx0 : 0 < x
    . obtain ⟨y, hy, e3⟩ := W8 ns hc cs.length (p + 2) (by omega)
      have je := hy.1 (by omega)
      obtain ⟨j, rfl⟩ : ∃ j : Nat, y = (j : Int) := ⟨y.toNat, by omega⟩
      have hj : j < cs.length := by omega
      have j9 : cs[j]? = some cs[j] := dP hj
      have hr := Zu (f := ColV.c) j9
      have jc := (hcs.txt cs[j] (eQ hj)).1
      generalize cs[j] = cj at *
      have j0 := eL j
      have jt := eM j
      simp only [Z4q, go_sem, a0, a1, hz, hx0, hj, hr, j0, jt, ab, as, n3, e2 D (by omega), e3 D (by omega), B.l]
      refine ⟨_, _, _, cj.nm, p + 3, rfl, by omega, jc, a0, a1, a4, rfl, by omega, ?_, fun y hy hne => ?_⟩
      . simp only [go_sem]
      . simp only [go_sem, hne]
    . simp only [Z4q, go_sem, a0, a1, hz, hx0, ab, e2 D (by omega), B.l]
      refine ⟨_, _, _, j2, p + 2, rfl, by omega, j6, a0, a1, a4, a5, by omega, ?_, fun y hy hne => ?_⟩
      . simp only [go_sem]
      . simp only [go_sem, hne]
  . simp only [Z4q, go_sem, a0, a1, hz]
    exact ⟨_, _, _, j2, p + 1, rfl, by omega, j6, a0, a1, a4, a5, by omega, ab, fun y hy hne => rfl⟩
 obtain ⟨s2, H2, n2, nm, p2, h2, jf, j7, c0, c1, c4, c5, cn, cb, j1⟩ := h2
 rw [Xc 2 h2 rfl]
 obtain ⟨x, hx, e4⟩ := W8 ns hc 4 p2 (by omega)
 have jd := hx.1 (by decide)
 have jb : IntKind.i64.wrap (1 + x) = 1 + x := Zt (by omega) (by omega)
 have B := Z8 (show b < n2 by omega)
 have Q := Z8 (show qs < n2 by omega)
 have M := Z8 (show m < n2 by omega)
 have h3 : ∃ s' H' n' q6, Zg (aH D) (hdQ (Zs 3 Z4q.code)) ⟨s2, H2, n2, m⟩ = some (.norm ⟨s', H', n', m⟩) /\ CS ns b m qs cp ex ow cs h m q6 nm s' H' n' (p2 + 1) ⟨1 + x, nm, ⟨#[]⟩, zC⟩ := by
  simp only [Z4q, go_sem, c0, c5, cb, e4 D (by omega), jb, B.a]
  refine ⟨_, _, _, n2 + 1, rfl, ⟨c0, c1, c4, c5, rfl, ?_, ?_, ?_, ?_, hb, hqs, hne, dM _, by omega, by omega, by omega, by omega, fun y hy j3 => ?_, ⟨j7, dE _, dE _, dE _⟩⟩⟩
  . simp only [go_sem, B.k]
  . simp only [go_sem, Q.k, n3]; rw [j1 qs (by omega) hne]; exact as
  . simp only [go_sem, M.k, m1]; rw [j1 m (by omega) (by omega)]; exact am
  . simp only [go_sem]; rfl
  . have Y := Z8 (show y < n2 by omega)
    simp only [go_sem, Y.k, j3]; rw [j1 y (by omega) j3]; exact j4 y hy j3
 obtain ⟨s3, H3, ja, q6, h3, I⟩ := h3
 exact ⟨s3, H3, ja, m, q6, nm, p2 + 1, ⟨1 + x, nm, ⟨#[]⟩, zC⟩, Xc 3 h3 rfl, by omega, j7, I, rfl, by simp only; omega, by simp only; omega⟩
set_option maxHeartbeats 4000000 in
theorem Yg5 {D : Nat} (hD : 5 <= D) (ns : List Int) (hc : Code ns) (cs : List ColV) (hcs : SmallC cs) (cp : Nat) (ex ow : Bool) (h : Hp) (m b qs q4 q6 : Nat) (nm : ByteArray) (s : Nat -> A) (H : Hp) (n p : Nat) (hp : p + 20 <= 2 ^ 40) (c : Chg) (I : CS ns b m qs cp ex ow cs h q4 q6 nm s H n p c) (hcol : c.col = zC) (k1 : 1 <= c.k) (k4 : c.k <= 4) :
 ∃ s' H' n' p' c', Zg (aH D) (hdQ (Zs 4 Z4q.code)) ⟨s, H, n, m⟩ = some (.norm ⟨s', H', n', m⟩) /\ p' <= p + 8 /\ CS ns b m qs cp ex ow cs h q4 q6 nm s' H' n' p' c' := by
 have i1 := I.bm; have i2 := I.sm; have i3 := I.m4; have i4 := I.m6; have i5 := I.l4; have i6 := I.l6
 have B := Z8 (show b < n by omega)
 have Q := Z8 (show qs < n by omega)
 have M := Z8 I.l6
 have n3 := eqF I.sb
 have n4 := eqF (Ne.symm I.sb)
 have n7 : (b = q6) = False := eqF (by omega)
 have n8 : (q6 = b) = False := eqF (by omega)
 have j9 : (qs = q6) = False := eqF (by omega)
 have n12 : (q6 = qs) = False := eqF (by omega)
 obtain ⟨ck, j7, j3, jd⟩ := c
 simp only at hcol k1 k4
 subst hcol
 have z0 := I.sg.nm
 have z1 := I.sg.nw
 simp only at z0 z1
 rcases (show ck = 1 \/ ck = 2 \/ ck = 3 \/ ck = 4 by omega) with rfl | rfl | rfl | rfl
 . -- a column more
   obtain ⟨j4, j2, e1⟩ := Zv0 ns hc Zg2 (by decide) p (by omega)
   have j1 := fun h m b bl => e1 D (by omega) h m b bl 6 false
   simp only [eB, eC] at j1
   have e0 := Z91 (show 1 <= D by omega)
   obtain ⟨col, p1, g1, G1, hcol, jg, e2⟩ := Zx3 ns hc j4 (p + 1) (by omega)
   have w1 : j4.size <= big := by
    have : ∀ x ∈ Zg2, x.size <= 5 := by decide
    have := this j4 j2
    unfold big; omega
   have w2 := hcol.df.size
   have w3 := hcol.nm
   obtain ⟨xn, xk, xd, xo, j8, j6, j5⟩ := col
   simp only at w2 w3
   subst w3
   have w4 : j5.size <= big := by unfold big; omega
   by_cases hq : xd = true /\ j8 = 0
   . obtain ⟨rfl, rfl⟩ := hq
     obtain ⟨x, hx, e3⟩ := W8 ns hc 4 p1 (by omega)
     by_cases hx0 : 0 < x
     . simp only [Z4q, go_sem, I.s0, I.s6, I.hb, I.h6, n7, n8, B.a, M.a, e0, j1, e2 D (by omega), e3 D (by omega), hx0]
       refine ⟨_, _, _, p1 + 1, ⟨1, ⟨#[]⟩, j3, ⟨xn, xk, false, xo, ⟨0, j6, j5⟩⟩⟩, rfl, by omega, I.next rfl rfl rfl rfl rfl ?_ ?_ (fun y hy h1 h2 => ?_) (by omega) ⟨dE _, z1, w1, w4⟩⟩
       . simp only [go_sem, B.a, n7]
       . simp only [go_sem, M.a, n8]
         first | done | rfl | exact I.h6
       . have Y := Z8 hy
         simp only [go_sem, h1, h2, Y.a]
     . simp only [Z4q, go_sem, I.s0, I.s6, I.hb, I.h6, n7, n8, B.a, M.a, e0, j1, e2 D (by omega), e3 D (by omega), hx0]
       refine ⟨_, _, _, p1 + 1, ⟨1, ⟨#[]⟩, j3, ⟨xn, xk, true, xo, ⟨0, j6, j5⟩⟩⟩, rfl, by omega, I.next rfl rfl rfl rfl rfl ?_ ?_ (fun y hy h1 h2 => ?_) (by omega) ⟨dE _, z1, w1, w4⟩⟩
       . simp only [go_sem, B.a, n7]
       . simp only [go_sem, M.a, n8]
         first | done | rfl | exact I.h6
       . have Y := Z8 hy
         simp only [go_sem, h1, h2, Y.a]
   . have jf : xd = false \/ (xd = true /\ (j8 = 0) = False) := by
      cases xd with
      | false => exact .inl rfl
      | true => exact .inr ⟨rfl, eq_false fun h => hq ⟨rfl, h⟩⟩
     rcases jf with rfl | ⟨rfl, je⟩
     . simp only [Z4q, go_sem, I.s0, I.s6, I.hb, I.h6, n7, n8, B.a, M.a, e0, j1, e2 D (by omega)]
       refine ⟨_, _, _, p1, ⟨1, ⟨#[]⟩, j3, ⟨xn, xk, false, xo, ⟨j8, j6, j5⟩⟩⟩, rfl, by omega, I.next rfl rfl rfl rfl rfl ?_ ?_ (fun y hy h1 h2 => ?_) (by omega) ⟨dE _, z1, w1, w4⟩⟩
       . simp only [go_sem, B.a, n7]
       . simp only [go_sem, M.a, n8]
         first | done | rfl | exact I.h6
       . have Y := Z8 hy
         simp only [go_sem, h1, h2, Y.a]
     . simp only [Z4q, go_sem, I.s0, I.s6, I.hb, I.h6, n7, n8, B.a, M.a, e0, j1, e2 D (by omega), je]
       refine ⟨_, _, _, p1, ⟨1, ⟨#[]⟩, j3, ⟨xn, xk, true, xo, ⟨j8, j6, j5⟩⟩⟩, rfl, by omega, I.next rfl rfl rfl rfl rfl ?_ ?_ (fun y hy h1 h2 => ?_) (by omega) ⟨dE _, z1, w1, w4⟩⟩
       . simp only [go_sem, B.a, n7]
       . simp only [go_sem, M.a, n8]
         first | done | rfl | exact I.h6
       . have Y := Z8 hy
         simp only [go_sem, h1, h2, Y.a]
 . -- a column less
   simp only [Z4q, go_sem, I.s0, I.s6, I.h6]
   exact ⟨_, _, _, p, _, rfl, by omega, I.next rfl rfl rfl rfl rfl I.hb I.h6 (fun y hy h1 h2 => rfl) (by omega) I.sg⟩
 . -- another name
   obtain ⟨j4, j2, e1⟩ := Zv0 ns hc Yb5 (by decide) p (by omega)
   have j1 := fun h m b bl => e1 D (by omega) h m b bl 7 true
   simp only [eB, eC] at j1
   have w1 : j4.size <= big := by
    have : ∀ x ∈ Yb5, x.size <= 5 := by decide
    have := this j4 j2
    unfold big; omega
   simp only [Z4q, go_sem, I.s0, I.s6, I.hb, I.h6, n8, B.a, M.e, j1]
   refine ⟨_, _, _, p + 1, ⟨3, j7, j4, zC⟩, rfl, by omega, I.next rfl rfl rfl rfl rfl ?_ ?_ (fun y hy h1 h2 => ?_) (by omega) ⟨z0, w1, dE _, dE _⟩⟩
   . simp only [go_sem, B.e, n7]
   . simp only [go_sem, M.e, n8]
     first | done | rfl | exact I.h6
   . have Y := Z8 hy
     simp only [go_sem, h1, h2, Y.e]
 . -- another kind
   obtain ⟨x, hx, e1⟩ := W8 ns hc 2 p (by omega)
   have jh := hx.1 (by decide)
   have ja : IntKind.i64.wrap (1 + x) = 1 + x := Zt (by omega) (by omega)
   have hl : cs.length <= big := hcs.len
   have e2 := Zcy (show 1 <= D by omega) nm cs hl
   have jb := Za ColV.c cs
   unfold nmI at e2
   cases hat : Z3w nm cs with
   | none =>
     rw [hat] at e2
     simp only at e2
     have m0 : ¬ (0 : Int) <= -1 := by decide
     simp only [Z4q, go_sem, I.s0, I.s1, I.s5, I.s6, I.hb, I.h6, I.hs, n3, n8, j9, B.l, e1 D (by omega), e2, ja, m0, jb, dL, dM]
     refine ⟨_, _, _, p + 1, ⟨4, j7, j3, { zC with k := 1 + x }⟩, rfl, by omega, I.next rfl rfl rfl rfl rfl ?_ ?_ (fun y hy h1 h2 => ?_) (by omega) ⟨z0, z1, dE _, dE _⟩⟩
     . simp only [go_sem, n7]
     . simp only [go_sem, n8]
       first | done | rfl | exact I.h6
     . have Y := Z8 hy
       simp only [go_sem, h1, h2]
   | some j =>
     rw [hat] at e2
     simp only at e2
     have j0 := eL j
     have jt := eM j
     have hj := Z0q hat
     have jc : cs[j]? = some cs[j] := dP hj
     have hr := Zu (f := ColV.c) jc
     generalize cs[j] = cj at *
     obtain ⟨y, hy, e3⟩ := W8 ns hc 6 (p + 1) (by omega)
     by_cases hy0 : 0 < y
     . simp only [Z4q, go_sem, I.s0, I.s1, I.s5, I.s6, I.hb, I.h6, I.hs, n3, n7, n8, j9, B.l, e1 D (by omega), e2, e3 D (by omega), hy0, ja, j0, jt, hj, hr, jb, dL, dM]
       refine ⟨_, _, _, p + 2, ⟨4, j7, j3, { zC with k := IntKind.i64.wrap (3 - cj.k) }⟩, rfl, by omega, I.next rfl rfl rfl rfl rfl ?_ ?_ (fun y hy h1 h2 => ?_) (by omega) ⟨z0, z1, dE _, dE _⟩⟩
       . simp only [go_sem, n7]
       . simp only [go_sem, n8]
         first | done | rfl | exact I.h6
       . have Y := Z8 hy
         simp only [go_sem, h1, h2]
     . simp only [Z4q, go_sem, I.s0, I.s1, I.s5, I.s6, I.hb, I.h6, I.hs, n3, n7, n8, j9, B.l, e1 D (by omega), e2, e3 D (by omega), hy0, ja, j0, jt, hj, hr, jb, dL, dM]
       refine ⟨_, _, _, p + 2, ⟨4, j7, j3, { zC with k := 1 + x }⟩, rfl, by omega, I.next rfl rfl rfl rfl rfl ?_ ?_ (fun y hy h1 h2 => ?_) (by omega) ⟨z0, z1, dE _, dE _⟩⟩
       . simp only [go_sem, n7]
       . simp only [go_sem, n8]
         first | done | rfl | exact I.h6
       . have Y := Z8 hy
         simp only [go_sem, h1, h2]
theorem Yfs {D : Nat} (hD : 5 <= D) (ns : List Int) (hc : Code ns) (cs : List ColV) (hcs : SmallC cs) (cp : Nat) (ex ow : Bool) (h : Hp) (m b qs q4 q6 : Nat) (nm : ByteArray) (s : Nat -> A) (H : Hp) (n p : Nat) (hp : p + 20 <= 2 ^ 40) (c : Chg) (I : CS ns b m qs cp ex ow cs h q4 q6 nm s H n p c) :
 ∃ s' H' n' p' c', Zg (aH D) (hdQ (Zs 5 Z4q.code)) ⟨s, H, n, m⟩ = some (.norm ⟨s', H', n', m⟩) /\ p' <= p + 2 /\ CS ns b m qs cp ex ow cs h q4 q6 nm s' H' n' p' c' := by
 have i1 := I.bm; have i2 := I.sm; have i3 := I.m4; have i4 := I.m6; have i5 := I.l4; have i6 := I.l6
 have B := Z8 (show b < n by omega)
 have Q := Z8 (show qs < n by omega)
 have M := Z8 I.l6
 have n3 := eqF I.sb
 have n4 := eqF (Ne.symm I.sb)
 have n7 : (b = q6) = False := eqF (by omega)
 have n8 : (q6 = b) = False := eqF (by omega)
 have ja : (qs = q6) = False := eqF (by omega)
 have n12 : (q6 = qs) = False := eqF (by omega)
 obtain ⟨ck, j9, j7, j4, j8, j3, j2, j6, j5, j1⟩ := c
 have z0 := I.sg.nm
 have z1 := I.sg.nw
 have z2 := I.sg.cn
 have z3 := I.sg.dt
 simp only at z0 z1 z2 z3
 obtain ⟨x, hx, e0⟩ := W8 ns hc 50 p (by omega)
 by_cases x0 : x = 0
 . obtain ⟨y, hy, e1⟩ := Zp7 ns hc Yfr (by decide) (p + 1) (by omega)
   have j0 := fun h m b bl => e1 D (by omega) h m b bl 4 true
   simp only [eB, eC] at j0
   simp only [Z4q, go_sem, I.s0, I.s6, I.hb, I.h6, n8, B.a, M.e, e0 D (by omega), j0, x0]
   refine ⟨_, _, _, p + 2, ⟨y, j9, j7, j4, j8, j3, j2, j6, j5, j1⟩, rfl, by omega, I.next rfl rfl rfl rfl rfl ?_ ?_ (fun y hy h1 h2 => ?_) (by omega) ⟨z0, z1, z2, z3⟩⟩
   . simp only [go_sem, B.e, n7]
   . simp only [go_sem, M.e, n8]
     first | done | rfl | exact I.h6
   . have Y := Z8 hy
     simp only [go_sem, h1, h2, Y.e]
 . by_cases x1 : x = 1
   . obtain ⟨y, hy, e1⟩ := Zv0 ns hc Ybl (by decide) (p + 1) (by omega)
     have j0 := fun h m b bl => e1 D (by omega) h m b bl 4 true
     simp only [eB, eC] at j0
     have w1 : y.size <= big := by
      have : ∀ x ∈ Ybl, x.size <= 5 := by decide
      have := this y hy
      unfold big; omega
     subst x1
     simp only [Z4q, go_sem, I.s0, I.s6, I.hb, I.h6, n8, B.a, M.e, e0 D (by omega), j0]
     refine ⟨_, _, _, p + 2, ⟨ck, y, j7, j4, j8, j3, j2, j6, j5, j1⟩, rfl, by omega, I.next rfl rfl rfl rfl rfl ?_ ?_ (fun y hy h1 h2 => ?_) (by omega) ⟨w1, z1, z2, z3⟩⟩
     . simp only [go_sem, B.e, n7]
     . simp only [go_sem, M.e, n8]
       first | done | rfl | exact I.h6
     . have Y := Z8 hy
       simp only [go_sem, h1, h2, Y.e]
   . by_cases x2 : x = 2
     . obtain ⟨y, hy, e1⟩ := Zv0 ns hc Yc3 (by decide) (p + 1) (by omega)
       have j0 := fun h m b bl => e1 D (by omega) h m b bl 3 true
       simp only [eB, eC] at j0
       have w1 : y.size <= big := by
        have : ∀ x ∈ Yc3, x.size <= 5 := by decide
        have := this y hy
        unfold big; omega
       subst x2
       simp only [Z4q, go_sem, I.s0, I.s6, I.hb, I.h6, n8, B.a, M.e, e0 D (by omega), j0]
       refine ⟨_, _, _, p + 2, ⟨ck, j9, y, j4, j8, j3, j2, j6, j5, j1⟩, rfl, by omega, I.next rfl rfl rfl rfl rfl ?_ ?_ (fun y hy h1 h2 => ?_) (by omega) ⟨z0, w1, z2, z3⟩⟩
       . simp only [go_sem, B.e, n7]
       . simp only [go_sem, M.e, n8]
         first | done | rfl | exact I.h6
       . have Y := Z8 hy
         simp only [go_sem, h1, h2, Y.e]
     . by_cases x3 : x = 3
       . obtain ⟨y, hy, e1⟩ := Zp7 ns hc Ygk (by decide) (p + 1) (by omega)
         have j0 := fun h m b bl => e1 D (by omega) h m b bl 3 true
         simp only [eB, eC] at j0
         subst x3
         simp only [Z4q, go_sem, I.s0, I.s6, I.hb, I.h6, n8, B.a, M.e, e0 D (by omega), j0]
         refine ⟨_, _, _, p + 2, ⟨ck, j9, j7, j4, y, j3, j2, j6, j5, j1⟩, rfl, by omega, I.next rfl rfl rfl rfl rfl ?_ ?_ (fun y hy h1 h2 => ?_) (by omega) ⟨z0, z1, z2, z3⟩⟩
         . simp only [go_sem, B.e, n7]
         . simp only [go_sem, M.e, n8]
           first | done | rfl | exact I.h6
         . have Y := Z8 hy
           simp only [go_sem, h1, h2, Y.e]
       . by_cases x4 : x = 4
         . subst x4
           simp only [Z4q, go_sem, I.s0, I.s6, I.hb, I.h6, n8, B.l, e0 D (by omega)]
           refine ⟨_, _, _, p + 1, ⟨ck, j9, j7, j4, j8, !j3, j2, j6, j5, j1⟩, rfl, by omega, I.next rfl rfl rfl rfl rfl ?_ ?_ (fun y hy h1 h2 => ?_) (by omega) ⟨z0, z1, z2, z3⟩⟩
           . simp only [go_sem, n7]
           . simp only [go_sem, n8]
             first | done | rfl | exact I.h6
           . have Y := Z8 hy
             simp only [go_sem, h1, h2]
         . simp only [Z4q, go_sem, I.s0, I.s6, I.hb, I.h6, n8, B.l, e0 D (by omega), x0, x1, x2, x3, x4]
           refine ⟨_, _, _, p + 1, ⟨ck, j9, j7, j4, j8, j3, j2, j6, j5, j1⟩, rfl, by omega, I.next rfl rfl rfl rfl rfl ?_ ?_ (fun y hy h1 h2 => ?_) (by omega) ⟨z0, z1, z2, z3⟩⟩
           . simp only [go_sem]
           . simp only [go_sem, n8]
             first | done | rfl | exact I.h6
           . have Y := Z8 hy
             simp only [go_sem, h1]
theorem Zuo {D : Nat} (hD : 6 <= D) (ns : List Int) (hc : Code ns) (p : Nat) (hp : p + 40 <= 2 ^ 40) (cs : List ColV) (hcs : SmallC cs) (cp : Nat) (ex ow : Bool) (h : Hp) (m b qs : Nat) (hb : b < m) (hqs : qs < m) (hne : ¬ qs = b) (hh : h b = rdB ns p) (hs : h qs = some ⟨Z0, cs.map ColV.c, ow, false⟩) :
 ∃ c h' n', SmallG c /\ dcl pr D Y3o [.ptr b 0 0, .ref Z0 qs 0 cs.length cp ex] h m = some ([.agg c.c], h', n') /\ Drew ns p 14 b m h n' h' := by
 obtain ⟨D, rfl, hd⟩ := Zd hD
 rw [Ydc]
 obtain ⟨s1, H1, n1, q4, q6, nm, p1, c1, e1, j1, j2, I1, i2, i3, i4⟩ := Yfn (D := D) (by omega) ns hc p hp cs hcs cp ex ow h m b qs hb hqs hne hh hs
 obtain ⟨s2, H2, n2, p2, c2, e2, j4, I2⟩ := Yg5 (D := D) (by omega) ns hc cs hcs cp ex ow h m b qs q4 q6 nm s1 H1 n1 p1 (by omega) c1 I1 i2 i3 i4
 obtain ⟨s3, H3, n3, p3, c3, e3, j3, I3⟩ := Yfs (D := D) (by omega) ns hc cs hcs cp ex ow h m b qs q4 q6 nm s2 H2 n2 p2 (by omega) c2 I2
 rw [e1, Xc 4 e2 rfl, Xc 5 e3 rfl]
 have n1 := eqF I3.ne
 have i1 := I3.bm; have i3 := I3.m4; have i5 := I3.l4
 have n5 : (b = q4) = False := eqF (by omega)
 refine ⟨c3, upd H3 q4 (cR Z3 [c3.c]), n3, I3.sg, ?_, ⟨⟨p3, by omega, ?_⟩, by omega, fun y hy j0 => ?_⟩⟩
 . simp only [Z4q, tlQ, Zs, go_sem, I3.s4, I3.s6, I3.h4, I3.h6]
 . simp only [go_sem, n5]; exact I3.hb
 . simp only [go_sem, eqF (show ¬ y = q4 by omega)]; exact I3.low y hy j0
end Go.Vm.T
namespace Go.Vm.T
variable [Pr0]
structure SetV where
 nm : ByteArray
 v : Val
abbrev SetV.c (x : SetV) : List A := [.s x.nm, .n x.v.k, .n x.v.n, .s x.v.t]
def SmallS (l : List SetV) : Prop := ∀ x ∈ l, x.v.t.size <= big
theorem SmallS.app {l : List SetV} (h : SmallS l) {x : SetV} (hx : x.v.t.size <= big) : SmallS (l ++ [x]) := fun y hy => by
 rcases dS.1 hy with hy | hy
 . exact h y hy
 . rw [dT.1 hy]; exact hx
abbrev Zgz (h : Hp) (m b : Nat) (ns : List Int) (p : Nat) (l : List SetV) : Hp := upd (upd (low m h) b (rdB ns p)) m (cS Zk (l.map SetV.c))
set_option maxHeartbeats 8000000 in
theorem Ze0 {D : Nat} (hD : 4 <= D) (ns : List Int) (hc : Code ns) (cs : List ColV) (hl : cs.length <= 20) (cp : Nat) (exc ow : Bool) (h : Hp) (m b qs : Nat) (hb : b < m) (hqs : qs < m) (hne : ¬ qs = b) (hs : h qs = some ⟨Z0, cs.map ColV.c, ow, false⟩) : ∀ (r i : Nat) (l : List SetV) (ex : Bool) (p K : Nat), i + r = cs.length -> SmallS l -> l.length <= i -> p + 6 * r <= 2 ^ 30 -> r < K ->
 ∃ l' ex' p', SmallS l' /\ l'.length <= 20 /\ p' <= p + 6 * r /\ ∃ U', Zc (Zg (aH D) Z2a) [0, 1, 5, 6] K ⟨upd (upd (upd (upd (fun _ => .bad) 0 (.ptr b 0 0)) 1 (.ref Z0 qs 0 cs.length cp exc)) 5 (cT Zk m l.length ex)) 6 (.n i), Zgz h m b ns p l, m + 1, m⟩ = some (.exit 0 U') /\ U'.s 0 = .ptr b 0 0 /\ U'.s 5 = cT Zk m l'.length ex' /\ U'.h = Zgz h m b ns p' l' /\ U'.n = m + 1 /\ U'.base = m
 | 0, i, l, ex, p, K, hi, hf, hle, hp, hK => by
   obtain ⟨K, rfl⟩ : ∃ j, K = j + 1 := ⟨K - 1, by omega⟩
   have hz : ¬ i < cs.length := by omega
   refine ⟨l, ex, p, hf, by omega, by omega, ?_⟩
   simp only [Zc, Vq, Xy, go_sem, hz]
   exact ⟨_, rfl, rfl, rfl, rfl, rfl, rfl⟩
 | r + 1, i, l, ex, p, K, hi, hf, hle, hp, hK => by
   obtain ⟨K, rfl⟩ : ∃ j, K = j + 1 := ⟨K - 1, by omega⟩
   have hlt : i < cs.length := by omega
   have hw := Zn (n := i) (by omega)
   have B := Z8 hb
   have Q := Z8 hqs
   have n3 := eqF hne
   have n4 := eqF (Ne.symm hne)
   have j3 : low m h qs = some ⟨Z0, cs.map ColV.c, ow, false⟩ := by rw [Zgs hqs]; exact hs
   have j7 : cs[i]? = some cs[i] := dP hlt
   have hr := Zu (f := ColV.c) j7
   generalize cs[i] = c at *
   obtain ⟨cn, ck, cd, co, cf⟩ := c
   have j5 : l.length + 1 <= big := by unfold big; omega
   have j4 := Za SetV.c l
   have j0 : ∀ (v : Val) (p1 : Nat), v.t.size <= big -> p1 <= p + 6 -> ∃ l' ex' p', SmallS l' /\ l'.length <= 20 /\ p' <= p + 6 * (r + 1) /\ ∃ U', Zc (Zg (aH D) Z2a) [0, 1, 5, 6] K ⟨upd (upd (upd (upd (fun _ => .bad) 0 (.ptr b 0 0)) 1 (.ref Z0 qs 0 cs.length cp exc)) 5 (.ref Zk m 0 (l.length + 1) (l.length + 1) false)) 6 (.n ((i + 1 : Nat) : Int)), upd (upd (low m h) b (rdB ns p1)) m (some ⟨Zk, l.map SetV.c ++ [[.s cn, .n v.k, .n v.n, .s v.t]], true, false⟩), m + 1, m⟩ = some (.exit 0 U') /\ U'.s 0 = .ptr b 0 0 /\ U'.s 5 = cT Zk m l'.length ex' /\ U'.h = Zgz h m b ns p' l' /\ U'.n = m + 1 /\ U'.base = m := fun v p1 hv j6 => by
    obtain ⟨l', ex', p', f1, f2, f3, U', f4⟩ := Ze0 hD ns hc cs hl cp exc ow h m b qs hb hqs hne hs r (i + 1) (l ++ [⟨cn, v⟩]) false p1 K (by omega) (hf.app hv) (by simp; omega) (by omega) (by omega)
    simp only [eA, eB, eC, dD, Zgz, eK, eV, dH] at f4
    exact ⟨l', ex', p', f1, f2, by omega, U', f4⟩
   cases cd with
   | true =>
     obtain ⟨v, p1, g1, G1, hv, j6, e1⟩ := Zdo ns hc ck p (by omega)
     obtain ⟨vk, vn, vt⟩ := v
     have j2 : vt.size <= big := by simp only at hv; unfold big; omega
     rcases pf (vk = 0) with hk | hk
     . obtain ⟨x, hx, e2⟩ := W8 ns hc 6 p1 (by omega)
       rcases pf (0 < x) with j1 | j1
       . obtain ⟨l', ex', p', f1, f2, f3, U', f4⟩ := j0 ⟨ck, vn, vt⟩ (p1 + 1) j2 (by omega)
         refine ⟨l', ex', p', f1, f2, f3, U', ?_⟩
         rw [<- f4.1]
         refine ⟨?_, f4.2⟩
         simp only [Zc, Vq, Xy, go_sem, hlt, hw, hr, j3, e1 D (by omega), e2 D (by omega), hk, j1, j5, j4, n3, B.a, Q.a, Z90 hb, Wx, dL, dM]
       . obtain ⟨l', ex', p', f1, f2, f3, U', f4⟩ := j0 ⟨vk, vn, vt⟩ (p1 + 1) j2 (by omega)
         refine ⟨l', ex', p', f1, f2, f3, U', ?_⟩
         rw [<- f4.1]
         refine ⟨?_, f4.2⟩
         simp only [Zc, Vq, Xy, go_sem, hlt, hw, hr, j3, e1 D (by omega), e2 D (by omega), hk, j1, j5, j4, n3, B.a, Q.a, Z90 hb, Wx, dL, dM]
     . obtain ⟨l', ex', p', f1, f2, f3, U', f4⟩ := j0 ⟨vk, vn, vt⟩ p1 j2 (by omega)
       refine ⟨l', ex', p', f1, f2, f3, U', ?_⟩
       rw [<- f4.1]
       refine ⟨?_, f4.2⟩
       simp only [Zc, Vq, Xy, go_sem, hlt, hw, hr, j3, e1 D (by omega), hk, j5, j4, n3, B.a, Q.a, Z90 hb, Wx, dL, dM]
   | false =>
     obtain ⟨x, hx, e2⟩ := W8 ns hc 2 p (by omega)
     rcases pf (x = 0) with j1 | j1
     . obtain ⟨v, p1, g1, G1, hv, j6, e1⟩ := Zdo ns hc ck (p + 1) (by omega)
       obtain ⟨vk, vn, vt⟩ := v
       have j2 : vt.size <= big := by simp only at hv; unfold big; omega
       obtain ⟨l', ex', p', f1, f2, f3, U', f4⟩ := j0 ⟨vk, vn, vt⟩ p1 j2 (by omega)
       refine ⟨l', ex', p', f1, f2, f3, U', ?_⟩
       rw [<- f4.1]
       refine ⟨?_, f4.2⟩
       simp only [Zc, Vq, Xy, go_sem, hlt, hw, hr, j3, e1 D (by omega), e2 D (by omega), j1, j5, j4, n3, B.a, Q.a, Z90 hb, Wx, dL, dM]
     . obtain ⟨l', ex', p', f1, f2, f3, U', f4⟩ := Ze0 hD ns hc cs hl cp exc ow h m b qs hb hqs hne hs r (i + 1) l ex (p + 1) K (by omega) hf (by omega) (by omega) (by omega)
       refine ⟨l', ex', p', f1, f2, by omega, U', ?_⟩
       rw [<- f4.1]
       refine ⟨?_, f4.2⟩
       simp only [Zc, Vq, Xy, go_sem, hlt, hw, hr, j3, e2 D (by omega), j1, n3, B.a, Q.a, Z90 hb, Wx]
theorem Y0p {J : Type} {f : Nat -> J} {k : Nat} {x : J} (h : f k = x) : upd f k x = f := by
 funext i
 rw [Z6]
 split
 . rename_i e; rw [e, h]
 . rfl
abbrev Ye1 : List ByteArray := [⟨#[97]⟩, ⟨#[122, 122]⟩, ⟨#[]⟩]
set_option maxHeartbeats 8000000 in
theorem Zj5 {D : Nat} (hD : 5 <= D) (ns : List Int) (hc : Code ns) (p : Nat) (hp : p <= 2 ^ 29) (cs : List ColV) (hl : cs.length <= 20) (cp : Nat) (exc ow : Bool) (h : Hp) (m b qs : Nat) (hb : b < m) (hqs : qs < m) (hne : ¬ qs = b) (hh : h b = rdB ns p) (hs : h qs = some ⟨Z0, cs.map ColV.c, ow, false⟩) :
 ∃ l q cp' ex' h' n', SmallS l /\ l.length <= 21 /\ dcl pr D Z1y [.ptr b 0 0, .ref Z0 qs 0 cs.length cp exc] h m = some ([.ref Zk q 0 l.length cp' ex'], h', n') /\ h' q = cS Zk (l.map SetV.c) /\ m <= q /\ q < n' /\ Drew ns p 130 b m h n' h' := by
 obtain ⟨D, rfl, hd⟩ := Zd hD
 rw [Zjk]
 have B := Z8 hb
 have Q := Z8 hqs
 obtain ⟨l, ex, p1, f1, f2, f3, U', lo, l0, l1, l2, l3, l4⟩ := Ze0 hd ns hc cs hl cp exc ow h m b qs hb hqs hne hs cs.length 0 [] true p rounds (by omega) (fun x hx => nomatch hx) (dM _) (by omega) (by unfold rounds; omega)
 simp only [Zgz, eC, dH] at lo
 rw [show ((0 : Nat) : Int) = 0 from rfl, Y0p (show low m h b = rdB ns p by rw [Zgs hb]; exact hh)] at lo
 simp only [Zgz] at l2
 have j2 := Za SetV.c l
 have j3 : l.length + 1 <= big := by unfold big; omega
 obtain ⟨x, hx, e0⟩ := W8 ns hc 40 p1 (by omega)
 by_cases x0 : x = 0
 . obtain ⟨y, hy, e1⟩ := Zv0 ns hc Ye1 (by decide) (p1 + 1) (by omega)
   have j1 := fun h m b bl => e1 D (by omega) h m b bl 3 true
   simp only [eB, eC] at j1
   simp only [Z11, go_sem, lo, l0, l1, l2, l3, l4, x0, e0 D (by omega), j1, j2, j3, B.a, Q.a, dL, dM]
   refine ⟨l ++ [⟨y, ⟨0, 0, ⟨#[]⟩⟩⟩], _, _, _, _, _, f1.app (dE _), by simp; omega, by rw [eA]; rfl, ?_, ?_, ?_, ⟨⟨p1 + 2, by omega, ?_⟩, by omega, fun y hy j0 => ?_⟩⟩
   . simp only [go_sem, eK]
   . omega
   . omega
   . simp only [go_sem, B.a]
   . have Y := Z8 hy
     simp only [go_sem, j0, Y.a]
     exact Zgs hy h
 . by_cases x1 : x = 1
   . subst x1
     cases l with
     | nil =>
       simp only [eC, dH] at l1 l2
       simp only [Z11, go_sem, lo, l0, l1, l2, l3, l4, fX, Int.lt_irrefl, x0, e0 D (by omega), B.a, Q.a]
       refine ⟨[], _, _, _, _, _, fun x hx => (nomatch hx), by simp, rfl, ?_, ?_, ?_, ⟨⟨p1 + 1, by omega, ?_⟩, by omega, fun y hy j0 => ?_⟩⟩
       . simp only [go_sem, B.e']
       . omega
       . omega
       . simp only [go_sem, B.e]
       . have Y := Z8 hy
         simp only [go_sem, j0, Y.e]
         exact Zgs hy h
     | cons a l =>
       obtain ⟨v, p2, g2, G2, hv, j5, e1⟩ := Zbn ns hc (p1 + 1) (by omega)
       have j4 : v.t.size <= big := by unfold big; omega
       have hz : (0 : Int) < ((l.length + 1 : Nat) : Int) := by omega
       simp only [eB, eV] at l1 l2
       simp only [Z11, go_sem, lo, l0, l1, l2, l3, l4, hz, x0, fZ, gO, e0 D (by omega), e1 D (by omega), B.a, Q.a, Wx, dM, Nat.succ_pos]
       refine ⟨⟨a.nm, v⟩ :: l, _, _, _, _, _, fun x hx => ?_, by simp at f2 ⊢; omega, rfl, ?_, ?_, ?_, ⟨⟨p2, by omega, ?_⟩, by omega, fun y hy j0 => ?_⟩⟩
       . rcases eG.1 hx with rfl | hx
         . exact j4
         . exact f1 x (dX _ hx)
       . simp only [go_sem]
       . omega
       . omega
       . simp only [go_sem, B.a]
       . have Y := Z8 hy
         simp only [go_sem, j0, Y.a]
         exact Zgs hy h
   . simp only [Z11, go_sem, lo, l0, l1, l2, l3, l4, x0, x1, e0 D (by omega), B.a, Q.a]
     refine ⟨l, _, _, _, _, _, f1, by omega, rfl, ?_, ?_, ?_, ⟨⟨p1 + 1, by omega, ?_⟩, by omega, fun y hy j0 => ?_⟩⟩
     . simp only [go_sem, B.e']
     . omega
     . omega
     . simp only [go_sem, B.e]
     . have Y := Z8 hy
       simp only [go_sem, j0, Y.e]
       exact Zgs hy h
end Go.Vm.T
namespace Go.Vm.T
def Zxr (s : List ColV) (c : Chg) (row : List Val) : List Val :=
 if c.k = 1 then row ++ [c.col.df]
 else match Z3w c.nm s with
  | none => row
  | some i => if c.k = 2 then Z46 i row else if c.k = 4 then (match row[i]? with | some v => row.set i (Z3v v c.col.k) | none => row) else row
variable [Pr1]
theorem Zmc {s : List ColV} {c : Chg} (h : (Z72 s c).2 = true) : Z3h c = true /\ (c.k = 1 \/ ((c.k = 2 \/ c.k = 3 \/ c.k = 4) /\ ∃ i x, Z3w c.nm s = some i /\ s[i]? = some x /\ i < s.length /\ (Z72 s c) = Y8s s c i x)) /\ (c.k = 1 -> (Z72 s c).1 = s ++ [c.col]) := by
 have hn : Z3h c = true := by
  cases hq : Z3h c with
  | true => rfl
  | false => unfold Z72 at h; rw [if_pos hq] at h; cases h
 have hf : ¬ (Z3h c = false) := by rw [hn]; decide
 refine ⟨hn, ?_, fun hk => ?_⟩
 . by_cases hk1 : c.k = 1
   . exact .inl hk1
   . refine .inr ⟨?_, ?_⟩
     . unfold Z3h at hn
       rw [if_neg hk1] at hn
       by_cases h2 : c.k = 2
       . exact .inl h2
       . by_cases h3 : c.k = 3
         . exact .inr (.inl h3)
         . by_cases h4 : c.k = 4
           . exact .inr (.inr h4)
           . rw [if_neg h2, if_neg h3, if_neg h4] at hn; cases hn
     . unfold Z72 at *
       rw [if_neg hf, if_neg hk1] at *
       cases ha : Z3w c.nm s with
       | none => rw [ha] at h; cases h
       | some i =>
         have hi := Z0q ha
         have hx : s[i]? = some s[i] := dP hi
         refine ⟨i, s[i], rfl, hx, hi, ?_⟩
         simp only [hx]
 . unfold Z72 at *
   rw [if_neg hf, if_pos hk] at *
   split at h
   . cases h
   . rename_i h3
     rw [if_neg h3]
     exact (Zcq h).1
theorem Zsp {s : List ColV} {c : Chg} {row : List Val} (h : (Z72 s c).2 = true) (hl : row.length = s.length) : (Zxr s c row).length = (Z72 s c).1.length := by
 obtain ⟨hn, hk, h1⟩ := Zmc h
 unfold Zxr
 by_cases hk1 : c.k = 1
 . rw [if_pos hk1, h1 hk1]; simp [hl]
 . rw [if_neg hk1]
   rcases hk with hk | ⟨hk, i, x, ha, hx, hi, he⟩
   . exact absurd hk hk1
   . rw [ha]
     rw [he] at h ⊢
     simp only
     unfold Y8s at *
     by_cases h2 : c.k = 2
     . rw [if_pos h2] at h ⊢
       rw [if_pos h2, (Zcq h).1, Z21 (by omega), Z21 hi, hl]
     . rw [if_neg h2] at h ⊢
       rw [if_neg h2]
       by_cases h3 : c.k = 3
       . rw [if_pos h3] at h ⊢
         rw [if_neg (by omega), (Zcq h).1]; simp [hl]
       . rw [if_neg h3] at h ⊢
         have h4 : c.k = 4 := by omega
         rw [if_pos h4]
         have hr : row[i]? = some row[i] := dP (by omega)
         rw [hr]
         simp only
         split at h
         . cases h
         . rename_i h5
           rw [if_neg h5, (Zcq h).1]; simp [hl]
def Vk (row : List Val) : Prop := ∀ v ∈ row, v.t.size <= big
theorem Zgr {s : List ColV} {c : Chg} {row : List Val} (hr : Vk row) (hc : SmallG c) : Vk (Zxr s c row) := by
 intro v hv
 unfold Zxr at hv
 split at hv
 . rcases dS.1 hv with h | h
   . exact hr v h
   . rw [dT.1 h]; exact hc.dt
 . split at hv
   . exact hr v hv
   . split at hv
     . unfold Z46 at hv
       rcases dS.1 hv with h | h
       . exact hr v (eZ h)
       . exact hr v (eO h)
     . split at hv
       . split at hv
         . rename_i w hw
           rcases eW hv with h | h
           . exact hr v h
           . rw [h]; exact Zcr (hr w (dU hw))
         . exact hr v hv
       . exact hr v hv
theorem Zj (es : List Val) : Z0n (es.map Val.c) = false := Z6u _ (fun _ => rfl) es
theorem Zpe {D : Nat} (hD : 5 <= D) (s : List ColV) (c : Chg) (row : List Val) (hs : SmallC s) (hc : SmallG c) (hr : Vk row) (hl : row.length + 1 <= big) (hk : c.k = 1 \/ ((c.k = 2 \/ c.k = 3 \/ c.k = 4) /\ ∃ i, Z3w c.nm s = some i /\ i < row.length)) :
 den pr D Y0w [.lit Z0 (s.map ColV.c), .agg c.c, .lit Z2 (row.map Val.c)] = some [.olit Z2 ((Zxr s c row).map Val.c)] := by
 obtain ⟨D, rfl, hd⟩ := Zd hD
 rw [Yd6]
 have e0 := Zb9 (show 2 <= D by omega) (row.map Val.c) (by rw [dL]; omega)
 have e1 := Z6d (show 3 <= D by omega) c.nm s hs.len
 have j3 := Za Val.c row
 have j4 : row.length <= big := by omega
 unfold Zxr
 rcases hk with hk | ⟨hk, i, ha, hi⟩
 . have j0 : (c.k = 1) = True := by rw [hk]; decide
   have e2 := Zb9 (show 2 <= D by omega) ((row ++ [c.col.df]).map Val.c) (by simpa using hl)
   have em : (row ++ [c.col.df]).map Val.c = row.map Val.c ++ [c.col.df.c] := by simp
   have hta : ∀ r : List A, List.take (row.length + 1) (row.map Val.c ++ [r]) = row.map Val.c ++ [r] := fun r => dN (by simp)
   have rsa := Zj (row ++ [c.col.df])
   rw [em] at e2 rsa
   simp only [Zuf, go_sem, e0, e1, e2, j0, em, if_true, dL, eA, Zj, dM, hl, j3, hta, rsa, and_self]
 . unfold nmI at e1
   rw [ha] at e1
   simp only at e1
   have hm : ¬ ((i : Int) < 0) := by omega
   have hw : IntKind.i64.wrap ((i : Int) + 1) = (i : Int) + 1 := Zn (n := i) (by unfold big at hl; omega)
   rcases hk with hk | hk | hk
   . have j0 : (c.k = 1) = False := by rw [hk]; decide
     have j1 : (c.k = 2) = True := by rw [hk]; decide
     have h4 := Zwx (show 1 <= D by omega) (row.map Val.c) i (by simpa using hi) (by simpa using j4)
     have j5 : (Z46 i row).length <= big := by rw [Z21 hi]; omega
     have e5 := Zb9 (show 2 <= D by omega) ((Z46 i row).map Val.c) (by rw [dL]; exact j5)
     have q1 : Z46 i (row.map Val.c) = (Z46 i row).map Val.c := Zt3 _ _ _
     have q2 : ((Z46 i row).map Val.c ++ [Y24]).take (row.length - 1) = (Z46 i row).map Val.c := by
      rw [<- Z21 hi, <- dL (f := Val.c), List.take_left]
     have q3 : row.length - 1 <= (Z46 i row).length + 1 := by rw [Z21 hi]; omega
     simp only [dL] at h4
     simp only [Zuf, go_sem, e0, e1, e5, ha, j0, j1, hw, h4, q1, q2, q3, Wx, if_true, if_false, dL, eA, Zj, dM]
   . have j0 : (c.k = 1) = False := by rw [hk]; decide
     have j1 : (c.k = 2) = False := by rw [hk]; decide
     have j2 : (c.k = 4) = False := by rw [hk]; decide
     simp only [Zuf, go_sem, e0, e1, ha, j0, j1, j2, j3, if_true, if_false, dL, Zj, dM]
   . have j0 : (c.k = 1) = False := by rw [hk]; decide
     have j1 : (c.k = 2) = False := by rw [hk]; decide
     have j2 : (c.k = 4) = True := by rw [hk]; decide
     have hx : row[i]? = some row[i] := dP hi
     simp only [ha, hx]
     generalize row[i] = x at hx
     have j6 := Zu (f := Val.c) hx
     have ev := Zx2 (show 3 <= D by omega) x c.col.k (hr x (dU hx))
     have em : (row.set i (Z3v x c.col.k)).map Val.c = (row.map Val.c).set i (Z3v x c.col.k).c := gI
     have e5 := Zb9 (show 2 <= D by omega) ((row.set i (Z3v x c.col.k)).map Val.c) (by simpa using j4)
     have rsa := Zj (row.set i (Z3v x c.col.k))
     have tk : ∀ r, List.take row.length ((row.map Val.c).set i r) = (row.map Val.c).set i r := fun r => dN (by simp)
     rw [em] at e5 rsa
     simp only [Zuf, go_sem, e0, e1, e5, ev, j0, j1, j2, hi, j6, j3, em, rsa, tk, Wx, if_true, if_false, dL, dI, Zj, dM]
end Go.Vm.T
namespace Go.Vm.T
theorem Y7h (i j : Nat) : ∀ (s : List ColV) (cs : List Chg), Zz Zrn i s cs = Zz Zrn j s cs := by
 intro s cs
 induction cs generalizing i j s with
 | nil => rfl
 | cons c cs ih =>
   unfold Zz Zrn
   cases (Z72 s c).2 with
   | true => exact ih (i + 1) (j + 1) _
   | false => rfl
theorem Z54 (s : List ColV) (c : Chg) (cs : List Chg) : chgs s (c :: cs) = if (Z72 s c).2 = true then chgs (Z72 s c).1 cs else none := by
 unfold chgs
 conv => lhs; unfold Zz Zrn
 cases h : (Z72 s c).2 with
 | true =>
   simp only [cond_true, if_true]
   show (match Zz Zrn (0 + 1) (Z72 s c).1 cs with | .inl s' => some s' | .inr _ => none) = _
   rw [Y7h (0 + 1) 0]
   first | done | rfl
 | false => rfl
theorem Zdn (s : List ColV) : chgs s [] = some s := rfl
theorem Z10 {s s' : List ColV} {cs : List Chg} (hs : Zm s = true) (h : chgs s cs = some s') : Zm s' = true := by
 induction cs generalizing s with
 | nil => rw [Zdn] at h; cases h; exact hs
 | cons c cs ih =>
   rw [Z54] at h
   split at h
   . rename_i hc; exact ih (Zcm hc) h
   . cases h
theorem Zdm (s : List ColV) (as bs : List Chg) : chgs s (as ++ bs) = match chgs s as with | some t => chgs t bs | none => none := by
 induction as generalizing s with
 | nil => rfl
 | cons c cs ih =>
   rw [List.cons_append, Z54, Z54]
   split
   . exact ih _
   . rfl
def rwG (_ : Nat) (b : List ColV × List Val) (c : Chg) : (List ColV × List Val) ⊕ Unit := .inl ((Z72 b.1 c).1, Zxr b.1 c b.2)
def Zgd (b : List ColV × List Val) (cs : List Chg) : List ColV × List Val := cs.foldl (fun b c => ((Z72 b.1 c).1, Zxr b.1 c b.2)) b
def Zeu (s : List ColV) (cs : List Chg) (row : List Val) : List Val := (Zgd (s, row) cs).2
theorem Zyz : ∀ (cs : List Chg) (i : Nat) (b : List ColV × List Val), Zz rwG i b cs = .inl (Zgd b cs)
 | [], i, b => rfl
 | c :: cs, i, b => Zyz cs (i + 1) _
variable [Pr1]
theorem Zyx {s s' : List ColV} {cs : List Chg} {row : List Val} (h : chgs s cs = some s') (hl : row.length = s.length) : (Zeu s cs row).length = s'.length := by
 unfold Zeu
 induction cs generalizing s row with
 | nil => rw [Zdn] at h; cases h; exact hl
 | cons c cs ih =>
   rw [Z54] at h
   split at h
   . rename_i hc; exact ih h (Zsp hc hl)
   . cases h
theorem Z57 {s : List ColV} {cs : List Chg} {row : List Val} (hr : Vk row) (hc : ∀ c ∈ cs, SmallG c) : Vk (Zeu s cs row) := by
 unfold Zeu
 induction cs generalizing s row with
 | nil => exact hr
 | cons c cs ih => exact ih (Zgr hr (hc c dA)) (fun c h => hc c (dX _ h))
def rwS (s : List ColV) (cs : List Chg) (i : Nat) (b : List ColV × List Val) : St :=
 if i = 0 then ⟨upd (upd (upd (upd (upd (fun _ => .bad) 0 (.lit Z0 (s.map ColV.c))) 7 (cT Z2 0 b.2.length false)) 12 (.lit Z3 (cs.map Chg.c))) 13 (.n cs.length)) 14 (.n i), upd (fun _ => none) 0 (cS Z2 (b.2.map Val.c)), 1, 0⟩
 else ⟨upd (upd (upd (upd (upd (fun _ => .bad) 0 (cT Z0 0 b.1.length false)) 7 (cT Z2 1 b.2.length false)) 12 (.lit Z3 (cs.map Chg.c))) 13 (.n cs.length)) 14 (.n i), upd (upd (fun _ => none) 0 (cS Z0 (b.1.map ColV.c))) 1 (cS Z2 (b.2.map Val.c)), 2, 0⟩
structure RwI (s : List ColV) (cs : List Chg) (i : Nat) (b : List ColV × List Val) : Prop where
 cols : SmallC b.1
 clen : b.1.length + 1 <= big
 vals : Vk b.2
 len : b.2.length = b.1.length
 rest : (chgs b.1 (cs.drop i)).isSome = true
 first : i = 0 -> b.1 = s
theorem RwI.step {s : List ColV} {cs : List Chg} {i : Nat} {b : List ColV × List Val} (I : RwI s cs i b) {c : Chg} (hc : cs[i]? = some c) (hg : SmallG c) : (Z72 b.1 c).2 = true /\ RwI s cs (i + 1) ((Z72 b.1 c).1, Zxr b.1 c b.2) /\
 (c.k = 1 \/ ((c.k = 2 \/ c.k = 3 \/ c.k = 4) /\ ∃ i, Z3w c.nm b.1 = some i /\ i < b.2.length)) := by
 have hi : i < cs.length := (dQ.1 hc).1
 have hd : cs.drop i = c :: cs.drop (i + 1) := by
  rw [gH hi]
  congr 1
  exact (dQ.1 hc).2
 have hr := I.rest
 rw [hd, Z54] at hr
 have hq : (Z72 b.1 c).2 = true := by
  cases h : (Z72 b.1 c).2 with
  | true => rfl
  | false => rw [h] at hr; cases hr
 rw [if_pos hq] at hr
 have j0 := Yh (Zcm hq)
 refine ⟨hq, ⟨j0.1, j0.2, Zgr I.vals hg, Zsp hq I.len, hr, fun h => by omega⟩, ?_⟩
 obtain ⟨_, hk, _⟩ := Zmc hq
 rcases hk with hk | ⟨hk, i, x, h1, h2, h3, h4⟩
 . exact .inl hk
 . exact .inr ⟨hk, i, h1, by rw [I.len]; exact h3⟩
theorem Zjo {D : Nat} (hD : 5 <= D) (s : List ColV) (cs : List Chg) (row : List Val) (hc : ∀ c ∈ cs, SmallG c) (hcl : cs.length <= big) (I : RwI s cs 0 (s, row)) :
 Vs (Zc (Zg (aH D) Zpy) [0, 7, 12, 13, 14] rounds (rwS s cs 0 (s, row))) (List ColV × List Val) Unit (.inl (Zgd (s, row) cs))
  (fun b o => ∃ U' m, o = .exit 0 U' /\ U'.s 7 = cT Z2 m b.2.length false /\ U'.h m = cS Z2 (b.2.map Val.c)) (fun _ o => False) := by
 rw [<- Zyz cs 0]
 refine Zw cs (rwS s cs) rwG (RwI s cs) _ _ (s, row) I hcl (fun i b c K j0 hlt hI => ?_) (fun b K hI => ?_)
 . obtain ⟨hq, j3, hk⟩ := hI.step j0 (hc c (dU j0))
   have hr := Zu (f := Chg.c) j0
   have hw := Zn (n := i) (by unfold big at hcl; omega)
   have hg := hc c (dU j0)
   have e1 := Zsf hD b.1 c hI.cols hI.clen hg
   have e2 := Zpe hD b.1 c b.2 hI.cols hg hI.vals (by rw [hI.len]; exact hI.clen) hk
   have j2 := Za ColV.c b.1
   have j1 := Za Val.c b.2
   refine ⟨?_, j3⟩
   obtain ⟨bs, br⟩ := b
   simp only at e1 e2 j2 j1 hq
   rw [hq] at e1
   cases i with
   | zero =>
     have hf := hI.first rfl
     simp only at hf
     subst hf
     unfold rwS
     rw [if_pos rfl, if_neg (by omega)]
     simp only [Zc, Zis, Zc2, go_sem, dL, hr, hlt, hw, e1, e2, j1, Z9, Zj, dM]
   | succ i =>
     unfold rwS
     rw [if_neg (by omega), if_neg (by omega)]
     simp only [Zc, Zis, Zc2, go_sem, dL, hr, hlt, hw, e1, e2, j2, j1, Z9, Zj, dM]
 . have hi : ¬ cs.length < cs.length := by omega
   obtain ⟨bs, br⟩ := b
   unfold rwS
   split
   . simp only [Zc, Zis, Zc2, go_sem, hi]
     exact ⟨_, rfl, _, _, rfl, rfl, rfl⟩
   . simp only [Zc, Zis, Zc2, go_sem, hi]
     exact ⟨_, rfl, _, _, rfl, rfl, rfl⟩
theorem Zo2 {D : Nat} (hD : 6 <= D) (s : List ColV) (cs : List Chg) (row : List Val) (hc : ∀ c ∈ cs, SmallG c) (hcl : cs.length <= big) (I : RwI s cs 0 (s, row)) :
 den pr D Y0j [.lit Z0 (s.map ColV.c), .lit Z3 (cs.map Chg.c), .lit Z2 (row.map Val.c)] = some [.olit Z2 ((Zeu s cs row).map Val.c)] := by
 obtain ⟨D, rfl, hd⟩ := Zd hD
 rw [Ye4]
 have e0 := Zb9 (show 2 <= D by omega) (row.map Val.c) (by rw [dL]; have := I.len; have := I.clen; simp only at *; omega)
 obtain ⟨out, lo, lp⟩ := Zjo hd s cs row hc hcl I
 unfold rwS at lo
 rw [if_pos rfl, show ((0 : Nat) : Int) = 0 from rfl] at lo
 simp only at lp lo
 obtain ⟨U', m, rfl, l1, l2⟩ := lp
 have j0 : ((Zgd (s, row) cs).2.map Val.c).take (Zgd (s, row) cs).2.length = (Zgd (s, row) cs).2.map Val.c := dN (by simp)
 simp only [Y6h, go_sem, e0, lo, l1, l2, dL, Zj, j0, Zeu]
end Go.Vm.T
namespace Go.Vm.T
structure RowV where
 id : Int
 ver : Int
 vals : List Val
 deriving DecidableEq
abbrev RowV.c (r : RowV) : List A := [.n r.id, .n r.ver, .lit Z2 (r.vals.map Val.c)]
structure Tab where
 first : List ColV
 chg : List Chg
 rows : List RowV
 next : Int
 deriving DecidableEq
abbrev Tab.c (t : Tab) : List A := [.lit Z0 (t.first.map ColV.c), .lit Z3 (t.chg.map Chg.c), .lit Z4 (t.rows.map RowV.c), .n t.next]
structure SmallT (t : Tab) : Prop where
 cols : SmallC t.first
 clen : t.first.length + 1 <= big
 chg : ∀ c ∈ t.chg, SmallG c
 glen : t.chg.length <= big
 rlen : t.rows.length <= big
 vals : ∀ r ∈ t.rows, Vk r.vals /\ r.vals.length + 1 <= big
def rOk (s : List ColV) (i : Nat) (v : Val) : Bool := match s[i]? with
 | some c => Z0i v && (Zjg v c.k && !(c.need && decide (v.k = 0)))
 | none => false
def Zxm (s : List ColV) (i : Nat) (_ : Unit) (v : Val) : Unit ⊕ Unit := bif rOk s i v then .inl () else .inr ()
def Z5s (s : List ColV) (row : List Val) : Bool := decide (row.length = s.length) && (match Zz (Zxm s) 0 () row with | .inl _ => true | .inr _ => false)
variable [Pr1]
theorem Y1t {D : Nat} (hD : 2 <= D) (s : List ColV) (row : List Val) (hr : Vk row) (hl : row.length = s.length) (hb : row.length <= big) :
 Vs (Zc (Zg (aH D) Z6h) [0, 12, 13, 14] rounds ⟨upd (upd (upd (upd (fun _ => .bad) 0 (.lit Z0 (s.map ColV.c))) 12 (.lit Z2 (row.map Val.c))) 13 (.n row.length)) 14 (.n (0 : Nat)), fun _ => none, 0, 0⟩) Unit Unit (Zz (Zxm s) 0 () row)
  (fun _ o => ∃ U', o = .exit 0 U') (fun _ o => ∃ U', o = .ret U' /\ U'.s 4 = .q false) := by
 refine Zw row (fun i (_ : Unit) => ⟨upd (upd (upd (upd (fun _ => .bad) 0 (.lit Z0 (s.map ColV.c))) 12 (.lit Z2 (row.map Val.c))) 13 (.n row.length)) 14 (.n i), fun _ => none, 0, 0⟩) (Zxm s) (fun _ _ => True) _ _ () trivial hb (fun i _ v K hv hlt _ => ?_) (fun _ K _ => ?_)
 . have hx := Zu (f := Val.c) hv
   have hw := Zn (n := i) (by unfold big at hb; omega)
   have hs : s[i]? = some s[i] := dP (by omega)
   unfold Zxm rOk
   rw [hs]
   generalize s[i] = c at hs
   have hc := Zu (f := ColV.c) hs
   have j0 : i < s.length := by omega
   have e1 := Zfp hD v (hr v (dU hv))
   have e2 := Y4t (show 1 <= D by omega) v c.k
   obtain ⟨vk, vn, vt⟩ := v
   obtain ⟨cn, ck, need, once, cd⟩ := c
   simp only at e1 e2 ⊢
   generalize Z0i ⟨vk, vn, vt⟩ = q1 at *
   generalize Zjg ⟨vk, vn, vt⟩ ck = q2 at *
   cases q1 with
   | false =>
     simp only [Zc, Z0a, Wp, go_sem, hx, hlt, e1, e2, hc]
     exact ⟨_, rfl, _, rfl, rfl⟩
   | true =>
     cases q2 with
     | false =>
       simp only [Zc, Z0a, Wp, go_sem, hx, hlt, e1, e2, hc]
       exact ⟨_, rfl, _, rfl, rfl⟩
     | true =>
       cases need with
       | false =>
         simp only [Zc, Z0a, Wp, go_sem, hx, hlt, hw, e1, e2, hc]
       | true =>
         rcases pf (vk = 0) with h0 | h0
         . simp only [Zc, Z0a, Wp, go_sem, hx, hlt, e1, e2, hc, h0]
           exact ⟨_, rfl, _, rfl, rfl⟩
         . simp only [Zc, Z0a, Wp, go_sem, hx, hlt, hw, e1, e2, hc, h0]
 . have hi : ¬ row.length < row.length := by omega
   simp only [Zc, Z0a, Wp, go_sem, hi]
   exact ⟨_, rfl, _, rfl⟩
theorem Zzf {D : Nat} (hD : 3 <= D) (s : List ColV) (row : List Val) (hr : Vk row) (hb : row.length <= big) : den pr D Xp [.lit Z0 (s.map ColV.c), .lit Z2 (row.map Val.c)] = some [.q (Z5s s row)] := by
 obtain ⟨D, rfl, hd⟩ := Zd hD
 rw [Zoi]
 unfold Z5s
 by_cases hl : row.length = s.length
 . obtain ⟨out, lo, lp⟩ := Y1t hd s row hr hl hb
   rw [show ((0 : Nat) : Int) = 0 from rfl] at lo
   have j0 : ((row.length : Int) = (s.length : Int)) = True := by rw [hl]; simp
   rw [show decide (row.length = s.length) = true from by simp [hl], eN]
   cases hq : Zz (Zxm s) 0 () row with
   | inl u =>
     rw [hq] at lp
     obtain ⟨U', rfl⟩ := lp
     simp only [Z3g, go_sem, dL, lo, j0]
   | inr u =>
     rw [hq] at lp
     obtain ⟨U', rfl, l2⟩ := lp
     simp only [Z3g, go_sem, dL, lo, l2, j0]
 . have j0 : ((row.length : Int) = (s.length : Int)) = False := eq_false (by omega)
   simp only [Z3g, go_sem, dL, hl, j0]
def Z6m (s : List ColV) (cs : List Chg) : Option (List ColV) := if Zm s = true then chgs s cs else none
theorem Zth {D : Nat} (hD : 7 <= D) (s : List ColV) (cs : List Chg) (hs : SmallC s) (hl : s.length + 1 <= big) (hc : ∀ c ∈ cs, SmallG c) (hcl : cs.length <= big) :
 den pr D Y2x [.lit Z0 (s.map ColV.c), .lit Z3 (cs.map Chg.c)] = some [.olit Z0 (((Z6m s cs).getD []).map ColV.c), .q (Z6m s cs).isSome] := by
 obtain ⟨D, rfl, hd⟩ := Zd hD
 rw [Yed]
 have e1 := Z8f (show 4 <= D by omega) s hs
 have e2 := Zbp hd s cs hs hl hc hcl
 unfold Z6m
 cases h : Zm s with
 | false =>
   rw [h] at e1
   simp only [Y2o, go_sem, e1, eD, if_false, Option.getD_none, fC, dH]
 | true =>
   rw [h] at e1
   simp only [Y2o, go_sem, e1, e2, if_true, Z9]
theorem Ziu {D : Nat} (hD : 7 <= D) (t : Tab) (ht : SmallT t) :
 den pr D Zo3 [.agg t.c] = some [.olit Z0 (((chgs t.first t.chg).getD []).map ColV.c)] := by
 obtain ⟨D, rfl, hd⟩ := Zd hD
 rw [Yec]
 have e2 := Zbp hd t.first t.chg ht.cols ht.clen ht.chg ht.glen
 simp only [Y6n, go_sem, e2, Z9, dL]
def Xv (t : Tab) (r : RowV) : List Val := Zeu ((chgs t.first (t.chg.take r.ver.toNat)).getD []) (t.chg.drop r.ver.toNat) r.vals
structure NowOk (t : Tab) (r : RowV) : Prop where
 lo : 0 <= r.ver
 hi : r.ver <= t.chg.length
 all : (chgs t.first t.chg).isSome = true
 len : r.vals.length = ((chgs t.first (t.chg.take r.ver.toNat)).getD []).length
 vals : Vk r.vals
theorem NowOk.then_ {t : Tab} {r : RowV} (H : NowOk t r) : ∃ s s', chgs t.first (t.chg.take r.ver.toNat) = some s /\ chgs s (t.chg.drop r.ver.toNat) = some s' /\ chgs t.first t.chg = some s' := by
 have h := Zdm t.first (t.chg.take r.ver.toNat) (t.chg.drop r.ver.toNat)
 rw [gV] at h
 have ha := H.all
 cases h1 : chgs t.first (t.chg.take r.ver.toNat) with
 | none => rw [h, h1] at ha; cases ha
 | some s =>
   rw [h1] at h
   cases h2 : chgs s (t.chg.drop r.ver.toNat) with
   | none => rw [h] at ha; simp only [h2] at ha; cases ha
   | some s' => exact ⟨s, s', rfl, h2, by rw [h]; exact h2⟩
theorem Z2q {s s' : List ColV} {cs : List Chg} (hs : SmallC s /\ s.length + 1 <= big) (h : chgs s cs = some s') : SmallC s' /\ s'.length + 1 <= big := by
 cases cs with
 | nil => rw [Zdn] at h; cases h; exact hs
 | cons c cs =>
   rw [Z54] at h
   split at h
   . rename_i hc; exact Yh (Z10 (Zcm hc) h)
   . cases h
theorem Zyf {D : Nat} (hD : 7 <= D) (t : Tab) (ht : SmallT t) (r : RowV) (H : NowOk t r) :
 den pr D Zfz [.agg t.c, .agg r.c] = some [.olit Z2 ((Xv t r).map Val.c)] := by
 obtain ⟨D, rfl, hd⟩ := Zd hD
 rw [Yeu]
 obtain ⟨s, s', h1, h2, h3⟩ := H.then_
 obtain ⟨v, hv⟩ : ∃ v : Nat, r.ver = v := ⟨r.ver.toNat, by have := H.lo; omega⟩
 have j2 : r.ver.toNat = v := by omega
 have hvl : v <= t.chg.length := by have := H.hi; omega
 have j0 := H.len
 unfold Xv
 rw [j2] at h1 h2 j0 ⊢
 rw [h1] at j0 ⊢
 simp only [dB] at j0 ⊢
 have hs := Z2q ⟨ht.cols, ht.clen⟩ h1
 have hg := ht.glen
 have e1 := Zbp hd t.first (t.chg.take v) ht.cols ht.clen (fun c hc => ht.chg c (eZ hc)) (by rw [List.length_take]; omega)
 rw [h1] at e1
 have e2 := Zo2 hd s (t.chg.drop v) r.vals (fun c hc => ht.chg c (eO hc)) (by rw [gD]; omega) ⟨hs.1, hs.2, H.vals, j0, by rw [dG, h2]; rfl, fun _ => rfl⟩
 have m1 : (t.chg.take v).map Chg.c = (t.chg.map Chg.c).take v := gL
 have m2 : (t.chg.drop v).map Chg.c = (t.chg.map Chg.c).drop v := List.map_drop
 rw [m1] at e1
 rw [m2] at e2
 have v0 := eL v
 have vt := eM v
 have j4 : ((t.chg.map Chg.c).drop v).take (t.chg.length - v) = (t.chg.map Chg.c).drop v := dN (by simp)
 have htf : List.take t.chg.length (List.map Chg.c t.chg) = List.map Chg.c t.chg := dN (by simp)
 have hts := Za ColV.c s
 obtain ⟨j5, j3, j1⟩ := r
 simp only at hv e2 ⊢
 subst hv
 simp only [Y7v, go_sem, e1, e2, v0, vt, hvl, hts, htf, dB, Z9, Zj, dL, dM, dE, fG, and_self, if_true, dG, fD]
end Go.Vm.T
end
