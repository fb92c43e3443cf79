/-
  What the functions under the law compute, of shapes and changes
-/
import Derived.Test.YtcceojmajfinpaaGreatDoorFnsA
import Derived.Test.YtcceojmajfinpaaGreatDoorFnsB
section
set_option linter.unusedVariables false
set_option linter.unusedSectionVars false
set_option linter.unusedSimpArgs false
namespace Go.Vm.T
theorem Zc1 (m : Nat) (h : m ≤ 999) : (Lib.decDigits m).length ≤ 3 := by
 rw [Lib.decDigits_length]
 by_cases h1 : m < 10
 · rw [Lib.nDigits_small h1]; omega
 · rw [Lib.nDigits_big h1]
   by_cases h2 : m / 10 < 10
   · rw [Lib.nDigits_small h2]; omega
   · rw [Lib.nDigits_big h2, Lib.nDigits_small (by omega)]; omega
variable [Pr1]
theorem Z9l {a b : ByteArray} (h : a.data = b.data) : a = b := by cases a; cases b; simp at h; rw [h]
def digB (n : Nat) : ByteArray := ⟨[UInt8.ofNat (48 + n)].toArray⟩
theorem decB (n : Nat) (h : 9 < n) (s : ByteArray) : (⟨(Lib.decDigits n).toArray⟩ : ByteArray) ++ s = ⟨(Lib.decDigits (n / 10)).toArray⟩ ++ (digB (n % 10) ++ s) := by
 rw [Lib.decDigits, dif_neg (by omega)]
 apply Z9l
 simp [ByteArray.data_append, digB]
theorem Y4s (n : Nat) (h : n ≤ 9) (s : ByteArray) : (⟨(Lib.decDigits n).toArray⟩ : ByteArray) ++ s = digB n ++ s := by
 rw [Lib.decDigits, dif_pos (by omega)]
 rfl
theorem Ztv {x : Int} {n : Nat} (hn : n ≤ 9) (h : x = n) : (⟨[UInt8.ofNat (IntKind.u8.wrap (IntKind.i64.wrap (48 + x))).toNat].toArray⟩ : ByteArray) = digB n := by
 subst h
 have : IntKind.u8.wrap (IntKind.i64.wrap (48 + (n : Int))) = ((48 + n : Nat) : Int) := by
  rw [wrap_i64 (by omega) (by omega), IntWalk.u8_in _ ⟨by omega, by omega⟩]; omega
 rw [this]
 rfl
theorem Zji (E : Env) : ∀ (m n : Nat) (s : ByteArray) (K : Nat), n < 10 ^ (m + 1) → n ≤ 999 → s.size + m ≤ 2 ^ 20 → m < K →
 ∃ σ' q s', Z9 (exec E Z2z) [0, 3] K ⟨upd (upd (fun _ => .bad) 0 (.n (n : Int))) 3 (.s s), fun _ => none, 0, 0⟩ = some (.exit 0 σ') ∧ σ'.s 0 = .n (q : Nat) ∧ σ'.s 3 = .s s' ∧ σ'.n = 0 ∧ σ'.h = (fun _ => none) ∧ σ'.base = 0 ∧ q ≤ 9 ∧ s'.size ≤ s.size + m ∧ digB q ++ s' = ⟨(Lib.decDigits n).toArray⟩ ++ s
 | m, n, s, K, h1, h2, h3, h4 => by
   obtain ⟨K, rfl⟩ : ∃ j, K = j + 1 := ⟨K - 1, by omega⟩
   by_cases hk : 9 < n
   · have hk' : (9 : Int) < (n : Int) := by omega
     cases m with
     | zero => simp at h1; omega
     | succ m =>
       have hq : IntKind.i64.wrap ((n : Int).tdiv 10) = ((n / 10 : Nat) : Int) := by
        rw [Int.tdiv_eq_ediv_of_nonneg (by omega), wrap_i64 (by omega) (by omega)]; omega
       have hdg : (⟨[UInt8.ofNat (IntKind.u8.wrap (IntKind.i64.wrap (48 + (n : Int).tmod 10))).toNat].toArray⟩ : ByteArray) = digB (n % 10) :=
        Ztv (by omega) (by rw [Int.tmod_eq_emod_of_nonneg (by omega)]; omega)
       have hz1 : (digB (n % 10) ++ s).size = s.size + 1 := by rw [ByteArray.size_append, Nat.add_comm]; rfl
       have hsz : (digB (n % 10)).size + s.size ≤ 2 ^ 62 := by rw [ByteArray.size_append] at hz1; omega
       obtain ⟨σ', q, s', e1, e2, e3, e4, e5, e6, e7, e8, e9⟩ := Zji E m (n / 10) (digB (n % 10) ++ s) K (by rw [Nat.pow_succ] at h1; omega) (by omega) (by rw [hz1]; omega) (by omega)
       refine ⟨σ', q, s', ?_, e2, e3, e4, e5, e6, e7, by rw [hz1] at e8; omega, by rw [decB n hk, e9]⟩
       rw [← e1]
       have hd : (10 : Int) = 0 ↔ False := by decide
       rw [Z9]
       simp only [Z5e, Z0w, go_sem, hk', hd, Z2s, hdg, hq, hsz]
   · have hk' : ¬ (9 : Int) < (n : Int) := by omega
     simp only [Z9, Z5e, Z0w, go_sem, hk']
     exact ⟨_, n, s, rfl, rfl, rfl, rfl, rfl, rfl, by omega, by omega, (Y4s n (by omega) s).symm⟩
theorem Zzs (s : ByteArray) : s ++ (⟨#[]⟩ : ByteArray) = s := Z9l (by simp [ByteArray.data_append])
theorem Zjn {D : Nat} (hD : 1 ≤ D) (n : Nat) (hn : n ≤ 999) : den pr D Xl [.n (n : Int)] = some [.s (Z64 n)] := by
 obtain ⟨D, rfl, hd⟩ := Z8 hD
 rw [Z7x]
 have g0 : ¬ ((n : Int) < -9223372036854775807) := by omega
 have g1 : ¬ ((n : Int) < 0) := by omega
 obtain ⟨σ', q, s', e1, e2, e3, e4, e5, e6, e7, e8, e9⟩ := Zji ⟨den pr D, dcl pr D, dfl pr D⟩ 2 n ⟨#[]⟩ rounds (by omega) hn (by decide) (by unfold rounds; omega)
 have hdg := Ztv e7 rfl
 have hs : s'.size ≤ 2 := e8
 have hz : (digB q).size + s'.size ≤ 2 ^ 62 := by have : (digB q).size = 1 := rfl; omega
 simp only [c_spec_l10Dec, go_sem, g0, g1, e1, e2, e3, e4, e5, e6, Z2s, hdg, hz]
 rw [e9, Zzs]
 unfold Z64 Lib.itoa
 rw [if_neg (by omega)]
 rfl
theorem Zxr {D : Nat} (hD : 2 ≤ D) (n : Int) (h1 : -999 ≤ n) (h2 : n ≤ 999) : den pr D Xl [.n n] = some [.s (Z64 n)] := by
 by_cases h : n < 0
 · obtain ⟨D, rfl, hd⟩ := Z8 (show 1 + 1 ≤ D from hD)
   obtain ⟨m, rfl⟩ : ∃ m : Nat, n = -(m : Int) := ⟨n.natAbs, by omega⟩
   have g0 : ¬ (-(m : Int) < -9223372036854775807) := by omega
   have hw : IntKind.i64.wrap (0 - (-(m : Int))) = (m : Int) := by rw [wrap_i64 (by omega) (by omega)]; omega
   have hd0 := Zjn hd m (by omega)
   have hz : (⟨#[45]⟩ : ByteArray).size + (Z64 m).size ≤ 2 ^ 62 := by
    have h3 : (Z64 m).size = (Lib.decDigits m).length := by
     unfold Z64 Lib.itoa
     rw [if_neg (by omega)]
     rfl
    have := Zc1 m (by omega)
    have h4 : (⟨#[45]⟩ : ByteArray).size = 1 := rfl
    omega
   rw [Z7x]
   simp only [c_spec_l10Dec, go_sem, g0, h, hw, hd0, hz]
   unfold Z64 Lib.itoa
   rw [if_neg (by omega), if_pos h]
   congr 4
   apply Z9l
   simp [ByteArray.data_append]
 · obtain ⟨m, rfl⟩ : ∃ m : Nat, n = (m : Int) := ⟨n.toNat, by omega⟩
   exact Zjn (by omega) m (by omega)
end Go.Vm.T
namespace Go.Vm.T
open Go.Lib
theorem Zhr (b : UInt8) : ∀ (l : List UInt8) (a : Nat), decFrom a (l ++ [b]) = match decFrom a l with | some n => (match digitVal b with | some d => some (n * 10 + d) | none => none) | none => none
 | [], a => by
   simp only [List.nil_append, decFrom]
   cases digitVal b <;> rfl
 | c :: l, a => by
   simp only [List.cons_append, decFrom]
   cases digitVal c with
   | none => rfl
   | some d => exact Zhr b l _
theorem Ztr {b : UInt8} {d : Nat} (h : digitVal b = some d) : d ≤ 9 ∧ decDigits d = [b] := by
 obtain ⟨h1, h2, h3⟩ := digitVal_eq h
 refine ⟨by omega, ?_⟩
 rw [decDigits_one (by omega)]
 congr 1
 apply UInt8.toNat_inj.1
 rw [UInt8.toNat_ofNat']
 omega
theorem canon : ∀ (k : Nat) (l : List UInt8) (m : Nat), l.length = k + 1 → decFrom 0 l = some m → (l.head? = some 48 → k = 0) → decDigits m = l
 | 0, l, m, hl, h, _ => by
   match l, hl with
   | [b], _ =>
     simp only [decFrom] at h
     cases hd : digitVal b with
     | none => rw [hd] at h; cases h
     | some d =>
       rw [hd] at h
       simp only [Option.some.injEq, Nat.zero_mul, Nat.zero_add] at h
       subst h
       exact (Ztr hd).2
 | k + 1, l, m, hl, h, h0 => by
   obtain ⟨l', b, rfl⟩ : ∃ l' b, l = l' ++ [b] := by
    rcases List.eq_nil_or_concat l with h | ⟨l', b, h⟩
    · rw [h] at hl; simp at hl
    · exact ⟨l', b, by rw [h]; simp⟩
   have hl' : l'.length = k + 1 := by simp at hl; omega
   have hhead : (l' ++ [b]).head? = l'.head? := by
    cases l' with
    | nil => simp at hl'
    | cons c r => rfl
   rw [hhead] at h0
   have hne : l'.head? ≠ some 48 := fun q => by have := h0 q; omega
   rw [Zhr] at h
   cases hn : decFrom 0 l' with
   | none => rw [hn] at h; cases h
   | some n =>
     cases hd : digitVal b with
     | none => rw [hn, hd] at h; cases h
     | some d =>
       rw [hn, hd] at h
       simp only [Option.some.injEq] at h
       subst h
       have ih := canon k l' n hl' hn (fun q => absurd q hne)
       obtain ⟨hd9, hdb⟩ := Ztr hd
       have hn0 : n ≠ 0 := fun q => by
        subst q
        rw [decDigits_one (by omega)] at ih
        rw [← ih] at hne
        exact hne rfl
       rw [decDigits, dif_neg (by omega), show (n * 10 + d) / 10 = n by omega, show (n * 10 + d) % 10 = d by omega, ih]
       rw [decDigits_one (by omega)] at hdb
       rw [hdb]
theorem Zb3 {d : Nat} (h : d ≤ 9) : digitVal (UInt8.ofNat (48 + d)) = some d := by
 unfold digitVal
 rw [UInt8.toNat_ofNat']
 rw [if_pos (by omega)]
 congr 1
 omega
theorem Zot (m : Nat) : decFrom 0 (decDigits m) = some m ∧ decDigits m ≠ [] ∧ ((decDigits m).head? = some 48 → m = 0) ∧ ∀ c, (decDigits m).head? = some c → 48 ≤ c.toNat := by
 induction m using Nat.strongRecOn with
 | ind m ih =>
   by_cases h : m < 10
   · rw [decDigits_one h]
     refine ⟨by simp only [decFrom, Zb3 (show m ≤ 9 by omega)]; simp, by simp, fun q => ?_, fun c q => ?_⟩
     · simp only [List.head?_cons, Option.some.injEq] at q
       have := congrArg UInt8.toNat q
       rw [UInt8.toNat_ofNat'] at this
       have h48 : (48 : UInt8).toNat = 48 := rfl
       omega
     · simp only [List.head?_cons, Option.some.injEq] at q
       subst q
       rw [UInt8.toNat_ofNat']
       omega
   · obtain ⟨h1, h2, h3, h4⟩ := ih (m / 10) (by omega)
     rw [decDigits, dif_neg h]
     have hh : (decDigits (m / 10) ++ [UInt8.ofNat (48 + m % 10)]).head? = (decDigits (m / 10)).head? := by
      cases hq : decDigits (m / 10) with
      | nil => exact absurd hq h2
      | cons c r => rfl
     refine ⟨?_, by simp, fun q => ?_, fun c q => h4 c (by rw [← hh]; exact q)⟩
     · rw [Zhr, h1, Zb3 (show m % 10 ≤ 9 by omega)]
       simp only [Option.some.injEq]
       omega
     · rw [hh] at q
       have := h3 q
       omega
theorem Zk3 {neg : Bool} {l : List UInt8} {m : Nat} (h : sDig neg l = some m) : l.length ≠ 0 ∧ decFrom 0 l = some m ∧ (l.head? = some 48 → l.length = 1 ∧ neg = false) := by
 unfold sDig at h
 split at h
 · cases h
 · rename_i hn
   refine ⟨fun q => hn (.inl q), h, fun q => ?_⟩
   by_cases h1 : 1 < l.length
   · exact absurd (.inr (.inr ⟨q, .inl h1⟩)) hn
   · cases neg with
     | true => exact absurd (.inr (.inr ⟨q, .inr rfl⟩)) hn
     | false => exact ⟨by have : l.length ≠ 0 := fun q => hn (.inl q); omega, rfl⟩
theorem Y3k {l : List UInt8} {n : Int} (h : sNum l = some n) : atoi l = some n ∧ itoa n = l := by
 unfold sNum at h
 split at h
 · rename_i h45
   match l, h45 with
   | c :: r, h45 =>
     simp only [List.head?_cons, Option.some.injEq] at h45
     subst h45
     simp only [List.tail_cons] at h
     cases hm : sDig true r with
     | none => rw [hm] at h; cases h
     | some m =>
       rw [hm] at h
       have h : -(m : Int) = n := Option.some.inj h
       subst h
       obtain ⟨h1, h2, h3⟩ := Zk3 hm
       have hd := canon (r.length - 1) r m (by omega) h2 (fun q => by have := h3 q; simp at this)
       have hm0 : m ≠ 0 := fun q => by
        subst q
        rw [decDigits_one (by omega)] at hd
        have := h3 (by rw [← hd]; rfl)
        simp at this
       constructor
       · have : decNat r = some m := by unfold decNat; rw [if_neg (by cases r <;> simp at h1 ⊢)]; exact h2
         simp [atoi, this]
       · unfold itoa
         rw [if_pos (by omega), show (-(m : Int)).natAbs = m by omega, hd]
 · rename_i h45
   cases hm : sDig false l with
   | none => rw [hm] at h; cases h
   | some m =>
     rw [hm] at h
     have h : (m : Int) = n := Option.some.inj h
     subst h
     obtain ⟨h1, h2, h3⟩ := Zk3 hm
     have hd := canon (l.length - 1) l m (by omega) h2 (fun q => by have := h3 q; omega)
     constructor
     · match l, h1 with
       | c :: r, _ =>
         have hc45 : c ≠ 45 := fun q => h45 (by rw [q]; rfl)
         obtain ⟨dv, hdv⟩ := digit_of_decFrom (c :: r) 0 m h2 0 c rfl
         have hc43 : c ≠ 43 := fun q => by subst q; have := digitVal_eq hdv; have h43 : (43 : UInt8).toNat = 43 := rfl; omega
         have hn : decNat (c :: r) = some m := by unfold decNat; rw [if_neg (by simp)]; exact h2
         simp [atoi, hc45, hc43, hn]
     · unfold itoa
       rw [if_neg (by omega), show ((m : Int)).toNat = m by omega, hd]
theorem Zvf {l : List UInt8} {n : Int} (h1 : -999 ≤ n) (h2 : n ≤ 999) (h : itoa n = l) : sNum l = some n := by
 subst h
 unfold itoa
 split
 · rename_i hn
   obtain ⟨m, rfl⟩ : ∃ m : Nat, n = -(m : Int) := ⟨n.natAbs, by omega⟩
   rw [show (-(m : Int)).natAbs = m by omega]
   obtain ⟨b1, b2, b3, b4⟩ := Zot m
   have hl := Zc1 m (by omega)
   unfold sNum sDig
   simp only [List.head?_cons, if_true, List.tail_cons]
   rw [if_neg]
   · rw [b1]; rfl
   · intro q
     rcases q with q | q | ⟨q, _⟩
     · exact b2 (List.length_eq_zero_iff.1 q)
     · omega
     · have := b3 q; omega
 · rename_i hn
   obtain ⟨m, rfl⟩ : ∃ m : Nat, n = (m : Int) := ⟨n.toNat, by omega⟩
   rw [show ((m : Int)).toNat = m by omega]
   obtain ⟨b1, b2, b3, b4⟩ := Zot m
   have hl := Zc1 m (by omega)
   unfold sNum sDig
   rw [if_neg (fun q => by have := b4 _ q; have h45 : (45 : UInt8).toNat = 45 := rfl; omega), if_neg]
   · rw [b1]; rfl
   · intro q
     rcases q with q | q | ⟨q, q2⟩
     · exact b2 (List.length_eq_zero_iff.1 q)
     · omega
     · have := b3 q
       subst this
       rcases q2 with q2 | q2
       · rw [decDigits_one (by omega)] at q2; simp at q2
       · cases q2
theorem Zva (t : ByteArray) : numT t = match sNum t.data.toList with | some n => if inB n (-999) 999 = true then (1, n) else (0, 0) | none => (0, 0) := by
 unfold numT
 cases hs : sNum t.data.toList with
 | some n =>
   obtain ⟨h1, h2⟩ := Y3k hs
   rw [h1]
   simp only [inB, Bool.and_eq_true, decide_eq_true_eq, h2, and_true]
 | none =>
   cases ha : atoi t.data.toList with
   | none => rfl
   | some n =>
     simp only
     rw [if_neg]
     intro h
     have := Zvf h.1 h.2.1 h.2.2
     rw [hs] at this
     cases this
end Go.Vm.T
namespace Go.Vm.T
variable [Pr0]
end Go.Vm.T
namespace Go.Vm.T
variable [Pr0]
end Go.Vm.T
namespace Go.Vm.T
variable [Pr0]
theorem Zae (f : Int → List A) (h : ∀ x, Zi4 (f x) = false) (w : Nat) (k : Int) (n : Nat) : W9 (V6 f w k n) = false := by
 unfold V6
 exact Z2k _ (fun _ => h _) _
end Go.Vm.T
namespace Go.Vm.T
variable [Pr0]
end Go.Vm.T
namespace Go.Vm.T
variable [Pr0]
theorem Zu9 {D : Nat} (hD : 2 ≤ D) (rows : List (List A)) (hl : rows.length ≤ big) : den pr D Znj [.lit Z2 rows] = some [.olit Z2 rows] := by
 obtain ⟨D, rfl, hd⟩ := Z8 hD
 obtain ⟨D, rfl, hd⟩ := Z8 hd
 rw [Y6s]
 have h1 : den pr (D + 1) Zpf [.lit Z2 rows] = some [.olit Z2 rows] := by
  rw [Y5n]
  simp only [Z5f, hl, go_sem]
 have h2 : W9 rows = true ∨ W9 rows = false := by cases W9 rows <;> simp
 rcases h2 with h2 | h2 <;> simp only [c_q47, go_sem, h1, h2, Y7j, c_q85, Nat.le_refl, Nat.zero_le, Nat.sub_zero, Option.isSome_some, frz]
def offL {α : Type} (i : Nat) (l : List α) : List α := l.take i ++ l.drop (i + 1)
theorem Z0v {α : Type} {i : Nat} {l : List α} (h : i < l.length) : (offL i l).length = l.length - 1 := by
 unfold offL
 simp
 omega
theorem Zo6 {α β : Type} (f : α → β) (i : Nat) (l : List α) : offL i (l.map f) = (offL i l).map f := by simp [offL]
end Go.Vm.T
namespace Go.Vm.T
variable [Pr0]
structure ColV where
 nm : ByteArray
 k : Int
 need : Bool
 once : Bool
 df : Val
 deriving DecidableEq
abbrev ColV.c (c : ColV) : List A := [.s c.nm, .n c.k, .q c.need, .q c.once, .n c.df.k, .n c.df.n, .s c.df.t]
structure CondV where
 nm : ByteArray
 how : Int
 v : Val
 deriving DecidableEq
abbrev CondV.c (c : CondV) : List A := [.s c.nm, .n c.how, .n c.v.k, .n c.v.n, .s c.v.t]
abbrev colW : ColV → Nat := fun c => c.nm.size + c.df.t.size
abbrev zCol : List A := [.s ⟨#[]⟩, .n 0, .q false, .q false, .n 0, .n 0, .s ⟨#[]⟩]
theorem Zrf {l : Int} (a b : Nat) (h : ¬ dec l a < 0) : dec (dec l a) b = dec l (a + b) := by
 obtain ⟨h1, h2⟩ := Zbc h
 rw [h1]
 unfold dec
 have : l - (a : Int) - b = l - ((a + b : Nat) : Int) := by omega
 rw [this]
theorem Zkb {l : Int} (a b : Nat) (h : dec l a < 0) : dec l (a + b) = -1 := by
 unfold dec at *
 by_cases hn : l - (a : Int) < 0
 · rw [if_pos (by omega)]
 · rw [if_neg hn] at h; omega
theorem Zt6 {D : Nat} (hD : 2 ≤ D) (e : ColV) (l : Int) (h0 : 0 ≤ l) (h1 : l ≤ cap) (hv : e.nm.size ≤ maxLen ∧ e.df.t.size ≤ maxLen) : den pr D Wu [.agg e.c, .n l] = some [.n (dec l (colW e))] := by
 obtain ⟨D, rfl, hd⟩ := Z8 hD
 rw [Ziv]
 have hw : IntKind.i64.wrap (l - (e.nm.size : Int)) = l - e.nm.size := wrap_i64 (by unfold maxLen at hv; omega) (by unfold cap at h1; omega)
 by_cases h : l - (e.nm.size : Int) < 0
 · have h2 : dec l (colW e) = -1 := Zkb _ _ (by unfold dec; rw [if_pos h]; decide)
   simp only [c_laws_szCol, go_sem, hw, h, h2]
 · have hx : dec l e.nm.size = l - e.nm.size := by unfold dec; rw [if_neg h]
   have hs := Ztk hd e.df (l - e.nm.size) (by omega) (by omega) hv.2
   have hdd : dec (l - e.nm.size) e.df.t.size = dec l (colW e) := by rw [← hx]; exact Zrf _ _ (by rw [hx]; exact h)
   rw [hdd] at hs
   by_cases h3 : dec l (colW e) < 0
   · have h4 : (-1 : Int) < 0 := by decide
     have h5 := Zms h3
     simp only [c_laws_szCol, go_sem, hw, h, hs, h5, h4]
   · simp only [c_laws_szCol, go_sem, hw, h, hs, h3]
theorem Zuf {D : Nat} (hD : 2 ≤ D) (e : ColV) : den pr D V0 [.agg e.c] = some [.agg e.c] := by
 obtain ⟨D, rfl, hd⟩ := Z8 hD
 have h1 := Zrv hd e.df
 rw [Zje]
 simp only [c_laws_toCol, go_sem, h1]
theorem Zu6 {D : Nat} (hD : 2 ≤ D) (e : ColV) : den pr D Ww [.agg e.c, .agg e.c] = some [.q true] := by
 obtain ⟨D, rfl, hd⟩ := Z8 hD
 have h1 := Zlq hd e.df
 rw [Zia]
 simp only [c_laws_eqCol, go_sem, h1]
theorem Zs6 {D : Nat} (hD : 2 ≤ D) (es : List ColV) (l : Int) (h0 : 0 ≤ l) (h1 : l ≤ cap) (hl : es.length ≤ big) (hs : ∀ e ∈ es, e.nm.size ≤ maxLen ∧ e.df.t.size ≤ maxLen) :
 Xr (Z9 (exec ⟨den pr D, dcl pr D, dfl pr D⟩ Z2v) [0, 1, 5] rounds ⟨upd (upd (upd (fun _ => .bad) 0 (.lit Ya (es.map ColV.c))) 1 (.n l)) 5 (.n (0 : Nat)), fun _ => none, 0, 0⟩) Int Unit (runI (szGo colW) 0 l es)
  (fun m o => ∃ σ', o = .exit 0 σ' ∧ σ'.s 1 = .n m) (fun _ o => ∃ σ', o = .ret σ' ∧ σ'.s 4 = .n (-1)) := by
 refine Zh es (fun i (m : Int) => ⟨upd (upd (upd (fun _ => .bad) 0 (.lit Ya (es.map ColV.c))) 1 (.n m)) 5 (.n i), fun _ => none, 0, 0⟩) _ (fun _ m => 0 ≤ m ∧ m ≤ cap) _ _ l ⟨h0, h1⟩ hl (fun i m e K hc hlt hi => ?_) (fun m K _ => ?_)
 · have hr := Zq (f := ColV.c) hc
   have hw := Zf (n := i) (by unfold big at hl; omega)
   have hm := Zt6 hD e m hi.1 hi.2 (hs e (List.mem_of_getElem? hc))
   simp only [Z9, Z5b, Z1e, go_sem, List.length_map, hr, hlt, hw, hm, szGo]
   by_cases h : dec m (colW e) < 0
   · simp only [h, go_sem]; exact ⟨_, rfl, _, rfl, rfl⟩
   · obtain ⟨h4, h5⟩ := Zbc h
     simp only [h, go_sem]
     exact ⟨by omega, by omega⟩
 · have hi : ¬ es.length < es.length := by omega
   simp only [Z9, Z5b, Z1e, go_sem, List.length_map, hi]
   exact ⟨_, rfl, _, rfl, rfl⟩
theorem Zom {D : Nat} (hD : 3 ≤ D) (es : List ColV) (l : Int) (h0 : 0 ≤ l) (h1 : l ≤ cap) (hl : es.length ≤ maxLen) (hs : ∀ e ∈ es, e.nm.size ≤ maxLen ∧ e.df.t.size ≤ maxLen) :
 den pr D V8 [.lit Ya (es.map ColV.c), .n l] = some [.n (Wm colW l es)] := by
 obtain ⟨D, rfl, hd⟩ := Z8 hD
 rw [Zf9]
 have hw : IntKind.i64.wrap (l - (es.length : Int)) = l - es.length := wrap_i64 (by unfold maxLen at hl; omega) (by unfold cap at h1; omega)
 simp only [c_laws_szColS, go_sem, List.length_map, hw, Wm]
 by_cases h : l - (es.length : Int) < 0
 · simp only [h, go_sem]
 · have hb : es.length ≤ big := by unfold cap at h1; unfold big; omega
   obtain ⟨out, lo, lp⟩ := Zs6 hd es (l - es.length) (by omega) (by omega) hb hs
   rw [show ((0 : Nat) : Int) = 0 from rfl] at lo
   rw [Z62] at lp
   cases hq : Z7q colW (l - es.length) es with
   | some m =>
     rw [hq] at lp
     obtain ⟨σ', rfl, l2⟩ := lp
     simp only [h, go_sem, lo, l2, Option.getD_some]
   | none =>
     rw [hq] at lp
     obtain ⟨σ', rfl, l2⟩ := lp
     simp only [h, go_sem, lo, l2, Option.getD_none]
theorem Zsc {D : Nat} (hD : 2 ≤ D) (es : List ColV) (hl : es.length ≤ big) :
 Xr (Z9 (exec ⟨den pr D, dcl pr D, dfl pr D⟩ Z30) [0, 3, 4] rounds ⟨upd (upd (upd (fun _ => .bad) 0 (.lit Ya (es.map ColV.c))) 3 (.ref Z0 0 0 es.length es.length true)) 4 (.n (0 : Nat)), upd (fun _ => none) 0 (some ⟨Z0, frow zCol (es.map ColV.c) 0, true, false⟩), 1, 0⟩) Unit Unit (runI (fun _ _ _ => .inl ()) 0 () es)
  (fun m o => ∃ σ', o = .exit 0 σ' ∧ σ'.s 3 = .ref Z0 0 0 es.length es.length true ∧ σ'.h 0 = some ⟨Z0, es.map ColV.c, true, false⟩) (fun _ o => False) := by
 refine Zh es (fun i (_ : Unit) => ⟨upd (upd (upd (fun _ => .bad) 0 (.lit Ya (es.map ColV.c))) 3 (.ref Z0 0 0 es.length es.length true)) 4 (.n i), upd (fun _ => none) 0 (some ⟨Z0, frow zCol (es.map ColV.c) i, true, false⟩), 1, 0⟩) _ (fun _ _ => True) _ _ () trivial hl (fun i m e K hc hlt hi => ?_) (fun m K _ => ?_)
 · have hr := Zq (f := ColV.c) hc
   have hw := Zf (n := i) (by unfold big at hl; omega)
   have hm := Zuf hD e
   have hf : (frow zCol (es.map ColV.c) i)[i]? = some zCol := Zhj (by simpa using hlt)
   have hs := Zau (z := zCol) hr
   have hlen : (frow zCol (es.map ColV.c) i).length = es.length := by rw [Z4i (by simp; omega)]; simp
   simp only [Z9, Z5v, Z1c, go_sem, List.length_map, hr, hlt, hw, hm, hf, hs, hlen]
 · have hi : ¬ es.length < es.length := by omega
   have ha := Zb0 zCol (es.map ColV.c)
   rw [List.length_map] at ha
   simp only [Z9, Z5v, Z1c, go_sem, List.length_map, hi, ha]
   exact ⟨_, rfl, _, rfl, rfl, rfl⟩
theorem Zwh {D : Nat} (hD : 3 ≤ D) (es : List ColV) (hl : es.length ≤ big) : den pr D V5 [.lit Ya (es.map ColV.c)] = some [.olit Z0 (es.map ColV.c)] := by
 obtain ⟨D, rfl, hd⟩ := Z8 hD
 rw [Zh0]
 obtain ⟨out, lo, lp⟩ := Zsc hd es hl
 rw [Wo] at lp
 obtain ⟨σ', rfl, l2, l3⟩ := lp
 rw [show ((0 : Nat) : Int) = 0 from rfl, Z8q, List.length_map] at lo
 simp only [c_laws_toColS, go_sem, List.length_map, hl, lo, l2, l3]
theorem Zrl {D : Nat} (hD : 2 ≤ D) (es : List ColV) (hl : es.length ≤ big) :
 Xr (Z9 (exec ⟨den pr D, dcl pr D, dfl pr D⟩ Z2o) [0, 1, 5] rounds ⟨upd (upd (upd (fun _ => .bad) 0 (.lit Z0 (es.map ColV.c))) 1 (.lit Z0 (es.map ColV.c))) 5 (.n (0 : Nat)), fun _ => none, 0, 0⟩) Unit Unit (runI (fun _ _ _ => .inl ()) 0 () es)
  (fun m o => ∃ σ', o = .exit 0 σ') (fun _ o => False) := by
 refine Zh es (fun i (_ : Unit) => ⟨upd (upd (upd (fun _ => .bad) 0 (.lit Z0 (es.map ColV.c))) 1 (.lit Z0 (es.map ColV.c))) 5 (.n i), fun _ => none, 0, 0⟩) _ (fun _ _ => True) _ _ () trivial hl (fun i m e K hc hlt hi => ?_) (fun m K _ => ?_)
 · have hr := Zq (f := ColV.c) hc
   have hw := Zf (n := i) (by unfold big at hl; omega)
   have hm := Zu6 hD e
   simp only [Z9, Z5n, Z19, go_sem, List.length_map, hr, hlt, hw, hm]
 · have hi : ¬ es.length < es.length := by omega
   simp only [Z9, Z5n, Z19, go_sem, List.length_map, hi]
   exact ⟨_, rfl, _, rfl⟩
theorem Zxp {D : Nat} (hD : 3 ≤ D) (es : List ColV) (hl : es.length ≤ big) : den pr D Vg [.lit Z0 (es.map ColV.c), .lit Z0 (es.map ColV.c)] = some [.q true] := by
 obtain ⟨D, rfl, hd⟩ := Z8 hD
 rw [Zfb]
 obtain ⟨out, lo, lp⟩ := Zrl hd es hl
 rw [Wo] at lp
 obtain ⟨σ', rfl⟩ := lp
 rw [show ((0 : Nat) : Int) = 0 from rfl] at lo
 simp only [c_laws_eqColS, go_sem, List.length_map, lo]
end Go.Vm.T
namespace Go.Vm.T
variable [Pr0]
def badN (c : UInt8) : Bool := decide ((c.toNat : Int) < 97) || decide (122 < (c.toNat : Int))
def nmL (l : List UInt8) : Bool := l.all fun c => !badN c
theorem Zlp : ∀ (l : List UInt8) (i : Nat), (runI (fun _ (_ : Unit) c => if badN c then .inr () else .inl ()) i () l : Unit ⊕ Unit) = if nmL l then .inl () else .inr ()
 | [], i => rfl
 | c :: l, i => by
   unfold runI
   have : nmL (c :: l) = (!badN c && nmL l) := rfl
   rw [this]
   cases badN c with
   | true => rfl
   | false => simp only [Bool.false_eq_true, if_false, Bool.not_false, Bool.true_and]; exact Zlp l (i + 1)
def isNm (t : ByteArray) : Bool := bif nmL t.data.toList then inB t.size 1 3 else false
theorem Ztq (E : Env) (t : ByteArray) (ht : t.size ≤ big) :
 Xr (Z9 (exec E Z2w) [0, 5, 6] rounds ⟨upd (upd (upd (fun _ => .bad) 0 (.s t)) 5 (.n t.size)) 6 (.n (0 : Nat)), fun _ => none, 0, 0⟩) Unit Unit (if nmL t.data.toList then .inl () else .inr ())
  (fun _ o => ∃ σ', o = .exit 0 σ' ∧ σ'.s 0 = .s t) (fun _ o => ∃ σ', o = .ret σ' ∧ σ'.s 2 = .q false) := by
 rw [← Zlp _ 0]
 have hsz : t.size = t.data.toList.length := Z57 t
 refine Zh t.data.toList (fun i (_ : Unit) => ⟨upd (upd (upd (fun _ => .bad) 0 (.s t)) 5 (.n t.size)) 6 (.n i), fun _ => none, 0, 0⟩) _ (fun _ _ => True) _ _ () trivial (by rw [← hsz]; exact ht) (fun i _ c K hc hlt _ => ?_) (fun _ K _ => ?_)
 · have hlt' : i < t.size := by omega
   have hw := Zf (n := i) (by unfold big at ht; omega)
   have hb : (decide ((c.toNat : Int) < 97) || decide (122 < (c.toNat : Int))) = badN c := rfl
   simp only [Z9, Z5z, Z0x, go_sem, hc, hlt', hw, hb]
   cases badN c with
   | true => exact ⟨_, rfl, _, rfl, rfl⟩
   | false => exact rfl
 · have hi : ¬ t.data.toList.length < t.size := by omega
   simp only [Z9, Z5z, Z0x, go_sem, hi]
   exact ⟨_, rfl, _, rfl, rfl⟩
theorem Zw1 {D : Nat} (hD : 2 ≤ D) (t : ByteArray) (ht : t.size ≤ big) : den pr D V2 [.s t] = some [.q (isNm t)] := by
 obtain ⟨D, rfl, hd⟩ := Z8 hD
 rw [Zgh]
 obtain ⟨out, lo, lp⟩ := Ztq ⟨den pr D, dcl pr D, dfl pr D⟩ t ht
 rw [show ((0 : Nat) : Int) = 0 from rfl] at lo
 have h1 := d_in hd
 unfold isNm
 cases hl : nmL t.data.toList with
 | true =>
   rw [hl] at lp
   obtain ⟨σ', rfl, l2⟩ := lp
   simp only [c_impl_isName, go_sem, lo, l2, h1]
 | false =>
   rw [hl] at lp
   obtain ⟨σ', rfl, l2⟩ := lp
   simp only [c_impl_isName, go_sem, lo, l2]
theorem Zsq (E : Env) (t : ByteArray) (ht : t.size ≤ big) :
 Xr (Z9 (exec E Z2t) [0, 3] rounds ⟨upd (upd (fun _ => .bad) 0 (.s t)) 3 (.n (0 : Nat)), fun _ => none, 0, 0⟩) Unit Unit (if nmL t.data.toList then .inl () else .inr ())
  (fun _ o => ∃ σ', o = .exit 0 σ' ∧ σ'.s 0 = .s t) (fun _ o => ∃ σ', o = .ret σ' ∧ σ'.s 2 = .q false) := by
 rw [← Zlp _ 0]
 have hsz : t.size = t.data.toList.length := Z57 t
 refine Zh t.data.toList (fun i (_ : Unit) => ⟨upd (upd (fun _ => .bad) 0 (.s t)) 3 (.n i), fun _ => none, 0, 0⟩) _ (fun _ _ => True) _ _ () trivial (by rw [← hsz]; exact ht) (fun i _ c K hc hlt _ => ?_) (fun _ K _ => ?_)
 · have hlt' : i < t.size := by omega
   have hw := Zf (n := i) (by unfold big at ht; omega)
   have hb : (decide ((c.toNat : Int) < 97) || decide (122 < (c.toNat : Int))) = badN c := rfl
   simp only [Z9, Z5p, Z0z, go_sem, hc, hlt', hw, hb]
   cases badN c with
   | true => exact ⟨_, rfl, _, rfl, rfl⟩
   | false => exact rfl
 · have hi : ¬ t.data.toList.length < t.size := by omega
   simp only [Z9, Z5p, Z0z, go_sem, hi]
   exact ⟨_, rfl, _, rfl, rfl⟩
theorem Zx0 {D : Nat} (hD : 1 ≤ D) (t : ByteArray) (ht : t.size ≤ big) : den pr D V7 [.s t] = some [.q (isNm t)] := by
 obtain ⟨D, rfl, hd⟩ := Z8 hD
 rw [Zgr]
 obtain ⟨out, lo, lp⟩ := Zsq ⟨den pr D, dcl pr D, dfl pr D⟩ t ht
 rw [show ((0 : Nat) : Int) = 0 from rfl] at lo
 unfold isNm
 cases hl : nmL t.data.toList with
 | true =>
   rw [hl] at lp
   obtain ⟨σ', rfl, l2⟩ := lp
   simp only [c_spec_l2Name, go_sem, lo, l2, inB]
 | false =>
   rw [hl] at lp
   obtain ⟨σ', rfl, l2⟩ := lp
   simp only [c_spec_l2Name, go_sem, lo, l2]
theorem pf (P : Prop) : P = True ∨ P = False := by
 by_cases h : P
 · exact .inl (eq_true h)
 · exact .inr (eq_false h)
def fitK (v : Val) (k : Int) : Bool := decide (v.k = 0) || decide (v.k = k)
def Zbz (c : ColV) : Bool := isNm c.nm && inB c.k 1 2 && Z31 c.df && fitK c.df c.k && (!c.once || decide (c.df.k = 0))
theorem Zyj {D : Nat} (hD : 1 ≤ D) (v : Val) (k : Int) : den pr D Zhz [.agg v.c, .n k] = some [.q (fitK v k)] := by
 obtain ⟨D, rfl, hd⟩ := Z8 hD
 rw [Y50]
 simp only [c_q93, go_sem, fitK]
theorem Y1a {D : Nat} (hD : 3 ≤ D) (c : ColV) (h1 : c.nm.size ≤ big) (h2 : c.df.t.size ≤ big) : den pr D Vv [.agg c.c] = some [.q (Zbz c)] := by
 obtain ⟨D, rfl, hd⟩ := Z8 hD
 rw [Zj9]
 have e1 := Zw1 (show 2 ≤ D by omega) c.nm h1
 have e2 := d_in (show 1 ≤ D by omega) c.k 1 2
 have e3 := Zgf (show 2 ≤ D by omega) c.df h2
 have e4 := Zyj (show 1 ≤ D by omega) c.df c.k
 unfold Zbz
 generalize isNm c.nm = p1 at *
 generalize inB c.k 1 2 = p2 at *
 generalize Z31 c.df = p3 at *
 generalize fitK c.df c.k = p4 at *
 cases p1 <;> cases p2 <;> cases p3 <;> cases p4 <;> simp only [c_impl_ColOk, go_sem, e1, e2, e3, e4]
theorem Zyz (k : Int) : (decide (k = 1) || decide (k = 2)) = inB k 1 2 := by
 unfold inB
 by_cases h1 : k = 1
 · simp [h1]
 · by_cases h2 : k = 2
   · simp [h2]
   · simp only [h1, h2, decide_false, Bool.or_self]
     symm
     rw [Bool.and_eq_false_iff, decide_eq_false_iff_not, decide_eq_false_iff_not]
     omega
theorem Zks {D : Nat} (hD : 3 ≤ D) (c : ColV) (h1 : c.nm.size ≤ big) (h2 : c.df.t.size ≤ big) : den pr D Z02 [.agg c.c] = some [.q (Zbz c)] := by
 obtain ⟨D, rfl, hd⟩ := Z8 hD
 rw [Ziq]
 have e1 := Zx0 (show 1 ≤ D by omega) c.nm h1
 have e3 := Z58 (show 2 ≤ D by omega) c.df h2
 have e4 := Zyz c.k
 have e5 : (decide (c.df.k = 0) || decide (c.df.k = c.k)) = fitK c.df c.k := rfl
 unfold Zbz
 rw [← e4, ← e5]
 generalize isNm c.nm = p1 at *
 generalize Z31 c.df = p3 at *
 cases p1 <;> cases p3 <;> simp only [c_spec_ColOk, go_sem, e1, e3]
 rcases pf (c.k = 1) with q1 | q1 <;> rcases pf (c.k = 2) with q2 | q2 <;> rcases pf (c.df.k = 0) with q3 | q3 <;> rcases pf (c.df.k = c.k) with q4 | q4 <;> simp only [q1, q2, q3, q4, go_sem]
end Go.Vm.T
namespace Go.Vm.T
def zV : Val := ⟨0, 0, ⟨#[]⟩⟩
def numV (t : ByteArray) : Val := ⟨(numT t).1, (numT t).2, ⟨#[]⟩⟩
def Z23 (v : Val) (k : Int) : Val :=
 if Z31 v = false ∨ v.k = 0 ∨ inB k 1 2 = false then zV else if v.k = k then v else if k = 2 then ⟨2, 0, Z64 v.n⟩ else numV v.t
theorem Z5r {v : Val} (h : Z31 v = true) (h1 : v.k = 1) : -999 ≤ v.n ∧ v.n ≤ 999 ∧ v.t = ⟨#[]⟩ := by
 unfold Z31 at h
 simp [h1, inB] at h
 exact ⟨h.1.1, h.1.2, h.2⟩
theorem Zel {v : Val} (h : Z31 v = true) (h1 : v.k = 2) : v.n = 0 ∧ v.t.size ≤ 4 ∧ okL v.t.data.toList = true := by
 unfold Z31 at h
 simp [h1] at h
 refine ⟨h.2.1, by have := h.2.2; omega, h.1⟩
theorem Z2j {v : Val} (h : Z31 v = true) : v.k = 0 ∨ v.k = 1 ∨ v.k = 2 := by
 unfold Z31 at h
 by_cases h0 : v.k = 0
 · exact .inl h0
 · by_cases h1 : v.k = 1
   · exact .inr (.inl h1)
   · by_cases h2 : v.k = 2
     · exact .inr (.inr h2)
     · simp [h0, h1, h2] at h
theorem in12 {k : Int} (h : inB k 1 2 = true) : k = 1 ∨ k = 2 := by
 simp [inB] at h; omega
variable [Pr1]
theorem Zwu {D : Nat} (hD : 1 ≤ D) (t : ByteArray) (ht : t.size ≤ 18) : den pr D Yf [.s t] = some [.agg (numV t).c] := by
 obtain ⟨D, rfl, hd⟩ := Z8 hD
 rw [Zgw]
 simp only [numF, ht, if_true, numV]
theorem Zuy {D : Nat} (hD : 3 ≤ D) (v : Val) (k : Int) (ht : v.t.size ≤ big) : den pr D W7 [.agg v.c, .n k] = some [.agg (Z23 v k).c] := by
 obtain ⟨D, rfl, hd⟩ := Z8 hD
 rw [Zjg]
 have e1 := Zgf (show 2 ≤ D by omega) v ht
 have e2 := d_in (show 1 ≤ D by omega) k 1 2
 have ei : ∀ n : Int, -999 ≤ n ∧ n ≤ 999 → den pr D We [.n n] = some [.s (Z64 n)] := fun n hn => by
  obtain ⟨D, rfl, hd⟩ := Z8 (show 1 + 1 ≤ D by omega)
  rw [Z6r]
  have : -9223372036854775808 ≤ n ∧ n ≤ 9223372036854775807 := by omega
  simp only [Zpq, this, and_self, if_true]
 have en : v.t.size ≤ 4 → den pr D Yf [.s v.t] = some [.agg (numV v.t).c] := fun h => Zwu (by omega) _ (by omega)
 unfold Z23
 cases h1 : Z31 v with
 | false =>
   rw [h1] at e1
   simp only [c_impl_ValAs, go_sem, e1, e2, true_or, if_true, zV]
 | true =>
   rw [h1] at e1
   rcases pf (v.k = 0) with h2 | h2
   · simp only [c_impl_ValAs, go_sem, e1, e2, h2, true_or, or_true, if_true, zV]
   · cases h3 : inB k 1 2 with
     | false =>
       rw [h3] at e2
       simp only [c_impl_ValAs, go_sem, e1, e2, h2, true_or, or_true, if_true, zV]
     | true =>
       rw [h3] at e2
       rcases pf (v.k = k) with h4 | h4
       · simp only [c_impl_ValAs, go_sem, e1, e2, h2, h4, or_false, false_or, Bool.true_eq_false, if_false, if_true]
       · rcases pf (k = 2) with h5 | h5
         · have hk : v.k = 1 := by
            rcases Z2j h1 with q | q | q
            · exact absurd q (by rw [h2]; exact id)
            · exact q
            · exact absurd (q.trans (of_eq_true h5).symm) (by rw [h4]; exact id)
           have ei' := ei v.n (by have := Z5r h1 hk; omega)
           simp only [c_impl_ValAs, go_sem, e1, e2, h2, h4, h5, ei', or_false, false_or, Bool.true_eq_false, if_false, if_true]
         · have hk : v.k = 2 := by
            rcases in12 h3 with q | q
            · rcases Z2j h1 with p | p | p
              · exact absurd p (by rw [h2]; exact id)
              · exact absurd (p.trans q.symm) (by rw [h4]; exact id)
              · exact p
            · exact absurd q (by rw [h5]; exact id)
           have en' := en (Zel h1 hk).2.1
           simp only [c_impl_ValAs, go_sem, e1, e2, h2, h4, h5, en', or_false, false_or, Bool.true_eq_false, if_false, if_true]
theorem Zkc {D : Nat} (hd : 2 ≤ D) (v : Val) (hk : v.k = 2) (r1 : Int) (r2 : Bool) (e1 : den pr D X9 [.agg v.c] = some [.q true]) (e2 : den pr D Xk [.s v.t] = some [.n r1, .q r2]) (e3 : den pr D W6 [.n r1] = some [.q (inB r1 (-999) 999)]) :
 endO (exec ⟨den pr D, dcl pr D, dfl pr D⟩ c_spec_ValAs.code ⟨slots [.agg v.c, .n 1], fun _ => none, 0, 0⟩) (res c_spec_ValAs.res) = some [.agg (Val.c ⟨(if (r2 && inB r1 (-999) 999) = true then ((1 : Int), r1) else (0, 0)).1, (if (r2 && inB r1 (-999) 999) = true then ((1 : Int), r1) else (0, 0)).2, ⟨#[]⟩⟩)] := by
 obtain ⟨vk, vn, vt⟩ := v
 simp only at hk e2
 subst hk
 have g1 : ¬ ((1 : Int) < 1) := by decide
 have g2 : ¬ ((2 : Int) < 1) := by decide
 have g3 : ¬ ((2 : Int) = 0) := by decide
 have g4 : ¬ ((2 : Int) = 1) := by decide
 have g5 : ¬ ((1 : Int) = 2) := by decide
 cases r2 with
 | false => simp only [c_spec_ValAs, go_sem, e1, e2, e3, g1, g2, g3, g4, g5, Bool.false_and, Bool.false_eq_true, if_false]
 | true =>
   cases h7 : inB r1 (-999) 999 with
   | false =>
     rw [h7] at e3
     simp only [c_spec_ValAs, go_sem, e1, e2, e3, g1, g2, g3, g4, g5, Bool.and_false, Bool.false_eq_true, if_false]
   | true =>
     rw [h7] at e3
     simp only [c_spec_ValAs, go_sem, e1, e2, e3, g1, g2, g3, g4, g5, Bool.and_true, if_true]
theorem Zaf {D : Nat} (hD : 3 ≤ D) (v : Val) (k : Int) (ht : v.t.size ≤ big) : den pr D W5 [.agg v.c, .n k] = some [.agg (Z23 v k).c] := by
 obtain ⟨D, rfl, hd⟩ := Z8 hD
 rw [Zkk]
 have e1 := Z58 (show 2 ≤ D by omega) v ht
 have e2 := Zvb (show 1 ≤ D by omega) v.t ht
 have e3 := Z5q (show 1 ≤ D by omega)
 have e4 := Zxr (show 2 ≤ D by omega) v.n
 obtain ⟨r, e2, hr⟩ : ∃ r : Int × Bool, den pr D Xk [.s v.t] = some [.n r.1, .q r.2] ∧ numT v.t = if (r.2 && inB r.1 (-999) 999) = true then (1, r.1) else (0, 0) := by
  rw [e2, Zva]
  cases sNum v.t.data.toList with
  | none => exact ⟨(0, false), rfl, rfl⟩
  | some n => exact ⟨(n, true), rfl, by simp⟩
 unfold Z23 numV
 rw [hr]
 obtain ⟨r1, r2⟩ := r
 simp only at e2 ⊢
 have e3' := e3 r1
 have hin : inB k 1 2 = (!(decide (k < 1)) && !(decide (2 < k))) := by
  rw [Bool.eq_iff_iff]
  simp [inB]
 rw [hin]
 cases h1 : Z31 v with
 | false =>
   rw [h1] at e1
   simp only [c_spec_ValAs, go_sem, e1, e2, true_or, if_true, zV]
 | true =>
   rw [h1] at e1
   rcases pf (k < 1) with h2 | h2
   · simp only [c_spec_ValAs, go_sem, e1, e2, h2, true_or, or_true, if_true, zV]
   · rcases pf (2 < k) with h3 | h3
     · simp only [c_spec_ValAs, go_sem, e1, e2, h2, h3, true_or, or_true, if_true, zV]
     · rcases pf (v.k = 0) with h4 | h4
       · simp only [c_spec_ValAs, go_sem, e1, e2, h2, h3, h4, true_or, or_true, if_true, zV]
       · rcases pf (v.k = k) with h5 | h5
         · simp only [c_spec_ValAs, go_sem, e1, e2, h2, h3, h4, h5, or_false, false_or, Bool.true_eq_false, if_false, if_true]
         · rcases pf (k = 2) with h6 | h6
           · have hk : v.k = 1 := by
              rcases Z2j h1 with q | q | q
              · exact absurd q (by rw [h4]; exact id)
              · exact q
              · exact absurd (q.trans (of_eq_true h6).symm) (by rw [h5]; exact id)
             have ei' := e4 (by have := Z5r h1 hk; omega) (by have := Z5r h1 hk; omega)
             have hk2 := of_eq_true h6
             subst hk2
             simp only [c_spec_ValAs, go_sem, e1, e2, h4, h5, ei', or_false, false_or, Bool.true_eq_false, if_false, if_true]
             try simp
           · have hk1 : k = 1 := by
              have a2 : ¬ k < 1 := by rw [h2]; exact id
              have a3 : ¬ 2 < k := by rw [h3]; exact id
              have a6 : ¬ k = 2 := by rw [h6]; exact id
              omega
             subst hk1
             have hk : v.k = 2 := by
              rcases Z2j h1 with q | q | q
              · exact absurd q (by rw [h4]; exact id)
              · exact absurd q (by rw [h5]; exact id)
              · exact q
             have := Zkc hd v hk r1 r2 e1 e2 (Z5q (show 1 ≤ D by omega) r1)
             rw [this]
             simp only [h4, or_false, false_or, Bool.true_eq_false, if_false, h5, h6, h2, h3, Bool.not_false, Bool.and_self, decide_false, decide_true]
end Go.Vm.T
namespace Go.Vm.T
variable [Pr0]
structure SmallC (cs : List ColV) : Prop where
 len : cs.length ≤ big
 txt : ∀ c ∈ cs, c.nm.size ≤ big ∧ c.df.t.size ≤ big
def nmG (nm : ByteArray) : Nat → Unit → ColV → Unit ⊕ Nat := fun i _ x => bif decide (x.nm = nm) then .inr i else .inl ()
def nmAt (nm : ByteArray) (cs : List ColV) : Option Nat := match runI (nmG nm) 0 () cs with
 | .inl _ => none
 | .inr i => some i
def nmI (nm : ByteArray) (cs : List ColV) : Int := match nmAt nm cs with
 | none => -1
 | some i => i
theorem Y21 (nm : ByteArray) : ∀ (cs : List ColV) (i k : Nat), runI (nmG nm) i () cs = .inr k → i ≤ k ∧ k < i + cs.length
 | [], i, k, h => nomatch h
 | x :: cs, i, k, h => by
   unfold runI nmG at h
   by_cases hx : x.nm = nm
   · simp [hx] at h
     subst h
     simp
   · simp only [hx, decide_false, cond_false] at h
     have := Y21 nm cs (i + 1) k h
     simp only [List.length_cons]
     omega
theorem Z4h {nm : ByteArray} {cs : List ColV} {k : Nat} (h : nmAt nm cs = some k) : k < cs.length := by
 unfold nmAt at h
 cases hr : runI (nmG nm) 0 () cs with
 | inl _ => rw [hr] at h; cases h
 | inr i =>
   rw [hr] at h
   cases h
   have := Y21 nm cs 0 k hr
   omega
theorem Zt0 {D : Nat} (hD : 1 ≤ D) (c : ColV) (nm : ByteArray) : den pr D X0 [.agg c.c, .pl [.s nm] 0] = some [.q (decide (c.nm = nm))] := by
 obtain ⟨D, rfl, hd⟩ := Z8 hD
 rw [Zdk]
 simp only [c_impl_colAt_1, go_sem]
theorem Zik {D : Nat} (hD : 1 ≤ D) (nm : ByteArray) (cs : List ColV) (hl : cs.length ≤ big) :
 Xr (Z9 (exec ⟨den pr D, dcl pr D, dfl pr D⟩ Zmp) [0, 1, 7, 8] rounds ⟨upd (upd (upd (upd (fun _ => .bad) 0 (.lit Z0 (cs.map ColV.c))) 1 (.fn X0 [.pl [.s nm] 0])) 7 (.n cs.length)) 8 (.n (0 : Nat)), fun _ => none, 0, 0⟩) Unit Nat (runI (nmG nm) 0 () cs)
  (fun _ o => ∃ σ', o = .exit 0 σ') (fun i o => ∃ σ', o = .ret σ' ∧ σ'.s 4 = .n i) := by
 refine Zh cs (fun i (_ : Unit) => ⟨upd (upd (upd (upd (fun _ => .bad) 0 (.lit Z0 (cs.map ColV.c))) 1 (.fn X0 [.pl [.s nm] 0])) 7 (.n cs.length)) 8 (.n i), fun _ => none, 0, 0⟩) _ (fun _ _ => True) _ _ () trivial hl (fun i _ x K hc hlt hi => ?_) (fun _ K _ => ?_)
 · have hr := Zq (f := ColV.c) hc
   have hw := Zf (n := i) (by unfold big at hl; omega)
   have hp := Zt0 hD x nm
   simp only [Z9, Zqq, Zh8, go_sem, List.length_map, hr, hlt, hw, hp, nmG]
   generalize decide (x.nm = nm) = q
   cases q with
   | true => simp only [go_sem]; exact ⟨_, rfl, _, rfl, rfl⟩
   | false => simp only [go_sem]
 · have hi : ¬ cs.length < cs.length := by omega
   simp only [Z9, Zqq, Zh8, go_sem, List.length_map, hi]
   exact ⟨_, rfl, _, rfl⟩
theorem Z5h {D : Nat} (hD : 3 ≤ D) (nm : ByteArray) (cs : List ColV) (hl : cs.length ≤ big) : den pr D X5 [.lit Z0 (cs.map ColV.c), .s nm] = some [.n (nmI nm cs)] := by
 obtain ⟨D, rfl, hd⟩ := Z8 hD
 obtain ⟨D, rfl, hd⟩ := Z8 hd
 have h1 : den pr (D + 1) Zmx [.lit Z0 (cs.map ColV.c), .fn X0 [.pl [.s nm] 0]] = some [.n (nmI nm cs)] := by
  rw [Y60]
  obtain ⟨out, lo, lp⟩ := Zik (show 1 ≤ D by omega) nm cs hl
  rw [show ((0 : Nat) : Int) = 0 from rfl] at lo
  unfold nmI nmAt
  cases hr : runI (nmG nm) 0 () cs with
  | inl _ =>
    rw [hr] at lp
    obtain ⟨σ', rfl⟩ := lp
    simp only [c_q74, go_sem, List.length_map, lo]
  | inr i =>
    rw [hr] at lp
    obtain ⟨σ', rfl, l2⟩ := lp
    simp only [c_q74, go_sem, List.length_map, lo, l2]
 rw [Zk4]
 simp only [c_impl_colAt, go_sem, h1]
theorem Zz7 {E : Env} (nm : ByteArray) (cs : List ColV) (hl : cs.length ≤ big) :
 Xr (Z9 (exec E Z4n) [0, 1, 5] rounds ⟨upd (upd (upd (fun _ => .bad) 0 (.lit Z0 (cs.map ColV.c))) 1 (.s nm)) 5 (.n (0 : Nat)), fun _ => none, 0, 0⟩) Unit Nat (runI (nmG nm) 0 () cs)
  (fun _ o => ∃ σ', o = .exit 0 σ') (fun i o => ∃ σ', o = .ret σ' ∧ σ'.s 4 = .n i) := by
 refine Zh cs (fun i (_ : Unit) => ⟨upd (upd (upd (fun _ => .bad) 0 (.lit Z0 (cs.map ColV.c))) 1 (.s nm)) 5 (.n i), fun _ => none, 0, 0⟩) _ (fun _ _ => True) _ _ () trivial hl (fun i _ x K hc hlt hi => ?_) (fun _ K _ => ?_)
 · have hr := Zq (f := ColV.c) hc
   have hw := Zf (n := i) (by unfold big at hl; omega)
   simp only [Z9, Z90, Z2i, go_sem, List.length_map, hr, hlt, hw, nmG]
   rcases pf (x.nm = nm) with q | q
   · simp only [go_sem, q]; exact ⟨_, rfl, _, rfl, rfl⟩
   · simp only [go_sem, q, hw]
 · have hi : ¬ cs.length < cs.length := by omega
   simp only [Z9, Z90, Z2i, go_sem, List.length_map, hi]
   exact ⟨_, rfl, _, rfl⟩
theorem Zos {D : Nat} (hD : 1 ≤ D) (nm : ByteArray) (cs : List ColV) (hl : cs.length ≤ big) : den pr D Yl [.lit Z0 (cs.map ColV.c), .s nm] = some [.n (nmI nm cs)] := by
 obtain ⟨D, rfl, hd⟩ := Z8 hD
 rw [Znr]
 obtain ⟨out, lo, lp⟩ := Zz7 (E := ⟨den pr D, dcl pr D, dfl pr D⟩) nm cs hl
 rw [show ((0 : Nat) : Int) = 0 from rfl] at lo
 unfold nmI nmAt
 cases hr : runI (nmG nm) 0 () cs with
 | inl _ =>
   rw [hr] at lp
   obtain ⟨σ', rfl⟩ := lp
   simp only [c_spec_l2At, go_sem, lo]
 | inr i =>
   rw [hr] at lp
   obtain ⟨σ', rfl, l2⟩ := lp
   simp only [c_spec_l2At, go_sem, lo, l2]
def shG (cs : List ColV) : Nat → Unit → ColV → Unit ⊕ Unit := fun i _ c => bif Zbz c && decide (nmI c.nm cs = i) then .inl () else .inr ()
def Zk (cs : List ColV) : Bool := (match runI (shG cs) 0 () cs with | .inl _ => true | .inr _ => false) && inB cs.length 1 5
theorem Zql {D : Nat} (hD : 3 ≤ D) (cs : List ColV) (hs : SmallC cs) :
 Xr (Z9 (exec ⟨den pr D, dcl pr D, dfl pr D⟩ Z24) [0, 5, 6, 7] rounds ⟨upd (upd (upd (upd (fun _ => .bad) 0 (.lit Z0 (cs.map ColV.c))) 5 (.lit Z0 (cs.map ColV.c))) 6 (.n cs.length)) 7 (.n (0 : Nat)), fun _ => none, 0, 0⟩) Unit Unit (runI (shG cs) 0 () cs)
  (fun _ o => ∃ σ', o = .exit 0 σ' ∧ σ'.s 0 = .lit Z0 (cs.map ColV.c)) (fun _ o => ∃ σ', o = .ret σ' ∧ σ'.s 2 = .q false) := by
 have hlen := hs.len
 refine Zh cs (fun i (_ : Unit) => ⟨upd (upd (upd (upd (fun _ => .bad) 0 (.lit Z0 (cs.map ColV.c))) 5 (.lit Z0 (cs.map ColV.c))) 6 (.n cs.length)) 7 (.n i), fun _ => none, 0, 0⟩) _ (fun _ _ => True) _ _ () trivial hs.len (fun i _ e K hc hlt hi => ?_) (fun _ K _ => ?_)
 · have hr := Zq (f := ColV.c) hc
   have hw := Zf (n := i) (by unfold big at hlen; omega)
   have ht := hs.txt e (List.mem_of_getElem? hc)
   have h1 := Y1a hD e ht.1 ht.2
   have h2 := Z5h hD e.nm cs hs.len
   simp only [Z9, Z4t, Z0m, go_sem, hr, hlt, hw, h1, h2, shG]
   generalize Zbz e = q1
   rcases pf (nmI e.nm cs = (i : Int)) with q2 | q2 <;> cases q1 <;> simp only [go_sem, q2, hw] <;> exact ⟨_, rfl, _, rfl, rfl⟩
 · have hi : ¬ cs.length < cs.length := by omega
   simp only [Z9, Z4t, Z0m, go_sem, hi]
   exact ⟨_, rfl, _, rfl, rfl⟩
theorem Z82 {D : Nat} (hD : 4 ≤ D) (cs : List ColV) (hs : SmallC cs) : den pr D Yz [.lit Z0 (cs.map ColV.c)] = some [.q (Zk cs)] := by
 obtain ⟨D, rfl, hd⟩ := Z8 hD
 rw [Zdh]
 obtain ⟨out, lo, lp⟩ := Zql hd cs hs
 rw [show ((0 : Nat) : Int) = 0 from rfl] at lo
 have h1 := d_in (show 1 ≤ D by omega) cs.length 1 5
 unfold Zk
 cases hr : runI (shG cs) 0 () cs with
 | inl _ =>
   rw [hr] at lp
   obtain ⟨σ', rfl, l2⟩ := lp
   simp only [c_impl_ShapeOk, go_sem, List.length_map, lo, l2, h1]
 | inr _ =>
   rw [hr] at lp
   obtain ⟨σ', rfl, l2⟩ := lp
   simp only [c_impl_ShapeOk, go_sem, List.length_map, lo, l2]
theorem Zb6 {D : Nat} (hD : 3 ≤ D) (cs : List ColV) (hs : SmallC cs) :
 Xr (Z9 (exec ⟨den pr D, dcl pr D, dfl pr D⟩ Z2a) [0, 3] rounds ⟨upd (upd (fun _ => .bad) 0 (.lit Z0 (cs.map ColV.c))) 3 (.n (0 : Nat)), fun _ => none, 0, 0⟩) Unit Unit (runI (shG cs) 0 () cs)
  (fun _ o => ∃ σ', o = .exit 0 σ' ∧ σ'.s 0 = .lit Z0 (cs.map ColV.c)) (fun _ o => ∃ σ', o = .ret σ' ∧ σ'.s 2 = .q false) := by
 have hlen := hs.len
 refine Zh cs (fun i (_ : Unit) => ⟨upd (upd (fun _ => .bad) 0 (.lit Z0 (cs.map ColV.c))) 3 (.n i), fun _ => none, 0, 0⟩) _ (fun _ _ => True) _ _ () trivial hs.len (fun i _ e K hc hlt hi => ?_) (fun _ K _ => ?_)
 · have hr := Zq (f := ColV.c) hc
   have hw := Zf (n := i) (by unfold big at hlen; omega)
   have ht := hs.txt e (List.mem_of_getElem? hc)
   have h1 := Zks hD e ht.1 ht.2
   have h2 := Zos (show 1 ≤ D by omega) e.nm cs hs.len
   simp only [Z9, Z4r, Z0k, go_sem, List.length_map, hr, hlt, hw, h1, h2, shG]
   generalize Zbz e = q1
   rcases pf (nmI e.nm cs = (i : Int)) with q2 | q2 <;> cases q1 <;> simp only [go_sem, q2, hw] <;> exact ⟨_, rfl, _, rfl, rfl⟩
 · have hi : ¬ cs.length < cs.length := by omega
   simp only [Z9, Z4r, Z0k, go_sem, List.length_map, hi]
   exact ⟨_, rfl, _, rfl, rfl⟩
theorem Z1q {D : Nat} (hD : 4 ≤ D) (cs : List ColV) (hs : SmallC cs) : den pr D X2 [.lit Z0 (cs.map ColV.c)] = some [.q (Zk cs)] := by
 obtain ⟨D, rfl, hd⟩ := Z8 hD
 rw [Zdu]
 obtain ⟨out, lo, lp⟩ := Zb6 hd cs hs
 rw [show ((0 : Nat) : Int) = 0 from rfl] at lo
 unfold Zk inB
 cases hr : runI (shG cs) 0 () cs with
 | inl _ =>
   rw [hr] at lp
   obtain ⟨σ', rfl, l2⟩ := lp
   simp only [c_spec_ShapeOk, go_sem, List.length_map, lo, l2]
 | inr _ =>
   rw [hr] at lp
   obtain ⟨σ', rfl, l2⟩ := lp
   simp only [c_spec_ShapeOk, go_sem, List.length_map, lo, l2]
end Go.Vm.T
namespace Go.Vm.T
variable [Pr0]
theorem Z0p (w : Bool) (a : A) : Wt w (.ifg false a) = some false := by
 unfold Wt
 split <;> simp_all
theorem Z6 (es : List ColV) : W9 (es.map ColV.c) = false := Z2k _ (fun _ => rfl) es
end Go.Vm.T
namespace Go.Vm.T
structure Chg where
 k : Int
 nm : ByteArray
 nw : ByteArray
 col : ColV
 deriving DecidableEq
abbrev Chg.c (c : Chg) : List A := [.n c.k, .s c.nm, .s c.nw, .s c.col.nm, .n c.col.k, .q c.col.need, .q c.col.once, .n c.col.df.k, .n c.col.df.n, .s c.col.df.t]
abbrev eT : ByteArray := ⟨#[]⟩
def zC : ColV := ⟨eT, 0, false, false, zV⟩
abbrev zVal : List A := [.n 0, .n 0, .s ⟨#[]⟩]
def Z21 (c : Chg) : Bool :=
 if c.k = 1 then decide (c.nm = eT) && decide (c.nw = eT)
 else if c.k = 2 then decide (c.nw = eT) && decide (c.col = zC)
 else if c.k = 3 then decide (c.col = zC)
 else if c.k = 4 then decide (c.nw = eT) && decide (c.col = { zC with k := c.col.k })
 else false
variable [Pr1]
theorem Z2f {D : Nat} (hD : 2 ≤ D) (rows : List (List A)) (hl : rows.length ≤ big) : den pr D Z80 [.lit Z0 rows] = some [.olit Z0 rows] := by
 obtain ⟨D, rfl, hd⟩ := Z8 hD
 obtain ⟨D, rfl, hd⟩ := Z8 hd
 rw [Y7b]
 have h1 : den pr (D + 1) Ze2 [.lit Z0 rows] = some [.olit Z0 rows] := by
  rw [Y2i]
  simp only [Z5f, hl, go_sem]
 have h2 : W9 rows = true ∨ W9 rows = false := by cases W9 rows <;> simp
 rcases h2 with h2 | h2 <;> simp only [c_q91, go_sem, h1, h2, Y26, c_q105, Nat.le_refl, Nat.zero_le, Nat.sub_zero, Option.isSome_some, frz]
theorem Z8i {D : Nat} (hD : 2 ≤ D) (rows : List (List A)) (hl : rows.length ≤ big) : den pr D Zgk [.lit Z1 rows] = some [.olit Z1 rows] := by
 obtain ⟨D, rfl, hd⟩ := Z8 hD
 obtain ⟨D, rfl, hd⟩ := Z8 hd
 rw [Y59]
 have h1 : den pr (D + 1) Zea [.lit Z1 rows] = some [.olit Z1 rows] := by
  rw [Y25]
  simp only [Z5f, hl, go_sem]
 have h2 : W9 rows = true ∨ W9 rows = false := by cases W9 rows <;> simp
 rcases h2 with h2 | h2 <;> simp only [c_q94, go_sem, h1, h2, Y3m, c_q110, Nat.le_refl, Nat.zero_le, Nat.sub_zero, Option.isSome_some, frz]
theorem Zto {D : Nat} (hD : 1 ≤ D) (rows : List (List A)) (i : Nat) (hi : i < rows.length) (hl : rows.length ≤ big) (h : Hp) (m b : Nat) (hb : b < m) (hh : h b = some ⟨Z0, rows, true, false⟩) (ex : Bool) :
 dcl pr D Zcf [.ref Z0 b 0 rows.length rows.length ex, .n (i : Int), .n ((i : Int) + 1)] h m = some ([.ref Z0 b 0 (rows.length - 1) rows.length ex], upd (upd h m (some ⟨Z0, [], true, false⟩)) b (some ⟨Z0, offL i rows ++ [zCol], true, false⟩), m + 1 + 1) := by
 obtain ⟨D, rfl, hd⟩ := Z8 hD
 rw [Y3c]
 have hbm : ¬ b = m := by omega
 have e1 : (0 : Int) ≤ (i : Int) + 1 := by omega
 have e2 : ((i : Int) + 1).toNat = i + 1 := by omega
 have e3 : ¬ ((i : Int) = (i : Int) + 1) := by omega
 have e4 : i ≤ i + 1 := by omega
 have e5 : i + 1 ≤ rows.length := by omega
 have e6 : i ≤ rows.length := by omega
 have e7 : ¬ rows.length = i := by omega
 have f2 : i + (rows.length - (i + 1)) = rows.length - 1 := by omega
 have f3 : rows.length - 1 ≤ big := by omega
 have f4 : rows.length - 1 ≤ rows.length := by omega
 have f5 : (rows.drop (i + 1)).take (rows.length - (i + 1)) = rows.drop (i + 1) := List.take_of_length_le (by simp)
 have f6 : rows.take i ++ rows.drop (i + 1) = offL i rows := rfl
 have f7 : rows.length - (rows.length - 1) = 1 := by omega
 have g := Z0v hi
 have f8 : (offL i rows ++ rows.drop (rows.length - 1)).take (rows.length - 1) = offL i rows := by rw [← g, List.take_left]
 have f9 : (offL i rows ++ rows.drop (rows.length - 1)).drop (rows.length - 1 + 1) = [] := List.drop_eq_nil_of_le (by simp [g]; omega)
 have fa : rows.length - 1 + 1 ≤ (offL i rows ++ rows.drop (rows.length - 1)).length := by simp [g]; omega
 have fb : List.replicate 1 zCol = [zCol] := rfl
 have fc : i + 1 + (rows.length - (i + 1)) ≤ rows.length := by omega
 simp only [c_q108, go_sem, hh, hb, hbm, hl, e1, e2, e3, e4, e5, e6, e7, fc, f2, f3, f4, f5, f6, f7, f8, f9, fa, fb, V4, Nat.min_self, Nat.le_refl, Nat.zero_le, Nat.sub_zero, List.length_take, List.length_drop, Option.isSome_some, Option.isSome_none]
theorem Zt4 {D : Nat} (hD : 1 ≤ D) (rows : List (List A)) (i : Nat) (hi : i < rows.length) (hl : rows.length ≤ big) (h : Hp) (m b : Nat) (hb : b < m) (hh : h b = some ⟨Z1, rows, true, false⟩) (ex : Bool) :
 dcl pr D Zbh [.ref Z1 b 0 rows.length rows.length ex, .n (i : Int), .n ((i : Int) + 1)] h m = some ([.ref Z1 b 0 (rows.length - 1) rows.length ex], upd (upd h m (some ⟨Z1, [], true, false⟩)) b (some ⟨Z1, offL i rows ++ [zVal], true, false⟩), m + 1 + 1) := by
 obtain ⟨D, rfl, hd⟩ := Z8 hD
 rw [Y2t]
 have hbm : ¬ b = m := by omega
 have e1 : (0 : Int) ≤ (i : Int) + 1 := by omega
 have e2 : ((i : Int) + 1).toNat = i + 1 := by omega
 have e3 : ¬ ((i : Int) = (i : Int) + 1) := by omega
 have e4 : i ≤ i + 1 := by omega
 have e5 : i + 1 ≤ rows.length := by omega
 have e6 : i ≤ rows.length := by omega
 have e7 : ¬ rows.length = i := by omega
 have f2 : i + (rows.length - (i + 1)) = rows.length - 1 := by omega
 have f3 : rows.length - 1 ≤ big := by omega
 have f4 : rows.length - 1 ≤ rows.length := by omega
 have f5 : (rows.drop (i + 1)).take (rows.length - (i + 1)) = rows.drop (i + 1) := List.take_of_length_le (by simp)
 have f6 : rows.take i ++ rows.drop (i + 1) = offL i rows := rfl
 have f7 : rows.length - (rows.length - 1) = 1 := by omega
 have g := Z0v hi
 have f8 : (offL i rows ++ rows.drop (rows.length - 1)).take (rows.length - 1) = offL i rows := by rw [← g, List.take_left]
 have f9 : (offL i rows ++ rows.drop (rows.length - 1)).drop (rows.length - 1 + 1) = [] := List.drop_eq_nil_of_le (by simp [g]; omega)
 have fa : rows.length - 1 + 1 ≤ (offL i rows ++ rows.drop (rows.length - 1)).length := by simp [g]; omega
 have fb : List.replicate 1 zVal = [zVal] := rfl
 have fc : i + 1 + (rows.length - (i + 1)) ≤ rows.length := by omega
 simp only [c_q112, go_sem, hh, hb, hbm, hl, e1, e2, e3, e4, e5, e6, e7, fc, f2, f3, f4, f5, f6, f7, f8, f9, fa, fb, V4, Nat.min_self, Nat.le_refl, Nat.zero_le, Nat.sub_zero, List.length_take, List.length_drop, Option.isSome_some, Option.isSome_none]
theorem Zhe {α : Type} [DecidableEq α] (a b : α) : decide (a = b) = decide (b = a) := by by_cases h : a = b <;> simp [h, eq_comm]
theorem Zi6 (cn : ByteArray) (ck : Int) (need once : Bool) (dk dn : Int) (dt : ByteArray) :
 (decide (eT = cn) && (decide (0 = ck) && (decide (false = need) && (decide (false = once) && (decide (0 = dk) && (decide (0 = dn) && decide (eT = dt))))))) = decide (ColV.mk cn ck need once ⟨dk, dn, dt⟩ = zC) := by
 rw [Bool.eq_iff_iff]
 simp only [zC, zV, ColV.mk.injEq, Val.mk.injEq, Bool.and_eq_true, decide_eq_true_eq, @eq_comm _ cn, @eq_comm _ ck, @eq_comm _ need, @eq_comm _ once, @eq_comm _ dk, @eq_comm _ dn, @eq_comm _ dt]
theorem Zx4 (nw cn : ByteArray) (ck : Int) (need once : Bool) (dk dn : Int) (dt : ByteArray) :
 (decide (eT = nw) && (decide (eT = cn) && (decide (0 = ck) && (decide (false = need) && (decide (false = once) && (decide (0 = dk) && (decide (0 = dn) && decide (eT = dt)))))))) = (decide (nw = eT) && decide (ColV.mk cn ck need once ⟨dk, dn, dt⟩ = zC)) := by
 rw [Zi6, Zhe nw]
theorem Zrk (nw cn : ByteArray) (ck : Int) (need once : Bool) (dk dn : Int) (dt : ByteArray) :
 (decide (eT = nw) && (decide (eT = cn) && (decide (false = need) && (decide (false = once) && (decide (0 = dk) && (decide (0 = dn) && decide (eT = dt))))))) = (decide (nw = eT) && decide (ColV.mk cn ck need once ⟨dk, dn, dt⟩ = { zC with k := ck })) := by
 rw [Bool.eq_iff_iff]
 simp only [zC, zV, ColV.mk.injEq, Val.mk.injEq, Bool.and_eq_true, decide_eq_true_eq, true_and, @eq_comm _ nw, @eq_comm _ cn, @eq_comm _ need, @eq_comm _ once, @eq_comm _ dk, @eq_comm _ dn, @eq_comm _ dt]
theorem Zc8 {D : Nat} (hD : 1 ≤ D) (c : Chg) : den pr D Z8p [.agg c.c] = some [.q (Z21 c)] := by
 obtain ⟨D, rfl, hd⟩ := Z8 hD
 rw [Y1t]
 obtain ⟨k, nm, nw, cn, ck, need, once, dk, dn, dt⟩ := c
 unfold Z21
 simp only
 rcases pf (k = 1) with h1 | h1
 · simp only [c_q107, go_sem, h1, if_true]
   rw [Zhe nm, Zhe nw]
 · rcases pf (k = 2) with h2 | h2
   · simp only [c_q107, go_sem, h1, h2, if_true, if_false]
     exact congrArg (fun b => some [A.q b]) (Zx4 _ _ _ _ _ _ _ _)
   · rcases pf (k = 3) with h3 | h3
     · simp only [c_q107, go_sem, h1, h2, h3, if_true, if_false]
       exact congrArg (fun b => some [A.q b]) (Zi6 _ _ _ _ _ _ _)
     · rcases pf (k = 4) with h4 | h4
       · simp only [c_q107, go_sem, h1, h2, h3, h4, if_true, if_false]
         exact congrArg (fun b => some [A.q b]) (Zrk _ _ _ _ _ _ _ _)
       · simp only [c_q107, go_sem, h1, h2, h3, h4, if_true, if_false]
end Go.Vm.T
namespace Go.Vm.T
def finA (s out : List ColV) : List ColV × Bool := if Zk out then (out, true) else (s, false)
def chgK (s : List ColV) (c : Chg) (i : Nat) (x : ColV) : List ColV × Bool :=
 if c.k = 2 then finA s (offL i s) else if c.k = 3 then finA s (s.set i { x with nm := c.nw }) else if c.col.k = x.k then (s, false) else finA s (s.set i { x with k := c.col.k, df := Z23 x.df c.col.k })
def chgA (s : List ColV) (c : Chg) : List ColV × Bool :=
 if Z21 c = false then (s, false)
 else if c.k = 1 then (if c.col.need && decide (c.col.df.k = 0) then (s, false) else finA s (s ++ [c.col]))
 else match nmAt c.nm s with
  | none => (s, false)
  | some i => match s[i]? with
    | some x => chgK s c i x
    | none => (s, false)
structure SmallG (c : Chg) : Prop where
 nm : c.nm.size ≤ big
 nw : c.nw.size ≤ big
 cn : c.col.nm.size ≤ big
 dt : c.col.df.t.size ≤ big
theorem Za0 {v : Val} {k : Int} (h : v.t.size ≤ big) : (Z23 v k).t.size ≤ big := by
 unfold Z23
 split
 · show (0 : Nat) ≤ big; omega
 · rename_i hn
   split
   · exact h
   · split
     · rename_i h1 h2
       have hv : Z31 v = true := by cases hq : Z31 v with
        | true => rfl
        | false => exact absurd (.inl hq) hn
       have hk : v.k = 1 := by
        rcases Z2j hv with q | q | q
        · exact absurd (.inr (.inl q)) hn
        · exact q
        · exact absurd (q.trans h2.symm) h1
       have := Z5r hv hk
       show (Z64 v.n).size ≤ big
       have h3 : (Z64 v.n).size = (Lib.itoa v.n).length := rfl
       rw [h3]
       unfold Lib.itoa
       split
       · have := Zc1 v.n.natAbs (by omega); simp only [List.length_cons]; unfold big; omega
       · have := Zc1 v.n.toNat (by omega); unfold big; omega
     · show (0 : Nat) ≤ big; omega
variable [Pr1]
structure C1 (D : Nat) (s : List ColV) (c : Chg) : Prop where
 e0 : den pr D Z80 [.lit Z0 (s.map ColV.c)] = some [.olit Z0 (s.map ColV.c)]
 e1 : den pr D X5 [.lit Z0 (s.map ColV.c), .s c.nm] = some [.n (nmI c.nm s)]
 e2 : den pr D Z8p [.agg c.c] = some [.q true]
 e3 : den pr D Yz [.lit Z0 (s.map ColV.c ++ [c.col.c])] = some [.q (Zk (s ++ [c.col]))]
 e4 : den pr D Z80 [.lit Z0 (s.map ColV.c ++ [c.col.c])] = some [.olit Z0 (s.map ColV.c ++ [c.col.c])]
 hl : s.length + 1 ≤ big
 hlt : (s.map ColV.c).take s.length = s.map ColV.c
 hta : ∀ r : List A, List.take (s.length + 1) (s.map ColV.c ++ [r]) = s.map ColV.c ++ [r]
 rsa : W9 (s.map ColV.c ++ [c.col.c]) = false
theorem Zro {D : Nat} (s : List ColV) (nm nw cn : ByteArray) (ck : Int) (once : Bool) (dk dn : Int) (dt : ByteArray) (C : C1 D s ⟨1, nm, nw, ⟨cn, ck, false, once, dk, dn, dt⟩⟩) :
 endO (exec ⟨den pr D, dcl pr D, dfl pr D⟩ c_impl_change.code ⟨slots [.lit Z0 (s.map ColV.c), .agg (Chg.c ⟨1, nm, nw, ⟨cn, ck, false, once, dk, dn, dt⟩⟩)], fun _ => none, 0, 0⟩) (res c_impl_change.res) = some [.olit Z0 ((finA s (s ++ [⟨cn, ck, false, once, dk, dn, dt⟩])).1.map ColV.c), .q (finA s (s ++ [⟨cn, ck, false, once, dk, dn, dt⟩])).2] := by
 obtain ⟨e0, e1, e2, e3, e4, hl, hlt, hta, rsa⟩ := C
 unfold finA
 simp only at e3 e4 rsa
 have em : (s ++ [(⟨cn, ck, false, once, dk, dn, dt⟩ : ColV)]).map ColV.c = s.map ColV.c ++ [(⟨cn, ck, false, once, dk, dn, dt⟩ : ColV).c] := by simp
 cases h4 : Zk (s ++ [⟨cn, ck, false, once, dk, dn, dt⟩]) with
 | false =>
   rw [h4] at e3
   simp only [c_impl_change, go_sem, e0, e1, e2, e3, e4, Bool.false_eq_true, if_false, em, if_true, List.length_map, List.length_append, Z6, Nat.le_refl, hl, hlt, hta, rsa, and_self]
 | true =>
   rw [h4] at e3
   simp only [c_impl_change, go_sem, e0, e1, e2, e3, e4, Bool.false_eq_true, if_false, em, if_true, List.length_map, List.length_append, Z6, Nat.le_refl, hl, hlt, hta, rsa, and_self]
theorem Zqo {D : Nat} (s : List ColV) (nm nw cn : ByteArray) (ck : Int) (once : Bool) (dk dn : Int) (dt : ByteArray) (h3 : (dk = 0) = False) (C : C1 D s ⟨1, nm, nw, ⟨cn, ck, true, once, dk, dn, dt⟩⟩) :
 endO (exec ⟨den pr D, dcl pr D, dfl pr D⟩ c_impl_change.code ⟨slots [.lit Z0 (s.map ColV.c), .agg (Chg.c ⟨1, nm, nw, ⟨cn, ck, true, once, dk, dn, dt⟩⟩)], fun _ => none, 0, 0⟩) (res c_impl_change.res) = some [.olit Z0 ((finA s (s ++ [⟨cn, ck, true, once, dk, dn, dt⟩])).1.map ColV.c), .q (finA s (s ++ [⟨cn, ck, true, once, dk, dn, dt⟩])).2] := by
 obtain ⟨e0, e1, e2, e3, e4, hl, hlt, hta, rsa⟩ := C
 unfold finA
 simp only at e3 e4 rsa
 have em : (s ++ [(⟨cn, ck, true, once, dk, dn, dt⟩ : ColV)]).map ColV.c = s.map ColV.c ++ [(⟨cn, ck, true, once, dk, dn, dt⟩ : ColV).c] := by simp
 cases h4 : Zk (s ++ [⟨cn, ck, true, once, dk, dn, dt⟩]) with
 | false =>
   rw [h4] at e3
   simp only [c_impl_change, go_sem, h3, e0, e1, e2, e3, e4, Bool.false_eq_true, if_false, em, if_true, List.length_map, List.length_append, Z6, Nat.le_refl, hl, hlt, hta, rsa, and_self]
 | true =>
   rw [h4] at e3
   simp only [c_impl_change, go_sem, h3, e0, e1, e2, e3, e4, Bool.false_eq_true, if_false, em, if_true, List.length_map, List.length_append, Z6, Nat.le_refl, hl, hlt, hta, rsa, and_self]
theorem Zr4 {D : Nat} (s : List ColV) (nm nw cn : ByteArray) (ck : Int) (once : Bool) (dn : Int) (dt : ByteArray) (C : C1 D s ⟨1, nm, nw, ⟨cn, ck, true, once, 0, dn, dt⟩⟩) :
 endO (exec ⟨den pr D, dcl pr D, dfl pr D⟩ c_impl_change.code ⟨slots [.lit Z0 (s.map ColV.c), .agg (Chg.c ⟨1, nm, nw, ⟨cn, ck, true, once, 0, dn, dt⟩⟩)], fun _ => none, 0, 0⟩) (res c_impl_change.res) = some [.olit Z0 (s.map ColV.c), .q false] := by
 obtain ⟨e0, e1, e2, e3, e4, hl, hlt, hta, rsa⟩ := C
 simp only [c_impl_change, go_sem, e0, e1, e2, if_true, List.length_map, Z6]
theorem Zwl {D : Nat} (hD : 5 ≤ D) (s : List ColV) (c : Chg) (hs : SmallC s) (hl : s.length + 1 ≤ big) (hc : SmallG c) (h1 : Z21 c = true) (hk : c.k = 1) : den pr D Zw [.lit Z0 (s.map ColV.c), .agg c.c] = some [.olit Z0 ((chgA s c).1.map ColV.c), .q (chgA s c).2] := by
 obtain ⟨D, rfl, hd⟩ := Z8 hD
 rw [Ve]
 have C : C1 D s c := by
  have e3 := Z82 (show 4 ≤ D by omega) (s ++ [c.col]) ⟨by simpa using hl, fun x hx => by
   rcases List.mem_append.1 hx with h | h
   · exact hs.txt x h
   · rw [List.mem_singleton.1 h]; exact ⟨hc.cn, hc.dt⟩⟩
  have e4 := Z2f (show 2 ≤ D by omega) ((s ++ [c.col]).map ColV.c) (by simpa using hl)
  have em : (s ++ [c.col]).map ColV.c = s.map ColV.c ++ [c.col.c] := by simp
  have rsa := Z6 (s ++ [c.col])
  rw [em] at e3 e4 rsa
  refine ⟨Z2f (show 2 ≤ D by omega) (s.map ColV.c) (by rw [List.length_map]; omega), Z5h (show 3 ≤ D by omega) c.nm s hs.len, ?_, e3, e4, hl, List.take_of_length_le (by simp), fun r => List.take_of_length_le (by simp), rsa⟩
  rw [Zc8 (show 1 ≤ D by omega) c, h1]
 obtain ⟨k, nm, nw, cn, ck, need, once, dk, dn, dt⟩ := c
 simp only at hk hc
 subst hk
 unfold chgA
 simp only [h1, if_true, Bool.true_eq_false, if_false]
 cases need with
 | false => rw [Zro s nm nw cn ck once dk dn dt C]; rfl
 | true =>
   rcases pf (dk = 0) with h3 | h3
   · have h3' := of_eq_true h3
     subst h3'
     rw [Zr4 s nm nw cn ck once dn dt C]; rfl
   · rw [Zqo s nm nw cn ck once dk dn dt h3 C]
     simp only [h3, Bool.true_and, decide_false, Bool.false_eq_true, if_false]
end Go.Vm.T
namespace Go.Vm.T
variable [Pr1]
theorem Zv5 {D : Nat} (hD : 5 ≤ D) (s : List ColV) (c : Chg) (hs : SmallC s) (h1 : Z21 c = false) : den pr D Zw [.lit Z0 (s.map ColV.c), .agg c.c] = some [.olit Z0 (s.map ColV.c), .q false] := by
 obtain ⟨D, rfl, hd⟩ := Z8 hD
 rw [Ve]
 have e0 := Z2f (show 2 ≤ D by omega) (s.map ColV.c) (by rw [List.length_map]; exact hs.len)
 have e1 := Z5h (show 3 ≤ D by omega) c.nm s hs.len
 have e2 := Zc8 (show 1 ≤ D by omega) c
 rw [h1] at e2
 simp only [c_impl_change, go_sem, e0, e1, e2, if_true, List.length_map, Z6]
theorem Zxu {D : Nat} (hD : 5 ≤ D) (s : List ColV) (c : Chg) (hs : SmallC s) (h1 : Z21 c = true) (hk : (c.k = 1) = False) (ha : nmAt c.nm s = none) : den pr D Zw [.lit Z0 (s.map ColV.c), .agg c.c] = some [.olit Z0 (s.map ColV.c), .q false] := by
 obtain ⟨D, rfl, hd⟩ := Z8 hD
 rw [Ve]
 have e0 := Z2f (show 2 ≤ D by omega) (s.map ColV.c) (by rw [List.length_map]; exact hs.len)
 have e1 := Z5h (show 3 ≤ D by omega) c.nm s hs.len
 have e2 := Zc8 (show 1 ≤ D by omega) c
 rw [h1] at e2
 unfold nmI at e1
 rw [ha] at e1
 have hm : (-1 : Int) < 0 := by decide
 simp only [c_impl_change, go_sem, e0, e1, e2, if_true, List.length_map, Z6, hk, hm]
theorem Zwo {D : Nat} (hD : 5 ≤ D) (s : List ColV) (c : Chg) (hs : SmallC s) (h1 : Z21 c = true) (hk : c.k = 2) (i : Nat) (ha : nmAt c.nm s = some i) : den pr D Zw [.lit Z0 (s.map ColV.c), .agg c.c] = some [.olit Z0 ((finA s (offL i s)).1.map ColV.c), .q (finA s (offL i s)).2] := by
 obtain ⟨D, rfl, hd⟩ := Z8 hD
 rw [Ve]
 have hl := hs.len
 have hi := Z4h ha
 have e0 := Z2f (show 2 ≤ D by omega) (s.map ColV.c) (by rw [List.length_map]; exact hs.len)
 have e1 := Z5h (show 3 ≤ D by omega) c.nm s hs.len
 have e2 := Zc8 (show 1 ≤ D by omega) c
 rw [h1] at e2
 unfold nmI at e1
 rw [ha] at e1
 simp only at e1
 have hm : ¬ ((i : Int) < 0) := by omega
 have hw : IntKind.i64.wrap ((i : Int) + 1) = (i : Int) + 1 := Zf (n := i) (by unfold big at hl; omega)
 have h4 := Zto (show 1 ≤ D by omega) (s.map ColV.c) i (by simpa using hi) (by simpa using hl)
 have hol : (offL i s).length ≤ big := by rw [Z0v hi]; omega
 have hmem : ∀ x ∈ offL i s, x ∈ s := fun x hx => by
  unfold offL at hx
  rcases List.mem_append.1 hx with h | h
  · exact List.mem_of_mem_take h
  · exact List.mem_of_mem_drop h
 have e5 := Z2f (show 2 ≤ D by omega) ((offL i s).map ColV.c) (by rw [List.length_map]; exact hol)
 have e3 := Z82 (show 4 ≤ D by omega) (offL i s) ⟨hol, fun x hx => hs.txt x (hmem x hx)⟩
 have q1 : offL i (s.map ColV.c) = (offL i s).map ColV.c := Zo6 _ _ _
 have q2 : ((offL i s).map ColV.c ++ [zCol]).take (s.length - 1) = (offL i s).map ColV.c := by
  rw [← Z0v hi, ← List.length_map (f := ColV.c), List.take_left]
 have q3 : s.length - 1 ≤ (offL i s).length + 1 := by rw [Z0v hi]; omega
 simp only [List.length_map] at h4
 have hk1 : (c.k = 1) = False := by rw [hk]; decide
 have hk2 : (c.k = 2) = True := by rw [hk]; decide
 unfold finA
 cases h5 : Zk (offL i s) with
 | false =>
   rw [h5] at e3
   simp only [c_impl_change, go_sem, e0, e1, e2, e3, hk1, hk2, hm, hw, h4, q1, q2, q3, V4, Bool.false_eq_true, if_false, if_true, List.length_map, List.length_append, Z6, Nat.zero_le, Nat.le_refl]
 | true =>
   rw [h5] at e3
   simp only [c_impl_change, go_sem, e0, e1, e2, e3, e5, hk1, hk2, hm, hw, h4, q1, q2, q3, V4, Bool.false_eq_true, if_false, if_true, List.length_map, List.length_append, Z6, Nat.zero_le, Nat.le_refl]
structure C3 (D : Nat) (s : List ColV) (c : Chg) (i : Nat) (x : ColV) (y : ColV) : Prop where
 e0 : den pr D Z80 [.lit Z0 (s.map ColV.c)] = some [.olit Z0 (s.map ColV.c)]
 e1 : den pr D X5 [.lit Z0 (s.map ColV.c), .s c.nm] = some [.n (i : Int)]
 e2 : den pr D Z8p [.agg c.c] = some [.q true]
 e3 : den pr D Yz [.lit Z0 ((s.map ColV.c).set i y.c)] = some [.q (Zk (s.set i y))]
 e4 : den pr D Z80 [.lit Z0 ((s.map ColV.c).set i y.c)] = some [.olit Z0 ((s.map ColV.c).set i y.c)]
 hr : (s.map ColV.c)[i]? = some x.c
 hi : i < s.length
 rsa : W9 ((s.map ColV.c).set i y.c) = false
 hm : ¬ ((i : Int) < 0)
 em : (s.set i y).map ColV.c = (s.map ColV.c).set i y.c
 len : s.length ≤ big
 tk : ∀ r, List.take s.length ((s.map ColV.c).set i r) = (s.map ColV.c).set i r
 hset : ∀ r, ((s.map ColV.c).set i r)[i]? = some r
theorem C3.of {D : Nat} (hD : 4 ≤ D) {s : List ColV} {c : Chg} (hs : SmallC s) (h1 : Z21 c = true) {i : Nat} (ha : nmAt c.nm s = some i) {x : ColV} (hx : s[i]? = some x) (y : ColV) (hy : y.nm.size ≤ big ∧ y.df.t.size ≤ big) : C3 D s c i x y := by
 have hi := Z4h ha
 have em : (s.set i y).map ColV.c = (s.map ColV.c).set i y.c := List.map_set
 have e3 := Z82 hD (s.set i y) ⟨by rw [List.length_set]; exact hs.len, fun z hz => by
  rcases List.mem_or_eq_of_mem_set hz with h | h
  · exact hs.txt z h
  · rw [h]; exact hy⟩
 have e4 := Z2f (show 2 ≤ D by omega) ((s.set i y).map ColV.c) (by simpa using hs.len)
 have rsa := Z6 (s.set i y)
 rw [em] at e3 e4 rsa
 have e1 := Z5h (show 3 ≤ D by omega) c.nm s hs.len
 unfold nmI at e1
 rw [ha] at e1
 refine ⟨Z2f (show 2 ≤ D by omega) (s.map ColV.c) (by rw [List.length_map]; exact hs.len), e1, ?_, e3, e4, Zq (f := ColV.c) hx, hi, rsa, by omega, em, hs.len, fun r => List.take_of_length_le (by simp), fun r => List.getElem?_set_self (by simpa using hi)⟩
 rw [Zc8 (show 1 ≤ D by omega) c, h1]
theorem Zv8 {D : Nat} (s : List ColV) (c : Chg) (hk : c.k = 3) (i : Nat) (x : ColV) (C : C3 D s c i x { x with nm := c.nw }) : den pr (D + 1) Zw [.lit Z0 (s.map ColV.c), .agg c.c] = some [.olit Z0 ((finA s (s.set i { x with nm := c.nw })).1.map ColV.c), .q (finA s (s.set i { x with nm := c.nw })).2] := by
 rw [Ve]
 have hk1 : (c.k = 1) = False := by rw [hk]; decide
 have hk2 : (c.k = 2) = False := by rw [hk]; decide
 have hk3 : (c.k = 3) = True := by rw [hk]; decide
 obtain ⟨e0, e1, e2, e3, e4, hr, hi, rsa, hm, em, hl, tk, hset⟩ := C
 unfold finA
 cases h5 : Zk (s.set i { x with nm := c.nw }) with
 | false =>
   rw [h5] at e3
   simp only [c_impl_change, go_sem, e0, e1, e2, e3, hk1, hk2, hk3, hm, hr, hi, V4, Bool.false_eq_true, if_false, if_true, List.length_map, List.length_set, Z6, rsa, tk, Nat.zero_le, Nat.le_refl]
 | true =>
   rw [h5] at e3
   simp only [c_impl_change, go_sem, e0, e1, e2, e3, e4, em, hk1, hk2, hk3, hm, hr, hi, V4, Bool.false_eq_true, if_false, if_true, List.length_map, List.length_set, Z6, rsa, tk, Nat.zero_le, Nat.le_refl]
theorem Zu1 {D : Nat} (s : List ColV) (c : Chg) (hk : c.k = 4) (i : Nat) (x y : ColV) (hx : (c.col.k = x.k) = True) (C : C3 D s c i x y) : den pr (D + 1) Zw [.lit Z0 (s.map ColV.c), .agg c.c] = some [.olit Z0 (s.map ColV.c), .q false] := by
 rw [Ve]
 have hk1 : (c.k = 1) = False := by rw [hk]; decide
 have hk2 : (c.k = 2) = False := by rw [hk]; decide
 have hk3 : (c.k = 3) = False := by rw [hk]; decide
 have hk4 : (c.k = 4) = True := by rw [hk]; decide
 obtain ⟨e0, e1, e2, e3, e4, hr, hi, rsa, hm, em, hl, tk, hset⟩ := C
 simp only [c_impl_change, go_sem, e0, e1, e2, hk1, hk2, hk3, hk4, hx, hm, hr, hi, V4, Bool.false_eq_true, if_false, if_true, List.length_map, List.length_set, Z6, rsa, tk, Nat.zero_le, Nat.le_refl]
theorem Zvz {D : Nat} (s : List ColV) (c : Chg) (hk : c.k = 4) (i : Nat) (x : ColV) (hx : (c.col.k = x.k) = False) (C : C3 D s c i x { x with k := c.col.k, df := Z23 x.df c.col.k }) (ev : den pr D W7 [.agg x.df.c, .n c.col.k] = some [.agg (Z23 x.df c.col.k).c]) : den pr (D + 1) Zw [.lit Z0 (s.map ColV.c), .agg c.c] = some [.olit Z0 ((finA s (s.set i { x with k := c.col.k, df := Z23 x.df c.col.k })).1.map ColV.c), .q (finA s (s.set i { x with k := c.col.k, df := Z23 x.df c.col.k })).2] := by
 rw [Ve]
 have hk1 : (c.k = 1) = False := by rw [hk]; decide
 have hk2 : (c.k = 2) = False := by rw [hk]; decide
 have hk3 : (c.k = 3) = False := by rw [hk]; decide
 have hk4 : (c.k = 4) = True := by rw [hk]; decide
 obtain ⟨e0, e1, e2, e3, e4, hr, hi, rsa, hm, em, hl, tk, hset⟩ := C
 unfold finA
 cases h5 : Zk (s.set i { x with k := c.col.k, df := Z23 x.df c.col.k }) with
 | false =>
   rw [h5] at e3
   simp only [c_impl_change, go_sem, e0, e1, e2, e3, ev, hk1, hk2, hk3, hk4, hx, hm, hr, hi, hset, List.set_set, V4, Bool.false_eq_true, if_false, if_true, List.length_map, List.length_set, Z6, rsa, tk, Nat.zero_le, Nat.le_refl]
 | true =>
   rw [h5] at e3
   simp only [c_impl_change, go_sem, e0, e1, e2, e3, e4, ev, em, hk1, hk2, hk3, hk4, hx, hm, hr, hi, hset, List.set_set, V4, Bool.false_eq_true, if_false, if_true, List.length_map, List.length_set, Z6, rsa, tk, Nat.zero_le, Nat.le_refl]
end Go.Vm.T
namespace Go.Vm.T
theorem Zm1 {c : ColV} (h : Zbz c = true) : c.nm.size ≤ 3 ∧ c.df.t.size ≤ 4 := by
 unfold Zbz isNm inB at h
 simp at h
 obtain ⟨⟨⟨⟨h1, h2⟩, h3⟩, h4⟩, h5⟩ := h
 constructor
 · omega
 · rcases Z2j h3 with q | q | q
   · have : c.df.t = eT := by unfold Z31 at h3; simp [q] at h3; exact h3.2
     rw [this]; show (0 : Nat) ≤ 4; omega
   · rw [(Z5r h3 q).2.2]; show (0 : Nat) ≤ 4; omega
   · exact (Zel h3 q).2.1
theorem Ztg {α : Type} {g : Nat → α → Bool} : ∀ {l : List α} {i : Nat} {u : Unit}, (runI (fun i (_ : Unit) c => bif g i c then (.inl () : Unit ⊕ Unit) else .inr ()) i () l) = .inl u → ∀ (j : Nat) (c : α), l[j]? = some c → g (i + j) c = true
 | [], i, u, _, j, c, h => by simp at h
 | x :: l, i, u, hr, j, c, h => by
   unfold runI at hr
   cases hg : g i x with
   | false => rw [hg] at hr; cases hr
   | true =>
     rw [hg] at hr
     cases j with
     | zero => simp at h; subst h; exact hg
     | succ j =>
       have := Ztg (l := l) (i := i + 1) hr j c (by simpa using h)
       rw [show i + (j + 1) = i + 1 + j by omega]
       exact this
theorem Zu0 {cs : List ColV} (h : Zk cs = true) : 1 ≤ cs.length ∧ cs.length ≤ 5 := by
 unfold Zk inB at h
 simp at h
 omega
theorem Zvh {cs : List ColV} (h : Zk cs = true) {i : Nat} {c : ColV} (hc : cs[i]? = some c) : Zbz c = true ∧ nmI c.nm cs = i := by
 unfold Zk at h
 rw [Bool.and_eq_true] at h
 have h1 := h.1
 split at h1
 · rename_i u hr
   have := Ztg (g := fun i c => Zbz c && decide (nmI c.nm cs = (i : Int))) hr i c hc
   simpa using this
 · cases h1
theorem Xs {cs : List ColV} (h : Zk cs = true) : SmallC cs ∧ cs.length + 1 ≤ big := by
 have h1 := Zu0 h
 refine ⟨⟨by unfold big; omega, fun c hc => ?_⟩, by unfold big; omega⟩
 obtain ⟨i, hi⟩ := List.getElem?_of_mem hc
 have := Zm1 (Zvh h hi).1
 unfold big
 omega
theorem Z9w {s out : List ColV} (h : (finA s out).2 = true) : (finA s out).1 = out ∧ Zk out = true := by
 unfold finA at *
 split at h
 · rename_i hs; rw [if_pos hs]; exact ⟨rfl, hs⟩
 · cases h
theorem Z9b {s : List ColV} {c : Chg} (h : (chgA s c).2 = true) : Zk (chgA s c).1 = true := by
 have key : ∀ out, (finA s out).2 = true → Zk (finA s out).1 = true := fun out h => by rw [(Z9w h).1]; exact (Z9w h).2
 unfold chgA at *
 split at h
 · cases h
 · rename_i h1
   rw [if_neg h1]
   split at h
   · rename_i h2
     rw [if_pos h2]
     split at h
     · cases h
     · rename_i h3
       rw [if_neg h3]
       exact key _ h
   · rename_i h2
     rw [if_neg h2]
     split at h
     · cases h
     · rename_i i hi
       split at h
       · rename_i x hx
         unfold chgK at *
         split at h
         · rename_i h4; rw [if_pos h4]; exact key _ h
         · rename_i h4
           rw [if_neg h4]
           split at h
           · rename_i h5; rw [if_pos h5]; exact key _ h
           · rename_i h5
             rw [if_neg h5]
             split at h
             · cases h
             · rename_i h6; rw [if_neg h6]; exact key _ h
       · cases h
def chgG (_ : Nat) (s : List ColV) (c : Chg) : List ColV ⊕ Unit := bif (chgA s c).2 then .inl (chgA s c).1 else .inr ()
def chgs (s : List ColV) (cs : List Chg) : Option (List ColV) := match runI chgG 0 s cs with
 | .inl s' => some s'
 | .inr _ => none
variable [Pr1]
theorem Zo5 {D : Nat} (hD : 5 ≤ D) (s : List ColV) (c : Chg) (hs : SmallC s) (hl : s.length + 1 ≤ big) (hc : SmallG c) : den pr D Zw [.lit Z0 (s.map ColV.c), .agg c.c] = some [.olit Z0 ((chgA s c).1.map ColV.c), .q (chgA s c).2] := by
 cases h1 : Z21 c with
 | false =>
   rw [Zv5 hD s c hs h1]
   unfold chgA
   rw [if_pos h1]
 | true =>
   by_cases hk1 : c.k = 1
   · exact Zwl hD s c hs hl hc h1 hk1
   · have hk : c.k = 2 ∨ c.k = 3 ∨ c.k = 4 := by
      unfold Z21 at h1
      rw [if_neg hk1] at h1
      by_cases h2 : c.k = 2
      · exact .inl h2
      · by_cases h3 : c.k = 3
        · exact .inr (.inl h3)
        · by_cases h4 : c.k = 4
          · exact .inr (.inr h4)
          · rw [if_neg h2, if_neg h3, if_neg h4] at h1; cases h1
     have hf : ¬ (Z21 c = false) := by rw [h1]; decide
     unfold chgA
     rw [if_neg hf, if_neg hk1]
     cases ha : nmAt c.nm s with
     | none => rw [Zxu hD s c hs h1 (eq_false hk1) ha]
     | some i =>
       have hi := Z4h ha
       have hx : s[i]? = some s[i] := List.getElem?_eq_getElem hi
       simp only [hx]
       generalize s[i] = x at hx
       have hxs := hs.txt x (List.mem_of_getElem? hx)
       unfold chgK
       obtain ⟨D, rfl, hd⟩ := Z8 hD
       rcases hk with hk | hk | hk
       · rw [Zwo hD s c hs h1 hk i ha, if_pos hk]
       · rw [Zv8 s c hk i x (C3.of hd hs h1 ha hx _ ⟨hc.nw, hxs.2⟩), if_neg (by omega), if_pos hk]
       · rw [if_neg (by omega), if_neg (by omega)]
         by_cases hq : c.col.k = x.k
         · rw [if_pos hq, Zu1 s c hk i x x (eq_true hq) (C3.of hd hs h1 ha hx _ hxs)]
         · rw [if_neg hq, Zvz s c hk i x (eq_false hq) (C3.of hd hs h1 ha hx _ ⟨hxs.1, Za0 hxs.2⟩) (Zuy (by omega) x.df c.col.k hxs.2)]
theorem Zqb {D : Nat} (hD : 5 ≤ D) (s : List ColV) (cs : List Chg) (hs : SmallC s) (hl : s.length + 1 ≤ big) (hc : ∀ c ∈ cs, SmallG c) (hcl : cs.length ≤ big) :
 Xr (Z9 (exec ⟨den pr D, dcl pr D, dfl pr D⟩ Z26) [6, 13, 14, 15] rounds ⟨upd (upd (upd (upd (fun _ => .bad) 6 (.ref Z0 0 0 s.length s.length false)) 13 (.lit Z4 (cs.map Chg.c))) 14 (.n cs.length)) 15 (.n (0 : Nat)), upd (fun _ => none) 0 (some ⟨Z0, s.map ColV.c, true, false⟩), 1, 0⟩) (List ColV) Unit (runI chgG 0 s cs)
  (fun s' o => ∃ σ', o = .exit 0 σ' ∧ σ'.s 6 = .ref Z0 0 0 s'.length s'.length false ∧ σ'.h 0 = some ⟨Z0, s'.map ColV.c, true, false⟩) (fun _ o => ∃ σ' b, o = .ret σ' ∧ σ'.s 4 = .ref Z0 b 0 0 0 false ∧ σ'.h b = some ⟨Z0, [], true, false⟩ ∧ σ'.s 5 = .q false) := by
 refine Zh cs (fun i (s : List ColV) => ⟨upd (upd (upd (upd (fun _ => .bad) 6 (.ref Z0 0 0 s.length s.length false)) 13 (.lit Z4 (cs.map Chg.c))) 14 (.n cs.length)) 15 (.n i), upd (fun _ => none) 0 (some ⟨Z0, s.map ColV.c, true, false⟩), 1, 0⟩) chgG (fun _ s => SmallC s ∧ s.length + 1 ≤ big) _ _ s ⟨hs, hl⟩ hcl (fun i s c K hcx hlt hI => ?_) (fun s K hI => ?_)
 · have hr := Zq (f := Chg.c) hcx
   have hw := Zf (n := i) (by unfold big at hcl; omega)
   have e1 := Zo5 hD s c hI.1 hI.2 (hc c (List.mem_of_getElem? hcx))
   have hlt2 : (s.map ColV.c).take s.length = s.map ColV.c := List.take_of_length_le (by simp)
   unfold chgG
   have hok := Z9b (s := s) (c := c)
   generalize chgA s c = r at *
   obtain ⟨s', q⟩ := r
   simp only at e1 hok ⊢
   cases q with
   | true =>
     simp only [Z9, Z25, Vl, go_sem, List.length_map, hr, hlt, hw, e1, hlt2, Z6, Nat.le_refl]
     exact Xs (hok rfl)
   | false =>
     simp only [Z9, Z25, Vl, go_sem, List.length_map, hr, hlt, hw, e1, hlt2, Z6, Nat.le_refl]
     exact ⟨_, rfl, _, _, rfl, rfl, rfl, rfl⟩
 · have hi : ¬ cs.length < cs.length := by omega
   simp only [Z9, Z25, Vl, go_sem, List.length_map, hi]
   exact ⟨_, rfl, _, rfl, rfl, rfl⟩
theorem Z8o {D : Nat} (hD : 6 ≤ D) (s : List ColV) (cs : List Chg) (hs : SmallC s) (hl : s.length + 1 ≤ big) (hc : ∀ c ∈ cs, SmallG c) (hcl : cs.length ≤ big) :
 den pr D Yt [.lit Z0 (s.map ColV.c), .lit Z4 (cs.map Chg.c)] = some [.olit Z0 (((chgs s cs).getD []).map ColV.c), .q (chgs s cs).isSome] := by
 obtain ⟨D, rfl, hd⟩ := Z8 hD
 rw [Zd7]
 have e0 := Z2f (show 2 ≤ D by omega) (s.map ColV.c) (by rw [List.length_map]; exact hs.len)
 obtain ⟨out, lo, lp⟩ := Zqb hd s cs hs hl hc hcl
 rw [show ((0 : Nat) : Int) = 0 from rfl] at lo
 unfold chgs
 cases hr : runI chgG 0 s cs with
 | inl s' =>
   rw [hr] at lp
   obtain ⟨σ', rfl, l1, l2⟩ := lp
   have hlt2 : (s'.map ColV.c).take s'.length = s'.map ColV.c := List.take_of_length_le (by simp)
   simp only [c_impl_changes, go_sem, e0, lo, l1, l2, List.length_map, Z6, Nat.le_refl, hlt2, Option.getD_some, Option.isSome_some]
 | inr u =>
   rw [hr] at lp
   obtain ⟨σ', b, rfl, l1, l2, l3⟩ := lp
   simp only [c_impl_changes, go_sem, e0, lo, l1, l2, l3, List.length_map, Z6, Nat.le_refl, Option.getD_none, Option.isSome_none, List.map_nil]
end Go.Vm.T
namespace Go.Vm.T
def rowA (s : List ColV) (c : Chg) (row : List Val) : List Val :=
 if c.k = 1 then row ++ [c.col.df]
 else match nmAt c.nm s with
  | none => row
  | some i => if c.k = 2 then offL i row else if c.k = 4 then (match row[i]? with | some v => row.set i (Z23 v c.col.k) | none => row) else row
variable [Pr1]
theorem Zj6 {s : List ColV} {c : Chg} (h : (chgA s c).2 = true) : Z21 c = true ∧ (c.k = 1 ∨ ((c.k = 2 ∨ c.k = 3 ∨ c.k = 4) ∧ ∃ i x, nmAt c.nm s = some i ∧ s[i]? = some x ∧ i < s.length ∧ (chgA s c) = chgK s c i x)) ∧ (c.k = 1 → (chgA s c).1 = s ++ [c.col]) := by
 have hn : Z21 c = true := by
  cases hq : Z21 c with
  | true => rfl
  | false => unfold chgA at h; rw [if_pos hq] at h; cases h
 have hf : ¬ (Z21 c = false) := by rw [hn]; decide
 refine ⟨hn, ?_, fun hk => ?_⟩
 · by_cases hk1 : c.k = 1
   · exact .inl hk1
   · refine .inr ⟨?_, ?_⟩
     · unfold Z21 at hn
       rw [if_neg hk1] at hn
       by_cases h2 : c.k = 2
       · exact .inl h2
       · by_cases h3 : c.k = 3
         · exact .inr (.inl h3)
         · by_cases h4 : c.k = 4
           · exact .inr (.inr h4)
           · rw [if_neg h2, if_neg h3, if_neg h4] at hn; cases hn
     · unfold chgA at *
       rw [if_neg hf, if_neg hk1] at *
       cases ha : nmAt c.nm s with
       | none => rw [ha] at h; cases h
       | some i =>
         have hi := Z4h ha
         have hx : s[i]? = some s[i] := List.getElem?_eq_getElem hi
         refine ⟨i, s[i], rfl, hx, hi, ?_⟩
         simp only [hx]
 · unfold chgA at *
   rw [if_neg hf, if_pos hk] at *
   split at h
   · cases h
   · rename_i h3
     rw [if_neg h3]
     exact (Z9w h).1
theorem Zoq {s : List ColV} {c : Chg} {row : List Val} (h : (chgA s c).2 = true) (hl : row.length = s.length) : (rowA s c row).length = (chgA s c).1.length := by
 obtain ⟨hn, hk, h1⟩ := Zj6 h
 unfold rowA
 by_cases hk1 : c.k = 1
 · rw [if_pos hk1, h1 hk1]; simp [hl]
 · rw [if_neg hk1]
   rcases hk with hk | ⟨hk, i, x, ha, hx, hi, he⟩
   · exact absurd hk hk1
   · rw [ha]
     rw [he] at h ⊢
     simp only
     unfold chgK at *
     by_cases h2 : c.k = 2
     · rw [if_pos h2] at h ⊢
       rw [if_pos h2, (Z9w h).1, Z0v (by omega), Z0v hi, hl]
     · rw [if_neg h2] at h ⊢
       rw [if_neg h2]
       by_cases h3 : c.k = 3
       · rw [if_pos h3] at h ⊢
         rw [if_neg (by omega), (Z9w h).1]; simp [hl]
       · rw [if_neg h3] at h ⊢
         have h4 : c.k = 4 := by omega
         rw [if_pos h4]
         have hr : row[i]? = some row[i] := List.getElem?_eq_getElem (by omega)
         rw [hr]
         simp only
         split at h
         · cases h
         · rename_i h5
           rw [if_neg h5, (Z9w h).1]; simp [hl]
def Z2x (row : List Val) : Prop := ∀ v ∈ row, v.t.size ≤ big
theorem Zf0 {s : List ColV} {c : Chg} {row : List Val} (hr : Z2x row) (hc : SmallG c) : Z2x (rowA s c row) := by
 intro v hv
 unfold rowA at hv
 split at hv
 · rcases List.mem_append.1 hv with h | h
   · exact hr v h
   · rw [List.mem_singleton.1 h]; exact hc.dt
 · split at hv
   · exact hr v hv
   · split at hv
     · unfold offL at hv
       rcases List.mem_append.1 hv with h | h
       · exact hr v (List.mem_of_mem_take h)
       · exact hr v (List.mem_of_mem_drop h)
     · split at hv
       · split at hv
         · rename_i w hw
           rcases List.mem_or_eq_of_mem_set hv with h | h
           · exact hr v h
           · rw [h]; exact Za0 (hr w (List.mem_of_getElem? hw))
         · exact hr v hv
       · exact hr v hv
theorem Zg (es : List Val) : W9 (es.map Val.c) = false := Z2k _ (fun _ => rfl) es
theorem Znp {D : Nat} (hD : 5 ≤ D) (s : List ColV) (c : Chg) (row : List Val) (hs : SmallC s) (hc : SmallG c) (hr : Z2x row) (hl : row.length + 1 ≤ big) (hk : c.k = 1 ∨ ((c.k = 2 ∨ c.k = 3 ∨ c.k = 4) ∧ ∃ i, nmAt c.nm s = some i ∧ i < row.length)) :
 den pr D Zne [.lit Z0 (s.map ColV.c), .agg c.c, .lit Z1 (row.map Val.c)] = some [.olit Z1 ((rowA s c row).map Val.c)] := by
 obtain ⟨D, rfl, hd⟩ := Z8 hD
 rw [Y6j]
 have e0 := Z8i (show 2 ≤ D by omega) (row.map Val.c) (by rw [List.length_map]; omega)
 have e1 := Z5h (show 3 ≤ D by omega) c.nm s hs.len
 have htk : (row.map Val.c).take row.length = row.map Val.c := List.take_of_length_le (by simp)
 have hbl : row.length ≤ big := by omega
 unfold rowA
 rcases hk with hk | ⟨hk, i, ha, hi⟩
 · have hk1 : (c.k = 1) = True := by rw [hk]; decide
   have e2 := Z8i (show 2 ≤ D by omega) ((row ++ [c.col.df]).map Val.c) (by simpa using hl)
   have em : (row ++ [c.col.df]).map Val.c = row.map Val.c ++ [c.col.df.c] := by simp
   have hta : ∀ r : List A, List.take (row.length + 1) (row.map Val.c ++ [r]) = row.map Val.c ++ [r] := fun r => List.take_of_length_le (by simp)
   have rsa := Zg (row ++ [c.col.df])
   rw [em] at e2 rsa
   simp only [c_q95, go_sem, e0, e1, e2, hk1, em, if_true, List.length_map, List.length_append, Zg, Nat.le_refl, hl, htk, hta, rsa, and_self]
 · unfold nmI at e1
   rw [ha] at e1
   simp only at e1
   have hm : ¬ ((i : Int) < 0) := by omega
   have hw : IntKind.i64.wrap ((i : Int) + 1) = (i : Int) + 1 := Zf (n := i) (by unfold big at hl; omega)
   rcases hk with hk | hk | hk
   · have hk1 : (c.k = 1) = False := by rw [hk]; decide
     have hk2 : (c.k = 2) = True := by rw [hk]; decide
     have h4 := Zt4 (show 1 ≤ D by omega) (row.map Val.c) i (by simpa using hi) (by simpa using hbl)
     have hol : (offL i row).length ≤ big := by rw [Z0v hi]; omega
     have e5 := Z8i (show 2 ≤ D by omega) ((offL i row).map Val.c) (by rw [List.length_map]; exact hol)
     have q1 : offL i (row.map Val.c) = (offL i row).map Val.c := Zo6 _ _ _
     have q2 : ((offL i row).map Val.c ++ [zVal]).take (row.length - 1) = (offL i row).map Val.c := by
      rw [← Z0v hi, ← List.length_map (f := Val.c), List.take_left]
     have q3 : row.length - 1 ≤ (offL i row).length + 1 := by rw [Z0v hi]; omega
     simp only [List.length_map] at h4
     simp only [c_q95, go_sem, e0, e1, e5, ha, hk1, hk2, hm, hw, h4, q1, q2, q3, V4, if_true, if_false, List.length_map, List.length_append, Zg, Nat.zero_le, Nat.le_refl]
   · have hk1 : (c.k = 1) = False := by rw [hk]; decide
     have hk2 : (c.k = 2) = False := by rw [hk]; decide
     have hk4 : (c.k = 4) = False := by rw [hk]; decide
     simp only [c_q95, go_sem, e0, e1, ha, hk1, hk2, hk4, hm, htk, if_true, if_false, List.length_map, Zg, Nat.zero_le, Nat.le_refl]
   · have hk1 : (c.k = 1) = False := by rw [hk]; decide
     have hk2 : (c.k = 2) = False := by rw [hk]; decide
     have hk4 : (c.k = 4) = True := by rw [hk]; decide
     have hx : row[i]? = some row[i] := List.getElem?_eq_getElem hi
     simp only [ha, hx]
     generalize row[i] = x at hx
     have hxr := Zq (f := Val.c) hx
     have ev := Zuy (show 3 ≤ D by omega) x c.col.k (hr x (List.mem_of_getElem? hx))
     have em : (row.set i (Z23 x c.col.k)).map Val.c = (row.map Val.c).set i (Z23 x c.col.k).c := List.map_set
     have e5 := Z8i (show 2 ≤ D by omega) ((row.set i (Z23 x c.col.k)).map Val.c) (by simpa using hbl)
     have rsa := Zg (row.set i (Z23 x c.col.k))
     have tk : ∀ r, List.take row.length ((row.map Val.c).set i r) = (row.map Val.c).set i r := fun r => List.take_of_length_le (by simp)
     rw [em] at e5 rsa
     simp only [c_q95, go_sem, e0, e1, e5, ev, hk1, hk2, hk4, hm, hi, hxr, htk, em, rsa, tk, V4, if_true, if_false, List.length_map, List.length_set, Zg, Nat.zero_le, Nat.le_refl]
end Go.Vm.T
namespace Go.Vm.T
theorem Y0n (i j : Nat) : ∀ (s : List ColV) (cs : List Chg), runI chgG i s cs = runI chgG j s cs := by
 intro s cs
 induction cs generalizing i j s with
 | nil => rfl
 | cons c cs ih =>
   unfold runI chgG
   cases (chgA s c).2 with
   | true => exact ih (i + 1) (j + 1) _
   | false => rfl
theorem Z3p (s : List ColV) (c : Chg) (cs : List Chg) : chgs s (c :: cs) = if (chgA s c).2 = true then chgs (chgA s c).1 cs else none := by
 unfold chgs
 conv => lhs; unfold runI chgG
 cases h : (chgA s c).2 with
 | true =>
   simp only [cond_true, if_true]
   show (match runI chgG (0 + 1) (chgA s c).1 cs with | .inl s' => some s' | .inr _ => none) = _
   rw [Y0n (0 + 1) 0]
   first | done | rfl
 | false => rfl
theorem Zfm (s : List ColV) : chgs s [] = some s := rfl
theorem Z2l {s s' : List ColV} {cs : List Chg} (hs : Zk s = true) (h : chgs s cs = some s') : Zk s' = true := by
 induction cs generalizing s with
 | nil => rw [Zfm] at h; cases h; exact hs
 | cons c cs ih =>
   rw [Z3p] at h
   split at h
   · rename_i hc; exact ih (Z9b hc) h
   · cases h
theorem Zfa (s : List ColV) (as bs : List Chg) : chgs s (as ++ bs) = match chgs s as with | some t => chgs t bs | none => none := by
 induction as generalizing s with
 | nil => rfl
 | cons c cs ih =>
   rw [List.cons_append, Z3p, Z3p]
   split
   · exact ih _
   · rfl
def rwG (_ : Nat) (b : List ColV × List Val) (c : Chg) : (List ColV × List Val) ⊕ Unit := .inl ((chgA b.1 c).1, rowA b.1 c b.2)
def Zdj (b : List ColV × List Val) (cs : List Chg) : List ColV × List Val := cs.foldl (fun b c => ((chgA b.1 c).1, rowA b.1 c b.2)) b
def Zca (s : List ColV) (cs : List Chg) (row : List Val) : List Val := (Zdj (s, row) cs).2
theorem Zud : ∀ (cs : List Chg) (i : Nat) (b : List ColV × List Val), runI rwG i b cs = .inl (Zdj b cs)
 | [], i, b => rfl
 | c :: cs, i, b => Zud cs (i + 1) _
variable [Pr1]
theorem Zru {s s' : List ColV} {cs : List Chg} {row : List Val} (h : chgs s cs = some s') (hl : row.length = s.length) : (Zca s cs row).length = s'.length := by
 unfold Zca
 induction cs generalizing s row with
 | nil => rw [Zfm] at h; cases h; exact hl
 | cons c cs ih =>
   rw [Z3p] at h
   split at h
   · rename_i hc; exact ih h (Zoq hc hl)
   · cases h
theorem Zb8 {s : List ColV} {cs : List Chg} {row : List Val} (hr : Z2x row) (hc : ∀ c ∈ cs, SmallG c) : Z2x (Zca s cs row) := by
 unfold Zca
 induction cs generalizing s row with
 | nil => exact hr
 | cons c cs ih => exact ih (Zf0 hr (hc c List.mem_cons_self)) (fun c h => hc c (List.mem_cons_of_mem _ h))
def rwS (s : List ColV) (cs : List Chg) (i : Nat) (b : List ColV × List Val) : St :=
 if i = 0 then ⟨upd (upd (upd (upd (upd (fun _ => .bad) 0 (.lit Z0 (s.map ColV.c))) 7 (.ref Z1 0 0 b.2.length b.2.length false)) 12 (.lit Z4 (cs.map Chg.c))) 13 (.n cs.length)) 14 (.n i), upd (fun _ => none) 0 (some ⟨Z1, b.2.map Val.c, true, false⟩), 1, 0⟩
 else ⟨upd (upd (upd (upd (upd (fun _ => .bad) 0 (.ref Z0 0 0 b.1.length b.1.length false)) 7 (.ref Z1 1 0 b.2.length b.2.length false)) 12 (.lit Z4 (cs.map Chg.c))) 13 (.n cs.length)) 14 (.n i), upd (upd (fun _ => none) 0 (some ⟨Z0, b.1.map ColV.c, true, false⟩)) 1 (some ⟨Z1, b.2.map Val.c, true, false⟩), 2, 0⟩
structure RwI (s : List ColV) (cs : List Chg) (i : Nat) (b : List ColV × List Val) : Prop where
 cols : SmallC b.1
 clen : b.1.length + 1 ≤ big
 vals : Z2x b.2
 len : b.2.length = b.1.length
 rest : (chgs b.1 (cs.drop i)).isSome = true
 first : i = 0 → b.1 = s
theorem RwI.step {s : List ColV} {cs : List Chg} {i : Nat} {b : List ColV × List Val} (I : RwI s cs i b) {c : Chg} (hc : cs[i]? = some c) (hg : SmallG c) : (chgA b.1 c).2 = true ∧ RwI s cs (i + 1) ((chgA b.1 c).1, rowA b.1 c b.2) ∧
 (c.k = 1 ∨ ((c.k = 2 ∨ c.k = 3 ∨ c.k = 4) ∧ ∃ i, nmAt c.nm b.1 = some i ∧ i < b.2.length)) := by
 have hi : i < cs.length := (List.getElem?_eq_some_iff.1 hc).1
 have hd : cs.drop i = c :: cs.drop (i + 1) := by
  rw [List.drop_eq_getElem_cons hi]
  congr 1
  exact (List.getElem?_eq_some_iff.1 hc).2
 have hr := I.rest
 rw [hd, Z3p] at hr
 have hq : (chgA b.1 c).2 = true := by
  cases h : (chgA b.1 c).2 with
  | true => rfl
  | false => rw [h] at hr; cases hr
 rw [if_pos hq] at hr
 have hsh := Xs (Z9b hq)
 refine ⟨hq, ⟨hsh.1, hsh.2, Zf0 I.vals hg, Zoq hq I.len, hr, fun h => by omega⟩, ?_⟩
 obtain ⟨_, hk, _⟩ := Zj6 hq
 rcases hk with hk | ⟨hk, i, x, h1, h2, h3, h4⟩
 · exact .inl hk
 · exact .inr ⟨hk, i, h1, by rw [I.len]; exact h3⟩
theorem Zh3 {D : Nat} (hD : 5 ≤ D) (s : List ColV) (cs : List Chg) (row : List Val) (hc : ∀ c ∈ cs, SmallG c) (hcl : cs.length ≤ big) (I : RwI s cs 0 (s, row)) :
 Xr (Z9 (exec ⟨den pr D, dcl pr D, dfl pr D⟩ Zn3) [0, 7, 12, 13, 14] rounds (rwS s cs 0 (s, row))) (List ColV × List Val) Unit (.inl (Zdj (s, row) cs))
  (fun b o => ∃ σ' m, o = .exit 0 σ' ∧ σ'.s 7 = .ref Z1 m 0 b.2.length b.2.length false ∧ σ'.h m = some ⟨Z1, b.2.map Val.c, true, false⟩) (fun _ o => False) := by
 rw [← Zud cs 0]
 refine Zh cs (rwS s cs) rwG (RwI s cs) _ _ (s, row) I hcl (fun i b c K hcx hlt hI => ?_) (fun b K hI => ?_)
 · obtain ⟨hq, hI', hk⟩ := hI.step hcx (hc c (List.mem_of_getElem? hcx))
   have hr := Zq (f := Chg.c) hcx
   have hw := Zf (n := i) (by unfold big at hcl; omega)
   have hg := hc c (List.mem_of_getElem? hcx)
   have e1 := Zo5 hD b.1 c hI.cols hI.clen hg
   have e2 := Znp hD b.1 c b.2 hI.cols hg hI.vals (by rw [hI.len]; exact hI.clen) hk
   have htc : (b.1.map ColV.c).take b.1.length = b.1.map ColV.c := List.take_of_length_le (by simp)
   have htv : (b.2.map Val.c).take b.2.length = b.2.map Val.c := List.take_of_length_le (by simp)
   refine ⟨?_, hI'⟩
   obtain ⟨bs, br⟩ := b
   simp only at e1 e2 htc htv hq
   rw [hq] at e1
   cases i with
   | zero =>
     have hf := hI.first rfl
     simp only at hf
     subst hf
     unfold rwS
     rw [if_pos rfl, if_neg (by omega)]
     simp only [Z9, Zhm, Z9p, go_sem, List.length_map, hr, hlt, hw, e1, e2, htc, htv, Z6, Zg, Nat.le_refl]
   | succ i =>
     unfold rwS
     rw [if_neg (by omega), if_neg (by omega)]
     simp only [Z9, Zhm, Z9p, go_sem, List.length_map, hr, hlt, hw, e1, e2, htc, htv, Z6, Zg, Nat.le_refl]
 · have hi : ¬ cs.length < cs.length := by omega
   obtain ⟨bs, br⟩ := b
   unfold rwS
   split
   · simp only [Z9, Zhm, Z9p, go_sem, List.length_map, hi]
     exact ⟨_, rfl, _, _, rfl, rfl, rfl⟩
   · simp only [Z9, Zhm, Z9p, go_sem, List.length_map, hi]
     exact ⟨_, rfl, _, _, rfl, rfl, rfl⟩
theorem Zki {D : Nat} (hD : 6 ≤ D) (s : List ColV) (cs : List Chg) (row : List Val) (hc : ∀ c ∈ cs, SmallG c) (hcl : cs.length ≤ big) (I : RwI s cs 0 (s, row)) :
 den pr D Zly [.lit Z0 (s.map ColV.c), .lit Z4 (cs.map Chg.c), .lit Z1 (row.map Val.c)] = some [.olit Z1 ((Zca s cs row).map Val.c)] := by
 obtain ⟨D, rfl, hd⟩ := Z8 hD
 rw [Y5o]
 have e0 := Z8i (show 2 ≤ D by omega) (row.map Val.c) (by rw [List.length_map]; have := I.len; have := I.clen; simp only at *; omega)
 obtain ⟨out, lo, lp⟩ := Zh3 hd s cs row hc hcl I
 unfold rwS at lo
 rw [if_pos rfl, show ((0 : Nat) : Int) = 0 from rfl] at lo
 simp only at lp lo
 obtain ⟨σ', m, rfl, l1, l2⟩ := lp
 have htv : ((Zdj (s, row) cs).2.map Val.c).take (Zdj (s, row) cs).2.length = (Zdj (s, row) cs).2.map Val.c := List.take_of_length_le (by simp)
 simp only [c_q71, go_sem, e0, lo, l1, l2, List.length_map, Zg, Nat.le_refl, htv, Zca]
end Go.Vm.T
end
