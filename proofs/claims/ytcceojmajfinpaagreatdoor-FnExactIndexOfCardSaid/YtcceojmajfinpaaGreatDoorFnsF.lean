/-
  A table that is right and what is asked, of the program's
-/
import Derived.Test.YtcceojmajfinpaaGreatDoorFnsE
section
set_option linter.unusedVariables false
set_option linter.unusedSectionVars false
set_option linter.unusedSimpArgs false
namespace Go.Vm.T
open Go.Proofs
def Zbb (t : Tab) (_ : Nat) (last : Int) (r : RowV) : Int ⊕ Unit :=
 bif inB r.id (last + 1) (t.next - 1) && (inB r.ver 0 t.chg.length && (Z7o ((chgs t.first (t.chg.take r.ver.toNat)).getD []) r.vals && Z7o (Zc t) (nowV t r))) then .inl r.id else .inr ()
def Zcn (t : Tab) : Bool := match runI (Zbb t) 0 0 t.rows with | .inl _ => true | .inr _ => false
def Z44 (t : Tab) : Bool := (Z3k t.first t.chg).isSome && (decide (t.chg.length ≤ 8) && (decide (t.rows.length ≤ 8) && (inB t.next 1 60 && (Zcn t && tabB t))))
def jk : Option A → A
 | some a => .ifg false a
 | none => .und
theorem Xf (σ : St) (d : Option Nat) (o : Option A) (k : Option St) : Xc false σ d o k = some ⟨put σ.s d (jk o), σ.h, σ.n, σ.base⟩ := by cases o <;> rfl
theorem Z84 (σ : St) (d : Option Nat) (o : Option A) : Xt false σ d o = some ⟨put σ.s d (jk o), σ.h, σ.n, σ.base⟩ := by cases o <;> rfl
theorem Y2n (a : A) : ∃ q, opQ false a = some q := by
 unfold opQ
 split
 · exact ⟨_, rfl⟩
 · exact ⟨_, rfl⟩
 · exact ⟨_, rfl⟩
theorem bq {β : Type} (X a : A) (f : A → Option β) : bnd (bnd (opQ false X) fun _ => some a) f = f a := by
 obtain ⟨q, hq⟩ := Y2n X
 rw [hq]
 rfl
variable [Pr2]
def g86 : List G := [.g 81 false (.call (some 86) 1 0 Yb [(.t 82), (.t 85)]), .g 81 false (.un 87 .not (.t 86)), .o (.pick 88 (.t 81) (.k (.v (.bool true))) (.t 87))]
noncomputable def tl85 (E : Env) (σ : St) (o : Option A) : Nat → A := match bnd (Xc false σ (some 85) o none) (Za E 1 g86) with | some τ => τ.s | none => σ.s
theorem Y2p (E : Env) (σ : St) (o : Option A) (k : Option St) (h : σ.s 81 = .q true) : bnd (Xc false σ (some 85) o k) (Za E 1 [.g 81 false (.call (some 86) 1 0 Yb [(.t 82), (.t 85)]), .g 81 false (.un 87 .not (.t 86)), .o (.pick 88 (.t 81) (.k (.v (.bool true))) (.t 87))]) = some ⟨upd (tl85 E σ o) 88 (.q true), σ.h, σ.n, σ.base⟩ := by
 have key : ∃ f, bnd (Xc false σ (some 85) o none) (Za E 1 g86) = some ⟨upd f 88 (.q true), σ.h, σ.n, σ.base⟩ := by
  rw [Xf]
  obtain ⟨s, hp, n, b⟩ := σ
  simp only at h
  simp only [g86, go_sem, h, Xf, Z84]
  rw [bq]
  exact ⟨_, rfl⟩
 obtain ⟨f, hf⟩ := key
 have : tl85 E σ o = upd f 88 (.q true) := by unfold tl85; rw [hf]
 rw [this, Xf, ← Xf _ _ _ none]
 rw [show upd (upd f 88 (.q true)) 88 (.q true) = upd f 88 (.q true) from by funext i; simp only [Z7]; split <;> rfl]
 exact hf
theorem Zbu {s : List ColV} {row : List Val} (h : Z7o s row = true) : row.length = s.length := by
 unfold Z7o at h
 simp at h
 exact h.1
structure RowF (D : Nat) (t : Tab) (m : Int) (i v : Nat) (rid : Int) (rvals : List Val) (s : List ColV) : Prop where
 hr : (t.rows.map RowV.c)[i]? = some (RowV.mk rid v rvals).c
 hlt : i < t.rows.length
 hw : IntKind.i64.wrap ((i : Int) + 1) = ((i + 1 : Nat) : Int)
 hw1 : IntKind.i64.wrap (m + 1) = m + 1
 hw2 : IntKind.i64.wrap (t.next - 1) = t.next - 1
 e1 : den pr D Xg [.n rid, .n (m + 1), .n (t.next - 1)] = some [.q true]
 e2 : den pr D Xg [.n v, .n 0, .n t.chg.length] = some [.q true]
 e3 : den pr D Yt [.lit Z0 (t.first.map ColV.c), .lit Z4 ((t.chg.map Chg.c).take v)] = some [.olit Z0 (s.map ColV.c), .q true]
 v0 : (0 : Int) ≤ (v : Int)
 vt : ((v : Int)).toNat = v
 hvl : v ≤ t.chg.length
 hts : (s.map ColV.c).take s.length = s.map ColV.c
 htf : List.take t.chg.length (List.map Chg.c t.chg) = List.map Chg.c t.chg
abbrev Zvx (t : Tab) (i : Nat) (m : Int) : St := ⟨upd (upd (upd (upd (upd (upd (fun _ => .bad) 1 (.ptr 0 0 0)) 3 (.ref Z0 1 0 (Zc t).length (Zc t).length false)) 5 (.n m)) 39 (.lit Z5 (t.rows.map RowV.c))) 40 (.n t.rows.length)) 41 (.n i), upd (upd (fun _ => none) 0 (some ⟨Zb, [t.c], true, true⟩)) 1 (some ⟨Z0, (Zc t).map ColV.c, true, false⟩), 2, 0⟩
theorem Y38 {D : Nat} {t : Tab} {m : Int} {i v : Nat} {rid : Int} {rvals : List Val} {s : List ColV} (F : RowF D t m i v rid rvals s) (e4 : den pr D Yb [.lit Z0 (s.map ColV.c), .lit Z1 (rvals.map Val.c)] = some [.q false]) (K : Nat) :
 ∃ out, Z9 (exec ⟨den pr D, dcl pr D, dfl pr D⟩ Xd) [1, 3, 5, 39, 40, 41] (K + 1) (Zvx t i m) = some out ∧ ∃ σ', out = .ret σ' ∧ σ'.s 2 = .q false := by
 obtain ⟨hr, hlt, hw, hw1, hw2, e1, e2, e3, v0, vt, hvl, hts, htf⟩ := F
 simp only [Z9, W0, X4, go_sem, List.length_map, hr, hlt, hw, hw1, hw2, e1, e2, e3, e4, v0, vt, hvl, hts, htf, Y2p, Z6, Nat.le_refl, Nat.zero_le, Option.isNone_none, and_self, if_true, List.drop_zero, Nat.sub_zero]
 exact ⟨_, rfl, _, rfl, rfl⟩
theorem Y45 {D : Nat} {t : Tab} {m : Int} {i v : Nat} {rid : Int} {rvals : List Val} {s : List ColV} (F : RowF D t m i v rid rvals s) (e4 : den pr D Yb [.lit Z0 (s.map ColV.c), .lit Z1 (rvals.map Val.c)] = some [.q true])
 (row : List Val) (e5 : den pr D Zbq [.agg t.c, .agg (RowV.mk rid v rvals).c] = some [.olit Z1 (row.map Val.c)]) (e6 : den pr D Yb [.lit Z0 ((Zc t).map ColV.c), .lit Z1 (row.map Val.c)] = some [.q true]) (K : Nat) :
 Z9 (exec ⟨den pr D, dcl pr D, dfl pr D⟩ Xd) [1, 3, 5, 39, 40, 41] (K + 1) (Zvx t i m) = Z9 (exec ⟨den pr D, dcl pr D, dfl pr D⟩ Xd) [1, 3, 5, 39, 40, 41] K (Zvx t (i + 1) rid) := by
 obtain ⟨hr, hlt, hw, hw1, hw2, e1, e2, e3, v0, vt, hvl, hts, htf⟩ := F
 have htn : (row.map Val.c).take row.length = row.map Val.c := List.take_of_length_le (by simp)
 have htsh : ((Zc t).map ColV.c).take (Zc t).length = (Zc t).map ColV.c := List.take_of_length_le (by simp)
 simp only [Z9, W0, X4, go_sem, List.length_map, hr, hlt, hw, hw1, hw2, e1, e2, e3, e4, e5, e6, v0, vt, hvl, hts, htf, htn, htsh, Z6, Zg, Nat.le_refl, Nat.zero_le, Option.isNone_none, and_self, if_true, List.drop_zero, Nat.sub_zero]
theorem Y2e {D : Nat} {t : Tab} {m : Int} {i v : Nat} {rid : Int} {rvals : List Val} {s : List ColV} (F : RowF D t m i v rid rvals s) (e4 : den pr D Yb [.lit Z0 (s.map ColV.c), .lit Z1 (rvals.map Val.c)] = some [.q true])
 (row : List Val) (e5 : den pr D Zbq [.agg t.c, .agg (RowV.mk rid v rvals).c] = some [.olit Z1 (row.map Val.c)]) (e6 : den pr D Yb [.lit Z0 ((Zc t).map ColV.c), .lit Z1 (row.map Val.c)] = some [.q false]) (K : Nat) :
 ∃ out, Z9 (exec ⟨den pr D, dcl pr D, dfl pr D⟩ Xd) [1, 3, 5, 39, 40, 41] (K + 1) (Zvx t i m) = some out ∧ ∃ σ', out = .ret σ' ∧ σ'.s 2 = .q false := by
 obtain ⟨hr, hlt, hw, hw1, hw2, e1, e2, e3, v0, vt, hvl, hts, htf⟩ := F
 have htn : (row.map Val.c).take row.length = row.map Val.c := List.take_of_length_le (by simp)
 have htsh : ((Zc t).map ColV.c).take (Zc t).length = (Zc t).map ColV.c := List.take_of_length_le (by simp)
 simp only [Z9, W0, X4, go_sem, List.length_map, hr, hlt, hw, hw1, hw2, e1, e2, e3, e4, e5, e6, v0, vt, hvl, hts, htf, htn, htsh, Z6, Zg, Nat.le_refl, Nat.zero_le, Option.isNone_none, and_self, if_true, List.drop_zero, Nat.sub_zero]
 exact ⟨_, rfl, _, rfl, rfl⟩
theorem Zqe {D : Nat} (hD : 8 ≤ D) (t : Tab) (ht : SmallT t) (hn : 1 ≤ t.next ∧ t.next ≤ 60) (hall : (chgs t.first t.chg).isSome = true) :
 Xr (Z9 (exec ⟨den pr D, dcl pr D, dfl pr D⟩ Xd) [1, 3, 5, 39, 40, 41] rounds ⟨upd (upd (upd (upd (upd (upd (fun _ => .bad) 1 (.ptr 0 0 0)) 3 (.ref Z0 1 0 (Zc t).length (Zc t).length false)) 5 (.n 0)) 39 (.lit Z5 (t.rows.map RowV.c))) 40 (.n t.rows.length)) 41 (.n (0 : Nat)), upd (upd (fun _ => none) 0 (some ⟨Zb, [t.c], true, true⟩)) 1 (some ⟨Z0, (Zc t).map ColV.c, true, false⟩), 2, 0⟩) Int Unit (runI (Zbb t) 0 0 t.rows)
  (fun m o => ∃ σ', o = .exit 0 σ' ∧ σ'.s 1 = .ptr 0 0 0 ∧ σ'.h 0 = some ⟨Zb, [t.c], true, true⟩) (fun _ o => ∃ σ', o = .ret σ' ∧ σ'.s 2 = .q false) := by
 refine Zh t.rows (fun i (m : Int) => ⟨upd (upd (upd (upd (upd (upd (fun _ => .bad) 1 (.ptr 0 0 0)) 3 (.ref Z0 1 0 (Zc t).length (Zc t).length false)) 5 (.n m)) 39 (.lit Z5 (t.rows.map RowV.c))) 40 (.n t.rows.length)) 41 (.n i), upd (upd (fun _ => none) 0 (some ⟨Zb, [t.c], true, true⟩)) 1 (some ⟨Z0, (Zc t).map ColV.c, true, false⟩), 2, 0⟩) (Zbb t) (fun _ m => 0 ≤ m ∧ m ≤ 60) _ _ 0 ⟨by omega, by omega⟩ ht.rlen (fun i m r K hc hlt hI => ?_) (fun m K hI => ?_)
 · have hr := Zq (f := RowV.c) hc
   have hw := Zf (n := i) (by have := ht.rlen; unfold big at this; omega)
   have hw1 : IntKind.i64.wrap (m + 1) = m + 1 := wrap_i64 (by omega) (by omega)
   have hw2 : IntKind.i64.wrap (t.next - 1) = t.next - 1 := wrap_i64 (by omega) (by omega)
   have e1 := d_in (show 1 ≤ D by omega) r.id (m + 1) (t.next - 1)
   have e2 := d_in (show 1 ≤ D by omega) r.ver 0 t.chg.length
   have hv := ht.vals r (List.mem_of_getElem? hc)
   unfold Zbb
   cases p1 : inB r.id (m + 1) (t.next - 1) with
   | false =>
     rw [p1] at e1
     simp only [Z9, W0, X4, go_sem, List.length_map, hr, hlt, hw, hw1, hw2, e1, e2]
     exact ⟨_, rfl, _, rfl, rfl⟩
   | true =>
     rw [p1] at e1
     cases p2 : inB r.ver 0 t.chg.length with
     | false =>
       rw [p2] at e2
       simp only [Z9, W0, X4, go_sem, List.length_map, hr, hlt, hw, hw1, hw2, e1, e2]
       exact ⟨_, rfl, _, rfl, rfl⟩
     | true =>
       rw [p2] at e2
       obtain ⟨v, hver⟩ : ∃ v : Nat, r.ver = v := ⟨r.ver.toNat, by unfold inB at p2; simp at p2; omega⟩
       have hvl : v ≤ t.chg.length := by unfold inB at p2; simp at p2; omega
       have hvt : r.ver.toNat = v := by omega
       have hap := Zfa t.first (t.chg.take v) (t.chg.drop v)
       rw [List.take_append_drop] at hap
       obtain ⟨rid, rver, rvals⟩ := r
       simp only at hver hv e1 e2 p1 p2 hvt hr ⊢
       subst hver
       obtain ⟨s, hs⟩ : ∃ s, chgs t.first (t.chg.take v) = some s := by
        cases hq : chgs t.first (t.chg.take v) with
        | some s => exact ⟨s, rfl⟩
        | none => rw [hq] at hap; rw [hap] at hall; cases hall
       have hg := ht.glen
       have e3 := Z8o (show 6 ≤ D by omega) t.first (t.chg.take v) ht.cols ht.clen (fun c hc => ht.chg c (List.mem_of_mem_take hc)) (by rw [List.length_take]; omega)
       rw [hvt, hs]
       rw [hs] at e3
       simp only [Option.getD_some, Option.isSome_some] at e3 ⊢
       have e4 := Zrc (show 3 ≤ D by omega) s rvals hv.1 (by omega)
       have m1 : (t.chg.take v).map Chg.c = (t.chg.map Chg.c).take v := List.map_take
       rw [m1] at e3
       have v0 : (0 : Int) ≤ (v : Int) := by omega
       have vt : ((v : Int)).toNat = v := by omega
       have hts : (s.map ColV.c).take s.length = s.map ColV.c := List.take_of_length_le (by simp)
       have htf : List.take t.chg.length (List.map Chg.c t.chg) = List.map Chg.c t.chg := List.take_of_length_le (by simp)
       have F : RowF D t m i v rid rvals s := ⟨hr, hlt, hw, hw1, hw2, e1, e2, e3, v0, vt, hvl, hts, htf⟩
       cases p3 : Z7o s rvals with
       | false =>
         rw [p3] at e4
         exact Y38 F e4 K
       | true =>
         rw [p3] at e4
         have hN : NowOk t ⟨rid, v, rvals⟩ := ⟨v0, by show (v : Int) ≤ _; omega, hall, by show rvals.length = ((chgs t.first (t.chg.take ((v : Int)).toNat)).getD []).length; rw [hvt, hs]; exact Zbu p3, hv.1⟩
         have e5 := Y15 (show 7 ≤ D by omega) t ht ⟨rid, v, rvals⟩ hN
         have hns := Zb8 (s := s) (cs := t.chg.drop v) hv.1 (fun c hc => ht.chg c (List.mem_of_mem_drop hc))
         have hnl := Z9y hN
         have hsn : nowV t ⟨rid, v, rvals⟩ = Zca s (t.chg.drop v) rvals := by unfold nowV; simp only [hvt, hs, Option.getD_some]
         have e6 := Zrc (show 3 ≤ D by omega) (Zc t) (nowV t ⟨rid, v, rvals⟩) (by rw [hsn]; exact hns) (by
          rw [hnl]
          obtain ⟨s', hs'⟩ := Option.isSome_iff_exists.1 hall
          have := (Za1 ⟨ht.cols, ht.clen⟩ hs').2
          unfold Zc
          rw [hs']
          simp only [Option.getD_some]; omega)
         have hidb : 0 ≤ rid ∧ rid ≤ 60 := by unfold inB at p1; simp at p1; omega
         cases p4 : Z7o (Zc t) (nowV t ⟨rid, v, rvals⟩) with
         | false =>
           rw [p4] at e6
           exact Y2e F e4 _ e5 e6 K
         | true =>
           rw [p4] at e6
           exact ⟨Y45 F e4 _ e5 e6 K, hidb⟩
 · have hi : ¬ t.rows.length < t.rows.length := by omega
   simp only [Z9, W0, X4, go_sem, List.length_map, hi]
   exact ⟨_, rfl, _, rfl, rfl, rfl⟩
end Go.Vm.T
namespace Go.Vm.T
open Go.Proofs
variable [Pr2]
theorem Zaw {t : Tab} {m : Int} : ∀ {rs : List RowV} {i : Nat} {last : Int}, runI (Zbb t) i last rs = .inl m → (chgs t.first t.chg).isSome = true → (∀ r ∈ rs, Z2x r.vals) → ∀ r ∈ rs, NowOk t r
 | [], i, last, _, _, _, r, h => by simp at h
 | x :: rs, i, last, hr, hall, hv, r, h => by
   unfold runI Zbb at hr
   cases hq : inB x.id (last + 1) (t.next - 1) && (inB x.ver 0 t.chg.length && (Z7o ((chgs t.first (t.chg.take x.ver.toNat)).getD []) x.vals && Z7o (Zc t) (nowV t x))) with
   | false => rw [hq] at hr; cases hr
   | true =>
     rw [hq] at hr
     rcases List.mem_cons.1 h with h | h
     · subst h
       simp only [Bool.and_eq_true] at hq
       obtain ⟨_, h2, h3, _⟩ := hq
       have h2' : 0 ≤ r.ver ∧ r.ver ≤ t.chg.length := by unfold inB at h2; simpa using h2
       exact ⟨h2'.1, h2'.2, hall, Zbu h3, hv r List.mem_cons_self⟩
     · exact Zaw hr hall (fun r h => hv r (List.mem_cons_of_mem _ h)) r h
structure TabOk (t : Tab) : Prop where
 once : OnceOk t
 sh : Zk t.first = true
 shape : Zk (Zc t) = true
 glen : t.chg.length ≤ 8
 rlen : t.rows.length ≤ 8
 next : 1 ≤ t.next ∧ t.next ≤ 60
 rows : Zcn t = true
 tab : tabB t = true
theorem Zp4 {t : Tab} (ht : SmallT t) (h : Z44 t = true) : TabOk t := by
 unfold Z44 at h
 simp only [Bool.and_eq_true, decide_eq_true_eq] at h
 obtain ⟨h1, h2, h3, h4, h5, h6⟩ := h
 have hs : Zk t.first = true := by
  unfold Z3k at h1
  split at h1
  · rename_i hs; exact hs
  · cases h1
 unfold Z3k at h1
 rw [if_pos hs] at h1
 obtain ⟨s', hs'⟩ := Option.isSome_iff_exists.1 h1
 have hr : ∀ r ∈ t.rows, NowOk t r := by
  have h5' := h5
  unfold Zcn at h5'
  split at h5'
  · rename_i m hm
    exact Zaw hm h1 (fun r h => (ht.vals r h).1)
  · cases h5'
 exact ⟨⟨ht, h1, hr⟩, hs, by unfold Zc; rw [hs']; exact Z2l hs hs', h2, h3, by unfold inB at h4; simpa using h4, h5, h6⟩
theorem Zs8 {D : Nat} (hD : 9 ≤ D) (t : Tab) (ht : SmallT t) : den pr D Wb [.agg t.c] = some [.q (Z44 t)] := by
 obtain ⟨D, rfl, hd⟩ := Z8 hD
 rw [Zd1]
 have e1 := Zpt (show 7 ≤ D by omega) t.first t.chg ht.cols ht.clen ht.chg ht.glen
 have e2 := d_in (show 1 ≤ D by omega) t.next 1 60
 unfold Z44
 cases p1 : (Z3k t.first t.chg).isSome with
 | false =>
   rw [p1] at e1
   simp only [c_impl_TableOk, go_sem, e1, e2, List.length_map, Z6]
 | true =>
   rw [p1] at e1
   have hsh : (Z3k t.first t.chg).getD [] = Zc t := by
    unfold Z3k at *
    split at p1
    · rename_i hs; rw [if_pos hs]; rfl
    · cases p1
   have hall : (chgs t.first t.chg).isSome = true := by
    unfold Z3k at p1
    split at p1
    · exact p1
    · cases p1
   rw [hsh] at e1
   have i1 : ((8 : Int) < (t.chg.length : Int)) = ¬ (t.chg.length ≤ 8) := by rw [eq_iff_iff]; omega
   have i2 : ((8 : Int) < (t.rows.length : Int)) = ¬ (t.rows.length ≤ 8) := by rw [eq_iff_iff]; omega
   rcases pf (t.chg.length ≤ 8) with h1 | h1
   · rcases pf (t.rows.length ≤ 8) with h2 | h2
     · cases p2 : inB t.next 1 60 with
       | false =>
         rw [p2] at e2
         simp only [c_impl_TableOk, go_sem, e1, e2, List.length_map, Z6, i1, i2, h1, h2]
       | true =>
         rw [p2] at e2
         have hn : 1 ≤ t.next ∧ t.next ≤ 60 := by unfold inB at p2; simpa using p2
         obtain ⟨out, lo, lp⟩ := Zqe hd t ht hn hall
         rw [show ((0 : Nat) : Int) = 0 from rfl] at lo
         cases hq : runI (Zbb t) 0 0 t.rows with
         | inl m =>
           rw [hq] at lp
           obtain ⟨σ', rfl, l1, l2⟩ := lp
           have hB : Zcn t = true := by unfold Zcn; rw [hq]
           have H : OnceOk t := ⟨ht, hall, Zaw hq hall (fun r h => (ht.vals r h).1)⟩
           have e3 := Y3d (show 1 ≤ D by omega) t H
           simp only [c_impl_TableOk, go_sem, e1, e2, List.length_map, Z6, i1, i2, h1, h2, lo, l1, l2, e3, hB]
         | inr u =>
           rw [hq] at lp
           obtain ⟨σ', rfl, l2⟩ := lp
           have hB : Zcn t = false := by unfold Zcn; rw [hq]
           simp only [c_impl_TableOk, go_sem, e1, e2, List.length_map, Z6, i1, i2, h1, h2, lo, l2, hB]
     · simp only [c_impl_TableOk, go_sem, e1, e2, List.length_map, Z6, i1, i2, h1, h2]
   · simp only [c_impl_TableOk, go_sem, e1, e2, List.length_map, Z6, i1, i2, h1]
end Go.Vm.T
namespace Go.Vm.T
open Go.Proofs
variable [Pr2]
end Go.Vm.T
namespace Go.Vm.T
open Go.Proofs
abbrev Z39 (vs : List Val) : List A := [.lit Z1 (vs.map Val.c)]
variable [Pr2]
end Go.Vm.T
namespace Go.Vm.T
open Go.Proofs
variable [Pr2]
end Go.Vm.T
end
