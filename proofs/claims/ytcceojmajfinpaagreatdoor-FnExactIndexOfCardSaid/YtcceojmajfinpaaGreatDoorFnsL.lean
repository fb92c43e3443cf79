/-
  The law, statement by statement
-/
import Derived.Test.YtcceojmajfinpaaGreatDoorFnsK
import Derived.Test.YtcceojmajfinpaaGreatDoorFnsC
import Derived.WideShapes
section
set_option linter.unusedVariables false
set_option linter.unusedSectionVars false
set_option linter.unusedSimpArgs false
namespace Go.Vm.T
open Go.Proofs
variable [Pr2]
theorem Y1e (rows : List RowV) : (rows.map rowK).sum ≤ 3 * (rows.length + (rows.map rowW).sum) := by
 induction rows with
 | nil => simp
 | cons r rows ih =>
   simp only [List.map_cons, List.sum_cons, List.length_cons, rowK, rowW] at *
   omega
theorem Zqh {D : Nat} (hD : 5 ≤ D) (t : Tab) (hf : FitT t) : ∃ m : Int, den pr D Xo [.agg (tabL t), .n cap] = some [.n m] ∧ (m < 0 ∨ (MidT t ∧ Sums t ∧ 0 ≤ m ∧ m ≤ cap)) := by
 obtain ⟨D, rfl, hd⟩ := Z8 hD
 obtain ⟨m, e0, hm⟩ := Zt1 (D := D + 1) hD t hf
 refine ⟨m, e0, ?_⟩
 by_cases hneg : m < 0
 · exact .inl hneg
 · refine .inr ⟨hm.resolve_left hneg, ?_⟩
   rw [Z6x] at e0
   have c0 : (0 : Int) ≤ cap := by decide
   have e1 := Zom (show 3 ≤ D by omega) t.first cap c0 (Int.le_refl _) hf.clen hf.cols
   by_cases h1 : Wm colW cap t.first < 0
   · simp only [c_laws_szTable, go_sem, e1, h1] at e0
     simp only [Option.some.injEq, List.cons.injEq, A.v.injEq, Value.int.injEq, true_and, and_true] at e0
     omega
   · obtain ⟨a1, b1, b1'⟩ := Z3q c0 h1
     have g1 : 0 ≤ Wm colW cap t.first := by omega
     generalize Wm colW cap t.first = l1 at *
     have e2 := Zcm (show 4 ≤ D by omega) t.chg l1 g1 a1 hf.glen hf.chg
     by_cases h2 : Wm chgW l1 t.chg < 0
     · simp only [c_laws_szTable, go_sem, e1, h1, e2, h2] at e0
       simp only [Option.some.injEq, List.cons.injEq, A.v.injEq, Value.int.injEq, true_and, and_true] at e0
       omega
     · obtain ⟨a2, b2, b2'⟩ := Z3q g1 h2
       have g2 : 0 ≤ Wm chgW l1 t.chg := by omega
       generalize Wm chgW l1 t.chg = l2 at *
       have e3 := Zof (show 4 ≤ D by omega) t.rows l2 g2 (by omega) hf.rlen hf.rows
       by_cases h3 : Wm rowW l2 t.rows < 0
       · simp only [c_laws_szTable, go_sem, e1, h1, e2, h2, e3, h3] at e0
         simp only [Option.some.injEq, List.cons.injEq, A.v.injEq, Value.int.injEq, true_and, and_true] at e0
         omega
       · obtain ⟨a3, b3, b3'⟩ := Z3q g2 h3
         simp only [c_laws_szTable, go_sem, e1, h1, e2, h2, e3, h3] at e0
         simp only [Option.some.injEq, List.cons.injEq, A.v.injEq, Value.int.injEq, true_and, and_true] at e0
         have hd3 := Ze4 rowW t.rows l2 g2
         have h3' : ¬ dec l2 (t.rows.length + (t.rows.map rowW).sum) < 0 := by rw [← hd3]; exact h3
         obtain ⟨_, h4⟩ := Zbc h3'
         have hs := Y1e t.rows
         unfold cap at *
         exact ⟨⟨by omega, by omega, by omega⟩, by omega, by omega⟩
end Go.Vm.T
namespace Go.Vm.T
open Go.Proofs
def hdS : ACode → ACode
 | .sq a _ => a
 | c => c
def tlS : ACode → ACode
 | .sq _ b => b
 | c => c
def nthS : Nat → ACode → ACode
 | 0, c => c
 | n + 1, c => tlS (nthS n c)
theorem Z1i {E : Env} {C : ACode} {σ σ' : St} (i : Nat) (h : exec E (hdS (nthS i C)) σ = some (.norm σ')) (hC : nthS i C = .sq (hdS (nthS i C)) (nthS (i + 1) C)) : exec E (nthS i C) σ = exec E (nthS (i + 1) C) σ' := by
 rw [hC]
 show seqO (exec E (hdS (nthS i C)) σ) (fun τ => exec E (nthS (i + 1) C) τ) = _
 rw [h]
 rfl
variable [Pr2]
theorem Z8e {D : Nat} (hD : 5 ≤ D) (t : Tab) (hf : FitT t) (hm : MidT t) : ∃ F : Hp → Nat → Hp, ∀ h m, dcl pr D Ye [.agg (tabL t)] h m = some ([.agg (Zxa (m + 9) (m + 10) (m + 11) t)], F h m, m + 11 + (t.rows.length + 1)) ∧ TabH (F h m) (m + 9) (m + 10) (m + 11) t ∧ ∀ x, x < m → F h m x = h x :=
 ⟨fun h m => Classical.choose (Zk1 hD t hf hm h m), fun h m => Classical.choose_spec (Zk1 hD t hf hm h m)⟩
theorem TabH.upd {h : Hp} {a b c k : Nat} {t : Tab} {x : Option Blk} (H : TabH h a b c t) (ha : ¬ a = k) (hb : ¬ b = k) (hc : k < c ∨ c + t.rows.length < k) : TabH (Go.Vm.upd h k x) a b c t := by
 refine ⟨by rw [Z7, if_neg ha]; exact H.cols, by rw [Z7, if_neg hb]; exact H.chgs, by rw [Z7, if_neg (by omega)]; exact H.rows.top, fun j r hr => ?_⟩
 have hj := (List.getElem?_eq_some_iff.1 hr).1
 rw [Z7, if_neg (by omega)]
 exact H.rows.vals j r hr
theorem Zip {h : Hp} {c : Nat} {rows : List RowV} (H : RowsAt h c rows) : ∃ ns, Z0o (clD h 3) (roL c rows) = some (rows.map RowV.c, ns) := by
 obtain ⟨ns, hns⟩ := Zox (h := h) (c := c) (m := 2) rows 0 (fun j r hr => by rw [show 0 + j + 1 = j + 1 by omega]; exact H.vals j r hr)
 have hro : (rows.mapIdx fun j r => ro c (0 + j) r) = roL c rows := by unfold roL; congr 1; funext j r; rw [Nat.zero_add]
 rw [hro] at hns
 exact ⟨ns, hns⟩
end Go.Vm.T
namespace Go.Vm.T
open Go.Proofs
variable [Pr2]
end Go.Vm.T
namespace Go.Vm.T
open Go.Proofs
variable [Pr2]
end Go.Vm.T
namespace Go.Vm.T
open Go.Proofs
variable [Pr2]
theorem TabH.low {h h' : Hp} {a b c n : Nat} {t : Tab} (H : TabH h a b c t) (k : ∀ x, x < n → h' x = h x) (ab : a < b) (bc : b < c) (cn : c + t.rows.length < n) : TabH h' a b c t := by
 refine ⟨by rw [k a (by omega)]; exact H.cols, by rw [k b (by omega)]; exact H.chgs, by rw [k c (by omega)]; exact H.rows.top, fun j r hr => ?_⟩
 have hj := (List.getElem?_eq_some_iff.1 hr).1
 rw [k _ (by omega)]
 exact H.rows.vals j r hr
end Go.Vm.T
namespace Go.Vm.T
open Go.Proofs
variable [Pr2]
end Go.Vm.T
namespace Go.Vm.T
open Go.Proofs
variable [Pr2]
end Go.Vm.T
namespace Go.Vm.T
open Go.Proofs
theorem Zye {E : Env} {C : ACode} {σ σ' : St} (i : Nat) (h : exec E (hdS (nthS i C)) σ = some (.ret σ')) (hC : nthS i C = .sq (hdS (nthS i C)) (nthS (i + 1) C)) : exec E (nthS i C) σ = some (.ret σ') := by
 rw [hC]
 show seqO (exec E (hdS (nthS i C)) σ) (fun τ => exec E (nthS (i + 1) C) τ) = _
 rw [h]
 rfl
variable [Pr2]
end Go.Vm.T
namespace Go.Vm.T
variable [Pr0]
structure Code (ns : List Int) : Prop where
 len : ns.length ≤ 2000
 b : ∀ n ∈ ns, 0 ≤ n ∧ n ≤ 255
end Go.Vm.T
namespace Go.Vm.T
variable [Pr0]
def mix (m : Nat) (f g : Hp) : Hp := fun i => if i < m then f i else g i
theorem Y41 {m : Nat} {f g : Hp} (h : ∀ i, i < m → g i = f i) : g = mix m f g := by
 funext i
 unfold mix
 by_cases hi : i < m
 · simp [hi, h i hi]
 · simp [hi]
end Go.Vm.T
namespace Go.Vm.T
variable [Pr0]
abbrev Y1v : List Int := [0, 1, 2, 3, -1, 7, 999, -999]
abbrev Zyd : List ByteArray := [⟨#[]⟩, ⟨#[97]⟩, ⟨#[98]⟩, ⟨#[97, 98]⟩, ⟨#[49, 50]⟩, ⟨#[45, 53]⟩, ⟨#[48, 48, 55]⟩, ⟨#[122, 122, 122, 122]⟩, ⟨#[51]⟩]
theorem fin {m k : Nat} {r : List A} {H f : Hp} (hH : ∀ i, i < m → H i = f i) : some (r, H, k) = some (r, mix m f H, k) := by rw [← Y41 hH]
def Drawn (kind : Int) (v : Val) : Prop := v = ⟨0, 0, ⟨#[]⟩⟩ ∨ (v.k = kind ∧ ((kind = 1 ∧ v.n ∈ Y1v ∧ v.t = ⟨#[]⟩) ∨ (¬ kind = 1 ∧ v.n = 0 ∧ v.t ∈ Zyd)))
theorem Drawn.size {kind : Int} {v : Val} (h : Drawn kind v) : v.t.size ≤ 4 := by
 rcases h with rfl | ⟨_, ⟨_, _, h⟩ | ⟨_, _, h⟩⟩
 · exact Nat.zero_le _
 · rw [h]; exact Nat.zero_le _
 · have : ∀ t ∈ Zyd, t.size ≤ 4 := by decide
   exact this _ h
end Go.Vm.T
namespace Go.Vm.T
variable [Pr0]
end Go.Vm.T
namespace Go.Vm.T
variable [Pr0]
def putG (e : Ent) : Nat → Unit → Ent → Unit ⊕ Nat := fun i _ x => bif Z59 x e then .inl () else .inr i
def putK (e : Ent) (es : List Ent) : Nat := match runI (putG e) 0 () es with
 | .inl _ => es.length
 | .inr i => i
def putL (e : Ent) (es : List Ent) : List Ent := es.take (putK e es) ++ [e] ++ es.drop (putK e es)
theorem Zyg (e : Ent) : ∀ (es : List Ent) (i k : Nat), runI (putG e) i () es = .inr k → i ≤ k ∧ k < i + es.length
 | [], i, k, h => nomatch h
 | x :: es, i, k, h => by
   unfold runI putG at h
   cases hx : Z59 x e with
   | false =>
     simp [hx] at h
     subst h
     simp
   | true =>
     simp only [hx, cond_true] at h
     have := Zyg e es (i + 1) k h
     simp only [List.length_cons]
     omega
theorem Zna (e : Ent) (es : List Ent) : putK e es ≤ es.length := by
 unfold putK
 split
 · exact Nat.le_refl _
 · rename_i i h
   have := Zyg e es 0 i h
   omega
theorem Zx8 {D : Nat} (hD : 2 ≤ D) (e : Ent) (es : List Ent) (hl : es.length ≤ big) :
 Xr (Z9 (exec ⟨den pr D, dcl pr D, dfl pr D⟩ Z3g) [0, 3, 5] rounds ⟨upd (upd (upd (fun _ => .bad) 0 (.lit Z2 (es.map Ent.c))) 3 (.ptr 0 0 0)) 5 (.n (0 : Nat)), upd (fun _ => none) 0 (some ⟨Z2, [e.c], true, true⟩), 1, 0⟩) Unit Nat (runI (putG e) 0 () es)
  (fun _ o => ∃ σ', o = .exit 0 σ' ∧ σ'.s 0 = .lit Z2 (es.map Ent.c) ∧ σ'.s 3 = .ptr 0 0 0 ∧ σ'.s 5 = .n es.length ∧ σ'.h = upd (fun _ => none) 0 (some ⟨Z2, [e.c], true, true⟩) ∧ σ'.n = 1 ∧ σ'.base = 0) (fun i o => ∃ σ', o = .exit 0 σ' ∧ σ'.s 0 = .lit Z2 (es.map Ent.c) ∧ σ'.s 3 = .ptr 0 0 0 ∧ σ'.s 5 = .n i ∧ σ'.h = upd (fun _ => none) 0 (some ⟨Z2, [e.c], true, true⟩) ∧ σ'.n = 1 ∧ σ'.base = 0) := by
 refine Zh es (fun i (_ : Unit) => ⟨upd (upd (upd (fun _ => .bad) 0 (.lit Z2 (es.map Ent.c))) 3 (.ptr 0 0 0)) 5 (.n i), upd (fun _ => none) 0 (some ⟨Z2, [e.c], true, true⟩), 1, 0⟩) _ (fun _ _ => True) _ _ () trivial hl (fun i _ x K hc hlt hi => ?_) (fun _ K _ => ?_)
 · have hr := Zq (f := Ent.c) hc
   have hw := Zf (n := i) (by unfold big at hl; omega)
   have hm := Zxc hD x e
   simp only [Z9, Z6w, Z1u, go_sem, List.length_map, hr, hlt, hw, hm, putG]
   cases Z59 x e with
   | true => simp only [go_sem, hw]
   | false => simp only [go_sem]; exact ⟨_, rfl, _, rfl, rfl, rfl, rfl, rfl, rfl, rfl⟩
 · have hi : ¬ es.length < es.length := by omega
   have hr : (es.map Ent.c)[es.length]? = none := by simp
   simp only [Z9, Z6w, Z1u, go_sem, List.length_map, hi, hr]
   exact ⟨_, rfl, _, rfl, rfl, rfl, rfl, rfl, rfl, rfl⟩
theorem Y1g {D : Nat} (hD : 3 ≤ D) (e : Ent) (es : List Ent) (hl : es.length + 1 ≤ big) : den pr D Z04 [.lit Z2 (es.map Ent.c), .agg e.c] = some [.olit Z2 ((putL e es).map Ent.c)] := by
 obtain ⟨D, rfl, hd⟩ := Z8 hD
 rw [Zj3]
 obtain ⟨out, lo, lp⟩ := Zx8 hd e es (by omega)
 rw [show ((0 : Nat) : Int) = 0 from rfl] at lo
 have hk : ∃ σ', out = .exit 0 σ' ∧ σ'.s 0 = .lit Z2 (es.map Ent.c) ∧ σ'.s 3 = .ptr 0 0 0 ∧ σ'.s 5 = .n (putK e es) ∧ σ'.h = upd (fun _ => none) 0 (some ⟨Z2, [e.c], true, true⟩) ∧ σ'.n = 1 ∧ σ'.base = 0 := by
  unfold putK
  cases hr : runI (putG e) 0 () es with
  | inl _ => rw [hr] at lp; exact lp
  | inr i => rw [hr] at lp; exact lp
 obtain ⟨σ', rfl, l1, l2, l3, l4, l5, l6⟩ := hk
 have hle := Zna e es
 unfold putL
 generalize putK e es = k at *
 have e1 : es.length - k ≤ big := by omega
 have e2 : k + 1 + (es.length - k) ≤ big := by omega
 have e3 : k ≤ big := by omega
 have e4 : k + 1 ≤ big := by omega
 have e5 : min k es.length = k := by omega
 have e6 : ((es.map Ent.c).take k).take k = (es.map Ent.c).take k := by rw [List.take_take, Nat.min_self]
 have e7 : ((es.map Ent.c).drop k).take (es.length - k) = (es.map Ent.c).drop k := List.take_of_length_le (by simp)
 have e8 : ((es.map Ent.c).take k ++ [e.c]).take (k + 1) = (es.map Ent.c).take k ++ [e.c] := List.take_of_length_le (by simp; omega)
 have e9 : (es.take k ++ [e] ++ es.drop k).map Ent.c = (es.map Ent.c).take k ++ [e.c] ++ (es.map Ent.c).drop k := by simp
 have ea : ((3 : Nat) == 0) = false := rfl
 rw [e9]
 simp only [c_spec_l8Put, go_sem, lo, l1, l2, l3, l4, l5, l6, List.length_map, List.length_take, List.length_drop, List.length_append, hle, e1, e2, e3, e4, e5, e6, e7, e8, Nat.zero_le, Nat.le_refl, Nat.sub_zero, Option.isSome_none, Nat.min_self, Zhl, ea]
end Go.Vm.T
namespace Go.Vm.T
variable [Pr0]
theorem Zaz (e : Ent) (es : List Ent) : (putL e es).length = es.length + 1 := by
 have := Zna e es
 unfold putL
 simp
 omega
end Go.Vm.T
namespace Go.Vm.T
variable [Pr0]
end Go.Vm.T
namespace Go.Vm.T
variable [Pr0]
end Go.Vm.T
namespace Go.Vm.T
variable [Pr0]
end Go.Vm.T
namespace Go.Vm.T
variable [Pr0]
theorem Zvo {D : Nat} (hD : 2 ≤ D) (e : Ent) (es : List Ent) (hl : es.length ≤ big) :
 Xr (Z9 (exec ⟨den pr D, dcl pr D, dfl pr D⟩ Z3j) [0, 3, 5] rounds ⟨upd (upd (upd (fun _ => .bad) 0 (.lit Z2 (es.map Ent.c))) 3 (.ptr 0 0 0)) 5 (.n (0 : Nat)), upd (fun _ => none) 0 (some ⟨Z2, [e.c], true, true⟩), 1, 0⟩) Unit Nat (runI (putG e) 0 () es)
  (fun _ o => ∃ σ', o = .exit 0 σ' ∧ σ'.s 5 = .n es.length) (fun i o => ∃ σ', o = .exit 0 σ' ∧ σ'.s 5 = .n i) := by
 refine Zh es (fun i (_ : Unit) => ⟨upd (upd (upd (fun _ => .bad) 0 (.lit Z2 (es.map Ent.c))) 3 (.ptr 0 0 0)) 5 (.n i), upd (fun _ => none) 0 (some ⟨Z2, [e.c], true, true⟩), 1, 0⟩) _ (fun _ _ => True) _ _ () trivial hl (fun i _ x K hc hlt hi => ?_) (fun _ K _ => ?_)
 · have hr := Zq (f := Ent.c) hc
   have hw := Zf (n := i) (by unfold big at hl; omega)
   have hm := Zl6 hD x e
   simp only [Z9, Z6n, Z1p, go_sem, List.length_map, hr, hlt, hw, hm, putG]
   cases Z59 x e with
   | true => simp only [go_sem, hw]
   | false => simp only [go_sem]; exact ⟨_, rfl, _, rfl, rfl⟩
 · have hi : ¬ es.length < es.length := by omega
   have hr : (es.map Ent.c)[es.length]? = none := by simp
   simp only [Z9, Z6n, Z1p, go_sem, List.length_map, hi, hr]
   exact ⟨_, rfl, _, rfl, rfl⟩
theorem Zz9 {D : Nat} (hD : 3 ≤ D) (e : Ent) (es : List Ent) (hl : es.length ≤ big) : den pr D Vx [.lit Z2 (es.map Ent.c), .agg e.c] = some [.n (putK e es)] := by
 obtain ⟨D, rfl, hd⟩ := Z8 hD
 rw [Zk0]
 obtain ⟨out, lo, lp⟩ := Zvo hd e es hl
 rw [show ((0 : Nat) : Int) = 0 from rfl] at lo
 have hk : ∃ σ', out = .exit 0 σ' ∧ σ'.s 5 = .n (putK e es) := by
  unfold putK
  cases hr : runI (putG e) 0 () es with
  | inl _ => rw [hr] at lp; exact lp
  | inr i => rw [hr] at lp; exact lp
 obtain ⟨σ', rfl, l1⟩ := hk
 simp only [c_impl_place, go_sem, lo, l1]
theorem Small.put {es : List Ent} (hs : Small es) (hl : es.length + 1 ≤ big) {e : Ent} (he : e.v.t.size ≤ big) : Small (putL e es) := ⟨by rw [Zaz]; exact hl, fun x hx => by
 unfold putL at hx
 rcases List.mem_append.1 hx with hx | hx
 · rcases List.mem_append.1 hx with hx | hx
   · exact hs.txt x (List.mem_of_mem_take hx)
   · rcases List.mem_cons.1 hx with rfl | hx
     · exact he
     · cases hx
 · exact hs.txt x (List.mem_of_mem_drop hx)⟩
theorem Y0v (e ty ty2 b len cap i b2 cap2 : Nat) (ex ex2 : Bool) (h : Hp) (n : Nat) : insF e [.ref ty b 0 len cap ex, .v (.int .i64 (i : Nat)), .ref ty2 b2 0 1 cap2 ex2] h n = bnd (h b) fun k => bnd (h b2) fun k2 => bnd k2.rows[0]? fun row =>
 if ty = e ∧ ty2 = e ∧ k.own ∧ k.box = false ∧ k.ty = e ∧ len = k.rows.length ∧ k2.box = false ∧ k2.ty = e ∧ ¬ b = b2 ∧ i ≤ len ∧ len + 1 ≤ big then
  some ([.ref e n 0 (len + 1) (len + 1) false], upd (upd h b none) n (some ⟨e, k.rows.take i ++ row :: k.rows.drop i, true, false⟩), n + 1)
 else none := by
 simp [insF]
end Go.Vm.T
namespace Go.Vm.T
open Go.Proofs
variable [Pr2]
abbrev Z5o (t : Tab) (k : Nat) (r : RowV) : Ent := ⟨(nowV t r).getD k zV, r.id⟩
def idxG (t : Tab) (k : Nat) (_ : Nat) (es : List Ent) (r : RowV) : List Ent ⊕ Unit := .inl (putL (Z5o t k r) es)
def idxL (t : Tab) (k : Nat) : List Ent := t.rows.foldl (fun es r => putL (Z5o t k r) es) []
theorem Znb (t : Tab) (k : Nat) : ∀ (rs : List RowV) (i : Nat) (es : List Ent), runI (idxG t k) i es rs = .inl (rs.foldl (fun es r => putL (Z5o t k r) es) es)
 | [], i, es => rfl
 | r :: rs, i, es => Znb t k rs (i + 1) _
abbrev ioS (t : Tab) (k : Int) (i : Nat) (es : List Ent) : St := ⟨upd (upd (upd (upd (upd (upd (fun _ => .bad) 2 (.ptr 0 0 0)) 5 (.n k)) 6 (.ref Z2 1 0 es.length es.length false)) 18 (.lit Z5 (t.rows.map RowV.c))) 19 (.n t.rows.length)) 20 (.n i), upd (upd (fun _ => none) 0 (some ⟨Zb, [t.c], true, true⟩)) 1 (some ⟨Z2, es.map Ent.c, true, false⟩), 2, 0⟩
theorem Zq8 {D : Nat} (hD : 7 ≤ D) (t : Tab) (T : TabOk t) (k : Nat) (hk : k < (Zc t).length) :
 Xr (Z9 (exec ⟨den pr D, dcl pr D, dfl pr D⟩ Z0g) [2, 5, 6, 18, 19, 20] rounds (ioS t k 0 [])) (List Ent) Unit (runI (idxG t k) 0 [] t.rows)
  (fun es o => ∃ σ', o = .exit 0 σ' ∧ σ'.n = 2 ∧ σ'.base = 0 ∧ σ'.s 6 = .ref Z2 1 0 es.length es.length false ∧ σ'.h 1 = some ⟨Z2, es.map Ent.c, true, false⟩ ∧ es.length = t.rows.length) (fun _ o => False) := by
 refine Zh t.rows (ioS t k) (idxG t k) (fun i es => es.length = i) _ _ [] rfl T.once.small.rlen (fun i es r K hc hlt hI => ?_) (fun es K hI => ?_)
 · have hr := Zq (f := RowV.c) hc
   have hrl := T.once.small.rlen
   have hw := Zf (n := i) (by unfold big at hrl; omega)
   have hn := T.once.rows r (List.mem_of_getElem? hc)
   have e1 := Y15 (show 7 ≤ D by omega) t T.once.small r hn
   have hnl := Z9y hn
   have hrow : k < (nowV t r).length := by rw [hnl]; exact hk
   have hv := Zq (f := Val.c) (Zgc hrow)
   unfold idxG
   have hpl := Zaz (Z5o t k r) es
   have e2 := Zz9 (show 3 ≤ D by omega) (Z5o t k r) es (by omega)
   have hle := Zna (Z5o t k r) es
   have hm : (es.map Ent.c).take (putK (Z5o t k r) es) ++ (Z5o t k r).c :: (es.map Ent.c).drop (putK (Z5o t k r) es) = (putL (Z5o t k r) es).map Ent.c := by unfold putL; simp
   simp only [Z5o] at *
   generalize putL ⟨(nowV t r).getD k zV, r.id⟩ es = ps at *
   generalize putK ⟨(nowV t r).getD k zV, r.id⟩ es = j at *
   generalize (nowV t r).getD k zV = v at *
   generalize nowV t r = row at *
   have k0 : (0 : Int) ≤ (k : Int) := by omega
   have kt : ((k : Int)).toNat = k := by omega
   have hal : es.length + 1 ≤ big := by omega
   have htn : (row.map Val.c).take row.length = row.map Val.c := List.take_of_length_le (by simp)
   have hte : (es.map Ent.c).take es.length = es.map Ent.c := Zhl _ _
   obtain ⟨D', rfl⟩ : ∃ d, D = d + 1 := ⟨D - 1, by omega⟩
   simp only [ioS, Z9, Z0h, Xw, go_sem, List.length_map, hr, hlt, hw, e1, e2, hv, hrow, k0, kt, hal, htn, hte, hle, hm, hpl, Y6o, Y0v, Zg, Vq, Nat.le_refl, Nat.zero_le, if_true, ite_self]
   omega
 · have hi : ¬ t.rows.length < t.rows.length := by omega
   simp only [ioS, Z9, Z0h, Xw, go_sem, List.length_map, hi]
   exact ⟨_, rfl, _, rfl, rfl, rfl, rfl, rfl, hI⟩
theorem Znl {D : Nat} (t : Tab) (hl : t.rows.length ≤ big) :
 Xr (Z9 (exec ⟨den pr D, dcl pr D, dfl pr D⟩ Z0g) [2, 5, 6, 18, 19, 20] rounds (ioS t (-1) 0 [])) Unit Unit (runI (fun _ _ _ => .inl ()) 0 () t.rows)
  (fun _ o => ∃ σ', o = .exit 0 σ' ∧ σ'.n = 2 ∧ σ'.base = 0 ∧ σ'.s 6 = .ref Z2 1 0 0 0 false ∧ σ'.h 1 = some ⟨Z2, [], true, false⟩) (fun _ o => False) := by
 refine Zh t.rows (fun i _ => ioS t (-1) i []) (fun _ _ _ => .inl ()) (fun _ _ => True) _ _ () trivial hl (fun i _ r K hc hlt hI => ?_) (fun _ K hI => ?_)
 · have hr := Zq (f := RowV.c) hc
   have hw := Zf (n := i) (by unfold big at hl; omega)
   have k0 : ¬ (0 : Int) ≤ -1 := by decide
   simp only [ioS, Z9, Z0h, Xw, go_sem, List.length_map, hr, hlt, hw, k0]
 · have hi : ¬ t.rows.length < t.rows.length := by omega
   simp only [ioS, Z9, Z0h, Xw, go_sem, List.length_map, hi]
   exact ⟨_, rfl, _, rfl, rfl, rfl, rfl, rfl⟩
def Vf (t : Tab) (nm : ByteArray) : List Ent := if Z44 t = true then (match nmAt nm (Zc t) with
 | some k => idxL t k
 | none => []) else []
theorem Zp5 (t : Tab) (k : Nat) : (idxL t k).length = t.rows.length := by
 have : ∀ (rs : List RowV) (es : List Ent), (rs.foldl (fun es r => putL (Z5o t k r) es) es).length = es.length + rs.length := by
  intro rs
  induction rs with
  | nil => intro es; rfl
  | cons r rs ih => intro es; rw [List.foldl_cons, ih, Zaz, List.length_cons]; omega
 unfold idxL
 rw [this]
 simp
theorem Zio (t : Tab) (nm : ByteArray) : (Vf t nm).length ≤ t.rows.length := by
 unfold Vf
 split
 · split
   · rw [Zp5]; exact Nat.le_refl _
   · simp
 · simp
theorem Zkd {D : Nat} (hD : 10 ≤ D) (t : Tab) (ht : SmallT t) (nm : ByteArray) : den pr D Xn [.agg t.c, .s nm] = some [.olit Z2 ((Vf t nm).map Ent.c)] := by
 obtain ⟨D, rfl, hd⟩ := Z8 hD
 rw [Zdp]
 have e1 := Zs8 (show 9 ≤ D by omega) t ht
 unfold Vf
 cases hok : Z44 t with
 | false =>
   rw [hok] at e1
   rw [if_neg (by simp)]
   simp only [c_impl_IndexOf, go_sem, e1, List.length_map]
 | true =>
   rw [hok] at e1
   rw [if_pos rfl]
   have T := Zp4 ht hok
   have e2 := Ztw (show 7 ≤ D by omega) t ht
   rw [show ((chgs t.first t.chg).getD []) = Zc t from rfl] at e2
   have hsl := (Xs T.shape).2
   have e3 := Z5h (show 3 ≤ D by omega) nm (Zc t) (by omega)
   have hts : ((Zc t).map ColV.c).take (Zc t).length = (Zc t).map ColV.c := List.take_of_length_le (by simp)
   unfold nmI at e3
   cases hk : nmAt nm (Zc t) with
   | none =>
     rw [hk] at e3
     obtain ⟨out, lo, lp⟩ := Znl (D := D) t ht.rlen
     rw [Wo] at lp
     obtain ⟨σ', rfl, l1, l2, l3, l4⟩ := lp
     simp only [ioS, List.length_nil, List.map_nil] at lo
     rw [show ((0 : Nat) : Int) = 0 from rfl] at lo
     have e4 := Zu9 (show 2 ≤ D by omega) [] (by simp)
     simp only at e3
     simp only [c_impl_IndexOf, go_sem, e1, e2, e3, e4, List.length_map, hts, Z6, lo, l1, l2, l3, l4, Nat.le_refl, Nat.zero_le, if_true]
   | some k =>
     rw [hk] at e3
     obtain ⟨out, lo, lp⟩ := Zq8 (D := D) (by omega) t T k (Z4h hk)
     rw [Znb] at lp
     obtain ⟨σ', rfl, l1, l2, l3, l4, l5⟩ := lp
     rw [show t.rows.foldl (fun es r => putL (Z5o t k r) es) [] = idxL t k from rfl] at l3 l4 l5
     have hb : (idxL t k).length ≤ big := by rw [Zp5]; exact ht.rlen
     simp only [ioS, List.length_nil, List.map_nil] at lo
     rw [show ((0 : Nat) : Int) = 0 from rfl] at lo
     have e4 := Zu9 (show 2 ≤ D by omega) ((idxL t k).map Ent.c) (by simpa using hb)
     have hmt : ((idxL t k).map Ent.c).take (idxL t k).length = (idxL t k).map Ent.c := List.take_of_length_le (by simp)
     have hll : ((idxL t k).map Ent.c).length = (idxL t k).length := by simp
     simp only at e3
     show (endO _ _ : Option (List A)) = some [A.olit Z2 ((idxL t k).map Ent.c)]
     generalize idxL t k = m at *
     simp only [c_impl_IndexOf, go_sem, e1, e2, e3, e4, List.length_map, hts, Z6, Vq, lo, l1, l2, l3, l4, hmt, hll, Nat.le_refl, Nat.zero_le, if_true]
end Go.Vm.T
namespace Go.Vm.T
open Go.Proofs
variable [Pr2]
abbrev isS (t : Tab) (k : Nat) (i : Nat) (es : List Ent) : St := ⟨upd (upd (upd (upd (fun _ => .bad) 2 (.ptr 0 0 0)) 5 (.ref Z2 1 0 es.length es.length (decide (es.length = 0)))) 6 (.n k)) 7 (.n i), upd (upd (fun _ => none) 0 (some ⟨Zb, [t.c], true, true⟩)) 1 (some ⟨Z2, es.map Ent.c, true, false⟩), 2, 0⟩
theorem Zm8 {D : Nat} (hD : 9 ≤ D) (t : Tab) (T : TabOk t) (k : Nat) (hk : k < (Zc t).length) :
 Xr (Z9 (exec ⟨den pr D, dcl pr D, dfl pr D⟩ Z2b) [2, 5, 6, 7] rounds (isS t k 0 [])) (List Ent) Unit (runI (idxG t k) 0 [] t.rows)
  (fun es o => ∃ σ' ex, o = .exit 0 σ' ∧ σ'.n = 2 ∧ σ'.base = 0 ∧ σ'.s 5 = .ref Z2 1 0 es.length es.length ex ∧ σ'.h 1 = some ⟨Z2, es.map Ent.c, true, false⟩) (fun _ o => False) := by
 refine Zh t.rows (isS t k) (idxG t k) (fun i es => es.length = i) _ _ [] rfl T.once.small.rlen (fun i es r K hc hlt hI => ?_) (fun es K hI => ?_)
 · have hr := Zq (f := RowV.c) hc
   have hrl := T.once.small.rlen
   have hw := Zf (n := i) (by unfold big at hrl; omega)
   have hn := T.once.rows r (List.mem_of_getElem? hc)
   have e1 := Zn9 hD t T.once.small T.sh r hn
   have hnl := Z9y hn
   have hrow : k < (nowV t r).length := by rw [hnl]; exact hk
   have hv := Zq (f := Val.c) (Zgc hrow)
   unfold idxG
   have hpl := Zaz (Z5o t k r) es
   have e2 := Y1g (show 3 ≤ D by omega) (Z5o t k r) es (by omega)
   simp only [Z5o] at *
   generalize putL ⟨(nowV t r).getD k zV, r.id⟩ es = ps at *
   generalize (nowV t r).getD k zV = v at *
   generalize nowV t r = row at *
   have k0 : (0 : Int) ≤ (k : Int) := by omega
   have kt : ((k : Int)).toNat = k := by omega
   have htn : (row.map Val.c).take row.length = row.map Val.c := List.take_of_length_le (by simp)
   have hte : (es.map Ent.c).take es.length = es.map Ent.c := Zhl _ _
   have hz : decide (ps.length = 0) = false := decide_eq_false (by omega)
   have hpb : (ps.map Ent.c).length = ps.length := by simp
   simp only [isS, Z9, Z4u, Z0i, go_sem, List.length_map, hr, hlt, hw, e1, e2, hv, hrow, k0, kt, htn, hte, hz, Zg, Vq, Nat.le_refl, Nat.zero_le, if_true, ite_self]
   omega
 · have hi : ¬ t.rows.length < t.rows.length := by omega
   simp only [isS, Z9, Z4u, Z0i, go_sem, List.length_map, hi]
   exact ⟨_, rfl, _, _, rfl, rfl, rfl, rfl, rfl⟩
def g14 : List G := [.g 12 false (.mv 15 (.t 1)), .g 12 false (.call (some 16) 1 0 Yl [(.t 14), (.t 15)]), .g 12 false (.bin 17 .lss (.t 16) (.k (.v (.int .i64 0)))), .o (.pick 18 (.t 12) (.k (.v (.bool true))) (.t 17))]
noncomputable def tl14 (E : Env) (σ : St) (o : Option A) : Nat → A := match bnd (Xc false σ (some 14) o none) (Za E 1 g14) with | some τ => τ.s | none => σ.s
theorem Zut (E : Env) (σ : St) (o : Option A) (k : Option St) (h : σ.s 12 = .q true) : bnd (Xc false σ (some 14) o k) (Za E 1 g14) = some ⟨upd (tl14 E σ o) 18 (.q true), σ.h, σ.n, σ.base⟩ ∧ tl14 E σ o 5 = σ.s 5 := by
 have key : ∃ f, bnd (Xc false σ (some 14) o none) (Za E 1 g14) = some ⟨upd f 18 (.q true), σ.h, σ.n, σ.base⟩ ∧ f 5 = σ.s 5 := by
  rw [Xf]
  obtain ⟨s, hp, n, b⟩ := σ
  simp only at h
  simp only [g14, go_sem, h, Xf, Z84, bq2]
  first
   | exact ⟨_, rfl, rfl⟩
   | (rw [bq]; exact ⟨_, rfl, rfl⟩)
 obtain ⟨f, hf, hf5⟩ := key
 have : tl14 E σ o = upd f 18 (.q true) := by unfold tl14; rw [hf]
 refine ⟨?_, by rw [this]; exact hf5⟩
 rw [this, Xf, ← Xf _ _ _ none]
 rw [show upd (upd f 18 (.q true)) 18 (.q true) = upd f 18 (.q true) from by funext i; simp only [Z7]; split <;> rfl]
 exact hf
theorem Y3g (E : Env) (σ : St) (o : Option A) (k : Option St) (h : σ.s 12 = .q true) : bnd (Xc false σ (some 14) o k) (Za E 1 [.g 12 false (.mv 15 (.t 1)), .g 12 false (.call (some 16) 1 0 Yl [(.t 14), (.t 15)]), .g 12 false (.bin 17 .lss (.t 16) (.k (.v (.int .i64 0)))), .o (.pick 18 (.t 12) (.k (.v (.bool true))) (.t 17))]) = some ⟨upd (tl14 E σ o) 18 (.q true), σ.h, σ.n, σ.base⟩ := (Zut E σ o k h).1
theorem Y1s (E : Env) (σ : St) (o : Option A) (h : σ.s 12 = .q true) : tl14 E σ o 5 = σ.s 5 := (Zut E σ o none h).2
theorem Zdz {D : Nat} (hD : 12 ≤ D) (t : Tab) (ht : SmallT t) (nm : ByteArray) : den pr D Wg [.agg t.c, .s nm] = some [.olit Z2 ((Vf t nm).map Ent.c)] := by
 obtain ⟨D, rfl, hd⟩ := Z8 hD
 rw [Zdy]
 have e1 := Ze0 (show 11 ≤ D by omega) t ht
 unfold Vf
 cases hok : Z44 t with
 | false =>
   rw [hok] at e1
   rw [if_neg (by simp)]
   simp only [c_spec_IndexOf, go_sem, e1, List.length_map, Y3g, Y1s, Nat.le_refl]
 | true =>
   rw [hok] at e1
   rw [if_pos rfl]
   have T := Zp4 ht hok
   have e2 := Zhb (show 9 ≤ D by omega) t ht T.sh
   have hsl := (Xs T.shape).2
   have e3 := Zos (show 1 ≤ D by omega) nm (Zc t) (by omega)
   have hts : ((Zc t).map ColV.c).take (Zc t).length = (Zc t).map ColV.c := List.take_of_length_le (by simp)
   unfold nmI at e3
   cases hk : nmAt nm (Zc t) with
   | none =>
     rw [hk] at e3
     simp only at e3
     have m1 : (-1 : Int) < 0 := by decide
     simp only [c_spec_IndexOf, go_sem, e1, e2, e3, m1, List.length_map, hts, Z6, Nat.le_refl, Nat.zero_le, if_true]
   | some k =>
     rw [hk] at e3
     obtain ⟨out, lo, lp⟩ := Zm8 (D := D) (by omega) t T k (Z4h hk)
     rw [Znb] at lp
     obtain ⟨σ', ex, rfl, l1, l2, l3, l4⟩ := lp
     rw [show t.rows.foldl (fun es r => putL (Z5o t k r) es) [] = idxL t k from rfl] at l3 l4
     simp only [isS, List.length_nil, List.map_nil, decide_true] at lo
     rw [show ((0 : Nat) : Int) = 0 from rfl] at lo
     have hmt : ((idxL t k).map Ent.c).take (idxL t k).length = (idxL t k).map Ent.c := List.take_of_length_le (by simp)
     have hll : ((idxL t k).map Ent.c).length = (idxL t k).length := by simp
     have k0 : ¬ (k : Int) < 0 := by omega
     simp only at e3
     show (endO _ _ : Option (List A)) = some [A.olit Z2 ((idxL t k).map Ent.c)]
     generalize idxL t k = m at *
     simp only [c_spec_IndexOf, go_sem, e1, e2, e3, k0, List.length_map, hts, Z6, Vq, lo, l1, l2, l3, l4, hmt, hll, Nat.le_refl, Nat.zero_le, if_true]
end Go.Vm.T
namespace Go.Vm.T
open Go.Proofs
variable [Pr2]
structure Io1 (t : Tab) (nm : ByteArray) (es : List Ent) (s : Nat → A) (G : Hp) (n w : Nat) : Prop where
 s1 : s 1 = .s nm
 s2 : s 2 = .ptr 0 0 0
 s6 : s 6 = .ref Z2 w 0 es.length es.length false
 g0 : G 0 = some ⟨Yo, [tabL t], true, true⟩
 gw : G w = some ⟨Z2, es.map Ent.c, true, false⟩
 w0 : 0 < w
 wn : w < n
structure Io2 (t : Tab) (nm : ByteArray) (es : List Ent) (s : Nat → A) (G : Hp) (n w p a b c : Nat) : Prop extends Io1 t nm es s G n w where
 s7 : s 7 = .ptr p 0 0
 gp : G p = some ⟨Zb, [Zxa a b c t], true, true⟩
 H : TabH G a b c t
 wa : w < a
 ab : a < b
 bc : b < c
 cp : c + t.rows.length < p
 pn : p < n
structure Io4 (t : Tab) (nm : ByteArray) (es : List Ent) (s : Nat → A) (G : Hp) (n w p a b c y : Nat) : Prop extends Io2 t nm es s G n w p a b c where
 s8 : s 8 = .ref Z2 y 0 es.length es.length false
 gy : G y = some ⟨Z2, es.map Ent.c, true, false⟩
 py : p < y
 yn : y < n
structure Io6 (t : Tab) (nm : ByteArray) (es : List Ent) (s : Nat → A) (G : Hp) (n w y : Nat) : Prop where
 s1 : s 1 = .s nm
 s2 : s 2 = .ptr 0 0 0
 s6 : s 6 = .ref Z2 w 0 es.length es.length false
 g0 : G 0 = some ⟨Yo, [tabL t], true, true⟩
 gw : G w = some ⟨Z2, es.map Ent.c, true, false⟩
 w0 : 0 < w
 wy : w < y
 s8 : s 8 = .ref Z2 y 0 es.length es.length false
 gy : G y = some ⟨Z2, V6 entC 4 1 es.length, true, false⟩
 yn : y < n
 s10 : s 10 = .n (1 + ((4 * es.length : Nat) : Int))
theorem io_5 {D : Nat} (hD : 12 ≤ D) (t : Tab) (hf : FitT t) (hm : MidT t) (nm : ByteArray) (s : Nat → A) (G : Hp) (n : Nat) (hn : 0 < n) (s1 : s 1 = .s nm) (s2 : s 2 = .ptr 0 0 0) (g0 : G 0 = some ⟨Yo, [tabL t], true, true⟩) :
 ∃ s' G' n' w, exec ⟨den pr D, dcl pr D, dfl pr D⟩ (hdS (nthS 5 c_q0.code)) ⟨s, G, n, 0⟩ = some (.norm ⟨s', G', n', 0⟩) ∧ Io1 t nm (Vf t nm) s' G' n' w := by
 obtain ⟨F, hF⟩ := Z8e (show 5 ≤ D by omega) t hf hm
 obtain ⟨e1, H1, k1⟩ := hF G (n + 1)
 have e3 := Zdz hD t hm.small nm
 obtain ⟨ns, hns⟩ := Zip H1.rows
 have q1 := H1.cols
 have q2 := H1.chgs
 have q3 := H1.rows.top
 have t1 : (t.first.map ColV.c).take t.first.length = t.first.map ColV.c := List.take_of_length_le (by simp)
 have t2 : (t.chg.map Chg.c).take t.chg.length = t.chg.map Chg.c := List.take_of_length_le (by simp)
 have t3 : (roL (n + 1 + 11) t.rows).take t.rows.length = roL (n + 1 + 11) t.rows := List.take_of_length_le (by rw [Z22]; exact Nat.le_refl _)
 have rl := Z22 (n + 1 + 11) t.rows
 simp only [c_q0, hdS, tlS, nthS, go_sem, s1, s2, g0, e1, e3, q1, q2, q3, t1, t2, t3, rl, hns, Vq, List.length_map, Nat.le_refl, if_true, ite_self]
 refine ⟨_, _, _, n + 1 + 11 + (t.rows.length + 1), rfl, ⟨s1, s2, rfl, ?_, ?_, by omega, by omega⟩⟩
 · rw [Z7, if_neg (by omega), k1 0 (by omega)]; exact g0
 · rw [Z7, if_pos rfl]
theorem io_6 {D : Nat} (hD : 12 ≤ D) (t : Tab) (hf : FitT t) (hm : MidT t) (nm : ByteArray) (es : List Ent) (s : Nat → A) (G : Hp) (n w : Nat) (I : Io1 t nm es s G n w) :
 ∃ s' G' n' p a b c, exec ⟨den pr D, dcl pr D, dfl pr D⟩ (hdS (nthS 6 c_q0.code)) ⟨s, G, n, 0⟩ = some (.norm ⟨s', G', n', 0⟩) ∧ Io2 t nm es s' G' n' w p a b c := by
 obtain ⟨F, hF⟩ := Z8e (show 5 ≤ D by omega) t hf hm
 obtain ⟨e1, H1, k1⟩ := hF G (n + 4)
 obtain ⟨s1, s2, s6, g0, gw, w0, wn⟩ := I
 have f13 : (15 + (t.rows.length + 1) = 13) = False := eq_false (by omega)
 have f14 : (15 + (t.rows.length + 1) = 14) = False := eq_false (by omega)
 simp only [c_q0, hdS, tlS, nthS, go_sem, s1, s2, g0, e1, f13, f14, List.length_map, Nat.le_refl, if_true, ite_self, Nat.add_assoc, Nat.add_left_cancel_iff, Nat.left_eq_add, Nat.add_eq_left, Zrw, Zs3]
 have hlow : ∀ x, x < n + 4 → ∀ (X Y Z U V : Option Blk), upd (upd (upd (upd (upd (F G (n + 4)) (n + (15 + (t.rows.length + 2))) X) (n + (15 + (t.rows.length + 3))) Y) (n + (15 + (t.rows.length + 4))) Z) (n + (15 + (t.rows.length + 1))) U) (n + (15 + (t.rows.length + 1))) V x = G x := fun x hx X Y Z U V => by
  rw [Z7, if_neg (by omega), Z7, if_neg (by omega), Z7, if_neg (by omega), Z7, if_neg (by omega), Z7, if_neg (by omega)]
  exact k1 x hx
 have H2 := ((((H1.upd (k := n + (15 + (t.rows.length + 2))) (x := some ⟨Z0, [], true, false⟩) (by omega) (by omega) (by omega)).upd (k := n + (15 + (t.rows.length + 3))) (x := some ⟨Z4, [], true, false⟩) (by omega) (by omega) (by omega)).upd (k := n + (15 + (t.rows.length + 4))) (x := some ⟨Z5, [], true, false⟩) (by omega) (by omega) (by omega)).upd (k := n + (15 + (t.rows.length + 1))) (x := some ⟨Zb, [[.ref Z0 (n + (15 + (t.rows.length + 2))) 0 0 0 false, .ref Z4 (n + (15 + (t.rows.length + 3))) 0 0 0 false, .ref Z5 (n + (15 + (t.rows.length + 4))) 0 0 0 false, .n 0]], true, true⟩) (by omega) (by omega) (by omega)).upd (k := n + (15 + (t.rows.length + 1))) (x := some ⟨Zb, [Zxa (n + 13) (n + 14) (n + 15) t], true, true⟩) (by omega) (by omega) (by omega)
 refine ⟨_, _, _, n + (15 + (t.rows.length + 1)), n + 13, n + 14, n + 15, rfl, ⟨⟨s1, s2, s6, ?_, ?_, w0, ?_⟩, rfl, ?_, ?_, by omega, by omega, by omega, by omega, by omega⟩⟩
 · rw [hlow 0 (by omega)]; exact g0
 · rw [hlow w (by omega)]; exact gw
 · omega
 · rw [Z7, if_pos rfl]
 · exact H2
theorem io_7 {D : Nat} (hD : 12 ≤ D) (t : Tab) (hm : MidT t) (nm : ByteArray) (s : Nat → A) (G : Hp) (n w p a b c : Nat) (I : Io2 t nm (Vf t nm) s G n w p a b c) :
 ∃ s' G' n', exec ⟨den pr D, dcl pr D, dfl pr D⟩ (hdS (nthS 7 c_q0.code)) ⟨s, G, n, 0⟩ = some (.norm ⟨s', G', n', 0⟩) ∧ Io4 t nm (Vf t nm) s' G' n' w p a b c n := by
 obtain ⟨⟨s1, s2, s6, g0, gw, w0, wn⟩, s7, gp, H, wa, ab, bc, cp, pn⟩ := I
 have e3 := Zkd (show 10 ≤ D by omega) t hm.small nm
 obtain ⟨ns, hns⟩ := Zip H.rows
 have q1 := H.cols
 have q2 := H.chgs
 have q3 := H.rows.top
 have t1 : (t.first.map ColV.c).take t.first.length = t.first.map ColV.c := List.take_of_length_le (by simp)
 have t2 : (t.chg.map Chg.c).take t.chg.length = t.chg.map Chg.c := List.take_of_length_le (by simp)
 have t3 : (roL c t.rows).take t.rows.length = roL c t.rows := List.take_of_length_le (by rw [Z22]; exact Nat.le_refl _)
 have rl := Z22 c t.rows
 simp only [c_q0, hdS, tlS, nthS, go_sem, s1, s7, gp, e3, q1, q2, q3, t1, t2, t3, rl, hns, Vq, List.length_map, Nat.le_refl, if_true, ite_self]
 refine ⟨_, _, _, rfl, ⟨⟨⟨s1, s2, s6, ?_, ?_, w0, by omega⟩, s7, ?_, H.upd (by omega) (by omega) (by omega), wa, ab, bc, cp, by omega⟩, rfl, ?_, pn, by omega⟩⟩
 · rw [Z7, if_neg (by omega)]; exact g0
 · rw [Z7, if_neg (by omega)]; exact gw
 · rw [Z7, if_neg (by omega)]; exact gp
 · rw [Z7, if_pos rfl]
theorem io_8 {D : Nat} (hD : 12 ≤ D) (t : Tab) (nm : ByteArray) (es : List Ent) (hi : es.length ≤ big) (s : Nat → A) (G : Hp) (n w p a b c y : Nat) (I : Io4 t nm es s G n w p a b c y) :
 ∃ s' G' n', exec ⟨den pr D, dcl pr D, dfl pr D⟩ (hdS (nthS 8 c_q0.code)) ⟨s, G, n, 0⟩ = some (.norm ⟨s', G', n', 0⟩) ∧ Io4 t nm es s' G' n' w p a b c y := by
 obtain ⟨⟨⟨s1, s2, s6, g0, gw, w0, wn⟩, s7, gp, H, wa, ab, bc, cp, pn⟩, s8, gy, py, yn⟩ := I
 have e1 := Z9s (show 3 ≤ D by omega) es hi
 have t1 : (es.map Ent.c).take es.length = es.map Ent.c := List.take_of_length_le (by simp)
 simp only [c_q0, hdS, tlS, nthS, go_sem, s6, gw, s8, gy, e1, t1, Vq, List.length_map, Nat.le_refl, if_true, ite_self]
 exact ⟨_, _, _, rfl, ⟨⟨⟨s1, s2, s6, g0, gw, w0, wn⟩, s7, gp, H, wa, ab, bc, cp, pn⟩, s8, gy, py, yn⟩⟩
theorem io_9 {D : Nat} (hD : 12 ≤ D) (t : Tab) (hf : FitT t) (hm : MidT t) (nm : ByteArray) (es : List Ent) (s : Nat → A) (G : Hp) (n w p a b c y : Nat) (I : Io4 t nm es s G n w p a b c y) :
 ∃ s' G' n', exec ⟨den pr D, dcl pr D, dfl pr D⟩ (hdS (nthS 9 c_q0.code)) ⟨s, G, n, 0⟩ = some (.norm ⟨s', G', n', 0⟩) ∧ Io4 t nm es s' G' n' w p a b c y := by
 obtain ⟨F, hF⟩ := Z8e (show 5 ≤ D by omega) t hf hm
 obtain ⟨e1, H1, k1⟩ := hF G n
 obtain ⟨⟨⟨s1, s2, s6, g0, gw, w0, wn⟩, s7, gp, H, wa, ab, bc, cp, pn⟩, s8, gy, py, yn⟩ := I
 have e2 := Zrb (show 5 ≤ D by omega) t hf hm
 have hk : Za7 [p] G (F G n) := fun x hx => by rw [List.mem_singleton.1 hx]; exact (k1 p pn).symm
 have e1' := Y2u ⟨den pr D, dcl pr D, dfl pr D⟩ [p] Ye [.agg (tabL t)] G n e1 hk
 have H0 := H.low k1 ab bc (by omega)
 obtain ⟨ns, hns⟩ := Zip H0.rows
 obtain ⟨ns1, hns1⟩ := Zip H1.rows
 have q1 := H0.cols
 have q2 := H0.chgs
 have q3 := H0.rows.top
 have r1 := H1.cols
 have r2 := H1.chgs
 have r3 := H1.rows.top
 have t1 : (t.first.map ColV.c).take t.first.length = t.first.map ColV.c := List.take_of_length_le (by simp)
 have t2 : (t.chg.map Chg.c).take t.chg.length = t.chg.map Chg.c := List.take_of_length_le (by simp)
 have t3 : ∀ c, (roL c t.rows).take t.rows.length = roL c t.rows := fun c => List.take_of_length_le (by rw [Z22]; exact Nat.le_refl _)
 have rl := fun c => Z22 c t.rows
 simp only [c_q0, hdS, tlS, nthS, go_sem, s2, s7, g0, gp, e1', e2, q1, q2, q3, r1, r2, r3, t1, t2, t3, rl, hns, hns1, List.length_map, Nat.le_refl, if_true, ite_self]
 refine ⟨_, _, _, rfl, ⟨⟨⟨s1, s2, s6, ?_, ?_, w0, by omega⟩, s7, ?_, H0, wa, ab, bc, cp, by omega⟩, s8, ?_, py, by omega⟩⟩
 · rw [k1 0 (by omega)]; exact g0
 · rw [k1 w wn]; exact gw
 · rw [k1 p pn]; exact gp
 · rw [k1 y yn]; exact gy
theorem Y6k {D : Nat} (hD : 12 ≤ D) (t : Tab) (hm : MidT t) (S : Sums t) (nm : ByteArray) (es : List Ent) (hi : es.length ≤ big) (s : Nat → A) (G : Hp) (n w p a b c y : Nat) (I : Io4 t nm es s G n w p a b c y) :
 ∃ s' G' n', exec ⟨den pr D, dcl pr D, dfl pr D⟩ (nthS 10 c_q0.code) ⟨s, G, n, 0⟩ = exec ⟨den pr D, dcl pr D, dfl pr D⟩ (nthS 15 c_q0.code) ⟨s', G', n', 0⟩ ∧ Io6 t nm es s' G' n' w y := by
 obtain ⟨⟨⟨s1, s2, s6, g0, gw, w0, wn⟩, s7, gp, H, wa, ab, bc, cp, pn⟩, s8, gy, py, yn⟩ := I
 obtain ⟨k, G', e1, k0, k1, hk⟩ := Zm0 (show 4 ≤ D by omega) t 1 ⟨by omega, by omega⟩ S hm.small.rlen (fun r hr => (hm.rows r hr).1) G n a b c t.first.length t.chg.length t.rows.length false false true H (by omega) (by omega) (by omega) (by omega) (by omega) (by omega)
 have gy1 := (hk y (by omega) (by omega) (by omega) (by omega)).trans gy
 have gw1 := (hk w (by omega) (by omega) (by omega) (by omega)).trans gw
 have g01 := (hk 0 (by omega) (by omega) (by omega) (by omega)).trans g0
 have e2 := Z9s (show 3 ≤ D by omega) es hi
 have e3 := Zj1 (show 2 ≤ D by omega) es 1 ⟨by omega, by omega⟩ hi G' (n + 1) y es.length false (by omega) gy1
 have t1 : (es.map Ent.c).take es.length = es.map Ent.c := List.take_of_length_le (by simp)
 have hneg : (k < 0) = False := eq_false (by omega)
 have h1 : exec ⟨den pr D, dcl pr D, dfl pr D⟩ (hdS (nthS 10 c_q0.code)) ⟨s, G, n, 0⟩ = some (.norm ⟨upd s 9 (.n 1), G, n, 0⟩) := by
  simp only [c_q0, hdS, tlS, nthS, go_sem]
 have h2 : ∃ s', exec ⟨den pr D, dcl pr D, dfl pr D⟩ (hdS (nthS 11 c_q0.code)) ⟨upd s 9 (.n 1), G, n, 0⟩ = some (.norm ⟨s', G', n + 1, 0⟩) ∧ s' 1 = s 1 ∧ s' 2 = s 2 ∧ s' 6 = s 6 ∧ s' 8 = s 8 ∧ s' 9 = .n k := by
  simp only [c_q0, hdS, tlS, nthS, go_sem, s7, gp, e1]
  exact ⟨_, rfl, rfl, rfl, rfl, rfl, rfl⟩
 obtain ⟨s', h2, r1, r2, r6, r8, r9⟩ := h2
 rw [s1] at r1; rw [s2] at r2; rw [s6] at r6; rw [s8] at r8
 have h3 : ∃ s'', exec ⟨den pr D, dcl pr D, dfl pr D⟩ (hdS (nthS 12 c_q0.code)) ⟨s', G', n + 1, 0⟩ = some (.norm ⟨s'', G', n + 1, 0⟩) ∧ s'' 1 = s' 1 ∧ s'' 2 = s' 2 ∧ s'' 6 = s' 6 ∧ s'' 8 = s' 8 := by
  simp only [c_q0, hdS, tlS, nthS, go_sem, r6, r8, r9, gy1, gw1, e2, t1, hneg, Vq, List.length_map, Nat.le_refl, if_true, ite_self]
  exact ⟨_, rfl, rfl, rfl, r6, r8⟩
 obtain ⟨s2', h3, p1, p2, p6, p8⟩ := h3
 rw [r1] at p1; rw [r2] at p2; rw [r6] at p6; rw [r8] at p8
 have h4 : exec ⟨den pr D, dcl pr D, dfl pr D⟩ (hdS (nthS 13 c_q0.code)) ⟨s2', G', n + 1, 0⟩ = some (.norm ⟨upd s2' 10 (.n 1), G', n + 1, 0⟩) := by
  simp only [c_q0, hdS, tlS, nthS, go_sem]
 have h5 : ∃ s3, exec ⟨den pr D, dcl pr D, dfl pr D⟩ (hdS (nthS 14 c_q0.code)) ⟨upd s2' 10 (.n 1), G', n + 1, 0⟩ = some (.norm ⟨s3, upd (Go.Vm.low (n + 1) G') y (some ⟨Z2, V6 entC 4 1 es.length, true, false⟩), n + 1, 0⟩) ∧ s3 1 = s2' 1 ∧ s3 2 = s2' 2 ∧ s3 6 = s2' 6 ∧ s3 8 = s2' 8 ∧ s3 10 = .n (1 + ((4 * es.length : Nat) : Int)) := by
  simp only [c_q0, hdS, tlS, nthS, go_sem, p8, e3]
  exact ⟨_, rfl, rfl, rfl, rfl, p8, rfl⟩
 obtain ⟨s3, h5, z1, z2, z6, z8, z10⟩ := h5
 refine ⟨s3, upd (Go.Vm.low (n + 1) G') y (some ⟨Z2, V6 entC 4 1 es.length, true, false⟩), n + 1, ?_, ⟨z1.trans p1, z2.trans p2, z6.trans p6, ?_, ?_, w0, by omega, z8.trans p8, ?_, by omega, z10⟩⟩
 · rw [Z1i 10 h1 rfl, Z1i 11 h2 rfl, Z1i 12 h3 rfl, Z1i 13 h4 rfl, Z1i 14 h5 rfl]
 · rw [Z7, if_neg (by omega), Z50 (by omega)]; exact g01
 · rw [Z7, if_neg (by omega), Z50 (by omega)]; exact gw1
 · rw [Z7, if_pos rfl]
theorem Y56 {D : Nat} (hD : 12 ≤ D) (t : Tab) (nm : ByteArray) (es : List Ent) (hi : es.length ≤ big) (s : Nat → A) (G : Hp) (n w y : Nat) (I : Io6 t nm es s G n w y) :
 ∃ s', exec ⟨den pr D, dcl pr D, dfl pr D⟩ (nthS 15 c_q0.code) ⟨s, G, n, 0⟩ = exec ⟨den pr D, dcl pr D, dfl pr D⟩ (nthS 19 c_q0.code) ⟨s', G, n, 0⟩ ∧ Io6 t nm es s' G n w y := by
 obtain ⟨s1, s2, s6, g0, gw, w0, wy, s8, gy, yn, s10⟩ := I
 have e1 := Zad (show 2 ≤ D by omega) es.length hi
 have ml := Z56 entC 4 1 es.length
 have mt : (V6 entC 4 1 es.length).take es.length = V6 entC 4 1 es.length := List.take_of_length_le (by rw [ml]; exact Nat.le_refl _)
 have rm : W9 (V6 entC 4 1 es.length) = false := Zae _ (fun _ => rfl) _ _ _
 have hneg : (1 + ((4 * es.length : Nat) : Int) < 0) = False := eq_false (by omega)
 have h1 : exec ⟨den pr D, dcl pr D, dfl pr D⟩ (hdS (nthS 15 c_q0.code)) ⟨s, G, n, 0⟩ = some (.norm ⟨upd s 11 (.n 1), G, n, 0⟩) := by
  simp only [c_q0, hdS, tlS, nthS, go_sem]
 have h2 : ∃ s', exec ⟨den pr D, dcl pr D, dfl pr D⟩ (hdS (nthS 16 c_q0.code)) ⟨upd s 11 (.n 1), G, n, 0⟩ = some (.norm ⟨s', G, n, 0⟩) ∧ s' 1 = s 1 ∧ s' 2 = s 2 ∧ s' 6 = s 6 ∧ s' 8 = s 8 ∧ s' 10 = s 10 ∧ s' 11 = .n (1 + ((4 * es.length : Nat) : Int)) := by
  simp only [c_q0, hdS, tlS, nthS, go_sem, s8, gy, e1, ml, mt, rm, Nat.le_refl, if_true, ite_self]
  exact ⟨_, rfl, rfl, rfl, rfl, s8, rfl, rfl⟩
 obtain ⟨s', h2, r1, r2, r6, r8, r10, r11⟩ := h2
 rw [s1] at r1; rw [s2] at r2; rw [s6] at r6; rw [s8] at r8; rw [s10] at r10
 have h3 : ∃ s'', exec ⟨den pr D, dcl pr D, dfl pr D⟩ (hdS (nthS 17 c_q0.code)) ⟨s', G, n, 0⟩ = some (.norm ⟨s'', G, n, 0⟩) ∧ s'' 1 = s' 1 ∧ s'' 2 = s' 2 ∧ s'' 6 = s' 6 ∧ s'' 8 = s' 8 ∧ s'' 10 = s' 10 ∧ s'' 11 = s' 11 := by
  simp only [c_q0, hdS, tlS, nthS, go_sem, r11, hneg]
  exact ⟨_, rfl, rfl, rfl, rfl, rfl, rfl, r11⟩
 obtain ⟨s'', h3, p1, p2, p6, p8, p10, p11⟩ := h3
 rw [r1] at p1; rw [r2] at p2; rw [r6] at p6; rw [r8] at p8; rw [r10] at p10; rw [r11] at p11
 have h4 : ∃ s3, exec ⟨den pr D, dcl pr D, dfl pr D⟩ (hdS (nthS 18 c_q0.code)) ⟨s'', G, n, 0⟩ = some (.norm ⟨s3, G, n, 0⟩) ∧ s3 1 = s'' 1 ∧ s3 2 = s'' 2 ∧ s3 6 = s'' 6 ∧ s3 8 = s'' 8 ∧ s3 10 = s'' 10 := by
  simp only [c_q0, hdS, tlS, nthS, go_sem, p10, p11]
  exact ⟨_, rfl, rfl, rfl, rfl, rfl, p10⟩
 obtain ⟨s3, h4, z1, z2, z6, z8, z10⟩ := h4
 refine ⟨s3, ?_, ⟨z1.trans p1, z2.trans p2, z6.trans p6, g0, gw, w0, wy, z8.trans p8, gy, yn, z10.trans p10⟩⟩
 rw [Z1i 15 h1 rfl, Z1i 16 h2 rfl, Z1i 17 h3 rfl, Z1i 18 h4 rfl]
theorem Y57 {D : Nat} (hD : 12 ≤ D) (t : Tab) (nm : ByteArray) (es : List Ent) (hi : es.length ≤ big) (s : Nat → A) (G : Hp) (n w y : Nat) (I : Io6 t nm es s G n w y) :
 ∃ s', exec ⟨den pr D, dcl pr D, dfl pr D⟩ (nthS 21 c_q0.code) ⟨s, G, n, 0⟩ = exec ⟨den pr D, dcl pr D, dfl pr D⟩ (nthS 25 c_q0.code) ⟨s', G, n, 0⟩ ∧ Io6 t nm es s' G n w y := by
 obtain ⟨s1, s2, s6, g0, gw, w0, wy, s8, gy, yn, s10⟩ := I
 have e1 := Zad (show 2 ≤ D by omega) es.length hi
 have ml := Z56 entC 4 1 es.length
 have mt : (V6 entC 4 1 es.length).take es.length = V6 entC 4 1 es.length := List.take_of_length_le (by rw [ml]; exact Nat.le_refl _)
 have rm : W9 (V6 entC 4 1 es.length) = false := Zae _ (fun _ => rfl) _ _ _
 have hneg : (1 + ((4 * es.length : Nat) : Int) < 0) = False := eq_false (by omega)
 have h1 : exec ⟨den pr D, dcl pr D, dfl pr D⟩ (hdS (nthS 21 c_q0.code)) ⟨s, G, n, 0⟩ = some (.norm ⟨upd s 11 (.n 1), G, n, 0⟩) := by
  simp only [c_q0, hdS, tlS, nthS, go_sem]
 have h2 : ∃ s', exec ⟨den pr D, dcl pr D, dfl pr D⟩ (hdS (nthS 22 c_q0.code)) ⟨upd s 11 (.n 1), G, n, 0⟩ = some (.norm ⟨s', G, n, 0⟩) ∧ s' 1 = s 1 ∧ s' 2 = s 2 ∧ s' 6 = s 6 ∧ s' 8 = s 8 ∧ s' 10 = s 10 ∧ s' 11 = .n (1 + ((4 * es.length : Nat) : Int)) := by
  simp only [c_q0, hdS, tlS, nthS, go_sem, s8, gy, e1, ml, mt, rm, Nat.le_refl, if_true, ite_self]
  exact ⟨_, rfl, rfl, rfl, rfl, s8, rfl, rfl⟩
 obtain ⟨s', h2, r1, r2, r6, r8, r10, r11⟩ := h2
 rw [s1] at r1; rw [s2] at r2; rw [s6] at r6; rw [s8] at r8; rw [s10] at r10
 have h3 : ∃ s'', exec ⟨den pr D, dcl pr D, dfl pr D⟩ (hdS (nthS 23 c_q0.code)) ⟨s', G, n, 0⟩ = some (.norm ⟨s'', G, n, 0⟩) ∧ s'' 1 = s' 1 ∧ s'' 2 = s' 2 ∧ s'' 6 = s' 6 ∧ s'' 8 = s' 8 ∧ s'' 10 = s' 10 ∧ s'' 11 = s' 11 := by
  simp only [c_q0, hdS, tlS, nthS, go_sem, r11, hneg]
  exact ⟨_, rfl, rfl, rfl, rfl, rfl, rfl, r11⟩
 obtain ⟨s'', h3, p1, p2, p6, p8, p10, p11⟩ := h3
 rw [r1] at p1; rw [r2] at p2; rw [r6] at p6; rw [r8] at p8; rw [r10] at p10; rw [r11] at p11
 have h4 : ∃ s3, exec ⟨den pr D, dcl pr D, dfl pr D⟩ (hdS (nthS 24 c_q0.code)) ⟨s'', G, n, 0⟩ = some (.norm ⟨s3, G, n, 0⟩) ∧ s3 1 = s'' 1 ∧ s3 2 = s'' 2 ∧ s3 6 = s'' 6 ∧ s3 8 = s'' 8 ∧ s3 10 = s'' 10 := by
  simp only [c_q0, hdS, tlS, nthS, go_sem, p10, p11]
  exact ⟨_, rfl, rfl, rfl, rfl, rfl, p10⟩
 obtain ⟨s3, h4, z1, z2, z6, z8, z10⟩ := h4
 refine ⟨s3, ?_, ⟨z1.trans p1, z2.trans p2, z6.trans p6, g0, gw, w0, wy, z8.trans p8, gy, yn, z10.trans p10⟩⟩
 rw [Z1i 21 h1 rfl, Z1i 22 h2 rfl, Z1i 23 h3 rfl, Z1i 24 h4 rfl]
theorem Y75 {D : Nat} (hD : 12 ≤ D) (t : Tab) (hf : FitT t) (hm : MidT t) (nm : ByteArray) (hi : (Vf t nm).length ≤ big) (s : Nat → A) (G : Hp) (n w y : Nat) (I : Io6 t nm (Vf t nm) s G n w y) :
 ∃ s' G' n', exec ⟨den pr D, dcl pr D, dfl pr D⟩ (nthS 19 c_q0.code) ⟨s, G, n, 0⟩ = exec ⟨den pr D, dcl pr D, dfl pr D⟩ (nthS 21 c_q0.code) ⟨s', G', n', 0⟩ ∧ Io6 t nm (Vf t nm) s' G' n' w y := by
 obtain ⟨s1, s2, s6, g0, gw, w0, wy, s8, gy, yn, s10⟩ := I
 obtain ⟨F, hF⟩ := Z8e (show 5 ≤ D by omega) t hf hm
 obtain ⟨e1, H1, k1⟩ := hF G (n + 1)
 have e3 := Zkd (show 10 ≤ D by omega) t hm.small nm
 have e4 := Z9s (show 3 ≤ D by omega) (Vf t nm) hi
 obtain ⟨ns, hns⟩ := Zip H1.rows
 have q1 := H1.cols
 have q2 := H1.chgs
 have q3 := H1.rows.top
 have t1 : (t.first.map ColV.c).take t.first.length = t.first.map ColV.c := List.take_of_length_le (by simp)
 have t2 : (t.chg.map Chg.c).take t.chg.length = t.chg.map Chg.c := List.take_of_length_le (by simp)
 have t3 : (roL (n + 1 + 11) t.rows).take t.rows.length = roL (n + 1 + 11) t.rows := List.take_of_length_le (by rw [Z22]; exact Nat.le_refl _)
 have rl := Z22 (n + 1 + 11) t.rows
 generalize Vf t nm = es at *
 have t5 : (es.map Ent.c).take es.length = es.map Ent.c := List.take_of_length_le (by simp)
 have h1 : ∃ s', exec ⟨den pr D, dcl pr D, dfl pr D⟩ (hdS (nthS 19 c_q0.code)) ⟨s, G, n, 0⟩ = some (.norm ⟨s', upd (F G (n + 1)) (n + 1 + 11 + (t.rows.length + 1)) (some ⟨Z2, es.map Ent.c, true, false⟩), n + 1 + 11 + (t.rows.length + 1) + 1, 0⟩) ∧ s' 1 = .s nm ∧ s' 2 = .ptr 0 0 0 ∧ s' 6 = .ref Z2 w 0 es.length es.length false ∧ s' 8 = .ref Z2 y 0 es.length es.length false ∧ s' 10 = .n (1 + ((4 * es.length : Nat) : Int)) ∧ s' 12 = .ref Z2 (n + 1 + 11 + (t.rows.length + 1)) 0 es.length es.length false := by
  simp only [c_q0, hdS, tlS, nthS, go_sem, s1, s2, g0, e1, e3, q1, q2, q3, t1, t2, t3, rl, hns, Vq, List.length_map, Nat.le_refl, if_true, ite_self]
  exact ⟨_, rfl, s1, s2, s6, s8, s10, rfl⟩
 obtain ⟨z, hz⟩ : ∃ z, z = n + 1 + 11 + (t.rows.length + 1) := ⟨_, rfl⟩
 rw [← hz] at h1
 have glow : ∀ x, x < n → upd (F G (n + 1)) z (some ⟨Z2, es.map Ent.c, true, false⟩) x = G x := fun x hx => by rw [Z7, if_neg (by omega), k1 x (by omega)]
 obtain ⟨s', h1, r1, r2, r6, r8, r10, r12⟩ := h1
 obtain ⟨G', hG'⟩ : ∃ G', G' = upd (F G (n + 1)) z (some ⟨Z2, es.map Ent.c, true, false⟩) := ⟨_, rfl⟩
 rw [← hG'] at h1 glow
 have gz : G' z = some ⟨Z2, es.map Ent.c, true, false⟩ := by rw [hG', Z7, if_pos rfl]
 have gw1 := (glow w (by omega)).trans gw
 have h2 : ∃ s'', exec ⟨den pr D, dcl pr D, dfl pr D⟩ (hdS (nthS 20 c_q0.code)) ⟨s', G', z + 1, 0⟩ = some (.norm ⟨s'', G', z + 1, 0⟩) ∧ s'' 1 = s' 1 ∧ s'' 2 = s' 2 ∧ s'' 6 = s' 6 ∧ s'' 8 = s' 8 ∧ s'' 10 = s' 10 := by
  simp only [c_q0, hdS, tlS, nthS, go_sem, r6, r12, gw1, gz, e4, t5, Vq, List.length_map, Nat.le_refl, if_true, ite_self]
  exact ⟨_, rfl, rfl, rfl, r6, rfl, rfl⟩
 obtain ⟨s'', h2, p1, p2, p6, p8, p10⟩ := h2
 refine ⟨s'', G', z + 1, ?_, ⟨p1.trans r1, p2.trans r2, p6.trans r6, (glow 0 (by omega)).trans g0, gw1, w0, wy, p8.trans r8, (glow y yn).trans gy, by omega, p10.trans r10⟩⟩
 rw [Z1i 19 h1 rfl, Z1i 20 h2 rfl]
theorem Y49 {D : Nat} (hD : 12 ≤ D) (t : Tab) (nm : ByteArray) (hf : FitT t) : ∃ σ', exec ⟨den pr D, dcl pr D, dfl pr D⟩ c_q0.code ⟨slots [.agg (tabL t), .s nm], fun _ => none, 0, 0⟩ = some (.ret σ') ∧ σ'.s 4 = .q true := by
 show ∃ σ', exec ⟨den pr D, dcl pr D, dfl pr D⟩ (nthS 0 c_q0.code) _ = _ ∧ _
 obtain ⟨G, hG⟩ : ∃ G : Hp, G = upd (fun _ => none) 0 (some ⟨Yo, [tabL t], true, true⟩) := ⟨_, rfl⟩
 have g0 : G 0 = some ⟨Yo, [tabL t], true, true⟩ := by rw [hG, Z7, if_pos rfl]
 have h0 : ∃ s', exec ⟨den pr D, dcl pr D, dfl pr D⟩ (hdS (nthS 0 c_q0.code)) ⟨slots [.agg (tabL t), .s nm], fun _ => none, 0, 0⟩ = some (.norm ⟨s', G, 1, 0⟩) ∧ s' 1 = .s nm ∧ s' 2 = .ptr 0 0 0 := by
  rw [hG]
  simp only [c_q0, hdS, tlS, nthS, go_sem]
  exact ⟨_, rfl, rfl, rfl⟩
 obtain ⟨s0, h0, a1, a2⟩ := h0
 rw [Z1i 0 h0 rfl]
 by_cases hbig : (1048576 : Int) < (nm.size : Int)
 · have h1 : ∃ σ', exec ⟨den pr D, dcl pr D, dfl pr D⟩ (hdS (nthS 1 c_q0.code)) ⟨s0, G, 1, 0⟩ = some (.ret σ') ∧ σ'.s 4 = .q true := by
    simp only [c_q0, hdS, tlS, nthS, go_sem, a1, hbig]
    exact ⟨_, rfl, rfl⟩
   obtain ⟨σ', h1, r4⟩ := h1
   exact ⟨σ', Zye 1 h1 rfl, r4⟩
 · have h1 : ∃ s', exec ⟨den pr D, dcl pr D, dfl pr D⟩ (hdS (nthS 1 c_q0.code)) ⟨s0, G, 1, 0⟩ = some (.norm ⟨s', G, 1, 0⟩) ∧ s' 1 = s0 1 ∧ s' 2 = s0 2 := by
    simp only [c_q0, hdS, tlS, nthS, go_sem, a1, hbig]
    exact ⟨_, rfl, a1, rfl⟩
   obtain ⟨s1, h1, b1, b2⟩ := h1
   rw [a1] at b1; rw [a2] at b2
   have h2 : ∃ s', exec ⟨den pr D, dcl pr D, dfl pr D⟩ (hdS (nthS 2 c_q0.code)) ⟨s1, G, 1, 0⟩ = some (.norm ⟨s', G, 1, 0⟩) ∧ s' 1 = s1 1 ∧ s' 2 = s1 2 ∧ s' 5 = .n cap := by
    simp only [c_q0, hdS, tlS, nthS, go_sem]
    exact ⟨_, rfl, rfl, rfl, rfl⟩
   obtain ⟨s2, h2, c1, c2, c5⟩ := h2
   rw [b1] at c1; rw [b2] at c2
   obtain ⟨m, e0, hm⟩ := Zqh (show 5 ≤ D by omega) t hf
   have h3 : ∃ s', exec ⟨den pr D, dcl pr D, dfl pr D⟩ (hdS (nthS 3 c_q0.code)) ⟨s2, G, 1, 0⟩ = some (.norm ⟨s', G, 1, 0⟩) ∧ s' 1 = s2 1 ∧ s' 2 = s2 2 ∧ s' 5 = .n m := by
    simp only [c_q0, hdS, tlS, nthS, go_sem, c2, c5, g0, e0]
    exact ⟨_, rfl, rfl, c2, rfl⟩
   obtain ⟨s3, h3, d1, d2, d5⟩ := h3
   rw [c1] at d1; rw [c2] at d2
   rw [Z1i 1 h1 rfl, Z1i 2 h2 rfl, Z1i 3 h3 rfl]
   by_cases hneg : m < 0
   · have h4 : ∃ σ', exec ⟨den pr D, dcl pr D, dfl pr D⟩ (hdS (nthS 4 c_q0.code)) ⟨s3, G, 1, 0⟩ = some (.ret σ') ∧ σ'.s 4 = .q true := by
      simp only [c_q0, hdS, tlS, nthS, go_sem, d5, hneg]
      exact ⟨_, rfl, rfl⟩
     obtain ⟨σ', h4, r4⟩ := h4
     exact ⟨σ', Zye 4 h4 rfl, r4⟩
   · obtain ⟨hm, S, m0, mc⟩ := hm.resolve_left hneg
     have h4 : ∃ s', exec ⟨den pr D, dcl pr D, dfl pr D⟩ (hdS (nthS 4 c_q0.code)) ⟨s3, G, 1, 0⟩ = some (.norm ⟨s', G, 1, 0⟩) ∧ s' 1 = s3 1 ∧ s' 2 = s3 2 := by
      simp only [c_q0, hdS, tlS, nthS, go_sem, d5, hneg]
      exact ⟨_, rfl, rfl, rfl⟩
     obtain ⟨s4, h4, f1, f2⟩ := h4
     rw [d1] at f1; rw [d2] at f2
     have hib : (Vf t nm).length ≤ big := Nat.le_trans (Zio t nm) hm.small.rlen
     obtain ⟨s5, G5, n5, w, h5, I5⟩ := io_5 hD t hf hm nm s4 G 1 (by omega) f1 f2 g0
     obtain ⟨s6, G6, n6, p, a, b, c, h6, I6⟩ := io_6 hD t hf hm nm _ s5 G5 n5 w I5
     obtain ⟨s7, G7, n7, h7, I7⟩ := io_7 hD t hm nm s6 G6 n6 w p a b c I6
     obtain ⟨s8, G8, n8, h8, I8⟩ := io_8 hD t nm _ hib s7 G7 n7 w p a b c n6 I7
     obtain ⟨s9, G9, n9, h9, I9⟩ := io_9 hD t hf hm nm _ s8 G8 n8 w p a b c n6 I8
     obtain ⟨s10, G10, n10, h10, I10⟩ := Y6k hD t hm S nm _ hib s9 G9 n9 w p a b c n6 I9
     obtain ⟨s15, h15, I15⟩ := Y56 hD t nm _ hib s10 G10 n10 w n6 I10
     obtain ⟨s19, G19, n19, h19, I19⟩ := Y75 hD t hf hm nm hib s15 G10 n10 w n6 I15
     obtain ⟨s21, h21, I21⟩ := Y57 hD t nm _ hib s19 G19 n19 w n6 I19
     rw [Z1i 4 h4 rfl, Z1i 5 h5 rfl, Z1i 6 h6 rfl, Z1i 7 h7 rfl, Z1i 8 h8 rfl, Z1i 9 h9 rfl, h10, h15, h19, h21]
     simp only [c_q0, hdS, tlS, nthS, go_sem]
     exact ⟨_, rfl, rfl⟩
theorem Zan {D : Nat} (hD : 13 ≤ D) (t : Tab) (nm : ByteArray) (hf : FitT t) (_ : nm.size ≤ maxLen) : den pr D f_q0 [.agg (tabL t), .s nm] = some [.q true] := by
 obtain ⟨D, rfl, hd⟩ := Z8 hD
 rw [u_q0]
 obtain ⟨σ', h, h4⟩ := Y49 hd t nm hf
 rw [h]
 simp only [c_q0, go_sem, h4]
end Go.Vm.T
end
