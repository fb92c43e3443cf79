/-
  Sizes, copies, equalities; the law in the abstract machine
-/
import Derived.Test.YtcceojmajfinpaaGreatDoorFnsH
import Derived.Test.YtcceojmajfinpaaGreatDoorVmD
import Derived.Test.YtcceojmajfinpaaGreatDoorVmB
section
set_option linter.unusedVariables false
set_option linter.unusedSectionVars false
set_option linter.unusedSimpArgs false
namespace Go.Vm.T
open Go.Proofs
abbrev valW : Val → Nat := fun v => v.t.size
abbrev chgW : Chg → Nat := fun c => c.nm.size + (c.nw.size + colW c.col)
abbrev rowW : RowV → Nat := fun r => r.vals.length + (r.vals.map valW).sum
abbrev rowL (r : RowV) : List A := [.n r.id, .n r.ver, .lit Yy (r.vals.map Val.c)]
abbrev tabL (t : Tab) : List A := [.lit Ya (t.first.map ColV.c), .lit Zj (t.chg.map Chg.c), .lit Ys (t.rows.map rowL), .n t.next]
abbrev zChg : List A := [.n 0, .s ⟨#[]⟩, .s ⟨#[]⟩, .s ⟨#[]⟩, .n 0, .q false, .q false, .n 0, .n 0, .s ⟨#[]⟩]
abbrev zRow : List A := [.n 0, .n 0, .lit Z1 []]
abbrev szV (v : Val) : Prop := v.t.size ≤ maxLen
abbrev szC (c : ColV) : Prop := c.nm.size ≤ maxLen ∧ c.df.t.size ≤ maxLen
abbrev szG (c : Chg) : Prop := c.nm.size ≤ maxLen ∧ c.nw.size ≤ maxLen ∧ szC c.col
abbrev szR (r : RowV) : Prop := r.vals.length ≤ maxLen ∧ ∀ v ∈ r.vals, szV v
variable [Pr2]
theorem Zg8 {l : Int} (a b : Nat) (h : ¬ dec l a < 0) : dec (dec l a) b = dec l (a + b) := Zrf a b h
theorem Zl2 {α : Type} (w : α → Nat) : ∀ (es : List α) (l : Int), 0 ≤ l → (Z7q w l es).getD (-1) = dec l (es.map w).sum
 | [], l, h => by unfold dec Z7q; simp; omega
 | e :: es, l, h => by
   unfold Z7q
   rw [List.map_cons, List.sum_cons]
   by_cases hn : dec l (w e) < 0
   · rw [if_pos hn, Zkb _ _ hn]; rfl
   · rw [if_neg hn, Zl2 w es _ (by omega), Zg8 _ _ hn]
theorem Ze4 {α : Type} (w : α → Nat) (es : List α) (l : Int) (h : 0 ≤ l) : Wm w l es = dec l (es.length + (es.map w).sum) := by
 unfold Wm
 by_cases hn : l - (es.length : Int) < 0
 · rw [if_pos hn, Zkb _ _ (by unfold dec; rw [if_pos hn]; decide)]
 · rw [if_neg hn, Zl2 w es _ (by omega)]
   have hx : dec l es.length = l - es.length := by unfold dec; rw [if_neg hn]
   rw [← hx]
   exact Zg8 _ _ (by rw [hx]; exact hn)
theorem Zuj {D : Nat} (hD : 1 ≤ D) (es : List Val) (l : Int) (h0 : 0 ≤ l) (h1 : l ≤ cap) (hl : es.length ≤ big) (hs : ∀ e ∈ es, szV e) :
 Xr (Z9 (exec ⟨den pr D, dcl pr D, dfl pr D⟩ Z2u) [0, 1, 5] rounds ⟨upd (upd (upd (fun _ => .bad) 0 (.lit Yy (es.map Val.c))) 1 (.n l)) 5 (.n (0 : Nat)), fun _ => none, 0, 0⟩) Int Unit (runI (szGo valW) 0 l es)
  (fun m o => ∃ σ', o = .exit 0 σ' ∧ σ'.s 1 = .n m) (fun _ o => ∃ σ', o = .ret σ' ∧ σ'.s 4 = .n (-1)) := by
 refine Zh es (fun i (m : Int) => ⟨upd (upd (upd (fun _ => .bad) 0 (.lit Yy (es.map Val.c))) 1 (.n m)) 5 (.n i), fun _ => none, 0, 0⟩) _ (fun _ m => 0 ≤ m ∧ m ≤ cap) _ _ l ⟨h0, h1⟩ hl (fun i m e K hc hlt hi => ?_) (fun m K _ => ?_)
 · have hr := Zq (f := Val.c) hc
   have hw := Zf (n := i) (by unfold big at hl; omega)
   have hm := Ztk hD e m hi.1 hi.2 (hs e (List.mem_of_getElem? hc))
   simp only [Z9, Z54, Z12, go_sem, List.length_map, hr, hlt, hw, hm, szGo]
   by_cases h : dec m (valW e) < 0
   · simp only [h, go_sem]; exact ⟨_, rfl, _, rfl, rfl⟩
   · obtain ⟨h4, h5⟩ := Zbc h
     simp only [h, go_sem]
     exact ⟨by omega, by omega⟩
 · have hi : ¬ es.length < es.length := by omega
   simp only [Z9, Z54, Z12, go_sem, List.length_map, hi]
   exact ⟨_, rfl, _, rfl, rfl⟩
theorem Zve {D : Nat} (hD : 2 ≤ D) (es : List Val) (l : Int) (h0 : 0 ≤ l) (h1 : l ≤ cap) (hl : es.length ≤ maxLen) (hs : ∀ e ∈ es, szV e) :
 den pr D V1 [.lit Yy (es.map Val.c), .n l] = some [.n (Wm valW l es)] := by
 obtain ⟨D, rfl, hd⟩ := Z8 hD
 rw [Zge]
 have hw : IntKind.i64.wrap (l - (es.length : Int)) = l - es.length := wrap_i64 (by unfold maxLen at hl; omega) (by unfold cap at h1; omega)
 simp only [c_laws_szValS, go_sem, List.length_map, hw, Wm]
 by_cases h : l - (es.length : Int) < 0
 · simp only [h, go_sem]
 · have hb : es.length ≤ big := by unfold cap at h1; unfold big; omega
   obtain ⟨out, lo, lp⟩ := Zuj hd es (l - es.length) (by omega) (by omega) hb hs
   rw [show ((0 : Nat) : Int) = 0 from rfl] at lo
   rw [Z62] at lp
   cases hq : Z7q valW (l - es.length) es with
   | some m =>
     rw [hq] at lp
     obtain ⟨σ', rfl, l2⟩ := lp
     simp only [h, go_sem, lo, l2, Option.getD_some]
   | none =>
     rw [hq] at lp
     obtain ⟨σ', rfl, l2⟩ := lp
     simp only [h, go_sem, lo, l2, Option.getD_none]
theorem Zti {D : Nat} (hD : 1 ≤ D) (es : List Val) (hl : es.length ≤ big) (hs : ∀ e ∈ es, szV e) :
 Xr (Z9 (exec ⟨den pr D, dcl pr D, dfl pr D⟩ Z36) [0, 3, 4] rounds ⟨upd (upd (upd (fun _ => .bad) 0 (.lit Yy (es.map Val.c))) 3 (.ref Z1 0 0 es.length es.length true)) 4 (.n (0 : Nat)), upd (fun _ => none) 0 (some ⟨Z1, frow zVal (es.map Val.c) 0, true, false⟩), 1, 0⟩) Unit Unit (runI (fun _ _ _ => .inl ()) 0 () es)
  (fun m o => ∃ σ', o = .exit 0 σ' ∧ σ'.s 3 = .ref Z1 0 0 es.length es.length true ∧ σ'.h 0 = some ⟨Z1, es.map Val.c, true, false⟩) (fun _ o => False) := by
 refine Zh es (fun i (_ : Unit) => ⟨upd (upd (upd (fun _ => .bad) 0 (.lit Yy (es.map Val.c))) 3 (.ref Z1 0 0 es.length es.length true)) 4 (.n i), upd (fun _ => none) 0 (some ⟨Z1, frow zVal (es.map Val.c) i, true, false⟩), 1, 0⟩) _ (fun _ _ => True) _ _ () trivial hl (fun i m e K hc hlt hi => ?_) (fun m K _ => ?_)
 · have hr := Zq (f := Val.c) hc
   have hr' := Zq (f := Val.c) hc
   have hw := Zf (n := i) (by unfold big at hl; omega)
   have hm := Zrv hD e
   have hf : (frow zVal (es.map Val.c) i)[i]? = some zVal := Zhj (by simpa using hlt)
   have hs := Zau (z := zVal) hr'
   have hlen : (frow zVal (es.map Val.c) i).length = es.length := by rw [Z4i (by simp; omega)]; simp
   simp only [Z9, Z5d, Z0t, go_sem, List.length_map, hr, hlt, hw, hm, hf, hs, hlen]
 · have hi : ¬ es.length < es.length := by omega
   have ha := Zb0 zVal (es.map Val.c)
   rw [List.length_map] at ha
   simp only [Z9, Z5d, Z0t, go_sem, List.length_map, hi, ha]
   exact ⟨_, rfl, _, rfl, rfl, rfl⟩
theorem Zwy {D : Nat} (hD : 2 ≤ D) (es : List Val) (hl : es.length ≤ big) (hs : ∀ e ∈ es, szV e) : den pr D Vc [.lit Yy (es.map Val.c)] = some [.olit Z1 (es.map Val.c)] := by
 obtain ⟨D, rfl, hd⟩ := Z8 hD
 rw [Zfo]
 obtain ⟨out, lo, lp⟩ := Zti hd es hl hs
 rw [Wo] at lp
 obtain ⟨σ', rfl, l2, l3⟩ := lp
 rw [show ((0 : Nat) : Int) = 0 from rfl, Z8q, List.length_map] at lo
 simp only [c_laws_toValS, go_sem, List.length_map, hl, lo, l2, l3]
theorem Zss {D : Nat} (hD : 1 ≤ D) (es : List Val) (hl : es.length ≤ big) (hs : ∀ e ∈ es, szV e) :
 Xr (Z9 (exec ⟨den pr D, dcl pr D, dfl pr D⟩ Z34) [0, 1, 5] rounds ⟨upd (upd (upd (fun _ => .bad) 0 (.lit Z1 (es.map Val.c))) 1 (.lit Z1 (es.map Val.c))) 5 (.n (0 : Nat)), fun _ => none, 0, 0⟩) Unit Unit (runI (fun _ _ _ => .inl ()) 0 () es)
  (fun m o => ∃ σ', o = .exit 0 σ') (fun _ o => False) := by
 refine Zh es (fun i (_ : Unit) => ⟨upd (upd (upd (fun _ => .bad) 0 (.lit Z1 (es.map Val.c))) 1 (.lit Z1 (es.map Val.c))) 5 (.n i), fun _ => none, 0, 0⟩) _ (fun _ _ => True) _ _ () trivial hl (fun i m e K hc hlt hi => ?_) (fun m K _ => ?_)
 · have hr := Zq (f := Val.c) hc
   have hw := Zf (n := i) (by unfold big at hl; omega)
   have hm := Zlq hD e
   simp only [Z9, Z63, Z14, go_sem, List.length_map, hr, hlt, hw, hm]
 · have hi : ¬ es.length < es.length := by omega
   simp only [Z9, Z63, Z14, go_sem, List.length_map, hi]
   exact ⟨_, rfl, _, rfl⟩
theorem Zvp {D : Nat} (hD : 2 ≤ D) (es : List Val) (hl : es.length ≤ big) (hs : ∀ e ∈ es, szV e) : den pr D Va [.lit Z1 (es.map Val.c), .lit Z1 (es.map Val.c)] = some [.q true] := by
 obtain ⟨D, rfl, hd⟩ := Z8 hD
 rw [Zh6]
 obtain ⟨out, lo, lp⟩ := Zss hd es hl hs
 rw [Wo] at lp
 obtain ⟨σ', rfl⟩ := lp
 rw [show ((0 : Nat) : Int) = 0 from rfl] at lo
 simp only [c_laws_eqValS, go_sem, List.length_map, lo]
theorem Zqm {D : Nat} (hD : 3 ≤ D) (e : Chg) (l : Int) (h0 : 0 ≤ l) (h1 : l ≤ cap) (hv : szG e) : den pr D Zmv [.agg e.c, .n l] = some [.n (dec l (chgW e))] := by
 obtain ⟨D, rfl, hd⟩ := Z8 hD
 rw [Y74]
 have hw : IntKind.i64.wrap (l - (e.nm.size : Int)) = l - e.nm.size := wrap_i64 (by have := hv.1; unfold maxLen at this; omega) (by unfold cap at h1; omega)
 have m1 : (-1 : Int) < 0 := by decide
 by_cases h : l - (e.nm.size : Int) < 0
 · have h2 : dec l (chgW e) = -1 := Zkb _ _ (by unfold dec; rw [if_pos h]; decide)
   simp only [c_q54, go_sem, hw, h, h2]
 · have hx : dec l e.nm.size = l - e.nm.size := by unfold dec; rw [if_neg h]
   have hw2 : IntKind.i64.wrap (l - (e.nm.size : Int) - (e.nw.size : Int)) = l - e.nm.size - e.nw.size := wrap_i64 (by have := hv.2.1; unfold maxLen at this; omega) (by unfold cap at h1; omega)
   have hd1 : dec l (chgW e) = dec (l - e.nm.size) (e.nw.size + colW e.col) := by rw [← hx]; exact (Zg8 _ _ (by rw [hx]; exact h)).symm
   by_cases h3 : l - (e.nm.size : Int) - (e.nw.size : Int) < 0
   · have h2 : dec l (chgW e) = -1 := by rw [hd1]; exact Zkb _ _ (by unfold dec; rw [if_pos h3]; decide)
     simp only [c_q54, go_sem, hw, h, hw2, h3, h2]
   · have hy : dec (l - e.nm.size) e.nw.size = l - e.nm.size - e.nw.size := by unfold dec; rw [if_neg h3]
     have hd2 : dec l (chgW e) = dec (l - e.nm.size - e.nw.size) (colW e.col) := by rw [hd1, ← hy]; exact (Zg8 _ _ (by rw [hy]; exact h3)).symm
     have hs := Zt6 (show 2 ≤ D by omega) e.col (l - e.nm.size - e.nw.size) (by omega) (by omega) hv.2.2
     rw [← hd2] at hs
     by_cases h4 : dec l (chgW e) < 0
     · have h5 := Zms h4
       simp only [c_q54, go_sem, hw, h, hw2, h3, hs, h5, m1]
     · simp only [c_q54, go_sem, hw, h, hw2, h3, hs, h4]
theorem Zpx {D : Nat} (hD : 3 ≤ D) (e : Chg) (_ : szG e) : den pr D Znc [.agg e.c] = some [.agg e.c] := by
 obtain ⟨D, rfl, hd⟩ := Z8 hD
 have h1 := Zuf hd e.col
 rw [Y4p]
 simp only [c_q59, go_sem, h1]
theorem Zp9 {D : Nat} (hD : 3 ≤ D) (e : Chg) (_ : szG e) : den pr D Zmz [.agg e.c, .agg e.c] = some [.q true] := by
 obtain ⟨D, rfl, hd⟩ := Z8 hD
 have h1 := Zu6 hd e.col
 rw [Y5i]
 simp only [c_q62, go_sem, h1]
theorem Zi7 {D : Nat} (hD : 3 ≤ D) (es : List Chg) (l : Int) (h0 : 0 ≤ l) (h1 : l ≤ cap) (hl : es.length ≤ big) (hs : ∀ e ∈ es, szG e) :
 Xr (Z9 (exec ⟨den pr D, dcl pr D, dfl pr D⟩ Znq) [0, 1, 5] rounds ⟨upd (upd (upd (fun _ => .bad) 0 (.lit Zj (es.map Chg.c))) 1 (.n l)) 5 (.n (0 : Nat)), fun _ => none, 0, 0⟩) Int Unit (runI (szGo chgW) 0 l es)
  (fun m o => ∃ σ', o = .exit 0 σ' ∧ σ'.s 1 = .n m) (fun _ o => ∃ σ', o = .ret σ' ∧ σ'.s 4 = .n (-1)) := by
 refine Zh es (fun i (m : Int) => ⟨upd (upd (upd (fun _ => .bad) 0 (.lit Zj (es.map Chg.c))) 1 (.n m)) 5 (.n i), fun _ => none, 0, 0⟩) _ (fun _ m => 0 ≤ m ∧ m ≤ cap) _ _ l ⟨h0, h1⟩ hl (fun i m e K hc hlt hi => ?_) (fun m K _ => ?_)
 · have hr := Zq (f := Chg.c) hc
   have hw := Zf (n := i) (by unfold big at hl; omega)
   have hm := Zqm hD e m hi.1 hi.2 (hs e (List.mem_of_getElem? hc))
   simp only [Z9, Zry, Zhu, go_sem, List.length_map, hr, hlt, hw, hm, szGo]
   by_cases h : dec m (chgW e) < 0
   · simp only [h, go_sem]; exact ⟨_, rfl, _, rfl, rfl⟩
   · obtain ⟨h4, h5⟩ := Zbc h
     simp only [h, go_sem]
     exact ⟨by omega, by omega⟩
 · have hi : ¬ es.length < es.length := by omega
   simp only [Z9, Zry, Zhu, go_sem, List.length_map, hi]
   exact ⟨_, rfl, _, rfl, rfl⟩
theorem Zcm {D : Nat} (hD : 4 ≤ D) (es : List Chg) (l : Int) (h0 : 0 ≤ l) (h1 : l ≤ cap) (hl : es.length ≤ maxLen) (hs : ∀ e ∈ es, szG e) :
 den pr D Zmf [.lit Zj (es.map Chg.c), .n l] = some [.n (Wm chgW l es)] := by
 obtain ⟨D, rfl, hd⟩ := Z8 hD
 rw [Y5t]
 have hw : IntKind.i64.wrap (l - (es.length : Int)) = l - es.length := wrap_i64 (by unfold maxLen at hl; omega) (by unfold cap at h1; omega)
 simp only [c_q13, go_sem, List.length_map, hw, Wm]
 by_cases h : l - (es.length : Int) < 0
 · simp only [h, go_sem]
 · have hb : es.length ≤ big := by unfold cap at h1; unfold big; omega
   obtain ⟨out, lo, lp⟩ := Zi7 hd es (l - es.length) (by omega) (by omega) hb hs
   rw [show ((0 : Nat) : Int) = 0 from rfl] at lo
   rw [Z62] at lp
   cases hq : Z7q chgW (l - es.length) es with
   | some m =>
     rw [hq] at lp
     obtain ⟨σ', rfl, l2⟩ := lp
     simp only [h, go_sem, lo, l2, Option.getD_some]
   | none =>
     rw [hq] at lp
     obtain ⟨σ', rfl, l2⟩ := lp
     simp only [h, go_sem, lo, l2, Option.getD_none]
theorem Zl4 {D : Nat} (hD : 3 ≤ D) (es : List Chg) (hl : es.length ≤ big) (hs : ∀ e ∈ es, szG e) :
 Xr (Z9 (exec ⟨den pr D, dcl pr D, dfl pr D⟩ Zme) [0, 3, 4] rounds ⟨upd (upd (upd (fun _ => .bad) 0 (.lit Zj (es.map Chg.c))) 3 (.ref Z4 0 0 es.length es.length true)) 4 (.n (0 : Nat)), upd (fun _ => none) 0 (some ⟨Z4, frow zChg (es.map Chg.c) 0, true, false⟩), 1, 0⟩) Unit Unit (runI (fun _ _ _ => .inl ()) 0 () es)
  (fun m o => ∃ σ', o = .exit 0 σ' ∧ σ'.s 3 = .ref Z4 0 0 es.length es.length true ∧ σ'.h 0 = some ⟨Z4, es.map Chg.c, true, false⟩) (fun _ o => False) := by
 refine Zh es (fun i (_ : Unit) => ⟨upd (upd (upd (fun _ => .bad) 0 (.lit Zj (es.map Chg.c))) 3 (.ref Z4 0 0 es.length es.length true)) 4 (.n i), upd (fun _ => none) 0 (some ⟨Z4, frow zChg (es.map Chg.c) i, true, false⟩), 1, 0⟩) _ (fun _ _ => True) _ _ () trivial hl (fun i m e K hc hlt hi => ?_) (fun m K _ => ?_)
 · have hr := Zq (f := Chg.c) hc
   have hr' := Zq (f := Chg.c) hc
   have hw := Zf (n := i) (by unfold big at hl; omega)
   have hm := Zpx hD e (hs e (List.mem_of_getElem? hc))
   have hf : (frow zChg (es.map Chg.c) i)[i]? = some zChg := Zhj (by simpa using hlt)
   have hs := Zau (z := zChg) hr'
   have hlen : (frow zChg (es.map Chg.c) i).length = es.length := by rw [Z4i (by simp; omega)]; simp
   simp only [Z9, Zv0, Zg1, go_sem, List.length_map, hr, hlt, hw, hm, hf, hs, hlen]
 · have hi : ¬ es.length < es.length := by omega
   have ha := Zb0 zChg (es.map Chg.c)
   rw [List.length_map] at ha
   simp only [Z9, Zv0, Zg1, go_sem, List.length_map, hi, ha]
   exact ⟨_, rfl, _, rfl, rfl, rfl⟩
theorem Zma {D : Nat} (hD : 4 ≤ D) (es : List Chg) (hl : es.length ≤ big) (hs : ∀ e ∈ es, szG e) : den pr D Zlt [.lit Zj (es.map Chg.c)] = some [.olit Z4 (es.map Chg.c)] := by
 obtain ⟨D, rfl, hd⟩ := Z8 hD
 rw [Y6u]
 obtain ⟨out, lo, lp⟩ := Zl4 hd es hl hs
 rw [Wo] at lp
 obtain ⟨σ', rfl, l2, l3⟩ := lp
 rw [show ((0 : Nat) : Int) = 0 from rfl, Z8q, List.length_map] at lo
 simp only [c_q19, go_sem, List.length_map, hl, lo, l2, l3]
theorem Zjv {D : Nat} (hD : 3 ≤ D) (es : List Chg) (hl : es.length ≤ big) (hs : ∀ e ∈ es, szG e) :
 Xr (Z9 (exec ⟨den pr D, dcl pr D, dfl pr D⟩ Zlz) [0, 1, 5] rounds ⟨upd (upd (upd (fun _ => .bad) 0 (.lit Z4 (es.map Chg.c))) 1 (.lit Z4 (es.map Chg.c))) 5 (.n (0 : Nat)), fun _ => none, 0, 0⟩) Unit Unit (runI (fun _ _ _ => .inl ()) 0 () es)
  (fun m o => ∃ σ', o = .exit 0 σ') (fun _ o => False) := by
 refine Zh es (fun i (_ : Unit) => ⟨upd (upd (upd (fun _ => .bad) 0 (.lit Z4 (es.map Chg.c))) 1 (.lit Z4 (es.map Chg.c))) 5 (.n i), fun _ => none, 0, 0⟩) _ (fun _ _ => True) _ _ () trivial hl (fun i m e K hc hlt hi => ?_) (fun m K _ => ?_)
 · have hr := Zq (f := Chg.c) hc
   have hw := Zf (n := i) (by unfold big at hl; omega)
   have hm := Zp9 hD e (hs e (List.mem_of_getElem? hc))
   simp only [Z9, Ztd, Zhi, go_sem, List.length_map, hr, hlt, hw, hm]
 · have hi : ¬ es.length < es.length := by omega
   simp only [Z9, Ztd, Zhi, go_sem, List.length_map, hi]
   exact ⟨_, rfl, _, rfl⟩
theorem Zmq {D : Nat} (hD : 4 ≤ D) (es : List Chg) (hl : es.length ≤ big) (hs : ∀ e ∈ es, szG e) : den pr D Zmg [.lit Z4 (es.map Chg.c), .lit Z4 (es.map Chg.c)] = some [.q true] := by
 obtain ⟨D, rfl, hd⟩ := Z8 hD
 rw [Y70]
 obtain ⟨out, lo, lp⟩ := Zjv hd es hl hs
 rw [Wo] at lp
 obtain ⟨σ', rfl⟩ := lp
 rw [show ((0 : Nat) : Int) = 0 from rfl] at lo
 simp only [c_q22, go_sem, List.length_map, lo]
theorem Zzp {D : Nat} (hD : 3 ≤ D) (e : RowV) (l : Int) (h0 : 0 ≤ l) (h1 : l ≤ cap) (hv : szR e) : den pr D Vz [.agg (rowL e), .n l] = some [.n (dec l (rowW e))] := by
 obtain ⟨D, rfl, hd⟩ := Z8 hD
 rw [Zj0]
 have hs := Zve (show 2 ≤ D by omega) e.vals l h0 h1 hv.1 hv.2
 rw [Ze4 _ _ _ h0] at hs
 have m1 : (-1 : Int) < 0 := by decide
 by_cases h4 : dec l (rowW e) < 0
 · have h5 := Zms h4
   simp only [rowW] at h5
   simp only [c_laws_szRow, go_sem, hs, h5, m1]
 · simp only [rowW] at h4
   simp only [c_laws_szRow, go_sem, hs, h4]
theorem Y0s {D : Nat} (hD : 3 ≤ D) (e : RowV) (hv : e.vals.length ≤ big ∧ szR e) : den pr D Z03 [.agg (rowL e)] = some [.agg [.n e.id, .n e.ver, .olit Z1 (e.vals.map Val.c)]] := by
 obtain ⟨D, rfl, hd⟩ := Z8 hD
 have h1 := Zwy (show 2 ≤ D by omega) e.vals hv.1 hv.2.2
 have ht : (e.vals.map Val.c).take e.vals.length = e.vals.map Val.c := List.take_of_length_le (by simp)
 rw [Zi9]
 simp only [c_laws_toRow, go_sem, h1, ht, Zg, List.length_map, Nat.le_refl, if_true]
theorem Y16 {D : Nat} (hD : 3 ≤ D) (e : RowV) (hv : e.vals.length ≤ big ∧ szR e) : den pr D Z00 [.agg e.c, .agg e.c] = some [.q true] := by
 obtain ⟨D, rfl, hd⟩ := Z8 hD
 have h1 := Zvp (show 2 ≤ D by omega) e.vals hv.1 hv.2.2
 rw [Zi8]
 simp only [c_laws_eqRow, go_sem, h1]
theorem Ztx {D : Nat} (hD : 3 ≤ D) (es : List RowV) (l : Int) (h0 : 0 ≤ l) (h1 : l ≤ cap) (hl : es.length ≤ big) (hs : ∀ e ∈ es, szR e) :
 Xr (Z9 (exec ⟨den pr D, dcl pr D, dfl pr D⟩ Z2y) [0, 1, 5] rounds ⟨upd (upd (upd (fun _ => .bad) 0 (.lit Ys (es.map rowL))) 1 (.n l)) 5 (.n (0 : Nat)), fun _ => none, 0, 0⟩) Int Unit (runI (szGo rowW) 0 l es)
  (fun m o => ∃ σ', o = .exit 0 σ' ∧ σ'.s 1 = .n m) (fun _ o => ∃ σ', o = .ret σ' ∧ σ'.s 4 = .n (-1)) := by
 refine Zh es (fun i (m : Int) => ⟨upd (upd (upd (fun _ => .bad) 0 (.lit Ys (es.map rowL))) 1 (.n m)) 5 (.n i), fun _ => none, 0, 0⟩) _ (fun _ m => 0 ≤ m ∧ m ≤ cap) _ _ l ⟨h0, h1⟩ hl (fun i m e K hc hlt hi => ?_) (fun m K _ => ?_)
 · have hr := Zq (f := rowL) hc
   have hw := Zf (n := i) (by unfold big at hl; omega)
   have hm := Zzp hD e m hi.1 hi.2 (hs e (List.mem_of_getElem? hc))
   simp only [Z9, Z65, Z1d, go_sem, List.length_map, hr, hlt, hw, hm, szGo]
   by_cases h : dec m (rowW e) < 0
   · simp only [h, go_sem]; exact ⟨_, rfl, _, rfl, rfl⟩
   · obtain ⟨h4, h5⟩ := Zbc h
     simp only [h, go_sem]
     exact ⟨by omega, by omega⟩
 · have hi : ¬ es.length < es.length := by omega
   simp only [Z9, Z65, Z1d, go_sem, List.length_map, hi]
   exact ⟨_, rfl, _, rfl, rfl⟩
theorem Zof {D : Nat} (hD : 4 ≤ D) (es : List RowV) (l : Int) (h0 : 0 ≤ l) (h1 : l ≤ cap) (hl : es.length ≤ maxLen) (hs : ∀ e ∈ es, szR e) :
 den pr D V3 [.lit Ys (es.map rowL), .n l] = some [.n (Wm rowW l es)] := by
 obtain ⟨D, rfl, hd⟩ := Z8 hD
 rw [Zga]
 have hw : IntKind.i64.wrap (l - (es.length : Int)) = l - es.length := wrap_i64 (by unfold maxLen at hl; omega) (by unfold cap at h1; omega)
 simp only [c_laws_szRowS, go_sem, List.length_map, hw, Wm]
 by_cases h : l - (es.length : Int) < 0
 · simp only [h, go_sem]
 · have hb : es.length ≤ big := by unfold cap at h1; unfold big; omega
   obtain ⟨out, lo, lp⟩ := Ztx hd es (l - es.length) (by omega) (by omega) hb hs
   rw [show ((0 : Nat) : Int) = 0 from rfl] at lo
   rw [Z62] at lp
   cases hq : Z7q rowW (l - es.length) es with
   | some m =>
     rw [hq] at lp
     obtain ⟨σ', rfl, l2⟩ := lp
     simp only [h, go_sem, lo, l2, Option.getD_some]
   | none =>
     rw [hq] at lp
     obtain ⟨σ', rfl, l2⟩ := lp
     simp only [h, go_sem, lo, l2, Option.getD_none]
abbrev szR2 (r : RowV) : Prop := r.vals.length ≤ big ∧ szR r
theorem Zr0 {D : Nat} (hD : 3 ≤ D) (es : List RowV) (hl : es.length ≤ big) (hs : ∀ e ∈ es, szR2 e) :
 Xr (Z9 (exec ⟨den pr D, dcl pr D, dfl pr D⟩ Z37) [0, 1, 5] rounds ⟨upd (upd (upd (fun _ => .bad) 0 (.lit Z5 (es.map RowV.c))) 1 (.lit Z5 (es.map RowV.c))) 5 (.n (0 : Nat)), fun _ => none, 0, 0⟩) Unit Unit (runI (fun _ _ _ => .inl ()) 0 () es)
  (fun m o => ∃ σ', o = .exit 0 σ') (fun _ o => False) := by
 refine Zh es (fun i (_ : Unit) => ⟨upd (upd (upd (fun _ => .bad) 0 (.lit Z5 (es.map RowV.c))) 1 (.lit Z5 (es.map RowV.c))) 5 (.n i), fun _ => none, 0, 0⟩) _ (fun _ _ => True) _ _ () trivial hl (fun i m e K hc hlt hi => ?_) (fun m K _ => ?_)
 · have hr := Zq (f := RowV.c) hc
   have hw := Zf (n := i) (by unfold big at hl; omega)
   have hm := Y16 hD e (hs e (List.mem_of_getElem? hc))
   simp only [Z9, Z5m, Z15, go_sem, List.length_map, hr, hlt, hw, hm]
 · have hi : ¬ es.length < es.length := by omega
   simp only [Z9, Z5m, Z15, go_sem, List.length_map, hi]
   exact ⟨_, rfl, _, rfl⟩
theorem Zwm {D : Nat} (hD : 4 ≤ D) (es : List RowV) (hl : es.length ≤ big) (hs : ∀ e ∈ es, szR2 e) : den pr D Vh [.lit Z5 (es.map RowV.c), .lit Z5 (es.map RowV.c)] = some [.q true] := by
 obtain ⟨D, rfl, hd⟩ := Z8 hD
 rw [Zgo]
 obtain ⟨out, lo, lp⟩ := Zr0 hd es hl hs
 rw [Wo] at lp
 obtain ⟨σ', rfl⟩ := lp
 rw [show ((0 : Nat) : Int) = 0 from rfl] at lo
 simp only [c_laws_eqRowS, go_sem, List.length_map, lo]
structure FitT (t : Tab) : Prop where
 clen : t.first.length ≤ maxLen
 cols : ∀ c ∈ t.first, szC c
 glen : t.chg.length ≤ maxLen
 chg : ∀ c ∈ t.chg, szG c
 rlen : t.rows.length ≤ maxLen
 rows : ∀ r ∈ t.rows, szR r
theorem Zxz {α : Type} (w : α → Nat) : ∀ (l : List α) (x : α), x ∈ l → w x ≤ (l.map w).sum
 | y :: l, x, h => by
   rw [List.map_cons, List.sum_cons]
   rcases List.mem_cons.1 h with h | h
   · subst h; omega
   · have := Zxz w l x h; omega
structure MidT (t : Tab) : Prop where
 small : SmallT t
 rows : ∀ r ∈ t.rows, szR2 r
theorem Zt1 {D : Nat} (hD : 5 ≤ D) (t : Tab) (hf : FitT t) : ∃ m : Int, den pr D Xo [.agg (tabL t), .n cap] = some [.n m] ∧ (m < 0 ∨ MidT t) := by
 obtain ⟨D, rfl, hd⟩ := Z8 hD
 rw [Z6x]
 have m1 : (-1 : Int) < 0 := by decide
 have c0 : (0 : Int) ≤ cap := by decide
 have e1 := Zom (show 3 ≤ D by omega) t.first cap c0 (Int.le_refl _) hf.clen hf.cols
 by_cases h1 : Wm colW cap t.first < 0
 · refine ⟨-1, ?_, .inl m1⟩
   simp only [c_laws_szTable, go_sem, e1, h1]
 · obtain ⟨a1, b1, b1'⟩ := Z3q c0 h1
   have g1 : 0 ≤ Wm colW cap t.first := by omega
   generalize Wm colW cap t.first = l1 at *
   have e2 := Zcm (show 4 ≤ D by omega) t.chg l1 g1 a1 hf.glen hf.chg
   by_cases h2 : Wm chgW l1 t.chg < 0
   · refine ⟨-1, ?_, .inl m1⟩
     simp only [c_laws_szTable, go_sem, e1, h1, e2, h2]
   · obtain ⟨a2, b2, b2'⟩ := Z3q g1 h2
     have g2 : 0 ≤ Wm chgW l1 t.chg := by omega
     generalize Wm chgW l1 t.chg = l2 at *
     have e3 := Zof (show 4 ≤ D by omega) t.rows l2 g2 (by omega) hf.rlen hf.rows
     by_cases h3 : Wm rowW l2 t.rows < 0
     · refine ⟨-1, ?_, .inl m1⟩
       simp only [c_laws_szTable, go_sem, e1, h1, e2, h2, e3, h3]
     · obtain ⟨a3, b3, b3'⟩ := Z3q g2 h3
       have hr : ∀ r ∈ t.rows, ((r.vals.length + (r.vals.map valW).sum : Nat) : Int) ≤ 1048576 := fun r hr => by
        have := b3' r hr; simp only [rowW] at this; unfold cap at a1; omega
       refine ⟨Wm rowW l2 t.rows, ?_, .inr ⟨⟨⟨by unfold cap at a1 b1; unfold big; omega, fun e he => ?_⟩, by unfold cap at b1; unfold big; omega, fun c hc => ?_, by unfold cap at a1; unfold big; omega, by unfold cap at a1; unfold big; omega, fun r hr' => ⟨fun v hv => ?_, ?_⟩⟩, fun r hr' => ⟨?_, hf.rows r hr'⟩⟩⟩
       · simp only [c_laws_szTable, go_sem, e1, h1, e2, h2, e3, h3]
       · have := b1' e he; unfold cap at this; simp only [colW] at this; unfold big; omega
       · have := b2' c hc; unfold cap at a1; simp only [chgW, colW] at this
         exact ⟨by unfold big; omega, by unfold big; omega, by unfold big; omega, by unfold big; omega⟩
       · have h := hr r hr'; have h' := Zxz valW r.vals v hv; simp only [valW] at h h'; unfold big; omega
       · have h := hr r hr'; unfold big; omega
       · have h := hr r hr'; unfold big; omega
theorem Zpp (es : List Chg) : W9 (es.map Chg.c) = false := Z2k _ (fun _ => rfl) es
theorem Zrb {D : Nat} (hD : 5 ≤ D) (t : Tab) (hf : FitT t) (hm : MidT t) : den pr D Wd [.agg t.c, .agg t.c] = some [.q true] := by
 obtain ⟨D, rfl, hd⟩ := Z8 hD
 rw [Zd5]
 have hs := hm.small
 have e1 := Zxp (show 3 ≤ D by omega) t.first (by have := hs.clen; omega)
 have e2 := Zmq (show 4 ≤ D by omega) t.chg hs.glen hf.chg
 have e3 := Zwm (show 4 ≤ D by omega) t.rows hs.rlen hm.rows
 simp only [c_laws_eqTable, go_sem, e1, e2, e3]
end Go.Vm.T
set_option linter.unusedVariables false
set_option linter.unusedSimpArgs false
namespace Go.Vm
theorem Zej {base : Nat} : ∀ {bs acc : List Nat}, (∀ b ∈ bs, b < base ∨ b ∈ acc) → Z09 base acc bs = acc
 | [], acc, _ => rfl
 | b :: bs, acc, h => by
   unfold Z09
   rw [if_pos (h b (by simp))]
   exact Zej fun c hc => h c (by simp [hc])
theorem Zez {base : Nat} : ∀ {bs acc : List Nat}, (∀ b ∈ bs, base ≤ b ∧ b ∉ acc) → bs.Nodup → Z09 base acc bs = acc ++ bs
 | [], acc, _, _ => by simp [Z09]
 | b :: bs, acc, h, hn => by
   have hb := h b (by simp)
   unfold Z09
   rw [if_neg (by simp only [not_or]; exact ⟨by omega, hb.2⟩)]
   rw [Zez (bs := bs) (acc := acc ++ [b]) (fun c hc => ?_) (List.nodup_cons.1 hn).2]
   · simp
   · have := h c (by simp [hc])
     refine ⟨this.1, ?_⟩
     rw [List.mem_append, List.mem_singleton]
     rintro (q | q)
     · exact this.2 q
     · subst q; exact (List.nodup_cons.1 hn).1 hc
theorem Y27 {base : Nat} {h : Hp} {N0 : List Nat} (hb : ∀ b ∈ Vs h (Z09 base N0 (Vs h N0)), b < base ∨ b ∈ Z09 base N0 (Vs h N0)) : Z53 base h 2 N0 = Z09 base N0 (Vs h N0) := by
 unfold Z53 Z53 Z53
 exact Zej hb
theorem Z9h {h : Hp} : ∀ {l : List Nat}, (∀ b ∈ l, below h b = []) → Vs h l = []
 | [], _ => rfl
 | x :: l, hl => by
   unfold Vs
   rw [hl x (by simp), Z9h fun b hb => hl b (by simp [hb])]
   rfl
theorem Z9k (base : Nat) (h : Hp) (ns : List Nat) : ∀ (bs : List Nat) (h' : Hp) (k : Nat), (∀ i, k ≤ i → h' i = none) → Z40 base h h' ns bs k = fun i => if i < k then h' i else match bs[i - k]? with | some b => (h b).map (Z4p base ns) | none => none
 | [], h', k, hn => by
   funext i
   unfold Z40
   by_cases hi : i < k
   · rw [if_pos hi]
   · rw [if_neg hi, hn i (by omega)]; simp
 | b :: bs, h', k, hn => by
   unfold Z40
   cases hb : h b with
   | none =>
     simp only
     rw [Z9k base h ns bs h' (k + 1) fun i hi => hn i (by omega)]
     funext i
     rcases Nat.lt_trichotomy i k with hi | hi | hi
     · simp [hi, show i < k + 1 by omega]
     · subst hi
       simp [hb, hn i (Nat.le_refl i)]
     · rw [if_neg (by omega), if_neg (by omega), show i - k = (i - (k + 1)) + 1 by omega, List.getElem?_cons_succ]
   | some blk =>
     simp only
     rw [Z9k base h ns bs _ (k + 1) fun i hi => by rw [Z7, if_neg (by omega)]; exact hn i (by omega)]
     funext i
     rcases Nat.lt_trichotomy i k with hi | hi | hi
     · rw [if_pos (by omega), if_pos hi, Z7, if_neg (by omega)]
     · subst hi
       simp [hb, Z7]
     · rw [if_neg (by omega), if_neg (by omega), show i - k = (i - (k + 1)) + 1 by omega, List.getElem?_cons_succ]
def Zp8 (base : Nat) (h : Hp) (ns : List Nat) : Hp := fun i => if i < base then h i else match ns[i - base]? with
 | some b => (h b).map (Z4p base ns)
 | none => none
theorem Zoh {L : List Nat} {σ : St} {ns : List Nat} (hr : Z53 σ.base σ.h 2 (Z0c σ.base σ.s [] L) = ns) (hc : Zam σ.base σ.h ns = true) :
 canon L σ = some ⟨Z45 σ.base ns σ.s (fun _ => .bad) L, Zp8 σ.base σ.h ns, σ.base + ns.length, σ.base⟩ := by
 unfold canon Zcs
 rw [hr, hc, cond_true]
 congr 2
 rw [Z9k σ.base σ.h ns ns (low σ.base σ.h) σ.base fun i hi => by unfold low; rw [if_neg (by omega)]]
 funext i
 unfold Zp8 low
 by_cases hi : i < σ.base
 · simp [hi]
 · simp [hi]
theorem Ze7 : ∀ (k base b : Nat), base ≤ b → b < base + k → posn (List.range' base k) b base = b
 | 0, base, b, h1, h2 => by omega
 | k + 1, base, b, h1, h2 => by
   rw [List.range'_succ]
   unfold posn
   by_cases hb : base = b
   · rw [if_pos hb]; exact hb
   · rw [if_neg hb]; exact Ze7 k (base + 1) b (by omega) (by omega)
theorem Y3w {base k b : Nat} (h : b < base + k) : nw base (List.range' base k) b = b := by
 unfold nw
 by_cases hb : b < base
 · rw [if_pos hb]
 · rw [if_neg hb]; exact Ze7 k base b (by omega) h
end Go.Vm
end
