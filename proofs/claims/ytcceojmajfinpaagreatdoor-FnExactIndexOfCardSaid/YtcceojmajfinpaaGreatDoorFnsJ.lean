/-
  Tables copied with all that they lead to; marks on them
-/
import Derived.Test.YtcceojmajfinpaaGreatDoorFnsI
import Derived.Test.YtcceojmajfinpaaGreatDoorFnsB
section
set_option linter.unusedVariables false
set_option linter.unusedSectionVars false
set_option linter.unusedSimpArgs false
namespace Go.Vm.T
open Go.Proofs
abbrev ro (m j : Nat) (r : RowV) : List A := [.n r.id, .n r.ver, .ref Z1 (m + (j + 1)) 0 r.vals.length r.vals.length false]
def roL (m : Nat) (rows : List RowV) : List (List A) := rows.mapIdx (ro m)
def dh (h : Hp) (m : Nat) (rows : List RowV) (i : Nat) : Hp := fun b => if b < m then h b else if b = m then some ⟨Z5, frow zRow (roL m rows) i, true, true⟩ else match (rows.take i)[b - (m + 1)]? with
 | some r => some ⟨Z1, r.vals.map Val.c, true, false⟩
 | none => none
theorem Zqk {h : Hp} {m : Nat} {rows : List RowV} {i b : Nat} (hb : b < m) : dh h m rows i b = h b := by unfold dh; rw [if_pos hb]
theorem dh_m (h : Hp) (m : Nat) (rows : List RowV) (i : Nat) : dh h m rows i m = some ⟨Z5, frow zRow (roL m rows) i, true, true⟩ := by unfold dh; rw [if_neg (Nat.lt_irrefl m), if_pos rfl]
theorem Y2k (h : Hp) (m : Nat) {rows : List RowV} {i j : Nat} {r : RowV} (hj : j < i) (hr : rows[j]? = some r) : dh h m rows i (m + (j + 1)) = some ⟨Z1, r.vals.map Val.c, true, false⟩ := by
 unfold dh
 rw [if_neg (by omega), if_neg (by omega), show m + (j + 1) - (m + 1) = j by omega, List.getElem?_take, if_pos hj, hr]
theorem Z22 (m : Nat) (rows : List RowV) : (roL m rows).length = rows.length := by unfold roL; simp
theorem Zy4 {m : Nat} {rows : List RowV} {i : Nat} {r : RowV} (hr : rows[i]? = some r) : (roL m rows)[i]? = some (ro m i r) := by unfold roL; rw [List.getElem?_mapIdx, hr]; rfl
theorem Z7k : ∀ (a b : List (List A)), Yh (a ++ b) = Yh a ++ Yh b
 | [], b => rfl
 | x :: a, b => by simp [Yh, Z7k a b]
theorem Zno : ∀ k : Nat, Yh (List.replicate k zRow) = []
 | 0 => rfl
 | k + 1 => by rw [List.replicate_succ]; unfold Yh; rw [Zno k]; rfl
theorem Zym (m : Nat) : ∀ (rows : List RowV) (k : Nat), Yh (rows.mapIdx fun j r => ro m (k + j) r) = List.range' (m + 1 + k) rows.length
 | [], k => rfl
 | r :: rows, k => by
   rw [List.mapIdx_cons, List.length_cons, List.range'_succ]
   unfold Yh
   have ih := Zym m rows (k + 1)
   have e : (rows.mapIdx fun j r => ro m (k + (j + 1)) r) = rows.mapIdx fun j r => ro m (k + 1 + j) r := by
    congr 1
    funext j r
    rw [show k + (j + 1) = k + 1 + j by omega]
   rw [e, ih, show m + 1 + k + 1 = m + 1 + (k + 1) by omega]
   have e2 : Z6q (ro m (k + 0) r) = [m + 1 + k] := by rw [show m + 1 + k = m + (k + 0 + 1) by omega]; rfl
   rw [e2]
   rfl
theorem Zzn {m : Nat} {rows : List RowV} {i : Nat} (hi : i ≤ rows.length) : Yh (frow zRow (roL m rows) i) = List.range' (m + 1) i := by
 unfold frow roL
 rw [Z7k, Zno, List.append_nil]
 have e : (rows.mapIdx (ro m)).take i = (rows.take i).mapIdx fun j r => ro m (0 + j) r := by
  apply List.ext_getElem?
  intro j
  rw [List.getElem?_take]
  simp only [List.getElem?_mapIdx, List.getElem?_take, Nat.zero_add]
  split <;> rfl
 rw [e, Zym m (rows.take i) 0]
 simp [Nat.min_eq_left hi]
theorem Y18 {m k j : Nat} (r : RowV) (h : m + (j + 1) < m + k) : rens m (List.range' m k) (ro m j r) = ro m j r := by
 unfold rens rens rens rens
 simp only [ren, ren1, Y3w h]
theorem Y48 (m k : Nat) : rens m (List.range' m k) zRow = zRow := rfl
theorem Zvs {m i : Nat} {rows : List RowV} (hi : i ≤ rows.length) : (frow zRow (roL m rows) i).map (rens m (List.range' m (i + 1))) = frow zRow (roL m rows) i := by
 unfold frow
 rw [List.map_append, List.map_replicate, Y48]
 congr 1
 apply List.ext_getElem?
 intro j
 rw [List.getElem?_map, List.getElem?_take]
 split
 · rename_i hj
   unfold roL
   rw [List.getElem?_mapIdx]
   cases hr : rows[j]? with
   | none => rfl
   | some r => simp only [Option.map_some]; rw [Y18 r (by omega)]
 · rfl
theorem Zkp (h : Hp) {m : Nat} {rows : List RowV} {i b : Nat} (hb : b ∈ List.range' (m + 1) i) : below (dh h m rows i) b = [] := by
 obtain ⟨h1, h2⟩ := List.mem_range'_1.1 hb
 unfold below dh
 rw [if_neg (by omega), if_neg (by omega)]
 split
 · rename_i k hk
   split at hk
   · cases hk; rfl
   · cases hk
 · rfl
theorem Zlu (h : Hp) {m : Nat} {rows : List RowV} {i : Nat} (hi : i ≤ rows.length) : below (dh h m rows i) m = List.range' (m + 1) i := by
 unfold below
 rw [dh_m]
 exact Zzn hi
theorem Zb7 (m i : Nat) : List.range' m (i + 1) = m :: List.range' (m + 1) i := by rw [List.range'_succ]
theorem Zwz (h : Hp) {m : Nat} {rows : List RowV} {i : Nat} (hi : i ≤ rows.length) : Z53 m (dh h m rows i) 2 [m] = List.range' m (i + 1) := by
 have hb : Vs (dh h m rows i) [m] = List.range' (m + 1) i := by unfold Vs; rw [Zlu h hi]; unfold Vs; rw [List.append_nil]
 have ha : Z09 m [m] (Vs (dh h m rows i) [m]) = List.range' m (i + 1) := by
  rw [hb, Zez, Zb7]
  · rfl
  · intro b hb
    have := List.mem_range'_1.1 hb
    refine ⟨by omega, ?_⟩
    rw [List.mem_singleton]; omega
  · exact List.nodup_range'
 rw [Y27, ha]
 rw [ha, Zb7]
 have : Vs (dh h m rows i) (m :: List.range' (m + 1) i) = List.range' (m + 1) i := by
  unfold Vs
  rw [Zlu h hi, Z9h (fun b hb => Zkp h hb), List.append_nil]
 rw [this]
 intro b hb
 exact .inr (List.mem_cons_of_mem _ hb)
theorem Zsl (h : Hp) {m : Nat} {rows : List RowV} {i : Nat} (hi : i ≤ rows.length) : Zam m (dh h m rows i) (List.range' m (i + 1)) = true := by
 unfold Zam
 rw [Zb7]
 have : Vs (dh h m rows i) (m :: List.range' (m + 1) i) = List.range' (m + 1) i := by
  unfold Vs
  rw [Zlu h hi, Z9h (fun b hb => Zkp h hb), List.append_nil]
 rw [this, List.all_eq_true]
 intro b hb
 simp only [Bool.or_eq_true, decide_eq_true_eq, List.contains_eq_mem]
 exact .inr (by simp [hb])
theorem Zwf (h : Hp) {m : Nat} {rows : List RowV} {i : Nat} (hi : i ≤ rows.length) : Zp8 m (dh h m rows i) (List.range' m (i + 1)) = dh h m rows i := by
 funext b
 unfold Zp8
 by_cases hb : b < m
 · rw [if_pos hb]
 · rw [if_neg hb]
   by_cases hb2 : b < m + (i + 1)
   · have e : (List.range' m (i + 1))[b - m]? = some b := by
      rw [List.getElem?_range' (by omega)]
      congr 1; omega
     rw [e]
     simp only
     by_cases hbm : b = m
     · subst hbm
       rw [dh_m]
       unfold Z4p
       simp only [Option.map_some, if_true, Zvs hi]
     · unfold dh
       rw [if_neg hb, if_neg hbm]
       cases (rows.take i)[b - (m + 1)]? <;> rfl
   · have e : (List.range' m (i + 1))[b - m]? = none := by
      rw [List.getElem?_eq_none]
      rw [List.length_range']; omega
     rw [e]
     unfold dh
     rw [if_neg hb, if_neg (by omega), List.getElem?_eq_none (by rw [List.length_take]; omega)]
theorem Zyp (h : Hp) {m : Nat} {rows : List RowV} {i : Nat} {r : RowV} (hr : rows[i]? = some r) :
 upd (upd (dh h m rows i) (m + (i + 1)) (some ⟨Z1, r.vals.map Val.c, true, false⟩)) m (some ⟨Z5, frow zRow (roL m rows) (i + 1), true, true⟩) = dh h m rows (i + 1) := by
 have hil : i < rows.length := (List.getElem?_eq_some_iff.1 hr).1
 funext b
 simp only [Z7]
 by_cases hb : b = m
 · subst hb; rw [if_pos rfl, dh_m]
 · rw [if_neg hb]
   by_cases hb2 : b = m + (i + 1)
   · subst hb2
     rw [if_pos rfl, Y2k h m (by omega) hr]
   · rw [if_neg hb2]
     unfold dh
     by_cases hb3 : b < m
     · rw [if_pos hb3, if_pos hb3]
     · rw [if_neg hb3, if_neg hb3, if_neg hb, if_neg hb, List.getElem?_take, List.getElem?_take]
       by_cases hb4 : b - (m + 1) < i
       · rw [if_pos hb4, if_pos (by omega)]
       · rw [if_neg hb4, if_neg (by omega)]
theorem Zvu (h : Hp) {m : Nat} {rows : List RowV} {i : Nat} (hi : i ≤ rows.length) {s : Nat → A} {L : List Nat} {n : Nat} (hn : Z0c m s [] L = [m]) :
 Go.Vm.canon L ⟨s, dh h m rows i, n, m⟩ = some ⟨Z45 m (List.range' m (i + 1)) s (fun _ => .bad) L, dh h m rows i, m + (i + 1), m⟩ := by
 have := Zoh (L := L) (σ := ⟨s, dh h m rows i, n, m⟩) (ns := List.range' m (i + 1)) (by show Z53 m (dh h m rows i) 2 (Z0c m s [] L) = _; rw [hn]; exact Zwz h hi) (Zsl h hi)
 rw [this]
 simp only [Zwf h hi, List.length_range']
end Go.Vm.T
namespace Go.Vm.T
open Go.Proofs
variable [Pr2]
abbrev rsS (h : Hp) (m : Nat) (es : List RowV) (i : Nat) : St := ⟨upd (upd (upd (fun _ => .bad) 0 (.lit Ys (es.map rowL))) 3 (.ref Z5 m 0 es.length es.length true)) 4 (.n i), dh h m es i, m + (i + 1), m⟩
theorem Zep {f : St → Option Out} {L : List Nat} {K : Nat} {σ σ' σ'' : St} (h1 : f σ = some (.norm σ')) (h2 : Go.Vm.canon L σ' = some σ'') : Z9 f L (K + 1) σ = Z9 f L K σ'' := by
 show seqO (f σ) (fun τ => bnd (Go.Vm.canon L τ) (Z9 f L K)) = _
 rw [h1]
 show bnd (Go.Vm.canon L σ') (Z9 f L K) = _
 rw [h2]
 rfl
theorem Zm6 {D : Nat} (hD : 3 ≤ D) (es : List RowV) (hl : es.length ≤ big) (hs : ∀ e ∈ es, szR2 e) (h : Hp) (m : Nat) :
 Xr (Z9 (exec ⟨den pr D, dcl pr D, dfl pr D⟩ Z07) [0, 3, 4] rounds (rsS h m es 0)) Unit Unit (runI (fun _ _ _ => .inl ()) 0 () es)
  (fun _ o => ∃ s', o = .exit 0 ⟨s', dh h m es es.length, m + (es.length + 1), m⟩ ∧ s' 3 = .ref Z5 m 0 es.length es.length true) (fun _ _ => False) := by
 refine Zh es (fun i _ => rsS h m es i) (fun _ _ _ => .inl ()) (fun _ _ => True) _ _ () trivial hl (fun i _ e K hc hlt _ => ?_) (fun _ K _ => ?_)
 · have hr := Zq (f := rowL) hc
   have hw := Zf (n := i) (by unfold big at hl; omega)
   have hm := Y0s hD e (hs e (List.mem_of_getElem? hc))
   have hrl := Z22 m es
   have hf : (frow zRow (roL m es) i)[i]? = some zRow := Zhj (by rw [hrl]; exact hlt)
   have hset := Zau (z := zRow) (Zy4 (m := m) hc)
   have hlen : (frow zRow (roL m es) i).length = es.length := by rw [Z4i (by rw [hrl]; omega), hrl]
   have hdm := dh_m h m es i
   have hne : (m = m + (i + 1)) = False := eq_false (by omega)
   have hne2 : (m + (i + 1) = m) = False := eq_false (by omega)
   have ht : (e.vals.map Val.c).take e.vals.length = e.vals.map Val.c := List.take_of_length_le (by simp)
   have hx : ∃ s', exec ⟨den pr D, dcl pr D, dfl pr D⟩ Z07 (rsS h m es i) = some (.norm ⟨s', upd (upd (dh h m es i) (m + (i + 1)) (some ⟨Z1, e.vals.map Val.c, true, false⟩)) m (some ⟨Z5, frow zRow (roL m es) (i + 1), true, true⟩), m + (i + 1) + 1, m⟩) ∧ s' 0 = .lit Ys (es.map rowL) ∧ s' 3 = .ref Z5 m 0 es.length es.length true ∧ s' 4 = .n ((i + 1 : Nat) : Int) := by
    simp only [rsS, Z3x, Z06, go_sem, List.length_map, hr, hlt, hw, hm, hf, hset, hlen, hdm, hne, hne2, ht, Zg, ite_self, if_true, if_false, Nat.le_refl]
    exact ⟨_, rfl, rfl, rfl, rfl⟩
   obtain ⟨s', hx, h0, h3, h4⟩ := hx
   rw [Zyp h hc] at hx
   refine ⟨Zep hx ?_, trivial⟩
   rw [Zvu h (by omega) (by simp only [Z0c, h0, h3, h4, Z4x, nmIn, Z09]; simp)]
   simp only [rsS, Z45, h0, h3, h4, ren, ren1, Y3w (show m < m + (i + 1 + 1) by omega)]
 · have hi : ¬ es.length < es.length := by omega
   simp only [rsS, Z9, Z3x, Z06, go_sem, List.length_map, hi]
   exact ⟨_, rfl, _, rfl, rfl⟩
theorem Zy2 {n b : Nat} (hb : n ≤ b) (h : Hp) (x : Option Blk) : low n (upd h b x) = low n h := by
 funext i
 simp only [low, Z7]
 by_cases h1 : i < n
 · rw [if_pos h1, if_pos h1, if_neg (by omega)]
 · rw [if_neg h1, if_neg h1]
theorem Zzq (h : Hp) (m : Nat) (es : List RowV) : dh h m es 0 = upd (low m h) m (some ⟨Z5, List.replicate es.length zRow, true, true⟩) := by
 funext b
 simp only [Z7]
 unfold dh low
 by_cases hb : b = m
 · subst hb; rw [if_neg (Nat.lt_irrefl b), if_pos rfl, if_pos rfl, Z8q, Z22]
 · rw [if_neg hb]
   by_cases hb2 : b < m
   · rw [if_pos hb2, if_neg hb, if_pos hb2]
   · rw [if_neg hb2, if_neg hb, if_neg hb2]; simp
theorem Zwa {D : Nat} (hD : 4 ≤ D) (es : List RowV) (hl : es.length ≤ big) (hs : ∀ e ∈ es, szR2 e) (h : Hp) (m : Nat) :
 dcl pr D Vd [.lit Ys (es.map rowL)] h m = some ([.ref Z5 m 0 es.length es.length true], dh h m es es.length, m + (es.length + 1)) := by
 obtain ⟨D, rfl, hd⟩ := Z8 hD
 rw [Zfp]
 obtain ⟨out, lo, lp⟩ := Zm6 hd es hl hs h m
 rw [Wo] at lp
 obtain ⟨s', rfl, l3⟩ := lp
 simp only [rsS, Zzq] at lo
 have f1 : (m + 1 < m) = False := eq_false (by omega)
 have f2 : (m = m + 1) = False := eq_false (by omega)
 have f3 : (m + 1 = m) = False := eq_false (by omega)
 rw [show ((0 : Nat) : Int) = 0 from rfl, Nat.zero_add] at lo
 simp only [c_laws_toRowS_D, go_sem, List.length_map, hl, f1, f2, f3, lo, l3, Zno, Zy2 (Nat.le_refl m), Zy2 (Nat.le_succ m), List.map_replicate, if_false, if_true]
end Go.Vm.T
namespace Go.Vm.T
open Go.Proofs
variable [Pr2]
abbrev Z6l (x : Int) : List A := [.n x, .n (x + 1), .s (Zbj (x + 2))]
theorem Zn2 {D : Nat} (hD : 1 ≤ D) (cs : List Val) (k : Int) (hk : 0 ≤ k ∧ k ≤ 2 ^ 40) (hl : cs.length ≤ big) (h : Hp) (n b c : Nat) (ex : Bool) (hb : b < n) :
 Xr (Z9 (exec ⟨den pr D, dcl pr D, dfl pr D⟩ Zli) [0, 1, 5] rounds ⟨upd (upd (upd (fun _ => .bad) 0 (.ref Z1 b 0 cs.length c ex)) 1 (.n (k + ((3 * 0 : Nat) : Int)))) 5 (.n (0 : Nat)), upd (low n h) b (some ⟨Z1, mrow Z6l 3 k (cs.map Val.c) 0, true, false⟩), n, n⟩) Unit Unit (runI (fun _ _ _ => .inl ()) 0 () cs)
  (fun m o => ∃ σ', o = .exit 0 σ' ∧ σ'.s 1 = .n (k + ((3 * cs.length : Nat) : Int)) ∧ σ'.h = upd (low n h) b (some ⟨Z1, V6 Z6l 3 k cs.length, true, false⟩) ∧ σ'.n = n ∧ σ'.base = n) (fun _ o => False) := by
 refine Zh cs (fun i (_ : Unit) => ⟨upd (upd (upd (fun _ => .bad) 0 (.ref Z1 b 0 cs.length c ex)) 1 (.n (k + ((3 * i : Nat) : Int)))) 5 (.n i), upd (low n h) b (some ⟨Z1, mrow Z6l 3 k (cs.map Val.c) i, true, false⟩), n, n⟩) _ (fun _ _ => True) _ _ () trivial hl (fun i m e K hc hlt hi => ?_) (fun m K _ => ?_)
 · have hr := Zq (f := Val.c) hc
   have hw := Zf (n := i) (by unfold big at hl; omega)
   have hx : ((3 * (i + 1) : Nat) : Int) = ((3 * i : Nat) : Int) + 3 := Zl7 3 i
   have hi4 : ((3 * i : Nat) : Int) ≤ 2 ^ 40 := by unfold big at hl; omega
   have hp : (0 : Int) ≤ ((3 * i : Nat) : Int) := by omega
   have hf := Zfw (f := Z6l) (w := 3) (k := k) hr
   have hs := Zay (f := Z6l) (w := 3) (k := k) hr
   have hlen : i < (mrow Z6l 3 k (cs.map Val.c) i).length := by rw [Z48 (by simp; omega)]; simpa using hlt
   rw [hx]
   generalize ((3 * i : Nat) : Int) = z at *
   have hv0 : IntKind.i64.wrap (k + z + 1) = k + z + 1 := by rw [wrap_i64 (by omega) (by omega)]
   have hv1 : IntKind.i64.wrap (k + z + 1 + 1) = k + z + 2 := by rw [wrap_i64 (by omega) (by omega)]; omega
   have hv2 : IntKind.i64.wrap (k + z + 2 + 1) = k + (z + 3) := by rw [wrap_i64 (by omega) (by omega)]; omega
   have hm2 := Z08 hD (k + z + 2) (by omega)
   have hnb : ¬ n ≤ b := by omega
   have h30 : ((3 : Int) = 0) = False := by simp
   have hset : ∀ r, ((mrow Z6l 3 k (cs.map Val.c) i).set i r)[i]? = some r := fun r => List.getElem?_set_self hlen
   simp only [Z9, Ztn, Zhc, go_sem, List.length_map, hr, hlt, hw, h30, hv0, hv1, hv2, hm2, hf, hs, hb, hnb, hset, set_set, Z4l hb, Zb9, V4]
 · have hi : ¬ cs.length < cs.length := by omega
   have ha := Zax Z6l 3 k (cs.map Val.c)
   rw [List.length_map] at ha
   simp only [Z9, Ztn, Zhc, go_sem, List.length_map, hi, ha]
   exact ⟨_, rfl, _, rfl, rfl, rfl, rfl, rfl⟩
theorem Zpa {D : Nat} (hD : 2 ≤ D) (cs : List Val) (k : Int) (hk : 0 ≤ k ∧ k ≤ 2 ^ 40) (hl : cs.length ≤ big) (h : Hp) (n b c : Nat) (ex : Bool) (hb : b < n) (hh : h b = some ⟨Z1, cs.map Val.c, true, false⟩) :
 dcl pr D Zlc [.ref Z1 b 0 cs.length c ex, .n k] h n = some ([.n (k + ((3 * cs.length : Nat) : Int))], upd (low n h) b (some ⟨Z1, V6 Z6l 3 k cs.length, true, false⟩), n) := by
 obtain ⟨D, rfl, hd⟩ := Z8 hD
 rw [Y5d]
 obtain ⟨out, lo, lp⟩ := Zn2 (D := D) hd cs k hk hl h n b c ex hb
 rw [Wo] at lp
 obtain ⟨σ', rfl, l2, l3, l4, l5⟩ := lp
 have hnb : ¬ n ≤ b := by omega
 have hu : upd (low n h) b (some ⟨Z1, cs.map Val.c, true, false⟩) = low n h := by
  funext i
  simp only [Z7]
  split
  · rename_i e; subst e; rw [Z50 hb, hh]
  · rfl
 rw [show k + ((3 * 0 : Nat) : Int) = k by simp, show ((0 : Nat) : Int) = 0 from rfl, Z8y, hu] at lo
 simp only [c_q41, go_sem, hb, hnb, hh, lo, l2, l3, l4, l5]
abbrev Zd0 (x : Int) : List A := [.s (Zbj x), .n (x + 1), .q (decide (Int.tmod (x + 2) 3 = 0)), .q (decide (Int.tmod (x + 3) 3 = 0)), .n (x + 4), .n (x + 5), .s (Zbj (x + 6))]
theorem Zm7 {D : Nat} (hD : 1 ≤ D) (cs : List ColV) (k : Int) (hk : 0 ≤ k ∧ k ≤ 2 ^ 40) (hl : cs.length ≤ big) (h : Hp) (n b c : Nat) (ex : Bool) (hb : b < n) :
 Xr (Z9 (exec ⟨den pr D, dcl pr D, dfl pr D⟩ Zlr) [0, 1, 5] rounds ⟨upd (upd (upd (fun _ => .bad) 0 (.ref Z0 b 0 cs.length c ex)) 1 (.n (k + ((7 * 0 : Nat) : Int)))) 5 (.n (0 : Nat)), upd (low n h) b (some ⟨Z0, mrow Zd0 7 k (cs.map ColV.c) 0, true, false⟩), n, n⟩) Unit Unit (runI (fun _ _ _ => .inl ()) 0 () cs)
  (fun m o => ∃ σ', o = .exit 0 σ' ∧ σ'.s 1 = .n (k + ((7 * cs.length : Nat) : Int)) ∧ σ'.h = upd (low n h) b (some ⟨Z0, V6 Zd0 7 k cs.length, true, false⟩) ∧ σ'.n = n ∧ σ'.base = n) (fun _ o => False) := by
 refine Zh cs (fun i (_ : Unit) => ⟨upd (upd (upd (fun _ => .bad) 0 (.ref Z0 b 0 cs.length c ex)) 1 (.n (k + ((7 * i : Nat) : Int)))) 5 (.n i), upd (low n h) b (some ⟨Z0, mrow Zd0 7 k (cs.map ColV.c) i, true, false⟩), n, n⟩) _ (fun _ _ => True) _ _ () trivial hl (fun i m e K hc hlt hi => ?_) (fun m K _ => ?_)
 · have hr := Zq (f := ColV.c) hc
   have hw := Zf (n := i) (by unfold big at hl; omega)
   have hx : ((7 * (i + 1) : Nat) : Int) = ((7 * i : Nat) : Int) + 7 := Zl7 7 i
   have hi4 : ((7 * i : Nat) : Int) ≤ 2 ^ 40 := by unfold big at hl; omega
   have hp : (0 : Int) ≤ ((7 * i : Nat) : Int) := by omega
   have hf := Zfw (f := Zd0) (w := 7) (k := k) hr
   have hs := Zay (f := Zd0) (w := 7) (k := k) hr
   have hlen : i < (mrow Zd0 7 k (cs.map ColV.c) i).length := by rw [Z48 (by simp; omega)]; simpa using hlt
   rw [hx]
   generalize ((7 * i : Nat) : Int) = z at *
   have hv0 : IntKind.i64.wrap (k + z + 1) = k + z + 1 := by rw [wrap_i64 (by omega) (by omega)]
   have hv1 : IntKind.i64.wrap (k + z + 1 + 1) = k + z + 2 := by rw [wrap_i64 (by omega) (by omega)]; omega
   have hv2 : IntKind.i64.wrap (k + z + 2 + 1) = k + z + 3 := by rw [wrap_i64 (by omega) (by omega)]; omega
   have hv3 : IntKind.i64.wrap (k + z + 3 + 1) = k + z + 4 := by rw [wrap_i64 (by omega) (by omega)]; omega
   have hv4 : IntKind.i64.wrap (k + z + 4 + 1) = k + z + 5 := by rw [wrap_i64 (by omega) (by omega)]; omega
   have hv5 : IntKind.i64.wrap (k + z + 5 + 1) = k + z + 6 := by rw [wrap_i64 (by omega) (by omega)]; omega
   have hv6 : IntKind.i64.wrap (k + z + 6 + 1) = k + (z + 7) := by rw [wrap_i64 (by omega) (by omega)]; omega
   have hm0 := Z08 hD (k + z) (by omega)
   have hm6 := Z08 hD (k + z + 6) (by omega)
   have hnb : ¬ n ≤ b := by omega
   have h30 : ((3 : Int) = 0) = False := by simp
   have hset : ∀ r, ((mrow Zd0 7 k (cs.map ColV.c) i).set i r)[i]? = some r := fun r => List.getElem?_set_self hlen
   simp only [Z9, Zsk, Zfy, go_sem, List.length_map, hr, hlt, hw, h30, hv0, hv1, hv2, hv3, hv4, hv5, hv6, hm0, hm6, hf, hs, hb, hnb, hset, set_set, Z4l hb, Zb9, V4]
 · have hi : ¬ cs.length < cs.length := by omega
   have ha := Zax Zd0 7 k (cs.map ColV.c)
   rw [List.length_map] at ha
   simp only [Z9, Zsk, Zfy, go_sem, List.length_map, hi, ha]
   exact ⟨_, rfl, _, rfl, rfl, rfl, rfl, rfl⟩
theorem Zpz {D : Nat} (hD : 2 ≤ D) (cs : List ColV) (k : Int) (hk : 0 ≤ k ∧ k ≤ 2 ^ 40) (hl : cs.length ≤ big) (h : Hp) (n b c : Nat) (ex : Bool) (hb : b < n) (hh : h b = some ⟨Z0, cs.map ColV.c, true, false⟩) :
 dcl pr D Zlx [.ref Z0 b 0 cs.length c ex, .n k] h n = some ([.n (k + ((7 * cs.length : Nat) : Int))], upd (low n h) b (some ⟨Z0, V6 Zd0 7 k cs.length, true, false⟩), n) := by
 obtain ⟨D, rfl, hd⟩ := Z8 hD
 rw [Y4k]
 obtain ⟨out, lo, lp⟩ := Zm7 (D := D) hd cs k hk hl h n b c ex hb
 rw [Wo] at lp
 obtain ⟨σ', rfl, l2, l3, l4, l5⟩ := lp
 have hnb : ¬ n ≤ b := by omega
 have hu : upd (low n h) b (some ⟨Z0, cs.map ColV.c, true, false⟩) = low n h := by
  funext i
  simp only [Z7]
  split
  · rename_i e; subst e; rw [Z50 hb, hh]
  · rfl
 rw [show k + ((7 * 0 : Nat) : Int) = k by simp, show ((0 : Nat) : Int) = 0 from rfl, Z8y, hu] at lo
 simp only [c_q36, go_sem, hb, hnb, hh, lo, l2, l3, l4, l5]
abbrev Z1v (x : Int) : List A := [.n x, .s (Zbj (x + 1)), .s (Zbj (x + 2)), .s (Zbj (x + 3)), .n (x + 4), .q (decide (Int.tmod (x + 5) 3 = 0)), .q (decide (Int.tmod (x + 6) 3 = 0)), .n (x + 7), .n (x + 8), .s (Zbj (x + 9))]
set_option maxHeartbeats 2000000 in
theorem Zde {D : Nat} (hD : 1 ≤ D) (cs : List Chg) (k : Int) (hk : 0 ≤ k ∧ k ≤ 2 ^ 40) (hl : cs.length ≤ big) (h : Hp) (n b c : Nat) (ex : Bool) (hb : b < n) :
 Xr (Z9 (exec ⟨den pr D, dcl pr D, dfl pr D⟩ Zlk) [0, 1, 5] rounds ⟨upd (upd (upd (fun _ => .bad) 0 (.ref Z4 b 0 cs.length c ex)) 1 (.n (k + ((10 * 0 : Nat) : Int)))) 5 (.n (0 : Nat)), upd (low n h) b (some ⟨Z4, mrow Z1v 10 k (cs.map Chg.c) 0, true, false⟩), n, n⟩) Unit Unit (runI (fun _ _ _ => .inl ()) 0 () cs)
  (fun m o => ∃ σ', o = .exit 0 σ' ∧ σ'.s 1 = .n (k + ((10 * cs.length : Nat) : Int)) ∧ σ'.h = upd (low n h) b (some ⟨Z4, V6 Z1v 10 k cs.length, true, false⟩) ∧ σ'.n = n ∧ σ'.base = n) (fun _ o => False) := by
 refine Zh cs (fun i (_ : Unit) => ⟨upd (upd (upd (fun _ => .bad) 0 (.ref Z4 b 0 cs.length c ex)) 1 (.n (k + ((10 * i : Nat) : Int)))) 5 (.n i), upd (low n h) b (some ⟨Z4, mrow Z1v 10 k (cs.map Chg.c) i, true, false⟩), n, n⟩) _ (fun _ _ => True) _ _ () trivial hl (fun i m e K hc hlt hi => ?_) (fun m K _ => ?_)
 · have hr := Zq (f := Chg.c) hc
   have hw := Zf (n := i) (by unfold big at hl; omega)
   have hx : ((10 * (i + 1) : Nat) : Int) = ((10 * i : Nat) : Int) + 10 := Zl7 10 i
   have hi4 : ((10 * i : Nat) : Int) ≤ 2 ^ 40 := by unfold big at hl; omega
   have hp : (0 : Int) ≤ ((10 * i : Nat) : Int) := by omega
   have hf := Zfw (f := Z1v) (w := 10) (k := k) hr
   have hs := Zay (f := Z1v) (w := 10) (k := k) hr
   have hlen : i < (mrow Z1v 10 k (cs.map Chg.c) i).length := by rw [Z48 (by simp; omega)]; simpa using hlt
   rw [hx]
   generalize ((10 * i : Nat) : Int) = z at *
   have hv0 : IntKind.i64.wrap (k + z + 1) = k + z + 1 := by rw [wrap_i64 (by omega) (by omega)]
   have hv1 : IntKind.i64.wrap (k + z + 1 + 1) = k + z + 2 := by rw [wrap_i64 (by omega) (by omega)]; omega
   have hv2 : IntKind.i64.wrap (k + z + 2 + 1) = k + z + 3 := by rw [wrap_i64 (by omega) (by omega)]; omega
   have hv3 : IntKind.i64.wrap (k + z + 3 + 1) = k + z + 4 := by rw [wrap_i64 (by omega) (by omega)]; omega
   have hv4 : IntKind.i64.wrap (k + z + 4 + 1) = k + z + 5 := by rw [wrap_i64 (by omega) (by omega)]; omega
   have hv5 : IntKind.i64.wrap (k + z + 5 + 1) = k + z + 6 := by rw [wrap_i64 (by omega) (by omega)]; omega
   have hv6 : IntKind.i64.wrap (k + z + 6 + 1) = k + z + 7 := by rw [wrap_i64 (by omega) (by omega)]; omega
   have hv7 : IntKind.i64.wrap (k + z + 7 + 1) = k + z + 8 := by rw [wrap_i64 (by omega) (by omega)]; omega
   have hv8 : IntKind.i64.wrap (k + z + 8 + 1) = k + z + 9 := by rw [wrap_i64 (by omega) (by omega)]; omega
   have hv9 : IntKind.i64.wrap (k + z + 9 + 1) = k + (z + 10) := by rw [wrap_i64 (by omega) (by omega)]; omega
   have hm1 := Z08 hD (k + z + 1) (by omega)
   have hm2 := Z08 hD (k + z + 2) (by omega)
   have hm3 := Z08 hD (k + z + 3) (by omega)
   have hm9 := Z08 hD (k + z + 9) (by omega)
   have hnb : ¬ n ≤ b := by omega
   have h30 : ((3 : Int) = 0) = False := by simp
   have hset : ∀ r, ((mrow Z1v 10 k (cs.map Chg.c) i).set i r)[i]? = some r := fun r => List.getElem?_set_self hlen
   simp only [Z9, Zrm, Zfn, go_sem, List.length_map, hr, hlt, hw, h30, hv0, hv1, hv2, hv3, hv4, hv5, hv6, hv7, hv8, hv9, hm1, hm2, hm3, hm9, hf, hs, hb, hnb, hset, set_set, Z4l hb, Zb9, V4]
 · have hi : ¬ cs.length < cs.length := by omega
   have ha := Zax Z1v 10 k (cs.map Chg.c)
   rw [List.length_map] at ha
   simp only [Z9, Zrm, Zfn, go_sem, List.length_map, hi, ha]
   exact ⟨_, rfl, _, rfl, rfl, rfl, rfl, rfl⟩
theorem Zha {D : Nat} (hD : 2 ≤ D) (cs : List Chg) (k : Int) (hk : 0 ≤ k ∧ k ≤ 2 ^ 40) (hl : cs.length ≤ big) (h : Hp) (n b c : Nat) (ex : Bool) (hb : b < n) (hh : h b = some ⟨Z4, cs.map Chg.c, true, false⟩) :
 dcl pr D Znm [.ref Z4 b 0 cs.length c ex, .n k] h n = some ([.n (k + ((10 * cs.length : Nat) : Int))], upd (low n h) b (some ⟨Z4, V6 Z1v 10 k cs.length, true, false⟩), n) := by
 obtain ⟨D, rfl, hd⟩ := Z8 hD
 rw [Y6p]
 obtain ⟨out, lo, lp⟩ := Zde (D := D) hd cs k hk hl h n b c ex hb
 rw [Wo] at lp
 obtain ⟨σ', rfl, l2, l3, l4, l5⟩ := lp
 have hnb : ¬ n ≤ b := by omega
 have hu : upd (low n h) b (some ⟨Z4, cs.map Chg.c, true, false⟩) = low n h := by
  funext i
  simp only [Z7]
  split
  · rename_i e; subst e; rw [Z50 hb, hh]
  · rfl
 rw [show k + ((10 * 0 : Nat) : Int) = k by simp, show ((0 : Nat) : Int) = 0 from rfl, Z8y, hu] at lo
 simp only [c_q37, go_sem, hb, hnb, hh, lo, l2, l3, l4, l5]
end Go.Vm.T
namespace Go.Vm.T
open Go.Proofs
variable [Pr2]
structure RowsAt (h : Hp) (b : Nat) (rows : List RowV) : Prop where
 top : h b = some ⟨Z5, roL b rows, true, true⟩
 vals : ∀ (j : Nat) (r : RowV), rows[j]? = some r → h (b + (j + 1)) = some ⟨Z1, r.vals.map Val.c, true, false⟩
def Zyt (hp : Hp) (b i : Nat) (kk : Int) (r : RowV) : Hp := match hp b with
 | some blk => upd (upd hp b (some ⟨Z5, blk.rows.set i [.n kk, .n (kk + 1), .ref Z1 (b + (i + 1)) 0 r.vals.length r.vals.length false], true, true⟩)) (b + (i + 1)) (some ⟨Z1, V6 Z6l 3 (kk + 2) r.vals.length, true, false⟩)
 | none => hp
abbrev rowK (r : RowV) : Nat := 2 + 3 * r.vals.length
def mrG (b : Nat) (i : Nat) (s : Hp × Int) (r : RowV) : (Hp × Int) ⊕ Unit := .inl (Zyt s.1 b i s.2 r, s.2 + ((rowK r : Nat) : Int))
structure MrI (h : Hp) (n b : Nat) (rows : List RowV) (k : Int) (i : Nat) (s : Hp × Int) : Prop where
 top : ∃ R, s.1 b = some ⟨Z5, R, true, true⟩ ∧ R.length = rows.length ∧ ∀ j, i ≤ j → R[j]? = (roL b rows)[j]?
 vals : ∀ (j : Nat) (r : RowV), i ≤ j → rows[j]? = some r → s.1 (b + (j + 1)) = some ⟨Z1, r.vals.map Val.c, true, false⟩
 else_ : ∀ c, c < n → (c < b ∨ b + rows.length < c) → s.1 c = h c
 low : Go.Vm.low n s.1 = s.1
 k : s.2 = k + ((((rows.take i).map rowK).sum : Nat) : Int)
theorem Z7c (w : RowV → Nat) : ∀ (rows : List RowV) (i : Nat), ((rows.take i).map w).sum ≤ (rows.map w).sum
 | [], i => by simp
 | r :: rows, 0 => by simp
 | r :: rows, i + 1 => by
   rw [List.take_succ_cons, List.map_cons, List.map_cons, List.sum_cons, List.sum_cons]
   have := Z7c w rows i
   omega
theorem Z7r (w : RowV → Nat) : ∀ (rows : List RowV) (i : Nat) (r : RowV), rows[i]? = some r → ((rows.take (i + 1)).map w).sum = ((rows.take i).map w).sum + w r
 | [], i, r, h => by simp at h
 | x :: rows, 0, r, h => by simp at h; subst h; simp
 | x :: rows, i + 1, r, h => by
   rw [List.take_succ_cons, List.take_succ_cons, List.map_cons, List.map_cons, List.sum_cons, List.sum_cons, Z7r w rows i r (by simpa using h)]
   omega
abbrev mrS (n b c : Nat) (ex : Bool) (len i : Nat) (s : Hp × Int) : St := ⟨upd (upd (upd (fun _ => .bad) 0 (.ref Z5 b 0 len c ex)) 1 (.n s.2)) 5 (.n i), s.1, n, n⟩
theorem Zmk {D : Nat} (hD : 2 ≤ D) (rows : List RowV) (k : Int) (hk : 0 ≤ k ∧ k ≤ 2 ^ 30) (hl : rows.length ≤ big) (hsum : (rows.map rowK).sum ≤ 2 ^ 30) (hv : ∀ r ∈ rows, r.vals.length ≤ big) (h : Hp) (n b c : Nat) (ex : Bool) (hb : b + rows.length < n) (H : RowsAt h b rows) :
 Xr (Z9 (exec ⟨den pr D, dcl pr D, dfl pr D⟩ Zfx) [0, 1, 5] rounds (mrS n b c ex rows.length 0 (Go.Vm.low n h, k))) (Hp × Int) Unit (runI (mrG b) 0 (Go.Vm.low n h, k) rows)
  (fun s o => ∃ σ', o = .exit 0 σ' ∧ σ'.s 1 = .n s.2 ∧ σ'.h = s.1 ∧ σ'.n = n ∧ σ'.base = n ∧ MrI h n b rows k rows.length s) (fun _ o => False) := by
 refine Zh rows (fun i s => mrS n b c ex rows.length i s) (mrG b) (MrI h n b rows k) _ _ (Go.Vm.low n h, k) ?_ hl (fun i s e K hc hlt I => ?_) (fun s K I => ?_)
 · refine ⟨⟨roL b rows, ?_, Z22 b rows, fun j _ => rfl⟩, fun j r _ hr => ?_, fun c hc _ => Z50 hc h, Zb9 n h, by simp⟩
   · show Go.Vm.low n h b = _
     rw [Z50 (by omega), H.top]
   · have hj := (List.getElem?_eq_some_iff.1 hr).1
     show Go.Vm.low n h _ = _
     rw [Z50 (by omega), H.vals j r hr]
 · obtain ⟨hp, kk⟩ := s
   obtain ⟨⟨R, ht, hRl, hRj⟩, hvals, helse, hlow, hkk⟩ := I
   simp only at ht hvals helse hlow hkk
   have hsl := Z7c rowK rows i
   have hnx := Z7r rowK rows i e hc
   have hsl2 := Z7c rowK rows (i + 1)
   have hw := Zf (n := i) (by unfold big at hl; omega)
   have hw1 : IntKind.i64.wrap (kk + 1) = kk + 1 := wrap_i64 (by omega) (by omega)
   have hw2 : IntKind.i64.wrap (kk + 1 + 1) = kk + 2 := by rw [wrap_i64 (by omega) (by omega)]; omega
   have hRi : R[i]? = some (ro b i e) := by rw [hRj i (Nat.le_refl i)]; exact Zy4 hc
   have hv1 := hvals i e (Nat.le_refl i) hc
   have hbn : b < n := by omega
   have hnb : ¬ n ≤ b := by omega
   have hbi : b + (i + 1) < n := by omega
   have hne : (b = b + (i + 1)) = False := eq_false (by omega)
   have hne2 : (b + (i + 1) = b) = False := eq_false (by omega)
   have hRlt : i < R.length := by omega
   have hset : ∀ r, (R.set i r)[i]? = some r := fun r => List.getElem?_set_self hRlt
   have hdc : ∀ H', H' (b + (i + 1)) = some ⟨Z1, e.vals.map Val.c, true, false⟩ → dcl pr D Zlc [.ref Z1 (b + (i + 1)) 0 e.vals.length e.vals.length false, .n (kk + 2)] H' n = some ([.n (kk + 2 + ((3 * e.vals.length : Nat) : Int))], upd (Go.Vm.low n H') (b + (i + 1)) (some ⟨Z1, V6 Z6l 3 (kk + 2) e.vals.length, true, false⟩), n) :=
    fun H' hH => Zpa hD e.vals (kk + 2) ⟨by omega, by omega⟩ (hv e (List.mem_of_getElem? hc)) H' n (b + (i + 1)) e.vals.length false hbi hH
   have hsum2 : kk + 2 + ((3 * e.vals.length : Nat) : Int) = kk + ((rowK e : Nat) : Int) := by simp only [rowK]; omega
   have hdc2 := hdc (upd hp b (some ⟨Z5, R.set i [.n kk, .n (kk + 1), .ref Z1 (b + (i + 1)) 0 e.vals.length e.vals.length false], true, true⟩)) (by rw [Z7, if_neg (by omega)]; exact hv1)
   rw [Z4l hbn, hlow, hsum2] at hdc2
   have hnm : Zyt hp b i kk e = upd (upd hp b (some ⟨Z5, R.set i [.n kk, .n (kk + 1), .ref Z1 (b + (i + 1)) 0 e.vals.length e.vals.length false], true, true⟩)) (b + (i + 1)) (some ⟨Z1, V6 Z6l 3 (kk + 2) e.vals.length, true, false⟩) := by unfold Zyt; rw [ht]
   unfold mrG
   simp only
   refine ⟨?_, ⟨⟨R.set i [.n kk, .n (kk + 1), .ref Z1 (b + (i + 1)) 0 e.vals.length e.vals.length false], ?_, by simp [hRl], fun j hj => ?_⟩, fun j r hj hr => ?_, fun c hc1 hc2 => ?_, ?_, ?_⟩⟩
   · rw [hnm]
     have hx : ∃ s', exec ⟨den pr D, dcl pr D, dfl pr D⟩ Zfx (mrS n b c ex rows.length i (hp, kk)) = some (.norm ⟨s', upd (upd hp b (some ⟨Z5, R.set i [.n kk, .n (kk + 1), .ref Z1 (b + (i + 1)) 0 e.vals.length e.vals.length false], true, true⟩)) (b + (i + 1)) (some ⟨Z1, V6 Z6l 3 (kk + 2) e.vals.length, true, false⟩), n, n⟩) ∧ s' 0 = .ref Z5 b 0 rows.length c ex ∧ s' 1 = .n (kk + ((rowK e : Nat) : Int)) ∧ s' 5 = .n ((i + 1 : Nat) : Int) := by
      simp only [mrS, Ztp, Zgn, go_sem, List.length_map, hlt, hw, hw1, hw2, hRi, hRlt, hRl, ht, hset, set_set, V4, hne, hne2, hbn, hnb, hdc2, if_true, if_false]
      exact ⟨_, rfl, rfl, rfl, rfl⟩
     obtain ⟨s', hx, h0, h1, h5⟩ := hx
     refine Zep hx ?_
     have hlow2 : Go.Vm.low n (upd (upd hp b (some ⟨Z5, R.set i [.n kk, .n (kk + 1), .ref Z1 (b + (i + 1)) 0 e.vals.length e.vals.length false], true, true⟩)) (b + (i + 1)) (some ⟨Z1, V6 Z6l 3 (kk + 2) e.vals.length, true, false⟩)) = upd (upd hp b (some ⟨Z5, R.set i [.n kk, .n (kk + 1), .ref Z1 (b + (i + 1)) 0 e.vals.length e.vals.length false], true, true⟩)) (b + (i + 1)) (some ⟨Z1, V6 Z6l 3 (kk + 2) e.vals.length, true, false⟩) := by rw [Z4l hbi, Z4l hbn, hlow]
     generalize upd (upd hp b (some ⟨Z5, R.set i [.n kk, .n (kk + 1), .ref Z1 (b + (i + 1)) 0 e.vals.length e.vals.length false], true, true⟩)) (b + (i + 1)) (some ⟨Z1, V6 Z6l 3 (kk + 2) e.vals.length, true, false⟩) = G at *
     rw [Zoh (ns := []) (by simp only [Z0c, h0, h1, h5, Z4x, nmIn, Z09, Z53, Vs]; simp [hbn, Z09, Vs]) (by simp [Zam, Vs])]
     have hH : Zp8 n G [] = G := by
      rw [← hlow2]
      funext x
      unfold Zp8 Go.Vm.low
      by_cases hx : x < n
      · simp [hx]
      · simp [hx]
     simp only [mrS, Z45, h0, h1, h5, ren, ren1, nw, hbn, if_true, hH, List.length_nil, Nat.add_zero]
   · rw [hnm]; simp only [Z7]; rw [if_neg (by omega)]; simp
   · rw [List.getElem?_set_ne (by omega)]; exact hRj j (by omega)
   · rw [hnm]; simp only [Z7]; rw [if_neg (by omega), if_neg (by omega)]; exact hvals j r (by omega) hr
   · rw [hnm]; simp only [Z7]; rw [if_neg (by omega), if_neg (by omega)]; exact helse c hc1 hc2
   · rw [hnm, Z4l hbi, Z4l hbn, hlow]
   · rw [hkk, hnx]; omega
 · have hi : ¬ rows.length < rows.length := by omega
   simp only [mrS, Z9, Ztp, Zgn, go_sem, List.length_map, hi]
   exact ⟨_, rfl, _, rfl, rfl, rfl, rfl, rfl, I⟩
end Go.Vm.T
namespace Go.Vm.T
open Go.Proofs
variable [Pr2]
theorem Zq5 {D : Nat} (hD : 3 ≤ D) (rows : List RowV) (k : Int) (hk : 0 ≤ k ∧ k ≤ 2 ^ 30) (hl : rows.length ≤ big) (hsum : (rows.map rowK).sum ≤ 2 ^ 30) (hv : ∀ r ∈ rows, r.vals.length ≤ big) (h : Hp) (n b c : Nat) (ex : Bool) (hb : b + rows.length < n) (H : RowsAt h b rows) :
 ∃ k' h', dcl pr D Zmu [.ref Z5 b 0 rows.length c ex, .n k] h n = some ([.n k'], h', n) ∧ k' = k + (((rows.map rowK).sum : Nat) : Int) ∧ (∀ x, x < n → (x < b ∨ b + rows.length < x) → h' x = h x) := by
 obtain ⟨D, rfl, hd⟩ := Z8 hD
 rw [Y63]
 obtain ⟨out, lo, lp⟩ := Zmk hd rows k hk hl hsum hv h n b c ex hb H
 have hrun : ∀ (l : List RowV) (i : Nat) (s : Hp × Int), ∃ s', runI (mrG b) i s l = .inl s' := by
  intro l
  induction l with
  | nil => exact fun i s => ⟨s, rfl⟩
  | cons x l ih => exact fun i s => ih (i + 1) _
 obtain ⟨s, hs⟩ := hrun rows 0 (Go.Vm.low n h, k)
 rw [hs] at lp
 obtain ⟨σ', rfl, l1, l2, l3, l4, I⟩ := lp
 have hbn : b < n := by omega
 have hnb : ¬ n ≤ b := by omega
 simp only [mrS] at lo
 rw [show ((0 : Nat) : Int) = 0 from rfl] at lo
 refine ⟨s.2, s.1, ?_, ?_, I.else_⟩
 · simp only [c_q38, go_sem, hbn, hnb, H.top, lo, l1, l2, l3, l4]
 · rw [I.k, List.take_length]
structure TabH (h : Hp) (a b c : Nat) (t : Tab) : Prop where
 cols : h a = some ⟨Z0, t.first.map ColV.c, true, false⟩
 chgs : h b = some ⟨Z4, t.chg.map Chg.c, true, false⟩
 rows : RowsAt h c t.rows
structure Sums (t : Tab) : Prop where
 f : t.first.length ≤ 2 ^ 20
 g : t.chg.length ≤ 2 ^ 20
 r : (t.rows.map rowK).sum ≤ 2 ^ 26
theorem Zm0 {D : Nat} (hD : 4 ≤ D) (t : Tab) (k : Int) (hk : 0 ≤ k ∧ k ≤ 2 ^ 10) (S : Sums t) (hl : t.rows.length ≤ big) (hv : ∀ r ∈ t.rows, r.vals.length ≤ big) (h : Hp) (n a b c ca cb cc : Nat) (ea eb ec : Bool) (H : TabH h a b c t)
 (hab : ¬ a = b) (hac : a < c ∨ c + t.rows.length < a) (hbc : b < c ∨ c + t.rows.length < b) (ha : a < n) (hb : b < n) (hc : c + t.rows.length < n) :
 ∃ k' h', dcl pr D f_q5 [.agg [.ref Z0 a 0 t.first.length ca ea, .ref Z4 b 0 t.chg.length cb eb, .ref Z5 c 0 t.rows.length cc ec, .n t.next], .n k] h n = some ([.n k'], h', n + 1) ∧ 0 ≤ k' ∧ k' ≤ 2 ^ 28 ∧ (∀ x, x < n → ¬ x = a → ¬ x = b → (x < c ∨ c + t.rows.length < x) → h' x = h x) := by
 obtain ⟨D, rfl, hd⟩ := Z8 hD
 rw [v_q5]
 have s1 := S.f
 have s2 := S.g
 have s3 := S.r
 obtain ⟨H1, hH1⟩ : ∃ H1, H1 = upd h n (some ⟨Zb, [[.ref Z0 a 0 t.first.length ca ea, .ref Z4 b 0 t.chg.length cb eb, .ref Z5 c 0 t.rows.length cc ec, .n t.next]], true, true⟩) := ⟨_, rfl⟩
 have h1 : ∀ x, x < n → H1 x = h x := fun x hx => by rw [hH1, Z7, if_neg (by omega)]
 have g1 : H1 n = some ⟨Zb, [[.ref Z0 a 0 t.first.length ca ea, .ref Z4 b 0 t.chg.length cb eb, .ref Z5 c 0 t.rows.length cc ec, .n t.next]], true, true⟩ := by rw [hH1, Z7, if_pos rfl]
 have e1 := Zpz (D := D) (by omega) t.first k ⟨by omega, by omega⟩ (by unfold big; omega) H1 (n + 1) a ca ea (by omega) (by rw [h1 a ha]; exact H.cols)
 obtain ⟨H2, hH2⟩ : ∃ H2, H2 = upd (Go.Vm.low (n + 1) H1) a (some ⟨Z0, V6 Zd0 7 k t.first.length, true, false⟩) := ⟨_, rfl⟩
 rw [← hH2] at e1
 have h2 : ∀ x, x < n + 1 → ¬ x = a → H2 x = H1 x := fun x hx hxa => by rw [hH2, Z7, if_neg hxa, Z50 hx]
 have g2 : H2 n = _ := (h2 n (by omega) (by omega)).trans g1
 obtain ⟨k1, hk1⟩ : ∃ k1 : Int, k1 = k + ((7 * t.first.length : Nat) : Int) := ⟨_, rfl⟩
 rw [← hk1] at e1
 have e2 := Zha (D := D) (by omega) t.chg k1 ⟨by omega, by omega⟩ (by unfold big; omega) H2 (n + 1) b cb eb (by omega) (by rw [h2 b (by omega) (by omega), h1 b hb]; exact H.chgs)
 obtain ⟨H3, hH3⟩ : ∃ H3, H3 = upd (Go.Vm.low (n + 1) H2) b (some ⟨Z4, V6 Z1v 10 k1 t.chg.length, true, false⟩) := ⟨_, rfl⟩
 rw [← hH3] at e2
 have h3 : ∀ x, x < n + 1 → ¬ x = b → H3 x = H2 x := fun x hx hxa => by rw [hH3, Z7, if_neg hxa, Z50 hx]
 have g3 : H3 n = _ := (h3 n (by omega) (by omega)).trans g2
 obtain ⟨k2, hk2⟩ : ∃ k2 : Int, k2 = k1 + ((10 * t.chg.length : Nat) : Int) := ⟨_, rfl⟩
 rw [← hk2] at e2
 have all3 : ∀ x, x < n → ¬ x = a → ¬ x = b → H3 x = h x := fun x hx p q => by rw [h3 x (by omega) q, h2 x (by omega) p, h1 x hx]
 obtain ⟨k3, H4, e3, hk3, h4⟩ := Zq5 (D := D) hd t.rows k2 ⟨by omega, by omega⟩ hl (by omega) hv H3 (n + 1) c cc ec (by omega)
  ⟨by rw [all3 c (by omega) (by omega) (by omega)]; exact H.rows.top, fun j r hr => by
   have hj := (List.getElem?_eq_some_iff.1 hr).1
   rw [all3 _ (by omega) (by omega) (by omega)]; exact H.rows.vals j r hr⟩
 refine ⟨k3, H4, ?_, by omega, by omega, fun x hx p q r => (h4 x (by omega) r).trans (all3 x hx p q)⟩
 simp only [c_q5, go_sem, ← hH1, g1, e1, g2, e2, g3, e3]
end Go.Vm.T
namespace Go.Vm.T
open Go.Proofs
variable [Pr2]
abbrev Zxa (a b c : Nat) (t : Tab) : List A := [.ref Z0 a 0 t.first.length t.first.length false, .ref Z4 b 0 t.chg.length t.chg.length false, .ref Z5 c 0 t.rows.length t.rows.length true, .n t.next]
theorem Zrw (m k : Nat) : (m + k < m) = False := eq_false (by omega)
theorem Zs3 (m k : Nat) : (m ≤ m + k) = True := eq_true (by omega)
theorem Zk1 {D : Nat} (hD : 5 ≤ D) (t : Tab) (hf : FitT t) (hm : MidT t) (h : Hp) (m : Nat) :
 ∃ h', dcl pr D Ye [.agg (tabL t)] h m = some ([.agg (Zxa (m + 9) (m + 10) (m + 11) t)], h', m + 11 + (t.rows.length + 1)) ∧ TabH h' (m + 9) (m + 10) (m + 11) t ∧ ∀ x, x < m → h' x = h x := by
 obtain ⟨D, rfl, hd⟩ := Z8 hD
 rw [Zdw]
 have hs := hm.small
 have e1 := Zwh (D := D) (by omega) t.first (by have := hs.clen; omega)
 have e2 := Zma (D := D) (by omega) t.chg hs.glen hf.chg
 have e3 := fun H n => Zwa (D := D) hd t.rows hs.rlen hm.rows H n
 have t1 : (t.first.map ColV.c).take t.first.length = t.first.map ColV.c := List.take_of_length_le (by simp)
 have t2 : (t.chg.map Chg.c).take t.chg.length = t.chg.map Chg.c := List.take_of_length_le (by simp)
 simp only [c_laws_toTable_D, go_sem, e1, e2, e3, t1, t2, Z6, Zpp, List.length_map, Nat.le_refl, if_true, ite_self, Nat.add_assoc, Nat.add_left_cancel_iff, Nat.left_eq_add, Nat.add_eq_left, Zrw, Zs3, Zqk (show m + 5 < m + 11 by omega), Zqk (show m < m + 11 by omega), Zqk (show m + 1 < m + 11 by omega)]
 refine ⟨_, rfl, ⟨?_, ?_, ⟨?_, fun j r hr => ?_⟩⟩, fun x hx => ?_⟩
 · simp only [Z7, Nat.add_left_cancel_iff, Nat.reduceEqDiff, if_false, if_true, Zqk (show m + 9 < m + 11 by omega)]
 · simp only [Z7, Nat.add_left_cancel_iff, Nat.reduceEqDiff, if_false, if_true, Zqk (show m + 10 < m + 11 by omega)]
 · simp only [Z7, Nat.add_left_cancel_iff, Nat.reduceEqDiff, if_false, if_true, dh_m]
   have := Zb0 zRow (roL (m + 11) t.rows)
   rw [Z22] at this
   rw [this]
 · have f1 : (m + 11 + (j + 1) = m + 5) = False := eq_false (by omega)
   have f2 : (m + 11 + (j + 1) = m + 1) = False := eq_false (by omega)
   have hj := (List.getElem?_eq_some_iff.1 hr).1
   simp only [Z7, f1, f2, if_false]
   exact Y2k _ _ hj hr
 · have f0 : (x = m) = False := eq_false (by omega)
   have f1 : ∀ c, (x = m + c) = False := fun c => eq_false (by omega)
   simp only [Z7, f0, f1, if_false, Zqk (show x < m + 11 by omega)]
theorem Zw6 {h : Hp} {b len c : Nat} {ex : Bool} {vs : List Val} {m : Nat} (hb : h b = some ⟨Z1, vs.map Val.c, true, false⟩) (hl : len = vs.length) : clD h (m + 1) (.ref Z1 b 0 len c ex) = some (.lit Z1 (vs.map Val.c), [b]) := by
 subst hl
 unfold clD
 rw [hb]
 simp only [bnd, Nat.zero_add, List.length_map, Nat.le_refl, if_true, cond_false, List.drop_zero, List.take_of_length_le (show (vs.map Val.c).length ≤ vs.length by simp)]
theorem Zox {h : Hp} {c : Nat} {m : Nat} : ∀ (rows : List RowV) (i : Nat), (∀ (j : Nat) (r : RowV), rows[j]? = some r → h (c + (i + j + 1)) = some ⟨Z1, r.vals.map Val.c, true, false⟩) →
 ∃ ns, Z0o (clD h (m + 1)) (rows.mapIdx fun j r => ro c (i + j) r) = some (rows.map RowV.c, ns)
 | [], i, _ => ⟨[], rfl⟩
 | r :: rows, i, H => by
   have e : (rows.mapIdx fun j r => ro c (i + (j + 1)) r) = rows.mapIdx fun j r => ro c (i + 1 + j) r := by
    congr 1
    funext j r
    rw [show i + (j + 1) = i + 1 + j by omega]
   obtain ⟨ns, ih⟩ := Zox (m := m) rows (i + 1) (fun j r hr => by have := H (j + 1) r (by simpa using hr); rw [show i + 1 + j + 1 = i + (j + 1) + 1 by omega]; exact this)
   have h0 := H 0 r (by simp)
   rw [List.mapIdx_cons, e]
   unfold Z0o
   rw [ih]
   have hr : clDs (clD h (m + 1)) (ro c (i + 0) r) = some (r.c, [c + (i + 0 + 1)]) := by
    show bnd (clD h (m + 1) (.n r.id)) _ = _
    rw [show clD h (m + 1) (.n r.id) = some (.n r.id, []) from rfl]
    show bnd (bnd (clD h (m + 1) (.n r.ver)) _) _ = _
    rw [show clD h (m + 1) (.n r.ver) = some (.n r.ver, []) from rfl]
    show bnd (bnd (bnd (clD h (m + 1) (.ref Z1 (c + (i + 0 + 1)) 0 r.vals.length r.vals.length false)) _) _) _ = _
    rw [Zw6 h0 rfl]
    rfl
   rw [hr]
   exact ⟨_, rfl⟩
end Go.Vm.T
end
