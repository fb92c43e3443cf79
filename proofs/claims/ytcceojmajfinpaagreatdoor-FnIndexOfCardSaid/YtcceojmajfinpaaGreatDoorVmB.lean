/-
  Calls, results and operations of the abstract machine, held against the model
-/
import Derived.Test.YtcceojmajfinpaaGreatDoorVmA
import Derived.Deep.AppendSrc
import Derived.Deep.Upon
import Derived.Room.Entries
import Derived.Orders
section
set_option linter.unusedVariables false
set_option linter.unusedSimpArgs false
set_option linter.unusedSectionVars false
namespace Go.Vm
open Go.RowKit
variable {P : Program} {C C' C'' : Rho} {S S' S'' : Nat -> Prop} {w w' w'' : World} {B : Nat} {h : Hp}
theorem Mv.trans0 {iv : Nat -> Prop} (a : Mv B C S w C' S' w' (fun _ => False)) (b : Mv B C' S' w' C'' S'' w'' iv) : Mv B C S w C'' S'' w'' iv :=
 (a.trans b).wide (fun x h => by rcases h with h | h; exact h.elim; exact h)
theorem Mv.trans1 {iv : Nat -> Prop} (a : Mv B C S w C' S' w' iv) (b : Mv B C' S' w' C'' S'' w'' (fun _ => False)) : Mv B C S w C'' S'' w'' iv :=
 (a.trans b).wide (fun x h => by rcases h with h | h; exact h; exact h.elim)
theorem Y11 {h : Hp} {bs : List Nat} {n : Nat} {blk : Blk} (hn : n ∉ bs) : upd (frz h bs) n (some blk) = frz (upd h n (some blk)) bs := (Zw6 hn).symm
theorem Zpi (H : HR P C S w B h) {base : Nat} {t n : Nat} {p a : A} {x v : Value} (rp : R P C S w p x) (ra : R P C S w a v) (hn : n = P.cellsOf t) (hi : (P.info? t).isSome = true)
 {h' : Hp} (e : storeAt base h p n a = some h') : ∃ w', (Instr.storeAt t x v).run P w = .ok () w' /\ Eff P B C S w (fun _ => False) h' .und undef w' := by
 cases rp with
 | ptr b i j k sz hb =>
   obtain ⟨blk, j3, e1⟩ := Z6 e
   obtain ⟨row, j1, e2⟩ := Z6 e1
   clear e e1
   unfold Z7t at e2
   split at e2
   . rename_i hc
     obtain ⟨j5, je, hj, jb, j2⟩ := hc
     obtain ⟨i', jd⟩ := eW.1 hi
     have hB := H.at_of j3 hb
     obtain ⟨c, jc, hs, j9⟩ := hB.heap
     obtain ⟨q1, q2⟩ := R.cells jb ra
     have hvl : v.cells.size = n := by have := q1.len; simp at this; omega
     have ji := (hB.rows _ _ j1).1
     have j4 : i * sz + j + n <= c.size := by
      have : i < blk.rows.length := (dU.1 j1).1
      have h2 : (i + 1) * sz <= blk.rows.length * sz := cZ _ this
      rw [dL] at h2
      omega
     obtain ⟨w', j8, hw⟩ := Z2s (P := P) v.cells.toList (i * sz + j) 0 w c blk.ty jc q2 (by simp [hvl]; exact j4)
     have j7 : (Instr.storeAt t (.pointer (some ⟨k, i * sz + j, none⟩)) v).run P w = .ok () w' := by
      have jf : v.cells.size = P.cellsOf t := by omega
      simp [Instr.storeAt, Instr.sureAddr, storeVar, run_sizeOf _ jd, jf, j8]
     refine ⟨w', j7, ?_⟩
     rw [fM] at hw
     split at e2
     . rename_i j0
       split at e2
       . cases e2
       . simp only [dM] at e2
         subst e2
         obtain ⟨H2, M2⟩ := H.wrote j3 hb j5 j1 q1.len.symm.symm (by omega) (fun m x y h1 h2 => by rw [j0]; exact q1.at_ m x y h1 h2) jb hw
         exact ⟨_, _, M2, H2, .und⟩
     . rename_i j0
       have j0 : blk.box = false := by simpa using j0
       obtain ⟨cs, ja, e3⟩ := Z6 e2
       simp only [dM] at e3
       subst e3
       have q3 := Z8w H (S' := Wk C S h (Zr a.cells)) (fun _ h => .inl h) ja q1 (Fast.frozen _)
       have H1 := H.freeze (Zr a.cells)
       have j6 : frz h (Zr a.cells) b = some blk := by rw [Zd6, j3]; simp [j2]
       have jg := q3.len
       have jh := q1.len
       obtain ⟨H2, M2⟩ := H1.wrote j6 hb j5 j1 q3.len.symm.symm (by simp at jg jh; omega) (fun m x y h1 h2 => by rw [j0]; exact q3.at_ m x y h1 h2) (Zah ja) hw
       rw [Y11 j2] at H2
       exact ⟨_, _, (Z7w H (Zr a.cells) _).trans0 M2, H2, .und⟩
   . cases e2
 | _ => simp [storeAt] at e
theorem Zun (H : HR P C S w B h) {base : Nat} {t m ty : Nat} {p : A} {x : Value} (rp : R P C S w p x) (hf : C m = none) (hn : 1 = P.cellsOf t) (hi : (P.info? t).isSome = true)
 {h' : Hp} (e : storeAt base (upd h m (some ⟨ty, [], true, false⟩)) p 1 (.ref ty m 0 0 0 false) = some h') : ∃ w', (Instr.storeAt t x (.slice none 0 0)).run P w = .ok () w' /\ Eff P B C S w (X1 m 1) h' .und undef w' := by
 obtain ⟨H1, M1⟩ := H.none_ hf ty
 obtain ⟨w', hr, C2, S2, M2, H2, _⟩ := Zpi H1 (M1.R rp) (R.nil ty m false (Yv _ _)) hn hi e
 exact ⟨w', hr, C2, S2, (M1.trans1 M2).wide (fun b hb => by simp only [X1]; omega), H2, .und⟩
theorem V1 {k o : Nat} {c : Array Value} {t : TypeId} (vs : List Value) (hc : w.heap[k]? = some (.cells c t (0, 0))) (h1 : ∀ v ∈ vs, v.oneCell' = true) (hl : o + vs.length <= c.size) :
 Wrote w (w.setCells k o vs) k o vs := by
 obtain ⟨w', hr, hw⟩ := Z2s (P := (default : Program)) vs o 0 w c t hc h1 (by simpa using hl)
 have j0 : ∀ j, j < vs.length -> w.cell? ⟨k, o + 0 + j, none⟩ = c[o + j]? := by intro j hj; simp [World.cell?, hc]
 have j1 := run_storeCells_cells (P := (default : Program)) k o vs 0 w (fun j hj => by rw [j0 j hj, eR (by omega)]; rfl) (fun j hj => by simp [World.frozen?, hc]) h1
 rw [hr] at j1
 simp only [Result.ok.injEq, true_and, fM] at j1 hw
 rw [<- j1]
 exact hw
theorem HR.adopt (H : HR P C S w B h) {b m : Nat} {blk blk' : Blk} {k sz : Nat} (e : h b = some blk) (hb : C b = some (some (k, sz))) (hm : C m = none)
 (hext : Ext S w w') (hsz : w.heap.size <= w'.heap.size) (hother : ∀ i, i ≠ k -> i < w.heap.size -> w'.heap[i]? = w.heap[i]?) (hB : BR P C S w' B blk' k sz) :
 HR P (Zja C m (some (k, sz))) S w' B (upd (upd h b none) m (some blk')) := by
 have j2 : ∀ b1 blk1 k1 sz1, b1 ≠ b -> h b1 = some blk1 -> C b1 = some (some (k1, sz1)) -> k1 ≠ k := by
  intro b1 blk1 k1 sz1 hn e1 h1 hk
  subst hk
  exact hn (H.inj b1 b k1 sz1 sz blk1 blk e1 e h1 hb)
 have j0 := Zcr (l := some (k, sz)) hm
 have j1 : ∀ b1 blk1, upd (upd h b none) m (some blk') b1 = some blk1 -> (b1 = m /\ blk1 = blk') \/ (b1 ≠ m /\ b1 ≠ b /\ h b1 = some blk1) := by
  intro b1 blk1 e1
  unfold upd at e1
  split at e1
  . simp only [dM] at e1; exact .inl ⟨‹_›, e1.symm⟩
  . split at e1
    . cases e1
    . exact .inr ⟨‹_›, ‹_›, e1⟩
 have same : BR P (Zja C m (some (k, sz))) S w' B blk' k sz := hB.mono j0 (fun _ h => h) (Ext.refl _ _) (fun h => h) rfl
 refine ⟨fun b1 blk1 e1 => ?_, fun b1 b2 k1 sz1 sz2 blk1 blk2 e1 e2 e3 e4 => ?_, fun i hi => fK (H.old i hi) hsz, H.glob.mono (fun _ h => h) hext⟩
 . rcases j1 b1 blk1 e1 with ⟨rfl, rfl⟩ | ⟨n1, n2, e2⟩
   . exact .inl ⟨k, sz, Yv _ _, same⟩
   . rcases H.at_ b1 blk1 e2 with ⟨k1, sz1, h1, j3⟩ | ⟨h1, hv⟩
     . exact .inl ⟨k1, sz1, j0 _ _ h1, j3.mono j0 (fun _ h => h) hext (fun h => h) (hother k1 (j2 b1 blk1 k1 sz1 n2 e2 h1) (H.lt e2 h1))⟩
     . exact .inr ⟨j0 _ _ h1, hv⟩
 . rcases j1 b1 blk1 e1 with ⟨rfl, rfl⟩ | ⟨n1, n2, q1⟩ <;> rcases j1 b2 blk2 e2 with ⟨rfl, rfl⟩ | ⟨n3, n4, q2⟩
   . rfl
   . rw [Yv] at e3
     rw [Z2k n3] at e4
     simp only [dM, dV] at e3
     exact absurd e3.1.symm (j2 b2 blk2 k1 sz2 n4 q2 e4)
   . rw [Yv] at e4
     rw [Z2k n1] at e3
     simp only [dM, dV] at e4
     exact absurd e4.1.symm (j2 b1 blk1 k1 sz1 n2 q1 e3)
   . rw [Z2k n1] at e3
     rw [Z2k n3] at e4
     exact H.inj b1 b2 k1 sz1 sz2 blk1 blk2 q1 q2 e3 e4
def Zmb (P : Program) (t tx e : TypeId) : Bool :=
 Z82 P t e && (match P.underlying tx with | some (.slice _) => true | _ => false) && decide (0 < P.cellsOf e) &&
  (match P.info? e with | some i => decide (i.bytes <= 2048) && (match i.zero with | some z => decide (z.cells.size = i.size) | none => false) | none => false)
theorem Z99 {rows ys : List (List A)} {len : Nat} (hl : len <= rows.length) (i : Nat) (row : List A) (e : (rows.take len ++ ys)[i]? = some row) :
 (i < len /\ rows[i]? = some row) \/ (len <= i /\ ys[i - len]? = some row) := by
 have j0 : (rows.take len).length = len := by simp; omega
 by_cases hi : i < len
 . rw [dZ (by omega), dB, if_pos hi] at e
   exact .inl ⟨hi, e⟩
 . rw [eA (by omega), j0] at e
   exact .inr ⟨by omega, e⟩
theorem Zqh {C0 : Rho} {c c' : Array Value} {sz len n : Nat} {rows ys : List (List A)} {news : List Value} (hz : 0 < sz) (hl : len <= rows.length) (hn : ys.length = n) (hnl : news.length = n * sz)
 (hrow : ∀ (i : Nat) (row : List A), rows[i]? = some row -> row.length = sz) (hrowy : ∀ (i : Nat) (row : List A), ys[i]? = some row -> row.length = sz)
 (hold : ∀ (i : Nat) (row : List A) (j : Nat) (x : A), rows[i]? = some row -> row[j]? = some x -> ∃ y, c[i * sz + j]? = some y /\ R P C0 S w x y)
 (hnew : ∀ (i : Nat) (row : List A) (j : Nat) (x : A), ys[i]? = some row -> row[j]? = some x -> ∃ v, news[i * sz + j]? = some v /\ R P C0 S w x v)
 (h1 : ∀ m, m < len * sz -> c'[m]? = c[m]?) (h2 : ∀ m, m < n * sz -> c'[len * sz + m]? = news[m]?) (i : Nat) (row : List A) (j : Nat) (x : A) (e1 : (rows.take len ++ ys)[i]? = some row) (e2 : row[j]? = some x) :
 ∃ y, c'[i * sz + j]? = some y /\ R P C0 S w x y := by
 have j2 : j < row.length := (dU.1 e2).1
 rcases Z99 hl i row e1 with ⟨hi, e3⟩ | ⟨hi, e3⟩
 . obtain ⟨y, hy, hr⟩ := hold i row j x e3 e2
   have hj := hrow i row e3
   have hlt : i * sz + j < len * sz := by
    have : (i + 1) * sz <= len * sz := cZ _ hi
    rw [dL] at this
    omega
   exact ⟨y, by rw [h1 _ hlt]; exact hy, hr⟩
 . obtain ⟨y, hy, hr⟩ := hnew (i - len) row j x e3 e2
   have hj := hrowy _ row e3
   have j1 : i - len < n := by rw [<- hn]; exact (dU.1 e3).1
   have hlt : (i - len) * sz + j < n * sz := by
    have : (i - len + 1) * sz <= n * sz := cZ _ j1
    rw [dL] at this
    omega
   have j0 : i * sz + j = len * sz + ((i - len) * sz + j) := by
    rw [<- gE, <- dL]; congr 2; omega
   exact ⟨y, by rw [j0, h2 _ hlt]; exact hy, hr⟩
theorem Stands.src {C0 : Rho} {sz : Nat} {rows : List (List A)} {ad : Option Addr} {cap : Nat} (hs : Stands P C0 S w sz rows ad) (hz : 0 < sz) {tx e' : TypeId} (hk : P.underlying tx = some (.slice e')) :
 ∃ news : List Value, Src P sz tx (.slice ad rows.length cap) rows.length news w /\
  ∀ (i : Nat) (row : List A) (j : Nat) (x : A), rows[i]? = some row -> row[j]? = some x -> ∃ v, news[i * sz + j]? = some v /\ R P C0 S w x v := by
 obtain ⟨vs, hl, j2, j0⟩ := hs.load cap
 refine ⟨vs, ⟨.inl ⟨e', hk⟩, fun _ => rfl, j2 _ w rfl, j2 _ w.drew rfl, hl, fun u hu => ?_⟩, j0⟩
 obtain ⟨m, hm, rfl⟩ := List.getElem_of_mem hu
 have hi : m / sz < rows.length := Nat.div_lt_of_lt_mul (by rw [gJ, <- hl]; exact hm)
 have j1 : rows[m / sz]? = some rows[m / sz] := dS hi
 obtain ⟨h1, h2⟩ := hs.len _ _ j1
 have hj : m % sz < rows[m / sz].length := by rw [h1]; exact Nat.mod_lt _ hz
 obtain ⟨v, hv, hr⟩ := j0 _ _ _ _ j1 (dS hj)
 have j3 : m / sz * sz + m % sz = m := by rw [gJ]; exact Nat.div_add_mod m sz
 rw [j3, dS hm] at hv
 simp only [dM] at hv
 rw [hv]
 exact Z6w (Yz.1 h2 _ (eV hj)) hr
theorem Ext.of_heap (e : w'.heap = w.heap) : Ext S w w' := ⟨fun _ _ => by rw [e], fun k c t h => ⟨c, by rw [e]; exact h, rfl⟩, fun _ _ _ h => by rw [e]; exact h⟩
theorem HR.of_heap (H : HR P C S w B h) (e : w'.heap = w.heap) : HR P C S w' B h := H.mono (fun _ _ h => h) (Ext.of_heap e) (by rw [e]; exact dO _) (fun _ _ _ _ _ _ => by rw [e])
theorem Z7s {sz : Nat} {rows ys : List (List A)} {len : Nat} (hl : len <= rows.length) (h1 : ∀ (i : Nat) (row : List A), rows[i]? = some row -> row.length = sz /\ Zi row = true)
 (h2 : ∀ (i : Nat) (row : List A), ys[i]? = some row -> row.length = sz /\ Zi row = true) (i : Nat) (row : List A) (e : (rows.take len ++ ys)[i]? = some row) : row.length = sz /\ Zi row = true := by
 rcases Z99 hl i row e with ⟨_, e⟩ | ⟨_, e⟩
 . exact h1 _ _ e
 . exact h2 _ _ e
theorem Zhl {bx : Bool} (H : HR P C S w B h) (hB : B <= w.heap.size) {t tx ty e m len c n : Nat} {base : Option Addr} {x : Value} {i : TypeInfo} {z : Value} {blk : Blk} {ys : List (List A)} {olds news : List Value}
 (hf : C m = none) (ht : P.underlying t = some (.slice e)) (hi : P.info? e = some i) (hz : i.zero = some z) (hzs : z.cells.size = i.size) (hsz : i.size = P.cellsOf e) (hpos : 0 < P.cellsOf e) (hbytes : i.bytes <= 2048)
 (hbty : blk.ty = e) (hown : blk.own = true) (hlen : len <= blk.rows.length)
 (hrow : ∀ (i : Nat) (row : List A), blk.rows[i]? = some row -> row.length = P.cellsOf e /\ Zi row = true)
 (hrowy : ∀ (i : Nat) (row : List A), ys[i]? = some row -> row.length = P.cellsOf e /\ Zi row = true)
 (hn : ys.length = n) (hbig : len + n <= big) (hg : c < len + n)
 (hol : olds.length = len * i.size)
 (hold : (Builtin.firstCells i.size len (.slice base len c)).run P w.drew = .ok olds.toArray w.drew)
 (ho : ∀ (i : Nat) (row : List A) (j : Nat) (x : A), i < len -> blk.rows[i]? = some row -> row[j]? = some x -> ∃ y, olds[i * P.cellsOf e + j]? = some y /\ R P (inR bx C) S w x y)
 (hs : Src P i.size tx x n news w)
 (hnew : ∀ (i : Nat) (row : List A) (j : Nat) (x : A), ys[i]? = some row -> row[j]? = some x -> ∃ v, news[i * P.cellsOf e + j]? = some v /\ R P (inR bx C) S w x v) (b : Nat) :
 ∃ v w', (Builtin.append_ #[t, tx] ty #[.slice base len c, x]).run P w = .ok v w' /\
  Eff P B C S w (X1 m 1) (upd (upd h b none) m (some { blk with rows := blk.rows.take len ++ ys, box := bx })) (.ref e m 0 (len + n) (len + n) false) v w' := by
 have j9 : len + n <= 68719476736 := hbig
 have j5 : Builtin.nextslicecap (len + n) c <= 2 * (len + n) := Room.nextslicecap_le' hg
 have j2 : Builtin.nextslicecap (len + n) c * i.bytes <= 281474976710656 := by
  have : Builtin.nextslicecap (len + n) c * i.bytes <= (2 * 68719476736) * 2048 := Nat.mul_le_mul (by omega) hbytes
  omega
 have j0 := run_append_grow_src (P := P) w t tx ty e i z ht hi hz base len c olds hold x n news hs hg (by omega) j2
 generalize hcap : grownCap w (len + n) c e = gc at j0
 have j4 : len + n <= gc := by rw [<- hcap]; exact grownCap_ge w _ _ _
 generalize hcs : ((olds ++ news).toArray ++ Builtin.zeroCells z.cells (gc - (len + n))) = cs at j0
 have j1 : cs.size = gc * P.cellsOf e := by
  rw [<- hcs]
  have h1 := hs.newsLen
  simp only [Array.size_append, List.size_toArray, size_zeroCells, eE, hol, h1, hzs, hsz]
  rw [<- dL, <- dL]
  congr 1
  omega
 have H1 := (H.of_heap (w' := w.drew) rfl).kill b
 have j7 : ∀ q x y, R P q S w x y -> R P q S w.drew x y := fun q x y r => R.mono (w := w) (w' := w.drew) (fun _ _ h => h) (fun _ h => h) (Ext.of_heap (w := w) (w' := w.drew) rfl) r
 have j3 := hs.newsLen
 have j8 : ∀ q, q < len * P.cellsOf e -> cs[q]? = olds.toArray[q]? := by
  intro q hq
  rw [<- hcs, fX (by simp [hol, hsz, j3]; omega)]
  simp only [gM]
  rw [dZ (by rw [hol, hsz]; exact hq)]
 have j6 : ∀ q, q < n * P.cellsOf e -> cs[len * P.cellsOf e + q]? = news[q]? := by
  intro q hq
  rw [<- hcs, fX (by simp [hol, hsz, j3]; omega)]
  simp only [gM]
  rw [eA (by rw [hol, hsz]; omega), hol, hsz]
  congr 1
  omega
 subst hbty
 obtain ⟨H2, M2⟩ := H1.make (b := m) hf hB { blk with rows := blk.rows.take len ++ ys, box := bx } cs hown (Z7s hlen hrow hrowy)
  (by
   show (blk.rows.take len ++ ys).length * P.cellsOf blk.ty <= cs.size
   rw [j1]
   refine cZ _ ?_
   simp
   omega)
  (fun q row j a h1 h2 => by
   show ∃ y, cs[q * P.cellsOf blk.ty + j]? = some y /\ R P (inR bx C) S w.drew a y
   have hlt : (blk.rows.take len).length = len := by simp; omega
   have := Zqh (P := P) (C0 := inR bx C) (S := S) (w := w) (c := olds.toArray) (c' := cs) (rows := blk.rows.take len) (ys := ys) (len := len) (news := news) hpos (by omega) hn (by rw [j3, hsz])
    (fun i row e => by rw [dB] at e; split at e; exact (hrow _ _ e).1; cases e) (fun i row e => (hrowy _ _ e).1)
    (fun i row j x e1 e2 => by
     rw [dB] at e1
     split at e1
     . obtain ⟨y, hy, hr⟩ := ho i row j x ‹_› e1 e2; exact ⟨y, by simpa using hy, hr⟩
     . cases e1)
    hnew j8 j6 q row j a (by rw [List.take_take, Nat.min_self]; exact h1) h2
   obtain ⟨y, hy, hr⟩ := this
   exact ⟨y, hy, j7 _ _ _ hr⟩)
 have M0 : Mv B C S w C S w.drew (fun _ => False) := ⟨fun _ _ h => h, fun _ h => h, Ext.of_heap rfl, (Below.refl B w).drew, fun _ h _ => h, fun _ h => .inl h⟩
 refine ⟨_, _, j0, ⟨_, _, (M0.trans0 M2).wide (fun b hb => by simp only [X1]; omega), H2, ?_⟩⟩
 refine .ref blk.ty m 0 (len + n) (len + n) false w.heap.size (P.cellsOf blk.ty) gc _ (Yv _ _) rfl j4 (fun h => by cases h) (fun _ => by simp) j4 ⟨cs, blk.ty, Z5m w.drew _, ?_⟩
 rw [j1]; simp
theorem Y4x {bx : Bool} (H : HR P C S w B h) {b : Nat} {blk : Blk} {k sz len c : Nat} {ad : Option Addr} (hblk : h b = some blk) (hb : C b = some (some (k, sz))) (hbox : imp blk.box bx = true) (hlen : len <= blk.rows.length)
 (ha : 0 < c -> ad = some ⟨k, 0 * sz, none⟩) (hlc : len <= c) :
 ∃ olds : List Value, olds.length = len * sz /\ (∀ w' : World, w'.heap = w.heap -> (Builtin.firstCells sz len (.slice ad len c)).run P w' = .ok olds.toArray w') /\
  ∀ (i : Nat) (row : List A) (j : Nat) (x : A), i < len -> blk.rows[i]? = some row -> row[j]? = some x -> ∃ y, olds[i * sz + j]? = some y /\ R P (inR bx C) S w x y := by
 have hB := H.at_of hblk hb
 obtain ⟨cs, j5, hs, j1⟩ := hB.heap
 have j3 : Stands P (inR bx C) S w sz (blk.rows.take len) ad := by
  refine ⟨fun i row e => ?_, fun i row j x e1 e2 => ?_⟩
  . rw [dB] at e
    split at e
    . exact hB.rows _ _ e
    . cases e
  . rw [dB] at e1
    split at e1
    . obtain ⟨y, hy, hr⟩ := j1 i row j x e1 e2
      refine ⟨k, 0 * sz, y, ha (by omega), ?_, hr.mono (Zi8 hbox) (fun _ h => h) (Ext.refl _ _)⟩
      simp [World.cell?, j5, hy]
    . cases e1
 obtain ⟨vs, hl, j0, j2⟩ := j3.load c
 have j4 : (blk.rows.take len).length = len := by simp; omega
 rw [j4] at hl j0
 exact ⟨vs, hl, fun w' e => j0 len w' e, fun i row j x hi e1 e2 => j2 i row j x (by rw [dB, if_pos hi]; exact e1) e2⟩
set_option maxHeartbeats 2000000 in
theorem Zhi {bx : Bool} {U U' : St} (H : HR P C S w B U.h) (hB : B <= w.heap.size) {d nm t tx ty e : Nat} {sv xv : A} {s x : Value} {ys : List (List A)} (rs : R P C S w sv s) (rx : R P C S w xv x)
 (hys : Zae bx e U.h xv = some ys) (hf : C (U.n + nm) = none) (ok : Zmb P t tx e = true) (eq : Zoy bx U d nm e ys sv = some U') :
 ∃ v w', (Builtin.append_ #[t, tx] ty #[s, x]).run P w = .ok v w' /\ ∃ u, U' = { U with s := upd U.s d u, h := U'.h } /\ Eff P B C S w (X1 (U.n + nm) 1) U'.h u v w' := by
 simp only [Zmb, dQ, eJ] at ok
 obtain ⟨⟨⟨o1, o2⟩, je⟩, o4⟩ := ok
 have ht := X7 o1
 split at o2
 . rename_i e' k5
   split at o4
   . rename_i i hi
     simp only [dQ, eJ] at o4
     obtain ⟨j9, o5⟩ := o4
     split at o5
     . rename_i z hz
       have k1 : z.cells.size = i.size := by simpa using o5
       have jg : i.size = P.cellsOf e := by simp [Program.cellsOf, hi]
       obtain ⟨ad, jo, rfl, k0, jn⟩ := Zdo H hys rx
       obtain ⟨news, hs, jf⟩ := jn.src (cap := jo) je k5
       have jh := hs.newsLen
       rw [<- jg] at hs
       unfold Zoy at eq
       split at eq
       . rename_i ty' b len cap ex
         obtain ⟨blk, j6, j0⟩ := Z6 eq
         clear eq
         split at j0
         . rename_i hc
           obtain ⟨jc, jd, jw, rfl, j2, jp⟩ := hc
           subst jw
           generalize hm : U.n + nm = m at *
           cases rs with
           | ref ty'' b' off' len' cap' ex' k sz c a hb hty hcap hex ha hlc hk =>
             have j3 := H.at_of j6 hb
             obtain ⟨cs, jj, jq, j4⟩ := j3.heap
             obtain ⟨cs2, t2, ji, jm⟩ := hk
             rw [jj] at ji
             simp only [dM, Obj.cells.injEq, and_true] at ji
             obtain ⟨rfl, rfl⟩ := ji
             rw [dF] at jm
             obtain ⟨olds, k3, jx, ho⟩ := Y4x H j6 hb jd j2 ha hlc
             have jl : ∀ (i : Nat) (row : List A), blk.rows[i]? = some row -> row.length = P.cellsOf blk.ty /\ Zi row = true := fun i row e => by rw [<- hty]; exact j3.rows i row e
             by_cases hroom : len + ys.length <= c
             . -- written in place
               have key : ∃ w', (Builtin.append_ #[t, tx] ty #[.slice a len c, .slice ad ys.length jo]).run P w = .ok (.slice a (len + ys.length) c) w' /\ Wrote w w' k (len * sz) news := by
                by_cases hn : ys.length = 0
                . have j5 : news = [] := dA (by rw [jh, hn]; simp)
                  subst j5
                  rw [hn] at hs ⊢
                  exact ⟨w, run_append_nothing w t tx ty _ i ht hi a len c hlc _ hs, V1 (w := w) [] jj (fun v h => by simp at h) (by simp; exact eI (cZ _ j2) jq)⟩
                . have k2 : 0 < c := by omega
                  have k9 := ha k2
                  subst k9
                  have k4 : len * sz + news.length <= cs.size := by
                   rw [jh, <- hty, <- dL]
                   exact eI (cZ _ hroom) jm
                  have j1 := run_append_room_src (P := P) w t tx ty _ i ht hi k (0 * sz) len c _ _ news hs hroom
                   (fun j hj => by rw [jg, <- hty, gV, dF]; simp only [World.cell?, jj]; rw [eR (by omega)]; rfl)
                   (fun j hj => by simp [World.frozen?, jj])
                  rw [jg, <- hty, gV, dF] at j1
                  rw [gV]
                  exact ⟨_, j1, V1 news jj hs.one k4⟩
               obtain ⟨w', j1, hw⟩ := key
               have j8 : Ext S w w' := hw.ext (j3.own jc) ⟨_, _, jj⟩
               obtain ⟨c', jt, jr, hg⟩ := hw.here _ _ jj
               have ju : ∀ q x y, R P q S w x y -> R P q S w' x y := fun q x y r => R.mono (fun _ _ h => h) (fun _ h => h) j8 r
               have j7 : ∀ (i : Nat) (row : List A) (j : Nat) (x : A), (blk.rows.take len ++ ys)[i]? = some row -> row[j]? = some x -> ∃ y, c'[i * sz + j]? = some y /\ R P (inR bx C) S w x y := by
                refine Zqh (c := cs) (by omega) j2 rfl (by rw [jh, hty]) (fun i row e => (j3.rows i row e).1) (fun i row e => by rw [hty]; exact (jn.len i row e).1) (fun i row j x e1 e2 => by obtain ⟨y, hy, hr⟩ := j4 i row j x e1 e2; exact ⟨y, hy, hr.mono (Zi8 jd) (fun _ h => h) (Ext.refl _ _)⟩) (fun i row j x e1 e2 => by rw [hty]; exact jf i row j x e1 e2) (fun q hq => ?_) (fun q hq => ?_)
                . rw [hg, if_neg (by omega)]
                . rw [hg, if_pos (by rw [jh, <- hty]; omega)]
                  congr 1
                  omega
               split at j0
               . rename_i jv
                 subst jv
                 simp only [dM] at j0
                 have jz : BR P C S w' B { blk with rows := blk.rows.take cap ++ ys, box := if ys.length = 0 then blk.box else bx } k sz := by
                  refine ⟨j3.sz_eq, j3.base, j3.own, j3.not_own, fun i row e => by rw [hty]; exact Z7s j2 jl jn.len i row e, c', jt, ?_, fun i row j x e1 e2 => ?_⟩
                  . show (blk.rows.take cap ++ ys).length * sz <= c'.size
                    rw [jr]
                    refine eI (cZ _ ?_) jm
                    simp
                    omega
                  . by_cases hn0 : ys.length = 0
                    . have kb : ys = [] := dA hn0
                      subst kb
                      have jb : news = [] := dA (by rw [jh]; simp)
                      subst jb
                      change ((blk.rows.take cap ++ [])[i]? = some row) at e1
                      rw [fD, dB] at e1
                      split at e1
                      . obtain ⟨y, hy, hr⟩ := j4 i row j x e1 e2
                        refine ⟨y, ?_, ?_⟩
                        . rw [hg, if_neg (by simp)]; exact hy
                        . show R P (inR (if ([] : List (List A)).length = 0 then blk.box else bx) C) S w' x y
                          simp only [eG, if_true]; exact ju _ _ _ hr
                      . cases e1
                    . obtain ⟨y, hy, hr⟩ := j7 i row j x e1 e2
                      refine ⟨y, hy, ?_⟩
                      show R P (inR (if ys.length = 0 then blk.box else bx) C) S w' x y
                      rw [if_neg hn0]; exact ju _ _ _ hr
                 have H2 := H.adopt j6 hb hf j8 (by rw [hw.size]; exact dO _) (fun q hq _ => hw.other q hq) jz
                 refine ⟨_, _, j1, .ref blk.ty m 0 (cap + ys.length) (cap + ys.length) false, ?_, ⟨Zja C m (some (k, sz)), S, ⟨Zcr hf, fun _ h => h, j8, hw.below j3.base, fun q hq hn => by rw [Z2k (by simp only [X1] at hn; omega)]; exact hq, fun _ h => .inl h⟩, ?_, ?_⟩⟩
                 . subst j0; rfl
                 . subst j0; exact H2
                 . exact .ref blk.ty m 0 (cap + ys.length) (cap + ys.length) false k sz c a (Yv _ _) hty hroom (fun h => by cases h) ha hroom ⟨c', blk.ty, jt, by rw [jr, dF]; exact jm⟩
               . rename_i jv
                 split at j0
                 . rename_i k8
                   simp only [dM] at j0
                   have jz : BR P C S w' B { blk with rows := blk.rows.take len ++ ys ++ blk.rows.drop (len + ys.length), box := bx } k sz := by
                    have ja : (blk.rows.take len ++ ys).length = len + ys.length := by simp; omega
                    refine ⟨j3.sz_eq, j3.base, j3.own, j3.not_own, fun i row e => ?_, c', jt, ?_, fun i row j x e1 e2 => ?_⟩
                    . change ((blk.rows.take len ++ ys) ++ blk.rows.drop (len + ys.length))[i]? = some row at e
                      by_cases js : i < len + ys.length
                      . rw [dZ (by omega)] at e
                        rw [hty]; exact Z7s j2 jl jn.len i row e
                      . rw [eA (by omega), eX] at e
                        exact j3.rows _ row e
                    . show ((blk.rows.take len ++ ys) ++ blk.rows.drop (len + ys.length)).length * sz <= c'.size
                      rw [jr, eE, ja, gB]
                      rcases Nat.le_total blk.rows.length (len + ys.length) with ka | ka
                      . refine eI (cZ _ ?_) jm; omega
                      . refine eI (cZ _ ?_) jq; omega
                    . change ((blk.rows.take len ++ ys) ++ blk.rows.drop (len + ys.length))[i]? = some row at e1
                      by_cases js : i < len + ys.length
                      . rw [dZ (by omega)] at e1
                        obtain ⟨y, hy, hr⟩ := j7 i row j x e1 e2
                        exact ⟨y, hy, ju _ _ _ hr⟩
                      . rw [eA (by omega), eX, ja, show len + ys.length + (i - (len + ys.length)) = i by omega] at e1
                        obtain ⟨y, hy, hr⟩ := j4 i row j x e1 e2
                        refine ⟨y, ?_, (ju _ _ _ hr).mono (Zi8 jd) (fun _ h => h) (Ext.refl _ _)⟩
                        rw [hg, if_neg]
                        . exact hy
                        . have : (len + ys.length) * sz <= i * sz := cZ _ (by omega)
                          rw [dL] at this
                          rw [jh, <- hty]
                          omega
                   have H2 := H.put j6 hb j8 (by rw [hw.size]; exact dO _) (fun q hq _ => hw.other q hq) jz
                   refine ⟨_, _, j1, .ref blk.ty b 0 (len + ys.length) cap ex, ?_, ⟨_, S, ⟨fun _ _ h => h, fun _ h => h, j8, hw.below j3.base, fun q hq hn => hq, fun _ h => .inl h⟩, ?_, ?_⟩⟩
                   . subst j0; rfl
                   . subst j0; exact H2
                   . exact .ref blk.ty b 0 (len + ys.length) cap ex k sz c a hb hty hcap hex ha hroom ⟨c', blk.ty, jt, by rw [jr, dF]; exact jm⟩
                 . cases j0
             . -- grown
               have jv : cap = len := by
                split at j0
                . rename_i h1; exact h1
                . split at j0
                  . rename_i h1 h2; omega
                  . cases j0
               rw [if_pos jv, if_neg (show ¬ ys.length = 0 by omega)] at j0
               simp only [dM] at j0
               obtain ⟨v, w', j1, hE⟩ := Zhl (P := P) (ty := ty) H hB (base := a) (c := c) (n := ys.length) (len := len) hf ht hi hz k1 jg je j9 rfl jc j2 jl jn.len rfl jp (by omega)
                (by rw [k3, jg, hty]) (by rw [jg, <- hty]; exact jx _ rfl) (fun i row j x js e1 e2 => by rw [<- hty]; exact ho i row j x js e1 e2) hs jf b
               refine ⟨v, w', j1, .ref blk.ty m 0 (len + ys.length) (len + ys.length) false, ?_, ?_⟩
               . subst j0; rfl
               . subst j0; exact hE
           | nil ty'' b' ex' hb =>
             have jy : blk.rows = [] /\ blk.box = false := by
              rcases H.at_ b blk j6 with ⟨k, sz, h', _⟩ | ⟨_, h', k6⟩
              . rw [hb] at h'; cases h'
              . exact ⟨h', k6⟩
             obtain ⟨jy, k7⟩ := jy
             rw [if_pos rfl] at j0
             simp only [dM] at j0
             by_cases hn : ys.length = 0
             . have hy : ys = [] := dA hn
               subst hy
               have j5 : news = [] := dA (by rw [jh]; simp)
               subst j5
               have j1 := run_append_nothing (P := P) w t tx ty _ i ht hi none 0 0 (dO _) _ hs
               obtain ⟨H2, M2⟩ := (H.kill b).none_ hf blk.ty
               refine ⟨_, _, j1, .ref blk.ty m 0 0 0 false, ?_, ⟨_, S, M2.wide (fun q hq => by simp only [X1]; omega), ?_, .nil blk.ty m false (Yv _ _)⟩⟩
               . subst j0; rfl
               . subst j0; rw [show ({ blk with rows := blk.rows.take 0 ++ [], box := if ([] : List (List A)).length = 0 then blk.box else bx } : Blk) = ⟨blk.ty, [], true, false⟩ by cases blk; simp_all]; exact H2
             . rw [if_neg hn] at j0
               obtain ⟨v, w', j1, hE⟩ := Zhl (P := P) (ty := ty) H hB (base := none) (len := 0) (c := 0) (n := ys.length) (olds := []) hf ht hi hz k1 jg je j9 rfl jc j2
                (fun i row e => by rw [jy] at e; simp at e) jn.len rfl jp (by omega) (by simp) (run_firstCells_none w.drew _ _ _ _) (fun i row j x js => by omega) hs jf b
               refine ⟨v, w', j1, .ref blk.ty m 0 (0 + ys.length) (0 + ys.length) false, ?_, ?_⟩
               . subst j0; rfl
               . subst j0; exact hE
         . cases j0
       . cases eq
     . cases o5
   . cases o4
 . cases o2
theorem Y5i {U U' : St} {d nm e : Nat} {ys : List (List A)} {sv : A} (eq : Zr4 U d nm e ys sv = some U') : Zoy false U d nm e ys sv = some U' := by
 unfold Zr4 at eq
 split at eq
 . rename_i ty b len cap ex
   obtain ⟨k, hk, e1⟩ := Z6 eq
   simp only [Zoy, hk, bnd]
   split at e1
   . rename_i hc
     obtain ⟨c1, c2, c3, c4, c5, c6⟩ := hc
     have j0 : ∀ rows, ({ k with rows := rows, box := false } : Blk) = { k with rows := rows } := fun rows => by rw [<- c2]
     rw [if_pos ⟨c1, by rw [c2]; rfl, c3, c4, c5, c6⟩]
     simp only [c2, ite_self, j0, and_true]
     exact e1
   . cases e1
 . cases eq
theorem Zn1 {U U' : St} (H : HR P C S w B U.h) (hB : B <= w.heap.size) {d nm t tx ty e : Nat} {sv xv : A} {s x : Value} {ys : List (List A)} (rs : R P C S w sv s) (rx : R P C S w xv x)
 (hys : rowsOf e U.h xv = some ys) (hf : C (U.n + nm) = none) (ok : Zmb P t tx e = true) (eq : Zr4 U d nm e ys sv = some U') :
 ∃ v w', (Builtin.append_ #[t, tx] ty #[s, x]).run P w = .ok v w' /\ ∃ u, U' = { U with s := upd U.s d u, h := U'.h } /\ Eff P B C S w (X1 (U.n + nm) 1) U'.h u v w' :=
 Zhi H hB rs rx (Zr7 hys) hf ok (Y5i eq)
theorem Y0o {a : A} {n : Nat} {x : Value} (e : Yas a = some n) (r : R P C S w a x) : ∃ k, x = .int k (n : Int) := by
 unfold Yas at e
 split at e
 . rename_i k i
   split at e
   . simp only [dM] at e
     refine ⟨k, ?_⟩
     rw [(R.v_inv r).1]
     congr 1
     omega
   . cases e
 . cases e
theorem Zdn (k : IntKind) (n y : Nat) (code : BoundsCode) (h : n <= y) : (Instr.sliceBound (.int k (n : Int)) y code).run P w = .ok n w := by
 have h0 : (0 : Int) <= (n : Int) /\ (n : Int) <= (y : Int) := by omega
 simp [Instr.sliceBound, asIntOf, h0]
theorem Zh1 (isSlice : Bool) (len cap l h m : Nat) (lo hi mx : Option Value)
    (hlo : (lo = none /\ l = 0) \/ ∃ k, lo = some (.int k (l : Int))) (hhi : (hi = none /\ h = len /\ mx = none) \/ ∃ k, hi = some (.int k (h : Int))) (hmx : (mx = none /\ m = cap) \/ ∃ k, mx = some (.int k (m : Int)))
    (h1 : l <= h) (h2 : h <= m) (h3 : m <= cap) : (Instr.sliceBounds isSlice len cap lo hi mx).run P w = .ok (l, h, m) w := by
  rcases hmx with ⟨rfl, rfl⟩ | ⟨km, rfl⟩ <;> rcases hhi with ⟨rfl, rfl, h'⟩ | ⟨kh, rfl⟩ <;> rcases hlo with ⟨rfl, rfl⟩ | ⟨kl, rfl⟩ <;>
    first
      | (cases h'; done)
      | simp [Instr.sliceBounds, Zdn _ _ _ _ h1, Zdn _ _ _ _ h2, Zdn _ _ _ _ h3]
theorem Ziz {U : St} {ev' : Operand -> Value} (hget : ∀ x y, Yx x y = true -> R P C S w (ev U y) (ev' x)) {x : Option Operand} {y : Option Opd} {z n : Nat} (ok : Zjd x y = true) (e : Zle U y z = some n) :
 (x.map ev' = none /\ n = z /\ y = none) \/ (∃ k, x.map ev' = some (.int k (n : Int)) /\ y.isSome = true) := by
 cases x <;> cases y <;> simp only [Zjd, eH] at ok
 . simp only [Zle, dM] at e
   exact .inl ⟨rfl, e.symm, rfl⟩
 . rename_i x y
   obtain ⟨k, hk⟩ := Y0o e (hget x y ok)
   exact .inr ⟨k, by simp [hk], rfl⟩
def Ycj (P : Program) (t : TypeId) (e : Option Nat) (hi mx : Option Opd) : Bool :=
 (hi.isSome || mx.isNone) && (match e with
  | some e => Z82 P t e && (P.info? e).isSome
  | none => Y29 P t)
theorem Zzq {U : St} {ev' : Operand -> Value} (hget : ∀ x y, Yx x y = true -> R P C S w (ev U y) (ev' x)) {t : TypeId} {e : Option Nat} {lo hi mx : Option Operand} {lo' hi' mx' : Option Opd}
 (olo : Zjd lo lo' = true) (ohi : Zjd hi hi' = true) (omx : Zjd mx mx' = true) (ok : Ycj P t e hi' mx' = true) {a u : A} {x : Value} (ra : R P C S w a x) (eq : Z8c U e lo' hi' mx' a = some u) :
 ∃ v, (Instr.sliceAt t x (lo.map ev') (hi.map ev') (mx.map ev')).run P w = .ok v w /\ R P C S w u v := by
 simp only [Ycj, dQ, fN] at ok
 obtain ⟨jd, j3⟩ := ok
 have j0 : ∀ (isS : Bool) (len cap zl zm l h m c : Nat), Zle U lo' 0 = some l -> Zle U hi' len = some h -> Zle U mx' zm = some m -> zm <= c -> l <= h -> h <= m -> m <= zm -> cap = c ->
  ∃ m', (Instr.sliceBounds isS len cap (lo.map ev') (hi.map ev') (mx.map ev')).run P w = .ok (l, h, m') w /\ m <= m' /\ m' <= c /\ (mx'.isSome = true -> m' = m) /\ (mx'.isSome = false -> m' = c /\ m = zm) := by
  intro isS len cap zl zm l h m c e1 e2 e3 jf h1 h2 h3 j4
  subst j4
  have i1 := Ziz hget olo e1
  have i2 := Ziz hget ohi e2
  have i3 := Ziz hget omx e3
  rcases i3 with ⟨x3, rfl, y3⟩ | ⟨k3, x3, y3⟩
  . refine ⟨cap, ?_, by omega, dO _, by simp [y3], fun _ => ⟨rfl, rfl⟩⟩
    refine Zh1 isS len cap l h cap _ _ _ ?_ ?_ (.inl ⟨x3, rfl⟩) h1 (by omega) (dO _)
    . rcases i1 with ⟨p, q, _⟩ | ⟨k, p, _⟩
      . exact .inl ⟨p, q⟩
      . exact .inr ⟨k, p⟩
    . rcases i2 with ⟨p, q, _⟩ | ⟨k, p, _⟩
      . exact .inl ⟨p, q, x3⟩
      . exact .inr ⟨k, p⟩
  . refine ⟨m, ?_, dO _, by omega, fun _ => rfl, by simp [y3]⟩
    refine Zh1 isS len cap l h m _ _ _ ?_ ?_ (.inr ⟨k3, x3⟩) h1 h2 (by omega)
    . rcases i1 with ⟨p, q, _⟩ | ⟨k, p, _⟩
      . exact .inl ⟨p, q⟩
      . exact .inr ⟨k, p⟩
    . rcases i2 with ⟨p, q, y2⟩ | ⟨k, p, _⟩
      . subst y2
        rcases jd with h' | h'
        . cases h'
        . cases mx' <;> simp_all
      . exact .inr ⟨k, p⟩
 cases ra with
 | v x hy =>
   cases x <;> try (simp [Z8c] at eq; done)
   rename_i s
   obtain ⟨l, hl, j6⟩ := Z6 eq
   obtain ⟨hh, jb, j5⟩ := Z6 j6
   split at j5
   . rename_i hc
     obtain ⟨rfl, jg, h1, h2⟩ := hc
     simp only [dM] at j5
     subst j5
     have hu : P.underlying t = some .string := by
      have j3 : Y29 P t = true := j3
      unfold Y29 at j3
      split at j3
      . assumption
      . cases j3
     have hm : mx' = none := by cases mx' <;> simp_all
     subst hm
     have ja : mx = none := by cases mx <;> simp_all [Zjd]
     subst ja
     obtain ⟨m', j1, _⟩ := j0 false s.size s.size 0 s.size l hh s.size s.size hl jb rfl (dO _) h1 h2 (dO _) rfl
     refine ⟨.string (s.extract l hh), ?_, .v _ rfl⟩
     simp only [Option.map_none] at j1
     simp [Instr.sliceAt, Instr.slice, run_underlying hu, j1]
   . cases j5
 | lit ty rows ad cap Y j4 hl hc hr =>
   obtain ⟨l, h1, j6⟩ := Z6 eq
   obtain ⟨hh, h2, j5⟩ := Z6 j6
   obtain ⟨m, h3, j2⟩ := Z6 j5
   split at j2
   . rename_i j7
     obtain ⟨rfl, c1, c2, c3⟩ := j7
     simp only [dM] at j2
     subst j2
     simp only [dQ] at j3
     obtain ⟨i, hi⟩ := eW.1 j3.2
     obtain ⟨m', j1, b1, b2, b3, b4⟩ := j0 true rows.length cap 0 rows.length l hh m cap h1 h2 h3 j4 c1 c2 c3 rfl
     have hu := X7 j3.1
     refine ⟨.slice (if m' = l then ad else ad.map (·.add (l * P.cellsOf ty))) (hh - l) (m' - l), ?_, ?_⟩
     . simp [Instr.sliceAt, Instr.slice, run_underlying hu, j1, run_sizeOf _ hi]
     . have j8 : ((rows.take hh).drop l).length = hh - l := by simp; omega
       have hget : ∀ (i : Nat) (row : List A), ((rows.take hh).drop l)[i]? = some row -> l + i < hh /\ rows[l + i]? = some row := by
        intro i row e
        rw [eX, dB] at e
        split at e
        . exact ⟨‹_›, e⟩
        . cases e
       rw [<- j8]
       refine .lit ty _ _ (m' - l) (fun i j => Y (l + i) j) (by omega) (fun i row e => hl _ _ (hget i row e).2) (fun i row j x e1 e2 => ?_) (fun i row j x e1 e2 => hr _ _ _ _ (hget i row e1).2 e2)
       obtain ⟨hlt, e3⟩ := hget i row e1
       obtain ⟨k, off, ea, hk, j9⟩ := hc _ _ _ _ e3 e2
       refine ⟨k, off + l * P.cellsOf ty, by rw [if_neg (by omega), ea]; simp [Z08], hk, ?_⟩
       rw [<- j9]
       congr 2
       rw [dL]
       omega
   . cases j2
 | ref ty b off len cap ex k sz c ad hb hty j4 hex ha j8 hk =>
   obtain ⟨l, h1, j6⟩ := Z6 eq
   obtain ⟨hh, h2, j5⟩ := Z6 j6
   obtain ⟨m, h3, j2⟩ := Z6 j5
   split at j2
   . rename_i j7
     obtain ⟨rfl, c1, c2, c3⟩ := j7
     simp only [dM] at j2
     subst j2
     simp only [dQ] at j3
     obtain ⟨i, hi⟩ := eW.1 j3.2
     obtain ⟨m', j1, b1, b2, b3, b4⟩ := j0 true len c 0 cap l hh m c h1 h2 h3 j4 c1 c2 c3 rfl
     have hu := X7 j3.1
     refine ⟨.slice (if m' = l then ad else ad.map (·.add (l * P.cellsOf ty))) (hh - l) (m' - l), ?_, ?_⟩
     . simp [Instr.sliceAt, Instr.slice, run_underlying hu, j1, run_sizeOf _ hi]
     . obtain ⟨cs, t', je, jc⟩ := hk
       refine .ref ty b (off + l) (hh - l) (m - l) (ex || mx'.isSome) k sz (m' - l) _ hb hty (by omega) (fun hx => ?_) (fun hp => ?_) (by omega) ⟨cs, t', je, ?_⟩
       . rcases Bool.or_eq_true_iff.1 hx with h' | h'
         . have := hex h'
           cases hm : mx'.isSome with
           | true => rw [b3 hm]
           | false => have := b4 hm; omega
         . rw [b3 h']
       . rw [if_neg (by omega), ha (by omega)]
         simp [Z08, hty, dL]
       . refine eI (cZ _ ?_) jc
         omega
   . cases j2
 | nil ty b ex hb =>
   obtain ⟨l, h1, j6⟩ := Z6 eq
   obtain ⟨hh, h2, j5⟩ := Z6 j6
   obtain ⟨m, h3, j2⟩ := Z6 j5
   split at j2
   . rename_i j7
     obtain ⟨rfl, c1, c2, c3⟩ := j7
     simp only [dM] at j2
     subst j2
     simp only [dQ] at j3
     obtain ⟨i, hi⟩ := eW.1 j3.2
     obtain ⟨m', j1, b1, b2, b3, b4⟩ := j0 true 0 0 0 0 l hh m 0 h1 h2 h3 (dO _) c1 c2 c3 rfl
     have hu := X7 j3.1
     have e1 : l = 0 := by omega
     have e2 : hh = 0 := by omega
     have e3 : m = 0 := by omega
     have e4 : m' = 0 := by omega
     subst e1; subst e2; subst e3; subst e4
     refine ⟨.slice none 0 0, ?_, .nil ty b _ hb⟩
     simp [Instr.sliceAt, Instr.slice, run_underlying hu, j1, run_sizeOf _ hi]
   . cases j2
 | _ => simp [Z8c] at eq
theorem Za4 {U : St} {ev' : Operand -> Value} (hget : ∀ x y, Yx x y = true -> R P C S w (ev U y) (ev' x)) : ∀ {xs : List Operand} {ys : List Opd}, Z06 xs ys = true -> RL P C S w (evs U ys) (xs.map ev')
 | [], [], _ => .nil
 | [], _ :: _, e => by simp [Z06] at e
 | _ :: _, [], e => by simp [Z06] at e
 | x :: xs, y :: ys, e => by
   simp only [Z06, dQ] at e
   exact .cons (hget x y e.1) (Za4 hget e.2)
theorem Zum {U : St} {ev' : Operand -> Value} (hget : ∀ x y, Yx x y = true -> R P C S w (ev U y) (ev' x)) {f : Nat} {xs : List Operand} {ys : List Opd} (ok : Z06 xs ys = true) (hp : Wg (evs U ys) = true) :
 R P C S w (.fn f (evs U ys)) (.func (.func f) #[] (xs.map ev').toArray) :=
 .fn f _ _ hp (Za4 hget ok).len (Za4 hget ok).at_
def Y4w (P : Program) (t e : TypeId) (zs : List A) : Bool := Z82 P t e && Zcz P e zs && decide (0 < zs.length)
theorem Zu5 {U U' : St} (H : HR P C S w B U.h) {t ty e : Nat} {zs : List A} {a : A} {x : Value} (ra : R P C S w a x) (ok : Y4w P t e zs = true) (eq : Y3a U e zs a = some U') :
 ∃ w', (Builtin.clear_ #[t] ty #[x]).run P w = .ok (.tuple #[]) w' /\ U' = { U with h := U'.h } /\ Eff P B C S w (fun _ => False) U'.h .und undef w' := by
 simp only [Y4w, dQ, eJ] at ok
 obtain ⟨⟨o1, o2⟩, o3⟩ := ok
 have hu := X7 o1
 obtain ⟨z, jo, je, jt, jh⟩ := Z9w o2
 unfold Y3a at eq
 split at eq
 . rename_i ty' b off len cap ex
   obtain ⟨blk, j3, j7⟩ := Z6 eq
   clear eq
   split at j7
   . rename_i hc
     obtain ⟨jc, jx, jd, jv⟩ := hc
     simp only [dM] at j7
     cases ra with
     | ref ty'' b' off' len' cap' ex' k sz c ad hb hty hcap hex ha hlc hk =>
       have j1 := H.at_of j3 hb
       obtain ⟨cs, jb, ja, j8⟩ := j1.heap
       have j6 : zs.length = sz := by rw [j1.sz_eq, jd]; exact jt
       let news := (madeCells z.cells (len * z.cells.size)).toList
       have jf : news.length = len * sz := by simp [news, size_madeCells, jh, j6]
       have r0 := Z9j (P := P) (C := inR blk.box C) (S := S) (w := w) je
       have one : ∀ v ∈ news, v.oneCell' = true := by
        intro v hv
        obtain ⟨m, hm, rfl⟩ := List.getElem_of_mem hv
        have jp : 0 < z.cells.size := by omega
        have jq : m < len * sz := by omega
        have hi : m / z.cells.size < len := Nat.div_lt_of_lt_mul (by rw [gJ, jh, j6]; exact jq)
        have hj : m % z.cells.size < z.cells.size := Nat.mod_lt _ jp
        have hg := Z4l z.cells len (m / z.cells.size) (m % z.cells.size) hj hi
        have jl : m / z.cells.size * z.cells.size + m % z.cells.size = m := by rw [gJ]; exact Nat.div_add_mod m _
        rw [jl] at hg
        have ji : m % z.cells.size < zs.length := by omega
        have hR := r0.at_ (m % z.cells.size) zs[m % z.cells.size] z.cells[m % z.cells.size] (dS ji) (by simp [hj])
        have : news[m] = z.cells[m % z.cells.size] := by
         have h1 : news[m]? = some news[m] := dS hm
         simp only [news, hJ] at h1
         rw [hg, eR hj] at h1
         exact (eM h1).symm
        rw [this]
        exact Z6w (Yz.1 (Z4s je) _ (eV ji)) hR
       have j0 : off * sz + news.length <= cs.size := by
        rw [jf, <- dL]
        exact eI (cZ _ jv) ja
       have key : ∃ w', (Builtin.clear_ #[t] ty #[.slice ad len c]).run P w = .ok (.tuple #[]) w' /\ Wrote w w' k (off * sz) news := by
        by_cases hl0 : len = 0
        . subst hl0
          have jj : news = [] := dA (by rw [jf]; simp)
          rw [jj]
          refine ⟨w, ?_, V1 (w := w) [] jb (fun v h => by simp at h) (by rw [jj] at j0; simpa using j0)⟩
          cases ad <;> simp [Builtin.clear_, run_underlying hu]
        . have jw := ha (by omega)
          subst jw
          obtain ⟨w', j2, hw⟩ := Z2s (P := P) news (off * sz) 0 w cs blk.ty jb one (by rw [fM]; exact j0)
          refine ⟨w', ?_, by rw [fM] at hw; exact hw⟩
          obtain ⟨n', rfl⟩ : ∃ n', len = n' + 1 := ⟨len - 1, by omega⟩
          have j9 : (Builtin.zeroCells z.cells (n' + 1)).toList = news := rfl
          simp [Builtin.clear_, run_underlying hu, jo, j9, j2]
       obtain ⟨w', j2, hw⟩ := key
       have j4 : Ext S w w' := hw.ext (j1.own jc) ⟨_, _, jb⟩
       obtain ⟨c', jn, jm, hg⟩ := hw.here _ _ jb
       have ju : (blk.rows.take off).length = off := by simp; omega
       have j5 : ∀ (i : Nat) (row : List A), (blk.rows.take off ++ List.replicate len zs ++ blk.rows.drop (off + len))[i]? = some row ->
        (i < off /\ blk.rows[i]? = some row) \/ (off <= i /\ i < off + len /\ row = zs) \/ (off + len <= i /\ blk.rows[i]? = some row) := by
        intro i row e
        by_cases h1 : i < off
        . rw [gO, dZ (by omega), dB, if_pos h1] at e
          exact .inl ⟨h1, e⟩
        . by_cases h2 : i < off + len
          . rw [gO, eA (by omega), ju, dZ (by simp; omega), gG, if_pos (by omega)] at e
            exact .inr (.inl ⟨by omega, h2, by simpa using e.symm⟩)
          . rw [eA (by simp; omega), eX] at e
            refine .inr (.inr ⟨by omega, ?_⟩)
            rw [<- e]
            congr 1
            simp
            omega
       have js : BR P C S w' B { blk with rows := blk.rows.take off ++ List.replicate len zs ++ blk.rows.drop (off + len) } k sz := by
        refine ⟨j1.sz_eq, j1.base, j1.own, j1.not_own, fun i row e => ?_, c', jn, ?_, fun i row j x e1 e2 => ?_⟩
        . rcases j5 i row e with ⟨_, e⟩ | ⟨_, _, rfl⟩ | ⟨_, e⟩
          . exact j1.rows _ _ e
          . exact ⟨j6, Z4s je⟩
          . exact j1.rows _ _ e
        . show (blk.rows.take off ++ List.replicate len zs ++ blk.rows.drop (off + len)).length * sz <= c'.size
          rw [jm]
          refine eI (cZ _ ?_) ja
          simp
          omega
        . have old : (i < off \/ off + len <= i) -> blk.rows[i]? = some row -> ∃ y, c'[i * sz + j]? = some y /\ R P (inR blk.box C) S w' x y := by
           intro hi e
           obtain ⟨y, hy, hr⟩ := j8 i row j x e e2
           have hj : j < sz := by rw [<- (j1.rows _ _ e).1]; exact (dU.1 e2).1
           refine ⟨y, ?_, hr.mono (fun _ _ h => h) (fun _ h => h) j4⟩
           rw [hg, if_neg]
           . exact hy
           . rcases hi with hi | hi
             . have : (i + 1) * sz <= off * sz := cZ _ hi
               rw [dL] at this
               omega
             . have : (off + len) * sz <= i * sz := cZ _ hi
               rw [dL] at this
               omega
          rcases j5 i row e1 with ⟨h1, e⟩ | ⟨h1, h2, rfl⟩ | ⟨h1, e⟩
          . exact old (.inl h1) e
          . have hj : j < row.length := (dU.1 e2).1
            have j9 : j < z.cells.size := by omega
            refine ⟨z.cells[j], ?_, (r0.at_ j x _ e2 (by simp [j9])).mono (fun _ _ h => h) (fun _ h => h) j4⟩
            have jr : off * sz <= i * sz + j /\ i * sz + j < off * sz + news.length := by
             have h3 : off * sz <= i * sz := cZ _ h1
             have h4 : (i + 1) * sz <= (off + len) * sz := cZ _ h2
             rw [dL, dL] at h4
             rw [jf]
             omega
            rw [hg, if_pos jr]
            have h5 : i * sz + j - off * sz = (i - off) * sz + j := by
             rw [Nat.sub_mul]
             have h3 : off * sz <= i * sz := cZ _ h1
             omega
            rw [h5]
            have h6 := Z4l z.cells len (i - off) j j9 (by omega)
            simp only [news, hJ]
            have h7 : z.cells.size = sz := by omega
            rw [h7] at h6 ⊢
            rw [h6, eR j9]
          . exact old (.inr h1) e
       have H2 := H.put j3 hb j4 (by rw [hw.size]; exact dO _) (fun q hq _ => hw.other q hq) js
       refine ⟨w', j2, ?_, ⟨C, S, ⟨fun _ _ h => h, fun _ h => h, j4, hw.below j1.base, fun q hq hn => hq, fun _ h => .inl h⟩, ?_, .und⟩⟩
       . subst j7; rfl
       . subst j7; exact H2
     | nil ty'' b' ex' hb =>
       have jg : blk.rows = [] := by
        rcases H.at_ b blk j3 with ⟨k, sz, h', _⟩ | ⟨_, h', _⟩
        . rw [hb] at h'; cases h'
        . exact h'
       have j2 : (Builtin.clear_ #[t] ty #[.slice none 0 0]).run P w = .ok (.tuple #[]) w := by simp [Builtin.clear_, run_underlying hu]
       refine ⟨w, j2, ?_, ⟨C, S, Mv.refl _ _ _ _ _, ?_, .und⟩⟩
       . subst j7; rfl
       . subst j7
         have : upd U.h b (some { blk with rows := blk.rows.take 0 ++ List.replicate 0 zs ++ blk.rows.drop (0 + 0) }) = U.h := by
          funext q
          unfold upd
          split
          . rename_i hq; subst hq; rw [j3]; cases blk; simp_all
          . rfl
         rw [this]
         exact H
   . cases j7
 . cases eq
def Zgw : Hp := fun _ => none
def Res (P : Program) (S : Nat -> Prop) (w : World) (rs : List A) (v : Value) (w' : World) : Prop :=
 ∃ S', (∀ k, S k -> S' k) /\ (∀ k, S' k -> S k \/ w.heap.size <= k) /\ Below w.heap.size w w' /\ Ext S w w' /\
  ∀ n, ∃ ρr, (∀ b, ¬ X1 n (Yj rs) b -> ρr b = none) /\ HR P ρr S' w' w.heap.size (Yh Zgw n rs).2 /\ R P ρr S' w' (pack (Yh Zgw n rs).1) v
def Z9f (P : Program) (F : List A -> Option (List A)) (f : Nat) : Prop :=
 ∀ (S : Nat -> Prop) (w : World) (as rs : List A) (xs : List Value), F as = some rs -> (∀ k, S k -> k < w.heap.size) -> GlobOk P S w -> RL P Yy S w as xs ->
  Calls P f xs.toArray w fun | .returned v, w' => Res P S w rs v w' | _, _ => False
def Zk6 (h g : Hp) : Hp := fun b => match g b with | some k => some k | none => h b
theorem Zrg (h g : Hp) (b : Nat) (k : Blk) : upd (Zk6 h g) b (some k) = Zk6 h (upd g b (some k)) := by
 funext i
 unfold upd Zk6
 by_cases hi : i = b <;> simp [hi]
theorem Z90 : ∀ (as : List A) (h g : Hp) (n : Nat), (Zz (Zk6 h g) n as).1 = (Zz g n as).1 /\ (Zz (Zk6 h g) n as).2 = Zk6 h (Zz g n as).2
 | [], h, g, n => ⟨rfl, rfl⟩
 | a :: as, h, g, n => by
   cases a with
   | olit ty rows =>
     obtain ⟨e1, e2⟩ := Z90 as h (upd g n (some ⟨ty, rows, true, false⟩)) (n + 1)
     simp only [Zz, Zrg, e1, e2]
     exact ⟨trivial, trivial⟩
   | _ =>
     obtain ⟨e1, e2⟩ := Z90 as h g n
     simp only [Zz, e1, e2]
     exact ⟨trivial, trivial⟩
theorem Zho (a : A) (h g : Hp) (n : Nat) : (Z3a (Zk6 h g) n a).1 = (Z3a g n a).1 /\ (Z3a (Zk6 h g) n a).2 = Zk6 h (Z3a g n a).2 := by
 cases a with
 | olit ty rows =>
   simp only [Z3a, Zrg]
   exact ⟨trivial, trivial⟩
 | agg cs =>
   obtain ⟨e1, e2⟩ := Z90 cs h g n
   simp only [Z3a, e1, e2]
   exact ⟨trivial, trivial⟩
 | _ => exact ⟨rfl, rfl⟩
theorem Zau : ∀ (as : List A) (h g : Hp) (n : Nat), (Yh (Zk6 h g) n as).1 = (Yh g n as).1 /\ (Yh (Zk6 h g) n as).2 = Zk6 h (Yh g n as).2
 | [], h, g, n => ⟨rfl, rfl⟩
 | a :: as, h, g, n => by
   simp only [Yh]
   rw [(Zho a h g n).1, (Zho a h g n).2, (Zau as h _ _).1, (Zau as h _ _).2]
   exact ⟨rfl, rfl⟩
theorem Y5n (h : Hp) : Zk6 h Zgw = h := by funext b; rfl
theorem Z38 (as : List A) (h : Hp) (n : Nat) : (Yh h n as).1 = (Yh Zgw n as).1 /\ (Yh h n as).2 = Zk6 h (Yh Zgw n as).2 := by
 have := Zau as h Zgw n
 rw [Y5n] at this
 exact this
def Z8s (C ρr : Rho) : Rho := fun b => match ρr b with | some l => some l | none => C b
theorem Z76 (C ρr : Rho) : Rho.le ρr (Z8s C ρr) := fun b l e => by simp [Z8s, e]
theorem Z9x {C ρr : Rho} (hd : ∀ b, ρr b ≠ none -> C b = none) : Rho.le C (Z8s C ρr) := fun b l e => by
 unfold Z8s
 cases hr : ρr b with
 | none => exact e
 | some l' => rw [hd b (by rw [hr]; simp)] at e; cases e
theorem HR.known (H : HR P C S w B h) {b : Nat} {blk : Blk} (e : h b = some blk) : C b ≠ none := by
 rcases H.at_ b blk e with ⟨k, sz, hb, _⟩ | ⟨hb, _⟩ <;> rw [hb] <;> simp
theorem HR.merge {g : Hp} {M : Nat} {ρr : Rho} (H : HR P C S w B h) (G : HR P ρr S w M g) (hB : B <= M) (hlt : ∀ b blk k sz, h b = some blk -> C b = some (some (k, sz)) -> k < M)
 (hd : ∀ b, ρr b ≠ none -> C b = none) : HR P (Z8s C ρr) S w B (Zk6 h g) := by
 have l1 := Z9x hd
 have l2 := Z76 C ρr
 have j2 : ∀ b blk, Zk6 h g b = some blk -> (g b = some blk) \/ (h b = some blk /\ ρr b = none) := by
  intro b blk e
  unfold Zk6 at e
  cases hg : g b with
  | some k => rw [hg] at e; exact .inl e
  | none =>
    rw [hg] at e
    refine .inr ⟨e, ?_⟩
    cases hr : ρr b with
    | none => rfl
    | some l => exact absurd (hd b (by rw [hr]; simp)) (H.known e)
 have j0 : ∀ b, ρr b = none -> Z8s C ρr b = C b := fun b e => by simp [Z8s, e]
 have j1 : ∀ b blk k sz, g b = some blk -> Z8s C ρr b = some (some (k, sz)) -> ρr b = some (some (k, sz)) := by
  intro b blk k sz e e'
  cases hr : ρr b with
  | none => exact absurd hr (G.known e)
  | some l => rw [l2 b l hr] at e'; exact e'
 have mono : ∀ {C0 : Rho} {M0 k sz : Nat} {blk : Blk}, Rho.le C0 (Z8s C ρr) -> B <= M0 -> BR P C0 S w M0 blk k sz -> BR P (Z8s C ρr) S w B blk k sz := by
  intro C0 M0 k sz blk j4 hM b
  have := b.mono j4 (fun _ h => h) (Ext.refl S w) (fun h => h) rfl
  exact ⟨this.sz_eq, eI hM this.base, this.own, this.not_own, this.rows, this.heap⟩
 refine ⟨fun b blk e => ?_, fun b b' k sz sz' blk blk' e1 e2 e3 e4 => ?_, H.old, H.glob⟩
 . rcases j2 b blk e with e | ⟨e, hr⟩
   . rcases G.at_ b blk e with ⟨k, sz, hb, j3⟩ | ⟨hb, hv⟩
     . exact .inl ⟨k, sz, l2 _ _ hb, mono l2 hB j3⟩
     . exact .inr ⟨l2 _ _ hb, hv⟩
   . rcases H.at_ b blk e with ⟨k, sz, hb, j3⟩ | ⟨hb, hv⟩
     . exact .inl ⟨k, sz, l1 _ _ hb, mono l1 (dO _) j3⟩
     . exact .inr ⟨l1 _ _ hb, hv⟩
 . have big : ∀ b blk k sz, g b = some blk -> ρr b = some (some (k, sz)) -> M <= k := fun b blk k sz e e' => (G.at_of e e').base
   rcases j2 b blk e1 with q1 | ⟨q1, r1⟩ <;> rcases j2 b' blk' e2 with q2 | ⟨q2, r2⟩
   . exact G.inj b b' k sz sz' blk blk' q1 q2 (j1 _ _ _ _ q1 e3) (j1 _ _ _ _ q2 e4)
   . have h1 := big _ _ _ _ q1 (j1 _ _ _ _ q1 e3)
     rw [j0 _ r2] at e4
     have h2 := hlt _ _ _ _ q2 e4
     omega
   . have h1 := big _ _ _ _ q2 (j1 _ _ _ _ q2 e4)
     rw [j0 _ r1] at e3
     have h2 := hlt _ _ _ _ q1 e3
     omega
   . rw [j0 _ r1] at e3
     rw [j0 _ r2] at e4
     exact H.inj b b' k sz sz' blk blk' q1 q2 e3 e4
theorem HR.monoS (H : HR P C S w B h) (hext : Ext S w w') (hsub : ∀ k, S k -> S' k) (hback : ∀ k, k < w.heap.size -> S' k -> S k) (hlt : ∀ k, S' k -> k < w'.heap.size)
 (hsame : ∀ k, k < w.heap.size -> w'.heap[k]? = w.heap[k]?) : HR P C S' w' B h := by
 refine ⟨fun b blk e => ?_, H.inj, hlt, H.glob.mono hsub hext⟩
 rcases H.at_ b blk e with ⟨k, sz, hb, hB⟩ | ⟨hb, r⟩
 . exact .inl ⟨k, sz, hb, hB.mono (fun _ _ h => h) hsub hext (hback k (H.lt e hb)) (hsame k (H.lt e hb))⟩
 . exact .inr ⟨hb, r⟩
def flat1 : A -> Bool
 | .v _ => true
 | .ref _ _ _ _ _ _ => true
 | _ => false
def flat : A -> Bool
 | .agg cs => cs.all flat1
 | a => flat1 a
theorem R.flat1 {a : A} {x : Value} (e : flat1 a = true) (r : R P C S w a x) : R P C S' w a x := by
 cases r with
 | v x h => exact .v x h
 | ref ty b off len cap ex k sz c ad h1 h2 h3 h4 h5 h6 h7 => exact .ref ty b off len cap ex k sz c ad h1 h2 h3 h4 h5 h6 h7
 | nil ty b ex h1 => exact .nil ty b ex h1
 | _ => simp [Vm.flat1] at e
theorem R.flat {a : A} {x : Value} (e : flat a = true) (r : R P C S w a x) : R P C S' w a x := by
 cases a with
 | agg cs =>
   cases r with
   | agg cs vs hl hr => exact .agg cs vs hl (fun i x y h1 h2 => (hr i x y h1 h2).flat1 (cY.1 e x (dY h1)))
 | _ => exact r.flat1 e
def Fresh (g g' : Hp) : Prop := ∀ b blk, g' b = some blk -> g b = some blk \/ (blk.own = true /\ Vl blk.rows = false)
theorem Fresh.refl (g : Hp) : Fresh g g := fun b blk e => .inl e
theorem Fresh.upd {g g' : Hp} {n ty : Nat} {rows : List (List A)} (f : Fresh (upd g n (some ⟨ty, rows, true, false⟩)) g') (h : Vl rows = false) : Fresh g g' := by
 intro b blk e
 rcases f b blk e with e | e
 . unfold Vm.upd at e
   split at e
   . simp only [dM] at e; subst e; exact .inr ⟨rfl, h⟩
   . exact .inl e
 . exact .inr e
theorem Fresh.trans {g g' g'' : Hp} (a : Fresh g g') (b : Fresh g' g'') : Fresh g g'' := by
 intro i blk e
 rcases b i blk e with e | e
 . exact a i blk e
 . exact .inr e
theorem Z9i : ∀ (cs : List A) (g : Hp) (n : Nat), Zm4 cs = false -> (Zz g n cs).1.all flat1 = true /\ Fresh g (Zz g n cs).2
 | [], g, n, _ => ⟨rfl, Fresh.refl g⟩
 | c :: cs, g, n, e => by
   simp only [Zm4, fH] at e
   cases c with
   | olit ty rows =>
     obtain ⟨e1, e2⟩ := Z9i cs (upd g n (some ⟨ty, rows, true, false⟩)) (n + 1) e.2
     exact ⟨by simp only [Zz, gZ, e1]; rfl, Fresh.upd e2 e.1⟩
   | v x =>
     obtain ⟨e1, e2⟩ := Z9i cs g n e.2
     exact ⟨by simp only [Zz, gZ, e1]; rfl, e2⟩
   | _ => exact absurd e.1 (by simp [Zrv])
theorem Zag : ∀ (rs : List A) (g : Hp) (n : Nat), Z7j rs = false -> (∀ a ∈ (Yh g n rs).1, flat a = true) /\ Fresh g (Yh g n rs).2
 | [], g, n, _ => ⟨fun a h => by simp [Yh] at h, Fresh.refl g⟩
 | a :: rs, g, n, e => by
   have one : Z7j rs = false /\ flat (Z3a g n a).1 = true /\ Fresh g (Z3a g n a).2 := by
    cases a with
    | agg cs =>
      simp only [Z7j, fH] at e
      obtain ⟨e1, e2⟩ := Z9i cs g n e.1
      exact ⟨e.2, e1, e2⟩
    | olit ty rows =>
      simp only [Z7j, fH] at e
      exact ⟨e.2, rfl, Fresh.upd (Fresh.refl _) e.1⟩
    | v x =>
      simp only [Z7j, fH] at e
      exact ⟨e.2, rfl, Fresh.refl g⟩
    | _ => simp [Z7j, Zrv] at e
   obtain ⟨e1, e2⟩ := Zag rs (Z3a g n a).2 (n + Z83 a) one.1
   refine ⟨fun c hc => ?_, one.2.2.trans e2⟩
   simp only [Yh, eK] at hc
   rcases hc with rfl | hc
   . exact one.2.1
   . exact e1 c hc
theorem Zvj : ∀ {row : List A}, Zp4 row = false -> ∀ x ∈ row, Y7t x = false
 | [], _, x, hx => by simp at hx
 | a :: as, e, x, hx => by
   simp only [Zp4, fH] at e
   rcases eK.1 hx with rfl | hx
   . exact e.1
   . exact Zvj e.2 x hx
theorem Zpn : ∀ {rows : List (List A)}, Vl rows = false -> ∀ row ∈ rows, ∀ x ∈ row, Y7t x = false
 | [], _, r, hr => by simp at hr
 | a :: as, e, r, hr => by
   simp only [Vl, fH] at e
   rcases eK.1 hr with rfl | hr
   . exact Zvj e.1
   . exact Zpn e.2 r hr
theorem HR.flatS {g : Hp} {M : Nat} (G : HR P C S' w M g) (hf : Fresh Zgw g) (hS : ∀ k, S k -> k < M) (hM : M <= w.heap.size) (hG : GlobOk P S w) : HR P C S w M g := by
 refine ⟨fun b blk e => ?_, G.inj, fun k hk => fK (hS k hk) hM, hG⟩
 have hb : blk.own = true /\ Vl blk.rows = false := by
  rcases hf b blk e with e | e
  . cases e
  . exact e
 rcases G.at_ b blk e with ⟨k, sz, h1, hB⟩ | ⟨h1, r⟩
 . refine .inl ⟨k, sz, h1, ⟨hB.sz_eq, hB.base, fun _ hs => (by have := hS k hs; have := hB.base; omega), fun hq => absurd (hb.1.symm.trans hq) (by simp), hB.rows, ?_⟩⟩
   obtain ⟨c, hc, hs, j0⟩ := hB.heap
   refine ⟨c, hc, hs, fun i row j x e1 e2 => ?_⟩
   obtain ⟨y, hy, hr⟩ := j0 i row j x e1 e2
   have hv := Zpn hb.2 row (dY e1) x (dY e2)
   refine ⟨y, hy, ?_⟩
   cases x with
   | v z => exact hr.flat1 rfl
   | _ => simp [Y7t] at hv
 . exact .inr ⟨h1, r⟩
theorem R.flats {as : List A} {v : Value} (e : ∀ a ∈ as, Vm.flat a = true) (r : R P C S w (pack as) v) : R P C S' w (pack as) v := by
 have tup : ∀ as : List A, (∀ a ∈ as, Vm.flat a = true) -> R P C S w (.tup as) v -> R P C S' w (.tup as) v := by
  intro as e r
  cases r with
  | tup cs vs hl hr => exact .tup as vs hl (fun i x y h1 h2 => (hr i x y h1 h2).flat (e x (dY h1)))
 match as, e, r with
 | [], e, r => exact tup [] e r
 | [a], e, r => exact R.flat (e a (by simp)) r
 | a :: b :: as, e, r => exact tup _ e r
theorem Zuv (H : HR P C S w B h) (hB : B <= w.heap.size) {as rs : List A} {n : Nat} {v : Value} (hf : ∀ b, X1 n (Yj rs) b -> C b = none)
 (hres : Res P (Wk C S h (Xm h as)) w rs v w') :
 Eff P B C S w (X1 n (Yj rs)) (Yh (aft h as rs) n rs).2 (pack (Yh (aft h as rs) n rs).1) v w' := by
 obtain ⟨S', j8, j4, j0, j3, j9⟩ := hres
 obtain ⟨ρr, j6, G, hr⟩ := j9 n
 have hd : ∀ b, ρr b ≠ none -> C b = none := fun b hb => by
  by_cases hs : X1 n (Yj rs) b
  . exact hf b hs
  . exact absurd (j6 b hs) hb
 have j7 : ∀ b, C b = none -> ¬ X1 n (Yj rs) b -> Z8s C ρr b = none := fun b h1 h2 => by simp [Z8s, j6 b h2, h1]
 have j1 : Ext S w w' := ⟨fun k hk => j3.same k (.inl hk), j3.size, j3.maps⟩
 have j5 : ∀ k, k < w.heap.size -> w'.heap[k]? = w.heap[k]? := fun k hk => j0.block k hk
 rw [(Z38 rs (aft h as rs) n).1, (Z38 rs (aft h as rs) n).2]
 unfold aft
 split
 . -- the arguments' rows stand fast from now on
   have H1 := H.freeze (Xm h as)
   have H2 := H1.monoS (S' := S') (w' := w') j3 j8 (fun k hk hs => by rcases j4 k hs with h' | h'; exact h'; omega) G.old j5
   have H3 := H2.merge G hB (fun b blk k sz e e' => H1.lt e e') hd
   exact ⟨Z8s C ρr, S', ⟨Z9x hd, fun k hk => j8 k (.inl hk), j1, j0.mono hB, j7, fun k hk => by
    rcases j4 k hk with h' | h'
    . exact (Z7w H (Xm h as) (fun _ => False)).back k h'
    . exact .inr (by omega)⟩, H3, hr.mono (Z76 C ρr) (fun _ h => h) (Ext.refl _ _)⟩
 . rename_i j2
   have j2 : Z7j rs = false := by simpa using j2
   obtain ⟨f1, f2⟩ := Zag rs Zgw n j2
   have G' := G.flatS (S := S) f2 H.old j0.size (H.glob.mono (fun _ h => h) j1)
   have H2 := H.monoS (S' := S) (w' := w') j1 (fun _ h => h) (fun k _ hs => hs) (fun k hk => fK (H.old k hk) j0.size) j5
   have H3 := H2.merge G' hB (fun b blk k sz e e' => H.lt e e') hd
   exact ⟨Z8s C ρr, S, ⟨Z9x hd, fun k hk => hk, j1, j0.mono hB, j7, fun _ h => .inl h⟩, H3, (hr.flats f1).mono (Z76 C ρr) (fun _ h => h) (Ext.refl _ _)⟩
structure Outs (h : Hp) (seen seen' : List Nat) (k : Nat) (O L : List Nat) : Prop where
 len : O.length = k
 nodup : O.Nodup
 apart : ∀ b ∈ O, b ∉ L
 newO : ∀ b ∈ O, b ∉ seen
 newL : ∀ b ∈ L, b ∉ seen
 seenO : ∀ b ∈ O, b ∈ seen'
 seenL : ∀ b ∈ L, b ∈ seen'
 keep : ∀ b ∈ seen, b ∈ seen'
 own : ∀ b ∈ O, ∃ blk, h b = some blk /\ blk.own = true /\ blk.box = false
def Zne (h g : Hp) (n : Nat) (O : List Nat) : Hp := fun x => if n <= x then (match O[x - n]? with | some b => h b | none => g x) else g x
theorem Outs.none_ (seen : List Nat) : Outs h seen seen 0 [] [] :=
 ⟨rfl, List.nodup_nil, fun b hb => by simp at hb, fun b hb => by simp at hb, fun b hb => by simp at hb, fun b hb => by simp at hb, fun b hb => by simp at hb, fun b hb => hb, fun b hb => by simp at hb⟩
theorem Outs.append {s1 s2 s3 : List Nat} {k1 k2 : Nat} {O1 O2 L1 L2 : List Nat} (a : Outs h s1 s2 k1 O1 L1) (b : Outs h s2 s3 k2 O2 L2) : Outs h s1 s3 (k1 + k2) (O1 ++ O2) (L1 ++ L2) := by
 refine ⟨by simp [a.len, b.len], ?_, ?_, ?_, ?_, ?_, ?_, fun x hx => b.keep x (a.keep x hx), ?_⟩
 . rw [List.nodup_append]
   exact ⟨a.nodup, b.nodup, fun x hx y hy e => b.newO y hy (e ▸ a.seenO x hx)⟩
 . intro x hx hl
   rcases dW.1 hx with hx | hx <;> rcases dW.1 hl with hl | hl
   . exact a.apart x hx hl
   . exact b.newL x hl (a.seenO x hx)
   . exact b.newO x hx (a.seenL x hl)
   . exact b.apart x hx hl
 . intro x hx
   rcases dW.1 hx with hx | hx
   . exact a.newO x hx
   . exact fun hs => b.newO x hx (a.keep x hs)
 . intro x hx
   rcases dW.1 hx with hx | hx
   . exact a.newL x hx
   . exact fun hs => b.newL x hx (a.keep x hs)
 . intro x hx
   rcases dW.1 hx with hx | hx
   . exact b.keep x (a.seenO x hx)
   . exact b.seenO x hx
 . intro x hx
   rcases dW.1 hx with hx | hx
   . exact b.keep x (a.seenL x hx)
   . exact b.seenL x hx
 . intro x hx
   rcases dW.1 hx with hx | hx
   . exact a.own x hx
   . exact b.own x hx
theorem Zcy (H : HR P C S w B h) {seen seen' : List Nat} {a r : A} {x : Value} (e : Z6q h seen a = some (seen', r)) (ra : R P C S w a x) :
 ∃ O L, Outs h seen seen' (Z89 [r]) O L /\ ∀ (S' : Nat -> Prop), (∀ k, S k -> S' k) -> Fast C h L S' -> ∀ (g : Hp) (n : Nat) (ρr : Rho), (∀ i b, O[i]? = some b -> ρr (n + i) = C b) ->
  RL P ρr S' w (Zz g n [r]).1 [x] /\ ∀ b, (Zz g n [r]).2 b = Zne h g n O b := by
 cases ra with
 | v x hx =>
   simp only [Z6q, dM, dV] at e
   obtain ⟨rfl, rfl⟩ := e
   exact ⟨[], [], Outs.none_ _, fun S' hS hF g n ρr hρ => ⟨.cons (.v x hx) .nil, fun b => by simp [Zz, Zne]⟩⟩
 | lit ty rows a cap Y hcap hl hc hr =>
   simp only [Z6q, dM, dV] at e
   obtain ⟨rfl, rfl⟩ := e
   refine ⟨[], [], Outs.none_ _, fun S' hS hF g n ρr hρ => ⟨.cons ?_ .nil, fun b => by simp [Zz, Zne]⟩⟩
   exact ((R.lit ty rows a cap Y hcap hl hc hr : R P Yy S w _ _)).mono (Zjx _) hS (Ext.refl _ _)
 | ref ty b off len cap ex k sz c ad hb hty hcap hex ha hlen hk =>
   have ra : R P C S w (.ref ty b off len cap ex) (.slice ad len c) := .ref ty b off len cap ex k sz c ad hb hty hcap hex ha hlen hk
   obtain ⟨blk, j1, e1⟩ := Z6 e
   clear e
   split at e1
   . cases e1
   . rename_i j4
     simp only [not_or, Bool.not_eq_true] at j4
     obtain ⟨j0, j2, j8⟩ := j4
     split at e1
     . rename_i hw
       obtain ⟨j3, rfl, rfl⟩ := hw
       simp only [dM, dV] at e1
       obtain ⟨rfl, rfl⟩ := e1
       have hB := H.at_of j1 hb
       refine ⟨[b], [], ⟨rfl, by simp, fun x hx => by simp, fun x hx => by simp at hx; subst hx; exact j0, fun x hx => by simp at hx, fun x hx => by simp at hx; subst hx; exact dC, fun x hx => by simp at hx, fun x hx => eB _ hx, fun x hx => by simp at hx; subst hx; exact ⟨blk, j1, j3, j2⟩⟩, fun S' hS hF g n ρr hρ => ⟨.cons ?_ .nil, fun x => ?_⟩⟩
       . have hρ0 : ρr n = some (some (k, sz)) := by have := hρ 0 b rfl; rw [fM] at this; rw [this, hb]
         obtain ⟨cs, t, j9, ja⟩ := hk
         exact .ref blk.ty n 0 blk.rows.length blk.rows.length false k sz c ad hρ0 hB.sz_eq hlen (fun h => by cases h) ha hlen ⟨cs, t, j9, ja⟩
       . simp only [Zz, upd, Zne]
         by_cases hx : x = n
         . subst hx
           have : blk = ⟨blk.ty, blk.rows, true, false⟩ := by cases blk; simp_all
           simp [j1]
           rw [<- this]
         . rw [if_neg hx]
           by_cases hn : n <= x
           . rw [if_pos hn]
             have : ([b] : List Nat)[x - n]? = none := eY (by simp; omega)
             rw [this]
           . rw [if_neg hn]
     . simp only [dM, dV] at e1
       obtain ⟨rfl, rfl⟩ := e1
       refine ⟨[], [b], ⟨rfl, by simp, fun x hx => by simp at hx, fun x hx => by simp at hx, fun x hx => by simp at hx; subst hx; exact j0, fun x hx => by simp at hx, fun x hx => by simp at hx; subst hx; exact dC, fun x hx => eB _ hx, fun x hx => by simp at hx⟩, fun S' hS hF g n ρr hρ => ⟨.cons ?_ .nil, fun x => by simp [Zz, Zne]⟩⟩
       have j5 : Wz h (.ref ty b off len cap ex) = some (.lit blk.ty ((blk.rows.drop off).take len)) := by
        simp only [Wz, j1, bnd]
        rw [if_pos ⟨j2, by omega⟩]
       exact (Z9u H j5 ra hS hF).up
 | nil ty b ex hb =>
   have ra : R P C S w (.ref ty b 0 0 0 ex) (.slice none 0 0) := .nil ty b ex hb
   obtain ⟨blk, j1, e1⟩ := Z6 e
   clear e
   split at e1
   . cases e1
   . rename_i j4
     simp only [not_or, Bool.not_eq_true] at j4
     obtain ⟨j0, j2, j8⟩ := j4
     split at e1
     . rename_i hw
       obtain ⟨j3, _, j7⟩ := hw
       simp only [dM, dV] at e1
       obtain ⟨rfl, rfl⟩ := e1
       have j6 : blk.rows = [] := dA j7.symm
       refine ⟨[b], [], ⟨rfl, by simp, fun x hx => by simp, fun x hx => by simp at hx; subst hx; exact j0, fun x hx => by simp at hx, fun x hx => by simp at hx; subst hx; exact dC, fun x hx => by simp at hx, fun x hx => eB _ hx, fun x hx => by simp at hx; subst hx; exact ⟨blk, j1, j3, j2⟩⟩, fun S' hS hF g n ρr hρ => ⟨.cons ?_ .nil, fun x => ?_⟩⟩
       . have hρ0 : ρr n = some none := by have := hρ 0 b rfl; rw [fM] at this; rw [this, hb]
         rw [j6]
         exact .nil blk.ty n false hρ0
       . simp only [Zz, upd, Zne]
         by_cases hx : x = n
         . subst hx
           have : blk = ⟨blk.ty, blk.rows, true, false⟩ := by cases blk; simp_all
           simp [j1]
           rw [<- this]
         . rw [if_neg hx]
           by_cases hn : n <= x
           . rw [if_pos hn]
             have : ([b] : List Nat)[x - n]? = none := eY (by simp; omega)
             rw [this]
           . rw [if_neg hn]
     . simp only [dM, dV] at e1
       obtain ⟨rfl, rfl⟩ := e1
       refine ⟨[], [b], ⟨rfl, by simp, fun x hx => by simp at hx, fun x hx => by simp at hx, fun x hx => by simp at hx; subst hx; exact j0, fun x hx => by simp at hx, fun x hx => by simp at hx; subst hx; exact dC, fun x hx => eB _ hx, fun x hx => by simp at hx⟩, fun S' hS hF g n ρr hρ => ⟨.cons ?_ .nil, fun x => by simp [Zz, Zne]⟩⟩
       have j5 : Wz h (.ref ty b 0 0 0 ex) = some (.lit blk.ty ((blk.rows.drop 0).take 0)) := by
        simp only [Wz, j1, bnd]
        rw [if_pos ⟨j2, by omega⟩]
       exact (Z9u H j5 ra hS hF).up
 | _ => simp [Z6q] at e
theorem Zls (g : Hp) (n : Nat) (r : A) (rs : List A) : Zz g n (r :: rs) = ((Zz g n [r]).1 ++ (Zz (Zz g n [r]).2 (n + Z89 [r]) rs).1, (Zz (Zz g n [r]).2 (n + Z89 [r]) rs).2) := by
 cases r <;> simp [Zz, Z89]
theorem Zsh (r : A) (rs : List A) : Z89 (r :: rs) = Z89 [r] + Z89 rs := by
 cases r <;> simp [Z89, Nat.add_comm]
theorem Zom (h g : Hp) (n : Nat) (O1 O2 : List Nat) : Zne h (Zne h g n O1) (n + O1.length) O2 = Zne h g n (O1 ++ O2) := by
 funext x
 unfold Zne
 by_cases h1 : n <= x
 . simp only [if_pos h1]
   by_cases h2 : n + O1.length <= x
   . rw [if_pos h2, eA (by omega), eY (l := O1) (by omega), show x - n - O1.length = x - (n + O1.length) by omega]
   . rw [if_neg h2, dZ (by omega)]
 . simp only [if_neg h1]
   rw [if_neg (by omega)]
theorem Zq6 (h g : Hp) (n : Nat) : Zne h g n [] = g := by funext x; simp [Zne]
def Given (P : Program) (C : Rho) (S : Nat -> Prop) (w : World) (h : Hp) (O L : List Nat) (out : Hp -> Nat -> List A × Hp) (vs : List Value) : Prop :=
 ∀ (S' : Nat -> Prop), (∀ k, S k -> S' k) -> Fast C h L S' -> ∀ (g : Hp) (n : Nat) (ρr : Rho), (∀ i b, O[i]? = some b -> ρr (n + i) = C b) -> RL P ρr S' w (out g n).1 vs /\ (out g n).2 = Zne h g n O
theorem Given.append {O1 O2 L1 L2 : List Nat} {k : Nat} {o1 o2 : Hp -> Nat -> List A × Hp} {vs us : List Value} (hk : O1.length = k) (a : Given P C S w h O1 L1 o1 vs) (b : Given P C S w h O2 L2 o2 us) :
 Given P C S w h (O1 ++ O2) (L1 ++ L2) (fun g n => ((o1 g n).1 ++ (o2 (o1 g n).2 (n + k)).1, (o2 (o1 g n).2 (n + k)).2)) (vs ++ us) := by
 intro S' hS hF g n ρr hρ
 obtain ⟨a1, a2⟩ := a S' hS hF.left g n ρr (fun i b hb => hρ i b (by rw [dZ (dU.1 hb).1]; exact hb))
 obtain ⟨b1, b2⟩ := b S' hS hF.right (o1 g n).2 (n + k) ρr (fun i b hb => by
  have := hρ (k + i) b (by rw [eA (by omega), <- hb]; congr 1; omega)
  rw [<- this, gE])
 refine ⟨a1.append b1, ?_⟩
 show (o2 (o1 g n).2 (n + k)).2 = _
 rw [b2, a2, <- hk, Zom]
theorem Zb8 (H : HR P C S w B h) : ∀ {as rs : List A} {vs : List Value} {seen seen' : List Nat}, Zew h seen as = some (seen', rs) -> RL P C S w as vs ->
 ∃ O L, Outs h seen seen' (Z89 rs) O L /\ Given P C S w h O L (fun g n => Zz g n rs) vs
 | [], rs, vs, seen, seen', e, r => by
   simp only [Zew, dM, dV] at e
   obtain ⟨rfl, rfl⟩ := e
   rw [r.inv_nil]
   exact ⟨[], [], Outs.none_ _, fun S' hS hF g n ρr hρ => ⟨.nil, (Zq6 h g n).symm⟩⟩
 | a :: as, rs, vs, seen, seen', e, r => by
   obtain ⟨⟨s1, r1⟩, h1, e1⟩ := Z6 e
   obtain ⟨⟨s2, r2⟩, h2, e2⟩ := Z6 e1
   simp only [dM, dV] at e2
   obtain ⟨rfl, rfl⟩ := e2
   obtain ⟨x, xs, rfl, q1, q2⟩ := r.inv_cons
   obtain ⟨O1, L1, u1, g1⟩ := Zcy H h1 q1
   obtain ⟨O2, L2, u2, g2⟩ := Zb8 H h2 q2
   refine ⟨O1 ++ O2, L1 ++ L2, by rw [Zsh]; exact u1.append u2, ?_⟩
   have a1 : Given P C S w h O1 L1 (fun g n => Zz g n [r1]) [x] := fun S' hS hF g n ρr hρ => by
    obtain ⟨p1, p2⟩ := g1 S' hS hF g n ρr hρ
    exact ⟨p1, funext p2⟩
   have := Given.append u1.len a1 g2
   intro S' hS hF g n ρr hρ
   have t := this S' hS hF g n ρr hρ
   simp only [] at t ⊢
   rw [Zls]
   exact t
theorem Znx {seen s' : List Nat} {a r : A} (e : Z6q h seen a = some (s', r)) : (∃ x, r = .v x) \/ (∃ t x, r = .lit t x) \/ ∃ t x, r = .olit t x := by
 cases a with
 | v x => simp only [Z6q, dM, dV] at e; exact .inl ⟨x, e.2.symm⟩
 | lit t x => simp only [Z6q, dM, dV] at e; exact .inr (.inl ⟨t, x, e.2.symm⟩)
 | ref ty b off len cap ex =>
   obtain ⟨blk, j0, e1⟩ := Z6 e
   split at e1
   . cases e1
   . split at e1 <;> simp only [dM, dV] at e1
     . exact .inr (.inr ⟨_, _, e1.2.symm⟩)
     . exact .inr (.inl ⟨_, _, e1.2.symm⟩)
 | _ => simp [Z6q] at e
theorem Zlo {r : A} (k : (∃ x, r = .v x) \/ (∃ t x, r = .lit t x) \/ ∃ t x, r = .olit t x) (g : Hp) (n : Nat) : Zz g n [r] = ([(Z3a g n r).1], (Z3a g n r).2) /\ Z83 r = Z89 [r] := by
 rcases k with ⟨x, rfl⟩ | ⟨t, x, rfl⟩ | ⟨t, x, rfl⟩ <;> simp [Zz, Z3a, Z83, Z89]
theorem Zpd (H : HR P C S w B h) {seen seen' : List Nat} {a r : A} {x : Value} (e : Y10 h seen a = some (seen', r)) (ra : R P C S w a x) :
 ∃ O L, Outs h seen seen' (Z83 r) O L /\ Given P C S w h O L (fun g n => ([(Z3a g n r).1], (Z3a g n r).2)) [x] := by
 have cell : Z6q h seen a = some (seen', r) -> ∃ O L, Outs h seen seen' (Z83 r) O L /\ Given P C S w h O L (fun g n => ([(Z3a g n r).1], (Z3a g n r).2)) [x] := by
  intro e
  have hk := Znx e
  obtain ⟨O, L, u, gv⟩ := Zcy H e ra
  refine ⟨O, L, by rw [(Zlo hk Zgw 0).2]; exact u, fun S' hS hF g n ρr hρ => ?_⟩
  obtain ⟨p1, p2⟩ := gv S' hS hF g n ρr hρ
  rw [(Zlo hk g n).1] at p1 p2
  exact ⟨p1, funext p2⟩
 cases a with
 | agg cs =>
   obtain ⟨⟨s1, r1⟩, h1, e1⟩ := Z6 e
   simp only [dM, dV] at e1
   obtain ⟨rfl, rfl⟩ := e1
   cases ra with
   | agg cs vs hl hr =>
     obtain ⟨O, L, u, gv⟩ := Zb8 H h1 ⟨hl, hr⟩
     refine ⟨O, L, u, fun S' hS hF g n ρr hρ => ?_⟩
     obtain ⟨p1, p2⟩ := gv S' hS hF g n ρr hρ
     exact ⟨.cons (.agg _ vs p1.len p1.at_) .nil, p2⟩
 | _ => exact cell e
theorem Zcw (H : HR P C S w B h) : ∀ {as rs : List A} {vs : List Value} {seen : List Nat}, Za8 h seen as = some rs -> RL P C S w as vs ->
 ∃ seen' O L, Outs h seen seen' (Yj rs) O L /\ Given P C S w h O L (fun g n => Yh g n rs) vs
 | [], rs, vs, seen, e, r => by
   simp only [Za8, dM] at e
   subst e
   rw [r.inv_nil]
   exact ⟨seen, [], [], Outs.none_ _, fun S' hS hF g n ρr hρ => ⟨.nil, (Zq6 h g n).symm⟩⟩
 | a :: as, rs, vs, seen, e, r => by
   obtain ⟨⟨s1, r1⟩, h1, e1⟩ := Z6 e
   obtain ⟨r2, h2, e2⟩ := Z6 e1
   simp only [dM] at e2
   subst e2
   obtain ⟨x, xs, rfl, q1, q2⟩ := r.inv_cons
   obtain ⟨O1, L1, u1, g1⟩ := Zpd H h1 q1
   obtain ⟨s2, O2, L2, u2, g2⟩ := Zcw H h2 q2
   refine ⟨s2, O1 ++ O2, L1 ++ L2, by simp only [Yj]; exact u1.append u2, ?_⟩
   have := Given.append u1.len g1 g2
   intro S' hS hF g n ρr hρ
   exact this S' hS hF g n ρr hρ
def Zs2 : List Value -> Value
 | [x] => x
 | xs => .tuple xs.toArray
theorem R.pack {as : List A} {vs : List Value} (r : RL P C S w as vs) : R P C S w (pack as) (Zs2 vs) := by
 match as, r with
 | [], r => rw [r.inv_nil]; exact .tup [] [] rfl (fun i x y h => by simp at h)
 | [a], r =>
   obtain ⟨x, xs, rfl, q1, q2⟩ := r.inv_cons
   rw [q2.inv_nil]
   exact q1
 | a :: b :: as, r =>
   obtain ⟨x, xs, rfl, q1, q2⟩ := r.inv_cons
   obtain ⟨y, ys, rfl, q3, q4⟩ := q2.inv_cons
   exact .tup _ _ r.len r.at_
def Zmv (C : Rho) (n : Nat) (O : List Nat) : Rho := fun b => if n <= b then (match O[b - n]? with | some b' => C b' | none => none) else none
theorem Zaq {M : Nat} {w1 : World} {S1 : Nat -> Prop} (hM : M = w.heap.size) (H : HR P C S1 w1 M h) {as rs : List A} {vs : List Value} (r : RL P C S1 w1 as vs) (e : Za8 h [] as = some rs)
 (hsub : ∀ k, S k -> S1 k) (hback : ∀ k, S1 k -> S k \/ M <= k) (hbelow : Below M w w1) (hext : Ext S w w1) : Res P S w rs (Zs2 vs) w1 := by
 subst hM
 obtain ⟨j8, O, L, u, gv⟩ := Zcw H e r
 have HF := H.freeze L
 refine ⟨Wk C S1 h L, fun k hk => .inl (hsub k hk), fun k hk => ?_, hbelow, hext, fun n => ⟨Zmv C n O, fun b hb => ?_, ?_, ?_⟩⟩
 . rcases hk with hk | ⟨b, hb, blk, sz, e1, e2⟩
   . exact hback k hk
   . exact .inr (H.at_of e1 e2).base
 . unfold Zmv
   split
   . rename_i hn
     rw [eY (by rw [u.len]; simp only [X1] at hb; omega)]
   . rfl
 . obtain ⟨_, g2⟩ := gv (Wk C S1 h L) (fun k hk => .inl hk) (Fast.frozen L) Zgw n (Zmv C n O) (fun i b hb => by simp [Zmv, hb])
   rw [g2]
   have j5 : ∀ b blk, Zne h Zgw n O b = some blk -> ∃ b', n <= b /\ O[b - n]? = some b' /\ h b' = some blk /\ Zmv C n O b = C b' := by
    intro b blk e
    unfold Zne at e
    split at e
    . rename_i hn
      split at e
      . rename_i b' j4
        exact ⟨b', hn, j4, e, by simp [Zmv, hn, j4]⟩
      . cases e
    . cases e
   refine ⟨fun b blk e => ?_, fun b1 b2 k sz sz' blk1 blk2 e1 e2 e3 e4 => ?_, HF.old, HF.glob⟩
   . obtain ⟨b', hn, j4, j1, hg⟩ := j5 b blk e
     have j2 : b' ∈ O := dY j4
     obtain ⟨jb, j0, j6, j7⟩ := u.own b' j2
     rw [j1] at j0
     simp only [dM] at j0
     subst j0
     rw [hg]
     rcases H.at_ b' blk j1 with ⟨k, sz, hb, hB⟩ | ⟨hb, hv⟩
     . refine .inl ⟨k, sz, hb, ⟨hB.sz_eq, hB.base, fun ho hs => ?_, fun ho => absurd (j6.symm.trans ho) (by simp), hB.rows, ?_⟩⟩
       . rcases hs with hs | ⟨b2, jc, blk2, sz2, e1, e2⟩
         . exact hB.own ho hs
         . have := H.inj b' b2 k sz sz2 blk blk2 j1 e1 hb e2
           exact u.apart b' j2 (this ▸ jc)
       . obtain ⟨c, hc, hs, j3⟩ := hB.heap
         refine ⟨c, hc, hs, fun i row j x h1 h2 => ?_⟩
         obtain ⟨y, hy, hr⟩ := j3 i row j x h1 h2
         rw [j7] at hr ⊢
         exact ⟨y, hy, R.mono (C := Yy) (fun _ _ h => h) (fun _ h => .inl h) (Ext.refl _ _) hr⟩
     . exact .inr ⟨hb, hv⟩
   . obtain ⟨c1, n1, o1, q1, g1⟩ := j5 b1 blk1 e1
     obtain ⟨c2, n2, o2, q2, j9⟩ := j5 b2 blk2 e2
     rw [g1] at e3
     rw [j9] at e4
     have hc := H.inj c1 c2 k sz sz' blk1 blk2 q1 q2 e3 e4
     subst hc
     have l1 := (dU.1 o1).1
     have l2 := (dU.1 o2).1
     rw [dS l1] at o1
     rw [dS l2] at o2
     simp only [dM] at o1 o2
     have hp := List.pairwise_iff_getElem.1 u.nodup
     rcases Nat.lt_trichotomy (b1 - n) (b2 - n) with hlt | jd | ja
     . exact absurd (o1.trans o2.symm) (hp _ _ l1 l2 hlt)
     . omega
     . exact absurd (o2.trans o1.symm) (hp _ _ l2 l1 ja)
 . obtain ⟨g1, _⟩ := gv (Wk C S1 h L) (fun k hk => .inl hk) (Fast.frozen L) Zgw n (Zmv C n O) (fun i b hb => by simp [Zmv, hb])
   exact R.pack g1
theorem Zxo {f : A -> Option (A × List Nat)} {C0 : Rho} (hf : ∀ a c bs x, f a = some (c, bs) -> R P C0 S w a x -> Fast C h bs S' -> R P Yy S' w c x /\ Z1c c = true) :
 ∀ {as cs : List A} {bs : List Nat} {vs : List Value}, Z5c f as = some (cs, bs) -> RL P C0 S w as vs -> Fast C h bs S' -> RL P Yy S' w cs vs /\ Zi cs = true
 | [], cs, bs, vs, e, r, _ => by
   simp only [Z5c, dM, dV] at e
   obtain ⟨rfl, rfl⟩ := e
   rw [r.inv_nil]
   exact ⟨.nil, rfl⟩
 | a :: as, cs, bs, vs, e, r, hF => by
   obtain ⟨p, hp, e1⟩ := Z6 e
   obtain ⟨q, hq, e2⟩ := Z6 e1
   simp only [dM, dV] at e2
   obtain ⟨rfl, rfl⟩ := e2
   obtain ⟨x, xs, rfl, r1, r2⟩ := r.inv_cons
   obtain ⟨q1, q2⟩ := hf a p.1 p.2 x hp r1 (Fast.left hF)
   obtain ⟨q3, q4⟩ := Zxo hf (bs := q.2) hq r2 (Fast.right hF)
   exact ⟨.cons q1 q3, by simp [Zi, q2, q4]⟩
theorem Zgy {f : A -> Option (A × List Nat)} : ∀ {rows rs : List (List A)} {bs : List Nat}, Vr f rows = some (rs, bs) -> rs.length = rows.length /\
 ∀ (i : Nat) (row : List A), rs[i]? = some row -> ∃ row0 cs, rows[i]? = some row0 /\ Z5c f row0 = some (row, cs) /\ ∀ b ∈ cs, b ∈ bs
 | [], rs, bs, e => by
   simp only [Vr, dM, dV] at e
   obtain ⟨rfl, rfl⟩ := e
   exact ⟨rfl, fun i row h => by simp at h⟩
 | r :: rows, rs, bs, e => by
   obtain ⟨p, hp, e1⟩ := Z6 e
   obtain ⟨q, hq, e2⟩ := Z6 e1
   simp only [dM, dV] at e2
   obtain ⟨rfl, rfl⟩ := e2
   obtain ⟨l1, l2⟩ := Zgy (bs := q.2) hq
   refine ⟨by simp [l1], fun i row h => ?_⟩
   cases i with
   | zero => simp at h; subst h; exact ⟨r, p.2, rfl, hp, fun b hb => List.mem_append_left _ hb⟩
   | succ i =>
     obtain ⟨row0, cs, h1, h2, h3⟩ := l2 i row (by simpa using h)
     exact ⟨row0, cs, by simpa using h1, h2, fun b hb => gA _ (h3 b hb)⟩
theorem Zj6 {f : A -> Option (A × List Nat)} : ∀ {as cs : List A} {bs : List Nat}, Z5c f as = some (cs, bs) -> cs.length = as.length
 | [], cs, bs, e => by simp only [Z5c, dM, dV] at e; rw [<- e.1]
 | a :: as, cs, bs, e => by
   obtain ⟨p, hp, e1⟩ := Z6 e
   obtain ⟨q, hq, e2⟩ := Z6 e1
   simp only [dM, dV] at e2
   rw [<- e2.1]
   simp [Zj6 (bs := q.2) hq]
theorem Y2q {k off sz c len : Nat} {ad : Option Addr} {cs : Array Value} {t : TypeId} {ty : Nat} {rows : List (List A)} (hcs : w.heap[k]? = some (Obj.cells cs t (0, 0))) (ha : 0 < c -> ad = some ⟨k, off * sz, none⟩) (hlen : rows.length = len) (hlc : len <= c) (hsz : sz = P.cellsOf ty) (hk : S' k)
 (hrow : ∀ (i : Nat) (row : List A), rows[i]? = some row -> row.length = sz /\ Zi row = true)
 (hcell : ∀ (i : Nat) (row : List A) (j : Nat) (x : A), rows[i]? = some row -> row[j]? = some x -> ∃ y, cs[(off + i) * sz + j]? = some y /\ R P Yy S' w x y) :
 R P Yy S' w (.lit ty rows) (.slice ad len c) := by
 suffices hh : R P Yy S' w (.lit ty rows) (.slice ad rows.length c) by rw [hlen] at hh; exact hh
 refine .lit ty rows ad c (fun i j => (cs[(off + i) * sz + j]?).getD undef) (by omega) (fun i row h => by rw [<- hsz]; exact hrow i row h) (fun i row j x h1 h2 => ?_) (fun i row j x h1 h2 => ?_)
 . obtain ⟨y, hy, _⟩ := hcell i row j x h1 h2
   have hi : i < rows.length := (dU.1 h1).1
   refine ⟨k, off * sz, ha (by omega), hk, ?_⟩
   rw [<- hsz]
   have : off * sz + i * sz + j = (off + i) * sz + j := by rw [dL]
   simp [World.cell?, hcs, this, hy]
 . obtain ⟨y, hy, hr⟩ := hcell i row j x h1 h2
   simp only [hy, dD]
   exact hr
theorem Y8h (H : HR P C S w B h) (hS : ∀ k, S k -> S' k) : ∀ (n : Nat) (a c : A) (bs : List Nat) (x : Value), clD h n a = some (c, bs) -> R P C S w a x -> Fast C h bs S' -> R P Yy S' w c x /\ Z1c c = true := by
 intro n
 induction n with
 | zero =>
   intro a c bs x e r hF
   cases r with
   | v x hx => simp only [clD, dM, dV] at e; rw [<- e.1]; exact ⟨.v x hx, rfl⟩
   | lit ty rows a cap Y hcap hl hc hr =>
     simp only [clD, dM, dV] at e
     rw [<- e.1]
     exact ⟨((R.lit ty rows a cap Y hcap hl hc hr : R P Yy S w _ _)).mono (fun _ _ h => h) hS (Ext.refl _ _), rfl⟩
   | _ => simp [clD] at e
 | succ n ih =>
   intro a c bs x e r hF
   cases r with
   | v x hx => simp only [clD, dM, dV] at e; rw [<- e.1]; exact ⟨.v x hx, rfl⟩
   | lit ty rows a cap Y hcap hl hc hr =>
     simp only [clD, dM, dV] at e
     rw [<- e.1]
     exact ⟨((R.lit ty rows a cap Y hcap hl hc hr : R P Yy S w _ _)).mono (fun _ _ h => h) hS (Ext.refl _ _), rfl⟩
   | ref ty b off len cap ex k sz c' ad hb hty hcap hex ha j4 hk =>
     obtain ⟨blk, j2, e1⟩ := Z6 e
     clear e
     split at e1
     . rename_i je
       have hB := H.at_of j2 hb
       have j8 : ((blk.rows.drop off).take len).length = len := by simp; omega
       obtain ⟨cs, j9, _, j0⟩ := hB.heap
       have j3 : ∀ (i : Nat) (row : List A), ((blk.rows.drop off).take len)[i]? = some row -> blk.rows[off + i]? = some row := by
        intro i row h
        rw [dB] at h
        split at h
        . rw [eX] at h; exact h
        . cases h
       cases hbox : blk.box with
       | false =>
         rw [hbox] at e1 j0
         simp only [cond_false, dM, dV] at e1
         obtain ⟨rfl, rfl⟩ := e1
         refine ⟨Y2q j9 ha j8 (by omega) hB.sz_eq (hF b dC blk k sz j2 hb) (fun i row h => hB.rows _ _ (j3 i row h)) (fun i row j x h1 h2 => ?_), rfl⟩
         obtain ⟨y, hy, hr⟩ := j0 _ _ _ _ (j3 i row h1) h2
         exact ⟨y, hy, R.mono (C := Yy) (fun _ _ h => h) hS (Ext.refl _ _) hr⟩
       | true =>
         rw [hbox] at e1 j0
         simp only [cond_true] at e1
         obtain ⟨p, hp, e2⟩ := Z6 e1
         simp only [dM, dV] at e2
         obtain ⟨rfl, rfl⟩ := e2
         obtain ⟨l1, l2⟩ := Zgy (bs := p.2) hp
         have j5 : ∀ (i : Nat) (row : List A), p.1[i]? = some row -> (row.length = sz /\ Zi row = true) /\ ∀ (j : Nat) (x : A), row[j]? = some x -> ∃ y, cs[(off + i) * sz + j]? = some y /\ R P Yy S' w x y := by
          intro i row hi
          obtain ⟨j1, nm, h1, h2, h3⟩ := l2 i row hi
          have j7 := j3 i j1 h1
          have ja := hB.rows _ _ j7
          let vs := (List.range j1.length).map fun m => (cs[(off + i) * sz + m]?).getD undef
          have jc : RL P C S w j1 vs := ⟨by simp [vs], fun m x y e1 e2 => by
           obtain ⟨y', j6, jd⟩ := j0 _ _ _ _ j7 e1
           have hm : m < j1.length := (dU.1 e1).1
           simp [vs, fY hm, j6] at e2
           exact e2 ▸ jd⟩
          obtain ⟨q1, q2⟩ := Zxo (fun a c bs x e r hf => ih a c bs x e r hf) h2 jc (fun b' jb => hF b' (eB _ (h3 b' jb)))
          have j4 := Zj6 h2
          refine ⟨⟨by rw [j4]; exact ja.1, q2⟩, fun j x hx => ?_⟩
          have hj : j < j1.length := by rw [<- j4]; exact (dU.1 hx).1
          obtain ⟨y', j6, _⟩ := j0 _ _ _ _ j7 (dS hj)
          exact ⟨y', j6, q1.at_ j x y' hx (by simp [vs, fY hj, j6])⟩
         exact ⟨Y2q j9 ha (by rw [l1]; exact j8) (by omega) hB.sz_eq (hF b dC blk k sz j2 hb) (fun i row h => (j5 i row h).1) (fun i row j x h1 h2 => (j5 i row h1).2 j x h2), rfl⟩
     . cases e1
   | nil ty b ex hb =>
     obtain ⟨blk, j2, e1⟩ := Z6 e
     clear e
     have fin : ∀ t, R P Yy S' w (.lit t []) (.slice none 0 0) := fun t => .lit t [] none 0 (fun _ _ => undef) (dO _) (fun i row h => by simp at h) (fun i row j x h => by simp at h) (fun i row j x h => by simp at h)
     split at e1
     . simp only [hZ] at e1
       cases hbox : blk.box with
       | false => rw [hbox] at e1; simp only [cond_false, dM, dV] at e1; rw [<- e1.1]; exact ⟨fin _, rfl⟩
       | true => rw [hbox] at e1; simp only [cond_true, Vr, bnd, dM, dV] at e1; rw [<- e1.1]; exact ⟨fin _, rfl⟩
     . cases e1
   | _ => simp [clD] at e
theorem Y2t (H : HR P C S w B h) (hS : ∀ k, S k -> S' k) {a c : A} {bs : List Nat} {x : Value} (e : Zxp h a = some (c, bs)) (r : R P C S w a x) (hF : Fast C h bs S') : R P Yy S' w c x := by
 cases a with
 | agg cs =>
   obtain ⟨p, hp, e1⟩ := Z6 e
   simp only [dM, dV] at e1
   obtain ⟨rfl, rfl⟩ := e1
   cases r with
   | agg cs vs hl hr =>
     obtain ⟨q1, _⟩ := Zxo (fun a c bs x e r hf => Y8h H hS 4 a c bs x e r hf) hp ⟨hl, hr⟩ hF
     exact .agg _ vs q1.len q1.at_
 | _ => exact (Y8h H hS 4 _ c bs x e r hF).1
theorem Zog (H : HR P C S w B h) (hS : ∀ k, S k -> S' k) : ∀ {as cs : List A} {bs : List Nat} {vs : List Value}, Zfx h as = some (cs, bs) -> RL P C S w as vs -> Fast C h bs S' -> RL P Yy S' w cs vs
 | [], cs, bs, vs, e, r, _ => by
   simp only [Zfx, Z5c, dM, dV] at e
   obtain ⟨rfl, rfl⟩ := e
   rw [r.inv_nil]; exact .nil
 | a :: as, cs, bs, vs, e, r, hF => by
   obtain ⟨p, hp, e1⟩ := Z6 e
   obtain ⟨q, hq, e2⟩ := Z6 e1
   simp only [dM, dV] at e2
   obtain ⟨rfl, rfl⟩ := e2
   obtain ⟨x, xs, rfl, r1, r2⟩ := r.inv_cons
   exact .cons (Y2t H hS (bs := p.2) hp r1 (Fast.left hF)) (Zog H hS (as := as) (bs := q.2) hq r2 (Fast.right hF))
theorem Zz7 (H : HR P C S w B h) {as cs : List A} {bs : List Nat} {v : Value} (e : Zfx h as = some (cs, bs)) (r : R P C S w (pack as) v) : R P C (Wk C S h bs) w (pack cs) v := by
 have one : ∀ {as cs : List A}, Zfx h as = some (cs, bs) -> R P C S w (.tup as) v -> R P C (Wk C S h bs) w (.tup cs) v := by
  intro as cs e r
  cases r with
  | tup as vs hl hr =>
    have q := Zog H (S' := Wk C S h bs) (fun _ h => .inl h) e ⟨hl, hr⟩ (Fast.frozen _)
    exact (R.tup cs vs q.len q.at_ : R P Yy _ _ _ _).up
 match as, e, r with
 | [], e, r =>
   have : cs = [] := by
    simp only [Zfx, Z5c, dM, dV] at e
    exact e.1.symm
   subst this
   exact one e r
 | [a], e, r =>
   obtain ⟨p, hp, e1⟩ := Z6 e
   simp only [Z5c, bnd, dM, dV, fD] at e1
   obtain ⟨rfl, rfl⟩ := e1
   exact (Y2t H (S' := Wk C S h p.2) (fun _ h => .inl h) (bs := p.2) hp r (Fast.frozen _)).up
 | a :: b :: as, e, r =>
   have hl := Zj6 (f := Zxp h) (as := a :: b :: as) e
   match cs, hl with
   | c :: d :: cs, _ => exact one e r
theorem Zsj (H : HR P C S w B h) (hB : B <= w.heap.size) {rs : List A} {n : Nat} {v : Value} {bs : List Nat} (hf : ∀ b, X1 n (Yj rs) b -> C b = none) (hflat : Z7j rs = false)
 (hres : Res P (Wk C S h bs) w rs v w') :
 Eff P B C S w (X1 n (Yj rs)) (Yh h n rs).2 (pack (Yh h n rs).1) v w' := by
 obtain ⟨S', j8, j7, j0, j2, j5⟩ := hres
 obtain ⟨ρr, j3, G, hr⟩ := j5 n
 have hd : ∀ b, ρr b ≠ none -> C b = none := fun b hb => by
  by_cases hs : X1 n (Yj rs) b
  . exact hf b hs
  . exact absurd (j3 b hs) hb
 have j6 : ∀ b, C b = none -> ¬ X1 n (Yj rs) b -> Z8s C ρr b = none := fun b h1 h2 => by simp [Z8s, j3 b h2, h1]
 have j1 : Ext S w w' := ⟨fun k hk => j2.same k (.inl hk), j2.size, j2.maps⟩
 have j4 : ∀ k, k < w.heap.size -> w'.heap[k]? = w.heap[k]? := fun k hk => j0.block k hk
 rw [(Z38 rs h n).1, (Z38 rs h n).2]
 obtain ⟨f1, f2⟩ := Zag rs Zgw n hflat
 have G' := G.flatS (S := S) f2 H.old j0.size (H.glob.mono (fun _ h => h) j1)
 have H2 := H.monoS (S' := S) (w' := w') j1 (fun _ h => h) (fun k _ hs => hs) (fun k hk => fK (H.old k hk) j0.size) j4
 have H3 := H2.merge G' hB (fun b blk k sz e e' => H.lt e e') hd
 exact ⟨Z8s C ρr, S, ⟨Z9x hd, fun k hk => hk, j1, j0.mono hB, j6, fun _ h => .inl h⟩, H3, (hr.flats f1).mono (Z76 C ρr) (fun _ h => h) (Ext.refl _ _)⟩
end Go.Vm
namespace Go.Vm
open Go.RowKit
variable {P : Program} {C C' C'' : Rho} {S S' S'' : Nat -> Prop} {w w' w'' : World} {B N : Nat} {h : Hp}
structure SW (P : Program) (C : Rho) (S : Nat -> Prop) (B N : Nat) (U : St) (a : Act) (w : World) : Prop where
 slot : ∀ t, R P C S w (U.s t) (a.tmps.getD t undef)
 size : N <= a.tmps.size
 defers : a.defers = []
 heap : HR P C S w B U.h
 le : B <= w.heap.size
def Z9z (P : Program) (f : Nat) : Prop := ∃ fn, P.funcs[f]? = some fn /\ (fn.name == "runtime.NumGoroutine") = false /\ fn.body.isNone = false
def Y75 (P : Program) (F : List A -> Hp -> Nat -> Option (List A × Hp × Nat)) (f : Nat) : Prop :=
 ∀ (C : Rho) (S : Nat -> Prop) (w : World) (B : Nat) (as : List A) (xs : List Value) (h : Hp) (n : Nat) (rs : List A) (h' : Hp) (n' : Nat), F as h n = some (rs, h', n') ->
  HR P C S w B h -> B <= w.heap.size -> RL P C S w as xs -> (∀ b, n <= b -> C b = none) ->
  Calls P f xs.toArray w fun
   | .returned v, w' => n <= n' /\ ∃ C' S', Mv B C S w C' S' w' (fun b => n <= b) /\ HR P C' S' w' B h' /\ R P C' S' w' (pack rs) v /\ ∀ b, n' <= b -> C' b = none
   | _, _ => False
structure EnvOk (P : Program) (E : Env) : Prop where
 call : ∀ f, Z9f P (E.call f) f
 enter : ∀ f as rs, E.call f as = some rs -> Z9z P f
 dc : ∀ f, Y75 P (E.dc f) f
 dcEnter : ∀ f as h n r, E.dc f as h n = some r -> Z9z P f
 df : ∀ f, Y75 P (E.df f) f
 dfEnter : ∀ f as h n r, E.df f as h n = some r -> Z9z P f
def Znw (o : Oper) (f : Nat) (xs : List Opd) : Bool :=
 match o.op with
 | .call c => (match c.callee with | .value (.func g) => decide (g = f) | _ => false) && Z06 c.args.toList xs
 | _ => false
def Zqs (o : Oper) (y : Opd) (xs : List Opd) : Bool :=
 match o.op with
 | .call c => (match c.callee with | .value x => Yx x y | _ => false) && Z06 c.args.toList xs
 | _ => false
def Zjg (P : Program) (ops : Array Oper) (o : Oper) (op : AOp) : Bool :=
 match op with
 | .mvn _ _ _ => match o.op with
   | .move (.const (.slice none 0 0)) | .assign (.const (.slice none 0 0)) => true
   | _ => false
 | .al _ _ ty zs => match o.op with
   | .alloc e => decide (e = ty) && Zcz P ty zs
   | _ => false
 | .box _ _ ty n x => match o.op with
   | .box e y => decide (e = ty) && Yx y x && decide (n = P.cellsOf ty)
   | _ => false
 | .bld _ _ zs ps => match o.op with
   | .build t parts => Y3z P t parts.toList zs ps
   | _ => false
 | .bsl _ _ ty n xs => match o.op with
   | .buildSlice t len parts => Zd7 P t ty n len parts.toList xs
   | _ => false
 | .st n p x => match o.op with
   | .store t a v => Yx a p && Yx v x && decide (n = P.cellsOf t) && (P.info? t).isSome
   | _ => false
 | .stn _ _ p => match o.op with
   | .store t a (.const (.slice none 0 0)) => Yx a p && decide (1 = P.cellsOf t) && (P.info? t).isSome
   | _ => false
 | .mkf _ f xs => match o.op with
   | .makeFunc (.func g) first cs => decide (g = f) && first.isEmpty && Z06 cs.toList xs
   | _ => false
 | .mks _ _ ty zs l c => match o.op with
   | .makeSlice t a b => Yx a l && Yx b c && Zro P t ty zs
   | _ => false
 | .sl _ e x lo hi mx => match o.op with
   | .slice t y lo' hi' mx' => Yx y x && Zjd lo' lo && Zjd hi' hi && Zjd mx' mx && Ycj P t e hi mx
   | _ => false
 | .mkb _ _ ty zs l c => match o.op with
   | .makeSlice t a b => Yx a l && Yx b c && Zro P t ty zs
   | _ => false
 | .bsb _ _ ty n xs => match o.op with
   | .buildSlice t len parts => Zd7 P t ty n len parts.toList xs
   | _ => false
 | .apb _ _ e s x => match o.op with
   | .call c => (match c.callee, c.args.toList, c.argTypes.toList with | .builtin .append, [a, b], [t, tx] => Yx a s && Yx b x && Zmb P t tx e | _, _, _ => false)
   | _ => false
 | .bll _ ty n xs => match o.op with
   | .buildSlice t len parts => Zd7 P t ty n len parts.toList xs
   | _ => false
 | .callx _ _ _ f xs => Znw o f xs
 | .dcs _ f xs => Znw o f xs
 | .call _ _ _ f xs => Znw o f xs
 | .callv _ _ _ y xs => Zqs o y xs
 | .dcall _ f xs => Znw o f xs
 | .dcf _ f xs => Znw o f xs
 | .dcallv _ y xs => Zqs o y xs
 | .app _ _ e s x => match o.op with
   | .call c => (match c.callee, c.args.toList, c.argTypes.toList with | .builtin .append, [a, b], [t, tx] => Yx a s && Yx b x && Zmb P t tx e | _, _, _ => false)
   | _ => false
 | .clr e zs x => match o.op with
   | .call c => (match c.callee, c.args.toList, c.argTypes.toList with | .builtin .clear, [a], [t] => Yx a x && Y4w P t e zs | _, _, _ => false)
   | _ => false
 | op => Zyn P ops o op
def AOp.names : AOp -> Nat × Nat
 | .mvn _ nm _ => (nm, 1)
 | .al _ nm _ zs => (nm, 1 + (zs.filter V8).length)
 | .box _ nm _ _ _ => (nm, 1)
 | .bld _ nm zs _ => (nm, (zs.filter V8).length)
 | .bsl _ nm _ _ _ => (nm, 1)
 | .stn nm _ _ => (nm, 1)
 | .mks _ nm _ _ _ _ => (nm, 1)
 | .call _ nm w _ _ => (nm, w)
 | .callv _ nm w _ _ => (nm, w)
 | .app _ nm _ _ _ => (nm, 1)
 | .mkb _ nm _ _ _ _ => (nm, 1)
 | .bsb _ nm _ _ _ => (nm, 1)
 | .apb _ nm _ _ _ => (nm, 1)
 | .callx _ nm w _ _ => (nm, w)
 | _ => (0, 0)
def AOp.isD : AOp -> Bool
 | .dcall _ _ _ | .dcf _ _ _ | .dcallv _ _ _ | .dcs _ _ _ => true
 | _ => false
def lays (tot n : Nat) (op : AOp) (b : Nat) : Prop := if op.isD then n + tot <= b else X1 (n + op.names.1) op.names.2 b
structure Fin' (P : Program) (B : Nat) (C : Rho) (S : Nat -> Prop) (w : World) (iv : Nat -> Prop) (D : Bool) (U U' : St) (d : Option Nat) (v : Value) (w' : World) : Prop where
 ex : ∃ u, U' = ⟨put U.s d u, U'.h, U'.n, U.base⟩ /\ ∃ C' S', Mv B C S w C' S' w' iv /\ HR P C' S' w' B U'.h /\ R P C' S' w' u v /\ ((U'.n = U.n /\ (D = false \/ ∀ b, C b = none -> C' b = none)) \/ (U.n <= U'.n /\ ∀ b, U'.n <= b -> C' b = none))
theorem Fin'.of_eff {iv : Nat -> Prop} {U U' : St} {d : Option Nat} {u : A} {v : Value} {hh : Hp} (e : U' = ⟨put U.s d u, hh, U.n, U.base⟩) (q : Eff P B C S w iv hh u v w') {D : Bool} (hD : D = false := by rfl) : Fin' P B C S w iv D U U' d v w' := by
 subst e
 obtain ⟨C', S', M, H, r⟩ := q.ex
 exact ⟨u, rfl, C', S', M, H, r, .inl ⟨rfl, .inl hD⟩⟩
theorem Zbi {ev' : Operand -> Value} {o : Oper} {c : Call} {y : Operand} {f : Nat} {caps : Array Value} (ho : o.op = .call c) (hc : c.callee = .value y) (hv : ev' y = .func (.func f) #[] caps) (hf : Z9z P f) :
 (execOp ev' o).run P w = .ok (.enter f (c.args.map ev' ++ caps)) w := by
 obtain ⟨fn, h1, h2, h3⟩ := hf
 have j0 : ¬ fn.name = "runtime.NumGoroutine" := by simpa using h2
 have j1 : ¬ fn.body = none := fun q => by rw [q] at h3; cases h3
 simp [execOp, ho, resolve, hc, hv, Deferred.ofValue, invoke, callFunc, h1, j0, j1, program, Sem.run]
theorem Zel : ∀ {rs : List A}, plain rs = true -> Yj rs = 0 /\ Z7j rs = false /\ ∀ h n, Yh h n rs = (rs, h)
 | [], _ => ⟨rfl, rfl, fun h n => rfl⟩
 | a :: rs, e => by
   cases a with
   | v x =>
     obtain ⟨e1, e2, e3⟩ := Zel (rs := rs) e
     exact ⟨by simp [Yj, Z83, e1], by simp [Z7j, Zrv, e2], fun h n => by simp [Yh, Z3a, e3]⟩
   | _ => simp [plain] at e
theorem Eff.wide {iv iv' : Nat -> Prop} {hh : Hp} {u : A} {v : Value} (q : Eff P B C S w iv hh u v w') (k : ∀ b, iv b -> iv' b) : Eff P B C S w iv' hh u v w' := by
 obtain ⟨C', S', M, H, r⟩ := q.ex
 exact ⟨C', S', M.wide k, H, r⟩
variable {E : Env}
theorem Zaw (hE : EnvOk P E) (H : HR P C S w B h) (hB : B <= w.heap.size) {o : Oper} {a : Act} {c : Call} {y : Operand} {f : Nat} {as caps cs rs : List A} {us : List Value} {n : Nat} {Q : Exit -> Act -> World -> Prop}
 (ho : o.op = .call c) (hc : c.callee = .value y) (hv : a.eval y = .func (.func f) #[] us.toArray) (ra : RL P C S w as (c.args.toList.map a.eval)) (rc : RL P C S w caps us)
 (e1 : Z0t h (as ++ caps) = some cs) (e2 : E.call f cs = some rs) (hf : ∀ b, X1 n (Yj rs) b -> C b = none) {K : Act -> World -> Prop}
 (k : ∀ v w', Eff P B C S w (X1 n (Yj rs)) (Yh (aft h (as ++ caps) rs) n rs).2 (pack (Yh (aft h (as ++ caps) rs) n rs).1) v w' -> K (a.put o.dst v) w') : o.wp P a w K Q := by
 have j2 := Zqt H (S' := Wk C S h (Xm h (as ++ caps))) (fun _ h => .inl h) e1 (ra.append rc) (Fast.frozen _)
 have j0 := hE.call f _ w _ rs _ e2 (H.freeze (Xm h (as ++ caps))).old (H.freeze (Xm h (as ++ caps))).glob j2
 have j1 : (c.args.toList.map a.eval ++ us).toArray = c.args.map a.eval ++ us.toArray := by
  apply Array.ext'
  simp
 rw [j1] at j0
 unfold Oper.wp
 rw [Zbi ho hc hv (hE.enter f _ _ e2)]
 simp only [Oper.upon]
 refine j0.mono fun e w' he => ?_
 cases e with
 | returned v => exact k v w' (Zuv H hB hf he)
 | _ => exact he.elim
theorem Zn0 (hE : EnvOk P E) (H : HR P C S w B h) (hB : B <= w.heap.size) {o : Oper} {a : Act} {c : Call} {y : Operand} {f : Nat} {as cs rs : List A} {bs : List Nat} {n : Nat} {Q : Exit -> Act -> World -> Prop}
 (ho : o.op = .call c) (hc : c.callee = .value y) (hv : a.eval y = .func (.func f) #[] #[]) (ra : RL P C S w as (c.args.toList.map a.eval))
 (e1 : Zfx h as = some (cs, bs)) (e2 : E.call f cs = some rs) (hflat : Z7j rs = false) (hf : ∀ b, X1 n (Yj rs) b -> C b = none) {K : Act -> World -> Prop}
 (k : ∀ v w', Eff P B C S w (X1 n (Yj rs)) (Yh h n rs).2 (pack (Yh h n rs).1) v w' -> K (a.put o.dst v) w') : o.wp P a w K Q := by
 have j2 := Zog H (S' := Wk C S h bs) (fun _ h => .inl h) e1 ra (Fast.frozen _)
 have j0 := hE.call f _ w _ rs _ e2 (H.freeze bs).old (H.freeze bs).glob j2
 have j1 : (c.args.toList.map a.eval).toArray = c.args.map a.eval ++ #[] := by
  apply Array.ext'
  simp
 rw [j1] at j0
 unfold Oper.wp
 rw [Zbi ho hc hv (hE.enter f _ _ e2)]
 simp only [Oper.upon]
 refine j0.mono fun e w' he => ?_
 cases e with
 | returned v => exact k v w' (Zsj H hB hf hflat he)
 | _ => exact he.elim
theorem Z6p {o : Oper} {f : Nat} {xs : List Opd} (e : Znw o f xs = true) : ∃ c, o.op = .call c /\ c.callee = .value (.func f) /\ Z06 c.args.toList xs = true := by
 unfold Znw at e
 split at e
 . rename_i c hc
   simp only [dQ] at e
   obtain ⟨e1, e2⟩ := e
   split at e1
   . rename_i g hg
     have : g = f := by simpa using e1
     subst this
     exact ⟨c, hc, hg, e2⟩
   . cases e1
 . cases e
theorem Zhc {o : Oper} {y : Opd} {xs : List Opd} (e : Zqs o y xs = true) : ∃ c x, o.op = .call c /\ c.callee = .value x /\ Yx x y = true /\ Z06 c.args.toList xs = true := by
 unfold Zqs at e
 split at e
 . rename_i c hc
   simp only [dQ] at e
   obtain ⟨e1, e2⟩ := e
   split at e1
   . rename_i x hx
     exact ⟨c, x, hc, hx, e1, e2⟩
   . cases e1
 . cases e
theorem Zw5 {a : A} {p : Nat × List A} {x : Value} (e : fnA a = some p) (r : R P C S w a x) : ∃ us : List Value, x = .func (.func p.1) #[] us.toArray /\ RL P C S w p.2 us := by
 cases r with
 | fn f caps vs hp hl hr =>
   simp only [fnA, hp, cond_true, dM] at e
   subst e
   exact ⟨vs, rfl, hl, hr⟩
 | _ => simp [fnA] at e
end Go.Vm
namespace Go.Vm
open Go.RowKit
variable {P : Program} {C C' C'' : Rho} {S S' S'' : Nat -> Prop} {w w' w'' : World} {B N : Nat} {h : Hp} {E : Env}
theorem X6 {o : Oper} {a : Act} {K : Act -> World -> Prop} {Q : Exit -> Act -> World -> Prop} {v : Value} (hr : (execOp a.eval o).run P w = .ok (.value v) w') (k : K (a.put o.dst v) w') : o.wp P a w K Q := by
 unfold Oper.wp
 rw [hr]
 exact k
theorem Zch {o : Oper} {a : Act} {K : Act -> World -> Prop} {Q : Exit -> Act -> World -> Prop} (hr : (execOp a.eval o).run P w = .ok .skip w') (k : K (a.put o.dst undef) w') : o.wp P a w K Q := by
 unfold Oper.wp
 rw [hr]
 exact k
theorem Ya6 {c : Call} {x y : Operand} (h : c.args.toList = [x, y]) : c.args = #[x, y] := by have := congrArg List.toArray h; simpa using this
theorem Ycw {c : Call} {x : Operand} (h : c.args.toList = [x]) : c.args = #[x] := by have := congrArg List.toArray h; simpa using this
theorem Ydj {c : Call} {x y : TypeId} (h : c.argTypes.toList = [x, y]) : c.argTypes = #[x, y] := by have := congrArg List.toArray h; simpa using this
theorem Ye8 {c : Call} {x : TypeId} (h : c.argTypes.toList = [x]) : c.argTypes = #[x] := by have := congrArg List.toArray h; simpa using this
theorem Xl {V J : Type} (x : V) (f : V -> Option J) : bnd (some x) f = f x := rfl
theorem Ybw {a : A} {x : Value} (r : R P C S w a x) {q b : Bool} (hq : q = true) (e : opQ q a = some b) : x = .bool b := by
 subst hq
 cases r with
 | v x hx =>
   cases x <;> simp only [opQ, if_true, reduceCtorEq, dM] at e
   subst e; rfl
 | ifT a x h =>
   cases a <;> simp only [opQ, if_true, reduceCtorEq] at e
   rename_i y
   cases y <;> simp only [reduceCtorEq] at e
   simp [imp] at e
   subst e
   cases h with
   | v _ _ => rfl
 | ifF a =>
   cases a <;> simp only [opQ, if_true, reduceCtorEq] at e
   rename_i y
   cases y <;> simp [imp] at e
 | _ => simp [opQ] at e
theorem Y82 {U : St} {y : Opd} {x : Value} (r : R P C S w (ev U y) x) {q b : Bool} (hq : q = true) (e : evq q U y = some b) : x = .bool b := Ybw r hq e
theorem Zrf (H : HR P C S w B h) {get : Opd -> Option A} {pk : Bool -> Opd -> Option Bool} {ev' : Operand -> Value}
 (hget : ∀ x y v, Yx x y = true -> get y = some v -> R P C S w v (ev' x)) (hpk : ∀ (q : Bool) x y b, Yx x y = true -> pk q y = some b -> q = true -> ev' x = .bool b)
 {ops : Array Oper} {o : Oper} {op : AOp} {u : A} {d : Option Nat} (hy : op.yields = some d) (ok : Zjg P ops o op = true) (eq : Ya E h get pk op = some u) :
 ∃ v, (execOp ev' o).run P w = .ok (.value v) w /\ R P C S w u v := by
 have j0 : Zyn P ops o op = true := by
  cases op <;> first | exact ok | (simp [AOp.yields] at hy)
 exact Zvf H hget hpk j0 eq
theorem Z2h {op : AOp} {d : Option Nat} (hy : op.yields = some d) : op.dst = d /\ op.names = (0, 0) /\ op.isD = false := by
 cases op <;> simp only [AOp.yields, dM, reduceCtorEq] at hy <;> subst hy <;> exact ⟨rfl, rfl, rfl⟩
theorem Z9g (hE : EnvOk P E) (H : HR P C S w B h) (hB : B <= w.heap.size) {o : Oper} {a : Act} {c : Call} {y : Operand} {f : Nat} {as caps rs : List A} {us : List Value} {n n' : Nat} {h' : Hp} {Q : Exit -> Act -> World -> Prop}
 (ho : o.op = .call c) (hc : c.callee = .value y) (hv : a.eval y = .func (.func f) #[] us.toArray) (ra : RL P C S w as (c.args.toList.map a.eval)) (rc : RL P C S w caps us)
 (e2 : E.dc f (as ++ caps) h n = some (rs, h', n')) (hf : ∀ b, n <= b -> C b = none) {K : Act -> World -> Prop}
 (k : ∀ v w', n <= n' -> (∃ C' S', Mv B C S w C' S' w' (fun b => n <= b) /\ HR P C' S' w' B h' /\ R P C' S' w' (pack rs) v /\ ∀ b, n' <= b -> C' b = none) -> K (a.put o.dst v) w') : o.wp P a w K Q := by
 have j0 := hE.dc f C S w B _ _ h n rs h' n' e2 H hB (ra.append rc) hf
 have j1 : (c.args.toList.map a.eval ++ us).toArray = c.args.map a.eval ++ us.toArray := by
  apply Array.ext'
  simp
 rw [j1] at j0
 unfold Oper.wp
 rw [Zbi ho hc hv (hE.dcEnter f _ _ _ _ e2)]
 simp only [Oper.upon]
 refine j0.mono fun e w' he => ?_
 cases e with
 | returned v => exact k v w' he.1 he.2
 | _ => exact he.elim
theorem Zry (hE : EnvOk P E) (H : HR P C S w B h) (hB : B <= w.heap.size) {o : Oper} {a : Act} {c : Call} {y : Operand} {f : Nat} {as caps rs : List A} {us : List Value} {n n' : Nat} {h' : Hp} {Q : Exit -> Act -> World -> Prop}
 (ho : o.op = .call c) (hc : c.callee = .value y) (hv : a.eval y = .func (.func f) #[] us.toArray) (ra : RL P C S w as (c.args.toList.map a.eval)) (rc : RL P C S w caps us)
 (e2 : E.df f (as ++ caps) h n = some (rs, h', n')) (hf : ∀ b, n <= b -> C b = none) {K : Act -> World -> Prop}
 (k : ∀ v w', n <= n' -> (∃ C' S', Mv B C S w C' S' w' (fun b => n <= b) /\ HR P C' S' w' B h' /\ R P C' S' w' (pack rs) v /\ ∀ b, n' <= b -> C' b = none) -> K (a.put o.dst v) w') : o.wp P a w K Q := by
 have j0 := hE.df f C S w B _ _ h n rs h' n' e2 H hB (ra.append rc) hf
 have j1 : (c.args.toList.map a.eval ++ us).toArray = c.args.map a.eval ++ us.toArray := by
  apply Array.ext'
  simp
 rw [j1] at j0
 unfold Oper.wp
 rw [Zbi ho hc hv (hE.dfEnter f _ _ _ _ e2)]
 simp only [Oper.upon]
 refine j0.mono fun e w' he => ?_
 cases e with
 | returned v => exact k v w' he.1 he.2
 | _ => exact he.elim
theorem Ze1 (hE : EnvOk P E) {U U' : St} {a : Act} {tot : Nat} {ops : Array Oper} {o : Oper} {op : AOp} {Q : Exit -> Act -> World -> Prop} (T : SW P C S B N U a w) (ok : Zjg P ops o op = true) (hd : o.dst = op.dst)
 (hf : ∀ b, lays tot U.n op b -> C b = none) (e : step E tot op U = some U') {K : Act -> World -> Prop}
 (k : ∀ v w', Fin' P B C S w (lays tot U.n op) op.isD U U' op.dst v w' -> K (a.put o.dst v) w') : o.wp P a w K Q := by
 have j1 : ∀ x y, Yx x y = true -> R P C S w (ev U y) (a.eval x) := fun x y e => Ze5 T.slot e
 have H := T.heap
 have hB := T.le
 cases op with
 | mvn d nm ty =>
   simp only [step, dM] at e
   have j0 : (execOp a.eval o).run P w = .ok (.value (.slice none 0 0)) w := by
    simp only [Zjg] at ok
    split at ok
    . rename_i ho; simp [execOp, ho, Act.eval]
    . rename_i ho; simp [execOp, ho, Act.eval]
    . cases ok
   have hn : C (U.n + nm) = none := hf _ (by simp [lays, AOp.isD, AOp.names, X1])
   obtain ⟨H1, M1⟩ := H.none_ hn ty
   refine X6 j0 (k _ _ (Fin'.of_eff (u := .ref ty (U.n + nm) 0 0 0 false) e.symm ⟨_, S, M1.wide (fun b hb => by simp only [lays, AOp.isD, AOp.names, X1]; simp; omega), H1, .nil ty _ false (Yv _ _)⟩))
 | al d nm ty zs =>
   simp only [step, dM] at e
   simp only [Zjg] at ok
   split at ok
   . rename_i t ho
     simp only [dQ, eJ] at ok
     obtain ⟨rfl, hz⟩ := ok
     obtain ⟨x, w', hr, hq⟩ := Zyr H hB (n := U.n + nm) (fun b hb => hf b (by simpa [lays, AOp.isD, AOp.names] using hb)) hz
     have j0 : (execOp a.eval o).run P w = .ok (.value x) w' := by simp [execOp, ho, hr]
     exact X6 j0 (k _ _ (Fin'.of_eff e.symm (hq.wide (fun b hb => by simpa [lays, AOp.isD, AOp.names] using hb))))
   . cases ok
 | box d nm ty n x =>
   simp only [step] at e
   split at e
   . rename_i hc
     simp only [dM] at e
     simp only [Zjg] at ok
     split at ok
     . rename_i t y ho
       simp only [dQ, eJ] at ok
       obtain ⟨⟨rfl, hy⟩, rfl⟩ := ok
       obtain ⟨x', w', hr, hq⟩ := Zte H hB (hf (U.n + nm) (by simp [lays, AOp.isD, AOp.names, X1])) (j1 y x hy) hc.1 hc.2
       have j0 : (execOp a.eval o).run P w = .ok (.value x') w' := by simp [execOp, ho, hr]
       exact X6 j0 (k _ _ (Fin'.of_eff e.symm (hq.wide (fun b hb => by simpa [lays, AOp.isD, AOp.names] using hb))))
     . cases ok
   . cases e
 | bld d nm zs ps =>
   simp only [step] at e
   obtain ⟨cs, jb, e1⟩ := Z6 e
   simp only [dM] at e1
   simp only [Zjg] at ok
   split at ok
   . rename_i t parts ho
     obtain ⟨x', w', hr, hq⟩ := Zxf H j1 (n := U.n + nm) (fun b hb => hf b (by simpa [lays, AOp.isD, AOp.names] using hb)) ok jb
     have j0 : (execOp a.eval o).run P w = .ok (.value x') w' := by simp [execOp, ho, hr]
     exact X6 j0 (k _ _ (Fin'.of_eff e1.symm (hq.wide (fun b hb => by simpa [lays, AOp.isD, AOp.names] using hb))))
   . cases ok
 | bsl d nm ty n xs =>
   simp only [step] at e
   obtain ⟨rows, j3, e1⟩ := Z6 e
   simp only [dM] at e1
   simp only [Zjg] at ok
   split at ok
   . rename_i t len parts ho
     obtain ⟨x', w', hr, hq⟩ := Zva H hB rfl j1 (m := U.n + nm) (hf _ (by simp [lays, AOp.isD, AOp.names, X1])) ok j3
     have j0 : (execOp a.eval o).run P w = .ok (.value x') w' := by simp [execOp, ho, hr]
     exact X6 j0 (k _ _ (Fin'.of_eff e1.symm (hq.wide (fun b hb => by simpa [lays, AOp.isD, AOp.names] using hb))))
   . cases ok
 | st n p x =>
   simp only [step] at e
   obtain ⟨hh, jc, e1⟩ := Z6 e
   simp only [dM] at e1
   simp only [Zjg] at ok
   split at ok
   . rename_i t ad vl ho
     simp only [dQ, eJ] at ok
     obtain ⟨⟨⟨h1, h2⟩, h3⟩, h4⟩ := ok
     obtain ⟨w', hr, hq⟩ := Zpi H (j1 _ _ h1) (j1 _ _ h2) h3 h4 jc
     have j0 : (execOp a.eval o).run P w = .ok .skip w' := by simp [execOp, ho, hr]
     exact Zch j0 (k _ _ (Fin'.of_eff e1.symm (hq.wide (fun b hb => hb.elim))))
   . cases ok
 | stn nm ty p =>
   simp only [step] at e
   obtain ⟨hh, jc, e1⟩ := Z6 e
   simp only [dM] at e1
   simp only [Zjg] at ok
   split at ok
   . rename_i t ad ho
     simp only [dQ, eJ] at ok
     obtain ⟨⟨h1, h3⟩, h4⟩ := ok
     obtain ⟨w', hr, hq⟩ := Zun H (j1 _ _ h1) (hf _ (by simp [lays, AOp.isD, AOp.names, X1])) h3 h4 jc
     have hk : a.eval (.const (.slice none 0 0)) = .slice none 0 0 := rfl
     have j0 : (execOp a.eval o).run P w = .ok .skip w' := by simp [execOp, ho, hk, hr]
     exact Zch j0 (k _ _ (Fin'.of_eff e1.symm (hq.wide (fun b hb => by simpa [lays, AOp.isD, AOp.names] using hb))))
   . cases ok
 | mkf d f caps =>
   simp only [step] at e
   split at e
   rotate_left
   . cases e
   rename_i je
   simp only [dM] at e
   simp only [Zjg] at ok
   split at ok
   . rename_i g first cs ho
     simp only [dQ, eJ] at ok
     obtain ⟨⟨rfl, h1⟩, h2⟩ := ok
     have hr := Zum j1 (f := g) h2 je
     have j8 : first = #[] := by simpa using h1
     have j0 : (execOp a.eval o).run P w = .ok (.value (.func (.func g) #[] (cs.toList.map a.eval).toArray)) w := by
      have : (cs.toList.map a.eval).toArray = cs.map a.eval := by apply Array.ext'; simp
      simp [execOp, ho, Instr.makeFunc, j8, this]
     exact X6 j0 (k _ _ (Fin'.of_eff e.symm ⟨C, S, Mv.refl _ _ _ _ _, H, hr⟩))
   . cases ok
 | mks d nm ty zs l c =>
   simp only [step] at e
   simp only [Zjg] at ok
   split at ok
   . rename_i t x y ho
     simp only [dQ] at ok
     obtain ⟨⟨h1, h2⟩, h3⟩ := ok
     obtain ⟨v, w', hr, u, hu, hq⟩ := Ztg H hB (j1 _ _ h1) (j1 _ _ h2) (hf (U.n + nm) (by simp [lays, AOp.isD, AOp.names, X1])) h3 rfl rfl e
     have j0 : (execOp a.eval o).run P w = .ok (.value v) w' := by simp [execOp, ho, hr]
     exact X6 j0 (k _ _ (Fin'.of_eff (u := u) hu (hq.wide (fun b hb => by simpa [lays, AOp.isD, AOp.names] using hb))))
   . cases ok
 | mkb d nm ty zs l c =>
   simp only [step] at e
   simp only [Zjg] at ok
   split at ok
   . rename_i t x y ho
     simp only [dQ] at ok
     obtain ⟨⟨h1, h2⟩, h3⟩ := ok
     obtain ⟨v, w', hr, u, hu, hq⟩ := Zud H hB (j1 _ _ h1) (j1 _ _ h2) (hf (U.n + nm) (by simp [lays, AOp.isD, AOp.names, X1])) h3 rfl rfl e
     have j0 : (execOp a.eval o).run P w = .ok (.value v) w' := by simp [execOp, ho, hr]
     exact X6 j0 (k _ _ (Fin'.of_eff (u := u) hu (hq.wide (fun b hb => by simpa [lays, AOp.isD, AOp.names] using hb))))
   . cases ok
 | bsb d nm ty n xs =>
   simp only [step] at e
   obtain ⟨rows, j3, e1⟩ := Z6 e
   simp only [dM] at e1
   simp only [Zjg] at ok
   split at ok
   . rename_i t len parts ho
     obtain ⟨x', w', hr, hq⟩ := Zx4 H hB j1 (m := U.n + nm) (hf _ (by simp [lays, AOp.isD, AOp.names, X1])) ok j3
     have j0 : (execOp a.eval o).run P w = .ok (.value x') w' := by simp [execOp, ho, hr]
     exact X6 j0 (k _ _ (Fin'.of_eff e1.symm (hq.wide (fun b hb => by simpa [lays, AOp.isD, AOp.names] using hb))))
   . cases ok
 | bll d ty n xs =>
   simp only [step] at e
   obtain ⟨rows, j3, e1⟩ := Z6 e
   simp only [dM] at e1
   simp only [Zjg] at ok
   split at ok
   . rename_i t len parts ho
     obtain ⟨x', w', hr, hq⟩ := Zuy H hB j1 (iv := lays tot U.n (.bll d ty n xs)) ok j3
     have j0 : (execOp a.eval o).run P w = .ok (.value x') w' := by simp [execOp, ho, hr]
     exact X6 j0 (k _ _ (Fin'.of_eff e1.symm hq))
   . cases ok
 | apb d nm t s x =>
   simp only [step] at e
   obtain ⟨ys, jg, e1⟩ := Z6 e
   simp only [Zjg] at ok
   split at ok
   . rename_i c ho
     split at ok
     . rename_i p q t1 t2 hc j2 j6
       simp only [dQ] at ok
       obtain ⟨⟨h1, h2⟩, h3⟩ := ok
       obtain ⟨v, w', hr, u, hu, hq⟩ := Zhi (ty := o.type) H hB (j1 _ _ h1) (j1 _ _ h2) jg (hf _ (by simp [lays, AOp.isD, AOp.names, X1])) h3 e1
       have j0 : (execOp a.eval o).run P w = .ok (.value v) w' := by
        simp [execOp, ho, resolve, hc, Ya6 j2, Ydj j6, invoke, builtin, hr]
       exact X6 j0 (k _ _ (Fin'.of_eff (u := u) hu (hq.wide (fun b hb => by simpa [lays, AOp.isD, AOp.names] using hb))))
     . cases ok
   . cases ok
 | sl d t x lo hi mx =>
   simp only [step] at e
   obtain ⟨u, hu, e1⟩ := Z6 e
   simp only [dM] at e1
   simp only [Zjg] at ok
   split at ok
   . rename_i ty y lo' ji mx' ho
     simp only [dQ] at ok
     obtain ⟨⟨⟨⟨h1, h2⟩, h3⟩, h4⟩, h5⟩ := ok
     obtain ⟨v, hr, hq⟩ := Zzq j1 h2 h3 h4 h5 (j1 _ _ h1) hu
     have j0 : (execOp a.eval o).run P w = .ok (.value v) w := by simp [execOp, ho, hr]
     exact X6 j0 (k _ _ (Fin'.of_eff e1.symm ⟨C, S, Mv.refl _ _ _ _ _, H, hq⟩))
   . cases ok
 | call d nm w' f xs =>
   obtain ⟨c, ho, hc, j5⟩ := Z6p ok
   simp only [step, Z3y] at e
   obtain ⟨cs, jb, e1⟩ := Z6 e
   obtain ⟨rs, ja, e2⟩ := Z6 e1
   split at e2
   . cases e2
   . rename_i hw
     simp only [dM] at e2
     have jh : Z0t U.h (evs U xs ++ []) = some cs := by rw [fD]; exact jb
     refine Zaw hE H hB (n := U.n + nm) (us := []) (caps := []) ho hc rfl (Za4 j1 j5) .nil jh ja (fun b hb => hf b (by simp only [lays, AOp.isD, AOp.names, X1] at hb ⊢; simp; omega)) (fun v w1 hq => k v w1 ?_)
     rw [fD] at hq
     exact Fin'.of_eff e2.symm (hq.wide (fun b hb => by simp only [lays, AOp.isD, AOp.names, X1] at hb ⊢; simp; omega))
 | callx d nm w' f xs =>
   obtain ⟨c, ho, hc, j5⟩ := Z6p ok
   simp only [step, Z5d] at e
   obtain ⟨p, hp, e1⟩ := Z6 e
   obtain ⟨rs, ja, e2⟩ := Z6 e1
   split at e2
   . cases e2
   . rename_i hw
     simp only [dM] at e2
     simp only [not_or, Bool.not_eq_true] at hw
     refine Zn0 hE H hB (n := U.n + nm) (bs := p.2) ho hc rfl (Za4 j1 j5) hp ja hw.2 (fun b hb => hf b (by simp only [lays, AOp.isD, AOp.names, X1] at hb ⊢; simp; omega)) (fun v w1 hq => k v w1 ?_)
     exact Fin'.of_eff e2.symm (hq.wide (fun b hb => by simp only [lays, AOp.isD, AOp.names, X1] at hb ⊢; simp; omega))
 | dcs d f xs =>
   obtain ⟨c, ho, hc, j5⟩ := Z6p ok
   simp only [step, Zo4] at e
   obtain ⟨⟨rs, h', n'⟩, hr, e1⟩ := Z6 e
   obtain ⟨p, hp, e2⟩ := Z6 e1
   simp only [dM] at e2
   have j9 : E.dc f (evs U xs ++ []) U.h (U.n + tot) = some (rs, h', n') := by rw [fD]; exact hr
   refine Z9g hE H hB (us := []) (caps := []) ho hc rfl (Za4 j1 j5) .nil j9 (fun b hb => hf b (by simpa [lays, AOp.isD] using hb)) (fun v w1 hn hq => k v w1 ?_)
   obtain ⟨C', S', M, H', r, j4⟩ := hq
   subst e2
   refine ⟨_, rfl, C', Wk C' S' h' p.2, ?_, H'.freeze p.2, Zz7 H' hp r, .inr ⟨by simp only; omega, j4⟩⟩
   exact (M.trans1 (Z7w H' p.2 _)).wide (fun b hb => by simpa [lays, AOp.isD] using hb)
 | callv d nm w' y xs =>
   obtain ⟨c, x, ho, hc, jf, j5⟩ := Zhc ok
   simp only [step, Z3y] at e
   obtain ⟨p, hp, e0⟩ := Z6 e
   obtain ⟨cs, jb, e1⟩ := Z6 e0
   obtain ⟨rs, ja, e2⟩ := Z6 e1
   obtain ⟨us, jd, j7⟩ := Zw5 hp (j1 _ _ jf)
   split at e2
   . cases e2
   . rename_i hw
     simp only [dM] at e2
     refine Zaw hE H hB (n := U.n + nm) (us := us) (caps := p.2) ho hc jd (Za4 j1 j5) j7 jb ja (fun b hb => hf b (by simp only [lays, AOp.isD, AOp.names, X1] at hb ⊢; simp; omega)) (fun v w1 hq => k v w1 ?_)
     exact Fin'.of_eff e2.symm (hq.wide (fun b hb => by simp only [lays, AOp.isD, AOp.names, X1] at hb ⊢; simp; omega))
 | dcall d f xs =>
   obtain ⟨c, ho, hc, j5⟩ := Z6p ok
   simp only [step, Znh] at e
   obtain ⟨⟨rs, h', n'⟩, hr, e1⟩ := Z6 e
   simp only [dM] at e1
   have j9 : E.dc f (evs U xs ++ []) U.h (U.n + tot) = some (rs, h', n') := by rw [fD]; exact hr
   refine Z9g hE H hB (us := []) (caps := []) ho hc rfl (Za4 j1 j5) .nil j9 (fun b hb => hf b (by simpa [lays, AOp.isD] using hb)) (fun v w1 hn hq => k v w1 ?_)
   obtain ⟨C', S', M, H', r, j4⟩ := hq
   subst e1
   exact ⟨_, rfl, C', S', M.wide (fun b hb => by simpa [lays, AOp.isD] using hb), H', r, .inr ⟨by simp only; omega, j4⟩⟩
 | dcf d f xs =>
   obtain ⟨c, ho, hc, j5⟩ := Z6p ok
   simp only [step, Zfh] at e
   obtain ⟨⟨rs, h', n'⟩, hr, e1⟩ := Z6 e
   split at e1
   case isFalse => cases e1
   simp only [dM] at e1
   have j9 : E.df f (evs U xs ++ []) U.h (U.n + tot) = some (rs, h', n') := by rw [fD]; exact hr
   refine Zry hE H hB (us := []) (caps := []) ho hc rfl (Za4 j1 j5) .nil j9 (fun b hb => hf b (by simpa [lays, AOp.isD] using hb)) (fun v w1 hn hq => k v w1 ?_)
   obtain ⟨C', S', M, H', r, j4⟩ := hq
   subst e1
   exact ⟨_, rfl, C', S', M.wide (fun b hb => by simpa [lays, AOp.isD] using hb), H', r, .inr ⟨by simp only; omega, j4⟩⟩
 | dcallv d y xs =>
   obtain ⟨c, x, ho, hc, jf, j5⟩ := Zhc ok
   simp only [step, Znh] at e
   obtain ⟨p, hp, e0⟩ := Z6 e
   obtain ⟨⟨rs, h', n'⟩, hr, e1⟩ := Z6 e0
   obtain ⟨us, jd, j7⟩ := Zw5 hp (j1 _ _ jf)
   simp only [dM] at e1
   refine Z9g hE H hB (us := us) (caps := p.2) ho hc jd (Za4 j1 j5) j7 hr (fun b hb => hf b (by simpa [lays, AOp.isD] using hb)) (fun v w1 hn hq => k v w1 ?_)
   obtain ⟨C', S', M, H', r, j4⟩ := hq
   subst e1
   exact ⟨_, rfl, C', S', M.wide (fun b hb => by simpa [lays, AOp.isD] using hb), H', r, .inr ⟨by simp only; omega, j4⟩⟩
 | app d nm t s x =>
   simp only [step] at e
   obtain ⟨ys, jg, e1⟩ := Z6 e
   simp only [Zjg] at ok
   split at ok
   . rename_i c ho
     split at ok
     . rename_i p q t1 t2 hc j2 j6
       simp only [dQ] at ok
       obtain ⟨⟨h1, h2⟩, h3⟩ := ok
       obtain ⟨v, w', hr, u, hu, hq⟩ := Zn1 (ty := o.type) H hB (j1 _ _ h1) (j1 _ _ h2) jg (hf _ (by simp [lays, AOp.isD, AOp.names, X1])) h3 e1
       have j0 : (execOp a.eval o).run P w = .ok (.value v) w' := by
        simp [execOp, ho, resolve, hc, Ya6 j2, Ydj j6, invoke, builtin, hr]
       exact X6 j0 (k _ _ (Fin'.of_eff (u := u) hu (hq.wide (fun b hb => by simpa [lays, AOp.isD, AOp.names] using hb))))
     . cases ok
   . cases ok
 | clr t zs x =>
   simp only [step] at e
   simp only [Zjg] at ok
   split at ok
   . rename_i c ho
     split at ok
     . rename_i p t1 hc j2 j6
       simp only [dQ] at ok
       obtain ⟨h1, h3⟩ := ok
       obtain ⟨w', hr, hu, hq⟩ := Zu5 (ty := o.type) H (j1 _ _ h1) h3 e
       have j0 : (execOp a.eval o).run P w = .ok (.value (.tuple #[])) w' := by
        simp [execOp, ho, resolve, hc, Ycw j2, Ye8 j6, invoke, builtin, hr]
       exact X6 j0 (k _ _ (Fin'.of_eff (u := .und) hu (hq.wide (fun b hb => hb.elim))))
     . cases ok
   . cases ok
 | no why => simp [step, AOp.yields, bnd] at e
 | _ =>
   simp only [step, AOp.yields, Xl] at e
   obtain ⟨u, hu, e1⟩ := Z6 e
   simp only [dM] at e1
   obtain ⟨v, hr, hq⟩ := Zrf H (ev' := a.eval) (fun x y v e1 e2 => by simp only [dM] at e2; subst e2; exact j1 x y e1)
    (fun q x y b e1 e2 hq => Y82 (j1 x y e1) hq e2) rfl ok hu
   exact X6 hr (k _ _ (Fin'.of_eff e1.symm ⟨C, S, Mv.refl _ _ _ _ _, H, hq⟩))
def G.op : G -> AOp
 | .o op => op
 | .g _ _ op => op
def Y0i (N : Nat) : Option Nat -> Bool
 | some d => decide (d < N)
 | none => true
def okG (P : Program) (N : Nat) (ops : Array Oper) (o : Oper) (g : G) : Bool :=
 Zjg P ops o g.op && decide (o.dst = g.op.dst) && Y0i N o.dst && match g with
  | .o _ => o.guard.isNone
  | .g slot want _ => match o.guard with
    | some (j, w') => (w' == want) && decide ((ops[j]?).bind (·.dst) = some slot)
    | none => false
theorem Y09 {a : A} {x : Value} (r : R P C S w a x) : R P C S w (unT a) x := by
 unfold unT
 split
 . cases r with
   | ifT a x h => exact h
 . exact r
theorem SW.strip {U : St} {a : Act} (T : SW P C S B N U a w) : SW P C S B N (strip U) a w := ⟨fun t => Y09 (T.slot t), T.size, T.defers, T.heap, T.le⟩
theorem Ybt {a v : A} {x : Value} (r : R P C S w a x) (e : opA true a = some v) : R P C S w v x := by
 unfold opA at e
 split at e
 . rename_i g b
   split at e
   . rename_i hi
     simp only [dM] at e
     subst e
     have hg : g = true := by cases g; simp [imp] at hi; rfl
     subst hg
     cases r with
     | ifT a x h => exact h
   . cases e
 . simp only [dM] at e
   subst e
   exact r
theorem Zw0 {U : St} {ev' : Operand -> Value} (hget : ∀ x y v, Yx x y = true -> evp true U y = some v -> R P C S w v (ev' x)) : ∀ {xs : List Operand} {ys : List Opd} {as : List A}, Z06 xs ys = true -> ys.mapM (fun x => evp true U x) = some as -> RL P C S w as (xs.map ev')
 | [], [], as, _, e => by simp at e; subst e; exact .nil
 | [], _ :: _, _, e, _ => by simp [Z06] at e
 | _ :: _, [], _, e, _ => by simp [Z06] at e
 | x :: xs, y :: ys, as, ok, e => by
   simp only [Z06, dQ] at ok
   rw [gL] at e
   cases hv : evp true U y with
   | none => rw [hv] at e; cases e
   | some v =>
     rw [hv] at e
     cases hvs : ys.mapM (fun x => evp true U x) with
     | none => simp [hvs] at e
     | some vs =>
       simp [hvs] at e
       subst e
       exact .cons (hget x y v ok.1 hv) (Zw0 hget ok.2 hvs)
theorem Zh0 : ∀ (zs : List A) (h : Hp) (n : Nat), Zam zs = false -> Zy h n zs = (zs, h)
 | [], h, n, _ => rfl
 | z :: zs, h, n, e => by
   simp only [Zam, fH] at e
   cases z <;> first | (simp [V8] at e; done) | (simp only [Zy, Zh0 zs h n e.2])
theorem Fin'.under {iv : Nat -> Prop} {U : St} {d : Option Nat} {u : A} {v : Value} {h' : Hp} {D : Bool} (hD : D = false) (q : ∃ C' S', Mv B C S w C' S' w' iv /\ HR P C' S' w' B h' /\ R P C' S' w' u v) : Fin' P B C S w iv D U ⟨put U.s d (.ifg true u), h', U.n, U.base⟩ d v w' := by
 obtain ⟨C', S', M, H, r⟩ := q
 exact ⟨_, rfl, C', S', M, H, .ifT u v r, .inl ⟨rfl, .inl hD⟩⟩
theorem Y41 {U U1 U' : St} {op : AOp} (h : ∃ u, U1 = ⟨put (strip U).s op.dst u, U1.h, U1.n, U.base⟩) (e : back U op.dst U1 = some U') : ∃ u, U1 = ⟨put (strip U).s op.dst u, U1.h, U1.n, U.base⟩ /\ U' = ⟨put U.s op.dst u, U1.h, U1.n, U.base⟩ := by
 obtain ⟨u, hu⟩ := h
 refine ⟨u, hu, ?_⟩
 unfold back at e
 simp only [dM] at e
 rw [<- e, hu]
 cases op.dst with
 | none => rfl
 | some d => simp [put, Z7]
def isB (want : Bool) : Value -> Bool
 | .bool b => b == want
 | _ => false
theorem Y6h {a : A} {x : Value} {want t : Bool} (r : R P C S w a x) (e : Vx want a = some t) : isB want x = t := by
 cases r with
 | v x hx =>
   cases x <;> simp only [Vx, reduceCtorEq, dM] at e
   rename_i b
   cases b <;> cases want <;> simp [isB] at e ⊢ <;> exact e
 | und => simp only [Vx, dM] at e; subst e; rfl
 | ifT a x h =>
   cases a <;> simp only [Vx, cond_true, reduceCtorEq] at e
   rename_i y
   cases y <;> simp only [cond_true, reduceCtorEq, dM] at e
   rename_i b
   cases h with
   | v _ _ => cases b <;> cases want <;> simp [isB] at e ⊢ <;> exact e
 | ifF a =>
   have : t = false := by
    cases a with
    | v y => cases y <;> simp [Vx] at e <;> exact e.symm ▸ rfl
    | _ => simp [Vx] at e; exact e.symm ▸ rfl
   subst this
   rfl
 | _ => simp [Vx] at e
theorem Ze4 {U : St} {a : Act} {ops : Array Oper} {o : Oper} {j slot : Nat} {w1 want t : Bool} (T : SW P C S B N U a w) (hg : o.guard = some (j, w1)) (hw : w1 = want) (hs : (ops[j]?).bind (·.dst) = some slot) (e : Z4g U slot want = some t) :
 Region.wanted o (yielded ops a.tmps) = t := by
 have h1 := Y6h (T.slot slot) e
 unfold Region.wanted
 rw [hg]
 simp only
 unfold yielded
 rw [hs]
 simp only [gD]
 rw [hw]
 rw [gK] at h1
 cases hx : a.tmps[slot]? with
 | none => rw [hx] at h1; simp [isB, undef] at h1; subst h1; rfl
 | some x =>
   rw [hx] at h1
   simp only [dD] at h1
   rw [<- h1]
   cases x <;> first | rfl | (rename_i b; cases b <;> cases want <;> rfl)
theorem Zhy (hE : EnvOk P E) {U U' : St} {a : Act} {tot : Nat} {ops : Array Oper} {i : Nat} {o : Oper} {g : G} {Q : Exit -> Act -> World -> Prop} (hi : ops[i]? = some o) (T : SW P C S B N U a w) (ok : okG P N ops o g = true)
 (hf : ∀ b, lays tot U.n g.op b -> C b = none) (e : Yp E tot g U = some U') {K : Act -> World -> Prop}
 (k : ∀ v w', Fin' P B C S w (lays tot U.n g.op) g.op.isD U U' g.op.dst v w' -> K (a.put o.dst v) w') : wpOp P ops Q i K a w := by
 unfold wpOp
 rw [hi]
 simp only [okG, dQ, eJ] at ok
 obtain ⟨⟨⟨ok1, ok2⟩, jc⟩, ok4⟩ := ok
 cases g with
 | o op =>
   simp only [fZ] at ok4
   have hw : Region.wanted o (yielded ops a.tmps) = true := by unfold Region.wanted; rw [ok4]
   simp only [hw, if_true]
   exact .inl (Ze1 hE T ok1 ok2 hf e k)
 | g slot want op =>
   simp only [G.op] at ok1 ok2 jc hf k
   have j6 : ∃ j w1, o.guard = some (j, w1) /\ w1 = want /\ (ops[j]?).bind (·.dst) = some slot := by
    cases hg : o.guard with
    | none => rw [hg] at ok4; simp at ok4
    | some p =>
      obtain ⟨j, w1⟩ := p
      rw [hg] at ok4
      simp only [dQ, beq_iff_eq, eJ] at ok4
      exact ⟨j, w1, rfl, ok4.1, ok4.2⟩
   obtain ⟨j, w1, hg, hw, hs⟩ := j6
   obtain ⟨t, ht, e1⟩ := Z6 e
   have j1 := Ze4 T hg hw hs ht
   simp only [j1]
   have j0 : ∀ x y v, Yx x y = true -> evp true U y = some v -> R P C S w v (a.eval x) := fun x y v e1 e2 => Ybt (Ze5 T.slot e1) e2
   have j9 : ∀ (q : Bool) x y b, Yx x y = true -> evq (true && q) U y = some b -> q = true -> a.eval x = .bool b := fun q x y b e1 e2 hq => Y82 (Ze5 T.slot e1) (by simp [hq]) e2
   cases t with
   | false =>
     simp only [eH, if_false]
     refine k undef w ?_
     have fin : ∀ u, R P C S w u undef -> Fin' P B C S w (lays tot U.n op) op.isD U ⟨put U.s op.dst u, U.h, U.n, U.base⟩ op.dst undef w := fun u r => ⟨u, rfl, C, S, Mv.refl _ _ _ _ _, T.heap, r, .inl ⟨rfl, .inr fun _ h => h⟩⟩
     split at e1
     . rename_i d hy
       rw [<- (Z2h hy).1] at e1
       unfold Wi at e1
       split at e1
       . simp only [dM] at e1; subst e1; exact fin _ (.ifF _)
       . simp only [cond_false, dM] at e1; subst e1; exact fin _ .und
     . unfold Xv at e1
       split at e1
       . simp only [dM] at e1; subst e1; exact fin _ (.ifF _)
       . simp only [cond_false, dM] at e1; subst e1; exact fin _ .und
   | true =>
     simp only [if_true]
     refine .inl ?_
     split at e1
     . rename_i d hy
       have j3 := (Z2h hy).1
       unfold Wi at e1
       split at e1
       . rename_i u hu
         simp only [dM] at e1
         subst e1
         obtain ⟨v, hr, hq⟩ := Zrf T.heap j0 j9 hy ok1 hu
         refine X6 hr (k v w ?_)
         rw [j3]
         exact Fin'.under (Z2h hy).2.2 ⟨C, S, Mv.refl _ _ _ _ _, T.heap, hq⟩
       . cases e1
     . rename_i hy
       unfold Xv at e1
       split at e1
       . rename_i u hu
         simp only [dM] at e1
         subst e1
         cases op <;> first | (simp [AOp.yields] at hy; done) | (simp [Ya] at hu; done) | skip
         . rename_i d nm zs ps
           cases ps with
           | cons p ps => simp [Ya] at hu
           | nil =>
             simp only [Ya] at hu
             split at hu
             . cases hu
             . rename_i hl
               simp only [dM] at hu
               subst hu
               have hl : Zam zs = false := by simpa using hl
               refine Ze1 (U' := ⟨put U.s (some d) (.agg zs), U.h, U.n, U.base⟩) hE T ok1 ok2 hf ?_ (fun v w' hq => k v w' ?_)
               . simp [step, Zh0 zs _ _ hl, Zd8, bnd, put]
               . obtain ⟨u, hu, C', S', M, H', r, _⟩ := hq.ex
                 have j8 : u = .agg zs := by
                  have := congrFun (congrArg St.s hu) d
                  simp [put, Z7, AOp.dst] at this
                  exact this.symm
                 subst j8
                 exact Fin'.under rfl ⟨C', S', M, H', r⟩
         . rename_i d nm wd f xs
           obtain ⟨c, ho, hc, jd⟩ := Z6p ok1
           simp only [Ya] at hu
           obtain ⟨rs, j2, hp⟩ := Z6 hu
           obtain ⟨cs, j5, j2⟩ := Z6 j2
           obtain ⟨as, has, j5⟩ := Z6 j5
           unfold Zh8 at hp
           split at hp
           . rename_i ja
             simp only [dM] at hp
             subst hp
             obtain ⟨p1, p2, p3⟩ := Zel ja
             have j4 : Z0t U.h (as ++ []) = some cs := by rw [fD]; exact j5
             refine Zaw hE T.heap T.le (n := U.n) (us := []) (caps := []) ho hc rfl (Zw0 j0 jd has) .nil j4 j2 (fun b hb => by rw [p1] at hb; simp [X1] at hb; omega) (fun v w1 hq => k v w1 ?_)
             obtain ⟨C', S', M, H', r⟩ := hq.ex
             rw [p3] at H' r
             simp only [aft, p2] at H' r
             exact Fin'.under rfl ⟨C', S', M.wide (fun b hb => by rw [p1] at hb; simp [X1] at hb; omega), H', r⟩
           . cases hp
       . simp only [cond_true] at e1
         obtain ⟨U1, j7, e2⟩ := Z6 e1
         refine Ze1 hE T.strip ok1 ok2 hf j7 (fun v w' hq => k v w' ?_)
         obtain ⟨u, hu, C', S', M, H', r, hn⟩ := hq.ex
         obtain ⟨u', jb, hσ'⟩ := Y41 ⟨u, hu⟩ e2
         subst hσ'
         cases hd : op.dst with
         | none => exact ⟨u, rfl, C', S', M, H', r, hn⟩
         | some d =>
           have : u' = u := by
            have h1 := congrFun (congrArg St.s (hu.symm.trans jb)) d
            simp [put, Z7, hd] at h1
            exact h1.symm
           subst this
           exact ⟨u', rfl, C', S', M, H', r, hn⟩
theorem Fin'.SW {iv : Nat -> Prop} {U U' : St} {a : Act} {D : Bool} {d : Option Nat} {v : Value} (T : SW P C S B N U a w) (q : Fin' P B C S w iv D U U' d v w') (hd : Y0i N d = true) :
 ∃ C' S', Mv B C S w C' S' w' iv /\ SW P C' S' B N U' (a.put d v) w' /\ U'.base = U.base /\ ((U'.n = U.n /\ (D = false \/ ∀ b, C b = none -> C' b = none)) \/ (U.n <= U'.n /\ ∀ b, U'.n <= b -> C' b = none)) := by
 obtain ⟨u, hu, C', S', M, H', r, hn⟩ := q.ex
 refine ⟨C', S', M, ⟨fun t => ?_, ?_, ?_, H', eI T.le M.below.size⟩, by rw [hu], hn⟩
 . rw [hu]
   cases d with
   | none => exact M.R (T.slot t)
   | some d =>
     simp only [put, Z7, Act.put]
     by_cases ht : t = d
     . subst ht
       have hlt : t < a.tmps.size := fK (by simpa [Y0i] using hd) T.size
       simp [hlt]
       exact r
     . rw [if_neg ht]
       have : (a.tmps.setIfInBounds d v).getD t undef = a.tmps.getD t undef := by
        simp [gK, gR (fun q : d = t => ht q.symm)]
       rw [this]
       exact M.R (T.slot t)
 . cases d with
   | none => exact T.size
   | some d => simp [Act.put, T.size]
 . cases d with
   | none => exact T.defers
   | some d => exact T.defers
theorem Z6n (base : Nat) : ∀ (bs acc : List Nat) (b : Nat), b ∈ Z4z base acc bs ↔ b ∈ acc \/ (b ∈ bs /\ base <= b)
 | [], acc, b => by simp [Z4z]
 | c :: bs, acc, b => by
   unfold Z4z
   split
   . rename_i hc
     rw [Z6n base bs acc b]
     constructor
     . rintro (h | ⟨h, h'⟩)
       . exact .inl h
       . exact .inr ⟨eB _ h, h'⟩
     . rintro (h | ⟨h, h'⟩)
       . exact .inl h
       . rcases eK.1 h with rfl | h
         . rcases hc with hc | hc
           . omega
           . exact .inl hc
         . exact .inr ⟨h, h'⟩
   . rename_i hc
     simp only [not_or] at hc
     rw [Z6n base bs (acc ++ [c]) b]
     simp only [dW, eK, fU, or_false]
     constructor
     . rintro ((h | rfl) | ⟨h, h'⟩)
       . exact .inl h
       . exact .inr ⟨.inl rfl, by omega⟩
       . exact .inr ⟨.inr h, h'⟩
     . rintro (h | ⟨rfl | h, h'⟩)
       . exact .inl (.inl h)
       . exact .inl (.inr rfl)
       . exact .inr ⟨h, h'⟩
structure Names (base : Nat) (ns : List Nat) : Prop where
 nodup : ns.Nodup
 ge : ∀ b ∈ ns, base <= b
theorem Z5s (base : Nat) : ∀ (bs acc : List Nat), Names base acc -> Names base (Z4z base acc bs)
 | [], acc, H => H
 | c :: bs, acc, H => by
   unfold Z4z
   split
   . exact Z5s base bs acc H
   . rename_i hc
     simp only [not_or] at hc
     refine Z5s base bs _ ⟨?_, fun b hb => ?_⟩
     . rw [List.nodup_append]
       exact ⟨H.nodup, by simp, fun x hx y hy e => by simp at hy; subst hy; subst e; exact hc.2 hx⟩
     . simp only [dW, dX] at hb
       rcases hb with hb | rfl
       . exact H.ge b hb
       . omega
theorem Zb0 (base : Nat) (s : Nat -> A) : ∀ (L acc : List Nat), Names base acc -> Names base (Xt base s acc L)
 | [], acc, H => H
 | i :: is, acc, H => Zb0 base s is _ (Z5s base _ acc H)
theorem Zex (base : Nat) (s : Nat -> A) : ∀ (L acc : List Nat) (b : Nat), b ∈ acc -> b ∈ Xt base s acc L
 | [], acc, b, h => h
 | i :: is, acc, b, h => Zex base s is _ b ((Z6n base _ acc b).2 (.inl h))
theorem Zf7 (base : Nat) (s : Nat -> A) : ∀ (L acc : List Nat) (i b : Nat), i ∈ L -> b ∈ Yb (s i) -> base <= b -> b ∈ Xt base s acc L
 | [], acc, i, b, h, _, _ => by simp at h
 | j :: is, acc, i, b, h, hb, hge => by
   unfold Xt
   rcases eK.1 h with rfl | h
   . exact Zex base s is _ b ((Z6n base _ acc b).2 (.inr ⟨hb, hge⟩))
   . exact Zf7 base s is _ i b h hb hge
theorem Zee (base : Nat) (h : Hp) : ∀ (n : Nat) (acc : List Nat), Names base acc -> Names base (Z26 base h n acc)
 | 0, acc, H => H
 | n + 1, acc, H => Zee base h n _ (Z5s base _ acc H)
theorem Zn2 (base : Nat) (h : Hp) : ∀ (n : Nat) (acc : List Nat) (b : Nat), b ∈ acc -> b ∈ Z26 base h n acc
 | 0, acc, b, hb => hb
 | n + 1, acc, b, hb => Zn2 base h n _ b ((Z6n base _ acc b).2 (.inl hb))
def Z3u (base : Nat) (C : Rho) (ns : List Nat) : Rho := fun i => if i < base then C i else match ns[i - base]? with
 | some b => C b
 | none => none
theorem Ztt : ∀ (ns : List Nat) (b k : Nat), b ∈ ns -> k <= Zya ns b k /\ ns[Zya ns b k - k]? = some b
 | [], b, k, h => by simp at h
 | a :: as, b, k, h => by
   unfold Zya
   split
   . rename_i j0
     subst j0
     simp
   . rename_i j0
     rcases eK.1 h with rfl | h
     . exact absurd rfl j0
     . obtain ⟨h1, h2⟩ := Ztt as b (k + 1) h
       refine ⟨by omega, ?_⟩
       rw [show Zya as b (k + 1) - k = (Zya as b (k + 1) - (k + 1)) + 1 by omega]
       simpa using h2
theorem Zwq {base : Nat} {ns : List Nat} {b : Nat} (h : b < base \/ b ∈ ns) : Z3u base C ns (nw base ns b) = C b := by
 unfold nw
 split
 . rename_i hb; simp [Z3u, hb]
 . rename_i hb
   rcases h with h | h
   . exact absurd h hb
   . obtain ⟨h1, h2⟩ := Ztt ns b base h
     unfold Z3u
     rw [if_neg (by omega), h2]
theorem Y2n {base : Nat} {ns : List Nat} {a : A} {x : Value} (r : R P C S w a x) (hn : ∀ b ∈ Yk a, b < base \/ b ∈ ns) : R P (Z3u base C ns) S w (Zk8 base ns a) x := by
 cases r with
 | bad x => exact .bad x
 | err tp x => exact .err tp x
 | und => exact .und
 | v x h => exact .v x h
 | lit ty rows a cap Y h1 h2 h3 h4 => exact .lit ty rows a cap Y h1 h2 h3 h4
 | ref ty b off len cap ex k sz c a hb h2 h3 h4 h5 h6 h7 => exact .ref ty _ off len cap ex k sz c a (by rw [Zwq (hn b (by simp [Yk]))]; exact hb) h2 h3 h4 h5 h6 h7
 | nil ty b ex hb => exact .nil ty _ ex (by rw [Zwq (hn b (by simp [Yk]))]; exact hb)
 | ptr b i j k sz hb => exact .ptr _ i j k sz (by rw [Zwq (hn b (by simp [Yk]))]; exact hb)
 | pl row j k o Y h1 h2 h3 => exact .pl row j k o Y h1 h2 h3
 | fn f c vs h0 h1 h2 => exact .bad _
 | agg cs vs h1 h2 => exact .bad _
 | tup cs vs h1 h2 => exact .bad _
 | ifT a x h => exact .bad _
 | ifF a => exact .bad _
theorem Znl {base : Nat} {ns : List Nat} : ∀ {as : List A} {vs : List Value}, RL P C S w as vs -> (∀ b ∈ Z78 as, b < base \/ b ∈ ns) -> RL P (Z3u base C ns) S w (Zje base ns as) vs
 | [], vs, r, _ => by rw [r.inv_nil]; exact .nil
 | a :: as, vs, r, hn => by
   obtain ⟨x, xs, rfl, r1, r2⟩ := r.inv_cons
   exact .cons (Y2n r1 (fun b hb => hn b (by simp [Z78, hb]))) (Znl r2 (fun b hb => hn b (by simp [Z78, hb])))
theorem Zgg {base : Nat} {ns : List Nat} : ∀ {as : List A}, Wg as = true -> Wg (Zje base ns as) = true
 | [], _ => rfl
 | a :: as, e => by
   simp only [Wg, dQ] at e
   simp only [Zje, Wg, dQ]
   refine ⟨?_, Zgg e.2⟩
   cases a <;> first | rfl | (simp [Zmy] at e)
theorem Y9a {base : Nat} {ns : List Nat} {a : A} {x : Value} (r : R P C S w a x) (hn : ∀ b ∈ Yb a, b < base \/ b ∈ ns) : R P (Z3u base C ns) S w (ren base ns a) x := by
 cases a with
 | fn f caps =>
   cases r with
   | fn f caps vs hp hl hr =>
     have q := Znl (base := base) (ns := ns) ⟨hl, hr⟩ hn
     exact .fn f _ vs (Zgg hp) q.len q.at_
 | agg cs =>
   cases r with
   | agg cs vs hl hr =>
     have q := Znl (base := base) (ns := ns) ⟨hl, hr⟩ hn
     exact .agg _ vs q.len q.at_
 | tup cs => exact .bad _
 | ifg g b => exact .bad _
 | _ => exact Y2n r hn
theorem Y1o {base : Nat} {ns : List Nat} {a : A} (h : Z1c a = true) : Z1c (ren base ns a) = true := by
 cases a <;> first | rfl | (simp [Z1c] at h; done) | skip
theorem Ziu {base : Nat} {ns : List Nat} : ∀ (as : List A) (i : Nat) (x : A), (Zdb base ns as)[i]? = some x -> ∃ y, as[i]? = some y /\ x = ren base ns y
 | [], i, x, h => by simp [Zdb] at h
 | a :: as, i, x, h => by
   cases i with
   | zero => simp [Zdb] at h; exact ⟨a, rfl, h.symm⟩
   | succ i => simp only [Zdb, fF] at h; exact Ziu as i x h
theorem Zqq {base : Nat} {ns : List Nat} : ∀ (as : List A), (Zdb base ns as).length = as.length
 | [] => rfl
 | a :: as => by simp [Zdb, Zqq as]
theorem Zc6 : ∀ {as : List A} {i : Nat} {x : A} {b : Nat}, as[i]? = some x -> b ∈ Yb x -> b ∈ Zg as
 | [], i, x, b, h, _ => by simp at h
 | a :: as, i, x, b, h, hb => by
   simp only [Zg, dW]
   cases i with
   | zero => simp at h; subst h; exact .inl hb
   | succ i => exact .inr (Zc6 (by simpa using h) hb)
theorem Z7b : ∀ {rows : List (List A)} {i : Nat} {row : List A} {b : Nat}, rows[i]? = some row -> b ∈ Zg row -> b ∈ Zn rows
 | [], i, x, b, h, _ => by simp at h
 | r :: rs, i, x, b, h, hb => by
   simp only [Zn, dW]
   cases i with
   | zero => simp at h; subst h; exact .inl hb
   | succ i => exact .inr (Z7b (by simpa using h) hb)
theorem Zdl (base : Nat) (h : Hp) (ns : List Nat) : ∀ (bs : List Nat) (k : Nat) (h' : Hp) (i : Nat), (∀ j, k <= j -> h' j = none) ->
 Z6y base h h' ns bs k i = if i < k then h' i else match bs[i - k]? with
  | some b => (h b).map (Z41 base ns)
  | none => none
 | [], k, h', i, hn => by
   simp only [Z6y]
   split
   . rfl
   . simp; exact hn i (by omega)
 | b :: bs, k, h', i, hn => by
   unfold Z6y
   have step : ∀ g : Hp, (∀ j, k + 1 <= j -> g j = none) -> (∀ j, j < k -> g j = h' j) -> g k = (h b).map (Z41 base ns) -> Z6y base h g ns bs (k + 1) i = if i < k then h' i else match (b :: bs)[i - k]? with
    | some b => (h b).map (Z41 base ns)
    | none => none := by
    intro g hg hl hk
    rw [Zdl base h ns bs (k + 1) g i hg]
    by_cases h1 : i < k
    . rw [if_pos (by omega), if_pos h1, hl i h1]
    . rw [if_neg h1]
      by_cases h2 : i = k
      . subst h2
        rw [if_pos (by omega), hk]
        simp
      . rw [if_neg (by omega), show i - k = (i - (k + 1)) + 1 by omega]
        simp
   cases hb : h b with
   | some blk =>
     simp only
     refine step _ (fun j hj => ?_) (fun j hj => ?_) ?_
     . rw [upd, if_neg (by omega)]; exact hn j (by omega)
     . rw [upd, if_neg (by omega)]
     . simp [upd, hb]
   | none =>
     simp only
     refine step _ (fun j hj => hn j (by omega)) (fun j hj => rfl) ?_
     rw [hb, hn k (dO _)]; rfl
theorem Zn3 {base : Nat} {ns : List Nat} {f : Nat -> Value} {s : Nat -> A} (hs : ∀ t, R P C S w (s t) (f t)) : ∀ (L : List Nat) (s' : Nat -> A), (∀ t, R P (Z3u base C ns) S w (s' t) (f t)) -> (∀ i ∈ L, ∀ b ∈ Yb (s i), b < base \/ b ∈ ns) ->
 ∀ t, R P (Z3u base C ns) S w (Xr base ns s s' L t) (f t)
 | [], s', h', hn, t => h' t
 | i :: is, s', h', hn, t => by
   unfold Xr
   refine Zn3 hs is _ (fun u => ?_) (fun j hj => hn j (eB _ hj)) t
   unfold upd
   split
   . rename_i hu; subst hu; exact Y9a (hs _) (hn _ dC)
   . exact h' u
theorem Zhm {h : Hp} : ∀ {ns : List Nat} {b b' : Nat}, b ∈ ns -> b' ∈ below h b -> b' ∈ Z6v h ns
 | [], b, b', h, _ => by simp at h
 | n :: ns, b, b', hb, hb' => by
   simp only [Z6v, dW]
   rcases eK.1 hb with rfl | hb
   . exact .inl hb'
   . exact .inr (Zhm hb hb')
theorem R.lowR1 {base : Nat} {ns : List Nat} {a : A} {x : Value} (r : R P C S w a x) (hn : ∀ b ∈ Yk a, b < base) (hf : ∀ f c, a ≠ .fn f c) (ha : ∀ c, a ≠ .agg c) (ht : ∀ c, a ≠ .tup c) (hi : ∀ g c, a ≠ .ifg g c) : R P (Z3u base C ns) S w a x := by
 cases r with
 | bad x => exact .bad x
 | err tp x => exact .err tp x
 | und => exact .und
 | v x h => exact .v x h
 | lit ty rows a cap Y h1 h2 h3 h4 => exact .lit ty rows a cap Y h1 h2 h3 h4
 | ref ty b off len cap ex k sz c a hb h2 h3 h4 h5 h6 h7 => exact .ref ty _ off len cap ex k sz c a (by simp [Z3u, hn b (by simp [Yk])]; exact hb) h2 h3 h4 h5 h6 h7
 | nil ty b ex hb => exact .nil ty _ ex (by simp [Z3u, hn b (by simp [Yk])]; exact hb)
 | ptr b i j k sz hb => exact .ptr _ i j k sz (by simp [Z3u, hn b (by simp [Yk])]; exact hb)
 | pl row j k o Y h1 h2 h3 => exact .pl row j k o Y h1 h2 h3
 | fn f c vs h0 h1 h2 => exact absurd rfl (hf f c)
 | agg cs vs h1 h2 => exact absurd rfl (ha cs)
 | tup cs vs h1 h2 => exact absurd rfl (ht cs)
 | ifT a x h => exact absurd rfl (hi _ _)
 | ifF a => exact absurd rfl (hi _ _)
theorem Znu : ∀ {as : List A} {i : Nat} {x : A}, Wg as = true -> as[i]? = some x -> Zmy x = true
 | [], i, x, _, h => by simp at h
 | a :: as, i, x, e, h => by
   simp only [Wg, dQ] at e
   cases i with
   | zero => simp at h; subst h; exact e.1
   | succ i => exact Znu e.2 (by simpa using h)
theorem Zf6 : ∀ {as : List A} {i : Nat} {x : A} {b : Nat}, as[i]? = some x -> b ∈ Yk x -> b ∈ Z78 as
 | [], i, x, b, h, _ => by simp at h
 | a :: as, i, x, b, h, hb => by
   simp only [Z78, dW]
   cases i with
   | zero => simp at h; subst h; exact .inl hb
   | succ i => exact .inr (Zf6 (by simpa using h) hb)
theorem R.lowR {base : Nat} {ns : List Nat} {a : A} {x : Value} (r : R P C S w a x) (hc : Z1c a = true) (hn : ∀ b ∈ Yb a, b < base) : R P (Z3u base C ns) S w a x := by
 cases a with
 | fn f caps =>
   cases r with
   | fn f caps vs hp hl hr =>
     refine .fn f caps vs hp hl (fun i x y h1 h2 => ?_)
     have j0 := Znu hp h1
     refine (hr i x y h1 h2).lowR1 (fun b hb => hn b (Zf6 h1 hb)) ?_ ?_ ?_ ?_ <;> intros <;> intro q <;> subst q <;> simp [Zmy] at j0
 | agg cs => simp [Z1c] at hc
 | tup cs => simp [Z1c] at hc
 | ifg g b => simp [Z1c] at hc
 | _ => exact r.lowR1 hn (by simp) (by simp) (by simp) (by simp)
def Lo (base : Nat) (h : Hp) : Prop := ∀ b, b < base -> ∀ k, h b = some k -> k.box = true -> ∀ b' ∈ Zn k.rows, b' < base
theorem BR.ren {base : Nat} {ns : List Nat} {blk : Blk} {k sz : Nat} (b : BR P C S w B blk k sz) (hn : blk.box = true -> ∀ b' ∈ Zn blk.rows, b' < base \/ b' ∈ ns) : BR P (Z3u base C ns) S w B (Z41 base ns blk) k sz := by
 unfold Z41
 split
 . rename_i j0
   refine ⟨b.sz_eq, b.base, b.own, b.not_own, fun i row hr => ?_, ?_⟩
   . simp only [eN, fW] at hr
     obtain ⟨j2, h0, rfl⟩ := hr
     obtain ⟨q1, q2⟩ := b.rows i j2 h0
     refine ⟨by rw [Zqq]; exact q1, Yz.2 (fun x hx => ?_)⟩
     obtain ⟨i, hi⟩ := eU hx
     obtain ⟨y, hy, rfl⟩ := Ziu _ _ _ hi
     exact Y1o (Yz.1 q2 y (dY hy))
   . obtain ⟨c, hc, hs, j1⟩ := b.heap
     refine ⟨c, hc, by simpa using hs, fun i row j x h1 h2 => ?_⟩
     simp only [eN, fW] at h1
     obtain ⟨j2, h0, rfl⟩ := h1
     obtain ⟨y, hy, rfl⟩ := Ziu _ _ _ h2
     obtain ⟨v, hv, hr⟩ := j1 i j2 j y h0 hy
     rw [j0] at hr
     refine ⟨v, hv, ?_⟩
     simp only [j0, inR, cond_true] at hr ⊢
     exact Y9a hr (fun b' j3 => hn j0 b' (Z7b h0 (Zc6 hy j3)))
 . rename_i j0
   have j0 : blk.box = false := by simpa using j0
   obtain ⟨c, hc, hs, j1⟩ := b.heap
   refine ⟨b.sz_eq, b.base, b.own, b.not_own, b.rows, c, hc, hs, fun i row j x h1 h2 => ?_⟩
   obtain ⟨v, hv, hr⟩ := j1 i row j x h1 h2
   rw [j0] at hr ⊢
   exact ⟨v, hv, hr⟩
theorem Zeq {L : List Nat} {U U' : St} {a : Act} (T : SW P C S B N U a w) (hlo : Lo U.base U.h) (e : canon L U = some U') :
 ∃ C', SW P C' S B N U' a w /\ (∀ b, b < U.base -> C' b = C b) /\ (∀ b, U'.n <= b -> C' b = none) /\ U'.base = U.base /\ U.base <= U'.n := by
 unfold canon Zec at e
 have j8 : Names U.base (Z26 U.base U.h 2 (Xt U.base U.s [] L)) := Zee _ _ _ _ (Zb0 _ _ _ _ ⟨List.nodup_nil, fun b h => by simp at h⟩)
 have j2 : ∀ i ∈ L, ∀ b ∈ Yb (U.s i), b < U.base \/ b ∈ Z26 U.base U.h 2 (Xt U.base U.s [] L) := fun i hi b hb => by
  rcases Nat.lt_or_ge b U.base with h | h
  . exact .inl h
  . exact .inr (Zn2 _ _ _ _ _ (Zf7 _ _ _ _ i b hi hb h))
 generalize hN : Z26 U.base U.h 2 (Xt U.base U.s [] L) = ns at e j8 j2
 cases hcl : Zf8 U.base U.h ns with
 | false => rw [hcl] at e; cases e
 | true =>
   rw [hcl] at e
   simp only [cond_true, dM] at e
   subst e
   have jb : ∀ b ∈ Z6v U.h ns, b < U.base \/ b ∈ ns := by
    intro b hb
    have := cY.1 hcl b hb
    simpa using this
   have H := T.heap
   refine ⟨Z3u U.base C ns, ⟨Zn3 T.slot L _ (fun t => .bad _) j2, T.size, T.defers, ?_, T.le⟩, fun b hb => by simp [Z3u, hb], fun b hb => ?_, rfl, by simp⟩
   . -- the rows
     have jc : ∀ b blk, Z6y U.base U.h (low U.base U.h) ns ns U.base b = some blk -> (b < U.base /\ U.h b = some blk) \/ (∃ b0 j0, U.base <= b /\ ns[b - U.base]? = some b0 /\ U.h b0 = some j0 /\ blk = Z41 U.base ns j0) := by
      intro b blk hb
      rw [Zdl _ _ _ _ _ _ _ (fun j hj => by simp [low]; omega)] at hb
      split at hb
      . rename_i hlt
        simp [low, hlt] at hb
        exact .inl ⟨hlt, hb⟩
      . rename_i j4
        split at hb
        . rename_i b0 h0
          simp only [fW] at hb
          obtain ⟨j0, h1, rfl⟩ := hb
          exact .inr ⟨b0, j0, by omega, h0, h1, rfl⟩
        . cases hb
     have j5 : ∀ b b0, U.base <= b -> ns[b - U.base]? = some b0 -> Z3u U.base C ns b = C b0 := fun b b0 h1 h2 => by
      unfold Z3u
      rw [if_neg (by omega), h2]
     refine ⟨fun b blk hb => ?_, fun b b' k sz sz' blk blk' e1 e2 e3 e4 => ?_, H.old, H.glob⟩
     . rcases jc b blk hb with ⟨hlt, h1⟩ | ⟨b0, j0, j4, h0, h1, rfl⟩
       . have hr : Z3u U.base C ns b = C b := by simp [Z3u, hlt]
         rw [hr]
         rcases H.at_ b blk h1 with ⟨k, sz, j3, hB⟩ | hv
         . refine .inl ⟨k, sz, j3, ?_⟩
           have j6 : ∀ {x y}, R P (inR blk.box C) S w x y -> (blk.box = true -> ∀ b' ∈ Yb x, b' < U.base) -> Z1c x = true -> R P (inR blk.box (Z3u U.base C ns)) S w x y := by
            intro x y r hx jf
            cases j1 : blk.box with
            | false => rw [j1] at r; exact r
            | true =>
              rw [j1] at r
              exact R.lowR r jf (hx j1)
           obtain ⟨c, hc, hs, j7⟩ := hB.heap
           refine ⟨hB.sz_eq, hB.base, hB.own, hB.not_own, hB.rows, c, hc, hs, fun i row j x q1 q2 => ?_⟩
           obtain ⟨v, hv, je⟩ := j7 i row j x q1 q2
           exact ⟨v, hv, j6 je (fun j1 b' j3 => hlo b hlt blk h1 j1 b' (Z7b q1 (Zc6 q2 j3))) (Yz.1 (hB.rows i row q1).2 x (dY q2))⟩
         . exact .inr hv
       . rw [j5 b b0 j4 h0]
         have ja : b0 ∈ ns := dY h0
         rcases H.at_ b0 j0 h1 with ⟨k, sz, j3, hB⟩ | ⟨j3, hr, hx⟩
         . refine .inl ⟨k, sz, j3, hB.ren (fun j1 b' j9 => jb b' (Zhm ja ?_))⟩
           simp only [below, h1, j1, if_true]
           exact j9
         . refine .inr ⟨j3, ?_, ?_⟩ <;> simp [Z41, hx, hr]
     . have src : ∀ b blk k sz, Z6y U.base U.h (low U.base U.h) ns ns U.base b = some blk -> Z3u U.base C ns b = some (some (k, sz)) -> ∃ b0 j0, U.h b0 = some j0 /\ C b0 = some (some (k, sz)) /\ ((b < U.base /\ b0 = b) \/ (U.base <= b /\ ns[b - U.base]? = some b0)) := by
        intro b blk k sz e1 e3
        rcases jc b blk e1 with ⟨hlt, h1⟩ | ⟨b0, j0, j4, h0, h1, _⟩
        . have hr : Z3u U.base C ns b = C b := by simp [Z3u, hlt]
          rw [hr] at e3
          exact ⟨b, blk, h1, e3, .inl ⟨hlt, rfl⟩⟩
        . rw [j5 b b0 j4 h0] at e3
          exact ⟨b0, j0, h1, e3, .inr ⟨j4, h0⟩⟩
       obtain ⟨c1, k1, p1, r1, s1⟩ := src b blk k sz e1 e3
       obtain ⟨c2, k2, p2, r2, s2⟩ := src b' blk' k sz' e2 e4
       have hc := H.inj c1 c2 k sz sz' k1 k2 p1 p2 r1 r2
       subst hc
       rcases s1 with ⟨l1, rfl⟩ | ⟨g1, o1⟩ <;> rcases s2 with ⟨l2, q2⟩ | ⟨g2, o2⟩
       . exact q2
       . have := j8.ge _ (dY o2); omega
       . have := j8.ge _ (dY o1); omega
       . have i1 := (dU.1 o1).1
         have i2 := (dU.1 o2).1
         rw [dS i1] at o1
         rw [dS i2] at o2
         simp only [dM] at o1 o2
         have hp := List.pairwise_iff_getElem.1 j8.nodup
         rcases Nat.lt_trichotomy (b - U.base) (b' - U.base) with hlt | jg | jd
         . exact absurd (o1.trans o2.symm) (hp _ _ i1 i2 hlt)
         . omega
         . exact absurd (o2.trans o1.symm) (hp _ _ i2 i1 jd)
   . unfold Z3u
     simp only at hb
     rw [if_neg (by omega), eY (by omega)]
end Go.Vm
namespace Go.Vm
theorem Shr.refl (base : Nat) (h : Hp) : Shr base h h := fun b _ k e hb => ⟨k, e, hb, fun _ h => h⟩
theorem Shr.trans {base : Nat} {h h' h'' : Hp} (a : Shr base h h') (c : Shr base h' h'') : Shr base h h'' := fun b hb k e hx => by
 obtain ⟨k1, e1, x1, n1⟩ := c b hb k e hx
 obtain ⟨k2, e2, x2, n2⟩ := a b hb k1 e1 x1
 exact ⟨k2, e2, x2, fun b' h => n2 b' (n1 b' h)⟩
theorem Shr.mono {base base' : Nat} {h h' : Hp} (a : Shr base h h') (hb : base' <= base) : Shr base' h h' := fun b h => a b (by omega)
theorem Shr.of_same {base : Nat} {h h' : Hp} (a : ∀ b, b < base -> h' b = h b) : Shr base h h' := fun b hb k e hx => ⟨k, (a b hb).symm.trans e, hx, fun _ h => h⟩
theorem Shr.frz (base : Nat) (h : Hp) (bs : List Nat) : Shr base h (frz h bs) := fun b hb k e hx => by
 rw [Zd6] at e
 cases e0 : h b with
 | none => rw [e0] at e; cases e
 | some k0 =>
   rw [e0] at e
   simp only [dM] at e
   subst e
   refine ⟨k0, rfl, ?_, fun b' h => ?_⟩
   . split at hx <;> exact hx
   . split at h <;> exact h
theorem Shr.upd_ge {base n : Nat} {h : Hp} {x : Option Blk} (hn : base <= n) : Shr base h (upd h n x) := Shr.of_same fun b hb => by rw [upd, if_neg (by omega)]
theorem Shr.kill {base b0 : Nat} {h : Hp} : Shr base h (upd h b0 none) := fun b hb k e hx => by
 unfold upd at e
 split at e
 . cases e
 . exact ⟨k, e, hx, fun _ h => h⟩
theorem Shr.nobox {base b0 : Nat} {h : Hp} {k0 : Blk} (hk : k0.box = false) : Shr base h (upd h b0 (some k0)) := fun b hb k e hx => by
 unfold upd at e
 split at e
 . simp only [dM] at e; subst e; rw [hk] at hx; cases hx
 . exact ⟨k, e, hx, fun _ h => h⟩
theorem Z49 : ∀ (zs : List A) (h : Hp) (n b : Nat), b < n -> (Zy h n zs).2 b = h b
 | [], h, n, b, _ => rfl
 | z :: zs, h, n, b, hb => by
   cases z with
   | lit ty r =>
     simp only [Zy]
     rw [Z49 zs _ (n + 1) b (by omega), upd, if_neg (by omega)]
   | _ => simp only [Zy]; exact Z49 zs h n b hb
theorem Z7y : ∀ (as : List A) (h : Hp) (n b : Nat), b < n -> (Zz h n as).2 b = h b
 | [], h, n, b, _ => rfl
 | a :: as, h, n, b, hb => by
   cases a with
   | olit ty r =>
     simp only [Zz]
     rw [Z7y as _ (n + 1) b (by omega), upd, if_neg (by omega)]
   | _ => simp only [Zz]; exact Z7y as h n b hb
theorem Zoa (a : A) (h : Hp) (n b : Nat) (hb : b < n) : (Z3a h n a).2 b = h b := by
 cases a with
 | agg cs => exact Z7y cs h n b hb
 | olit ty r => simp only [Z3a]; rw [upd, if_neg (by omega)]
 | _ => rfl
theorem Z9h : ∀ (as : List A) (h : Hp) (n b : Nat), b < n -> (Yh h n as).2 b = h b
 | [], h, n, b, _ => rfl
 | a :: as, h, n, b, hb => by
   simp only [Yh]
   rw [Z9h as _ _ b (by omega), Zoa a h n b hb]
theorem Ze0 : ∀ {cs : List A}, Zem 0 cs = false -> ∀ x ∈ cs, Yb x = []
 | [], _, x, h => by simp at h
 | c :: cs, e, x, h => by
   simp only [Zem, fH] at e
   rcases eK.1 h with rfl | h
   . cases x <;> simp [Y55] at e <;> rfl
   . exact Ze0 e.2 x h
theorem Zsg {as : List A} {b : Nat} : b ∈ Zg as ↔ ∃ x ∈ as, b ∈ Yb x := by
 induction as with
 | nil => simp [Zg]
 | cons a as ih => simp [Zg, ih]
theorem Zbw {rows : List (List A)} {b : Nat} : b ∈ Zn rows ↔ ∃ r ∈ rows, ∃ x ∈ r, b ∈ Yb x := by
 induction rows with
 | nil => simp [Zn]
 | cons r rs ih => simp [Zn, ih, Zsg]
theorem Ze3 {base : Nat} {h h' : Hp} {p x : A} {n : Nat} (e : storeAt base h p n x = some h') : Shr base h h' := by
 unfold storeAt at e
 split at e
 . rename_i b i j
   obtain ⟨k, hk, e1⟩ := Z6 e
   obtain ⟨row, j2, e2⟩ := Z6 e1
   unfold Z7t at e2
   split at e2
   . split at e2
     . rename_i j0
       split at e2
       . cases e2
       . rename_i j4
         simp only [dM] at e2
         subst e2
         intro b1 j7 k1 q1 hx
         unfold upd at q1
         split at q1
         . rename_i j6
           subst j6
           simp only [dM] at q1
           subst q1
           refine ⟨k, hk, j0, fun b' j5 => ?_⟩
           have j3 : Zem 0 x.cells = false := by
            cases hq : Zem 0 x.cells with
            | false => rfl
            | true => exact absurd ⟨j7, hq⟩ j4
           rw [Zbw] at j5 ⊢
           obtain ⟨r, hr, y, hy, j1⟩ := j5
           rcases fB hr with hr | hr
           . exact ⟨r, hr, y, hy, j1⟩
           . subst hr
             unfold Z3e at hy
             simp only [dW] at hy
             rcases hy with (hy | hy) | hy
             . exact ⟨row, dY j2, y, fC hy, j1⟩
             . rw [Ze0 j3 y hy] at j1; simp at j1
             . exact ⟨row, dY j2, y, eS hy, j1⟩
         . exact ⟨k1, q1, hx, fun _ h => h⟩
     . rename_i j0
       obtain ⟨cs, j8, e3⟩ := Z6 e2
       simp only [dM] at e3
       subst e3
       exact (Shr.nobox (by simpa using j0)).trans (Shr.frz _ _ _)
   . cases e2
 . cases e
structure Keeps (U U' : St) : Prop where
 base : U'.base = U.base
 n : U.n <= U'.n
 shr : Shr U.base U.h U'.h
theorem Keeps.refl (U : St) : Keeps U U := ⟨rfl, dO _, Shr.refl _ _⟩
theorem Keeps.trans {a b c : St} (h : Keeps a b) (k : Keeps b c) : Keeps a c := ⟨k.base.trans h.base, eI h.n k.n, h.shr.trans (h.base ▸ k.shr)⟩
def Z29 (E : Env) : Prop := (∀ f as h n rs h' n', E.dc f as h n = some (rs, h', n') -> Shr n h h' /\ n <= n') /\ ∀ f as h n rs h' n', E.df f as h n = some (rs, h', n') -> n <= n'
variable {E : Env}
theorem Y1l {U U' : St} {d nm e : Nat} {ys : List (List A)} {a : A} (hb : U.base <= U.n) (eq : Zr4 U d nm e ys a = some U') : Keeps U U' := by
 unfold Zr4 at eq
 split at eq
 . obtain ⟨k, hk, e1⟩ := Z6 eq
   split at e1
   . rename_i hc
     split at e1
     . simp only [dM] at e1; subst e1
       exact ⟨rfl, dO _, Shr.kill.trans (Shr.upd_ge (by omega))⟩
     . split at e1
       . simp only [dM] at e1; subst e1
         exact ⟨rfl, dO _, Shr.nobox hc.2.1⟩
       . cases e1
   . cases e1
 . cases eq
theorem Zgx {U U' : St} {d : Option Nat} {nm w f : Nat} {as : List A} (hb : U.base <= U.n) (eq : Z3y E U d nm w f as = some U') : Keeps U U' := by
 unfold Z3y at eq
 obtain ⟨xs, _, e1⟩ := Z6 eq
 obtain ⟨rs, _, e2⟩ := Z6 e1
 split at e2
 . cases e2
 . simp only [dM] at e2; subst e2
   refine ⟨rfl, dO _, Shr.trans (h' := aft U.h as rs) ?_ (Shr.of_same fun b j0 => Z9h _ _ _ _ (by omega))⟩
   unfold aft
   split
   . exact Shr.frz _ _ _
   . exact Shr.refl _ _
theorem Zfa {E : Env} {N : List Nat} {f : Nat} {as : List A} {h : Hp} {n : Nat} {r : List A × Hp × Nat} (e : (chk E N).dc f as h n = some r) : E.dc f as h n = some r /\ Z28 N h r.2.1 := by
 obtain ⟨r', hr, e1⟩ := Z6 e
 split at e1
 . rename_i hk
   cases e1
   exact ⟨hr, hk⟩
 . cases e1
theorem Zwy (hE : Z29 E) (N : List Nat) : Z29 (chk E N) := ⟨fun f as h n rs h' n' e => hE.1 f as h n rs h' n' (Zfa e).1, hE.2⟩
theorem Zqf (hE : Z29 E) {U U' : St} {tot : Nat} {d : Option Nat} {f : Nat} {as : List A} (hb : U.base <= U.n) (eq : Znh E tot U d f as = some U') : Keeps U U' := by
 unfold Znh at eq
 obtain ⟨⟨rs, h', n'⟩, hr, e1⟩ := Z6 eq
 simp only [dM] at e1; subst e1
 obtain ⟨q1, q2⟩ := hE.1 _ _ _ _ _ _ _ hr
 exact ⟨rfl, by simp only; omega, q1.mono (by omega)⟩
theorem Zqb (hE : Z29 E) {U U' : St} {tot : Nat} {op : AOp} (hb : U.base <= U.n) (e : step E tot op U = some U') : Keeps U U' := by
 cases op with
 | mvn d nm ty => simp only [step, dM] at e; subst e; exact ⟨rfl, dO _, Shr.upd_ge (by omega)⟩
 | al d nm ty zs =>
   simp only [step, dM] at e; subst e
   exact ⟨rfl, dO _, Shr.trans (Shr.of_same fun b j0 => Z49 zs _ _ _ (by omega)) (Shr.upd_ge (by omega))⟩
 | box d nm ty n x =>
   simp only [step] at e
   split at e
   . simp only [dM] at e; subst e; exact ⟨rfl, dO _, Shr.upd_ge (by omega)⟩
   . cases e
 | bld d nm zs ps =>
   simp only [step] at e
   obtain ⟨cs, _, e1⟩ := Z6 e
   simp only [dM] at e1; subst e1
   exact ⟨rfl, dO _, Shr.of_same fun b j0 => Z49 zs _ _ _ (by omega)⟩
 | bsl d nm ty n xs =>
   simp only [step] at e
   obtain ⟨cs, _, e1⟩ := Z6 e
   simp only [dM] at e1; subst e1
   exact ⟨rfl, dO _, (Shr.upd_ge (by omega)).trans (Shr.frz _ _ _)⟩
 | st n p x =>
   simp only [step] at e
   obtain ⟨hh, h1, e1⟩ := Z6 e
   simp only [dM] at e1; subst e1
   exact ⟨rfl, dO _, Ze3 h1⟩
 | stn nm ty p =>
   simp only [step] at e
   obtain ⟨hh, h1, e1⟩ := Z6 e
   simp only [dM] at e1; subst e1
   exact ⟨rfl, dO _, (Shr.upd_ge (by omega)).trans (Ze3 h1)⟩
 | mkf d f caps =>
   simp only [step] at e
   split at e
   . simp only [dM] at e; subst e; exact ⟨rfl, dO _, Shr.refl _ _⟩
   . cases e
 | mks d nm ty zs l c =>
   simp only [step] at e
   unfold Y30 at e
   split at e
   . split at e
     . simp only [dM] at e; subst e; exact ⟨rfl, dO _, Shr.upd_ge (by omega)⟩
     . cases e
   . cases e
 | sl d t x lo hi mx =>
   simp only [step] at e
   obtain ⟨u, _, e1⟩ := Z6 e
   simp only [dM] at e1; subst e1; exact ⟨rfl, dO _, Shr.refl _ _⟩
 | call d nm w f xs => exact Zgx hb e
 | mkb d nm ty zs l c =>
   simp only [step] at e
   unfold Y33 at e
   split at e
   . split at e
     . simp only [dM] at e; subst e; exact ⟨rfl, dO _, Shr.upd_ge (by omega)⟩
     . cases e
   . cases e
 | bsb d nm ty n xs =>
   simp only [step] at e
   obtain ⟨cs, _, e1⟩ := Z6 e
   simp only [dM] at e1; subst e1
   exact ⟨rfl, dO _, Shr.upd_ge (by omega)⟩
 | bll d ty n xs =>
   simp only [step] at e
   obtain ⟨rows, _, e1⟩ := Z6 e
   simp only [dM] at e1; subst e1; exact ⟨rfl, dO _, Shr.refl _ _⟩
 | apb d nm t s x =>
   simp only [step] at e
   obtain ⟨ys, _, e1⟩ := Z6 e
   unfold Zoy at e1
   split at e1
   . obtain ⟨k, _, e2⟩ := Z6 e1
     split at e2
     . split at e2
       . simp only [dM] at e2; subst e2
         exact ⟨rfl, dO _, Shr.kill.trans (Shr.upd_ge (by omega))⟩
       . split at e2
         . rename_i hq; cases hq.2
         . cases e2
     . cases e2
   . cases e1
 | callx d nm w f xs =>
   simp only [step, Z5d] at e
   obtain ⟨p, _, e1⟩ := Z6 e
   obtain ⟨rs, _, e2⟩ := Z6 e1
   split at e2
   . cases e2
   . simp only [dM] at e2; subst e2
     exact ⟨rfl, dO _, Shr.of_same fun b j0 => Z9h _ _ _ _ (by omega)⟩
 | dcs d f xs =>
   simp only [step, Zo4] at e
   obtain ⟨⟨rs, h', n'⟩, hr, e1⟩ := Z6 e
   obtain ⟨p, _, e2⟩ := Z6 e1
   simp only [dM] at e2; subst e2
   obtain ⟨q1, q2⟩ := hE.1 _ _ _ _ _ _ _ hr
   exact ⟨rfl, by simp only; omega, (q1.mono (by omega)).trans (Shr.frz _ _ _)⟩
 | callv d nm w y xs =>
   simp only [step] at e
   obtain ⟨p, _, e1⟩ := Z6 e
   exact Zgx hb e1
 | dcall d f xs => exact Zqf hE hb e
 | dcf d f xs =>
   simp only [step, Zfh] at e
   obtain ⟨⟨rs, h', n'⟩, hr, e1⟩ := Z6 e
   split at e1
   . rename_i hq
     simp only [dM] at e1; subst e1
     have := hE.2 _ _ _ _ _ _ _ hr
     exact ⟨rfl, by simp only; omega, hq⟩
   . cases e1
 | dcallv d y xs =>
   simp only [step] at e
   obtain ⟨p, _, e1⟩ := Z6 e
   exact Zqf hE hb e1
 | app d nm t s x =>
   simp only [step] at e
   obtain ⟨ys, _, e1⟩ := Z6 e
   exact Y1l hb e1
 | clr t zs x =>
   simp only [step] at e
   unfold Y3a at e
   split at e
   . obtain ⟨k, hk, e1⟩ := Z6 e
     split at e1
     . rename_i hc
       simp only [dM] at e1; subst e1; exact ⟨rfl, dO _, Shr.nobox hc.2.1⟩
     . cases e1
   . cases e
 | no why => simp [step, AOp.yields, bnd] at e
 | _ =>
   simp only [step, AOp.yields, Xl] at e
   obtain ⟨u, _, e1⟩ := Z6 e
   simp only [dM] at e1; subst e1; exact ⟨rfl, dO _, Shr.refl _ _⟩
theorem Zy8 (hE : Z29 E) {U U' : St} {tot : Nat} {g : G} (hb : U.base <= U.n) (e : Yp E tot g U = some U') : Keeps U U' := by
 cases g with
 | o op => exact Zqb hE hb e
 | g slot want op =>
   obtain ⟨t, _, e1⟩ := Z6 e
   split at e1
   . unfold Wi at e1
     split at e1
     . simp only [dM] at e1; subst e1; exact ⟨rfl, dO _, Shr.refl _ _⟩
     . cases t
       . simp only [cond_false, dM] at e1; subst e1; exact ⟨rfl, dO _, Shr.refl _ _⟩
       . cases e1
   . unfold Xv at e1
     split at e1
     . simp only [dM] at e1; subst e1; exact ⟨rfl, dO _, Shr.refl _ _⟩
     . cases t
       . simp only [cond_false, dM] at e1; subst e1; exact ⟨rfl, dO _, Shr.refl _ _⟩
       . simp only [cond_true] at e1
         obtain ⟨U1, h1, e2⟩ := Z6 e1
         have := Zqb hE (U := strip U) hb h1
         unfold back at e2
         simp only [dM] at e2; subst e2
         exact ⟨this.base, this.n, this.shr⟩
theorem Z4v (hE : Z29 E) {tot : Nat} : ∀ {gs : List G} {U U' : St}, U.base <= U.n -> Ze E tot gs U = some U' -> Keeps U U'
 | [], U, U', _, e => by simp only [Ze, dM] at e; subst e; exact Keeps.refl _
 | g :: gs, U, U', hb, e => by
   obtain ⟨U1, h1, e1⟩ := Z6 e
   have k := Zy8 hE hb h1
   exact k.trans (Z4v hE (by have := k.base; have := k.n; omega) e1)
theorem Zay {L : List Nat} {U U' : St} (e : canon L U = some U') : U'.base = U.base /\ U.base <= U'.n /\ Shr U.base U.h U'.h := by
 unfold canon Zec at e
 generalize Z26 U.base U.h 2 (Xt U.base U.s [] L) = ns at e
 cases hcl : Zf8 U.base U.h ns with
 | false => rw [hcl] at e; cases e
 | true =>
   rw [hcl] at e
   simp only [cond_true, dM] at e
   subst e
   refine ⟨rfl, by simp, Shr.of_same fun b hb => ?_⟩
   simp only
   rw [Zdl _ _ _ _ _ _ _ (fun j hj => by simp [low]; omega), if_pos hb]
   simp [low, hb]
def Out.st : Out -> St
 | .norm U => U
 | .exit _ U => U
 | .ret U => U
structure KeepsX (U U' : St) : Prop where
 base : U'.base = U.base
 n : U'.base <= U'.n
 shr : Shr U.base U.h U'.h
theorem KeepsX.trans {a b c : St} (h : KeepsX a b) (k : KeepsX b c) : KeepsX a c := ⟨k.base.trans h.base, k.n, h.shr.trans (h.base ▸ k.shr)⟩
theorem KeepsX.refl {U : St} (h : U.base <= U.n) : KeepsX U U := ⟨rfl, h, Shr.refl _ _⟩
theorem Z3w {tot : Nat} {o : Option St} {out : Out} (e : nrm tot o = some out) : ∃ U, o = some U /\ out = .norm { U with n := U.n + tot } := by
 cases o with
 | none => cases e
 | some U => simp only [nrm, dM] at e; exact ⟨U, rfl, e.symm⟩
theorem Z9o {o : Option Out} {k : St -> Option Out} {out : Out} (e : Zh2 o k = some out) : (∃ U, o = some (.norm U) /\ k U = some out) \/ (o = some out /\ ∀ U, out ≠ .norm U) := by
 unfold Zh2 at e
 split at e
 . exact .inl ⟨_, rfl, e⟩
 . rename_i h
   refine .inr ⟨e, fun U q => h U ?_⟩
   rw [e, q]
theorem Zmq {f : St -> Option Out} {L : List Nat} (hf : ∀ U out, U.base <= U.n -> f U = some out -> KeepsX U out.st) : ∀ (k : Nat) (U : St) (out : Out), U.base <= U.n -> Zd f L k U = some out -> KeepsX U out.st
 | 0, U, out, _, e => by cases e
 | k + 1, U, out, hb, e => by
   rcases Z9o e with ⟨U1, h1, e1⟩ | ⟨h1, _⟩
   . have q := hf U _ hb h1
     obtain ⟨U2, h2, e2⟩ := Z6 e1
     obtain ⟨c1, c2, c3⟩ := Zay h2
     have q2 : KeepsX U1 U2 := ⟨c1, by omega, c3⟩
     exact (q.trans q2).trans (Zmq hf k U2 out (by omega) e2)
   . exact hf U _ hb h1
theorem Vb (hE : Z29 E) : ∀ (c : ACode) (U : St) (out : Out), U.base <= U.n -> Zj E c U = some out -> KeepsX U out.st
 | .sk, U, out, hb, e => by simp only [Zj, dM] at e; subst e; exact KeepsX.refl hb
 | .rg tot dr ops, U, out, hb, e => by
   obtain ⟨U1, h1, rfl⟩ := Z3w e
   have k := Z4v hE hb h1
   exact ⟨k.base, by have := k.base; have := k.n; simp [Out.st]; omega, k.shr⟩
 | .rgs tot sep ops, U, out, hb, e => by
   obtain ⟨U1, h1, rfl⟩ := Z3w e
   obtain ⟨U2, h2, h3⟩ := Z6 h1
   cases hs : Zk5 U2 sep with
   | false => rw [hs] at h3; cases h3
   | true =>
     rw [hs] at h3
     simp only [cond_true, dM] at h3
     subst h3
     have k := Z4v hE hb h2
     exact ⟨k.base, by have := k.base; have := k.n; simp [Out.st]; omega, k.shr⟩
 | .rgk tot sep keep ops, U, out, hb, e => by
   obtain ⟨U1, h1, rfl⟩ := Z3w e
   obtain ⟨U2, h2, h3⟩ := Z6 h1
   cases hs : Zk5 U2 sep && Z1y U2 (Z0a U keep) sep with
   | false => rw [hs] at h3; cases h3
   | true =>
     rw [hs] at h3
     simp only [cond_true, dM] at h3
     subst h3
     have k := Z4v (Zwy hE _) hb h2
     exact ⟨k.base, by have := k.base; have := k.n; simp [Out.st]; omega, k.shr⟩
 | .sq a b, U, out, hb, e => by
   rcases Z9o e with ⟨U1, h1, e1⟩ | ⟨h1, _⟩
   . have q := Vb hE a U _ hb h1
     exact q.trans (Vb hE b U1 out q.n e1)
   . exact Vb hE a U out hb h1
 | .ite c a b, U, out, hb, e => by
   obtain ⟨q, hq, e1⟩ := Z6 e
   cases q
   . exact Vb hE b U out hb e1
   . exact Vb hE a U out hb e1
 | .bl id c, U, out, hb, e => by
   simp only [Zj] at e
   unfold blO at e
   split at e
   . rename_i id' U1 h1
     have q := Vb hE c U _ hb h1
     split at e <;> (simp only [dM] at e; subst e; exact q)
   . exact Vb hE c U out hb e
 | .lp L c, U, out, hb, e => by
   obtain ⟨U1, h1, e1⟩ := Z6 e
   obtain ⟨c1, c2, c3⟩ := Zay h1
   have q : KeepsX U U1 := ⟨c1, by omega, c3⟩
   exact q.trans (Zmq (fun U out => Vb hE c U out) _ U1 out (by omega) e1)
 | .xt id, U, out, hb, e => by simp only [Zj, dM] at e; subst e; exact KeepsX.refl hb
 | .rt, U, out, hb, e => by simp only [Zj, dM] at e; subst e; exact KeepsX.refl hb
 | .no _, U, out, hb, e => by cases e
theorem Zbj {V : Type} {o : Option Out} {k : St -> Option V} {r : V} (e : Zbk o k = some r) : ∃ U, (o = some (.norm U) \/ o = some (.ret U)) /\ k U = some r := by
 unfold Zbk at e
 split at e
 . exact ⟨_, .inl rfl, e⟩
 . exact ⟨_, .inr rfl, e⟩
 . cases e
theorem Zr8 {e : Nat} {as : List A} {h : Hp} {n : Nat} {rs : List A} {h' : Hp} {n' : Nat} (eq : Zxg e as h n = some (rs, h', n')) :
 ∃ b cap ex i b2 cap2 ex2 k k2 row, as = [.ref e b 0 k.rows.length cap ex, .v (.int .i64 (i : Nat)), .ref e b2 0 1 cap2 ex2] /\ h b = some k /\ h b2 = some k2 /\ k2.rows[0]? = some row /\
  k.own = true /\ k.box = false /\ k.ty = e /\ k2.box = false /\ k2.ty = e /\ b ≠ b2 /\ i <= k.rows.length /\ k.rows.length + 1 <= big /\
  rs = [.ref e n 0 (k.rows.length + 1) (k.rows.length + 1) false] /\ h' = upd (upd h b none) n (some ⟨e, k.rows.take i ++ row :: k.rows.drop i, true, false⟩) /\ n' = n + 1 := by
 unfold Zxg at eq
 split at eq
 . rename_i ty b len cap ex i ty2 b2 cap2 ex2
   obtain ⟨k, hk, e1⟩ := Z6 eq
   obtain ⟨k2, j1, e2⟩ := Z6 e1
   obtain ⟨row, j0, e3⟩ := Z6 e2
   split at e3
   . rename_i hc
     obtain ⟨rfl, rfl, c1, c2, c3, rfl, c4, c5, c6, c7, c8, c9⟩ := hc
     simp only [dM, dV] at e3
     obtain ⟨rfl, rfl, rfl⟩ := e3
     obtain ⟨j, rfl⟩ : ∃ j : Nat, i = (j : Int) := ⟨i.toNat, by omega⟩
     exact ⟨b, cap, ex, j, b2, cap2, ex2, k, k2, row, rfl, hk, j1, j0, by simpa using c1, c2, c3, c4, c5, c6, by omega, c9, rfl, rfl, rfl⟩
   . cases e3
 . cases eq
theorem Y2c {e : Nat} {as : List A} {h : Hp} {n : Nat} {rs : List A} {h' : Hp} {n' : Nat} (eq : Zxg e as h n = some (rs, h', n')) : Shr n h h' /\ n <= n' := by
 obtain ⟨b, cap, ex, i, b2, j0, j1, k, k2, row, _, hk, _, _, _, _, _, _, _, _, _, _, _, rfl, rfl⟩ := Zr8 eq
 exact ⟨Shr.kill.trans (Shr.upd_ge (dO _)), Nat.le_succ _⟩
def Zq2 : ACode -> Bool
 | .lp _ _ => false
 | .sq a b | .ite _ a b => Zq2 a && Zq2 b
 | .bl _ c => Zq2 c
 | _ => true
theorem Z86 (hE : Z29 E) : ∀ (c : ACode) (U : St) (out : Out), Zq2 c = true -> U.base <= U.n -> Zj E c U = some out -> U.n <= out.st.n
 | .sk, U, out, _, hb, e => by simp only [Zj, dM] at e; subst e; exact dO _
 | .rg tot dr ops, U, out, _, hb, e => by
   obtain ⟨U1, h1, rfl⟩ := Z3w e
   have k := (Z4v hE hb h1).n
   simp only [Out.st]; omega
 | .rgs tot sep ops, U, out, _, hb, e => by
   obtain ⟨U1, h1, rfl⟩ := Z3w e
   obtain ⟨U2, h2, h3⟩ := Z6 h1
   cases hs : Zk5 U2 sep with
   | false => rw [hs] at h3; cases h3
   | true =>
     rw [hs] at h3
     simp only [cond_true, dM] at h3
     subst h3
     have k := (Z4v hE hb h2).n
     simp only [Out.st]; omega
 | .rgk tot sep keep ops, U, out, _, hb, e => by
   obtain ⟨U1, h1, rfl⟩ := Z3w e
   obtain ⟨U2, h2, h3⟩ := Z6 h1
   cases hs : Zk5 U2 sep && Z1y U2 (Z0a U keep) sep with
   | false => rw [hs] at h3; cases h3
   | true =>
     rw [hs] at h3
     simp only [cond_true, dM] at h3
     subst h3
     have k := (Z4v (Zwy hE _) hb h2).n
     simp only [Out.st]; omega
 | .sq a b, U, out, hf, hb, e => by
   simp only [Zq2, dQ] at hf
   rcases Z9o e with ⟨U1, h1, e1⟩ | ⟨h1, _⟩
   . have q := Z86 hE a U _ hf.1 hb h1
     have k := Vb hE a U _ hb h1
     have r := Z86 hE b U1 out hf.2 k.n e1
     simp only [Out.st] at q
     omega
   . exact Z86 hE a U out hf.1 hb h1
 | .ite c a b, U, out, hf, hb, e => by
   simp only [Zq2, dQ] at hf
   obtain ⟨q, hq, e1⟩ := Z6 e
   cases q
   . exact Z86 hE b U out hf.2 hb e1
   . exact Z86 hE a U out hf.1 hb e1
 | .bl id c, U, out, hf, hb, e => by
   simp only [Zj] at e
   unfold blO at e
   split at e
   . rename_i id' U1 h1
     have q := Z86 hE c U _ hf hb h1
     split at e <;> (simp only [dM] at e; subst e; exact q)
   . exact Z86 hE c U out hf hb e
 | .lp L c, U, out, hf, hb, e => by cases hf
 | .xt id, U, out, _, hb, e => by simp only [Zj, dM] at e; subst e; exact dO _
 | .rt, U, out, _, hb, e => by simp only [Zj, dM] at e; subst e; exact dO _
 | .no _, U, out, _, hb, e => by cases e
theorem Zf9 (p : Prog) (hf : ∀ f fn, p.fl f = some fn -> Zq2 fn.code = true) : ∀ d, Z29 ⟨den p d, dcl p d, dfl p d⟩
 | 0 => ⟨fun f as h n rs h' n' e => (by simp [dcl] at e), fun f as h n rs h' n' e => (by simp [dfl] at e)⟩
 | d + 1 => ⟨fun f as h n rs h' n' e => by
   simp only [dcl] at e
   split at e
   . exact Y2c e
   . split at e
     . obtain ⟨r, hr, e1⟩ := Z6 e
       split at e1
       . rename_i hq
         simp only [dM] at e1
         subst e1
         exact hq
       . cases e1
     . split at e
       . cases e
       . rename_i fn j0
         obtain ⟨U, ho, hk⟩ := Zbj e
         obtain ⟨vs, _, h1⟩ := Z6 hk
         simp only [dM, dV] at h1
         obtain ⟨_, rfl, rfl⟩ := h1
         have q : KeepsX ⟨slots as, h, n, n⟩ U := by
          rcases ho with ho | ho
          . exact Vb (Zf9 p hf d) _ _ _ (dO _) ho
          . exact Vb (Zf9 p hf d) _ _ _ (dO _) ho
         exact ⟨q.shr, by have := q.base; have := q.n; simp only at *; omega⟩, fun f as h n rs h' n' e => by
   simp only [dfl] at e
   split at e
   . cases e
   . rename_i fn j0
     obtain ⟨U, ho, hk⟩ := Zbj e
     obtain ⟨vs, _, h1⟩ := Z6 hk
     simp only [dM, dV] at h1
     obtain ⟨_, _, rfl⟩ := h1
     rcases ho with ho | ho
     . exact Z86 (Zf9 p hf d) _ _ _ (hf f fn j0) (dG _) ho
     . exact Z86 (Zf9 p hf d) _ _ _ (hf f fn j0) (dG _) ho⟩
end Go.Vm
end
