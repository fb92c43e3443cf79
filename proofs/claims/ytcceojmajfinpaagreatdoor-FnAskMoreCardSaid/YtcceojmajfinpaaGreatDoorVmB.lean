/-
  Calls, results and operations of the abstract machine, held against the model
-/
import Derived.Test.YtcceojmajfinpaaGreatDoorVmA
import Derived.Deep.AppendSrc
import Derived.Deep.Upon
import Derived.Room.Entries
import Derived.Orders
section
set_option linter.unusedVariables false
set_option linter.unusedSimpArgs false
set_option linter.unusedSectionVars false
namespace Go.Vm
open Go.RowKit
variable {P : Program} {V V' V'' : Rho} {S S' S'' : Nat -> Prop} {w w' w'' : World} {B : Nat} {h : Hp}
theorem Mv.trans0 {iv : Nat -> Prop} (a : Mv B V S w V' S' w' (fun _ => False)) (b : Mv B V' S' w' V'' S'' w'' iv) : Mv B V S w V'' S'' w'' iv :=
 (a.trans b).wide (fun x h => by rcases h with h | h; exact h.elim; exact h)
theorem Mv.trans1 {iv : Nat -> Prop} (a : Mv B V S w V' S' w' iv) (b : Mv B V' S' w' V'' S'' w'' (fun _ => False)) : Mv B V S w V'' S'' w'' iv :=
 (a.trans b).wide (fun x h => by rcases h with h | h; exact h; exact h.elim)
theorem Y2w {h : Hp} {bs : List Nat} {n : Nat} {blk : Blk} (hn : n ∉ bs) : upd (frz h bs) n (some blk) = frz (upd h n (some blk)) bs := (Zy3 hn).symm
theorem Zri (H : HR P V S w B h) {base : Nat} {t n : Nat} {p a : A} {x v : Value} (rp : R P V S w p x) (ra : R P V S w a v) (hn : n = P.cellsOf t) (hi : (P.info? t).isSome = true)
 {h' : Hp} (e : storeAt base h p n a = some h') : ∃ w', (Instr.storeAt t x v).run P w = .ok () w' /\ Eff P B V S w (fun _ => False) h' .und undef w' := by
 cases rp with
 | ptr b i j k sz hb =>
   obtain ⟨j7, j3, e1⟩ := Z5 e
   obtain ⟨row, j1, e2⟩ := Z5 e1
   clear e e1
   unfold Z7q at e2
   split at e2
   . rename_i hc
     obtain ⟨j5, jf, hj, jc, j2⟩ := hc
     obtain ⟨i', je⟩ := eR.1 hi
     have hB := H.at_of j3 hb
     obtain ⟨c, jd, hs, ja⟩ := hB.heap
     obtain ⟨q1, q2⟩ := R.cells jc ra
     have hvl : v.cells.size = n := by have := q1.len; simp at this; omega
     have jj := (hB.rows _ _ j1).1
     have j4 : i * sz + j + n <= c.size := by
      have : i < j7.rows.length := (dQ.1 j1).1
      have h2 : (i + 1) * sz <= j7.rows.length * sz := cX _ this
      rw [dJ] at h2
      omega
     obtain ⟨w', j9, hw⟩ := Z36 (P := P) v.cells.toList (i * sz + j) 0 w c j7.ty jd q2 (by simp [hvl]; exact j4)
     have j8 : (Instr.storeAt t (.pointer (some ⟨k, i * sz + j, none⟩)) v).run P w = .ok () w' := by
      have jg : v.cells.size = P.cellsOf t := by omega
      simp [Instr.storeAt, Instr.sureAddr, storeVar, run_sizeOf _ je, jg, j9]
     refine ⟨w', j8, ?_⟩
     rw [fL] at hw
     split at e2
     . rename_i j0
       split at e2
       . cases e2
       . simp only [dK] at e2
         subst e2
         obtain ⟨H2, M2⟩ := H.wrote j3 hb j5 j1 q1.len.symm.symm (by omega) (fun m x y h1 h2 => by rw [j0]; exact q1.at_ m x y h1 h2) jc hw
         exact ⟨_, _, M2, H2, .und⟩
     . rename_i j0
       have j0 : j7.box = false := by simpa using j0
       obtain ⟨cs, jb, e3⟩ := Z5 e2
       simp only [dK] at e3
       subst e3
       have q3 := Z8x H (S' := Wv V S h (Zv a.cells)) (fun _ h => .inl h) jb q1 (Fast.frozen _)
       have H1 := H.freeze (Zv a.cells)
       have j6 : frz h (Zv a.cells) b = some j7 := by rw [Zd8, j3]; simp [j2]
       have jh := q3.len
       have ji := q1.len
       obtain ⟨H2, M2⟩ := H1.wrote j6 hb j5 j1 q3.len.symm.symm (by simp at jh ji; omega) (fun m x y h1 h2 => by rw [j0]; exact q3.at_ m x y h1 h2) (Zag jb) hw
       rw [Y2w j2] at H2
       exact ⟨_, _, (Z7t H (Zv a.cells) _).trans0 M2, H2, .und⟩
   . cases e2
 | _ => simp [storeAt] at e
theorem Zwh (H : HR P V S w B h) {base : Nat} {t m ty : Nat} {p : A} {x : Value} (rp : R P V S w p x) (hf : V m = none) (hn : 1 = P.cellsOf t) (hi : (P.info? t).isSome = true)
 {h' : Hp} (e : storeAt base (upd h m (some ⟨ty, [], true, false⟩)) p 1 (.ref ty m 0 0 0 false) = some h') : ∃ w', (Instr.storeAt t x (.slice none 0 0)).run P w = .ok () w' /\ Eff P B V S w (X6 m 1) h' .und undef w' := by
 obtain ⟨H1, M1⟩ := H.none_ hf ty
 obtain ⟨w', hr, V2, S2, M2, H2, _⟩ := Zri H1 (M1.R rp) (R.nil ty m false (Xg _ _)) hn hi e
 exact ⟨w', hr, V2, S2, (M1.trans1 M2).wide (fun b hb => by simp only [X6]; omega), H2, .und⟩
theorem Z6e {k o : Nat} {c : Array Value} {t : TypeId} (vs : List Value) (hc : w.heap[k]? = some (.cells c t (0, 0))) (h1 : ∀ v ∈ vs, v.oneCell' = true) (hl : o + vs.length <= c.size) :
 Wrote w (w.setCells k o vs) k o vs := by
 obtain ⟨w', hr, hw⟩ := Z36 (P := (default : Program)) vs o 0 w c t hc h1 (by simpa using hl)
 have j0 : ∀ j, j < vs.length -> w.cell? ⟨k, o + 0 + j, none⟩ = c[o + j]? := by intro j hj; simp [World.cell?, hc]
 have j1 := run_storeCells_cells (P := (default : Program)) k o vs 0 w (fun j hj => by rw [j0 j hj, eP (by omega)]; rfl) (fun j hj => by simp [World.frozen?, hc]) h1
 rw [hr] at j1
 simp only [Result.ok.injEq, true_and, fL] at j1 hw
 rw [<- j1]
 exact hw
theorem HR.adopt (H : HR P V S w B h) {b m : Nat} {blk blk' : Blk} {k sz : Nat} (e : h b = some blk) (hb : V b = some (some (k, sz))) (hm : V m = none)
 (hext : Ext S w w') (hsz : w.heap.size <= w'.heap.size) (hother : ∀ i, i ≠ k -> i < w.heap.size -> w'.heap[i]? = w.heap[i]?) (hB : BR P V S w' B blk' k sz) :
 HR P (Znq V m (some (k, sz))) S w' B (upd (upd h b none) m (some blk')) := by
 have j2 : ∀ b1 blk1 k1 sz1, b1 ≠ b -> h b1 = some blk1 -> V b1 = some (some (k1, sz1)) -> k1 ≠ k := by
  intro b1 blk1 k1 sz1 hn e1 h1 hk
  subst hk
  exact hn (H.inj b1 b k1 sz1 sz blk1 blk e1 e h1 hb)
 have j0 := Zl4 (l := some (k, sz)) hm
 have j1 : ∀ b1 blk1, upd (upd h b none) m (some blk') b1 = some blk1 -> (b1 = m /\ blk1 = blk') \/ (b1 ≠ m /\ b1 ≠ b /\ h b1 = some blk1) := by
  intro b1 blk1 e1
  unfold upd at e1
  split at e1
  . simp only [dK] at e1; exact .inl ⟨‹_›, e1.symm⟩
  . split at e1
    . cases e1
    . exact .inr ⟨‹_›, ‹_›, e1⟩
 have same : BR P (Znq V m (some (k, sz))) S w' B blk' k sz := hB.mono j0 (fun _ h => h) (Ext.refl _ _) (fun h => h) rfl
 refine ⟨fun b1 blk1 e1 => ?_, fun b1 b2 k1 sz1 sz2 blk1 blk2 e1 e2 e3 e4 => ?_, fun i hi => fH (H.old i hi) hsz, H.glob.mono (fun _ h => h) hext⟩
 . rcases j1 b1 blk1 e1 with ⟨rfl, rfl⟩ | ⟨n1, n2, e2⟩
   . exact .inl ⟨k, sz, Xg _ _, same⟩
   . rcases H.at_ b1 blk1 e2 with ⟨k1, sz1, h1, j3⟩ | ⟨h1, hv⟩
     . exact .inl ⟨k1, sz1, j0 _ _ h1, j3.mono j0 (fun _ h => h) hext (fun h => h) (hother k1 (j2 b1 blk1 k1 sz1 n2 e2 h1) (H.lt e2 h1))⟩
     . exact .inr ⟨j0 _ _ h1, hv⟩
 . rcases j1 b1 blk1 e1 with ⟨rfl, rfl⟩ | ⟨n1, n2, q1⟩ <;> rcases j1 b2 blk2 e2 with ⟨rfl, rfl⟩ | ⟨n3, n4, q2⟩
   . rfl
   . rw [Xg] at e3
     rw [Z7v n3] at e4
     simp only [dK, dR] at e3
     exact absurd e3.1.symm (j2 b2 blk2 k1 sz2 n4 q2 e4)
   . rw [Xg] at e4
     rw [Z7v n1] at e3
     simp only [dK, dR] at e4
     exact absurd e4.1.symm (j2 b1 blk1 k1 sz1 n2 q1 e3)
   . rw [Z7v n1] at e3
     rw [Z7v n3] at e4
     exact H.inj b1 b2 k1 sz1 sz2 blk1 blk2 q1 q2 e3 e4
def Zyo (P : Program) (t tx e : TypeId) : Bool :=
 Z81 P t e && (match P.underlying tx with | some (.slice _) => true | _ => false) && decide (0 < P.cellsOf e) &&
  (match P.info? e with | some i => decide (i.bytes <= 2048) && (match i.zero with | some z => decide (z.cells.size = i.size) | none => false) | none => false)
theorem Z9c {rows ys : List (List A)} {len : Nat} (hl : len <= rows.length) (i : Nat) (row : List A) (e : (rows.take len ++ ys)[i]? = some row) :
 (i < len /\ rows[i]? = some row) \/ (len <= i /\ ys[i - len]? = some row) := by
 have j0 : (rows.take len).length = len := by simp; omega
 by_cases hi : i < len
 . rw [dV (by omega), cZ, if_pos hi] at e
   exact .inl ⟨hi, e⟩
 . rw [dW (by omega), j0] at e
   exact .inr ⟨by omega, e⟩
theorem Zsi {V0 : Rho} {c c' : Array Value} {sz len n : Nat} {rows ys : List (List A)} {news : List Value} (hz : 0 < sz) (hl : len <= rows.length) (hn : ys.length = n) (hnl : news.length = n * sz)
 (hrow : ∀ (i : Nat) (row : List A), rows[i]? = some row -> row.length = sz) (hrowy : ∀ (i : Nat) (row : List A), ys[i]? = some row -> row.length = sz)
 (hold : ∀ (i : Nat) (row : List A) (j : Nat) (x : A), rows[i]? = some row -> row[j]? = some x -> ∃ y, c[i * sz + j]? = some y /\ R P V0 S w x y)
 (hnew : ∀ (i : Nat) (row : List A) (j : Nat) (x : A), ys[i]? = some row -> row[j]? = some x -> ∃ v, news[i * sz + j]? = some v /\ R P V0 S w x v)
 (h1 : ∀ m, m < len * sz -> c'[m]? = c[m]?) (h2 : ∀ m, m < n * sz -> c'[len * sz + m]? = news[m]?) (i : Nat) (row : List A) (j : Nat) (x : A) (e1 : (rows.take len ++ ys)[i]? = some row) (e2 : row[j]? = some x) :
 ∃ y, c'[i * sz + j]? = some y /\ R P V0 S w x y := by
 have j2 : j < row.length := (dQ.1 e2).1
 rcases Z9c hl i row e1 with ⟨hi, e3⟩ | ⟨hi, e3⟩
 . obtain ⟨y, hy, hr⟩ := hold i row j x e3 e2
   have hj := hrow i row e3
   have hlt : i * sz + j < len * sz := by
    have : (i + 1) * sz <= len * sz := cX _ hi
    rw [dJ] at this
    omega
   exact ⟨y, by rw [h1 _ hlt]; exact hy, hr⟩
 . obtain ⟨y, hy, hr⟩ := hnew (i - len) row j x e3 e2
   have hj := hrowy _ row e3
   have j1 : i - len < n := by rw [<- hn]; exact (dQ.1 e3).1
   have hlt : (i - len) * sz + j < n * sz := by
    have : (i - len + 1) * sz <= n * sz := cX _ j1
    rw [dJ] at this
    omega
   have j0 : i * sz + j = len * sz + ((i - len) * sz + j) := by
    rw [<- gM, <- dJ]; congr 2; omega
   exact ⟨y, by rw [j0, h2 _ hlt]; exact hy, hr⟩
theorem Stands.src {V0 : Rho} {sz : Nat} {rows : List (List A)} {ad : Option Addr} {cap : Nat} (hs : Stands P V0 S w sz rows ad) (hz : 0 < sz) {tx e' : TypeId} (hk : P.underlying tx = some (.slice e')) :
 ∃ news : List Value, Src P sz tx (.slice ad rows.length cap) rows.length news w /\
  ∀ (i : Nat) (row : List A) (j : Nat) (x : A), rows[i]? = some row -> row[j]? = some x -> ∃ v, news[i * sz + j]? = some v /\ R P V0 S w x v := by
 obtain ⟨vs, hl, j2, j0⟩ := hs.load cap
 refine ⟨vs, ⟨.inl ⟨e', hk⟩, fun _ => rfl, j2 _ w rfl, j2 _ w.drew rfl, hl, fun u hu => ?_⟩, j0⟩
 obtain ⟨m, hm, rfl⟩ := List.getElem_of_mem hu
 have hi : m / sz < rows.length := Nat.div_lt_of_lt_mul (by rw [gR, <- hl]; exact hm)
 have j1 : rows[m / sz]? = some rows[m / sz] := dP hi
 obtain ⟨h1, h2⟩ := hs.len _ _ j1
 have hj : m % sz < rows[m / sz].length := by rw [h1]; exact Nat.mod_lt _ hz
 obtain ⟨v, hv, hr⟩ := j0 _ _ _ _ j1 (dP hj)
 have j3 : m / sz * sz + m % sz = m := by rw [gR]; exact Nat.div_add_mod m sz
 rw [j3, dP hm] at hv
 simp only [dK] at hv
 rw [hv]
 exact Zcl (Xn.1 h2 _ (eQ hj)) hr
theorem Ext.of_heap (e : w'.heap = w.heap) : Ext S w w' := ⟨fun _ _ => by rw [e], fun k c t h => ⟨c, by rw [e]; exact h, rfl⟩, fun _ _ _ h => by rw [e]; exact h⟩
theorem HR.of_heap (H : HR P V S w B h) (e : w'.heap = w.heap) : HR P V S w' B h := H.mono (fun _ _ h => h) (Ext.of_heap e) (by rw [e]; exact dM _) (fun _ _ _ _ _ _ => by rw [e])
theorem Z7p {sz : Nat} {rows ys : List (List A)} {len : Nat} (hl : len <= rows.length) (h1 : ∀ (i : Nat) (row : List A), rows[i]? = some row -> row.length = sz /\ Zl row = true)
 (h2 : ∀ (i : Nat) (row : List A), ys[i]? = some row -> row.length = sz /\ Zl row = true) (i : Nat) (row : List A) (e : (rows.take len ++ ys)[i]? = some row) : row.length = sz /\ Zl row = true := by
 rcases Z9c hl i row e with ⟨_, e⟩ | ⟨_, e⟩
 . exact h1 _ _ e
 . exact h2 _ _ e
theorem Zhv {bx : Bool} (H : HR P V S w B h) (hB : B <= w.heap.size) {t tx ty e m len c n : Nat} {base : Option Addr} {x : Value} {i : TypeInfo} {z : Value} {blk : Blk} {ys : List (List A)} {olds news : List Value}
 (hf : V m = none) (ht : P.underlying t = some (.slice e)) (hi : P.info? e = some i) (hz : i.zero = some z) (hzs : z.cells.size = i.size) (hsz : i.size = P.cellsOf e) (hpos : 0 < P.cellsOf e) (hbytes : i.bytes <= 2048)
 (hbty : blk.ty = e) (hown : blk.own = true) (hlen : len <= blk.rows.length)
 (hrow : ∀ (i : Nat) (row : List A), blk.rows[i]? = some row -> row.length = P.cellsOf e /\ Zl row = true)
 (hrowy : ∀ (i : Nat) (row : List A), ys[i]? = some row -> row.length = P.cellsOf e /\ Zl row = true)
 (hn : ys.length = n) (hbig : len + n <= big) (hg : c < len + n)
 (hol : olds.length = len * i.size)
 (hold : (Builtin.firstCells i.size len (.slice base len c)).run P w.drew = .ok olds.toArray w.drew)
 (ho : ∀ (i : Nat) (row : List A) (j : Nat) (x : A), i < len -> blk.rows[i]? = some row -> row[j]? = some x -> ∃ y, olds[i * P.cellsOf e + j]? = some y /\ R P (inR bx V) S w x y)
 (hs : Src P i.size tx x n news w)
 (hnew : ∀ (i : Nat) (row : List A) (j : Nat) (x : A), ys[i]? = some row -> row[j]? = some x -> ∃ v, news[i * P.cellsOf e + j]? = some v /\ R P (inR bx V) S w x v) (b : Nat) :
 ∃ v w', (Builtin.append_ #[t, tx] ty #[.slice base len c, x]).run P w = .ok v w' /\
  Eff P B V S w (X6 m 1) (upd (upd h b none) m (some { blk with rows := blk.rows.take len ++ ys, box := bx })) (.ref e m 0 (len + n) (len + n) false) v w' := by
 have j9 : len + n <= 68719476736 := hbig
 have j5 : Builtin.nextslicecap (len + n) c <= 2 * (len + n) := Room.nextslicecap_le' hg
 have j2 : Builtin.nextslicecap (len + n) c * i.bytes <= 281474976710656 := by
  have : Builtin.nextslicecap (len + n) c * i.bytes <= (2 * 68719476736) * 2048 := Nat.mul_le_mul (by omega) hbytes
  omega
 have j0 := run_append_grow_src (P := P) w t tx ty e i z ht hi hz base len c olds hold x n news hs hg (by omega) j2
 generalize hcap : grownCap w (len + n) c e = gc at j0
 have j4 : len + n <= gc := by rw [<- hcap]; exact grownCap_ge w _ _ _
 generalize hcs : ((olds ++ news).toArray ++ Builtin.zeroCells z.cells (gc - (len + n))) = cs at j0
 have j1 : cs.size = gc * P.cellsOf e := by
  rw [<- hcs]
  have h1 := hs.newsLen
  simp only [Array.size_append, List.size_toArray, size_zeroCells, eA, hol, h1, hzs, hsz]
  rw [<- dJ, <- dJ]
  congr 1
  omega
 have H1 := (H.of_heap (w' := w.drew) rfl).kill b
 have j7 : ∀ q x y, R P q S w x y -> R P q S w.drew x y := fun q x y r => R.mono (w := w) (w' := w.drew) (fun _ _ h => h) (fun _ h => h) (Ext.of_heap (w := w) (w' := w.drew) rfl) r
 have j3 := hs.newsLen
 have j8 : ∀ q, q < len * P.cellsOf e -> cs[q]? = olds.toArray[q]? := by
  intro q hq
  rw [<- hcs, gF (by simp [hol, hsz, j3]; omega)]
  simp only [gX]
  rw [dV (by rw [hol, hsz]; exact hq)]
 have j6 : ∀ q, q < n * P.cellsOf e -> cs[len * P.cellsOf e + q]? = news[q]? := by
  intro q hq
  rw [<- hcs, gF (by simp [hol, hsz, j3]; omega)]
  simp only [gX]
  rw [dW (by rw [hol, hsz]; omega), hol, hsz]
  congr 1
  omega
 subst hbty
 obtain ⟨H2, M2⟩ := H1.make (b := m) hf hB { blk with rows := blk.rows.take len ++ ys, box := bx } cs hown (Z7p hlen hrow hrowy)
  (by
   show (blk.rows.take len ++ ys).length * P.cellsOf blk.ty <= cs.size
   rw [j1]
   refine cX _ ?_
   simp
   omega)
  (fun q row j a h1 h2 => by
   show ∃ y, cs[q * P.cellsOf blk.ty + j]? = some y /\ R P (inR bx V) S w.drew a y
   have hlt : (blk.rows.take len).length = len := by simp; omega
   have := Zsi (P := P) (V0 := inR bx V) (S := S) (w := w) (c := olds.toArray) (c' := cs) (rows := blk.rows.take len) (ys := ys) (len := len) (news := news) hpos (by omega) hn (by rw [j3, hsz])
    (fun i row e => by rw [cZ] at e; split at e; exact (hrow _ _ e).1; cases e) (fun i row e => (hrowy _ _ e).1)
    (fun i row j x e1 e2 => by
     rw [cZ] at e1
     split at e1
     . obtain ⟨y, hy, hr⟩ := ho i row j x ‹_› e1 e2; exact ⟨y, by simpa using hy, hr⟩
     . cases e1)
    hnew j8 j6 q row j a (by rw [List.take_take, Nat.min_self]; exact h1) h2
   obtain ⟨y, hy, hr⟩ := this
   exact ⟨y, hy, j7 _ _ _ hr⟩)
 have M0 : Mv B V S w V S w.drew (fun _ => False) := ⟨fun _ _ h => h, fun _ h => h, Ext.of_heap rfl, (Below.refl B w).drew, fun _ h _ => h, fun _ h => .inl h⟩
 refine ⟨_, _, j0, ⟨_, _, (M0.trans0 M2).wide (fun b hb => by simp only [X6]; omega), H2, ?_⟩⟩
 refine .ref blk.ty m 0 (len + n) (len + n) false w.heap.size (P.cellsOf blk.ty) gc _ (Xg _ _) rfl j4 (fun h => by cases h) (fun _ => by simp) j4 ⟨cs, blk.ty, Z75 w.drew _, ?_⟩
 rw [j1]; simp
theorem Y6q {bx : Bool} (H : HR P V S w B h) {b : Nat} {blk : Blk} {k sz len c : Nat} {ad : Option Addr} (hblk : h b = some blk) (hb : V b = some (some (k, sz))) (hbox : imp blk.box bx = true) (hlen : len <= blk.rows.length)
 (ha : 0 < c -> ad = some ⟨k, 0 * sz, none⟩) (hlc : len <= c) :
 ∃ olds : List Value, olds.length = len * sz /\ (∀ w' : World, w'.heap = w.heap -> (Builtin.firstCells sz len (.slice ad len c)).run P w' = .ok olds.toArray w') /\
  ∀ (i : Nat) (row : List A) (j : Nat) (x : A), i < len -> blk.rows[i]? = some row -> row[j]? = some x -> ∃ y, olds[i * sz + j]? = some y /\ R P (inR bx V) S w x y := by
 have hB := H.at_of hblk hb
 obtain ⟨cs, j5, hs, j1⟩ := hB.heap
 have j3 : Stands P (inR bx V) S w sz (blk.rows.take len) ad := by
  refine ⟨fun i row e => ?_, fun i row j x e1 e2 => ?_⟩
  . rw [cZ] at e
    split at e
    . exact hB.rows _ _ e
    . cases e
  . rw [cZ] at e1
    split at e1
    . obtain ⟨y, hy, hr⟩ := j1 i row j x e1 e2
      refine ⟨k, 0 * sz, y, ha (by omega), ?_, hr.mono (Zih hbox) (fun _ h => h) (Ext.refl _ _)⟩
      simp [World.cell?, j5, hy]
    . cases e1
 obtain ⟨vs, hl, j0, j2⟩ := j3.load c
 have j4 : (blk.rows.take len).length = len := by simp; omega
 rw [j4] at hl j0
 exact ⟨vs, hl, fun w' e => j0 len w' e, fun i row j x hi e1 e2 => j2 i row j x (by rw [cZ, if_pos hi]; exact e1) e2⟩
set_option maxHeartbeats 2000000 in
theorem Zhr {bx : Bool} {U U' : St} (H : HR P V S w B U.h) (hB : B <= w.heap.size) {d nm t tx ty e : Nat} {sv xv : A} {s x : Value} {ys : List (List A)} (rs : R P V S w sv s) (rx : R P V S w xv x)
 (hys : Zaa bx e U.h xv = some ys) (hf : V (U.n + nm) = none) (ok : Zyo P t tx e = true) (eq : Zqz bx U d nm e ys sv = some U') :
 ∃ v w', (Builtin.append_ #[t, tx] ty #[s, x]).run P w = .ok v w' /\ ∃ u, U' = { U with s := upd U.s d u, h := U'.h } /\ Eff P B V S w (X6 (U.n + nm) 1) U'.h u v w' := by
 simp only [Zyo, dO, eF] at ok
 obtain ⟨⟨⟨o1, o2⟩, jf⟩, o4⟩ := ok
 have ht := Xa o1
 split at o2
 . rename_i e' k6
   split at o4
   . rename_i i hi
     simp only [dO, eF] at o4
     obtain ⟨ja, o5⟩ := o4
     split at o5
     . rename_i z hz
       have k2 : z.cells.size = i.size := by simpa using o5
       have jh : i.size = P.cellsOf e := by simp [Program.cellsOf, hi]
       obtain ⟨ad, jp, rfl, k1, jo⟩ := Zdv H hys rx
       obtain ⟨news, hs, jg⟩ := jo.src (cap := jp) jf k6
       have ji := hs.newsLen
       rw [<- jh] at hs
       unfold Zqz at eq
       split at eq
       . rename_i ty' b len cap ex
         obtain ⟨j0, j7, j1⟩ := Z5 eq
         clear eq
         split at j1
         . rename_i hc
           obtain ⟨jd, je, jx, rfl, j3, jq⟩ := hc
           subst jx
           generalize hm : U.n + nm = m at *
           cases rs with
           | ref ty'' b' off' len' cap' ex' k sz c a hb hty hcap hex ha hlc hk =>
             have j4 := H.at_of j7 hb
             obtain ⟨cs, jl, jr, j5⟩ := j4.heap
             obtain ⟨cs2, t2, jj, jn⟩ := hk
             rw [jl] at jj
             simp only [dK, Obj.cells.injEq, and_true] at jj
             obtain ⟨rfl, rfl⟩ := jj
             rw [dD] at jn
             obtain ⟨olds, k4, jy, ho⟩ := Y6q H j7 hb je j3 ha hlc
             have jm : ∀ (i : Nat) (row : List A), j0.rows[i]? = some row -> row.length = P.cellsOf j0.ty /\ Zl row = true := fun i row e => by rw [<- hty]; exact j4.rows i row e
             by_cases hroom : len + ys.length <= c
             . -- written in place
               have key : ∃ w', (Builtin.append_ #[t, tx] ty #[.slice a len c, .slice ad ys.length jp]).run P w = .ok (.slice a (len + ys.length) c) w' /\ Wrote w w' k (len * sz) news := by
                by_cases hn : ys.length = 0
                . have j6 : news = [] := cY (by rw [ji, hn]; simp)
                  subst j6
                  rw [hn] at hs ⊢
                  exact ⟨w, run_append_nothing w t tx ty _ i ht hi a len c hlc _ hs, Z6e (w := w) [] jl (fun v h => by simp at h) (by simp; exact eE (cX _ j3) jr)⟩
                . have k3 : 0 < c := by omega
                  have ka := ha k3
                  subst ka
                  have k5 : len * sz + news.length <= cs.size := by
                   rw [ji, <- hty, <- dJ]
                   exact eE (cX _ hroom) jn
                  have j2 := run_append_room_src (P := P) w t tx ty _ i ht hi k (0 * sz) len c _ _ news hs hroom
                   (fun j hj => by rw [jh, <- hty, Nat.zero_mul, dD]; simp only [World.cell?, jl]; rw [eP (by omega)]; rfl)
                   (fun j hj => by simp [World.frozen?, jl])
                  rw [jh, <- hty, Nat.zero_mul, dD] at j2
                  rw [Nat.zero_mul]
                  exact ⟨_, j2, Z6e news jl hs.one k5⟩
               obtain ⟨w', j2, hw⟩ := key
               have j9 : Ext S w w' := hw.ext (j4.own jd) ⟨_, _, jl⟩
               obtain ⟨c', ju, js, hg⟩ := hw.here _ _ jl
               have jv : ∀ q x y, R P q S w x y -> R P q S w' x y := fun q x y r => R.mono (fun _ _ h => h) (fun _ h => h) j9 r
               have j8 : ∀ (i : Nat) (row : List A) (j : Nat) (x : A), (j0.rows.take len ++ ys)[i]? = some row -> row[j]? = some x -> ∃ y, c'[i * sz + j]? = some y /\ R P (inR bx V) S w x y := by
                refine Zsi (c := cs) (by omega) j3 rfl (by rw [ji, hty]) (fun i row e => (j4.rows i row e).1) (fun i row e => by rw [hty]; exact (jo.len i row e).1) (fun i row j x e1 e2 => by obtain ⟨y, hy, hr⟩ := j5 i row j x e1 e2; exact ⟨y, hy, hr.mono (Zih je) (fun _ h => h) (Ext.refl _ _)⟩) (fun i row j x e1 e2 => by rw [hty]; exact jg i row j x e1 e2) (fun q hq => ?_) (fun q hq => ?_)
                . rw [hg, if_neg (by omega)]
                . rw [hg, if_pos (by rw [ji, <- hty]; omega)]
                  congr 1
                  omega
               split at j1
               . rename_i jw
                 subst jw
                 simp only [dK] at j1
                 have k0 : BR P V S w' B { j0 with rows := j0.rows.take cap ++ ys, box := if ys.length = 0 then j0.box else bx } k sz := by
                  refine ⟨j4.sz_eq, j4.base, j4.own, j4.not_own, fun i row e => by rw [hty]; exact Z7p j3 jm jo.len i row e, c', ju, ?_, fun i row j x e1 e2 => ?_⟩
                  . show (j0.rows.take cap ++ ys).length * sz <= c'.size
                    rw [js]
                    refine eE (cX _ ?_) jn
                    simp
                    omega
                  . by_cases hn0 : ys.length = 0
                    . have kc : ys = [] := cY hn0
                      subst kc
                      have jc : news = [] := cY (by rw [ji]; simp)
                      subst jc
                      change ((j0.rows.take cap ++ [])[i]? = some row) at e1
                      rw [fI, cZ] at e1
                      split at e1
                      . obtain ⟨y, hy, hr⟩ := j5 i row j x e1 e2
                        refine ⟨y, ?_, ?_⟩
                        . rw [hg, if_neg (by simp)]; exact hy
                        . show R P (inR (if ([] : List (List A)).length = 0 then j0.box else bx) V) S w' x y
                          simp only [eC, if_true]; exact jv _ _ _ hr
                      . cases e1
                    . obtain ⟨y, hy, hr⟩ := j8 i row j x e1 e2
                      refine ⟨y, hy, ?_⟩
                      show R P (inR (if ys.length = 0 then j0.box else bx) V) S w' x y
                      rw [if_neg hn0]; exact jv _ _ _ hr
                 have H2 := H.adopt j7 hb hf j9 (by rw [hw.size]; exact dM _) (fun q hq _ => hw.other q hq) k0
                 refine ⟨_, _, j2, .ref j0.ty m 0 (cap + ys.length) (cap + ys.length) false, ?_, ⟨Znq V m (some (k, sz)), S, ⟨Zl4 hf, fun _ h => h, j9, hw.below j4.base, fun q hq hn => by rw [Z7v (by simp only [X6] at hn; omega)]; exact hq, fun _ h => .inl h⟩, ?_, ?_⟩⟩
                 . subst j1; rfl
                 . subst j1; exact H2
                 . exact .ref j0.ty m 0 (cap + ys.length) (cap + ys.length) false k sz c a (Xg _ _) hty hroom (fun h => by cases h) ha hroom ⟨c', j0.ty, ju, by rw [js, dD]; exact jn⟩
               . rename_i jw
                 split at j1
                 . rename_i k9
                   simp only [dK] at j1
                   have k0 : BR P V S w' B { j0 with rows := j0.rows.take len ++ ys ++ j0.rows.drop (len + ys.length), box := bx } k sz := by
                    have jb : (j0.rows.take len ++ ys).length = len + ys.length := by simp; omega
                    refine ⟨j4.sz_eq, j4.base, j4.own, j4.not_own, fun i row e => ?_, c', ju, ?_, fun i row j x e1 e2 => ?_⟩
                    . change ((j0.rows.take len ++ ys) ++ j0.rows.drop (len + ys.length))[i]? = some row at e
                      by_cases jt : i < len + ys.length
                      . rw [dV (by omega)] at e
                        rw [hty]; exact Z7p j3 jm jo.len i row e
                      . rw [dW (by omega), eY] at e
                        exact j4.rows _ row e
                    . show ((j0.rows.take len ++ ys) ++ j0.rows.drop (len + ys.length)).length * sz <= c'.size
                      rw [js, eA, jb, gD]
                      rcases Nat.le_total j0.rows.length (len + ys.length) with kb | kb
                      . refine eE (cX _ ?_) jn; omega
                      . refine eE (cX _ ?_) jr; omega
                    . change ((j0.rows.take len ++ ys) ++ j0.rows.drop (len + ys.length))[i]? = some row at e1
                      by_cases jt : i < len + ys.length
                      . rw [dV (by omega)] at e1
                        obtain ⟨y, hy, hr⟩ := j8 i row j x e1 e2
                        exact ⟨y, hy, jv _ _ _ hr⟩
                      . rw [dW (by omega), eY, jb, show len + ys.length + (i - (len + ys.length)) = i by omega] at e1
                        obtain ⟨y, hy, hr⟩ := j5 i row j x e1 e2
                        refine ⟨y, ?_, (jv _ _ _ hr).mono (Zih je) (fun _ h => h) (Ext.refl _ _)⟩
                        rw [hg, if_neg]
                        . exact hy
                        . have : (len + ys.length) * sz <= i * sz := cX _ (by omega)
                          rw [dJ] at this
                          rw [ji, <- hty]
                          omega
                   have H2 := H.put j7 hb j9 (by rw [hw.size]; exact dM _) (fun q hq _ => hw.other q hq) k0
                   refine ⟨_, _, j2, .ref j0.ty b 0 (len + ys.length) cap ex, ?_, ⟨_, S, ⟨fun _ _ h => h, fun _ h => h, j9, hw.below j4.base, fun q hq hn => hq, fun _ h => .inl h⟩, ?_, ?_⟩⟩
                   . subst j1; rfl
                   . subst j1; exact H2
                   . exact .ref j0.ty b 0 (len + ys.length) cap ex k sz c a hb hty hcap hex ha hroom ⟨c', j0.ty, ju, by rw [js, dD]; exact jn⟩
                 . cases j1
             . -- grown
               have jw : cap = len := by
                split at j1
                . rename_i h1; exact h1
                . split at j1
                  . rename_i h1 h2; omega
                  . cases j1
               rw [if_pos jw, if_neg (show ¬ ys.length = 0 by omega)] at j1
               simp only [dK] at j1
               obtain ⟨v, w', j2, hE⟩ := Zhv (P := P) (ty := ty) H hB (base := a) (c := c) (n := ys.length) (len := len) hf ht hi hz k2 jh jf ja rfl jd j3 jm jo.len rfl jq (by omega)
                (by rw [k4, jh, hty]) (by rw [jh, <- hty]; exact jy _ rfl) (fun i row j x jt e1 e2 => by rw [<- hty]; exact ho i row j x jt e1 e2) hs jg b
               refine ⟨v, w', j2, .ref j0.ty m 0 (len + ys.length) (len + ys.length) false, ?_, ?_⟩
               . subst j1; rfl
               . subst j1; exact hE
           | nil ty'' b' ex' hb =>
             have jz : j0.rows = [] /\ j0.box = false := by
              rcases H.at_ b j0 j7 with ⟨k, sz, h', _⟩ | ⟨_, h', k7⟩
              . rw [hb] at h'; cases h'
              . exact ⟨h', k7⟩
             obtain ⟨jz, k8⟩ := jz
             rw [if_pos rfl] at j1
             simp only [dK] at j1
             by_cases hn : ys.length = 0
             . have hy : ys = [] := cY hn
               subst hy
               have j6 : news = [] := cY (by rw [ji]; simp)
               subst j6
               have j2 := run_append_nothing (P := P) w t tx ty _ i ht hi none 0 0 (dM _) _ hs
               obtain ⟨H2, M2⟩ := (H.kill b).none_ hf j0.ty
               refine ⟨_, _, j2, .ref j0.ty m 0 0 0 false, ?_, ⟨_, S, M2.wide (fun q hq => by simp only [X6]; omega), ?_, .nil j0.ty m false (Xg _ _)⟩⟩
               . subst j1; rfl
               . subst j1; rw [show ({ j0 with rows := j0.rows.take 0 ++ [], box := if ([] : List (List A)).length = 0 then j0.box else bx } : Blk) = ⟨j0.ty, [], true, false⟩ by cases j0; simp_all]; exact H2
             . rw [if_neg hn] at j1
               obtain ⟨v, w', j2, hE⟩ := Zhv (P := P) (ty := ty) H hB (base := none) (len := 0) (c := 0) (n := ys.length) (olds := []) hf ht hi hz k2 jh jf ja rfl jd j3
                (fun i row e => by rw [jz] at e; simp at e) jo.len rfl jq (by omega) (by simp) (run_firstCells_none w.drew _ _ _ _) (fun i row j x jt => by omega) hs jg b
               refine ⟨v, w', j2, .ref j0.ty m 0 (0 + ys.length) (0 + ys.length) false, ?_, ?_⟩
               . subst j1; rfl
               . subst j1; exact hE
         . cases j1
       . cases eq
     . cases o5
   . cases o4
 . cases o2
theorem Y7a {U U' : St} {d nm e : Nat} {ys : List (List A)} {sv : A} (eq : Zv1 U d nm e ys sv = some U') : Zqz false U d nm e ys sv = some U' := by
 unfold Zv1 at eq
 split at eq
 . rename_i ty b len cap ex
   obtain ⟨k, hk, e1⟩ := Z5 eq
   simp only [Zqz, hk, bnd]
   split at e1
   . rename_i hc
     obtain ⟨c1, c2, c3, c4, c5, c6⟩ := hc
     have j0 : ∀ rows, ({ k with rows := rows, box := false } : Blk) = { k with rows := rows } := fun rows => by rw [<- c2]
     rw [if_pos ⟨c1, by rw [c2]; rfl, c3, c4, c5, c6⟩]
     simp only [c2, ite_self, j0, and_true]
     exact e1
   . cases e1
 . cases eq
theorem Zzj {U U' : St} (H : HR P V S w B U.h) (hB : B <= w.heap.size) {d nm t tx ty e : Nat} {sv xv : A} {s x : Value} {ys : List (List A)} (rs : R P V S w sv s) (rx : R P V S w xv x)
 (hys : rowsOf e U.h xv = some ys) (hf : V (U.n + nm) = none) (ok : Zyo P t tx e = true) (eq : Zv1 U d nm e ys sv = some U') :
 ∃ v w', (Builtin.append_ #[t, tx] ty #[s, x]).run P w = .ok v w' /\ ∃ u, U' = { U with s := upd U.s d u, h := U'.h } /\ Eff P B V S w (X6 (U.n + nm) 1) U'.h u v w' :=
 Zhr H hB rs rx (Zt5 hys) hf ok (Y7a eq)
theorem Y2g {a : A} {n : Nat} {x : Value} (e : Ycm a = some n) (r : R P V S w a x) : ∃ k, x = .int k (n : Int) := by
 unfold Ycm at e
 split at e
 . rename_i k i
   split at e
   . simp only [dK] at e
     refine ⟨k, ?_⟩
     rw [(R.v_inv r).1]
     congr 1
     omega
   . cases e
 . cases e
theorem Zdu (k : IntKind) (n y : Nat) (code : BoundsCode) (h : n <= y) : (Instr.sliceBound (.int k (n : Int)) y code).run P w = .ok n w := by
 have h0 : (0 : Int) <= (n : Int) /\ (n : Int) <= (y : Int) := by omega
 simp [Instr.sliceBound, asIntOf, h0]
theorem Zha (isSlice : Bool) (len cap l h m : Nat) (lo hi mx : Option Value)
    (hlo : (lo = none /\ l = 0) \/ ∃ k, lo = some (.int k (l : Int))) (hhi : (hi = none /\ h = len /\ mx = none) \/ ∃ k, hi = some (.int k (h : Int))) (hmx : (mx = none /\ m = cap) \/ ∃ k, mx = some (.int k (m : Int)))
    (h1 : l <= h) (h2 : h <= m) (h3 : m <= cap) : (Instr.sliceBounds isSlice len cap lo hi mx).run P w = .ok (l, h, m) w := by
  rcases hmx with ⟨rfl, rfl⟩ | ⟨km, rfl⟩ <;> rcases hhi with ⟨rfl, rfl, h'⟩ | ⟨kh, rfl⟩ <;> rcases hlo with ⟨rfl, rfl⟩ | ⟨kl, rfl⟩ <;>
    first
      | (cases h'; done)
      | simp [Instr.sliceBounds, Zdu _ _ _ _ h1, Zdu _ _ _ _ h2, Zdu _ _ _ _ h3]
theorem Zji {U : St} {ev' : Operand -> Value} (hget : ∀ x y, X1 x y = true -> R P V S w (ev U y) (ev' x)) {x : Option Operand} {y : Option Opd} {z n : Nat} (ok : Zk2 x y = true) (e : Zmj U y z = some n) :
 (x.map ev' = none /\ n = z /\ y = none) \/ (∃ k, x.map ev' = some (.int k (n : Int)) /\ y.isSome = true) := by
 cases x <;> cases y <;> simp only [Zk2, eD] at ok
 . simp only [Zmj, dK] at e
   exact .inl ⟨rfl, e.symm, rfl⟩
 . rename_i x y
   obtain ⟨k, hk⟩ := Y2g e (hget x y ok)
   exact .inr ⟨k, by simp [hk], rfl⟩
def Yee (P : Program) (t : TypeId) (e : Option Nat) (hi mx : Option Opd) : Bool :=
 (hi.isSome || mx.isNone) && (match e with
  | some e => Z81 P t e && (P.info? e).isSome
  | none => Y41 P t)
theorem Y1l {U : St} {ev' : Operand -> Value} (hget : ∀ x y, X1 x y = true -> R P V S w (ev U y) (ev' x)) {t : TypeId} {e : Option Nat} {lo hi mx : Option Operand} {lo' hi' mx' : Option Opd}
 (olo : Zk2 lo lo' = true) (ohi : Zk2 hi hi' = true) (omx : Zk2 mx mx' = true) (ok : Yee P t e hi' mx' = true) {a u : A} {x : Value} (ra : R P V S w a x) (eq : Z8c U e lo' hi' mx' a = some u) :
 ∃ v, (Instr.sliceAt t x (lo.map ev') (hi.map ev') (mx.map ev')).run P w = .ok v w /\ R P V S w u v := by
 simp only [Yee, dO, fM] at ok
 obtain ⟨jd, j3⟩ := ok
 have j0 : ∀ (isS : Bool) (len cap zl zm l h m c : Nat), Zmj U lo' 0 = some l -> Zmj U hi' len = some h -> Zmj U mx' zm = some m -> zm <= c -> l <= h -> h <= m -> m <= zm -> cap = c ->
  ∃ m', (Instr.sliceBounds isS len cap (lo.map ev') (hi.map ev') (mx.map ev')).run P w = .ok (l, h, m') w /\ m <= m' /\ m' <= c /\ (mx'.isSome = true -> m' = m) /\ (mx'.isSome = false -> m' = c /\ m = zm) := by
  intro isS len cap zl zm l h m c e1 e2 e3 jf h1 h2 h3 j4
  subst j4
  have i1 := Zji hget olo e1
  have i2 := Zji hget ohi e2
  have i3 := Zji hget omx e3
  rcases i3 with ⟨x3, rfl, y3⟩ | ⟨k3, x3, y3⟩
  . refine ⟨cap, ?_, by omega, dM _, by simp [y3], fun _ => ⟨rfl, rfl⟩⟩
    refine Zha isS len cap l h cap _ _ _ ?_ ?_ (.inl ⟨x3, rfl⟩) h1 (by omega) (dM _)
    . rcases i1 with ⟨p, q, _⟩ | ⟨k, p, _⟩
      . exact .inl ⟨p, q⟩
      . exact .inr ⟨k, p⟩
    . rcases i2 with ⟨p, q, _⟩ | ⟨k, p, _⟩
      . exact .inl ⟨p, q, x3⟩
      . exact .inr ⟨k, p⟩
  . refine ⟨m, ?_, dM _, by omega, fun _ => rfl, by simp [y3]⟩
    refine Zha isS len cap l h m _ _ _ ?_ ?_ (.inr ⟨k3, x3⟩) h1 h2 (by omega)
    . rcases i1 with ⟨p, q, _⟩ | ⟨k, p, _⟩
      . exact .inl ⟨p, q⟩
      . exact .inr ⟨k, p⟩
    . rcases i2 with ⟨p, q, y2⟩ | ⟨k, p, _⟩
      . subst y2
        rcases jd with h' | h'
        . cases h'
        . cases mx' <;> simp_all
      . exact .inr ⟨k, p⟩
 cases ra with
 | v x hy =>
   cases x <;> try (simp [Z8c] at eq; done)
   rename_i s
   obtain ⟨l, hl, j6⟩ := Z5 eq
   obtain ⟨hh, jb, j5⟩ := Z5 j6
   split at j5
   . rename_i hc
     obtain ⟨rfl, jg, h1, h2⟩ := hc
     simp only [dK] at j5
     subst j5
     have hu : P.underlying t = some .string := by
      have j3 : Y41 P t = true := j3
      unfold Y41 at j3
      split at j3
      . assumption
      . cases j3
     have hm : mx' = none := by cases mx' <;> simp_all
     subst hm
     have ja : mx = none := by cases mx <;> simp_all [Zk2]
     subst ja
     obtain ⟨m', j1, _⟩ := j0 false s.size s.size 0 s.size l hh s.size s.size hl jb rfl (dM _) h1 h2 (dM _) rfl
     refine ⟨.string (s.extract l hh), ?_, .v _ rfl⟩
     simp only [Option.map_none] at j1
     simp [Instr.sliceAt, Instr.slice, run_underlying hu, j1]
   . cases j5
 | lit ty rows ad cap Y j4 hl hc hr =>
   obtain ⟨l, h1, j6⟩ := Z5 eq
   obtain ⟨hh, h2, j5⟩ := Z5 j6
   obtain ⟨m, h3, j2⟩ := Z5 j5
   split at j2
   . rename_i j7
     obtain ⟨rfl, c1, c2, c3⟩ := j7
     simp only [dK] at j2
     subst j2
     simp only [dO] at j3
     obtain ⟨i, hi⟩ := eR.1 j3.2
     obtain ⟨m', j1, b1, b2, b3, b4⟩ := j0 true rows.length cap 0 rows.length l hh m cap h1 h2 h3 j4 c1 c2 c3 rfl
     have hu := Xa j3.1
     refine ⟨.slice (if m' = l then ad else ad.map (·.add (l * P.cellsOf ty))) (hh - l) (m' - l), ?_, ?_⟩
     . simp [Instr.sliceAt, Instr.slice, run_underlying hu, j1, run_sizeOf _ hi]
     . have j8 : ((rows.take hh).drop l).length = hh - l := by simp; omega
       have hget : ∀ (i : Nat) (row : List A), ((rows.take hh).drop l)[i]? = some row -> l + i < hh /\ rows[l + i]? = some row := by
        intro i row e
        rw [eY, cZ] at e
        split at e
        . exact ⟨‹_›, e⟩
        . cases e
       rw [<- j8]
       refine .lit ty _ _ (m' - l) (fun i j => Y (l + i) j) (by omega) (fun i row e => hl _ _ (hget i row e).2) (fun i row j x e1 e2 => ?_) (fun i row j x e1 e2 => hr _ _ _ _ (hget i row e1).2 e2)
       obtain ⟨hlt, e3⟩ := hget i row e1
       obtain ⟨k, off, ea, hk, j9⟩ := hc _ _ _ _ e3 e2
       refine ⟨k, off + l * P.cellsOf ty, by rw [if_neg (by omega), ea]; simp [Z27], hk, ?_⟩
       rw [<- j9]
       congr 2
       rw [dJ]
       omega
   . cases j2
 | ref ty b off len cap ex k sz c ad hb hty j4 hex ha j8 hk =>
   obtain ⟨l, h1, j6⟩ := Z5 eq
   obtain ⟨hh, h2, j5⟩ := Z5 j6
   obtain ⟨m, h3, j2⟩ := Z5 j5
   split at j2
   . rename_i j7
     obtain ⟨rfl, c1, c2, c3⟩ := j7
     simp only [dK] at j2
     subst j2
     simp only [dO] at j3
     obtain ⟨i, hi⟩ := eR.1 j3.2
     obtain ⟨m', j1, b1, b2, b3, b4⟩ := j0 true len c 0 cap l hh m c h1 h2 h3 j4 c1 c2 c3 rfl
     have hu := Xa j3.1
     refine ⟨.slice (if m' = l then ad else ad.map (·.add (l * P.cellsOf ty))) (hh - l) (m' - l), ?_, ?_⟩
     . simp [Instr.sliceAt, Instr.slice, run_underlying hu, j1, run_sizeOf _ hi]
     . obtain ⟨cs, t', je, jc⟩ := hk
       refine .ref ty b (off + l) (hh - l) (m - l) (ex || mx'.isSome) k sz (m' - l) _ hb hty (by omega) (fun hx => ?_) (fun hp => ?_) (by omega) ⟨cs, t', je, ?_⟩
       . rcases Bool.or_eq_true_iff.1 hx with h' | h'
         . have := hex h'
           cases hm : mx'.isSome with
           | true => rw [b3 hm]
           | false => have := b4 hm; omega
         . rw [b3 h']
       . rw [if_neg (by omega), ha (by omega)]
         simp [Z27, hty, dJ]
       . refine eE (cX _ ?_) jc
         omega
   . cases j2
 | nil ty b ex hb =>
   obtain ⟨l, h1, j6⟩ := Z5 eq
   obtain ⟨hh, h2, j5⟩ := Z5 j6
   obtain ⟨m, h3, j2⟩ := Z5 j5
   split at j2
   . rename_i j7
     obtain ⟨rfl, c1, c2, c3⟩ := j7
     simp only [dK] at j2
     subst j2
     simp only [dO] at j3
     obtain ⟨i, hi⟩ := eR.1 j3.2
     obtain ⟨m', j1, b1, b2, b3, b4⟩ := j0 true 0 0 0 0 l hh m 0 h1 h2 h3 (dM _) c1 c2 c3 rfl
     have hu := Xa j3.1
     have e1 : l = 0 := by omega
     have e2 : hh = 0 := by omega
     have e3 : m = 0 := by omega
     have e4 : m' = 0 := by omega
     subst e1; subst e2; subst e3; subst e4
     refine ⟨.slice none 0 0, ?_, .nil ty b _ hb⟩
     simp [Instr.sliceAt, Instr.slice, run_underlying hu, j1, run_sizeOf _ hi]
   . cases j2
 | _ => simp [Z8c] at eq
theorem Za2 {U : St} {ev' : Operand -> Value} (hget : ∀ x y, X1 x y = true -> R P V S w (ev U y) (ev' x)) : ∀ {xs : List Operand} {ys : List Opd}, Z0h xs ys = true -> RL P V S w (evs U ys) (xs.map ev')
 | [], [], _ => .nil
 | [], _ :: _, e => by simp [Z0h] at e
 | _ :: _, [], e => by simp [Z0h] at e
 | x :: xs, y :: ys, e => by
   simp only [Z0h, dO] at e
   exact .cons (hget x y e.1) (Za2 hget e.2)
theorem Zwg {U : St} {ev' : Operand -> Value} (hget : ∀ x y, X1 x y = true -> R P V S w (ev U y) (ev' x)) {f : Nat} {xs : List Operand} {ys : List Opd} (ok : Z0h xs ys = true) (hp : Wt (evs U ys) = true) :
 R P V S w (.fn f (evs U ys)) (.func (.func f) #[] (xs.map ev').toArray) :=
 .fn f _ _ hp (Za2 hget ok).len (Za2 hget ok).at_
def Y6p (P : Program) (t e : TypeId) (zs : List A) : Bool := Z81 P t e && Zd2 P e zs && decide (0 < zs.length)
theorem Zvy {U U' : St} (H : HR P V S w B U.h) {t ty e : Nat} {zs : List A} {a : A} {x : Value} (ra : R P V S w a x) (ok : Y6p P t e zs = true) (eq : Y58 U e zs a = some U') :
 ∃ w', (Builtin.clear_ #[t] ty #[x]).run P w = .ok (.tuple #[]) w' /\ U' = { U with h := U'.h } /\ Eff P B V S w (fun _ => False) U'.h .und undef w' := by
 simp only [Y6p, dO, eF] at ok
 obtain ⟨⟨o1, o2⟩, o3⟩ := ok
 have hu := Xa o1
 obtain ⟨z, jp, jf, ju, ji⟩ := Z9y o2
 unfold Y58 at eq
 split at eq
 . rename_i ty' b off len cap ex
   obtain ⟨j0, j4, j8⟩ := Z5 eq
   clear eq
   split at j8
   . rename_i hc
     obtain ⟨jd, jy, je, jw⟩ := hc
     simp only [dK] at j8
     cases ra with
     | ref ty'' b' off' len' cap' ex' k sz c ad hb hty hcap hex ha hlc hk =>
       have j2 := H.at_of j4 hb
       obtain ⟨cs, jc, jb, j9⟩ := j2.heap
       have j7 : zs.length = sz := by rw [j2.sz_eq, je]; exact ju
       let news := (madeCells z.cells (len * z.cells.size)).toList
       have jg : news.length = len * sz := by simp [news, size_madeCells, ji, j7]
       have r0 := Z9m (P := P) (V := inR j0.box V) (S := S) (w := w) jf
       have one : ∀ v ∈ news, v.oneCell' = true := by
        intro v hv
        obtain ⟨m, hm, rfl⟩ := List.getElem_of_mem hv
        have jq : 0 < z.cells.size := by omega
        have jr : m < len * sz := by omega
        have hi : m / z.cells.size < len := Nat.div_lt_of_lt_mul (by rw [gR, ji, j7]; exact jr)
        have hj : m % z.cells.size < z.cells.size := Nat.mod_lt _ jq
        have hg := Z4s z.cells len (m / z.cells.size) (m % z.cells.size) hj hi
        have jm : m / z.cells.size * z.cells.size + m % z.cells.size = m := by rw [gR]; exact Nat.div_add_mod m _
        rw [jm] at hg
        have jj : m % z.cells.size < zs.length := by omega
        have hR := r0.at_ (m % z.cells.size) zs[m % z.cells.size] z.cells[m % z.cells.size] (dP jj) (by simp [hj])
        have : news[m] = z.cells[m % z.cells.size] := by
         have h1 : news[m]? = some news[m] := dP hm
         simp only [news, gW] at h1
         rw [hg, eP hj] at h1
         exact (eI h1).symm
        rw [this]
        exact Zcl (Xn.1 (Z4z jf) _ (eQ jj)) hR
       have j1 : off * sz + news.length <= cs.size := by
        rw [jg, <- dJ]
        exact eE (cX _ jw) jb
       have key : ∃ w', (Builtin.clear_ #[t] ty #[.slice ad len c]).run P w = .ok (.tuple #[]) w' /\ Wrote w w' k (off * sz) news := by
        by_cases hl0 : len = 0
        . subst hl0
          have jl : news = [] := cY (by rw [jg]; simp)
          rw [jl]
          refine ⟨w, ?_, Z6e (w := w) [] jc (fun v h => by simp at h) (by rw [jl] at j1; simpa using j1)⟩
          cases ad <;> simp [Builtin.clear_, run_underlying hu]
        . have jx := ha (by omega)
          subst jx
          obtain ⟨w', j3, hw⟩ := Z36 (P := P) news (off * sz) 0 w cs j0.ty jc one (by rw [fL]; exact j1)
          refine ⟨w', ?_, by rw [fL] at hw; exact hw⟩
          obtain ⟨n', rfl⟩ : ∃ n', len = n' + 1 := ⟨len - 1, by omega⟩
          have ja : (Builtin.zeroCells z.cells (n' + 1)).toList = news := rfl
          simp [Builtin.clear_, run_underlying hu, jp, ja, j3]
       obtain ⟨w', j3, hw⟩ := key
       have j5 : Ext S w w' := hw.ext (j2.own jd) ⟨_, _, jc⟩
       obtain ⟨c', jo, jn, hg⟩ := hw.here _ _ jc
       have jv : (j0.rows.take off).length = off := by simp; omega
       have j6 : ∀ (i : Nat) (row : List A), (j0.rows.take off ++ List.replicate len zs ++ j0.rows.drop (off + len))[i]? = some row ->
        (i < off /\ j0.rows[i]? = some row) \/ (off <= i /\ i < off + len /\ row = zs) \/ (off + len <= i /\ j0.rows[i]? = some row) := by
        intro i row e
        by_cases h1 : i < off
        . rw [gY, dV (by omega), cZ, if_pos h1] at e
          exact .inl ⟨h1, e⟩
        . by_cases h2 : i < off + len
          . rw [gY, dW (by omega), jv, dV (by simp; omega), gA, if_pos (by omega)] at e
            exact .inr (.inl ⟨by omega, h2, by simpa using e.symm⟩)
          . rw [dW (by simp; omega), eY] at e
            refine .inr (.inr ⟨by omega, ?_⟩)
            rw [<- e]
            congr 1
            simp
            omega
       have jt : BR P V S w' B { j0 with rows := j0.rows.take off ++ List.replicate len zs ++ j0.rows.drop (off + len) } k sz := by
        refine ⟨j2.sz_eq, j2.base, j2.own, j2.not_own, fun i row e => ?_, c', jo, ?_, fun i row j x e1 e2 => ?_⟩
        . rcases j6 i row e with ⟨_, e⟩ | ⟨_, _, rfl⟩ | ⟨_, e⟩
          . exact j2.rows _ _ e
          . exact ⟨j7, Z4z jf⟩
          . exact j2.rows _ _ e
        . show (j0.rows.take off ++ List.replicate len zs ++ j0.rows.drop (off + len)).length * sz <= c'.size
          rw [jn]
          refine eE (cX _ ?_) jb
          simp
          omega
        . have old : (i < off \/ off + len <= i) -> j0.rows[i]? = some row -> ∃ y, c'[i * sz + j]? = some y /\ R P (inR j0.box V) S w' x y := by
           intro hi e
           obtain ⟨y, hy, hr⟩ := j9 i row j x e e2
           have hj : j < sz := by rw [<- (j2.rows _ _ e).1]; exact (dQ.1 e2).1
           refine ⟨y, ?_, hr.mono (fun _ _ h => h) (fun _ h => h) j5⟩
           rw [hg, if_neg]
           . exact hy
           . rcases hi with hi | hi
             . have : (i + 1) * sz <= off * sz := cX _ hi
               rw [dJ] at this
               omega
             . have : (off + len) * sz <= i * sz := cX _ hi
               rw [dJ] at this
               omega
          rcases j6 i row e1 with ⟨h1, e⟩ | ⟨h1, h2, rfl⟩ | ⟨h1, e⟩
          . exact old (.inl h1) e
          . have hj : j < row.length := (dQ.1 e2).1
            have ja : j < z.cells.size := by omega
            refine ⟨z.cells[j], ?_, (r0.at_ j x _ e2 (by simp [ja])).mono (fun _ _ h => h) (fun _ h => h) j5⟩
            have js : off * sz <= i * sz + j /\ i * sz + j < off * sz + news.length := by
             have h3 : off * sz <= i * sz := cX _ h1
             have h4 : (i + 1) * sz <= (off + len) * sz := cX _ h2
             rw [dJ, dJ] at h4
             rw [jg]
             omega
            rw [hg, if_pos js]
            have h5 : i * sz + j - off * sz = (i - off) * sz + j := by
             rw [Nat.sub_mul]
             have h3 : off * sz <= i * sz := cX _ h1
             omega
            rw [h5]
            have h6 := Z4s z.cells len (i - off) j ja (by omega)
            simp only [news, gW]
            have h7 : z.cells.size = sz := by omega
            rw [h7] at h6 ⊢
            rw [h6, eP ja]
          . exact old (.inr h1) e
       have H2 := H.put j4 hb j5 (by rw [hw.size]; exact dM _) (fun q hq _ => hw.other q hq) jt
       refine ⟨w', j3, ?_, ⟨V, S, ⟨fun _ _ h => h, fun _ h => h, j5, hw.below j2.base, fun q hq hn => hq, fun _ h => .inl h⟩, ?_, .und⟩⟩
       . subst j8; rfl
       . subst j8; exact H2
     | nil ty'' b' ex' hb =>
       have jh : j0.rows = [] := by
        rcases H.at_ b j0 j4 with ⟨k, sz, h', _⟩ | ⟨_, h', _⟩
        . rw [hb] at h'; cases h'
        . exact h'
       have j3 : (Builtin.clear_ #[t] ty #[.slice none 0 0]).run P w = .ok (.tuple #[]) w := by simp [Builtin.clear_, run_underlying hu]
       refine ⟨w, j3, ?_, ⟨V, S, Mv.refl _ _ _ _ _, ?_, .und⟩⟩
       . subst j8; rfl
       . subst j8
         have : upd U.h b (some { j0 with rows := j0.rows.take 0 ++ List.replicate 0 zs ++ j0.rows.drop (0 + 0) }) = U.h := by
          funext q
          unfold upd
          split
          . rename_i hq; subst hq; rw [j4]; cases j0; simp_all
          . rfl
         rw [this]
         exact H
   . cases j8
 . cases eq
def Zh4 : Hp := fun _ => none
def Res (P : Program) (S : Nat -> Prop) (w : World) (rs : List A) (v : Value) (w' : World) : Prop :=
 ∃ S', (∀ k, S k -> S' k) /\ (∀ k, S' k -> S k \/ w.heap.size <= k) /\ Below w.heap.size w w' /\ Ext S w w' /\
  ∀ n, ∃ ρr, (∀ b, ¬ X6 n (Yp rs) b -> ρr b = none) /\ HR P ρr S' w' w.heap.size (Ym Zh4 n rs).2 /\ R P ρr S' w' (pack (Ym Zh4 n rs).1) v
def Z9i (P : Program) (F : List A -> Option (List A)) (f : Nat) : Prop :=
 ∀ (S : Nat -> Prop) (w : World) (as rs : List A) (xs : List Value), F as = some rs -> (∀ k, S k -> k < w.heap.size) -> GlobOk P S w -> RL P Xq S w as xs ->
  Calls P f xs.toArray w fun | .returned v, w' => Res P S w rs v w' | _, _ => False
def Zl7 (h g : Hp) : Hp := fun b => match g b with | some k => some k | none => h b
theorem Zta (h g : Hp) (b : Nat) (k : Blk) : upd (Zl7 h g) b (some k) = Zl7 h (upd g b (some k)) := by
 funext i
 unfold upd Zl7
 by_cases hi : i = b <;> simp [hi]
theorem Z93 : ∀ (as : List A) (h g : Hp) (n : Nat), (Ye (Zl7 h g) n as).1 = (Ye g n as).1 /\ (Ye (Zl7 h g) n as).2 = Zl7 h (Ye g n as).2
 | [], h, g, n => ⟨rfl, rfl⟩
 | a :: as, h, g, n => by
   cases a with
   | olit ty rows =>
     obtain ⟨e1, e2⟩ := Z93 as h (upd g n (some ⟨ty, rows, true, false⟩)) (n + 1)
     simp only [Ye, Zta, e1, e2]
     exact ⟨trivial, trivial⟩
   | _ =>
     obtain ⟨e1, e2⟩ := Z93 as h g n
     simp only [Ye, e1, e2]
     exact ⟨trivial, trivial⟩
theorem Zhy (a : A) (h g : Hp) (n : Nat) : (Z3k (Zl7 h g) n a).1 = (Z3k g n a).1 /\ (Z3k (Zl7 h g) n a).2 = Zl7 h (Z3k g n a).2 := by
 cases a with
 | olit ty rows =>
   simp only [Z3k, Zta]
   exact ⟨trivial, trivial⟩
 | agg cs =>
   obtain ⟨e1, e2⟩ := Z93 cs h g n
   simp only [Z3k, e1, e2]
   exact ⟨trivial, trivial⟩
 | _ => exact ⟨rfl, rfl⟩
theorem Zat : ∀ (as : List A) (h g : Hp) (n : Nat), (Ym (Zl7 h g) n as).1 = (Ym g n as).1 /\ (Ym (Zl7 h g) n as).2 = Zl7 h (Ym g n as).2
 | [], h, g, n => ⟨rfl, rfl⟩
 | a :: as, h, g, n => by
   simp only [Ym]
   rw [(Zhy a h g n).1, (Zhy a h g n).2, (Zat as h _ _).1, (Zat as h _ _).2]
   exact ⟨rfl, rfl⟩
theorem Y7f (h : Hp) : Zl7 h Zh4 = h := by funext b; rfl
theorem Z3i (as : List A) (h : Hp) (n : Nat) : (Ym h n as).1 = (Ym Zh4 n as).1 /\ (Ym h n as).2 = Zl7 h (Ym Zh4 n as).2 := by
 have := Zat as h Zh4 n
 rw [Y7f] at this
 exact this
def Z8u (V ρr : Rho) : Rho := fun b => match ρr b with | some l => some l | none => V b
theorem Z74 (V ρr : Rho) : Rho.le ρr (Z8u V ρr) := fun b l e => by simp [Z8u, e]
theorem Z9z {V ρr : Rho} (hd : ∀ b, ρr b ≠ none -> V b = none) : Rho.le V (Z8u V ρr) := fun b l e => by
 unfold Z8u
 cases hr : ρr b with
 | none => exact e
 | some l' => rw [hd b (by rw [hr]; simp)] at e; cases e
theorem HR.known (H : HR P V S w B h) {b : Nat} {blk : Blk} (e : h b = some blk) : V b ≠ none := by
 rcases H.at_ b blk e with ⟨k, sz, hb, _⟩ | ⟨hb, _⟩ <;> rw [hb] <;> simp
theorem HR.merge {g : Hp} {M : Nat} {ρr : Rho} (H : HR P V S w B h) (G : HR P ρr S w M g) (hB : B <= M) (hlt : ∀ b blk k sz, h b = some blk -> V b = some (some (k, sz)) -> k < M)
 (hd : ∀ b, ρr b ≠ none -> V b = none) : HR P (Z8u V ρr) S w B (Zl7 h g) := by
 have l1 := Z9z hd
 have l2 := Z74 V ρr
 have j2 : ∀ b blk, Zl7 h g b = some blk -> (g b = some blk) \/ (h b = some blk /\ ρr b = none) := by
  intro b blk e
  unfold Zl7 at e
  cases hg : g b with
  | some k => rw [hg] at e; exact .inl e
  | none =>
    rw [hg] at e
    refine .inr ⟨e, ?_⟩
    cases hr : ρr b with
    | none => rfl
    | some l => exact absurd (hd b (by rw [hr]; simp)) (H.known e)
 have j0 : ∀ b, ρr b = none -> Z8u V ρr b = V b := fun b e => by simp [Z8u, e]
 have j1 : ∀ b blk k sz, g b = some blk -> Z8u V ρr b = some (some (k, sz)) -> ρr b = some (some (k, sz)) := by
  intro b blk k sz e e'
  cases hr : ρr b with
  | none => exact absurd hr (G.known e)
  | some l => rw [l2 b l hr] at e'; exact e'
 have mono : ∀ {V0 : Rho} {M0 k sz : Nat} {blk : Blk}, Rho.le V0 (Z8u V ρr) -> B <= M0 -> BR P V0 S w M0 blk k sz -> BR P (Z8u V ρr) S w B blk k sz := by
  intro V0 M0 k sz blk j4 hM b
  have := b.mono j4 (fun _ h => h) (Ext.refl S w) (fun h => h) rfl
  exact ⟨this.sz_eq, eE hM this.base, this.own, this.not_own, this.rows, this.heap⟩
 refine ⟨fun b blk e => ?_, fun b b' k sz sz' blk blk' e1 e2 e3 e4 => ?_, H.old, H.glob⟩
 . rcases j2 b blk e with e | ⟨e, hr⟩
   . rcases G.at_ b blk e with ⟨k, sz, hb, j3⟩ | ⟨hb, hv⟩
     . exact .inl ⟨k, sz, l2 _ _ hb, mono l2 hB j3⟩
     . exact .inr ⟨l2 _ _ hb, hv⟩
   . rcases H.at_ b blk e with ⟨k, sz, hb, j3⟩ | ⟨hb, hv⟩
     . exact .inl ⟨k, sz, l1 _ _ hb, mono l1 (dM _) j3⟩
     . exact .inr ⟨l1 _ _ hb, hv⟩
 . have big : ∀ b blk k sz, g b = some blk -> ρr b = some (some (k, sz)) -> M <= k := fun b blk k sz e e' => (G.at_of e e').base
   rcases j2 b blk e1 with q1 | ⟨q1, r1⟩ <;> rcases j2 b' blk' e2 with q2 | ⟨q2, r2⟩
   . exact G.inj b b' k sz sz' blk blk' q1 q2 (j1 _ _ _ _ q1 e3) (j1 _ _ _ _ q2 e4)
   . have h1 := big _ _ _ _ q1 (j1 _ _ _ _ q1 e3)
     rw [j0 _ r2] at e4
     have h2 := hlt _ _ _ _ q2 e4
     omega
   . have h1 := big _ _ _ _ q2 (j1 _ _ _ _ q2 e4)
     rw [j0 _ r1] at e3
     have h2 := hlt _ _ _ _ q1 e3
     omega
   . rw [j0 _ r1] at e3
     rw [j0 _ r2] at e4
     exact H.inj b b' k sz sz' blk blk' q1 q2 e3 e4
theorem HR.monoS (H : HR P V S w B h) (hext : Ext S w w') (hsub : ∀ k, S k -> S' k) (hback : ∀ k, k < w.heap.size -> S' k -> S k) (hlt : ∀ k, S' k -> k < w'.heap.size)
 (hsame : ∀ k, k < w.heap.size -> w'.heap[k]? = w.heap[k]?) : HR P V S' w' B h := by
 refine ⟨fun b blk e => ?_, H.inj, hlt, H.glob.mono hsub hext⟩
 rcases H.at_ b blk e with ⟨k, sz, hb, hB⟩ | ⟨hb, r⟩
 . exact .inl ⟨k, sz, hb, hB.mono (fun _ _ h => h) hsub hext (hback k (H.lt e hb)) (hsame k (H.lt e hb))⟩
 . exact .inr ⟨hb, r⟩
def flat1 : A -> Bool
 | .v _ => true
 | .ref _ _ _ _ _ _ => true
 | _ => false
def flat : A -> Bool
 | .agg cs => cs.all flat1
 | a => flat1 a
theorem R.flat1 {a : A} {x : Value} (e : flat1 a = true) (r : R P V S w a x) : R P V S' w a x := by
 cases r with
 | v x h => exact .v x h
 | ref ty b off len cap ex k sz c ad h1 h2 h3 h4 h5 h6 h7 => exact .ref ty b off len cap ex k sz c ad h1 h2 h3 h4 h5 h6 h7
 | nil ty b ex h1 => exact .nil ty b ex h1
 | _ => simp [Vm.flat1] at e
theorem R.flat {a : A} {x : Value} (e : flat a = true) (r : R P V S w a x) : R P V S' w a x := by
 cases a with
 | agg cs =>
   cases r with
   | agg cs vs hl hr => exact .agg cs vs hl (fun i x y h1 h2 => (hr i x y h1 h2).flat1 (cW.1 e x (dU h1)))
 | _ => exact r.flat1 e
def Fresh (g g' : Hp) : Prop := ∀ b blk, g' b = some blk -> g b = some blk \/ (blk.own = true /\ Z0n blk.rows = false)
theorem Fresh.refl (g : Hp) : Fresh g g := fun b blk e => .inl e
theorem Fresh.upd {g g' : Hp} {n ty : Nat} {rows : List (List A)} (f : Fresh (upd g n (some ⟨ty, rows, true, false⟩)) g') (h : Z0n rows = false) : Fresh g g' := by
 intro b blk e
 rcases f b blk e with e | e
 . unfold Vm.upd at e
   split at e
   . simp only [dK] at e; subst e; exact .inr ⟨rfl, h⟩
   . exact .inl e
 . exact .inr e
theorem Fresh.trans {g g' g'' : Hp} (a : Fresh g g') (b : Fresh g' g'') : Fresh g g'' := by
 intro i blk e
 rcases b i blk e with e | e
 . exact a i blk e
 . exact .inr e
theorem Z9l : ∀ (cs : List A) (g : Hp) (n : Nat), Znv cs = false -> (Ye g n cs).1.all flat1 = true /\ Fresh g (Ye g n cs).2
 | [], g, n, _ => ⟨rfl, Fresh.refl g⟩
 | c :: cs, g, n, e => by
   simp only [Znv, fB] at e
   cases c with
   | olit ty rows =>
     obtain ⟨e1, e2⟩ := Z9l cs (upd g n (some ⟨ty, rows, true, false⟩)) (n + 1) e.2
     exact ⟨by simp only [Ye, gU, e1]; rfl, Fresh.upd e2 e.1⟩
   | v x =>
     obtain ⟨e1, e2⟩ := Z9l cs g n e.2
     exact ⟨by simp only [Ye, gU, e1]; rfl, e2⟩
   | _ => exact absurd e.1 (by simp [Ztn])
theorem Zad : ∀ (rs : List A) (g : Hp) (n : Nat), Z7g rs = false -> (∀ a ∈ (Ym g n rs).1, flat a = true) /\ Fresh g (Ym g n rs).2
 | [], g, n, _ => ⟨fun a h => by simp [Ym] at h, Fresh.refl g⟩
 | a :: rs, g, n, e => by
   have one : Z7g rs = false /\ flat (Z3k g n a).1 = true /\ Fresh g (Z3k g n a).2 := by
    cases a with
    | agg cs =>
      simp only [Z7g, fB] at e
      obtain ⟨e1, e2⟩ := Z9l cs g n e.1
      exact ⟨e.2, e1, e2⟩
    | olit ty rows =>
      simp only [Z7g, fB] at e
      exact ⟨e.2, rfl, Fresh.upd (Fresh.refl _) e.1⟩
    | v x =>
      simp only [Z7g, fB] at e
      exact ⟨e.2, rfl, Fresh.refl g⟩
    | _ => simp [Z7g, Ztn] at e
   obtain ⟨e1, e2⟩ := Zad rs (Z3k g n a).2 (n + Z82 a) one.1
   refine ⟨fun c hc => ?_, one.2.2.trans e2⟩
   simp only [Ym, eG] at hc
   rcases hc with rfl | hc
   . exact one.2.1
   . exact e1 c hc
theorem Zxg : ∀ {row : List A}, Zr7 row = false -> ∀ x ∈ row, Y9o x = false
 | [], _, x, hx => by simp at hx
 | a :: as, e, x, hx => by
   simp only [Zr7, fB] at e
   rcases eG.1 hx with rfl | hx
   . exact e.1
   . exact Zxg e.2 x hx
theorem Zrp : ∀ {rows : List (List A)}, Z0n rows = false -> ∀ row ∈ rows, ∀ x ∈ row, Y9o x = false
 | [], _, r, hr => by simp at hr
 | a :: as, e, r, hr => by
   simp only [Z0n, fB] at e
   rcases eG.1 hr with rfl | hr
   . exact Zxg e.1
   . exact Zrp e.2 r hr
theorem HR.flatS {g : Hp} {M : Nat} (G : HR P V S' w M g) (hf : Fresh Zh4 g) (hS : ∀ k, S k -> k < M) (hM : M <= w.heap.size) (hG : GlobOk P S w) : HR P V S w M g := by
 refine ⟨fun b blk e => ?_, G.inj, fun k hk => fH (hS k hk) hM, hG⟩
 have hb : blk.own = true /\ Z0n blk.rows = false := by
  rcases hf b blk e with e | e
  . cases e
  . exact e
 rcases G.at_ b blk e with ⟨k, sz, h1, hB⟩ | ⟨h1, r⟩
 . refine .inl ⟨k, sz, h1, ⟨hB.sz_eq, hB.base, fun _ hs => (by have := hS k hs; have := hB.base; omega), fun hq => absurd (hb.1.symm.trans hq) (by simp), hB.rows, ?_⟩⟩
   obtain ⟨c, hc, hs, j0⟩ := hB.heap
   refine ⟨c, hc, hs, fun i row j x e1 e2 => ?_⟩
   obtain ⟨y, hy, hr⟩ := j0 i row j x e1 e2
   have hv := Zrp hb.2 row (dU e1) x (dU e2)
   refine ⟨y, hy, ?_⟩
   cases x with
   | v z => exact hr.flat1 rfl
   | _ => simp [Y9o] at hv
 . exact .inr ⟨h1, r⟩
theorem R.flats {as : List A} {v : Value} (e : ∀ a ∈ as, Vm.flat a = true) (r : R P V S w (pack as) v) : R P V S' w (pack as) v := by
 have tup : ∀ as : List A, (∀ a ∈ as, Vm.flat a = true) -> R P V S w (.tup as) v -> R P V S' w (.tup as) v := by
  intro as e r
  cases r with
  | tup cs vs hl hr => exact .tup as vs hl (fun i x y h1 h2 => (hr i x y h1 h2).flat (e x (dU h1)))
 match as, e, r with
 | [], e, r => exact tup [] e r
 | [a], e, r => exact R.flat (e a (by simp)) r
 | a :: b :: as, e, r => exact tup _ e r
theorem Zws (H : HR P V S w B h) (hB : B <= w.heap.size) {as rs : List A} {n : Nat} {v : Value} (hf : ∀ b, X6 n (Yp rs) b -> V b = none)
 (hres : Res P (Wv V S h (Xt h as)) w rs v w') :
 Eff P B V S w (X6 n (Yp rs)) (Ym (aft h as rs) n rs).2 (pack (Ym (aft h as rs) n rs).1) v w' := by
 obtain ⟨S', j8, j4, j0, j3, j9⟩ := hres
 obtain ⟨ρr, j6, G, hr⟩ := j9 n
 have hd : ∀ b, ρr b ≠ none -> V b = none := fun b hb => by
  by_cases hs : X6 n (Yp rs) b
  . exact hf b hs
  . exact absurd (j6 b hs) hb
 have j7 : ∀ b, V b = none -> ¬ X6 n (Yp rs) b -> Z8u V ρr b = none := fun b h1 h2 => by simp [Z8u, j6 b h2, h1]
 have j1 : Ext S w w' := ⟨fun k hk => j3.same k (.inl hk), j3.size, j3.maps⟩
 have j5 : ∀ k, k < w.heap.size -> w'.heap[k]? = w.heap[k]? := fun k hk => j0.block k hk
 rw [(Z3i rs (aft h as rs) n).1, (Z3i rs (aft h as rs) n).2]
 unfold aft
 split
 . -- the arguments' rows stand fast from now on
   have H1 := H.freeze (Xt h as)
   have H2 := H1.monoS (S' := S') (w' := w') j3 j8 (fun k hk hs => by rcases j4 k hs with h' | h'; exact h'; omega) G.old j5
   have H3 := H2.merge G hB (fun b blk k sz e e' => H1.lt e e') hd
   exact ⟨Z8u V ρr, S', ⟨Z9z hd, fun k hk => j8 k (.inl hk), j1, j0.mono hB, j7, fun k hk => by
    rcases j4 k hk with h' | h'
    . exact (Z7t H (Xt h as) (fun _ => False)).back k h'
    . exact .inr (by omega)⟩, H3, hr.mono (Z74 V ρr) (fun _ h => h) (Ext.refl _ _)⟩
 . rename_i j2
   have j2 : Z7g rs = false := by simpa using j2
   obtain ⟨f1, f2⟩ := Zad rs Zh4 n j2
   have G' := G.flatS (S := S) f2 H.old j0.size (H.glob.mono (fun _ h => h) j1)
   have H2 := H.monoS (S' := S) (w' := w') j1 (fun _ h => h) (fun k _ hs => hs) (fun k hk => fH (H.old k hk) j0.size) j5
   have H3 := H2.merge G' hB (fun b blk k sz e e' => H.lt e e') hd
   exact ⟨Z8u V ρr, S, ⟨Z9z hd, fun k hk => hk, j1, j0.mono hB, j7, fun _ h => .inl h⟩, H3, (hr.flats f1).mono (Z74 V ρr) (fun _ h => h) (Ext.refl _ _)⟩
structure Outs (h : Hp) (seen seen' : List Nat) (k : Nat) (O L : List Nat) : Prop where
 len : O.length = k
 nodup : O.Nodup
 apart : ∀ b ∈ O, b ∉ L
 newO : ∀ b ∈ O, b ∉ seen
 newL : ∀ b ∈ L, b ∉ seen
 seenO : ∀ b ∈ O, b ∈ seen'
 seenL : ∀ b ∈ L, b ∈ seen'
 keep : ∀ b ∈ seen, b ∈ seen'
 own : ∀ b ∈ O, ∃ blk, h b = some blk /\ blk.own = true /\ blk.box = false
def Zpb (h g : Hp) (n : Nat) (O : List Nat) : Hp := fun x => if n <= x then (match O[x - n]? with | some b => h b | none => g x) else g x
theorem Outs.none_ (seen : List Nat) : Outs h seen seen 0 [] [] :=
 ⟨rfl, List.nodup_nil, fun b hb => by simp at hb, fun b hb => by simp at hb, fun b hb => by simp at hb, fun b hb => by simp at hb, fun b hb => by simp at hb, fun b hb => hb, fun b hb => by simp at hb⟩
theorem Outs.append {s1 s2 s3 : List Nat} {k1 k2 : Nat} {O1 O2 L1 L2 : List Nat} (a : Outs h s1 s2 k1 O1 L1) (b : Outs h s2 s3 k2 O2 L2) : Outs h s1 s3 (k1 + k2) (O1 ++ O2) (L1 ++ L2) := by
 refine ⟨by simp [a.len, b.len], ?_, ?_, ?_, ?_, ?_, ?_, fun x hx => b.keep x (a.keep x hx), ?_⟩
 . rw [List.nodup_append]
   exact ⟨a.nodup, b.nodup, fun x hx y hy e => b.newO y hy (e ▸ a.seenO x hx)⟩
 . intro x hx hl
   rcases dS.1 hx with hx | hx <;> rcases dS.1 hl with hl | hl
   . exact a.apart x hx hl
   . exact b.newL x hl (a.seenO x hx)
   . exact b.newO x hx (a.seenL x hl)
   . exact b.apart x hx hl
 . intro x hx
   rcases dS.1 hx with hx | hx
   . exact a.newO x hx
   . exact fun hs => b.newO x hx (a.keep x hs)
 . intro x hx
   rcases dS.1 hx with hx | hx
   . exact a.newL x hx
   . exact fun hs => b.newL x hx (a.keep x hs)
 . intro x hx
   rcases dS.1 hx with hx | hx
   . exact b.keep x (a.seenO x hx)
   . exact b.seenO x hx
 . intro x hx
   rcases dS.1 hx with hx | hx
   . exact b.keep x (a.seenL x hx)
   . exact b.seenL x hx
 . intro x hx
   rcases dS.1 hx with hx | hx
   . exact a.own x hx
   . exact b.own x hx
theorem Zd1 (H : HR P V S w B h) {seen seen' : List Nat} {a r : A} {x : Value} (e : Z6r h seen a = some (seen', r)) (ra : R P V S w a x) :
 ∃ O L, Outs h seen seen' (Z89 [r]) O L /\ ∀ (S' : Nat -> Prop), (∀ k, S k -> S' k) -> Fast V h L S' -> ∀ (g : Hp) (n : Nat) (ρr : Rho), (∀ i b, O[i]? = some b -> ρr (n + i) = V b) ->
  RL P ρr S' w (Ye g n [r]).1 [x] /\ ∀ b, (Ye g n [r]).2 b = Zpb h g n O b := by
 cases ra with
 | v x hx =>
   simp only [Z6r, dK, dR] at e
   obtain ⟨rfl, rfl⟩ := e
   exact ⟨[], [], Outs.none_ _, fun S' hS hF g n ρr hρ => ⟨.cons (.v x hx) .nil, fun b => by simp [Ye, Zpb]⟩⟩
 | lit ty rows a cap Y hcap hl hc hr =>
   simp only [Z6r, dK, dR] at e
   obtain ⟨rfl, rfl⟩ := e
   refine ⟨[], [], Outs.none_ _, fun S' hS hF g n ρr hρ => ⟨.cons ?_ .nil, fun b => by simp [Ye, Zpb]⟩⟩
   exact ((R.lit ty rows a cap Y hcap hl hc hr : R P Xq S w _ _)).mono (Zkt _) hS (Ext.refl _ _)
 | ref ty b off len cap ex k sz c ad hb hty hcap hex ha hlen hk =>
   have ra : R P V S w (.ref ty b off len cap ex) (.slice ad len c) := .ref ty b off len cap ex k sz c ad hb hty hcap hex ha hlen hk
   obtain ⟨j0, j2, e1⟩ := Z5 e
   clear e
   split at e1
   . cases e1
   . rename_i j5
     simp only [not_or, Bool.not_eq_true] at j5
     obtain ⟨j1, j3, j9⟩ := j5
     split at e1
     . rename_i hw
       obtain ⟨j4, rfl, rfl⟩ := hw
       simp only [dK, dR] at e1
       obtain ⟨rfl, rfl⟩ := e1
       have hB := H.at_of j2 hb
       refine ⟨[b], [], ⟨rfl, by simp, fun x hx => by simp, fun x hx => by simp at hx; subst hx; exact j1, fun x hx => by simp at hx, fun x hx => by simp at hx; subst hx; exact dA, fun x hx => by simp at hx, fun x hx => dX _ hx, fun x hx => by simp at hx; subst hx; exact ⟨j0, j2, j4, j3⟩⟩, fun S' hS hF g n ρr hρ => ⟨.cons ?_ .nil, fun x => ?_⟩⟩
       . have hρ0 : ρr n = some (some (k, sz)) := by have := hρ 0 b rfl; rw [fL] at this; rw [this, hb]
         obtain ⟨cs, t, ja, jb⟩ := hk
         exact .ref j0.ty n 0 j0.rows.length j0.rows.length false k sz c ad hρ0 hB.sz_eq hlen (fun h => by cases h) ha hlen ⟨cs, t, ja, jb⟩
       . simp only [Ye, upd, Zpb]
         by_cases hx : x = n
         . subst hx
           have : j0 = ⟨j0.ty, j0.rows, true, false⟩ := by cases j0; simp_all
           simp [j2]
           rw [<- this]
         . rw [if_neg hx]
           by_cases hn : n <= x
           . rw [if_pos hn]
             have : ([b] : List Nat)[x - n]? = none := eS (by simp; omega)
             rw [this]
           . rw [if_neg hn]
     . simp only [dK, dR] at e1
       obtain ⟨rfl, rfl⟩ := e1
       refine ⟨[], [b], ⟨rfl, by simp, fun x hx => by simp at hx, fun x hx => by simp at hx, fun x hx => by simp at hx; subst hx; exact j1, fun x hx => by simp at hx, fun x hx => by simp at hx; subst hx; exact dA, fun x hx => dX _ hx, fun x hx => by simp at hx⟩, fun S' hS hF g n ρr hρ => ⟨.cons ?_ .nil, fun x => by simp [Ye, Zpb]⟩⟩
       have j6 : Va h (.ref ty b off len cap ex) = some (.lit j0.ty ((j0.rows.drop off).take len)) := by
        simp only [Va, j2, bnd]
        rw [if_pos ⟨j3, by omega⟩]
       exact (Z9w H j6 ra hS hF).up
 | nil ty b ex hb =>
   have ra : R P V S w (.ref ty b 0 0 0 ex) (.slice none 0 0) := .nil ty b ex hb
   obtain ⟨j0, j2, e1⟩ := Z5 e
   clear e
   split at e1
   . cases e1
   . rename_i j5
     simp only [not_or, Bool.not_eq_true] at j5
     obtain ⟨j1, j3, j9⟩ := j5
     split at e1
     . rename_i hw
       obtain ⟨j4, _, j8⟩ := hw
       simp only [dK, dR] at e1
       obtain ⟨rfl, rfl⟩ := e1
       have j7 : j0.rows = [] := cY j8.symm
       refine ⟨[b], [], ⟨rfl, by simp, fun x hx => by simp, fun x hx => by simp at hx; subst hx; exact j1, fun x hx => by simp at hx, fun x hx => by simp at hx; subst hx; exact dA, fun x hx => by simp at hx, fun x hx => dX _ hx, fun x hx => by simp at hx; subst hx; exact ⟨j0, j2, j4, j3⟩⟩, fun S' hS hF g n ρr hρ => ⟨.cons ?_ .nil, fun x => ?_⟩⟩
       . have hρ0 : ρr n = some none := by have := hρ 0 b rfl; rw [fL] at this; rw [this, hb]
         rw [j7]
         exact .nil j0.ty n false hρ0
       . simp only [Ye, upd, Zpb]
         by_cases hx : x = n
         . subst hx
           have : j0 = ⟨j0.ty, j0.rows, true, false⟩ := by cases j0; simp_all
           simp [j2]
           rw [<- this]
         . rw [if_neg hx]
           by_cases hn : n <= x
           . rw [if_pos hn]
             have : ([b] : List Nat)[x - n]? = none := eS (by simp; omega)
             rw [this]
           . rw [if_neg hn]
     . simp only [dK, dR] at e1
       obtain ⟨rfl, rfl⟩ := e1
       refine ⟨[], [b], ⟨rfl, by simp, fun x hx => by simp at hx, fun x hx => by simp at hx, fun x hx => by simp at hx; subst hx; exact j1, fun x hx => by simp at hx, fun x hx => by simp at hx; subst hx; exact dA, fun x hx => dX _ hx, fun x hx => by simp at hx⟩, fun S' hS hF g n ρr hρ => ⟨.cons ?_ .nil, fun x => by simp [Ye, Zpb]⟩⟩
       have j6 : Va h (.ref ty b 0 0 0 ex) = some (.lit j0.ty ((j0.rows.drop 0).take 0)) := by
        simp only [Va, j2, bnd]
        rw [if_pos ⟨j3, by omega⟩]
       exact (Z9w H j6 ra hS hF).up
 | _ => simp [Z6r] at e
theorem Znh (g : Hp) (n : Nat) (r : A) (rs : List A) : Ye g n (r :: rs) = ((Ye g n [r]).1 ++ (Ye (Ye g n [r]).2 (n + Z89 [r]) rs).1, (Ye (Ye g n [r]).2 (n + Z89 [r]) rs).2) := by
 cases r <;> simp [Ye, Z89]
theorem Zu9 (r : A) (rs : List A) : Z89 (r :: rs) = Z89 [r] + Z89 rs := by
 cases r <;> simp [Z89, Nat.add_comm]
theorem Zqp (h g : Hp) (n : Nat) (O1 O2 : List Nat) : Zpb h (Zpb h g n O1) (n + O1.length) O2 = Zpb h g n (O1 ++ O2) := by
 funext x
 unfold Zpb
 by_cases h1 : n <= x
 . simp only [if_pos h1]
   by_cases h2 : n + O1.length <= x
   . rw [if_pos h2, dW (by omega), eS (l := O1) (by omega), show x - n - O1.length = x - (n + O1.length) by omega]
   . rw [if_neg h2, dV (by omega)]
 . simp only [if_neg h1]
   rw [if_neg (by omega)]
theorem Zsa (h g : Hp) (n : Nat) : Zpb h g n [] = g := by funext x; simp [Zpb]
def Given (P : Program) (V : Rho) (S : Nat -> Prop) (w : World) (h : Hp) (O L : List Nat) (out : Hp -> Nat -> List A × Hp) (vs : List Value) : Prop :=
 ∀ (S' : Nat -> Prop), (∀ k, S k -> S' k) -> Fast V h L S' -> ∀ (g : Hp) (n : Nat) (ρr : Rho), (∀ i b, O[i]? = some b -> ρr (n + i) = V b) -> RL P ρr S' w (out g n).1 vs /\ (out g n).2 = Zpb h g n O
theorem Given.append {O1 O2 L1 L2 : List Nat} {k : Nat} {o1 o2 : Hp -> Nat -> List A × Hp} {vs us : List Value} (hk : O1.length = k) (a : Given P V S w h O1 L1 o1 vs) (b : Given P V S w h O2 L2 o2 us) :
 Given P V S w h (O1 ++ O2) (L1 ++ L2) (fun g n => ((o1 g n).1 ++ (o2 (o1 g n).2 (n + k)).1, (o2 (o1 g n).2 (n + k)).2)) (vs ++ us) := by
 intro S' hS hF g n ρr hρ
 obtain ⟨a1, a2⟩ := a S' hS hF.left g n ρr (fun i b hb => hρ i b (by rw [dV (dQ.1 hb).1]; exact hb))
 obtain ⟨b1, b2⟩ := b S' hS hF.right (o1 g n).2 (n + k) ρr (fun i b hb => by
  have := hρ (k + i) b (by rw [dW (by omega), <- hb]; congr 1; omega)
  rw [<- this, gM])
 refine ⟨a1.append b1, ?_⟩
 show (o2 (o1 g n).2 (n + k)).2 = _
 rw [b2, a2, <- hk, Zqp]
theorem Zb5 (H : HR P V S w B h) : ∀ {as rs : List A} {vs : List Value} {seen seen' : List Nat}, Zf4 h seen as = some (seen', rs) -> RL P V S w as vs ->
 ∃ O L, Outs h seen seen' (Z89 rs) O L /\ Given P V S w h O L (fun g n => Ye g n rs) vs
 | [], rs, vs, seen, seen', e, r => by
   simp only [Zf4, dK, dR] at e
   obtain ⟨rfl, rfl⟩ := e
   rw [r.inv_nil]
   exact ⟨[], [], Outs.none_ _, fun S' hS hF g n ρr hρ => ⟨.nil, (Zsa h g n).symm⟩⟩
 | a :: as, rs, vs, seen, seen', e, r => by
   obtain ⟨⟨s1, r1⟩, h1, e1⟩ := Z5 e
   obtain ⟨⟨s2, r2⟩, h2, e2⟩ := Z5 e1
   simp only [dK, dR] at e2
   obtain ⟨rfl, rfl⟩ := e2
   obtain ⟨x, xs, rfl, q1, q2⟩ := r.inv_cons
   obtain ⟨O1, L1, u1, g1⟩ := Zd1 H h1 q1
   obtain ⟨O2, L2, u2, g2⟩ := Zb5 H h2 q2
   refine ⟨O1 ++ O2, L1 ++ L2, by rw [Zu9]; exact u1.append u2, ?_⟩
   have a1 : Given P V S w h O1 L1 (fun g n => Ye g n [r1]) [x] := fun S' hS hF g n ρr hρ => by
    obtain ⟨p1, p2⟩ := g1 S' hS hF g n ρr hρ
    exact ⟨p1, funext p2⟩
   have := Given.append u1.len a1 g2
   intro S' hS hF g n ρr hρ
   have t := this S' hS hF g n ρr hρ
   simp only [] at t ⊢
   rw [Znh]
   exact t
theorem Zpt {seen s' : List Nat} {a r : A} (e : Z6r h seen a = some (s', r)) : (∃ x, r = .v x) \/ (∃ t x, r = .lit t x) \/ ∃ t x, r = .olit t x := by
 cases a with
 | v x => simp only [Z6r, dK, dR] at e; exact .inl ⟨x, e.2.symm⟩
 | lit t x => simp only [Z6r, dK, dR] at e; exact .inr (.inl ⟨t, x, e.2.symm⟩)
 | ref ty b off len cap ex =>
   obtain ⟨j1, j0, e1⟩ := Z5 e
   split at e1
   . cases e1
   . split at e1 <;> simp only [dK, dR] at e1
     . exact .inr (.inr ⟨_, _, e1.2.symm⟩)
     . exact .inr (.inl ⟨_, _, e1.2.symm⟩)
 | _ => simp [Z6r] at e
theorem Zn7 {r : A} (k : (∃ x, r = .v x) \/ (∃ t x, r = .lit t x) \/ ∃ t x, r = .olit t x) (g : Hp) (n : Nat) : Ye g n [r] = ([(Z3k g n r).1], (Z3k g n r).2) /\ Z82 r = Z89 [r] := by
 rcases k with ⟨x, rfl⟩ | ⟨t, x, rfl⟩ | ⟨t, x, rfl⟩ <;> simp [Ye, Z3k, Z82, Z89]
theorem Zrd (H : HR P V S w B h) {seen seen' : List Nat} {a r : A} {x : Value} (e : Y2v h seen a = some (seen', r)) (ra : R P V S w a x) :
 ∃ O L, Outs h seen seen' (Z82 r) O L /\ Given P V S w h O L (fun g n => ([(Z3k g n r).1], (Z3k g n r).2)) [x] := by
 have cell : Z6r h seen a = some (seen', r) -> ∃ O L, Outs h seen seen' (Z82 r) O L /\ Given P V S w h O L (fun g n => ([(Z3k g n r).1], (Z3k g n r).2)) [x] := by
  intro e
  have hk := Zpt e
  obtain ⟨O, L, u, gv⟩ := Zd1 H e ra
  refine ⟨O, L, by rw [(Zn7 hk Zh4 0).2]; exact u, fun S' hS hF g n ρr hρ => ?_⟩
  obtain ⟨p1, p2⟩ := gv S' hS hF g n ρr hρ
  rw [(Zn7 hk g n).1] at p1 p2
  exact ⟨p1, funext p2⟩
 cases a with
 | agg cs =>
   obtain ⟨⟨s1, r1⟩, h1, e1⟩ := Z5 e
   simp only [dK, dR] at e1
   obtain ⟨rfl, rfl⟩ := e1
   cases ra with
   | agg cs vs hl hr =>
     obtain ⟨O, L, u, gv⟩ := Zb5 H h1 ⟨hl, hr⟩
     refine ⟨O, L, u, fun S' hS hF g n ρr hρ => ?_⟩
     obtain ⟨p1, p2⟩ := gv S' hS hF g n ρr hρ
     exact ⟨.cons (.agg _ vs p1.len p1.at_) .nil, p2⟩
 | _ => exact cell e
theorem Zcx (H : HR P V S w B h) : ∀ {as rs : List A} {vs : List Value} {seen : List Nat}, Za5 h seen as = some rs -> RL P V S w as vs ->
 ∃ seen' O L, Outs h seen seen' (Yp rs) O L /\ Given P V S w h O L (fun g n => Ym g n rs) vs
 | [], rs, vs, seen, e, r => by
   simp only [Za5, dK] at e
   subst e
   rw [r.inv_nil]
   exact ⟨seen, [], [], Outs.none_ _, fun S' hS hF g n ρr hρ => ⟨.nil, (Zsa h g n).symm⟩⟩
 | a :: as, rs, vs, seen, e, r => by
   obtain ⟨⟨s1, r1⟩, h1, e1⟩ := Z5 e
   obtain ⟨r2, h2, e2⟩ := Z5 e1
   simp only [dK] at e2
   subst e2
   obtain ⟨x, xs, rfl, q1, q2⟩ := r.inv_cons
   obtain ⟨O1, L1, u1, g1⟩ := Zrd H h1 q1
   obtain ⟨s2, O2, L2, u2, g2⟩ := Zcx H h2 q2
   refine ⟨s2, O1 ++ O2, L1 ++ L2, by simp only [Yp]; exact u1.append u2, ?_⟩
   have := Given.append u1.len g1 g2
   intro S' hS hF g n ρr hρ
   exact this S' hS hF g n ρr hρ
def Ztv : List Value -> Value
 | [x] => x
 | xs => .tuple xs.toArray
theorem R.pack {as : List A} {vs : List Value} (r : RL P V S w as vs) : R P V S w (pack as) (Ztv vs) := by
 match as, r with
 | [], r => rw [r.inv_nil]; exact .tup [] [] rfl (fun i x y h => by simp at h)
 | [a], r =>
   obtain ⟨x, xs, rfl, q1, q2⟩ := r.inv_cons
   rw [q2.inv_nil]
   exact q1
 | a :: b :: as, r =>
   obtain ⟨x, xs, rfl, q1, q2⟩ := r.inv_cons
   obtain ⟨y, ys, rfl, q3, q4⟩ := q2.inv_cons
   exact .tup _ _ r.len r.at_
def Zon (V : Rho) (n : Nat) (O : List Nat) : Rho := fun b => if n <= b then (match O[b - n]? with | some b' => V b' | none => none) else none
theorem Zaq {M : Nat} {w1 : World} {S1 : Nat -> Prop} (hM : M = w.heap.size) (H : HR P V S1 w1 M h) {as rs : List A} {vs : List Value} (r : RL P V S1 w1 as vs) (e : Za5 h [] as = some rs)
 (hsub : ∀ k, S k -> S1 k) (hback : ∀ k, S1 k -> S k \/ M <= k) (hbelow : Below M w w1) (hext : Ext S w w1) : Res P S w rs (Ztv vs) w1 := by
 subst hM
 obtain ⟨j8, O, L, u, gv⟩ := Zcx H e r
 have HF := H.freeze L
 refine ⟨Wv V S1 h L, fun k hk => .inl (hsub k hk), fun k hk => ?_, hbelow, hext, fun n => ⟨Zon V n O, fun b hb => ?_, ?_, ?_⟩⟩
 . rcases hk with hk | ⟨b, hb, blk, sz, e1, e2⟩
   . exact hback k hk
   . exact .inr (H.at_of e1 e2).base
 . unfold Zon
   split
   . rename_i hn
     rw [eS (by rw [u.len]; simp only [X6] at hb; omega)]
   . rfl
 . obtain ⟨_, g2⟩ := gv (Wv V S1 h L) (fun k hk => .inl hk) (Fast.frozen L) Zh4 n (Zon V n O) (fun i b hb => by simp [Zon, hb])
   rw [g2]
   have j5 : ∀ b blk, Zpb h Zh4 n O b = some blk -> ∃ b', n <= b /\ O[b - n]? = some b' /\ h b' = some blk /\ Zon V n O b = V b' := by
    intro b blk e
    unfold Zpb at e
    split at e
    . rename_i hn
      split at e
      . rename_i b' j4
        exact ⟨b', hn, j4, e, by simp [Zon, hn, j4]⟩
      . cases e
    . cases e
   refine ⟨fun b blk e => ?_, fun b1 b2 k sz sz' blk1 blk2 e1 e2 e3 e4 => ?_, HF.old, HF.glob⟩
   . obtain ⟨b', hn, j4, j1, hg⟩ := j5 b blk e
     have j2 : b' ∈ O := dU j4
     obtain ⟨jb, j0, j6, j7⟩ := u.own b' j2
     rw [j1] at j0
     simp only [dK] at j0
     subst j0
     rw [hg]
     rcases H.at_ b' blk j1 with ⟨k, sz, hb, hB⟩ | ⟨hb, hv⟩
     . refine .inl ⟨k, sz, hb, ⟨hB.sz_eq, hB.base, fun ho hs => ?_, fun ho => absurd (j6.symm.trans ho) (by simp), hB.rows, ?_⟩⟩
       . rcases hs with hs | ⟨b2, jc, blk2, sz2, e1, e2⟩
         . exact hB.own ho hs
         . have := H.inj b' b2 k sz sz2 blk blk2 j1 e1 hb e2
           exact u.apart b' j2 (this ▸ jc)
       . obtain ⟨c, hc, hs, j3⟩ := hB.heap
         refine ⟨c, hc, hs, fun i row j x h1 h2 => ?_⟩
         obtain ⟨y, hy, hr⟩ := j3 i row j x h1 h2
         rw [j7] at hr ⊢
         exact ⟨y, hy, R.mono (V := Xq) (fun _ _ h => h) (fun _ h => .inl h) (Ext.refl _ _) hr⟩
     . exact .inr ⟨hb, hv⟩
   . obtain ⟨c1, n1, o1, q1, g1⟩ := j5 b1 blk1 e1
     obtain ⟨c2, n2, o2, q2, j9⟩ := j5 b2 blk2 e2
     rw [g1] at e3
     rw [j9] at e4
     have hc := H.inj c1 c2 k sz sz' blk1 blk2 q1 q2 e3 e4
     subst hc
     have l1 := (dQ.1 o1).1
     have l2 := (dQ.1 o2).1
     rw [dP l1] at o1
     rw [dP l2] at o2
     simp only [dK] at o1 o2
     have hp := List.pairwise_iff_getElem.1 u.nodup
     rcases Nat.lt_trichotomy (b1 - n) (b2 - n) with hlt | jd | ja
     . exact absurd (o1.trans o2.symm) (hp _ _ l1 l2 hlt)
     . omega
     . exact absurd (o2.trans o1.symm) (hp _ _ l2 l1 ja)
 . obtain ⟨g1, _⟩ := gv (Wv V S1 h L) (fun k hk => .inl hk) (Fast.frozen L) Zh4 n (Zon V n O) (fun i b hb => by simp [Zon, hb])
   exact R.pack g1
theorem Zzn {f : A -> Option (A × List Nat)} {V0 : Rho} (hf : ∀ a c bs x, f a = some (c, bs) -> R P V0 S w a x -> Fast V h bs S' -> R P Xq S' w c x /\ Z1o c = true) :
 ∀ {as cs : List A} {bs : List Nat} {vs : List Value}, Z5q f as = some (cs, bs) -> RL P V0 S w as vs -> Fast V h bs S' -> RL P Xq S' w cs vs /\ Zl cs = true
 | [], cs, bs, vs, e, r, _ => by
   simp only [Z5q, dK, dR] at e
   obtain ⟨rfl, rfl⟩ := e
   rw [r.inv_nil]
   exact ⟨.nil, rfl⟩
 | a :: as, cs, bs, vs, e, r, hF => by
   obtain ⟨p, hp, e1⟩ := Z5 e
   obtain ⟨q, hq, e2⟩ := Z5 e1
   simp only [dK, dR] at e2
   obtain ⟨rfl, rfl⟩ := e2
   obtain ⟨x, xs, rfl, r1, r2⟩ := r.inv_cons
   obtain ⟨q1, q2⟩ := hf a p.1 p.2 x hp r1 (Fast.left hF)
   obtain ⟨q3, q4⟩ := Zzn hf (bs := q.2) hq r2 (Fast.right hF)
   exact ⟨.cons q1 q3, by simp [Zl, q2, q4]⟩
theorem Zh6 {f : A -> Option (A × List Nat)} : ∀ {rows rs : List (List A)} {bs : List Nat}, Z01 f rows = some (rs, bs) -> rs.length = rows.length /\
 ∀ (i : Nat) (row : List A), rs[i]? = some row -> ∃ row0 cs, rows[i]? = some row0 /\ Z5q f row0 = some (row, cs) /\ ∀ b ∈ cs, b ∈ bs
 | [], rs, bs, e => by
   simp only [Z01, dK, dR] at e
   obtain ⟨rfl, rfl⟩ := e
   exact ⟨rfl, fun i row h => by simp at h⟩
 | r :: rows, rs, bs, e => by
   obtain ⟨p, hp, e1⟩ := Z5 e
   obtain ⟨q, hq, e2⟩ := Z5 e1
   simp only [dK, dR] at e2
   obtain ⟨rfl, rfl⟩ := e2
   obtain ⟨l1, l2⟩ := Zh6 (bs := q.2) hq
   refine ⟨by simp [l1], fun i row h => ?_⟩
   cases i with
   | zero => simp at h; subst h; exact ⟨r, p.2, rfl, hp, fun b hb => List.mem_append_left _ hb⟩
   | succ i =>
     obtain ⟨row0, cs, h1, h2, h3⟩ := l2 i row (by simpa using h)
     exact ⟨row0, cs, by simpa using h1, h2, fun b hb => fW _ (h3 b hb)⟩
theorem Zjt {f : A -> Option (A × List Nat)} : ∀ {as cs : List A} {bs : List Nat}, Z5q f as = some (cs, bs) -> cs.length = as.length
 | [], cs, bs, e => by simp only [Z5q, dK, dR] at e; rw [<- e.1]
 | a :: as, cs, bs, e => by
   obtain ⟨p, hp, e1⟩ := Z5 e
   obtain ⟨q, hq, e2⟩ := Z5 e1
   simp only [dK, dR] at e2
   rw [<- e2.1]
   simp [Zjt (bs := q.2) hq]
theorem Y4o {k off sz c len : Nat} {ad : Option Addr} {cs : Array Value} {t : TypeId} {ty : Nat} {rows : List (List A)} (hcs : w.heap[k]? = some (Obj.cells cs t (0, 0))) (ha : 0 < c -> ad = some ⟨k, off * sz, none⟩) (hlen : rows.length = len) (hlc : len <= c) (hsz : sz = P.cellsOf ty) (hk : S' k)
 (hrow : ∀ (i : Nat) (row : List A), rows[i]? = some row -> row.length = sz /\ Zl row = true)
 (hcell : ∀ (i : Nat) (row : List A) (j : Nat) (x : A), rows[i]? = some row -> row[j]? = some x -> ∃ y, cs[(off + i) * sz + j]? = some y /\ R P Xq S' w x y) :
 R P Xq S' w (.lit ty rows) (.slice ad len c) := by
 suffices hh : R P Xq S' w (.lit ty rows) (.slice ad rows.length c) by rw [hlen] at hh; exact hh
 refine .lit ty rows ad c (fun i j => (cs[(off + i) * sz + j]?).getD undef) (by omega) (fun i row h => by rw [<- hsz]; exact hrow i row h) (fun i row j x h1 h2 => ?_) (fun i row j x h1 h2 => ?_)
 . obtain ⟨y, hy, _⟩ := hcell i row j x h1 h2
   have hi : i < rows.length := (dQ.1 h1).1
   refine ⟨k, off * sz, ha (by omega), hk, ?_⟩
   rw [<- hsz]
   have : off * sz + i * sz + j = (off + i) * sz + j := by rw [dJ]
   simp [World.cell?, hcs, this, hy]
 . obtain ⟨y, hy, hr⟩ := hcell i row j x h1 h2
   simp only [hy, dB]
   exact hr
theorem Yab (H : HR P V S w B h) (hS : ∀ k, S k -> S' k) : ∀ (n : Nat) (a c : A) (bs : List Nat) (x : Value), clD h n a = some (c, bs) -> R P V S w a x -> Fast V h bs S' -> R P Xq S' w c x /\ Z1o c = true := by
 intro n
 induction n with
 | zero =>
   intro a c bs x e r hF
   cases r with
   | v x hx => simp only [clD, dK, dR] at e; rw [<- e.1]; exact ⟨.v x hx, rfl⟩
   | lit ty rows a cap Y hcap hl hc hr =>
     simp only [clD, dK, dR] at e
     rw [<- e.1]
     exact ⟨((R.lit ty rows a cap Y hcap hl hc hr : R P Xq S w _ _)).mono (fun _ _ h => h) hS (Ext.refl _ _), rfl⟩
   | _ => simp [clD] at e
 | succ n ih =>
   intro a c bs x e r hF
   cases r with
   | v x hx => simp only [clD, dK, dR] at e; rw [<- e.1]; exact ⟨.v x hx, rfl⟩
   | lit ty rows a cap Y hcap hl hc hr =>
     simp only [clD, dK, dR] at e
     rw [<- e.1]
     exact ⟨((R.lit ty rows a cap Y hcap hl hc hr : R P Xq S w _ _)).mono (fun _ _ h => h) hS (Ext.refl _ _), rfl⟩
   | ref ty b off len cap ex k sz c' ad hb hty hcap hex ha j5 hk =>
     obtain ⟨j3, j2, e1⟩ := Z5 e
     clear e
     split at e1
     . rename_i jf
       have hB := H.at_of j2 hb
       have j9 : ((j3.rows.drop off).take len).length = len := by simp; omega
       obtain ⟨cs, ja, _, j0⟩ := hB.heap
       have j4 : ∀ (i : Nat) (row : List A), ((j3.rows.drop off).take len)[i]? = some row -> j3.rows[off + i]? = some row := by
        intro i row h
        rw [cZ] at h
        split at h
        . rw [eY] at h; exact h
        . cases h
       cases hbox : j3.box with
       | false =>
         rw [hbox] at e1 j0
         simp only [cond_false, dK, dR] at e1
         obtain ⟨rfl, rfl⟩ := e1
         refine ⟨Y4o ja ha j9 (by omega) hB.sz_eq (hF b dA j3 k sz j2 hb) (fun i row h => hB.rows _ _ (j4 i row h)) (fun i row j x h1 h2 => ?_), rfl⟩
         obtain ⟨y, hy, hr⟩ := j0 _ _ _ _ (j4 i row h1) h2
         exact ⟨y, hy, R.mono (V := Xq) (fun _ _ h => h) hS (Ext.refl _ _) hr⟩
       | true =>
         rw [hbox] at e1 j0
         simp only [cond_true] at e1
         obtain ⟨p, hp, e2⟩ := Z5 e1
         simp only [dK, dR] at e2
         obtain ⟨rfl, rfl⟩ := e2
         obtain ⟨l1, l2⟩ := Zh6 (bs := p.2) hp
         have j6 : ∀ (i : Nat) (row : List A), p.1[i]? = some row -> (row.length = sz /\ Zl row = true) /\ ∀ (j : Nat) (x : A), row[j]? = some x -> ∃ y, cs[(off + i) * sz + j]? = some y /\ R P Xq S' w x y := by
          intro i row hi
          obtain ⟨j1, nm, h1, h2, h3⟩ := l2 i row hi
          have j8 := j4 i j1 h1
          have jb := hB.rows _ _ j8
          let vs := (List.range j1.length).map fun m => (cs[(off + i) * sz + m]?).getD undef
          have jd : RL P V S w j1 vs := ⟨by simp [vs], fun m x y e1 e2 => by
           obtain ⟨y', j7, je⟩ := j0 _ _ _ _ j8 e1
           have hm : m < j1.length := (dQ.1 e1).1
           simp [vs, fU hm, j7] at e2
           exact e2 ▸ je⟩
          obtain ⟨q1, q2⟩ := Zzn (fun a c bs x e r hf => ih a c bs x e r hf) h2 jd (fun b' jc => hF b' (dX _ (h3 b' jc)))
          have j5 := Zjt h2
          refine ⟨⟨by rw [j5]; exact jb.1, q2⟩, fun j x hx => ?_⟩
          have hj : j < j1.length := by rw [<- j5]; exact (dQ.1 hx).1
          obtain ⟨y', j7, _⟩ := j0 _ _ _ _ j8 (dP hj)
          exact ⟨y', j7, q1.at_ j x y' hx (by simp [vs, fU hj, j7])⟩
         exact ⟨Y4o ja ha (by rw [l1]; exact j9) (by omega) hB.sz_eq (hF b dA j3 k sz j2 hb) (fun i row h => (j6 i row h).1) (fun i row j x h1 h2 => (j6 i row h1).2 j x h2), rfl⟩
     . cases e1
   | nil ty b ex hb =>
     obtain ⟨j3, j2, e1⟩ := Z5 e
     clear e
     have fin : ∀ t, R P Xq S' w (.lit t []) (.slice none 0 0) := fun t => .lit t [] none 0 (fun _ _ => undef) (dM _) (fun i row h => by simp at h) (fun i row j x h => by simp at h) (fun i row j x h => by simp at h)
     split at e1
     . simp only [hJ] at e1
       cases hbox : j3.box with
       | false => rw [hbox] at e1; simp only [cond_false, dK, dR] at e1; rw [<- e1.1]; exact ⟨fin _, rfl⟩
       | true => rw [hbox] at e1; simp only [cond_true, Z01, bnd, dK, dR] at e1; rw [<- e1.1]; exact ⟨fin _, rfl⟩
     . cases e1
   | _ => simp [clD] at e
theorem Y4s (H : HR P V S w B h) (hS : ∀ k, S k -> S' k) {a c : A} {bs : List Nat} {x : Value} (e : Zzo h a = some (c, bs)) (r : R P V S w a x) (hF : Fast V h bs S') : R P Xq S' w c x := by
 cases a with
 | agg cs =>
   obtain ⟨p, hp, e1⟩ := Z5 e
   simp only [dK, dR] at e1
   obtain ⟨rfl, rfl⟩ := e1
   cases r with
   | agg cs vs hl hr =>
     obtain ⟨q1, _⟩ := Zzn (fun a c bs x e r hf => Yab H hS 4 a c bs x e r hf) hp ⟨hl, hr⟩ hF
     exact .agg _ vs q1.len q1.at_
 | _ => exact (Yab H hS 4 _ c bs x e r hF).1
theorem Zqf (H : HR P V S w B h) (hS : ∀ k, S k -> S' k) : ∀ {as cs : List A} {bs : List Nat} {vs : List Value}, Zg9 h as = some (cs, bs) -> RL P V S w as vs -> Fast V h bs S' -> RL P Xq S' w cs vs
 | [], cs, bs, vs, e, r, _ => by
   simp only [Zg9, Z5q, dK, dR] at e
   obtain ⟨rfl, rfl⟩ := e
   rw [r.inv_nil]; exact .nil
 | a :: as, cs, bs, vs, e, r, hF => by
   obtain ⟨p, hp, e1⟩ := Z5 e
   obtain ⟨q, hq, e2⟩ := Z5 e1
   simp only [dK, dR] at e2
   obtain ⟨rfl, rfl⟩ := e2
   obtain ⟨x, xs, rfl, r1, r2⟩ := r.inv_cons
   exact .cons (Y4s H hS (bs := p.2) hp r1 (Fast.left hF)) (Zqf H hS (as := as) (bs := q.2) hq r2 (Fast.right hF))
theorem Y15 (H : HR P V S w B h) {as cs : List A} {bs : List Nat} {v : Value} (e : Zg9 h as = some (cs, bs)) (r : R P V S w (pack as) v) : R P V (Wv V S h bs) w (pack cs) v := by
 have one : ∀ {as cs : List A}, Zg9 h as = some (cs, bs) -> R P V S w (.tup as) v -> R P V (Wv V S h bs) w (.tup cs) v := by
  intro as cs e r
  cases r with
  | tup as vs hl hr =>
    have q := Zqf H (S' := Wv V S h bs) (fun _ h => .inl h) e ⟨hl, hr⟩ (Fast.frozen _)
    exact (R.tup cs vs q.len q.at_ : R P Xq _ _ _ _).up
 match as, e, r with
 | [], e, r =>
   have : cs = [] := by
    simp only [Zg9, Z5q, dK, dR] at e
    exact e.1.symm
   subst this
   exact one e r
 | [a], e, r =>
   obtain ⟨p, hp, e1⟩ := Z5 e
   simp only [Z5q, bnd, dK, dR, fI] at e1
   obtain ⟨rfl, rfl⟩ := e1
   exact (Y4s H (S' := Wv V S h p.2) (fun _ h => .inl h) (bs := p.2) hp r (Fast.frozen _)).up
 | a :: b :: as, e, r =>
   have hl := Zjt (f := Zzo h) (as := a :: b :: as) e
   match cs, hl with
   | c :: d :: cs, _ => exact one e r
theorem Zub (H : HR P V S w B h) (hB : B <= w.heap.size) {rs : List A} {n : Nat} {v : Value} {bs : List Nat} (hf : ∀ b, X6 n (Yp rs) b -> V b = none) (hflat : Z7g rs = false)
 (hres : Res P (Wv V S h bs) w rs v w') :
 Eff P B V S w (X6 n (Yp rs)) (Ym h n rs).2 (pack (Ym h n rs).1) v w' := by
 obtain ⟨S', j8, j7, j0, j2, j5⟩ := hres
 obtain ⟨ρr, j3, G, hr⟩ := j5 n
 have hd : ∀ b, ρr b ≠ none -> V b = none := fun b hb => by
  by_cases hs : X6 n (Yp rs) b
  . exact hf b hs
  . exact absurd (j3 b hs) hb
 have j6 : ∀ b, V b = none -> ¬ X6 n (Yp rs) b -> Z8u V ρr b = none := fun b h1 h2 => by simp [Z8u, j3 b h2, h1]
 have j1 : Ext S w w' := ⟨fun k hk => j2.same k (.inl hk), j2.size, j2.maps⟩
 have j4 : ∀ k, k < w.heap.size -> w'.heap[k]? = w.heap[k]? := fun k hk => j0.block k hk
 rw [(Z3i rs h n).1, (Z3i rs h n).2]
 obtain ⟨f1, f2⟩ := Zad rs Zh4 n hflat
 have G' := G.flatS (S := S) f2 H.old j0.size (H.glob.mono (fun _ h => h) j1)
 have H2 := H.monoS (S' := S) (w' := w') j1 (fun _ h => h) (fun k _ hs => hs) (fun k hk => fH (H.old k hk) j0.size) j4
 have H3 := H2.merge G' hB (fun b blk k sz e e' => H.lt e e') hd
 exact ⟨Z8u V ρr, S, ⟨Z9z hd, fun k hk => hk, j1, j0.mono hB, j6, fun _ h => .inl h⟩, H3, (hr.flats f1).mono (Z74 V ρr) (fun _ h => h) (Ext.refl _ _)⟩
end Go.Vm
namespace Go.Vm
open Go.RowKit
variable {P : Program} {V V' V'' : Rho} {S S' S'' : Nat -> Prop} {w w' w'' : World} {B N : Nat} {h : Hp}
structure SW (P : Program) (V : Rho) (S : Nat -> Prop) (B N : Nat) (U : St) (a : Act) (w : World) : Prop where
 slot : ∀ t, R P V S w (U.s t) (a.tmps.getD t undef)
 size : N <= a.tmps.size
 defers : a.defers = []
 heap : HR P V S w B U.h
 le : B <= w.heap.size
def Zae (P : Program) (f : Nat) : Prop := ∃ fn, P.funcs[f]? = some fn /\ (fn.name == "runtime.NumGoroutine") = false /\ fn.body.isNone = false
def Yad (P : Program) (F : List A -> Hp -> Nat -> Option (List A × Hp × Nat)) (f : Nat) : Prop :=
 ∀ (V : Rho) (S : Nat -> Prop) (w : World) (B : Nat) (as : List A) (xs : List Value) (h : Hp) (n : Nat) (rs : List A) (h' : Hp) (n' : Nat), F as h n = some (rs, h', n') ->
  HR P V S w B h -> B <= w.heap.size -> RL P V S w as xs -> (∀ b, n <= b -> V b = none) ->
  Calls P f xs.toArray w fun
   | .returned v, w' => n <= n' /\ ∃ V' S', Mv B V S w V' S' w' (fun b => n <= b) /\ HR P V' S' w' B h' /\ R P V' S' w' (pack rs) v /\ ∀ b, n' <= b -> V' b = none
   | _, _ => False
structure EnvOk (P : Program) (E : Env) : Prop where
 call : ∀ f, Z9i P (E.call f) f
 enter : ∀ f as rs, E.call f as = some rs -> Zae P f
 dc : ∀ f, Yad P (E.dc f) f
 dcEnter : ∀ f as h n r, E.dc f as h n = some r -> Zae P f
 df : ∀ f, Yad P (E.df f) f
 dfEnter : ∀ f as h n r, E.df f as h n = some r -> Zae P f
def Zpr (o : Oper) (f : Nat) (xs : List Opd) : Bool :=
 match o.op with
 | .call c => (match c.callee with | .value (.func g) => decide (g = f) | _ => false) && Z0h c.args.toList xs
 | _ => false
def Zsq (o : Oper) (y : Opd) (xs : List Opd) : Bool :=
 match o.op with
 | .call c => (match c.callee with | .value x => X1 x y | _ => false) && Z0h c.args.toList xs
 | _ => false
def Zk8 (P : Program) (ops : Array Oper) (o : Oper) (op : AOp) : Bool :=
 match op with
 | .mvn _ _ _ => match o.op with
   | .move (.const (.slice none 0 0)) | .assign (.const (.slice none 0 0)) => true
   | _ => false
 | .al _ _ ty zs => match o.op with
   | .alloc e => decide (e = ty) && Zd2 P ty zs
   | _ => false
 | .box _ _ ty n x => match o.op with
   | .box e y => decide (e = ty) && X1 y x && decide (n = P.cellsOf ty)
   | _ => false
 | .bld _ _ zs ps => match o.op with
   | .build t Z78 => Y5w P t Z78.toList zs ps
   | _ => false
 | .bsl _ _ ty n xs => match o.op with
   | .buildSlice t len Z78 => Zdc P t ty n len Z78.toList xs
   | _ => false
 | .st n p x => match o.op with
   | .store t a v => X1 a p && X1 v x && decide (n = P.cellsOf t) && (P.info? t).isSome
   | _ => false
 | .stn _ _ p => match o.op with
   | .store t a (.const (.slice none 0 0)) => X1 a p && decide (1 = P.cellsOf t) && (P.info? t).isSome
   | _ => false
 | .mkf _ f xs => match o.op with
   | .makeFunc (.func g) first cs => decide (g = f) && first.isEmpty && Z0h cs.toList xs
   | _ => false
 | .mks _ _ ty zs l c => match o.op with
   | .makeSlice t a b => X1 a l && X1 b c && Ztg P t ty zs
   | _ => false
 | .sl _ e x lo hi mx => match o.op with
   | .slice t y lo' hi' mx' => X1 y x && Zk2 lo' lo && Zk2 hi' hi && Zk2 mx' mx && Yee P t e hi mx
   | _ => false
 | .mkb _ _ ty zs l c => match o.op with
   | .makeSlice t a b => X1 a l && X1 b c && Ztg P t ty zs
   | _ => false
 | .bsb _ _ ty n xs => match o.op with
   | .buildSlice t len Z78 => Zdc P t ty n len Z78.toList xs
   | _ => false
 | .apb _ _ e s x => match o.op with
   | .call c => (match c.callee, c.args.toList, c.argTypes.toList with | .builtin .append, [a, b], [t, tx] => X1 a s && X1 b x && Zyo P t tx e | _, _, _ => false)
   | _ => false
 | .bll _ ty n xs => match o.op with
   | .buildSlice t len Z78 => Zdc P t ty n len Z78.toList xs
   | _ => false
 | .callx _ _ _ f xs => Zpr o f xs
 | .dcs _ f xs => Zpr o f xs
 | .call _ _ _ f xs => Zpr o f xs
 | .callv _ _ _ y xs => Zsq o y xs
 | .dcall _ f xs => Zpr o f xs
 | .dcf _ f xs => Zpr o f xs
 | .dcallv _ y xs => Zsq o y xs
 | .app _ _ e s x => match o.op with
   | .call c => (match c.callee, c.args.toList, c.argTypes.toList with | .builtin .append, [a, b], [t, tx] => X1 a s && X1 b x && Zyo P t tx e | _, _, _ => false)
   | _ => false
 | .clr e zs x => match o.op with
   | .call c => (match c.callee, c.args.toList, c.argTypes.toList with | .builtin .clear, [a], [t] => X1 a x && Y6p P t e zs | _, _, _ => false)
   | _ => false
 | op => Y0n P ops o op
def AOp.names : AOp -> Nat × Nat
 | .mvn _ nm _ => (nm, 1)
 | .al _ nm _ zs => (nm, 1 + (zs.filter Vj).length)
 | .box _ nm _ _ _ => (nm, 1)
 | .bld _ nm zs _ => (nm, (zs.filter Vj).length)
 | .bsl _ nm _ _ _ => (nm, 1)
 | .stn nm _ _ => (nm, 1)
 | .mks _ nm _ _ _ _ => (nm, 1)
 | .call _ nm w _ _ => (nm, w)
 | .callv _ nm w _ _ => (nm, w)
 | .app _ nm _ _ _ => (nm, 1)
 | .mkb _ nm _ _ _ _ => (nm, 1)
 | .bsb _ nm _ _ _ => (nm, 1)
 | .apb _ nm _ _ _ => (nm, 1)
 | .callx _ nm w _ _ => (nm, w)
 | _ => (0, 0)
def AOp.isD : AOp -> Bool
 | .dcall _ _ _ | .dcf _ _ _ | .dcallv _ _ _ | .dcs _ _ _ => true
 | _ => false
def lays (tot n : Nat) (op : AOp) (b : Nat) : Prop := if op.isD then n + tot <= b else X6 (n + op.names.1) op.names.2 b
structure Fin' (P : Program) (B : Nat) (V : Rho) (S : Nat -> Prop) (w : World) (iv : Nat -> Prop) (D : Bool) (U U' : St) (d : Option Nat) (v : Value) (w' : World) : Prop where
 ex : ∃ u, U' = ⟨put U.s d u, U'.h, U'.n, U.base⟩ /\ ∃ V' S', Mv B V S w V' S' w' iv /\ HR P V' S' w' B U'.h /\ R P V' S' w' u v /\ ((U'.n = U.n /\ (D = false \/ ∀ b, V b = none -> V' b = none)) \/ (U.n <= U'.n /\ ∀ b, U'.n <= b -> V' b = none))
theorem Fin'.of_eff {iv : Nat -> Prop} {U U' : St} {d : Option Nat} {u : A} {v : Value} {hh : Hp} (e : U' = ⟨put U.s d u, hh, U.n, U.base⟩) (q : Eff P B V S w iv hh u v w') {D : Bool} (hD : D = false := by rfl) : Fin' P B V S w iv D U U' d v w' := by
 subst e
 obtain ⟨V', S', M, H, r⟩ := q.ex
 exact ⟨u, rfl, V', S', M, H, r, .inl ⟨rfl, .inl hD⟩⟩
theorem Zbh {ev' : Operand -> Value} {o : Oper} {c : Call} {y : Operand} {f : Nat} {caps : Array Value} (ho : o.op = .call c) (hc : c.callee = .value y) (hv : ev' y = .func (.func f) #[] caps) (hf : Zae P f) :
 (execOp ev' o).run P w = .ok (.enter f (c.args.map ev' ++ caps)) w := by
 obtain ⟨fn, h1, h2, h3⟩ := hf
 have j0 : ¬ fn.name = "runtime.NumGoroutine" := by simpa using h2
 have j1 : ¬ fn.body = none := fun q => by rw [q] at h3; cases h3
 simp [execOp, ho, resolve, hc, hv, Deferred.ofValue, invoke, callFunc, h1, j0, j1, program, Sem.run]
theorem Zev : ∀ {rs : List A}, plain rs = true -> Yp rs = 0 /\ Z7g rs = false /\ ∀ h n, Ym h n rs = (rs, h)
 | [], _ => ⟨rfl, rfl, fun h n => rfl⟩
 | a :: rs, e => by
   cases a with
   | v x =>
     obtain ⟨e1, e2, e3⟩ := Zev (rs := rs) e
     exact ⟨by simp [Yp, Z82, e1], by simp [Z7g, Ztn, e2], fun h n => by simp [Ym, Z3k, e3]⟩
   | _ => simp [plain] at e
theorem Eff.wide {iv iv' : Nat -> Prop} {hh : Hp} {u : A} {v : Value} (q : Eff P B V S w iv hh u v w') (k : ∀ b, iv b -> iv' b) : Eff P B V S w iv' hh u v w' := by
 obtain ⟨V', S', M, H, r⟩ := q.ex
 exact ⟨V', S', M.wide k, H, r⟩
variable {E : Env}
theorem Zav (hE : EnvOk P E) (H : HR P V S w B h) (hB : B <= w.heap.size) {o : Oper} {a : Act} {c : Call} {y : Operand} {f : Nat} {as caps cs rs : List A} {us : List Value} {n : Nat} {Q : Exit -> Act -> World -> Prop}
 (ho : o.op = .call c) (hc : c.callee = .value y) (hv : a.eval y = .func (.func f) #[] us.toArray) (ra : RL P V S w as (c.args.toList.map a.eval)) (rc : RL P V S w caps us)
 (e1 : Z1a h (as ++ caps) = some cs) (e2 : E.call f cs = some rs) (hf : ∀ b, X6 n (Yp rs) b -> V b = none) {K : Act -> World -> Prop}
 (k : ∀ v w', Eff P B V S w (X6 n (Yp rs)) (Ym (aft h (as ++ caps) rs) n rs).2 (pack (Ym (aft h (as ++ caps) rs) n rs).1) v w' -> K (a.put o.dst v) w') : o.wp P a w K Q := by
 have j2 := Zsr H (S' := Wv V S h (Xt h (as ++ caps))) (fun _ h => .inl h) e1 (ra.append rc) (Fast.frozen _)
 have j0 := hE.call f _ w _ rs _ e2 (H.freeze (Xt h (as ++ caps))).old (H.freeze (Xt h (as ++ caps))).glob j2
 have j1 : (c.args.toList.map a.eval ++ us).toArray = c.args.map a.eval ++ us.toArray := by
  apply Array.ext'
  simp
 rw [j1] at j0
 unfold Oper.wp
 rw [Zbh ho hc hv (hE.enter f _ _ e2)]
 simp only [Oper.upon]
 refine j0.mono fun e w' he => ?_
 cases e with
 | returned v => exact k v w' (Zws H hB hf he)
 | _ => exact he.elim
theorem Zou (hE : EnvOk P E) (H : HR P V S w B h) (hB : B <= w.heap.size) {o : Oper} {a : Act} {c : Call} {y : Operand} {f : Nat} {as cs rs : List A} {bs : List Nat} {n : Nat} {Q : Exit -> Act -> World -> Prop}
 (ho : o.op = .call c) (hc : c.callee = .value y) (hv : a.eval y = .func (.func f) #[] #[]) (ra : RL P V S w as (c.args.toList.map a.eval))
 (e1 : Zg9 h as = some (cs, bs)) (e2 : E.call f cs = some rs) (hflat : Z7g rs = false) (hf : ∀ b, X6 n (Yp rs) b -> V b = none) {K : Act -> World -> Prop}
 (k : ∀ v w', Eff P B V S w (X6 n (Yp rs)) (Ym h n rs).2 (pack (Ym h n rs).1) v w' -> K (a.put o.dst v) w') : o.wp P a w K Q := by
 have j2 := Zqf H (S' := Wv V S h bs) (fun _ h => .inl h) e1 ra (Fast.frozen _)
 have j0 := hE.call f _ w _ rs _ e2 (H.freeze bs).old (H.freeze bs).glob j2
 have j1 : (c.args.toList.map a.eval).toArray = c.args.map a.eval ++ #[] := by
  apply Array.ext'
  simp
 rw [j1] at j0
 unfold Oper.wp
 rw [Zbh ho hc hv (hE.enter f _ _ e2)]
 simp only [Oper.upon]
 refine j0.mono fun e w' he => ?_
 cases e with
 | returned v => exact k v w' (Zub H hB hf hflat he)
 | _ => exact he.elim
theorem Z6q {o : Oper} {f : Nat} {xs : List Opd} (e : Zpr o f xs = true) : ∃ c, o.op = .call c /\ c.callee = .value (.func f) /\ Z0h c.args.toList xs = true := by
 unfold Zpr at e
 split at e
 . rename_i c hc
   simp only [dO] at e
   obtain ⟨e1, e2⟩ := e
   split at e1
   . rename_i g hg
     have : g = f := by simpa using e1
     subst this
     exact ⟨c, hc, hg, e2⟩
   . cases e1
 . cases e
theorem Zhm {o : Oper} {y : Opd} {xs : List Opd} (e : Zsq o y xs = true) : ∃ c x, o.op = .call c /\ c.callee = .value x /\ X1 x y = true /\ Z0h c.args.toList xs = true := by
 unfold Zsq at e
 split at e
 . rename_i c hc
   simp only [dO] at e
   obtain ⟨e1, e2⟩ := e
   split at e1
   . rename_i x hx
     exact ⟨c, x, hc, hx, e1, e2⟩
   . cases e1
 . cases e
theorem Zy2 {a : A} {p : Nat × List A} {x : Value} (e : fnA a = some p) (r : R P V S w a x) : ∃ us : List Value, x = .func (.func p.1) #[] us.toArray /\ RL P V S w p.2 us := by
 cases r with
 | fn f caps vs hp hl hr =>
   simp only [fnA, hp, cond_true, dK] at e
   subst e
   exact ⟨vs, rfl, hl, hr⟩
 | _ => simp [fnA] at e
end Go.Vm
namespace Go.Vm
open Go.RowKit
variable {P : Program} {V V' V'' : Rho} {S S' S'' : Nat -> Prop} {w w' w'' : World} {B N : Nat} {h : Hp} {E : Env}
theorem X9 {o : Oper} {a : Act} {K : Act -> World -> Prop} {Q : Exit -> Act -> World -> Prop} {v : Value} (hr : (execOp a.eval o).run P w = .ok (.value v) w') (k : K (a.put o.dst v) w') : o.wp P a w K Q := by
 unfold Oper.wp
 rw [hr]
 exact k
theorem Zcf {o : Oper} {a : Act} {K : Act -> World -> Prop} {Q : Exit -> Act -> World -> Prop} (hr : (execOp a.eval o).run P w = .ok .skip w') (k : K (a.put o.dst undef) w') : o.wp P a w K Q := by
 unfold Oper.wp
 rw [hr]
 exact k
theorem Ybz {c : Call} {x y : Operand} (h : c.args.toList = [x, y]) : c.args = #[x, y] := by have := congrArg List.toArray h; simpa using this
theorem Yem {c : Call} {x : Operand} (h : c.args.toList = [x]) : c.args = #[x] := by have := congrArg List.toArray h; simpa using this
theorem Yfa {c : Call} {x y : TypeId} (h : c.argTypes.toList = [x, y]) : c.argTypes = #[x, y] := by have := congrArg List.toArray h; simpa using this
theorem Yfy {c : Call} {x : TypeId} (h : c.argTypes.toList = [x]) : c.argTypes = #[x] := by have := congrArg List.toArray h; simpa using this
theorem Xs {J C : Type} (x : J) (f : J -> Option C) : bnd (some x) f = f x := rfl
theorem Ydp {a : A} {x : Value} (r : R P V S w a x) {q b : Bool} (hq : q = true) (e : opQ q a = some b) : x = .bool b := by
 subst hq
 cases r with
 | v x hx =>
   cases x <;> simp only [opQ, if_true, reduceCtorEq, dK] at e
   subst e; rfl
 | ifT a x h =>
   cases a <;> simp only [opQ, if_true, reduceCtorEq] at e
   rename_i y
   cases y <;> simp only [reduceCtorEq] at e
   simp [imp] at e
   subst e
   cases h with
   | v _ _ => rfl
 | ifF a =>
   cases a <;> simp only [opQ, if_true, reduceCtorEq] at e
   rename_i y
   cases y <;> simp [imp] at e
 | _ => simp [opQ] at e
theorem Y9y {U : St} {y : Opd} {x : Value} (r : R P V S w (ev U y) x) {q b : Bool} (hq : q = true) (e : evq q U y = some b) : x = .bool b := Ydp r hq e
theorem Zt9 (H : HR P V S w B h) {get : Opd -> Option A} {pk : Bool -> Opd -> Option Bool} {ev' : Operand -> Value}
 (hget : ∀ x y v, X1 x y = true -> get y = some v -> R P V S w v (ev' x)) (hpk : ∀ (q : Bool) x y b, X1 x y = true -> pk q y = some b -> q = true -> ev' x = .bool b)
 {ops : Array Oper} {o : Oper} {op : AOp} {u : A} {d : Option Nat} (hy : op.yields = some d) (ok : Zk8 P ops o op = true) (eq : Yc E h get pk op = some u) :
 ∃ v, (execOp ev' o).run P w = .ok (.value v) w /\ R P V S w u v := by
 have j0 : Y0n P ops o op = true := by
  cases op <;> first | exact ok | (simp [AOp.yields] at hy)
 exact Zxc H hget hpk j0 eq
theorem Z2w {op : AOp} {d : Option Nat} (hy : op.yields = some d) : op.dst = d /\ op.names = (0, 0) /\ op.isD = false := by
 cases op <;> simp only [AOp.yields, dK, reduceCtorEq] at hy <;> subst hy <;> exact ⟨rfl, rfl, rfl⟩
theorem Z9j (hE : EnvOk P E) (H : HR P V S w B h) (hB : B <= w.heap.size) {o : Oper} {a : Act} {c : Call} {y : Operand} {f : Nat} {as caps rs : List A} {us : List Value} {n n' : Nat} {h' : Hp} {Q : Exit -> Act -> World -> Prop}
 (ho : o.op = .call c) (hc : c.callee = .value y) (hv : a.eval y = .func (.func f) #[] us.toArray) (ra : RL P V S w as (c.args.toList.map a.eval)) (rc : RL P V S w caps us)
 (e2 : E.dc f (as ++ caps) h n = some (rs, h', n')) (hf : ∀ b, n <= b -> V b = none) {K : Act -> World -> Prop}
 (k : ∀ v w', n <= n' -> (∃ V' S', Mv B V S w V' S' w' (fun b => n <= b) /\ HR P V' S' w' B h' /\ R P V' S' w' (pack rs) v /\ ∀ b, n' <= b -> V' b = none) -> K (a.put o.dst v) w') : o.wp P a w K Q := by
 have j0 := hE.dc f V S w B _ _ h n rs h' n' e2 H hB (ra.append rc) hf
 have j1 : (c.args.toList.map a.eval ++ us).toArray = c.args.map a.eval ++ us.toArray := by
  apply Array.ext'
  simp
 rw [j1] at j0
 unfold Oper.wp
 rw [Zbh ho hc hv (hE.dcEnter f _ _ _ _ e2)]
 simp only [Oper.upon]
 refine j0.mono fun e w' he => ?_
 cases e with
 | returned v => exact k v w' he.1 he.2
 | _ => exact he.elim
theorem Ztq (hE : EnvOk P E) (H : HR P V S w B h) (hB : B <= w.heap.size) {o : Oper} {a : Act} {c : Call} {y : Operand} {f : Nat} {as caps rs : List A} {us : List Value} {n n' : Nat} {h' : Hp} {Q : Exit -> Act -> World -> Prop}
 (ho : o.op = .call c) (hc : c.callee = .value y) (hv : a.eval y = .func (.func f) #[] us.toArray) (ra : RL P V S w as (c.args.toList.map a.eval)) (rc : RL P V S w caps us)
 (e2 : E.df f (as ++ caps) h n = some (rs, h', n')) (hf : ∀ b, n <= b -> V b = none) {K : Act -> World -> Prop}
 (k : ∀ v w', n <= n' -> (∃ V' S', Mv B V S w V' S' w' (fun b => n <= b) /\ HR P V' S' w' B h' /\ R P V' S' w' (pack rs) v /\ ∀ b, n' <= b -> V' b = none) -> K (a.put o.dst v) w') : o.wp P a w K Q := by
 have j0 := hE.df f V S w B _ _ h n rs h' n' e2 H hB (ra.append rc) hf
 have j1 : (c.args.toList.map a.eval ++ us).toArray = c.args.map a.eval ++ us.toArray := by
  apply Array.ext'
  simp
 rw [j1] at j0
 unfold Oper.wp
 rw [Zbh ho hc hv (hE.dfEnter f _ _ _ _ e2)]
 simp only [Oper.upon]
 refine j0.mono fun e w' he => ?_
 cases e with
 | returned v => exact k v w' he.1 he.2
 | _ => exact he.elim
theorem Zed (hE : EnvOk P E) {U U' : St} {a : Act} {tot : Nat} {ops : Array Oper} {o : Oper} {op : AOp} {Q : Exit -> Act -> World -> Prop} (T : SW P V S B N U a w) (ok : Zk8 P ops o op = true) (hd : o.dst = op.dst)
 (hf : ∀ b, lays tot U.n op b -> V b = none) (e : step E tot op U = some U') {K : Act -> World -> Prop}
 (k : ∀ v w', Fin' P B V S w (lays tot U.n op) op.isD U U' op.dst v w' -> K (a.put o.dst v) w') : o.wp P a w K Q := by
 have j1 : ∀ x y, X1 x y = true -> R P V S w (ev U y) (a.eval x) := fun x y e => Zei T.slot e
 have H := T.heap
 have hB := T.le
 cases op with
 | mvn d nm ty =>
   simp only [step, dK] at e
   have j0 : (execOp a.eval o).run P w = .ok (.value (.slice none 0 0)) w := by
    simp only [Zk8] at ok
    split at ok
    . rename_i ho; simp [execOp, ho, Act.eval]
    . rename_i ho; simp [execOp, ho, Act.eval]
    . cases ok
   have hn : V (U.n + nm) = none := hf _ (by simp [lays, AOp.isD, AOp.names, X6])
   obtain ⟨H1, M1⟩ := H.none_ hn ty
   refine X9 j0 (k _ _ (Fin'.of_eff (u := .ref ty (U.n + nm) 0 0 0 false) e.symm ⟨_, S, M1.wide (fun b hb => by simp only [lays, AOp.isD, AOp.names, X6]; simp; omega), H1, .nil ty _ false (Xg _ _)⟩))
 | al d nm ty zs =>
   simp only [step, dK] at e
   simp only [Zk8] at ok
   split at ok
   . rename_i t ho
     simp only [dO, eF] at ok
     obtain ⟨rfl, hz⟩ := ok
     obtain ⟨x, w', hr, hq⟩ := Y0q H hB (n := U.n + nm) (fun b hb => hf b (by simpa [lays, AOp.isD, AOp.names] using hb)) hz
     have j0 : (execOp a.eval o).run P w = .ok (.value x) w' := by simp [execOp, ho, hr]
     exact X9 j0 (k _ _ (Fin'.of_eff e.symm (hq.wide (fun b hb => by simpa [lays, AOp.isD, AOp.names] using hb))))
   . cases ok
 | box d nm ty n x =>
   simp only [step] at e
   split at e
   . rename_i hc
     simp only [dK] at e
     simp only [Zk8] at ok
     split at ok
     . rename_i t y ho
       simp only [dO, eF] at ok
       obtain ⟨⟨rfl, hy⟩, rfl⟩ := ok
       obtain ⟨x', w', hr, hq⟩ := Zv6 H hB (hf (U.n + nm) (by simp [lays, AOp.isD, AOp.names, X6])) (j1 y x hy) hc.1 hc.2
       have j0 : (execOp a.eval o).run P w = .ok (.value x') w' := by simp [execOp, ho, hr]
       exact X9 j0 (k _ _ (Fin'.of_eff e.symm (hq.wide (fun b hb => by simpa [lays, AOp.isD, AOp.names] using hb))))
     . cases ok
   . cases e
 | bld d nm zs ps =>
   simp only [step] at e
   obtain ⟨cs, jb, e1⟩ := Z5 e
   simp only [dK] at e1
   simp only [Zk8] at ok
   split at ok
   . rename_i t Z78 ho
     obtain ⟨x', w', hr, hq⟩ := Zzg H j1 (n := U.n + nm) (fun b hb => hf b (by simpa [lays, AOp.isD, AOp.names] using hb)) ok jb
     have j0 : (execOp a.eval o).run P w = .ok (.value x') w' := by simp [execOp, ho, hr]
     exact X9 j0 (k _ _ (Fin'.of_eff e1.symm (hq.wide (fun b hb => by simpa [lays, AOp.isD, AOp.names] using hb))))
   . cases ok
 | bsl d nm ty n xs =>
   simp only [step] at e
   obtain ⟨rows, j3, e1⟩ := Z5 e
   simp only [dK] at e1
   simp only [Zk8] at ok
   split at ok
   . rename_i t len Z78 ho
     obtain ⟨x', w', hr, hq⟩ := Zx7 H hB rfl j1 (m := U.n + nm) (hf _ (by simp [lays, AOp.isD, AOp.names, X6])) ok j3
     have j0 : (execOp a.eval o).run P w = .ok (.value x') w' := by simp [execOp, ho, hr]
     exact X9 j0 (k _ _ (Fin'.of_eff e1.symm (hq.wide (fun b hb => by simpa [lays, AOp.isD, AOp.names] using hb))))
   . cases ok
 | st n p x =>
   simp only [step] at e
   obtain ⟨hh, jc, e1⟩ := Z5 e
   simp only [dK] at e1
   simp only [Zk8] at ok
   split at ok
   . rename_i t ad vl ho
     simp only [dO, eF] at ok
     obtain ⟨⟨⟨h1, h2⟩, h3⟩, h4⟩ := ok
     obtain ⟨w', hr, hq⟩ := Zri H (j1 _ _ h1) (j1 _ _ h2) h3 h4 jc
     have j0 : (execOp a.eval o).run P w = .ok .skip w' := by simp [execOp, ho, hr]
     exact Zcf j0 (k _ _ (Fin'.of_eff e1.symm (hq.wide (fun b hb => hb.elim))))
   . cases ok
 | stn nm ty p =>
   simp only [step] at e
   obtain ⟨hh, jc, e1⟩ := Z5 e
   simp only [dK] at e1
   simp only [Zk8] at ok
   split at ok
   . rename_i t ad ho
     simp only [dO, eF] at ok
     obtain ⟨⟨h1, h3⟩, h4⟩ := ok
     obtain ⟨w', hr, hq⟩ := Zwh H (j1 _ _ h1) (hf _ (by simp [lays, AOp.isD, AOp.names, X6])) h3 h4 jc
     have hk : a.eval (.const (.slice none 0 0)) = .slice none 0 0 := rfl
     have j0 : (execOp a.eval o).run P w = .ok .skip w' := by simp [execOp, ho, hk, hr]
     exact Zcf j0 (k _ _ (Fin'.of_eff e1.symm (hq.wide (fun b hb => by simpa [lays, AOp.isD, AOp.names] using hb))))
   . cases ok
 | mkf d f caps =>
   simp only [step] at e
   split at e
   rotate_left
   . cases e
   rename_i je
   simp only [dK] at e
   simp only [Zk8] at ok
   split at ok
   . rename_i g first cs ho
     simp only [dO, eF] at ok
     obtain ⟨⟨rfl, h1⟩, h2⟩ := ok
     have hr := Zwg j1 (f := g) h2 je
     have j8 : first = #[] := by simpa using h1
     have j0 : (execOp a.eval o).run P w = .ok (.value (.func (.func g) #[] (cs.toList.map a.eval).toArray)) w := by
      have : (cs.toList.map a.eval).toArray = cs.map a.eval := by apply Array.ext'; simp
      simp [execOp, ho, Instr.makeFunc, j8, this]
     exact X9 j0 (k _ _ (Fin'.of_eff e.symm ⟨V, S, Mv.refl _ _ _ _ _, H, hr⟩))
   . cases ok
 | mks d nm ty zs l c =>
   simp only [step] at e
   simp only [Zk8] at ok
   split at ok
   . rename_i t x y ho
     simp only [dO] at ok
     obtain ⟨⟨h1, h2⟩, h3⟩ := ok
     obtain ⟨v, w', hr, u, hu, hq⟩ := Zva H hB (j1 _ _ h1) (j1 _ _ h2) (hf (U.n + nm) (by simp [lays, AOp.isD, AOp.names, X6])) h3 rfl rfl e
     have j0 : (execOp a.eval o).run P w = .ok (.value v) w' := by simp [execOp, ho, hr]
     exact X9 j0 (k _ _ (Fin'.of_eff (u := u) hu (hq.wide (fun b hb => by simpa [lays, AOp.isD, AOp.names] using hb))))
   . cases ok
 | mkb d nm ty zs l c =>
   simp only [step] at e
   simp only [Zk8] at ok
   split at ok
   . rename_i t x y ho
     simp only [dO] at ok
     obtain ⟨⟨h1, h2⟩, h3⟩ := ok
     obtain ⟨v, w', hr, u, hu, hq⟩ := Zw4 H hB (j1 _ _ h1) (j1 _ _ h2) (hf (U.n + nm) (by simp [lays, AOp.isD, AOp.names, X6])) h3 rfl rfl e
     have j0 : (execOp a.eval o).run P w = .ok (.value v) w' := by simp [execOp, ho, hr]
     exact X9 j0 (k _ _ (Fin'.of_eff (u := u) hu (hq.wide (fun b hb => by simpa [lays, AOp.isD, AOp.names] using hb))))
   . cases ok
 | bsb d nm ty n xs =>
   simp only [step] at e
   obtain ⟨rows, j3, e1⟩ := Z5 e
   simp only [dK] at e1
   simp only [Zk8] at ok
   split at ok
   . rename_i t len Z78 ho
     obtain ⟨x', w', hr, hq⟩ := Zz0 H hB j1 (m := U.n + nm) (hf _ (by simp [lays, AOp.isD, AOp.names, X6])) ok j3
     have j0 : (execOp a.eval o).run P w = .ok (.value x') w' := by simp [execOp, ho, hr]
     exact X9 j0 (k _ _ (Fin'.of_eff e1.symm (hq.wide (fun b hb => by simpa [lays, AOp.isD, AOp.names] using hb))))
   . cases ok
 | bll d ty n xs =>
   simp only [step] at e
   obtain ⟨rows, j3, e1⟩ := Z5 e
   simp only [dK] at e1
   simp only [Zk8] at ok
   split at ok
   . rename_i t len Z78 ho
     obtain ⟨x', w', hr, hq⟩ := Zww H hB j1 (iv := lays tot U.n (.bll d ty n xs)) ok j3
     have j0 : (execOp a.eval o).run P w = .ok (.value x') w' := by simp [execOp, ho, hr]
     exact X9 j0 (k _ _ (Fin'.of_eff e1.symm hq))
   . cases ok
 | apb d nm t s x =>
   simp only [step] at e
   obtain ⟨ys, jg, e1⟩ := Z5 e
   simp only [Zk8] at ok
   split at ok
   . rename_i c ho
     split at ok
     . rename_i p q t1 t2 hc j2 j6
       simp only [dO] at ok
       obtain ⟨⟨h1, h2⟩, h3⟩ := ok
       obtain ⟨v, w', hr, u, hu, hq⟩ := Zhr (ty := o.type) H hB (j1 _ _ h1) (j1 _ _ h2) jg (hf _ (by simp [lays, AOp.isD, AOp.names, X6])) h3 e1
       have j0 : (execOp a.eval o).run P w = .ok (.value v) w' := by
        simp [execOp, ho, resolve, hc, Ybz j2, Yfa j6, invoke, builtin, hr]
       exact X9 j0 (k _ _ (Fin'.of_eff (u := u) hu (hq.wide (fun b hb => by simpa [lays, AOp.isD, AOp.names] using hb))))
     . cases ok
   . cases ok
 | sl d t x lo hi mx =>
   simp only [step] at e
   obtain ⟨u, hu, e1⟩ := Z5 e
   simp only [dK] at e1
   simp only [Zk8] at ok
   split at ok
   . rename_i ty y lo' ji mx' ho
     simp only [dO] at ok
     obtain ⟨⟨⟨⟨h1, h2⟩, h3⟩, h4⟩, h5⟩ := ok
     obtain ⟨v, hr, hq⟩ := Y1l j1 h2 h3 h4 h5 (j1 _ _ h1) hu
     have j0 : (execOp a.eval o).run P w = .ok (.value v) w := by simp [execOp, ho, hr]
     exact X9 j0 (k _ _ (Fin'.of_eff e1.symm ⟨V, S, Mv.refl _ _ _ _ _, H, hq⟩))
   . cases ok
 | call d nm w' f xs =>
   obtain ⟨c, ho, hc, j5⟩ := Z6q ok
   simp only [step, Z45] at e
   obtain ⟨cs, jb, e1⟩ := Z5 e
   obtain ⟨rs, ja, e2⟩ := Z5 e1
   split at e2
   . cases e2
   . rename_i hw
     simp only [dK] at e2
     have jh : Z1a U.h (evs U xs ++ []) = some cs := by rw [fI]; exact jb
     refine Zav hE H hB (n := U.n + nm) (us := []) (caps := []) ho hc rfl (Za2 j1 j5) .nil jh ja (fun b hb => hf b (by simp only [lays, AOp.isD, AOp.names, X6] at hb ⊢; simp; omega)) (fun v w1 hq => k v w1 ?_)
     rw [fI] at hq
     exact Fin'.of_eff e2.symm (hq.wide (fun b hb => by simp only [lays, AOp.isD, AOp.names, X6] at hb ⊢; simp; omega))
 | callx d nm w' f xs =>
   obtain ⟨c, ho, hc, j5⟩ := Z6q ok
   simp only [step, Z5r] at e
   obtain ⟨p, hp, e1⟩ := Z5 e
   obtain ⟨rs, ja, e2⟩ := Z5 e1
   split at e2
   . cases e2
   . rename_i hw
     simp only [dK] at e2
     simp only [not_or, Bool.not_eq_true] at hw
     refine Zou hE H hB (n := U.n + nm) (bs := p.2) ho hc rfl (Za2 j1 j5) hp ja hw.2 (fun b hb => hf b (by simp only [lays, AOp.isD, AOp.names, X6] at hb ⊢; simp; omega)) (fun v w1 hq => k v w1 ?_)
     exact Fin'.of_eff e2.symm (hq.wide (fun b hb => by simp only [lays, AOp.isD, AOp.names, X6] at hb ⊢; simp; omega))
 | dcs d f xs =>
   obtain ⟨c, ho, hc, j5⟩ := Z6q ok
   simp only [step, Zq2] at e
   obtain ⟨⟨rs, h', n'⟩, hr, e1⟩ := Z5 e
   obtain ⟨p, hp, e2⟩ := Z5 e1
   simp only [dK] at e2
   have j9 : E.dc f (evs U xs ++ []) U.h (U.n + tot) = some (rs, h', n') := by rw [fI]; exact hr
   refine Z9j hE H hB (us := []) (caps := []) ho hc rfl (Za2 j1 j5) .nil j9 (fun b hb => hf b (by simpa [lays, AOp.isD] using hb)) (fun v w1 hn hq => k v w1 ?_)
   obtain ⟨V', S', M, H', r, j4⟩ := hq
   subst e2
   refine ⟨_, rfl, V', Wv V' S' h' p.2, ?_, H'.freeze p.2, Y15 H' hp r, .inr ⟨by simp only; omega, j4⟩⟩
   exact (M.trans1 (Z7t H' p.2 _)).wide (fun b hb => by simpa [lays, AOp.isD] using hb)
 | callv d nm w' y xs =>
   obtain ⟨c, x, ho, hc, jf, j5⟩ := Zhm ok
   simp only [step, Z45] at e
   obtain ⟨p, hp, e0⟩ := Z5 e
   obtain ⟨cs, jb, e1⟩ := Z5 e0
   obtain ⟨rs, ja, e2⟩ := Z5 e1
   obtain ⟨us, jd, j7⟩ := Zy2 hp (j1 _ _ jf)
   split at e2
   . cases e2
   . rename_i hw
     simp only [dK] at e2
     refine Zav hE H hB (n := U.n + nm) (us := us) (caps := p.2) ho hc jd (Za2 j1 j5) j7 jb ja (fun b hb => hf b (by simp only [lays, AOp.isD, AOp.names, X6] at hb ⊢; simp; omega)) (fun v w1 hq => k v w1 ?_)
     exact Fin'.of_eff e2.symm (hq.wide (fun b hb => by simp only [lays, AOp.isD, AOp.names, X6] at hb ⊢; simp; omega))
 | dcall d f xs =>
   obtain ⟨c, ho, hc, j5⟩ := Z6q ok
   simp only [step, Zpd] at e
   obtain ⟨⟨rs, h', n'⟩, hr, e1⟩ := Z5 e
   simp only [dK] at e1
   have j9 : E.dc f (evs U xs ++ []) U.h (U.n + tot) = some (rs, h', n') := by rw [fI]; exact hr
   refine Z9j hE H hB (us := []) (caps := []) ho hc rfl (Za2 j1 j5) .nil j9 (fun b hb => hf b (by simpa [lays, AOp.isD] using hb)) (fun v w1 hn hq => k v w1 ?_)
   obtain ⟨V', S', M, H', r, j4⟩ := hq
   subst e1
   exact ⟨_, rfl, V', S', M.wide (fun b hb => by simpa [lays, AOp.isD] using hb), H', r, .inr ⟨by simp only; omega, j4⟩⟩
 | dcf d f xs =>
   obtain ⟨c, ho, hc, j5⟩ := Z6q ok
   simp only [step, Zfs] at e
   obtain ⟨⟨rs, h', n'⟩, hr, e1⟩ := Z5 e
   split at e1
   case isFalse => cases e1
   simp only [dK] at e1
   have j9 : E.df f (evs U xs ++ []) U.h (U.n + tot) = some (rs, h', n') := by rw [fI]; exact hr
   refine Ztq hE H hB (us := []) (caps := []) ho hc rfl (Za2 j1 j5) .nil j9 (fun b hb => hf b (by simpa [lays, AOp.isD] using hb)) (fun v w1 hn hq => k v w1 ?_)
   obtain ⟨V', S', M, H', r, j4⟩ := hq
   subst e1
   exact ⟨_, rfl, V', S', M.wide (fun b hb => by simpa [lays, AOp.isD] using hb), H', r, .inr ⟨by simp only; omega, j4⟩⟩
 | dcallv d y xs =>
   obtain ⟨c, x, ho, hc, jf, j5⟩ := Zhm ok
   simp only [step, Zpd] at e
   obtain ⟨p, hp, e0⟩ := Z5 e
   obtain ⟨⟨rs, h', n'⟩, hr, e1⟩ := Z5 e0
   obtain ⟨us, jd, j7⟩ := Zy2 hp (j1 _ _ jf)
   simp only [dK] at e1
   refine Z9j hE H hB (us := us) (caps := p.2) ho hc jd (Za2 j1 j5) j7 hr (fun b hb => hf b (by simpa [lays, AOp.isD] using hb)) (fun v w1 hn hq => k v w1 ?_)
   obtain ⟨V', S', M, H', r, j4⟩ := hq
   subst e1
   exact ⟨_, rfl, V', S', M.wide (fun b hb => by simpa [lays, AOp.isD] using hb), H', r, .inr ⟨by simp only; omega, j4⟩⟩
 | app d nm t s x =>
   simp only [step] at e
   obtain ⟨ys, jg, e1⟩ := Z5 e
   simp only [Zk8] at ok
   split at ok
   . rename_i c ho
     split at ok
     . rename_i p q t1 t2 hc j2 j6
       simp only [dO] at ok
       obtain ⟨⟨h1, h2⟩, h3⟩ := ok
       obtain ⟨v, w', hr, u, hu, hq⟩ := Zzj (ty := o.type) H hB (j1 _ _ h1) (j1 _ _ h2) jg (hf _ (by simp [lays, AOp.isD, AOp.names, X6])) h3 e1
       have j0 : (execOp a.eval o).run P w = .ok (.value v) w' := by
        simp [execOp, ho, resolve, hc, Ybz j2, Yfa j6, invoke, builtin, hr]
       exact X9 j0 (k _ _ (Fin'.of_eff (u := u) hu (hq.wide (fun b hb => by simpa [lays, AOp.isD, AOp.names] using hb))))
     . cases ok
   . cases ok
 | clr t zs x =>
   simp only [step] at e
   simp only [Zk8] at ok
   split at ok
   . rename_i c ho
     split at ok
     . rename_i p t1 hc j2 j6
       simp only [dO] at ok
       obtain ⟨h1, h3⟩ := ok
       obtain ⟨w', hr, hu, hq⟩ := Zvy (ty := o.type) H (j1 _ _ h1) h3 e
       have j0 : (execOp a.eval o).run P w = .ok (.value (.tuple #[])) w' := by
        simp [execOp, ho, resolve, hc, Yem j2, Yfy j6, invoke, builtin, hr]
       exact X9 j0 (k _ _ (Fin'.of_eff (u := .und) hu (hq.wide (fun b hb => hb.elim))))
     . cases ok
   . cases ok
 | no why => simp [step, AOp.yields, bnd] at e
 | _ =>
   simp only [step, AOp.yields, Xs] at e
   obtain ⟨u, hu, e1⟩ := Z5 e
   simp only [dK] at e1
   obtain ⟨v, hr, hq⟩ := Zt9 H (ev' := a.eval) (fun x y v e1 e2 => by simp only [dK] at e2; subst e2; exact j1 x y e1)
    (fun q x y b e1 e2 hq => Y9y (j1 x y e1) hq e2) rfl ok hu
   exact X9 hr (k _ _ (Fin'.of_eff e1.symm ⟨V, S, Mv.refl _ _ _ _ _, H, hq⟩))
def G.op : G -> AOp
 | .o op => op
 | .g _ _ op => op
def Y2b (N : Nat) : Option Nat -> Bool
 | some d => decide (d < N)
 | none => true
def okG (P : Program) (N : Nat) (ops : Array Oper) (o : Oper) (g : G) : Bool :=
 Zk8 P ops o g.op && decide (o.dst = g.op.dst) && Y2b N o.dst && match g with
  | .o _ => o.guard.isNone
  | .g slot want _ => match o.guard with
    | some (j, w') => (w' == want) && decide ((ops[j]?).bind (·.dst) = some slot)
    | none => false
theorem Y20 {a : A} {x : Value} (r : R P V S w a x) : R P V S w (unT a) x := by
 unfold unT
 split
 . cases r with
   | ifT a x h => exact h
 . exact r
theorem SW.strip {U : St} {a : Act} (T : SW P V S B N U a w) : SW P V S B N (strip U) a w := ⟨fun t => Y20 (T.slot t), T.size, T.defers, T.heap, T.le⟩
theorem Ydn {a v : A} {x : Value} (r : R P V S w a x) (e : opA true a = some v) : R P V S w v x := by
 unfold opA at e
 split at e
 . rename_i g b
   split at e
   . rename_i hi
     simp only [dK] at e
     subst e
     have hg : g = true := by cases g; simp [imp] at hi; rfl
     subst hg
     cases r with
     | ifT a x h => exact h
   . cases e
 . simp only [dK] at e
   subst e
   exact r
theorem Zxw {U : St} {ev' : Operand -> Value} (hget : ∀ x y v, X1 x y = true -> evp true U y = some v -> R P V S w v (ev' x)) : ∀ {xs : List Operand} {ys : List Opd} {as : List A}, Z0h xs ys = true -> ys.mapM (fun x => evp true U x) = some as -> RL P V S w as (xs.map ev')
 | [], [], as, _, e => by simp at e; subst e; exact .nil
 | [], _ :: _, _, e, _ => by simp [Z0h] at e
 | _ :: _, [], _, e, _ => by simp [Z0h] at e
 | x :: xs, y :: ys, as, ok, e => by
   simp only [Z0h, dO] at ok
   rw [gG] at e
   cases hv : evp true U y with
   | none => rw [hv] at e; cases e
   | some v =>
     rw [hv] at e
     cases hvs : ys.mapM (fun x => evp true U x) with
     | none => simp [hvs] at e
     | some vs =>
       simp [hvs] at e
       subst e
       exact .cons (hget x y v ok.1 hv) (Zxw hget ok.2 hvs)
theorem Zh9 : ∀ (zs : List A) (h : Hp) (n : Nat), Zam zs = false -> Yb h n zs = (zs, h)
 | [], h, n, _ => rfl
 | z :: zs, h, n, e => by
   simp only [Zam, fB] at e
   cases z <;> first | (simp [Vj] at e; done) | (simp only [Yb, Zh9 zs h n e.2])
theorem Fin'.under {iv : Nat -> Prop} {U : St} {d : Option Nat} {u : A} {v : Value} {h' : Hp} {D : Bool} (hD : D = false) (q : ∃ V' S', Mv B V S w V' S' w' iv /\ HR P V' S' w' B h' /\ R P V' S' w' u v) : Fin' P B V S w iv D U ⟨put U.s d (.ifg true u), h', U.n, U.base⟩ d v w' := by
 obtain ⟨V', S', M, H, r⟩ := q
 exact ⟨_, rfl, V', S', M, H, .ifT u v r, .inl ⟨rfl, .inl hD⟩⟩
theorem Y5y {U U1 U' : St} {op : AOp} (h : ∃ u, U1 = ⟨put (strip U).s op.dst u, U1.h, U1.n, U.base⟩) (e : back U op.dst U1 = some U') : ∃ u, U1 = ⟨put (strip U).s op.dst u, U1.h, U1.n, U.base⟩ /\ U' = ⟨put U.s op.dst u, U1.h, U1.n, U.base⟩ := by
 obtain ⟨u, hu⟩ := h
 refine ⟨u, hu, ?_⟩
 unfold back at e
 simp only [dK] at e
 rw [<- e, hu]
 cases op.dst with
 | none => rfl
 | some d => simp [put, Z6]
def isB (want : Bool) : Value -> Bool
 | .bool b => b == want
 | _ => false
theorem Y85 {a : A} {x : Value} {want t : Bool} (r : R P V S w a x) (e : Z03 want a = some t) : isB want x = t := by
 cases r with
 | v x hx =>
   cases x <;> simp only [Z03, reduceCtorEq, dK] at e
   rename_i b
   cases b <;> cases want <;> simp [isB] at e ⊢ <;> exact e
 | und => simp only [Z03, dK] at e; subst e; rfl
 | ifT a x h =>
   cases a <;> simp only [Z03, cond_true, reduceCtorEq] at e
   rename_i y
   cases y <;> simp only [cond_true, reduceCtorEq, dK] at e
   rename_i b
   cases h with
   | v _ _ => cases b <;> cases want <;> simp [isB] at e ⊢ <;> exact e
 | ifF a =>
   have : t = false := by
    cases a with
    | v y => cases y <;> simp [Z03] at e <;> exact e.symm ▸ rfl
    | _ => simp [Z03] at e; exact e.symm ▸ rfl
   subst this
   rfl
 | _ => simp [Z03] at e
theorem Zef {U : St} {a : Act} {ops : Array Oper} {o : Oper} {j slot : Nat} {w1 want t : Bool} (T : SW P V S B N U a w) (hg : o.guard = some (j, w1)) (hw : w1 = want) (hs : (ops[j]?).bind (·.dst) = some slot) (e : Z49 U slot want = some t) :
 Region.wanted o (yielded ops a.tmps) = t := by
 have h1 := Y85 (T.slot slot) e
 unfold Region.wanted
 rw [hg]
 simp only
 unfold yielded
 rw [hs]
 simp only [fY]
 rw [hw]
 rw [gC] at h1
 cases hx : a.tmps[slot]? with
 | none => rw [hx] at h1; simp [isB, undef] at h1; subst h1; rfl
 | some x =>
   rw [hx] at h1
   simp only [dB] at h1
   rw [<- h1]
   cases x <;> first | rfl | (rename_i b; cases b <;> cases want <;> rfl)
theorem Zi6 (hE : EnvOk P E) {U U' : St} {a : Act} {tot : Nat} {ops : Array Oper} {i : Nat} {o : Oper} {g : G} {Q : Exit -> Act -> World -> Prop} (hi : ops[i]? = some o) (T : SW P V S B N U a w) (ok : okG P N ops o g = true)
 (hf : ∀ b, lays tot U.n g.op b -> V b = none) (e : Yt E tot g U = some U') {K : Act -> World -> Prop}
 (k : ∀ v w', Fin' P B V S w (lays tot U.n g.op) g.op.isD U U' g.op.dst v w' -> K (a.put o.dst v) w') : wpOp P ops Q i K a w := by
 unfold wpOp
 rw [hi]
 simp only [okG, dO, eF] at ok
 obtain ⟨⟨⟨ok1, ok2⟩, jc⟩, ok4⟩ := ok
 cases g with
 | o op =>
   simp only [fV] at ok4
   have hw : Region.wanted o (yielded ops a.tmps) = true := by unfold Region.wanted; rw [ok4]
   simp only [hw, if_true]
   exact .inl (Zed hE T ok1 ok2 hf e k)
 | g slot want op =>
   simp only [G.op] at ok1 ok2 jc hf k
   have j6 : ∃ j w1, o.guard = some (j, w1) /\ w1 = want /\ (ops[j]?).bind (·.dst) = some slot := by
    cases hg : o.guard with
    | none => rw [hg] at ok4; simp at ok4
    | some p =>
      obtain ⟨j, w1⟩ := p
      rw [hg] at ok4
      simp only [dO, beq_iff_eq, eF] at ok4
      exact ⟨j, w1, rfl, ok4.1, ok4.2⟩
   obtain ⟨j, w1, hg, hw, hs⟩ := j6
   obtain ⟨t, ht, e1⟩ := Z5 e
   have j1 := Zef T hg hw hs ht
   simp only [j1]
   have j0 : ∀ x y v, X1 x y = true -> evp true U y = some v -> R P V S w v (a.eval x) := fun x y v e1 e2 => Ydn (Zei T.slot e1) e2
   have j9 : ∀ (q : Bool) x y b, X1 x y = true -> evq (true && q) U y = some b -> q = true -> a.eval x = .bool b := fun q x y b e1 e2 hq => Y9y (Zei T.slot e1) (by simp [hq]) e2
   cases t with
   | false =>
     simp only [eD, if_false]
     refine k undef w ?_
     have fin : ∀ u, R P V S w u undef -> Fin' P B V S w (lays tot U.n op) op.isD U ⟨put U.s op.dst u, U.h, U.n, U.base⟩ op.dst undef w := fun u r => ⟨u, rfl, V, S, Mv.refl _ _ _ _ _, T.heap, r, .inl ⟨rfl, .inr fun _ h => h⟩⟩
     split at e1
     . rename_i d hy
       rw [<- (Z2w hy).1] at e1
       unfold Wu at e1
       split at e1
       . simp only [dK] at e1; subst e1; exact fin _ (.ifF _)
       . simp only [cond_false, dK] at e1; subst e1; exact fin _ .und
     . unfold W9 at e1
       split at e1
       . simp only [dK] at e1; subst e1; exact fin _ (.ifF _)
       . simp only [cond_false, dK] at e1; subst e1; exact fin _ .und
   | true =>
     simp only [if_true]
     refine .inl ?_
     split at e1
     . rename_i d hy
       have j3 := (Z2w hy).1
       unfold Wu at e1
       split at e1
       . rename_i u hu
         simp only [dK] at e1
         subst e1
         obtain ⟨v, hr, hq⟩ := Zt9 T.heap j0 j9 hy ok1 hu
         refine X9 hr (k v w ?_)
         rw [j3]
         exact Fin'.under (Z2w hy).2.2 ⟨V, S, Mv.refl _ _ _ _ _, T.heap, hq⟩
       . cases e1
     . rename_i hy
       unfold W9 at e1
       split at e1
       . rename_i u hu
         simp only [dK] at e1
         subst e1
         cases op <;> first | (simp [AOp.yields] at hy; done) | (simp [Yc] at hu; done) | skip
         . rename_i d nm zs ps
           cases ps with
           | cons p ps => simp [Yc] at hu
           | nil =>
             simp only [Yc] at hu
             split at hu
             . cases hu
             . rename_i hl
               simp only [dK] at hu
               subst hu
               have hl : Zam zs = false := by simpa using hl
               refine Zed (U' := ⟨put U.s (some d) (.agg zs), U.h, U.n, U.base⟩) hE T ok1 ok2 hf ?_ (fun v w' hq => k v w' ?_)
               . simp [step, Zh9 zs _ _ hl, Zdd, bnd, put]
               . obtain ⟨u, hu, V', S', M, H', r, _⟩ := hq.ex
                 have j8 : u = .agg zs := by
                  have := congrFun (congrArg St.s hu) d
                  simp [put, Z6, AOp.dst] at this
                  exact this.symm
                 subst j8
                 exact Fin'.under rfl ⟨V', S', M, H', r⟩
         . rename_i d nm wd f xs
           obtain ⟨c, ho, hc, jd⟩ := Z6q ok1
           simp only [Yc] at hu
           obtain ⟨rs, j2, hp⟩ := Z5 hu
           obtain ⟨cs, j5, j2⟩ := Z5 j2
           obtain ⟨as, has, j5⟩ := Z5 j5
           unfold Zhj at hp
           split at hp
           . rename_i ja
             simp only [dK] at hp
             subst hp
             obtain ⟨p1, p2, p3⟩ := Zev ja
             have j4 : Z1a U.h (as ++ []) = some cs := by rw [fI]; exact j5
             refine Zav hE T.heap T.le (n := U.n) (us := []) (caps := []) ho hc rfl (Zxw j0 jd has) .nil j4 j2 (fun b hb => by rw [p1] at hb; simp [X6] at hb; omega) (fun v w1 hq => k v w1 ?_)
             obtain ⟨V', S', M, H', r⟩ := hq.ex
             rw [p3] at H' r
             simp only [aft, p2] at H' r
             exact Fin'.under rfl ⟨V', S', M.wide (fun b hb => by rw [p1] at hb; simp [X6] at hb; omega), H', r⟩
           . cases hp
       . simp only [cond_true] at e1
         obtain ⟨U1, j7, e2⟩ := Z5 e1
         refine Zed hE T.strip ok1 ok2 hf j7 (fun v w' hq => k v w' ?_)
         obtain ⟨u, hu, V', S', M, H', r, hn⟩ := hq.ex
         obtain ⟨u', jb, hσ'⟩ := Y5y ⟨u, hu⟩ e2
         subst hσ'
         cases hd : op.dst with
         | none => exact ⟨u, rfl, V', S', M, H', r, hn⟩
         | some d =>
           have : u' = u := by
            have h1 := congrFun (congrArg St.s (hu.symm.trans jb)) d
            simp [put, Z6, hd] at h1
            exact h1.symm
           subst this
           exact ⟨u', rfl, V', S', M, H', r, hn⟩
theorem Fin'.SW {iv : Nat -> Prop} {U U' : St} {a : Act} {D : Bool} {d : Option Nat} {v : Value} (T : SW P V S B N U a w) (q : Fin' P B V S w iv D U U' d v w') (hd : Y2b N d = true) :
 ∃ V' S', Mv B V S w V' S' w' iv /\ SW P V' S' B N U' (a.put d v) w' /\ U'.base = U.base /\ ((U'.n = U.n /\ (D = false \/ ∀ b, V b = none -> V' b = none)) \/ (U.n <= U'.n /\ ∀ b, U'.n <= b -> V' b = none)) := by
 obtain ⟨u, hu, V', S', M, H', r, hn⟩ := q.ex
 refine ⟨V', S', M, ⟨fun t => ?_, ?_, ?_, H', eE T.le M.below.size⟩, by rw [hu], hn⟩
 . rw [hu]
   cases d with
   | none => exact M.R (T.slot t)
   | some d =>
     simp only [put, Z6, Act.put]
     by_cases ht : t = d
     . subst ht
       have hlt : t < a.tmps.size := fH (by simpa [Y2b] using hd) T.size
       simp [hlt]
       exact r
     . rw [if_neg ht]
       have : (a.tmps.setIfInBounds d v).getD t undef = a.tmps.getD t undef := by
        simp [gC, gN (fun q : d = t => ht q.symm)]
       rw [this]
       exact M.R (T.slot t)
 . cases d with
   | none => exact T.size
   | some d => simp [Act.put, T.size]
 . cases d with
   | none => exact T.defers
   | some d => exact T.defers
theorem Z6o (base : Nat) : ∀ (bs acc : List Nat) (b : Nat), b ∈ Z5a base acc bs ↔ b ∈ acc \/ (b ∈ bs /\ base <= b)
 | [], acc, b => by simp [Z5a]
 | c :: bs, acc, b => by
   unfold Z5a
   split
   . rename_i hc
     rw [Z6o base bs acc b]
     constructor
     . rintro (h | ⟨h, h'⟩)
       . exact .inl h
       . exact .inr ⟨dX _ h, h'⟩
     . rintro (h | ⟨h, h'⟩)
       . exact .inl h
       . rcases eG.1 h with rfl | h
         . rcases hc with hc | hc
           . omega
           . exact .inl hc
         . exact .inr ⟨h, h'⟩
   . rename_i hc
     simp only [not_or] at hc
     rw [Z6o base bs (acc ++ [c]) b]
     simp only [dS, eG, fN, or_false]
     constructor
     . rintro ((h | rfl) | ⟨h, h'⟩)
       . exact .inl h
       . exact .inr ⟨.inl rfl, by omega⟩
       . exact .inr ⟨.inr h, h'⟩
     . rintro (h | ⟨rfl | h, h'⟩)
       . exact .inl (.inl h)
       . exact .inl (.inr rfl)
       . exact .inr ⟨h, h'⟩
structure Names (base : Nat) (ns : List Nat) : Prop where
 nodup : ns.Nodup
 ge : ∀ b ∈ ns, base <= b
theorem Z62 (base : Nat) : ∀ (bs acc : List Nat), Names base acc -> Names base (Z5a base acc bs)
 | [], acc, H => H
 | c :: bs, acc, H => by
   unfold Z5a
   split
   . exact Z62 base bs acc H
   . rename_i hc
     simp only [not_or] at hc
     refine Z62 base bs _ ⟨?_, fun b hb => ?_⟩
     . rw [List.nodup_append]
       exact ⟨H.nodup, by simp, fun x hx y hy e => by simp at hy; subst hy; subst e; exact hc.2 hx⟩
     . simp only [dS, dT] at hb
       rcases hb with hb | rfl
       . exact H.ge b hb
       . omega
theorem Zb0 (base : Nat) (s : Nat -> A) : ∀ (L acc : List Nat), Names base acc -> Names base (W7 base s acc L)
 | [], acc, H => H
 | i :: is, acc, H => Zb0 base s is _ (Z62 base _ acc H)
theorem Zf5 (base : Nat) (s : Nat -> A) : ∀ (L acc : List Nat) (b : Nat), b ∈ acc -> b ∈ W7 base s acc L
 | [], acc, b, h => h
 | i :: is, acc, b, h => Zf5 base s is _ b ((Z6o base _ acc b).2 (.inl h))
theorem Zfh (base : Nat) (s : Nat -> A) : ∀ (L acc : List Nat) (i b : Nat), i ∈ L -> b ∈ Yg (s i) -> base <= b -> b ∈ W7 base s acc L
 | [], acc, i, b, h, _, _ => by simp at h
 | j :: is, acc, i, b, h, hb, hge => by
   unfold W7
   rcases eG.1 h with rfl | h
   . exact Zf5 base s is _ b ((Z6o base _ acc b).2 (.inr ⟨hb, hge⟩))
   . exact Zfh base s is _ i b h hb hge
theorem Zeq (base : Nat) (h : Hp) : ∀ (n : Nat) (acc : List Nat), Names base acc -> Names base (Z2k base h n acc)
 | 0, acc, H => H
 | n + 1, acc, H => Zeq base h n _ (Z62 base _ acc H)
theorem Zov (base : Nat) (h : Hp) : ∀ (n : Nat) (acc : List Nat) (b : Nat), b ∈ acc -> b ∈ Z2k base h n acc
 | 0, acc, b, hb => hb
 | n + 1, acc, b, hb => Zov base h n _ b ((Z6o base _ acc b).2 (.inl hb))
def Z41 (base : Nat) (V : Rho) (ns : List Nat) : Rho := fun i => if i < base then V i else match ns[i - base]? with
 | some b => V b
 | none => none
theorem Zvn : ∀ (ns : List Nat) (b k : Nat), b ∈ ns -> k <= Y09 ns b k /\ ns[Y09 ns b k - k]? = some b
 | [], b, k, h => by simp at h
 | a :: as, b, k, h => by
   unfold Y09
   split
   . rename_i j0
     subst j0
     simp
   . rename_i j0
     rcases eG.1 h with rfl | h
     . exact absurd rfl j0
     . obtain ⟨h1, h2⟩ := Zvn as b (k + 1) h
       refine ⟨by omega, ?_⟩
       rw [show Y09 as b (k + 1) - k = (Y09 as b (k + 1) - (k + 1)) + 1 by omega]
       simpa using h2
theorem Zyp {base : Nat} {ns : List Nat} {b : Nat} (h : b < base \/ b ∈ ns) : Z41 base V ns (nw base ns b) = V b := by
 unfold nw
 split
 . rename_i hb; simp [Z41, hb]
 . rename_i hb
   rcases h with h | h
   . exact absurd h hb
   . obtain ⟨h1, h2⟩ := Zvn ns b base h
     unfold Z41
     rw [if_neg (by omega), h2]
theorem Y4j {base : Nat} {ns : List Nat} {a : A} {x : Value} (r : R P V S w a x) (hn : ∀ b ∈ Yq a, b < base \/ b ∈ ns) : R P (Z41 base V ns) S w (Zl9 base ns a) x := by
 cases r with
 | bad x => exact .bad x
 | err tp x => exact .err tp x
 | und => exact .und
 | v x h => exact .v x h
 | lit ty rows a cap Y h1 h2 h3 h4 => exact .lit ty rows a cap Y h1 h2 h3 h4
 | ref ty b off len cap ex k sz c a hb h2 h3 h4 h5 h6 h7 => exact .ref ty _ off len cap ex k sz c a (by rw [Zyp (hn b (by simp [Yq]))]; exact hb) h2 h3 h4 h5 h6 h7
 | nil ty b ex hb => exact .nil ty _ ex (by rw [Zyp (hn b (by simp [Yq]))]; exact hb)
 | ptr b i j k sz hb => exact .ptr _ i j k sz (by rw [Zyp (hn b (by simp [Yq]))]; exact hb)
 | pl row j k o Y h1 h2 h3 => exact .pl row j k o Y h1 h2 h3
 | fn f c vs h0 h1 h2 => exact .bad _
 | agg cs vs h1 h2 => exact .bad _
 | tup cs vs h1 h2 => exact .bad _
 | ifT a x h => exact .bad _
 | ifF a => exact .bad _
theorem Zpf {base : Nat} {ns : List Nat} : ∀ {as : List A} {vs : List Value}, RL P V S w as vs -> (∀ b ∈ Z76 as, b < base \/ b ∈ ns) -> RL P (Z41 base V ns) S w (Zk5 base ns as) vs
 | [], vs, r, _ => by rw [r.inv_nil]; exact .nil
 | a :: as, vs, r, hn => by
   obtain ⟨x, xs, rfl, r1, r2⟩ := r.inv_cons
   exact .cons (Y4j r1 (fun b hb => hn b (by simp [Z76, hb]))) (Zpf r2 (fun b hb => hn b (by simp [Z76, hb])))
theorem Zgq {base : Nat} {ns : List Nat} : ∀ {as : List A}, Wt as = true -> Wt (Zk5 base ns as) = true
 | [], _ => rfl
 | a :: as, e => by
   simp only [Wt, dO] at e
   simp only [Zk5, Wt, dO]
   refine ⟨?_, Zgq e.2⟩
   cases a <;> first | rfl | (simp [Zoq] at e)
theorem Yb9 {base : Nat} {ns : List Nat} {a : A} {x : Value} (r : R P V S w a x) (hn : ∀ b ∈ Yg a, b < base \/ b ∈ ns) : R P (Z41 base V ns) S w (ren base ns a) x := by
 cases a with
 | fn f caps =>
   cases r with
   | fn f caps vs hp hl hr =>
     have q := Zpf (base := base) (ns := ns) ⟨hl, hr⟩ hn
     exact .fn f _ vs (Zgq hp) q.len q.at_
 | agg cs =>
   cases r with
   | agg cs vs hl hr =>
     have q := Zpf (base := base) (ns := ns) ⟨hl, hr⟩ hn
     exact .agg _ vs q.len q.at_
 | tup cs => exact .bad _
 | ifg g b => exact .bad _
 | _ => exact Y4j r hn
theorem Y3k {base : Nat} {ns : List Nat} {a : A} (h : Z1o a = true) : Z1o (ren base ns a) = true := by
 cases a <;> first | rfl | (simp [Z1o] at h; done) | skip
theorem Zjd {base : Nat} {ns : List Nat} : ∀ (as : List A) (i : Nat) (x : A), (Zdg base ns as)[i]? = some x -> ∃ y, as[i]? = some y /\ x = ren base ns y
 | [], i, x, h => by simp [Zdg] at h
 | a :: as, i, x, h => by
   cases i with
   | zero => simp [Zdg] at h; exact ⟨a, rfl, h.symm⟩
   | succ i => simp only [Zdg, fJ] at h; exact Zjd as i x h
theorem Zso {base : Nat} {ns : List Nat} : ∀ (as : List A), (Zdg base ns as).length = as.length
 | [] => rfl
 | a :: as => by simp [Zdg, Zso as]
theorem Zc7 : ∀ {as : List A} {i : Nat} {x : A} {b : Nat}, as[i]? = some x -> b ∈ Yg x -> b ∈ Zh as
 | [], i, x, b, h, _ => by simp at h
 | a :: as, i, x, b, h, hb => by
   simp only [Zh, dS]
   cases i with
   | zero => simp at h; subst h; exact .inl hb
   | succ i => exact .inr (Zc7 (by simpa using h) hb)
theorem Z7a : ∀ {rows : List (List A)} {i : Nat} {row : List A} {b : Nat}, rows[i]? = some row -> b ∈ Zh row -> b ∈ Zq rows
 | [], i, x, b, h, _ => by simp at h
 | r :: rs, i, x, b, h, hb => by
   simp only [Zq, dS]
   cases i with
   | zero => simp at h; subst h; exact .inl hb
   | succ i => exact .inr (Z7a (by simpa using h) hb)
theorem Zds (base : Nat) (h : Hp) (ns : List Nat) : ∀ (bs : List Nat) (k : Nat) (h' : Hp) (i : Nat), (∀ j, k <= j -> h' j = none) ->
 Z6y base h h' ns bs k i = if i < k then h' i else match bs[i - k]? with
  | some b => (h b).map (Z48 base ns)
  | none => none
 | [], k, h', i, hn => by
   simp only [Z6y]
   split
   . rfl
   . simp; exact hn i (by omega)
 | b :: bs, k, h', i, hn => by
   unfold Z6y
   have step : ∀ g : Hp, (∀ j, k + 1 <= j -> g j = none) -> (∀ j, j < k -> g j = h' j) -> g k = (h b).map (Z48 base ns) -> Z6y base h g ns bs (k + 1) i = if i < k then h' i else match (b :: bs)[i - k]? with
    | some b => (h b).map (Z48 base ns)
    | none => none := by
    intro g hg hl hk
    rw [Zds base h ns bs (k + 1) g i hg]
    by_cases h1 : i < k
    . rw [if_pos (by omega), if_pos h1, hl i h1]
    . rw [if_neg h1]
      by_cases h2 : i = k
      . subst h2
        rw [if_pos (by omega), hk]
        simp
      . rw [if_neg (by omega), show i - k = (i - (k + 1)) + 1 by omega]
        simp
   cases hb : h b with
   | some blk =>
     simp only
     refine step _ (fun j hj => ?_) (fun j hj => ?_) ?_
     . rw [upd, if_neg (by omega)]; exact hn j (by omega)
     . rw [upd, if_neg (by omega)]
     . simp [upd, hb]
   | none =>
     simp only
     refine step _ (fun j hj => hn j (by omega)) (fun j hj => rfl) ?_
     rw [hb, hn k (dM _)]; rfl
theorem Zoz {base : Nat} {ns : List Nat} {f : Nat -> Value} {s : Nat -> A} (hs : ∀ t, R P V S w (s t) (f t)) : ∀ (L : List Nat) (s' : Nat -> A), (∀ t, R P (Z41 base V ns) S w (s' t) (f t)) -> (∀ i ∈ L, ∀ b ∈ Yg (s i), b < base \/ b ∈ ns) ->
 ∀ t, R P (Z41 base V ns) S w (W3 base ns s s' L t) (f t)
 | [], s', h', hn, t => h' t
 | i :: is, s', h', hn, t => by
   unfold W3
   refine Zoz hs is _ (fun u => ?_) (fun j hj => hn j (dX _ hj)) t
   unfold upd
   split
   . rename_i hu; subst hu; exact Yb9 (hs _) (hn _ dA)
   . exact h' u
theorem Zhw {h : Hp} : ∀ {ns : List Nat} {b b' : Nat}, b ∈ ns -> b' ∈ below h b -> b' ∈ Z6v h ns
 | [], b, b', h, _ => by simp at h
 | n :: ns, b, b', hb, hb' => by
   simp only [Z6v, dS]
   rcases eG.1 hb with rfl | hb
   . exact .inl hb'
   . exact .inr (Zhw hb hb')
theorem R.lowR1 {base : Nat} {ns : List Nat} {a : A} {x : Value} (r : R P V S w a x) (hn : ∀ b ∈ Yq a, b < base) (hf : ∀ f c, a ≠ .fn f c) (ha : ∀ c, a ≠ .agg c) (ht : ∀ c, a ≠ .tup c) (hi : ∀ g c, a ≠ .ifg g c) : R P (Z41 base V ns) S w a x := by
 cases r with
 | bad x => exact .bad x
 | err tp x => exact .err tp x
 | und => exact .und
 | v x h => exact .v x h
 | lit ty rows a cap Y h1 h2 h3 h4 => exact .lit ty rows a cap Y h1 h2 h3 h4
 | ref ty b off len cap ex k sz c a hb h2 h3 h4 h5 h6 h7 => exact .ref ty _ off len cap ex k sz c a (by simp [Z41, hn b (by simp [Yq])]; exact hb) h2 h3 h4 h5 h6 h7
 | nil ty b ex hb => exact .nil ty _ ex (by simp [Z41, hn b (by simp [Yq])]; exact hb)
 | ptr b i j k sz hb => exact .ptr _ i j k sz (by simp [Z41, hn b (by simp [Yq])]; exact hb)
 | pl row j k o Y h1 h2 h3 => exact .pl row j k o Y h1 h2 h3
 | fn f c vs h0 h1 h2 => exact absurd rfl (hf f c)
 | agg cs vs h1 h2 => exact absurd rfl (ha cs)
 | tup cs vs h1 h2 => exact absurd rfl (ht cs)
 | ifT a x h => exact absurd rfl (hi _ _)
 | ifF a => exact absurd rfl (hi _ _)
theorem Zpp : ∀ {as : List A} {i : Nat} {x : A}, Wt as = true -> as[i]? = some x -> Zoq x = true
 | [], i, x, _, h => by simp at h
 | a :: as, i, x, e, h => by
   simp only [Wt, dO] at e
   cases i with
   | zero => simp at h; subst h; exact e.1
   | succ i => exact Zpp e.2 (by simpa using h)
theorem Zfg : ∀ {as : List A} {i : Nat} {x : A} {b : Nat}, as[i]? = some x -> b ∈ Yq x -> b ∈ Z76 as
 | [], i, x, b, h, _ => by simp at h
 | a :: as, i, x, b, h, hb => by
   simp only [Z76, dS]
   cases i with
   | zero => simp at h; subst h; exact .inl hb
   | succ i => exact .inr (Zfg (by simpa using h) hb)
theorem R.lowR {base : Nat} {ns : List Nat} {a : A} {x : Value} (r : R P V S w a x) (hc : Z1o a = true) (hn : ∀ b ∈ Yg a, b < base) : R P (Z41 base V ns) S w a x := by
 cases a with
 | fn f caps =>
   cases r with
   | fn f caps vs hp hl hr =>
     refine .fn f caps vs hp hl (fun i x y h1 h2 => ?_)
     have j0 := Zpp hp h1
     refine (hr i x y h1 h2).lowR1 (fun b hb => hn b (Zfg h1 hb)) ?_ ?_ ?_ ?_ <;> intros <;> intro q <;> subst q <;> simp [Zoq] at j0
 | agg cs => simp [Z1o] at hc
 | tup cs => simp [Z1o] at hc
 | ifg g b => simp [Z1o] at hc
 | _ => exact r.lowR1 hn (by simp) (by simp) (by simp) (by simp)
def Lo (base : Nat) (h : Hp) : Prop := ∀ b, b < base -> ∀ k, h b = some k -> k.box = true -> ∀ b' ∈ Zq k.rows, b' < base
theorem BR.ren {base : Nat} {ns : List Nat} {blk : Blk} {k sz : Nat} (b : BR P V S w B blk k sz) (hn : blk.box = true -> ∀ b' ∈ Zq blk.rows, b' < base \/ b' ∈ ns) : BR P (Z41 base V ns) S w B (Z48 base ns blk) k sz := by
 unfold Z48
 split
 . rename_i j0
   refine ⟨b.sz_eq, b.base, b.own, b.not_own, fun i row hr => ?_, ?_⟩
   . simp only [eJ, fT] at hr
     obtain ⟨j2, h0, rfl⟩ := hr
     obtain ⟨q1, q2⟩ := b.rows i j2 h0
     refine ⟨by rw [Zso]; exact q1, Xn.2 (fun x hx => ?_)⟩
     obtain ⟨i, hi⟩ := eU hx
     obtain ⟨y, hy, rfl⟩ := Zjd _ _ _ hi
     exact Y3k (Xn.1 q2 y (dU hy))
   . obtain ⟨c, hc, hs, j1⟩ := b.heap
     refine ⟨c, hc, by simpa using hs, fun i row j x h1 h2 => ?_⟩
     simp only [eJ, fT] at h1
     obtain ⟨j2, h0, rfl⟩ := h1
     obtain ⟨y, hy, rfl⟩ := Zjd _ _ _ h2
     obtain ⟨v, hv, hr⟩ := j1 i j2 j y h0 hy
     rw [j0] at hr
     refine ⟨v, hv, ?_⟩
     simp only [j0, inR, cond_true] at hr ⊢
     exact Yb9 hr (fun b' j3 => hn j0 b' (Z7a h0 (Zc7 hy j3)))
 . rename_i j0
   have j0 : blk.box = false := by simpa using j0
   obtain ⟨c, hc, hs, j1⟩ := b.heap
   refine ⟨b.sz_eq, b.base, b.own, b.not_own, b.rows, c, hc, hs, fun i row j x h1 h2 => ?_⟩
   obtain ⟨v, hv, hr⟩ := j1 i row j x h1 h2
   rw [j0] at hr ⊢
   exact ⟨v, hv, hr⟩
theorem Zf2 {L : List Nat} {U U' : St} {a : Act} (T : SW P V S B N U a w) (hlo : Lo U.base U.h) (e : canon L U = some U') :
 ∃ V', SW P V' S B N U' a w /\ (∀ b, b < U.base -> V' b = V b) /\ (∀ b, U'.n <= b -> V' b = none) /\ U'.base = U.base /\ U.base <= U'.n := by
 unfold canon Zeo at e
 have j8 : Names U.base (Z2k U.base U.h 2 (W7 U.base U.s [] L)) := Zeq _ _ _ _ (Zb0 _ _ _ _ ⟨List.nodup_nil, fun b h => by simp at h⟩)
 have j2 : ∀ i ∈ L, ∀ b ∈ Yg (U.s i), b < U.base \/ b ∈ Z2k U.base U.h 2 (W7 U.base U.s [] L) := fun i hi b hb => by
  rcases Nat.lt_or_ge b U.base with h | h
  . exact .inl h
  . exact .inr (Zov _ _ _ _ _ (Zfh _ _ _ _ i b hi hb h))
 generalize hN : Z2k U.base U.h 2 (W7 U.base U.s [] L) = ns at e j8 j2
 cases hcl : Zfi U.base U.h ns with
 | false => rw [hcl] at e; cases e
 | true =>
   rw [hcl] at e
   simp only [cond_true, dK] at e
   subst e
   have jb : ∀ b ∈ Z6v U.h ns, b < U.base \/ b ∈ ns := by
    intro b hb
    have := cW.1 hcl b hb
    simpa using this
   have H := T.heap
   refine ⟨Z41 U.base V ns, ⟨Zoz T.slot L _ (fun t => .bad _) j2, T.size, T.defers, ?_, T.le⟩, fun b hb => by simp [Z41, hb], fun b hb => ?_, rfl, by simp⟩
   . -- the rows
     have jc : ∀ b blk, Z6y U.base U.h (low U.base U.h) ns ns U.base b = some blk -> (b < U.base /\ U.h b = some blk) \/ (∃ b0 j0, U.base <= b /\ ns[b - U.base]? = some b0 /\ U.h b0 = some j0 /\ blk = Z48 U.base ns j0) := by
      intro b blk hb
      rw [Zds _ _ _ _ _ _ _ (fun j hj => by simp [low]; omega)] at hb
      split at hb
      . rename_i hlt
        simp [low, hlt] at hb
        exact .inl ⟨hlt, hb⟩
      . rename_i j4
        split at hb
        . rename_i b0 h0
          simp only [fT] at hb
          obtain ⟨j0, h1, rfl⟩ := hb
          exact .inr ⟨b0, j0, by omega, h0, h1, rfl⟩
        . cases hb
     have j5 : ∀ b b0, U.base <= b -> ns[b - U.base]? = some b0 -> Z41 U.base V ns b = V b0 := fun b b0 h1 h2 => by
      unfold Z41
      rw [if_neg (by omega), h2]
     refine ⟨fun b blk hb => ?_, fun b b' k sz sz' blk blk' e1 e2 e3 e4 => ?_, H.old, H.glob⟩
     . rcases jc b blk hb with ⟨hlt, h1⟩ | ⟨b0, j0, j4, h0, h1, rfl⟩
       . have hr : Z41 U.base V ns b = V b := by simp [Z41, hlt]
         rw [hr]
         rcases H.at_ b blk h1 with ⟨k, sz, j3, hB⟩ | hv
         . refine .inl ⟨k, sz, j3, ?_⟩
           have j6 : ∀ {x y}, R P (inR blk.box V) S w x y -> (blk.box = true -> ∀ b' ∈ Yg x, b' < U.base) -> Z1o x = true -> R P (inR blk.box (Z41 U.base V ns)) S w x y := by
            intro x y r hx jf
            cases j1 : blk.box with
            | false => rw [j1] at r; exact r
            | true =>
              rw [j1] at r
              exact R.lowR r jf (hx j1)
           obtain ⟨c, hc, hs, j7⟩ := hB.heap
           refine ⟨hB.sz_eq, hB.base, hB.own, hB.not_own, hB.rows, c, hc, hs, fun i row j x q1 q2 => ?_⟩
           obtain ⟨v, hv, je⟩ := j7 i row j x q1 q2
           exact ⟨v, hv, j6 je (fun j1 b' j3 => hlo b hlt blk h1 j1 b' (Z7a q1 (Zc7 q2 j3))) (Xn.1 (hB.rows i row q1).2 x (dU q2))⟩
         . exact .inr hv
       . rw [j5 b b0 j4 h0]
         have ja : b0 ∈ ns := dU h0
         rcases H.at_ b0 j0 h1 with ⟨k, sz, j3, hB⟩ | ⟨j3, hr, hx⟩
         . refine .inl ⟨k, sz, j3, hB.ren (fun j1 b' j9 => jb b' (Zhw ja ?_))⟩
           simp only [below, h1, j1, if_true]
           exact j9
         . refine .inr ⟨j3, ?_, ?_⟩ <;> simp [Z48, hx, hr]
     . have src : ∀ b blk k sz, Z6y U.base U.h (low U.base U.h) ns ns U.base b = some blk -> Z41 U.base V ns b = some (some (k, sz)) -> ∃ b0 j0, U.h b0 = some j0 /\ V b0 = some (some (k, sz)) /\ ((b < U.base /\ b0 = b) \/ (U.base <= b /\ ns[b - U.base]? = some b0)) := by
        intro b blk k sz e1 e3
        rcases jc b blk e1 with ⟨hlt, h1⟩ | ⟨b0, j0, j4, h0, h1, _⟩
        . have hr : Z41 U.base V ns b = V b := by simp [Z41, hlt]
          rw [hr] at e3
          exact ⟨b, blk, h1, e3, .inl ⟨hlt, rfl⟩⟩
        . rw [j5 b b0 j4 h0] at e3
          exact ⟨b0, j0, h1, e3, .inr ⟨j4, h0⟩⟩
       obtain ⟨c1, k1, p1, r1, s1⟩ := src b blk k sz e1 e3
       obtain ⟨c2, k2, p2, r2, s2⟩ := src b' blk' k sz' e2 e4
       have hc := H.inj c1 c2 k sz sz' k1 k2 p1 p2 r1 r2
       subst hc
       rcases s1 with ⟨l1, rfl⟩ | ⟨g1, o1⟩ <;> rcases s2 with ⟨l2, q2⟩ | ⟨g2, o2⟩
       . exact q2
       . have := j8.ge _ (dU o2); omega
       . have := j8.ge _ (dU o1); omega
       . have i1 := (dQ.1 o1).1
         have i2 := (dQ.1 o2).1
         rw [dP i1] at o1
         rw [dP i2] at o2
         simp only [dK] at o1 o2
         have hp := List.pairwise_iff_getElem.1 j8.nodup
         rcases Nat.lt_trichotomy (b - U.base) (b' - U.base) with hlt | jg | jd
         . exact absurd (o1.trans o2.symm) (hp _ _ i1 i2 hlt)
         . omega
         . exact absurd (o2.trans o1.symm) (hp _ _ i2 i1 jd)
   . unfold Z41
     simp only at hb
     rw [if_neg (by omega), eS (by omega)]
end Go.Vm
namespace Go.Vm
theorem Shr.refl (base : Nat) (h : Hp) : Shr base h h := fun b _ k e hb => ⟨k, e, hb, fun _ h => h⟩
theorem Shr.trans {base : Nat} {h h' h'' : Hp} (a : Shr base h h') (c : Shr base h' h'') : Shr base h h'' := fun b hb k e hx => by
 obtain ⟨k1, e1, x1, n1⟩ := c b hb k e hx
 obtain ⟨k2, e2, x2, n2⟩ := a b hb k1 e1 x1
 exact ⟨k2, e2, x2, fun b' h => n2 b' (n1 b' h)⟩
theorem Shr.mono {base base' : Nat} {h h' : Hp} (a : Shr base h h') (hb : base' <= base) : Shr base' h h' := fun b h => a b (by omega)
theorem Shr.of_same {base : Nat} {h h' : Hp} (a : ∀ b, b < base -> h' b = h b) : Shr base h h' := fun b hb k e hx => ⟨k, (a b hb).symm.trans e, hx, fun _ h => h⟩
theorem Shr.frz (base : Nat) (h : Hp) (bs : List Nat) : Shr base h (frz h bs) := fun b hb k e hx => by
 rw [Zd8] at e
 cases e0 : h b with
 | none => rw [e0] at e; cases e
 | some k0 =>
   rw [e0] at e
   simp only [dK] at e
   subst e
   refine ⟨k0, rfl, ?_, fun b' h => ?_⟩
   . split at hx <;> exact hx
   . split at h <;> exact h
theorem Shr.upd_ge {base n : Nat} {h : Hp} {x : Option Blk} (hn : base <= n) : Shr base h (upd h n x) := Shr.of_same fun b hb => by rw [upd, if_neg (by omega)]
theorem Shr.kill {base b0 : Nat} {h : Hp} : Shr base h (upd h b0 none) := fun b hb k e hx => by
 unfold upd at e
 split at e
 . cases e
 . exact ⟨k, e, hx, fun _ h => h⟩
theorem Shr.nobox {base b0 : Nat} {h : Hp} {k0 : Blk} (hk : k0.box = false) : Shr base h (upd h b0 (some k0)) := fun b hb k e hx => by
 unfold upd at e
 split at e
 . simp only [dK] at e; subst e; rw [hk] at hx; cases hx
 . exact ⟨k, e, hx, fun _ h => h⟩
theorem Z4g : ∀ (zs : List A) (h : Hp) (n b : Nat), b < n -> (Yb h n zs).2 b = h b
 | [], h, n, b, _ => rfl
 | z :: zs, h, n, b, hb => by
   cases z with
   | lit ty r =>
     simp only [Yb]
     rw [Z4g zs _ (n + 1) b (by omega), upd, if_neg (by omega)]
   | _ => simp only [Yb]; exact Z4g zs h n b hb
theorem Z7w : ∀ (as : List A) (h : Hp) (n b : Nat), b < n -> (Ye h n as).2 b = h b
 | [], h, n, b, _ => rfl
 | a :: as, h, n, b, hb => by
   cases a with
   | olit ty r =>
     simp only [Ye]
     rw [Z7w as _ (n + 1) b (by omega), upd, if_neg (by omega)]
   | _ => simp only [Ye]; exact Z7w as h n b hb
theorem Zq8 (a : A) (h : Hp) (n b : Nat) (hb : b < n) : (Z3k h n a).2 b = h b := by
 cases a with
 | agg cs => exact Z7w cs h n b hb
 | olit ty r => simp only [Z3k]; rw [upd, if_neg (by omega)]
 | _ => rfl
theorem Z9k : ∀ (as : List A) (h : Hp) (n b : Nat), b < n -> (Ym h n as).2 b = h b
 | [], h, n, b, _ => rfl
 | a :: as, h, n, b, hb => by
   simp only [Ym]
   rw [Z9k as _ _ b (by omega), Zq8 a h n b hb]
theorem Zec : ∀ {cs : List A}, Zew 0 cs = false -> ∀ x ∈ cs, Yg x = []
 | [], _, x, h => by simp at h
 | c :: cs, e, x, h => by
   simp only [Zew, fB] at e
   rcases eG.1 h with rfl | h
   . cases x <;> simp [Y6x] at e <;> rfl
   . exact Zec e.2 x h
theorem Zu8 {as : List A} {b : Nat} : b ∈ Zh as ↔ ∃ x ∈ as, b ∈ Yg x := by
 induction as with
 | nil => simp [Zh]
 | cons a as ih => simp [Zh, ih]
theorem Zby {rows : List (List A)} {b : Nat} : b ∈ Zq rows ↔ ∃ r ∈ rows, ∃ x ∈ r, b ∈ Yg x := by
 induction rows with
 | nil => simp [Zq]
 | cons r rs ih => simp [Zq, ih, Zu8]
theorem Zee {base : Nat} {h h' : Hp} {p x : A} {n : Nat} (e : storeAt base h p n x = some h') : Shr base h h' := by
 unfold storeAt at e
 split at e
 . rename_i b i j
   obtain ⟨k, hk, e1⟩ := Z5 e
   obtain ⟨row, j2, e2⟩ := Z5 e1
   unfold Z7q at e2
   split at e2
   . split at e2
     . rename_i j0
       split at e2
       . cases e2
       . rename_i j4
         simp only [dK] at e2
         subst e2
         intro b1 j7 k1 q1 hx
         unfold upd at q1
         split at q1
         . rename_i j6
           subst j6
           simp only [dK] at q1
           subst q1
           refine ⟨k, hk, j0, fun b' j5 => ?_⟩
           have j3 : Zew 0 x.cells = false := by
            cases hq : Zew 0 x.cells with
            | false => rfl
            | true => exact absurd ⟨j7, hq⟩ j4
           rw [Zby] at j5 ⊢
           obtain ⟨r, hr, y, hy, j1⟩ := j5
           rcases eW hr with hr | hr
           . exact ⟨r, hr, y, hy, j1⟩
           . subst hr
             unfold Z3o at hy
             simp only [dS] at hy
             rcases hy with (hy | hy) | hy
             . exact ⟨row, dU j2, y, eZ hy, j1⟩
             . rw [Zec j3 y hy] at j1; simp at j1
             . exact ⟨row, dU j2, y, eO hy, j1⟩
         . exact ⟨k1, q1, hx, fun _ h => h⟩
     . rename_i j0
       obtain ⟨cs, j8, e3⟩ := Z5 e2
       simp only [dK] at e3
       subst e3
       exact (Shr.nobox (by simpa using j0)).trans (Shr.frz _ _ _)
   . cases e2
 . cases e
structure Keeps (U U' : St) : Prop where
 base : U'.base = U.base
 n : U.n <= U'.n
 shr : Shr U.base U.h U'.h
theorem Keeps.refl (U : St) : Keeps U U := ⟨rfl, dM _, Shr.refl _ _⟩
theorem Keeps.trans {a b c : St} (h : Keeps a b) (k : Keeps b c) : Keeps a c := ⟨k.base.trans h.base, eE h.n k.n, h.shr.trans (h.base ▸ k.shr)⟩
def Z2m (E : Env) : Prop := (∀ f as h n rs h' n', E.dc f as h n = some (rs, h', n') -> Shr n h h' /\ n <= n') /\ ∀ f as h n rs h' n', E.df f as h n = some (rs, h', n') -> n <= n'
variable {E : Env}
theorem Y3h {U U' : St} {d nm e : Nat} {ys : List (List A)} {a : A} (hb : U.base <= U.n) (eq : Zv1 U d nm e ys a = some U') : Keeps U U' := by
 unfold Zv1 at eq
 split at eq
 . obtain ⟨k, hk, e1⟩ := Z5 eq
   split at e1
   . rename_i hc
     split at e1
     . simp only [dK] at e1; subst e1
       exact ⟨rfl, dM _, Shr.kill.trans (Shr.upd_ge (by omega))⟩
     . split at e1
       . simp only [dK] at e1; subst e1
         exact ⟨rfl, dM _, Shr.nobox hc.2.1⟩
       . cases e1
   . cases e1
 . cases eq
theorem Zh5 {U U' : St} {d : Option Nat} {nm w f : Nat} {as : List A} (hb : U.base <= U.n) (eq : Z45 E U d nm w f as = some U') : Keeps U U' := by
 unfold Z45 at eq
 obtain ⟨xs, _, e1⟩ := Z5 eq
 obtain ⟨rs, _, e2⟩ := Z5 e1
 split at e2
 . cases e2
 . simp only [dK] at e2; subst e2
   refine ⟨rfl, dM _, Shr.trans (h' := aft U.h as rs) ?_ (Shr.of_same fun b j0 => Z9k _ _ _ _ (by omega))⟩
   unfold aft
   split
   . exact Shr.frz _ _ _
   . exact Shr.refl _ _
theorem Zfk {E : Env} {N : List Nat} {f : Nat} {as : List A} {h : Hp} {n : Nat} {r : List A × Hp × Nat} (e : (chk E N).dc f as h n = some r) : E.dc f as h n = some r /\ Z3l N h r.2.1 := by
 obtain ⟨r', hr, e1⟩ := Z5 e
 split at e1
 . rename_i hk
   cases e1
   exact ⟨hr, hk⟩
 . cases e1
theorem Zyv (hE : Z2m E) (N : List Nat) : Z2m (chk E N) := ⟨fun f as h n rs h' n' e => hE.1 f as h n rs h' n' (Zfk e).1, hE.2⟩
theorem Zsh (hE : Z2m E) {U U' : St} {tot : Nat} {d : Option Nat} {f : Nat} {as : List A} (hb : U.base <= U.n) (eq : Zpd E tot U d f as = some U') : Keeps U U' := by
 unfold Zpd at eq
 obtain ⟨⟨rs, h', n'⟩, hr, e1⟩ := Z5 eq
 simp only [dK] at e1; subst e1
 obtain ⟨q1, q2⟩ := hE.1 _ _ _ _ _ _ _ hr
 exact ⟨rfl, by simp only; omega, q1.mono (by omega)⟩
theorem Zsd (hE : Z2m E) {U U' : St} {tot : Nat} {op : AOp} (hb : U.base <= U.n) (e : step E tot op U = some U') : Keeps U U' := by
 cases op with
 | mvn d nm ty => simp only [step, dK] at e; subst e; exact ⟨rfl, dM _, Shr.upd_ge (by omega)⟩
 | al d nm ty zs =>
   simp only [step, dK] at e; subst e
   exact ⟨rfl, dM _, Shr.trans (Shr.of_same fun b j0 => Z4g zs _ _ _ (by omega)) (Shr.upd_ge (by omega))⟩
 | box d nm ty n x =>
   simp only [step] at e
   split at e
   . simp only [dK] at e; subst e; exact ⟨rfl, dM _, Shr.upd_ge (by omega)⟩
   . cases e
 | bld d nm zs ps =>
   simp only [step] at e
   obtain ⟨cs, _, e1⟩ := Z5 e
   simp only [dK] at e1; subst e1
   exact ⟨rfl, dM _, Shr.of_same fun b j0 => Z4g zs _ _ _ (by omega)⟩
 | bsl d nm ty n xs =>
   simp only [step] at e
   obtain ⟨cs, _, e1⟩ := Z5 e
   simp only [dK] at e1; subst e1
   exact ⟨rfl, dM _, (Shr.upd_ge (by omega)).trans (Shr.frz _ _ _)⟩
 | st n p x =>
   simp only [step] at e
   obtain ⟨hh, h1, e1⟩ := Z5 e
   simp only [dK] at e1; subst e1
   exact ⟨rfl, dM _, Zee h1⟩
 | stn nm ty p =>
   simp only [step] at e
   obtain ⟨hh, h1, e1⟩ := Z5 e
   simp only [dK] at e1; subst e1
   exact ⟨rfl, dM _, (Shr.upd_ge (by omega)).trans (Zee h1)⟩
 | mkf d f caps =>
   simp only [step] at e
   split at e
   . simp only [dK] at e; subst e; exact ⟨rfl, dM _, Shr.refl _ _⟩
   . cases e
 | mks d nm ty zs l c =>
   simp only [step] at e
   unfold Y4x at e
   split at e
   . split at e
     . simp only [dK] at e; subst e; exact ⟨rfl, dM _, Shr.upd_ge (by omega)⟩
     . cases e
   . cases e
 | sl d t x lo hi mx =>
   simp only [step] at e
   obtain ⟨u, _, e1⟩ := Z5 e
   simp only [dK] at e1; subst e1; exact ⟨rfl, dM _, Shr.refl _ _⟩
 | call d nm w f xs => exact Zh5 hb e
 | mkb d nm ty zs l c =>
   simp only [step] at e
   unfold Y50 at e
   split at e
   . split at e
     . simp only [dK] at e; subst e; exact ⟨rfl, dM _, Shr.upd_ge (by omega)⟩
     . cases e
   . cases e
 | bsb d nm ty n xs =>
   simp only [step] at e
   obtain ⟨cs, _, e1⟩ := Z5 e
   simp only [dK] at e1; subst e1
   exact ⟨rfl, dM _, Shr.upd_ge (by omega)⟩
 | bll d ty n xs =>
   simp only [step] at e
   obtain ⟨rows, _, e1⟩ := Z5 e
   simp only [dK] at e1; subst e1; exact ⟨rfl, dM _, Shr.refl _ _⟩
 | apb d nm t s x =>
   simp only [step] at e
   obtain ⟨ys, _, e1⟩ := Z5 e
   unfold Zqz at e1
   split at e1
   . obtain ⟨k, _, e2⟩ := Z5 e1
     split at e2
     . split at e2
       . simp only [dK] at e2; subst e2
         exact ⟨rfl, dM _, Shr.kill.trans (Shr.upd_ge (by omega))⟩
       . split at e2
         . rename_i hq; cases hq.2
         . cases e2
     . cases e2
   . cases e1
 | callx d nm w f xs =>
   simp only [step, Z5r] at e
   obtain ⟨p, _, e1⟩ := Z5 e
   obtain ⟨rs, _, e2⟩ := Z5 e1
   split at e2
   . cases e2
   . simp only [dK] at e2; subst e2
     exact ⟨rfl, dM _, Shr.of_same fun b j0 => Z9k _ _ _ _ (by omega)⟩
 | dcs d f xs =>
   simp only [step, Zq2] at e
   obtain ⟨⟨rs, h', n'⟩, hr, e1⟩ := Z5 e
   obtain ⟨p, _, e2⟩ := Z5 e1
   simp only [dK] at e2; subst e2
   obtain ⟨q1, q2⟩ := hE.1 _ _ _ _ _ _ _ hr
   exact ⟨rfl, by simp only; omega, (q1.mono (by omega)).trans (Shr.frz _ _ _)⟩
 | callv d nm w y xs =>
   simp only [step] at e
   obtain ⟨p, _, e1⟩ := Z5 e
   exact Zh5 hb e1
 | dcall d f xs => exact Zsh hE hb e
 | dcf d f xs =>
   simp only [step, Zfs] at e
   obtain ⟨⟨rs, h', n'⟩, hr, e1⟩ := Z5 e
   split at e1
   . rename_i hq
     simp only [dK] at e1; subst e1
     have := hE.2 _ _ _ _ _ _ _ hr
     exact ⟨rfl, by simp only; omega, hq⟩
   . cases e1
 | dcallv d y xs =>
   simp only [step] at e
   obtain ⟨p, _, e1⟩ := Z5 e
   exact Zsh hE hb e1
 | app d nm t s x =>
   simp only [step] at e
   obtain ⟨ys, _, e1⟩ := Z5 e
   exact Y3h hb e1
 | clr t zs x =>
   simp only [step] at e
   unfold Y58 at e
   split at e
   . obtain ⟨k, hk, e1⟩ := Z5 e
     split at e1
     . rename_i hc
       simp only [dK] at e1; subst e1; exact ⟨rfl, dM _, Shr.nobox hc.2.1⟩
     . cases e1
   . cases e
 | no why => simp [step, AOp.yields, bnd] at e
 | _ =>
   simp only [step, AOp.yields, Xs] at e
   obtain ⟨u, _, e1⟩ := Z5 e
   simp only [dK] at e1; subst e1; exact ⟨rfl, dM _, Shr.refl _ _⟩
theorem Y07 (hE : Z2m E) {U U' : St} {tot : Nat} {g : G} (hb : U.base <= U.n) (e : Yt E tot g U = some U') : Keeps U U' := by
 cases g with
 | o op => exact Zsd hE hb e
 | g slot want op =>
   obtain ⟨t, _, e1⟩ := Z5 e
   split at e1
   . unfold Wu at e1
     split at e1
     . simp only [dK] at e1; subst e1; exact ⟨rfl, dM _, Shr.refl _ _⟩
     . cases t
       . simp only [cond_false, dK] at e1; subst e1; exact ⟨rfl, dM _, Shr.refl _ _⟩
       . cases e1
   . unfold W9 at e1
     split at e1
     . simp only [dK] at e1; subst e1; exact ⟨rfl, dM _, Shr.refl _ _⟩
     . cases t
       . simp only [cond_false, dK] at e1; subst e1; exact ⟨rfl, dM _, Shr.refl _ _⟩
       . simp only [cond_true] at e1
         obtain ⟨U1, h1, e2⟩ := Z5 e1
         have := Zsd hE (U := strip U) hb h1
         unfold back at e2
         simp only [dK] at e2; subst e2
         exact ⟨this.base, this.n, this.shr⟩
theorem Z55 (hE : Z2m E) {tot : Nat} : ∀ {gs : List G} {U U' : St}, U.base <= U.n -> Ze E tot gs U = some U' -> Keeps U U'
 | [], U, U', _, e => by simp only [Ze, dK] at e; subst e; exact Keeps.refl _
 | g :: gs, U, U', hb, e => by
   obtain ⟨U1, h1, e1⟩ := Z5 e
   have k := Y07 hE hb h1
   exact k.trans (Z55 hE (by have := k.base; have := k.n; omega) e1)
theorem Zay {L : List Nat} {U U' : St} (e : canon L U = some U') : U'.base = U.base /\ U.base <= U'.n /\ Shr U.base U.h U'.h := by
 unfold canon Zeo at e
 generalize Z2k U.base U.h 2 (W7 U.base U.s [] L) = ns at e
 cases hcl : Zfi U.base U.h ns with
 | false => rw [hcl] at e; cases e
 | true =>
   rw [hcl] at e
   simp only [cond_true, dK] at e
   subst e
   refine ⟨rfl, by simp, Shr.of_same fun b hb => ?_⟩
   simp only
   rw [Zds _ _ _ _ _ _ _ (fun j hj => by simp [low]; omega), if_pos hb]
   simp [low, hb]
def Out.st : Out -> St
 | .norm U => U
 | .exit _ U => U
 | .ret U => U
structure KeepsX (U U' : St) : Prop where
 base : U'.base = U.base
 n : U'.base <= U'.n
 shr : Shr U.base U.h U'.h
theorem KeepsX.trans {a b c : St} (h : KeepsX a b) (k : KeepsX b c) : KeepsX a c := ⟨k.base.trans h.base, k.n, h.shr.trans (h.base ▸ k.shr)⟩
theorem KeepsX.refl {U : St} (h : U.base <= U.n) : KeepsX U U := ⟨rfl, h, Shr.refl _ _⟩
theorem Z43 {tot : Nat} {o : Option St} {out : Out} (e : nrm tot o = some out) : ∃ U, o = some U /\ out = .norm { U with n := U.n + tot } := by
 cases o with
 | none => cases e
 | some U => simp only [nrm, dK] at e; exact ⟨U, rfl, e.symm⟩
theorem Z9r {o : Option Out} {k : St -> Option Out} {out : Out} (e : Zgc o k = some out) : (∃ U, o = some (.norm U) /\ k U = some out) \/ (o = some out /\ ∀ U, out ≠ .norm U) := by
 unfold Zgc at e
 split at e
 . exact .inl ⟨_, rfl, e⟩
 . rename_i h
   refine .inr ⟨e, fun U q => h U ?_⟩
   rw [e, q]
theorem Zoh {f : St -> Option Out} {L : List Nat} (hf : ∀ U out, U.base <= U.n -> f U = some out -> KeepsX U out.st) : ∀ (k : Nat) (U : St) (out : Out), U.base <= U.n -> Zc f L k U = some out -> KeepsX U out.st
 | 0, U, out, _, e => by cases e
 | k + 1, U, out, hb, e => by
   rcases Z9r e with ⟨U1, h1, e1⟩ | ⟨h1, _⟩
   . have q := hf U _ hb h1
     obtain ⟨U2, h2, e2⟩ := Z5 e1
     obtain ⟨c1, c2, c3⟩ := Zay h2
     have q2 : KeepsX U1 U2 := ⟨c1, by omega, c3⟩
     exact (q.trans q2).trans (Zoh hf k U2 out (by omega) e2)
   . exact hf U _ hb h1
theorem Vo (hE : Z2m E) : ∀ (c : ACode) (U : St) (out : Out), U.base <= U.n -> Zg E c U = some out -> KeepsX U out.st
 | .sk, U, out, hb, e => by simp only [Zg, dK] at e; subst e; exact KeepsX.refl hb
 | .rg tot dr ops, U, out, hb, e => by
   obtain ⟨U1, h1, rfl⟩ := Z43 e
   have k := Z55 hE hb h1
   exact ⟨k.base, by have := k.base; have := k.n; simp [Out.st]; omega, k.shr⟩
 | .rgs tot sep ops, U, out, hb, e => by
   obtain ⟨U1, h1, rfl⟩ := Z43 e
   obtain ⟨U2, h2, h3⟩ := Z5 h1
   cases hs : Zl6 U2 sep with
   | false => rw [hs] at h3; cases h3
   | true =>
     rw [hs] at h3
     simp only [cond_true, dK] at h3
     subst h3
     have k := Z55 hE hb h2
     exact ⟨k.base, by have := k.base; have := k.n; simp [Out.st]; omega, k.shr⟩
 | .rgk tot sep keep ops, U, out, hb, e => by
   obtain ⟨U1, h1, rfl⟩ := Z43 e
   obtain ⟨U2, h2, h3⟩ := Z5 h1
   cases hs : Zl6 U2 sep && Z2c U2 (Z0l U keep) sep with
   | false => rw [hs] at h3; cases h3
   | true =>
     rw [hs] at h3
     simp only [cond_true, dK] at h3
     subst h3
     have k := Z55 (Zyv hE _) hb h2
     exact ⟨k.base, by have := k.base; have := k.n; simp [Out.st]; omega, k.shr⟩
 | .sq a b, U, out, hb, e => by
   rcases Z9r e with ⟨U1, h1, e1⟩ | ⟨h1, _⟩
   . have q := Vo hE a U _ hb h1
     exact q.trans (Vo hE b U1 out q.n e1)
   . exact Vo hE a U out hb h1
 | .ite c a b, U, out, hb, e => by
   obtain ⟨q, hq, e1⟩ := Z5 e
   cases q
   . exact Vo hE b U out hb e1
   . exact Vo hE a U out hb e1
 | .bl id c, U, out, hb, e => by
   simp only [Zg] at e
   unfold blO at e
   split at e
   . rename_i id' U1 h1
     have q := Vo hE c U _ hb h1
     split at e <;> (simp only [dK] at e; subst e; exact q)
   . exact Vo hE c U out hb e
 | .lp L c, U, out, hb, e => by
   obtain ⟨U1, h1, e1⟩ := Z5 e
   obtain ⟨c1, c2, c3⟩ := Zay h1
   have q : KeepsX U U1 := ⟨c1, by omega, c3⟩
   exact q.trans (Zoh (fun U out => Vo hE c U out) _ U1 out (by omega) e1)
 | .xt id, U, out, hb, e => by simp only [Zg, dK] at e; subst e; exact KeepsX.refl hb
 | .rt, U, out, hb, e => by simp only [Zg, dK] at e; subst e; exact KeepsX.refl hb
 | .no _, U, out, hb, e => by cases e
theorem Zbi {J : Type} {o : Option Out} {k : St -> Option J} {r : J} (e : Zc0 o k = some r) : ∃ U, (o = some (.norm U) \/ o = some (.ret U)) /\ k U = some r := by
 unfold Zc0 at e
 split at e
 . exact ⟨_, .inl rfl, e⟩
 . exact ⟨_, .inr rfl, e⟩
 . cases e
theorem Y3n {e : Nat} {as : List A} {h : Hp} {n : Nat} {rs : List A} {h' : Hp} {n' : Nat} (eq : Y98 e as h n = some (rs, h', n')) :
 ∃ b cap ex i b2 cap2 ex2 k k2 row, as = [.ref e b 0 k.rows.length cap ex, .v (.int .i64 (i : Nat)), .ref e b2 0 1 cap2 ex2] /\ h b = some k /\ h b2 = some k2 /\ k2.rows[0]? = some row /\
  k.own = true /\ k.box = false /\ k.ty = e /\ k2.box = false /\ k2.ty = e /\ b ≠ b2 /\ i <= k.rows.length /\ k.rows.length + 1 <= big /\
  rs = [.ref e n 0 (k.rows.length + 1) (k.rows.length + 1) false] /\ h' = upd (upd h b none) n (some ⟨e, k.rows.take i ++ row :: k.rows.drop i, true, false⟩) /\ n' = n + 1 := by
 unfold Y98 at eq
 split at eq
 . rename_i ty b len cap ex i ty2 b2 cap2 ex2
   obtain ⟨k, hk, e1⟩ := Z5 eq
   obtain ⟨k2, j1, e2⟩ := Z5 e1
   obtain ⟨row, j0, e3⟩ := Z5 e2
   split at e3
   . rename_i hc
     obtain ⟨rfl, rfl, c1, c2, c3, rfl, c4, c5, c6, c7, c8, c9⟩ := hc
     simp only [dK, dR] at e3
     obtain ⟨rfl, rfl, rfl⟩ := e3
     obtain ⟨j, rfl⟩ : ∃ j : Nat, i = (j : Int) := ⟨i.toNat, by omega⟩
     exact ⟨b, cap, ex, j, b2, cap2, ex2, k, k2, row, rfl, hk, j1, j0, by simpa using c1, c2, c3, c4, c5, c6, by omega, c9, rfl, rfl, rfl⟩
   . cases e3
 . cases eq
theorem Y44 {e : Nat} {as : List A} {h : Hp} {n : Nat} {rs : List A} {h' : Hp} {n' : Nat} (eq : Y98 e as h n = some (rs, h', n')) : Shr n h h' /\ n <= n' := by
 obtain ⟨b, cap, ex, i, b2, j0, j1, k, k2, row, _, hk, _, _, _, _, _, _, _, _, _, _, _, rfl, rfl⟩ := Y3n eq
 exact ⟨Shr.kill.trans (Shr.upd_ge (dM _)), Nat.le_succ _⟩
def Zs6 : ACode -> Bool
 | .lp _ _ => false
 | .sq a b | .ite _ a b => Zs6 a && Zs6 b
 | .bl _ c => Zs6 c
 | _ => true
theorem Z86 (hE : Z2m E) : ∀ (c : ACode) (U : St) (out : Out), Zs6 c = true -> U.base <= U.n -> Zg E c U = some out -> U.n <= out.st.n
 | .sk, U, out, _, hb, e => by simp only [Zg, dK] at e; subst e; exact dM _
 | .rg tot dr ops, U, out, _, hb, e => by
   obtain ⟨U1, h1, rfl⟩ := Z43 e
   have k := (Z55 hE hb h1).n
   simp only [Out.st]; omega
 | .rgs tot sep ops, U, out, _, hb, e => by
   obtain ⟨U1, h1, rfl⟩ := Z43 e
   obtain ⟨U2, h2, h3⟩ := Z5 h1
   cases hs : Zl6 U2 sep with
   | false => rw [hs] at h3; cases h3
   | true =>
     rw [hs] at h3
     simp only [cond_true, dK] at h3
     subst h3
     have k := (Z55 hE hb h2).n
     simp only [Out.st]; omega
 | .rgk tot sep keep ops, U, out, _, hb, e => by
   obtain ⟨U1, h1, rfl⟩ := Z43 e
   obtain ⟨U2, h2, h3⟩ := Z5 h1
   cases hs : Zl6 U2 sep && Z2c U2 (Z0l U keep) sep with
   | false => rw [hs] at h3; cases h3
   | true =>
     rw [hs] at h3
     simp only [cond_true, dK] at h3
     subst h3
     have k := (Z55 (Zyv hE _) hb h2).n
     simp only [Out.st]; omega
 | .sq a b, U, out, hf, hb, e => by
   simp only [Zs6, dO] at hf
   rcases Z9r e with ⟨U1, h1, e1⟩ | ⟨h1, _⟩
   . have q := Z86 hE a U _ hf.1 hb h1
     have k := Vo hE a U _ hb h1
     have r := Z86 hE b U1 out hf.2 k.n e1
     simp only [Out.st] at q
     omega
   . exact Z86 hE a U out hf.1 hb h1
 | .ite c a b, U, out, hf, hb, e => by
   simp only [Zs6, dO] at hf
   obtain ⟨q, hq, e1⟩ := Z5 e
   cases q
   . exact Z86 hE b U out hf.2 hb e1
   . exact Z86 hE a U out hf.1 hb e1
 | .bl id c, U, out, hf, hb, e => by
   simp only [Zg] at e
   unfold blO at e
   split at e
   . rename_i id' U1 h1
     have q := Z86 hE c U _ hf hb h1
     split at e <;> (simp only [dK] at e; subst e; exact q)
   . exact Z86 hE c U out hf hb e
 | .lp L c, U, out, hf, hb, e => by cases hf
 | .xt id, U, out, _, hb, e => by simp only [Zg, dK] at e; subst e; exact dM _
 | .rt, U, out, _, hb, e => by simp only [Zg, dK] at e; subst e; exact dM _
 | .no _, U, out, _, hb, e => by cases e
theorem Zfj (p : Prog) (hf : ∀ f fn, p.fl f = some fn -> Zs6 fn.code = true) : ∀ d, Z2m ⟨den p d, dcl p d, dfl p d⟩
 | 0 => ⟨fun f as h n rs h' n' e => (by simp [dcl] at e), fun f as h n rs h' n' e => (by simp [dfl] at e)⟩
 | d + 1 => ⟨fun f as h n rs h' n' e => by
   simp only [dcl] at e
   split at e
   . exact Y44 e
   . split at e
     . obtain ⟨r, hr, e1⟩ := Z5 e
       split at e1
       . rename_i hq
         simp only [dK] at e1
         subst e1
         exact hq
       . cases e1
     . split at e
       . cases e
       . rename_i fn j0
         obtain ⟨U, ho, hk⟩ := Zbi e
         obtain ⟨vs, _, h1⟩ := Z5 hk
         simp only [dK, dR] at h1
         obtain ⟨_, rfl, rfl⟩ := h1
         have q : KeepsX ⟨slots as, h, n, n⟩ U := by
          rcases ho with ho | ho
          . exact Vo (Zfj p hf d) _ _ _ (dM _) ho
          . exact Vo (Zfj p hf d) _ _ _ (dM _) ho
         exact ⟨q.shr, by have := q.base; have := q.n; simp only at *; omega⟩, fun f as h n rs h' n' e => by
   simp only [dfl] at e
   split at e
   . cases e
   . rename_i fn j0
     obtain ⟨U, ho, hk⟩ := Zbi e
     obtain ⟨vs, _, h1⟩ := Z5 hk
     simp only [dK, dR] at h1
     obtain ⟨_, _, rfl⟩ := h1
     rcases ho with ho | ho
     . exact Z86 (Zfj p hf d) _ _ _ (hf f fn j0) (dE _) ho
     . exact Z86 (Zfj p hf d) _ _ _ (hf f fn j0) (dE _) ho⟩
end Go.Vm
end
