/-
  Calls, results and operations of the abstract machine, held against the model
-/
import Derived.Test.YtcceojmajfinpaaGreatDoorVmA
import Derived.Deep.AppendSrc
import Derived.Deep.Upon
import Derived.Room.Entries
import Derived.Orders
section
set_option linter.unusedVariables false
set_option linter.unusedSectionVars false
set_option linter.unusedSimpArgs false
set_option linter.unusedVariables false
set_option linter.unusedSimpArgs false
namespace Go.Vm
open Go.RowKit
variable {P : Program} {ρ ρ' ρ'' : Rho} {S S' S'' : Nat → Prop} {w w' w'' : World} {B : Nat} {h : Hp}
theorem Mv.trans0 {iv : Nat → Prop} (a : Mv B ρ S w ρ' S' w' (fun _ => False)) (b : Mv B ρ' S' w' ρ'' S'' w'' iv) : Mv B ρ S w ρ'' S'' w'' iv :=
 (a.trans b).wide (fun x h => by rcases h with h | h; exact h.elim; exact h)
theorem Mv.trans1 {iv : Nat → Prop} (a : Mv B ρ S w ρ' S' w' iv) (b : Mv B ρ' S' w' ρ'' S'' w'' (fun _ => False)) : Mv B ρ S w ρ'' S'' w'' iv :=
 (a.trans b).wide (fun x h => by rcases h with h | h; exact h; exact h.elim)
theorem Zx3 {h : Hp} {bs : List Nat} {n : Nat} {blk : Blk} (hn : n ∉ bs) : upd (frz h bs) n (some blk) = frz (upd h n (some blk)) bs := (Zsg hn).symm
theorem Zoc (H : HR P ρ S w B h) {base : Nat} {t n : Nat} {p a : A} {x v : Value} (rp : R P ρ S w p x) (ra : R P ρ S w a v) (hn : n = P.cellsOf t) (hi : (P.info? t).isSome = true)
 {h' : Hp} (e : storeAt base h p n a = some h') : ∃ w', (Instr.storeAt t x v).run P w = .ok () w' ∧ Eff P B ρ S w (fun _ => False) h' .und undef w' := by
 cases rp with
 | ptr b i j k sz hb =>
   obtain ⟨blk, hblk, e1⟩ := Z3 e
   obtain ⟨row, hrow, e2⟩ := Z3 e1
   clear e e1
   unfold Z4c at e2
   split at e2
   · rename_i hc
     obtain ⟨hown, hlen, hj, hcl, hself⟩ := hc
     obtain ⟨i', hi'⟩ := Option.isSome_iff_exists.1 hi
     have hB := H.at_of hblk hb
     obtain ⟨c, hcc, hs, hcell⟩ := hB.heap
     obtain ⟨q1, q2⟩ := R.cells hcl ra
     have hvl : v.cells.size = n := by have := q1.len; simp at this; omega
     have hrl := (hB.rows _ _ hrow).1
     have hbound : i * sz + j + n ≤ c.size := by
      have : i < blk.rows.length := (List.getElem?_eq_some_iff.1 hrow).1
      have h2 : (i + 1) * sz ≤ blk.rows.length * sz := Nat.mul_le_mul_right _ this
      rw [Nat.add_mul] at h2
      omega
     obtain ⟨w', hrun, hw⟩ := Z1r (P := P) v.cells.toList (i * sz + j) 0 w c blk.ty hcc q2 (by simp [hvl]; exact hbound)
     have hrun' : (Instr.storeAt t (.pointer (some ⟨k, i * sz + j, none⟩)) v).run P w = .ok () w' := by
      have hsz : v.cells.size = P.cellsOf t := by omega
      simp [Instr.storeAt, Instr.sureAddr, storeVar, run_sizeOf _ hi', hsz, hrun]
     refine ⟨w', hrun', ?_⟩
     rw [Nat.add_zero] at hw
     split at e2
     · rename_i hbox
       split at e2
       · cases e2
       · simp only [Option.some.injEq] at e2
         subst e2
         obtain ⟨H2, M2⟩ := H.wrote hblk hb hown hrow q1.len.symm.symm (by omega) (fun m x y h1 h2 => by rw [hbox]; exact q1.at_ m x y h1 h2) hcl hw
         exact ⟨_, _, M2, H2, .und⟩
     · rename_i hbox
       have hbox : blk.box = false := by simpa using hbox
       obtain ⟨cs, hcs, e3⟩ := Z3 e2
       simp only [Option.some.injEq] at e3
       subst e3
       have q3 := Z5g H (S' := Xv ρ S h (Zi a.cells)) (fun _ h => .inl h) hcs q1 (Fast.frozen _)
       have H1 := H.freeze (Zi a.cells)
       have hblk1 : frz h (Zi a.cells) b = some blk := by rw [Zac, hblk]; simp [hself]
       have hl3 := q3.len
       have hl1 := q1.len
       obtain ⟨H2, M2⟩ := H1.wrote hblk1 hb hown hrow q3.len.symm.symm (by simp at hl3 hl1; omega) (fun m x y h1 h2 => by rw [hbox]; exact q3.at_ m x y h1 h2) (Z75 hcs) hw
       rw [Zx3 hself] at H2
       exact ⟨_, _, (Z46 H (Zi a.cells) _).trans0 M2, H2, .und⟩
   · cases e2
 | _ => simp [storeAt] at e
theorem Zra (H : HR P ρ S w B h) {base : Nat} {t m ty : Nat} {p : A} {x : Value} (rp : R P ρ S w p x) (hf : ρ m = none) (hn : 1 = P.cellsOf t) (hi : (P.info? t).isSome = true)
 {h' : Hp} (e : storeAt base (upd h m (some ⟨ty, [], true, false⟩)) p 1 (.ref ty m 0 0 0 false) = some h') : ∃ w', (Instr.storeAt t x (.slice none 0 0)).run P w = .ok () w' ∧ Eff P B ρ S w (span m 1) h' .und undef w' := by
 obtain ⟨H1, M1⟩ := H.none_ hf ty
 obtain ⟨w', hr, ρ2, S2, M2, H2, _⟩ := Zoc H1 (M1.R rp) (R.nil ty m false (Yk _ _)) hn hi e
 exact ⟨w', hr, ρ2, S2, (M1.trans1 M2).wide (fun b hb => by simp only [span]; omega), H2, .und⟩
end Go.Vm
set_option linter.unusedVariables false
set_option linter.unusedSimpArgs false
namespace Go.Vm
open Go.RowKit
variable {P : Program} {ρ ρ' ρ'' : Rho} {S S' S'' : Nat → Prop} {w w' w'' : World} {B : Nat} {h : Hp}
theorem Wk {k o : Nat} {c : Array Value} {t : TypeId} (vs : List Value) (hc : w.heap[k]? = some (.cells c t (0, 0))) (h1 : ∀ v ∈ vs, v.oneCell' = true) (hl : o + vs.length ≤ c.size) :
 Wrote w (w.setCells k o vs) k o vs := by
 obtain ⟨w', hr, hw⟩ := Z1r (P := (default : Program)) vs o 0 w c t hc h1 (by simpa using hl)
 have hcell : ∀ j, j < vs.length → w.cell? ⟨k, o + 0 + j, none⟩ = c[o + j]? := by intro j hj; simp [World.cell?, hc]
 have hr2 := run_storeCells_cells (P := (default : Program)) k o vs 0 w (fun j hj => by rw [hcell j hj, Array.getElem?_eq_getElem (by omega)]; rfl) (fun j hj => by simp [World.frozen?, hc]) h1
 rw [hr] at hr2
 simp only [Result.ok.injEq, true_and, Nat.add_zero] at hr2 hw
 rw [← hr2]
 exact hw
theorem HR.adopt (H : HR P ρ S w B h) {b m : Nat} {blk blk' : Blk} {k sz : Nat} (e : h b = some blk) (hb : ρ b = some (some (k, sz))) (hm : ρ m = none)
 (hext : Ext S w w') (hsz : w.heap.size ≤ w'.heap.size) (hother : ∀ i, i ≠ k → i < w.heap.size → w'.heap[i]? = w.heap[i]?) (hB : BR P ρ S w' B blk' k sz) :
 HR P (setR ρ m (some (k, sz))) S w' B (upd (upd h b none) m (some blk')) := by
 have hne : ∀ b1 blk1 k1 sz1, b1 ≠ b → h b1 = some blk1 → ρ b1 = some (some (k1, sz1)) → k1 ≠ k := by
  intro b1 blk1 k1 sz1 hn e1 h1 hk
  subst hk
  exact hn (H.inj b1 b k1 sz1 sz blk1 blk e1 e h1 hb)
 have hle := Z9j (l := some (k, sz)) hm
 have aux : ∀ b1 blk1, upd (upd h b none) m (some blk') b1 = some blk1 → (b1 = m ∧ blk1 = blk') ∨ (b1 ≠ m ∧ b1 ≠ b ∧ h b1 = some blk1) := by
  intro b1 blk1 e1
  unfold upd at e1
  split at e1
  · simp only [Option.some.injEq] at e1; exact .inl ⟨‹_›, e1.symm⟩
  · split at e1
    · cases e1
    · exact .inr ⟨‹_›, ‹_›, e1⟩
 have same : BR P (setR ρ m (some (k, sz))) S w' B blk' k sz := hB.mono hle (fun _ h => h) (Ext.refl _ _) (fun h => h) rfl
 refine ⟨fun b1 blk1 e1 => ?_, fun b1 b2 k1 sz1 sz2 blk1 blk2 e1 e2 e3 e4 => ?_, fun i hi => Nat.lt_of_lt_of_le (H.old i hi) hsz, H.glob.mono (fun _ h => h) hext⟩
 · rcases aux b1 blk1 e1 with ⟨rfl, rfl⟩ | ⟨n1, n2, e2⟩
   · exact .inl ⟨k, sz, Yk _ _, same⟩
   · rcases H.at_ b1 blk1 e2 with ⟨k1, sz1, h1, hB1⟩ | ⟨h1, hv⟩
     · exact .inl ⟨k1, sz1, hle _ _ h1, hB1.mono hle (fun _ h => h) hext (fun h => h) (hother k1 (hne b1 blk1 k1 sz1 n2 e2 h1) (H.lt e2 h1))⟩
     · exact .inr ⟨hle _ _ h1, hv⟩
 · rcases aux b1 blk1 e1 with ⟨rfl, rfl⟩ | ⟨n1, n2, q1⟩ <;> rcases aux b2 blk2 e2 with ⟨rfl, rfl⟩ | ⟨n3, n4, q2⟩
   · rfl
   · rw [Yk] at e3
     rw [Z1l n3] at e4
     simp only [Option.some.injEq, Prod.mk.injEq] at e3
     exact absurd e3.1.symm (hne b2 blk2 k1 sz2 n4 q2 e4)
   · rw [Yk] at e4
     rw [Z1l n1] at e3
     simp only [Option.some.injEq, Prod.mk.injEq] at e4
     exact absurd e4.1.symm (hne b1 blk1 k1 sz1 n2 q1 e3)
   · rw [Z1l n1] at e3
     rw [Z1l n3] at e4
     exact H.inj b1 b2 k1 sz1 sz2 blk1 blk2 q1 q2 e3 e4
def Zhw (P : Program) (t tx e : TypeId) : Bool :=
 Z4s P t e && (match P.underlying tx with | some (.slice _) => true | _ => false) && decide (0 < P.cellsOf e) &&
  (match P.info? e with | some i => decide (i.bytes ≤ 2048) && (match i.zero with | some z => decide (z.cells.size = i.size) | none => false) | none => false)
theorem Z5u {rows ys : List (List A)} {len : Nat} (hl : len ≤ rows.length) (i : Nat) (row : List A) (e : (rows.take len ++ ys)[i]? = some row) :
 (i < len ∧ rows[i]? = some row) ∨ (len ≤ i ∧ ys[i - len]? = some row) := by
 have hlen : (rows.take len).length = len := by simp; omega
 by_cases hi : i < len
 · rw [List.getElem?_append_left (by omega), List.getElem?_take, if_pos hi] at e
   exact .inl ⟨hi, e⟩
 · rw [List.getElem?_append_right (by omega), hlen] at e
   exact .inr ⟨by omega, e⟩
theorem Zo8 {ρ0 : Rho} {c c' : Array Value} {sz len n : Nat} {rows ys : List (List A)} {news : List Value} (hz : 0 < sz) (hl : len ≤ rows.length) (hn : ys.length = n) (hnl : news.length = n * sz)
 (hrow : ∀ (i : Nat) (row : List A), rows[i]? = some row → row.length = sz) (hrowy : ∀ (i : Nat) (row : List A), ys[i]? = some row → row.length = sz)
 (hold : ∀ (i : Nat) (row : List A) (j : Nat) (x : A), rows[i]? = some row → row[j]? = some x → ∃ y, c[i * sz + j]? = some y ∧ R P ρ0 S w x y)
 (hnew : ∀ (i : Nat) (row : List A) (j : Nat) (x : A), ys[i]? = some row → row[j]? = some x → ∃ v, news[i * sz + j]? = some v ∧ R P ρ0 S w x v)
 (h1 : ∀ m, m < len * sz → c'[m]? = c[m]?) (h2 : ∀ m, m < n * sz → c'[len * sz + m]? = news[m]?) (i : Nat) (row : List A) (j : Nat) (x : A) (e1 : (rows.take len ++ ys)[i]? = some row) (e2 : row[j]? = some x) :
 ∃ y, c'[i * sz + j]? = some y ∧ R P ρ0 S w x y := by
 have hjl : j < row.length := (List.getElem?_eq_some_iff.1 e2).1
 rcases Z5u hl i row e1 with ⟨hi, e3⟩ | ⟨hi, e3⟩
 · obtain ⟨y, hy, hr⟩ := hold i row j x e3 e2
   have hj := hrow i row e3
   have hlt : i * sz + j < len * sz := by
    have : (i + 1) * sz ≤ len * sz := Nat.mul_le_mul_right _ hi
    rw [Nat.add_mul] at this
    omega
   exact ⟨y, by rw [h1 _ hlt]; exact hy, hr⟩
 · obtain ⟨y, hy, hr⟩ := hnew (i - len) row j x e3 e2
   have hj := hrowy _ row e3
   have hin : i - len < n := by rw [← hn]; exact (List.getElem?_eq_some_iff.1 e3).1
   have hlt : (i - len) * sz + j < n * sz := by
    have : (i - len + 1) * sz ≤ n * sz := Nat.mul_le_mul_right _ hin
    rw [Nat.add_mul] at this
    omega
   have heq : i * sz + j = len * sz + ((i - len) * sz + j) := by
    rw [← Nat.add_assoc, ← Nat.add_mul]; congr 2; omega
   exact ⟨y, by rw [heq, h2 _ hlt]; exact hy, hr⟩
theorem Stands.src {ρ0 : Rho} {sz : Nat} {rows : List (List A)} {ad : Option Addr} {cap : Nat} (hs : Stands P ρ0 S w sz rows ad) (hz : 0 < sz) {tx e' : TypeId} (hk : P.underlying tx = some (.slice e')) :
 ∃ news : List Value, Src P sz tx (.slice ad rows.length cap) rows.length news w ∧
  ∀ (i : Nat) (row : List A) (j : Nat) (x : A), rows[i]? = some row → row[j]? = some x → ∃ v, news[i * sz + j]? = some v ∧ R P ρ0 S w x v := by
 obtain ⟨vs, hl, hrun, hget⟩ := hs.load cap
 refine ⟨vs, ⟨.inl ⟨e', hk⟩, fun _ => rfl, hrun _ w rfl, hrun _ w.drew rfl, hl, fun u hu => ?_⟩, hget⟩
 obtain ⟨m, hm, rfl⟩ := List.getElem_of_mem hu
 have hi : m / sz < rows.length := Nat.div_lt_of_lt_mul (by rw [Nat.mul_comm, ← hl]; exact hm)
 have hrow : rows[m / sz]? = some rows[m / sz] := List.getElem?_eq_getElem hi
 obtain ⟨h1, h2⟩ := hs.len _ _ hrow
 have hj : m % sz < rows[m / sz].length := by rw [h1]; exact Nat.mod_lt _ hz
 obtain ⟨v, hv, hr⟩ := hget _ _ _ _ hrow (List.getElem?_eq_getElem hj)
 have hm' : m / sz * sz + m % sz = m := by rw [Nat.mul_comm]; exact Nat.div_add_mod m sz
 rw [hm', List.getElem?_eq_getElem hm] at hv
 simp only [Option.some.injEq] at hv
 rw [hv]
 exact Z3z (Yp.1 h2 _ (List.getElem_mem hj)) hr
end Go.Vm
set_option linter.unusedVariables false
set_option linter.unusedSimpArgs false
namespace Go.Vm
open Go.RowKit
variable {P : Program} {ρ ρ' ρ'' : Rho} {S S' S'' : Nat → Prop} {w w' w'' : World} {B : Nat} {h : Hp}
theorem Ext.of_heap (e : w'.heap = w.heap) : Ext S w w' := ⟨fun _ _ => by rw [e], fun k c t h => ⟨c, by rw [e]; exact h, rfl⟩, fun _ _ _ h => by rw [e]; exact h⟩
theorem HR.of_heap (H : HR P ρ S w B h) (e : w'.heap = w.heap) : HR P ρ S w' B h := H.mono (fun _ _ h => h) (Ext.of_heap e) (by rw [e]; exact Nat.le_refl _) (fun _ _ _ _ _ _ => by rw [e])
theorem Z4a {sz : Nat} {rows ys : List (List A)} {len : Nat} (hl : len ≤ rows.length) (h1 : ∀ (i : Nat) (row : List A), rows[i]? = some row → row.length = sz ∧ Zd row = true)
 (h2 : ∀ (i : Nat) (row : List A), ys[i]? = some row → row.length = sz ∧ Zd row = true) (i : Nat) (row : List A) (e : (rows.take len ++ ys)[i]? = some row) : row.length = sz ∧ Zd row = true := by
 rcases Z5u hl i row e with ⟨_, e⟩ | ⟨_, e⟩
 · exact h1 _ _ e
 · exact h2 _ _ e
theorem Ze1 {bx : Bool} (H : HR P ρ S w B h) (hB : B ≤ w.heap.size) {t tx ty e m len c n : Nat} {base : Option Addr} {x : Value} {i : TypeInfo} {z : Value} {blk : Blk} {ys : List (List A)} {olds news : List Value}
 (hf : ρ m = none) (ht : P.underlying t = some (.slice e)) (hi : P.info? e = some i) (hz : i.zero = some z) (hzs : z.cells.size = i.size) (hsz : i.size = P.cellsOf e) (hpos : 0 < P.cellsOf e) (hbytes : i.bytes ≤ 2048)
 (hbty : blk.ty = e) (hown : blk.own = true) (hlen : len ≤ blk.rows.length)
 (hrow : ∀ (i : Nat) (row : List A), blk.rows[i]? = some row → row.length = P.cellsOf e ∧ Zd row = true)
 (hrowy : ∀ (i : Nat) (row : List A), ys[i]? = some row → row.length = P.cellsOf e ∧ Zd row = true)
 (hn : ys.length = n) (hbig : len + n ≤ big) (hg : c < len + n)
 (hol : olds.length = len * i.size)
 (hold : (Builtin.firstCells i.size len (.slice base len c)).run P w.drew = .ok olds.toArray w.drew)
 (ho : ∀ (i : Nat) (row : List A) (j : Nat) (x : A), i < len → blk.rows[i]? = some row → row[j]? = some x → ∃ y, olds[i * P.cellsOf e + j]? = some y ∧ R P (inR bx ρ) S w x y)
 (hs : Src P i.size tx x n news w)
 (hnew : ∀ (i : Nat) (row : List A) (j : Nat) (x : A), ys[i]? = some row → row[j]? = some x → ∃ v, news[i * P.cellsOf e + j]? = some v ∧ R P (inR bx ρ) S w x v) (b : Nat) :
 ∃ v w', (Builtin.append_ #[t, tx] ty #[.slice base len c, x]).run P w = .ok v w' ∧
  Eff P B ρ S w (span m 1) (upd (upd h b none) m (some { blk with rows := blk.rows.take len ++ ys, box := bx })) (.ref e m 0 (len + n) (len + n) false) v w' := by
 have hnb : len + n ≤ 68719476736 := hbig
 have hnext : Builtin.nextslicecap (len + n) c ≤ 2 * (len + n) := Room.nextslicecap_le' hg
 have hfit : Builtin.nextslicecap (len + n) c * i.bytes ≤ 281474976710656 := by
  have : Builtin.nextslicecap (len + n) c * i.bytes ≤ (2 * 68719476736) * 2048 := Nat.mul_le_mul (by omega) hbytes
  omega
 have hrun := run_append_grow_src (P := P) w t tx ty e i z ht hi hz base len c olds hold x n news hs hg (by omega) hfit
 generalize hcap : grownCap w (len + n) c e = gc at hrun
 have hge : len + n ≤ gc := by rw [← hcap]; exact grownCap_ge w _ _ _
 generalize hcs : ((olds ++ news).toArray ++ Builtin.zeroCells z.cells (gc - (len + n))) = cs at hrun
 have hcsz : cs.size = gc * P.cellsOf e := by
  rw [← hcs]
  have h1 := hs.newsLen
  simp only [Array.size_append, List.size_toArray, size_zeroCells, List.length_append, hol, h1, hzs, hsz]
  rw [← Nat.add_mul, ← Nat.add_mul]
  congr 1
  omega
 have H1 := (H.of_heap (w' := w.drew) rfl).kill b
 have hm1 : ∀ q x y, R P q S w x y → R P q S w.drew x y := fun q x y r => R.mono (w := w) (w' := w.drew) (fun _ _ h => h) (fun _ h => h) (Ext.of_heap (w := w) (w' := w.drew) rfl) r
 have hnl := hs.newsLen
 have hc1 : ∀ q, q < len * P.cellsOf e → cs[q]? = olds.toArray[q]? := by
  intro q hq
  rw [← hcs, Array.getElem?_append_left (by simp [hol, hsz, hnl]; omega)]
  simp only [List.getElem?_toArray]
  rw [List.getElem?_append_left (by rw [hol, hsz]; exact hq)]
 have hc2 : ∀ q, q < n * P.cellsOf e → cs[len * P.cellsOf e + q]? = news[q]? := by
  intro q hq
  rw [← hcs, Array.getElem?_append_left (by simp [hol, hsz, hnl]; omega)]
  simp only [List.getElem?_toArray]
  rw [List.getElem?_append_right (by rw [hol, hsz]; omega), hol, hsz]
  congr 1
  omega
 subst hbty
 obtain ⟨H2, M2⟩ := H1.make (b := m) hf hB { blk with rows := blk.rows.take len ++ ys, box := bx } cs hown (Z4a hlen hrow hrowy)
  (by
   show (blk.rows.take len ++ ys).length * P.cellsOf blk.ty ≤ cs.size
   rw [hcsz]
   refine Nat.mul_le_mul_right _ ?_
   simp
   omega)
  (fun q row j a h1 h2 => by
   show ∃ y, cs[q * P.cellsOf blk.ty + j]? = some y ∧ R P (inR bx ρ) S w.drew a y
   have hlt : (blk.rows.take len).length = len := by simp; omega
   have := Zo8 (P := P) (ρ0 := inR bx ρ) (S := S) (w := w) (c := olds.toArray) (c' := cs) (rows := blk.rows.take len) (ys := ys) (len := len) (news := news) hpos (by omega) hn (by rw [hnl, hsz])
    (fun i row e => by rw [List.getElem?_take] at e; split at e; exact (hrow _ _ e).1; cases e) (fun i row e => (hrowy _ _ e).1)
    (fun i row j x e1 e2 => by
     rw [List.getElem?_take] at e1
     split at e1
     · obtain ⟨y, hy, hr⟩ := ho i row j x ‹_› e1 e2; exact ⟨y, by simpa using hy, hr⟩
     · cases e1)
    hnew hc1 hc2 q row j a (by rw [List.take_take, Nat.min_self]; exact h1) h2
   obtain ⟨y, hy, hr⟩ := this
   exact ⟨y, hy, hm1 _ _ _ hr⟩)
 have M0 : Mv B ρ S w ρ S w.drew (fun _ => False) := ⟨fun _ _ h => h, fun _ h => h, Ext.of_heap rfl, (Below.refl B w).drew, fun _ h _ => h, fun _ h => .inl h⟩
 refine ⟨_, _, hrun, ⟨_, _, (M0.trans0 M2).wide (fun b hb => by simp only [span]; omega), H2, ?_⟩⟩
 refine .ref blk.ty m 0 (len + n) (len + n) false w.heap.size (P.cellsOf blk.ty) gc _ (Yk _ _) rfl hge (fun h => by cases h) (fun _ => by simp) hge ⟨cs, blk.ty, Z3e w.drew _, ?_⟩
 rw [hcsz]; simp
end Go.Vm
set_option linter.unusedVariables false
set_option linter.unusedSimpArgs false
namespace Go.Vm
open Go.RowKit
variable {P : Program} {ρ ρ' ρ'' : Rho} {S S' S'' : Nat → Prop} {w w' w'' : World} {B : Nat} {h : Hp}
theorem Zz0 {bx : Bool} (H : HR P ρ S w B h) {b : Nat} {blk : Blk} {k sz len c : Nat} {ad : Option Addr} (hblk : h b = some blk) (hb : ρ b = some (some (k, sz))) (hbox : imp blk.box bx = true) (hlen : len ≤ blk.rows.length)
 (ha : 0 < c → ad = some ⟨k, 0 * sz, none⟩) (hlc : len ≤ c) :
 ∃ olds : List Value, olds.length = len * sz ∧ (∀ w' : World, w'.heap = w.heap → (Builtin.firstCells sz len (.slice ad len c)).run P w' = .ok olds.toArray w') ∧
  ∀ (i : Nat) (row : List A) (j : Nat) (x : A), i < len → blk.rows[i]? = some row → row[j]? = some x → ∃ y, olds[i * sz + j]? = some y ∧ R P (inR bx ρ) S w x y := by
 have hB := H.at_of hblk hb
 obtain ⟨cs, hcs, hs, hcell⟩ := hB.heap
 have hst : Stands P (inR bx ρ) S w sz (blk.rows.take len) ad := by
  refine ⟨fun i row e => ?_, fun i row j x e1 e2 => ?_⟩
  · rw [List.getElem?_take] at e
    split at e
    · exact hB.rows _ _ e
    · cases e
  · rw [List.getElem?_take] at e1
    split at e1
    · obtain ⟨y, hy, hr⟩ := hcell i row j x e1 e2
      refine ⟨k, 0 * sz, y, ha (by omega), ?_, hr.mono (Zhn hbox) (fun _ h => h) (Ext.refl _ _)⟩
      simp [World.cell?, hcs, hy]
    · cases e1
 obtain ⟨vs, hl, hrun, hget⟩ := hst.load c
 have htl : (blk.rows.take len).length = len := by simp; omega
 rw [htl] at hl hrun
 exact ⟨vs, hl, fun w' e => hrun len w' e, fun i row j x hi e1 e2 => hget i row j x (by rw [List.getElem?_take, if_pos hi]; exact e1) e2⟩
set_option maxHeartbeats 2000000 in
theorem Zec {bx : Bool} {σ σ' : St} (H : HR P ρ S w B σ.h) (hB : B ≤ w.heap.size) {d nm t tx ty e : Nat} {sv xv : A} {s x : Value} {ys : List (List A)} (rs : R P ρ S w sv s) (rx : R P ρ S w xv x)
 (hys : Z7a bx e σ.h xv = some ys) (hf : ρ (σ.n + nm) = none) (ok : Zhw P t tx e = true) (eq : appG bx σ d nm e ys sv = some σ') :
 ∃ v w', (Builtin.append_ #[t, tx] ty #[s, x]).run P w = .ok v w' ∧ ∃ u, σ' = { σ with s := upd σ.s d u, h := σ'.h } ∧ Eff P B ρ S w (span (σ.n + nm) 1) σ'.h u v w' := by
 simp only [Zhw, Bool.and_eq_true, decide_eq_true_eq] at ok
 obtain ⟨⟨⟨o1, o2⟩, hpos⟩, o4⟩ := ok
 have ht := Yw o1
 split at o2
 · rename_i e' htx
   split at o4
   · rename_i i hi
     simp only [Bool.and_eq_true, decide_eq_true_eq] at o4
     obtain ⟨hbytes, o5⟩ := o4
     split at o5
     · rename_i z hz
       have hzs : z.cells.size = i.size := by simpa using o5
       have hsz : i.size = P.cellsOf e := by simp [Program.cellsOf, hi]
       obtain ⟨ad, capx, rfl, hcapx, hst⟩ := Zcc H hys rx
       obtain ⟨news, hs, hnew⟩ := hst.src (cap := capx) hpos htx
       have hnl := hs.newsLen
       rw [← hsz] at hs
       unfold appG at eq
       split at eq
       · rename_i ty' b len cap ex
         obtain ⟨blk, hblk, eq1⟩ := Z3 eq
         clear eq
         split at eq1
         · rename_i hc
           obtain ⟨hown, hbox, hbty, rfl, hlen, hbig⟩ := hc
           subst hbty
           generalize hm : σ.n + nm = m at *
           cases rs with
           | ref ty'' b' off' len' cap' ex' k sz c a hb hty hcap hex ha hlc hk =>
             have hbr := H.at_of hblk hb
             obtain ⟨cs, hcs, hcsl, hcell⟩ := hbr.heap
             obtain ⟨cs2, t2, hcs2, hcb⟩ := hk
             rw [hcs] at hcs2
             simp only [Option.some.injEq, Obj.cells.injEq, and_true] at hcs2
             obtain ⟨rfl, rfl⟩ := hcs2
             rw [Nat.zero_add] at hcb
             obtain ⟨olds, hol, hold, ho⟩ := Zz0 H hblk hb hbox hlen ha hlc
             have hrow : ∀ (i : Nat) (row : List A), blk.rows[i]? = some row → row.length = P.cellsOf blk.ty ∧ Zd row = true := fun i row e => by rw [← hty]; exact hbr.rows i row e
             by_cases hroom : len + ys.length ≤ c
             · -- written in place
               have key : ∃ w', (Builtin.append_ #[t, tx] ty #[.slice a len c, .slice ad ys.length capx]).run P w = .ok (.slice a (len + ys.length) c) w' ∧ Wrote w w' k (len * sz) news := by
                by_cases hn : ys.length = 0
                · have hnews : news = [] := List.eq_nil_of_length_eq_zero (by rw [hnl, hn]; simp)
                  subst hnews
                  rw [hn] at hs ⊢
                  exact ⟨w, run_append_nothing w t tx ty _ i ht hi a len c hlc _ hs, Wk (w := w) [] hcs (fun v h => by simp at h) (by simp; exact Nat.le_trans (Nat.mul_le_mul_right _ hlen) hcsl)⟩
                · have hc0 : 0 < c := by omega
                  have hal := ha hc0
                  subst hal
                  have hwl : len * sz + news.length ≤ cs.size := by
                   rw [hnl, ← hty, ← Nat.add_mul]
                   exact Nat.le_trans (Nat.mul_le_mul_right _ hroom) hcb
                  have hrun := run_append_room_src (P := P) w t tx ty _ i ht hi k (0 * sz) len c _ _ news hs hroom
                   (fun j hj => by rw [hsz, ← hty, Nat.zero_mul, Nat.zero_add]; simp only [World.cell?, hcs]; rw [Array.getElem?_eq_getElem (by omega)]; rfl)
                   (fun j hj => by simp [World.frozen?, hcs])
                  rw [hsz, ← hty, Nat.zero_mul, Nat.zero_add] at hrun
                  rw [Nat.zero_mul]
                  exact ⟨_, hrun, Wk news hcs hs.one hwl⟩
               obtain ⟨w', hrun, hw⟩ := key
               have hext : Ext S w w' := hw.ext (hbr.own hown) ⟨_, _, hcs⟩
               obtain ⟨c', hc', hs', hg⟩ := hw.here _ _ hcs
               have hm1 : ∀ q x y, R P q S w x y → R P q S w' x y := fun q x y r => R.mono (fun _ _ h => h) (fun _ h => h) hext r
               have cellsH : ∀ (i : Nat) (row : List A) (j : Nat) (x : A), (blk.rows.take len ++ ys)[i]? = some row → row[j]? = some x → ∃ y, c'[i * sz + j]? = some y ∧ R P (inR bx ρ) S w x y := by
                refine Zo8 (c := cs) (by omega) hlen rfl (by rw [hnl, hty]) (fun i row e => (hbr.rows i row e).1) (fun i row e => by rw [hty]; exact (hst.len i row e).1) (fun i row j x e1 e2 => by obtain ⟨y, hy, hr⟩ := hcell i row j x e1 e2; exact ⟨y, hy, hr.mono (Zhn hbox) (fun _ h => h) (Ext.refl _ _)⟩) (fun i row j x e1 e2 => by rw [hty]; exact hnew i row j x e1 e2) (fun q hq => ?_) (fun q hq => ?_)
                · rw [hg, if_neg (by omega)]
                · rw [hg, if_pos (by rw [hnl, ← hty]; omega)]
                  congr 1
                  omega
               split at eq1
               · rename_i hcl
                 subst hcl
                 simp only [Option.some.injEq] at eq1
                 have hB2 : BR P ρ S w' B { blk with rows := blk.rows.take cap ++ ys, box := if ys.length = 0 then blk.box else bx } k sz := by
                  refine ⟨hbr.sz_eq, hbr.base, hbr.own, hbr.not_own, fun i row e => by rw [hty]; exact Z4a hlen hrow hst.len i row e, c', hc', ?_, fun i row j x e1 e2 => ?_⟩
                  · show (blk.rows.take cap ++ ys).length * sz ≤ c'.size
                    rw [hs']
                    refine Nat.le_trans (Nat.mul_le_mul_right _ ?_) hcb
                    simp
                    omega
                  · by_cases hn0 : ys.length = 0
                    · have hy0 : ys = [] := List.eq_nil_of_length_eq_zero hn0
                      subst hy0
                      have hnews0 : news = [] := List.eq_nil_of_length_eq_zero (by rw [hnl]; simp)
                      subst hnews0
                      change ((blk.rows.take cap ++ [])[i]? = some row) at e1
                      rw [List.append_nil, List.getElem?_take] at e1
                      split at e1
                      · obtain ⟨y, hy, hr⟩ := hcell i row j x e1 e2
                        refine ⟨y, ?_, ?_⟩
                        · rw [hg, if_neg (by simp)]; exact hy
                        · show R P (inR (if ([] : List (List A)).length = 0 then blk.box else bx) ρ) S w' x y
                          simp only [List.length_nil, if_true]; exact hm1 _ _ _ hr
                      · cases e1
                    · obtain ⟨y, hy, hr⟩ := cellsH i row j x e1 e2
                      refine ⟨y, hy, ?_⟩
                      show R P (inR (if ys.length = 0 then blk.box else bx) ρ) S w' x y
                      rw [if_neg hn0]; exact hm1 _ _ _ hr
                 have H2 := H.adopt hblk hb hf hext (by rw [hw.size]; exact Nat.le_refl _) (fun q hq _ => hw.other q hq) hB2
                 refine ⟨_, _, hrun, .ref blk.ty m 0 (cap + ys.length) (cap + ys.length) false, ?_, ⟨setR ρ m (some (k, sz)), S, ⟨Z9j hf, fun _ h => h, hext, hw.below hbr.base, fun q hq hn => by rw [Z1l (by simp only [span] at hn; omega)]; exact hq, fun _ h => .inl h⟩, ?_, ?_⟩⟩
                 · subst eq1; rfl
                 · subst eq1; exact H2
                 · exact .ref blk.ty m 0 (cap + ys.length) (cap + ys.length) false k sz c a (Yk _ _) hty hroom (fun h => by cases h) ha hroom ⟨c', blk.ty, hc', by rw [hs', Nat.zero_add]; exact hcb⟩
               · rename_i hcl
                 split at eq1
                 · rename_i hfit
                   simp only [Option.some.injEq] at eq1
                   have hB2 : BR P ρ S w' B { blk with rows := blk.rows.take len ++ ys ++ blk.rows.drop (len + ys.length), box := bx } k sz := by
                    have hlen2 : (blk.rows.take len ++ ys).length = len + ys.length := by simp; omega
                    refine ⟨hbr.sz_eq, hbr.base, hbr.own, hbr.not_own, fun i row e => ?_, c', hc', ?_, fun i row j x e1 e2 => ?_⟩
                    · change ((blk.rows.take len ++ ys) ++ blk.rows.drop (len + ys.length))[i]? = some row at e
                      by_cases hi' : i < len + ys.length
                      · rw [List.getElem?_append_left (by omega)] at e
                        rw [hty]; exact Z4a hlen hrow hst.len i row e
                      · rw [List.getElem?_append_right (by omega), List.getElem?_drop] at e
                        exact hbr.rows _ row e
                    · show ((blk.rows.take len ++ ys) ++ blk.rows.drop (len + ys.length)).length * sz ≤ c'.size
                      rw [hs', List.length_append, hlen2, List.length_drop]
                      rcases Nat.le_total blk.rows.length (len + ys.length) with hle | hle
                      · refine Nat.le_trans (Nat.mul_le_mul_right _ ?_) hcb; omega
                      · refine Nat.le_trans (Nat.mul_le_mul_right _ ?_) hcsl; omega
                    · change ((blk.rows.take len ++ ys) ++ blk.rows.drop (len + ys.length))[i]? = some row at e1
                      by_cases hi' : i < len + ys.length
                      · rw [List.getElem?_append_left (by omega)] at e1
                        obtain ⟨y, hy, hr⟩ := cellsH i row j x e1 e2
                        exact ⟨y, hy, hm1 _ _ _ hr⟩
                      · rw [List.getElem?_append_right (by omega), List.getElem?_drop, hlen2, show len + ys.length + (i - (len + ys.length)) = i by omega] at e1
                        obtain ⟨y, hy, hr⟩ := hcell i row j x e1 e2
                        refine ⟨y, ?_, (hm1 _ _ _ hr).mono (Zhn hbox) (fun _ h => h) (Ext.refl _ _)⟩
                        rw [hg, if_neg]
                        · exact hy
                        · have : (len + ys.length) * sz ≤ i * sz := Nat.mul_le_mul_right _ (by omega)
                          rw [Nat.add_mul] at this
                          rw [hnl, ← hty]
                          omega
                   have H2 := H.put hblk hb hext (by rw [hw.size]; exact Nat.le_refl _) (fun q hq _ => hw.other q hq) hB2
                   refine ⟨_, _, hrun, .ref blk.ty b 0 (len + ys.length) cap ex, ?_, ⟨_, S, ⟨fun _ _ h => h, fun _ h => h, hext, hw.below hbr.base, fun q hq hn => hq, fun _ h => .inl h⟩, ?_, ?_⟩⟩
                   · subst eq1; rfl
                   · subst eq1; exact H2
                   · exact .ref blk.ty b 0 (len + ys.length) cap ex k sz c a hb hty hcap hex ha hroom ⟨c', blk.ty, hc', by rw [hs', Nat.zero_add]; exact hcb⟩
                 · cases eq1
             · -- grown
               have hcl : cap = len := by
                split at eq1
                · rename_i h1; exact h1
                · split at eq1
                  · rename_i h1 h2; omega
                  · cases eq1
               rw [if_pos hcl, if_neg (show ¬ ys.length = 0 by omega)] at eq1
               simp only [Option.some.injEq] at eq1
               obtain ⟨v, w', hrun, hE⟩ := Ze1 (P := P) (ty := ty) H hB (base := a) (c := c) (n := ys.length) (len := len) hf ht hi hz hzs hsz hpos hbytes rfl hown hlen hrow hst.len rfl hbig (by omega)
                (by rw [hol, hsz, hty]) (by rw [hsz, ← hty]; exact hold _ rfl) (fun i row j x hi' e1 e2 => by rw [← hty]; exact ho i row j x hi' e1 e2) hs hnew b
               refine ⟨v, w', hrun, .ref blk.ty m 0 (len + ys.length) (len + ys.length) false, ?_, ?_⟩
               · subst eq1; rfl
               · subst eq1; exact hE
           | nil ty'' b' ex' hb =>
             have hrb : blk.rows = [] ∧ blk.box = false := by
              rcases H.at_ b blk hblk with ⟨k, sz, h', _⟩ | ⟨_, h', h''⟩
              · rw [hb] at h'; cases h'
              · exact ⟨h', h''⟩
             obtain ⟨hrb, hbx0⟩ := hrb
             rw [if_pos rfl] at eq1
             simp only [Option.some.injEq] at eq1
             by_cases hn : ys.length = 0
             · have hy : ys = [] := List.eq_nil_of_length_eq_zero hn
               subst hy
               have hnews : news = [] := List.eq_nil_of_length_eq_zero (by rw [hnl]; simp)
               subst hnews
               have hrun := run_append_nothing (P := P) w t tx ty _ i ht hi none 0 0 (Nat.le_refl _) _ hs
               obtain ⟨H2, M2⟩ := (H.kill b).none_ hf blk.ty
               refine ⟨_, _, hrun, .ref blk.ty m 0 0 0 false, ?_, ⟨_, S, M2.wide (fun q hq => by simp only [span]; omega), ?_, .nil blk.ty m false (Yk _ _)⟩⟩
               · subst eq1; rfl
               · subst eq1; rw [show ({ blk with rows := blk.rows.take 0 ++ [], box := if ([] : List (List A)).length = 0 then blk.box else bx } : Blk) = ⟨blk.ty, [], true, false⟩ by cases blk; simp_all]; exact H2
             · rw [if_neg hn] at eq1
               obtain ⟨v, w', hrun, hE⟩ := Ze1 (P := P) (ty := ty) H hB (base := none) (len := 0) (c := 0) (n := ys.length) (olds := []) hf ht hi hz hzs hsz hpos hbytes rfl hown hlen
                (fun i row e => by rw [hrb] at e; simp at e) hst.len rfl hbig (by omega) (by simp) (run_firstCells_none w.drew _ _ _ _) (fun i row j x hi' => by omega) hs hnew b
               refine ⟨v, w', hrun, .ref blk.ty m 0 (0 + ys.length) (0 + ys.length) false, ?_, ?_⟩
               · subst eq1; rfl
               · subst eq1; exact hE
         · cases eq1
       · cases eq
     · cases o5
   · cases o4
 · cases o2
theorem Zz1 {σ σ' : St} {d nm e : Nat} {ys : List (List A)} {sv : A} (eq : appA σ d nm e ys sv = some σ') : appG false σ d nm e ys sv = some σ' := by
 unfold appA at eq
 split at eq
 · rename_i ty b len cap ex
   obtain ⟨k, hk, e1⟩ := Z3 eq
   simp only [appG, hk, bnd]
   split at e1
   · rename_i hc
     obtain ⟨c1, c2, c3, c4, c5, c6⟩ := hc
     have hkb : ∀ rows, ({ k with rows := rows, box := false } : Blk) = { k with rows := rows } := fun rows => by rw [← c2]
     rw [if_pos ⟨c1, by rw [c2]; rfl, c3, c4, c5, c6⟩]
     simp only [c2, ite_self, hkb, and_true]
     exact e1
   · cases e1
 · cases eq
theorem Zi2 {σ σ' : St} (H : HR P ρ S w B σ.h) (hB : B ≤ w.heap.size) {d nm t tx ty e : Nat} {sv xv : A} {s x : Value} {ys : List (List A)} (rs : R P ρ S w sv s) (rx : R P ρ S w xv x)
 (hys : Z0r e σ.h xv = some ys) (hf : ρ (σ.n + nm) = none) (ok : Zhw P t tx e = true) (eq : appA σ d nm e ys sv = some σ') :
 ∃ v w', (Builtin.append_ #[t, tx] ty #[s, x]).run P w = .ok v w' ∧ ∃ u, σ' = { σ with s := upd σ.s d u, h := σ'.h } ∧ Eff P B ρ S w (span (σ.n + nm) 1) σ'.h u v w' :=
 Zec H hB rs rx (Zo1 hys) hf ok (Zz1 eq)
end Go.Vm
set_option linter.unusedVariables false
set_option linter.unusedSimpArgs false
namespace Go.Vm
open Go.RowKit
variable {P : Program} {ρ ρ' ρ'' : Rho} {S S' S'' : Nat → Prop} {w w' w'' : World} {B : Nat} {h : Hp}
theorem Zwx {a : A} {n : Nat} {x : Value} (e : natA a = some n) (r : R P ρ S w a x) : ∃ k, x = .int k (n : Int) := by
 unfold natA at e
 split at e
 · rename_i k i
   split at e
   · simp only [Option.some.injEq] at e
     refine ⟨k, ?_⟩
     rw [(R.v_inv r).1]
     congr 1
     omega
   · cases e
 · cases e
theorem Zbm (k : IntKind) (n y : Nat) (code : BoundsCode) (h : n ≤ y) : (Instr.sliceBound (.int k (n : Int)) y code).run P w = .ok n w := by
 have h0 : (0 : Int) ≤ (n : Int) ∧ (n : Int) ≤ (y : Int) := by omega
 simp [Instr.sliceBound, asIntOf, h0]
theorem Zf2 (isSlice : Bool) (len cap l h m : Nat) (lo hi mx : Option Value)
    (hlo : (lo = none ∧ l = 0) ∨ ∃ k, lo = some (.int k (l : Int))) (hhi : (hi = none ∧ h = len ∧ mx = none) ∨ ∃ k, hi = some (.int k (h : Int))) (hmx : (mx = none ∧ m = cap) ∨ ∃ k, mx = some (.int k (m : Int)))
    (h1 : l ≤ h) (h2 : h ≤ m) (h3 : m ≤ cap) : (Instr.sliceBounds isSlice len cap lo hi mx).run P w = .ok (l, h, m) w := by
  rcases hmx with ⟨rfl, rfl⟩ | ⟨km, rfl⟩ <;> rcases hhi with ⟨rfl, rfl, h'⟩ | ⟨kh, rfl⟩ <;> rcases hlo with ⟨rfl, rfl⟩ | ⟨kl, rfl⟩ <;>
    first
      | (cases h'; done)
      | simp [Instr.sliceBounds, Zbm _ _ _ _ h1, Zbm _ _ _ _ h2, Zbm _ _ _ _ h3]
theorem Zht {σ : St} {ev' : Operand → Value} (hget : ∀ x y, Ym x y = true → R P ρ S w (ev σ y) (ev' x)) {x : Option Operand} {y : Option Opd} {z n : Nat} (ok : Zhp x y = true) (e : optI σ y z = some n) :
 (x.map ev' = none ∧ n = z ∧ y = none) ∨ (∃ k, x.map ev' = some (.int k (n : Int)) ∧ y.isSome = true) := by
 cases x <;> cases y <;> simp only [Zhp, Bool.false_eq_true] at ok
 · simp only [optI, Option.some.injEq] at e
   exact .inl ⟨rfl, e.symm, rfl⟩
 · rename_i x y
   obtain ⟨k, hk⟩ := Zwx e (hget x y ok)
   exact .inr ⟨k, by simp [hk], rfl⟩
def okSl (P : Program) (t : TypeId) (e : Option Nat) (hi mx : Option Opd) : Bool :=
 (hi.isSome || mx.isNone) && (match e with
  | some e => Z4s P t e && (P.info? e).isSome
  | none => strT P t)
theorem Zvj {σ : St} {ev' : Operand → Value} (hget : ∀ x y, Ym x y = true → R P ρ S w (ev σ y) (ev' x)) {t : TypeId} {e : Option Nat} {lo hi mx : Option Operand} {lo' hi' mx' : Option Opd}
 (olo : Zhp lo lo' = true) (ohi : Zhp hi hi' = true) (omx : Zhp mx mx' = true) (ok : okSl P t e hi' mx' = true) {a u : A} {x : Value} (ra : R P ρ S w a x) (eq : Z5t σ e lo' hi' mx' a = some u) :
 ∃ v, (Instr.sliceAt t x (lo.map ev') (hi.map ev') (mx.map ev')).run P w = .ok v w ∧ R P ρ S w u v := by
 simp only [okSl, Bool.and_eq_true, Bool.or_eq_true] at ok
 obtain ⟨okm, oke⟩ := ok
 have bounds : ∀ (isS : Bool) (len cap zl zm l h m c : Nat), optI σ lo' 0 = some l → optI σ hi' len = some h → optI σ mx' zm = some m → zm ≤ c → l ≤ h → h ≤ m → m ≤ zm → cap = c →
  ∃ m', (Instr.sliceBounds isS len cap (lo.map ev') (hi.map ev') (mx.map ev')).run P w = .ok (l, h, m') w ∧ m ≤ m' ∧ m' ≤ c ∧ (mx'.isSome = true → m' = m) ∧ (mx'.isSome = false → m' = c ∧ m = zm) := by
  intro isS len cap zl zm l h m c e1 e2 e3 hzc h1 h2 h3 hcap
  subst hcap
  have i1 := Zht hget olo e1
  have i2 := Zht hget ohi e2
  have i3 := Zht hget omx e3
  rcases i3 with ⟨x3, rfl, y3⟩ | ⟨k3, x3, y3⟩
  · refine ⟨cap, ?_, by omega, Nat.le_refl _, by simp [y3], fun _ => ⟨rfl, rfl⟩⟩
    refine Zf2 isS len cap l h cap _ _ _ ?_ ?_ (.inl ⟨x3, rfl⟩) h1 (by omega) (Nat.le_refl _)
    · rcases i1 with ⟨p, q, _⟩ | ⟨k, p, _⟩
      · exact .inl ⟨p, q⟩
      · exact .inr ⟨k, p⟩
    · rcases i2 with ⟨p, q, _⟩ | ⟨k, p, _⟩
      · exact .inl ⟨p, q, x3⟩
      · exact .inr ⟨k, p⟩
  · refine ⟨m, ?_, Nat.le_refl _, by omega, fun _ => rfl, by simp [y3]⟩
    refine Zf2 isS len cap l h m _ _ _ ?_ ?_ (.inr ⟨k3, x3⟩) h1 h2 (by omega)
    · rcases i1 with ⟨p, q, _⟩ | ⟨k, p, _⟩
      · exact .inl ⟨p, q⟩
      · exact .inr ⟨k, p⟩
    · rcases i2 with ⟨p, q, y2⟩ | ⟨k, p, _⟩
      · subst y2
        rcases okm with h' | h'
        · cases h'
        · cases mx' <;> simp_all
      · exact .inr ⟨k, p⟩
 cases ra with
 | v x hy =>
   cases x <;> try (simp [Z5t] at eq; done)
   rename_i s
   obtain ⟨l, hl, eq1⟩ := Z3 eq
   obtain ⟨hh, hhh, eq2⟩ := Z3 eq1
   split at eq2
   · rename_i hc
     obtain ⟨rfl, hmx, h1, h2⟩ := hc
     simp only [Option.some.injEq] at eq2
     subst eq2
     have hu : P.underlying t = some .string := by
      have oke : strT P t = true := oke
      unfold strT at oke
      split at oke
      · assumption
      · cases oke
     have hm : mx' = none := by cases mx' <;> simp_all
     subst hm
     have hmx0 : mx = none := by cases mx <;> simp_all [Zhp]
     subst hmx0
     obtain ⟨m', hrun, _⟩ := bounds false s.size s.size 0 s.size l hh s.size s.size hl hhh rfl (Nat.le_refl _) h1 h2 (Nat.le_refl _) rfl
     refine ⟨.string (s.extract l hh), ?_, .v _ rfl⟩
     simp only [Option.map_none] at hrun
     simp [Instr.sliceAt, Instr.slice, run_underlying hu, hrun]
   · cases eq2
 | lit ty rows ad cap Y hcap hl hc hr =>
   obtain ⟨l, h1, eq1⟩ := Z3 eq
   obtain ⟨hh, h2, eq2⟩ := Z3 eq1
   obtain ⟨m, h3, eq3⟩ := Z3 eq2
   split at eq3
   · rename_i hc'
     obtain ⟨rfl, c1, c2, c3⟩ := hc'
     simp only [Option.some.injEq] at eq3
     subst eq3
     simp only [Bool.and_eq_true] at oke
     obtain ⟨i, hi⟩ := Option.isSome_iff_exists.1 oke.2
     obtain ⟨m', hrun, b1, b2, b3, b4⟩ := bounds true rows.length cap 0 rows.length l hh m cap h1 h2 h3 hcap c1 c2 c3 rfl
     have hu := Yw oke.1
     refine ⟨.slice (if m' = l then ad else ad.map (·.add (l * P.cellsOf ty))) (hh - l) (m' - l), ?_, ?_⟩
     · simp [Instr.sliceAt, Instr.slice, run_underlying hu, hrun, run_sizeOf _ hi]
     · have hlen : ((rows.take hh).drop l).length = hh - l := by simp; omega
       have hget : ∀ (i : Nat) (row : List A), ((rows.take hh).drop l)[i]? = some row → l + i < hh ∧ rows[l + i]? = some row := by
        intro i row e
        rw [List.getElem?_drop, List.getElem?_take] at e
        split at e
        · exact ⟨‹_›, e⟩
        · cases e
       rw [← hlen]
       refine .lit ty _ _ (m' - l) (fun i j => Y (l + i) j) (by omega) (fun i row e => hl _ _ (hget i row e).2) (fun i row j x e1 e2 => ?_) (fun i row j x e1 e2 => hr _ _ _ _ (hget i row e1).2 e2)
       obtain ⟨hlt, e3⟩ := hget i row e1
       obtain ⟨k, off, ea, hk, hcell⟩ := hc _ _ _ _ e3 e2
       refine ⟨k, off + l * P.cellsOf ty, by rw [if_neg (by omega), ea]; simp [Vu], hk, ?_⟩
       rw [← hcell]
       congr 2
       rw [Nat.add_mul]
       omega
   · cases eq3
 | ref ty b off len cap ex k sz c ad hb hty hcap hex ha hlen hk =>
   obtain ⟨l, h1, eq1⟩ := Z3 eq
   obtain ⟨hh, h2, eq2⟩ := Z3 eq1
   obtain ⟨m, h3, eq3⟩ := Z3 eq2
   split at eq3
   · rename_i hc'
     obtain ⟨rfl, c1, c2, c3⟩ := hc'
     simp only [Option.some.injEq] at eq3
     subst eq3
     simp only [Bool.and_eq_true] at oke
     obtain ⟨i, hi⟩ := Option.isSome_iff_exists.1 oke.2
     obtain ⟨m', hrun, b1, b2, b3, b4⟩ := bounds true len c 0 cap l hh m c h1 h2 h3 hcap c1 c2 c3 rfl
     have hu := Yw oke.1
     refine ⟨.slice (if m' = l then ad else ad.map (·.add (l * P.cellsOf ty))) (hh - l) (m' - l), ?_, ?_⟩
     · simp [Instr.sliceAt, Instr.slice, run_underlying hu, hrun, run_sizeOf _ hi]
     · obtain ⟨cs, t', hcs, hsz⟩ := hk
       refine .ref ty b (off + l) (hh - l) (m - l) (ex || mx'.isSome) k sz (m' - l) _ hb hty (by omega) (fun hx => ?_) (fun hp => ?_) (by omega) ⟨cs, t', hcs, ?_⟩
       · rcases Bool.or_eq_true_iff.1 hx with h' | h'
         · have := hex h'
           cases hm : mx'.isSome with
           | true => rw [b3 hm]
           | false => have := b4 hm; omega
         · rw [b3 h']
       · rw [if_neg (by omega), ha (by omega)]
         simp [Vu, hty, Nat.add_mul]
       · refine Nat.le_trans (Nat.mul_le_mul_right _ ?_) hsz
         omega
   · cases eq3
 | nil ty b ex hb =>
   obtain ⟨l, h1, eq1⟩ := Z3 eq
   obtain ⟨hh, h2, eq2⟩ := Z3 eq1
   obtain ⟨m, h3, eq3⟩ := Z3 eq2
   split at eq3
   · rename_i hc'
     obtain ⟨rfl, c1, c2, c3⟩ := hc'
     simp only [Option.some.injEq] at eq3
     subst eq3
     simp only [Bool.and_eq_true] at oke
     obtain ⟨i, hi⟩ := Option.isSome_iff_exists.1 oke.2
     obtain ⟨m', hrun, b1, b2, b3, b4⟩ := bounds true 0 0 0 0 l hh m 0 h1 h2 h3 (Nat.le_refl _) c1 c2 c3 rfl
     have hu := Yw oke.1
     have e1 : l = 0 := by omega
     have e2 : hh = 0 := by omega
     have e3 : m = 0 := by omega
     have e4 : m' = 0 := by omega
     subst e1; subst e2; subst e3; subst e4
     refine ⟨.slice none 0 0, ?_, .nil ty b _ hb⟩
     simp [Instr.sliceAt, Instr.slice, run_underlying hu, hrun, run_sizeOf _ hi]
   · cases eq3
 | _ => simp [Z5t] at eq
end Go.Vm
set_option linter.unusedVariables false
set_option linter.unusedSimpArgs false
namespace Go.Vm
open Go.RowKit
variable {P : Program} {ρ ρ' ρ'' : Rho} {S S' S'' : Nat → Prop} {w w' w'' : World} {B : Nat} {h : Hp}
theorem Z6t {σ : St} {ev' : Operand → Value} (hget : ∀ x y, Ym x y = true → R P ρ S w (ev σ y) (ev' x)) : ∀ {xs : List Operand} {ys : List Opd}, Vt xs ys = true → RL P ρ S w (evs σ ys) (xs.map ev')
 | [], [], _ => .nil
 | [], _ :: _, e => by simp [Vt] at e
 | _ :: _, [], e => by simp [Vt] at e
 | x :: xs, y :: ys, e => by
   simp only [Vt, Bool.and_eq_true] at e
   exact .cons (hget x y e.1) (Z6t hget e.2)
theorem Zqw {σ : St} {ev' : Operand → Value} (hget : ∀ x y, Ym x y = true → R P ρ S w (ev σ y) (ev' x)) {f : Nat} {xs : List Operand} {ys : List Opd} (ok : Vt xs ys = true) (hp : Wf (evs σ ys) = true) :
 R P ρ S w (.fn f (evs σ ys)) (.func (.func f) #[] (xs.map ev').toArray) :=
 .fn f _ _ hp (Z6t hget ok).len (Z6t hget ok).at_
def Y1h (P : Program) (t e : TypeId) (zs : List A) : Bool := Z4s P t e && Zah P e zs && decide (0 < zs.length)
theorem Zup {σ σ' : St} (H : HR P ρ S w B σ.h) {t ty e : Nat} {zs : List A} {a : A} {x : Value} (ra : R P ρ S w a x) (ok : Y1h P t e zs = true) (eq : clrA σ e zs a = some σ') :
 ∃ w', (Builtin.clear_ #[t] ty #[x]).run P w = .ok (.tuple #[]) w' ∧ σ' = { σ with h := σ'.h } ∧ Eff P B ρ S w (fun _ => False) σ'.h .und undef w' := by
 simp only [Y1h, Bool.and_eq_true, decide_eq_true_eq] at ok
 obtain ⟨⟨o1, o2⟩, o3⟩ := ok
 have hu := Yw o1
 obtain ⟨z, hz1, hz2, hz3, hz4⟩ := Z6a o2
 unfold clrA at eq
 split at eq
 · rename_i ty' b off len cap ex
   obtain ⟨blk, hblk, eq1⟩ := Z3 eq
   clear eq
   split at eq1
   · rename_i hc
     obtain ⟨hown, hbx, hbty, hle⟩ := hc
     simp only [Option.some.injEq] at eq1
     cases ra with
     | ref ty'' b' off' len' cap' ex' k sz c ad hb hty hcap hex ha hlc hk =>
       have hbr := H.at_of hblk hb
       obtain ⟨cs, hcs, hcsl, hcell⟩ := hbr.heap
       have hszl : zs.length = sz := by rw [hbr.sz_eq, hbty]; exact hz3
       let news := (madeCells z.cells (len * z.cells.size)).toList
       have hnl : news.length = len * sz := by simp [news, size_madeCells, hz4, hszl]
       have r0 := Z6b (P := P) (ρ := inR blk.box ρ) (S := S) (w := w) hz2
       have one : ∀ v ∈ news, v.oneCell' = true := by
        intro v hv
        obtain ⟨m, hm, rfl⟩ := List.getElem_of_mem hv
        have hzp : 0 < z.cells.size := by omega
        have hm2 : m < len * sz := by omega
        have hi : m / z.cells.size < len := Nat.div_lt_of_lt_mul (by rw [Nat.mul_comm, hz4, hszl]; exact hm2)
        have hj : m % z.cells.size < z.cells.size := Nat.mod_lt _ hzp
        have hg := Z2g z.cells len (m / z.cells.size) (m % z.cells.size) hj hi
        have hm' : m / z.cells.size * z.cells.size + m % z.cells.size = m := by rw [Nat.mul_comm]; exact Nat.div_add_mod m _
        rw [hm'] at hg
        have hj' : m % z.cells.size < zs.length := by omega
        have hR := r0.at_ (m % z.cells.size) zs[m % z.cells.size] z.cells[m % z.cells.size] (List.getElem?_eq_getElem hj') (by simp [hj])
        have : news[m] = z.cells[m % z.cells.size] := by
         have h1 : news[m]? = some news[m] := List.getElem?_eq_getElem hm
         simp only [news, Array.getElem?_toList] at h1
         rw [hg, Array.getElem?_eq_getElem hj] at h1
         exact (Option.some.inj h1).symm
        rw [this]
        exact Z3z (Yp.1 (Z2m hz2) _ (List.getElem_mem hj')) hR
       have hbound : off * sz + news.length ≤ cs.size := by
        rw [hnl, ← Nat.add_mul]
        exact Nat.le_trans (Nat.mul_le_mul_right _ hle) hcsl
       have key : ∃ w', (Builtin.clear_ #[t] ty #[.slice ad len c]).run P w = .ok (.tuple #[]) w' ∧ Wrote w w' k (off * sz) news := by
        by_cases hl0 : len = 0
        · subst hl0
          have hn0 : news = [] := List.eq_nil_of_length_eq_zero (by rw [hnl]; simp)
          rw [hn0]
          refine ⟨w, ?_, Wk (w := w) [] hcs (fun v h => by simp at h) (by rw [hn0] at hbound; simpa using hbound)⟩
          cases ad <;> simp [Builtin.clear_, run_underlying hu]
        · have had := ha (by omega)
          subst had
          obtain ⟨w', hrun, hw⟩ := Z1r (P := P) news (off * sz) 0 w cs blk.ty hcs one (by rw [Nat.add_zero]; exact hbound)
          refine ⟨w', ?_, by rw [Nat.add_zero] at hw; exact hw⟩
          obtain ⟨n', rfl⟩ : ∃ n', len = n' + 1 := ⟨len - 1, by omega⟩
          have hzc : (Builtin.zeroCells z.cells (n' + 1)).toList = news := rfl
          simp [Builtin.clear_, run_underlying hu, hz1, hzc, hrun]
       obtain ⟨w', hrun, hw⟩ := key
       have hext : Ext S w w' := hw.ext (hbr.own hown) ⟨_, _, hcs⟩
       obtain ⟨c', hc', hs', hg⟩ := hw.here _ _ hcs
       have hl1 : (blk.rows.take off).length = off := by simp; omega
       have hrows : ∀ (i : Nat) (row : List A), (blk.rows.take off ++ List.replicate len zs ++ blk.rows.drop (off + len))[i]? = some row →
        (i < off ∧ blk.rows[i]? = some row) ∨ (off ≤ i ∧ i < off + len ∧ row = zs) ∨ (off + len ≤ i ∧ blk.rows[i]? = some row) := by
        intro i row e
        by_cases h1 : i < off
        · rw [List.append_assoc, List.getElem?_append_left (by omega), List.getElem?_take, if_pos h1] at e
          exact .inl ⟨h1, e⟩
        · by_cases h2 : i < off + len
          · rw [List.append_assoc, List.getElem?_append_right (by omega), hl1, List.getElem?_append_left (by simp; omega), List.getElem?_replicate, if_pos (by omega)] at e
            exact .inr (.inl ⟨by omega, h2, by simpa using e.symm⟩)
          · rw [List.getElem?_append_right (by simp; omega), List.getElem?_drop] at e
            refine .inr (.inr ⟨by omega, ?_⟩)
            rw [← e]
            congr 1
            simp
            omega
       have hB2 : BR P ρ S w' B { blk with rows := blk.rows.take off ++ List.replicate len zs ++ blk.rows.drop (off + len) } k sz := by
        refine ⟨hbr.sz_eq, hbr.base, hbr.own, hbr.not_own, fun i row e => ?_, c', hc', ?_, fun i row j x e1 e2 => ?_⟩
        · rcases hrows i row e with ⟨_, e⟩ | ⟨_, _, rfl⟩ | ⟨_, e⟩
          · exact hbr.rows _ _ e
          · exact ⟨hszl, Z2m hz2⟩
          · exact hbr.rows _ _ e
        · show (blk.rows.take off ++ List.replicate len zs ++ blk.rows.drop (off + len)).length * sz ≤ c'.size
          rw [hs']
          refine Nat.le_trans (Nat.mul_le_mul_right _ ?_) hcsl
          simp
          omega
        · have old : (i < off ∨ off + len ≤ i) → blk.rows[i]? = some row → ∃ y, c'[i * sz + j]? = some y ∧ R P (inR blk.box ρ) S w' x y := by
           intro hi e
           obtain ⟨y, hy, hr⟩ := hcell i row j x e e2
           have hj : j < sz := by rw [← (hbr.rows _ _ e).1]; exact (List.getElem?_eq_some_iff.1 e2).1
           refine ⟨y, ?_, hr.mono (fun _ _ h => h) (fun _ h => h) hext⟩
           rw [hg, if_neg]
           · exact hy
           · rcases hi with hi | hi
             · have : (i + 1) * sz ≤ off * sz := Nat.mul_le_mul_right _ hi
               rw [Nat.add_mul] at this
               omega
             · have : (off + len) * sz ≤ i * sz := Nat.mul_le_mul_right _ hi
               rw [Nat.add_mul] at this
               omega
          rcases hrows i row e1 with ⟨h1, e⟩ | ⟨h1, h2, rfl⟩ | ⟨h1, e⟩
          · exact old (.inl h1) e
          · have hj : j < row.length := (List.getElem?_eq_some_iff.1 e2).1
            have hzc : j < z.cells.size := by omega
            refine ⟨z.cells[j], ?_, (r0.at_ j x _ e2 (by simp [hzc])).mono (fun _ _ h => h) (fun _ h => h) hext⟩
            have hin : off * sz ≤ i * sz + j ∧ i * sz + j < off * sz + news.length := by
             have h3 : off * sz ≤ i * sz := Nat.mul_le_mul_right _ h1
             have h4 : (i + 1) * sz ≤ (off + len) * sz := Nat.mul_le_mul_right _ h2
             rw [Nat.add_mul, Nat.add_mul] at h4
             rw [hnl]
             omega
            rw [hg, if_pos hin]
            have h5 : i * sz + j - off * sz = (i - off) * sz + j := by
             rw [Nat.sub_mul]
             have h3 : off * sz ≤ i * sz := Nat.mul_le_mul_right _ h1
             omega
            rw [h5]
            have h6 := Z2g z.cells len (i - off) j hzc (by omega)
            simp only [news, Array.getElem?_toList]
            have h7 : z.cells.size = sz := by omega
            rw [h7] at h6 ⊢
            rw [h6, Array.getElem?_eq_getElem hzc]
          · exact old (.inr h1) e
       have H2 := H.put hblk hb hext (by rw [hw.size]; exact Nat.le_refl _) (fun q hq _ => hw.other q hq) hB2
       refine ⟨w', hrun, ?_, ⟨ρ, S, ⟨fun _ _ h => h, fun _ h => h, hext, hw.below hbr.base, fun q hq hn => hq, fun _ h => .inl h⟩, ?_, .und⟩⟩
       · subst eq1; rfl
       · subst eq1; exact H2
     | nil ty'' b' ex' hb =>
       have hblk0 : blk.rows = [] := by
        rcases H.at_ b blk hblk with ⟨k, sz, h', _⟩ | ⟨_, h', _⟩
        · rw [hb] at h'; cases h'
        · exact h'
       have hrun : (Builtin.clear_ #[t] ty #[.slice none 0 0]).run P w = .ok (.tuple #[]) w := by simp [Builtin.clear_, run_underlying hu]
       refine ⟨w, hrun, ?_, ⟨ρ, S, Mv.refl _ _ _ _ _, ?_, .und⟩⟩
       · subst eq1; rfl
       · subst eq1
         have : upd σ.h b (some { blk with rows := blk.rows.take 0 ++ List.replicate 0 zs ++ blk.rows.drop (0 + 0) }) = σ.h := by
          funext q
          unfold upd
          split
          · rename_i hq; subst hq; rw [hblk]; cases blk; simp_all
          · rfl
         rw [this]
         exact H
   · cases eq1
 · cases eq
end Go.Vm
set_option linter.unusedVariables false
set_option linter.unusedSimpArgs false
namespace Go.Vm
open Go.RowKit
variable {P : Program} {ρ ρ' ρ'' : Rho} {S S' S'' : Nat → Prop} {w w' w'' : World} {B : Nat} {h : Hp}
def noHp : Hp := fun _ => none
def Res (P : Program) (S : Nat → Prop) (w : World) (rs : List A) (v : Value) (w' : World) : Prop :=
 ∃ S', (∀ k, S k → S' k) ∧ (∀ k, S' k → S k ∨ w.heap.size ≤ k) ∧ Below w.heap.size w w' ∧ Ext S w w' ∧
  ∀ n, ∃ ρr, (∀ b, ¬ span n (Y9 rs) b → ρr b = none) ∧ HR P ρr S' w' w.heap.size (Zz noHp n rs).2 ∧ R P ρr S' w' (pack (Zz noHp n rs).1) v
def Z5i (P : Program) (F : List A → Option (List A)) (f : Nat) : Prop :=
 ∀ (S : Nat → Prop) (w : World) (as rs : List A) (xs : List Value), F as = some rs → (∀ k, S k → k < w.heap.size) → GlobOk P S w → RL P Yg S w as xs →
  Calls P f xs.toArray w fun | .returned v, w' => Res P S w rs v w' | _, _ => False
def over (h g : Hp) : Hp := fun b => match g b with | some k => some k | none => h b
theorem Zoz (h g : Hp) (b : Nat) (k : Blk) : upd (over h g) b (some k) = over h (upd g b (some k)) := by
 funext i
 unfold upd over
 by_cases hi : i = b <;> simp [hi]
theorem Z4z : ∀ (as : List A) (h g : Hp) (n : Nat), (Zs (over h g) n as).1 = (Zs g n as).1 ∧ (Zs (over h g) n as).2 = over h (Zs g n as).2
 | [], h, g, n => ⟨rfl, rfl⟩
 | a :: as, h, g, n => by
   cases a with
   | olit ty rows =>
     obtain ⟨e1, e2⟩ := Z4z as h (upd g n (some ⟨ty, rows, true, false⟩)) (n + 1)
     simp only [Zs, Zoz, e1, e2]
     exact ⟨trivial, trivial⟩
   | _ =>
     obtain ⟨e1, e2⟩ := Z4z as h g n
     simp only [Zs, e1, e2]
     exact ⟨trivial, trivial⟩
theorem Zet (a : A) (h g : Hp) (n : Nat) : (Z1x (over h g) n a).1 = (Z1x g n a).1 ∧ (Z1x (over h g) n a).2 = over h (Z1x g n a).2 := by
 cases a with
 | olit ty rows =>
   simp only [Z1x, Zoz]
   exact ⟨trivial, trivial⟩
 | agg cs =>
   obtain ⟨e1, e2⟩ := Z4z cs h g n
   simp only [Z1x, e1, e2]
   exact ⟨trivial, trivial⟩
 | _ => exact ⟨rfl, rfl⟩
theorem Z6z : ∀ (as : List A) (h g : Hp) (n : Nat), (Zz (over h g) n as).1 = (Zz g n as).1 ∧ (Zz (over h g) n as).2 = over h (Zz g n as).2
 | [], h, g, n => ⟨rfl, rfl⟩
 | a :: as, h, g, n => by
   simp only [Zz]
   rw [(Zet a h g n).1, (Zet a h g n).2, (Z6z as h _ _).1, (Z6z as h _ _).2]
   exact ⟨rfl, rfl⟩
theorem Y06 (h : Hp) : over h noHp = h := by funext b; rfl
theorem Z1z (as : List A) (h : Hp) (n : Nat) : (Zz h n as).1 = (Zz noHp n as).1 ∧ (Zz h n as).2 = over h (Zz noHp n as).2 := by
 have := Z6z as h noHp n
 rw [Y06] at this
 exact this
def Z51 (ρ ρr : Rho) : Rho := fun b => match ρr b with | some l => some l | none => ρ b
theorem Z4d (ρ ρr : Rho) : Rho.le ρr (Z51 ρ ρr) := fun b l e => by simp [Z51, e]
theorem Z69 {ρ ρr : Rho} (hd : ∀ b, ρr b ≠ none → ρ b = none) : Rho.le ρ (Z51 ρ ρr) := fun b l e => by
 unfold Z51
 cases hr : ρr b with
 | none => exact e
 | some l' => rw [hd b (by rw [hr]; simp)] at e; cases e
theorem HR.known (H : HR P ρ S w B h) {b : Nat} {blk : Blk} (e : h b = some blk) : ρ b ≠ none := by
 rcases H.at_ b blk e with ⟨k, sz, hb, _⟩ | ⟨hb, _⟩ <;> rw [hb] <;> simp
theorem HR.merge {g : Hp} {M : Nat} {ρr : Rho} (H : HR P ρ S w B h) (G : HR P ρr S w M g) (hB : B ≤ M) (hlt : ∀ b blk k sz, h b = some blk → ρ b = some (some (k, sz)) → k < M)
 (hd : ∀ b, ρr b ≠ none → ρ b = none) : HR P (Z51 ρ ρr) S w B (over h g) := by
 have l1 := Z69 hd
 have l2 := Z4d ρ ρr
 have aux : ∀ b blk, over h g b = some blk → (g b = some blk) ∨ (h b = some blk ∧ ρr b = none) := by
  intro b blk e
  unfold over at e
  cases hg : g b with
  | some k => rw [hg] at e; exact .inl e
  | none =>
    rw [hg] at e
    refine .inr ⟨e, ?_⟩
    cases hr : ρr b with
    | none => rfl
    | some l => exact absurd (hd b (by rw [hr]; simp)) (H.known e)
 have at1 : ∀ b, ρr b = none → Z51 ρ ρr b = ρ b := fun b e => by simp [Z51, e]
 have at2 : ∀ b blk k sz, g b = some blk → Z51 ρ ρr b = some (some (k, sz)) → ρr b = some (some (k, sz)) := by
  intro b blk k sz e e'
  cases hr : ρr b with
  | none => exact absurd hr (G.known e)
  | some l => rw [l2 b l hr] at e'; exact e'
 have mono : ∀ {ρ0 : Rho} {M0 k sz : Nat} {blk : Blk}, Rho.le ρ0 (Z51 ρ ρr) → B ≤ M0 → BR P ρ0 S w M0 blk k sz → BR P (Z51 ρ ρr) S w B blk k sz := by
  intro ρ0 M0 k sz blk hle hM b
  have := b.mono hle (fun _ h => h) (Ext.refl S w) (fun h => h) rfl
  exact ⟨this.sz_eq, Nat.le_trans hM this.base, this.own, this.not_own, this.rows, this.heap⟩
 refine ⟨fun b blk e => ?_, fun b b' k sz sz' blk blk' e1 e2 e3 e4 => ?_, H.old, H.glob⟩
 · rcases aux b blk e with e | ⟨e, hr⟩
   · rcases G.at_ b blk e with ⟨k, sz, hb, hb'⟩ | ⟨hb, hv⟩
     · exact .inl ⟨k, sz, l2 _ _ hb, mono l2 hB hb'⟩
     · exact .inr ⟨l2 _ _ hb, hv⟩
   · rcases H.at_ b blk e with ⟨k, sz, hb, hb'⟩ | ⟨hb, hv⟩
     · exact .inl ⟨k, sz, l1 _ _ hb, mono l1 (Nat.le_refl _) hb'⟩
     · exact .inr ⟨l1 _ _ hb, hv⟩
 · have big : ∀ b blk k sz, g b = some blk → ρr b = some (some (k, sz)) → M ≤ k := fun b blk k sz e e' => (G.at_of e e').base
   rcases aux b blk e1 with q1 | ⟨q1, r1⟩ <;> rcases aux b' blk' e2 with q2 | ⟨q2, r2⟩
   · exact G.inj b b' k sz sz' blk blk' q1 q2 (at2 _ _ _ _ q1 e3) (at2 _ _ _ _ q2 e4)
   · have h1 := big _ _ _ _ q1 (at2 _ _ _ _ q1 e3)
     rw [at1 _ r2] at e4
     have h2 := hlt _ _ _ _ q2 e4
     omega
   · have h1 := big _ _ _ _ q2 (at2 _ _ _ _ q2 e4)
     rw [at1 _ r1] at e3
     have h2 := hlt _ _ _ _ q1 e3
     omega
   · rw [at1 _ r1] at e3
     rw [at1 _ r2] at e4
     exact H.inj b b' k sz sz' blk blk' q1 q2 e3 e4
end Go.Vm
set_option linter.unusedVariables false
set_option linter.unusedSimpArgs false
namespace Go.Vm
open Go.RowKit
variable {P : Program} {ρ ρ' ρ'' : Rho} {S S' S'' : Nat → Prop} {w w' w'' : World} {B : Nat} {h : Hp}
theorem HR.monoS (H : HR P ρ S w B h) (hext : Ext S w w') (hsub : ∀ k, S k → S' k) (hback : ∀ k, k < w.heap.size → S' k → S k) (hlt : ∀ k, S' k → k < w'.heap.size)
 (hsame : ∀ k, k < w.heap.size → w'.heap[k]? = w.heap[k]?) : HR P ρ S' w' B h := by
 refine ⟨fun b blk e => ?_, H.inj, hlt, H.glob.mono hsub hext⟩
 rcases H.at_ b blk e with ⟨k, sz, hb, hB⟩ | ⟨hb, r⟩
 · exact .inl ⟨k, sz, hb, hB.mono (fun _ _ h => h) hsub hext (hback k (H.lt e hb)) (hsame k (H.lt e hb))⟩
 · exact .inr ⟨hb, r⟩
def flat1 : A → Bool
 | .v _ => true
 | .ref _ _ _ _ _ _ => true
 | _ => false
def flat : A → Bool
 | .agg cs => cs.all flat1
 | a => flat1 a
theorem R.flat1 {a : A} {x : Value} (e : flat1 a = true) (r : R P ρ S w a x) : R P ρ S' w a x := by
 cases r with
 | v x h => exact .v x h
 | ref ty b off len cap ex k sz c ad h1 h2 h3 h4 h5 h6 h7 => exact .ref ty b off len cap ex k sz c ad h1 h2 h3 h4 h5 h6 h7
 | nil ty b ex h1 => exact .nil ty b ex h1
 | _ => simp [Vm.flat1] at e
theorem R.flat {a : A} {x : Value} (e : flat a = true) (r : R P ρ S w a x) : R P ρ S' w a x := by
 cases a with
 | agg cs =>
   cases r with
   | agg cs vs hl hr => exact .agg cs vs hl (fun i x y h1 h2 => (hr i x y h1 h2).flat1 (List.all_eq_true.1 e x (List.mem_of_getElem? h1)))
 | _ => exact r.flat1 e
def Fresh (g g' : Hp) : Prop := ∀ b blk, g' b = some blk → g b = some blk ∨ (blk.own = true ∧ W9 blk.rows = false)
theorem Fresh.refl (g : Hp) : Fresh g g := fun b blk e => .inl e
theorem Fresh.upd {g g' : Hp} {n ty : Nat} {rows : List (List A)} (f : Fresh (upd g n (some ⟨ty, rows, true, false⟩)) g') (h : W9 rows = false) : Fresh g g' := by
 intro b blk e
 rcases f b blk e with e | e
 · unfold Vm.upd at e
   split at e
   · simp only [Option.some.injEq] at e; subst e; exact .inr ⟨rfl, h⟩
   · exact .inl e
 · exact .inr e
theorem Fresh.trans {g g' g'' : Hp} (a : Fresh g g') (b : Fresh g' g'') : Fresh g g'' := by
 intro i blk e
 rcases b i blk e with e | e
 · exact a i blk e
 · exact .inr e
theorem Z55 : ∀ (cs : List A) (g : Hp) (n : Nat), Zk2 cs = false → (Zs g n cs).1.all flat1 = true ∧ Fresh g (Zs g n cs).2
 | [], g, n, _ => ⟨rfl, Fresh.refl g⟩
 | c :: cs, g, n, e => by
   simp only [Zk2, Bool.or_eq_false_iff] at e
   cases c with
   | olit ty rows =>
     obtain ⟨e1, e2⟩ := Z55 cs (upd g n (some ⟨ty, rows, true, false⟩)) (n + 1) e.2
     exact ⟨by simp only [Zs, List.all_cons, e1]; rfl, Fresh.upd e2 e.1⟩
   | v x =>
     obtain ⟨e1, e2⟩ := Z55 cs g n e.2
     exact ⟨by simp only [Zs, List.all_cons, e1]; rfl, e2⟩
   | _ => exact absurd e.1 (by simp [Zq2])
theorem Z7d : ∀ (rs : List A) (g : Hp) (n : Nat), Z4m rs = false → (∀ a ∈ (Zz g n rs).1, flat a = true) ∧ Fresh g (Zz g n rs).2
 | [], g, n, _ => ⟨fun a h => by simp [Zz] at h, Fresh.refl g⟩
 | a :: rs, g, n, e => by
   have one : Z4m rs = false ∧ flat (Z1x g n a).1 = true ∧ Fresh g (Z1x g n a).2 := by
    cases a with
    | agg cs =>
      simp only [Z4m, Bool.or_eq_false_iff] at e
      obtain ⟨e1, e2⟩ := Z55 cs g n e.1
      exact ⟨e.2, e1, e2⟩
    | olit ty rows =>
      simp only [Z4m, Bool.or_eq_false_iff] at e
      exact ⟨e.2, rfl, Fresh.upd (Fresh.refl _) e.1⟩
    | v x =>
      simp only [Z4m, Bool.or_eq_false_iff] at e
      exact ⟨e.2, rfl, Fresh.refl g⟩
    | _ => simp [Z4m, Zq2] at e
   obtain ⟨e1, e2⟩ := Z7d rs (Z1x g n a).2 (n + Z4o a) one.1
   refine ⟨fun c hc => ?_, one.2.2.trans e2⟩
   simp only [Zz, List.mem_cons] at hc
   rcases hc with rfl | hc
   · exact one.2.1
   · exact e1 c hc
end Go.Vm
set_option linter.unusedVariables false
set_option linter.unusedSimpArgs false
namespace Go.Vm
open Go.RowKit
variable {P : Program} {ρ ρ' ρ'' : Rho} {S S' S'' : Nat → Prop} {w w' w'' : World} {B : Nat} {h : Hp}
theorem Zth : ∀ {row : List A}, Zi4 row = false → ∀ x ∈ row, notV x = false
 | [], _, x, hx => by simp at hx
 | a :: as, e, x, hx => by
   simp only [Zi4, Bool.or_eq_false_iff] at e
   rcases List.mem_cons.1 hx with rfl | hx
   · exact e.1
   · exact Zth e.2 x hx
theorem Znz : ∀ {rows : List (List A)}, W9 rows = false → ∀ row ∈ rows, ∀ x ∈ row, notV x = false
 | [], _, r, hr => by simp at hr
 | a :: as, e, r, hr => by
   simp only [W9, Bool.or_eq_false_iff] at e
   rcases List.mem_cons.1 hr with rfl | hr
   · exact Zth e.1
   · exact Znz e.2 r hr
theorem HR.flatS {g : Hp} {M : Nat} (G : HR P ρ S' w M g) (hf : Fresh noHp g) (hS : ∀ k, S k → k < M) (hM : M ≤ w.heap.size) (hG : GlobOk P S w) : HR P ρ S w M g := by
 refine ⟨fun b blk e => ?_, G.inj, fun k hk => Nat.lt_of_lt_of_le (hS k hk) hM, hG⟩
 have hb : blk.own = true ∧ W9 blk.rows = false := by
  rcases hf b blk e with e | e
  · cases e
  · exact e
 rcases G.at_ b blk e with ⟨k, sz, h1, hB⟩ | ⟨h1, r⟩
 · refine .inl ⟨k, sz, h1, ⟨hB.sz_eq, hB.base, fun _ hs => (by have := hS k hs; have := hB.base; omega), fun hq => absurd (hb.1.symm.trans hq) (by simp), hB.rows, ?_⟩⟩
   obtain ⟨c, hc, hs, hcell⟩ := hB.heap
   refine ⟨c, hc, hs, fun i row j x e1 e2 => ?_⟩
   obtain ⟨y, hy, hr⟩ := hcell i row j x e1 e2
   have hv := Znz hb.2 row (List.mem_of_getElem? e1) x (List.mem_of_getElem? e2)
   refine ⟨y, hy, ?_⟩
   cases x with
   | v z => exact hr.flat1 rfl
   | _ => simp [notV] at hv
 · exact .inr ⟨h1, r⟩
theorem R.flats {as : List A} {v : Value} (e : ∀ a ∈ as, Vm.flat a = true) (r : R P ρ S w (pack as) v) : R P ρ S' w (pack as) v := by
 have tup : ∀ as : List A, (∀ a ∈ as, Vm.flat a = true) → R P ρ S w (.tup as) v → R P ρ S' w (.tup as) v := by
  intro as e r
  cases r with
  | tup cs vs hl hr => exact .tup as vs hl (fun i x y h1 h2 => (hr i x y h1 h2).flat (e x (List.mem_of_getElem? h1)))
 match as, e, r with
 | [], e, r => exact tup [] e r
 | [a], e, r => exact R.flat (e a (by simp)) r
 | a :: b :: as, e, r => exact tup _ e r
theorem Zun (H : HR P ρ S w B h) (hB : B ≤ w.heap.size) {as rs : List A} {n : Nat} {v : Value} (hf : ∀ b, span n (Y9 rs) b → ρ b = none)
 (hres : Res P (Xv ρ S h (Xa h as)) w rs v w') :
 Eff P B ρ S w (span n (Y9 rs)) (Zz (aft h as rs) n rs).2 (pack (Zz (aft h as rs) n rs).1) v w' := by
 obtain ⟨S', hsub, hback, hbelow, hext, hall⟩ := hres
 obtain ⟨ρr, hout, G, hr⟩ := hall n
 have hd : ∀ b, ρr b ≠ none → ρ b = none := fun b hb => by
  by_cases hs : span n (Y9 rs) b
  · exact hf b hs
  · exact absurd (hout b hs) hb
 have hnew : ∀ b, ρ b = none → ¬ span n (Y9 rs) b → Z51 ρ ρr b = none := fun b h1 h2 => by simp [Z51, hout b h2, h1]
 have hext0 : Ext S w w' := ⟨fun k hk => hext.same k (.inl hk), hext.size, hext.maps⟩
 have hsame : ∀ k, k < w.heap.size → w'.heap[k]? = w.heap[k]? := fun k hk => hbelow.block k hk
 rw [(Z1z rs (aft h as rs) n).1, (Z1z rs (aft h as rs) n).2]
 unfold aft
 split
 · -- the arguments' rows stand fast from now on
   have H1 := H.freeze (Xa h as)
   have H2 := H1.monoS (S' := S') (w' := w') hext hsub (fun k hk hs => by rcases hback k hs with h' | h'; exact h'; omega) G.old hsame
   have H3 := H2.merge G hB (fun b blk k sz e e' => H1.lt e e') hd
   exact ⟨Z51 ρ ρr, S', ⟨Z69 hd, fun k hk => hsub k (.inl hk), hext0, hbelow.mono hB, hnew, fun k hk => by
    rcases hback k hk with h' | h'
    · exact (Z46 H (Xa h as) (fun _ => False)).back k h'
    · exact .inr (by omega)⟩, H3, hr.mono (Z4d ρ ρr) (fun _ h => h) (Ext.refl _ _)⟩
 · rename_i hflat
   have hflat : Z4m rs = false := by simpa using hflat
   obtain ⟨f1, f2⟩ := Z7d rs noHp n hflat
   have G' := G.flatS (S := S) f2 H.old hbelow.size (H.glob.mono (fun _ h => h) hext0)
   have H2 := H.monoS (S' := S) (w' := w') hext0 (fun _ h => h) (fun k _ hs => hs) (fun k hk => Nat.lt_of_lt_of_le (H.old k hk) hbelow.size) hsame
   have H3 := H2.merge G' hB (fun b blk k sz e e' => H.lt e e') hd
   exact ⟨Z51 ρ ρr, S, ⟨Z69 hd, fun k hk => hk, hext0, hbelow.mono hB, hnew, fun _ h => .inl h⟩, H3, (hr.flats f1).mono (Z4d ρ ρr) (fun _ h => h) (Ext.refl _ _)⟩
end Go.Vm
set_option linter.unusedVariables false
set_option linter.unusedSimpArgs false
namespace Go.Vm
open Go.RowKit
variable {P : Program} {ρ ρ' ρ'' : Rho} {S S' S'' : Nat → Prop} {w w' w'' : World} {B : Nat} {h : Hp}
structure Outs (h : Hp) (seen seen' : List Nat) (k : Nat) (O L : List Nat) : Prop where
 len : O.length = k
 nodup : O.Nodup
 apart : ∀ b ∈ O, b ∉ L
 newO : ∀ b ∈ O, b ∉ seen
 newL : ∀ b ∈ L, b ∉ seen
 seenO : ∀ b ∈ O, b ∈ seen'
 seenL : ∀ b ∈ L, b ∈ seen'
 keep : ∀ b ∈ seen, b ∈ seen'
 own : ∀ b ∈ O, ∃ blk, h b = some blk ∧ blk.own = true ∧ blk.box = false
def laid (h g : Hp) (n : Nat) (O : List Nat) : Hp := fun x => if n ≤ x then (match O[x - n]? with | some b => h b | none => g x) else g x
theorem Outs.none_ (seen : List Nat) : Outs h seen seen 0 [] [] :=
 ⟨rfl, List.nodup_nil, fun b hb => by simp at hb, fun b hb => by simp at hb, fun b hb => by simp at hb, fun b hb => by simp at hb, fun b hb => by simp at hb, fun b hb => hb, fun b hb => by simp at hb⟩
theorem Outs.append {s1 s2 s3 : List Nat} {k1 k2 : Nat} {O1 O2 L1 L2 : List Nat} (a : Outs h s1 s2 k1 O1 L1) (b : Outs h s2 s3 k2 O2 L2) : Outs h s1 s3 (k1 + k2) (O1 ++ O2) (L1 ++ L2) := by
 refine ⟨by simp [a.len, b.len], ?_, ?_, ?_, ?_, ?_, ?_, fun x hx => b.keep x (a.keep x hx), ?_⟩
 · rw [List.nodup_append]
   exact ⟨a.nodup, b.nodup, fun x hx y hy e => b.newO y hy (e ▸ a.seenO x hx)⟩
 · intro x hx hl
   rcases List.mem_append.1 hx with hx | hx <;> rcases List.mem_append.1 hl with hl | hl
   · exact a.apart x hx hl
   · exact b.newL x hl (a.seenO x hx)
   · exact b.newO x hx (a.seenL x hl)
   · exact b.apart x hx hl
 · intro x hx
   rcases List.mem_append.1 hx with hx | hx
   · exact a.newO x hx
   · exact fun hs => b.newO x hx (a.keep x hs)
 · intro x hx
   rcases List.mem_append.1 hx with hx | hx
   · exact a.newL x hx
   · exact fun hs => b.newL x hx (a.keep x hs)
 · intro x hx
   rcases List.mem_append.1 hx with hx | hx
   · exact b.keep x (a.seenO x hx)
   · exact b.seenO x hx
 · intro x hx
   rcases List.mem_append.1 hx with hx | hx
   · exact b.keep x (a.seenL x hx)
   · exact b.seenL x hx
 · intro x hx
   rcases List.mem_append.1 hx with hx | hx
   · exact a.own x hx
   · exact b.own x hx
theorem Zab (H : HR P ρ S w B h) {seen seen' : List Nat} {a r : A} {x : Value} (e : Z3s h seen a = some (seen', r)) (ra : R P ρ S w a x) :
 ∃ O L, Outs h seen seen' (Z4w [r]) O L ∧ ∀ (S' : Nat → Prop), (∀ k, S k → S' k) → Fast ρ h L S' → ∀ (g : Hp) (n : Nat) (ρr : Rho), (∀ i b, O[i]? = some b → ρr (n + i) = ρ b) →
  RL P ρr S' w (Zs g n [r]).1 [x] ∧ ∀ b, (Zs g n [r]).2 b = laid h g n O b := by
 cases ra with
 | v x hx =>
   simp only [Z3s, Option.some.injEq, Prod.mk.injEq] at e
   obtain ⟨rfl, rfl⟩ := e
   exact ⟨[], [], Outs.none_ _, fun S' hS hF g n ρr hρ => ⟨.cons (.v x hx) .nil, fun b => by simp [Zs, laid]⟩⟩
 | lit ty rows a cap Y hcap hl hc hr =>
   simp only [Z3s, Option.some.injEq, Prod.mk.injEq] at e
   obtain ⟨rfl, rfl⟩ := e
   refine ⟨[], [], Outs.none_ _, fun S' hS hF g n ρr hρ => ⟨.cons ?_ .nil, fun b => by simp [Zs, laid]⟩⟩
   exact ((R.lit ty rows a cap Y hcap hl hc hr : R P Yg S w _ _)).mono (Zhk _) hS (Ext.refl _ _)
 | ref ty b off len cap ex k sz c ad hb hty hcap hex ha hlen hk =>
   have ra : R P ρ S w (.ref ty b off len cap ex) (.slice ad len c) := .ref ty b off len cap ex k sz c ad hb hty hcap hex ha hlen hk
   obtain ⟨blk, hblk, e1⟩ := Z3 e
   clear e
   split at e1
   · cases e1
   · rename_i hno
     simp only [not_or, Bool.not_eq_true] at hno
     obtain ⟨hseen, hbox, hle⟩ := hno
     split at e1
     · rename_i hw
       obtain ⟨hown, rfl, rfl⟩ := hw
       simp only [Option.some.injEq, Prod.mk.injEq] at e1
       obtain ⟨rfl, rfl⟩ := e1
       have hB := H.at_of hblk hb
       refine ⟨[b], [], ⟨rfl, by simp, fun x hx => by simp, fun x hx => by simp at hx; subst hx; exact hseen, fun x hx => by simp at hx, fun x hx => by simp at hx; subst hx; exact List.mem_cons_self, fun x hx => by simp at hx, fun x hx => List.mem_cons_of_mem _ hx, fun x hx => by simp at hx; subst hx; exact ⟨blk, hblk, hown, hbox⟩⟩, fun S' hS hF g n ρr hρ => ⟨.cons ?_ .nil, fun x => ?_⟩⟩
       · have hρ0 : ρr n = some (some (k, sz)) := by have := hρ 0 b rfl; rw [Nat.add_zero] at this; rw [this, hb]
         obtain ⟨cs, t, hcs, hsz⟩ := hk
         exact .ref blk.ty n 0 blk.rows.length blk.rows.length false k sz c ad hρ0 hB.sz_eq hlen (fun h => by cases h) ha hlen ⟨cs, t, hcs, hsz⟩
       · simp only [Zs, upd, laid]
         by_cases hx : x = n
         · subst hx
           have : blk = ⟨blk.ty, blk.rows, true, false⟩ := by cases blk; simp_all
           simp [hblk]
           rw [← this]
         · rw [if_neg hx]
           by_cases hn : n ≤ x
           · rw [if_pos hn]
             have : ([b] : List Nat)[x - n]? = none := List.getElem?_eq_none (by simp; omega)
             rw [this]
           · rw [if_neg hn]
     · simp only [Option.some.injEq, Prod.mk.injEq] at e1
       obtain ⟨rfl, rfl⟩ := e1
       refine ⟨[], [b], ⟨rfl, by simp, fun x hx => by simp at hx, fun x hx => by simp at hx, fun x hx => by simp at hx; subst hx; exact hseen, fun x hx => by simp at hx, fun x hx => by simp at hx; subst hx; exact List.mem_cons_self, fun x hx => List.mem_cons_of_mem _ hx, fun x hx => by simp at hx⟩, fun S' hS hF g n ρr hρ => ⟨.cons ?_ .nil, fun x => by simp [Zs, laid]⟩⟩
       have hcl : W8 h (.ref ty b off len cap ex) = some (.lit blk.ty ((blk.rows.drop off).take len)) := by
        simp only [W8, hblk, bnd]
        rw [if_pos ⟨hbox, by omega⟩]
       exact (Z6e H hcl ra hS hF).up
 | nil ty b ex hb =>
   have ra : R P ρ S w (.ref ty b 0 0 0 ex) (.slice none 0 0) := .nil ty b ex hb
   obtain ⟨blk, hblk, e1⟩ := Z3 e
   clear e
   split at e1
   · cases e1
   · rename_i hno
     simp only [not_or, Bool.not_eq_true] at hno
     obtain ⟨hseen, hbox, hle⟩ := hno
     split at e1
     · rename_i hw
       obtain ⟨hown, _, hl0⟩ := hw
       simp only [Option.some.injEq, Prod.mk.injEq] at e1
       obtain ⟨rfl, rfl⟩ := e1
       have hr0 : blk.rows = [] := List.eq_nil_of_length_eq_zero hl0.symm
       refine ⟨[b], [], ⟨rfl, by simp, fun x hx => by simp, fun x hx => by simp at hx; subst hx; exact hseen, fun x hx => by simp at hx, fun x hx => by simp at hx; subst hx; exact List.mem_cons_self, fun x hx => by simp at hx, fun x hx => List.mem_cons_of_mem _ hx, fun x hx => by simp at hx; subst hx; exact ⟨blk, hblk, hown, hbox⟩⟩, fun S' hS hF g n ρr hρ => ⟨.cons ?_ .nil, fun x => ?_⟩⟩
       · have hρ0 : ρr n = some none := by have := hρ 0 b rfl; rw [Nat.add_zero] at this; rw [this, hb]
         rw [hr0]
         exact .nil blk.ty n false hρ0
       · simp only [Zs, upd, laid]
         by_cases hx : x = n
         · subst hx
           have : blk = ⟨blk.ty, blk.rows, true, false⟩ := by cases blk; simp_all
           simp [hblk]
           rw [← this]
         · rw [if_neg hx]
           by_cases hn : n ≤ x
           · rw [if_pos hn]
             have : ([b] : List Nat)[x - n]? = none := List.getElem?_eq_none (by simp; omega)
             rw [this]
           · rw [if_neg hn]
     · simp only [Option.some.injEq, Prod.mk.injEq] at e1
       obtain ⟨rfl, rfl⟩ := e1
       refine ⟨[], [b], ⟨rfl, by simp, fun x hx => by simp at hx, fun x hx => by simp at hx, fun x hx => by simp at hx; subst hx; exact hseen, fun x hx => by simp at hx, fun x hx => by simp at hx; subst hx; exact List.mem_cons_self, fun x hx => List.mem_cons_of_mem _ hx, fun x hx => by simp at hx⟩, fun S' hS hF g n ρr hρ => ⟨.cons ?_ .nil, fun x => by simp [Zs, laid]⟩⟩
       have hcl : W8 h (.ref ty b 0 0 0 ex) = some (.lit blk.ty ((blk.rows.drop 0).take 0)) := by
        simp only [W8, hblk, bnd]
        rw [if_pos ⟨hbox, by omega⟩]
       exact (Z6e H hcl ra hS hF).up
 | _ => simp [Z3s] at e
end Go.Vm
set_option linter.unusedVariables false
set_option linter.unusedSimpArgs false
namespace Go.Vm
open Go.RowKit
variable {P : Program} {ρ ρ' ρ'' : Rho} {S S' S'' : Nat → Prop} {w w' w'' : World} {B : Nat} {h : Hp}
theorem Zic (g : Hp) (n : Nat) (r : A) (rs : List A) : Zs g n (r :: rs) = ((Zs g n [r]).1 ++ (Zs (Zs g n [r]).2 (n + Z4w [r]) rs).1, (Zs (Zs g n [r]).2 (n + Z4w [r]) rs).2) := by
 cases r <;> simp [Zs, Z4w]
theorem Zpb (r : A) (rs : List A) : Z4w (r :: rs) = Z4w [r] + Z4w rs := by
 cases r <;> simp [Z4w, Nat.add_comm]
theorem Zn0 (h g : Hp) (n : Nat) (O1 O2 : List Nat) : laid h (laid h g n O1) (n + O1.length) O2 = laid h g n (O1 ++ O2) := by
 funext x
 unfold laid
 by_cases h1 : n ≤ x
 · simp only [if_pos h1]
   by_cases h2 : n + O1.length ≤ x
   · rw [if_pos h2, List.getElem?_append_right (by omega), List.getElem?_eq_none (l := O1) (by omega), show x - n - O1.length = x - (n + O1.length) by omega]
   · rw [if_neg h2, List.getElem?_append_left (by omega)]
 · simp only [if_neg h1]
   rw [if_neg (by omega)]
theorem Zoa (h g : Hp) (n : Nat) : laid h g n [] = g := by funext x; simp [laid]
def Given (P : Program) (ρ : Rho) (S : Nat → Prop) (w : World) (h : Hp) (O L : List Nat) (out : Hp → Nat → List A × Hp) (vs : List Value) : Prop :=
 ∀ (S' : Nat → Prop), (∀ k, S k → S' k) → Fast ρ h L S' → ∀ (g : Hp) (n : Nat) (ρr : Rho), (∀ i b, O[i]? = some b → ρr (n + i) = ρ b) → RL P ρr S' w (out g n).1 vs ∧ (out g n).2 = laid h g n O
theorem Given.append {O1 O2 L1 L2 : List Nat} {k : Nat} {o1 o2 : Hp → Nat → List A × Hp} {vs us : List Value} (hk : O1.length = k) (a : Given P ρ S w h O1 L1 o1 vs) (b : Given P ρ S w h O2 L2 o2 us) :
 Given P ρ S w h (O1 ++ O2) (L1 ++ L2) (fun g n => ((o1 g n).1 ++ (o2 (o1 g n).2 (n + k)).1, (o2 (o1 g n).2 (n + k)).2)) (vs ++ us) := by
 intro S' hS hF g n ρr hρ
 obtain ⟨a1, a2⟩ := a S' hS hF.left g n ρr (fun i b hb => hρ i b (by rw [List.getElem?_append_left (List.getElem?_eq_some_iff.1 hb).1]; exact hb))
 obtain ⟨b1, b2⟩ := b S' hS hF.right (o1 g n).2 (n + k) ρr (fun i b hb => by
  have := hρ (k + i) b (by rw [List.getElem?_append_right (by omega), ← hb]; congr 1; omega)
  rw [← this, Nat.add_assoc])
 refine ⟨a1.append b1, ?_⟩
 show (o2 (o1 g n).2 (n + k)).2 = _
 rw [b2, a2, ← hk, Zn0]
theorem Z7m (H : HR P ρ S w B h) : ∀ {as rs : List A} {vs : List Value} {seen seen' : List Nat}, Zb5 h seen as = some (seen', rs) → RL P ρ S w as vs →
 ∃ O L, Outs h seen seen' (Z4w rs) O L ∧ Given P ρ S w h O L (fun g n => Zs g n rs) vs
 | [], rs, vs, seen, seen', e, r => by
   simp only [Zb5, Option.some.injEq, Prod.mk.injEq] at e
   obtain ⟨rfl, rfl⟩ := e
   rw [r.inv_nil]
   exact ⟨[], [], Outs.none_ _, fun S' hS hF g n ρr hρ => ⟨.nil, (Zoa h g n).symm⟩⟩
 | a :: as, rs, vs, seen, seen', e, r => by
   obtain ⟨⟨s1, r1⟩, h1, e1⟩ := Z3 e
   obtain ⟨⟨s2, r2⟩, h2, e2⟩ := Z3 e1
   simp only [Option.some.injEq, Prod.mk.injEq] at e2
   obtain ⟨rfl, rfl⟩ := e2
   obtain ⟨x, xs, rfl, q1, q2⟩ := r.inv_cons
   obtain ⟨O1, L1, u1, g1⟩ := Zab H h1 q1
   obtain ⟨O2, L2, u2, g2⟩ := Z7m H h2 q2
   refine ⟨O1 ++ O2, L1 ++ L2, by rw [Zpb]; exact u1.append u2, ?_⟩
   have a1 : Given P ρ S w h O1 L1 (fun g n => Zs g n [r1]) [x] := fun S' hS hF g n ρr hρ => by
    obtain ⟨p1, p2⟩ := g1 S' hS hF g n ρr hρ
    exact ⟨p1, funext p2⟩
   have := Given.append u1.len a1 g2
   intro S' hS hF g n ρr hρ
   have t := this S' hS hF g n ρr hρ
   simp only [] at t ⊢
   rw [Zic]
   exact t
theorem Zmn {seen s' : List Nat} {a r : A} (e : Z3s h seen a = some (s', r)) : (∃ x, r = .v x) ∨ (∃ t x, r = .lit t x) ∨ ∃ t x, r = .olit t x := by
 cases a with
 | v x => simp only [Z3s, Option.some.injEq, Prod.mk.injEq] at e; exact .inl ⟨x, e.2.symm⟩
 | lit t x => simp only [Z3s, Option.some.injEq, Prod.mk.injEq] at e; exact .inr (.inl ⟨t, x, e.2.symm⟩)
 | ref ty b off len cap ex =>
   obtain ⟨blk, hblk, e1⟩ := Z3 e
   split at e1
   · cases e1
   · split at e1 <;> simp only [Option.some.injEq, Prod.mk.injEq] at e1
     · exact .inr (.inr ⟨_, _, e1.2.symm⟩)
     · exact .inr (.inl ⟨_, _, e1.2.symm⟩)
 | _ => simp [Z3s] at e
theorem Zjc {r : A} (k : (∃ x, r = .v x) ∨ (∃ t x, r = .lit t x) ∨ ∃ t x, r = .olit t x) (g : Hp) (n : Nat) : Zs g n [r] = ([(Z1x g n r).1], (Z1x g n r).2) ∧ Z4o r = Z4w [r] := by
 rcases k with ⟨x, rfl⟩ | ⟨t, x, rfl⟩ | ⟨t, x, rfl⟩ <;> simp [Zs, Z1x, Z4o, Z4w]
theorem Zmh (H : HR P ρ S w B h) {seen seen' : List Nat} {a r : A} {x : Value} (e : Zvt h seen a = some (seen', r)) (ra : R P ρ S w a x) :
 ∃ O L, Outs h seen seen' (Z4o r) O L ∧ Given P ρ S w h O L (fun g n => ([(Z1x g n r).1], (Z1x g n r).2)) [x] := by
 have cell : Z3s h seen a = some (seen', r) → ∃ O L, Outs h seen seen' (Z4o r) O L ∧ Given P ρ S w h O L (fun g n => ([(Z1x g n r).1], (Z1x g n r).2)) [x] := by
  intro e
  have hk := Zmn e
  obtain ⟨O, L, u, gv⟩ := Zab H e ra
  refine ⟨O, L, by rw [(Zjc hk noHp 0).2]; exact u, fun S' hS hF g n ρr hρ => ?_⟩
  obtain ⟨p1, p2⟩ := gv S' hS hF g n ρr hρ
  rw [(Zjc hk g n).1] at p1 p2
  exact ⟨p1, funext p2⟩
 cases a with
 | agg cs =>
   obtain ⟨⟨s1, r1⟩, h1, e1⟩ := Z3 e
   simp only [Option.some.injEq, Prod.mk.injEq] at e1
   obtain ⟨rfl, rfl⟩ := e1
   cases ra with
   | agg cs vs hl hr =>
     obtain ⟨O, L, u, gv⟩ := Z7m H h1 ⟨hl, hr⟩
     refine ⟨O, L, u, fun S' hS hF g n ρr hρ => ?_⟩
     obtain ⟨p1, p2⟩ := gv S' hS hF g n ρr hρ
     exact ⟨.cons (.agg _ vs p1.len p1.at_) .nil, p2⟩
 | _ => exact cell e
theorem Zaj (H : HR P ρ S w B h) : ∀ {as rs : List A} {vs : List Value} {seen : List Nat}, Z6v h seen as = some rs → RL P ρ S w as vs →
 ∃ seen' O L, Outs h seen seen' (Y9 rs) O L ∧ Given P ρ S w h O L (fun g n => Zz g n rs) vs
 | [], rs, vs, seen, e, r => by
   simp only [Z6v, Option.some.injEq] at e
   subst e
   rw [r.inv_nil]
   exact ⟨seen, [], [], Outs.none_ _, fun S' hS hF g n ρr hρ => ⟨.nil, (Zoa h g n).symm⟩⟩
 | a :: as, rs, vs, seen, e, r => by
   obtain ⟨⟨s1, r1⟩, h1, e1⟩ := Z3 e
   obtain ⟨r2, h2, e2⟩ := Z3 e1
   simp only [Option.some.injEq] at e2
   subst e2
   obtain ⟨x, xs, rfl, q1, q2⟩ := r.inv_cons
   obtain ⟨O1, L1, u1, g1⟩ := Zmh H h1 q1
   obtain ⟨s2, O2, L2, u2, g2⟩ := Zaj H h2 q2
   refine ⟨s2, O1 ++ O2, L1 ++ L2, by simp only [Y9]; exact u1.append u2, ?_⟩
   have := Given.append u1.len g1 g2
   intro S' hS hF g n ρr hρ
   exact this S' hS hF g n ρr hρ
end Go.Vm
set_option linter.unusedVariables false
set_option linter.unusedSimpArgs false
namespace Go.Vm
open Go.RowKit
variable {P : Program} {ρ ρ' ρ'' : Rho} {S S' S'' : Nat → Prop} {w w' w'' : World} {B : Nat} {h : Hp}
def Zpi : List Value → Value
 | [x] => x
 | xs => .tuple xs.toArray
theorem R.pack {as : List A} {vs : List Value} (r : RL P ρ S w as vs) : R P ρ S w (pack as) (Zpi vs) := by
 match as, r with
 | [], r => rw [r.inv_nil]; exact .tup [] [] rfl (fun i x y h => by simp at h)
 | [a], r =>
   obtain ⟨x, xs, rfl, q1, q2⟩ := r.inv_cons
   rw [q2.inv_nil]
   exact q1
 | a :: b :: as, r =>
   obtain ⟨x, xs, rfl, q1, q2⟩ := r.inv_cons
   obtain ⟨y, ys, rfl, q3, q4⟩ := q2.inv_cons
   exact .tup _ _ r.len r.at_
def Zlb (ρ : Rho) (n : Nat) (O : List Nat) : Rho := fun b => if n ≤ b then (match O[b - n]? with | some b' => ρ b' | none => none) else none
theorem Z78 {M : Nat} {w1 : World} {S1 : Nat → Prop} (hM : M = w.heap.size) (H : HR P ρ S1 w1 M h) {as rs : List A} {vs : List Value} (r : RL P ρ S1 w1 as vs) (e : Z6v h [] as = some rs)
 (hsub : ∀ k, S k → S1 k) (hback : ∀ k, S1 k → S k ∨ M ≤ k) (hbelow : Below M w w1) (hext : Ext S w w1) : Res P S w rs (Zpi vs) w1 := by
 subst hM
 obtain ⟨seen', O, L, u, gv⟩ := Zaj H e r
 have HF := H.freeze L
 refine ⟨Xv ρ S1 h L, fun k hk => .inl (hsub k hk), fun k hk => ?_, hbelow, hext, fun n => ⟨Zlb ρ n O, fun b hb => ?_, ?_, ?_⟩⟩
 · rcases hk with hk | ⟨b, hb, blk, sz, e1, e2⟩
   · exact hback k hk
   · exact .inr (H.at_of e1 e2).base
 · unfold Zlb
   split
   · rename_i hn
     rw [List.getElem?_eq_none (by rw [u.len]; simp only [span] at hb; omega)]
   · rfl
 · obtain ⟨_, g2⟩ := gv (Xv ρ S1 h L) (fun k hk => .inl hk) (Fast.frozen L) noHp n (Zlb ρ n O) (fun i b hb => by simp [Zlb, hb])
   rw [g2]
   have aux : ∀ b blk, laid h noHp n O b = some blk → ∃ b', n ≤ b ∧ O[b - n]? = some b' ∧ h b' = some blk ∧ Zlb ρ n O b = ρ b' := by
    intro b blk e
    unfold laid at e
    split at e
    · rename_i hn
      split at e
      · rename_i b' hb'
        exact ⟨b', hn, hb', e, by simp [Zlb, hn, hb']⟩
      · cases e
    · cases e
   refine ⟨fun b blk e => ?_, fun b1 b2 k sz sz' blk1 blk2 e1 e2 e3 e4 => ?_, HF.old, HF.glob⟩
   · obtain ⟨b', hn, hb', hblk, hg⟩ := aux b blk e
     have hmem : b' ∈ O := List.mem_of_getElem? hb'
     obtain ⟨blk', hblk', hown, hbox⟩ := u.own b' hmem
     rw [hblk] at hblk'
     simp only [Option.some.injEq] at hblk'
     subst hblk'
     rw [hg]
     rcases H.at_ b' blk hblk with ⟨k, sz, hb, hB⟩ | ⟨hb, hv⟩
     · refine .inl ⟨k, sz, hb, ⟨hB.sz_eq, hB.base, fun ho hs => ?_, fun ho => absurd (hown.symm.trans ho) (by simp), hB.rows, ?_⟩⟩
       · rcases hs with hs | ⟨b2, hb2, blk2, sz2, e1, e2⟩
         · exact hB.own ho hs
         · have := H.inj b' b2 k sz sz2 blk blk2 hblk e1 hb e2
           exact u.apart b' hmem (this ▸ hb2)
       · obtain ⟨c, hc, hs, hcell⟩ := hB.heap
         refine ⟨c, hc, hs, fun i row j x h1 h2 => ?_⟩
         obtain ⟨y, hy, hr⟩ := hcell i row j x h1 h2
         rw [hbox] at hr ⊢
         exact ⟨y, hy, R.mono (ρ := Yg) (fun _ _ h => h) (fun _ h => .inl h) (Ext.refl _ _) hr⟩
     · exact .inr ⟨hb, hv⟩
   · obtain ⟨c1, n1, o1, q1, g1⟩ := aux b1 blk1 e1
     obtain ⟨c2, n2, o2, q2, g2'⟩ := aux b2 blk2 e2
     rw [g1] at e3
     rw [g2'] at e4
     have hc := H.inj c1 c2 k sz sz' blk1 blk2 q1 q2 e3 e4
     subst hc
     have l1 := (List.getElem?_eq_some_iff.1 o1).1
     have l2 := (List.getElem?_eq_some_iff.1 o2).1
     rw [List.getElem?_eq_getElem l1] at o1
     rw [List.getElem?_eq_getElem l2] at o2
     simp only [Option.some.injEq] at o1 o2
     have hp := List.pairwise_iff_getElem.1 u.nodup
     rcases Nat.lt_trichotomy (b1 - n) (b2 - n) with hlt | heq | hgt
     · exact absurd (o1.trans o2.symm) (hp _ _ l1 l2 hlt)
     · omega
     · exact absurd (o2.trans o1.symm) (hp _ _ l2 l1 hgt)
 · obtain ⟨g1, _⟩ := gv (Xv ρ S1 h L) (fun k hk => .inl hk) (Fast.frozen L) noHp n (Zlb ρ n O) (fun i b hb => by simp [Zlb, hb])
   exact R.pack g1
end Go.Vm
set_option linter.unusedVariables false
set_option linter.unusedSimpArgs false
namespace Go.Vm
open Go.RowKit
variable {P : Program} {ρ ρ' ρ'' : Rho} {S S' S'' : Nat → Prop} {w w' w'' : World} {B : Nat} {h : Hp}
theorem Zta {f : A → Option (A × List Nat)} {ρ0 : Rho} (hf : ∀ a c bs x, f a = some (c, bs) → R P ρ0 S w a x → Fast ρ h bs S' → R P Yg S' w c x ∧ Z0q c = true) :
 ∀ {as cs : List A} {bs : List Nat} {vs : List Value}, clDs f as = some (cs, bs) → RL P ρ0 S w as vs → Fast ρ h bs S' → RL P Yg S' w cs vs ∧ Zd cs = true
 | [], cs, bs, vs, e, r, _ => by
   simp only [clDs, Option.some.injEq, Prod.mk.injEq] at e
   obtain ⟨rfl, rfl⟩ := e
   rw [r.inv_nil]
   exact ⟨.nil, rfl⟩
 | a :: as, cs, bs, vs, e, r, hF => by
   obtain ⟨p, hp, e1⟩ := Z3 e
   obtain ⟨q, hq, e2⟩ := Z3 e1
   simp only [Option.some.injEq, Prod.mk.injEq] at e2
   obtain ⟨rfl, rfl⟩ := e2
   obtain ⟨x, xs, rfl, r1, r2⟩ := r.inv_cons
   obtain ⟨q1, q2⟩ := hf a p.1 p.2 x hp r1 (Fast.left hF)
   obtain ⟨q3, q4⟩ := Zta hf (bs := q.2) hq r2 (Fast.right hF)
   exact ⟨.cons q1 q3, by simp [Zd, q2, q4]⟩
theorem Zee {f : A → Option (A × List Nat)} : ∀ {rows rs : List (List A)} {bs : List Nat}, Z0o f rows = some (rs, bs) → rs.length = rows.length ∧
 ∀ (i : Nat) (row : List A), rs[i]? = some row → ∃ row0 cs, rows[i]? = some row0 ∧ clDs f row0 = some (row, cs) ∧ ∀ b ∈ cs, b ∈ bs
 | [], rs, bs, e => by
   simp only [Z0o, Option.some.injEq, Prod.mk.injEq] at e
   obtain ⟨rfl, rfl⟩ := e
   exact ⟨rfl, fun i row h => by simp at h⟩
 | r :: rows, rs, bs, e => by
   obtain ⟨p, hp, e1⟩ := Z3 e
   obtain ⟨q, hq, e2⟩ := Z3 e1
   simp only [Option.some.injEq, Prod.mk.injEq] at e2
   obtain ⟨rfl, rfl⟩ := e2
   obtain ⟨l1, l2⟩ := Zee (bs := q.2) hq
   refine ⟨by simp [l1], fun i row h => ?_⟩
   cases i with
   | zero => simp at h; subst h; exact ⟨r, p.2, rfl, hp, fun b hb => List.mem_append_left _ hb⟩
   | succ i =>
     obtain ⟨row0, cs, h1, h2, h3⟩ := l2 i row (by simpa using h)
     exact ⟨row0, cs, by simpa using h1, h2, fun b hb => List.mem_append_right _ (h3 b hb)⟩
theorem Zfu {f : A → Option (A × List Nat)} : ∀ {as cs : List A} {bs : List Nat}, clDs f as = some (cs, bs) → cs.length = as.length
 | [], cs, bs, e => by simp only [clDs, Option.some.injEq, Prod.mk.injEq] at e; rw [← e.1]
 | a :: as, cs, bs, e => by
   obtain ⟨p, hp, e1⟩ := Z3 e
   obtain ⟨q, hq, e2⟩ := Z3 e1
   simp only [Option.some.injEq, Prod.mk.injEq] at e2
   rw [← e2.1]
   simp [Zfu (bs := q.2) hq]
theorem Zyf {k off sz c len : Nat} {ad : Option Addr} {cs : Array Value} {t : TypeId} {ty : Nat} {rows : List (List A)} (hcs : w.heap[k]? = some (Obj.cells cs t (0, 0))) (ha : 0 < c → ad = some ⟨k, off * sz, none⟩) (hlen : rows.length = len) (hlc : len ≤ c) (hsz : sz = P.cellsOf ty) (hk : S' k)
 (hrow : ∀ (i : Nat) (row : List A), rows[i]? = some row → row.length = sz ∧ Zd row = true)
 (hcell : ∀ (i : Nat) (row : List A) (j : Nat) (x : A), rows[i]? = some row → row[j]? = some x → ∃ y, cs[(off + i) * sz + j]? = some y ∧ R P Yg S' w x y) :
 R P Yg S' w (.lit ty rows) (.slice ad len c) := by
 suffices hh : R P Yg S' w (.lit ty rows) (.slice ad rows.length c) by rw [hlen] at hh; exact hh
 refine .lit ty rows ad c (fun i j => (cs[(off + i) * sz + j]?).getD undef) (by omega) (fun i row h => by rw [← hsz]; exact hrow i row h) (fun i row j x h1 h2 => ?_) (fun i row j x h1 h2 => ?_)
 · obtain ⟨y, hy, _⟩ := hcell i row j x h1 h2
   have hi : i < rows.length := (List.getElem?_eq_some_iff.1 h1).1
   refine ⟨k, off * sz, ha (by omega), hk, ?_⟩
   rw [← hsz]
   have : off * sz + i * sz + j = (off + i) * sz + j := by rw [Nat.add_mul]
   simp [World.cell?, hcs, this, hy]
 · obtain ⟨y, hy, hr⟩ := hcell i row j x h1 h2
   simp only [hy, Option.getD_some]
   exact hr
theorem Y4f (H : HR P ρ S w B h) (hS : ∀ k, S k → S' k) : ∀ (n : Nat) (a c : A) (bs : List Nat) (x : Value), clD h n a = some (c, bs) → R P ρ S w a x → Fast ρ h bs S' → R P Yg S' w c x ∧ Z0q c = true := by
 intro n
 induction n with
 | zero =>
   intro a c bs x e r hF
   cases r with
   | v x hx => simp only [clD, Option.some.injEq, Prod.mk.injEq] at e; rw [← e.1]; exact ⟨.v x hx, rfl⟩
   | lit ty rows a cap Y hcap hl hc hr =>
     simp only [clD, Option.some.injEq, Prod.mk.injEq] at e
     rw [← e.1]
     exact ⟨((R.lit ty rows a cap Y hcap hl hc hr : R P Yg S w _ _)).mono (fun _ _ h => h) hS (Ext.refl _ _), rfl⟩
   | _ => simp [clD] at e
 | succ n ih =>
   intro a c bs x e r hF
   cases r with
   | v x hx => simp only [clD, Option.some.injEq, Prod.mk.injEq] at e; rw [← e.1]; exact ⟨.v x hx, rfl⟩
   | lit ty rows a cap Y hcap hl hc hr =>
     simp only [clD, Option.some.injEq, Prod.mk.injEq] at e
     rw [← e.1]
     exact ⟨((R.lit ty rows a cap Y hcap hl hc hr : R P Yg S w _ _)).mono (fun _ _ h => h) hS (Ext.refl _ _), rfl⟩
   | ref ty b off len cap ex k sz c' ad hb hty hcap hex ha hlen hk =>
     obtain ⟨blk, hblk, e1⟩ := Z3 e
     clear e
     split at e1
     · rename_i hle
       have hB := H.at_of hblk hb
       have hrl : ((blk.rows.drop off).take len).length = len := by simp; omega
       obtain ⟨cs, hcs, _, hcell⟩ := hB.heap
       have hget : ∀ (i : Nat) (row : List A), ((blk.rows.drop off).take len)[i]? = some row → blk.rows[off + i]? = some row := by
        intro i row h
        rw [List.getElem?_take] at h
        split at h
        · rw [List.getElem?_drop] at h; exact h
        · cases h
       cases hbox : blk.box with
       | false =>
         rw [hbox] at e1 hcell
         simp only [cond_false, Option.some.injEq, Prod.mk.injEq] at e1
         obtain ⟨rfl, rfl⟩ := e1
         refine ⟨Zyf hcs ha hrl (by omega) hB.sz_eq (hF b List.mem_cons_self blk k sz hblk hb) (fun i row h => hB.rows _ _ (hget i row h)) (fun i row j x h1 h2 => ?_), rfl⟩
         obtain ⟨y, hy, hr⟩ := hcell _ _ _ _ (hget i row h1) h2
         exact ⟨y, hy, R.mono (ρ := Yg) (fun _ _ h => h) hS (Ext.refl _ _) hr⟩
       | true =>
         rw [hbox] at e1 hcell
         simp only [cond_true] at e1
         obtain ⟨p, hp, e2⟩ := Z3 e1
         simp only [Option.some.injEq, Prod.mk.injEq] at e2
         obtain ⟨rfl, rfl⟩ := e2
         obtain ⟨l1, l2⟩ := Zee (bs := p.2) hp
         have main : ∀ (i : Nat) (row : List A), p.1[i]? = some row → (row.length = sz ∧ Zd row = true) ∧ ∀ (j : Nat) (x : A), row[j]? = some x → ∃ y, cs[(off + i) * sz + j]? = some y ∧ R P Yg S' w x y := by
          intro i row hi
          obtain ⟨row0, nm, h1, h2, h3⟩ := l2 i row hi
          have h1' := hget i row0 h1
          have hr0 := hB.rows _ _ h1'
          let vs := (List.range row0.length).map fun m => (cs[(off + i) * sz + m]?).getD undef
          have hvs : RL P ρ S w row0 vs := ⟨by simp [vs], fun m x y e1 e2 => by
           obtain ⟨y', hy', hr'⟩ := hcell _ _ _ _ h1' e1
           have hm : m < row0.length := (List.getElem?_eq_some_iff.1 e1).1
           simp [vs, List.getElem?_range hm, hy'] at e2
           exact e2 ▸ hr'⟩
          obtain ⟨q1, q2⟩ := Zta (fun a c bs x e r hf => ih a c bs x e r hf) h2 hvs (fun b' hb' => hF b' (List.mem_cons_of_mem _ (h3 b' hb')))
          have hlen := Zfu h2
          refine ⟨⟨by rw [hlen]; exact hr0.1, q2⟩, fun j x hx => ?_⟩
          have hj : j < row0.length := by rw [← hlen]; exact (List.getElem?_eq_some_iff.1 hx).1
          obtain ⟨y', hy', _⟩ := hcell _ _ _ _ h1' (List.getElem?_eq_getElem hj)
          exact ⟨y', hy', q1.at_ j x y' hx (by simp [vs, List.getElem?_range hj, hy'])⟩
         exact ⟨Zyf hcs ha (by rw [l1]; exact hrl) (by omega) hB.sz_eq (hF b List.mem_cons_self blk k sz hblk hb) (fun i row h => (main i row h).1) (fun i row j x h1 h2 => (main i row h1).2 j x h2), rfl⟩
     · cases e1
   | nil ty b ex hb =>
     obtain ⟨blk, hblk, e1⟩ := Z3 e
     clear e
     have fin : ∀ t, R P Yg S' w (.lit t []) (.slice none 0 0) := fun t => .lit t [] none 0 (fun _ _ => undef) (Nat.le_refl _) (fun i row h => by simp at h) (fun i row j x h => by simp at h) (fun i row j x h => by simp at h)
     split at e1
     · simp only [List.take_zero] at e1
       cases hbox : blk.box with
       | false => rw [hbox] at e1; simp only [cond_false, Option.some.injEq, Prod.mk.injEq] at e1; rw [← e1.1]; exact ⟨fin _, rfl⟩
       | true => rw [hbox] at e1; simp only [cond_true, Z0o, bnd, Option.some.injEq, Prod.mk.injEq] at e1; rw [← e1.1]; exact ⟨fin _, rfl⟩
     · cases e1
   | _ => simp [clD] at e
theorem Zya (H : HR P ρ S w B h) (hS : ∀ k, S k → S' k) {a c : A} {bs : List Nat} {x : Value} (e : clDV h a = some (c, bs)) (r : R P ρ S w a x) (hF : Fast ρ h bs S') : R P Yg S' w c x := by
 cases a with
 | agg cs =>
   obtain ⟨p, hp, e1⟩ := Z3 e
   simp only [Option.some.injEq, Prod.mk.injEq] at e1
   obtain ⟨rfl, rfl⟩ := e1
   cases r with
   | agg cs vs hl hr =>
     obtain ⟨q1, _⟩ := Zta (fun a c bs x e r hf => Y4f H hS 4 a c bs x e r hf) hp ⟨hl, hr⟩ hF
     exact .agg _ vs q1.len q1.at_
 | _ => exact (Y4f H hS 4 _ c bs x e r hF).1
theorem Zn6 (H : HR P ρ S w B h) (hS : ∀ k, S k → S' k) : ∀ {as cs : List A} {bs : List Nat} {vs : List Value}, Zdd h as = some (cs, bs) → RL P ρ S w as vs → Fast ρ h bs S' → RL P Yg S' w cs vs
 | [], cs, bs, vs, e, r, _ => by
   simp only [Zdd, clDs, Option.some.injEq, Prod.mk.injEq] at e
   obtain ⟨rfl, rfl⟩ := e
   rw [r.inv_nil]; exact .nil
 | a :: as, cs, bs, vs, e, r, hF => by
   obtain ⟨p, hp, e1⟩ := Z3 e
   obtain ⟨q, hq, e2⟩ := Z3 e1
   simp only [Option.some.injEq, Prod.mk.injEq] at e2
   obtain ⟨rfl, rfl⟩ := e2
   obtain ⟨x, xs, rfl, r1, r2⟩ := r.inv_cons
   exact .cons (Zya H hS (bs := p.2) hp r1 (Fast.left hF)) (Zn6 H hS (as := as) (bs := q.2) hq r2 (Fast.right hF))
theorem Zxl (H : HR P ρ S w B h) {as cs : List A} {bs : List Nat} {v : Value} (e : Zdd h as = some (cs, bs)) (r : R P ρ S w (pack as) v) : R P ρ (Xv ρ S h bs) w (pack cs) v := by
 have one : ∀ {as cs : List A}, Zdd h as = some (cs, bs) → R P ρ S w (.tup as) v → R P ρ (Xv ρ S h bs) w (.tup cs) v := by
  intro as cs e r
  cases r with
  | tup as vs hl hr =>
    have q := Zn6 H (S' := Xv ρ S h bs) (fun _ h => .inl h) e ⟨hl, hr⟩ (Fast.frozen _)
    exact (R.tup cs vs q.len q.at_ : R P Yg _ _ _ _).up
 match as, e, r with
 | [], e, r =>
   have : cs = [] := by
    simp only [Zdd, clDs, Option.some.injEq, Prod.mk.injEq] at e
    exact e.1.symm
   subst this
   exact one e r
 | [a], e, r =>
   obtain ⟨p, hp, e1⟩ := Z3 e
   simp only [clDs, bnd, Option.some.injEq, Prod.mk.injEq, List.append_nil] at e1
   obtain ⟨rfl, rfl⟩ := e1
   exact (Zya H (S' := Xv ρ S h p.2) (fun _ h => .inl h) (bs := p.2) hp r (Fast.frozen _)).up
 | a :: b :: as, e, r =>
   have hl := Zfu (f := clDV h) (as := a :: b :: as) e
   match cs, hl with
   | c :: d :: cs, _ => exact one e r
theorem Zpn (H : HR P ρ S w B h) (hB : B ≤ w.heap.size) {rs : List A} {n : Nat} {v : Value} {bs : List Nat} (hf : ∀ b, span n (Y9 rs) b → ρ b = none) (hflat : Z4m rs = false)
 (hres : Res P (Xv ρ S h bs) w rs v w') :
 Eff P B ρ S w (span n (Y9 rs)) (Zz h n rs).2 (pack (Zz h n rs).1) v w' := by
 obtain ⟨S', hsub, hback, hbelow, hext, hall⟩ := hres
 obtain ⟨ρr, hout, G, hr⟩ := hall n
 have hd : ∀ b, ρr b ≠ none → ρ b = none := fun b hb => by
  by_cases hs : span n (Y9 rs) b
  · exact hf b hs
  · exact absurd (hout b hs) hb
 have hnew : ∀ b, ρ b = none → ¬ span n (Y9 rs) b → Z51 ρ ρr b = none := fun b h1 h2 => by simp [Z51, hout b h2, h1]
 have hext0 : Ext S w w' := ⟨fun k hk => hext.same k (.inl hk), hext.size, hext.maps⟩
 have hsame : ∀ k, k < w.heap.size → w'.heap[k]? = w.heap[k]? := fun k hk => hbelow.block k hk
 rw [(Z1z rs h n).1, (Z1z rs h n).2]
 obtain ⟨f1, f2⟩ := Z7d rs noHp n hflat
 have G' := G.flatS (S := S) f2 H.old hbelow.size (H.glob.mono (fun _ h => h) hext0)
 have H2 := H.monoS (S' := S) (w' := w') hext0 (fun _ h => h) (fun k _ hs => hs) (fun k hk => Nat.lt_of_lt_of_le (H.old k hk) hbelow.size) hsame
 have H3 := H2.merge G' hB (fun b blk k sz e e' => H.lt e e') hd
 exact ⟨Z51 ρ ρr, S, ⟨Z69 hd, fun k hk => hk, hext0, hbelow.mono hB, hnew, fun _ h => .inl h⟩, H3, (hr.flats f1).mono (Z4d ρ ρr) (fun _ h => h) (Ext.refl _ _)⟩
end Go.Vm
set_option linter.unusedVariables false
set_option linter.unusedSimpArgs false
namespace Go.Vm
open Go.RowKit
variable {P : Program} {ρ ρ' ρ'' : Rho} {S S' S'' : Nat → Prop} {w w' w'' : World} {B N : Nat} {h : Hp}
structure SW (P : Program) (ρ : Rho) (S : Nat → Prop) (B N : Nat) (σ : St) (a : Act) (w : World) : Prop where
 slot : ∀ t, R P ρ S w (σ.s t) (a.tmps.getD t undef)
 size : N ≤ a.tmps.size
 defers : a.defers = []
 heap : HR P ρ S w B σ.h
 le : B ≤ w.heap.size
def Z6k (P : Program) (f : Nat) : Prop := ∃ fn, P.funcs[f]? = some fn ∧ (fn.name == "runtime.NumGoroutine") = false ∧ fn.body.isNone = false
def DcOk (P : Program) (F : List A → Hp → Nat → Option (List A × Hp × Nat)) (f : Nat) : Prop :=
 ∀ (ρ : Rho) (S : Nat → Prop) (w : World) (B : Nat) (as : List A) (xs : List Value) (h : Hp) (n : Nat) (rs : List A) (h' : Hp) (n' : Nat), F as h n = some (rs, h', n') →
  HR P ρ S w B h → B ≤ w.heap.size → RL P ρ S w as xs → (∀ b, n ≤ b → ρ b = none) →
  Calls P f xs.toArray w fun
   | .returned v, w' => n ≤ n' ∧ ∃ ρ' S', Mv B ρ S w ρ' S' w' (fun b => n ≤ b) ∧ HR P ρ' S' w' B h' ∧ R P ρ' S' w' (pack rs) v ∧ ∀ b, n' ≤ b → ρ' b = none
   | _, _ => False
structure EnvOk (P : Program) (E : Env) : Prop where
 call : ∀ f, Z5i P (E.call f) f
 enter : ∀ f as rs, E.call f as = some rs → Z6k P f
 dc : ∀ f, DcOk P (E.dc f) f
 dcEnter : ∀ f as h n r, E.dc f as h n = some r → Z6k P f
 df : ∀ f, DcOk P (E.df f) f
 dfEnter : ∀ f as h n r, E.df f as h n = some r → Z6k P f
def Zn5 (o : Oper) (f : Nat) (xs : List Opd) : Bool :=
 match o.op with
 | .call c => (match c.callee with | .value (.func g) => decide (g = f) | _ => false) && Vt c.args.toList xs
 | _ => false
def Zow (o : Oper) (y : Opd) (xs : List Opd) : Bool :=
 match o.op with
 | .call c => (match c.callee with | .value x => Ym x y | _ => false) && Vt c.args.toList xs
 | _ => false
def okOp (P : Program) (ops : Array Oper) (o : Oper) (op : AOp) : Bool :=
 match op with
 | .mvn _ _ _ => match o.op with
   | .move (.const (.slice none 0 0)) | .assign (.const (.slice none 0 0)) => true
   | _ => false
 | .al _ _ ty zs => match o.op with
   | .alloc e => decide (e = ty) && Zah P ty zs
   | _ => false
 | .box _ _ ty n x => match o.op with
   | .box e y => decide (e = ty) && Ym y x && decide (n = P.cellsOf ty)
   | _ => false
 | .bld _ _ zs ps => match o.op with
   | .build t parts => Zz8 P t parts.toList zs ps
   | _ => false
 | .bsl _ _ ty n xs => match o.op with
   | .buildSlice t len parts => Zas P t ty n len parts.toList xs
   | _ => false
 | .st n p x => match o.op with
   | .store t a v => Ym a p && Ym v x && decide (n = P.cellsOf t) && (P.info? t).isSome
   | _ => false
 | .stn _ _ p => match o.op with
   | .store t a (.const (.slice none 0 0)) => Ym a p && decide (1 = P.cellsOf t) && (P.info? t).isSome
   | _ => false
 | .mkf _ f xs => match o.op with
   | .makeFunc (.func g) first cs => decide (g = f) && first.isEmpty && Vt cs.toList xs
   | _ => false
 | .mks _ _ ty zs l c => match o.op with
   | .makeSlice t a b => Ym a l && Ym b c && Zq1 P t ty zs
   | _ => false
 | .sl _ e x lo hi mx => match o.op with
   | .slice t y lo' hi' mx' => Ym y x && Zhp lo' lo && Zhp hi' hi && Zhp mx' mx && okSl P t e hi mx
   | _ => false
 | .mkb _ _ ty zs l c => match o.op with
   | .makeSlice t a b => Ym a l && Ym b c && Zq1 P t ty zs
   | _ => false
 | .bsb _ _ ty n xs => match o.op with
   | .buildSlice t len parts => Zas P t ty n len parts.toList xs
   | _ => false
 | .apb _ _ e s x => match o.op with
   | .call c => (match c.callee, c.args.toList, c.argTypes.toList with | .builtin .append, [a, b], [t, tx] => Ym a s && Ym b x && Zhw P t tx e | _, _, _ => false)
   | _ => false
 | .bll _ ty n xs => match o.op with
   | .buildSlice t len parts => Zas P t ty n len parts.toList xs
   | _ => false
 | .callx _ _ _ f xs => Zn5 o f xs
 | .dcs _ f xs => Zn5 o f xs
 | .call _ _ _ f xs => Zn5 o f xs
 | .callv _ _ _ y xs => Zow o y xs
 | .dcall _ f xs => Zn5 o f xs
 | .dcf _ f xs => Zn5 o f xs
 | .dcallv _ y xs => Zow o y xs
 | .app _ _ e s x => match o.op with
   | .call c => (match c.callee, c.args.toList, c.argTypes.toList with | .builtin .append, [a, b], [t, tx] => Ym a s && Ym b x && Zhw P t tx e | _, _, _ => false)
   | _ => false
 | .clr e zs x => match o.op with
   | .call c => (match c.callee, c.args.toList, c.argTypes.toList with | .builtin .clear, [a], [t] => Ym a x && Y1h P t e zs | _, _, _ => false)
   | _ => false
 | op => Zfr P ops o op
def AOp.names : AOp → Nat × Nat
 | .mvn _ nm _ => (nm, 1)
 | .al _ nm _ zs => (nm, 1 + (zs.filter Wl).length)
 | .box _ nm _ _ _ => (nm, 1)
 | .bld _ nm zs _ => (nm, (zs.filter Wl).length)
 | .bsl _ nm _ _ _ => (nm, 1)
 | .stn nm _ _ => (nm, 1)
 | .mks _ nm _ _ _ _ => (nm, 1)
 | .call _ nm w _ _ => (nm, w)
 | .callv _ nm w _ _ => (nm, w)
 | .app _ nm _ _ _ => (nm, 1)
 | .mkb _ nm _ _ _ _ => (nm, 1)
 | .bsb _ nm _ _ _ => (nm, 1)
 | .apb _ nm _ _ _ => (nm, 1)
 | .callx _ nm w _ _ => (nm, w)
 | _ => (0, 0)
def AOp.isD : AOp → Bool
 | .dcall _ _ _ | .dcf _ _ _ | .dcallv _ _ _ | .dcs _ _ _ => true
 | _ => false
def lays (tot n : Nat) (op : AOp) (b : Nat) : Prop := if op.isD then n + tot ≤ b else span (n + op.names.1) op.names.2 b
structure Fin' (P : Program) (B : Nat) (ρ : Rho) (S : Nat → Prop) (w : World) (iv : Nat → Prop) (D : Bool) (σ σ' : St) (d : Option Nat) (v : Value) (w' : World) : Prop where
 ex : ∃ u, σ' = ⟨put σ.s d u, σ'.h, σ'.n, σ.base⟩ ∧ ∃ ρ' S', Mv B ρ S w ρ' S' w' iv ∧ HR P ρ' S' w' B σ'.h ∧ R P ρ' S' w' u v ∧ ((σ'.n = σ.n ∧ (D = false ∨ ∀ b, ρ b = none → ρ' b = none)) ∨ (σ.n ≤ σ'.n ∧ ∀ b, σ'.n ≤ b → ρ' b = none))
theorem Fin'.of_eff {iv : Nat → Prop} {σ σ' : St} {d : Option Nat} {u : A} {v : Value} {hh : Hp} (e : σ' = ⟨put σ.s d u, hh, σ.n, σ.base⟩) (q : Eff P B ρ S w iv hh u v w') {D : Bool} (hD : D = false := by rfl) : Fin' P B ρ S w iv D σ σ' d v w' := by
 subst e
 obtain ⟨ρ', S', M, H, r⟩ := q.ex
 exact ⟨u, rfl, ρ', S', M, H, r, .inl ⟨rfl, .inl hD⟩⟩
theorem Z7v {ev' : Operand → Value} {o : Oper} {c : Call} {y : Operand} {f : Nat} {caps : Array Value} (ho : o.op = .call c) (hc : c.callee = .value y) (hv : ev' y = .func (.func f) #[] caps) (hf : Z6k P f) :
 (execOp ev' o).run P w = .ok (.enter f (c.args.map ev' ++ caps)) w := by
 obtain ⟨fn, h1, h2, h3⟩ := hf
 have h2' : ¬ fn.name = "runtime.NumGoroutine" := by simpa using h2
 have h3' : ¬ fn.body = none := fun q => by rw [q] at h3; cases h3
 simp [execOp, ho, resolve, hc, hv, Deferred.ofValue, invoke, callFunc, h1, h2', h3', program, Sem.run]
theorem Zbo : ∀ {rs : List A}, plain rs = true → Y9 rs = 0 ∧ Z4m rs = false ∧ ∀ h n, Zz h n rs = (rs, h)
 | [], _ => ⟨rfl, rfl, fun h n => rfl⟩
 | a :: rs, e => by
   cases a with
   | v x =>
     obtain ⟨e1, e2, e3⟩ := Zbo (rs := rs) e
     exact ⟨by simp [Y9, Z4o, e1], by simp [Z4m, Zq2, e2], fun h n => by simp [Zz, Z1x, e3]⟩
   | _ => simp [plain] at e
theorem Eff.wide {iv iv' : Nat → Prop} {hh : Hp} {u : A} {v : Value} (q : Eff P B ρ S w iv hh u v w') (k : ∀ b, iv b → iv' b) : Eff P B ρ S w iv' hh u v w' := by
 obtain ⟨ρ', S', M, H, r⟩ := q.ex
 exact ⟨ρ', S', M.wide k, H, r⟩
variable {E : Env}
theorem Z76 (hE : EnvOk P E) (H : HR P ρ S w B h) (hB : B ≤ w.heap.size) {o : Oper} {a : Act} {c : Call} {y : Operand} {f : Nat} {as caps cs rs : List A} {us : List Value} {n : Nat} {Q : Exit → Act → World → Prop}
 (ho : o.op = .call c) (hc : c.callee = .value y) (hv : a.eval y = .func (.func f) #[] us.toArray) (ra : RL P ρ S w as (c.args.toList.map a.eval)) (rc : RL P ρ S w caps us)
 (e1 : Z0u h (as ++ caps) = some cs) (e2 : E.call f cs = some rs) (hf : ∀ b, span n (Y9 rs) b → ρ b = none) {K : Act → World → Prop}
 (k : ∀ v w', Eff P B ρ S w (span n (Y9 rs)) (Zz (aft h (as ++ caps) rs) n rs).2 (pack (Zz (aft h (as ++ caps) rs) n rs).1) v w' → K (a.put o.dst v) w') : o.wp P a w K Q := by
 have hrl := Znv H (S' := Xv ρ S h (Xa h (as ++ caps))) (fun _ h => .inl h) e1 (ra.append rc) (Fast.frozen _)
 have hcalls := hE.call f _ w _ rs _ e2 (H.freeze (Xa h (as ++ caps))).old (H.freeze (Xa h (as ++ caps))).glob hrl
 have harr : (c.args.toList.map a.eval ++ us).toArray = c.args.map a.eval ++ us.toArray := by
  apply Array.ext'
  simp
 rw [harr] at hcalls
 unfold Oper.wp
 rw [Z7v ho hc hv (hE.enter f _ _ e2)]
 simp only [Oper.upon]
 refine hcalls.mono fun e w' he => ?_
 cases e with
 | returned v => exact k v w' (Zun H hB hf he)
 | _ => exact he.elim
theorem Zix (hE : EnvOk P E) (H : HR P ρ S w B h) (hB : B ≤ w.heap.size) {o : Oper} {a : Act} {c : Call} {y : Operand} {f : Nat} {as cs rs : List A} {bs : List Nat} {n : Nat} {Q : Exit → Act → World → Prop}
 (ho : o.op = .call c) (hc : c.callee = .value y) (hv : a.eval y = .func (.func f) #[] #[]) (ra : RL P ρ S w as (c.args.toList.map a.eval))
 (e1 : Zdd h as = some (cs, bs)) (e2 : E.call f cs = some rs) (hflat : Z4m rs = false) (hf : ∀ b, span n (Y9 rs) b → ρ b = none) {K : Act → World → Prop}
 (k : ∀ v w', Eff P B ρ S w (span n (Y9 rs)) (Zz h n rs).2 (pack (Zz h n rs).1) v w' → K (a.put o.dst v) w') : o.wp P a w K Q := by
 have hrl := Zn6 H (S' := Xv ρ S h bs) (fun _ h => .inl h) e1 ra (Fast.frozen _)
 have hcalls := hE.call f _ w _ rs _ e2 (H.freeze bs).old (H.freeze bs).glob hrl
 have harr : (c.args.toList.map a.eval).toArray = c.args.map a.eval ++ #[] := by
  apply Array.ext'
  simp
 rw [harr] at hcalls
 unfold Oper.wp
 rw [Z7v ho hc hv (hE.enter f _ _ e2)]
 simp only [Oper.upon]
 refine hcalls.mono fun e w' he => ?_
 cases e with
 | returned v => exact k v w' (Zpn H hB hf hflat he)
 | _ => exact he.elim
theorem Z3r {o : Oper} {f : Nat} {xs : List Opd} (e : Zn5 o f xs = true) : ∃ c, o.op = .call c ∧ c.callee = .value (.func f) ∧ Vt c.args.toList xs = true := by
 unfold Zn5 at e
 split at e
 · rename_i c hc
   simp only [Bool.and_eq_true] at e
   obtain ⟨e1, e2⟩ := e
   split at e1
   · rename_i g hg
     have : g = f := by simpa using e1
     subst this
     exact ⟨c, hc, hg, e2⟩
   · cases e1
 · cases e
theorem Zew {o : Oper} {y : Opd} {xs : List Opd} (e : Zow o y xs = true) : ∃ c x, o.op = .call c ∧ c.callee = .value x ∧ Ym x y = true ∧ Vt c.args.toList xs = true := by
 unfold Zow at e
 split at e
 · rename_i c hc
   simp only [Bool.and_eq_true] at e
   obtain ⟨e1, e2⟩ := e
   split at e1
   · rename_i x hx
     exact ⟨c, x, hc, hx, e1, e2⟩
   · cases e1
 · cases e
theorem Zrr {a : A} {p : Nat × List A} {x : Value} (e : fnA a = some p) (r : R P ρ S w a x) : ∃ us : List Value, x = .func (.func p.1) #[] us.toArray ∧ RL P ρ S w p.2 us := by
 cases r with
 | fn f caps vs hp hl hr =>
   simp only [fnA, hp, cond_true, Option.some.injEq] at e
   subst e
   exact ⟨vs, rfl, hl, hr⟩
 | _ => simp [fnA] at e
end Go.Vm
set_option linter.unusedVariables false
set_option linter.unusedSimpArgs false
namespace Go.Vm
open Go.RowKit
variable {P : Program} {ρ ρ' ρ'' : Rho} {S S' S'' : Nat → Prop} {w w' w'' : World} {B N : Nat} {h : Hp} {E : Env}
theorem Yv {o : Oper} {a : Act} {K : Act → World → Prop} {Q : Exit → Act → World → Prop} {v : Value} (hr : (execOp a.eval o).run P w = .ok (.value v) w') (k : K (a.put o.dst v) w') : o.wp P a w K Q := by
 unfold Oper.wp
 rw [hr]
 exact k
theorem Z9v {o : Oper} {a : Act} {K : Act → World → Prop} {Q : Exit → Act → World → Prop} (hr : (execOp a.eval o).run P w = .ok .skip w') (k : K (a.put o.dst undef) w') : o.wp P a w K Q := by
 unfold Oper.wp
 rw [hr]
 exact k
theorem Y36 {c : Call} {x y : Operand} (h : c.args.toList = [x, y]) : c.args = #[x, y] := by have := congrArg List.toArray h; simpa using this
theorem Y69 {c : Call} {x : Operand} (h : c.args.toList = [x]) : c.args = #[x] := by have := congrArg List.toArray h; simpa using this
theorem tys2 {c : Call} {x y : TypeId} (h : c.argTypes.toList = [x, y]) : c.argTypes = #[x, y] := by have := congrArg List.toArray h; simpa using this
theorem tys1 {c : Call} {x : TypeId} (h : c.argTypes.toList = [x]) : c.argTypes = #[x] := by have := congrArg List.toArray h; simpa using this
theorem X6 {α β : Type} (x : α) (f : α → Option β) : bnd (some x) f = f x := rfl
theorem Y58 {a : A} {x : Value} (r : R P ρ S w a x) {q b : Bool} (hq : q = true) (e : opQ q a = some b) : x = .bool b := by
 subst hq
 cases r with
 | v x hx =>
   cases x <;> simp only [opQ, if_true, reduceCtorEq, Option.some.injEq] at e
   subst e; rfl
 | ifT a x h =>
   cases a <;> simp only [opQ, if_true, reduceCtorEq] at e
   rename_i y
   cases y <;> simp only [opQ, if_true, reduceCtorEq] at e
   simp [imp] at e
   subst e
   cases h with
   | v _ _ => rfl
 | ifF a =>
   cases a <;> simp only [opQ, if_true, reduceCtorEq] at e
   rename_i y
   cases y <;> simp [opQ, imp] at e
 | _ => simp [opQ] at e
theorem Y4c {σ : St} {y : Opd} {x : Value} (r : R P ρ S w (ev σ y) x) {q b : Bool} (hq : q = true) (e : evq q σ y = some b) : x = .bool b := Y58 r hq e
theorem Zo3 (H : HR P ρ S w B h) {get : Opd → Option A} {pk : Bool → Opd → Option Bool} {ev' : Operand → Value}
 (hget : ∀ x y v, Ym x y = true → get y = some v → R P ρ S w v (ev' x)) (hpk : ∀ (q : Bool) x y b, Ym x y = true → pk q y = some b → q = true → ev' x = .bool b)
 {ops : Array Oper} {o : Oper} {op : AOp} {u : A} {d : Option Nat} (hy : op.yields = some d) (ok : okOp P ops o op = true) (eq : Zu E h get pk op = some u) :
 ∃ v, (execOp ev' o).run P w = .ok (.value v) w ∧ R P ρ S w u v := by
 have ok' : Zfr P ops o op = true := by
  cases op <;> first | exact ok | (simp [AOp.yields] at hy)
 exact Zsx H hget hpk ok' eq
theorem Z1h {op : AOp} {d : Option Nat} (hy : op.yields = some d) : op.dst = d ∧ op.names = (0, 0) ∧ op.isD = false := by
 cases op <;> simp only [AOp.yields, Option.some.injEq, reduceCtorEq] at hy <;> subst hy <;> exact ⟨rfl, rfl, rfl⟩
theorem Z5w (hE : EnvOk P E) (H : HR P ρ S w B h) (hB : B ≤ w.heap.size) {o : Oper} {a : Act} {c : Call} {y : Operand} {f : Nat} {as caps rs : List A} {us : List Value} {n n' : Nat} {h' : Hp} {Q : Exit → Act → World → Prop}
 (ho : o.op = .call c) (hc : c.callee = .value y) (hv : a.eval y = .func (.func f) #[] us.toArray) (ra : RL P ρ S w as (c.args.toList.map a.eval)) (rc : RL P ρ S w caps us)
 (e2 : E.dc f (as ++ caps) h n = some (rs, h', n')) (hf : ∀ b, n ≤ b → ρ b = none) {K : Act → World → Prop}
 (k : ∀ v w', n ≤ n' → (∃ ρ' S', Mv B ρ S w ρ' S' w' (fun b => n ≤ b) ∧ HR P ρ' S' w' B h' ∧ R P ρ' S' w' (pack rs) v ∧ ∀ b, n' ≤ b → ρ' b = none) → K (a.put o.dst v) w') : o.wp P a w K Q := by
 have hcalls := hE.dc f ρ S w B _ _ h n rs h' n' e2 H hB (ra.append rc) hf
 have harr : (c.args.toList.map a.eval ++ us).toArray = c.args.map a.eval ++ us.toArray := by
  apply Array.ext'
  simp
 rw [harr] at hcalls
 unfold Oper.wp
 rw [Z7v ho hc hv (hE.dcEnter f _ _ _ _ e2)]
 simp only [Oper.upon]
 refine hcalls.mono fun e w' he => ?_
 cases e with
 | returned v => exact k v w' he.1 he.2
 | _ => exact he.elim
theorem Zqi (hE : EnvOk P E) (H : HR P ρ S w B h) (hB : B ≤ w.heap.size) {o : Oper} {a : Act} {c : Call} {y : Operand} {f : Nat} {as caps rs : List A} {us : List Value} {n n' : Nat} {h' : Hp} {Q : Exit → Act → World → Prop}
 (ho : o.op = .call c) (hc : c.callee = .value y) (hv : a.eval y = .func (.func f) #[] us.toArray) (ra : RL P ρ S w as (c.args.toList.map a.eval)) (rc : RL P ρ S w caps us)
 (e2 : E.df f (as ++ caps) h n = some (rs, h', n')) (hf : ∀ b, n ≤ b → ρ b = none) {K : Act → World → Prop}
 (k : ∀ v w', n ≤ n' → (∃ ρ' S', Mv B ρ S w ρ' S' w' (fun b => n ≤ b) ∧ HR P ρ' S' w' B h' ∧ R P ρ' S' w' (pack rs) v ∧ ∀ b, n' ≤ b → ρ' b = none) → K (a.put o.dst v) w') : o.wp P a w K Q := by
 have hcalls := hE.df f ρ S w B _ _ h n rs h' n' e2 H hB (ra.append rc) hf
 have harr : (c.args.toList.map a.eval ++ us).toArray = c.args.map a.eval ++ us.toArray := by
  apply Array.ext'
  simp
 rw [harr] at hcalls
 unfold Oper.wp
 rw [Z7v ho hc hv (hE.dfEnter f _ _ _ _ e2)]
 simp only [Oper.upon]
 refine hcalls.mono fun e w' he => ?_
 cases e with
 | returned v => exact k v w' he.1 he.2
 | _ => exact he.elim
theorem Zbl (hE : EnvOk P E) {σ σ' : St} {a : Act} {tot : Nat} {ops : Array Oper} {o : Oper} {op : AOp} {Q : Exit → Act → World → Prop} (T : SW P ρ S B N σ a w) (ok : okOp P ops o op = true) (hd : o.dst = op.dst)
 (hf : ∀ b, lays tot σ.n op b → ρ b = none) (e : step E tot op σ = some σ') {K : Act → World → Prop}
 (k : ∀ v w', Fin' P B ρ S w (lays tot σ.n op) op.isD σ σ' op.dst v w' → K (a.put o.dst v) w') : o.wp P a w K Q := by
 have hget : ∀ x y, Ym x y = true → R P ρ S w (ev σ y) (a.eval x) := fun x y e => Zbi T.slot e
 have H := T.heap
 have hB := T.le
 cases op with
 | mvn d nm ty =>
   simp only [step, Option.some.injEq] at e
   have hrun : (execOp a.eval o).run P w = .ok (.value (.slice none 0 0)) w := by
    simp only [okOp] at ok
    split at ok
    · rename_i ho; simp [execOp, ho, Act.eval]
    · rename_i ho; simp [execOp, ho, Act.eval]
    · cases ok
   have hn : ρ (σ.n + nm) = none := hf _ (by simp [lays, AOp.isD, AOp.names, span])
   obtain ⟨H1, M1⟩ := H.none_ hn ty
   refine Yv hrun (k _ _ (Fin'.of_eff (u := .ref ty (σ.n + nm) 0 0 0 false) e.symm ⟨_, S, M1.wide (fun b hb => by simp only [lays, AOp.isD, AOp.names, span]; simp; omega), H1, .nil ty _ false (Yk _ _)⟩))
 | al d nm ty zs =>
   simp only [step, Option.some.injEq] at e
   simp only [okOp] at ok
   split at ok
   · rename_i t ho
     simp only [Bool.and_eq_true, decide_eq_true_eq] at ok
     obtain ⟨rfl, hz⟩ := ok
     obtain ⟨x, w', hr, hq⟩ := Zvd H hB (n := σ.n + nm) (fun b hb => hf b (by simpa [lays, AOp.isD, AOp.names] using hb)) hz
     have hrun : (execOp a.eval o).run P w = .ok (.value x) w' := by simp [execOp, ho, hr]
     exact Yv hrun (k _ _ (Fin'.of_eff e.symm (hq.wide (fun b hb => by simpa [lays, AOp.isD, AOp.names] using hb))))
   · cases ok
 | box d nm ty n x =>
   simp only [step] at e
   split at e
   · rename_i hc
     simp only [Option.some.injEq] at e
     simp only [okOp] at ok
     split at ok
     · rename_i t y ho
       simp only [Bool.and_eq_true, decide_eq_true_eq] at ok
       obtain ⟨⟨rfl, hy⟩, rfl⟩ := ok
       obtain ⟨x', w', hr, hq⟩ := Zu3 H hB (hf (σ.n + nm) (by simp [lays, AOp.isD, AOp.names, span])) (hget y x hy) hc.1 hc.2
       have hrun : (execOp a.eval o).run P w = .ok (.value x') w' := by simp [execOp, ho, hr]
       exact Yv hrun (k _ _ (Fin'.of_eff e.symm (hq.wide (fun b hb => by simpa [lays, AOp.isD, AOp.names] using hb))))
     · cases ok
   · cases e
 | bld d nm zs ps =>
   simp only [step] at e
   obtain ⟨cs, hcs, e1⟩ := Z3 e
   simp only [Option.some.injEq] at e1
   simp only [okOp] at ok
   split at ok
   · rename_i t parts ho
     obtain ⟨x', w', hr, hq⟩ := Zts H hget (n := σ.n + nm) (fun b hb => hf b (by simpa [lays, AOp.isD, AOp.names] using hb)) ok hcs
     have hrun : (execOp a.eval o).run P w = .ok (.value x') w' := by simp [execOp, ho, hr]
     exact Yv hrun (k _ _ (Fin'.of_eff e1.symm (hq.wide (fun b hb => by simpa [lays, AOp.isD, AOp.names] using hb))))
   · cases ok
 | bsl d nm ty n xs =>
   simp only [step] at e
   obtain ⟨rows, hrows, e1⟩ := Z3 e
   simp only [Option.some.injEq] at e1
   simp only [okOp] at ok
   split at ok
   · rename_i t len parts ho
     obtain ⟨x', w', hr, hq⟩ := Zuk H hB rfl hget (m := σ.n + nm) (hf _ (by simp [lays, AOp.isD, AOp.names, span])) ok hrows
     have hrun : (execOp a.eval o).run P w = .ok (.value x') w' := by simp [execOp, ho, hr]
     exact Yv hrun (k _ _ (Fin'.of_eff e1.symm (hq.wide (fun b hb => by simpa [lays, AOp.isD, AOp.names] using hb))))
   · cases ok
 | st n p x =>
   simp only [step] at e
   obtain ⟨hh, hst, e1⟩ := Z3 e
   simp only [Option.some.injEq] at e1
   simp only [okOp] at ok
   split at ok
   · rename_i t ad vl ho
     simp only [Bool.and_eq_true, decide_eq_true_eq] at ok
     obtain ⟨⟨⟨h1, h2⟩, h3⟩, h4⟩ := ok
     obtain ⟨w', hr, hq⟩ := Zoc H (hget _ _ h1) (hget _ _ h2) h3 h4 hst
     have hrun : (execOp a.eval o).run P w = .ok .skip w' := by simp [execOp, ho, hr]
     exact Z9v hrun (k _ _ (Fin'.of_eff e1.symm (hq.wide (fun b hb => hb.elim))))
   · cases ok
 | stn nm ty p =>
   simp only [step] at e
   obtain ⟨hh, hst, e1⟩ := Z3 e
   simp only [Option.some.injEq] at e1
   simp only [okOp] at ok
   split at ok
   · rename_i t ad ho
     simp only [Bool.and_eq_true, decide_eq_true_eq] at ok
     obtain ⟨⟨h1, h3⟩, h4⟩ := ok
     obtain ⟨w', hr, hq⟩ := Zra H (hget _ _ h1) (hf _ (by simp [lays, AOp.isD, AOp.names, span])) h3 h4 hst
     have hk : a.eval (.const (.slice none 0 0)) = .slice none 0 0 := rfl
     have hrun : (execOp a.eval o).run P w = .ok .skip w' := by simp [execOp, ho, hk, hr]
     exact Z9v hrun (k _ _ (Fin'.of_eff e1.symm (hq.wide (fun b hb => by simpa [lays, AOp.isD, AOp.names] using hb))))
   · cases ok
 | mkf d f caps =>
   simp only [step] at e
   split at e
   rotate_left
   · cases e
   rename_i hcap
   simp only [Option.some.injEq] at e
   simp only [okOp] at ok
   split at ok
   · rename_i g first cs ho
     simp only [Bool.and_eq_true, decide_eq_true_eq] at ok
     obtain ⟨⟨rfl, h1⟩, h2⟩ := ok
     have hr := Zqw hget (f := g) h2 hcap
     have hfirst : first = #[] := by simpa using h1
     have hrun : (execOp a.eval o).run P w = .ok (.value (.func (.func g) #[] (cs.toList.map a.eval).toArray)) w := by
      have : (cs.toList.map a.eval).toArray = cs.map a.eval := by apply Array.ext'; simp
      simp [execOp, ho, Instr.makeFunc, hfirst, this]
     exact Yv hrun (k _ _ (Fin'.of_eff e.symm ⟨ρ, S, Mv.refl _ _ _ _ _, H, hr⟩))
   · cases ok
 | mks d nm ty zs l c =>
   simp only [step] at e
   simp only [okOp] at ok
   split at ok
   · rename_i t x y ho
     simp only [Bool.and_eq_true] at ok
     obtain ⟨⟨h1, h2⟩, h3⟩ := ok
     obtain ⟨v, w', hr, u, hu, hq⟩ := Zum H hB (hget _ _ h1) (hget _ _ h2) (hf (σ.n + nm) (by simp [lays, AOp.isD, AOp.names, span])) h3 rfl rfl e
     have hrun : (execOp a.eval o).run P w = .ok (.value v) w' := by simp [execOp, ho, hr]
     exact Yv hrun (k _ _ (Fin'.of_eff (u := u) hu (hq.wide (fun b hb => by simpa [lays, AOp.isD, AOp.names] using hb))))
   · cases ok
 | mkb d nm ty zs l c =>
   simp only [step] at e
   simp only [okOp] at ok
   split at ok
   · rename_i t x y ho
     simp only [Bool.and_eq_true] at ok
     obtain ⟨⟨h1, h2⟩, h3⟩ := ok
     obtain ⟨v, w', hr, u, hu, hq⟩ := Zt2 H hB (hget _ _ h1) (hget _ _ h2) (hf (σ.n + nm) (by simp [lays, AOp.isD, AOp.names, span])) h3 rfl rfl e
     have hrun : (execOp a.eval o).run P w = .ok (.value v) w' := by simp [execOp, ho, hr]
     exact Yv hrun (k _ _ (Fin'.of_eff (u := u) hu (hq.wide (fun b hb => by simpa [lays, AOp.isD, AOp.names] using hb))))
   · cases ok
 | bsb d nm ty n xs =>
   simp only [step] at e
   obtain ⟨rows, hrows, e1⟩ := Z3 e
   simp only [Option.some.injEq] at e1
   simp only [okOp] at ok
   split at ok
   · rename_i t len parts ho
     obtain ⟨x', w', hr, hq⟩ := Ztt H hB hget (m := σ.n + nm) (hf _ (by simp [lays, AOp.isD, AOp.names, span])) ok hrows
     have hrun : (execOp a.eval o).run P w = .ok (.value x') w' := by simp [execOp, ho, hr]
     exact Yv hrun (k _ _ (Fin'.of_eff e1.symm (hq.wide (fun b hb => by simpa [lays, AOp.isD, AOp.names] using hb))))
   · cases ok
 | bll d ty n xs =>
   simp only [step] at e
   obtain ⟨rows, hrows, e1⟩ := Z3 e
   simp only [Option.some.injEq] at e1
   simp only [okOp] at ok
   split at ok
   · rename_i t len parts ho
     obtain ⟨x', w', hr, hq⟩ := Zsd H hB hget (iv := lays tot σ.n (.bll d ty n xs)) ok hrows
     have hrun : (execOp a.eval o).run P w = .ok (.value x') w' := by simp [execOp, ho, hr]
     exact Yv hrun (k _ _ (Fin'.of_eff e1.symm hq))
   · cases ok
 | apb d nm t s x =>
   simp only [step] at e
   obtain ⟨ys, hys, e1⟩ := Z3 e
   simp only [okOp] at ok
   split at ok
   · rename_i c ho
     split at ok
     · rename_i p q t1 t2 hc hargs htys
       simp only [Bool.and_eq_true] at ok
       obtain ⟨⟨h1, h2⟩, h3⟩ := ok
       obtain ⟨v, w', hr, u, hu, hq⟩ := Zec (ty := o.type) H hB (hget _ _ h1) (hget _ _ h2) hys (hf _ (by simp [lays, AOp.isD, AOp.names, span])) h3 e1
       have hrun : (execOp a.eval o).run P w = .ok (.value v) w' := by
        simp [execOp, ho, resolve, hc, Y36 hargs, tys2 htys, invoke, builtin, hr]
       exact Yv hrun (k _ _ (Fin'.of_eff (u := u) hu (hq.wide (fun b hb => by simpa [lays, AOp.isD, AOp.names] using hb))))
     · cases ok
   · cases ok
 | sl d t x lo hi mx =>
   simp only [step] at e
   obtain ⟨u, hu, e1⟩ := Z3 e
   simp only [Option.some.injEq] at e1
   simp only [okOp] at ok
   split at ok
   · rename_i ty y lo' hi' mx' ho
     simp only [Bool.and_eq_true] at ok
     obtain ⟨⟨⟨⟨h1, h2⟩, h3⟩, h4⟩, h5⟩ := ok
     obtain ⟨v, hr, hq⟩ := Zvj hget h2 h3 h4 h5 (hget _ _ h1) hu
     have hrun : (execOp a.eval o).run P w = .ok (.value v) w := by simp [execOp, ho, hr]
     exact Yv hrun (k _ _ (Fin'.of_eff e1.symm ⟨ρ, S, Mv.refl _ _ _ _ _, H, hq⟩))
   · cases ok
 | call d nm w' f xs =>
   obtain ⟨c, ho, hc, hxs⟩ := Z3r ok
   simp only [step, Z2d] at e
   obtain ⟨cs, hcs, e1⟩ := Z3 e
   obtain ⟨rs, hrs, e2⟩ := Z3 e1
   split at e2
   · cases e2
   · rename_i hw
     simp only [Option.some.injEq] at e2
     have hcs' : Z0u σ.h (evs σ xs ++ []) = some cs := by rw [List.append_nil]; exact hcs
     refine Z76 hE H hB (n := σ.n + nm) (us := []) (caps := []) ho hc rfl (Z6t hget hxs) .nil hcs' hrs (fun b hb => hf b (by simp only [lays, AOp.isD, AOp.names, span] at hb ⊢; simp; omega)) (fun v w1 hq => k v w1 ?_)
     rw [List.append_nil] at hq
     exact Fin'.of_eff e2.symm (hq.wide (fun b hb => by simp only [lays, AOp.isD, AOp.names, span] at hb ⊢; simp; omega))
 | callx d nm w' f xs =>
   obtain ⟨c, ho, hc, hxs⟩ := Z3r ok
   simp only [step, Z2q] at e
   obtain ⟨p, hp, e1⟩ := Z3 e
   obtain ⟨rs, hrs, e2⟩ := Z3 e1
   split at e2
   · cases e2
   · rename_i hw
     simp only [Option.some.injEq] at e2
     simp only [not_or, Bool.not_eq_true] at hw
     refine Zix hE H hB (n := σ.n + nm) (bs := p.2) ho hc rfl (Z6t hget hxs) hp hrs hw.2 (fun b hb => hf b (by simp only [lays, AOp.isD, AOp.names, span] at hb ⊢; simp; omega)) (fun v w1 hq => k v w1 ?_)
     exact Fin'.of_eff e2.symm (hq.wide (fun b hb => by simp only [lays, AOp.isD, AOp.names, span] at hb ⊢; simp; omega))
 | dcs d f xs =>
   obtain ⟨c, ho, hc, hxs⟩ := Z3r ok
   simp only [step, Zmj] at e
   obtain ⟨⟨rs, h', n'⟩, hr, e1⟩ := Z3 e
   obtain ⟨p, hp, e2⟩ := Z3 e1
   simp only [Option.some.injEq] at e2
   have hr' : E.dc f (evs σ xs ++ []) σ.h (σ.n + tot) = some (rs, h', n') := by rw [List.append_nil]; exact hr
   refine Z5w hE H hB (us := []) (caps := []) ho hc rfl (Z6t hget hxs) .nil hr' (fun b hb => hf b (by simpa [lays, AOp.isD] using hb)) (fun v w1 hn hq => k v w1 ?_)
   obtain ⟨ρ', S', M, H', r, hnew⟩ := hq
   subst e2
   refine ⟨_, rfl, ρ', Xv ρ' S' h' p.2, ?_, H'.freeze p.2, Zxl H' hp r, .inr ⟨by simp only; omega, hnew⟩⟩
   exact (M.trans1 (Z46 H' p.2 _)).wide (fun b hb => by simpa [lays, AOp.isD] using hb)
 | callv d nm w' y xs =>
   obtain ⟨c, x, ho, hc, hyx, hxs⟩ := Zew ok
   simp only [step, Z2d] at e
   obtain ⟨p, hp, e0⟩ := Z3 e
   obtain ⟨cs, hcs, e1⟩ := Z3 e0
   obtain ⟨rs, hrs, e2⟩ := Z3 e1
   obtain ⟨us, hus, hcaps⟩ := Zrr hp (hget _ _ hyx)
   split at e2
   · cases e2
   · rename_i hw
     simp only [Option.some.injEq] at e2
     refine Z76 hE H hB (n := σ.n + nm) (us := us) (caps := p.2) ho hc hus (Z6t hget hxs) hcaps hcs hrs (fun b hb => hf b (by simp only [lays, AOp.isD, AOp.names, span] at hb ⊢; simp; omega)) (fun v w1 hq => k v w1 ?_)
     exact Fin'.of_eff e2.symm (hq.wide (fun b hb => by simp only [lays, AOp.isD, AOp.names, span] at hb ⊢; simp; omega))
 | dcall d f xs =>
   obtain ⟨c, ho, hc, hxs⟩ := Z3r ok
   simp only [step, doDc] at e
   obtain ⟨⟨rs, h', n'⟩, hr, e1⟩ := Z3 e
   simp only [Option.some.injEq] at e1
   have hr' : E.dc f (evs σ xs ++ []) σ.h (σ.n + tot) = some (rs, h', n') := by rw [List.append_nil]; exact hr
   refine Z5w hE H hB (us := []) (caps := []) ho hc rfl (Z6t hget hxs) .nil hr' (fun b hb => hf b (by simpa [lays, AOp.isD] using hb)) (fun v w1 hn hq => k v w1 ?_)
   obtain ⟨ρ', S', M, H', r, hnew⟩ := hq
   subst e1
   exact ⟨_, rfl, ρ', S', M.wide (fun b hb => by simpa [lays, AOp.isD] using hb), H', r, .inr ⟨by simp only; omega, hnew⟩⟩
 | dcf d f xs =>
   obtain ⟨c, ho, hc, hxs⟩ := Z3r ok
   simp only [step, Zmb] at e
   obtain ⟨⟨rs, h', n'⟩, hr, e1⟩ := Z3 e
   split at e1
   case isFalse => cases e1
   simp only [Option.some.injEq] at e1
   have hr' : E.df f (evs σ xs ++ []) σ.h (σ.n + tot) = some (rs, h', n') := by rw [List.append_nil]; exact hr
   refine Zqi hE H hB (us := []) (caps := []) ho hc rfl (Z6t hget hxs) .nil hr' (fun b hb => hf b (by simpa [lays, AOp.isD] using hb)) (fun v w1 hn hq => k v w1 ?_)
   obtain ⟨ρ', S', M, H', r, hnew⟩ := hq
   subst e1
   exact ⟨_, rfl, ρ', S', M.wide (fun b hb => by simpa [lays, AOp.isD] using hb), H', r, .inr ⟨by simp only; omega, hnew⟩⟩
 | dcallv d y xs =>
   obtain ⟨c, x, ho, hc, hyx, hxs⟩ := Zew ok
   simp only [step, doDc] at e
   obtain ⟨p, hp, e0⟩ := Z3 e
   obtain ⟨⟨rs, h', n'⟩, hr, e1⟩ := Z3 e0
   obtain ⟨us, hus, hcaps⟩ := Zrr hp (hget _ _ hyx)
   simp only [Option.some.injEq] at e1
   refine Z5w hE H hB (us := us) (caps := p.2) ho hc hus (Z6t hget hxs) hcaps hr (fun b hb => hf b (by simpa [lays, AOp.isD] using hb)) (fun v w1 hn hq => k v w1 ?_)
   obtain ⟨ρ', S', M, H', r, hnew⟩ := hq
   subst e1
   exact ⟨_, rfl, ρ', S', M.wide (fun b hb => by simpa [lays, AOp.isD] using hb), H', r, .inr ⟨by simp only; omega, hnew⟩⟩
 | app d nm t s x =>
   simp only [step] at e
   obtain ⟨ys, hys, e1⟩ := Z3 e
   simp only [okOp] at ok
   split at ok
   · rename_i c ho
     split at ok
     · rename_i p q t1 t2 hc hargs htys
       simp only [Bool.and_eq_true] at ok
       obtain ⟨⟨h1, h2⟩, h3⟩ := ok
       obtain ⟨v, w', hr, u, hu, hq⟩ := Zi2 (ty := o.type) H hB (hget _ _ h1) (hget _ _ h2) hys (hf _ (by simp [lays, AOp.isD, AOp.names, span])) h3 e1
       have hrun : (execOp a.eval o).run P w = .ok (.value v) w' := by
        simp [execOp, ho, resolve, hc, Y36 hargs, tys2 htys, invoke, builtin, hr]
       exact Yv hrun (k _ _ (Fin'.of_eff (u := u) hu (hq.wide (fun b hb => by simpa [lays, AOp.isD, AOp.names] using hb))))
     · cases ok
   · cases ok
 | clr t zs x =>
   simp only [step] at e
   simp only [okOp] at ok
   split at ok
   · rename_i c ho
     split at ok
     · rename_i p t1 hc hargs htys
       simp only [Bool.and_eq_true] at ok
       obtain ⟨h1, h3⟩ := ok
       obtain ⟨w', hr, hu, hq⟩ := Zup (ty := o.type) H (hget _ _ h1) h3 e
       have hrun : (execOp a.eval o).run P w = .ok (.value (.tuple #[])) w' := by
        simp [execOp, ho, resolve, hc, Y69 hargs, tys1 htys, invoke, builtin, hr]
       exact Yv hrun (k _ _ (Fin'.of_eff (u := .und) hu (hq.wide (fun b hb => hb.elim))))
     · cases ok
   · cases ok
 | no why => simp [step, AOp.yields, bnd] at e
 | _ =>
   simp only [step, AOp.yields, X6] at e
   obtain ⟨u, hu, e1⟩ := Z3 e
   simp only [Option.some.injEq] at e1
   obtain ⟨v, hr, hq⟩ := Zo3 H (ev' := a.eval) (fun x y v e1 e2 => by simp only [Option.some.injEq] at e2; subst e2; exact hget x y e1)
    (fun q x y b e1 e2 hq => Y4c (hget x y e1) hq e2) rfl ok hu
   exact Yv hr (k _ _ (Fin'.of_eff e1.symm ⟨ρ, S, Mv.refl _ _ _ _ _, H, hq⟩))
end Go.Vm
set_option linter.unusedVariables false
set_option linter.unusedSimpArgs false
namespace Go.Vm
open Go.RowKit
variable {P : Program} {ρ ρ' ρ'' : Rho} {S S' S'' : Nat → Prop} {w w' w'' : World} {B N : Nat} {h : Hp} {E : Env}
def G.op : G → AOp
 | .o op => op
 | .g _ _ op => op
def Zwi (N : Nat) : Option Nat → Bool
 | some d => decide (d < N)
 | none => true
def okG (P : Program) (N : Nat) (ops : Array Oper) (o : Oper) (g : G) : Bool :=
 okOp P ops o g.op && decide (o.dst = g.op.dst) && Zwi N o.dst && match g with
  | .o _ => o.guard.isNone
  | .g slot want _ => match o.guard with
    | some (j, w') => (w' == want) && decide ((ops[j]?).bind (·.dst) = some slot)
    | none => false
theorem Zxm {a : A} {x : Value} (r : R P ρ S w a x) : R P ρ S w (unT a) x := by
 unfold unT
 split
 · cases r with
   | ifT a x h => exact h
 · exact r
theorem SW.strip {σ : St} {a : Act} (T : SW P ρ S B N σ a w) : SW P ρ S B N (strip σ) a w := ⟨fun t => Zxm (T.slot t), T.size, T.defers, T.heap, T.le⟩
theorem Y5j {a v : A} {x : Value} (r : R P ρ S w a x) (e : opA true a = some v) : R P ρ S w v x := by
 unfold opA at e
 split at e
 · rename_i g b
   split at e
   · rename_i hi
     simp only [Option.some.injEq] at e
     subst e
     have hg : g = true := by cases g; simp [imp] at hi; rfl
     subst hg
     cases r with
     | ifT a x h => exact h
   · cases e
 · simp only [Option.some.injEq] at e
   subst e
   exact r
theorem Zul {σ : St} {ev' : Operand → Value} (hget : ∀ x y v, Ym x y = true → evp true σ y = some v → R P ρ S w v (ev' x)) : ∀ {xs : List Operand} {ys : List Opd} {as : List A}, Vt xs ys = true → ys.mapM (fun x => evp true σ x) = some as → RL P ρ S w as (xs.map ev')
 | [], [], as, _, e => by simp at e; subst e; exact .nil
 | [], _ :: _, _, e, _ => by simp [Vt] at e
 | _ :: _, [], _, e, _ => by simp [Vt] at e
 | x :: xs, y :: ys, as, ok, e => by
   simp only [Vt, Bool.and_eq_true] at ok
   rw [List.mapM_cons] at e
   cases hv : evp true σ y with
   | none => rw [hv] at e; cases e
   | some v =>
     rw [hv] at e
     cases hvs : ys.mapM (fun x => evp true σ x) with
     | none => simp [hvs] at e
     | some vs =>
       simp [hvs] at e
       subst e
       exact .cons (hget x y v ok.1 hv) (Zul hget ok.2 hvs)
theorem Zf1 : ∀ (zs : List A) (h : Hp) (n : Nat), Z7e zs = false → Zt h n zs = (zs, h)
 | [], h, n, _ => rfl
 | z :: zs, h, n, e => by
   simp only [Z7e, Bool.or_eq_false_iff] at e
   cases z <;> first | (simp [Wl] at e; done) | (simp only [Zt, Zf1 zs h n e.2])
theorem Fin'.under {iv : Nat → Prop} {σ : St} {d : Option Nat} {u : A} {v : Value} {h' : Hp} {D : Bool} (hD : D = false) (q : ∃ ρ' S', Mv B ρ S w ρ' S' w' iv ∧ HR P ρ' S' w' B h' ∧ R P ρ' S' w' u v) : Fin' P B ρ S w iv D σ ⟨put σ.s d (.ifg true u), h', σ.n, σ.base⟩ d v w' := by
 obtain ⟨ρ', S', M, H, r⟩ := q
 exact ⟨_, rfl, ρ', S', M, H, .ifT u v r, .inl ⟨rfl, .inl hD⟩⟩
theorem Zzu {σ σ1 σ' : St} {op : AOp} (h : ∃ u, σ1 = ⟨put (strip σ).s op.dst u, σ1.h, σ1.n, σ.base⟩) (e : back σ op.dst σ1 = some σ') : ∃ u, σ1 = ⟨put (strip σ).s op.dst u, σ1.h, σ1.n, σ.base⟩ ∧ σ' = ⟨put σ.s op.dst u, σ1.h, σ1.n, σ.base⟩ := by
 obtain ⟨u, hu⟩ := h
 refine ⟨u, hu, ?_⟩
 unfold back at e
 simp only [Option.some.injEq] at e
 rw [← e, hu]
 cases op.dst with
 | none => rfl
 | some d => simp [put, Z7]
def isB (want : Bool) : Value → Bool
 | .bool b => b == want
 | _ => false
theorem Zzh {a : A} {x : Value} {want t : Bool} (r : R P ρ S w a x) (e : Wt want a = some t) : isB want x = t := by
 cases r with
 | v x hx =>
   cases x <;> simp only [Wt, reduceCtorEq, Option.some.injEq] at e
   rename_i b
   cases b <;> cases want <;> simp [isB] at e ⊢ <;> exact e
 | und => simp only [Wt, Option.some.injEq] at e; subst e; rfl
 | ifT a x h =>
   cases a <;> simp only [Wt, cond_true, reduceCtorEq] at e
   rename_i y
   cases y <;> simp only [Wt, cond_true, reduceCtorEq, Option.some.injEq] at e
   rename_i b
   cases h with
   | v _ _ => cases b <;> cases want <;> simp [isB] at e ⊢ <;> exact e
 | ifF a =>
   have : t = false := by
    cases a with
    | v y => cases y <;> simp [Wt] at e <;> exact e.symm ▸ rfl
    | _ => simp [Wt] at e; exact e.symm ▸ rfl
   subst this
   rfl
 | _ => simp [Wt] at e
theorem Zbr {σ : St} {a : Act} {ops : Array Oper} {o : Oper} {j slot : Nat} {w1 want t : Bool} (T : SW P ρ S B N σ a w) (hg : o.guard = some (j, w1)) (hw : w1 = want) (hs : (ops[j]?).bind (·.dst) = some slot) (e : test σ slot want = some t) :
 Region.wanted o (yielded ops a.tmps) = t := by
 have h1 := Zzh (T.slot slot) e
 unfold Region.wanted
 rw [hg]
 simp only
 unfold yielded
 rw [hs]
 simp only [Option.bind_some]
 rw [hw]
 rw [Array.getD_eq_getD_getElem?] at h1
 cases hx : a.tmps[slot]? with
 | none => rw [hx] at h1; simp [isB, undef] at h1; subst h1; rfl
 | some x =>
   rw [hx] at h1
   simp only [Option.getD_some] at h1
   rw [← h1]
   cases x <;> first | rfl | (rename_i b; cases b <;> cases want <;> rfl)
theorem Zfs (hE : EnvOk P E) {σ σ' : St} {a : Act} {tot : Nat} {ops : Array Oper} {i : Nat} {o : Oper} {g : G} {Q : Exit → Act → World → Prop} (hi : ops[i]? = some o) (T : SW P ρ S B N σ a w) (ok : okG P N ops o g = true)
 (hf : ∀ b, lays tot σ.n g.op b → ρ b = none) (e : Yc E tot g σ = some σ') {K : Act → World → Prop}
 (k : ∀ v w', Fin' P B ρ S w (lays tot σ.n g.op) g.op.isD σ σ' g.op.dst v w' → K (a.put o.dst v) w') : wpOp P ops Q i K a w := by
 unfold wpOp
 rw [hi]
 simp only [okG, Bool.and_eq_true, decide_eq_true_eq] at ok
 obtain ⟨⟨⟨ok1, ok2⟩, ok3⟩, ok4⟩ := ok
 cases g with
 | o op =>
   simp only [Option.isNone_iff_eq_none] at ok4
   have hw : Region.wanted o (yielded ops a.tmps) = true := by unfold Region.wanted; rw [ok4]
   simp only [hw, if_true]
   exact .inl (Zbl hE T ok1 ok2 hf e k)
 | g slot want op =>
   simp only [G.op] at ok1 ok2 ok3 hf k
   have ok4' : ∃ j w1, o.guard = some (j, w1) ∧ w1 = want ∧ (ops[j]?).bind (·.dst) = some slot := by
    cases hg : o.guard with
    | none => rw [hg] at ok4; simp at ok4
    | some p =>
      obtain ⟨j, w1⟩ := p
      rw [hg] at ok4
      simp only [Bool.and_eq_true, beq_iff_eq, decide_eq_true_eq] at ok4
      exact ⟨j, w1, rfl, ok4.1, ok4.2⟩
   obtain ⟨j, w1, hg, hw, hs⟩ := ok4'
   obtain ⟨t, ht, e1⟩ := Z3 e
   have hwant := Zbr T hg hw hs ht
   simp only [hwant]
   have hget : ∀ x y v, Ym x y = true → evp true σ y = some v → R P ρ S w v (a.eval x) := fun x y v e1 e2 => Y5j (Zbi T.slot e1) e2
   have hpk : ∀ (q : Bool) x y b, Ym x y = true → evq (true && q) σ y = some b → q = true → a.eval x = .bool b := fun q x y b e1 e2 hq => Y4c (Zbi T.slot e1) (by simp [hq]) e2
   cases t with
   | false =>
     simp only [Bool.false_eq_true, if_false]
     refine k undef w ?_
     have fin : ∀ u, R P ρ S w u undef → Fin' P B ρ S w (lays tot σ.n op) op.isD σ ⟨put σ.s op.dst u, σ.h, σ.n, σ.base⟩ op.dst undef w := fun u r => ⟨u, rfl, ρ, S, Mv.refl _ _ _ _ _, T.heap, r, .inl ⟨rfl, .inr fun _ h => h⟩⟩
     split at e1
     · rename_i d hy
       rw [← (Z1h hy).1] at e1
       unfold Xt at e1
       split at e1
       · simp only [Option.some.injEq] at e1; subst e1; exact fin _ (.ifF _)
       · simp only [cond_false, Option.some.injEq] at e1; subst e1; exact fin _ .und
     · unfold Xc at e1
       split at e1
       · simp only [Option.some.injEq] at e1; subst e1; exact fin _ (.ifF _)
       · simp only [cond_false, Option.some.injEq] at e1; subst e1; exact fin _ .und
   | true =>
     simp only [if_true]
     refine .inl ?_
     split at e1
     · rename_i d hy
       have hdst := (Z1h hy).1
       unfold Xt at e1
       split at e1
       · rename_i u hu
         simp only [Option.some.injEq] at e1
         subst e1
         obtain ⟨v, hr, hq⟩ := Zo3 T.heap hget hpk hy ok1 hu
         refine Yv hr (k v w ?_)
         rw [hdst]
         exact Fin'.under (Z1h hy).2.2 ⟨ρ, S, Mv.refl _ _ _ _ _, T.heap, hq⟩
       · cases e1
     · rename_i hy
       unfold Xc at e1
       split at e1
       · rename_i u hu
         simp only [Option.some.injEq] at e1
         subst e1
         cases op <;> first | (simp [AOp.yields] at hy; done) | (simp [Zu] at hu; done) | skip
         · rename_i d nm zs ps
           cases ps with
           | cons p ps => simp [Zu] at hu
           | nil =>
             simp only [Zu] at hu
             split at hu
             · cases hu
             · rename_i hl
               simp only [Option.some.injEq] at hu
               subst hu
               have hl : Z7e zs = false := by simpa using hl
               refine Zbl (σ' := ⟨put σ.s (some d) (.agg zs), σ.h, σ.n, σ.base⟩) hE T ok1 ok2 hf ?_ (fun v w' hq => k v w' ?_)
               · simp [step, Zf1 zs _ _ hl, Zat, bnd, put]
               · obtain ⟨u, hu, ρ', S', M, H', r, _⟩ := hq.ex
                 have hu1 : u = .agg zs := by
                  have := congrFun (congrArg St.s hu) d
                  simp [put, Z7, AOp.dst] at this
                  exact this.symm
                 subst hu1
                 exact Fin'.under rfl ⟨ρ', S', M, H', r⟩
         · rename_i d nm wd f xs
           obtain ⟨c, ho, hc, hxs⟩ := Z3r ok1
           simp only [Zu] at hu
           obtain ⟨rs, hrs, hp⟩ := Z3 hu
           obtain ⟨cs, hcs, hrs⟩ := Z3 hrs
           obtain ⟨as, has, hcs⟩ := Z3 hcs
           unfold Zef at hp
           split at hp
           · rename_i hpl
             simp only [Option.some.injEq] at hp
             subst hp
             obtain ⟨p1, p2, p3⟩ := Zbo hpl
             have hcs' : Z0u σ.h (as ++ []) = some cs := by rw [List.append_nil]; exact hcs
             refine Z76 hE T.heap T.le (n := σ.n) (us := []) (caps := []) ho hc rfl (Zul hget hxs has) .nil hcs' hrs (fun b hb => by rw [p1] at hb; simp [span] at hb; omega) (fun v w1 hq => k v w1 ?_)
             obtain ⟨ρ', S', M, H', r⟩ := hq.ex
             rw [p3] at H' r
             simp only [aft, p2] at H' r
             exact Fin'.under rfl ⟨ρ', S', M.wide (fun b hb => by rw [p1] at hb; simp [span] at hb; omega), H', r⟩
           · cases hp
       · simp only [cond_true] at e1
         obtain ⟨σ1, hs1, e2⟩ := Z3 e1
         refine Zbl hE T.strip ok1 ok2 hf hs1 (fun v w' hq => k v w' ?_)
         obtain ⟨u, hu, ρ', S', M, H', r, hn⟩ := hq.ex
         obtain ⟨u', hu', hσ'⟩ := Zzu ⟨u, hu⟩ e2
         subst hσ'
         cases hd : op.dst with
         | none => exact ⟨u, rfl, ρ', S', M, H', r, hn⟩
         | some d =>
           have : u' = u := by
            have h1 := congrFun (congrArg St.s (hu.symm.trans hu')) d
            simp [put, Z7, hd] at h1
            exact h1.symm
           subst this
           exact ⟨u', rfl, ρ', S', M, H', r, hn⟩
theorem Fin'.SW {iv : Nat → Prop} {σ σ' : St} {a : Act} {D : Bool} {d : Option Nat} {v : Value} (T : SW P ρ S B N σ a w) (q : Fin' P B ρ S w iv D σ σ' d v w') (hd : Zwi N d = true) :
 ∃ ρ' S', Mv B ρ S w ρ' S' w' iv ∧ SW P ρ' S' B N σ' (a.put d v) w' ∧ σ'.base = σ.base ∧ ((σ'.n = σ.n ∧ (D = false ∨ ∀ b, ρ b = none → ρ' b = none)) ∨ (σ.n ≤ σ'.n ∧ ∀ b, σ'.n ≤ b → ρ' b = none)) := by
 obtain ⟨u, hu, ρ', S', M, H', r, hn⟩ := q.ex
 refine ⟨ρ', S', M, ⟨fun t => ?_, ?_, ?_, H', Nat.le_trans T.le M.below.size⟩, by rw [hu], hn⟩
 · rw [hu]
   cases d with
   | none => exact M.R (T.slot t)
   | some d =>
     simp only [put, Z7, Act.put]
     by_cases ht : t = d
     · subst ht
       have hlt : t < a.tmps.size := Nat.lt_of_lt_of_le (by simpa [Zwi] using hd) T.size
       simp [hlt]
       exact r
     · rw [if_neg ht]
       have : (a.tmps.setIfInBounds d v).getD t undef = a.tmps.getD t undef := by
        simp [Array.getD_eq_getD_getElem?, Array.getElem?_setIfInBounds_ne (fun q : d = t => ht q.symm)]
       rw [this]
       exact M.R (T.slot t)
 · cases d with
   | none => exact T.size
   | some d => simp [Act.put, T.size]
 · cases d with
   | none => exact T.defers
   | some d => exact T.defers
end Go.Vm
set_option linter.unusedVariables false
set_option linter.unusedSimpArgs false
namespace Go.Vm
open Go.RowKit
variable {P : Program} {ρ ρ' ρ'' : Rho} {S S' S'' : Nat → Prop} {w w' w'' : World} {B N : Nat} {h : Hp} {E : Env}
theorem Z3t (base : Nat) : ∀ (bs acc : List Nat) (b : Nat), b ∈ Z09 base acc bs ↔ b ∈ acc ∨ (b ∈ bs ∧ base ≤ b)
 | [], acc, b => by simp [Z09]
 | c :: bs, acc, b => by
   unfold Z09
   split
   · rename_i hc
     rw [Z3t base bs acc b]
     constructor
     · rintro (h | ⟨h, h'⟩)
       · exact .inl h
       · exact .inr ⟨List.mem_cons_of_mem _ h, h'⟩
     · rintro (h | ⟨h, h'⟩)
       · exact .inl h
       · rcases List.mem_cons.1 h with rfl | h
         · rcases hc with hc | hc
           · omega
           · exact .inl hc
         · exact .inr ⟨h, h'⟩
   · rename_i hc
     simp only [not_or] at hc
     rw [Z3t base bs (acc ++ [c]) b]
     simp only [List.mem_append, List.mem_cons, List.not_mem_nil, or_false]
     constructor
     · rintro ((h | rfl) | ⟨h, h'⟩)
       · exact .inl h
       · exact .inr ⟨.inl rfl, by omega⟩
       · exact .inr ⟨.inr h, h'⟩
     · rintro (h | ⟨rfl | h, h'⟩)
       · exact .inl (.inl h)
       · exact .inl (.inr rfl)
       · exact .inr ⟨h, h'⟩
structure Names (base : Nat) (ns : List Nat) : Prop where
 nodup : ns.Nodup
 ge : ∀ b ∈ ns, base ≤ b
theorem Z3d (base : Nat) : ∀ (bs acc : List Nat), Names base acc → Names base (Z09 base acc bs)
 | [], acc, H => H
 | c :: bs, acc, H => by
   unfold Z09
   split
   · exact Z3d base bs acc H
   · rename_i hc
     simp only [not_or] at hc
     refine Z3d base bs _ ⟨?_, fun b hb => ?_⟩
     · rw [List.nodup_append]
       exact ⟨H.nodup, by simp, fun x hx y hy e => by simp at hy; subst hy; subst e; exact hc.2 hx⟩
     · simp only [List.mem_append, List.mem_singleton] at hb
       rcases hb with hb | rfl
       · exact H.ge b hb
       · omega
theorem Z88 (base : Nat) (s : Nat → A) : ∀ (L acc : List Nat), Names base acc → Names base (Z0c base s acc L)
 | [], acc, H => H
 | i :: is, acc, H => Z88 base s is _ (Z3d base _ acc H)
theorem Zc6 (base : Nat) (s : Nat → A) : ∀ (L acc : List Nat) (b : Nat), b ∈ acc → b ∈ Z0c base s acc L
 | [], acc, b, h => h
 | i :: is, acc, b, h => Zc6 base s is _ b ((Z3t base _ acc b).2 (.inl h))
theorem Zbg (base : Nat) (s : Nat → A) : ∀ (L acc : List Nat) (i b : Nat), i ∈ L → b ∈ Z4x (s i) → base ≤ b → b ∈ Z0c base s acc L
 | [], acc, i, b, h, _, _ => by simp at h
 | j :: is, acc, i, b, h, hb, hge => by
   unfold Z0c
   rcases List.mem_cons.1 h with rfl | h
   · exact Zc6 base s is _ b ((Z3t base _ acc b).2 (.inr ⟨hb, hge⟩))
   · exact Zbg base s is _ i b h hb hge
theorem Zbv (base : Nat) (h : Hp) : ∀ (n : Nat) (acc : List Nat), Names base acc → Names base (Z53 base h n acc)
 | 0, acc, H => H
 | n + 1, acc, H => Zbv base h n _ (Z3d base _ acc H)
theorem Zkg (base : Nat) (h : Hp) : ∀ (n : Nat) (acc : List Nat) (b : Nat), b ∈ acc → b ∈ Z53 base h n acc
 | 0, acc, b, hb => hb
 | n + 1, acc, b, hb => Zkg base h n _ b ((Z3t base _ acc b).2 (.inl hb))
def Z29 (base : Nat) (ρ : Rho) (ns : List Nat) : Rho := fun i => if i < base then ρ i else match ns[i - base]? with
 | some b => ρ b
 | none => none
theorem Zqz : ∀ (ns : List Nat) (b k : Nat), b ∈ ns → k ≤ posn ns b k ∧ ns[posn ns b k - k]? = some b
 | [], b, k, h => by simp at h
 | a :: as, b, k, h => by
   unfold posn
   split
   · rename_i hab
     subst hab
     simp
   · rename_i hab
     rcases List.mem_cons.1 h with rfl | h
     · exact absurd rfl hab
     · obtain ⟨h1, h2⟩ := Zqz as b (k + 1) h
       refine ⟨by omega, ?_⟩
       rw [show posn as b (k + 1) - k = (posn as b (k + 1) - (k + 1)) + 1 by omega]
       simpa using h2
theorem Zr7 {base : Nat} {ns : List Nat} {b : Nat} (h : b < base ∨ b ∈ ns) : Z29 base ρ ns (nw base ns b) = ρ b := by
 unfold nw
 split
 · rename_i hb; simp [Z29, hb]
 · rename_i hb
   rcases h with h | h
   · exact absurd h hb
   · obtain ⟨h1, h2⟩ := Zqz ns b base h
     unfold Z29
     rw [if_neg (by omega), h2]
theorem Zyh {base : Nat} {ns : List Nat} {a : A} {x : Value} (r : R P ρ S w a x) (hn : ∀ b ∈ nmIn a, b < base ∨ b ∈ ns) : R P (Z29 base ρ ns) S w (ren1 base ns a) x := by
 cases r with
 | bad x => exact .bad x
 | err tp x => exact .err tp x
 | und => exact .und
 | v x h => exact .v x h
 | lit ty rows a cap Y h1 h2 h3 h4 => exact .lit ty rows a cap Y h1 h2 h3 h4
 | ref ty b off len cap ex k sz c a hb h2 h3 h4 h5 h6 h7 => exact .ref ty _ off len cap ex k sz c a (by rw [Zr7 (hn b (by simp [nmIn]))]; exact hb) h2 h3 h4 h5 h6 h7
 | nil ty b ex hb => exact .nil ty _ ex (by rw [Zr7 (hn b (by simp [nmIn]))]; exact hb)
 | ptr b i j k sz hb => exact .ptr _ i j k sz (by rw [Zr7 (hn b (by simp [nmIn]))]; exact hb)
 | pl row j k o Y h1 h2 h3 => exact .pl row j k o Y h1 h2 h3
 | fn f c vs h0 h1 h2 => exact .bad _
 | agg cs vs h1 h2 => exact .bad _
 | tup cs vs h1 h2 => exact .bad _
 | ifT a x h => exact .bad _
 | ifF a => exact .bad _
theorem Zm2 {base : Nat} {ns : List Nat} : ∀ {as : List A} {vs : List Value}, RL P ρ S w as vs → (∀ b ∈ Z5x as, b < base ∨ b ∈ ns) → RL P (Z29 base ρ ns) S w (Zmo base ns as) vs
 | [], vs, r, _ => by rw [r.inv_nil]; exact .nil
 | a :: as, vs, r, hn => by
   obtain ⟨x, xs, rfl, r1, r2⟩ := r.inv_cons
   exact .cons (Zyh r1 (fun b hb => hn b (by simp [Z5x, hb]))) (Zm2 r2 (fun b hb => hn b (by simp [Z5x, hb])))
theorem Zex {base : Nat} {ns : List Nat} : ∀ {as : List A}, Wf as = true → Wf (Zmo base ns as) = true
 | [], _ => rfl
 | a :: as, e => by
   simp only [Wf, Bool.and_eq_true] at e
   simp only [Zmo, Wf, Bool.and_eq_true]
   refine ⟨?_, Zex e.2⟩
   cases a <;> first | rfl | (simp [Zmr] at e)
theorem Y22 {base : Nat} {ns : List Nat} {a : A} {x : Value} (r : R P ρ S w a x) (hn : ∀ b ∈ Z4x a, b < base ∨ b ∈ ns) : R P (Z29 base ρ ns) S w (ren base ns a) x := by
 cases a with
 | fn f caps =>
   cases r with
   | fn f caps vs hp hl hr =>
     have q := Zm2 (base := base) (ns := ns) ⟨hl, hr⟩ hn
     exact .fn f _ vs (Zex hp) q.len q.at_
 | agg cs =>
   cases r with
   | agg cs vs hl hr =>
     have q := Zm2 (base := base) (ns := ns) ⟨hl, hr⟩ hn
     exact .agg _ vs q.len q.at_
 | tup cs => exact .bad _
 | ifg g b => exact .bad _
 | _ => exact Zyh r hn
theorem Zvk {base : Nat} {ns : List Nat} {a : A} (h : Z0q a = true) : Z0q (ren base ns a) = true := by
 cases a <;> first | rfl | (simp [Z0q] at h; done) | skip
theorem Zfd {base : Nat} {ns : List Nat} : ∀ (as : List A) (i : Nat) (x : A), (rens base ns as)[i]? = some x → ∃ y, as[i]? = some y ∧ x = ren base ns y
 | [], i, x, h => by simp [rens] at h
 | a :: as, i, x, h => by
   cases i with
   | zero => simp [rens] at h; exact ⟨a, rfl, h.symm⟩
   | succ i => simp only [rens, List.getElem?_cons_succ] at h; exact Zfd as i x h
theorem Zoj {base : Nat} {ns : List Nat} : ∀ (as : List A), (rens base ns as).length = as.length
 | [] => rfl
 | a :: as => by simp [rens, Zoj as]
theorem Z9f : ∀ {as : List A} {i : Nat} {x : A} {b : Nat}, as[i]? = some x → b ∈ Z4x x → b ∈ Z6q as
 | [], i, x, b, h, _ => by simp at h
 | a :: as, i, x, b, h, hb => by
   simp only [Z6q, List.mem_append]
   cases i with
   | zero => simp at h; subst h; exact .inl hb
   | succ i => exact .inr (Z9f (by simpa using h) hb)
theorem Z41 : ∀ {rows : List (List A)} {i : Nat} {row : List A} {b : Nat}, rows[i]? = some row → b ∈ Z6q row → b ∈ Yh rows
 | [], i, x, b, h, _ => by simp at h
 | r :: rs, i, x, b, h, hb => by
   simp only [Yh, List.mem_append]
   cases i with
   | zero => simp at h; subst h; exact .inl hb
   | succ i => exact .inr (Z41 (by simpa using h) hb)
theorem Zbn (base : Nat) (h : Hp) (ns : List Nat) : ∀ (bs : List Nat) (k : Nat) (h' : Hp) (i : Nat), (∀ j, k ≤ j → h' j = none) →
 Z40 base h h' ns bs k i = if i < k then h' i else match bs[i - k]? with
  | some b => (h b).map (Z4p base ns)
  | none => none
 | [], k, h', i, hn => by
   simp only [Z40]
   split
   · rfl
   · simp; exact hn i (by omega)
 | b :: bs, k, h', i, hn => by
   unfold Z40
   have step : ∀ g : Hp, (∀ j, k + 1 ≤ j → g j = none) → (∀ j, j < k → g j = h' j) → g k = (h b).map (Z4p base ns) → Z40 base h g ns bs (k + 1) i = if i < k then h' i else match (b :: bs)[i - k]? with
    | some b => (h b).map (Z4p base ns)
    | none => none := by
    intro g hg hl hk
    rw [Zbn base h ns bs (k + 1) g i hg]
    by_cases h1 : i < k
    · rw [if_pos (by omega), if_pos h1, hl i h1]
    · rw [if_neg h1]
      by_cases h2 : i = k
      · subst h2
        rw [if_pos (by omega), hk]
        simp
      · rw [if_neg (by omega), show i - k = (i - (k + 1)) + 1 by omega]
        simp
   cases hb : h b with
   | some blk =>
     simp only
     refine step _ (fun j hj => ?_) (fun j hj => ?_) ?_
     · rw [upd, if_neg (by omega)]; exact hn j (by omega)
     · rw [upd, if_neg (by omega)]
     · simp [upd, hb]
   | none =>
     simp only
     refine step _ (fun j hj => hn j (by omega)) (fun j hj => rfl) ?_
     rw [hb, hn k (Nat.le_refl _)]; rfl
theorem Zhx {base : Nat} {ns : List Nat} {f : Nat → Value} {s : Nat → A} (hs : ∀ t, R P ρ S w (s t) (f t)) : ∀ (L : List Nat) (s' : Nat → A), (∀ t, R P (Z29 base ρ ns) S w (s' t) (f t)) → (∀ i ∈ L, ∀ b ∈ Z4x (s i), b < base ∨ b ∈ ns) →
 ∀ t, R P (Z29 base ρ ns) S w (Z45 base ns s s' L t) (f t)
 | [], s', h', hn, t => h' t
 | i :: is, s', h', hn, t => by
   unfold Z45
   refine Zhx hs is _ (fun u => ?_) (fun j hj => hn j (List.mem_cons_of_mem _ hj)) t
   unfold upd
   split
   · rename_i hu; subst hu; exact Y22 (hs _) (hn _ List.mem_cons_self)
   · exact h' u
theorem Ze3 {h : Hp} : ∀ {ns : List Nat} {b b' : Nat}, b ∈ ns → b' ∈ below h b → b' ∈ Vs h ns
 | [], b, b', h, _ => by simp at h
 | n :: ns, b, b', hb, hb' => by
   simp only [Vs, List.mem_append]
   rcases List.mem_cons.1 hb with rfl | hb
   · exact .inl hb'
   · exact .inr (Ze3 hb hb')
theorem R.lowR1 {base : Nat} {ns : List Nat} {a : A} {x : Value} (r : R P ρ S w a x) (hn : ∀ b ∈ nmIn a, b < base) (hf : ∀ f c, a ≠ .fn f c) (ha : ∀ c, a ≠ .agg c) (ht : ∀ c, a ≠ .tup c) (hi : ∀ g c, a ≠ .ifg g c) : R P (Z29 base ρ ns) S w a x := by
 cases r with
 | bad x => exact .bad x
 | err tp x => exact .err tp x
 | und => exact .und
 | v x h => exact .v x h
 | lit ty rows a cap Y h1 h2 h3 h4 => exact .lit ty rows a cap Y h1 h2 h3 h4
 | ref ty b off len cap ex k sz c a hb h2 h3 h4 h5 h6 h7 => exact .ref ty _ off len cap ex k sz c a (by simp [Z29, hn b (by simp [nmIn])]; exact hb) h2 h3 h4 h5 h6 h7
 | nil ty b ex hb => exact .nil ty _ ex (by simp [Z29, hn b (by simp [nmIn])]; exact hb)
 | ptr b i j k sz hb => exact .ptr _ i j k sz (by simp [Z29, hn b (by simp [nmIn])]; exact hb)
 | pl row j k o Y h1 h2 h3 => exact .pl row j k o Y h1 h2 h3
 | fn f c vs h0 h1 h2 => exact absurd rfl (hf f c)
 | agg cs vs h1 h2 => exact absurd rfl (ha cs)
 | tup cs vs h1 h2 => exact absurd rfl (ht cs)
 | ifT a x h => exact absurd rfl (hi _ _)
 | ifF a => exact absurd rfl (hi _ _)
theorem Zmm : ∀ {as : List A} {i : Nat} {x : A}, Wf as = true → as[i]? = some x → Zmr x = true
 | [], i, x, _, h => by simp at h
 | a :: as, i, x, e, h => by
   simp only [Wf, Bool.and_eq_true] at e
   cases i with
   | zero => simp at h; subst h; exact e.1
   | succ i => exact Zmm e.2 (by simpa using h)
theorem Zc3 : ∀ {as : List A} {i : Nat} {x : A} {b : Nat}, as[i]? = some x → b ∈ nmIn x → b ∈ Z5x as
 | [], i, x, b, h, _ => by simp at h
 | a :: as, i, x, b, h, hb => by
   simp only [Z5x, List.mem_append]
   cases i with
   | zero => simp at h; subst h; exact .inl hb
   | succ i => exact .inr (Zc3 (by simpa using h) hb)
theorem R.lowR {base : Nat} {ns : List Nat} {a : A} {x : Value} (r : R P ρ S w a x) (hc : Z0q a = true) (hn : ∀ b ∈ Z4x a, b < base) : R P (Z29 base ρ ns) S w a x := by
 cases a with
 | fn f caps =>
   cases r with
   | fn f caps vs hp hl hr =>
     refine .fn f caps vs hp hl (fun i x y h1 h2 => ?_)
     have hcx := Zmm hp h1
     refine (hr i x y h1 h2).lowR1 (fun b hb => hn b (Zc3 h1 hb)) ?_ ?_ ?_ ?_ <;> intros <;> intro q <;> subst q <;> simp [Zmr] at hcx
 | agg cs => simp [Z0q] at hc
 | tup cs => simp [Z0q] at hc
 | ifg g b => simp [Z0q] at hc
 | _ => exact r.lowR1 hn (by simp) (by simp) (by simp) (by simp)
def Lo (base : Nat) (h : Hp) : Prop := ∀ b, b < base → ∀ k, h b = some k → k.box = true → ∀ b' ∈ Yh k.rows, b' < base
theorem BR.ren {base : Nat} {ns : List Nat} {blk : Blk} {k sz : Nat} (b : BR P ρ S w B blk k sz) (hn : blk.box = true → ∀ b' ∈ Yh blk.rows, b' < base ∨ b' ∈ ns) : BR P (Z29 base ρ ns) S w B (Z4p base ns blk) k sz := by
 unfold Z4p
 split
 · rename_i hbox
   refine ⟨b.sz_eq, b.base, b.own, b.not_own, fun i row hr => ?_, ?_⟩
   · simp only [List.getElem?_map, Option.map_eq_some_iff] at hr
     obtain ⟨row0, h0, rfl⟩ := hr
     obtain ⟨q1, q2⟩ := b.rows i row0 h0
     refine ⟨by rw [Zoj]; exact q1, Yp.2 (fun x hx => ?_)⟩
     obtain ⟨i, hi⟩ := List.getElem?_of_mem hx
     obtain ⟨y, hy, rfl⟩ := Zfd _ _ _ hi
     exact Zvk (Yp.1 q2 y (List.mem_of_getElem? hy))
   · obtain ⟨c, hc, hs, hcell⟩ := b.heap
     refine ⟨c, hc, by simpa using hs, fun i row j x h1 h2 => ?_⟩
     simp only [List.getElem?_map, Option.map_eq_some_iff] at h1
     obtain ⟨row0, h0, rfl⟩ := h1
     obtain ⟨y, hy, rfl⟩ := Zfd _ _ _ h2
     obtain ⟨v, hv, hr⟩ := hcell i row0 j y h0 hy
     rw [hbox] at hr
     refine ⟨v, hv, ?_⟩
     simp only [hbox, inR, cond_true] at hr ⊢
     exact Y22 hr (fun b' hb' => hn hbox b' (Z41 h0 (Z9f hy hb')))
 · rename_i hbox
   have hbox : blk.box = false := by simpa using hbox
   obtain ⟨c, hc, hs, hcell⟩ := b.heap
   refine ⟨b.sz_eq, b.base, b.own, b.not_own, b.rows, c, hc, hs, fun i row j x h1 h2 => ?_⟩
   obtain ⟨v, hv, hr⟩ := hcell i row j x h1 h2
   rw [hbox] at hr ⊢
   exact ⟨v, hv, hr⟩
theorem Zc0 {L : List Nat} {σ σ' : St} {a : Act} (T : SW P ρ S B N σ a w) (hlo : Lo σ.base σ.h) (e : canon L σ = some σ') :
 ∃ ρ', SW P ρ' S B N σ' a w ∧ (∀ b, b < σ.base → ρ' b = ρ b) ∧ (∀ b, σ'.n ≤ b → ρ' b = none) ∧ σ'.base = σ.base ∧ σ.base ≤ σ'.n := by
 unfold canon Zcs at e
 have hns : Names σ.base (Z53 σ.base σ.h 2 (Z0c σ.base σ.s [] L)) := Zbv _ _ _ _ (Z88 _ _ _ _ ⟨List.nodup_nil, fun b h => by simp at h⟩)
 have hslots : ∀ i ∈ L, ∀ b ∈ Z4x (σ.s i), b < σ.base ∨ b ∈ Z53 σ.base σ.h 2 (Z0c σ.base σ.s [] L) := fun i hi b hb => by
  rcases Nat.lt_or_ge b σ.base with h | h
  · exact .inl h
  · exact .inr (Zkg _ _ _ _ _ (Zbg _ _ _ _ i b hi hb h))
 generalize hN : Z53 σ.base σ.h 2 (Z0c σ.base σ.s [] L) = ns at e hns hslots
 cases hcl : Zam σ.base σ.h ns with
 | false => rw [hcl] at e; cases e
 | true =>
   rw [hcl] at e
   simp only [cond_true, Option.some.injEq] at e
   subst e
   have hcl' : ∀ b ∈ Vs σ.h ns, b < σ.base ∨ b ∈ ns := by
    intro b hb
    have := List.all_eq_true.1 hcl b hb
    simpa using this
   have H := T.heap
   refine ⟨Z29 σ.base ρ ns, ⟨Zhx T.slot L _ (fun t => .bad _) hslots, T.size, T.defers, ?_, T.le⟩, fun b hb => by simp [Z29, hb], fun b hb => ?_, rfl, by simp⟩
   · -- the rows
     have hat : ∀ b blk, Z40 σ.base σ.h (low σ.base σ.h) ns ns σ.base b = some blk → (b < σ.base ∧ σ.h b = some blk) ∨ (∃ b0 blk0, σ.base ≤ b ∧ ns[b - σ.base]? = some b0 ∧ σ.h b0 = some blk0 ∧ blk = Z4p σ.base ns blk0) := by
      intro b blk hb
      rw [Zbn _ _ _ _ _ _ _ (fun j hj => by simp [low]; omega)] at hb
      split at hb
      · rename_i hlt
        simp [low, hlt] at hb
        exact .inl ⟨hlt, hb⟩
      · rename_i hge
        split at hb
        · rename_i b0 h0
          simp only [Option.map_eq_some_iff] at hb
          obtain ⟨blk0, h1, rfl⟩ := hb
          exact .inr ⟨b0, blk0, by omega, h0, h1, rfl⟩
        · cases hb
     have hrho : ∀ b b0, σ.base ≤ b → ns[b - σ.base]? = some b0 → Z29 σ.base ρ ns b = ρ b0 := fun b b0 h1 h2 => by
      unfold Z29
      rw [if_neg (by omega), h2]
     refine ⟨fun b blk hb => ?_, fun b b' k sz sz' blk blk' e1 e2 e3 e4 => ?_, H.old, H.glob⟩
     · rcases hat b blk hb with ⟨hlt, h1⟩ | ⟨b0, blk0, hge, h0, h1, rfl⟩
       · have hr : Z29 σ.base ρ ns b = ρ b := by simp [Z29, hlt]
         rw [hr]
         rcases H.at_ b blk h1 with ⟨k, sz, hb', hB⟩ | hv
         · refine .inl ⟨k, sz, hb', ?_⟩
           have hmono : ∀ {x y}, R P (inR blk.box ρ) S w x y → (blk.box = true → ∀ b' ∈ Z4x x, b' < σ.base) → Z0q x = true → R P (inR blk.box (Z29 σ.base ρ ns)) S w x y := by
            intro x y r hx hcx
            cases hbox : blk.box with
            | false => rw [hbox] at r; exact r
            | true =>
              rw [hbox] at r
              exact R.lowR r hcx (hx hbox)
           obtain ⟨c, hc, hs, hcell⟩ := hB.heap
           refine ⟨hB.sz_eq, hB.base, hB.own, hB.not_own, hB.rows, c, hc, hs, fun i row j x q1 q2 => ?_⟩
           obtain ⟨v, hv, hr'⟩ := hcell i row j x q1 q2
           exact ⟨v, hv, hmono hr' (fun hbox b' hb' => hlo b hlt blk h1 hbox b' (Z41 q1 (Z9f q2 hb'))) (Yp.1 (hB.rows i row q1).2 x (List.mem_of_getElem? q2))⟩
         · exact .inr hv
       · rw [hrho b b0 hge h0]
         have hmem : b0 ∈ ns := List.mem_of_getElem? h0
         rcases H.at_ b0 blk0 h1 with ⟨k, sz, hb', hB⟩ | ⟨hb', hr, hx⟩
         · refine .inl ⟨k, sz, hb', hB.ren (fun hbox b' hb'' => hcl' b' (Ze3 hmem ?_))⟩
           simp only [below, h1, hbox, if_true]
           exact hb''
         · refine .inr ⟨hb', ?_, ?_⟩ <;> simp [Z4p, hx, hr]
     · have src : ∀ b blk k sz, Z40 σ.base σ.h (low σ.base σ.h) ns ns σ.base b = some blk → Z29 σ.base ρ ns b = some (some (k, sz)) → ∃ b0 blk0, σ.h b0 = some blk0 ∧ ρ b0 = some (some (k, sz)) ∧ ((b < σ.base ∧ b0 = b) ∨ (σ.base ≤ b ∧ ns[b - σ.base]? = some b0)) := by
        intro b blk k sz e1 e3
        rcases hat b blk e1 with ⟨hlt, h1⟩ | ⟨b0, blk0, hge, h0, h1, _⟩
        · have hr : Z29 σ.base ρ ns b = ρ b := by simp [Z29, hlt]
          rw [hr] at e3
          exact ⟨b, blk, h1, e3, .inl ⟨hlt, rfl⟩⟩
        · rw [hrho b b0 hge h0] at e3
          exact ⟨b0, blk0, h1, e3, .inr ⟨hge, h0⟩⟩
       obtain ⟨c1, k1, p1, r1, s1⟩ := src b blk k sz e1 e3
       obtain ⟨c2, k2, p2, r2, s2⟩ := src b' blk' k sz' e2 e4
       have hc := H.inj c1 c2 k sz sz' k1 k2 p1 p2 r1 r2
       subst hc
       rcases s1 with ⟨l1, rfl⟩ | ⟨g1, o1⟩ <;> rcases s2 with ⟨l2, q2⟩ | ⟨g2, o2⟩
       · exact q2
       · have := hns.ge _ (List.mem_of_getElem? o2); omega
       · have := hns.ge _ (List.mem_of_getElem? o1); omega
       · have i1 := (List.getElem?_eq_some_iff.1 o1).1
         have i2 := (List.getElem?_eq_some_iff.1 o2).1
         rw [List.getElem?_eq_getElem i1] at o1
         rw [List.getElem?_eq_getElem i2] at o2
         simp only [Option.some.injEq] at o1 o2
         have hp := List.pairwise_iff_getElem.1 hns.nodup
         rcases Nat.lt_trichotomy (b - σ.base) (b' - σ.base) with hlt | heq | hgt
         · exact absurd (o1.trans o2.symm) (hp _ _ i1 i2 hlt)
         · omega
         · exact absurd (o2.trans o1.symm) (hp _ _ i2 i1 hgt)
   · unfold Z29
     simp only at hb
     rw [if_neg (by omega), List.getElem?_eq_none (by omega)]
end Go.Vm
set_option linter.unusedVariables false
set_option linter.unusedSimpArgs false
namespace Go.Vm
theorem Shr.refl (base : Nat) (h : Hp) : Shr base h h := fun b _ k e hb => ⟨k, e, hb, fun _ h => h⟩
theorem Shr.trans {base : Nat} {h h' h'' : Hp} (a : Shr base h h') (c : Shr base h' h'') : Shr base h h'' := fun b hb k e hx => by
 obtain ⟨k1, e1, x1, n1⟩ := c b hb k e hx
 obtain ⟨k2, e2, x2, n2⟩ := a b hb k1 e1 x1
 exact ⟨k2, e2, x2, fun b' h => n2 b' (n1 b' h)⟩
theorem Shr.mono {base base' : Nat} {h h' : Hp} (a : Shr base h h') (hb : base' ≤ base) : Shr base' h h' := fun b h => a b (by omega)
theorem Shr.of_same {base : Nat} {h h' : Hp} (a : ∀ b, b < base → h' b = h b) : Shr base h h' := fun b hb k e hx => ⟨k, (a b hb).symm.trans e, hx, fun _ h => h⟩
theorem Shr.frz (base : Nat) (h : Hp) (bs : List Nat) : Shr base h (frz h bs) := fun b hb k e hx => by
 rw [Zac] at e
 cases e0 : h b with
 | none => rw [e0] at e; cases e
 | some k0 =>
   rw [e0] at e
   simp only [Option.some.injEq] at e
   subst e
   refine ⟨k0, rfl, ?_, fun b' h => ?_⟩
   · split at hx <;> exact hx
   · split at h <;> exact h
theorem Shr.upd_ge {base n : Nat} {h : Hp} {x : Option Blk} (hn : base ≤ n) : Shr base h (upd h n x) := Shr.of_same fun b hb => by rw [upd, if_neg (by omega)]
theorem Shr.kill {base b0 : Nat} {h : Hp} : Shr base h (upd h b0 none) := fun b hb k e hx => by
 unfold upd at e
 split at e
 · cases e
 · exact ⟨k, e, hx, fun _ h => h⟩
theorem Shr.nobox {base b0 : Nat} {h : Hp} {k0 : Blk} (hk : k0.box = false) : Shr base h (upd h b0 (some k0)) := fun b hb k e hx => by
 unfold upd at e
 split at e
 · simp only [Option.some.injEq] at e; subst e; rw [hk] at hx; cases hx
 · exact ⟨k, e, hx, fun _ h => h⟩
theorem Z2h : ∀ (zs : List A) (h : Hp) (n b : Nat), b < n → (Zt h n zs).2 b = h b
 | [], h, n, b, _ => rfl
 | z :: zs, h, n, b, hb => by
   cases z with
   | lit ty r =>
     simp only [Zt]
     rw [Z2h zs _ (n + 1) b (by omega), upd, if_neg (by omega)]
   | _ => simp only [Zt]; exact Z2h zs h n b hb
theorem Z43 : ∀ (as : List A) (h : Hp) (n b : Nat), b < n → (Zs h n as).2 b = h b
 | [], h, n, b, _ => rfl
 | a :: as, h, n, b, hb => by
   cases a with
   | olit ty r =>
     simp only [Zs]
     rw [Z43 as _ (n + 1) b (by omega), upd, if_neg (by omega)]
   | _ => simp only [Zs]; exact Z43 as h n b hb
theorem Zle (a : A) (h : Hp) (n b : Nat) (hb : b < n) : (Z1x h n a).2 b = h b := by
 cases a with
 | agg cs => exact Z43 cs h n b hb
 | olit ty r => simp only [Z1x]; rw [upd, if_neg (by omega)]
 | _ => rfl
theorem Z4y : ∀ (as : List A) (h : Hp) (n b : Nat), b < n → (Zz h n as).2 b = h b
 | [], h, n, b, _ => rfl
 | a :: as, h, n, b, hb => by
   simp only [Zz]
   rw [Z4y as _ _ b (by omega), Zle a h n b hb]
theorem Zbs : ∀ {cs : List A}, Zch 0 cs = false → ∀ x ∈ cs, Z4x x = []
 | [], _, x, h => by simp at h
 | c :: cs, e, x, h => by
   simp only [Zch, Bool.or_eq_false_iff] at e
   rcases List.mem_cons.1 h with rfl | h
   · cases x <;> simp [Zz6] at e <;> rfl
   · exact Zbs e.2 x h
theorem Zq9 {as : List A} {b : Nat} : b ∈ Z6q as ↔ ∃ x ∈ as, b ∈ Z4x x := by
 induction as with
 | nil => simp [Z6q]
 | cons a as ih => simp [Z6q, ih]
theorem Z83 {rows : List (List A)} {b : Nat} : b ∈ Yh rows ↔ ∃ r ∈ rows, ∃ x ∈ r, b ∈ Z4x x := by
 induction rows with
 | nil => simp [Yh]
 | cons r rs ih => simp [Yh, ih, Zq9]
theorem Zc9 {base : Nat} {h h' : Hp} {p x : A} {n : Nat} (e : storeAt base h p n x = some h') : Shr base h h' := by
 unfold storeAt at e
 split at e
 · rename_i b i j
   obtain ⟨k, hk, e1⟩ := Z3 e
   obtain ⟨row, hrow, e2⟩ := Z3 e1
   unfold Z4c at e2
   split at e2
   · split at e2
     · rename_i hbox
       split at e2
       · cases e2
       · rename_i hfar
         simp only [Option.some.injEq] at e2
         subst e2
         intro b1 hb1 k1 q1 hx
         unfold upd at q1
         split at q1
         · rename_i hbb
           subst hbb
           simp only [Option.some.injEq] at q1
           subst q1
           refine ⟨k, hk, hbox, fun b' hb' => ?_⟩
           have hfree : Zch 0 x.cells = false := by
            cases hq : Zch 0 x.cells with
            | false => rfl
            | true => exact absurd ⟨hb1, hq⟩ hfar
           rw [Z83] at hb' ⊢
           obtain ⟨r, hr, y, hy, hby⟩ := hb'
           rcases List.mem_or_eq_of_mem_set hr with hr | hr
           · exact ⟨r, hr, y, hy, hby⟩
           · subst hr
             unfold Z1y at hy
             simp only [List.mem_append] at hy
             rcases hy with (hy | hy) | hy
             · exact ⟨row, List.mem_of_getElem? hrow, y, List.mem_of_mem_take hy, hby⟩
             · rw [Zbs hfree y hy] at hby; simp at hby
             · exact ⟨row, List.mem_of_getElem? hrow, y, List.mem_of_mem_drop hy, hby⟩
         · exact ⟨k1, q1, hx, fun _ h => h⟩
     · rename_i hbox
       obtain ⟨cs, hcs, e3⟩ := Z3 e2
       simp only [Option.some.injEq] at e3
       subst e3
       exact (Shr.nobox (by simpa using hbox)).trans (Shr.frz _ _ _)
   · cases e2
 · cases e
structure Keeps (σ σ' : St) : Prop where
 base : σ'.base = σ.base
 n : σ.n ≤ σ'.n
 shr : Shr σ.base σ.h σ'.h
theorem Keeps.refl (σ : St) : Keeps σ σ := ⟨rfl, Nat.le_refl _, Shr.refl _ _⟩
theorem Keeps.trans {a b c : St} (h : Keeps a b) (k : Keeps b c) : Keeps a c := ⟨k.base.trans h.base, Nat.le_trans h.n k.n, h.shr.trans (h.base ▸ k.shr)⟩
def Z1f (E : Env) : Prop := (∀ f as h n rs h' n', E.dc f as h n = some (rs, h', n') → Shr n h h' ∧ n ≤ n') ∧ ∀ f as h n rs h' n', E.df f as h n = some (rs, h', n') → n ≤ n'
variable {E : Env}
theorem Zvr {σ σ' : St} {d nm e : Nat} {ys : List (List A)} {a : A} (hb : σ.base ≤ σ.n) (eq : appA σ d nm e ys a = some σ') : Keeps σ σ' := by
 unfold appA at eq
 split at eq
 · obtain ⟨k, hk, e1⟩ := Z3 eq
   split at e1
   · rename_i hc
     split at e1
     · simp only [Option.some.injEq] at e1; subst e1
       exact ⟨rfl, Nat.le_refl _, Shr.kill.trans (Shr.upd_ge (by omega))⟩
     · split at e1
       · simp only [Option.some.injEq] at e1; subst e1
         exact ⟨rfl, Nat.le_refl _, Shr.nobox hc.2.1⟩
       · cases e1
   · cases e1
 · cases eq
theorem Zeh {σ σ' : St} {d : Option Nat} {nm w f : Nat} {as : List A} (hb : σ.base ≤ σ.n) (eq : Z2d E σ d nm w f as = some σ') : Keeps σ σ' := by
 unfold Z2d at eq
 obtain ⟨xs, _, e1⟩ := Z3 eq
 obtain ⟨rs, _, e2⟩ := Z3 e1
 split at e2
 · cases e2
 · simp only [Option.some.injEq] at e2; subst e2
   refine ⟨rfl, Nat.le_refl _, Shr.trans (h' := aft σ.h as rs) ?_ (Shr.of_same fun b hb' => Z4y _ _ _ _ (by omega))⟩
   unfold aft
   split
   · exact Shr.frz _ _ _
   · exact Shr.refl _ _
theorem Zba {E : Env} {N : List Nat} {f : Nat} {as : List A} {h : Hp} {n : Nat} {r : List A × Hp × Nat} (e : (chk E N).dc f as h n = some r) : E.dc f as h n = some r ∧ Za7 N h r.2.1 := by
 obtain ⟨r', hr, e1⟩ := Z3 e
 split at e1
 · rename_i hk
   cases e1
   exact ⟨hr, hk⟩
 · cases e1
theorem Zt5 (hE : Z1f E) (N : List Nat) : Z1f (chk E N) := ⟨fun f as h n rs h' n' e => hE.1 f as h n rs h' n' (Zba e).1, hE.2⟩
theorem Zp2 (hE : Z1f E) {σ σ' : St} {tot : Nat} {d : Option Nat} {f : Nat} {as : List A} (hb : σ.base ≤ σ.n) (eq : doDc E tot σ d f as = some σ') : Keeps σ σ' := by
 unfold doDc at eq
 obtain ⟨⟨rs, h', n'⟩, hr, e1⟩ := Z3 eq
 simp only [Option.some.injEq] at e1; subst e1
 obtain ⟨q1, q2⟩ := hE.1 _ _ _ _ _ _ _ hr
 exact ⟨rfl, by simp only; omega, q1.mono (by omega)⟩
theorem Zoi (hE : Z1f E) {σ σ' : St} {tot : Nat} {op : AOp} (hb : σ.base ≤ σ.n) (e : step E tot op σ = some σ') : Keeps σ σ' := by
 cases op with
 | mvn d nm ty => simp only [step, Option.some.injEq] at e; subst e; exact ⟨rfl, Nat.le_refl _, Shr.upd_ge (by omega)⟩
 | al d nm ty zs =>
   simp only [step, Option.some.injEq] at e; subst e
   exact ⟨rfl, Nat.le_refl _, Shr.trans (Shr.of_same fun b hb' => Z2h zs _ _ _ (by omega)) (Shr.upd_ge (by omega))⟩
 | box d nm ty n x =>
   simp only [step] at e
   split at e
   · simp only [Option.some.injEq] at e; subst e; exact ⟨rfl, Nat.le_refl _, Shr.upd_ge (by omega)⟩
   · cases e
 | bld d nm zs ps =>
   simp only [step] at e
   obtain ⟨cs, _, e1⟩ := Z3 e
   simp only [Option.some.injEq] at e1; subst e1
   exact ⟨rfl, Nat.le_refl _, Shr.of_same fun b hb' => Z2h zs _ _ _ (by omega)⟩
 | bsl d nm ty n xs =>
   simp only [step] at e
   obtain ⟨cs, _, e1⟩ := Z3 e
   simp only [Option.some.injEq] at e1; subst e1
   exact ⟨rfl, Nat.le_refl _, (Shr.upd_ge (by omega)).trans (Shr.frz _ _ _)⟩
 | st n p x =>
   simp only [step] at e
   obtain ⟨hh, h1, e1⟩ := Z3 e
   simp only [Option.some.injEq] at e1; subst e1
   exact ⟨rfl, Nat.le_refl _, Zc9 h1⟩
 | stn nm ty p =>
   simp only [step] at e
   obtain ⟨hh, h1, e1⟩ := Z3 e
   simp only [Option.some.injEq] at e1; subst e1
   exact ⟨rfl, Nat.le_refl _, (Shr.upd_ge (by omega)).trans (Zc9 h1)⟩
 | mkf d f caps =>
   simp only [step] at e
   split at e
   · simp only [Option.some.injEq] at e; subst e; exact ⟨rfl, Nat.le_refl _, Shr.refl _ _⟩
   · cases e
 | mks d nm ty zs l c =>
   simp only [step] at e
   unfold mksA at e
   split at e
   · split at e
     · simp only [Option.some.injEq] at e; subst e; exact ⟨rfl, Nat.le_refl _, Shr.upd_ge (by omega)⟩
     · cases e
   · cases e
 | sl d t x lo hi mx =>
   simp only [step] at e
   obtain ⟨u, _, e1⟩ := Z3 e
   simp only [Option.some.injEq] at e1; subst e1; exact ⟨rfl, Nat.le_refl _, Shr.refl _ _⟩
 | call d nm w f xs => exact Zeh hb e
 | mkb d nm ty zs l c =>
   simp only [step] at e
   unfold mkbA at e
   split at e
   · split at e
     · simp only [Option.some.injEq] at e; subst e; exact ⟨rfl, Nat.le_refl _, Shr.upd_ge (by omega)⟩
     · cases e
   · cases e
 | bsb d nm ty n xs =>
   simp only [step] at e
   obtain ⟨cs, _, e1⟩ := Z3 e
   simp only [Option.some.injEq] at e1; subst e1
   exact ⟨rfl, Nat.le_refl _, Shr.upd_ge (by omega)⟩
 | bll d ty n xs =>
   simp only [step] at e
   obtain ⟨rows, _, e1⟩ := Z3 e
   simp only [Option.some.injEq] at e1; subst e1; exact ⟨rfl, Nat.le_refl _, Shr.refl _ _⟩
 | apb d nm t s x =>
   simp only [step] at e
   obtain ⟨ys, _, e1⟩ := Z3 e
   unfold appG at e1
   split at e1
   · obtain ⟨k, _, e2⟩ := Z3 e1
     split at e2
     · split at e2
       · simp only [Option.some.injEq] at e2; subst e2
         exact ⟨rfl, Nat.le_refl _, Shr.kill.trans (Shr.upd_ge (by omega))⟩
       · split at e2
         · rename_i hq; cases hq.2
         · cases e2
     · cases e2
   · cases e1
 | callx d nm w f xs =>
   simp only [step, Z2q] at e
   obtain ⟨p, _, e1⟩ := Z3 e
   obtain ⟨rs, _, e2⟩ := Z3 e1
   split at e2
   · cases e2
   · simp only [Option.some.injEq] at e2; subst e2
     exact ⟨rfl, Nat.le_refl _, Shr.of_same fun b hb' => Z4y _ _ _ _ (by omega)⟩
 | dcs d f xs =>
   simp only [step, Zmj] at e
   obtain ⟨⟨rs, h', n'⟩, hr, e1⟩ := Z3 e
   obtain ⟨p, _, e2⟩ := Z3 e1
   simp only [Option.some.injEq] at e2; subst e2
   obtain ⟨q1, q2⟩ := hE.1 _ _ _ _ _ _ _ hr
   exact ⟨rfl, by simp only; omega, (q1.mono (by omega)).trans (Shr.frz _ _ _)⟩
 | callv d nm w y xs =>
   simp only [step] at e
   obtain ⟨p, _, e1⟩ := Z3 e
   exact Zeh hb e1
 | dcall d f xs => exact Zp2 hE hb e
 | dcf d f xs =>
   simp only [step, Zmb] at e
   obtain ⟨⟨rs, h', n'⟩, hr, e1⟩ := Z3 e
   split at e1
   · rename_i hq
     simp only [Option.some.injEq] at e1; subst e1
     have := hE.2 _ _ _ _ _ _ _ hr
     exact ⟨rfl, by simp only; omega, hq⟩
   · cases e1
 | dcallv d y xs =>
   simp only [step] at e
   obtain ⟨p, _, e1⟩ := Z3 e
   exact Zp2 hE hb e1
 | app d nm t s x =>
   simp only [step] at e
   obtain ⟨ys, _, e1⟩ := Z3 e
   exact Zvr hb e1
 | clr t zs x =>
   simp only [step] at e
   unfold clrA at e
   split at e
   · obtain ⟨k, hk, e1⟩ := Z3 e
     split at e1
     · rename_i hc
       simp only [Option.some.injEq] at e1; subst e1; exact ⟨rfl, Nat.le_refl _, Shr.nobox hc.2.1⟩
     · cases e1
   · cases e
 | no why => simp [step, AOp.yields, bnd] at e
 | _ =>
   simp only [step, AOp.yields, X6] at e
   obtain ⟨u, _, e1⟩ := Z3 e
   simp only [Option.some.injEq] at e1; subst e1; exact ⟨rfl, Nat.le_refl _, Shr.refl _ _⟩
theorem Zuc (hE : Z1f E) {σ σ' : St} {tot : Nat} {g : G} (hb : σ.base ≤ σ.n) (e : Yc E tot g σ = some σ') : Keeps σ σ' := by
 cases g with
 | o op => exact Zoi hE hb e
 | g slot want op =>
   obtain ⟨t, _, e1⟩ := Z3 e
   split at e1
   · unfold Xt at e1
     split at e1
     · simp only [Option.some.injEq] at e1; subst e1; exact ⟨rfl, Nat.le_refl _, Shr.refl _ _⟩
     · cases t
       · simp only [cond_false, Option.some.injEq] at e1; subst e1; exact ⟨rfl, Nat.le_refl _, Shr.refl _ _⟩
       · cases e1
   · unfold Xc at e1
     split at e1
     · simp only [Option.some.injEq] at e1; subst e1; exact ⟨rfl, Nat.le_refl _, Shr.refl _ _⟩
     · cases t
       · simp only [cond_false, Option.some.injEq] at e1; subst e1; exact ⟨rfl, Nat.le_refl _, Shr.refl _ _⟩
       · simp only [cond_true] at e1
         obtain ⟨σ1, h1, e2⟩ := Z3 e1
         have := Zoi hE (σ := strip σ) hb h1
         unfold back at e2
         simp only [Option.some.injEq] at e2; subst e2
         exact ⟨this.base, this.n, this.shr⟩
theorem Z2p (hE : Z1f E) {tot : Nat} : ∀ {gs : List G} {σ σ' : St}, σ.base ≤ σ.n → Za E tot gs σ = some σ' → Keeps σ σ'
 | [], σ, σ', _, e => by simp only [Za, Option.some.injEq] at e; subst e; exact Keeps.refl _
 | g :: gs, σ, σ', hb, e => by
   obtain ⟨σ1, h1, e1⟩ := Z3 e
   have k := Zuc hE hb h1
   exact k.trans (Z2p hE (by have := k.base; have := k.n; omega) e1)
theorem Z86 {L : List Nat} {σ σ' : St} (e : canon L σ = some σ') : σ'.base = σ.base ∧ σ.base ≤ σ'.n ∧ Shr σ.base σ.h σ'.h := by
 unfold canon Zcs at e
 generalize Z53 σ.base σ.h 2 (Z0c σ.base σ.s [] L) = ns at e
 cases hcl : Zam σ.base σ.h ns with
 | false => rw [hcl] at e; cases e
 | true =>
   rw [hcl] at e
   simp only [cond_true, Option.some.injEq] at e
   subst e
   refine ⟨rfl, by simp, Shr.of_same fun b hb => ?_⟩
   simp only
   rw [Zbn _ _ _ _ _ _ _ (fun j hj => by simp [low]; omega), if_pos hb]
   simp [low, hb]
def Out.st : Out → St
 | .norm σ => σ
 | .exit _ σ => σ
 | .ret σ => σ
structure KeepsX (σ σ' : St) : Prop where
 base : σ'.base = σ.base
 n : σ'.base ≤ σ'.n
 shr : Shr σ.base σ.h σ'.h
theorem KeepsX.trans {a b c : St} (h : KeepsX a b) (k : KeepsX b c) : KeepsX a c := ⟨k.base.trans h.base, k.n, h.shr.trans (h.base ▸ k.shr)⟩
theorem KeepsX.refl {σ : St} (h : σ.base ≤ σ.n) : KeepsX σ σ := ⟨rfl, h, Shr.refl _ _⟩
theorem Z28 {tot : Nat} {o : Option St} {out : Out} (e : nrm tot o = some out) : ∃ σ, o = some σ ∧ out = .norm { σ with n := σ.n + tot } := by
 cases o with
 | none => cases e
 | some σ => simp only [nrm, Option.some.injEq] at e; exact ⟨σ, rfl, e.symm⟩
theorem Z6c {o : Option Out} {k : St → Option Out} {out : Out} (e : seqO o k = some out) : (∃ σ, o = some (.norm σ) ∧ k σ = some out) ∨ (o = some out ∧ ∀ σ, out ≠ .norm σ) := by
 unfold seqO at e
 split at e
 · exact .inl ⟨_, rfl, e⟩
 · rename_i h
   refine .inr ⟨e, fun σ q => h σ ?_⟩
   rw [e, q]
theorem Zjj {f : St → Option Out} {L : List Nat} (hf : ∀ σ out, σ.base ≤ σ.n → f σ = some out → KeepsX σ out.st) : ∀ (k : Nat) (σ : St) (out : Out), σ.base ≤ σ.n → Z9 f L k σ = some out → KeepsX σ out.st
 | 0, σ, out, _, e => by cases e
 | k + 1, σ, out, hb, e => by
   rcases Z6c e with ⟨σ1, h1, e1⟩ | ⟨h1, _⟩
   · have q := hf σ _ hb h1
     obtain ⟨σ2, h2, e2⟩ := Z3 e1
     obtain ⟨c1, c2, c3⟩ := Z86 h2
     have q2 : KeepsX σ1 σ2 := ⟨c1, by omega, c3⟩
     exact (q.trans q2).trans (Zjj hf k σ2 out (by omega) e2)
   · exact hf σ _ hb h1
theorem Wp (hE : Z1f E) : ∀ (c : ACode) (σ : St) (out : Out), σ.base ≤ σ.n → exec E c σ = some out → KeepsX σ out.st
 | .sk, σ, out, hb, e => by simp only [exec, Option.some.injEq] at e; subst e; exact KeepsX.refl hb
 | .rg tot dr ops, σ, out, hb, e => by
   obtain ⟨σ1, h1, rfl⟩ := Z28 e
   have k := Z2p hE hb h1
   exact ⟨k.base, by have := k.base; have := k.n; simp [Out.st]; omega, k.shr⟩
 | .rgs tot sep ops, σ, out, hb, e => by
   obtain ⟨σ1, h1, rfl⟩ := Z28 e
   obtain ⟨σ2, h2, h3⟩ := Z3 h1
   cases hs : seps σ2 sep with
   | false => rw [hs] at h3; cases h3
   | true =>
     rw [hs] at h3
     simp only [cond_true, Option.some.injEq] at h3
     subst h3
     have k := Z2p hE hb h2
     exact ⟨k.base, by have := k.base; have := k.n; simp [Out.st]; omega, k.shr⟩
 | .rgk tot sep keep ops, σ, out, hb, e => by
   obtain ⟨σ1, h1, rfl⟩ := Z28 e
   obtain ⟨σ2, h2, h3⟩ := Z3 h1
   cases hs : seps σ2 sep && Z13 σ2 (Z1w σ keep) sep with
   | false => rw [hs] at h3; cases h3
   | true =>
     rw [hs] at h3
     simp only [cond_true, Option.some.injEq] at h3
     subst h3
     have k := Z2p (Zt5 hE _) hb h2
     exact ⟨k.base, by have := k.base; have := k.n; simp [Out.st]; omega, k.shr⟩
 | .sq a b, σ, out, hb, e => by
   rcases Z6c e with ⟨σ1, h1, e1⟩ | ⟨h1, _⟩
   · have q := Wp hE a σ _ hb h1
     exact q.trans (Wp hE b σ1 out q.n e1)
   · exact Wp hE a σ out hb h1
 | .ite c a b, σ, out, hb, e => by
   obtain ⟨q, hq, e1⟩ := Z3 e
   cases q
   · exact Wp hE b σ out hb e1
   · exact Wp hE a σ out hb e1
 | .bl id c, σ, out, hb, e => by
   simp only [exec] at e
   unfold blO at e
   split at e
   · rename_i id' σ1 h1
     have q := Wp hE c σ _ hb h1
     split at e <;> (simp only [Option.some.injEq] at e; subst e; exact q)
   · exact Wp hE c σ out hb e
 | .lp L c, σ, out, hb, e => by
   obtain ⟨σ1, h1, e1⟩ := Z3 e
   obtain ⟨c1, c2, c3⟩ := Z86 h1
   have q : KeepsX σ σ1 := ⟨c1, by omega, c3⟩
   exact q.trans (Zjj (fun σ out => Wp hE c σ out) _ σ1 out (by omega) e1)
 | .xt id, σ, out, hb, e => by simp only [exec, Option.some.injEq] at e; subst e; exact KeepsX.refl hb
 | .rt, σ, out, hb, e => by simp only [exec, Option.some.injEq] at e; subst e; exact KeepsX.refl hb
 | .no _, σ, out, hb, e => by cases e
theorem Z8w {α : Type} {o : Option Out} {k : St → Option α} {r : α} (e : endO o k = some r) : ∃ σ, (o = some (.norm σ) ∨ o = some (.ret σ)) ∧ k σ = some r := by
 unfold endO at e
 split at e
 · exact ⟨_, .inl rfl, e⟩
 · exact ⟨_, .inr rfl, e⟩
 · cases e
theorem Znw {e : Nat} {as : List A} {h : Hp} {n : Nat} {rs : List A} {h' : Hp} {n' : Nat} (eq : insF e as h n = some (rs, h', n')) :
 ∃ b cap ex i b2 cap2 ex2 k k2 row, as = [.ref e b 0 k.rows.length cap ex, .v (.int .i64 (i : Nat)), .ref e b2 0 1 cap2 ex2] ∧ h b = some k ∧ h b2 = some k2 ∧ k2.rows[0]? = some row ∧
  k.own = true ∧ k.box = false ∧ k.ty = e ∧ k2.box = false ∧ k2.ty = e ∧ b ≠ b2 ∧ i ≤ k.rows.length ∧ k.rows.length + 1 ≤ big ∧
  rs = [.ref e n 0 (k.rows.length + 1) (k.rows.length + 1) false] ∧ h' = upd (upd h b none) n (some ⟨e, k.rows.take i ++ row :: k.rows.drop i, true, false⟩) ∧ n' = n + 1 := by
 unfold insF at eq
 split at eq
 · rename_i ty b len cap ex i ty2 b2 cap2 ex2
   obtain ⟨k, hk, e1⟩ := Z3 eq
   obtain ⟨k2, hk2, e2⟩ := Z3 e1
   obtain ⟨row, hrow, e3⟩ := Z3 e2
   split at e3
   · rename_i hc
     obtain ⟨rfl, rfl, c1, c2, c3, rfl, c4, c5, c6, c7, c8, c9⟩ := hc
     simp only [Option.some.injEq, Prod.mk.injEq] at e3
     obtain ⟨rfl, rfl, rfl⟩ := e3
     obtain ⟨j, rfl⟩ : ∃ j : Nat, i = (j : Int) := ⟨i.toNat, by omega⟩
     exact ⟨b, cap, ex, j, b2, cap2, ex2, k, k2, row, rfl, hk, hk2, hrow, by simpa using c1, c2, c3, c4, c5, c6, by omega, c9, rfl, rfl, rfl⟩
   · cases e3
 · cases eq
theorem Zx1 {e : Nat} {as : List A} {h : Hp} {n : Nat} {rs : List A} {h' : Hp} {n' : Nat} (eq : insF e as h n = some (rs, h', n')) : Shr n h h' ∧ n ≤ n' := by
 obtain ⟨b, cap, ex, i, b2, cap2, ex2, k, k2, row, _, hk, _, _, _, _, _, _, _, _, _, _, _, rfl, rfl⟩ := Znw eq
 exact ⟨Shr.kill.trans (Shr.upd_ge (Nat.le_refl _)), Nat.le_succ _⟩
def noLp : ACode → Bool
 | .lp _ _ => false
 | .sq a b | .ite _ a b => noLp a && noLp b
 | .bl _ c => noLp c
 | _ => true
theorem Z4q (hE : Z1f E) : ∀ (c : ACode) (σ : St) (out : Out), noLp c = true → σ.base ≤ σ.n → exec E c σ = some out → σ.n ≤ out.st.n
 | .sk, σ, out, _, hb, e => by simp only [exec, Option.some.injEq] at e; subst e; exact Nat.le_refl _
 | .rg tot dr ops, σ, out, _, hb, e => by
   obtain ⟨σ1, h1, rfl⟩ := Z28 e
   have k := (Z2p hE hb h1).n
   simp only [Out.st]; omega
 | .rgs tot sep ops, σ, out, _, hb, e => by
   obtain ⟨σ1, h1, rfl⟩ := Z28 e
   obtain ⟨σ2, h2, h3⟩ := Z3 h1
   cases hs : seps σ2 sep with
   | false => rw [hs] at h3; cases h3
   | true =>
     rw [hs] at h3
     simp only [cond_true, Option.some.injEq] at h3
     subst h3
     have k := (Z2p hE hb h2).n
     simp only [Out.st]; omega
 | .rgk tot sep keep ops, σ, out, _, hb, e => by
   obtain ⟨σ1, h1, rfl⟩ := Z28 e
   obtain ⟨σ2, h2, h3⟩ := Z3 h1
   cases hs : seps σ2 sep && Z13 σ2 (Z1w σ keep) sep with
   | false => rw [hs] at h3; cases h3
   | true =>
     rw [hs] at h3
     simp only [cond_true, Option.some.injEq] at h3
     subst h3
     have k := (Z2p (Zt5 hE _) hb h2).n
     simp only [Out.st]; omega
 | .sq a b, σ, out, hf, hb, e => by
   simp only [noLp, Bool.and_eq_true] at hf
   rcases Z6c e with ⟨σ1, h1, e1⟩ | ⟨h1, _⟩
   · have q := Z4q hE a σ _ hf.1 hb h1
     have k := Wp hE a σ _ hb h1
     have r := Z4q hE b σ1 out hf.2 k.n e1
     simp only [Out.st] at q
     omega
   · exact Z4q hE a σ out hf.1 hb h1
 | .ite c a b, σ, out, hf, hb, e => by
   simp only [noLp, Bool.and_eq_true] at hf
   obtain ⟨q, hq, e1⟩ := Z3 e
   cases q
   · exact Z4q hE b σ out hf.2 hb e1
   · exact Z4q hE a σ out hf.1 hb e1
 | .bl id c, σ, out, hf, hb, e => by
   simp only [exec] at e
   unfold blO at e
   split at e
   · rename_i id' σ1 h1
     have q := Z4q hE c σ _ hf hb h1
     split at e <;> (simp only [Option.some.injEq] at e; subst e; exact q)
   · exact Z4q hE c σ out hf hb e
 | .lp L c, σ, out, hf, hb, e => by cases hf
 | .xt id, σ, out, _, hb, e => by simp only [exec, Option.some.injEq] at e; subst e; exact Nat.le_refl _
 | .rt, σ, out, _, hb, e => by simp only [exec, Option.some.injEq] at e; subst e; exact Nat.le_refl _
 | .no _, σ, out, _, hb, e => by cases e
theorem Zcu (p : Prog) (hf : ∀ f fn, p.fl f = some fn → noLp fn.code = true) : ∀ d, Z1f ⟨den p d, dcl p d, dfl p d⟩
 | 0 => ⟨fun f as h n rs h' n' e => (by simp [dcl] at e), fun f as h n rs h' n' e => (by simp [dfl] at e)⟩
 | d + 1 => ⟨fun f as h n rs h' n' e => by
   simp only [dcl] at e
   split at e
   · exact Zx1 e
   · split at e
     · obtain ⟨r, hr, e1⟩ := Z3 e
       split at e1
       · rename_i hq
         simp only [Option.some.injEq] at e1
         subst e1
         exact hq
       · cases e1
     · split at e
       · cases e
       · rename_i fn hfn
         obtain ⟨σ, ho, hk⟩ := Z8w e
         obtain ⟨vs, _, h1⟩ := Z3 hk
         simp only [Option.some.injEq, Prod.mk.injEq] at h1
         obtain ⟨_, rfl, rfl⟩ := h1
         have q : KeepsX ⟨slots as, h, n, n⟩ σ := by
          rcases ho with ho | ho
          · exact Wp (Zcu p hf d) _ _ _ (Nat.le_refl _) ho
          · exact Wp (Zcu p hf d) _ _ _ (Nat.le_refl _) ho
         exact ⟨q.shr, by have := q.base; have := q.n; simp only at *; omega⟩, fun f as h n rs h' n' e => by
   simp only [dfl] at e
   split at e
   · cases e
   · rename_i fn hfn
     obtain ⟨σ, ho, hk⟩ := Z8w e
     obtain ⟨vs, _, h1⟩ := Z3 hk
     simp only [Option.some.injEq, Prod.mk.injEq] at h1
     obtain ⟨_, _, rfl⟩ := h1
     rcases ho with ho | ho
     · exact Z4q (Zcu p hf d) _ _ _ (hf f fn hfn) (Nat.zero_le _) ho
     · exact Z4q (Zcu p hf d) _ _ _ (hf f fn hfn) (Nat.zero_le _) ho⟩
end Go.Vm
end
