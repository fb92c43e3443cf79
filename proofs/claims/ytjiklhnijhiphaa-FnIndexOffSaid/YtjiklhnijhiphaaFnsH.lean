/-
  Lists in order; draws of an index and an entry; the laws FnIndexOff and FnIndexPut in the abstract machine
-/
import Derived.Test.YtjiklhnijhiphaaFnsE
import Derived.Test.YtjiklhnijhiphaaFnsG
section
set_option linter.unusedVariables false
set_option linter.unusedSimpArgs false
namespace Go.Vm.T
/-! ### the values of an index stand in order -/
def NoLess (a b : Ent) : Prop := valLess b.v a.v = false
theorem le_trans' {a b c : Val} (h1 : valLess b a = false) (h2 : valLess c b = false) : valLess c a = false := by
  cases h : valLess c a with
  | false => rfl
  | true =>
    cases h3 : valLess b c with
    | true => have := valLess_trans _ _ _ h3 h; rw [h1] at this; cases this
    | false => have := valLess_total _ _ h3 h2; subst this; rw [h1] at h; cases h
theorem chain_pair : ∀ (es : List Ent) (a : Ent), chain (some a) es = true → (a :: es).Pairwise NoLess
  | [], a, _ => by simp
  | e :: es, a, h => by
    have he : chain (some a) (e :: es) = (chOk (some a) e && chain (some e) es) := rfl
    rw [he, Bool.and_eq_true] at h
    have ih := chain_pair es e h.2
    have h1 := h.1
    unfold chOk at h1
    simp only [Bool.and_eq_true] at h1
    have hl := entLess_v h1.2
    rw [List.pairwise_cons]
    refine ⟨fun x hx => ?_, ih⟩
    rcases List.mem_cons.1 hx with rfl | hx
    · exact hl
    · exact le_trans' hl ((List.pairwise_cons.1 ih).1 x hx)
theorem ok_pair {es : List Ent} (h : indexOk es = true) : es.Pairwise NoLess := by
  unfold indexOk at h
  rw [Bool.and_eq_true] at h
  cases es with
  | nil => exact .nil
  | cons e es =>
    have he : chain none (e :: es) = (chOk none e && chain (some e) es) := rfl
    have h1 := h.1
    rw [he, Bool.and_eq_true] at h1
    exact chain_pair es e h1.2
abbrev cnt (v : Val) (es : List Ent) : Nat := (es.filter fun x => decide (x.v = v)).length
theorem once_iff : ∀ (es : List Ent) (a : Ent) (i : Nat), (a :: es).Pairwise NoLess → ((∃ q, runI onceG i (some a) es = .inl q) ↔ ∀ v : Val, ¬ v.k = 0 → cnt v (a :: es) ≤ 1)
  | [], a, i, _ => by
    refine ⟨fun _ v _ => ?_, fun _ => ⟨some a, rfl⟩⟩
    have := List.length_filter_le (fun x : Ent => decide (x.v = v)) [a]
    simpa using this
  | e :: es, a, i, hp => by
    have hp' := List.pairwise_cons.1 hp
    have hp2 := List.pairwise_cons.1 hp'.2
    unfold runI onceG
    by_cases ht : twice (some a) e = true
    · simp only [ht, if_true]
      unfold twice at ht
      simp at ht
      refine ⟨fun hq => (by obtain ⟨q, h⟩ := hq; cases h), fun h => absurd (h e.v ht.1) ?_⟩
      simp [cnt, List.filter_cons, ht.2]
    · simp only [ht, Bool.false_eq_true, if_false]
      rw [show (fun (_ : Nat) p e => if twice p e = true then (Sum.inr () : Option Ent ⊕ Unit) else Sum.inl (some e)) = onceG from rfl, once_iff es e (i + 1) hp'.2]
      unfold twice at ht
      simp at ht
      refine ⟨fun h v hv => ?_, fun h v hv => ?_⟩
      · by_cases hav : a.v = v
        · subst hav
          have hz : ((e :: es).filter fun x => decide (x.v = a.v)) = [] := by
            rw [List.filter_eq_nil_iff]
            intro x hx
            rw [decide_eq_true_eq]
            intro hxv
            have hea : valLess e.v a.v = false := hp'.1 e (by simp)
            have hek : e.v = a.v := by
              rcases List.mem_cons.1 hx with rfl | hx
              · exact hxv
              · have := hp2.1 x hx
                unfold NoLess at this
                rw [hxv] at this
                exact valLess_total _ _ hea this
            exact absurd hek (ht (by rw [hek]; exact hv))
          simp only [cnt, List.filter_cons, decide_true, if_true] at hz ⊢
          rw [List.length_cons, hz]
          simp
        · have := h v hv
          simpa [cnt, List.filter_cons, hav] using this
      · have := h v hv
        have hle : cnt v (e :: es) ≤ cnt v (a :: e :: es) := by
          by_cases hav : a.v = v <;> simp [cnt, List.filter_cons, hav]
        omega
theorem once_all {es : List Ent} (h : indexOk es = true) : indexOnce es = es.all (fun e => decide (e.v.k = 0) || decide ((foundA (fun w => decide (w = e.v)) es).length = 1)) := by
  have hp := ok_pair h
  have hf : ∀ v : Val, (foundA (fun w => decide (w = v)) es).length = cnt v es := fun v => by
    unfold foundA
    rw [if_pos h]
    unfold foundL
    rw [List.length_map]
  have key : (∃ q, runI onceG 0 none es = .inl q) ↔ ∀ v : Val, ¬ v.k = 0 → cnt v es ≤ 1 := by
    cases es with
    | nil => exact ⟨fun _ _ _ => by simp [cnt], fun _ => ⟨none, rfl⟩⟩
    | cons e es =>
      have : runI onceG 0 none (e :: es) = runI onceG 1 (some e) es := by rw [runI]; rfl
      rw [this]
      exact once_iff es e 1 hp
  have hi : indexOnce es = true ↔ ∃ q, runI onceG 0 none es = .inl q := by
    unfold indexOnce
    rw [h, Bool.and_true]
    cases runI onceG 0 none es with
    | inl q => simp
    | inr q => simp
  rw [Bool.eq_iff_iff, hi, key, List.all_eq_true]
  refine ⟨fun hv e he => ?_, fun hv v hk => ?_⟩
  · rw [Bool.or_eq_true, decide_eq_true_eq, decide_eq_true_eq, hf]
    by_cases hk : e.v.k = 0
    · exact .inl hk
    · have h1 := hv e.v hk
      have h2 : 0 < cnt e.v es := List.length_pos_of_mem (List.mem_filter.2 ⟨he, by simp⟩)
      exact .inr (by omega)
  · cases hc : es.filter (fun x => decide (x.v = v)) with
    | nil => simp [cnt, hc]
    | cons e r =>
      have he : e ∈ es.filter (fun x => decide (x.v = v)) := by rw [hc]; simp
      have he2 := List.mem_filter.1 he
      have hev : e.v = v := by simpa using he2.2
      have := hv e he2.1
      rw [Bool.or_eq_true, decide_eq_true_eq, decide_eq_true_eq, hf, hev] at this
      rcases this with h | h
      · exact absurd h hk
      · omega
/-! ### spans -/
theorem span_none {l h : Val} (hl : valLess h l = true) (v : Val) : inSpan l h v = false := by
  unfold inSpan
  cases h1 : valLess v l with
  | true => rfl
  | false =>
    cases h2 : valLess h v with
    | true => rfl
    | false => have := le_trans' h1 h2; rw [hl] at this; cases this
theorem foundL_at (P : Val → Bool) (es : List Ent) (i : Nat) (e : Ent) (h : es[i]? = some e) : foundL P es = foundL P (es.take i) ++ ((if P e.v then [e.id] else []) ++ foundL P (es.drop (i + 1))) := by
  have hi := (List.getElem?_eq_some_iff.1 h).1
  have he := (List.getElem?_eq_some_iff.1 h).2
  conv => lhs; rw [← List.take_append_drop i es, List.drop_eq_getElem_cons hi, he]
  unfold foundL
  rw [List.filter_append, List.map_append, List.filter_cons]
  cases P e.v <;> simp
theorem foundL_take (P : Val → Bool) (es : List Ent) (i : Nat) (e : Ent) (h : es[i]? = some e) : foundL P (es.take (i + 1)) = foundL P (es.take i) ++ (if P e.v then [e.id] else []) := by
  rw [List.take_add_one, h]
  unfold foundL
  rw [List.filter_append, List.map_append]
  cases hp : P e.v <;> simp [hp, List.filter_cons]
end Go.Vm.T
end

section
set_option linter.unusedVariables false
set_option linter.unusedSimpArgs false
namespace Go.Vm.T
/-! ### the order of entries -/
def EL (a b : Ent) : Prop := entLess a b = true
theorem el_irr (a : Ent) : entLess a a = false := by unfold entLess; simp
theorem el_iff (a b : Ent) : entLess a b = true ↔ valLess a.v b.v = true ∨ (a.v = b.v ∧ a.id < b.id) := by
  unfold entLess
  by_cases h : a.v = b.v
  · rw [h, valLess_self]; simp
  · simp [h]
theorem el_trans {a b c : Ent} (h1 : entLess a b = true) (h2 : entLess b c = true) : entLess a c = true := by
  rw [el_iff] at *
  rcases h1 with h1 | ⟨e1, h1⟩
  · rcases h2 with h2 | ⟨e2, h2⟩
    · exact .inl (valLess_trans _ _ _ h1 h2)
    · exact .inl (e2 ▸ h1)
  · rcases h2 with h2 | ⟨e2, h2⟩
    · exact .inl (e1 ▸ h2)
    · exact .inr ⟨e1.trans e2, by omega⟩
theorem el_asymm {a b : Ent} (h : entLess a b = true) : entLess b a = false := by
  cases h2 : entLess b a with
  | false => rfl
  | true => have := el_trans h h2; rw [el_irr] at this; cases this
theorem chain_pw : ∀ (es : List Ent) (a : Ent), chain (some a) es = true → (a :: es).Pairwise EL
  | [], a, _ => by simp
  | e :: es, a, h => by
    have he : chain (some a) (e :: es) = (chOk (some a) e && chain (some e) es) := rfl
    rw [he, Bool.and_eq_true] at h
    have ih := chain_pw es e h.2
    have h1 := h.1
    unfold chOk at h1
    simp only [Bool.and_eq_true] at h1
    rw [List.pairwise_cons]
    refine ⟨fun x hx => ?_, ih⟩
    rcases List.mem_cons.1 hx with rfl | hx
    · exact h1.2
    · exact el_trans h1.2 ((List.pairwise_cons.1 ih).1 x hx)
theorem pw_chain : ∀ (es : List Ent) (p : Option Ent), (∀ e ∈ es, entOk e = true) → es.Pairwise EL → (∀ a, p = some a → ∀ e ∈ es, entLess a e = true) → chain p es = true
  | [], _, _, _, _ => rfl
  | e :: es, p, h1, h2, h3 => by
    have he : chain p (e :: es) = (chOk p e && chain (some e) es) := rfl
    have h2' := List.pairwise_cons.1 h2
    rw [he, Bool.and_eq_true]
    refine ⟨?_, pw_chain es (some e) (fun x hx => h1 x (by simp [hx])) h2'.2 (fun a ha x hx => by cases ha; exact h2'.1 x hx)⟩
    unfold chOk
    rw [Bool.and_eq_true]
    refine ⟨h1 e (by simp), ?_⟩
    cases p with
    | none => rfl
    | some a => exact h3 a rfl e (by simp)
theorem ok_iff (es : List Ent) : indexOk es = true ↔ (∀ e ∈ es, entOk e = true) ∧ es.Pairwise EL ∧ (es.length : Int) ≤ 16 := by
  unfold indexOk
  rw [Bool.and_eq_true, decide_eq_true_eq]
  refine ⟨fun h => ⟨chain_ok es none h.1, ?_, h.2⟩, fun h => ⟨pw_chain es none h.1 h.2.1 (fun a ha => by cases ha), h.2.2⟩⟩
  cases es with
  | nil => exact .nil
  | cons e es =>
    have he : chain none (e :: es) = (chOk none e && chain (some e) es) := rfl
    have h1 := h.1
    rw [he, Bool.and_eq_true] at h1
    exact chain_pw es e h1.2
/-! ### places -/
theorem put_at {e : Ent} : ∀ (a b : List Ent) (i : Nat), (∀ x ∈ a, entLess x e = true) → (∀ x ∈ b, entLess x e = false) → b ≠ [] → runI (putG e) i () (a ++ b) = .inr (i + a.length)
  | [], b, i, _, hb, hn => by
    cases b with
    | nil => exact absurd rfl hn
    | cons x b => simp [runI, putG, hb x (by simp)]
  | x :: a, b, i, ha, hb, hn => by
    show runI (putG e) i () (x :: (a ++ b)) = _
    unfold runI putG
    simp only [ha x (by simp), cond_true]
    rw [show (fun i (_ : Unit) x => bif entLess x e then (Sum.inl () : Unit ⊕ Nat) else Sum.inr i) = putG e from rfl, put_at a b (i + 1) (fun y hy => ha y (by simp [hy])) hb hn]
    simp
    omega
theorem put_end {e : Ent} : ∀ (a : List Ent) (i : Nat), (∀ x ∈ a, entLess x e = true) → runI (putG e) i () a = .inl ()
  | [], i, _ => rfl
  | x :: a, i, ha => by
    unfold runI putG
    simp only [ha x (by simp), cond_true]
    exact put_end a (i + 1) (fun y hy => ha y (by simp [hy]))
theorem putK_at {e : Ent} (a b : List Ent) (ha : ∀ x ∈ a, entLess x e = true) (hb : ∀ x ∈ b, entLess x e = false) : putK e (a ++ b) = a.length := by
  unfold putK
  by_cases hn : b = []
  · subst hn
    rw [List.append_nil, put_end a 0 ha]
  · rw [put_at a b 0 ha hb hn, Nat.zero_add]
theorem putL_at {e : Ent} (a b : List Ent) (ha : ∀ x ∈ a, entLess x e = true) (hb : ∀ x ∈ b, entLess x e = false) : putL e (a ++ b) = a ++ e :: b := by
  unfold putL
  rw [putK_at a b ha hb, List.take_left, List.drop_left]
  simp
theorem at_none {e : Ent} : ∀ (a b : List Ent) (i : Nat), e ∉ a → runI (atG e) i () (a ++ e :: b) = .inr (i + a.length)
  | [], b, i, _ => by simp [runI, atG]
  | x :: a, b, i, h => by
    have hx : ¬ x = e := fun q => h (by simp [q])
    show runI (atG e) i () (x :: (a ++ e :: b)) = _
    unfold runI atG
    simp only [hx, decide_false, cond_false]
    rw [show (fun i (_ : Unit) x => bif decide (x = e) then (Sum.inr i : Unit ⊕ Nat) else Sum.inl ()) = atG e from rfl, at_none a b (i + 1) (fun q => h (by simp [q]))]
    simp
    omega
theorem atL_at {e : Ent} (a b : List Ent) (h : e ∉ a) : atL e (a ++ e :: b) = some a.length := by
  unfold atL
  rw [at_none a b 0 h, Nat.zero_add]
theorem at_split {e : Ent} : ∀ (es : List Ent) (i k : Nat), runI (atG e) i () es = .inr k → ∃ a b, es = a ++ e :: b ∧ k = i + a.length
  | [], i, k, h => nomatch h
  | x :: es, i, k, h => by
    unfold runI atG at h
    by_cases hx : x = e
    · subst hx
      simp at h
      exact ⟨[], es, rfl, by simp [h]⟩
    · simp only [hx, decide_false, cond_false] at h
      obtain ⟨a, b, rfl, rfl⟩ := at_split es (i + 1) k h
      exact ⟨x :: a, b, rfl, by simp; omega⟩
theorem atL_split {e : Ent} {es : List Ent} {k : Nat} (h : atL e es = some k) : ∃ a b, es = a ++ e :: b ∧ k = a.length := by
  unfold atL at h
  cases hr : runI (atG e) 0 () es with
  | inl _ => rw [hr] at h; cases h
  | inr j =>
    rw [hr] at h
    simp only [Option.some.injEq] at h
    subst h
    obtain ⟨a, b, h1, h2⟩ := at_split es 0 j hr
    exact ⟨a, b, h1, by omega⟩
/-- Where an entry stands in a list in order. -/
theorem mid {a b : List Ent} {e : Ent} (h : (a ++ e :: b).Pairwise EL) : (∀ x ∈ a, entLess x e = true) ∧ (∀ x ∈ b, entLess e x = true) ∧ (a ++ b).Pairwise EL := by
  obtain ⟨h1, h2, h3⟩ := List.pairwise_append.1 h
  have h4 := List.pairwise_cons.1 h2
  exact ⟨fun x hx => h3 x hx e (by simp), h4.1, List.pairwise_append.2 ⟨h1, h4.2, fun x hx y hy => h3 x hx y (by simp [hy])⟩⟩
theorem offL_at (a b : List Ent) (e : Ent) : offL a.length (a ++ e :: b) = a ++ b := by
  unfold offL
  rw [List.take_left]
  simp
/-- Taken out and put in again. -/
theorem off_put {a b : List Ent} {e : Ent} (h : indexOk (a ++ e :: b) = true) : indexOk (a ++ b) = true ∧ putL e (a ++ b) = a ++ e :: b := by
  rw [ok_iff] at *
  obtain ⟨h1, h2, h3⟩ := h
  obtain ⟨m1, m2, m3⟩ := mid h2
  refine ⟨⟨fun x hx => h1 x (by rcases List.mem_append.1 hx with h | h <;> simp [h]), m3, by simp at h3 ⊢; omega⟩, ?_⟩
  exact putL_at a b m1 (fun x hx => el_asymm (m2 x hx))
/-- Put in and taken out again. -/
theorem put_off {es : List Ent} {e : Ent} (h : indexOk (putL e es) = true) : ∃ a b, es = a ++ b ∧ putL e es = a ++ e :: b ∧ e ∉ a ∧ e ∉ b := by
  refine ⟨es.take (putK e es), es.drop (putK e es), (List.take_append_drop _ _).symm, by unfold putL; simp, ?_, ?_⟩
  · intro hm
    have hp : putL e es = es.take (putK e es) ++ e :: es.drop (putK e es) := by unfold putL; simp
    rw [ok_iff, hp] at h
    have := (mid h.2.1).1 e hm
    rw [el_irr] at this; cases this
  · intro hm
    have hp : putL e es = es.take (putK e es) ++ e :: es.drop (putK e es) := by unfold putL; simp
    rw [ok_iff, hp] at h
    have := (mid h.2.1).2.1 e hm
    rw [el_irr] at this; cases this
theorem foundL_mid (P : Val → Bool) (a b : List Ent) (e : Ent) (h : P e.v = true) : (foundL P (a ++ e :: b)).length = (foundL P (a ++ b)).length + 1 := by
  unfold foundL
  simp [List.filter_append, List.filter_cons, h]
  omega
theorem foundA_mid (P : Val → Bool) (a b : List Ent) (e : Ent) (h : P e.v = true) (h1 : indexOk (a ++ e :: b) = true) (h2 : indexOk (a ++ b) = true) : (foundA P (a ++ e :: b)).length = (foundA P (a ++ b)).length + 1 := by
  unfold foundA
  rw [if_pos h1, if_pos h2, foundL_mid P a b e h]
/-- How often a number is told. -/
def cntN (x : Int) (ns : List Int) : Nat := (ns.filter fun n => decide (n = x)).length
theorem ids_none (e : Ent) : ∀ (a : List Ent), e ∉ a → cntN e.id (foundL (fun w => decide (w = e.v)) a) = 0
  | [], _ => rfl
  | x :: a, h => by
    have ih := ids_none e a (fun q => h (by simp [q]))
    unfold cntN foundL at *
    rw [List.filter_cons]
    by_cases hv : x.v = e.v
    · have hid : ¬ x.id = e.id := fun q => h (by
        have : x = e := by cases x; cases e; simp_all
        simp [this])
      simp only [hv, decide_true, if_true, List.map_cons, List.filter_cons, hid, decide_false, Bool.false_eq_true, if_false]
      exact ih
    · simp only [hv, decide_false, Bool.false_eq_true, if_false]
      exact ih
theorem ids_one (e : Ent) (a b : List Ent) (ha : e ∉ a) (hb : e ∉ b) : cntN e.id (foundL (fun w => decide (w = e.v)) (a ++ e :: b)) = 1 := by
  have h1 := ids_none e a ha
  have h2 := ids_none e b hb
  unfold cntN foundL at *
  simp only [List.filter_append, List.filter_cons, decide_true, if_true, List.map_append, List.map_cons, List.length_append, List.length_cons, h1, h2]
end Go.Vm.T
end

section
set_option linter.unusedVariables false
set_option linter.unusedSimpArgs false
namespace Go.Vm.T
theorem lp_wpEntries {D : Nat} (es : List Ent) (hl : es.length ≤ big) :
    Ended (loopN (exec ⟨den pr D, dcl pr D⟩ b_laws_wpEntries_0) [0, 1, 5] rounds ⟨upd (upd (upd (fun _ => .bad) 0 (.lit t_impl_Entry (es.map Ent.c))) 1 (.lit t_impl_Entry (es.map Ent.c))) 5 (.n (0 : Nat)), fun _ => none, 0, 0⟩) Unit Unit (runI (fun _ _ _ => .inl ()) 0 () es)
      (fun m o => ∃ σ', o = .exit 0 σ') (fun _ o => False) := by
  refine loop_all es (fun i (_ : Unit) => ⟨upd (upd (upd (fun _ => .bad) 0 (.lit t_impl_Entry (es.map Ent.c))) 1 (.lit t_impl_Entry (es.map Ent.c))) 5 (.n i), fun _ => none, 0, 0⟩) _ (fun _ _ => True) _ _ () trivial hl (fun i m e K hc hlt hi => ?_) (fun m K _ => ?_)
  · have hr := map_at (f := Ent.c) hc
    have hw := wrap_nat (n := i) (by unfold big at hl; omega)
    simp only [loopN, e_laws_wpEntries_0, B_laws_wpEntries_0, go_sem, Nat.reduceEqDiff, Nat.reduceAdd, reduceIte, reduceCtorEq, Nat.reduceLeDiff, Nat.reduceLT, List.length_map, hr, hlt, hw]
  · have hi : ¬ es.length < es.length := by omega
    simp only [loopN, e_laws_wpEntries_0, B_laws_wpEntries_0, go_sem, Nat.reduceEqDiff, Nat.reduceAdd, reduceIte, reduceCtorEq, Nat.reduceLeDiff, Nat.reduceLT, List.length_map, hi]
    exact ⟨_, rfl, _, rfl⟩
theorem d_wpEntries {D : Nat} (hD : 1 ≤ D) (es : List Ent) (hl : es.length ≤ big) : den pr D f_laws_wpEntries [.lit t_impl_Entry (es.map Ent.c), .lit t_impl_Entry (es.map Ent.c)] = some [.q true] := by
  obtain ⟨D, rfl, hd⟩ := pred_of hD
  rw [u_laws_wpEntries]
  obtain ⟨out, lo, lp⟩ := lp_wpEntries (D := D) es hl
  rw [run_unit] at lp
  obtain ⟨σ', rfl⟩ := lp
  rw [show ((0 : Nat) : Int) = 0 from rfl] at lo
  simp only [c_laws_wpEntries, go_sem, Nat.reduceEqDiff, Nat.reduceAdd, reduceIte, reduceCtorEq, Nat.reduceLeDiff, Nat.reduceLT, List.length_map, lo]
theorem d_DrawIndexOff {D : Nat} (hD : 7 ≤ D) (ns : List Int) (hb : Bytes ns) : ∃ es e, Five es ∧ es.length ≤ 16 ∧ e.v.t.size ≤ 5 ∧ den pr D f_spec_DrawIndexOff [.lit t_uint8 (ns.map u8C)] = some [.olit t_impl_Entry (es.map Ent.c), .agg (e : Ent).c] := by
  obtain ⟨D, rfl, hd⟩ := pred_of hD
  obtain ⟨D, rfl, hd⟩ := pred_of hd
  have e1 := d_l10Open (D := D + 1) (by omega) ns hb.len
  obtain ⟨h0, hh0⟩ : ∃ h0 : Hp, h0 = upd (upd (upd (upd (fun _ => none) 0 (some ⟨t_impl_Entry, [], true, false⟩)) 1 (some ⟨t_impl_Entry, [zEnt], true, true⟩)) 2 (some ⟨t_uint8, [], true, false⟩)) 3 (rdB (ns.take 2000) 0) := ⟨_, rfl⟩
  have hh : h0 3 = rdB (ns.take 2000) 0 := by rw [hh0]; rfl
  have hh1 : h0 1 = some ⟨t_impl_Entry, [zEnt], true, true⟩ := by rw [hh0]; rfl
  obtain ⟨es, ex, e, p', g, G, f1, f2, f3, f4, fg, f5, f6⟩ := l8Some_head (D := D) (by omega) (ns.take 2000) hb.code 0 (by omega) h0 4 3 (by omega) hh
  refine ⟨es, e, f1, f2, f3, ?_⟩
  rw [u_spec_DrawIndexOff]
  have g1 : ¬ 5 = 1 := by decide
  have g2 : (4 : Nat) ≤ 5 := by decide
  have g3 : (1 : Nat) < 4 := by decide
  have g4 : ¬ 1 = 3 := by decide
  simp only [c_spec_DrawIndexOff, go_sem, Nat.reduceEqDiff, Nat.reduceAdd, reduceIte, reduceCtorEq, Nat.reduceLeDiff, Nat.reduceLT, e1, ← hh0, hh1, f5, f6, g1, g3, g4, mix_ge g2, mix_at, List.length_map, Nat.le_refl]
theorem d_DrawIndexPut {D : Nat} (hD : 7 ≤ D) (ns : List Int) (hb : Bytes ns) : ∃ es e, Five es ∧ es.length ≤ 16 ∧ e.v.t.size ≤ 5 ∧ den pr D f_spec_DrawIndexPut [.lit t_uint8 (ns.map u8C)] = some [.olit t_impl_Entry (es.map Ent.c), .agg (e : Ent).c] := by
  obtain ⟨D, rfl, hd⟩ := pred_of hD
  obtain ⟨D, rfl, hd⟩ := pred_of hd
  have e1 := d_l10Open (D := D + 1) (by omega) ns hb.len
  obtain ⟨h0, hh0⟩ : ∃ h0 : Hp, h0 = upd (upd (upd (upd (fun _ => none) 0 (some ⟨t_impl_Entry, [], true, false⟩)) 1 (some ⟨t_impl_Entry, [zEnt], true, true⟩)) 2 (some ⟨t_uint8, [], true, false⟩)) 3 (rdB (ns.take 2000) 0) := ⟨_, rfl⟩
  have hh : h0 3 = rdB (ns.take 2000) 0 := by rw [hh0]; rfl
  have hh1 : h0 1 = some ⟨t_impl_Entry, [zEnt], true, true⟩ := by rw [hh0]; rfl
  obtain ⟨es, ex, e, p', g, G, f1, f2, f3, f4, fg, f5, f6⟩ := l8Some_head (D := D) (by omega) (ns.take 2000) hb.code 0 (by omega) h0 4 3 (by omega) hh
  refine ⟨es, e, f1, f2, f3, ?_⟩
  rw [u_spec_DrawIndexPut]
  have g1 : ¬ 5 = 1 := by decide
  have g2 : (4 : Nat) ≤ 5 := by decide
  have g3 : (1 : Nat) < 4 := by decide
  have g4 : ¬ 1 = 3 := by decide
  simp only [c_spec_DrawIndexPut, go_sem, Nat.reduceEqDiff, Nat.reduceAdd, reduceIte, reduceCtorEq, Nat.reduceLeDiff, Nat.reduceLT, e1, ← hh0, hh1, f5, f6, g1, g3, g4, mix_ge g2, mix_at, List.length_map, Nat.le_refl]
end Go.Vm.T
end

section
set_option linter.unusedVariables false
set_option linter.unusedSimpArgs false
namespace Go.Vm.T
theorem d_wpEntries0 {D : Nat} (hD : 1 ≤ D) (es : List Ent) (hl : es.length ≤ big) : ∃ q, den pr D f_laws_wpEntries [.lit t_impl_Entry [], .lit t_impl_Entry (es.map Ent.c)] = some [.q q] := by
  by_cases h : es.length = 0
  · have := List.eq_nil_of_length_eq_zero h
    subst this
    exact ⟨true, d_wpEntries hD [] (by decide)⟩
  · refine ⟨false, ?_⟩
    obtain ⟨D, rfl, hd⟩ := pred_of hD
    rw [u_laws_wpEntries]
    have h2 : ((0 : Int) = (es.length : Int)) = False := eq_false (by omega)
    have h3 : (((0 : Nat) : Int) = (es.length : Int)) = False := eq_false (by omega)
    simp only [c_laws_wpEntries, go_sem, Nat.reduceEqDiff, Nat.reduceAdd, reduceIte, reduceCtorEq, Nat.reduceLeDiff, Nat.reduceLT, List.length_map, List.length_nil, h2, h3]
set_option maxHeartbeats 4000000 in
theorem d_FnIndexOff {D : Nat} (hD : 8 ≤ D) (ns : List Int) (hb : Bytes ns) : den pr D f_laws_FnIndexOff [.lit t_uint8 (ns.map u8C)] = some [.q true] := by
  obtain ⟨D, rfl, hd⟩ := pred_of hD
  rw [u_laws_FnIndexOff]
  by_cases hn : (1048576 : Int) < (ns.length : Int)
  · simp only [c_laws_FnIndexOff, go_sem, Nat.reduceEqDiff, Nat.reduceAdd, reduceIte, reduceCtorEq, Nat.reduceLeDiff, Nat.reduceLT, List.length_map, hn]
  · obtain ⟨es, e, f1, f2, f3, e0⟩ := d_DrawIndexOff (show 7 ≤ D by omega) ns hb
    have hs := f1.small f2
    have e1 := d_IndexOff (show 5 ≤ D by omega) es e hs
    have e2 := d_spec_IndexOff (show 4 ≤ D by omega) es e hs
    have e3 := d_spec_IndexOk (show 3 ≤ D by omega) es hs
    have w1 := d_wpEntries (show 1 ≤ D by omega) es hs.len
    unfold offA at e1 e2
    cases hi : indexOk es with
    | false =>
      rw [hi] at e1 e2 e3
      have w0 := d_wpEntries (show 1 ≤ D by omega) [] (by decide)
      obtain ⟨wq, w3⟩ := d_wpEntries0 (show 1 ≤ D by omega) es hs.len
      simp only [List.map_nil, if_false, Bool.false_eq_true] at e1 e2 w0
      simp only [c_laws_FnIndexOff, go_sem, Nat.reduceEqDiff, Nat.reduceAdd, reduceIte, reduceCtorEq, Nat.reduceLeDiff, Nat.reduceLT, List.length_map, hn, e0, e1, e2, e3, w0, w3, take_map, rowsSl_ent, Nat.le_refl]
      try rfl
    | true =>
      rw [hi] at e1 e2 e3
      simp only [if_true] at e1 e2
      cases ha : atL e es with
      | none =>
        rw [ha] at e1 e2
        simp only at e1 e2
        simp only [c_laws_FnIndexOff, go_sem, Nat.reduceEqDiff, Nat.reduceAdd, reduceIte, reduceCtorEq, Nat.reduceLeDiff, Nat.reduceLT, List.length_map, hn, e0, e1, e2, e3, w1, take_map, rowsSl_ent, Nat.le_refl]
        try rfl
      | some k =>
        rw [ha] at e1 e2
        simp only at e1 e2
        obtain ⟨a, b, rfl, rfl⟩ := atL_split ha
        rw [offL_at] at e1 e2
        obtain ⟨p1, p2⟩ := off_put hi
        have hs2 : Small (a ++ b) := ⟨by have := hs.len; simp at this ⊢; omega, fun x hx => hs.txt x (by rcases List.mem_append.1 hx with h | h <;> simp [h])⟩
        have hlen : (a ++ e :: b).length = (a ++ b).length + 1 := by simp; omega
        have w2 := d_wpEntries (show 1 ≤ D by omega) (a ++ b) hs2.len
        have e4 := d_IndexPut (show 5 ≤ D by omega) (a ++ b) e hs2 (by unfold big; omega) (by unfold big; omega)
        have e5 := d_IndexOk (show 4 ≤ D by omega) (a ++ b) hs2
        have hput : putA e (a ++ b) = (a ++ e :: b, true) := by unfold putA; rw [if_pos p1, p2, if_pos hi]
        rw [hput] at e4
        rw [p1] at e5
        have e6 := d_IndexFind (show 6 ≤ D by omega) (a ++ b) e.v hs2
        have e7 := d_IndexFind (show 6 ≤ D by omega) (a ++ e :: b) e.v hs
        have hf := foundA_mid (fun w => decide (w = e.v)) a b e (by simp) hi p1
        have hfl := foundA_len (fun w => decide (w = e.v)) (a ++ b)
        clear hput p2 ha
        generalize a ++ e :: b = es at *
        generalize a ++ b = fs at *
        generalize foundA (fun w => decide (w = e.v)) fs = g1 at *
        generalize foundA (fun w => decide (w = e.v)) es = g2 at *
        have hw1 : IntKind.i64.wrap ((es.length : Int) - 1) = (fs.length : Int) := by rw [wrap_i64 (by omega) (by omega)]; omega
        have hw2 : IntKind.i64.wrap ((g2.length : Int) - 1) = (g1.length : Int) := by rw [wrap_i64 (by omega) (by omega)]; omega
        simp only [c_laws_FnIndexOff, go_sem, Nat.reduceEqDiff, Nat.reduceAdd, reduceIte, reduceCtorEq, Nat.reduceLeDiff, Nat.reduceLT, List.length_map, hn, e0, e1, e2, e3, e4, e5, e6, e7, w1, w2, hw1, hw2, take_map, rowsSl_ent, rowsSl_int, Nat.le_refl]
theorem lp_FnIndexPut {D : Nat} (x y z : List Ent) (e : Ent) (fine : Bool) (ok : Bool) (ids : List Int) (hl : ids.length ≤ big) :
    Ended (loopN (exec ⟨den pr D, dcl pr D⟩ b_laws_FnIndexPut_0) [3, 4, 5, 9, 10, 11, 12, 13] rounds ⟨upd (upd (upd (upd (upd (upd (upd (upd (fun _ => .bad) 3 (.ref t_impl_Entry 0 0 x.length x.length false)) 4 (.ptr 1 0 0)) 5 (.ref t_impl_Entry 2 0 y.length y.length false)) 9 (.ref t_impl_Entry 3 0 z.length z.length false)) 10 (.q fine)) 11 (.n (0 : Nat))) 12 (.ref t_int 4 0 ids.length ids.length false)) 13 (.n (0 : Nat)), upd (upd (upd (upd (upd (fun _ => none) 0 (some ⟨t_impl_Entry, x.map Ent.c, true, false⟩)) 1 (some ⟨t_impl_Entry, [e.c], true, true⟩)) 2 (some ⟨t_impl_Entry, y.map Ent.c, true, false⟩)) 3 (some ⟨t_impl_Entry, z.map Ent.c, true, false⟩)) 4 (some ⟨t_int, ids.map intC, true, false⟩), 5, 0⟩) Nat Unit (runI (fun _ n i => .inl (if i = e.id then n + 1 else n)) 0 0 ids)
      (fun n o => ∃ σ', o = .exit 0 σ' ∧ σ'.s 3 = .ref t_impl_Entry 0 0 x.length x.length false ∧ σ'.s 4 = .ptr 1 0 0 ∧ σ'.s 5 = .ref t_impl_Entry 2 0 y.length y.length false ∧ σ'.s 9 = .ref t_impl_Entry 3 0 z.length z.length false ∧ σ'.s 10 = .q fine ∧ σ'.s 11 = .n (n : Int) ∧ σ'.s 12 = .ref t_int 4 0 ids.length ids.length false ∧ σ'.h = upd (upd (upd (upd (upd (fun _ => none) 0 (some ⟨t_impl_Entry, x.map Ent.c, true, false⟩)) 1 (some ⟨t_impl_Entry, [e.c], true, true⟩)) 2 (some ⟨t_impl_Entry, y.map Ent.c, true, false⟩)) 3 (some ⟨t_impl_Entry, z.map Ent.c, true, false⟩)) 4 (some ⟨t_int, ids.map intC, true, false⟩) ∧ σ'.n = 5 ∧ σ'.base = 0) (fun _ o => False) := by
  refine loop_all ids (fun i (n : Nat) => ⟨upd (upd (upd (upd (upd (upd (upd (upd (fun _ => .bad) 3 (.ref t_impl_Entry 0 0 x.length x.length false)) 4 (.ptr 1 0 0)) 5 (.ref t_impl_Entry 2 0 y.length y.length false)) 9 (.ref t_impl_Entry 3 0 z.length z.length false)) 10 (.q fine)) 11 (.n (n : Nat))) 12 (.ref t_int 4 0 ids.length ids.length false)) 13 (.n i), upd (upd (upd (upd (upd (fun _ => none) 0 (some ⟨t_impl_Entry, x.map Ent.c, true, false⟩)) 1 (some ⟨t_impl_Entry, [e.c], true, true⟩)) 2 (some ⟨t_impl_Entry, y.map Ent.c, true, false⟩)) 3 (some ⟨t_impl_Entry, z.map Ent.c, true, false⟩)) 4 (some ⟨t_int, ids.map intC, true, false⟩), 5, 0⟩) _ (fun i n => n ≤ i) _ _ 0 (Nat.le_refl _) hl (fun i n d K hc hlt hi => ?_) (fun n K _ => ?_)
  · have hr := map_at (f := intC) hc
    have hw := wrap_nat (n := i) (by unfold big at hl; omega)
    have hw2 := wrap_nat (n := n) (by unfold big at hl; omega)
    by_cases hd : d = e.id
    · have q1 := eq_true hd
      simp only [loopN, e_laws_FnIndexPut_0, B_laws_FnIndexPut_0, go_sem, Nat.reduceEqDiff, Nat.reduceAdd, reduceIte, reduceCtorEq, Nat.reduceLeDiff, Nat.reduceLT, List.length_map, hr, hlt, hw, hw2, q1, take_map, rowsSl_ent, rowsSl_int, Nat.le_refl]
      omega
    · have q1 := eq_false hd
      simp only [loopN, e_laws_FnIndexPut_0, B_laws_FnIndexPut_0, go_sem, Nat.reduceEqDiff, Nat.reduceAdd, reduceIte, reduceCtorEq, Nat.reduceLeDiff, Nat.reduceLT, List.length_map, hr, hlt, hw, hw2, q1, take_map, rowsSl_ent, rowsSl_int, Nat.le_refl]
      omega
  · have hi : ¬ ids.length < ids.length := by omega
    simp only [loopN, e_laws_FnIndexPut_0, B_laws_FnIndexPut_0, go_sem, Nat.reduceEqDiff, Nat.reduceAdd, reduceIte, reduceCtorEq, Nat.reduceLeDiff, Nat.reduceLT, List.length_map, hi]
    exact ⟨_, rfl, _, rfl, rfl, rfl, rfl, rfl, rfl, rfl, rfl, rfl, rfl, rfl⟩
theorem cnt_run (x : Int) : ∀ (ns : List Int) (i n : Nat), runI (fun _ n d => (Sum.inl (if d = x then n + 1 else n) : Nat ⊕ Unit)) i n ns = .inl (n + cntN x ns)
  | [], i, n => by simp [runI, cntN]
  | d :: ns, i, n => by
    rw [runI]
    simp only
    rw [cnt_run x ns]
    unfold cntN
    by_cases h : d = x <;> simp [h] <;> omega
end Go.Vm.T
end

section
set_option linter.unusedVariables false
set_option linter.unusedSimpArgs false
namespace Go.Vm.T
set_option maxHeartbeats 8000000 in
theorem d_FnIndexPut {D : Nat} (hD : 8 ≤ D) (ns : List Int) (hb : Bytes ns) : den pr D f_laws_FnIndexPut [.lit t_uint8 (ns.map u8C)] = some [.q true] := by
  obtain ⟨D, rfl, hd⟩ := pred_of hD
  rw [u_laws_FnIndexPut]
  by_cases hn : (1048576 : Int) < (ns.length : Int)
  · simp only [c_laws_FnIndexPut, go_sem, Nat.reduceEqDiff, Nat.reduceAdd, reduceIte, reduceCtorEq, Nat.reduceLeDiff, Nat.reduceLT, List.length_map, hn]
  · obtain ⟨es, e, f1, f2, f3, e0⟩ := d_DrawIndexPut (show 7 ≤ D by omega) ns hb
    have hs := f1.small f2
    have e1 := d_IndexPut (show 5 ≤ D by omega) es e hs (by unfold big; omega) (by unfold big; omega)
    have e2 := d_spec_IndexPut (show 4 ≤ D by omega) es e hs (by unfold big; omega) (by unfold big; omega)
    have e3 := d_spec_IndexOk (show 3 ≤ D by omega) es hs
    have e4 := d_IndexOk (show 4 ≤ D by omega) es hs
    have w1 := d_wpEntries (show 1 ≤ D by omega) es hs.len
    unfold putA at e1 e2
    cases hi : indexOk es with
    | false =>
      rw [hi] at e1 e2 e3 e4
      have w0 := d_wpEntries (show 1 ≤ D by omega) [] (by decide)
      obtain ⟨wq, w3⟩ := d_wpEntries0 (show 1 ≤ D by omega) es hs.len
      simp only [List.map_nil, if_false, Bool.false_eq_true] at e1 e2 w0
      simp only [c_laws_FnIndexPut, go_sem, Nat.reduceEqDiff, Nat.reduceAdd, reduceIte, reduceCtorEq, Nat.reduceLeDiff, Nat.reduceLT, List.length_map, hn, e0, e1, e2, e3, e4, w0, w3, take_map, rowsSl_ent, Nat.le_refl]
      try rfl
    | true =>
      rw [hi] at e1 e2 e3 e4
      simp only [if_true] at e1 e2
      cases hp : indexOk (putL e es) with
      | false =>
        rw [hp] at e1 e2
        simp only [if_false, Bool.false_eq_true] at e1 e2
        simp only [c_laws_FnIndexPut, go_sem, Nat.reduceEqDiff, Nat.reduceAdd, reduceIte, reduceCtorEq, Nat.reduceLeDiff, Nat.reduceLT, List.length_map, hn, e0, e1, e2, e3, e4, w1, take_map, rowsSl_ent, Nat.le_refl]
        try rfl
      | true =>
        rw [hp] at e1 e2
        simp only [if_true] at e1 e2
        have hsp := hs.put (show es.length + 1 ≤ big by unfold big; omega) (show e.v.t.size ≤ big by unfold big; omega)
        obtain ⟨a, b, rfl, hpe, ha, hbn⟩ := put_off hp
        rw [hpe] at e1 e2 hp hsp
        have hlen : (a ++ e :: b).length = (a ++ b).length + 1 := by simp; omega
        have e5 := d_IndexOff (show 5 ≤ D by omega) (a ++ e :: b) e hsp
        have hoff : offA e (a ++ e :: b) = (a ++ b, true) := by unfold offA; rw [if_pos hp, atL_at a b ha]; simp only [offL_at]
        rw [hoff] at e5
        have e6 := d_IndexOk (show 4 ≤ D by omega) (a ++ e :: b) hsp
        rw [hp] at e6
        have e7 := d_IndexFind (show 6 ≤ D by omega) (a ++ b) e.v hs
        have e8 := d_IndexFind (show 6 ≤ D by omega) (a ++ e :: b) e.v hsp
        have hf := foundA_mid (fun w => decide (w = e.v)) a b e (by simp) hp hi
        have hone : cntN e.id (foundA (fun w => decide (w = e.v)) (a ++ e :: b)) = 1 := by unfold foundA; rw [if_pos hp]; exact ids_one e a b ha hbn
        have hfl := foundA_len (fun w => decide (w = e.v)) (a ++ b)
        have w2 := d_wpEntries (show 1 ≤ D by omega) (a ++ e :: b) hsp.len
        clear hoff hpe ha hbn
        generalize a ++ e :: b = fs at *
        generalize a ++ b = es at *
        generalize foundA (fun w => decide (w = e.v)) fs = g1 at *
        generalize foundA (fun w => decide (w = e.v)) es = g2 at *
        obtain ⟨out, lo, lp⟩ := lp_FnIndexPut (D := D) es fs es e true true g1 (by unfold big; omega)
        rw [cnt_run, Nat.zero_add, hone] at lp
        obtain ⟨σ', rfl, l1, l2, l3, l4, l5, l6, l7, l8, l9, l10⟩ := lp
        rw [show ((0 : Nat) : Int) = 0 from rfl] at lo
        rw [show ((1 : Nat) : Int) = 1 from rfl] at l6
        have hw2 : IntKind.i64.wrap ((g2.length : Int) + 1) = (g1.length : Int) := by rw [wrap_i64 (by omega) (by omega)]; omega
        simp only [c_laws_FnIndexPut, go_sem, Nat.reduceEqDiff, Nat.reduceAdd, reduceIte, reduceCtorEq, Nat.reduceLeDiff, Nat.reduceLT, List.length_map, hn, e0, e1, e2, e3, e4, e5, e6, e7, e8, w1, w2, hw2, lo, l1, l2, l3, l4, l5, l6, l7, l8, l9, l10, take_map, rowsSl_ent, rowsSl_int, Nat.le_refl]
end Go.Vm.T
end
