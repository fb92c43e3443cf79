/-
  Draws of values in order, and the laws FnIndexOnce and FnIndexSpan in the abstract machine
-/
import Derived.Test.YtcpogioihmbbjaaFnsE
section
set_option linter.unusedVariables false
set_option linter.unusedSimpArgs false
namespace Go.Vm.T
/-! ### DrawIndexOnce: neighbours of one value are taken once -/
def dedG : Nat → List Ent × Bool → Ent → List Ent × Bool ⊕ Unit := fun _ p e => .inl (match p.1.getLast? with
  | none => (p.1 ++ [e], false)
  | some a => if e.v = a.v then p else (p.1 ++ [e], false))
theorem lp_ded {D : Nat} (ex : Bool) (es : List Ent) (hl : es.length ≤ big) :
    Ended (loopN (exec ⟨den pr D, dcl pr D⟩ b_spec_DrawIndexOnce_0) [4, 6, 7] rounds ⟨upd (upd (upd (fun _ => .bad) 4 (.ref t_impl_Entry 0 0 es.length es.length ex)) 6 (.ref t_impl_Entry 1 0 ([] : List Ent).length ([] : List Ent).length true)) 7 (.n (0 : Nat)), upd (upd (fun _ => none) 0 (some ⟨t_impl_Entry, es.map Ent.c, true, false⟩)) 1 (some ⟨t_impl_Entry, ([] : List Ent).map Ent.c, true, false⟩), 2, 0⟩) (List Ent × Bool) Unit (runI dedG 0 ([], true) es)
      (fun p o => ∃ σ', o = .exit 0 σ' ∧ σ'.s 4 = .ref t_impl_Entry 0 0 es.length es.length ex ∧ σ'.s 6 = .ref t_impl_Entry 1 0 p.1.length p.1.length p.2 ∧ σ'.h = upd (upd (fun _ => none) 0 (some ⟨t_impl_Entry, es.map Ent.c, true, false⟩)) 1 (some ⟨t_impl_Entry, p.1.map Ent.c, true, false⟩) ∧ σ'.n = 2 ∧ σ'.base = 0) (fun _ o => False) := by
  refine loop_all es (fun i (p : List Ent × Bool) => ⟨upd (upd (upd (fun _ => .bad) 4 (.ref t_impl_Entry 0 0 es.length es.length ex)) 6 (.ref t_impl_Entry 1 0 p.1.length p.1.length p.2)) 7 (.n i), upd (upd (fun _ => none) 0 (some ⟨t_impl_Entry, es.map Ent.c, true, false⟩)) 1 (some ⟨t_impl_Entry, p.1.map Ent.c, true, false⟩), 2, 0⟩) _ (fun i p => p.1.length ≤ i) _ _ ([], true) (Nat.le_refl _) hl (fun i p e K hc hlt hi => ?_) (fun p K _ => ?_)
  · obtain ⟨acc, xx⟩ := p
    have hr := map_at (f := Ent.c) hc
    have hw := wrap_nat (n := i) (by unfold big at hl; omega)
    have hb1 : acc.length + 1 ≤ big := by simp only at hi; omega
    simp only at hi
    unfold dedG
    have ht : (acc.map Ent.c).take acc.length = acc.map Ent.c := take_map _ _
    have hle : acc.length ≤ (acc.map Ent.c).length := by simp
    rcases List.eq_nil_or_concat acc with h0 | ⟨bs, a, h0⟩
    · have hla : acc.getLast? = none := by rw [h0]; rfl
      have hlc : acc.length = 0 := by rw [h0]; rfl
      have hlz : ((acc.length : Nat) : Int) = 0 := by omega
      have hneg : ¬ (0 : Int) ≤ IntKind.i64.wrap ((acc.length : Int) - 1) := neg_wrap hlc
      have hneg0 : ¬ (0 : Int) ≤ IntKind.i64.wrap (0 - 1) := by decide
      simp only [hla]
      simp only [loopN, e_spec_DrawIndexOnce_0, B_spec_DrawIndexOnce_0, go_sem, Nat.reduceEqDiff, Nat.reduceAdd, reduceIte, reduceCtorEq, Nat.reduceLeDiff, Nat.reduceLT, List.length_map, hr, hlt, hw, hb1, hneg, hneg0, hlz, Nat.le_refl, low_at, low_ge, low_upd, low_low, upd_upd, ht, hle, List.length_append, List.map_append]
      exact hi
    · have hla : acc.getLast? = some a := by rw [h0]; simp
      have hlc : acc.length = bs.length + 1 := by rw [h0]; simp
      have hra : (acc.map Ent.c)[bs.length]? = some a.c := map_at (by rw [h0]; simp)
      have hpos : (((bs.length + 1 : Nat) : Int) = 0) = False := eq_false (by omega)
      have hw1 : IntKind.i64.wrap (((bs.length + 1 : Nat) : Int) - 1) = (bs.length : Int) := sub_one (by unfold big at hb1; omega)
      rw [hlc] at ht hle hb1 hi
      simp only [hla, hlc]
      have hlk : bs.length < bs.length + 1 := by omega
      generalize bs.length = k at *
      clear h0
      simp only [loopN, e_spec_DrawIndexOnce_0, B_spec_DrawIndexOnce_0, go_sem, Nat.reduceEqDiff, Nat.reduceAdd, reduceIte, reduceCtorEq, Nat.reduceLeDiff, Nat.reduceLT, List.length_map, hr, hlt, hw, hb1, hlc, hlk, hpos, hw1, Nat.le_refl, low_at, low_ge, low_upd, low_low, upd_upd, hra, ht, hle, val_eq]
      by_cases hv : e.v = a.v
      · have hv' := hv.symm
        simp only [hv', decide_true, if_true, Bool.not_true, cond_false, hlc]
        exact ⟨trivial, by omega⟩
      · have hv' : ¬ a.v = e.v := fun h => hv h.symm
        simp only [hv, hv', decide_false, if_false, Bool.not_false, cond_true, List.length_append, List.length_cons, List.length_nil, hlc, List.map_append]
        exact ⟨rfl, by omega⟩
  · have hi : ¬ es.length < es.length := by omega
    simp only [loopN, e_spec_DrawIndexOnce_0, B_spec_DrawIndexOnce_0, go_sem, Nat.reduceEqDiff, Nat.reduceAdd, reduceIte, reduceCtorEq, Nat.reduceLeDiff, Nat.reduceLT, List.length_map, hi]
    exact ⟨_, rfl, _, rfl, rfl, rfl, rfl, rfl, rfl⟩
def dedL (x0 : Bool) (es : List Ent) : List Ent × Bool := match runI dedG 0 ([], x0) es with
  | .inl p => p
  | .inr _ => ([], x0)
theorem ded_sub : ∀ (es : List Ent) (i : Nat) (p q : List Ent × Bool), runI dedG i p es = .inl q → q.1.length ≤ p.1.length + es.length ∧ ∀ e ∈ q.1, e ∈ p.1 ∨ e ∈ es
  | [], i, p, q, h => by
    unfold runI at h
    cases h
    exact ⟨by simp, fun e he => .inl he⟩
  | x :: es, i, p, q, h => by
    have : ∃ p', dedG i p x = .inl p' ∧ p'.1.length ≤ p.1.length + 1 ∧ ∀ e ∈ p'.1, e ∈ p.1 ∨ e = x := by
      unfold dedG
      cases p.1.getLast? with
      | none => exact ⟨_, rfl, by simp, fun e he => by simpa using he⟩
      | some a =>
        by_cases hv : x.v = a.v
        · exact ⟨_, rfl, by simp [hv], fun e he => .inl (by simpa [hv] using he)⟩
        · exact ⟨_, rfl, by simp [hv], fun e he => by simpa [hv] using he⟩
    obtain ⟨p', h1, h2, h3⟩ := this
    unfold runI at h
    rw [h1] at h
    obtain ⟨h4, h5⟩ := ded_sub es _ p' q h
    refine ⟨by simp; omega, fun e he => ?_⟩
    rcases h5 e he with h | h
    · rcases h3 e h with h | rfl
      · exact .inl h
      · exact .inr (by simp)
    · exact .inr (by simp [h])
theorem ded_inl : ∀ (es : List Ent) (i : Nat) (p : List Ent × Bool), ∃ q, runI dedG i p es = .inl q
  | [], i, p => ⟨p, rfl⟩
  | x :: es, i, p => by
    unfold runI
    unfold dedG
    exact ded_inl es _ _
theorem d_DrawIndexOnce {D : Nat} (hD : 7 ≤ D) (ns : List Int) (hb : Bytes ns) : ∃ es, Five es ∧ es.length ≤ 16 ∧ den pr D f_spec_DrawIndexOnce [.lit t_uint8 (ns.map u8C)] = some [.olit t_impl_Entry (es.map Ent.c)] := by
  obtain ⟨D, rfl, hd⟩ := pred_of hD
  obtain ⟨D, rfl, hd⟩ := pred_of hd
  have e1 := d_l10Open (D := D + 1) (by omega) ns hb.len
  have hh : upd (upd (upd (fun _ => none) 0 (some ⟨t_impl_Entry, [], true, false⟩)) 1 (some ⟨t_uint8, [], true, false⟩)) 2 (rdB (ns.take 2000) 0) 2 = rdB (ns.take 2000) 0 := rfl
  obtain ⟨es, ex, e, p', g, G, f1, f2, f3, f4, fg, f5, f6⟩ := l8Some_head (D := D) (by omega) (ns.take 2000) hb.code 0 (by omega) (upd (upd (upd (fun _ => none) 0 (some ⟨t_impl_Entry, [], true, false⟩)) 1 (some ⟨t_uint8, [], true, false⟩)) 2 (rdB (ns.take 2000) 0)) 4 2 (by omega) hh
  obtain ⟨x, hx, e2⟩ := d_pick _ hb.code 2 p' (by omega)
  have e2 := e2 (D + 1) (by omega)
  have g1 : ¬ 5 = 4 + g := by omega
  have g2 : (4 : Nat) ≤ 5 := by decide
  have g3 : 2 < 4 + g + 1 := by omega
  have g4 : ¬ 2 = 4 + g := by omega
  have g5 : ¬ 4 + g = 2 := by omega
  have g6 : ¬ 4 + g = 5 := by omega
  have g7 : ¬ 4 + g = 0 := by omega
  have g8 : ¬ 0 = 4 + g := by omega
  have g9 : (2 : Nat) < 4 := by decide
  have g10 : (0 : Nat) < 4 := by decide
  have g11 : ¬ 4 + g = 4 := by omega
  have g12 : ¬ 4 + g + 1 = 5 := by omega
  have g13 : ¬ 5 = 4 + g + 1 := by omega
  have g14 : ¬ 2 = 4 + g + 1 := by omega
  have g15 : ¬ 4 + g + 1 = 2 := by omega
  by_cases hx0 : x = 0
  · have q1 := eq_true hx0
    rw [u_spec_DrawIndexOnce]
    simp only [c_spec_DrawIndexOnce, go_sem, Nat.reduceEqDiff, Nat.reduceAdd, reduceIte, reduceCtorEq, Nat.reduceLeDiff, Nat.reduceLT, e1, f5, f6, g1, g3, g4, g5, g6, g7, g8, g9, g10, g11, g12, g13, g14, g15, e2, q1, mix_ge g2, mix_at, low_at, List.length_map, Nat.le_refl]
    obtain ⟨q, hq⟩ := ded_inl es 0 ([], true)
    obtain ⟨out, lo, lp⟩ := lp_ded (D := D + 1) ex es (by unfold big; omega)
    rw [hq] at lp
    obtain ⟨σ', rfl, l1, l2, l3, l4, l5⟩ := lp
    obtain ⟨s1, s2⟩ := ded_sub es 0 ([], true) q hq
    rw [show ((0 : Nat) : Int) = 0 from rfl, show ([] : List Ent).length = 0 from rfl, List.map_nil] at lo
    refine ⟨q.1, ⟨fun x hx => ?_⟩, by simp at s1; omega, ?_⟩
    · rcases s2 x hx with h | h
      · cases h
      · exact f1.txt x h
    · simp only [go_sem, Nat.reduceEqDiff, Nat.reduceAdd, reduceIte, reduceCtorEq, Nat.reduceLeDiff, Nat.reduceLT, lo, l1, l2, l3, l4, l5, List.length_map, Nat.le_refl]
  · have q1 := eq_false hx0
    refine ⟨es, f1, f2, ?_⟩
    rw [u_spec_DrawIndexOnce]
    simp only [c_spec_DrawIndexOnce, go_sem, Nat.reduceEqDiff, Nat.reduceAdd, reduceIte, reduceCtorEq, Nat.reduceLeDiff, Nat.reduceLT, e1, f5, f6, g1, g3, g4, g5, g6, g7, g8, g9, g10, g11, g12, g13, g14, g15, e2, q1, mix_ge g2, mix_at, low_at, List.length_map, Nat.le_refl]
end Go.Vm.T
end

section
set_option linter.unusedVariables false
set_option linter.unusedSimpArgs false
namespace Go.Vm.T
/-! ### the values of an index stand in order -/
def NoLess (a b : Ent) : Prop := valLess b.v a.v = false
theorem le_trans' {a b c : Val} (h1 : valLess b a = false) (h2 : valLess c b = false) : valLess c a = false := by
  cases h : valLess c a with
  | false => rfl
  | true =>
    cases h3 : valLess b c with
    | true => have := valLess_trans _ _ _ h3 h; rw [h1] at this; cases this
    | false => have := valLess_total _ _ h3 h2; subst this; rw [h1] at h; cases h
theorem chain_pair : ∀ (es : List Ent) (a : Ent), chain (some a) es = true → (a :: es).Pairwise NoLess
  | [], a, _ => by simp
  | e :: es, a, h => by
    have he : chain (some a) (e :: es) = (chOk (some a) e && chain (some e) es) := rfl
    rw [he, Bool.and_eq_true] at h
    have ih := chain_pair es e h.2
    have h1 := h.1
    unfold chOk at h1
    simp only [Bool.and_eq_true] at h1
    have hl := entLess_v h1.2
    rw [List.pairwise_cons]
    refine ⟨fun x hx => ?_, ih⟩
    rcases List.mem_cons.1 hx with rfl | hx
    · exact hl
    · exact le_trans' hl ((List.pairwise_cons.1 ih).1 x hx)
theorem ok_pair {es : List Ent} (h : indexOk es = true) : es.Pairwise NoLess := by
  unfold indexOk at h
  rw [Bool.and_eq_true] at h
  cases es with
  | nil => exact .nil
  | cons e es =>
    have he : chain none (e :: es) = (chOk none e && chain (some e) es) := rfl
    have h1 := h.1
    rw [he, Bool.and_eq_true] at h1
    exact chain_pair es e h1.2
abbrev cnt (v : Val) (es : List Ent) : Nat := (es.filter fun x => decide (x.v = v)).length
theorem once_iff : ∀ (es : List Ent) (a : Ent) (i : Nat), (a :: es).Pairwise NoLess → ((∃ q, runI onceG i (some a) es = .inl q) ↔ ∀ v : Val, ¬ v.k = 0 → cnt v (a :: es) ≤ 1)
  | [], a, i, _ => by
    refine ⟨fun _ v _ => ?_, fun _ => ⟨some a, rfl⟩⟩
    have := List.length_filter_le (fun x : Ent => decide (x.v = v)) [a]
    simpa using this
  | e :: es, a, i, hp => by
    have hp' := List.pairwise_cons.1 hp
    have hp2 := List.pairwise_cons.1 hp'.2
    unfold runI onceG
    by_cases ht : twice (some a) e = true
    · simp only [ht, if_true]
      unfold twice at ht
      simp at ht
      refine ⟨fun hq => (by obtain ⟨q, h⟩ := hq; cases h), fun h => absurd (h e.v ht.1) ?_⟩
      simp [cnt, List.filter_cons, ht.2]
    · simp only [ht, Bool.false_eq_true, if_false]
      rw [show (fun (_ : Nat) p e => if twice p e = true then (Sum.inr () : Option Ent ⊕ Unit) else Sum.inl (some e)) = onceG from rfl, once_iff es e (i + 1) hp'.2]
      unfold twice at ht
      simp at ht
      refine ⟨fun h v hv => ?_, fun h v hv => ?_⟩
      · by_cases hav : a.v = v
        · subst hav
          have hz : ((e :: es).filter fun x => decide (x.v = a.v)) = [] := by
            rw [List.filter_eq_nil_iff]
            intro x hx
            rw [decide_eq_true_eq]
            intro hxv
            have hea : valLess e.v a.v = false := hp'.1 e (by simp)
            have hek : e.v = a.v := by
              rcases List.mem_cons.1 hx with rfl | hx
              · exact hxv
              · have := hp2.1 x hx
                unfold NoLess at this
                rw [hxv] at this
                exact valLess_total _ _ hea this
            exact absurd hek (ht (by rw [hek]; exact hv))
          simp only [cnt, List.filter_cons, decide_true, if_true] at hz ⊢
          rw [List.length_cons, hz]
          simp
        · have := h v hv
          simpa [cnt, List.filter_cons, hav] using this
      · have := h v hv
        have hle : cnt v (e :: es) ≤ cnt v (a :: e :: es) := by
          by_cases hav : a.v = v <;> simp [cnt, List.filter_cons, hav]
        omega
theorem once_all {es : List Ent} (h : indexOk es = true) : indexOnce es = es.all (fun e => decide (e.v.k = 0) || decide ((foundA (fun w => decide (w = e.v)) es).length = 1)) := by
  have hp := ok_pair h
  have hf : ∀ v : Val, (foundA (fun w => decide (w = v)) es).length = cnt v es := fun v => by
    unfold foundA
    rw [if_pos h]
    unfold foundL
    rw [List.length_map]
  have key : (∃ q, runI onceG 0 none es = .inl q) ↔ ∀ v : Val, ¬ v.k = 0 → cnt v es ≤ 1 := by
    cases es with
    | nil => exact ⟨fun _ _ _ => by simp [cnt], fun _ => ⟨none, rfl⟩⟩
    | cons e es =>
      have : runI onceG 0 none (e :: es) = runI onceG 1 (some e) es := by rw [runI]; rfl
      rw [this]
      exact once_iff es e 1 hp
  have hi : indexOnce es = true ↔ ∃ q, runI onceG 0 none es = .inl q := by
    unfold indexOnce
    rw [h, Bool.and_true]
    cases runI onceG 0 none es with
    | inl q => simp
    | inr q => simp
  rw [Bool.eq_iff_iff, hi, key, List.all_eq_true]
  refine ⟨fun hv e he => ?_, fun hv v hk => ?_⟩
  · rw [Bool.or_eq_true, decide_eq_true_eq, decide_eq_true_eq, hf]
    by_cases hk : e.v.k = 0
    · exact .inl hk
    · have h1 := hv e.v hk
      have h2 : 0 < cnt e.v es := List.length_pos_of_mem (List.mem_filter.2 ⟨he, by simp⟩)
      exact .inr (by omega)
  · cases hc : es.filter (fun x => decide (x.v = v)) with
    | nil => simp [cnt, hc]
    | cons e r =>
      have he : e ∈ es.filter (fun x => decide (x.v = v)) := by rw [hc]; simp
      have he2 := List.mem_filter.1 he
      have hev : e.v = v := by simpa using he2.2
      have := hv e he2.1
      rw [Bool.or_eq_true, decide_eq_true_eq, decide_eq_true_eq, hf, hev] at this
      rcases this with h | h
      · exact absurd h hk
      · omega
/-! ### spans -/
theorem span_none {l h : Val} (hl : valLess h l = true) (v : Val) : inSpan l h v = false := by
  unfold inSpan
  cases h1 : valLess v l with
  | true => rfl
  | false =>
    cases h2 : valLess h v with
    | true => rfl
    | false => have := le_trans' h1 h2; rw [hl] at this; cases this
theorem foundL_at (P : Val → Bool) (es : List Ent) (i : Nat) (e : Ent) (h : es[i]? = some e) : foundL P es = foundL P (es.take i) ++ ((if P e.v then [e.id] else []) ++ foundL P (es.drop (i + 1))) := by
  have hi := (List.getElem?_eq_some_iff.1 h).1
  have he := (List.getElem?_eq_some_iff.1 h).2
  conv => lhs; rw [← List.take_append_drop i es, List.drop_eq_getElem_cons hi, he]
  unfold foundL
  rw [List.filter_append, List.map_append, List.filter_cons]
  cases P e.v <;> simp
theorem foundL_take (P : Val → Bool) (es : List Ent) (i : Nat) (e : Ent) (h : es[i]? = some e) : foundL P (es.take (i + 1)) = foundL P (es.take i) ++ (if P e.v then [e.id] else []) := by
  rw [List.take_add_one, h]
  unfold foundL
  rw [List.filter_append, List.map_append]
  cases hp : P e.v <;> simp [hp, List.filter_cons]
end Go.Vm.T
end

section
set_option linter.unusedVariables false
set_option linter.unusedSimpArgs false
namespace Go.Vm.T
set_option maxHeartbeats 4000000 in
theorem d_DrawIndexSpan {D : Nat} (hD : 7 ≤ D) (ns : List Int) (hb : Bytes ns) : ∃ es l h, Five es ∧ es.length ≤ 16 ∧ den pr D f_spec_DrawIndexSpan [.lit t_uint8 (ns.map u8C)] = some [.olit t_impl_Entry (es.map Ent.c), .agg (l : Val).c, .agg (h : Val).c] := by
  obtain ⟨D, rfl, hd⟩ := pred_of hD
  obtain ⟨D, rfl, hd⟩ := pred_of hd
  have e1 := d_l10Open (D := D + 1) (by omega) ns hb.len
  obtain ⟨h0, hh0⟩ : ∃ h0 : Hp, h0 = upd (upd (upd (upd (upd (fun _ => none) 0 (some ⟨t_impl_Entry, [], true, false⟩)) 1 (some ⟨t_impl_Val, [[.n 0, .n 0, .s ⟨#[]⟩]], true, true⟩)) 2 (some ⟨t_impl_Val, [[.n 0, .n 0, .s ⟨#[]⟩]], true, true⟩)) 3 (some ⟨t_uint8, [], true, false⟩)) 4 (rdB (ns.take 2000) 0) := ⟨_, rfl⟩
  have hh : h0 4 = rdB (ns.take 2000) 0 := by rw [hh0]; rfl
  have hh1 : h0 1 = some ⟨t_impl_Val, [[.n 0, .n 0, .s ⟨#[]⟩]], true, true⟩ := by rw [hh0]; rfl
  have hh2 : h0 2 = some ⟨t_impl_Val, [[.n 0, .n 0, .s ⟨#[]⟩]], true, true⟩ := by rw [hh0]; rfl
  obtain ⟨es, ex, e, p', g, G, f1, f2, f3, f4, fg, f5, f6⟩ := l8Some_head (D := D) (by omega) (ns.take 2000) hb.code 0 (by omega) h0 6 4 (by omega) hh
  obtain ⟨x, hx, e2⟩ := d_pick _ hb.code 3 p' (by omega)
  have e2 := e2 (D + 1) (by omega)
  obtain ⟨v, p1, g2, G2, hv, hp1, e3⟩ := d_l1Some _ hb.code x (p' + 1) (by omega)
  have e3 := e3 (D + 1) (by omega)
  have a1 : ¬ 7 = 6 + g := by omega
  have a2 : ¬ 6 + g = 7 := by omega
  have a3 : ¬ 4 = 6 + g := by omega
  have a4 : ¬ 6 + g = 4 := by omega
  have a5 : ¬ 4 = 6 + g + 1 := by omega
  have a6 : ¬ 6 + g + 1 = 4 := by omega
  have a7 : ¬ 7 = 6 + g + 1 := by omega
  have a8 : ¬ 6 + g + 1 = 7 := by omega
  have b1 : ¬ 1 = 6 + g := by omega
  have b2 : ¬ 6 + g = 1 := by omega
  have b3 : ¬ 2 = 6 + g := by omega
  have b4 : ¬ 6 + g = 2 := by omega
  have b5 : ¬ 1 = 6 + g + 1 := by omega
  have b6 : ¬ 6 + g + 1 = 1 := by omega
  have b7 : ¬ 2 = 6 + g + 1 := by omega
  have b8 : ¬ 6 + g + 1 = 2 := by omega
  have c1 : 4 < 6 + g + 1 := by omega
  have c2 : 4 < 6 + g + 1 + 1 := by omega
  have c3 : (6 : Nat) ≤ 7 := by decide
  have c4 : (4 : Nat) < 6 := by decide
  have c5 : (1 : Nat) < 6 := by decide
  have c6 : (2 : Nat) < 6 := by decide
  have c7 : 6 + g < 6 + g + 1 + 1 := by omega
  have c8 : 6 + g + 1 < 6 + g + 1 + 1 := by omega
  have c9 : 7 < 6 + g + 1 + 1 := by omega
  have c10 : 1 < 6 + g + 1 + 1 := by omega
  have c11 : 2 < 6 + g + 1 + 1 := by omega
  have d1 : ¬ 6 + g = 6 := by omega
  have d2 : ¬ 6 + g + 1 = 6 := by omega
  have k1 : 4 < 6 + g + 1 + 1 + 1 := by omega
  have k2 : 6 + g < 6 + g + 1 + 1 + 1 := by omega
  have k3 : 6 + g + 1 < 6 + g + 1 + 1 + 1 := by omega
  have k4 : 6 + g + 1 + 1 < 6 + g + 1 + 1 + 1 := by omega
  have k5 : 7 < 6 + g + 1 + 1 + 1 := by omega
  have k6 : 1 < 6 + g + 1 + 1 + 1 := by omega
  have k7 : 2 < 6 + g + 1 + 1 + 1 := by omega
  have l1 : ¬ 4 = 6 + g + 1 + 1 := by omega
  have l2 : ¬ 6 + g + 1 + 1 = 4 := by omega
  have l3 : ¬ 7 = 6 + g + 1 + 1 := by omega
  have l4 : ¬ 6 + g + 1 + 1 = 7 := by omega
  have l5 : ¬ 1 = 6 + g + 1 + 1 := by omega
  have l6 : ¬ 6 + g + 1 + 1 = 1 := by omega
  have l7 : ¬ 2 = 6 + g + 1 + 1 := by omega
  have l8 : ¬ 6 + g + 1 + 1 = 2 := by omega
  have l9 : ¬ 6 + g = 6 + g + 1 + 1 := by omega
  have l10 : ¬ 6 + g + 1 + 1 = 6 + g := by omega
  have n1 : ¬ 4 = 6 + g + 1 + 1 + 1 + g2 := by omega
  have n2 : ¬ 6 + g + 1 + 1 + 1 + g2 = 4 := by omega
  have n3 : 4 < 6 + g + 1 + 1 + 1 + g2 + 1 := by omega
  have n4 : ¬ 7 = 6 + g + 1 + 1 + 1 + g2 := by omega
  have n5 : ¬ 6 + g + 1 + 1 + 1 + g2 = 7 := by omega
  have n6 : 7 < 6 + g + 1 + 1 + 1 + g2 + 1 := by omega
  have n7 : ¬ 1 = 6 + g + 1 + 1 + 1 + g2 := by omega
  have n8 : ¬ 6 + g + 1 + 1 + 1 + g2 = 1 := by omega
  have n9 : 1 < 6 + g + 1 + 1 + 1 + g2 + 1 := by omega
  have n10 : ¬ 2 = 6 + g + 1 + 1 + 1 + g2 := by omega
  have n11 : ¬ 6 + g + 1 + 1 + 1 + g2 = 2 := by omega
  have n12 : 2 < 6 + g + 1 + 1 + 1 + g2 + 1 := by omega
  have n13 : ¬ 6 + g = 6 + g + 1 + 1 + 1 + g2 := by omega
  have n14 : ¬ 6 + g + 1 + 1 + 1 + g2 = 6 + g := by omega
  have n15 : 6 + g < 6 + g + 1 + 1 + 1 + g2 + 1 := by omega
  have n16 : ¬ 6 + g + 1 + 1 + 1 + g2 < 6 + g + 1 + 1 + 1 := by omega
  have n17 : ¬ 6 + g + 1 + 1 + 1 + g2 = 6 := by omega
  have n18 : 6 + g + 1 + 1 + 1 + g2 < 6 + g + 1 + 1 + 1 + g2 + 1 := by omega
  have n19 : 4 < 6 + g + 1 + 1 + 1 + g2 := by omega
  have n20 : 7 < 6 + g + 1 + 1 + 1 + g2 := by omega
  have n21 : 1 < 6 + g + 1 + 1 + 1 + g2 := by omega
  have n22 : 2 < 6 + g + 1 + 1 + 1 + g2 := by omega
  have n23 : 6 + g < 6 + g + 1 + 1 + 1 + g2 := by omega
  have nb : ((1 : Nat) == 6 + g + 1 + 1 + 1 + g2) = false := by rw [beq_eq_false_iff_ne]; omega
  rw [u_spec_DrawIndexSpan]
  by_cases hl : 0 < es.length
  · have hlz : (0 : Int) < (es.length : Int) := by omega
    obtain ⟨y, hy, e4⟩ := d_pick _ hb.code 3 p1 (by omega)
    have e4 := e4 (D + 1) (by omega)
    by_cases hy0 : 0 < y
    · have q1 := eq_true hy0
      obtain ⟨z, hz, e5⟩ := d_pick _ hb.code (es.length : Int) (p1 + 1) (by omega)
      have e5 := e5 (D + 1) (by omega)
      have hz' := hz.1 (by omega)
      obtain ⟨j, rfl⟩ : ∃ j : Nat, z = (j : Int) := ⟨z.toNat, by omega⟩
      have hj : j < es.length := by omega
      have hgj : es[j]? = some es[j] := List.getElem?_eq_getElem hj
      have hrj := map_at (f := Ent.c) hgj
      generalize es[j] = wj at *
      refine ⟨es, e.v, wj.v, f1, f2, ?_⟩
      simp only [c_spec_DrawIndexSpan, go_sem, Nat.reduceEqDiff, Nat.reduceAdd, reduceIte, reduceCtorEq, Nat.reduceLeDiff, Nat.reduceLT, hlz, e4, q1, e5, hj, hrj, e1, ← hh0, hh1, hh2, f5, f6, e2, e3, a1, a2, a3, a4, a5, a6, a7, a8, b1, b2, b3, b4, b5, b6, b7, b8, c1, c2, c4, c5, c6, c7, c8, c9, c10, c11, d1, d2, k1, k2, k3, k4, k5, k6, k7, l1, l2, l3, l4, l5, l6, l7, l8, l9, l10, n1, n2, n3, n4, n5, n6, n7, n8, n9, n10, n11, n12, n13, n14, n15, n16, n17, n18, n19, n20, n21, n22, n23, nb, mix_ge c3, mix_at, low_at, List.length_map, Nat.le_refl]
    · have q1 := eq_false hy0
      refine ⟨es, e.v, v, f1, f2, ?_⟩
      simp only [c_spec_DrawIndexSpan, go_sem, Nat.reduceEqDiff, Nat.reduceAdd, reduceIte, reduceCtorEq, Nat.reduceLeDiff, Nat.reduceLT, hlz, e4, q1, e1, ← hh0, hh1, hh2, f5, f6, e2, e3, a1, a2, a3, a4, a5, a6, a7, a8, b1, b2, b3, b4, b5, b6, b7, b8, c1, c2, c4, c5, c6, c7, c8, c9, c10, c11, d1, d2, k1, k2, k3, k4, k5, k6, k7, l1, l2, l3, l4, l5, l6, l7, l8, l9, l10, n1, n2, n3, n4, n5, n6, n7, n8, n9, n10, n11, n12, n13, n14, n15, n16, n17, n18, n19, n20, n21, n22, n23, nb, mix_ge c3, mix_at, low_at, List.length_map, Nat.le_refl]
  · have hlz : ¬ (0 : Int) < (es.length : Int) := by omega
    refine ⟨es, e.v, v, f1, f2, ?_⟩
    simp only [c_spec_DrawIndexSpan, go_sem, Nat.reduceEqDiff, Nat.reduceAdd, reduceIte, reduceCtorEq, Nat.reduceLeDiff, Nat.reduceLT, hlz, e1, ← hh0, hh1, hh2, f5, f6, e2, e3, a1, a2, a3, a4, a5, a6, a7, a8, b1, b2, b3, b4, b5, b6, b7, b8, c1, c2, c4, c5, c6, c7, c8, c9, c10, c11, d1, d2, k1, k2, k3, k4, k5, k6, k7, l1, l2, l3, l4, l5, l6, l7, l8, l9, l10, n1, n2, n3, n4, n5, n6, n7, n8, n9, n10, n11, n12, n13, n14, n15, n16, n17, n18, n19, n20, n21, n22, n23, nb, mix_ge c3, mix_at, low_at, List.length_map, Nat.le_refl]
end Go.Vm.T
end

section
set_option linter.unusedVariables false
set_option linter.unusedSimpArgs false
namespace Go.Vm.T
def onceOne (es : List Ent) (e : Ent) : Bool := decide (e.v.k = 0) || decide ((foundA (fun w => decide (w = e.v)) es).length = 1)
theorem lp_FnIndexOnce {D : Nat} (hD : 6 ≤ D) (es : List Ent) (hs : Small es) (ok : Bool) :
    Ended (loopN (exec ⟨den pr D, dcl pr D⟩ b_laws_FnIndexOnce_0) [3, 4, 5, 6] rounds ⟨upd (upd (upd (upd (fun _ => .bad) 3 (.ref t_impl_Entry 0 0 es.length es.length false)) 4 (.q ok)) 5 (.q true)) 6 (.n (0 : Nat)), upd (fun _ => none) 0 (some ⟨t_impl_Entry, es.map Ent.c, true, false⟩), 1, 0⟩) Bool Unit (runI (fun _ q e => .inl (q && onceOne es e)) 0 true es)
      (fun q o => ∃ σ', o = .exit 0 σ' ∧ σ'.s 4 = .q ok ∧ σ'.s 5 = .q q) (fun _ o => False) := by
  refine loop_all es (fun i (q : Bool) => ⟨upd (upd (upd (upd (fun _ => .bad) 3 (.ref t_impl_Entry 0 0 es.length es.length false)) 4 (.q ok)) 5 (.q q)) 6 (.n i), upd (fun _ => none) 0 (some ⟨t_impl_Entry, es.map Ent.c, true, false⟩), 1, 0⟩) _ (fun _ _ => True) _ _ true trivial hs.len (fun i q e K hc hlt hi => ?_) (fun q K _ => ?_)
  · have hl := hs.len
    have hr := map_at (f := Ent.c) hc
    have hw := wrap_nat (n := i) (by unfold big at hl; omega)
    have h2 := d_IndexFind hD es e.v hs
    unfold onceOne
    cases q with
    | false => simp only [loopN, e_laws_FnIndexOnce_0, B_laws_FnIndexOnce_0, go_sem, Nat.reduceEqDiff, Nat.reduceAdd, reduceIte, reduceCtorEq, Nat.reduceLeDiff, Nat.reduceLT, List.length_map, hr, hlt, hw, h2, take_map, rowsSl_ent, rowsSl_int, Nat.le_refl, Bool.false_and]
    | true =>
      by_cases hk : e.v.k = 0
      · have hk' := eq_true hk
        simp only [loopN, e_laws_FnIndexOnce_0, B_laws_FnIndexOnce_0, go_sem, Nat.reduceEqDiff, Nat.reduceAdd, reduceIte, reduceCtorEq, Nat.reduceLeDiff, Nat.reduceLT, List.length_map, hr, hlt, hw, h2, hk', take_map, rowsSl_ent, rowsSl_int, Nat.le_refl, Bool.true_and, decide_true, Bool.true_or]
      · have hk' := eq_false hk
        generalize foundA (fun w => decide (w = e.v)) es = fs at *
        have hcast : (decide ((fs.length : Int) = 1)) = decide (fs.length = 1) := by
          rw [Bool.eq_iff_iff, decide_eq_true_eq, decide_eq_true_eq]; omega
        simp only [loopN, e_laws_FnIndexOnce_0, B_laws_FnIndexOnce_0, go_sem, Nat.reduceEqDiff, Nat.reduceAdd, reduceIte, reduceCtorEq, Nat.reduceLeDiff, Nat.reduceLT, List.length_map, hr, hlt, hw, h2, hk', take_map, rowsSl_ent, rowsSl_int, Nat.le_refl, Bool.true_and, decide_false, Bool.false_or, hcast]
  · have hi : ¬ es.length < es.length := by omega
    simp only [loopN, e_laws_FnIndexOnce_0, B_laws_FnIndexOnce_0, go_sem, Nat.reduceEqDiff, Nat.reduceAdd, reduceIte, reduceCtorEq, Nat.reduceLeDiff, Nat.reduceLT, List.length_map, hi]
    exact ⟨_, rfl, _, rfl, rfl, rfl⟩
theorem run_and (f : Ent → Bool) : ∀ (es : List Ent) (i : Nat) (q : Bool), runI (fun _ q e => (Sum.inl (q && f e) : Bool ⊕ Unit)) i q es = .inl (q && es.all f)
  | [], i, q => by simp [runI]
  | e :: es, i, q => by
    rw [runI]
    simp only
    rw [run_and f es, List.all_cons, Bool.and_assoc]
theorem d_FnIndexOnce {D : Nat} (hD : 8 ≤ D) (ns : List Int) (hb : Bytes ns) : den pr D f_laws_FnIndexOnce [.lit t_uint8 (ns.map u8C)] = some [.q true] := by
  obtain ⟨D, rfl, hd⟩ := pred_of hD
  rw [u_laws_FnIndexOnce]
  by_cases hn : (1048576 : Int) < (ns.length : Int)
  · simp only [c_laws_FnIndexOnce, go_sem, Nat.reduceEqDiff, Nat.reduceAdd, reduceIte, reduceCtorEq, Nat.reduceLeDiff, Nat.reduceLT, List.length_map, hn]
  · obtain ⟨es, f1, f2, e0⟩ := d_DrawIndexOnce (show 7 ≤ D by omega) ns hb
    have hs := f1.small f2
    have e1 := d_IndexOnce (show 5 ≤ D by omega) es hs
    have e2 := d_spec_IndexOnce (show 4 ≤ D by omega) es hs
    have e3 := d_spec_IndexOk (show 3 ≤ D by omega) es hs
    cases hi : indexOk es with
    | false =>
      have : indexOnce es = false := by unfold indexOnce; rw [hi, Bool.and_false]
      rw [this] at e1 e2
      rw [hi] at e3
      simp only [c_laws_FnIndexOnce, go_sem, Nat.reduceEqDiff, Nat.reduceAdd, reduceIte, reduceCtorEq, Nat.reduceLeDiff, Nat.reduceLT, List.length_map, hn, e0, e1, e2, e3, take_map, rowsSl_ent, Nat.le_refl]
    | true =>
      have hall := once_all hi
      rw [hi] at e3
      obtain ⟨out, lo, lp⟩ := lp_FnIndexOnce (show 6 ≤ D by omega) es hs (indexOnce es)
      rw [run_and, Bool.true_and] at lp
      rw [show es.all (onceOne es) = indexOnce es from hall.symm] at lp
      obtain ⟨σ', rfl, l1, l2⟩ := lp
      rw [show ((0 : Nat) : Int) = 0 from rfl] at lo
      generalize indexOnce es = q at *
      cases q <;> simp only [c_laws_FnIndexOnce, go_sem, Nat.reduceEqDiff, Nat.reduceAdd, reduceIte, reduceCtorEq, Nat.reduceLeDiff, Nat.reduceLT, List.length_map, hn, e0, e1, e2, e3, lo, l1, l2, take_map, rowsSl_ent, Nat.le_refl]
end Go.Vm.T
end

section
set_option linter.unusedVariables false
set_option linter.unusedSimpArgs false
namespace Go.Vm.T
def spanG (P : Val → Bool) : Nat → Nat → Ent → Nat ⊕ Unit := fun _ n e => .inl (if P e.v then n + 1 else n)
theorem span_run (P : Val → Bool) : ∀ (es : List Ent) (i n : Nat), runI (spanG P) i n es = .inl (n + (foundL P es).length)
  | [], i, n => by simp [runI, foundL]
  | e :: es, i, n => by
    unfold runI spanG
    simp only
    rw [show (fun _ n e => Sum.inl (if P e.v then n + 1 else n)) = spanG P from rfl, span_run P es]
    unfold foundL
    cases h : P e.v <;> simp [h] <;> omega
theorem lp_FnIndexSpan {D : Nat} (hD : 2 ≤ D) (l h : Val) (es : List Ent) (hs : Small es) :
    Ended (loopN (exec ⟨den pr D, dcl pr D⟩ b_laws_FnIndexSpan_0) [3, 4, 5, 6, 7, 8] rounds ⟨upd (upd (upd (upd (upd (upd (fun _ => .bad) 3 (.ref t_impl_Entry 0 0 es.length es.length false)) 4 (.ptr 1 0 0)) 5 (.ptr 2 0 0)) 6 (.ref t_int 3 0 (foundL (inSpan l h) es).length (foundL (inSpan l h) es).length false)) 7 (.n (0 : Nat))) 8 (.n (0 : Nat)), upd (upd (upd (upd (fun _ => none) 0 (some ⟨t_impl_Entry, es.map Ent.c, true, false⟩)) 1 (some ⟨t_impl_Val, [l.c], true, true⟩)) 2 (some ⟨t_impl_Val, [h.c], true, true⟩)) 3 (some ⟨t_int, (foundL (inSpan l h) es).map intC, true, false⟩), 4, 0⟩) Nat Unit (runI (spanG (inSpan l h)) 0 0 es)
      (fun n o => ∃ σ', o = .exit 0 σ' ∧ σ'.s 3 = .ref t_impl_Entry 0 0 es.length es.length false ∧ σ'.s 4 = .ptr 1 0 0 ∧ σ'.s 5 = .ptr 2 0 0 ∧ σ'.s 6 = .ref t_int 3 0 (foundL (inSpan l h) es).length (foundL (inSpan l h) es).length false ∧ σ'.s 7 = .n (n : Int) ∧ σ'.h = upd (upd (upd (upd (fun _ => none) 0 (some ⟨t_impl_Entry, es.map Ent.c, true, false⟩)) 1 (some ⟨t_impl_Val, [l.c], true, true⟩)) 2 (some ⟨t_impl_Val, [h.c], true, true⟩)) 3 (some ⟨t_int, (foundL (inSpan l h) es).map intC, true, false⟩) ∧ σ'.n = 4 ∧ σ'.base = 0) (fun _ o => False) := by
  refine loop_all es (fun i (n : Nat) => ⟨upd (upd (upd (upd (upd (upd (fun _ => .bad) 3 (.ref t_impl_Entry 0 0 es.length es.length false)) 4 (.ptr 1 0 0)) 5 (.ptr 2 0 0)) 6 (.ref t_int 3 0 (foundL (inSpan l h) es).length (foundL (inSpan l h) es).length false)) 7 (.n (n : Nat))) 8 (.n i), upd (upd (upd (upd (fun _ => none) 0 (some ⟨t_impl_Entry, es.map Ent.c, true, false⟩)) 1 (some ⟨t_impl_Val, [l.c], true, true⟩)) 2 (some ⟨t_impl_Val, [h.c], true, true⟩)) 3 (some ⟨t_int, (foundL (inSpan l h) es).map intC, true, false⟩), 4, 0⟩) _ (fun i n => n = (foundL (inSpan l h) (es.take i)).length) _ _ 0 rfl hs.len (fun i n e K hc hlt hi => ?_) (fun n K _ => ?_)
  · have hl := hs.len
    have hr := map_at (f := Ent.c) hc
    have hw := wrap_nat (n := i) (by unfold big at hl; omega)
    have h1 := d_ValLess (show 1 ≤ D by omega) e.v l
    have h2 := d_ValLess (show 1 ≤ D by omega) h e.v
    have ha := foundL_at (inSpan l h) es i e hc
    have ht := foundL_take (inSpan l h) es i e hc
    have hlen := foundL_len (inSpan l h) es
    unfold spanG
    have hin : (!valLess e.v l && !valLess h e.v) = inSpan l h e.v := rfl
    cases hp : inSpan l h e.v with
    | false =>
      rw [hp] at ht hin
      generalize foundL (inSpan l h) es = fs at *
      simp only [loopN, e_laws_FnIndexSpan_0, B_laws_FnIndexSpan_0, go_sem, Nat.reduceEqDiff, Nat.reduceAdd, reduceIte, reduceCtorEq, Nat.reduceLeDiff, Nat.reduceLT, List.length_map, hr, hlt, hw, h1, h2, hin, take_map, rowsSl_ent, rowsSl_int, Nat.le_refl]
      rw [ht, hi]
      simp
    | true =>
      rw [hp] at ha ht hin
      simp only [if_true] at ha ht
      have hlt2 : n < (foundL (inSpan l h) es).length := by rw [ha]; simp; omega
      have hg : (foundL (inSpan l h) es)[n]? = some e.id := by rw [ha, hi]; simp
      have hr2 := map_at (f := intC) hg
      generalize foundL (inSpan l h) es = fs at *
      have hw2 := wrap_nat (n := n) (by unfold big at hl; omega)
      have hge : ¬ (fs.length : Int) ≤ (n : Int) := by omega
      simp only [loopN, e_laws_FnIndexSpan_0, B_laws_FnIndexSpan_0, go_sem, Nat.reduceEqDiff, Nat.reduceAdd, reduceIte, reduceCtorEq, Nat.reduceLeDiff, Nat.reduceLT, List.length_map, hr, hlt, hw, h1, h2, hin, hlt2, hr2, hw2, hge, take_map, rowsSl_ent, rowsSl_int, Nat.le_refl]
      rw [ht, hi]
      simp
  · have hi : ¬ es.length < es.length := by omega
    simp only [loopN, e_laws_FnIndexSpan_0, B_laws_FnIndexSpan_0, go_sem, Nat.reduceEqDiff, Nat.reduceAdd, reduceIte, reduceCtorEq, Nat.reduceLeDiff, Nat.reduceLT, List.length_map, hi]
    exact ⟨_, rfl, _, rfl, rfl, rfl, rfl, rfl, rfl, rfl, rfl, rfl⟩
theorem d_FnIndexSpan {D : Nat} (hD : 8 ≤ D) (ns : List Int) (hb : Bytes ns) : den pr D f_laws_FnIndexSpan [.lit t_uint8 (ns.map u8C)] = some [.q true] := by
  obtain ⟨D, rfl, hd⟩ := pred_of hD
  rw [u_laws_FnIndexSpan]
  by_cases hn : (1048576 : Int) < (ns.length : Int)
  · simp only [c_laws_FnIndexSpan, go_sem, Nat.reduceEqDiff, Nat.reduceAdd, reduceIte, reduceCtorEq, Nat.reduceLeDiff, Nat.reduceLT, List.length_map, hn]
  · obtain ⟨es, l, h, f1, f2, e0⟩ := d_DrawIndexSpan (show 7 ≤ D by omega) ns hb
    have hs := f1.small f2
    have e1 := d_IndexSpan (show 6 ≤ D by omega) es l h hs
    have e2 := d_spec_IndexSpan (show 4 ≤ D by omega) es l h hs
    have e3 := d_spec_IndexOk (show 3 ≤ D by omega) es hs
    have hfl := foundA_len (inSpan l h) es
    have e4 := d_wpNums (show 1 ≤ D by omega) (foundA (inSpan l h) es) (Nat.le_trans hfl hs.len)
    cases hi : indexOk es with
    | false =>
      have hz : foundA (inSpan l h) es = [] := by unfold foundA; rw [hi]; rfl
      rw [hz] at e1 e2 e4
      rw [hi] at e3
      simp only [List.map_nil] at e1 e2 e4
      simp only [c_laws_FnIndexSpan, go_sem, Nat.reduceEqDiff, Nat.reduceAdd, reduceIte, reduceCtorEq, Nat.reduceLeDiff, Nat.reduceLT, List.length_map, hn, e0, e1, e2, e3, e4, take_map, rowsSl_ent, rowsSl_int, Nat.le_refl]
      rfl
    | true =>
      have hz : foundA (inSpan l h) es = foundL (inSpan l h) es := by unfold foundA; rw [hi]; rfl
      rw [hi] at e3
      have e5 := d_IndexSpan (show 6 ≤ D by omega) es l l hs
      have e6 := d_IndexFind (show 6 ≤ D by omega) es l hs
      have hsp : inSpan l l = fun w => decide (w = l) := funext fun w => span_one l w
      rw [hsp] at e5
      have e7 := d_wpNums (show 1 ≤ D by omega) (foundA (fun w => decide (w = l)) es) (Nat.le_trans (foundA_len _ es) hs.len)
      have e8 := d_ValLess (show 1 ≤ D by omega) h l
      obtain ⟨out, lo, lp⟩ := lp_FnIndexSpan (show 2 ≤ D by omega) l h es hs
      rw [span_run, Nat.zero_add] at lp
      obtain ⟨σ', rfl, l1, l2, l3, l4, l5, l6, l7, l8⟩ := lp
      rw [show ((0 : Nat) : Int) = 0 from rfl] at lo
      rw [hz] at e1 e2 e4 hfl
      have hnone : valLess h l = true → foundL (inSpan l h) es = [] := fun hv => by
        unfold foundL
        rw [List.filter_eq_nil_iff.2 (fun e _ => by rw [span_none hv]; simp)]
        rfl
      generalize foundA (fun w => decide (w = l)) es = gs at *
      generalize hfs : foundL (inSpan l h) es = fs at *
      cases hv : valLess h l with
      | true =>
        have := hnone hv
        subst this
        rw [hv] at e8
        simp only [List.map_nil, List.length_nil] at e1 e2 e4 lo l4 l5 l6
        simp only [c_laws_FnIndexSpan, go_sem, Nat.reduceEqDiff, Nat.reduceAdd, reduceIte, reduceCtorEq, Nat.reduceLeDiff, Nat.reduceLT, List.length_map, hn, e0, e1, e2, e3, e4, e5, e6, e7, e8, lo, l1, l2, l3, l4, l5, l6, l7, l8, take_map, rowsSl_ent, rowsSl_int, Nat.le_refl]
        rfl
      | false =>
        rw [hv] at e8
        simp only [c_laws_FnIndexSpan, go_sem, Nat.reduceEqDiff, Nat.reduceAdd, reduceIte, reduceCtorEq, Nat.reduceLeDiff, Nat.reduceLT, List.length_map, hn, e0, e1, e2, e3, e4, e5, e6, e7, e8, lo, l1, l2, l3, l4, l5, l6, l7, l8, take_map, rowsSl_ent, rowsSl_int, Nat.le_refl]
end Go.Vm.T
end
