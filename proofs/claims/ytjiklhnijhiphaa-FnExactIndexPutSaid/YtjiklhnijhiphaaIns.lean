/-
  The walk of slices.Insert
-/
import Derived.Test.YtjiklhnijhiphaaProg
import Derived.Test.YtjiklhnijhiphaaVmC
import Derived.WalkKit
import Derived.KernelRfl
import Derived.Shelf.RegionOpenPlain
import Derived.Lib.Walk
import Derived.Lib.SliceRun
import Derived.Lib.JoinLaws
import Derived.Lib.AppendZerosOnto
import Derived.Lib.Overlaps
import Derived.Laws.Externs
import Derived.Laws.IdiomCopy
section
set_option linter.unusedVariables false
set_option linter.unusedSimpArgs false
namespace Go.Vm.T
open Go.RowKit Go.Lib Go.Proofs
section
variable {P : Program}
theorem wp_cp (w : World) {o : Oper} {a : Act} {K : Act → World → Prop} {Q : Exit → Act → World → Prop} (d s : Operand) (t t' : TypeId)
    (ho : o.op = .call { callee := .builtin .copy, args := #[d, s], argTypes := #[t, t'] }) (v u : Value) (hd : a.eval d = v) (hs : a.eval s = u) {v' : Value} {w' : World}
    (hr : (Builtin.copy_ #[t, t'] o.type #[v, u]).run P w = .ok v' w') (h : K (a.put o.dst v') w') : o.wp P a w K Q := by
  unfold Oper.wp execOp
  simp only [ho, resolve, invoke, builtin, Sem.run_bind, Sem.run_pure, Result.andThen_ok, List.map_toArray, List.map_cons, List.map_nil, hd, hs, hr]
  exact h
theorem wpList_cp (w : World) {ops : Array Oper} {rest : List Oper} {o : Oper} {a : Act} {Q : Exit → Act → World → Prop} (hgd : o.guard = none) (d s : Operand) (t t' : TypeId)
    (ho : o.op = .call { callee := .builtin .copy, args := #[d, s], argTypes := #[t, t'] }) (v u : Value) (hd : a.eval d = v) (hs : a.eval s = u) {v' : Value} {w' : World}
    (hr : (Builtin.copy_ #[t, t'] o.type #[v, u]).run P w = .ok v' w') (h : wpList P ops Q rest (a.put o.dst v') w') : wpList P ops Q (o :: rest) a w :=
  wpList_plain hgd fun _ hK => wp_cp w d s t t' ho v u hd hs hr (hK _ _ h)
theorem step_cp {ops : Array Oper} {o : Oper} {a : Act} {w : World} {K : Act → World → Prop} {Q : Exit → Act → World → Prop} {E : Prop}
    (hg : o.guard = none) (d x : Operand) (dT sT : TypeId) (hop : o.op = Op.call { callee := Callee.builtin Builtin.copy, args := #[d, x], argTypes := #[dT, sT] })
    (v u : Value) (hd : a.eval d = v) (hx : a.eval x = u) {v' : Value} {w' : World} (hr : (Builtin.copy_ #[dT, sT] o.type #[v, u]).run P w = .ok v' w') (hK : K (a.put o.dst v') w') :
    if Region.wanted o (yielded ops a.tmps) = true then Oper.wp P o a w K Q else E := by
  have hw : Region.wanted o (yielded ops a.tmps) = true := by simp [Region.wanted, hg]
  rw [if_pos hw]
  exact wp_cp w d x dT sT hop v u hd hx hr hK
end
set_option maxHeartbeats 4000000 in
set_option maxRecDepth 100000 in
/-- At the end: what append does. -/
theorem ins_end_80 (a : Option Addr) (n c : Nat) (x : Value) (vc : Nat) (w w' : World) (va : Option Addr)
    (hn : 0 < n → ∃ b off, a = some ⟨b, off, none⟩) (hrun : (Builtin.append_ #[25, 25] 25 #[.slice a n c, .slice va 1 vc]).run Try.prog w = .ok x w') :
    Calls Try.prog 80 #[.slice a n c, .int .i64 n, .slice va 1 vc] w fun e w1 => e = .returned x ∧ w1 = w' := by
  go_enter Try.func80, Try.ntmps80
  cases a with
  | none =>
    have h0 : n = 0 := by
      rcases Nat.eq_zero_or_pos n with h | h
      · exact h
      · obtain ⟨b, off, e⟩ := hn h; cases e
    subst h0
    go_wp2_with (at_builtin; refine Lib.wpList_append_run _ rfl _ _ _ _ rfl _ _ rfl rfl _ _ hrun ?_)
    go_ret
    exact ⟨rfl, rfl⟩
  | some a =>
    obtain ⟨ab, ao, asp⟩ := a
    go_wp2_with (at_builtin; refine Lib.wpList_append_run _ rfl _ _ _ _ rfl _ _ rfl rfl _ _ hrun ?_)
    all_goals (go_ret; exact ⟨rfl, rfl⟩)
set_option maxHeartbeats 4000000 in
set_option maxRecDepth 100000 in
/-- There is room, not at the end: in place. -/
theorem ins_shift_80 (b off n c i : Nat) (vc : Nat) (w W1 W2 : World) (va : Option Addr) (r1 r2 : Value) (hi : i < n) (hroom : n + 1 ≤ c) (hbig : n + 1 ≤ big)
    (hov : ∀ o lb cb, (callFunc 96 #[.slice va 1 vc, .slice (some ⟨b, o, none⟩) lb cb]).run Try.prog w = .ok (.value (.bool false)) w)
    (hcp1 : ∀ ty dc sc, (Builtin.copy_ #[25, 25] ty #[.slice (some ⟨b, off + (i + 1) * 4, none⟩) (n - i) dc, .slice (some ⟨b, off + i * 4, none⟩) (n + 1 - i) sc]).run Try.prog w.drew = .ok r1 W1)
    (hcp2 : ∀ ty dc, (Builtin.copy_ #[25, 25] ty #[.slice (some ⟨b, off + i * 4, none⟩) (n + 1 - i) dc, .slice va 1 vc]).run Try.prog W1 = .ok r2 W2) :
    Calls Try.prog 80 #[.slice (some ⟨b, off, none⟩) n c, .int .i64 i, .slice va 1 vc] w fun e w1 => e = .returned (.slice (some ⟨b, off, none⟩) (n + 1) c) ∧ w1 = W2 := by
  have hbig' : n + 1 ≤ 68719476736 := hbig
  have hz2 : ¬ ((i : Int) = (n : Int)) := by omega
  have hw1 : IntKind.i64.wrap ((i : Int) + (1 : Int)) = (i : Int) + (1 : Int) := by rw [IntKind.wrap_i64]; omega
  have hb1 : (0 : Int) ≤ (i : Int) + (1 : Int) := by omega
  have hin : i ≤ n := by omega
  have htn : ((i : Int) + (1 : Int)).toNat = i + 1 := by omega
  have hb2 : ¬ (c = i + 1) := by omega
  have hb3 : (i : Int) ≤ (n : Int) + (1 : Int) := by omega
  have hb4 : ¬ (c = i) := by omega
  have mixed : Try.prog.follows .mixedOrders = true := by kernel_rfl
  go_enter Try.func80, Try.ntmps80
  go_wp2_with (simp only [hov])
  go_region_law_o (refine step_cp rfl _ _ 25 25 rfl _ _ (by simp [Act.eval, Act.put]) (by simp [Act.eval, Act.put]) (hcp1 _ _ _) ?_)
  go_wp2_with (at_builtin; refine wpList_cp _ rfl _ _ 25 25 rfl _ _ rfl rfl (hcp2 _ _) ?_)
  go_ret
  exact ⟨rfl, rfl⟩
set_option maxHeartbeats 4000000 in
set_option maxRecDepth 100000 in
/-- No room, not at the end: a new row. -/
theorem ins_grow_80 (b off n c i G nb : Nat) (vc : Nat) (w W1 W2 W3 : World) (va : Option Addr) (r1 r2 : Value) (hi : i < n) (hnc : n ≤ c) (hroom : c < n + 1) (hbig : n + 1 ≤ big) (hG : n + 1 ≤ G) (hG63 : G ≤ 9223372036854775807)
    (hrz : (Builtin.append_ #[25, 3] 25 #[.slice (some ⟨b, off, none⟩) i c, .int .i64 ((n : Int) + 1 - (i : Int))]).run Try.prog w = .ok (.slice (some ⟨nb, 0, none⟩) (n + 1) G) W1)
    (hcpA : ∀ ty dc, (Builtin.copy_ #[25, 25] ty #[.slice (some ⟨nb, i * 4, none⟩) (n + 1 - i) dc, .slice va 1 vc]).run Try.prog W1 = .ok r1 W2)
    (hcpB : ∀ ty dc sc, (Builtin.copy_ #[25, 25] ty #[.slice (some ⟨nb, (i + 1) * 4, none⟩) (n - i) dc, .slice (some ⟨b, off + i * 4, none⟩) (n - i) sc]).run Try.prog W2.drew = .ok r2 W3) :
    Calls Try.prog 80 #[.slice (some ⟨b, off, none⟩) n c, .int .i64 i, .slice va 1 vc] w fun e w1 => e = .returned (.slice (some ⟨nb, 0, none⟩) (n + 1) G) ∧ w1 = W3 := by
  have hz2 : ¬ ((i : Int) = (n : Int)) := by omega
  have hbig' : n + 1 ≤ 68719476736 := hbig
  have hz3 : (c : Int) < (n : Int) + (1 : Int) := by omega
  have hw1 : IntKind.i64.wrap ((i : Int) + (1 : Int)) = (i : Int) + (1 : Int) := by rw [IntKind.wrap_i64]; omega
  have hb1 : (0 : Int) ≤ (i : Int) + (1 : Int) := by omega
  have hin : i ≤ n := by omega
  have htn : ((i : Int) + (1 : Int)).toNat = i + 1 := by omega
  have hGi : ¬ (G = i) := by omega
  have hGim : ¬ (G = i + 1) := by omega
  have hci : ¬ (c = i) := by omega
  have hb3 : (i : Int) ≤ (n : Int) := by omega
  have mixed : Try.prog.follows .mixedOrders = true := by kernel_rfl
  go_enter Try.func80, Try.ntmps80
  go_wp2_with (first
    | (at_builtin; refine Lib.wpList_append_run _ rfl _ _ _ _ rfl _ _ rfl rfl _ _ hrz ?_)
    | (at_builtin; refine wpList_cp _ rfl _ _ 25 25 rfl _ _ rfl rfl (hcpA _ _) ?_))
  go_region_law_o (refine step_cp rfl _ _ 25 25 rfl (.slice (some ⟨nb, (i + 1) * 4, none⟩) (n - i) (G - (i + 1))) (.slice (some ⟨b, off + i * 4, none⟩) (n - i) (c - i)) (by simp [Act.eval, Act.put]) (by simp [Act.eval, Act.put]) (hcpB 3 (G - (i + 1)) (c - i)) ?_)
  go_wp2
  go_ret
  exact ⟨rfl, rfl⟩
theorem ins_ov_80 (w : World) (b vb vo o la ca lb cb : Nat) (hne : vb ≠ b) (hb : ∃ cs t, w.heap[b]? = some (.cells cs t (0, 0)) ∧ cs.size ≠ 0) (hv : ∃ cs t, w.heap[vb]? = some (.cells cs t (0, 0))) :
    (callFunc 96 #[.slice (some ⟨vb, vo, none⟩) la ca, .slice (some ⟨b, o, none⟩) lb cb]).run Try.prog w = .ok (.value (.bool false)) w := by
  obtain ⟨cs, t, h1, h2⟩ := hb
  obtain ⟨cs2, t2, h3⟩ := hv
  have hz : ∀ w, (Go.sizeOf 36).run Try.prog w = .ok 4 w := fun w => by
    have hi : (Try.prog.info? 36).map (·.size) = some 4 := by kernel_rfl
    cases hq : Try.prog.info? 36 with
    | none => rw [hq] at hi; cases hi
    | some i =>
      rw [hq] at hi
      have hs : i.size = 4 := by simpa using hi
      simp [Go.sizeOf, typeInfo, hq, hs]
  rw [run_callFunc_extern Try.func96 (by kernel_rfl) (by kernel_rfl) (by kernel_rfl) (e := Extern.SlicesOverlaps.overlaps #[25, 25] #[4]) (by kernel_rfl),
    Lib.run_overlaps_apart w 25 4 36 (by kernel_rfl) 4 hz ⟨vb, vo, none⟩ ⟨b, o, none⟩ la ca lb cb hne t2 t cs2.size cs.size (by simp [World.shape?, h3]) (by simp [World.shape?, h1]) h2 (by simp [World.frozen?, h3]) (by simp [World.frozen?, h3])]
  rfl
theorem insw_80 : InsWalk Try.prog 80 25 3 36 4 where
  und := by kernel_rfl
  undI := by kernel_rfl
  app := by kernel_rfl
  size := by kernel_rfl
  enter := ⟨_, Try.func80, by kernel_rfl, by kernel_rfl⟩
  end_ a n c x vc w w' va hn hrun := ins_end_80 a n c x vc w w' va hn hrun
  shift b off n c i vc w W1 W2 vb vo r1 r2 hi hr hbig hne hb hv h1 h2 := ins_shift_80 b off n c i vc w W1 W2 (some ⟨vb, vo, none⟩) r1 r2 hi hr hbig (fun o lb cb => ins_ov_80 w b vb vo o 1 vc lb cb hne hb hv) h1 h2
  grow b off n c i G nb vc w W1 W2 W3 va r1 r2 hi hnc hr hbig hG hGm h1 h2 h3 := ins_grow_80 b off n c i G nb vc w W1 W2 W3 va r1 r2 hi hnc hr hbig hG hGm h1 h2 h3

end Go.Vm.T
end
