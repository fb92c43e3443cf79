/-
  The lowered code is the program's, by the kernel
-/
import Derived.Test.YtcceojmajfinpaaGreatDoorProg
import Derived.Test.YtcceojmajfinpaaGreatDoorVmD
import Derived.WalkKit
import Derived.KernelRfl
import Derived.Shelf.RegionOpenPlain
import Derived.Lib.Walk
import Derived.Lib.SliceRun
import Derived.Lib.JoinLaws
import Derived.Lib.AppendZerosOnto
import Derived.Lib.Overlaps
import Derived.Laws.Externs
import Derived.Laws.IdiomCopy
import Derived.Test.YtcceojmajfinpaaGreatDoorCode
import Derived.Test.YtcceojmajfinpaaGreatDoorLay
section
set_option linter.unusedVariables false
set_option linter.unusedSectionVars false
set_option linter.unusedSimpArgs false
namespace Go.Vm.T
open Go.RowKit Go.Lib Go.Proofs
section
variable {P : Program}
theorem Y1q (w : World) {o : Oper} {a : Act} {K : Act → World → Prop} {Q : Exit → Act → World → Prop} (d s : Operand) (t t' : TypeId)
 (ho : o.op = .call { callee := .builtin .copy, args := #[d, s], argTypes := #[t, t'] }) (v u : Value) (hd : a.eval d = v) (hs : a.eval s = u) {v' : Value} {w' : World}
 (hr : (Builtin.copy_ #[t, t'] o.type #[v, u]).run P w = .ok v' w') (h : K (a.put o.dst v') w') : o.wp P a w K Q := by
 unfold Oper.wp execOp
 simp only [ho, resolve, invoke, builtin, Sem.run_bind, Sem.run_pure, Result.andThen_ok, List.map_toArray, List.map_cons, List.map_nil, hd, hs, hr]
 exact h
theorem Zjk (w : World) {ops : Array Oper} {rest : List Oper} {o : Oper} {a : Act} {Q : Exit → Act → World → Prop} (hgd : o.guard = none) (d s : Operand) (t t' : TypeId)
 (ho : o.op = .call { callee := .builtin .copy, args := #[d, s], argTypes := #[t, t'] }) (v u : Value) (hd : a.eval d = v) (hs : a.eval s = u) {v' : Value} {w' : World}
 (hr : (Builtin.copy_ #[t, t'] o.type #[v, u]).run P w = .ok v' w') (h : wpList P ops Q rest (a.put o.dst v') w') : wpList P ops Q (o :: rest) a w :=
 wpList_plain hgd fun _ hK => Y1q w d s t t' ho v u hd hs hr (hK _ _ h)
theorem Zt8 {ops : Array Oper} {o : Oper} {a : Act} {w : World} {K : Act → World → Prop} {Q : Exit → Act → World → Prop} {E : Prop}
 (hg : o.guard = none) (d x : Operand) (dT sT : TypeId) (hop : o.op = Op.call { callee := Callee.builtin Builtin.copy, args := #[d, x], argTypes := #[dT, sT] })
 (v u : Value) (hd : a.eval d = v) (hx : a.eval x = u) {v' : Value} {w' : World} (hr : (Builtin.copy_ #[dT, sT] o.type #[v, u]).run P w = .ok v' w') (hK : K (a.put o.dst v') w') :
 if Region.wanted o (yielded ops a.tmps) = true then Oper.wp P o a w K Q else E := by
 have hw : Region.wanted o (yielded ops a.tmps) = true := by simp [Region.wanted, hg]
 rw [if_pos hw]
 exact Y1q w d x dT sT hop v u hd hx hr hK
end
set_option maxHeartbeats 4000000 in
set_option maxRecDepth 100000 in
theorem Zmt (a : Option Addr) (n c : Nat) (x : Value) (vc : Nat) (w w' : World) (va : Option Addr)
 (hn : 0 < n → ∃ b off, a = some ⟨b, off, none⟩) (hrun : (Builtin.append_ #[92, 92] 92 #[.slice a n c, .slice va 1 vc]).run Tryz.prog w = .ok x w') :
 Calls Tryz.prog 130 #[.slice a n c, .int .i64 n, .slice va 1 vc] w fun e w1 => e = .returned x ∧ w1 = w' := by
 go_enter Tryz.func130, Tryz.ntmps130
 cases a with
 | none =>
   have h0 : n = 0 := by
    rcases Nat.eq_zero_or_pos n with h | h
    · exact h
    · obtain ⟨b, off, e⟩ := hn h; cases e
   subst h0
   go_wp2_with (at_builtin; refine Lib.wpList_append_run _ rfl _ _ _ _ rfl _ _ rfl rfl _ _ hrun ?_)
   go_ret
   exact ⟨rfl, rfl⟩
 | some a =>
   obtain ⟨ab, ao, asp⟩ := a
   go_wp2_with (at_builtin; refine Lib.wpList_append_run _ rfl _ _ _ _ rfl _ _ rfl rfl _ _ hrun ?_)
   all_goals (go_ret; exact ⟨rfl, rfl⟩)
set_option maxHeartbeats 4000000 in
set_option maxRecDepth 100000 in
theorem Zgv (b off n c i : Nat) (vc : Nat) (w W1 W2 : World) (va : Option Addr) (r1 r2 : Value) (hi : i < n) (hroom : n + 1 ≤ c) (hbig : n + 1 ≤ big)
 (hov : ∀ o lb cb, (callFunc 195 #[.slice va 1 vc, .slice (some ⟨b, o, none⟩) lb cb]).run Tryz.prog w = .ok (.value (.bool false)) w)
 (hcp1 : ∀ ty dc sc, (Builtin.copy_ #[92, 92] ty #[.slice (some ⟨b, off + (i + 1) * 4, none⟩) (n - i) dc, .slice (some ⟨b, off + i * 4, none⟩) (n + 1 - i) sc]).run Tryz.prog w.drew = .ok r1 W1)
 (hcp2 : ∀ ty dc, (Builtin.copy_ #[92, 92] ty #[.slice (some ⟨b, off + i * 4, none⟩) (n + 1 - i) dc, .slice va 1 vc]).run Tryz.prog W1 = .ok r2 W2) :
 Calls Tryz.prog 130 #[.slice (some ⟨b, off, none⟩) n c, .int .i64 i, .slice va 1 vc] w fun e w1 => e = .returned (.slice (some ⟨b, off, none⟩) (n + 1) c) ∧ w1 = W2 := by
 have hbig' : n + 1 ≤ 68719476736 := hbig
 have hz2 : ¬ ((i : Int) = (n : Int)) := by omega
 have hw1 : IntKind.i64.wrap ((i : Int) + (1 : Int)) = (i : Int) + (1 : Int) := by rw [IntKind.wrap_i64]; omega
 have hb1 : (0 : Int) ≤ (i : Int) + (1 : Int) := by omega
 have hin : i ≤ n := by omega
 have htn : ((i : Int) + (1 : Int)).toNat = i + 1 := by omega
 have hb2 : ¬ (c = i + 1) := by omega
 have hb3 : (i : Int) ≤ (n : Int) + (1 : Int) := by omega
 have hb4 : ¬ (c = i) := by omega
 have mixed : Tryz.prog.follows .mixedOrders = true := by kernel_rfl
 go_enter Tryz.func130, Tryz.ntmps130
 go_wp2_with (simp only [hov])
 go_region_law_o (refine Zt8 rfl _ _ 92 92 rfl _ _ (by simp [Act.eval, Act.put]) (by simp [Act.eval, Act.put]) (hcp1 _ _ _) ?_)
 go_wp2_with (at_builtin; refine Zjk _ rfl _ _ 92 92 rfl _ _ rfl rfl (hcp2 _ _) ?_)
 go_ret
 exact ⟨rfl, rfl⟩
set_option maxHeartbeats 4000000 in
set_option maxRecDepth 100000 in
theorem Zk8 (b off n c i G nb : Nat) (vc : Nat) (w W1 W2 W3 : World) (va : Option Addr) (r1 r2 : Value) (hi : i < n) (hnc : n ≤ c) (hroom : c < n + 1) (hbig : n + 1 ≤ big) (hG : n + 1 ≤ G) (hG63 : G ≤ 9223372036854775807)
 (hrz : (Builtin.append_ #[92, 3] 92 #[.slice (some ⟨b, off, none⟩) i c, .int .i64 ((n : Int) + 1 - (i : Int))]).run Tryz.prog w = .ok (.slice (some ⟨nb, 0, none⟩) (n + 1) G) W1)
 (hcpA : ∀ ty dc, (Builtin.copy_ #[92, 92] ty #[.slice (some ⟨nb, i * 4, none⟩) (n + 1 - i) dc, .slice va 1 vc]).run Tryz.prog W1 = .ok r1 W2)
 (hcpB : ∀ ty dc sc, (Builtin.copy_ #[92, 92] ty #[.slice (some ⟨nb, (i + 1) * 4, none⟩) (n - i) dc, .slice (some ⟨b, off + i * 4, none⟩) (n - i) sc]).run Tryz.prog W2.drew = .ok r2 W3) :
 Calls Tryz.prog 130 #[.slice (some ⟨b, off, none⟩) n c, .int .i64 i, .slice va 1 vc] w fun e w1 => e = .returned (.slice (some ⟨nb, 0, none⟩) (n + 1) G) ∧ w1 = W3 := by
 have hz2 : ¬ ((i : Int) = (n : Int)) := by omega
 have hbig' : n + 1 ≤ 68719476736 := hbig
 have hz3 : (c : Int) < (n : Int) + (1 : Int) := by omega
 have hw1 : IntKind.i64.wrap ((i : Int) + (1 : Int)) = (i : Int) + (1 : Int) := by rw [IntKind.wrap_i64]; omega
 have hb1 : (0 : Int) ≤ (i : Int) + (1 : Int) := by omega
 have hin : i ≤ n := by omega
 have htn : ((i : Int) + (1 : Int)).toNat = i + 1 := by omega
 have hGi : ¬ (G = i) := by omega
 have hGim : ¬ (G = i + 1) := by omega
 have hci : ¬ (c = i) := by omega
 have hb3 : (i : Int) ≤ (n : Int) := by omega
 have mixed : Tryz.prog.follows .mixedOrders = true := by kernel_rfl
 go_enter Tryz.func130, Tryz.ntmps130
 go_wp2_with (first
  | (at_builtin; refine Lib.wpList_append_run _ rfl _ _ _ _ rfl _ _ rfl rfl _ _ hrz ?_)
  | (at_builtin; refine Zjk _ rfl _ _ 92 92 rfl _ _ rfl rfl (hcpA _ _) ?_))
 go_region_law_o (refine Zt8 rfl _ _ 92 92 rfl (.slice (some ⟨nb, (i + 1) * 4, none⟩) (n - i) (G - (i + 1))) (.slice (some ⟨b, off + i * 4, none⟩) (n - i) (c - i)) (by simp [Act.eval, Act.put]) (by simp [Act.eval, Act.put]) (hcpB 3 (G - (i + 1)) (c - i)) ?_)
 go_wp2
 go_ret
 exact ⟨rfl, rfl⟩
theorem Zph (w : World) (b vb vo o la ca lb cb : Nat) (hne : vb ≠ b) (hb : ∃ cs t, w.heap[b]? = some (.cells cs t (0, 0)) ∧ cs.size ≠ 0) (hv : ∃ cs t, w.heap[vb]? = some (.cells cs t (0, 0))) :
 (callFunc 195 #[.slice (some ⟨vb, vo, none⟩) la ca, .slice (some ⟨b, o, none⟩) lb cb]).run Tryz.prog w = .ok (.value (.bool false)) w := by
 obtain ⟨cs, t, h1, h2⟩ := hb
 obtain ⟨cs2, t2, h3⟩ := hv
 have hz : ∀ w, (Go.sizeOf 97).run Tryz.prog w = .ok 4 w := fun w => by
  have hi : (Tryz.prog.info? 97).map (·.size) = some 4 := by kernel_rfl
  cases hq : Tryz.prog.info? 97 with
  | none => rw [hq] at hi; cases hi
  | some i =>
    rw [hq] at hi
    have hs : i.size = 4 := by simpa using hi
    simp [Go.sizeOf, typeInfo, hq, hs]
 rw [run_callFunc_extern Tryz.func195 (by kernel_rfl) (by kernel_rfl) (by kernel_rfl) (e := Extern.SlicesOverlaps.overlaps #[92, 92] #[4]) (by kernel_rfl),
  Lib.run_overlaps_apart w 92 4 97 (by kernel_rfl) 4 hz ⟨vb, vo, none⟩ ⟨b, o, none⟩ la ca lb cb hne t2 t cs2.size cs.size (by simp [World.shape?, h3]) (by simp [World.shape?, h1]) h2 (by simp [World.frozen?, h3]) (by simp [World.frozen?, h3])]
 rfl
theorem insw_130 : InsWalk Tryz.prog 130 92 3 97 4 where
 und := by kernel_rfl
 undI := by kernel_rfl
 app := by kernel_rfl
 size := by kernel_rfl
 enter := ⟨_, Tryz.func130, by kernel_rfl, by kernel_rfl⟩
 end_ a n c x vc w w' va hn hrun := Zmt a n c x vc w w' va hn hrun
 shift b off n c i vc w W1 W2 vb vo r1 r2 hi hr hbig hne hb hv h1 h2 := Zgv b off n c i vc w W1 W2 (some ⟨vb, vo, none⟩) r1 r2 hi hr hbig (fun o lb cb => Zph w b vb vo o 1 vc lb cb hne hb hv) h1 h2
 grow b off n c i G nb vc w W1 W2 W3 va r1 r2 hi hnc hr hbig hG hGm h1 h2 h3 := Zk8 b off n c i G nb vc w W1 W2 W3 va r1 r2 hi hnc hr hbig hG hGm h1 h2 h3
end Go.Vm.T
set_option maxRecDepth 100000
namespace Go.Vm.T
open Go.Proofs
theorem k_q0 : okFn Tryz.prog f_q0 c_q0 = true := by kernel_rfl
theorem Zdn : okFn Tryz.prog Xo c_laws_szTable = true := by kernel_rfl
theorem Zdr : okFn Tryz.prog Wd c_laws_eqTable = true := by kernel_rfl
theorem Zdq : okFn Tryz.prog Wa c_spec_TableOk = true := by kernel_rfl
theorem k_q5 : okFn Tryz.prog f_q5 c_q5 = true := by kernel_rfl
theorem Zd3 : okFn Tryz.prog Xn c_impl_IndexOf = true := by kernel_rfl
theorem Zd9 : okFn Tryz.prog Wg c_spec_IndexOf = true := by kernel_rfl
theorem k_q8 : okFn Tryz.prog f_q8 c_q8 = true := by kernel_rfl
theorem k_q9 : okFn Tryz.prog f_q9 c_q9 = true := by kernel_rfl
theorem Y4x : okFn Tryz.prog Zkt c_q10 = true := by kernel_rfl
theorem Zh7 : okFn Tryz.prog V8 c_laws_szColS = true := by kernel_rfl
theorem Y6r : okFn Tryz.prog Zmf c_q13 = true := by kernel_rfl
theorem Zfj : okFn Tryz.prog V3 c_laws_szRowS = true := by kernel_rfl
theorem Zlf : okFn Tryz.prog Yl c_spec_l2At = true := by kernel_rfl
theorem Zfl : okFn Tryz.prog Yx c_spec_l3Last = true := by kernel_rfl
theorem Zgp : okFn Tryz.prog V5 c_laws_toColS = true := by kernel_rfl
theorem Y7g : okFn Tryz.prog Zlt c_q19 = true := by kernel_rfl
theorem Zgi : okFn Tryz.prog Vg c_laws_eqColS = true := by kernel_rfl
theorem Y71 : okFn Tryz.prog Zmg c_q22 = true := by kernel_rfl
theorem Zhs : okFn Tryz.prog Vh c_laws_eqRowS = true := by kernel_rfl
theorem Zi0 : okFn Tryz.prog Yq c_spec_l3Now = true := by kernel_rfl
theorem Zda : okFn Tryz.prog Wb c_impl_TableOk = true := by kernel_rfl
theorem Y6v : okFn Tryz.prog Zh5 c_q27 = true := by kernel_rfl
theorem Y6f : okFn Tryz.prog Zbq c_q28 = true := by kernel_rfl
theorem Zdi : okFn Tryz.prog Yz c_impl_ShapeOk = true := by kernel_rfl
theorem Zkl : okFn Tryz.prog X5 c_impl_colAt = true := by kernel_rfl
theorem Y6a : okFn Tryz.prog Zgb c_q32 = true := by kernel_rfl
theorem Y5p : okFn Tryz.prog Zm5 c_q33 = true := by kernel_rfl
theorem Zd2 : okFn Tryz.prog Wh c_spec_l3Twice = true := by kernel_rfl
theorem Zk5 : okFn Tryz.prog Z05 c_spec_l3All = true := by kernel_rfl
theorem Y79 : okFn Tryz.prog Zlx c_q36 = true := by kernel_rfl
theorem Y5s : okFn Tryz.prog Znm c_q37 = true := by kernel_rfl
theorem Y64 : okFn Tryz.prog Zmu c_q38 = true := by kernel_rfl
theorem Y7a : okFn Tryz.prog Z70 c_q39 = true := by kernel_rfl
theorem Zgy : okFn Tryz.prog Va c_laws_eqValS = true := by kernel_rfl
theorem Y6e : okFn Tryz.prog Zlc c_q41 = true := by kernel_rfl
theorem Zl3 : okFn Tryz.prog Vx c_impl_place = true := by kernel_rfl
theorem Y4r : okFn Tryz.prog Znj c_q47 = true := by kernel_rfl
theorem Zjs : okFn Tryz.prog Z04 c_spec_l8Put = true := by kernel_rfl
theorem Zdt : okFn Tryz.prog Wj c_laws_eqEntry = true := by kernel_rfl
theorem Y6y : okFn Tryz.prog Znf c_q51 = true := by kernel_rfl
theorem Zdg : okFn Tryz.prog Wc c_impl_ValLess = true := by kernel_rfl
theorem Zhy : okFn Tryz.prog Wu c_laws_szCol = true := by kernel_rfl
theorem Y4z : okFn Tryz.prog Zmv c_q54 = true := by kernel_rfl
theorem Zj2 : okFn Tryz.prog Vz c_laws_szRow = true := by kernel_rfl
theorem Zd6 : okFn Tryz.prog Zm c_spec_l3Shape = true := by kernel_rfl
theorem Zie : okFn Tryz.prog V0 c_laws_toCol = true := by kernel_rfl
theorem Y7k : okFn Tryz.prog Znc c_q59 = true := by kernel_rfl
theorem Zif : okFn Tryz.prog Z03 c_laws_toRow = true := by kernel_rfl
theorem Zij : okFn Tryz.prog Ww c_laws_eqCol = true := by kernel_rfl
theorem Y7d : okFn Tryz.prog Zmz c_q62 = true := by kernel_rfl
theorem Zir : okFn Tryz.prog Z00 c_laws_eqRow = true := by kernel_rfl
theorem Zg2 : okFn Tryz.prog Vb c_spec_RowAll = true := by kernel_rfl
theorem Y6b : okFn Tryz.prog Zm9 c_q65 = true := by kernel_rfl
theorem Zua : okFn Tryz.prog Xg c_impl_in = true := by kernel_rfl
theorem Zdo : okFn Tryz.prog Yt c_impl_changes = true := by kernel_rfl
theorem Zi5 : okFn Tryz.prog Yb c_impl_rowOk = true := by kernel_rfl
theorem Zjw : okFn Tryz.prog X8 c_impl_ValOk = true := by kernel_rfl
theorem Y5q : okFn Tryz.prog Zly c_q71 = true := by kernel_rfl
theorem Zdm : okFn Tryz.prog Wi c_spec_ValLess = true := by kernel_rfl
theorem Zj7 : okFn Tryz.prog Vv c_impl_ColOk = true := by kernel_rfl
theorem Y6g : okFn Tryz.prog Zmx c_q74 = true := by kernel_rfl
theorem Zcw : okFn Tryz.prog X0 c_impl_colAt_1 = true := by kernel_rfl
theorem Zdc : okFn Tryz.prog X2 c_spec_ShapeOk = true := by kernel_rfl
theorem Zd8 : okFn Tryz.prog Xq c_spec_ShapeDo = true := by kernel_rfl
theorem Zk6 : okFn Tryz.prog Zl c_spec_RowOk = true := by kernel_rfl
theorem Zjl : okFn Tryz.prog Wz c_laws_szVal = true := by kernel_rfl
theorem Zke : okFn Tryz.prog Wx c_laws_toVal = true := by kernel_rfl
theorem Zj8 : okFn Tryz.prog W4 c_laws_eqVal = true := by kernel_rfl
theorem Y6z : okFn Tryz.prog Zqf c_q85 = true := by kernel_rfl
theorem Zfz : okFn Tryz.prog Vi c_spec_l8Less = true := by kernel_rfl
theorem Zfg : okFn Tryz.prog V1 c_laws_szValS = true := by kernel_rfl
theorem Zgz : okFn Tryz.prog Vc c_laws_toValS = true := by kernel_rfl
theorem Ziy : okFn Tryz.prog Z01 c_spec_l2Row = true := by kernel_rfl
theorem Y4w : okFn Tryz.prog Z80 c_q91 = true := by kernel_rfl
theorem Zh4 : okFn Tryz.prog Zw c_impl_change = true := by kernel_rfl
theorem Y4m : okFn Tryz.prog Zhz c_q93 = true := by kernel_rfl
theorem Y6x : okFn Tryz.prog Zgk c_q94 = true := by kernel_rfl
theorem Y54 : okFn Tryz.prog Zne c_q95 = true := by kernel_rfl
theorem Zin : okFn Tryz.prog X9 c_spec_ValOk = true := by kernel_rfl
theorem Zg7 : okFn Tryz.prog V2 c_impl_isName = true := by kernel_rfl
theorem Ziw : okFn Tryz.prog Z02 c_spec_ColOk = true := by kernel_rfl
theorem Zml : okFn Tryz.prog Zo c_spec_l2Do = true := by kernel_rfl
theorem Zkn : okFn Tryz.prog W5 c_spec_ValAs = true := by kernel_rfl
theorem Y30 : okFn Tryz.prog Zeg c_q105 = true := by kernel_rfl
theorem Y2v : okFn Tryz.prog Z8p c_q107 = true := by kernel_rfl
theorem Y1k : okFn Tryz.prog Zcf c_q108 = true := by kernel_rfl
theorem Zi3 : okFn Tryz.prog W7 c_impl_ValAs = true := by kernel_rfl
theorem Y1w : okFn Tryz.prog Zf8 c_q110 = true := by kernel_rfl
theorem Y1m : okFn Tryz.prog Zbh c_q112 = true := by kernel_rfl
theorem Zjy : okFn Tryz.prog W6 c_spec_l1Num = true := by kernel_rfl
theorem Zgt : okFn Tryz.prog V9 c_spec_l1Text = true := by kernel_rfl
theorem Zg3 : okFn Tryz.prog V7 c_spec_l2Name = true := by kernel_rfl
theorem Zgl : okFn Tryz.prog Xh c_spec_l2Rest = true := by kernel_rfl
theorem Zju : okFn Tryz.prog Wv c_spec_l2Cut = true := by kernel_rfl
theorem Zfq : okFn Tryz.prog Xk c_spec_l10Num = true := by kernel_rfl
theorem Zfc : okFn Tryz.prog Xl c_spec_l10Dec = true := by kernel_rfl
theorem Zar : okFn Tryz.prog Ye c_laws_toTable_D = true := by kernel_rfl
theorem Zce : okFn Tryz.prog Vd c_laws_toRowS_D = true := by kernel_rfl
theorem Zja : okFn Tryz.prog Z52 c_spec_l3Set = true := by kernel_rfl
theorem Zim : noLp c_spec_l3Set.code = true := by kernel_rfl
theorem Zj4 : okFn Tryz.prog Zak c_spec_l3Act = true := by kernel_rfl
theorem Zis : noLp c_spec_l3Act.code = true := by kernel_rfl
theorem Zrx : ∀ x ∈ Zu5, okFn Tryz.prog x.1 x.2 = true ∧ noLp x.2.code = true :=
 List.forall_mem_cons.2 ⟨⟨Zja, Zim⟩, List.forall_mem_cons.2 ⟨⟨Zj4, Zis⟩, fun x h => absurd h List.not_mem_nil⟩⟩
theorem Zur : ∀ x ∈ fns, okFn Tryz.prog x.1 x.2 = true :=
 List.forall_mem_cons.2 ⟨k_q0, List.forall_mem_cons.2 ⟨Zdn, List.forall_mem_cons.2 ⟨Zdr, List.forall_mem_cons.2 ⟨Zdq, List.forall_mem_cons.2 ⟨k_q5, List.forall_mem_cons.2 ⟨Zd3, List.forall_mem_cons.2 ⟨Zd9, List.forall_mem_cons.2 ⟨k_q8, List.forall_mem_cons.2 ⟨k_q9, List.forall_mem_cons.2 ⟨Y4x, List.forall_mem_cons.2 ⟨Zh7, List.forall_mem_cons.2 ⟨Y6r, List.forall_mem_cons.2 ⟨Zfj, List.forall_mem_cons.2 ⟨Zlf, List.forall_mem_cons.2 ⟨Zfl, List.forall_mem_cons.2 ⟨Zgp, List.forall_mem_cons.2 ⟨Y7g, List.forall_mem_cons.2 ⟨Zgi, List.forall_mem_cons.2 ⟨Y71, List.forall_mem_cons.2 ⟨Zhs, List.forall_mem_cons.2 ⟨Zi0, List.forall_mem_cons.2 ⟨Zda, List.forall_mem_cons.2 ⟨Y6v, List.forall_mem_cons.2 ⟨Y6f, List.forall_mem_cons.2 ⟨Zdi, List.forall_mem_cons.2 ⟨Zkl, List.forall_mem_cons.2 ⟨Y6a, List.forall_mem_cons.2 ⟨Y5p, List.forall_mem_cons.2 ⟨Zd2, List.forall_mem_cons.2 ⟨Zk5, List.forall_mem_cons.2 ⟨Y79, List.forall_mem_cons.2 ⟨Y5s, List.forall_mem_cons.2 ⟨Y64, List.forall_mem_cons.2 ⟨Y7a, List.forall_mem_cons.2 ⟨Zgy, List.forall_mem_cons.2 ⟨Y6e, List.forall_mem_cons.2 ⟨Zl3, List.forall_mem_cons.2 ⟨Y4r, List.forall_mem_cons.2 ⟨Zjs, List.forall_mem_cons.2 ⟨Zdt, List.forall_mem_cons.2 ⟨Y6y, List.forall_mem_cons.2 ⟨Zdg, List.forall_mem_cons.2 ⟨Zhy, List.forall_mem_cons.2 ⟨Y4z, List.forall_mem_cons.2 ⟨Zj2, List.forall_mem_cons.2 ⟨Zd6, List.forall_mem_cons.2 ⟨Zie, List.forall_mem_cons.2 ⟨Y7k, List.forall_mem_cons.2 ⟨Zif, List.forall_mem_cons.2 ⟨Zij, List.forall_mem_cons.2 ⟨Y7d, List.forall_mem_cons.2 ⟨Zir, List.forall_mem_cons.2 ⟨Zg2, List.forall_mem_cons.2 ⟨Y6b, List.forall_mem_cons.2 ⟨Zua, List.forall_mem_cons.2 ⟨Zdo, List.forall_mem_cons.2 ⟨Zi5, List.forall_mem_cons.2 ⟨Zjw, List.forall_mem_cons.2 ⟨Y5q, List.forall_mem_cons.2 ⟨Zdm, List.forall_mem_cons.2 ⟨Zj7, List.forall_mem_cons.2 ⟨Y6g, List.forall_mem_cons.2 ⟨Zcw, List.forall_mem_cons.2 ⟨Zdc, List.forall_mem_cons.2 ⟨Zd8, List.forall_mem_cons.2 ⟨Zk6, List.forall_mem_cons.2 ⟨Zjl, List.forall_mem_cons.2 ⟨Zke, List.forall_mem_cons.2 ⟨Zj8, List.forall_mem_cons.2 ⟨Y6z, List.forall_mem_cons.2 ⟨Zfz, List.forall_mem_cons.2 ⟨Zfg, List.forall_mem_cons.2 ⟨Zgz, List.forall_mem_cons.2 ⟨Ziy, List.forall_mem_cons.2 ⟨Y4w, List.forall_mem_cons.2 ⟨Zh4, List.forall_mem_cons.2 ⟨Y4m, List.forall_mem_cons.2 ⟨Y6x, List.forall_mem_cons.2 ⟨Y54, List.forall_mem_cons.2 ⟨Zin, List.forall_mem_cons.2 ⟨Zg7, List.forall_mem_cons.2 ⟨Ziw, List.forall_mem_cons.2 ⟨Zml, List.forall_mem_cons.2 ⟨Zkn, List.forall_mem_cons.2 ⟨Y30, List.forall_mem_cons.2 ⟨Y2v, List.forall_mem_cons.2 ⟨Y1k, List.forall_mem_cons.2 ⟨Zi3, List.forall_mem_cons.2 ⟨Y1w, List.forall_mem_cons.2 ⟨Y1m, List.forall_mem_cons.2 ⟨Zjy, List.forall_mem_cons.2 ⟨Zgt, List.forall_mem_cons.2 ⟨Zg3, List.forall_mem_cons.2 ⟨Zgl, List.forall_mem_cons.2 ⟨Zju, List.forall_mem_cons.2 ⟨Zfq, List.forall_mem_cons.2 ⟨Zfc, fun x h => absurd h List.not_mem_nil⟩⟩⟩⟩⟩⟩⟩⟩⟩⟩⟩⟩⟩⟩⟩⟩⟩⟩⟩⟩⟩⟩⟩⟩⟩⟩⟩⟩⟩⟩⟩⟩⟩⟩⟩⟩⟩⟩⟩⟩⟩⟩⟩⟩⟩⟩⟩⟩⟩⟩⟩⟩⟩⟩⟩⟩⟩⟩⟩⟩⟩⟩⟩⟩⟩⟩⟩⟩⟩⟩⟩⟩⟩⟩⟩⟩⟩⟩⟩⟩⟩⟩⟩⟩⟩⟩⟩⟩⟩⟩⟩⟩⟩⟩⟩⟩⟩
theorem Zuq : ∀ x ∈ Zlm, okFn Tryz.prog x.1 x.2 = true :=
 List.forall_mem_cons.2 ⟨Zar, List.forall_mem_cons.2 ⟨Zce, fun x h => absurd h List.not_mem_nil⟩⟩
theorem orders : Tryz.prog.follows .mixedOrders = true := by kernel_rfl
theorem Y7e : Zbx Tryz.prog Zpf Z2 = true := by kernel_rfl
theorem Y3u : Zbx Tryz.prog Ze2 Z0 = true := by kernel_rfl
theorem Y1r : Zbx Tryz.prog Zea Z1 = true := by kernel_rfl
theorem Zn7 : ∀ x ∈ exts, Z5i Tryz.prog x.2 x.1 ∧ Z6k Tryz.prog x.1 :=
 List.forall_mem_cons.2 ⟨Z4j Y7e orders, List.forall_mem_cons.2 ⟨Z4j Y3u orders, List.forall_mem_cons.2 ⟨Z4j Y1r orders, List.forall_mem_cons.2 ⟨Y0i, List.forall_mem_cons.2 ⟨Y0a, fun x h => absurd h List.not_mem_nil⟩⟩⟩⟩⟩
theorem Zmc : ∀ x ∈ inss, DcOk Tryz.prog (insF x.2) x.1 ∧ Z6k Tryz.prog x.1 :=
 List.forall_mem_cons.2 ⟨⟨Y42 insw_130, insw_130.enter⟩, fun x h => absurd h List.not_mem_nil⟩
theorem Wn {α : Type} {f : Nat} : ∀ {l : List (Nat × α)} {x : α}, look f l = some x → (f, x) ∈ l
 | [], x, h => by cases h
 | y :: ys, x, h => by
   unfold look at h
   split at h
   · rename_i e; simp only [Option.some.injEq] at h; subst e; subst h; exact List.mem_cons_self
   · exact List.mem_cons_of_mem _ (Wn h)
end Go.Vm.T
end
