/-
  Walks by hand beside the abstract machine; loops; the lemmas that compute
-/
import Derived.Test.YtcceojmajfinpaaGreatDoorVmC
import Derived.Laws.Cover3
import Derived.Lib.Atoi
import Derived.Carry
import Derived.Deep.LoopGhost
import Derived.WideLaws
import Derived.Lib.AppendZerosOnto
import Derived.Laws.IdiomCopy
import Derived.Test.YtcceojmajfinpaaGreatDoorVmA
import Derived.Attr
section
set_option linter.unusedVariables false
set_option linter.unusedSectionVars false
set_option linter.unusedSimpArgs false
/-
  slices.Clone: its test for nil is the one thing that the abstract machine cannot tell.
-/
set_option linter.unusedVariables false
set_option linter.unusedSimpArgs false
namespace Go.Vm
open Go.RowKit
variable {P : Program} {ρ ρ' ρ'' : Rho} {S S' S'' : Nat → Prop} {w w' w'' : World} {B N : Nat} {h : Hp}
theorem den_fn {p : Prog} {d f : Nat} {as : List A} {fn : AFn} (h1 : p.ext f = none) (h2 : p.fn f = some fn) : den p (d + 1) f as = endO (exec ⟨den p d, dcl p d⟩ fn.code ⟨slots as, fun _ => none, 0, 0⟩) (res fn.res) := by
  simp only [den, h1, h2]
theorem dcl_fn {p : Prog} {d f : Nat} {as : List A} {fn : AFn} {h : Hp} {n : Nat} (h1 : p.ins f = none) (h2 : p.dfn f = some fn) : dcl p (d + 1) f as h n = endO (exec ⟨den p d, dcl p d⟩ fn.code ⟨slots as, h, n, n⟩) (resD fn.res) := by
  simp only [dcl, h1, h2]
theorem den_ext {p : Prog} {d f : Nat} {as : List A} {F : List A → Option (List A)} (h1 : p.ext f = some F) : den p (d + 1) f as = F as := by
  simp only [den, h1]
def cloneF (e : Nat) : List A → Option (List A)
  | [.lit ty rows] => if ty = e ∧ rows.length ≤ big then some [.olit e rows] else none
  | _ => none
def cl0 (e : Nat) : ACode := .rg 1 false [.o (.mvn 2 0 e)]
def clT (e : Nat) : ACode := .sq (.rg 1 false [.o (.mvn 2 0 e)]) .rt
def clR (e n : Nat) : ACode := .sq (.rg 2 false [.o (.bsl 5 0 e n []), .o (.mv 6 (.t 0)), .o (.app 7 1 e (.t 5) (.t 6)), .o (.mv 2 (.t 7))]) .rt
def okClone1 (P : Program) (e : Nat) (ops : Array Oper) : Bool :=
  match ops.toList with
  | [o1, o2] => (match o1.op with | .move (.tmp 0) => true | _ => false) && o1.guard.isNone && decide (o1.dst = some 3) &&
      (match o2.op with | .binOp .eql t (.tmp 3) (.const (.slice none 0 0)) _ => elemIs P t e | _ => false) && o2.guard.isNone && decide (o2.dst = some 4)
  | _ => false
def okClone (P : Program) (f e : Nat) : Bool :=
  match P.funcs[f]? with
  | some F => (match F.body with
    | some (.seq r0 (.seq (.seq (.region _ ops false) (.cond (.tmp 4) thn .skip)) rest)) =>
      okCode P F.ntmps (cl0 e) r0 && okClone1 P e ops && okCode P F.ntmps (clT e) thn && okCode P F.ntmps (clR e (P.cellsOf e)) rest
    | _ => false) && okRes P F.results.toList [.t 2] && (F.name != "runtime.NumGoroutine") && decide (8 ≤ F.ntmps) && decide (0 < P.cellsOf e)
  | none => false
def E0 : Env := ⟨fun _ _ => none, fun _ _ _ _ => none⟩
theorem E0_ok : EnvOk P E0 := ⟨fun f S w as rs xs e => (by cases e), fun f as rs e => (by cases e), fun f ρ S w B as xs h n rs h' n' e => (by cases e), fun f as h n r e => (by cases e)⟩
theorem E0_shr : EnvShr E0 := fun f as h n rs h' n' e => by cases e
theorem SW.put {σ : St} {a : Act} {d : Nat} {u : A} {v : Value} (T : SW P ρ S B N σ a w) (r : R P ρ S w u v) (hd : d < N) : SW P ρ S B N { σ with s := upd σ.s d u } (a.put (some d) v) w := by
  obtain ⟨ρ1, S1, M, T1, _, _⟩ := Fin'.SW (d := some d) (v := v) (σ' := { σ with s := upd σ.s d u }) (iv := fun _ => False) (D := false) T ⟨u, rfl, ρ, S, Mv.refl _ _ _ _ _, T.heap, r, .inl ⟨rfl, .inl rfl⟩⟩ (by simp [ltDst, hd])
  exact ⟨fun t => by
    simp only [upd_apply, Act.put]
    by_cases ht : t = d
    · subst ht
      have hlt : t < a.tmps.size := Nat.lt_of_lt_of_le hd T.size
      simp [hlt]
      exact r
    · rw [if_neg ht]
      have : (a.tmps.setIfInBounds d v).getD t undef = a.tmps.getD t undef := by
        simp [Array.getD_eq_getD_getElem?, Array.getElem?_setIfInBounds_ne (fun q : d = t => ht q.symm)]
      rw [this]
      exact T.slot t, by simpa [Act.put] using T.size, T.defers, T.heap, T.le⟩
theorem clT_exec (e : Nat) (σ : St) : exec E0 (clT e) σ = some (.ret ⟨upd σ.s 2 (.ref e (σ.n + 0) 0 0 0 false), upd σ.h (σ.n + 0) (some ⟨e, [], true, false⟩), σ.n + 1, σ.base⟩) := rfl
theorem clR_exec {e n : Nat} {rows : List (List A)} (hbig : rows.length ≤ big) {σ : St} (h0 : σ.s 0 = .lit e rows) :
    ∃ σ', exec E0 (clR e n) σ = some (.ret σ') ∧ σ'.s 2 = .ref e (σ.n + 1) 0 rows.length rows.length false ∧ σ'.h (σ.n + 1) = some ⟨e, rows, true, false⟩ := by
  obtain ⟨s, h, m, bs⟩ := σ
  simp only at h0
  have key : exec E0 (clR e n) ⟨s, h, m, bs⟩ = some (.ret ⟨upd (upd (upd (upd s 5 (.ref e m 0 0 0 true)) 6 (.lit e rows)) 7 (.ref e (m + 1) 0 rows.length rows.length false)) 2 (.ref e (m + 1) 0 rows.length rows.length false), upd (upd (upd h m (some ⟨e, [], true, false⟩)) m none) (m + 1) (some ⟨e, rows, true, false⟩), m + 2, bs⟩) := by
    simp only [clR, exec, steps, stepG, step, clRows, bnd, ev, upd_apply, h0, rowsOf, AOp.yields, valOp, put, nmRows, frz, appA, if_true]
    simp [upd_apply, hbig, seqO, nrm, bnd, h0]
  exact ⟨_, key, by simp [upd_apply], by simp [upd_apply]⟩
theorem rs_clone {h : Hp} {e b : Nat} {rows : List (List A)} (hb : h b = some ⟨e, rows, true, false⟩) : rsVals h [] [.ref e b 0 rows.length rows.length false] = some [.olit e rows] := by
  simp [rsVals, rsVal, rsCell, hb, bnd]
theorem wpOps_one {ops : Array Oper} {Q : Exit → Act → World → Prop} {i : Nat} {rest : List Nat} {o : Oper} {a : Act} (hi : ops[i]? = some o) (hg : o.guard = none) (h : o.wp P a w (wpOps P ops Q rest) Q) : wpOps P ops Q (i :: rest) a w := by
  rw [wpOps_cons]
  unfold wpOp
  rw [hi]
  have hw : Region.wanted o (yielded ops a.tmps) = true := by unfold Region.wanted; rw [hg]
  simp only [hw, if_true]
  exact .inl h
theorem lit_nil {ty : Nat} {rows : List (List A)} {v : Value} (hpos : 0 < P.cellsOf ty) (r : R P ρ S w (.lit ty rows) v) : ∃ a cap, v = .slice a rows.length cap ∧ (a = none → rows = []) := by
  cases r with
  | lit ty rows a cap Y hcap hl hc hr =>
    refine ⟨a, cap, rfl, fun ha => ?_⟩
    cases rows with
    | nil => rfl
    | cons row rows =>
      have h1 := (hl 0 row rfl).1
      cases row with
      | nil => simp at h1; omega
      | cons c cs =>
        obtain ⟨k, off, e1, _⟩ := hc 0 _ 0 c rfl rfl
        rw [ha] at e1; cases e1
theorem okClone_sound {f e : Nat} (ok : okClone P f e = true) (hm : P.follows .mixedOrders = true) : CallsOk P (cloneF e) f ∧ Enter P f := by
  unfold okClone at ok
  split at ok
  · rename_i F hF
    simp only [Bool.and_eq_true, decide_eq_true_eq] at ok
    obtain ⟨⟨⟨⟨o1, o2⟩, o3⟩, o4⟩, hpos⟩ := ok
    split at o1
    · rename_i r0 rid ops thn rest hbody
      simp only [Bool.and_eq_true] at o1
      obtain ⟨⟨⟨k0, k1⟩, kT⟩, kR⟩ := o1
      refine ⟨fun S w as rs xs he hS hG r => ?_, F, hF, by simpa using o3, by rw [hbody]; rfl⟩
      unfold cloneF at he
      split at he
      · rename_i ty rows
        split at he
        · rename_i hc
          obtain ⟨rfl, hbig⟩ := hc
          simp only [Option.some.injEq] at he
          subst he
          -- the argument
          obtain ⟨x, xs', rfl, rx, rt⟩ := r.inv_cons
          have hx' := rt.inv_nil
          subst hx'
          have harg := lit_nil hpos rx
          obtain ⟨a, cap, rfl, hnil⟩ := harg
          refine calls_of_wp hF hbody ?_
          have H0 : HR P noRho S w w.heap.size (fun _ => none) := HR.empty hS hG
          have T0 : SW P noRho S w.heap.size F.ntmps ⟨slots [.lit ty rows], fun _ => none, 0, 0⟩ { tmps := [Value.slice a rows.length cap].toArray ++ Array.replicate (F.ntmps - [Value.slice a rows.length cap].toArray.size) undef, defers := [] } w :=
            ⟨fun t => slots_R (.cons rx .nil) _ t, by simp; omega, rfl, H0, Nat.le_refl _⟩
          have lo0 : Lo 0 (fun _ => none) := fun b hb => by omega
          -- the end of a way
          have fin : ∀ (c : ACode) (x : Code), okCode P F.ntmps c x = true → ∀ (ρ1 : Rho) (S1 : Nat → Prop) (σ1 : St) (a1 : Act) (w1 : World) (σ2 : St) (q : Nat), MvX 0 w.heap.size noRho S w ρ1 S1 w1 → SW P ρ1 S1 w.heap.size F.ntmps σ1 a1 w1 → (∀ b, σ1.n ≤ b → ρ1 b = none) → σ1.base = 0 →
              exec E0 c σ1 = some (.ret σ2) → rsVals σ2.h [] [σ2.s 2] = some [.olit ty rows] → x.wp P (fun ex a w0 => ex = .ret ∧ bodyPost P F (fun | .returned v, w' => Res P S w [.olit ty rows] v w' | _, _ => False) ex a w0) a1 w1 := by
            intro c x okc ρ1 S1 σ1 a1 w1 σ2 q M1 T1 f1 b1 he hrs
            have lo1 : Lo σ1.base σ1.h := by rw [b1]; exact fun b hb => by omega
            refine wp_mono (exec_sound E0_ok E0_shr hm c x okc ρ1 S1 σ1 a1 w1 _ he T1 f1 (by omega) lo1) (fun ex a2 w2 p => ?_)
            obtain ⟨ρ2, S2, M2, T2, f2⟩ := p.ex
            rw [b1] at M2
            have hsame := p.same
            cases ex <;> simp only [sameExit] at hsame
            obtain ⟨us, hrun, hus⟩ := results_run T2.heap rfl T2.slot (F := F) (rv := [.t 2]) (as := [σ2.s 2]) o2 rfl
            have M := M1.trans M2
            exact ⟨rfl, T2.defers, _, hrun, leave_sound rfl T2.heap hus hrs M.sub M.back M.below M.ext⟩
          refine wp_seq ?_
          have e0 : exec E0 (cl0 ty) ⟨slots [.lit ty rows], fun _ => none, 0, 0⟩ = some (.norm ⟨upd (slots [.lit ty rows]) 2 (.ref ty 0 0 0 0 false), upd (fun _ => none) 0 (some ⟨ty, [], true, false⟩), 1, 0⟩) := rfl
          refine wp_mono (exec_sound E0_ok E0_shr hm (cl0 ty) r0 k0 noRho S _ _ w _ e0 T0 (fun b _ => rfl) (Nat.le_refl _) lo0) (fun ex a1 w1 p => ?_)
          obtain ⟨ρ1, S1, M1, T1, f1⟩ := p.ex
          have hsame := p.same
          cases ex <;> simp only [sameExit] at hsame
          simp only [Exit.then]
          simp only [Out.st] at T1 f1
          refine wp_seq (wp_seq ?_)
          -- the test
          unfold okClone1 at k1
          split at k1
          · rename_i p1 p2 hops
            simp only [Bool.and_eq_true, decide_eq_true_eq, Option.isNone_iff_eq_none] at k1
            obtain ⟨⟨⟨⟨⟨q1, q2⟩, q3⟩, q4⟩, q5⟩, q6⟩ := k1
            have hops' : ops = #[p1, p2] := by have := congrArg List.toArray hops; simpa using this
            have r0' : R P ρ1 S1 w1 (.lit ty rows) (a1.tmps.getD 0 undef) := T1.slot 0
            have hval := lit_nil hpos r0'
            obtain ⟨a', cap', hv0, hnil'⟩ := hval
            have hN : F.ntmps ≤ a1.tmps.size := T1.size
            have step : (Code.region rid ops false).wp P (fun ex a2 w2 => ex = .normal ∧ w2 = w1 ∧ SW P ρ1 S1 w.heap.size F.ntmps ⟨upd (upd (upd (slots [.lit ty rows]) 2 (.ref ty 0 0 0 0 false)) 3 (.lit ty rows)) 4 (.v (.bool a'.isNone)), upd (fun _ => none) 0 (some ⟨ty, [], true, false⟩), 1, 0⟩ a2 w1) a1 w1 := by
              refine wp_region ?_
              rw [hops']
              show wpOps P #[p1, p2] _ [0, 1] a1 w1
              refine wpOps_one (o := p1) rfl q2 ?_
              split at q1
              · rename_i ho1
                have hrun : (execOp a1.eval p1).run P w1 = .ok (.value (.slice a' rows.length cap')) w1 := by
                  have : a1.eval (.tmp 0) = .slice a' rows.length cap' := hv0
                  simp [execOp, ho1, this]
                refine wp_of_run hrun ?_
                rw [q3]
                have T2 := T1.put (d := 3) (u := .lit ty rows) (v := .slice a' rows.length cap') (by have := T1.slot 0; rw [hv0] at this; exact this) (by omega)
                refine wpOps_one (o := p2) rfl q5 ?_
                split at q4
                · rename_i t yt ho2
                  have hu := underlying_of q4
                  have hx3 : (a1.put (some 3) (.slice a' rows.length cap')).eval (.tmp 3) = .slice a' rows.length cap' := by
                    have h3 : 3 < a1.tmps.size := by omega
                    simp [Act.eval, Act.put, h3]
                  have hk : (a1.put (some 3) (.slice a' rows.length cap')).eval (.const (.slice none 0 0)) = .slice none 0 0 := rfl
                  have hrun2 : (execOp (a1.put (some 3) (.slice a' rows.length cap')).eval p2).run P w1 = .ok (.value (.bool a'.isNone)) w1 := by
                    have hq := run_equal_slice_nil (P := P) w1 t ty a' rows.length cap' hu
                    simp only [execOp, ho2, hx3, hk, Sem.run_bind]
                    have hg : (eqGuard .eql t (.tmp 3) (.const (.slice none 0 0)) (.slice a' rows.length cap') (.slice none 0 0)).run P w1 = .ok () w1 := by
                      simp [eqGuard]
                    rw [hg]
                    simp only [Result.andThen_ok, binOp, Sem.run_bind, hq]
                    rfl
                  refine wp_of_run hrun2 ?_
                  rw [q6]
                  exact ⟨rfl, rfl, T2.put (d := 4) (u := .v (.bool a'.isNone)) (.v _ rfl) (by omega)⟩
                · cases q4
              · cases q1
            refine wp_mono step (fun ex a2 w2 hp => ?_)
            obtain ⟨rfl, rfl, T2⟩ := hp
            simp only [Exit.then]
            have hc4 : a2.eval (.tmp 4) = .bool a'.isNone := (R.v_inv (T2.slot 4)).1
            refine wp_cond hc4 ?_
            have f2 : ∀ b, 1 ≤ b → ρ1 b = none := f1
            cases ha' : a'.isNone with
            | true =>
              have hrows : rows = [] := hnil' (by simpa using ha')
              subst hrows
              rw [ha'] at T2
              simp only [if_true]
              refine wp_mono (fin (clT ty) thn kT ρ1 S1 _ a2 w2 _ 0 M1 T2 f2 rfl (clT_exec ty _) (rs_clone (rows := []) (by simp [upd_apply]))) (fun ex a3 w3 hq => ?_)
              obtain ⟨rfl, hq⟩ := hq
              exact hq
            | false =>
              rw [ha'] at T2
              simp only [Bool.false_eq_true, if_false]
              refine wp_skip ?_
              simp only [Exit.then]
              obtain ⟨σ', g1, g2, g3⟩ := clR_exec (e := ty) (n := P.cellsOf ty) hbig (σ := ⟨upd (upd (upd (slots [.lit ty rows]) 2 (.ref ty 0 0 0 0 false)) 3 (.lit ty rows)) 4 (.v (.bool false)), upd (fun _ => none) 0 (some ⟨ty, [], true, false⟩), 1, 0⟩) (by simp [upd_apply, slots])
              exact wp_mono (fin (clR ty (P.cellsOf ty)) rest kR ρ1 S1 _ a2 w2 σ' 0 M1 T2 f2 rfl g1 (by rw [g2]; exact rs_clone g3)) (fun ex a3 w3 hq => hq.2)
          · cases k1
        · cases he
      · cases he
    · cases o1
  · cases ok
end Go.Vm

/-
  Calls whose results are plain and that turn nothing of what was there.
-/
set_option linter.unusedVariables false
set_option linter.unusedSimpArgs false
namespace Go.Vm
open Go.RowKit
variable {P : Program} {S : Nat → Prop} {w w' : World}
theorem ext_below (hS : ∀ k, S k → k < w.heap.size) (hb : Below w.heap.size w w') : Ext S w w' :=
  ⟨fun k hk => hb.block k (hS k hk), fun k c t e => ⟨c, by rw [hb.block k (lt_of_some e)]; exact e, rfl⟩, fun k es cl e => by rw [hb.block k (lt_of_some e)]; exact e⟩
theorem res_plain {a : A} {v : Value} (hS : ∀ k, S k → k < w.heap.size) (hG : GlobOk P S w) (hb : Below w.heap.size w w') (hl : ∀ n, laVal noHp n a = (a, noHp)) (r : R P noRho S w' a v) : Res P S w [a] v w' := by
  have hE := ext_below hS hb
  refine ⟨S, fun _ h => h, fun _ h => .inl h, hb, hE, fun n => ⟨noRho, fun _ _ => rfl, ?_, ?_⟩⟩
  · have : (laVals noHp n [a]).2 = noHp := by simp [laVals, hl]
    rw [this]
    exact ⟨fun b blk e => (by cases e), fun b b' k sz sz' blk blk' e => (by cases e), fun k hk => Nat.lt_of_lt_of_le (hS k hk) hb.size, hG.mono (fun _ h => h) hE⟩
  · have : (laVals noHp n [a]).1 = [a] := by simp [laVals, hl]
    rw [this]
    exact r
def itoaB (n : Int) : ByteArray := ⟨(Lib.itoa n).toArray⟩
def itoaF : List A → Option (List A)
  | [.v (.int .i64 n)] => if -9223372036854775808 ≤ n ∧ n ≤ 9223372036854775807 then some [.s (itoaB n)] else none
  | _ => none
def atoiF : List A → Option (List A)
  | [.v (.string t)] => if t.size ≤ 18 then (match Lib.atoi t.data.toList with | some n => some [.v (.int .i64 n), .v .nilIface] | none => some [.v (.int .i64 0), .err]) else none
  | _ => none
def numT (t : ByteArray) : Int × Int := match Lib.atoi t.data.toList with
  | some n => if -999 ≤ n ∧ n ≤ 999 ∧ Lib.itoa n = t.data.toList then (1, n) else (0, 0)
  | none => (0, 0)
def numF : List A → Option (List A)
  | [.v (.string t)] => if t.size ≤ 18 then some [.agg [.n (numT t).1, .n (numT t).2, .s ⟨#[]⟩]] else none
  | _ => none
end Go.Vm

/-
  A map of the call's own beside the abstract machine's rows: what a world says of values, where one map has turned.
-/
set_option linter.unusedVariables false
set_option linter.unusedSimpArgs false
namespace Go.Vm
open Go.RowKit
variable {P : Program} {ρ ρ' ρ'' : Rho} {S S' S'' : Nat → Prop} {w w' w'' : World} {B N : Nat} {h : Hp}
structure Ext0 (S S' : Nat → Prop) (w w' : World) : Prop where
  same : ∀ k, S k → S' k ∧ w'.heap[k]? = w.heap[k]? ∨ ∃ es cl, w.heap[k]? = some (Obj.map es cl)
  size : ∀ (k : Nat) (c : Array Value) (t : TypeId), w.heap[k]? = some (Obj.cells c t (0, 0)) → ∃ c' : Array Value, w'.heap[k]? = some (Obj.cells c' t (0, 0)) ∧ c'.size = c.size
theorem cell_map {k o : Nat} {es : Array MapEntry} {cl : Nat} (h : w.heap[k]? = some (Obj.map es cl)) : w.cell? ⟨k, o, none⟩ = none := by
  simp [World.cell?, h]
theorem R.mono0 {a : A} {x : Value} (r : R P ρ S w a x) : ∀ {S' : Nat → Prop} {w' : World}, Ext0 S S' w w' → R P ρ S' w' a x := by
  induction r with
  | bad x => exact fun _ => .bad x
  | err tp x => exact fun _ => .err tp x
  | und => exact fun _ => .und
  | v x h => exact fun _ => .v x h
  | lit ty rows a cap Y hcap hl hc hr ih =>
    intro S' w' E
    refine .lit ty rows a cap Y hcap hl (fun i row j x h1 h2 => ?_) (fun i row j x h1 h2 => ih i row j x h1 h2 E)
    obtain ⟨k, off, e, hk, hcell⟩ := hc i row j x h1 h2
    rcases E.same k hk with ⟨h', hs⟩ | ⟨es, cl, hm⟩
    · exact ⟨k, off, e, h', by rw [← hcell]; exact World.cell?_of_block hs⟩
    · rw [cell_map hm] at hcell; cases hcell
  | ref ty b off len cap ex k sz c a hb hty hcap hex ha hlen hk =>
    intro S' w' E
    obtain ⟨cs, t, e, hs⟩ := hk
    obtain ⟨c', e', s'⟩ := E.size k cs t e
    exact .ref ty b off len cap ex k sz c a hb hty hcap hex ha hlen ⟨c', t, e', by omega⟩
  | nil ty b ex hb => exact fun _ => .nil ty b ex hb
  | ptr b i j k sz hb => exact fun _ => .ptr b i j k sz hb
  | pl row j k o Y hk hc hr ih =>
    intro S' w' E
    by_cases hn : row = []
    · subst hn
      exact .pl [] j k o Y (fun h => absurd rfl h) (fun i x h => by simp at h) (fun i x h => by simp at h)
    · obtain ⟨x0, hx0⟩ : ∃ x, row[0]? = some x := by
        cases row with
        | nil => exact absurd rfl hn
        | cons y ys => exact ⟨y, rfl⟩
      rcases E.same k (hk hn) with ⟨h', hs⟩ | ⟨es, cl, hm⟩
      · exact .pl row j k o Y (fun _ => h') (fun i x h => by rw [← hc i x h]; exact World.cell?_of_block hs) (fun i x h => ih i x h E)
      · have := hc 0 x0 hx0
        rw [cell_map hm] at this; cases this
  | fn f caps vs hp hl hr ih => exact fun E => .fn f caps vs hp hl (fun i x y h1 h2 => ih i x y h1 h2 E)
  | agg cs vs hl hr ih => exact fun E => .agg cs vs hl (fun i x y h1 h2 => ih i x y h1 h2 E)
  | tup cs vs hl hr ih => exact fun E => .tup cs vs hl (fun i x y h1 h2 => ih i x y h1 h2 E)
  | ifT a x h ih => exact fun E => .ifT a x (ih E)
  | ifF a => exact fun _ => .ifF a
theorem HR.mono0 (H : HR P ρ S w B h) (E : Ext0 S S' w w') (hsub : ∀ k, S' k → S k) (hs : w.heap.size ≤ w'.heap.size) (hG : GlobOk P S' w')
    (hsame : ∀ b blk k sz, h b = some blk → ρ b = some (some (k, sz)) → w'.heap[k]? = w.heap[k]?) : HR P ρ S' w' B h := by
  refine ⟨fun b blk e => ?_, H.inj, fun k hk => Nat.lt_of_lt_of_le (H.old k (hsub k hk)) hs, hG⟩
  rcases H.at_ b blk e with ⟨k, sz, hb, hB⟩ | hv
  · refine .inl ⟨k, sz, hb, ⟨hB.sz_eq, hB.base, fun ho hk => hB.own ho (hsub k hk), fun ho => ?_, hB.rows, ?_⟩⟩
    · rcases E.same k (hB.not_own ho) with ⟨h', _⟩ | ⟨es, cl, hm⟩
      · exact h'
      · obtain ⟨c, hc, _⟩ := hB.heap
        rw [hm] at hc; cases hc
    · obtain ⟨c, hc, hsz, hcell⟩ := hB.heap
      exact ⟨c, (hsame b blk k sz e hb).trans hc, hsz, fun i row j x h1 h2 => by
        obtain ⟨y, hy, hr⟩ := hcell i row j x h1 h2
        exact ⟨y, hy, hr.mono0 E⟩⟩
  · exact .inr hv
structure MapTo (w w' : World) (km : Nat) (es' : Array MapEntry) (cl' : Nat) : Prop where
  size : w'.heap.size = w.heap.size
  other : ∀ i, i ≠ km → w'.heap[i]? = w.heap[i]?
  was : ∃ es cl, w.heap[km]? = some (Obj.map es cl)
  here : w'.heap[km]? = some (Obj.map es' cl')
  os : w'.os = w.os
  tape : w'.tape = w.tape
  output : w'.output = w.output
theorem MapTo.glob {km : Nat} {es' : Array MapEntry} {cl' : Nat} (M : MapTo w w' km es' cl') (G : GlobOk P S w) : GlobOk P (fun k => S k ∧ k ≠ km) w' := by
  have hv : ∀ nm ∈ gNames, ∀ (xs : Array Value), w.var? P nm = some xs → w'.var? P nm = some xs ∧ ∀ g, P.globalNamed nm = some g → g ≠ km := fun nm hm xs h => by
    unfold World.var? at h ⊢
    cases hg : P.globalNamed nm with
    | none => rw [hg] at h; cases h
    | some g =>
      rw [hg] at h
      simp only [Option.bind_some] at h ⊢
      have hne : g ≠ km := fun q => by
        subst q
        obtain ⟨es, cl, hw⟩ := M.was
        rw [hw] at h; cases h
      rw [M.other g hne]
      exact ⟨h, fun g' hg' => by cases hg'; exact hne⟩
  have hsome : ∀ nm g, P.globalNamed nm = some g → (P.globalNamed nm).isSome = true := fun nm g h => by rw [h]; rfl
  refine ⟨fun nm hm g hg => ⟨G.fast nm hm g hg, ?_⟩, fun q => ?_, fun q => ?_, fun q => ?_⟩
  · simp only [gNames, List.mem_cons, List.mem_nil_iff, or_false] at hm
    rcases hm with rfl | rfl | rfl
    · exact (hv _ (by simp [gNames]) _ (G.pow (hsome _ g hg))).2 g hg
    · obtain ⟨tp, p, h⟩ := G.syn (hsome _ g hg)
      exact (hv _ (by simp [gNames]) _ h).2 g hg
    · obtain ⟨tp, p, h⟩ := G.rng (hsome _ g hg)
      exact (hv _ (by simp [gNames]) _ h).2 g hg
  · exact (hv _ (by simp [gNames]) _ (G.pow q)).1
  · obtain ⟨tp, p, h⟩ := G.syn q
    exact ⟨tp, p, (hv _ (by simp [gNames]) _ h).1⟩
  · obtain ⟨tp, p, h⟩ := G.rng q
    exact ⟨tp, p, (hv _ (by simp [gNames]) _ h).1⟩
theorem MapTo.ext0 {km : Nat} {es' : Array MapEntry} {cl' : Nat} (M : MapTo w w' km es' cl') : Ext0 S (fun k => S k ∧ k ≠ km) w w' :=
  ⟨fun k hk => by
    by_cases hkm : k = km
    · subst hkm; exact .inr M.was
    · exact .inl ⟨⟨hk, hkm⟩, M.other k hkm⟩, fun k c t e => by
    by_cases hkm : k = km
    · subst hkm; obtain ⟨es, cl, hm⟩ := M.was; rw [hm] at e; cases e
    · exact ⟨c, by rw [M.other k hkm]; exact e, rfl⟩⟩
theorem SW.map {σ : St} {a : Act} {km : Nat} {es' : Array MapEntry} {cl' : Nat} (T : SW P ρ S B N σ a w) (M : MapTo w w' km es' cl') : SW P ρ (fun k => S k ∧ k ≠ km) B N σ a w' :=
  ⟨fun t => (T.slot t).mono0 M.ext0, T.size, T.defers, T.heap.mono0 M.ext0 (fun _ h => h.1) (by rw [M.size]; exact Nat.le_refl _) (M.glob T.heap.glob) (fun b blk k sz e hb => by
    refine M.other k (fun hk => ?_)
    subst hk
    obtain ⟨c, hc, _⟩ := (T.heap.at_of e hb).heap
    obtain ⟨es, cl, hm⟩ := M.was
    rw [hm] at hc; cases hc), by rw [M.size]; exact T.le⟩
theorem SW.thin {σ : St} {a : Act} {km : Nat} {es : Array MapEntry} {cl : Nat} (T : SW P ρ S B N σ a w) (hm : w.heap[km]? = some (Obj.map es cl)) : SW P ρ (fun k => S k ∧ k ≠ km) B N σ a w :=
  T.map ⟨rfl, fun _ _ => rfl, ⟨es, cl, hm⟩, hm, rfl, rfl, rfl⟩
end Go.Vm

/-
  Regions in order, an operation at a time: where some of them stand outside of the abstract machine.
-/
set_option linter.unusedVariables false
set_option linter.unusedSimpArgs false
namespace Go.Vm
open Go.RowKit
variable {P : Program} {ρ ρ' ρ'' : Rho} {S S' S'' : Nat → Prop} {w w' w'' : World} {B N : Nat} {h : Hp} {E : Env} {tot : Nat}
structure MvY (B : Nat) (ρ : Rho) (w : World) (ρ' : Rho) (w' : World) : Prop where
  new : ∀ b, ρ b = none → ρ' b = none
  below : Below B w w'
theorem MvY.refl : MvY B ρ w ρ w := ⟨fun _ h => h, Below.refl _ _⟩
theorem MvY.trans (a : MvY B ρ w ρ' w') (b : MvY B ρ' w' ρ'' w'') : MvY B ρ w ρ'' w'' := ⟨fun x h => b.new x (a.new x h), a.below.trans b.below⟩
structure MapAt (km : Nat) (es : Array MapEntry) (cl : Nat) (S : Nat → Prop) (w : World) : Prop where
  free : ¬ S km
  here : w.heap[km]? = some (Obj.map es cl)
end Go.Vm

/-
  A set of values kept in a map: made, asked, written.
-/
set_option linter.unusedVariables false
set_option linter.unusedSimpArgs false
namespace Go.Vm
open Go.RowKit
variable {P : Program} {ρ : Rho} {S : Nat → Prop} {w : World} {B N tot : Nat} {E : Env}
abbrev keyV (vs : List Value) : Value := .agg vs.toArray
structure SetT (P : Program) (tm tk tb : Nat) (ks : List Nat) : Prop where
  und : P.underlying tm = some (.map tk tb)
  eqt : eqT P 8 tk = some ks
  agg : aggT P tk = true
  kst : ∃ fs, P.underlying tk = some (.struct fs)
  chk : ∀ (b : Bool) (w : World) (vs : List Value), vs.length = ks.length → (Instr.checkKey b 10000 tk (keyV vs)).run P w = .ok () w
  zero : ∀ w, (zeroValue tb).run P w = .ok (.bool false) w
def keyEq (ks : List Nat) (a b : List Value) : Option Bool := eqCells ks (a.map A.v) (b.map A.v)
theorem stand_key (vs : List Value) : StandAt (vs.map A.v) vs.toArray 0 := by
  intro i a ha
  rw [List.getElem?_map] at ha
  cases hv : vs[i]? with
  | none => rw [hv] at ha; cases ha
  | some v =>
    rw [hv] at ha
    simp only [Option.map_some, Option.some.injEq] at ha
    refine ⟨v, by simpa using hv, fun u hu => ?_⟩
    rw [← ha] at hu
    cases hu; rfl
theorem equal_run {tk : Nat} {ks : List Nat} (ht : eqT P 8 tk = some ks) (hg : aggT P tk = true) {a b : List Value} {q : Bool} (e : keyEq ks a b = some q) : (Op.equal tk (keyV a) (keyV b)).run P w = .ok q w := by
  have hlen := eqCells_len e
  obtain ⟨va, vb, _, _, hE, hagg⟩ := eq_part (P := P) (w := w) 8 9992 ht e (stand_key a) (stand_key b)
  obtain ⟨ea, eb⟩ := hagg hg
  have full : ∀ (vs : List Value), vs.length = ks.length → vs.toArray.extract 0 (0 + ks.length) = vs.toArray := by
    intro vs h
    rw [Nat.zero_add, ← h]
    simp
  rw [full a (by simpa using hlen.1)] at ea
  rw [full b (by simpa using hlen.2)] at eb
  subst ea eb
  exact hE
structure Holds (ks : List Nat) (es : List MapEntry) (keys : List (List Value)) : Prop where
  len : es.length = keys.length
  at_ : ∀ (i : Nat) (e : MapEntry) (k : List Value), es[i]? = some e → keys[i]? = some k → e.key = keyV k ∧ e.val = .bool true
def keyAt (ks : List Nat) (k : List Value) : List (List Value) → Nat → Option (Option Nat)
  | [], _ => some none
  | x :: xs, i => match keyEq ks k x with
    | some true => some (some i)
    | some false => keyAt ks k xs (i + 1)
    | none => none
theorem findAsking_run {tk : Nat} {ks : List Nat} (ht : eqT P 8 tk = some ks) (hg : aggT P tk = true) (k : List Value) : ∀ (es : List MapEntry) (keys : List (List Value)) (i : Nat) (r : Option Nat), Holds ks es keys → keyAt ks k keys i = some r →
    (Instr.findAsking tk (keyV k) es i).run P w = .ok (r.map fun j => (j, Value.bool true)) w
  | [], keys, i, r, h, e => by
    have : keys = [] := List.eq_nil_of_length_eq_zero (by have := h.len; simpa using this.symm)
    subst this
    simp only [keyAt, Option.some.injEq] at e
    subst e
    rfl
  | e0 :: es, [], i, r, h, e => by have := h.len; simp at this
  | e0 :: es, x :: xs, i, r, h, e => by
    have h0 := h.at_ 0 e0 x rfl rfl
    have ht' : Holds ks es xs := ⟨by have := h.len; simpa using this, fun j e k h1 h2 => h.at_ (j + 1) e k (by simpa using h1) (by simpa using h2)⟩
    unfold keyAt at e
    cases hq : keyEq ks k x with
    | none => rw [hq] at e; cases e
    | some q =>
      rw [hq] at e
      have hr := equal_run (P := P) (w := w) ht hg hq
      rw [← h0.1] at hr
      unfold Instr.findAsking
      simp only [Sem.run_bind, hr, Result.andThen_ok]
      cases q with
      | true =>
        simp only [Option.some.injEq] at e
        subst e
        simp [h0.2]
      | false =>
        simp only at e
        have := findAsking_run ht hg k es xs (i + 1) r ht' e
        simpa using this
theorem findKey_run {tm tk tb : Nat} {ks : List Nat} (T : SetT P tm tk tb ks) (k : List Value) {es : List MapEntry} {keys : List (List Value)} {r : Option Nat} (h : Holds ks es keys) (e : keyAt ks k keys 0 = some r) :
    (Instr.findKey tk (keyV k) es).run P w = .ok (r.map fun j => (j, Value.bool true)) w := by
  obtain ⟨fs, hfs⟩ := T.kst
  unfold Instr.findKey
  simp only [Sem.run_bind, run_underlying hfs, Result.andThen_ok]
  cases es with
  | nil =>
    have hk : keys = [] := List.eq_nil_of_length_eq_zero (by have := h.len; simpa using this.symm)
    subst hk
    simp only [keyAt, Option.some.injEq] at e
    subst e
    rfl
  | cons e0 es =>
    have hn : Instr.findNow (.struct fs) (keyV k) (e0 :: es) 0 = none := by
      unfold Instr.findNow
      have : Instr.sameNow (.struct fs) (keyV k) e0.key = none := by unfold Instr.sameNow; rfl
      rw [this]
    simp only [hn]
    exact findAsking_run T.eqt T.agg k _ _ 0 r h e
theorem lookup_run {tm tk tb : Nat} {ks : List Nat} (T : SetT P tm tk tb ks) {km cl : Nat} {es : Array MapEntry} (hw : w.heap[km]? = some (Obj.map es cl)) (k : List Value) (hk : k.length = ks.length) {keys : List (List Value)} {r : Option Nat} (h : Holds ks es.toList keys) (e : keyAt ks k keys 0 = some r) :
    (Instr.lookup tm (.map (some km)) (keyV k) false).run P w = .ok (.bool r.isSome) w := by
  have hg : (getObj km).run P w = .ok (Obj.map es cl) w := by simp [getObj, Sem.run, hw]
  unfold Instr.lookup
  simp only [Sem.run_bind, run_underlying T.und, Result.andThen_ok, hg, Sem.run_pure, T.chk _ _ k hk, findKey_run T k h e]
  cases r with
  | none => simp [T.zero]
  | some j => simp
def setAdd (ks : List Nat) (keys : List (List Value)) (k : List Value) : List (List Value) := match keyAt ks k keys 0 with
  | some none => keys ++ [k]
  | _ => keys
theorem bytes_self (m : ByteArray) : (m == m) = true := by
  first
  | exact beq_self_eq_true m
  | exact decide_eq_true rfl
  | (show (m.data == m.data) = true; simp)
theorem eqCell_true {k : Nat} {x y : Value} (e : eqCell k (.v x) (.v y) = some true) : x = y ∧ ∀ n, Instr.sameBits n y y = true := by
  match k with
  | 0 =>
    obtain ⟨j, m, n, h1, h2, h3⟩ := eqCell0 e
    cases h1; cases h2
    have : m = n := by simpa using h3.symm
    subst this
    exact ⟨rfl, fun q => by cases q <;> simp [Instr.sameBits]⟩
  | 1 =>
    obtain ⟨m, n, h1, h2, h3⟩ := eqCell1 e
    cases h1; cases h2
    have : m = n := by simpa using h3.symm
    subst this
    exact ⟨rfl, fun q => by cases q <;> exact bytes_self m⟩
  | 2 =>
    obtain ⟨m, n, h1, h2, h3⟩ := eqCell2 e
    cases h1; cases h2
    have : m = n := by simpa using h3.symm
    subst this
    exact ⟨rfl, fun q => by cases q <;> simp [Instr.sameBits]⟩
  | k + 3 => simp [eqCell] at e
theorem keyEq_true : ∀ {ks : List Nat} {a b : List Value}, keyEq ks a b = some true → a = b ∧ ∀ n, ∀ x ∈ b, Instr.sameBits n x x = true
  | [], a, b, e => by
    cases a <;> cases b <;> simp [keyEq, eqCells] at e
    exact ⟨rfl, fun n x hx => by simp at hx⟩
  | k :: ks, a, b, e => by
    cases a with
    | nil => cases b <;> simp [keyEq, eqCells] at e
    | cons x xs =>
      cases b with
      | nil => simp [keyEq, eqCells] at e
      | cons y ys =>
        unfold keyEq at e
        simp only [List.map_cons, eqCells] at e
        obtain ⟨p, h1, e1⟩ := bnd_eq e
        obtain ⟨q, h2, e2⟩ := bnd_eq e1
        simp only [Option.some.injEq, Bool.and_eq_true] at e2
        obtain ⟨rfl, rfl⟩ := e2
        obtain ⟨rfl, hs⟩ := eqCell_true h1
        obtain ⟨rfl, ht⟩ := keyEq_true (ks := ks) (a := xs) (b := ys) h2
        refine ⟨rfl, fun n z hz => ?_⟩
        rcases List.mem_cons.1 hz with rfl | hz
        · exact hs n
        · exact ht n z hz
theorem same_key (k : List Value) (h : ∀ n, ∀ x ∈ k, Instr.sameBits n x x = true) : Instr.sameBits 10000 (keyV k) (keyV k) = true := by
  have hz : ∀ (l : List Value), (∀ x ∈ l, Instr.sameBits 9999 x x = true) → ((l.zip l).all fun (x, y) => Instr.sameBits 9999 x y) = true := by
    intro l hl
    induction l with
    | nil => rfl
    | cons x l ih =>
      simp only [List.zip_cons_cons, List.all_cons, Bool.and_eq_true]
      exact ⟨hl x (by simp), ih (fun y hy => hl y (by simp [hy]))⟩
  show (k.toArray.size == k.toArray.size && (k.toArray.toList.zip k.toArray.toList).all fun (x, y) => Instr.sameBits 9999 x y) = true
  simp only [beq_self_eq_true, Bool.true_and]
  exact hz k (h 9999)
theorem keyAt_some {ks : List Nat} {k : List Value} : ∀ {keys : List (List Value)} {i j : Nat}, keyAt ks k keys i = some (some j) → ∃ x, i ≤ j ∧ keys[j - i]? = some x ∧ keyEq ks k x = some true
  | [], i, j, e => by simp [keyAt] at e
  | x :: xs, i, j, e => by
    unfold keyAt at e
    cases hq : keyEq ks k x with
    | none => rw [hq] at e; cases e
    | some q =>
      rw [hq] at e
      cases q with
      | true =>
        simp only [Option.some.injEq] at e
        subst e
        exact ⟨x, Nat.le_refl _, by simp, hq⟩
      | false =>
        simp only at e
        obtain ⟨y, h1, h2, h3⟩ := keyAt_some e
        exact ⟨y, by omega, by rw [show j - i = (j - (i + 1)) + 1 by omega]; simpa using h2, h3⟩
def setB (w : World) (km : Nat) (o : Obj) : World := { w with heap := w.heap.setIfInBounds km o }
theorem mapTo_set {km cl cl' : Nat} {es es' : Array MapEntry} (hw : w.heap[km]? = some (Obj.map es cl)) : MapTo w (setB w km (Obj.map es' cl')) km es' cl' :=
  ⟨by simp [setB], fun i hi => by simp [setB, Array.getElem?_setIfInBounds_ne (fun q : km = i => hi q.symm)], ⟨es, cl, hw⟩, by
    have hlt := lt_of_some hw
    simp [setB, hlt], rfl, rfl, rfl⟩
theorem update_run {tm tk tb : Nat} {ks : List Nat} (T : SetT P tm tk tb ks) {km cl : Nat} {es : Array MapEntry} (hw : w.heap[km]? = some (Obj.map es cl)) (k : List Value) (hk : k.length = ks.length) {keys : List (List Value)} {r : Option Nat} (h : Holds ks es.toList keys) (e : keyAt ks k keys 0 = some r) :
    ∃ w' es' cl', (Instr.mapUpdate tm (.map (some km)) (keyV k) (.bool true)).run P w = .ok () w' ∧ MapTo w w' km es' cl' ∧ Holds ks es'.toList (setAdd ks keys k) := by
  have hg : (getObj km).run P w = .ok (Obj.map es cl) w := by simp [getObj, Sem.run, hw]
  have hs : ∀ o, (setObj km o).run P w = .ok () (setB w km o) := fun o => by
    simp only [setObj, Sem.run, hw]
    rfl
  cases r with
  | none =>
    refine ⟨_, es.push { key := keyV k, val := .bool true, born := cl }, cl + 1, ?_, mapTo_set hw, ?_⟩
    · unfold Instr.mapUpdate
      simp only [Sem.run_bind, run_underlying T.und, Result.andThen_ok, hg, T.chk _ _ k hk, findKey_run T k h e, Option.map_none]
      exact hs _
    · unfold setAdd
      rw [e]
      refine ⟨by simp [h.len], fun i e' k' h1 h2 => ?_⟩
      simp only [Array.toList_push] at h1
      by_cases hi : i < keys.length
      · rw [List.getElem?_append_left (by rw [h.len]; exact hi)] at h1
        rw [List.getElem?_append_left hi] at h2
        exact h.at_ i e' k' h1 h2
      · rw [List.getElem?_append_right (by rw [h.len]; omega), h.len] at h1
        rw [List.getElem?_append_right (by omega)] at h2
        have hz : i - keys.length = 0 := by
          rcases Nat.eq_zero_or_pos (i - keys.length) with q | q
          · exact q
          · rw [List.getElem?_eq_none (by simp; omega)] at h1; cases h1
        rw [hz] at h1 h2
        simp only [List.getElem?_cons_zero, Option.some.injEq] at h1 h2
        subst h1; subst h2
        exact ⟨rfl, rfl⟩
  | some j =>
    obtain ⟨x, _, hx, hq⟩ := keyAt_some e
    rw [Nat.sub_zero] at hx
    obtain ⟨rfl, hbits⟩ := keyEq_true hq
    have hjl : j < es.size := by
      have := (List.getElem?_eq_some_iff.1 hx).1
      have := h.len
      simp at this
      omega
    have hej : es.toList[j]? = some es[j] := by simp [Array.getElem?_eq_getElem hjl]
    have hold := h.at_ j es[j] k hej hx
    have hkt : (Instr.keyThatStays (((es[j]?).map (·.key)).getD (keyV k)) (keyV k)).run P w = .ok (keyV k) w := by
      rw [Array.getElem?_eq_getElem hjl]
      simp only [Option.map_some, Option.getD_some, hold.1]
      unfold Instr.keyThatStays
      rw [same_key k hbits]
      rfl
    refine ⟨_, es.modify j fun e => { e with key := keyV k, val := .bool true }, cl, ?_, mapTo_set hw, ?_⟩
    · unfold Instr.mapUpdate
      simp only [Sem.run_bind, run_underlying T.und, Result.andThen_ok, hg, T.chk _ _ k hk, findKey_run T k h e, Option.map_some, hkt]
      exact hs _
    · unfold setAdd
      rw [e]
      simp only
      refine ⟨by simpa using h.len, fun i e' k' h1 h2 => ?_⟩
      rw [Array.getElem?_toList, Array.getElem?_modify] at h1
      by_cases hij : j = i
      · subst hij
        simp only [if_true] at h1
        rw [Array.getElem?_eq_getElem hjl] at h1
        simp only [Option.map_some, Option.some.injEq] at h1
        subst h1
        rw [hx] at h2
        simp only [Option.some.injEq] at h2
        subst h2
        exact ⟨rfl, rfl⟩
      · rw [if_neg hij] at h1
        exact h.at_ i e' k' (by simpa using h1) h2
end Go.Vm

/-
  The operations on a set within a region.
-/
set_option linter.unusedVariables false
set_option linter.unusedSimpArgs false
namespace Go.Vm
open Go.RowKit
variable {P : Program} {ρ : Rho} {S : Nat → Prop} {w : World} {B N tot : Nat} {E : Env}
theorem key_of {k : List Value} {x : Value} (r : R P ρ S w (.agg (k.map A.v)) x) : x = keyV k := by
  cases r with
  | agg cs vs hl hr =>
    congr 2
    refine List.ext_getElem? (fun i => ?_)
    by_cases hi : i < k.length
    · have h1 : (k.map A.v)[i]? = some (.v k[i]) := by simp [List.getElem?_map, List.getElem?_eq_getElem hi]
      have hlt : i < vs.length := by rw [hl]; simpa using hi
      have := hr i _ _ h1 (List.getElem?_eq_getElem hlt)
      rw [List.getElem?_eq_getElem hlt, List.getElem?_eq_getElem hi, (R.v_inv this).1]
    · rw [List.getElem?_eq_none (by rw [hl]; simpa using hi), List.getElem?_eq_none (by omega)]
theorem map_of {km : Nat} {x : Value} (r : R P ρ S w (.v (.map (some km))) x) : x = .map (some km) := (R.v_inv r).1
theorem lookup_one {tm tk tb : Nat} {ks : List Nat} (T0 : SetT P tm tk tb ks) {ops : Array Oper} {i : Nat} {o : Oper} {d m kx j slot : Nat} (hi : ops[i]? = some o) (ho : o.op = .lookup tm (.tmp m) (.tmp kx) false) (hd : o.dst = some d) (hdN : d < N) (hg : o.guard = some (j, true)) (hs : (ops[j]?).bind (·.dst) = some slot)
    {σ : St} {a : Act} (T : SW P ρ S B N σ a w) {km cl : Nat} {es : Array MapEntry} (J : MapAt km es cl S w) {k : List Value} (hk : k.length = ks.length) {keys : List (List Value)} {r : Option Nat} (h : Holds ks es.toList keys) (e : keyAt ks k keys 0 = some r)
    {t : Bool} (ht : test σ slot true = some t) (hm : t = true → unT (σ.s m) = .v (.map (some km))) (hkx : t = true → unT (σ.s kx) = .agg (k.map A.v)) {Q : Exit → Act → World → Prop} {K : Act → World → Prop}
    (q : ∀ a1, SW P ρ S B N { σ with s := upd σ.s d (.ifg t (.q r.isSome)) } a1 w → K a1 w) : wpOp P ops Q i K a w := by
  have hw := wanted_of T hg rfl hs ht
  unfold wpOp
  rw [hi]
  simp only [hw]
  cases t with
  | false =>
    simp only [Bool.false_eq_true, if_false]
    rw [hd]
    exact q _ (SW.put T (.ifF _) hdN)
  | true =>
    simp only [if_true]
    refine .inl ?_
    have r1 := unT_R (T.slot m)
    rw [hm rfl] at r1
    have r2 := unT_R (T.slot kx)
    rw [hkx rfl] at r2
    have e1 : a.eval (.tmp m) = .map (some km) := map_of r1
    have e2 : a.eval (.tmp kx) = keyV k := key_of r2
    have hrun : (execOp a.eval o).run P w = .ok (.value (.bool r.isSome)) w := by
      simp only [execOp, ho, e1, e2, Sem.run_bind, lookup_run T0 J.here k hk h e, Result.andThen_ok]
      rfl
    refine wp_of_run hrun ?_
    rw [hd]
    exact q _ (SW.put T (.ifT _ _ (.v _ rfl)) hdN)
theorem make_one {tm : Nat} {ops : Array Oper} {i : Nat} {o : Oper} {d : Nat} (hi : ops[i]? = some o) (ho : o.op = .makeMap tm none) (hd : o.dst = some d) (hdN : d < N) (hg : o.guard = none)
    {σ : St} {a : Act} (T : SW P ρ S B N σ a w) {Q : Exit → Act → World → Prop} {K : Act → World → Prop} (ks : List Nat)
    (q : ∀ a1 w1, Below B w w1 → MapAt w.heap.size #[] 0 S w1 → SW P ρ S B N { σ with s := upd σ.s d (.v (.map (some w.heap.size))) } a1 w1 → K a1 w1) : wpOp P ops Q i K a w := by
  unfold wpOp
  rw [hi]
  have hw : Region.wanted o (yielded ops a.tmps) = true := by unfold Region.wanted; rw [hg]
  simp only [hw, if_true]
  refine .inl ?_
  have hrun : (execOp a.eval o).run P w = .ok (.value (.map (some w.heap.size))) (w.alloc (.map #[] 0)) := by
    simp only [execOp, ho, Option.map_none, Sem.run_bind, run_makeMap, Result.andThen_ok]
    rfl
  refine wp_of_run hrun ?_
  rw [hd]
  have hext : Ext S w (w.alloc (.map #[] 0)) := ⟨fun k hk => Below.heap_alloc w _ k (T.heap.old k hk), fun k c t e => ⟨c, by rw [Below.heap_alloc w _ k (lt_of_some e)]; exact e, rfl⟩, fun k es cl e => by rw [Below.heap_alloc w _ k (lt_of_some e)]; exact e⟩
  have T1 : SW P ρ S B N σ a (w.alloc (.map #[] 0)) := ⟨fun t => (T.slot t).mono (fun _ _ h => h) (fun _ h => h) hext, T.size, T.defers, T.heap.mono (fun _ _ h => h) hext (by simp) (fun b blk k sz e hb => Below.heap_alloc w _ k (T.heap.lt e hb)), Nat.le_trans T.le (by simp)⟩
  exact q _ _ ((Below.refl B w).alloc T.le _) ⟨fun hh => absurd (T.heap.old _ hh) (Nat.lt_irrefl _), alloc_at w _⟩ (SW.put T1 (.v _ rfl) hdN)
end Go.Vm

/-
  Segments of a region by a test of the kernel; tuples of plain results.
-/
set_option linter.unusedVariables false
set_option linter.unusedSimpArgs false
namespace Go.Vm
open Go.RowKit
variable {P : Program} {ρ : Rho} {S : Nat → Prop} {w : World} {B N tot : Nat} {E : Env}
def okSeg (P : Program) (N : Nat) (ops : Array Oper) : Nat → List G → Bool
  | _, [] => true
  | k, g :: rest => (match ops[k]? with | some o => okG P N ops o g | none => false) && (g.op.names.2 == 0) && !g.op.isD && okSeg P N ops (k + 1) rest
theorem okSeg_at {ops : Array Oper} : ∀ {gs : List G} {k : Nat}, okSeg P N ops k gs = true → ∀ (i : Nat) (g : G), gs[i]? = some g → (∃ o, ops[k + i]? = some o ∧ okG P N ops o g = true) ∧ ∀ n b, ¬ lays tot n g.op b
  | [], k, _, i, g, h => by simp at h
  | g0 :: rest, k, ok, i, g, h => by
    simp only [okSeg, Bool.and_eq_true, beq_iff_eq, Bool.not_eq_true'] at ok
    obtain ⟨⟨⟨h1, h2⟩, h3⟩, h4⟩ := ok
    cases i with
    | zero =>
      simp at h
      subst h
      refine ⟨?_, fun n b => ?_⟩
      · split at h1
        · rename_i o ho
          exact ⟨o, ho, h1⟩
        · cases h1
      · unfold lays span
        rw [h3, h2]
        simp
    | succ i =>
      have := okSeg_at h4 i g (by simpa using h)
      rw [show k + 1 + i = k + (i + 1) by omega] at this
      exact this
theorem res_plains {rs : List A} {v : Value} {w' : World} (hS : ∀ k, S k → k < w.heap.size) (hG : GlobOk P S w) (hb : Below w.heap.size w w') (hl : ∀ n, laVals noHp n rs = (rs, noHp)) (r : R P noRho S w' (pack rs) v) : Res P S w rs v w' := by
  have hE := ext_below hS hb
  refine ⟨S, fun _ h => h, fun _ h => .inl h, hb, hE, fun n => ⟨noRho, fun _ _ => rfl, ?_, ?_⟩⟩
  · rw [hl]
    exact ⟨fun b blk e => (by cases e), fun b b' k sz sz' blk blk' e => (by cases e), fun k hk => Nat.lt_of_lt_of_le (hS k hk) hb.size, hG.mono (fun _ h => h) hE⟩
  · rw [hl]
    exact r
theorem wp_hand {ops : Array Oper} {i : Nat} {o : Oper} {d : Nat} {u : A} {v : Value} {σ : St} {a : Act} (hi : ops[i]? = some o) (hg : o.guard = none) (hd : o.dst = some d) (hdN : d < N) (T : SW P ρ S B N σ a w) (hrun : (execOp a.eval o).run P w = .ok (.value v) w) (r : R P ρ S w u v)
    {Q : Exit → Act → World → Prop} {K : Act → World → Prop} (q : ∀ a1, SW P ρ S B N { σ with s := upd σ.s d u } a1 w → K a1 w) : wpOp P ops Q i K a w := by
  unfold wpOp
  rw [hi]
  have hw : Region.wanted o (yielded ops a.tmps) = true := by unfold Region.wanted; rw [hg]
  simp only [hw, if_true]
  refine .inl (wp_of_run hrun ?_)
  rw [hd]
  exact q _ (SW.put T r hdN)
def seqL : Code → Code | .seq x _ => x | c => c
def seqR : Code → Code | .seq _ y => y | c => c
def regOps : Code → Array Oper | .region _ ops _ => ops | _ => #[]
def conT : Code → Code | .cond _ x _ => x | c => c
def bodyB : Code → Code | .block _ x => x | c => c
def bodyL : Code → Code | .loop x => x | c => c
def bodyF (F : Func) : Code := F.body.getD .skip
end Go.Vm

/-
  A call that stands in part outside of the abstract machine: its state, beside at most one map.
-/
set_option linter.unusedVariables false
set_option linter.unusedSimpArgs false
namespace Go.Vm
open Go.RowKit
variable {P : Program} {S0 : Nat → Prop} {w0 w w' : World} {N tot : Nat} {E : Env}
structure From (S0 : Nat → Prop) (w0 : World) (S : Nat → Prop) (w : World) : Prop where
  sub : ∀ k, S0 k → S k
  back : ∀ k, S k → S0 k ∨ w0.heap.size ≤ k
  below : Below w0.heap.size w0 w
  old : ∀ k, S0 k → k < w0.heap.size
abbrev Mp := Option (Nat × Array MapEntry × Nat)
def MpAt (w0 : World) : Mp → (Nat → Prop) → World → Prop
  | none, _, _ => True
  | some (km, es, cl), S, w => MapAt km es cl S w ∧ w0.heap.size ≤ km
structure Hy (P : Program) (S0 : Nat → Prop) (w0 : World) (N : Nat) (mp : Mp) (σ : St) (a : Act) (w : World) : Prop where
  ex : ∃ ρ S, From S0 w0 S w ∧ MpAt w0 mp S w ∧ SW P ρ S w0.heap.size N σ a w ∧ ∀ b, σ.n ≤ b → ρ b = none
  base : σ.base = 0
variable {mp : Mp} {σ : St} {a : Act}
def opAt (ops : Array Oper) (i : Nat) (p : Oper → Bool) : Bool := match ops[i]? with | some o => p o | none => false
theorem opAt_inv {ops : Array Oper} {i : Nat} {p : Oper → Bool} (h : opAt ops i p = true) : ∃ o, ops[i]? = some o ∧ p o = true := by
  unfold opAt at h
  split at h
  · rename_i o ho; exact ⟨o, ho, h⟩
  · cases h
theorem Hy.drop (H : Hy P S0 w0 N mp σ a w) : Hy P S0 w0 N none σ a w := by
  obtain ⟨ρ, S, F, _, T, f⟩ := H.ex
  exact ⟨⟨ρ, S, F, trivial, T, f⟩, H.base⟩
theorem From.step {S S' : Nat → Prop} (F : From S0 w0 S w) (h1 : ∀ k, S k → S' k) (h2 : ∀ k, S' k → S k ∨ w0.heap.size ≤ k) (hb : Below w0.heap.size w w') : From S0 w0 S' w' :=
  ⟨fun k h => h1 k (F.sub k h), fun k h => by rcases h2 k h with h | h; exact F.back k h; exact .inr h, F.below.trans hb, F.old⟩
theorem From.thin {S : Nat → Prop} {km : Nat} (F : From S0 w0 S w) (h : w0.heap.size ≤ km) : From S0 w0 (fun k => S k ∧ k ≠ km) w :=
  ⟨fun k hk => ⟨F.sub k hk, by have := F.old k hk; omega⟩, fun k hk => F.back k hk.1, F.below, F.old⟩
theorem Hy.step {ρ' : Rho} {S S' : Nat → Prop} {σ' : St} {a' : Act} (F : From S0 w0 S w) (A : MpAt w0 mp S w) (h1 : ∀ k, S k → S' k) (h2 : ∀ k, S' k → S k ∨ w0.heap.size ≤ k) (hb : Below w0.heap.size w w') (he : Ext S w w')
    (T : SW P ρ' S' w0.heap.size N σ' a' w') (f : ∀ b, σ'.n ≤ b → ρ' b = none) (b : σ'.base = 0) : Hy P S0 w0 N mp σ' a' w' := by
  cases mp with
  | none => exact ⟨⟨ρ', S', F.step h1 h2 hb, trivial, T, f⟩, b⟩
  | some m =>
    obtain ⟨km, es, cl⟩ := m
    obtain ⟨A, hk⟩ := A
    have hm := he.maps km es cl A.here
    exact ⟨⟨ρ', _, (F.step h1 h2 hb).thin hk, ⟨⟨fun h => h.2 rfl, hm⟩, hk⟩, T.thin hm, f⟩, b⟩
theorem Hy.code (hE : EnvOk P E) (hS : EnvShr E) (hm : P.follows .mixedOrders = true) {c : ACode} {x : Code} (ok : okCode P N c x = true) {out : Out} (e : exec E c σ = some out) (H : Hy P S0 w0 N mp σ a w) (hb : out.st.base = 0)
    {Q : Exit → Act → World → Prop} (k : ∀ ex a' w', sameExit out ex → Hy P S0 w0 N mp out.st a' w' → Q ex a' w') : x.wp P Q a w := by
  obtain ⟨ρ, S, F, A, T, f⟩ := H.ex
  have h0 := H.base
  refine wp_mono (exec_sound hE hS hm c x ok ρ S σ a w out e T f (by omega) (by rw [h0]; exact fun b hb => by omega)) (fun ex a1 w1 p => ?_)
  obtain ⟨ρ1, S1, M, T1, f1⟩ := p.ex
  exact k ex a1 w1 p.same (Hy.step F A M.sub M.back M.below M.ext T1 f1 hb)
theorem Hy.seg (hE : EnvOk P E) {ops : Array Oper} {Q : Exit → Act → World → Prop} {tail : List Nat} {σf : St} :
    ∀ (gs : List G) (k : Nat) {σ : St} {a : Act} {w : World}, okSeg P N ops k gs = true → Hy P S0 w0 N mp σ a w → steps E tot gs σ = some σf → σf.n = σ.n →
      (∀ a' w', Hy P S0 w0 N mp σf a' w' → wpOps P ops Q tail a' w') → wpOps P ops Q (List.range' k gs.length ++ tail) a w := by
  suffices hh : ∀ (gs : List G) (k : Nat) {σ : St} {a : Act} {w : World} (n : Nat), okSeg P N ops k gs = true → (∃ ρ S, From S0 w0 S w ∧ MpAt w0 mp S w ∧ SW P ρ S w0.heap.size N σ a w ∧ ∀ b, n ≤ b → ρ b = none) → steps E tot gs σ = some σf → σ.base = 0 → σf.n = n →
      (∀ a' w', Hy P S0 w0 N mp σf a' w' → wpOps P ops Q tail a' w') → wpOps P ops Q (List.range' k gs.length ++ tail) a w from
    fun gs k σ a w ok H e hn q => hh gs k (n := σ.n) ok H.ex e H.base hn q
  intro gs
  induction gs with
  | nil =>
    intro k σ a w n ok H e hb hn q
    simp only [steps, Option.some.injEq] at e
    subst e
    subst hn
    exact q a w ⟨H, hb⟩
  | cons g rest ih =>
    intro k σ a w n ok H e hb hn q
    obtain ⟨ρ, S, F, A, T, f⟩ := H
    obtain ⟨σ1, h1, e1⟩ := bnd_eq e
    obtain ⟨⟨o, ho, hg⟩, hno⟩ := okSeg_at ok 0 g rfl
    rw [Nat.add_zero] at ho
    show wpOps P ops Q (List.range' k (rest.length + 1) ++ tail) a w
    rw [List.range'_succ, List.cons_append, wpOps_cons]
    refine op_sound hE ho T hg (fun b hb => absurd hb (hno _ _)) h1 (fun v w1 hf => ?_)
    have hg' := hg
    simp only [okG, Bool.and_eq_true, decide_eq_true_eq] at hg'
    rw [hg'.1.1.2] at *
    have hbase : σ1.base = 0 := by
      obtain ⟨u, hu, _⟩ := hf.ex
      rw [hu]; exact hb
    obtain ⟨ρ1, S1, M, T1, _, _⟩ := hf.SW T hg'.1.2
    have hy : ∃ ρ S, From S0 w0 S w1 ∧ MpAt w0 mp S w1 ∧ SW P ρ S w0.heap.size N σ1 (a.put g.op.dst v) w1 ∧ ∀ b, n ≤ b → ρ b = none := by
      have := Hy.step (σ' := { σ1 with n := n }) (mp := mp) F A M.sub M.back M.below M.ext (P := P) (N := N) (a' := a.put g.op.dst v) (ρ' := ρ1) ⟨T1.slot, T1.size, T1.defers, T1.heap, T1.le⟩ (fun b hb => M.new b (f b hb) (hno _ _)) hbase
      obtain ⟨ρ2, S2, F2, A2, T2, f2⟩ := this.ex
      exact ⟨ρ2, S2, F2, A2, ⟨T2.slot, T2.size, T2.defers, T2.heap, T2.le⟩, f2⟩
    simp only [okSeg, Bool.and_eq_true] at ok
    exact ih (k + 1) n ok.2 hy e1 hbase hn q
theorem Hy.hand {ops : Array Oper} {i : Nat} {o : Oper} {d : Nat} {u : A} {v : Value} (hi : ops[i]? = some o) (hg : o.guard = none) (hd : o.dst = some d) (hdN : d < N) (H : Hy P S0 w0 N mp σ a w) (hrun : (execOp a.eval o).run P w = .ok (.value v) w) (r : ∀ ρ S, SW P ρ S w0.heap.size N σ a w → R P ρ S w u v)
    {Q : Exit → Act → World → Prop} {rest : List Nat} (q : ∀ a1, Hy P S0 w0 N mp { σ with s := upd σ.s d u } a1 w → wpOps P ops Q rest a1 w) : wpOps P ops Q (i :: rest) a w := by
  obtain ⟨ρ, S, F, A, T, f⟩ := H.ex
  rw [wpOps_cons]
  exact wp_hand hi hg hd hdN T hrun (r ρ S T) (fun a1 T1 => q a1 ⟨⟨ρ, S, F, A, T1, f⟩, H.base⟩)
theorem Hy.bool {t : Nat} {b : Bool} (H : Hy P S0 w0 N mp σ a w) (e : σ.s t = .q b) : a.eval (.tmp t) = .bool b := by
  obtain ⟨ρ, S, F, A, T, f⟩ := H.ex
  have r := T.slot t
  rw [e] at r
  exact (R.v_inv r).1
theorem Hy.neqNil {tI t' : TypeId} (ht : P.underlying tI = some (.interface (P.methodsAt tI))) {ops : Array Oper} {i : Nat} {o : Oper} {d x : Nat} {b : Bool} (hi : ops[i]? = some o) (ho : o.op = .binOp .neq tI (.tmp x) (.const .nilIface) t') (hg : o.guard = none) (hd : o.dst = some d) (hdN : d < N) (H : Hy P S0 w0 N mp σ a w)
    (hx : (σ.s x = .v .nilIface ∧ b = false) ∨ (σ.s x = .err ∧ b = true)) {Q : Exit → Act → World → Prop} {rest : List Nat} (q : ∀ a1, Hy P S0 w0 N mp { σ with s := upd σ.s d (.q b) } a1 w → wpOps P ops Q rest a1 w) : wpOps P ops Q (i :: rest) a w := by
  have hk : a.eval (.const .nilIface) = .nilIface := rfl
  obtain ⟨ρ, S, F, A, T, f⟩ := H.ex
  have r1 := T.slot x
  have hrun : (execOp a.eval o).run P w = .ok (.value (.bool b)) w := by
    rcases hx with ⟨e, rfl⟩ | ⟨e, rfl⟩
    · rw [e] at r1
      have e1 : a.eval (.tmp x) = .nilIface := (R.v_inv r1).1
      simp only [execOp, ho, e1, hk, Sem.run_bind]
      have hgd : (eqGuard .neq tI (.tmp x) (.const .nilIface) .nilIface .nilIface).run P w = .ok () w := by simp [eqGuard]
      rw [hgd]
      simp only [Result.andThen_ok, run_neq_nil_nil w tI ht]
      rfl
    · rw [e] at r1
      obtain ⟨tp, y, e1⟩ : ∃ tp y, a.eval (.tmp x) = .iface tp y := by
        have h2 : a.eval (.tmp x) = a.tmps.getD x undef := rfl
        rw [h2]
        generalize a.tmps.getD x undef = z at r1
        cases r1 with
        | err tp y => exact ⟨tp, y, rfl⟩
      simp only [execOp, ho, e1, hk, Sem.run_bind]
      have hgd : (eqGuard .neq tI (.tmp x) (.const .nilIface) (.iface tp y) .nilIface).run P w = .ok () w := by simp [eqGuard]
      rw [hgd]
      simp only [Result.andThen_ok, run_neq_held_nil w tI tp y ht]
      rfl
  exact H.hand hi hg hd hdN hrun (fun ρ S T => .v _ rfl) q
theorem Hy.make {tm : Nat} {ops : Array Oper} {i : Nat} {o : Oper} {d : Nat} (hi : ops[i]? = some o) (ho : o.op = .makeMap tm none) (hd : o.dst = some d) (hdN : d < N) (hg : o.guard = none)
    (H : Hy P S0 w0 N mp σ a w) {Q : Exit → Act → World → Prop} {rest : List Nat}
    (q : ∀ a1 w1 km, Hy P S0 w0 N (some (km, #[], 0)) { σ with s := upd σ.s d (.v (.map (some km))) } a1 w1 → wpOps P ops Q rest a1 w1) : wpOps P ops Q (i :: rest) a w := by
  obtain ⟨ρ, S, F, A, T, f⟩ := H.ex
  rw [wpOps_cons]
  exact make_one hi ho hd hdN hg T [] (fun a1 w1 hb J T1 => q a1 w1 _ ⟨⟨ρ, S, F.step (fun _ h => h) (fun _ h => .inl h) hb, ⟨J, F.below.size⟩, T1, f⟩, H.base⟩)
theorem Hy.lookup {tm tk tb : Nat} {ks : List Nat} (T0 : SetT P tm tk tb ks) {ops : Array Oper} {i : Nat} {o : Oper} {d m kx j slot : Nat} (hi : ops[i]? = some o) (ho : o.op = .lookup tm (.tmp m) (.tmp kx) false) (hd : o.dst = some d) (hdN : d < N) (hg : o.guard = some (j, true)) (hs : (ops[j]?).bind (·.dst) = some slot)
    {km cl : Nat} {es : Array MapEntry} (H : Hy P S0 w0 N (some (km, es, cl)) σ a w) {k : List Value} (hk : k.length = ks.length) {keys : List (List Value)} {r : Option Nat} (h : Holds ks es.toList keys) (e : keyAt ks k keys 0 = some r)
    {t : Bool} (ht : test σ slot true = some t) (hm : t = true → unT (σ.s m) = .v (.map (some km))) (hkx : t = true → unT (σ.s kx) = .agg (k.map A.v)) {Q : Exit → Act → World → Prop} {rest : List Nat}
    (q : ∀ a1, Hy P S0 w0 N (some (km, es, cl)) { σ with s := upd σ.s d (.ifg t (.q r.isSome)) } a1 w → wpOps P ops Q rest a1 w) : wpOps P ops Q (i :: rest) a w := by
  obtain ⟨ρ, S, F, A, T, f⟩ := H.ex
  rw [wpOps_cons]
  exact lookup_one T0 hi ho hd hdN hg hs T A.1 hk h e ht hm hkx (fun a1 T1 => q a1 ⟨⟨ρ, S, F, A, T1, f⟩, H.base⟩)
theorem Hy.update {tm tk tb : Nat} {ks : List Nat} (T0 : SetT P tm tk tb ks) {ops : Array Oper} {i : Nat} {o : Oper} {m kx : Nat} (hi : ops[i]? = some o) (ho : o.op = .mapUpdate tm (.tmp m) (.tmp kx) (.const (.bool true))) (hd : o.dst = none) (hg : o.guard = none)
    {km cl : Nat} {es : Array MapEntry} (H : Hy P S0 w0 N (some (km, es, cl)) σ a w) {k : List Value} (hk : k.length = ks.length) {keys : List (List Value)} {r : Option Nat} (h : Holds ks es.toList keys) (e : keyAt ks k keys 0 = some r)
    (hm : σ.s m = .v (.map (some km))) (hkx : σ.s kx = .agg (k.map A.v)) {Q : Exit → Act → World → Prop} {rest : List Nat}
    (q : ∀ a1 w1 es1 cl1, Holds ks es1.toList (setAdd ks keys k) → Hy P S0 w0 N (some (km, es1, cl1)) σ a1 w1 → wpOps P ops Q rest a1 w1) : wpOps P ops Q (i :: rest) a w := by
  obtain ⟨ρ, S, F, A, T, f⟩ := H.ex
  rw [wpOps_cons]
  obtain ⟨A1, A2⟩ := A
  unfold wpOp
  rw [hi]
  have hw : Region.wanted o (yielded ops a.tmps) = true := by unfold Region.wanted; rw [hg]
  simp only [hw, if_true]
  refine .inl ?_
  have r1 := T.slot m
  rw [hm] at r1
  have r2 := T.slot kx
  rw [hkx] at r2
  have e1 : a.eval (.tmp m) = .map (some km) := map_of r1
  have e2 : a.eval (.tmp kx) = keyV k := key_of r2
  have e3 : a.eval (.const (.bool true)) = .bool true := rfl
  obtain ⟨w1, es1, cl1, hrun, M, h1⟩ := update_run T0 A1.here k hk h e
  have hrun' : (execOp a.eval o).run P w = .ok .skip w1 := by
    simp only [execOp, ho, e1, e2, e3, Sem.run_bind, hrun, Result.andThen_ok]
    rfl
  refine wp_of_skip hrun' ?_
  rw [hd]
  have hb : Below w0.heap.size w w1 := ⟨M.os, M.tape, M.output, by rw [M.size]; exact Nat.le_refl _, fun i hi => M.other i (by omega)⟩
  exact q _ w1 es1 cl1 h1 ⟨⟨ρ, _, ⟨fun k hk => ⟨F.sub k hk, by have := F.old k hk; omega⟩, fun k hk => F.back k hk.1, F.below.trans hb, F.old⟩, ⟨⟨fun hh => hh.2 rfl, M.here⟩, A2⟩, T.map M, f⟩, H.base⟩
theorem Hy.done {F : Func} {rv : List RVar} {ra rs : List A} (H : Hy P S0 w0 F.ntmps mp σ a w) (o2 : okRes P F.results.toList rv = true) (e : resVals σ rv = some ra) (hrs : rsVals σ.h [] ra = some rs) :
    bodyPost P F (fun | .returned v, w' => Res P S0 w0 rs v w' | _, _ => False) .ret a w := by
  obtain ⟨ρ, S, Fr, _, T, f⟩ := H.ex
  obtain ⟨us, hrun, hus⟩ := results_run T.heap rfl T.slot (F := F) (rv := rv) (as := ra) o2 e
  exact ⟨T.defers, _, hrun, leave_sound rfl T.heap hus hrs Fr.sub Fr.back Fr.below (ext_below Fr.old Fr.below)⟩
theorem Hy.start {as : List A} {xs : List Value} {n : Nat} (hS : ∀ k, S0 k → k < w.heap.size) (hG : GlobOk P S0 w) (r : RL P noRho S0 w as xs) (hn : N ≤ n + xs.length) :
    Hy P S0 w N none ⟨slots as, fun _ => none, 0, 0⟩ { tmps := xs.toArray ++ Array.replicate n undef, defers := [] } w :=
  ⟨⟨noRho, S0, ⟨fun _ h => h, fun _ h => .inl h, Below.refl _ _, hS⟩, trivial, ⟨fun t => slots_R r _ t, by simp; omega, rfl, HR.empty hS hG, Nat.le_refl _⟩, fun _ _ => rfl⟩, rfl⟩
end Go.Vm

/-
  slices.Insert of one element into a row of the call's own: whatever the row's capacity.
-/
set_option linter.unusedVariables false
set_option linter.unusedSimpArgs false
namespace Go.Vm
open Go.RowKit
variable {P : Program} {ρ ρ' ρ'' : Rho} {S S' S'' : Nat → Prop} {w w' w'' : World} {B N : Nat} {h : Hp}
end Go.Vm

/-
  Loops over a list, told once.
-/
set_option linter.unusedVariables false
set_option linter.unusedSimpArgs false
namespace Go.Vm
def runI {α β ρ : Type} (g : Nat → β → α → β ⊕ ρ) : Nat → β → List α → β ⊕ ρ
  | _, b, [] => .inl b
  | i, b, x :: xs => match g i b x with
    | .inl b' => runI g (i + 1) b' xs
    | .inr r => .inr r
theorem drop_at {α : Type} {l : List α} {i : Nat} {x : α} {xs : List α} (h : l.drop i = x :: xs) : l[i]? = some x ∧ i < l.length ∧ l.drop (i + 1) = xs := by
  have h1 : l[i]? = some x := by have := congrArg (·[0]?) h; simpa using this
  refine ⟨h1, (List.getElem?_eq_some_iff.1 h1).1, ?_⟩
  have := congrArg List.tail h
  simpa [List.tail_drop] using this
theorem drop_end {α : Type} {l : List α} {i : Nat} (h : l.drop i = []) : l.length ≤ i := by
  have := congrArg List.length h
  simp at this
  omega
def Ended (o : Option Out) (β ρ : Type) (r : β ⊕ ρ) (X : β → Out → Prop) (Y : ρ → Out → Prop) : Prop :=
  ∃ out, o = some out ∧ match r with
    | .inl b => X b out
    | .inr q => Y q out
theorem loop_list {α β ρ : Type} {F : St → Option Out} {L : List Nat} (xs : List α) (st : Nat → β → St) (g : Nat → β → α → β ⊕ ρ) (Inv : Nat → β → Prop) (X : β → Out → Prop) (Y : ρ → Out → Prop)
    (hstep : ∀ (i : Nat) (b : β) (x : α) (K : Nat), xs[i]? = some x → i < xs.length → Inv i b → match g i b x with
      | .inl b' => loopN F L (K + 1) (st i b) = loopN F L K (st (i + 1) b') ∧ Inv (i + 1) b'
      | .inr r => ∃ out, loopN F L (K + 1) (st i b) = some out ∧ Y r out)
    (hend : ∀ (b : β) (K : Nat), Inv xs.length b → ∃ out, loopN F L (K + 1) (st xs.length b) = some out ∧ X b out) :
    ∀ (ys : List α) (i K : Nat) (b : β), xs.drop i = ys → i ≤ xs.length → ys.length < K → Inv i b → Ended (loopN F L K (st i b)) β ρ (runI g i b ys) X Y
  | [], i, K, b, hd, hi, hK, hinv => by
    obtain ⟨K, rfl⟩ : ∃ j, K = j + 1 := ⟨K - 1, by omega⟩
    have : i = xs.length := by have := drop_end hd; omega
    subst this
    exact hend b K hinv
  | y :: ys, i, K, b, hd, hi, hK, hinv => by
    obtain ⟨K, rfl⟩ : ∃ j, K = j + 1 := ⟨K - 1, by omega⟩
    obtain ⟨h1, h2, h3⟩ := drop_at hd
    have := hstep i b y K h1 h2 hinv
    unfold runI
    cases hg : g i b y with
    | inl b' =>
      rw [hg] at this
      rw [this.1]
      exact loop_list xs st g Inv X Y hstep hend ys (i + 1) K b' h3 (by omega) (by simp at hK; omega) this.2
    | inr r =>
      rw [hg] at this
      exact this
theorem lt_rounds {n : Nat} (h : n ≤ big) : n < rounds := by
  unfold big at h
  unfold rounds
  omega
theorem size_eq (t : ByteArray) : t.size = t.data.toList.length := (Array.length_toList (xs := t.data)).symm
theorem loop_all {α β ρ : Type} {F : St → Option Out} {L : List Nat} (xs : List α) (st : Nat → β → St) (g : Nat → β → α → β ⊕ ρ) (Inv : Nat → β → Prop) (X : β → Out → Prop) (Y : ρ → Out → Prop) (b : β) (h0 : Inv 0 b) (hl : xs.length ≤ big)
    (hstep : ∀ (i : Nat) (b : β) (x : α) (K : Nat), xs[i]? = some x → i < xs.length → Inv i b → match g i b x with
      | .inl b' => loopN F L (K + 1) (st i b) = loopN F L K (st (i + 1) b') ∧ Inv (i + 1) b'
      | .inr r => ∃ out, loopN F L (K + 1) (st i b) = some out ∧ Y r out)
    (hend : ∀ (b : β) (K : Nat), Inv xs.length b → ∃ out, loopN F L (K + 1) (st xs.length b) = some out ∧ X b out) : Ended (loopN F L rounds (st 0 b)) β ρ (runI g 0 b xs) X Y :=
  loop_list xs st g Inv X Y hstep hend xs 0 rounds b rfl (Nat.zero_le _) (lt_rounds hl) h0
end Go.Vm

/-
  The abstract machine, step by step: what simp reads. Theorems by definition.
-/
set_option linter.unusedSimpArgs false
set_option linter.unusedVariables false
namespace Go.Vm
theorem low_zero (h : Hp) : low 0 h = fun _ => none := by funext i; simp [low]
section
variable {α β : Type} (k : St → Option Out) (e : St → Option α) (σ : St) (id id' tot : Nat)
theorem bnd_some (a : α) (f : α → Option β) : bnd (some a) f = f a := (rfl)
theorem bnd_none (f : α → Option β) : bnd none f = none := (rfl)
theorem bnd_cond (q : Bool) (a b : Option α) (f : α → Option β) : bnd (bif q then a else b) f = bif q then bnd a f else bnd b f := by cases q <;> rfl
theorem bnd_bnd {γ : Type} (o : Option α) (f : α → Option β) (g : β → Option γ) : bnd (bnd o f) g = bnd o fun a => bnd (f a) g := by cases o <;> rfl
theorem seqO_none : seqO none k = none := (rfl)
theorem seqO_norm : seqO (some (.norm σ)) k = k σ := (rfl)
theorem seqO_exit : seqO (some (.exit id σ)) k = some (.exit id σ) := (rfl)
theorem seqO_ret : seqO (some (.ret σ)) k = some (.ret σ) := (rfl)
theorem seqO_cond (q : Bool) (a b : Option Out) : seqO (bif q then a else b) k = bif q then seqO a k else seqO b k := by cases q <;> rfl
theorem blO_none : blO id none = none := (rfl)
theorem blO_norm : blO id (some (.norm σ)) = some (.norm σ) := (rfl)
theorem blO_exit : blO id (some (.exit id' σ)) = if id' = id then some (.norm σ) else some (.exit id' σ) := (rfl)
theorem blO_ret : blO id (some (.ret σ)) = some (.ret σ) := (rfl)
theorem blO_cond (q : Bool) (a b : Option Out) : blO id (bif q then a else b) = bif q then blO id a else blO id b := by cases q <;> rfl
theorem endO_none : endO none e = none := (rfl)
theorem endO_norm : endO (some (.norm σ)) e = e σ := (rfl)
theorem endO_ret : endO (some (.ret σ)) e = e σ := (rfl)
theorem endO_cond (q : Bool) (a b : Option Out) : endO (bif q then a else b) e = bif q then endO a e else endO b e := by cases q <;> rfl
theorem nrm_none : nrm tot none = none := (rfl)
theorem nrm_some : nrm tot (some σ) = some (.norm ⟨σ.s, σ.h, σ.n + tot, σ.base⟩) := (rfl)
theorem nrm_cond (q : Bool) (a b : Option St) : nrm tot (bif q then a else b) = bif q then nrm tot a else nrm tot b := by cases q <;> rfl
theorem imp_self (a : Bool) : imp a a = true := by cases a <;> rfl
theorem imp_false (a : Bool) : imp false a = true := (rfl)
theorem imp_true (a : Bool) : imp true a = a := by cases a <;> rfl
theorem imp_to_true (a : Bool) : imp a true = true := by cases a <;> rfl
theorem imp_and_left (a b c : Bool) : imp (a && b) c = (imp a c || imp b c) := by cases a <;> cases b <;> cases c <;> rfl
theorem imp_and_right (a b c : Bool) : imp a (b && c) = (imp a b && imp a c) := by cases a <;> cases b <;> cases c <;> rfl
theorem imp_total (a b : Bool) : (imp a b || imp b a) = true := by cases a <;> cases b <;> rfl
end
section
variable (E : Env) (tot d nm ty n : Nat) (gs : List G) (σ : St)
theorem st_nil : steps E tot [] σ = some σ := (rfl)
theorem st_mv (x : Opd) : steps E tot (.o (.mv d x) :: gs) σ = bnd (some (ev σ x)) fun a => steps E tot gs ⟨upd σ.s d a, σ.h, σ.n, σ.base⟩ := by
  simp only [steps, stepG, step, AOp.yields, valOp, bnd_some, bnd_bnd, put]
theorem sg_mv (sl : Nat) (w : Bool) (x : Opd) : steps E tot (.g sl w (.mv d x) :: gs) σ = bnd (testA w (σ.s sl)) fun t => bnd (underV t σ (some d) (evp t σ x)) (steps E tot gs) := by
  simp only [steps, stepG, AOp.yields, AOp.dst, valOp, bnd_some, bnd_bnd, put, test]
theorem st_pick (c a b : Opd) : steps E tot (.o (.pick d c a b) :: gs) σ = bnd (bnd (isQ (ev σ c)) fun q => bnd (evq q σ a) fun x => bnd (evq (!q) σ b) fun y => some (A.v (.bool (bif q then x else y)))) fun a => steps E tot gs ⟨upd σ.s d a, σ.h, σ.n, σ.base⟩ := by
  simp only [steps, stepG, step, AOp.yields, valOp, bnd_some, bnd_bnd, put]
theorem sg_pick (sl : Nat) (w : Bool) (c a b : Opd) : steps E tot (.g sl w (.pick d c a b) :: gs) σ = bnd (testA w (σ.s sl)) fun t => bnd (underV t σ (some d) (bnd (bnd (evp t σ c) isQ) fun q => bnd (evq (t && q) σ a) fun x => bnd (evq (t && !q) σ b) fun y => some (A.v (.bool (bif q then x else y))))) (steps E tot gs) := by
  simp only [steps, stepG, AOp.yields, AOp.dst, valOp, bnd_some, bnd_bnd, put, test]
theorem st_ld (g : Bool) (p : Opd) : steps E tot (.o (.ld d n g p) :: gs) σ = bnd (bnd (rowAt σ.h (ev σ p)) (segA n g)) fun a => steps E tot gs ⟨upd σ.s d a, σ.h, σ.n, σ.base⟩ := by
  simp only [steps, stepG, step, AOp.yields, valOp, bnd_some, bnd_bnd, put]
theorem sg_ld (sl : Nat) (w : Bool) (g : Bool) (p : Opd) : steps E tot (.g sl w (.ld d n g p) :: gs) σ = bnd (testA w (σ.s sl)) fun t => bnd (underV t σ (some d) (bnd (bnd (evp t σ p) (rowAt σ.h)) (segA n g))) (steps E tot gs) := by
  simp only [steps, stepG, AOp.yields, AOp.dst, valOp, bnd_some, bnd_bnd, put, test]
theorem st_bin (op : BinOp) (x y : Opd) : steps E tot (.o (.bin d op x y) :: gs) σ = bnd (binA op (ev σ x) (ev σ y)) fun a => steps E tot gs ⟨upd σ.s d a, σ.h, σ.n, σ.base⟩ := by
  simp only [steps, stepG, step, AOp.yields, valOp, bnd_some, bnd_bnd, put]
theorem sg_bin (sl : Nat) (w : Bool) (op : BinOp) (x y : Opd) : steps E tot (.g sl w (.bin d op x y) :: gs) σ = bnd (testA w (σ.s sl)) fun t => bnd (underV t σ (some d) (bnd (evp t σ x) fun a => bnd (evp t σ y) (binA op a))) (steps E tot gs) := by
  simp only [steps, stepG, AOp.yields, AOp.dst, valOp, bnd_some, bnd_bnd, put, test]
theorem st_eqs (ks : List Nat) (ng : Bool) (x y : Opd) : steps E tot (.o (.eqs d ks ng x y) :: gs) σ = bnd (eqsA ks ng (ev σ x) (ev σ y)) fun a => steps E tot gs ⟨upd σ.s d a, σ.h, σ.n, σ.base⟩ := by
  simp only [steps, stepG, step, AOp.yields, valOp, bnd_some, bnd_bnd, put]
theorem sg_eqs (sl : Nat) (w : Bool) (ks : List Nat) (ng : Bool) (x y : Opd) : steps E tot (.g sl w (.eqs d ks ng x y) :: gs) σ = bnd (testA w (σ.s sl)) fun t => bnd (underV t σ (some d) (bnd (evp t σ x) fun a => bnd (evp t σ y) (eqsA ks ng a))) (steps E tot gs) := by
  simp only [steps, stepG, AOp.yields, AOp.dst, valOp, bnd_some, bnd_bnd, put, test]
theorem st_beq (ng : Bool) (x y : Opd) : steps E tot (.o (.beq d ng x y) :: gs) σ = bnd (beqA ng (ev σ x) (ev σ y)) fun a => steps E tot gs ⟨upd σ.s d a, σ.h, σ.n, σ.base⟩ := by
  simp only [steps, stepG, step, AOp.yields, valOp, bnd_some, bnd_bnd, put]
theorem sg_beq (sl : Nat) (w : Bool) (ng : Bool) (x y : Opd) : steps E tot (.g sl w (.beq d ng x y) :: gs) σ = bnd (testA w (σ.s sl)) fun t => bnd (underV t σ (some d) (bnd (evp t σ x) fun a => bnd (evp t σ y) (beqA ng a))) (steps E tot gs) := by
  simp only [steps, stepG, AOp.yields, AOp.dst, valOp, bnd_some, bnd_bnd, put, test]
theorem st_un (op : UnOp) (x : Opd) : steps E tot (.o (.un d op x) :: gs) σ = bnd (unA op (ev σ x)) fun a => steps E tot gs ⟨upd σ.s d a, σ.h, σ.n, σ.base⟩ := by
  simp only [steps, stepG, step, AOp.yields, valOp, bnd_some, bnd_bnd, put]
theorem sg_un (sl : Nat) (w : Bool) (op : UnOp) (x : Opd) : steps E tot (.g sl w (.un d op x) :: gs) σ = bnd (testA w (σ.s sl)) fun t => bnd (underV t σ (some d) (bnd (evp t σ x) (unA op))) (steps E tot gs) := by
  simp only [steps, stepG, AOp.yields, AOp.dst, valOp, bnd_some, bnd_bnd, put, test]
theorem st_cv (k : IntKind) (x : Opd) : steps E tot (.o (.cv d k x) :: gs) σ = bnd (cvA k (ev σ x)) fun a => steps E tot gs ⟨upd σ.s d a, σ.h, σ.n, σ.base⟩ := by
  simp only [steps, stepG, step, AOp.yields, valOp, bnd_some, bnd_bnd, put]
theorem sg_cv (sl : Nat) (w : Bool) (k : IntKind) (x : Opd) : steps E tot (.g sl w (.cv d k x) :: gs) σ = bnd (testA w (σ.s sl)) fun t => bnd (underV t σ (some d) (bnd (evp t σ x) (cvA k))) (steps E tot gs) := by
  simp only [steps, stepG, AOp.yields, AOp.dst, valOp, bnd_some, bnd_bnd, put, test]
theorem st_cbs (e : Nat) (x : Opd) : steps E tot (.o (.cbs d e x) :: gs) σ = bnd (bnd (bnd (rowsOf e σ.h (ev σ x)) bytesOf) fun l => some (A.v (.string ⟨l.toArray⟩))) fun a => steps E tot gs ⟨upd σ.s d a, σ.h, σ.n, σ.base⟩ := by
  simp only [steps, stepG, step, AOp.yields, valOp, bnd_some, bnd_bnd, put]
theorem sg_cbs (sl e : Nat) (w : Bool) (x : Opd) : steps E tot (.g sl w (.cbs d e x) :: gs) σ = bnd (testA w (σ.s sl)) fun t => bnd (underV t σ (some d) (bnd (bnd (bnd (evp t σ x) (rowsOf e σ.h)) bytesOf) fun l => some (A.v (.string ⟨l.toArray⟩)))) (steps E tot gs) := by
  simp only [steps, stepG, AOp.yields, AOp.dst, valOp, bnd_some, bnd_bnd, put, test]
theorem st_fa (x : Opd) (off : Nat) : steps E tot (.o (.fa d x off) :: gs) σ = bnd (faA off (ev σ x)) fun a => steps E tot gs ⟨upd σ.s d a, σ.h, σ.n, σ.base⟩ := by
  simp only [steps, stepG, step, AOp.yields, valOp, bnd_some, bnd_bnd, put]
theorem sg_fa (sl : Nat) (w : Bool) (x : Opd) (off : Nat) : steps E tot (.g sl w (.fa d x off) :: gs) σ = bnd (testA w (σ.s sl)) fun t => bnd (underV t σ (some d) (bnd (evp t σ x) (faA off))) (steps E tot gs) := by
  simp only [steps, stepG, AOp.yields, AOp.dst, valOp, bnd_some, bnd_bnd, put, test]
theorem st_fld (x : Opd) (off : Nat) (g : Bool) : steps E tot (.o (.fld d x off n g) :: gs) σ = bnd (fldA off n g (ev σ x)) fun a => steps E tot gs ⟨upd σ.s d a, σ.h, σ.n, σ.base⟩ := by
  simp only [steps, stepG, step, AOp.yields, valOp, bnd_some, bnd_bnd, put]
theorem sg_fld (sl : Nat) (w : Bool) (x : Opd) (off : Nat) (g : Bool) : steps E tot (.g sl w (.fld d x off n g) :: gs) σ = bnd (testA w (σ.s sl)) fun t => bnd (underV t σ (some d) (bnd (evp t σ x) (fldA off n g))) (steps E tot gs) := by
  simp only [steps, stepG, AOp.yields, AOp.dst, valOp, bnd_some, bnd_bnd, put, test]
theorem st_ia (e : Nat) (x i : Opd) : steps E tot (.o (.ia d e x i) :: gs) σ = bnd (iaA e (ev σ x) (ev σ i)) fun a => steps E tot gs ⟨upd σ.s d a, σ.h, σ.n, σ.base⟩ := by
  simp only [steps, stepG, step, AOp.yields, valOp, bnd_some, bnd_bnd, put]
theorem sg_ia (sl e : Nat) (w : Bool) (x i : Opd) : steps E tot (.g sl w (.ia d e x i) :: gs) σ = bnd (testA w (σ.s sl)) fun t => bnd (underV t σ (some d) (bnd (evp t σ x) fun a => bnd (evp t σ i) (iaA e a))) (steps E tot gs) := by
  simp only [steps, stepG, AOp.yields, AOp.dst, valOp, bnd_some, bnd_bnd, put, test]
theorem st_ix (x i : Opd) : steps E tot (.o (.ix d x i) :: gs) σ = bnd (ixA (ev σ x) (ev σ i)) fun a => steps E tot gs ⟨upd σ.s d a, σ.h, σ.n, σ.base⟩ := by
  simp only [steps, stepG, step, AOp.yields, valOp, bnd_some, bnd_bnd, put]
theorem sg_ix (sl : Nat) (w : Bool) (x i : Opd) : steps E tot (.g sl w (.ix d x i) :: gs) σ = bnd (testA w (σ.s sl)) fun t => bnd (underV t σ (some d) (bnd (evp t σ x) fun a => bnd (evp t σ i) (ixA a))) (steps E tot gs) := by
  simp only [steps, stepG, AOp.yields, AOp.dst, valOp, bnd_some, bnd_bnd, put, test]
theorem st_ex (x : Opd) (i : Nat) : steps E tot (.o (.ex d x i) :: gs) σ = bnd (exA i (ev σ x)) fun a => steps E tot gs ⟨upd σ.s d a, σ.h, σ.n, σ.base⟩ := by
  simp only [steps, stepG, step, AOp.yields, valOp, bnd_some, bnd_bnd, put]
theorem sg_ex (sl : Nat) (w : Bool) (x : Opd) (i : Nat) : steps E tot (.g sl w (.ex d x i) :: gs) σ = bnd (testA w (σ.s sl)) fun t => bnd (underV t σ (some d) (bnd (evp t σ x) (exA i))) (steps E tot gs) := by
  simp only [steps, stepG, AOp.yields, AOp.dst, valOp, bnd_some, bnd_bnd, put, test]
theorem st_len (str : Bool) (x : Opd) : steps E tot (.o (.len d str x) :: gs) σ = bnd (lenA str (ev σ x)) fun a => steps E tot gs ⟨upd σ.s d a, σ.h, σ.n, σ.base⟩ := by
  simp only [steps, stepG, step, AOp.yields, valOp, bnd_some, bnd_bnd, put]
theorem sg_len (sl : Nat) (w str : Bool) (x : Opd) : steps E tot (.g sl w (.len d str x) :: gs) σ = bnd (testA w (σ.s sl)) fun t => bnd (underV t σ (some d) (bnd (evp t σ x) (lenA str))) (steps E tot gs) := by
  simp only [steps, stepG, AOp.yields, AOp.dst, valOp, bnd_some, bnd_bnd, put, test]
theorem st_mnx (mx : Bool) (x y : Opd) : steps E tot (.o (.mnx d mx x y) :: gs) σ = bnd (mnxA mx (ev σ x) (ev σ y)) fun a => steps E tot gs ⟨upd σ.s d a, σ.h, σ.n, σ.base⟩ := by
  simp only [steps, stepG, step, AOp.yields, valOp, bnd_some, bnd_bnd, put]
theorem sg_mnx (sl : Nat) (w : Bool) (mx : Bool) (x y : Opd) : steps E tot (.g sl w (.mnx d mx x y) :: gs) σ = bnd (testA w (σ.s sl)) fun t => bnd (underV t σ (some d) (bnd (evp t σ x) fun a => bnd (evp t σ y) (mnxA mx a))) (steps E tot gs) := by
  simp only [steps, stepG, AOp.yields, AOp.dst, valOp, bnd_some, bnd_bnd, put, test]
theorem st_nl (dd : Option Nat) (x : Opd) : steps E tot (.o (.nl dd x) :: gs) σ = bnd (nlA (ev σ x)) fun a => steps E tot gs ⟨put σ.s dd a, σ.h, σ.n, σ.base⟩ := by
  simp only [steps, stepG, step, AOp.yields, valOp, bnd_some, bnd_bnd, put]
theorem sg_nl (dd : Option Nat) (sl : Nat) (w : Bool) (x : Opd) : steps E tot (.g sl w (.nl dd x) :: gs) σ = bnd (testA w (σ.s sl)) fun t => bnd (underV t σ dd (bnd (evp t σ x) nlA)) (steps E tot gs) := by
  simp only [steps, stepG, AOp.yields, AOp.dst, valOp, bnd_some, bnd_bnd, put, test]
theorem st_mvn : steps E tot (.o (.mvn d nm ty) :: gs) σ = bnd (some ⟨upd σ.s d (.ref ty (σ.n + nm) 0 0 0 false), upd σ.h (σ.n + nm) (some ⟨ty, [], true, false⟩), σ.n, σ.base⟩) (steps E tot gs) := (rfl)
theorem st_al (zs : List A) : steps E tot (.o (.al d nm ty zs) :: gs) σ = bnd (some ⟨upd σ.s d (.ptr (σ.n + nm) 0 0), upd (viCells σ.h (σ.n + nm + 1) zs).2 (σ.n + nm) (some ⟨ty, [(viCells σ.h (σ.n + nm + 1) zs).1], true, true⟩), σ.n, σ.base⟩) (steps E tot gs) := (rfl)
theorem st_box (x : Opd) : steps E tot (.o (.box d nm ty n x) :: gs) σ = bnd (if (ev σ x).cells.length = n ∧ areCells (ev σ x).cells then some ⟨upd σ.s d (.ptr (σ.n + nm) 0 0), upd σ.h (σ.n + nm) (some ⟨ty, [(ev σ x).cells], true, true⟩), σ.n, σ.base⟩ else none) (steps E tot gs) := (rfl)
theorem st_bld (zs : List A) (ps : List (Nat × Nat × Opd)) : steps E tot (.o (.bld d nm zs ps) :: gs) σ = bnd (bnd (fills σ (viCells σ.h (σ.n + nm) zs).1 ps) fun cs => some ⟨upd σ.s d (.agg cs), (viCells σ.h (σ.n + nm) zs).2, σ.n, σ.base⟩) (steps E tot gs) := (rfl)
theorem st_bsl (xs : List Opd) : steps E tot (.o (.bsl d nm ty n xs) :: gs) σ = bnd (bnd (clRows σ n xs) fun rows => some ⟨upd σ.s d (.ref ty (σ.n + nm) 0 rows.length rows.length true), frz (upd σ.h (σ.n + nm) (some ⟨ty, rows, true, false⟩)) (nmRows σ xs), σ.n, σ.base⟩) (steps E tot gs) := (rfl)
theorem st_st (p x : Opd) : steps E tot (.o (.st n p x) :: gs) σ = bnd (bnd (storeAt σ.base σ.h (ev σ p) n (ev σ x)) fun h => some ⟨σ.s, h, σ.n, σ.base⟩) (steps E tot gs) := (rfl)
theorem st_stn (p : Opd) : steps E tot (.o (.stn nm ty p) :: gs) σ = bnd (bnd (storeAt σ.base (upd σ.h (σ.n + nm) (some ⟨ty, [], true, false⟩)) (ev σ p) 1 (.ref ty (σ.n + nm) 0 0 0 false)) fun h => some ⟨σ.s, h, σ.n, σ.base⟩) (steps E tot gs) := (rfl)
theorem st_mkf (f : Nat) (caps : List Opd) : steps E tot (.o (.mkf d f caps) :: gs) σ = bnd (if areCaps (evs σ caps) = true then some ⟨upd σ.s d (.fn f (evs σ caps)), σ.h, σ.n, σ.base⟩ else none) (steps E tot gs) := (rfl)
theorem st_mks (zs : List A) (l c : Opd) : steps E tot (.o (.mks d nm ty zs l c) :: gs) σ = bnd (mksA σ d nm ty zs (ev σ l) (ev σ c)) (steps E tot gs) := (rfl)
theorem st_sl (e : Option Nat) (x : Opd) (lo hi mx : Option Opd) : steps E tot (.o (.sl d e x lo hi mx) :: gs) σ = bnd (bnd (sliceA σ e lo hi mx (ev σ x)) fun a => some ⟨upd σ.s d a, σ.h, σ.n, σ.base⟩) (steps E tot gs) := (rfl)
theorem st_call (dd : Option Nat) (w f : Nat) (xs : List Opd) : steps E tot (.o (.call dd nm w f xs) :: gs) σ = bnd (doCall E σ dd nm w f (evs σ xs)) (steps E tot gs) := (rfl)
theorem st_callv (dd : Option Nat) (w : Nat) (f : Opd) (xs : List Opd) : steps E tot (.o (.callv dd nm w f xs) :: gs) σ = bnd (bnd (fnA (ev σ f)) fun p => doCall E σ dd nm w p.1 (evs σ xs ++ p.2)) (steps E tot gs) := (rfl)
theorem st_dcall (dd : Option Nat) (f : Nat) (xs : List Opd) : steps E tot (.o (.dcall dd f xs) :: gs) σ = bnd (doDc E tot σ dd f (evs σ xs)) (steps E tot gs) := (rfl)
theorem st_dcallv (dd : Option Nat) (f : Opd) (xs : List Opd) : steps E tot (.o (.dcallv dd f xs) :: gs) σ = bnd (bnd (fnA (ev σ f)) fun p => doDc E tot σ dd p.1 (evs σ xs ++ p.2)) (steps E tot gs) := (rfl)
theorem st_app (e : Nat) (s x : Opd) : steps E tot (.o (.app d nm e s x) :: gs) σ = bnd (bnd (rowsOf e σ.h (ev σ x)) fun ys => appA σ d nm e ys (ev σ s)) (steps E tot gs) := (rfl)
theorem st_clr (e : Nat) (zs : List A) (x : Opd) : steps E tot (.o (.clr e zs x) :: gs) σ = bnd (clrA σ e zs (ev σ x)) (steps E tot gs) := (rfl)
theorem sg_call (sl ww : Nat) (w : Bool) (dd : Option Nat) (f : Nat) (xs : List Opd) : steps E tot (.g sl w (.call dd nm ww f xs) :: gs) σ = bnd (testA w (σ.s sl)) fun t => bnd (underS t σ dd (bnd (bnd (bnd (xs.mapM fun x => evp t σ x) (clVals σ.h)) (E.call f)) plainR) (bnd (doCall E (strip σ) dd nm ww f (evs (strip σ) xs)) (back σ dd))) (steps E tot gs) := by
  simp only [steps, stepG, AOp.yields, AOp.dst, valOp, bnd_bnd, test]; rfl
theorem sg_bld0 (sl : Nat) (w : Bool) (zs : List A) : steps E tot (.g sl w (.bld d nm zs []) :: gs) σ = bnd (testA w (σ.s sl)) fun t => bnd (underS t σ (some d) (if hasLits zs then none else some (.agg zs)) (bnd (step E tot (.bld d nm zs []) (strip σ)) (back σ (some d)))) (steps E tot gs) := by
  simp only [steps, stepG, AOp.yields, AOp.dst, valOp, bnd_bnd, test]
theorem sg_callv (sl ww : Nat) (w : Bool) (dd : Option Nat) (f : Opd) (xs : List Opd) : steps E tot (.g sl w (.callv dd nm ww f xs) :: gs) σ = bnd (testA w (σ.s sl)) fun t => bnd (underS t σ dd none (bnd (bnd (fnA (ev (strip σ) f)) fun p => doCall E (strip σ) dd nm ww p.1 (evs (strip σ) xs ++ p.2)) (back σ dd))) (steps E tot gs) := by
  simp only [steps, stepG, AOp.yields, AOp.dst, valOp, bnd_bnd, test, step]
theorem sg_dcall (sl : Nat) (w : Bool) (dd : Option Nat) (f : Nat) (xs : List Opd) : steps E tot (.g sl w (.dcall dd f xs) :: gs) σ = bnd (testA w (σ.s sl)) fun t => bnd (underS t σ dd none (bnd (doDc E tot (strip σ) dd f (evs (strip σ) xs)) (back σ dd))) (steps E tot gs) := by
  simp only [steps, stepG, AOp.yields, AOp.dst, valOp, bnd_bnd, test, step]
theorem sg_sl (sl : Nat) (w : Bool) (e : Option Nat) (x : Opd) (lo hi mx : Option Opd) : steps E tot (.g sl w (.sl d e x lo hi mx) :: gs) σ = bnd (testA w (σ.s sl)) fun t => bnd (underS t σ (some d) none (bnd (bnd (sliceA (strip σ) e lo hi mx (ev (strip σ) x)) fun a => some ⟨upd (strip σ).s d a, (strip σ).h, (strip σ).n, (strip σ).base⟩) (back σ (some d)))) (steps E tot gs) := by
  simp only [steps, stepG, AOp.yields, AOp.dst, valOp, bnd_bnd, test, step]
theorem st_mkb (zs : List A) (l c : Opd) : steps E tot (.o (.mkb d nm ty zs l c) :: gs) σ = bnd (mkbA σ d nm ty zs (ev σ l) (ev σ c)) (steps E tot gs) := (rfl)
theorem st_bsb (xs : List Opd) : steps E tot (.o (.bsb d nm ty n xs) :: gs) σ = bnd (bnd (rwRows σ n xs) fun rows => some ⟨upd σ.s d (.ref ty (σ.n + nm) 0 rows.length rows.length true), upd σ.h (σ.n + nm) (some ⟨ty, rows, true, true⟩), σ.n, σ.base⟩) (steps E tot gs) := (rfl)
theorem st_apb (e : Nat) (s x : Opd) : steps E tot (.o (.apb d nm e s x) :: gs) σ = bnd (bnd (rowsG true e σ.h (ev σ x)) fun ys => appG true σ d nm e ys (ev σ s)) (steps E tot gs) := (rfl)
theorem st_callx (dd : Option Nat) (w f : Nat) (xs : List Opd) : steps E tot (.o (.callx dd nm w f xs) :: gs) σ = bnd (doCallX E σ dd nm w f (evs σ xs)) (steps E tot gs) := (rfl)
theorem st_dcs (dd : Option Nat) (f : Nat) (xs : List Opd) : steps E tot (.o (.dcs dd f xs) :: gs) σ = bnd (doDcs E tot σ dd f (evs σ xs)) (steps E tot gs) := (rfl)
theorem st_bll (xs : List Opd) : steps E tot (.o (.bll d ty n xs) :: gs) σ = bnd (bnd (plRows σ n xs) fun rows => some ⟨upd σ.s d (.lit ty rows), σ.h, σ.n, σ.base⟩) (steps E tot gs) := (rfl)
theorem underV_some (t : Bool) (dd : Option Nat) (a : A) : underV t σ dd (some a) = some ⟨put σ.s dd (.ifg t a), σ.h, σ.n, σ.base⟩ := (rfl)
theorem underV_none (t : Bool) (dd : Option Nat) : underV t σ dd none = bif t then none else some ⟨put σ.s dd .und, σ.h, σ.n, σ.base⟩ := (rfl)
theorem underS_some (t : Bool) (dd : Option Nat) (a : A) (k : Option St) : underS t σ dd (some a) k = some ⟨put σ.s dd (.ifg t a), σ.h, σ.n, σ.base⟩ := (rfl)
theorem underS_none (t : Bool) (dd : Option Nat) (k : Option St) : underS t σ dd none k = bif t then k else some ⟨put σ.s dd .und, σ.h, σ.n, σ.base⟩ := (rfl)
theorem ev_t (k : Nat) : ev σ (.t k) = σ.s k := (rfl)
theorem ev_k (a : A) : ev σ (.k a) = a := (rfl)
theorem evp_k (t : Bool) (x : Value) : evp t σ (.k (.v x)) = some (.v x) := (rfl)
theorem evp_t (t : Bool) (k : Nat) : evp t σ (.t k) = opA t (σ.s k) := (rfl)
theorem evq_k (t x : Bool) : evq t σ (.k (.v (.bool x))) = some x := (rfl)
theorem evq_t (t : Bool) (k : Nat) : evq t σ (.t k) = opQ t (σ.s k) := (rfl)
end
section
variable (t g : Bool) (a : A) (x : Value) (q : Bool)
theorem opA_ifg : opA t (.ifg g a) = if imp t g then some a else none := (rfl)
theorem opA_v : opA t (.v x) = some (.v x) := (rfl)
theorem opA_agg (cs : List A) : opA t (.agg cs) = some (.agg cs) := (rfl)
theorem opA_ptr (b i j : Nat) : opA t (.ptr b i j) = some (.ptr b i j) := (rfl)
theorem opA_pl (r : List A) (j : Nat) : opA t (.pl r j) = some (.pl r j) := (rfl)
theorem opA_lit (ty : Nat) (r : List (List A)) : opA t (.lit ty r) = some (.lit ty r) := (rfl)
theorem opA_ref (ty b o l c : Nat) (e : Bool) : opA t (.ref ty b o l c e) = some (.ref ty b o l c e) := (rfl)
theorem opA_fn (f : Nat) (c : List A) : opA t (.fn f c) = some (.fn f c) := (rfl)
theorem opA_und : opA t .und = some .und := (rfl)
theorem unA_und (op : UnOp) : unA op .und = none := (rfl)
theorem binA_undl (op : BinOp) (y : A) : binA op .und y = none := (rfl)
theorem binA_undr (op : BinOp) : binA op (.v x) .und = none := (rfl)
theorem opA_tup (c : List A) : opA t (.tup c) = some (.tup c) := (rfl)
theorem opQ_ifg : opQ t (.ifg g (.v (.bool q))) = if imp t g then some q else none := (rfl)
theorem opQ_q : opQ t (.v (.bool q)) = some q := (rfl)
theorem opQ_und : opQ t .und = if t then none else some false := (rfl)
theorem testA_qt : testA true (.v (.bool q)) = some q := (rfl)
theorem testA_qf : testA false (.v (.bool q)) = some (!q) := (rfl)
theorem testA_ift : testA true (.ifg g (.v (.bool q))) = some (g && q) := (rfl)
theorem testA_iff : testA false (.ifg g (.v (.bool q))) = some (g && !q) := (rfl)
theorem testA_und (w : Bool) : testA w .und = some false := (rfl)
variable (k : IntKind) (m n : Int) (u w : ByteArray) (p : Bool)
theorem bin_add : binA .add (.v (.int k m)) (.v (.int k n)) = some (.v (.int k (k.wrap (m + n)))) := by simp [binA, binV, binI, bnd]
theorem bin_sub : binA .sub (.v (.int k m)) (.v (.int k n)) = some (.v (.int k (k.wrap (m - n)))) := by simp [binA, binV, binI, bnd]
theorem bin_mul : binA .mul (.v (.int k m)) (.v (.int k n)) = some (.v (.int k (k.wrap (m * n)))) := by simp [binA, binV, binI, bnd]
theorem bin_quo : binA .quo (.v (.int k m)) (.v (.int k n)) = if n = 0 then none else some (.v (.int k (k.wrap (m.tdiv n)))) := by simp [binA, binV, binI]; split <;> rfl
theorem bin_rem : binA .rem (.v (.int k m)) (.v (.int k n)) = if n = 0 then none else some (.v (.int k (m.tmod n))) := by simp [binA, binV, binI]; split <;> rfl
theorem bin_xor : binA .xor (.v (.int k m)) (.v (.int k n)) = some (.v (.int k (k.wrap (BitVec.ofInt k.bits m ^^^ BitVec.ofInt k.bits n).toNat))) := by simp [binA, binV, binI, bnd]
theorem bin_eql : binA .eql (.v (.int k m)) (.v (.int k n)) = some (.v (.bool (decide (m = n)))) := by simp [binA, binV, binI, bnd]
theorem bin_neq : binA .neq (.v (.int k m)) (.v (.int k n)) = some (.v (.bool (!decide (m = n)))) := by simp [binA, binV, binI, bnd]
theorem bin_lss : binA .lss (.v (.int k m)) (.v (.int k n)) = some (.v (.bool (decide (m < n)))) := by simp [binA, binV, binI, bnd]
theorem bin_leq : binA .leq (.v (.int k m)) (.v (.int k n)) = some (.v (.bool (decide (m ≤ n)))) := by simp [binA, binV, binI, bnd]
theorem bin_gtr : binA .gtr (.v (.int k m)) (.v (.int k n)) = some (.v (.bool (decide (n < m)))) := by simp [binA, binV, binI, bnd]
theorem bin_geq : binA .geq (.v (.int k m)) (.v (.int k n)) = some (.v (.bool (decide (n ≤ m)))) := by simp [binA, binV, binI, bnd]
theorem bin_sadd : binA .add (.v (.string u)) (.v (.string w)) = if u.size + w.size ≤ 2 ^ 62 then some (.v (.string (u ++ w))) else none := by simp [binA, binV, binS]; split <;> rfl
theorem bin_seql : binA .eql (.v (.string u)) (.v (.string w)) = some (.v (.bool (decide (u = w)))) := (rfl)
theorem bin_sneq : binA .neq (.v (.string u)) (.v (.string w)) = some (.v (.bool (!decide (u = w)))) := (rfl)
theorem bin_slss : binA .lss (.v (.string u)) (.v (.string w)) = some (.v (.bool (bytesLt u.toList w.toList))) := (rfl)
theorem beqA_q (ng : Bool) : beqA ng (.v (.bool q)) (.v (.bool p)) = some (.v (.bool (bif ng then !decide (q = p) else decide (q = p)))) := (rfl)
theorem eqCell_int : eqCell 0 (.v (.int k m)) (.v (.int k n)) = some (decide (m = n)) := by simp [eqCell]
theorem eqCell_str : eqCell 1 (.v (.string u)) (.v (.string w)) = some (decide (u = w)) := (rfl)
theorem eqCell_bool : eqCell 2 (.v (.bool q)) (.v (.bool p)) = some (decide (q = p)) := (rfl)
theorem un_not : unA .not (.v (.bool q)) = some (.v (.bool (!q))) := (rfl)
theorem un_neg : unA .neg (.v (.int k m)) = some (.v (.int k (k.wrap (0 - m)))) := (rfl)
theorem mnx_max (w : Bool) : mnxA w (.v (.int k m)) (.v (.int k n)) = some (.v (.int k (bif w then max m n else min m n))) := by simp [mnxA]
end
theorem chk_call (E : Env) (N : List Nat) : (chk E N).call = E.call := (rfl)
theorem chk_dc (E : Env) (N : List Nat) (f : Nat) (as : List A) (h : Hp) (n : Nat) {r : List A × Hp × Nat} (e : E.dc f as h n = some r) (hk : keptBy N h r.2.1) : (chk E N).dc f as h n = some r := by
  simp only [chk, e, bnd_some]
  rw [if_pos hk]
attribute [go_sem] st_bll plRows isV chk_call keepNames keepIn
attribute [go_sem] st_mkb st_bsb st_apb st_callx st_dcs rowsG appG mkbA rwRows doCallX doDcs clDVs clDs clDV clD clDRows
attribute [go_sem] st_nil st_mv sg_mv st_pick sg_pick st_ld sg_ld st_bin sg_bin st_eqs sg_eqs st_un sg_un st_cv sg_cv st_cbs sg_cbs st_fa sg_fa st_fld sg_fld st_ia sg_ia st_ix sg_ix st_ex sg_ex st_len sg_len st_mnx sg_mnx st_nl sg_nl st_mvn st_al st_box st_bld st_bsl st_st st_stn st_mkf st_mks st_sl st_call st_callv st_dcall st_dcallv st_app st_clr sg_call sg_callv sg_dcall sg_sl sg_bld0 underV_some underV_none underS_some underS_none ev_t ev_k evp_k evp_t evq_k evq_t opA_ifg opA_v opA_agg opA_ptr opA_pl opA_lit opA_ref opA_fn opA_und unA_und binA_undl binA_undr opA_tup opQ_ifg opQ_q opQ_und testA_qt testA_qf testA_ift testA_iff testA_und
attribute [go_sem] bin_add bin_sub bin_mul bin_quo bin_rem bin_xor bin_eql bin_neq bin_lss bin_leq bin_gtr bin_geq bin_sadd bin_seql bin_sneq bin_slss beqA_q st_beq sg_beq eqCell_int eqCell_str eqCell_bool un_not un_neg mnx_max eqsA cvA faA fldA iaA ixA exA lenA isQ nlA plainR plain segA val eqCells
attribute [go_sem] imp_total imp_and_right imp_and_left imp_false imp_true imp_to_true
attribute [go_sem] imp_self
attribute [go_sem] bnd_some bnd_none bnd_cond seqO_none seqO_norm seqO_exit seqO_ret seqO_cond blO_none blO_norm blO_exit blO_ret blO_cond endO_none endO_norm endO_ret endO_cond nrm_none nrm_some nrm_cond
attribute [go_sem] isCap areCaps strip back unT upd_apply low_zero exec slots put evs fnA sliceA appA clrA mksA aft natA optI doCall doDc res resD resVals resVal rsVals rsVal rsCell rsCells A.cells seg
attribute [go_sem] clVals clVal clCell clCells clPtr clPtrs clRows nmRows anySl hasSl hasSls notV rowSl rowsSl hasLit hasLits laVals laVal laCells pack olits olitsV olitsAll Nat.not_lt_zero Nat.lt_irrefl
attribute [go_sem] rowAt rowsOf storeAt storeRow isCell areCells viCells fills setSeg nmFars nmFar frz nmCells nmCell nmVals nmVal nmPtrs nmPtr
attribute [go_sem] canon canonOf nmAnyRows closed sepV seps nmX List.all_cons List.all_nil List.contains_cons List.contains_nil reach namesOf addAll nmAny nmAnys nmIn nmIns below belows nw posn ren rens ren1 ren1s renBlk heapOf slotsOf
attribute [go_sem] ite_true ite_false if_true if_false Bool.and_true Bool.true_and Bool.and_false Bool.false_and Bool.or_true Bool.true_or Bool.or_false Bool.false_or Bool.not_true Bool.not_false cond_true cond_false Bool.not_not
attribute [go_sem] List.length_cons List.length_nil List.take_succ_cons List.take_zero List.drop_succ_cons List.drop_zero List.take_nil List.drop_nil List.getD_cons_zero List.getD_cons_succ List.getElem?_cons_zero List.getElem?_cons_succ List.headD_cons List.map_cons List.map_nil List.mapM_cons List.mapM_nil List.nil_append List.cons_append List.append_nil List.set_cons_zero List.set_cons_succ List.mem_cons List.not_mem_nil List.length_set
attribute [go_sem] Bool.cond_true_left Bool.cond_false_right Bool.cond_false_left Bool.cond_true_right beq_self_eq_true decide_true decide_false decide_eq_true_eq not_false_eq_true and_self or_false false_or and_true true_and or_true true_or and_false false_and Nat.zero_add Nat.add_zero Bool.not_eq_true' Bool.false_eq_true not_true_eq_false
attribute [go_sem] Int.ofNat_lt Int.ofNat_le Int.natCast_nonneg Int.toNat_natCast Option.pure_def Option.bind_eq_bind Option.bind_some
end Go.Vm
attribute [go_sem] Nat.reduceEqDiff Nat.reduceAdd reduceIte reduceCtorEq Nat.reduceLeDiff Nat.reduceLT
attribute [go_sem] Nat.succ_ne_zero


end
