/-
  Walks by hand beside the abstract machine; loops; the lemmas that compute
-/
import Derived.Test.YtcceojmajfinpaaGreatDoorVmC
import Derived.Laws.Cover3
import Derived.Lib.Atoi
import Derived.Carry
import Derived.Deep.LoopGhost
import Derived.WideLaws
import Derived.Lib.AppendZerosOnto
import Derived.Laws.IdiomCopy
import Derived.Test.YtcceojmajfinpaaGreatDoorVmA
import Derived.Attr
section
set_option linter.unusedVariables false
set_option linter.unusedSectionVars false
set_option linter.unusedSimpArgs false
set_option linter.unusedVariables false
set_option linter.unusedSimpArgs false
namespace Go.Vm
open Go.RowKit
variable {P : Program} {ρ ρ' ρ'' : Rho} {S S' S'' : Nat → Prop} {w w' w'' : World} {B N : Nat} {h : Hp}
theorem Ze {p : Prog} {d f : Nat} {as : List A} {fn : AFn} (h1 : p.ext f = none) (h2 : p.fn f = some fn) : den p (d + 1) f as = endO (exec ⟨den p d, dcl p d, dfl p d⟩ fn.code ⟨slots as, fun _ => none, 0, 0⟩) (res fn.res) := by
 simp only [den, h1, h2]
theorem Z3w {p : Prog} {d f : Nat} {as : List A} {fn : AFn} {h : Hp} {n : Nat} (h1 : p.ins f = none) (h0 : p.hx f = none) (h2 : p.dfn f = some fn) : dcl p (d + 1) f as h n = endO (exec ⟨den p d, dcl p d, dfl p d⟩ fn.code ⟨slots as, h, n, n⟩) (resD fn.res) := by
 simp only [dcl, h1, h0, h2]
theorem Zzm {p : Prog} {d f e : Nat} {as : List A} {h : Hp} {n : Nat} (h1 : p.ins f = some e) : dcl p (d + 1) f as h n = insF e as h n := by
 simp only [dcl, h1]
theorem Z7g {p : Prog} {d f : Nat} {as : List A} {F : List A → Option (List A)} (h1 : p.ext f = some F) : den p (d + 1) f as = F as := by
 simp only [den, h1]
def Z5f (e : Nat) : List A → Option (List A)
 | [.lit ty rows] => if ty = e ∧ rows.length ≤ big then some [.olit e rows] else none
 | _ => none
def cl0 (e : Nat) : ACode := .rg 1 false [.o (.mvn 2 0 e)]
def clT (e : Nat) : ACode := .sq (.rg 1 false [.o (.mvn 2 0 e)]) .rt
def clR (e n : Nat) : ACode := .sq (.rg 2 false [.o (.bsl 5 0 e n []), .o (.mv 6 (.t 0)), .o (.app 7 1 e (.t 5) (.t 6)), .o (.mv 2 (.t 7))]) .rt
def Zor (P : Program) (e : Nat) (ops : Array Oper) : Bool :=
 match ops.toList with
 | [o1, o2] => (match o1.op with | .move (.tmp 0) => true | _ => false) && o1.guard.isNone && decide (o1.dst = some 3) &&
  (match o2.op with | .binOp .eql t (.tmp 3) (.const (.slice none 0 0)) _ => Z4s P t e | _ => false) && o2.guard.isNone && decide (o2.dst = some 4)
 | _ => false
def Zbx (P : Program) (f e : Nat) : Bool :=
 match P.funcs[f]? with
 | some F => (match F.body with
   | some (.seq r0 (.seq (.seq (.region _ ops false) (.cond (.tmp 4) thn .skip)) rest)) =>
     Zy P F.ntmps (cl0 e) r0 && Zor P e ops && Zy P F.ntmps (clT e) thn && Zy P F.ntmps (clR e (P.cellsOf e)) rest
   | _ => false) && Z6i P F.results.toList [.t 2] && (F.name != "runtime.NumGoroutine") && decide (8 ≤ F.ntmps) && decide (0 < P.cellsOf e)
 | none => false
def E0 : Env := ⟨fun _ _ => none, fun _ _ _ _ => none, fun _ _ _ _ => none⟩
theorem Y3z : EnvOk P E0 := ⟨fun f S w as rs xs e => (by cases e), fun f as rs e => (by cases e), fun f ρ S w B as xs h n rs h' n' e => (by cases e), fun f as h n r e => (by cases e), fun f ρ S w B as xs h n rs h' n' e => (by cases e), fun f as h n r e => (by cases e)⟩
theorem Zyi : Z1f E0 := ⟨fun f as h n rs h' n' e => (by cases e), fun f as h n rs h' n' e => (by cases e)⟩
theorem SW.put {σ : St} {a : Act} {d : Nat} {u : A} {v : Value} (T : SW P ρ S B N σ a w) (r : R P ρ S w u v) (hd : d < N) : SW P ρ S B N { σ with s := upd σ.s d u } (a.put (some d) v) w := by
 obtain ⟨ρ1, S1, M, T1, _, _⟩ := Fin'.SW (d := some d) (v := v) (σ' := { σ with s := upd σ.s d u }) (iv := fun _ => False) (D := false) T ⟨u, rfl, ρ, S, Mv.refl _ _ _ _ _, T.heap, r, .inl ⟨rfl, .inl rfl⟩⟩ (by simp [Zwi, hd])
 exact ⟨fun t => by
  simp only [Z7, Act.put]
  by_cases ht : t = d
  · subst ht
    have hlt : t < a.tmps.size := Nat.lt_of_lt_of_le hd T.size
    simp [hlt]
    exact r
  · rw [if_neg ht]
    have : (a.tmps.setIfInBounds d v).getD t undef = a.tmps.getD t undef := by
     simp [Array.getD_eq_getD_getElem?, Array.getElem?_setIfInBounds_ne (fun q : d = t => ht q.symm)]
    rw [this]
    exact T.slot t, by simpa [Act.put] using T.size, T.defers, T.heap, T.le⟩
theorem Zx9 (e : Nat) (σ : St) : exec E0 (clT e) σ = some (.ret ⟨upd σ.s 2 (.ref e (σ.n + 0) 0 0 0 false), upd σ.h (σ.n + 0) (some ⟨e, [], true, false⟩), σ.n + 1, σ.base⟩) := rfl
theorem Zxi {e n : Nat} {rows : List (List A)} (hbig : rows.length ≤ big) {σ : St} (h0 : σ.s 0 = .lit e rows) :
 ∃ σ', exec E0 (clR e n) σ = some (.ret σ') ∧ σ'.s 2 = .ref e (σ.n + 1) 0 rows.length rows.length false ∧ σ'.h (σ.n + 1) = some ⟨e, rows, true, false⟩ := by
 obtain ⟨s, h, m, bs⟩ := σ
 simp only at h0
 have key : exec E0 (clR e n) ⟨s, h, m, bs⟩ = some (.ret ⟨upd (upd (upd (upd s 5 (.ref e m 0 0 0 true)) 6 (.lit e rows)) 7 (.ref e (m + 1) 0 rows.length rows.length false)) 2 (.ref e (m + 1) 0 rows.length rows.length false), upd (upd (upd h m (some ⟨e, [], true, false⟩)) m none) (m + 1) (some ⟨e, rows, true, false⟩), m + 2, bs⟩) := by
  simp only [clR, exec, Za, Yc, step, Z3c, bnd, ev, Z7, h0, Z0r, AOp.yields, Zu, put, Xb, frz, appA, if_true]
  simp [Z7, hbig, seqO, nrm, bnd, h0]
 exact ⟨_, key, by simp [Z7], by simp [Z7]⟩
theorem Zob {h : Hp} {e b : Nat} {rows : List (List A)} (hb : h b = some ⟨e, rows, true, false⟩) : Z6v h [] [.ref e b 0 rows.length rows.length false] = some [.olit e rows] := by
 simp [Z6v, Zvt, Z3s, hb, bnd]
theorem Zkj {ops : Array Oper} {Q : Exit → Act → World → Prop} {i : Nat} {rest : List Nat} {o : Oper} {a : Act} (hi : ops[i]? = some o) (hg : o.guard = none) (h : o.wp P a w (wpOps P ops Q rest) Q) : wpOps P ops Q (i :: rest) a w := by
 rw [wpOps_cons]
 unfold wpOp
 rw [hi]
 have hw : Region.wanted o (yielded ops a.tmps) = true := by unfold Region.wanted; rw [hg]
 simp only [hw, if_true]
 exact .inl h
theorem Zse {ty : Nat} {rows : List (List A)} {v : Value} (hpos : 0 < P.cellsOf ty) (r : R P ρ S w (.lit ty rows) v) : ∃ a cap, v = .slice a rows.length cap ∧ (a = none → rows = []) := by
 cases r with
 | lit ty rows a cap Y hcap hl hc hr =>
   refine ⟨a, cap, rfl, fun ha => ?_⟩
   cases rows with
   | nil => rfl
   | cons row rows =>
     have h1 := (hl 0 row rfl).1
     cases row with
     | nil => simp at h1; omega
     | cons c cs =>
       obtain ⟨k, off, e1, _⟩ := hc 0 _ 0 c rfl rfl
       rw [ha] at e1; cases e1
theorem Z4j {f e : Nat} (ok : Zbx P f e = true) (hm : P.follows .mixedOrders = true) : Z5i P (Z5f e) f ∧ Z6k P f := by
 unfold Zbx at ok
 split at ok
 · rename_i F hF
   simp only [Bool.and_eq_true, decide_eq_true_eq] at ok
   obtain ⟨⟨⟨⟨o1, o2⟩, o3⟩, o4⟩, hpos⟩ := ok
   split at o1
   · rename_i r0 rid ops thn rest hbody
     simp only [Bool.and_eq_true] at o1
     obtain ⟨⟨⟨k0, k1⟩, kT⟩, kR⟩ := o1
     refine ⟨fun S w as rs xs he hS hG r => ?_, F, hF, by simpa using o3, by rw [hbody]; rfl⟩
     unfold Z5f at he
     split at he
     · rename_i ty rows
       split at he
       · rename_i hc
         obtain ⟨rfl, hbig⟩ := hc
         simp only [Option.some.injEq] at he
         subst he
         obtain ⟨x, xs', rfl, rx, rt⟩ := r.inv_cons
         have hx' := rt.inv_nil
         subst hx'
         have harg := Zse hpos rx
         obtain ⟨a, cap, rfl, hnil⟩ := harg
         refine calls_of_wp hF hbody ?_
         have H0 : HR P Yg S w w.heap.size (fun _ => none) := HR.empty hS hG
         have T0 : SW P Yg S w.heap.size F.ntmps ⟨slots [.lit ty rows], fun _ => none, 0, 0⟩ { tmps := [Value.slice a rows.length cap].toArray ++ Array.replicate (F.ntmps - [Value.slice a rows.length cap].toArray.size) undef, defers := [] } w :=
          ⟨fun t => Zns (.cons rx .nil) _ t, by simp; omega, rfl, H0, Nat.le_refl _⟩
         have lo0 : Lo 0 (fun _ => none) := fun b hb => by omega
         have fin : ∀ (c : ACode) (x : Code), Zy P F.ntmps c x = true → ∀ (ρ1 : Rho) (S1 : Nat → Prop) (σ1 : St) (a1 : Act) (w1 : World) (σ2 : St) (q : Nat), MvX 0 w.heap.size Yg S w ρ1 S1 w1 → SW P ρ1 S1 w.heap.size F.ntmps σ1 a1 w1 → (∀ b, σ1.n ≤ b → ρ1 b = none) → σ1.base = 0 →
          exec E0 c σ1 = some (.ret σ2) → Z6v σ2.h [] [σ2.s 2] = some [.olit ty rows] → x.wp P (fun ex a w0 => ex = .ret ∧ bodyPost P F (fun | .returned v, w' => Res P S w [.olit ty rows] v w' | _, _ => False) ex a w0) a1 w1 := by
          intro c x okc ρ1 S1 σ1 a1 w1 σ2 q M1 T1 f1 b1 he hrs
          have lo1 : Lo σ1.base σ1.h := by rw [b1]; exact fun b hb => by omega
          refine wp_mono (Z67 Y3z Zyi hm c x okc ρ1 S1 σ1 a1 w1 _ he T1 f1 (by omega) lo1) (fun ex a2 w2 p => ?_)
          obtain ⟨ρ2, S2, M2, T2, f2⟩ := p.ex
          rw [b1] at M2
          have hsame := p.same
          cases ex <;> simp only [Zr] at hsame
          obtain ⟨us, hrun, hus⟩ := Z72 T2.heap rfl T2.slot (F := F) (rv := [.t 2]) (as := [σ2.s 2]) o2 rfl
          have M := M1.trans M2
          exact ⟨rfl, T2.defers, _, hrun, Z78 rfl T2.heap hus hrs M.sub M.back M.below M.ext⟩
         refine wp_seq ?_
         have e0 : exec E0 (cl0 ty) ⟨slots [.lit ty rows], fun _ => none, 0, 0⟩ = some (.norm ⟨upd (slots [.lit ty rows]) 2 (.ref ty 0 0 0 0 false), upd (fun _ => none) 0 (some ⟨ty, [], true, false⟩), 1, 0⟩) := rfl
         refine wp_mono (Z67 Y3z Zyi hm (cl0 ty) r0 k0 Yg S _ _ w _ e0 T0 (fun b _ => rfl) (Nat.le_refl _) lo0) (fun ex a1 w1 p => ?_)
         obtain ⟨ρ1, S1, M1, T1, f1⟩ := p.ex
         have hsame := p.same
         cases ex <;> simp only [Zr] at hsame
         simp only [Exit.then]
         simp only [Out.st] at T1 f1
         refine wp_seq (wp_seq ?_)
         unfold Zor at k1
         split at k1
         · rename_i p1 p2 hops
           simp only [Bool.and_eq_true, decide_eq_true_eq, Option.isNone_iff_eq_none] at k1
           obtain ⟨⟨⟨⟨⟨q1, q2⟩, q3⟩, q4⟩, q5⟩, q6⟩ := k1
           have hops' : ops = #[p1, p2] := by have := congrArg List.toArray hops; simpa using this
           have r0' : R P ρ1 S1 w1 (.lit ty rows) (a1.tmps.getD 0 undef) := T1.slot 0
           have hval := Zse hpos r0'
           obtain ⟨a', cap', hv0, hnil'⟩ := hval
           have hN : F.ntmps ≤ a1.tmps.size := T1.size
           have step : (Code.region rid ops false).wp P (fun ex a2 w2 => ex = .normal ∧ w2 = w1 ∧ SW P ρ1 S1 w.heap.size F.ntmps ⟨upd (upd (upd (slots [.lit ty rows]) 2 (.ref ty 0 0 0 0 false)) 3 (.lit ty rows)) 4 (.v (.bool a'.isNone)), upd (fun _ => none) 0 (some ⟨ty, [], true, false⟩), 1, 0⟩ a2 w1) a1 w1 := by
            refine wp_region ?_
            rw [hops']
            show wpOps P #[p1, p2] _ [0, 1] a1 w1
            refine Zkj (o := p1) rfl q2 ?_
            split at q1
            · rename_i ho1
              have hrun : (execOp a1.eval p1).run P w1 = .ok (.value (.slice a' rows.length cap')) w1 := by
               have : a1.eval (.tmp 0) = .slice a' rows.length cap' := hv0
               simp [execOp, ho1, this]
              refine Yv hrun ?_
              rw [q3]
              have T2 := T1.put (d := 3) (u := .lit ty rows) (v := .slice a' rows.length cap') (by have := T1.slot 0; rw [hv0] at this; exact this) (by omega)
              refine Zkj (o := p2) rfl q5 ?_
              split at q4
              · rename_i t yt ho2
                have hu := Yw q4
                have hx3 : (a1.put (some 3) (.slice a' rows.length cap')).eval (.tmp 3) = .slice a' rows.length cap' := by
                 have h3 : 3 < a1.tmps.size := by omega
                 simp [Act.eval, Act.put, h3]
                have hk : (a1.put (some 3) (.slice a' rows.length cap')).eval (.const (.slice none 0 0)) = .slice none 0 0 := rfl
                have hrun2 : (execOp (a1.put (some 3) (.slice a' rows.length cap')).eval p2).run P w1 = .ok (.value (.bool a'.isNone)) w1 := by
                 have hq := run_equal_slice_nil (P := P) w1 t ty a' rows.length cap' hu
                 simp only [execOp, ho2, hx3, hk, Sem.run_bind]
                 have hg : (eqGuard .eql t (.tmp 3) (.const (.slice none 0 0)) (.slice a' rows.length cap') (.slice none 0 0)).run P w1 = .ok () w1 := by
                  simp [eqGuard]
                 rw [hg]
                 simp only [Result.andThen_ok, binOp, Sem.run_bind, hq]
                 rfl
                refine Yv hrun2 ?_
                rw [q6]
                exact ⟨rfl, rfl, T2.put (d := 4) (u := .v (.bool a'.isNone)) (.v _ rfl) (by omega)⟩
              · cases q4
            · cases q1
           refine wp_mono step (fun ex a2 w2 hp => ?_)
           obtain ⟨rfl, rfl, T2⟩ := hp
           simp only [Exit.then]
           have hc4 : a2.eval (.tmp 4) = .bool a'.isNone := (R.v_inv (T2.slot 4)).1
           refine wp_cond hc4 ?_
           have f2 : ∀ b, 1 ≤ b → ρ1 b = none := f1
           cases ha' : a'.isNone with
           | true =>
             have hrows : rows = [] := hnil' (by simpa using ha')
             subst hrows
             rw [ha'] at T2
             simp only [if_true]
             refine wp_mono (fin (clT ty) thn kT ρ1 S1 _ a2 w2 _ 0 M1 T2 f2 rfl (Zx9 ty _) (Zob (rows := []) (by simp [Z7]))) (fun ex a3 w3 hq => ?_)
             obtain ⟨rfl, hq⟩ := hq
             exact hq
           | false =>
             rw [ha'] at T2
             simp only [Bool.false_eq_true, if_false]
             refine wp_skip ?_
             simp only [Exit.then]
             obtain ⟨σ', g1, g2, g3⟩ := Zxi (e := ty) (n := P.cellsOf ty) hbig (σ := ⟨upd (upd (upd (slots [.lit ty rows]) 2 (.ref ty 0 0 0 0 false)) 3 (.lit ty rows)) 4 (.v (.bool false)), upd (fun _ => none) 0 (some ⟨ty, [], true, false⟩), 1, 0⟩) (by simp [Z7, slots])
             exact wp_mono (fin (clR ty (P.cellsOf ty)) rest kR ρ1 S1 _ a2 w2 σ' 0 M1 T2 f2 rfl g1 (by rw [g2]; exact Zob g3)) (fun ex a3 w3 hq => hq.2)
         · cases k1
       · cases he
     · cases he
   · cases o1
 · cases ok
end Go.Vm
set_option linter.unusedVariables false
set_option linter.unusedSimpArgs false
namespace Go.Vm
open Go.RowKit
variable {P : Program} {S : Nat → Prop} {w w' : World}
theorem Zcj (hS : ∀ k, S k → k < w.heap.size) (hb : Below w.heap.size w w') : Ext S w w' :=
 ⟨fun k hk => hb.block k (hS k hk), fun k c t e => ⟨c, by rw [hb.block k (Z1k e)]; exact e, rfl⟩, fun k es cl e => by rw [hb.block k (Z1k e)]; exact e⟩
theorem Zrh {a : A} {v : Value} (hS : ∀ k, S k → k < w.heap.size) (hG : GlobOk P S w) (hb : Below w.heap.size w w') (hl : ∀ n, Z1x noHp n a = (a, noHp)) (r : R P Yg S w' a v) : Res P S w [a] v w' := by
 have hE := Zcj hS hb
 refine ⟨S, fun _ h => h, fun _ h => .inl h, hb, hE, fun n => ⟨Yg, fun _ _ => rfl, ?_, ?_⟩⟩
 · have : (Zz noHp n [a]).2 = noHp := by simp [Zz, hl]
   rw [this]
   exact ⟨fun b blk e => (by cases e), fun b b' k sz sz' blk blk' e => (by cases e), fun k hk => Nat.lt_of_lt_of_le (hS k hk) hb.size, hG.mono (fun _ h => h) hE⟩
 · have : (Zz noHp n [a]).1 = [a] := by simp [Zz, hl]
   rw [this]
   exact r
def Z64 (n : Int) : ByteArray := ⟨(Lib.itoa n).toArray⟩
def Zpq : List A → Option (List A)
 | [.v (.int .i64 n)] => if -9223372036854775808 ≤ n ∧ n ≤ 9223372036854775807 then some [.s (Z64 n)] else none
 | _ => none
def Zit : List A → Option (List A)
 | [.v (.string t)] => if t.size ≤ 18 then (match Lib.atoi t.data.toList with | some n => some [.v (.int .i64 n), .v .nilIface] | none => some [.v (.int .i64 0), .err]) else none
 | _ => none
def numT (t : ByteArray) : Int × Int := match Lib.atoi t.data.toList with
 | some n => if -999 ≤ n ∧ n ≤ 999 ∧ Lib.itoa n = t.data.toList then (1, n) else (0, 0)
 | none => (0, 0)
def numF : List A → Option (List A)
 | [.v (.string t)] => if t.size ≤ 18 then some [.agg [.n (numT t).1, .n (numT t).2, .s ⟨#[]⟩]] else none
 | _ => none
end Go.Vm
set_option linter.unusedVariables false
set_option linter.unusedSimpArgs false
namespace Go.Vm
open Go.RowKit
variable {P : Program} {ρ ρ' ρ'' : Rho} {S S' S'' : Nat → Prop} {w w' w'' : World} {B N : Nat} {h : Hp}
structure Ext0 (S S' : Nat → Prop) (w w' : World) : Prop where
 same : ∀ k, S k → S' k ∧ w'.heap[k]? = w.heap[k]? ∨ ∃ es cl, w.heap[k]? = some (Obj.map es cl)
 size : ∀ (k : Nat) (c : Array Value) (t : TypeId), w.heap[k]? = some (Obj.cells c t (0, 0)) → ∃ c' : Array Value, w'.heap[k]? = some (Obj.cells c' t (0, 0)) ∧ c'.size = c.size
theorem Zp7 {k o : Nat} {es : Array MapEntry} {cl : Nat} (h : w.heap[k]? = some (Obj.map es cl)) : w.cell? ⟨k, o, none⟩ = none := by
 simp [World.cell?, h]
theorem R.mono0 {a : A} {x : Value} (r : R P ρ S w a x) : ∀ {S' : Nat → Prop} {w' : World}, Ext0 S S' w w' → R P ρ S' w' a x := by
 induction r with
 | bad x => exact fun _ => .bad x
 | err tp x => exact fun _ => .err tp x
 | und => exact fun _ => .und
 | v x h => exact fun _ => .v x h
 | lit ty rows a cap Y hcap hl hc hr ih =>
   intro S' w' E
   refine .lit ty rows a cap Y hcap hl (fun i row j x h1 h2 => ?_) (fun i row j x h1 h2 => ih i row j x h1 h2 E)
   obtain ⟨k, off, e, hk, hcell⟩ := hc i row j x h1 h2
   rcases E.same k hk with ⟨h', hs⟩ | ⟨es, cl, hm⟩
   · exact ⟨k, off, e, h', by rw [← hcell]; exact World.cell?_of_block hs⟩
   · rw [Zp7 hm] at hcell; cases hcell
 | ref ty b off len cap ex k sz c a hb hty hcap hex ha hlen hk =>
   intro S' w' E
   obtain ⟨cs, t, e, hs⟩ := hk
   obtain ⟨c', e', s'⟩ := E.size k cs t e
   exact .ref ty b off len cap ex k sz c a hb hty hcap hex ha hlen ⟨c', t, e', by omega⟩
 | nil ty b ex hb => exact fun _ => .nil ty b ex hb
 | ptr b i j k sz hb => exact fun _ => .ptr b i j k sz hb
 | pl row j k o Y hk hc hr ih =>
   intro S' w' E
   by_cases hn : row = []
   · subst hn
     exact .pl [] j k o Y (fun h => absurd rfl h) (fun i x h => by simp at h) (fun i x h => by simp at h)
   · obtain ⟨x0, hx0⟩ : ∃ x, row[0]? = some x := by
      cases row with
      | nil => exact absurd rfl hn
      | cons y ys => exact ⟨y, rfl⟩
     rcases E.same k (hk hn) with ⟨h', hs⟩ | ⟨es, cl, hm⟩
     · exact .pl row j k o Y (fun _ => h') (fun i x h => by rw [← hc i x h]; exact World.cell?_of_block hs) (fun i x h => ih i x h E)
     · have := hc 0 x0 hx0
       rw [Zp7 hm] at this; cases this
 | fn f caps vs hp hl hr ih => exact fun E => .fn f caps vs hp hl (fun i x y h1 h2 => ih i x y h1 h2 E)
 | agg cs vs hl hr ih => exact fun E => .agg cs vs hl (fun i x y h1 h2 => ih i x y h1 h2 E)
 | tup cs vs hl hr ih => exact fun E => .tup cs vs hl (fun i x y h1 h2 => ih i x y h1 h2 E)
 | ifT a x h ih => exact fun E => .ifT a x (ih E)
 | ifF a => exact fun _ => .ifF a
theorem HR.mono0 (H : HR P ρ S w B h) (E : Ext0 S S' w w') (hsub : ∀ k, S' k → S k) (hs : w.heap.size ≤ w'.heap.size) (hG : GlobOk P S' w')
 (hsame : ∀ b blk k sz, h b = some blk → ρ b = some (some (k, sz)) → w'.heap[k]? = w.heap[k]?) : HR P ρ S' w' B h := by
 refine ⟨fun b blk e => ?_, H.inj, fun k hk => Nat.lt_of_lt_of_le (H.old k (hsub k hk)) hs, hG⟩
 rcases H.at_ b blk e with ⟨k, sz, hb, hB⟩ | hv
 · refine .inl ⟨k, sz, hb, ⟨hB.sz_eq, hB.base, fun ho hk => hB.own ho (hsub k hk), fun ho => ?_, hB.rows, ?_⟩⟩
   · rcases E.same k (hB.not_own ho) with ⟨h', _⟩ | ⟨es, cl, hm⟩
     · exact h'
     · obtain ⟨c, hc, _⟩ := hB.heap
       rw [hm] at hc; cases hc
   · obtain ⟨c, hc, hsz, hcell⟩ := hB.heap
     exact ⟨c, (hsame b blk k sz e hb).trans hc, hsz, fun i row j x h1 h2 => by
      obtain ⟨y, hy, hr⟩ := hcell i row j x h1 h2
      exact ⟨y, hy, hr.mono0 E⟩⟩
 · exact .inr hv
structure MapTo (w w' : World) (km : Nat) (es' : Array MapEntry) (cl' : Nat) : Prop where
 size : w'.heap.size = w.heap.size
 other : ∀ i, i ≠ km → w'.heap[i]? = w.heap[i]?
 was : ∃ es cl, w.heap[km]? = some (Obj.map es cl)
 here : w'.heap[km]? = some (Obj.map es' cl')
 os : w'.os = w.os
 tape : w'.tape = w.tape
 output : w'.output = w.output
theorem MapTo.glob {km : Nat} {es' : Array MapEntry} {cl' : Nat} (M : MapTo w w' km es' cl') (G : GlobOk P S w) : GlobOk P (fun k => S k ∧ k ≠ km) w' := by
 have hv : ∀ nm ∈ gNames, ∀ (xs : Array Value), w.var? P nm = some xs → w'.var? P nm = some xs ∧ ∀ g, P.globalNamed nm = some g → g ≠ km := fun nm hm xs h => by
  unfold World.var? at h ⊢
  cases hg : P.globalNamed nm with
  | none => rw [hg] at h; cases h
  | some g =>
    rw [hg] at h
    simp only [Option.bind_some] at h ⊢
    have hne : g ≠ km := fun q => by
     subst q
     obtain ⟨es, cl, hw⟩ := M.was
     rw [hw] at h; cases h
    rw [M.other g hne]
    exact ⟨h, fun g' hg' => by cases hg'; exact hne⟩
 have hsome : ∀ nm g, P.globalNamed nm = some g → (P.globalNamed nm).isSome = true := fun nm g h => by rw [h]; rfl
 refine ⟨fun nm hm g hg => ⟨G.fast nm hm g hg, ?_⟩, fun q => ?_, fun q => ?_, fun q => ?_⟩
 · simp only [gNames, List.mem_cons, List.mem_nil_iff, or_false] at hm
   rcases hm with rfl | rfl | rfl
   · exact (hv _ (by simp [gNames]) _ (G.pow (hsome _ g hg))).2 g hg
   · obtain ⟨tp, p, h⟩ := G.syn (hsome _ g hg)
     exact (hv _ (by simp [gNames]) _ h).2 g hg
   · obtain ⟨tp, p, h⟩ := G.rng (hsome _ g hg)
     exact (hv _ (by simp [gNames]) _ h).2 g hg
 · exact (hv _ (by simp [gNames]) _ (G.pow q)).1
 · obtain ⟨tp, p, h⟩ := G.syn q
   exact ⟨tp, p, (hv _ (by simp [gNames]) _ h).1⟩
 · obtain ⟨tp, p, h⟩ := G.rng q
   exact ⟨tp, p, (hv _ (by simp [gNames]) _ h).1⟩
theorem MapTo.ext0 {km : Nat} {es' : Array MapEntry} {cl' : Nat} (M : MapTo w w' km es' cl') : Ext0 S (fun k => S k ∧ k ≠ km) w w' :=
 ⟨fun k hk => by
  by_cases hkm : k = km
  · subst hkm; exact .inr M.was
  · exact .inl ⟨⟨hk, hkm⟩, M.other k hkm⟩, fun k c t e => by
  by_cases hkm : k = km
  · subst hkm; obtain ⟨es, cl, hm⟩ := M.was; rw [hm] at e; cases e
  · exact ⟨c, by rw [M.other k hkm]; exact e, rfl⟩⟩
theorem SW.map {σ : St} {a : Act} {km : Nat} {es' : Array MapEntry} {cl' : Nat} (T : SW P ρ S B N σ a w) (M : MapTo w w' km es' cl') : SW P ρ (fun k => S k ∧ k ≠ km) B N σ a w' :=
 ⟨fun t => (T.slot t).mono0 M.ext0, T.size, T.defers, T.heap.mono0 M.ext0 (fun _ h => h.1) (by rw [M.size]; exact Nat.le_refl _) (M.glob T.heap.glob) (fun b blk k sz e hb => by
  refine M.other k (fun hk => ?_)
  subst hk
  obtain ⟨c, hc, _⟩ := (T.heap.at_of e hb).heap
  obtain ⟨es, cl, hm⟩ := M.was
  rw [hm] at hc; cases hc), by rw [M.size]; exact T.le⟩
theorem SW.thin {σ : St} {a : Act} {km : Nat} {es : Array MapEntry} {cl : Nat} (T : SW P ρ S B N σ a w) (hm : w.heap[km]? = some (Obj.map es cl)) : SW P ρ (fun k => S k ∧ k ≠ km) B N σ a w :=
 T.map ⟨rfl, fun _ _ => rfl, ⟨es, cl, hm⟩, hm, rfl, rfl, rfl⟩
end Go.Vm
set_option linter.unusedVariables false
set_option linter.unusedSimpArgs false
namespace Go.Vm
open Go.RowKit
variable {P : Program} {ρ ρ' ρ'' : Rho} {S S' S'' : Nat → Prop} {w w' w'' : World} {B N : Nat} {h : Hp} {E : Env} {tot : Nat}
structure MvY (B : Nat) (ρ : Rho) (w : World) (ρ' : Rho) (w' : World) : Prop where
 new : ∀ b, ρ b = none → ρ' b = none
 below : Below B w w'
theorem MvY.refl : MvY B ρ w ρ w := ⟨fun _ h => h, Below.refl _ _⟩
theorem MvY.trans (a : MvY B ρ w ρ' w') (b : MvY B ρ' w' ρ'' w'') : MvY B ρ w ρ'' w'' := ⟨fun x h => b.new x (a.new x h), a.below.trans b.below⟩
structure MapAt (km : Nat) (es : Array MapEntry) (cl : Nat) (S : Nat → Prop) (w : World) : Prop where
 free : ¬ S km
 here : w.heap[km]? = some (Obj.map es cl)
end Go.Vm
set_option linter.unusedVariables false
set_option linter.unusedSimpArgs false
namespace Go.Vm
open Go.RowKit
variable {P : Program} {ρ : Rho} {S : Nat → Prop} {w : World} {B N tot : Nat} {E : Env}
abbrev keyV (vs : List Value) : Value := .agg vs.toArray
structure SetT (P : Program) (tm tk tb : Nat) (ks : List Nat) : Prop where
 und : P.underlying tm = some (.map tk tb)
 eqt : eqT P 8 tk = some ks
 agg : aggT P tk = true
 kst : ∃ fs, P.underlying tk = some (.struct fs)
 chk : ∀ (b : Bool) (w : World) (vs : List Value), vs.length = ks.length → (Instr.checkKey b 10000 tk (keyV vs)).run P w = .ok () w
 zero : ∀ w, (zeroValue tb).run P w = .ok (.bool false) w
def Zao (ks : List Nat) (a b : List Value) : Option Bool := Yu ks (a.map A.v) (b.map A.v)
theorem Zig (vs : List Value) : StandAt (vs.map A.v) vs.toArray 0 := by
 intro i a ha
 rw [List.getElem?_map] at ha
 cases hv : vs[i]? with
 | none => rw [hv] at ha; cases ha
 | some v =>
   rw [hv] at ha
   simp only [Option.map_some, Option.some.injEq] at ha
   refine ⟨v, by simpa using hv, fun u hu => ?_⟩
   rw [← ha] at hu
   cases hu; rfl
theorem Zsn {tk : Nat} {ks : List Nat} (ht : eqT P 8 tk = some ks) (hg : aggT P tk = true) {a b : List Value} {q : Bool} (e : Zao ks a b = some q) : (Op.equal tk (keyV a) (keyV b)).run P w = .ok q w := by
 have hlen := Z32 e
 obtain ⟨va, vb, _, _, hE, hagg⟩ := Zlh (P := P) (w := w) 8 9992 ht e (Zig a) (Zig b)
 obtain ⟨ea, eb⟩ := hagg hg
 have full : ∀ (vs : List Value), vs.length = ks.length → vs.toArray.extract 0 (0 + ks.length) = vs.toArray := by
  intro vs h
  rw [Nat.zero_add, ← h]
  simp
 rw [full a (by simpa using hlen.1)] at ea
 rw [full b (by simpa using hlen.2)] at eb
 subst ea eb
 exact hE
structure Holds (ks : List Nat) (es : List MapEntry) (keys : List (List Value)) : Prop where
 len : es.length = keys.length
 at_ : ∀ (i : Nat) (e : MapEntry) (k : List Value), es[i]? = some e → keys[i]? = some k → e.key = keyV k ∧ e.val = .bool true
def Z5c (ks : List Nat) (k : List Value) : List (List Value) → Nat → Option (Option Nat)
 | [], _ => some none
 | x :: xs, i => match Zao ks k x with
   | some true => some (some i)
   | some false => Z5c ks k xs (i + 1)
   | none => none
theorem Z6o {tk : Nat} {ks : List Nat} (ht : eqT P 8 tk = some ks) (hg : aggT P tk = true) (k : List Value) : ∀ (es : List MapEntry) (keys : List (List Value)) (i : Nat) (r : Option Nat), Holds ks es keys → Z5c ks k keys i = some r →
 (Instr.findAsking tk (keyV k) es i).run P w = .ok (r.map fun j => (j, Value.bool true)) w
 | [], keys, i, r, h, e => by
   have : keys = [] := List.eq_nil_of_length_eq_zero (by have := h.len; simpa using this.symm)
   subst this
   simp only [Z5c, Option.some.injEq] at e
   subst e
   rfl
 | e0 :: es, [], i, r, h, e => by have := h.len; simp at this
 | e0 :: es, x :: xs, i, r, h, e => by
   have h0 := h.at_ 0 e0 x rfl rfl
   have ht' : Holds ks es xs := ⟨by have := h.len; simpa using this, fun j e k h1 h2 => h.at_ (j + 1) e k (by simpa using h1) (by simpa using h2)⟩
   unfold Z5c at e
   cases hq : Zao ks k x with
   | none => rw [hq] at e; cases e
   | some q =>
     rw [hq] at e
     have hr := Zsn (P := P) (w := w) ht hg hq
     rw [← h0.1] at hr
     unfold Instr.findAsking
     simp only [Sem.run_bind, hr, Result.andThen_ok]
     cases q with
     | true =>
       simp only [Option.some.injEq] at e
       subst e
       simp [h0.2]
     | false =>
       simp only at e
       have := Z6o ht hg k es xs (i + 1) r ht' e
       simpa using this
theorem Z6y {tm tk tb : Nat} {ks : List Nat} (T : SetT P tm tk tb ks) (k : List Value) {es : List MapEntry} {keys : List (List Value)} {r : Option Nat} (h : Holds ks es keys) (e : Z5c ks k keys 0 = some r) :
 (Instr.findKey tk (keyV k) es).run P w = .ok (r.map fun j => (j, Value.bool true)) w := by
 obtain ⟨fs, hfs⟩ := T.kst
 unfold Instr.findKey
 simp only [Sem.run_bind, run_underlying hfs, Result.andThen_ok]
 cases es with
 | nil =>
   have hk : keys = [] := List.eq_nil_of_length_eq_zero (by have := h.len; simpa using this.symm)
   subst hk
   simp only [Z5c, Option.some.injEq] at e
   subst e
   rfl
 | cons e0 es =>
   have hn : Instr.findNow (.struct fs) (keyV k) (e0 :: es) 0 = none := by
    unfold Instr.findNow
    have : Instr.sameNow (.struct fs) (keyV k) e0.key = none := by unfold Instr.sameNow; rfl
    rw [this]
   simp only [hn]
   exact Z6o T.eqt T.agg k _ _ 0 r h e
theorem Zpc {tm tk tb : Nat} {ks : List Nat} (T : SetT P tm tk tb ks) {km cl : Nat} {es : Array MapEntry} (hw : w.heap[km]? = some (Obj.map es cl)) (k : List Value) (hk : k.length = ks.length) {keys : List (List Value)} {r : Option Nat} (h : Holds ks es.toList keys) (e : Z5c ks k keys 0 = some r) :
 (Instr.lookup tm (.map (some km)) (keyV k) false).run P w = .ok (.bool r.isSome) w := by
 have hg : (getObj km).run P w = .ok (Obj.map es cl) w := by simp [getObj, Sem.run, hw]
 unfold Instr.lookup
 simp only [Sem.run_bind, run_underlying T.und, Result.andThen_ok, hg, Sem.run_pure, T.chk _ _ k hk, Z6y T k h e]
 cases r with
 | none => simp [T.zero]
 | some j => simp
def Zeq (ks : List Nat) (keys : List (List Value)) (k : List Value) : List (List Value) := match Z5c ks k keys 0 with
 | some none => keys ++ [k]
 | _ => keys
theorem Zq0 (m : ByteArray) : (m == m) = true := by
 first
 | exact beq_self_eq_true m
 | exact decide_eq_true rfl
 | (show (m.data == m.data) = true; simp)
theorem Zlo {k : Nat} {x y : Value} (e : Z0a k (.v x) (.v y) = some true) : x = y ∧ ∀ n, Instr.sameBits n y y = true := by
 match k with
 | 0 =>
   obtain ⟨j, m, n, h1, h2, h3⟩ := Zrg e
   cases h1; cases h2
   have : m = n := by simpa using h3.symm
   subst this
   exact ⟨rfl, fun q => by cases q <;> simp [Instr.sameBits]⟩
 | 1 =>
   obtain ⟨m, n, h1, h2, h3⟩ := Ztm e
   cases h1; cases h2
   have : m = n := by simpa using h3.symm
   subst this
   exact ⟨rfl, fun q => by cases q <;> exact Zq0 m⟩
 | 2 =>
   obtain ⟨m, n, h1, h2, h3⟩ := Zsy e
   cases h1; cases h2
   have : m = n := by simpa using h3.symm
   subst this
   exact ⟨rfl, fun q => by cases q <;> simp [Instr.sameBits]⟩
 | k + 3 => simp [Z0a] at e
theorem Zev : ∀ {ks : List Nat} {a b : List Value}, Zao ks a b = some true → a = b ∧ ∀ n, ∀ x ∈ b, Instr.sameBits n x x = true
 | [], a, b, e => by
   cases a <;> cases b <;> simp [Zao, Yu] at e
   exact ⟨rfl, fun n x hx => by simp at hx⟩
 | k :: ks, a, b, e => by
   cases a with
   | nil => cases b <;> simp [Zao, Yu] at e
   | cons x xs =>
     cases b with
     | nil => simp [Zao, Yu] at e
     | cons y ys =>
       unfold Zao at e
       simp only [List.map_cons, Yu] at e
       obtain ⟨p, h1, e1⟩ := Z3 e
       obtain ⟨q, h2, e2⟩ := Z3 e1
       simp only [Option.some.injEq, Bool.and_eq_true] at e2
       obtain ⟨rfl, rfl⟩ := e2
       obtain ⟨rfl, hs⟩ := Zlo h1
       obtain ⟨rfl, ht⟩ := Zev (ks := ks) (a := xs) (b := ys) h2
       refine ⟨rfl, fun n z hz => ?_⟩
       rcases List.mem_cons.1 hz with rfl | hz
       · exact hs n
       · exact ht n z hz
theorem Zxh (k : List Value) (h : ∀ n, ∀ x ∈ k, Instr.sameBits n x x = true) : Instr.sameBits 10000 (keyV k) (keyV k) = true := by
 have hz : ∀ (l : List Value), (∀ x ∈ l, Instr.sameBits 9999 x x = true) → ((l.zip l).all fun (x, y) => Instr.sameBits 9999 x y) = true := by
  intro l hl
  induction l with
  | nil => rfl
  | cons x l ih =>
    simp only [List.zip_cons_cons, List.all_cons, Bool.and_eq_true]
    exact ⟨hl x (by simp), ih (fun y hy => hl y (by simp [hy]))⟩
 show (k.toArray.size == k.toArray.size && (k.toArray.toList.zip k.toArray.toList).all fun (x, y) => Instr.sameBits 9999 x y) = true
 simp only [beq_self_eq_true, Bool.true_and]
 exact hz k (h 9999)
theorem Zeu {ks : List Nat} {k : List Value} : ∀ {keys : List (List Value)} {i j : Nat}, Z5c ks k keys i = some (some j) → ∃ x, i ≤ j ∧ keys[j - i]? = some x ∧ Zao ks k x = some true
 | [], i, j, e => by simp [Z5c] at e
 | x :: xs, i, j, e => by
   unfold Z5c at e
   cases hq : Zao ks k x with
   | none => rw [hq] at e; cases e
   | some q =>
     rw [hq] at e
     cases q with
     | true =>
       simp only [Option.some.injEq] at e
       subst e
       exact ⟨x, Nat.le_refl _, by simp, hq⟩
     | false =>
       simp only at e
       obtain ⟨y, h1, h2, h3⟩ := Zeu e
       exact ⟨y, by omega, by rw [show j - i = (j - (i + 1)) + 1 by omega]; simpa using h2, h3⟩
def setB (w : World) (km : Nat) (o : Obj) : World := { w with heap := w.heap.setIfInBounds km o }
theorem Zky {km cl cl' : Nat} {es es' : Array MapEntry} (hw : w.heap[km]? = some (Obj.map es cl)) : MapTo w (setB w km (Obj.map es' cl')) km es' cl' :=
 ⟨by simp [setB], fun i hi => by simp [setB, Array.getElem?_setIfInBounds_ne (fun q : km = i => hi q.symm)], ⟨es, cl, hw⟩, by
  have hlt := Z1k hw
  simp [setB, hlt], rfl, rfl, rfl⟩
theorem Zqd {tm tk tb : Nat} {ks : List Nat} (T : SetT P tm tk tb ks) {km cl : Nat} {es : Array MapEntry} (hw : w.heap[km]? = some (Obj.map es cl)) (k : List Value) (hk : k.length = ks.length) {keys : List (List Value)} {r : Option Nat} (h : Holds ks es.toList keys) (e : Z5c ks k keys 0 = some r) :
 ∃ w' es' cl', (Instr.mapUpdate tm (.map (some km)) (keyV k) (.bool true)).run P w = .ok () w' ∧ MapTo w w' km es' cl' ∧ Holds ks es'.toList (Zeq ks keys k) := by
 have hg : (getObj km).run P w = .ok (Obj.map es cl) w := by simp [getObj, Sem.run, hw]
 have hs : ∀ o, (setObj km o).run P w = .ok () (setB w km o) := fun o => by
  simp only [setObj, Sem.run, hw]
  rfl
 cases r with
 | none =>
   refine ⟨_, es.push { key := keyV k, val := .bool true, born := cl }, cl + 1, ?_, Zky hw, ?_⟩
   · unfold Instr.mapUpdate
     simp only [Sem.run_bind, run_underlying T.und, Result.andThen_ok, hg, T.chk _ _ k hk, Z6y T k h e, Option.map_none]
     exact hs _
   · unfold Zeq
     rw [e]
     refine ⟨by simp [h.len], fun i e' k' h1 h2 => ?_⟩
     simp only [Array.toList_push] at h1
     by_cases hi : i < keys.length
     · rw [List.getElem?_append_left (by rw [h.len]; exact hi)] at h1
       rw [List.getElem?_append_left hi] at h2
       exact h.at_ i e' k' h1 h2
     · rw [List.getElem?_append_right (by rw [h.len]; omega), h.len] at h1
       rw [List.getElem?_append_right (by omega)] at h2
       have hz : i - keys.length = 0 := by
        rcases Nat.eq_zero_or_pos (i - keys.length) with q | q
        · exact q
        · rw [List.getElem?_eq_none (by simp; omega)] at h1; cases h1
       rw [hz] at h1 h2
       simp only [List.getElem?_cons_zero, Option.some.injEq] at h1 h2
       subst h1; subst h2
       exact ⟨rfl, rfl⟩
 | some j =>
   obtain ⟨x, _, hx, hq⟩ := Zeu e
   rw [Nat.sub_zero] at hx
   obtain ⟨rfl, hbits⟩ := Zev hq
   have hjl : j < es.size := by
    have := (List.getElem?_eq_some_iff.1 hx).1
    have := h.len
    simp at this
    omega
   have hej : es.toList[j]? = some es[j] := by simp [Array.getElem?_eq_getElem hjl]
   have hold := h.at_ j es[j] k hej hx
   have hkt : (Instr.keyThatStays (((es[j]?).map (·.key)).getD (keyV k)) (keyV k)).run P w = .ok (keyV k) w := by
    rw [Array.getElem?_eq_getElem hjl]
    simp only [Option.map_some, Option.getD_some, hold.1]
    unfold Instr.keyThatStays
    rw [Zxh k hbits]
    rfl
   refine ⟨_, es.modify j fun e => { e with key := keyV k, val := .bool true }, cl, ?_, Zky hw, ?_⟩
   · unfold Instr.mapUpdate
     simp only [Sem.run_bind, run_underlying T.und, Result.andThen_ok, hg, T.chk _ _ k hk, Z6y T k h e, Option.map_some, hkt]
     exact hs _
   · unfold Zeq
     rw [e]
     simp only
     refine ⟨by simpa using h.len, fun i e' k' h1 h2 => ?_⟩
     rw [Array.getElem?_toList, Array.getElem?_modify] at h1
     by_cases hij : j = i
     · subst hij
       simp only [if_true] at h1
       rw [Array.getElem?_eq_getElem hjl] at h1
       simp only [Option.map_some, Option.some.injEq] at h1
       subst h1
       rw [hx] at h2
       simp only [Option.some.injEq] at h2
       subst h2
       exact ⟨rfl, rfl⟩
     · rw [if_neg hij] at h1
       exact h.at_ i e' k' (by simpa using h1) h2
end Go.Vm
set_option linter.unusedVariables false
set_option linter.unusedSimpArgs false
namespace Go.Vm
open Go.RowKit
variable {P : Program} {ρ : Rho} {S : Nat → Prop} {w : World} {B N tot : Nat} {E : Env}
theorem Zyl {k : List Value} {x : Value} (r : R P ρ S w (.agg (k.map A.v)) x) : x = keyV k := by
 cases r with
 | agg cs vs hl hr =>
   congr 2
   refine List.ext_getElem? (fun i => ?_)
   by_cases hi : i < k.length
   · have h1 : (k.map A.v)[i]? = some (.v k[i]) := by simp [List.getElem?_map, List.getElem?_eq_getElem hi]
     have hlt : i < vs.length := by rw [hl]; simpa using hi
     have := hr i _ _ h1 (List.getElem?_eq_getElem hlt)
     rw [List.getElem?_eq_getElem hlt, List.getElem?_eq_getElem hi, (R.v_inv this).1]
   · rw [List.getElem?_eq_none (by rw [hl]; simpa using hi), List.getElem?_eq_none (by omega)]
theorem Zy8 {km : Nat} {x : Value} (r : R P ρ S w (.v (.map (some km))) x) : x = .map (some km) := (R.v_inv r).1
theorem Zpr {tm tk tb : Nat} {ks : List Nat} (T0 : SetT P tm tk tb ks) {ops : Array Oper} {i : Nat} {o : Oper} {d m kx j slot : Nat} (hi : ops[i]? = some o) (ho : o.op = .lookup tm (.tmp m) (.tmp kx) false) (hd : o.dst = some d) (hdN : d < N) (hg : o.guard = some (j, true)) (hs : (ops[j]?).bind (·.dst) = some slot)
 {σ : St} {a : Act} (T : SW P ρ S B N σ a w) {km cl : Nat} {es : Array MapEntry} (J : MapAt km es cl S w) {k : List Value} (hk : k.length = ks.length) {keys : List (List Value)} {r : Option Nat} (h : Holds ks es.toList keys) (e : Z5c ks k keys 0 = some r)
 {t : Bool} (ht : test σ slot true = some t) (hm : t = true → unT (σ.s m) = .v (.map (some km))) (hkx : t = true → unT (σ.s kx) = .agg (k.map A.v)) {Q : Exit → Act → World → Prop} {K : Act → World → Prop}
 (q : ∀ a1, SW P ρ S B N { σ with s := upd σ.s d (.ifg t (.q r.isSome)) } a1 w → K a1 w) : wpOp P ops Q i K a w := by
 have hw := Zbr T hg rfl hs ht
 unfold wpOp
 rw [hi]
 simp only [hw]
 cases t with
 | false =>
   simp only [Bool.false_eq_true, if_false]
   rw [hd]
   exact q _ (SW.put T (.ifF _) hdN)
 | true =>
   simp only [if_true]
   refine .inl ?_
   have r1 := Zxm (T.slot m)
   rw [hm rfl] at r1
   have r2 := Zxm (T.slot kx)
   rw [hkx rfl] at r2
   have e1 : a.eval (.tmp m) = .map (some km) := Zy8 r1
   have e2 : a.eval (.tmp kx) = keyV k := Zyl r2
   have hrun : (execOp a.eval o).run P w = .ok (.value (.bool r.isSome)) w := by
    simp only [execOp, ho, e1, e2, Sem.run_bind, Zpc T0 J.here k hk h e, Result.andThen_ok]
    rfl
   refine Yv hrun ?_
   rw [hd]
   exact q _ (SW.put T (.ifT _ _ (.v _ rfl)) hdN)
theorem Zwn {tm : Nat} {ops : Array Oper} {i : Nat} {o : Oper} {d : Nat} (hi : ops[i]? = some o) (ho : o.op = .makeMap tm none) (hd : o.dst = some d) (hdN : d < N) (hg : o.guard = none)
 {σ : St} {a : Act} (T : SW P ρ S B N σ a w) {Q : Exit → Act → World → Prop} {K : Act → World → Prop} (ks : List Nat)
 (q : ∀ a1 w1, Below B w w1 → MapAt w.heap.size #[] 0 S w1 → SW P ρ S B N { σ with s := upd σ.s d (.v (.map (some w.heap.size))) } a1 w1 → K a1 w1) : wpOp P ops Q i K a w := by
 unfold wpOp
 rw [hi]
 have hw : Region.wanted o (yielded ops a.tmps) = true := by unfold Region.wanted; rw [hg]
 simp only [hw, if_true]
 refine .inl ?_
 have hrun : (execOp a.eval o).run P w = .ok (.value (.map (some w.heap.size))) (w.alloc (.map #[] 0)) := by
  simp only [execOp, ho, Option.map_none, Sem.run_bind, run_makeMap, Result.andThen_ok]
  rfl
 refine Yv hrun ?_
 rw [hd]
 have hext : Ext S w (w.alloc (.map #[] 0)) := ⟨fun k hk => Below.heap_alloc w _ k (T.heap.old k hk), fun k c t e => ⟨c, by rw [Below.heap_alloc w _ k (Z1k e)]; exact e, rfl⟩, fun k es cl e => by rw [Below.heap_alloc w _ k (Z1k e)]; exact e⟩
 have T1 : SW P ρ S B N σ a (w.alloc (.map #[] 0)) := ⟨fun t => (T.slot t).mono (fun _ _ h => h) (fun _ h => h) hext, T.size, T.defers, T.heap.mono (fun _ _ h => h) hext (by simp) (fun b blk k sz e hb => Below.heap_alloc w _ k (T.heap.lt e hb)), Nat.le_trans T.le (by simp)⟩
 exact q _ _ ((Below.refl B w).alloc T.le _) ⟨fun hh => absurd (T.heap.old _ hh) (Nat.lt_irrefl _), Z3e w _⟩ (SW.put T1 (.v _ rfl) hdN)
end Go.Vm
set_option linter.unusedVariables false
set_option linter.unusedSimpArgs false
namespace Go.Vm
open Go.RowKit
variable {P : Program} {ρ : Rho} {S : Nat → Prop} {w : World} {B N tot : Nat} {E : Env}
def Zap (P : Program) (N : Nat) (ops : Array Oper) : Nat → List G → Bool
 | _, [] => true
 | k, g :: rest => (match ops[k]? with | some o => okG P N ops o g | none => false) && (g.op.names.2 == 0) && !g.op.isD && Zap P N ops (k + 1) rest
theorem Zoe {ops : Array Oper} : ∀ {gs : List G} {k : Nat}, Zap P N ops k gs = true → ∀ (i : Nat) (g : G), gs[i]? = some g → (∃ o, ops[k + i]? = some o ∧ okG P N ops o g = true) ∧ ∀ n b, ¬ lays tot n g.op b
 | [], k, _, i, g, h => by simp at h
 | g0 :: rest, k, ok, i, g, h => by
   simp only [Zap, Bool.and_eq_true, beq_iff_eq, Bool.not_eq_true'] at ok
   obtain ⟨⟨⟨h1, h2⟩, h3⟩, h4⟩ := ok
   cases i with
   | zero =>
     simp at h
     subst h
     refine ⟨?_, fun n b => ?_⟩
     · split at h1
       · rename_i o ho
         exact ⟨o, ho, h1⟩
       · cases h1
     · unfold lays span
       rw [h3, h2]
       simp
   | succ i =>
     have := Zoe h4 i g (by simpa using h)
     rw [show k + 1 + i = k + (i + 1) by omega] at this
     exact this
theorem Zem {rs : List A} {v : Value} {w' : World} (hS : ∀ k, S k → k < w.heap.size) (hG : GlobOk P S w) (hb : Below w.heap.size w w') (hl : ∀ n, Zz noHp n rs = (rs, noHp)) (r : R P Yg S w' (pack rs) v) : Res P S w rs v w' := by
 have hE := Zcj hS hb
 refine ⟨S, fun _ h => h, fun _ h => .inl h, hb, hE, fun n => ⟨Yg, fun _ _ => rfl, ?_, ?_⟩⟩
 · rw [hl]
   exact ⟨fun b blk e => (by cases e), fun b b' k sz sz' blk blk' e => (by cases e), fun k hk => Nat.lt_of_lt_of_le (hS k hk) hb.size, hG.mono (fun _ h => h) hE⟩
 · rw [hl]
   exact r
theorem Y07 {ops : Array Oper} {i : Nat} {o : Oper} {d : Nat} {u : A} {v : Value} {σ : St} {a : Act} (hi : ops[i]? = some o) (hg : o.guard = none) (hd : o.dst = some d) (hdN : d < N) (T : SW P ρ S B N σ a w) (hrun : (execOp a.eval o).run P w = .ok (.value v) w) (r : R P ρ S w u v)
 {Q : Exit → Act → World → Prop} {K : Act → World → Prop} (q : ∀ a1, SW P ρ S B N { σ with s := upd σ.s d u } a1 w → K a1 w) : wpOp P ops Q i K a w := by
 unfold wpOp
 rw [hi]
 have hw : Region.wanted o (yielded ops a.tmps) = true := by unfold Region.wanted; rw [hg]
 simp only [hw, if_true]
 refine .inl (Yv hrun ?_)
 rw [hd]
 exact q _ (SW.put T r hdN)
def seqL : Code → Code | .seq x _ => x | c => c
def seqR : Code → Code | .seq _ y => y | c => c
def Vy : Code → Array Oper | .region _ ops _ => ops | _ => #[]
def conT : Code → Code | .cond _ x _ => x | c => c
def Zyx : Code → Code | .block _ x => x | c => c
def Y3p : Code → Code | .loop x => x | c => c
def Yj (F : Func) : Code := F.body.getD .skip
end Go.Vm
set_option linter.unusedVariables false
set_option linter.unusedSimpArgs false
namespace Go.Vm
open Go.RowKit
variable {P : Program} {S0 : Nat → Prop} {w0 w w' : World} {N tot : Nat} {E : Env}
structure From (S0 : Nat → Prop) (w0 : World) (S : Nat → Prop) (w : World) : Prop where
 sub : ∀ k, S0 k → S k
 back : ∀ k, S k → S0 k ∨ w0.heap.size ≤ k
 below : Below w0.heap.size w0 w
 old : ∀ k, S0 k → k < w0.heap.size
abbrev Mp := Option (Nat × Array MapEntry × Nat)
def MpAt (w0 : World) : Mp → (Nat → Prop) → World → Prop
 | none, _, _ => True
 | some (km, es, cl), S, w => MapAt km es cl S w ∧ w0.heap.size ≤ km
structure Hy (P : Program) (S0 : Nat → Prop) (w0 : World) (N : Nat) (mp : Mp) (σ : St) (a : Act) (w : World) : Prop where
 ex : ∃ ρ S, From S0 w0 S w ∧ MpAt w0 mp S w ∧ SW P ρ S w0.heap.size N σ a w ∧ ∀ b, σ.n ≤ b → ρ b = none
 base : σ.base = 0
variable {mp : Mp} {σ : St} {a : Act}
def opAt (ops : Array Oper) (i : Nat) (p : Oper → Bool) : Bool := match ops[i]? with | some o => p o | none => false
theorem Zav {ops : Array Oper} {i : Nat} {p : Oper → Bool} (h : opAt ops i p = true) : ∃ o, ops[i]? = some o ∧ p o = true := by
 unfold opAt at h
 split at h
 · rename_i o ho; exact ⟨o, ho, h⟩
 · cases h
theorem Hy.drop (H : Hy P S0 w0 N mp σ a w) : Hy P S0 w0 N none σ a w := by
 obtain ⟨ρ, S, F, _, T, f⟩ := H.ex
 exact ⟨⟨ρ, S, F, trivial, T, f⟩, H.base⟩
theorem From.step {S S' : Nat → Prop} (F : From S0 w0 S w) (h1 : ∀ k, S k → S' k) (h2 : ∀ k, S' k → S k ∨ w0.heap.size ≤ k) (hb : Below w0.heap.size w w') : From S0 w0 S' w' :=
 ⟨fun k h => h1 k (F.sub k h), fun k h => by rcases h2 k h with h | h; exact F.back k h; exact .inr h, F.below.trans hb, F.old⟩
theorem From.thin {S : Nat → Prop} {km : Nat} (F : From S0 w0 S w) (h : w0.heap.size ≤ km) : From S0 w0 (fun k => S k ∧ k ≠ km) w :=
 ⟨fun k hk => ⟨F.sub k hk, by have := F.old k hk; omega⟩, fun k hk => F.back k hk.1, F.below, F.old⟩
theorem Hy.step {ρ' : Rho} {S S' : Nat → Prop} {σ' : St} {a' : Act} (F : From S0 w0 S w) (A : MpAt w0 mp S w) (h1 : ∀ k, S k → S' k) (h2 : ∀ k, S' k → S k ∨ w0.heap.size ≤ k) (hb : Below w0.heap.size w w') (he : Ext S w w')
 (T : SW P ρ' S' w0.heap.size N σ' a' w') (f : ∀ b, σ'.n ≤ b → ρ' b = none) (b : σ'.base = 0) : Hy P S0 w0 N mp σ' a' w' := by
 cases mp with
 | none => exact ⟨⟨ρ', S', F.step h1 h2 hb, trivial, T, f⟩, b⟩
 | some m =>
   obtain ⟨km, es, cl⟩ := m
   obtain ⟨A, hk⟩ := A
   have hm := he.maps km es cl A.here
   exact ⟨⟨ρ', _, (F.step h1 h2 hb).thin hk, ⟨⟨fun h => h.2 rfl, hm⟩, hk⟩, T.thin hm, f⟩, b⟩
theorem Hy.code (hE : EnvOk P E) (hS : Z1f E) (hm : P.follows .mixedOrders = true) {c : ACode} {x : Code} (ok : Zy P N c x = true) {out : Out} (e : exec E c σ = some out) (H : Hy P S0 w0 N mp σ a w) (hb : out.st.base = 0)
 {Q : Exit → Act → World → Prop} (k : ∀ ex a' w', Zr out ex → Hy P S0 w0 N mp out.st a' w' → Q ex a' w') : x.wp P Q a w := by
 obtain ⟨ρ, S, F, A, T, f⟩ := H.ex
 have h0 := H.base
 refine wp_mono (Z67 hE hS hm c x ok ρ S σ a w out e T f (by omega) (by rw [h0]; exact fun b hb => by omega)) (fun ex a1 w1 p => ?_)
 obtain ⟨ρ1, S1, M, T1, f1⟩ := p.ex
 exact k ex a1 w1 p.same (Hy.step F A M.sub M.back M.below M.ext T1 f1 hb)
theorem Hy.seg (hE : EnvOk P E) {ops : Array Oper} {Q : Exit → Act → World → Prop} {tail : List Nat} {σf : St} :
 ∀ (gs : List G) (k : Nat) {σ : St} {a : Act} {w : World}, Zap P N ops k gs = true → Hy P S0 w0 N mp σ a w → Za E tot gs σ = some σf → σf.n = σ.n →
  (∀ a' w', Hy P S0 w0 N mp σf a' w' → wpOps P ops Q tail a' w') → wpOps P ops Q (List.range' k gs.length ++ tail) a w := by
 suffices hh : ∀ (gs : List G) (k : Nat) {σ : St} {a : Act} {w : World} (n : Nat), Zap P N ops k gs = true → (∃ ρ S, From S0 w0 S w ∧ MpAt w0 mp S w ∧ SW P ρ S w0.heap.size N σ a w ∧ ∀ b, n ≤ b → ρ b = none) → Za E tot gs σ = some σf → σ.base = 0 → σf.n = n →
  (∀ a' w', Hy P S0 w0 N mp σf a' w' → wpOps P ops Q tail a' w') → wpOps P ops Q (List.range' k gs.length ++ tail) a w from
  fun gs k σ a w ok H e hn q => hh gs k (n := σ.n) ok H.ex e H.base hn q
 intro gs
 induction gs with
 | nil =>
   intro k σ a w n ok H e hb hn q
   simp only [Za, Option.some.injEq] at e
   subst e
   subst hn
   exact q a w ⟨H, hb⟩
 | cons g rest ih =>
   intro k σ a w n ok H e hb hn q
   obtain ⟨ρ, S, F, A, T, f⟩ := H
   obtain ⟨σ1, h1, e1⟩ := Z3 e
   obtain ⟨⟨o, ho, hg⟩, hno⟩ := Zoe ok 0 g rfl
   rw [Nat.add_zero] at ho
   show wpOps P ops Q (List.range' k (rest.length + 1) ++ tail) a w
   rw [List.range'_succ, List.cons_append, wpOps_cons]
   refine Zfs hE ho T hg (fun b hb => absurd hb (hno _ _)) h1 (fun v w1 hf => ?_)
   have hg' := hg
   simp only [okG, Bool.and_eq_true, decide_eq_true_eq] at hg'
   rw [hg'.1.1.2] at *
   have hbase : σ1.base = 0 := by
    obtain ⟨u, hu, _⟩ := hf.ex
    rw [hu]; exact hb
   obtain ⟨ρ1, S1, M, T1, _, _⟩ := hf.SW T hg'.1.2
   have hy : ∃ ρ S, From S0 w0 S w1 ∧ MpAt w0 mp S w1 ∧ SW P ρ S w0.heap.size N σ1 (a.put g.op.dst v) w1 ∧ ∀ b, n ≤ b → ρ b = none := by
    have := Hy.step (σ' := { σ1 with n := n }) (mp := mp) F A M.sub M.back M.below M.ext (P := P) (N := N) (a' := a.put g.op.dst v) (ρ' := ρ1) ⟨T1.slot, T1.size, T1.defers, T1.heap, T1.le⟩ (fun b hb => M.new b (f b hb) (hno _ _)) hbase
    obtain ⟨ρ2, S2, F2, A2, T2, f2⟩ := this.ex
    exact ⟨ρ2, S2, F2, A2, ⟨T2.slot, T2.size, T2.defers, T2.heap, T2.le⟩, f2⟩
   simp only [Zap, Bool.and_eq_true] at ok
   exact ih (k + 1) n ok.2 hy e1 hbase hn q
theorem Hy.hand {ops : Array Oper} {i : Nat} {o : Oper} {d : Nat} {u : A} {v : Value} (hi : ops[i]? = some o) (hg : o.guard = none) (hd : o.dst = some d) (hdN : d < N) (H : Hy P S0 w0 N mp σ a w) (hrun : (execOp a.eval o).run P w = .ok (.value v) w) (r : ∀ ρ S, SW P ρ S w0.heap.size N σ a w → R P ρ S w u v)
 {Q : Exit → Act → World → Prop} {rest : List Nat} (q : ∀ a1, Hy P S0 w0 N mp { σ with s := upd σ.s d u } a1 w → wpOps P ops Q rest a1 w) : wpOps P ops Q (i :: rest) a w := by
 obtain ⟨ρ, S, F, A, T, f⟩ := H.ex
 rw [wpOps_cons]
 exact Y07 hi hg hd hdN T hrun (r ρ S T) (fun a1 T1 => q a1 ⟨⟨ρ, S, F, A, T1, f⟩, H.base⟩)
theorem Hy.bool {t : Nat} {b : Bool} (H : Hy P S0 w0 N mp σ a w) (e : σ.s t = .q b) : a.eval (.tmp t) = .bool b := by
 obtain ⟨ρ, S, F, A, T, f⟩ := H.ex
 have r := T.slot t
 rw [e] at r
 exact (R.v_inv r).1
theorem Hy.neqNil {tI t' : TypeId} (ht : P.underlying tI = some (.interface (P.methodsAt tI))) {ops : Array Oper} {i : Nat} {o : Oper} {d x : Nat} {b : Bool} (hi : ops[i]? = some o) (ho : o.op = .binOp .neq tI (.tmp x) (.const .nilIface) t') (hg : o.guard = none) (hd : o.dst = some d) (hdN : d < N) (H : Hy P S0 w0 N mp σ a w)
 (hx : (σ.s x = .v .nilIface ∧ b = false) ∨ (σ.s x = .err ∧ b = true)) {Q : Exit → Act → World → Prop} {rest : List Nat} (q : ∀ a1, Hy P S0 w0 N mp { σ with s := upd σ.s d (.q b) } a1 w → wpOps P ops Q rest a1 w) : wpOps P ops Q (i :: rest) a w := by
 have hk : a.eval (.const .nilIface) = .nilIface := rfl
 obtain ⟨ρ, S, F, A, T, f⟩ := H.ex
 have r1 := T.slot x
 have hrun : (execOp a.eval o).run P w = .ok (.value (.bool b)) w := by
  rcases hx with ⟨e, rfl⟩ | ⟨e, rfl⟩
  · rw [e] at r1
    have e1 : a.eval (.tmp x) = .nilIface := (R.v_inv r1).1
    simp only [execOp, ho, e1, hk, Sem.run_bind]
    have hgd : (eqGuard .neq tI (.tmp x) (.const .nilIface) .nilIface .nilIface).run P w = .ok () w := by simp [eqGuard]
    rw [hgd]
    simp only [Result.andThen_ok, run_neq_nil_nil w tI ht]
    rfl
  · rw [e] at r1
    obtain ⟨tp, y, e1⟩ : ∃ tp y, a.eval (.tmp x) = .iface tp y := by
     have h2 : a.eval (.tmp x) = a.tmps.getD x undef := rfl
     rw [h2]
     generalize a.tmps.getD x undef = z at r1
     cases r1 with
     | err tp y => exact ⟨tp, y, rfl⟩
    simp only [execOp, ho, e1, hk, Sem.run_bind]
    have hgd : (eqGuard .neq tI (.tmp x) (.const .nilIface) (.iface tp y) .nilIface).run P w = .ok () w := by simp [eqGuard]
    rw [hgd]
    simp only [Result.andThen_ok, run_neq_held_nil w tI tp y ht]
    rfl
 exact H.hand hi hg hd hdN hrun (fun ρ S T => .v _ rfl) q
theorem Hy.make {tm : Nat} {ops : Array Oper} {i : Nat} {o : Oper} {d : Nat} (hi : ops[i]? = some o) (ho : o.op = .makeMap tm none) (hd : o.dst = some d) (hdN : d < N) (hg : o.guard = none)
 (H : Hy P S0 w0 N mp σ a w) {Q : Exit → Act → World → Prop} {rest : List Nat}
 (q : ∀ a1 w1 km, Hy P S0 w0 N (some (km, #[], 0)) { σ with s := upd σ.s d (.v (.map (some km))) } a1 w1 → wpOps P ops Q rest a1 w1) : wpOps P ops Q (i :: rest) a w := by
 obtain ⟨ρ, S, F, A, T, f⟩ := H.ex
 rw [wpOps_cons]
 exact Zwn hi ho hd hdN hg T [] (fun a1 w1 hb J T1 => q a1 w1 _ ⟨⟨ρ, S, F.step (fun _ h => h) (fun _ h => .inl h) hb, ⟨J, F.below.size⟩, T1, f⟩, H.base⟩)
theorem Hy.lookup {tm tk tb : Nat} {ks : List Nat} (T0 : SetT P tm tk tb ks) {ops : Array Oper} {i : Nat} {o : Oper} {d m kx j slot : Nat} (hi : ops[i]? = some o) (ho : o.op = .lookup tm (.tmp m) (.tmp kx) false) (hd : o.dst = some d) (hdN : d < N) (hg : o.guard = some (j, true)) (hs : (ops[j]?).bind (·.dst) = some slot)
 {km cl : Nat} {es : Array MapEntry} (H : Hy P S0 w0 N (some (km, es, cl)) σ a w) {k : List Value} (hk : k.length = ks.length) {keys : List (List Value)} {r : Option Nat} (h : Holds ks es.toList keys) (e : Z5c ks k keys 0 = some r)
 {t : Bool} (ht : test σ slot true = some t) (hm : t = true → unT (σ.s m) = .v (.map (some km))) (hkx : t = true → unT (σ.s kx) = .agg (k.map A.v)) {Q : Exit → Act → World → Prop} {rest : List Nat}
 (q : ∀ a1, Hy P S0 w0 N (some (km, es, cl)) { σ with s := upd σ.s d (.ifg t (.q r.isSome)) } a1 w → wpOps P ops Q rest a1 w) : wpOps P ops Q (i :: rest) a w := by
 obtain ⟨ρ, S, F, A, T, f⟩ := H.ex
 rw [wpOps_cons]
 exact Zpr T0 hi ho hd hdN hg hs T A.1 hk h e ht hm hkx (fun a1 T1 => q a1 ⟨⟨ρ, S, F, A, T1, f⟩, H.base⟩)
theorem Hy.update {tm tk tb : Nat} {ks : List Nat} (T0 : SetT P tm tk tb ks) {ops : Array Oper} {i : Nat} {o : Oper} {m kx : Nat} (hi : ops[i]? = some o) (ho : o.op = .mapUpdate tm (.tmp m) (.tmp kx) (.const (.bool true))) (hd : o.dst = none) (hg : o.guard = none)
 {km cl : Nat} {es : Array MapEntry} (H : Hy P S0 w0 N (some (km, es, cl)) σ a w) {k : List Value} (hk : k.length = ks.length) {keys : List (List Value)} {r : Option Nat} (h : Holds ks es.toList keys) (e : Z5c ks k keys 0 = some r)
 (hm : σ.s m = .v (.map (some km))) (hkx : σ.s kx = .agg (k.map A.v)) {Q : Exit → Act → World → Prop} {rest : List Nat}
 (q : ∀ a1 w1 es1 cl1, Holds ks es1.toList (Zeq ks keys k) → Hy P S0 w0 N (some (km, es1, cl1)) σ a1 w1 → wpOps P ops Q rest a1 w1) : wpOps P ops Q (i :: rest) a w := by
 obtain ⟨ρ, S, F, A, T, f⟩ := H.ex
 rw [wpOps_cons]
 obtain ⟨A1, A2⟩ := A
 unfold wpOp
 rw [hi]
 have hw : Region.wanted o (yielded ops a.tmps) = true := by unfold Region.wanted; rw [hg]
 simp only [hw, if_true]
 refine .inl ?_
 have r1 := T.slot m
 rw [hm] at r1
 have r2 := T.slot kx
 rw [hkx] at r2
 have e1 : a.eval (.tmp m) = .map (some km) := Zy8 r1
 have e2 : a.eval (.tmp kx) = keyV k := Zyl r2
 have e3 : a.eval (.const (.bool true)) = .bool true := rfl
 obtain ⟨w1, es1, cl1, hrun, M, h1⟩ := Zqd T0 A1.here k hk h e
 have hrun' : (execOp a.eval o).run P w = .ok .skip w1 := by
  simp only [execOp, ho, e1, e2, e3, Sem.run_bind, hrun, Result.andThen_ok]
  rfl
 refine Z9v hrun' ?_
 rw [hd]
 have hb : Below w0.heap.size w w1 := ⟨M.os, M.tape, M.output, by rw [M.size]; exact Nat.le_refl _, fun i hi => M.other i (by omega)⟩
 exact q _ w1 es1 cl1 h1 ⟨⟨ρ, _, ⟨fun k hk => ⟨F.sub k hk, by have := F.old k hk; omega⟩, fun k hk => F.back k hk.1, F.below.trans hb, F.old⟩, ⟨⟨fun hh => hh.2 rfl, M.here⟩, A2⟩, T.map M, f⟩, H.base⟩
theorem Hy.done {F : Func} {rv : List RVar} {ra rs : List A} (H : Hy P S0 w0 F.ntmps mp σ a w) (o2 : Z6i P F.results.toList rv = true) (e : Z47 σ rv = some ra) (hrs : Z6v σ.h [] ra = some rs) :
 bodyPost P F (fun | .returned v, w' => Res P S0 w0 rs v w' | _, _ => False) .ret a w := by
 obtain ⟨ρ, S, Fr, _, T, f⟩ := H.ex
 obtain ⟨us, hrun, hus⟩ := Z72 T.heap rfl T.slot (F := F) (rv := rv) (as := ra) o2 e
 exact ⟨T.defers, _, hrun, Z78 rfl T.heap hus hrs Fr.sub Fr.back Fr.below (Zcj Fr.old Fr.below)⟩
theorem Hy.start {as : List A} {xs : List Value} {n : Nat} (hS : ∀ k, S0 k → k < w.heap.size) (hG : GlobOk P S0 w) (r : RL P Yg S0 w as xs) (hn : N ≤ n + xs.length) :
 Hy P S0 w N none ⟨slots as, fun _ => none, 0, 0⟩ { tmps := xs.toArray ++ Array.replicate n undef, defers := [] } w :=
 ⟨⟨Yg, S0, ⟨fun _ h => h, fun _ h => .inl h, Below.refl _ _, hS⟩, trivial, ⟨fun t => Zns r _ t, by simp; omega, rfl, HR.empty hS hG, Nat.le_refl _⟩, fun _ _ => rfl⟩, rfl⟩
end Go.Vm
set_option linter.unusedVariables false
set_option linter.unusedSimpArgs false
namespace Go.Vm
open Go.RowKit
variable {P : Program} {ρ ρ' ρ'' : Rho} {S S' S'' : Nat → Prop} {w w' w'' : World} {B N : Nat} {h : Hp}
theorem Zny {tS e sz : Nat} {inf : TypeInfo} (hu : P.underlying tS = some (.slice e)) (hi : P.info? e = some inf) (hsz : inf.size = sz) (w : World) (b o dLen m : Nat) (a : Addr) (sLen : Nat) (hm : Nat.min sLen dLen = m)
 (vs : List Value) (hl : vs.length = m * sz) (hv : ∀ j v, vs[j]? = some v → w.cell? (a.add j) = some v) (h1 : ∀ v ∈ vs, v.oneCell' = true) {c : Array Value} {t : TypeId} (hc : w.heap[b]? = some (.cells c t (0, 0))) (hf : o + vs.length ≤ c.size) (ty dCap sCap : Nat) :
 (Builtin.copy_ #[tS, tS] ty #[.slice (some ⟨b, o, none⟩) dLen dCap, .slice (some a) sLen sCap]).run P w = .ok (goInt m) (w.setCells b o vs) := by
 have hload : (loadCells a (m * sz)).run P w = .ok vs.toArray w := by rw [← hl]; exact run_loadCells_list (P := P) w a vs hv
 have hst := run_storeCells_cells (P := P) b o vs 0 w (fun j hj => by simp only [World.cell?, hc, Nat.add_zero]; rw [Array.getElem?_eq_getElem (by omega)]; rfl) (fun j hj => by simp [World.frozen?, hc]) h1
 simp [Builtin.copy_, run_underlying hu, Builtin.lenOf, Builtin.firstCells, sizeOf, typeInfo, hi, hsz, hm, hload, hst]
structure InsWalk (P : Program) (f tS tI e sz : Nat) : Prop where
 und : P.underlying tS = some (.slice e)
 undI : P.underlying tI = some (.int .i64)
 app : Zhw P tS tS e = true
 size : P.cellsOf e = sz
 enter : Z6k P f
 end_ : ∀ (a : Option Addr) (n c : Nat) (x : Value) (vc : Nat) (w w' : World) (va : Option Addr), (0 < n → ∃ b off, a = some ⟨b, off, none⟩) →
  (Builtin.append_ #[tS, tS] tS #[.slice a n c, .slice va 1 vc]).run P w = .ok x w' →
  Calls P f #[.slice a n c, .int .i64 n, .slice va 1 vc] w fun e w1 => e = .returned x ∧ w1 = w'
 shift : ∀ (b off n c i vc : Nat) (w W1 W2 : World) (vb vo : Nat) (r1 r2 : Value), i < n → n + 1 ≤ c → n + 1 ≤ big → vb ≠ b →
  (∃ cs t, w.heap[b]? = some (.cells cs t (0, 0)) ∧ cs.size ≠ 0) → (∃ cs t, w.heap[vb]? = some (.cells cs t (0, 0))) →
  (∀ ty dc sc, (Builtin.copy_ #[tS, tS] ty #[.slice (some ⟨b, off + (i + 1) * sz, none⟩) (n - i) dc, .slice (some ⟨b, off + i * sz, none⟩) (n + 1 - i) sc]).run P w.drew = .ok r1 W1) →
  (∀ ty dc, (Builtin.copy_ #[tS, tS] ty #[.slice (some ⟨b, off + i * sz, none⟩) (n + 1 - i) dc, .slice (some ⟨vb, vo, none⟩) 1 vc]).run P W1 = .ok r2 W2) →
  Calls P f #[.slice (some ⟨b, off, none⟩) n c, .int .i64 i, .slice (some ⟨vb, vo, none⟩) 1 vc] w fun e w1 => e = .returned (.slice (some ⟨b, off, none⟩) (n + 1) c) ∧ w1 = W2
 grow : ∀ (b off n c i G nb vc : Nat) (w W1 W2 W3 : World) (va : Option Addr) (r1 r2 : Value), i < n → n ≤ c → c < n + 1 → n + 1 ≤ big → n + 1 ≤ G → G ≤ 9223372036854775807 →
  (Builtin.append_ #[tS, tI] tS #[.slice (some ⟨b, off, none⟩) i c, .int .i64 ((n : Int) + 1 - (i : Int))]).run P w = .ok (.slice (some ⟨nb, 0, none⟩) (n + 1) G) W1 →
  (∀ ty dc, (Builtin.copy_ #[tS, tS] ty #[.slice (some ⟨nb, i * sz, none⟩) (n + 1 - i) dc, .slice va 1 vc]).run P W1 = .ok r1 W2) →
  (∀ ty dc sc, (Builtin.copy_ #[tS, tS] ty #[.slice (some ⟨nb, (i + 1) * sz, none⟩) (n - i) dc, .slice (some ⟨b, off + i * sz, none⟩) (n - i) sc]).run P W2.drew = .ok r2 W3) →
  Calls P f #[.slice (some ⟨b, off, none⟩) n c, .int .i64 i, .slice va 1 vc] w fun e w1 => e = .returned (.slice (some ⟨nb, 0, none⟩) (n + 1) G) ∧ w1 = W3
theorem Zol {α : Type} {l : List α} {x : α} {i : Nat} (hi : i ≤ l.length) (q : Nat) : (l.take i ++ x :: l.drop i)[q]? = if q < i then l[q]? else if q = i then some x else l[q - 1]? := by
 have hl : (l.take i).length = i := by simp; omega
 by_cases h1 : q < i
 · rw [if_pos h1, List.getElem?_append_left (by omega), List.getElem?_take, if_pos h1]
 · rw [if_neg h1, List.getElem?_append_right (by omega), hl]
   by_cases h2 : q = i
   · subst h2; simp
   · rw [if_neg h2]
     obtain ⟨d, rfl⟩ : ∃ d, q = i + 1 + d := ⟨q - (i + 1), by omega⟩
     rw [show i + 1 + d - i = d + 1 by omega, List.getElem?_cons_succ, List.getElem?_drop]
     congr 1
     omega
theorem Zka {c' : Array Value} {sz i : Nat} {rows : List (List A)} {row : List A} {W : World} (hi : i ≤ rows.length)
 (h1 : ∀ (q : Nat) (r : List A) (j : Nat) (x : A), q < i → rows[q]? = some r → r[j]? = some x → ∃ y, c'[q * sz + j]? = some y ∧ R P Yg S W x y)
 (h2 : ∀ (j : Nat) (x : A), row[j]? = some x → ∃ y, c'[i * sz + j]? = some y ∧ R P Yg S W x y)
 (h3 : ∀ (q : Nat) (r : List A) (j : Nat) (x : A), i ≤ q → rows[q]? = some r → r[j]? = some x → ∃ y, c'[(q + 1) * sz + j]? = some y ∧ R P Yg S W x y)
 (q : Nat) (r : List A) (j : Nat) (x : A) (e1 : (rows.take i ++ row :: rows.drop i)[q]? = some r) (e2 : r[j]? = some x) : ∃ y, c'[q * sz + j]? = some y ∧ R P Yg S W x y := by
 rw [Zol hi] at e1
 split at e1
 · exact h1 q r j x (by assumption) e1 e2
 · split at e1
   · rename_i hq
     simp only [Option.some.injEq] at e1
     subst e1
     subst hq
     exact h2 j x e2
   · obtain ⟨d, rfl⟩ : ∃ d, q = d + 1 := ⟨q - 1, by omega⟩
     exact h3 d r j x (by omega) e1 e2
theorem Zmd {c : Array Value} {o l : Nat} (h : o + l ≤ c.size) : ((c.toList.drop o).take l).length = l ∧ ∀ j, j < l → ((c.toList.drop o).take l)[j]? = c[o + j]? := by
 refine ⟨by simp; omega, fun j hj => ?_⟩
 rw [List.getElem?_take, if_pos hj, List.getElem?_drop]
 simp
theorem Mv.fresh {iv : Nat → Prop} {n : Nat} (M : Mv B ρ S w ρ' S' w' iv) (hf : ∀ b, n ≤ b → ρ b = none) (hiv : ∀ b, n + 1 ≤ b → ¬ iv b) (b : Nat) (hb : n + 1 ≤ b) : ρ' b = none :=
 M.new b (hf b (by omega)) (hiv b hb)
set_option maxHeartbeats 4000000 in
theorem Y42 {f tS tI e0 sz : Nat} (I : InsWalk P f tS tI e0 sz) : DcOk P (insF e0) f := by
 intro ρ S w B as xs h n rs h' n' eq H hB r hf
 obtain ⟨b, cap, ex, i, b2, cap2, ex2, k, k2, row, rfl, hk, hk2, hrow, hown, hbox, hkty, hbox2, hkty2, hne, hi, hbig, rfl, rfl, rfl⟩ := Znw eq
 clear eq
 obtain ⟨kty, rows, kown, kbox⟩ := k
 simp only at hown hbox hkty hi hbig r hk ⊢
 subst hown
 subst hbox
 subst hkty
 obtain ⟨L, hL⟩ : ∃ L, rows.length = L := ⟨_, rfl⟩
 rw [hL] at hi hbig r ⊢
 obtain ⟨x1, xs1, rfl, rx1, rt1⟩ := r.inv_cons
 obtain ⟨x2, xs2, rfl, rx2, rt2⟩ := rt1.inv_cons
 obtain ⟨x3, xs3, rfl, rx3, rt3⟩ := rt2.inv_cons
 have hx3 := rt3.inv_nil
 subst hx3
 obtain ⟨rfl, _⟩ := R.v_inv rx2
 have hszE := I.size
 have okA := I.app
 have hkeep : Zhw P tS tS kty = true := okA
 simp only [Zhw, Bool.and_eq_true, decide_eq_true_eq] at okA
 obtain ⟨⟨⟨o1, o2⟩, hpos⟩, o4⟩ := okA
 split at o4
 · rename_i inf hinf
   simp only [Bool.and_eq_true, decide_eq_true_eq] at o4
   obtain ⟨hbytes, o5⟩ := o4
   split at o5
   · rename_i z hz
     have hzs : z.cells.size = inf.size := by simpa using o5
     have hsz : inf.size = sz := by rw [← hszE]; simp [Program.cellsOf, hinf]
     have hpos' : 0 < sz := by rw [← hszE]; exact hpos
     have hrows1 : Z0r kty h (.ref kty b2 0 1 cap2 ex2) = some [row] := by
      obtain ⟨rows2, hr2⟩ : ∃ r2, k2.rows = r2 := ⟨_, rfl⟩
      have hl2 : 0 < k2.rows.length := (List.getElem?_eq_some_iff.1 hrow).1
      simp only [Z0r, bnd, hk2, hkty2, hbox2, true_and]
      rw [if_pos (by omega)]
      congr 1
      cases hq : k2.rows with
      | nil => rw [hq] at hl2; simp at hl2
      | cons y ys => rw [hq] at hrow; simp at hrow; subst hrow; simp
     cases rx3 with
     | ref ty3 b3 off3 len3 cap3 ex3 kv szv cv av hbv hszv hcapv hexv hav hlenv hkv =>
       have hav' : av = some ⟨kv, 0, none⟩ := by have := hav (by omega); simpa using this
       subst hav'
       have hB2 := H.at_of hk2 hbv
       obtain ⟨cs2, hcs2, hcl2, hcell2⟩ := hB2.heap
       rw [hbox2] at hcell2
       have hszv' : szv = sz := by rw [hszv, hszE]
       subst hszv'
       have hrl : row.length = szv ∧ Zd row = true := hB2.rows 0 row hrow
       have hl2 : 0 < k2.rows.length := (List.getElem?_eq_some_iff.1 hrow).1
       have hsz2 : szv ≤ cs2.size := by
        have : 1 * szv ≤ k2.rows.length * szv := Nat.mul_le_mul_right _ hl2
        omega
       have rx3' : R P ρ S w (.ref kty b2 0 1 cap2 ex2) (.slice (some ⟨kv, 0, none⟩) 1 cv) := .ref kty b2 0 1 cap2 ex2 kv szv cv _ hbv hszv hcapv hexv (fun hh => by simp) hlenv hkv
       rcases Nat.eq_or_lt_of_le hi with hie | hlt
       · -- at the end
         have rx1' : R P ρ S w (.ref kty b 0 L L false) x1 := by
          cases rx1 with
          | ref _ _ _ _ _ _ k0 sz0 c a hb hty hcap hex ha hlen hk0 => exact .ref kty b 0 _ _ false k0 sz0 c a hb hty hlen (fun h => by cases h) ha hlen hk0
          | nil _ _ _ hb => exact .nil kty b false hb
         have eq' : appA ⟨fun _ => .bad, h, n, 0⟩ 0 0 kty [row] (.ref kty b 0 L L false) = some ⟨upd (fun _ => .bad) 0 (.ref kty (n + 0) 0 (L + 1) (L + 1) false), upd (upd h b none) (n + 0) (some ⟨kty, rows.take L ++ [row], true, false⟩), n, 0⟩ := by
          simp only [appA, bnd, hk]
          rw [if_pos ⟨trivial, trivial, trivial, trivial, by omega, hbig⟩, if_pos trivial]
          rfl
         obtain ⟨v, w1, hrun, u, hu, E1⟩ := Zi2 (P := P) (ty := tS) (nm := 0) (d := 0) (σ := ⟨fun _ => .bad, h, n, 0⟩) H hB rx1' rx3' hrows1 (hf n (Nat.le_refl _)) hkeep eq'
         have hu' : u = .ref kty n 0 (L + 1) (L + 1) false := by
          have := congrArg (fun s : St => s.s 0) hu
          simpa [Z7] using this.symm
         subst hu'
         obtain ⟨ρ1, S1, M1, H1, r1⟩ := E1.ex
         have hx1 : ∃ a c, x1 = .slice a L c ∧ (0 < L → ∃ b off, a = some ⟨b, off, none⟩) := by
          cases rx1 with
          | ref _ _ _ _ _ _ k0 sz0 c a hb hty hcap hex ha hlen hk0 => exact ⟨a, c, rfl, fun hh => ⟨_, _, ha (by omega)⟩⟩
          | nil _ _ _ hb => exact ⟨none, 0, rfl, fun hh => absurd hh (Nat.lt_irrefl _)⟩
         obtain ⟨a, c, rfl, hac⟩ := hx1
         have hie' := hie.symm
         subst hie'
         refine (I.end_ a L c v cv w w1 (some ⟨kv, 0, none⟩) hac hrun).mono (fun en w2 he => ?_)
         obtain ⟨rfl, rfl⟩ := he
         refine ⟨Nat.le_succ _, ρ1, S1, M1.wide (fun b hb => hb.1), ?_, r1, M1.fresh hf (fun b hb hs => by have := hs.2; simp only [Nat.add_zero] at this; omega)⟩
         have hrows : rows.take L ++ row :: rows.drop L = rows.take L ++ [row] := by rw [List.drop_eq_nil_of_le (by omega)]
         rw [hrows]
         exact H1
       · -- further ahead
         cases rx1 with
         | nil _ _ _ hb => omega
         | ref _ _ _ _ _ _ k0 sz0 c a hb hty hcap hex ha hlen hk0 =>
           have ha' := ha (by omega)
           subst ha'
           have hsz0 : sz0 = szv := by rw [hty, hszE]
           subst hsz0
           rw [Nat.zero_mul]
           have hbr := H.at_of hk hb
           obtain ⟨cs, hcs, hcsl, hcell⟩ := hbr.heap
           obtain ⟨cs', t', hcs', hcb⟩ := hk0
           rw [hcs] at hcs'
           simp only [Option.some.injEq, Obj.cells.injEq, and_true] at hcs'
           obtain ⟨rfl, rfl⟩ := hcs'
           rw [Nat.zero_add] at hcb
           have hnek : kv ≠ k0 := fun q => by
            subst q
            exact hne (H.inj b b2 kv sz0 sz0 _ k2 hk hk2 hb hbv)
           have hk0lt := H.lt hk hb
           have hkvlt := H.lt hk2 hbv
           rw [hL] at hcsl
           have hiL : i * sz0 + (L - i) * sz0 = L * sz0 := by rw [← Nat.add_mul]; congr 1; omega
           have hLc : L * sz0 ≤ cs.size := hcsl
           obtain ⟨tl, ht1⟩ := Zmd (c := cs) (o := i * sz0) (l := (L - i) * sz0) (by omega)
           obtain ⟨vl, hv1⟩ := Zmd (c := cs2) (o := 0) (l := 1 * sz0) (by omega)
           obtain ⟨hl0, hh1⟩ := Zmd (c := cs) (o := 0) (l := i * sz0) (by omega)
           generalize htail : (cs.toList.drop (i * sz0)).take ((L - i) * sz0) = tail at *
           generalize hvs : (cs2.toList.drop 0).take (1 * sz0) = vs at *
           generalize hhd : (cs.toList.drop 0).take (i * sz0) = hd at *
           have hone : ∀ (q : Nat) (r : List A) (j : Nat) (x : A), rows[q]? = some r → r[j]? = some x → ∃ y, cs[q * sz0 + j]? = some y ∧ R P Yg S w x y ∧ y.oneCell' = true := fun q r j x e1 e2 => by
            obtain ⟨y, hy, hr⟩ := hcell q r j x e1 e2
            exact ⟨y, hy, hr, Z3z (Yp.1 (hbr.rows q r e1).2 x (List.mem_of_getElem? e2)) hr⟩
           have honeAt : ∀ m, m < L * sz0 → ∃ y, cs[m]? = some y ∧ y.oneCell' = true := fun m hm => by
            have hq : m / sz0 < rows.length := by rw [hL]; exact Nat.div_lt_of_lt_mul (by rw [Nat.mul_comm]; exact hm)
            have hr := List.getElem?_eq_getElem hq
            have hj : m % sz0 < rows[m / sz0].length := by rw [(hbr.rows _ _ hr).1]; exact Nat.mod_lt _ hpos'
            obtain ⟨y, hy, _, h1⟩ := hone _ _ _ _ hr (List.getElem?_eq_getElem hj)
            have : m / sz0 * sz0 + m % sz0 = m := by rw [Nat.mul_comm]; exact Nat.div_add_mod m sz0
            rw [this] at hy
            exact ⟨y, hy, h1⟩
           have htone : ∀ v ∈ tail, v.oneCell' = true := fun v hv => by
            obtain ⟨j, hj⟩ := List.getElem?_of_mem hv
            have hjl := (List.getElem?_eq_some_iff.1 hj).1
            rw [ht1 j (by omega)] at hj
            obtain ⟨y, hy, h1⟩ := honeAt (i * sz0 + j) (by omega)
            rw [hj] at hy
            simp only [Option.some.injEq] at hy
            subst hy
            exact h1
           have hvone : ∀ v ∈ vs, v.oneCell' = true := fun v hv => by
            obtain ⟨j, hj⟩ := List.getElem?_of_mem hv
            have hjl := (List.getElem?_eq_some_iff.1 hj).1
            rw [hv1 j (by omega)] at hj
            have hjr : j < row.length := by rw [hrl.1]; omega
            obtain ⟨y, hy, hr⟩ := hcell2 0 row j row[j] hrow (List.getElem?_eq_getElem hjr)
            rw [Nat.zero_mul] at hy
            rw [hj] at hy
            simp only [Option.some.injEq] at hy
            subst hy
            exact Z3z (Yp.1 hrl.2 _ (List.getElem_mem hjr)) hr
           have hmin1 : Nat.min (L + 1 - i) (L - i) = L - i := by simp only [Nat.min_def]; split <;> omega
           have hmin2 : Nat.min 1 (L + 1 - i) = 1 := by simp only [Nat.min_def]; split <;> omega
           have hmin3 : Nat.min (L - i) (L - i) = L - i := by simp
           have hi1 : (i + 1) * sz0 = i * sz0 + sz0 := by rw [Nat.add_mul, Nat.one_mul]
           have hL1 : (L + 1) * sz0 = L * sz0 + sz0 := by rw [Nat.add_mul, Nat.one_mul]
           have hcell2' : ∀ (j : Nat) (x : A), row[j]? = some x → ∃ y, cs2[j]? = some y ∧ R P Yg S w x y := fun j x e2 => by
            obtain ⟨y, hy, hr⟩ := hcell2 0 row j x hrow e2
            rw [Nat.zero_mul, Nat.zero_add] at hy
            exact ⟨y, hy, hr⟩
           have hjr : ∀ (j : Nat) (x : A), row[j]? = some x → j < sz0 := fun j x e => by have := (List.getElem?_eq_some_iff.1 e).1; rw [hrl.1] at this; exact this
           have hjq : ∀ (q : Nat) (r : List A) (j : Nat) (x : A), rows[q]? = some r → r[j]? = some x → j < sz0 ∧ q < L := fun q r j x e1 e2 => by
            have h1 := (List.getElem?_eq_some_iff.1 e2).1
            rw [(hbr.rows q r e1).1] at h1
            have h2 := (List.getElem?_eq_some_iff.1 e1).1
            rw [hL] at h2
            exact ⟨h1, h2⟩
           have hrows' : ∀ (q : Nat) (r : List A), (rows.take i ++ row :: rows.drop i)[q]? = some r → r.length = sz0 ∧ Zd r = true := fun q r e => by
            rw [Zol (by omega)] at e
            split at e
            · exact hbr.rows q r e
            · split at e
              · simp only [Option.some.injEq] at e; subst e; exact hrl
              · exact hbr.rows _ r e
           have hlen' : (rows.take i ++ row :: rows.drop i).length = L + 1 := by simp; omega
           have hcellk : ∀ (W : World), W.heap[k0]? = some (Obj.cells cs kty (0, 0)) → ∀ j v, tail[j]? = some v → W.cell? ((⟨k0, i * sz0, none⟩ : Addr).add j) = some v := fun W hW j v hj => by
            have hjl := (List.getElem?_eq_some_iff.1 hj).1
            rw [ht1 j (by omega)] at hj
            rw [Vu]
            simp [World.cell?, hW, hj]
           have hcellv : ∀ (W : World), W.heap[kv]? = some (Obj.cells cs2 k2.ty (0, 0)) → ∀ j v, vs[j]? = some v → W.cell? ((⟨kv, 0, none⟩ : Addr).add j) = some v := fun W hW j v hj => by
            have hjl := (List.getElem?_eq_some_iff.1 hj).1
            rw [hv1 j (by omega)] at hj
            rw [Vu]
            rw [Nat.zero_add] at hj
            simp [World.cell?, hW, hj]
           by_cases hroom : L + 1 ≤ c
           · -- in place
             have hfit : (L + 1) * sz0 ≤ cs.size := Nat.le_trans (Nat.mul_le_mul_right _ hroom) hcb
             have hcs' : w.drew.heap[k0]? = some (Obj.cells cs kty (0, 0)) := hcs
             have hw1 := Wk (w := w.drew) (k := k0) (o := (i + 1) * sz0) tail hcs' htone (by rw [tl]; omega)
             obtain ⟨c1, hc1, hs1, hg1⟩ := hw1.here _ _ hcs'
             have hcs2' : (w.drew.setCells k0 ((i + 1) * sz0) tail).heap[kv]? = some (Obj.cells cs2 k2.ty (0, 0)) := (hw1.other kv hnek).trans hcs2
             have hw2 := Wk (o := i * sz0) vs hc1 hvone (by rw [vl, hs1]; omega)
             obtain ⟨c2, hc2, hs2, hg2⟩ := hw2.here _ _ hc1
             have hcp1 : ∀ ty dc sc, (Builtin.copy_ #[tS, tS] ty #[.slice (some ⟨k0, 0 + (i + 1) * sz0, none⟩) (L - i) dc, .slice (some ⟨k0, 0 + i * sz0, none⟩) (L + 1 - i) sc]).run P w.drew = .ok (goInt ((L - i : Nat) : Int)) (w.drew.setCells k0 ((i + 1) * sz0) tail) := fun ty dc sc => by
              rw [Nat.zero_add, Nat.zero_add]
              exact Zny I.und hinf hsz w.drew k0 _ (L - i) (L - i) ⟨k0, i * sz0, none⟩ (L + 1 - i) hmin1 tail tl (hcellk _ hcs') htone hcs' (by rw [tl]; omega) ty dc sc
             have hcp2 : ∀ ty dc, (Builtin.copy_ #[tS, tS] ty #[.slice (some ⟨k0, 0 + i * sz0, none⟩) (L + 1 - i) dc, .slice (some ⟨kv, 0, none⟩) 1 cv]).run P (w.drew.setCells k0 ((i + 1) * sz0) tail) = .ok (goInt ((1 : Nat) : Int)) ((w.drew.setCells k0 ((i + 1) * sz0) tail).setCells k0 (i * sz0) vs) := fun ty dc => by
              rw [Nat.zero_add]
              exact Zny I.und hinf hsz _ k0 _ (L + 1 - i) 1 ⟨kv, 0, none⟩ 1 hmin2 vs vl (hcellv _ hcs2') hvone hc1 (by rw [vl, hs1]; omega) ty dc cv
             refine (I.shift k0 0 L c i cv w _ _ kv 0 _ _ hlt hroom hbig hnek ⟨cs, kty, hcs, by omega⟩ ⟨cs2, _, hcs2⟩ hcp1 hcp2).mono (fun en w2 he => ?_)
             obtain ⟨rfl, rfl⟩ := he
             have hext : Ext S w ((w.drew.setCells k0 ((i + 1) * sz0) tail).setCells k0 (i * sz0) vs) := ((Ext.of_heap (w := w) (w' := w.drew) rfl).trans (fun _ h => h) (hw1.ext (hbr.own rfl) ⟨_, _, hcs'⟩)).trans (fun _ h => h) (hw2.ext (hbr.own rfl) ⟨_, _, hc1⟩)
             have hbel := ((Below.refl B w).drew.trans (hw1.below hbr.base)).trans (hw2.below hbr.base)
             have hszs : w.heap.size ≤ ((w.drew.setCells k0 ((i + 1) * sz0) tail).setCells k0 (i * sz0) vs).heap.size := by rw [hw2.size, hw1.size]; exact Nat.le_refl _
             have hm1 : ∀ x y, R P Yg S w x y → R P Yg S ((w.drew.setCells k0 ((i + 1) * sz0) tail).setCells k0 (i * sz0) vs) x y := fun x y r => R.mono (fun _ _ h => h) (fun _ h => h) hext r
             have hB' : BR P ρ S ((w.drew.setCells k0 ((i + 1) * sz0) tail).setCells k0 (i * sz0) vs) B ⟨kty, rows.take i ++ row :: rows.drop i, true, false⟩ k0 sz0 := by
              refine ⟨hty, hbr.base, fun _ => hbr.own rfl, fun h => (by cases h), hrows', c2, hc2, ?_, ?_⟩
              · show (rows.take i ++ row :: rows.drop i).length * sz0 ≤ c2.size
                rw [hlen', hs2, hs1]; exact hfit
              · refine Zka (by omega) (fun q r j x hq e1 e2 => ?_) (fun j x e2 => ?_) (fun q r j x hq e1 e2 => ?_)
                · obtain ⟨y, hy, hr⟩ := hcell q r j x e1 e2
                  obtain ⟨hj, _⟩ := hjq q r j x e1 e2
                  have hlt2 : (q + 1) * sz0 ≤ i * sz0 := Nat.mul_le_mul_right _ hq
                  rw [Nat.add_mul, Nat.one_mul] at hlt2
                  exact ⟨y, by rw [hg2, if_neg (by omega), hg1, if_neg (by omega)]; exact hy, hm1 _ _ hr⟩
                · obtain ⟨y, hy, hr⟩ := hcell2' j x e2
                  have hj := hjr j x e2
                  refine ⟨y, ?_, hm1 _ _ hr⟩
                  rw [hg2, if_pos (by omega), show i * sz0 + j - i * sz0 = j by omega, hv1 j (by omega), Nat.zero_add]
                  exact hy
                · obtain ⟨y, hy, hr⟩ := hcell q r j x e1 e2
                  obtain ⟨hj, hql⟩ := hjq q r j x e1 e2
                  obtain ⟨d, rfl⟩ : ∃ d, q = i + d := ⟨q - i, by omega⟩
                  have e3 : (i + d + 1) * sz0 = (i + 1) * sz0 + d * sz0 := by rw [← Nat.add_mul]; congr 1; omega
                  have e4 : (i + d) * sz0 = i * sz0 + d * sz0 := Nat.add_mul _ _ _
                  have e5 : (d + 1) * sz0 ≤ (L - i) * sz0 := Nat.mul_le_mul_right _ (by omega)
                  rw [Nat.add_mul, Nat.one_mul] at e5
                  refine ⟨y, ?_, hm1 _ _ hr⟩
                  rw [hg2, if_neg (by omega), hg1, if_pos (by omega), show (i + d + 1) * sz0 + j - (i + 1) * sz0 = d * sz0 + j by omega, ht1 _ (by omega), ← Nat.add_assoc, ← e4]
                  exact hy
             have H2 := H.adopt hk hb (hf n (Nat.le_refl _)) hext hszs (fun q hq _ => (hw2.other q hq).trans (hw1.other q hq)) hB'
             refine ⟨Nat.le_succ _, setR ρ n (some (k0, sz0)), S, ⟨Z9j (hf n (Nat.le_refl _)), fun _ h => h, hext, hbel, fun q hq hn => by rw [Z1l (by omega)]; exact hq, fun _ h => .inl h⟩, H2, ?_, fun q hq => by rw [Z1l (by omega)]; exact hf q (by omega)⟩
             exact .ref kty n 0 (L + 1) (L + 1) false k0 sz0 c _ (Yk _ _) hty hroom (fun h => by cases h) (fun _ => by simp) hroom ⟨c2, kty, hc2, by rw [hs2, hs1, Nat.zero_add]; exact hcb⟩
           · -- a new row
             have hcL : c = L := by omega
             have hkk : i + (L + 1 - i) = L + 1 := by omega
             have hbig' : L + 1 ≤ 68719476736 := hbig
             have hold : (Builtin.firstCells inf.size i (.slice (some ⟨k0, 0, none⟩) i c)).run P w.drew = .ok hd.toArray w.drew := by
              rw [hsz]
              show (loadCells ⟨k0, 0, none⟩ (i * sz0)).run P w.drew = _
              rw [← hl0]
              refine run_loadCells_list (P := P) w.drew _ hd (fun j v hj => ?_)
              have hjl := (List.getElem?_eq_some_iff.1 hj).1
              rw [hh1 j (by omega)] at hj
              have hcs' : w.drew.heap[k0]? = some (Obj.cells cs kty (0, 0)) := hcs
              rw [Vu]
              rw [Nat.zero_add] at hj
              simp [World.cell?, hcs', hj]
             have hb1 : (L + 1 - i) * inf.bytes ≤ 281474976710656 := by
              have : (L + 1 - i) * inf.bytes ≤ 68719476736 * 2048 := Nat.mul_le_mul (by omega) hbytes
              omega
             have hb2 : Builtin.nextslicecap (i + (L + 1 - i)) c * inf.bytes ≤ 281474976710656 := by
              rw [hkk]
              have h1 := Room.nextslicecap_le' (show c < L + 1 by omega)
              have : Builtin.nextslicecap (L + 1) c * inf.bytes ≤ (2 * 68719476736) * 2048 := Nat.mul_le_mul (by omega) hbytes
              omega
             have hrz := Lib.run_append_grow_zeros w tS tI tS kty inf z .i64 .i64 I.und I.undI hinf hz (some ⟨k0, 0, none⟩) i c hd hold (L + 1 - i) (by omega) (by omega) (by omega) (by omega) hb1 hb2
             rw [hkk] at hrz
             have hGe := grownCap_ge w (L + 1) c kty
             have hGm := grownCap_le_maxLen w (L + 1) c kty (by unfold maxLen; omega)
             generalize grownCap w (L + 1) c kty = G at hrz hGe hGm
             generalize hROW : hd.toArray ++ Builtin.zeroCells z.cells (L + 1 - i) ++ Builtin.zeroCells z.cells (G - (L + 1)) = ROW at hrz
             have hRs : ROW.size = G * sz0 := by
              rw [← hROW]
              simp only [Array.size_append, List.size_toArray, size_zeroCells, hl0, hzs, hsz]
              rw [← Nat.add_mul, ← Nat.add_mul]
              congr 1
              omega
             have hR1 : ∀ m, m < i * sz0 → ROW[m]? = cs[m]? := fun m hm => by
              rw [← hROW, Array.append_assoc, Array.getElem?_append_left (by simp [hl0]; exact hm)]
              simp only [List.getElem?_toArray]
              rw [hh1 m hm, Nat.zero_add]
             have hGL : (L + 1) * sz0 ≤ G * sz0 := Nat.mul_le_mul_right _ hGe
             have hrow1 : (w.drew.alloc (.cells ROW kty)).heap[w.heap.size]? = some (Obj.cells ROW kty (0, 0)) := Z3e w.drew _
             have hkn : k0 ≠ w.heap.size := by omega
             have hvn : kv ≠ w.heap.size := by omega
             have hvA : (w.drew.alloc (.cells ROW kty)).heap[kv]? = some (Obj.cells cs2 k2.ty (0, 0)) := (Below.heap_alloc w.drew _ kv hkvlt).trans hcs2
             have hw2 := Wk (o := i * sz0) vs hrow1 hvone (by rw [vl, hRs]; omega)
             obtain ⟨c1, hc1, hs1, hg1⟩ := hw2.here _ _ hrow1
             have hk2' : ((w.drew.alloc (.cells ROW kty)).setCells w.heap.size (i * sz0) vs).drew.heap[k0]? = some (Obj.cells cs kty (0, 0)) := (hw2.other k0 hkn).trans ((Below.heap_alloc w.drew _ k0 hk0lt).trans hcs)
             have hc1' : ((w.drew.alloc (.cells ROW kty)).setCells w.heap.size (i * sz0) vs).drew.heap[w.heap.size]? = some (Obj.cells c1 kty (0, 0)) := hc1
             have hw3 := Wk (o := (i + 1) * sz0) tail hc1' htone (by rw [tl, hs1, hRs]; omega)
             obtain ⟨c2, hc2, hs2, hg2⟩ := hw3.here _ _ hc1'
             have hcpA : ∀ ty dc, (Builtin.copy_ #[tS, tS] ty #[.slice (some ⟨w.heap.size, i * sz0, none⟩) (L + 1 - i) dc, .slice (some ⟨kv, 0, none⟩) 1 cv]).run P (w.drew.alloc (.cells ROW kty)) = .ok (goInt ((1 : Nat) : Int)) ((w.drew.alloc (.cells ROW kty)).setCells w.heap.size (i * sz0) vs) := fun ty dc =>
              Zny I.und hinf hsz _ _ _ (L + 1 - i) 1 ⟨kv, 0, none⟩ 1 hmin2 vs vl (hcellv _ hvA) hvone hrow1 (by rw [vl, hRs]; omega) ty dc cv
             have hcpB : ∀ ty dc sc, (Builtin.copy_ #[tS, tS] ty #[.slice (some ⟨w.heap.size, (i + 1) * sz0, none⟩) (L - i) dc, .slice (some ⟨k0, 0 + i * sz0, none⟩) (L - i) sc]).run P ((w.drew.alloc (.cells ROW kty)).setCells w.heap.size (i * sz0) vs).drew = .ok (goInt ((L - i : Nat) : Int)) (((w.drew.alloc (.cells ROW kty)).setCells w.heap.size (i * sz0) vs).drew.setCells w.heap.size ((i + 1) * sz0) tail) := fun ty dc sc => by
              rw [Nat.zero_add]
              exact Zny I.und hinf hsz _ _ _ (L - i) (L - i) ⟨k0, i * sz0, none⟩ (L - i) hmin3 tail tl (hcellk _ hk2') htone hc1' (by rw [tl, hs1, hRs]; omega) ty dc sc
             have hkkI : ((L : Int) + 1 - (i : Int)) = ((L + 1 - i : Nat) : Int) := by omega
             refine (I.grow k0 0 L c i G w.heap.size cv w _ _ _ (some ⟨kv, 0, none⟩) _ _ hlt hlen (by omega) hbig hGe (by unfold maxLen at hGm; omega) (by rw [hkkI]; exact hrz) hcpA hcpB).mono (fun en w2 he => ?_)
             obtain ⟨rfl, rfl⟩ := he
             have H1 := (H.of_heap (w' := w.drew) rfl).kill b
             obtain ⟨H2, M2⟩ := H1.make (b := n) (hf n (Nat.le_refl _)) hB ⟨kty, [], true, false⟩ ROW rfl (fun q r e => by simp at e) (by simp) (fun q r j x e => by simp at e)
             have hnS : ¬ S w.heap.size := fun hs => absurd (H.old _ hs) (Nat.lt_irrefl _)
             have hextA : Ext S (w.drew.alloc (.cells ROW kty)) (((w.drew.alloc (.cells ROW kty)).setCells w.heap.size (i * sz0) vs).drew.setCells w.heap.size ((i + 1) * sz0) tail) :=
              ((hw2.ext hnS ⟨_, _, hrow1⟩).trans (fun _ h => h) (Ext.of_heap (w' := ((w.drew.alloc (.cells ROW kty)).setCells w.heap.size (i * sz0) vs).drew) rfl)).trans (fun _ h => h) (hw3.ext hnS ⟨_, _, hc1'⟩)
             have hext : Ext S w (((w.drew.alloc (.cells ROW kty)).setCells w.heap.size (i * sz0) vs).drew.setCells w.heap.size ((i + 1) * sz0) tail) := (Ext.of_heap (w := w) (w' := w.drew) rfl).trans (fun _ h => h) (M2.ext.trans (fun _ h => h) hextA)
             have hm1 : ∀ x y, R P Yg S w x y → R P Yg S (((w.drew.alloc (.cells ROW kty)).setCells w.heap.size (i * sz0) vs).drew.setCells w.heap.size ((i + 1) * sz0) tail) x y := fun x y r => R.mono (w := w) (fun _ _ h => h) (fun _ h => h) hext r
             have hB' : BR P (setR ρ n (some (w.drew.heap.size, P.cellsOf kty))) S (((w.drew.alloc (.cells ROW kty)).setCells w.heap.size (i * sz0) vs).drew.setCells w.heap.size ((i + 1) * sz0) tail) B ⟨kty, rows.take i ++ row :: rows.drop i, true, false⟩ w.heap.size (P.cellsOf kty) := by
              rw [hszE]
              refine ⟨hty, hB, fun _ => hnS, fun h => (by cases h), hrows', c2, hc2, ?_, ?_⟩
              · show (rows.take i ++ row :: rows.drop i).length * sz0 ≤ c2.size
                rw [hlen', hs2, hs1, hRs]; exact hGL
              · refine Zka (by omega) (fun q r j x hq e1 e2 => ?_) (fun j x e2 => ?_) (fun q r j x hq e1 e2 => ?_)
                · obtain ⟨y, hy, hr⟩ := hcell q r j x e1 e2
                  obtain ⟨hj, _⟩ := hjq q r j x e1 e2
                  have hlt2 : (q + 1) * sz0 ≤ i * sz0 := Nat.mul_le_mul_right _ hq
                  rw [Nat.add_mul, Nat.one_mul] at hlt2
                  exact ⟨y, by rw [hg2, if_neg (by omega), hg1, if_neg (by omega), hR1 _ (by omega)]; exact hy, hm1 _ _ hr⟩
                · obtain ⟨y, hy, hr⟩ := hcell2' j x e2
                  have hj := hjr j x e2
                  refine ⟨y, ?_, hm1 _ _ hr⟩
                  rw [hg2, if_neg (by omega), hg1, if_pos (by omega), show i * sz0 + j - i * sz0 = j by omega, hv1 j (by omega), Nat.zero_add]
                  exact hy
                · obtain ⟨y, hy, hr⟩ := hcell q r j x e1 e2
                  obtain ⟨hj, hql⟩ := hjq q r j x e1 e2
                  obtain ⟨d, rfl⟩ : ∃ d, q = i + d := ⟨q - i, by omega⟩
                  have e3 : (i + d + 1) * sz0 = (i + 1) * sz0 + d * sz0 := by rw [← Nat.add_mul]; congr 1; omega
                  have e4 : (i + d) * sz0 = i * sz0 + d * sz0 := Nat.add_mul _ _ _
                  have e5 : (d + 1) * sz0 ≤ (L - i) * sz0 := Nat.mul_le_mul_right _ (by omega)
                  rw [Nat.add_mul, Nat.one_mul] at e5
                  refine ⟨y, ?_, hm1 _ _ hr⟩
                  rw [hg2, if_pos (by omega), show (i + d + 1) * sz0 + j - (i + 1) * sz0 = d * sz0 + j by omega, ht1 _ (by omega), ← Nat.add_assoc, ← e4]
                  exact hy
             have H3 := H2.put (b := n) (blk := ⟨kty, [], true, false⟩) (by simp [Z7]) (Yk _ _) hextA (by rw [hw3.size]; show _ ≤ ((w.drew.alloc (.cells ROW kty)).setCells w.heap.size (i * sz0) vs).heap.size; rw [hw2.size]; exact Nat.le_refl _) (fun q hq _ => (hw3.other q hq).trans (hw2.other q hq)) hB'
             have hupd : ∀ (g : Hp) (x y : Option Blk), upd (upd g n x) n y = upd g n y := fun g x y => by funext q; simp only [Z7]; split <;> rfl
             rw [hupd] at H3
             have hbel : Below B w (((w.drew.alloc (.cells ROW kty)).setCells w.heap.size (i * sz0) vs).drew.setCells w.heap.size ((i + 1) * sz0) tail) := (((Below.refl B w).drew.trans M2.below).trans (hw2.below hB)).trans (((Below.refl B ((w.drew.alloc (.cells ROW kty)).setCells w.heap.size (i * sz0) vs)).drew).trans (hw3.below hB))
             refine ⟨Nat.le_succ _, _, S, ⟨Z9j (hf n (Nat.le_refl _)), fun _ h => h, hext, hbel, fun q hq hn => by rw [Z1l (by omega)]; exact hq, fun _ h => .inl h⟩, H3, ?_, fun q hq => by rw [Z1l (by omega)]; exact hf q (by omega)⟩
             exact .ref kty n 0 (L + 1) (L + 1) false w.heap.size (P.cellsOf kty) G _ (Yk _ _) rfl hGe (fun h => by cases h) (fun _ => by simp) hGe ⟨c2, kty, hc2, by rw [hs2, hs1, hRs, Nat.zero_add, hszE]; exact Nat.le_refl _⟩
   · cases o5
 · cases o4
end Go.Vm
set_option linter.unusedVariables false
set_option linter.unusedSimpArgs false
namespace Go.Vm
def runI {α β ρ : Type} (g : Nat → β → α → β ⊕ ρ) : Nat → β → List α → β ⊕ ρ
 | _, b, [] => .inl b
 | i, b, x :: xs => match g i b x with
   | .inl b' => runI g (i + 1) b' xs
   | .inr r => .inr r
theorem Y0g {α : Type} {l : List α} {i : Nat} {x : α} {xs : List α} (h : l.drop i = x :: xs) : l[i]? = some x ∧ i < l.length ∧ l.drop (i + 1) = xs := by
 have h1 : l[i]? = some x := by have := congrArg (·[0]?) h; simpa using this
 refine ⟨h1, (List.getElem?_eq_some_iff.1 h1).1, ?_⟩
 have := congrArg List.tail h
 simpa [List.tail_drop] using this
theorem Zxn {α : Type} {l : List α} {i : Nat} (h : l.drop i = []) : l.length ≤ i := by
 have := congrArg List.length h
 simp at this
 omega
def Xr (o : Option Out) (β ρ : Type) (r : β ⊕ ρ) (X : β → Out → Prop) (Y : ρ → Out → Prop) : Prop :=
 ∃ out, o = some out ∧ match r with
  | .inl b => X b out
  | .inr q => Y q out
theorem Zkz {α β ρ : Type} {F : St → Option Out} {L : List Nat} (xs : List α) (st : Nat → β → St) (g : Nat → β → α → β ⊕ ρ) (Inv : Nat → β → Prop) (X : β → Out → Prop) (Y : ρ → Out → Prop)
 (hstep : ∀ (i : Nat) (b : β) (x : α) (K : Nat), xs[i]? = some x → i < xs.length → Inv i b → match g i b x with
  | .inl b' => Z9 F L (K + 1) (st i b) = Z9 F L K (st (i + 1) b') ∧ Inv (i + 1) b'
  | .inr r => ∃ out, Z9 F L (K + 1) (st i b) = some out ∧ Y r out)
 (hend : ∀ (b : β) (K : Nat), Inv xs.length b → ∃ out, Z9 F L (K + 1) (st xs.length b) = some out ∧ X b out) :
 ∀ (ys : List α) (i K : Nat) (b : β), xs.drop i = ys → i ≤ xs.length → ys.length < K → Inv i b → Xr (Z9 F L K (st i b)) β ρ (runI g i b ys) X Y
 | [], i, K, b, hd, hi, hK, hinv => by
   obtain ⟨K, rfl⟩ : ∃ j, K = j + 1 := ⟨K - 1, by omega⟩
   have : i = xs.length := by have := Zxn hd; omega
   subst this
   exact hend b K hinv
 | y :: ys, i, K, b, hd, hi, hK, hinv => by
   obtain ⟨K, rfl⟩ : ∃ j, K = j + 1 := ⟨K - 1, by omega⟩
   obtain ⟨h1, h2, h3⟩ := Y0g hd
   have := hstep i b y K h1 h2 hinv
   unfold runI
   cases hg : g i b y with
   | inl b' =>
     rw [hg] at this
     rw [this.1]
     exact Zkz xs st g Inv X Y hstep hend ys (i + 1) K b' h3 (by omega) (by simp at hK; omega) this.2
   | inr r =>
     rw [hg] at this
     exact this
theorem Zkv {n : Nat} (h : n ≤ big) : n < rounds := by
 unfold big at h
 unfold rounds
 omega
theorem Z57 (t : ByteArray) : t.size = t.data.toList.length := (Array.length_toList (xs := t.data)).symm
theorem Zh {α β ρ : Type} {F : St → Option Out} {L : List Nat} (xs : List α) (st : Nat → β → St) (g : Nat → β → α → β ⊕ ρ) (Inv : Nat → β → Prop) (X : β → Out → Prop) (Y : ρ → Out → Prop) (b : β) (h0 : Inv 0 b) (hl : xs.length ≤ big)
 (hstep : ∀ (i : Nat) (b : β) (x : α) (K : Nat), xs[i]? = some x → i < xs.length → Inv i b → match g i b x with
  | .inl b' => Z9 F L (K + 1) (st i b) = Z9 F L K (st (i + 1) b') ∧ Inv (i + 1) b'
  | .inr r => ∃ out, Z9 F L (K + 1) (st i b) = some out ∧ Y r out)
 (hend : ∀ (b : β) (K : Nat), Inv xs.length b → ∃ out, Z9 F L (K + 1) (st xs.length b) = some out ∧ X b out) : Xr (Z9 F L rounds (st 0 b)) β ρ (runI g 0 b xs) X Y :=
 Zkz xs st g Inv X Y hstep hend xs 0 rounds b rfl (Nat.zero_le _) (Zkv hl) h0
end Go.Vm
set_option linter.unusedSimpArgs false
set_option linter.unusedVariables false
namespace Go.Vm
theorem Shr.zero (h h' : Hp) : Shr 0 h h' = True := eq_true fun b hb => absurd hb (Nat.not_lt_zero b)
theorem Zwc (h : Hp) : low 0 h = fun _ => none := by funext i; simp [low]
section
variable {α β : Type} (k : St → Option Out) (e : St → Option α) (σ : St) (id id' tot : Nat)
theorem Zn (a : α) (f : α → Option β) : bnd (some a) f = f a := (rfl)
theorem Zv3 (f : α → Option β) : bnd none f = none := (rfl)
theorem Zwb (q : Bool) (a b : Option α) (f : α → Option β) : bnd (bif q then a else b) f = bif q then bnd a f else bnd b f := by cases q <;> rfl
theorem Zv {γ : Type} (o : Option α) (f : α → Option β) (g : β → Option γ) : bnd (bnd o f) g = bnd o fun a => bnd (f a) g := by cases o <;> rfl
theorem Zre : seqO none k = none := (rfl)
theorem Zqs : seqO (some (.norm σ)) k = k σ := (rfl)
theorem Zu4 : seqO (some (.exit id σ)) k = some (.exit id σ) := (rfl)
theorem Zvw : seqO (some (.ret σ)) k = some (.ret σ) := (rfl)
theorem Zst (q : Bool) (a b : Option Out) : seqO (bif q then a else b) k = bif q then seqO a k else seqO b k := by cases q <;> rfl
theorem Zxx : blO id none = none := (rfl)
theorem Zwd : blO id (some (.norm σ)) = some (.norm σ) := (rfl)
theorem Zxt : blO id (some (.exit id' σ)) = if id' = id then some (.norm σ) else some (.exit id' σ) := (rfl)
theorem Zzi : blO id (some (.ret σ)) = some (.ret σ) := (rfl)
theorem Zvv (q : Bool) (a b : Option Out) : blO id (bif q then a else b) = bif q then blO id a else blO id b := by cases q <;> rfl
theorem Zr3 : endO none e = none := (rfl)
theorem Ztc : endO (some (.norm σ)) e = e σ := (rfl)
theorem Zv4 : endO (some (.ret σ)) e = e σ := (rfl)
theorem Zqy (q : Bool) (a b : Option Out) : endO (bif q then a else b) e = bif q then endO a e else endO b e := by cases q <;> rfl
theorem Zw9 : nrm tot none = none := (rfl)
theorem Zwq : nrm tot (some σ) = some (.norm ⟨σ.s, σ.h, σ.n + tot, σ.base⟩) := (rfl)
theorem Zw5 (q : Bool) (a b : Option St) : nrm tot (bif q then a else b) = bif q then nrm tot a else nrm tot b := by cases q <;> rfl
theorem Zvi (a : Bool) : imp a a = true := by cases a <;> rfl
theorem Zsm (a : Bool) : imp false a = true := (rfl)
theorem Zwe (a : Bool) : imp true a = a := by cases a <;> rfl
theorem Zn1 (a : Bool) : imp a true = true := by cases a <;> rfl
theorem Zk9 (a b c : Bool) : imp (a && b) c = (imp a c || imp b c) := by cases a <;> cases b <;> cases c <;> rfl
theorem Zgj (a b c : Bool) : imp a (b && c) = (imp a b && imp a c) := by cases a <;> cases b <;> cases c <;> rfl
theorem Zr8 (a b : Bool) : (imp a b || imp b a) = true := by cases a <;> cases b <;> rfl
end
section
variable (E : Env) (tot d nm ty n : Nat) (gs : List G) (σ : St)
theorem Y1o : Za E tot [] σ = some σ := (rfl)
theorem Y4v (x : Opd) : Za E tot (.o (.mv d x) :: gs) σ = bnd (some (ev σ x)) fun a => Za E tot gs ⟨upd σ.s d a, σ.h, σ.n, σ.base⟩ := by
 simp only [Za, Yc, step, AOp.yields, Zu, Zn, Zv, put]
theorem Y4i (sl : Nat) (w : Bool) (x : Opd) : Za E tot (.g sl w (.mv d x) :: gs) σ = bnd (Wt w (σ.s sl)) fun t => bnd (Xt t σ (some d) (evp t σ x)) (Za E tot gs) := by
 simp only [Za, Yc, AOp.yields, AOp.dst, Zu, Zn, Zv, put, test]
theorem Zzz (c a b : Opd) : Za E tot (.o (.pick d c a b) :: gs) σ = bnd (bnd (isQ (ev σ c)) fun q => bnd (evq q σ a) fun x => bnd (evq (!q) σ b) fun y => some (A.v (.bool (bif q then x else y)))) fun a => Za E tot gs ⟨upd σ.s d a, σ.h, σ.n, σ.base⟩ := by
 simp only [Za, Yc, step, AOp.yields, Zu, Zn, Zv, put]
theorem Y0c (sl : Nat) (w : Bool) (c a b : Opd) : Za E tot (.g sl w (.pick d c a b) :: gs) σ = bnd (Wt w (σ.s sl)) fun t => bnd (Xt t σ (some d) (bnd (bnd (evp t σ c) isQ) fun q => bnd (evq (t && q) σ a) fun x => bnd (evq (t && !q) σ b) fun y => some (A.v (.bool (bif q then x else y))))) (Za E tot gs) := by
 simp only [Za, Yc, AOp.yields, AOp.dst, Zu, Zn, Zv, put, test]
theorem Y5g (g : Bool) (p : Opd) : Za E tot (.o (.ld d n g p) :: gs) σ = bnd (bnd (Z7u σ.h (ev σ p)) (segA n g)) fun a => Za E tot gs ⟨upd σ.s d a, σ.h, σ.n, σ.base⟩ := by
 simp only [Za, Yc, step, AOp.yields, Zu, Zn, Zv, put]
theorem Y66 (sl : Nat) (w : Bool) (g : Bool) (p : Opd) : Za E tot (.g sl w (.ld d n g p) :: gs) σ = bnd (Wt w (σ.s sl)) fun t => bnd (Xt t σ (some d) (bnd (bnd (evp t σ p) (Z7u σ.h)) (segA n g))) (Za E tot gs) := by
 simp only [Za, Yc, AOp.yields, AOp.dst, Zu, Zn, Zv, put, test]
theorem Y2o (op : BinOp) (x y : Opd) : Za E tot (.o (.bin d op x y) :: gs) σ = bnd (binA op (ev σ x) (ev σ y)) fun a => Za E tot gs ⟨upd σ.s d a, σ.h, σ.n, σ.base⟩ := by
 simp only [Za, Yc, step, AOp.yields, Zu, Zn, Zv, put]
theorem Y3f (sl : Nat) (w : Bool) (op : BinOp) (x y : Opd) : Za E tot (.g sl w (.bin d op x y) :: gs) σ = bnd (Wt w (σ.s sl)) fun t => bnd (Xt t σ (some d) (bnd (evp t σ x) fun a => bnd (evp t σ y) (binA op a))) (Za E tot gs) := by
 simp only [Za, Yc, AOp.yields, AOp.dst, Zu, Zn, Zv, put, test]
theorem Y47 (ks : List Nat) (ng : Bool) (x y : Opd) : Za E tot (.o (.eqs d ks ng x y) :: gs) σ = bnd (eqsA ks ng (ev σ x) (ev σ y)) fun a => Za E tot gs ⟨upd σ.s d a, σ.h, σ.n, σ.base⟩ := by
 simp only [Za, Yc, step, AOp.yields, Zu, Zn, Zv, put]
theorem Y37 (sl : Nat) (w : Bool) (ks : List Nat) (ng : Bool) (x y : Opd) : Za E tot (.g sl w (.eqs d ks ng x y) :: gs) σ = bnd (Wt w (σ.s sl)) fun t => bnd (Xt t σ (some d) (bnd (evp t σ x) fun a => bnd (evp t σ y) (eqsA ks ng a))) (Za E tot gs) := by
 simp only [Za, Yc, AOp.yields, AOp.dst, Zu, Zn, Zv, put, test]
theorem Y1z (ng : Bool) (x y : Opd) : Za E tot (.o (.beq d ng x y) :: gs) σ = bnd (beqA ng (ev σ x) (ev σ y)) fun a => Za E tot gs ⟨upd σ.s d a, σ.h, σ.n, σ.base⟩ := by
 simp only [Za, Yc, step, AOp.yields, Zu, Zn, Zv, put]
theorem Y29 (sl : Nat) (w : Bool) (ng : Bool) (x y : Opd) : Za E tot (.g sl w (.beq d ng x y) :: gs) σ = bnd (Wt w (σ.s sl)) fun t => bnd (Xt t σ (some d) (bnd (evp t σ x) fun a => bnd (evp t σ y) (beqA ng a))) (Za E tot gs) := by
 simp only [Za, Yc, AOp.yields, AOp.dst, Zu, Zn, Zv, put, test]
theorem Y61 (op : UnOp) (x : Opd) : Za E tot (.o (.un d op x) :: gs) σ = bnd (unA op (ev σ x)) fun a => Za E tot gs ⟨upd σ.s d a, σ.h, σ.n, σ.base⟩ := by
 simp only [Za, Yc, step, AOp.yields, Zu, Zn, Zv, put]
theorem Y53 (sl : Nat) (w : Bool) (op : UnOp) (x : Opd) : Za E tot (.g sl w (.un d op x) :: gs) σ = bnd (Wt w (σ.s sl)) fun t => bnd (Xt t σ (some d) (bnd (evp t σ x) (unA op))) (Za E tot gs) := by
 simp only [Za, Yc, AOp.yields, AOp.dst, Zu, Zn, Zv, put, test]
theorem Y7i (k : IntKind) (x : Opd) : Za E tot (.o (.cv d k x) :: gs) σ = bnd (cvA k (ev σ x)) fun a => Za E tot gs ⟨upd σ.s d a, σ.h, σ.n, σ.base⟩ := by
 simp only [Za, Yc, step, AOp.yields, Zu, Zn, Zv, put]
theorem Y7f (sl : Nat) (w : Bool) (k : IntKind) (x : Opd) : Za E tot (.g sl w (.cv d k x) :: gs) σ = bnd (Wt w (σ.s sl)) fun t => bnd (Xt t σ (some d) (bnd (evp t σ x) (cvA k))) (Za E tot gs) := by
 simp only [Za, Yc, AOp.yields, AOp.dst, Zu, Zn, Zv, put, test]
theorem Y2a (e : Nat) (x : Opd) : Za E tot (.o (.cbs d e x) :: gs) σ = bnd (bnd (bnd (Z0r e σ.h (ev σ x)) Z2s) fun l => some (A.v (.string ⟨l.toArray⟩))) fun a => Za E tot gs ⟨upd σ.s d a, σ.h, σ.n, σ.base⟩ := by
 simp only [Za, Yc, step, AOp.yields, Zu, Zn, Zv, put]
theorem Y35 (sl e : Nat) (w : Bool) (x : Opd) : Za E tot (.g sl w (.cbs d e x) :: gs) σ = bnd (Wt w (σ.s sl)) fun t => bnd (Xt t σ (some d) (bnd (bnd (bnd (evp t σ x) (Z0r e σ.h)) Z2s) fun l => some (A.v (.string ⟨l.toArray⟩)))) (Za E tot gs) := by
 simp only [Za, Yc, AOp.yields, AOp.dst, Zu, Zn, Zv, put, test]
theorem Y7c (x : Opd) (off : Nat) : Za E tot (.o (.fa d x off) :: gs) σ = bnd (faA off (ev σ x)) fun a => Za E tot gs ⟨upd σ.s d a, σ.h, σ.n, σ.base⟩ := by
 simp only [Za, Yc, step, AOp.yields, Zu, Zn, Zv, put]
theorem Y5z (sl : Nat) (w : Bool) (x : Opd) (off : Nat) : Za E tot (.g sl w (.fa d x off) :: gs) σ = bnd (Wt w (σ.s sl)) fun t => bnd (Xt t σ (some d) (bnd (evp t σ x) (faA off))) (Za E tot gs) := by
 simp only [Za, Yc, AOp.yields, AOp.dst, Zu, Zn, Zv, put, test]
theorem Y2z (x : Opd) (off : Nat) (g : Bool) : Za E tot (.o (.fld d x off n g) :: gs) σ = bnd (fldA off n g (ev σ x)) fun a => Za E tot gs ⟨upd σ.s d a, σ.h, σ.n, σ.base⟩ := by
 simp only [Za, Yc, step, AOp.yields, Zu, Zn, Zv, put]
theorem Y24 (sl : Nat) (w : Bool) (x : Opd) (off : Nat) (g : Bool) : Za E tot (.g sl w (.fld d x off n g) :: gs) σ = bnd (Wt w (σ.s sl)) fun t => bnd (Xt t σ (some d) (bnd (evp t σ x) (fldA off n g))) (Za E tot gs) := by
 simp only [Za, Yc, AOp.yields, AOp.dst, Zu, Zn, Zv, put, test]
theorem Y4y (e : Nat) (x i : Opd) : Za E tot (.o (.ia d e x i) :: gs) σ = bnd (iaA e (ev σ x) (ev σ i)) fun a => Za E tot gs ⟨upd σ.s d a, σ.h, σ.n, σ.base⟩ := by
 simp only [Za, Yc, step, AOp.yields, Zu, Zn, Zv, put]
theorem Y5v (sl e : Nat) (w : Bool) (x i : Opd) : Za E tot (.g sl w (.ia d e x i) :: gs) σ = bnd (Wt w (σ.s sl)) fun t => bnd (Xt t σ (some d) (bnd (evp t σ x) fun a => bnd (evp t σ i) (iaA e a))) (Za E tot gs) := by
 simp only [Za, Yc, AOp.yields, AOp.dst, Zu, Zn, Zv, put, test]
theorem Y68 (x i : Opd) : Za E tot (.o (.ix d x i) :: gs) σ = bnd (ixA (ev σ x) (ev σ i)) fun a => Za E tot gs ⟨upd σ.s d a, σ.h, σ.n, σ.base⟩ := by
 simp only [Za, Yc, step, AOp.yields, Zu, Zn, Zv, put]
theorem Y5b (sl : Nat) (w : Bool) (x i : Opd) : Za E tot (.g sl w (.ix d x i) :: gs) σ = bnd (Wt w (σ.s sl)) fun t => bnd (Xt t σ (some d) (bnd (evp t σ x) fun a => bnd (evp t σ i) (ixA a))) (Za E tot gs) := by
 simp only [Za, Yc, AOp.yields, AOp.dst, Zu, Zn, Zv, put, test]
theorem Z1i (x : Opd) (i : Nat) : Za E tot (.o (.ex d x i) :: gs) σ = bnd (exA i (ev σ x)) fun a => Za E tot gs ⟨upd σ.s d a, σ.h, σ.n, σ.base⟩ := by
 simp only [Za, Yc, step, AOp.yields, Zu, Zn, Zv, put]
theorem Y73 (sl : Nat) (w : Bool) (x : Opd) (i : Nat) : Za E tot (.g sl w (.ex d x i) :: gs) σ = bnd (Wt w (σ.s sl)) fun t => bnd (Xt t σ (some d) (bnd (evp t σ x) (exA i))) (Za E tot gs) := by
 simp only [Za, Yc, AOp.yields, AOp.dst, Zu, Zn, Zv, put, test]
theorem Y3y (str : Bool) (x : Opd) : Za E tot (.o (.len d str x) :: gs) σ = bnd (lenA str (ev σ x)) fun a => Za E tot gs ⟨upd σ.s d a, σ.h, σ.n, σ.base⟩ := by
 simp only [Za, Yc, step, AOp.yields, Zu, Zn, Zv, put]
theorem Y39 (sl : Nat) (w str : Bool) (x : Opd) : Za E tot (.g sl w (.len d str x) :: gs) σ = bnd (Wt w (σ.s sl)) fun t => bnd (Xt t σ (some d) (bnd (evp t σ x) (lenA str))) (Za E tot gs) := by
 simp only [Za, Yc, AOp.yields, AOp.dst, Zu, Zn, Zv, put, test]
theorem Y2g (mx : Bool) (x y : Opd) : Za E tot (.o (.mnx d mx x y) :: gs) σ = bnd (mnxA mx (ev σ x) (ev σ y)) fun a => Za E tot gs ⟨upd σ.s d a, σ.h, σ.n, σ.base⟩ := by
 simp only [Za, Yc, step, AOp.yields, Zu, Zn, Zv, put]
theorem Y3j (sl : Nat) (w : Bool) (mx : Bool) (x y : Opd) : Za E tot (.g sl w (.mnx d mx x y) :: gs) σ = bnd (Wt w (σ.s sl)) fun t => bnd (Xt t σ (some d) (bnd (evp t σ x) fun a => bnd (evp t σ y) (mnxA mx a))) (Za E tot gs) := by
 simp only [Za, Yc, AOp.yields, AOp.dst, Zu, Zn, Zv, put, test]
theorem Y5u (dd : Option Nat) (x : Opd) : Za E tot (.o (.nl dd x) :: gs) σ = bnd (nlA (ev σ x)) fun a => Za E tot gs ⟨put σ.s dd a, σ.h, σ.n, σ.base⟩ := by
 simp only [Za, Yc, step, AOp.yields, Zu, Zn, Zv, put]
theorem Y5w (dd : Option Nat) (sl : Nat) (w : Bool) (x : Opd) : Za E tot (.g sl w (.nl dd x) :: gs) σ = bnd (Wt w (σ.s sl)) fun t => bnd (Xt t σ dd (bnd (evp t σ x) nlA)) (Za E tot gs) := by
 simp only [Za, Yc, AOp.yields, AOp.dst, Zu, Zn, Zv, put, test]
theorem Y1x : Za E tot (.o (.mvn d nm ty) :: gs) σ = bnd (some ⟨upd σ.s d (.ref ty (σ.n + nm) 0 0 0 false), upd σ.h (σ.n + nm) (some ⟨ty, [], true, false⟩), σ.n, σ.base⟩) (Za E tot gs) := (rfl)
theorem Y5e (zs : List A) : Za E tot (.o (.al d nm ty zs) :: gs) σ = bnd (some ⟨upd σ.s d (.ptr (σ.n + nm) 0 0), upd (Zt σ.h (σ.n + nm + 1) zs).2 (σ.n + nm) (some ⟨ty, [(Zt σ.h (σ.n + nm + 1) zs).1], true, true⟩), σ.n, σ.base⟩) (Za E tot gs) := (rfl)
theorem Y2r (x : Opd) : Za E tot (.o (.box d nm ty n x) :: gs) σ = bnd (if (ev σ x).cells.length = n ∧ Zd (ev σ x).cells then some ⟨upd σ.s d (.ptr (σ.n + nm) 0 0), upd σ.h (σ.n + nm) (some ⟨ty, [(ev σ x).cells], true, true⟩), σ.n, σ.base⟩ else none) (Za E tot gs) := (rfl)
theorem Y1u (zs : List A) (ps : List (Nat × Nat × Opd)) : Za E tot (.o (.bld d nm zs ps) :: gs) σ = bnd (bnd (Zat σ (Zt σ.h (σ.n + nm) zs).1 ps) fun cs => some ⟨upd σ.s d (.agg cs), (Zt σ.h (σ.n + nm) zs).2, σ.n, σ.base⟩) (Za E tot gs) := (rfl)
theorem Y3h (xs : List Opd) : Za E tot (.o (.bsl d nm ty n xs) :: gs) σ = bnd (bnd (Z3c σ n xs) fun rows => some ⟨upd σ.s d (.ref ty (σ.n + nm) 0 rows.length rows.length true), frz (upd σ.h (σ.n + nm) (some ⟨ty, rows, true, false⟩)) (Xb σ xs), σ.n, σ.base⟩) (Za E tot gs) := (rfl)
theorem Y5m (p x : Opd) : Za E tot (.o (.st n p x) :: gs) σ = bnd (bnd (storeAt σ.base σ.h (ev σ p) n (ev σ x)) fun h => some ⟨σ.s, h, σ.n, σ.base⟩) (Za E tot gs) := (rfl)
theorem Y2c (p : Opd) : Za E tot (.o (.stn nm ty p) :: gs) σ = bnd (bnd (storeAt σ.base (upd σ.h (σ.n + nm) (some ⟨ty, [], true, false⟩)) (ev σ p) 1 (.ref ty (σ.n + nm) 0 0 0 false)) fun h => some ⟨σ.s, h, σ.n, σ.base⟩) (Za E tot gs) := (rfl)
theorem Y2d (f : Nat) (caps : List Opd) : Za E tot (.o (.mkf d f caps) :: gs) σ = bnd (if Wf (evs σ caps) = true then some ⟨upd σ.s d (.fn f (evs σ caps)), σ.h, σ.n, σ.base⟩ else none) (Za E tot gs) := (rfl)
theorem Y3t (zs : List A) (l c : Opd) : Za E tot (.o (.mks d nm ty zs l c) :: gs) σ = bnd (mksA σ d nm ty zs (ev σ l) (ev σ c)) (Za E tot gs) := (rfl)
theorem Y6l (e : Option Nat) (x : Opd) (lo hi mx : Option Opd) : Za E tot (.o (.sl d e x lo hi mx) :: gs) σ = bnd (bnd (Z5t σ e lo hi mx (ev σ x)) fun a => some ⟨upd σ.s d a, σ.h, σ.n, σ.base⟩) (Za E tot gs) := (rfl)
theorem Y0u (dd : Option Nat) (w f : Nat) (xs : List Opd) : Za E tot (.o (.call dd nm w f xs) :: gs) σ = bnd (Z2d E σ dd nm w f (evs σ xs)) (Za E tot gs) := (rfl)
theorem Zvn (dd : Option Nat) (w : Nat) (f : Opd) (xs : List Opd) : Za E tot (.o (.callv dd nm w f xs) :: gs) σ = bnd (bnd (fnA (ev σ f)) fun p => Z2d E σ dd nm w p.1 (evs σ xs ++ p.2)) (Za E tot gs) := (rfl)
theorem Zxk (dd : Option Nat) (f : Nat) (xs : List Opd) : Za E tot (.o (.dcall dd f xs) :: gs) σ = bnd (doDc E tot σ dd f (evs σ xs)) (Za E tot gs) := (rfl)
theorem Y3s (dd : Option Nat) (f : Nat) (xs : List Opd) : Za E tot (.o (.dcf dd f xs) :: gs) σ = bnd (Zmb E tot σ dd f (evs σ xs)) (Za E tot gs) := (rfl)
theorem Zuu (dd : Option Nat) (f : Opd) (xs : List Opd) : Za E tot (.o (.dcallv dd f xs) :: gs) σ = bnd (bnd (fnA (ev σ f)) fun p => doDc E tot σ dd p.1 (evs σ xs ++ p.2)) (Za E tot gs) := (rfl)
theorem Y44 (e : Nat) (s x : Opd) : Za E tot (.o (.app d nm e s x) :: gs) σ = bnd (bnd (Z0r e σ.h (ev σ x)) fun ys => appA σ d nm e ys (ev σ s)) (Za E tot gs) := (rfl)
theorem Y1y (e : Nat) (zs : List A) (x : Opd) : Za E tot (.o (.clr e zs x) :: gs) σ = bnd (clrA σ e zs (ev σ x)) (Za E tot gs) := (rfl)
theorem Zzw (sl ww : Nat) (w : Bool) (dd : Option Nat) (f : Nat) (xs : List Opd) : Za E tot (.g sl w (.call dd nm ww f xs) :: gs) σ = bnd (Wt w (σ.s sl)) fun t => bnd (Xc t σ dd (bnd (bnd (bnd (xs.mapM fun x => evp t σ x) (Z0u σ.h)) (E.call f)) Zef) (bnd (Z2d E (strip σ) dd nm ww f (evs (strip σ) xs)) (back σ dd))) (Za E tot gs) := by
 simp only [Za, Yc, AOp.yields, AOp.dst, Zu, Zv, test]; rfl
theorem Zzb (sl : Nat) (w : Bool) (zs : List A) : Za E tot (.g sl w (.bld d nm zs []) :: gs) σ = bnd (Wt w (σ.s sl)) fun t => bnd (Xc t σ (some d) (if Z7e zs then none else some (.agg zs)) (bnd (step E tot (.bld d nm zs []) (strip σ)) (back σ (some d)))) (Za E tot gs) := by
 simp only [Za, Yc, AOp.yields, AOp.dst, Zu, Zv, test]
theorem Zxs (sl ww : Nat) (w : Bool) (dd : Option Nat) (f : Opd) (xs : List Opd) : Za E tot (.g sl w (.callv dd nm ww f xs) :: gs) σ = bnd (Wt w (σ.s sl)) fun t => bnd (Xc t σ dd none (bnd (bnd (fnA (ev (strip σ) f)) fun p => Z2d E (strip σ) dd nm ww p.1 (evs (strip σ) xs ++ p.2)) (back σ dd))) (Za E tot gs) := by
 simp only [Za, Yc, AOp.yields, AOp.dst, Zu, Zv, test, step]
theorem Zw3 (sl : Nat) (w : Bool) (dd : Option Nat) (f : Nat) (xs : List Opd) : Za E tot (.g sl w (.dcall dd f xs) :: gs) σ = bnd (Wt w (σ.s sl)) fun t => bnd (Xc t σ dd none (bnd (doDc E tot (strip σ) dd f (evs (strip σ) xs)) (back σ dd))) (Za E tot gs) := by
 simp only [Za, Yc, AOp.yields, AOp.dst, Zu, Zv, test, step]
theorem Y6h (sl : Nat) (w : Bool) (e : Option Nat) (x : Opd) (lo hi mx : Option Opd) : Za E tot (.g sl w (.sl d e x lo hi mx) :: gs) σ = bnd (Wt w (σ.s sl)) fun t => bnd (Xc t σ (some d) none (bnd (bnd (Z5t (strip σ) e lo hi mx (ev (strip σ) x)) fun a => some ⟨upd (strip σ).s d a, (strip σ).h, (strip σ).n, (strip σ).base⟩) (back σ (some d)))) (Za E tot gs) := by
 simp only [Za, Yc, AOp.yields, AOp.dst, Zu, Zv, test, step]
theorem Y3o (zs : List A) (l c : Opd) : Za E tot (.o (.mkb d nm ty zs l c) :: gs) σ = bnd (mkbA σ d nm ty zs (ev σ l) (ev σ c)) (Za E tot gs) := (rfl)
theorem Y3i (xs : List Opd) : Za E tot (.o (.bsb d nm ty n xs) :: gs) σ = bnd (bnd (Z3f σ n xs) fun rows => some ⟨upd σ.s d (.ref ty (σ.n + nm) 0 rows.length rows.length true), upd σ.h (σ.n + nm) (some ⟨ty, rows, true, true⟩), σ.n, σ.base⟩) (Za E tot gs) := (rfl)
theorem Y1n (e : Nat) (s x : Opd) : Za E tot (.o (.apb d nm e s x) :: gs) σ = bnd (bnd (Z7a true e σ.h (ev σ x)) fun ys => appG true σ d nm e ys (ev σ s)) (Za E tot gs) := (rfl)
theorem Zxd (dd : Option Nat) (w f : Nat) (xs : List Opd) : Za E tot (.o (.callx dd nm w f xs) :: gs) σ = bnd (Z2q E σ dd nm w f (evs σ xs)) (Za E tot gs) := (rfl)
theorem Y1l (dd : Option Nat) (f : Nat) (xs : List Opd) : Za E tot (.o (.dcs dd f xs) :: gs) σ = bnd (Zmj E tot σ dd f (evs σ xs)) (Za E tot gs) := (rfl)
theorem Y28 (xs : List Opd) : Za E tot (.o (.bll d ty n xs) :: gs) σ = bnd (bnd (Z3o σ n xs) fun rows => some ⟨upd σ.s d (.lit ty rows), σ.h, σ.n, σ.base⟩) (Za E tot gs) := (rfl)
theorem Zm3 (t : Bool) (dd : Option Nat) (a : A) : Xt t σ dd (some a) = some ⟨put σ.s dd (.ifg t a), σ.h, σ.n, σ.base⟩ := (rfl)
theorem Zlg (t : Bool) (dd : Option Nat) : Xt t σ dd none = bif t then none else some ⟨put σ.s dd .und, σ.h, σ.n, σ.base⟩ := (rfl)
theorem Zlj (t : Bool) (dd : Option Nat) (a : A) (k : Option St) : Xc t σ dd (some a) k = some ⟨put σ.s dd (.ifg t a), σ.h, σ.n, σ.base⟩ := (rfl)
theorem Zln (t : Bool) (dd : Option Nat) (k : Option St) : Xc t σ dd none k = bif t then k else some ⟨put σ.s dd .und, σ.h, σ.n, σ.base⟩ := (rfl)
theorem ev_t (k : Nat) : ev σ (.t k) = σ.s k := (rfl)
theorem ev_k (a : A) : ev σ (.k a) = a := (rfl)
theorem Y65 (t : Bool) (x : Value) : evp t σ (.k (.v x)) = some (.v x) := (rfl)
theorem Y78 (t : Bool) (k : Nat) : evp t σ (.t k) = opA t (σ.s k) := (rfl)
theorem Y67 (t x : Bool) : evq t σ (.k (.v (.bool x))) = some x := (rfl)
theorem Y5l (t : Bool) (k : Nat) : evq t σ (.t k) = opQ t (σ.s k) := (rfl)
end
section
variable (t g : Bool) (a : A) (x : Value) (q : Bool)
theorem Zze : opA t (.ifg g a) = if imp t g then some a else none := (rfl)
theorem Y4u : opA t (.v x) = some (.v x) := (rfl)
theorem Y0r (cs : List A) : opA t (.agg cs) = some (.agg cs) := (rfl)
theorem Y14 (b i j : Nat) : opA t (.ptr b i j) = some (.ptr b i j) := (rfl)
theorem Y33 (r : List A) (j : Nat) : opA t (.pl r j) = some (.pl r j) := (rfl)
theorem Y0e (ty : Nat) (r : List (List A)) : opA t (.lit ty r) = some (.lit ty r) := (rfl)
theorem Y0o (ty b o l c : Nat) (e : Bool) : opA t (.ref ty b o l c e) = some (.ref ty b o l c e) := (rfl)
theorem Y4a (f : Nat) (c : List A) : opA t (.fn f c) = some (.fn f c) := (rfl)
theorem Zzc : opA t .und = some .und := (rfl)
theorem Y04 (op : UnOp) : unA op .und = none := (rfl)
theorem Zuv (op : BinOp) (y : A) : binA op .und y = none := (rfl)
theorem Zub (op : BinOp) : binA op (.v x) .und = none := (rfl)
theorem Y0m (c : List A) : opA t (.tup c) = some (.tup c) := (rfl)
theorem Y0b : opQ t (.ifg g (.v (.bool q))) = if imp t g then some q else none := (rfl)
theorem Y6t : opQ t (.v (.bool q)) = some q := (rfl)
theorem Y0d : opQ t .und = if t then none else some false := (rfl)
theorem Zx6 : Wt true (.v (.bool q)) = some q := (rfl)
theorem Zx2 : Wt false (.v (.bool q)) = some (!q) := (rfl)
theorem Zrz : Wt true (.ifg g (.v (.bool q))) = some (g && q) := (rfl)
theorem Zt3 : Wt false (.ifg g (.v (.bool q))) = some (g && !q) := (rfl)
theorem Zs9 (w : Bool) : Wt w .und = some false := (rfl)
variable (k : IntKind) (m n : Int) (u w : ByteArray) (p : Bool)
theorem Zzv : binA .add (.v (.int k m)) (.v (.int k n)) = some (.v (.int k (k.wrap (m + n)))) := by simp [binA, binV, binI, bnd]
theorem Y05 : binA .sub (.v (.int k m)) (.v (.int k n)) = some (.v (.int k (k.wrap (m - n)))) := by simp [binA, binV, binI, bnd]
theorem Y02 : binA .mul (.v (.int k m)) (.v (.int k n)) = some (.v (.int k (k.wrap (m * n)))) := by simp [binA, binV, binI, bnd]
theorem Y1b : binA .quo (.v (.int k m)) (.v (.int k n)) = if n = 0 then none else some (.v (.int k (k.wrap (m.tdiv n)))) := by simp [binA, binV, binI]; split <;> rfl
theorem Zzl : binA .rem (.v (.int k m)) (.v (.int k n)) = if n = 0 then none else some (.v (.int k (m.tmod n))) := by simp [binA, binV, binI]; split <;> rfl
theorem Y1d : binA .xor (.v (.int k m)) (.v (.int k n)) = some (.v (.int k (k.wrap (BitVec.ofInt k.bits m ^^^ BitVec.ofInt k.bits n).toNat))) := by simp [binA, binV, binI, bnd]
theorem Zyo : binA .eql (.v (.int k m)) (.v (.int k n)) = some (.v (.bool (decide (m = n)))) := by simp [binA, binV, binI, bnd]
theorem Zzo : binA .neq (.v (.int k m)) (.v (.int k n)) = some (.v (.bool (!decide (m = n)))) := by simp [binA, binV, binI, bnd]
theorem Y0y : binA .lss (.v (.int k m)) (.v (.int k n)) = some (.v (.bool (decide (m < n)))) := by simp [binA, binV, binI, bnd]
theorem Zzx : binA .leq (.v (.int k m)) (.v (.int k n)) = some (.v (.bool (decide (m ≤ n)))) := by simp [binA, binV, binI, bnd]
theorem Zyv : binA .gtr (.v (.int k m)) (.v (.int k n)) = some (.v (.bool (decide (n < m)))) := by simp [binA, binV, binI, bnd]
theorem Y12 : binA .geq (.v (.int k m)) (.v (.int k n)) = some (.v (.bool (decide (n ≤ m)))) := by simp [binA, binV, binI, bnd]
theorem Zvq : binA .add (.v (.string u)) (.v (.string w)) = if u.size + w.size ≤ 2 ^ 62 then some (.v (.string (u ++ w))) else none := by simp [binA, binV, binS]; split <;> rfl
theorem Zv7 : binA .eql (.v (.string u)) (.v (.string w)) = some (.v (.bool (decide (u = w)))) := (rfl)
theorem Zwr : binA .neq (.v (.string u)) (.v (.string w)) = some (.v (.bool (!decide (u = w)))) := (rfl)
theorem Zvg : binA .lss (.v (.string u)) (.v (.string w)) = some (.v (.bool (Z3h u.toList w.toList))) := (rfl)
theorem Y2s (ng : Bool) : beqA ng (.v (.bool q)) (.v (.bool p)) = some (.v (.bool (bif ng then !decide (q = p) else decide (q = p)))) := (rfl)
theorem Zqj : Z0a 0 (.v (.int k m)) (.v (.int k n)) = some (decide (m = n)) := by simp [Z0a]
theorem Zpj : Z0a 1 (.v (.string u)) (.v (.string w)) = some (decide (u = w)) := (rfl)
theorem Zls : Z0a 2 (.v (.bool q)) (.v (.bool p)) = some (decide (q = p)) := (rfl)
theorem Y2y : unA .not (.v (.bool q)) = some (.v (.bool (!q))) := (rfl)
theorem Y32 : unA .neg (.v (.int k m)) = some (.v (.int k (k.wrap (0 - m)))) := (rfl)
theorem Zzj (w : Bool) : mnxA w (.v (.int k m)) (.v (.int k n)) = some (.v (.int k (bif w then max m n else min m n))) := by simp [mnxA]
end
theorem Zx5 (E : Env) (N : List Nat) : (chk E N).call = E.call := (rfl)
theorem Y2u (E : Env) (N : List Nat) (f : Nat) (as : List A) (h : Hp) (n : Nat) {r : List A × Hp × Nat} (e : E.dc f as h n = some r) (hk : Za7 N h r.2.1) : (chk E N).dc f as h n = some r := by
 simp only [chk, e, Zn]
 rw [if_pos hk]
attribute [go_sem] Y3s Zmb Shr.zero Y28 Z3o isV Zx5 Z1w Z13
attribute [go_sem] Y3o Y3i Y1n Zxd Y1l Z7a appG mkbA Z3f Z2q Zmj Zdd clDs clDV clD Z0o
attribute [go_sem] Y1o Y4v Y4i Zzz Y0c Y5g Y66 Y2o Y3f Y47 Y37 Y61 Y53 Y7i Y7f Y2a Y35 Y7c Y5z Y2z Y24 Y4y Y5v Y68 Y5b Z1i Y73 Y3y Y39 Y2g Y3j Y5u Y5w Y1x Y5e Y2r Y1u Y3h Y5m Y2c Y2d Y3t Y6l Y0u Zvn Zxk Zuu Y44 Y1y Zzw Zxs Zw3 Y6h Zzb Zm3 Zlg Zlj Zln ev_t ev_k Y65 Y78 Y67 Y5l Zze Y4u Y0r Y14 Y33 Y0e Y0o Y4a Zzc Y04 Zuv Zub Y0m Y0b Y6t Y0d Zx6 Zx2 Zrz Zt3 Zs9
attribute [go_sem] Zzv Y05 Y02 Y1b Zzl Y1d Zyo Zzo Y0y Zzx Zyv Y12 Zvq Zv7 Zwr Zvg Y2s Y1z Y29 Zqj Zpj Zls Y2y Y32 Zzj eqsA cvA faA fldA iaA ixA exA lenA isQ nlA Zef plain segA val Yu
attribute [go_sem] Zr8 Zgj Zk9 Zsm Zwe Zn1
attribute [go_sem] Zvi
attribute [go_sem] Zn Zv3 Zwb Zre Zqs Zu4 Zvw Zst Zxx Zwd Zxt Zzi Zvv Zr3 Ztc Zv4 Zqy Zw9 Zwq Zw5
attribute [go_sem] Zmr Wf strip back unT Z7 Zwc exec slots put evs fnA Z5t appA clrA mksA aft natA optI Z2d doDc res resD Z47 Zs7 Z6v Zvt Z3s Zb5 A.cells seg
attribute [go_sem] Z0u Z9t W8 Z0e Z6m Z60 Z3c Xb Z4m Zq2 Zk2 notV Zi4 W9 Wl Z7e Zz Z1x Zs pack Z4w Z4o Y9 Nat.not_lt_zero Nat.lt_irrefl
attribute [go_sem] Z7u Z0r storeAt Z4c Z0q Zd Zt Zat Z1y Zch Zz6 frz Zi X7 Xa Z9n Z1b Z38
attribute [go_sem] canon Zcs Yh Zam sepV seps nmX List.all_cons List.all_nil List.contains_cons List.contains_nil Z53 Z0c Z09 Z4x Z6q nmIn Z5x below Vs nw posn ren rens ren1 Zmo Z4p Z40 Z45
attribute [go_sem] ite_true ite_false if_true if_false Bool.and_true Bool.true_and Bool.and_false Bool.false_and Bool.or_true Bool.true_or Bool.or_false Bool.false_or Bool.not_true Bool.not_false cond_true cond_false Bool.not_not
attribute [go_sem] List.length_cons List.length_nil List.take_succ_cons List.take_zero List.drop_succ_cons List.drop_zero List.take_nil List.drop_nil List.getD_cons_zero List.getD_cons_succ List.getElem?_cons_zero List.getElem?_cons_succ List.headD_cons List.map_cons List.map_nil List.mapM_cons List.mapM_nil List.nil_append List.cons_append List.append_nil List.set_cons_zero List.set_cons_succ List.mem_cons List.not_mem_nil List.length_set
attribute [go_sem] Bool.cond_true_left Bool.cond_false_right Bool.cond_false_left Bool.cond_true_right beq_self_eq_true decide_true decide_false decide_eq_true_eq not_false_eq_true and_self or_false false_or and_true true_and or_true true_or and_false false_and Nat.zero_add Nat.add_zero Bool.not_eq_true' Bool.false_eq_true not_true_eq_false
attribute [go_sem] Int.ofNat_lt Int.ofNat_le Int.natCast_nonneg Int.toNat_natCast Option.pure_def Option.bind_eq_bind Option.bind_some
end Go.Vm
attribute [go_sem] Nat.reduceEqDiff Nat.reduceAdd reduceIte reduceCtorEq Nat.reduceLeDiff Nat.reduceLT
attribute [go_sem] Nat.succ_ne_zero
end
