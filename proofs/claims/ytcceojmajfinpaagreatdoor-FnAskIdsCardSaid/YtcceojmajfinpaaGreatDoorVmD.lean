/-
  Walks by hand beside the abstract machine; loops; the lemmas that compute
-/
import Derived.Test.YtcceojmajfinpaaGreatDoorVmC
import Derived.Laws.Cover3
import Derived.Lib.AppendZerosOnto
import Derived.Laws.IdiomCopy
import Derived.Lib.Atoi
import Derived.Carry
import Derived.Deep.LoopGhost
import Derived.WideLaws
import Derived.Test.YtcceojmajfinpaaGreatDoorVmA
import Derived.Attr
section
set_option linter.unusedVariables false
set_option linter.unusedSimpArgs false
set_option linter.unusedSectionVars false
namespace Go.Vm
open Go.RowKit
variable {P : Program} {V V' V'' : Rho} {S S' S'' : Nat -> Prop} {w w' w'' : World} {B N : Nat} {h : Hp}
theorem Yc6 {p : Prog} {d f : Nat} {as : List A} {fn : AFn} (h1 : p.ext f = none) (h2 : p.fn f = some fn) : den p (d + 1) f as = Zc0 (Zg ⟨den p d, dcl p d, dfl p d⟩ fn.code ⟨slots as, fun _ => none, 0, 0⟩) (res fn.res) := by
 simp only [den, h1, h2]
theorem Ybi {p : Prog} {d f : Nat} {as : List A} {fn : AFn} {h : Hp} {n : Nat} (h1 : p.ins f = none) (h0 : p.hx f = none) (h2 : p.dfn f = some fn) : dcl p (d + 1) f as h n = Zc0 (Zg ⟨den p d, dcl p d, dfl p d⟩ fn.code ⟨slots as, h, n, n⟩) (Zq7 fn.res) := by
 simp only [dcl, h1, h0, h2]
theorem Y53 {p : Prog} {d f : Nat} {as : List A} {fn : AFn} {h : Hp} {n : Nat} (h1 : p.fl f = some fn) : dfl p (d + 1) f as h n = Zc0 (Zg ⟨den p d, dcl p d, dfl p d⟩ fn.code ⟨slots as, h, n, 0⟩) (Zq7 fn.res) := by
 simp only [dfl, h1]
theorem Zck {p : Prog} {d f : Nat} {as : List A} {F : List A -> Option (List A)} (h1 : p.ext f = some F) : den p (d + 1) f as = F as := by
 simp only [den, h1]
def Zcv (e : Nat) : List A -> Option (List A)
 | [.lit ty rows] => if ty = e /\ rows.length <= big then some [.olit e rows] else none
 | _ => none
def cl0 (e : Nat) : ACode := .rg 1 false [.o (.mvn 2 0 e)]
def clT (e : Nat) : ACode := .sq (.rg 1 false [.o (.mvn 2 0 e)]) .rt
def clR (e n : Nat) : ACode := .sq (.rg 2 false [.o (.bsl 5 0 e n []), .o (.mv 6 (.t 0)), .o (.app 7 1 e (.t 5) (.t 6)), .o (.mv 2 (.t 7))]) .rt
def Zt0 (P : Program) (e : Nat) (ops : Array Oper) : Bool :=
 match ops.toList with
 | [o1, o2] => (match o1.op with | .move (.tmp 0) => true | _ => false) && o1.guard.isNone && decide (o1.dst = some 3) &&
  (match o2.op with | .binOp .eql t (.tmp 3) (.const (.slice none 0 0)) _ => Z81 P t e | _ => false) && o2.guard.isNone && decide (o2.dst = some 4)
 | _ => false
def Zjr (P : Program) (f e : Nat) : Bool :=
 match P.funcs[f]? with
 | some F => (match F.body with
   | some (.seq r0 (.seq (.seq (.region _ ops false) (.cond (.tmp 4) thn .skip)) rest)) =>
     Yo P F.ntmps (cl0 e) r0 && Zt0 P e ops && Yo P F.ntmps (clT e) thn && Yo P F.ntmps (clR e (P.cellsOf e)) rest
   | _ => false) && Za0 P F.results.toList [.t 2] && (F.name != "runtime.NumGoroutine") && decide (8 <= F.ntmps) && decide (0 < P.cellsOf e)
 | none => false
def E0 : Env := ⟨fun _ _ => none, fun _ _ _ _ => none, fun _ _ _ _ => none⟩
theorem Ycc : EnvOk P E0 := ⟨fun f S w as rs xs e => (by cases e), fun f as rs e => (by cases e), fun f V S w B as xs h n rs h' n' e => (by cases e), fun f as h n r e => (by cases e), fun f V S w B as xs h n rs h' n' e => (by cases e), fun f as h n r e => (by cases e)⟩
theorem Y4q : Z2m E0 := ⟨fun f as h n rs h' n' e => (by cases e), fun f as h n rs h' n' e => (by cases e)⟩
theorem SW.put {U : St} {a : Act} {d : Nat} {u : A} {v : Value} (T : SW P V S B N U a w) (r : R P V S w u v) (hd : d < N) : SW P V S B N { U with s := upd U.s d u } (a.put (some d) v) w := by
 obtain ⟨V1, S1, M, T1, _, _⟩ := Fin'.SW (d := some d) (v := v) (U' := { U with s := upd U.s d u }) (iv := fun _ => False) (D := false) T ⟨u, rfl, V, S, Mv.refl _ _ _ _ _, T.heap, r, .inl ⟨rfl, .inl rfl⟩⟩ (by simp [Y2b, hd])
 exact ⟨fun t => by
  simp only [Z6, Act.put]
  by_cases ht : t = d
  . subst ht
    have hlt : t < a.tmps.size := fH hd T.size
    simp [hlt]
    exact r
  . rw [if_neg ht]
    have : (a.tmps.setIfInBounds d v).getD t undef = a.tmps.getD t undef := by
     simp [gC, gN (fun q : d = t => ht q.symm)]
    rw [this]
    exact T.slot t, by simpa [Act.put] using T.size, T.defers, T.heap, T.le⟩
theorem Y32 (e : Nat) (U : St) : Zg E0 (clT e) U = some (.ret ⟨upd U.s 2 (.ref e (U.n + 0) 0 0 0 false), upd U.h (U.n + 0) (some ⟨e, [], true, false⟩), U.n + 1, U.base⟩) := rfl
theorem Y0y {e n : Nat} {rows : List (List A)} (hbig : rows.length <= big) {U : St} (h0 : U.s 0 = .lit e rows) :
 ∃ U', Zg E0 (clR e n) U = some (.ret U') /\ U'.s 2 = .ref e (U.n + 1) 0 rows.length rows.length false /\ U'.h (U.n + 1) = some ⟨e, rows, true, false⟩ := by
 obtain ⟨s, h, m, bs⟩ := U
 simp only at h0
 have key : Zg E0 (clR e n) ⟨s, h, m, bs⟩ = some (.ret ⟨upd (upd (upd (upd s 5 (.ref e m 0 0 0 true)) 6 (.lit e rows)) 7 (.ref e (m + 1) 0 rows.length rows.length false)) 2 (.ref e (m + 1) 0 rows.length rows.length false), upd (upd (upd h m (some ⟨e, [], true, false⟩)) m none) (m + 1) (some ⟨e, rows, true, false⟩), m + 2, bs⟩) := by
  simp only [clR, Zg, Ze, Yt, step, Z50, bnd, ev, Z6, h0, rowsOf, AOp.yields, Yc, put, Wa, frz, Zv1, if_true]
  simp [Z6, hbig, Zgc, nrm]
 exact ⟨_, key, by simp [Z6], by simp [Z6]⟩
theorem Zse {h : Hp} {e b : Nat} {rows : List (List A)} (hb : h b = some ⟨e, rows, true, false⟩) : Za5 h [] [.ref e b 0 rows.length rows.length false] = some [.olit e rows] := by
 simp [Za5, Y2v, Z6r, hb, bnd]
theorem Zma {ops : Array Oper} {Q : Exit -> Act -> World -> Prop} {i : Nat} {rest : List Nat} {o : Oper} {a : Act} (hi : ops[i]? = some o) (hg : o.guard = none) (h : o.wp P a w (wpOps P ops Q rest) Q) : wpOps P ops Q (i :: rest) a w := by
 rw [wpOps_cons]
 unfold wpOp
 rw [hi]
 have hw : Region.wanted o (yielded ops a.tmps) = true := by unfold Region.wanted; rw [hg]
 simp only [hw, if_true]
 exact .inl h
theorem Zwr {ty : Nat} {rows : List (List A)} {v : Value} (hpos : 0 < P.cellsOf ty) (r : R P V S w (.lit ty rows) v) : ∃ a cap, v = .slice a rows.length cap /\ (a = none -> rows = []) := by
 cases r with
 | lit ty rows a cap Y hcap hl hc hr =>
   refine ⟨a, cap, rfl, fun ha => ?_⟩
   cases rows with
   | nil => rfl
   | cons row rows =>
     have h1 := (hl 0 row rfl).1
     cases row with
     | nil => simp at h1; omega
     | cons c cs =>
       obtain ⟨k, off, e1, _⟩ := hc 0 _ 0 c rfl rfl
       rw [ha] at e1; cases e1
theorem Zbb {f e : Nat} (ok : Zjr P f e = true) (hm : P.follows .mixedOrders = true) : Z9i P (Zcv e) f /\ Zae P f := by
 unfold Zjr at ok
 split at ok
 . rename_i F hF
   simp only [dO, eF] at ok
   obtain ⟨⟨⟨⟨o1, o2⟩, o3⟩, o4⟩, j4⟩ := ok
   split at o1
   . rename_i r0 rid ops thn rest j2
     simp only [dO] at o1
     obtain ⟨⟨⟨k0, k1⟩, kT⟩, kR⟩ := o1
     refine ⟨fun S w as rs xs he hS hG r => ?_, F, hF, by simpa using o3, by rw [j2]; rfl⟩
     unfold Zcv at he
     split at he
     . rename_i ty rows
       split at he
       . rename_i hc
         obtain ⟨rfl, jc⟩ := hc
         simp only [dK] at he
         subst he
         obtain ⟨x, jq, rfl, rx, rt⟩ := r.inv_cons
         have je := rt.inv_nil
         subst je
         have jb := Zwr j4 rx
         obtain ⟨a, cap, rfl, jl⟩ := jb
         refine calls_of_wp hF j2 ?_
         have H0 : HR P Xq S w w.heap.size (fun _ => none) := HR.empty hS hG
         have T0 : SW P Xq S w.heap.size F.ntmps ⟨slots [.lit ty rows], fun _ => none, 0, 0⟩ { tmps := [Value.slice a rows.length cap].toArray ++ Array.replicate (F.ntmps - [Value.slice a rows.length cap].toArray.size) undef, defers := [] } w :=
          ⟨fun t => Zrg (.cons rx .nil) _ t, by simp; omega, rfl, H0, dM _⟩
         have jm : Lo 0 (fun _ => none) := fun b hb => by omega
         have fin : ∀ (c : ACode) (x : Code), Yo P F.ntmps c x = true -> ∀ (V1 : Rho) (S1 : Nat -> Prop) (U1 : St) (a1 : Act) (w1 : World) (U2 : St) (q : Nat), MvX 0 w.heap.size Xq S w V1 S1 w1 -> SW P V1 S1 w.heap.size F.ntmps U1 a1 w1 -> (∀ b, U1.n <= b -> V1 b = none) -> U1.base = 0 ->
          Zg E0 c U1 = some (.ret U2) -> Za5 U2.h [] [U2.s 2] = some [.olit ty rows] -> x.wp P (fun ex a w0 => ex = .ret /\ bodyPost P F (fun | .returned v, w' => Res P S w [.olit ty rows] v w' | _, _ => False) ex a w0) a1 w1 := by
          intro c x okc V1 S1 U1 a1 w1 U2 q M1 T1 f1 b1 he jh
          have jj : Lo U1.base U1.h := by rw [b1]; exact fun b hb => by omega
          refine wp_mono (Z9u Ycc Y4q hm c x okc V1 S1 U1 a1 w1 _ he T1 f1 (by omega) jj) (fun ex a2 w2 p => ?_)
          obtain ⟨V2, S2, M2, T2, f2⟩ := p.ex
          rw [b1] at M2
          have j1 := p.same
          cases ex <;> simp only [Ya] at j1
          obtain ⟨us, j3, ji⟩ := Zal T2.heap rfl T2.slot (F := F) (rv := [.t 2]) (as := [U2.s 2]) o2 rfl
          have M := M1.trans M2
          exact ⟨rfl, T2.defers, _, j3, Zaq rfl T2.heap ji jh M.sub M.back M.below M.ext⟩
         refine wp_seq ?_
         have e0 : Zg E0 (cl0 ty) ⟨slots [.lit ty rows], fun _ => none, 0, 0⟩ = some (.norm ⟨upd (slots [.lit ty rows]) 2 (.ref ty 0 0 0 0 false), upd (fun _ => none) 0 (some ⟨ty, [], true, false⟩), 1, 0⟩) := rfl
         refine wp_mono (Z9u Ycc Y4q hm (cl0 ty) r0 k0 Xq S _ _ w _ e0 T0 (fun b _ => rfl) (dM _) jm) (fun ex a1 w1 p => ?_)
         obtain ⟨V1, S1, M1, T1, f1⟩ := p.ex
         have j1 := p.same
         cases ex <;> simp only [Ya] at j1
         simp only [Exit.then]
         simp only [Out.st] at T1 f1
         refine wp_seq (wp_seq ?_)
         unfold Zt0 at k1
         split at k1
         . rename_i p1 p2 j9
           simp only [dO, eF, fV] at k1
           obtain ⟨⟨⟨⟨⟨q1, q2⟩, q3⟩, q4⟩, q5⟩, q6⟩ := k1
           have j7 : ops = #[p1, p2] := by have := congrArg List.toArray j9; simpa using this
           have jf : R P V1 S1 w1 (.lit ty rows) (a1.tmps.getD 0 undef) := T1.slot 0
           have ja := Zwr j4 jf
           obtain ⟨a', j0, jd, j6⟩ := ja
           have hN : F.ntmps <= a1.tmps.size := T1.size
           have step : (Code.region rid ops false).wp P (fun ex a2 w2 => ex = .normal /\ w2 = w1 /\ SW P V1 S1 w.heap.size F.ntmps ⟨upd (upd (upd (slots [.lit ty rows]) 2 (.ref ty 0 0 0 0 false)) 3 (.lit ty rows)) 4 (.v (.bool a'.isNone)), upd (fun _ => none) 0 (some ⟨ty, [], true, false⟩), 1, 0⟩ a2 w1) a1 w1 := by
            refine wp_region ?_
            rw [j7]
            show wpOps P #[p1, p2] _ [0, 1] a1 w1
            refine Zma (o := p1) rfl q2 ?_
            split at q1
            . rename_i jo
              have j3 : (execOp a1.eval p1).run P w1 = .ok (.value (.slice a' rows.length j0)) w1 := by
               have : a1.eval (.tmp 0) = .slice a' rows.length j0 := jd
               simp [execOp, jo, this]
              refine X9 j3 ?_
              rw [q3]
              have T2 := T1.put (d := 3) (u := .lit ty rows) (v := .slice a' rows.length j0) (by have := T1.slot 0; rw [jd] at this; exact this) (by omega)
              refine Zma (o := p2) rfl q5 ?_
              split at q4
              . rename_i t yt jp
                have hu := Xa q4
                have jg : (a1.put (some 3) (.slice a' rows.length j0)).eval (.tmp 3) = .slice a' rows.length j0 := by
                 have h3 : 3 < a1.tmps.size := by omega
                 simp [Act.eval, Act.put, h3]
                have hk : (a1.put (some 3) (.slice a' rows.length j0)).eval (.const (.slice none 0 0)) = .slice none 0 0 := rfl
                have j8 : (execOp (a1.put (some 3) (.slice a' rows.length j0)).eval p2).run P w1 = .ok (.value (.bool a'.isNone)) w1 := by
                 have hq := run_equal_slice_nil (P := P) w1 t ty a' rows.length j0 hu
                 simp only [execOp, jp, jg, hk, dC]
                 have hg : (eqGuard .eql t (.tmp 3) (.const (.slice none 0 0)) (.slice a' rows.length j0) (.slice none 0 0)).run P w1 = .ok () w1 := by
                  simp [eqGuard]
                 rw [hg]
                 simp only [cV, binOp, dC, hq]
                 rfl
                refine X9 j8 ?_
                rw [q6]
                exact ⟨rfl, rfl, T2.put (d := 4) (u := .v (.bool a'.isNone)) (.v _ rfl) (by omega)⟩
              . cases q4
            . cases q1
           refine wp_mono step (fun ex a2 w2 hp => ?_)
           obtain ⟨rfl, rfl, T2⟩ := hp
           simp only [Exit.then]
           have jn : a2.eval (.tmp 4) = .bool a'.isNone := (R.v_inv (T2.slot 4)).1
           refine wp_cond jn ?_
           have f2 : ∀ b, 1 <= b -> V1 b = none := f1
           cases ha' : a'.isNone with
           | true =>
             have j5 : rows = [] := j6 (by simpa using ha')
             subst j5
             rw [ha'] at T2
             simp only [if_true]
             refine wp_mono (fin (clT ty) thn kT V1 S1 _ a2 w2 _ 0 M1 T2 f2 rfl (Y32 ty _) (Zse (rows := []) (by simp [Z6]))) (fun ex a3 w3 hq => ?_)
             obtain ⟨rfl, hq⟩ := hq
             exact hq
           | false =>
             rw [ha'] at T2
             simp only [eD, if_false]
             refine wp_skip ?_
             simp only [Exit.then]
             obtain ⟨U', g1, g2, g3⟩ := Y0y (e := ty) (n := P.cellsOf ty) jc (U := ⟨upd (upd (upd (slots [.lit ty rows]) 2 (.ref ty 0 0 0 0 false)) 3 (.lit ty rows)) 4 (.v (.bool false)), upd (fun _ => none) 0 (some ⟨ty, [], true, false⟩), 1, 0⟩) (by simp [Z6, slots])
             exact wp_mono (fin (clR ty (P.cellsOf ty)) rest kR V1 S1 _ a2 w2 U' 0 M1 T2 f2 rfl g1 (by rw [g2]; exact Zse g3)) (fun ex a3 w3 hq => hq.2)
         . cases k1
       . cases he
     . cases he
   . cases o1
 . cases ok
theorem Mv.fresh {iv : Nat -> Prop} {n : Nat} (M : Mv B V S w V' S' w' iv) (hf : ∀ b, n <= b -> V b = none) (hiv : ∀ b, n + 1 <= b -> ¬ iv b) (b : Nat) (hb : n + 1 <= b) : V' b = none :=
 M.new b (hf b (by omega)) (hiv b hb)
end Go.Vm
namespace Go.Vm
open Go.RowKit
variable {P : Program} {S : Nat -> Prop} {w w' : World}
theorem Zdt (hS : ∀ k, S k -> k < w.heap.size) (hb : Below w.heap.size w w') : Ext S w w' :=
 ⟨fun k hk => hb.block k (hS k hk), fun k c t e => ⟨c, by rw [hb.block k (Z2v e)]; exact e, rfl⟩, fun k es cl e => by rw [hb.block k (Z2v e)]; exact e⟩
theorem Zy6 {a : A} {v : Value} (hS : ∀ k, S k -> k < w.heap.size) (hG : GlobOk P S w) (hb : Below w.heap.size w w') (hl : ∀ n, Z3k Zh4 n a = (a, Zh4)) (r : R P Xq S w' a v) : Res P S w [a] v w' := by
 have hE := Zdt hS hb
 refine ⟨S, fun _ h => h, fun _ h => .inl h, hb, hE, fun n => ⟨Xq, fun _ _ => rfl, ?_, ?_⟩⟩
 . have : (Ym Zh4 n [a]).2 = Zh4 := by simp [Ym, hl]
   rw [this]
   exact ⟨fun b blk e => (by cases e), fun b b' k sz sz' blk blk' e => (by cases e), fun k hk => fH (hS k hk) hb.size, hG.mono (fun _ h => h) hE⟩
 . have : (Ym Zh4 n [a]).1 = [a] := by simp [Ym, hl]
   rw [this]
   exact r
def Z9d (n : Int) : ByteArray := ⟨(Lib.itoa n).toArray⟩
def Zuy : List A -> Option (List A)
 | [.v (.int .i64 n)] => if -9223372036854775808 <= n /\ n <= 9223372036854775807 then some [.s (Z9d n)] else none
 | _ => none
def Znx : List A -> Option (List A)
 | [.v (.string t)] => if t.size <= 18 then (match Lib.atoi t.data.toList with | some n => some [.v (.int .i64 n), .v .nilIface] | none => some [.v (.int .i64 0), .err]) else none
 | _ => none
def Zv2 (t : ByteArray) : Int × Int := match Lib.atoi t.data.toList with
 | some n => if -999 <= n /\ n <= 999 /\ Lib.itoa n = t.data.toList then (1, n) else (0, 0)
 | none => (0, 0)
def Zvq : List A -> Option (List A)
 | [.v (.string t)] => if t.size <= 18 then some [.agg [.n (Zv2 t).1, .n (Zv2 t).2, .s ⟨#[]⟩]] else none
 | _ => none
end Go.Vm
namespace Go.Vm
open Go.RowKit
variable {P : Program} {V V' V'' : Rho} {S S' S'' : Nat -> Prop} {w w' w'' : World} {B N : Nat} {h : Hp}
structure Ext0 (S S' : Nat -> Prop) (w w' : World) : Prop where
 same : ∀ k, S k -> S' k /\ w'.heap[k]? = w.heap[k]? \/ ∃ es cl, w.heap[k]? = some (Obj.map es cl)
 size : ∀ (k : Nat) (c : Array Value) (t : TypeId), w.heap[k]? = some (Obj.cells c t (0, 0)) -> ∃ c' : Array Value, w'.heap[k]? = some (Obj.cells c' t (0, 0)) /\ c'.size = c.size
theorem Zrq {k o : Nat} {es : Array MapEntry} {cl : Nat} (h : w.heap[k]? = some (Obj.map es cl)) : w.cell? ⟨k, o, none⟩ = none := by
 simp [World.cell?, h]
theorem R.mono0 {a : A} {x : Value} (r : R P V S w a x) : ∀ {S' : Nat -> Prop} {w' : World}, Ext0 S S' w w' -> R P V S' w' a x := by
 induction r with
 | bad x => exact fun _ => .bad x
 | err tp x => exact fun _ => .err tp x
 | und => exact fun _ => .und
 | v x h => exact fun _ => .v x h
 | lit ty rows a cap Y hcap hl hc hr ih =>
   intro S' w' E
   refine .lit ty rows a cap Y hcap hl (fun i row j x h1 h2 => ?_) (fun i row j x h1 h2 => ih i row j x h1 h2 E)
   obtain ⟨k, off, e, hk, j0⟩ := hc i row j x h1 h2
   rcases E.same k hk with ⟨h', hs⟩ | ⟨es, cl, hm⟩
   . exact ⟨k, off, e, h', by rw [<- j0]; exact World.cell?_of_block hs⟩
   . rw [Zrq hm] at j0; cases j0
 | ref ty b off len cap ex k sz c a hb hty hcap hex ha hlen hk =>
   intro S' w' E
   obtain ⟨cs, t, e, hs⟩ := hk
   obtain ⟨c', e', s'⟩ := E.size k cs t e
   exact .ref ty b off len cap ex k sz c a hb hty hcap hex ha hlen ⟨c', t, e', by omega⟩
 | nil ty b ex hb => exact fun _ => .nil ty b ex hb
 | ptr b i j k sz hb => exact fun _ => .ptr b i j k sz hb
 | pl row j k o Y hk hc hr ih =>
   intro S' w' E
   by_cases hn : row = []
   . subst hn
     exact .pl [] j k o Y (fun h => absurd rfl h) (fun i x h => by simp at h) (fun i x h => by simp at h)
   . obtain ⟨x0, j1⟩ : ∃ x, row[0]? = some x := by
      cases row with
      | nil => exact absurd rfl hn
      | cons y ys => exact ⟨y, rfl⟩
     rcases E.same k (hk hn) with ⟨h', hs⟩ | ⟨es, cl, hm⟩
     . exact .pl row j k o Y (fun _ => h') (fun i x h => by rw [<- hc i x h]; exact World.cell?_of_block hs) (fun i x h => ih i x h E)
     . have := hc 0 x0 j1
       rw [Zrq hm] at this; cases this
 | fn f caps vs hp hl hr ih => exact fun E => .fn f caps vs hp hl (fun i x y h1 h2 => ih i x y h1 h2 E)
 | agg cs vs hl hr ih => exact fun E => .agg cs vs hl (fun i x y h1 h2 => ih i x y h1 h2 E)
 | tup cs vs hl hr ih => exact fun E => .tup cs vs hl (fun i x y h1 h2 => ih i x y h1 h2 E)
 | ifT a x h ih => exact fun E => .ifT a x (ih E)
 | ifF a => exact fun _ => .ifF a
theorem HR.mono0 (H : HR P V S w B h) (E : Ext0 S S' w w') (hsub : ∀ k, S' k -> S k) (hs : w.heap.size <= w'.heap.size) (hG : GlobOk P S' w')
 (hsame : ∀ b blk k sz, h b = some blk -> V b = some (some (k, sz)) -> w'.heap[k]? = w.heap[k]?) : HR P V S' w' B h := by
 refine ⟨fun b blk e => ?_, H.inj, fun k hk => fH (H.old k (hsub k hk)) hs, hG⟩
 rcases H.at_ b blk e with ⟨k, sz, hb, hB⟩ | hv
 . refine .inl ⟨k, sz, hb, ⟨hB.sz_eq, hB.base, fun ho hk => hB.own ho (hsub k hk), fun ho => ?_, hB.rows, ?_⟩⟩
   . rcases E.same k (hB.not_own ho) with ⟨h', _⟩ | ⟨es, cl, hm⟩
     . exact h'
     . obtain ⟨c, hc, _⟩ := hB.heap
       rw [hm] at hc; cases hc
   . obtain ⟨c, hc, j1, j0⟩ := hB.heap
     exact ⟨c, (hsame b blk k sz e hb).trans hc, j1, fun i row j x h1 h2 => by
      obtain ⟨y, hy, hr⟩ := j0 i row j x h1 h2
      exact ⟨y, hy, hr.mono0 E⟩⟩
 . exact .inr hv
structure MapTo (w w' : World) (km : Nat) (es' : Array MapEntry) (cl' : Nat) : Prop where
 size : w'.heap.size = w.heap.size
 other : ∀ i, i ≠ km -> w'.heap[i]? = w.heap[i]?
 was : ∃ es cl, w.heap[km]? = some (Obj.map es cl)
 here : w'.heap[km]? = some (Obj.map es' cl')
 os : w'.os = w.os
 tape : w'.tape = w.tape
 output : w'.output = w.output
theorem MapTo.glob {km : Nat} {es' : Array MapEntry} {cl' : Nat} (M : MapTo w w' km es' cl') (G : GlobOk P S w) : GlobOk P (fun k => S k /\ k ≠ km) w' := by
 have hv : ∀ nm ∈ Z2l, ∀ (xs : Array Value), w.var? P nm = some xs -> w'.var? P nm = some xs /\ ∀ g, P.globalNamed nm = some g -> g ≠ km := fun nm hm xs h => by
  unfold World.var? at h ⊢
  cases hg : P.globalNamed nm with
  | none => rw [hg] at h; cases h
  | some g =>
    rw [hg] at h
    simp only [fY] at h ⊢
    have j1 : g ≠ km := fun q => by
     subst q
     obtain ⟨es, cl, hw⟩ := M.was
     rw [hw] at h; cases h
    rw [M.other g j1]
    exact ⟨h, fun g' j2 => by cases j2; exact j1⟩
 have j0 : ∀ nm g, P.globalNamed nm = some g -> (P.globalNamed nm).isSome = true := fun nm g h => by rw [h]; rfl
 refine ⟨fun nm hm g hg => ⟨G.fast nm hm g hg, ?_⟩, fun q => ?_, fun q => ?_, fun q => ?_⟩
 . simp only [Z2l, eG, fK, or_false] at hm
   rcases hm with rfl | rfl | rfl
   . exact (hv _ (by simp [Z2l]) _ (G.pow (j0 _ g hg))).2 g hg
   . obtain ⟨tp, p, h⟩ := G.syn (j0 _ g hg)
     exact (hv _ (by simp [Z2l]) _ h).2 g hg
   . obtain ⟨tp, p, h⟩ := G.rng (j0 _ g hg)
     exact (hv _ (by simp [Z2l]) _ h).2 g hg
 . exact (hv _ (by simp [Z2l]) _ (G.pow q)).1
 . obtain ⟨tp, p, h⟩ := G.syn q
   exact ⟨tp, p, (hv _ (by simp [Z2l]) _ h).1⟩
 . obtain ⟨tp, p, h⟩ := G.rng q
   exact ⟨tp, p, (hv _ (by simp [Z2l]) _ h).1⟩
theorem MapTo.ext0 {km : Nat} {es' : Array MapEntry} {cl' : Nat} (M : MapTo w w' km es' cl') : Ext0 S (fun k => S k /\ k ≠ km) w w' :=
 ⟨fun k hk => by
  by_cases hkm : k = km
  . subst hkm; exact .inr M.was
  . exact .inl ⟨⟨hk, hkm⟩, M.other k hkm⟩, fun k c t e => by
  by_cases hkm : k = km
  . subst hkm; obtain ⟨es, cl, hm⟩ := M.was; rw [hm] at e; cases e
  . exact ⟨c, by rw [M.other k hkm]; exact e, rfl⟩⟩
theorem SW.map {U : St} {a : Act} {km : Nat} {es' : Array MapEntry} {cl' : Nat} (T : SW P V S B N U a w) (M : MapTo w w' km es' cl') : SW P V (fun k => S k /\ k ≠ km) B N U a w' :=
 ⟨fun t => (T.slot t).mono0 M.ext0, T.size, T.defers, T.heap.mono0 M.ext0 (fun _ h => h.1) (by rw [M.size]; exact dM _) (M.glob T.heap.glob) (fun b blk k sz e hb => by
  refine M.other k (fun hk => ?_)
  subst hk
  obtain ⟨c, hc, _⟩ := (T.heap.at_of e hb).heap
  obtain ⟨es, cl, hm⟩ := M.was
  rw [hm] at hc; cases hc), by rw [M.size]; exact T.le⟩
theorem SW.thin {U : St} {a : Act} {km : Nat} {es : Array MapEntry} {cl : Nat} (T : SW P V S B N U a w) (hm : w.heap[km]? = some (Obj.map es cl)) : SW P V (fun k => S k /\ k ≠ km) B N U a w :=
 T.map ⟨rfl, fun _ _ => rfl, ⟨es, cl, hm⟩, hm, rfl, rfl, rfl⟩
end Go.Vm
namespace Go.Vm
open Go.RowKit
variable {P : Program} {V V' V'' : Rho} {S S' S'' : Nat -> Prop} {w w' w'' : World} {B N : Nat} {h : Hp} {E : Env} {tot : Nat}
structure MvY (B : Nat) (V : Rho) (w : World) (V' : Rho) (w' : World) : Prop where
 new : ∀ b, V b = none -> V' b = none
 below : Below B w w'
theorem MvY.refl : MvY B V w V w := ⟨fun _ h => h, Below.refl _ _⟩
theorem MvY.trans (a : MvY B V w V' w') (b : MvY B V' w' V'' w'') : MvY B V w V'' w'' := ⟨fun x h => b.new x (a.new x h), a.below.trans b.below⟩
structure MapAt (km : Nat) (es : Array MapEntry) (cl : Nat) (S : Nat -> Prop) (w : World) : Prop where
 free : ¬ S km
 here : w.heap[km]? = some (Obj.map es cl)
end Go.Vm
namespace Go.Vm
open Go.RowKit
variable {P : Program} {V : Rho} {S : Nat -> Prop} {w : World} {B N tot : Nat} {E : Env}
abbrev Zfv (vs : List Value) : Value := .agg vs.toArray
structure SetT (P : Program) (tm tk tb : Nat) (ks : List Nat) : Prop where
 und : P.underlying tm = some (.map tk tb)
 eqt : eqT P 8 tk = some ks
 agg : Zcu P tk = true
 kst : ∃ fs, P.underlying tk = some (.struct fs)
 chk : ∀ (b : Bool) (w : World) (vs : List Value), vs.length = ks.length -> (Instr.checkKey b 10000 tk (Zfv vs)).run P w = .ok () w
 zero : ∀ w, (zeroValue tb).run P w = .ok (.bool false) w
def Zdf (ks : List Nat) (a b : List Value) : Option Bool := X7 ks (a.map A.v) (b.map A.v)
theorem Zp5 (vs : List Value) : StandAt (vs.map A.v) vs.toArray 0 := by
 intro i a ha
 rw [eJ] at ha
 cases hv : vs[i]? with
 | none => rw [hv] at ha; cases ha
 | some v =>
   rw [hv] at ha
   simp only [fF, dK] at ha
   refine ⟨v, by simpa using hv, fun u hu => ?_⟩
   rw [<- ha] at hu
   cases hu; rfl
theorem Zys {tk : Nat} {ks : List Nat} (ht : eqT P 8 tk = some ks) (hg : Zcu P tk = true) {a b : List Value} {q : Bool} (e : Zdf ks a b = some q) : (Op.equal tk (Zfv a) (Zfv b)).run P w = .ok q w := by
 have j0 := Z5h e
 obtain ⟨va, vb, _, _, hE, j2⟩ := Zqx (P := P) (w := w) 8 9992 ht e (Zp5 a) (Zp5 b)
 obtain ⟨ea, eb⟩ := j2 hg
 have j1 : ∀ (vs : List Value), vs.length = ks.length -> vs.toArray.extract 0 (0 + ks.length) = vs.toArray := by
  intro vs h
  rw [dD, <- h]
  simp
 rw [j1 a (by simpa using j0.1)] at ea
 rw [j1 b (by simpa using j0.2)] at eb
 subst ea eb
 exact hE
structure Holds (ks : List Nat) (es : List MapEntry) (keys : List (List Value)) : Prop where
 len : es.length = keys.length
 at_ : ∀ (i : Nat) (e : MapEntry) (k : List Value), es[i]? = some e -> keys[i]? = some k -> e.key = Zfv k /\ e.val = .bool true
def Z9e (ks : List Nat) (k : List Value) : List (List Value) -> Nat -> Option (Option Nat)
 | [], _ => some none
 | x :: xs, i => match Zdf ks k x with
   | some true => some (some i)
   | some false => Z9e ks k xs (i + 1)
   | none => none
theorem Za4 {tk : Nat} {ks : List Nat} (ht : eqT P 8 tk = some ks) (hg : Zcu P tk = true) (k : List Value) : ∀ (es : List MapEntry) (keys : List (List Value)) (i : Nat) (r : Option Nat), Holds ks es keys -> Z9e ks k keys i = some r ->
 (Instr.findAsking tk (Zfv k) es i).run P w = .ok (r.map fun j => (j, Value.bool true)) w
 | [], keys, i, r, h, e => by
   have : keys = [] := cY (by have := h.len; simpa using this.symm)
   subst this
   simp only [Z9e, dK] at e
   subst e
   rfl
 | e0 :: es, [], i, r, h, e => by have := h.len; simp at this
 | e0 :: es, x :: xs, i, r, h, e => by
   have h0 := h.at_ 0 e0 x rfl rfl
   have j0 : Holds ks es xs := ⟨by have := h.len; simpa using this, fun j e k h1 h2 => h.at_ (j + 1) e k (by simpa using h1) (by simpa using h2)⟩
   unfold Z9e at e
   cases hq : Zdf ks k x with
   | none => rw [hq] at e; cases e
   | some q =>
     rw [hq] at e
     have hr := Zys (P := P) (w := w) ht hg hq
     rw [<- h0.1] at hr
     unfold Instr.findAsking
     simp only [dC, hr, cV]
     cases q with
     | true =>
       simp only [dK] at e
       subst e
       simp [h0.2]
     | false =>
       simp only at e
       have := Za4 ht hg k es xs (i + 1) r j0 e
       simpa using this
theorem Zas {tm tk tb : Nat} {ks : List Nat} (T : SetT P tm tk tb ks) (k : List Value) {es : List MapEntry} {keys : List (List Value)} {r : Option Nat} (h : Holds ks es keys) (e : Z9e ks k keys 0 = some r) :
 (Instr.findKey tk (Zfv k) es).run P w = .ok (r.map fun j => (j, Value.bool true)) w := by
 obtain ⟨fs, j0⟩ := T.kst
 unfold Instr.findKey
 simp only [dC, run_underlying j0, cV]
 cases es with
 | nil =>
   have hk : keys = [] := cY (by have := h.len; simpa using this.symm)
   subst hk
   simp only [Z9e, dK] at e
   subst e
   rfl
 | cons e0 es =>
   have hn : Instr.findNow (.struct fs) (Zfv k) (e0 :: es) 0 = none := by
    unfold Instr.findNow
    have : Instr.sameNow (.struct fs) (Zfv k) e0.key = none := by unfold Instr.sameNow; rfl
    rw [this]
   simp only [hn]
   exact Za4 T.eqt T.agg k _ _ 0 r h e
theorem Zty {tm tk tb : Nat} {ks : List Nat} (T : SetT P tm tk tb ks) {km cl : Nat} {es : Array MapEntry} (hw : w.heap[km]? = some (Obj.map es cl)) (k : List Value) (hk : k.length = ks.length) {keys : List (List Value)} {r : Option Nat} (h : Holds ks es.toList keys) (e : Z9e ks k keys 0 = some r) :
 (Instr.lookup tm (.map (some km)) (Zfv k) false).run P w = .ok (.bool r.isSome) w := by
 have hg : (getObj km).run P w = .ok (Obj.map es cl) w := by simp [getObj, Sem.run, hw]
 unfold Instr.lookup
 simp only [dC, run_underlying T.und, cV, hg, gQ, T.chk _ _ k hk, Zas T k h e]
 cases r with
 | none => simp [T.zero]
 | some j => simp
def Zh0 (ks : List Nat) (keys : List (List Value)) (k : List Value) : List (List Value) := match Z9e ks k keys 0 with
 | some none => keys ++ [k]
 | _ => keys
theorem Zto (m : ByteArray) : (m == m) = true := by
 first
 | exact beq_self_eq_true m
 | exact decide_eq_true rfl
 | (show (m.data == m.data) = true; simp)
theorem Zq0 {k : Nat} {x y : Value} (e : Z14 k (.v x) (.v y) = some true) : x = y /\ ∀ n, Instr.sameBits n y y = true := by
 match k with
 | 0 =>
   obtain ⟨j, m, n, h1, h2, h3⟩ := Zzp e
   cases h1; cases h2
   have : m = n := by simpa using h3.symm
   subst this
   exact ⟨rfl, fun q => by cases q <;> simp [Instr.sameBits]⟩
 | 1 =>
   obtain ⟨m, n, h1, h2, h3⟩ := Zw6 e
   cases h1; cases h2
   have : m = n := by simpa using h3.symm
   subst this
   exact ⟨rfl, fun q => by cases q <;> exact Zto m⟩
 | 2 =>
   obtain ⟨m, n, h1, h2, h3⟩ := Zyy e
   cases h1; cases h2
   have : m = n := by simpa using h3.symm
   subst this
   exact ⟨rfl, fun q => by cases q <;> simp [Instr.sameBits]⟩
 | k + 3 => simp [Z14] at e
theorem Zgv : ∀ {ks : List Nat} {a b : List Value}, Zdf ks a b = some true -> a = b /\ ∀ n, ∀ x ∈ b, Instr.sameBits n x x = true
 | [], a, b, e => by
   cases a <;> cases b <;> simp [Zdf, X7] at e
   exact ⟨rfl, fun n x hx => by simp at hx⟩
 | k :: ks, a, b, e => by
   cases a with
   | nil => cases b <;> simp [Zdf, X7] at e
   | cons x xs =>
     cases b with
     | nil => simp [Zdf, X7] at e
     | cons y ys =>
       unfold Zdf at e
       simp only [eV, X7] at e
       obtain ⟨p, h1, e1⟩ := Z5 e
       obtain ⟨q, h2, e2⟩ := Z5 e1
       simp only [dK, dO] at e2
       obtain ⟨rfl, rfl⟩ := e2
       obtain ⟨rfl, hs⟩ := Zq0 h1
       obtain ⟨rfl, ht⟩ := Zgv (ks := ks) (a := xs) (b := ys) h2
       refine ⟨rfl, fun n z hz => ?_⟩
       rcases eG.1 hz with rfl | hz
       . exact hs n
       . exact ht n z hz
theorem Y3g (k : List Value) (h : ∀ n, ∀ x ∈ k, Instr.sameBits n x x = true) : Instr.sameBits 10000 (Zfv k) (Zfv k) = true := by
 have hz : ∀ (l : List Value), (∀ x ∈ l, Instr.sameBits 9999 x x = true) -> ((l.zip l).all fun (x, y) => Instr.sameBits 9999 x y) = true := by
  intro l hl
  induction l with
  | nil => rfl
  | cons x l ih =>
    simp only [List.zip_cons_cons, gU, dO]
    exact ⟨hl x (by simp), ih (fun y hy => hl y (by simp [hy]))⟩
 show (k.toArray.size == k.toArray.size && (k.toArray.toList.zip k.toArray.toList).all fun (x, y) => Instr.sameBits 9999 x y) = true
 simp only [beq_self_eq_true, eN]
 exact hz k (h 9999)
theorem Zhp {ks : List Nat} {k : List Value} : ∀ {keys : List (List Value)} {i j : Nat}, Z9e ks k keys i = some (some j) -> ∃ x, i <= j /\ keys[j - i]? = some x /\ Zdf ks k x = some true
 | [], i, j, e => by simp [Z9e] at e
 | x :: xs, i, j, e => by
   unfold Z9e at e
   cases hq : Zdf ks k x with
   | none => rw [hq] at e; cases e
   | some q =>
     rw [hq] at e
     cases q with
     | true =>
       simp only [dK] at e
       subst e
       exact ⟨x, dM _, by simp, hq⟩
     | false =>
       simp only at e
       obtain ⟨y, h1, h2, h3⟩ := Zhp e
       exact ⟨y, by omega, by rw [show j - i = (j - (i + 1)) + 1 by omega]; simpa using h2, h3⟩
def Ybv (w : World) (km : Nat) (o : Obj) : World := { w with heap := w.heap.setIfInBounds km o }
theorem Znm {km cl cl' : Nat} {es es' : Array MapEntry} (hw : w.heap[km]? = some (Obj.map es cl)) : MapTo w (Ybv w km (Obj.map es' cl')) km es' cl' :=
 ⟨by simp [Ybv], fun i hi => by simp [Ybv, gN (fun q : km = i => hi q.symm)], ⟨es, cl, hw⟩, by
  have hlt := Z2v hw
  simp [Ybv, hlt], rfl, rfl, rfl⟩
theorem Zul {tm tk tb : Nat} {ks : List Nat} (T : SetT P tm tk tb ks) {km cl : Nat} {es : Array MapEntry} (hw : w.heap[km]? = some (Obj.map es cl)) (k : List Value) (hk : k.length = ks.length) {keys : List (List Value)} {r : Option Nat} (h : Holds ks es.toList keys) (e : Z9e ks k keys 0 = some r) :
 ∃ w' es' cl', (Instr.mapUpdate tm (.map (some km)) (Zfv k) (.bool true)).run P w = .ok () w' /\ MapTo w w' km es' cl' /\ Holds ks es'.toList (Zh0 ks keys k) := by
 have hg : (getObj km).run P w = .ok (Obj.map es cl) w := by simp [getObj, Sem.run, hw]
 have hs : ∀ o, (setObj km o).run P w = .ok () (Ybv w km o) := fun o => by
  simp only [setObj, Sem.run, hw]
  rfl
 cases r with
 | none =>
   refine ⟨_, es.push { key := Zfv k, val := .bool true, born := cl }, cl + 1, ?_, Znm hw, ?_⟩
   . unfold Instr.mapUpdate
     simp only [dC, run_underlying T.und, cV, hg, T.chk _ _ k hk, Zas T k h e, Option.map_none]
     exact hs _
   . unfold Zh0
     rw [e]
     refine ⟨by simp [h.len], fun i e' k' h1 h2 => ?_⟩
     simp only [Array.toList_push] at h1
     by_cases hi : i < keys.length
     . rw [dV (by rw [h.len]; exact hi)] at h1
       rw [dV hi] at h2
       exact h.at_ i e' k' h1 h2
     . rw [dW (by rw [h.len]; omega), h.len] at h1
       rw [dW (by omega)] at h2
       have hz : i - keys.length = 0 := by
        rcases Nat.eq_zero_or_pos (i - keys.length) with q | q
        . exact q
        . rw [eS (by simp; omega)] at h1; cases h1
       rw [hz] at h1 h2
       simp only [fP, dK] at h1 h2
       subst h1; subst h2
       exact ⟨rfl, rfl⟩
 | some j =>
   obtain ⟨x, _, hx, hq⟩ := Zhp e
   rw [fD] at hx
   obtain ⟨rfl, j0⟩ := Zgv hq
   have j1 : j < es.size := by
    have := (dQ.1 hx).1
    have := h.len
    simp at this
    omega
   have j3 : es.toList[j]? = some es[j] := by simp [eP j1]
   have j2 := h.at_ j es[j] k j3 hx
   have j4 : (Instr.keyThatStays (((es[j]?).map (·.key)).getD (Zfv k)) (Zfv k)).run P w = .ok (Zfv k) w := by
    rw [eP j1]
    simp only [fF, dB, j2.1]
    unfold Instr.keyThatStays
    rw [Y3g k j0]
    rfl
   refine ⟨_, es.modify j fun e => { e with key := Zfv k, val := .bool true }, cl, ?_, Znm hw, ?_⟩
   . unfold Instr.mapUpdate
     simp only [dC, run_underlying T.und, cV, hg, T.chk _ _ k hk, Zas T k h e, fF, j4]
     exact hs _
   . unfold Zh0
     rw [e]
     simp only
     refine ⟨by simpa using h.len, fun i e' k' h1 h2 => ?_⟩
     rw [gW, Array.getElem?_modify] at h1
     by_cases hij : j = i
     . subst hij
       simp only [if_true] at h1
       rw [eP j1] at h1
       simp only [fF, dK] at h1
       subst h1
       rw [hx] at h2
       simp only [dK] at h2
       subst h2
       exact ⟨rfl, rfl⟩
     . rw [if_neg hij] at h1
       exact h.at_ i e' k' (by simpa using h1) h2
theorem Y52 {k : List Value} {x : Value} (r : R P V S w (.agg (k.map A.v)) x) : x = Zfv k := by
 cases r with
 | agg cs vs hl hr =>
   congr 2
   refine List.ext_getElem? (fun i => ?_)
   by_cases hi : i < k.length
   . have h1 : (k.map A.v)[i]? = some (.v k[i]) := by simp [eJ, dP hi]
     have hlt : i < vs.length := by rw [hl]; simpa using hi
     have := hr i _ _ h1 (dP hlt)
     rw [dP hlt, dP hi, (R.v_inv this).1]
   . rw [eS (by rw [hl]; simpa using hi), eS (by omega)]
theorem Y4n {km : Nat} {x : Value} (r : R P V S w (.v (.map (some km))) x) : x = .map (some km) := (R.v_inv r).1
theorem Zuh {tm tk tb : Nat} {ks : List Nat} (T0 : SetT P tm tk tb ks) {ops : Array Oper} {i : Nat} {o : Oper} {d m kx j slot : Nat} (hi : ops[i]? = some o) (ho : o.op = .lookup tm (.tmp m) (.tmp kx) false) (hd : o.dst = some d) (hdN : d < N) (hg : o.guard = some (j, true)) (hs : (ops[j]?).bind (·.dst) = some slot)
 {U : St} {a : Act} (T : SW P V S B N U a w) {km cl : Nat} {es : Array MapEntry} (J : MapAt km es cl S w) {k : List Value} (hk : k.length = ks.length) {keys : List (List Value)} {r : Option Nat} (h : Holds ks es.toList keys) (e : Z9e ks k keys 0 = some r)
 {t : Bool} (ht : Z49 U slot true = some t) (hm : t = true -> unT (U.s m) = .v (.map (some km))) (hkx : t = true -> unT (U.s kx) = .agg (k.map A.v)) {Q : Exit -> Act -> World -> Prop} {K : Act -> World -> Prop}
 (q : ∀ a1, SW P V S B N { U with s := upd U.s d (.ifg t (.q r.isSome)) } a1 w -> K a1 w) : wpOp P ops Q i K a w := by
 have hw := Zef T hg rfl hs ht
 unfold wpOp
 rw [hi]
 simp only [hw]
 cases t with
 | false =>
   simp only [eD, if_false]
   rw [hd]
   exact q _ (SW.put T (.ifF _) hdN)
 | true =>
   simp only [if_true]
   refine .inl ?_
   have r1 := Y20 (T.slot m)
   rw [hm rfl] at r1
   have r2 := Y20 (T.slot kx)
   rw [hkx rfl] at r2
   have e1 : a.eval (.tmp m) = .map (some km) := Y4n r1
   have e2 : a.eval (.tmp kx) = Zfv k := Y52 r2
   have j0 : (execOp a.eval o).run P w = .ok (.value (.bool r.isSome)) w := by
    simp only [execOp, ho, e1, e2, dC, Zty T0 J.here k hk h e, cV]
    rfl
   refine X9 j0 ?_
   rw [hd]
   exact q _ (SW.put T (.ifT _ _ (.v _ rfl)) hdN)
theorem Y0k {tm : Nat} {ops : Array Oper} {i : Nat} {o : Oper} {d : Nat} (hi : ops[i]? = some o) (ho : o.op = .makeMap tm none) (hd : o.dst = some d) (hdN : d < N) (hg : o.guard = none)
 {U : St} {a : Act} (T : SW P V S B N U a w) {Q : Exit -> Act -> World -> Prop} {K : Act -> World -> Prop} (ks : List Nat)
 (q : ∀ a1 w1, Below B w w1 -> MapAt w.heap.size #[] 0 S w1 -> SW P V S B N { U with s := upd U.s d (.v (.map (some w.heap.size))) } a1 w1 -> K a1 w1) : wpOp P ops Q i K a w := by
 unfold wpOp
 rw [hi]
 have hw : Region.wanted o (yielded ops a.tmps) = true := by unfold Region.wanted; rw [hg]
 simp only [hw, if_true]
 refine .inl ?_
 have j1 : (execOp a.eval o).run P w = .ok (.value (.map (some w.heap.size))) (w.alloc (.map #[] 0)) := by
  simp only [execOp, ho, Option.map_none, dC, run_makeMap, cV]
  rfl
 refine X9 j1 ?_
 rw [hd]
 have j0 : Ext S w (w.alloc (.map #[] 0)) := ⟨fun k hk => Below.heap_alloc w _ k (T.heap.old k hk), fun k c t e => ⟨c, by rw [Below.heap_alloc w _ k (Z2v e)]; exact e, rfl⟩, fun k es cl e => by rw [Below.heap_alloc w _ k (Z2v e)]; exact e⟩
 have T1 : SW P V S B N U a (w.alloc (.map #[] 0)) := ⟨fun t => (T.slot t).mono (fun _ _ h => h) (fun _ h => h) j0, T.size, T.defers, T.heap.mono (fun _ _ h => h) j0 (by simp) (fun b blk k sz e hb => Below.heap_alloc w _ k (T.heap.lt e hb)), eE T.le (by simp)⟩
 exact q _ _ ((Below.refl B w).alloc T.le _) ⟨fun hh => absurd (T.heap.old _ hh) (eH _), Z75 w _⟩ (SW.put T1 (.v _ rfl) hdN)
def Zdi (P : Program) (N : Nat) (ops : Array Oper) : Nat -> List G -> Bool
 | _, [] => true
 | k, g :: rest => (match ops[k]? with | some o => okG P N ops o g | none => false) && (g.op.names.2 == 0) && !g.op.isD && Zdi P N ops (k + 1) rest
theorem Zsv {ops : Array Oper} : ∀ {gs : List G} {k : Nat}, Zdi P N ops k gs = true -> ∀ (i : Nat) (g : G), gs[i]? = some g -> (∃ o, ops[k + i]? = some o /\ okG P N ops o g = true) /\ ∀ n b, ¬ lays tot n g.op b
 | [], k, _, i, g, h => by simp at h
 | g0 :: rest, k, ok, i, g, h => by
   simp only [Zdi, dO, beq_iff_eq, gK] at ok
   obtain ⟨⟨⟨h1, h2⟩, h3⟩, h4⟩ := ok
   cases i with
   | zero =>
     simp at h
     subst h
     refine ⟨?_, fun n b => ?_⟩
     . split at h1
       . rename_i o ho
         exact ⟨o, ho, h1⟩
       . cases h1
     . unfold lays X6
       rw [h3, h2]
       simp
   | succ i =>
     have := Zsv h4 i g (by simpa using h)
     rw [show k + 1 + i = k + (i + 1) by omega] at this
     exact this
theorem Zhe {rs : List A} {v : Value} {w' : World} (hS : ∀ k, S k -> k < w.heap.size) (hG : GlobOk P S w) (hb : Below w.heap.size w w') (hl : ∀ n, Ym Zh4 n rs = (rs, Zh4)) (r : R P Xq S w' (pack rs) v) : Res P S w rs v w' := by
 have hE := Zdt hS hb
 refine ⟨S, fun _ h => h, fun _ h => .inl h, hb, hE, fun n => ⟨Xq, fun _ _ => rfl, ?_, ?_⟩⟩
 . rw [hl]
   exact ⟨fun b blk e => (by cases e), fun b b' k sz sz' blk blk' e => (by cases e), fun k hk => fH (hS k hk) hb.size, hG.mono (fun _ h => h) hE⟩
 . rw [hl]
   exact r
theorem Y7e {ops : Array Oper} {i : Nat} {o : Oper} {d : Nat} {u : A} {v : Value} {U : St} {a : Act} (hi : ops[i]? = some o) (hg : o.guard = none) (hd : o.dst = some d) (hdN : d < N) (T : SW P V S B N U a w) (hrun : (execOp a.eval o).run P w = .ok (.value v) w) (r : R P V S w u v)
 {Q : Exit -> Act -> World -> Prop} {K : Act -> World -> Prop} (q : ∀ a1, SW P V S B N { U with s := upd U.s d u } a1 w -> K a1 w) : wpOp P ops Q i K a w := by
 unfold wpOp
 rw [hi]
 have hw : Region.wanted o (yielded ops a.tmps) = true := by unfold Region.wanted; rw [hg]
 simp only [hw, if_true]
 refine .inl (X9 hrun ?_)
 rw [hd]
 exact q _ (SW.put T r hdN)
def Zhb : Code -> Code | .seq x _ => x | c => c
def Z7j : Code -> Code | .seq _ y => y | c => c
def Z0t : Code -> Array Oper | .region _ ops _ => ops | _ => #[]
def Yfe : Code -> Code | .cond _ x _ => x | c => c
def Y6z : Code -> Code | .block _ x => x | c => c
def Yba : Code -> Code | .loop x => x | c => c
def Yy (F : Func) : Code := F.body.getD .skip
end Go.Vm
namespace Go.Vm
open Go.RowKit
variable {P : Program} {S0 : Nat -> Prop} {w0 w w' : World} {N tot : Nat} {E : Env}
structure From (S0 : Nat -> Prop) (w0 : World) (S : Nat -> Prop) (w : World) : Prop where
 sub : ∀ k, S0 k -> S k
 back : ∀ k, S k -> S0 k \/ w0.heap.size <= k
 below : Below w0.heap.size w0 w
 old : ∀ k, S0 k -> k < w0.heap.size
abbrev Mp := Option (Nat × Array MapEntry × Nat)
def Ycj (w0 : World) : Mp -> (Nat -> Prop) -> World -> Prop
 | none, _, _ => True
 | some (km, es, cl), S, w => MapAt km es cl S w /\ w0.heap.size <= km
structure Hy (P : Program) (S0 : Nat -> Prop) (w0 : World) (N : Nat) (mp : Mp) (U : St) (a : Act) (w : World) : Prop where
 ex : ∃ V S, From S0 w0 S w /\ Ycj w0 mp S w /\ SW P V S w0.heap.size N U a w /\ ∀ b, U.n <= b -> V b = none
 base : U.base = 0
variable {mp : Mp} {U : St} {a : Act}
def Y95 (ops : Array Oper) (i : Nat) (p : Oper -> Bool) : Bool := match ops[i]? with | some o => p o | none => false
theorem Zdr {ops : Array Oper} {i : Nat} {p : Oper -> Bool} (h : Y95 ops i p = true) : ∃ o, ops[i]? = some o /\ p o = true := by
 unfold Y95 at h
 split at h
 . rename_i o ho; exact ⟨o, ho, h⟩
 . cases h
theorem Hy.drop (H : Hy P S0 w0 N mp U a w) : Hy P S0 w0 N none U a w := by
 obtain ⟨V, S, F, _, T, f⟩ := H.ex
 exact ⟨⟨V, S, F, trivial, T, f⟩, H.base⟩
theorem From.step {S S' : Nat -> Prop} (F : From S0 w0 S w) (h1 : ∀ k, S k -> S' k) (h2 : ∀ k, S' k -> S k \/ w0.heap.size <= k) (hb : Below w0.heap.size w w') : From S0 w0 S' w' :=
 ⟨fun k h => h1 k (F.sub k h), fun k h => by rcases h2 k h with h | h; exact F.back k h; exact .inr h, F.below.trans hb, F.old⟩
theorem From.thin {S : Nat -> Prop} {km : Nat} (F : From S0 w0 S w) (h : w0.heap.size <= km) : From S0 w0 (fun k => S k /\ k ≠ km) w :=
 ⟨fun k hk => ⟨F.sub k hk, by have := F.old k hk; omega⟩, fun k hk => F.back k hk.1, F.below, F.old⟩
theorem Hy.step {V' : Rho} {S S' : Nat -> Prop} {U' : St} {a' : Act} (F : From S0 w0 S w) (A : Ycj w0 mp S w) (h1 : ∀ k, S k -> S' k) (h2 : ∀ k, S' k -> S k \/ w0.heap.size <= k) (hb : Below w0.heap.size w w') (he : Ext S w w')
 (T : SW P V' S' w0.heap.size N U' a' w') (f : ∀ b, U'.n <= b -> V' b = none) (b : U'.base = 0) : Hy P S0 w0 N mp U' a' w' := by
 cases mp with
 | none => exact ⟨⟨V', S', F.step h1 h2 hb, trivial, T, f⟩, b⟩
 | some m =>
   obtain ⟨km, es, cl⟩ := m
   obtain ⟨A, hk⟩ := A
   have hm := he.maps km es cl A.here
   exact ⟨⟨V', _, (F.step h1 h2 hb).thin hk, ⟨⟨fun h => h.2 rfl, hm⟩, hk⟩, T.thin hm, f⟩, b⟩
theorem Hy.code (hE : EnvOk P E) (hS : Z2m E) (hm : P.follows .mixedOrders = true) {c : ACode} {x : Code} (ok : Yo P N c x = true) {out : Out} (e : Zg E c U = some out) (H : Hy P S0 w0 N mp U a w) (hb : out.st.base = 0)
 {Q : Exit -> Act -> World -> Prop} (k : ∀ ex a' w', Ya out ex -> Hy P S0 w0 N mp out.st a' w' -> Q ex a' w') : x.wp P Q a w := by
 obtain ⟨V, S, F, A, T, f⟩ := H.ex
 have h0 := H.base
 refine wp_mono (Z9u hE hS hm c x ok V S U a w out e T f (by omega) (by rw [h0]; exact fun b hb => by omega)) (fun ex a1 w1 p => ?_)
 obtain ⟨V1, S1, M, T1, f1⟩ := p.ex
 exact k ex a1 w1 p.same (Hy.step F A M.sub M.back M.below M.ext T1 f1 hb)
theorem Hy.seg (hE : EnvOk P E) {ops : Array Oper} {Q : Exit -> Act -> World -> Prop} {tail : List Nat} {Uf : St} :
 ∀ (gs : List G) (k : Nat) {U : St} {a : Act} {w : World}, Zdi P N ops k gs = true -> Hy P S0 w0 N mp U a w -> Ze E tot gs U = some Uf -> Uf.n = U.n ->
  (∀ a' w', Hy P S0 w0 N mp Uf a' w' -> wpOps P ops Q tail a' w') -> wpOps P ops Q (List.range' k gs.length ++ tail) a w := by
 suffices hh : ∀ (gs : List G) (k : Nat) {U : St} {a : Act} {w : World} (n : Nat), Zdi P N ops k gs = true -> (∃ V S, From S0 w0 S w /\ Ycj w0 mp S w /\ SW P V S w0.heap.size N U a w /\ ∀ b, n <= b -> V b = none) -> Ze E tot gs U = some Uf -> U.base = 0 -> Uf.n = n ->
  (∀ a' w', Hy P S0 w0 N mp Uf a' w' -> wpOps P ops Q tail a' w') -> wpOps P ops Q (List.range' k gs.length ++ tail) a w from
  fun gs k U a w ok H e hn q => hh gs k (n := U.n) ok H.ex e H.base hn q
 intro gs
 induction gs with
 | nil =>
   intro k U a w n ok H e hb hn q
   simp only [Ze, dK] at e
   subst e
   subst hn
   exact q a w ⟨H, hb⟩
 | cons g rest ih =>
   intro k U a w n ok H e hb hn q
   obtain ⟨V, S, F, A, T, f⟩ := H
   obtain ⟨U1, h1, e1⟩ := Z5 e
   obtain ⟨⟨o, ho, hg⟩, j2⟩ := Zsv ok 0 g rfl
   rw [fL] at ho
   show wpOps P ops Q (List.range' k (rest.length + 1) ++ tail) a w
   rw [List.range'_succ, List.cons_append, wpOps_cons]
   refine Zi6 hE ho T hg (fun b hb => absurd hb (j2 _ _)) h1 (fun v w1 hf => ?_)
   have j1 := hg
   simp only [okG, dO, eF] at j1
   rw [j1.1.1.2] at *
   have j0 : U1.base = 0 := by
    obtain ⟨u, hu, _⟩ := hf.ex
    rw [hu]; exact hb
   obtain ⟨V1, S1, M, T1, _, _⟩ := hf.SW T j1.1.2
   have hy : ∃ V S, From S0 w0 S w1 /\ Ycj w0 mp S w1 /\ SW P V S w0.heap.size N U1 (a.put g.op.dst v) w1 /\ ∀ b, n <= b -> V b = none := by
    have := Hy.step (U' := { U1 with n := n }) (mp := mp) F A M.sub M.back M.below M.ext (P := P) (N := N) (a' := a.put g.op.dst v) (V' := V1) ⟨T1.slot, T1.size, T1.defers, T1.heap, T1.le⟩ (fun b hb => M.new b (f b hb) (j2 _ _)) j0
    obtain ⟨V2, S2, F2, A2, T2, f2⟩ := this.ex
    exact ⟨V2, S2, F2, A2, ⟨T2.slot, T2.size, T2.defers, T2.heap, T2.le⟩, f2⟩
   simp only [Zdi, dO] at ok
   exact ih (k + 1) n ok.2 hy e1 j0 hn q
theorem Hy.hand {ops : Array Oper} {i : Nat} {o : Oper} {d : Nat} {u : A} {v : Value} (hi : ops[i]? = some o) (hg : o.guard = none) (hd : o.dst = some d) (hdN : d < N) (H : Hy P S0 w0 N mp U a w) (hrun : (execOp a.eval o).run P w = .ok (.value v) w) (r : ∀ V S, SW P V S w0.heap.size N U a w -> R P V S w u v)
 {Q : Exit -> Act -> World -> Prop} {rest : List Nat} (q : ∀ a1, Hy P S0 w0 N mp { U with s := upd U.s d u } a1 w -> wpOps P ops Q rest a1 w) : wpOps P ops Q (i :: rest) a w := by
 obtain ⟨V, S, F, A, T, f⟩ := H.ex
 rw [wpOps_cons]
 exact Y7e hi hg hd hdN T hrun (r V S T) (fun a1 T1 => q a1 ⟨⟨V, S, F, A, T1, f⟩, H.base⟩)
theorem Hy.bool {t : Nat} {b : Bool} (H : Hy P S0 w0 N mp U a w) (e : U.s t = .q b) : a.eval (.tmp t) = .bool b := by
 obtain ⟨V, S, F, A, T, f⟩ := H.ex
 have r := T.slot t
 rw [e] at r
 exact (R.v_inv r).1
theorem Hy.neqNil {tI t' : TypeId} (ht : P.underlying tI = some (.interface (P.methodsAt tI))) {ops : Array Oper} {i : Nat} {o : Oper} {d x : Nat} {b : Bool} (hi : ops[i]? = some o) (ho : o.op = .binOp .neq tI (.tmp x) (.const .nilIface) t') (hg : o.guard = none) (hd : o.dst = some d) (hdN : d < N) (H : Hy P S0 w0 N mp U a w)
 (hx : (U.s x = .v .nilIface /\ b = false) \/ (U.s x = .err /\ b = true)) {Q : Exit -> Act -> World -> Prop} {rest : List Nat} (q : ∀ a1, Hy P S0 w0 N mp { U with s := upd U.s d (.q b) } a1 w -> wpOps P ops Q rest a1 w) : wpOps P ops Q (i :: rest) a w := by
 have hk : a.eval (.const .nilIface) = .nilIface := rfl
 obtain ⟨V, S, F, A, T, f⟩ := H.ex
 have r1 := T.slot x
 have j1 : (execOp a.eval o).run P w = .ok (.value (.bool b)) w := by
  rcases hx with ⟨e, rfl⟩ | ⟨e, rfl⟩
  . rw [e] at r1
    have e1 : a.eval (.tmp x) = .nilIface := (R.v_inv r1).1
    simp only [execOp, ho, e1, hk, dC]
    have j0 : (eqGuard .neq tI (.tmp x) (.const .nilIface) .nilIface .nilIface).run P w = .ok () w := by simp [eqGuard]
    rw [j0]
    simp only [cV, run_neq_nil_nil w tI ht]
    rfl
  . rw [e] at r1
    obtain ⟨tp, y, e1⟩ : ∃ tp y, a.eval (.tmp x) = .iface tp y := by
     have h2 : a.eval (.tmp x) = a.tmps.getD x undef := rfl
     rw [h2]
     generalize a.tmps.getD x undef = z at r1
     cases r1 with
     | err tp y => exact ⟨tp, y, rfl⟩
    simp only [execOp, ho, e1, hk, dC]
    have j0 : (eqGuard .neq tI (.tmp x) (.const .nilIface) (.iface tp y) .nilIface).run P w = .ok () w := by simp [eqGuard]
    rw [j0]
    simp only [cV, run_neq_held_nil w tI tp y ht]
    rfl
 exact H.hand hi hg hd hdN j1 (fun V S T => .v _ rfl) q
theorem Hy.make {tm : Nat} {ops : Array Oper} {i : Nat} {o : Oper} {d : Nat} (hi : ops[i]? = some o) (ho : o.op = .makeMap tm none) (hd : o.dst = some d) (hdN : d < N) (hg : o.guard = none)
 (H : Hy P S0 w0 N mp U a w) {Q : Exit -> Act -> World -> Prop} {rest : List Nat}
 (q : ∀ a1 w1 km, Hy P S0 w0 N (some (km, #[], 0)) { U with s := upd U.s d (.v (.map (some km))) } a1 w1 -> wpOps P ops Q rest a1 w1) : wpOps P ops Q (i :: rest) a w := by
 obtain ⟨V, S, F, A, T, f⟩ := H.ex
 rw [wpOps_cons]
 exact Y0k hi ho hd hdN hg T [] (fun a1 w1 hb J T1 => q a1 w1 _ ⟨⟨V, S, F.step (fun _ h => h) (fun _ h => .inl h) hb, ⟨J, F.below.size⟩, T1, f⟩, H.base⟩)
theorem Hy.lookup {tm tk tb : Nat} {ks : List Nat} (T0 : SetT P tm tk tb ks) {ops : Array Oper} {i : Nat} {o : Oper} {d m kx j slot : Nat} (hi : ops[i]? = some o) (ho : o.op = .lookup tm (.tmp m) (.tmp kx) false) (hd : o.dst = some d) (hdN : d < N) (hg : o.guard = some (j, true)) (hs : (ops[j]?).bind (·.dst) = some slot)
 {km cl : Nat} {es : Array MapEntry} (H : Hy P S0 w0 N (some (km, es, cl)) U a w) {k : List Value} (hk : k.length = ks.length) {keys : List (List Value)} {r : Option Nat} (h : Holds ks es.toList keys) (e : Z9e ks k keys 0 = some r)
 {t : Bool} (ht : Z49 U slot true = some t) (hm : t = true -> unT (U.s m) = .v (.map (some km))) (hkx : t = true -> unT (U.s kx) = .agg (k.map A.v)) {Q : Exit -> Act -> World -> Prop} {rest : List Nat}
 (q : ∀ a1, Hy P S0 w0 N (some (km, es, cl)) { U with s := upd U.s d (.ifg t (.q r.isSome)) } a1 w -> wpOps P ops Q rest a1 w) : wpOps P ops Q (i :: rest) a w := by
 obtain ⟨V, S, F, A, T, f⟩ := H.ex
 rw [wpOps_cons]
 exact Zuh T0 hi ho hd hdN hg hs T A.1 hk h e ht hm hkx (fun a1 T1 => q a1 ⟨⟨V, S, F, A, T1, f⟩, H.base⟩)
theorem Hy.update {tm tk tb : Nat} {ks : List Nat} (T0 : SetT P tm tk tb ks) {ops : Array Oper} {i : Nat} {o : Oper} {m kx : Nat} (hi : ops[i]? = some o) (ho : o.op = .mapUpdate tm (.tmp m) (.tmp kx) (.const (.bool true))) (hd : o.dst = none) (hg : o.guard = none)
 {km cl : Nat} {es : Array MapEntry} (H : Hy P S0 w0 N (some (km, es, cl)) U a w) {k : List Value} (hk : k.length = ks.length) {keys : List (List Value)} {r : Option Nat} (h : Holds ks es.toList keys) (e : Z9e ks k keys 0 = some r)
 (hm : U.s m = .v (.map (some km))) (hkx : U.s kx = .agg (k.map A.v)) {Q : Exit -> Act -> World -> Prop} {rest : List Nat}
 (q : ∀ a1 w1 es1 cl1, Holds ks es1.toList (Zh0 ks keys k) -> Hy P S0 w0 N (some (km, es1, cl1)) U a1 w1 -> wpOps P ops Q rest a1 w1) : wpOps P ops Q (i :: rest) a w := by
 obtain ⟨V, S, F, A, T, f⟩ := H.ex
 rw [wpOps_cons]
 obtain ⟨A1, A2⟩ := A
 unfold wpOp
 rw [hi]
 have hw : Region.wanted o (yielded ops a.tmps) = true := by unfold Region.wanted; rw [hg]
 simp only [hw, if_true]
 refine .inl ?_
 have r1 := T.slot m
 rw [hm] at r1
 have r2 := T.slot kx
 rw [hkx] at r2
 have e1 : a.eval (.tmp m) = .map (some km) := Y4n r1
 have e2 : a.eval (.tmp kx) = Zfv k := Y52 r2
 have e3 : a.eval (.const (.bool true)) = .bool true := rfl
 obtain ⟨w1, es1, cl1, j1, M, h1⟩ := Zul T0 A1.here k hk h e
 have j0 : (execOp a.eval o).run P w = .ok .skip w1 := by
  simp only [execOp, ho, e1, e2, e3, dC, j1, cV]
  rfl
 refine Zcf j0 ?_
 rw [hd]
 have hb : Below w0.heap.size w w1 := ⟨M.os, M.tape, M.output, by rw [M.size]; exact dM _, fun i hi => M.other i (by omega)⟩
 exact q _ w1 es1 cl1 h1 ⟨⟨V, _, ⟨fun k hk => ⟨F.sub k hk, by have := F.old k hk; omega⟩, fun k hk => F.back k hk.1, F.below.trans hb, F.old⟩, ⟨⟨fun hh => hh.2 rfl, M.here⟩, A2⟩, T.map M, f⟩, H.base⟩
theorem Hy.done {F : Func} {rv : List RVar} {ra rs : List A} (H : Hy P S0 w0 F.ntmps mp U a w) (o2 : Za0 P F.results.toList rv = true) (e : Z7o U rv = some ra) (hrs : Za5 U.h [] ra = some rs) :
 bodyPost P F (fun | .returned v, w' => Res P S0 w0 rs v w' | _, _ => False) .ret a w := by
 obtain ⟨V, S, Fr, _, T, f⟩ := H.ex
 obtain ⟨us, j0, j1⟩ := Zal T.heap rfl T.slot (F := F) (rv := rv) (as := ra) o2 e
 exact ⟨T.defers, _, j0, Zaq rfl T.heap j1 hrs Fr.sub Fr.back Fr.below (Zdt Fr.old Fr.below)⟩
theorem Hy.start {as : List A} {xs : List Value} {n : Nat} (hS : ∀ k, S0 k -> k < w.heap.size) (hG : GlobOk P S0 w) (r : RL P Xq S0 w as xs) (hn : N <= n + xs.length) :
 Hy P S0 w N none ⟨slots as, fun _ => none, 0, 0⟩ { tmps := xs.toArray ++ Array.replicate n undef, defers := [] } w :=
 ⟨⟨Xq, S0, ⟨fun _ h => h, fun _ h => .inl h, Below.refl _ _, hS⟩, trivial, ⟨fun t => Zrg r _ t, by simp; omega, rfl, HR.empty hS hG, dM _⟩, fun _ _ => rfl⟩, rfl⟩
end Go.Vm
namespace Go.Vm
def Zz {J C V : Type} (g : Nat -> C -> J -> C ⊕ V) : Nat -> C -> List J -> C ⊕ V
 | _, b, [] => .inl b
 | i, b, x :: xs => match g i b x with
   | .inl b' => Zz g (i + 1) b' xs
   | .inr r => .inr r
theorem Y70 {J : Type} {l : List J} {i : Nat} {x : J} {xs : List J} (h : l.drop i = x :: xs) : l[i]? = some x /\ i < l.length /\ l.drop (i + 1) = xs := by
 have h1 : l[i]? = some x := by have := congrArg (·[0]?) h; simpa using this
 refine ⟨h1, (dQ.1 h1).1, ?_⟩
 have := congrArg List.tail h
 simpa [List.tail_drop] using this
theorem Y27 {J : Type} {l : List J} {i : Nat} (h : l.drop i = []) : l.length <= i := by
 have := congrArg List.length h
 simp at this
 omega
def Vs (o : Option Out) (C V : Type) (r : C ⊕ V) (X : C -> Out -> Prop) (Y : V -> Out -> Prop) : Prop :=
 ∃ out, o = some out /\ match r with
  | .inl b => X b out
  | .inr q => Y q out
theorem Zol {J C V : Type} {F : St -> Option Out} {L : List Nat} (xs : List J) (st : Nat -> C -> St) (g : Nat -> C -> J -> C ⊕ V) (Inv : Nat -> C -> Prop) (X : C -> Out -> Prop) (Y : V -> Out -> Prop)
 (hstep : ∀ (i : Nat) (b : C) (x : J) (K : Nat), xs[i]? = some x -> i < xs.length -> Inv i b -> match g i b x with
  | .inl b' => Zc F L (K + 1) (st i b) = Zc F L K (st (i + 1) b') /\ Inv (i + 1) b'
  | .inr r => ∃ out, Zc F L (K + 1) (st i b) = some out /\ Y r out)
 (hend : ∀ (b : C) (K : Nat), Inv xs.length b -> ∃ out, Zc F L (K + 1) (st xs.length b) = some out /\ X b out) :
 ∀ (ys : List J) (i K : Nat) (b : C), xs.drop i = ys -> i <= xs.length -> ys.length < K -> Inv i b -> Vs (Zc F L K (st i b)) C V (Zz g i b ys) X Y
 | [], i, K, b, hd, hi, hK, hinv => by
   obtain ⟨K, rfl⟩ : ∃ j, K = j + 1 := ⟨K - 1, by omega⟩
   have : i = xs.length := by have := Y27 hd; omega
   subst this
   exact hend b K hinv
 | y :: ys, i, K, b, hd, hi, hK, hinv => by
   obtain ⟨K, rfl⟩ : ∃ j, K = j + 1 := ⟨K - 1, by omega⟩
   obtain ⟨h1, h2, h3⟩ := Y70 hd
   have := hstep i b y K h1 h2 hinv
   unfold Zz
   cases hg : g i b y with
   | inl b' =>
     rw [hg] at this
     rw [this.1]
     exact Zol xs st g Inv X Y hstep hend ys (i + 1) K b' h3 (by omega) (by simp at hK; omega) this.2
   | inr r =>
     rw [hg] at this
     exact this
theorem Zlo {n : Nat} (h : n <= big) : n < rounds := by
 unfold big at h
 unfold rounds
 omega
theorem Z92 (t : ByteArray) : t.size = t.data.toList.length := (Array.length_toList (xs := t.data)).symm
theorem Zw {J C V : Type} {F : St -> Option Out} {L : List Nat} (xs : List J) (st : Nat -> C -> St) (g : Nat -> C -> J -> C ⊕ V) (Inv : Nat -> C -> Prop) (X : C -> Out -> Prop) (Y : V -> Out -> Prop) (b : C) (h0 : Inv 0 b) (hl : xs.length <= big)
 (hstep : ∀ (i : Nat) (b : C) (x : J) (K : Nat), xs[i]? = some x -> i < xs.length -> Inv i b -> match g i b x with
  | .inl b' => Zc F L (K + 1) (st i b) = Zc F L K (st (i + 1) b') /\ Inv (i + 1) b'
  | .inr r => ∃ out, Zc F L (K + 1) (st i b) = some out /\ Y r out)
 (hend : ∀ (b : C) (K : Nat), Inv xs.length b -> ∃ out, Zc F L (K + 1) (st xs.length b) = some out /\ X b out) : Vs (Zc F L rounds (st 0 b)) C V (Zz g 0 b xs) X Y :=
 Zol xs st g Inv X Y hstep hend xs 0 rounds b rfl (dE _) (Zlo hl) h0
theorem Shr.zero (h h' : Hp) : Shr 0 h h' = True := eq_true fun b hb => absurd hb (Nat.not_lt_zero b)
theorem Y13 (h : Hp) : low 0 h = fun _ => none := by funext i; simp [low]
section
variable {J C : Type} (k : St -> Option Out) (e : St -> Option J) (U : St) (id id' tot : Nat)
theorem Wg (a : J) (f : J -> Option C) : bnd (some a) f = f a := (rfl)
theorem Y1z (f : J -> Option C) : bnd none f = none := (rfl)
theorem Y1u (q : Bool) (a b : Option J) (f : J -> Option C) : bnd (bif q then a else b) f = bif q then bnd a f else bnd b f := by cases q <;> rfl
theorem Yi {Z : Type} (o : Option J) (f : J -> Option C) (g : C -> Option Z) : bnd (bnd o f) g = bnd o fun a => bnd (f a) g := by cases o <;> rfl
theorem Y01 : Zgc none k = none := (rfl)
theorem Zzz : Zgc (some (.norm U)) k = k U := (rfl)
theorem Zyi : Zgc (some (.exit id U)) k = some (.exit id U) := (rfl)
theorem Y0v : Zgc (some (.ret U)) k = some (.ret U) := (rfl)
theorem Zx9 (q : Bool) (a b : Option Out) : Zgc (bif q then a else b) k = bif q then Zgc a k else Zgc b k := by cases q <;> rfl
theorem Y3s : blO id none = none := (rfl)
theorem Y2c : blO id (some (.norm U)) = some (.norm U) := (rfl)
theorem Y2l : blO id (some (.exit id' U)) = if id' = id then some (.norm U) else some (.exit id' U) := (rfl)
theorem Y7g : blO id (some (.ret U)) = some (.ret U) := (rfl)
theorem Y14 (q : Bool) (a b : Option Out) : blO id (bif q then a else b) = bif q then blO id a else blO id b := by cases q <;> rfl
theorem Zvo : Zc0 none e = none := (rfl)
theorem Zve : Zc0 (some (.norm U)) e = e U := (rfl)
theorem Y3z : Zc0 (some (.ret U)) e = e U := (rfl)
theorem Zwy (q : Bool) (a b : Option Out) : Zc0 (bif q then a else b) e = bif q then Zc0 a e else Zc0 b e := by cases q <;> rfl
theorem Y2u : nrm tot none = none := (rfl)
theorem Y42 : nrm tot (some U) = some (.norm ⟨U.s, U.h, U.n + tot, U.base⟩) := (rfl)
theorem Y16 (q : Bool) (a b : Option St) : nrm tot (bif q then a else b) = bif q then nrm tot a else nrm tot b := by cases q <;> rfl
theorem Y3m (a : Bool) : imp a a = true := by cases a <;> rfl
theorem Zxl (a : Bool) : imp false a = true := (rfl)
theorem Y0o (a : Bool) : imp true a = a := by cases a <;> rfl
theorem Zqt (a : Bool) : imp a true = true := by cases a <;> rfl
theorem Zp4 (a b c : Bool) : imp (a && b) c = (imp a c || imp b c) := by cases a <;> cases b <;> cases c <;> rfl
theorem Zkw (a b c : Bool) : imp a (b && c) = (imp a b && imp a c) := by cases a <;> cases b <;> cases c <;> rfl
theorem Zz7 (a b : Bool) : (imp a b || imp b a) = true := by cases a <;> cases b <;> rfl
end
section
variable (E : Env) (tot d nm ty n : Nat) (gs : List G) (U : St)
theorem Ya3 : Ze E tot [] U = some U := (rfl)
theorem Ydg (x : Opd) : Ze E tot (.o (.mv d x) :: gs) U = bnd (some (ev U x)) fun a => Ze E tot gs ⟨upd U.s d a, U.h, U.n, U.base⟩ := by
 simp only [Ze, Yt, step, AOp.yields, Yc, Wg, put]
theorem Yet (sl : Nat) (w : Bool) (x : Opd) : Ze E tot (.g sl w (.mv d x) :: gs) U = bnd (Z03 w (U.s sl)) fun t => bnd (Wu t U (some d) (evp t U x)) (Ze E tot gs) := by
 simp only [Ze, Yt, AOp.yields, Yc, Yi, Z49]
theorem Y8l (c a b : Opd) : Ze E tot (.o (.pick d c a b) :: gs) U = bnd (bnd (isQ (ev U c)) fun q => bnd (evq q U a) fun x => bnd (evq (!q) U b) fun y => some (A.v (.bool (bif q then x else y)))) fun a => Ze E tot gs ⟨upd U.s d a, U.h, U.n, U.base⟩ := by
 simp only [Ze, Yt, step, AOp.yields, Yc, Wg, Yi, put]
theorem Y5f (sl : Nat) (w : Bool) (c a b : Opd) : Ze E tot (.g sl w (.pick d c a b) :: gs) U = bnd (Z03 w (U.s sl)) fun t => bnd (Wu t U (some d) (bnd (bnd (evp t U c) isQ) fun q => bnd (evq (t && q) U a) fun x => bnd (evq (t && !q) U b) fun y => some (A.v (.bool (bif q then x else y))))) (Ze E tot gs) := by
 simp only [Ze, Yt, AOp.yields, Yc, Yi, Z49]
theorem Yd9 (g : Bool) (p : Opd) : Ze E tot (.o (.ld d n g p) :: gs) U = bnd (bnd (Zbo U.h (ev U p)) (Y83 n g)) fun a => Ze E tot gs ⟨upd U.s d a, U.h, U.n, U.base⟩ := by
 simp only [Ze, Yt, step, AOp.yields, Yc, Wg, Yi, put]
theorem Ycz (sl : Nat) (w : Bool) (g : Bool) (p : Opd) : Ze E tot (.g sl w (.ld d n g p) :: gs) U = bnd (Z03 w (U.s sl)) fun t => bnd (Wu t U (some d) (bnd (bnd (evp t U p) (Zbo U.h)) (Y83 n g))) (Ze E tot gs) := by
 simp only [Ze, Yt, AOp.yields, Yc, Yi, Z49]
theorem Yaa (op : BinOp) (x y : Opd) : Ze E tot (.o (.bin d op x y) :: gs) U = bnd (Z8v op (ev U x) (ev U y)) fun a => Ze E tot gs ⟨upd U.s d a, U.h, U.n, U.base⟩ := by
 simp only [Ze, Yt, step, AOp.yields, Yc, Wg, Yi, put]
theorem Ybk (sl : Nat) (w : Bool) (op : BinOp) (x y : Opd) : Ze E tot (.g sl w (.bin d op x y) :: gs) U = bnd (Z03 w (U.s sl)) fun t => bnd (Wu t U (some d) (bnd (evp t U x) fun a => bnd (evp t U y) (Z8v op a))) (Ze E tot gs) := by
 simp only [Ze, Yt, AOp.yields, Yc, Yi, Z49]
theorem Y9v (ks : List Nat) (ng : Bool) (x y : Opd) : Ze E tot (.o (.eqs d ks ng x y) :: gs) U = bnd (Y67 ks ng (ev U x) (ev U y)) fun a => Ze E tot gs ⟨upd U.s d a, U.h, U.n, U.base⟩ := by
 simp only [Ze, Yt, step, AOp.yields, Yc, Wg, Yi, put]
theorem Y9g (sl : Nat) (w : Bool) (ks : List Nat) (ng : Bool) (x y : Opd) : Ze E tot (.g sl w (.eqs d ks ng x y) :: gs) U = bnd (Z03 w (U.s sl)) fun t => bnd (Wu t U (some d) (bnd (evp t U x) fun a => bnd (evp t U y) (Y67 ks ng a))) (Ze E tot gs) := by
 simp only [Ze, Yt, AOp.yields, Yc, Yi, Z49]
theorem Ybt (ng : Bool) (x y : Opd) : Ze E tot (.o (.beq d ng x y) :: gs) U = bnd (Y59 ng (ev U x) (ev U y)) fun a => Ze E tot gs ⟨upd U.s d a, U.h, U.n, U.base⟩ := by
 simp only [Ze, Yt, step, AOp.yields, Yc, Wg, Yi, put]
theorem Ya6 (sl : Nat) (w : Bool) (ng : Bool) (x y : Opd) : Ze E tot (.g sl w (.beq d ng x y) :: gs) U = bnd (Z03 w (U.s sl)) fun t => bnd (Wu t U (some d) (bnd (evp t U x) fun a => bnd (evp t U y) (Y59 ng a))) (Ze E tot gs) := by
 simp only [Ze, Yt, AOp.yields, Yc, Yi, Z49]
theorem Yd0 (op : UnOp) (x : Opd) : Ze E tot (.o (.un d op x) :: gs) U = bnd (unA op (ev U x)) fun a => Ze E tot gs ⟨upd U.s d a, U.h, U.n, U.base⟩ := by
 simp only [Ze, Yt, step, AOp.yields, Yc, Wg, Yi, put]
theorem Yeq (sl : Nat) (w : Bool) (op : UnOp) (x : Opd) : Ze E tot (.g sl w (.un d op x) :: gs) U = bnd (Z03 w (U.s sl)) fun t => bnd (Wu t U (some d) (bnd (evp t U x) (unA op))) (Ze E tot gs) := by
 simp only [Ze, Yt, AOp.yields, Yc, Yi, Z49]
theorem Ydj (k : IntKind) (x : Opd) : Ze E tot (.o (.cv d k x) :: gs) U = bnd (cvA k (ev U x)) fun a => Ze E tot gs ⟨upd U.s d a, U.h, U.n, U.base⟩ := by
 simp only [Ze, Yt, step, AOp.yields, Yc, Wg, Yi, put]
theorem Yer (sl : Nat) (w : Bool) (k : IntKind) (x : Opd) : Ze E tot (.g sl w (.cv d k x) :: gs) U = bnd (Z03 w (U.s sl)) fun t => bnd (Wu t U (some d) (bnd (evp t U x) (cvA k))) (Ze E tot gs) := by
 simp only [Ze, Yt, AOp.yields, Yc, Yi, Z49]
theorem Ybj (e : Nat) (x : Opd) : Ze E tot (.o (.cbs d e x) :: gs) U = bnd (bnd (bnd (rowsOf e U.h (ev U x)) Z6g) fun l => some (A.v (.string ⟨l.toArray⟩))) fun a => Ze E tot gs ⟨upd U.s d a, U.h, U.n, U.base⟩ := by
 simp only [Ze, Yt, step, AOp.yields, Yc, Wg, Yi, put]
theorem Yap (sl e : Nat) (w : Bool) (x : Opd) : Ze E tot (.g sl w (.cbs d e x) :: gs) U = bnd (Z03 w (U.s sl)) fun t => bnd (Wu t U (some d) (bnd (bnd (bnd (evp t U x) (rowsOf e U.h)) Z6g) fun l => some (A.v (.string ⟨l.toArray⟩)))) (Ze E tot gs) := by
 simp only [Ze, Yt, AOp.yields, Yc, Yi, Z49]
theorem Ydq (x : Opd) (off : Nat) : Ze E tot (.o (.fa d x off) :: gs) U = bnd (faA off (ev U x)) fun a => Ze E tot gs ⟨upd U.s d a, U.h, U.n, U.base⟩ := by
 simp only [Ze, Yt, step, AOp.yields, Yc, Wg, Yi, put]
theorem Ycy (sl : Nat) (w : Bool) (x : Opd) (off : Nat) : Ze E tot (.g sl w (.fa d x off) :: gs) U = bnd (Z03 w (U.s sl)) fun t => bnd (Wu t U (some d) (bnd (evp t U x) (faA off))) (Ze E tot gs) := by
 simp only [Ze, Yt, AOp.yields, Yc, Yi, Z49]
theorem Ya7 (x : Opd) (off : Nat) (g : Bool) : Ze E tot (.o (.fld d x off n g) :: gs) U = bnd (Y84 off n g (ev U x)) fun a => Ze E tot gs ⟨upd U.s d a, U.h, U.n, U.base⟩ := by
 simp only [Ze, Yt, step, AOp.yields, Yc, Wg, Yi, put]
theorem Yby (sl : Nat) (w : Bool) (x : Opd) (off : Nat) (g : Bool) : Ze E tot (.g sl w (.fld d x off n g) :: gs) U = bnd (Z03 w (U.s sl)) fun t => bnd (Wu t U (some d) (bnd (evp t U x) (Y84 off n g))) (Ze E tot gs) := by
 simp only [Ze, Yt, AOp.yields, Yc, Yi, Z49]
theorem Ycu (e : Nat) (x i : Opd) : Ze E tot (.o (.ia d e x i) :: gs) U = bnd (iaA e (ev U x) (ev U i)) fun a => Ze E tot gs ⟨upd U.s d a, U.h, U.n, U.base⟩ := by
 simp only [Ze, Yt, step, AOp.yields, Yc, Wg, Yi, put]
theorem Ye9 (sl e : Nat) (w : Bool) (x i : Opd) : Ze E tot (.g sl w (.ia d e x i) :: gs) U = bnd (Z03 w (U.s sl)) fun t => bnd (Wu t U (some d) (bnd (evp t U x) fun a => bnd (evp t U i) (iaA e a))) (Ze E tot gs) := by
 simp only [Ze, Yt, AOp.yields, Yc, Yi, Z49]
theorem Yeg (x i : Opd) : Ze E tot (.o (.ix d x i) :: gs) U = bnd (ixA (ev U x) (ev U i)) fun a => Ze E tot gs ⟨upd U.s d a, U.h, U.n, U.base⟩ := by
 simp only [Ze, Yt, step, AOp.yields, Yc, Wg, Yi, put]
theorem Yek (sl : Nat) (w : Bool) (x i : Opd) : Ze E tot (.g sl w (.ix d x i) :: gs) U = bnd (Z03 w (U.s sl)) fun t => bnd (Wu t U (some d) (bnd (evp t U x) fun a => bnd (evp t U i) (ixA a))) (Ze E tot gs) := by
 simp only [Ze, Yt, AOp.yields, Yc, Yi, Z49]
theorem Y9m (x : Opd) (i : Nat) : Ze E tot (.o (.ex d x i) :: gs) U = bnd (exA i (ev U x)) fun a => Ze E tot gs ⟨upd U.s d a, U.h, U.n, U.base⟩ := by
 simp only [Ze, Yt, step, AOp.yields, Yc, Wg, Yi, put]
theorem Yd5 (sl : Nat) (w : Bool) (x : Opd) (i : Nat) : Ze E tot (.g sl w (.ex d x i) :: gs) U = bnd (Z03 w (U.s sl)) fun t => bnd (Wu t U (some d) (bnd (evp t U x) (exA i))) (Ze E tot gs) := by
 simp only [Ze, Yt, AOp.yields, Yc, Yi, Z49]
theorem Y9p (str : Bool) (x : Opd) : Ze E tot (.o (.len d str x) :: gs) U = bnd (Zuz str (ev U x)) fun a => Ze E tot gs ⟨upd U.s d a, U.h, U.n, U.base⟩ := by
 simp only [Ze, Yt, step, AOp.yields, Yc, Wg, Yi, put]
theorem Yb3 (sl : Nat) (w str : Bool) (x : Opd) : Ze E tot (.g sl w (.len d str x) :: gs) U = bnd (Z03 w (U.s sl)) fun t => bnd (Wu t U (some d) (bnd (evp t U x) (Zuz str))) (Ze E tot gs) := by
 simp only [Ze, Yt, AOp.yields, Yc, Yi, Z49]
theorem Yb2 (mx : Bool) (x y : Opd) : Ze E tot (.o (.mnx d mx x y) :: gs) U = bnd (Y1j mx (ev U x) (ev U y)) fun a => Ze E tot gs ⟨upd U.s d a, U.h, U.n, U.base⟩ := by
 simp only [Ze, Yt, step, AOp.yields, Yc, Wg, Yi, put]
theorem Yb1 (sl : Nat) (w : Bool) (mx : Bool) (x y : Opd) : Ze E tot (.g sl w (.mnx d mx x y) :: gs) U = bnd (Z03 w (U.s sl)) fun t => bnd (Wu t U (some d) (bnd (evp t U x) fun a => bnd (evp t U y) (Y1j mx a))) (Ze E tot gs) := by
 simp only [Ze, Yt, AOp.yields, Yc, Yi, Z49]
theorem Ydy (dd : Option Nat) (x : Opd) : Ze E tot (.o (.nl dd x) :: gs) U = bnd (nlA (ev U x)) fun a => Ze E tot gs ⟨put U.s dd a, U.h, U.n, U.base⟩ := by
 simp only [Ze, Yt, step, AOp.yields, Yc, Wg, Yi, put]
theorem Yeo (dd : Option Nat) (sl : Nat) (w : Bool) (x : Opd) : Ze E tot (.g sl w (.nl dd x) :: gs) U = bnd (Z03 w (U.s sl)) fun t => bnd (Wu t U dd (bnd (evp t U x) nlA)) (Ze E tot gs) := by
 simp only [Ze, Yt, AOp.yields, Yc, Yi, Z49]
theorem Yaj : Ze E tot (.o (.mvn d nm ty) :: gs) U = bnd (some ⟨upd U.s d (.ref ty (U.n + nm) 0 0 0 false), upd U.h (U.n + nm) (some ⟨ty, [], true, false⟩), U.n, U.base⟩) (Ze E tot gs) := (rfl)
theorem Ydi (zs : List A) : Ze E tot (.o (.al d nm ty zs) :: gs) U = bnd (some ⟨upd U.s d (.ptr (U.n + nm) 0 0), upd (Yb U.h (U.n + nm + 1) zs).2 (U.n + nm) (some ⟨ty, [(Yb U.h (U.n + nm + 1) zs).1], true, true⟩), U.n, U.base⟩) (Ze E tot gs) := (rfl)
theorem Ybx (x : Opd) : Ze E tot (.o (.box d nm ty n x) :: gs) U = bnd (if (ev U x).cells.length = n /\ Zl (ev U x).cells then some ⟨upd U.s d (.ptr (U.n + nm) 0 0), upd U.h (U.n + nm) (some ⟨ty, [(ev U x).cells], true, true⟩), U.n, U.base⟩ else none) (Ze E tot gs) := (rfl)
theorem Yai (zs : List A) (ps : List (Nat × Nat × Opd)) : Ze E tot (.o (.bld d nm zs ps) :: gs) U = bnd (bnd (Zdd U (Yb U.h (U.n + nm) zs).1 ps) fun cs => some ⟨upd U.s d (.agg cs), (Yb U.h (U.n + nm) zs).2, U.n, U.base⟩) (Ze E tot gs) := (rfl)
theorem Y9n (xs : List Opd) : Ze E tot (.o (.bsl d nm ty n xs) :: gs) U = bnd (bnd (Z50 U n xs) fun rows => some ⟨upd U.s d (.ref ty (U.n + nm) 0 rows.length rows.length true), frz (upd U.h (U.n + nm) (some ⟨ty, rows, true, false⟩)) (Wa U xs), U.n, U.base⟩) (Ze E tot gs) := (rfl)
theorem Ydf (p x : Opd) : Ze E tot (.o (.st n p x) :: gs) U = bnd (bnd (storeAt U.base U.h (ev U p) n (ev U x)) fun h => some ⟨U.s, h, U.n, U.base⟩) (Ze E tot gs) := (rfl)
theorem Ya1 (p : Opd) : Ze E tot (.o (.stn nm ty p) :: gs) U = bnd (bnd (storeAt U.base (upd U.h (U.n + nm) (some ⟨ty, [], true, false⟩)) (ev U p) 1 (.ref ty (U.n + nm) 0 0 0 false)) fun h => some ⟨U.s, h, U.n, U.base⟩) (Ze E tot gs) := (rfl)
theorem Yak (f : Nat) (caps : List Opd) : Ze E tot (.o (.mkf d f caps) :: gs) U = bnd (if Wt (evs U caps) = true then some ⟨upd U.s d (.fn f (evs U caps)), U.h, U.n, U.base⟩ else none) (Ze E tot gs) := (rfl)
theorem Ycb (zs : List A) (l c : Opd) : Ze E tot (.o (.mks d nm ty zs l c) :: gs) U = bnd (Y4x U d nm ty zs (ev U l) (ev U c)) (Ze E tot gs) := (rfl)
theorem Ye5 (e : Option Nat) (x : Opd) (lo hi mx : Option Opd) : Ze E tot (.o (.sl d e x lo hi mx) :: gs) U = bnd (bnd (Z8c U e lo hi mx (ev U x)) fun a => some ⟨upd U.s d a, U.h, U.n, U.base⟩) (Ze E tot gs) := (rfl)
theorem Y64 (dd : Option Nat) (w f : Nat) (xs : List Opd) : Ze E tot (.o (.call dd nm w f xs) :: gs) U = bnd (Z45 E U dd nm w f (evs U xs)) (Ze E tot gs) := (rfl)
theorem Y37 (dd : Option Nat) (w : Nat) (f : Opd) (xs : List Opd) : Ze E tot (.o (.callv dd nm w f xs) :: gs) U = bnd (bnd (fnA (ev U f)) fun p => Z45 E U dd nm w p.1 (evs U xs ++ p.2)) (Ze E tot gs) := (rfl)
theorem Y3t (dd : Option Nat) (f : Nat) (xs : List Opd) : Ze E tot (.o (.dcall dd f xs) :: gs) U = bnd (Zpd E tot U dd f (evs U xs)) (Ze E tot gs) := (rfl)
theorem Yc2 (dd : Option Nat) (f : Nat) (xs : List Opd) : Ze E tot (.o (.dcf dd f xs) :: gs) U = bnd (Zfs E tot U dd f (evs U xs)) (Ze E tot gs) := (rfl)
theorem Y06 (dd : Option Nat) (f : Opd) (xs : List Opd) : Ze E tot (.o (.dcallv dd f xs) :: gs) U = bnd (bnd (fnA (ev U f)) fun p => Zpd E tot U dd p.1 (evs U xs ++ p.2)) (Ze E tot gs) := (rfl)
theorem Ybr (e : Nat) (s x : Opd) : Ze E tot (.o (.app d nm e s x) :: gs) U = bnd (bnd (rowsOf e U.h (ev U x)) fun ys => Zv1 U d nm e ys (ev U s)) (Ze E tot gs) := (rfl)
theorem Yc7 (e : Nat) (zs : List A) (x : Opd) : Ze E tot (.o (.clr e zs x) :: gs) U = bnd (Y58 U e zs (ev U x)) (Ze E tot gs) := (rfl)
theorem Y62 (sl ww : Nat) (w : Bool) (dd : Option Nat) (f : Nat) (xs : List Opd) : Ze E tot (.g sl w (.call dd nm ww f xs) :: gs) U = bnd (Z03 w (U.s sl)) fun t => bnd (W9 t U dd (bnd (bnd (bnd (xs.mapM fun x => evp t U x) (Z1a U.h)) (E.call f)) Zhj) (bnd (Z45 E (strip U) dd nm ww f (evs (strip U) xs)) (back U dd))) (Ze E tot gs) := by
 simp only [Ze, Yt, AOp.yields, AOp.dst, Yc, Yi, Z49]; rfl
theorem Y8r (sl : Nat) (w : Bool) (zs : List A) : Ze E tot (.g sl w (.bld d nm zs []) :: gs) U = bnd (Z03 w (U.s sl)) fun t => bnd (W9 t U (some d) (if Zam zs then none else some (.agg zs)) (bnd (step E tot (.bld d nm zs []) (strip U)) (back U (some d)))) (Ze E tot gs) := by
 simp only [Ze, Yt, AOp.yields, AOp.dst, Yc, Yi, Z49]
theorem Y2i (sl ww : Nat) (w : Bool) (dd : Option Nat) (f : Opd) (xs : List Opd) : Ze E tot (.g sl w (.callv dd nm ww f xs) :: gs) U = bnd (Z03 w (U.s sl)) fun t => bnd (W9 t U dd none (bnd (bnd (fnA (ev (strip U) f)) fun p => Z45 E (strip U) dd nm ww p.1 (evs (strip U) xs ++ p.2)) (back U dd))) (Ze E tot gs) := by
 simp only [Ze, Yt, AOp.yields, AOp.dst, Yc, Yi, Z49, step]
theorem Y2s (sl : Nat) (w : Bool) (dd : Option Nat) (f : Nat) (xs : List Opd) : Ze E tot (.g sl w (.dcall dd f xs) :: gs) U = bnd (Z03 w (U.s sl)) fun t => bnd (W9 t U dd none (bnd (Zpd E tot (strip U) dd f (evs (strip U) xs)) (back U dd))) (Ze E tot gs) := by
 simp only [Ze, Yt, AOp.yields, AOp.dst, Yc, Yi, Z49, step]
theorem Ycw (sl : Nat) (w : Bool) (e : Option Nat) (x : Opd) (lo hi mx : Option Opd) : Ze E tot (.g sl w (.sl d e x lo hi mx) :: gs) U = bnd (Z03 w (U.s sl)) fun t => bnd (W9 t U (some d) none (bnd (bnd (Z8c (strip U) e lo hi mx (ev (strip U) x)) fun a => some ⟨upd (strip U).s d a, (strip U).h, (strip U).n, (strip U).base⟩) (back U (some d)))) (Ze E tot gs) := by
 simp only [Ze, Yt, AOp.yields, AOp.dst, Yc, Yi, Z49, step]
theorem Yb8 (zs : List A) (l c : Opd) : Ze E tot (.o (.mkb d nm ty zs l c) :: gs) U = bnd (Y50 U d nm ty zs (ev U l) (ev U c)) (Ze E tot gs) := (rfl)
theorem Ybp (xs : List Opd) : Ze E tot (.o (.bsb d nm ty n xs) :: gs) U = bnd (bnd (Z5y U n xs) fun rows => some ⟨upd U.s d (.ref ty (U.n + nm) 0 rows.length rows.length true), upd U.h (U.n + nm) (some ⟨ty, rows, true, true⟩), U.n, U.base⟩) (Ze E tot gs) := (rfl)
theorem Y9c (e : Nat) (s x : Opd) : Ze E tot (.o (.apb d nm e s x) :: gs) U = bnd (bnd (Zaa true e U.h (ev U x)) fun ys => Zqz true U d nm e ys (ev U s)) (Ze E tot gs) := (rfl)
theorem Y1r (dd : Option Nat) (w f : Nat) (xs : List Opd) : Ze E tot (.o (.callx dd nm w f xs) :: gs) U = bnd (Z5r E U dd nm w f (evs U xs)) (Ze E tot gs) := (rfl)
theorem Yah (dd : Option Nat) (f : Nat) (xs : List Opd) : Ze E tot (.o (.dcs dd f xs) :: gs) U = bnd (Zq2 E tot U dd f (evs U xs)) (Ze E tot gs) := (rfl)
theorem Ybm (xs : List Opd) : Ze E tot (.o (.bll d ty n xs) :: gs) U = bnd (bnd (Z6s U n xs) fun rows => some ⟨upd U.s d (.lit ty rows), U.h, U.n, U.base⟩) (Ze E tot gs) := (rfl)
theorem Zqb (t : Bool) (dd : Option Nat) (a : A) : Wu t U dd (some a) = some ⟨put U.s dd (.ifg t a), U.h, U.n, U.base⟩ := (rfl)
theorem Zq3 (t : Bool) (dd : Option Nat) : Wu t U dd none = bif t then none else some ⟨put U.s dd .und, U.h, U.n, U.base⟩ := (rfl)
theorem Zpq (t : Bool) (dd : Option Nat) (a : A) (k : Option St) : W9 t U dd (some a) k = some ⟨put U.s dd (.ifg t a), U.h, U.n, U.base⟩ := (rfl)
theorem Zrb (t : Bool) (dd : Option Nat) (k : Option St) : W9 t U dd none k = bif t then k else some ⟨put U.s dd .und, U.h, U.n, U.base⟩ := (rfl)
theorem Ygg (k : Nat) : ev U (.t k) = U.s k := (rfl)
theorem Yg2 (a : A) : ev U (.k a) = a := (rfl)
theorem Yf2 (t : Bool) (x : Value) : evp t U (.k (.v x)) = some (.v x) := (rfl)
theorem Ye7 (t : Bool) (k : Nat) : evp t U (.t k) = opA t (U.s k) := (rfl)
theorem Yf3 (t x : Bool) : evq t U (.k (.v (.bool x))) = some x := (rfl)
theorem Ydv (t : Bool) (k : Nat) : evq t U (.t k) = opQ t (U.s k) := (rfl)
end
section
variable (t g : Bool) (a : A) (x : Value) (q : Bool)
theorem Y8a : opA t (.ifg g a) = if imp t g then some a else none := (rfl)
theorem Yde : opA t (.v x) = some (.v x) := (rfl)
theorem Y8n (cs : List A) : opA t (.agg cs) = some (.agg cs) := (rfl)
theorem Y5l (b i j : Nat) : opA t (.ptr b i j) = some (.ptr b i j) := (rfl)
theorem Y9s (r : List A) (j : Nat) : opA t (.pl r j) = some (.pl r j) := (rfl)
theorem Y6c (ty : Nat) (r : List (List A)) : opA t (.lit ty r) = some (.lit ty r) := (rfl)
theorem Y72 (ty b o l c : Nat) (e : Bool) : opA t (.ref ty b o l c e) = some (.ref ty b o l c e) := (rfl)
theorem Ybh (f : Nat) (c : List A) : opA t (.fn f c) = some (.fn f c) := (rfl)
theorem Y8g : opA t .und = some .und := (rfl)
theorem Y6d (op : UnOp) : unA op .und = none := (rfl)
theorem Zza (op : BinOp) (y : A) : Z8v op .und y = none := (rfl)
theorem Zvt (op : BinOp) : Z8v op (.v x) .und = none := (rfl)
theorem Y6g (c : List A) : opA t (.tup c) = some (.tup c) := (rfl)
theorem Y73 : opQ t (.ifg g (.v (.bool q))) = if imp t g then some q else none := (rfl)
theorem Yef : opQ t (.v (.bool q)) = some q := (rfl)
theorem Y5n : opQ t .und = if t then none else some false := (rfl)
theorem Y2y : Z03 true (.v (.bool q)) = some q := (rfl)
theorem Y2n : Z03 false (.v (.bool q)) = some (!q) := (rfl)
theorem Zwn : Z03 true (.ifg g (.v (.bool q))) = some (g && q) := (rfl)
theorem Zwb : Z03 false (.ifg g (.v (.bool q))) = some (g && !q) := (rfl)
theorem Zx5 (w : Bool) : Z03 w .und = some false := (rfl)
variable (k : IntKind) (m n : Int) (u w : ByteArray) (p : Bool)
theorem Y7m : Z8v .add (.v (.int k m)) (.v (.int k n)) = some (.v (.int k (k.wrap (m + n)))) := by simp [Z8v, Zpc, Zsx, bnd]
theorem Y7y : Z8v .sub (.v (.int k m)) (.v (.int k n)) = some (.v (.int k (k.wrap (m - n)))) := by simp [Z8v, Zpc, Zsx, bnd]
theorem Y6i : Z8v .mul (.v (.int k m)) (.v (.int k n)) = some (.v (.int k (k.wrap (m * n)))) := by simp [Z8v, Zpc, Zsx, bnd]
theorem Y8j : Z8v .quo (.v (.int k m)) (.v (.int k n)) = if n = 0 then none else some (.v (.int k (k.wrap (m.tdiv n)))) := by simp [Z8v, Zpc, Zsx]; split <;> rfl
theorem Y5o : Z8v .rem (.v (.int k m)) (.v (.int k n)) = if n = 0 then none else some (.v (.int k (m.tmod n))) := by simp [Z8v, Zpc, Zsx]; split <;> rfl
theorem Y63 : Z8v .xor (.v (.int k m)) (.v (.int k n)) = some (.v (.int k (k.wrap (BitVec.ofInt k.bits m ^^^ BitVec.ofInt k.bits n).toNat))) := by simp [Z8v, Zpc, Zsx, bnd]
theorem Y7q : Z8v .eql (.v (.int k m)) (.v (.int k n)) = some (.v (.bool (decide (m = n)))) := by simp [Z8v, Zpc, Zsx, bnd]
theorem Y61 : Z8v .neq (.v (.int k m)) (.v (.int k n)) = some (.v (.bool (!decide (m = n)))) := by simp [Z8v, Zpc, Zsx, bnd]
theorem Y87 : Z8v .lss (.v (.int k m)) (.v (.int k n)) = some (.v (.bool (decide (m < n)))) := by simp [Z8v, Zpc, Zsx, bnd]
theorem Y80 : Z8v .leq (.v (.int k m)) (.v (.int k n)) = some (.v (.bool (decide (m <= n)))) := by simp [Z8v, Zpc, Zsx, bnd]
theorem Y6e : Z8v .gtr (.v (.int k m)) (.v (.int k n)) = some (.v (.bool (decide (n < m)))) := by simp [Z8v, Zpc, Zsx, bnd]
theorem Y8e : Z8v .geq (.v (.int k m)) (.v (.int k n)) = some (.v (.bool (decide (n <= m)))) := by simp [Z8v, Zpc, Zsx, bnd]
theorem Y1b : Z8v .add (.v (.string u)) (.v (.string w)) = if u.size + w.size <= 2 ^ 62 then some (.v (.string (u ++ w))) else none := by simp [Z8v, Zpc, Ycx]; split <;> rfl
theorem Y0u : Z8v .eql (.v (.string u)) (.v (.string w)) = some (.v (.bool (decide (u = w)))) := (rfl)
theorem Y43 : Z8v .neq (.v (.string u)) (.v (.string w)) = some (.v (.bool (!decide (u = w)))) := (rfl)
theorem Y1k : Z8v .lss (.v (.string u)) (.v (.string w)) = some (.v (.bool (Wh u.toList w.toList))) := (rfl)
theorem Y9t (ng : Bool) : Y59 ng (.v (.bool q)) (.v (.bool p)) = some (.v (.bool (bif ng then !decide (q = p) else decide (q = p)))) := (rfl)
theorem Zuq : Z14 0 (.v (.int k m)) (.v (.int k n)) = some (decide (m = n)) := by simp [Z14]
theorem Zua : Z14 1 (.v (.string u)) (.v (.string w)) = some (decide (u = w)) := (rfl)
theorem Zqy : Z14 2 (.v (.bool q)) (.v (.bool p)) = some (decide (q = p)) := (rfl)
theorem Ya8 : unA .not (.v (.bool q)) = some (.v (.bool (!q))) := (rfl)
theorem Yaf : unA .neg (.v (.int k m)) = some (.v (.int k (k.wrap (0 - m)))) := (rfl)
theorem Y5m (w : Bool) : Y1j w (.v (.int k m)) (.v (.int k n)) = some (.v (.int k (bif w then max m n else min m n))) := by simp [Y1j]
end
theorem Zt2 (E : Env) (N : List Nat) : (chk E N).call = E.call := (rfl)
theorem Z85 (E : Env) (N : List Nat) (f : Nat) (as : List A) (h : Hp) (n : Nat) {r : List A × Hp × Nat} (e : E.dc f as h n = some r) (hk : Z3l N h r.2.1) : (chk E N).dc f as h n = some r := by
 simp only [chk, e, Wg]
 rw [if_pos hk]
attribute [go_sem] Yc2 Zfs Shr.zero Ybm Z6s isV Zt2 Z0l Z2c
attribute [go_sem] Yb8 Ybp Y9c Y1r Yah Zaa Zqz Y50 Z5y Z5r Zq2 Zg9 Z5q Zzo clD Z01
attribute [go_sem] Ya3 Ydg Yet Y8l Y5f Yd9 Ycz Yaa Ybk Y9v Y9g Yd0 Yeq Ydj Yer Ybj Yap Ydq Ycy Ya7 Yby Ycu Ye9 Yeg Yek Y9m Yd5 Y9p Yb3 Yb2 Yb1 Ydy Yeo Yaj Ydi Ybx Yai Y9n Ydf Ya1 Yak Ycb Ye5 Y64 Y37 Y3t Y06 Ybr Yc7 Y62 Y2i Y2s Ycw Y8r Zqb Zq3 Zpq Zrb Ygg Yg2 Yf2 Ye7 Yf3 Ydv Y8a Yde Y8n Y5l Y9s Y6c Y72 Ybh Y8g Y6d Zza Zvt Y6g Y73 Yef Y5n Y2y Y2n Zwn Zwb Zx5
attribute [go_sem] Y7m Y7y Y6i Y8j Y5o Y63 Y7q Y61 Y87 Y80 Y6e Y8e Y1b Y0u Y43 Y1k Y9t Ybt Ya6 Zuq Zua Zqy Ya8 Yaf Y5m Y67 cvA faA Y84 iaA ixA exA Zuz isQ nlA Zhj plain Y83 val X7
attribute [go_sem] Zz7 Zkw Zp4 Zxl Y0o Zqt
attribute [go_sem] Y3m
attribute [go_sem] Wg Y1z Y1u Y01 Zzz Zyi Y0v Zx9 Y3s Y2c Y2l Y7g Y14 Zvo Zve Y3z Zwy Y2u Y42 Y16
attribute [go_sem] Zoq Wt strip back unT Z6 Y13 Zg slots put evs fnA Z8c Zv1 Y58 Y4x aft Ycm Zmj Z45 Zpd res Zq7 Z7o Zzi Za5 Y2v Z6r Zf4 A.cells seg
attribute [go_sem] Z1a Zbd Va Z17 Z9h Z6t Z50 Wa Z7g Ztn Znv Y9o Zr7 Z0n Vj Zam Ym Z3k Ye pack Z89 Z82 Yp Nat.not_lt_zero Nat.lt_irrefl
attribute [go_sem] Zbo rowsOf storeAt Z7q Z1o Zl Yb Zdd Z3o Zew Y6x frz Zv Xr Xt Zbt Z1c Z4l
attribute [go_sem] canon Zeo Zq Zfi Yck Zl6 nmX List.all_cons List.all_nil List.contains_cons List.contains_nil Z2k W7 Z5a Yg Zh Yq Z76 below Z6v nw Y09 ren Zdg Zl9 Zk5 Z48 Z6y W3
attribute [go_sem] ite_true ite_false if_true if_false Bool.and_true Bool.true_and Bool.and_false Bool.false_and Bool.or_true Bool.true_or Bool.or_false Bool.false_or Bool.not_true Bool.not_false cond_true cond_false Bool.not_not
attribute [go_sem] List.length_cons List.length_nil List.take_succ_cons List.take_zero List.drop_succ_cons List.drop_zero List.take_nil List.drop_nil List.getD_cons_zero List.getD_cons_succ List.getElem?_cons_zero List.getElem?_cons_succ List.headD_cons List.map_cons List.map_nil List.mapM_cons List.mapM_nil List.nil_append List.cons_append List.append_nil List.set_cons_zero List.set_cons_succ List.mem_cons List.not_mem_nil List.length_set
attribute [go_sem] Bool.cond_true_left Bool.cond_false_right Bool.cond_false_left Bool.cond_true_right beq_self_eq_true decide_true decide_false decide_eq_true_eq not_false_eq_true and_self or_false false_or and_true true_and or_true true_or and_false false_and Nat.zero_add Nat.add_zero Bool.not_eq_true' Bool.false_eq_true not_true_eq_false
attribute [go_sem] Int.ofNat_lt Int.ofNat_le Int.natCast_nonneg Int.toNat_natCast Option.pure_def Option.bind_eq_bind Option.bind_some
end Go.Vm
attribute [go_sem] Nat.reduceEqDiff Nat.reduceAdd reduceIte reduceCtorEq Nat.reduceLeDiff Nat.reduceLT
attribute [go_sem] Nat.succ_ne_zero
end
