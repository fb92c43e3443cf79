/-
  Walks by hand beside the abstract machine; loops; the lemmas that compute
-/
import Derived.Test.YtcceojmajfinpaaGreatDoorVmC
import Derived.Laws.Cover3
import Derived.Lib.AppendZerosOnto
import Derived.Laws.IdiomCopy
import Derived.Lib.Atoi
import Derived.Carry
import Derived.Deep.LoopGhost
import Derived.WideLaws
import Derived.Test.YtcceojmajfinpaaGreatDoorVmA
import Derived.Attr
section
set_option linter.unusedVariables false
set_option linter.unusedSimpArgs false
set_option linter.unusedSectionVars false
namespace Go.Vm
open Go.RowKit
variable {P : Program} {C C' C'' : Rho} {S S' S'' : Nat -> Prop} {w w' w'' : World} {B N : Nat} {h : Hp}
theorem Yad {p : Prog} {d f : Nat} {as : List A} {fn : AFn} (h1 : p.ext f = none) (h2 : p.fn f = some fn) : den p (d + 1) f as = Zbk (Zj ⟨den p d, dcl p d, dfl p d⟩ fn.code ⟨slots as, fun _ => none, 0, 0⟩) (res fn.res) := by
 simp only [den, h1, h2]
theorem Y9h {p : Prog} {d f : Nat} {as : List A} {fn : AFn} {h : Hp} {n : Nat} (h1 : p.ins f = none) (h0 : p.hx f = none) (h2 : p.dfn f = some fn) : dcl p (d + 1) f as h n = Zbk (Zj ⟨den p d, dcl p d, dfl p d⟩ fn.code ⟨slots as, h, n, n⟩) (Zo9 fn.res) := by
 simp only [dcl, h1, h0, h2]
theorem Y36 {p : Prog} {d f : Nat} {as : List A} {fn : AFn} {h : Hp} {n : Nat} (h1 : p.fl f = some fn) : dfl p (d + 1) f as h n = Zbk (Zj ⟨den p d, dcl p d, dfl p d⟩ fn.code ⟨slots as, h, n, 0⟩) (Zo9 fn.res) := by
 simp only [dfl, h1]
theorem Y5y {p : Prog} {d f e : Nat} {as : List A} {h : Hp} {n : Nat} (h1 : p.ins f = some e) : dcl p (d + 1) f as h n = Zxg e as h n := by
 simp only [dcl, h1]
theorem Zan {p : Prog} {d f : Nat} {as : List A} {F : List A -> Option (List A)} (h1 : p.ext f = some F) : den p (d + 1) f as = F as := by
 simp only [den, h1]
def Z8h (e : Nat) : List A -> Option (List A)
 | [.lit ty rows] => if ty = e /\ rows.length <= big then some [.olit e rows] else none
 | _ => none
def cl0 (e : Nat) : ACode := .rg 1 false [.o (.mvn 2 0 e)]
def clT (e : Nat) : ACode := .sq (.rg 1 false [.o (.mvn 2 0 e)]) .rt
def clR (e n : Nat) : ACode := .sq (.rg 2 false [.o (.bsl 5 0 e n []), .o (.mv 6 (.t 0)), .o (.app 7 1 e (.t 5) (.t 6)), .o (.mv 2 (.t 7))]) .rt
def Zr2 (P : Program) (e : Nat) (ops : Array Oper) : Bool :=
 match ops.toList with
 | [o1, o2] => (match o1.op with | .move (.tmp 0) => true | _ => false) && o1.guard.isNone && decide (o1.dst = some 3) &&
  (match o2.op with | .binOp .eql t (.tmp 3) (.const (.slice none 0 0)) _ => Z82 P t e | _ => false) && o2.guard.isNone && decide (o2.dst = some 4)
 | _ => false
def Zei (P : Program) (f e : Nat) : Bool :=
 match P.funcs[f]? with
 | some F => (match F.body with
   | some (.seq r0 (.seq (.seq (.region _ ops false) (.cond (.tmp 4) thn .skip)) rest)) =>
     Yi P F.ntmps (cl0 e) r0 && Zr2 P e ops && Yi P F.ntmps (clT e) thn && Yi P F.ntmps (clR e (P.cellsOf e)) rest
   | _ => false) && Z9y P F.results.toList [.t 2] && (F.name != "runtime.NumGoroutine") && decide (8 <= F.ntmps) && decide (0 < P.cellsOf e)
 | none => false
def E0 : Env := ⟨fun _ _ => none, fun _ _ _ _ => none, fun _ _ _ _ => none⟩
theorem Yai : EnvOk P E0 := ⟨fun f S w as rs xs e => (by cases e), fun f as rs e => (by cases e), fun f C S w B as xs h n rs h' n' e => (by cases e), fun f as h n r e => (by cases e), fun f C S w B as xs h n rs h' n' e => (by cases e), fun f as h n r e => (by cases e)⟩
theorem Y2r : Z29 E0 := ⟨fun f as h n rs h' n' e => (by cases e), fun f as h n rs h' n' e => (by cases e)⟩
theorem SW.put {U : St} {a : Act} {d : Nat} {u : A} {v : Value} (T : SW P C S B N U a w) (r : R P C S w u v) (hd : d < N) : SW P C S B N { U with s := upd U.s d u } (a.put (some d) v) w := by
 obtain ⟨C1, S1, M, T1, _, _⟩ := Fin'.SW (d := some d) (v := v) (U' := { U with s := upd U.s d u }) (iv := fun _ => False) (D := false) T ⟨u, rfl, C, S, Mv.refl _ _ _ _ _, T.heap, r, .inl ⟨rfl, .inl rfl⟩⟩ (by simp [Y0i, hd])
 exact ⟨fun t => by
  simp only [Z7, Act.put]
  by_cases ht : t = d
  . subst ht
    have hlt : t < a.tmps.size := fK hd T.size
    simp [hlt]
    exact r
  . rw [if_neg ht]
    have : (a.tmps.setIfInBounds d v).getD t undef = a.tmps.getD t undef := by
     simp [gK, gR (fun q : d = t => ht q.symm)]
    rw [this]
    exact T.slot t, by simpa [Act.put] using T.size, T.defers, T.heap, T.le⟩
theorem Y16 (e : Nat) (U : St) : Zj E0 (clT e) U = some (.ret ⟨upd U.s 2 (.ref e (U.n + 0) 0 0 0 false), upd U.h (U.n + 0) (some ⟨e, [], true, false⟩), U.n + 1, U.base⟩) := rfl
theorem Zz0 {e n : Nat} {rows : List (List A)} (hbig : rows.length <= big) {U : St} (h0 : U.s 0 = .lit e rows) :
 ∃ U', Zj E0 (clR e n) U = some (.ret U') /\ U'.s 2 = .ref e (U.n + 1) 0 rows.length rows.length false /\ U'.h (U.n + 1) = some ⟨e, rows, true, false⟩ := by
 obtain ⟨s, h, m, bs⟩ := U
 simp only at h0
 have key : Zj E0 (clR e n) ⟨s, h, m, bs⟩ = some (.ret ⟨upd (upd (upd (upd s 5 (.ref e m 0 0 0 true)) 6 (.lit e rows)) 7 (.ref e (m + 1) 0 rows.length rows.length false)) 2 (.ref e (m + 1) 0 rows.length rows.length false), upd (upd (upd h m (some ⟨e, [], true, false⟩)) m none) (m + 1) (some ⟨e, rows, true, false⟩), m + 2, bs⟩) := by
  simp only [clR, Zj, Ze, Yp, step, Z5k, bnd, ev, Z7, h0, rowsOf, AOp.yields, Ya, put, Xw, frz, Zr4, if_true]
  simp [Z7, hbig, Zh2, nrm]
 exact ⟨_, key, by simp [Z7], by simp [Z7]⟩
theorem Zqc {h : Hp} {e b : Nat} {rows : List (List A)} (hb : h b = some ⟨e, rows, true, false⟩) : Za8 h [] [.ref e b 0 rows.length rows.length false] = some [.olit e rows] := by
 simp [Za8, Y10, Z6q, hb, bnd]
theorem Zl5 {ops : Array Oper} {Q : Exit -> Act -> World -> Prop} {i : Nat} {rest : List Nat} {o : Oper} {a : Act} (hi : ops[i]? = some o) (hg : o.guard = none) (h : o.wp P a w (wpOps P ops Q rest) Q) : wpOps P ops Q (i :: rest) a w := by
 rw [wpOps_cons]
 unfold wpOp
 rw [hi]
 have hw : Region.wanted o (yielded ops a.tmps) = true := by unfold Region.wanted; rw [hg]
 simp only [hw, if_true]
 exact .inl h
theorem Zuu {ty : Nat} {rows : List (List A)} {v : Value} (hpos : 0 < P.cellsOf ty) (r : R P C S w (.lit ty rows) v) : ∃ a cap, v = .slice a rows.length cap /\ (a = none -> rows = []) := by
 cases r with
 | lit ty rows a cap Y hcap hl hc hr =>
   refine ⟨a, cap, rfl, fun ha => ?_⟩
   cases rows with
   | nil => rfl
   | cons row rows =>
     have h1 := (hl 0 row rfl).1
     cases row with
     | nil => simp at h1; omega
     | cons c cs =>
       obtain ⟨k, off, e1, _⟩ := hc 0 _ 0 c rfl rfl
       rw [ha] at e1; cases e1
theorem Z7c {f e : Nat} (ok : Zei P f e = true) (hm : P.follows .mixedOrders = true) : Z9f P (Z8h e) f /\ Z9z P f := by
 unfold Zei at ok
 split at ok
 . rename_i F hF
   simp only [dQ, eJ] at ok
   obtain ⟨⟨⟨⟨o1, o2⟩, o3⟩, o4⟩, j4⟩ := ok
   split at o1
   . rename_i r0 rid ops thn rest j2
     simp only [dQ] at o1
     obtain ⟨⟨⟨k0, k1⟩, kT⟩, kR⟩ := o1
     refine ⟨fun S w as rs xs he hS hG r => ?_, F, hF, by simpa using o3, by rw [j2]; rfl⟩
     unfold Z8h at he
     split at he
     . rename_i ty rows
       split at he
       . rename_i hc
         obtain ⟨rfl, jc⟩ := hc
         simp only [dM] at he
         subst he
         obtain ⟨x, jq, rfl, rx, rt⟩ := r.inv_cons
         have je := rt.inv_nil
         subst je
         have jb := Zuu j4 rx
         obtain ⟨a, cap, rfl, jl⟩ := jb
         refine calls_of_wp hF j2 ?_
         have H0 : HR P Yy S w w.heap.size (fun _ => none) := HR.empty hS hG
         have T0 : SW P Yy S w.heap.size F.ntmps ⟨slots [.lit ty rows], fun _ => none, 0, 0⟩ { tmps := [Value.slice a rows.length cap].toArray ++ Array.replicate (F.ntmps - [Value.slice a rows.length cap].toArray.size) undef, defers := [] } w :=
          ⟨fun t => Zpg (.cons rx .nil) _ t, by simp; omega, rfl, H0, dO _⟩
         have jm : Lo 0 (fun _ => none) := fun b hb => by omega
         have fin : ∀ (c : ACode) (x : Code), Yi P F.ntmps c x = true -> ∀ (C1 : Rho) (S1 : Nat -> Prop) (U1 : St) (a1 : Act) (w1 : World) (U2 : St) (q : Nat), MvX 0 w.heap.size Yy S w C1 S1 w1 -> SW P C1 S1 w.heap.size F.ntmps U1 a1 w1 -> (∀ b, U1.n <= b -> C1 b = none) -> U1.base = 0 ->
          Zj E0 c U1 = some (.ret U2) -> Za8 U2.h [] [U2.s 2] = some [.olit ty rows] -> x.wp P (fun ex a w0 => ex = .ret /\ bodyPost P F (fun | .returned v, w' => Res P S w [.olit ty rows] v w' | _, _ => False) ex a w0) a1 w1 := by
          intro c x okc C1 S1 U1 a1 w1 U2 q M1 T1 f1 b1 he jh
          have jj : Lo U1.base U1.h := by rw [b1]; exact fun b hb => by omega
          refine wp_mono (Z9s Yai Y2r hm c x okc C1 S1 U1 a1 w1 _ he T1 f1 (by omega) jj) (fun ex a2 w2 p => ?_)
          obtain ⟨C2, S2, M2, T2, f2⟩ := p.ex
          rw [b1] at M2
          have j1 := p.same
          cases ex <;> simp only [Zx] at j1
          obtain ⟨us, j3, ji⟩ := Zal T2.heap rfl T2.slot (F := F) (rv := [.t 2]) (as := [U2.s 2]) o2 rfl
          have M := M1.trans M2
          exact ⟨rfl, T2.defers, _, j3, Zaq rfl T2.heap ji jh M.sub M.back M.below M.ext⟩
         refine wp_seq ?_
         have e0 : Zj E0 (cl0 ty) ⟨slots [.lit ty rows], fun _ => none, 0, 0⟩ = some (.norm ⟨upd (slots [.lit ty rows]) 2 (.ref ty 0 0 0 0 false), upd (fun _ => none) 0 (some ⟨ty, [], true, false⟩), 1, 0⟩) := rfl
         refine wp_mono (Z9s Yai Y2r hm (cl0 ty) r0 k0 Yy S _ _ w _ e0 T0 (fun b _ => rfl) (dO _) jm) (fun ex a1 w1 p => ?_)
         obtain ⟨C1, S1, M1, T1, f1⟩ := p.ex
         have j1 := p.same
         cases ex <;> simp only [Zx] at j1
         simp only [Exit.then]
         simp only [Out.st] at T1 f1
         refine wp_seq (wp_seq ?_)
         unfold Zr2 at k1
         split at k1
         . rename_i p1 p2 j9
           simp only [dQ, eJ, fZ] at k1
           obtain ⟨⟨⟨⟨⟨q1, q2⟩, q3⟩, q4⟩, q5⟩, q6⟩ := k1
           have j7 : ops = #[p1, p2] := by have := congrArg List.toArray j9; simpa using this
           have jf : R P C1 S1 w1 (.lit ty rows) (a1.tmps.getD 0 undef) := T1.slot 0
           have ja := Zuu j4 jf
           obtain ⟨a', j0, jd, j6⟩ := ja
           have hN : F.ntmps <= a1.tmps.size := T1.size
           have step : (Code.region rid ops false).wp P (fun ex a2 w2 => ex = .normal /\ w2 = w1 /\ SW P C1 S1 w.heap.size F.ntmps ⟨upd (upd (upd (slots [.lit ty rows]) 2 (.ref ty 0 0 0 0 false)) 3 (.lit ty rows)) 4 (.v (.bool a'.isNone)), upd (fun _ => none) 0 (some ⟨ty, [], true, false⟩), 1, 0⟩ a2 w1) a1 w1 := by
            refine wp_region ?_
            rw [j7]
            show wpOps P #[p1, p2] _ [0, 1] a1 w1
            refine Zl5 (o := p1) rfl q2 ?_
            split at q1
            . rename_i jo
              have j3 : (execOp a1.eval p1).run P w1 = .ok (.value (.slice a' rows.length j0)) w1 := by
               have : a1.eval (.tmp 0) = .slice a' rows.length j0 := jd
               simp [execOp, jo, this]
              refine X6 j3 ?_
              rw [q3]
              have T2 := T1.put (d := 3) (u := .lit ty rows) (v := .slice a' rows.length j0) (by have := T1.slot 0; rw [jd] at this; exact this) (by omega)
              refine Zl5 (o := p2) rfl q5 ?_
              split at q4
              . rename_i t yt jp
                have hu := X7 q4
                have jg : (a1.put (some 3) (.slice a' rows.length j0)).eval (.tmp 3) = .slice a' rows.length j0 := by
                 have h3 : 3 < a1.tmps.size := by omega
                 simp [Act.eval, Act.put, h3]
                have hk : (a1.put (some 3) (.slice a' rows.length j0)).eval (.const (.slice none 0 0)) = .slice none 0 0 := rfl
                have j8 : (execOp (a1.put (some 3) (.slice a' rows.length j0)).eval p2).run P w1 = .ok (.value (.bool a'.isNone)) w1 := by
                 have hq := run_equal_slice_nil (P := P) w1 t ty a' rows.length j0 hu
                 simp only [execOp, jp, jg, hk, dE]
                 have hg : (eqGuard .eql t (.tmp 3) (.const (.slice none 0 0)) (.slice a' rows.length j0) (.slice none 0 0)).run P w1 = .ok () w1 := by
                  simp [eqGuard]
                 rw [hg]
                 simp only [cX, binOp, dE, hq]
                 rfl
                refine X6 j8 ?_
                rw [q6]
                exact ⟨rfl, rfl, T2.put (d := 4) (u := .v (.bool a'.isNone)) (.v _ rfl) (by omega)⟩
              . cases q4
            . cases q1
           refine wp_mono step (fun ex a2 w2 hp => ?_)
           obtain ⟨rfl, rfl, T2⟩ := hp
           simp only [Exit.then]
           have jn : a2.eval (.tmp 4) = .bool a'.isNone := (R.v_inv (T2.slot 4)).1
           refine wp_cond jn ?_
           have f2 : ∀ b, 1 <= b -> C1 b = none := f1
           cases ha' : a'.isNone with
           | true =>
             have j5 : rows = [] := j6 (by simpa using ha')
             subst j5
             rw [ha'] at T2
             simp only [if_true]
             refine wp_mono (fin (clT ty) thn kT C1 S1 _ a2 w2 _ 0 M1 T2 f2 rfl (Y16 ty _) (Zqc (rows := []) (by simp [Z7]))) (fun ex a3 w3 hq => ?_)
             obtain ⟨rfl, hq⟩ := hq
             exact hq
           | false =>
             rw [ha'] at T2
             simp only [eH, if_false]
             refine wp_skip ?_
             simp only [Exit.then]
             obtain ⟨U', g1, g2, g3⟩ := Zz0 (e := ty) (n := P.cellsOf ty) jc (U := ⟨upd (upd (upd (slots [.lit ty rows]) 2 (.ref ty 0 0 0 0 false)) 3 (.lit ty rows)) 4 (.v (.bool false)), upd (fun _ => none) 0 (some ⟨ty, [], true, false⟩), 1, 0⟩) (by simp [Z7, slots])
             exact wp_mono (fin (clR ty (P.cellsOf ty)) rest kR C1 S1 _ a2 w2 U' 0 M1 T2 f2 rfl g1 (by rw [g2]; exact Zqc g3)) (fun ex a3 w3 hq => hq.2)
         . cases k1
       . cases he
     . cases he
   . cases o1
 . cases ok
theorem Zqi {tS e sz : Nat} {inf : TypeInfo} (hu : P.underlying tS = some (.slice e)) (hi : P.info? e = some inf) (hsz : inf.size = sz) (w : World) (b o dLen m : Nat) (a : Addr) (sLen : Nat) (hm : Nat.min sLen dLen = m)
 (vs : List Value) (hl : vs.length = m * sz) (hv : ∀ j v, vs[j]? = some v -> w.cell? (a.add j) = some v) (h1 : ∀ v ∈ vs, v.oneCell' = true) {c : Array Value} {t : TypeId} (hc : w.heap[b]? = some (.cells c t (0, 0))) (hf : o + vs.length <= c.size) (ty dCap sCap : Nat) :
 (Builtin.copy_ #[tS, tS] ty #[.slice (some ⟨b, o, none⟩) dLen dCap, .slice (some a) sLen sCap]).run P w = .ok (goInt m) (w.setCells b o vs) := by
 have j0 : (loadCells a (m * sz)).run P w = .ok vs.toArray w := by rw [<- hl]; exact run_loadCells_list (P := P) w a vs hv
 have j1 := run_storeCells_cells (P := P) b o vs 0 w (fun j hj => by simp only [World.cell?, hc, fM]; rw [eR (by omega)]; rfl) (fun j hj => by simp [World.frozen?, hc]) h1
 simp [Builtin.copy_, run_underlying hu, Builtin.lenOf, Builtin.firstCells, sizeOf, typeInfo, hi, hsz, hm, j0, j1]
structure InsWalk (P : Program) (f tS tI e sz : Nat) : Prop where
 und : P.underlying tS = some (.slice e)
 undI : P.underlying tI = some (.int .i64)
 app : Zmb P tS tS e = true
 size : P.cellsOf e = sz
 enter : Z9z P f
 end_ : ∀ (a : Option Addr) (n c : Nat) (x : Value) (vc : Nat) (w w' : World) (va : Option Addr), (0 < n -> ∃ b off, a = some ⟨b, off, none⟩) ->
  (Builtin.append_ #[tS, tS] tS #[.slice a n c, .slice va 1 vc]).run P w = .ok x w' ->
  Calls P f #[.slice a n c, .int .i64 n, .slice va 1 vc] w fun e w1 => e = .returned x /\ w1 = w'
 shift : ∀ (b off n c i vc : Nat) (w W1 W2 : World) (vb vo : Nat) (r1 r2 : Value), i < n -> n + 1 <= c -> n + 1 <= big -> vb ≠ b ->
  (∃ cs t, w.heap[b]? = some (.cells cs t (0, 0)) /\ cs.size ≠ 0) -> (∃ cs t, w.heap[vb]? = some (.cells cs t (0, 0))) ->
  (∀ ty dc sc, (Builtin.copy_ #[tS, tS] ty #[.slice (some ⟨b, off + (i + 1) * sz, none⟩) (n - i) dc, .slice (some ⟨b, off + i * sz, none⟩) (n + 1 - i) sc]).run P w.drew = .ok r1 W1) ->
  (∀ ty dc, (Builtin.copy_ #[tS, tS] ty #[.slice (some ⟨b, off + i * sz, none⟩) (n + 1 - i) dc, .slice (some ⟨vb, vo, none⟩) 1 vc]).run P W1 = .ok r2 W2) ->
  Calls P f #[.slice (some ⟨b, off, none⟩) n c, .int .i64 i, .slice (some ⟨vb, vo, none⟩) 1 vc] w fun e w1 => e = .returned (.slice (some ⟨b, off, none⟩) (n + 1) c) /\ w1 = W2
 grow : ∀ (b off n c i G nb vc : Nat) (w W1 W2 W3 : World) (va : Option Addr) (r1 r2 : Value), i < n -> n <= c -> c < n + 1 -> n + 1 <= big -> n + 1 <= G -> G <= 9223372036854775807 ->
  (Builtin.append_ #[tS, tI] tS #[.slice (some ⟨b, off, none⟩) i c, .int .i64 ((n : Int) + 1 - (i : Int))]).run P w = .ok (.slice (some ⟨nb, 0, none⟩) (n + 1) G) W1 ->
  (∀ ty dc, (Builtin.copy_ #[tS, tS] ty #[.slice (some ⟨nb, i * sz, none⟩) (n + 1 - i) dc, .slice va 1 vc]).run P W1 = .ok r1 W2) ->
  (∀ ty dc sc, (Builtin.copy_ #[tS, tS] ty #[.slice (some ⟨nb, (i + 1) * sz, none⟩) (n - i) dc, .slice (some ⟨b, off + i * sz, none⟩) (n - i) sc]).run P W2.drew = .ok r2 W3) ->
  Calls P f #[.slice (some ⟨b, off, none⟩) n c, .int .i64 i, .slice va 1 vc] w fun e w1 => e = .returned (.slice (some ⟨nb, 0, none⟩) (n + 1) G) /\ w1 = W3
theorem Zra {V : Type} {l : List V} {x : V} {i : Nat} (hi : i <= l.length) (q : Nat) : (l.take i ++ x :: l.drop i)[q]? = if q < i then l[q]? else if q = i then some x else l[q - 1]? := by
 have hl : (l.take i).length = i := by simp; omega
 by_cases h1 : q < i
 . rw [if_pos h1, dZ (by omega), dB, if_pos h1]
 . rw [if_neg h1, eA (by omega), hl]
   by_cases h2 : q = i
   . subst h2; simp
   . rw [if_neg h2]
     obtain ⟨d, rfl⟩ : ∃ d, q = i + 1 + d := ⟨q - (i + 1), by omega⟩
     rw [show i + 1 + d - i = d + 1 by omega, fF, eX]
     congr 1
     omega
theorem Zml {c' : Array Value} {sz i : Nat} {rows : List (List A)} {row : List A} {W : World} (hi : i <= rows.length)
 (h1 : ∀ (q : Nat) (r : List A) (j : Nat) (x : A), q < i -> rows[q]? = some r -> r[j]? = some x -> ∃ y, c'[q * sz + j]? = some y /\ R P Yy S W x y)
 (h2 : ∀ (j : Nat) (x : A), row[j]? = some x -> ∃ y, c'[i * sz + j]? = some y /\ R P Yy S W x y)
 (h3 : ∀ (q : Nat) (r : List A) (j : Nat) (x : A), i <= q -> rows[q]? = some r -> r[j]? = some x -> ∃ y, c'[(q + 1) * sz + j]? = some y /\ R P Yy S W x y)
 (q : Nat) (r : List A) (j : Nat) (x : A) (e1 : (rows.take i ++ row :: rows.drop i)[q]? = some r) (e2 : r[j]? = some x) : ∃ y, c'[q * sz + j]? = some y /\ R P Yy S W x y := by
 rw [Zra hi] at e1
 split at e1
 . exact h1 q r j x (by assumption) e1 e2
 . split at e1
   . rename_i hq
     simp only [dM] at e1
     subst e1
     subst hq
     exact h2 j x e2
   . obtain ⟨d, rfl⟩ : ∃ d, q = d + 1 := ⟨q - 1, by omega⟩
     exact h3 d r j x (by omega) e1 e2
theorem Zpa {c : Array Value} {o l : Nat} (h : o + l <= c.size) : ((c.toList.drop o).take l).length = l /\ ∀ j, j < l -> ((c.toList.drop o).take l)[j]? = c[o + j]? := by
 refine ⟨by simp; omega, fun j hj => ?_⟩
 rw [dB, if_pos hj, eX]
 simp
theorem Mv.fresh {iv : Nat -> Prop} {n : Nat} (M : Mv B C S w C' S' w' iv) (hf : ∀ b, n <= b -> C b = none) (hiv : ∀ b, n + 1 <= b -> ¬ iv b) (b : Nat) (hb : n + 1 <= b) : C' b = none :=
 M.new b (hf b (by omega)) (hiv b hb)
set_option maxHeartbeats 4000000 in
theorem Y84 {f tS tI e0 sz : Nat} (I : InsWalk P f tS tI e0 sz) : Y75 P (Zxg e0) f := by
 intro C S w B as xs h n rs h' n' eq H hB r hf
 obtain ⟨b, cap, ex, i, b2, ju, mi, k, k2, row, rfl, hk, kp, j3, km, kn, kf, jl, k4, mz, hi, jc, rfl, rfl, rfl⟩ := Zr8 eq
 clear eq
 obtain ⟨j0, rows, na, my⟩ := k
 simp only at km kn kf hi jc r hk ⊢
 subst km
 subst kn
 subst kf
 obtain ⟨L, hL⟩ : ∃ L, rows.length = L := ⟨_, rfl⟩
 rw [hL] at hi jc r ⊢
 obtain ⟨x1, p5, rfl, m3, nn⟩ := r.inv_cons
 obtain ⟨x2, p3, rfl, n7, n3⟩ := nn.inv_cons
 obtain ⟨x3, ny, rfl, nh, ni⟩ := n3.inv_cons
 have nb := ni.inv_nil
 subst nb
 obtain ⟨rfl, _⟩ := R.v_inv n7
 have jb := I.size
 have okA := I.app
 have k9 : Zmb P tS tS j0 = true := okA
 simp only [Zmb, dQ, eJ] at okA
 obtain ⟨⟨⟨o1, o2⟩, m2⟩, o4⟩ := okA
 split at o4
 . rename_i inf ja
   simp only [dQ, eJ] at o4
   obtain ⟨jh, o5⟩ := o4
   split at o5
   . rename_i z hz
     have n8 : z.cells.size = inf.size := by simpa using o5
     have jx : inf.size = sz := by rw [<- jb]; simp [Program.cellsOf, ja]
     have k6 : 0 < sz := by rw [<- jb]; exact m2
     have js : rowsOf j0 h (.ref j0 b2 0 1 ju mi) = some [row] := by
      obtain ⟨mu, nx⟩ : ∃ r2, k2.rows = r2 := ⟨_, rfl⟩
      have kt : 0 < k2.rows.length := (dU.1 j3).1
      simp only [rowsOf, bnd, kp, k4, jl, true_and]
      rw [if_pos (by omega)]
      congr 1
      cases hq : k2.rows with
      | nil => rw [hq] at kt; simp at kt
      | cons y ys => rw [hq] at j3; simp at j3; subst j3; simp
     cases nh with
     | ref ty3 b3 off3 Ydo cap3 ex3 kv szv cv av hbv hszv hcapv hexv hav hlenv hkv =>
       have m0 : av = some ⟨kv, 0, none⟩ := by have := hav (by omega); simpa using this
       subst m0
       have ms := H.at_of kp hbv
       obtain ⟨cs2, jp, n6, j4⟩ := ms.heap
       rw [jl] at j4
       have kk : szv = sz := by rw [hszv, jb]
       subst kk
       have kr : row.length = szv /\ Zi row = true := ms.rows 0 row j3
       have kt : 0 < k2.rows.length := (dU.1 j3).1
       have nf : szv <= cs2.size := by
        have : 1 * szv <= k2.rows.length * szv := cZ _ kt
        omega
       have mo : R P C S w (.ref j0 b2 0 1 ju mi) (.slice (some ⟨kv, 0, none⟩) 1 cv) := .ref j0 b2 0 1 ju mi kv szv cv _ hbv hszv hcapv hexv (fun hh => by simp) hlenv hkv
       rcases Nat.eq_or_lt_of_le hi with n9 | hlt
       . -- at the end
         have mm : R P C S w (.ref j0 b 0 L L false) x1 := by
          cases m3 with
          | ref _ _ _ _ _ _ k0 sz0 c a hb hty hcap hex ha hlen hk0 => exact .ref j0 b 0 _ _ false k0 sz0 c a hb hty hlen (fun h => by cases h) ha hlen hk0
          | nil _ _ _ hb => exact .nil j0 b false hb
         have nq : Zr4 ⟨fun _ => .bad, h, n, 0⟩ 0 0 j0 [row] (.ref j0 b 0 L L false) = some ⟨upd (fun _ => .bad) 0 (.ref j0 (n + 0) 0 (L + 1) (L + 1) false), upd (upd h b none) (n + 0) (some ⟨j0, rows.take L ++ [row], true, false⟩), n, 0⟩ := by
          simp only [Zr4, bnd, hk]
          rw [if_pos ⟨trivial, trivial, trivial, trivial, by omega, jc⟩, if_pos trivial]
          rfl
         obtain ⟨v, w1, md, u, hu, E1⟩ := Zn1 (P := P) (ty := tS) (nm := 0) (d := 0) (U := ⟨fun _ => .bad, h, n, 0⟩) H hB mm mo js (hf n (dO _)) k9 nq
         have nc : u = .ref j0 n 0 (L + 1) (L + 1) false := by
          have := congrArg (fun s : St => s.s 0) hu
          simpa [Z7] using this.symm
         subst nc
         obtain ⟨C1, S1, M1, H1, r1⟩ := E1.ex
         have nr : ∃ a c, x1 = .slice a L c /\ (0 < L -> ∃ b off, a = some ⟨b, off, none⟩) := by
          cases m3 with
          | ref _ _ _ _ _ _ k0 sz0 c a hb hty hcap hex ha hlen hk0 => exact ⟨a, c, rfl, fun hh => ⟨_, _, ha (by omega)⟩⟩
          | nil _ _ _ hb => exact ⟨none, 0, rfl, fun hh => absurd hh (eL _)⟩
         obtain ⟨a, c, rfl, nk⟩ := nr
         have m8 := n9.symm
         subst m8
         refine (I.end_ a L c v cv w w1 (some ⟨kv, 0, none⟩) nk md).mono (fun en w2 he => ?_)
         obtain ⟨rfl, rfl⟩ := he
         refine ⟨Nat.le_succ _, C1, S1, M1.wide (fun b hb => hb.1), ?_, r1, M1.fresh hf (fun b hb hs => by have := hs.2; simp only [fM] at this; omega)⟩
         have kj : rows.take L ++ row :: rows.drop L = rows.take L ++ [row] := by rw [gH (by omega)]
         rw [kj]
         exact H1
       . -- further ahead
         cases m3 with
         | nil _ _ _ hb => omega
         | ref _ _ _ _ _ _ k0 sz0 c a hb hty hcap hex ha hlen hk0 =>
           have nt := ha (by omega)
           subst nt
           have mb : sz0 = szv := by rw [hty, jb]
           subst mb
           rw [gV]
           have jd := H.at_of hk hb
           obtain ⟨cs, kb, kd, j2⟩ := jd.heap
           obtain ⟨p0, t', j1, mg⟩ := hk0
           rw [kb] at j1
           simp only [dM, Obj.cells.injEq, and_true] at j1
           obtain ⟨rfl, rfl⟩ := j1
           rw [dF] at mg
           have k1 : kv ≠ k0 := fun q => by
            subst q
            exact mz (H.inj b b2 kv sz0 sz0 _ k2 hk kp hb hbv)
           have kl := H.lt hk hb
           have kh := H.lt kp hbv
           rw [hL] at kd
           have p6 : i * sz0 + (L - i) * sz0 = L * sz0 := by rw [<- dL]; congr 1; omega
           have p4 : L * sz0 <= cs.size := kd
           obtain ⟨tl, ku⟩ := Zpa (c := cs) (o := i * sz0) (l := (L - i) * sz0) (by omega)
           obtain ⟨vl, kq⟩ := Zpa (c := cs2) (o := 0) (l := 1 * sz0) (by omega)
           obtain ⟨ky, mq⟩ := Zpa (c := cs) (o := 0) (l := i * sz0) (by omega)
           generalize htail : (cs.toList.drop (i * sz0)).take ((L - i) * sz0) = tail at *
           generalize hvs : (cs2.toList.drop 0).take (1 * sz0) = vs at *
           generalize hhd : (cs.toList.drop 0).take (i * sz0) = hd at *
           have m1 : ∀ (q : Nat) (r : List A) (j : Nat) (x : A), rows[q]? = some r -> r[j]? = some x -> ∃ y, cs[q * sz0 + j]? = some y /\ R P Yy S w x y /\ y.oneCell' = true := fun q r j x e1 e2 => by
            obtain ⟨y, hy, hr⟩ := j2 q r j x e1 e2
            exact ⟨y, hy, hr, Z6w (Yz.1 (jd.rows q r e1).2 x (dY e2)) hr⟩
           have jq : ∀ m, m < L * sz0 -> ∃ y, cs[m]? = some y /\ y.oneCell' = true := fun m hm => by
            have hq : m / sz0 < rows.length := by rw [hL]; exact Nat.div_lt_of_lt_mul (by rw [gJ]; exact hm)
            have hr := dS hq
            have hj : m % sz0 < rows[m / sz0].length := by rw [(jd.rows _ _ hr).1]; exact Nat.mod_lt _ k6
            obtain ⟨y, hy, _, h1⟩ := m1 _ _ _ _ hr (dS hj)
            have : m / sz0 * sz0 + m % sz0 = m := by rw [gJ]; exact Nat.div_add_mod m sz0
            rw [this] at hy
            exact ⟨y, hy, h1⟩
           have j5 : ∀ v ∈ tail, v.oneCell' = true := fun v hv => by
            obtain ⟨j, hj⟩ := eU hv
            have ko := (dU.1 hj).1
            rw [ku j (by omega)] at hj
            obtain ⟨y, hy, h1⟩ := jq (i * sz0 + j) (by omega)
            rw [hj] at hy
            simp only [dM] at hy
            subst hy
            exact h1
           have j6 : ∀ v ∈ vs, v.oneCell' = true := fun v hv => by
            obtain ⟨j, hj⟩ := eU hv
            have ko := (dU.1 hj).1
            rw [kq j (by omega)] at hj
            have k7 : j < row.length := by rw [kr.1]; omega
            obtain ⟨y, hy, hr⟩ := j4 0 row j row[j] j3 (dS k7)
            rw [gV] at hy
            rw [hj] at hy
            simp only [dM] at hy
            subst hy
            exact Z6w (Yz.1 kr.2 _ (eV k7)) hr
           have kc : Nat.min (L + 1 - i) (L - i) = L - i := by simp only [Nat.min_def]; split <;> omega
           have jm : Nat.min 1 (L + 1 - i) = 1 := by simp only [Nat.min_def]; split <;> omega
           have ke : Nat.min (L - i) (L - i) = L - i := by simp
           have p1 : (i + 1) * sz0 = i * sz0 + sz0 := by rw [dL, Nat.one_mul]
           have p2 : (L + 1) * sz0 = L * sz0 + sz0 := by rw [dL, Nat.one_mul]
           have j7 : ∀ (j : Nat) (x : A), row[j]? = some x -> ∃ y, cs2[j]? = some y /\ R P Yy S w x y := fun j x e2 => by
            obtain ⟨y, hy, hr⟩ := j4 0 row j x j3 e2
            rw [gV, dF] at hy
            exact ⟨y, hy, hr⟩
           have k7 : ∀ (j : Nat) (x : A), row[j]? = some x -> j < sz0 := fun j x e => by have := (dU.1 e).1; rw [kr.1] at this; exact this
           have ks : ∀ (q : Nat) (r : List A) (j : Nat) (x : A), rows[q]? = some r -> r[j]? = some x -> j < sz0 /\ q < L := fun q r j x e1 e2 => by
            have h1 := (dU.1 e2).1
            rw [(jd.rows q r e1).1] at h1
            have h2 := (dU.1 e1).1
            rw [hL] at h2
            exact ⟨h1, h2⟩
           have je : ∀ (q : Nat) (r : List A), (rows.take i ++ row :: rows.drop i)[q]? = some r -> r.length = sz0 /\ Zi r = true := fun q r e => by
            rw [Zra (by omega)] at e
            split at e
            . exact jd.rows q r e
            . split at e
              . simp only [dM] at e; subst e; exact kr
              . exact jd.rows _ r e
           have jn : (rows.take i ++ row :: rows.drop i).length = L + 1 := by simp; omega
           have jf : ∀ (W : World), W.heap[k0]? = some (Obj.cells cs j0 (0, 0)) -> ∀ j v, tail[j]? = some v -> W.cell? ((⟨k0, i * sz0, none⟩ : Addr).add j) = some v := fun W hW j v hj => by
            have ko := (dU.1 hj).1
            rw [ku j (by omega)] at hj
            rw [Z08]
            simp [World.cell?, hW, hj]
           have jg : ∀ (W : World), W.heap[kv]? = some (Obj.cells cs2 k2.ty (0, 0)) -> ∀ j v, vs[j]? = some v -> W.cell? ((⟨kv, 0, none⟩ : Addr).add j) = some v := fun W hW j v hj => by
            have ko := (dU.1 hj).1
            rw [kq j (by omega)] at hj
            rw [Z08]
            rw [dF] at hj
            simp [World.cell?, hW, hj]
           by_cases hroom : L + 1 <= c
           . -- in place
             have mc : (L + 1) * sz0 <= cs.size := eI (cZ _ hroom) mg
             have j1 : w.drew.heap[k0]? = some (Obj.cells cs j0 (0, 0)) := kb
             have hw1 := V1 (w := w.drew) (k := k0) (o := (i + 1) * sz0) tail j1 j5 (by rw [tl]; omega)
             obtain ⟨c1, jz, jj, k8⟩ := hw1.here _ _ j1
             have k3 : (w.drew.setCells k0 ((i + 1) * sz0) tail).heap[kv]? = some (Obj.cells cs2 k2.ty (0, 0)) := (hw1.other kv k1).trans jp
             have hw2 := V1 (o := i * sz0) vs jz j6 (by rw [vl, jj]; omega)
             obtain ⟨c2, ka, k5, jv⟩ := hw2.here _ _ jz
             have mh : ∀ ty dc sc, (Builtin.copy_ #[tS, tS] ty #[.slice (some ⟨k0, 0 + (i + 1) * sz0, none⟩) (L - i) dc, .slice (some ⟨k0, 0 + i * sz0, none⟩) (L + 1 - i) sc]).run P w.drew = .ok (goInt ((L - i : Nat) : Int)) (w.drew.setCells k0 ((i + 1) * sz0) tail) := fun ty dc sc => by
              rw [dF, dF]
              exact Zqi I.und ja jx w.drew k0 _ (L - i) (L - i) ⟨k0, i * sz0, none⟩ (L + 1 - i) kc tail tl (jf _ j1) j5 j1 (by rw [tl]; omega) ty dc sc
             have kx : ∀ ty dc, (Builtin.copy_ #[tS, tS] ty #[.slice (some ⟨k0, 0 + i * sz0, none⟩) (L + 1 - i) dc, .slice (some ⟨kv, 0, none⟩) 1 cv]).run P (w.drew.setCells k0 ((i + 1) * sz0) tail) = .ok (goInt ((1 : Nat) : Int)) ((w.drew.setCells k0 ((i + 1) * sz0) tail).setCells k0 (i * sz0) vs) := fun ty dc => by
              rw [dF]
              exact Zqi I.und ja jx _ k0 _ (L + 1 - i) 1 ⟨kv, 0, none⟩ 1 jm vs vl (jg _ k3) j6 jz (by rw [vl, jj]; omega) ty dc cv
             refine (I.shift k0 0 L c i cv w _ _ kv 0 _ _ hlt hroom jc k1 ⟨cs, j0, kb, by omega⟩ ⟨cs2, _, jp⟩ mh kx).mono (fun en w2 he => ?_)
             obtain ⟨rfl, rfl⟩ := he
             have j9 : Ext S w ((w.drew.setCells k0 ((i + 1) * sz0) tail).setCells k0 (i * sz0) vs) := ((Ext.of_heap (w := w) (w' := w.drew) rfl).trans (fun _ h => h) (hw1.ext (jd.own rfl) ⟨_, _, j1⟩)).trans (fun _ h => h) (hw2.ext (jd.own rfl) ⟨_, _, jz⟩)
             have jr := ((Below.refl B w).drew.trans (hw1.below jd.base)).trans (hw2.below jd.base)
             have kz : w.heap.size <= ((w.drew.setCells k0 ((i + 1) * sz0) tail).setCells k0 (i * sz0) vs).heap.size := by rw [hw2.size, hw1.size]; exact dO _
             have jt : ∀ x y, R P Yy S w x y -> R P Yy S ((w.drew.setCells k0 ((i + 1) * sz0) tail).setCells k0 (i * sz0) vs) x y := fun x y r => R.mono (fun _ _ h => h) (fun _ h => h) j9 r
             have mn : BR P C S ((w.drew.setCells k0 ((i + 1) * sz0) tail).setCells k0 (i * sz0) vs) B ⟨j0, rows.take i ++ row :: rows.drop i, true, false⟩ k0 sz0 := by
              refine ⟨hty, jd.base, fun _ => jd.own rfl, fun h => (by cases h), je, c2, ka, ?_, ?_⟩
              . show (rows.take i ++ row :: rows.drop i).length * sz0 <= c2.size
                rw [jn, k5, jj]; exact mc
              . refine Zml (by omega) (fun q r j x hq e1 e2 => ?_) (fun j x e2 => ?_) (fun q r j x hq e1 e2 => ?_)
                . obtain ⟨y, hy, hr⟩ := j2 q r j x e1 e2
                  obtain ⟨hj, _⟩ := ks q r j x e1 e2
                  have jw : (q + 1) * sz0 <= i * sz0 := cZ _ hq
                  rw [dL, Nat.one_mul] at jw
                  exact ⟨y, by rw [jv, if_neg (by omega), k8, if_neg (by omega)]; exact hy, jt _ _ hr⟩
                . obtain ⟨y, hy, hr⟩ := j7 j x e2
                  have hj := k7 j x e2
                  refine ⟨y, ?_, jt _ _ hr⟩
                  rw [jv, if_pos (by omega), show i * sz0 + j - i * sz0 = j by omega, kq j (by omega), dF]
                  exact hy
                . obtain ⟨y, hy, hr⟩ := j2 q r j x e1 e2
                  obtain ⟨hj, nj⟩ := ks q r j x e1 e2
                  obtain ⟨d, rfl⟩ : ∃ d, q = i + d := ⟨q - i, by omega⟩
                  have e3 : (i + d + 1) * sz0 = (i + 1) * sz0 + d * sz0 := by rw [<- dL]; congr 1; omega
                  have e4 : (i + d) * sz0 = i * sz0 + d * sz0 := dL _ _ _
                  have e5 : (d + 1) * sz0 <= (L - i) * sz0 := cZ _ (by omega)
                  rw [dL, Nat.one_mul] at e5
                  refine ⟨y, ?_, jt _ _ hr⟩
                  rw [jv, if_neg (by omega), k8, if_pos (by omega), show (i + d + 1) * sz0 + j - (i + 1) * sz0 = d * sz0 + j by omega, ku _ (by omega), <- gE, <- e4]
                  exact hy
             have H2 := H.adopt hk hb (hf n (dO _)) j9 kz (fun q hq _ => (hw2.other q hq).trans (hw1.other q hq)) mn
             refine ⟨Nat.le_succ _, Zja C n (some (k0, sz0)), S, ⟨Zcr (hf n (dO _)), fun _ h => h, j9, jr, fun q hq hn => by rw [Z2k (by omega)]; exact hq, fun _ h => .inl h⟩, H2, ?_, fun q hq => by rw [Z2k (by omega)]; exact hf q (by omega)⟩
             exact .ref j0 n 0 (L + 1) (L + 1) false k0 sz0 c _ (Yv _ _) hty hroom (fun h => by cases h) (fun _ => by simp) hroom ⟨c2, j0, ka, by rw [k5, jj, dF]; exact mg⟩
           . -- a new row
             have nz : c = L := by omega
             have mp : i + (L + 1 - i) = L + 1 := by omega
             have mt : L + 1 <= 68719476736 := jc
             have mj : (Builtin.firstCells inf.size i (.slice (some ⟨k0, 0, none⟩) i c)).run P w.drew = .ok hd.toArray w.drew := by
              rw [jx]
              show (loadCells ⟨k0, 0, none⟩ (i * sz0)).run P w.drew = _
              rw [<- ky]
              refine run_loadCells_list (P := P) w.drew _ hd (fun j v hj => ?_)
              have ko := (dU.1 hj).1
              rw [mq j (by omega)] at hj
              have j1 : w.drew.heap[k0]? = some (Obj.cells cs j0 (0, 0)) := kb
              rw [Z08]
              rw [dF] at hj
              simp [World.cell?, j1, hj]
             have ns : (L + 1 - i) * inf.bytes <= 281474976710656 := by
              have : (L + 1 - i) * inf.bytes <= 68719476736 * 2048 := Nat.mul_le_mul (by omega) jh
              omega
             have nd : Builtin.nextslicecap (i + (L + 1 - i)) c * inf.bytes <= 281474976710656 := by
              rw [mp]
              have h1 := Room.nextslicecap_le' (show c < L + 1 by omega)
              have : Builtin.nextslicecap (L + 1) c * inf.bytes <= (2 * 68719476736) * 2048 := Nat.mul_le_mul (by omega) jh
              omega
             have kw := Lib.run_append_grow_zeros w tS tI tS j0 inf z .i64 .i64 I.und I.undI ja hz (some ⟨k0, 0, none⟩) i c hd mj (L + 1 - i) (by omega) (by omega) (by omega) (by omega) ns nd
             rw [mp] at kw
             have ki := grownCap_ge w (L + 1) c j0
             have mr := grownCap_le_maxLen w (L + 1) c j0 (by unfold maxLen; omega)
             generalize grownCap w (L + 1) c j0 = G at kw ki mr
             generalize hROW : hd.toArray ++ Builtin.zeroCells z.cells (L + 1 - i) ++ Builtin.zeroCells z.cells (G - (L + 1)) = ROW at kw
             have jy : ROW.size = G * sz0 := by
              rw [<- hROW]
              simp only [Array.size_append, List.size_toArray, size_zeroCells, ky, n8, jx]
              rw [<- dL, <- dL]
              congr 1
              omega
             have nu : ∀ m, m < i * sz0 -> ROW[m]? = cs[m]? := fun m hm => by
              rw [<- hROW, Array.append_assoc, fX (by simp [ky]; exact hm)]
              simp only [gM]
              rw [mq m hm, dF]
             have mw : (L + 1) * sz0 <= G * sz0 := cZ _ ki
             have j8 : (w.drew.alloc (.cells ROW j0)).heap[w.heap.size]? = some (Obj.cells ROW j0 (0, 0)) := Z5m w.drew _
             have mx : k0 ≠ w.heap.size := by omega
             have p7 : kv ≠ w.heap.size := by omega
             have ng : (w.drew.alloc (.cells ROW j0)).heap[kv]? = some (Obj.cells cs2 k2.ty (0, 0)) := (Below.heap_alloc w.drew _ kv kh).trans jp
             have hw2 := V1 (o := i * sz0) vs j8 j6 (by rw [vl, jy]; omega)
             obtain ⟨c1, jz, jj, k8⟩ := hw2.here _ _ j8
             have me : ((w.drew.alloc (.cells ROW j0)).setCells w.heap.size (i * sz0) vs).drew.heap[k0]? = some (Obj.cells cs j0 (0, 0)) := (hw2.other k0 mx).trans ((Below.heap_alloc w.drew _ k0 kl).trans kb)
             have ji : ((w.drew.alloc (.cells ROW j0)).setCells w.heap.size (i * sz0) vs).drew.heap[w.heap.size]? = some (Obj.cells c1 j0 (0, 0)) := jz
             have kg := V1 (o := (i + 1) * sz0) tail ji j5 (by rw [tl, jj, jy]; omega)
             obtain ⟨c2, ka, k5, jv⟩ := kg.here _ _ ji
             have ma : ∀ ty dc, (Builtin.copy_ #[tS, tS] ty #[.slice (some ⟨w.heap.size, i * sz0, none⟩) (L + 1 - i) dc, .slice (some ⟨kv, 0, none⟩) 1 cv]).run P (w.drew.alloc (.cells ROW j0)) = .ok (goInt ((1 : Nat) : Int)) ((w.drew.alloc (.cells ROW j0)).setCells w.heap.size (i * sz0) vs) := fun ty dc =>
              Zqi I.und ja jx _ _ _ (L + 1 - i) 1 ⟨kv, 0, none⟩ 1 jm vs vl (jg _ ng) j6 j8 (by rw [vl, jy]; omega) ty dc cv
             have m9 : ∀ ty dc sc, (Builtin.copy_ #[tS, tS] ty #[.slice (some ⟨w.heap.size, (i + 1) * sz0, none⟩) (L - i) dc, .slice (some ⟨k0, 0 + i * sz0, none⟩) (L - i) sc]).run P ((w.drew.alloc (.cells ROW j0)).setCells w.heap.size (i * sz0) vs).drew = .ok (goInt ((L - i : Nat) : Int)) (((w.drew.alloc (.cells ROW j0)).setCells w.heap.size (i * sz0) vs).drew.setCells w.heap.size ((i + 1) * sz0) tail) := fun ty dc sc => by
              rw [dF]
              exact Zqi I.und ja jx _ _ _ (L - i) (L - i) ⟨k0, i * sz0, none⟩ (L - i) ke tail tl (jf _ me) j5 ji (by rw [tl, jj, jy]; omega) ty dc sc
             have m7 : ((L : Int) + 1 - (i : Int)) = ((L + 1 - i : Nat) : Int) := by omega
             refine (I.grow k0 0 L c i G w.heap.size cv w _ _ _ (some ⟨kv, 0, none⟩) _ _ hlt hlen (by omega) jc ki (by unfold maxLen at mr; omega) (by rw [m7]; exact kw) ma m9).mono (fun en w2 he => ?_)
             obtain ⟨rfl, rfl⟩ := he
             have H1 := (H.of_heap (w' := w.drew) rfl).kill b
             obtain ⟨H2, M2⟩ := H1.make (b := n) (hf n (dO _)) hB ⟨j0, [], true, false⟩ ROW rfl (fun q r e => by simp at e) (by simp) (fun q r j x e => by simp at e)
             have ml : ¬ S w.heap.size := fun hs => absurd (H.old _ hs) (eL _)
             have jo : Ext S (w.drew.alloc (.cells ROW j0)) (((w.drew.alloc (.cells ROW j0)).setCells w.heap.size (i * sz0) vs).drew.setCells w.heap.size ((i + 1) * sz0) tail) :=
              ((hw2.ext ml ⟨_, _, j8⟩).trans (fun _ h => h) (Ext.of_heap (w' := ((w.drew.alloc (.cells ROW j0)).setCells w.heap.size (i * sz0) vs).drew) rfl)).trans (fun _ h => h) (kg.ext ml ⟨_, _, ji⟩)
             have j9 : Ext S w (((w.drew.alloc (.cells ROW j0)).setCells w.heap.size (i * sz0) vs).drew.setCells w.heap.size ((i + 1) * sz0) tail) := (Ext.of_heap (w := w) (w' := w.drew) rfl).trans (fun _ h => h) (M2.ext.trans (fun _ h => h) jo)
             have jt : ∀ x y, R P Yy S w x y -> R P Yy S (((w.drew.alloc (.cells ROW j0)).setCells w.heap.size (i * sz0) vs).drew.setCells w.heap.size ((i + 1) * sz0) tail) x y := fun x y r => R.mono (w := w) (fun _ _ h => h) (fun _ h => h) j9 r
             have mn : BR P (Zja C n (some (w.drew.heap.size, P.cellsOf j0))) S (((w.drew.alloc (.cells ROW j0)).setCells w.heap.size (i * sz0) vs).drew.setCells w.heap.size ((i + 1) * sz0) tail) B ⟨j0, rows.take i ++ row :: rows.drop i, true, false⟩ w.heap.size (P.cellsOf j0) := by
              rw [jb]
              refine ⟨hty, hB, fun _ => ml, fun h => (by cases h), je, c2, ka, ?_, ?_⟩
              . show (rows.take i ++ row :: rows.drop i).length * sz0 <= c2.size
                rw [jn, k5, jj, jy]; exact mw
              . refine Zml (by omega) (fun q r j x hq e1 e2 => ?_) (fun j x e2 => ?_) (fun q r j x hq e1 e2 => ?_)
                . obtain ⟨y, hy, hr⟩ := j2 q r j x e1 e2
                  obtain ⟨hj, _⟩ := ks q r j x e1 e2
                  have jw : (q + 1) * sz0 <= i * sz0 := cZ _ hq
                  rw [dL, Nat.one_mul] at jw
                  exact ⟨y, by rw [jv, if_neg (by omega), k8, if_neg (by omega), nu _ (by omega)]; exact hy, jt _ _ hr⟩
                . obtain ⟨y, hy, hr⟩ := j7 j x e2
                  have hj := k7 j x e2
                  refine ⟨y, ?_, jt _ _ hr⟩
                  rw [jv, if_neg (by omega), k8, if_pos (by omega), show i * sz0 + j - i * sz0 = j by omega, kq j (by omega), dF]
                  exact hy
                . obtain ⟨y, hy, hr⟩ := j2 q r j x e1 e2
                  obtain ⟨hj, nj⟩ := ks q r j x e1 e2
                  obtain ⟨d, rfl⟩ : ∃ d, q = i + d := ⟨q - i, by omega⟩
                  have e3 : (i + d + 1) * sz0 = (i + 1) * sz0 + d * sz0 := by rw [<- dL]; congr 1; omega
                  have e4 : (i + d) * sz0 = i * sz0 + d * sz0 := dL _ _ _
                  have e5 : (d + 1) * sz0 <= (L - i) * sz0 := cZ _ (by omega)
                  rw [dL, Nat.one_mul] at e5
                  refine ⟨y, ?_, jt _ _ hr⟩
                  rw [jv, if_pos (by omega), show (i + d + 1) * sz0 + j - (i + 1) * sz0 = d * sz0 + j by omega, ku _ (by omega), <- gE, <- e4]
                  exact hy
             have H3 := H2.put (b := n) (blk := ⟨j0, [], true, false⟩) (by simp [Z7]) (Yv _ _) jo (by rw [kg.size]; show _ <= ((w.drew.alloc (.cells ROW j0)).setCells w.heap.size (i * sz0) vs).heap.size; rw [hw2.size]; exact dO _) (fun q hq _ => (kg.other q hq).trans (hw2.other q hq)) mn
             have mf : ∀ (g : Hp) (x y : Option Blk), upd (upd g n x) n y = upd g n y := fun g x y => by funext q; simp only [Z7]; split <;> rfl
             rw [mf] at H3
             have jr : Below B w (((w.drew.alloc (.cells ROW j0)).setCells w.heap.size (i * sz0) vs).drew.setCells w.heap.size ((i + 1) * sz0) tail) := (((Below.refl B w).drew.trans M2.below).trans (hw2.below hB)).trans (((Below.refl B ((w.drew.alloc (.cells ROW j0)).setCells w.heap.size (i * sz0) vs)).drew).trans (kg.below hB))
             refine ⟨Nat.le_succ _, _, S, ⟨Zcr (hf n (dO _)), fun _ h => h, j9, jr, fun q hq hn => by rw [Z2k (by omega)]; exact hq, fun _ h => .inl h⟩, H3, ?_, fun q hq => by rw [Z2k (by omega)]; exact hf q (by omega)⟩
             exact .ref j0 n 0 (L + 1) (L + 1) false w.heap.size (P.cellsOf j0) G _ (Yv _ _) rfl ki (fun h => by cases h) (fun _ => by simp) ki ⟨c2, j0, ka, by rw [k5, jj, jy, dF, jb]; exact dO _⟩
   . cases o5
 . cases o4
end Go.Vm
namespace Go.Vm
open Go.RowKit
variable {P : Program} {S : Nat -> Prop} {w w' : World}
theorem Zdm (hS : ∀ k, S k -> k < w.heap.size) (hb : Below w.heap.size w w') : Ext S w w' :=
 ⟨fun k hk => hb.block k (hS k hk), fun k c t e => ⟨c, by rw [hb.block k (Z2g e)]; exact e, rfl⟩, fun k es cl e => by rw [hb.block k (Z2g e)]; exact e⟩
theorem Zw9 {a : A} {v : Value} (hS : ∀ k, S k -> k < w.heap.size) (hG : GlobOk P S w) (hb : Below w.heap.size w w') (hl : ∀ n, Z3a Zgw n a = (a, Zgw)) (r : R P Yy S w' a v) : Res P S w [a] v w' := by
 have hE := Zdm hS hb
 refine ⟨S, fun _ h => h, fun _ h => .inl h, hb, hE, fun n => ⟨Yy, fun _ _ => rfl, ?_, ?_⟩⟩
 . have : (Yh Zgw n [a]).2 = Zgw := by simp [Yh, hl]
   rw [this]
   exact ⟨fun b blk e => (by cases e), fun b b' k sz sz' blk blk' e => (by cases e), fun k hk => fK (hS k hk) hb.size, hG.mono (fun _ h => h) hE⟩
 . have : (Yh Zgw n [a]).1 = [a] := by simp [Yh, hl]
   rw [this]
   exact r
def Z9a (n : Int) : ByteArray := ⟨(Lib.itoa n).toArray⟩
def Zt4 : List A -> Option (List A)
 | [.v (.int .i64 n)] => if -9223372036854775808 <= n /\ n <= 9223372036854775807 then some [.s (Z9a n)] else none
 | _ => none
def Zm6 : List A -> Option (List A)
 | [.v (.string t)] => if t.size <= 18 then (match Lib.atoi t.data.toList with | some n => some [.v (.int .i64 n), .v .nilIface] | none => some [.v (.int .i64 0), .err]) else none
 | _ => none
def Zt8 (t : ByteArray) : Int × Int := match Lib.atoi t.data.toList with
 | some n => if -999 <= n /\ n <= 999 /\ Lib.itoa n = t.data.toList then (1, n) else (0, 0)
 | none => (0, 0)
def Ztw : List A -> Option (List A)
 | [.v (.string t)] => if t.size <= 18 then some [.agg [.n (Zt8 t).1, .n (Zt8 t).2, .s ⟨#[]⟩]] else none
 | _ => none
end Go.Vm
namespace Go.Vm
open Go.RowKit
variable {P : Program} {C C' C'' : Rho} {S S' S'' : Nat -> Prop} {w w' w'' : World} {B N : Nat} {h : Hp}
structure Ext0 (S S' : Nat -> Prop) (w w' : World) : Prop where
 same : ∀ k, S k -> S' k /\ w'.heap[k]? = w.heap[k]? \/ ∃ es cl, w.heap[k]? = some (Obj.map es cl)
 size : ∀ (k : Nat) (c : Array Value) (t : TypeId), w.heap[k]? = some (Obj.cells c t (0, 0)) -> ∃ c' : Array Value, w'.heap[k]? = some (Obj.cells c' t (0, 0)) /\ c'.size = c.size
theorem Zpo {k o : Nat} {es : Array MapEntry} {cl : Nat} (h : w.heap[k]? = some (Obj.map es cl)) : w.cell? ⟨k, o, none⟩ = none := by
 simp [World.cell?, h]
theorem R.mono0 {a : A} {x : Value} (r : R P C S w a x) : ∀ {S' : Nat -> Prop} {w' : World}, Ext0 S S' w w' -> R P C S' w' a x := by
 induction r with
 | bad x => exact fun _ => .bad x
 | err tp x => exact fun _ => .err tp x
 | und => exact fun _ => .und
 | v x h => exact fun _ => .v x h
 | lit ty rows a cap Y hcap hl hc hr ih =>
   intro S' w' E
   refine .lit ty rows a cap Y hcap hl (fun i row j x h1 h2 => ?_) (fun i row j x h1 h2 => ih i row j x h1 h2 E)
   obtain ⟨k, off, e, hk, j0⟩ := hc i row j x h1 h2
   rcases E.same k hk with ⟨h', hs⟩ | ⟨es, cl, hm⟩
   . exact ⟨k, off, e, h', by rw [<- j0]; exact World.cell?_of_block hs⟩
   . rw [Zpo hm] at j0; cases j0
 | ref ty b off len cap ex k sz c a hb hty hcap hex ha hlen hk =>
   intro S' w' E
   obtain ⟨cs, t, e, hs⟩ := hk
   obtain ⟨c', e', s'⟩ := E.size k cs t e
   exact .ref ty b off len cap ex k sz c a hb hty hcap hex ha hlen ⟨c', t, e', by omega⟩
 | nil ty b ex hb => exact fun _ => .nil ty b ex hb
 | ptr b i j k sz hb => exact fun _ => .ptr b i j k sz hb
 | pl row j k o Y hk hc hr ih =>
   intro S' w' E
   by_cases hn : row = []
   . subst hn
     exact .pl [] j k o Y (fun h => absurd rfl h) (fun i x h => by simp at h) (fun i x h => by simp at h)
   . obtain ⟨x0, j1⟩ : ∃ x, row[0]? = some x := by
      cases row with
      | nil => exact absurd rfl hn
      | cons y ys => exact ⟨y, rfl⟩
     rcases E.same k (hk hn) with ⟨h', hs⟩ | ⟨es, cl, hm⟩
     . exact .pl row j k o Y (fun _ => h') (fun i x h => by rw [<- hc i x h]; exact World.cell?_of_block hs) (fun i x h => ih i x h E)
     . have := hc 0 x0 j1
       rw [Zpo hm] at this; cases this
 | fn f caps vs hp hl hr ih => exact fun E => .fn f caps vs hp hl (fun i x y h1 h2 => ih i x y h1 h2 E)
 | agg cs vs hl hr ih => exact fun E => .agg cs vs hl (fun i x y h1 h2 => ih i x y h1 h2 E)
 | tup cs vs hl hr ih => exact fun E => .tup cs vs hl (fun i x y h1 h2 => ih i x y h1 h2 E)
 | ifT a x h ih => exact fun E => .ifT a x (ih E)
 | ifF a => exact fun _ => .ifF a
theorem HR.mono0 (H : HR P C S w B h) (E : Ext0 S S' w w') (hsub : ∀ k, S' k -> S k) (hs : w.heap.size <= w'.heap.size) (hG : GlobOk P S' w')
 (hsame : ∀ b blk k sz, h b = some blk -> C b = some (some (k, sz)) -> w'.heap[k]? = w.heap[k]?) : HR P C S' w' B h := by
 refine ⟨fun b blk e => ?_, H.inj, fun k hk => fK (H.old k (hsub k hk)) hs, hG⟩
 rcases H.at_ b blk e with ⟨k, sz, hb, hB⟩ | hv
 . refine .inl ⟨k, sz, hb, ⟨hB.sz_eq, hB.base, fun ho hk => hB.own ho (hsub k hk), fun ho => ?_, hB.rows, ?_⟩⟩
   . rcases E.same k (hB.not_own ho) with ⟨h', _⟩ | ⟨es, cl, hm⟩
     . exact h'
     . obtain ⟨c, hc, _⟩ := hB.heap
       rw [hm] at hc; cases hc
   . obtain ⟨c, hc, j1, j0⟩ := hB.heap
     exact ⟨c, (hsame b blk k sz e hb).trans hc, j1, fun i row j x h1 h2 => by
      obtain ⟨y, hy, hr⟩ := j0 i row j x h1 h2
      exact ⟨y, hy, hr.mono0 E⟩⟩
 . exact .inr hv
structure MapTo (w w' : World) (km : Nat) (es' : Array MapEntry) (cl' : Nat) : Prop where
 size : w'.heap.size = w.heap.size
 other : ∀ i, i ≠ km -> w'.heap[i]? = w.heap[i]?
 was : ∃ es cl, w.heap[km]? = some (Obj.map es cl)
 here : w'.heap[km]? = some (Obj.map es' cl')
 os : w'.os = w.os
 tape : w'.tape = w.tape
 output : w'.output = w.output
theorem MapTo.glob {km : Nat} {es' : Array MapEntry} {cl' : Nat} (M : MapTo w w' km es' cl') (G : GlobOk P S w) : GlobOk P (fun k => S k /\ k ≠ km) w' := by
 have hv : ∀ nm ∈ Z27, ∀ (xs : Array Value), w.var? P nm = some xs -> w'.var? P nm = some xs /\ ∀ g, P.globalNamed nm = some g -> g ≠ km := fun nm hm xs h => by
  unfold World.var? at h ⊢
  cases hg : P.globalNamed nm with
  | none => rw [hg] at h; cases h
  | some g =>
    rw [hg] at h
    simp only [gD] at h ⊢
    have j1 : g ≠ km := fun q => by
     subst q
     obtain ⟨es, cl, hw⟩ := M.was
     rw [hw] at h; cases h
    rw [M.other g j1]
    exact ⟨h, fun g' j2 => by cases j2; exact j1⟩
 have j0 : ∀ nm g, P.globalNamed nm = some g -> (P.globalNamed nm).isSome = true := fun nm g h => by rw [h]; rfl
 refine ⟨fun nm hm g hg => ⟨G.fast nm hm g hg, ?_⟩, fun q => ?_, fun q => ?_, fun q => ?_⟩
 . simp only [Z27, eK, fP, or_false] at hm
   rcases hm with rfl | rfl | rfl
   . exact (hv _ (by simp [Z27]) _ (G.pow (j0 _ g hg))).2 g hg
   . obtain ⟨tp, p, h⟩ := G.syn (j0 _ g hg)
     exact (hv _ (by simp [Z27]) _ h).2 g hg
   . obtain ⟨tp, p, h⟩ := G.rng (j0 _ g hg)
     exact (hv _ (by simp [Z27]) _ h).2 g hg
 . exact (hv _ (by simp [Z27]) _ (G.pow q)).1
 . obtain ⟨tp, p, h⟩ := G.syn q
   exact ⟨tp, p, (hv _ (by simp [Z27]) _ h).1⟩
 . obtain ⟨tp, p, h⟩ := G.rng q
   exact ⟨tp, p, (hv _ (by simp [Z27]) _ h).1⟩
theorem MapTo.ext0 {km : Nat} {es' : Array MapEntry} {cl' : Nat} (M : MapTo w w' km es' cl') : Ext0 S (fun k => S k /\ k ≠ km) w w' :=
 ⟨fun k hk => by
  by_cases hkm : k = km
  . subst hkm; exact .inr M.was
  . exact .inl ⟨⟨hk, hkm⟩, M.other k hkm⟩, fun k c t e => by
  by_cases hkm : k = km
  . subst hkm; obtain ⟨es, cl, hm⟩ := M.was; rw [hm] at e; cases e
  . exact ⟨c, by rw [M.other k hkm]; exact e, rfl⟩⟩
theorem SW.map {U : St} {a : Act} {km : Nat} {es' : Array MapEntry} {cl' : Nat} (T : SW P C S B N U a w) (M : MapTo w w' km es' cl') : SW P C (fun k => S k /\ k ≠ km) B N U a w' :=
 ⟨fun t => (T.slot t).mono0 M.ext0, T.size, T.defers, T.heap.mono0 M.ext0 (fun _ h => h.1) (by rw [M.size]; exact dO _) (M.glob T.heap.glob) (fun b blk k sz e hb => by
  refine M.other k (fun hk => ?_)
  subst hk
  obtain ⟨c, hc, _⟩ := (T.heap.at_of e hb).heap
  obtain ⟨es, cl, hm⟩ := M.was
  rw [hm] at hc; cases hc), by rw [M.size]; exact T.le⟩
theorem SW.thin {U : St} {a : Act} {km : Nat} {es : Array MapEntry} {cl : Nat} (T : SW P C S B N U a w) (hm : w.heap[km]? = some (Obj.map es cl)) : SW P C (fun k => S k /\ k ≠ km) B N U a w :=
 T.map ⟨rfl, fun _ _ => rfl, ⟨es, cl, hm⟩, hm, rfl, rfl, rfl⟩
end Go.Vm
namespace Go.Vm
open Go.RowKit
variable {P : Program} {C C' C'' : Rho} {S S' S'' : Nat -> Prop} {w w' w'' : World} {B N : Nat} {h : Hp} {E : Env} {tot : Nat}
structure MvY (B : Nat) (C : Rho) (w : World) (C' : Rho) (w' : World) : Prop where
 new : ∀ b, C b = none -> C' b = none
 below : Below B w w'
theorem MvY.refl : MvY B C w C w := ⟨fun _ h => h, Below.refl _ _⟩
theorem MvY.trans (a : MvY B C w C' w') (b : MvY B C' w' C'' w'') : MvY B C w C'' w'' := ⟨fun x h => b.new x (a.new x h), a.below.trans b.below⟩
structure MapAt (km : Nat) (es : Array MapEntry) (cl : Nat) (S : Nat -> Prop) (w : World) : Prop where
 free : ¬ S km
 here : w.heap[km]? = some (Obj.map es cl)
end Go.Vm
namespace Go.Vm
open Go.RowKit
variable {P : Program} {C : Rho} {S : Nat -> Prop} {w : World} {B N tot : Nat} {E : Env}
abbrev Zfl (vs : List Value) : Value := .agg vs.toArray
structure SetT (P : Program) (tm tk tb : Nat) (ks : List Nat) : Prop where
 und : P.underlying tm = some (.map tk tb)
 eqt : eqT P 8 tk = some ks
 agg : Zcu P tk = true
 kst : ∃ fs, P.underlying tk = some (.struct fs)
 chk : ∀ (b : Bool) (w : World) (vs : List Value), vs.length = ks.length -> (Instr.checkKey b 10000 tk (Zfl vs)).run P w = .ok () w
 zero : ∀ w, (zeroValue tb).run P w = .ok (.bool false) w
def Zda (ks : List Nat) (a b : List Value) : Option Bool := X2 ks (a.map A.v) (b.map A.v)
theorem Zn9 (vs : List Value) : StandAt (vs.map A.v) vs.toArray 0 := by
 intro i a ha
 rw [eN] at ha
 cases hv : vs[i]? with
 | none => rw [hv] at ha; cases ha
 | some v =>
   rw [hv] at ha
   simp only [fG, dM] at ha
   refine ⟨v, by simpa using hv, fun u hu => ?_⟩
   rw [<- ha] at hu
   cases hu; rfl
theorem Zwu {tk : Nat} {ks : List Nat} (ht : eqT P 8 tk = some ks) (hg : Zcu P tk = true) {a b : List Value} {q : Bool} (e : Zda ks a b = some q) : (Op.equal tk (Zfl a) (Zfl b)).run P w = .ok q w := by
 have j0 := Z55 e
 obtain ⟨va, vb, _, _, hE, j2⟩ := Zov (P := P) (w := w) 8 9992 ht e (Zn9 a) (Zn9 b)
 obtain ⟨ea, eb⟩ := j2 hg
 have j1 : ∀ (vs : List Value), vs.length = ks.length -> vs.toArray.extract 0 (0 + ks.length) = vs.toArray := by
  intro vs h
  rw [dF, <- h]
  simp
 rw [j1 a (by simpa using j0.1)] at ea
 rw [j1 b (by simpa using j0.2)] at eb
 subst ea eb
 exact hE
structure Holds (ks : List Nat) (es : List MapEntry) (keys : List (List Value)) : Prop where
 len : es.length = keys.length
 at_ : ∀ (i : Nat) (e : MapEntry) (k : List Value), es[i]? = some e -> keys[i]? = some k -> e.key = Zfl k /\ e.val = .bool true
def Z9b (ks : List Nat) (k : List Value) : List (List Value) -> Nat -> Option (Option Nat)
 | [], _ => some none
 | x :: xs, i => match Zda ks k x with
   | some true => some (some i)
   | some false => Z9b ks k xs (i + 1)
   | none => none
theorem Za7 {tk : Nat} {ks : List Nat} (ht : eqT P 8 tk = some ks) (hg : Zcu P tk = true) (k : List Value) : ∀ (es : List MapEntry) (keys : List (List Value)) (i : Nat) (r : Option Nat), Holds ks es keys -> Z9b ks k keys i = some r ->
 (Instr.findAsking tk (Zfl k) es i).run P w = .ok (r.map fun j => (j, Value.bool true)) w
 | [], keys, i, r, h, e => by
   have : keys = [] := dA (by have := h.len; simpa using this.symm)
   subst this
   simp only [Z9b, dM] at e
   subst e
   rfl
 | e0 :: es, [], i, r, h, e => by have := h.len; simp at this
 | e0 :: es, x :: xs, i, r, h, e => by
   have h0 := h.at_ 0 e0 x rfl rfl
   have j0 : Holds ks es xs := ⟨by have := h.len; simpa using this, fun j e k h1 h2 => h.at_ (j + 1) e k (by simpa using h1) (by simpa using h2)⟩
   unfold Z9b at e
   cases hq : Zda ks k x with
   | none => rw [hq] at e; cases e
   | some q =>
     rw [hq] at e
     have hr := Zwu (P := P) (w := w) ht hg hq
     rw [<- h0.1] at hr
     unfold Instr.findAsking
     simp only [dE, hr, cX]
     cases q with
     | true =>
       simp only [dM] at e
       subst e
       simp [h0.2]
     | false =>
       simp only at e
       have := Za7 ht hg k es xs (i + 1) r j0 e
       simpa using this
theorem Zat {tm tk tb : Nat} {ks : List Nat} (T : SetT P tm tk tb ks) (k : List Value) {es : List MapEntry} {keys : List (List Value)} {r : Option Nat} (h : Holds ks es keys) (e : Z9b ks k keys 0 = some r) :
 (Instr.findKey tk (Zfl k) es).run P w = .ok (r.map fun j => (j, Value.bool true)) w := by
 obtain ⟨fs, j0⟩ := T.kst
 unfold Instr.findKey
 simp only [dE, run_underlying j0, cX]
 cases es with
 | nil =>
   have hk : keys = [] := dA (by have := h.len; simpa using this.symm)
   subst hk
   simp only [Z9b, dM] at e
   subst e
   rfl
 | cons e0 es =>
   have hn : Instr.findNow (.struct fs) (Zfl k) (e0 :: es) 0 = none := by
    unfold Instr.findNow
    have : Instr.sameNow (.struct fs) (Zfl k) e0.key = none := by unfold Instr.sameNow; rfl
    rw [this]
   simp only [hn]
   exact Za7 T.eqt T.agg k _ _ 0 r h e
theorem Zs6 {tm tk tb : Nat} {ks : List Nat} (T : SetT P tm tk tb ks) {km cl : Nat} {es : Array MapEntry} (hw : w.heap[km]? = some (Obj.map es cl)) (k : List Value) (hk : k.length = ks.length) {keys : List (List Value)} {r : Option Nat} (h : Holds ks es.toList keys) (e : Z9b ks k keys 0 = some r) :
 (Instr.lookup tm (.map (some km)) (Zfl k) false).run P w = .ok (.bool r.isSome) w := by
 have hg : (getObj km).run P w = .ok (Obj.map es cl) w := by simp [getObj, Sem.run, hw]
 unfold Instr.lookup
 simp only [dE, run_underlying T.und, cX, hg, gP, T.chk _ _ k hk, Zat T k h e]
 cases r with
 | none => simp [T.zero]
 | some j => simp
def Zgr (ks : List Nat) (keys : List (List Value)) (k : List Value) : List (List Value) := match Z9b ks k keys 0 with
 | some none => keys ++ [k]
 | _ => keys
theorem Zrw (m : ByteArray) : (m == m) = true := by
 first
 | exact beq_self_eq_true m
 | exact decide_eq_true rfl
 | (show (m.data == m.data) = true; simp)
theorem Zo2 {k : Nat} {x y : Value} (e : Z0m k (.v x) (.v y) = some true) : x = y /\ ∀ n, Instr.sameBits n y y = true := by
 match k with
 | 0 =>
   obtain ⟨j, m, n, h1, h2, h3⟩ := Zxq e
   cases h1; cases h2
   have : m = n := by simpa using h3.symm
   subst this
   exact ⟨rfl, fun q => by cases q <;> simp [Instr.sameBits]⟩
 | 1 =>
   obtain ⟨m, n, h1, h2, h3⟩ := Zue e
   cases h1; cases h2
   have : m = n := by simpa using h3.symm
   subst this
   exact ⟨rfl, fun q => by cases q <;> exact Zrw m⟩
 | 2 =>
   obtain ⟨m, n, h1, h2, h3⟩ := Zx2 e
   cases h1; cases h2
   have : m = n := by simpa using h3.symm
   subst this
   exact ⟨rfl, fun q => by cases q <;> simp [Instr.sameBits]⟩
 | k + 3 => simp [Z0m] at e
theorem Zgl : ∀ {ks : List Nat} {a b : List Value}, Zda ks a b = some true -> a = b /\ ∀ n, ∀ x ∈ b, Instr.sameBits n x x = true
 | [], a, b, e => by
   cases a <;> cases b <;> simp [Zda, X2] at e
   exact ⟨rfl, fun n x hx => by simp at hx⟩
 | k :: ks, a, b, e => by
   cases a with
   | nil => cases b <;> simp [Zda, X2] at e
   | cons x xs =>
     cases b with
     | nil => simp [Zda, X2] at e
     | cons y ys =>
       unfold Zda at e
       simp only [fO, X2] at e
       obtain ⟨p, h1, e1⟩ := Z6 e
       obtain ⟨q, h2, e2⟩ := Z6 e1
       simp only [dM, dQ] at e2
       obtain ⟨rfl, rfl⟩ := e2
       obtain ⟨rfl, hs⟩ := Zo2 h1
       obtain ⟨rfl, ht⟩ := Zgl (ks := ks) (a := xs) (b := ys) h2
       refine ⟨rfl, fun n z hz => ?_⟩
       rcases eK.1 hz with rfl | hz
       . exact hs n
       . exact ht n z hz
theorem Y1j (k : List Value) (h : ∀ n, ∀ x ∈ k, Instr.sameBits n x x = true) : Instr.sameBits 10000 (Zfl k) (Zfl k) = true := by
 have hz : ∀ (l : List Value), (∀ x ∈ l, Instr.sameBits 9999 x x = true) -> ((l.zip l).all fun (x, y) => Instr.sameBits 9999 x y) = true := by
  intro l hl
  induction l with
  | nil => rfl
  | cons x l ih =>
    simp only [List.zip_cons_cons, gZ, dQ]
    exact ⟨hl x (by simp), ih (fun y hy => hl y (by simp [hy]))⟩
 show (k.toArray.size == k.toArray.size && (k.toArray.toList.zip k.toArray.toList).all fun (x, y) => Instr.sameBits 9999 x y) = true
 simp only [beq_self_eq_true, eZ]
 exact hz k (h 9999)
theorem Zhg {ks : List Nat} {k : List Value} : ∀ {keys : List (List Value)} {i j : Nat}, Z9b ks k keys i = some (some j) -> ∃ x, i <= j /\ keys[j - i]? = some x /\ Zda ks k x = some true
 | [], i, j, e => by simp [Z9b] at e
 | x :: xs, i, j, e => by
   unfold Z9b at e
   cases hq : Zda ks k x with
   | none => rw [hq] at e; cases e
   | some q =>
     rw [hq] at e
     cases q with
     | true =>
       simp only [dM] at e
       subst e
       exact ⟨x, dO _, by simp, hq⟩
     | false =>
       simp only at e
       obtain ⟨y, h1, h2, h3⟩ := Zhg e
       exact ⟨y, by omega, by rw [show j - i = (j - (i + 1)) + 1 by omega]; simpa using h2, h3⟩
def Y9y (w : World) (km : Nat) (o : Obj) : World := { w with heap := w.heap.setIfInBounds km o }
theorem Zlv {km cl cl' : Nat} {es es' : Array MapEntry} (hw : w.heap[km]? = some (Obj.map es cl)) : MapTo w (Y9y w km (Obj.map es' cl')) km es' cl' :=
 ⟨by simp [Y9y], fun i hi => by simp [Y9y, gR (fun q : km = i => hi q.symm)], ⟨es, cl, hw⟩, by
  have hlt := Z2g hw
  simp [Y9y, hlt], rfl, rfl, rfl⟩
theorem Zst {tm tk tb : Nat} {ks : List Nat} (T : SetT P tm tk tb ks) {km cl : Nat} {es : Array MapEntry} (hw : w.heap[km]? = some (Obj.map es cl)) (k : List Value) (hk : k.length = ks.length) {keys : List (List Value)} {r : Option Nat} (h : Holds ks es.toList keys) (e : Z9b ks k keys 0 = some r) :
 ∃ w' es' cl', (Instr.mapUpdate tm (.map (some km)) (Zfl k) (.bool true)).run P w = .ok () w' /\ MapTo w w' km es' cl' /\ Holds ks es'.toList (Zgr ks keys k) := by
 have hg : (getObj km).run P w = .ok (Obj.map es cl) w := by simp [getObj, Sem.run, hw]
 have hs : ∀ o, (setObj km o).run P w = .ok () (Y9y w km o) := fun o => by
  simp only [setObj, Sem.run, hw]
  rfl
 cases r with
 | none =>
   refine ⟨_, es.push { key := Zfl k, val := .bool true, born := cl }, cl + 1, ?_, Zlv hw, ?_⟩
   . unfold Instr.mapUpdate
     simp only [dE, run_underlying T.und, cX, hg, T.chk _ _ k hk, Zat T k h e, Option.map_none]
     exact hs _
   . unfold Zgr
     rw [e]
     refine ⟨by simp [h.len], fun i e' k' h1 h2 => ?_⟩
     simp only [Array.toList_push] at h1
     by_cases hi : i < keys.length
     . rw [dZ (by rw [h.len]; exact hi)] at h1
       rw [dZ hi] at h2
       exact h.at_ i e' k' h1 h2
     . rw [eA (by rw [h.len]; omega), h.len] at h1
       rw [eA (by omega)] at h2
       have hz : i - keys.length = 0 := by
        rcases Nat.eq_zero_or_pos (i - keys.length) with q | q
        . exact q
        . rw [eY (by simp; omega)] at h1; cases h1
       rw [hz] at h1 h2
       simp only [fT, dM] at h1 h2
       subst h1; subst h2
       exact ⟨rfl, rfl⟩
 | some j =>
   obtain ⟨x, _, hx, hq⟩ := Zhg e
   rw [fL] at hx
   obtain ⟨rfl, j0⟩ := Zgl hq
   have j1 : j < es.size := by
    have := (dU.1 hx).1
    have := h.len
    simp at this
    omega
   have j3 : es.toList[j]? = some es[j] := by simp [eR j1]
   have j2 := h.at_ j es[j] k j3 hx
   have j4 : (Instr.keyThatStays (((es[j]?).map (·.key)).getD (Zfl k)) (Zfl k)).run P w = .ok (Zfl k) w := by
    rw [eR j1]
    simp only [fG, dD, j2.1]
    unfold Instr.keyThatStays
    rw [Y1j k j0]
    rfl
   refine ⟨_, es.modify j fun e => { e with key := Zfl k, val := .bool true }, cl, ?_, Zlv hw, ?_⟩
   . unfold Instr.mapUpdate
     simp only [dE, run_underlying T.und, cX, hg, T.chk _ _ k hk, Zat T k h e, fG, j4]
     exact hs _
   . unfold Zgr
     rw [e]
     simp only
     refine ⟨by simpa using h.len, fun i e' k' h1 h2 => ?_⟩
     rw [hJ, Array.getElem?_modify] at h1
     by_cases hij : j = i
     . subst hij
       simp only [if_true] at h1
       rw [eR j1] at h1
       simp only [fG, dM] at h1
       subst h1
       rw [hx] at h2
       simp only [dM] at h2
       subst h2
       exact ⟨rfl, rfl⟩
     . rw [if_neg hij] at h1
       exact h.at_ i e' k' (by simpa using h1) h2
theorem Y35 {k : List Value} {x : Value} (r : R P C S w (.agg (k.map A.v)) x) : x = Zfl k := by
 cases r with
 | agg cs vs hl hr =>
   congr 2
   refine List.ext_getElem? (fun i => ?_)
   by_cases hi : i < k.length
   . have h1 : (k.map A.v)[i]? = some (.v k[i]) := by simp [eN, dS hi]
     have hlt : i < vs.length := by rw [hl]; simpa using hi
     have := hr i _ _ h1 (dS hlt)
     rw [dS hlt, dS hi, (R.v_inv this).1]
   . rw [eY (by rw [hl]; simpa using hi), eY (by omega)]
theorem Y2p {km : Nat} {x : Value} (r : R P C S w (.v (.map (some km))) x) : x = .map (some km) := (R.v_inv r).1
theorem Zsp {tm tk tb : Nat} {ks : List Nat} (T0 : SetT P tm tk tb ks) {ops : Array Oper} {i : Nat} {o : Oper} {d m kx j slot : Nat} (hi : ops[i]? = some o) (ho : o.op = .lookup tm (.tmp m) (.tmp kx) false) (hd : o.dst = some d) (hdN : d < N) (hg : o.guard = some (j, true)) (hs : (ops[j]?).bind (·.dst) = some slot)
 {U : St} {a : Act} (T : SW P C S B N U a w) {km cl : Nat} {es : Array MapEntry} (J : MapAt km es cl S w) {k : List Value} (hk : k.length = ks.length) {keys : List (List Value)} {r : Option Nat} (h : Holds ks es.toList keys) (e : Z9b ks k keys 0 = some r)
 {t : Bool} (ht : Z4g U slot true = some t) (hm : t = true -> unT (U.s m) = .v (.map (some km))) (hkx : t = true -> unT (U.s kx) = .agg (k.map A.v)) {Q : Exit -> Act -> World -> Prop} {K : Act -> World -> Prop}
 (q : ∀ a1, SW P C S B N { U with s := upd U.s d (.ifg t (.q r.isSome)) } a1 w -> K a1 w) : wpOp P ops Q i K a w := by
 have hw := Ze4 T hg rfl hs ht
 unfold wpOp
 rw [hi]
 simp only [hw]
 cases t with
 | false =>
   simp only [eH, if_false]
   rw [hd]
   exact q _ (SW.put T (.ifF _) hdN)
 | true =>
   simp only [if_true]
   refine .inl ?_
   have r1 := Y09 (T.slot m)
   rw [hm rfl] at r1
   have r2 := Y09 (T.slot kx)
   rw [hkx rfl] at r2
   have e1 : a.eval (.tmp m) = .map (some km) := Y2p r1
   have e2 : a.eval (.tmp kx) = Zfl k := Y35 r2
   have j0 : (execOp a.eval o).run P w = .ok (.value (.bool r.isSome)) w := by
    simp only [execOp, ho, e1, e2, dE, Zs6 T0 J.here k hk h e, cX]
    rfl
   refine X6 j0 ?_
   rw [hd]
   exact q _ (SW.put T (.ifT _ _ (.v _ rfl)) hdN)
theorem Zyi {tm : Nat} {ops : Array Oper} {i : Nat} {o : Oper} {d : Nat} (hi : ops[i]? = some o) (ho : o.op = .makeMap tm none) (hd : o.dst = some d) (hdN : d < N) (hg : o.guard = none)
 {U : St} {a : Act} (T : SW P C S B N U a w) {Q : Exit -> Act -> World -> Prop} {K : Act -> World -> Prop} (ks : List Nat)
 (q : ∀ a1 w1, Below B w w1 -> MapAt w.heap.size #[] 0 S w1 -> SW P C S B N { U with s := upd U.s d (.v (.map (some w.heap.size))) } a1 w1 -> K a1 w1) : wpOp P ops Q i K a w := by
 unfold wpOp
 rw [hi]
 have hw : Region.wanted o (yielded ops a.tmps) = true := by unfold Region.wanted; rw [hg]
 simp only [hw, if_true]
 refine .inl ?_
 have j1 : (execOp a.eval o).run P w = .ok (.value (.map (some w.heap.size))) (w.alloc (.map #[] 0)) := by
  simp only [execOp, ho, Option.map_none, dE, run_makeMap, cX]
  rfl
 refine X6 j1 ?_
 rw [hd]
 have j0 : Ext S w (w.alloc (.map #[] 0)) := ⟨fun k hk => Below.heap_alloc w _ k (T.heap.old k hk), fun k c t e => ⟨c, by rw [Below.heap_alloc w _ k (Z2g e)]; exact e, rfl⟩, fun k es cl e => by rw [Below.heap_alloc w _ k (Z2g e)]; exact e⟩
 have T1 : SW P C S B N U a (w.alloc (.map #[] 0)) := ⟨fun t => (T.slot t).mono (fun _ _ h => h) (fun _ h => h) j0, T.size, T.defers, T.heap.mono (fun _ _ h => h) j0 (by simp) (fun b blk k sz e hb => Below.heap_alloc w _ k (T.heap.lt e hb)), eI T.le (by simp)⟩
 exact q _ _ ((Below.refl B w).alloc T.le _) ⟨fun hh => absurd (T.heap.old _ hh) (eL _), Z5m w _⟩ (SW.put T1 (.v _ rfl) hdN)
def Zdc (P : Program) (N : Nat) (ops : Array Oper) : Nat -> List G -> Bool
 | _, [] => true
 | k, g :: rest => (match ops[k]? with | some o => okG P N ops o g | none => false) && (g.op.names.2 == 0) && !g.op.isD && Zdc P N ops (k + 1) rest
theorem Zqy {ops : Array Oper} : ∀ {gs : List G} {k : Nat}, Zdc P N ops k gs = true -> ∀ (i : Nat) (g : G), gs[i]? = some g -> (∃ o, ops[k + i]? = some o /\ okG P N ops o g = true) /\ ∀ n b, ¬ lays tot n g.op b
 | [], k, _, i, g, h => by simp at h
 | g0 :: rest, k, ok, i, g, h => by
   simp only [Zdc, dQ, beq_iff_eq, hO] at ok
   obtain ⟨⟨⟨h1, h2⟩, h3⟩, h4⟩ := ok
   cases i with
   | zero =>
     simp at h
     subst h
     refine ⟨?_, fun n b => ?_⟩
     . split at h1
       . rename_i o ho
         exact ⟨o, ho, h1⟩
       . cases h1
     . unfold lays X1
       rw [h3, h2]
       simp
   | succ i =>
     have := Zqy h4 i g (by simpa using h)
     rw [show k + 1 + i = k + (i + 1) by omega] at this
     exact this
theorem Zh5 {rs : List A} {v : Value} {w' : World} (hS : ∀ k, S k -> k < w.heap.size) (hG : GlobOk P S w) (hb : Below w.heap.size w w') (hl : ∀ n, Yh Zgw n rs = (rs, Zgw)) (r : R P Yy S w' (pack rs) v) : Res P S w rs v w' := by
 have hE := Zdm hS hb
 refine ⟨S, fun _ h => h, fun _ h => .inl h, hb, hE, fun n => ⟨Yy, fun _ _ => rfl, ?_, ?_⟩⟩
 . rw [hl]
   exact ⟨fun b blk e => (by cases e), fun b b' k sz sz' blk blk' e => (by cases e), fun k hk => fK (hS k hk) hb.size, hG.mono (fun _ h => h) hE⟩
 . rw [hl]
   exact r
theorem Y5m {ops : Array Oper} {i : Nat} {o : Oper} {d : Nat} {u : A} {v : Value} {U : St} {a : Act} (hi : ops[i]? = some o) (hg : o.guard = none) (hd : o.dst = some d) (hdN : d < N) (T : SW P C S B N U a w) (hrun : (execOp a.eval o).run P w = .ok (.value v) w) (r : R P C S w u v)
 {Q : Exit -> Act -> World -> Prop} {K : Act -> World -> Prop} (q : ∀ a1, SW P C S B N { U with s := upd U.s d u } a1 w -> K a1 w) : wpOp P ops Q i K a w := by
 unfold wpOp
 rw [hi]
 have hw : Region.wanted o (yielded ops a.tmps) = true := by unfold Region.wanted; rw [hg]
 simp only [hw, if_true]
 refine .inl (X6 hrun ?_)
 rw [hd]
 exact q _ (SW.put T r hdN)
def Zh3 : Code -> Code | .seq x _ => x | c => c
def Z7m : Code -> Code | .seq _ y => y | c => c
def Z0d : Code -> Array Oper | .region _ ops _ => ops | _ => #[]
def Ydn : Code -> Code | .cond _ x _ => x | c => c
def Y57 : Code -> Code | .block _ x => x | c => c
def Y9b : Code -> Code | .loop x => x | c => c
def Yt (F : Func) : Code := F.body.getD .skip
end Go.Vm
namespace Go.Vm
open Go.RowKit
variable {P : Program} {S0 : Nat -> Prop} {w0 w w' : World} {N tot : Nat} {E : Env}
structure From (S0 : Nat -> Prop) (w0 : World) (S : Nat -> Prop) (w : World) : Prop where
 sub : ∀ k, S0 k -> S k
 back : ∀ k, S k -> S0 k \/ w0.heap.size <= k
 below : Below w0.heap.size w0 w
 old : ∀ k, S0 k -> k < w0.heap.size
abbrev Mp := Option (Nat × Array MapEntry × Nat)
def Yap (w0 : World) : Mp -> (Nat -> Prop) -> World -> Prop
 | none, _, _ => True
 | some (km, es, cl), S, w => MapAt km es cl S w /\ w0.heap.size <= km
structure Hy (P : Program) (S0 : Nat -> Prop) (w0 : World) (N : Nat) (mp : Mp) (U : St) (a : Act) (w : World) : Prop where
 ex : ∃ C S, From S0 w0 S w /\ Yap w0 mp S w /\ SW P C S w0.heap.size N U a w /\ ∀ b, U.n <= b -> C b = none
 base : U.base = 0
variable {mp : Mp} {U : St} {a : Act}
def Y7e (ops : Array Oper) (i : Nat) (p : Oper -> Bool) : Bool := match ops[i]? with | some o => p o | none => false
theorem Zdk {ops : Array Oper} {i : Nat} {p : Oper -> Bool} (h : Y7e ops i p = true) : ∃ o, ops[i]? = some o /\ p o = true := by
 unfold Y7e at h
 split at h
 . rename_i o ho; exact ⟨o, ho, h⟩
 . cases h
theorem Hy.drop (H : Hy P S0 w0 N mp U a w) : Hy P S0 w0 N none U a w := by
 obtain ⟨C, S, F, _, T, f⟩ := H.ex
 exact ⟨⟨C, S, F, trivial, T, f⟩, H.base⟩
theorem From.step {S S' : Nat -> Prop} (F : From S0 w0 S w) (h1 : ∀ k, S k -> S' k) (h2 : ∀ k, S' k -> S k \/ w0.heap.size <= k) (hb : Below w0.heap.size w w') : From S0 w0 S' w' :=
 ⟨fun k h => h1 k (F.sub k h), fun k h => by rcases h2 k h with h | h; exact F.back k h; exact .inr h, F.below.trans hb, F.old⟩
theorem From.thin {S : Nat -> Prop} {km : Nat} (F : From S0 w0 S w) (h : w0.heap.size <= km) : From S0 w0 (fun k => S k /\ k ≠ km) w :=
 ⟨fun k hk => ⟨F.sub k hk, by have := F.old k hk; omega⟩, fun k hk => F.back k hk.1, F.below, F.old⟩
theorem Hy.step {C' : Rho} {S S' : Nat -> Prop} {U' : St} {a' : Act} (F : From S0 w0 S w) (A : Yap w0 mp S w) (h1 : ∀ k, S k -> S' k) (h2 : ∀ k, S' k -> S k \/ w0.heap.size <= k) (hb : Below w0.heap.size w w') (he : Ext S w w')
 (T : SW P C' S' w0.heap.size N U' a' w') (f : ∀ b, U'.n <= b -> C' b = none) (b : U'.base = 0) : Hy P S0 w0 N mp U' a' w' := by
 cases mp with
 | none => exact ⟨⟨C', S', F.step h1 h2 hb, trivial, T, f⟩, b⟩
 | some m =>
   obtain ⟨km, es, cl⟩ := m
   obtain ⟨A, hk⟩ := A
   have hm := he.maps km es cl A.here
   exact ⟨⟨C', _, (F.step h1 h2 hb).thin hk, ⟨⟨fun h => h.2 rfl, hm⟩, hk⟩, T.thin hm, f⟩, b⟩
theorem Hy.code (hE : EnvOk P E) (hS : Z29 E) (hm : P.follows .mixedOrders = true) {c : ACode} {x : Code} (ok : Yi P N c x = true) {out : Out} (e : Zj E c U = some out) (H : Hy P S0 w0 N mp U a w) (hb : out.st.base = 0)
 {Q : Exit -> Act -> World -> Prop} (k : ∀ ex a' w', Zx out ex -> Hy P S0 w0 N mp out.st a' w' -> Q ex a' w') : x.wp P Q a w := by
 obtain ⟨C, S, F, A, T, f⟩ := H.ex
 have h0 := H.base
 refine wp_mono (Z9s hE hS hm c x ok C S U a w out e T f (by omega) (by rw [h0]; exact fun b hb => by omega)) (fun ex a1 w1 p => ?_)
 obtain ⟨C1, S1, M, T1, f1⟩ := p.ex
 exact k ex a1 w1 p.same (Hy.step F A M.sub M.back M.below M.ext T1 f1 hb)
theorem Hy.seg (hE : EnvOk P E) {ops : Array Oper} {Q : Exit -> Act -> World -> Prop} {tail : List Nat} {Uf : St} :
 ∀ (gs : List G) (k : Nat) {U : St} {a : Act} {w : World}, Zdc P N ops k gs = true -> Hy P S0 w0 N mp U a w -> Ze E tot gs U = some Uf -> Uf.n = U.n ->
  (∀ a' w', Hy P S0 w0 N mp Uf a' w' -> wpOps P ops Q tail a' w') -> wpOps P ops Q (List.range' k gs.length ++ tail) a w := by
 suffices hh : ∀ (gs : List G) (k : Nat) {U : St} {a : Act} {w : World} (n : Nat), Zdc P N ops k gs = true -> (∃ C S, From S0 w0 S w /\ Yap w0 mp S w /\ SW P C S w0.heap.size N U a w /\ ∀ b, n <= b -> C b = none) -> Ze E tot gs U = some Uf -> U.base = 0 -> Uf.n = n ->
  (∀ a' w', Hy P S0 w0 N mp Uf a' w' -> wpOps P ops Q tail a' w') -> wpOps P ops Q (List.range' k gs.length ++ tail) a w from
  fun gs k U a w ok H e hn q => hh gs k (n := U.n) ok H.ex e H.base hn q
 intro gs
 induction gs with
 | nil =>
   intro k U a w n ok H e hb hn q
   simp only [Ze, dM] at e
   subst e
   subst hn
   exact q a w ⟨H, hb⟩
 | cons g rest ih =>
   intro k U a w n ok H e hb hn q
   obtain ⟨C, S, F, A, T, f⟩ := H
   obtain ⟨U1, h1, e1⟩ := Z6 e
   obtain ⟨⟨o, ho, hg⟩, j2⟩ := Zqy ok 0 g rfl
   rw [fM] at ho
   show wpOps P ops Q (List.range' k (rest.length + 1) ++ tail) a w
   rw [List.range'_succ, gT, wpOps_cons]
   refine Zhy hE ho T hg (fun b hb => absurd hb (j2 _ _)) h1 (fun v w1 hf => ?_)
   have j1 := hg
   simp only [okG, dQ, eJ] at j1
   rw [j1.1.1.2] at *
   have j0 : U1.base = 0 := by
    obtain ⟨u, hu, _⟩ := hf.ex
    rw [hu]; exact hb
   obtain ⟨C1, S1, M, T1, _, _⟩ := hf.SW T j1.1.2
   have hy : ∃ C S, From S0 w0 S w1 /\ Yap w0 mp S w1 /\ SW P C S w0.heap.size N U1 (a.put g.op.dst v) w1 /\ ∀ b, n <= b -> C b = none := by
    have := Hy.step (U' := { U1 with n := n }) (mp := mp) F A M.sub M.back M.below M.ext (P := P) (N := N) (a' := a.put g.op.dst v) (C' := C1) ⟨T1.slot, T1.size, T1.defers, T1.heap, T1.le⟩ (fun b hb => M.new b (f b hb) (j2 _ _)) j0
    obtain ⟨C2, S2, F2, A2, T2, f2⟩ := this.ex
    exact ⟨C2, S2, F2, A2, ⟨T2.slot, T2.size, T2.defers, T2.heap, T2.le⟩, f2⟩
   simp only [Zdc, dQ] at ok
   exact ih (k + 1) n ok.2 hy e1 j0 hn q
theorem Hy.hand {ops : Array Oper} {i : Nat} {o : Oper} {d : Nat} {u : A} {v : Value} (hi : ops[i]? = some o) (hg : o.guard = none) (hd : o.dst = some d) (hdN : d < N) (H : Hy P S0 w0 N mp U a w) (hrun : (execOp a.eval o).run P w = .ok (.value v) w) (r : ∀ C S, SW P C S w0.heap.size N U a w -> R P C S w u v)
 {Q : Exit -> Act -> World -> Prop} {rest : List Nat} (q : ∀ a1, Hy P S0 w0 N mp { U with s := upd U.s d u } a1 w -> wpOps P ops Q rest a1 w) : wpOps P ops Q (i :: rest) a w := by
 obtain ⟨C, S, F, A, T, f⟩ := H.ex
 rw [wpOps_cons]
 exact Y5m hi hg hd hdN T hrun (r C S T) (fun a1 T1 => q a1 ⟨⟨C, S, F, A, T1, f⟩, H.base⟩)
theorem Hy.bool {t : Nat} {b : Bool} (H : Hy P S0 w0 N mp U a w) (e : U.s t = .q b) : a.eval (.tmp t) = .bool b := by
 obtain ⟨C, S, F, A, T, f⟩ := H.ex
 have r := T.slot t
 rw [e] at r
 exact (R.v_inv r).1
theorem Hy.neqNil {tI t' : TypeId} (ht : P.underlying tI = some (.interface (P.methodsAt tI))) {ops : Array Oper} {i : Nat} {o : Oper} {d x : Nat} {b : Bool} (hi : ops[i]? = some o) (ho : o.op = .binOp .neq tI (.tmp x) (.const .nilIface) t') (hg : o.guard = none) (hd : o.dst = some d) (hdN : d < N) (H : Hy P S0 w0 N mp U a w)
 (hx : (U.s x = .v .nilIface /\ b = false) \/ (U.s x = .err /\ b = true)) {Q : Exit -> Act -> World -> Prop} {rest : List Nat} (q : ∀ a1, Hy P S0 w0 N mp { U with s := upd U.s d (.q b) } a1 w -> wpOps P ops Q rest a1 w) : wpOps P ops Q (i :: rest) a w := by
 have hk : a.eval (.const .nilIface) = .nilIface := rfl
 obtain ⟨C, S, F, A, T, f⟩ := H.ex
 have r1 := T.slot x
 have j1 : (execOp a.eval o).run P w = .ok (.value (.bool b)) w := by
  rcases hx with ⟨e, rfl⟩ | ⟨e, rfl⟩
  . rw [e] at r1
    have e1 : a.eval (.tmp x) = .nilIface := (R.v_inv r1).1
    simp only [execOp, ho, e1, hk, dE]
    have j0 : (eqGuard .neq tI (.tmp x) (.const .nilIface) .nilIface .nilIface).run P w = .ok () w := by simp [eqGuard]
    rw [j0]
    simp only [cX, run_neq_nil_nil w tI ht]
    rfl
  . rw [e] at r1
    obtain ⟨tp, y, e1⟩ : ∃ tp y, a.eval (.tmp x) = .iface tp y := by
     have h2 : a.eval (.tmp x) = a.tmps.getD x undef := rfl
     rw [h2]
     generalize a.tmps.getD x undef = z at r1
     cases r1 with
     | err tp y => exact ⟨tp, y, rfl⟩
    simp only [execOp, ho, e1, hk, dE]
    have j0 : (eqGuard .neq tI (.tmp x) (.const .nilIface) (.iface tp y) .nilIface).run P w = .ok () w := by simp [eqGuard]
    rw [j0]
    simp only [cX, run_neq_held_nil w tI tp y ht]
    rfl
 exact H.hand hi hg hd hdN j1 (fun C S T => .v _ rfl) q
theorem Hy.make {tm : Nat} {ops : Array Oper} {i : Nat} {o : Oper} {d : Nat} (hi : ops[i]? = some o) (ho : o.op = .makeMap tm none) (hd : o.dst = some d) (hdN : d < N) (hg : o.guard = none)
 (H : Hy P S0 w0 N mp U a w) {Q : Exit -> Act -> World -> Prop} {rest : List Nat}
 (q : ∀ a1 w1 km, Hy P S0 w0 N (some (km, #[], 0)) { U with s := upd U.s d (.v (.map (some km))) } a1 w1 -> wpOps P ops Q rest a1 w1) : wpOps P ops Q (i :: rest) a w := by
 obtain ⟨C, S, F, A, T, f⟩ := H.ex
 rw [wpOps_cons]
 exact Zyi hi ho hd hdN hg T [] (fun a1 w1 hb J T1 => q a1 w1 _ ⟨⟨C, S, F.step (fun _ h => h) (fun _ h => .inl h) hb, ⟨J, F.below.size⟩, T1, f⟩, H.base⟩)
theorem Hy.lookup {tm tk tb : Nat} {ks : List Nat} (T0 : SetT P tm tk tb ks) {ops : Array Oper} {i : Nat} {o : Oper} {d m kx j slot : Nat} (hi : ops[i]? = some o) (ho : o.op = .lookup tm (.tmp m) (.tmp kx) false) (hd : o.dst = some d) (hdN : d < N) (hg : o.guard = some (j, true)) (hs : (ops[j]?).bind (·.dst) = some slot)
 {km cl : Nat} {es : Array MapEntry} (H : Hy P S0 w0 N (some (km, es, cl)) U a w) {k : List Value} (hk : k.length = ks.length) {keys : List (List Value)} {r : Option Nat} (h : Holds ks es.toList keys) (e : Z9b ks k keys 0 = some r)
 {t : Bool} (ht : Z4g U slot true = some t) (hm : t = true -> unT (U.s m) = .v (.map (some km))) (hkx : t = true -> unT (U.s kx) = .agg (k.map A.v)) {Q : Exit -> Act -> World -> Prop} {rest : List Nat}
 (q : ∀ a1, Hy P S0 w0 N (some (km, es, cl)) { U with s := upd U.s d (.ifg t (.q r.isSome)) } a1 w -> wpOps P ops Q rest a1 w) : wpOps P ops Q (i :: rest) a w := by
 obtain ⟨C, S, F, A, T, f⟩ := H.ex
 rw [wpOps_cons]
 exact Zsp T0 hi ho hd hdN hg hs T A.1 hk h e ht hm hkx (fun a1 T1 => q a1 ⟨⟨C, S, F, A, T1, f⟩, H.base⟩)
theorem Hy.update {tm tk tb : Nat} {ks : List Nat} (T0 : SetT P tm tk tb ks) {ops : Array Oper} {i : Nat} {o : Oper} {m kx : Nat} (hi : ops[i]? = some o) (ho : o.op = .mapUpdate tm (.tmp m) (.tmp kx) (.const (.bool true))) (hd : o.dst = none) (hg : o.guard = none)
 {km cl : Nat} {es : Array MapEntry} (H : Hy P S0 w0 N (some (km, es, cl)) U a w) {k : List Value} (hk : k.length = ks.length) {keys : List (List Value)} {r : Option Nat} (h : Holds ks es.toList keys) (e : Z9b ks k keys 0 = some r)
 (hm : U.s m = .v (.map (some km))) (hkx : U.s kx = .agg (k.map A.v)) {Q : Exit -> Act -> World -> Prop} {rest : List Nat}
 (q : ∀ a1 w1 es1 cl1, Holds ks es1.toList (Zgr ks keys k) -> Hy P S0 w0 N (some (km, es1, cl1)) U a1 w1 -> wpOps P ops Q rest a1 w1) : wpOps P ops Q (i :: rest) a w := by
 obtain ⟨C, S, F, A, T, f⟩ := H.ex
 rw [wpOps_cons]
 obtain ⟨A1, A2⟩ := A
 unfold wpOp
 rw [hi]
 have hw : Region.wanted o (yielded ops a.tmps) = true := by unfold Region.wanted; rw [hg]
 simp only [hw, if_true]
 refine .inl ?_
 have r1 := T.slot m
 rw [hm] at r1
 have r2 := T.slot kx
 rw [hkx] at r2
 have e1 : a.eval (.tmp m) = .map (some km) := Y2p r1
 have e2 : a.eval (.tmp kx) = Zfl k := Y35 r2
 have e3 : a.eval (.const (.bool true)) = .bool true := rfl
 obtain ⟨w1, es1, cl1, j1, M, h1⟩ := Zst T0 A1.here k hk h e
 have j0 : (execOp a.eval o).run P w = .ok .skip w1 := by
  simp only [execOp, ho, e1, e2, e3, dE, j1, cX]
  rfl
 refine Zch j0 ?_
 rw [hd]
 have hb : Below w0.heap.size w w1 := ⟨M.os, M.tape, M.output, by rw [M.size]; exact dO _, fun i hi => M.other i (by omega)⟩
 exact q _ w1 es1 cl1 h1 ⟨⟨C, _, ⟨fun k hk => ⟨F.sub k hk, by have := F.old k hk; omega⟩, fun k hk => F.back k hk.1, F.below.trans hb, F.old⟩, ⟨⟨fun hh => hh.2 rfl, M.here⟩, A2⟩, T.map M, f⟩, H.base⟩
theorem Hy.done {F : Func} {rv : List RVar} {ra rs : List A} (H : Hy P S0 w0 F.ntmps mp U a w) (o2 : Z9y P F.results.toList rv = true) (e : Z7r U rv = some ra) (hrs : Za8 U.h [] ra = some rs) :
 bodyPost P F (fun | .returned v, w' => Res P S0 w0 rs v w' | _, _ => False) .ret a w := by
 obtain ⟨C, S, Fr, _, T, f⟩ := H.ex
 obtain ⟨us, j0, j1⟩ := Zal T.heap rfl T.slot (F := F) (rv := rv) (as := ra) o2 e
 exact ⟨T.defers, _, j0, Zaq rfl T.heap j1 hrs Fr.sub Fr.back Fr.below (Zdm Fr.old Fr.below)⟩
theorem Hy.start {as : List A} {xs : List Value} {n : Nat} (hS : ∀ k, S0 k -> k < w.heap.size) (hG : GlobOk P S0 w) (r : RL P Yy S0 w as xs) (hn : N <= n + xs.length) :
 Hy P S0 w N none ⟨slots as, fun _ => none, 0, 0⟩ { tmps := xs.toArray ++ Array.replicate n undef, defers := [] } w :=
 ⟨⟨Yy, S0, ⟨fun _ h => h, fun _ h => .inl h, Below.refl _ _, hS⟩, trivial, ⟨fun t => Zpg r _ t, by simp; omega, rfl, HR.empty hS hG, dO _⟩, fun _ _ => rfl⟩, rfl⟩
end Go.Vm
namespace Go.Vm
def Zv {V J C : Type} (g : Nat -> J -> V -> J ⊕ C) : Nat -> J -> List V -> J ⊕ C
 | _, b, [] => .inl b
 | i, b, x :: xs => match g i b x with
   | .inl b' => Zv g (i + 1) b' xs
   | .inr r => .inr r
theorem Y58 {V : Type} {l : List V} {i : Nat} {x : V} {xs : List V} (h : l.drop i = x :: xs) : l[i]? = some x /\ i < l.length /\ l.drop (i + 1) = xs := by
 have h1 : l[i]? = some x := by have := congrArg (·[0]?) h; simpa using this
 refine ⟨h1, (dU.1 h1).1, ?_⟩
 have := congrArg List.tail h
 simpa [List.tail_drop] using this
theorem Y0e {V : Type} {l : List V} {i : Nat} (h : l.drop i = []) : l.length <= i := by
 have := congrArg List.length h
 simp at this
 omega
def Vg (o : Option Out) (J C : Type) (r : J ⊕ C) (X : J -> Out -> Prop) (Y : C -> Out -> Prop) : Prop :=
 ∃ out, o = some out /\ match r with
  | .inl b => X b out
  | .inr q => Y q out
theorem Zmt {V J C : Type} {F : St -> Option Out} {L : List Nat} (xs : List V) (st : Nat -> J -> St) (g : Nat -> J -> V -> J ⊕ C) (Inv : Nat -> J -> Prop) (X : J -> Out -> Prop) (Y : C -> Out -> Prop)
 (hstep : ∀ (i : Nat) (b : J) (x : V) (K : Nat), xs[i]? = some x -> i < xs.length -> Inv i b -> match g i b x with
  | .inl b' => Zd F L (K + 1) (st i b) = Zd F L K (st (i + 1) b') /\ Inv (i + 1) b'
  | .inr r => ∃ out, Zd F L (K + 1) (st i b) = some out /\ Y r out)
 (hend : ∀ (b : J) (K : Nat), Inv xs.length b -> ∃ out, Zd F L (K + 1) (st xs.length b) = some out /\ X b out) :
 ∀ (ys : List V) (i K : Nat) (b : J), xs.drop i = ys -> i <= xs.length -> ys.length < K -> Inv i b -> Vg (Zd F L K (st i b)) J C (Zv g i b ys) X Y
 | [], i, K, b, hd, hi, hK, hinv => by
   obtain ⟨K, rfl⟩ : ∃ j, K = j + 1 := ⟨K - 1, by omega⟩
   have : i = xs.length := by have := Y0e hd; omega
   subst this
   exact hend b K hinv
 | y :: ys, i, K, b, hd, hi, hK, hinv => by
   obtain ⟨K, rfl⟩ : ∃ j, K = j + 1 := ⟨K - 1, by omega⟩
   obtain ⟨h1, h2, h3⟩ := Y58 hd
   have := hstep i b y K h1 h2 hinv
   unfold Zv
   cases hg : g i b y with
   | inl b' =>
     rw [hg] at this
     rw [this.1]
     exact Zmt xs st g Inv X Y hstep hend ys (i + 1) K b' h3 (by omega) (by simp at hK; omega) this.2
   | inr r =>
     rw [hg] at this
     exact this
theorem Zkl {n : Nat} (h : n <= big) : n < rounds := by
 unfold big at h
 unfold rounds
 omega
theorem Z8z (t : ByteArray) : t.size = t.data.toList.length := (Array.length_toList (xs := t.data)).symm
theorem Zt {V J C : Type} {F : St -> Option Out} {L : List Nat} (xs : List V) (st : Nat -> J -> St) (g : Nat -> J -> V -> J ⊕ C) (Inv : Nat -> J -> Prop) (X : J -> Out -> Prop) (Y : C -> Out -> Prop) (b : J) (h0 : Inv 0 b) (hl : xs.length <= big)
 (hstep : ∀ (i : Nat) (b : J) (x : V) (K : Nat), xs[i]? = some x -> i < xs.length -> Inv i b -> match g i b x with
  | .inl b' => Zd F L (K + 1) (st i b) = Zd F L K (st (i + 1) b') /\ Inv (i + 1) b'
  | .inr r => ∃ out, Zd F L (K + 1) (st i b) = some out /\ Y r out)
 (hend : ∀ (b : J) (K : Nat), Inv xs.length b -> ∃ out, Zd F L (K + 1) (st xs.length b) = some out /\ X b out) : Vg (Zd F L rounds (st 0 b)) J C (Zv g 0 b xs) X Y :=
 Zmt xs st g Inv X Y hstep hend xs 0 rounds b rfl (dG _) (Zkl hl) h0
theorem Shr.zero (h h' : Hp) : Shr 0 h h' = True := eq_true fun b hb => absurd hb (Nat.not_lt_zero b)
theorem Zz5 (h : Hp) : low 0 h = fun _ => none := by funext i; simp [low]
section
variable {V J : Type} (k : St -> Option Out) (e : St -> Option V) (U : St) (id id' tot : Nat)
theorem W5 (a : V) (f : V -> Option J) : bnd (some a) f = f a := (rfl)
theorem Y08 (f : V -> Option J) : bnd none f = none := (rfl)
theorem Y02 (q : Bool) (a b : Option V) (f : V -> Option J) : bnd (bif q then a else b) f = bif q then bnd a f else bnd b f := by cases q <;> rfl
theorem Yf {Z : Type} (o : Option V) (f : V -> Option J) (g : J -> Option Z) : bnd (bnd o f) g = bnd o fun a => bnd (f a) g := by cases o <;> rfl
theorem Zy3 : Zh2 none k = none := (rfl)
theorem Zy1 : Zh2 (some (.norm U)) k = k U := (rfl)
theorem Zwl : Zh2 (some (.exit id U)) k = some (.exit id U) := (rfl)
theorem Zyy : Zh2 (some (.ret U)) k = some (.ret U) := (rfl)
theorem Zvc (q : Bool) (a b : Option Out) : Zh2 (bif q then a else b) k = bif q then Zh2 a k else Zh2 b k := by cases q <;> rfl
theorem Y1x : blO id none = none := (rfl)
theorem Y0j : blO id (some (.norm U)) = some (.norm U) := (rfl)
theorem Y0t : blO id (some (.exit id' U)) = if id' = id then some (.norm U) else some (.exit id' U) := (rfl)
theorem Y5o : blO id (some (.ret U)) = some (.ret U) := (rfl)
theorem Zz6 (q : Bool) (a b : Option Out) : blO id (bif q then a else b) = bif q then blO id a else blO id b := by cases q <;> rfl
theorem Ztu : Zbk none e = none := (rfl)
theorem Ztk : Zbk (some (.norm U)) e = e U := (rfl)
theorem Y26 : Zbk (some (.ret U)) e = e U := (rfl)
theorem Zv0 (q : Bool) (a b : Option Out) : Zbk (bif q then a else b) e = bif q then Zbk a e else Zbk b e := by cases q <;> rfl
theorem Y0z : nrm tot none = none := (rfl)
theorem Y2a : nrm tot (some U) = some (.norm ⟨U.s, U.h, U.n + tot, U.base⟩) := (rfl)
theorem Zz9 (q : Bool) (a b : Option St) : nrm tot (bif q then a else b) = bif q then nrm tot a else nrm tot b := by cases q <;> rfl
theorem Y1q (a : Bool) : imp a a = true := by cases a <;> rfl
theorem Zvo (a : Bool) : imp false a = true := (rfl)
theorem Zyo (a : Bool) : imp true a = a := by cases a <;> rfl
theorem Zop (a : Bool) : imp a true = true := by cases a <;> rfl
theorem Zn8 (a b c : Bool) : imp (a && b) c = (imp a c || imp b c) := by cases a <;> cases b <;> cases c <;> rfl
theorem Zjz (a b c : Bool) : imp a (b && c) = (imp a b && imp a c) := by cases a <;> cases b <;> cases c <;> rfl
theorem Zx8 (a b : Bool) : (imp a b || imp b a) = true := by cases a <;> cases b <;> rfl
end
section
variable (E : Env) (tot d nm ty n : Nat) (gs : List G) (U : St)
theorem Y87 : Ze E tot [] U = some U := (rfl)
theorem Ybn (x : Opd) : Ze E tot (.o (.mv d x) :: gs) U = bnd (some (ev U x)) fun a => Ze E tot gs ⟨upd U.s d a, U.h, U.n, U.base⟩ := by
 simp only [Ze, Yp, step, AOp.yields, Ya, W5, put]
theorem Yd5 (sl : Nat) (w : Bool) (x : Opd) : Ze E tot (.g sl w (.mv d x) :: gs) U = bnd (Vx w (U.s sl)) fun t => bnd (Wi t U (some d) (evp t U x)) (Ze E tot gs) := by
 simp only [Ze, Yp, AOp.yields, Ya, Yf, Z4g]
theorem Y6x (c a b : Opd) : Ze E tot (.o (.pick d c a b) :: gs) U = bnd (bnd (isQ (ev U c)) fun q => bnd (evq q U a) fun x => bnd (evq (!q) U b) fun y => some (A.v (.bool (bif q then x else y)))) fun a => Ze E tot gs ⟨upd U.s d a, U.h, U.n, U.base⟩ := by
 simp only [Ze, Yp, step, AOp.yields, Ya, W5, Yf, put]
theorem Y3i (sl : Nat) (w : Bool) (c a b : Opd) : Ze E tot (.g sl w (.pick d c a b) :: gs) U = bnd (Vx w (U.s sl)) fun t => bnd (Wi t U (some d) (bnd (bnd (evp t U c) isQ) fun q => bnd (evq (t && q) U a) fun x => bnd (evq (t && !q) U b) fun y => some (A.v (.bool (bif q then x else y))))) (Ze E tot gs) := by
 simp only [Ze, Yp, AOp.yields, Ya, Yf, Z4g]
theorem Ybg (g : Bool) (p : Opd) : Ze E tot (.o (.ld d n g p) :: gs) U = bnd (bnd (Zbm U.h (ev U p)) (Y6e n g)) fun a => Ze E tot gs ⟨upd U.s d a, U.h, U.n, U.base⟩ := by
 simp only [Ze, Yp, step, AOp.yields, Ya, W5, Yf, put]
theorem Yb6 (sl : Nat) (w : Bool) (g : Bool) (p : Opd) : Ze E tot (.g sl w (.ld d n g p) :: gs) U = bnd (Vx w (U.s sl)) fun t => bnd (Wi t U (some d) (bnd (bnd (evp t U p) (Zbm U.h)) (Y6e n g))) (Ze E tot gs) := by
 simp only [Ze, Yp, AOp.yields, Ya, Yf, Z4g]
theorem Y8f (op : BinOp) (x y : Opd) : Ze E tot (.o (.bin d op x y) :: gs) U = bnd (Z8t op (ev U x) (ev U y)) fun a => Ze E tot gs ⟨upd U.s d a, U.h, U.n, U.base⟩ := by
 simp only [Ze, Yp, step, AOp.yields, Ya, W5, Yf, put]
theorem Y9k (sl : Nat) (w : Bool) (op : BinOp) (x y : Opd) : Ze E tot (.g sl w (.bin d op x y) :: gs) U = bnd (Vx w (U.s sl)) fun t => bnd (Wi t U (some d) (bnd (evp t U x) fun a => bnd (evp t U y) (Z8t op a))) (Ze E tot gs) := by
 simp only [Ze, Yp, AOp.yields, Ya, Yf, Z4g]
theorem Y7z (ks : List Nat) (ng : Bool) (x y : Opd) : Ze E tot (.o (.eqs d ks ng x y) :: gs) U = bnd (Y4d ks ng (ev U x) (ev U y)) fun a => Ze E tot gs ⟨upd U.s d a, U.h, U.n, U.base⟩ := by
 simp only [Ze, Yp, step, AOp.yields, Ya, W5, Yf, put]
theorem Y7m (sl : Nat) (w : Bool) (ks : List Nat) (ng : Bool) (x y : Opd) : Ze E tot (.g sl w (.eqs d ks ng x y) :: gs) U = bnd (Vx w (U.s sl)) fun t => bnd (Wi t U (some d) (bnd (evp t U x) fun a => bnd (evp t U y) (Y4d ks ng a))) (Ze E tot gs) := by
 simp only [Ze, Yp, AOp.yields, Ya, Yf, Z4g]
theorem Y9v (ng : Bool) (x y : Opd) : Ze E tot (.o (.beq d ng x y) :: gs) U = bnd (Y3b ng (ev U x) (ev U y)) fun a => Ze E tot gs ⟨upd U.s d a, U.h, U.n, U.base⟩ := by
 simp only [Ze, Yp, step, AOp.yields, Ya, W5, Yf, put]
theorem Y8a (sl : Nat) (w : Bool) (ng : Bool) (x y : Opd) : Ze E tot (.g sl w (.beq d ng x y) :: gs) U = bnd (Vx w (U.s sl)) fun t => bnd (Wi t U (some d) (bnd (evp t U x) fun a => bnd (evp t U y) (Y3b ng a))) (Ze E tot gs) := by
 simp only [Ze, Yp, AOp.yields, Ya, Yf, Z4g]
theorem Yb7 (op : UnOp) (x : Opd) : Ze E tot (.o (.un d op x) :: gs) U = bnd (unA op (ev U x)) fun a => Ze E tot gs ⟨upd U.s d a, U.h, U.n, U.base⟩ := by
 simp only [Ze, Yp, step, AOp.yields, Ya, W5, Yf, put]
theorem Yd1 (sl : Nat) (w : Bool) (op : UnOp) (x : Opd) : Ze E tot (.g sl w (.un d op x) :: gs) U = bnd (Vx w (U.s sl)) fun t => bnd (Wi t U (some d) (bnd (evp t U x) (unA op))) (Ze E tot gs) := by
 simp only [Ze, Yp, AOp.yields, Ya, Yf, Z4g]
theorem Ybq (k : IntKind) (x : Opd) : Ze E tot (.o (.cv d k x) :: gs) U = bnd (cvA k (ev U x)) fun a => Ze E tot gs ⟨upd U.s d a, U.h, U.n, U.base⟩ := by
 simp only [Ze, Yp, step, AOp.yields, Ya, W5, Yf, put]
theorem Yd2 (sl : Nat) (w : Bool) (k : IntKind) (x : Opd) : Ze E tot (.g sl w (.cv d k x) :: gs) U = bnd (Vx w (U.s sl)) fun t => bnd (Wi t U (some d) (bnd (evp t U x) (cvA k))) (Ze E tot gs) := by
 simp only [Ze, Yp, AOp.yields, Ya, Yf, Z4g]
theorem Y9i (e : Nat) (x : Opd) : Ze E tot (.o (.cbs d e x) :: gs) U = bnd (bnd (bnd (rowsOf e U.h (ev U x)) Z6b) fun l => some (A.v (.string ⟨l.toArray⟩))) fun a => Ze E tot gs ⟨upd U.s d a, U.h, U.n, U.base⟩ := by
 simp only [Ze, Yp, step, AOp.yields, Ya, W5, Yf, put]
theorem Y8t (sl e : Nat) (w : Bool) (x : Opd) : Ze E tot (.g sl w (.cbs d e x) :: gs) U = bnd (Vx w (U.s sl)) fun t => bnd (Wi t U (some d) (bnd (bnd (bnd (evp t U x) (rowsOf e U.h)) Z6b) fun l => some (A.v (.string ⟨l.toArray⟩)))) (Ze E tot gs) := by
 simp only [Ze, Yp, AOp.yields, Ya, Yf, Z4g]
theorem Ybz (x : Opd) (off : Nat) : Ze E tot (.o (.fa d x off) :: gs) U = bnd (faA off (ev U x)) fun a => Ze E tot gs ⟨upd U.s d a, U.h, U.n, U.base⟩ := by
 simp only [Ze, Yp, step, AOp.yields, Ya, W5, Yf, put]
theorem Yb5 (sl : Nat) (w : Bool) (x : Opd) (off : Nat) : Ze E tot (.g sl w (.fa d x off) :: gs) U = bnd (Vx w (U.s sl)) fun t => bnd (Wi t U (some d) (bnd (evp t U x) (faA off))) (Ze E tot gs) := by
 simp only [Ze, Yp, AOp.yields, Ya, Yf, Z4g]
theorem Y8b (x : Opd) (off : Nat) (g : Bool) : Ze E tot (.o (.fld d x off n g) :: gs) U = bnd (Y6f off n g (ev U x)) fun a => Ze E tot gs ⟨upd U.s d a, U.h, U.n, U.base⟩ := by
 simp only [Ze, Yp, step, AOp.yields, Ya, W5, Yf, put]
theorem Ya4 (sl : Nat) (w : Bool) (x : Opd) (off : Nat) (g : Bool) : Ze E tot (.g sl w (.fld d x off n g) :: gs) U = bnd (Vx w (U.s sl)) fun t => bnd (Wi t U (some d) (bnd (evp t U x) (Y6f off n g))) (Ze E tot gs) := by
 simp only [Ze, Yp, AOp.yields, Ya, Yf, Z4g]
theorem Yb0 (e : Nat) (x i : Opd) : Ze E tot (.o (.ia d e x i) :: gs) U = bnd (iaA e (ev U x) (ev U i)) fun a => Ze E tot gs ⟨upd U.s d a, U.h, U.n, U.base⟩ := by
 simp only [Ze, Yp, step, AOp.yields, Ya, W5, Yf, put]
theorem Ycf (sl e : Nat) (w : Bool) (x i : Opd) : Ze E tot (.g sl w (.ia d e x i) :: gs) U = bnd (Vx w (U.s sl)) fun t => bnd (Wi t U (some d) (bnd (evp t U x) fun a => bnd (evp t U i) (iaA e a))) (Ze E tot gs) := by
 simp only [Ze, Yp, AOp.yields, Ya, Yf, Z4g]
theorem Ycp (x i : Opd) : Ze E tot (.o (.ix d x i) :: gs) U = bnd (ixA (ev U x) (ev U i)) fun a => Ze E tot gs ⟨upd U.s d a, U.h, U.n, U.base⟩ := by
 simp only [Ze, Yp, step, AOp.yields, Ya, W5, Yf, put]
theorem Ycu (sl : Nat) (w : Bool) (x i : Opd) : Ze E tot (.g sl w (.ix d x i) :: gs) U = bnd (Vx w (U.s sl)) fun t => bnd (Wi t U (some d) (bnd (evp t U x) fun a => bnd (evp t U i) (ixA a))) (Ze E tot gs) := by
 simp only [Ze, Yp, AOp.yields, Ya, Yf, Z4g]
theorem Y7r (x : Opd) (i : Nat) : Ze E tot (.o (.ex d x i) :: gs) U = bnd (exA i (ev U x)) fun a => Ze E tot gs ⟨upd U.s d a, U.h, U.n, U.base⟩ := by
 simp only [Ze, Yp, step, AOp.yields, Ya, W5, Yf, put]
theorem Ybc (sl : Nat) (w : Bool) (x : Opd) (i : Nat) : Ze E tot (.g sl w (.ex d x i) :: gs) U = bnd (Vx w (U.s sl)) fun t => bnd (Wi t U (some d) (bnd (evp t U x) (exA i))) (Ze E tot gs) := by
 simp only [Ze, Yp, AOp.yields, Ya, Yf, Z4g]
theorem Y7u (str : Bool) (x : Opd) : Ze E tot (.o (.len d str x) :: gs) U = bnd (Zt6 str (ev U x)) fun a => Ze E tot gs ⟨upd U.s d a, U.h, U.n, U.base⟩ := by
 simp only [Ze, Yp, step, AOp.yields, Ya, W5, Yf, put]
theorem Y96 (sl : Nat) (w str : Bool) (x : Opd) : Ze E tot (.g sl w (.len d str x) :: gs) U = bnd (Vx w (U.s sl)) fun t => bnd (Wi t U (some d) (bnd (evp t U x) (Zt6 str))) (Ze E tot gs) := by
 simp only [Ze, Yp, AOp.yields, Ya, Yf, Z4g]
theorem Y95 (mx : Bool) (x y : Opd) : Ze E tot (.o (.mnx d mx x y) :: gs) U = bnd (Zzo mx (ev U x) (ev U y)) fun a => Ze E tot gs ⟨upd U.s d a, U.h, U.n, U.base⟩ := by
 simp only [Ze, Yp, step, AOp.yields, Ya, W5, Yf, put]
theorem Y94 (sl : Nat) (w : Bool) (mx : Bool) (x y : Opd) : Ze E tot (.g sl w (.mnx d mx x y) :: gs) U = bnd (Vx w (U.s sl)) fun t => bnd (Wi t U (some d) (bnd (evp t U x) fun a => bnd (evp t U y) (Zzo mx a))) (Ze E tot gs) := by
 simp only [Ze, Yp, AOp.yields, Ya, Yf, Z4g]
theorem Yc5 (dd : Option Nat) (x : Opd) : Ze E tot (.o (.nl dd x) :: gs) U = bnd (nlA (ev U x)) fun a => Ze E tot gs ⟨put U.s dd a, U.h, U.n, U.base⟩ := by
 simp only [Ze, Yp, step, AOp.yields, Ya, W5, Yf, put]
theorem Ycz (dd : Option Nat) (sl : Nat) (w : Bool) (x : Opd) : Ze E tot (.g sl w (.nl dd x) :: gs) U = bnd (Vx w (U.s sl)) fun t => bnd (Wi t U dd (bnd (evp t U x) nlA)) (Ze E tot gs) := by
 simp only [Ze, Yp, AOp.yields, Ya, Yf, Z4g]
theorem Y8n : Ze E tot (.o (.mvn d nm ty) :: gs) U = bnd (some ⟨upd U.s d (.ref ty (U.n + nm) 0 0 0 false), upd U.h (U.n + nm) (some ⟨ty, [], true, false⟩), U.n, U.base⟩) (Ze E tot gs) := (rfl)
theorem Ybp (zs : List A) : Ze E tot (.o (.al d nm ty zs) :: gs) U = bnd (some ⟨upd U.s d (.ptr (U.n + nm) 0 0), upd (Zy U.h (U.n + nm + 1) zs).2 (U.n + nm) (some ⟨ty, [(Zy U.h (U.n + nm + 1) zs).1], true, true⟩), U.n, U.base⟩) (Ze E tot gs) := (rfl)
theorem Ya1 (x : Opd) : Ze E tot (.o (.box d nm ty n x) :: gs) U = bnd (if (ev U x).cells.length = n /\ Zi (ev U x).cells then some ⟨upd U.s d (.ptr (U.n + nm) 0 0), upd U.h (U.n + nm) (some ⟨ty, [(ev U x).cells], true, true⟩), U.n, U.base⟩ else none) (Ze E tot gs) := (rfl)
theorem Y8m (zs : List A) (ps : List (Nat × Nat × Opd)) : Ze E tot (.o (.bld d nm zs ps) :: gs) U = bnd (bnd (Zd8 U (Zy U.h (U.n + nm) zs).1 ps) fun cs => some ⟨upd U.s d (.agg cs), (Zy U.h (U.n + nm) zs).2, U.n, U.base⟩) (Ze E tot gs) := (rfl)
theorem Y7s (xs : List Opd) : Ze E tot (.o (.bsl d nm ty n xs) :: gs) U = bnd (bnd (Z5k U n xs) fun rows => some ⟨upd U.s d (.ref ty (U.n + nm) 0 rows.length rows.length true), frz (upd U.h (U.n + nm) (some ⟨ty, rows, true, false⟩)) (Xw U xs), U.n, U.base⟩) (Ze E tot gs) := (rfl)
theorem Ybm (p x : Opd) : Ze E tot (.o (.st n p x) :: gs) U = bnd (bnd (storeAt U.base U.h (ev U p) n (ev U x)) fun h => some ⟨U.s, h, U.n, U.base⟩) (Ze E tot gs) := (rfl)
theorem Y85 (p : Opd) : Ze E tot (.o (.stn nm ty p) :: gs) U = bnd (bnd (storeAt U.base (upd U.h (U.n + nm) (some ⟨ty, [], true, false⟩)) (ev U p) 1 (.ref ty (U.n + nm) 0 0 0 false)) fun h => some ⟨U.s, h, U.n, U.base⟩) (Ze E tot gs) := (rfl)
theorem Y8o (f : Nat) (caps : List Opd) : Ze E tot (.o (.mkf d f caps) :: gs) U = bnd (if Wg (evs U caps) = true then some ⟨upd U.s d (.fn f (evs U caps)), U.h, U.n, U.base⟩ else none) (Ze E tot gs) := (rfl)
theorem Yah (zs : List A) (l c : Opd) : Ze E tot (.o (.mks d nm ty zs l c) :: gs) U = bnd (Y30 U d nm ty zs (ev U l) (ev U c)) (Ze E tot gs) := (rfl)
theorem Ycb (e : Option Nat) (x : Opd) (lo hi mx : Option Opd) : Ze E tot (.o (.sl d e x lo hi mx) :: gs) U = bnd (bnd (Z8c U e lo hi mx (ev U x)) fun a => some ⟨upd U.s d a, U.h, U.n, U.base⟩) (Ze E tot gs) := (rfl)
theorem Y4a (dd : Option Nat) (w f : Nat) (xs : List Opd) : Ze E tot (.o (.call dd nm w f xs) :: gs) U = bnd (Z3y E U dd nm w f (evs U xs)) (Ze E tot gs) := (rfl)
theorem Y1b (dd : Option Nat) (w : Nat) (f : Opd) (xs : List Opd) : Ze E tot (.o (.callv dd nm w f xs) :: gs) U = bnd (bnd (fnA (ev U f)) fun p => Z3y E U dd nm w p.1 (evs U xs ++ p.2)) (Ze E tot gs) := (rfl)
theorem Y1y (dd : Option Nat) (f : Nat) (xs : List Opd) : Ze E tot (.o (.dcall dd f xs) :: gs) U = bnd (Znh E tot U dd f (evs U xs)) (Ze E tot gs) := (rfl)
theorem Yaa (dd : Option Nat) (f : Nat) (xs : List Opd) : Ze E tot (.o (.dcf dd f xs) :: gs) U = bnd (Zfh E tot U dd f (evs U xs)) (Ze E tot gs) := (rfl)
theorem Zy7 (dd : Option Nat) (f : Opd) (xs : List Opd) : Ze E tot (.o (.dcallv dd f xs) :: gs) U = bnd (bnd (fnA (ev U f)) fun p => Znh E tot U dd p.1 (evs U xs ++ p.2)) (Ze E tot gs) := (rfl)
theorem Y9r (e : Nat) (s x : Opd) : Ze E tot (.o (.app d nm e s x) :: gs) U = bnd (bnd (rowsOf e U.h (ev U x)) fun ys => Zr4 U d nm e ys (ev U s)) (Ze E tot gs) := (rfl)
theorem Yae (e : Nat) (zs : List A) (x : Opd) : Ze E tot (.o (.clr e zs x) :: gs) U = bnd (Y3a U e zs (ev U x)) (Ze E tot gs) := (rfl)
theorem Y48 (sl ww : Nat) (w : Bool) (dd : Option Nat) (f : Nat) (xs : List Opd) : Ze E tot (.g sl w (.call dd nm ww f xs) :: gs) U = bnd (Vx w (U.s sl)) fun t => bnd (Xv t U dd (bnd (bnd (bnd (xs.mapM fun x => evp t U x) (Z0t U.h)) (E.call f)) Zh8) (bnd (Z3y E (strip U) dd nm ww f (evs (strip U) xs)) (back U dd))) (Ze E tot gs) := by
 simp only [Ze, Yp, AOp.yields, AOp.dst, Ya, Yf, Z4g]; rfl
theorem Y72 (sl : Nat) (w : Bool) (zs : List A) : Ze E tot (.g sl w (.bld d nm zs []) :: gs) U = bnd (Vx w (U.s sl)) fun t => bnd (Xv t U (some d) (if Zam zs then none else some (.agg zs)) (bnd (step E tot (.bld d nm zs []) (strip U)) (back U (some d)))) (Ze E tot gs) := by
 simp only [Ze, Yp, AOp.yields, AOp.dst, Ya, Yf, Z4g]
theorem Y0q (sl ww : Nat) (w : Bool) (dd : Option Nat) (f : Opd) (xs : List Opd) : Ze E tot (.g sl w (.callv dd nm ww f xs) :: gs) U = bnd (Vx w (U.s sl)) fun t => bnd (Xv t U dd none (bnd (bnd (fnA (ev (strip U) f)) fun p => Z3y E (strip U) dd nm ww p.1 (evs (strip U) xs ++ p.2)) (back U dd))) (Ze E tot gs) := by
 simp only [Ze, Yp, AOp.yields, AOp.dst, Ya, Yf, Z4g, step]
theorem Y0y (sl : Nat) (w : Bool) (dd : Option Nat) (f : Nat) (xs : List Opd) : Ze E tot (.g sl w (.dcall dd f xs) :: gs) U = bnd (Vx w (U.s sl)) fun t => bnd (Xv t U dd none (bnd (Znh E tot (strip U) dd f (evs (strip U) xs)) (back U dd))) (Ze E tot gs) := by
 simp only [Ze, Yp, AOp.yields, AOp.dst, Ya, Yf, Z4g, step]
theorem Yb3 (sl : Nat) (w : Bool) (e : Option Nat) (x : Opd) (lo hi mx : Option Opd) : Ze E tot (.g sl w (.sl d e x lo hi mx) :: gs) U = bnd (Vx w (U.s sl)) fun t => bnd (Xv t U (some d) none (bnd (bnd (Z8c (strip U) e lo hi mx (ev (strip U) x)) fun a => some ⟨upd (strip U).s d a, (strip U).h, (strip U).n, (strip U).base⟩) (back U (some d)))) (Ze E tot gs) := by
 simp only [Ze, Yp, AOp.yields, AOp.dst, Ya, Yf, Z4g, step]
theorem Y99 (zs : List A) (l c : Opd) : Ze E tot (.o (.mkb d nm ty zs l c) :: gs) U = bnd (Y33 U d nm ty zs (ev U l) (ev U c)) (Ze E tot gs) := (rfl)
theorem Y9p (xs : List Opd) : Ze E tot (.o (.bsb d nm ty n xs) :: gs) U = bnd (bnd (Z5o U n xs) fun rows => some ⟨upd U.s d (.ref ty (U.n + nm) 0 rows.length rows.length true), upd U.h (U.n + nm) (some ⟨ty, rows, true, true⟩), U.n, U.base⟩) (Ze E tot gs) := (rfl)
theorem Y7k (e : Nat) (s x : Opd) : Ze E tot (.o (.apb d nm e s x) :: gs) U = bnd (bnd (Zae true e U.h (ev U x)) fun ys => Zoy true U d nm e ys (ev U s)) (Ze E tot gs) := (rfl)
theorem Zzx (dd : Option Nat) (w f : Nat) (xs : List Opd) : Ze E tot (.o (.callx dd nm w f xs) :: gs) U = bnd (Z5d E U dd nm w f (evs U xs)) (Ze E tot gs) := (rfl)
theorem Y8l (dd : Option Nat) (f : Nat) (xs : List Opd) : Ze E tot (.o (.dcs dd f xs) :: gs) U = bnd (Zo4 E tot U dd f (evs U xs)) (Ze E tot gs) := (rfl)
theorem Y9m (xs : List Opd) : Ze E tot (.o (.bll d ty n xs) :: gs) U = bnd (bnd (Z6r U n xs) fun rows => some ⟨upd U.s d (.lit ty rows), U.h, U.n, U.base⟩) (Ze E tot gs) := (rfl)
theorem Zod (t : Bool) (dd : Option Nat) (a : A) : Wi t U dd (some a) = some ⟨put U.s dd (.ifg t a), U.h, U.n, U.base⟩ := (rfl)
theorem Zo5 (t : Bool) (dd : Option Nat) : Wi t U dd none = bif t then none else some ⟨put U.s dd .und, U.h, U.n, U.base⟩ := (rfl)
theorem Znv (t : Bool) (dd : Option Nat) (a : A) (k : Option St) : Xv t U dd (some a) k = some ⟨put U.s dd (.ifg t a), U.h, U.n, U.base⟩ := (rfl)
theorem Zp8 (t : Bool) (dd : Option Nat) (k : Option St) : Xv t U dd none k = bif t then k else some ⟨put U.s dd .und, U.h, U.n, U.base⟩ := (rfl)
theorem Yen (k : Nat) : ev U (.t k) = U.s k := (rfl)
theorem Yeb (a : A) : ev U (.k a) = a := (rfl)
theorem Ydb (t : Bool) (x : Value) : evp t U (.k (.v x)) = some (.v x) := (rfl)
theorem Ycd (t : Bool) (k : Nat) : evp t U (.t k) = opA t (U.s k) := (rfl)
theorem Ydc (t x : Bool) : evq t U (.k (.v (.bool x))) = some x := (rfl)
theorem Yc3 (t : Bool) (k : Nat) : evq t U (.t k) = opQ t (U.s k) := (rfl)
end
section
variable (t g : Bool) (a : A) (x : Value) (q : Bool)
theorem Y6m : opA t (.ifg g a) = if imp t g then some a else none := (rfl)
theorem Ybl : opA t (.v x) = some (.v x) := (rfl)
theorem Y6z (cs : List A) : opA t (.agg cs) = some (.agg cs) := (rfl)
theorem Y3n (b i j : Nat) : opA t (.ptr b i j) = some (.ptr b i j) := (rfl)
theorem Y9w (r : List A) (j : Nat) : opA t (.pl r j) = some (.pl r j) := (rfl)
theorem Y4i (ty : Nat) (r : List (List A)) : opA t (.lit ty r) = some (.lit ty r) := (rfl)
theorem Y5a (ty b o l c : Nat) (e : Bool) : opA t (.ref ty b o l c e) = some (.ref ty b o l c e) := (rfl)
theorem Y9f (f : Nat) (c : List A) : opA t (.fn f c) = some (.fn f c) := (rfl)
theorem Y6s : opA t .und = some .und := (rfl)
theorem Y4j (op : UnOp) : unA op .und = none := (rfl)
theorem Zxb (op : BinOp) (y : A) : Z8t op .und y = none := (rfl)
theorem Zu2 (op : BinOp) : Z8t op (.v x) .und = none := (rfl)
theorem Y4n (c : List A) : opA t (.tup c) = some (.tup c) := (rfl)
theorem Y5b : opQ t (.ifg g (.v (.bool q))) = if imp t g then some q else none := (rfl)
theorem Yck : opQ t (.v (.bool q)) = some q := (rfl)
theorem Y3p : opQ t .und = if t then none else some false := (rfl)
theorem Y12 : Vx true (.v (.bool q)) = some q := (rfl)
theorem Y0u : Vx false (.v (.bool q)) = some (!q) := (rfl)
theorem Zus : Vx true (.ifg g (.v (.bool q))) = some (g && q) := (rfl)
theorem Zuj : Vx false (.ifg g (.v (.bool q))) = some (g && !q) := (rfl)
theorem Zv7 (w : Bool) : Vx w .und = some false := (rfl)
variable (k : IntKind) (m n : Int) (u w : ByteArray) (p : Bool)
theorem Y5v : Z8t .add (.v (.int k m)) (.v (.int k n)) = some (.v (.int k (k.wrap (m + n)))) := by simp [Z8t, Zng, Zqz, bnd]
theorem Y69 : Z8t .sub (.v (.int k m)) (.v (.int k n)) = some (.v (.int k (k.wrap (m - n)))) := by simp [Z8t, Zng, Zqz, bnd]
theorem Y4o : Z8t .mul (.v (.int k m)) (.v (.int k n)) = some (.v (.int k (k.wrap (m * n)))) := by simp [Z8t, Zng, Zqz, bnd]
theorem Y6v : Z8t .quo (.v (.int k m)) (.v (.int k n)) = if n = 0 then none else some (.v (.int k (k.wrap (m.tdiv n)))) := by simp [Z8t, Zng, Zqz]; split <;> rfl
theorem Y3r : Z8t .rem (.v (.int k m)) (.v (.int k n)) = if n = 0 then none else some (.v (.int k (m.tmod n))) := by simp [Z8t, Zng, Zqz]; split <;> rfl
theorem Y49 : Z8t .xor (.v (.int k m)) (.v (.int k n)) = some (.v (.int k (k.wrap (BitVec.ofInt k.bits m ^^^ BitVec.ofInt k.bits n).toNat))) := by simp [Z8t, Zng, Zqz, bnd]
theorem Y60 : Z8t .eql (.v (.int k m)) (.v (.int k n)) = some (.v (.bool (decide (m = n)))) := by simp [Z8t, Zng, Zqz, bnd]
theorem Y45 : Z8t .neq (.v (.int k m)) (.v (.int k n)) = some (.v (.bool (!decide (m = n)))) := by simp [Z8t, Zng, Zqz, bnd]
theorem Y6j : Z8t .lss (.v (.int k m)) (.v (.int k n)) = some (.v (.bool (decide (m < n)))) := by simp [Z8t, Zng, Zqz, bnd]
theorem Y6b : Z8t .leq (.v (.int k m)) (.v (.int k n)) = some (.v (.bool (decide (m <= n)))) := by simp [Z8t, Zng, Zqz, bnd]
theorem Y4k : Z8t .gtr (.v (.int k m)) (.v (.int k n)) = some (.v (.bool (decide (n < m)))) := by simp [Z8t, Zng, Zqz, bnd]
theorem Y6q : Z8t .geq (.v (.int k m)) (.v (.int k n)) = some (.v (.bool (decide (n <= m)))) := by simp [Z8t, Zng, Zqz, bnd]
theorem Zzd : Z8t .add (.v (.string u)) (.v (.string w)) = if u.size + w.size <= 2 ^ 62 then some (.v (.string (u ++ w))) else none := by simp [Z8t, Zng, Yb4]; split <;> rfl
theorem Zyw : Z8t .eql (.v (.string u)) (.v (.string w)) = some (.v (.bool (decide (u = w)))) := (rfl)
theorem Y2b : Z8t .neq (.v (.string u)) (.v (.string w)) = some (.v (.bool (!decide (u = w)))) := (rfl)
theorem Zzp : Z8t .lss (.v (.string u)) (.v (.string w)) = some (.v (.bool (W6 u.toList w.toList))) := (rfl)
theorem Y7x (ng : Bool) : Y3b ng (.v (.bool q)) (.v (.bool p)) = some (.v (.bool (bif ng then !decide (q = p) else decide (q = p)))) := (rfl)
theorem Zsx : Z0m 0 (.v (.int k m)) (.v (.int k n)) = some (decide (m = n)) := by simp [Z0m]
theorem Zsi : Z0m 1 (.v (.string u)) (.v (.string w)) = some (decide (u = w)) := (rfl)
theorem Zox : Z0m 2 (.v (.bool q)) (.v (.bool p)) = some (decide (q = p)) := (rfl)
theorem Y8d : unA .not (.v (.bool q)) = some (.v (.bool (!q))) := (rfl)
theorem Y8j : unA .neg (.v (.int k m)) = some (.v (.int k (k.wrap (0 - m)))) := (rfl)
theorem Y3o (w : Bool) : Zzo w (.v (.int k m)) (.v (.int k n)) = some (.v (.int k (bif w then max m n else min m n))) := by simp [Zzo]
end
theorem Zr3 (E : Env) (N : List Nat) : (chk E N).call = E.call := (rfl)
theorem Zab (E : Env) (N : List Nat) (f : Nat) (as : List A) (h : Hp) (n : Nat) {r : List A × Hp × Nat} (e : E.dc f as h n = some r) (hk : Z28 N h r.2.1) : (chk E N).dc f as h n = some r := by
 simp only [chk, e, W5]
 rw [if_pos hk]
attribute [go_sem] Yaa Zfh Shr.zero Y9m Z6r isV Zr3 Z0a Z1y
attribute [go_sem] Y99 Y9p Y7k Zzx Y8l Zae Zoy Y33 Z5o Z5d Zo4 Zfx Z5c Zxp clD Vr
attribute [go_sem] Y87 Ybn Yd5 Y6x Y3i Ybg Yb6 Y8f Y9k Y7z Y7m Yb7 Yd1 Ybq Yd2 Y9i Y8t Ybz Yb5 Y8b Ya4 Yb0 Ycf Ycp Ycu Y7r Ybc Y7u Y96 Y95 Y94 Yc5 Ycz Y8n Ybp Ya1 Y8m Y7s Ybm Y85 Y8o Yah Ycb Y4a Y1b Y1y Zy7 Y9r Yae Y48 Y0q Y0y Yb3 Y72 Zod Zo5 Znv Zp8 Yen Yeb Ydb Ycd Ydc Yc3 Y6m Ybl Y6z Y3n Y9w Y4i Y5a Y9f Y6s Y4j Zxb Zu2 Y4n Y5b Yck Y3p Y12 Y0u Zus Zuj Zv7
attribute [go_sem] Y5v Y69 Y4o Y6v Y3r Y49 Y60 Y45 Y6j Y6b Y4k Y6q Zzd Zyw Y2b Zzp Y7x Y9v Y8a Zsx Zsi Zox Y8d Y8j Y3o Y4d cvA faA Y6f iaA ixA exA Zt6 isQ nlA Zh8 plain Y6e val X2
attribute [go_sem] Zx8 Zjz Zn8 Zvo Zyo Zop
attribute [go_sem] Y1q
attribute [go_sem] W5 Y08 Y02 Zy3 Zy1 Zwl Zyy Zvc Y1x Y0j Y0t Y5o Zz6 Ztu Ztk Y26 Zv0 Y0z Y2a Zz9
attribute [go_sem] Zmy Wg strip back unT Z7 Zz5 Zj slots put evs fnA Z8c Zr4 Y3a Y30 aft Yas Zle Z3y Znh res Zo9 Z7r Zxi Za8 Y10 Z6q Zew A.cells seg
attribute [go_sem] Z0t Zbe Wz Z0q Z9e Z6t Z5k Xw Z7j Zrv Zm4 Y7t Zp4 Vl V8 Zam Yh Z3a Zz pack Z89 Z83 Yj Nat.not_lt_zero Nat.lt_irrefl
attribute [go_sem] Zbm rowsOf storeAt Z7t Z1c Zi Zy Zd8 Z3e Zem Y55 frz Zr Xk Xm Zbr Z0v Z4e
attribute [go_sem] canon Zec Zn Zf8 Yaq Zk5 nmX List.all_cons List.all_nil List.contains_cons List.contains_nil Z26 Xt Z4z Yb Zg Yk Z78 below Z6v nw Zya ren Zdb Zk8 Zje Z41 Z6y Xr
attribute [go_sem] ite_true ite_false if_true if_false Bool.and_true Bool.true_and Bool.and_false Bool.false_and Bool.or_true Bool.true_or Bool.or_false Bool.false_or Bool.not_true Bool.not_false cond_true cond_false Bool.not_not
attribute [go_sem] List.length_cons List.length_nil List.take_succ_cons List.take_zero List.drop_succ_cons List.drop_zero List.take_nil List.drop_nil List.getD_cons_zero List.getD_cons_succ List.getElem?_cons_zero List.getElem?_cons_succ List.headD_cons List.map_cons List.map_nil List.mapM_cons List.mapM_nil List.nil_append List.cons_append List.append_nil List.set_cons_zero List.set_cons_succ List.mem_cons List.not_mem_nil List.length_set
attribute [go_sem] Bool.cond_true_left Bool.cond_false_right Bool.cond_false_left Bool.cond_true_right beq_self_eq_true decide_true decide_false decide_eq_true_eq not_false_eq_true and_self or_false false_or and_true true_and or_true true_or and_false false_and Nat.zero_add Nat.add_zero Bool.not_eq_true' Bool.false_eq_true not_true_eq_false
attribute [go_sem] Int.ofNat_lt Int.ofNat_le Int.natCast_nonneg Int.toNat_natCast Option.pure_def Option.bind_eq_bind Option.bind_some
end Go.Vm
attribute [go_sem] Nat.reduceEqDiff Nat.reduceAdd reduceIte reduceCtorEq Nat.reduceLeDiff Nat.reduceLT
attribute [go_sem] Nat.succ_ne_zero
end
