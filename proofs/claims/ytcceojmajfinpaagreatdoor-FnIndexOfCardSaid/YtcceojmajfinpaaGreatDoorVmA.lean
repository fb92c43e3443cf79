/-
  The abstract machine, its values and memory, and how they stand to the model's
-/
import GoSem.Core.Layout
import Derived.Calls
import Derived.Below
import Derived.Laws.Cells
import Derived.Laws.World
import Derived.Laws.Sem
import Derived.Lib.LaidTab
import Derived.Lib.ItoaNum
import GoSem.Dispatch
import GoSem.Core.Region
import Derived.Laws.Entries
import Derived.ChangeKeysEq
import Derived.Laws.Strings
import Derived.Laws.StructEq
import Derived.Laws.BytesString
import Derived.Laws.Tables
import Derived.Laws.MakeOwn
import Derived.Great.BuildSlice
section
set_option linter.unusedVariables false
set_option linter.unusedSimpArgs false
set_option linter.unusedSectionVars false
namespace Go.Vm
abbrev cX := @Result.andThen_ok
abbrev cY := @List.all_eq_true
abbrev cZ := @Nat.mul_le_mul_right
abbrev dA := @List.eq_nil_of_length_eq_zero
abbrev dB := @List.getElem?_take
abbrev dC := @List.mem_cons_self
abbrev dD := @Option.getD_some
abbrev dE := @Sem.run_bind
abbrev dF := @Nat.zero_add
abbrev dG := @Nat.zero_le
abbrev dH := @List.nil_append
abbrev dI := @List.drop_zero
abbrev dJ := @List.map_nil
abbrev dK := @List.length_set
abbrev dL := @Nat.add_mul
abbrev dM := @Option.some.injEq
abbrev dN := @List.length_map
abbrev dO := @Nat.le_refl
abbrev dP := @List.take_of_length_le
abbrev dQ := @Bool.and_eq_true
abbrev dR := @List.forall_mem_cons
abbrev dS := @List.getElem?_eq_getElem
abbrev dU := @List.getElem?_eq_some_iff
abbrev dV := @Prod.mk.injEq
abbrev dW := @List.mem_append
abbrev dX := @List.mem_singleton
abbrev dY := @List.mem_of_getElem?
abbrev dZ := @List.getElem?_append_left
abbrev eA := @List.getElem?_append_right
abbrev eB := @List.mem_cons_of_mem
abbrev eC := @Array.getElem?_eq_some_iff
abbrev eD := @beq_eq_false_iff_ne
abbrev eE := @List.length_append
abbrev eF := @List.length_cons
abbrev eG := @List.length_nil
abbrev eH := @Bool.false_eq_true
abbrev eI := @Nat.le_trans
abbrev eJ := @decide_eq_true_eq
abbrev eK := @List.mem_cons
abbrev eL := @Nat.lt_irrefl
abbrev eM := @Option.some.inj
abbrev eN := @List.getElem?_map
abbrev eO := @List.map_append
abbrev eP := @Int.natCast_nonneg
abbrev eQ := @Int.toNat_natCast
abbrev eR := @Array.getElem?_eq_getElem
abbrev eS := @List.mem_of_mem_drop
abbrev eU := @List.getElem?_of_mem
abbrev eV := @List.getElem_mem
abbrev eW := @Option.isSome_iff_exists
abbrev eX := @List.getElem?_drop
abbrev eY := @List.getElem?_eq_none
abbrev eZ := @Bool.true_and
abbrev fA := @List.pairwise_cons
abbrev fB := @List.mem_or_eq_of_mem_set
abbrev fC := @List.mem_of_mem_take
abbrev fD := @List.append_nil
abbrev fE := @List.length_eq_zero_iff
abbrev fF := @List.getElem?_cons_succ
abbrev fG := @Option.map_some
abbrev fH := @Bool.or_eq_false_iff
abbrev fI := @Option.isSome_some
abbrev fJ := @Option.isNone_none
abbrev fK := @Nat.lt_of_lt_of_le
abbrev fL := @Nat.sub_zero
abbrev fM := @Nat.add_zero
abbrev fN := @Bool.or_eq_true
abbrev fO := @List.map_cons
abbrev fP := @List.mem_nil_iff
abbrev fQ := @Option.isSome_none
abbrev fR := @Bool.not_false
abbrev fS := @Bool.true_eq_false
abbrev fT := @List.getElem?_cons_zero
abbrev fU := @List.not_mem_nil
abbrev fV := @List.getD_eq_getElem?_getD
abbrev fW := @Option.map_eq_some_iff
abbrev fX := @Array.getElem?_append_left
abbrev fY := @List.getElem?_range
abbrev fZ := @Option.isNone_iff_eq_none
abbrev gA := @List.mem_append_right
abbrev gB := @List.length_drop
abbrev gC := @List.filter_cons
abbrev gD := @Option.bind_some
abbrev gE := @Nat.add_assoc
abbrev gF := @Bool.false_and
abbrev gG := @List.getElem?_replicate
abbrev gH := @List.drop_eq_nil_of_le
abbrev gI := @List.getElem?_set_self
abbrev gJ := @Nat.mul_comm
abbrev gK := @Array.getD_eq_getD_getElem?
abbrev gL := @List.mapM_cons
abbrev gM := @List.getElem?_toArray
abbrev gN := @List.map_set
abbrev gO := @List.append_assoc
abbrev gP := @Sem.run_pure
abbrev gQ := @List.map_take
abbrev gR := @Array.getElem?_setIfInBounds_ne
abbrev gS := @List.length_take
abbrev gT := @List.cons_append
abbrev gU := @Int.le_refl
abbrev gV := @Nat.zero_mul
abbrev gW := @List.filter_eq_nil_iff
abbrev gX := @List.head?_cons
abbrev gY := @Bool.and_true
abbrev gZ := @List.all_cons
abbrev hJ := @Array.getElem?_toList
abbrev hO := @Bool.not_eq_true'
abbrev hU := @Bool.and_false
abbrev hZ := @List.take_zero
inductive A where
 | bad
 | err
 | und
 | v (x : Value)
 | lit (ty : Nat) (rows : List (List A))
 | olit (ty : Nat) (rows : List (List A))
 | ref (ty b off len cap : Nat) (ex : Bool)
 | ptr (b i j : Nat)
 | pl (row : List A) (j : Nat)
 | fn (f : Nat) (caps : List A)
 | agg (cs : List A)
 | tup (vs : List A)
 | ifg (g : Bool) (a : A)
 deriving Inhabited
abbrev A.n (n : Int) : A := .v (.int .i64 n)
abbrev A.q (b : Bool) : A := .v (.bool b)
abbrev A.s (s : ByteArray) : A := .v (.string s)
structure Blk where
 ty : Nat
 rows : List (List A)
 own : Bool
 box : Bool
 deriving Inhabited
abbrev Hp := Nat -> Option Blk
def upd {V : Type} (f : Nat -> V) (k : Nat) (x : V) : Nat -> V := fun i => if i = k then x else f i
theorem Z7 {V : Type} (f : Nat -> V) (k : Nat) (x : V) (i : Nat) : upd f k x i = if i = k then x else f i := rfl
structure St where
 s : Nat -> A
 h : Hp
 n : Nat
 base : Nat
 deriving Inhabited
inductive Opd where
 | t (n : Nat)
 | k (a : A)
 deriving Inhabited
def ev (U : St) : Opd -> A
 | .t n => U.s n
 | .k a => a
inductive AOp where
 | mv (d : Nat) (x : Opd)
 | mvn (d nm ty : Nat)
 | pick (d : Nat) (c a b : Opd)
 | al (d nm ty : Nat) (zs : List A)
 | box (d nm ty n : Nat) (x : Opd)
 | bld (d nm : Nat) (zs : List A) (ps : List (Nat × Nat × Opd))
 | bsl (d nm ty n : Nat) (xs : List Opd)
 | ld (d n : Nat) (g : Bool) (p : Opd)
 | st (n : Nat) (p x : Opd)
 | stn (nm ty : Nat) (p : Opd)
 | nl (d : Option Nat) (x : Opd)
 | bin (d : Nat) (op : BinOp) (x y : Opd)
 | eqs (d : Nat) (ks : List Nat) (neg : Bool) (x y : Opd)
 | beq (d : Nat) (neg : Bool) (x y : Opd)
 | un (d : Nat) (op : UnOp) (x : Opd)
 | cv (d : Nat) (k : IntKind) (x : Opd)
 | cbs (d e : Nat) (x : Opd)
 | mkf (d f : Nat) (caps : List Opd)
 | mks (d nm ty : Nat) (zs : List A) (len cap : Opd)
 | sl (d : Nat) (e : Option Nat) (x : Opd) (lo hi mx : Option Opd)
 | fa (d : Nat) (x : Opd) (off : Nat)
 | fld (d : Nat) (x : Opd) (off n : Nat) (g : Bool)
 | ia (d e : Nat) (x i : Opd)
 | ix (d : Nat) (x i : Opd)
 | ex (d : Nat) (x : Opd) (i : Nat)
 | call (d : Option Nat) (nm w f : Nat) (xs : List Opd)
 | callv (d : Option Nat) (nm w : Nat) (f : Opd) (xs : List Opd)
 | dcall (d : Option Nat) (f : Nat) (xs : List Opd)
 | dcf (d : Option Nat) (f : Nat) (xs : List Opd)
 | dcallv (d : Option Nat) (f : Opd) (xs : List Opd)
 | len (d : Nat) (str : Bool) (x : Opd)
 | app (d nm e : Nat) (s x : Opd)
 | clr (e : Nat) (zs : List A) (x : Opd)
 | mnx (d : Nat) (mx : Bool) (x y : Opd)
 | mkb (d nm ty : Nat) (zs : List A) (len cap : Opd)
 | bsb (d nm ty n : Nat) (xs : List Opd)
 | apb (d nm e : Nat) (s x : Opd)
 | callx (d : Option Nat) (nm w f : Nat) (xs : List Opd)
 | dcs (d : Option Nat) (f : Nat) (xs : List Opd)
 | bll (d ty n : Nat) (xs : List Opd)
 | no (why : String)
 deriving Inhabited
inductive G where
 | o (op : AOp)
 | g (slot : Nat) (want : Bool) (op : AOp)
 deriving Inhabited
inductive ACode where
 | sk
 | rgs (tot : Nat) (sep : List (Opd × Opd)) (ops : List G)
 | rg (tot : Nat) (dr : Bool) (ops : List G)
 | rgk (tot : Nat) (sep : List (Opd × Opd)) (keep : List Nat) (ops : List G)
 | sq (a b : ACode)
 | ite (c : Opd) (a b : ACode)
 | bl (id : Nat) (c : ACode)
 | lp (L : List Nat) (c : ACode)
 | xt (id : Nat)
 | rt
 | no (why : String)
 deriving Inhabited
inductive RVar where
 | t (n : Nat)
 | cell (a n : Nat) (g : Bool)
 deriving Inhabited
structure AFn where
 np : Nat
 res : List RVar
 code : ACode
 deriving Inhabited
def A.cells : A -> List A
 | .agg cs => cs
 | a => [a]
def bnd {V J : Type} (o : Option V) (k : V -> Option J) : Option J :=
 match o with
 | some a => k a
 | none => none
def seg (row : List A) (j n : Nat) : List A := (row.drop j).take n
def val (g : Bool) (cs : List A) : Option A :=
 match g, cs with
 | true, cs => some (.agg cs)
 | false, [a] => some a
 | false, _ => none
def Zqz (op : BinOp) (k : IntKind) (a b : Int) : Option Value :=
 match op with
 | .add => some (.int k (k.wrap (a + b)))
 | .sub => some (.int k (k.wrap (a - b)))
 | .mul => some (.int k (k.wrap (a * b)))
 | .quo => if b = 0 then none else some (.int k (k.wrap (a.tdiv b)))
 | .rem => if b = 0 then none else some (.int k (a.tmod b))
 | .xor => some (.int k (k.wrap (BitVec.ofInt k.bits a ^^^ BitVec.ofInt k.bits b).toNat))
 | .eql => some (.bool (decide (a = b)))
 | .neq => some (.bool (!decide (a = b)))
 | .lss => some (.bool (a < b))
 | .leq => some (.bool (a <= b))
 | .gtr => some (.bool (a > b))
 | .geq => some (.bool (a >= b))
 | _ => none
def W6 : List UInt8 -> List UInt8 -> Bool
 | _, [] => false
 | [], _ :: _ => true
 | a :: x, b :: y => a < b || (a == b && W6 x y)
def Yb4 (op : BinOp) (x y : ByteArray) : Option Value :=
 match op with
 | .add => if x.size + y.size <= 2 ^ 62 then some (.string (x ++ y)) else none
 | .eql => some (.bool (decide (x = y)))
 | .neq => some (.bool (!decide (x = y)))
 | .lss => some (.bool (W6 x.toList y.toList))
 | _ => none
def Zng (op : BinOp) (x y : Value) : Option Value :=
 match x, y with
 | .int k a, .int k' b => if k = k' then Zqz op k a b else none
 | .string a, .string b => Yb4 op a b
 | _, _ => none
def Z0m : Nat -> A -> A -> Option Bool
 | 0, .v (.int k a), .v (.int k' b) => if k = k' then some (decide (a = b)) else none
 | 1, .v (.string a), .v (.string b) => some (decide (a = b))
 | 2, .v (.bool a), .v (.bool b) => some (decide (a = b))
 | _, _, _ => none
def X2 : List Nat -> List A -> List A -> Option Bool
 | [], [], [] => some true
 | k :: ks, x :: xs, y :: ys => bnd (Z0m k x y) fun p => bnd (X2 ks xs ys) fun q => some (p && q)
 | _, _, _ => none
def unV (op : UnOp) (x : Value) : Option Value :=
 match op, x with
 | .not, .bool b => some (.bool !b)
 | .neg, .int k n => some (.int k (k.wrap (0 - n)))
 | _, _ => none
def Wz (h : Hp) : A -> Option A
 | .v x => some (.v x)
 | .lit ty r => some (.lit ty r)
 | .ref ty b off len _ _ => bnd (h b) fun k => if k.box = false /\ off + len <= k.rows.length then some (.lit k.ty ((k.rows.drop off).take len)) else none
 | _ => none
def Z0q (h : Hp) : List A -> Option (List A)
 | [] => some []
 | a :: as => bnd (Wz h a) fun x => bnd (Z0q h as) fun xs => some (x :: xs)
def Z9e (h : Hp) : A -> Option A
 | .pl r j => some (.pl r j)
 | .ptr b i j => bnd (h b) fun k => bnd k.rows[i]? fun row => bnd (Z0q h row) fun r => some (.pl r j)
 | _ => none
def Z6t (h : Hp) : List A -> Option (List A)
 | [] => some []
 | a :: as => bnd (Z9e h a) fun x => bnd (Z6t h as) fun xs => some (x :: xs)
def Zbe (h : Hp) : A -> Option A
 | .agg cs => bnd (Z0q h cs) fun xs => some (.agg xs)
 | .fn f caps => bnd (Z6t h caps) fun xs => some (.fn f xs)
 | .ptr b i j => Z9e h (.ptr b i j)
 | .pl r j => some (.pl r j)
 | a => Wz h a
def Z0t (h : Hp) : List A -> Option (List A)
 | [] => some []
 | a :: as => bnd (Zbe h a) fun x => bnd (Z0t h as) fun xs => some (x :: xs)
def Xk : A -> List Nat
 | .ref _ b _ _ _ _ => [b]
 | _ => []
def Zr : List A -> List Nat
 | [] => []
 | a :: as => Xk a ++ Zr as
def Z4e (h : Hp) : A -> List Nat
 | .ptr b i _ => match h b with
   | some k => b :: Zr (k.rows.getD i [])
   | none => []
 | _ => []
def Z0v (h : Hp) : List A -> List Nat
 | [] => []
 | a :: as => Z4e h a ++ Z0v h as
def Zbr (h : Hp) : A -> List Nat
 | .agg cs => Zr cs
 | .fn _ caps => Z0v h caps
 | .ptr b i j => Z4e h (.ptr b i j)
 | a => Xk a
def Xm (h : Hp) : List A -> List Nat
 | [] => []
 | a :: as => Zbr h a ++ Xm h as
def frz (h : Hp) : List Nat -> Hp
 | [] => h
 | b :: bs => match h b with
   | some k => frz (upd h b (some { k with own := false })) bs
   | none => frz h bs
def V8 : A -> Bool
 | .lit _ _ => true
 | _ => false
def Zam : List A -> Bool
 | [] => false
 | a :: as => V8 a || Zam as
def Y7t : A -> Bool
 | .v _ => false
 | _ => true
def Zp4 : List A -> Bool
 | [] => false
 | a :: as => Y7t a || Zp4 as
def Vl : List (List A) -> Bool
 | [] => false
 | r :: rs => Zp4 r || Vl rs
def Zrv : A -> Bool
 | .v _ => false
 | .olit _ rows => Vl rows
 | _ => true
def Zm4 : List A -> Bool
 | [] => false
 | a :: as => Zrv a || Zm4 as
def Z7j : List A -> Bool
 | [] => false
 | .agg cs :: as => Zm4 cs || Z7j as
 | a :: as => Zrv a || Z7j as
def Z6q (h : Hp) (seen : List Nat) : A -> Option (List Nat × A)
 | .v x => some (seen, .v x)
 | .lit ty r => some (seen, .lit ty r)
 | .ref ty b off len _ _ => bnd (h b) fun k => if b ∈ seen \/ k.box = true \/ k.rows.length < off + len then none else
  if k.own /\ off = 0 /\ len = k.rows.length then some (b :: seen, .olit k.ty k.rows)
  else some (b :: seen, .lit k.ty ((k.rows.drop off).take len))
 | _ => none
def Zew (h : Hp) (seen : List Nat) : List A -> Option (List Nat × List A)
 | [] => some (seen, [])
 | a :: as => bnd (Z6q h seen a) fun p => bnd (Zew h p.1 as) fun r => some (r.1, p.2 :: r.2)
def Y10 (h : Hp) (seen : List Nat) : A -> Option (List Nat × A)
 | .agg cs => bnd (Zew h seen cs) fun p => some (p.1, .agg p.2)
 | a => Z6q h seen a
def Za8 (h : Hp) (seen : List Nat) : List A -> Option (List A)
 | [] => some []
 | a :: as => bnd (Y10 h seen a) fun p => bnd (Za8 h p.1 as) fun xs => some (p.2 :: xs)
def Z89 : List A -> Nat
 | [] => 0
 | .olit _ _ :: as => Z89 as + 1
 | _ :: as => Z89 as
def Z83 : A -> Nat
 | .agg cs => Z89 cs
 | .olit _ _ => 1
 | _ => 0
def Yj : List A -> Nat
 | [] => 0
 | a :: as => Z83 a + Yj as
def Zz (h : Hp) (nm : Nat) : List A -> List A × Hp
 | [] => ([], h)
 | .olit ty rows :: as =>
   (.ref ty nm 0 rows.length rows.length false :: (Zz (upd h nm (some ⟨ty, rows, true, false⟩)) (nm + 1) as).1, (Zz (upd h nm (some ⟨ty, rows, true, false⟩)) (nm + 1) as).2)
 | a :: as => (a :: (Zz h nm as).1, (Zz h nm as).2)
def Z3a (h : Hp) (nm : Nat) : A -> A × Hp
 | .agg cs => (.agg (Zz h nm cs).1, (Zz h nm cs).2)
 | .olit ty rows => (.ref ty nm 0 rows.length rows.length false, upd h nm (some ⟨ty, rows, true, false⟩))
 | a => (a, h)
def Yh (h : Hp) (nm : Nat) : List A -> List A × Hp
 | [] => ([], h)
 | a :: as => ((Z3a h nm a).1 :: (Yh (Z3a h nm a).2 (nm + Z83 a) as).1, (Yh (Z3a h nm a).2 (nm + Z83 a) as).2)
def pack : List A -> A
 | [a] => a
 | as => .tup as
def put (s : Nat -> A) (d : Option Nat) (a : A) : Nat -> A :=
 match d with
 | some d => upd s d a
 | none => s
def rowsOf (e : Nat) (h : Hp) : A -> Option (List (List A))
 | .lit ty rows => if ty = e then some rows else none
 | .ref ty b off len _ _ => bnd (h b) fun k => if k.ty = e /\ k.box = false /\ off + len <= k.rows.length then some ((k.rows.drop off).take len) else none
 | _ => none
def Zbm (h : Hp) : A -> Option (List A × Nat)
 | .pl row j => some (row, j)
 | .ptr b i j => bnd (h b) fun k => bnd k.rows[i]? fun row => some (row, j)
 | _ => none
def big : Nat := 2 ^ 36
def Z3e (row : List A) (j : Nat) (cs : List A) : List A := row.take j ++ cs ++ row.drop (j + cs.length)
def Y55 (base : Nat) : A -> Bool
 | .ref _ b _ _ _ _ => decide (base <= b)
 | .ptr b _ _ => decide (base <= b)
 | .v _ => false
 | .lit _ _ => false
 | _ => true
def Zem (base : Nat) : List A -> Bool
 | [] => false
 | a :: as => Y55 base a || Zem base as
def Z1c : A -> Bool
 | .v _ => true
 | .lit _ _ => true
 | .ref _ _ _ _ _ _ => true
 | .ptr _ _ _ => true
 | .pl _ _ => true
 | .fn _ _ => true
 | _ => false
def Zi : List A -> Bool
 | [] => true
 | a :: as => Z1c a && Zi as
def Zmy : A -> Bool
 | .ptr _ _ _ => true
 | .pl _ _ => true
 | _ => false
def Wg : List A -> Bool
 | [] => true
 | a :: as => Zmy a && Wg as
def Z7t (base : Nat) (h : Hp) (b i j n : Nat) (x : A) (k : Blk) (row : List A) : Option Hp :=
 if k.own /\ x.cells.length = n /\ j + n <= row.length /\ Zi x.cells /\ b ∉ Zr x.cells then
  if k.box then if b < base /\ Zem 0 x.cells then none else some (upd h b (some { k with rows := k.rows.set i (Z3e row j x.cells) }))
  else bnd (Z0q h x.cells) fun cs => some (frz (upd h b (some { k with rows := k.rows.set i (Z3e row j cs) })) (Zr x.cells))
 else none
def storeAt (base : Nat) (h : Hp) (p : A) (n : Nat) (x : A) : Option Hp :=
 match p with
 | .ptr b i j => bnd (h b) fun k => bnd k.rows[i]? fun row => Z7t base h b i j n x k row
 | _ => none
def Zy (h : Hp) (nm : Nat) : List A -> List A × Hp
 | [] => ([], h)
 | .lit ty _ :: as => (.ref ty nm 0 0 0 false :: (Zy (upd h nm (some ⟨ty, [], true, false⟩)) (nm + 1) as).1, (Zy (upd h nm (some ⟨ty, [], true, false⟩)) (nm + 1) as).2)
 | a :: as => (a :: (Zy h nm as).1, (Zy h nm as).2)
def Zd8 (U : St) (cs : List A) : List (Nat × Nat × Opd) -> Option (List A)
 | [] => some cs
 | (off, n, x) :: ps => if (ev U x).cells.length = n /\ off + n <= cs.length /\ Zi (ev U x).cells then Zd8 U (Z3e cs off (ev U x).cells) ps else none
def Z6b : List (List A) -> Option (List UInt8)
 | [] => some []
 | [.v (.int .u8 n)] :: r => match Z6b r with
   | some l => some (UInt8.ofNat n.toNat :: l)
   | none => none
 | _ => none
def Yas : A -> Option Nat
 | .v (.int _ i) => if 0 <= i then some i.toNat else none
 | _ => none
def Zle (U : St) (x : Option Opd) (z : Nat) : Option Nat :=
 match x with
 | none => some z
 | some x => Yas (ev U x)
def imp (a b : Bool) : Bool := !a || b
def opA (g : Bool) : A -> Option A
 | .ifg g' a => if imp g g' then some a else none
 | a => some a
def evp (g : Bool) (U : St) (x : Opd) : Option A := opA g (ev U x)
def opQ (g : Bool) : A -> Option Bool
 | .ifg g' (.v (.bool x)) => if imp g g' then some x else none
 | .v (.bool x) => some x
 | _ => if g then none else some false
def evq (g : Bool) (U : St) (x : Opd) : Option Bool := opQ g (ev U x)
def Z5k (U : St) (n : Nat) : List Opd -> Option (List (List A))
 | [] => some []
 | x :: xs => if (ev U x).cells.length = n then bnd (Z0q U.h (ev U x).cells) fun r => bnd (Z5k U n xs) fun rs => some (r :: rs) else none
def Xw (U : St) : List Opd -> List Nat
 | [] => []
 | x :: xs => Zr (ev U x).cells ++ Xw U xs
structure Env where
 call : Nat -> List A -> Option (List A)
 dc : Nat -> List A -> Hp -> Nat -> Option (List A × Hp × Nat)
 df : Nat -> List A -> Hp -> Nat -> Option (List A × Hp × Nat)
def aft (h : Hp) (as rs : List A) : Hp := if Z7j rs then frz h (Xm h as) else h
def Z3y (E : Env) (U : St) (d : Option Nat) (nm w f : Nat) (as : List A) : Option St :=
 bnd (Z0t U.h as) fun xs => bnd (E.call f xs) fun rs =>
  if w < Yj rs then none else some { U with s := put U.s d (pack (Yh (aft U.h as rs) (U.n + nm) rs).1), h := (Yh (aft U.h as rs) (U.n + nm) rs).2 }
def Znh (E : Env) (tot : Nat) (U : St) (d : Option Nat) (f : Nat) (as : List A) : Option St :=
 bnd (E.dc f as U.h (U.n + tot)) fun r => some { U with s := put U.s d (pack r.1), h := r.2.1, n := r.2.2 }
def Yk : A -> List Nat
 | .ref _ b _ _ _ _ => [b]
 | .ptr b _ _ => [b]
 | _ => []
def Z78 : List A -> List Nat
 | [] => []
 | a :: as => Yk a ++ Z78 as
def Yb : A -> List Nat
 | .fn _ caps => Z78 caps
 | .agg cs => Z78 cs
 | a => Yk a
def Zg : List A -> List Nat
 | [] => []
 | a :: as => Yb a ++ Zg as
def Zn : List (List A) -> List Nat
 | [] => []
 | r :: rs => Zg r ++ Zn rs
def Shr (base : Nat) (h h' : Hp) : Prop := ∀ b, b < base -> ∀ k', h' b = some k' -> k'.box = true -> ∃ k, h b = some k /\ k.box = true /\ ∀ b' ∈ Zn k'.rows, b' ∈ Zn k.rows
open Classical in
noncomputable def Zfh (E : Env) (tot : Nat) (U : St) (d : Option Nat) (f : Nat) (as : List A) : Option St :=
 bnd (E.df f as U.h (U.n + tot)) fun r => if Shr U.base U.h r.2.1 then some { U with s := put U.s d (pack r.1), h := r.2.1, n := r.2.2 } else none
def plain : List A -> Bool
 | [] => true
 | .v _ :: as => plain as
 | _ => false
def Z8t (op : BinOp) : A -> A -> Option A
 | .v x, .v y => bnd (Zng op x y) fun z => some (.v z)
 | _, _ => none
def Y4d (ks : List Nat) (neg : Bool) : A -> A -> Option A
 | .agg xs, .agg ys => bnd (X2 ks xs ys) fun q => some (.v (.bool (bif neg then !q else q)))
 | _, _ => none
def Y3b (neg : Bool) : A -> A -> Option A
 | .v (.bool p), .v (.bool q) => some (.v (.bool (bif neg then !decide (p = q) else decide (p = q))))
 | _, _ => none
def unA (op : UnOp) : A -> Option A
 | .v x => bnd (unV op x) fun z => some (.v z)
 | _ => none
def cvA (k : IntKind) : A -> Option A
 | .v (.int _ n) => some (.v (.int k (k.wrap n)))
 | _ => none
def Y6e (n : Nat) (g : Bool) (r : List A × Nat) : Option A := if r.2 + n <= r.1.length then val g (seg r.1 r.2 n) else none
def faA (off : Nat) : A -> Option A
 | .ptr b i j => some (.ptr b i (j + off))
 | .pl r j => some (.pl r (j + off))
 | _ => none
def Y6f (off n : Nat) (g : Bool) : A -> Option A
 | .agg cs => if off + n <= cs.length then val g (seg cs off n) else none
 | _ => none
def iaA (e : Nat) : A -> A -> Option A
 | .ref ty b off len _ _, .v (.int _ i) => if ty = e /\ 0 <= i /\ i < len then some (.ptr b (off + i.toNat) 0) else none
 | .lit ty rows, .v (.int _ i) => if ty = e /\ 0 <= i then bnd rows[i.toNat]? fun row => some (.pl row 0) else none
 | _, _ => none
def ixA : A -> A -> Option A
 | .v (.string s), .v (.int _ i) => if 0 <= i then bnd s.data.toList[i.toNat]? fun c => some (.v (.int .u8 c.toNat)) else none
 | _, _ => none
def exA (i : Nat) : A -> Option A
 | .tup vs => vs[i]?
 | _ => none
def Zt6 (str : Bool) : A -> Option A
 | .v (.string s) => bif str then some (.v (.int .i64 s.size)) else none
 | .lit _ rows => bif str then none else some (.v (.int .i64 rows.length))
 | .ref _ _ _ len _ _ => bif str then none else some (.v (.int .i64 len))
 | _ => none
def Zzo (mx : Bool) : A -> A -> Option A
 | .v (.int k a), .v (.int k' b) => if k = k' then some (.v (.int k (bif mx then max a b else min a b))) else none
 | _, _ => none
def isQ : A -> Option Bool
 | .v (.bool q) => some q
 | _ => none
def nlA : A -> Option A
 | .ptr b i j => some (.ptr b i j)
 | .pl r j => some (.pl r j)
 | .fn f caps => some (.fn f caps)
 | _ => none
def Zh8 (rs : List A) : Option A := if plain rs then some (pack rs) else none
def Ya (E : Env) (h : Hp) (get : Opd -> Option A) (pk : Bool -> Opd -> Option Bool) (op : AOp) : Option A :=
 match op with
 | .mv _ x => get x
 | .pick _ c a b => bnd (bnd (get c) isQ) fun q => bnd (pk q a) fun x => bnd (pk (!q) b) fun y => some (.v (.bool (bif q then x else y)))
 | .ld _ n g p => bnd (bnd (get p) (Zbm h)) (Y6e n g)
 | .bin _ op x y => bnd (get x) fun a => bnd (get y) (Z8t op a)
 | .eqs _ ks neg x y => bnd (get x) fun a => bnd (get y) (Y4d ks neg a)
 | .beq _ neg x y => bnd (get x) fun a => bnd (get y) (Y3b neg a)
 | .un _ op x => bnd (get x) (unA op)
 | .cv _ k x => bnd (get x) (cvA k)
 | .cbs _ e x => bnd (bnd (bnd (get x) (rowsOf e h)) Z6b) fun l => some (.v (.string ⟨l.toArray⟩))
 | .fa _ x off => bnd (get x) (faA off)
 | .fld _ x off n g => bnd (get x) (Y6f off n g)
 | .ia _ e x i => bnd (get x) fun a => bnd (get i) (iaA e a)
 | .ix _ x i => bnd (get x) fun a => bnd (get i) (ixA a)
 | .ex _ x i => bnd (get x) (exA i)
 | .len _ str x => bnd (get x) (Zt6 str)
 | .mnx _ mx x y => bnd (get x) fun a => bnd (get y) (Zzo mx a)
 | .nl _ x => bnd (get x) nlA
 | .bld _ _ zs [] => if Zam zs then none else some (.agg zs)
 | .call _ _ _ f xs => bnd (bnd (bnd (xs.mapM get) (Z0t h)) (E.call f)) Zh8
 | _ => none
def AOp.yields : AOp -> Option (Option Nat)
 | .mv d _ | .pick d _ _ _ | .ld d _ _ _ | .bin d _ _ _ | .eqs d _ _ _ _ | .beq d _ _ _ | .un d _ _ | .cv d _ _ | .cbs d _ _ | .fa d _ _ | .fld d _ _ _ _ | .ia d _ _ _ | .ix d _ _ | .ex d _ _ | .len d _ _ | .mnx d _ _ _ => some (some d)
 | .nl d _ => some d
 | _ => none
def Z8c (U : St) (e : Option Nat) (lo hi mx : Option Opd) : A -> Option A
 | .v (.string s) => bnd (Zle U lo 0) fun l => bnd (Zle U hi s.size) fun h => if e = none /\ mx.isNone /\ l <= h /\ h <= s.size then some (.v (.string (s.extract l h))) else none
 | .lit ty rows => bnd (Zle U lo 0) fun l => bnd (Zle U hi rows.length) fun h => bnd (Zle U mx rows.length) fun m =>
  if e = some ty /\ l <= h /\ h <= m /\ m <= rows.length then some (.lit ty ((rows.take h).drop l)) else none
 | .ref ty b off len cap ex => bnd (Zle U lo 0) fun l => bnd (Zle U hi len) fun h => bnd (Zle U mx cap) fun m =>
  if e = some ty /\ l <= h /\ h <= m /\ m <= cap then some (.ref ty b (off + l) (h - l) (m - l) (ex || mx.isSome)) else none
 | _ => none
def Zr4 (U : St) (d nm e : Nat) (ys : List (List A)) : A -> Option St
 | .ref ty b 0 len cap ex => bnd (U.h b) fun k =>
  if k.own /\ k.box = false /\ k.ty = e /\ ty = e /\ len <= k.rows.length /\ len + ys.length <= big then
   if cap = len then
    some { U with s := upd U.s d (.ref ty (U.n + nm) 0 (len + ys.length) (len + ys.length) false), h := upd (upd U.h b none) (U.n + nm) (some { k with rows := k.rows.take len ++ ys }) }
   else if len + ys.length <= cap then
    some { U with s := upd U.s d (.ref ty b 0 (len + ys.length) cap ex), h := upd U.h b (some { k with rows := k.rows.take len ++ ys ++ k.rows.drop (len + ys.length) }) }
   else none
  else none
 | _ => none
def Zae (bx : Bool) (e : Nat) (h : Hp) : A -> Option (List (List A))
 | .lit ty rows => if ty = e then some rows else none
 | .ref ty b off len _ _ => bnd (h b) fun k => if k.ty = e /\ imp k.box bx = true /\ off + len <= k.rows.length then some ((k.rows.drop off).take len) else none
 | _ => none
def Zoy (bx : Bool) (U : St) (d nm e : Nat) (ys : List (List A)) : A -> Option St
 | .ref ty b 0 len cap ex => bnd (U.h b) fun k =>
  if k.own /\ imp k.box bx = true /\ k.ty = e /\ ty = e /\ len <= k.rows.length /\ len + ys.length <= big then
   if cap = len then
    some { U with s := upd U.s d (.ref ty (U.n + nm) 0 (len + ys.length) (len + ys.length) false), h := upd (upd U.h b none) (U.n + nm) (some { k with rows := k.rows.take len ++ ys, box := if ys.length = 0 then k.box else bx }) }
   else if len + ys.length <= cap /\ bx = false then
    some { U with s := upd U.s d (.ref ty b 0 (len + ys.length) cap ex), h := upd U.h b (some { k with rows := k.rows.take len ++ ys ++ k.rows.drop (len + ys.length), box := bx }) }
   else none
  else none
 | _ => none
def Z5c (f : A -> Option (A × List Nat)) : List A -> Option (List A × List Nat)
 | [] => some ([], [])
 | a :: as => bnd (f a) fun p => bnd (Z5c f as) fun q => some (p.1 :: q.1, p.2 ++ q.2)
def Vr (f : A -> Option (A × List Nat)) : List (List A) -> Option (List (List A) × List Nat)
 | [] => some ([], [])
 | r :: rs => bnd (Z5c f r) fun p => bnd (Vr f rs) fun q => some (p.1 :: q.1, p.2 ++ q.2)
def clD (h : Hp) : Nat -> A -> Option (A × List Nat)
 | _, .v x => some (.v x, [])
 | _, .lit ty r => some (.lit ty r, [])
 | m + 1, .ref _ b off len _ _ => bnd (h b) fun k => if off + len <= k.rows.length then
  bif k.box then bnd (Vr (clD h m) ((k.rows.drop off).take len)) fun p => some (.lit k.ty p.1, b :: p.2)
  else some (.lit k.ty ((k.rows.drop off).take len), [b]) else none
 | _, _ => none
def Zxp (h : Hp) : A -> Option (A × List Nat)
 | .agg cs => bnd (Z5c (clD h 4) cs) fun p => some (.agg p.1, p.2)
 | a => clD h 4 a
def Zfx (h : Hp) (as : List A) : Option (List A × List Nat) := Z5c (Zxp h) as
def Y3a (U : St) (e : Nat) (zs : List A) : A -> Option St
 | .ref ty b off len _ _ => bnd (U.h b) fun k =>
  if k.own /\ k.box = false /\ k.ty = e /\ off + len <= k.rows.length then
   some { U with h := upd U.h b (some { k with rows := k.rows.take off ++ List.replicate len zs ++ k.rows.drop (off + len) }) }
  else none
 | _ => none
def Y30 (U : St) (d nm ty : Nat) (zs : List A) : A -> A -> Option St
 | .v (.int _ l), .v (.int _ c) => if 0 <= l /\ c = l /\ l.toNat <= big then
       some { U with s := upd U.s d (.ref ty (U.n + nm) 0 l.toNat l.toNat true), h := upd U.h (U.n + nm) (some ⟨ty, List.replicate l.toNat zs, true, false⟩) }
  else none
 | _, _ => none
def evs (U : St) : List Opd -> List A
 | [] => []
 | x :: xs => ev U x :: evs U xs
def fnA : A -> Option (Nat × List A)
 | .fn f caps => bif Wg caps then some (f, caps) else none
 | _ => none
def Z5d (E : Env) (U : St) (d : Option Nat) (nm w f : Nat) (as : List A) : Option St :=
 bnd (Zfx U.h as) fun p => bnd (E.call f p.1) fun rs =>
  if w < Yj rs \/ Z7j rs = true then none else some { U with s := put U.s d (pack (Yh U.h (U.n + nm) rs).1), h := (Yh U.h (U.n + nm) rs).2 }
def Zo4 (E : Env) (tot : Nat) (U : St) (d : Option Nat) (f : Nat) (as : List A) : Option St :=
 bnd (E.dc f as U.h (U.n + tot)) fun r => bnd (Zfx r.2.1 r.1) fun p => some { U with s := put U.s d (pack p.1), h := frz r.2.1 p.2, n := r.2.2 }
def Y33 (U : St) (d nm ty : Nat) (zs : List A) : A -> A -> Option St
 | .v (.int _ l), .v (.int _ c) => if 0 <= l /\ c = l /\ l.toNat <= big then
       some { U with s := upd U.s d (.ref ty (U.n + nm) 0 l.toNat l.toNat true), h := upd U.h (U.n + nm) (some ⟨ty, List.replicate l.toNat zs, true, true⟩) }
  else none
 | _, _ => none
def isV : A -> Bool
 | .v _ => true
 | _ => false
def Z6r (U : St) (n : Nat) : List Opd -> Option (List (List A))
 | [] => some []
 | x :: xs => if (ev U x).cells.length = n /\ (ev U x).cells.all isV = true then bnd (Z6r U n xs) fun rs => some ((ev U x).cells :: rs) else none
def Z5o (U : St) (n : Nat) : List Opd -> Option (List (List A))
 | [] => some []
 | x :: xs => if (ev U x).cells.length = n /\ Zi (ev U x).cells = true then bnd (Z5o U n xs) fun rs => some ((ev U x).cells :: rs) else none
noncomputable def step (E : Env) (tot : Nat) (op : AOp) (U : St) : Option St :=
 match op with
 | .mvn d nm ty => some { U with s := upd U.s d (.ref ty (U.n + nm) 0 0 0 false), h := upd U.h (U.n + nm) (some ⟨ty, [], true, false⟩) }
 | .al d nm ty zs =>
   some { U with s := upd U.s d (.ptr (U.n + nm) 0 0), h := upd (Zy U.h (U.n + nm + 1) zs).2 (U.n + nm) (some ⟨ty, [(Zy U.h (U.n + nm + 1) zs).1], true, true⟩) }
 | .box d nm ty n x => if (ev U x).cells.length = n /\ Zi (ev U x).cells then some { U with s := upd U.s d (.ptr (U.n + nm) 0 0), h := upd U.h (U.n + nm) (some ⟨ty, [(ev U x).cells], true, true⟩) } else none
 | .bld d nm zs ps => bnd (Zd8 U (Zy U.h (U.n + nm) zs).1 ps) fun cs => some { U with s := upd U.s d (.agg cs), h := (Zy U.h (U.n + nm) zs).2 }
 | .bsl d nm ty n xs => bnd (Z5k U n xs) fun rows =>
  some { U with s := upd U.s d (.ref ty (U.n + nm) 0 rows.length rows.length true), h := frz (upd U.h (U.n + nm) (some ⟨ty, rows, true, false⟩)) (Xw U xs) }
 | .st n p x => bnd (storeAt U.base U.h (ev U p) n (ev U x)) fun h => some { U with h := h }
 | .stn nm ty p => bnd (storeAt U.base (upd U.h (U.n + nm) (some ⟨ty, [], true, false⟩)) (ev U p) 1 (.ref ty (U.n + nm) 0 0 0 false)) fun h => some { U with h := h }
 | .mkf d f caps => if Wg (evs U caps) = true then some { U with s := upd U.s d (.fn f (evs U caps)) } else none
 | .mks d nm ty zs len cap => Y30 U d nm ty zs (ev U len) (ev U cap)
 | .sl d e x lo hi mx => bnd (Z8c U e lo hi mx (ev U x)) fun a => some { U with s := upd U.s d a }
 | .call d nm w f xs => Z3y E U d nm w f (evs U xs)
 | .callv d nm w f xs => bnd (fnA (ev U f)) fun p => Z3y E U d nm w p.1 (evs U xs ++ p.2)
 | .dcall d f xs => Znh E tot U d f (evs U xs)
 | .dcf d f xs => Zfh E tot U d f (evs U xs)
 | .dcallv d f xs => bnd (fnA (ev U f)) fun p => Znh E tot U d p.1 (evs U xs ++ p.2)
 | .app d nm e s x => bnd (rowsOf e U.h (ev U x)) fun ys => Zr4 U d nm e ys (ev U s)
 | .clr e zs x => Y3a U e zs (ev U x)
 | .mkb d nm ty zs len cap => Y33 U d nm ty zs (ev U len) (ev U cap)
 | .bsb d nm ty n xs => bnd (Z5o U n xs) fun rows => some { U with s := upd U.s d (.ref ty (U.n + nm) 0 rows.length rows.length true), h := upd U.h (U.n + nm) (some ⟨ty, rows, true, true⟩) }
 | .apb d nm e s x => bnd (Zae true e U.h (ev U x)) fun ys => Zoy true U d nm e ys (ev U s)
 | .callx d nm w f xs => Z5d E U d nm w f (evs U xs)
 | .dcs d f xs => Zo4 E tot U d f (evs U xs)
 | .bll d ty n xs => bnd (Z6r U n xs) fun rows => some { U with s := upd U.s d (.lit ty rows) }
 | op => bnd op.yields fun d => bnd (Ya E U.h (fun x => some (ev U x)) (fun q x => evq q U x) op) fun a => some { U with s := put U.s d a }
def AOp.dst : AOp -> Option Nat
 | .mv d _ | .mvn d _ _ | .pick d _ _ _ | .al d _ _ _ | .box d _ _ _ _ | .bld d _ _ _ | .bsl d _ _ _ _ | .ld d _ _ _ | .bin d _ _ _ | .eqs d _ _ _ _ | .beq d _ _ _ | .un d _ _
 | .cv d _ _ | .cbs d _ _ | .mkf d _ _ | .mks d _ _ _ _ _ | .sl d _ _ _ _ _ | .fa d _ _ | .fld d _ _ _ _ | .ia d _ _ _ | .ix d _ _ | .ex d _ _ | .len d _ _ | .app d _ _ _ _ | .mnx d _ _ _ => some d
 | .mkb d _ _ _ _ _ | .bsb d _ _ _ _ | .apb d _ _ _ _ | .bll d _ _ _ => some d
 | .nl d _ | .call d _ _ _ _ | .callv d _ _ _ _ | .dcall d _ _ | .dcf d _ _ | .dcallv d _ _ | .callx d _ _ _ _ | .dcs d _ _ => d
 | .st _ _ _ | .stn _ _ _ | .clr _ _ _ | .no _ => none
def Vx (want : Bool) : A -> Option Bool
 | .v (.bool q) => some (bif want then q else !q)
 | .ifg g (.v (.bool q)) => some (g && (bif want then q else !q))
 | .ifg g _ => bif g then none else some false
 | .und => some false
 | _ => none
def Z4g (U : St) (slot : Nat) (want : Bool) : Option Bool := Vx want (U.s slot)
def Wi (t : Bool) (U : St) (d : Option Nat) (o : Option A) : Option St :=
 match o with
 | some a => some { U with s := put U.s d (.ifg t a) }
 | none => bif t then none else some { U with s := put U.s d .und }
def Xv (t : Bool) (U : St) (d : Option Nat) (o : Option A) (k : Option St) : Option St :=
 match o with
 | some a => some { U with s := put U.s d (.ifg t a) }
 | none => bif t then k else some { U with s := put U.s d .und }
def unT : A -> A
 | .ifg true a => a
 | a => a
def strip (U : St) : St := { U with s := fun i => unT (U.s i) }
def back (U : St) (d : Option Nat) (U' : St) : Option St :=
 some { U' with s := match d with
  | some d => upd U.s d (U'.s d)
  | none => U.s }
noncomputable def Yp (E : Env) (tot : Nat) (g : G) (U : St) : Option St :=
 match g with
 | .o op => step E tot op U
 | .g slot want op => bnd (Z4g U slot want) fun t =>
  match op.yields with
  | some d => Wi t U d (Ya E U.h (fun x => evp t U x) (fun q x => evq (t && q) U x) op)
  | none => Xv t U op.dst (Ya E U.h (fun x => evp t U x) (fun q x => evq (t && q) U x) op) (bnd (step E tot op (strip U)) (back U op.dst))
noncomputable def Ze (E : Env) (tot : Nat) : List G -> St -> Option St
 | [], U => some U
 | g :: gs, U => bnd (Yp E tot g U) (Ze E tot gs)
def Z4z (base : Nat) (acc : List Nat) : List Nat -> List Nat
 | [] => acc
 | b :: bs => if b < base \/ b ∈ acc then Z4z base acc bs else Z4z base (acc ++ [b]) bs
def below (h : Hp) (b : Nat) : List Nat :=
 match h b with
 | some k => if k.box then Zn k.rows else []
 | none => []
def Z6v (h : Hp) : List Nat -> List Nat
 | [] => []
 | b :: bs => below h b ++ Z6v h bs
def Z26 (base : Nat) (h : Hp) : Nat -> List Nat -> List Nat
 | 0, acc => acc
 | n + 1, acc => Z26 base h n (Z4z base acc (Z6v h acc))
def Zya : List Nat -> Nat -> Nat -> Nat
 | [], _, k => k
 | a :: as, b, k => if a = b then k else Zya as b (k + 1)
def nw (base : Nat) (ns : List Nat) (b : Nat) : Nat := if b < base then b else Zya ns b base
def Zk8 (base : Nat) (ns : List Nat) : A -> A
 | .ref ty b off len cap ex => .ref ty (nw base ns b) off len cap ex
 | .ptr b i j => .ptr (nw base ns b) i j
 | .fn _ _ => .bad
 | .agg _ => .bad
 | .tup _ => .bad
 | .ifg _ _ => .bad
 | a => a
def Zje (base : Nat) (ns : List Nat) : List A -> List A
 | [] => []
 | a :: as => Zk8 base ns a :: Zje base ns as
def ren (base : Nat) (ns : List Nat) : A -> A
 | .fn f caps => .fn f (Zje base ns caps)
 | .agg cs => .agg (Zje base ns cs)
 | .tup _ => .bad
 | .ifg _ _ => .bad
 | a => Zk8 base ns a
def Zdb (base : Nat) (ns : List Nat) : List A -> List A
 | [] => []
 | a :: as => ren base ns a :: Zdb base ns as
def Z41 (base : Nat) (ns : List Nat) (k : Blk) : Blk := if k.box then { k with rows := k.rows.map (Zdb base ns) } else k
def Z6y (base : Nat) (h h' : Hp) (ns : List Nat) : List Nat -> Nat -> Hp
 | [], _ => h'
 | b :: bs, k => match h b with
   | some blk => Z6y base h (upd h' k (some (Z41 base ns blk))) ns bs (k + 1)
   | none => Z6y base h h' ns bs (k + 1)
def low (base : Nat) (h : Hp) : Hp := fun i => if i < base then h i else none
def Xr (base : Nat) (ns : List Nat) (s s' : Nat -> A) : List Nat -> Nat -> A
 | [] => s'
 | i :: is => Xr base ns s (upd s' i (ren base ns (s i))) is
def Xt (base : Nat) (s : Nat -> A) (acc : List Nat) : List Nat -> List Nat
 | [] => acc
 | i :: is => Xt base s (Z4z base acc (Yb (s i))) is
def Zf8 (base : Nat) (h : Hp) (ns : List Nat) : Bool := (Z6v h ns).all fun b => decide (b < base) || ns.contains b
def Zec (L : List Nat) (U : St) (ns : List Nat) : Option St :=
 bif Zf8 U.base U.h ns then some ⟨Xr U.base ns U.s (fun _ => .bad) L, Z6y U.base U.h (low U.base U.h) ns ns U.base, U.base + ns.length, U.base⟩ else none
def canon (L : List Nat) (U : St) : Option St := Zec L U (Z26 U.base U.h 2 (Xt U.base U.s [] L))
def nmX (a : A) : List Nat := Yk a ++ Zr a.cells
def Yaq (a y : A) : Bool := (Yk (unT y)).all fun b => !(nmX (unT a)).contains b
def Zk5 (U : St) : List (Opd × Opd) -> Bool
 | [] => true
 | p :: ps => Yaq (ev U p.1) (ev U p.2) && Zk5 U ps
inductive Out where
 | norm (U : St)
 | exit (id : Nat) (U : St)
 | ret (U : St)
def Zh2 (o : Option Out) (k : St -> Option Out) : Option Out :=
 match o with
 | some (.norm U) => k U
 | o => o
def blO (id : Nat) (o : Option Out) : Option Out :=
 match o with
 | some (.exit id' U) => if id' = id then some (.norm U) else some (.exit id' U)
 | o => o
def nrm (tot : Nat) (o : Option St) : Option Out :=
 match o with
 | some U => some (.norm { U with n := U.n + tot })
 | none => none
def Zd (f : St -> Option Out) (L : List Nat) : Nat -> St -> Option Out
 | 0, _ => none
 | k + 1, U => Zh2 (f U) fun U' => bnd (canon L U') (Zd f L k)
def rounds : Nat := 2 ^ 40
def Z28 (N : List Nat) (h h' : Hp) : Prop := ∀ b ∈ N, h b = h' b
open Classical in
noncomputable def chk (E : Env) (N : List Nat) : Env := ⟨E.call, fun f as h n => bnd (E.dc f as h n) fun r => if Z28 N h r.2.1 then some r else none, E.df⟩
def Z0a (U : St) : List Nat -> List Nat
 | [] => []
 | t :: ts => if t = 100000 then Z0a U ts ++ (Z6v U.h (Z0a U ts) ++ Z6v U.h (Z6v U.h (Z0a U ts))) else nmX (unT (U.s t)) ++ Z0a U ts
def Z1y (U : St) (N : List Nat) : List (Opd × Opd) -> Bool
 | [] => true
 | (.t t, .k _) :: ps => (nmX (unT (U.s t))).all (fun b => N.contains b) && Z1y U N ps
 | _ :: ps => Z1y U N ps
noncomputable def Zj (E : Env) : ACode -> St -> Option Out
 | .sk, U => some (.norm U)
 | .rg tot _ ops, U => nrm tot (Ze E tot ops U)
 | .rgs tot sep ops, U => nrm tot (bnd (Ze E tot ops U) fun U' => bif Zk5 U' sep then some U' else none)
 | .rgk tot sep keep ops, U => nrm tot (bnd (Ze (chk E (Z0a U keep)) tot ops U) fun U' => bif Zk5 U' sep && Z1y U' (Z0a U keep) sep then some U' else none)
 | .sq a b, U => Zh2 (Zj E a U) (Zj E b)
 | .ite c a b, U => bnd (isQ (ev U c)) fun q => bif q then Zj E a U else Zj E b U
 | .bl id c, U => blO id (Zj E c U)
 | .lp L c, U => bnd (canon L U) (Zd (Zj E c) L rounds)
 | .xt id, U => some (.exit id U)
 | .rt, U => some (.ret U)
 | .no _, _ => none
def Zxi (U : St) : RVar -> Option A
 | .t n => some (U.s n)
 | .cell a n g => bnd (Zbm U.h (U.s a)) (Y6e n g)
def Z7r (U : St) : List RVar -> Option (List A)
 | [] => some []
 | r :: rs => bnd (Zxi U r) fun a => bnd (Z7r U rs) fun as => some (a :: as)
def slots (as : List A) : Nat -> A := fun i => as.getD i .und
def Zbk {V : Type} (o : Option Out) (k : St -> Option V) : Option V :=
 match o with
 | some (.norm U) => k U
 | some (.ret U) => k U
 | _ => none
def res (rv : List RVar) (U : St) : Option (List A) := bnd (Z7r U rv) (Za8 U.h [])
def Zo9 (rv : List RVar) (U : St) : Option (List A × Hp × Nat) := bnd (Z7r U rv) fun rs => some (rs, U.h, U.n)
def Zxg (e : Nat) : List A -> Hp -> Nat -> Option (List A × Hp × Nat)
 | [.ref ty b 0 len _ _, .v (.int .i64 i), .ref ty2 b2 0 1 _ _], h, n => bnd (h b) fun k => bnd (h b2) fun k2 => bnd k2.rows[0]? fun row =>
  if ty = e /\ ty2 = e /\ k.own /\ k.box = false /\ k.ty = e /\ len = k.rows.length /\ k2.box = false /\ k2.ty = e /\ ¬ b = b2 /\ 0 <= i /\ i <= len /\ len + 1 <= big then
   some ([.ref e n 0 (len + 1) (len + 1) false], upd (upd h b none) n (some ⟨e, k.rows.take i.toNat ++ row :: k.rows.drop i.toNat, true, false⟩), n + 1)
  else none
 | _, _, _ => none
structure Prog where
 fn : Nat -> Option AFn
 ext : Nat -> Option (List A -> Option (List A))
 ins : Nat -> Option Nat
 dn : Nat -> Option AFn
 hx : Nat -> Option (List A -> Hp -> Nat -> Option (List A × Hp × Nat))
 fl : Nat -> Option AFn
def Prog.dfn (p : Prog) (f : Nat) : Option AFn :=
 match p.dn f with
 | some fn => some fn
 | none => p.fn f
open Classical in
mutual
noncomputable def den (p : Prog) : Nat -> Nat -> List A -> Option (List A)
 | 0, _, _ => none
 | d + 1, f, as => match p.ext f with
   | some F => F as
   | none => match p.fn f with
     | none => none
     | some fn => Zbk (Zj ⟨den p d, dcl p d, dfl p d⟩ fn.code ⟨slots as, fun _ => none, 0, 0⟩) (res fn.res)
noncomputable def dcl (p : Prog) : Nat -> Nat -> List A -> Hp -> Nat -> Option (List A × Hp × Nat)
 | 0, _, _, _, _ => none
 | d + 1, f, as, h, n => match p.ins f with
   | some e => Zxg e as h n
   | none => match p.hx f with
     | some F => bnd (F as h n) fun r => if Shr n h r.2.1 /\ n <= r.2.2 then some r else none
     | none => match p.dfn f with
       | none => none
       | some fn => Zbk (Zj ⟨den p d, dcl p d, dfl p d⟩ fn.code ⟨slots as, h, n, n⟩) (Zo9 fn.res)
noncomputable def dfl (p : Prog) : Nat -> Nat -> List A -> Hp -> Nat -> Option (List A × Hp × Nat)
 | 0, _, _, _, _ => none
 | d + 1, f, as, h, n => match p.fl f with
   | none => none
   | some fn => Zbk (Zj ⟨den p d, dcl p d, dfl p d⟩ fn.code ⟨slots as, h, n, 0⟩) (Zo9 fn.res)
end
end Go.Vm
namespace Go.Vm
open Go.RowKit
abbrev Loc := Option (Nat × Nat)
abbrev Rho := Nat -> Option Loc
def Zcv : Value -> Bool
 | .bool _ | .int _ _ | .string _ | .pointer none | .nilFunc | .nilIface | .map _ => true
 | _ => false
def Yy : Rho := fun _ => none
inductive R (P : Program) : Rho -> (Nat -> Prop) -> World -> A -> Value -> Prop
 | bad {C : Rho} {S : Nat -> Prop} {w : World} (x : Value) : R P C S w .bad x
 | err {C : Rho} {S : Nat -> Prop} {w : World} (tp : TypeId) (x : Value) : R P C S w .err (.iface tp x)
 | und {C : Rho} {S : Nat -> Prop} {w : World} : R P C S w .und undef
 | v {C : Rho} {S : Nat -> Prop} {w : World} (x : Value) (h : Zcv x = true) : R P C S w (.v x) x
 | lit {C : Rho} {S : Nat -> Prop} {w : World} (ty : Nat) (rows : List (List A)) (a : Option Addr) (cap : Nat) (Y : Nat -> Nat -> Value) (hcap : rows.length <= cap)
  (hl : ∀ (i : Nat) (row : List A), rows[i]? = some row -> row.length = P.cellsOf ty /\ Zi row = true)
  (hc : ∀ (i : Nat) (row : List A) (j : Nat) (x : A), rows[i]? = some row -> row[j]? = some x -> ∃ k off, a = some ⟨k, off, none⟩ /\ S k /\ w.cell? ⟨k, off + i * P.cellsOf ty + j, none⟩ = some (Y i j))
  (hr : ∀ (i : Nat) (row : List A) (j : Nat) (x : A), rows[i]? = some row -> row[j]? = some x -> R P Yy S w x (Y i j)) : R P C S w (.lit ty rows) (.slice a rows.length cap)
 | ref {C : Rho} {S : Nat -> Prop} {w : World} (ty b off len cap : Nat) (ex : Bool) (k sz c : Nat) (a : Option Addr) (hb : C b = some (some (k, sz))) (hty : sz = P.cellsOf ty) (hcap : cap <= c) (hex : ex = true -> c = cap)
  (ha : 0 < c -> a = some ⟨k, off * sz, none⟩) (hlen : len <= c)
  (hk : ∃ (cs : Array Value) (t : TypeId), w.heap[k]? = some (Obj.cells cs t (0, 0)) /\ (off + c) * sz <= cs.size) : R P C S w (.ref ty b off len cap ex) (.slice a len c)
 | nil {C : Rho} {S : Nat -> Prop} {w : World} (ty b : Nat) (ex : Bool) (hb : C b = some none) : R P C S w (.ref ty b 0 0 0 ex) (.slice none 0 0)
 | ptr {C : Rho} {S : Nat -> Prop} {w : World} (b i j k sz : Nat) (hb : C b = some (some (k, sz))) : R P C S w (.ptr b i j) (.pointer (some ⟨k, i * sz + j, none⟩))
 | pl {C : Rho} {S : Nat -> Prop} {w : World} (row : List A) (j k o : Nat) (Y : Nat -> Value) (hk : row ≠ [] -> S k)
  (hc : ∀ (i : Nat) (x : A), row[i]? = some x -> w.cell? ⟨k, o + i, none⟩ = some (Y i))
  (hr : ∀ (i : Nat) (x : A), row[i]? = some x -> R P Yy S w x (Y i)) : R P C S w (.pl row j) (.pointer (some ⟨k, o + j, none⟩))
 | fn {C : Rho} {S : Nat -> Prop} {w : World} (f : Nat) (caps : List A) (vs : List Value) (hp : Wg caps = true) (hl : vs.length = caps.length)
  (hr : ∀ (i : Nat) (x : A) (y : Value), caps[i]? = some x -> vs[i]? = some y -> R P C S w x y) : R P C S w (.fn f caps) (.func (.func f) #[] vs.toArray)
 | agg {C : Rho} {S : Nat -> Prop} {w : World} (cs : List A) (vs : List Value) (hl : vs.length = cs.length)
  (hr : ∀ (i : Nat) (x : A) (y : Value), cs[i]? = some x -> vs[i]? = some y -> R P C S w x y) : R P C S w (.agg cs) (.agg vs.toArray)
 | tup {C : Rho} {S : Nat -> Prop} {w : World} (cs : List A) (vs : List Value) (hl : vs.length = cs.length)
  (hr : ∀ (i : Nat) (x : A) (y : Value), cs[i]? = some x -> vs[i]? = some y -> R P C S w x y) : R P C S w (.tup cs) (.tuple vs.toArray)
 | ifT {C : Rho} {S : Nat -> Prop} {w : World} (a : A) (x : Value) (h : R P C S w a x) : R P C S w (.ifg true a) x
 | ifF {C : Rho} {S : Nat -> Prop} {w : World} (a : A) : R P C S w (.ifg false a) undef
structure Ext (S : Nat -> Prop) (w w' : World) : Prop where
 same : ∀ k, S k -> w'.heap[k]? = w.heap[k]?
 size : ∀ (k : Nat) (c : Array Value) (t : TypeId), w.heap[k]? = some (Obj.cells c t (0, 0)) -> ∃ c' : Array Value, w'.heap[k]? = some (Obj.cells c' t (0, 0)) /\ c'.size = c.size
 maps : ∀ (k : Nat) (es : Array MapEntry) (cl : Nat), w.heap[k]? = some (Obj.map es cl) -> w'.heap[k]? = some (Obj.map es cl)
theorem Ext.refl (S : Nat -> Prop) (w : World) : Ext S w w := ⟨fun _ _ => rfl, fun _ c _ h => ⟨c, h, rfl⟩, fun _ _ _ h => h⟩
theorem Ext.trans {S S' : Nat -> Prop} {a b c : World} (h : Ext S a b) (hS : ∀ k, S k -> S' k) (k : Ext S' b c) : Ext S a c :=
 ⟨fun i hi => (k.same i (hS i hi)).trans (h.same i hi), fun i cs t e => by
  obtain ⟨c1, e1, s1⟩ := h.size i cs t e
  obtain ⟨c2, e2, s2⟩ := k.size i c1 t e1
  exact ⟨c2, e2, s2.trans s1⟩, fun i es cl e => k.maps i es cl (h.maps i es cl e)⟩
def Rho.le (C C' : Rho) : Prop := ∀ b l, C b = some l -> C' b = some l
variable {P : Program}
theorem Zjx (C : Rho) : Rho.le Yy C := fun _ _ h => by cases h
theorem R.mono_ {C : Rho} {S : Nat -> Prop} {w : World} {a : A} {x : Value}
 (h : R P C S w a x) : ∀ {C' : Rho} {S' : Nat -> Prop} {w' : World}, Rho.le C C' -> (∀ k, S k -> S' k) -> Ext S w w' -> R P C' S' w' a x := by
 induction h with
 | bad x => exact fun _ _ _ => .bad x
 | err tp x => exact fun _ _ _ => .err tp x
 | und => exact fun _ _ _ => .und
 | v x h => exact fun _ _ _ => .v x h
 | lit ty rows a cap Y hcap hl hc hr ih =>
   intro C' S' w' hρ hS hw
   refine .lit ty rows a cap Y hcap hl (fun i row j x h1 h2 => ?_) (fun i row j x h1 h2 => ih i row j x h1 h2 (fun _ _ h => h) hS hw)
   obtain ⟨k, off, e, hk, j0⟩ := hc i row j x h1 h2
   refine ⟨k, off, e, hS k hk, ?_⟩
   rw [<- j0]
   exact World.cell?_of_block (hw.same k hk)
 | ref ty b off len cap ex k sz c a hb hty hcap hex ha hlen hk =>
   intro C' S' w' hρ hS hw
   obtain ⟨cs, t, e, hs⟩ := hk
   obtain ⟨c', e', s'⟩ := hw.size k cs t e
   exact .ref ty b off len cap ex k sz c a (hρ _ _ hb) hty hcap hex ha hlen ⟨c', t, e', by omega⟩
 | nil ty b ex hb => exact fun hρ _ _ => .nil ty b ex (hρ _ _ hb)
 | ptr b i j k sz hb => exact fun hρ _ _ => .ptr b i j k sz (hρ _ _ hb)
 | pl row j k o Y hk hc hr ih =>
   intro C' S' w' hρ hS hw
   refine .pl row j k o Y (fun hn => hS k (hk hn)) (fun i x h => ?_) (fun i x h => ih i x h (fun _ _ h => h) hS hw)
   rw [<- hc i x h]
   exact World.cell?_of_block (hw.same k (hk (fun hn => by rw [hn] at h; simp at h)))
 | fn f caps vs hp hl hr ih => exact fun hρ hS hw => .fn f caps vs hp hl (fun i x y h1 h2 => ih i x y h1 h2 hρ hS hw)
 | agg cs vs hl hr ih => exact fun hρ hS hw => .agg cs vs hl (fun i x y h1 h2 => ih i x y h1 h2 hρ hS hw)
 | tup cs vs hl hr ih => exact fun hρ hS hw => .tup cs vs hl (fun i x y h1 h2 => ih i x y h1 h2 hρ hS hw)
 | ifT a x h ih => exact fun hρ hS hw => .ifT a x (ih hρ hS hw)
 | ifF a => exact fun _ _ _ => .ifF a
theorem R.mono {C C' : Rho} {S S' : Nat -> Prop} {w w' : World} (hρ : Rho.le C C') (hS : ∀ k, S k -> S' k) (hw : Ext S w w') {a : A} {x : Value}
 (h : R P C S w a x) : R P C' S' w' a x := R.mono_ h hρ hS hw
theorem R.up {C : Rho} {S : Nat -> Prop} {w : World} {a : A} {x : Value} (h : R P Yy S w a x) : R P C S w a x := h.mono (Zjx C) (fun _ h => h) (Ext.refl _ _)
def inR (box : Bool) (C : Rho) : Rho := bif box then C else Yy
theorem Y3f {C C' : Rho} (b : Bool) (h : Rho.le C C') : Rho.le (inR b C) (inR b C') := by
 cases b
 . exact fun _ _ e => e
 . exact h
theorem R.out {b : Bool} {C : Rho} {S : Nat -> Prop} {w : World} {a : A} {x : Value} (h : R P (inR b C) S w a x) : R P C S w a x := by
 cases b
 . exact R.up h
 . exact h
structure BR (P : Program) (C : Rho) (S : Nat -> Prop) (w : World) (B : Nat) (blk : Blk) (k sz : Nat) : Prop where
 sz_eq : sz = P.cellsOf blk.ty
 base : B <= k
 own : blk.own = true -> ¬ S k
 not_own : blk.own = false -> S k
 rows : ∀ (i : Nat) (row : List A), blk.rows[i]? = some row -> row.length = sz /\ Zi row = true
 heap : ∃ c : Array Value, w.heap[k]? = some (Obj.cells c blk.ty (0, 0)) /\ blk.rows.length * sz <= c.size /\
  ∀ (i : Nat) (row : List A) (j : Nat) (x : A), blk.rows[i]? = some row -> row[j]? = some x -> ∃ y, c[i * sz + j]? = some y /\ R P (inR blk.box C) S w x y
theorem BR.here {C : Rho} {S : Nat -> Prop} {w : World} {B : Nat} {blk : Blk} {k sz : Nat} (b : BR P C S w B blk k sz) : ∃ c : Array Value, w.heap[k]? = some (Obj.cells c blk.ty (0, 0)) /\ blk.rows.length * sz <= c.size /\
 ∀ (i : Nat) (row : List A) (j : Nat) (x : A), blk.rows[i]? = some row -> row[j]? = some x -> ∃ y, c[i * sz + j]? = some y /\ R P C S w x y := by
 obtain ⟨c, h1, h2, h3⟩ := b.heap
 exact ⟨c, h1, h2, fun i row j x e1 e2 => by obtain ⟨y, hy, hr⟩ := h3 i row j x e1 e2; exact ⟨y, hy, hr.out⟩⟩
def Z27 : List String := ["internal/strconv.uint64pow10", "strconv.ErrSyntax", "strconv.ErrRange"]
structure GlobOk (P : Program) (S : Nat -> Prop) (w : World) : Prop where
 fast : ∀ nm ∈ Z27, ∀ g, P.globalNamed nm = some g -> S g
 pow : (P.globalNamed "internal/strconv.uint64pow10").isSome = true -> Lib.TabIs P w "internal/strconv.uint64pow10" .u64 Lib.pow10Tab
 syn : (P.globalNamed "strconv.ErrSyntax").isSome = true -> ∃ tp p, w.var? P "strconv.ErrSyntax" = some #[.iface tp p]
 rng : (P.globalNamed "strconv.ErrRange").isSome = true -> ∃ tp p, w.var? P "strconv.ErrRange" = some #[.iface tp p]
theorem Zi5 {S : Nat -> Prop} {w w' : World} {nm : String} (h : ∀ g, P.globalNamed nm = some g -> S g) (hs : ∀ k, S k -> w'.heap[k]? = w.heap[k]?) : w'.var? P nm = w.var? P nm := by
 unfold World.var?
 cases hg : P.globalNamed nm with
 | none => rfl
 | some g => simp only [gD, hs g (h g hg)]
theorem GlobOk.to {S S' : Nat -> Prop} {w w' : World} (h : GlobOk P S w) (hS : ∀ nm ∈ Z27, ∀ g, P.globalNamed nm = some g -> S' g) (hs : ∀ k, S k -> w'.heap[k]? = w.heap[k]?) : GlobOk P S' w' :=
 ⟨hS, fun q => by have := h.pow q; unfold Lib.TabIs at *; rw [Zi5 (h.fast _ (by simp [Z27])) hs]; exact this,
  fun q => by rw [Zi5 (h.fast _ (by simp [Z27])) hs]; exact h.syn q, fun q => by rw [Zi5 (h.fast _ (by simp [Z27])) hs]; exact h.rng q⟩
theorem GlobOk.mono {S S' : Nat -> Prop} {w w' : World} (h : GlobOk P S w) (hS : ∀ k, S k -> S' k) (e : Ext S w w') : GlobOk P S' w' := h.to (fun nm hn g hg => hS g (h.fast nm hn g hg)) e.same
theorem GlobOk.any {S S' : Nat -> Prop} {w : World} (h : GlobOk P S w) (hS : ∀ k, S k -> S' k) : GlobOk P S' w := h.mono hS (Ext.refl _ _)
structure HR (P : Program) (C : Rho) (S : Nat -> Prop) (w : World) (B : Nat) (h : Hp) : Prop where
 at_ : ∀ b blk, h b = some blk -> (∃ k sz, C b = some (some (k, sz)) /\ BR P C S w B blk k sz) \/ (C b = some none /\ blk.rows = [] /\ blk.box = false)
 inj : ∀ b b' k sz sz' blk blk', h b = some blk -> h b' = some blk' -> C b = some (some (k, sz)) -> C b' = some (some (k, sz')) -> b = b'
 old : ∀ k, S k -> k < w.heap.size
 glob : GlobOk P S w
end Go.Vm
namespace Go.Vm
def Ybf : Value -> Value -> Bool
 | .bool a, .bool b => decide (a = b)
 | .int k a, .int k' b => decide (k = k') && decide (a = b)
 | .string a, .string b => decide (a = b)
 | .pointer none, .pointer none => true
 | .nilFunc, .nilFunc => true
 | .nilIface, .nilIface => true
 | .map none, .map none => true
 | _, _ => false
def Y7a : Value -> A -> Bool
 | .slice none 0 0, .lit _ [] => true
 | x, .v y => Ybf x y
 | _, _ => false
def Zll : List Value -> List A -> Bool
 | [], [] => true
 | x :: xs, a :: as => Y7a x a && Zll xs as
 | _, _ => false
def okK : Value -> A -> Bool
 | .agg vs, .agg as => Zll vs.toList as
 | x, a => Y7a x a
def Yx : Operand -> Opd -> Bool
 | .tmp n, .t m => decide (n = m)
 | .const v, .k a => okK v a
 | .func f, .k (.fn g []) => decide (f = g)
 | _, _ => false
def Z06 : List Operand -> List Opd -> Bool
 | [], [] => true
 | x :: xs, y :: ys => Yx x y && Z06 xs ys
 | _, _ => false
def Zjd : Option Operand -> Option Opd -> Bool
 | none, none => true
 | some x, some y => Yx x y
 | _, _ => false
def Zcu (P : Program) (t : TypeId) : Bool :=
 match P.underlying t with
 | some (.struct _) | some (.array _ _) => true
 | _ => false
def Zcn (P : Program) (t : TypeId) : Bool := (P.info? t).isSome && (P.underlying t).isSome
def Z82 (P : Program) (t e : TypeId) : Bool :=
 match P.underlying t with
 | some (.slice e') => decide (e' = e)
 | _ => false
def Y29 (P : Program) (t : TypeId) : Bool :=
 match P.underlying t with
 | some .string => true
 | _ => false
def Y7b (P : Program) (t : TypeId) (k : IntKind) : Bool :=
 match P.underlying t with
 | some (.int k') => decide (k' = k)
 | _ => false
def Y8k (f : TypeId -> Option (List Nat)) : List Field -> Nat -> Option (List Nat)
 | [], _ => some []
 | fl :: fs, n => if fl.offset = n /\ fl.name ≠ "_" then bnd (f fl.type) fun ks => bnd (Y8k f fs (n + ks.length)) fun r => some (ks ++ r) else none
def eqT (P : Program) : Nat -> TypeId -> Option (List Nat)
 | 0, _ => none
 | d + 1, t => match P.underlying t with
   | some .bool => some [2]
   | some (.int _) => some [0]
   | some .string => some [1]
   | some (.struct fs) => if P.stoodInHeld t \/ (P.info? t).isNone then none else bnd (Y8k (eqT P d) fs.toList 0) fun ks => if ks.length = P.cellsOf t then some ks else none
   | _ => none
def Zcz (P : Program) (t : TypeId) (zs : List A) : Bool :=
 match (P.info? t).bind (·.zero) with
 | some z => Zll z.cells.toList zs && decide (zs.length = P.cellsOf t)
 | none => false
def Zyn (P : Program) (ops : Array Oper) (o : Oper) (op : AOp) : Bool :=
 match o.op, op with
 | .move x, .mv _ y => Yx x y
 | .assign x, .mv _ y => Yx x y
 | .pick c a b, .pick _ c' a' b' => Yx c c' && Yx a a' && Yx b b'
 | .load t p, .ld _ n g q => Yx p q && decide (n = P.cellsOf t) && decide (g = Zcu P t) && Zcn P t
 | .binOp op xt x y yt, .bin _ op' x' y' => decide (op = op') && Yx x x' && Yx y y'
 | .binOp op xt x y _, .eqs _ ks neg x' y' => Yx x x' && Yx y y' && (match op with | .eql => !neg | .neq => neg | _ => false) &&
  !P.eqGuardType P.depth xt && Zcu P xt && decide (eqT P 8 xt = some ks)
 | .binOp op xt x y _, .beq _ neg x' y' => Yx x x' && Yx y y' && (match op with | .eql => !neg | .neq => neg | _ => false) && (match P.underlying xt with | some .bool => true | _ => false)
 | .unOp op _ x, .un _ op' x' => decide (op = op') && Yx x x'
 | .convert s t x, .cv _ k x' => Y7b P t k && Yx x x' && Zcn P s && (P.underlying s).isSome
 | .convert s t x, .cbs _ e x' => Z82 P s e && Y29 P t && Y7b P e .u8 && Zcn P e && Yx x x'
 | .fieldAddr s x f, .fa _ x' off => Yx x x' && (match P.underlying s with | some (.struct fs) => (match fs[f]? with | some fl => decide (fl.offset = off) && Zcn P fl.type && decide (P.cellsOf fl.type ≠ 0) | none => false) | _ => false)
 | .field s x f, .fld _ x' off n g => Yx x x' && (match P.underlying s with | some (.struct fs) => (match fs[f]? with | some fl => decide (fl.offset = off) && decide (P.cellsOf fl.type = n) && Zcn P fl.type && decide (g = Zcu P fl.type) | none => false) | _ => false)
 | .indexAddr t x i, .ia _ e x' i' => Yx x x' && Yx i i' && Z82 P t e && Zcn P e && decide (P.cellsOf e ≠ 0)
 | .index t x i, .ix _ x' i' => Yx x x' && Yx i i' && Y29 P t
 | .extract x i, .ex _ x' i' => Yx x x' && decide (i = i')
 | .call c, .len _ str x' => (match c.callee, c.args.toList with | .builtin .len, [x] => Yx x x' | _, _ => false) && (match c.argTypes.toList with | [t] => (match P.underlying t with | some .string => str | some (.slice _) => !str | _ => false) | _ => false)
 | .call c, .mnx _ mx x' y' => (match c.callee, c.args.toList with | .builtin b, [x, y] => (match b with | .max => mx | .min => !mx | _ => false) && Yx x x' && Yx y y' | _, _ => false)
 | .nilCheck x, .nl _ x' => Yx x x'
 | _, _ => false
end Go.Vm
namespace Go.Vm
variable {P : Program} {C : Rho} {S : Nat -> Prop} {w : World} {B : Nat} {h : Hp}
theorem Z6 {V J : Type} {o : Option V} {f : V -> Option J} {b : J} (e : bnd o f = some b) : ∃ a, o = some a /\ f a = some b := by
 cases o with
 | none => exact absurd e (by simp [bnd])
 | some a => exact ⟨a, rfl, e⟩
theorem Z08 (k o n : Nat) : (⟨k, o, none⟩ : Addr).add n = ⟨k, o + n, none⟩ := by
 unfold Addr.add; split
 . rename_i e; subst e; rfl
 . rfl
theorem Y5h {x y : Value} (e : Ybf x y = true) : x = y /\ Zcv y = true := by
 unfold Ybf at e; split at e <;> simp_all [Zcv]
theorem Zuw {x : Value} {a : A} (e : Y7a x a = true) : R P C S w a x := by
 unfold Y7a at e
 split at e
 . rename_i ty
   exact .lit ty [] none 0 (fun _ _ => .tuple #[]) (dO _) (fun i row h => by simp at h) (fun i row j x h => by simp at h) (fun i row j x h => by simp at h)
 . obtain ⟨rfl, hp⟩ := Y5h e
   exact .v _ hp
 . exact absurd e (by simp)
theorem Zpy : ∀ {vs : List Value} {as : List A}, Zll vs as = true -> vs.length = as.length /\ ∀ (i : Nat) (x : A) (y : Value), as[i]? = some x -> vs[i]? = some y -> R P C S w x y
 | [], [], _ => ⟨rfl, fun i x y h => by simp at h⟩
 | x :: xs, a :: as, e => by
   simp only [Zll, dQ] at e
   obtain ⟨hl, hr⟩ := Zpy e.2
   refine ⟨by simp [hl], fun i u y h1 h2 => ?_⟩
   cases i with
   | zero => simp at h1 h2; subst h1 h2; exact Zuw e.1
   | succ i => exact hr i u y (by simpa using h1) (by simpa using h2)
 | [], _ :: _, e => by simp [Zll] at e
 | _ :: _, [], e => by simp [Zll] at e
theorem Yd8 {x : Value} {a : A} (e : okK x a = true) : R P C S w a x := by
 unfold okK at e
 split at e
 . rename_i vs as
   obtain ⟨hl, hr⟩ := Zpy (P := P) (C := C) (S := S) (w := w) e
   have := R.agg (P := P) (C := C) (S := S) (w := w) as vs.toList hl hr
   simpa using this
 . exact Zuw e
theorem Ze5 {U : St} {a : Act} (hs : ∀ t, R P C S w (U.s t) (a.tmps.getD t undef)) {x : Operand} {y : Opd} (e : Yx x y = true) : R P C S w (ev U y) (a.eval x) := by
 unfold Yx at e
 split at e
 . rename_i n m
   have : n = m := by simpa using e
   subst this
   exact hs n
 . exact Yd8 e
 . rename_i f g
   have : f = g := by simpa using e
   subst this
   exact .fn f [] [] rfl rfl (fun i x y h => by simp at h)
 . exact absurd e (by simp)
theorem Zdt (H : HR P C S w B h) {a : A} {x : Value} {row : List A} {j : Nat} (e : Zbm h a = some (row, j)) (r : R P C S w a x) :
 ∃ k o, x = .pointer (some ⟨k, o + j, none⟩) /\ ∀ (i : Nat) (y : A), row[i]? = some y -> ∃ v, w.cell? ⟨k, o + i, none⟩ = some v /\ R P C S w y v := by
 cases r with
 | pl j1 j' k o Y hk hc hr =>
   simp only [Zbm, dM, dV] at e
   obtain ⟨rfl, rfl⟩ := e
   exact ⟨k, o, rfl, fun i y hy => ⟨Y i, hc i y hy, (hr i y hy).up⟩⟩
 | ptr b i j' k sz hb =>
   obtain ⟨blk, j4, e⟩ := Z6 e
   obtain ⟨j1, j3, e⟩ := Z6 e
   simp only [dM, dV] at e
   obtain ⟨rfl, rfl⟩ := e
   rcases H.at_ b blk j4 with ⟨k', sz', j0, hB⟩ | ⟨j0, _⟩
   . rw [hb] at j0
     simp only [dM, dV] at j0
     obtain ⟨rfl, rfl⟩ := j0
     obtain ⟨c, hc, _, j2⟩ := hB.here
     refine ⟨k, i * sz, rfl, fun m y hy => ?_⟩
     obtain ⟨v, hv, hr⟩ := j2 i j1 m y j3 hy
     exact ⟨v, by simp [World.cell?, hc, hv], hr⟩
   . rw [hb] at j0; simp at j0
 | _ => simp [Zbm] at e
theorem Z8p {t : TypeId} (e : Zcn P t = true) : (∃ i, P.info? t = some i) /\ ∃ d, P.underlying t = some d := by
 simp only [Zcn, dQ, eW] at e
 exact e
theorem Zen {t : TypeId} (e : Zcn P t = true) (w : World) : (isAgg t).run P w = .ok (Zcu P t) w := by
 obtain ⟨_, d, hd⟩ := Z8p e
 unfold isAgg Zcu
 simp only [dE, run_underlying hd, cX, hd]
 cases d <;> rfl
theorem Zjj (row : List A) (j n m : Nat) : (seg row j n)[m]? = if m < n then row[j + m]? else none := by
 unfold seg
 rw [dB]
 split <;> simp [eX]
theorem Zpq {t : TypeId} (hT : Zcn P t = true) {k o j : Nat} {row : List A} {v : A}
 (hcell : ∀ (i : Nat) (y : A), row[i]? = some y -> ∃ v, w.cell? ⟨k, o + i, none⟩ = some v /\ R P C S w y v)
 (e : Y6e (P.cellsOf t) (Zcu P t) (row, j) = some v) :
 ∃ x, (loadVar t ⟨k, o + j, none⟩).run P w = .ok x w /\ R P C S w v x := by
 obtain ⟨⟨i, hi⟩, _⟩ := Z8p hT
 unfold Y6e at e
 split at e
 . rename_i j1
   simp only at j1 e
   unfold loadVar
   simp only [dE, Zen hT, cX]
   cases hg : Zcu P t with
   | true =>
     rw [hg] at e
     simp only [val, dM] at e
     subst e
     have hY : ∀ m, m < P.cellsOf t -> ∃ y u, row[j + m]? = some y /\ w.cell? ⟨k, o + (j + m), none⟩ = some u /\ R P C S w y u := by
      intro m hm
      have hlt : j + m < row.length := by omega
      obtain ⟨u, hu, hr⟩ := hcell (j + m) row[j + m] (dS hlt)
      exact ⟨_, u, dS hlt, hu, hr⟩
     refine ⟨.agg ((List.range (P.cellsOf t)).map fun m => (w.cell? ⟨k, o + (j + m), none⟩).getD undef).toArray, ?_, ?_⟩
     . simp only [if_true, dE, run_sizeOf w hi, cX]
       rw [run_loadCells (P := P) w ⟨k, o + j, none⟩ (P.cellsOf t) (fun m => (w.cell? ⟨k, o + (j + m), none⟩).getD undef)]
       . rfl
       . intro m hm
         obtain ⟨y, u, _, hu, _⟩ := hY m hm
         rw [Z08, gE, hu]; rfl
     . refine .agg _ _ (by simp [seg]; omega) (fun m y u hy hu => ?_)
       rw [Zjj] at hy
       split at hy
       . rename_i hm
         obtain ⟨y', u', h1, h2, h3⟩ := hY m hm
         rw [h1] at hy
         cases hy
         simp [hm, h2] at hu
         subst hu
         exact h3
       . cases hy
   | false =>
     rw [hg] at e
     simp only [val] at e
     split at e
     . simp at *
     . rename_i a _ j0
       simp only [dM] at e
       subst e
       have h1 : P.cellsOf t = 1 /\ row[j]? = some a := by
        have hl := congrArg List.length j0
        simp [seg] at hl
        have hn : P.cellsOf t = 1 := by omega
        have h0 : (seg row j (P.cellsOf t))[0]? = some a := by rw [j0]; rfl
        rw [Zjj, hn] at h0
        simp at h0
        exact ⟨hn, h0⟩
       obtain ⟨u, hu, hr⟩ := hcell j a h1.2
       exact ⟨u, by simp [load, Sem.run, hu], hr⟩
     . cases e
 . cases e
theorem R.v_inv {x y : Value} (r : R P C S w (.v x) y) : y = x /\ Zcv x = true := by
 cases r with
 | v _ h => exact ⟨rfl, h⟩
theorem Zgk : ∀ a b : List UInt8, W6 a b = Op.bytesLess a b
 | _, [] => by simp [W6, Op.bytesLess]
 | [], _ :: _ => rfl
 | a :: x, b :: y => by simp [W6, Op.bytesLess, Zgk x y]
theorem Zww (x y : ByteArray) : (x.toList == y.toList) = decide (x = y) := by
 rw [ByteArray.toList_eq, ByteArray.toList_eq]
 by_cases e : x = y
 . subst e; simp
 . have : ¬ x.data.toList = y.data.toList := fun h => e (by cases x; cases y; simp at h; simp [h])
   simp only [e, decide_false, eD, ne_eq]
   exact this
theorem Ztm (op : BinOp) (t : TypeId) (x y : Operand) (k : IntKind) (n : Int) (b : Value) : (eqGuard op t x y (.int k n) b).run P w = .ok () w := by
 unfold eqGuard; cases op <;> cases b <;> rfl
theorem Zu8 (op : BinOp) (t : TypeId) (x y : Operand) (s : ByteArray) (b : Value) : (eqGuard op t x y (.string s) b).run P w = .ok () w := by
 unfold eqGuard; cases op <;> cases b <;> rfl
theorem Zrn (op : BinOp) (t : TypeId) (x y : Operand) (q : Bool) (b : Value) : (eqGuard op t x y (.bool q) b).run P w = .ok () w := by
 unfold eqGuard; cases op <;> cases b <;> rfl
theorem Zws {op : BinOp} {t : TypeId} {x y : Operand} {a b : Value} {z : Value} (e : Zng op a b = some z) :
    (do eqGuard op t x y a b; binOp op t a b : Sem Value).run P w = .ok z w /\ Zcv z = true := by
  unfold Zng at e
  split at e
  . rename_i k m k' n
    split at e
    . rename_i hk
      subst hk
      simp only [dE, Ztm, cX]
      cases op <;> simp only [Zqz, dM, reduceCtorEq] at e <;>
        first
          | (subst e; refine ⟨?_, rfl⟩; simp [binOp, Op.intArith, Op.intCmp, Op.intBits]; done)
          | (subst e; refine ⟨?_, rfl⟩; simp [binOp, Op.intCmp]; by_cases q : m = n <;> simp [q])
          | (split at e
             . cases e
             . rename_i hn
               simp only [dM] at e
               subst e
               exact ⟨by simp [binOp, Op.intDiv, hn], rfl⟩)
    . cases e
  . rename_i m n
    simp only [dE, Zu8, cX]
    cases op <;> simp only [Yb4, dM, reduceCtorEq] at e
    . split at e
      . rename_i j0
        simp only [dM] at e
        subst e
        refine ⟨?_, rfl⟩
        have : ¬ (((m.size + n.size : Nat) : Int) > IntKind.i64.max) := by
          have : IntKind.i64.max = 9223372036854775807 := by decide
          rw [this]; omega
        simp only [binOp, Op.stringOp, if_neg this]
        rfl
      . cases e
    all_goals
      subst e
      refine ⟨?_, rfl⟩
      simp only [binOp, Op.stringOp, Zww, Zgk]
      rfl
  . cases e
theorem Zyh {op : UnOp} {a z : Value} (e : unV op a = some z) : (Op.unary op a).run P w = .ok z w /\ Zcv z = true := by
 unfold unV at e
 split at e
 . simp only [dM] at e; subst e; exact ⟨rfl, rfl⟩
 . simp only [dM] at e; subst e; exact ⟨rfl, rfl⟩
 . cases e
end Go.Vm
namespace Go.Vm
variable {P : Program} {w : World}
def StandAt (as : List A) (xs : Array Value) (off : Nat) : Prop := ∀ (i : Nat) (a : A), as[i]? = some a -> ∃ v, xs[off + i]? = some v /\ ∀ u, a = .v u -> v = u
theorem StandAt.cut {as bs : List A} {xs : Array Value} {off : Nat} (h : StandAt (as ++ bs) xs off) : StandAt as xs off /\ StandAt bs xs (off + as.length) :=
 ⟨fun i b hb => h i b (by rw [dZ (dU.1 hb).1]; exact hb),
  fun i b hb => by have := h (as.length + i) b (by rw [eA (by omega)]; simpa using hb); rwa [<- gE] at this⟩
theorem Z55 : ∀ {ks : List Nat} {as bs : List A} {q : Bool}, X2 ks as bs = some q -> as.length = ks.length /\ bs.length = ks.length
 | [], [], [], _, _ => ⟨rfl, rfl⟩
 | k :: ks, a :: as, b :: bs, q, e => by
   obtain ⟨p, _, e⟩ := Z6 e
   obtain ⟨r, e', _⟩ := Z6 e
   have := Z55 e'
   simp [this.1, this.2]
 | [], [], _ :: _, _, e => by simp [X2] at e
 | [], _ :: _, _, _, e => by simp [X2] at e
 | _ :: _, [], _, _, e => by simp [X2] at e
 | _ :: _, _ :: _, [], _, e => by simp [X2] at e
theorem Zey : ∀ {ks ks' : List Nat} {as bs : List A} {q : Bool}, X2 (ks ++ ks') as bs = some q ->
 ∃ a1 a2 b1 b2 p r, as = a1 ++ a2 /\ bs = b1 ++ b2 /\ X2 ks a1 b1 = some p /\ X2 ks' a2 b2 = some r /\ q = (p && r)
 | [], ks', as, bs, q, e => ⟨[], as, [], bs, true, q, rfl, rfl, rfl, e, by simp⟩
 | k :: ks, ks', a :: as, b :: bs, q, e => by
   obtain ⟨p, hp, e1⟩ := Z6 e
   obtain ⟨r, hr, e2⟩ := Z6 e1
   have e3 : (p && r) = q := by simpa using e2
   clear e e1 e2
   obtain ⟨a1, a2, b1, b2, p', r', rfl, rfl, h1, h2, h3⟩ := Zey hr
   exact ⟨a :: a1, a2, b :: b1, b2, p && p', r', rfl, rfl, by simp [X2, hp, h1, bnd], h2, by rw [<- e3, h3, Bool.and_assoc]⟩
 | _ :: _, _, [], _, _, e => by simp [X2] at e
 | _ :: _, _, _ :: _, [], _, e => by simp [X2] at e
theorem Zar {t : TypeId} (hT : Zcn P t = true) (hg : Zcu P t = false) {xs : Array Value} {off : Nat} {v : Value} (hv : xs[off]? = some v) : (part t xs off).run P w = .ok v w := by
 unfold part
 simp only [dE, Zen hT, cX, hg, eH, if_false, hv]
 rfl
theorem Zio {t : TypeId} (hT : Zcn P t = true) (hg : Zcu P t = true) (xs : Array Value) (off : Nat) : (part t xs off).run P w = .ok (.agg (xs.extract off (off + P.cellsOf t))) w := by
 obtain ⟨⟨i, hi⟩, _⟩ := Z8p hT
 unfold part
 simp only [dE, Zen hT, cX, hg, if_true, run_sizeOf w hi]
 rfl
theorem Zzb {d : Nat} {xs ys : Array Value} {f : Field} {fs : List Field} {a b : Value} {r s : Bool} (hn : f.name ≠ "_") (ha : (part f.type xs f.offset).run P w = .ok a w) (hb : (part f.type ys f.offset).run P w = .ok b w)
 (he : (Op.equalIn d f.type a b).run P w = .ok r w) (hr : (Op.eqFields d xs ys fs).run P w = .ok s w) : (Op.eqFields d xs ys (f :: fs)).run P w = .ok (r && s) w := by
 rw [Op.eqFields]
 simp only [if_pos hn, dE, ha, hb, he, cX]
 cases r
 . simp
 . simpa using hr
theorem Zok {k : Nat} {as bs : List A} {q : Bool} (e : X2 [k] as bs = some q) : ∃ a b, as = [a] /\ bs = [b] /\ Z0m k a b = some q := by
 match as, bs, e with
 | [a], [b], e =>
   obtain ⟨p, hp, e⟩ := Z6 e
   have e : p = q := by simpa [X2, bnd] using e
   exact ⟨a, b, rfl, rfl, by rw [hp, e]⟩
 | [], _, e => simp [X2] at e
 | [_], [], e => simp [X2] at e
 | [_], _ :: _ :: _, e =>
   obtain ⟨p, hp, e⟩ := Z6 e
   obtain ⟨r, hr, _⟩ := Z6 e
   simp [X2] at hr
 | _ :: _ :: _, [], e => simp [X2] at e
 | _ :: _ :: _, _ :: _, e =>
   obtain ⟨p, hp, e⟩ := Z6 e
   obtain ⟨r, hr, _⟩ := Z6 e
   simp [X2] at hr
theorem Zxq {a b : A} {q : Bool} (e : Z0m 0 a b = some q) : ∃ k m n, a = .v (.int k m) /\ b = .v (.int k n) /\ q = decide (m = n) := by
 cases a with
 | v x => cases b with
   | v y => cases x <;> cases y <;> simp only [Z0m, reduceCtorEq] at e
            split at e
            . rename_i h; subst h; exact ⟨_, _, _, rfl, rfl, by simpa using e.symm⟩
            . cases e
   | _ => cases x <;> simp [Z0m] at e
 | _ => simp [Z0m] at e
theorem Zue {a b : A} {q : Bool} (e : Z0m 1 a b = some q) : ∃ m n, a = .v (.string m) /\ b = .v (.string n) /\ q = decide (m = n) := by
 cases a with
 | v x => cases b with
   | v y => cases x <;> cases y <;> simp only [Z0m, reduceCtorEq] at e
            exact ⟨_, _, rfl, rfl, by simpa using e.symm⟩
   | _ => cases x <;> simp [Z0m] at e
 | _ => simp [Z0m] at e
theorem Zx2 {a b : A} {q : Bool} (e : Z0m 2 a b = some q) : ∃ m n, a = .v (.bool m) /\ b = .v (.bool n) /\ q = decide (m = n) := by
 cases a with
 | v x => cases b with
   | v y => cases x <;> cases y <;> simp only [Z0m, reduceCtorEq] at e
            exact ⟨_, _, rfl, rfl, by simpa using e.symm⟩
   | _ => cases x <;> simp [Z0m] at e
 | _ => simp [Z0m] at e
theorem Zov : ∀ (d : Nat) {t : TypeId} {ks : List Nat} {as bs : List A} {q : Bool} {xs ys : Array Value} {off : Nat} (f : Nat), eqT P d t = some ks -> X2 ks as bs = some q ->
 StandAt as xs off -> StandAt bs ys off ->
 ∃ a b, (part t xs off).run P w = .ok a w /\ (part t ys off).run P w = .ok b w /\ (Op.equalIn (f + d) t a b).run P w = .ok q w /\ (Zcu P t = true -> a = .agg (xs.extract off (off + ks.length)) /\ b = .agg (ys.extract off (off + ks.length)))
 | 0, t, ks, as, bs, q, xs, ys, off, f, ht, he, ha, hb => by simp [eqT] at ht
 | d + 1, t, ks, as, bs, q, xs, ys, off, f, ht, he, ha, hb => by
   have hi : (P.underlying t).isSome -> (P.info? t).isSome := by
    unfold Program.underlying
    cases P.info? t <;> simp
   have j0 : ∀ (k : Nat), ks = [k] -> Zcn P t = true -> Zcu P t = false ->
    (∀ a b : A, Z0m k a b = some q -> ∀ va vb, (∀ u, a = .v u -> va = u) -> (∀ u, b = .v u -> vb = u) -> (Op.equalIn (f + d + 1) t va vb).run P w = .ok q w) ->
    ∃ a b, (part t xs off).run P w = .ok a w /\ (part t ys off).run P w = .ok b w /\ (Op.equalIn (f + (d + 1)) t a b).run P w = .ok q w /\ (Zcu P t = true -> a = .agg (xs.extract off (off + ks.length)) /\ b = .agg (ys.extract off (off + ks.length))) := by
    intro k hk hT hg hq
    subst hk
    obtain ⟨a, b, rfl, rfl, hc⟩ := Zok he
    obtain ⟨va, ja, ua⟩ := ha 0 a rfl
    obtain ⟨vb, j9, ub⟩ := hb 0 b rfl
    exact ⟨va, vb, Zar hT hg ja, Zar hT hg j9, hq a b hc va vb ua ub, fun h => by rw [hg] at h; cases h⟩
   unfold eqT at ht
   split at ht
   . rename_i hu
     simp only [dM] at ht
     refine j0 2 ht.symm (by simp [Zcn, hu, hi (by simp [hu])]) (by simp [Zcu, hu]) (fun a b hc va vb ua ub => ?_)
     obtain ⟨m, n, rfl, rfl, rfl⟩ := Zx2 hc
     rw [ua _ rfl, ub _ rfl, run_equalIn_bool' w _ t m n hu]
     congr 1
   . rename_i k' hu
     simp only [dM] at ht
     refine j0 0 ht.symm (by simp [Zcn, hu, hi (by simp [hu])]) (by simp [Zcu, hu]) (fun a b hc va vb ua ub => ?_)
     obtain ⟨k, m, n, rfl, rfl, rfl⟩ := Zxq hc
     rw [ua _ rfl, ub _ rfl, run_equalIn_int w _ t k k' m n hu]
     congr 1
   . rename_i hu
     simp only [dM] at ht
     refine j0 1 ht.symm (by simp [Zcn, hu, hi (by simp [hu])]) (by simp [Zcu, hu]) (fun a b hc va vb ua ub => ?_)
     obtain ⟨m, n, rfl, rfl, rfl⟩ := Zue hc
     rw [ua _ rfl, ub _ rfl, run_equalIn_string w _ t m n hu, Zww]
   . rename_i fs hu
     split at ht
     . cases ht
     . rename_i j4
       obtain ⟨j6, j7, ht⟩ := Z6 ht
       split at ht
       . rename_i j2
         simp only [dM] at ht
         subst ht
         have hT : Zcn P t = true := by simp [Zcn, hu, hi (by simp [hu])]
         have hg : Zcu P t = true := by simp [Zcu, hu]
         have hl := Z55 he
         refine ⟨_, _, Zio hT hg xs off, Zio hT hg ys off, ?_, fun _ => by rw [j2]; exact ⟨rfl, rfl⟩⟩
         have hf : P.fieldsOf t = fs := by simp [Program.fieldsOf, hu]
         rw [show f + (d + 1) = f + d + 1 from rfl, run_equalIn_struct (P := P) w (f + d) t _ _ (by rw [hf]; exact hu) (by simp only [not_or] at j4; simpa using j4.1), hf]
         have key : ∀ (fl : List Field) (n : Nat) (r : List Nat) (a2 b2 : List A) (q2 : Bool), Y8k (eqT P d) fl n = some r -> X2 r a2 b2 = some q2 ->
          StandAt a2 (xs.extract off (off + P.cellsOf t)) n -> StandAt b2 (ys.extract off (off + P.cellsOf t)) n ->
          (Op.eqFields (f + d) (xs.extract off (off + P.cellsOf t)) (ys.extract off (off + P.cellsOf t)) fl).run P w = .ok q2 w := by
          intro fl
          induction fl with
          | nil =>
            intro n r a2 b2 q2 hr hq _ _
            simp only [Y8k, dM] at hr
            subst hr
            match a2, b2, hq with
            | [], [], hq => simp [X2] at hq; subst hq; simp [Op.eqFields]
            | [], _ :: _, hq => simp [X2] at hq
            | _ :: _, _, hq => simp [X2] at hq
          | cons fd fl ih =>
            intro n r a2 b2 q2 hr hq h1 h2
            unfold Y8k at hr
            split at hr
            . rename_i j3
              obtain ⟨rfl, j1⟩ := j3
              obtain ⟨k1, j8, hr⟩ := Z6 hr
              obtain ⟨r1, jb, hr⟩ := Z6 hr
              simp only [dM] at hr
              subst hr
              obtain ⟨a1, a3, b1, b3, p, r', rfl, rfl, e1, e2, rfl⟩ := Zey hq
              have j5 := Z55 e1
              obtain ⟨va, vb, pa, pb, hE, _⟩ := Zov d f j8 e1 h1.cut.1 h2.cut.1
              exact Zzb j1 pa pb hE (ih _ r1 a3 b3 r' jb e2 (by have := h1.cut.2; rwa [j5.1] at this) (by have := h2.cut.2; rwa [j5.2] at this))
            . cases hr
         have hs : ∀ {as : List A} {xs : Array Value}, as.length = j6.length -> StandAt as xs off -> StandAt as (xs.extract off (off + P.cellsOf t)) 0 := by
          intro as xs hl h i a ha
          obtain ⟨v, hv, u⟩ := h i a ha
          refine ⟨v, ?_, u⟩
          have hi : i < as.length := (dU.1 ha).1
          have hx : off + i < xs.size := (eC.1 hv).1
          rw [dF, Array.getElem?_extract, if_pos (by omega)]
          exact hv
         exact key fs.toList 0 j6 as bs q j7 he (hs hl.1 ha) (hs hl.2 hb)
       . cases ht
   . cases ht
end Go.Vm
namespace Go.Vm
variable {P : Program} {C : Rho} {S : Nat -> Prop} {w : World} {B : Nat} {h : Hp}
theorem X7 {t e : TypeId} (he : Z82 P t e = true) : P.underlying t = some (.slice e) := by
 unfold Z82 at he
 split at he
 . rename_i e' h'; rw [h']; simp at he; rw [he]
 . cases he
theorem Zvn {str : Bool} {v u : A} {x : Value} (r : R P C S w v x) (e : Zt6 str v = some u) {t : TypeId}
 (ht : (match P.underlying t with | some .string => str | some (.slice _) => !str | _ => false) = true) (ty : TypeId) :
 ∃ y, (Builtin.len_ #[t] ty #[x]).run P w = .ok y w /\ R P C S w u y := by
 split at ht
 . rename_i hu
   subst ht
   cases r with
   | v x hx =>
     cases x <;> simp only [Zt6, reduceCtorEq, cond_true, dM] at e
     subst e
     exact ⟨_, by simp [Builtin.len_, run_underlying hu, goInt], .v _ rfl⟩
   | _ => simp [Zt6] at e
 . rename_i el hu
   have hs : str = false := by simpa using ht
   subst hs
   cases r with
   | lit ty' rows a cap Y hcap hl hc hr =>
     simp only [Zt6, cond_false, dM] at e
     subst e
     exact ⟨_, by simp [Builtin.len_, run_underlying hu, goInt], .v _ rfl⟩
   | ref ty' b off len cap ex k sz c a hb hty hcap hex ha hlen hk =>
     simp only [Zt6, cond_false, dM] at e
     subst e
     exact ⟨_, by simp [Builtin.len_, run_underlying hu, goInt], .v _ rfl⟩
   | nil ty' b ex hb =>
     simp only [Zt6, cond_false, dM] at e
     subst e
     exact ⟨_, by simp [Builtin.len_, run_underlying hu, goInt], .v _ rfl⟩
   | v x hx => cases x <;> simp [Zt6] at e
   | _ => simp [Zt6] at e
 . cases ht
theorem Zzl (H : HR P C S w B h) {t e : TypeId} {a i u : A} {x y : Value} (ra : R P C S w a x) (ri : R P C S w i y) (he : Z82 P t e = true) (hT : Zcn P e = true) (hz : P.cellsOf e ≠ 0)
 (eq : iaA e a i = some u) : ∃ z, (Instr.indexAt t x y).run P w = .ok z w /\ R P C S w u z := by
 obtain ⟨⟨j7, j1⟩, _⟩ := Z8p hT
 have hu := X7 he
 cases ra with
 | ref ty b off len cap ex k sz c ad hb hty hcap hex ha hlen hk =>
   cases ri with
   | v y hy =>
     cases y <;> simp only [iaA, reduceCtorEq] at eq
     rename_i kd n
     split at eq
     . rename_i hc
       obtain ⟨rfl, h0, h1⟩ := hc
       simp only [dM] at eq
       subst eq
       have j4 := ha (by omega)
       subst j4
       refine ⟨.pointer (some ⟨k, (off + n.toNat) * sz + 0, none⟩), ?_, .ptr b _ 0 k sz hb⟩
       simp only [Instr.indexAt, asIntOf, dE, gP, cX, run_underlying hu, run_sizeOf w j1, h0, h1, and_self, if_true]
       simp only [Z08, <- hty, dL, fM]
     . cases eq
   | _ => simp [iaA] at eq
 | nil ty b ex hb =>
   cases ri with
   | v y hy =>
     cases y <;> simp only [iaA, reduceCtorEq] at eq
     split at eq
     . rename_i hc; omega
     . cases eq
   | _ => simp [iaA] at eq
 | lit ty rows ad cap Y hcap hl hc hr =>
   cases ri with
   | v y hy =>
     cases y <;> simp only [iaA, reduceCtorEq] at eq
     rename_i kd n
     split at eq
     . rename_i j5
       obtain ⟨rfl, h0⟩ := j5
       obtain ⟨row, j0, eq⟩ := Z6 eq
       simp only [dM] at eq
       subst eq
       have hlt : n.toNat < rows.length := (dU.1 j0).1
       have j6 := hl _ _ j0
       . have j3 : 0 < row.length := by omega
         obtain ⟨k, o, rfl, hk, _⟩ := hc n.toNat row 0 row[0] j0 (dS j3)
         refine ⟨.pointer (some ⟨k, (o + n.toNat * P.cellsOf ty) + 0, none⟩), ?_, .pl row 0 k (o + n.toNat * P.cellsOf ty) (Y n.toNat) (fun _ => hk) (fun j x hx => ?_) (fun j x hx => hr _ _ _ _ j0 hx)⟩
         . have h1 : n < (rows.length : Int) := by omega
           simp only [Instr.indexAt, asIntOf, dE, gP, cX, run_underlying hu, run_sizeOf w j1, h0, h1, and_self, if_true]
           simp only [Z08, fM]
         . obtain ⟨k', o', e', _, j2⟩ := hc n.toNat row j x j0 hx
           simp only [dM, Addr.mk.injEq, and_true] at e'
           obtain ⟨rfl, rfl⟩ := e'
           rw [<- j2]
     . cases eq
   | _ => simp [iaA] at eq
 | _ => simp [iaA] at eq
theorem Y1t {t : TypeId} {a i u : A} {x y : Value} (ra : R P C S w a x) (ri : R P C S w i y) (he : Y29 P t = true) (eq : ixA a i = some u) :
 ∃ z, (Instr.index t x y).run P w = .ok z w /\ R P C S w u z := by
 have hu : P.underlying t = some .string := by
  unfold Y29 at he
  split at he
  . assumption
  . cases he
 cases ra with
 | v x hx =>
   cases ri with
   | v y hy =>
     cases x <;> cases y <;> simp only [ixA, reduceCtorEq] at eq
     rename_i s kd n
     split at eq
     . rename_i h0
       obtain ⟨c, hc, eq⟩ := Z6 eq
       simp only [dM] at eq
       subst eq
       refine ⟨_, ?_, .v _ rfl⟩
       have hlt : n.toNat < s.size := by
        have := (dU.1 hc).1
        simpa using this
       have hb : s[n.toNat]? = some c := by
        have h2 : s[n.toNat]? = some s[n.toNat] := getElem?_pos s n.toNat hlt
        rw [h2]
        have h3 := (dU.1 hc).2
        congr 1
       simp only [Instr.index, asIntOf, dE, gP, cX, run_underlying hu, h0, if_true, hb]
     . cases eq
   | _ => cases x <;> simp [ixA] at eq
 | _ => simp [ixA] at eq
theorem Y04 {s : TypeId} {f off : Nat} {a u : A} {x : Value} (ra : R P C S w a x)
 (hf : ∃ fs fl, P.underlying s = some (.struct fs) /\ fs[f]? = some fl /\ fl.offset = off /\ Zcn P fl.type = true /\ P.cellsOf fl.type ≠ 0) (eq : faA off a = some u) :
 ∃ z, (Instr.fieldAt s x f).run P w = .ok z w /\ R P C S w u z := by
 obtain ⟨fs, fl, hu, j1, rfl, hT, hz⟩ := hf
 obtain ⟨⟨j2, j0⟩, _⟩ := Z8p hT
 have go : ∀ k o, x = .pointer (some ⟨k, o, none⟩) -> (Instr.fieldAt s x f).run P w = .ok (.pointer (some ⟨k, o + fl.offset, none⟩)) w := by
  rintro k o rfl
  simp only [Instr.fieldAt, dE, run_underlying hu, cX, j1, Instr.sureAddr, gP, fieldPlace, run_sizeOf w j0, if_neg hz, Z08]
 cases ra with
 | ptr b i j k sz hb =>
   simp only [faA, dM] at eq
   subst eq
   refine ⟨_, go _ _ rfl, ?_⟩
   rw [gE]
   exact .ptr b i (j + fl.offset) k sz hb
 | pl row j k o Y hk hc hr =>
   simp only [faA, dM] at eq
   subst eq
   refine ⟨_, go _ _ rfl, ?_⟩
   rw [gE]
   exact .pl row (j + fl.offset) k o Y hk hc hr
 | _ => simp [faA] at eq
theorem Zvh {s : TypeId} {f off n : Nat} {g : Bool} {a u : A} {x : Value} (ra : R P C S w a x)
 (hf : ∃ fs fl, P.underlying s = some (.struct fs) /\ fs[f]? = some fl /\ fl.offset = off /\ P.cellsOf fl.type = n /\ Zcn P fl.type = true /\ g = Zcu P fl.type) (eq : Y6f off n g a = some u) :
 ∃ z, (Instr.field s x f).run P w = .ok z w /\ R P C S w u z := by
 obtain ⟨fs, fl, hu, j3, rfl, rfl, hT, rfl⟩ := hf
 cases ra with
 | agg cs vs hl hr =>
   simp only [Y6f] at eq
   split at eq
   . rename_i j4
     have j0 : (Instr.field s (.agg vs.toArray) f).run P w = (part fl.type vs.toArray fl.offset).run P w := by
      simp only [Instr.field, dE, run_underlying hu, cX, j3, asAgg, gP]
     cases hg : Zcu P fl.type with
     | true =>
       rw [hg] at eq
       simp only [val, dM] at eq
       subst eq
       refine ⟨_, by rw [j0]; exact Zio hT hg _ _, ?_⟩
       have he : vs.toArray.extract fl.offset (fl.offset + P.cellsOf fl.type) = ((vs.drop fl.offset).take (P.cellsOf fl.type)).toArray := by
        apply Array.ext'
        simp [List.extract_eq_take_drop]
       rw [he]
       refine .agg _ _ (by simp [seg, hl]) (fun i y v hy hv => ?_)
       rw [Zjj] at hy
       rw [dB] at hv
       split at hy
       . rename_i hi
         rw [if_pos hi, eX] at hv
         exact hr _ _ _ hy hv
       . cases hy
     | false =>
       rw [hg] at eq
       simp only [val] at eq
       split at eq
       . simp at *
       . rename_i a1 _ j1
         simp only [dM] at eq
         subst eq
         have j2 := congrArg List.length j1
         simp [seg] at j2
         have hn : P.cellsOf fl.type = 1 := by omega
         have h0 : (seg cs fl.offset (P.cellsOf fl.type))[0]? = some a1 := by rw [j1]; rfl
         rw [Zjj, hn] at h0
         simp at h0
         have hlt : fl.offset < vs.length := by have := (dU.1 h0).1; omega
         refine ⟨vs[fl.offset], ?_, hr _ _ _ h0 (dS hlt)⟩
         rw [j0]
         exact Zar hT hg (by simp [dS hlt])
       . cases eq
   . cases eq
 | _ => simp [Y6f] at eq
theorem Y0l {a u : A} {x : Value} {i : Nat} (ra : R P C S w a x) (eq : exA i a = some u) : ∃ z, (Instr.extract x i).run P w = .ok z w /\ R P C S w u z := by
 cases ra with
 | tup cs vs hl hr =>
   simp only [exA] at eq
   have hlt : i < vs.length := by have := (dU.1 eq).1; omega
   exact ⟨vs[i], by simp [Instr.extract, dS hlt], hr _ _ _ eq (dS hlt)⟩
 | _ => simp [exA] at eq
theorem Y0p {s t : TypeId} {k : IntKind} {a u : A} {x : Value} (ra : R P C S w a x) (ht : Y7b P t k = true) (hs : (P.underlying s).isSome = true) (eq : cvA k a = some u) :
 ∃ z, (convert s t x).run P w = .ok z w /\ R P C S w u z := by
 have hu : P.underlying t = some (.int k) := by
  unfold Y7b at ht
  split at ht
  . rename_i k' h'; rw [h']; simp at ht; rw [ht]
  . cases ht
 obtain ⟨ds, j0⟩ := eW.1 hs
 cases ra with
 | v x hx =>
   cases x <;> simp only [cvA, reduceCtorEq, dM] at eq
   subst eq
   rename_i k' n
   refine ⟨.int k (k.wrap n), ?_, .v _ rfl⟩
   simp only [convert, dE, run_underlying j0, run_underlying hu, cX]
   cases ds <;> rfl
 | _ => simp [cvA] at eq
theorem Y9z {a u : A} {x : Value} (ra : R P C S w a x) (eq : nlA a = some u) (o : Oper) (y : Operand) (ho : o.op = .nilCheck y) (C' : Operand -> Value) (hy : C' y = x) :
 (execOp C' o).run P w = .ok (.value x) w /\ R P C S w u x := by
 have : u = a := by cases a <;> simp [nlA] at eq <;> exact eq.symm
 subst this
 refine ⟨?_, ra⟩
 cases ra with
 | ptr b i j k sz hb => simp [execOp, ho, hy]
 | pl row j k o' Y hk hc hr => simp [execOp, ho, hy]
 | fn f caps vs hl hr => simp [execOp, ho, hy]
 | _ => simp [nlA] at eq
theorem Zur {ng : Bool} {a b u : A} {x y : Value} (ra : R P C S w a x) (rb : R P C S w b y) {t : TypeId} (ht : P.underlying t = some .bool) (p q : Operand) (op : BinOp)
 (hop : (match op with | .eql => !ng | .neq => ng | _ => false) = true) (eq : Y3b ng a b = some u) :
 ∃ z, (do eqGuard op t p q x y; binOp op t x y : Sem Value).run P w = .ok z w /\ R P C S w u z := by
 cases ra with
 | v x hx =>
   cases rb with
   | v y hy =>
     cases x <;> cases y <;> simp only [Y3b, reduceCtorEq, dM] at eq
     subst eq
     rename_i m n
     refine ⟨_, ?_, .v _ rfl⟩
     simp only [dE, Zrn, cX]
     cases op <;> simp only [eH] at hop
     . have hn : ng = false := by simpa using hop
       subst hn
       simp only [binOp, Op.equal, Op.maxDepth, dE, run_equalIn_bool' w 9999 t m n ht, cX, gP]
       cases m <;> cases n <;> rfl
     . subst hop
       simp only [binOp, Op.equal, Op.maxDepth, dE, run_equalIn_bool' w 9999 t m n ht, cX, gP]
       cases m <;> cases n <;> rfl
   | _ => cases x <;> simp [Y3b] at eq
 | _ => simp [Y3b] at eq
theorem Ztr {ks : List Nat} {ng : Bool} {a b u : A} {x y : Value} (ra : R P C S w a x) (rb : R P C S w b y) {t : TypeId} (ht : eqT P 8 t = some ks) (hg : Zcu P t = true)
 (hq : P.eqGuardType P.depth t = false) (p q : Operand) (op : BinOp)
 (hop : (match op with | .eql => !ng | .neq => ng | _ => false) = true) (eq : Y4d ks ng a b = some u) :
 ∃ z, (do eqGuard op t p q x y; binOp op t x y : Sem Value).run P w = .ok z w /\ R P C S w u z := by
 cases ra with
 | agg xs vs hl hr =>
   cases rb with
   | agg ys us hl' hr' =>
     obtain ⟨r, j2, eq⟩ := Z6 eq
     simp only [dM] at eq
     subst eq
     have st : ∀ {cs : List A} {vs : List Value}, vs.length = cs.length -> (∀ (i : Nat) (x : A) (y : Value), cs[i]? = some x -> vs[i]? = some y -> R P C S w x y) -> StandAt cs vs.toArray 0 := by
      intro cs vs hl hr i a ha
      have hlt : i < vs.length := by have := (dU.1 ha).1; omega
      refine ⟨vs[i], by simp [dS hlt], fun u hu => ?_⟩
      have := hr i a _ ha (dS hlt)
      rw [hu] at this
      exact (R.v_inv this).1
     have j3 := Z55 j2
     obtain ⟨va, vb, _, _, hE, j1⟩ := Zov (P := P) (w := w) 8 9992 ht j2 (st hl hr) (st hl' hr')
     obtain ⟨ea, eb⟩ := j1 hg
     have j0 : ∀ (vs : List Value), vs.length = ks.length -> vs.toArray.extract 0 (0 + ks.length) = vs.toArray := by
      intro vs h
      rw [dF, <- h]
      simp
     rw [j0 vs (by omega)] at ea
     rw [j0 us (by omega)] at eb
     subst ea eb
     refine ⟨_, ?_, .v _ rfl⟩
     simp only [dE, run_eqGuard_agg w op t p q _ _ hq, cX]
     cases op <;> simp only [eH] at hop
     . have hn : ng = false := by simpa using hop
       subst hn
       rw [run_eql_struct, hE]
       rfl
     . subst hop
       rw [run_neq_struct, hE]
       rfl
   | _ => simp [Y4d] at eq
 | _ => simp [Y4d] at eq
theorem Zvs {mx : Bool} {a b u : A} {x y : Value} (ra : R P C S w a x) (rb : R P C S w b y) (eq : Zzo mx a b = some u) (t : Array TypeId) (ty : TypeId) :
 ∃ z, ((if mx then Builtin.max_ t ty #[x, y] else Builtin.min_ t ty #[x, y])).run P w = .ok z w /\ R P C S w u z := by
 cases ra with
 | v x hx =>
   cases rb with
   | v y hy =>
     cases x <;> cases y <;> simp only [Zzo, reduceCtorEq] at eq
     rename_i k m k' n
     split at eq
     . rename_i hk
       subst hk
       simp only [dM] at eq
       subst eq
       cases mx
       . refine ⟨_, ?_, .v _ rfl⟩
         simp [Builtin.min_, Builtin.min2]
         split <;> omega
       . refine ⟨_, ?_, .v _ rfl⟩
         simp [Builtin.max_, Builtin.max2]
         split <;> omega
     . cases eq
   | _ => cases x <;> simp [Zzo] at eq
 | _ => simp [Zzo] at eq
theorem Zoh {a : A} {q : Bool} (e : isQ a = some q) : a = .v (.bool q) := by
 cases a with
 | v x => cases x <;> simp [isQ] at e; subst e; rfl
 | _ => simp [isQ] at e
structure Stands (P : Program) (C0 : Rho) (S : Nat -> Prop) (w : World) (sz : Nat) (rows : List (List A)) (ad : Option Addr) : Prop where
 len : ∀ (i : Nat) (row : List A), rows[i]? = some row -> row.length = sz /\ Zi row = true
 cell : ∀ (i : Nat) (row : List A) (j : Nat) (x : A), rows[i]? = some row -> row[j]? = some x ->
  ∃ k off v, ad = some ⟨k, off, none⟩ /\ w.cell? ⟨k, off + (i * sz + j), none⟩ = some v /\ R P C0 S w x v
theorem Zi8 {a b : Bool} (h : imp a b = true) : Rho.le (inR a C) (inR b C) := by
 cases a
 . exact Zjx _
 . cases b
   . cases h
   . exact fun _ _ e => e
theorem Zr7 {e : Nat} {a : A} {rows : List (List A)} (eq : rowsOf e h a = some rows) : Zae false e h a = some rows := by
 cases a with
 | lit ty r => exact eq
 | ref ty b off len cap ex =>
   obtain ⟨k, hk, e1⟩ := Z6 eq
   simp only [Zae, hk, bnd]
   split at e1
   . rename_i hc
     rw [if_pos ⟨hc.1, by rw [hc.2.1]; rfl, hc.2.2⟩]
     exact e1
   . cases e1
 | _ => simp [rowsOf] at eq
theorem Zdo (H : HR P C S w B h) {bx : Bool} {e : Nat} {a : A} {x : Value} {rows : List (List A)} (eq : Zae bx e h a = some rows) (r : R P C S w a x) :
 ∃ ad cap, x = .slice ad rows.length cap /\ rows.length <= cap /\ Stands P (inR bx C) S w (P.cellsOf e) rows ad := by
 cases r with
 | lit ty rows' ad cap Y hcap hl hc hr =>
   simp only [Zae] at eq
   split at eq
   . rename_i ht
     subst ht
     simp only [dM] at eq
     subst eq
     refine ⟨ad, cap, rfl, hcap, ⟨hl, fun i row j x h1 h2 => ?_⟩⟩
     obtain ⟨k, off, e1, _, j0⟩ := hc i row j x h1 h2
     exact ⟨k, off, _, e1, by rw [<- gE]; exact j0, (hr i row j x h1 h2).up⟩
   . cases eq
 | ref ty b off len cap ex k sz c ad hb hty hcap hex ha hlen hk =>
   obtain ⟨blk, j3, j1⟩ := Z6 eq
   clear eq
   split at j1
   . rename_i hc
     have eq : (blk.rows.drop off).take len = rows := by simpa using j1
     clear j1
     obtain ⟨rfl, j5, j8⟩ := hc
     have j6 : rows.length = len := by rw [<- eq]; simp; omega
     rcases H.at_ b blk j3 with ⟨k', sz', j2, hB⟩ | ⟨j2, _⟩
     . rw [hb] at j2
       simp only [dM, dV] at j2
       obtain ⟨rfl, rfl⟩ := j2
       obtain ⟨cs, j7, _, j0⟩ := hB.heap
       have j4 : ∀ (i : Nat) (row : List A), rows[i]? = some row -> blk.rows[off + i]? = some row := by
        intro i row h
        rw [<- eq, dB] at h
        split at h
        . rwa [eX] at h
        . cases h
       refine ⟨ad, c, by rw [j6], by omega, ⟨fun i row h => by rw [<- hB.sz_eq]; exact hB.rows _ _ (j4 i row h), fun i row j x h1 h2 => ?_⟩⟩
       have hi : i < len := by have := (dU.1 h1).1; omega
       obtain ⟨v, hv, hr⟩ := j0 (off + i) row j x (j4 i row h1) h2
       refine ⟨k, off * sz, v, ha (by omega), ?_, hr.mono (Zi8 j5) (fun _ h => h) (Ext.refl _ _)⟩
       rw [<- hB.sz_eq]
       have : off * sz + (i * sz + j) = (off + i) * sz + j := by rw [dL]; omega
       simp [World.cell?, j7, this, hv]
     . rw [hb] at j2; simp at j2
   . cases j1
 | nil ty b ex hb =>
   obtain ⟨blk, j3, j1⟩ := Z6 eq
   clear eq
   split at j1
   . simp only [hZ, dM] at j1
     subst j1
     exact ⟨none, 0, rfl, dO _, ⟨fun i row h => by simp at h, fun i row j x h => by simp at h⟩⟩
   . cases j1
 | _ => simp [Zae] at eq
theorem Zt0 (H : HR P C S w B h) {e : Nat} {a : A} {x : Value} {rows : List (List A)} (eq : rowsOf e h a = some rows) (r : R P C S w a x) :
 ∃ ad cap, x = .slice ad rows.length cap /\ rows.length <= cap /\ Stands P Yy S w (P.cellsOf e) rows ad := Zdo H (Zr7 eq) r
theorem Y2e {i j sz : Nat} (hj : j < sz) : (i * sz + j) / sz = i /\ (i * sz + j) % sz = j := by
 have hz : 0 < sz := by omega
 constructor
 . rw [gJ, Nat.mul_add_div hz, Nat.div_eq_of_lt hj, fM]
 . rw [gJ, Nat.mul_add_mod, Nat.mod_eq_of_lt hj]
theorem Stands.load {C0 : Rho} {sz : Nat} {rows : List (List A)} {ad : Option Addr} (hs : Stands P C0 S w sz rows ad) (cap : Nat) :
 ∃ vs : List Value, vs.length = rows.length * sz /\ (∀ (m : Nat) (w' : World), w'.heap = w.heap -> (Builtin.firstCells sz rows.length (.slice ad m cap)).run P w' = .ok vs.toArray w') /\
  ∀ (i : Nat) (row : List A) (j : Nat) (x : A), rows[i]? = some row -> row[j]? = some x -> ∃ v, vs[i * sz + j]? = some v /\ R P C0 S w x v := by
 cases ad with
 | none =>
   have hz : rows.length * sz = 0 := by
    cases rows with
    | nil => simp
    | cons row rows =>
      have hl := (hs.len 0 row rfl).1
      cases row with
      | nil => simp at hl; simp [<- hl]
      | cons x row =>
        obtain ⟨k, off, v, e, _⟩ := hs.cell 0 (x :: row) 0 x rfl rfl
        cases e
   refine ⟨[], by simp [hz], fun _ _ _ => rfl, fun i row j x h1 h2 => ?_⟩
   obtain ⟨k, off, v, e, _⟩ := hs.cell i row j x h1 h2
   cases e
 | some ad =>
   refine ⟨(List.range (rows.length * sz)).map fun m => (w.cell? (ad.add m)).getD undef, by simp, ?_, fun i row j x h1 h2 => ?_⟩
   . intro _ w' j1
     have j2 : ∀ a, w'.cell? a = w.cell? a := fun a => by simp [World.cell?, j1]
     refine run_loadCells w' ad (rows.length * sz) _ (fun m hm => ?_)
     rw [j2]
     have hz : 0 < sz := by
      rcases Nat.eq_zero_or_pos sz with h | h
      . subst h; simp at hm
      . exact h
     have hi : m / sz < rows.length := Nat.div_lt_of_lt_mul (by rw [gJ]; exact hm)
     have j0 : rows[m / sz]? = some rows[m / sz] := dS hi
     have hl := (hs.len _ _ j0).1
     have hj : m % sz < rows[m / sz].length := by rw [hl]; exact Nat.mod_lt _ hz
     obtain ⟨k, off, v, e, hv, _⟩ := hs.cell _ _ _ _ j0 (dS hj)
     simp only [dM] at e
     subst e
     have j3 : m / sz * sz + m % sz = m := by rw [gJ]; exact Nat.div_add_mod m sz
     rw [j3] at hv
     rw [Z08, hv]
     rfl
   . obtain ⟨k, off, v, e, hv, hr⟩ := hs.cell i row j x h1 h2
     simp only [dM] at e
     subst e
     have hl := (hs.len _ _ h1).1
     have hj : j < sz := by have := (dU.1 h2).1; omega
     have hi : i < rows.length := (dU.1 h1).1
     have hlt : i * sz + j < rows.length * sz := by
      have : (i + 1) * sz <= rows.length * sz := cZ _ hi
      rw [dL] at this
      omega
     refine ⟨v, ?_, hr⟩
     simp only [eN, fY hlt, fG, Z08, hv, dD]
theorem Ztx (H : HR P C S w B h) {s t e : TypeId} {a : A} {x : Value} {rows : List (List A)} {l : List UInt8} (ra : R P C S w a x) (hs : Z82 P s e = true) (ht : Y29 P t = true) (he : Y7b P e .u8 = true)
 (hT : Zcn P e = true) (eq : rowsOf e h a = some rows) (hl : Z6b rows = some l) : (convert s t x).run P w = .ok (.string ⟨l.toArray⟩) w := by
 obtain ⟨ad, cap, rfl, je, j3⟩ := Zt0 H eq ra
 have jd := X7 hs
 have j8 : P.underlying t = some .string := by
  unfold Y29 at ht
  split at ht
  . assumption
  . cases ht
 have jb : P.underlying e = some (.int .u8) := by
  unfold Y7b at he
  split at he
  . rename_i k' h'; rw [h']; simp at he; rw [he]
  . cases he
 have hb : ∀ (rows : List (List A)) (l : List UInt8), Z6b rows = some l -> ∃ ns : List Int, rows = ns.map (fun n => [A.v (.int .u8 n)]) /\ l = ns.map fun n => UInt8.ofNat n.toNat := by
  intro rows
  induction rows with
  | nil => intro l h; simp [Z6b] at h; exact ⟨[], rfl, by simp [h]⟩
  | cons row rows ih =>
    intro l h
    unfold Z6b at h
    split at h
    . cases ‹row :: rows = []›
    . rename_i n r j0
      cases j0
      split at h
      . rename_i l' jc
        simp only [dM] at h
        obtain ⟨ns, rfl, rfl⟩ := ih l' jc
        exact ⟨n :: ns, rfl, by simp [<- h]⟩
      . cases h
    . cases h
 obtain ⟨ns, j1, j4⟩ := hb rows l hl
 have j5 : ∀ r, (convert s t (.slice ad rows.length cap)).run P w = r ↔ (Conv.bytesToString (.slice ad rows.length cap)).run P w = r := by
  intro r
  simp only [convert, dE, run_underlying jd, run_underlying j8, run_underlying jb, cX]
 rw [j5]
 obtain ⟨vs, hvl, j2, j6⟩ := j3.load cap
 cases hrows : rows with
 | nil =>
   subst hrows
   have : ns = [] := by cases ns with | nil => rfl | cons _ _ => simp at j1
   subst this
   simp at j4
   subst j4
   cases ad with
   | none => rfl
   | some ad =>
     have := run_bytesToString (P := P) w ad 0 cap [] (by simp [loadCells, loadCellsFrom])
     exact this
 | cons row rest =>
   have h0 : rows[0]? = some row := by rw [hrows]; rfl
   have j9 : 0 < ns.length := by
    cases ns with
    | nil => rw [hrows] at j1; simp at j1
    | cons _ _ => simp
   have j0 : row = [A.v (.int .u8 ns[0])] := by
    rw [j1, eN, dS j9] at h0
    simpa using h0.symm
   have j7 : P.cellsOf e = 1 := by have := (j3.len 0 row h0).1; rw [j0] at this; simpa using this.symm
   have ja : vs = ns.map (Value.int .u8) := by
    apply List.ext_getElem?
    intro i
    by_cases hi : i < ns.length
    . have hr : rows[i]? = some [A.v (.int .u8 ns[i])] := by rw [j1]; simp [dS hi]
      obtain ⟨v, hv, r⟩ := j6 i _ 0 _ hr rfl
      rw [j7, Nat.mul_one, fM] at hv
      rw [hv, (R.v_inv r).1]
      simp [dS hi]
    . have jg : vs.length = ns.length := by rw [hvl, j7, j1]; simp
      rw [eY (by omega), eY (by simp; omega)]
   have jf : rows.length = ns.length := by rw [j1]; simp
   rw [<- hrows]
   cases ad with
   | none =>
     obtain ⟨k, off, v, e', _⟩ := j3.cell 0 row 0 _ h0 (by rw [j0]; rfl)
     cases e'
   | some ad =>
     have hL : (loadCells ad rows.length).run P w = .ok (ns.map (Value.int .u8)).toArray w := by
      have := j2 rows.length w rfl
      simp only [Builtin.firstCells, j7, Nat.mul_one] at this
      rw [this, ja]
     rw [run_bytesToString (P := P) w ad rows.length cap ns hL]
     congr 2
     rw [j4]
     have push : ∀ (ns : List Int) (b : ByteArray), ns.foldl (fun r n => r.push (UInt8.ofNat n.toNat)) b = ⟨(b.data.toList ++ ns.map fun n => UInt8.ofNat n.toNat).toArray⟩ := by
      intro ns
      induction ns with
      | nil => intro b; simp
      | cons n ns ih =>
        intro b
        rw [List.foldl_cons, ih]
        congr 1
        simp [ByteArray.push]
     rw [push]
     rfl
theorem Zor {s : TypeId} {f off : Nat} (e : (match P.underlying s with | some (.struct fs) => (match fs[f]? with | some fl => decide (fl.offset = off) && Zcn P fl.type && decide (P.cellsOf fl.type ≠ 0) | none => false) | _ => false) = true) :
 ∃ fs fl, P.underlying s = some (.struct fs) /\ fs[f]? = some fl /\ fl.offset = off /\ Zcn P fl.type = true /\ P.cellsOf fl.type ≠ 0 := by
 split at e
 . rename_i fs hu
   split at e
   . rename_i fl j0
     simp only [dQ, eJ] at e
     exact ⟨fs, fl, hu, j0, e.1.1, e.1.2, e.2⟩
   . cases e
 . cases e
theorem Zkn {s : TypeId} {f off n : Nat} {g : Bool} (e : (match P.underlying s with | some (.struct fs) => (match fs[f]? with | some fl => decide (fl.offset = off) && decide (P.cellsOf fl.type = n) && Zcn P fl.type && decide (g = Zcu P fl.type) | none => false) | _ => false) = true) :
 ∃ fs fl, P.underlying s = some (.struct fs) /\ fs[f]? = some fl /\ fl.offset = off /\ P.cellsOf fl.type = n /\ Zcn P fl.type = true /\ g = Zcu P fl.type := by
 split at e
 . rename_i fs hu
   split at e
   . rename_i fl j0
     simp only [dQ, eJ] at e
     exact ⟨fs, fl, hu, j0, e.1.1.1, e.1.1.2, e.1.2, e.2⟩
   . cases e
 . cases e
theorem Zvf (H : HR P C S w B h) {E : Env} {get : Opd -> Option A} {pk : Bool -> Opd -> Option Bool} {ev' : Operand -> Value}
 (hget : ∀ x y v, Yx x y = true -> get y = some v -> R P C S w v (ev' x)) (hpk : ∀ (q : Bool) x y b, Yx x y = true -> pk q y = some b -> q = true -> ev' x = .bool b)
 {ops : Array Oper} {o : Oper} {op : AOp} {v : A} (ok : Zyn P ops o op = true) (eq : Ya E h get pk op = some v) :
 ∃ x, (execOp ev' o).run P w = .ok (.value x) w /\ R P C S w v x := by
 unfold Zyn at ok
 split at ok
 . rename_i x d y ho
   exact ⟨_, by simp [execOp, ho], hget x y v ok eq⟩
 . rename_i x d y ho
   exact ⟨_, by simp [execOp, ho], hget x y v ok eq⟩
 . rename_i c a b d c' a' b' ho
   simp only [dQ] at ok
   obtain ⟨q, hq, j0⟩ := Z6 eq
   obtain ⟨cv, hc, hq⟩ := Z6 hq
   obtain ⟨p, hp, j1⟩ := Z6 j0
   obtain ⟨r, hr, j5⟩ := Z6 j1
   simp only [dM] at j5
   have j9 := Zoh hq
   subst j9
   have rc := R.v_inv (hget c c' _ ok.1.1 hc)
   subst j5
   cases q with
   | true => exact ⟨.bool p, by simp [execOp, ho, rc.1, asBool, hpk true a a' p ok.1.2 hp rfl], .v _ rfl⟩
   | false => exact ⟨.bool r, by simp [execOp, ho, rc.1, asBool, hpk true b b' r ok.2 hr rfl], .v _ rfl⟩
 . rename_i t p d n g q ho
   simp only [dQ, eJ] at ok
   obtain ⟨⟨⟨h1, rfl⟩, rfl⟩, hT⟩ := ok
   obtain ⟨⟨row, j⟩, j6, j0⟩ := Z6 eq
   obtain ⟨pv, hp, j6⟩ := Z6 j6
   obtain ⟨k, o', ja, j7⟩ := Zdt H j6 (hget p q pv h1 hp)
   obtain ⟨x, hx, hr⟩ := Zpq hT j7 j0
   refine ⟨x, ?_, hr⟩
   simp [execOp, ho, Instr.loadAt, Instr.sureAddr, ja, hx]
 . rename_i op' xt x y yt d op2 x' y' ho
   simp only [dQ, eJ] at ok
   obtain ⟨⟨rfl, h1⟩, h2⟩ := ok
   obtain ⟨av, ha, j0⟩ := Z6 eq
   obtain ⟨bv, hb, j1⟩ := Z6 j0
   have ra := hget x x' av h1 ha
   have rb := hget y y' bv h2 hb
   unfold Z8t at j1
   split at j1
   . rename_i a b
     obtain ⟨z, hz, j5⟩ := Z6 j1
     simp only [dM] at j5
     subst j5
     have e1 := (R.v_inv ra).1
     have e2 := (R.v_inv rb).1
     obtain ⟨j4, j8⟩ := Zws (P := P) (w := w) (t := xt) (x := x) (y := y) hz
     refine ⟨z, ?_, .v _ j8⟩
     simp only [execOp, ho, e1, e2, dE] at j4 ⊢
     rw [j4]
     rfl
   . cases j1
 . rename_i op' xt x y yt d ks neg x' y' ho
   simp only [dQ, eJ, hO] at ok
   obtain ⟨⟨⟨⟨⟨h1, h2⟩, h3⟩, h4⟩, h5⟩, h6⟩ := ok
   obtain ⟨av, ha, j0⟩ := Z6 eq
   obtain ⟨bv, hb, j1⟩ := Z6 j0
   obtain ⟨z, hz, hr⟩ := Ztr (hget x x' av h1 ha) (hget y y' bv h2 hb) h6 h5 h4 x y op' h3 j1
   refine ⟨z, ?_, hr⟩
   simp only [execOp, ho, dE] at hz ⊢
   rw [hz]
   rfl
 . rename_i op' xt x y yt d neg x' y' ho
   simp only [dQ] at ok
   obtain ⟨⟨⟨h1, h2⟩, h3⟩, h4⟩ := ok
   have hu : P.underlying xt = some .bool := by
    split at h4
    . assumption
    . cases h4
   obtain ⟨av, ha, j0⟩ := Z6 eq
   obtain ⟨bv, hb, j1⟩ := Z6 j0
   obtain ⟨z, hz, hr⟩ := Zur (hget x x' av h1 ha) (hget y y' bv h2 hb) hu x y op' h3 j1
   refine ⟨z, ?_, hr⟩
   simp only [execOp, ho, dE] at hz ⊢
   rw [hz]
   rfl
 . rename_i op' t x d op2 x' ho
   simp only [dQ, eJ] at ok
   obtain ⟨rfl, h1⟩ := ok
   obtain ⟨av, ha, j0⟩ := Z6 eq
   have ra := hget x x' av h1 ha
   unfold unA at j0
   split at j0
   . obtain ⟨z, hz, j5⟩ := Z6 j0
     simp only [dM] at j5
     subst j5
     obtain ⟨j4, j8⟩ := Zyh (P := P) (w := w) hz
     refine ⟨z, ?_, .v _ j8⟩
     simp only [execOp, ho, (R.v_inv ra).1, dE, j4]
     rfl
   . cases j0
 . rename_i s t x d k x' ho
   simp only [dQ] at ok
   obtain ⟨⟨⟨h1, h2⟩, h3⟩, h4⟩ := ok
   obtain ⟨av, ha, j0⟩ := Z6 eq
   obtain ⟨z, hz, hr⟩ := Y0p (hget x x' av h2 ha) h1 h4 j0
   exact ⟨z, by simp [execOp, ho, hz], hr⟩
 . rename_i s t x d e x' ho
   simp only [dQ] at ok
   obtain ⟨⟨⟨⟨h1, h2⟩, h3⟩, h4⟩, h5⟩ := ok
   obtain ⟨l, hl, j0⟩ := Z6 eq
   obtain ⟨rows, j3, hl⟩ := Z6 hl
   obtain ⟨av, ha, j3⟩ := Z6 j3
   simp only [dM] at j0
   subst j0
   have := Ztx H (hget x x' av h5 ha) h1 h2 h3 h4 j3 hl
   exact ⟨_, by simp [execOp, ho, this], .v _ rfl⟩
 . rename_i s x f d x' off ho
   simp only [dQ] at ok
   obtain ⟨av, ha, j0⟩ := Z6 eq
   obtain ⟨z, hz, hr⟩ := Y04 (hget x x' av ok.1 ha) (Zor ok.2) j0
   exact ⟨z, by simp [execOp, ho, hz], hr⟩
 . rename_i s x f d x' off n g ho
   simp only [dQ] at ok
   obtain ⟨av, ha, j0⟩ := Z6 eq
   obtain ⟨z, hz, hr⟩ := Zvh (hget x x' av ok.1 ha) (Zkn ok.2) j0
   exact ⟨z, by simp [execOp, ho, hz], hr⟩
 . rename_i t x i d e x' i' ho
   simp only [dQ, eJ] at ok
   obtain ⟨⟨⟨⟨h1, h2⟩, h3⟩, h4⟩, h5⟩ := ok
   obtain ⟨av, ha, j0⟩ := Z6 eq
   obtain ⟨iv, hi, j1⟩ := Z6 j0
   obtain ⟨z, hz, hr⟩ := Zzl H (hget x x' av h1 ha) (hget i i' iv h2 hi) h3 h4 h5 j1
   exact ⟨z, by simp [execOp, ho, hz], hr⟩
 . rename_i t x i d x' i' ho
   simp only [dQ] at ok
   obtain ⟨⟨h1, h2⟩, h3⟩ := ok
   obtain ⟨av, ha, j0⟩ := Z6 eq
   obtain ⟨iv, hi, j1⟩ := Z6 j0
   obtain ⟨z, hz, hr⟩ := Y1t (hget x x' av h1 ha) (hget i i' iv h2 hi) h3 j1
   exact ⟨z, by simp [execOp, ho, hz], hr⟩
 . rename_i x i d x' i' ho
   simp only [dQ, eJ] at ok
   obtain ⟨h1, rfl⟩ := ok
   obtain ⟨av, ha, j0⟩ := Z6 eq
   obtain ⟨z, hz, hr⟩ := Y0l (hget x x' av h1 ha) j0
   exact ⟨z, by simp [execOp, ho, hz], hr⟩
 . rename_i c d str x' ho
   simp only [dQ] at ok
   obtain ⟨h1, h2⟩ := ok
   obtain ⟨av, ha, j0⟩ := Z6 eq
   split at h1
   . rename_i x hc j2
     split at h2
     . rename_i t hts
       obtain ⟨z, hz, hr⟩ := Zvn (hget x x' av h1 ha) j0 h2 o.type
       refine ⟨z, ?_, hr⟩
       have e1 : c.args = #[x] := by have := congrArg List.toArray j2; simpa using this
       have e2 : c.argTypes = #[t] := by have := congrArg List.toArray hts; simpa using this
       simp [execOp, ho, resolve, hc, e1, e2, invoke, builtin, hz]
     . cases h2
   . cases h1
 . rename_i c d mx x' y' ho
   split at ok
   . rename_i b x y hc j2
     simp only [dQ] at ok
     obtain ⟨⟨h0, h1⟩, h2⟩ := ok
     obtain ⟨av, ha, j0⟩ := Z6 eq
     obtain ⟨bv, hb, j1⟩ := Z6 j0
     obtain ⟨z, hz, hr⟩ := Zvs (hget x x' av h1 ha) (hget y y' bv h2 hb) j1 c.argTypes o.type
     refine ⟨z, ?_, hr⟩
     have e1 : c.args = #[x, y] := by have := congrArg List.toArray j2; simpa using this
     cases b <;> simp only [eH] at h0
     . subst h0
       simp only [if_true] at hz
       simp [execOp, ho, resolve, hc, e1, invoke, builtin, hz]
     . have h0 : mx = false := by simpa using h0
       subst h0
       simp only [eH, if_false] at hz
       simp [execOp, ho, resolve, hc, e1, invoke, builtin, hz]
   . cases ok
 . rename_i x d x' ho
   obtain ⟨av, ha, j0⟩ := Z6 eq
   obtain ⟨h1, h2⟩ := Y9z (hget x x' av ok ha) j0 o x ho ev' rfl
   exact ⟨_, h1, h2⟩
 . cases ok
end Go.Vm
namespace Go.Vm
open Go.RowKit
variable {P : Program} {C C' C'' : Rho} {S S' S'' : Nat -> Prop} {w w' w'' : World} {B : Nat} {h : Hp}
structure Mv (B : Nat) (C : Rho) (S : Nat -> Prop) (w : World) (C' : Rho) (S' : Nat -> Prop) (w' : World) (iv : Nat -> Prop) : Prop where
 le : Rho.le C C'
 sub : ∀ k, S k -> S' k
 ext : Ext S w w'
 below : Below B w w'
 new : ∀ b, C b = none -> ¬ iv b -> C' b = none
 back : ∀ k, S' k -> S k \/ B <= k
theorem Mv.refl (B : Nat) (C : Rho) (S : Nat -> Prop) (w : World) (iv : Nat -> Prop) : Mv B C S w C S w iv :=
 ⟨fun _ _ h => h, fun _ h => h, Ext.refl _ _, Below.refl _ _, fun _ h _ => h, fun _ h => .inl h⟩
theorem Mv.trans {iv iv' : Nat -> Prop} (a : Mv B C S w C' S' w' iv) (b : Mv B C' S' w' C'' S'' w'' iv') : Mv B C S w C'' S'' w'' (fun x => iv x \/ iv' x) :=
 ⟨fun x l e => b.le x l (a.le x l e), fun k e => b.sub k (a.sub k e), a.ext.trans a.sub b.ext, a.below.trans b.below,
  fun x e n => b.new x (a.new x e (fun q => n (.inl q))) (fun q => n (.inr q)),
  fun k hk => by rcases b.back k hk with h | h; exact a.back k h; exact .inr h⟩
theorem Mv.wide {iv iv' : Nat -> Prop} (a : Mv B C S w C' S' w' iv) (hw : ∀ x, iv x -> iv' x) : Mv B C S w C' S' w' iv' :=
 ⟨a.le, a.sub, a.ext, a.below, fun x e n => a.new x e (fun q => n (hw x q)), a.back⟩
theorem Mv.R {iv : Nat -> Prop} (a : Mv B C S w C' S' w' iv) {v : A} {x : Value} (r : R P C S w v x) : R P C' S' w' v x := r.mono a.le a.sub a.ext
def Zja (C : Rho) (b : Nat) (l : Loc) : Rho := fun i => if i = b then some l else C i
theorem Zcr {b : Nat} {l : Loc} (hb : C b = none) : Rho.le C (Zja C b l) := fun i l' e => by
 unfold Zja
 split
 . rename_i hi; subst hi; rw [hb] at e; cases e
 . exact e
theorem Yv (b : Nat) (l : Loc) : Zja C b l b = some l := by simp [Zja]
theorem Z2k {b i : Nat} {l : Loc} (hi : i ≠ b) : Zja C b l i = C i := by simp [Zja, hi]
theorem Z2g {k : Nat} {o : Obj} (e : w.heap[k]? = some o) : k < w.heap.size := (eC.1 e).1
theorem Zk9 (S : Nat -> Prop) (hS : ∀ k, S k -> k < w.heap.size) (cs : Array Value) (ty : TypeId) : Ext S w (w.alloc (.cells cs ty)) :=
 ⟨fun k hk => Below.heap_alloc w _ k (hS k hk), fun k c t e => ⟨c, by rw [Below.heap_alloc w _ k (Z2g e)]; exact e, rfl⟩, fun k es cl e => by rw [Below.heap_alloc w _ k (Z2g e)]; exact e⟩
theorem Z5m (w : World) (o : Obj) : (w.alloc o).heap[w.heap.size]? = some o := by
 show (w.heap.push o)[w.heap.size]? = _
 simp
theorem BR.mono {blk : Blk} {k sz : Nat} (b : BR P C S w B blk k sz) (hle : Rho.le C C') (hsub : ∀ k, S k -> S' k) (hext : Ext S w w') (hk : S' k -> S k)
 (hsame : w'.heap[k]? = w.heap[k]?) : BR P C' S' w' B blk k sz := by
 refine ⟨b.sz_eq, b.base, fun h hs => b.own h (hk hs), fun h => hsub k (b.not_own h), b.rows, ?_⟩
 obtain ⟨c, hc, hs, j0⟩ := b.heap
 exact ⟨c, hsame.trans hc, hs, fun i row j x h1 h2 => by
  obtain ⟨y, hy, hr⟩ := j0 i row j x h1 h2
  exact ⟨y, hy, hr.mono (Y3f _ hle) hsub hext⟩⟩
theorem HR.mono (H : HR P C S w B h) (hle : Rho.le C C') (hext : Ext S w w') (hs : w.heap.size <= w'.heap.size)
 (hsame : ∀ b blk k sz, h b = some blk -> C b = some (some (k, sz)) -> w'.heap[k]? = w.heap[k]?) : HR P C' S w' B h := by
 refine ⟨fun b blk e => ?_, fun b b' k sz sz' blk blk' e1 e2 e3 e4 => ?_, fun k hk => fK (H.old k hk) hs, H.glob.mono (fun _ h => h) hext⟩
 . rcases H.at_ b blk e with ⟨k, sz, hb, hB⟩ | ⟨hb, r⟩
   . exact .inl ⟨k, sz, hle b _ hb, hB.mono hle (fun _ h => h) hext (fun h => h) (hsame b blk k sz e hb)⟩
   . exact .inr ⟨hle b _ hb, r⟩
 . have back : ∀ b blk k sz, h b = some blk -> C' b = some (some (k, sz)) -> C b = some (some (k, sz)) := by
    intro b blk k sz e e'
    rcases H.at_ b blk e with ⟨k1, sz1, hb, _⟩ | ⟨hb, _⟩
    . have := hle b _ hb; rw [this] at e'; rw [hb]; exact e'
    . have := hle b _ hb; rw [this] at e'; cases e'
   exact H.inj b b' k sz sz' blk blk' e1 e2 (back _ _ _ _ e1 e3) (back _ _ _ _ e2 e4)
theorem HR.lt (H : HR P C S w B h) {b : Nat} {blk : Blk} {k sz : Nat} (e : h b = some blk) (hb : C b = some (some (k, sz))) : k < w.heap.size := by
 rcases H.at_ b blk e with ⟨k', sz', j0, hB⟩ | ⟨j0, _⟩
 . rw [hb] at j0
   simp only [dM, dV] at j0
   obtain ⟨rfl, rfl⟩ := j0
   obtain ⟨c, hc, _⟩ := hB.heap
   rcases Nat.lt_or_ge k w.heap.size with h | h
   . exact h
   . rw [Array.getElem?_eq_none h] at hc; cases hc
 . rw [hb] at j0; cases j0
theorem HR.make (H : HR P C S w B h) {b : Nat} (hb : C b = none) (hB : B <= w.heap.size) (blk : Blk) (cs : Array Value) (hown : blk.own = true)
 (hrows : ∀ (i : Nat) (row : List A), blk.rows[i]? = some row -> row.length = P.cellsOf blk.ty /\ Zi row = true) (hsz : blk.rows.length * P.cellsOf blk.ty <= cs.size)
 (hcell : ∀ (i : Nat) (row : List A) (j : Nat) (x : A), blk.rows[i]? = some row -> row[j]? = some x -> ∃ y, cs[i * P.cellsOf blk.ty + j]? = some y /\ R P (inR blk.box C) S w x y) :
 HR P (Zja C b (some (w.heap.size, P.cellsOf blk.ty))) S (w.alloc (.cells cs blk.ty)) B (upd h b (some blk)) /\
  Mv B C S w (Zja C b (some (w.heap.size, P.cellsOf blk.ty))) S (w.alloc (.cells cs blk.ty)) (fun x => x = b) := by
 have j2 := Zcr (l := some (w.heap.size, P.cellsOf blk.ty)) hb
 have j0 := Zk9 S H.old cs blk.ty
 have M := H.mono j2 j0 (by simp) (fun b' blk' k sz e e' => Below.heap_alloc w _ k (H.lt e e'))
 refine ⟨⟨fun b' blk' e => ?_, fun b1 b2 k sz sz' blk1 blk2 e1 e2 e3 e4 => ?_, M.old, M.glob⟩, ⟨j2, fun _ h => h, j0, (Below.refl B w).alloc hB _, fun x hx hn => by rw [Z2k hn]; exact hx, fun _ h => .inl h⟩⟩
 . unfold upd at e
   split at e
   . rename_i j3
     subst j3
     simp only [dM] at e
     subst e
     refine .inl ⟨w.heap.size, P.cellsOf blk.ty, Yv _ _, ⟨rfl, hB, fun _ hs => absurd (H.old _ hs) (eL _), fun hf => absurd (hown.symm.trans hf) (by simp), hrows, cs, Z5m w _, hsz, fun i row j x h1 h2 => ?_⟩⟩
     obtain ⟨y, hy, hr⟩ := hcell i row j x h1 h2
     exact ⟨y, hy, hr.mono (Y3f _ j2) (fun _ h => h) j0⟩
   . exact M.at_ b' blk' e
 . have j1 : ∀ b' blk' k sz, upd h b (some blk) b' = some blk' -> Zja C b (some (w.heap.size, P.cellsOf blk.ty)) b' = some (some (k, sz)) -> b' ≠ b -> h b' = some blk' /\ k < w.heap.size := by
    intro b' blk' k sz e e' hn
    rw [upd, if_neg hn] at e
    rw [Z2k hn] at e'
    exact ⟨e, H.lt e e'⟩
   by_cases h1 : b1 = b <;> by_cases h2 : b2 = b
   . rw [h1, h2]
   . subst h1
     rw [Yv] at e3
     have := (j1 b2 blk2 k sz' e2 e4 h2).2
     simp only [dM, dV] at e3
     omega
   . subst h2
     rw [Yv] at e4
     have := (j1 b1 blk1 k sz e1 e3 h1).2
     simp only [dM, dV] at e4
     omega
   . exact M.inj b1 b2 k sz sz' blk1 blk2 (j1 b1 blk1 k sz e1 e3 h1).1 (j1 b2 blk2 k sz' e2 e4 h2).1 e3 e4
theorem HR.none_ (H : HR P C S w B h) {b : Nat} (hb : C b = none) (ty : Nat) :
 HR P (Zja C b none) S w B (upd h b (some ⟨ty, [], true, false⟩)) /\ Mv B C S w (Zja C b none) S w (fun x => x = b) := by
 have j1 := Zcr (l := none) hb
 have M := H.mono j1 (Ext.refl S w) (dO _) (fun _ _ _ _ _ _ => rfl)
 refine ⟨⟨fun b' blk' e => ?_, fun b1 b2 k sz sz' blk1 blk2 e1 e2 e3 e4 => ?_, M.old, M.glob⟩, ⟨j1, fun _ h => h, Ext.refl _ _, Below.refl _ _, fun x hx hn => by rw [Z2k hn]; exact hx, fun _ h => .inl h⟩⟩
 . unfold upd at e
   split at e
   . rename_i j2
     subst j2
     simp only [dM] at e
     subst e
     exact .inr ⟨Yv _ _, rfl, rfl⟩
   . exact M.at_ b' blk' e
 . have j0 : ∀ b' blk' k sz, upd h b (some ⟨ty, [], true, false⟩) b' = some blk' -> Zja C b none b' = some (some (k, sz)) -> h b' = some blk' := by
    intro b' blk' k sz e e'
    by_cases hn : b' = b
    . subst hn; rw [Yv] at e'; cases e'
    . rwa [upd, if_neg hn] at e
   exact M.inj b1 b2 k sz sz' blk1 blk2 (j0 _ _ _ _ e1 e3) (j0 _ _ _ _ e2 e4) e3 e4
theorem HR.kill (H : HR P C S w B h) (b : Nat) : HR P C S w B (upd h b none) := by
 have j0 : ∀ b' blk', upd h b none b' = some blk' -> h b' = some blk' := by
  intro b' blk' e
  unfold upd at e
  split at e
  . cases e
  . exact e
 exact ⟨fun b' blk' e => H.at_ b' blk' (j0 _ _ e), fun b1 b2 k sz sz' blk1 blk2 e1 e2 => H.inj b1 b2 k sz sz' blk1 blk2 (j0 _ _ e1) (j0 _ _ e2), H.old, H.glob⟩
structure Wrote (w w' : World) (k o : Nat) (vs : List Value) : Prop where
 os : w'.os = w.os
 tape : w'.tape = w.tape
 output : w'.output = w.output
 size : w'.heap.size = w.heap.size
 other : ∀ i, i ≠ k -> w'.heap[i]? = w.heap[i]?
 here : ∀ c t, w.heap[k]? = some (.cells c t (0, 0)) -> ∃ c', w'.heap[k]? = some (.cells c' t (0, 0)) /\ c'.size = c.size /\ ∀ m, c'[m]? = if o <= m /\ m < o + vs.length then vs[m - o]? else c[m]?
theorem Zkt {c : Array Value} {t : TypeId} {fr : Nat × Nat} {k o : Nat} (e : w.heap[k]? = some (.cells c t fr)) (v : Value) : (w.setCell ⟨k, o, none⟩ v).heap[k]? = some (.cells (c.setIfInBounds o v) t fr) := by
 simp only [World.setCell, Array.getElem?_modify]
 simp [e]
theorem Z2s {k : Nat} : ∀ (vs : List Value) (o i : Nat) (w : World) (c : Array Value) (t : TypeId), w.heap[k]? = some (.cells c t (0, 0)) -> (∀ v ∈ vs, v.oneCell' = true) -> o + i + vs.length <= c.size ->
 ∃ w', (storeCells ⟨k, o, none⟩ vs i).run P w = .ok () w' /\ Wrote w w' k (o + i) vs
 | [], o, i, w, c, t, hc, _, _ => ⟨w, rfl, ⟨rfl, rfl, rfl, rfl, fun _ _ => rfl, fun c t e => ⟨c, e, rfl, fun m => by simp; intro a b; omega⟩⟩⟩
 | v :: vs, o, i, w, c, t, hc, h1, hl => by
   have hlt : o + i < c.size := by simp at hl; omega
   have j1 : w.cell? ⟨k, o + i, none⟩ = some c[o + i] := by simp [World.cell?, hc, eR hlt]
   have j3 : w.frozen? ⟨k, o + i, none⟩ = false := by simp [World.frozen?, hc]
   have hw := Zkt (w := w) (o := o + i) hc v
   obtain ⟨w', j2, j0⟩ := Z2s vs o (i + 1) (w.setCell ⟨k, o + i, none⟩ v) _ t hw (fun u hu => h1 u (eB _ hu)) (by simp at hl ⊢; omega)
   refine ⟨w', ?_, ⟨j0.os, j0.tape, j0.output, by rw [j0.size]; simp [World.setCell], fun j hj => by rw [j0.other j hj]; exact Below.heap_setCell w _ v j hj, fun c2 t2 e => ?_⟩⟩
   . unfold storeCells
     simp only [dE, Z08]
     rw [run_store P w _ v .plain (h1 v dC), j1, j3]
     simp only [cX, eH, if_false]
     exact j2
   . rw [hc] at e
     simp only [dM, Obj.cells.injEq, and_true] at e
     obtain ⟨rfl, rfl⟩ := e
     obtain ⟨c', j4, j5, hg⟩ := j0.here _ _ hw
     refine ⟨c', j4, by rw [j5]; simp, fun m => ?_⟩
     rw [hg m, Array.getElem?_setIfInBounds]
     by_cases hm : o + i = m
     . subst hm
       rw [if_neg (by omega), if_pos rfl, if_pos hlt, if_pos (by simp)]
       simp
     . rw [if_neg hm]
       by_cases h2 : o + (i + 1) <= m /\ m < o + (i + 1) + vs.length
       . rw [if_pos h2, if_pos (by simp; omega)]
         rw [show m - (o + i) = (m - (o + (i + 1))) + 1 by omega]
         rfl
       . rw [if_neg h2, if_neg (by simp; omega)]
theorem Wrote.ext {k o : Nat} {vs : List Value} (h : Wrote w w' k o vs) (hk : ¬ S k) (hc : ∃ c t, w.heap[k]? = some (.cells c t (0, 0))) : Ext S w w' :=
 ⟨fun i hi => h.other i (fun e => hk (e ▸ hi)), fun i c t e => by
  by_cases hi : i = k
  . subst hi
    obtain ⟨c', hc, hs, _⟩ := h.here c t e
    exact ⟨c', hc, hs⟩
  . exact ⟨c, by rw [h.other i hi]; exact e, rfl⟩, fun i es cl e => by
  by_cases hi : i = k
  . subst hi
    obtain ⟨c, t, e2⟩ := hc
    rw [e] at e2
    cases e2
  . rw [h.other i hi]; exact e⟩
theorem Wrote.below {k o : Nat} {vs : List Value} (h : Wrote w w' k o vs) (hB : B <= k) : Below B w w' :=
 ⟨h.os, h.tape, h.output, by rw [h.size]; exact dO _, fun i hi => h.other i (by omega)⟩
theorem Z6w {a : A} {x : Value} (e : Z1c a = true) (r : R P C S w a x) : x.oneCell' = true := by
 cases r with
 | v x h => cases x <;> simp_all [Zcv, Value.oneCell']
 | _ => first | rfl | simp [Z1c] at e
theorem HR.at_of (H : HR P C S w B h) {b : Nat} {blk : Blk} {k sz : Nat} (e : h b = some blk) (hb : C b = some (some (k, sz))) : BR P C S w B blk k sz := by
 rcases H.at_ b blk e with ⟨k', sz', j0, hB⟩ | ⟨j0, _⟩
 . rw [hb] at j0
   simp only [dM, dV] at j0
   obtain ⟨rfl, rfl⟩ := j0
   exact hB
 . rw [hb] at j0; cases j0
theorem HR.put (H : HR P C S w B h) {b : Nat} {blk blk' : Blk} {k sz : Nat} (e : h b = some blk) (hb : C b = some (some (k, sz)))
 (hext : Ext S w w') (hsz : w.heap.size <= w'.heap.size) (hother : ∀ i, i ≠ k -> i < w.heap.size -> w'.heap[i]? = w.heap[i]?) (hB : BR P C S w' B blk' k sz) :
 HR P C S w' B (upd h b (some blk')) := by
 have j2 : ∀ b1 blk1 k1 sz1, b1 ≠ b -> h b1 = some blk1 -> C b1 = some (some (k1, sz1)) -> k1 ≠ k := by
  intro b1 blk1 k1 sz1 hn e1 h1 hk
  subst hk
  exact hn (H.inj b1 b k1 sz1 sz blk1 blk e1 e h1 hb)
 refine ⟨fun b1 blk1 e1 => ?_, fun b1 b2 k1 sz1 sz2 blk1 blk2 e1 e2 e3 e4 => ?_, fun i hi => fK (H.old i hi) hsz, H.glob.mono (fun _ h => h) hext⟩
 . unfold upd at e1
   split at e1
   . rename_i j0
     subst j0
     simp only [dM] at e1
     subst e1
     exact .inl ⟨k, sz, hb, hB⟩
   . rename_i hn
     rcases H.at_ b1 blk1 e1 with ⟨k1, sz1, h1, j3⟩ | hv
     . exact .inl ⟨k1, sz1, h1, j3.mono (fun _ _ h => h) (fun _ h => h) hext (fun h => h) (hother k1 (j2 b1 blk1 k1 sz1 hn e1 h1) (H.lt e1 h1))⟩
     . exact .inr hv
 . have j1 : ∀ b1 blk1, upd h b (some blk') b1 = some blk1 -> ∃ blk2, h b1 = some blk2 := by
    intro b1 blk1 e1
    unfold upd at e1
    split at e1
    . rename_i j0; exact ⟨blk, j0 ▸ e⟩
    . exact ⟨blk1, e1⟩
   obtain ⟨x1, h1⟩ := j1 b1 blk1 e1
   obtain ⟨x2, h2⟩ := j1 b2 blk2 e2
   exact H.inj b1 b2 k1 sz1 sz2 x1 x2 h1 h2 e3 e4
theorem Zd6 : ∀ (bs : List Nat) (h : Hp) (b : Nat), frz h bs b = match h b with | some k => some (if b ∈ bs then { k with own := false } else k) | none => none
 | [], h, b => by cases e : h b <;> simp [frz, e]
 | c :: bs, h, b => by
   unfold frz
   cases ec : h c with
   | none =>
     simp only
     rw [Zd6 bs h b]
     cases e : h b with
     | none => rfl
     | some k =>
       have : b ≠ c := fun q => by rw [q, ec] at e; cases e
       simp [this]
   | some k =>
     simp only
     rw [Zd6 bs _ b]
     unfold upd
     by_cases hbc : b = c
     . subst hbc
       simp only [ec]
       by_cases hm : b ∈ bs <;> simp [hm]
     . simp only [if_neg hbc]
       cases e : h b with
       | none => rfl
       | some k' => simp [hbc]
def Wk (C : Rho) (S : Nat -> Prop) (h : Hp) (bs : List Nat) : Nat -> Prop := fun k => S k \/ ∃ b ∈ bs, ∃ blk sz, h b = some blk /\ C b = some (some (k, sz))
theorem HR.freeze (H : HR P C S w B h) (bs : List Nat) : HR P C (Wk C S h bs) w B (frz h bs) := by
 have j2 : ∀ b blk, frz h bs b = some blk -> ∃ j0, h b = some j0 /\ blk = if b ∈ bs then { j0 with own := false } else j0 := by
  intro b blk e
  rw [Zd6] at e
  cases eb : h b with
  | none => rw [eb] at e; cases e
  | some k => rw [eb] at e; simp only [dM] at e; exact ⟨k, rfl, e.symm⟩
 refine ⟨fun b blk e => ?_, fun b1 b2 k sz sz' blk1 blk2 e1 e2 e3 e4 => ?_, fun k hk => ?_, H.glob.any (fun _ h => .inl h)⟩
 . obtain ⟨j0, e0, rfl⟩ := j2 b blk e
   rcases H.at_ b j0 e0 with ⟨k, sz, hb, hB⟩ | ⟨hb, hr, hx⟩
   . refine .inl ⟨k, sz, hb, ?_⟩
     have hm : ∀ b x y, R P (inR b C) S w x y -> R P (inR b C) (Wk C S h bs) w x y := fun b x y r => r.mono (fun _ _ h => h) (fun _ h => .inl h) (Ext.refl _ _)
     by_cases hmem : b ∈ bs
     . rw [if_pos hmem]
       refine ⟨hB.sz_eq, hB.base, fun h => by simp at h, fun _ => .inr ⟨b, hmem, j0, sz, e0, hb⟩, hB.rows, ?_⟩
       obtain ⟨c, hc, hs, j1⟩ := hB.heap
       exact ⟨c, hc, hs, fun i row j x h1 h2 => by obtain ⟨y, hy, hr⟩ := j1 i row j x h1 h2; exact ⟨y, hy, hm _ _ _ hr⟩⟩
     . rw [if_neg hmem]
       refine ⟨hB.sz_eq, hB.base, fun ho hS => ?_, fun ho => .inl (hB.not_own ho), hB.rows, ?_⟩
       . rcases hS with hS | ⟨b', j3, blk', sz', e', h'⟩
         . exact hB.own ho hS
         . have := H.inj b b' k sz sz' j0 blk' e0 e' hb h'
           exact hmem (this ▸ j3)
       obtain ⟨c, hc, hs, j1⟩ := hB.heap
       exact ⟨c, hc, hs, fun i row j x h1 h2 => by obtain ⟨y, hy, hr⟩ := j1 i row j x h1 h2; exact ⟨y, hy, hm _ _ _ hr⟩⟩
   . refine .inr ⟨hb, ?_, ?_⟩ <;> split <;> simp [hr, hx]
 . obtain ⟨x1, h1, _⟩ := j2 b1 blk1 e1
   obtain ⟨x2, h2, _⟩ := j2 b2 blk2 e2
   exact H.inj b1 b2 k sz sz' x1 x2 h1 h2 e3 e4
 . rcases hk with hk | ⟨b', j3, blk', sz', e', h'⟩
   . exact H.old k hk
   . exact H.lt e' h'
theorem Z7w (H : HR P C S w B h) (bs : List Nat) (iv : Nat -> Prop) : Mv B C S w C (Wk C S h bs) w iv :=
 ⟨fun _ _ h => h, fun _ h => .inl h, Ext.refl _ _, Below.refl _ _, fun _ h _ => h, fun k hk => by
  rcases hk with hk | ⟨b, _, blk, sz, e, e'⟩
  . exact .inl hk
  . exact .inr (H.at_of e e').base⟩
theorem Yz : ∀ {as : List A}, Zi as = true ↔ ∀ x ∈ as, Z1c x = true
 | [] => by simp [Zi]
 | a :: as => by simp [Zi, Yz (as := as)]
theorem Zf3 {row cs : List A} {j : Nat} (h1 : Zi row = true) (h2 : Zi cs = true) : Zi (Z3e row j cs) = true := by
 rw [Yz] at *
 intro x hx
 unfold Z3e at hx
 simp only [dW] at hx
 rcases hx with (hx | hx) | hx
 . exact h1 x (fC hx)
 . exact h2 x hx
 . exact h1 x (eS hx)
theorem Zbx {row cs : List A} {j : Nat} (hj : j + cs.length <= row.length) : (Z3e row j cs).length = row.length := by
 simp [Z3e]; omega
theorem Zhq {row cs : List A} {j : Nat} (hj : j + cs.length <= row.length) (m : Nat) :
 (Z3e row j cs)[m]? = if j <= m /\ m < j + cs.length then cs[m - j]? else row[m]? := by
 unfold Z3e
 by_cases h1 : m < j
 . rw [if_neg (by omega), gO, dZ (by simp; omega), dB, if_pos h1]
 . by_cases h2 : m < j + cs.length
   . rw [if_pos ⟨by omega, h2⟩, gO, eA (by simp; omega)]
     have : (row.take j).length = j := by simp; omega
     rw [this, dZ (by omega)]
   . rw [if_neg (by omega), eA (by simp; omega), eX]
     congr 1
     simp
     omega
theorem HR.wrote (H : HR P C S w B h) {b : Nat} {blk : Blk} {k sz : Nat} (e : h b = some blk) (hb : C b = some (some (k, sz))) (hown : blk.own = true)
 {i j : Nat} {row : List A} (hrow : blk.rows[i]? = some row) {xs : List A} {vs : List Value} (hl : vs.length = xs.length) (hj : j + xs.length <= row.length)
 (hr : ∀ (m : Nat) (x : A) (y : Value), xs[m]? = some x -> vs[m]? = some y -> R P (inR blk.box C) S w x y) (hxs : Zi xs = true) (hw : Wrote w w' k (i * sz + j) vs) :
 HR P C S w' B (upd h b (some { blk with rows := blk.rows.set i (Z3e row j xs) })) /\ Mv B C S w C S w' (fun _ => False) := by
 have hB := H.at_of e hb
 have j0 : Ext S w w' := hw.ext (hB.own hown) (by obtain ⟨c, hc, _⟩ := hB.heap; exact ⟨c, _, hc⟩)
 refine ⟨H.put e hb j0 (by rw [hw.size]; exact dO _) (fun m hm _ => hw.other m hm) ?_, ⟨fun _ _ h => h, fun _ h => h, j0, hw.below hB.base, fun _ h _ => h, fun _ h => .inl h⟩⟩
 obtain ⟨c, hc, hs, j1⟩ := hB.heap
 obtain ⟨c', j5, j6, hg⟩ := hw.here _ _ hc
 have hi : i < blk.rows.length := (dU.1 hrow).1
 have hset : ∀ (m : Nat) (r : List A), (blk.rows.set i (Z3e row j xs))[m]? = some r -> (m = i /\ r = Z3e row j xs) \/ (m ≠ i /\ blk.rows[m]? = some r) := by
  intro m r hm
  rw [List.getElem?_set] at hm
  by_cases him : i = m
  . rw [if_pos him, if_pos hi] at hm; simp only [dM] at hm; exact .inl ⟨him.symm, hm.symm⟩
  . rw [if_neg him] at hm; exact .inr ⟨fun q => him q.symm, hm⟩
 refine ⟨hB.sz_eq, hB.base, hB.own, hB.not_own, fun m r hm => ?_, c', j5, by simp [j6]; exact hs, fun m r q x hm hx => ?_⟩
 . rcases hset m r hm with ⟨rfl, rfl⟩ | ⟨_, hm⟩
   . exact ⟨by rw [Zbx hj]; exact (hB.rows _ _ hrow).1, Zf3 (hB.rows _ _ hrow).2 hxs⟩
   . exact hB.rows _ _ hm
 . have j7 := (hB.rows _ _ hrow).1
   rcases hset m r hm with ⟨rfl, rfl⟩ | ⟨j4, hm⟩
   . rw [Zhq hj] at hx
     rw [hg]
     by_cases hq : j <= q /\ q < j + xs.length
     . rw [if_pos hq] at hx
       rw [if_pos (by omega), show m * sz + q - (m * sz + j) = q - j by omega]
       have hlt : q - j < vs.length := by omega
       exact ⟨vs[q - j], dS hlt, (hr _ _ _ hx (dS hlt)).mono (fun _ _ h => h) (fun _ h => h) j0⟩
     . rw [if_neg hq] at hx
       rw [if_neg (by omega)]
       obtain ⟨y, hy, j2⟩ := j1 m row q x hrow hx
       exact ⟨y, hy, j2.mono (fun _ _ h => h) (fun _ h => h) j0⟩
   . obtain ⟨y, hy, j2⟩ := j1 m r q x hm hx
     have j8 : q < sz := by rw [<- (hB.rows _ _ hm).1]; exact (dU.1 hx).1
     have : ¬ (i * sz + j <= m * sz + q /\ m * sz + q < i * sz + j + vs.length) := by
      rcases Nat.lt_or_gt_of_ne j4 with hlt | j3
      . have : (m + 1) * sz <= i * sz := cZ _ hlt
        rw [dL] at this
        omega
      . have : (i + 1) * sz <= m * sz := cZ _ j3
        rw [dL] at this
        omega
     rw [hg, if_neg this]
     exact ⟨y, hy, j2.mono (fun _ _ h => h) (fun _ h => h) j0⟩
structure RL (P : Program) (C : Rho) (S : Nat -> Prop) (w : World) (as : List A) (vs : List Value) : Prop where
 len : vs.length = as.length
 at_ : ∀ (i : Nat) (x : A) (y : Value), as[i]? = some x -> vs[i]? = some y -> R P C S w x y
theorem RL.nil : RL P C S w [] [] := ⟨rfl, fun i x y h => by simp at h⟩
theorem RL.cons {a : A} {x : Value} {as : List A} {vs : List Value} (h : R P C S w a x) (t : RL P C S w as vs) : RL P C S w (a :: as) (x :: vs) :=
 ⟨by simp [t.len], fun i y z h1 h2 => by
  cases i with
  | zero => simp at h1 h2; subst h1; subst h2; exact h
  | succ i => exact t.at_ i y z h1 h2⟩
theorem RL.head {a : A} {x : Value} {as : List A} {vs : List Value} (h : RL P C S w (a :: as) (x :: vs)) : R P C S w a x := h.at_ 0 a x rfl rfl
theorem RL.tail {a : A} {x : Value} {as : List A} {vs : List Value} (h : RL P C S w (a :: as) (x :: vs)) : RL P C S w as vs :=
 ⟨by have := h.len; simpa using this, fun i y z h1 h2 => h.at_ (i + 1) y z h1 h2⟩
theorem RL.inv_nil {vs : List Value} (h : RL P C S w [] vs) : vs = [] := dA h.len
theorem RL.inv_cons {a : A} {as : List A} {vs : List Value} (h : RL P C S w (a :: as) vs) : ∃ x xs, vs = x :: xs /\ R P C S w a x /\ RL P C S w as xs := by
 cases vs with
 | nil => have := h.len; simp at this
 | cons x xs => exact ⟨x, xs, rfl, h.head, h.tail⟩
theorem RL.mono {as : List A} {vs : List Value} (h : RL P C S w as vs) (hρ : Rho.le C C') (hS : ∀ k, S k -> S' k) (hw : Ext S w w') : RL P C' S' w' as vs :=
 ⟨h.len, fun i x y h1 h2 => (h.at_ i x y h1 h2).mono hρ hS hw⟩
theorem RL.append {as bs : List A} {vs us : List Value} (h : RL P C S w as vs) (t : RL P C S w bs us) : RL P C S w (as ++ bs) (vs ++ us) := by
 induction as generalizing vs with
 | nil => rw [h.inv_nil]; exact t
 | cons a as ih =>
   obtain ⟨x, xs, rfl, h1, h2⟩ := h.inv_cons
   exact RL.cons h1 (ih h2)
def Fast (C : Rho) (h : Hp) (bs : List Nat) (S' : Nat -> Prop) : Prop := ∀ b ∈ bs, ∀ blk k sz, h b = some blk -> C b = some (some (k, sz)) -> S' k
theorem Fast.left {bs cs : List Nat} (f : Fast C h (bs ++ cs) S') : Fast C h bs S' := fun b hb => f b (List.mem_append_left _ hb)
theorem Fast.right {bs cs : List Nat} (f : Fast C h (bs ++ cs) S') : Fast C h cs S' := fun b hb => f b (gA _ hb)
theorem Fast.frozen (bs : List Nat) : Fast C h bs (Wk C S h bs) := fun b hb blk k sz e e' => .inr ⟨b, hb, blk, sz, e, e'⟩
theorem Z9u (H : HR P C S w B h) {a c : A} {x : Value} (e : Wz h a = some c) (r : R P C S w a x) (hS : ∀ k, S k -> S' k) (hf : Fast C h (Xk a) S') :
 R P Yy S' w c x := by
 cases r with
 | v x hx => simp only [Wz, dM] at e; subst e; exact .v x hx
 | lit ty rows a cap Y hcap hl hc hr =>
   simp only [Wz, dM] at e
   subst e
   exact ((R.lit ty rows a cap Y hcap hl hc hr : R P Yy S w _ _)).mono (fun _ _ h => h) hS (Ext.refl _ _)
 | ref ty b off len cap ex k sz c' ad hb hty hcap hex ha hlen hk =>
   obtain ⟨blk, j2, e1⟩ := Z6 e
   clear e
   split at e1
   . rename_i hc
     simp only [dM] at e1
     subst e1
     have hB := H.at_of j2 hb
     have j4 : ((blk.rows.drop off).take len).length = len := by simp; omega
     obtain ⟨cs, j5, _, j0⟩ := hB.heap
     have j3 : ∀ (i : Nat) (row : List A), ((blk.rows.drop off).take len)[i]? = some row -> i < len /\ blk.rows[off + i]? = some row := by
      intro i row h
      rw [dB] at h
      split at h
      . rw [eX] at h; exact ⟨‹_›, h⟩
      . cases h
     suffices hh : R P Yy S' w (.lit blk.ty ((blk.rows.drop off).take len)) (.slice ad ((blk.rows.drop off).take len).length c') by rw [j4] at hh; exact hh
     refine .lit blk.ty ((blk.rows.drop off).take len) ad c' (fun i j => (cs[(off + i) * sz + j]?).getD undef) (by omega) (fun i row h => ?_) (fun i row j x h1 h2 => ?_) (fun i row j x h1 h2 => ?_)
     . rw [<- hB.sz_eq]; exact hB.rows _ _ (j3 i row h).2
     . obtain ⟨hi, j1⟩ := j3 i row h1
       obtain ⟨y, hy, hr⟩ := j0 _ _ _ _ j1 h2
       refine ⟨k, off * sz, ha (by omega), hf b (by simp [Xk]) blk k sz j2 hb, ?_⟩
       rw [<- hB.sz_eq]
       have : off * sz + i * sz + j = (off + i) * sz + j := by rw [dL]
       simp [World.cell?, j5, this, hy]
     . obtain ⟨hi, j1⟩ := j3 i row h1
       obtain ⟨y, hy, hr⟩ := j0 _ _ _ _ j1 h2
       simp only [hy, dD]
       rw [hc.1] at hr
       exact R.mono (C := Yy) (fun _ _ h => h) hS (Ext.refl _ _) hr
   . cases e1
 | nil ty b ex hb =>
   obtain ⟨blk, j2, e1⟩ := Z6 e
   clear e
   split at e1
   . simp only [hZ, dM] at e1
     subst e1
     exact .lit blk.ty [] none 0 (fun _ _ => undef) (dO _) (fun i row h => by simp at h) (fun i row j x h => by simp at h) (fun i row j x h => by simp at h)
   . cases e1
 | _ => simp [Wz] at e
theorem Z8w (H : HR P C S w B h) (hS : ∀ k, S k -> S' k) : ∀ {as cs : List A} {vs : List Value}, Z0q h as = some cs -> RL P C S w as vs -> Fast C h (Zr as) S' ->
 RL P Yy S' w cs vs
 | [], cs, vs, e, r, _ => by
   simp only [Z0q, dM] at e
   subst e
   rw [r.inv_nil]
   exact .nil
 | a :: as, cs, vs, e, r, hf => by
   obtain ⟨c, hc, e1⟩ := Z6 e
   obtain ⟨j1, j0, e2⟩ := Z6 e1
   simp only [dM] at e2
   subst e2
   obtain ⟨x, xs, rfl, r1, r2⟩ := r.inv_cons
   exact .cons (Z9u H hc r1 hS (Fast.left hf)) (Z8w H hS j0 r2 (Fast.right hf))
theorem Zoi (H : HR P C S w B h) {a c : A} {x : Value} (e : Z9e h a = some c) (r : R P C S w a x) (hS : ∀ k, S k -> S' k) (hf : Fast C h (Z4e h a) S') :
 R P Yy S' w c x := by
 cases r with
 | pl row j k o Y hk hc hr =>
   simp only [Z9e, dM] at e
   subst e
   exact ((R.pl row j k o Y hk hc hr : R P Yy S w _ _)).mono (fun _ _ h => h) hS (Ext.refl _ _)
 | ptr b i j k sz hb =>
   obtain ⟨blk, j2, e1⟩ := Z6 e
   obtain ⟨row, j0, e2⟩ := Z6 e1
   obtain ⟨cs, j9, e3⟩ := Z6 e2
   simp only [dM] at e3
   subst e3
   have hB := H.at_of j2 hb
   obtain ⟨c, hc, _, j1⟩ := hB.here
   have j8 : Z4e h (.ptr b i j) = b :: Zr row := by
    simp [Z4e, j2, j0]
   rw [j8] at hf
   have ja : (i + 1) * sz <= c.size := by
    rename_i hs
    have : i < blk.rows.length := (dU.1 j0).1
    exact eI (cZ _ this) hs
   have jb := (hB.rows _ _ j0).1
   let vs := (List.range row.length).map fun m => (c[i * sz + m]?).getD undef
   have j4 : RL P C S w row vs := ⟨by simp [vs], fun m x y h1 h2 => by
    obtain ⟨y', j5, j6⟩ := j1 _ _ _ _ j0 h1
    have hm : m < row.length := (dU.1 h1).1
    simp [vs, fY hm, j5] at h2
    exact h2 ▸ j6⟩
   have q1 := Z8w H hS j9 j4 (fun b' j7 => hf b' (eB _ j7))
   refine .pl cs j k (i * sz) (fun m => (c[i * sz + m]?).getD undef) (fun _ => hf b dC blk k sz j2 hb) (fun m x hx => ?_) (fun m x hx => ?_)
   . have hm : m < cs.length := (dU.1 hx).1
     have j3 : m < row.length := by have := q1.len; have := j4.len; omega
     obtain ⟨y', j5, j6⟩ := j1 _ _ _ _ j0 (dS j3)
     simp [World.cell?, hc, j5]
   . have hm : m < cs.length := (dU.1 hx).1
     have j3 : m < row.length := by have := q1.len; have := j4.len; omega
     exact q1.at_ m x _ hx (by simp [vs, fY j3])
 | _ => simp [Z9e] at e
theorem Zrc (H : HR P C S w B h) (hS : ∀ k, S k -> S' k) : ∀ {as cs : List A} {vs : List Value}, Z6t h as = some cs -> RL P C S w as vs -> Fast C h (Z0v h as) S' -> RL P Yy S' w cs vs
 | [], cs, vs, e, r, _ => by
   simp only [Z6t, dM] at e
   subst e
   rw [r.inv_nil]
   exact .nil
 | a :: as, cs, vs, e, r, hf => by
   obtain ⟨c, hc, e1⟩ := Z6 e
   obtain ⟨j1, j0, e2⟩ := Z6 e1
   simp only [dM] at e2
   subst e2
   obtain ⟨x, xs, rfl, r1, r2⟩ := r.inv_cons
   exact .cons (Zoi H hc r1 hS (Fast.left hf)) (Zrc H hS j0 r2 (Fast.right hf))
theorem Ze6 {h : Hp} : ∀ {as cs : List A}, Z6t h as = some cs -> Wg cs = true
 | [], cs, e => by simp only [Z6t, dM] at e; subst e; rfl
 | a :: as, cs, e => by
   obtain ⟨c, hc, e1⟩ := Z6 e
   obtain ⟨j1, j0, e2⟩ := Z6 e1
   simp only [dM] at e2
   subst e2
   simp only [Wg, dQ]
   refine ⟨?_, Ze6 j0⟩
   cases a with
   | pl r j => simp only [Z9e, dM] at hc; subst hc; rfl
   | ptr b i j =>
     obtain ⟨k, _, h1⟩ := Z6 hc
     obtain ⟨row, _, h2⟩ := Z6 h1
     obtain ⟨r, _, h3⟩ := Z6 h2
     simp only [dM] at h3
     subst h3; rfl
   | _ => simp [Z9e] at hc
theorem Y4e (H : HR P C S w B h) (hS : ∀ k, S k -> S' k) {a c : A} {x : Value} (e : Zbe h a = some c) (r : R P C S w a x) (hf : Fast C h (Zbr h a) S') : R P Yy S' w c x := by
 cases a with
 | agg cs =>
   obtain ⟨ds, j0, e1⟩ := Z6 e
   simp only [dM] at e1
   subst e1
   cases r with
   | agg cs vs hl hr =>
     have q := Z8w H hS j0 ⟨hl, hr⟩ hf
     exact .agg ds vs q.len q.at_
 | fn f caps =>
   obtain ⟨ds, j0, e1⟩ := Z6 e
   simp only [dM] at e1
   subst e1
   cases r with
   | fn f caps vs hp hl hr =>
     have q := Zrc H hS j0 ⟨hl, hr⟩ hf
     exact .fn f ds vs (Ze6 j0) q.len q.at_
 | ptr b i j => exact Zoi H (show Z9e h (.ptr b i j) = some c from e) r hS hf
 | pl row j =>
   simp only [Zbe, dM] at e
   subst e
   exact Zoi H rfl r hS (fun b hb => by simp [Z4e] at hb)
 | v y => exact Z9u H (show Wz h (.v y) = some c from e) r hS hf
 | lit ty rows => exact Z9u H (show Wz h (.lit ty rows) = some c from e) r hS hf
 | ref ty b off len cap ex => exact Z9u H (show Wz h (.ref ty b off len cap ex) = some c from e) r hS hf
 | _ => simp [Zbe, Wz] at e
theorem Zqt (H : HR P C S w B h) (hS : ∀ k, S k -> S' k) : ∀ {as cs : List A} {vs : List Value}, Z0t h as = some cs -> RL P C S w as vs -> Fast C h (Xm h as) S' -> RL P Yy S' w cs vs
 | [], cs, vs, e, r, _ => by
   simp only [Z0t, dM] at e
   subst e
   rw [r.inv_nil]
   exact .nil
 | a :: as, cs, vs, e, r, hf => by
   obtain ⟨c, hc, e1⟩ := Z6 e
   obtain ⟨j1, j0, e2⟩ := Z6 e1
   simp only [dM] at e2
   subst e2
   obtain ⟨x, xs, rfl, r1, r2⟩ := r.inv_cons
   exact .cons (Y4e H hS hc r1 (Fast.left hf)) (Zqt H hS j0 r2 (Fast.right hf))
structure Eff (P : Program) (B : Nat) (C : Rho) (S : Nat -> Prop) (w : World) (iv : Nat -> Prop) (h' : Hp) (a : A) (x : Value) (w' : World) : Prop where
 ex : ∃ C' S', Mv B C S w C' S' w' iv /\ HR P C' S' w' B h' /\ R P C' S' w' a x
def X1 (n k : Nat) (b : Nat) : Prop := n <= b /\ b < n + k
theorem Z9j {vs : List Value} {as : List A} (e : Zll vs as = true) : RL P C S w as vs :=
 ⟨(Zpy (P := P) (C := C) (S := S) (w := w) e).1, (Zpy e).2⟩
theorem Z4s : ∀ {vs : List Value} {as : List A}, Zll vs as = true -> Zi as = true
 | [], [], _ => rfl
 | [], _ :: _, e => by simp [Zll] at e
 | _ :: _, [], e => by simp [Zll] at e
 | v :: vs, a :: as, e => by
   simp only [Zll, dQ] at e
   simp only [Zi, dQ]
   refine ⟨?_, Z4s e.2⟩
   have h := e.1
   unfold Y7a at h
   split at h <;> first | rfl | cases h
theorem Zbd : ∀ (zs : List A) (h : Hp) (n : Nat), Zi zs = true -> Zi (Zy h n zs).1 = true
 | [], h, n, _ => rfl
 | z :: zs, h, n, e => by
   simp only [Zi, dQ] at e
   cases z <;> simp only [Zy, Zi, Z1c, eZ] <;> first | exact Zbd zs _ _ e.2 | (simp [Z1c] at e)
theorem Yau : ∀ (zs : List A) (vs : List Value) (n : Nat) (C : Rho) (h : Hp), HR P C S w B h -> (∀ b, X1 n (zs.filter V8).length b -> C b = none) -> Zll vs zs = true ->
 ∃ C', Mv B C S w C' S w (X1 n (zs.filter V8).length) /\ HR P C' S w B (Zy h n zs).2 /\ RL P C' S w (Zy h n zs).1 vs
 | [], vs, n, C, h, H, _, e => by
   cases vs with
   | nil => exact ⟨C, Mv.refl _ _ _ _ _, H, .nil⟩
   | cons _ _ => simp [Zll] at e
 | z :: zs, vs, n, C, h, H, hf, e => by
   cases vs with
   | nil => simp [Zll] at e
   | cons v vs =>
     simp only [Zll, dQ] at e
     by_cases hz : V8 z = true
     . cases z with
       | lit ty rows =>
         have hv : v = .slice none 0 0 /\ rows = [] := by
          unfold Y7a at e
          split at e
          . rename_i h1 h2; simp only [A.lit.injEq] at h2; exact ⟨rfl, h2.2⟩
          . rename_i h2; cases h2
          . simp at e
         obtain ⟨rfl, rfl⟩ := hv
         have j1 : C n = none := hf n (by simp [X1, hz])
         obtain ⟨H1, M1⟩ := H.none_ j1 ty
         have j0 : ((A.lit ty [] :: zs).filter V8).length = (zs.filter V8).length + 1 := by simp [gC, V8]
         obtain ⟨C', M2, H2, r2⟩ := Yau zs vs (n + 1) _ _ H1 (fun b hb => by
          rw [Z2k (by simp only [X1] at hb; omega)]
          exact hf b (by rw [j0]; simp only [X1] at hb ⊢; omega)) e.2
         refine ⟨C', (M1.trans M2).wide (fun b hb => by rw [j0]; simp only [X1] at hb ⊢; omega), H2, .cons ?_ r2⟩
         exact .nil ty n false (M2.le _ _ (Yv _ _))
       | _ => simp [V8] at hz
     . have j0 : ((z :: zs).filter V8).length = (zs.filter V8).length := by simp [hz]
       rw [j0] at hf ⊢
       obtain ⟨C', M2, H2, r2⟩ := Yau zs vs n C h H hf e.2
       have j2 : Zy h n (z :: zs) = (z :: (Zy h n zs).1, (Zy h n zs).2) := by
        cases z <;> first | rfl | (simp [V8] at hz)
       rw [j2]
       exact ⟨C', M2, H2, .cons (Zuw e.1) r2⟩
theorem Z9w {t : TypeId} {zs : List A} (e : Zcz P t zs = true) : ∃ z, (∀ w, (zeroValue t).run P w = .ok z w) /\ Zll z.cells.toList zs = true /\ zs.length = P.cellsOf t /\ z.cells.size = zs.length := by
 unfold Zcz at e
 split at e
 . rename_i z hz
   simp only [dQ, eJ] at e
   cases hi : P.info? t with
   | none => rw [hi] at hz; simp at hz
   | some i =>
     rw [hi] at hz
     simp only [gD] at hz
     refine ⟨z, fun w => by simp [zeroValue, typeInfo, hi, hz], e.1, e.2, ?_⟩
     have := (Z9j (P := P) (C := Yy) (S := fun _ => False) (w := default) e.1).len
     simpa using this
 . cases e
theorem Act.run_alloc {t : TypeId} {z : Value} (hz : ∀ w, (zeroValue t).run P w = .ok z w) : (Instr.alloc t true (.tuple #[])).run P w = .ok (.pointer (some ⟨w.heap.size, 0, none⟩)) (w.alloc (.cells z.cells t)) := by
 simp [Instr.alloc, hz, newVar, newRow]
theorem Zwe {row : List A} : ∀ (i : Nat) (r : List A), [row][i]? = some r -> i = 0 /\ r = row := by
 intro i r e
 cases i with
 | zero => simp at e; exact ⟨rfl, e.symm⟩
 | succ i => simp at e
theorem HR.var (H : HR P C S w B h) {b : Nat} (hb : C b = none) (hB : B <= w.heap.size) {ty : Nat} {row : List A} {cs : Array Value} (hr : RL P C S w row cs.toList) (hl : row.length = P.cellsOf ty) (hc : Zi row = true) :
 HR P (Zja C b (some (w.heap.size, P.cellsOf ty))) S (w.alloc (.cells cs ty)) B (upd h b (some ⟨ty, [row], true, true⟩)) /\
  Mv B C S w (Zja C b (some (w.heap.size, P.cellsOf ty))) S (w.alloc (.cells cs ty)) (fun x => x = b) := by
 refine H.make hb hB ⟨ty, [row], true, true⟩ cs rfl (fun i r e => ?_) ?_ (fun i r j x h1 h2 => ?_)
 . obtain ⟨_, rfl⟩ := Zwe i r e; exact ⟨hl, hc⟩
 . have := hr.len; simp at this; simp; omega
 . obtain ⟨rfl, rfl⟩ := Zwe i r h1
   have hj : j < r.length := (dU.1 h2).1
   have j0 : j < cs.size := by have := hr.len; simp at this; omega
   exact ⟨cs[j], by simp [j0], hr.at_ j x _ h2 (by simp [j0])⟩
theorem Zyr (H : HR P C S w B h) (hB : B <= w.heap.size) {n ty : Nat} {zs : List A} (hf : ∀ b, X1 n (1 + (zs.filter V8).length) b -> C b = none) (hz : Zcz P ty zs = true) :
 ∃ x w', (Instr.alloc ty true (.tuple #[])).run P w = .ok x w' /\
  Eff P B C S w (X1 n (1 + (zs.filter V8).length)) (upd (Zy h (n + 1) zs).2 n (some ⟨ty, [(Zy h (n + 1) zs).1], true, true⟩)) (.ptr n 0 0) x w' := by
 obtain ⟨z, j2, j1, j3, j4⟩ := Z9w hz
 obtain ⟨C1, M1, H1, r1⟩ := Yau zs z.cells.toList (n + 1) C h H (fun b hb => hf b (by simp only [X1] at hb ⊢; omega)) j1
 have hn : C1 n = none := M1.new n (hf n (by simp only [X1]; omega)) (by simp only [X1]; omega)
 have j0 : (Zy h (n + 1) zs).1.length = P.cellsOf ty := by have := r1.len; simp at this; omega
 obtain ⟨H2, M2⟩ := H1.var hn hB r1 j0 (Zbd _ _ _ (Z4s j1))
 refine ⟨_, _, Act.run_alloc j2, ⟨_, S, (M1.trans M2).wide (fun b hb => by simp only [X1] at hb ⊢; omega), H2, ?_⟩⟩
 have := R.ptr (P := P) (S := S) (w := w.alloc (.cells z.cells ty)) n 0 0 w.heap.size (P.cellsOf ty) (Yv (C := C1) n (some (w.heap.size, P.cellsOf ty)))
 simpa using this
theorem R.cells {a : A} {x : Value} (e : Zi a.cells = true) (r : R P C S w a x) : RL P C S w a.cells x.cells.toList /\ ∀ v ∈ x.cells.toList, v.oneCell' = true := by
 have one : ∀ (as : List A) (vs : List Value), Zi as = true -> RL P C S w as vs -> ∀ v ∈ vs, v.oneCell' = true := by
  intro as
  induction as with
  | nil => intro vs _ r v hv; rw [r.inv_nil] at hv; simp at hv
  | cons a as ih =>
    intro vs e r v hv
    simp only [Zi, dQ] at e
    obtain ⟨x, xs, rfl, r1, r2⟩ := r.inv_cons
    rcases eK.1 hv with rfl | hv
    . exact Z6w e.1 r1
    . exact ih xs e.2 r2 v hv
 have j0 : RL P C S w a.cells x.cells.toList := by
  cases r with
  | agg cs vs hl hr => exact ⟨hl, hr⟩
  | v x h => cases x <;> first | (simp [Zcv] at h; done) | exact .cons (.v _ h) .nil
  | lit ty rows a cap Y h1 h2 h3 h4 => exact .cons (.lit ty rows a cap Y h1 h2 h3 h4) .nil
  | ref ty b off len cap ex k sz c a h1 h2 h3 h4 h5 h6 h7 => exact .cons (.ref ty b off len cap ex k sz c a h1 h2 h3 h4 h5 h6 h7) .nil
  | nil ty b ex h1 => exact .cons (.nil ty b ex h1) .nil
  | ptr b i j k sz h1 => exact .cons (.ptr b i j k sz h1) .nil
  | pl row j k o Y h1 h2 h3 => exact .cons (.pl row j k o Y h1 h2 h3) .nil
  | fn f caps vs h0 h1 h2 => exact .cons (.fn f caps vs h0 h1 h2) .nil
  | _ => simp [Zi, A.cells, Z1c] at e
 exact ⟨j0, one _ _ e j0⟩
theorem Zte (H : HR P C S w B h) (hB : B <= w.heap.size) {n ty : Nat} {a : A} {v : Value} (hf : C n = none) (r : R P C S w a v) (hl : a.cells.length = P.cellsOf ty) (hc : Zi a.cells = true) :
 ∃ x w', (Instr.box ty v).run P w = .ok x w' /\ Eff P B C S w (X1 n 1) (upd h n (some ⟨ty, [a.cells], true, true⟩)) (.ptr n 0 0) x w' := by
 obtain ⟨H2, M2⟩ := H.var hf hB (R.cells hc r).1 hl hc
 refine ⟨.pointer (some ⟨w.heap.size, 0, none⟩), w.alloc (.cells v.cells ty), by simp [Instr.box, newVar, newRow], ⟨_, S, M2.wide (fun b hb => by simp only [X1] at hb ⊢; omega), H2, ?_⟩⟩
 have := R.ptr (P := P) (S := S) (w := w.alloc (.cells v.cells ty)) n 0 0 w.heap.size (P.cellsOf ty) (Yv (C := C) n (some (w.heap.size, P.cellsOf ty)))
 simpa using this
def Zcf (place : Nat -> Option (Nat × Nat)) : List (Nat × Operand) -> List (Nat × Nat × Opd) -> Bool
 | [], [] => true
 | (i, x) :: ps, (off, n, y) :: qs => decide (place i = some (off, n)) && Yx x y && Zcf place ps qs
 | _, _ => false
theorem Zh9 {U : St} {ev' : Operand -> Value} (hget : ∀ x y, Yx x y = true -> R P C S w (ev U y) (ev' x)) (place : Nat -> Option (Nat × Nat)) :
 ∀ (ps : List (Nat × Operand)) (qs : List (Nat × Nat × Opd)) (cs cs' : List A) (cells : Array Value), Zcf place ps qs = true -> RL P C S w cs cells.toList -> Zd8 U cs qs = some cs' ->
  ∃ r, Instr.fill place cells (ps.map fun p => (p.1, ev' p.2)) = some r /\ RL P C S w cs' r.toList
 | [], qs, cs, cs', cells, ok, r, e => by
   cases qs with
   | nil =>
     simp only [Zd8, dM] at e
     subst e
     exact ⟨cells, rfl, r⟩
   | cons _ _ => simp [Zcf] at ok
 | (i, x) :: ps, qs, cs, cs', cells, ok, r, e => by
   cases qs with
   | nil => simp [Zcf] at ok
   | cons q qs =>
     obtain ⟨off, n, y⟩ := q
     simp only [Zcf, dQ, eJ] at ok
     simp only [Zd8] at e
     split at e
     . rename_i hc
       obtain ⟨hn, j4, j2⟩ := hc
       obtain ⟨q1, q2⟩ := R.cells j2 (hget x y ok.1.2)
       have j0 : (ev' x).cells.size = n := by have := q1.len; simp at this; omega
       have j3 : cells.size = cs.length := by have := r.len; simp at this; omega
       obtain ⟨g1, g2⟩ := Great.foldl_set off (ev' x).cells.toList 0 cells
       have j1 : RL P C S w (Z3e cs off (ev U y).cells) (((ev' x).cells.toList.zipIdx 0).foldl (fun cs (x : Value × Nat) => cs.setIfInBounds (off + x.2) x.1) cells).toList := by
        refine ⟨by rw [Zbx (by omega)]; simp [g1, j3], fun m a v h1 h2 => ?_⟩
        rw [Zhq (by omega)] at h1
        rw [hJ, g2 m] at h2
        simp only [fM, Array.length_toList] at h2
        by_cases hm : off <= m /\ m < off + (ev U y).cells.length
        . rw [if_pos hm] at h1
          rw [if_pos (by omega)] at h2
          exact q1.at_ _ _ _ h1 h2
        . rw [if_neg hm] at h1
          rw [if_neg (by omega)] at h2
          exact r.at_ m a v h1 (by simpa using h2)
       obtain ⟨r2, e2, k2⟩ := Zh9 hget place ps qs _ cs' _ ok.2 j1 e
       refine ⟨r2, ?_, k2⟩
       simp only [fO]
       unfold Instr.fill
       simp only [ok.1.1, j0]
       rw [if_neg (by simp; omega), <- e2]
       congr 1
       rw [<- Array.foldl_toList, Array.toList_zipIdx]
     . cases e
def Y3z (P : Program) (t : TypeId) (parts : List (Nat × Operand)) (zs : List A) (qs : List (Nat × Nat × Opd)) : Bool :=
 match P.underlying t with
 | some (.struct fs) => (match fs.toList.mapM (fun f => (P.info? f.type).map fun i => (f.offset, i.size)) with
   | some places => Zcf (places.toArray[·]?) parts qs
   | none => false) && Zcz P t zs
 | _ => false
theorem Zxf (H : HR P C S w B h) {U : St} {ev' : Operand -> Value} (hget : ∀ x y, Yx x y = true -> R P C S w (ev U y) (ev' x))
 {n t : Nat} {parts : Array (Nat × Operand)} {zs cs : List A} {qs : List (Nat × Nat × Opd)} (hf : ∀ b, X1 n (zs.filter V8).length b -> C b = none)
 (ok : Y3z P t parts.toList zs qs = true) (e : Zd8 U (Zy h n zs).1 qs = some cs) :
 ∃ x w', (Instr.build t (parts.map fun (i, x) => (i, ev' x))).run P w = .ok x w' /\ Eff P B C S w (X1 n (zs.filter V8).length) (Zy h n zs).2 (.agg cs) x w' := by
 unfold Y3z at ok
 split at ok
 . rename_i fs hu
   simp only [dQ] at ok
   obtain ⟨ok1, ok2⟩ := ok
   split at ok1
   . rename_i places j1
     have j0 := ok2
     unfold Zcz at j0
     split at j0
     . rename_i z hz
       simp only [dQ, eJ] at j0
       cases hi : P.info? t with
       | none => rw [hi] at hz; simp at hz
       | some it =>
         rw [hi] at hz
         simp only [gD] at hz
         obtain ⟨C1, M1, H1, r1⟩ := Yau zs z.cells.toList n C h H hf j0.1
         obtain ⟨r, e2, k2⟩ := Zh9 (fun x y h => (M1.R (hget x y h))) (places.toArray[·]?) parts.toList qs _ cs z.cells ok1 r1 e
         refine ⟨_, _, run_build w t _ r ?_, ⟨C1, S, M1, H1, ?_⟩⟩
         . simp only [Program.built, hi, hu, hz, j1, Array.toList_map]
           exact e2
         . exact .agg cs r.toList k2.len k2.at_
     . cases j0
   . cases ok1
 . cases ok
theorem Z4l (z : Array Value) (n i j : Nat) (hz : j < z.size) (hi : i < n) : (madeCells z (n * z.size))[i * z.size + j]? = z[j]? := by
 have hlt : i * z.size + j < n * z.size := by
  have : (i + 1) * z.size <= n * z.size := cZ _ hi
  rw [dL] at this
  omega
 simp only [madeCells, Array.getElem?_map]
 have : (Array.range (n * z.size))[i * z.size + j]? = some (i * z.size + j) := by simp [hlt]
 rw [this]
 simp only [fG]
 have h2 : (i * z.size + j) % z.size = j := (Y2e hz).2
 rw [h2]
 simp [hz]
def Zro (P : Program) (t ty : TypeId) (zs : List A) : Bool :=
 Z82 P t ty && Zcz P ty zs && decide (0 < zs.length) &&
  (match P.info? ty with | some i => decide (i.bytes <= 2048) | none => false)
theorem Ztg (H : HR P C S w B h) (hB : B <= w.heap.size) {n t ty : Nat} {zs : List A} {a b : A} {x y : Value} (ra : R P C S w a x) (rb : R P C S w b y) (hf : C n = none) (ok : Zro P t ty zs = true)
 {U U' : St} {d nm : Nat} (hσ : U.h = h) (hn : U.n + nm = n) (e : Y30 U d nm ty zs a b = some U') :
 ∃ v w', (Instr.makeSlice t x y).run P w = .ok v w' /\ ∃ u, U' = { U with s := upd U.s d u, h := U'.h } /\ Eff P B C S w (X1 n 1) U'.h u v w' := by
 subst hσ
 subst hn
 unfold Y30 at e
 split at e
 . rename_i k l k' c
   split at e
   . rename_i hc
     obtain ⟨h0, rfl, j1⟩ := hc
     simp only [dM] at e
     subst e
     simp only [Zro, dQ, eJ] at ok
     obtain ⟨⟨⟨o1, o2⟩, o4⟩, o5⟩ := ok
     obtain ⟨z, j7, j6, j2, j0⟩ := Z9w o2
     split at o5
     . rename_i i hi
       have hz : i.zero = some z := by
        have := j7 w
        cases hz : i.zero with
        | none => simp [zeroValue, typeInfo, hi, hz, unsupported] at this
        | some z' => simp [zeroValue, typeInfo, hi, hz] at this; rw [this]
       have j5 : i.size = z.cells.size := by rw [j0, j2]; simp [Program.cellsOf, hi]
       have hb : (i.bytes : Int) * c <= 281474976710656 := by
        have h1 : i.bytes <= 2048 := by simpa using o5
        have h2 : (i.bytes : Int) * c = ((i.bytes * c.toNat : Nat) : Int) := by rw [Int.natCast_mul]; congr 1; omega
        have h3 : i.bytes * c.toNat <= 2048 * 2 ^ 36 := Nat.mul_le_mul h1 j1
        omega
       have j4 : c <= 9223372036854775807 := by simp [big] at j1; omega
       have r0 := Z9j (P := P) (C := Yy) (S := S) (w := w) j6
       have hx := (R.v_inv ra).1
       have hy := (R.v_inv rb).1
       subst hx; subst hy
       have j3 := run_make (P := P) w t ty i z (X7 o1) hi hz k k' c c h0 (gU _) hb j4
       obtain ⟨H2, M2⟩ := H.make hf hB ⟨ty, List.replicate c.toNat zs, true, false⟩ (madeCells z.cells (c.toNat * i.size)) rfl
        (fun m row hm => by rw [gG] at hm; split at hm <;> simp at hm; rw [<- hm]; exact ⟨j2, Z4s j6⟩)
        (by simp [size_madeCells, j5, j0, j2])
        (fun m row j a h1 h2 => by
         rw [gG] at h1
         split at h1
         . rename_i hm
           simp at h1
           subst h1
           have hj : j < zs.length := (dU.1 h2).1
           refine ⟨z.cells[j], ?_, r0.at_ j a _ h2 (by simp [j0, hj])⟩
           have := Z4l z.cells c.toNat m j (by omega) hm
           show (madeCells z.cells (c.toNat * i.size))[m * P.cellsOf ty + j]? = _
           rw [j5, <- j2, <- j0, this]
           simp [j0, hj]
         . cases h1)
       refine ⟨_, _, j3, .ref ty (U.n + nm) 0 c.toNat c.toNat true, rfl, ⟨_, S, M2.wide (fun b hb => by simp only [X1] at hb ⊢; omega), H2, ?_⟩⟩
       refine .ref ty (U.n + nm) 0 c.toNat c.toNat true w.heap.size (P.cellsOf ty) c.toNat _ (Yv _ _) rfl (dO _) (fun _ => rfl) (fun _ => by simp) (dO _) ⟨_, _, Z5m w _, ?_⟩
       simp [size_madeCells, j5, j0, j2]
     . cases o5
   . cases e
 . cases e
theorem Zud (H : HR P C S w B h) (hB : B <= w.heap.size) {n t ty : Nat} {zs : List A} {a b : A} {x y : Value} (ra : R P C S w a x) (rb : R P C S w b y) (hf : C n = none) (ok : Zro P t ty zs = true)
 {U U' : St} {d nm : Nat} (hσ : U.h = h) (hn : U.n + nm = n) (e : Y33 U d nm ty zs a b = some U') :
 ∃ v w', (Instr.makeSlice t x y).run P w = .ok v w' /\ ∃ u, U' = { U with s := upd U.s d u, h := U'.h } /\ Eff P B C S w (X1 n 1) U'.h u v w' := by
 subst hσ
 subst hn
 unfold Y33 at e
 split at e
 . rename_i k l k' c
   split at e
   . rename_i hc
     obtain ⟨h0, rfl, j1⟩ := hc
     simp only [dM] at e
     subst e
     simp only [Zro, dQ, eJ] at ok
     obtain ⟨⟨⟨o1, o2⟩, o4⟩, o5⟩ := ok
     obtain ⟨z, j7, j6, j2, j0⟩ := Z9w o2
     split at o5
     . rename_i i hi
       have hz : i.zero = some z := by
        have := j7 w
        cases hz : i.zero with
        | none => simp [zeroValue, typeInfo, hi, hz, unsupported] at this
        | some z' => simp [zeroValue, typeInfo, hi, hz] at this; rw [this]
       have j5 : i.size = z.cells.size := by rw [j0, j2]; simp [Program.cellsOf, hi]
       have hb : (i.bytes : Int) * c <= 281474976710656 := by
        have h1 : i.bytes <= 2048 := by simpa using o5
        have h2 : (i.bytes : Int) * c = ((i.bytes * c.toNat : Nat) : Int) := by rw [Int.natCast_mul]; congr 1; omega
        have h3 : i.bytes * c.toNat <= 2048 * 2 ^ 36 := Nat.mul_le_mul h1 j1
        omega
       have j4 : c <= 9223372036854775807 := by simp [big] at j1; omega
       have r0 := Z9j (P := P) (C := Yy) (S := S) (w := w) j6
       have hx := (R.v_inv ra).1
       have hy := (R.v_inv rb).1
       subst hx; subst hy
       have j3 := run_make (P := P) w t ty i z (X7 o1) hi hz k k' c c h0 (gU _) hb j4
       obtain ⟨H2, M2⟩ := H.make hf hB ⟨ty, List.replicate c.toNat zs, true, true⟩ (madeCells z.cells (c.toNat * i.size)) rfl
        (fun m row hm => by rw [gG] at hm; split at hm <;> simp at hm; rw [<- hm]; exact ⟨j2, Z4s j6⟩)
        (by simp [size_madeCells, j5, j0, j2])
        (fun m row j a h1 h2 => by
         rw [gG] at h1
         split at h1
         . rename_i hm
           simp at h1
           subst h1
           have hj : j < zs.length := (dU.1 h2).1
           refine ⟨z.cells[j], ?_, (r0.at_ j a _ h2 (by simp [j0, hj])).up⟩
           have := Z4l z.cells c.toNat m j (by omega) hm
           show (madeCells z.cells (c.toNat * i.size))[m * P.cellsOf ty + j]? = _
           rw [j5, <- j2, <- j0, this]
           simp [j0, hj]
         . cases h1)
       refine ⟨_, _, j3, .ref ty (U.n + nm) 0 c.toNat c.toNat true, rfl, ⟨_, S, M2.wide (fun b hb => by simp only [X1] at hb ⊢; omega), H2, ?_⟩⟩
       refine .ref ty (U.n + nm) 0 c.toNat c.toNat true w.heap.size (P.cellsOf ty) c.toNat _ (Yv _ _) rfl (dO _) (fun _ => rfl) (fun _ => by simp) (dO _) ⟨_, _, Z5m w _, ?_⟩
       simp [size_madeCells, j5, j0, j2]
     . cases o5
   . cases e
 . cases e
theorem Zct {a : A} {x : Value} (r : R P C S w a x) {b : Nat} (hb : b ∈ Xk a) : C b ≠ none := by
 cases r with
 | ref ty b' off len cap ex k sz c ad h1 => simp [Xk] at hb; subst hb; rw [h1]; simp
 | nil ty b' ex h1 => simp [Xk] at hb; subst hb; rw [h1]; simp
 | _ => simp [Xk] at hb
theorem Z7f : ∀ {as : List A} {vs : List Value}, RL P C S w as vs -> ∀ {b : Nat}, b ∈ Zr as -> C b ≠ none
 | [], vs, r, b, hb => by simp [Zr] at hb
 | a :: as, vs, r, b, hb => by
   obtain ⟨x, xs, rfl, r1, r2⟩ := r.inv_cons
   simp only [Zr, dW] at hb
   rcases hb with hb | hb
   . exact Zct r1 hb
   . exact Z7f r2 hb
theorem Zw6 {h : Hp} {bs : List Nat} {n : Nat} {blk : Blk} (hn : n ∉ bs) : frz (upd h n (some blk)) bs = upd (frz h bs) n (some blk) := by
 funext b
 rw [Zd6]
 unfold upd
 by_cases hb : b = n
 . subst hb; simp [hn]
 . simp only [if_neg hb]; rw [Zd6]
theorem Zbc {h : Hp} : ∀ {as cs : List A}, Z0q h as = some cs -> Zi as = true
 | [], cs, e => rfl
 | a :: as, cs, e => by
   obtain ⟨c, hc, e1⟩ := Z6 e
   obtain ⟨j1, j0, e2⟩ := Z6 e1
   simp only [Zi, dQ]
   refine ⟨?_, Zbc j0⟩
   cases a <;> first | rfl | (simp [Wz] at hc)
theorem Zah {h : Hp} : ∀ {as cs : List A}, Z0q h as = some cs -> Zi cs = true
 | [], cs, e => by simp only [Z0q, dM] at e; subst e; rfl
 | a :: as, cs, e => by
   obtain ⟨c, hc, e1⟩ := Z6 e
   obtain ⟨j1, j0, e2⟩ := Z6 e1
   simp only [dM] at e2
   subst e2
   simp only [Zi, dQ]
   refine ⟨?_, Zah j0⟩
   cases a <;> first
    | (simp only [Wz, dM] at hc; subst hc; rfl)
    | (simp [Wz] at hc; done)
    | (obtain ⟨k, hk, hc⟩ := Z6 hc
       split at hc
       . simp only [dM] at hc; subst hc; rfl
       . cases hc)
theorem Zd2 (H : HR P C S w B h) (hS : ∀ k, S k -> S' k) {U : St} (hσ : U.h = h) {ev' : Operand -> Value} (hget : ∀ x y, Yx x y = true -> R P C S w (ev U y) (ev' x)) {n : Nat} :
 ∀ {ps : List Operand} {xs : List Opd} {rows : List (List A)}, Z06 ps xs = true -> Z5k U n xs = some rows -> Fast C h (Xw U xs) S' ->
  rows.length = ps.length /\ (∀ b ∈ Xw U xs, C b ≠ none) /\ ∀ (i : Nat) (row : List A) (p : Operand), rows[i]? = some row -> ps[i]? = some p -> (row.length = n /\ Zi row = true) /\ (ev' p).cells.size = n /\ RL P Yy S' w row (ev' p).cells.toList
 | [], xs, rows, ok, e, hf => by
   cases xs with
   | nil =>
     simp only [Z5k, dM] at e
     subst e
     exact ⟨rfl, fun b hb => by simp [Xw] at hb, fun i row p h => by simp at h⟩
   | cons _ _ => simp [Z06] at ok
 | p :: ps, xs, rows, ok, e, hf => by
   cases xs with
   | nil => simp [Z06] at ok
   | cons x xs =>
     simp only [Z06, dQ] at ok
     simp only [Z5k] at e
     split at e
     . rename_i hn
       obtain ⟨r0, j0, e1⟩ := Z6 e
       obtain ⟨rs, j2, e2⟩ := Z6 e1
       simp only [dM] at e2
       subst e2
       rw [hσ] at j0
       simp only [Xw] at hf
       have j1 := (R.cells (Zbc j0) (hget p x ok.1)).1
       have q1 := Z8w H hS j0 j1 (Fast.left hf)
       obtain ⟨g1, g2, g3⟩ := Zd2 H hS hσ hget ok.2 j2 (Fast.right hf)
       refine ⟨by simp [g1], fun b hb => ?_, fun i row p' h1 h2 => ?_⟩
       . simp only [Xw, dW] at hb
         rcases hb with hb | hb
         . exact Z7f j1 hb
         . exact g2 b hb
       . cases i with
         | zero =>
           simp at h1 h2
           subst h1; subst h2
           have l1 := q1.len
           have l2 := j1.len
           simp at l1 l2
           exact ⟨⟨by omega, Zah j0⟩, by omega, q1⟩
         | succ i => exact g3 i row p' (by simpa using h1) (by simpa using h2)
     . cases e
def Zd7 (P : Program) (t ty n len : Nat) (parts : List (Nat × Operand)) (xs : List Opd) : Bool :=
 Z82 P t ty && decide (n = P.cellsOf ty) && decide (0 < n) && decide (len * n <= 2 ^ 24) && decide (parts.map (·.1) = List.range len) && Z06 (parts.map (·.2)) xs &&
  (match P.info? ty with | some i => i.zero.isSome | none => false)
theorem Zhp {C0 : Rho} {U : St} {ev' : Operand -> Value}
 {t ty n len : Nat} {parts : Array (Nat × Operand)} {xs : List Opd} {rows : List (List A)} (ok : Zd7 P t ty n len parts.toList xs = true)
 (g1 : rows.length = (parts.toList.map (·.2)).length) (g3 : ∀ (i : Nat) (row : List A) (p : Operand), rows[i]? = some row -> (parts.toList.map (·.2))[i]? = some p -> (row.length = n /\ Zi row = true) /\ (ev' p).cells.size = n /\ RL P C0 S w row (ev' p).cells.toList) :
 ∃ cells : Array Value, (Instr.buildSlice t len (parts.map fun (i, x) => (i, ev' x))).run P w = .ok (.slice (some ⟨w.heap.size, 0, none⟩) rows.length rows.length) (w.alloc (.cells cells ty)) /\ cells.size = rows.length * P.cellsOf ty /\
  (∀ (i : Nat) (row : List A), rows[i]? = some row -> row.length = P.cellsOf ty /\ Zi row = true) /\
  ∀ (i : Nat) (row : List A) (j : Nat) (x : A), rows[i]? = some row -> row[j]? = some x -> ∃ y, cells[i * P.cellsOf ty + j]? = some y /\ R P C0 S w x y := by
 simp only [Zd7, dQ, eJ] at ok
 obtain ⟨⟨⟨⟨⟨⟨o1, rfl⟩, o3⟩, o4⟩, o5⟩, o6⟩, o7⟩ := ok
 split at o7
 . rename_i i hi
   obtain ⟨z, hz⟩ := eW.1 o7
   have j0 : parts.toList.length = len := by have := congrArg List.length o5; simpa using this
   have jd : parts.size = len := by simpa using j0
   have j9 : rows.length = len := by rw [g1]; simpa using j0
   have ja : i.size = P.cellsOf ty := by simp [Program.cellsOf, hi]
   let vs := (parts.toList.map (·.2)).map ev'
   have hvl : vs.length = len := by simp [vs]; simpa using j0
   have j4 : ∀ v ∈ vs, v.cells.size = P.cellsOf ty := by
    intro v hv
    obtain ⟨j, hj, rfl⟩ := List.getElem_of_mem hv
    have j6 : j < rows.length := by omega
    have hp : (parts.toList.map (·.2))[j]? = some (parts.toList.map (·.2))[j] := dS (by simp; omega)
    have := (g3 j rows[j] _ (dS j6) hp).2.1
    simpa [vs] using this
   have j2 : (parts.map fun (i, x) => (i, ev' x)).toList = (vs.zipIdx 0).map fun x => (x.2, x.1) := by
    apply List.ext_getElem?
    intro j
    simp only [Array.toList_map, eN, List.getElem?_zipIdx, vs]
    cases hj : parts.toList[j]? with
    | none => simp
    | some p =>
      have h1 : (parts.toList.map (·.1))[j]? = some p.1 := by rw [eN, hj]; rfl
      rw [o5] at h1
      have hlt : j < len := by rw [<- j0]; exact (dU.1 hj).1
      rw [fY hlt] at h1
      simp at h1
      simp [<- h1]
   let cells := (vs.flatMap fun v => v.cells.toList).toArray
   have j1 : ∀ c0 : Array Value, vs.length * i.size = c0.size -> Instr.fill (fun j => some (j * i.size, i.size)) c0 (parts.map fun (i, x) => (i, ev' x)).toList = some cells := by
    intro c0 h0
    rw [j2]
    exact Great.fill_whole (by omega) vs c0 (by rw [ja]; exact j4) h0
   have j5 : (Instr.buildSlice t len (parts.map fun (i, x) => (i, ev' x))).run P w = .ok (.slice (some ⟨w.heap.size, 0, none⟩) len len) (w.alloc (.cells cells ty)) := by
    by_cases j3 : len * i.size = 0
    . have jc : len = 0 := by
       rcases Nat.mul_eq_zero.1 j3 with h | h
       . exact h
       . omega
      have jf := j1 #[] (by rw [hvl]; simpa using j3)
      subst jc
      have je : parts = #[] := by
       have h0 : parts.size = 0 := by simpa using j0
       exact Array.eq_empty_of_size_eq_zero h0
      have jb : cells = #[] := by
       have : vs = [] := dA hvl
       simp [cells, this]
      subst je
      rw [jb]
      simp [Instr.buildSlice, run_underlying (X7 o1), sizeOf, typeInfo, hi, newRow, Instr.fill, Array.range_zero']
    . exact run_buildSlice w t ty len _ cells i z (X7 o1) hi hz (by rw [ja]; omega) j3 (j1 _ (by simp [hvl]))
   have j7 : cells.size = len * P.cellsOf ty := by
    have := Great.fill_whole (s := P.cellsOf ty) o3 vs (Array.replicate (len * P.cellsOf ty) undef) j4 (by simp [hvl])
    obtain ⟨r, hr, hs, _⟩ := Great.fill_dense (s := P.cellsOf ty) o3 vs 0 (Array.replicate (len * P.cellsOf ty) undef) j4 (by simp [hvl])
    rw [this] at hr
    simp only [dM] at hr
    rw [<- hr] at hs
    simpa [cells] using hs
   refine ⟨cells, by rw [j9]; exact j5, by rw [j7, j9], (fun j row hj => by
    have j6 : j < rows.length := (dU.1 hj).1
    have hp : (parts.toList.map (·.2))[j]? = some (parts.toList.map (·.2))[j] := dS (by simp; omega)
    exact (g3 j row _ hj hp).1), (fun j row q a h1 h2 => by
    have j6 : j < rows.length := (dU.1 h1).1
    have hp : (parts.toList.map (·.2))[j]? = some (parts.toList.map (·.2))[j] := dS (by simp; omega)
    obtain ⟨⟨k1, _⟩, k2, k3⟩ := g3 j row _ h1 hp
    have hq : q < row.length := (dU.1 h2).1
    have j8 : q < vs[j].cells.size := by rw [j4 _ (eV _)]; omega
    refine ⟨vs[j].cells[q], ?_, ?_⟩
    . show cells[j * P.cellsOf ty + q]? = _
      have := Great.flat_get o3 vs j4 (j * P.cellsOf ty + q)
      have hd := Y2e (i := j) (show q < P.cellsOf ty by omega)
      rw [hd.1, hd.2] at this
      simp only [cells, gM]
      rw [this, dS (by omega)]
      simp [eR j8]
    . have := k3.at_ q a vs[j].cells[q] h2 (by simp [vs] at j8 ⊢)
      exact this)⟩
 . cases o7
theorem Zgj {bx : Bool} (H1 : HR P C S w B h) (hB : B <= w.heap.size) {U : St} {ev' : Operand -> Value}
 {m t ty n len : Nat} {parts : Array (Nat × Operand)} {xs : List Opd} {rows : List (List A)} (hf : C m = none) (ok : Zd7 P t ty n len parts.toList xs = true)
 (g1 : rows.length = (parts.toList.map (·.2)).length) (g3 : ∀ (i : Nat) (row : List A) (p : Operand), rows[i]? = some row -> (parts.toList.map (·.2))[i]? = some p -> (row.length = n /\ Zi row = true) /\ (ev' p).cells.size = n /\ RL P (inR bx C) S w row (ev' p).cells.toList) :
 ∃ x w', (Instr.buildSlice t len (parts.map fun (i, x) => (i, ev' x))).run P w = .ok x w' /\
  Eff P B C S w (X1 m 1) (upd h m (some ⟨ty, rows, true, bx⟩)) (.ref ty m 0 rows.length rows.length true) x w' := by
 obtain ⟨cells, j3, j1, j2, j0⟩ := Zhp (U := U) (C0 := inR bx C) ok g1 g3
 obtain ⟨H2, M2⟩ := H1.make (b := m) hf hB ⟨ty, rows, true, bx⟩ cells rfl j2 (by show rows.length * P.cellsOf ty <= cells.size; rw [j1]; exact dO _) j0
 refine ⟨_, _, j3, ⟨_, _, M2.wide (fun b hb => by simp only [X1]; omega), H2, ?_⟩⟩
 refine .ref ty m 0 rows.length rows.length true w.heap.size (P.cellsOf ty) rows.length _ (Yv _ _) rfl (dO _) (fun _ => rfl) (fun _ => by simp) (dO _) ⟨cells, ty, Z5m w _, ?_⟩
 simp [j1]
theorem Zva (H : HR P C S w B h) (hB : B <= w.heap.size) {U : St} (hσ : U.h = h) {ev' : Operand -> Value} (hget : ∀ x y, Yx x y = true -> R P C S w (ev U y) (ev' x))
 {m t ty n len : Nat} {parts : Array (Nat × Operand)} {xs : List Opd} {rows : List (List A)} (hf : C m = none) (ok : Zd7 P t ty n len parts.toList xs = true) (e : Z5k U n xs = some rows) :
 ∃ x w', (Instr.buildSlice t len (parts.map fun (i, x) => (i, ev' x))).run P w = .ok x w' /\
  Eff P B C S w (X1 m 1) (frz (upd h m (some ⟨ty, rows, true, false⟩)) (Xw U xs)) (.ref ty m 0 rows.length rows.length true) x w' := by
 have j0 := ok
 simp only [Zd7, dQ, eJ] at j0
 obtain ⟨g1, g2, g3⟩ := Zd2 H (S' := Wk C S h (Xw U xs)) (fun _ h => .inl h) hσ hget j0.1.2 e (Fast.frozen _)
 have j1 : m ∉ Xw U xs := fun hm => g2 m hm hf
 rw [Zw6 j1]
 obtain ⟨x, w', hr, hq⟩ := Zgj (bx := false) (U := U) (H.freeze (Xw U xs)) hB hf ok g1 g3
 obtain ⟨C', S', M, H2, r⟩ := hq.ex
 exact ⟨x, w', hr, ⟨C', S', ((Z7w H (Xw U xs) (fun _ => False)).trans M).wide (fun b hb => by rcases hb with hb | hb; exact hb.elim; exact hb), H2, r⟩⟩
theorem Z93 {U : St} {n : Nat} {ev' : Operand -> Value} (hget : ∀ x y, Yx x y = true -> R P C S w (ev U y) (ev' x)) :
 ∀ {ps : List Operand} {xs : List Opd} {rows : List (List A)}, Z06 ps xs = true -> Z5o U n xs = some rows ->
  rows.length = ps.length /\ ∀ (i : Nat) (row : List A) (p : Operand), rows[i]? = some row -> ps[i]? = some p -> (row.length = n /\ Zi row = true) /\ (ev' p).cells.size = n /\ RL P C S w row (ev' p).cells.toList
 | [], xs, rows, ok, e => by
   cases xs with
   | nil => simp only [Z5o, dM] at e; subst e; exact ⟨rfl, fun i row p h => by simp at h⟩
   | cons _ _ => simp [Z06] at ok
 | p :: ps, xs, rows, ok, e => by
   cases xs with
   | nil => simp [Z06] at ok
   | cons x xs =>
     simp only [Z06, dQ] at ok
     simp only [Z5o] at e
     split at e
     . rename_i hn
       obtain ⟨rs, j1, e2⟩ := Z6 e
       simp only [dM] at e2
       subst e2
       have j0 := (R.cells hn.2 (hget p x ok.1)).1
       obtain ⟨g1, g3⟩ := Z93 hget ok.2 j1
       refine ⟨by simp [g1], fun i row p' h1 h2 => ?_⟩
       cases i with
       | zero =>
         simp at h1 h2
         subst h1; subst h2
         have l2 := j0.len
         simp at l2
         exact ⟨hn, by omega, j0⟩
       | succ i => exact g3 i row p' (by simpa using h1) (by simpa using h2)
     . cases e
theorem Zx4 (H : HR P C S w B h) (hB : B <= w.heap.size) {U : St} {ev' : Operand -> Value} (hget : ∀ x y, Yx x y = true -> R P C S w (ev U y) (ev' x))
 {m t ty n len : Nat} {parts : Array (Nat × Operand)} {xs : List Opd} {rows : List (List A)} (hf : C m = none) (ok : Zd7 P t ty n len parts.toList xs = true) (e : Z5o U n xs = some rows) :
 ∃ x w', (Instr.buildSlice t len (parts.map fun (i, x) => (i, ev' x))).run P w = .ok x w' /\
  Eff P B C S w (X1 m 1) (upd h m (some ⟨ty, rows, true, true⟩)) (.ref ty m 0 rows.length rows.length true) x w' := by
 have j0 := ok
 simp only [Zd7, dQ, eJ] at j0
 obtain ⟨g1, g3⟩ := Z93 hget j0.1.2 e
 exact Zgj (bx := true) (U := U) H hB hf ok g1 g3
theorem Zhf {U : St} {n : Nat} : ∀ {xs : List Opd} {rows : List (List A)}, Z6r U n xs = some rows -> Z5o U n xs = some rows /\ ∀ row ∈ rows, ∀ x ∈ row, isV x = true
 | [], rows, e => by simp only [Z6r, dM] at e; subst e; exact ⟨rfl, fun r h => by simp at h⟩
 | x :: xs, rows, e => by
   simp only [Z6r] at e
   split at e
   . rename_i hn
     obtain ⟨rs, j0, e2⟩ := Z6 e
     simp only [dM] at e2
     subst e2
     obtain ⟨q1, q2⟩ := Zhf j0
     have hc : Zi (ev U x).cells = true := by
      rw [Yz]
      intro y hy
      have := cY.1 hn.2 y hy
      cases y <;> simp [isV] at this <;> rfl
     refine ⟨by simp only [Z5o, q1, bnd]; rw [if_pos ⟨hn.1, hc⟩], fun row hr y hy => ?_⟩
     rcases eK.1 hr with rfl | hr
     . exact cY.1 hn.2 y hy
     . exact q2 row hr y hy
   . cases e
theorem Zuy (H : HR P C S w B h) (hB : B <= w.heap.size) {U : St} {ev' : Operand -> Value} (hget : ∀ x y, Yx x y = true -> R P C S w (ev U y) (ev' x))
 {t ty n len : Nat} {parts : Array (Nat × Operand)} {xs : List Opd} {rows : List (List A)} {iv : Nat -> Prop} (ok : Zd7 P t ty n len parts.toList xs = true) (e : Z6r U n xs = some rows) :
 ∃ x w', (Instr.buildSlice t len (parts.map fun (i, x) => (i, ev' x))).run P w = .ok x w' /\ Eff P B C S w iv h (.lit ty rows) x w' := by
 have j5 := ok
 simp only [Zd7, dQ, eJ] at j5
 obtain ⟨e1, hv⟩ := Zhf e
 obtain ⟨g1, g3⟩ := Z93 hget j5.1.2 e1
 obtain ⟨cells, j3, j6, j4, j1⟩ := Zhp (U := U) (C0 := C) ok g1 g3
 have hlt : ∀ k, S k -> k < w.heap.size := H.old
 have j0 : Ext S w (w.alloc (.cells cells ty)) := Zk9 S hlt cells ty
 have j2 : ∀ k, S k -> S k \/ k = w.heap.size := fun k h => .inl h
 refine ⟨_, _, j3, ⟨C, fun k => S k \/ k = w.heap.size, ⟨fun _ _ h => h, j2, j0, (Below.refl B w).alloc hB _, fun _ h _ => h, fun k hk => by rcases hk with hk | hk; exact .inl hk; exact .inr (by omega)⟩, ?_, ?_⟩⟩
 . refine ⟨fun b blk eb => ?_, H.inj, fun k hk => ?_, H.glob.mono j2 j0⟩
   . rcases H.at_ b blk eb with ⟨k, sz, hb, j7⟩ | ⟨hb, r⟩
     . have hk := H.lt eb hb
       exact .inl ⟨k, sz, hb, j7.mono (fun _ _ h => h) j2 j0 (fun h => by rcases h with h | h; exact h; omega) (Below.heap_alloc w _ k hk)⟩
     . exact .inr ⟨hb, r⟩
   . show k < (w.heap.push _).size
     rw [Array.size_push]
     rcases hk with hk | hk
     . have := hlt k hk; omega
     . omega
 . refine .lit ty rows (some ⟨w.heap.size, 0, none⟩) rows.length (fun i j => (cells[i * P.cellsOf ty + j]?).getD undef) (dO _) j4 (fun i row j x h1 h2 => ?_) (fun i row j x h1 h2 => ?_)
   . obtain ⟨y, hy, _⟩ := j1 i row j x h1 h2
     refine ⟨w.heap.size, 0, rfl, .inr rfl, ?_⟩
     have := Z5m w (.cells cells ty)
     simp only [World.cell?, this, dF, hy, dD]
     rfl
   . obtain ⟨y, hy, hr⟩ := j1 i row j x h1 h2
     simp only [hy, dD]
     have := hv row (dY h1) x (dY h2)
     cases x with
     | v z =>
       cases hr with
       | v _ hz => exact .v _ hz
     | _ => simp [isV] at this
end Go.Vm
end
