/-
  The abstract machine, its values and memory, and how they stand to the model's
-/
import GoSem.Core.Layout
import Derived.Calls
import Derived.Below
import Derived.Laws.Cells
import Derived.Laws.World
import Derived.Laws.Sem
import Derived.Lib.LaidTab
import Derived.Lib.ItoaNum
import GoSem.Dispatch
import GoSem.Core.Region
import Derived.Laws.Entries
import Derived.ChangeKeysEq
import Derived.Laws.Strings
import Derived.Laws.StructEq
import Derived.Laws.BytesString
import Derived.Laws.Tables
import Derived.Laws.MakeOwn
import Derived.Great.BuildSlice
section
set_option linter.unusedVariables false
set_option linter.unusedSectionVars false
set_option linter.unusedSimpArgs false
namespace Go.Vm
inductive A where
 | bad
 | err
 | und
 | v (x : Value)
 | lit (ty : Nat) (rows : List (List A))
 | olit (ty : Nat) (rows : List (List A))
 | ref (ty b off len cap : Nat) (ex : Bool)
 | ptr (b i j : Nat)
 | pl (row : List A) (j : Nat)
 | fn (f : Nat) (caps : List A)
 | agg (cs : List A)
 | tup (vs : List A)
 | ifg (g : Bool) (a : A)
 deriving Inhabited
abbrev A.n (n : Int) : A := .v (.int .i64 n)
abbrev A.q (b : Bool) : A := .v (.bool b)
abbrev A.s (s : ByteArray) : A := .v (.string s)
structure Blk where
 ty : Nat
 rows : List (List A)
 own : Bool
 box : Bool
 deriving Inhabited
abbrev Hp := Nat → Option Blk
def upd {α : Type} (f : Nat → α) (k : Nat) (x : α) : Nat → α := fun i => if i = k then x else f i
theorem Z7 {α : Type} (f : Nat → α) (k : Nat) (x : α) (i : Nat) : upd f k x i = if i = k then x else f i := rfl
structure St where
 s : Nat → A
 h : Hp
 n : Nat
 base : Nat
 deriving Inhabited
inductive Opd where
 | t (n : Nat)
 | k (a : A)
 deriving Inhabited
def ev (σ : St) : Opd → A
 | .t n => σ.s n
 | .k a => a
inductive AOp where
 | mv (d : Nat) (x : Opd)
 | mvn (d nm ty : Nat)
 | pick (d : Nat) (c a b : Opd)
 | al (d nm ty : Nat) (zs : List A)
 | box (d nm ty n : Nat) (x : Opd)
 | bld (d nm : Nat) (zs : List A) (ps : List (Nat × Nat × Opd))
 | bsl (d nm ty n : Nat) (xs : List Opd)
 | ld (d n : Nat) (g : Bool) (p : Opd)
 | st (n : Nat) (p x : Opd)
 | stn (nm ty : Nat) (p : Opd)
 | nl (d : Option Nat) (x : Opd)
 | bin (d : Nat) (op : BinOp) (x y : Opd)
 | eqs (d : Nat) (ks : List Nat) (neg : Bool) (x y : Opd)
 | beq (d : Nat) (neg : Bool) (x y : Opd)
 | un (d : Nat) (op : UnOp) (x : Opd)
 | cv (d : Nat) (k : IntKind) (x : Opd)
 | cbs (d e : Nat) (x : Opd)
 | mkf (d f : Nat) (caps : List Opd)
 | mks (d nm ty : Nat) (zs : List A) (len cap : Opd)
 | sl (d : Nat) (e : Option Nat) (x : Opd) (lo hi mx : Option Opd)
 | fa (d : Nat) (x : Opd) (off : Nat)
 | fld (d : Nat) (x : Opd) (off n : Nat) (g : Bool)
 | ia (d e : Nat) (x i : Opd)
 | ix (d : Nat) (x i : Opd)
 | ex (d : Nat) (x : Opd) (i : Nat)
 | call (d : Option Nat) (nm w f : Nat) (xs : List Opd)
 | callv (d : Option Nat) (nm w : Nat) (f : Opd) (xs : List Opd)
 | dcall (d : Option Nat) (f : Nat) (xs : List Opd)
 | dcf (d : Option Nat) (f : Nat) (xs : List Opd)
 | dcallv (d : Option Nat) (f : Opd) (xs : List Opd)
 | len (d : Nat) (str : Bool) (x : Opd)
 | app (d nm e : Nat) (s x : Opd)
 | clr (e : Nat) (zs : List A) (x : Opd)
 | mnx (d : Nat) (mx : Bool) (x y : Opd)
 | mkb (d nm ty : Nat) (zs : List A) (len cap : Opd)
 | bsb (d nm ty n : Nat) (xs : List Opd)
 | apb (d nm e : Nat) (s x : Opd)
 | callx (d : Option Nat) (nm w f : Nat) (xs : List Opd)
 | dcs (d : Option Nat) (f : Nat) (xs : List Opd)
 | bll (d ty n : Nat) (xs : List Opd)
 | no (why : String)
 deriving Inhabited
inductive G where
 | o (op : AOp)
 | g (slot : Nat) (want : Bool) (op : AOp)
 deriving Inhabited
inductive ACode where
 | sk
 | rgs (tot : Nat) (sep : List (Opd × Opd)) (ops : List G)
 | rg (tot : Nat) (dr : Bool) (ops : List G)
 | rgk (tot : Nat) (sep : List (Opd × Opd)) (keep : List Nat) (ops : List G)
 | sq (a b : ACode)
 | ite (c : Opd) (a b : ACode)
 | bl (id : Nat) (c : ACode)
 | lp (L : List Nat) (c : ACode)
 | xt (id : Nat)
 | rt
 | no (why : String)
 deriving Inhabited
inductive RVar where
 | t (n : Nat)
 | cell (a n : Nat) (g : Bool)
 deriving Inhabited
structure AFn where
 np : Nat
 res : List RVar
 code : ACode
 deriving Inhabited
def A.cells : A → List A
 | .agg cs => cs
 | a => [a]
def bnd {α β : Type} (o : Option α) (k : α → Option β) : Option β :=
 match o with
 | some a => k a
 | none => none
def seg (row : List A) (j n : Nat) : List A := (row.drop j).take n
def val (g : Bool) (cs : List A) : Option A :=
 match g, cs with
 | true, cs => some (.agg cs)
 | false, [a] => some a
 | false, _ => none
def binI (op : BinOp) (k : IntKind) (a b : Int) : Option Value :=
 match op with
 | .add => some (.int k (k.wrap (a + b)))
 | .sub => some (.int k (k.wrap (a - b)))
 | .mul => some (.int k (k.wrap (a * b)))
 | .quo => if b = 0 then none else some (.int k (k.wrap (a.tdiv b)))
 | .rem => if b = 0 then none else some (.int k (a.tmod b))
 | .xor => some (.int k (k.wrap (BitVec.ofInt k.bits a ^^^ BitVec.ofInt k.bits b).toNat))
 | .eql => some (.bool (decide (a = b)))
 | .neq => some (.bool (!decide (a = b)))
 | .lss => some (.bool (a < b))
 | .leq => some (.bool (a ≤ b))
 | .gtr => some (.bool (a > b))
 | .geq => some (.bool (a ≥ b))
 | _ => none
def Z3h : List UInt8 → List UInt8 → Bool
 | _, [] => false
 | [], _ :: _ => true
 | a :: x, b :: y => a < b || (a == b && Z3h x y)
def binS (op : BinOp) (x y : ByteArray) : Option Value :=
 match op with
 | .add => if x.size + y.size ≤ 2 ^ 62 then some (.string (x ++ y)) else none
 | .eql => some (.bool (decide (x = y)))
 | .neq => some (.bool (!decide (x = y)))
 | .lss => some (.bool (Z3h x.toList y.toList))
 | _ => none
def binV (op : BinOp) (x y : Value) : Option Value :=
 match x, y with
 | .int k a, .int k' b => if k = k' then binI op k a b else none
 | .string a, .string b => binS op a b
 | _, _ => none
def Z0a : Nat → A → A → Option Bool
 | 0, .v (.int k a), .v (.int k' b) => if k = k' then some (decide (a = b)) else none
 | 1, .v (.string a), .v (.string b) => some (decide (a = b))
 | 2, .v (.bool a), .v (.bool b) => some (decide (a = b))
 | _, _, _ => none
def Yu : List Nat → List A → List A → Option Bool
 | [], [], [] => some true
 | k :: ks, x :: xs, y :: ys => bnd (Z0a k x y) fun p => bnd (Yu ks xs ys) fun q => some (p && q)
 | _, _, _ => none
def unV (op : UnOp) (x : Value) : Option Value :=
 match op, x with
 | .not, .bool b => some (.bool !b)
 | .neg, .int k n => some (.int k (k.wrap (0 - n)))
 | _, _ => none
def W8 (h : Hp) : A → Option A
 | .v x => some (.v x)
 | .lit ty r => some (.lit ty r)
 | .ref ty b off len _ _ => bnd (h b) fun k => if k.box = false ∧ off + len ≤ k.rows.length then some (.lit k.ty ((k.rows.drop off).take len)) else none
 | _ => none
def Z0e (h : Hp) : List A → Option (List A)
 | [] => some []
 | a :: as => bnd (W8 h a) fun x => bnd (Z0e h as) fun xs => some (x :: xs)
def Z6m (h : Hp) : A → Option A
 | .pl r j => some (.pl r j)
 | .ptr b i j => bnd (h b) fun k => bnd k.rows[i]? fun row => bnd (Z0e h row) fun r => some (.pl r j)
 | _ => none
def Z60 (h : Hp) : List A → Option (List A)
 | [] => some []
 | a :: as => bnd (Z6m h a) fun x => bnd (Z60 h as) fun xs => some (x :: xs)
def Z9t (h : Hp) : A → Option A
 | .agg cs => bnd (Z0e h cs) fun xs => some (.agg xs)
 | .fn f caps => bnd (Z60 h caps) fun xs => some (.fn f xs)
 | .ptr b i j => Z6m h (.ptr b i j)
 | .pl r j => some (.pl r j)
 | a => W8 h a
def Z0u (h : Hp) : List A → Option (List A)
 | [] => some []
 | a :: as => bnd (Z9t h a) fun x => bnd (Z0u h as) fun xs => some (x :: xs)
def X7 : A → List Nat
 | .ref _ b _ _ _ _ => [b]
 | _ => []
def Zi : List A → List Nat
 | [] => []
 | a :: as => X7 a ++ Zi as
def Z38 (h : Hp) : A → List Nat
 | .ptr b i _ => match h b with
   | some k => b :: Zi (k.rows.getD i [])
   | none => []
 | _ => []
def Z1b (h : Hp) : List A → List Nat
 | [] => []
 | a :: as => Z38 h a ++ Z1b h as
def Z9n (h : Hp) : A → List Nat
 | .agg cs => Zi cs
 | .fn _ caps => Z1b h caps
 | .ptr b i j => Z38 h (.ptr b i j)
 | a => X7 a
def Xa (h : Hp) : List A → List Nat
 | [] => []
 | a :: as => Z9n h a ++ Xa h as
def frz (h : Hp) : List Nat → Hp
 | [] => h
 | b :: bs => match h b with
   | some k => frz (upd h b (some { k with own := false })) bs
   | none => frz h bs
def Wl : A → Bool
 | .lit _ _ => true
 | _ => false
def Z7e : List A → Bool
 | [] => false
 | a :: as => Wl a || Z7e as
def notV : A → Bool
 | .v _ => false
 | _ => true
def Zi4 : List A → Bool
 | [] => false
 | a :: as => notV a || Zi4 as
def W9 : List (List A) → Bool
 | [] => false
 | r :: rs => Zi4 r || W9 rs
def Zq2 : A → Bool
 | .v _ => false
 | .olit _ rows => W9 rows
 | _ => true
def Zk2 : List A → Bool
 | [] => false
 | a :: as => Zq2 a || Zk2 as
def Z4m : List A → Bool
 | [] => false
 | .agg cs :: as => Zk2 cs || Z4m as
 | a :: as => Zq2 a || Z4m as
def Z3s (h : Hp) (seen : List Nat) : A → Option (List Nat × A)
 | .v x => some (seen, .v x)
 | .lit ty r => some (seen, .lit ty r)
 | .ref ty b off len _ _ => bnd (h b) fun k => if b ∈ seen ∨ k.box = true ∨ k.rows.length < off + len then none else
  if k.own ∧ off = 0 ∧ len = k.rows.length then some (b :: seen, .olit k.ty k.rows)
  else some (b :: seen, .lit k.ty ((k.rows.drop off).take len))
 | _ => none
def Zb5 (h : Hp) (seen : List Nat) : List A → Option (List Nat × List A)
 | [] => some (seen, [])
 | a :: as => bnd (Z3s h seen a) fun p => bnd (Zb5 h p.1 as) fun r => some (r.1, p.2 :: r.2)
def Zvt (h : Hp) (seen : List Nat) : A → Option (List Nat × A)
 | .agg cs => bnd (Zb5 h seen cs) fun p => some (p.1, .agg p.2)
 | a => Z3s h seen a
def Z6v (h : Hp) (seen : List Nat) : List A → Option (List A)
 | [] => some []
 | a :: as => bnd (Zvt h seen a) fun p => bnd (Z6v h p.1 as) fun xs => some (p.2 :: xs)
def Z4w : List A → Nat
 | [] => 0
 | .olit _ _ :: as => Z4w as + 1
 | _ :: as => Z4w as
def Z4o : A → Nat
 | .agg cs => Z4w cs
 | .olit _ _ => 1
 | _ => 0
def Y9 : List A → Nat
 | [] => 0
 | a :: as => Z4o a + Y9 as
def Zs (h : Hp) (nm : Nat) : List A → List A × Hp
 | [] => ([], h)
 | .olit ty rows :: as =>
   (.ref ty nm 0 rows.length rows.length false :: (Zs (upd h nm (some ⟨ty, rows, true, false⟩)) (nm + 1) as).1, (Zs (upd h nm (some ⟨ty, rows, true, false⟩)) (nm + 1) as).2)
 | a :: as => (a :: (Zs h nm as).1, (Zs h nm as).2)
def Z1x (h : Hp) (nm : Nat) : A → A × Hp
 | .agg cs => (.agg (Zs h nm cs).1, (Zs h nm cs).2)
 | .olit ty rows => (.ref ty nm 0 rows.length rows.length false, upd h nm (some ⟨ty, rows, true, false⟩))
 | a => (a, h)
def Zz (h : Hp) (nm : Nat) : List A → List A × Hp
 | [] => ([], h)
 | a :: as => ((Z1x h nm a).1 :: (Zz (Z1x h nm a).2 (nm + Z4o a) as).1, (Zz (Z1x h nm a).2 (nm + Z4o a) as).2)
def pack : List A → A
 | [a] => a
 | as => .tup as
def put (s : Nat → A) (d : Option Nat) (a : A) : Nat → A :=
 match d with
 | some d => upd s d a
 | none => s
def Z0r (e : Nat) (h : Hp) : A → Option (List (List A))
 | .lit ty rows => if ty = e then some rows else none
 | .ref ty b off len _ _ => bnd (h b) fun k => if k.ty = e ∧ k.box = false ∧ off + len ≤ k.rows.length then some ((k.rows.drop off).take len) else none
 | _ => none
def Z7u (h : Hp) : A → Option (List A × Nat)
 | .pl row j => some (row, j)
 | .ptr b i j => bnd (h b) fun k => bnd k.rows[i]? fun row => some (row, j)
 | _ => none
def big : Nat := 2 ^ 36
def Z1y (row : List A) (j : Nat) (cs : List A) : List A := row.take j ++ cs ++ row.drop (j + cs.length)
def Zz6 (base : Nat) : A → Bool
 | .ref _ b _ _ _ _ => decide (base ≤ b)
 | .ptr b _ _ => decide (base ≤ b)
 | .v _ => false
 | .lit _ _ => false
 | _ => true
def Zch (base : Nat) : List A → Bool
 | [] => false
 | a :: as => Zz6 base a || Zch base as
def Z0q : A → Bool
 | .v _ => true
 | .lit _ _ => true
 | .ref _ _ _ _ _ _ => true
 | .ptr _ _ _ => true
 | .pl _ _ => true
 | .fn _ _ => true
 | _ => false
def Zd : List A → Bool
 | [] => true
 | a :: as => Z0q a && Zd as
def Zmr : A → Bool
 | .ptr _ _ _ => true
 | .pl _ _ => true
 | _ => false
def Wf : List A → Bool
 | [] => true
 | a :: as => Zmr a && Wf as
def Z4c (base : Nat) (h : Hp) (b i j n : Nat) (x : A) (k : Blk) (row : List A) : Option Hp :=
 if k.own ∧ x.cells.length = n ∧ j + n ≤ row.length ∧ Zd x.cells ∧ b ∉ Zi x.cells then
  if k.box then if b < base ∧ Zch 0 x.cells then none else some (upd h b (some { k with rows := k.rows.set i (Z1y row j x.cells) }))
  else bnd (Z0e h x.cells) fun cs => some (frz (upd h b (some { k with rows := k.rows.set i (Z1y row j cs) })) (Zi x.cells))
 else none
def storeAt (base : Nat) (h : Hp) (p : A) (n : Nat) (x : A) : Option Hp :=
 match p with
 | .ptr b i j => bnd (h b) fun k => bnd k.rows[i]? fun row => Z4c base h b i j n x k row
 | _ => none
def Zt (h : Hp) (nm : Nat) : List A → List A × Hp
 | [] => ([], h)
 | .lit ty _ :: as => (.ref ty nm 0 0 0 false :: (Zt (upd h nm (some ⟨ty, [], true, false⟩)) (nm + 1) as).1, (Zt (upd h nm (some ⟨ty, [], true, false⟩)) (nm + 1) as).2)
 | a :: as => (a :: (Zt h nm as).1, (Zt h nm as).2)
def Zat (σ : St) (cs : List A) : List (Nat × Nat × Opd) → Option (List A)
 | [] => some cs
 | (off, n, x) :: ps => if (ev σ x).cells.length = n ∧ off + n ≤ cs.length ∧ Zd (ev σ x).cells then Zat σ (Z1y cs off (ev σ x).cells) ps else none
def Z2s : List (List A) → Option (List UInt8)
 | [] => some []
 | [.v (.int .u8 n)] :: r => match Z2s r with
   | some l => some (UInt8.ofNat n.toNat :: l)
   | none => none
 | _ => none
def natA : A → Option Nat
 | .v (.int _ i) => if 0 ≤ i then some i.toNat else none
 | _ => none
def optI (σ : St) (x : Option Opd) (z : Nat) : Option Nat :=
 match x with
 | none => some z
 | some x => natA (ev σ x)
def imp (a b : Bool) : Bool := !a || b
def opA (g : Bool) : A → Option A
 | .ifg g' a => if imp g g' then some a else none
 | a => some a
def evp (g : Bool) (σ : St) (x : Opd) : Option A := opA g (ev σ x)
def opQ (g : Bool) : A → Option Bool
 | .ifg g' (.v (.bool x)) => if imp g g' then some x else none
 | .v (.bool x) => some x
 | _ => if g then none else some false
def evq (g : Bool) (σ : St) (x : Opd) : Option Bool := opQ g (ev σ x)
def Z3c (σ : St) (n : Nat) : List Opd → Option (List (List A))
 | [] => some []
 | x :: xs => if (ev σ x).cells.length = n then bnd (Z0e σ.h (ev σ x).cells) fun r => bnd (Z3c σ n xs) fun rs => some (r :: rs) else none
def Xb (σ : St) : List Opd → List Nat
 | [] => []
 | x :: xs => Zi (ev σ x).cells ++ Xb σ xs
structure Env where
 call : Nat → List A → Option (List A)
 dc : Nat → List A → Hp → Nat → Option (List A × Hp × Nat)
 df : Nat → List A → Hp → Nat → Option (List A × Hp × Nat)
def aft (h : Hp) (as rs : List A) : Hp := if Z4m rs then frz h (Xa h as) else h
def Z2d (E : Env) (σ : St) (d : Option Nat) (nm w f : Nat) (as : List A) : Option St :=
 bnd (Z0u σ.h as) fun xs => bnd (E.call f xs) fun rs =>
  if w < Y9 rs then none else some { σ with s := put σ.s d (pack (Zz (aft σ.h as rs) (σ.n + nm) rs).1), h := (Zz (aft σ.h as rs) (σ.n + nm) rs).2 }
def doDc (E : Env) (tot : Nat) (σ : St) (d : Option Nat) (f : Nat) (as : List A) : Option St :=
 bnd (E.dc f as σ.h (σ.n + tot)) fun r => some { σ with s := put σ.s d (pack r.1), h := r.2.1, n := r.2.2 }
def nmIn : A → List Nat
 | .ref _ b _ _ _ _ => [b]
 | .ptr b _ _ => [b]
 | _ => []
def Z5x : List A → List Nat
 | [] => []
 | a :: as => nmIn a ++ Z5x as
def Z4x : A → List Nat
 | .fn _ caps => Z5x caps
 | .agg cs => Z5x cs
 | a => nmIn a
def Z6q : List A → List Nat
 | [] => []
 | a :: as => Z4x a ++ Z6q as
def Yh : List (List A) → List Nat
 | [] => []
 | r :: rs => Z6q r ++ Yh rs
def Shr (base : Nat) (h h' : Hp) : Prop := ∀ b, b < base → ∀ k', h' b = some k' → k'.box = true → ∃ k, h b = some k ∧ k.box = true ∧ ∀ b' ∈ Yh k'.rows, b' ∈ Yh k.rows
open Classical in
noncomputable def Zmb (E : Env) (tot : Nat) (σ : St) (d : Option Nat) (f : Nat) (as : List A) : Option St :=
 bnd (E.df f as σ.h (σ.n + tot)) fun r => if Shr σ.base σ.h r.2.1 then some { σ with s := put σ.s d (pack r.1), h := r.2.1, n := r.2.2 } else none
def plain : List A → Bool
 | [] => true
 | .v _ :: as => plain as
 | _ => false
def binA (op : BinOp) : A → A → Option A
 | .v x, .v y => bnd (binV op x y) fun z => some (.v z)
 | _, _ => none
def eqsA (ks : List Nat) (neg : Bool) : A → A → Option A
 | .agg xs, .agg ys => bnd (Yu ks xs ys) fun q => some (.v (.bool (bif neg then !q else q)))
 | _, _ => none
def beqA (neg : Bool) : A → A → Option A
 | .v (.bool p), .v (.bool q) => some (.v (.bool (bif neg then !decide (p = q) else decide (p = q))))
 | _, _ => none
def unA (op : UnOp) : A → Option A
 | .v x => bnd (unV op x) fun z => some (.v z)
 | _ => none
def cvA (k : IntKind) : A → Option A
 | .v (.int _ n) => some (.v (.int k (k.wrap n)))
 | _ => none
def segA (n : Nat) (g : Bool) (r : List A × Nat) : Option A := if r.2 + n ≤ r.1.length then val g (seg r.1 r.2 n) else none
def faA (off : Nat) : A → Option A
 | .ptr b i j => some (.ptr b i (j + off))
 | .pl r j => some (.pl r (j + off))
 | _ => none
def fldA (off n : Nat) (g : Bool) : A → Option A
 | .agg cs => if off + n ≤ cs.length then val g (seg cs off n) else none
 | _ => none
def iaA (e : Nat) : A → A → Option A
 | .ref ty b off len _ _, .v (.int _ i) => if ty = e ∧ 0 ≤ i ∧ i < len then some (.ptr b (off + i.toNat) 0) else none
 | .lit ty rows, .v (.int _ i) => if ty = e ∧ 0 ≤ i then bnd rows[i.toNat]? fun row => some (.pl row 0) else none
 | _, _ => none
def ixA : A → A → Option A
 | .v (.string s), .v (.int _ i) => if 0 ≤ i then bnd s.data.toList[i.toNat]? fun c => some (.v (.int .u8 c.toNat)) else none
 | _, _ => none
def exA (i : Nat) : A → Option A
 | .tup vs => vs[i]?
 | _ => none
def lenA (str : Bool) : A → Option A
 | .v (.string s) => bif str then some (.v (.int .i64 s.size)) else none
 | .lit _ rows => bif str then none else some (.v (.int .i64 rows.length))
 | .ref _ _ _ len _ _ => bif str then none else some (.v (.int .i64 len))
 | _ => none
def mnxA (mx : Bool) : A → A → Option A
 | .v (.int k a), .v (.int k' b) => if k = k' then some (.v (.int k (bif mx then max a b else min a b))) else none
 | _, _ => none
def isQ : A → Option Bool
 | .v (.bool q) => some q
 | _ => none
def nlA : A → Option A
 | .ptr b i j => some (.ptr b i j)
 | .pl r j => some (.pl r j)
 | .fn f caps => some (.fn f caps)
 | _ => none
def Zef (rs : List A) : Option A := if plain rs then some (pack rs) else none
def Zu (E : Env) (h : Hp) (get : Opd → Option A) (pk : Bool → Opd → Option Bool) (op : AOp) : Option A :=
 match op with
 | .mv _ x => get x
 | .pick _ c a b => bnd (bnd (get c) isQ) fun q => bnd (pk q a) fun x => bnd (pk (!q) b) fun y => some (.v (.bool (bif q then x else y)))
 | .ld _ n g p => bnd (bnd (get p) (Z7u h)) (segA n g)
 | .bin _ op x y => bnd (get x) fun a => bnd (get y) (binA op a)
 | .eqs _ ks neg x y => bnd (get x) fun a => bnd (get y) (eqsA ks neg a)
 | .beq _ neg x y => bnd (get x) fun a => bnd (get y) (beqA neg a)
 | .un _ op x => bnd (get x) (unA op)
 | .cv _ k x => bnd (get x) (cvA k)
 | .cbs _ e x => bnd (bnd (bnd (get x) (Z0r e h)) Z2s) fun l => some (.v (.string ⟨l.toArray⟩))
 | .fa _ x off => bnd (get x) (faA off)
 | .fld _ x off n g => bnd (get x) (fldA off n g)
 | .ia _ e x i => bnd (get x) fun a => bnd (get i) (iaA e a)
 | .ix _ x i => bnd (get x) fun a => bnd (get i) (ixA a)
 | .ex _ x i => bnd (get x) (exA i)
 | .len _ str x => bnd (get x) (lenA str)
 | .mnx _ mx x y => bnd (get x) fun a => bnd (get y) (mnxA mx a)
 | .nl _ x => bnd (get x) nlA
 | .bld _ _ zs [] => if Z7e zs then none else some (.agg zs)
 | .call _ _ _ f xs => bnd (bnd (bnd (xs.mapM get) (Z0u h)) (E.call f)) Zef
 | _ => none
def AOp.yields : AOp → Option (Option Nat)
 | .mv d _ | .pick d _ _ _ | .ld d _ _ _ | .bin d _ _ _ | .eqs d _ _ _ _ | .beq d _ _ _ | .un d _ _ | .cv d _ _ | .cbs d _ _ | .fa d _ _ | .fld d _ _ _ _ | .ia d _ _ _ | .ix d _ _ | .ex d _ _ | .len d _ _ | .mnx d _ _ _ => some (some d)
 | .nl d _ => some d
 | _ => none
def Z5t (σ : St) (e : Option Nat) (lo hi mx : Option Opd) : A → Option A
 | .v (.string s) => bnd (optI σ lo 0) fun l => bnd (optI σ hi s.size) fun h => if e = none ∧ mx.isNone ∧ l ≤ h ∧ h ≤ s.size then some (.v (.string (s.extract l h))) else none
 | .lit ty rows => bnd (optI σ lo 0) fun l => bnd (optI σ hi rows.length) fun h => bnd (optI σ mx rows.length) fun m =>
  if e = some ty ∧ l ≤ h ∧ h ≤ m ∧ m ≤ rows.length then some (.lit ty ((rows.take h).drop l)) else none
 | .ref ty b off len cap ex => bnd (optI σ lo 0) fun l => bnd (optI σ hi len) fun h => bnd (optI σ mx cap) fun m =>
  if e = some ty ∧ l ≤ h ∧ h ≤ m ∧ m ≤ cap then some (.ref ty b (off + l) (h - l) (m - l) (ex || mx.isSome)) else none
 | _ => none
def appA (σ : St) (d nm e : Nat) (ys : List (List A)) : A → Option St
 | .ref ty b 0 len cap ex => bnd (σ.h b) fun k =>
  if k.own ∧ k.box = false ∧ k.ty = e ∧ ty = e ∧ len ≤ k.rows.length ∧ len + ys.length ≤ big then
   if cap = len then
    some { σ with s := upd σ.s d (.ref ty (σ.n + nm) 0 (len + ys.length) (len + ys.length) false), h := upd (upd σ.h b none) (σ.n + nm) (some { k with rows := k.rows.take len ++ ys }) }
   else if len + ys.length ≤ cap then
    some { σ with s := upd σ.s d (.ref ty b 0 (len + ys.length) cap ex), h := upd σ.h b (some { k with rows := k.rows.take len ++ ys ++ k.rows.drop (len + ys.length) }) }
   else none
  else none
 | _ => none
def Z7a (bx : Bool) (e : Nat) (h : Hp) : A → Option (List (List A))
 | .lit ty rows => if ty = e then some rows else none
 | .ref ty b off len _ _ => bnd (h b) fun k => if k.ty = e ∧ imp k.box bx = true ∧ off + len ≤ k.rows.length then some ((k.rows.drop off).take len) else none
 | _ => none
def appG (bx : Bool) (σ : St) (d nm e : Nat) (ys : List (List A)) : A → Option St
 | .ref ty b 0 len cap ex => bnd (σ.h b) fun k =>
  if k.own ∧ imp k.box bx = true ∧ k.ty = e ∧ ty = e ∧ len ≤ k.rows.length ∧ len + ys.length ≤ big then
   if cap = len then
    some { σ with s := upd σ.s d (.ref ty (σ.n + nm) 0 (len + ys.length) (len + ys.length) false), h := upd (upd σ.h b none) (σ.n + nm) (some { k with rows := k.rows.take len ++ ys, box := if ys.length = 0 then k.box else bx }) }
   else if len + ys.length ≤ cap ∧ bx = false then
    some { σ with s := upd σ.s d (.ref ty b 0 (len + ys.length) cap ex), h := upd σ.h b (some { k with rows := k.rows.take len ++ ys ++ k.rows.drop (len + ys.length), box := bx }) }
   else none
  else none
 | _ => none
def clDs (f : A → Option (A × List Nat)) : List A → Option (List A × List Nat)
 | [] => some ([], [])
 | a :: as => bnd (f a) fun p => bnd (clDs f as) fun q => some (p.1 :: q.1, p.2 ++ q.2)
def Z0o (f : A → Option (A × List Nat)) : List (List A) → Option (List (List A) × List Nat)
 | [] => some ([], [])
 | r :: rs => bnd (clDs f r) fun p => bnd (Z0o f rs) fun q => some (p.1 :: q.1, p.2 ++ q.2)
def clD (h : Hp) : Nat → A → Option (A × List Nat)
 | _, .v x => some (.v x, [])
 | _, .lit ty r => some (.lit ty r, [])
 | m + 1, .ref _ b off len _ _ => bnd (h b) fun k => if off + len ≤ k.rows.length then
  bif k.box then bnd (Z0o (clD h m) ((k.rows.drop off).take len)) fun p => some (.lit k.ty p.1, b :: p.2)
  else some (.lit k.ty ((k.rows.drop off).take len), [b]) else none
 | _, _ => none
def clDV (h : Hp) : A → Option (A × List Nat)
 | .agg cs => bnd (clDs (clD h 4) cs) fun p => some (.agg p.1, p.2)
 | a => clD h 4 a
def Zdd (h : Hp) (as : List A) : Option (List A × List Nat) := clDs (clDV h) as
def clrA (σ : St) (e : Nat) (zs : List A) : A → Option St
 | .ref ty b off len _ _ => bnd (σ.h b) fun k =>
  if k.own ∧ k.box = false ∧ k.ty = e ∧ off + len ≤ k.rows.length then
   some { σ with h := upd σ.h b (some { k with rows := k.rows.take off ++ List.replicate len zs ++ k.rows.drop (off + len) }) }
  else none
 | _ => none
def mksA (σ : St) (d nm ty : Nat) (zs : List A) : A → A → Option St
 | .v (.int _ l), .v (.int _ c) => if 0 ≤ l ∧ c = l ∧ l.toNat ≤ big then
       some { σ with s := upd σ.s d (.ref ty (σ.n + nm) 0 l.toNat l.toNat true), h := upd σ.h (σ.n + nm) (some ⟨ty, List.replicate l.toNat zs, true, false⟩) }
  else none
 | _, _ => none
def evs (σ : St) : List Opd → List A
 | [] => []
 | x :: xs => ev σ x :: evs σ xs
def fnA : A → Option (Nat × List A)
 | .fn f caps => bif Wf caps then some (f, caps) else none
 | _ => none
def Z2q (E : Env) (σ : St) (d : Option Nat) (nm w f : Nat) (as : List A) : Option St :=
 bnd (Zdd σ.h as) fun p => bnd (E.call f p.1) fun rs =>
  if w < Y9 rs ∨ Z4m rs = true then none else some { σ with s := put σ.s d (pack (Zz σ.h (σ.n + nm) rs).1), h := (Zz σ.h (σ.n + nm) rs).2 }
def Zmj (E : Env) (tot : Nat) (σ : St) (d : Option Nat) (f : Nat) (as : List A) : Option St :=
 bnd (E.dc f as σ.h (σ.n + tot)) fun r => bnd (Zdd r.2.1 r.1) fun p => some { σ with s := put σ.s d (pack p.1), h := frz r.2.1 p.2, n := r.2.2 }
def mkbA (σ : St) (d nm ty : Nat) (zs : List A) : A → A → Option St
 | .v (.int _ l), .v (.int _ c) => if 0 ≤ l ∧ c = l ∧ l.toNat ≤ big then
       some { σ with s := upd σ.s d (.ref ty (σ.n + nm) 0 l.toNat l.toNat true), h := upd σ.h (σ.n + nm) (some ⟨ty, List.replicate l.toNat zs, true, true⟩) }
  else none
 | _, _ => none
def isV : A → Bool
 | .v _ => true
 | _ => false
def Z3o (σ : St) (n : Nat) : List Opd → Option (List (List A))
 | [] => some []
 | x :: xs => if (ev σ x).cells.length = n ∧ (ev σ x).cells.all isV = true then bnd (Z3o σ n xs) fun rs => some ((ev σ x).cells :: rs) else none
def Z3f (σ : St) (n : Nat) : List Opd → Option (List (List A))
 | [] => some []
 | x :: xs => if (ev σ x).cells.length = n ∧ Zd (ev σ x).cells = true then bnd (Z3f σ n xs) fun rs => some ((ev σ x).cells :: rs) else none
noncomputable def step (E : Env) (tot : Nat) (op : AOp) (σ : St) : Option St :=
 match op with
 | .mvn d nm ty => some { σ with s := upd σ.s d (.ref ty (σ.n + nm) 0 0 0 false), h := upd σ.h (σ.n + nm) (some ⟨ty, [], true, false⟩) }
 | .al d nm ty zs =>
   some { σ with s := upd σ.s d (.ptr (σ.n + nm) 0 0), h := upd (Zt σ.h (σ.n + nm + 1) zs).2 (σ.n + nm) (some ⟨ty, [(Zt σ.h (σ.n + nm + 1) zs).1], true, true⟩) }
 | .box d nm ty n x => if (ev σ x).cells.length = n ∧ Zd (ev σ x).cells then some { σ with s := upd σ.s d (.ptr (σ.n + nm) 0 0), h := upd σ.h (σ.n + nm) (some ⟨ty, [(ev σ x).cells], true, true⟩) } else none
 | .bld d nm zs ps => bnd (Zat σ (Zt σ.h (σ.n + nm) zs).1 ps) fun cs => some { σ with s := upd σ.s d (.agg cs), h := (Zt σ.h (σ.n + nm) zs).2 }
 | .bsl d nm ty n xs => bnd (Z3c σ n xs) fun rows =>
  some { σ with s := upd σ.s d (.ref ty (σ.n + nm) 0 rows.length rows.length true), h := frz (upd σ.h (σ.n + nm) (some ⟨ty, rows, true, false⟩)) (Xb σ xs) }
 | .st n p x => bnd (storeAt σ.base σ.h (ev σ p) n (ev σ x)) fun h => some { σ with h := h }
 | .stn nm ty p => bnd (storeAt σ.base (upd σ.h (σ.n + nm) (some ⟨ty, [], true, false⟩)) (ev σ p) 1 (.ref ty (σ.n + nm) 0 0 0 false)) fun h => some { σ with h := h }
 | .mkf d f caps => if Wf (evs σ caps) = true then some { σ with s := upd σ.s d (.fn f (evs σ caps)) } else none
 | .mks d nm ty zs len cap => mksA σ d nm ty zs (ev σ len) (ev σ cap)
 | .sl d e x lo hi mx => bnd (Z5t σ e lo hi mx (ev σ x)) fun a => some { σ with s := upd σ.s d a }
 | .call d nm w f xs => Z2d E σ d nm w f (evs σ xs)
 | .callv d nm w f xs => bnd (fnA (ev σ f)) fun p => Z2d E σ d nm w p.1 (evs σ xs ++ p.2)
 | .dcall d f xs => doDc E tot σ d f (evs σ xs)
 | .dcf d f xs => Zmb E tot σ d f (evs σ xs)
 | .dcallv d f xs => bnd (fnA (ev σ f)) fun p => doDc E tot σ d p.1 (evs σ xs ++ p.2)
 | .app d nm e s x => bnd (Z0r e σ.h (ev σ x)) fun ys => appA σ d nm e ys (ev σ s)
 | .clr e zs x => clrA σ e zs (ev σ x)
 | .mkb d nm ty zs len cap => mkbA σ d nm ty zs (ev σ len) (ev σ cap)
 | .bsb d nm ty n xs => bnd (Z3f σ n xs) fun rows => some { σ with s := upd σ.s d (.ref ty (σ.n + nm) 0 rows.length rows.length true), h := upd σ.h (σ.n + nm) (some ⟨ty, rows, true, true⟩) }
 | .apb d nm e s x => bnd (Z7a true e σ.h (ev σ x)) fun ys => appG true σ d nm e ys (ev σ s)
 | .callx d nm w f xs => Z2q E σ d nm w f (evs σ xs)
 | .dcs d f xs => Zmj E tot σ d f (evs σ xs)
 | .bll d ty n xs => bnd (Z3o σ n xs) fun rows => some { σ with s := upd σ.s d (.lit ty rows) }
 | op => bnd op.yields fun d => bnd (Zu E σ.h (fun x => some (ev σ x)) (fun q x => evq q σ x) op) fun a => some { σ with s := put σ.s d a }
def AOp.dst : AOp → Option Nat
 | .mv d _ | .mvn d _ _ | .pick d _ _ _ | .al d _ _ _ | .box d _ _ _ _ | .bld d _ _ _ | .bsl d _ _ _ _ | .ld d _ _ _ | .bin d _ _ _ | .eqs d _ _ _ _ | .beq d _ _ _ | .un d _ _
 | .cv d _ _ | .cbs d _ _ | .mkf d _ _ | .mks d _ _ _ _ _ | .sl d _ _ _ _ _ | .fa d _ _ | .fld d _ _ _ _ | .ia d _ _ _ | .ix d _ _ | .ex d _ _ | .len d _ _ | .app d _ _ _ _ | .mnx d _ _ _ => some d
 | .mkb d _ _ _ _ _ | .bsb d _ _ _ _ | .apb d _ _ _ _ | .bll d _ _ _ => some d
 | .nl d _ | .call d _ _ _ _ | .callv d _ _ _ _ | .dcall d _ _ | .dcf d _ _ | .dcallv d _ _ | .callx d _ _ _ _ | .dcs d _ _ => d
 | .st _ _ _ | .stn _ _ _ | .clr _ _ _ | .no _ => none
def Wt (want : Bool) : A → Option Bool
 | .v (.bool q) => some (bif want then q else !q)
 | .ifg g (.v (.bool q)) => some (g && (bif want then q else !q))
 | .ifg g _ => bif g then none else some false
 | .und => some false
 | _ => none
def test (σ : St) (slot : Nat) (want : Bool) : Option Bool := Wt want (σ.s slot)
def Xt (t : Bool) (σ : St) (d : Option Nat) (o : Option A) : Option St :=
 match o with
 | some a => some { σ with s := put σ.s d (.ifg t a) }
 | none => bif t then none else some { σ with s := put σ.s d .und }
def Xc (t : Bool) (σ : St) (d : Option Nat) (o : Option A) (k : Option St) : Option St :=
 match o with
 | some a => some { σ with s := put σ.s d (.ifg t a) }
 | none => bif t then k else some { σ with s := put σ.s d .und }
def unT : A → A
 | .ifg true a => a
 | a => a
def strip (σ : St) : St := { σ with s := fun i => unT (σ.s i) }
def back (σ : St) (d : Option Nat) (σ' : St) : Option St :=
 some { σ' with s := match d with
  | some d => upd σ.s d (σ'.s d)
  | none => σ.s }
noncomputable def Yc (E : Env) (tot : Nat) (g : G) (σ : St) : Option St :=
 match g with
 | .o op => step E tot op σ
 | .g slot want op => bnd (test σ slot want) fun t =>
  match op.yields with
  | some d => Xt t σ d (Zu E σ.h (fun x => evp t σ x) (fun q x => evq (t && q) σ x) op)
  | none => Xc t σ op.dst (Zu E σ.h (fun x => evp t σ x) (fun q x => evq (t && q) σ x) op) (bnd (step E tot op (strip σ)) (back σ op.dst))
noncomputable def Za (E : Env) (tot : Nat) : List G → St → Option St
 | [], σ => some σ
 | g :: gs, σ => bnd (Yc E tot g σ) (Za E tot gs)
def Z09 (base : Nat) (acc : List Nat) : List Nat → List Nat
 | [] => acc
 | b :: bs => if b < base ∨ b ∈ acc then Z09 base acc bs else Z09 base (acc ++ [b]) bs
def below (h : Hp) (b : Nat) : List Nat :=
 match h b with
 | some k => if k.box then Yh k.rows else []
 | none => []
def Vs (h : Hp) : List Nat → List Nat
 | [] => []
 | b :: bs => below h b ++ Vs h bs
def Z53 (base : Nat) (h : Hp) : Nat → List Nat → List Nat
 | 0, acc => acc
 | n + 1, acc => Z53 base h n (Z09 base acc (Vs h acc))
def posn : List Nat → Nat → Nat → Nat
 | [], _, k => k
 | a :: as, b, k => if a = b then k else posn as b (k + 1)
def nw (base : Nat) (ns : List Nat) (b : Nat) : Nat := if b < base then b else posn ns b base
def ren1 (base : Nat) (ns : List Nat) : A → A
 | .ref ty b off len cap ex => .ref ty (nw base ns b) off len cap ex
 | .ptr b i j => .ptr (nw base ns b) i j
 | .fn _ _ => .bad
 | .agg _ => .bad
 | .tup _ => .bad
 | .ifg _ _ => .bad
 | a => a
def Zmo (base : Nat) (ns : List Nat) : List A → List A
 | [] => []
 | a :: as => ren1 base ns a :: Zmo base ns as
def ren (base : Nat) (ns : List Nat) : A → A
 | .fn f caps => .fn f (Zmo base ns caps)
 | .agg cs => .agg (Zmo base ns cs)
 | .tup _ => .bad
 | .ifg _ _ => .bad
 | a => ren1 base ns a
def rens (base : Nat) (ns : List Nat) : List A → List A
 | [] => []
 | a :: as => ren base ns a :: rens base ns as
def Z4p (base : Nat) (ns : List Nat) (k : Blk) : Blk := if k.box then { k with rows := k.rows.map (rens base ns) } else k
def Z40 (base : Nat) (h h' : Hp) (ns : List Nat) : List Nat → Nat → Hp
 | [], _ => h'
 | b :: bs, k => match h b with
   | some blk => Z40 base h (upd h' k (some (Z4p base ns blk))) ns bs (k + 1)
   | none => Z40 base h h' ns bs (k + 1)
def low (base : Nat) (h : Hp) : Hp := fun i => if i < base then h i else none
def Z45 (base : Nat) (ns : List Nat) (s s' : Nat → A) : List Nat → Nat → A
 | [] => s'
 | i :: is => Z45 base ns s (upd s' i (ren base ns (s i))) is
def Z0c (base : Nat) (s : Nat → A) (acc : List Nat) : List Nat → List Nat
 | [] => acc
 | i :: is => Z0c base s (Z09 base acc (Z4x (s i))) is
def Zam (base : Nat) (h : Hp) (ns : List Nat) : Bool := (Vs h ns).all fun b => decide (b < base) || ns.contains b
def Zcs (L : List Nat) (σ : St) (ns : List Nat) : Option St :=
 bif Zam σ.base σ.h ns then some ⟨Z45 σ.base ns σ.s (fun _ => .bad) L, Z40 σ.base σ.h (low σ.base σ.h) ns ns σ.base, σ.base + ns.length, σ.base⟩ else none
def canon (L : List Nat) (σ : St) : Option St := Zcs L σ (Z53 σ.base σ.h 2 (Z0c σ.base σ.s [] L))
def nmX (a : A) : List Nat := nmIn a ++ Zi a.cells
def sepV (a y : A) : Bool := (nmIn (unT y)).all fun b => !(nmX (unT a)).contains b
def seps (σ : St) : List (Opd × Opd) → Bool
 | [] => true
 | p :: ps => sepV (ev σ p.1) (ev σ p.2) && seps σ ps
inductive Out where
 | norm (σ : St)
 | exit (id : Nat) (σ : St)
 | ret (σ : St)
def seqO (o : Option Out) (k : St → Option Out) : Option Out :=
 match o with
 | some (.norm σ) => k σ
 | o => o
def blO (id : Nat) (o : Option Out) : Option Out :=
 match o with
 | some (.exit id' σ) => if id' = id then some (.norm σ) else some (.exit id' σ)
 | o => o
def nrm (tot : Nat) (o : Option St) : Option Out :=
 match o with
 | some σ => some (.norm { σ with n := σ.n + tot })
 | none => none
def Z9 (f : St → Option Out) (L : List Nat) : Nat → St → Option Out
 | 0, _ => none
 | k + 1, σ => seqO (f σ) fun σ' => bnd (canon L σ') (Z9 f L k)
def rounds : Nat := 2 ^ 40
def Za7 (N : List Nat) (h h' : Hp) : Prop := ∀ b ∈ N, h b = h' b
open Classical in
noncomputable def chk (E : Env) (N : List Nat) : Env := ⟨E.call, fun f as h n => bnd (E.dc f as h n) fun r => if Za7 N h r.2.1 then some r else none, E.df⟩
def Z1w (σ : St) : List Nat → List Nat
 | [] => []
 | t :: ts => nmX (unT (σ.s t)) ++ Z1w σ ts
def Z13 (σ : St) (N : List Nat) : List (Opd × Opd) → Bool
 | [] => true
 | (.t t, .k _) :: ps => (nmX (unT (σ.s t))).all (fun b => N.contains b) && Z13 σ N ps
 | _ :: ps => Z13 σ N ps
noncomputable def exec (E : Env) : ACode → St → Option Out
 | .sk, σ => some (.norm σ)
 | .rg tot _ ops, σ => nrm tot (Za E tot ops σ)
 | .rgs tot sep ops, σ => nrm tot (bnd (Za E tot ops σ) fun σ' => bif seps σ' sep then some σ' else none)
 | .rgk tot sep keep ops, σ => nrm tot (bnd (Za (chk E (Z1w σ keep)) tot ops σ) fun σ' => bif seps σ' sep && Z13 σ' (Z1w σ keep) sep then some σ' else none)
 | .sq a b, σ => seqO (exec E a σ) (exec E b)
 | .ite c a b, σ => bnd (isQ (ev σ c)) fun q => bif q then exec E a σ else exec E b σ
 | .bl id c, σ => blO id (exec E c σ)
 | .lp L c, σ => bnd (canon L σ) (Z9 (exec E c) L rounds)
 | .xt id, σ => some (.exit id σ)
 | .rt, σ => some (.ret σ)
 | .no _, _ => none
def Zs7 (σ : St) : RVar → Option A
 | .t n => some (σ.s n)
 | .cell a n g => bnd (Z7u σ.h (σ.s a)) (segA n g)
def Z47 (σ : St) : List RVar → Option (List A)
 | [] => some []
 | r :: rs => bnd (Zs7 σ r) fun a => bnd (Z47 σ rs) fun as => some (a :: as)
def slots (as : List A) : Nat → A := fun i => as.getD i .und
def endO {α : Type} (o : Option Out) (k : St → Option α) : Option α :=
 match o with
 | some (.norm σ) => k σ
 | some (.ret σ) => k σ
 | _ => none
def res (rv : List RVar) (σ : St) : Option (List A) := bnd (Z47 σ rv) (Z6v σ.h [])
def resD (rv : List RVar) (σ : St) : Option (List A × Hp × Nat) := bnd (Z47 σ rv) fun rs => some (rs, σ.h, σ.n)
def insF (e : Nat) : List A → Hp → Nat → Option (List A × Hp × Nat)
 | [.ref ty b 0 len _ _, .v (.int .i64 i), .ref ty2 b2 0 1 _ _], h, n => bnd (h b) fun k => bnd (h b2) fun k2 => bnd k2.rows[0]? fun row =>
  if ty = e ∧ ty2 = e ∧ k.own ∧ k.box = false ∧ k.ty = e ∧ len = k.rows.length ∧ k2.box = false ∧ k2.ty = e ∧ ¬ b = b2 ∧ 0 ≤ i ∧ i ≤ len ∧ len + 1 ≤ big then
   some ([.ref e n 0 (len + 1) (len + 1) false], upd (upd h b none) n (some ⟨e, k.rows.take i.toNat ++ row :: k.rows.drop i.toNat, true, false⟩), n + 1)
  else none
 | _, _, _ => none
structure Prog where
 fn : Nat → Option AFn
 ext : Nat → Option (List A → Option (List A))
 ins : Nat → Option Nat
 dn : Nat → Option AFn
 hx : Nat → Option (List A → Hp → Nat → Option (List A × Hp × Nat))
 fl : Nat → Option AFn
def Prog.dfn (p : Prog) (f : Nat) : Option AFn :=
 match p.dn f with
 | some fn => some fn
 | none => p.fn f
open Classical in
mutual
noncomputable def den (p : Prog) : Nat → Nat → List A → Option (List A)
 | 0, _, _ => none
 | d + 1, f, as => match p.ext f with
   | some F => F as
   | none => match p.fn f with
     | none => none
     | some fn => endO (exec ⟨den p d, dcl p d, dfl p d⟩ fn.code ⟨slots as, fun _ => none, 0, 0⟩) (res fn.res)
noncomputable def dcl (p : Prog) : Nat → Nat → List A → Hp → Nat → Option (List A × Hp × Nat)
 | 0, _, _, _, _ => none
 | d + 1, f, as, h, n => match p.ins f with
   | some e => insF e as h n
   | none => match p.hx f with
     | some F => bnd (F as h n) fun r => if Shr n h r.2.1 ∧ n ≤ r.2.2 then some r else none
     | none => match p.dfn f with
       | none => none
       | some fn => endO (exec ⟨den p d, dcl p d, dfl p d⟩ fn.code ⟨slots as, h, n, n⟩) (resD fn.res)
noncomputable def dfl (p : Prog) : Nat → Nat → List A → Hp → Nat → Option (List A × Hp × Nat)
 | 0, _, _, _, _ => none
 | d + 1, f, as, h, n => match p.fl f with
   | none => none
   | some fn => endO (exec ⟨den p d, dcl p d, dfl p d⟩ fn.code ⟨slots as, h, n, 0⟩) (resD fn.res)
end
end Go.Vm
namespace Go.Vm
open Go.RowKit
abbrev Loc := Option (Nat × Nat)
abbrev Rho := Nat → Option Loc
def Za4 : Value → Bool
 | .bool _ | .int _ _ | .string _ | .pointer none | .nilFunc | .nilIface | .map _ => true
 | _ => false
def Yg : Rho := fun _ => none
inductive R (P : Program) : Rho → (Nat → Prop) → World → A → Value → Prop
 | bad {ρ : Rho} {S : Nat → Prop} {w : World} (x : Value) : R P ρ S w .bad x
 | err {ρ : Rho} {S : Nat → Prop} {w : World} (tp : TypeId) (x : Value) : R P ρ S w .err (.iface tp x)
 | und {ρ : Rho} {S : Nat → Prop} {w : World} : R P ρ S w .und undef
 | v {ρ : Rho} {S : Nat → Prop} {w : World} (x : Value) (h : Za4 x = true) : R P ρ S w (.v x) x
 | lit {ρ : Rho} {S : Nat → Prop} {w : World} (ty : Nat) (rows : List (List A)) (a : Option Addr) (cap : Nat) (Y : Nat → Nat → Value) (hcap : rows.length ≤ cap)
  (hl : ∀ (i : Nat) (row : List A), rows[i]? = some row → row.length = P.cellsOf ty ∧ Zd row = true)
  (hc : ∀ (i : Nat) (row : List A) (j : Nat) (x : A), rows[i]? = some row → row[j]? = some x → ∃ k off, a = some ⟨k, off, none⟩ ∧ S k ∧ w.cell? ⟨k, off + i * P.cellsOf ty + j, none⟩ = some (Y i j))
  (hr : ∀ (i : Nat) (row : List A) (j : Nat) (x : A), rows[i]? = some row → row[j]? = some x → R P Yg S w x (Y i j)) : R P ρ S w (.lit ty rows) (.slice a rows.length cap)
 | ref {ρ : Rho} {S : Nat → Prop} {w : World} (ty b off len cap : Nat) (ex : Bool) (k sz c : Nat) (a : Option Addr) (hb : ρ b = some (some (k, sz))) (hty : sz = P.cellsOf ty) (hcap : cap ≤ c) (hex : ex = true → c = cap)
  (ha : 0 < c → a = some ⟨k, off * sz, none⟩) (hlen : len ≤ c)
  (hk : ∃ (cs : Array Value) (t : TypeId), w.heap[k]? = some (Obj.cells cs t (0, 0)) ∧ (off + c) * sz ≤ cs.size) : R P ρ S w (.ref ty b off len cap ex) (.slice a len c)
 | nil {ρ : Rho} {S : Nat → Prop} {w : World} (ty b : Nat) (ex : Bool) (hb : ρ b = some none) : R P ρ S w (.ref ty b 0 0 0 ex) (.slice none 0 0)
 | ptr {ρ : Rho} {S : Nat → Prop} {w : World} (b i j k sz : Nat) (hb : ρ b = some (some (k, sz))) : R P ρ S w (.ptr b i j) (.pointer (some ⟨k, i * sz + j, none⟩))
 | pl {ρ : Rho} {S : Nat → Prop} {w : World} (row : List A) (j k o : Nat) (Y : Nat → Value) (hk : row ≠ [] → S k)
  (hc : ∀ (i : Nat) (x : A), row[i]? = some x → w.cell? ⟨k, o + i, none⟩ = some (Y i))
  (hr : ∀ (i : Nat) (x : A), row[i]? = some x → R P Yg S w x (Y i)) : R P ρ S w (.pl row j) (.pointer (some ⟨k, o + j, none⟩))
 | fn {ρ : Rho} {S : Nat → Prop} {w : World} (f : Nat) (caps : List A) (vs : List Value) (hp : Wf caps = true) (hl : vs.length = caps.length)
  (hr : ∀ (i : Nat) (x : A) (y : Value), caps[i]? = some x → vs[i]? = some y → R P ρ S w x y) : R P ρ S w (.fn f caps) (.func (.func f) #[] vs.toArray)
 | agg {ρ : Rho} {S : Nat → Prop} {w : World} (cs : List A) (vs : List Value) (hl : vs.length = cs.length)
  (hr : ∀ (i : Nat) (x : A) (y : Value), cs[i]? = some x → vs[i]? = some y → R P ρ S w x y) : R P ρ S w (.agg cs) (.agg vs.toArray)
 | tup {ρ : Rho} {S : Nat → Prop} {w : World} (cs : List A) (vs : List Value) (hl : vs.length = cs.length)
  (hr : ∀ (i : Nat) (x : A) (y : Value), cs[i]? = some x → vs[i]? = some y → R P ρ S w x y) : R P ρ S w (.tup cs) (.tuple vs.toArray)
 | ifT {ρ : Rho} {S : Nat → Prop} {w : World} (a : A) (x : Value) (h : R P ρ S w a x) : R P ρ S w (.ifg true a) x
 | ifF {ρ : Rho} {S : Nat → Prop} {w : World} (a : A) : R P ρ S w (.ifg false a) undef
structure Ext (S : Nat → Prop) (w w' : World) : Prop where
 same : ∀ k, S k → w'.heap[k]? = w.heap[k]?
 size : ∀ (k : Nat) (c : Array Value) (t : TypeId), w.heap[k]? = some (Obj.cells c t (0, 0)) → ∃ c' : Array Value, w'.heap[k]? = some (Obj.cells c' t (0, 0)) ∧ c'.size = c.size
 maps : ∀ (k : Nat) (es : Array MapEntry) (cl : Nat), w.heap[k]? = some (Obj.map es cl) → w'.heap[k]? = some (Obj.map es cl)
theorem Ext.refl (S : Nat → Prop) (w : World) : Ext S w w := ⟨fun _ _ => rfl, fun _ c _ h => ⟨c, h, rfl⟩, fun _ _ _ h => h⟩
theorem Ext.trans {S S' : Nat → Prop} {a b c : World} (h : Ext S a b) (hS : ∀ k, S k → S' k) (k : Ext S' b c) : Ext S a c :=
 ⟨fun i hi => (k.same i (hS i hi)).trans (h.same i hi), fun i cs t e => by
  obtain ⟨c1, e1, s1⟩ := h.size i cs t e
  obtain ⟨c2, e2, s2⟩ := k.size i c1 t e1
  exact ⟨c2, e2, s2.trans s1⟩, fun i es cl e => k.maps i es cl (h.maps i es cl e)⟩
def Rho.le (ρ ρ' : Rho) : Prop := ∀ b l, ρ b = some l → ρ' b = some l
variable {P : Program}
theorem Zhk (ρ : Rho) : Rho.le Yg ρ := fun _ _ h => by cases h
theorem R.mono_ {ρ : Rho} {S : Nat → Prop} {w : World} {a : A} {x : Value}
 (h : R P ρ S w a x) : ∀ {ρ' : Rho} {S' : Nat → Prop} {w' : World}, Rho.le ρ ρ' → (∀ k, S k → S' k) → Ext S w w' → R P ρ' S' w' a x := by
 induction h with
 | bad x => exact fun _ _ _ => .bad x
 | err tp x => exact fun _ _ _ => .err tp x
 | und => exact fun _ _ _ => .und
 | v x h => exact fun _ _ _ => .v x h
 | lit ty rows a cap Y hcap hl hc hr ih =>
   intro ρ' S' w' hρ hS hw
   refine .lit ty rows a cap Y hcap hl (fun i row j x h1 h2 => ?_) (fun i row j x h1 h2 => ih i row j x h1 h2 (fun _ _ h => h) hS hw)
   obtain ⟨k, off, e, hk, hcell⟩ := hc i row j x h1 h2
   refine ⟨k, off, e, hS k hk, ?_⟩
   rw [← hcell]
   exact World.cell?_of_block (hw.same k hk)
 | ref ty b off len cap ex k sz c a hb hty hcap hex ha hlen hk =>
   intro ρ' S' w' hρ hS hw
   obtain ⟨cs, t, e, hs⟩ := hk
   obtain ⟨c', e', s'⟩ := hw.size k cs t e
   exact .ref ty b off len cap ex k sz c a (hρ _ _ hb) hty hcap hex ha hlen ⟨c', t, e', by omega⟩
 | nil ty b ex hb => exact fun hρ _ _ => .nil ty b ex (hρ _ _ hb)
 | ptr b i j k sz hb => exact fun hρ _ _ => .ptr b i j k sz (hρ _ _ hb)
 | pl row j k o Y hk hc hr ih =>
   intro ρ' S' w' hρ hS hw
   refine .pl row j k o Y (fun hn => hS k (hk hn)) (fun i x h => ?_) (fun i x h => ih i x h (fun _ _ h => h) hS hw)
   rw [← hc i x h]
   exact World.cell?_of_block (hw.same k (hk (fun hn => by rw [hn] at h; simp at h)))
 | fn f caps vs hp hl hr ih => exact fun hρ hS hw => .fn f caps vs hp hl (fun i x y h1 h2 => ih i x y h1 h2 hρ hS hw)
 | agg cs vs hl hr ih => exact fun hρ hS hw => .agg cs vs hl (fun i x y h1 h2 => ih i x y h1 h2 hρ hS hw)
 | tup cs vs hl hr ih => exact fun hρ hS hw => .tup cs vs hl (fun i x y h1 h2 => ih i x y h1 h2 hρ hS hw)
 | ifT a x h ih => exact fun hρ hS hw => .ifT a x (ih hρ hS hw)
 | ifF a => exact fun _ _ _ => .ifF a
theorem R.mono {ρ ρ' : Rho} {S S' : Nat → Prop} {w w' : World} (hρ : Rho.le ρ ρ') (hS : ∀ k, S k → S' k) (hw : Ext S w w') {a : A} {x : Value}
 (h : R P ρ S w a x) : R P ρ' S' w' a x := R.mono_ h hρ hS hw
theorem R.up {ρ : Rho} {S : Nat → Prop} {w : World} {a : A} {x : Value} (h : R P Yg S w a x) : R P ρ S w a x := h.mono (Zhk ρ) (fun _ h => h) (Ext.refl _ _)
def inR (box : Bool) (ρ : Rho) : Rho := bif box then ρ else Yg
theorem Zy6 {ρ ρ' : Rho} (b : Bool) (h : Rho.le ρ ρ') : Rho.le (inR b ρ) (inR b ρ') := by
 cases b
 · exact fun _ _ e => e
 · exact h
theorem R.out {b : Bool} {ρ : Rho} {S : Nat → Prop} {w : World} {a : A} {x : Value} (h : R P (inR b ρ) S w a x) : R P ρ S w a x := by
 cases b
 · exact R.up h
 · exact h
structure BR (P : Program) (ρ : Rho) (S : Nat → Prop) (w : World) (B : Nat) (blk : Blk) (k sz : Nat) : Prop where
 sz_eq : sz = P.cellsOf blk.ty
 base : B ≤ k
 own : blk.own = true → ¬ S k
 not_own : blk.own = false → S k
 rows : ∀ (i : Nat) (row : List A), blk.rows[i]? = some row → row.length = sz ∧ Zd row = true
 heap : ∃ c : Array Value, w.heap[k]? = some (Obj.cells c blk.ty (0, 0)) ∧ blk.rows.length * sz ≤ c.size ∧
  ∀ (i : Nat) (row : List A) (j : Nat) (x : A), blk.rows[i]? = some row → row[j]? = some x → ∃ y, c[i * sz + j]? = some y ∧ R P (inR blk.box ρ) S w x y
theorem BR.here {ρ : Rho} {S : Nat → Prop} {w : World} {B : Nat} {blk : Blk} {k sz : Nat} (b : BR P ρ S w B blk k sz) : ∃ c : Array Value, w.heap[k]? = some (Obj.cells c blk.ty (0, 0)) ∧ blk.rows.length * sz ≤ c.size ∧
 ∀ (i : Nat) (row : List A) (j : Nat) (x : A), blk.rows[i]? = some row → row[j]? = some x → ∃ y, c[i * sz + j]? = some y ∧ R P ρ S w x y := by
 obtain ⟨c, h1, h2, h3⟩ := b.heap
 exact ⟨c, h1, h2, fun i row j x e1 e2 => by obtain ⟨y, hy, hr⟩ := h3 i row j x e1 e2; exact ⟨y, hy, hr.out⟩⟩
def gNames : List String := ["internal/strconv.uint64pow10", "strconv.ErrSyntax", "strconv.ErrRange"]
structure GlobOk (P : Program) (S : Nat → Prop) (w : World) : Prop where
 fast : ∀ nm ∈ gNames, ∀ g, P.globalNamed nm = some g → S g
 pow : (P.globalNamed "internal/strconv.uint64pow10").isSome = true → Lib.TabIs P w "internal/strconv.uint64pow10" .u64 Lib.pow10Tab
 syn : (P.globalNamed "strconv.ErrSyntax").isSome = true → ∃ tp p, w.var? P "strconv.ErrSyntax" = some #[.iface tp p]
 rng : (P.globalNamed "strconv.ErrRange").isSome = true → ∃ tp p, w.var? P "strconv.ErrRange" = some #[.iface tp p]
theorem Zg5 {S : Nat → Prop} {w w' : World} {nm : String} (h : ∀ g, P.globalNamed nm = some g → S g) (hs : ∀ k, S k → w'.heap[k]? = w.heap[k]?) : w'.var? P nm = w.var? P nm := by
 unfold World.var?
 cases hg : P.globalNamed nm with
 | none => rfl
 | some g => simp only [Option.bind_some, hs g (h g hg)]
theorem GlobOk.to {S S' : Nat → Prop} {w w' : World} (h : GlobOk P S w) (hS : ∀ nm ∈ gNames, ∀ g, P.globalNamed nm = some g → S' g) (hs : ∀ k, S k → w'.heap[k]? = w.heap[k]?) : GlobOk P S' w' :=
 ⟨hS, fun q => by have := h.pow q; unfold Lib.TabIs at *; rw [Zg5 (h.fast _ (by simp [gNames])) hs]; exact this,
  fun q => by rw [Zg5 (h.fast _ (by simp [gNames])) hs]; exact h.syn q, fun q => by rw [Zg5 (h.fast _ (by simp [gNames])) hs]; exact h.rng q⟩
theorem GlobOk.mono {S S' : Nat → Prop} {w w' : World} (h : GlobOk P S w) (hS : ∀ k, S k → S' k) (e : Ext S w w') : GlobOk P S' w' := h.to (fun nm hn g hg => hS g (h.fast nm hn g hg)) e.same
theorem GlobOk.any {S S' : Nat → Prop} {w : World} (h : GlobOk P S w) (hS : ∀ k, S k → S' k) : GlobOk P S' w := h.mono hS (Ext.refl _ _)
structure HR (P : Program) (ρ : Rho) (S : Nat → Prop) (w : World) (B : Nat) (h : Hp) : Prop where
 at_ : ∀ b blk, h b = some blk → (∃ k sz, ρ b = some (some (k, sz)) ∧ BR P ρ S w B blk k sz) ∨ (ρ b = some none ∧ blk.rows = [] ∧ blk.box = false)
 inj : ∀ b b' k sz sz' blk blk', h b = some blk → h b' = some blk' → ρ b = some (some (k, sz)) → ρ b' = some (some (k, sz')) → b = b'
 old : ∀ k, S k → k < w.heap.size
 glob : GlobOk P S w
end Go.Vm
set_option linter.unusedVariables false
namespace Go.Vm
def okSc : Value → Value → Bool
 | .bool a, .bool b => decide (a = b)
 | .int k a, .int k' b => decide (k = k') && decide (a = b)
 | .string a, .string b => decide (a = b)
 | .pointer none, .pointer none => true
 | .nilFunc, .nilFunc => true
 | .nilIface, .nilIface => true
 | .map none, .map none => true
 | _, _ => false
def okK1 : Value → A → Bool
 | .slice none 0 0, .lit _ [] => true
 | x, .v y => okSc x y
 | _, _ => false
def okKs : List Value → List A → Bool
 | [], [] => true
 | x :: xs, a :: as => okK1 x a && okKs xs as
 | _, _ => false
def okK : Value → A → Bool
 | .agg vs, .agg as => okKs vs.toList as
 | x, a => okK1 x a
def Ym : Operand → Opd → Bool
 | .tmp n, .t m => decide (n = m)
 | .const v, .k a => okK v a
 | .func f, .k (.fn g []) => decide (f = g)
 | _, _ => false
def Vt : List Operand → List Opd → Bool
 | [], [] => true
 | x :: xs, y :: ys => Ym x y && Vt xs ys
 | _, _ => false
def Zhp : Option Operand → Option Opd → Bool
 | none, none => true
 | some x, some y => Ym x y
 | _, _ => false
def aggT (P : Program) (t : TypeId) : Bool :=
 match P.underlying t with
 | some (.struct _) | some (.array _ _) => true
 | _ => false
def hasT (P : Program) (t : TypeId) : Bool := (P.info? t).isSome && (P.underlying t).isSome
def Z4s (P : Program) (t e : TypeId) : Bool :=
 match P.underlying t with
 | some (.slice e') => decide (e' = e)
 | _ => false
def strT (P : Program) (t : TypeId) : Bool :=
 match P.underlying t with
 | some .string => true
 | _ => false
def intT (P : Program) (t : TypeId) (k : IntKind) : Bool :=
 match P.underlying t with
 | some (.int k') => decide (k' = k)
 | _ => false
def eqTs (f : TypeId → Option (List Nat)) : List Field → Nat → Option (List Nat)
 | [], _ => some []
 | fl :: fs, n => if fl.offset = n ∧ fl.name ≠ "_" then bnd (f fl.type) fun ks => bnd (eqTs f fs (n + ks.length)) fun r => some (ks ++ r) else none
def eqT (P : Program) : Nat → TypeId → Option (List Nat)
 | 0, _ => none
 | d + 1, t => match P.underlying t with
   | some .bool => some [2]
   | some (.int _) => some [0]
   | some .string => some [1]
   | some (.struct fs) => if P.stoodInHeld t ∨ (P.info? t).isNone then none else bnd (eqTs (eqT P d) fs.toList 0) fun ks => if ks.length = P.cellsOf t then some ks else none
   | _ => none
def Zah (P : Program) (t : TypeId) (zs : List A) : Bool :=
 match (P.info? t).bind (·.zero) with
 | some z => okKs z.cells.toList zs && decide (zs.length = P.cellsOf t)
 | none => false
def Zfr (P : Program) (ops : Array Oper) (o : Oper) (op : AOp) : Bool :=
 match o.op, op with
 | .move x, .mv _ y => Ym x y
 | .assign x, .mv _ y => Ym x y
 | .pick c a b, .pick _ c' a' b' => Ym c c' && Ym a a' && Ym b b'
 | .load t p, .ld _ n g q => Ym p q && decide (n = P.cellsOf t) && decide (g = aggT P t) && hasT P t
 | .binOp op xt x y yt, .bin _ op' x' y' => decide (op = op') && Ym x x' && Ym y y'
 | .binOp op xt x y _, .eqs _ ks neg x' y' => Ym x x' && Ym y y' && (match op with | .eql => !neg | .neq => neg | _ => false) &&
  !P.eqGuardType P.depth xt && aggT P xt && decide (eqT P 8 xt = some ks)
 | .binOp op xt x y _, .beq _ neg x' y' => Ym x x' && Ym y y' && (match op with | .eql => !neg | .neq => neg | _ => false) && (match P.underlying xt with | some .bool => true | _ => false)
 | .unOp op _ x, .un _ op' x' => decide (op = op') && Ym x x'
 | .convert s t x, .cv _ k x' => intT P t k && Ym x x' && hasT P s && (P.underlying s).isSome
 | .convert s t x, .cbs _ e x' => Z4s P s e && strT P t && intT P e .u8 && hasT P e && Ym x x'
 | .fieldAddr s x f, .fa _ x' off => Ym x x' && (match P.underlying s with | some (.struct fs) => (match fs[f]? with | some fl => decide (fl.offset = off) && hasT P fl.type && decide (P.cellsOf fl.type ≠ 0) | none => false) | _ => false)
 | .field s x f, .fld _ x' off n g => Ym x x' && (match P.underlying s with | some (.struct fs) => (match fs[f]? with | some fl => decide (fl.offset = off) && decide (P.cellsOf fl.type = n) && hasT P fl.type && decide (g = aggT P fl.type) | none => false) | _ => false)
 | .indexAddr t x i, .ia _ e x' i' => Ym x x' && Ym i i' && Z4s P t e && hasT P e && decide (P.cellsOf e ≠ 0)
 | .index t x i, .ix _ x' i' => Ym x x' && Ym i i' && strT P t
 | .extract x i, .ex _ x' i' => Ym x x' && decide (i = i')
 | .call c, .len _ str x' => (match c.callee, c.args.toList with | .builtin .len, [x] => Ym x x' | _, _ => false) && (match c.argTypes.toList with | [t] => (match P.underlying t with | some .string => str | some (.slice _) => !str | _ => false) | _ => false)
 | .call c, .mnx _ mx x' y' => (match c.callee, c.args.toList with | .builtin b, [x, y] => (match b with | .max => mx | .min => !mx | _ => false) && Ym x x' && Ym y y' | _, _ => false)
 | .nilCheck x, .nl _ x' => Ym x x'
 | _, _ => false
end Go.Vm
set_option linter.unusedVariables false
set_option linter.unusedSimpArgs false
namespace Go.Vm
variable {P : Program} {ρ : Rho} {S : Nat → Prop} {w : World} {B : Nat} {h : Hp}
theorem Z3 {α β : Type} {o : Option α} {f : α → Option β} {b : β} (e : bnd o f = some b) : ∃ a, o = some a ∧ f a = some b := by
 cases o with
 | none => exact absurd e (by simp [bnd])
 | some a => exact ⟨a, rfl, e⟩
theorem Vu (k o n : Nat) : (⟨k, o, none⟩ : Addr).add n = ⟨k, o + n, none⟩ := by
 unfold Addr.add; split
 · rename_i e; subst e; rfl
 · rfl
theorem Y1f {x y : Value} (e : okSc x y = true) : x = y ∧ Za4 y = true := by
 unfold okSc at e; split at e <;> simp_all [Za4]
theorem Zri {x : Value} {a : A} (e : okK1 x a = true) : R P ρ S w a x := by
 unfold okK1 at e
 split at e
 · rename_i ty
   exact .lit ty [] none 0 (fun _ _ => .tuple #[]) (Nat.le_refl _) (fun i row h => by simp at h) (fun i row j x h => by simp at h) (fun i row j x h => by simp at h)
 · obtain ⟨rfl, hp⟩ := Y1f e
   exact .v _ hp
 · exact absurd e (by simp)
theorem Zop : ∀ {vs : List Value} {as : List A}, okKs vs as = true → vs.length = as.length ∧ ∀ (i : Nat) (x : A) (y : Value), as[i]? = some x → vs[i]? = some y → R P ρ S w x y
 | [], [], _ => ⟨rfl, fun i x y h => by simp at h⟩
 | x :: xs, a :: as, e => by
   simp only [okKs, Bool.and_eq_true] at e
   obtain ⟨hl, hr⟩ := Zop e.2
   refine ⟨by simp [hl], fun i u y h1 h2 => ?_⟩
   cases i with
   | zero => simp at h1 h2; subst h1 h2; exact Zri e.1
   | succ i => exact hr i u y (by simpa using h1) (by simpa using h2)
 | [], _ :: _, e => by simp [okKs] at e
 | _ :: _, [], e => by simp [okKs] at e
theorem Y6c {x : Value} {a : A} (e : okK x a = true) : R P ρ S w a x := by
 unfold okK at e
 split at e
 · rename_i vs as
   obtain ⟨hl, hr⟩ := Zop (P := P) (ρ := ρ) (S := S) (w := w) e
   have := R.agg (P := P) (ρ := ρ) (S := S) (w := w) as vs.toList hl hr
   simpa using this
 · exact Zri e
theorem Zbi {σ : St} {a : Act} (hs : ∀ t, R P ρ S w (σ.s t) (a.tmps.getD t undef)) {x : Operand} {y : Opd} (e : Ym x y = true) : R P ρ S w (ev σ y) (a.eval x) := by
 unfold Ym at e
 split at e
 · rename_i n m
   have : n = m := by simpa using e
   subst this
   exact hs n
 · exact Y6c e
 · rename_i f g
   have : f = g := by simpa using e
   subst this
   exact .fn f [] [] rfl rfl (fun i x y h => by simp at h)
 · exact absurd e (by simp)
theorem Zcq (H : HR P ρ S w B h) {a : A} {x : Value} {row : List A} {j : Nat} (e : Z7u h a = some (row, j)) (r : R P ρ S w a x) :
 ∃ k o, x = .pointer (some ⟨k, o + j, none⟩) ∧ ∀ (i : Nat) (y : A), row[i]? = some y → ∃ v, w.cell? ⟨k, o + i, none⟩ = some v ∧ R P ρ S w y v := by
 cases r with
 | pl row' j' k o Y hk hc hr =>
   simp only [Z7u, Option.some.injEq, Prod.mk.injEq] at e
   obtain ⟨rfl, rfl⟩ := e
   exact ⟨k, o, rfl, fun i y hy => ⟨Y i, hc i y hy, (hr i y hy).up⟩⟩
 | ptr b i j' k sz hb =>
   obtain ⟨blk, hblk, e⟩ := Z3 e
   obtain ⟨row', hrow, e⟩ := Z3 e
   simp only [Option.some.injEq, Prod.mk.injEq] at e
   obtain ⟨rfl, rfl⟩ := e
   rcases H.at_ b blk hblk with ⟨k', sz', hb', hB⟩ | ⟨hb', _⟩
   · rw [hb] at hb'
     simp only [Option.some.injEq, Prod.mk.injEq] at hb'
     obtain ⟨rfl, rfl⟩ := hb'
     obtain ⟨c, hc, _, hcell⟩ := hB.here
     refine ⟨k, i * sz, rfl, fun m y hy => ?_⟩
     obtain ⟨v, hv, hr⟩ := hcell i row' m y hrow hy
     exact ⟨v, by simp [World.cell?, hc, hv], hr⟩
   · rw [hb] at hb'; simp at hb'
 | _ => simp [Z7u] at e
theorem Z5l {t : TypeId} (e : hasT P t = true) : (∃ i, P.info? t = some i) ∧ ∃ d, P.underlying t = some d := by
 simp only [hasT, Bool.and_eq_true, Option.isSome_iff_exists] at e
 exact e
theorem Zb4 {t : TypeId} (e : hasT P t = true) (w : World) : (isAgg t).run P w = .ok (aggT P t) w := by
 obtain ⟨_, d, hd⟩ := Z5l e
 unfold isAgg aggT
 simp only [Sem.run_bind, run_underlying hd, Result.andThen_ok, hd]
 cases d <;> rfl
theorem Zfk (row : List A) (j n m : Nat) : (seg row j n)[m]? = if m < n then row[j + m]? else none := by
 unfold seg
 rw [List.getElem?_take]
 split <;> simp [List.getElem?_drop]
theorem Zo7 {t : TypeId} (hT : hasT P t = true) {k o j : Nat} {row : List A} {v : A}
 (hcell : ∀ (i : Nat) (y : A), row[i]? = some y → ∃ v, w.cell? ⟨k, o + i, none⟩ = some v ∧ R P ρ S w y v)
 (e : segA (P.cellsOf t) (aggT P t) (row, j) = some v) :
 ∃ x, (loadVar t ⟨k, o + j, none⟩).run P w = .ok x w ∧ R P ρ S w v x := by
 obtain ⟨⟨i, hi⟩, _⟩ := Z5l hT
 unfold segA at e
 split at e
 · rename_i hlen
   simp only at hlen e
   unfold loadVar
   simp only [Sem.run_bind, Zb4 hT, Result.andThen_ok]
   cases hg : aggT P t with
   | true =>
     rw [hg] at e
     simp only [val, Option.some.injEq] at e
     subst e
     have hY : ∀ m, m < P.cellsOf t → ∃ y u, row[j + m]? = some y ∧ w.cell? ⟨k, o + (j + m), none⟩ = some u ∧ R P ρ S w y u := by
      intro m hm
      have hlt : j + m < row.length := by omega
      obtain ⟨u, hu, hr⟩ := hcell (j + m) row[j + m] (List.getElem?_eq_getElem hlt)
      exact ⟨_, u, List.getElem?_eq_getElem hlt, hu, hr⟩
     refine ⟨.agg ((List.range (P.cellsOf t)).map fun m => (w.cell? ⟨k, o + (j + m), none⟩).getD undef).toArray, ?_, ?_⟩
     · simp only [if_true, Sem.run_bind, run_sizeOf w hi, Result.andThen_ok]
       rw [run_loadCells (P := P) w ⟨k, o + j, none⟩ (P.cellsOf t) (fun m => (w.cell? ⟨k, o + (j + m), none⟩).getD undef)]
       · rfl
       · intro m hm
         obtain ⟨y, u, _, hu, _⟩ := hY m hm
         rw [Vu, Nat.add_assoc, hu]; rfl
     · refine .agg _ _ (by simp [seg]; omega) (fun m y u hy hu => ?_)
       rw [Zfk] at hy
       split at hy
       · rename_i hm
         obtain ⟨y', u', h1, h2, h3⟩ := hY m hm
         rw [h1] at hy
         cases hy
         simp [hm, h2] at hu
         subst hu
         exact h3
       · cases hy
   | false =>
     rw [hg] at e
     simp only [val] at e
     split at e
     · simp at *
     · rename_i a _ hseg
       simp only [Option.some.injEq] at e
       subst e
       have h1 : P.cellsOf t = 1 ∧ row[j]? = some a := by
        have hl := congrArg List.length hseg
        simp [seg] at hl
        have hn : P.cellsOf t = 1 := by omega
        have h0 : (seg row j (P.cellsOf t))[0]? = some a := by rw [hseg]; rfl
        rw [Zfk, hn] at h0
        simp at h0
        exact ⟨hn, h0⟩
       obtain ⟨u, hu, hr⟩ := hcell j a h1.2
       exact ⟨u, by simp [load, Sem.run, hu], hr⟩
     · cases e
 · cases e
end Go.Vm
set_option linter.unusedVariables false
set_option linter.unusedSimpArgs false
namespace Go.Vm
variable {P : Program} {ρ : Rho} {S : Nat → Prop} {w : World} {B : Nat} {h : Hp}
theorem R.v_inv {x y : Value} (r : R P ρ S w (.v x) y) : y = x ∧ Za4 x = true := by
 cases r with
 | v _ h => exact ⟨rfl, h⟩
theorem Zes : ∀ a b : List UInt8, Z3h a b = Op.bytesLess a b
 | _, [] => by simp [Z3h, Op.bytesLess]
 | [], _ :: _ => rfl
 | a :: x, b :: y => by simp [Z3h, Op.bytesLess, Zes x y]
theorem Ztz (x y : ByteArray) : (x.toList == y.toList) = decide (x = y) := by
 rw [ByteArray.toList_eq, ByteArray.toList_eq]
 by_cases e : x = y
 · subst e; simp
 · have : ¬ x.data.toList = y.data.toList := fun h => e (by cases x; cases y; simp at h; simp [h])
   simp only [e, decide_false, beq_eq_false_iff_ne, ne_eq]
   exact this
theorem Zsi (op : BinOp) (t : TypeId) (x y : Operand) (k : IntKind) (n : Int) (b : Value) : (eqGuard op t x y (.int k n) b).run P w = .ok () w := by
 unfold eqGuard; cases op <;> cases b <;> rfl
theorem Zus (op : BinOp) (t : TypeId) (x y : Operand) (s : ByteArray) (b : Value) : (eqGuard op t x y (.string s) b).run P w = .ok () w := by
 unfold eqGuard; cases op <;> cases b <;> rfl
theorem Zpl (op : BinOp) (t : TypeId) (x y : Operand) (q : Bool) (b : Value) : (eqGuard op t x y (.bool q) b).run P w = .ok () w := by
 unfold eqGuard; cases op <;> cases b <;> rfl
theorem Zr6 {op : BinOp} {t : TypeId} {x y : Operand} {a b : Value} {z : Value} (e : binV op a b = some z) :
    (do eqGuard op t x y a b; binOp op t a b : Sem Value).run P w = .ok z w ∧ Za4 z = true := by
  unfold binV at e
  split at e
  · rename_i k m k' n
    split at e
    · rename_i hk
      subst hk
      simp only [Sem.run_bind, Zsi, Result.andThen_ok]
      cases op <;> simp only [binI, Option.some.injEq, reduceCtorEq] at e <;>
        first
          | (subst e; refine ⟨?_, rfl⟩; simp [binOp, Op.intArith, Op.intCmp, Op.intBits]; done)
          | (subst e; refine ⟨?_, rfl⟩; simp [binOp, Op.intCmp]; by_cases q : m = n <;> simp [q])
          | (split at e
             · cases e
             · rename_i hn
               simp only [Option.some.injEq] at e
               subst e
               exact ⟨by simp [binOp, Op.intDiv, hn], rfl⟩)
    · cases e
  · rename_i m n
    simp only [Sem.run_bind, Zus, Result.andThen_ok]
    cases op <;> simp only [binS, Option.some.injEq, reduceCtorEq] at e
    · split at e
      · rename_i hlen
        simp only [Option.some.injEq] at e
        subst e
        refine ⟨?_, rfl⟩
        have : ¬ (((m.size + n.size : Nat) : Int) > IntKind.i64.max) := by
          have : IntKind.i64.max = 9223372036854775807 := by decide
          rw [this]; omega
        simp only [binOp, Op.stringOp, if_neg this]
        rfl
      · cases e
    all_goals
      subst e
      refine ⟨?_, rfl⟩
      simp only [binOp, Op.stringOp, Ztz, Zes]
      rfl
  · cases e
theorem Zwg {op : UnOp} {a z : Value} (e : unV op a = some z) : (Op.unary op a).run P w = .ok z w ∧ Za4 z = true := by
 unfold unV at e
 split at e
 · simp only [Option.some.injEq] at e; subst e; exact ⟨rfl, rfl⟩
 · simp only [Option.some.injEq] at e; subst e; exact ⟨rfl, rfl⟩
 · cases e
end Go.Vm
set_option linter.unusedVariables false
set_option linter.unusedSimpArgs false
namespace Go.Vm
variable {P : Program} {w : World}
def StandAt (as : List A) (xs : Array Value) (off : Nat) : Prop := ∀ (i : Nat) (a : A), as[i]? = some a → ∃ v, xs[off + i]? = some v ∧ ∀ u, a = .v u → v = u
theorem StandAt.cut {as bs : List A} {xs : Array Value} {off : Nat} (h : StandAt (as ++ bs) xs off) : StandAt as xs off ∧ StandAt bs xs (off + as.length) :=
 ⟨fun i b hb => h i b (by rw [List.getElem?_append_left (List.getElem?_eq_some_iff.1 hb).1]; exact hb),
  fun i b hb => by have := h (as.length + i) b (by rw [List.getElem?_append_right (by omega)]; simpa using hb); rwa [← Nat.add_assoc] at this⟩
theorem Z32 : ∀ {ks : List Nat} {as bs : List A} {q : Bool}, Yu ks as bs = some q → as.length = ks.length ∧ bs.length = ks.length
 | [], [], [], _, _ => ⟨rfl, rfl⟩
 | k :: ks, a :: as, b :: bs, q, e => by
   obtain ⟨p, _, e⟩ := Z3 e
   obtain ⟨r, e', _⟩ := Z3 e
   have := Z32 e'
   simp [this.1, this.2]
 | [], [], _ :: _, _, e => by simp [Yu] at e
 | [], _ :: _, _, _, e => by simp [Yu] at e
 | _ :: _, [], _, _, e => by simp [Yu] at e
 | _ :: _, _ :: _, [], _, e => by simp [Yu] at e
theorem Zc7 : ∀ {ks ks' : List Nat} {as bs : List A} {q : Bool}, Yu (ks ++ ks') as bs = some q →
 ∃ a1 a2 b1 b2 p r, as = a1 ++ a2 ∧ bs = b1 ++ b2 ∧ Yu ks a1 b1 = some p ∧ Yu ks' a2 b2 = some r ∧ q = (p && r)
 | [], ks', as, bs, q, e => ⟨[], as, [], bs, true, q, rfl, rfl, rfl, e, by simp⟩
 | k :: ks, ks', a :: as, b :: bs, q, e => by
   obtain ⟨p, hp, e1⟩ := Z3 e
   obtain ⟨r, hr, e2⟩ := Z3 e1
   have e3 : (p && r) = q := by simpa using e2
   clear e e1 e2
   obtain ⟨a1, a2, b1, b2, p', r', rfl, rfl, h1, h2, h3⟩ := Zc7 hr
   exact ⟨a :: a1, a2, b :: b1, b2, p && p', r', rfl, rfl, by simp [Yu, hp, h1, bnd], h2, by rw [← e3, h3, Bool.and_assoc]⟩
 | _ :: _, _, [], _, _, e => by simp [Yu] at e
 | _ :: _, _, _ :: _, [], _, e => by simp [Yu] at e
theorem Z73 {t : TypeId} (hT : hasT P t = true) (hg : aggT P t = false) {xs : Array Value} {off : Nat} {v : Value} (hv : xs[off]? = some v) : (part t xs off).run P w = .ok v w := by
 unfold part
 simp only [Sem.run_bind, Zb4 hT, Result.andThen_ok, hg, Bool.false_eq_true, if_false, hv]
 rfl
theorem Zg6 {t : TypeId} (hT : hasT P t = true) (hg : aggT P t = true) (xs : Array Value) (off : Nat) : (part t xs off).run P w = .ok (.agg (xs.extract off (off + P.cellsOf t))) w := by
 obtain ⟨⟨i, hi⟩, _⟩ := Z5l hT
 unfold part
 simp only [Sem.run_bind, Zb4 hT, Result.andThen_ok, hg, if_true, run_sizeOf w hi]
 rfl
theorem Zvc {d : Nat} {xs ys : Array Value} {f : Field} {fs : List Field} {a b : Value} {r s : Bool} (hn : f.name ≠ "_") (ha : (part f.type xs f.offset).run P w = .ok a w) (hb : (part f.type ys f.offset).run P w = .ok b w)
 (he : (Op.equalIn d f.type a b).run P w = .ok r w) (hr : (Op.eqFields d xs ys fs).run P w = .ok s w) : (Op.eqFields d xs ys (f :: fs)).run P w = .ok (r && s) w := by
 rw [Op.eqFields]
 simp only [if_pos hn, Sem.run_bind, ha, hb, he, Result.andThen_ok]
 cases r
 · simp
 · simpa using hr
theorem Zn4 {k : Nat} {as bs : List A} {q : Bool} (e : Yu [k] as bs = some q) : ∃ a b, as = [a] ∧ bs = [b] ∧ Z0a k a b = some q := by
 match as, bs, e with
 | [a], [b], e =>
   obtain ⟨p, hp, e⟩ := Z3 e
   have e : p = q := by simpa [Yu, bnd] using e
   exact ⟨a, b, rfl, rfl, by rw [hp, e]⟩
 | [], _, e => simp [Yu] at e
 | [_], [], e => simp [Yu] at e
 | [_], _ :: _ :: _, e =>
   obtain ⟨p, hp, e⟩ := Z3 e
   obtain ⟨r, hr, _⟩ := Z3 e
   simp [Yu] at hr
 | _ :: _ :: _, [], e => simp [Yu] at e
 | _ :: _ :: _, _ :: _, e =>
   obtain ⟨p, hp, e⟩ := Z3 e
   obtain ⟨r, hr, _⟩ := Z3 e
   simp [Yu] at hr
theorem Zrg {a b : A} {q : Bool} (e : Z0a 0 a b = some q) : ∃ k m n, a = .v (.int k m) ∧ b = .v (.int k n) ∧ q = decide (m = n) := by
 cases a with
 | v x => cases b with
   | v y => cases x <;> cases y <;> simp only [Z0a, reduceCtorEq] at e
            split at e
            · rename_i h; subst h; exact ⟨_, _, _, rfl, rfl, by simpa using e.symm⟩
            · cases e
   | _ => cases x <;> simp [Z0a] at e
 | _ => simp [Z0a] at e
theorem Ztm {a b : A} {q : Bool} (e : Z0a 1 a b = some q) : ∃ m n, a = .v (.string m) ∧ b = .v (.string n) ∧ q = decide (m = n) := by
 cases a with
 | v x => cases b with
   | v y => cases x <;> cases y <;> simp only [Z0a, reduceCtorEq] at e
            exact ⟨_, _, rfl, rfl, by simpa using e.symm⟩
   | _ => cases x <;> simp [Z0a] at e
 | _ => simp [Z0a] at e
theorem Zsy {a b : A} {q : Bool} (e : Z0a 2 a b = some q) : ∃ m n, a = .v (.bool m) ∧ b = .v (.bool n) ∧ q = decide (m = n) := by
 cases a with
 | v x => cases b with
   | v y => cases x <;> cases y <;> simp only [Z0a, reduceCtorEq] at e
            exact ⟨_, _, rfl, rfl, by simpa using e.symm⟩
   | _ => cases x <;> simp [Z0a] at e
 | _ => simp [Z0a] at e
theorem Zlh : ∀ (d : Nat) {t : TypeId} {ks : List Nat} {as bs : List A} {q : Bool} {xs ys : Array Value} {off : Nat} (f : Nat), eqT P d t = some ks → Yu ks as bs = some q →
 StandAt as xs off → StandAt bs ys off →
 ∃ a b, (part t xs off).run P w = .ok a w ∧ (part t ys off).run P w = .ok b w ∧ (Op.equalIn (f + d) t a b).run P w = .ok q w ∧ (aggT P t = true → a = .agg (xs.extract off (off + ks.length)) ∧ b = .agg (ys.extract off (off + ks.length)))
 | 0, t, ks, as, bs, q, xs, ys, off, f, ht, he, ha, hb => by simp [eqT] at ht
 | d + 1, t, ks, as, bs, q, xs, ys, off, f, ht, he, ha, hb => by
   have hi : (P.underlying t).isSome → (P.info? t).isSome := by
    unfold Program.underlying
    cases P.info? t <;> simp
   have scal : ∀ (k : Nat), ks = [k] → hasT P t = true → aggT P t = false →
    (∀ a b : A, Z0a k a b = some q → ∀ va vb, (∀ u, a = .v u → va = u) → (∀ u, b = .v u → vb = u) → (Op.equalIn (f + d + 1) t va vb).run P w = .ok q w) →
    ∃ a b, (part t xs off).run P w = .ok a w ∧ (part t ys off).run P w = .ok b w ∧ (Op.equalIn (f + (d + 1)) t a b).run P w = .ok q w ∧ (aggT P t = true → a = .agg (xs.extract off (off + ks.length)) ∧ b = .agg (ys.extract off (off + ks.length))) := by
    intro k hk hT hg hq
    subst hk
    obtain ⟨a, b, rfl, rfl, hc⟩ := Zn4 he
    obtain ⟨va, hva, ua⟩ := ha 0 a rfl
    obtain ⟨vb, hvb, ub⟩ := hb 0 b rfl
    exact ⟨va, vb, Z73 hT hg hva, Z73 hT hg hvb, hq a b hc va vb ua ub, fun h => by rw [hg] at h; cases h⟩
   unfold eqT at ht
   split at ht
   · rename_i hu
     simp only [Option.some.injEq] at ht
     refine scal 2 ht.symm (by simp [hasT, hu, hi (by simp [hu])]) (by simp [aggT, hu]) (fun a b hc va vb ua ub => ?_)
     obtain ⟨m, n, rfl, rfl, rfl⟩ := Zsy hc
     rw [ua _ rfl, ub _ rfl, run_equalIn_bool' w _ t m n hu]
     congr 1
   · rename_i k' hu
     simp only [Option.some.injEq] at ht
     refine scal 0 ht.symm (by simp [hasT, hu, hi (by simp [hu])]) (by simp [aggT, hu]) (fun a b hc va vb ua ub => ?_)
     obtain ⟨k, m, n, rfl, rfl, rfl⟩ := Zrg hc
     rw [ua _ rfl, ub _ rfl, run_equalIn_int w _ t k k' m n hu]
     congr 1
   · rename_i hu
     simp only [Option.some.injEq] at ht
     refine scal 1 ht.symm (by simp [hasT, hu, hi (by simp [hu])]) (by simp [aggT, hu]) (fun a b hc va vb ua ub => ?_)
     obtain ⟨m, n, rfl, rfl, rfl⟩ := Ztm hc
     rw [ua _ rfl, ub _ rfl, run_equalIn_string w _ t m n hu, Ztz]
   · rename_i fs hu
     split at ht
     · cases ht
     · rename_i hst
       obtain ⟨ks', hks, ht⟩ := Z3 ht
       split at ht
       · rename_i hlen
         simp only [Option.some.injEq] at ht
         subst ht
         have hT : hasT P t = true := by simp [hasT, hu, hi (by simp [hu])]
         have hg : aggT P t = true := by simp [aggT, hu]
         have hl := Z32 he
         refine ⟨_, _, Zg6 hT hg xs off, Zg6 hT hg ys off, ?_, fun _ => by rw [hlen]; exact ⟨rfl, rfl⟩⟩
         have hf : P.fieldsOf t = fs := by simp [Program.fieldsOf, hu]
         rw [show f + (d + 1) = f + d + 1 from rfl, run_equalIn_struct (P := P) w (f + d) t _ _ (by rw [hf]; exact hu) (by simp only [not_or] at hst; simpa using hst.1), hf]
         have key : ∀ (fl : List Field) (n : Nat) (r : List Nat) (a2 b2 : List A) (q2 : Bool), eqTs (eqT P d) fl n = some r → Yu r a2 b2 = some q2 →
          StandAt a2 (xs.extract off (off + P.cellsOf t)) n → StandAt b2 (ys.extract off (off + P.cellsOf t)) n →
          (Op.eqFields (f + d) (xs.extract off (off + P.cellsOf t)) (ys.extract off (off + P.cellsOf t)) fl).run P w = .ok q2 w := by
          intro fl
          induction fl with
          | nil =>
            intro n r a2 b2 q2 hr hq _ _
            simp only [eqTs, Option.some.injEq] at hr
            subst hr
            match a2, b2, hq with
            | [], [], hq => simp [Yu] at hq; subst hq; simp [Op.eqFields]
            | [], _ :: _, hq => simp [Yu] at hq
            | _ :: _, _, hq => simp [Yu] at hq
          | cons fd fl ih =>
            intro n r a2 b2 q2 hr hq h1 h2
            unfold eqTs at hr
            split at hr
            · rename_i hcnd
              obtain ⟨rfl, hname⟩ := hcnd
              obtain ⟨k1, hk1, hr⟩ := Z3 hr
              obtain ⟨r1, hr1, hr⟩ := Z3 hr
              simp only [Option.some.injEq] at hr
              subst hr
              obtain ⟨a1, a3, b1, b3, p, r', rfl, rfl, e1, e2, rfl⟩ := Zc7 hq
              have hl1 := Z32 e1
              obtain ⟨va, vb, pa, pb, hE, _⟩ := Zlh d f hk1 e1 h1.cut.1 h2.cut.1
              exact Zvc hname pa pb hE (ih _ r1 a3 b3 r' hr1 e2 (by have := h1.cut.2; rwa [hl1.1] at this) (by have := h2.cut.2; rwa [hl1.2] at this))
            · cases hr
         have hs : ∀ {as : List A} {xs : Array Value}, as.length = ks'.length → StandAt as xs off → StandAt as (xs.extract off (off + P.cellsOf t)) 0 := by
          intro as xs hl h i a ha
          obtain ⟨v, hv, u⟩ := h i a ha
          refine ⟨v, ?_, u⟩
          have hi : i < as.length := (List.getElem?_eq_some_iff.1 ha).1
          have hx : off + i < xs.size := (Array.getElem?_eq_some_iff.1 hv).1
          rw [Nat.zero_add, Array.getElem?_extract, if_pos (by omega)]
          exact hv
         exact key fs.toList 0 ks' as bs q hks he (hs hl.1 ha) (hs hl.2 hb)
       · cases ht
   · cases ht
end Go.Vm
set_option linter.unusedVariables false
set_option linter.unusedSimpArgs false
namespace Go.Vm
variable {P : Program} {ρ : Rho} {S : Nat → Prop} {w : World} {B : Nat} {h : Hp}
theorem Yw {t e : TypeId} (he : Z4s P t e = true) : P.underlying t = some (.slice e) := by
 unfold Z4s at he
 split at he
 · rename_i e' h'; rw [h']; simp at he; rw [he]
 · cases he
theorem Zv2 {str : Bool} {v u : A} {x : Value} (r : R P ρ S w v x) (e : lenA str v = some u) {t : TypeId}
 (ht : (match P.underlying t with | some .string => str | some (.slice _) => !str | _ => false) = true) (ty : TypeId) :
 ∃ y, (Builtin.len_ #[t] ty #[x]).run P w = .ok y w ∧ R P ρ S w u y := by
 split at ht
 · rename_i hu
   subst ht
   cases r with
   | v x hx =>
     cases x <;> simp only [lenA, reduceCtorEq, cond_true, Option.some.injEq] at e
     subst e
     exact ⟨_, by simp [Builtin.len_, run_underlying hu, goInt], .v _ rfl⟩
   | _ => simp [lenA] at e
 · rename_i el hu
   have hs : str = false := by simpa using ht
   subst hs
   cases r with
   | lit ty' rows a cap Y hcap hl hc hr =>
     simp only [lenA, cond_false, Option.some.injEq] at e
     subst e
     exact ⟨_, by simp [Builtin.len_, run_underlying hu, goInt], .v _ rfl⟩
   | ref ty' b off len cap ex k sz c a hb hty hcap hex ha hlen hk =>
     simp only [lenA, cond_false, Option.some.injEq] at e
     subst e
     exact ⟨_, by simp [Builtin.len_, run_underlying hu, goInt], .v _ rfl⟩
   | nil ty' b ex hb =>
     simp only [lenA, cond_false, Option.some.injEq] at e
     subst e
     exact ⟨_, by simp [Builtin.len_, run_underlying hu, goInt], .v _ rfl⟩
   | v x hx => cases x <;> simp [lenA] at e
   | _ => simp [lenA] at e
 · cases ht
theorem Zxf (H : HR P ρ S w B h) {t e : TypeId} {a i u : A} {x y : Value} (ra : R P ρ S w a x) (ri : R P ρ S w i y) (he : Z4s P t e = true) (hT : hasT P e = true) (hz : P.cellsOf e ≠ 0)
 (eq : iaA e a i = some u) : ∃ z, (Instr.indexAt t x y).run P w = .ok z w ∧ R P ρ S w u z := by
 obtain ⟨⟨inf, hinf⟩, _⟩ := Z5l hT
 have hu := Yw he
 cases ra with
 | ref ty b off len cap ex k sz c ad hb hty hcap hex ha hlen hk =>
   cases ri with
   | v y hy =>
     cases y <;> simp only [iaA, reduceCtorEq] at eq
     rename_i kd n
     split at eq
     · rename_i hc
       obtain ⟨rfl, h0, h1⟩ := hc
       simp only [Option.some.injEq] at eq
       subst eq
       have had := ha (by omega)
       subst had
       refine ⟨.pointer (some ⟨k, (off + n.toNat) * sz + 0, none⟩), ?_, .ptr b _ 0 k sz hb⟩
       simp only [Instr.indexAt, asIntOf, Sem.run_bind, Sem.run_pure, Result.andThen_ok, run_underlying hu, run_sizeOf w hinf, h0, h1, and_self, if_true]
       simp only [Vu, ← hty, Nat.add_mul, Nat.add_zero]
     · cases eq
   | _ => simp [iaA] at eq
 | nil ty b ex hb =>
   cases ri with
   | v y hy =>
     cases y <;> simp only [iaA, reduceCtorEq] at eq
     split at eq
     · rename_i hc; omega
     · cases eq
   | _ => simp [iaA] at eq
 | lit ty rows ad cap Y hcap hl hc hr =>
   cases ri with
   | v y hy =>
     cases y <;> simp only [iaA, reduceCtorEq] at eq
     rename_i kd n
     split at eq
     · rename_i hcn
       obtain ⟨rfl, h0⟩ := hcn
       obtain ⟨row, hrow, eq⟩ := Z3 eq
       simp only [Option.some.injEq] at eq
       subst eq
       have hlt : n.toNat < rows.length := (List.getElem?_eq_some_iff.1 hrow).1
       have hrl := hl _ _ hrow
       · have hne : 0 < row.length := by omega
         obtain ⟨k, o, rfl, hk, _⟩ := hc n.toNat row 0 row[0] hrow (List.getElem?_eq_getElem hne)
         refine ⟨.pointer (some ⟨k, (o + n.toNat * P.cellsOf ty) + 0, none⟩), ?_, .pl row 0 k (o + n.toNat * P.cellsOf ty) (Y n.toNat) (fun _ => hk) (fun j x hx => ?_) (fun j x hx => hr _ _ _ _ hrow hx)⟩
         · have h1 : n < (rows.length : Int) := by omega
           simp only [Instr.indexAt, asIntOf, Sem.run_bind, Sem.run_pure, Result.andThen_ok, run_underlying hu, run_sizeOf w hinf, h0, h1, and_self, if_true]
           simp only [Vu, Nat.add_zero]
         · obtain ⟨k', o', e', _, hcell⟩ := hc n.toNat row j x hrow hx
           simp only [Option.some.injEq, Addr.mk.injEq, and_true] at e'
           obtain ⟨rfl, rfl⟩ := e'
           rw [← hcell]
     · cases eq
   | _ => simp [iaA] at eq
 | _ => simp [iaA] at eq
theorem Zwt {t : TypeId} {a i u : A} {x y : Value} (ra : R P ρ S w a x) (ri : R P ρ S w i y) (he : strT P t = true) (eq : ixA a i = some u) :
 ∃ z, (Instr.index t x y).run P w = .ok z w ∧ R P ρ S w u z := by
 have hu : P.underlying t = some .string := by
  unfold strT at he
  split at he
  · assumption
  · cases he
 cases ra with
 | v x hx =>
   cases ri with
   | v y hy =>
     cases x <;> cases y <;> simp only [ixA, reduceCtorEq] at eq
     rename_i s kd n
     split at eq
     · rename_i h0
       obtain ⟨c, hc, eq⟩ := Z3 eq
       simp only [Option.some.injEq] at eq
       subst eq
       refine ⟨_, ?_, .v _ rfl⟩
       have hlt : n.toNat < s.size := by
        have := (List.getElem?_eq_some_iff.1 hc).1
        simpa using this
       have hb : s[n.toNat]? = some c := by
        have h2 : s[n.toNat]? = some s[n.toNat] := getElem?_pos s n.toNat hlt
        rw [h2]
        have h3 := (List.getElem?_eq_some_iff.1 hc).2
        congr 1
       simp only [Instr.index, asIntOf, Sem.run_bind, Sem.run_pure, Result.andThen_ok, run_underlying hu, h0, if_true, hb]
     · cases eq
   | _ => cases x <;> simp [ixA] at eq
 | _ => simp [ixA] at eq
theorem Zxb {s : TypeId} {f off : Nat} {a u : A} {x : Value} (ra : R P ρ S w a x)
 (hf : ∃ fs fl, P.underlying s = some (.struct fs) ∧ fs[f]? = some fl ∧ fl.offset = off ∧ hasT P fl.type = true ∧ P.cellsOf fl.type ≠ 0) (eq : faA off a = some u) :
 ∃ z, (Instr.fieldAt s x f).run P w = .ok z w ∧ R P ρ S w u z := by
 obtain ⟨fs, fl, hu, hfl, rfl, hT, hz⟩ := hf
 obtain ⟨⟨inf, hinf⟩, _⟩ := Z5l hT
 have go : ∀ k o, x = .pointer (some ⟨k, o, none⟩) → (Instr.fieldAt s x f).run P w = .ok (.pointer (some ⟨k, o + fl.offset, none⟩)) w := by
  rintro k o rfl
  simp only [Instr.fieldAt, Sem.run_bind, run_underlying hu, Result.andThen_ok, hfl, Instr.sureAddr, Sem.run_pure, fieldPlace, run_sizeOf w hinf, if_neg hz, Vu]
 cases ra with
 | ptr b i j k sz hb =>
   simp only [faA, Option.some.injEq] at eq
   subst eq
   refine ⟨_, go _ _ rfl, ?_⟩
   rw [Nat.add_assoc]
   exact .ptr b i (j + fl.offset) k sz hb
 | pl row j k o Y hk hc hr =>
   simp only [faA, Option.some.injEq] at eq
   subst eq
   refine ⟨_, go _ _ rfl, ?_⟩
   rw [Nat.add_assoc]
   exact .pl row (j + fl.offset) k o Y hk hc hr
 | _ => simp [faA] at eq
theorem Zqp {s : TypeId} {f off n : Nat} {g : Bool} {a u : A} {x : Value} (ra : R P ρ S w a x)
 (hf : ∃ fs fl, P.underlying s = some (.struct fs) ∧ fs[f]? = some fl ∧ fl.offset = off ∧ P.cellsOf fl.type = n ∧ hasT P fl.type = true ∧ g = aggT P fl.type) (eq : fldA off n g a = some u) :
 ∃ z, (Instr.field s x f).run P w = .ok z w ∧ R P ρ S w u z := by
 obtain ⟨fs, fl, hu, hfl, rfl, rfl, hT, rfl⟩ := hf
 cases ra with
 | agg cs vs hl hr =>
   simp only [fldA] at eq
   split at eq
   · rename_i hlen
     have hrun : (Instr.field s (.agg vs.toArray) f).run P w = (part fl.type vs.toArray fl.offset).run P w := by
      simp only [Instr.field, Sem.run_bind, run_underlying hu, Result.andThen_ok, hfl, asAgg, Sem.run_pure]
     cases hg : aggT P fl.type with
     | true =>
       rw [hg] at eq
       simp only [val, Option.some.injEq] at eq
       subst eq
       refine ⟨_, by rw [hrun]; exact Zg6 hT hg _ _, ?_⟩
       have he : vs.toArray.extract fl.offset (fl.offset + P.cellsOf fl.type) = ((vs.drop fl.offset).take (P.cellsOf fl.type)).toArray := by
        apply Array.ext'
        simp [Array.toList_extract, List.extract_eq_take_drop]
       rw [he]
       refine .agg _ _ (by simp [seg, hl]) (fun i y v hy hv => ?_)
       rw [Zfk] at hy
       rw [List.getElem?_take] at hv
       split at hy
       · rename_i hi
         rw [if_pos hi, List.getElem?_drop] at hv
         exact hr _ _ _ hy hv
       · cases hy
     | false =>
       rw [hg] at eq
       simp only [val] at eq
       split at eq
       · simp at *
       · rename_i a1 _ hseg
         simp only [Option.some.injEq] at eq
         subst eq
         have hl1 := congrArg List.length hseg
         simp [seg] at hl1
         have hn : P.cellsOf fl.type = 1 := by omega
         have h0 : (seg cs fl.offset (P.cellsOf fl.type))[0]? = some a1 := by rw [hseg]; rfl
         rw [Zfk, hn] at h0
         simp at h0
         have hlt : fl.offset < vs.length := by have := (List.getElem?_eq_some_iff.1 h0).1; omega
         refine ⟨vs[fl.offset], ?_, hr _ _ _ h0 (List.getElem?_eq_getElem hlt)⟩
         rw [hrun]
         exact Z73 hT hg (by simp [List.getElem?_eq_getElem hlt])
       · cases eq
   · cases eq
 | _ => simp [fldA] at eq
theorem Zvl {a u : A} {x : Value} {i : Nat} (ra : R P ρ S w a x) (eq : exA i a = some u) : ∃ z, (Instr.extract x i).run P w = .ok z w ∧ R P ρ S w u z := by
 cases ra with
 | tup cs vs hl hr =>
   simp only [exA] at eq
   have hlt : i < vs.length := by have := (List.getElem?_eq_some_iff.1 eq).1; omega
   exact ⟨vs[i], by simp [Instr.extract, List.getElem?_eq_getElem hlt], hr _ _ _ eq (List.getElem?_eq_getElem hlt)⟩
 | _ => simp [exA] at eq
end Go.Vm
set_option linter.unusedVariables false
set_option linter.unusedSimpArgs false
namespace Go.Vm
variable {P : Program} {ρ : Rho} {S : Nat → Prop} {w : World} {B : Nat} {h : Hp}
theorem Zv9 {s t : TypeId} {k : IntKind} {a u : A} {x : Value} (ra : R P ρ S w a x) (ht : intT P t k = true) (hs : (P.underlying s).isSome = true) (eq : cvA k a = some u) :
 ∃ z, (convert s t x).run P w = .ok z w ∧ R P ρ S w u z := by
 have hu : P.underlying t = some (.int k) := by
  unfold intT at ht
  split at ht
  · rename_i k' h'; rw [h']; simp at ht; rw [ht]
  · cases ht
 obtain ⟨ds, hds⟩ := Option.isSome_iff_exists.1 hs
 cases ra with
 | v x hx =>
   cases x <;> simp only [cvA, reduceCtorEq, Option.some.injEq] at eq
   subst eq
   rename_i k' n
   refine ⟨.int k (k.wrap n), ?_, .v _ rfl⟩
   simp only [convert, Sem.run_bind, run_underlying hds, run_underlying hu, Result.andThen_ok]
   cases ds <;> rfl
 | _ => simp [cvA] at eq
theorem Y2m {a u : A} {x : Value} (ra : R P ρ S w a x) (eq : nlA a = some u) (o : Oper) (y : Operand) (ho : o.op = .nilCheck y) (ρ' : Operand → Value) (hy : ρ' y = x) :
 (execOp ρ' o).run P w = .ok (.value x) w ∧ R P ρ S w u x := by
 have : u = a := by cases a <;> simp [nlA] at eq <;> exact eq.symm
 subst this
 refine ⟨?_, ra⟩
 cases ra with
 | ptr b i j k sz hb => simp [execOp, ho, hy]
 | pl row j k o' Y hk hc hr => simp [execOp, ho, hy]
 | fn f caps vs hl hr => simp [execOp, ho, hy]
 | _ => simp [nlA] at eq
theorem Zt9 {ng : Bool} {a b u : A} {x y : Value} (ra : R P ρ S w a x) (rb : R P ρ S w b y) {t : TypeId} (ht : P.underlying t = some .bool) (p q : Operand) (op : BinOp)
 (hop : (match op with | .eql => !ng | .neq => ng | _ => false) = true) (eq : beqA ng a b = some u) :
 ∃ z, (do eqGuard op t p q x y; binOp op t x y : Sem Value).run P w = .ok z w ∧ R P ρ S w u z := by
 cases ra with
 | v x hx =>
   cases rb with
   | v y hy =>
     cases x <;> cases y <;> simp only [beqA, reduceCtorEq, Option.some.injEq] at eq
     subst eq
     rename_i m n
     refine ⟨_, ?_, .v _ rfl⟩
     simp only [Sem.run_bind, Zpl, Result.andThen_ok]
     cases op <;> simp only [Bool.false_eq_true] at hop
     · have hn : ng = false := by simpa using hop
       subst hn
       simp only [binOp, Op.equal, Op.maxDepth, Sem.run_bind, run_equalIn_bool' w 9999 t m n ht, Result.andThen_ok, Sem.run_pure]
       cases m <;> cases n <;> rfl
     · subst hop
       simp only [binOp, Op.equal, Op.maxDepth, Sem.run_bind, run_equalIn_bool' w 9999 t m n ht, Result.andThen_ok, Sem.run_pure]
       cases m <;> cases n <;> rfl
   | _ => cases x <;> simp [beqA] at eq
 | _ => simp [beqA] at eq
theorem Zs0 {ks : List Nat} {ng : Bool} {a b u : A} {x y : Value} (ra : R P ρ S w a x) (rb : R P ρ S w b y) {t : TypeId} (ht : eqT P 8 t = some ks) (hg : aggT P t = true)
 (hq : P.eqGuardType P.depth t = false) (p q : Operand) (op : BinOp)
 (hop : (match op with | .eql => !ng | .neq => ng | _ => false) = true) (eq : eqsA ks ng a b = some u) :
 ∃ z, (do eqGuard op t p q x y; binOp op t x y : Sem Value).run P w = .ok z w ∧ R P ρ S w u z := by
 cases ra with
 | agg xs vs hl hr =>
   cases rb with
   | agg ys us hl' hr' =>
     obtain ⟨r, hr1, eq⟩ := Z3 eq
     simp only [Option.some.injEq] at eq
     subst eq
     have st : ∀ {cs : List A} {vs : List Value}, vs.length = cs.length → (∀ (i : Nat) (x : A) (y : Value), cs[i]? = some x → vs[i]? = some y → R P ρ S w x y) → StandAt cs vs.toArray 0 := by
      intro cs vs hl hr i a ha
      have hlt : i < vs.length := by have := (List.getElem?_eq_some_iff.1 ha).1; omega
      refine ⟨vs[i], by simp [List.getElem?_eq_getElem hlt], fun u hu => ?_⟩
      have := hr i a _ ha (List.getElem?_eq_getElem hlt)
      rw [hu] at this
      exact (R.v_inv this).1
     have hlen := Z32 hr1
     obtain ⟨va, vb, _, _, hE, hagg⟩ := Zlh (P := P) (w := w) 8 9992 ht hr1 (st hl hr) (st hl' hr')
     obtain ⟨ea, eb⟩ := hagg hg
     have full : ∀ (vs : List Value), vs.length = ks.length → vs.toArray.extract 0 (0 + ks.length) = vs.toArray := by
      intro vs h
      rw [Nat.zero_add, ← h]
      simp
     rw [full vs (by omega)] at ea
     rw [full us (by omega)] at eb
     subst ea eb
     refine ⟨_, ?_, .v _ rfl⟩
     simp only [Sem.run_bind, run_eqGuard_agg w op t p q _ _ hq, Result.andThen_ok]
     cases op <;> simp only [Bool.false_eq_true] at hop
     · have hn : ng = false := by simpa using hop
       subst hn
       rw [run_eql_struct, hE]
       rfl
     · subst hop
       rw [run_neq_struct, hE]
       rfl
   | _ => simp [eqsA] at eq
 | _ => simp [eqsA] at eq
end Go.Vm
set_option linter.unusedVariables false
set_option linter.unusedSimpArgs false
namespace Go.Vm
variable {P : Program} {ρ : Rho} {S : Nat → Prop} {w : World} {B : Nat} {h : Hp}
theorem Zug {mx : Bool} {a b u : A} {x y : Value} (ra : R P ρ S w a x) (rb : R P ρ S w b y) (eq : mnxA mx a b = some u) (t : Array TypeId) (ty : TypeId) :
 ∃ z, ((if mx then Builtin.max_ t ty #[x, y] else Builtin.min_ t ty #[x, y])).run P w = .ok z w ∧ R P ρ S w u z := by
 cases ra with
 | v x hx =>
   cases rb with
   | v y hy =>
     cases x <;> cases y <;> simp only [mnxA, reduceCtorEq] at eq
     rename_i k m k' n
     split at eq
     · rename_i hk
       subst hk
       simp only [Option.some.injEq] at eq
       subst eq
       cases mx
       · refine ⟨_, ?_, .v _ rfl⟩
         simp [Builtin.min_, Builtin.min2]
         split <;> omega
       · refine ⟨_, ?_, .v _ rfl⟩
         simp [Builtin.max_, Builtin.max2]
         split <;> omega
     · cases eq
   | _ => cases x <;> simp [mnxA] at eq
 | _ => simp [mnxA] at eq
theorem Znd {a : A} {q : Bool} (e : isQ a = some q) : a = .v (.bool q) := by
 cases a with
 | v x => cases x <;> simp [isQ] at e; subst e; rfl
 | _ => simp [isQ] at e
end Go.Vm
set_option linter.unusedVariables false
set_option linter.unusedSimpArgs false
namespace Go.Vm
variable {P : Program} {ρ : Rho} {S : Nat → Prop} {w : World} {B : Nat} {h : Hp}
structure Stands (P : Program) (ρ0 : Rho) (S : Nat → Prop) (w : World) (sz : Nat) (rows : List (List A)) (ad : Option Addr) : Prop where
 len : ∀ (i : Nat) (row : List A), rows[i]? = some row → row.length = sz ∧ Zd row = true
 cell : ∀ (i : Nat) (row : List A) (j : Nat) (x : A), rows[i]? = some row → row[j]? = some x →
  ∃ k off v, ad = some ⟨k, off, none⟩ ∧ w.cell? ⟨k, off + (i * sz + j), none⟩ = some v ∧ R P ρ0 S w x v
theorem Zhn {a b : Bool} (h : imp a b = true) : Rho.le (inR a ρ) (inR b ρ) := by
 cases a
 · exact Zhk _
 · cases b
   · cases h
   · exact fun _ _ e => e
theorem Zo1 {e : Nat} {a : A} {rows : List (List A)} (eq : Z0r e h a = some rows) : Z7a false e h a = some rows := by
 cases a with
 | lit ty r => exact eq
 | ref ty b off len cap ex =>
   obtain ⟨k, hk, e1⟩ := Z3 eq
   simp only [Z7a, hk, bnd]
   split at e1
   · rename_i hc
     rw [if_pos ⟨hc.1, by rw [hc.2.1]; rfl, hc.2.2⟩]
     exact e1
   · cases e1
 | _ => simp [Z0r] at eq
theorem Zcc (H : HR P ρ S w B h) {bx : Bool} {e : Nat} {a : A} {x : Value} {rows : List (List A)} (eq : Z7a bx e h a = some rows) (r : R P ρ S w a x) :
 ∃ ad cap, x = .slice ad rows.length cap ∧ rows.length ≤ cap ∧ Stands P (inR bx ρ) S w (P.cellsOf e) rows ad := by
 cases r with
 | lit ty rows' ad cap Y hcap hl hc hr =>
   simp only [Z7a] at eq
   split at eq
   · rename_i ht
     subst ht
     simp only [Option.some.injEq] at eq
     subst eq
     refine ⟨ad, cap, rfl, hcap, ⟨hl, fun i row j x h1 h2 => ?_⟩⟩
     obtain ⟨k, off, e1, _, hcell⟩ := hc i row j x h1 h2
     exact ⟨k, off, _, e1, by rw [← Nat.add_assoc]; exact hcell, (hr i row j x h1 h2).up⟩
   · cases eq
 | ref ty b off len cap ex k sz c ad hb hty hcap hex ha hlen hk =>
   obtain ⟨blk, hblk, eq1⟩ := Z3 eq
   clear eq
   split at eq1
   · rename_i hc
     have eq : (blk.rows.drop off).take len = rows := by simpa using eq1
     clear eq1
     obtain ⟨rfl, hbox, hle⟩ := hc
     have hrl : rows.length = len := by rw [← eq]; simp; omega
     rcases H.at_ b blk hblk with ⟨k', sz', hb', hB⟩ | ⟨hb', _⟩
     · rw [hb] at hb'
       simp only [Option.some.injEq, Prod.mk.injEq] at hb'
       obtain ⟨rfl, rfl⟩ := hb'
       obtain ⟨cs, hcs, _, hcell⟩ := hB.heap
       have hget : ∀ (i : Nat) (row : List A), rows[i]? = some row → blk.rows[off + i]? = some row := by
        intro i row h
        rw [← eq, List.getElem?_take] at h
        split at h
        · rwa [List.getElem?_drop] at h
        · cases h
       refine ⟨ad, c, by rw [hrl], by omega, ⟨fun i row h => by rw [← hB.sz_eq]; exact hB.rows _ _ (hget i row h), fun i row j x h1 h2 => ?_⟩⟩
       have hi : i < len := by have := (List.getElem?_eq_some_iff.1 h1).1; omega
       obtain ⟨v, hv, hr⟩ := hcell (off + i) row j x (hget i row h1) h2
       refine ⟨k, off * sz, v, ha (by omega), ?_, hr.mono (Zhn hbox) (fun _ h => h) (Ext.refl _ _)⟩
       rw [← hB.sz_eq]
       have : off * sz + (i * sz + j) = (off + i) * sz + j := by rw [Nat.add_mul]; omega
       simp [World.cell?, hcs, this, hv]
     · rw [hb] at hb'; simp at hb'
   · cases eq1
 | nil ty b ex hb =>
   obtain ⟨blk, hblk, eq1⟩ := Z3 eq
   clear eq
   split at eq1
   · simp only [List.take_zero, Option.some.injEq] at eq1
     subst eq1
     exact ⟨none, 0, rfl, Nat.le_refl _, ⟨fun i row h => by simp at h, fun i row j x h => by simp at h⟩⟩
   · cases eq1
 | _ => simp [Z7a] at eq
theorem Zq6 (H : HR P ρ S w B h) {e : Nat} {a : A} {x : Value} {rows : List (List A)} (eq : Z0r e h a = some rows) (r : R P ρ S w a x) :
 ∃ ad cap, x = .slice ad rows.length cap ∧ rows.length ≤ cap ∧ Stands P Yg S w (P.cellsOf e) rows ad := Zcc H (Zo1 eq) r
theorem Zyk {i j sz : Nat} (hj : j < sz) : (i * sz + j) / sz = i ∧ (i * sz + j) % sz = j := by
 have hz : 0 < sz := by omega
 constructor
 · rw [Nat.mul_comm, Nat.mul_add_div hz, Nat.div_eq_of_lt hj, Nat.add_zero]
 · rw [Nat.mul_comm, Nat.mul_add_mod, Nat.mod_eq_of_lt hj]
theorem Stands.load {ρ0 : Rho} {sz : Nat} {rows : List (List A)} {ad : Option Addr} (hs : Stands P ρ0 S w sz rows ad) (cap : Nat) :
 ∃ vs : List Value, vs.length = rows.length * sz ∧ (∀ (m : Nat) (w' : World), w'.heap = w.heap → (Builtin.firstCells sz rows.length (.slice ad m cap)).run P w' = .ok vs.toArray w') ∧
  ∀ (i : Nat) (row : List A) (j : Nat) (x : A), rows[i]? = some row → row[j]? = some x → ∃ v, vs[i * sz + j]? = some v ∧ R P ρ0 S w x v := by
 cases ad with
 | none =>
   have hz : rows.length * sz = 0 := by
    cases rows with
    | nil => simp
    | cons row rows =>
      have hl := (hs.len 0 row rfl).1
      cases row with
      | nil => simp at hl; simp [← hl]
      | cons x row =>
        obtain ⟨k, off, v, e, _⟩ := hs.cell 0 (x :: row) 0 x rfl rfl
        cases e
   refine ⟨[], by simp [hz], fun _ _ _ => rfl, fun i row j x h1 h2 => ?_⟩
   obtain ⟨k, off, v, e, _⟩ := hs.cell i row j x h1 h2
   cases e
 | some ad =>
   refine ⟨(List.range (rows.length * sz)).map fun m => (w.cell? (ad.add m)).getD undef, by simp, ?_, fun i row j x h1 h2 => ?_⟩
   · intro _ w' hw'
     have hcw : ∀ a, w'.cell? a = w.cell? a := fun a => by simp [World.cell?, hw']
     refine run_loadCells w' ad (rows.length * sz) _ (fun m hm => ?_)
     rw [hcw]
     have hz : 0 < sz := by
      rcases Nat.eq_zero_or_pos sz with h | h
      · subst h; simp at hm
      · exact h
     have hi : m / sz < rows.length := Nat.div_lt_of_lt_mul (by rw [Nat.mul_comm]; exact hm)
     have hrow : rows[m / sz]? = some rows[m / sz] := List.getElem?_eq_getElem hi
     have hl := (hs.len _ _ hrow).1
     have hj : m % sz < rows[m / sz].length := by rw [hl]; exact Nat.mod_lt _ hz
     obtain ⟨k, off, v, e, hv, _⟩ := hs.cell _ _ _ _ hrow (List.getElem?_eq_getElem hj)
     simp only [Option.some.injEq] at e
     subst e
     have hm' : m / sz * sz + m % sz = m := by rw [Nat.mul_comm]; exact Nat.div_add_mod m sz
     rw [hm'] at hv
     rw [Vu, hv]
     rfl
   · obtain ⟨k, off, v, e, hv, hr⟩ := hs.cell i row j x h1 h2
     simp only [Option.some.injEq] at e
     subst e
     have hl := (hs.len _ _ h1).1
     have hj : j < sz := by have := (List.getElem?_eq_some_iff.1 h2).1; omega
     have hi : i < rows.length := (List.getElem?_eq_some_iff.1 h1).1
     have hlt : i * sz + j < rows.length * sz := by
      have : (i + 1) * sz ≤ rows.length * sz := Nat.mul_le_mul_right _ hi
      rw [Nat.add_mul] at this
      omega
     refine ⟨v, ?_, hr⟩
     simp only [List.getElem?_map, List.getElem?_range hlt, Option.map_some, Vu, hv, Option.getD_some]
theorem Zsj (H : HR P ρ S w B h) {s t e : TypeId} {a : A} {x : Value} {rows : List (List A)} {l : List UInt8} (ra : R P ρ S w a x) (hs : Z4s P s e = true) (ht : strT P t = true) (he : intT P e .u8 = true)
 (hT : hasT P e = true) (eq : Z0r e h a = some rows) (hl : Z2s rows = some l) : (convert s t x).run P w = .ok (.string ⟨l.toArray⟩) w := by
 obtain ⟨ad, cap, rfl, hcap, hst⟩ := Zq6 H eq ra
 have hus := Yw hs
 have hut : P.underlying t = some .string := by
  unfold strT at ht
  split at ht
  · assumption
  · cases ht
 have hue : P.underlying e = some (.int .u8) := by
  unfold intT at he
  split at he
  · rename_i k' h'; rw [h']; simp at he; rw [he]
  · cases he
 have hb : ∀ (rows : List (List A)) (l : List UInt8), Z2s rows = some l → ∃ ns : List Int, rows = ns.map (fun n => [A.v (.int .u8 n)]) ∧ l = ns.map fun n => UInt8.ofNat n.toNat := by
  intro rows
  induction rows with
  | nil => intro l h; simp [Z2s] at h; exact ⟨[], rfl, by simp [h]⟩
  | cons row rows ih =>
    intro l h
    unfold Z2s at h
    split at h
    · cases ‹row :: rows = []›
    · rename_i n r hrow
      cases hrow
      split at h
      · rename_i l' hl'
        simp only [Option.some.injEq] at h
        obtain ⟨ns, rfl, rfl⟩ := ih l' hl'
        exact ⟨n :: ns, rfl, by simp [← h]⟩
      · cases h
    · cases h
 obtain ⟨ns, hns, hl2⟩ := hb rows l hl
 have hrun : ∀ r, (convert s t (.slice ad rows.length cap)).run P w = r ↔ (Conv.bytesToString (.slice ad rows.length cap)).run P w = r := by
  intro r
  simp only [convert, Sem.run_bind, run_underlying hus, run_underlying hut, run_underlying hue, Result.andThen_ok]
 rw [hrun]
 obtain ⟨vs, hvl, hload, hget⟩ := hst.load cap
 cases hrows : rows with
 | nil =>
   subst hrows
   have : ns = [] := by cases ns with | nil => rfl | cons _ _ => simp at hns
   subst this
   simp at hl2
   subst hl2
   cases ad with
   | none => rfl
   | some ad =>
     have := run_bytesToString (P := P) w ad 0 cap [] (by simp [loadCells, loadCellsFrom])
     exact this
 | cons row rest =>
   have h0 : rows[0]? = some row := by rw [hrows]; rfl
   have hne : 0 < ns.length := by
    cases ns with
    | nil => rw [hrows] at hns; simp at hns
    | cons _ _ => simp
   have hrow : row = [A.v (.int .u8 ns[0])] := by
    rw [hns, List.getElem?_map, List.getElem?_eq_getElem hne] at h0
    simpa using h0.symm
   have hsz : P.cellsOf e = 1 := by have := (hst.len 0 row h0).1; rw [hrow] at this; simpa using this.symm
   have hvs : vs = ns.map (Value.int .u8) := by
    apply List.ext_getElem?
    intro i
    by_cases hi : i < ns.length
    · have hr : rows[i]? = some [A.v (.int .u8 ns[i])] := by rw [hns]; simp [List.getElem?_eq_getElem hi]
      obtain ⟨v, hv, r⟩ := hget i _ 0 _ hr rfl
      rw [hsz, Nat.mul_one, Nat.add_zero] at hv
      rw [hv, (R.v_inv r).1]
      simp [List.getElem?_eq_getElem hi]
    · have hl1 : vs.length = ns.length := by rw [hvl, hsz, hns]; simp
      rw [List.getElem?_eq_none (by omega), List.getElem?_eq_none (by simp; omega)]
   have hlen : rows.length = ns.length := by rw [hns]; simp
   rw [← hrows]
   cases ad with
   | none =>
     obtain ⟨k, off, v, e', _⟩ := hst.cell 0 row 0 _ h0 (by rw [hrow]; rfl)
     cases e'
   | some ad =>
     have hL : (loadCells ad rows.length).run P w = .ok (ns.map (Value.int .u8)).toArray w := by
      have := hload rows.length w rfl
      simp only [Builtin.firstCells, hsz, Nat.mul_one] at this
      rw [this, hvs]
     rw [run_bytesToString (P := P) w ad rows.length cap ns hL]
     congr 2
     rw [hl2]
     have push : ∀ (ns : List Int) (b : ByteArray), ns.foldl (fun r n => r.push (UInt8.ofNat n.toNat)) b = ⟨(b.data.toList ++ ns.map fun n => UInt8.ofNat n.toNat).toArray⟩ := by
      intro ns
      induction ns with
      | nil => intro b; simp
      | cons n ns ih =>
        intro b
        rw [List.foldl_cons, ih]
        congr 1
        simp [ByteArray.push]
     rw [push]
     rfl
end Go.Vm
set_option linter.unusedVariables false
set_option linter.unusedSimpArgs false
namespace Go.Vm
variable {P : Program} {ρ : Rho} {S : Nat → Prop} {w : World} {B : Nat} {h : Hp}
theorem Zmy {s : TypeId} {f off : Nat} (e : (match P.underlying s with | some (.struct fs) => (match fs[f]? with | some fl => decide (fl.offset = off) && hasT P fl.type && decide (P.cellsOf fl.type ≠ 0) | none => false) | _ => false) = true) :
 ∃ fs fl, P.underlying s = some (.struct fs) ∧ fs[f]? = some fl ∧ fl.offset = off ∧ hasT P fl.type = true ∧ P.cellsOf fl.type ≠ 0 := by
 split at e
 · rename_i fs hu
   split at e
   · rename_i fl hfl
     simp only [Bool.and_eq_true, decide_eq_true_eq] at e
     exact ⟨fs, fl, hu, hfl, e.1.1, e.1.2, e.2⟩
   · cases e
 · cases e
theorem Zkx {s : TypeId} {f off n : Nat} {g : Bool} (e : (match P.underlying s with | some (.struct fs) => (match fs[f]? with | some fl => decide (fl.offset = off) && decide (P.cellsOf fl.type = n) && hasT P fl.type && decide (g = aggT P fl.type) | none => false) | _ => false) = true) :
 ∃ fs fl, P.underlying s = some (.struct fs) ∧ fs[f]? = some fl ∧ fl.offset = off ∧ P.cellsOf fl.type = n ∧ hasT P fl.type = true ∧ g = aggT P fl.type := by
 split at e
 · rename_i fs hu
   split at e
   · rename_i fl hfl
     simp only [Bool.and_eq_true, decide_eq_true_eq] at e
     exact ⟨fs, fl, hu, hfl, e.1.1.1, e.1.1.2, e.1.2, e.2⟩
   · cases e
 · cases e
theorem Zsx (H : HR P ρ S w B h) {E : Env} {get : Opd → Option A} {pk : Bool → Opd → Option Bool} {ev' : Operand → Value}
 (hget : ∀ x y v, Ym x y = true → get y = some v → R P ρ S w v (ev' x)) (hpk : ∀ (q : Bool) x y b, Ym x y = true → pk q y = some b → q = true → ev' x = .bool b)
 {ops : Array Oper} {o : Oper} {op : AOp} {v : A} (ok : Zfr P ops o op = true) (eq : Zu E h get pk op = some v) :
 ∃ x, (execOp ev' o).run P w = .ok (.value x) w ∧ R P ρ S w v x := by
 unfold Zfr at ok
 split at ok
 · rename_i x d y ho
   exact ⟨_, by simp [execOp, ho], hget x y v ok eq⟩
 · rename_i x d y ho
   exact ⟨_, by simp [execOp, ho], hget x y v ok eq⟩
 · rename_i c a b d c' a' b' ho
   simp only [Bool.and_eq_true] at ok
   obtain ⟨q, hq, eq1⟩ := Z3 eq
   obtain ⟨cv, hc, hq⟩ := Z3 hq
   obtain ⟨p, hp, eq2⟩ := Z3 eq1
   obtain ⟨r, hr, eq3⟩ := Z3 eq2
   simp only [Option.some.injEq] at eq3
   have hcv := Znd hq
   subst hcv
   have rc := R.v_inv (hget c c' _ ok.1.1 hc)
   subst eq3
   cases q with
   | true => exact ⟨.bool p, by simp [execOp, ho, rc.1, asBool, hpk true a a' p ok.1.2 hp rfl], .v _ rfl⟩
   | false => exact ⟨.bool r, by simp [execOp, ho, rc.1, asBool, hpk true b b' r ok.2 hr rfl], .v _ rfl⟩
 · rename_i t p d n g q ho
   simp only [Bool.and_eq_true, decide_eq_true_eq] at ok
   obtain ⟨⟨⟨h1, rfl⟩, rfl⟩, hT⟩ := ok
   obtain ⟨⟨row, j⟩, hrow, eq1⟩ := Z3 eq
   obtain ⟨pv, hp, hrow⟩ := Z3 hrow
   obtain ⟨k, o', hpe, hcell⟩ := Zcq H hrow (hget p q pv h1 hp)
   obtain ⟨x, hx, hr⟩ := Zo7 hT hcell eq1
   refine ⟨x, ?_, hr⟩
   simp [execOp, ho, Instr.loadAt, Instr.sureAddr, hpe, hx]
 · rename_i op' xt x y yt d op2 x' y' ho
   simp only [Bool.and_eq_true, decide_eq_true_eq] at ok
   obtain ⟨⟨rfl, h1⟩, h2⟩ := ok
   obtain ⟨av, ha, eq1⟩ := Z3 eq
   obtain ⟨bv, hb, eq2⟩ := Z3 eq1
   have ra := hget x x' av h1 ha
   have rb := hget y y' bv h2 hb
   unfold binA at eq2
   split at eq2
   · rename_i a b
     obtain ⟨z, hz, eq3⟩ := Z3 eq2
     simp only [Option.some.injEq] at eq3
     subst eq3
     have e1 := (R.v_inv ra).1
     have e2 := (R.v_inv rb).1
     obtain ⟨hrun, hpl⟩ := Zr6 (P := P) (w := w) (t := xt) (x := x) (y := y) hz
     refine ⟨z, ?_, .v _ hpl⟩
     simp only [execOp, ho, e1, e2, Sem.run_bind] at hrun ⊢
     rw [hrun]
     rfl
   · cases eq2
 · rename_i op' xt x y yt d ks neg x' y' ho
   simp only [Bool.and_eq_true, decide_eq_true_eq, Bool.not_eq_true'] at ok
   obtain ⟨⟨⟨⟨⟨h1, h2⟩, h3⟩, h4⟩, h5⟩, h6⟩ := ok
   obtain ⟨av, ha, eq1⟩ := Z3 eq
   obtain ⟨bv, hb, eq2⟩ := Z3 eq1
   obtain ⟨z, hz, hr⟩ := Zs0 (hget x x' av h1 ha) (hget y y' bv h2 hb) h6 h5 h4 x y op' h3 eq2
   refine ⟨z, ?_, hr⟩
   simp only [execOp, ho, Sem.run_bind] at hz ⊢
   rw [hz]
   rfl
 · rename_i op' xt x y yt d neg x' y' ho
   simp only [Bool.and_eq_true] at ok
   obtain ⟨⟨⟨h1, h2⟩, h3⟩, h4⟩ := ok
   have hu : P.underlying xt = some .bool := by
    split at h4
    · assumption
    · cases h4
   obtain ⟨av, ha, eq1⟩ := Z3 eq
   obtain ⟨bv, hb, eq2⟩ := Z3 eq1
   obtain ⟨z, hz, hr⟩ := Zt9 (hget x x' av h1 ha) (hget y y' bv h2 hb) hu x y op' h3 eq2
   refine ⟨z, ?_, hr⟩
   simp only [execOp, ho, Sem.run_bind] at hz ⊢
   rw [hz]
   rfl
 · rename_i op' t x d op2 x' ho
   simp only [Bool.and_eq_true, decide_eq_true_eq] at ok
   obtain ⟨rfl, h1⟩ := ok
   obtain ⟨av, ha, eq1⟩ := Z3 eq
   have ra := hget x x' av h1 ha
   unfold unA at eq1
   split at eq1
   · obtain ⟨z, hz, eq3⟩ := Z3 eq1
     simp only [Option.some.injEq] at eq3
     subst eq3
     obtain ⟨hrun, hpl⟩ := Zwg (P := P) (w := w) hz
     refine ⟨z, ?_, .v _ hpl⟩
     simp only [execOp, ho, (R.v_inv ra).1, Sem.run_bind, hrun]
     rfl
   · cases eq1
 · rename_i s t x d k x' ho
   simp only [Bool.and_eq_true] at ok
   obtain ⟨⟨⟨h1, h2⟩, h3⟩, h4⟩ := ok
   obtain ⟨av, ha, eq1⟩ := Z3 eq
   obtain ⟨z, hz, hr⟩ := Zv9 (hget x x' av h2 ha) h1 h4 eq1
   exact ⟨z, by simp [execOp, ho, hz], hr⟩
 · rename_i s t x d e x' ho
   simp only [Bool.and_eq_true] at ok
   obtain ⟨⟨⟨⟨h1, h2⟩, h3⟩, h4⟩, h5⟩ := ok
   obtain ⟨l, hl, eq1⟩ := Z3 eq
   obtain ⟨rows, hrows, hl⟩ := Z3 hl
   obtain ⟨av, ha, hrows⟩ := Z3 hrows
   simp only [Option.some.injEq] at eq1
   subst eq1
   have := Zsj H (hget x x' av h5 ha) h1 h2 h3 h4 hrows hl
   exact ⟨_, by simp [execOp, ho, this], .v _ rfl⟩
 · rename_i s x f d x' off ho
   simp only [Bool.and_eq_true] at ok
   obtain ⟨av, ha, eq1⟩ := Z3 eq
   obtain ⟨z, hz, hr⟩ := Zxb (hget x x' av ok.1 ha) (Zmy ok.2) eq1
   exact ⟨z, by simp [execOp, ho, hz], hr⟩
 · rename_i s x f d x' off n g ho
   simp only [Bool.and_eq_true] at ok
   obtain ⟨av, ha, eq1⟩ := Z3 eq
   obtain ⟨z, hz, hr⟩ := Zqp (hget x x' av ok.1 ha) (Zkx ok.2) eq1
   exact ⟨z, by simp [execOp, ho, hz], hr⟩
 · rename_i t x i d e x' i' ho
   simp only [Bool.and_eq_true, decide_eq_true_eq] at ok
   obtain ⟨⟨⟨⟨h1, h2⟩, h3⟩, h4⟩, h5⟩ := ok
   obtain ⟨av, ha, eq1⟩ := Z3 eq
   obtain ⟨iv, hi, eq2⟩ := Z3 eq1
   obtain ⟨z, hz, hr⟩ := Zxf H (hget x x' av h1 ha) (hget i i' iv h2 hi) h3 h4 h5 eq2
   exact ⟨z, by simp [execOp, ho, hz], hr⟩
 · rename_i t x i d x' i' ho
   simp only [Bool.and_eq_true] at ok
   obtain ⟨⟨h1, h2⟩, h3⟩ := ok
   obtain ⟨av, ha, eq1⟩ := Z3 eq
   obtain ⟨iv, hi, eq2⟩ := Z3 eq1
   obtain ⟨z, hz, hr⟩ := Zwt (hget x x' av h1 ha) (hget i i' iv h2 hi) h3 eq2
   exact ⟨z, by simp [execOp, ho, hz], hr⟩
 · rename_i x i d x' i' ho
   simp only [Bool.and_eq_true, decide_eq_true_eq] at ok
   obtain ⟨h1, rfl⟩ := ok
   obtain ⟨av, ha, eq1⟩ := Z3 eq
   obtain ⟨z, hz, hr⟩ := Zvl (hget x x' av h1 ha) eq1
   exact ⟨z, by simp [execOp, ho, hz], hr⟩
 · rename_i c d str x' ho
   simp only [Bool.and_eq_true] at ok
   obtain ⟨h1, h2⟩ := ok
   obtain ⟨av, ha, eq1⟩ := Z3 eq
   split at h1
   · rename_i x hc hargs
     split at h2
     · rename_i t hts
       obtain ⟨z, hz, hr⟩ := Zv2 (hget x x' av h1 ha) eq1 h2 o.type
       refine ⟨z, ?_, hr⟩
       have e1 : c.args = #[x] := by have := congrArg List.toArray hargs; simpa using this
       have e2 : c.argTypes = #[t] := by have := congrArg List.toArray hts; simpa using this
       simp [execOp, ho, resolve, hc, e1, e2, invoke, builtin, hz]
     · cases h2
   · cases h1
 · rename_i c d mx x' y' ho
   split at ok
   · rename_i b x y hc hargs
     simp only [Bool.and_eq_true] at ok
     obtain ⟨⟨h0, h1⟩, h2⟩ := ok
     obtain ⟨av, ha, eq1⟩ := Z3 eq
     obtain ⟨bv, hb, eq2⟩ := Z3 eq1
     obtain ⟨z, hz, hr⟩ := Zug (hget x x' av h1 ha) (hget y y' bv h2 hb) eq2 c.argTypes o.type
     refine ⟨z, ?_, hr⟩
     have e1 : c.args = #[x, y] := by have := congrArg List.toArray hargs; simpa using this
     cases b <;> simp only [Bool.false_eq_true] at h0
     · subst h0
       simp only [if_true] at hz
       simp [execOp, ho, resolve, hc, e1, invoke, builtin, hz]
     · have h0 : mx = false := by simpa using h0
       subst h0
       simp only [Bool.false_eq_true, if_false] at hz
       simp [execOp, ho, resolve, hc, e1, invoke, builtin, hz]
   · cases ok
 · rename_i x d x' ho
   obtain ⟨av, ha, eq1⟩ := Z3 eq
   obtain ⟨h1, h2⟩ := Y2m (hget x x' av ok ha) eq1 o x ho ev' rfl
   exact ⟨_, h1, h2⟩
 · cases ok
end Go.Vm
set_option linter.unusedVariables false
set_option linter.unusedSimpArgs false
namespace Go.Vm
open Go.RowKit
variable {P : Program} {ρ ρ' ρ'' : Rho} {S S' S'' : Nat → Prop} {w w' w'' : World} {B : Nat} {h : Hp}
structure Mv (B : Nat) (ρ : Rho) (S : Nat → Prop) (w : World) (ρ' : Rho) (S' : Nat → Prop) (w' : World) (iv : Nat → Prop) : Prop where
 le : Rho.le ρ ρ'
 sub : ∀ k, S k → S' k
 ext : Ext S w w'
 below : Below B w w'
 new : ∀ b, ρ b = none → ¬ iv b → ρ' b = none
 back : ∀ k, S' k → S k ∨ B ≤ k
theorem Mv.refl (B : Nat) (ρ : Rho) (S : Nat → Prop) (w : World) (iv : Nat → Prop) : Mv B ρ S w ρ S w iv :=
 ⟨fun _ _ h => h, fun _ h => h, Ext.refl _ _, Below.refl _ _, fun _ h _ => h, fun _ h => .inl h⟩
theorem Mv.trans {iv iv' : Nat → Prop} (a : Mv B ρ S w ρ' S' w' iv) (b : Mv B ρ' S' w' ρ'' S'' w'' iv') : Mv B ρ S w ρ'' S'' w'' (fun x => iv x ∨ iv' x) :=
 ⟨fun x l e => b.le x l (a.le x l e), fun k e => b.sub k (a.sub k e), a.ext.trans a.sub b.ext, a.below.trans b.below,
  fun x e n => b.new x (a.new x e (fun q => n (.inl q))) (fun q => n (.inr q)),
  fun k hk => by rcases b.back k hk with h | h; exact a.back k h; exact .inr h⟩
theorem Mv.wide {iv iv' : Nat → Prop} (a : Mv B ρ S w ρ' S' w' iv) (hw : ∀ x, iv x → iv' x) : Mv B ρ S w ρ' S' w' iv' :=
 ⟨a.le, a.sub, a.ext, a.below, fun x e n => a.new x e (fun q => n (hw x q)), a.back⟩
theorem Mv.R {iv : Nat → Prop} (a : Mv B ρ S w ρ' S' w' iv) {v : A} {x : Value} (r : R P ρ S w v x) : R P ρ' S' w' v x := r.mono a.le a.sub a.ext
def setR (ρ : Rho) (b : Nat) (l : Loc) : Rho := fun i => if i = b then some l else ρ i
theorem Z9j {b : Nat} {l : Loc} (hb : ρ b = none) : Rho.le ρ (setR ρ b l) := fun i l' e => by
 unfold setR
 split
 · rename_i hi; subst hi; rw [hb] at e; cases e
 · exact e
theorem Yk (b : Nat) (l : Loc) : setR ρ b l b = some l := by simp [setR]
theorem Z1l {b i : Nat} {l : Loc} (hi : i ≠ b) : setR ρ b l i = ρ i := by simp [setR, hi]
theorem Z1k {k : Nat} {o : Obj} (e : w.heap[k]? = some o) : k < w.heap.size := (Array.getElem?_eq_some_iff.1 e).1
theorem Zjz (S : Nat → Prop) (hS : ∀ k, S k → k < w.heap.size) (cs : Array Value) (ty : TypeId) : Ext S w (w.alloc (.cells cs ty)) :=
 ⟨fun k hk => Below.heap_alloc w _ k (hS k hk), fun k c t e => ⟨c, by rw [Below.heap_alloc w _ k (Z1k e)]; exact e, rfl⟩, fun k es cl e => by rw [Below.heap_alloc w _ k (Z1k e)]; exact e⟩
theorem Z3e (w : World) (o : Obj) : (w.alloc o).heap[w.heap.size]? = some o := by
 show (w.heap.push o)[w.heap.size]? = _
 simp
theorem BR.mono {blk : Blk} {k sz : Nat} (b : BR P ρ S w B blk k sz) (hle : Rho.le ρ ρ') (hsub : ∀ k, S k → S' k) (hext : Ext S w w') (hk : S' k → S k)
 (hsame : w'.heap[k]? = w.heap[k]?) : BR P ρ' S' w' B blk k sz := by
 refine ⟨b.sz_eq, b.base, fun h hs => b.own h (hk hs), fun h => hsub k (b.not_own h), b.rows, ?_⟩
 obtain ⟨c, hc, hs, hcell⟩ := b.heap
 exact ⟨c, hsame.trans hc, hs, fun i row j x h1 h2 => by
  obtain ⟨y, hy, hr⟩ := hcell i row j x h1 h2
  exact ⟨y, hy, hr.mono (Zy6 _ hle) hsub hext⟩⟩
theorem HR.mono (H : HR P ρ S w B h) (hle : Rho.le ρ ρ') (hext : Ext S w w') (hs : w.heap.size ≤ w'.heap.size)
 (hsame : ∀ b blk k sz, h b = some blk → ρ b = some (some (k, sz)) → w'.heap[k]? = w.heap[k]?) : HR P ρ' S w' B h := by
 refine ⟨fun b blk e => ?_, fun b b' k sz sz' blk blk' e1 e2 e3 e4 => ?_, fun k hk => Nat.lt_of_lt_of_le (H.old k hk) hs, H.glob.mono (fun _ h => h) hext⟩
 · rcases H.at_ b blk e with ⟨k, sz, hb, hB⟩ | ⟨hb, r⟩
   · exact .inl ⟨k, sz, hle b _ hb, hB.mono hle (fun _ h => h) hext (fun h => h) (hsame b blk k sz e hb)⟩
   · exact .inr ⟨hle b _ hb, r⟩
 · have back : ∀ b blk k sz, h b = some blk → ρ' b = some (some (k, sz)) → ρ b = some (some (k, sz)) := by
    intro b blk k sz e e'
    rcases H.at_ b blk e with ⟨k1, sz1, hb, _⟩ | ⟨hb, _⟩
    · have := hle b _ hb; rw [this] at e'; rw [hb]; exact e'
    · have := hle b _ hb; rw [this] at e'; cases e'
   exact H.inj b b' k sz sz' blk blk' e1 e2 (back _ _ _ _ e1 e3) (back _ _ _ _ e2 e4)
theorem HR.lt (H : HR P ρ S w B h) {b : Nat} {blk : Blk} {k sz : Nat} (e : h b = some blk) (hb : ρ b = some (some (k, sz))) : k < w.heap.size := by
 rcases H.at_ b blk e with ⟨k', sz', hb', hB⟩ | ⟨hb', _⟩
 · rw [hb] at hb'
   simp only [Option.some.injEq, Prod.mk.injEq] at hb'
   obtain ⟨rfl, rfl⟩ := hb'
   obtain ⟨c, hc, _⟩ := hB.heap
   rcases Nat.lt_or_ge k w.heap.size with h | h
   · exact h
   · rw [Array.getElem?_eq_none h] at hc; cases hc
 · rw [hb] at hb'; cases hb'
theorem HR.make (H : HR P ρ S w B h) {b : Nat} (hb : ρ b = none) (hB : B ≤ w.heap.size) (blk : Blk) (cs : Array Value) (hown : blk.own = true)
 (hrows : ∀ (i : Nat) (row : List A), blk.rows[i]? = some row → row.length = P.cellsOf blk.ty ∧ Zd row = true) (hsz : blk.rows.length * P.cellsOf blk.ty ≤ cs.size)
 (hcell : ∀ (i : Nat) (row : List A) (j : Nat) (x : A), blk.rows[i]? = some row → row[j]? = some x → ∃ y, cs[i * P.cellsOf blk.ty + j]? = some y ∧ R P (inR blk.box ρ) S w x y) :
 HR P (setR ρ b (some (w.heap.size, P.cellsOf blk.ty))) S (w.alloc (.cells cs blk.ty)) B (upd h b (some blk)) ∧
  Mv B ρ S w (setR ρ b (some (w.heap.size, P.cellsOf blk.ty))) S (w.alloc (.cells cs blk.ty)) (fun x => x = b) := by
 have hle := Z9j (l := some (w.heap.size, P.cellsOf blk.ty)) hb
 have hext := Zjz S H.old cs blk.ty
 have M := H.mono hle hext (by simp) (fun b' blk' k sz e e' => Below.heap_alloc w _ k (H.lt e e'))
 refine ⟨⟨fun b' blk' e => ?_, fun b1 b2 k sz sz' blk1 blk2 e1 e2 e3 e4 => ?_, M.old, M.glob⟩, ⟨hle, fun _ h => h, hext, (Below.refl B w).alloc hB _, fun x hx hn => by rw [Z1l hn]; exact hx, fun _ h => .inl h⟩⟩
 · unfold upd at e
   split at e
   · rename_i hbb
     subst hbb
     simp only [Option.some.injEq] at e
     subst e
     refine .inl ⟨w.heap.size, P.cellsOf blk.ty, Yk _ _, ⟨rfl, hB, fun _ hs => absurd (H.old _ hs) (Nat.lt_irrefl _), fun hf => absurd (hown.symm.trans hf) (by simp), hrows, cs, Z3e w _, hsz, fun i row j x h1 h2 => ?_⟩⟩
     obtain ⟨y, hy, hr⟩ := hcell i row j x h1 h2
     exact ⟨y, hy, hr.mono (Zy6 _ hle) (fun _ h => h) hext⟩
   · exact M.at_ b' blk' e
 · have aux : ∀ b' blk' k sz, upd h b (some blk) b' = some blk' → setR ρ b (some (w.heap.size, P.cellsOf blk.ty)) b' = some (some (k, sz)) → b' ≠ b → h b' = some blk' ∧ k < w.heap.size := by
    intro b' blk' k sz e e' hn
    rw [upd, if_neg hn] at e
    rw [Z1l hn] at e'
    exact ⟨e, H.lt e e'⟩
   by_cases h1 : b1 = b <;> by_cases h2 : b2 = b
   · rw [h1, h2]
   · subst h1
     rw [Yk] at e3
     have := (aux b2 blk2 k sz' e2 e4 h2).2
     simp only [Option.some.injEq, Prod.mk.injEq] at e3
     omega
   · subst h2
     rw [Yk] at e4
     have := (aux b1 blk1 k sz e1 e3 h1).2
     simp only [Option.some.injEq, Prod.mk.injEq] at e4
     omega
   · exact M.inj b1 b2 k sz sz' blk1 blk2 (aux b1 blk1 k sz e1 e3 h1).1 (aux b2 blk2 k sz' e2 e4 h2).1 e3 e4
theorem HR.none_ (H : HR P ρ S w B h) {b : Nat} (hb : ρ b = none) (ty : Nat) :
 HR P (setR ρ b none) S w B (upd h b (some ⟨ty, [], true, false⟩)) ∧ Mv B ρ S w (setR ρ b none) S w (fun x => x = b) := by
 have hle := Z9j (l := none) hb
 have M := H.mono hle (Ext.refl S w) (Nat.le_refl _) (fun _ _ _ _ _ _ => rfl)
 refine ⟨⟨fun b' blk' e => ?_, fun b1 b2 k sz sz' blk1 blk2 e1 e2 e3 e4 => ?_, M.old, M.glob⟩, ⟨hle, fun _ h => h, Ext.refl _ _, Below.refl _ _, fun x hx hn => by rw [Z1l hn]; exact hx, fun _ h => .inl h⟩⟩
 · unfold upd at e
   split at e
   · rename_i hbb
     subst hbb
     simp only [Option.some.injEq] at e
     subst e
     exact .inr ⟨Yk _ _, rfl, rfl⟩
   · exact M.at_ b' blk' e
 · have aux : ∀ b' blk' k sz, upd h b (some ⟨ty, [], true, false⟩) b' = some blk' → setR ρ b none b' = some (some (k, sz)) → h b' = some blk' := by
    intro b' blk' k sz e e'
    by_cases hn : b' = b
    · subst hn; rw [Yk] at e'; cases e'
    · rwa [upd, if_neg hn] at e
   exact M.inj b1 b2 k sz sz' blk1 blk2 (aux _ _ _ _ e1 e3) (aux _ _ _ _ e2 e4) e3 e4
theorem HR.kill (H : HR P ρ S w B h) (b : Nat) : HR P ρ S w B (upd h b none) := by
 have aux : ∀ b' blk', upd h b none b' = some blk' → h b' = some blk' := by
  intro b' blk' e
  unfold upd at e
  split at e
  · cases e
  · exact e
 exact ⟨fun b' blk' e => H.at_ b' blk' (aux _ _ e), fun b1 b2 k sz sz' blk1 blk2 e1 e2 => H.inj b1 b2 k sz sz' blk1 blk2 (aux _ _ e1) (aux _ _ e2), H.old, H.glob⟩
end Go.Vm
set_option linter.unusedVariables false
set_option linter.unusedSimpArgs false
namespace Go.Vm
open Go.RowKit
variable {P : Program} {ρ ρ' ρ'' : Rho} {S S' S'' : Nat → Prop} {w w' w'' : World} {B : Nat} {h : Hp}
structure Wrote (w w' : World) (k o : Nat) (vs : List Value) : Prop where
 os : w'.os = w.os
 tape : w'.tape = w.tape
 output : w'.output = w.output
 size : w'.heap.size = w.heap.size
 other : ∀ i, i ≠ k → w'.heap[i]? = w.heap[i]?
 here : ∀ c t, w.heap[k]? = some (.cells c t (0, 0)) → ∃ c', w'.heap[k]? = some (.cells c' t (0, 0)) ∧ c'.size = c.size ∧ ∀ m, c'[m]? = if o ≤ m ∧ m < o + vs.length then vs[m - o]? else c[m]?
theorem Zjh {c : Array Value} {t : TypeId} {fr : Nat × Nat} {k o : Nat} (e : w.heap[k]? = some (.cells c t fr)) (v : Value) : (w.setCell ⟨k, o, none⟩ v).heap[k]? = some (.cells (c.setIfInBounds o v) t fr) := by
 simp only [World.setCell, Array.getElem?_modify]
 simp [e]
theorem Z1r {k : Nat} : ∀ (vs : List Value) (o i : Nat) (w : World) (c : Array Value) (t : TypeId), w.heap[k]? = some (.cells c t (0, 0)) → (∀ v ∈ vs, v.oneCell' = true) → o + i + vs.length ≤ c.size →
 ∃ w', (storeCells ⟨k, o, none⟩ vs i).run P w = .ok () w' ∧ Wrote w w' k (o + i) vs
 | [], o, i, w, c, t, hc, _, _ => ⟨w, rfl, ⟨rfl, rfl, rfl, rfl, fun _ _ => rfl, fun c t e => ⟨c, e, rfl, fun m => by simp; intro a b; omega⟩⟩⟩
 | v :: vs, o, i, w, c, t, hc, h1, hl => by
   have hlt : o + i < c.size := by simp at hl; omega
   have hcell : w.cell? ⟨k, o + i, none⟩ = some c[o + i] := by simp [World.cell?, hc, Array.getElem?_eq_getElem hlt]
   have hfr : w.frozen? ⟨k, o + i, none⟩ = false := by simp [World.frozen?, hc]
   have hw := Zjh (w := w) (o := o + i) hc v
   obtain ⟨w', hrun, hwr⟩ := Z1r vs o (i + 1) (w.setCell ⟨k, o + i, none⟩ v) _ t hw (fun u hu => h1 u (List.mem_cons_of_mem _ hu)) (by simp at hl ⊢; omega)
   refine ⟨w', ?_, ⟨hwr.os, hwr.tape, hwr.output, by rw [hwr.size]; simp [World.setCell], fun j hj => by rw [hwr.other j hj]; exact Below.heap_setCell w _ v j hj, fun c2 t2 e => ?_⟩⟩
   · unfold storeCells
     simp only [Sem.run_bind, Vu]
     rw [run_store P w _ v .plain (h1 v List.mem_cons_self), hcell, hfr]
     simp only [Sem.run, Result.andThen_ok, Bool.false_eq_true, if_false]
     exact hrun
   · rw [hc] at e
     simp only [Option.some.injEq, Obj.cells.injEq, and_true] at e
     obtain ⟨rfl, rfl⟩ := e
     obtain ⟨c', hc', hs', hg⟩ := hwr.here _ _ hw
     refine ⟨c', hc', by rw [hs']; simp, fun m => ?_⟩
     rw [hg m, Array.getElem?_setIfInBounds]
     by_cases hm : o + i = m
     · subst hm
       rw [if_neg (by omega), if_pos rfl, if_pos hlt, if_pos (by simp)]
       simp
     · rw [if_neg hm]
       by_cases h2 : o + (i + 1) ≤ m ∧ m < o + (i + 1) + vs.length
       · rw [if_pos h2, if_pos (by simp; omega)]
         rw [show m - (o + i) = (m - (o + (i + 1))) + 1 by omega]
         rfl
       · rw [if_neg h2, if_neg (by simp; omega)]
theorem Wrote.ext {k o : Nat} {vs : List Value} (h : Wrote w w' k o vs) (hk : ¬ S k) (hc : ∃ c t, w.heap[k]? = some (.cells c t (0, 0))) : Ext S w w' :=
 ⟨fun i hi => h.other i (fun e => hk (e ▸ hi)), fun i c t e => by
  by_cases hi : i = k
  · subst hi
    obtain ⟨c', hc, hs, _⟩ := h.here c t e
    exact ⟨c', hc, hs⟩
  · exact ⟨c, by rw [h.other i hi]; exact e, rfl⟩, fun i es cl e => by
  by_cases hi : i = k
  · subst hi
    obtain ⟨c, t, e2⟩ := hc
    rw [e] at e2
    cases e2
  · rw [h.other i hi]; exact e⟩
theorem Wrote.below {k o : Nat} {vs : List Value} (h : Wrote w w' k o vs) (hB : B ≤ k) : Below B w w' :=
 ⟨h.os, h.tape, h.output, by rw [h.size]; exact Nat.le_refl _, fun i hi => h.other i (by omega)⟩
theorem Z3z {a : A} {x : Value} (e : Z0q a = true) (r : R P ρ S w a x) : x.oneCell' = true := by
 cases r with
 | v x h => cases x <;> simp_all [Za4, Value.oneCell']
 | _ => first | rfl | simp [Z0q] at e
end Go.Vm
set_option linter.unusedVariables false
set_option linter.unusedSimpArgs false
namespace Go.Vm
open Go.RowKit
variable {P : Program} {ρ ρ' ρ'' : Rho} {S S' S'' : Nat → Prop} {w w' w'' : World} {B : Nat} {h : Hp}
theorem HR.at_of (H : HR P ρ S w B h) {b : Nat} {blk : Blk} {k sz : Nat} (e : h b = some blk) (hb : ρ b = some (some (k, sz))) : BR P ρ S w B blk k sz := by
 rcases H.at_ b blk e with ⟨k', sz', hb', hB⟩ | ⟨hb', _⟩
 · rw [hb] at hb'
   simp only [Option.some.injEq, Prod.mk.injEq] at hb'
   obtain ⟨rfl, rfl⟩ := hb'
   exact hB
 · rw [hb] at hb'; cases hb'
theorem HR.put (H : HR P ρ S w B h) {b : Nat} {blk blk' : Blk} {k sz : Nat} (e : h b = some blk) (hb : ρ b = some (some (k, sz)))
 (hext : Ext S w w') (hsz : w.heap.size ≤ w'.heap.size) (hother : ∀ i, i ≠ k → i < w.heap.size → w'.heap[i]? = w.heap[i]?) (hB : BR P ρ S w' B blk' k sz) :
 HR P ρ S w' B (upd h b (some blk')) := by
 have hne : ∀ b1 blk1 k1 sz1, b1 ≠ b → h b1 = some blk1 → ρ b1 = some (some (k1, sz1)) → k1 ≠ k := by
  intro b1 blk1 k1 sz1 hn e1 h1 hk
  subst hk
  exact hn (H.inj b1 b k1 sz1 sz blk1 blk e1 e h1 hb)
 refine ⟨fun b1 blk1 e1 => ?_, fun b1 b2 k1 sz1 sz2 blk1 blk2 e1 e2 e3 e4 => ?_, fun i hi => Nat.lt_of_lt_of_le (H.old i hi) hsz, H.glob.mono (fun _ h => h) hext⟩
 · unfold upd at e1
   split at e1
   · rename_i hbb
     subst hbb
     simp only [Option.some.injEq] at e1
     subst e1
     exact .inl ⟨k, sz, hb, hB⟩
   · rename_i hn
     rcases H.at_ b1 blk1 e1 with ⟨k1, sz1, h1, hB1⟩ | hv
     · exact .inl ⟨k1, sz1, h1, hB1.mono (fun _ _ h => h) (fun _ h => h) hext (fun h => h) (hother k1 (hne b1 blk1 k1 sz1 hn e1 h1) (H.lt e1 h1))⟩
     · exact .inr hv
 · have aux : ∀ b1 blk1, upd h b (some blk') b1 = some blk1 → ∃ blk2, h b1 = some blk2 := by
    intro b1 blk1 e1
    unfold upd at e1
    split at e1
    · rename_i hbb; exact ⟨blk, hbb ▸ e⟩
    · exact ⟨blk1, e1⟩
   obtain ⟨x1, h1⟩ := aux b1 blk1 e1
   obtain ⟨x2, h2⟩ := aux b2 blk2 e2
   exact H.inj b1 b2 k1 sz1 sz2 x1 x2 h1 h2 e3 e4
theorem Zac : ∀ (bs : List Nat) (h : Hp) (b : Nat), frz h bs b = match h b with | some k => some (if b ∈ bs then { k with own := false } else k) | none => none
 | [], h, b => by cases e : h b <;> simp [frz, e]
 | c :: bs, h, b => by
   unfold frz
   cases ec : h c with
   | none =>
     simp only []
     rw [Zac bs h b]
     cases e : h b with
     | none => rfl
     | some k =>
       have : b ≠ c := fun q => by rw [q, ec] at e; cases e
       simp [this]
   | some k =>
     simp only []
     rw [Zac bs _ b]
     unfold upd
     by_cases hbc : b = c
     · subst hbc
       simp only [if_pos rfl, ec]
       by_cases hm : b ∈ bs <;> simp [hm]
     · simp only [if_neg hbc]
       cases e : h b with
       | none => rfl
       | some k' => simp [hbc]
def Xv (ρ : Rho) (S : Nat → Prop) (h : Hp) (bs : List Nat) : Nat → Prop := fun k => S k ∨ ∃ b ∈ bs, ∃ blk sz, h b = some blk ∧ ρ b = some (some (k, sz))
theorem HR.freeze (H : HR P ρ S w B h) (bs : List Nat) : HR P ρ (Xv ρ S h bs) w B (frz h bs) := by
 have aux : ∀ b blk, frz h bs b = some blk → ∃ blk0, h b = some blk0 ∧ blk = if b ∈ bs then { blk0 with own := false } else blk0 := by
  intro b blk e
  rw [Zac] at e
  cases eb : h b with
  | none => rw [eb] at e; cases e
  | some k => rw [eb] at e; simp only [Option.some.injEq] at e; exact ⟨k, rfl, e.symm⟩
 refine ⟨fun b blk e => ?_, fun b1 b2 k sz sz' blk1 blk2 e1 e2 e3 e4 => ?_, fun k hk => ?_, H.glob.any (fun _ h => .inl h)⟩
 · obtain ⟨blk0, e0, rfl⟩ := aux b blk e
   rcases H.at_ b blk0 e0 with ⟨k, sz, hb, hB⟩ | ⟨hb, hr, hx⟩
   · refine .inl ⟨k, sz, hb, ?_⟩
     have hm : ∀ b x y, R P (inR b ρ) S w x y → R P (inR b ρ) (Xv ρ S h bs) w x y := fun b x y r => r.mono (fun _ _ h => h) (fun _ h => .inl h) (Ext.refl _ _)
     by_cases hmem : b ∈ bs
     · rw [if_pos hmem]
       refine ⟨hB.sz_eq, hB.base, fun h => by simp at h, fun _ => .inr ⟨b, hmem, blk0, sz, e0, hb⟩, hB.rows, ?_⟩
       obtain ⟨c, hc, hs, hcell⟩ := hB.heap
       exact ⟨c, hc, hs, fun i row j x h1 h2 => by obtain ⟨y, hy, hr⟩ := hcell i row j x h1 h2; exact ⟨y, hy, hm _ _ _ hr⟩⟩
     · rw [if_neg hmem]
       refine ⟨hB.sz_eq, hB.base, fun ho hS => ?_, fun ho => .inl (hB.not_own ho), hB.rows, ?_⟩
       · rcases hS with hS | ⟨b', hb', blk', sz', e', h'⟩
         · exact hB.own ho hS
         · have := H.inj b b' k sz sz' blk0 blk' e0 e' hb h'
           exact hmem (this ▸ hb')
       obtain ⟨c, hc, hs, hcell⟩ := hB.heap
       exact ⟨c, hc, hs, fun i row j x h1 h2 => by obtain ⟨y, hy, hr⟩ := hcell i row j x h1 h2; exact ⟨y, hy, hm _ _ _ hr⟩⟩
   · refine .inr ⟨hb, ?_, ?_⟩ <;> split <;> simp [hr, hx]
 · obtain ⟨x1, h1, _⟩ := aux b1 blk1 e1
   obtain ⟨x2, h2, _⟩ := aux b2 blk2 e2
   exact H.inj b1 b2 k sz sz' x1 x2 h1 h2 e3 e4
 · rcases hk with hk | ⟨b', hb', blk', sz', e', h'⟩
   · exact H.old k hk
   · exact H.lt e' h'
theorem Z46 (H : HR P ρ S w B h) (bs : List Nat) (iv : Nat → Prop) : Mv B ρ S w ρ (Xv ρ S h bs) w iv :=
 ⟨fun _ _ h => h, fun _ h => .inl h, Ext.refl _ _, Below.refl _ _, fun _ h _ => h, fun k hk => by
  rcases hk with hk | ⟨b, _, blk, sz, e, e'⟩
  · exact .inl hk
  · exact .inr (H.at_of e e').base⟩
theorem Yp : ∀ {as : List A}, Zd as = true ↔ ∀ x ∈ as, Z0q x = true
 | [] => by simp [Zd]
 | a :: as => by simp [Zd, Yp (as := as)]
theorem Zbk {row cs : List A} {j : Nat} (h1 : Zd row = true) (h2 : Zd cs = true) : Zd (Z1y row j cs) = true := by
 rw [Yp] at *
 intro x hx
 unfold Z1y at hx
 simp only [List.mem_append] at hx
 rcases hx with (hx | hx) | hx
 · exact h1 x (List.mem_of_mem_take hx)
 · exact h2 x hx
 · exact h1 x (List.mem_of_mem_drop hx)
theorem Z7p {row cs : List A} {j : Nat} (hj : j + cs.length ≤ row.length) : (Z1y row j cs).length = row.length := by
 simp [Z1y]; omega
theorem Zek {row cs : List A} {j : Nat} (hj : j + cs.length ≤ row.length) (m : Nat) :
 (Z1y row j cs)[m]? = if j ≤ m ∧ m < j + cs.length then cs[m - j]? else row[m]? := by
 unfold Z1y
 by_cases h1 : m < j
 · rw [if_neg (by omega), List.append_assoc, List.getElem?_append_left (by simp; omega), List.getElem?_take, if_pos h1]
 · by_cases h2 : m < j + cs.length
   · rw [if_pos ⟨by omega, h2⟩, List.append_assoc, List.getElem?_append_right (by simp; omega)]
     have : (row.take j).length = j := by simp; omega
     rw [this, List.getElem?_append_left (by omega)]
   · rw [if_neg (by omega), List.getElem?_append_right (by simp; omega), List.getElem?_drop]
     congr 1
     simp
     omega
theorem HR.wrote (H : HR P ρ S w B h) {b : Nat} {blk : Blk} {k sz : Nat} (e : h b = some blk) (hb : ρ b = some (some (k, sz))) (hown : blk.own = true)
 {i j : Nat} {row : List A} (hrow : blk.rows[i]? = some row) {xs : List A} {vs : List Value} (hl : vs.length = xs.length) (hj : j + xs.length ≤ row.length)
 (hr : ∀ (m : Nat) (x : A) (y : Value), xs[m]? = some x → vs[m]? = some y → R P (inR blk.box ρ) S w x y) (hxs : Zd xs = true) (hw : Wrote w w' k (i * sz + j) vs) :
 HR P ρ S w' B (upd h b (some { blk with rows := blk.rows.set i (Z1y row j xs) })) ∧ Mv B ρ S w ρ S w' (fun _ => False) := by
 have hB := H.at_of e hb
 have hext : Ext S w w' := hw.ext (hB.own hown) (by obtain ⟨c, hc, _⟩ := hB.heap; exact ⟨c, _, hc⟩)
 refine ⟨H.put e hb hext (by rw [hw.size]; exact Nat.le_refl _) (fun m hm _ => hw.other m hm) ?_, ⟨fun _ _ h => h, fun _ h => h, hext, hw.below hB.base, fun _ h _ => h, fun _ h => .inl h⟩⟩
 obtain ⟨c, hc, hs, hcell⟩ := hB.heap
 obtain ⟨c', hc', hs', hg⟩ := hw.here _ _ hc
 have hi : i < blk.rows.length := (List.getElem?_eq_some_iff.1 hrow).1
 have hset : ∀ (m : Nat) (r : List A), (blk.rows.set i (Z1y row j xs))[m]? = some r → (m = i ∧ r = Z1y row j xs) ∨ (m ≠ i ∧ blk.rows[m]? = some r) := by
  intro m r hm
  rw [List.getElem?_set] at hm
  by_cases him : i = m
  · rw [if_pos him, if_pos hi] at hm; simp only [Option.some.injEq] at hm; exact .inl ⟨him.symm, hm.symm⟩
  · rw [if_neg him] at hm; exact .inr ⟨fun q => him q.symm, hm⟩
 refine ⟨hB.sz_eq, hB.base, hB.own, hB.not_own, fun m r hm => ?_, c', hc', by simp [hs']; exact hs, fun m r q x hm hx => ?_⟩
 · rcases hset m r hm with ⟨rfl, rfl⟩ | ⟨_, hm⟩
   · exact ⟨by rw [Z7p hj]; exact (hB.rows _ _ hrow).1, Zbk (hB.rows _ _ hrow).2 hxs⟩
   · exact hB.rows _ _ hm
 · have hrl := (hB.rows _ _ hrow).1
   rcases hset m r hm with ⟨rfl, rfl⟩ | ⟨hne, hm⟩
   · rw [Zek hj] at hx
     rw [hg]
     by_cases hq : j ≤ q ∧ q < j + xs.length
     · rw [if_pos hq] at hx
       rw [if_pos (by omega), show m * sz + q - (m * sz + j) = q - j by omega]
       have hlt : q - j < vs.length := by omega
       exact ⟨vs[q - j], List.getElem?_eq_getElem hlt, (hr _ _ _ hx (List.getElem?_eq_getElem hlt)).mono (fun _ _ h => h) (fun _ h => h) hext⟩
     · rw [if_neg hq] at hx
       rw [if_neg (by omega)]
       obtain ⟨y, hy, hry⟩ := hcell m row q x hrow hx
       exact ⟨y, hy, hry.mono (fun _ _ h => h) (fun _ h => h) hext⟩
   · obtain ⟨y, hy, hry⟩ := hcell m r q x hm hx
     have hql : q < sz := by rw [← (hB.rows _ _ hm).1]; exact (List.getElem?_eq_some_iff.1 hx).1
     have : ¬ (i * sz + j ≤ m * sz + q ∧ m * sz + q < i * sz + j + vs.length) := by
      rcases Nat.lt_or_gt_of_ne hne with hlt | hgt
      · have : (m + 1) * sz ≤ i * sz := Nat.mul_le_mul_right _ hlt
        rw [Nat.add_mul] at this
        omega
      · have : (i + 1) * sz ≤ m * sz := Nat.mul_le_mul_right _ hgt
        rw [Nat.add_mul] at this
        omega
     rw [hg, if_neg this]
     exact ⟨y, hy, hry.mono (fun _ _ h => h) (fun _ h => h) hext⟩
end Go.Vm
set_option linter.unusedVariables false
set_option linter.unusedSimpArgs false
namespace Go.Vm
open Go.RowKit
variable {P : Program} {ρ ρ' ρ'' : Rho} {S S' S'' : Nat → Prop} {w w' w'' : World} {B : Nat} {h : Hp}
structure RL (P : Program) (ρ : Rho) (S : Nat → Prop) (w : World) (as : List A) (vs : List Value) : Prop where
 len : vs.length = as.length
 at_ : ∀ (i : Nat) (x : A) (y : Value), as[i]? = some x → vs[i]? = some y → R P ρ S w x y
theorem RL.nil : RL P ρ S w [] [] := ⟨rfl, fun i x y h => by simp at h⟩
theorem RL.cons {a : A} {x : Value} {as : List A} {vs : List Value} (h : R P ρ S w a x) (t : RL P ρ S w as vs) : RL P ρ S w (a :: as) (x :: vs) :=
 ⟨by simp [t.len], fun i y z h1 h2 => by
  cases i with
  | zero => simp at h1 h2; subst h1; subst h2; exact h
  | succ i => exact t.at_ i y z h1 h2⟩
theorem RL.head {a : A} {x : Value} {as : List A} {vs : List Value} (h : RL P ρ S w (a :: as) (x :: vs)) : R P ρ S w a x := h.at_ 0 a x rfl rfl
theorem RL.tail {a : A} {x : Value} {as : List A} {vs : List Value} (h : RL P ρ S w (a :: as) (x :: vs)) : RL P ρ S w as vs :=
 ⟨by have := h.len; simpa using this, fun i y z h1 h2 => h.at_ (i + 1) y z h1 h2⟩
theorem RL.inv_nil {vs : List Value} (h : RL P ρ S w [] vs) : vs = [] := List.eq_nil_of_length_eq_zero h.len
theorem RL.inv_cons {a : A} {as : List A} {vs : List Value} (h : RL P ρ S w (a :: as) vs) : ∃ x xs, vs = x :: xs ∧ R P ρ S w a x ∧ RL P ρ S w as xs := by
 cases vs with
 | nil => have := h.len; simp at this
 | cons x xs => exact ⟨x, xs, rfl, h.head, h.tail⟩
theorem RL.mono {as : List A} {vs : List Value} (h : RL P ρ S w as vs) (hρ : Rho.le ρ ρ') (hS : ∀ k, S k → S' k) (hw : Ext S w w') : RL P ρ' S' w' as vs :=
 ⟨h.len, fun i x y h1 h2 => (h.at_ i x y h1 h2).mono hρ hS hw⟩
theorem RL.append {as bs : List A} {vs us : List Value} (h : RL P ρ S w as vs) (t : RL P ρ S w bs us) : RL P ρ S w (as ++ bs) (vs ++ us) := by
 induction as generalizing vs with
 | nil => rw [h.inv_nil]; exact t
 | cons a as ih =>
   obtain ⟨x, xs, rfl, h1, h2⟩ := h.inv_cons
   exact RL.cons h1 (ih h2)
def Fast (ρ : Rho) (h : Hp) (bs : List Nat) (S' : Nat → Prop) : Prop := ∀ b ∈ bs, ∀ blk k sz, h b = some blk → ρ b = some (some (k, sz)) → S' k
theorem Fast.left {bs cs : List Nat} (f : Fast ρ h (bs ++ cs) S') : Fast ρ h bs S' := fun b hb => f b (List.mem_append_left _ hb)
theorem Fast.right {bs cs : List Nat} (f : Fast ρ h (bs ++ cs) S') : Fast ρ h cs S' := fun b hb => f b (List.mem_append_right _ hb)
theorem Fast.frozen (bs : List Nat) : Fast ρ h bs (Xv ρ S h bs) := fun b hb blk k sz e e' => .inr ⟨b, hb, blk, sz, e, e'⟩
theorem Z6e (H : HR P ρ S w B h) {a c : A} {x : Value} (e : W8 h a = some c) (r : R P ρ S w a x) (hS : ∀ k, S k → S' k) (hf : Fast ρ h (X7 a) S') :
 R P Yg S' w c x := by
 cases r with
 | v x hx => simp only [W8, Option.some.injEq] at e; subst e; exact .v x hx
 | lit ty rows a cap Y hcap hl hc hr =>
   simp only [W8, Option.some.injEq] at e
   subst e
   exact ((R.lit ty rows a cap Y hcap hl hc hr : R P Yg S w _ _)).mono (fun _ _ h => h) hS (Ext.refl _ _)
 | ref ty b off len cap ex k sz c' ad hb hty hcap hex ha hlen hk =>
   obtain ⟨blk, hblk, e1⟩ := Z3 e
   clear e
   split at e1
   · rename_i hc
     simp only [Option.some.injEq] at e1
     subst e1
     have hB := H.at_of hblk hb
     have hrl : ((blk.rows.drop off).take len).length = len := by simp; omega
     obtain ⟨cs, hcs, _, hcell⟩ := hB.heap
     have hget : ∀ (i : Nat) (row : List A), ((blk.rows.drop off).take len)[i]? = some row → i < len ∧ blk.rows[off + i]? = some row := by
      intro i row h
      rw [List.getElem?_take] at h
      split at h
      · rw [List.getElem?_drop] at h; exact ⟨‹_›, h⟩
      · cases h
     suffices hh : R P Yg S' w (.lit blk.ty ((blk.rows.drop off).take len)) (.slice ad ((blk.rows.drop off).take len).length c') by rw [hrl] at hh; exact hh
     refine .lit blk.ty ((blk.rows.drop off).take len) ad c' (fun i j => (cs[(off + i) * sz + j]?).getD undef) (by omega) (fun i row h => ?_) (fun i row j x h1 h2 => ?_) (fun i row j x h1 h2 => ?_)
     · rw [← hB.sz_eq]; exact hB.rows _ _ (hget i row h).2
     · obtain ⟨hi, hrow⟩ := hget i row h1
       obtain ⟨y, hy, hr⟩ := hcell _ _ _ _ hrow h2
       refine ⟨k, off * sz, ha (by omega), hf b (by simp [X7]) blk k sz hblk hb, ?_⟩
       rw [← hB.sz_eq]
       have : off * sz + i * sz + j = (off + i) * sz + j := by rw [Nat.add_mul]
       simp [World.cell?, hcs, this, hy]
     · obtain ⟨hi, hrow⟩ := hget i row h1
       obtain ⟨y, hy, hr⟩ := hcell _ _ _ _ hrow h2
       simp only [hy, Option.getD_some]
       rw [hc.1] at hr
       exact R.mono (ρ := Yg) (fun _ _ h => h) hS (Ext.refl _ _) hr
   · cases e1
 | nil ty b ex hb =>
   obtain ⟨blk, hblk, e1⟩ := Z3 e
   clear e
   split at e1
   · simp only [List.take_zero, Option.some.injEq] at e1
     subst e1
     exact .lit blk.ty [] none 0 (fun _ _ => undef) (Nat.le_refl _) (fun i row h => by simp at h) (fun i row j x h => by simp at h) (fun i row j x h => by simp at h)
   · cases e1
 | _ => simp [W8] at e
theorem Z5g (H : HR P ρ S w B h) (hS : ∀ k, S k → S' k) : ∀ {as cs : List A} {vs : List Value}, Z0e h as = some cs → RL P ρ S w as vs → Fast ρ h (Zi as) S' →
 RL P Yg S' w cs vs
 | [], cs, vs, e, r, _ => by
   simp only [Z0e, Option.some.injEq] at e
   subst e
   rw [r.inv_nil]
   exact .nil
 | a :: as, cs, vs, e, r, hf => by
   obtain ⟨c, hc, e1⟩ := Z3 e
   obtain ⟨cs', hcs, e2⟩ := Z3 e1
   simp only [Option.some.injEq] at e2
   subst e2
   obtain ⟨x, xs, rfl, r1, r2⟩ := r.inv_cons
   exact .cons (Z6e H hc r1 hS (Fast.left hf)) (Z5g H hS hcs r2 (Fast.right hf))
theorem Zni (H : HR P ρ S w B h) {a c : A} {x : Value} (e : Z6m h a = some c) (r : R P ρ S w a x) (hS : ∀ k, S k → S' k) (hf : Fast ρ h (Z38 h a) S') :
 R P Yg S' w c x := by
 cases r with
 | pl row j k o Y hk hc hr =>
   simp only [Z6m, Option.some.injEq] at e
   subst e
   exact ((R.pl row j k o Y hk hc hr : R P Yg S w _ _)).mono (fun _ _ h => h) hS (Ext.refl _ _)
 | ptr b i j k sz hb =>
   obtain ⟨blk, hblk, e1⟩ := Z3 e
   obtain ⟨row, hrow, e2⟩ := Z3 e1
   obtain ⟨cs, hcs, e3⟩ := Z3 e2
   simp only [Option.some.injEq] at e3
   subst e3
   have hB := H.at_of hblk hb
   obtain ⟨c, hc, _, hcell⟩ := hB.here
   have hnm : Z38 h (.ptr b i j) = b :: Zi row := by
    simp [Z38, hblk, hrow]
   rw [hnm] at hf
   have hlen : (i + 1) * sz ≤ c.size := by
    rename_i hs
    have : i < blk.rows.length := (List.getElem?_eq_some_iff.1 hrow).1
    exact Nat.le_trans (Nat.mul_le_mul_right _ this) hs
   have hrl := (hB.rows _ _ hrow).1
   let vs := (List.range row.length).map fun m => (c[i * sz + m]?).getD undef
   have hvs : RL P ρ S w row vs := ⟨by simp [vs], fun m x y h1 h2 => by
    obtain ⟨y', hy', hr'⟩ := hcell _ _ _ _ hrow h1
    have hm : m < row.length := (List.getElem?_eq_some_iff.1 h1).1
    simp [vs, List.getElem?_range hm, hy'] at h2
    exact h2 ▸ hr'⟩
   have q1 := Z5g H hS hcs hvs (fun b' hb' => hf b' (List.mem_cons_of_mem _ hb'))
   refine .pl cs j k (i * sz) (fun m => (c[i * sz + m]?).getD undef) (fun _ => hf b List.mem_cons_self blk k sz hblk hb) (fun m x hx => ?_) (fun m x hx => ?_)
   · have hm : m < cs.length := (List.getElem?_eq_some_iff.1 hx).1
     have hm' : m < row.length := by have := q1.len; have := hvs.len; omega
     obtain ⟨y', hy', hr'⟩ := hcell _ _ _ _ hrow (List.getElem?_eq_getElem hm')
     simp [World.cell?, hc, hy']
   · have hm : m < cs.length := (List.getElem?_eq_some_iff.1 hx).1
     have hm' : m < row.length := by have := q1.len; have := hvs.len; omega
     exact q1.at_ m x _ hx (by simp [vs, List.getElem?_range hm'])
 | _ => simp [Z6m] at e
theorem Zp6 (H : HR P ρ S w B h) (hS : ∀ k, S k → S' k) : ∀ {as cs : List A} {vs : List Value}, Z60 h as = some cs → RL P ρ S w as vs → Fast ρ h (Z1b h as) S' → RL P Yg S' w cs vs
 | [], cs, vs, e, r, _ => by
   simp only [Z60, Option.some.injEq] at e
   subst e
   rw [r.inv_nil]
   exact .nil
 | a :: as, cs, vs, e, r, hf => by
   obtain ⟨c, hc, e1⟩ := Z3 e
   obtain ⟨cs', hcs, e2⟩ := Z3 e1
   simp only [Option.some.injEq] at e2
   subst e2
   obtain ⟨x, xs, rfl, r1, r2⟩ := r.inv_cons
   exact .cons (Zni H hc r1 hS (Fast.left hf)) (Zp6 H hS hcs r2 (Fast.right hf))
theorem Zbp {h : Hp} : ∀ {as cs : List A}, Z60 h as = some cs → Wf cs = true
 | [], cs, e => by simp only [Z60, Option.some.injEq] at e; subst e; rfl
 | a :: as, cs, e => by
   obtain ⟨c, hc, e1⟩ := Z3 e
   obtain ⟨cs', hcs, e2⟩ := Z3 e1
   simp only [Option.some.injEq] at e2
   subst e2
   simp only [Wf, Bool.and_eq_true]
   refine ⟨?_, Zbp hcs⟩
   cases a with
   | pl r j => simp only [Z6m, Option.some.injEq] at hc; subst hc; rfl
   | ptr b i j =>
     obtain ⟨k, _, h1⟩ := Z3 hc
     obtain ⟨row, _, h2⟩ := Z3 h1
     obtain ⟨r, _, h3⟩ := Z3 h2
     simp only [Option.some.injEq] at h3
     subst h3; rfl
   | _ => simp [Z6m] at hc
theorem Zyq (H : HR P ρ S w B h) (hS : ∀ k, S k → S' k) {a c : A} {x : Value} (e : Z9t h a = some c) (r : R P ρ S w a x) (hf : Fast ρ h (Z9n h a) S') : R P Yg S' w c x := by
 cases a with
 | agg cs =>
   obtain ⟨ds, hds, e1⟩ := Z3 e
   simp only [Option.some.injEq] at e1
   subst e1
   cases r with
   | agg cs vs hl hr =>
     have q := Z5g H hS hds ⟨hl, hr⟩ hf
     exact .agg ds vs q.len q.at_
 | fn f caps =>
   obtain ⟨ds, hds, e1⟩ := Z3 e
   simp only [Option.some.injEq] at e1
   subst e1
   cases r with
   | fn f caps vs hp hl hr =>
     have q := Zp6 H hS hds ⟨hl, hr⟩ hf
     exact .fn f ds vs (Zbp hds) q.len q.at_
 | ptr b i j => exact Zni H (show Z6m h (.ptr b i j) = some c from e) r hS hf
 | pl row j =>
   simp only [Z9t, Option.some.injEq] at e
   subst e
   exact Zni H rfl r hS (fun b hb => by simp [Z38] at hb)
 | v y => exact Z6e H (show W8 h (.v y) = some c from e) r hS hf
 | lit ty rows => exact Z6e H (show W8 h (.lit ty rows) = some c from e) r hS hf
 | ref ty b off len cap ex => exact Z6e H (show W8 h (.ref ty b off len cap ex) = some c from e) r hS hf
 | _ => simp [Z9t, W8] at e
theorem Znv (H : HR P ρ S w B h) (hS : ∀ k, S k → S' k) : ∀ {as cs : List A} {vs : List Value}, Z0u h as = some cs → RL P ρ S w as vs → Fast ρ h (Xa h as) S' → RL P Yg S' w cs vs
 | [], cs, vs, e, r, _ => by
   simp only [Z0u, Option.some.injEq] at e
   subst e
   rw [r.inv_nil]
   exact .nil
 | a :: as, cs, vs, e, r, hf => by
   obtain ⟨c, hc, e1⟩ := Z3 e
   obtain ⟨cs', hcs, e2⟩ := Z3 e1
   simp only [Option.some.injEq] at e2
   subst e2
   obtain ⟨x, xs, rfl, r1, r2⟩ := r.inv_cons
   exact .cons (Zyq H hS hc r1 (Fast.left hf)) (Znv H hS hcs r2 (Fast.right hf))
end Go.Vm
set_option linter.unusedVariables false
set_option linter.unusedSimpArgs false
namespace Go.Vm
open Go.RowKit
variable {P : Program} {ρ ρ' ρ'' : Rho} {S S' S'' : Nat → Prop} {w w' w'' : World} {B : Nat} {h : Hp}
structure Eff (P : Program) (B : Nat) (ρ : Rho) (S : Nat → Prop) (w : World) (iv : Nat → Prop) (h' : Hp) (a : A) (x : Value) (w' : World) : Prop where
 ex : ∃ ρ' S', Mv B ρ S w ρ' S' w' iv ∧ HR P ρ' S' w' B h' ∧ R P ρ' S' w' a x
def span (n k : Nat) (b : Nat) : Prop := n ≤ b ∧ b < n + k
theorem Z6b {vs : List Value} {as : List A} (e : okKs vs as = true) : RL P ρ S w as vs :=
 ⟨(Zop (P := P) (ρ := ρ) (S := S) (w := w) e).1, (Zop e).2⟩
theorem Z2m : ∀ {vs : List Value} {as : List A}, okKs vs as = true → Zd as = true
 | [], [], _ => rfl
 | [], _ :: _, e => by simp [okKs] at e
 | _ :: _, [], e => by simp [okKs] at e
 | v :: vs, a :: as, e => by
   simp only [okKs, Bool.and_eq_true] at e
   simp only [Zd, Bool.and_eq_true]
   refine ⟨?_, Z2m e.2⟩
   have h := e.1
   unfold okK1 at h
   split at h <;> first | rfl | cases h
theorem Z8s : ∀ (zs : List A) (h : Hp) (n : Nat), Zd zs = true → Zd (Zt h n zs).1 = true
 | [], h, n, _ => rfl
 | z :: zs, h, n, e => by
   simp only [Zd, Bool.and_eq_true] at e
   cases z <;> simp only [Zt, Zd, Z0q, Bool.true_and] <;> first | exact Z8s zs _ _ e.2 | (simp [Z0q] at e)
theorem virt : ∀ (zs : List A) (vs : List Value) (n : Nat) (ρ : Rho) (h : Hp), HR P ρ S w B h → (∀ b, span n (zs.filter Wl).length b → ρ b = none) → okKs vs zs = true →
 ∃ ρ', Mv B ρ S w ρ' S w (span n (zs.filter Wl).length) ∧ HR P ρ' S w B (Zt h n zs).2 ∧ RL P ρ' S w (Zt h n zs).1 vs
 | [], vs, n, ρ, h, H, _, e => by
   cases vs with
   | nil => exact ⟨ρ, Mv.refl _ _ _ _ _, H, .nil⟩
   | cons _ _ => simp [okKs] at e
 | z :: zs, vs, n, ρ, h, H, hf, e => by
   cases vs with
   | nil => simp [okKs] at e
   | cons v vs =>
     simp only [okKs, Bool.and_eq_true] at e
     by_cases hz : Wl z = true
     · cases z with
       | lit ty rows =>
         have hv : v = .slice none 0 0 ∧ rows = [] := by
          unfold okK1 at e
          split at e
          · rename_i h1 h2; simp only [A.lit.injEq] at h2; exact ⟨rfl, h2.2⟩
          · rename_i h2; cases h2
          · simp at e
         obtain ⟨rfl, rfl⟩ := hv
         have hfn : ρ n = none := hf n (by simp [span, hz])
         obtain ⟨H1, M1⟩ := H.none_ hfn ty
         have hlen : ((A.lit ty [] :: zs).filter Wl).length = (zs.filter Wl).length + 1 := by simp [List.filter_cons, Wl]
         obtain ⟨ρ', M2, H2, r2⟩ := virt zs vs (n + 1) _ _ H1 (fun b hb => by
          rw [Z1l (by simp only [span] at hb; omega)]
          exact hf b (by rw [hlen]; simp only [span] at hb ⊢; omega)) e.2
         refine ⟨ρ', (M1.trans M2).wide (fun b hb => by rw [hlen]; simp only [span] at hb ⊢; omega), H2, .cons ?_ r2⟩
         exact .nil ty n false (M2.le _ _ (Yk _ _))
       | _ => simp [Wl] at hz
     · have hlen : ((z :: zs).filter Wl).length = (zs.filter Wl).length := by simp [List.filter_cons, hz]
       rw [hlen] at hf ⊢
       obtain ⟨ρ', M2, H2, r2⟩ := virt zs vs n ρ h H hf e.2
       have hvi : Zt h n (z :: zs) = (z :: (Zt h n zs).1, (Zt h n zs).2) := by
        cases z <;> first | rfl | (simp [Wl] at hz)
       rw [hvi]
       exact ⟨ρ', M2, H2, .cons (Zri e.1) r2⟩
theorem Z6a {t : TypeId} {zs : List A} (e : Zah P t zs = true) : ∃ z, (∀ w, (zeroValue t).run P w = .ok z w) ∧ okKs z.cells.toList zs = true ∧ zs.length = P.cellsOf t ∧ z.cells.size = zs.length := by
 unfold Zah at e
 split at e
 · rename_i z hz
   simp only [Bool.and_eq_true, decide_eq_true_eq] at e
   cases hi : P.info? t with
   | none => rw [hi] at hz; simp at hz
   | some i =>
     rw [hi] at hz
     simp only [Option.bind_some] at hz
     refine ⟨z, fun w => by simp [zeroValue, typeInfo, hi, hz], e.1, e.2, ?_⟩
     have := (Z6b (P := P) (ρ := Yg) (S := fun _ => False) (w := default) e.1).len
     simpa using this
 · cases e
theorem Act.run_alloc {t : TypeId} {z : Value} (hz : ∀ w, (zeroValue t).run P w = .ok z w) : (Instr.alloc t true (.tuple #[])).run P w = .ok (.pointer (some ⟨w.heap.size, 0, none⟩)) (w.alloc (.cells z.cells t)) := by
 simp [Instr.alloc, hz, newVar, newRow]
theorem Zsh {row : List A} : ∀ (i : Nat) (r : List A), [row][i]? = some r → i = 0 ∧ r = row := by
 intro i r e
 cases i with
 | zero => simp at e; exact ⟨rfl, e.symm⟩
 | succ i => simp at e
theorem HR.var (H : HR P ρ S w B h) {b : Nat} (hb : ρ b = none) (hB : B ≤ w.heap.size) {ty : Nat} {row : List A} {cs : Array Value} (hr : RL P ρ S w row cs.toList) (hl : row.length = P.cellsOf ty) (hc : Zd row = true) :
 HR P (setR ρ b (some (w.heap.size, P.cellsOf ty))) S (w.alloc (.cells cs ty)) B (upd h b (some ⟨ty, [row], true, true⟩)) ∧
  Mv B ρ S w (setR ρ b (some (w.heap.size, P.cellsOf ty))) S (w.alloc (.cells cs ty)) (fun x => x = b) := by
 refine H.make hb hB ⟨ty, [row], true, true⟩ cs rfl (fun i r e => ?_) ?_ (fun i r j x h1 h2 => ?_)
 · obtain ⟨_, rfl⟩ := Zsh i r e; exact ⟨hl, hc⟩
 · have := hr.len; simp at this; simp; omega
 · obtain ⟨rfl, rfl⟩ := Zsh i r h1
   have hj : j < r.length := (List.getElem?_eq_some_iff.1 h2).1
   have hj' : j < cs.size := by have := hr.len; simp at this; omega
   exact ⟨cs[j], by simp [hj'], hr.at_ j x _ h2 (by simp [hj'])⟩
theorem Zvd (H : HR P ρ S w B h) (hB : B ≤ w.heap.size) {n ty : Nat} {zs : List A} (hf : ∀ b, span n (1 + (zs.filter Wl).length) b → ρ b = none) (hz : Zah P ty zs = true) :
 ∃ x w', (Instr.alloc ty true (.tuple #[])).run P w = .ok x w' ∧
  Eff P B ρ S w (span n (1 + (zs.filter Wl).length)) (upd (Zt h (n + 1) zs).2 n (some ⟨ty, [(Zt h (n + 1) zs).1], true, true⟩)) (.ptr n 0 0) x w' := by
 obtain ⟨z, hz1, hz2, hz3, hz4⟩ := Z6a hz
 obtain ⟨ρ1, M1, H1, r1⟩ := virt zs z.cells.toList (n + 1) ρ h H (fun b hb => hf b (by simp only [span] at hb ⊢; omega)) hz2
 have hn : ρ1 n = none := M1.new n (hf n (by simp only [span]; omega)) (by simp only [span]; omega)
 have hlen : (Zt h (n + 1) zs).1.length = P.cellsOf ty := by have := r1.len; simp at this; omega
 obtain ⟨H2, M2⟩ := H1.var hn hB r1 hlen (Z8s _ _ _ (Z2m hz2))
 refine ⟨_, _, Act.run_alloc hz1, ⟨_, S, (M1.trans M2).wide (fun b hb => by simp only [span] at hb ⊢; omega), H2, ?_⟩⟩
 have := R.ptr (P := P) (S := S) (w := w.alloc (.cells z.cells ty)) n 0 0 w.heap.size (P.cellsOf ty) (Yk (ρ := ρ1) n (some (w.heap.size, P.cellsOf ty)))
 simpa using this
theorem R.cells {a : A} {x : Value} (e : Zd a.cells = true) (r : R P ρ S w a x) : RL P ρ S w a.cells x.cells.toList ∧ ∀ v ∈ x.cells.toList, v.oneCell' = true := by
 have one : ∀ (as : List A) (vs : List Value), Zd as = true → RL P ρ S w as vs → ∀ v ∈ vs, v.oneCell' = true := by
  intro as
  induction as with
  | nil => intro vs _ r v hv; rw [r.inv_nil] at hv; simp at hv
  | cons a as ih =>
    intro vs e r v hv
    simp only [Zd, Bool.and_eq_true] at e
    obtain ⟨x, xs, rfl, r1, r2⟩ := r.inv_cons
    rcases List.mem_cons.1 hv with rfl | hv
    · exact Z3z e.1 r1
    · exact ih xs e.2 r2 v hv
 have main : RL P ρ S w a.cells x.cells.toList := by
  cases r with
  | agg cs vs hl hr => exact ⟨hl, hr⟩
  | v x h => cases x <;> first | (simp [Za4] at h; done) | exact .cons (.v _ h) .nil
  | lit ty rows a cap Y h1 h2 h3 h4 => exact .cons (.lit ty rows a cap Y h1 h2 h3 h4) .nil
  | ref ty b off len cap ex k sz c a h1 h2 h3 h4 h5 h6 h7 => exact .cons (.ref ty b off len cap ex k sz c a h1 h2 h3 h4 h5 h6 h7) .nil
  | nil ty b ex h1 => exact .cons (.nil ty b ex h1) .nil
  | ptr b i j k sz h1 => exact .cons (.ptr b i j k sz h1) .nil
  | pl row j k o Y h1 h2 h3 => exact .cons (.pl row j k o Y h1 h2 h3) .nil
  | fn f caps vs h0 h1 h2 => exact .cons (.fn f caps vs h0 h1 h2) .nil
  | _ => simp [Zd, A.cells, Z0q] at e
 exact ⟨main, one _ _ e main⟩
theorem Zu3 (H : HR P ρ S w B h) (hB : B ≤ w.heap.size) {n ty : Nat} {a : A} {v : Value} (hf : ρ n = none) (r : R P ρ S w a v) (hl : a.cells.length = P.cellsOf ty) (hc : Zd a.cells = true) :
 ∃ x w', (Instr.box ty v).run P w = .ok x w' ∧ Eff P B ρ S w (span n 1) (upd h n (some ⟨ty, [a.cells], true, true⟩)) (.ptr n 0 0) x w' := by
 obtain ⟨H2, M2⟩ := H.var hf hB (R.cells hc r).1 hl hc
 refine ⟨.pointer (some ⟨w.heap.size, 0, none⟩), w.alloc (.cells v.cells ty), by simp [Instr.box, newVar, newRow], ⟨_, S, M2.wide (fun b hb => by simp only [span] at hb ⊢; omega), H2, ?_⟩⟩
 have := R.ptr (P := P) (S := S) (w := w.alloc (.cells v.cells ty)) n 0 0 w.heap.size (P.cellsOf ty) (Yk (ρ := ρ) n (some (w.heap.size, P.cellsOf ty)))
 simpa using this
end Go.Vm
set_option linter.unusedVariables false
set_option linter.unusedSimpArgs false
namespace Go.Vm
open Go.RowKit
variable {P : Program} {ρ ρ' ρ'' : Rho} {S S' S'' : Nat → Prop} {w w' w'' : World} {B : Nat} {h : Hp}
def Z9e (place : Nat → Option (Nat × Nat)) : List (Nat × Operand) → List (Nat × Nat × Opd) → Bool
 | [], [] => true
 | (i, x) :: ps, (off, n, y) :: qs => decide (place i = some (off, n)) && Ym x y && Z9e place ps qs
 | _, _ => false
theorem Zeb {σ : St} {ev' : Operand → Value} (hget : ∀ x y, Ym x y = true → R P ρ S w (ev σ y) (ev' x)) (place : Nat → Option (Nat × Nat)) :
 ∀ (ps : List (Nat × Operand)) (qs : List (Nat × Nat × Opd)) (cs cs' : List A) (cells : Array Value), Z9e place ps qs = true → RL P ρ S w cs cells.toList → Zat σ cs qs = some cs' →
  ∃ r, Instr.fill place cells (ps.map fun p => (p.1, ev' p.2)) = some r ∧ RL P ρ S w cs' r.toList
 | [], qs, cs, cs', cells, ok, r, e => by
   cases qs with
   | nil =>
     simp only [Zat, Option.some.injEq] at e
     subst e
     exact ⟨cells, rfl, r⟩
   | cons _ _ => simp [Z9e] at ok
 | (i, x) :: ps, qs, cs, cs', cells, ok, r, e => by
   cases qs with
   | nil => simp [Z9e] at ok
   | cons q qs =>
     obtain ⟨off, n, y⟩ := q
     simp only [Z9e, Bool.and_eq_true, decide_eq_true_eq] at ok
     simp only [Zat] at e
     split at e
     · rename_i hc
       obtain ⟨hn, hle, hcl⟩ := hc
       obtain ⟨q1, q2⟩ := R.cells hcl (hget x y ok.1.2)
       have hvs : (ev' x).cells.size = n := by have := q1.len; simp at this; omega
       have hcs : cells.size = cs.length := by have := r.len; simp at this; omega
       obtain ⟨g1, g2⟩ := Great.foldl_set off (ev' x).cells.toList 0 cells
       have hr' : RL P ρ S w (Z1y cs off (ev σ y).cells) (((ev' x).cells.toList.zipIdx 0).foldl (fun cs (x : Value × Nat) => cs.setIfInBounds (off + x.2) x.1) cells).toList := by
        refine ⟨by rw [Z7p (by omega)]; simp [g1, hcs], fun m a v h1 h2 => ?_⟩
        rw [Zek (by omega)] at h1
        rw [Array.getElem?_toList, g2 m] at h2
        simp only [Nat.add_zero, Array.length_toList] at h2
        by_cases hm : off ≤ m ∧ m < off + (ev σ y).cells.length
        · rw [if_pos hm] at h1
          rw [if_pos (by omega)] at h2
          exact q1.at_ _ _ _ h1 h2
        · rw [if_neg hm] at h1
          rw [if_neg (by omega)] at h2
          exact r.at_ m a v h1 (by simpa using h2)
       obtain ⟨r2, e2, k2⟩ := Zeb hget place ps qs _ cs' _ ok.2 hr' e
       refine ⟨r2, ?_, k2⟩
       simp only [List.map_cons]
       unfold Instr.fill
       simp only [ok.1.1, hvs]
       rw [if_neg (by simp; omega), ← e2]
       congr 1
       rw [← Array.foldl_toList, Array.toList_zipIdx]
     · cases e
def Zz8 (P : Program) (t : TypeId) (parts : List (Nat × Operand)) (zs : List A) (qs : List (Nat × Nat × Opd)) : Bool :=
 match P.underlying t with
 | some (.struct fs) => (match fs.toList.mapM (fun f => (P.info? f.type).map fun i => (f.offset, i.size)) with
   | some places => Z9e (places.toArray[·]?) parts qs
   | none => false) && Zah P t zs
 | _ => false
theorem Zts (H : HR P ρ S w B h) {σ : St} {ev' : Operand → Value} (hget : ∀ x y, Ym x y = true → R P ρ S w (ev σ y) (ev' x))
 {n t : Nat} {parts : Array (Nat × Operand)} {zs cs : List A} {qs : List (Nat × Nat × Opd)} (hf : ∀ b, span n (zs.filter Wl).length b → ρ b = none)
 (ok : Zz8 P t parts.toList zs qs = true) (e : Zat σ (Zt h n zs).1 qs = some cs) :
 ∃ x w', (Instr.build t (parts.map fun (i, x) => (i, ev' x))).run P w = .ok x w' ∧ Eff P B ρ S w (span n (zs.filter Wl).length) (Zt h n zs).2 (.agg cs) x w' := by
 unfold Zz8 at ok
 split at ok
 · rename_i fs hu
   simp only [Bool.and_eq_true] at ok
   obtain ⟨ok1, ok2⟩ := ok
   split at ok1
   · rename_i places hpl
     have hz0 := ok2
     unfold Zah at hz0
     split at hz0
     · rename_i z hz
       simp only [Bool.and_eq_true, decide_eq_true_eq] at hz0
       cases hi : P.info? t with
       | none => rw [hi] at hz; simp at hz
       | some it =>
         rw [hi] at hz
         simp only [Option.bind_some] at hz
         obtain ⟨ρ1, M1, H1, r1⟩ := virt zs z.cells.toList n ρ h H hf hz0.1
         obtain ⟨r, e2, k2⟩ := Zeb (fun x y h => (M1.R (hget x y h))) (places.toArray[·]?) parts.toList qs _ cs z.cells ok1 r1 e
         refine ⟨_, _, run_build w t _ r ?_, ⟨ρ1, S, M1, H1, ?_⟩⟩
         · simp only [Program.built, hi, hu, hz, hpl, Array.toList_map]
           exact e2
         · exact .agg cs r.toList k2.len k2.at_
     · cases hz0
   · cases ok1
 · cases ok
theorem Z2g (z : Array Value) (n i j : Nat) (hz : j < z.size) (hi : i < n) : (madeCells z (n * z.size))[i * z.size + j]? = z[j]? := by
 have hlt : i * z.size + j < n * z.size := by
  have : (i + 1) * z.size ≤ n * z.size := Nat.mul_le_mul_right _ hi
  rw [Nat.add_mul] at this
  omega
 simp only [madeCells, Array.getElem?_map]
 have : (Array.range (n * z.size))[i * z.size + j]? = some (i * z.size + j) := by simp [hlt]
 rw [this]
 simp only [Option.map_some]
 have h2 : (i * z.size + j) % z.size = j := (Zyk hz).2
 rw [h2]
 simp [hz]
def Zq1 (P : Program) (t ty : TypeId) (zs : List A) : Bool :=
 Z4s P t ty && Zah P ty zs && decide (0 < zs.length) &&
  (match P.info? ty with | some i => decide (i.bytes ≤ 2048) | none => false)
theorem Zum (H : HR P ρ S w B h) (hB : B ≤ w.heap.size) {n t ty : Nat} {zs : List A} {a b : A} {x y : Value} (ra : R P ρ S w a x) (rb : R P ρ S w b y) (hf : ρ n = none) (ok : Zq1 P t ty zs = true)
 {σ σ' : St} {d nm : Nat} (hσ : σ.h = h) (hn : σ.n + nm = n) (e : mksA σ d nm ty zs a b = some σ') :
 ∃ v w', (Instr.makeSlice t x y).run P w = .ok v w' ∧ ∃ u, σ' = { σ with s := upd σ.s d u, h := σ'.h } ∧ Eff P B ρ S w (span n 1) σ'.h u v w' := by
 subst hσ
 subst hn
 unfold mksA at e
 split at e
 · rename_i k l k' c
   split at e
   · rename_i hc
     obtain ⟨h0, rfl, hbig⟩ := hc
     simp only [Option.some.injEq] at e
     subst e
     simp only [Zq1, Bool.and_eq_true, decide_eq_true_eq, Bool.not_eq_true'] at ok
     obtain ⟨⟨⟨o1, o2⟩, o4⟩, o5⟩ := ok
     obtain ⟨z, hz1, hz2, hz3, hz4⟩ := Z6a o2
     split at o5
     · rename_i i hi
       have hz : i.zero = some z := by
        have := hz1 w
        cases hz : i.zero with
        | none => simp [zeroValue, typeInfo, hi, hz, unsupported] at this
        | some z' => simp [zeroValue, typeInfo, hi, hz] at this; rw [this]
       have hsz : i.size = z.cells.size := by rw [hz4, hz3]; simp [Program.cellsOf, hi]
       have hb : (i.bytes : Int) * c ≤ 281474976710656 := by
        have h1 : i.bytes ≤ 2048 := by simpa using o5
        have h2 : (i.bytes : Int) * c = ((i.bytes * c.toNat : Nat) : Int) := by rw [Int.natCast_mul]; congr 1; omega
        have h3 : i.bytes * c.toNat ≤ 2048 * 2 ^ 36 := Nat.mul_le_mul h1 hbig
        omega
       have hc63 : c ≤ 9223372036854775807 := by simp [big] at hbig; omega
       have r0 := Z6b (P := P) (ρ := Yg) (S := S) (w := w) hz2
       have hx := (R.v_inv ra).1
       have hy := (R.v_inv rb).1
       subst hx; subst hy
       have hrun := run_make (P := P) w t ty i z (Yw o1) hi hz k k' c c h0 (Int.le_refl _) hb hc63
       obtain ⟨H2, M2⟩ := H.make hf hB ⟨ty, List.replicate c.toNat zs, true, false⟩ (madeCells z.cells (c.toNat * i.size)) rfl
        (fun m row hm => by rw [List.getElem?_replicate] at hm; split at hm <;> simp at hm; rw [← hm]; exact ⟨hz3, Z2m hz2⟩)
        (by simp [size_madeCells, hsz, hz4, hz3])
        (fun m row j a h1 h2 => by
         rw [List.getElem?_replicate] at h1
         split at h1
         · rename_i hm
           simp at h1
           subst h1
           have hj : j < zs.length := (List.getElem?_eq_some_iff.1 h2).1
           refine ⟨z.cells[j], ?_, r0.at_ j a _ h2 (by simp [hz4, hj])⟩
           have := Z2g z.cells c.toNat m j (by omega) hm
           show (madeCells z.cells (c.toNat * i.size))[m * P.cellsOf ty + j]? = _
           rw [hsz, ← hz3, ← hz4, this]
           simp [hz4, hj]
         · cases h1)
       refine ⟨_, _, hrun, .ref ty (σ.n + nm) 0 c.toNat c.toNat true, rfl, ⟨_, S, M2.wide (fun b hb => by simp only [span] at hb ⊢; omega), H2, ?_⟩⟩
       refine .ref ty (σ.n + nm) 0 c.toNat c.toNat true w.heap.size (P.cellsOf ty) c.toNat _ (Yk _ _) rfl (Nat.le_refl _) (fun _ => rfl) (fun _ => by simp) (Nat.le_refl _) ⟨_, _, Z3e w _, ?_⟩
       simp [size_madeCells, hsz, hz4, hz3]
     · cases o5
   · cases e
 · cases e
theorem Zt2 (H : HR P ρ S w B h) (hB : B ≤ w.heap.size) {n t ty : Nat} {zs : List A} {a b : A} {x y : Value} (ra : R P ρ S w a x) (rb : R P ρ S w b y) (hf : ρ n = none) (ok : Zq1 P t ty zs = true)
 {σ σ' : St} {d nm : Nat} (hσ : σ.h = h) (hn : σ.n + nm = n) (e : mkbA σ d nm ty zs a b = some σ') :
 ∃ v w', (Instr.makeSlice t x y).run P w = .ok v w' ∧ ∃ u, σ' = { σ with s := upd σ.s d u, h := σ'.h } ∧ Eff P B ρ S w (span n 1) σ'.h u v w' := by
 subst hσ
 subst hn
 unfold mkbA at e
 split at e
 · rename_i k l k' c
   split at e
   · rename_i hc
     obtain ⟨h0, rfl, hbig⟩ := hc
     simp only [Option.some.injEq] at e
     subst e
     simp only [Zq1, Bool.and_eq_true, decide_eq_true_eq, Bool.not_eq_true'] at ok
     obtain ⟨⟨⟨o1, o2⟩, o4⟩, o5⟩ := ok
     obtain ⟨z, hz1, hz2, hz3, hz4⟩ := Z6a o2
     split at o5
     · rename_i i hi
       have hz : i.zero = some z := by
        have := hz1 w
        cases hz : i.zero with
        | none => simp [zeroValue, typeInfo, hi, hz, unsupported] at this
        | some z' => simp [zeroValue, typeInfo, hi, hz] at this; rw [this]
       have hsz : i.size = z.cells.size := by rw [hz4, hz3]; simp [Program.cellsOf, hi]
       have hb : (i.bytes : Int) * c ≤ 281474976710656 := by
        have h1 : i.bytes ≤ 2048 := by simpa using o5
        have h2 : (i.bytes : Int) * c = ((i.bytes * c.toNat : Nat) : Int) := by rw [Int.natCast_mul]; congr 1; omega
        have h3 : i.bytes * c.toNat ≤ 2048 * 2 ^ 36 := Nat.mul_le_mul h1 hbig
        omega
       have hc63 : c ≤ 9223372036854775807 := by simp [big] at hbig; omega
       have r0 := Z6b (P := P) (ρ := Yg) (S := S) (w := w) hz2
       have hx := (R.v_inv ra).1
       have hy := (R.v_inv rb).1
       subst hx; subst hy
       have hrun := run_make (P := P) w t ty i z (Yw o1) hi hz k k' c c h0 (Int.le_refl _) hb hc63
       obtain ⟨H2, M2⟩ := H.make hf hB ⟨ty, List.replicate c.toNat zs, true, true⟩ (madeCells z.cells (c.toNat * i.size)) rfl
        (fun m row hm => by rw [List.getElem?_replicate] at hm; split at hm <;> simp at hm; rw [← hm]; exact ⟨hz3, Z2m hz2⟩)
        (by simp [size_madeCells, hsz, hz4, hz3])
        (fun m row j a h1 h2 => by
         rw [List.getElem?_replicate] at h1
         split at h1
         · rename_i hm
           simp at h1
           subst h1
           have hj : j < zs.length := (List.getElem?_eq_some_iff.1 h2).1
           refine ⟨z.cells[j], ?_, (r0.at_ j a _ h2 (by simp [hz4, hj])).up⟩
           have := Z2g z.cells c.toNat m j (by omega) hm
           show (madeCells z.cells (c.toNat * i.size))[m * P.cellsOf ty + j]? = _
           rw [hsz, ← hz3, ← hz4, this]
           simp [hz4, hj]
         · cases h1)
       refine ⟨_, _, hrun, .ref ty (σ.n + nm) 0 c.toNat c.toNat true, rfl, ⟨_, S, M2.wide (fun b hb => by simp only [span] at hb ⊢; omega), H2, ?_⟩⟩
       refine .ref ty (σ.n + nm) 0 c.toNat c.toNat true w.heap.size (P.cellsOf ty) c.toNat _ (Yk _ _) rfl (Nat.le_refl _) (fun _ => rfl) (fun _ => by simp) (Nat.le_refl _) ⟨_, _, Z3e w _, ?_⟩
       simp [size_madeCells, hsz, hz4, hz3]
     · cases o5
   · cases e
 · cases e
end Go.Vm
set_option linter.unusedVariables false
set_option linter.unusedSimpArgs false
namespace Go.Vm
open Go.RowKit
variable {P : Program} {ρ ρ' ρ'' : Rho} {S S' S'' : Nat → Prop} {w w' w'' : World} {B : Nat} {h : Hp}
theorem Za9 {a : A} {x : Value} (r : R P ρ S w a x) {b : Nat} (hb : b ∈ X7 a) : ρ b ≠ none := by
 cases r with
 | ref ty b' off len cap ex k sz c ad h1 => simp [X7] at hb; subst hb; rw [h1]; simp
 | nil ty b' ex h1 => simp [X7] at hb; subst hb; rw [h1]; simp
 | _ => simp [X7] at hb
theorem Z4g : ∀ {as : List A} {vs : List Value}, RL P ρ S w as vs → ∀ {b : Nat}, b ∈ Zi as → ρ b ≠ none
 | [], vs, r, b, hb => by simp [Zi] at hb
 | a :: as, vs, r, b, hb => by
   obtain ⟨x, xs, rfl, r1, r2⟩ := r.inv_cons
   simp only [Zi, List.mem_append] at hb
   rcases hb with hb | hb
   · exact Za9 r1 hb
   · exact Z4g r2 hb
theorem Zsg {h : Hp} {bs : List Nat} {n : Nat} {blk : Blk} (hn : n ∉ bs) : frz (upd h n (some blk)) bs = upd (frz h bs) n (some blk) := by
 funext b
 rw [Zac]
 unfold upd
 by_cases hb : b = n
 · subst hb; simp [hn]
 · simp only [if_neg hb]; rw [Zac]
theorem Z7w {h : Hp} : ∀ {as cs : List A}, Z0e h as = some cs → Zd as = true
 | [], cs, e => rfl
 | a :: as, cs, e => by
   obtain ⟨c, hc, e1⟩ := Z3 e
   obtain ⟨cs', hcs, e2⟩ := Z3 e1
   simp only [Zd, Bool.and_eq_true]
   refine ⟨?_, Z7w hcs⟩
   cases a <;> first | rfl | (simp [W8] at hc)
theorem Z75 {h : Hp} : ∀ {as cs : List A}, Z0e h as = some cs → Zd cs = true
 | [], cs, e => by simp only [Z0e, Option.some.injEq] at e; subst e; rfl
 | a :: as, cs, e => by
   obtain ⟨c, hc, e1⟩ := Z3 e
   obtain ⟨cs', hcs, e2⟩ := Z3 e1
   simp only [Option.some.injEq] at e2
   subst e2
   simp only [Zd, Bool.and_eq_true]
   refine ⟨?_, Z75 hcs⟩
   cases a <;> first
    | (simp only [W8, Option.some.injEq] at hc; subst hc; rfl)
    | (simp [W8] at hc; done)
    | (obtain ⟨k, hk, hc⟩ := Z3 hc
       split at hc
       · simp only [Option.some.injEq] at hc; subst hc; rfl
       · cases hc)
theorem Za6 (H : HR P ρ S w B h) (hS : ∀ k, S k → S' k) {σ : St} (hσ : σ.h = h) {ev' : Operand → Value} (hget : ∀ x y, Ym x y = true → R P ρ S w (ev σ y) (ev' x)) {n : Nat} :
 ∀ {ps : List Operand} {xs : List Opd} {rows : List (List A)}, Vt ps xs = true → Z3c σ n xs = some rows → Fast ρ h (Xb σ xs) S' →
  rows.length = ps.length ∧ (∀ b ∈ Xb σ xs, ρ b ≠ none) ∧ ∀ (i : Nat) (row : List A) (p : Operand), rows[i]? = some row → ps[i]? = some p → (row.length = n ∧ Zd row = true) ∧ (ev' p).cells.size = n ∧ RL P Yg S' w row (ev' p).cells.toList
 | [], xs, rows, ok, e, hf => by
   cases xs with
   | nil =>
     simp only [Z3c, Option.some.injEq] at e
     subst e
     exact ⟨rfl, fun b hb => by simp [Xb] at hb, fun i row p h => by simp at h⟩
   | cons _ _ => simp [Vt] at ok
 | p :: ps, xs, rows, ok, e, hf => by
   cases xs with
   | nil => simp [Vt] at ok
   | cons x xs =>
     simp only [Vt, Bool.and_eq_true] at ok
     simp only [Z3c] at e
     split at e
     · rename_i hn
       obtain ⟨r0, hr0, e1⟩ := Z3 e
       obtain ⟨rs, hrs, e2⟩ := Z3 e1
       simp only [Option.some.injEq] at e2
       subst e2
       rw [hσ] at hr0
       simp only [Xb] at hf
       have hrx := (R.cells (Z7w hr0) (hget p x ok.1)).1
       have q1 := Z5g H hS hr0 hrx (Fast.left hf)
       obtain ⟨g1, g2, g3⟩ := Za6 H hS hσ hget ok.2 hrs (Fast.right hf)
       refine ⟨by simp [g1], fun b hb => ?_, fun i row p' h1 h2 => ?_⟩
       · simp only [Xb, List.mem_append] at hb
         rcases hb with hb | hb
         · exact Z4g hrx hb
         · exact g2 b hb
       · cases i with
         | zero =>
           simp at h1 h2
           subst h1; subst h2
           have l1 := q1.len
           have l2 := hrx.len
           simp at l1 l2
           exact ⟨⟨by omega, Z75 hr0⟩, by omega, q1⟩
         | succ i => exact g3 i row p' (by simpa using h1) (by simpa using h2)
     · cases e
def Zas (P : Program) (t ty n len : Nat) (parts : List (Nat × Operand)) (xs : List Opd) : Bool :=
 Z4s P t ty && decide (n = P.cellsOf ty) && decide (0 < n) && decide (len * n ≤ 2 ^ 24) && decide (parts.map (·.1) = List.range len) && Vt (parts.map (·.2)) xs &&
  (match P.info? ty with | some i => i.zero.isSome | none => false)
theorem Zf7 {ρ0 : Rho} {σ : St} {ev' : Operand → Value}
 {t ty n len : Nat} {parts : Array (Nat × Operand)} {xs : List Opd} {rows : List (List A)} (ok : Zas P t ty n len parts.toList xs = true)
 (g1 : rows.length = (parts.toList.map (·.2)).length) (g3 : ∀ (i : Nat) (row : List A) (p : Operand), rows[i]? = some row → (parts.toList.map (·.2))[i]? = some p → (row.length = n ∧ Zd row = true) ∧ (ev' p).cells.size = n ∧ RL P ρ0 S w row (ev' p).cells.toList) :
 ∃ cells : Array Value, (Instr.buildSlice t len (parts.map fun (i, x) => (i, ev' x))).run P w = .ok (.slice (some ⟨w.heap.size, 0, none⟩) rows.length rows.length) (w.alloc (.cells cells ty)) ∧ cells.size = rows.length * P.cellsOf ty ∧
  (∀ (i : Nat) (row : List A), rows[i]? = some row → row.length = P.cellsOf ty ∧ Zd row = true) ∧
  ∀ (i : Nat) (row : List A) (j : Nat) (x : A), rows[i]? = some row → row[j]? = some x → ∃ y, cells[i * P.cellsOf ty + j]? = some y ∧ R P ρ0 S w x y := by
 simp only [Zas, Bool.and_eq_true, decide_eq_true_eq] at ok
 obtain ⟨⟨⟨⟨⟨⟨o1, rfl⟩, o3⟩, o4⟩, o5⟩, o6⟩, o7⟩ := ok
 split at o7
 · rename_i i hi
   obtain ⟨z, hz⟩ := Option.isSome_iff_exists.1 o7
   have hplen : parts.toList.length = len := by have := congrArg List.length o5; simpa using this
   have hpsz : parts.size = len := by simpa using hplen
   have hrl : rows.length = len := by rw [g1]; simpa using hplen
   have hsz : i.size = P.cellsOf ty := by simp [Program.cellsOf, hi]
   let vs := (parts.toList.map (·.2)).map ev'
   have hvl : vs.length = len := by simp [vs]; simpa using hplen
   have hvs : ∀ v ∈ vs, v.cells.size = P.cellsOf ty := by
    intro v hv
    obtain ⟨j, hj, rfl⟩ := List.getElem_of_mem hv
    have hj' : j < rows.length := by omega
    have hp : (parts.toList.map (·.2))[j]? = some (parts.toList.map (·.2))[j] := List.getElem?_eq_getElem (by simp; omega)
    have := (g3 j rows[j] _ (List.getElem?_eq_getElem hj') hp).2.1
    simpa [vs] using this
   have hparts : (parts.map fun (i, x) => (i, ev' x)).toList = (vs.zipIdx 0).map fun x => (x.2, x.1) := by
    apply List.ext_getElem?
    intro j
    simp only [Array.toList_map, List.getElem?_map, List.getElem?_zipIdx, vs]
    cases hj : parts.toList[j]? with
    | none => simp
    | some p =>
      have h1 : (parts.toList.map (·.1))[j]? = some p.1 := by rw [List.getElem?_map, hj]; rfl
      rw [o5] at h1
      have hlt : j < len := by rw [← hplen]; exact (List.getElem?_eq_some_iff.1 hj).1
      rw [List.getElem?_range hlt] at h1
      simp at h1
      simp [← h1]
   let cells := (vs.flatMap fun v => v.cells.toList).toArray
   have hfill : ∀ c0 : Array Value, vs.length * i.size = c0.size → Instr.fill (fun j => some (j * i.size, i.size)) c0 (parts.map fun (i, x) => (i, ev' x)).toList = some cells := by
    intro c0 h0
    rw [hparts]
    exact Great.fill_whole (by omega) vs c0 (by rw [hsz]; exact hvs) h0
   have hrun : (Instr.buildSlice t len (parts.map fun (i, x) => (i, ev' x))).run P w = .ok (.slice (some ⟨w.heap.size, 0, none⟩) len len) (w.alloc (.cells cells ty)) := by
    by_cases hpos : len * i.size = 0
    · have hl0 : len = 0 := by
       rcases Nat.mul_eq_zero.1 hpos with h | h
       · exact h
       · omega
      have hf0 := hfill #[] (by rw [hvl]; simpa using hpos)
      subst hl0
      have hp0 : parts = #[] := by
       have h0 : parts.size = 0 := by simpa using hplen
       exact Array.eq_empty_of_size_eq_zero h0
      have hc0 : cells = #[] := by
       have : vs = [] := List.eq_nil_of_length_eq_zero hvl
       simp [cells, this]
      subst hp0
      rw [hc0]
      simp [Instr.buildSlice, run_underlying (Yw o1), sizeOf, typeInfo, hi, newRow, Instr.fill, Array.range_zero']
    · exact run_buildSlice w t ty len _ cells i z (Yw o1) hi hz (by rw [hsz]; omega) hpos (hfill _ (by simp [hvl]))
   have hcsz : cells.size = len * P.cellsOf ty := by
    have := Great.fill_whole (s := P.cellsOf ty) o3 vs (Array.replicate (len * P.cellsOf ty) undef) hvs (by simp [hvl])
    obtain ⟨r, hr, hs, _⟩ := Great.fill_dense (s := P.cellsOf ty) o3 vs 0 (Array.replicate (len * P.cellsOf ty) undef) hvs (by simp [hvl])
    rw [this] at hr
    simp only [Option.some.injEq] at hr
    rw [← hr] at hs
    simpa [cells] using hs
   refine ⟨cells, by rw [hrl]; exact hrun, by rw [hcsz, hrl], (fun j row hj => by
    have hj' : j < rows.length := (List.getElem?_eq_some_iff.1 hj).1
    have hp : (parts.toList.map (·.2))[j]? = some (parts.toList.map (·.2))[j] := List.getElem?_eq_getElem (by simp; omega)
    exact (g3 j row _ hj hp).1), (fun j row q a h1 h2 => by
    have hj' : j < rows.length := (List.getElem?_eq_some_iff.1 h1).1
    have hp : (parts.toList.map (·.2))[j]? = some (parts.toList.map (·.2))[j] := List.getElem?_eq_getElem (by simp; omega)
    obtain ⟨⟨k1, _⟩, k2, k3⟩ := g3 j row _ h1 hp
    have hq : q < row.length := (List.getElem?_eq_some_iff.1 h2).1
    have hqv : q < vs[j].cells.size := by rw [hvs _ (List.getElem_mem _)]; omega
    refine ⟨vs[j].cells[q], ?_, ?_⟩
    · show cells[j * P.cellsOf ty + q]? = _
      have := Great.flat_get o3 vs hvs (j * P.cellsOf ty + q)
      have hd := Zyk (i := j) (show q < P.cellsOf ty by omega)
      rw [hd.1, hd.2] at this
      simp only [cells, List.getElem?_toArray]
      rw [this, List.getElem?_eq_getElem (by omega)]
      simp [Array.getElem?_eq_getElem hqv]
    · have := k3.at_ q a vs[j].cells[q] h2 (by simp [vs] at hqv ⊢)
      exact this)⟩
 · cases o7
theorem Ze6 {bx : Bool} (H1 : HR P ρ S w B h) (hB : B ≤ w.heap.size) {σ : St} {ev' : Operand → Value}
 {m t ty n len : Nat} {parts : Array (Nat × Operand)} {xs : List Opd} {rows : List (List A)} (hf : ρ m = none) (ok : Zas P t ty n len parts.toList xs = true)
 (g1 : rows.length = (parts.toList.map (·.2)).length) (g3 : ∀ (i : Nat) (row : List A) (p : Operand), rows[i]? = some row → (parts.toList.map (·.2))[i]? = some p → (row.length = n ∧ Zd row = true) ∧ (ev' p).cells.size = n ∧ RL P (inR bx ρ) S w row (ev' p).cells.toList) :
 ∃ x w', (Instr.buildSlice t len (parts.map fun (i, x) => (i, ev' x))).run P w = .ok x w' ∧
  Eff P B ρ S w (span m 1) (upd h m (some ⟨ty, rows, true, bx⟩)) (.ref ty m 0 rows.length rows.length true) x w' := by
 obtain ⟨cells, hrun, hcsz, hrow, hcell⟩ := Zf7 (σ := σ) (ρ0 := inR bx ρ) ok g1 g3
 obtain ⟨H2, M2⟩ := H1.make (b := m) hf hB ⟨ty, rows, true, bx⟩ cells rfl hrow (by show rows.length * P.cellsOf ty ≤ cells.size; rw [hcsz]; exact Nat.le_refl _) hcell
 refine ⟨_, _, hrun, ⟨_, _, M2.wide (fun b hb => by simp only [span]; omega), H2, ?_⟩⟩
 refine .ref ty m 0 rows.length rows.length true w.heap.size (P.cellsOf ty) rows.length _ (Yk _ _) rfl (Nat.le_refl _) (fun _ => rfl) (fun _ => by simp) (Nat.le_refl _) ⟨cells, ty, Z3e w _, ?_⟩
 simp [hcsz]
theorem Zuk (H : HR P ρ S w B h) (hB : B ≤ w.heap.size) {σ : St} (hσ : σ.h = h) {ev' : Operand → Value} (hget : ∀ x y, Ym x y = true → R P ρ S w (ev σ y) (ev' x))
 {m t ty n len : Nat} {parts : Array (Nat × Operand)} {xs : List Opd} {rows : List (List A)} (hf : ρ m = none) (ok : Zas P t ty n len parts.toList xs = true) (e : Z3c σ n xs = some rows) :
 ∃ x w', (Instr.buildSlice t len (parts.map fun (i, x) => (i, ev' x))).run P w = .ok x w' ∧
  Eff P B ρ S w (span m 1) (frz (upd h m (some ⟨ty, rows, true, false⟩)) (Xb σ xs)) (.ref ty m 0 rows.length rows.length true) x w' := by
 have ok' := ok
 simp only [Zas, Bool.and_eq_true, decide_eq_true_eq] at ok'
 obtain ⟨g1, g2, g3⟩ := Za6 H (S' := Xv ρ S h (Xb σ xs)) (fun _ h => .inl h) hσ hget ok'.1.2 e (Fast.frozen _)
 have hnm : m ∉ Xb σ xs := fun hm => g2 m hm hf
 rw [Zsg hnm]
 obtain ⟨x, w', hr, hq⟩ := Ze6 (bx := false) (σ := σ) (H.freeze (Xb σ xs)) hB hf ok g1 g3
 obtain ⟨ρ', S', M, H2, r⟩ := hq.ex
 exact ⟨x, w', hr, ⟨ρ', S', ((Z46 H (Xb σ xs) (fun _ => False)).trans M).wide (fun b hb => by rcases hb with hb | hb; exact hb.elim; exact hb), H2, r⟩⟩
theorem Z5s {σ : St} {n : Nat} {ev' : Operand → Value} (hget : ∀ x y, Ym x y = true → R P ρ S w (ev σ y) (ev' x)) :
 ∀ {ps : List Operand} {xs : List Opd} {rows : List (List A)}, Vt ps xs = true → Z3f σ n xs = some rows →
  rows.length = ps.length ∧ ∀ (i : Nat) (row : List A) (p : Operand), rows[i]? = some row → ps[i]? = some p → (row.length = n ∧ Zd row = true) ∧ (ev' p).cells.size = n ∧ RL P ρ S w row (ev' p).cells.toList
 | [], xs, rows, ok, e => by
   cases xs with
   | nil => simp only [Z3f, Option.some.injEq] at e; subst e; exact ⟨rfl, fun i row p h => by simp at h⟩
   | cons _ _ => simp [Vt] at ok
 | p :: ps, xs, rows, ok, e => by
   cases xs with
   | nil => simp [Vt] at ok
   | cons x xs =>
     simp only [Vt, Bool.and_eq_true] at ok
     simp only [Z3f] at e
     split at e
     · rename_i hn
       obtain ⟨rs, hrs, e2⟩ := Z3 e
       simp only [Option.some.injEq] at e2
       subst e2
       have hrx := (R.cells hn.2 (hget p x ok.1)).1
       obtain ⟨g1, g3⟩ := Z5s hget ok.2 hrs
       refine ⟨by simp [g1], fun i row p' h1 h2 => ?_⟩
       cases i with
       | zero =>
         simp at h1 h2
         subst h1; subst h2
         have l2 := hrx.len
         simp at l2
         exact ⟨hn, by omega, hrx⟩
       | succ i => exact g3 i row p' (by simpa using h1) (by simpa using h2)
     · cases e
theorem Ztt (H : HR P ρ S w B h) (hB : B ≤ w.heap.size) {σ : St} {ev' : Operand → Value} (hget : ∀ x y, Ym x y = true → R P ρ S w (ev σ y) (ev' x))
 {m t ty n len : Nat} {parts : Array (Nat × Operand)} {xs : List Opd} {rows : List (List A)} (hf : ρ m = none) (ok : Zas P t ty n len parts.toList xs = true) (e : Z3f σ n xs = some rows) :
 ∃ x w', (Instr.buildSlice t len (parts.map fun (i, x) => (i, ev' x))).run P w = .ok x w' ∧
  Eff P B ρ S w (span m 1) (upd h m (some ⟨ty, rows, true, true⟩)) (.ref ty m 0 rows.length rows.length true) x w' := by
 have ok' := ok
 simp only [Zas, Bool.and_eq_true, decide_eq_true_eq] at ok'
 obtain ⟨g1, g3⟩ := Z5s hget ok'.1.2 e
 exact Ze6 (bx := true) (σ := σ) H hB hf ok g1 g3
theorem Ze8 {σ : St} {n : Nat} : ∀ {xs : List Opd} {rows : List (List A)}, Z3o σ n xs = some rows → Z3f σ n xs = some rows ∧ ∀ row ∈ rows, ∀ x ∈ row, isV x = true
 | [], rows, e => by simp only [Z3o, Option.some.injEq] at e; subst e; exact ⟨rfl, fun r h => by simp at h⟩
 | x :: xs, rows, e => by
   simp only [Z3o] at e
   split at e
   · rename_i hn
     obtain ⟨rs, hrs, e2⟩ := Z3 e
     simp only [Option.some.injEq] at e2
     subst e2
     obtain ⟨q1, q2⟩ := Ze8 hrs
     have hc : Zd (ev σ x).cells = true := by
      rw [Yp]
      intro y hy
      have := List.all_eq_true.1 hn.2 y hy
      cases y <;> simp [isV] at this <;> rfl
     refine ⟨by simp only [Z3f, q1, bnd]; rw [if_pos ⟨hn.1, hc⟩], fun row hr y hy => ?_⟩
     rcases List.mem_cons.1 hr with rfl | hr
     · exact List.all_eq_true.1 hn.2 y hy
     · exact q2 row hr y hy
   · cases e
theorem Zsd (H : HR P ρ S w B h) (hB : B ≤ w.heap.size) {σ : St} {ev' : Operand → Value} (hget : ∀ x y, Ym x y = true → R P ρ S w (ev σ y) (ev' x))
 {t ty n len : Nat} {parts : Array (Nat × Operand)} {xs : List Opd} {rows : List (List A)} {iv : Nat → Prop} (ok : Zas P t ty n len parts.toList xs = true) (e : Z3o σ n xs = some rows) :
 ∃ x w', (Instr.buildSlice t len (parts.map fun (i, x) => (i, ev' x))).run P w = .ok x w' ∧ Eff P B ρ S w iv h (.lit ty rows) x w' := by
 have ok' := ok
 simp only [Zas, Bool.and_eq_true, decide_eq_true_eq] at ok'
 obtain ⟨e1, hv⟩ := Ze8 e
 obtain ⟨g1, g3⟩ := Z5s hget ok'.1.2 e1
 obtain ⟨cells, hrun, hcsz, hrow, hcell⟩ := Zf7 (σ := σ) (ρ0 := ρ) ok g1 g3
 have hlt : ∀ k, S k → k < w.heap.size := H.old
 have hext0 : Ext S w (w.alloc (.cells cells ty)) := Zjz S hlt cells ty
 have hsub : ∀ k, S k → S k ∨ k = w.heap.size := fun k h => .inl h
 refine ⟨_, _, hrun, ⟨ρ, fun k => S k ∨ k = w.heap.size, ⟨fun _ _ h => h, hsub, hext0, (Below.refl B w).alloc hB _, fun _ h _ => h, fun k hk => by rcases hk with hk | hk; exact .inl hk; exact .inr (by omega)⟩, ?_, ?_⟩⟩
 · refine ⟨fun b blk eb => ?_, H.inj, fun k hk => ?_, H.glob.mono hsub hext0⟩
   · rcases H.at_ b blk eb with ⟨k, sz, hb, hBR⟩ | ⟨hb, r⟩
     · have hk := H.lt eb hb
       exact .inl ⟨k, sz, hb, hBR.mono (fun _ _ h => h) hsub hext0 (fun h => by rcases h with h | h; exact h; omega) (Below.heap_alloc w _ k hk)⟩
     · exact .inr ⟨hb, r⟩
   · show k < (w.heap.push _).size
     rw [Array.size_push]
     rcases hk with hk | hk
     · have := hlt k hk; omega
     · omega
 · refine .lit ty rows (some ⟨w.heap.size, 0, none⟩) rows.length (fun i j => (cells[i * P.cellsOf ty + j]?).getD undef) (Nat.le_refl _) hrow (fun i row j x h1 h2 => ?_) (fun i row j x h1 h2 => ?_)
   · obtain ⟨y, hy, _⟩ := hcell i row j x h1 h2
     refine ⟨w.heap.size, 0, rfl, .inr rfl, ?_⟩
     have := Z3e w (.cells cells ty)
     simp only [World.cell?, this, Nat.zero_add, hy, Option.getD_some]
     rfl
   · obtain ⟨y, hy, hr⟩ := hcell i row j x h1 h2
     simp only [hy, Option.getD_some]
     have := hv row (List.mem_of_getElem? h1) x (List.mem_of_getElem? h2)
     cases x with
     | v z =>
       cases hr with
       | v _ hz => exact .v _ hz
     | _ => simp [isV] at this
end Go.Vm
end
