/- An evaluator of the translated code over an abstract heap: definitions alone. No condition. -/
import Derived.Orders
namespace Go.Proofs.Ytengccmjlaejfaa
namespace Ev

/-- What a piece of the model's monad comes to without looking at memory. -/
def pureRun (P : Program) {α : Type} : Sem α → Option α
  | .pure a => some a
  | .program k => pureRun P (k P)
  | .mark _ k => pureRun P k
  | .choose q k => bif q.forced then pureRun P (k 0) else none
  | _ => none

inductive T (α : Type) where
  | leaf
  | node (x : Option α) (l r : T α)

def T.get {α : Type} : T α → Nat → Option α
  | .leaf, _ => none
  | .node x l r, k => bif Nat.beq k 0 then x else bif Nat.beq (k % 2) 1 then l.get (k / 2) else r.get (k / 2 - 1)

def T.put {α : Type} : Nat → T α → Nat → Option α → T α
  | 0, t, _, _ => t
  | n + 1, .leaf, k, v => bif Nat.beq k 0 then .node v .leaf .leaf else bif Nat.beq (k % 2) 1 then .node none (T.put n .leaf (k / 2) v) .leaf else .node none .leaf (T.put n .leaf (k / 2 - 1) v)
  | n + 1, .node x l r, k, v => bif Nat.beq k 0 then .node v l r else bif Nat.beq (k % 2) 1 then .node x (T.put n l (k / 2) v) r else .node x l (T.put n r (k / 2 - 1) v)

def T.map {α : Type} (f : α → α) : T α → T α
  | .leaf => .leaf
  | .node x l r => .node (x.map f) (l.map f) (r.map f)

/-- The kind of a cell. -/
inductive TK where
  | int (k : IntKind)
  | str
  | bool
  | lst
/-- What stands in memory that nobody writes: one cell, or a list (f: element, cell). -/
inductive D where
  | v (x : Value)
  | l (f : Nat → Nat → D) (len : Nat) (ks : List TK)
def TK.fit : TK → D → Bool
  | .int k, .v (.int k' _) => decide (k = k')
  | .str, .v (.string _) => true
  | .bool, .v (.bool _) => true
  | .lst, .l _ _ _ => true
  | _, _ => false
def TK.beq : TK → TK → Bool
  | .int k, .int k' => decide (k = k')
  | .str, .str => true
  | .bool, .bool => true
  | .lst, .lst => true
  | _, _ => false
def ksEq : List TK → List TK → Bool
  | [], [] => true
  | a :: r, b :: s => a.beq b && ksEq r s
  | _, _ => false
def fitsD : List TK → List D → Bool
  | [], [] => true
  | k :: ks, d :: ds => k.fit d && fitsD ks ds
  | _, _ => false

/-- Abstract values: a plain value (s: one that is not known: nobody looks into it but bm); a pointer to object n, element i, cell c; a part of a row; a map; a function with what it captured; aggregates and tuples with such parts; osl: a list of one's own (nothing, or the head of a row); fz: a list in memory that nobody writes; fzp: a place in it; z0: nothing, of no capacity; xs: a list of which nothing is known. -/
inductive AV where
  | v (x : Value)
  | ptr (n i c : Nat)
  | sl (n off len : Nat) (cap : Option Nat)
  | none0 (capz : Bool)
  | mp (n : Nat)
  | fn (f : FuncId) (cs : List AV)
  | agg (cs : List AV)
  | tup (cs : List AV)
  | yld (n : Nat)
  | s (x : Value)
  | osl (n len : Nat)
  | fz (f : Nat → Nat → D) (len : Nat) (ks : List TK)
  | fzp (f : Nat → Nat → D) (len : Nat) (ks : List TK) (i c : Nat)
  | z0
  | xs

def D.av : D → AV
  | .v x => .s x
  | .l f len ks => .fz f len ks

inductive Ex where
  | normal | exit (id : Nat) | goto (l : Nat) | ret

/-- Cells; a map; the record of a loop over a function; a row of one's own whose length is not known. -/
inductive AO where
  | cells (cs : List AV) (sz fam : Nat) (tip shared : Bool)
  | map (es : List (Value × Nat × AV)) (clock : Nat)
  | loop (st : LoopState) (e : T AV) (ps : List Tmp) (asg body : Code) (pe : Option Ex)
  | rows (f : Nat → Nat → D) (len : Nat) (ks : List TK)

structure Hp where
  ob : T AO
  nx : Nat
  lg : List Nat

def AV.plain? : AV → Option Value
  | .v x => some x
  | .fn f [] => some (.func (.func f) #[] #[])
  | _ => none

def plains : List AV → Option (List Value)
  | [] => some []
  | x :: xs => match x.plain?, plains xs with
    | some y, some ys => some (y :: ys)
    | _, _ => none

mutual
/-- The value, known or not. -/
def unP : AV → Option Value
  | .v x => some x
  | .s x => some x
  | .agg cs => (unPs cs).map fun ys => .agg ys.toArray
  | .tup cs => (unPs cs).map fun ys => .tuple ys.toArray
  | .fn f cs => match cs with
    | [] => some (.func (.func f) #[] #[])
    | _ => none
  | _ => none
def unPs : List AV → Option (List Value)
  | [] => some []
  | x :: xs => match unP x, unPs xs with
    | some y, some ys => some (y :: ys)
    | _, _ => none
end

def mkAgg (cs : List AV) : AV := match plains cs with | some ys => .v (.agg ys.toArray) | none => .agg cs
def mkTup (cs : List AV) : AV := match plains cs with | some ys => .v (.tuple ys.toArray) | none => .tup cs

/-- The value of one cell? -/
def AV.cell : AV → Bool
  | .v (.agg _) => false
  | .v (.tuple _) => false
  | .s (.agg _) => false
  | .s (.tuple _) => false
  | .agg _ => false
  | .tup _ => false
  | _ => true

def AV.cells : AV → List AV
  | .v (.agg a) => a.toList.map .v
  | .s (.agg a) => a.toList.map .s
  | .agg cs => cs
  | x => [x]

def Hp.put (h : Hp) (n : Nat) (o : AO) : Hp := { h with ob := T.put (n + 2) h.ob n (some o) }
def Hp.new (h : Hp) (o : AO) : Hp := { h with ob := T.put (h.nx + 2) h.ob h.nx (some o), nx := h.nx + 1 }
def Hp.log (h : Hp) (n : Nat) : Hp := { h with lg := n :: h.lg }
def Hp.set (h : Hp) (n : Nat) (o : AO) : Hp := (h.put n o).log n
def Hp.fresh (h : Hp) (cs : List AV) (sz : Nat) : Hp := h.new (.cells cs sz h.nx true false)
def killO (fam : Nat) : AO → AO
  | .cells cs sz f tip sh => bif Nat.beq f fam then .cells [] sz f false true else .cells cs sz f tip sh
  | o => o
def Hp.kill (h : Hp) (fam : Nat) : Hp := { h with ob := h.ob.map (killO fam) }

def szOf (P : Program) (t : TypeId) : Option Nat := (P.info? t).map (·.size)
def aggT (P : Program) (t : TypeId) : Option Bool := match P.underlying t with
  | some (.struct _) | some (.array _ _) => some true
  | some _ => some false
  | none => none
def zeroOf (P : Program) (t : TypeId) : Option (List AV) := match P.info? t with
  | some i => match i.zero with
    | some z => some (z.cells.toList.map .v)
    | none => none
  | none => none

/-- n cells from a place on. -/
def window (cs : List AV) (p n : Nat) : Option (List AV) := bif Nat.ble (p + n) cs.length then some ((cs.drop p).take n) else none
def splice (cs : List AV) (p : Nat) (ys : List AV) : List AV := cs.take p ++ ys ++ cs.drop (p + ys.length)

/-- The cells of an element. -/
def cellsD (g : Nat → D) : Nat → Nat → List AV
  | _, 0 => []
  | c, n + 1 => (g c).av :: cellsD g (c + 1) n
def loadD (P : Program) (t : TypeId) (f : Nat → Nat → D) (ks : List TK) (i c : Nat) : Option AV := match szOf P t, aggT P t with
  | some k, some g => bif g then (window (cellsD (f i) 0 ks.length) c k).map mkAgg else (cellsD (f i) 0 ks.length)[c]?
  | _, _ => none
def loadA (P : Program) (t : TypeId) (x : AV) (h : Hp) : Option AV :=
  match x with
  | .ptr n i c => match h.ob.get n, szOf P t, aggT P t with
    | some (.cells cs sz _ _ _), some k, some g =>
      bif g then (window cs (i * sz + c) k).map mkAgg else cs[i * sz + c]?
    | _, _, _ => none
  | .fzp f _ ks i c => loadD P t f ks i c
  | _ => none

def storeA (P : Program) (t : TypeId) (x y : AV) (h : Hp) : Option Hp :=
  match x with
  | .ptr n i c => match h.ob.get n, szOf P t with
    | some (.cells cs sz fam tip sh), some k =>
      let ys := y.cells
      bif Nat.beq ys.length k && Nat.ble (i * sz + c + k) cs.length && ys.all AV.cell then
        let h' := bif sh then h.kill fam else h
        some ((h'.put n (.cells (splice cs (i * sz + c) ys) sz fam tip sh)).log n)
      else none
    | _, _ => none
  | _ => none

def fieldA (P : Program) (t : TypeId) (x : AV) (f : Nat) : Option AV :=
  match x, P.underlying t with
  | .ptr n i c, some (.struct fs) => match fs[f]? with
    | some fd => match szOf P fd.type with
      | some (_ + 1) => some (.ptr n i (c + fd.offset))
      | _ => none
    | none => none
  | .fzp g len ks i c, some (.struct fs) => match fs[f]? with
    | some fd => match szOf P fd.type with
      | some (_ + 1) => some (.fzp g len ks i (c + fd.offset))
      | _ => none
    | none => none
  | _, _ => none

def szObj (h : Hp) (n k : Nat) : Bool := match h.ob.get n with
  | some (.cells _ sz _ _ _) => Nat.beq sz k
  | _ => false

def indexAddrA (P : Program) (t : TypeId) (x ix : AV) (h : Hp) : Option AV :=
  match x, ix, P.underlying t with
  | .sl n off len _, .v (.int _ j), some (.slice e) => match szOf P e with
    | some k => bif szObj h n k && (decide (0 ≤ j) && decide (j < len)) then some (.ptr n (off + j.toNat) 0) else none
    | none => none
  | .sl n off len _, .s (.int _ j), some (.slice e) => match szOf P e with
    | some k => bif szObj h n k && (decide (0 ≤ j) && decide (j < len)) then some (.ptr n (off + j.toNat) 0) else none
    | none => none
  | .ptr n i c, .v (.int _ j), some (.array len e) => match szOf P e with
    | some k => bif decide (0 ≤ j) && decide (j < len) then some (.ptr n i (c + j.toNat * k)) else none
    | none => none
  | .fzp f len ks i c, .v (.int _ j), some (.array m e) => match szOf P e with
    | some k => bif decide (0 ≤ j) && decide (j < m) then some (.fzp f len ks i (c + j.toNat * k)) else none
    | none => none
  | _, _, _ => none

def boundA (d : Nat) (ρ : Operand → AV) : Option Operand → Option Nat
  | none => some d
  | some x => match ρ x with
    | .v (.int _ j) => bif decide (0 ≤ j) then some j.toNat else none
    | .s (.int _ j) => bif decide (0 ≤ j) then some j.toNat else none
    | _ => none

/-- A part of a part of a row. -/
def sliceA (P : Program) (t : TypeId) (x : AV) (l hh : Nat) (mx : Option Nat) (h : Hp) : Option AV :=
  match P.underlying t with
  | some (.slice e) => match szOf P e with
    | some k => match x with
      | .sl n off len cap =>
        bif szObj h n k && Nat.ble l hh && Nat.ble hh len then
          match mx with
          | none => bif Nat.beq l 0 || Nat.blt l hh then some (.sl n (off + l) (hh - l) (cap.map (· - l))) else some (.none0 false)
          | some m => bif Nat.ble hh m && Nat.ble m len then
              bif Nat.blt l m || Nat.beq l 0 then some (.sl n (off + l) (hh - l) (some (m - l))) else some (.none0 true)
            else none
        else none
      | .v (.slice none 0 0) => bif Nat.beq l 0 && Nat.beq hh 0 && Nat.beq (mx.getD 0) 0 then some x else none
      | .none0 z => bif Nat.beq l 0 && Nat.beq hh 0 && Nat.beq (mx.getD 0) 0 then some (.none0 (z || mx.isSome)) else none
      | .osl _ _ => match mx with
        | some 0 => bif Nat.beq l 0 && Nat.beq hh 0 then some .z0 else none
        | _ => none
      | .fz _ _ _ => match mx with
        | some 0 => bif Nat.beq l 0 && Nat.beq hh 0 then some .z0 else none
        | _ => none
      | .z0 => bif Nat.beq l 0 && Nat.beq hh 0 && Nat.beq (mx.getD 0) 0 then some .z0 else none
      | _ => none
    | none => none
  | _ => none

/-- The cells of a slice. -/
def rowA (h : Hp) (sz : Nat) (x : AV) : Option (List AV) :=
  match x with
  | .v (.slice none 0 0) => some []
  | .none0 _ => some []
  | .sl n off len _ => match h.ob.get n with
    | some (.cells cs sz' _ _ _) => bif Nat.beq sz sz' then window cs (off * sz) (len * sz) else none
    | _ => none
  | _ => none
def lenA (x : AV) : Option Nat :=
  match x with
  | .v (.slice none 0 0) => some 0
  | .none0 _ => some 0
  | .sl _ _ len _ => some len
  | .osl _ len => some len
  | .fz _ len _ => some len
  | .z0 => some 0
  | _ => none

def small (n : Nat) : Bool := Nat.ble n 1073741824

def appendA (P : Program) (st : TypeId) (s x : AV) (h : Hp) : Option (AV × Hp) :=
  match P.underlying st with
  | some (.slice e) => match P.info? e, lenA x with
    | some inf, some m => match rowA h inf.size x, rowA h inf.size s, zeroOf P e with
      | some new, some old, some z =>
        bif Nat.beq m 0 then some (s, h) else
        bif (Nat.beq z.length inf.size && new.all AV.cell) && (small (m + (lenA s).getD 0) && small (inf.bytes * (m + (lenA s).getD 0))) then
          match s with
          | .sl n off len cap => match h.ob.get n, cap with
            | some (.cells cs sz fam tip _), none =>
              bif tip && Nat.beq ((off + len) * sz) cs.length then
                some (.sl h.nx 0 (len + m) none, ((h.put n (.cells cs sz fam false true)).log n).new (.cells (old ++ new) sz fam true true))
              else none
            | some (.cells _ sz _ _ _), some k =>
              bif Nat.blt k (len + m) then some (.sl h.nx 0 (len + m) none, h.fresh (old ++ new) sz) else none
            | _, _ => none
          | .v (.slice none 0 0) => some (.sl h.nx 0 m none, h.fresh new inf.size)
          | .none0 true => some (.sl h.nx 0 m none, h.fresh new inf.size)
          | _ => none
        else none
      | _, _, _ => none
    | _, _ => none
  | _ => none

inductive Stp where
  | val (v : AV) (h : Hp)
  | call (f : FuncId) (args : List AV) (h : Hp)
  | yield (n : Nat) (args : List AV) (h : Hp)

/-- An operation on plain values. -/
def pureA (P : Program) (s : Sem Value) (h : Hp) : Option Stp := (pureRun P s).map fun v => .val (.v v) h
/-- The same on values that are not known. -/
def pureS (P : Program) (s : Sem Value) (h : Hp) : Option Stp := (pureRun P s).map fun v => .val (.s v) h
def partA (P : Program) (t : TypeId) (xs : Array Value) (off : Nat) : Option Value := match aggT P t with
  | some true => (szOf P t).map fun k => .agg (xs.extract off (off + k))
  | some false => xs[off]?
  | none => none
def eqFs (P : Program) (q : TypeId → Value → Value → Option Bool) (xs ys : Array Value) : List Field → Option Bool
  | [] => some true
  | f :: r => bif f.name == "_" then eqFs P q xs ys r else match partA P f.type xs f.offset, partA P f.type ys f.offset with
    | some a, some b => match q f.type a b, eqFs P q xs ys r with
      | some p, some s => some (p && s)
      | _, _ => none
    | _, _ => none
def eqIs (q : Value → Value → Option Bool) (part : Nat → Option (Value × Value)) : List Nat → Option Bool
  | [] => some true
  | i :: r => match part i with
    | some (a, b) => match q a b, eqIs q part r with
      | some p, some s => some (p && s)
      | _, _ => none
    | none => none
def pairA (P : Program) (e : TypeId) (xs ys : Array Value) (i : Nat) : Option (Value × Value) := match P.info? e with
  | some _ => match partA P e xs (i * P.cellsOf e), partA P e ys (i * P.cellsOf e) with
    | some a, some b => some (a, b)
    | _, _ => none
  | none => none
/-- Are two values the same? (Numbers, texts, truths, and structs of them.) -/
def eqA (P : Program) : Nat → TypeId → Value → Value → Option Bool
  | 0, _, _, _ => none
  | d + 1, t, x, y => match P.underlying t, x, y with
    | some .bool, .bool a, .bool b => some (a == b)
    | some (.int _), .int k a, .int k' b => bif decide (k = k') then some (a == b) else none
    | some .string, .string a, .string b => some (a.toList == b.toList)
    | some (.struct fs), .agg xs, .agg ys => bif P.stoodInHeld t then none else eqFs P (eqA P d) xs ys fs.toList
    | some (.array n e), .agg xs, .agg ys => bif (P.info? e).isSome then eqIs (eqA P d e) (pairA P e xs ys) (List.range n) else none
    | _, _, _ => none
/-- An operation of two values that are not known. -/
def binS (P : Program) (op : BinOp) (t : TypeId) (x y : Operand) (a b : Value) (h : Hp) : Option Stp := match a, b with
  | .agg xs, .agg ys => bif P.eqGuardType P.depth t then none else match op, eqA P 10000 t (.agg xs) (.agg ys) with
    | .eql, some r => some (.val (.s (.bool r)) h)
    | .neq, some r => some (.val (.s (.bool (!r))) h)
    | _, _ => none
  | a, b => pureS P (do eqGuard op t x y a b; binOp op t a b) h

def fillA (place : Nat → Option (Nat × Nat)) (cs : List AV) : List (Nat × AV) → Option (List AV)
  | [] => some cs
  | (i, x) :: r => match place i with
    | some (off, size) => let ys := x.cells
      bif Nat.beq ys.length size && Nat.ble (off + size) cs.length then fillA place (splice cs off ys) r else none
    | none => none

def placesA (P : Program) (fs : List Field) : Option (List (Nat × Nat)) := match fs with
  | [] => some []
  | f :: r => match szOf P f.type, placesA P r with
    | some k, some l => some ((f.offset, k) :: l)
    | _, _ => none

def buildA (P : Program) (t : TypeId) (parts : List (Nat × AV)) : Option AV :=
  match zeroOf P t, P.underlying t with
  | some z, some (.struct fs) => match placesA P fs.toList with
    | some pl => (fillA (pl[·]?) z parts).map mkAgg
    | none => none
  | some z, some (.array _ e) => match szOf P e with
    | some k => (fillA (fun i => some (i * k, k)) z parts).map mkAgg
    | none => none
  | _, _ => none

def repeatA (z : List AV) : Nat → List AV
  | 0 => []
  | n + 1 => z ++ repeatA z n

def buildSliceA (P : Program) (t : TypeId) (len : Nat) (parts : List (Nat × AV)) (h : Hp) : Option (AV × Hp) :=
  match P.underlying t with
  | some (.slice e) => match szOf P e, zeroOf P e with
    | some k, some z =>
      bif Nat.ble (len * k) 16777216 && Nat.beq z.length k then
        (fillA (fun i => some (i * k, k)) (repeatA z len) parts).map fun cs => (.sl h.nx 0 len (some len), h.fresh cs k)
      else none
    | _, _ => none
  | _ => none

/-- make([]T, l, c). -/
def makeSliceA (P : Program) (t : TypeId) (l c : AV) (h : Hp) : Option (AV × Hp) :=
  match P.underlying t with
  | some (.slice e) => match P.info? e, zeroOf P e, l, c with
    | some i, some z, .v (.int _ l), .v (.int _ c) =>
      bif (decide (0 ≤ l) && decide (l ≤ c)) && (decide ((i.bytes : Int) * c ≤ 281474976710656) && decide (c ≤ 9223372036854775807)) && Nat.beq z.length i.size then
        some (.sl h.nx 0 l.toNat (some c.toNat), h.fresh (repeatA z c.toNat) i.size)
      else none
    | _, _, _, _ => none
  | _ => none

def AV.isAgg : AV → Bool
  | .v (.agg _) => true
  | .s (.agg _) => true
  | .agg _ => true
  | _ => false
def fieldVA (P : Program) (t : TypeId) (x : AV) (f : Nat) : Option AV :=
  match P.underlying t with
  | some (.struct fs) => match fs[f]? with
    | some fd => match szOf P fd.type, aggT P fd.type with
      | some k, some g => bif x.isAgg then (bif g then (window x.cells fd.offset k).map mkAgg else x.cells[fd.offset]?) else none
      | _, _ => none
    | none => none
  | _ => none

def eqNil (d : TypeDesc) (neg : Bool) (x y : AV) : Option Value :=
  let r : Option Bool := match d, x, y with
    | .pointer _, .ptr _ _ _, .v (.pointer none) => some false
    | .pointer _, .v (.pointer none), .ptr _ _ _ => some false
    | .slice _, .sl _ _ _ _, .v (.slice none _ _) => some false
    | .slice _, .v (.slice none _ _), .sl _ _ _ _ => some false
    | .slice _, .none0 _, .v (.slice none _ _) => some false
    | .slice _, .v (.slice none _ _), .none0 _ => some false
    | .slice _, .fz _ (_ + 1) _, .v (.slice none _ _) => some false
    | .slice _, .v (.slice none _ _), .fz _ (_ + 1) _ => some false
    | .map _ _, .mp _, .v (.map none) => some false
    | .map _ _, .v (.map none), .mp _ => some false
    | .func _ _ _, .fn _ _, .v .nilFunc => some false
    | .func _ _ _, .v .nilFunc, .fn _ _ => some false
    | _, _, _ => none
  r.map fun b => .bool (b != neg)

def noIntB (P : Program) (ts : Array TypeId) : Bool := match ts[1]? with
  | none => true
  | some x => match P.underlying x with
    | some (.int _) => false
    | some _ => true
    | none => false

/- Maps: keys are plain values; the entries as they came. -/
abbrev ME := Value × Nat × AV
def findNowA (d : TypeDesc) (k : Value) : List ME → Nat → Option (Option (Nat × AV))
  | [], _ => some none
  | e :: es, i => match Instr.sameNow d k e.1 with
    | some true => some (some (i, e.2.2))
    | some false => findNowA d k es (i + 1)
    | none => none
def findAskA (P : Program) (kt : TypeId) (k : Value) : List ME → Nat → Option (Option (Nat × AV))
  | [], _ => some none
  | e :: es, i => match pureRun P (Op.equal kt k e.1) with
    | some true => some (some (i, e.2.2))
    | some false => findAskA P kt k es (i + 1)
    | none => none
def findKeyA (P : Program) (kt : TypeId) (k : Value) (es : List ME) : Option (Option (Nat × AV)) := match P.underlying kt with
  | some d => match findNowA d k es 0 with
    | some r => some r
    | none => findAskA P kt k es 0
  | none => none
def mapES (x : AV) (h : Hp) : Option (List ME) := match x with
  | .mp n => match h.ob.get n with
    | some (.map es _) => some es
    | _ => none
  | .v (.map none) => some []
  | _ => none
def zeroVA (P : Program) (t : TypeId) : Option Value := match P.info? t with
  | some i => i.zero
  | none => none
/-- What lies at a key: the key is one. -/
def lookA (P : Program) (kt : TypeId) (mt : Bool) (k : Value) (es : List ME) : Option (Option (Nat × AV)) := match pureRun P (Instr.checkKey mt 10000 kt k) with
  | some _ => findKeyA P kt k es
  | none => none
def lookupA (P : Program) (xt : TypeId) (x ix : AV) (ok : Bool) (h : Hp) : Option AV := match P.underlying xt with
  | some (.map kt et) => match mapES x h, ix.plain? with
    | some es, some k => match lookA P kt es.isEmpty k es with
      | some (some (_, v)) => some (bif ok then mkTup [v, .v (.bool true)] else v)
      | some none => (zeroVA P et).map fun z => bif ok then mkTup [.v z, .v (.bool false)] else .v z
      | none => none
    | _, _ => none
  | _ => none
def mapSetA (P : Program) (mt : TypeId) (m k v : AV) (h : Hp) : Option Hp := match P.underlying mt with
  | some (.map kt _) => match m, k.plain? with
    | .mp n, some k => match h.ob.get n with
      | some (.map es clk) => match lookA P kt false k es with
        | some (some (i, _)) => match es[i]? with
          | some (k0, b, _) => match pureRun P (Instr.keyThatStays k0 k) with
            | some k' => some (h.set n (.map (es.set i (k', b, v)) clk))
            | none => none
          | none => none
        | some none => some (h.set n (.map (es ++ [(k, clk, v)]) (clk + 1)))
        | none => none
      | _ => none
    | _, _ => none
  | _ => none
/-- 'm[k] op= v': the entry is looked for, or made. -/
def mapEntA (P : Program) (mt : TypeId) (m k : AV) (h : Hp) : Option (AV × Hp) := match P.underlying mt with
  | some (.map kt et) => match m, k.plain? with
    | .mp n, some k => match h.ob.get n with
      | some (.map es clk) => match lookA P kt false k es with
        | some (some (i, v)) => match es[i]? with
          | some (k0, b, v') => match pureRun P (Instr.keyThatStays k0 k) with
            | some k' => some (mkTup [v, .v (goInt b)], h.set n (.map (es.set i (k', b, v')) clk))
            | none => none
          | none => none
        | some none => (zeroVA P et).map fun z => (mkTup [.v z, .v (goInt clk)], h.set n (.map (es ++ [(k, clk, .v z)]) (clk + 1)))
        | none => none
      | _ => none
    | _, _ => none
  | _ => none
def entSetA (m b v : AV) (h : Hp) : Option Hp := match m, b with
  | .mp n, .v (.int _ j) => match h.ob.get n with
    | some (.map es clk) => match es.findIdx? (fun e => decide ((e.2.1 : Int) = j)) with
      | some i => match es[i]? with
        | some (k0, b0, _) => some (h.set n (.map (es.set i (k0, b0, v)) clk))
        | none => none
      | none => none
    | _ => none
  | _, _ => none
def mapDelA (P : Program) (mt : TypeId) (m k : AV) (h : Hp) : Option Hp := match P.underlying mt with
  | some (.map kt _) => match m, k.plain? with
    | .mp n, some k => match h.ob.get n with
      | some (.map es clk) => match lookA P kt es.isEmpty k es with
        | some (some (i, _)) => some (h.set n (.map (es.eraseIdx i) clk))
        | some none => some (h.set n (.map es clk))
        | none => none
      | _ => none
    | _, _ => none
  | _ => none

def builtinA (P : Program) (b : Builtin) (ts : Array TypeId) (t : TypeId) (cn : Array Bool) (args : List AV) (h : Hp) : Option Stp :=
  match b, args with
  | .append, [s, x] => match ts[0]? with
    | some st => bif noIntB P ts then (appendA P st s x h).map fun (v, h') => .val v h' else none
    | none => none
  | .len, [.sl _ _ len _] => match (ts[0]?).bind P.underlying with
    | some (.slice _) => some (.val (.v (goInt len)) h)
    | _ => none
  | .len, [.osl _ len] => match (ts[0]?).bind P.underlying with
    | some (.slice _) => some (.val (.s (goInt len)) h)
    | _ => none
  | .len, [.fz _ len _] => match (ts[0]?).bind P.underlying with
    | some (.slice _) => some (.val (.s (goInt len)) h)
    | _ => none
  | .len, [.z0] => match (ts[0]?).bind P.underlying with
    | some (.slice _) => some (.val (.v (goInt 0)) h)
    | _ => none
  | .len, [.none0 _] => match (ts[0]?).bind P.underlying with
    | some (.slice _) => some (.val (.v (goInt 0)) h)
    | _ => none
  | .len, [.mp n] => match (ts[0]?).bind P.underlying with
    | some (.map _ _) => match h.ob.get n with
      | some (.map es _) => some (.val (.v (goInt es.length)) h)
      | _ => none
    | _ => none
  | .delete, [.mp n, k] => match ts[0]? with
    | some mt => (mapDelA P mt (.mp n) k h).map fun h' => .val (.v (.tuple #[])) h'
    | none => none
  | _, _ => match plains args with
    | some vs => match pureRun P (builtin b ts t cn vs.toArray) with
      | some (.value v) => some (.val (.v v) h)
      | _ => none
    | none => match unPs args with
      | some vs => match pureRun P (builtin b ts t cn vs.toArray) with
        | some (.value v) => some (.val (.s v) h)
        | _ => none
      | none => none

def bytesL : List AV → Option (List Int)
  | [] => some []
  | .v (.int .u8 n) :: r => (bytesL r).map (n :: ·)
  | _ :: _ => none
def strA (ns : List Int) : ByteArray := ⟨(ns.map fun n => UInt8.ofNat n.toNat).toArray⟩
/-- Bytes to a string. -/
def bytesA (P : Program) (s d : TypeId) (x : AV) (h : Hp) : Option Value :=
  match P.underlying s, P.underlying d with
  | some (.slice e), some .string => match P.underlying e, rowA h 1 x with
    | some (.int .u8), some cs => (bytesL cs).map fun ns => .string (strA ns)
    | _, _ => none
  | _, _ => none

/- Operations on lists whose length is not known: what must hold, and what comes then. -/
def intA : AV → Option Int
  | .v (.int _ j) => some j
  | .s (.int _ j) => some j
  | _ => none
def AV.d : AV → Option D
  | .v x => some (.v x)
  | .s x => some (.v x)
  | .fz f n ks => some (.l f n ks)
  | _ => none
def avDs : List AV → Option (List D)
  | [] => some []
  | x :: xs => match x.d, avDs xs with
    | some y, some ys => some (y :: ys)
    | _, _ => none
def updD (f : Nat → Nat → D) (i c : Nat) (ds : List D) : Nat → Nat → D := fun j d => bif Nat.beq j i && (Nat.ble c d && Nat.blt d (c + ds.length)) then ds.getD (d - c) (.v undef) else f j d
def catD (f : Nat → Nat → D) (len : Nat) (g : Nat → Nat → D) : Nat → Nat → D := fun i c => bif Nat.blt i len then f i c else g (i - len) c
def shiftD (f : Nat → Nat → D) (l : Nat) : Nat → Nat → D := fun i c => f (i + l) c
/-- The elements of a closed row. -/
def fitsRows (ks : List TK) : Nat → List D → Bool
  | 0, ds => ds.isEmpty
  | n + 1, ds => fitsD ks (ds.take ks.length) && fitsRows ks n (ds.drop ks.length)
def listD (ds : List D) (k : Nat) : Nat → Nat → D := fun i c => ds.getD (i * k + c) (.v undef)
def srcD (h : Hp) (ks : List TK) (x : AV) : Option (Bool × (Nat → Nat → D) × Nat) := match x with
  | .fz f len ks' => bif ksEq ks ks' then some (true, f, len) else none
  | .osl n len => match h.ob.get n with
    | some (.rows f len' ks') => bif ksEq ks ks' then some (Nat.ble len len', f, len) else none
    | _ => none
  | .sl n off len cap => match rowA h ks.length (.sl n off len cap) with
    | some cs => match avDs cs with
      | some ds => bif fitsRows ks len ds then some (true, listD ds ks.length, len) else none
      | none => none
    | none => none
  | _ => none
/-- Nothing, of no capacity? -/
def AV.emp : AV → Bool
  | .z0 => true
  | .v (.slice none 0 0) => true
  | .none0 true => true
  | .sl _ _ 0 (some 0) => true
  | _ => false
def Hp.drop (h : Hp) (n : Nat) : Hp := { h with ob := T.put (n + 2) h.ob n none, lg := n :: h.lg }
def appendR (P : Program) (st : TypeId) (s x : AV) (h : Hp) : Option (Bool × Option (AV × Hp)) :=
  match P.underlying st with
  | some (.slice e) => match P.info? e, zeroOf P e with
    | some inf, some z => match s with
      | .osl n len => match h.ob.get n with
        | some (.rows f len' ks) => match srcD h ks x with
          | some (b, g, m) => bif Nat.beq z.length inf.size && Nat.beq ks.length inf.size then
              some (Nat.beq len len' && (b && (small (m + len) && small (inf.bytes * (m + len)))), some (.osl h.nx (len + m), (h.drop n).new (.rows (catD f len g) (len + m) ks)))
            else none
          | none => none
        | _ => none
      | s => bif s.emp then (match x with
        | .fz f m ks => bif Nat.beq z.length inf.size && Nat.beq ks.length inf.size then some (small m && small (inf.bytes * m), some (.osl h.nx m, h.new (.rows f m ks))) else none
        | .osl n m => match h.ob.get n with
          | some (.rows f len' ks) => bif Nat.beq z.length inf.size && Nat.beq ks.length inf.size then some (Nat.ble m len' && (small m && small (inf.bytes * m)), some (.osl h.nx m, h.new (.rows f m ks))) else none
          | _ => none
        | _ => none) else none
    | _, _ => none
  | _ => none
def strB : AV → Option ByteArray
  | .v (.string s) => some s
  | .s (.string s) => some s
  | _ => none
def AV.isS : AV → Bool
  | .s _ => true
  | _ => false
def optS (ρ : Operand → AV) : Option Operand → Bool
  | none => false
  | some x => (ρ x).isS
def intK : AV → Option (IntKind × Int)
  | .v (.int k z) => some (k, z)
  | .s (.int k z) => some (k, z)
  | _ => none
def byteAt (s : ByteArray) (k : Nat) : Int := ((s.data.getD k 0).toNat : Int)
/-- Texts that are not known. -/
def openS (P : Program) (ρ : Operand → AV) (o : Oper) (h : Hp) : Option (Bool × Option (AV × Hp)) := match o.op with
  | .index t x i => match P.underlying t, strB (ρ x), intA (ρ i) with
    | some .string, some s, some j => bif (ρ x).isS || (ρ i).isS then some (decide (0 ≤ j) && decide (j < s.size), some (.s (.int .u8 (byteAt s j.toNat)), h)) else none
    | _, _, _ => none
  | .slice t x lo hi none => match P.underlying t, strB (ρ x) with
    | some .string, some s => bif (ρ x).isS || (optS ρ lo || optS ρ hi) then (match (match lo with
        | none => some (0 : Int)
        | some l => intA (ρ l)), (match hi with
        | none => some (s.size : Int)
        | some hi => intA (ρ hi)) with
      | some l, some j => some ((decide (0 ≤ l) && decide (l ≤ j)) && decide (j ≤ s.size), some (.s (.string (s.extract l.toNat j.toNat)), h))
      | _, _ => none) else none
    | _, _ => none
  | .binOp op _ x y _ => match op with
    | .add => match strB (ρ x), strB (ρ y) with
      | some a, some b => bif (ρ x).isS || (ρ y).isS then some (decide ((a.size + b.size : Int) ≤ 9223372036854775807), some (.s (.string (a ++ b)), h)) else none
      | _, _ => none
    | .rem => match intK (ρ x), intK (ρ y) with
      | some (k, a), some (k', b) => bif (ρ y).isS && decide (k = k') then some (decide (b ≠ 0), some (.s (.int k (a.tmod b)), h)) else none
      | _, _ => none
    | .quo => match intK (ρ x), intK (ρ y) with
      | some (k, a), some (k', b) => bif (ρ y).isS && decide (k = k') then some (decide (b ≠ 0), some (.s (.int k (k.wrap (a.tdiv b))), h)) else none
      | _, _ => none
    | _ => none
  | _ => none
def tkOf : Value → Option TK
  | .int k _ => some (.int k)
  | .string _ => some .str
  | .bool _ => some .bool
  | _ => none
def AV.isFz : AV → Bool
  | .fz _ _ _ => true
  | _ => false
/-- Does a block hold a list of memory that nobody writes? (Then the heap is an open one.) -/
def opn (h : Hp) : Nat → Bool
  | 0 => false
  | k + 1 => (match h.ob.get (65536 + k) with
    | some (.cells cs _ _ _ _) => cs.any AV.isFz
    | _ => false) || opn h k
def openL (P : Program) (ρ : Operand → AV) (o : Oper) (h : Hp) : Option (Bool × Option (AV × Hp)) := match o.op with
  | .load t a => match ρ a with
    | .ptr n i c => match h.ob.get n with
      | some (.rows f len ks) => some (Nat.blt i len, (loadD P t f ks i c).map fun v => (v, h))
      | _ => none
    | _ => none
  | .store t a x => match ρ a with
    | .ptr n i c => match h.ob.get n with
      | some (.rows f len ks) => some (Nat.blt i len, match szOf P t, avDs (ρ x).cells with
        | some k, some ds => bif Nat.beq ds.length k && fitsD ((ks.drop c).take k) ds then some (.v undef, h.set n (.rows (updD f i c ds) len ks)) else none
        | _, _ => none)
      | _ => none
    | _ => none
  | .indexAddr t x i => match P.underlying t, intA (ρ i) with
    | some (.slice e), some j => match szOf P e with
      | some k => match ρ x with
        | .osl n len => match h.ob.get n with
          | some (.rows _ _ ks) => bif Nat.beq ks.length k then some (decide (0 ≤ j) && decide (j < len), some (.ptr n j.toNat 0, h)) else none
          | _ => none
        | .fz f len ks => bif Nat.beq ks.length k then some (decide (0 ≤ j) && decide (j < len), some (.fzp f len ks j.toNat 0, h)) else none
        | _ => none
      | none => none
    | _, _ => none
  | .slice t x lo hi none => match P.underlying t with
    | some (.slice e) => match szOf P e, (match lo with
        | none => some (0 : Int)
        | some l => intA (ρ l)) with
      | some k, some l => match ρ x with
        | .osl n len => match lo, hi with
          | none, some hi => match intA (ρ hi), h.ob.get n with
            | some j, some (.rows _ _ ks) => bif Nat.beq ks.length k then some (decide (0 ≤ j) && decide (j ≤ len), some (.osl n j.toNat, h)) else none
            | _, _ => none
          | none, none => some (true, some (.osl n len, h))
          | _, _ => none
        | .fz f len ks => match (match hi with
            | none => some (len : Int)
            | some hi => intA (ρ hi)) with
          | some j => bif Nat.beq ks.length k then some ((decide (0 ≤ l) && decide (l ≤ j)) && decide (j ≤ len), some (.fz (shiftD f l.toNat) (j - l).toNat ks, h)) else none
          | none => none
        | _ => none
      | _, _ => none
    | _ => none
  | .makeSlice t l c => match P.underlying t, intA (ρ l), intA (ρ c) with
    | some (.slice e), some j, some k => match P.info? e, zeroOf P e with
      | some i, some [.v x] => match tkOf x with
        | some tk => bif ((ρ l).isS && opn h (h.nx - 65536)) && Nat.beq i.size 1 then
            some ((decide (0 ≤ j) && decide (j = k)) && (small j.toNat && small (i.bytes * j.toNat)), some (.osl h.nx j.toNat, h.new (.rows (fun _ _ => .v x) j.toNat [tk]))) else none
        | none => none
      | _, _ => none
    | _, _, _ => none
  | .call c => match c.callee with
    | .builtin .append => match c.args.toList.map ρ, c.argTypes[0]? with
      | [s, x], some st => bif noIntB P c.argTypes then appendR P st s x h else none
      | _, _ => none
    | _ => none
  | _ => none
def openA (P : Program) (ρ : Operand → AV) (o : Oper) (h : Hp) : Option (Bool × Option (AV × Hp)) := match openS P ρ o h with
  | some r => some r
  | none => openL P ρ o h

def aopC (P : Program) (ρ : Operand → AV) (o : Oper) (h : Hp) : Option Stp :=
  match o.op with
  | .move x | .assign x => some (.val (ρ x) h)
  | .pick c a b => match ρ c with
    | .v (.bool t) => some (.val (bif t then ρ a else ρ b) h)
    | .s (.bool t) => some (.val (bif t then ρ a else ρ b) h)
    | _ => none
  | .alloc t => (zeroOf P t).map fun z => .val (.ptr h.nx 0 0) (h.fresh z z.length)
  | .box _ x => some (.val (.ptr h.nx 0 0) (h.fresh (ρ x).cells (ρ x).cells.length))
  | .build t ps => (buildA P t (ps.toList.map fun (i, x) => (i, ρ x))).map fun v => .val v h
  | .buildSlice t n ps => (buildSliceA P t n (ps.toList.map fun (i, x) => (i, ρ x)) h).map fun (v, h') => .val v h'
  | .makeSlice t l c => (makeSliceA P t (ρ l) (ρ c) h).map fun (v, h') => .val v h'
  | .makeMap _ none => some (.val (.mp h.nx) (h.new (.map [] 0)))
  | .lookup t x i ok => (lookupA P t (ρ x) (ρ i) ok h).map fun v => .val v h
  | .mapUpdate t m k x | .insert t m k x => (mapSetA P t (ρ m) (ρ k) (ρ x) h).map fun h' => .val (.v undef) h'
  | .mapEntry t m k => (mapEntA P t (ρ m) (ρ k) h).map fun (v, h') => .val v h'
  | .entryStore _ m b x => (entSetA (ρ m) (ρ b) (ρ x) h).map fun h' => .val (.v undef) h'
  | .load t a => (loadA P t (ρ a) h).map fun v => .val v h
  | .store t a x => (storeA P t (ρ a) (ρ x) h).map fun h' => .val (.v undef) h'
  | .binOp op t x y _ => match (ρ x).plain?, (ρ y).plain? with
    | some a, some b => pureA P (do eqGuard op t x y a b; binOp op t a b) h
    | _, _ => match unP (ρ x), unP (ρ y) with
     | some a, some b => binS P op t x y a b h
     | _, _ => match P.underlying t with
      | some d => match op with
        | .eql => (eqNil d false (ρ x) (ρ y)).map fun v => .val (.v v) h
        | .neq => (eqNil d true (ρ x) (ρ y)).map fun v => .val (.v v) h
        | _ => none
      | none => none
  | .unOp op _ x => match (ρ x).plain? with
    | some a => pureA P (Op.unary op a) h
    | none => match unP (ρ x) with
      | some a => pureS P (Op.unary op a) h
      | none => none
  | .convert s d x => match ρ x with
    | .sl n off len cap => (bytesA P s d (.sl n off len cap) h).map fun v => .val (.v v) h
    | x => match x.plain? with
      | some a => pureA P (convert s d a) h
      | none => match unP x with
        | some a => pureS P (convert s d a) h
        | none => none
  | .makeFunc (.func f) first cap => bif Nat.beq first.size 0 then some (.val (.fn f (cap.toList.map ρ)) h) else none
  | .slice t x lo hi mx => match ρ x with
    | .v (.string s) => match P.underlying t with
     | some .string => match boundA 0 ρ lo, boundA s.size ρ hi, mx with
      | some l, some k, none => bif Nat.ble l k && Nat.ble k s.size then some (.val (.v (.string (s.extract l k))) h) else none
      | _, _, _ => none
     | _ => none
    | x => match boundA 0 ρ lo, (match lenA x with | some n => boundA n ρ hi | none => none) with
      | some l, some k => match mx with
        | none => (sliceA P t x l k none h).map fun v => .val v h
        | some m => match hi, boundA 0 ρ (some m) with
          | some _, some m => (sliceA P t x l k (some m) h).map fun v => .val v h
          | _, _ => none
      | _, _ => none
  | .fieldAddr t x f => (fieldA P t (ρ x) f).map fun v => .val v h
  | .field t x f => (fieldVA P t (ρ x) f).map fun v => .val v h
  | .indexAddr t x i => (indexAddrA P t (ρ x) (ρ i) h).map fun v => .val v h
  | .index t x i => match (ρ x).plain?, (ρ i).plain? with
    | some a, some b => pureA P (Instr.index t a b) h
    | _, _ => match unP (ρ x), unP (ρ i) with
      | some a, some b => pureS P (Instr.index t a b) h
      | _, _ => none
  | .extract x i => match ρ x with
    | .v (.tuple vs) => (vs[i]?).map fun v => .val (.v v) h
    | .s (.tuple vs) => (vs[i]?).map fun v => .val (.s v) h
    | .tup vs => (vs[i]?).map fun v => .val v h
    | _ => none
  | .nilCheck x => match ρ x with
    | .ptr n i c => some (.val (.ptr n i c) h)
    | .fn f cs => some (.val (.fn f cs) h)
    | .yld n => some (.val (.yld n) h)
    | _ => none
  | .call c => match c.callee with
    | .value f => match ρ f with
      | .fn g cs => some (.call g ((c.args.toList.map ρ) ++ cs) h)
      | .yld n => some (.yield n (c.args.toList.map ρ) h)
      | .v (.func (.func g) first cs) => bif Nat.beq first.size 0 then some (.call g ((c.args.toList.map ρ) ++ cs.toList.map .v) h) else none
      | _ => none
    | .builtin b => builtinA P b c.argTypes o.type (c.args.map fun | .const _ => true | _ => false) (c.args.toList.map ρ) h
    | _ => none
  | _ => none

/-- An operation. -/
def aop (P : Program) (ρ : Operand → AV) (o : Oper) (h : Hp) : Option Stp := match openA P ρ o h with
  | some (b, r) => bif b then r.map (fun x => .val x.1 x.2) else none
  | none => aopC P ρ o h

def opnd (e : T AV) : Operand → AV
  | .tmp t => (e.get t).getD (.v undef)
  | .const v => .v v
  | .global g => .v (.pointer (some ⟨g, 0, none⟩))
  | .func f => .fn f []

def putT (e : T AV) (d : Option Tmp) (v : AV) : T AV := match d with
  | some d => T.put (d + 2) e d (some v)
  | none => e

def yieldedA (ops : Array Oper) (e : T AV) (j : Nat) : Option Bool :=
  match ((ops[j]?).bind (·.dst)).bind e.get with
  | some (.v (.bool b)) => some b
  | some (.s (.bool b)) => some b
  | _ => none

abbrev Sum := FuncId → List AV → Hp → Option (AV × Hp)
abbrev Yl := Nat → List AV → Hp → Option (Bool × Hp)

/-- run, scp: in a round of a loop over a function, or not. -/
structure Sm where
  run : Bool → Code → T AV → Hp → Option (Ex × T AV × Hp)
  scp : Bool → Code → Code → T AV → Hp → Option (Ex × T AV × Hp)
  call : FuncId → List AV → Hp → Option (AV × Hp)
  yld : Nat → List AV → Hp → Option (Bool × Hp)

def seqOps (P : Program) (call : Sum) (yl : Yl) (ops : Array Oper) : List Oper → T AV → Hp → Option (T AV × Hp)
  | [], e, h => some (e, h)
  | o :: r, e, h =>
    bif Region.wanted o (yieldedA ops e) then
      match aop P (opnd e) o h with
      | some (.val v h') => seqOps P call yl ops r (putT e o.dst v) h'
      | some (.call f args h') => match call f args h' with
        | some (v, h'') => seqOps P call yl ops r (putT e o.dst v) h''
        | none => none
      | some (.yield n args h') => match yl n args h' with
        | some (b, h'') => seqOps P call yl ops r (putT e o.dst (.v (.bool b))) h''
        | none => none
      | none => none
    else seqOps P call yl ops r (putT e o.dst (.v undef)) h

/- Regions that draw their order: each operation over what lies ahead of it alone. -/
structure DRec where
  v : AV
  lo : Nat
  hi : Nat
  vw : Option (List Nat)
  wr : List Nat
  en : List (Nat × Option AO)
  full : Bool

abbrev Ens := List (Nat × List (Nat × Option AO))
def lookE (n : Nat) : List (Nat × Option AO) → Option (Option AO)
  | [] => none
  | (k, o) :: r => bif Nat.beq k n then some o else lookE n r
/-- What operations of a set have made of a name. -/
def entAt (m : Nat → Bool) (n : Nat) (base : Option AO) : Ens → Option AO
  | [] => base
  | (j, es) :: r => bif m j then (match lookE n es with
    | some o => o
    | none => entAt m n base r) else entAt m n base r
def baseAt (h : Hp) (n : Nat) : Option AO := bif Nat.blt n h.nx then h.ob.get n else none
def clearFrom : Nat → Nat → T AO → T AO
  | _, 0, t => t
  | n, k + 1, t => clearFrom (n + 1) k (T.put (n + 2) t n none)
def putEs : List (Nat × Option AO) → T AO → T AO
  | [], t => t
  | (n, o) :: r, t => T.put (n + 2) (putEs r t) n o
def viewAll (m : Nat → Bool) : Ens → T AO → T AO
  | [], t => t
  | (j, es) :: r, t => bif m j then putEs es (viewAll m r t) else viewAll m r t
def slObjs : List AV → List Nat
  | [] => []
  | .sl n _ _ _ :: r => n :: slObjs r
  | .osl n _ :: r => n :: slObjs r
  | _ :: r => slObjs r
def viewOf (ρ : Operand → AV) (o : Oper) : Option (List Nat) :=
  match o.op with
  | .load _ a | .store _ a _ => match ρ a with
    | .ptr n _ _ => some [n]
    | _ => some []
  | .indexAddr _ x _ | .slice _ x _ _ _ | .convert _ _ x => match ρ x with
    | .sl n _ _ _ => some [n]
    | .osl n _ => some [n]
    | _ => some []
  | .lookup _ x _ _ | .mapUpdate _ x _ _ | .insert _ x _ _ | .mapEntry _ x _ | .entryStore _ x _ _ => match ρ x with
    | .mp n => some [n]
    | _ => some []
  | .call c => match c.callee with
    | .builtin .append => some (slObjs (c.args.toList.map ρ))
    | _ => none
  | _ => some []
def viewL (m : Nat → Bool) (h0 : Hp) (ens : Ens) : List Nat → T AO
  | [] => .leaf
  | n :: r => T.put (n + 2) (viewL m h0 ens r) n (entAt m n (baseAt h0 n) ens)
def obOf (m : Nat) (h0 : Hp) (nx : Nat) (ens : Ens) : Option (List Nat) → T AO
  | none => viewAll (fun j => m.testBit j) ens (clearFrom h0.nx (nx - h0.nx) h0.ob)
  | some l => viewL (fun j => m.testBit j) h0 ens l
def unshared (o : Option AO) : Bool := match o with
  | some (.cells _ _ _ _ sh) => !sh
  | some (.map _ _) => true
  | some (.rows _ _ _) => true
  | _ => false
def newEs (ob : T AO) : Nat → Nat → List (Nat × Option AO)
  | _, 0 => []
  | n, k + 1 => (n, ob.get n) :: newEs ob (n + 1) k
def shared (o : Option AO) : Bool := match o with
  | some (.cells _ _ _ _ sh) => sh
  | _ => false
/-- What an operation leaves; full: it has written what is shared; all that is shared counts as written. -/
def finishR (vw : Option (List Nat)) (ob : T AO) (nx : Nat) (v : AV) (h' : Hp) : Option DRec :=
  let wr := h'.lg.filter (fun n => Nat.blt n nx)
  bif wr.all (fun n => unshared (ob.get n)) then
    some ⟨v, nx, h'.nx, vw, wr, newEs h'.ob nx (h'.nx - nx) ++ wr.map (fun n => (n, h'.ob.get n)), false⟩
  else bif vw.isNone && wr.all (fun n => (ob.get n).isSome) then
    let al := wr ++ (List.range nx).filter (fun n => shared (ob.get n))
    some ⟨v, nx, h'.nx, vw, al, newEs h'.ob nx (h'.nx - nx) ++ al.map (fun n => (n, h'.ob.get n)), true⟩
  else none
def isStore (o : Oper) : Bool := match o.op with
  | .store _ _ _ => true
  | .call _ => true
  | _ => false
def viewD (ρ : Operand → AV) (o : Oper) (m : Nat) (h0 : Hp) (ens : Ens) : Option (List Nat) := match viewOf ρ o with
  | some l => bif isStore o && l.any (fun n => shared ((viewL (fun j => m.testBit j) h0 ens l).get n)) then none else some l
  | none => none
def drawOne (P : Program) (call : Sum) (ops : Array Oper) (m : Nat) (h0 : Hp) (o : Oper) (e : T AV) (nx : Nat) (ens : Ens) : Option DRec :=
  bif Region.wanted o (yieldedA ops e) then
    let vw := viewD (opnd e) o m h0 ens
    let ob := obOf m h0 nx ens vw
    match aop P (opnd e) o ⟨ob, nx, []⟩ with
    | some (.val v h') => finishR vw ob nx v h'
    | some (.call f args h') => match call f args h' with
      | some (v, h'') => finishR vw ob nx v h''
      | none => none
    | _ => none
  else some ⟨.v undef, nx, nx, some [], [], [], false⟩
def maskOf (o : Oper) (t : T Nat) : Nat := o.after.toList.foldl (fun s e => bif Region.binds .any e then (s ||| (1 <<< e.on)) ||| (t.get e.on).getD 0 else s) 0
def bsGo : Nat → List Oper → T Nat → T Nat
  | _, [], t => t
  | i, o :: r, t => bsGo (i + 1) r (T.put (i + 2) t i (some (maskOf o t)))
def msk (bs : T Nat) (i : Nat) : Nat := (bs.get i).getD 0
def drawGo (P : Program) (call : Sum) (ops : Array Oper) (bs : T Nat) (h0 : Hp) : Nat → List Oper → T AV → Nat → Ens → Option (List DRec × T AV × Nat × Ens)
  | _, [], e, nx, ens => some ([], e, nx, ens)
  | i, o :: r, e, nx, ens => match drawOne P call ops (msk bs i) h0 o e nx ens with
    | some d => match drawGo P call ops bs h0 (i + 1) r (putT e o.dst d.v) d.hi ((i, d.en) :: ens) with
      | some (ds, x) => some (d :: ds, x)
      | none => none
    | none => none
def ordered (bs : T Nat) (i j : Nat) : Bool := (msk bs i).testBit j || (msk bs j).testBit i
/-- Has one of a set made a name? -/
def madeBy (mk n : Nat) : Nat → List DRec → Bool
  | _, [] => false
  | k, c :: r => (mk.testBit k && (Nat.ble c.lo n && Nat.blt n c.hi)) || madeBy mk n (k + 1) r
def clear1 (x mk : Nat) (all : List DRec) (d : DRec) (vw : Option (List Nat)) : Bool := match vw with
  | none => d.wr.all fun n => Nat.ble x n && !(madeBy mk n 0 all)
  | some l => l.all fun n => !(Nat.ble d.lo n && Nat.blt n d.hi) && !(d.wr.contains n)
def clearOf (bs : T Nat) (x : Nat) (all : List DRec) (j : Nat) (d : DRec) : Nat → List DRec → Bool
  | _, [] => true
  | i, c :: r => (Nat.beq i j || ordered bs i j || (clear1 x (msk bs i) all d c.vw && (!d.full || (c.wr.isEmpty && Nat.beq c.lo c.hi)))) && clearOf bs x all j d (i + 1) r
def clearAll (bs : T Nat) (x : Nat) (all : List DRec) : Nat → List DRec → Bool
  | _, [] => true
  | j, d :: r => ((d.wr.isEmpty && Nat.beq d.lo d.hi) || clearOf bs x all j d 0 all) && clearAll bs x all (j + 1) r
/-- By the text: each name of a temporary has one writer, and who looks at it is ahead of it or behind. -/
def writers : Nat → List Oper → T Nat → Option (T Nat)
  | _, [], t => some t
  | i, o :: r, t => match o.dst with
    | some d => match t.get d with
      | some _ => none
      | none => writers (i + 1) r (T.put (d + 2) t d (some i))
    | none => writers (i + 1) r t
def looksOk (ops : Array Oper) (bs : T Nat) (w : T Nat) : Nat → List Oper → Bool
  | _, [] => true
  | i, o :: r => ((o.looksAt ops).all fun t => match w.get t with
      | some j => Nat.beq j i || ordered bs i j
      | none => true) && (o.after.all fun e => !(Region.binds .any e) || Nat.blt e.on i) && looksOk ops bs w (i + 1) r
def drawOk (ops : Array Oper) (bs : T Nat) : Bool := match writers 0 ops.toList .leaf with
  | some w => looksOk ops bs w 0 ops.toList
  | none => false
def wrs : List DRec → List Nat
  | [] => []
  | d :: r => d.wr ++ wrs r
def drawn (P : Program) (call : Sum) (ops : Array Oper) (e : T AV) (h : Hp) : Option (T AV × Hp) :=
  let bs := bsGo 0 ops.toList .leaf
  bif drawOk ops bs then
    match drawGo P call ops bs h 0 ops.toList e h.nx [] with
    | some (ds, e', nx', ens) => bif clearAll bs h.nx ds 0 ds then some (e', ⟨viewAll (fun _ => true) ens h.ob, nx', wrs ds ++ h.lg⟩) else none
    | none => none
  else none

/- A region's end that is in order: from there on each operation comes behind all that are ahead of it. -/
def allBelow (m : Nat) : Nat → Bool
  | 0 => true
  | j + 1 => m.testBit j && allBelow m j
def tailAt (bs : T Nat) : Nat → Nat
  | 0 => 0
  | k + 1 => bif allBelow (msk bs k) k then tailAt bs k else k + 1
def edgesBack : Nat → List Oper → Bool
  | _, [] => true
  | i, o :: r => (o.after.all fun e => !(Region.binds .any e) || Nat.blt e.on i) && edgesBack (i + 1) r
def guardsIn (t : Nat) (l : List Oper) : Bool := l.all fun o => match o.guard with
  | none => true
  | some (j, _) => Nat.blt j t
def preOk (ops : Array Oper) (t : Nat) : Bool := edgesBack 0 ops.toList && guardsIn t (ops.toList.take t)
def drawnT (P : Program) (call : Sum) (yl : Yl) (ops : Array Oper) (e : T AV) (h : Hp) : Option (T AV × Hp) :=
  let t := tailAt (bsGo 0 ops.toList .leaf) ops.size
  bif preOk ops t then
    match drawn P call (ops.toList.take t).toArray e h with
    | some (e1, h1) => seqOps P call yl ops (ops.toList.drop t) e1 h1
    | none => none
  else none

def resA (P : Program) (h : Hp) (e : T AV) : List ResultVar → Option (List AV)
  | [] => some []
  | .tmp t :: r => (resA P h e r).map fun l => (e.get t).getD (.v undef) :: l
  | .cell a t :: r => match loadA P t ((e.get a).getD (.v undef)) h, resA P h e r with
    | some v, some l => some (v :: l)
    | _, _ => none

def one (l : List AV) : AV := match l with
  | [x] => x
  | l => mkTup l

mutual
/-- Does a value name nothing from a place on? -/
def AV.low (n : Nat) : AV → Bool
  | .v _ => true
  | .ptr m _ _ => Nat.blt m n
  | .sl m _ _ _ => Nat.blt m n
  | .none0 _ => true
  | .mp m => Nat.blt m n
  | .fn _ cs => lowL n cs
  | .agg cs => lowL n cs
  | .tup cs => lowL n cs
  | .yld m => Nat.blt m n
  | .s _ => true
  | .osl m _ => Nat.blt m n
  | .fz _ _ _ => true
  | .fzp _ _ _ _ _ => true
  | .z0 => true
  | .xs => true
def lowL (n : Nat) : List AV → Bool
  | [] => true
  | x :: r => x.low n && lowL n r
end

def paramsFrom : Nat → List AV → T AV → T AV
  | _, [], e => e
  | i, x :: r, e => paramsFrom (i + 1) r (T.put (i + 2) e i (some x))
def params (args : List AV) : T AV := paramsFrom 0 args .leaf

def T.all {α : Type} (f : α → Bool) : T α → Bool
  | .leaf => true
  | .node x l r => (match x with | some y => f y | none => true) && l.all f && r.all f
def AO.low (n : Nat) : AO → Bool
  | .cells cs _ _ _ _ => lowL n cs
  | .loop _ e _ _ _ _ => e.all (AV.low n)
  | .rows _ _ _ => true
  | .map es _ => lowL n (es.map (·.2.2))
def lowO (n : Nat) (o : Option AO) : Bool := match o with
  | some o => o.low n
  | none => true

/-- From here on names are of the open evaluator: nothing is struck. -/
def openB : Nat := 65536
/-- What a call leaves: new memory that nothing names any more is forgotten. -/
def leave (nx : Nat) (lg : List Nat) (v : AV) (h : Hp) : Hp :=
  bif Nat.blt nx openB && v.low nx && (h.lg.filter (fun n => Nat.blt n nx)).all (fun n => lowO nx (h.ob.get n)) then { ob := h.ob, nx := nx, lg := h.lg.filter (fun n => Nat.blt n nx) ++ lg } else { ob := h.ob, nx := h.nx, lg := h.lg ++ lg }

/-- The parameters of a round. -/
def bindT : List Tmp → List AV → T AV → T AV
  | p :: ps, x :: xs, e => bindT ps xs (T.put (p + 2) e p (some x))
  | _, _, e => e

def stepS (P : Program) (S : Sum) (R : Sm) : Sm where
  run := fun r c e h => match c with
    | .skip => some (.normal, e, h)
    | .label _ => some (.normal, e, h)
    | .ret => some (.ret, e, h)
    | .exit id => some (.exit id, e, h)
    | .goto l => some (.goto l, e, h)
    | .region _ ops d => (bif d then drawnT P R.call R.yld ops e h else seqOps P R.call R.yld ops ops.toList e h).map fun (e', h') => (.normal, e', h')
    | .seq a b => match R.run r a e h with
      | some (.normal, e', h') => R.run r b e' h'
      | r => r
    | .cond c x y => match opnd e c with
      | .v (.bool b) => R.run r (bif b then x else y) e h
      | .s (.bool b) => R.run r (bif b then x else y) e h
      | _ => none
    | .block id c => match R.run r c e h with
      | some (.exit id', e', h') => bif Nat.beq id' id then some (.normal, e', h') else some (.exit id', e', h')
      | r => r
    | .loop c => match R.run r c e h with
      | some (.normal, e', h') => R.run r (.loop c) e' h'
      | r => r
    | .scope c => R.scp r c c e h
    | .rangeFunc g ps asg body => bif r then none else
      match opnd e g with
      | .fn f cs => match R.call f (.yld h.nx :: cs) (h.new (.loop .ready e ps.toList asg body none)) with
        | some (_, h2) => match h2.ob.get h.nx with
          | some (.loop .ready e' ps' asg' body' none) => some (.normal, e, h2.set h.nx (.loop .exhausted e' ps' asg' body' none))
          | some (.loop .done e' ps' asg' body' (some x)) => some (x, e, h2.set h.nx (.loop .exhausted e' ps' asg' body' (some x)))
          | _ => none
        | none => none
      | _ => none
    | _ => none
  scp := fun r body c e h => match R.run r c e h with
    | some (.goto l, e', h') => match findLabel body l with
      | some rest => R.scp r body rest e' h'
      | none => none
    | r => r
  call := fun f args h => match S f args h with
    | some r => some r
    | none => match P.funcs[f]? with
      | some fn => match fn.body with
        | some c => match R.run false c (params args) { ob := h.ob, nx := h.nx, lg := [] } with
          | some (.normal, e, h') => (resA P h' e fn.results.toList).map fun l => (one l, leave h.nx h.lg (one l) h')
          | some (.ret, e, h') => (resA P h' e fn.results.toList).map fun l => (one l, leave h.nx h.lg (one l) h')
          | _ => none
        | none => none
      | none => none
  yld := fun n args h => match h.ob.get n with
    | some (.loop .ready e ps asg body none) => bif Nat.beq args.length ps.length && Nat.blt n h.nx then
        match R.run true asg (bindT ps args e) h with
        | some (.normal, e1, h1) => match h1.ob.get n with
          | some (.loop .ready e2 ps2 asg2 body2 none) => match R.run true body e1 (h1.set n (.loop .busy e2 ps2 asg2 body2 none)) with
            | some (x, _, h2) => match h2.ob.get n with
              | some (.loop .busy e3 ps3 asg3 body3 none) => match x with
                | .normal => some (true, h2.set n (.loop .ready e3 ps3 asg3 body3 none))
                | x => some (false, h2.set n (.loop .done e3 ps3 asg3 body3 (some x)))
              | _ => none
            | none => none
          | _ => none
        | _ => none
      else none
    | _ => none

def sm (P : Program) (S : Sum) : Nat → Sm
  | 0 => ⟨fun _ _ _ _ => none, fun _ _ _ _ _ => none, fun _ _ _ => none, fun _ _ _ => none⟩
  | n + 1 => stepS P S (sm P S n)

/-- Every place that code writes lies in the frame. -/
def okOps (n : Nat) (ops : Array Oper) : Bool := ops.all fun o => match o.dst with
  | some d => Nat.blt d n
  | none => true
def okCode (n : Nat) : Code → Bool
  | .region _ ops _ => okOps n ops
  | .seq a b => okCode n a && okCode n b
  | .cond _ a b => okCode n a && okCode n b
  | .block _ c => okCode n c
  | .loop c => okCode n c
  | .scope c => okCode n c
  | .rangeFunc _ ps a b => okCode n a && okCode n b && ps.all (fun p => Nat.blt p n)
  | _ => true
def okFunc (f : Func) : Bool := match f.body with
  | some c => !(f.name == "runtime.NumGoroutine") && okCode f.ntmps c
  | none => true

end Ev
end Go.Proofs.Ytengccmjlaejfaa
