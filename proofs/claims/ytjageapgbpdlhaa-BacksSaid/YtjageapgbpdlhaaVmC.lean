/- THE SMALL MACHINE, part C: what its operations do. -/
import Derived.Test.YtjageapgbpdlhaaVmB
namespace Go.Proofs.Ytjageapgbpdlhaa.VM
open Go
set_option linter.unusedSimpArgs false
set_option linter.unusedVariables false

/-- kinds of types, as far as the small machine goes -/
inductive TK where
  | bool
  | int (k : IntKind)
  | str
  | strct (fs : List (Nat × Nat))
  | arr (n e : Nat)
  | slice (e : Nat)
  | ptr
  | map
  | other
  deriving Inhabited

/-- kinds of cells that are compared -/
inductive CK where
  | int | bool | str
  deriving DecidableEq, Inhabited

structure TI where
  k : TK
  size : Nat
  bytes : Nat
  zero : List V
  /-- a struct whose '==' holds cell against cell: the cells' kinds -/
  cmp : List CK := []
  deriving Inhabited

abbrev Tab := Nat → Option TI

def TK.agg : TK → Bool
  | .strct _ | .arr _ _ => true
  | _ => false

mutual
def V.of : Value → Option V
  | .int k n => some (.int k n)
  | .bool b => some (.bool b)
  | .string s => some (.str s)
  | .pointer none => some .nilp
  | .slice none 0 0 => some .nils
  | .agg ⟨cs⟩ => (V.ofs cs).map .agg
  | _ => none
def V.ofs : List Value → Option (List V)
  | [] => some []
  | v :: vs => match V.of v, V.ofs vs with
    | some u, some us => if u.one then some (u :: us) else none
    | _, _ => none
end

abbrev Env := List V
def Env.ev (e : Env) : Operand → Option V
  | .tmp t => e[t]?
  | .const v => V.of v
  | .func f => some (.fn f [])
  | .global _ => none

def evs (ρ : Operand → Option V) : List Operand → Option (List V)
  | [] => some []
  | x :: xs => match ρ x, evs ρ xs with
    | some v, some vs => some (v :: vs)
    | _, _ => none

def intBin (op : BinOp) (k : IntKind) (a b : Int) : Option V :=
  match op with
  | .add => some (.int k (k.wrap (a + b)))
  | .sub => some (.int k (k.wrap (a - b)))
  | .mul => some (.int k (k.wrap (a * b)))
  | .quo => if b = 0 then none else some (.int k (k.wrap (a.tdiv b)))
  | .rem => if b = 0 then none else some (.int k (a.tmod b))
  | .and => some (.int k (k.wrap (BitVec.ofInt k.bits a &&& BitVec.ofInt k.bits b).toNat))
  | .or => some (.int k (k.wrap (BitVec.ofInt k.bits a ||| BitVec.ofInt k.bits b).toNat))
  | .xor => some (.int k (k.wrap (BitVec.ofInt k.bits a ^^^ BitVec.ofInt k.bits b).toNat))
  | .eql => some (.bool (a == b))
  | .neq => some (.bool (a != b))
  | .lss => some (.bool (decide (a < b)))
  | .leq => some (.bool (decide (a ≤ b)))
  | .gtr => some (.bool (decide (a > b)))
  | .geq => some (.bool (decide (a ≥ b)))
  | _ => none

def shiftBin (op : BinOp) (k : IntKind) (a b : Int) : Option V :=
  if b < 0 then none else
  match op with
  | .shl => some (.int k (k.wrap (a * 2 ^ (min b.toNat k.bits))))
  | .shr => some (.int k (a.fdiv (2 ^ (min b.toNat k.bits))))
  | _ => none

def strBin (op : BinOp) (a b : ByteArray) : Option V :=
  match op with
  | .add => if ((a.size + b.size : Nat) : Int) > IntKind.i64.max then none else some (.str (a ++ b))
  | .eql => some (.bool (a.toList == b.toList))
  | .neq => some (.bool !(a.toList == b.toList))
  | _ => none

def V.eq1 : CK → V → V → Option Bool
  | .int, .int k a, .int k' b => if k = k' then some (a == b) else none
  | .bool, .bool a, .bool b => some (a == b)
  | .str, .str a, .str b => some (a.toList == b.toList)
  | _, _, _ => none

def eqs : List CK → List V → List V → Option Bool
  | [], [], [] => some true
  | k :: ks, x :: xs, y :: ys => match V.eq1 k x y, eqs ks xs ys with
    | some a, some b => some (a && b)
    | _, _ => none
  | _, _, _ => none

/-- the two of '==' and '!=' -/
def eqlOr (op : BinOp) (b : Option Bool) : Option V :=
  match op with
  | .eql => b.map .bool
  | .neq => b.map fun b => .bool !b
  | _ => none

def vbin (T : Tab) (op : BinOp) (t : Nat) (x y : V) : Option V :=
  match x, y with
  | .int k a, .int k' b =>
    match op with
    | .shl | .shr => shiftBin op k a b
    | _ => if k = k' then intBin op k a b else none
  | .str a, .str b => strBin op a b
  | .bool a, .bool b => match T t with
    | some { k := .bool, .. } => eqlOr op (some (a == b))
    | _ => none
  | .agg xs, .agg ys => match T t with
    | some { cmp := k :: ks, .. } => eqlOr op (eqs (k :: ks) xs ys)
    | _ => none
  | .nils, .nils => match T t with
    | some { k := .slice _, .. } => eqlOr op (some true)
    | _ => none
  | .slc .., .nils => match T t with
    | some { k := .slice _, .. } => eqlOr op (some false)
    | _ => none
  | _, _ => none

def vun (op : UnOp) (x : V) : Option V :=
  match op, x with
  | .neg, .int k n => some (.int k (k.wrap (0 - n)))
  | .xor, .int k n => some (.int k (k.wrap (BitVec.ofInt k.bits (if k.signed then -1 else k.max) ^^^ BitVec.ofInt k.bits n).toNat))
  | .not, .bool b => some (.bool !b)
  | _, _ => none

def V.isTup : V → Bool
  | .tup _ => true
  | _ => false

/-- parts laid into cells -/
def fillV (place : Nat → Option (Nat × Nat)) (cs : List V) : List (Nat × V) → Option (List V)
  | [] => some cs
  | (i, v) :: rest =>
    match place i with
    | none => none
    | some (off, size) => if v.isTup = false ∧ v.cells.length = size ∧ off + size ≤ cs.length then fillV place (setL cs off v.cells) rest else none

def evParts (ρ : Operand → Option V) : List (Nat × Operand) → Option (List (Nat × V))
  | [] => some []
  | (i, x) :: xs => match ρ x, evParts ρ xs with
    | some v, some vs => some ((i, v) :: vs)
    | _, _ => none

def structPlace (T : Tab) (fs : List (Nat × Nat)) (i : Nat) : Option (Nat × Nat) :=
  match fs[i]? with
  | some (t, off) => match T t with
    | some f => some (off, f.size)
    | none => none
  | none => none

def rowPlace (size len : Nat) (i : Nat) : Option (Nat × Nat) := some (i * size, size)

def V.asIdx : V → Option Int
  | .int _ i => some i
  | _ => none

/-- a bound of a slice expression -/
def boundV (x : Option V) (dflt most : Nat) : Option Nat :=
  match x with
  | none => some dflt
  | some (.int _ i) => if 0 ≤ i ∧ i ≤ most then some i.toNat else none
  | _ => none

def optEv (ρ : Operand → Option V) : Option Operand → Option (Option V)
  | none => some none
  | some x => (ρ x).map some

def sliceV (size : Nat) (x : V) (lo hi mx : Option V) : Option V :=
  if (mx.isSome && hi.isNone) = true then none else
  match x with
  | .nils => match boundV mx 0 0, boundV hi 0 0, boundV lo 0 0 with
    | some 0, some 0, some 0 => some .nils
    | _, _, _ => none
  | .slc b off len cap t sz =>
    if sz ≠ size then none else
    match boundV mx cap cap with
    | some m => match (if mx.isSome then boundV hi len m else boundV hi len cap) with
      | some h => match boundV lo 0 h with
        | some l => some (.slc b (off + l * size) (h - l) (m - l) (t || mx.isSome) sz)
        | none => none
      | none => none
    | none => none
  | _ => none

def sliceS (s : ByteArray) (lo hi : Option V) : Option V :=
  match boundV hi s.size s.size with
  | some h => match boundV lo 0 h with
    | some l => some (.str (s.extract l h))
    | none => none
  | none => none

def builtinP (T : Tab) (b : Builtin) (ts : List Nat) (xs : List V) : Option V :=
  match b, ts, xs with
  | .len, [t], [.str s] => match T t with
    | some { k := .str, .. } => some (.int .i64 s.size)
    | _ => none
  | .len, [t], [.slc _ _ n _ _ _] => match T t with
    | some { k := .slice _, .. } => some (.int .i64 n)
    | _ => none
  | .len, [t], [.nils] => match T t with
    | some { k := .slice _, .. } => some (.int .i64 0)
    | _ => none
  | .cap, [t], [.slc _ _ _ n true _] => match T t with
    | some { k := .slice _, .. } => some (.int .i64 n)
    | _ => none
  | .cap, [t], [.nils] => match T t with
    | some { k := .slice _, .. } => some (.int .i64 0)
    | _ => none
  | .min, _, [.int k x, .int _ y] => some (.int k (if y < x then y else x))
  | .max, _, [.int k x, .int _ y] => some (.int k (if y > x then y else x))
  | _, _, _ => none

/-- operations that touch no memory -/
def pureOp (T : Tab) (ρ : Operand → Option V) : Op → Option V
  | .move x => ρ x
  | .assign x => ρ x
  | .pick c a b => match ρ c, ρ a, ρ b with
    | some (.bool c), some x, some y => some (if c then x else y)
    | _, _, _ => none
  | .build t parts => match T t, evParts ρ parts.toList with
    | some { k := .strct fs, zero := z, .. }, some ps => (fillV (structPlace T fs) z ps).map .agg
    | _, _ => none
  | .nilCheck x => match ρ x with
    | some (.ptr b off) => some (.ptr b off)
    | _ => none
  | .binOp op t x y _ => match ρ x, ρ y with
    | some a, some b => vbin T op t a b
    | _, _ => none
  | .unOp op _ x => match ρ x with
    | some a => vun op a
    | none => none
  | .convert s d x => match T s, T d, ρ x with
    | some _, some { k := .int k, .. }, some (.int _ n) => some (.int k (k.wrap n))
    | some _, some { k := .str, .. }, some (.str s) => some (.str s)
    | _, _, _ => none
  | .makeFunc (.func f) first caps => match first.toList, evs ρ caps.toList with
    | [], some vs => some (.fn f vs)
    | _, _ => none
  | .slice t x lo hi mx => match T t, ρ x, optEv ρ lo, optEv ρ hi, optEv ρ mx with
    | some { k := .slice e, .. }, some x, some lo, some hi, some mx => match T e with
      | some i => sliceV i.size x lo hi mx
      | none => none
    | some { k := .str, .. }, some (.str s), some lo, some hi, some none => sliceS s lo hi
    | _, _, _, _, _ => none
  | .fieldAddr t x f => match T t, ρ x with
    | some { k := .strct fs, .. }, some (.ptr b off) => match fs[f]? with
      | some (ft, fo) => match T ft with
        | some i => if i.size = 0 then none else some (.ptr b (off + fo))
        | none => none
      | none => none
    | _, _ => none
  | .indexAddr t x ix => match T t, ρ x, ρ ix with
    | some { k := .slice e, .. }, some (.slc b off len cap _ _), some (.int _ i) => match T e with
      | some ei => if 0 ≤ i ∧ i < len then some (.ptr b (off + i.toNat * ei.size)) else none
      | none => none
    | some { k := .arr n e, .. }, some (.ptr b off), some (.int _ i) => match T e with
      | some ei => if 0 ≤ i ∧ i < n then some (.ptr b (off + i.toNat * ei.size)) else none
      | none => none
    | _, _, _ => none
  | .index t x ix => match T t, ρ x, ρ ix with
    | some { k := .str, .. }, some (.str s), some (.int _ i) => if 0 ≤ i then (s[i.toNat]?).map fun b => .int .u8 b.toNat else none
    | _, _, _ => none
  | .extract x i => match ρ x with
    | some (.tup vs) => vs[i]?
    | _ => none
  | .call { callee := .builtin b, args := xs, argTypes := ts } => match evs ρ xs.toList with
    | some vs => builtinP T b ts.toList vs
    | none => none
  | _ => none

def V.bytesOf (s : ByteArray) : List V := s.data.toList.map fun b => .int .u8 b.toNat

/-- cells that are bytes -/
def V.toBytes : List V → Option (List UInt8)
  | [] => some []
  | .int .u8 n :: vs => match V.toBytes vs with
    | some bs => some (UInt8.ofNat n.toNat :: bs)
    | none => none
  | _ => none

def zeros (z : List V) (n : Nat) : List V := (List.replicate n z).flatten

/-- what is appended: how many, the cells -/
def newsOf (T : Tab) (e : TI) (t2 : Nat) (x : V) (h : Heap) : Option (Nat × List V) :=
  match T t2, x with
  | some { k := .int _, .. }, .int _ n => if 0 ≤ n ∧ n * e.bytes ≤ 2 ^ 47 ∧ n ≤ IntKind.i64.max then some (n.toNat, zeros e.zero n.toNat) else none
  | some { k := .slice _, .. }, .nils => some (0, [])
  | some { k := .slice _, .. }, .slc b off n _ _ _ => if n = 0 then some (0, []) else (h.loadN b off (n * e.size)).map fun cs => (n, cs)
  | some { k := .str, .. }, .str s => some (s.size, V.bytesOf s)
  | _, _ => none

def appendV (e : TI) (s : V) (n : Nat) (news : List V) (h : Heap) : Option (V × Heap) :=
  if news.length ≠ n * e.size then none else
  match s with
  | .nils => if n = 0 then some (.nils, h) else
    if n * e.bytes ≤ 2 ^ 47 ∧ n ≤ 2 ^ 47 then some (.slc h.length 0 n n false e.size, h ++ [.row news true]) else none
  | .slc b off len cap t sz =>
    if sz ≠ e.size then none
    else if len + n ≤ cap then
      if n = 0 then some (.slc b off len cap t sz, h)
      else (h.storeN b (off + len * e.size) news).map fun h' => (.slc b off (len + n) cap t sz, h')
    else if (len + n) * e.bytes ≤ 2 ^ 47 ∧ len + n ≤ 2 ^ 47 then
      match h[b]?, h.loadN b off (len * e.size) with
      | some (.row _ wr), some old =>
          if t then some (.slc h.length 0 (len + n) (len + n) false sz, h ++ [.row (old ++ news) true])
          else if wr then some (.slc h.length 0 (len + n) (len + n) false sz, h.set b .dead ++ [.row (old ++ news) true])
          else none
      | _, _ => none
    else none
  | _ => none

def copyV (e : TI) (dst src : V) (h : Heap) : Option (V × Heap) :=
  match dst, src with
  | .slc b off len _ _ _, .slc b2 off2 len2 _ _ _ =>
    let n := Nat.min len2 len
    if n = 0 then some (.int .i64 0, h) else
    match h.loadN b2 off2 (n * e.size) with
    | some cs => match h.storeN b off cs with
      | some h' => some (.int .i64 n, h')
      | none => none
    | none => none
  | _, _ => none

def mapGet (es : List (Int × Int)) (k : Int) : Option Int :=
  match es with
  | [] => none
  | (a, b) :: r => if a = k then some b else mapGet r k
def mapPut (es : List (Int × Int)) (k v : Int) : List (Int × Int) :=
  match es with
  | [] => [(k, v)]
  | (a, b) :: r => if a = k then (a, v) :: r else (a, b) :: mapPut r k v

/-- operations on memory -/
def memOp (T : Tab) (ρ : Operand → Option V) (h : Heap) : Op → Option (V × Heap)
  | .alloc t => match T t with
    | some i => some (.ptr h.length 0, h ++ [.row i.zero true])
    | none => none
  | .box t x => match T t, ρ x with
    | some i, some v => match v with
      | .tup _ => none
      | v => some (.ptr h.length 0, h ++ [.row v.cells true])
    | _, _ => none
  | .buildSlice t len parts => match T t with
    | some { k := .slice e, .. } => match T e, evParts ρ parts.toList with
      | some i, some ps => if len * i.size ≤ 2 ^ 24 then
          match fillV (rowPlace i.size len) (zeros i.zero len) ps with
          | some cs => some (.slc h.length 0 len len true i.size, h ++ [.row cs true])
          | none => none
        else none
      | _, _ => none
    | _ => none
  | .load t x => match T t, ρ x with
    | some i, some (.ptr b off) => if i.k.agg then (h.loadN b off i.size).map fun cs => (.agg cs, h) else
        match h.loadN b off 1 with
        | some [v] => some (v, h)
        | _ => none
    | _, _ => none
  | .store t x y => match T t, ρ x, ρ y with
    | some i, some (.ptr b off), some v => match v with
      | .tup _ => none
      | v => if v.cells.length = i.size then (h.storeN b off v.cells).map fun h' => (V.undef, h') else none
    | _, _, _ => none
  | .makeSlice t n c => match T t, ρ n, ρ c with
    | some { k := .slice e, .. }, some (.int _ n), some (.int _ c) => match T e with
      | some i => if 0 ≤ n ∧ n ≤ c ∧ (i.bytes : Int) * c ≤ 2 ^ 48 ∧ c ≤ IntKind.i64.max then
          some (.slc h.length 0 n.toNat c.toNat true i.size, h ++ [.row (zeros i.zero c.toNat) true])
        else none
      | none => none
    | _, _, _ => none
  | .convert s d x => match T s, T d, ρ x with
    | some { k := .str, .. }, some { k := .slice e, .. }, some (.str s) => match T e with
      | some { k := .int .u8, size := 1, .. } => some (.slc h.length 0 s.size s.size false 1, h ++ [.row (V.bytesOf s) true])
      | _ => none
    | some { k := .slice e, .. }, some { k := .str, .. }, some (.slc b off n _ _ _) => match T e with
      | some { k := .int .u8, .. } => if n = 0 then some (.str ⟨#[]⟩, h) else match h.loadN b off n with
        | some cs => match V.toBytes cs with
          | some bs => some (.str ⟨bs.toArray⟩, h)
          | none => none
        | none => none
      | _ => none
    | some { k := .slice e, .. }, some { k := .str, .. }, some .nils => match T e with
      | some { k := .int .u8, .. } => some (.str ⟨#[]⟩, h)
      | _ => none
    | _, _, _ => none
  | .makeMap _ none => some (.map h.length, h ++ [.mp []])
  | .lookup t x ix false => match T t, ρ x, ρ ix with
    | some { k := .map, .. }, some (.map b), some (.int .i64 k) => match h[b]? with
      | some (.mp es) => some (.int .i64 ((mapGet es k).getD 0), h)
      | _ => none
    | _, _, _ => none
  | .mapUpdate t x ix y => match T t, ρ x, ρ ix, ρ y with
    | some { k := .map, .. }, some (.map b), some (.int .i64 k), some (.int .i64 v) => match h[b]? with
      | some (.mp es) => some (V.undef, h.set b (.mp (mapPut es k v)))
      | _ => none
    | _, _, _, _ => none
  | .call { callee := .builtin .append, args := xs, argTypes := ts } => match evs ρ xs.toList, ts.toList with
    | some [s, x], [t1, t2] => match T t1 with
      | some { k := .slice e, .. } => match T e with
        | some i => match newsOf T i t2 x h with
          | some (n, news) => appendV i s n news h
          | none => none
        | none => none
      | _ => none
    | _, _ => none
  | .call { callee := .builtin .copy, args := xs, argTypes := ts } => match evs ρ xs.toList, ts.toList with
    | some [s, x], [t1, t2] => match T t1, T t2 with
      | some { k := .slice e, .. }, some { k := .slice _, .. } => match T e with
        | some i => copyV i s x h
        | none => none
      | _, _ => none
    | _, _ => none
  | .call { callee := .builtin .clear, args := xs, argTypes := ts } => match evs ρ xs.toList, ts.toList with
    | some [.slc b off n _ _ _], [t1] => match T t1 with
      | some { k := .slice e, .. } => match T e with
        | some i => if n = 0 then some (.tup [], h) else (h.storeN b off (zeros i.zero n)).map fun h' => (.tup [], h')
        | none => none
      | _ => none
    | _, _ => none
  | _ => none

/-- a type of the program is what the table says -/
def TK.fits (P : Program) (t : Nat) : TK → Prop
  | .bool => P.underlying t = some .bool
  | .int k => P.underlying t = some (.int k)
  | .str => P.underlying t = some .string
  | .strct fs => ∃ (F : Array Field) (places : List (Nat × Nat)), P.underlying t = some (.struct F) ∧ F.toList.map (fun f => (f.type, f.offset)) = fs ∧ F.toList.mapM (fun f => (P.info? f.type).map fun i => (f.offset, i.size)) = some places
  | .arr n e => P.underlying t = some (.array n e)
  | .slice e => P.underlying t = some (.slice e)
  | .ptr => ∃ e, P.underlying t = some (.pointer e)
  | .map => ∃ k e q, P.underlying t = some (.map k e) ∧ P.underlying k = some (.int .i64) ∧ P.info? e = some q ∧ q.zero = some (.int .i64 0)
  | .other => ∃ d, P.underlying t = some d ∧ (∀ F, d ≠ .struct F) ∧ ∀ n e, d ≠ .array n e

structure TI.fits (P : Program) (t : Nat) (i : TI) : Prop where
  info : ∃ q z, P.info? t = some q ∧ q.size = i.size ∧ q.bytes = i.bytes ∧ q.zero = some z ∧ (∀ μ, VRs μ i.zero z.cells.toList) ∧ (∀ v ∈ i.zero, v.one = true) ∧ i.zero.length = i.size
  kind : i.k.fits P t
  cmp : i.cmp ≠ [] → ∀ μ xs ys (cx cy : Array Value) b, VRs μ xs cx.toList → VRs μ ys cy.toList → eqs i.cmp xs ys = some b →
    ∀ w, (Op.equal t (.agg cx) (.agg cy)).run P w = .ok b w ∧ ∀ op (x y : Operand), (eqGuard op t x y (.agg cx) (.agg cy)).run P w = .ok () w

def Fits (P : Program) (T : Tab) : Prop := ∀ t i, T t = some i → i.fits P t

end Go.Proofs.Ytjageapgbpdlhaa.VM
