/- A part of the proof that the law of this seat holds: V4; no condition. -/
import GoSem.Step
import GoSem.ClaimJoined
namespace Go.Proofs.YtcaagfgopmhilaaGreatDoor.Vai
/-! ### places, tries -/
inductive Pos where
  | o
  | l (p : Pos)
  | r (p : Pos)

def posF : Nat → Nat → Pos
  | 0, _ => .o
  | f + 1, n => match n with
    | 0 => .o
    | m + 1 => match Nat.beq (Nat.mod m 2) 0 with
      | true => .l (posF f (Nat.div m 2))
      | false => .r (posF f (Nat.div m 2))
def pos (n : Nat) : Pos := posF n n

def posEq : Pos → Pos → Bool
  | .o, .o => true
  | .l p, .l q => posEq p q
  | .r p, .r q => posEq p q
  | _, _ => false

inductive T (α : Type) where
  | leaf
  | node (v : Option α) (l r : T α)

noncomputable section
namespace T
variable {α : Type}
def get (p : Pos) : T α → Option α :=
  Pos.rec (motive := fun _ => T α → Option α)
    (fun t => T.rec (motive := fun _ => Option α) none (fun v _ _ _ _ => v) t)
    (fun _ ih t => T.rec (motive := fun _ => Option α) none (fun _ l _ _ _ => ih l) t)
    (fun _ ih t => T.rec (motive := fun _ => Option α) none (fun _ _ r _ _ => ih r) t) p
def set (p : Pos) (x : α) : T α → T α :=
  Pos.rec (motive := fun _ => T α → T α)
    (fun t => T.rec (motive := fun _ => T α) (.node (some x) .leaf .leaf) (fun _ l r _ _ => .node (some x) l r) t)
    (fun _ ih t => T.rec (motive := fun _ => T α) (.node none (ih .leaf) .leaf) (fun v l r _ _ => .node v (ih l) r) t)
    (fun _ ih t => T.rec (motive := fun _ => T α) (.node none .leaf (ih .leaf)) (fun v l r _ _ => .node v l (ih r)) t) p
--RAW-END

def del : Pos → T α → T α
  | _, .leaf => .leaf
  | .o, .node _ l r => .node none l r
  | .l p, .node v l r => .node v (del p l) r
  | .r p, .node v l r => .node v l (del p r)
end T

/-! ### values and worlds -/
inductive AV where
  | b (x : Bool)
  | i (k : IntKind) (n : Int)
  | s (l : List Nat)
  | pn
  | p (b : Pos) (o : Nat)
  | sn
  | sx (b : Pos) (o len cap : Nat)
  | su (b : Pos) (o len sz : Nat)
  | mn
  | m (b : Pos)
  | f (fn : Fn) (first captured : List AV)
  | fn0
  | yl (b : Pos)
  | ifc (t : TypeId) (v : AV)
  | if0
  | agg (l : List AV)
  | tup (l : List AV)
  /-- a value of one cell that nothing looks into -/
  | x (v : Value)

structure Blk where
  c : T AV
  n : Nat
  el : TypeId
  spare : Bool
  ro : Bool

inductive AObj where
  | cells (k : Blk)
  | map (es : List (AV × AV × Nat)) (clock : Nat)
  | siter (s : List Nat) (pos : Nat)
  | miter (m : Option Pos) (since : Nat) (seen : List Nat) (stepped : Nat)
  | loop
  | dfr

structure AW where
  h : T AObj
  nx : Nat

/-! ### small things -/
def ikN : IntKind → Nat
  | .i8 => 0 | .i16 => 1 | .i32 => 2 | .i64 => 3 | .u8 => 4 | .u16 => 5 | .u32 => 6 | .u64 => 7
def ikEq (a b : IntKind) : Bool := Nat.beq (ikN a) (ikN b)
/-- below it a number that is not negative is its own wrap -/
def limN : IntKind → Nat
  | .i8 => 128 | .i16 => 32768 | .i32 => 2147483648 | .i64 => 9223372036854775808
  | .u8 => 256 | .u16 => 65536 | .u32 => 4294967296 | .u64 => 18446744073709551616
def sgn : IntKind → Bool
  | .i8 | .i16 | .i32 | .i64 => true
  | _ => false
def wrapF (k : IntKind) (n : Int) : Int :=
  match n with
  | .ofNat m => match Nat.blt m (limN k) with
    | true => .ofNat m
    | false => k.wrap n
  | .negSucc m => match sgn k && Nat.blt m (limN k) with
    | true => .negSucc m
    | false => k.wrap n
def intEq : Int → Int → Bool
  | .ofNat a, .ofNat b => Nat.beq a b
  | .negSucc a, .negSucc b => Nat.beq a b
  | _, _ => false
def intLt : Int → Int → Bool
  | .ofNat a, .ofNat b => Nat.blt a b
  | .negSucc _, .ofNat _ => true
  | .ofNat _, .negSucc _ => false
  | .negSucc a, .negSucc b => Nat.blt b a
def boolEq : Bool → Bool → Bool
  | true, b => b
  | false, true => false
  | false, false => true
def strEq : List Nat → List Nat → Bool
  | [], [] => true
  | a :: x, b :: y => match Nat.beq a b with
    | true => strEq x y
    | false => false
  | _, _ => false
def lessA : List Nat → List Nat → Bool
  | _, [] => false
  | [], _ :: _ => true
  | a :: x, b :: y => match Nat.blt a b with
    | true => true
    | false => match Nat.beq a b with
      | true => lessA x y
      | false => false
def nth {α : Type} : List α → Nat → Option α
  | [], _ => none
  | a :: l, n => match n with
    | 0 => some a
    | m + 1 => nth l m

def absAtom : Value → Option AV
  | .bool x => some (.b x)
  | .int k n => some (.i k n)
  | .string s => some (.s (s.data.toList.map (·.toNat)))
  | .pointer none => some .pn
  | .slice none 0 0 => some .sn
  | .map none => some .mn
  | .func fn a b => match a.toList, b.toList with
    | [], [] => some (.f fn [] [])
    | _, _ => none
  | .nilFunc => some .fn0
  | .nilIface => some .if0
  | .tuple a => match a.toList with
    | [] => some (.tup [])
    | _ => none
  | _ => none
def absL : List Value → Option (List AV)
  | [] => some []
  | v :: l => match absAtom v with
    | some a => match absL l with
      | some m => some (a :: m)
      | none => none
    | none => none
def absV : Value → Option AV
  | .agg cs => match absL cs.toList with
    | some l => some (.agg l)
    | none => none
  | v => absAtom v

/-- the cells of a value -/
def AV.cells : AV → List AV
  | .agg l => l
  | v => [v]
def isCell : AV → Bool
  | .agg _ => false
  | .tup _ => false
  | _ => true
def allCells : List AV → Bool
  | [] => true
  | v :: l => match isCell v with
    | true => allCells l
    | false => false

/-! ### blocks -/
def putCells : Nat → List AV → T AV → T AV
  | _, [], c => c
  | i, v :: l, c => putCells (i + 1) l (c.set (pos i) v)
def getCells (c : T AV) : Nat → Nat → Option (List AV)
  | _, 0 => some []
  | i, n + 1 => match c.get (pos i) with
    | some v => match getCells c (i + 1) n with
      | some l => some (v :: l)
      | none => none
    | none => none
def newObj (A : AW) (o : AObj) : AW := ⟨T.set (pos A.nx) o A.h, A.nx + 1⟩
def newBlk (A : AW) (el : TypeId) (l : List AV) (n : Nat) (spare ro : Bool) : AW :=
  newObj A (.cells ⟨putCells 0 l .leaf, n, el, spare, ro⟩)
def getBlk (A : AW) (b : Pos) : Option Blk :=
  match A.h.get b with
  | some (.cells k) => some k
  | _ => none
def load1 (A : AW) (b : Pos) (o : Nat) : Option AV :=
  match getBlk A b with
  | some k => match Nat.blt o k.n with
    | true => k.c.get (pos o)
    | false => none
  | none => none
def loadC (A : AW) (b : Pos) (o n : Nat) : Option (List AV) :=
  match getBlk A b with
  | some k => match Nat.ble (o + n) k.n with
    | true => getCells k.c o n
    | false => none
  | none => none
def setBlk (A : AW) (b : Pos) (k : Blk) : AW := ⟨T.set b (.cells k) A.h, A.nx⟩
def storeC (A : AW) (b : Pos) (o : Nat) (l : List AV) : Option AW :=
  match getBlk A b with
  | some k => match k.ro with
    | true => none
    | false => match Nat.ble (o + l.length) k.n with
      | true => some (setBlk A b { k with c := putCells o l k.c })
      | false => none
  | none => none

inductive Ext where
  | load (k : IntKind) | store | add (k : IntKind) | cas (k : IntKind) | nothing (d : Bool) | marked (d : Bool) | same | indexByte
/-! ### tables: what the program says of its functions and types -/
structure Tab where
  fn : T Func
  ty : T TypeInfo
  ud : T TypeDesc
  st : T Bool
  gd : T Bool
  ex : T Ext
def Tab.fnc (P : Tab) (f : FuncId) : Option Func := P.fn.get (pos f)
def Tab.info? (P : Tab) (t : TypeId) : Option TypeInfo := P.ty.get (pos t)
def Tab.underlying (P : Tab) (t : TypeId) : Option TypeDesc := P.ud.get (pos t)
def Tab.stood (P : Tab) (t : TypeId) : Option Bool := P.st.get (pos t)
def Tab.ext (P : Tab) (f : FuncId) : Option Ext := P.ex.get (pos f)
def Tab.grd (P : Tab) (t : TypeId) : Option Bool := P.gd.get (pos t)

/-! ### types -/
def szOf (P : Tab) (t : TypeId) : Option Nat := (P.info? t).map (·.size)
def zeroA (P : Tab) (t : TypeId) : Option AV :=
  match P.info? t with
  | some i => match i.zero with
    | some z => absV z
    | none => none
  | none => none
def isAggA (P : Tab) (t : TypeId) : Option Bool :=
  match P.underlying t with
  | some (.struct _) => some true
  | some (.array _ _) => some true
  | some _ => some false
  | none => none

/-- a part of an aggregate: of one cell, or of several -/
inductive Sh where
  | one
  | many (n : Nat)
def shOf (P : Tab) (t : TypeId) : Option Sh :=
  match isAggA P t with
  | some true => match szOf P t with
    | some n => some (.many n)
    | none => none
  | some false => some .one
  | none => none

def partA (s : Sh) (l : List AV) (off : Nat) : Option AV :=
  match s with
  | .one => nth l off
  | .many n => match Nat.ble (off + n) l.length with
    | true => some (.agg ((l.drop off).take n))
    | false => none

def loadA (A : AW) (s : Sh) (a : AV) : Option AV :=
  match a with
  | .p b o => match s with
    | .one => load1 A b o
    | .many n => match loadC A b o n with
      | some l => some (.agg l)
      | none => none
  | _ => none

def storeA (A : AW) (n : Nat) (a v : AV) : Option AW :=
  match a with
  | .p b o => match Nat.beq v.cells.length n && allCells v.cells with
    | true => storeC A b o v.cells
    | false => none
  | _ => none

/-! ### numbers -/
def addA (x y : AV) : Option AV := match x, y with
  | .i k a, .i k' b => match ikEq k k' with
    | true => some (.i k (wrapF k (Int.add a b)))
    | false => none
  | _, _ => none
def subA (x y : AV) : Option AV := match x, y with
  | .i k a, .i k' b => match ikEq k k' with
    | true => some (.i k (wrapF k (Int.sub a b)))
    | false => none
  | _, _ => none
def mulA (x y : AV) : Option AV := match x, y with
  | .i k a, .i k' b => match ikEq k k' with
    | true => some (.i k (wrapF k (Int.mul a b)))
    | false => none
  | _, _ => none
def quoA (x y : AV) : Option AV := match x, y with
  | .i k a, .i k' b => match ikEq k k' && !intEq b 0 with
    | true => some (.i k (wrapF k (a.tdiv b)))
    | false => none
  | _, _ => none
def remA (x y : AV) : Option AV := match x, y with
  | .i k a, .i k' b => match ikEq k k' && !intEq b 0 with
    | true => some (.i k (a.tmod b))
    | false => none
  | _, _ => none
def bitA (f : Nat → Nat → Nat) (x y : AV) : Option AV := match x, y with
  | .i k (.ofNat a), .i k' (.ofNat b) => match ikEq k k' && Nat.blt a (limN k) && Nat.blt b (limN k) with
    | true => some (.i k (.ofNat (f a b)))
    | false => none
  | _, _ => none
def shlA (x y : AV) : Option AV := match x, y with
  | .i k a, .i _ (.ofNat n) => match Nat.ble n k.bits with
    | true => some (.i k (wrapF k (Int.mul a (.ofNat (Nat.pow 2 n)))))
    | false => none
  | _, _ => none
def shrA (x y : AV) : Option AV := match x, y with
  | .i k (.ofNat a), .i _ (.ofNat n) => match Nat.blt n k.bits with
    | true => some (.i k (.ofNat (Nat.div a (Nat.pow 2 n))))
    | false => none
  | _, _ => none
def cmpA (f : Int → Int → Bool) (g : List Nat → List Nat → Bool) (x y : AV) : Option AV := match x, y with
  | .i k a, .i k' b => match ikEq k k' with
    | true => some (.b (f a b))
    | false => none
  | .s a, .s b => some (.b (g a b))
  | _, _ => none
def addAny (x y : AV) : Option AV := match x, y with
  | .s a, .s b => match Nat.ble (a.length + b.length) 100000000 with
    | true => some (.s (a ++ b))
    | false => none
  | _, _ => addA x y
def notA (x : AV) : Option AV := match x with
  | .b x => some (.b (!x))
  | _ => none
def negA (x : AV) : Option AV := match x with
  | .i k n => some (.i k (wrapF k (Int.neg n)))
  | _ => none

/-! ### equality at a type -/
def eqFields (P : Tab) (rec : TypeId → AV → AV → Option Bool) (xs ys : List AV) : List Field → Option Bool
  | [] => some true
  | f :: fs => match decide (f.name = "_"), shOf P f.type with
    | false, some s => match partA s xs f.offset, partA s ys f.offset with
      | some x, some y => match rec f.type x y with
        | some true => eqFields P rec xs ys fs
        | r => r
      | _, _ => none
    | _, _ => none

def eqElems (rec : AV → AV → Option Bool) : List AV → List AV → Option Bool
  | [], [] => some true
  | x :: xs, y :: ys => match rec x y with
    | some true => eqElems rec xs ys
    | r => r
  | _, _ => none

def eqPtr (P : Tab) (A : AW) (e : TypeId) (b : Pos) (o : Nat) (b' : Pos) (o' : Nat) : Option Bool :=
  match szOf P e with
  | some (_ + 1) => match posEq b b' with
    | true => some (Nat.beq o o')
    | false => match getBlk A b, getBlk A b' with
      | some k, some k' => match !k.ro && !k'.ro && Nat.blt o k.n && Nat.blt o' k'.n with
        | true => some false
        | false => none
      | _, _ => none
  | _ => none

def eqAtom (P : Tab) (A : AW) (d : TypeDesc) (x y : AV) : Option Bool :=
  match d, x, y with
  | .bool, .b a, .b b => some (boolEq a b)
  | .int _, .i k a, .i k' b => match ikEq k k' with
    | true => some (intEq a b)
    | false => none
  | .string, .s a, .s b => some (strEq a b)
  | .pointer _, .pn, .pn => some true
  | .pointer _, .pn, .p _ _ => some false
  | .pointer _, .p _ _, .pn => some false
  | .pointer e, .p b o, .p b' o' => eqPtr P A e b o b' o'
  | .interface _, .if0, .if0 => some true
  | .interface _, .if0, .ifc _ _ => some false
  | .interface _, .ifc _ _, .if0 => some false
  | .slice _, .sn, .sn => some true
  | .slice _, .sn, .sx .. => some false
  | .slice _, .sn, .su .. => some false
  | .slice _, .sx .., .sn => some false
  | .slice _, .su .., .sn => some false
  | .map _ _, .mn, .mn => some true
  | .map _ _, .mn, .m _ => some false
  | .map _ _, .m _, .mn => some false
  | .func _ _ _, .fn0, .fn0 => some true
  | .func _ _ _, .fn0, .f .. => some false
  | .func _ _ _, .f .., .fn0 => some false
  | _, _, _ => none

def eqA (P : Tab) (A : AW) : Nat → TypeId → AV → AV → Option Bool
  | 0, _, _, _ => none
  | d + 1, t, x, y => match P.underlying t with
    | none => none
    | some (.struct fs) => match x, y with
      | .agg xs, .agg ys => match P.stood t with
        | some true => none
        | none => none
        | some false => eqFields P (eqA P A d) xs ys fs.toList
      | _, _ => none
    | some (.array n e) => match x, y, isAggA P e, szOf P e with
      | .agg xs, .agg ys, some false, some 1 => match Nat.beq xs.length n && Nat.beq ys.length n with
        | true => eqElems (eqA P A d e) xs ys
        | false => none
      | _, _, _, _ => none
    | some u => eqAtom P A u x y

def isConstO : Operand → Bool
  | .const _ => true
  | _ => false
def guardOk (P : Tab) (t : TypeId) (c : Bool) (x y : AV) : Bool := match x, y with
  | .if0, .if0 => c
  | .agg _, .agg _ => match P.grd t with
    | some false => true
    | _ => false
  | _, _ => true
def isX : AV → Bool
  | .x _ => true
  | _ => false
def eqlA0 (P : Tab) (t : TypeId) (c : Bool) (A : AW) (x y : AV) : Option Bool := match x, y with
  | .i k a, .i k' b => match ikEq k k' with
    | true => some (intEq a b)
    | false => none
  | .s a, .s b => some (strEq a b)
  | .i _ _, _ => none
  | .s _, _ => none
  | _, _ => match guardOk P t c x y with
    | true => eqA P A 20 t x y
    | false => none
def eqlA (P : Tab) (t : TypeId) (c : Bool) (A : AW) (x y : AV) : Option Bool := match isX x || isX y with
  | true => none
  | false => eqlA0 P t c A x y

/-! ### allocation -/
def fillA (place : Nat → Option (Nat × Nat)) (n : Nat) : List (Nat × AV) → T AV → Option (T AV)
  | [], c => some c
  | (i, v) :: rest, c => match place i with
    | none => none
    | some (off, size) => match Nat.beq v.cells.length size && Nat.ble (off + v.cells.length) n && allCells v.cells with
      | true => fillA place n rest (putCells off v.cells c)
      | false => none
def zerosA : Nat → Nat → List AV → T AV → T AV
  | 0, _, _, c => c
  | n + 1, i, z, c => zerosA n (i + z.length) z (putCells i z c)
/-- fields' places -/
def placesA (P : Tab) : List Field → Option (List (Nat × Nat))
  | [] => some []
  | f :: fs => match szOf P f.type with
    | some s => match placesA P fs with
      | some l => some ((f.offset, s) :: l)
      | none => none
    | none => none

/-! ### slices -/
def natOf (x : AV) : Option Nat := match x with
  | .i _ (.ofNat n) => some n
  | _ => none

def sliceSx (s : Nat) (b : Pos) (off cap o h m : Nat) : Option AV :=
  match Nat.ble m cap && Nat.ble h m && Nat.ble o h with
  | true => match Nat.beq m o with
    | true => some (.sx b off (h - o) (m - o))
    | false => some (.sx b (off + o * s) (h - o) (m - o))
  | false => none
def getD (x : Option Nat) (d : Nat) : Nat := match x with
  | some n => n
  | none => d
def sliceA (d : TypeDesc) (s : Nat) (A : AW) (x : AV) (lo hi mx : Option Nat) : Option (AV × AW) :=
  match d, x with
  | .string, .s l => match mx with
    | some _ => none
    | none => match Nat.ble (getD hi l.length) l.length && Nat.ble (getD lo 0) (getD hi l.length) with
      | true => some (.s ((l.take (getD hi l.length)).drop (getD lo 0)), A)
      | false => none
  | .slice _, .sn => match Nat.beq (getD mx 0) 0 && Nat.beq (getD hi 0) 0 && Nat.beq (getD lo 0) 0 with
    | true => some (.sn, A)
    | false => none
  | .slice _, .sx b off len cap => match sliceSx s b off cap (getD lo 0) (getD hi len) (getD mx cap) with
    | some v => some (v, A)
    | none => none
  | .slice _, .su b off len sz => match getBlk A b, Nat.beq s sz with
    | some k, true => match mx with
      | some m => match Nat.ble (off + m * s) k.n && Nat.ble (getD hi len) m && Nat.ble (getD lo 0) (getD hi len) && Nat.blt (getD lo 0) m with
        | true => some (.sx b (off + (getD lo 0) * s) (getD hi len - getD lo 0) (m - getD lo 0), A)
        | false => none
      | none => match Nat.ble (getD lo 0) (getD hi len) && Nat.ble (off + (getD hi len) * s) k.n with
        | false => none
        | true => match getD lo 0 with
          | 0 => some (.su b off (getD hi len) sz, A)
          | o + 1 => match Nat.ble (off + (o + 1) * s + s) k.n with
            | true => some (.su b (off + (o + 1) * s) (getD hi len - (o + 1)) sz, A)
            | false => some (.su (pos A.nx) 0 0 sz, newBlk A k.el [] 0 false true)
    | _, _ => none
  | .array n _, .p b off => match sliceSx s b off n (getD lo 0) (getD hi n) (getD mx n) with
    | some v => some (v, A)
    | none => none
  | _, _ => none

/-! ### append, copy -/
def lenA : AV → Option Nat
  | .sn => some 0
  | .sx _ _ n _ => some n
  | .su _ _ n _ => some n
  | .s l => some l.length
  | _ => none
def bytesA : List Nat → List AV
  | [] => []
  | c :: l => .i .u8 (.ofNat c) :: bytesA l
def firstA (A : AW) (size n : Nat) : AV → Option (List AV)
  | .sn => some []
  | .sx b o _ _ => match n with
    | 0 => some []
    | _ + 1 => loadC A b o (n * size)
  | .su b o _ _ => match n with
    | 0 => some []
    | _ + 1 => loadC A b o (n * size)
  | .s l => match size with
    | 1 => some (bytesA (l.take n))
    | _ => none
  | _ => none

structure AppI where
  el : TypeId
  size : Nat
  bytes : Nat
  /-- 'append(s, make(.., n)...)': the cells of an element -/
  zero : Option (List AV)

def appInfo (P : Tab) (t u : TypeId) : Option AppI :=
  match P.underlying t with
  | some (.slice e) => match P.info? e, zeroA P e, P.underlying u with
    | some i, some z, some d => match Nat.blt 0 i.size && Nat.ble i.bytes 1000000 && Nat.beq z.cells.length i.size && allCells z.cells with
      | true => match d with
        | .int _ => some ⟨e, i.size, i.bytes, some z.cells⟩
        | _ => some ⟨e, i.size, i.bytes, none⟩
      | false => none
    | _, _, _ => none
  | _ => none

def appNew (I : AppI) (A : AW) (x : AV) : Option (Nat × List AV) :=
  match I.zero with
  | some z => match natOf x with
    | some n => match Nat.ble n 1000000 with
      | true => match getCells (zerosA n 0 z .leaf) 0 (n * I.size) with
        | some l => some (n, l)
        | none => none
      | false => none
    | none => none
  | none => match lenA x with
    | some n => match firstA A I.size n x with
      | some l => some (n, l)
      | none => none
    | none => none

def appGrow (I : AppI) (A : AW) (old new : List AV) (need : Nat) : Option (AV × AW) :=
  some (.su (pos A.nx) 0 need I.size, newBlk A I.el (old ++ new) (need * I.size) true false)

def appStore (A : AW) (b : Pos) (o : Nat) (new : List AV) (v : AV) : Option (AV × AW) :=
  match new with
  | [] => some (v, A)
  | _ :: _ => match storeC A b o new with
    | some A => some (v, A)
    | none => none

def appendA (I : AppI) (A : AW) (s x : AV) : Option (AV × AW) :=
  match appNew I A x with
  | none => none
  | some (n, new) => match s with
    | .sn => match n with
      | 0 => some (.sn, A)
      | _ + 1 => match Nat.ble n 100000000 with
        | true => appGrow I A [] new n
        | false => none
    | .sx b o len cap => match Nat.ble (len + n) cap with
      | true => appStore A b (o + len * I.size) new (.sx b o (len + n) cap)
      | false => match firstA A I.size len s, Nat.ble (len + n) 100000000 with
        | some old, true => appGrow I A old new (len + n)
        | _, _ => none
    | .su b o len sz => match getBlk A b, Nat.beq sz I.size with
      | some k, true => match k.ro with
        | true => none
        | false => match Nat.ble (o + (len + n) * I.size) k.n with
          | true => appStore A b (o + len * I.size) new (.su b o (len + n) sz)
          | false => match k.spare && Nat.ble (o + len * I.size) k.n && Nat.beq k.el I.el, firstA A I.size len s, Nat.ble (len + n) 100000000 with
            | true, some old, true => appGrow I ⟨T.del b A.h, A.nx⟩ old new (len + n)
            | _, _, _ => none
      | _, _ => none
    | _ => none

def copyA (size : Nat) (A : AW) (d s : AV) : Option (AV × AW) :=
  match lenA s, lenA d with
  | some ns, some nd => match firstA A size (Nat.min ns nd) s with
    | some l => match d with
      | .sn => some (.i .i64 (.ofNat (Nat.min ns nd)), A)
      | .sx b o _ _ => appStore A b o l (.i .i64 (.ofNat (Nat.min ns nd)))
      | .su b o _ _ => appStore A b o l (.i .i64 (.ofNat (Nat.min ns nd)))
      | _ => none
    | none => none
  | _, _ => none

/-! ### maps -/
mutual
def aveq : AV → AV → Bool
  | .b x, .b y => boolEq x y
  | .i k x, .i k' y => ikEq k k' && intEq x y
  | .s x, .s y => strEq x y
  | .pn, .pn => true
  | .p a b, .p c d => posEq a c && Nat.beq b d
  | .sn, .sn => true
  | .sx a b c d, .sx a' b' c' d' => posEq a a' && Nat.beq b b' && Nat.beq c c' && Nat.beq d d'
  | .su a b c d, .su a' b' c' d' => posEq a a' && Nat.beq b b' && Nat.beq c c' && Nat.beq d d'
  | .mn, .mn => true
  | .m a, .m b => posEq a b
  | .fn0, .fn0 => true
  | .if0, .if0 => true
  | .f (.func g) a b, .f (.func g') a' b' => Nat.beq g g' && (aveqL a a' && aveqL b b')
  | .yl a, .yl b => posEq a b
  | .ifc t x, .ifc t' y => Nat.beq t t' && aveq x y
  | .agg l, .agg l' => aveqL l l'
  | .tup l, .tup l' => aveqL l l'
  | _, _ => false
def aveqL : List AV → List AV → Bool
  | [], [] => true
  | a :: l, b :: l' => aveq a b && aveqL l l'
  | _, _ => false
end

def keyFields (P : Tab) (rec : TypeId → AV → Bool) (xs : List AV) : List Field → Bool
  | [] => true
  | f :: fs => match decide (f.name = "_") with
    | true => keyFields P rec xs fs
    | false => match shOf P f.type with
      | some s => match partA s xs f.offset with
        | some x => rec f.type x && keyFields P rec xs fs
        | none => false
      | none => false
def keyElems (rec : AV → Bool) : List AV → Bool
  | [] => true
  | x :: xs => rec x && keyElems rec xs
/-- the value is a key of its type: no check of it stops -/
def keyA (P : Tab) : Nat → TypeId → AV → Bool
  | 0, _, _ => false
  | d + 1, t, v => match P.underlying t with
    | some (.int _) => true
    | some .string => true
    | some .bool => true
    | some (.pointer _) => true
    | some (.struct fs) => match v with
      | .agg xs => keyFields P (keyA P d) xs fs.toList
      | _ => false
    | some (.array n e) => match v, isAggA P e, szOf P e with
      | .agg xs, some false, some 1 => Nat.beq xs.length n && keyElems (keyA P d e) xs
      | _, _, _ => false
    | _ => false
def plainL (rec : AV → Bool) : List AV → Bool
  | [] => true
  | x :: xs => rec x && plainL rec xs
def plainV : Nat → AV → Bool
  | _, .b _ => true
  | _, .i _ _ => true
  | _, .s _ => true
  | _, .pn => true
  | _, .p _ _ => true
  | d + 1, .agg l => plainL (plainV d) l
  | _, _ => false
def findA (eq : AV → Option Bool) : List (AV × AV × Nat) → Nat → Option (Option (Nat × AV))
  | [], _ => some none
  | (k, v, _) :: es, i => match eq k with
    | some true => some (some (i, v))
    | some false => findA eq es (i + 1)
    | none => none
def getMap (A : AW) (r : Pos) : Option (List (AV × AV × Nat) × Nat) :=
  match A.h.get r with
  | some (.map es c) => some (es, c)
  | _ => none
def outA (ok : Bool) (v : AV) (is : Bool) : AV := match ok with
  | true => .tup [v, .b is]
  | false => v
def lookupA (P : Tab) (kt : TypeId) (z : AV) (ok : Bool) (A : AW) (x k : AV) : Option AV := match keyA P 20 kt k with
  | false => none
  | true => match x with
    | .mn => some (outA ok z false)
    | .m r => match getMap A r with
      | some (es, _) => match findA (eqA P A 20 kt k) es 0 with
        | some (some (_, v)) => some (outA ok v true)
        | some none => some (outA ok z false)
        | none => none
      | none => none
    | _ => none
def keyAt : List (AV × AV × Nat) → Nat → Option AV
  | [], _ => none
  | (k, _, _) :: _, 0 => some k
  | _ :: es, i + 1 => keyAt es i
def keySame (es : List (AV × AV × Nat)) (i : Nat) (k : AV) : Bool := match keyAt es i with
  | some k' => aveq k' k && plainV 20 k
  | none => false
def setVal : List (AV × AV × Nat) → Nat → AV → AV → List (AV × AV × Nat)
  | [], _, _, _ => []
  | (_, _, n) :: es, 0, k, v => (k, v, n) :: es
  | e :: es, i + 1, k, v => e :: setVal es i k v
def setMap (A : AW) (r : Pos) (es : List (AV × AV × Nat)) (c : Nat) : AW := ⟨T.set r (.map es c) A.h, A.nx⟩
def updateA (P : Tab) (kt : TypeId) (A : AW) (x k v : AV) : Option AW := match keyA P 20 kt k with
  | false => none
  | true => match x with
  | .m r => match getMap A r with
    | some (es, c) => match findA (eqA P A 20 kt k) es 0 with
      | some (some (i, _)) => match keySame es i k with
        | true => some (setMap A r (setVal es i k v) c)
        | false => none
      | some none => some (setMap A r (es ++ [(k, v, c)]) (c + 1))
      | none => none
    | none => none
  | _ => none
def deleteA (P : Tab) (kt : TypeId) (A : AW) (x k : AV) : Option AW := match keyA P 20 kt k with
  | false => none
  | true => match x with
  | .mn => some A
  | .m r => match getMap A r with
    | some (es, c) => match findA (eqA P A 20 kt k) es 0 with
      | some (some (i, _)) => some (setMap A r (es.eraseIdx i) c)
      | some none => some (setMap A r es c)
      | none => none
    | none => none
  | _ => none

/-! ### iterators -/
def rangeA (d : TypeDesc) (A : AW) (x : AV) : Option (AV × AW) :=
  match d, x with
  | .string, .s l => some (.p (pos A.nx) 0, newObj A (.siter l 0))
  | .map _ _, .mn => some (.p (pos A.nx) 0, newObj A (.miter none 0 [] 0))
  | .map _ _, .m r => match getMap A r with
    | some (_, c) => some (.p (pos A.nx) 0, newObj A (.miter (some r) c [] c))
    | none => none
  | _, _ => none
def nextA (A : AW) (it : AV) : Option (AV × AW) :=
  match it with
  | .p r 0 => match A.h.get r with
    | some (.miter (some m) _ [] _) => match getMap A m with
      | some ([], _) => some (.tup [.b false], A)
      | _ => none
    | _ => none
  | _ => none

/-! ### conversions -/
def byteA (v : AV) : Option Nat := match v with
  | .i .u8 (.ofNat c) => match Nat.blt c 256 with
    | true => some c
    | false => none
  | _ => none
def bytesOfA : List AV → Option (List Nat)
  | [] => some []
  | v :: l => match byteA v with
    | some c => match bytesOfA l with
      | some m => some (c :: m)
      | none => none
    | none => none

/-- a variable of type u lies at the cell r of a variable of type e -/
def fieldHas (P : Tab) (rec : TypeId → Nat → Bool) (r : Nat) : List Field → Bool
  | [] => false
  | f :: fs => (match szOf P f.type with
    | some s => Nat.ble f.offset r && Nat.blt r (f.offset + s) && rec f.type (r - f.offset)
    | none => false) || fieldHas P rec r fs
def rowA (P : Tab) (u : TypeId) : Nat → TypeId → Nat → Bool
  | 0, _, _ => false
  | d + 1, e, r => match szOf P e with
    | some (s + 1) => Nat.blt r (s + 1) && (Nat.beq r 0 && Nat.beq e u || (match P.underlying e, P.stood e with
      | some (.struct fs), some false => fieldHas P (rowA P u d) r fs.toList
      | _, _ => false))
    | _ => false
inductive Conv where
  | toInt (k : IntKind)
  | same
  | toBytes (e : TypeId)
  | ofBytes
  | toUns
  | fromUns (fits : TypeId → Nat → Bool) (sz : TypeId → Option Nat)
def convOf (P : Tab) (src dst : TypeId) : Option Conv :=
  match P.underlying src, P.underlying dst with
  | some (.int _), some (.int k) => some (.toInt k)
  | some .string, some .string => some .same
  | some .string, some (.slice e) => match P.underlying e with
    | some (.int .u8) => some (.toBytes e)
    | _ => none
  | some (.slice e), some .string => match P.underlying e with
    | some (.int .u8) => some .ofBytes
    | _ => none
  | some .unsafePointer, some (.pointer u) => match szOf P u with
    | some (_ + 1) => some (.fromUns (rowA P u 10) (szOf P))
    | _ => none
  | some (.pointer u), some .unsafePointer => match szOf P u with
    | some (_ + 1) => some .toUns
    | _ => none
  | _, _ => none
def ofBytesA (A : AW) (b : Pos) (o n : Nat) : Option AV := match loadC A b o n with
  | some l => match bytesOfA l with
    | some m => some (.s m)
    | none => none
  | none => none
def convQ (c : Conv) (A : AW) (x : AV) : Option AV :=
  match c with
  | .toInt k => match x with
    | .i _ n => some (.i k (wrapF k n))
    | _ => none
  | .same => match x with
    | .s l => some (.s l)
    | _ => none
  | .toBytes _ => none
  | .ofBytes => match x with
    | .sn => some (.s [])
    | .sx b o n _ => ofBytesA A b o n
    | .su b o n _ => ofBytesA A b o n
    | _ => none
  | .toUns => match x with
    | .p b o => match getBlk A b with
      | some k => match Nat.blt o k.n with
        | true => some (.p b o)
        | false => none
      | none => none
    | _ => none
  | .fromUns fits sz => match x with
    | .p b o => match getBlk A b with
      | some k => match sz k.el with
        | some s => match !k.ro && !k.spare && fits k.el (Nat.mod o s) && Nat.ble (Nat.mul (Nat.div o s + 1) s) k.n with
          | true => some (.p b o)
          | false => none
        | none => none
      | none => none
    | _ => none
def toBytesA (e : TypeId) (A : AW) (x : AV) : Option (AV × AW) := match x with
  | .s l => some (.su (pos A.nx) 0 l.length 1, newBlk A e (bytesA l) l.length true true)
  | _ => none

/-! ### functions without a body -/
def indexB (c : Nat) : List Nat → Nat → Int
  | [], _ => -1
  | x :: l, i => match Nat.beq x c with
    | true => .ofNat i
    | false => indexB c l (i + 1)
def extA (e : Ext) (A : AW) (args : List AV) : Option (AV × AW) :=
  match e, args with
  | .load k, [.p b o] => match load1 A b o with
    | some (.i k' n) => match ikEq k k' with
      | true => some (.i k n, A)
      | false => none
    | _ => none
  | .nothing _, _ => some (.tup [], A)
  | .marked _, .p _ _ :: _ => some (.tup [], A)
  | .same, [v] => some (v, A)
  | .indexByte, [.s l, .i .u8 (.ofNat c)] => match Nat.blt c 256 with
    | true => some (.i .i64 (indexB c l 0), A)
    | false => none
  | .store, [.p b o, .i k n] => match storeC A b o [.i k n] with
    | some A => some (.tup [], A)
    | none => none
  | .add k, [.p b o, .i _ n] => match load1 A b o with
    | some (.i k' m) => match ikEq k k' with
      | true => match storeC A b o [.i k (wrapF k (Int.add m n))] with
        | some A => some (.i k (wrapF k (Int.add m n)), A)
        | none => none
      | false => none
    | _ => none
  | .cas k, [.p b o, .i _ x, .i k2 y] => match load1 A b o with
    | some (.i k' m) => match ikEq k k' with
      | true => match intEq m x with
        | true => match storeC A b o [.i k2 y] with
          | some A => some (.b true, A)
          | none => none
        | false => none
      | false => none
    | _ => none
  | _, _ => none

/-! ### operands -/
structure Ld where
  get : T AV → Option AV
def ldTmp (p : Pos) (tm : T AV) : Option AV := tm.get p
def ldC (v : AV) (_ : T AV) : Option AV := some v
def ldNo (_ : T AV) : Option AV := none
def compLd : Operand → Ld
  | .tmp t => ⟨ldTmp (pos t)⟩
  | .const v => match absV v with
    | some a => ⟨ldC a⟩
    | none => ⟨ldNo⟩
  | .global g => match Nat.blt g 32 with
    | true => ⟨ldC (.p (pos g) 0)⟩
    | false => ⟨ldNo⟩
  | .func f => ⟨ldC (.f (.func f) [] [])⟩
def compLds : List Operand → List Ld
  | [] => []
  | x :: l => compLd x :: compLds l
def lds : List Ld → T AV → Option (List AV)
  | [], _ => some []
  | x :: l, tm => match x.get tm with
    | some v => match lds l tm with
      | some m => some (v :: m)
      | none => none
    | none => none
def ldsI : List (Nat × Ld) → T AV → Option (List (Nat × AV))
  | [], _ => some []
  | (i, x) :: l, tm => match x.get tm with
    | some v => match ldsI l tm with
      | some m => some ((i, v) :: m)
      | none => none
    | none => none
def compLdsI : List (Nat × Operand) → List (Nat × Ld)
  | [] => []
  | (i, x) :: l => (i, compLd x) :: compLdsI l
def ldNat (x : Option Ld) (tm : T AV) : Option (Option Nat) :=
  match x with
  | none => some none
  | some x => match x.get tm with
    | some v => match natOf v with
      | some n => some (some n)
      | none => none
    | none => none
def ldO : Option Operand → Option Ld
  | none => none
  | some x => some (compLd x)

/-! ### operations -/
/-- quiet; acting; acting without a value; a call; a deferred call -/
inductive MO where
  | q (f : T AV → AW → Option AV)
  | g (f : T AV → AW → Option (AV × AW))
  | u (f : T AV → AW → Option AW)
  | c (f : T AV → Option (FuncId × List AV))
  | d (f : T AV → Option (FuncId × List AV))

def mMove (x : Ld) (tm : T AV) (_ : AW) : Option AV := x.get tm
def mPick (c a b : Ld) (tm : T AV) (_ : AW) : Option AV := match c.get tm with
  | some (.b true) => a.get tm
  | some (.b false) => b.get tm
  | _ => none
def mAlloc (t : TypeId) (l : List AV) (_ : T AV) (A : AW) : Option (AV × AW) := some (.p (pos A.nx) 0, newBlk A t l l.length false false)
def mBox (t : TypeId) (x : Ld) (tm : T AV) (A : AW) : Option (AV × AW) := match x.get tm with
  | some v => match allCells v.cells with
    | true => some (.p (pos A.nx) 0, newBlk A t v.cells v.cells.length false false)
    | false => none
  | none => none
def mBuild (places : List (Nat × Nat)) (z : T AV) (n : Nat) (parts : List (Nat × Ld)) (tm : T AV) (_ : AW) : Option AV := match ldsI parts tm with
  | some l => match fillA (nth places) n l z with
    | some c => match getCells c 0 n with
      | some l => some (.agg l)
      | none => none
    | none => none
  | none => none
def elemPlace (s i : Nat) : Option (Nat × Nat) := some (i * s, s)
def mBuildArr (s : Nat) (z : T AV) (n : Nat) (parts : List (Nat × Ld)) (tm : T AV) (_ : AW) : Option AV := match ldsI parts tm with
  | some l => match fillA (elemPlace s) n l z with
    | some c => match getCells c 0 n with
      | some l => some (.agg l)
      | none => none
    | none => none
  | none => none
def mBuildSlice (e : TypeId) (s len : Nat) (z : T AV) (parts : List (Nat × Ld)) (tm : T AV) (A : AW) : Option (AV × AW) := match ldsI parts tm with
  | some l => match fillA (elemPlace s) (len * s) l z with
    | some c => some (.sx (pos A.nx) 0 len len, newObj A (.cells ⟨c, len * s, e, false, false⟩))
    | none => none
  | none => none
def mLoad (s : Sh) (a : Ld) (tm : T AV) (A : AW) : Option AV := match a.get tm with
  | some v => loadA A s v
  | none => none
def mStore (n : Nat) (a x : Ld) (tm : T AV) (A : AW) : Option AW := match a.get tm, x.get tm with
  | some p, some v => storeA A n p v
  | _, _ => none
def nilOk (v : AV) : Option AV := match v with
  | .pn => none
  | .if0 => none
  | .fn0 => none
  | .f (.method _) _ _ => none
  | .x _ => none
  | y => some y
def mNil (x : Ld) (tm : T AV) (_ : AW) : Option AV := match x.get tm with
  | some v => nilOk v
  | none => none
def m2 (f : AV → AV → Option AV) (x y : Ld) (tm : T AV) (_ : AW) : Option AV := match x.get tm, y.get tm with
  | some a, some b => f a b
  | _, _ => none
def m1 (f : AV → Option AV) (x : Ld) (tm : T AV) (_ : AW) : Option AV := match x.get tm with
  | some a => f a
  | none => none
def mEq (P : Tab) (t : TypeId) (c : Bool) (x y : Ld) (tm : T AV) (A : AW) : Option AV := match x.get tm, y.get tm with
  | some a, some b => match eqlA P t c A a b with
    | some r => some (.b r)
    | none => none
  | _, _ => none
def mNe (P : Tab) (t : TypeId) (c : Bool) (x y : Ld) (tm : T AV) (A : AW) : Option AV := match x.get tm, y.get tm with
  | some a, some b => match eqlA P t c A a b with
    | some r => some (.b (!r))
    | none => none
  | _, _ => none
def mConv (c : Conv) (x : Ld) (tm : T AV) (A : AW) : Option AV := match x.get tm with
  | some a => convQ c A a
  | none => none
def mBytes (e : TypeId) (x : Ld) (tm : T AV) (A : AW) : Option (AV × AW) := match x.get tm with
  | some a => toBytesA e A a
  | none => none
def mIface (t : TypeId) (x : Ld) (tm : T AV) (_ : AW) : Option AV := match x.get tm with
  | some a => some (.ifc t a)
  | none => none
def mFunc (fn : Fn) (a b : List Ld) (tm : T AV) (_ : AW) : Option AV := match lds a tm, lds b tm with
  | some x, some y => some (.f fn x y)
  | _, _ => none
def mMap (_ : T AV) (A : AW) : Option (AV × AW) := some (.m (pos A.nx), newObj A (.map [] 0))
def mMapR (r : Ld) (tm : T AV) (A : AW) : Option (AV × AW) := match r.get tm with
  | some (.i _ _) => some (.m (pos A.nx), newObj A (.map [] 0))
  | _ => none
def mMake (e : TypeId) (s : Nat) (z : List AV) (l c : Ld) (tm : T AV) (A : AW) : Option (AV × AW) := match l.get tm, c.get tm with
  | some x, some y => match natOf x, natOf y with
    | some n, some m => match Nat.ble n m && Nat.ble m 1000000 with
      | true => some (.sx (pos A.nx) 0 n m, newObj A (.cells ⟨zerosA m 0 z .leaf, m * s, e, false, false⟩))
      | false => none
    | _, _ => none
  | _, _ => none
def mSlice (d : TypeDesc) (s : Nat) (x : Ld) (lo hi mx : Option Ld) (tm : T AV) (A : AW) : Option (AV × AW) :=
  match x.get tm, ldNat lo tm, ldNat hi tm, ldNat mx tm with
  | some v, some a, some b, some c => sliceA d s A v a b c
  | _, _, _, _ => none
def mFieldAddr (off : Nat) (x : Ld) (tm : T AV) (_ : AW) : Option AV := match x.get tm with
  | some (.p b o) => some (.p b (Nat.add o off))
  | _ => none
def mField (s : Sh) (off : Nat) (x : Ld) (tm : T AV) (_ : AW) : Option AV := match x.get tm with
  | some (.agg l) => partA s l off
  | _ => none
def mIdxAddrA (len s : Nat) (x i : Ld) (tm : T AV) (_ : AW) : Option AV := match x.get tm, i.get tm with
  | some (.p b o), some (.i _ (.ofNat n)) => match Nat.blt n len with
    | true => some (.p b (Nat.add o (Nat.mul n s)))
    | false => none
  | _, _ => none
def idxSl (s : Nat) (x : AV) (n : Nat) : Option AV := match x with
  | .sx b o len _ => match Nat.blt n len with
    | true => some (.p b (Nat.add o (Nat.mul n s)))
    | false => none
  | .su b o len _ => match Nat.blt n len with
    | true => some (.p b (Nat.add o (Nat.mul n s)))
    | false => none
  | _ => none
def mIdxAddrS (s : Nat) (x i : Ld) (tm : T AV) (_ : AW) : Option AV := match x.get tm, i.get tm with
  | some v, some (.i _ (.ofNat n)) => idxSl s v n
  | _, _ => none
def mIdxA (len : Nat) (sh : Sh) (s : Nat) (x i : Ld) (tm : T AV) (_ : AW) : Option AV := match x.get tm, i.get tm with
  | some (.agg l), some (.i _ (.ofNat n)) => match Nat.blt n len with
    | true => partA sh l (Nat.mul n s)
    | false => none
  | _, _ => none
def mIdxS (x i : Ld) (tm : T AV) (_ : AW) : Option AV := match x.get tm, i.get tm with
  | some (.s l), some (.i _ (.ofNat n)) => match nth l n with
    | some c => some (.i .u8 (.ofNat c))
    | none => none
  | _, _ => none
def mLookup (P : Tab) (kt : TypeId) (z : AV) (ok : Bool) (x i : Ld) (tm : T AV) (A : AW) : Option AV := match x.get tm, i.get tm with
  | some v, some k => lookupA P kt z ok A v k
  | _, _ => none
def mUpdate (P : Tab) (kt : TypeId) (m k x : Ld) (tm : T AV) (A : AW) : Option AW := match m.get tm, k.get tm, x.get tm with
  | some v, some i, some y => updateA P kt A v i y
  | _, _, _ => none
def mDelete (P : Tab) (kt : TypeId) (m k : Ld) (tm : T AV) (A : AW) : Option (AV × AW) := match m.get tm, k.get tm with
  | some v, some i => match deleteA P kt A v i with
    | some A => some (.tup [], A)
    | none => none
  | _, _ => none
def mRange (d : TypeDesc) (x : Ld) (tm : T AV) (A : AW) : Option (AV × AW) := match x.get tm with
  | some v => rangeA d A v
  | none => none
def mNext (x : Ld) (tm : T AV) (A : AW) : Option (AV × AW) := match x.get tm with
  | some v => nextA A v
  | none => none
def mExtract (x : Ld) (i : Nat) (tm : T AV) (_ : AW) : Option AV := match x.get tm with
  | some (.tup l) => nth l i
  | _ => none
def lenD (d : TypeDesc) (A : AW) (v : AV) : Option AV := match d with
  | .string => match v with
    | .s l => some (.i .i64 (.ofNat l.length))
    | _ => none
  | .slice _ => match v with
    | .sn => some (.i .i64 (.ofNat 0))
    | .sx _ _ n _ => some (.i .i64 (.ofNat n))
    | .su _ _ n _ => some (.i .i64 (.ofNat n))
    | _ => none
  | .map _ _ => match v with
    | .mn => some (.i .i64 (.ofNat 0))
    | .m r => match getMap A r with
      | some (es, _) => some (.i .i64 (.ofNat es.length))
      | none => none
    | _ => none
  | _ => none
def mLen (d : TypeDesc) (x : Ld) (tm : T AV) (A : AW) : Option AV := match x.get tm with
  | some v => lenD d A v
  | none => none
def mCap (x : Ld) (tm : T AV) (_ : AW) : Option AV := match x.get tm with
  | some .sn => some (.i .i64 (.ofNat 0))
  | some (.sx _ _ _ c) => some (.i .i64 (.ofNat c))
  | _ => none
def mAppend (I : AppI) (s x : Ld) (tm : T AV) (A : AW) : Option (AV × AW) := match s.get tm, x.get tm with
  | some a, some b => appendA I A a b
  | _, _ => none
def mCopy (size : Nat) (s x : Ld) (tm : T AV) (A : AW) : Option (AV × AW) := match s.get tm, x.get tm with
  | some a, some b => copyA size A a b
  | _, _ => none
def minI : AV → AV → Option AV := fun x y => match x, y with
  | .i k a, .i k' b => match ikEq k k' with
    | true => match intLt b a with
      | true => some (.i k b)
      | false => some (.i k a)
    | false => none
  | _, _ => none
def maxI : AV → AV → Option AV := fun x y => match x, y with
  | .i k a, .i k' b => match ikEq k k' with
    | true => match intLt a b with
      | true => some (.i k b)
      | false => some (.i k a)
    | false => none
  | _, _ => none
def foldMM (f : AV → AV → Option AV) : AV → List AV → Option AV
  | x, [] => some x
  | x, y :: l => match f x y with
    | some z => foldMM f z l
    | none => none
def mMinMax (f : AV → AV → Option AV) (x : Ld) (l : List Ld) (tm : T AV) (_ : AW) : Option AV := match x.get tm, lds l tm with
  | some (.i k n), some m => foldMM f (.i k n) m
  | _, _ => none
def sliceData (A : AW) (v : AV) : Option AV := match v with
  | .sn => some .pn
  | .sx b o _ (_ + 1) => some (.p b o)
  | .su b o _ (s + 1) => match getBlk A b with
    | some k => match Nat.ble (Nat.add o (s + 1)) k.n with
      | true => some (.p b o)
      | false => none
    | none => none
  | _ => none
def mSliceData (x : Ld) (tm : T AV) (A : AW) : Option AV := match x.get tm with
  | some v => sliceData A v
  | none => none
def usString (u : TypeId) (A : AW) (v : AV) (n : Nat) : Option (AV × AW) := match n with
  | 0 => none
  | _ + 1 => match v with
    | .p b o => match getBlk A b, loadC A b o n with
      | some k, some l => match bytesOfA l, !k.ro && Nat.beq k.el u && Nat.ble n 1000000000 with
        | some m, true => some (.s m, setBlk A b { k with ro := true })
        | _, _ => none
      | _, _ => none
    | _ => none
def mUsString (u : TypeId) (x n : Ld) (tm : T AV) (A : AW) : Option (AV × AW) := match x.get tm, n.get tm with
  | some v, some (.i _ (.ofNat n)) => usString u A v n
  | _, _ => none
def mExt (e : Ext) (args : List Ld) (tm : T AV) (A : AW) : Option (AV × AW) := match lds args tm with
  | some l => extA e A l
  | none => none
/-- a call of a function that the text names -/
def mCallF (f : FuncId) (args : List Ld) (tm : T AV) : Option (FuncId × List AV) := match lds args tm with
  | some l => some (f, l)
  | none => none
/-- a call of a function value -/
def mCallV (bodies : FuncId → Bool) (f : Ld) (args : List Ld) (tm : T AV) : Option (FuncId × List AV) := match f.get tm, lds args tm with
  | some (.f (.func g) a b), some l => match bodies g with
    | true => some (g, a ++ l ++ b)
    | false => none
  | _, _ => none

def hasBody (P : Tab) (g : FuncId) : Bool := match P.fnc g with
  | some fn => match fn.body with
    | some _ => true
    | none => false
  | none => false

def compBin (P : Tab) (op : BinOp) (t : TypeId) (x y : Operand) : MO :=
  match op with
  | .add => .q (m2 addAny (compLd x) (compLd y))
  | .sub => .q (m2 subA (compLd x) (compLd y))
  | .mul => .q (m2 mulA (compLd x) (compLd y))
  | .quo => .q (m2 quoA (compLd x) (compLd y))
  | .rem => .q (m2 remA (compLd x) (compLd y))
  | .and => .q (m2 (bitA Nat.land) (compLd x) (compLd y))
  | .or => .q (m2 (bitA Nat.lor) (compLd x) (compLd y))
  | .shl => .q (m2 shlA (compLd x) (compLd y))
  | .shr => .q (m2 shrA (compLd x) (compLd y))
  | .lss => .q (m2 (cmpA intLt lessA) (compLd x) (compLd y))
  | .leq => .q (m2 (cmpA (fun a b => !intLt b a) (fun a b => lessA a b || strEq a b)) (compLd x) (compLd y))
  | .gtr => .q (m2 (cmpA (fun a b => intLt b a) (fun a b => !(lessA a b || strEq a b))) (compLd x) (compLd y))
  | .geq => .q (m2 (cmpA (fun a b => !intLt a b) (fun a b => !lessA a b)) (compLd x) (compLd y))
  | .eql => .q (mEq P t (isConstO x || isConstO y) (compLd x) (compLd y))
  | .neq => .q (mNe P t (isConstO x || isConstO y) (compLd x) (compLd y))
  | _ => .u fun _ _ => none

def moNo : MO := .u fun _ _ => none

def compBuild (P : Tab) (t : TypeId) (parts : List (Nat × Operand)) : MO :=
  match zeroA P t, P.underlying t with
  | some z, some (.struct fs) => match placesA P fs.toList, allCells z.cells with
    | some pl, true => .q (mBuild pl (putCells 0 z.cells .leaf) z.cells.length (compLdsI parts))
    | _, _ => moNo
  | some z, some (.array _ e) => match szOf P e, allCells z.cells with
    | some s, true => .q (mBuildArr s (putCells 0 z.cells .leaf) z.cells.length (compLdsI parts))
    | _, _ => moNo
  | _, _ => moNo

def compBuildSlice (P : Tab) (t : TypeId) (len : Nat) (parts : List (Nat × Operand)) : MO :=
  match P.underlying t with
  | some (.slice e) => match szOf P e, zeroA P e with
    | some (s + 1), some z => match Nat.beq z.cells.length (s + 1) && allCells z.cells && Nat.blt (len * (s + 1)) 16777216 with
      | true => .g (mBuildSlice e (s + 1) len (zerosA len 0 z.cells .leaf) (compLdsI parts))
      | false => moNo
    | _, _ => moNo
  | _ => moNo

def compMake (P : Tab) (t : TypeId) (l c : Operand) : MO :=
  match P.underlying t with
  | some (.slice e) => match P.info? e, zeroA P e with
    | some i, some z => match Nat.beq z.cells.length i.size && allCells z.cells && Nat.blt 0 i.size && Nat.ble i.bytes 1000000 with
      | true => .g (mMake e i.size z.cells (compLd l) (compLd c))
      | false => moNo
    | _, _ => moNo
  | _ => moNo

def maxAlone (hi mx : Option Operand) : Bool := match hi, mx with
  | none, some _ => true
  | _, _ => false
def compSlice (P : Tab) (t : TypeId) (x : Operand) (lo hi mx : Option Operand) : MO := match maxAlone hi mx with
  | true => moNo
  | false => match P.underlying t with
  | some .string => .g (mSlice .string 1 (compLd x) (ldO lo) (ldO hi) (ldO mx))
  | some (.slice e) => match szOf P e with
    | some (s + 1) => .g (mSlice (.slice e) (s + 1) (compLd x) (ldO lo) (ldO hi) (ldO mx))
    | _ => moNo
  | some (.array n e) => match szOf P e with
    | some (s + 1) => .g (mSlice (.array n e) (s + 1) (compLd x) (ldO lo) (ldO hi) (ldO mx))
    | _ => moNo
  | _ => moNo

def fieldOf (P : Tab) (t : TypeId) (f : Nat) : Option Field :=
  match P.underlying t with
  | some (.struct fs) => fs[f]?
  | _ => none
def compFieldAddr (P : Tab) (t : TypeId) (x : Operand) (f : Nat) : MO :=
  match fieldOf P t f with
  | some fd => match szOf P fd.type with
    | some (_ + 1) => .q (mFieldAddr fd.offset (compLd x))
    | _ => moNo
  | none => moNo
def compField (P : Tab) (t : TypeId) (x : Operand) (f : Nat) : MO :=
  match fieldOf P t f with
  | some fd => match shOf P fd.type with
    | some s => .q (mField s fd.offset (compLd x))
    | none => moNo
  | none => moNo
def compIndexAddr (P : Tab) (t : TypeId) (x i : Operand) : MO :=
  match P.underlying t with
  | some (.array n e) => match szOf P e with
    | some s => .q (mIdxAddrA n s (compLd x) (compLd i))
    | none => moNo
  | some (.slice e) => match szOf P e with
    | some s => .q (mIdxAddrS s (compLd x) (compLd i))
    | none => moNo
  | _ => moNo
def compIndex (P : Tab) (t : TypeId) (x i : Operand) : MO :=
  match P.underlying t with
  | some (.array n e) => match szOf P e, shOf P e with
    | some s, some sh => .q (mIdxA n sh s (compLd x) (compLd i))
    | _, _ => moNo
  | some .string => .q (mIdxS (compLd x) (compLd i))
  | _ => moNo
def compLookup (P : Tab) (t : TypeId) (x i : Operand) (ok : Bool) : MO :=
  match P.underlying t with
  | some (.map kt e) => match zeroA P e with
    | some z => .q (mLookup P kt z ok (compLd x) (compLd i))
    | none => moNo
  | _ => moNo
def compUpdate (P : Tab) (t : TypeId) (m k x : Operand) : MO :=
  match P.underlying t with
  | some (.map kt _) => .u (mUpdate P kt (compLd m) (compLd k) (compLd x))
  | _ => moNo
def compConv (P : Tab) (s d : TypeId) (x : Operand) : MO :=
  match convOf P s d with
  | some (.toBytes e) => .g (mBytes e (compLd x))
  | some c => .q (mConv c (compLd x))
  | none => moNo

def compBuiltin (P : Tab) (b : Builtin) (ats : List TypeId) (args : List Operand) : MO :=
  match b, args with
  | .len, [x] => match ats with
    | t :: _ => match P.underlying t with
      | some d => .q (mLen d (compLd x))
      | none => moNo
    | _ => moNo
  | .cap, [x] => match ats with
    | t :: _ => match P.underlying t with
      | some (.slice _) => .q (mCap (compLd x))
      | _ => moNo
    | _ => moNo
  | .append, [s, x] => match ats with
    | [t, u] => match appInfo P t u with
      | some I => .g (mAppend I (compLd s) (compLd x))
      | none => moNo
    | _ => moNo
  | .copy, [s, x] => match ats with
    | t :: _ => match P.underlying t with
      | some (.slice e) => match szOf P e with
        | some n => .g (mCopy n (compLd s) (compLd x))
        | none => moNo
      | _ => moNo
    | _ => moNo
  | .min, x :: l => .q (mMinMax minI (compLd x) (compLds l))
  | .max, x :: l => .q (mMinMax maxI (compLd x) (compLds l))
  | .delete, [m, k] => match ats with
    | t :: _ => match P.underlying t with
      | some (.map kt _) => .g (mDelete P kt (compLd m) (compLd k))
      | _ => moNo
    | _ => moNo
  | .unsafeSliceData, [x] => .q (mSliceData (compLd x))
  | .unsafeString, [x, n] => match ats with
    | t :: _ => match P.underlying t with
      | some (.pointer u) => match szOf P u with
        | some 1 => .g (mUsString u (compLd x) (compLd n))
        | _ => moNo
      | _ => moNo
    | _ => moNo
  | _, _ => moNo

def compCall (P : Tab) (c : Call) : MO :=
  match c.callee with
  | .builtin b => compBuiltin P b c.argTypes.toList c.args.toList
  | .value (.func f) => match P.ext f with
    | some e => .g (mExt e (compLds c.args.toList))
    | none => match P.fnc f with
      | some fn => match fn.body with
        | some _ => .c (mCallF f (compLds c.args.toList))
        | none => moNo
      | none => moNo
  | .value f => .c (mCallV (hasBody P) (compLd f) (compLds c.args.toList))
  | .invoke _ _ => moNo

def compOp (P : Tab) : Op → MO
  | .move x => .q (mMove (compLd x))
  | .assign x => .q (mMove (compLd x))
  | .pick c a b => .q (mPick (compLd c) (compLd a) (compLd b))
  | .alloc t => match zeroA P t with
    | some z => match allCells z.cells with
      | true => .g (mAlloc t z.cells)
      | false => moNo
    | none => moNo
  | .box t x => .g (mBox t (compLd x))
  | .build t parts => compBuild P t parts.toList
  | .buildSlice t len parts => compBuildSlice P t len parts.toList
  | .load t a => match shOf P t with
    | some s => .q (mLoad s (compLd a))
    | none => moNo
  | .store t a x => match szOf P t with
    | some n => .u (mStore n (compLd a) (compLd x))
    | none => moNo
  | .nilCheck x => .q (mNil (compLd x))
  | .binOp op t x y _ => compBin P op t x y
  | .unOp op _ x => match op with
    | .not => .q (m1 notA (compLd x))
    | .neg => .q (m1 negA (compLd x))
    | _ => moNo
  | .convert s d x => compConv P s d x
  | .makeInterface t x => match P.underlying t with
    | some (.interface _) => moNo
    | some _ => .q (mIface t (compLd x))
    | none => moNo
  | .makeFunc fn a b => .q (mFunc fn (compLds a.toList) (compLds b.toList))
  | .makeMap _ none => .g mMap
  | .makeMap t (some r) => match P.underlying t with
    | some (.map _ _) => .g (mMapR (compLd r))
    | _ => moNo
  | .makeSlice t l c => compMake P t l c
  | .slice t x lo hi mx => compSlice P t x lo hi mx
  | .fieldAddr t x f => compFieldAddr P t x f
  | .field t x f => compField P t x f
  | .indexAddr t x i => compIndexAddr P t x i
  | .index t x i => compIndex P t x i
  | .lookup t x i ok => compLookup P t x i ok
  | .mapUpdate t m k x => compUpdate P t m k x
  | .insert t m k x => compUpdate P t m k x
  | .range t x => match P.underlying t with
    | some d => .g (mRange d (compLd x))
    | none => moNo
  | .next it is => match is with
    | false => .g (mNext (compLd it))
    | true => moNo
  | .extract t i => .q (mExtract (compLd t) i)
  | .call c => compCall P c
  | .defer c => match c.callee with
    | .value f => .d (mCallV (hasBody P) (compLd f) (compLds c.args.toList))
    | _ => moNo
  | _ => moNo

/-! ### steps -/
inductive DA where
  | call (f : FuncId) (args : List AV)
  | mark (b : Pos)
inductive S3 where
  | mk (tm : T AV) (A : AW) (df : List DA)
abbrev CallF := FuncId → List AV → AW → Option (AV × AW)
structure MStep where
  go : CallF → T AV → AW → List DA → Option S3

def putO (d : Option Pos) (v : AV) (tm : T AV) : T AV := match d with
  | some p => tm.set p v
  | none => tm
def stQ (d : Option Pos) (f : T AV → AW → Option AV) (_ : CallF) (tm : T AV) (A : AW) (df : List DA) : Option S3 := match f tm A with
  | some v => some (.mk (putO d v tm) A df)
  | none => none
def stG (d : Option Pos) (f : T AV → AW → Option (AV × AW)) (_ : CallF) (tm : T AV) (A : AW) (df : List DA) : Option S3 := match f tm A with
  | some (v, A) => some (.mk (putO d v tm) A df)
  | none => none
def stU (d : Option Pos) (f : T AV → AW → Option AW) (_ : CallF) (tm : T AV) (A : AW) (df : List DA) : Option S3 := match f tm A with
  | some A => some (.mk (putO d (.tup []) tm) A df)
  | none => none
def stC (d : Option Pos) (f : T AV → Option (FuncId × List AV)) (call : CallF) (tm : T AV) (A : AW) (df : List DA) : Option S3 := match f tm with
  | some (g, args) => match call g args A with
    | some (v, A) => some (.mk (putO d v tm) A df)
    | none => none
  | none => none
def stD (d : Option Pos) (f : T AV → Option (FuncId × List AV)) (_ : CallF) (tm : T AV) (A : AW) (df : List DA) : Option S3 := match f tm with
  | some (g, args) => some (.mk (putO d (.tup []) tm) A (.call g args :: df))
  | none => none
def compMO (d : Option Pos) : MO → MStep
  | .q f => ⟨stQ d f⟩
  | .g f => ⟨stG d f⟩
  | .u f => ⟨stU d f⟩
  | .c f => ⟨stC d f⟩
  | .d f => ⟨stD d f⟩
def dstP : Option Tmp → Option Pos
  | some d => some (pos d)
  | none => none
/-- a guarded one -/
def stGuard (p : Pos) (want : Bool) (d : Option Pos) (s : MStep) (call : CallF) (tm : T AV) (A : AW) (df : List DA) : Option S3 := match tm.get p with
  | some (.b x) => match boolEq x want with
    | true => s.go call tm A df
    | false => some (.mk (putO d (.tup []) tm) A df)
  | some (.x _) => none
  | some _ => some (.mk (putO d (.tup []) tm) A df)
  | none => none
def stNo (_ : CallF) (_ : T AV) (_ : AW) (_ : List DA) : Option S3 := none
def dstIn (nt : Nat) : Option Tmp → Bool
  | some d => Nat.blt d nt
  | none => true
def compStep (P : Tab) (nt : Nat) (ops : Array Oper) (o : Oper) : MStep := match dstIn nt o.dst with
  | false => ⟨stNo⟩
  | true => match o.guard with
  | none => compMO (dstP o.dst) (compOp P o.op)
  | some (j, want) => match ops[j]? with
    | some oj => match oj.dst with
      | some t => ⟨stGuard (pos t) want (dstP o.dst) (compMO (dstP o.dst) (compOp P o.op))⟩
      | none => ⟨stNo⟩
    | none => ⟨stNo⟩
def compSteps (P : Tab) (nt : Nat) (ops : Array Oper) : List Oper → List MStep
  | [] => []
  | o :: l => compStep P nt ops o :: compSteps P nt ops l
def goSteps : List MStep → CallF → T AV → AW → List DA → Option S3
  | [], _, tm, A, df => some (.mk tm A df)
  | s :: l, call, tm, A, df => match s.go call tm A df with
    | some (.mk tm A df) => goSteps l call tm A df
    | none => none

/-! ### code -/
inductive EX where
  | nrm
  | ex (id : Nat)
  | ret
inductive R4 where
  | mk (e : EX) (tm : T AV) (A : AW) (df : List DA)
structure Den where
  run : CallF → Nat → T AV → AW → List DA → Option R4

def dSkip (_ : CallF) (_ : Nat) (tm : T AV) (A : AW) (df : List DA) : Option R4 := some (.mk .nrm tm A df)
def dRet (_ : CallF) (_ : Nat) (tm : T AV) (A : AW) (df : List DA) : Option R4 := some (.mk .ret tm A df)
def dExit (id : Nat) (_ : CallF) (_ : Nat) (tm : T AV) (A : AW) (df : List DA) : Option R4 := some (.mk (.ex id) tm A df)
def dNo (_ : CallF) (_ : Nat) (_ : T AV) (_ : AW) (_ : List DA) : Option R4 := none
def dSteps (l : List MStep) (call : CallF) (_ : Nat) (tm : T AV) (A : AW) (df : List DA) : Option R4 := match goSteps l call tm A df with
  | some (.mk tm A df) => some (.mk .nrm tm A df)
  | none => none
def dSeq (a b : Den) (call : CallF) (n : Nat) (tm : T AV) (A : AW) (df : List DA) : Option R4 := match a.run call n tm A df with
  | some (.mk .nrm tm A df) => b.run call n tm A df
  | r => r
def dCond (c : Ld) (a b : Den) (call : CallF) (n : Nat) (tm : T AV) (A : AW) (df : List DA) : Option R4 := match c.get tm with
  | some (.b true) => a.run call n tm A df
  | some (.b false) => b.run call n tm A df
  | _ => none
def dBlock (id : Nat) (a : Den) (call : CallF) (n : Nat) (tm : T AV) (A : AW) (df : List DA) : Option R4 := match a.run call n tm A df with
  | some (.mk (.ex j) tm A df) => match Nat.beq j id with
    | true => some (.mk .nrm tm A df)
    | false => some (.mk (.ex j) tm A df)
  | r => r
def loopF (a : Den) (call : CallF) (n : Nat) : Nat → T AV → AW → List DA → Option R4
  | 0, _, _, _ => none
  | k + 1, tm, A, df => match a.run call n tm A df with
    | some (.mk .nrm tm A df) => loopF a call n k tm A df
    | r => r
def dLoop (a : Den) (call : CallF) (n : Nat) (tm : T AV) (A : AW) (df : List DA) : Option R4 := loopF a call n n tm A df
/-- a range over a function that never yields -/
def dRangeF (f : Ld) (bodies : FuncId → Bool) (call : CallF) (_ : Nat) (tm : T AV) (A : AW) (df : List DA) : Option R4 := match f.get tm with
  | some (.f (.func g) a b) => match bodies g with
    | true => match call g (a ++ [.yl (pos (A.nx + 1))] ++ b) (newObj (newObj A .dfr) .loop) with
      | some (_, A') => match A'.h.get (pos (A.nx + 1)) with
        | some .loop => some (.mk .nrm tm ⟨T.del (pos (A.nx + 1)) A'.h, A'.nx⟩ (.mark (pos A.nx) :: df))
        | _ => none
      | none => none
    | false => none
  | _ => none

/-! ### regions that draw their order -/
def bit (m i : Nat) : Bool := Nat.beq (Nat.land (Nat.shiftRight m i) 1) 1
def natAt (t : T Nat) (i : Nat) : Nat := match t.get (pos i) with
  | some m => m
  | none => 0
/-- all that comes ahead of each, by bits -/
def preE (acc : T Nat) (n : Nat) : List Edge → Nat → Option Nat
  | [], m => some m
  | e :: es, m => match Region.binds .any e with
    | false => preE acc n es m
    | true => match bit m e.on with
      | true => preE acc n es m
      | false => match Nat.blt e.on n with
        | true => preE acc n es (Nat.lor m (Nat.lor (Nat.shiftLeft 1 e.on) (natAt acc e.on)))
        | false => none
def preF : List Oper → T Nat → Nat → Option (T Nat)
  | [], acc, _ => some acc
  | o :: os, acc, n => match preE acc n o.after.toList 0 with
    | some m => preF os (acc.set (pos n) m) (n + 1)
    | none => none
def slots : List Operand → List Nat
  | [] => []
  | .tmp t :: l => t :: slots l
  | _ :: l => slots l
def dstAt (ops : Array Oper) (j : Nat) : List Nat := match ops[j]? with
  | some o => match o.dst with
    | some d => [d]
    | none => []
  | none => []
def looks (ops : Array Oper) (o : Oper) : List Nat := slots o.op.operands.toList ++ (match o.guard with
  | some (j, _) => dstAt ops j
  | none => [])
/-- who writes each slot; each at most once -/
def writers : List Oper → Nat → T Nat → Option (T Nat)
  | [], _, W => some W
  | o :: os, i, W => match o.dst with
    | none => writers os (i + 1) W
    | some d => match W.get (pos d) with
      | some _ => none
      | none => writers os (i + 1) (W.set (pos d) i)

/-- what an operation does: it looks, it lays a new object, it acts -/
inductive DK where
  | q (f : T AV → AW → Option AV)
  | a (f : T AV → AW → Option (AV × AW))
  | e (m : MO)
/-- a slice of a slice: no new name -/
def noNew (f : T AV → AW → Option (AV × AW)) (tm : T AV) (A : AW) : Option AV := match f tm A with
  | some (v, A') => match Nat.beq A'.nx A.nx with
    | true => some v
    | false => none
  | none => none
def dkOf (P : Tab) (op : Op) : DK := match op, compOp P op with
  | _, .q f => .q f
  | .slice .., .g f => .q (noNew f)
  | .alloc .., .g f => .a f
  | .box .., .g f => .a f
  | .buildSlice .., .g f => .a f
  | .makeMap .., .g f => .a f
  | .makeSlice .., .g f => .a f
  | _, m => .e m
def dks (P : Tab) : List Oper → List DK
  | [] => []
  | o :: l => dkOf P o.op :: dks P l
def effIdx : List DK → Nat → List Nat
  | [], _ => []
  | .e _ :: ks, i => i :: effIdx ks (i + 1)
  | _ :: ks, i => effIdx ks (i + 1)
def layIdx : List DK → Nat → List Nat
  | [], _ => []
  | .a _ :: ks, i => i :: layIdx ks (i + 1)
  | _ :: ks, i => layIdx ks (i + 1)
/-- for how many of the acting ones it waits -/
def waits (m : Nat) : List Nat → Nat
  | [] => 0
  | e :: l => match bit m e with
    | true => waits m l + 1
    | false => waits m l
/-- how many of the acting ones wait for number i, or are it -/
def waiting (pre : T Nat) (i : Nat) : List Nat → Nat
  | [] => 0
  | e :: l => match bit (natAt pre e) i || Nat.beq e i with
    | true => waiting pre i l + 1
    | false => waiting pre i l
def anyPre (pre : T Nat) (a : Nat) : List Nat → Bool
  | [] => false
  | e :: l => bit (natAt pre e) a || anyPre pre a l
def anyPre2 (pre : T Nat) (m a : Nat) : List Nat → Bool
  | [] => false
  | e :: l => bit m e && bit (natAt pre e) a || anyPre2 pre m a l
/-- those of the laid ones that m waits for, and none of the acting ones ahead of it -/
def takesOf (pre : T Nat) (m : Nat) (effs : List Nat) : List Nat → List Nat
  | [] => []
  | a :: l => match bit m a && !anyPre2 pre m a effs with
    | true => a :: takesOf pre m effs l
    | false => takesOf pre m effs l
def restOf (pre : T Nat) (effs : List Nat) : List Nat → List Nat
  | [] => []
  | a :: l => match anyPre pre a effs with
    | true => restOf pre effs l
    | false => a :: restOf pre effs l
/-- where each slot's value comes from: of another operation, or from ahead of the region -/
def srcOf (pre W : T Nat) (i : Nat) : List Nat → Option (List (Pos × Option Pos))
  | [] => some []
  | t :: l => match srcOf pre W i l with
    | none => none
    | some m => match W.get (pos t) with
      | none => some ((pos t, none) :: m)
      | some j => match bit (natAt pre i) j with
        | true => some ((pos t, some (pos j)) :: m)
        | false => match bit (natAt pre j) i with
          | true => some ((pos t, none) :: m)
          | false => none

inductive DK2 where
  | q (f : T AV → AW → Option AV) (r : Option (Nat × Nat))
  | a (f : T AV → AW → Option (AV × AW))
  | e (m : MO) (take : List Nat)
structure DO where
  src : List (Pos × Option Pos)
  grd : Option (Pos × Bool)
  k : DK2
structure Stg where
  A : AW
  df : List DA
structure Rd where
  f : T AV → AW → Option AV
  v : T AV
  u : AV
  lo : Nat
  hi : Nat
inductive DS where
  | mk (val : T AV) (fl : T AObj) (sg : T Stg) (rds : List Rd)

def mkView (val tm0 : T AV) : List (Pos × Option Pos) → T AV
  | [] => .leaf
  | (t, s) :: l => match (match s with | some j => val.get j | none => tm0.get t) with
    | some u => (mkView val tm0 l).set t u
    | none => mkView val tm0 l
def takeIn (fl : T AObj) (base : Nat) : List Nat → AW → AW
  | [], A => A
  | i :: l, A => match fl.get (pos i) with
    | some o => takeIn fl base l ⟨T.set (pos (base + i)) o A.h, A.nx⟩
    | none => takeIn fl base l A
def runMO (m : MO) (call : CallF) (tm : T AV) (A : AW) (df : List DA) : Option (AV × Stg) := match m with
  | .q f => match f tm A with
    | some v => some (v, ⟨A, df⟩)
    | none => none
  | .g f => match f tm A with
    | some (v, A) => some (v, ⟨A, df⟩)
    | none => none
  | .u f => match f tm A with
    | some A => some (.tup [], ⟨A, df⟩)
    | none => none
  | .c f => match f tm with
    | some (g, args) => match call g args A with
      | some (v, A) => some (v, ⟨A, df⟩)
      | none => none
    | none => none
  | .d f => match f tm with
    | some (g, args) => some (.tup [], ⟨A, .call g args :: df⟩)
    | none => none
def dRun (base res i j : Nat) (k : DK2) (v : T AV) (call : CallF) : DS → Option DS
  | .mk val fl sg rds => match k with
    | .q f r => match sg.get (pos j) with
      | some s => match f v s.A with
        | some u => some (.mk (val.set (pos i) u) fl sg (match r with
          | some (lo, hi) => ⟨f, v, u, lo, hi⟩ :: rds
          | none => rds))
        | none => none
      | none => none
    | .a f => match Nat.blt i res with
      | true => match f v ⟨.leaf, base + i⟩ with
        | some (u, A') => match A'.h.get (pos (base + i)) with
          | some o => some (.mk (val.set (pos i) u) (fl.set (pos i) o) sg rds)
          | none => none
        | none => none
      | false => none
    | .e m take => match sg.get (pos j) with
      | some s => match runMO m call v (takeIn fl base take s.A) s.df with
        | some (u, s') => some (.mk (val.set (pos i) u) fl (sg.set (pos (j + 1)) s') rds)
        | none => none
      | none => none
def dPass (base i j : Nat) (k : DK2) : DS → Option DS
  | .mk val fl sg rds => match k with
    | .e _ take => match sg.get (pos j) with
      | some s => some (.mk (val.set (pos i) (.tup [])) fl (sg.set (pos (j + 1)) ⟨takeIn fl base take s.A, s.df⟩) rds)
      | none => none
    | _ => some (.mk (val.set (pos i) (.tup [])) fl sg rds)
def DS.val : DS → T AV
  | .mk val _ _ _ => val
def dStep (tm0 : T AV) (base res i j : Nat) (o : DO) (call : CallF) (st : DS) : Option DS :=
  match o.grd with
  | none => dRun base res i j o.k (mkView st.val tm0 o.src) call st
  | some (p, want) => match (mkView st.val tm0 o.src).get p with
    | some (.b x) => match boolEq x want with
      | true => dRun base res i j o.k (mkView st.val tm0 o.src) call st
      | false => dPass base i j o.k st
    | some (.x _) => none
    | some _ => dPass base i j o.k st
    | none => none
def nextJ (k : DK2) (j : Nat) : Nat := match k with
  | .e _ _ => j + 1
  | _ => j
def goD (tm0 : T AV) (base res : Nat) (call : CallF) : List DO → Nat → Nat → DS → Option DS
  | [], _, _, st => some st
  | o :: l, i, j, st => match dStep tm0 base res i j o call st with
    | some st => goD tm0 base res call l (i + 1) (nextJ o.k j) st
    | none => none
def readIs (f : T AV → AW → Option AV) (tm : T AV) (v : AV) (A : AW) : Bool := match f tm A with
  | some u => aveq u v
  | none => false
def rdOk (sg : T Stg) (r : Rd) : Nat → Nat → Bool
  | _, 0 => true
  | c, n + 1 => match sg.get (pos c) with
    | some s => readIs r.f r.v r.u s.A && rdOk sg r (c + 1) n
    | none => false
def rdsOk (sg : T Stg) : List Rd → Bool
  | [] => true
  | r :: l => rdOk sg r r.lo (r.hi + 1 - r.lo) && rdsOk sg l
def outs (val : T AV) : List Oper → Nat → T AV → Option (T AV)
  | [], _, tm => some tm
  | o :: l, i, tm => match o.dst with
    | none => outs val l (i + 1) tm
    | some d => match val.get (pos i) with
      | some u => outs val l (i + 1) (tm.set (pos d) u)
      | none => none

def resOf (n : Nat) : List Nat → Nat
  | [] => 0
  | _ :: _ => n
structure DReg where
  l : List DO
  res : Nat
  m : Nat
  rest : List Nat
def compGrd (ops : Array Oper) (o : Oper) : Option (Option (Pos × Bool)) := match o.guard with
  | none => some none
  | some (g, want) => match ops[g]? with
    | some og => match og.dst with
      | some t => some (some (pos t, want))
      | none => none
    | none => none
def compDK (effs lays : List Nat) (pre : T Nat) (i j : Nat) : DK → Option DK2
  | .q f => match Nat.beq (waits (natAt pre i) effs) j && Nat.beq (effs.length - waiting pre i effs) j with
    | true => some (.q f none)
    | false => some (.q f (some (waits (natAt pre i) effs, effs.length - waiting pre i effs)))
  | .a f => some (.a f)
  | .e m => match Nat.beq (waits (natAt pre i) effs) j && Nat.beq (effs.length - waiting pre i effs) j with
    | true => some (.e m (takesOf pre (natAt pre i) effs lays))
    | false => none
def compDSteps (P : Tab) (nt : Nat) (ops : Array Oper) (effs lays : List Nat) (pre W : T Nat) : List Oper → Nat → Nat → Option (List DO)
  | [], _, _ => some []
  | o :: os, i, j => match dstIn nt o.dst, srcOf pre W i (looks ops o), compGrd ops o, compDK effs lays pre i j (dkOf P o.op) with
    | true, some s, some g, some k => match compDSteps P nt ops effs lays pre W os (i + 1) (nextJ k j) with
      | some l => some (⟨s, g, k⟩ :: l)
      | none => none
    | _, _, _, _ => none
def compDraw (P : Tab) (nt : Nat) (ops : Array Oper) : Option DReg :=
  match preF ops.toList .leaf 0, writers ops.toList 0 .leaf with
  | some pre, some W => match effIdx (dks P ops.toList) 0, layIdx (dks P ops.toList) 0 with
    | effs, lays => match compDSteps P nt ops effs lays pre W ops.toList 0 0 with
      | some l => some ⟨l, resOf ops.size lays, effs.length, restOf pre effs lays⟩
      | none => none
  | _, _ => none
def dDraw (ops : List Oper) (D : DReg) (call : CallF) (_ : Nat) (tm : T AV) (A : AW) (df : List DA) : Option R4 :=
  match goD tm A.nx D.res call D.l 0 0 (.mk .leaf .leaf (T.set (pos 0) ⟨⟨A.h, A.nx + D.res⟩, df⟩ .leaf) []) with
  | some (.mk val fl sg rds) => match rdsOk sg rds, sg.get (pos D.m), outs val ops 0 tm with
    | true, some s, some tm' => some (.mk .nrm tm' (takeIn fl A.nx D.rest s.A) s.df)
    | _, _, _ => none
  | none => none

def comp (P : Tab) (nt : Nat) : Code → Den
  | .skip => ⟨dSkip⟩
  | .label _ => ⟨dSkip⟩
  | .region _ ops draw => match draw with
    | false => ⟨dSteps (compSteps P nt ops ops.toList)⟩
    | true => match compDraw P nt ops with
      | some D => ⟨dDraw ops.toList D⟩
      | none => ⟨dNo⟩
  | .seq a b => ⟨dSeq (comp P nt a) (comp P nt b)⟩
  | .cond c a b => ⟨dCond (compLd c) (comp P nt a) (comp P nt b)⟩
  | .block id a => ⟨dBlock id (comp P nt a)⟩
  | .loop a => ⟨dLoop (comp P nt a)⟩
  | .scope a => comp P nt a
  | .exit id => ⟨dExit id⟩
  | .ret => ⟨dRet⟩
  | .rangeFunc f _ _ _ => ⟨dRangeF (compLd f) (hasBody P)⟩
  | _ => ⟨dNo⟩

/-! ### functions -/
inductive RV where
  | tmp (p : Pos)
  | cell (p : Pos) (s : Sh)
def compRV (P : Tab) : List ResultVar → Option (List RV)
  | [] => some []
  | .tmp t :: l => match compRV P l with
    | some m => some (.tmp (pos t) :: m)
    | none => none
  | .cell a t :: l => match shOf P t, compRV P l with
    | some s, some m => some (.cell (pos a) s :: m)
    | _, _ => none
def rv1 (tm : T AV) (A : AW) : RV → Option AV
  | .tmp p => tm.get p
  | .cell p s => match tm.get p with
    | some a => loadA A s a
    | none => none
def rvs (tm : T AV) (A : AW) : List RV → Option (List AV)
  | [] => some []
  | r :: l => match rv1 tm A r with
    | some v => match rvs tm A l with
      | some m => some (v :: m)
      | none => none
    | none => none
def pack : List AV → AV
  | [v] => v
  | l => .tup l
def argsT : Nat → List AV → T AV → T AV
  | _, [], tm => tm
  | i, v :: l, tm => argsT (i + 1) l (tm.set (pos i) v)
structure FDen where
  body : Den
  res : List RV
def compF (P : Tab) (f : FuncId) : Option FDen :=
  match P.fnc f with
  | some fn => match fn.body with
    | some c => match compRV P fn.results.toList with
      | some r => some ⟨comp P fn.ntmps c, r⟩
      | none => none
    | none => none
  | none => none
/-- a call that leaves no deferred call to run -/
def ev0 (F : FDen) (call : CallF) (args : List AV) (A : AW) : Option (AV × AW) :=
  match F.body.run call 1000000 (argsT 0 args .leaf) A [] with
  | some (.mk e tm A []) => match e with
    | .ex _ => none
    | _ => match rvs tm A F.res with
      | some l => some (pack l, A)
      | none => none
  | _ => none
def dcall (P : Tab) (call : CallF) (f : FuncId) (args : List AV) (A : AW) : Option (AV × AW) := match compF P f with
  | some F => ev0 F call args A
  | none => none
def runDefers (call : CallF) : List DA → AW → Option AW
  | [], A => some A
  | .call f args :: l, A => match call f args A with
    | some (_, A) => runDefers call l A
    | none => none
  | .mark b :: l, A => match A.h.get b with
    | some .dfr => runDefers call l ⟨T.del b A.h, A.nx⟩
    | _ => none

def evF (P : Tab) (F : FDen) (call : CallF) (args : List AV) (A : AW) : Option (AV × AW) :=
  match F.body.run call 1000000 (argsT 0 args .leaf) A [] with
  | some (.mk e tm A df) => match e with
    | .ex _ => none
    | _ => match runDefers (dcall P call) df A with
      | some A => match rvs tm A F.res with
        | some l => some (pack l, A)
        | none => none
      | none => none
  | none => none
/-- calls, so deep -/
def cl (P : Tab) (hook : FuncId → Option CallF) : Nat → CallF
  | 0, _, _, _ => none
  | n + 1, f, args, A => match hook f with
    | some h => h f args A
    | none => match compF P f with
      | some F => evF P F (cl P hook n) args A
      | none => none
end
end Go.Proofs.YtcaagfgopmhilaaGreatDoor.Vai
