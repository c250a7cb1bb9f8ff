/- By an AI agent. Part of the proof: an abstract machine over the model, an evaluator over it, and contracts. Texts: EvA, EvB, EvC, EvD, EvE, EvF, EvG. -/
import Derived.Test.YtldbohhdpbmdcaaGreatDoorP04

namespace Go.Abs

/-! An evaluator of the abstract machine, made for the kernel. -/

inductive Tr (α : Type) where
  | nil
  | node (l : Tr α) (v : α) (r : Tr α)

noncomputable def Tr.get {α : Type} (d : α) (t : Tr α) : Nat → α :=
  Tr.rec (motive := fun _ => Nat → α) (fun _ => d)
    (fun _ v _ ihl ihr k => bif Nat.beq k 0 then v else bif Nat.beq (Nat.mod k 2) 1 then ihl (Nat.div k 2) else ihr (Nat.pred (Nat.div k 2))) t

noncomputable def Tr.set {α ρ : Type} (t : Tr α) : Nat → α → (Tr α → Option ρ) → Option ρ :=
  Tr.rec (motive := fun _ => Nat → α → (Tr α → Option ρ) → Option ρ) (fun _ _ _ => none)
    (fun l v r ihl ihr k x K => bif Nat.beq k 0 then K (.node l x r) else bif Nat.beq (Nat.mod k 2) 1 then ihl (Nat.div k 2) x (fun l => K (.node l v r)) else ihr (Nat.pred (Nat.div k 2)) x (fun r => K (.node l v r))) t

noncomputable def Tr.full {α : Type} (d : α) (n : Nat) : Tr α := Nat.rec .nil (fun _ t => .node t d t) n

abbrev ET := Tr AV
abbrev HT := Tr (Option AObj)

section
variable {ρ : Type}

noncomputable def fnat (n : Nat) (K : Nat → Option ρ) : Option ρ := Nat.rec (K 0) (fun p _ => K (Nat.succ p)) n
noncomputable def fint (n : Int) (K : Int → Option ρ) : Option ρ := Int.rec (fun m => fnat m fun m => K (.ofNat m)) (fun m => fnat m fun m => K (.negSucc m)) n

/-- The head is forced. -/
def fS (v : AV) (K : AV → Option ρ) : Option ρ :=
  match v with
  | .any => K .any
  | .v x => K (.v x)
  | .agg cs => K (.agg cs)
  | .tup cs => K (.tup cs)
  | .imm sz es => K (.imm sz es)
  | .iptr cs off => K (.iptr cs off)
  | .sl sz id i len => K (.sl sz id i len)
  | .ptr sz id i off => K (.ptr sz id i off)
  | .clo f a b => K (.clo f a b)
  | .map id => K (.map id)

noncomputable def fL (l : List AV) (K : List AV → Option ρ) : Option ρ :=
  List.rec (motive := fun _ => (List AV → Option ρ) → Option ρ) (fun K => K []) (fun a _ ih K => fS a fun a => ih fun r => K (a :: r)) l K

noncomputable def fSp {α : Type} (l : List α) (K : List α → Option ρ) : Option ρ :=
  List.rec (motive := fun _ => (List α → Option ρ) → Option ρ) (fun K => K []) (fun a _ ih K => ih fun r => K (a :: r)) l K

/-- Forced whole, where it is a number, a truth or cells. -/
noncomputable def fD (v : AV) (K : AV → Option ρ) : Option ρ :=
  match v with
  | .any => K .any
  | .v x => match x with
    | .int k n => fint n fun n => K (.v (.int k n))
    | .bool b => match b with
      | true => K (.v (.bool true))
      | false => K (.v (.bool false))
    | .string s => match s with
      | ⟨⟨l⟩⟩ => fSp l fun l => K (.v (.string ⟨⟨l⟩⟩))
    | x => K (.v x)
  | .agg cs => fL cs fun cs => K (.agg cs)
  | .tup cs => fL cs fun cs => K (.tup cs)
  | .imm sz es => fSp es fun es => K (.imm sz es)
  | .iptr cs off => fnat off fun off => K (.iptr cs off)
  | .sl sz id i len => fnat i fun i => fnat len fun len => K (.sl sz id i len)
  | .ptr sz id i off => fnat i fun i => fnat off fun off => K (.ptr sz id i off)
  | .clo f a b => fL a fun a => fL b fun b => K (.clo f a b)
  | .map id => K (.map id)

/-- Cells put into cells. -/
noncomputable def putK (cs : List AV) (off : Nat) (vs : List AV) (K : List AV → Option ρ) : Option ρ :=
  List.rec (motive := fun _ => Nat → List AV → (List AV → Option ρ) → Option ρ)
    (fun _ vs K => match vs with
      | [] => K []
      | _ :: _ => none)
    (fun c r ih off vs K => match off with
      | 0 => match vs with
        | [] => K (c :: r)
        | v :: vs => ih 0 vs fun r => K (v :: r)
      | off + 1 => ih off vs fun r => K (c :: r)) cs off vs K

noncomputable def setK (es : List (List AV)) (i : Nat) (off : Nat) (vs : List AV) (K : List (List AV) → Option ρ) : Option ρ :=
  List.rec (motive := fun _ => Nat → (List (List AV) → Option ρ) → Option ρ) (fun _ _ => none)
    (fun c r ih i K => match i with
      | 0 => putK c off vs fun c => K (c :: r)
      | i + 1 => ih i fun r => K (c :: r)) es i K

noncomputable def appK (es xs : List (List AV)) (K : List (List AV) → Option ρ) : Option ρ :=
  List.rec (motive := fun _ => (List (List AV) → Option ρ) → Option ρ) (fun K => K xs) (fun c _ ih K => ih fun r => K (c :: r)) es K

end

/-- Value, memory, next number, lowest number written. -/
abbrev RR := Option (AV × HT × Nat × Nat)
abbrev KV := AV → HT → Nat → Nat → RR
abbrev KE := ET → HT → Nat → Nat → RR
abbrev KX := AExit → ET → HT → Nat → Nat → RR

noncomputable def ge (E : ET) : Env := E.get .any
noncomputable def gh (H : HT) : Heap := H.get none

def minN (a b : Nat) : Nat := bif Nat.ble a b then a else b

noncomputable def newK (o : AObj) (H : HT) (n low : Nat) (K : Nat → HT → Nat → Nat → RR) : RR :=
  H.set n (some o) fun H => fnat (Nat.succ n) fun n' => K n H n' low

noncomputable def eStoreK (sz0 : Nat) (a v : AV) (H : HT) (n low : Nat) (K : KV) : RR :=
  match a with
  | .ptr sz id i off => match gh H id with
    | some (.row sz' es) => bif Nat.beq sz sz' && Nat.ble (off + sz0) sz && Nat.beq (cellsOf v).length sz0 && Nat.blt 0 sz0 && allOne (cellsOf v) then
        setK es i off (cellsOf v) fun es => H.set id (some (.row sz es)) fun H => fnat (minN id low) fun low => K undefAV H n low
      else none
    | _ => none
  | _ => none

noncomputable def appendK (sz bytes : Nat) (s x : AV) (H : HT) (n low : Nat) (K : KV) : RR :=
  match elemsOf sz x (gh H) with
  | none => none
  | some xs => fSp xs fun xs => match s with
    | .v (.slice none 0 0) => match xs with
      | [] => bif Nat.blt 0 bytes && Nat.ble bytes 65536 then K (.v (.slice none 0 0)) H n low else none
      | x :: xs => bif Nat.blt 0 bytes && Nat.ble bytes 65536 && Nat.ble (x :: xs).length most then fnat (x :: xs).length fun len => newK (.row sz (x :: xs)) H n low fun id H n low => K (.sl sz id 0 len) H n low else none
    | .sl sz' id 0 len => match gh H id with
      | some (.row s' es) => bif Nat.beq sz' sz && Nat.beq s' sz && Nat.ble len es.length && Nat.ble (len + xs.length) most && allOneR xs && Nat.blt 0 bytes && Nat.ble bytes 65536 then
          (bif Nat.beq len es.length then appK es xs else appK (es.take len) xs) fun es => H.set id none fun H => fnat (minN id low) fun low => fnat (len + xs.length) fun len => newK (.row sz es) H n low fun id H n low => K (.sl sz id 0 len) H n low
        else none
      | _ => none
    | _ => none

noncomputable def copyK (sz : Nat) (d s : AV) (H : HT) (n low : Nat) (K : KV) : RR :=
  match d, elemsOf sz s (gh H) with
  | .sl sz' id i len, some xs => match gh H id with
    | some (.row s' es) => bif Nat.beq sz' sz && Nat.beq s' sz && Nat.ble (i + len) es.length && allOneR xs && Nat.blt 0 sz then
        fSp (es.take i ++ xs.take len ++ es.drop (i + min xs.length len)) fun es => H.set id (some (.row sz es)) fun H => fnat (minN id low) fun low => fD (.v (.int .i64 (min xs.length len : Nat))) fun v => K v H n low
      else none
    | _ => none
  | _, _ => none

noncomputable def clearK (z : List AV) (x : AV) (H : HT) (n low : Nat) (K : KV) : RR :=
  match x with
  | .sl sz' id i len => match gh H id with
    | some (.row s' es) => bif Nat.beq sz' z.length && Nat.beq s' z.length && Nat.ble (i + len) es.length && allOne z && Nat.blt 0 z.length then
        fSp (es.take i ++ List.replicate len z ++ es.drop (i + len)) fun es => H.set id (some (.row z.length es)) fun H => fnat (minN id low) fun low => K (.tup []) H n low
      else none
    | _ => none
  | .v (.slice none 0 0) => K (.tup []) H n low
  | _ => none

noncomputable def mapSetK (kind : TypeDesc) (m k v : AV) (H : HT) (n low : Nat) (K : KV) : RR :=
  match m, k with
  | .map id, .v key => match gh H id with
    | some (.map es) => match mapPut kind key v es with
      | some es => fSp es fun es => H.set id (some (.map es)) fun H => fnat (minN id low) fun low => K undefAV H n low
      | none => none
    | _ => none
  | _, _ => none

noncomputable def nilTestK (kind : Nat) (neg : Bool) (x : AV) : Option Bool :=
  match kind with
  | 0 => match x with
    | .imm _ (_ :: _) => some neg
    | .sl _ _ _ _ => some neg
    | .v (.slice none 0 0) => some !neg
    | _ => none
  | 1 => match x with
    | .ptr _ _ _ _ => some neg
    | .iptr _ _ => some neg
    | .v (.pointer none) => some !neg
    | _ => none
  | _ => match x with
    | .v .nilIface => some !neg
    | .v (.iface _ _) => some neg
    | _ => none
/-- A walk over a string. -/
noncomputable def rangeK (x : AV) (H : HT) (n low : Nat) (K : KV) : RR :=
  match x with
  | .v (.string s) => newK (.iter s 0) H n low fun id H n low => K (.ptr 0 id 0 0) H n low
  | _ => none
noncomputable def nextK (x : AV) (H : HT) (n low : Nat) (K : KV) : RR :=
  match x with
  | .ptr 0 id 0 0 => match gh H id with
    | some (.iter s pos) => match Nat.blt pos s.size with
      | true => fnat (Utf8.decode s pos).1 fun c => fnat (pos + (Utf8.decode s pos).2) fun pos' => H.set id (some (.iter s pos')) fun H => fnat (minN id low) fun low =>
          K (.tup [.v (.bool true), .v (.int .i64 (.ofNat pos)), .v (.int .i32 (.ofNat c))]) H n low
      | false => K (.tup [.v (.bool false)]) H n low
    | _ => none
  | _ => none

abbrev CallF := FuncId → List AV → HT → Nat → Nat → KV → RR

noncomputable def mapK {ρ : Type} {α : Type} (f : α → (α → Option ρ) → Option ρ) (l : List α) (K : List α → Option ρ) : Option ρ :=
  List.rec (motive := fun _ => (List α → Option ρ) → Option ρ) (fun K => K []) (fun a _ ih K => f a fun a => ih fun r => K (a :: r)) l K

/-- What is told, without numbers of objects: those from `n` on will not be written any more. -/
noncomputable def frzK {ρ : Type} (n : Nat) (H : HT) (k : Nat) : AV → (AV → Option ρ) → Option ρ :=
  Nat.rec (motive := fun _ => AV → (AV → Option ρ) → Option ρ) (fun _ _ => none)
    (fun _ ih a K => match a with
      | .any => K .any
      | .v x => K (.v x)
      | .agg cs => mapK ih cs fun cs => K (.agg cs)
      | .tup cs => mapK ih cs fun cs => K (.tup cs)
      | .imm sz es => mapK (mapK ih) es fun es => K (.imm sz es)
      | .iptr cs off => mapK ih cs fun cs => K (.iptr cs off)
      | .sl sz id i len => bif Nat.ble n id then match gh H id with
          | some (.row s es) => bif Nat.beq s sz && Nat.ble (i + len) es.length then
              mapK (mapK ih) ((es.drop i).take len) fun es => K (.imm sz es) else none
          | _ => none
        else none
      | .ptr sz id i off => bif Nat.ble n id then match gh H id with
          | some (.row s es) => bif Nat.beq s sz && Nat.blt i es.length then
              mapK ih (eget es i) fun cs => K (.iptr cs off) else none
          | _ => none
        else none
      | .clo f a b => mapK ih a fun a => mapK ih b fun b => K (.clo f a b)
      | .map _ => none) k

/-- One operation. -/
noncomputable def execOp (P : Program) (C : CallF) (mode : Nat) (op : Op) (g : Env) (H : HT) (n low : Nat) (K : KV) : RR :=
  match op with
  | .move x => bif Nat.ble 16 mode then none else fS (ev g x) fun v => K v H n low
  | .assign x => bif Nat.ble 16 mode then none else fS (ev g x) fun v => K v H n low
  | .makeMap t r => match r.isNone with
    | true => newK (.map []) H n low fun id H n low => K (.map id) H n low
    | false => none
  | .mapUpdate t m k v => match mapTypes P t with
    | some (kind, _) => mapSetK kind (ev g m) (ev g k) (ev g v) H n low K
    | none => none
  | .range t x => match P.underlying t with
    | some .string => rangeK (ev g x) H n low K
    | _ => none
  | .next x s => match s with
    | true => nextK (ev g x) H n low K
    | false => none
  | .store t a v => match (P.info? t).isSome with
    | true => eStoreK (tSize P t) (ev g a) (ev g v) H n low K
    | false => none
  | .alloc t => match zeroCells P t with
    | some z => fnat z.length fun len => newK (.row len [z]) H n low fun id H n low => K (.ptr len id 0 0) H n low
    | none => none
  | .box _ x => match mode with
    | 1 => match cellsOf (ev g x) with
      | [] => none
      | c :: cs => fnat (c :: cs).length fun len => newK (.row len [c :: cs]) H n low fun id H n low => K (.ptr len id 0 0) H n low
    | _ => fL (cellsOf (ev g x)) fun cs => K (.iptr cs 0) H n low
  | .buildSlice t len ps => match rowTab P t len with
    | some (sz, z) => match eFillRow sz (List.replicate len z) (ps.toList.map fun p => (p.1, ev g p.2)) with
      | some es => fSp es fun es => match mode with
        | 1 => newK (.row sz es) H n low fun id H n low => K (.sl sz id 0 len) H n low
        | _ => K (.imm sz es) H n low
      | none => none
    | none => none
  | .makeSlice t l c => match makeTypes P t with
    | some (z, bytes) => match ev g l, ev g c with
      | .v (.int _ m), .v (.int _ m') => bif decide (m < 0) || decide (m' < m) || decide ((most : Int) < m') || Nat.blt 65536 bytes then none else
          fSp (List.replicate m.toNat z) fun es => fnat z.length fun sz => fnat m.toNat fun len => newK (.row sz es) H n low fun id H n low => K (.sl sz id 0 len) H n low
      | _, _ => none
    | none => none
  | .call c => match c.callee with
    | .builtin .append => match c.args.toList, c.argTypes.toList with
      | [s, x], [t, u] => match appendTypes P t u with
        | some (sz, bytes) => appendK sz bytes (ev g s) (ev g x) H n low K
        | none => none
      | _, _ => none
    | .builtin .copy => match c.args.toList, c.argTypes.toList with
      | [d, s], [t, u] => match appendTypes P t u with
        | some (sz, _) => copyK sz (ev g d) (ev g s) H n low K
        | none => none
      | _, _ => none
    | .builtin .clear => match c.args.toList, c.argTypes.toList with
      | [x], [t] => match makeTypes P t with
        | some (z, _) => clearK z (ev g x) H n low K
        | none => none
      | _, _ => none
    | .builtin .len => match evalOp P op g (gh H) with
      | some v => fD v fun v => K v H n low
      | none => none
    | .builtin .min => match evalOp P op g (gh H) with
      | some v => fD v fun v => K v H n low
      | none => none
    | .builtin .max => match evalOp P op g (gh H) with
      | some v => fD v fun v => K v H n low
      | none => none
    | .value f => match callee (ev g f) (c.args.toList.map (ev g)) with
      | some (fid, as) => fL as fun as => match mode with
        | 1 => C fid as H n low K
        | _ => match C fid as H n n (fun v H n low => some (v, H, n, low)) with
          | some (v, H', _, low') => bif Nat.ble n low' then frzK n H' 100 v fun v => K v H n low
            else none
          | none => none
      | none => none
    | _ => none
  | .binOp o t x y _ => match mode with
    | 1 => match nilKind P o t y with
      | some (kind, neg) => match nilTestK kind neg (ev g x) with
        | some true => K (.v (.bool true)) H n low
        | some false => K (.v (.bool false)) H n low
        | none => none
      | none => none
    | _ => match evalOp P op g (gh H) with
      | some v => fD v fun v => K v H n low
      | none => none
  | .pick _ _ _ => match evalOp P op g (gh H) with
    | some v => fS v fun v => K v H n low
    | none => none
  | .extract _ _ => match evalOp P op g (gh H) with
    | some v => fS v fun v => K v H n low
    | none => none
  | .load _ _ => match evalM P mode op g (gh H) with
    | some v => fD v fun v => K v H n low
    | none => none
  | .lookup _ _ _ _ => match evalM P mode op g (gh H) with
    | some v => fD v fun v => K v H n low
    | none => none
  | _ => match evalOp P op g (gh H) with
    | some v => fD v fun v => K v H n low
    | none => none

end Go.Abs

namespace Go.Abs

/-- The mode of an operation where the order stands. -/
def modeE (P : Program) (op : Op) : Nat :=
  match op with
  | .binOp o t _ y _ => match nilKind P o t y with
    | some _ => 1
    | none => 0
  | .box _ _ => 1
  | .buildSlice _ _ _ => 1
  | .call _ => 1
  | _ => 0

/-- May it be left out? -/
def skipOk (mode : Nat) (op : Op) (E : Env) : Bool :=
  match mode with
  | 1 => true
  | _ => match opCall op with
    | some (f, _) => (callee (ev E f) []).isSome
    | none => true

noncomputable def putE (E : ET) (d : Option Tmp) (v : AV) (K : ET → RR) : RR :=
  match d with
  | none => K E
  | some d => E.set d v K

/-- One operation and its guard. -/
noncomputable def execO (P : Program) (C : CallF) (ops : List Oper) (mode : Nat) (o : Oper) (E : ET) (H : HT) (n low : Nat) (K : KE) : RR :=
  match Nat.ble 4096 mode with
  | true => none
  | false => match o.guard with
  | none => execOp P C mode o.op (ge E) H n low fun v H n low => putE E o.dst v fun E => K E H n low
  | some (g, b) => match guardSlot ops g with
    | some d => match ge E d with
      | .v x => match x with
        | .bool c => match c, b with
          | true, true => execOp P C mode o.op (ge E) H n low fun v H n low => putE E o.dst v fun E => K E H n low
          | false, false => execOp P C mode o.op (ge E) H n low fun v H n low => putE E o.dst v fun E => K E H n low
          | true, false => match skipOk mode o.op (ge E) with
            | true => putE E o.dst undefAV fun E => K E H n low
            | false => none
          | false, true => match skipOk mode o.op (ge E) with
            | true => putE E o.dst undefAV fun E => K E H n low
            | false => none
        | _ => match skipOk mode o.op (ge E) with
          | true => putE E o.dst undefAV fun E => K E H n low
          | false => none
      | _ => none
    | none => none

noncomputable def execL (P : Program) (C : CallF) (ops : List Oper) (l : List Oper) : ET → HT → Nat → Nat → KE → RR :=
  List.rec (motive := fun _ => ET → HT → Nat → Nat → KE → RR) (fun E H n low K => K E H n low)
    (fun o _ ih E H n low K => execO P C ops (modeE P o.op) o E H n low fun E H n low => ih E H n low K) l

noncomputable def execD (P : Program) (C : CallF) (ops : List Oper) (mode : Nat → Nat) (l : List Nat) : ET → HT → Nat → Nat → KE → RR :=
  List.rec (motive := fun _ => ET → HT → Nat → Nat → KE → RR) (fun E H n low K => K E H n low)
    (fun i _ ih E H n low K => match ops[i]? with
      | some o => execO P C ops (mode i) o E H n low fun E H n low => ih E H n low K
      | none => none) l

/-- Orders and modes of the regions that draw: of a region's number. -/
abbrev DHints := Nat → List Nat × List (Nat × Nat)

noncomputable def execC (P : Program) (C : CallF) (D : DHints) (N : Nat) (lf : Nat) (c : Code) : ET → HT → Nat → Nat → KX → RR :=
  Code.rec (motive := fun _ => ET → HT → Nat → Nat → KX → RR)
    (fun E H n low K => K .normal E H n low)
    (fun id ops draw E H n low K => match draw with
      | false => match slotsOk N ops.toList with
        | true => execL P C ops.toList ops.toList E H n low fun E H n low => K .normal E H n low
        | false => none
      | true => match regionOk N ops.toList true (lookN 0 (D id).2) ((D id).1.map .op) with
        | true => execD P C ops.toList (lookN 0 (D id).2) (D id).1 E H n low fun E H n low => K .normal E H n low
        | false => none)
    (fun _ _ iha ihb E H n low K => iha E H n low fun x E H n low => match x with
      | .normal => ihb E H n low K
      | .exit j => K (.exit j) E H n low
      | .ret => K .ret E H n low)
    (fun c _ _ iha ihb E H n low K => match ev (ge E) c with
      | .v x => match x with
        | .bool b => match b with
          | true => iha E H n low K
          | false => ihb E H n low K
        | _ => none
      | _ => none)
    (fun id _ ih E H n low K => ih E H n low fun x E H n low => match x with
      | .normal => K .normal E H n low
      | .exit j => match Nat.beq j id with
        | true => K .normal E H n low
        | false => K (.exit j) E H n low
      | .ret => K .ret E H n low)
    (fun _ ih E H n low K => Nat.rec (motive := fun _ => ET → HT → Nat → Nat → RR) (fun _ _ _ _ => none)
      (fun _ again E H n low => ih E H n low fun x E H n low => match x with
        | .normal => again E H n low
        | .exit j => K (.exit j) E H n low
        | .ret => K .ret E H n low) lf E H n low)
    (fun _ _ _ _ _ _ _ _ _ _ _ => none)
    (fun id E H n low K => K (.exit id) E H n low)
    (fun _ _ _ _ _ _ _ => none)
    (fun _ _ _ _ _ _ => none)
    (fun _ _ _ _ _ _ => none)
    (fun E H n low K => K .ret E H n low)
    (fun _ _ _ _ _ _ => none) c

noncomputable def retK (P : Program) (l : List ResultVar) (E : ET) (H : HT) (K : List AV → RR) : RR :=
  List.rec (motive := fun _ => (List AV → RR) → RR) (fun K => K [])
    (fun r _ ih K => match r with
      | .tmp t => fS (ge E t) fun v => ih fun vs => K (v :: vs)
      | .cell a t => match tAgg P t with
        | some g => match (P.info? t).isSome with
          | true => match eLoad g (if g then tSize P t else 1) (ge E a) (gh H) with
            | some v => fD v fun v => ih fun vs => K (v :: vs)
            | none => none
          | false => none
        | none => none) l K

noncomputable def retE (vs : List AV) (K : AV → RR) : RR :=
  match vs with
  | [v] => K v
  | vs => K (.tup vs)

noncomputable def argsE (as : List AV) (t : ET) (K : ET → RR) : RR :=
  List.rec (motive := fun _ => Nat → ET → RR) (fun _ t => K t) (fun a _ ih k t => Tr.set t k a fun t => ih (Nat.succ k) t) as 0 t

/-- A call, of at most so many calls within calls; loops of at most `lf` rounds. -/
noncomputable def callE (P : Program) (D : FuncId → DHints) (lf : Nat) (depth : Nat) : CallF :=
  Nat.rec (motive := fun _ => CallF) (fun _ _ _ _ _ _ => none)
    (fun _ C f as H n low K => match P.funcs[f]? with
      | some fn => match fn.body with
        | some c => bif Nat.ble as.length fn.ntmps then
            argsE as (Tr.full .any (Nat.succ (Nat.log2 (Nat.succ fn.ntmps)))) fun E =>
              execC P C (D f) fn.ntmps lf c E H n low fun x E H n low => match x with
                | .normal => retK P fn.results.toList E H fun vs => retE vs fun v => K v H n low
                | .ret => retK P fn.results.toList E H fun vs => retE vs fun v => K v H n low
                | .exit _ => none
          else none
        | none => none
      | none => none) depth

/-- Does a call on what is without objects come to that? -/
noncomputable def runE (P : Program) (D : FuncId → DHints) (lf depth hd : Nat) (f : FuncId) (as : List AV) : Option AV :=
  match callE P D lf depth f as (Tr.full none hd) 0 0 (fun v H n low => some (v, H, n, low)) with
  | some (v, H, _, _) => frzK 0 H 100 v some
  | none => none

end Go.Abs
namespace Go.Abs
noncomputable def lookR {α : Type} (d : α) (l : List (Nat × α)) (i : Nat) : α :=
  List.rec d (fun p _ ih => bif Nat.beq p.1 i then p.2 else ih) l
noncomputable def mkD (l : List (Nat × List (Nat × (List Nat × List (Nat × Nat))))) : FuncId → DHints := fun f r => lookR ([], []) (lookR [] l f) r
end Go.Abs

namespace Go.Abs

/-! Objects called by other numbers. -/

mutual
def ren (ρ : Nat → Nat) : AV → AV
  | .any => .any
  | .v x => .v x
  | .agg cs => .agg (renL ρ cs)
  | .tup cs => .tup (renL ρ cs)
  | .imm sz es => .imm sz (renLL ρ es)
  | .iptr cs off => .iptr (renL ρ cs) off
  | .sl sz id i len => .sl sz (ρ id) i len
  | .ptr sz id i off => .ptr sz (ρ id) i off
  | .clo f a b => .clo f (renL ρ a) (renL ρ b)
  | .map id => .map (ρ id)
def renL (ρ : Nat → Nat) : List AV → List AV
  | [] => []
  | a :: r => ren ρ a :: renL ρ r
def renLL (ρ : Nat → Nat) : List (List AV) → List (List AV)
  | [] => []
  | a :: r => renL ρ a :: renLL ρ r
end

theorem renL_eq (ρ : Nat → Nat) (l : List AV) : renL ρ l = l.map (ren ρ) := by
  induction l with
  | nil => rfl
  | cons a r ih => simp [renL, ih]
theorem renLL_eq (ρ : Nat → Nat) (l : List (List AV)) : renLL ρ l = l.map fun c => c.map (ren ρ) := by
  induction l with
  | nil => rfl
  | cons a r ih => simp [renLL, ih, renL_eq]

@[simp] theorem ren_any (ρ : Nat → Nat) : ren ρ .any = .any := by simp [ren]
@[simp] theorem ren_v (ρ : Nat → Nat) (x : Value) : ren ρ (.v x) = .v x := by simp [ren]
@[simp] theorem ren_agg (ρ : Nat → Nat) (cs : List AV) : ren ρ (.agg cs) = .agg (cs.map (ren ρ)) := by simp [ren, renL_eq]
@[simp] theorem ren_tup (ρ : Nat → Nat) (cs : List AV) : ren ρ (.tup cs) = .tup (cs.map (ren ρ)) := by simp [ren, renL_eq]
@[simp] theorem ren_imm (ρ : Nat → Nat) (sz : Nat) (es : List (List AV)) : ren ρ (.imm sz es) = .imm sz (es.map fun c => c.map (ren ρ)) := by simp [ren, renLL_eq]
@[simp] theorem ren_iptr (ρ : Nat → Nat) (cs : List AV) (off : Nat) : ren ρ (.iptr cs off) = .iptr (cs.map (ren ρ)) off := by simp [ren, renL_eq]
@[simp] theorem ren_sl (ρ : Nat → Nat) (sz id i len : Nat) : ren ρ (.sl sz id i len) = .sl sz (ρ id) i len := by simp [ren]
@[simp] theorem ren_ptr (ρ : Nat → Nat) (sz id i off : Nat) : ren ρ (.ptr sz id i off) = .ptr sz (ρ id) i off := by simp [ren]
@[simp] theorem ren_clo (ρ : Nat → Nat) (f : FuncId) (a b : List AV) : ren ρ (.clo f a b) = .clo f (a.map (ren ρ)) (b.map (ren ρ)) := by simp [ren, renL_eq]
@[simp] theorem ren_map (ρ : Nat → Nat) (id : Nat) : ren ρ (.map id) = .map (ρ id) := by simp [ren]

abbrev renC (ρ : Nat → Nat) (es : List (List AV)) : List (List AV) := es.map fun c => c.map (ren ρ)

def renO (ρ : Nat → Nat) : AObj → AObj
  | .row sz es => .row sz (renC ρ es)
  | .map es => .map (es.map fun p => (p.1, ren ρ p.2))
  | .iter s pos => .iter s pos

@[simp] theorem renO_iter (ρ : Nat → Nat) (s : ByteArray) (pos : Nat) : renO ρ (.iter s pos) = .iter s pos := rfl
@[simp] theorem renO_row (ρ : Nat → Nat) (sz : Nat) (es : List (List AV)) : renO ρ (.row sz es) = .row sz (renC ρ es) := rfl
@[simp] theorem renO_map (ρ : Nat → Nat) (es : List (Value × AV)) : renO ρ (.map es) = .map (es.map fun p => (p.1, ren ρ p.2)) := rfl

@[simp] theorem lget_map_ren (ρ : Nat → Nat) (l : List AV) (k : Nat) : lget (l.map (ren ρ)) k = ren ρ (lget l k) := by
  simp only [lget, List.getD_eq_getElem?_getD, List.getElem?_map]
  cases l[k]? <;> simp
@[simp] theorem eget_renC (ρ : Nat → Nat) (es : List (List AV)) (k : Nat) : eget (renC ρ es) k = (eget es k).map (ren ρ) := by
  simp only [eget, renC, List.getD_eq_getElem?_getD, List.getElem?_map]
  cases es[k]? <;> simp

@[simp] theorem ren_ofV (ρ : Nat → Nat) (x : Value) : ren ρ (ofV x) = ofV x := by
  cases x <;> simp [ofV, Function.comp_def]

theorem cellsOf_ren (ρ : Nat → Nat) (a : AV) : cellsOf (ren ρ a) = (cellsOf a).map (ren ρ) := by
  cases a with
  | v x => cases x <;> simp [cellsOf, Function.comp_def]
  | _ => simp [cellsOf]

theorem oneCell_ren (ρ : Nat → Nat) (a : AV) : oneCell (ren ρ a) = oneCell a := by cases a <;> simp [oneCell]
theorem allOne_ren (ρ : Nat → Nat) (l : List AV) : allOne (l.map (ren ρ)) = allOne l := by
  simp only [allOne, List.all_map]
  congr 1
  funext x
  simp [oneCell_ren]
theorem allOneR_ren (ρ : Nat → Nat) (l : List (List AV)) : allOneR (renC ρ l) = allOneR l := by
  simp only [allOneR, renC, List.all_map]
  congr 1
  funext x
  simp [allOne_ren]

theorem putCells_ren (ρ : Nat → Nat) (cs : List AV) (off : Nat) (vs : List AV) : putCells (cs.map (ren ρ)) off (vs.map (ren ρ)) = (putCells cs off vs).map (ren ρ) := by
  simp [putCells, List.map_append, List.map_take, List.map_drop]

section
variable {ρ : Nat → Nat}

theorem ev_ren (E : Env) (x : Operand) : ev (fun j => ren ρ (E j)) x = ren ρ (ev E x) := by
  cases x <;> simp [ev]

theorem ePart_ren {g : Bool} {n : Nat} {cs : List AV} {off : Nat} {r : AV} (h : ePart g n cs off = some r) : ePart g n (cs.map (ren ρ)) off = some (ren ρ r) := by
  unfold ePart at *
  rw [List.length_map]
  split at h
  · rename_i hl
    rw [if_pos hl]
    cases g with
    | true => simp at h ⊢; subst h; simp [List.map_take, List.map_drop]
    | false =>
      simp only at h ⊢
      split at h
      · rename_i hn; rw [if_pos hn]; simp at h ⊢; subst h; have := lget_map_ren ρ cs off; simpa [lget, List.getD_eq_getElem?_getD] using this
      · cases h
  · cases h

theorem eBin_ren {op : BinOp} {bt : Bool} {x y r : AV} (h : eBin op bt x y = some r) : eBin op bt (ren ρ x) (ren ρ y) = some (ren ρ r) := by
  have hv : ∀ {x y : Value} {r : AV}, eBin op bt (.v x) (.v y) = some r → ren ρ r = r := by
    intro x y r h
    cases x <;> cases y <;> simp only [eBin] at h <;> first
      | (cases h; done)
      | skip
    · split at h <;> cases h <;> simp
    · split at h
      · split at h <;> cases h <;> simp
      · split at h <;> cases h <;> simp
      · split at h
        · unfold intBin at h
          split at h <;> (try split at h) <;> cases h <;> simp
        · cases h
    · unfold strBin at h
      split at h <;> (try split at h) <;> cases h <;> simp
  cases x with
  | v x => cases y with
    | v y => have e := hv h; simp only [ren_v]; rw [e]; exact h
    | _ => cases x <;> simp [eBin] at h
  | _ => simp [eBin] at h

theorem eUn_ren {op : UnOp} {x r : AV} (h : eUn op x = some r) : eUn op (ren ρ x) = some (ren ρ r) := by
  unfold eUn at h
  split at h <;> cases h <;> simp [eUn]

theorem ePick_ren {c a b r : AV} (h : ePick c a b = some r) : ePick (ren ρ c) (ren ρ a) (ren ρ b) = some (ren ρ r) := by
  unfold ePick at h
  split at h
  · rename_i t
    cases h
    cases t <;> simp [ePick]
  · cases h

theorem eNil_ren {x r : AV} (h : eNil x = some r) : eNil (ren ρ x) = some (ren ρ r) := by
  unfold eNil at h
  split at h <;> cases h <;> simp [eNil]

theorem eFA_ren {off : Nat} {x r : AV} (h : eFA off x = some r) : eFA off (ren ρ x) = some (ren ρ r) := by
  unfold eFA at h
  split at h <;> cases h <;> simp [eFA]

theorem eIxS_ren {esz : Nat} {x i r : AV} (h : eIxS esz x i = some r) : eIxS esz (ren ρ x) (ren ρ i) = some (ren ρ r) := by
  unfold eIxS at h
  split at h
  · split at h
    · rename_i hc
      cases h
      simp only [ren_imm, ren_v, eIxS, List.length_map]
      rw [if_pos hc]
      simp only [ren_iptr]
      rw [← eget_renC]
    · cases h
  · split at h
    · rename_i hc
      cases h
      simp only [ren_sl, ren_v, eIxS]
      rw [if_pos hc]
      simp
    · cases h
  · cases h

theorem eIxA_ren {len esz : Nat} {x i r : AV} (h : eIxA len esz x i = some r) : eIxA len esz (ren ρ x) (ren ρ i) = some (ren ρ r) := by
  unfold eIxA at h
  split at h
  · split at h
    · rename_i hc
      simp only [ren_v, eIxA]
      rw [if_pos hc]
      exact eFA_ren h
    · cases h
  · cases h

theorem eIdxA_ren {g : Bool} {len esz : Nat} {x i r : AV} (h : eIdxA g len esz x i = some r) : eIdxA g len esz (ren ρ x) (ren ρ i) = some (ren ρ r) := by
  unfold eIdxA at h
  split at h
  · split at h
    · rename_i hc
      simp only [ren_v, ren_agg, eIdxA]
      rw [if_pos hc]
      exact ePart_ren h
    · cases h
  · cases h

theorem eIdxStr_ren {x i r : AV} (h : eIdxStr x i = some r) : eIdxStr (ren ρ x) (ren ρ i) = some (ren ρ r) := by
  unfold eIdxStr at h
  split at h
  · split at h
    · rename_i hc
      cases h
      simp only [ren_v, eIdxStr]
      rw [dif_pos hc]
    · cases h
  · cases h

theorem eField_ren {g : Bool} {off n : Nat} {x r : AV} (h : eField g off n x = some r) : eField g off n (ren ρ x) = some (ren ρ r) := by
  unfold eField at h
  split at h
  · simp only [ren_agg, eField]; exact ePart_ren h
  · cases h

theorem eExtract_ren {k : Nat} {x r : AV} (h : eExtract k x = some r) : eExtract k (ren ρ x) = some (ren ρ r) := by
  unfold eExtract at h
  split at h
  · simp [eExtract, h]
  · cases h

theorem eLen_ren {x r : AV} (h : eLen x = some r) : eLen (ren ρ x) = some (ren ρ r) := by
  unfold eLen at h
  split at h <;> cases h <;> simp [eLen]

theorem eLenStr_ren {x r : AV} (h : eLenStr x = some r) : eLenStr (ren ρ x) = some (ren ρ r) := by
  unfold eLenStr at h
  split at h <;> cases h <;> simp [eLenStr]

theorem eToInt_ren {k : IntKind} {x r : AV} (h : eToInt k x = some r) : eToInt k (ren ρ x) = some (ren ρ r) := by
  unfold eToInt at h
  split at h <;> cases h <;> simp [eToInt]

theorem eMin_ren {x y r : AV} (h : eMin x y = some r) : eMin (ren ρ x) (ren ρ y) = some (ren ρ r) := by
  unfold eMin at h
  split at h <;> cases h <;> simp [eMin]
theorem eMax_ren {x y r : AV} (h : eMax x y = some r) : eMax (ren ρ x) (ren ρ y) = some (ren ρ r) := by
  unfold eMax at h
  split at h <;> cases h <;> simp [eMax]

theorem oInt_ren {d : Nat} {x : Option AV} : ∀ {n : Nat}, oInt d x = some n → oInt d (x.map (ren ρ)) = some n := by
  intro n h
  unfold oInt at h
  split at h
  · cases h; rfl
  · split at h
    · rename_i hc
      cases h
      simp [oInt, hc]
    · cases h
  · cases h

theorem eSlice_ren {esz : Option Nat} {x : AV} {lo hi : Option AV} {r : AV} (h : eSlice esz x lo hi = some r) : eSlice esz (ren ρ x) (lo.map (ren ρ)) (hi.map (ren ρ)) = some (ren ρ r) := by
  unfold eSlice at h
  split at h
  · split at h
    · rename_i s l h' e1 e2
      split at h
      · rename_i hc
        cases h
        simp only [ren_v, eSlice]
        rw [oInt_ren e1, oInt_ren e2]
        simp only
        rw [if_pos hc]
      · cases h
    · cases h
  · split at h
    · rename_i l h' e1 e2
      split at h
      · rename_i hc
        cases h
        simp only [ren_imm, eSlice, List.length_map]
        rw [oInt_ren e1, oInt_ren e2]
        simp only
        rw [if_pos hc]
        simp [List.map_take, List.map_drop]
      · cases h
    · cases h
  · split at h
    · rename_i l h' e1 e2
      split at h
      · rename_i hc
        cases h
        simp only [ren_sl, eSlice]
        rw [oInt_ren e1, oInt_ren e2]
        simp only
        rw [if_pos hc]
      · cases h
    · cases h
  · split at h
    · rename_i e1 e2
      cases h
      simp only [ren_v, eSlice]
      rw [oInt_ren e1, oInt_ren e2]
      rfl
    · cases h
  · cases h

def renP (ρ : Nat → Nat) (l : List (Nat × AV)) : List (Nat × AV) := l.map fun p => (p.1, ren ρ p.2)

theorem eFill_ren {place : Nat → Option (Nat × Nat)} : ∀ {l : List (Nat × AV)} {cs r : List AV}, eFill place cs l = some r → eFill place (cs.map (ren ρ)) (renP ρ l) = some (r.map (ren ρ)) := by
  intro l
  induction l with
  | nil => intro cs r h; simp [eFill] at h; subst h; simp [eFill, renP]
  | cons p l ih =>
    intro cs r h
    obtain ⟨i, v⟩ := p
    simp only [eFill] at h
    simp only [renP, List.map_cons, eFill]
    split at h
    · cases h
    · rename_i off size hp
      simp only [hp, cellsOf_ren, List.length_map]
      split at h
      · rename_i hc
        rw [if_pos hc, putCells_ren]
        exact ih h
      · cases h

theorem eFillRow_ren {sz : Nat} : ∀ {l : List (Nat × AV)} {es r : List (List AV)}, eFillRow sz es l = some r → eFillRow sz (renC ρ es) (renP ρ l) = some (renC ρ r) := by
  intro l
  induction l with
  | nil => intro cs r h; simp [eFillRow] at h; subst h; simp [eFillRow, renP]
  | cons p l ih =>
    intro es r h
    obtain ⟨i, v⟩ := p
    simp only [eFillRow] at h
    simp only [renP, List.map_cons, eFillRow, cellsOf_ren, List.length_map]
    split at h
    · rename_i hc
      rw [if_pos hc]
      have := ih h
      rw [show renC ρ (es.set i (cellsOf v)) = (renC ρ es).set i ((cellsOf v).map (ren ρ)) from by simp [renC, List.map_set]] at this
      exact this
    · cases h

theorem renP_ev (E : Env) (ps : List (Nat × Operand)) : ps.map (fun p => (p.1, ev (fun j => ren ρ (E j)) p.2)) = renP ρ (ps.map fun p => (p.1, ev E p.2)) := by
  simp only [renP, List.map_map]
  refine List.map_congr_left fun p _ => ?_
  simp [ev_ren]

theorem zeroCells_ren {P : Program} {t : TypeId} {z : List AV} (h : zeroCells P t = some z) : z.map (ren ρ) = z := by
  unfold zeroCells at h
  split at h
  · split at h
    · cases h; simp [Function.comp_def]
    · cases h
  · cases h

theorem buildTab_ren {P : Program} {t : TypeId} {z : List AV} {pl : List (Nat × Nat)} (h : buildTab P t = some (z, pl)) : z.map (ren ρ) = z := by
  unfold buildTab at h
  split at h
  · rename_i z' fs hz _
    cases hb : (fs.toList.all fun f => (P.info? f.type).isSome && !Nat.beq (tSize P f.type) 0) <;> rw [hb] at h <;> simp at h
    obtain ⟨rfl, _⟩ := h
    exact zeroCells_ren hz
  · rename_i z' n e hz _
    cases hb : ((P.info? e).isSome && !Nat.beq (tSize P e) 0) <;> rw [hb] at h <;> simp at h
    obtain ⟨rfl, _⟩ := h
    exact zeroCells_ren hz
  · cases h

theorem rowTab_ren {P : Program} {t : TypeId} {len sz : Nat} {z : List AV} (h : rowTab P t len = some (sz, z)) : z.map (ren ρ) = z := by
  unfold rowTab at h
  split at h
  · split at h
    · rename_i e _ _ z' hz
      cases hb : (Nat.beq z'.length (tSize P e) && Nat.ble (len * tSize P e) 16777216 && Nat.blt 0 (tSize P e)) <;> rw [hb] at h <;> simp at h
      obtain ⟨_, rfl⟩ := h
      exact zeroCells_ren hz
    · cases h
  · cases h

theorem eBuild_ren {P : Program} {t : TypeId} {l : List (Nat × AV)} {r : AV} (h : eBuild P t l = some r) : eBuild P t (renP ρ l) = some (ren ρ r) := by
  unfold eBuild at *
  split at h
  · rename_i z pl hb
    simp only [eBuildL] at h ⊢
    split at h
    · rename_i cs hc
      cases h
      have := eFill_ren (ρ := ρ) hc
      rw [buildTab_ren hb] at this
      rw [this]
      simp
    · cases h
  · cases h

theorem replicate_ren {z : List AV} (hz : z.map (ren ρ) = z) (n : Nat) : renC ρ (List.replicate n z) = List.replicate n z := by simp [renC, hz]

theorem eImm_ren {sz len : Nat} {z : List AV} (hz : z.map (ren ρ) = z) {l : List (Nat × AV)} {r : AV} (h : eImm sz z len l = some r) : eImm sz z len (renP ρ l) = some (ren ρ r) := by
  unfold eImm at *
  split at h
  · rename_i es he
    cases h
    have := eFillRow_ren (ρ := ρ) he
    rw [replicate_ren hz] at this
    rw [this]
    simp
  · cases h

end
end Go.Abs

namespace Go.Abs

section
variable {R : Type}

@[simp] theorem fnat_eq (n : Nat) (K : Nat → Option R) : fnat n K = K n := by cases n <;> rfl
@[simp] theorem fint_eq (n : Int) (K : Int → Option R) : fint n K = K n := by cases n <;> simp [fint]
@[simp] theorem fS_eq (v : AV) (K : AV → Option R) : fS v K = K v := by cases v <;> rfl
@[simp] theorem fSp_eq {α : Type} (l : List α) (K : List α → Option R) : fSp l K = K l := by
  induction l generalizing K with
  | nil => rfl
  | cons a l ih => exact ih fun r => K (a :: r)
@[simp] theorem fL_eq (l : List AV) (K : List AV → Option R) : fL l K = K l := by
  induction l generalizing K with
  | nil => rfl
  | cons a l ih =>
    show fS a (fun a => fL l fun r => K (a :: r)) = _
    rw [fS_eq, ih]
@[simp] theorem fD_eq (v : AV) (K : AV → Option R) : fD v K = K v := by
  unfold fD
  split <;> (try simp) <;> (try rfl)
  split
  · simp
  · split <;> rfl
  · simp
  · rfl
@[simp] theorem appK_eq (es xs : List (List AV)) (K : List (List AV) → Option R) : appK es xs K = K (es ++ xs) := by
  induction es generalizing K with
  | nil => rfl
  | cons a l ih => exact ih fun r => K (a :: r)

theorem putK_ok {cs : List AV} {off : Nat} {vs : List AV} {K : List AV → Option R} {r : R} (h : putK cs off vs K = some r) : K (putCells cs off vs) = some r := by
  induction cs generalizing off vs K with
  | nil =>
    cases vs with
    | nil =>
      have : K [] = some r := h
      simpa [putCells] using this
    | cons v vs => cases h
  | cons c cs ih =>
    cases off with
    | zero =>
      cases vs with
      | nil =>
        have : K (c :: cs) = some r := h
        simpa [putCells] using this
      | cons v vs =>
        have := ih (off := 0) (vs := vs) (K := fun r => K (v :: r)) h
        simpa [putCells] using this
    | succ off =>
      have := ih (off := off) (vs := vs) (K := fun r => K (c :: r)) h
      simpa [putCells, Nat.add_right_comm] using this

theorem setK_ok {es : List (List AV)} {i off : Nat} {vs : List AV} {K : List (List AV) → Option R} {r : R} (h : setK es i off vs K = some r) :
    i < es.length ∧ K (es.set i (putCells (eget es i) off vs)) = some r := by
  induction es generalizing i K with
  | nil => cases h
  | cons c es ih =>
    cases i with
    | zero =>
      have := putK_ok (K := fun c => K (c :: es)) h
      exact ⟨by simp, by simpa [eget] using this⟩
    | succ i =>
      obtain ⟨h1, h2⟩ := ih (i := i) (K := fun r => K (c :: r)) h
      exact ⟨by simpa using h1, by simpa [eget] using h2⟩

theorem get_node {α : Type} (d : α) (l : Tr α) (v : α) (r : Tr α) (k : Nat) :
    Tr.get d (.node l v r) k = if k = 0 then v else if k % 2 = 1 then Tr.get d l (k / 2) else Tr.get d r (k / 2 - 1) := by
  show (bif Nat.beq k 0 then v else bif Nat.beq (Nat.mod k 2) 1 then Tr.get d l (Nat.div k 2) else Tr.get d r (Nat.pred (Nat.div k 2))) = _
  by_cases h : k = 0
  · subst h; rfl
  · have h1 : Nat.beq k 0 = false := by
      cases hb : Nat.beq k 0
      · rfl
      · exact absurd (Nat.eq_of_beq_eq_true hb) h
    rw [h1, if_neg h]
    simp only [cond_false]
    by_cases h2 : k % 2 = 1
    · have h3 : Nat.beq (Nat.mod k 2) 1 = true := by show Nat.beq (k % 2) 1 = true; rw [h2]; rfl
      rw [h3, if_pos h2]; rfl
    · have h3 : Nat.beq (Nat.mod k 2) 1 = false := by
        show Nat.beq (k % 2) 1 = false
        cases hb : Nat.beq (k % 2) 1
        · rfl
        · exact absurd (Nat.eq_of_beq_eq_true hb) h2
      rw [h3, if_neg h2]; rfl

theorem set_ok {α : Type} (d : α) {t : Tr α} {k : Nat} {x : α} {K : Tr α → Option R} {r : R} (h : t.set k x K = some r) :
    ∃ t', K t' = some r ∧ ∀ j, Tr.get d t' j = if j = k then x else Tr.get d t j := by
  induction t generalizing k K with
  | nil => cases h
  | node l v rr ihl ihr =>
    have h' : (bif Nat.beq k 0 then K (.node l x rr) else bif Nat.beq (Nat.mod k 2) 1 then Tr.set l (Nat.div k 2) x (fun l => K (.node l v rr)) else Tr.set rr (Nat.pred (Nat.div k 2)) x (fun r => K (.node l v r))) = some r := h
    by_cases hk : k = 0
    · subst hk
      refine ⟨_, h', fun j => ?_⟩
      rw [get_node, get_node]
      by_cases hj : j = 0 <;> simp [hj]
    · have h1 : Nat.beq k 0 = false := by
        cases hb : Nat.beq k 0
        · rfl
        · exact absurd (Nat.eq_of_beq_eq_true hb) hk
      rw [h1] at h'
      simp only [cond_false] at h'
      by_cases h2 : k % 2 = 1
      · have h3 : Nat.beq (Nat.mod k 2) 1 = true := by show Nat.beq (k % 2) 1 = true; rw [h2]; rfl
        rw [h3] at h'
        obtain ⟨t', e1, e2⟩ := ihl (k := k / 2) (K := fun l => K (.node l v rr)) h'
        refine ⟨_, e1, fun j => ?_⟩
        rw [get_node, get_node]
        by_cases hj : j = 0
        · subst hj; simp [Ne.symm hk]
        · simp only [hj, if_false]
          by_cases hj2 : j % 2 = 1
          · simp only [hj2, if_true, e2]
            by_cases hjk : j = k
            · subst hjk; simp
            · have : ¬ j / 2 = k / 2 := by omega
              simp [hjk, this]
          · have : ¬ j = k := fun e => by subst e; exact hj2 h2
            simp [hj2, this]
      · have h3 : Nat.beq (Nat.mod k 2) 1 = false := by
          show Nat.beq (k % 2) 1 = false
          cases hb : Nat.beq (k % 2) 1
          · rfl
          · exact absurd (Nat.eq_of_beq_eq_true hb) h2
        rw [h3] at h'
        obtain ⟨t', e1, e2⟩ := ihr (k := k / 2 - 1) (K := fun r => K (.node l v r)) h'
        refine ⟨_, e1, fun j => ?_⟩
        rw [get_node, get_node]
        by_cases hj : j = 0
        · subst hj; simp [Ne.symm hk]
        · simp only [hj, if_false]
          by_cases hj2 : j % 2 = 1
          · have : ¬ j = k := fun e => by subst e; exact h2 hj2
            simp [hj2, this]
          · simp only [hj2, if_false, e2]
            by_cases hjk : j = k
            · subst hjk; simp
            · have : ¬ j / 2 - 1 = k / 2 - 1 := by omega
              simp [hjk, this]

theorem get_full {α : Type} (d : α) (n : Nat) : ∀ j, Tr.get d (Tr.full d n) j = d := by
  induction n with
  | zero => intro j; rfl
  | succ n ih =>
    intro j
    show Tr.get d (.node (Tr.full d n) d (Tr.full d n)) j = d
    rw [get_node]
    split
    · rfl
    · split <;> exact ih _

end

theorem Heap.del_ne' {h : Heap} {id j : Nat} (hj : j ≠ id) : (h.del id) j = h j := by simp [Heap.del, hj]

/-- The evaluator's memory, by the true numbers. -/
def HR (ρ : Nat → Nat) (H h : Heap) : Prop := ∀ k o, H k = some o → h (ρ k) = some (renO ρ o)

theorem HR.mono {ρ : Nat → Nat} {H h h' : Heap} (r : HR ρ H h) (l : h.le h') : HR ρ H h' := fun k o e => l _ _ (r k o e)
theorem HR.noH (ρ : Nat → Nat) (h : Heap) : HR ρ noH h := fun k o e => by simp [Go.Abs.noH] at e

abbrev renE (ρ : Nat → Nat) (E : Env) : Env := fun j => ren ρ (E j)

section
variable {ρ : Nat → Nat} {P : Program}

theorem cellsAt_ren {H h : Heap} (r : HR ρ H h) {a : AV} {cs : List AV} {off : Nat} (e : cellsAt a H = some (cs, off)) : cellsAt (ren ρ a) h = some (cs.map (ren ρ), off) := by
  unfold cellsAt at e
  split at e
  · cases e; simp [cellsAt]
  · split at e
    · rename_i ho
      split at e
      · rename_i hc
        cases e
        simp only [ren_ptr, cellsAt, r _ _ ho, renO_row, renC, List.length_map]
        rw [if_pos hc]
        have := eget_renC ρ
        simp only [renC] at this
        rw [this]
      · cases e
    · cases e
  · cases e

theorem eLoad_ren {H h : Heap} (r : HR ρ H h) {g : Bool} {n : Nat} {a v : AV} (e : eLoad g n a H = some v) : eLoad g n (ren ρ a) h = some (ren ρ v) := by
  unfold eLoad at *
  cases hc : cellsAt a H with
  | none => simp [hc] at e
  | some p =>
    obtain ⟨cs, off⟩ := p
    rw [cellsAt_ren r hc]
    simp only [hc] at e ⊢
    exact ePart_ren e

theorem mapFind_ren {kind : TypeDesc} {k : Value} : ∀ {es : List (Value × AV)} {i : Nat} {r : Option (Nat × AV)}, mapFind kind k es i = some r →
    mapFind kind k (es.map fun p => (p.1, ren ρ p.2)) i = some (r.map fun p => (p.1, ren ρ p.2)) := by
  intro es
  induction es with
  | nil => intro i r h; simp [mapFind] at h; subst h; simp [mapFind]
  | cons p es ih =>
    intro i r h
    obtain ⟨q, v⟩ := p
    simp only [mapFind] at h
    simp only [List.map_cons, mapFind]
    cases hs : Instr.sameNow kind k q with
    | none => rw [hs] at h; cases h
    | some b =>
      rw [hs] at h
      cases b with
      | true => cases h; rfl
      | false => exact ih h

theorem mapTypes_ren {t : TypeId} {kind : TypeDesc} {z : AV} (h : mapTypes P t = some (kind, z)) : ren ρ z = z := by
  unfold mapTypes at h
  split at h
  · split at h
    · split at h
      · cases hb : scalarKey _ <;> rw [hb] at h <;> simp at h
        obtain ⟨_, rfl⟩ := h
        simp
      · cases h
    · cases h
  · cases h

theorem eLookup_ren {H h : Heap} (r : HR ρ H h) {kind : TypeDesc} {zero : AV} (hz : ren ρ zero = zero) {ok : Bool} {m k v : AV} (e : eLookup kind zero ok m k H = some v) :
    eLookup kind zero ok (ren ρ m) (ren ρ k) h = some (ren ρ v) := by
  unfold eLookup at e
  split at e
  · rename_i key
    have fin : ∀ es : List (Value × AV), (match mapFind kind key es 0 with
        | some (some (_, v)) => some (bif ok then AV.tup [v, AV.v (Value.bool true)] else v)
        | some none => some (bif ok then AV.tup [zero, AV.v (Value.bool false)] else zero)
        | none => none) = some v → (match mapFind kind key (es.map fun p => (p.1, ren ρ p.2)) 0 with
        | some (some (_, v)) => some (bif ok then AV.tup [v, AV.v (Value.bool true)] else v)
        | some none => some (bif ok then AV.tup [zero, AV.v (Value.bool false)] else zero)
        | none => none) = some (ren ρ v) := by
      intro es e
      split at e
      · rename_i hf
        cases e
        rw [mapFind_ren hf]
        cases ok <;> simp
      · rename_i hf
        cases e
        rw [mapFind_ren hf]
        cases ok <;> simp [hz]
      · cases e
    split at e
    · rename_i es hm
      split at hm
      · cases hm
        simp only [ren_v, eLookup]
        exact fin [] e
      · split at hm
        · rename_i ho
          cases hm
          simp only [ren_v, ren_map, eLookup, r _ _ ho, renO_map]
          exact fin _ e
        · cases hm
      · cases hm
    · cases e
  · cases e

theorem map_ev_ren (E : Env) (l : List Operand) : l.map (ev (renE ρ E)) = (l.map (ev E)).map (ren ρ) := by
  rw [List.map_map]
  exact List.map_congr_left fun x _ => by simp [ev_ren]

theorem optmap_ev_ren (E : Env) (x : Option Operand) : x.map (ev (renE ρ E)) = (x.map (ev E)).map (ren ρ) := by
  cases x <;> simp [ev_ren]

theorem evalOp_ren {H h : Heap} (r : HR ρ H h) {op : Op} {E : Env} {v : AV} (e : evalOp P op E H = some v) : evalOp P op (renE ρ E) h = some (ren ρ v) := by
  cases op <;> first
    | (cases e; done)
    | skip
  case move x => simp only [evalOp, ev_ren] at *; cases e; rfl
  case assign x => simp only [evalOp, ev_ren] at *; cases e; rfl
  case pick c a b => simp only [evalOp, ev_ren] at *; exact ePick_ren e
  case box t x => simp only [evalOp, ev_ren] at *; cases e; simp [cellsOf_ren]
  case build t ps =>
    simp only [evalOp] at *
    rw [renP_ev]
    exact eBuild_ren e
  case buildSlice t len ps =>
    simp only [evalOp] at *
    split at e
    · rename_i sz z hr
      rw [renP_ev]
      exact eImm_ren (rowTab_ren hr) e
    · cases e
  case load t a =>
    simp only [evalOp, ev_ren] at *
    split at e
    · split at e
      · rename_i hi; rw [if_pos hi]; exact eLoad_ren r e
      · cases e
    · cases e
  case nilCheck x => simp only [evalOp, ev_ren] at *; exact eNil_ren e
  case binOp op t x y t' => simp only [evalOp, ev_ren] at *; exact eBin_ren e
  case unOp op t x => simp only [evalOp, ev_ren] at *; exact eUn_ren e
  case convert s d x =>
    simp only [evalOp, ev_ren] at *
    split at e
    · unfold eBytes at e
      split at e
      · rename_i hx
        cases e
        rw [hx]
        simp [eBytes, byteCells, Function.comp_def]
      · cases e
    · split at e
      · exact eToInt_ren e
      · cases e
  case makeFunc fn fi ca =>
    cases fn with
    | func f =>
      simp only [evalOp] at *
      cases e
      rw [map_ev_ren, map_ev_ren]
      simp
    | _ => cases e
  case slice t x lo hi mx =>
    cases mx with
    | none =>
      simp only [evalOp, ev_ren, optmap_ev_ren] at *
      split at e
      · exact eSlice_ren e
      · split at e
        · rename_i hi; rw [if_pos hi]; exact eSlice_ren e
        · cases e
      · cases e
    | some _ => cases e
  case fieldAddr s x f =>
    simp only [evalOp, ev_ren] at *
    split at e
    · exact eFA_ren e
    · cases e
  case field s x f =>
    simp only [evalOp, ev_ren] at *
    split at e
    · split at e
      · split at e
        · split at e
          · rename_i hi; rw [if_pos hi]; exact eField_ren e
          · cases e
        · cases e
      · cases e
    · cases e
  case indexAddr t x i =>
    simp only [evalOp, ev_ren] at *
    split at e
    · split at e
      · rename_i hi; rw [if_pos hi]; exact eIxS_ren e
      · cases e
    · split at e
      · rename_i hi; rw [if_pos hi]; exact eIxA_ren e
      · cases e
    · cases e
  case index t x i =>
    simp only [evalOp, ev_ren] at *
    split at e
    · exact eIdxStr_ren e
    · split at e
      · split at e
        · rename_i hi; rw [if_pos hi]; exact eIdxA_ren e
        · cases e
      · cases e
    · cases e
  case lookup t m k ok =>
    simp only [evalOp, ev_ren] at *
    split at e
    · rename_i hm; exact eLookup_ren r (mapTypes_ren hm) e
    · cases e
  case extract t k => simp only [evalOp, ev_ren] at *; exact eExtract_ren e
  case call c =>
    obtain ⟨cal, args, types⟩ := c
    cases cal with
    | builtin b =>
      cases b <;> first
        | (cases e; done)
        | skip
      · simp only [evalOp] at *
        split at e
        · rename_i x t ha ht
          simp only [ev_ren]
          split at e
          · exact eLen_ren e
          · exact eLenStr_ren e
          · cases e
        · cases e
      · simp only [evalOp] at *
        split at e
        · rename_i x y ha
          simp only [ev_ren]
          exact eMax_ren e
        · cases e
      · simp only [evalOp] at *
        split at e
        · rename_i x y ha
          simp only [ev_ren]
          exact eMin_ren e
        · cases e
    | value f => cases e
    | invoke r m => cases e

theorem evalM_ren {H h : Heap} (r : HR ρ H h) {mode : Nat} {op : Op} {E : Env} {v : AV} (e : evalM P mode op E H = some v) : evalM P mode op (renE ρ E) h = some (ren ρ v) := by
  unfold evalM at *
  cases hm : Nat.beq mode 2 <;> simp [hm] at e ⊢
  · exact evalOp_ren r e
  · exact evalOp_ren (HR.noH ρ _) e

theorem elemsOf_ren {H h : Heap} (r : HR ρ H h) {sz : Nat} {x : AV} {xs : List (List AV)} (e : elemsOf sz x H = some xs) : elemsOf sz (ren ρ x) h = some (renC ρ xs) := by
  unfold elemsOf at e
  split at e
  · split at e
    · rename_i hc; cases e; simp [elemsOf, hc]
    · cases e
  · split at e
    · rename_i ho
      split at e
      · rename_i hc
        cases e
        simp only [ren_sl, elemsOf, r _ _ ho, renO_row, renC, List.length_map]
        rw [if_pos hc]
        simp [List.map_take, List.map_drop]
      · cases e
    · cases e
  · cases e; simp [elemsOf]
  · cases e

theorem callee_ren {f : AV} {args : List AV} {fid : FuncId} {as : List AV} (e : callee f args = some (fid, as)) : callee (ren ρ f) (args.map (ren ρ)) = some (fid, as.map (ren ρ)) := by
  unfold callee at e
  split at e
  · cases e; simp [callee]
  · cases e

theorem mapPut_ren {kind : TypeDesc} {k : Value} {v : AV} {es es' : List (Value × AV)} (e : mapPut kind k v es = some es') :
    mapPut kind k (ren ρ v) (es.map fun p => (p.1, ren ρ p.2)) = some (es'.map fun p => (p.1, ren ρ p.2)) := by
  unfold mapPut at *
  split at e
  · rename_i hf; cases e; rw [mapFind_ren hf]; simp [List.map_set]
  · rename_i hf; cases e; rw [mapFind_ren hf]; simp
  · cases e

end
end Go.Abs

namespace Go.Abs

/-- What was there when a stretch of the evaluation began. -/
structure Base where
  h0 : Heap
  n0 : Nat
  H0 : HT
  ρ0 : Nat → Nat

/-- Are the numbers in it below `n`? -/
def Bd (ρ : Nat → Nat) (n : Nat) (a : AV) : Prop := ∀ ρ' : Nat → Nat, (∀ k, k < n → ρ k = ρ' k) → ren ρ' a = ren ρ a
def BdO (ρ : Nat → Nat) (n : Nat) (o : AObj) : Prop := ∀ ρ' : Nat → Nat, (∀ k, k < n → ρ k = ρ' k) → renO ρ' o = renO ρ o

def Ext (n : Nat) (ρ : Nat → Nat) (n' : Nat) (ρ' : Nat → Nat) : Prop := n ≤ n' ∧ ∀ k, k < n → ρ k = ρ' k
theorem Ext.refl (n : Nat) (ρ : Nat → Nat) : Ext n ρ n ρ := ⟨Nat.le_refl _, fun _ _ => rfl⟩
theorem Ext.trans {n n' n'' : Nat} {ρ ρ' ρ'' : Nat → Nat} (a : Ext n ρ n' ρ') (b : Ext n' ρ' n'' ρ'') : Ext n ρ n'' ρ'' :=
  ⟨Nat.le_trans a.1 b.1, fun k hk => (a.2 k hk).trans (b.2 k (Nat.lt_of_lt_of_le hk a.1))⟩

theorem Bd.ext {n n' : Nat} {ρ ρ' : Nat → Nat} {a : AV} (h : Bd ρ n a) (e : Ext n ρ n' ρ') : Bd ρ' n' a := fun ρ'' h' => by
  rw [h ρ'' fun k hk => (e.2 k hk).trans (h' k (Nat.lt_of_lt_of_le hk e.1)), h ρ' e.2]
theorem Bd.same {n n' : Nat} {ρ ρ' : Nat → Nat} {a : AV} (h : Bd ρ n a) (e : Ext n ρ n' ρ') : ren ρ' a = ren ρ a := h ρ' e.2
theorem BdO.ext {n n' : Nat} {ρ ρ' : Nat → Nat} {a : AObj} (h : BdO ρ n a) (e : Ext n ρ n' ρ') : BdO ρ' n' a := fun ρ'' h' => by
  rw [h ρ'' fun k hk => (e.2 k hk).trans (h' k (Nat.lt_of_lt_of_le hk e.1)), h ρ' e.2]
theorem Bd.v (ρ : Nat → Nat) (n : Nat) (x : Value) : Bd ρ n (.v x) := fun _ _ => by simp
theorem Bd.sl {ρ : Nat → Nat} {n id : Nat} (h : id < n) (sz i len : Nat) : Bd ρ n (.sl sz id i len) := fun ρ' h' => by simp [h' id h]
theorem Bd.ptr {ρ : Nat → Nat} {n id : Nat} (h : id < n) (sz i off : Nat) : Bd ρ n (.ptr sz id i off) := fun ρ' h' => by simp [h' id h]
theorem Bd.map {ρ : Nat → Nat} {n id : Nat} (h : id < n) : Bd ρ n (.map id) := fun ρ' h' => by simp [h' id h]

structure SInv (b : Base) (ρ : Nat → Nat) (n low : Nat) (H : HT) (h : Heap) : Prop where
  hr : HR ρ (gh H) h
  inj : ∀ j k, gh H j ≠ none → gh H k ≠ none → ρ j = ρ k → j = k
  bd : ∀ k o, gh H k = some o → k < n ∧ BdO ρ n o
  fr : ∀ id o, b.h0 id = some o → (∀ k, k < b.n0 → gh b.H0 k ≠ none → b.ρ0 k ≠ id) → h id = some o
  keep : ∀ k, k < b.n0 → k < low → gh H k = gh b.H0 k
  own : ∀ k, gh H k ≠ none → b.h0 (ρ k) = none ∨ ∃ j, j < b.n0 ∧ gh b.H0 j ≠ none ∧ b.ρ0 j = ρ k
  le : b.n0 ≤ n

theorem SInv.hr' {b : Base} {ρ : Nat → Nat} {n low : Nat} {H : HT} {h : Heap} (S : SInv b ρ n low H h) {ρ' : Nat → Nat} (e : ∀ k, k < n → ρ k = ρ' k) : HR ρ' (gh H) h := by
  intro k o ho
  obtain ⟨h1, h2⟩ := S.bd k o ho
  rw [← e k h1, h2 ρ' e]
  exact S.hr k o ho

theorem SInv.own' {b : Base} {ρ : Nat → Nat} {n low : Nat} {H : HT} {h : Heap} (S : SInv b ρ n low H h) {k : Nat} (hk : gh H k ≠ none) {id : Nat} {o : AObj} (h0 : b.h0 id = some o)
    (hu : ∀ k, k < b.n0 → gh b.H0 k ≠ none → b.ρ0 k ≠ id) : id ≠ ρ k := by
  intro e
  rcases S.own k hk with hn | ⟨j, h1, h2, h3⟩
  · rw [← e, h0] at hn; cases hn
  · exact hu j h1 h2 (h3.trans e.symm)

/-- An object is written. -/
theorem SInv.write {b : Base} {ρ : Nat → Nat} {n low : Nat} {H H' : HT} {h : Heap} (S : SInv b ρ n low H h) {id : Nat} {o o' : AObj} (ho : gh H id = some o) (hb : BdO ρ n o')
    (hH : ∀ j, gh H' j = if j = id then some o' else gh H j) : SInv b ρ n (minN id low) H' (h.upd (ρ id) (renO ρ o')) := by
  have live : ∀ j, gh H' j ≠ none → gh H j ≠ none := by
    intro j hj
    rw [hH] at hj
    by_cases e : j = id
    · subst e; rw [ho]; simp
    · rwa [if_neg e] at hj
  have hmin : ∀ k, k < minN id low → k ≠ id ∧ k < low := by
    intro k hk
    unfold minN at hk
    cases hb : Nat.ble id low <;> rw [hb] at hk <;> simp at hk
    · have : ¬ id ≤ low := fun h => by rw [Nat.ble_eq_true_of_le h] at hb; cases hb
      omega
    · have := Nat.le_of_ble_eq_true hb; omega
  refine ⟨?_, fun j k hj hk e => S.inj j k (live j hj) (live k hk) e, ?_, ?_, ?_, fun k hk => S.own k (live k hk), S.le⟩
  · intro k q hq
    rw [hH] at hq
    by_cases e : k = id
    · subst e; rw [if_pos rfl] at hq; cases hq; simp
    · rw [if_neg e] at hq
      rw [Heap.upd_ne _ _ fun he => e (S.inj k id (by rw [hq]; simp) (by rw [ho]; simp) he)]
      exact S.hr k q hq
  · intro k q hq
    rw [hH] at hq
    by_cases e : k = id
    · subst e; rw [if_pos rfl] at hq; cases hq; exact ⟨(S.bd _ _ ho).1, hb⟩
    · rw [if_neg e] at hq; exact S.bd k q hq
  · intro i q h0 hu
    rw [Heap.upd_ne _ _ (S.own' (by rw [ho]; simp) h0 hu)]
    exact S.fr i q h0 hu
  · intro k hk hl
    obtain ⟨h1, h2⟩ := hmin k hl
    rw [hH, if_neg h1]
    exact S.keep k hk h2

/-- An object is let go. -/
theorem SInv.del {b : Base} {ρ : Nat → Nat} {n low : Nat} {H H' : HT} {h : Heap} (S : SInv b ρ n low H h) {id : Nat} {o : AObj} (ho : gh H id = some o)
    (hH : ∀ j, gh H' j = if j = id then none else gh H j) : SInv b ρ n (minN id low) H' (h.del (ρ id)) := by
  have live : ∀ j, gh H' j ≠ none → j ≠ id ∧ gh H j ≠ none := by
    intro j hj
    rw [hH] at hj
    by_cases e : j = id
    · subst e; simp at hj
    · rw [if_neg e] at hj; exact ⟨e, hj⟩
  have hmin : ∀ k, k < minN id low → k ≠ id ∧ k < low := by
    intro k hk
    unfold minN at hk
    cases hb : Nat.ble id low <;> rw [hb] at hk <;> simp at hk
    · have : ¬ id ≤ low := fun h => by rw [Nat.ble_eq_true_of_le h] at hb; cases hb
      omega
    · have := Nat.le_of_ble_eq_true hb; omega
  refine ⟨?_, fun j k hj hk e => S.inj j k (live j hj).2 (live k hk).2 e, ?_, ?_, ?_, fun k hk => S.own k (live k hk).2, S.le⟩
  · intro k q hq
    obtain ⟨h1, h2⟩ := live k (by rw [hq]; simp)
    rw [hH, if_neg h1] at hq
    rw [Heap.del_ne' fun he => h1 (S.inj k id h2 (by rw [ho]; simp) he)]
    exact S.hr k q hq
  · intro k q hq
    obtain ⟨h1, h2⟩ := live k (by rw [hq]; simp)
    rw [hH, if_neg h1] at hq
    exact S.bd k q hq
  · intro i q h0 hu
    rw [Heap.del_ne' (S.own' (by rw [ho]; simp) h0 hu)]
    exact S.fr i q h0 hu
  · intro k hk hl
    obtain ⟨h1, h2⟩ := hmin k hl
    rw [hH, if_neg h1]
    exact S.keep k hk h2

def updρ (ρ : Nat → Nat) (n id : Nat) : Nat → Nat := fun k => if k = n then id else ρ k
theorem updρ_ext (ρ : Nat → Nat) (n id : Nat) : Ext n ρ (n + 1) (updρ ρ n id) := ⟨by omega, fun k hk => by simp [updρ, show k ≠ n by omega]⟩

/-- A new object. -/
theorem SInv.new {b : Base} {ρ : Nat → Nat} {n low : Nat} {H H' : HT} {h : Heap} (S : SInv b ρ n low H h) {id : Nat} {o : AObj} (hid : h id = none) (hb : BdO ρ n o)
    (hH : ∀ j, gh H' j = if j = n then some o else gh H j) : SInv b (updρ ρ n id) (n + 1) low H' (h.upd id (renO ρ o)) := by
  have E := updρ_ext ρ n id
  have old : ∀ j, j ≠ n → gh H' j = gh H j := fun j hj => by rw [hH, if_neg hj]
  have lt : ∀ j, gh H j ≠ none → j < n := by
    intro j hj
    cases ho : gh H j with
    | none => exact absurd ho hj
    | some o => exact (S.bd j o ho).1
  have hne : ∀ j, gh H j ≠ none → ρ j ≠ id := by
    intro j hj e
    cases ho : gh H j with
    | none => exact hj ho
    | some o => have := S.hr j o ho; rw [e, hid] at this; cases this
  have un : updρ ρ n id n = id := by simp [updρ]
  have uo : ∀ j, gh H j ≠ none → updρ ρ n id j = ρ j := fun j hj => (E.2 j (lt j hj)).symm
  have live : ∀ j, gh H' j ≠ none → j = n ∨ (j ≠ n ∧ gh H j ≠ none) := by
    intro j hj
    by_cases e : j = n
    · exact .inl e
    · rw [old j e] at hj; exact .inr ⟨e, hj⟩
  refine ⟨?_, ?_, ?_, ?_, ?_, ?_, by have := S.le; omega⟩
  · intro k q hq
    rcases live k (by rw [hq]; simp) with e | ⟨e, hk⟩
    · subst e
      rw [hH, if_pos rfl] at hq; cases hq
      rw [un, Heap.upd_same, hb _ E.2]
    · rw [old k e] at hq
      rw [uo k hk, Heap.upd_ne _ _ (hne k hk), (S.bd k q hq).2 _ E.2]
      exact S.hr k q hq
  · intro j k hj hk e
    rcases live j hj with rfl | ⟨e1, h1⟩ <;> rcases live k hk with rfl | ⟨e2, h2⟩
    · rfl
    · rw [un, uo k h2] at e; exact absurd e.symm (hne k h2)
    · rw [un, uo j h1] at e; exact absurd e (hne j h1)
    · rw [uo j h1, uo k h2] at e; exact S.inj j k h1 h2 e
  · intro k q hq
    rcases live k (by rw [hq]; simp) with e | ⟨e, hk⟩
    · subst e
      rw [hH, if_pos rfl] at hq; cases hq
      exact ⟨by omega, hb.ext E⟩
    · rw [old k e] at hq
      have := S.bd k q hq
      exact ⟨by omega, this.2.ext E⟩
  · intro i q h0 hu
    have := S.fr i q h0 hu
    rw [Heap.upd_ne _ _ (fun e => by rw [e, hid] at this; cases this)]
    exact this
  · intro k hk hl
    rw [old k (by have := S.le; omega)]
    exact S.keep k hk hl
  · intro k hk
    rcases live k hk with e | ⟨e, h1⟩
    · subst e
      rw [un]
      cases h0 : b.h0 id with
      | none => exact .inl rfl
      | some q =>
        refine .inr ?_
        refine Classical.byContradiction fun hc => ?_
        have := S.fr id q h0 (fun j h1 h2 h3 => hc ⟨j, h1, h2, h3⟩)
        rw [hid] at this; cases this
    · rw [uo k h1]; exact S.own k h1

end Go.Abs

namespace Go.Abs

noncomputable def mapO {α : Type} (f : α → Option α) (l : List α) : Option (List α) :=
  List.rec (motive := fun _ => Option (List α)) (some []) (fun a _ ih => (f a).bind fun a => ih.bind fun r => some (a :: r)) l

theorem mapK_eq {R α : Type} {fK : α → (α → Option R) → Option R} {f : α → Option α} (h : ∀ a K, fK a K = (f a).bind K) (l : List α) (K : List α → Option R) : mapK fK l K = (mapO f l).bind K := by
  induction l generalizing K with
  | nil => rfl
  | cons a l ih =>
    show fK a (fun a => mapK fK l fun r => K (a :: r)) = _
    rw [h]
    show _ = ((f a).bind fun a => (mapO f l).bind fun r => some (a :: r)).bind K
    cases f a with
    | none => rfl
    | some b =>
      simp only [Option.bind_some]
      rw [ih]
      cases mapO f l <;> rfl

theorem mapO_ok {α : Type} {f : α → Option α} {d : α} : ∀ {l l' : List α}, mapO f l = some l' → l'.length = l.length ∧ ∀ i, i < l.length → f (l.getD i d) = some (l'.getD i d) := by
  intro l
  induction l with
  | nil =>
    intro l' h
    have : some [] = some l' := h
    cases this
    exact ⟨rfl, fun i hi => absurd hi (by simp)⟩
  | cons a l ih =>
    intro l' h
    have h' : ((f a).bind fun a => (mapO f l).bind fun r => some (a :: r)) = some l' := h
    cases ha : f a with
    | none => rw [ha] at h'; cases h'
    | some b =>
      rw [ha] at h'
      simp only [Option.bind_some] at h'
      cases hl : mapO f l with
      | none => rw [hl] at h'; cases h'
      | some r =>
        rw [hl] at h'
        cases h'
        obtain ⟨h1, h2⟩ := ih hl
        refine ⟨by simp [h1], fun i hi => ?_⟩
        cases i with
        | zero => exact ha
        | succ i => exact h2 i (by simpa using hi)

noncomputable def frzF (n : Nat) (H : HT) (k : Nat) : AV → Option AV :=
  Nat.rec (motive := fun _ => AV → Option AV) (fun _ => none)
    (fun _ ih a => match a with
      | .any => some .any
      | .v x => some (.v x)
      | .agg cs => (mapO ih cs).bind fun cs => some (.agg cs)
      | .tup cs => (mapO ih cs).bind fun cs => some (.tup cs)
      | .imm sz es => (mapO (mapO ih) es).bind fun es => some (.imm sz es)
      | .iptr cs off => (mapO ih cs).bind fun cs => some (.iptr cs off)
      | .sl sz id i len => bif Nat.ble n id then match gh H id with
          | some (.row s es) => bif Nat.beq s sz && Nat.ble (i + len) es.length then
              (mapO (mapO ih) ((es.drop i).take len)).bind fun es => some (.imm sz es) else none
          | _ => none
        else none
      | .ptr sz id i off => bif Nat.ble n id then match gh H id with
          | some (.row s es) => bif Nat.beq s sz && Nat.blt i es.length then
              (mapO ih (eget es i)).bind fun cs => some (.iptr cs off) else none
          | _ => none
        else none
      | .clo f a b => (mapO ih a).bind fun a => (mapO ih b).bind fun b => some (.clo f a b)
      | .map _ => none) k

theorem frzK_eq {R : Type} (n : Nat) (H : HT) (k : Nat) : ∀ (a : AV) (K : AV → Option R), frzK n H k a K = (frzF n H k a).bind K := by
  induction k with
  | zero => intro a K; rfl
  | succ k ih =>
    intro a K
    have m1 : ∀ (l : List AV) (K : List AV → Option R), mapK (frzK n H k) l K = (mapO (frzF n H k) l).bind K := mapK_eq ih
    have m2 : ∀ (l : List (List AV)) (K : List (List AV) → Option R), mapK (mapK (frzK n H k)) l K = (mapO (mapO (frzF n H k)) l).bind K := mapK_eq m1
    cases a with
    | any => rfl
    | v x => rfl
    | agg cs =>
      show mapK (frzK n H k) cs (fun cs => K (.agg cs)) = ((mapO (frzF n H k) cs).bind fun cs => some (.agg cs)).bind K
      rw [m1]; cases mapO (frzF n H k) cs <;> rfl
    | tup cs =>
      show mapK (frzK n H k) cs (fun cs => K (.tup cs)) = ((mapO (frzF n H k) cs).bind fun cs => some (.tup cs)).bind K
      rw [m1]; cases mapO (frzF n H k) cs <;> rfl
    | imm sz es =>
      show mapK (mapK (frzK n H k)) es (fun es => K (.imm sz es)) = ((mapO (mapO (frzF n H k)) es).bind fun es => some (.imm sz es)).bind K
      rw [m2]; cases mapO (mapO (frzF n H k)) es <;> rfl
    | iptr cs off =>
      show mapK (frzK n H k) cs (fun cs => K (.iptr cs off)) = ((mapO (frzF n H k) cs).bind fun cs => some (.iptr cs off)).bind K
      rw [m1]; cases mapO (frzF n H k) cs <;> rfl
    | sl sz id i len =>
      show (bif Nat.ble n id then match gh H id with
          | some (.row s es) => bif Nat.beq s sz && Nat.ble (i + len) es.length then
              mapK (mapK (frzK n H k)) ((es.drop i).take len) fun es => K (.imm sz es) else none
          | _ => none
        else none) = (bif Nat.ble n id then match gh H id with
          | some (.row s es) => bif Nat.beq s sz && Nat.ble (i + len) es.length then
              (mapO (mapO (frzF n H k)) ((es.drop i).take len)).bind fun es => some (.imm sz es) else none
          | _ => none
        else none).bind K
      cases Nat.ble n id
      · rfl
      · simp only [cond_true]
        split
        · rename_i s es _
          cases (Nat.beq s sz && Nat.ble (i + len) es.length)
          · rfl
          · simp only [cond_true]
            rw [m2]
            cases mapO (mapO (frzF n H k)) ((es.drop i).take len) <;> rfl
        · rfl
    | ptr sz id i off =>
      show (bif Nat.ble n id then match gh H id with
          | some (.row s es) => bif Nat.beq s sz && Nat.blt i es.length then
              mapK (frzK n H k) (eget es i) fun cs => K (.iptr cs off) else none
          | _ => none
        else none) = (bif Nat.ble n id then match gh H id with
          | some (.row s es) => bif Nat.beq s sz && Nat.blt i es.length then
              (mapO (frzF n H k) (eget es i)).bind fun cs => some (.iptr cs off) else none
          | _ => none
        else none).bind K
      cases Nat.ble n id
      · rfl
      · simp only [cond_true]
        split
        · rename_i s es _
          cases (Nat.beq s sz && Nat.blt i es.length)
          · rfl
          · simp only [cond_true]
            rw [m1]
            cases mapO (frzF n H k) (eget es i) <;> rfl
        · rfl
    | clo f x y =>
      show mapK (frzK n H k) x (fun x => mapK (frzK n H k) y fun y => K (.clo f x y)) = ((mapO (frzF n H k) x).bind fun x => (mapO (frzF n H k) y).bind fun y => some (.clo f x y)).bind K
      rw [m1]
      cases mapO (frzF n H k) x with
      | none => rfl
      | some x' =>
        simp only [Option.bind_some]
        rw [m1]
        cases mapO (frzF n H k) y <;> rfl
    | map id => rfl

theorem list_fix {α : Type} {g : α → α} {d : α} {l : List α} (h : ∀ i, i < l.length → g (l.getD i d) = l.getD i d) : l.map g = l := by
  apply List.ext_getElem
  · simp
  · intro i h1 h2
    have := h i h2
    simpa [List.getD_eq_getElem?_getD, h2] using this

/-- What is told holds no numbers. -/
theorem frzF_closed {n : Nat} {H : HT} {k : Nat} : ∀ {a v : AV}, frzF n H k a = some v → ∀ ρ : Nat → Nat, ren ρ v = v := by
  induction k with
  | zero => intro a v h; cases h
  | succ k ih =>
    have m1 : ∀ {l l' : List AV}, mapO (frzF n H k) l = some l' → ∀ ρ : Nat → Nat, l'.map (ren ρ) = l' := by
      intro l l' h ρ
      obtain ⟨h1, h2⟩ := mapO_ok (d := AV.any) h
      exact list_fix (d := AV.any) fun i hi => ih (h2 i (by omega)) ρ
    have m2 : ∀ {l l' : List (List AV)}, mapO (mapO (frzF n H k)) l = some l' → ∀ ρ : Nat → Nat, renC ρ l' = l' := by
      intro l l' h ρ
      obtain ⟨h1, h2⟩ := mapO_ok (d := ([] : List AV)) h
      exact list_fix (d := []) fun i hi => m1 (h2 i (by omega)) ρ
    intro a v h ρ
    have bnd : ∀ {α : Type} {x : Option α} {g : α → Option AV} {v : AV}, x.bind g = some v → ∃ y, x = some y ∧ g y = some v := by
      intro α x g v h
      cases x with
      | none => cases h
      | some y => exact ⟨y, rfl, h⟩
    cases a with
    | any => cases h; simp
    | v x => cases h; simp
    | agg cs => obtain ⟨y, h1, h2⟩ := bnd h; cases h2; simp [m1 h1 ρ]
    | tup cs => obtain ⟨y, h1, h2⟩ := bnd h; cases h2; simp [m1 h1 ρ]
    | imm sz es => obtain ⟨y, h1, h2⟩ := bnd h; cases h2; have := m2 h1 ρ; simpa [renC] using this
    | iptr cs off => obtain ⟨y, h1, h2⟩ := bnd h; cases h2; simp [m1 h1 ρ]
    | sl sz id i len =>
      have h' : (bif Nat.ble n id then match gh H id with
          | some (.row s es) => bif Nat.beq s sz && Nat.ble (i + len) es.length then
              (mapO (mapO (frzF n H k)) ((es.drop i).take len)).bind fun es => some (AV.imm sz es) else none
          | _ => none
        else none) = some v := h
      cases hb : Nat.ble n id <;> rw [hb] at h'
      · cases h'
      · simp only [cond_true] at h'
        split at h'
        · rename_i s es _
          cases hc : (Nat.beq s sz && Nat.ble (i + len) es.length) <;> rw [hc] at h'
          · cases h'
          · obtain ⟨y, h1, h2⟩ := bnd h'
            cases h2
            have := m2 h1 ρ
            simpa [renC] using this
        · cases h'
    | ptr sz id i off =>
      have h' : (bif Nat.ble n id then match gh H id with
          | some (.row s es) => bif Nat.beq s sz && Nat.blt i es.length then
              (mapO (frzF n H k) (eget es i)).bind fun cs => some (AV.iptr cs off) else none
          | _ => none
        else none) = some v := h
      cases hb : Nat.ble n id <;> rw [hb] at h'
      · cases h'
      · simp only [cond_true] at h'
        split at h'
        · rename_i s es _
          cases hc : (Nat.beq s sz && Nat.blt i es.length) <;> rw [hc] at h'
          · cases h'
          · obtain ⟨y, h1, h2⟩ := bnd h'
            cases h2
            simp [m1 h1 ρ]
        · cases h'
    | clo f x y =>
      obtain ⟨x', h1, h2⟩ := bnd h
      obtain ⟨y', h3, h4⟩ := bnd h2
      cases h4
      simp [m1 h1 ρ, m1 h3 ρ]
    | map id => cases h

/-- All cells of some rows are known for good. -/
noncomputable def Gh.addSet (G : Gh) (T : Nat → Prop) (w : World) : Gh :=
  { I := fun b o => @ite _ (T b) (Classical.propDecidable _) (match w.heap[b]? with | some (.cells arr _ _) => arr[o]? | _ => none) (G.I b o), Z := G.Z }

noncomputable def Heap.delSet (h : Heap) (T : Nat → Prop) : Heap := fun id => @ite _ (T id) (Classical.propDecidable _) none (h id)

theorem WR.freezeSet {w0 : World} {G : Gh} {h : Heap} {w : World} (H : WR w0 G h w) {T : Nat → Prop} (hT : ∀ id, T id → ∃ sz es, h id = some (.row sz es)) :
    G.le (G.addSet T w) ∧ WR w0 (G.addSet T w) (h.delSet T) w := by
  have hle : G.le (G.addSet T w) := by
    refine ⟨fun b o x e => ?_, fun _ _ e => e⟩
    have hne : ¬ T b := fun hb => by
      obtain ⟨sz, es, ho⟩ := hT b hb
      rw [H.sep b _ o ho] at e; cases e
    simp [Gh.addSet, hne, e]
  refine ⟨hle, ?_⟩
  have hd : ∀ {j x}, (h.delSet T) j = some x → ¬ T j ∧ h j = some x := by
    intro j x e
    unfold Heap.delSet at e
    by_cases hj : T j
    · simp [hj] at e
    · simp [hj] at e; exact ⟨hj, e⟩
  exact
  { imm := fun b o x e => by
      by_cases hb : T b
      · simp only [Gh.addSet, hb, if_true] at e
        split at e
        · rename_i arr T' fz he
          simp [World.cell?, he]; exact e
        · cases e
      · simp only [Gh.addSet, hb, if_false] at e
        exact H.imm b o x e
    siz := H.siz
    obj := fun j x e => (H.obj j x (hd e).2).mono hle rfl
    sep := fun j x k e => by
      obtain ⟨h1, h2⟩ := hd e
      simp only [Gh.addSet, h1, if_false]
      exact H.sep j x k h2
    lo := fun j x e => H.lo j x (hd e).2
    old := H.old, size := H.size, os := H.os, output := H.output }

theorem frz_VR {w0 : World} {G : Gh} {h : Heap} {w : World} (W : WR w0 G h w) {ρ : Nat → Nat} {H : HT} (R : HR ρ (gh H) h) {n : Nat} {T : Nat → Prop} (hT : ∀ id, T id → ∃ sz es, h id = some (.row sz es))
    (hTn : ∀ k s es, n ≤ k → gh H k = some (.row s es) → T (ρ k)) {k : Nat} : ∀ {a v : AV} {x : Value}, frzF n H k a = some v → VR G (ren ρ a) x → VR (G.addSet T w) v x := by
  have hle := (W.freezeSet hT).1
  induction k with
  | zero => intro a v x h; cases h
  | succ k ih =>
    have bnd : ∀ {α : Type} {x : Option α} {g : α → Option AV} {v : AV}, x.bind g = some v → ∃ y, x = some y ∧ g y = some v := by
      intro α x g v h
      cases x with
      | none => cases h
      | some y => exact ⟨y, rfl, h⟩
    have g1 : ∀ {l l' : List AV}, mapO (frzF n H k) l = some l' → l'.length = l.length ∧ ∀ i, i < l.length → ∀ x, VR G (lget (l.map (ren ρ)) i) x → VR (G.addSet T w) (lget l' i) x := by
      intro l l' hm
      obtain ⟨h1, h2⟩ := mapO_ok (d := AV.any) hm
      exact ⟨h1, fun i hi x hx => ih (h2 i hi) (by have e := lget_map_ren ρ l i; rw [e] at hx; exact hx)⟩
    intro a v x hf hx
    cases a with
    | any => cases hf; exact .any _
    | v y => cases hf; exact (by simpa using hx : VR G (.v y) x).mono hle
    | agg cs =>
      obtain ⟨cs', h1, h2⟩ := bnd hf
      cases h2
      obtain ⟨l1, l2⟩ := g1 h1
      rw [ren_agg] at hx
      cases hx with
      | agg _ xs hl hh => exact .agg _ _ (by simpa [l1] using hl) fun j hj => l2 j (by omega) _ (hh j (by simp; omega))
    | tup cs =>
      obtain ⟨cs', h1, h2⟩ := bnd hf
      cases h2
      obtain ⟨l1, l2⟩ := g1 h1
      rw [ren_tup] at hx
      cases hx with
      | tup _ xs hl hh => exact .tup _ _ (by simpa [l1] using hl) fun j hj => l2 j (by omega) _ (hh j (by simp; omega))
    | imm sz es =>
      obtain ⟨es', h1, h2⟩ := bnd hf
      cases h2
      obtain ⟨l1, l2⟩ := mapO_ok (d := ([] : List AV)) h1
      rw [ren_imm] at hx
      generalize hes : (es.map fun c => c.map (ren ρ)) = ees at hx
      have hel : ees.length = es.length := by rw [← hes]; simp
      cases hx with
      | immNil _ b cap =>
        have : es' = [] := by
          have : es'.length = 0 := by simpa [l1] using hel.symm
          simpa using this
        subst this
        exact .immNil _ _ _
      | imm _ _ b o cap hcap hsz ys hI hv =>
        have : ees.length = es'.length := by omega
        rw [this]
        have eg : ∀ j, eget ees j = (eget es j).map (ren ρ) := fun j => by rw [← hes]; exact eget_renC ρ es j
        have hlen : ∀ i, i < es'.length → (eget es' i).length = sz := fun i hi => by
          have := (g1 (l2 i (by omega))).1
          have e2 := hsz i (by omega)
          rw [eg, List.length_map] at e2
          show (es'.getD i []).length = sz
          rw [this]
          exact e2
        refine .imm sz es' b o cap (by omega) hlen ys (fun i j hi hj => hle.I _ _ _ (hI i j (by omega) hj)) fun i j hi hj => ?_
        have hh := hv i j (by omega) hj
        rw [eg] at hh
        refine (g1 (l2 i (by omega))).2 j ?_ _ hh
        have e2 := hsz i (by omega)
        rw [eg, List.length_map] at e2
        show j < (eget es i).length
        omega
    | iptr cs off =>
      obtain ⟨cs', h1, h2⟩ := bnd hf
      cases h2
      obtain ⟨l1, l2⟩ := g1 h1
      rw [ren_iptr] at hx
      cases hx with
      | iptr _ _ b o ys hI hv =>
        exact .iptr _ _ b o ys (fun j hj => hle.I _ _ _ (hI j (by simp; omega))) fun j hj => l2 j (by omega) _ (hv j (by simp; omega))
    | sl sz id i len =>
      have h' : (bif Nat.ble n id then match gh H id with
          | some (.row s es) => bif Nat.beq s sz && Nat.ble (i + len) es.length then
              (mapO (mapO (frzF n H k)) ((es.drop i).take len)).bind fun es => some (AV.imm sz es) else none
          | _ => none
        else none) = some v := hf
      cases hb : Nat.ble n id <;> rw [hb] at h'
      · cases h'
      · simp only [cond_true] at h'
        split at h'
        · rename_i s es ho
          cases hc : (Nat.beq s sz && Nat.ble (i + len) es.length) <;> rw [hc] at h'
          · cases h'
          · obtain ⟨es', h1, h2⟩ := bnd h'
            cases h2
            simp only [Bool.and_eq_true] at hc
            have es1 := Nat.eq_of_beq_eq_true hc.1
            have es2 := Nat.le_of_ble_eq_true hc.2
            subst es1
            obtain ⟨l1, l2⟩ := mapO_ok (d := ([] : List AV)) h1
            have hlt : ((es.drop i).take len).length = len := by simp; omega
            have hO := W.obj _ _ (R _ _ ho)
            obtain ⟨arr, T', he, a1, a2, a3, a4⟩ := hO
            simp only [renC, List.length_map] at a1 a3 a4
            rw [ren_sl] at hx
            cases hx with
            | sl _ _ _ _ o cap N hcap hZ hn hoo =>
              rcases hoo with hc0 | hoo
              · have h0 : len = 0 := by omega
                subst h0
                have : es' = [] := by
                  have : es'.length = 0 := by omega
                  simpa using this
                subst this
                exact .immNil _ _ _
              · subst hoo
                have hl' : len = es'.length := by omega
                have hgi : ∀ j, j < len → ((es.drop i).take len).getD j [] = eget es (i + j) := by
                  intro j hj
                  simp [eget, List.getD_eq_getElem?_getD, hj, List.getElem?_drop]
                have eg : ∀ j, eget (es.map fun c => c.map (ren ρ)) j = (eget es j).map (ren ρ) := fun j => eget_renC ρ es j
                have hTT : T (ρ id) := hTn id _ _ (Nat.le_of_ble_eq_true hb) ho
                have hsz : ∀ j, j < len → (eget es (i + j)).length = s := fun j hj => by
                  have := a3 (i + j) (by omega)
                  rwa [eg, List.length_map] at this
                have hq : ∀ j, j < es'.length → (eget es' j).length = s := fun j hj => by
                  have e1 := l2 j (by omega)
                  rw [hgi j (by omega)] at e1
                  have := (g1 e1).1
                  show (es'.getD j []).length = s
                  rw [this]
                  exact hsz j (by omega)
                have := VR.imm (G := G.addSet T w) s es' (ρ id) (i * s) cap (by omega) hq (fun j q => arr.getD ((i + j) * s + q) undef) (fun j q hj hq' => by
                  have e : i * s + j * s + q = (i + j) * s + q := by rw [Nat.add_mul]
                  rw [e]
                  have hlt : (i + j) * s + q < arr.size := by
                    have : (i + j + 1) * s ≤ es.length * s := Nat.mul_le_mul_right _ (by omega)
                    rw [Nat.add_mul] at this; omega
                  simp only [Gh.addSet, hTT, if_true, he]
                  simp [Array.getD, hlt]) (fun j q hj hq' => by
                  have e1 := l2 j (by omega)
                  rw [hgi j (by omega)] at e1
                  refine (g1 e1).2 q (by rw [hsz j (by omega)]; exact hq') _ ?_
                  have := a4 (i + j) q (by omega) hq'
                  rw [eg] at this
                  exact this)
                rwa [← hl'] at this
        · cases h'
    | ptr sz id i off =>
      have h' : (bif Nat.ble n id then match gh H id with
          | some (.row s es) => bif Nat.beq s sz && Nat.blt i es.length then
              (mapO (frzF n H k) (eget es i)).bind fun cs => some (AV.iptr cs off) else none
          | _ => none
        else none) = some v := hf
      cases hb : Nat.ble n id <;> rw [hb] at h'
      · cases h'
      · simp only [cond_true] at h'
        split at h'
        · rename_i s es ho
          cases hc : (Nat.beq s sz && Nat.blt i es.length) <;> rw [hc] at h'
          · cases h'
          · obtain ⟨cs', h1, h2⟩ := bnd h'
            cases h2
            simp only [Bool.and_eq_true] at hc
            have es1 := Nat.eq_of_beq_eq_true hc.1
            have es2 := blt_lt hc.2
            subst es1
            obtain ⟨l1, l2⟩ := g1 h1
            have hO := W.obj _ _ (R _ _ ho)
            obtain ⟨arr, T', he, a1, a2, a3, a4⟩ := hO
            simp only [renC, List.length_map] at a1 a3 a4
            have eg : ∀ j, eget (es.map fun c => c.map (ren ρ)) j = (eget es j).map (ren ρ) := fun j => eget_renC ρ es j
            have hTT : T (ρ id) := hTn id _ _ (Nat.le_of_ble_eq_true hb) ho
            have hsz := a3 i es2
            rw [eg, List.length_map] at hsz
            rw [ren_ptr] at hx
            cases hx with
            | ptr _ _ _ _ =>
              have hlt : ∀ q, q < s → i * s + q < arr.size := fun q hq => by
                have : (i + 1) * s ≤ es.length * s := Nat.mul_le_mul_right _ (by omega)
                rw [Nat.add_mul] at this; omega
              exact VR.iptr cs' off (ρ id) (i * s) (fun q => arr.getD (i * s + q) undef) (fun q hq => by
                simp only [Gh.addSet, hTT, if_true, he]
                have := hlt q (by omega)
                simp [Array.getD, this]) (fun q hq => by
                refine l2 q (by omega) _ ?_
                have := a4 i q es2 (by omega)
                rw [eg] at this
                exact this)
        · cases h'
    | clo f p q =>
      obtain ⟨p', h1, h2⟩ := bnd hf
      obtain ⟨q', h3, h4⟩ := bnd h2
      cases h4
      obtain ⟨l1, l2⟩ := g1 h1
      obtain ⟨l3, l4⟩ := g1 h3
      rw [ren_clo] at hx
      cases hx with
      | clo _ _ _ xs ys hl hl' hh hh' =>
        exact .clo f _ _ xs ys (by simpa [l1] using hl) (by simpa [l3] using hl') (fun j hj => l2 j (by omega) _ (hh j (by simp; omega))) (fun j hj => l4 j (by omega) _ (hh' j (by simp; omega)))
    | map id => cases hf

/-- What a call told, when it wrote nothing that was there. -/
theorem frz_step {h : Heap} {n : Nat} {H : HT} {ρ : Nat → Nat} {ρ1 : Nat → Nat} {n1 low1 : Nat} {H1 : HT} {h1 : Heap} (S : SInv ⟨h, n, H, ρ⟩ ρ1 n1 low1 H1 h1) (hr : HR ρ (gh H) h) (hlow : n ≤ low1)
    (he : ∀ k, k < n → ρ k = ρ1 k) (hbd : ∀ k o, gh H k = some o → BdO ρ n o) {k : Nat} {a v : AV} (hf : frzF n H1 k a = some v) : GStep (ren ρ1 a) h1 v h := by
  intro w0 G w x W hx
  have hT : ∀ id, (∃ k s es, n ≤ k ∧ gh H1 k = some (AObj.row s es) ∧ ρ1 k = id) → ∃ sz es, h1 id = some (.row sz es) := by
    rintro id ⟨k, s, es, _, ho, rfl⟩
    exact ⟨_, _, S.hr k _ ho⟩
  obtain ⟨a1, a2⟩ := W.freezeSet hT
  refine ⟨_, a1, a2.drop ?_, frz_VR W S.hr hT (fun k s es hk ho => ⟨k, s, es, hk, ho, rfl⟩) hf hx⟩
  intro id o ho
  have hnT : ¬ (∃ k s es, n ≤ k ∧ gh H1 k = some (AObj.row s es) ∧ ρ1 k = id) := by
    rintro ⟨k, s, es, hk, ho1, rfl⟩
    rcases S.own k (by rw [ho1]; simp) with h0 | ⟨j, hj, h2, h3⟩
    · simp only at h0; rw [ho] at h0; cases h0
    · simp only at hj h2 h3
      have e1 : gh H1 j = gh H j := S.keep j hj (by omega)
      have := S.inj j k (by rw [e1]; exact h2) (by rw [ho1]; simp) (by rw [← he j hj]; exact h3)
      omega
  simp only [Heap.delSet, hnT, if_false]
  by_cases hu : ∃ j, j < n ∧ gh H j ≠ none ∧ ρ j = id
  · obtain ⟨j, hj, h2, rfl⟩ := hu
    have e1 : gh H1 j = gh H j := S.keep j hj (by omega)
    cases ho2 : gh H j with
    | none => exact absurd ho2 h2
    | some q =>
      have b1 := hr j q ho2
      rw [ho] at b1
      cases b1
      rw [ho2] at e1
      have b2 := S.hr j q e1
      rw [he j hj, b2, hbd j q ho2 ρ1 he]
  · exact S.fr id o ho fun j h1 h2 h3 => hu ⟨j, h1, h2, h3⟩

end Go.Abs

namespace Go.Abs

/-- What must follow of a continuation. -/
def KOk (b : Base) (r : AV × HT × Nat × Nat) (n : Nat) (ρ : Nat → Nat) (K : KV) (k : AV → Heap → Prop) : Prop :=
  ∀ v H' n' low' ρ' h', Ext n ρ n' ρ' → SInv b ρ' n' low' H' h' → Bd ρ' n' v → K v H' n' low' = some r → k (ren ρ' v) h'

def CallOK (P : Program) (C : CallF) : Prop :=
  ∀ (b : Base) (ρ : Nat → Nat) (n low : Nat) (H : HT) (h : Heap) (f : FuncId) (as : List AV) (K : KV) (r : AV × HT × Nat × Nat) (Q : AV → Heap → Prop),
    SInv b ρ n low H h → (∀ a ∈ as, Bd ρ n a) → C f as H n low K = some r → KOk b r n ρ K Q → ACalls P f (as.map (ren ρ)) h Q

section
variable {P : Program} {C : CallF} {b : Base} {ρ : Nat → Nat} {n low : Nat} {H : HT} {h : Heap} {r : AV × HT × Nat × Nat}

theorem KOk.at (S : SInv b ρ n low H h) {K : KV} {k : AV → Heap → Prop} (hK : KOk b r n ρ K k) {v : AV} (hv : Bd ρ n v) (e : K v H n low = some r) : k (ren ρ v) h :=
  hK v H n low ρ h (.refl _ _) S hv e

theorem newK_ok (S : SInv b ρ n low H h) {o : AObj} (hb : BdO ρ n o) {K : Nat → HT → Nat → Nat → RR} (e : newK o H n low K = some r) {id : Nat} (hid : h id = none) :
    ∃ ρ' H', Ext n ρ (n + 1) ρ' ∧ SInv b ρ' (n + 1) low H' (h.upd id (renO ρ o)) ∧ ρ' n = id ∧ K n H' (n + 1) low = some r := by
  unfold newK at e
  obtain ⟨H', e1, e2⟩ := set_ok none e
  rw [fnat_eq] at e1
  exact ⟨updρ ρ n id, H', updρ_ext ρ n id, S.new hid hb e2, by simp [updρ], e1⟩

theorem bd_of {x : Option AV} {v : AV} (h : ∀ ρ' : Nat → Nat, (∀ k, k < n → ρ k = ρ' k) → x = some (ren ρ' v)) : Bd ρ n v := fun ρ' e => by
  have h1 := h ρ' e
  have h2 := h ρ fun _ _ => rfl
  rw [h1] at h2
  exact Option.some.inj h2

theorem bdC_of {x : Option (List (List AV))} {es : List (List AV)} (h : ∀ ρ' : Nat → Nat, (∀ k, k < n → ρ k = ρ' k) → x = some (renC ρ' es)) : ∀ ρ' : Nat → Nat, (∀ k, k < n → ρ k = ρ' k) → renC ρ' es = renC ρ es := fun ρ' e => by
  have h1 := h ρ' e
  have h2 := h ρ fun _ _ => rfl
  rw [h1] at h2
  exact Option.some.inj h2

theorem renE_same {E : Env} (hE : ∀ j, Bd ρ n (E j)) {ρ' : Nat → Nat} (e : ∀ k, k < n → ρ k = ρ' k) : renE ρ' E = renE ρ E := by
  funext j
  exact hE j ρ' e

theorem evalOp_bd (S : SInv b ρ n low H h) {E : Env} (hE : ∀ j, Bd ρ n (E j)) {op : Op} {v : AV} (e : evalOp P op E (gh H) = some v) : Bd ρ n v :=
  bd_of (x := evalOp P op (renE ρ E) h) fun ρ' he => by rw [← renE_same hE he]; exact evalOp_ren (S.hr' he) e

theorem evalM_bd (S : SInv b ρ n low H h) {E : Env} (hE : ∀ j, Bd ρ n (E j)) {mode : Nat} {op : Op} {v : AV} (e : evalM P mode op E (gh H) = some v) : Bd ρ n v :=
  bd_of (x := evalM P mode op (renE ρ E) h) fun ρ' he => by rw [← renE_same hE he]; exact evalM_ren (S.hr' he) e

theorem ev_bd {E : Env} (hE : ∀ j, Bd ρ n (E j)) (x : Operand) : Bd ρ n (ev E x) := fun ρ' he => by
  rw [← ev_ren, ← ev_ren]
  have := renE_same hE he
  unfold renE at this
  rw [this]

theorem Bd.cells {a : AV} (ha : Bd ρ n a) : ∀ ρ' : Nat → Nat, (∀ k, k < n → ρ k = ρ' k) → (cellsOf a).map (ren ρ') = (cellsOf a).map (ren ρ) := fun ρ' he => by
  rw [← cellsOf_ren, ← cellsOf_ren, ha ρ' he]

theorem BdO.row {es : List (List AV)} (sz : Nat) (hh : ∀ ρ' : Nat → Nat, (∀ k, k < n → ρ k = ρ' k) → renC ρ' es = renC ρ es) : BdO ρ n (.row sz es) := fun ρ' he => by simp only [renO_row]; rw [hh ρ' he]
theorem BdO.rowC {sz : Nat} {es : List (List AV)} (hb : BdO ρ n (.row sz es)) : ∀ ρ' : Nat → Nat, (∀ k, k < n → ρ k = ρ' k) → renC ρ' es = renC ρ es := fun ρ' he => by
  have := hb ρ' he
  simpa using this

theorem eStoreK_ok (S : SInv b ρ n low H h) {sz0 : Nat} {a v : AV} (hv : Bd ρ n v) {K : KV} {k : AV → Heap → Prop} (e : eStoreK sz0 a v H n low K = some r) (hK : KOk b r n ρ K k) :
    bindH (eStore sz0 (ren ρ a) (ren ρ v) h) (fun h' => k undefAV h') := by
  unfold eStoreK at e
  split at e
  · rename_i sz id i off
    split at e
    · rename_i sz' es ho
      cases hc : (Nat.beq sz sz' && Nat.ble (off + sz0) sz && Nat.beq (cellsOf v).length sz0 && Nat.blt 0 sz0 && allOne (cellsOf v)) <;> rw [hc] at e
      · cases e
      · simp only [cond_true] at e
        simp only [Bool.and_eq_true] at hc
        obtain ⟨⟨⟨⟨c1, c2⟩, c3⟩, c4⟩, c5⟩ := hc
        have c1 := Nat.eq_of_beq_eq_true c1
        have c2 := Nat.le_of_ble_eq_true c2
        have c3 := Nat.eq_of_beq_eq_true c3
        have c4 := blt_lt c4
        subst c1
        obtain ⟨hi, e1⟩ := setK_ok e
        obtain ⟨H', e2, hH⟩ := set_ok none e1
        rw [fnat_eq] at e2
        have hrow := (S.bd _ _ ho).2.rowC
        have hbo : BdO ρ n (.row sz (es.set i (putCells (eget es i) off (cellsOf v)))) := BdO.row _ fun ρ' he => by
          simp only [renC, List.map_set, ← putCells_ren, hv.cells ρ' he]
          have := hrow ρ' he
          have e3 := eget_renC ρ' es i
          have e4 := eget_renC ρ es i
          rw [← e3, ← e4, this]
          simp only [renC] at this
          rw [this]
        have hst : eStore sz0 (ren ρ (.ptr sz id i off)) (ren ρ v) h = some (h.upd (ρ id) (renO ρ (.row sz (es.set i (putCells (eget es i) off (cellsOf v)))))) := by
          simp only [ren_ptr, eStore, S.hr _ _ ho, renO_row]
          rw [if_pos ⟨trivial, by simpa [renC] using hi, c2, by rw [cellsOf_ren, List.length_map]; exact c3, by rw [cellsOf_ren, allOne_ren]; exact c5, c4⟩]
          have e3 := eget_renC ρ es i
          rw [e3, cellsOf_ren, putCells_ren]
          simp [renC, List.map_set]
        rw [hst, bindH_some]
        have := hK undefAV H' n _ ρ _ (.refl _ _) (S.write ho hbo hH) (Bd.v _ _ _) e2
        simpa [undefAV] using this
    · cases e
  · cases e

theorem elems_bd (S : SInv b ρ n low H h) {sz : Nat} {x : AV} (hx : Bd ρ n x) {xs : List (List AV)} (e : elemsOf sz x (gh H) = some xs) : ∀ ρ' : Nat → Nat, (∀ k, k < n → ρ k = ρ' k) → renC ρ' xs = renC ρ xs :=
  bdC_of (x := elemsOf sz (ren ρ x) h) fun ρ' he => by rw [← hx ρ' he]; exact elemsOf_ren (S.hr' he) e

theorem appendK_ok (S : SInv b ρ n low H h) {sz bytes : Nat} {s x : AV} (hx : Bd ρ n x) {K : KV} {k : AV → Heap → Prop} (e : appendK sz bytes s x H n low K = some r) (hK : KOk b r n ρ K k) :
    appendW sz bytes (ren ρ s) (ren ρ x) h k := by
  unfold appendK at e
  split at e
  · cases e
  · rename_i xs hxs
    rw [fSp_eq] at e
    have hx' := elemsOf_ren (S.hr) hxs
    have hxb := elems_bd S hx hxs
    refine Lock.mk ?_
    unfold appendW0
    rw [hx']
    split at e
    · simp only [ren_v]
      split at e
      · cases hc : (Nat.blt 0 bytes && Nat.ble bytes 65536) <;> rw [hc] at e
        · cases e
        · simp only [cond_true] at e
          simp only [Bool.and_eq_true] at hc
          refine ⟨⟨by simp [renC, most], blt_lt hc.1, Nat.le_of_ble_eq_true hc.2⟩, fun _ => ?_, fun hne => absurd rfl hne⟩
          have := hK.at S (Bd.v _ _ _) e
          simpa using this
      · rename_i y ys
        cases hc : (Nat.blt 0 bytes && Nat.ble bytes 65536 && Nat.ble (y :: ys).length most) <;> rw [hc] at e
        · cases e
        · simp only [cond_true, fnat_eq] at e
          simp only [Bool.and_eq_true] at hc
          obtain ⟨⟨c1, c2⟩, c3⟩ := hc
          refine ⟨⟨by have := Nat.le_of_ble_eq_true c3; simpa [renC] using this, blt_lt c1, Nat.le_of_ble_eq_true c2⟩, fun h => by simp [renC] at h, fun _ id hid => ?_⟩
          obtain ⟨ρ', H', a1, a2, a3, a4⟩ := newK_ok S (BdO.row sz hxb) e hid
          have := hK _ _ _ _ _ _ a1 a2 (Bd.sl (by omega) _ _ _) a4
          simpa [a3, renC] using this
    · split at e
      · rename_i sz' id len _ s' es ho
        cases hc : (Nat.beq sz' sz && Nat.beq s' sz && Nat.ble len es.length && Nat.ble (len + xs.length) most && allOneR xs && Nat.blt 0 bytes && Nat.ble bytes 65536) <;> rw [hc] at e
        · cases e
        · simp only [cond_true] at e
          simp only [Bool.and_eq_true] at hc
          obtain ⟨⟨⟨⟨⟨⟨c1, c2⟩, c3⟩, c4⟩, c5⟩, c6⟩, c7⟩ := hc
          have c1 := Nat.eq_of_beq_eq_true c1
          have c2 := Nat.eq_of_beq_eq_true c2
          have c3 := Nat.le_of_ble_eq_true c3
          have c4 := Nat.le_of_ble_eq_true c4
          subst c1 c2
          have hap : ∀ (K' : List (List AV) → RR), ((bif Nat.beq len es.length then appK es xs else appK (es.take len) xs) K') = K' (es.take len ++ xs) := fun K' => by
            cases hb : Nat.beq len es.length
            · exact appK_eq _ _ _
            · have := Nat.eq_of_beq_eq_true hb
              subst this
              rw [List.take_length]
              exact appK_eq _ _ _
          rw [hap] at e
          obtain ⟨H1, e1, hH1⟩ := set_ok none e
          rw [fnat_eq, fnat_eq] at e1
          have S1 := S.del ho hH1
          simp only [ren_sl, S.hr _ _ ho, renO_row]
          refine ⟨⟨trivial, trivial, by simpa [renC] using c3, by simpa [renC] using c4, by rw [allOneR_ren]; exact c5, blt_lt c6, Nat.le_of_ble_eq_true c7⟩, fun id' hid => ?_⟩
          have hid' : (h.del (ρ id)) id' = none := by
            rcases hid with rfl | hid
            · simp [Heap.del]
            · by_cases he : id' = ρ id
              · simp [Heap.del, he]
              · rw [Heap.del_ne' he]; exact hid
          have hrow := (S.bd _ _ ho).2.rowC
          have hb2 : BdO ρ n (.row s' (es.take len ++ xs)) := BdO.row _ fun ρ' he => by
            have h1 := hrow ρ' he
            have h2 := hxb ρ' he
            simp only [renC, List.map_append, List.map_take] at h1 h2 ⊢
            rw [h1, h2]
          obtain ⟨ρ', H', a1, a2, a3, a4⟩ := newK_ok S1 hb2 e1 hid'
          have := hK _ _ _ _ _ _ a1 a2 (Bd.sl (id := n) (by omega) _ _ _) a4
          simpa [a3, renC, List.map_take] using this
      · cases e
    · cases e

end
end Go.Abs
