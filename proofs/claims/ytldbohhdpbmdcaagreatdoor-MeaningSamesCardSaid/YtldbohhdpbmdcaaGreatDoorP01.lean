/- By an AI agent. Part of the proof: an abstract machine over the model, an evaluator over it, and contracts. Texts: AbsA, AbsB, AbsC, AbsD, AbsE, AbsF, AbsG, AbsH, AbsHM. -/
import Derived.Orders
import Derived.Laws.World
import Derived.Laws.Sem
import Derived.Laws.Cells
import Derived.Laws.Rows
import GoSem.Dispatch
import Derived.Laws.IdiomStrings

/- Abstract values, abstract memory, and how a world stands for them. -/
namespace Go.Abs

/-- A statement that the kernel's comparison does not open on its own. -/
structure Lock (p : Prop) : Prop where
  out : p

theorem Lock_eq (p : Prop) : Lock p = p := propext ⟨fun h => h.out, fun h => ⟨h⟩⟩

inductive AV where
  | any
  | v (x : Value)
  | agg (cs : List AV)
  | tup (vs : List AV)
  | imm (sz : Nat) (es : List (List AV))
  | iptr (cs : List AV) (off : Nat)
  | sl (sz id i len : Nat)
  | ptr (sz id i off : Nat)
  | clo (f : FuncId) (first captured : List AV)
  | map (id : Nat)
  deriving Inhabited

/-- What is known for good: cells that are never written again; how long rows are. -/
structure Gh where
  I : Nat → Nat → Option Value
  Z : Nat → Option Nat

structure Gh.le (G G' : Gh) : Prop where
  I : ∀ b o x, G.I b o = some x → G'.I b o = some x
  Z : ∀ b n, G.Z b = some n → G'.Z b = some n

theorem Gh.le.refl (G : Gh) : G.le G := ⟨fun _ _ _ h => h, fun _ _ h => h⟩
theorem Gh.le.trans {G G' G'' : Gh} (h : G.le G') (h' : G'.le G'') : G.le G'' :=
  ⟨fun b o x e => h'.I b o x (h.I b o x e), fun b n e => h'.Z b n (h.Z b n e)⟩

abbrev lget (l : List AV) (k : Nat) : AV := l.getD k .any
abbrev eget (l : List (List AV)) (k : Nat) : List AV := l.getD k []

inductive VR (G : Gh) : AV → Value → Prop
  | any (x) : VR G .any x
  | v (x) : VR G (.v x) x
  | agg (cs : List AV) (xs : Array Value) (hl : cs.length = xs.size)
      (h : ∀ k, k < cs.length → VR G (lget cs k) (xs.getD k undef)) : VR G (.agg cs) (.agg xs)
  | tup (cs : List AV) (xs : Array Value) (hl : cs.length = xs.size)
      (h : ∀ k, k < cs.length → VR G (lget cs k) (xs.getD k undef)) : VR G (.tup cs) (.tuple xs)
  | immNil (sz a cap) : VR G (.imm sz []) (.slice a 0 cap)
  | imm (sz : Nat) (es : List (List AV)) (b o cap : Nat) (hcap : es.length ≤ cap) (hsz : ∀ i, i < es.length → (eget es i).length = sz)
      (ys : Nat → Nat → Value) (hI : ∀ i k, i < es.length → k < sz → G.I b (o + i * sz + k) = some (ys i k))
      (h : ∀ i k, i < es.length → k < sz → VR G (lget (eget es i) k) (ys i k)) :
      VR G (.imm sz es) (.slice (some ⟨b, o, none⟩) es.length cap)
  | iptr (cs : List AV) (off b o : Nat) (ys : Nat → Value) (hI : ∀ k, k < cs.length → G.I b (o + k) = some (ys k))
      (h : ∀ k, k < cs.length → VR G (lget cs k) (ys k)) : VR G (.iptr cs off) (.pointer (some ⟨b, o + off, none⟩))
  | sl (sz id i len o cap n : Nat) (hcap : len ≤ cap) (hZ : G.Z id = some n) (hn : (i + cap) * sz ≤ n)
      (ho : cap = 0 ∨ o = i * sz) : VR G (.sl sz id i len) (.slice (some ⟨id, o, none⟩) len cap)
  | ptr (sz id i off) : VR G (.ptr sz id i off) (.pointer (some ⟨id, i * sz + off, none⟩))
  | clo (f : FuncId) (fi ca : List AV) (xs ys : Array Value) (hl : fi.length = xs.size) (hl' : ca.length = ys.size)
      (h : ∀ k, k < fi.length → VR G (lget fi k) (xs.getD k undef)) (h' : ∀ k, k < ca.length → VR G (lget ca k) (ys.getD k undef)) :
      VR G (.clo f fi ca) (.func (.func f) xs ys)
  | map (id) : VR G (.map id) (.map (some id))

theorem VR.mono {G G' : Gh} (hG : G.le G') {a : AV} {x : Value} (h : VR G a x) : VR G' a x := by
  induction h with
  | any x => exact .any x
  | v x => exact .v x
  | agg cs xs hl _ ih => exact .agg cs xs hl ih
  | tup cs xs hl _ ih => exact .tup cs xs hl ih
  | immNil sz a cap => exact .immNil sz a cap
  | imm sz es b o cap hcap hsz ys hI _ ih => exact .imm sz es b o cap hcap hsz ys (fun i k hi hk => hG.I _ _ _ (hI i k hi hk)) ih
  | iptr cs off b o ys hI _ ih => exact .iptr cs off b o ys (fun k hk => hG.I _ _ _ (hI k hk)) ih
  | sl sz id i len o cap n hcap hZ hn ho => exact .sl sz id i len o cap n hcap (hG.Z _ _ hZ) hn ho
  | ptr sz id i off => exact .ptr sz id i off
  | clo f fi ca xs ys hl hl' _ _ ih ih' => exact .clo f fi ca xs ys hl hl' ih ih'
  | map id => exact .map id

/-- Lists of values. -/
def VRs (G : Gh) (as : List AV) (xs : Array Value) : Prop :=
  as.length = xs.size ∧ ∀ k, k < as.length → VR G (lget as k) (xs.getD k undef)

theorem VRs.mono {G G' : Gh} (hG : G.le G') {a : List AV} {x : Array Value} (h : VRs G a x) : VRs G' a x :=
  ⟨h.1, fun k hk => (h.2 k hk).mono hG⟩

inductive AObj where
  | row (sz : Nat) (es : List (List AV))
  | map (es : List (Value × AV))
  | iter (s : ByteArray) (pos : Nat)
  deriving Inhabited

abbrev Heap := Nat → Option AObj

def Heap.upd (h : Heap) (id : Nat) (o : AObj) : Heap := fun j => if j = id then some o else h j
def Heap.del (h : Heap) (id : Nat) : Heap := fun j => if j = id then none else h j
def Heap.le (h h' : Heap) : Prop := ∀ id o, h id = some o → h' id = some o
def Heap.empty : Heap := fun _ => none

theorem Heap.le.refl (h : Heap) : h.le h := fun _ _ e => e
theorem Heap.le.trans {h h' h'' : Heap} (a : h.le h') (b : h'.le h'') : h.le h'' := fun _ _ e => b _ _ (a _ _ e)
@[simp] theorem Heap.upd_same (h : Heap) (id : Nat) (o : AObj) : (h.upd id o) id = some o := by simp [Heap.upd]
theorem Heap.upd_ne (h : Heap) {id j : Nat} (o : AObj) (hj : j ≠ id) : (h.upd id o) j = h j := by simp [Heap.upd, hj]
theorem Heap.le_upd {h : Heap} {id : Nat} (o : AObj) (hn : h id = none) : h.le (h.upd id o) := by
  intro j x e
  by_cases hj : j = id
  · subst hj; rw [hn] at e; cases e
  · rw [Heap.upd_ne _ _ hj]; exact e
@[simp] theorem Heap.upd_upd (h : Heap) (id : Nat) (o o' : AObj) : (h.upd id o).upd id o' = h.upd id o' := by
  funext j; by_cases hj : j = id <;> simp [Heap.upd, hj]
@[simp] theorem Heap.del_upd (h : Heap) (id : Nat) (o : AObj) (hn : h id = none) : (h.upd id o).del id = h := by
  funext j; by_cases hj : j = id
  · subst hj; simp [Heap.del, hn]
  · simp [Heap.del, Heap.upd, hj]
theorem Heap.upd_comm (h : Heap) {i j : Nat} (a b : AObj) (hij : i ≠ j) : (h.upd i a).upd j b = (h.upd j b).upd i a := by
  funext k
  by_cases h1 : k = i
  · subst h1; simp [Heap.upd, hij]
  · simp [Heap.upd, h1]

/-- What stands at an object's block. -/
def OR (G : Gh) (o : AObj) (id : Nat) (w : World) : Prop :=
  match o with
  | .row sz es => ∃ arr T, w.heap[id]? = some (.cells arr T (0, 0)) ∧ es.length * sz ≤ arr.size ∧ G.Z id = some arr.size ∧
      (∀ i, i < es.length → (eget es i).length = sz) ∧
      ∀ i k, i < es.length → k < sz → VR G (lget (eget es i) k) (arr.getD (i * sz + k) undef)
  | .map es => ∃ ents clock, w.heap[id]? = some (.map ents clock) ∧ es.length = ents.size ∧
      ∀ i, i < es.length → (ents.getD i default).key = (es.getD i default).1 ∧ VR G (es.getD i default).2 (ents.getD i default).val
  | .iter s pos => w.heap[id]? = some (.stringIter s pos)

structure WR (w0 : World) (G : Gh) (h : Heap) (w : World) : Prop where
  imm : ∀ b o x, G.I b o = some x → w.cell? ⟨b, o, none⟩ = some x
  siz : ∀ b n, G.Z b = some n → ∃ arr T fz, w.heap[b]? = some (.cells arr T fz) ∧ arr.size = n
  obj : ∀ id o, h id = some o → OR G o id w
  sep : ∀ id o k, h id = some o → G.I id k = none
  lo : ∀ id o, h id = some o → w0.heap.size ≤ id
  old : ∀ b, b < w0.heap.size → w.heap[b]? = w0.heap[b]?
  size : w0.heap.size ≤ w.heap.size
  os : w.os = w0.os
  output : w.output = w0.output

theorem OR.lt {G : Gh} {o : AObj} {id : Nat} {w : World} (h : OR G o id w) : id < w.heap.size := by
  cases o with
  | row sz es =>
    obtain ⟨arr, T, he, _⟩ := h
    exact (Array.getElem?_eq_some_iff.1 he).1
  | map es =>
    obtain ⟨ents, clock, he, _⟩ := h
    exact (Array.getElem?_eq_some_iff.1 he).1
  | iter s pos => exact (Array.getElem?_eq_some_iff.1 h).1

theorem WR.lt {w0 : World} {G : Gh} {h : Heap} {w : World} (H : WR w0 G h w) {id : Nat} {o : AObj} (e : h id = some o) : id < w.heap.size :=
  (H.obj id o e).lt

/-- A number that is no object's. -/
theorem WR.fresh {w0 : World} {G : Gh} {h : Heap} {w : World} (H : WR w0 G h w) : h w.heap.size = none := by
  cases e : h w.heap.size with
  | none => rfl
  | some o => exact absurd (H.lt e) (by omega)

theorem WR.Ilt {w0 : World} {G : Gh} {h : Heap} {w : World} (H : WR w0 G h w) {b o : Nat} {x : Value} (e : G.I b o = some x) : b < w.heap.size := by
  have := H.imm b o x e
  unfold World.cell? at this
  cases hb : w.heap[b]? with
  | none => simp [hb] at this
  | some _ => exact (Array.getElem?_eq_some_iff.1 hb).1

theorem WR.Zlt {w0 : World} {G : Gh} {h : Heap} {w : World} (H : WR w0 G h w) {b n : Nat} (e : G.Z b = some n) : b < w.heap.size := by
  obtain ⟨arr, T, fz, he, _⟩ := H.siz b n e
  exact (Array.getElem?_eq_some_iff.1 he).1

/-- Objects may be forgotten. -/
theorem WR.drop {w0 : World} {G : Gh} {h h' : Heap} {w : World} (H : WR w0 G h w) (hh : h'.le h) : WR w0 G h' w :=
  { imm := H.imm, siz := H.siz, obj := fun id o e => H.obj id o (hh _ _ e), sep := fun id o k e => H.sep id o k (hh _ _ e),
    lo := fun id o e => H.lo id o (hh _ _ e), old := H.old, size := H.size, os := H.os, output := H.output }

theorem OR.mono {G G' : Gh} (hG : G.le G') {o : AObj} {id : Nat} {w w' : World} (hw : w'.heap[id]? = w.heap[id]?) (h : OR G o id w) : OR G' o id w' := by
  cases o with
  | row sz es =>
    obtain ⟨arr, T, he, h1, h2, h3, h4⟩ := h
    exact ⟨arr, T, hw.trans he, h1, hG.Z _ _ h2, h3, fun i k hi hk => (h4 i k hi hk).mono hG⟩
  | map es =>
    obtain ⟨ents, clock, he, h1, h2⟩ := h
    exact ⟨ents, clock, hw.trans he, h1, fun i hi => ⟨(h2 i hi).1, (h2 i hi).2.mono hG⟩⟩
  | iter s pos => exact hw.trans h

end Go.Abs

namespace Go.Abs

def Gh.addZ (G : Gh) (b n : Nat) : Gh := { I := G.I, Z := fun j => if j = b then some n else G.Z j }
def Gh.addI (G : Gh) (b : Nat) (f : Nat → Option Value) : Gh := { I := fun j o => if j = b then f o else G.I j o, Z := G.Z }

theorem WR.le_addZ {w0 : World} {G : Gh} {h : Heap} {w : World} (H : WR w0 G h w) (n : Nat) : G.le (G.addZ w.heap.size n) := by
  refine ⟨fun _ _ _ e => e, fun b m e => ?_⟩
  have := H.Zlt e
  simp [Gh.addZ, show b ≠ w.heap.size by omega, e]

theorem WR.le_addI {w0 : World} {G : Gh} {h : Heap} {w : World} (H : WR w0 G h w) (f : Nat → Option Value) : G.le (G.addI w.heap.size f) := by
  refine ⟨fun b o x e => ?_, fun _ _ e => e⟩
  have := H.Ilt e
  simp [Gh.addI, show b ≠ w.heap.size by omega, e]

theorem heap_alloc_old {w : World} {o : Obj} {i : Nat} (h : i < w.heap.size) : (w.alloc o).heap[i]? = w.heap[i]? := by
  show (w.heap.push o)[i]? = _
  rw [Array.getElem?_push, if_neg (by omega)]

theorem heap_alloc_new {w : World} {o : Obj} : (w.alloc o).heap[w.heap.size]? = some o := by
  show (w.heap.push o)[w.heap.size]? = _
  rw [Array.getElem?_push, if_pos rfl]

theorem cell_alloc_old {w : World} {o : Obj} {b k : Nat} (h : b < w.heap.size) : (w.alloc o).cell? ⟨b, k, none⟩ = w.cell? ⟨b, k, none⟩ := by
  unfold World.cell?
  simp only
  rw [heap_alloc_old h]

theorem WR.alloc_junk {w0 : World} {G : Gh} {h : Heap} {w : World} (H : WR w0 G h w) (o : Obj) : WR w0 G h (w.alloc o) where
  imm := fun b k x e => by rw [cell_alloc_old (H.Ilt e)]; exact H.imm b k x e
  siz := fun b n e => by rw [heap_alloc_old (H.Zlt e)]; exact H.siz b n e
  obj := fun id x e => (H.obj id x e).mono (.refl _) (heap_alloc_old (H.lt e))
  sep := H.sep
  lo := H.lo
  old := fun b hb => by rw [heap_alloc_old (by have := H.size; omega)]; exact H.old b hb
  size := by have := H.size; simp; omega
  os := H.os
  output := H.output

theorem WR.alloc_Z {w0 : World} {G : Gh} {h : Heap} {w : World} (H : WR w0 G h w) (arr : Array Value) (T : TypeId) :
    WR w0 (G.addZ w.heap.size arr.size) h (w.alloc (.cells arr T)) :=
  let J := H.alloc_junk (.cells arr T)
  { imm := J.imm
    siz := fun b n e => by
      by_cases hb : b = w.heap.size
      · subst hb
        simp [Gh.addZ] at e
        exact ⟨arr, T, _, heap_alloc_new, e⟩
      · simp [Gh.addZ, hb] at e
        exact J.siz b n e
    obj := fun id x e => (J.obj id x e).mono (H.le_addZ _) rfl
    sep := J.sep, lo := J.lo, old := J.old, size := J.size, os := J.os, output := J.output }

/-- A new row of cells that will never be written. -/
theorem WR.alloc_imm {w0 : World} {G : Gh} {h : Heap} {w : World} (H : WR w0 G h w) (arr : Array Value) (T : TypeId) :
    WR w0 (G.addI w.heap.size (fun o => arr[o]?)) h (w.alloc (.cells arr T)) :=
  let J := H.alloc_junk (.cells arr T)
  { imm := fun b o x e => by
      by_cases hb : b = w.heap.size
      · subst hb
        simp [Gh.addI] at e
        rw [World.cell?_alloc_new]; exact e
      · simp [Gh.addI, hb] at e
        exact J.imm b o x e
    siz := J.siz
    obj := fun id x e => (J.obj id x e).mono (H.le_addI _) rfl
    sep := fun id x k e => by
      have := H.lt e
      simp [Gh.addI, show id ≠ w.heap.size by omega]
      exact J.sep id x k e
    lo := J.lo, old := J.old, size := J.size, os := J.os, output := J.output }

theorem cell_alloc_newF {w : World} {arr : Array Value} {T : TypeId} {fz : Nat × Nat} {k : Nat} : (w.alloc (.cells arr T fz)).cell? ⟨w.heap.size, k, none⟩ = arr[k]? := by
  unfold World.cell?
  simp only
  rw [heap_alloc_new]
  simp

/-- The same, with a mark on it. -/
theorem WR.alloc_immF {w0 : World} {G : Gh} {h : Heap} {w : World} (H : WR w0 G h w) (arr : Array Value) (T : TypeId) (fz : Nat × Nat) :
    WR w0 (G.addI w.heap.size (fun o => arr[o]?)) h (w.alloc (.cells arr T fz)) :=
  let J := H.alloc_junk (.cells arr T fz)
  { imm := fun b o x e => by
      by_cases hb : b = w.heap.size
      · subst hb
        simp [Gh.addI] at e
        rw [cell_alloc_newF]; exact e
      · simp [Gh.addI, hb] at e
        exact J.imm b o x e
    siz := J.siz
    obj := fun id x e => (J.obj id x e).mono (H.le_addI _) rfl
    sep := fun id x k e => by
      have := H.lt e
      simp [Gh.addI, show id ≠ w.heap.size by omega]
      exact J.sep id x k e
    lo := J.lo, old := J.old, size := J.size, os := J.os, output := J.output }

/-- A new object. -/
theorem WR.alloc_row {w0 : World} {G : Gh} {h : Heap} {w : World} (H : WR w0 G h w) (arr : Array Value) (T : TypeId) (sz : Nat) (es : List (List AV))
    (hn : es.length * sz ≤ arr.size) (hs : ∀ i, i < es.length → (eget es i).length = sz)
    (hv : ∀ i k, i < es.length → k < sz → VR G (lget (eget es i) k) (arr.getD (i * sz + k) undef)) :
    WR w0 (G.addZ w.heap.size arr.size) (h.upd w.heap.size (.row sz es)) (w.alloc (.cells arr T)) :=
  let J := H.alloc_Z arr T
  { imm := J.imm, siz := J.siz
    obj := fun id x e => by
      by_cases hb : id = w.heap.size
      · subst hb
        simp at e
        subst e
        exact ⟨arr, T, heap_alloc_new, hn, by simp [Gh.addZ], hs, fun i k hi hk => (hv i k hi hk).mono (H.le_addZ _)⟩
      · rw [Heap.upd_ne _ _ hb] at e
        exact J.obj id x e
    sep := fun id x k e => by
      by_cases hb : id = w.heap.size
      · subst hb
        cases hI : (G.addZ w.heap.size arr.size).I w.heap.size k with
        | none => rfl
        | some y => exact absurd (H.Ilt hI) (by omega)
      · rw [Heap.upd_ne _ _ hb] at e
        exact J.sep id x k e
    lo := fun id x e => by
      by_cases hb : id = w.heap.size
      · subst hb; exact H.size
      · rw [Heap.upd_ne _ _ hb] at e
        exact J.lo id x e
    old := J.old, size := J.size, os := J.os, output := J.output }

theorem WR.drew {w0 : World} {G : Gh} {h : Heap} {w : World} (H : WR w0 G h w) (n : Nat) : WR w0 G h { w with drawn := n } where
  imm := H.imm
  siz := H.siz
  obj := fun id x e => (H.obj id x e).mono (.refl _) rfl
  sep := H.sep
  lo := H.lo
  old := H.old
  size := H.size
  os := H.os
  output := H.output

/-- An object's cells are written anew, all at once. -/
theorem WR.write {w0 : World} {G : Gh} {h : Heap} {w : World} (H : WR w0 G h w) {id sz : Nat} {es : List (List AV)} {arr arr' : Array Value} {T : TypeId}
    {o : AObj} (ho : h id = some o) (hb : w.heap[id]? = some (.cells arr T (0, 0)))
    (hs : arr'.size = arr.size) (hn : es.length * sz ≤ arr.size) (hl : ∀ i, i < es.length → (eget es i).length = sz)
    (hv : ∀ i k, i < es.length → k < sz → VR G (lget (eget es i) k) (arr'.getD (i * sz + k) undef))
    {w' : World} (hw : w'.heap[id]? = some (.cells arr' T (0, 0))) (hother : ∀ j, j ≠ id → w'.heap[j]? = w.heap[j]?)
    (hsize : w'.heap.size = w.heap.size) (hos : w'.os = w.os) (hout : w'.output = w.output) :
    WR w0 G (h.upd id (.row sz es)) w' where
  imm := fun b k x e => by
    have hne : b ≠ id := fun hh => by subst hh; rw [H.sep b o k ho] at e; cases e
    have := H.imm b k x e
    unfold World.cell? at *
    simp only at *
    rw [hother b hne]; exact this
  siz := fun b n e => by
    by_cases hbi : b = id
    · subst hbi
      obtain ⟨a, T', fz, he, hz⟩ := H.siz b n e
      rw [hb] at he; cases he
      exact ⟨arr', T, _, hw, hs.trans hz⟩
    · rw [hother b hbi]; exact H.siz b n e
  obj := fun j x e => by
    by_cases hj : j = id
    · subst hj
      simp at e; subst e
      refine ⟨arr', T, hw, by omega, ?_, hl, hv⟩
      cases o with
      | row sz0 es0 =>
        obtain ⟨a0, T0, he0, _, hz0, _⟩ := H.obj j _ ho
        rw [hb] at he0; cases he0
        rw [hs]; exact hz0
      | map _ =>
        obtain ⟨_, _, he0, _⟩ := H.obj j _ ho
        rw [hb] at he0; cases he0
      | iter s pos =>
        have he0 : w.heap[j]? = some (.stringIter s pos) := H.obj j _ ho
        rw [hb] at he0; cases he0
    · rw [Heap.upd_ne _ _ hj] at e
      exact (H.obj j x e).mono (.refl _) (hother j hj)
  sep := fun j x k e => by
    by_cases hj : j = id
    · subst hj; exact H.sep j o k ho
    · rw [Heap.upd_ne _ _ hj] at e; exact H.sep j x k e
  lo := fun j x e => by
    by_cases hj : j = id
    · subst hj; exact H.lo j o ho
    · rw [Heap.upd_ne _ _ hj] at e; exact H.lo j x e
  old := fun b hlt => by rw [hother b (by have := H.lo id o ho; omega)]; exact H.old b hlt
  size := by rw [hsize]; exact H.size
  os := hos.trans H.os
  output := hout.trans H.output

/-- An object that will never be written again. -/
theorem WR.freeze {w0 : World} {G : Gh} {h : Heap} {w : World} (H : WR w0 G h w) {id sz : Nat} {es : List (List AV)} (ho : h id = some (.row sz es))
    {arr : Array Value} {T : TypeId} (hb : w.heap[id]? = some (.cells arr T (0, 0))) :
    G.le (G.addI id (fun o => arr[o]?)) ∧ WR w0 (G.addI id (fun o => arr[o]?)) (h.del id) w := by
  have hle : G.le (G.addI id (fun o => arr[o]?)) := by
    refine ⟨fun b o x e => ?_, fun _ _ e => e⟩
    have hne : b ≠ id := fun hh => by subst hh; rw [H.sep b _ o ho] at e; cases e
    simp [Gh.addI, hne, e]
  refine ⟨hle, ?_⟩
  exact
  { imm := fun b o x e => by
      by_cases hbi : b = id
      · subst hbi
        simp [Gh.addI] at e
        simp [World.cell?, hb]; exact e
      · simp [Gh.addI, hbi] at e
        exact H.imm b o x e
    siz := H.siz
    obj := fun j x e => by
      by_cases hj : j = id
      · simp [Heap.del, hj] at e
      · simp [Heap.del, hj] at e
        exact (H.obj j x e).mono hle rfl
    sep := fun j x k e => by
      by_cases hj : j = id
      · simp [Heap.del, hj] at e
      · simp [Heap.del, hj] at e
        simp [Gh.addI, hj]
        exact H.sep j x k e
    lo := fun j x e => by
      by_cases hj : j = id
      · simp [Heap.del, hj] at e
      · simp [Heap.del, hj] at e
        exact H.lo j x e
    old := H.old, size := H.size, os := H.os, output := H.output }

/-- A new map. -/
theorem WR.alloc_map {w0 : World} {G : Gh} {h : Heap} {w : World} (H : WR w0 G h w) : WR w0 G (h.upd w.heap.size (.map [])) (w.alloc (.map #[] 0)) :=
  let J := H.alloc_junk (.map #[] 0)
  { imm := J.imm, siz := J.siz
    obj := fun id x e => by
      by_cases hb : id = w.heap.size
      · subst hb
        simp at e
        subst e
        exact ⟨#[], 0, heap_alloc_new, rfl, fun i hi => absurd hi (by simp)⟩
      · rw [Heap.upd_ne _ _ hb] at e
        exact J.obj id x e
    sep := fun id x k e => by
      by_cases hb : id = w.heap.size
      · subst hb
        cases hI : G.I w.heap.size k with
        | none => rfl
        | some y => exact absurd (H.Ilt hI) (by omega)
      · rw [Heap.upd_ne _ _ hb] at e
        exact J.sep id x k e
    lo := fun id x e => by
      by_cases hb : id = w.heap.size
      · subst hb; exact H.size
      · rw [Heap.upd_ne _ _ hb] at e
        exact J.lo id x e
    old := J.old, size := J.size, os := J.os, output := J.output }

/-- A new walk over a string. -/
theorem WR.alloc_iter {w0 : World} {G : Gh} {h : Heap} {w : World} (H : WR w0 G h w) (s : ByteArray) : WR w0 G (h.upd w.heap.size (.iter s 0)) (w.alloc (.stringIter s 0)) :=
  let J := H.alloc_junk (.stringIter s 0)
  { imm := J.imm, siz := J.siz
    obj := fun id x e => by
      by_cases hb : id = w.heap.size
      · subst hb
        simp at e
        subst e
        exact heap_alloc_new
      · rw [Heap.upd_ne _ _ hb] at e
        exact J.obj id x e
    sep := fun id x k e => by
      by_cases hb : id = w.heap.size
      · subst hb
        cases hI : G.I w.heap.size k with
        | none => rfl
        | some y => exact absurd (H.Ilt hI) (by omega)
      · rw [Heap.upd_ne _ _ hb] at e
        exact J.sep id x k e
    lo := fun id x e => by
      by_cases hb : id = w.heap.size
      · subst hb; exact H.size
      · rw [Heap.upd_ne _ _ hb] at e
        exact J.lo id x e
    old := J.old, size := J.size, os := J.os, output := J.output }

/-- A walk goes on. -/
theorem WR.setIter {w0 : World} {G : Gh} {h : Heap} {w : World} (H : WR w0 G h w) {id : Nat} {o : AObj} {s s' : ByteArray} {pos pos' : Nat}
    (ho : h id = some o) (hb : w.heap[id]? = some (.stringIter s pos)) :
    WR w0 G (h.upd id (.iter s' pos')) { w with heap := w.heap.setIfInBounds id (.stringIter s' pos') } := by
  have hlt : id < w.heap.size := (Array.getElem?_eq_some_iff.1 hb).1
  have hnew : (w.heap.setIfInBounds id (.stringIter s' pos'))[id]? = some (.stringIter s' pos') := by simp [hlt]
  have hother : ∀ j, j ≠ id → (w.heap.setIfInBounds id (.stringIter s' pos'))[j]? = w.heap[j]? := fun j hj => Array.getElem?_setIfInBounds_ne (Ne.symm hj)
  exact
  { imm := fun b k x e => by
      have hne : b ≠ id := fun hh => by subst hh; rw [H.sep b o k ho] at e; cases e
      have := H.imm b k x e
      unfold World.cell? at *
      simp only at *
      rw [hother b hne]; exact this
    siz := fun b n e => by
      obtain ⟨arr, T, fz, he, hz⟩ := H.siz b n e
      have hne : b ≠ id := fun hh => by subst hh; rw [hb] at he; cases he
      exact ⟨arr, T, fz, by simp only; rw [hother b hne]; exact he, hz⟩
    obj := fun j x e => by
      by_cases hj : j = id
      · subst hj
        simp at e; subst e
        exact hnew
      · rw [Heap.upd_ne _ _ hj] at e
        exact (H.obj j x e).mono (.refl _) (hother j hj)
    sep := fun j x k e => by
      by_cases hj : j = id
      · subst hj; exact H.sep j o k ho
      · rw [Heap.upd_ne _ _ hj] at e; exact H.sep j x k e
    lo := fun j x e => by
      by_cases hj : j = id
      · subst hj; exact H.lo j o ho
      · rw [Heap.upd_ne _ _ hj] at e; exact H.lo j x e
    old := fun b hlt => by simp only; rw [hother b (by have := H.lo id o ho; omega)]; exact H.old b hlt
    size := by simp; exact H.size
    os := H.os
    output := H.output }

/-- A map's entries are written anew. -/
theorem WR.setMap {w0 : World} {G : Gh} {h : Heap} {w : World} (H : WR w0 G h w) {id : Nat} {o : AObj} {es : List (Value × AV)} {ents ents' : Array MapEntry} {clock clock' : Nat}
    (ho : h id = some o) (hb : w.heap[id]? = some (.map ents clock)) (hl : es.length = ents'.size)
    (hv : ∀ i, i < es.length → (ents'.getD i default).key = (es.getD i default).1 ∧ VR G (es.getD i default).2 (ents'.getD i default).val) :
    WR w0 G (h.upd id (.map es)) { w with heap := w.heap.setIfInBounds id (.map ents' clock') } := by
  have hlt : id < w.heap.size := (Array.getElem?_eq_some_iff.1 hb).1
  have hnew : (w.heap.setIfInBounds id (.map ents' clock'))[id]? = some (.map ents' clock') := by simp [hlt]
  have hother : ∀ j, j ≠ id → (w.heap.setIfInBounds id (.map ents' clock'))[j]? = w.heap[j]? := fun j hj => Array.getElem?_setIfInBounds_ne (Ne.symm hj)
  exact
  { imm := fun b k x e => by
      have hne : b ≠ id := fun hh => by subst hh; rw [H.sep b o k ho] at e; cases e
      have := H.imm b k x e
      unfold World.cell? at *
      simp only at *
      rw [hother b hne]; exact this
    siz := fun b n e => by
      obtain ⟨arr, T, fz, he, hz⟩ := H.siz b n e
      have hne : b ≠ id := fun hh => by subst hh; rw [hb] at he; cases he
      exact ⟨arr, T, fz, by simp only; rw [hother b hne]; exact he, hz⟩
    obj := fun j x e => by
      by_cases hj : j = id
      · subst hj
        simp at e; subst e
        exact ⟨ents', clock', hnew, hl, hv⟩
      · rw [Heap.upd_ne _ _ hj] at e
        exact (H.obj j x e).mono (.refl _) (hother j hj)
    sep := fun j x k e => by
      by_cases hj : j = id
      · subst hj; exact H.sep j o k ho
      · rw [Heap.upd_ne _ _ hj] at e; exact H.sep j x k e
    lo := fun j x e => by
      by_cases hj : j = id
      · subst hj; exact H.lo j o ho
      · rw [Heap.upd_ne _ _ hj] at e; exact H.lo j x e
    old := fun b hlt => by simp only; rw [hother b (by have := H.lo id o ho; omega)]; exact H.old b hlt
    size := by simp; exact H.size
    os := H.os
    output := H.output }

/-- The frozen row, as a list that never changes. -/
theorem OR.imm {G : Gh} {w : World} {id sz : Nat} {es : List (List AV)} (H : OR G (.row sz es) id w) {arr : Array Value} {T : TypeId}
    (hb : w.heap[id]? = some (.cells arr T (0, 0))) {G' : Gh} (hle : G.le G') (hI : ∀ o, G'.I id o = arr[o]?) (n i cap : Nat) (hn : i + n ≤ es.length) (hc : n ≤ cap) :
    VR G' (.imm sz ((es.drop i).take n)) (.slice (some ⟨id, i * sz, none⟩) n cap) := by
  obtain ⟨a, T', he, h1, h2, h3, h4⟩ := H
  rw [hb] at he; cases he
  have hlen : ((es.drop i).take n).length = n := by simp; omega
  have hget : ∀ j, j < n → eget ((es.drop i).take n) j = eget es (i + j) := by
    intro j hj
    simp [eget, List.getD_eq_getElem?_getD, hj, List.getElem?_drop]
  have := VR.imm (G := G') sz ((es.drop i).take n) id (i * sz) cap (by omega) (fun j hj => by
      rw [hlen] at hj; rw [hget j hj]; exact h3 _ (by omega)) (fun j k => arr.getD ((i + j) * sz + k) undef) (fun j k hj hk => by
      rw [hlen] at hj
      have e : i * sz + j * sz + k = (i + j) * sz + k := by rw [Nat.add_mul]
      rw [e, hI]
      have hlt : (i + j) * sz + k < arr.size := by
        have : (i + j + 1) * sz ≤ es.length * sz := Nat.mul_le_mul_right _ (by omega)
        rw [Nat.add_mul] at this; omega
      simp [Array.getD, hlt]) (fun j k hj hk => by
      rw [hlen] at hj; rw [hget j hj]; exact (h4 _ _ (by omega) hk).mono hle)
  rw [hlen] at this
  exact this

end Go.Abs

namespace Go.Abs

abbrev Env := Nat → AV

def ofV : Value → AV
  | .agg xs => .agg (xs.toList.map .v)
  | x => .v x

theorem VR.ofV (G : Gh) (x : Value) : VR G (ofV x) x := by
  cases x <;> try exact .v _
  rename_i xs
  refine .agg _ xs (by simp) fun k hk => ?_
  simp at hk
  simp [lget, List.getD_eq_getElem?_getD, hk, Array.getD]
  exact .v _

def ev (env : Env) : Operand → AV
  | .tmp t => env t
  | .const v => ofV v
  | .global g => .v (.pointer (some ⟨g, 0, none⟩))
  | .func f => .clo f [] []

def cellsOf : AV → List AV
  | .agg cs => cs
  | .v (.agg xs) => xs.toList.map .v
  | .any => []
  | a => [a]

def oneCell : AV → Bool
  | .v x => x.oneCell'
  | .any | .agg _ | .tup _ => false
  | _ => true

def tSize (P : Program) (t : TypeId) : Nat := match P.info? t with | some i => i.size | none => 0
def tAgg (P : Program) (t : TypeId) : Option Bool :=
  match P.underlying t with
  | some (.struct _) | some (.array _ _) => some true
  | some _ => some false
  | none => none
def tInt (P : Program) (t : TypeId) : Option IntKind := match P.underlying t with | some (.int k) => some k | _ => none
def tSlice (P : Program) (t : TypeId) : Option TypeId := match P.underlying t with | some (.slice e) => some e | _ => none
def tFieldOff (P : Program) (t : TypeId) (f : Nat) : Option Nat :=
  match P.underlying t with
  | some (.struct fs) => match fs[f]? with
    | some fd => match P.info? fd.type with
      | some i => if i.size = 0 then none else some fd.offset
      | none => none
    | none => none
  | _ => none

/-- Where an address points: the cells of the element, and the place in it. -/
def cellsAt (a : AV) (h : Heap) : Option (List AV × Nat) :=
  match a with
  | .iptr cs off => some (cs, off)
  | .ptr sz id i off => match h id with
    | some (.row sz' es) => if sz = sz' ∧ i < es.length then some (eget es i, off) else none
    | _ => none
  | _ => none

def ePart (agg : Bool) (n : Nat) (cs : List AV) (off : Nat) : Option AV :=
  if off + n ≤ cs.length then
    (match agg with
      | true => some (.agg ((cs.drop off).take n))
      | false => if n = 1 then some (lget cs off) else none)
  else none

def eLoad (agg : Bool) (n : Nat) (a : AV) (h : Heap) : Option AV :=
  match cellsAt a h with
  | some (cs, off) => ePart agg n cs off
  | none => none

def intBin (op : BinOp) (k : IntKind) (a b : Int) : Option AV :=
  match op with
  | .add => some (.v (.int k (k.wrap (a + b))))
  | .sub => some (.v (.int k (k.wrap (a - b))))
  | .mul => some (.v (.int k (k.wrap (a * b))))
  | .quo => if b = 0 then none else some (.v (.int k (k.wrap (a.tdiv b))))
  | .rem => if b = 0 then none else some (.v (.int k (a.tmod b)))
  | .eql => some (.v (.bool (a == b)))
  | .neq => some (.v (.bool (a != b)))
  | .lss => some (.v (.bool (decide (a < b))))
  | .leq => some (.v (.bool (decide (a ≤ b))))
  | .gtr => some (.v (.bool (decide (a > b))))
  | .geq => some (.v (.bool (decide (a ≥ b))))
  | .and => some (.v (.int k (k.wrap (BitVec.ofInt k.bits a &&& BitVec.ofInt k.bits b).toNat)))
  | .or => some (.v (.int k (k.wrap (BitVec.ofInt k.bits a ||| BitVec.ofInt k.bits b).toNat)))
  | .xor => some (.v (.int k (k.wrap (BitVec.ofInt k.bits a ^^^ BitVec.ofInt k.bits b).toNat)))
  | _ => none

def strBin (op : BinOp) (x y : ByteArray) : Option AV :=
  match op with
  | .add => if ((x.size + y.size : Nat) : Int) > IntKind.i64.max then none else some (.v (.string (x ++ y)))
  | .eql => some (.v (.bool (x.toList == y.toList)))
  | .neq => some (.v (.bool (!(x.toList == y.toList))))
  | .lss => some (.v (.bool (Op.bytesLess x.toList y.toList)))
  | .leq => some (.v (.bool (Op.bytesLess x.toList y.toList || x.toList == y.toList)))
  | .gtr => some (.v (.bool (!(Op.bytesLess x.toList y.toList || x.toList == y.toList))))
  | .geq => some (.v (.bool (!(Op.bytesLess x.toList y.toList))))
  | _ => none

/-- A binary operation; `bt`: the operands' type is bool. -/
def eBin (op : BinOp) (bt : Bool) (x y : AV) : Option AV :=
  match x, y with
  | .v (.int k a), .v (.int k' b) =>
    match op with
    | .shl => if b < 0 then none else some (.v (.int k (k.wrap (a * 2 ^ (min b.toNat k.bits)))))
    | .shr => if b < 0 then none else some (.v (.int k (a.fdiv (2 ^ (min b.toNat k.bits)))))
    | _ => if k = k' then intBin op k a b else none
  | .v (.string a), .v (.string b) => strBin op a b
  | .v (.bool a), .v (.bool b) =>
    match bt, op with
    | true, .eql => some (.v (.bool (a == b)))
    | true, .neq => some (.v (.bool (!(a == b))))
    | _, _ => none
  | _, _ => none

def eUn (op : UnOp) (x : AV) : Option AV :=
  match op, x with
  | .neg, .v (.int k n) => some (.v (.int k (k.wrap (0 - n))))
  | .not, .v (.bool b) => some (.v (.bool !b))
  | _, _ => none

def ePick (c a b : AV) : Option AV :=
  match c with
  | .v (.bool t) => some (if t then a else b)
  | _ => none

def eNil (x : AV) : Option AV :=
  match x with
  | .iptr _ _ | .ptr _ _ _ _ | .clo _ _ _ => some x
  | _ => none

def eFA (off : Nat) (x : AV) : Option AV :=
  match x with
  | .iptr cs o => some (.iptr cs (o + off))
  | .ptr sz id i o => some (.ptr sz id i (o + off))
  | _ => none

/-- The address of a slice's element. -/
def eIxS (esz : Nat) (x i : AV) : Option AV :=
  match x, i with
  | .imm sz es, .v (.int _ n) => if 0 ≤ n ∧ n.toNat < es.length ∧ sz = esz then some (.iptr (eget es n.toNat) 0) else none
  | .sl sz id j len, .v (.int _ n) => if 0 ≤ n ∧ n.toNat < len ∧ sz = esz then some (.ptr sz id (j + n.toNat) 0) else none
  | _, _ => none

/-- The address of an array's element. -/
def eIxA (len esz : Nat) (x i : AV) : Option AV :=
  match i with
  | .v (.int _ n) => if 0 ≤ n ∧ n.toNat < len then eFA (n.toNat * esz) x else none
  | _ => none

/-- An element of an array value. -/
def eIdxA (agg : Bool) (len esz : Nat) (x i : AV) : Option AV :=
  match x, i with
  | .agg cs, .v (.int _ n) => if 0 ≤ n ∧ n.toNat < len then ePart agg esz cs (n.toNat * esz) else none
  | _, _ => none

def eIdxStr (x i : AV) : Option AV :=
  match x, i with
  | .v (.string s), .v (.int _ n) => if h : 0 ≤ n ∧ n.toNat < s.size then some (.v (.int .u8 (s[n.toNat]'h.2).toNat)) else none
  | _, _ => none

def eField (agg : Bool) (off n : Nat) (x : AV) : Option AV :=
  match x with
  | .agg cs => ePart agg n cs off
  | _ => none

def eExtract (k : Nat) (x : AV) : Option AV :=
  match x with
  | .tup vs => vs[k]?
  | _ => none

def eLen (x : AV) : Option AV :=
  match x with
  | .imm _ es => some (.v (.int .i64 es.length))
  | .sl _ _ _ len => some (.v (.int .i64 len))
  | .v (.slice none n _) => some (.v (.int .i64 n))
  | _ => none

def eLenStr (x : AV) : Option AV :=
  match x with
  | .v (.string s) => some (.v (.int .i64 s.size))
  | _ => none

def eToInt (k : IntKind) (x : AV) : Option AV :=
  match x with
  | .v (.int _ n) => some (.v (.int k (k.wrap n)))
  | _ => none

def byteCells (s : ByteArray) : List (List AV) := s.data.toList.map fun b => [.v (.int .u8 b.toNat)]
/-- The bytes of a string. -/
def eBytes (x : AV) : Option AV :=
  match x with
  | .v (.string s) => some (.imm 1 (byteCells s))
  | _ => none

/-- Is it the conversion of a string to its bytes? -/
def tBytes (P : Program) (s d : TypeId) : Bool :=
  match P.underlying s, tSlice P d with
  | some .string, some e => match P.underlying e with
    | some (.int .u8) => true
    | _ => false
  | _, _ => false

def eMin (x y : AV) : Option AV :=
  match x, y with
  | .v (.int k a), .v (.int _ b) => some (.v (.int k (if b < a then b else a)))
  | _, _ => none
def eMax (x y : AV) : Option AV :=
  match x, y with
  | .v (.int k a), .v (.int _ b) => some (.v (.int k (if b > a then b else a)))
  | _, _ => none

def oInt (d : Nat) (x : Option AV) : Option Nat :=
  match x with
  | none => some d
  | some (.v (.int _ n)) => if 0 ≤ n then some n.toNat else none
  | _ => none

/-- Part of a slice or a string. -/
def eSlice (esz : Option Nat) (x : AV) (lo hi : Option AV) : Option AV :=
  match x, esz with
  | .v (.string s), none => match oInt 0 lo, oInt s.size hi with
    | some l, some h => if l ≤ h ∧ h ≤ s.size then some (.v (.string (s.extract l h))) else none
    | _, _ => none
  | .imm sz es, some z => match oInt 0 lo, oInt es.length hi with
    | some l, some h => if l ≤ h ∧ h ≤ es.length ∧ sz = z then some (.imm sz ((es.drop l).take (h - l))) else none
    | _, _ => none
  | .sl sz id i len, some z => match oInt 0 lo, oInt len hi with
    | some l, some h => if l ≤ h ∧ h ≤ len ∧ sz = z then some (.sl sz id (i + l) (h - l)) else none
    | _, _ => none
  | .v (.slice none 0 0), some _ => match oInt 0 lo, oInt 0 hi with
    | some 0, some 0 => some (.v (.slice none 0 0))
    | _, _ => none
  | _, _ => none

/-- A map's entry, as the model finds it. -/
def mapFind (kind : TypeDesc) (k : Value) : List (Value × AV) → Nat → Option (Option (Nat × AV))
  | [], _ => some none
  | (q, v) :: es, i =>
    match Instr.sameNow kind k q with
    | some true => some (some (i, v))
    | some false => mapFind kind k es (i + 1)
    | none => none

def scalarKey : TypeDesc → Bool
  | .int _ | .string | .bool => true
  | _ => false

/-- A map's types: what kind its keys are, and its elements' zero. -/
def mapTypes (P : Program) (t : TypeId) : Option (TypeDesc × AV) :=
  match P.underlying t with
  | some (.map kt vt) => match P.underlying kt, P.info? vt with
    | some d, some i => match i.zero with
      | some z => bif scalarKey d then some (d, ofV z) else none
      | none => none
    | _, _ => none
  | _ => none

def eLookup (kind : TypeDesc) (zero : AV) (ok : Bool) (m k : AV) (h : Heap) : Option AV :=
  match k with
  | .v key =>
    match (match m with
      | .v (.map none) => some []
      | .map id => match h id with
        | some (.map es) => some es
        | _ => none
      | _ => none : Option (List (Value × AV))) with
    | some es => match mapFind kind key es 0 with
      | some (some (_, v)) => some (bif ok then .tup [v, .v (.bool true)] else v)
      | some none => some (bif ok then .tup [zero, .v (.bool false)] else zero)
      | none => none
    | none => none
  | _ => none

def putCells (cs : List AV) (off : Nat) (vs : List AV) : List AV := cs.take off ++ vs ++ cs.drop (off + vs.length)

/-- Parts laid into cells. -/
def eFill (place : Nat → Option (Nat × Nat)) (cs : List AV) : List (Nat × AV) → Option (List AV)
  | [] => some cs
  | (i, v) :: rest =>
    match place i with
    | none => none
    | some (off, size) => if (cellsOf v).length = size ∧ off + size ≤ cs.length then eFill place (putCells cs off (cellsOf v)) rest else none

def zeroCells (P : Program) (t : TypeId) : Option (List AV) :=
  match P.info? t with
  | some i => match i.zero with
    | some z => some (z.cells.toList.map .v)
    | none => none
  | none => none

/-- A struct's or an array's zero, and where its parts stand. -/
def buildTab (P : Program) (t : TypeId) : Option (List AV × List (Nat × Nat)) :=
  match zeroCells P t, P.underlying t with
  | some z, some (.struct fs) => bif fs.toList.all (fun f => (P.info? f.type).isSome && !Nat.beq (tSize P f.type) 0) then some (z, fs.toList.map fun f => (f.offset, tSize P f.type)) else none
  | some z, some (.array n e) => bif (P.info? e).isSome && !Nat.beq (tSize P e) 0 then some (z, (List.range n).map fun i => (i * tSize P e, tSize P e)) else none
  | _, _ => none

def eBuildL (z : List AV) (places : List (Nat × Nat)) (parts : List (Nat × AV)) : Option AV :=
  match eFill (fun i => places[i]?) z parts with
  | some cs => some (.agg cs)
  | none => none

def eBuild (P : Program) (t : TypeId) (parts : List (Nat × AV)) : Option AV :=
  match buildTab P t with
  | some (z, places) => eBuildL z places parts
  | none => none

/-- A list of elements, each of `sz` cells, out of parts. -/
def eFillRow (sz : Nat) (es : List (List AV)) : List (Nat × AV) → Option (List (List AV))
  | [] => some es
  | (i, v) :: rest => if (cellsOf v).length = sz ∧ i < es.length then eFillRow sz (es.set i (cellsOf v)) rest else none

/-- The size and the zero of a slice type's elements, if `len` of them may be laid. -/
def rowTab (P : Program) (t : TypeId) (len : Nat) : Option (Nat × List AV) :=
  match tSlice P t with
  | some e => match zeroCells P e with
    | some z => bif Nat.beq z.length (tSize P e) && Nat.ble (len * tSize P e) 16777216 && Nat.blt 0 (tSize P e) then some (tSize P e, z) else none
    | none => none
  | none => none

def eImm (sz : Nat) (z : List AV) (len : Nat) (parts : List (Nat × AV)) : Option AV :=
  match eFillRow sz (List.replicate len z) parts with
  | some es => some (.imm sz es)
  | none => none

end Go.Abs

namespace Go.Abs

/-- The value of an operation that changes no object; none: not known to have one. -/
def evalOp (P : Program) (op : Op) (env : Env) (h : Heap) : Option AV :=
  match op with
  | .move x | .assign x => some (ev env x)
  | .pick c a b => ePick (ev env c) (ev env a) (ev env b)
  | .box _ x => some (.iptr (cellsOf (ev env x)) 0)
  | .build t ps => eBuild P t (ps.toList.map fun p => (p.1, ev env p.2))
  | .buildSlice t len ps => match rowTab P t len with
    | some (sz, z) => eImm sz z len (ps.toList.map fun p => (p.1, ev env p.2))
    | none => none
  | .load t a => match tAgg P t with
    | some g => if (P.info? t).isSome then eLoad g (if g then tSize P t else 1) (ev env a) h else none
    | none => none
  | .nilCheck x => eNil (ev env x)
  | .binOp op t x y _ => eBin op (match P.underlying t with | some .bool => true | _ => false) (ev env x) (ev env y)
  | .unOp op _ x => eUn op (ev env x)
  | .convert s d x => match tBytes P s d with
    | true => eBytes (ev env x)
    | false => match P.underlying s, tInt P d with
      | some _, some k => eToInt k (ev env x)
      | _, _ => none
  | .makeFunc (.func f) fi ca => some (.clo f (fi.toList.map (ev env)) (ca.toList.map (ev env)))
  | .slice t x lo hi none => match P.underlying t with
    | some .string => eSlice none (ev env x) (lo.map (ev env)) (hi.map (ev env))
    | some (.slice e) => if (P.info? e).isSome then eSlice (some (tSize P e)) (ev env x) (lo.map (ev env)) (hi.map (ev env)) else none
    | _ => none
  | .fieldAddr s x f => match tFieldOff P s f with
    | some off => eFA off (ev env x)
    | none => none
  | .field s x f => match P.underlying s with
    | some (.struct fs) => match fs[f]? with
      | some fd => match tAgg P fd.type with
        | some g => if (P.info? fd.type).isSome then eField g fd.offset (if g then tSize P fd.type else 1) (ev env x) else none
        | none => none
      | none => none
    | _ => none
  | .indexAddr t x i => match P.underlying t with
    | some (.slice e) => if (P.info? e).isSome then eIxS (tSize P e) (ev env x) (ev env i) else none
    | some (.array n e) => if (P.info? e).isSome then eIxA n (tSize P e) (ev env x) (ev env i) else none
    | _ => none
  | .index t x i => match P.underlying t with
    | some .string => eIdxStr (ev env x) (ev env i)
    | some (.array n e) => match tAgg P e with
      | some g => if (P.info? e).isSome && (g || tSize P e == 1) then eIdxA g n (tSize P e) (ev env x) (ev env i) else none
      | none => none
    | _ => none
  | .extract t k => eExtract k (ev env t)
  | .lookup t m k ok => match mapTypes P t with
    | some (kind, zero) => eLookup kind zero ok (ev env m) (ev env k) h
    | none => none
  | .call { callee := .builtin .len, args, argTypes } => match args.toList, argTypes.toList with
    | [x], [t] => match P.underlying t with
      | some (.slice _) => eLen (ev env x)
      | some .string => eLenStr (ev env x)
      | _ => none
    | _, _ => none
  | .call { callee := .builtin .min, args, .. } => match args.toList with
    | [x, y] => eMin (ev env x) (ev env y)
    | _ => none
  | .call { callee := .builtin .max, args, .. } => match args.toList with
    | [x, y] => eMax (ev env x) (ev env y)
    | _ => none
  | _ => none

def ER (G : Gh) (env : Env) (tmps : Array Value) : Prop := ∀ i, VR G (env i) (tmps.getD i undef)

theorem ER.mono {G G' : Gh} (hG : G.le G') {env : Env} {tmps : Array Value} (h : ER G env tmps) : ER G' env tmps := fun i => (h i).mono hG

theorem ER.ev {G : Gh} {env : Env} {a : Act} (h : ER G env a.tmps) (x : Operand) : VR G (ev env x) (a.eval x) := by
  cases x with
  | tmp t => exact h t
  | const v => exact .ofV G v
  | global g => exact .v _
  | func f => exact .clo f [] [] #[] #[] rfl rfl (fun k hk => absurd hk (by simp)) (fun k hk => absurd hk (by simp))

section
variable {P : Program} {w0 w : World} {G : Gh} {h : Heap}

theorem cellsAt_ok (H : WR w0 G h w) {a : AV} {x : Value} (hx : VR G a x) {cs : List AV} {off : Nat} (hc : cellsAt a h = some (cs, off)) :
    ∃ b o, x = .pointer (some ⟨b, o + off, none⟩) ∧ ∀ k, k < cs.length → ∃ y, w.cell? ⟨b, o + k, none⟩ = some y ∧ VR G (lget cs k) y := by
  cases hx with
  | iptr cs' off' b o ys hI hv =>
    simp only [cellsAt, Option.some.injEq, Prod.mk.injEq] at hc
    obtain ⟨rfl, rfl⟩ := hc
    exact ⟨b, o, rfl, fun k hk => ⟨ys k, H.imm _ _ _ (hI k hk), hv k hk⟩⟩
  | ptr sz id i off' =>
    simp only [cellsAt] at hc
    split at hc
    · rename_i sz' es he
      split at hc
      · rename_i hcond
        obtain ⟨rfl, hi⟩ := hcond
        simp only [Option.some.injEq, Prod.mk.injEq] at hc
        obtain ⟨rfl, rfl⟩ := hc
        refine ⟨id, i * sz, rfl, fun k hk => ?_⟩
        obtain ⟨arr, T, hb, hn, _, hl, hv⟩ := H.obj id _ he
        rw [hl i hi] at hk
        have hlt : i * sz + k < arr.size := by
          have : (i + 1) * sz ≤ es.length * sz := Nat.mul_le_mul_right _ (by omega)
          rw [Nat.add_mul] at this; omega
        refine ⟨arr.getD (i * sz + k) undef, ?_, hv i k hi hk⟩
        rw [cell_of_row w id _ arr T _ hb]
        simp [Array.getD, hlt]
      · cases hc
    · cases hc
  | _ => simp [cellsAt] at hc

theorem getD_range_map (n : Nat) (f : Nat → Value) (k : Nat) (hk : k < n) : (((List.range n).map f).toArray).getD k undef = f k := by
  simp [Array.getD, hk]

theorem addr_add (b o n : Nat) : (Addr.add ⟨b, o, none⟩ n) = ⟨b, o + n, none⟩ := by
  unfold Addr.add
  split
  · rename_i h; subst h; rfl
  · rfl

theorem run_underlying' {t : TypeId} {d : TypeDesc} (hd : P.underlying t = some d) (w : World) : (underlying t).run P w = .ok d w := by
  unfold underlying
  simp [hd]

theorem run_sizeOf' {t : TypeId} (hi : (P.info? t).isSome = true) (w : World) : (sizeOf t).run P w = .ok (tSize P t) w := by
  obtain ⟨i, hi⟩ := Option.isSome_iff_exists.1 hi
  unfold sizeOf typeInfo tSize
  simp [hi]

theorem run_isAgg' {t : TypeId} {g : Bool} (hg : tAgg P t = some g) (w : World) : (isAgg t).run P w = .ok g w := by
  unfold tAgg at hg
  cases hd : P.underlying t with
  | none => simp [hd] at hg
  | some d =>
    unfold isAgg
    rw [Sem.run_bind, run_underlying' hd]
    simp only [Result.andThen_ok]
    rw [hd] at hg
    cases d <;> simp_all

theorem ePart_ok {g : Bool} {n : Nat} {cs : List AV} {off : Nat} {r : AV} (h : ePart g n cs off = some r) :
    off + n ≤ cs.length ∧ ((g = true ∧ r = .agg ((cs.drop off).take n)) ∨ (g = false ∧ n = 1 ∧ r = lget cs off)) := by
  unfold ePart at h
  split at h
  · rename_i hle
    cases g
    · simp at h; exact ⟨hle, .inr ⟨rfl, h.1, h.2.symm⟩⟩
    · simp at h; exact ⟨hle, .inl ⟨rfl, h.symm⟩⟩
  · cases h

theorem lget_drop_take (cs : List AV) (off n k : Nat) (hk : k < n) : lget ((cs.drop off).take n) k = lget cs (off + k) := by
  simp [lget, List.getD_eq_getElem?_getD, hk, List.getElem?_drop]

theorem load_ok (H : WR w0 G h w) {a : AV} {x : Value} (hx : VR G a x) {t : TypeId} {g : Bool} (hg : tAgg P t = some g) (hi : (P.info? t).isSome = true)
    {r : AV} (hr : eLoad g (if g then tSize P t else 1) a h = some r) : ∃ y, (Instr.loadAt t x).run P w = .ok y w ∧ VR G r y := by
  unfold eLoad at hr
  cases hc : cellsAt a h with
  | none => simp [hc] at hr
  | some p =>
    obtain ⟨cs, off⟩ := p
    simp only [hc] at hr
    obtain ⟨b, o, rfl, hcell⟩ := cellsAt_ok H hx hc
    obtain ⟨hle, hcase⟩ := ePart_ok hr
    have hrun : ∀ y, (Instr.loadAt t (.pointer (some ⟨b, o + off, none⟩))).run P w = y ↔ (loadVar t ⟨b, o + off, none⟩).run P w = y := by
      intro y; simp [Instr.loadAt, Instr.sureAddr]
    rcases hcase with ⟨rfl, rfl⟩ | ⟨rfl, _, rfl⟩
    · simp only [if_true] at hle ⊢
      let f : Nat → Value := fun k => ((w.cell? ⟨b, o + off + k, none⟩).getD undef)
      have hf : ∀ j, j < tSize P t → w.cell? ((⟨b, o + off, none⟩ : Addr).add j) = some (f j) := by
        intro j hj
        obtain ⟨y, hy, _⟩ := hcell (off + j) (by omega)
        rw [addr_add]
        have e : o + (off + j) = o + off + j := by omega
        rw [e] at hy
        simp [f, hy]
      refine ⟨.agg ((List.range (tSize P t)).map f).toArray, ?_, ?_⟩
      · rw [hrun]
        unfold loadVar
        simp only [Sem.run_bind, run_isAgg' hg, Result.andThen_ok, if_true, run_sizeOf' hi, run_loadCells w _ _ f hf, Sem.run_pure]
      · refine .agg _ _ (by simp; omega) fun k hk => ?_
        simp at hk
        rw [getD_range_map _ _ _ (by omega), lget_drop_take _ _ _ _ (by omega)]
        obtain ⟨y, hy, hv⟩ := hcell (off + k) (by omega)
        have e : o + (off + k) = o + off + k := by omega
        rw [e] at hy
        simp only [f, hy, Option.getD_some]
        exact hv
    · simp at hle
      obtain ⟨y, hy, hv⟩ := hcell off (by omega)
      refine ⟨y, ?_, hv⟩
      rw [hrun]
      unfold loadVar
      simp only [Sem.run_bind, run_isAgg' hg, Result.andThen_ok, Bool.false_eq_true, if_false, run_load, hy]

theorem equal_bool {t : TypeId} (hu : P.underlying t = some .bool) (a b : Bool) (w : World) : (Op.equal t (.bool a) (.bool b)).run P w = .ok (a == b) w := by
  unfold Op.equal Op.maxDepth
  rw [show (10000 : Nat) = 9999 + 1 from rfl]
  unfold Op.equalIn
  rw [Sem.run_bind, run_underlying' hu]
  rfl

theorem eBin_ok {op : BinOp} {t : TypeId} {bt : Bool} (hbt : bt = true → P.underlying t = some .bool) {a b r : AV} {x y : Value} (hx : VR G a x) (hy : VR G b y)
    (hr : eBin op bt a b = some r) (xo yo : Operand) : ∃ z, (eqGuard op t xo yo x y >>= fun _ => binOp op t x y).run P w = .ok z w ∧ VR G r z := by
  have guard : ∀ x y : Value, (∀ c d, (x, y) ≠ (Value.agg c, Value.agg d)) → (x, y) ≠ (.nilIface, .nilIface) → (eqGuard op t xo yo x y).run P w = .ok () w := by
    intro x y h1 h2
    unfold eqGuard
    cases x <;> cases y <;> first | (exact absurd rfl h2) | (exact absurd rfl (h1 _ _)) | (cases op <;> rfl)
  unfold eBin at hr
  split at hr
  · rename_i k i k' j
    cases hx; cases hy
    rw [Sem.run_bind, guard _ _ (by simp) (by simp), Result.andThen_ok]
    split at hr
    · split at hr
      · cases hr
      · rename_i hb
        cases hr
        exact ⟨_, by simp [binOp, Op.shift, hb], .v _⟩
    · split at hr
      · cases hr
      · rename_i hb
        cases hr
        exact ⟨_, by simp [binOp, Op.shift, hb], .v _⟩
    · split at hr
      · rename_i hk
        subst hk
        cases op <;> simp only [intBin] at hr <;> first
          | (cases hr; exact ⟨_, by simp [binOp, Op.intArith, Op.intCmp, Op.intBits], .v _⟩)
          | (split at hr
             · cases hr
             · rename_i hz; cases hr; exact ⟨_, by simp [binOp, Op.intDiv, hz], .v _⟩)
          | (rename_i h1 h2; exact absurd rfl h1)
          | (rename_i h1 h2; exact absurd rfl h2)
          | (cases hr; done)
      · cases hr
  · rename_i s s'
    cases hx; cases hy
    rw [Sem.run_bind, guard _ _ (by simp) (by simp), Result.andThen_ok]
    cases op <;> simp only [strBin] at hr <;> first
      | (cases hr; done)
      | (cases hr; exact ⟨_, by simp [binOp, Op.stringOp], .v _⟩)
      | (split at hr
         · cases hr
         · rename_i hz; cases hr; exact ⟨_, by simp only [binOp, Op.stringOp]; rw [if_neg hz]; rfl, .v _⟩)
  · rename_i c d
    cases hx; cases hy
    rw [Sem.run_bind, guard _ _ (by simp) (by simp), Result.andThen_ok]
    split at hr
    · cases hr
      have := hbt rfl
      exact ⟨_, by simp only [binOp]; rw [Sem.run_bind, equal_bool this, Result.andThen_ok, Sem.run_pure], .v _⟩
    · cases hr
      have := hbt rfl
      exact ⟨_, by simp only [binOp]; rw [Sem.run_bind, equal_bool this, Result.andThen_ok, Sem.run_pure], .v _⟩
    · cases hr
  · cases hr

theorem eUn_ok {op : UnOp} {a r : AV} {x : Value} (hx : VR G a x) (hr : eUn op a = some r) : ∃ z, (Op.unary op x).run P w = .ok z w ∧ VR G r z := by
  unfold eUn at hr
  split at hr
  · cases hx; cases hr; exact ⟨_, by simp [Op.unary, Op.intArith], .v _⟩
  · cases hx; cases hr; exact ⟨_, by simp [Op.unary], .v _⟩
  · cases hr

end
end Go.Abs

namespace Go.Abs
section
variable {P : Program} {w0 w : World} {G : Gh} {h : Heap}

theorem eFA_ok {off : Nat} {a r : AV} {x : Value} (hx : VR G a x) (hr : eFA off a = some r) :
    ∃ b o, x = .pointer (some ⟨b, o, none⟩) ∧ VR G r (.pointer (some ⟨b, o + off, none⟩)) := by
  cases hx with
  | iptr cs o' b o ys hI hv =>
    simp only [eFA, Option.some.injEq] at hr; subst hr
    refine ⟨b, o + o', rfl, ?_⟩
    rw [Nat.add_assoc]
    exact .iptr cs (o' + off) b o ys hI hv
  | ptr sz id i o =>
    simp only [eFA, Option.some.injEq] at hr; subst hr
    refine ⟨id, i * sz + o, rfl, ?_⟩
    rw [Nat.add_assoc]
    exact .ptr sz id i (o + off)
  | _ => simp [eFA] at hr

theorem tField_ok {t : TypeId} {f off : Nat} (hr : tFieldOff P t f = some off) :
    ∃ fs fd, P.underlying t = some (.struct fs) ∧ fs[f]? = some fd ∧ fd.offset = off ∧ (∀ w, (sizeOf fd.type).run P w = .ok (tSize P fd.type) w) ∧ tSize P fd.type ≠ 0 := by
  unfold tFieldOff at hr
  split at hr
  · rename_i fs hfs
    split at hr
    · rename_i fd hfd
      split at hr
      · rename_i i hi
        split at hr
        · cases hr
        · rename_i hz
          exact ⟨fs, fd, hfs, hfd, by simpa using hr, fun w => run_sizeOf' (by simp [hi]) w, by simp [tSize, hi, hz]⟩
      · cases hr
    · cases hr
  · cases hr

theorem fieldAddr_ok {t : TypeId} {f off : Nat} (ho : tFieldOff P t f = some off) {a r : AV} {x : Value} (hx : VR G a x) (hr : eFA off a = some r) (w : World) :
    ∃ y, (Instr.fieldAt t x f).run P w = .ok y w ∧ VR G r y := by
  obtain ⟨fs, fd, hfs, hfd, rfl, hs, hz⟩ := tField_ok ho
  obtain ⟨b, o, rfl, hv⟩ := eFA_ok hx hr
  refine ⟨_, ?_, hv⟩
  unfold Instr.fieldAt
  simp only [Sem.run_bind, run_underlying' hfs, Result.andThen_ok, hfd, Instr.sureAddr, fieldPlace, hs, hz, if_false, Sem.run_pure, addr_add]

theorem part_ok {t : TypeId} {g : Bool} (hg : tAgg P t = some g) (hi : (P.info? t).isSome = true) {cs : List AV} {xs : Array Value} {off : Nat} {r : AV}
    (hl : cs.length = xs.size) (hv : ∀ k, k < cs.length → VR G (lget cs k) (xs.getD k undef))
    (hr : ePart g (if g then tSize P t else 1) cs off = some r) (w : World) : ∃ y, (part t xs off).run P w = .ok y w ∧ VR G r y := by
  obtain ⟨hle, hc⟩ := ePart_ok hr
  rcases hc with ⟨rfl, rfl⟩ | ⟨rfl, _, rfl⟩
  · simp only [if_true] at hle ⊢
    refine ⟨.agg (xs.extract off (off + tSize P t)), ?_, ?_⟩
    · unfold part
      simp only [Sem.run_bind, run_isAgg' hg, Result.andThen_ok, if_true, run_sizeOf' hi, Sem.run_pure]
    · refine .agg _ _ (by simp; omega) fun k hk => ?_
      simp at hk
      rw [lget_drop_take _ _ _ _ (by omega)]
      have := hv (off + k) (by omega)
      have e : (xs.extract off (off + tSize P t)).getD k undef = xs.getD (off + k) undef := by
        simp only [Array.getD, Array.size_extract]
        have h1 : k < min (off + tSize P t) xs.size - off := by omega
        have h2 : off + k < xs.size := by omega
        simp [h1, h2]
      rw [e]; exact this
  · simp at hle
    refine ⟨xs.getD off undef, ?_, hv off (by omega)⟩
    unfold part
    have h2 : off < xs.size := by omega
    simp [run_isAgg' hg, h2, Array.getD]

theorem field_ok {t : TypeId} {f : Nat} {fs : Array Field} {fd : Field} {g : Bool} (hfs : P.underlying t = some (.struct fs)) (hfd : fs[f]? = some fd)
    (hg : tAgg P fd.type = some g) (hi : (P.info? fd.type).isSome = true) {a r : AV} {x : Value} (hx : VR G a x)
    (hr : eField g fd.offset (if g then tSize P fd.type else 1) a = some r) (w : World) : ∃ y, (Instr.field t x f).run P w = .ok y w ∧ VR G r y := by
  cases hx with
  | agg cs xs hl hv =>
    obtain ⟨y, hy, hyv⟩ := part_ok hg hi hl hv hr w
    refine ⟨y, ?_, hyv⟩
    unfold Instr.field
    simp only [Sem.run_bind, run_underlying' hfs, Result.andThen_ok, hfd, asAgg, Sem.run_pure, hy]
  | _ => simp [eField] at hr

theorem eIxS_inv {esz : Nat} {a i r : AV} (hr : eIxS esz a i = some r) :
    (∃ es k n, a = .imm esz es ∧ i = .v (.int k n) ∧ 0 ≤ n ∧ n.toNat < es.length ∧ r = .iptr (eget es n.toNat) 0) ∨
    (∃ id i0 len k n, a = .sl esz id i0 len ∧ i = .v (.int k n) ∧ 0 ≤ n ∧ n.toNat < len ∧ r = .ptr esz id (i0 + n.toNat) 0) := by
  unfold eIxS at hr
  split at hr
  · split at hr
    · rename_i sz es k n hc
      obtain ⟨h0, h1, rfl⟩ := hc
      exact .inl ⟨_, _, _, rfl, rfl, h0, h1, (Option.some.inj hr).symm⟩
    · cases hr
  · split at hr
    · rename_i sz id j len k n hc
      obtain ⟨h0, h1, rfl⟩ := hc
      exact .inr ⟨_, _, _, _, _, rfl, rfl, h0, h1, (Option.some.inj hr).symm⟩
    · cases hr
  · cases hr

theorem indexAddr_slice_ok (H : WR w0 G h w) {t e : TypeId} (ht : P.underlying t = some (.slice e)) (hi : (P.info? e).isSome = true) {a i r : AV} {x j : Value}
    (hx : VR G a x) (hj : VR G i j) (hr : eIxS (tSize P e) a i = some r) : ∃ y, (Instr.indexAt t x j).run P w = .ok y w ∧ VR G r y := by
  have step : ∀ (k : IntKind) (n : Int) (b o len cap : Nat), 0 ≤ n → n.toNat < len →
      (Instr.indexAt t (.slice (some ⟨b, o, none⟩) len cap) (.int k n)).run P w = .ok (.pointer (some ⟨b, o + n.toNat * tSize P e, none⟩)) w := by
    intro k n b o len cap h0 h1
    unfold Instr.indexAt
    have hlt : n < (len : Int) := by omega
    simp only [asIntOf, Sem.run_bind, Sem.run_pure, Result.andThen_ok, run_underlying' ht]
    simp [h0, hlt, run_sizeOf' hi, addr_add]
  rcases eIxS_inv hr with ⟨es, k, n, rfl, rfl, h0, h1, rfl⟩ | ⟨id, i0, len, k, m, rfl, rfl, h0, h1, rfl⟩
  · cases hj
    cases hx with
    | immNil sz a cap => simp at h1
    | imm _ _ b o cap hcap hsz ys hI hv =>
      refine ⟨_, step _ _ _ _ _ _ h0 h1, ?_⟩
      have := VR.iptr (G := G) (eget es n.toNat) 0 b (o + n.toNat * tSize P e) (fun k => ys n.toNat k)
        (fun k hk => hI _ k h1 (by rwa [hsz _ h1] at hk)) (fun k hk => hv _ k h1 (by rwa [hsz _ h1] at hk))
      simpa using this
  · cases hj
    cases hx with
    | sl _ _ _ _ o cap n hcap hZ hn ho =>
      refine ⟨_, step _ _ _ _ _ _ h0 h1, ?_⟩
      have ho' : o = i0 * tSize P e := ho.resolve_left (by omega)
      subst ho'
      rw [← Nat.add_mul]
      exact .ptr (tSize P e) id (i0 + m.toNat) 0

theorem indexAddr_array_ok {t e : TypeId} {n : Nat} (ht : P.underlying t = some (.array n e)) (hi : (P.info? e).isSome = true) {a i r : AV} {x j : Value}
    (hx : VR G a x) (hj : VR G i j) (hr : eIxA n (tSize P e) a i = some r) (w : World) : ∃ y, (Instr.indexAt t x j).run P w = .ok y w ∧ VR G r y := by
  unfold eIxA at hr
  split at hr
  · split at hr
    · rename_i k m hc
      cases hj
      obtain ⟨b, o, rfl, hv⟩ := eFA_ok hx hr
      refine ⟨_, ?_, hv⟩
      unfold Instr.indexAt
      have hlt : m < (n : Int) := by omega
      simp only [asIntOf, Sem.run_bind, Sem.run_pure, Result.andThen_ok, run_underlying' ht, Instr.sureAddr]
      simp [hc.1, hlt, run_sizeOf' hi, addr_add]
    · cases hr
  · cases hr

theorem index_array_ok {t e : TypeId} {n : Nat} (ht : P.underlying t = some (.array n e)) {g : Bool} (hg : tAgg P e = some g) (hi : (P.info? e).isSome = true)
    (h1 : g = true ∨ tSize P e = 1) {a i r : AV} {x j : Value}
    (hx : VR G a x) (hj : VR G i j) (hr : eIdxA g n (tSize P e) a i = some r) (w : World) : ∃ y, (Instr.index t x j).run P w = .ok y w ∧ VR G r y := by
  cases hx with
  | agg cs xs hl hv =>
    obtain ⟨k, m, rfl, hc, hr⟩ : ∃ k m, i = .v (.int k m) ∧ (0 ≤ m ∧ m.toNat < n) ∧ ePart g (tSize P e) cs (m.toNat * tSize P e) = some r := by
      unfold eIdxA at hr
      split at hr
      · rename_i heq; cases heq
        split at hr
        · rename_i hc; exact ⟨_, _, rfl, hc, hr⟩
        · cases hr
      · cases hr
    cases hj
    · have hr' : ePart g (if g then tSize P e else 1) cs (m.toNat * tSize P e) = some r := by
        rcases h1 with rfl | h1
        · simpa using hr
        · cases g
          · simpa [h1] using hr
          · simpa using hr
      obtain ⟨y, hy, hyv⟩ := part_ok hg hi hl hv hr' w
      refine ⟨y, ?_, hyv⟩
      unfold Instr.index
      have hlt : m < (n : Int) := by omega
      simp only [asIntOf, Sem.run_bind, Sem.run_pure, Result.andThen_ok, run_underlying' ht]
      simp [hc.1, hlt, run_sizeOf' hi, hy]
  | _ => simp [eIdxA] at hr

theorem index_str_ok {t : TypeId} (ht : P.underlying t = some .string) {a i r : AV} {x j : Value}
    (hx : VR G a x) (hj : VR G i j) (hr : eIdxStr a i = some r) (w : World) : ∃ y, (Instr.index t x j).run P w = .ok y w ∧ VR G r y := by
  unfold eIdxStr at hr
  split at hr
  · rename_i s k n
    cases hx; cases hj
    split at hr
    · rename_i hc
      cases hr
      refine ⟨_, ?_, .v _⟩
      unfold Instr.index
      simp only [asIntOf, Sem.run_bind, Sem.run_pure, Result.andThen_ok, run_underlying' ht]
      have e : s[n.toNat]? = some (s[n.toNat]'hc.2) := by
        simp [hc.2]
      rw [if_pos hc.1, e]
      rfl
    · cases hr
  · cases hr

theorem extract_ok {k : Nat} {a r : AV} {x : Value} (hx : VR G a x) (hr : eExtract k a = some r) (w : World) : ∃ y, (Instr.extract x k).run P w = .ok y w ∧ VR G r y := by
  cases hx with
  | tup cs xs hl hv =>
    simp only [eExtract] at hr
    have hk : k < cs.length := (List.getElem?_eq_some_iff.1 hr).1
    have := hv k hk
    have e : lget cs k = r := by simp [lget, List.getD_eq_getElem?_getD, hr]
    rw [e] at this
    refine ⟨xs.getD k undef, ?_, this⟩
    have hk' : k < xs.size := by omega
    simp [Instr.extract, hk', Array.getD]
  | _ => simp [eExtract] at hr

theorem len_ok {t e : TypeId} (ht : P.underlying t = some (.slice e)) {a r : AV} {x : Value} (hx : VR G a x) (hr : eLen a = some r) (w : World) (T : TypeId) :
    ∃ y, (Builtin.len_ #[t] T #[x]).run P w = .ok y w ∧ VR G r y := by
  have sl : ∀ (b : Option Addr) (n c : Nat), (Builtin.len_ #[t] T #[.slice b n c]).run P w = .ok (goInt n) w := by
    intro b n c
    unfold Builtin.len_
    simp [run_underlying' ht]
  cases hx with
  | immNil sz a cap => simp only [eLen, Option.some.injEq] at hr; subst hr; exact ⟨_, sl _ _ _, .v _⟩
  | imm sz es b o cap hcap hsz ys hI hv => simp only [eLen, Option.some.injEq] at hr; subst hr; exact ⟨_, sl _ _ _, .v _⟩
  | sl sz id i len o cap n hcap hZ hn ho => simp only [eLen, Option.some.injEq] at hr; subst hr; exact ⟨_, sl _ _ _, .v _⟩
  | v x =>
    unfold eLen at hr
    split at hr <;> first | (rename_i heq; cases heq; done) | skip
    · rename_i n c heq; cases heq; cases hr; exact ⟨_, sl _ _ _, .v _⟩
    · cases hr
  | _ => simp [eLen] at hr

theorem lenStr_ok {t : TypeId} (ht : P.underlying t = some .string) {a r : AV} {x : Value} (hx : VR G a x) (hr : eLenStr a = some r) (w : World) (T : TypeId) :
    ∃ y, (Builtin.len_ #[t] T #[x]).run P w = .ok y w ∧ VR G r y := by
  unfold eLenStr at hr
  split at hr
  · rename_i s
    cases hx; cases hr
    refine ⟨goInt s.size, ?_, .v _⟩
    unfold Builtin.len_
    simp [run_underlying' ht]
  · cases hr

end
end Go.Abs

namespace Go.Abs
section
variable {P : Program} {w0 w : World} {G : Gh} {h : Heap}

/-- A value's cells. -/
theorem VR.cells {a : AV} {x : Value} (hx : VR G a x) : a = .any ∨ ((cellsOf a).length = x.cells.size ∧ ∀ k, k < (cellsOf a).length → VR G (lget (cellsOf a) k) (x.cells.getD k undef)) := by
  cases hx with
  | any x => exact .inl rfl
  | agg cs xs hl hv => exact .inr ⟨by simpa [cellsOf, Value.cells] using hl, by simpa [cellsOf, Value.cells] using hv⟩
  | v x =>
    refine .inr ?_
    cases x
    case agg xs =>
      refine ⟨by simp [cellsOf, Value.cells], fun k hk => ?_⟩
      simp [cellsOf] at hk
      simp [cellsOf, Value.cells, lget, List.getD_eq_getElem?_getD, hk, Array.getD]
      exact .v _
    all_goals
      refine ⟨by simp [cellsOf, Value.cells], fun k hk => ?_⟩
      simp [cellsOf] at hk
      subst hk
      exact .v _
  | tup cs xs hl hv => exact .inr ⟨rfl, fun k hk => by simp [cellsOf] at hk; subst hk; exact .tup cs xs hl hv⟩
  | immNil sz a cap => exact .inr ⟨rfl, fun k hk => by simp [cellsOf] at hk; subst hk; exact .immNil sz a cap⟩
  | imm sz es b o cap hcap hsz ys hI hv => exact .inr ⟨rfl, fun k hk => by simp [cellsOf] at hk; subst hk; exact .imm sz es b o cap hcap hsz ys hI hv⟩
  | iptr cs off b o ys hI hv => exact .inr ⟨rfl, fun k hk => by simp [cellsOf] at hk; subst hk; exact .iptr cs off b o ys hI hv⟩
  | sl sz id i len o cap n hcap hZ hn ho => exact .inr ⟨rfl, fun k hk => by simp [cellsOf] at hk; subst hk; exact .sl sz id i len o cap n hcap hZ hn ho⟩
  | ptr sz id i off => exact .inr ⟨rfl, fun k hk => by simp [cellsOf] at hk; subst hk; exact .ptr sz id i off⟩
  | clo f fi ca xs ys hl hl' hv hv' => exact .inr ⟨rfl, fun k hk => by simp [cellsOf] at hk; subst hk; exact .clo f fi ca xs ys hl hl' hv hv'⟩
  | map id => exact .inr ⟨rfl, fun k hk => by simp [cellsOf] at hk; subst hk; exact .map id⟩

theorem oInt_ok {d l : Nat} {a : Option AV} {x : Option Value} (hx : match a, x with | none, none => True | some a, some x => VR G a x | _, _ => False)
    (hr : oInt d a = some l) : (a = none ∧ x = none ∧ l = d) ∨ (∃ k n, x = some (.int k n) ∧ 0 ≤ n ∧ l = n.toNat) := by
  cases a with
  | none => cases x <;> simp at hx; simp [oInt] at hr; exact .inl ⟨rfl, rfl, hr.symm⟩
  | some a =>
    cases x with
    | none => simp at hx
    | some x =>
      simp only at hx
      unfold oInt at hr
      split at hr
      · rename_i heq; cases heq
      · rename_i k n heq
        cases heq
        cases hx
        split at hr
        · rename_i h0; exact .inr ⟨k, n, rfl, h0, (Option.some.inj hr).symm⟩
        · cases hr
      · cases hr

/-- The bounds of a slice expression without a third one. -/
theorem sliceBounds_ok {isS : Bool} {len cap l hh : Nat} {lo hi : Option AV} {xl xh : Option Value}
    (hl : match lo, xl with | none, none => True | some a, some x => VR G a x | _, _ => False)
    (hh' : match hi, xh with | none, none => True | some a, some x => VR G a x | _, _ => False)
    (el : oInt 0 lo = some l) (eh : oInt len hi = some hh) (h1 : l ≤ hh) (h2 : hh ≤ cap) (w : World) :
    (Instr.sliceBounds isS len cap xl xh none).run P w = .ok (l, hh, cap) w := by
  have b : ∀ (x : Value) (k : IntKind) (n : Int) (y : Nat) (c : BoundsCode), x = .int k n → 0 ≤ n → n.toNat ≤ y → (Instr.sliceBound x y c).run P w = .ok n.toNat w := by
    rintro x k n y c rfl h0 h1
    have : n ≤ (y : Int) := by omega
    simp [Instr.sliceBound, asIntOf, h0, this]
  unfold Instr.sliceBounds
  rcases oInt_ok hh' eh with ⟨rfl, rfl, rfl⟩ | ⟨k, n, rfl, h0, rfl⟩ <;> rcases oInt_ok hl el with ⟨rfl, rfl, rfl⟩ | ⟨k', n', rfl, h0', rfl⟩ <;>
    simp only [Sem.run_bind, Sem.run_pure, Result.andThen_ok]
  · rw [b _ k' n' _ _ rfl h0' h1]; rfl
  · rw [b _ k n _ _ rfl h0 h2]; rfl
  · rw [b _ k n _ _ rfl h0 h2]; simp only [Result.andThen_ok, Sem.run_bind]; rw [b _ k' n' _ _ rfl h0' h1]; rfl

theorem slice_ok {t : TypeId} {d : TypeDesc} (ht : P.underlying t = some d) {esz : Option Nat}
    (hd : (d = .string ∧ esz = none) ∨ (∃ e, d = .slice e ∧ (P.info? e).isSome = true ∧ esz = some (tSize P e)))
    {a r : AV} {x : Value} (hx : VR G a x) {lo hi : Option AV} {xl xh : Option Value}
    (hl : match lo, xl with | none, none => True | some a, some x => VR G a x | _, _ => False)
    (hh' : match hi, xh with | none, none => True | some a, some x => VR G a x | _, _ => False)
    (hr : eSlice esz a lo hi = some r) (w : World) : ∃ y, (Instr.sliceAt t x xl xh none).run P w = .ok y w ∧ VR G r y := by
  have at_ : (Instr.sliceAt t x xl xh none).run P w = (Instr.slice t x xl xh none).run P w := by
    unfold Instr.sliceAt
    rw [Sem.run_bind, run_underlying' ht, Result.andThen_ok]
    rcases hd with ⟨rfl, _⟩ | ⟨e, rfl, _⟩ <;> rfl
  rw [at_]
  unfold eSlice at hr
  split at hr
  · -- a string
    rename_i s
    cases hx
    rcases hd with ⟨rfl, _⟩ | ⟨e, rfl, _, he⟩
    · split at hr
      · rename_i l hh el eh
        split at hr
        · rename_i hc
          cases hr
          refine ⟨_, ?_, .v _⟩
          unfold Instr.slice
          rw [Sem.run_bind, run_underlying' ht, Result.andThen_ok]
          simp only [Option.isSome_none, Bool.false_eq_true, if_false]
          rw [Sem.run_bind, sliceBounds_ok hl hh' el eh hc.1 hc.2]
          rfl
        · cases hr
      · cases hr
    · cases he
  · -- an immutable slice
    rename_i sz es z
    rcases hd with ⟨rfl, he⟩ | ⟨e, rfl, hi, he⟩
    · cases he
    obtain rfl : z = tSize P e := by simpa using he
    split at hr
    · rename_i l hh el eh
      split at hr
      · rename_i hc
        obtain ⟨h1, h2, rfl⟩ := hc
        cases hr
        have run : ∀ (b : Option Addr) (n cap : Nat), es.length = n → n ≤ cap → (Instr.slice t (.slice b n cap) xl xh none).run P w =
            .ok (.slice (if cap = l then b else b.map (·.add (l * tSize P e))) (hh - l) (cap - l)) w := by
          intro b n cap hn hcap
          subst hn
          unfold Instr.slice
          rw [Sem.run_bind, run_underlying' ht, Result.andThen_ok]
          simp only
          rw [Sem.run_bind, sliceBounds_ok hl hh' el eh h1 (by omega), Result.andThen_ok, Sem.run_bind, run_sizeOf' hi]
          rfl
        cases hx with
        | immNil sz a cap =>
          obtain rfl : hh = 0 := by simpa using h2
          obtain rfl : l = 0 := by omega
          refine ⟨_, run _ _ _ rfl (Nat.zero_le _), ?_⟩
          simpa using VR.immNil _ _ _
        | imm _ _ b o cap hcap hsz ys hI hv =>
          refine ⟨_, run _ _ _ rfl hcap, ?_⟩
          have hlen : ((es.drop l).take (hh - l)).length = hh - l := by simp; omega
          by_cases hcl : cap = l
          · have h0 : hh - l = 0 := by omega
            rw [h0]
            simp only [List.take_zero]
            exact .immNil _ _ _
          · rw [if_neg hcl]
            simp only [Option.map_some, addr_add]
            have hget : ∀ j, j < hh - l → eget ((es.drop l).take (hh - l)) j = eget es (l + j) := by
              intro j hj
              simp [eget, List.getD_eq_getElem?_getD, hj, List.getElem?_drop]
            have := VR.imm (G := G) (tSize P e) ((es.drop l).take (hh - l)) b (o + l * tSize P e) (cap - l) (by omega)
              (fun j hj => by rw [hlen] at hj; rw [hget j hj]; exact hsz _ (by omega)) (fun j k => ys (l + j) k)
              (fun j k hj hk => by
                rw [hlen] at hj
                have e1 : o + l * tSize P e + j * tSize P e + k = o + (l + j) * tSize P e + k := by rw [Nat.add_mul]; omega
                rw [e1]; exact hI _ _ (by omega) hk)
              (fun j k hj hk => by rw [hlen] at hj; rw [hget j hj]; exact hv _ _ (by omega) hk)
            rw [hlen] at this
            exact this
      · cases hr
    · cases hr
  · -- a slice of an object
    rename_i sz id i len z
    rcases hd with ⟨rfl, he⟩ | ⟨e, rfl, hi, he⟩
    · cases he
    obtain rfl : z = tSize P e := by simpa using he
    split at hr
    · rename_i l hh el eh
      split at hr
      · rename_i hc
        obtain ⟨h1, h2, rfl⟩ := hc
        cases hr
        cases hx with
        | sl _ _ _ _ o cap n hcap hZ hn ho =>
          have run : (Instr.slice t (.slice (some ⟨id, o, none⟩) len cap) xl xh none).run P w =
              .ok (.slice (some ⟨id, if cap = l then o else o + l * tSize P e, none⟩) (hh - l) (cap - l)) w := by
            unfold Instr.slice
            rw [Sem.run_bind, run_underlying' ht, Result.andThen_ok]
            simp only
            rw [Sem.run_bind, sliceBounds_ok hl hh' el eh h1 (by omega), Result.andThen_ok, Sem.run_bind, run_sizeOf' hi]
            by_cases hcl : cap = l
            · simp [hcl]
            · simp [hcl, addr_add]
          refine ⟨_, run, ?_⟩
          refine .sl (tSize P e) id (i + l) (hh - l) _ (cap - l) n (by omega) hZ ?_ ?_
          · have e1 : i + l + (cap - l) = i + cap := by omega
            rw [e1]; exact hn
          · by_cases hcl : cap = l
            · exact .inl (by omega)
            · rw [if_neg hcl]
              right
              rcases ho with ho | rfl
              · omega
              · rw [Nat.add_mul]
      · cases hr
    · cases hr
  · -- nil
    rcases hd with ⟨rfl, he⟩ | ⟨e, rfl, hi, he⟩
    · cases he
    split at hr
    · rename_i el eh
      cases hr
      cases hx
      refine ⟨_, ?_, .v _⟩
      unfold Instr.slice
      rw [Sem.run_bind, run_underlying' ht, Result.andThen_ok]
      simp only
      rw [Sem.run_bind, sliceBounds_ok hl hh' el eh (Nat.le_refl _) (Nat.le_refl _), Result.andThen_ok, Sem.run_bind, run_sizeOf' hi]
      simp
    · cases hr
  · cases hr

end
end Go.Abs

namespace Go.Abs
section
variable {P : Program} {w0 w : World} {G : Gh} {h : Heap}

theorem foldl_set (l : List Value) : ∀ (cells : Array Value) (off k0 : Nat),
    ((l.zipIdx k0).foldl (fun cs (x : Value × Nat) => cs.setIfInBounds (off + x.2) x.1) cells).size = cells.size ∧
    ∀ i, ((l.zipIdx k0).foldl (fun cs (x : Value × Nat) => cs.setIfInBounds (off + x.2) x.1) cells).getD i undef =
      if off + k0 ≤ i ∧ i < off + k0 + l.length ∧ i < cells.size then l.getD (i - (off + k0)) undef else cells.getD i undef := by
  induction l with
  | nil => intro cells off k0; simp; intro i h1 h2; omega
  | cons v l ih =>
    intro cells off k0
    simp only [List.zipIdx_cons, List.foldl_cons, List.length_cons]
    obtain ⟨h1, h2⟩ := ih (cells.setIfInBounds (off + k0) v) off (k0 + 1)
    refine ⟨by rw [h1]; simp, fun i => ?_⟩
    rw [h2]
    simp only [Array.size_setIfInBounds]
    by_cases hi : i = off + k0
    · subst hi
      by_cases hs : off + k0 < cells.size
      · rw [if_neg (by omega), if_pos (by omega)]
        simp [Array.getD, hs]
      · rw [if_neg (by omega), if_neg (by omega)]
        simp [Array.getD, hs]
    · have hne : (cells.setIfInBounds (off + k0) v).getD i undef = cells.getD i undef := by
        simp only [Array.getD, Array.size_setIfInBounds]
        split
        · rename_i hs
          rw [Array.getInternal_eq_getElem, Array.getInternal_eq_getElem, Array.getElem_setIfInBounds_ne _ (Ne.symm hi)]
        · rfl
      rw [hne]
      by_cases hc : off + (k0 + 1) ≤ i ∧ i < off + (k0 + 1) + l.length ∧ i < cells.size
      · rw [if_pos hc, if_pos (by omega)]
        have e : i - (off + k0) = (i - (off + (k0 + 1))) + 1 := by omega
        rw [e]; rfl
      · rw [if_neg hc, if_neg (by omega)]

theorem foldl_set' (v : Array Value) (cells : Array Value) (off : Nat) :
    (v.zipIdx.foldl (fun cs (x : Value × Nat) => cs.setIfInBounds (off + x.2) x.1) cells).size = cells.size ∧
    ∀ i, (v.zipIdx.foldl (fun cs (x : Value × Nat) => cs.setIfInBounds (off + x.2) x.1) cells).getD i undef =
      if off ≤ i ∧ i < off + v.size ∧ i < cells.size then v.getD (i - off) undef else cells.getD i undef := by
  have := foldl_set v.toList cells off 0
  rw [← Array.foldl_toList, Array.toList_zipIdx]
  simp only [Nat.add_zero, Array.length_toList] at this
  refine ⟨this.1, fun i => ?_⟩
  rw [this.2 i]
  have e : v.toList.getD (i - off) undef = v.getD (i - off) undef := by
    simp [Array.getD_eq_getD_getElem?, List.getD_eq_getElem?_getD]
  rw [e]

/-- Lists of parts. -/
def PR (G : Gh) (l : List (Nat × AV)) (m : List (Nat × Value)) : Prop :=
  l.length = m.length ∧ ∀ (k : Nat) (a : AV) (x : Value) (i j : Nat), l[k]? = some (i, a) → m[k]? = some (j, x) → i = j ∧ VR G a x

theorem lget_putCells (cs vs : List AV) (off k : Nat) (h : off + vs.length ≤ cs.length) :
    lget (putCells cs off vs) k = if off ≤ k ∧ k < off + vs.length then lget vs (k - off) else lget cs k := by
  unfold putCells lget
  simp only [List.getD_eq_getElem?_getD]
  by_cases h1 : k < off
  · rw [if_neg (by omega), List.append_assoc, List.getElem?_append_left (by simp; omega)]
    simp [h1]
  · by_cases h2 : k < off + vs.length
    · rw [if_pos ⟨by omega, h2⟩, List.getElem?_append_left (by simp; omega), List.getElem?_append_right (by simp; omega)]
      simp [show min off cs.length = off by omega]
    · rw [if_neg (by omega), List.getElem?_append_right (by simp; omega)]
      simp only [List.length_append, List.length_take, List.getElem?_drop]
      congr 2
      omega

theorem length_putCells (cs vs : List AV) (off : Nat) (h : off + vs.length ≤ cs.length) : (putCells cs off vs).length = cs.length := by
  unfold putCells
  simp; omega

theorem fill_ok {place : Nat → Option (Nat × Nat)} {l : List (Nat × AV)} : ∀ {m : List (Nat × Value)} {cs cs' : List AV} {cells : Array Value},
    PR G l m → cs.length = cells.size → (∀ k, k < cs.length → VR G (lget cs k) (cells.getD k undef)) → (∀ i off size, place i = some (off, size) → size ≠ 0) →
    eFill place cs l = some cs' → ∃ cells', Instr.fill place cells m = some cells' ∧ cs'.length = cells'.size ∧ ∀ k, k < cs'.length → VR G (lget cs' k) (cells'.getD k undef) := by
  induction l with
  | nil =>
    intro m cs cs' cells hP hl hv _ hr
    cases m with
    | nil => simp only [eFill, Option.some.injEq] at hr; subst hr; exact ⟨cells, rfl, hl, hv⟩
    | cons _ _ => exact absurd hP.1 (by simp)
  | cons p l ih =>
    intro m cs cs' cells hP hl hv hz hr
    cases m with
    | nil => exact absurd hP.1 (by simp)
    | cons q m =>
      obtain ⟨i, a⟩ := p
      obtain ⟨j, x⟩ := q
      obtain ⟨rfl, hx⟩ := hP.2 0 a x i j rfl rfl
      have hP' : PR G l m := ⟨by simpa using hP.1, fun k a x i j h1 h2 => hP.2 (k + 1) a x i j (by simpa using h1) (by simpa using h2)⟩
      simp only [eFill] at hr
      simp only [Instr.fill]
      split at hr
      · cases hr
      · rename_i off size hp
        split at hr
        · rename_i hc
          obtain ⟨hcl, hoff⟩ := hc
          rcases hx.cells with rfl | ⟨hxs, hxv⟩
          · simp [cellsOf] at hcl
            exact absurd hcl.symm (hz _ _ _ hp)
          · simp only [hp]
            rw [hcl] at hxs
            rw [if_neg (by simp [← hxs]; omega)]
            obtain ⟨f1, f2⟩ := foldl_set' x.cells cells off
            refine ih hP' ?_ ?_ hz hr
            · rw [length_putCells _ _ _ (by omega), hl]; exact f1.symm
            · intro k hk
              rw [length_putCells _ _ _ (by omega)] at hk
              rw [lget_putCells _ _ _ _ (by omega), f2]
              by_cases hkc : off ≤ k ∧ k < off + size
              · rw [if_pos ⟨hkc.1, by omega⟩, if_pos ⟨hkc.1, by omega, by omega⟩]
                exact hxv _ (by omega)
              · rw [if_neg (by omega), if_neg (by omega)]
                exact hv k hk
        · cases hr

/-- Elements of `sz` cells, laid one behind the other. -/
def RW (G : Gh) (sz : Nat) (es : List (List AV)) (cells : Array Value) : Prop :=
  es.length * sz ≤ cells.size ∧ (∀ i, i < es.length → (eget es i).length = sz) ∧ ∀ i k, i < es.length → k < sz → VR G (lget (eget es i) k) (cells.getD (i * sz + k) undef)

theorem eget_set (es : List (List AV)) (i j : Nat) (c : List AV) (hi : i < es.length) : eget (es.set i c) j = if j = i then c else eget es j := by
  simp only [eget, List.getD_eq_getElem?_getD]
  by_cases hj : j = i
  · subst hj; simp [hi]
  · simp [hj, Ne.symm hj]

theorem idx_inj {sz i j k l : Nat} (hk : k < sz) (hl : l < sz) (h : i * sz + k = j * sz + l) : i = j ∧ k = l := by
  have hi : i = j := by
    rcases Nat.lt_trichotomy i j with h1 | h1 | h1
    · have : (i + 1) * sz ≤ j * sz := Nat.mul_le_mul_right _ (by omega)
      rw [Nat.add_mul] at this; omega
    · exact h1
    · have : (j + 1) * sz ≤ i * sz := Nat.mul_le_mul_right _ (by omega)
      rw [Nat.add_mul] at this; omega
  subst hi
  exact ⟨rfl, by omega⟩

theorem idx_lt {sz i n k m : Nat} (hi : i < n) (hk : k < sz) (hn : n * sz ≤ m) : i * sz + k < m := by
  have : (i + 1) * sz ≤ n * sz := Nat.mul_le_mul_right _ (by omega)
  rw [Nat.add_mul] at this; omega

theorem RW.set {sz : Nat} {es : List (List AV)} {cells cells' : Array Value} (H : RW G sz es cells) {i : Nat} {c : List AV} (hi : i < es.length) (hc : c.length = sz)
    (hs : cells'.size = cells.size) (hnew : ∀ k, k < sz → VR G (lget c k) (cells'.getD (i * sz + k) undef))
    (hold : ∀ j k, j ≠ i → k < sz → j < es.length → cells'.getD (j * sz + k) undef = cells.getD (j * sz + k) undef) : RW G sz (es.set i c) cells' := by
  refine ⟨by simpa [hs] using H.1, fun j hj => ?_, fun j k hj hk => ?_⟩
  · simp at hj
    rw [eget_set _ _ _ _ hi]
    split
    · exact hc
    · exact H.2.1 j hj
  · simp at hj
    rw [eget_set _ _ _ _ hi]
    by_cases hji : j = i
    · subst hji; rw [if_pos rfl]; exact hnew k hk
    · rw [if_neg hji, hold j k hji hk hj]; exact H.2.2 j k hj hk

theorem fillRow_ok {sz : Nat} (h0 : 0 < sz) {l : List (Nat × AV)} : ∀ {m : List (Nat × Value)} {es es' : List (List AV)} {cells : Array Value},
    PR G l m → RW G sz es cells → eFillRow sz es l = some es' →
    ∃ cells', Instr.fill (fun i => some (i * sz, sz)) cells m = some cells' ∧ cells'.size = cells.size ∧ es'.length = es.length ∧ RW G sz es' cells' := by
  induction l with
  | nil =>
    intro m es es' cells hP hR hr
    cases m with
    | nil => simp only [eFillRow, Option.some.injEq] at hr; subst hr; exact ⟨cells, rfl, rfl, rfl, hR⟩
    | cons _ _ => exact absurd hP.1 (by simp)
  | cons p l ih =>
    intro m es es' cells hP hR hr
    cases m with
    | nil => exact absurd hP.1 (by simp)
    | cons q m =>
      obtain ⟨i, a⟩ := p
      obtain ⟨j, x⟩ := q
      obtain ⟨rfl, hx⟩ := hP.2 0 a x i j rfl rfl
      have hP' : PR G l m := ⟨by simpa using hP.1, fun k a x i j h1 h2 => hP.2 (k + 1) a x i j (by simpa using h1) (by simpa using h2)⟩
      simp only [eFillRow] at hr
      simp only [Instr.fill]
      split at hr
      · rename_i hc
        obtain ⟨hcl, hi⟩ := hc
        rcases hx.cells with rfl | ⟨hxs, hxv⟩
        · simp [cellsOf] at hcl; omega
        · rw [hcl] at hxs
          have hle : i * sz + sz ≤ cells.size := by
            have : (i + 1) * sz ≤ es.length * sz := Nat.mul_le_mul_right _ (by omega)
            rw [Nat.add_mul] at this; have := hR.1; omega
          rw [if_neg (by simp [← hxs]; omega)]
          obtain ⟨f1, f2⟩ := foldl_set' x.cells cells (i * sz)
          obtain ⟨cells', e1, e2, e3, e4⟩ := ih (cells := x.cells.zipIdx.foldl (fun cs (x : Value × Nat) => cs.setIfInBounds (i * sz + x.2) x.1) cells) hP'
            (hR.set hi hcl f1 (fun k hk => by
              rw [f2, if_pos ⟨by omega, by omega, by omega⟩]
              have := hxv k (by omega)
              rw [show i * sz + k - i * sz = k by omega]; exact this) (fun j k hj hk hjl => by
              rw [f2, if_neg]
              intro hcon
              have : j * sz + k = i * sz + (j * sz + k - i * sz) := by omega
              exact hj (idx_inj hk (by omega) this).1)) hr
          exact ⟨cells', e1, e2.trans f1, by rw [e3]; simp, e4⟩
      · cases hr

end
end Go.Abs

namespace Go.Abs
section
variable {P : Program} {w0 w : World} {G : Gh} {h : Heap}

theorem zero_ok {t : TypeId} {z : List AV} (hz : zeroCells P t = some z) : ∃ zv : Value, (∀ w, (zeroValue t).run P w = .ok zv w) ∧ z = zv.cells.toList.map .v ∧ (P.info? t).isSome = true := by
  unfold zeroCells at hz
  split at hz
  · rename_i i hi
    split at hz
    · rename_i zv hzv
      refine ⟨zv, fun w => ?_, by simpa using hz.symm, by simp [hi]⟩
      unfold zeroValue typeInfo
      simp [hi, hzv]
    · cases hz
  · cases hz

theorem zero_v (zs : Array Value) (k : Nat) (hk : k < zs.size) : VR G (lget (zs.toList.map AV.v) k) (zs.getD k undef) := by
  simp [lget, List.getD_eq_getElem?_getD, hk, Array.getD]
  exact .v _

theorem mapM_places (l : List Field) (w : World) (h : ∀ f ∈ l, (P.info? f.type).isSome = true) :
    (l.mapM fun f => do pure (f.offset, ← sizeOf f.type) : Sem (List (Nat × Nat))).run P w = .ok (l.map fun f => (f.offset, tSize P f.type)) w := by
  induction l with
  | nil => rfl
  | cons f l ih =>
    rw [List.mapM_cons]
    simp only [Sem.run_bind]
    rw [run_sizeOf' (h f (by simp))]
    simp only [Result.andThen_ok, Sem.run_pure]
    rw [ih fun g hg => h g (by simp [hg])]
    rfl

theorem PR.map {env : Env} {a : Act} (E : ER G env a.tmps) (ps : Array (Nat × Operand)) :
    PR G (ps.toList.map fun p => (p.1, ev env p.2)) (ps.map fun (i, x) => (i, a.eval x)).toList := by
  refine ⟨by simp, fun k b x i j h1 h2 => ?_⟩
  simp only [List.getElem?_map, Array.toList_map] at h1 h2
  cases hk : ps.toList[k]? with
  | none => simp [hk] at h1
  | some p =>
    rw [hk] at h1 h2
    simp only [Option.map_some, Option.some.injEq, Prod.mk.injEq] at h1 h2
    obtain ⟨rfl, rfl⟩ := h1
    obtain ⟨rfl, rfl⟩ := h2
    exact ⟨rfl, E.ev _⟩

theorem fill_sub {place place' : Nat → Option (Nat × Nat)} (hp : ∀ i p, place i = some p → place' i = some p) : ∀ {l : List (Nat × Value)} {cells r : Array Value}, Instr.fill place cells l = some r → Instr.fill place' cells l = some r := by
  intro l
  induction l with
  | nil => intro cells r h; exact h
  | cons q l ih =>
    intro cells r h
    obtain ⟨i, x⟩ := q
    simp only [Instr.fill] at *
    split at h
    · cases h
    · rename_i off size he
      rw [hp i _ he]
      simp only
      split at h
      · cases h
      · rename_i hc
        rw [if_neg hc]
        exact ih h

theorem build_ok {t : TypeId} {l : List (Nat × AV)} {m : Array (Nat × Value)} (hP : PR G l m.toList) {r : AV} (hr : eBuild P t l = some r)
    (w : World) : ∃ y, (Instr.build t m).run P w = .ok y w ∧ VR G r y := by
  unfold eBuild at hr
  split at hr
  · rename_i z places htab
    unfold eBuildL at hr
    split at hr
    · rename_i cs hf
      cases hr
      unfold buildTab at htab
      split at htab
      · rename_i z' fs hz hfs
        cases hb : (fs.toList.all fun f => (P.info? f.type).isSome && !Nat.beq (tSize P f.type) 0) with
        | false => simp [hb] at htab
        | true =>
          simp only [hb, cond_true, Option.some.injEq, Prod.mk.injEq] at htab
          obtain ⟨rfl, rfl⟩ := htab
          obtain ⟨zv, hzr, rfl, hi⟩ := zero_ok hz
          have hall : ∀ f ∈ fs.toList, (P.info? f.type).isSome = true ∧ tSize P f.type ≠ 0 := by
            intro f hf
            have := List.all_eq_true.1 hb f hf
            simp only [Bool.and_eq_true] at this
            refine ⟨this.1, fun h0 => ?_⟩
            have h2 := this.2
            rw [h0] at h2
            cases h2
          obtain ⟨cells', e1, e2, e3⟩ := fill_ok (cells := zv.cells) hP (by simp) (fun k hk => zero_v _ k (by simpa using hk)) (fun i off size hp => by
            simp only [List.getElem?_map] at hp
            cases hfi : fs.toList[i]? with
            | none => simp [hfi] at hp
            | some f =>
              simp [hfi] at hp
              have := (hall f (List.mem_of_getElem? hfi)).2
              omega) hf
          refine ⟨.agg cells', ?_, .agg _ _ e2 e3⟩
          unfold Instr.build
          rw [Sem.run_bind, hzr, Result.andThen_ok, Sem.run_bind, run_underlying' hfs, Result.andThen_ok]
          simp only
          have hm : (fs.mapM fun f => do pure (f.offset, ← sizeOf f.type) : Sem (Array (Nat × Nat))).run P w = .ok (fs.map fun f => (f.offset, tSize P f.type)) w := by
            rw [Array.mapM_eq_mapM_toList]
            rw [Sem.run_map, mapM_places _ _ (fun f hf => (hall f hf).1)]
            simp only [Result.andThen_ok]
            congr 1
            apply Array.ext'
            simp
          rw [Sem.run_bind, hm, Result.andThen_ok]
          have hp : (fun (i : Nat) => (fs.map fun f => (f.offset, tSize P f.type))[i]?) = fun (i : Nat) => (fs.toList.map fun f => (f.offset, tSize P f.type))[i]? := by
            funext i
            simp
          rw [hp, e1]
          rfl
      · rename_i z' n e hz he
        cases hb : ((P.info? e).isSome && !Nat.beq (tSize P e) 0) with
        | false => simp [hb] at htab
        | true =>
          simp only [hb, cond_true, Option.some.injEq, Prod.mk.injEq] at htab
          obtain ⟨rfl, rfl⟩ := htab
          obtain ⟨zv, hzr, rfl, hi⟩ := zero_ok hz
          simp only [Bool.and_eq_true] at hb
          have hsz : tSize P e ≠ 0 := fun h0 => by
            have h2 := hb.2
            rw [h0] at h2
            cases h2
          obtain ⟨cells', e1, e2, e3⟩ := fill_ok (cells := zv.cells) hP (by simp) (fun k hk => zero_v _ k (by simpa using hk)) (fun i off size hp => by
            simp only [List.getElem?_map] at hp
            cases hri : (List.range n)[i]? with
            | none => simp [hri] at hp
            | some q => simp [hri] at hp; omega) hf
          refine ⟨.agg cells', ?_, .agg _ _ e2 e3⟩
          unfold Instr.build
          rw [Sem.run_bind, hzr, Result.andThen_ok, Sem.run_bind, run_underlying' he, Result.andThen_ok]
          simp only
          rw [Sem.run_bind, run_sizeOf' hb.1, Result.andThen_ok]
          have e2' := fill_sub (place' := fun i => some (i * tSize P e, tSize P e)) (fun i p hp => by
            simp only [List.getElem?_map] at hp
            cases hri : (List.range n)[i]? with
            | none => simp [hri] at hp
            | some q =>
              have : q = i := by
                have := List.getElem?_eq_some_iff.1 hri
                obtain ⟨h1, h2⟩ := this
                simp at h2
                exact h2.symm
              subst this
              simpa [hri] using hp) e1
          rw [e2']
          rfl
      · cases htab
    · cases hr
  · cases hr

/-- A row out of parts: what is made. -/
theorem row_ok {t e : TypeId} (ht : P.underlying t = some (.slice e)) {len : Nat} {l : List (Nat × AV)} {m : Array (Nat × Value)} (hP : PR G l m.toList) {sz : Nat} {zl : List AV} {es : List (List AV)}
    (htab : rowTab P t len = some (sz, zl)) (hf : eFillRow sz (List.replicate len zl) l = some es) (w : World) : ∃ arr : Array Value, (Instr.buildSlice t len m).run P w = .ok (.slice (some ⟨w.heap.size, 0, none⟩) len len) (w.alloc (.cells arr e)) ∧
      RW G sz es arr ∧ es.length = len ∧ arr.size = len * sz ∧ sz = tSize P e ∧ 0 < sz := by
  unfold rowTab tSlice at htab
  rw [ht] at htab
  simp only at htab
  split at htab
  · rename_i z hz
    cases hb : (Nat.beq z.length (tSize P e) && Nat.ble (len * tSize P e) 16777216 && Nat.blt 0 (tSize P e)) with
    | false => simp [hb] at htab
    | true =>
        simp only [hb, cond_true, Option.some.injEq, Prod.mk.injEq] at htab
        obtain ⟨rfl, rfl⟩ := htab
        simp only [Bool.and_eq_true] at hb
        obtain ⟨⟨hb1, hb2⟩, hb3⟩ := hb
        have hzl := Nat.eq_of_beq_eq_true hb1
        have h24 : len * tSize P e ≤ 2 ^ 24 := Nat.le_of_ble_eq_true hb2
        have h0 : 0 < tSize P e := by
          unfold Nat.blt at hb3
          exact Nat.le_of_ble_eq_true hb3
        obtain ⟨zv, hzr, rfl, hi⟩ := zero_ok hz
        have hzs : zv.cells.size = tSize P e := by simpa using hzl
        let arr0 : Array Value := (Array.range (len * tSize P e)).map (zv.cells[· % zv.cells.size]!)
        have hR0 : RW G (tSize P e) (List.replicate len (zv.cells.toList.map AV.v)) arr0 := by
          refine ⟨by simp [arr0], fun i hi => ?_, fun i k hi hk => ?_⟩
          · simp at hi
            simp [eget, List.getD_eq_getElem?_getD, hi, hzs]
          · simp at hi
            have hlt : i * tSize P e + k < len * tSize P e := idx_lt hi hk (Nat.le_refl _)
            have e1 : eget (List.replicate len (zv.cells.toList.map AV.v)) i = zv.cells.toList.map AV.v := by
              simp [eget, List.getD_eq_getElem?_getD, hi]
            rw [e1]
            have e2 : arr0.getD (i * tSize P e + k) undef = zv.cells.getD k undef := by
              simp only [arr0, Array.getD, Array.size_map, Array.size_range, hlt, dif_pos]
              simp only [Array.getInternal_eq_getElem, Array.getElem_map, Array.getElem_range]
              have em : (i * tSize P e + k) % zv.cells.size = k := by rw [hzs, Nat.mul_add_mod_self_right, Nat.mod_eq_of_lt hk]
              have hk' : k < zv.cells.size := by omega
              simp only [em, hk', dif_pos]
              simp [hk']
            rw [e2]
            exact zero_v _ _ (by omega)
        obtain ⟨arr, a1, a2, a3, a4⟩ := fillRow_ok h0 hP hR0 hf
        refine ⟨arr, ?_, a4, by simpa using a3, by simpa [arr0] using a2, rfl, h0⟩
        unfold Instr.buildSlice
        rw [Sem.run_bind, run_underlying' ht, Result.andThen_ok]
        simp only
        rw [Sem.run_bind, run_sizeOf' hi, Result.andThen_ok, if_neg (by omega)]
        by_cases hl : len * tSize P e = 0
        · rw [if_pos hl]
          have e0 : arr0 = (Array.range (len * tSize P e)).map ((#[] : Array Value)[· % (#[] : Array Value).size]!) := by
            simp [arr0, hl]
          rw [e0] at a1
          simp only [Sem.run_bind, Sem.run_pure, Result.andThen_ok, a1]
          simp [newRow]
        · rw [if_neg hl]
          simp only [Sem.run_bind, hzr, Sem.run_pure, Result.andThen_ok]
          simp only [arr0] at a1
          rw [a1]
          simp [newRow]
  · cases htab

/-- What was made, if it's never written again. -/
theorem RW.imm {sz : Nat} {es : List (List AV)} {arr : Array Value} (R : RW G sz es arr) {G' : Gh} (hle : G.le G') {b : Nat} (hI : ∀ o, G'.I b o = arr[o]?) {cap : Nat} (hc : es.length ≤ cap) :
    VR G' (.imm sz es) (.slice (some ⟨b, 0, none⟩) es.length cap) :=
  .imm sz es b 0 cap hc R.2.1 (fun i k => arr.getD (i * sz + k) undef) (fun i k hi hk => by
    have hlt : i * sz + k < arr.size := idx_lt hi hk R.1
    rw [Nat.zero_add, hI]; simp [Array.getD, hlt]) (fun i k hi hk => (R.2.2 i k hi hk).mono hle)

theorem box_ok (H : WR w0 G h w) {e : TypeId} {a : AV} {x : Value} (hx : VR G a x) :
    ∃ y w' G', (Instr.box e x).run P w = .ok y w' ∧ G.le G' ∧ WR w0 G' h w' ∧ VR G' (.iptr (cellsOf a) 0) y := by
  refine ⟨.pointer (some ⟨w.heap.size, 0, none⟩), w.alloc (.cells x.cells e), G.addI w.heap.size (fun o => x.cells[o]?), by simp [Instr.box, newVar, newRow], H.le_addI _, H.alloc_imm _ _, ?_⟩
  rcases hx.cells with rfl | ⟨hl, hv⟩
  · exact .iptr [] 0 w.heap.size 0 (fun _ => undef) (fun k hk => absurd hk (by simp)) (fun k hk => absurd hk (by simp))
  · have := VR.iptr (G := G.addI w.heap.size (fun o => x.cells[o]?)) (cellsOf a) 0 w.heap.size 0 (fun k => x.cells.getD k undef)
      (fun k hk => by
        have hlt : k < x.cells.size := by omega
        simp [Gh.addI, Array.getD, hlt]) (fun k hk => (hv k hk).mono (H.le_addI _))
    simpa using this

theorem strBytes_ok (H : WR w0 G h w) {s d e : TypeId} (hs : P.underlying s = some .string) (hd : P.underlying d = some (.slice e)) (he : P.underlying e = some (.int .u8)) (b : ByteArray) :
    ∃ y w' G', (convert s d (.string b)).run P w = .ok y w' ∧ G.le G' ∧ WR w0 G' h w' ∧ VR G' (.imm 1 (byteCells b)) y := by
  have run := run_bytes_of_string w s d e b hs hd he
  have HD := H.drew (w.drawn + 1)
  refine ⟨_, _, _, run, HD.le_addI _, HD.alloc_immF (bytesRow b (grownCap w b.size 0 e)) e _, ?_⟩
  have hl : (byteCells b).length = b.size := by simp [byteCells]
  have hcap : b.size ≤ grownCap w b.size 0 e := by simp [grownCap, Question.cut]
  have hget : ∀ i, i < b.size → (bytesRow b (grownCap w b.size 0 e))[i]? = some (.int .u8 (b.data.toList.getD i 0).toNat) := by
    intro i hi
    have hi' : i < b.data.size := hi
    unfold bytesRow
    rw [Array.getElem?_append_left (by simpa using hi')]
    rw [Array.getElem?_map, Array.getElem?_eq_getElem hi', List.getD_eq_getElem?_getD, Array.getElem?_toList, Array.getElem?_eq_getElem hi']
    rfl
  have := VR.imm (G := G.addI w.heap.size (fun o => (bytesRow b (grownCap w b.size 0 e))[o]?)) 1 (byteCells b) w.heap.size 0 (grownCap w b.size 0 e) (by omega)
    (fun i hi => by
      have hi' : i < b.data.size := by rw [hl] at hi; exact hi
      simp only [eget, byteCells, List.getD_eq_getElem?_getD, List.getElem?_map, Array.getElem?_toList]
      rw [Array.getElem?_eq_getElem hi']
      rfl)
    (fun i _ => .int .u8 (b.data.toList.getD i 0).toNat) (fun i k hi hk => by
      have hk0 : k = 0 := by omega
      subst hk0
      simp only [Gh.addI, if_true, Nat.zero_add, Nat.mul_one, Nat.add_zero]
      exact hget i (by omega)) (fun i k hi hk => by
      have hk0 : k = 0 := by omega
      subst hk0
      have hi' : i < b.data.size := by rw [hl] at hi; exact hi
      simp only [eget, byteCells, lget, List.getD_eq_getElem?_getD, List.getElem?_map, Array.getElem?_toList]
      rw [Array.getElem?_eq_getElem hi']
      exact .v _)
  rw [hl] at this
  exact this

end
end Go.Abs

namespace Go.Abs
section
variable {P : Program} {w0 w : World} {G : Gh} {h : Heap}

theorem scalar_check {kt : TypeId} {d : TypeDesc} (hd : P.underlying kt = some d) (hs : scalarKey d = true) (e : Bool) (k : Value) (w : World) : (Instr.checkKey e 10000 kt k).run P w = .ok () w := by
  rw [show (10000 : Nat) = 9999 + 1 from rfl]
  unfold Instr.checkKey
  rw [Sem.run_bind, run_underlying' hd, Result.andThen_ok]
  cases d <;> simp [scalarKey] at hs <;> cases k <;> rfl

theorem mapFind_ok {kind : TypeDesc} {k : Value} : ∀ {es : List (Value × AV)} {ents : List MapEntry} {i : Nat}, es.length = ents.length →
    (∀ j, j < es.length → (ents.getD j default).key = (es.getD j default).1 ∧ VR G (es.getD j default).2 (ents.getD j default).val) → ∀ {r}, mapFind kind k es i = some r →
    (r = none ∧ Instr.findNow kind k ents i = some none) ∨
    (∃ j v y, r = some (j, v) ∧ Instr.findNow kind k ents i = some (some (j, y)) ∧ VR G v y ∧ i ≤ j ∧ j < i + es.length ∧ (es.getD (j - i) default).2 = v ∧ Instr.sameNow kind k (es.getD (j - i) default).1 = some true) := by
  intro es
  induction es with
  | nil =>
    intro ents i hl _ r hr
    cases ents with
    | nil => simp only [mapFind, Option.some.injEq] at hr; exact .inl ⟨hr.symm, rfl⟩
    | cons _ _ => simp at hl
  | cons p es ih =>
    intro ents i hl hv r hr
    cases ents with
    | nil => simp at hl
    | cons e ents =>
      obtain ⟨q, v⟩ := p
      have h0 := hv 0 (by simp)
      simp at h0
      obtain ⟨hk, hval⟩ := h0
      simp only [mapFind] at hr
      simp only [Instr.findNow]
      rw [hk]
      split at hr
      · rename_i hs
        rw [hs]
        cases hr
        exact .inr ⟨i, v, e.val, rfl, rfl, hval, Nat.le_refl _, by simp, by simp, by simpa using hs⟩
      · rename_i hs
        rw [hs]
        simp only
        rcases ih (by simpa using hl) (fun j hj => by have := hv (j + 1) (by simp; omega); simpa using this) hr with ⟨h1, h2⟩ | ⟨j, v', y, h1, h2, h3, h4, h5, h6, h7⟩
        · exact .inl ⟨h1, h2⟩
        · have e1 : j - i = (j - (i + 1)) + 1 := by omega
          refine .inr ⟨j, v', y, h1, h2, h3, by omega, by simp; omega, ?_, ?_⟩
          · rw [e1]; simpa using h6
          · rw [e1]; simpa using h7
      · cases hr

theorem findKey_ok {kt : TypeId} {d : TypeDesc} (hd : P.underlying kt = some d) {k : Value} {ents : List MapEntry} {r : Option (Nat × Value)} (hf : Instr.findNow d k ents 0 = some r) (w : World) :
    (Instr.findKey kt k ents).run P w = .ok r w := by
  unfold Instr.findKey
  rw [Sem.run_bind, run_underlying' hd, Result.andThen_ok, hf]
  rfl

theorem mapTypes_eq {t : TypeId} {kind : TypeDesc} {zero : AV} (hm : mapTypes P t = some (kind, zero)) :
    ∃ kt vt z, P.underlying t = some (.map kt vt) ∧ P.underlying kt = some kind ∧ scalarKey kind = true ∧ zero = ofV z ∧ ∀ w, (zeroValue vt).run P w = .ok z w := by
  unfold mapTypes at hm
  split at hm
  · rename_i kt vt hu
    split at hm
    · rename_i d i hd hi
      split at hm
      · rename_i z hz
        cases hs : scalarKey d with
        | false => simp [hs] at hm
        | true =>
          simp only [hs, cond_true, Option.some.injEq, Prod.mk.injEq] at hm
          obtain ⟨rfl, rfl⟩ := hm
          exact ⟨kt, vt, z, hu, hd, hs, rfl, fun w => by unfold zeroValue typeInfo; simp [hi, hz]⟩
      · cases hm
    · cases hm
  · cases hm

theorem lookup_ok (H : WR w0 G h w) {t : TypeId} {kind : TypeDesc} {zero : AV} (hm : mapTypes P t = some (kind, zero)) {ok : Bool} {m k r : AV} {x y : Value} (hx : VR G m x) (hy : VR G k y)
    (hr : eLookup kind zero ok m k h = some r) : ∃ z, (Instr.lookup t x y ok).run P w = .ok z w ∧ VR G r z := by
  obtain ⟨kt, vt, zv, hu, hk, hs, rfl, hz⟩ := mapTypes_eq hm
  unfold eLookup at hr
  split at hr
  · rename_i key
    obtain rfl : key = y := by cases hy; rfl
    clear hy
    split at hr
    · rename_i es hes
      have fin : ∀ (ents : Array MapEntry), (∀ (f : Value × Bool), (match Instr.findNow kind key ents.toList 0 with
            | some (some (_, v)) => some (v, true) = some f
            | some none => some (zv, false) = some f
            | none => False) → (Instr.lookup t x (key) ok).run P w = .ok (if ok = true then .tuple #[f.1, .bool f.2] else f.1) w) → es.length = ents.toList.length →
          (∀ j, j < es.length → (ents.toList.getD j default).key = (es.getD j default).1 ∧ VR G (es.getD j default).2 (ents.toList.getD j default).val) →
          ∃ z, (Instr.lookup t x key ok).run P w = .ok z w ∧ VR G r z := by
        intro ents hrun hl hv
        have tupv : ∀ {v : AV} {y : Value} {b : Bool}, VR G v y → VR G (bif ok then .tup [v, .v (.bool b)] else v) (if ok = true then .tuple #[y, .bool b] else y) := by
          intro v y b h3
          cases ok
          · exact h3
          · refine .tup _ _ rfl fun i hi => ?_
            rcases i with _ | _ | i
            · exact h3
            · exact .v _
            · simp at hi; omega
        split at hr
        · rename_i j v hf
          cases hr
          rcases mapFind_ok hl hv hf with ⟨h1, _⟩ | ⟨j', v', y, h1, h2, h3, _⟩
          · cases h1
          · cases h1
            exact ⟨_, hrun (y, true) (by rw [h2]), tupv h3⟩
        · rename_i hf
          cases hr
          rcases mapFind_ok hl hv hf with ⟨_, h2⟩ | ⟨j', v', y, h1, _⟩
          · exact ⟨_, hrun (zv, false) (by rw [h2]), tupv (.ofV G zv)⟩
          · cases h1
        · cases hr
      have shape : ∀ (ents : Array MapEntry) (f : Value × Bool), (match Instr.findNow kind key ents.toList 0 with
            | some (some (_, v)) => some (v, true) = some f
            | some none => some (zv, false) = some f
            | none => False) → ((x = .map none ∧ ents = #[]) ∨ ∃ id clock, x = .map (some id) ∧ w.heap[id]? = some (.map ents clock)) →
            (Instr.lookup t x key ok).run P w = .ok (if ok = true then .tuple #[f.1, .bool f.2] else f.1) w := by
        intro ents f hf hx'
        have hget : ∀ id clock, w.heap[id]? = some (.map ents clock) → (getObj id).run P w = .ok (.map ents clock) w := by
          intro id clock hb
          simp only [getObj, Sem.run, hb]
        cases hfn : Instr.findNow kind key ents.toList 0 with
        | none => simp [hfn] at hf
        | some q =>
          have hk' := findKey_ok hk hfn w
          rcases q with _ | ⟨j, y⟩
          · simp only [hfn, Option.some.injEq] at hf
            subst hf
            rcases hx' with ⟨rfl, rfl⟩ | ⟨id, clock, rfl, hb⟩
            · simp at hk'
              simp [Instr.lookup, run_underlying' hu, scalar_check hk hs, hk', hz]
            · simp [Instr.lookup, run_underlying' hu, scalar_check hk hs, hk', hz, hget id clock hb]
          · simp only [hfn, Option.some.injEq] at hf
            subst hf
            rcases hx' with ⟨rfl, rfl⟩ | ⟨id, clock, rfl, hb⟩
            · simp at hk'
              simp [Instr.lookup, run_underlying' hu, scalar_check hk hs, hk']
            · simp [Instr.lookup, run_underlying' hu, scalar_check hk hs, hk', hget id clock hb]
      split at hes
      · cases hes; cases hx
        exact fin #[] (fun f hf => shape #[] f hf (.inl ⟨rfl, rfl⟩)) rfl (fun j hj => absurd hj (by simp))
      · rename_i id
        split at hes
        · rename_i es' he
          cases hes; cases hx
          obtain ⟨ents, clock, hb, hl, hv⟩ := H.obj id _ he
          refine fin ents (fun f hf => shape ents f hf (.inr ⟨id, clock, rfl, hb⟩)) (by simpa using hl) fun j hj => ?_
          have := hv j hj
          simpa [Array.getD_eq_getD_getElem?, List.getD_eq_getElem?_getD] using this
        · cases hes
      · cases hes
    · cases hr
  · cases hr

end
end Go.Abs
