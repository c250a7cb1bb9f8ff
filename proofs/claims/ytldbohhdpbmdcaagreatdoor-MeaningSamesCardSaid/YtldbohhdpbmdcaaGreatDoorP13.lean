/- By an AI agent. Part of the proof: an abstract machine over the model, an evaluator over it, and contracts. Texts: MsE, MsF, MsG. -/
import Derived.Test.YtldbohhdpbmdcaaGreatDoorP10
import Derived.Test.YtldbohhdpbmdcaaGreatDoorP12
import Derived.Shelf.Abstract
import Derived.WalkKit
import Derived.ProofKit
import Derived.OpenShut
import Derived.Carry
import Derived.Deep.DeepHandedRow
import Derived.Test.YtldbohhdpbmdcaaGreatDoorCards
import Derived.Test.YtldbohhdpbmdcaaGreatDoorTie
import Derived.Lib.LaidTab

namespace Go.Proofs.YtldbohhdpbmdcaaGreatDoor
open Go Go.Abs

def plainNames (P : Program) : Bool := P.funcs.toList.all fun fn => fn.body.isNone || !(fn.name == "runtime.NumGoroutine")
theorem plain_names : plainNames Tryz.prog = true := by kernel_rfl

theorem enters_all : Abs.Enters Tryz.prog := by
  intro f fn c hf hb xs w
  refine Go.Proofs.enters_of hf ?_ hb xs w
  have h := plain_names
  unfold plainNames at h
  have := List.all_eq_true.1 h fn (by obtain ⟨hlt, rfl⟩ := Array.getElem?_eq_some_iff.1 hf; simp)
  simpa [hb] using this

theorem c_knows (h : Heap) : APure PP 4 [] (Abs.bool true) h :=
  runY_ok follows enters_all ms_WOK (has := fun a ha => by cases ha) knows_run h

theorem ms_pure (l m : List Int) (e f : Int) (hl : l.length ≤ 9223372036854775807) (h : Heap) : APure PP 3 [eO l e, eO m f] (Abs.bool true) h := c_law c_knows l m e f hl h
end Go.Proofs.YtldbohhdpbmdcaaGreatDoor

namespace Go.Proofs.YtldbohhdpbmdcaaGreatDoor
open Go Go.Abs Go.ChangeShapes Go.WideShapes Go.ChangeAt Go.RowKit

/-- All cells of a world, as they are. -/
def ghostOf (W : World) : Gh := { I := fun b o => W.cell? ⟨b, o, none⟩, Z := fun _ => none }

theorem wr_start (W : World) : WR W (ghostOf W) Heap.empty W where
  imm _ _ _ e := e
  siz _ _ e := by cases e
  obj _ _ e := by cases e
  sep _ _ _ e := by cases e
  lo _ _ e := by cases e
  old _ _ := rfl
  size := Nat.le_refl _
  os := rfl
  output := rfl

theorem kept_of_wr {W w' : World} {G : Gh} {h : Heap} (H : WR W G h w') (may : MemPlace → Prop) : W.keptBut w' may := by
  refine ⟨H.os, H.output, fun i hi => ?_⟩
  rw [H.old i hi]
  cases W.heap[i]? with
  | none => rfl
  | some o =>
    cases o with
    | cells c t fr => exact ⟨rfl, rfl, rfl, fun _ _ => rfl⟩
    | map es clock => exact .inr ⟨rfl, rfl⟩
    | _ => rfl

theorem sameAt_of_wr {W w' : World} {G : Gh} {h : Heap} (H : WR W G h w') {p : MemPlace} (hp : p.block < W.heap.size) : W.sameAt w' p := by
  cases p with
  | cell b off => exact World.cell?_of_block (H.old b hp)
  | map b => exact H.old b hp

/-- A pure call, from the world's side. -/
theorem calls_of_pure {f : FuncId} {xs : List AV} {r : AV} (hp : APure PP f xs r Heap.empty) {W : World} {ys : Array Value} (hx : VRs (ghostOf W) xs ys) :
    Calls PP f ys W fun e w' => ∃ v G, e = .returned v ∧ VR G r v ∧ ∃ h, WR W G h w' :=
  ((hp Heap.empty (.refl _)).2 W (ghostOf W) W ys (wr_start W) hx).mono fun _ _ ⟨v, r', h', G', e, _, wr, vr, hr, _⟩ => ⟨v, G', e, hr ▸ vr, h', wr⟩

theorem vr_ints {W : World} {s : Value} {l : List Int} (h : (s = .slice none 0 0 ∧ l = []) ∨ ∃ (a : Addr) (len cap : Nat) (zs : List Int), s = .slice (some a) len cap ∧ len ≤ cap ∧ len ≤ zs.length ∧ l = zs.take len ∧
    ∀ i, i < zs.length → W.cell? (a.add i) = some (.int .i64 (zs.getD i 0))) : VR (ghostOf W) (eI l) s := by
  rcases h with ⟨rfl, rfl⟩ | ⟨a, len, cap, zs, rfl, hcap, hlen, rfl, hc⟩
  · exact .immNil _ _ _
  · by_cases h0 : len = 0
    · subst h0; exact .immNil _ _ _
    · obtain ⟨b, off, rfl, hcell⟩ := ints_at hc (by omega)
      have hl : (ints (zs.take len)).length = len := by rw [ints_len]; simp; omega
      have hget : ∀ i, i < len → (zs.take len).getD i 0 = zs.getD i 0 := fun i hi => by simp [List.getD_eq_getElem?_getD, hi]
      have q := VR.imm (G := ghostOf W) 1 (ints (zs.take len)) b off cap (by omega) (fun i hi => by
          rw [hl] at hi
          rw [show eget (ints (zs.take len)) i = [int ((zs.take len).getD i 0)] from eget_mapInt _ i (by simp; omega)]
          rfl) (fun i _ => .int .i64 (zs.getD i 0)) (fun i k hi hk => by
          rw [hl] at hi
          obtain rfl : k = 0 := by omega
          have := hcell i (by omega)
          simpa [ghostOf] using this) (fun i k hi hk => by
          rw [hl] at hi
          obtain rfl : k = 0 := by omega
          rw [show eget (ints (zs.take len)) i = [int ((zs.take len).getD i 0)] from eget_mapInt _ i (by simp; omega), hget i hi]
          exact .v _)
      rw [hl] at q
      exact q

theorem cells_agg {v : Value} {x y : Value} (h : v.cells.toList = [x, y]) : v = .agg #[x, y] := by
  cases v with
  | agg xs =>
    have : xs.toList = [x, y] := h
    have e : xs = [x, y].toArray := by rw [← this]
    rw [e]
  | _ => simp [Value.cells] at h

set_option maxRecDepth 100000 in
/-- An outcome is read: what it is. -/
theorem open_outcome {H : Type} {enc : TypeId × Value → H} {W : World} {v : Value} {d : DataW H} {ps : List MemPlace} (h : DataW.Trod enc Tryz.prog W 0 (fun _ => true) true 24 v d ps) :
    ∃ (l : List Int) (e : Int), l.length ≤ 9223372036854775807 ∧ VR (ghostOf W) (eO l e) v := by
  obtain ⟨fuel, h⟩ := h
  obtain ⟨y0, y1, n, hx, hl, t0, t1⟩ := trod_struct2 Tryz.underlying24 h
  have c24 : Tryz.prog.cellsOf 24 = 2 := by kernel_rfl
  have c22 : Tryz.prog.cellsOf 22 = 1 := by kernel_rfl
  have c3 : Tryz.prog.cellsOf 3 = 1 := by kernel_rfl
  rw [c24] at hl
  generalize hcs : v.cells.toList = cs at hl t0 t1
  match cs, hl with
  | [x, y], _ =>
    rw [cells_agg hcs]
    have e0 : DataW.trod enc Tryz.prog W 0 (fun _ => true) true n 22 [x] = some y0 := by
      have := t0
      simp only [c22] at this
      exact this
    have e1 : DataW.trod enc Tryz.prog W 0 (fun _ => true) true n 3 [y] = some y1 := by
      have := t1
      simp only [c3] at this
      exact this
    obtain ⟨e, he, _, _⟩ := DataW.trod_int Tryz.underlying3 e1
    obtain rfl : y = .int .i64 e := by simpa using he
    have fin : ∀ l : List Int, l.length ≤ 9223372036854775807 → VR (ghostOf W) (eI l) x → ∃ (l : List Int) (e' : Int), l.length ≤ 9223372036854775807 ∧ VR (ghostOf W) (eO l e') (.agg #[x, .int .i64 e]) := by
      intro l hl hv
      refine ⟨l, e, hl, .agg _ _ rfl fun k hk => ?_⟩
      match k, hk with
      | 0, _ => exact hv
      | 1, _ => exact .v _
    rcases open_ints Tryz.underlying22 Tryz.underlying2 (by kernel_rfl) e0 with ⟨hs, _⟩ | ⟨a, len, cap, zs, hs, _, hlc, hcm, hzs, _, hc, _⟩
    · obtain rfl : x = .slice none 0 0 := by simpa using hs
      exact fin [] (by simp) (vr_ints (.inl ⟨rfl, rfl⟩))
    · obtain rfl : x = .slice (some a) len cap := by simpa using hs
      simp only [if_true] at hzs
      have hmax : Go.maxLen = 9223372036854775807 := by decide
      exact fin (zs.take len) (by simp; omega) (vr_ints (.inr ⟨a, len, cap, zs, rfl, hlc, by omega, rfl, hc⟩))
end Go.Proofs.YtldbohhdpbmdcaaGreatDoor

namespace Go.Proofs.YtldbohhdpbmdcaaGreatDoor
open Go Go.Abs Go.ChangeShapes Go.WideShapes Go.ChangeAt Go.RowKit

theorem trodAll_stays {H : Type} {enc : TypeId × Value → H} {P : Program} (hl : laidOutB P = true) {W W' : World} (hs : ∀ p : MemPlace, p.block < W.heap.size → W.sameAt W' p) :
    ∀ {ts : List TypeId} {vs : List Value} {ds : List (DataW H)} {ps : List MemPlace}, (∀ t ∈ ts, P.readableRec t = true ∧ t < P.types.size) → (∀ x ∈ ps, x.block < W.heap.size) →
      DataW.TrodAll enc P W 0 (fun _ => true) true ts vs ds ps → DataW.TrodAll enc P W' 0 (fun b => decide (b < W.heap.size)) true ts vs ds ps := by
  intro ts
  induction ts with
  | nil =>
    intro vs ds ps _ _ h
    cases vs <;> cases ds <;> first | exact h | exact h.elim
  | cons t ts ih =>
    intro vs ds ps ht hp h
    cases vs with
    | nil => exact h.elim
    | cons v vs =>
      cases ds with
      | nil => exact h.elim
      | cons d ds =>
        obtain ⟨p, q, h1, h2, rfl⟩ := h
        have hr := ht t (by simp)
        exact ⟨p, q, WideElems.Trod_stays hl hr.1 hr.2 h1 (fun x hx => hs x (hp x (by simp [hx]))) (fun x hx => by simpa using hp x (by simp [hx])), ih (fun t ht' => ht t (by simp [ht'])) (fun x hx => hp x (by simp [hx])) h2, rfl⟩

/-- A law's statement behind a pure call. -/
theorem post_of_wr {H : Type} {enc : TypeId × Value → H} {P : Program} (hl : laidOutB P = true) {f : Func} {s : ChangeSpec} {W W' : World} {G : Gh} {h : Heap} {args : Array Value} {v : Value} {ds gs : List (DataW H)} {before : List MemPlace}
    (hwr : WR W G h W') (hW : DataW.Whole enc P f.params.toList s.vars false W args.toList ds gs before) (hv : s.vars = []) (hr : ∀ t ∈ f.params.toList, P.readableRec t = true ∧ t < P.types.size)
    (hargs : (s.fn H (ds ++ gs)).args = ds) (hvars : (s.fn H (ds ++ gs)).vars = [])
    (hres : ∀ (b : Nat) (sp : Nat → Bool) (hd : Bool), DataW.TrodAll enc P W' b sp hd f.resultTypes.toList (v.resultList f.resultTypes.size) (s.fn H (ds ++ gs)).results []) : s.post enc P f false true false false W args v W' := by
  have hlt := fun x hx => hW.lt x hx
  have hW' := hW
  obtain ⟨p, q, hA, hV, hbe, hfz, hnd⟩ := hW
  rw [hv] at hV
  obtain ⟨hg, hq⟩ := trodVars_none hV
  have hbp : before = p := by rw [hbe, hq]; simp
  have hA' := trodAll_stays (enc := enc) hl (W' := W') (fun x hx => sameAt_of_wr hwr hx) hr (fun x hx => by
    have := hlt x (by rw [hbp]; exact hx)
    simpa using this) hA
  refine ⟨ds, gs, before, [], p, [], hW', hres _ _ _, by rw [hargs]; exact hA', by rw [hv, hvars]; rfl, kept_of_wr hwr _, fun e => by cases e⟩

theorem contract (H : Type) (enc : TypeId × Value → H) (W : World) (args : Array Value) (ds gs : List (DataW H)) (before : List MemPlace)
    (hW : DataW.Whole enc Tryz.prog Tryz.f3.params.toList Rows.meaningSamesSpec.vars false W args.toList ds gs before) :
    Calls Tryz.prog 3 args W fun e W' => ∃ v, e = .returned v ∧ Rows.meaningSamesSpec.post enc Tryz.prog Tryz.f3 false true false false W args v W' := by
  have hW' := hW
  obtain ⟨p, q, hA, hV, hbe, hfz, hnd⟩ := hW
  rw [Tryz.params3] at hA
  obtain ⟨v0, vs0, d0, ds0, p0, q0, hargs, hds, rfl, h0, r0⟩ := trodAll_cons hA
  obtain ⟨v1, vs1, d1, ds1, p1, q1, rfl, rfl, rfl, h1, r1⟩ := trodAll_cons r0
  obtain ⟨rfl, rfl, rfl⟩ := trodAll_nil r1
  obtain rfl : args = #[v0, v1] := by cases args; simp_all
  obtain ⟨l, e, hl, a0⟩ := open_outcome h0
  obtain ⟨m, f, hm, a1⟩ := open_outcome h1
  have hx : VRs (ghostOf W) [eO l e, eO m f] #[v0, v1] := ⟨rfl, fun k hk => by
    match k, hk with
    | 0, _ => exact a0
    | 1, _ => exact a1⟩
  refine (calls_of_pure (ms_pure l m e f hl Heap.empty) hx).mono ?_
  rintro e' W' ⟨v, G, rfl, hv, h, hwr⟩
  obtain rfl := vr_v hv
  obtain ⟨hg, hq⟩ := trodVars_none hV
  refine ⟨_, rfl, post_of_wr (by kernel_rfl) hwr hW' rfl ?_ ?_ ?_ ?_⟩
  · rw [Tryz.params3]
    intro t ht
    obtain rfl : t = 24 := by simpa using ht
    exact ⟨by kernel_rfl, of_decide_eq_true (by kernel_rfl)⟩
  · rw [hds, hg]; rfl
  · rw [hds, hg]; rfl
  · intro b sp hd
    rw [hds, hg]
    exact trodAll_cons_mk (shut_bool Tryz.underlying4 _) trodAll_mk0
end Go.Proofs.YtldbohhdpbmdcaaGreatDoor
