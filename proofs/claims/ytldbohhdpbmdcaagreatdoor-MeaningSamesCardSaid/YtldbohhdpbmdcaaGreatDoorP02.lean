/- By an AI agent. Part of the proof: an abstract machine over the model, an evaluator over it, and contracts. Texts: AbsI, AbsJ, AbsK, AbsL, AbsLM, AbsLN, AbsMM, AbsM, AbsN. -/
import Derived.Test.YtldbohhdpbmdcaaGreatDoorP01
import Derived.Laws.Append
import Derived.MapKept

namespace Go.Abs
section
variable {P : Program} {w0 w : World} {G : Gh} {h : Heap}

theorem ofPure (H : WR w0 G h w) {s : Sem Next} {x : Sem Value} (hs : ∀ w, s.run P w = (x.run P w).andThen fun v w' => .ok (.value v) w') {r : AV} (hx : ∃ y, x.run P w = .ok y w ∧ VR G r y) :
    ∃ y w' G', s.run P w = .ok (.value y) w' ∧ G.le G' ∧ WR w0 G' h w' ∧ VR G' r y := by
  obtain ⟨y, e, v⟩ := hx
  exact ⟨y, w, G, by rw [hs, e]; rfl, .refl _, H, v⟩

theorem opt_ev {env : Env} {a : Act} (E : ER G env a.tmps) (x : Option Operand) :
    match x.map (ev env), x.map a.eval with | none, none => True | some a, some x => VR G a x | _, _ => False := by
  cases x with
  | none => trivial
  | some x => exact E.ev x

theorem evalOp_ok (H : WR w0 G h w) {env : Env} {a : Act} (E : ER G env a.tmps) {o : Oper} {r : AV} (hr : evalOp P o.op env h = some r) :
    ∃ y w' G', (execOp a.eval o).run P w = .ok (.value y) w' ∧ G.le G' ∧ WR w0 G' h w' ∧ VR G' r y := by
  obtain ⟨dst, op, type, pos, after, guard⟩ := o
  simp only at hr
  unfold evalOp at hr
  split at hr
  · cases hr; exact ⟨_, w, G, rfl, .refl _, H, E.ev _⟩
  · cases hr; exact ⟨_, w, G, rfl, .refl _, H, E.ev _⟩
  · -- pick
    rename_i c x y
    unfold ePick at hr
    split at hr
    · rename_i t ht
      cases hr
      have hc := E.ev c
      rw [ht] at hc
      generalize he : a.eval c = cv at hc
      cases hc
      refine ⟨if t then a.eval x else a.eval y, w, G, by simp [execOp, he, asBool], .refl _, H, ?_⟩
      cases t
      · exact E.ev y
      · exact E.ev x
    · cases hr
  · -- box
    rename_i e x
    cases hr
    obtain ⟨y, w', G', e1, e2, e3, e4⟩ := box_ok (P := P) H (e := e) (E.ev x)
    exact ⟨y, w', G', by simp [execOp, e1], e2, e3, e4⟩
  · -- build
    rename_i t ps
    exact ofPure H (x := Instr.build t (ps.map fun (i, x) => (i, a.eval x))) (fun w => Sem.run_bind P w _ _) (build_ok (PR.map E ps) hr w)
  · -- buildSlice
    rename_i t len ps
    split at hr
    · rename_i sz z htab
      unfold eImm at hr
      split at hr
      · rename_i es hf
        cases hr
        have ht : ∃ e, P.underlying t = some (.slice e) := by
          unfold rowTab tSlice at htab
          cases hu : P.underlying t with
          | none => simp [hu] at htab
          | some d => cases d <;> simp [hu] at htab; exact ⟨_, rfl⟩
        obtain ⟨e, ht⟩ := ht
        obtain ⟨arr, e1, e2, e3, e4, _⟩ := row_ok ht (PR.map E ps) htab hf w
        refine ⟨.slice (some ⟨w.heap.size, 0, none⟩) len len, w.alloc (.cells arr e), G.addI w.heap.size (fun o => arr[o]?), by simp [execOp, e1], H.le_addI (fun o => arr[o]?), H.alloc_imm arr e, ?_⟩
        have := e2.imm (G' := G.addI w.heap.size (fun o => arr[o]?)) (H.le_addI _) (b := w.heap.size) (fun o => by simp [Gh.addI]) (cap := len) (by omega)
        rw [e3] at this
        exact this
      · cases hr
    · cases hr
  · -- load
    rename_i t x
    split at hr
    · rename_i g hg
      split at hr
      · rename_i hi
        exact ofPure H (x := Instr.loadAt t (a.eval x)) (fun w => Sem.run_bind P w _ _) (load_ok H (E.ev x) hg hi hr)
      · cases hr
    · cases hr
  · -- nilCheck
    rename_i x
    refine ⟨a.eval x, w, G, ?_, .refl _, H, ?_⟩
    · have hx := E.ev x
      unfold eNil at hr
      split at hr
      · rename_i e; rw [e] at hx; generalize hv : a.eval x = xv at hx; cases hx; simp [execOp, hv]
      · rename_i e; rw [e] at hx; generalize hv : a.eval x = xv at hx; cases hx; simp [execOp, hv]
      · rename_i e; rw [e] at hx; generalize hv : a.eval x = xv at hx; cases hx; simp [execOp, hv]
      · cases hr
    · have hx := E.ev x
      unfold eNil at hr
      split at hr <;> cases hr <;> exact hx
  · -- binOp
    rename_i bop t x y yt
    obtain ⟨z, e1, e2⟩ := eBin_ok (P := P) (w := w) (t := t) (fun hb => by
      cases hu : P.underlying t with
      | none => simp [hu] at hb
      | some d => cases d <;> simp [hu] at hb; rfl) (E.ev x) (E.ev y) hr x y
    exact ofPure H (x := eqGuard bop t x y (a.eval x) (a.eval y) >>= fun _ => binOp bop t (a.eval x) (a.eval y)) (fun w => Sem.run_bind P w _ _) ⟨z, e1, e2⟩
  · -- unOp
    rename_i uop t x
    exact ofPure H (x := Op.unary uop (a.eval x)) (fun w => Sem.run_bind P w _ _) (eUn_ok (E.ev x) hr)
  · -- convert
    rename_i s d x
    split at hr
    · rename_i hb
      unfold eBytes at hr
      split at hr
      · rename_i b eb
        cases hr
        have hx := E.ev x
        rw [eb] at hx
        generalize hxv : a.eval x = xv at hx
        cases hx
        unfold tBytes at hb
        split at hb
        · rename_i el hs hd
          split at hb
          · rename_i he
            have hd' : P.underlying d = some (.slice el) := by
              unfold tSlice at hd
              cases hu : P.underlying d with
              | none => simp [hu] at hd
              | some dd => cases dd <;> simp [hu] at hd; rw [hd]
            obtain ⟨y, w', G', e1, e2, e3, e4⟩ := strBytes_ok (P := P) H hs hd' he b
            exact ⟨y, w', G', by simp [execOp, hxv, e1], e2, e3, e4⟩
          · cases hb
        · cases hb
      · cases hr
    split at hr
    · rename_i sd k hs hk
      refine ofPure H (x := convert s d (a.eval x)) (fun w => Sem.run_bind P w _ _) ?_
      have hx := E.ev x
      unfold eToInt at hr
      split at hr
      · rename_i j n e
        cases hr
        rw [e] at hx
        generalize a.eval x = xv at hx
        cases hx
        refine ⟨_, ?_, .v _⟩
        have hd : P.underlying d = some (.int k) := by
          unfold tInt at hk
          cases hu : P.underlying d with
          | none => simp [hu] at hk
          | some dd => cases dd <;> simp [hu] at hk; rw [hk]
        unfold convert
        rw [Sem.run_bind, run_underlying' hs, Result.andThen_ok, Sem.run_bind, run_underlying' hd, Result.andThen_ok]
        simp [Conv.intToInt]
      · cases hr
    · cases hr
  · -- makeFunc
    rename_i f fi ca
    cases hr
    refine ⟨.func (.func f) (fi.map a.eval) (ca.map a.eval), w, G, by simp [execOp, Instr.makeFunc], .refl _, H, ?_⟩
    refine .clo _ _ _ _ _ (by simp) (by simp) (fun k hk => ?_) (fun k hk => ?_)
    · simp at hk
      simp [lget, List.getD_eq_getElem?_getD, hk, Array.getD]
      exact E.ev _
    · simp at hk
      simp [lget, List.getD_eq_getElem?_getD, hk, Array.getD]
      exact E.ev _
  · -- slice
    rename_i t x lo hi
    refine ofPure H (x := Instr.sliceAt t (a.eval x) (lo.map a.eval) (hi.map a.eval) none) (fun w => Sem.run_bind P w _ _) ?_
    split at hr
    · rename_i hu
      exact slice_ok hu (.inl ⟨rfl, rfl⟩) (E.ev x) (opt_ev E lo) (opt_ev E hi) hr w
    · rename_i e hu
      split at hr
      · rename_i hi'
        exact slice_ok hu (.inr ⟨e, rfl, hi', rfl⟩) (E.ev x) (opt_ev E lo) (opt_ev E hi) hr w
      · cases hr
    · cases hr
  · -- fieldAddr
    rename_i s x f
    split at hr
    · rename_i off ho
      exact ofPure H (x := Instr.fieldAt s (a.eval x) f) (fun w => Sem.run_bind P w _ _) (fieldAddr_ok ho (E.ev x) hr w)
    · cases hr
  · -- field
    rename_i s x f
    refine ofPure H (x := Instr.field s (a.eval x) f) (fun w => Sem.run_bind P w _ _) ?_
    split at hr
    · rename_i fs hfs
      split at hr
      · rename_i fd hfd
        split at hr
        · rename_i g hg
          split at hr
          · rename_i hi
            exact field_ok hfs hfd hg hi (E.ev x) hr w
          · cases hr
        · cases hr
      · cases hr
    · cases hr
  · -- indexAddr
    rename_i t x i
    refine ofPure H (x := Instr.indexAt t (a.eval x) (a.eval i)) (fun w => Sem.run_bind P w _ _) ?_
    split at hr
    · rename_i e hu
      split at hr
      · rename_i hi; exact indexAddr_slice_ok H hu hi (E.ev x) (E.ev i) hr
      · cases hr
    · rename_i n e hu
      split at hr
      · rename_i hi; exact indexAddr_array_ok hu hi (E.ev x) (E.ev i) hr w
      · cases hr
    · cases hr
  · -- index
    rename_i t x i
    refine ofPure H (x := Instr.index t (a.eval x) (a.eval i)) (fun w => Sem.run_bind P w _ _) ?_
    split at hr
    · rename_i hu; exact index_str_ok hu (E.ev x) (E.ev i) hr w
    · rename_i n e hu
      split at hr
      · rename_i g hg
        split at hr
        · rename_i hc
          simp only [Bool.and_eq_true, Bool.or_eq_true, beq_iff_eq] at hc
          exact index_array_ok hu hg hc.1 hc.2 (E.ev x) (E.ev i) hr w
        · cases hr
      · cases hr
    · cases hr
  · -- extract
    rename_i t k
    exact ofPure H (x := Instr.extract (a.eval t) k) (fun w => Sem.run_bind P w _ _) (extract_ok (E.ev t) hr w)
  · -- lookup
    rename_i t m k ok
    split at hr
    · rename_i kind zero hm
      exact ofPure H (x := Instr.lookup t (a.eval m) (a.eval k) ok) (fun w => Sem.run_bind P w _ _) (lookup_ok H hm (E.ev m) (E.ev k) hr)
    · cases hr
  · -- len
    rename_i args argTypes
    split at hr
    · rename_i x t hx ht
      have hx' : args = #[x] := by apply Array.ext'; simpa using hx
      have ht' : argTypes = #[t] := by apply Array.ext'; simpa using ht
      subst hx' ht'
      have hv := E.ev x
      split at hr
      · rename_i e hu
        obtain ⟨y, e1, e2⟩ := len_ok hu hv hr w type
        exact ⟨y, w, G, by simp [execOp, resolve, invoke, builtin, e1], .refl _, H, e2⟩
      · rename_i hu
        obtain ⟨y, e1, e2⟩ := lenStr_ok hu hv hr w type
        exact ⟨y, w, G, by simp [execOp, resolve, invoke, builtin, e1], .refl _, H, e2⟩
      · cases hr
    · cases hr
  · -- min
    rename_i args argTypes
    split at hr
    · rename_i x y hx
      have hx' : args = #[x, y] := by apply Array.ext'; simpa using hx
      subst hx'
      unfold eMin at hr
      split at hr
      · rename_i k n k' n' e1 e2
        cases hr
        have v1 := E.ev x
        have v2 := E.ev y
        rw [e1] at v1; rw [e2] at v2
        generalize h1 : a.eval x = xv at v1
        generalize h2 : a.eval y = yv at v2
        cases v1; cases v2
        exact ⟨_, w, G, by simp [execOp, resolve, invoke, builtin, Builtin.min_, Builtin.min2, h1, h2], .refl _, H, .v _⟩
      · cases hr
    · cases hr
  · -- max
    rename_i args argTypes
    split at hr
    · rename_i x y hx
      have hx' : args = #[x, y] := by apply Array.ext'; simpa using hx
      subst hx'
      unfold eMax at hr
      split at hr
      · rename_i k n k' n' e1 e2
        cases hr
        have v1 := E.ev x
        have v2 := E.ev y
        rw [e1] at v1; rw [e2] at v2
        generalize h1 : a.eval x = xv at v1
        generalize h2 : a.eval y = yv at v2
        cases v1; cases v2
        exact ⟨_, w, G, by simp [execOp, resolve, invoke, builtin, Builtin.max_, Builtin.max2, h1, h2], .refl _, H, .v _⟩
      · cases hr
    · cases hr
  · cases hr

end
end Go.Abs

namespace Go.Abs
section
variable {P : Program} {w0 w : World} {G : Gh} {h : Heap}

theorem VR.one {a : AV} {x : Value} (hx : VR G a x) (ho : oneCell a = true) : x.oneCell' = true := by
  cases hx <;> first | rfl | (simp [oneCell] at ho; done) | (simpa [oneCell] using ho)

theorem heap_setCell {w : World} {id off : Nat} {arr : Array Value} {T : TypeId} {fz : Nat × Nat} (hb : w.heap[id]? = some (.cells arr T fz)) (v : Value) :
    (w.setCell ⟨id, off, none⟩ v).heap[id]? = some (.cells (arr.setIfInBounds off v) T fz) := by
  simp only [World.setCell, Array.getElem?_modify, if_true, hb, Option.map_some]
  obtain ⟨lo, hi⟩ := fz
  simp

theorem run_storeCells (vs : List Value) : ∀ (w : World) (id off i : Nat) (arr : Array Value) (T : TypeId), w.heap[id]? = some (.cells arr T (0, 0)) → (∀ v ∈ vs, v.oneCell' = true) →
    off + i + vs.length ≤ arr.size →
    ∃ w' arr', (storeCells ⟨id, off, none⟩ vs i).run P w = .ok () w' ∧ w'.heap[id]? = some (.cells arr' T (0, 0)) ∧ arr'.size = arr.size ∧
      (∀ j, arr'.getD j undef = if off + i ≤ j ∧ j < off + i + vs.length then vs.getD (j - (off + i)) undef else arr.getD j undef) ∧
      (∀ j, j ≠ id → w'.heap[j]? = w.heap[j]?) ∧ w'.heap.size = w.heap.size ∧ w'.os = w.os ∧ w'.output = w.output := by
  induction vs with
  | nil =>
    intro w id off i arr T hb _ _
    exact ⟨w, arr, rfl, hb, rfl, fun j => by simp; intro h1 h2; omega, fun _ _ => rfl, rfl, rfl, rfl⟩
  | cons v vs ih =>
    intro w id off i arr T hb hone hle
    simp only [List.length_cons] at hle
    have hb' := heap_setCell (off := off + i) hb v
    obtain ⟨w', arr', e1, e2, e3, e4, e5, e6, e7, e8⟩ := ih (w.setCell ⟨id, off + i, none⟩ v) id off (i + 1) _ T hb' (fun u hu => hone u (by simp [hu])) (by simp; omega)
    refine ⟨w', arr', ?_, e2, by simpa using e3, fun j => ?_, fun j hj => ?_, by simpa using e6, e7, e8⟩
    · have hc : w.cell? ⟨id, off + i, none⟩ = some (arr.getD (off + i) undef) := by
        rw [cell_of_row w id _ arr T _ hb]
        have : off + i < arr.size := by omega
        simp [Array.getD, this]
      have hf : w.frozen? ⟨id, off + i, none⟩ = false := frozen_of_row w id _ arr T hb
      simp only [storeCells, addr_add, Sem.run_bind]
      rw [run_store P w _ v .plain (hone v (by simp)), hc]
      simp only [hf, Bool.false_eq_true, if_false, Result.andThen_ok]
      exact e1
    · rw [e4]
      have hlt : off + i < arr.size := by omega
      by_cases hj : j = off + i
      · subst hj
        rw [if_neg (by omega), if_pos (by simp)]
        simp [Array.getD, hlt]
      · have hne : (arr.setIfInBounds (off + i) v).getD j undef = arr.getD j undef := by
          simp only [Array.getD, Array.size_setIfInBounds]
          split
          · rename_i hs
            rw [Array.getInternal_eq_getElem, Array.getInternal_eq_getElem, Array.getElem_setIfInBounds_ne _ (Ne.symm hj)]
          · rfl
        rw [hne]
        simp only [List.length_cons]
        by_cases hc : off + (i + 1) ≤ j ∧ j < off + (i + 1) + vs.length
        · rw [if_pos hc, if_pos (by omega)]
          have e : j - (off + i) = (j - (off + (i + 1))) + 1 := by omega
          rw [e]; rfl
        · rw [if_neg hc, if_neg (by omega)]
    · rw [e5 j hj]
      exact heap_setCell_other w _ j v (by simpa using hj)

def allOne (cs : List AV) : Bool := cs.all oneCell

def eStore (n : Nat) (a v : AV) (h : Heap) : Option Heap :=
  match a with
  | .ptr sz id i off => match h id with
    | some (.row sz' es) => if sz = sz' ∧ i < es.length ∧ off + n ≤ sz ∧ (cellsOf v).length = n ∧ allOne (cellsOf v) = true ∧ 0 < n then
        some (h.upd id (.row sz (es.set i (putCells (eget es i) off (cellsOf v)))))
      else none
    | _ => none
  | _ => none

theorem store_ok (H : WR w0 G h w) {a v : AV} {x y : Value} (hx : VR G a x) (hv : VR G v y) {t : TypeId} (hi : (P.info? t).isSome = true) {h' : Heap}
    (hr : eStore (tSize P t) a v h = some h') : ∃ w', (Instr.storeAt t x y).run P w = .ok () w' ∧ WR w0 G h' w' := by
  unfold eStore at hr
  split at hr
  · rename_i sz id i off
    split at hr
    · rename_i sz' es he
      split at hr
      · rename_i hc
        obtain ⟨rfl, hil, hoff, hcl, hone, h0⟩ := hc
        cases hr
        cases hx
        rcases hv.cells with rfl | ⟨hcs, hcv⟩
        · simp [cellsOf] at hcl; omega
        obtain ⟨arr, T, hb, hn, hZ, hl, hvv⟩ := H.obj id _ he
        have hle : i * sz + off + tSize P t ≤ arr.size := by
          have : (i + 1) * sz ≤ es.length * sz := Nat.mul_le_mul_right _ (by omega)
          rw [Nat.add_mul] at this; omega
        obtain ⟨w', arr', e1, e2, e3, e4, e5, e6, e7, e8⟩ := run_storeCells (P := P) y.cells.toList w id (i * sz + off) 0 arr T hb (fun u hu => by
          obtain ⟨k, hk, rfl⟩ := List.getElem_of_mem hu
          have hk' : k < (cellsOf v).length := by simp at hk; omega
          have := hcv k hk'
          have ho : oneCell (lget (cellsOf v) k) = true := by
            have hh := List.all_eq_true.1 hone ((cellsOf v)[k]) (List.getElem_mem hk')
            simpa [lget, List.getD_eq_getElem?_getD, hk'] using hh
          have h1 := this.one ho
          have hks : k < y.cells.size := by simpa using hk
          simpa [Array.getD, hks] using h1) (by simp; omega)
        refine ⟨w', ?_, ?_⟩
        · unfold Instr.storeAt storeVar
          simp only [Instr.sureAddr, Sem.run_bind, Sem.run_pure, Result.andThen_ok, run_sizeOf' hi]
          rw [if_neg (by omega)]
          exact e1
        · have hlen : (eget es i).length = sz := hl i hil
          refine H.write he hb e3 (by simpa using hn) (fun j hj => ?_) (fun j k hj hk => ?_) e2 e5 e6 e7 e8
          · simp at hj
            rw [eget_set _ _ _ _ hil]
            split
            · rw [length_putCells _ _ _ (by omega)]; exact hlen
            · exact hl j hj
          · simp at hj
            rw [eget_set _ _ _ _ hil, e4]
            by_cases hji : j = i
            · subst hji
              rw [if_pos rfl, lget_putCells _ _ _ _ (by omega)]
              by_cases hkc : off ≤ k ∧ k < off + (cellsOf v).length
              · rw [if_pos hkc, if_pos (by simp; omega)]
                have := hcv (k - off) (by omega)
                have e : j * sz + k - (j * sz + off + 0) = k - off := by omega
                rw [e]
                have e9 : y.cells.toList.getD (k - off) undef = y.cells.getD (k - off) undef := by
                  simp [Array.getD_eq_getD_getElem?, List.getD_eq_getElem?_getD]
                rw [e9]; exact this
              · rw [if_neg hkc, if_neg (by simp; omega)]
                exact hvv j k hj hk
            · rw [if_neg hji, if_neg]
              · exact hvv j k hj hk
              · intro hcon
                simp at hcon
                have hlt : j * sz + k - i * sz < sz := by omega
                have e : j * sz + k = i * sz + (j * sz + k - i * sz) := by omega
                exact hji (idx_inj hk hlt e).1
      · cases hr
    · cases hr
  · cases hr

theorem alloc_ok (H : WR w0 G h w) {t : TypeId} {z : List AV} (hz : zeroCells P t = some z) :
    ∃ w' G', (Instr.alloc t true (.tuple #[])).run P w = .ok (.pointer (some ⟨w.heap.size, 0, none⟩)) w' ∧ G.le G' ∧ WR w0 G' (h.upd w.heap.size (.row z.length [z])) w' ∧
      VR G' (.ptr z.length w.heap.size 0 0) (.pointer (some ⟨w.heap.size, 0, none⟩)) := by
  obtain ⟨zv, hzr, rfl, hi⟩ := zero_ok hz
  refine ⟨w.alloc (.cells zv.cells t), _, ?_, H.le_addZ zv.cells.size, ?_, ?_⟩
  · unfold Instr.alloc
    rw [Sem.run_bind, hzr, Result.andThen_ok]
    simp [newVar, newRow]
  · refine H.alloc_row _ _ _ _ (by simp) (fun i hi => ?_) (fun i k hi hk => ?_)
    · simp at hi; subst hi; simp [eget]
    · simp at hi; subst hi
      simp [eget] at hk ⊢
      simpa [Array.getD_eq_getD_getElem?] using zero_v (G := G) zv.cells k hk
  · simpa using VR.ptr (G := G.addZ w.heap.size zv.cells.size) (zv.cells.toList.map AV.v).length w.heap.size 0 0

theorem boxM_ok (H : WR w0 G h w) {t : TypeId} {a : AV} {x : Value} (hx : VR G a x) (ha : (cellsOf a).length ≠ 0) :
    ∃ w' G', (Instr.box t x).run P w = .ok (.pointer (some ⟨w.heap.size, 0, none⟩)) w' ∧ G.le G' ∧ WR w0 G' (h.upd w.heap.size (.row (cellsOf a).length [cellsOf a])) w' ∧
      VR G' (.ptr (cellsOf a).length w.heap.size 0 0) (.pointer (some ⟨w.heap.size, 0, none⟩)) := by
  rcases hx.cells with rfl | ⟨hl, hv⟩
  · simp [cellsOf] at ha
  refine ⟨w.alloc (.cells x.cells t), _, by simp [Instr.box, newVar, newRow], H.le_addZ x.cells.size, ?_, ?_⟩
  · refine H.alloc_row _ _ _ _ (by simp [hl]) (fun i hi => ?_) (fun i k hi hk => ?_)
    · simp at hi; subst hi; simp [eget]
    · simp at hi; subst hi
      simpa [eget] using hv k hk
  · simpa using VR.ptr (G := G.addZ w.heap.size x.cells.size) (cellsOf a).length w.heap.size 0 0

end
end Go.Abs

namespace Go.Abs

def undefAV : AV := .v undef

def elemsOf (sz : Nat) (x : AV) (h : Heap) : Option (List (List AV)) :=
  match x with
  | .imm sz' es => if sz = sz' then some es else none
  | .sl sz' id i len => match h id with
    | some (.row s es) => if sz = sz' ∧ s = sz ∧ i + len ≤ es.length then some ((es.drop i).take len) else none
    | _ => none
  | .v (.slice none 0 0) => some []
  | _ => none

def allOneR (es : List (List AV)) : Bool := es.all allOne

def most : Nat := 1073741824

def makeW0 (z : List AV) (bytes : Nat) (l c : AV) (h : Heap) (K : AV → Heap → Prop) : Prop :=
  match l, c with
  | .v (.int _ n), .v (.int _ m) => (0 ≤ n ∧ n ≤ m ∧ m ≤ (most : Int) ∧ bytes ≤ 65536) ∧
      ∀ id, h id = none → K (.sl z.length id 0 n.toNat) (h.upd id (.row z.length (List.replicate n.toNat z)))
  | _, _ => False

def makeW (z : List AV) (bytes : Nat) (l c : AV) (h : Heap) (K : AV → Heap → Prop) : Prop := Lock (makeW0 z bytes l c h K)

def appendW0 (sz bytes : Nat) (s x : AV) (h : Heap) (K : AV → Heap → Prop) : Prop :=
  match elemsOf sz x h with
  | none => False
  | some xs =>
    match s with
    | .v (.slice none 0 0) => (xs.length ≤ most ∧ 0 < bytes ∧ bytes ≤ 65536) ∧ (xs = [] → K (.v (.slice none 0 0)) h) ∧
        (xs ≠ [] → ∀ id, h id = none → K (.sl sz id 0 xs.length) (h.upd id (.row sz xs)))
    | .sl sz' id 0 len => match h id with
      | some (.row s' es) => (sz' = sz ∧ s' = sz ∧ len ≤ es.length ∧ len + xs.length ≤ most ∧ allOneR xs = true ∧ 0 < bytes ∧ bytes ≤ 65536) ∧
          ∀ id', (id' = id ∨ h id' = none) → K (.sl sz id' 0 (len + xs.length)) ((h.del id).upd id' (.row sz (es.take len ++ xs)))
      | _ => False
    | _ => False

def appendW (sz bytes : Nat) (s x : AV) (h : Heap) (K : AV → Heap → Prop) : Prop := Lock (appendW0 sz bytes s x h K)

/-- A list of the call's own that nobody will write any more. -/
def freezeW0 (sz : Nat) (x : AV) (h : Heap) (K : AV → Heap → Prop) : Prop :=
  match x with
  | .sl sz' id i len => match h id with
    | some (.row s es) => (sz' = sz ∧ s = sz ∧ i + len ≤ es.length) ∧ K (.imm sz ((es.drop i).take len)) (h.del id)
    | _ => False
  | .v (.slice none 0 0) => K (.imm sz []) h
  | .imm sz' es => K (.imm sz' es) h
  | _ => False

def freezeW (sz : Nat) (x : AV) (h : Heap) (K : AV → Heap → Prop) : Prop := Lock (freezeW0 sz x h K)

def copyW0 (sz : Nat) (d s : AV) (h : Heap) (K : AV → Heap → Prop) : Prop :=
  match d, elemsOf sz s h with
  | .sl sz' id i len, some xs => match h id with
    | some (.row s' es) => (sz' = sz ∧ s' = sz ∧ i + len ≤ es.length ∧ allOneR xs = true ∧ 0 < sz) ∧
        K (.v (.int .i64 (min xs.length len : Nat))) (h.upd id (.row sz (es.take i ++ xs.take len ++ es.drop (i + min xs.length len))))
    | _ => False
  | _, _ => False

def copyW (sz : Nat) (d s : AV) (h : Heap) (K : AV → Heap → Prop) : Prop := Lock (copyW0 sz d s h K)

def clearW0 (z : List AV) (x : AV) (h : Heap) (K : AV → Heap → Prop) : Prop :=
  match x with
  | .sl sz' id i len => match h id with
    | some (.row s' es) => (sz' = z.length ∧ s' = z.length ∧ i + len ≤ es.length ∧ allOne z = true ∧ 0 < z.length) ∧
        K (.tup []) (h.upd id (.row z.length (es.take i ++ List.replicate len z ++ es.drop (i + len))))
    | _ => False
  | .v (.slice none 0 0) => K (.tup []) h
  | _ => False

def clearW (z : List AV) (x : AV) (h : Heap) (K : AV → Heap → Prop) : Prop := Lock (clearW0 z x h K)

def mapPut (kind : TypeDesc) (k : Value) (v : AV) (es : List (Value × AV)) : Option (List (Value × AV)) :=
  match mapFind kind k es 0 with
  | some (some (i, _)) => some (es.set i (k, v))
  | some none => some (es ++ [(k, v)])
  | none => none

def mapSetW0 (kind : TypeDesc) (m k v : AV) (h : Heap) (K : AV → Heap → Prop) : Prop :=
  match m, k with
  | .map id, .v key => match h id with
    | some (.map es) => match mapPut kind key v es with
      | some es' => K undefAV (h.upd id (.map es'))
      | none => False
    | _ => False
  | _, _ => False

def rangeW0 (x : AV) (h : Heap) (K : AV → Heap → Prop) : Prop :=
  match x with
  | .v (.string s) => ∀ id, h id = none → K (.ptr 0 id 0 0) (h.upd id (.iter s 0))
  | _ => False
/-- A walk over a string begins. -/
def rangeW (x : AV) (h : Heap) (K : AV → Heap → Prop) : Prop := Lock (rangeW0 x h K)

def nextW0 (x : AV) (h : Heap) (K : AV → Heap → Prop) : Prop :=
  match x with
  | .ptr 0 id 0 0 => match h id with
    | some (.iter s pos) => if pos < s.size then K (.tup [.v (.bool true), .v (.int .i64 pos), .v (.int .i32 (Utf8.decode s pos).1)]) (h.upd id (.iter s (pos + (Utf8.decode s pos).2)))
      else K (.tup [.v (.bool false)]) h
    | _ => False
  | _ => False
def nextW (x : AV) (h : Heap) (K : AV → Heap → Prop) : Prop := Lock (nextW0 x h K)

def mapSetW (kind : TypeDesc) (m k v : AV) (h : Heap) (K : AV → Heap → Prop) : Prop := Lock (mapSetW0 kind m k v h K)

section
variable {P : Program} {w0 w : World} {G : Gh} {h : Heap}

theorem RW.replicate {z : List AV} {zv : Value} (hz : z = zv.cells.toList.map AV.v) (n : Nat) (arr : Array Value) (hs : n * z.length ≤ arr.size)
    (hv : ∀ j, j < n * z.length → arr.getD j undef = zv.cells.getD (j % z.length) undef) : RW G z.length (List.replicate n z) arr := by
  have hzs : zv.cells.size = z.length := by subst hz; simp
  refine ⟨by simpa using hs, fun i hi => ?_, fun i k hi hk => ?_⟩
  · simp at hi
    simp [eget, List.getD_eq_getElem?_getD, hi]
  · simp at hi
    have e1 : eget (List.replicate n z) i = z := by simp [eget, List.getD_eq_getElem?_getD, hi]
    rw [e1, hv _ (idx_lt hi hk (Nat.le_refl _)), Nat.mul_add_mod_self_right, Nat.mod_eq_of_lt hk]
    subst hz
    exact zero_v _ _ (by omega)

theorem wrap_id {n : Int} (h0 : 0 ≤ n) (h1 : n ≤ (most : Int)) : IntKind.i64.wrap n = n := by
  unfold most at h1
  have : n % 2 ^ 64 = n := Int.emod_eq_of_lt h0 (by omega)
  simp [IntKind.wrap, IntKind.bits, IntKind.signed]
  omega

theorem bytes_ok {t : TypeId} {i : TypeInfo} (hi : P.info? t = some i) (w : World) : (typeInfo t).run P w = .ok i w := by
  unfold typeInfo
  simp [hi]

theorem make_ok (H : WR w0 G h w) {t e : TypeId} (ht : P.underlying t = some (.slice e)) {z : List AV} (hz : zeroCells P e = some z) {i : TypeInfo} (hi : P.info? e = some i)
    (hzs : z.length = i.size) {l c : AV} {x y : Value} (hx : VR G l x) (hy : VR G c y) {K : AV → Heap → Prop} (hr : makeW z i.bytes l c h K) :
    ∃ v w' G' r h', (Instr.makeSlice t x y).run P w = .ok v w' ∧ G.le G' ∧ WR w0 G' h' w' ∧ VR G' r v ∧ K r h' := by
  simp only [makeW, Lock_eq] at hr
  unfold makeW0 at hr
  split at hr
  · rename_i k n k' m
    cases hx; cases hy
    obtain ⟨⟨h0, h1, h2, hb⟩, hK⟩ := hr
    obtain ⟨zv, hzr, hzl, _⟩ := zero_ok hz
    have hts : tSize P e = z.length := by simp [tSize, hi, hzs]
    let arr : Array Value := (Array.range (m.toNat * z.length)).map (zv.cells[· % zv.cells.size]!)
    have hzv : zv.cells.size = z.length := by rw [hzl]; simp
    have hrun : (Instr.makeSlice t (.int k n) (.int k' m)).run P w = .ok (.slice (some ⟨w.heap.size, 0, none⟩) n.toNat m.toNat) (w.alloc (.cells arr e)) := by
      unfold Instr.makeSlice
      rw [Sem.run_bind, run_underlying' ht, Result.andThen_ok]
      simp only [asInt, asIntOf, Sem.run_bind, Sem.run_pure, Result.andThen_ok, bytes_ok hi]
      rw [wrap_id h0 (by omega), wrap_id (by omega) h2]
      have hle : ¬ ((i.bytes : Int) * m > 2 ^ 48) := by
        have h3 : (i.bytes : Int) * m ≤ 65536 * (most : Int) := Int.mul_le_mul (by omega) h2 (by omega) (by omega)
        unfold most at h3
        omega
      have hm0 : ¬ m < 0 := by omega
      have hn0 : ¬ n < 0 := by omega
      have hnm : ¬ n > m := by omega
      simp only [hle, hm0, hn0, hnm, decide_false, Bool.or_self, Bool.false_eq_true, if_false]
      rw [Sem.run_bind, run_askRoom, Result.andThen_ok, Sem.run_bind, run_sizeOf' (by simp [hi]), Result.andThen_ok, hts]
      by_cases hn : m.toNat * z.length = 0
      · rw [if_pos hn]
        have ea : arr = (Array.range (m.toNat * z.length)).map ((#[] : Array Value)[· % (#[] : Array Value).size]!) := by
          apply Array.ext
          · simp [arr]
          · intro j h1 h2
            simp [arr, hn] at h1
        rw [ea]
        simp [newRow]
      · rw [if_neg hn]
        simp only [Sem.run_bind, hzr, Sem.run_pure, Result.andThen_ok]
        simp [newRow, arr]
    have hR : RW G z.length (List.replicate n.toNat z) arr := by
      refine RW.replicate hzl n.toNat arr ?_ fun j hj => ?_
      · simp [arr]; exact Nat.mul_le_mul_right _ (by omega)
      · have hlt : j < m.toNat * z.length := Nat.lt_of_lt_of_le hj (Nat.mul_le_mul_right _ (by omega))
        have hmod : j % z.length < zv.cells.size := by
          rw [hzv]
          apply Nat.mod_lt
          rcases Nat.eq_zero_or_pos z.length with hz0 | hz0
          · rw [hz0] at hlt; simp at hlt
          · exact hz0
        have e1 : arr.getD j undef = zv.cells[j % zv.cells.size]! := by
          simp only [arr, Array.getD, Array.size_map, Array.size_range, hlt, dif_pos, Array.getInternal_eq_getElem, Array.getElem_map, Array.getElem_range]
        rw [e1, hzv]
        simp [hmod]
    have hsz : arr.size = m.toNat * z.length := by simp [arr]
    refine ⟨_, _, _, _, _, hrun, H.le_addZ arr.size, H.alloc_row arr e z.length _ hR.1 hR.2.1 hR.2.2, ?_, hK w.heap.size H.fresh⟩
    exact .sl _ _ _ _ _ _ arr.size (by omega) (by simp [Gh.addZ]) (by rw [hsz, Nat.zero_add]; exact Nat.le_refl _) (.inr (by simp))
  · exact hr.elim

theorem loadCells_row {id o : Nat} {arr : Array Value} {T : TypeId} {fz : Nat × Nat} (hb : w.heap[id]? = some (.cells arr T fz)) (n : Nat) (hn : o + n ≤ arr.size) :
    (loadCells ⟨id, o, none⟩ n).run P w = .ok ((List.range n).map fun j => arr.getD (o + j) undef).toArray w := by
  refine run_loadCells w _ n _ fun j hj => ?_
  rw [addr_add, cell_of_row w id _ arr T _ hb]
  have : o + j < arr.size := by omega
  simp [Array.getD, this]

/-- A slice's elements, as the world holds them. -/
theorem elems_ok (H : WR w0 G h w) {sz : Nat} {a : AV} {x : Value} (hx : VR G a x) {xs : List (List AV)} (hr : elemsOf sz a h = some xs) :
    ∃ (arr : Array Value), (Builtin.lenOf x).run P w = .ok xs.length w ∧ (∀ n ≤ xs.length, ∀ w' : World, w'.heap = w.heap → (Builtin.firstCells sz n x).run P w' = .ok (arr.extract 0 (n * sz)) w') ∧ arr.size = xs.length * sz ∧ RW G sz xs arr := by
  unfold elemsOf at hr
  split at hr
  · rename_i sz' es
    split at hr
    · rename_i hs
      subst hs
      cases hr
      cases hx with
      | immNil _ a cap =>
        refine ⟨#[], rfl, fun n hn w' _ => ?_, by simp, ⟨by simp, fun i hi => absurd hi (by simp), fun i k hi => absurd hi (by simp)⟩⟩
        obtain rfl : n = 0 := by simpa using hn
        cases a <;> simp [Builtin.firstCells, loadCells, loadCellsFrom]
      | imm _ _ b o cap hcap hsz ys hI hv =>
        let arr : Array Value := ((List.range (xs.length * sz)).map fun j => ys (j / sz) (j % sz)).toArray
        have key : ∀ j, j < xs.length * sz → w.cell? ⟨b, o + j, none⟩ = some (ys (j / sz) (j % sz)) := by
          intro j hj
          have h0 : 0 < sz := by
            rcases Nat.eq_zero_or_pos sz with hz | hz
            · rw [hz] at hj; simp at hj
            · exact hz
          have h1 : j / sz < xs.length := by rw [Nat.div_lt_iff_lt_mul h0]; exact hj
          have := H.imm _ _ _ (hI (j / sz) (j % sz) h1 (Nat.mod_lt _ h0))
          have e : o + j / sz * sz + j % sz = o + j := by
            have := Nat.div_add_mod j sz
            rw [Nat.mul_comm] at this; omega
          rw [e] at this; exact this
        refine ⟨arr, rfl, fun n hn w' hw' => ?_, by simp [arr], ⟨by simp [arr], hsz, fun i k hi hk => ?_⟩⟩
        · unfold Builtin.firstCells
          have hle : n * sz ≤ xs.length * sz := Nat.mul_le_mul_right _ hn
          rw [run_loadCells w' _ (n * sz) (fun j => ys (j / sz) (j % sz)) fun j hj => by
            rw [addr_add]
            have := key j (by omega)
            unfold World.cell? at this ⊢
            rw [hw']; exact this]
          congr 1
          apply Array.ext
          · simp only [Array.size_extract, List.size_toArray, List.length_map, List.length_range, arr]; omega
          · intro i h1 h2
            simp [arr]
        · have hlt : i * sz + k < xs.length * sz := idx_lt hi hk (Nat.le_refl _)
          have e1 : (i * sz + k) / sz = i := by
            rw [Nat.add_comm, Nat.add_mul_div_right _ _ (by omega), Nat.div_eq_of_lt hk]; omega
          have e2 : (i * sz + k) % sz = k := by rw [Nat.mul_add_mod_self_right, Nat.mod_eq_of_lt hk]
          have : arr.getD (i * sz + k) undef = ys i k := by
            simp only [arr]
            rw [getD_range_map _ _ _ hlt, e1, e2]
          rw [this]; exact hv i k hi hk
    · cases hr
  · rename_i sz' id i len
    split at hr
    · rename_i s es he
      split at hr
      · rename_i hc
        obtain ⟨rfl, rfl, hle⟩ := hc
        cases hr
        cases hx with
        | sl _ _ _ _ o cap n hcap hZ hn ho =>
          obtain ⟨arr, T, hb, hnn, hZ', hl, hv⟩ := H.obj id _ he
          have hlen : ((es.drop i).take len).length = len := by simp; omega
          have hget : ∀ j, j < len → eget ((es.drop i).take len) j = eget es (i + j) := by
            intro j hj
            simp [eget, List.getD_eq_getElem?_getD, hj, List.getElem?_drop]
          let arr' : Array Value := ((List.range (len * s)).map fun j => arr.getD (i * s + j) undef).toArray
          have hfit : i * s + len * s ≤ arr.size := by
            have : (i + len) * s ≤ es.length * s := Nat.mul_le_mul_right _ hle
            rw [Nat.add_mul] at this; omega
          refine ⟨arr', by simp [Builtin.lenOf, hlen], fun m hm w' hw' => ?_, by simp [arr', hlen], ⟨by simp [arr', hlen], fun j hj => ?_, fun j k hj hk => ?_⟩⟩
          · rw [hlen] at hm
            unfold Builtin.firstCells
            have hle2 : m * s ≤ len * s := Nat.mul_le_mul_right _ hm
            rcases ho with ho | ho
            · have hm0 : m = 0 := by omega
              subst hm0
              simp [loadCells, loadCellsFrom]
            · subst ho
              rw [loadCells_row (w := w') (by rw [hw']; exact hb) _ (by omega)]
              congr 1
              apply Array.ext
              · simp only [Array.size_extract, List.size_toArray, List.length_map, List.length_range, arr']; omega
              · intro j h1 h2
                simp [arr']
          · rw [hlen] at hj; rw [hget j hj]; exact hl _ (by omega)
          · rw [hlen] at hj; rw [hget j hj]
            have hlt : j * s + k < len * s := idx_lt hj hk (Nat.le_refl _)
            have : arr'.getD (j * s + k) undef = arr.getD ((i + j) * s + k) undef := by
              simp only [arr']
              rw [getD_range_map _ _ _ hlt]
              congr 1
              rw [Nat.add_mul]; omega
            rw [this]
            exact hv _ _ (by omega) hk
      · cases hr
    · cases hr
  · cases hr
    cases hx
    refine ⟨#[], rfl, fun n hn w' _ => ?_, by simp, ⟨by simp, fun i hi => absurd hi (by simp), fun i k hi => absurd hi (by simp)⟩⟩
    simp [Builtin.firstCells]
  · cases hr

end
end Go.Abs

namespace Go.Abs
section
variable {P : Program} {w0 w : World} {G : Gh} {h : Heap}

theorem growBy_le (newLen r : Nat) : ∀ c, c < newLen + (newLen + 768) / 4 + 1 → Builtin.growBy newLen r c ≤ newLen + (newLen + 768) / 4 := by
  induction r with
  | zero => intro c hc; simp only [Builtin.growBy]; omega
  | succ r ih =>
    intro c hc
    simp only [Builtin.growBy]
    split
    · omega
    · apply ih; omega

theorem cap_le {need c : Nat} (h : ¬ need ≤ c) : Builtin.nextslicecap need c ≤ 2 * need + 1024 := by
  unfold Builtin.nextslicecap
  split
  · omega
  · split
    · omega
    · have := growBy_le need 4 c (by omega)
      omega

theorem zeroCells_size (z : Array Value) (n : Nat) : (Builtin.zeroCells z n).size = n * z.size := by simp [Builtin.zeroCells]

theorem extract_full (arr : Array Value) (n : Nat) (h : arr.size = n) : arr.extract 0 n = arr := by
  subst h; simp

theorem getD_append_left (a b : Array Value) (i : Nat) (h : i < a.size) : (a ++ b).getD i undef = a.getD i undef := by
  simp [Array.getD_eq_getD_getElem?, Array.getElem?_append_left h]

theorem getD_append_right (a b : Array Value) (i : Nat) (h : a.size ≤ i) : (a ++ b).getD i undef = b.getD (i - a.size) undef := by
  simp [Array.getD_eq_getD_getElem?, Array.getElem?_append_right h]

theorem eget_append_left {es xs : List (List AV)} {i : Nat} (h : i < es.length) : eget (es ++ xs) i = eget es i := by
  simp [eget, List.getD_eq_getElem?_getD, List.getElem?_append_left h]
theorem eget_append_right {es xs : List (List AV)} {i : Nat} (h : es.length ≤ i) : eget (es ++ xs) i = eget xs (i - es.length) := by
  simp [eget, List.getD_eq_getElem?_getD, List.getElem?_append_right h]

theorem RW.append {sz : Nat} {es xs : List (List AV)} {a b c : Array Value} (ha : RW G sz es a) (hb : RW G sz xs b) (hs : a.size = es.length * sz) (hsb : b.size = xs.length * sz) :
    RW G sz (es ++ xs) (a ++ b ++ c) := by
  refine ⟨by simp [hs, hsb, Nat.add_mul], fun i hi => ?_, fun i k hi hk => ?_⟩
  · rcases Nat.lt_or_ge i es.length with h | h
    · rw [eget_append_left h]; exact ha.2.1 i h
    · rw [eget_append_right h]; simp at hi; exact hb.2.1 _ (by omega)
  · rcases Nat.lt_or_ge i es.length with h | h
    · rw [eget_append_left h]
      have hlt : i * sz + k < a.size := idx_lt h hk ha.1
      rw [getD_append_left _ _ _ (by simp; omega), getD_append_left _ _ _ hlt]
      exact ha.2.2 i k h hk
    · rw [eget_append_right h]
      simp at hi
      have e : i * sz = es.length * sz + (i - es.length) * sz := by rw [← Nat.add_mul]; congr 1; omega
      have hlt : (i - es.length) * sz + k < b.size := idx_lt (by omega) hk hb.1
      rw [getD_append_left _ _ _ (by simp; omega), getD_append_right _ _ _ (by omega)]
      have e2 : i * sz + k - a.size = (i - es.length) * sz + k := by omega
      rw [e2]
      exact hb.2.2 _ _ (by omega) hk

theorem RW.mono {G' : Gh} (hG : G.le G') {sz : Nat} {es : List (List AV)} {a : Array Value} (h : RW G sz es a) : RW G' sz es a :=
  ⟨h.1, h.2.1, fun i k hi hk => (h.2.2 i k hi hk).mono hG⟩

theorem RW.ones {sz : Nat} {es : List (List AV)} {a : Array Value} (h : RW G sz es a) (hs : a.size = es.length * sz) (ho : allOneR es = true) (h0 : 0 < sz) : ∀ v ∈ a.toList, v.oneCell' = true := by
  intro v hv
  obtain ⟨j, hj, rfl⟩ := List.getElem_of_mem hv
  have hj' : j < es.length * sz := by simp at hj; omega
  have h1 : j / sz < es.length := by rw [Nat.div_lt_iff_lt_mul h0]; exact hj'
  have h2 := h.2.2 (j / sz) (j % sz) h1 (Nat.mod_lt _ h0)
  have e : j / sz * sz + j % sz = j := by
    have := Nat.div_add_mod j sz
    rw [Nat.mul_comm] at this; omega
  rw [e] at h2
  have hl := h.2.1 (j / sz) h1
  have hone : oneCell (lget (eget es (j / sz)) (j % sz)) = true := by
    have := List.all_eq_true.1 ho (es[j / sz]) (List.getElem_mem h1)
    have e3 : eget es (j / sz) = es[j / sz] := by simp [eget, List.getD_eq_getElem?_getD, h1]
    rw [e3] at hl ⊢
    have hlt : j % sz < (es[j / sz]).length := by rw [hl]; exact Nat.mod_lt _ h0
    have := List.all_eq_true.1 this ((es[j / sz])[j % sz]) (List.getElem_mem hlt)
    simpa [lget, List.getD_eq_getElem?_getD, hlt] using this
  have := h2.one hone
  have hsz : j < a.size := by simpa using hj
  simpa [Array.getD, hsz] using this

theorem del_upd_same (h : Heap) (id : Nat) (o : AObj) : (h.del id).upd id o = h.upd id o := by
  funext j; by_cases hj : j = id <;> simp [Heap.upd, Heap.del, hj]

theorem append_ok (H : WR w0 G h w) {sT xT : TypeId} {d : TypeDesc} {e : TypeId} (hs : P.underlying sT = some (.slice e)) (hxT : P.underlying xT = some d) (hd : ∀ k, d ≠ .int k)
    {i : TypeInfo} (hi : P.info? e = some i) {zl : List AV} (hz : zeroCells P e = some zl) (hzl : zl.length = i.size) (hsz : 0 < i.size) {s x : AV} {sv xv : Value} (hsv : VR G s sv) (hxv : VR G x xv) {K : AV → Heap → Prop}
    (hr : appendW i.size i.bytes s x h K) (T : TypeId) :
    ∃ v w' G' r h', (Builtin.append_ #[sT, xT] T #[sv, xv]).run P w = .ok v w' ∧ G.le G' ∧ WR w0 G' h' w' ∧ VR G' r v ∧ K r h' := by
  simp only [appendW, Lock_eq] at hr
  unfold appendW0 at hr
  split at hr
  · exact hr.elim
  rename_i xs hxs
  obtain ⟨xa, x1, x2, x3, x4⟩ := elems_ok (P := P) H hxv hxs
  obtain ⟨zv, hzr, hzv, _⟩ := zero_ok hz
  have hzc : zv.cells.size = i.size := by rw [← hzl, hzv]; simp
  have xfull : (Builtin.firstCells i.size xs.length xv).run P w = .ok xa w := by
    rw [x2 _ (Nat.le_refl _) w rfl, extract_full _ _ x3]
  have hnz : ∀ w, (underlying xT).run P w = .ok d w := fun w => run_underlying' hxT w
  have hR0 : RW G i.size ([] : List (List AV)) #[] := ⟨by simp, fun j hj => absurd hj (by simp), fun j k hj => absurd hj (by simp)⟩
  -- a new row
  have grown : ∀ (base : Option Addr) (len cap : Nat) (oa : Array Value) (es : List (List AV)), ¬ (len + xs.length ≤ cap) → len = es.length → len + xs.length ≤ most →
      0 < i.bytes → i.bytes ≤ 65536 → oa.size = es.length * i.size → RW G i.size es oa →
      (∀ w', w'.heap = w.heap → (Builtin.firstCells i.size len (.slice base len cap)).run P w' = .ok oa w') →
      ∃ (c : Nat) (arr : Array Value), (Builtin.append_ #[sT, xT] T #[.slice base len cap, xv]).run P w =
          .ok (.slice (some ⟨w.heap.size, 0, none⟩) (len + xs.length) c) (w.drew.alloc (.cells arr e)) ∧
        len + xs.length ≤ c ∧ arr.size = c * i.size ∧ RW G i.size (es ++ xs) arr := by
    intro base len cap oa es hroom hlen hmost hb0 hb1 hos hR hold
    have hcl := cap_le hroom
    have h48 : ¬ (281474976710656 < Builtin.nextslicecap (len + xs.length) cap * i.bytes) := by
      have : Builtin.nextslicecap (len + xs.length) cap * i.bytes ≤ (2 * (len + xs.length) + 1024) * 65536 := Nat.mul_le_mul hcl hb1
      unfold most at hmost; omega
    have h63 : ¬ (9223372036854775807 < ((len : Int) + (xs.length : Int))) := by unfold most at hmost; omega
    have hbz : ¬ (i.bytes = 0) := by omega
    have hq : (Question.appendCap (len + xs.length) cap e).forced = false := rfl
    have x2' : (Builtin.firstCells i.size xs.length xv).run P w.drew = .ok xa w.drew := by
      rw [x2 _ (Nat.le_refl _) w.drew rfl, extract_full _ _ x3]
    have hge : len + xs.length ≤ grownCap w (len + xs.length) cap e := by simp [grownCap, Question.cut]
    refine ⟨grownCap w (len + xs.length) cap e, oa ++ xa ++ Builtin.zeroCells zv.cells (grownCap w (len + xs.length) cap e - (len + xs.length)), ?_, hge, ?_, hR.append x4 hos x3⟩
    · simp [Builtin.append_, run_underlying' hs, hnz, sizeOf, typeInfo, hi, x1, hroom, hbz, h48, hq, hold w.drew rfl, x2', hzr, newRow, grownCap]
    · simp only [Array.size_append, zeroCells_size, hzc, hos, x3, ← hlen]
      rw [← Nat.add_mul, ← Nat.add_mul]
      congr 1
      omega
  split at hr
  · -- nil
    obtain ⟨⟨hmost, hb0, hb1⟩, hK0, hK1⟩ := hr
    cases hsv
    by_cases hx0 : xs = []
    · refine ⟨.slice none 0 0, w, G, .v (.slice none 0 0), h, ?_, .refl _, H, .v _, hK0 hx0⟩
      subst hx0
      have e0 : (Builtin.firstCells i.size 0 xv).run P w = .ok xa w := xfull
      simp [Builtin.append_, run_underlying' hs, hnz, sizeOf, typeInfo, hi, x1, e0]
    · have hpos : xs.length ≠ 0 := fun e => hx0 (List.eq_nil_of_length_eq_zero e)
      obtain ⟨c, arr, e1, e2, e3, e4⟩ := grown none 0 0 #[] [] (by omega) rfl (by omega) hb0 hb1 (by simp) hR0 (fun w' _ => by simp [Builtin.firstCells])
      simp only [Nat.zero_add, List.nil_append] at e1 e2 e4
      have HD := H.drew (w.drawn + 1)
      have HA := HD.alloc_row arr e i.size xs e4.1 e4.2.1 e4.2.2
      refine ⟨_, _, _, .sl i.size w.heap.size 0 xs.length, _, e1, HD.le_addZ arr.size, HA, ?_, hK1 hx0 w.heap.size H.fresh⟩
      exact .sl _ _ _ _ _ _ arr.size e2 (by simp [Gh.addZ]) (by rw [e3]; simp) (.inr (by simp))
  · -- an object
    rename_i sz' id len
    split at hr
    · rename_i s' es he
      obtain ⟨⟨rfl, rfl, hle, hmost, hone, hb0, hb1⟩, hK⟩ := hr
      cases hsv with
      | sl _ _ _ _ o cap n hcap hZ hn ho =>
        obtain ⟨arr, TT, hb, hnn, hZ', hl, hv⟩ := H.obj id _ he
        have hlt : (es.take len).length = len := by simp; omega
        have hget : ∀ j, j < len → eget (es.take len) j = eget es j := by
          intro j hj
          simp [eget, List.getD_eq_getElem?_getD, hj]
        have ho' : len = 0 ∨ o = 0 := by
          rcases ho with ho | ho
          · left; omega
          · right; simpa using ho
        by_cases hroom : len + xs.length ≤ cap
        · -- in place
          have hcs : cap * i.size ≤ arr.size := by
            have := hZ; rw [hZ'] at this; cases this; simpa using hn
          have hones := x4.ones x3 hone hsz
          have hx3 : xa.toList.length = xs.length * i.size := by simpa using x3
          by_cases hc0 : cap = 0
          · -- nothing at all
            have hx0 : xs.length = 0 := by omega
            have hl0 : len = 0 := by omega
            have hxa : xa.toList = [] := List.eq_nil_of_length_eq_zero (by rw [hx3, hx0]; simp)
            have hxs0 : xs = [] := List.eq_nil_of_length_eq_zero hx0
            subst hl0
            refine ⟨.slice (some ⟨id, o, none⟩) 0 cap, w, G, _, _, ?_, .refl _, ?_, ?_, hK id (.inl rfl)⟩
            · have e0 : (Builtin.firstCells i.size 0 xv).run P w = .ok xa w := by rw [← hx0]; exact xfull
              simp [Builtin.append_, run_underlying' hs, hnz, sizeOf, typeInfo, hi, x1, hx0, e0, hxa, storeCells]
            · subst hxs0
              simp only [List.take_zero, List.append_nil, del_upd_same]
              exact H.write he hb rfl (by simp) (fun j hj => absurd hj (by simp)) (fun j k hj => absurd hj (by simp)) hb (fun _ _ => rfl) rfl rfl rfl
            · rw [hx0]
              exact .sl _ _ _ _ _ _ n (by omega) hZ hn (.inl hc0)
          · obtain rfl : o = 0 := by
              rcases ho with ho | ho
              · exact absurd ho hc0
              · simpa using ho
            have hfit : len * i.size + xs.length * i.size ≤ arr.size := by
              have : (len + xs.length) * i.size ≤ cap * i.size := Nat.mul_le_mul_right _ hroom
              rw [Nat.add_mul] at this; omega
            obtain ⟨w', arr', e1, e2, e3, e4, e5, e6, e7, e8⟩ := run_storeCells (P := P) xa.toList w id (0 + len * i.size) 0 arr TT hb hones (by omega)
            refine ⟨.slice (some ⟨id, 0, none⟩) (len + xs.length) cap, w', G, _, _, ?_, .refl _, ?_, ?_, hK id (.inl rfl)⟩
            · simp only [Nat.zero_add] at e1
              simp [Builtin.append_, run_underlying' hs, hnz, sizeOf, typeInfo, hi, x1, hroom, xfull, addr_add, e1]
            · rw [del_upd_same]
              refine H.write he hb e3 ?_ (fun j hj => ?_) (fun j k hj hk => ?_) e2 e5 e6 e7 e8
              · simp only [List.length_append, hlt, Nat.add_mul]; exact hfit
              · simp only [List.length_append, hlt] at hj
                rcases Nat.lt_or_ge j len with hj' | hj'
                · rw [eget_append_left (by omega), hget j hj']; exact hl j (by omega)
                · rw [eget_append_right (by omega), hlt]; exact x4.2.1 _ (by omega)
              · simp only [List.length_append, hlt] at hj
                rw [e4]
                rcases Nat.lt_or_ge j len with hj' | hj'
                · have hlt2 : j * i.size + k < len * i.size := idx_lt hj' hk (Nat.le_refl _)
                  rw [if_neg (by omega), eget_append_left (by omega), hget j hj']
                  exact hv j k (by omega) hk
                · have ej : j * i.size = len * i.size + (j - len) * i.size := by rw [← Nat.add_mul]; congr 1; omega
                  have hlt2 : (j - len) * i.size + k < xs.length * i.size := idx_lt (by omega) hk (Nat.le_refl _)
                  rw [if_pos (by omega), eget_append_right (by omega), hlt]
                  have e9 : j * i.size + k - (0 + len * i.size + 0) = (j - len) * i.size + k := by omega
                  rw [e9]
                  have e10 : xa.toList.getD ((j - len) * i.size + k) undef = xa.getD ((j - len) * i.size + k) undef := by
                    simp [Array.getD_eq_getD_getElem?, List.getD_eq_getElem?_getD]
                  rw [e10]
                  exact x4.2.2 _ _ (by omega) hk
            · exact .sl _ _ _ _ _ _ n hroom hZ hn (.inr (by simp))
        · -- a new row
          have hR : RW G i.size (es.take len) ((List.range (len * i.size)).map fun j => arr.getD j undef).toArray := by
            refine ⟨by simp [hlt], fun j hj => ?_, fun j k hj hk => ?_⟩
            · rw [hlt] at hj; rw [hget j hj]; exact hl j (by omega)
            · rw [hlt] at hj; rw [hget j hj, getD_range_map _ _ _ (idx_lt hj hk (Nat.le_refl _))]
              exact hv j k (by omega) hk
          have hcl : len * i.size ≤ arr.size := Nat.le_trans (Nat.mul_le_mul_right _ hle) hnn
          obtain ⟨c, arr2, e1, e2, e3, e4⟩ := grown (some ⟨id, o, none⟩) len cap _ (es.take len) hroom hlt.symm hmost hb0 hb1 (by simp [hlt]) hR (fun w' hw' => by
            unfold Builtin.firstCells
            rcases ho' with ho' | ho'
            · subst ho'; simp [loadCells, loadCellsFrom]
            · subst ho'
              rw [loadCells_row (w := w') (by rw [hw']; exact hb) _ (by omega)]
              simp)
          have HD := (H.drop (h' := h.del id) (fun j o e => by
            by_cases hj : j = id
            · simp [Heap.del, hj] at e
            · simpa [Heap.del, hj] using e)).drew (w.drawn + 1)
          have HA := HD.alloc_row arr2 e i.size _ e4.1 e4.2.1 e4.2.2
          refine ⟨_, _, _, .sl i.size w.heap.size 0 (len + xs.length), _, e1, HD.le_addZ arr2.size, HA, ?_, hK w.heap.size (.inr H.fresh)⟩
          exact .sl _ _ _ _ _ _ arr2.size e2 (by simp [Gh.addZ]) (by rw [e3]; simp) (.inr (by simp))
    · exact hr.elim
  · exact hr.elim

end
end Go.Abs

namespace Go.Abs
section
variable {P : Program} {w0 w : World} {G : Gh} {h : Heap}

theorem freeze_ok (H : WR w0 G h w) {sz : Nat} {a : AV} {x : Value} (hx : VR G a x) {K : AV → Heap → Prop} (hr : freezeW sz a h K) :
    ∃ G' r h', G.le G' ∧ WR w0 G' h' w ∧ VR G' r x ∧ K r h' := by
  simp only [freezeW, Lock_eq] at hr
  unfold freezeW0 at hr
  split at hr
  · rename_i sz' id i len
    split at hr
    · rename_i s es he
      obtain ⟨⟨rfl, rfl, hle⟩, hk⟩ := hr
      have hO := H.obj id _ he
      have hO' := hO
      obtain ⟨arr, T, hb, _⟩ := hO'
      obtain ⟨hG, HF⟩ := H.freeze he hb
      refine ⟨_, _, _, hG, HF, ?_, hk⟩
      cases hx with
      | sl _ _ _ _ o cap n hcap hZ hn ho =>
        rcases ho with hc | ho
        · have h0 : len = 0 := by omega
          subst h0
          simp only [List.take_zero]
          exact .immNil _ _ _
        · subst ho
          exact hO.imm hb hG (fun o => by simp [Gh.addI]) len i cap hle hcap
    · exact hr.elim
  · cases hx
    exact ⟨G, _, h, .refl _, H, .immNil _ _ _, hr⟩
  · exact ⟨G, _, h, .refl _, H, hx, hr⟩
  · exact hr.elim

theorem makeMap_ok (H : WR w0 G h w) {t : TypeId} {K : AV → Heap → Prop} (hk : ∀ id, h id = none → K (.map id) (h.upd id (.map []))) :
    ∃ w' r h' v, (Instr.makeMap t none).run P w = .ok v w' ∧ WR w0 G h' w' ∧ VR G r v ∧ K r h' :=
  ⟨w.alloc (.map #[] 0), .map w.heap.size, _, .map (some w.heap.size), by simp [Instr.makeMap], H.alloc_map, .map _, hk _ H.fresh⟩

theorem sameNow_bits {kind : TypeDesc} {k q : Value} (h : Instr.sameNow kind k q = some true) : Instr.sameBits 10000 q k = true := by
  rw [show (10000 : Nat) = 9999 + 1 from rfl]
  unfold Instr.sameNow at h
  split at h
  · split at h
    · rename_i k1 a k2 b hk
      subst hk
      simp at h
      simp [Instr.sameBits, h]
    · cases h
  · simp at h
    have := (MapKept.bytes_beq _ _).1 h
    subst this
    simp [Instr.sameBits, MapKept.bytes_beq]
  · simp at h; simp [Instr.sameBits, h]
  · cases h

theorem mapSet_ok (H : WR w0 G h w) {t : TypeId} {kind : TypeDesc} {zero : AV} (hm : mapTypes P t = some (kind, zero)) {m k v : AV} {x y z : Value} (hx : VR G m x) (hy : VR G k y) (hz : VR G v z)
    {K : AV → Heap → Prop} (hr : mapSetW kind m k v h K) : ∃ w' h', (Instr.mapUpdate t x y z).run P w = .ok () w' ∧ WR w0 G h' w' ∧ K undefAV h' := by
  obtain ⟨kt, vt, zv, hu, hk, hs, _, _⟩ := mapTypes_eq hm
  simp only [mapSetW, Lock_eq] at hr
  unfold mapSetW0 at hr
  split at hr
  · rename_i id key
    obtain rfl : key = y := by cases hy; rfl
    clear hy
    split at hr
    · rename_i es he
      cases hx
      obtain ⟨ents, clock, hb, hl, hv⟩ := H.obj id _ he
      have hget : (getObj id).run P w = .ok (.map ents clock) w := by simp only [getObj, Sem.run, hb]
      have hset : ∀ o, (setObj id o).run P w = .ok () { w with heap := w.heap.setIfInBounds id o } := by
        intro o
        simp only [setObj, Sem.run, hb]
      have hl' : es.length = ents.toList.length := by simpa using hl
      have hv' : ∀ j, j < es.length → (ents.toList.getD j default).key = (es.getD j default).1 ∧ VR G (es.getD j default).2 (ents.toList.getD j default).val := by
        intro j hj
        have := hv j hj
        simpa [Array.getD_eq_getD_getElem?, List.getD_eq_getElem?_getD] using this
      unfold mapPut at hr
      split at hr
      · rename_i es' hput
        split at hput
        · rename_i i v0 hf
          cases hput
          rcases mapFind_ok hl' hv' hf with ⟨h1, _⟩ | ⟨j, v1, y1, h1, h2, h3, h4, h5, h6, h7⟩
          · cases h1
          · cases h1
            simp only [Nat.sub_zero, Nat.zero_add] at h5 h6 h7
            have hfk := findKey_ok hk h2 w
            have hi : i < ents.size := by omega
            have hkey : (ents[i]?.map (·.key)).getD key = (es.getD i default).1 := by
              have := (hv' i h5).1
              rw [← this]
              simp [hi]
            have hstay : (Instr.keyThatStays ((ents[i]?.map (·.key)).getD key) key).run P w = .ok key w := by
              rw [hkey]
              unfold Instr.keyThatStays
              rw [if_pos (sameNow_bits h7)]
              rfl
            refine ⟨_, _, ?_, H.setMap (ents' := ents.modify i fun e => { e with key, val := z }) (clock' := clock) he hb (by simp [hl]) (fun j hj => ?_), hr⟩
            · unfold Instr.mapUpdate
              simp only [Sem.run_bind, run_underlying' hu, Result.andThen_ok, hget, scalar_check hk hs, hfk, hstay, hset]
            · simp at hj
              have hjs : j < ents.size := by omega
              by_cases hji : j = i
              · subst hji
                simp [Array.getD_eq_getD_getElem?, List.getD_eq_getElem?_getD, hj, hjs, Array.getElem_modify, hz]
              · have := hv' j hj
                simp [Array.getD_eq_getD_getElem?, List.getD_eq_getElem?_getD, hj, hjs, Array.getElem_modify, Ne.symm hji] at this ⊢
                exact this
        · rename_i hf
          cases hput
          rcases mapFind_ok hl' hv' hf with ⟨_, h2⟩ | ⟨j, v1, y1, h1, _⟩
          · have hfk := findKey_ok hk h2 w
            refine ⟨_, _, ?_, H.setMap (ents' := ents.push { key, val := z, born := clock }) (clock' := clock + 1) he hb (by simp [hl]) (fun j hj => ?_), hr⟩
            · unfold Instr.mapUpdate
              simp only [Sem.run_bind, run_underlying' hu, Result.andThen_ok, hget, scalar_check hk hs, hfk, hset]
            · simp at hj
              rcases Nat.lt_or_ge j es.length with hjl | hjl
              · have := hv' j hjl
                have hjs : j < ents.size := by omega
                simp [Array.getD_eq_getD_getElem?, List.getD_eq_getElem?_getD, List.getElem?_append_left hjl, Array.getElem?_push, show j ≠ ents.size by omega] at this ⊢
                exact this
              · obtain rfl : j = es.length := by omega
                simp [Array.getD_eq_getD_getElem?, List.getD_eq_getElem?_getD, Array.getElem?_push, hl, hz]
          · cases h1
        · cases hput
      · exact hr.elim
    · exact hr.elim
  · exact hr.elim

end
end Go.Abs

namespace Go.Abs
section
variable {P : Program} {w0 w : World} {G : Gh} {h : Heap}

theorem toList_getD (a : Array Value) (j : Nat) : a.toList.getD j undef = a.getD j undef := by
  simp [Array.getD_eq_getD_getElem?, List.getD_eq_getElem?_getD]

/-- Elements written into the middle of an object. -/
theorem splice_ok (H : WR w0 G h w) {id sz i : Nat} {es xs : List (List AV)} (he : h id = some (.row sz es)) {xa : Array Value} (hx : RW G sz xs xa) (hxs : xa.size = xs.length * sz)
    (hone : allOneR xs = true) (h0 : 0 < sz) (hle : i + xs.length ≤ es.length) :
    ∃ w', (storeCells ⟨id, i * sz, none⟩ xa.toList).run P w = .ok () w' ∧ WR w0 G (h.upd id (.row sz (es.take i ++ xs ++ es.drop (i + xs.length)))) w' := by
  obtain ⟨arr, T, hb, hnn, hZ, hl, hv⟩ := H.obj id _ he
  have hlen : (es.take i ++ xs ++ es.drop (i + xs.length)).length = es.length := by simp; omega
  have hit : (es.take i).length = i := by simp; omega
  have hget : ∀ j, eget (es.take i ++ xs ++ es.drop (i + xs.length)) j = if i ≤ j ∧ j < i + xs.length then eget xs (j - i) else eget es j := by
    intro j
    rcases Nat.lt_or_ge j i with h1 | h1
    · rw [if_neg (by omega), List.append_assoc, eget_append_left (by omega)]
      simp [eget, List.getD_eq_getElem?_getD, h1]
    · rcases Nat.lt_or_ge j (i + xs.length) with h2 | h2
      · rw [if_pos ⟨h1, h2⟩, eget_append_left (by simp; omega), eget_append_right (by omega), hit]
      · rw [if_neg (by omega), eget_append_right (by simp; omega)]
        simp [eget, List.getD_eq_getElem?_getD, List.getElem?_drop]
        congr 2
        omega
  have hfit : i * sz + xs.length * sz ≤ arr.size := by
    have : (i + xs.length) * sz ≤ es.length * sz := Nat.mul_le_mul_right _ hle
    rw [Nat.add_mul] at this; omega
  have hx3 : xa.toList.length = xs.length * sz := by simpa using hxs
  obtain ⟨w', arr', e1, e2, e3, e4, e5, e6, e7, e8⟩ := run_storeCells (P := P) xa.toList w id (i * sz) 0 arr T hb (hx.ones hxs hone h0) (by omega)
  refine ⟨w', e1, H.write he hb e3 (by rw [hlen]; exact hnn) (fun j hj => ?_) (fun j k hj hk => ?_) e2 e5 e6 e7 e8⟩
  · rw [hlen] at hj
    rw [hget]
    split
    · exact hx.2.1 _ (by omega)
    · exact hl j hj
  · rw [hlen] at hj
    rw [hget, e4]
    by_cases hc : i ≤ j ∧ j < i + xs.length
    · have ej : j * sz = i * sz + (j - i) * sz := by rw [← Nat.add_mul]; congr 1; omega
      have hlt2 : (j - i) * sz + k < xs.length * sz := idx_lt (by omega) hk (Nat.le_refl _)
      rw [if_pos hc, if_pos (by omega)]
      have e9 : j * sz + k - (i * sz + 0) = (j - i) * sz + k := by omega
      rw [e9, toList_getD]
      exact hx.2.2 _ _ (by omega) hk
    · rw [if_neg hc, if_neg]
      · exact hv j k hj hk
      · intro hcon
        apply hc
        rcases Nat.lt_or_ge j i with h1 | h1
        · have := idx_lt h1 hk (Nat.le_refl _)
          omega
        · refine ⟨h1, ?_⟩
          rcases Nat.lt_or_ge j (i + xs.length) with h2 | h2
          · exact h2
          · have : (i + xs.length) * sz ≤ j * sz := Nat.mul_le_mul_right _ h2
            rw [Nat.add_mul] at this; omega

theorem copy_ok (H : WR w0 G h w) {t u e : TypeId} (ht : P.underlying t = some (.slice e)) {i : TypeInfo} (hi : P.info? e = some i) {d s : AV} {x y : Value} (hx : VR G d x) (hy : VR G s y)
    {K : AV → Heap → Prop} (hr : copyW i.size d s h K) (T : TypeId) :
    ∃ w' r h' v, (Builtin.copy_ #[t, u] T #[x, y]).run P w = .ok v w' ∧ WR w0 G h' w' ∧ VR G r v ∧ K r h' := by
  simp only [copyW, Lock_eq] at hr
  unfold copyW0 at hr
  split at hr
  · rename_i sz' id j len xs hxs
    split at hr
    · rename_i s' es he
      obtain ⟨⟨rfl, rfl, hle, hone, h0⟩, hk⟩ := hr
      obtain ⟨xa, x1, x2, x3, x4⟩ := elems_ok (P := P) H hy hxs
      cases hx with
      | sl _ _ _ _ o cap n hcap hZ hn ho =>
        have hmle : min xs.length len ≤ xs.length := Nat.min_le_left _ _
        have hR : RW G i.size (xs.take len) (xa.extract 0 (min xs.length len * i.size)) := by
          have hlt : (xs.take len).length = min len xs.length := by simp
          have hms : min xs.length len * i.size ≤ xs.length * i.size := Nat.mul_le_mul_right _ hmle
          have hsz : (xa.extract 0 (min xs.length len * i.size)).size = min xs.length len * i.size := by
            rw [Array.size_extract, x3]; omega
          have hcm : min len xs.length = min xs.length len := Nat.min_comm _ _
          refine ⟨by rw [hlt, hcm, hsz]; exact Nat.le_refl _, fun q hq => ?_, fun q k hq hk => ?_⟩
          · rw [hlt] at hq
            have : eget (xs.take len) q = eget xs q := by simp [eget, List.getD_eq_getElem?_getD, show q < len by omega]
            rw [this]; exact x4.2.1 q (by omega)
          · rw [hlt] at hq
            have : eget (xs.take len) q = eget xs q := by simp [eget, List.getD_eq_getElem?_getD, show q < len by omega]
            rw [this]
            have hlt2 : q * i.size + k < min xs.length len * i.size := idx_lt (by omega) hk (Nat.le_refl _)
            have e9 : (xa.extract 0 (min xs.length len * i.size)).getD (q * i.size + k) undef = xa.getD (q * i.size + k) undef := by
              have h1 : q * i.size + k < xa.size := by omega
              simp only [Array.getD, hsz, hlt2, h1, dif_pos, Array.getInternal_eq_getElem]
              simp
            rw [e9]
            exact x4.2.2 q k (by omega) hk
        have hlt : (xs.take len).length = min xs.length len := by simp [Nat.min_comm]
        have hones : allOneR (xs.take len) = true := List.all_eq_true.2 fun c hc => List.all_eq_true.1 hone c (List.mem_of_mem_take hc)
        obtain ⟨w', e1, e2⟩ := splice_ok (P := P) H (i := j) he hR (by
          rw [Array.size_extract, x3, hlt]
          have : min xs.length len * i.size ≤ xs.length * i.size := Nat.mul_le_mul_right _ hmle
          omega) hones h0 (by rw [hlt]; omega)
        rw [hlt] at e2
        refine ⟨w', _, _, goInt (min xs.length len : Nat), ?_, e2, .v _, hk⟩
        have hmin : Nat.min xs.length len = min xs.length len := rfl
        unfold Builtin.copy_
        simp only [List.getElem?_toArray, List.getElem?_cons_zero, List.getElem?_cons_succ]
        simp [run_underlying' ht, x1, run_sizeOf' (P := P) (t := e) (by simp [hi]), show tSize P e = i.size by simp [tSize, hi]]
        rw [hmin, x2 _ hmle w rfl, Result.andThen_ok]
        rcases ho with hc0 | ho
        · have hm0 : min xs.length len = 0 := by omega
          have hx0 : (xa.extract 0 (min xs.length len * i.size)).toList = [] := by simp [hm0]
          rw [hx0] at e1 ⊢
          simp only [storeCells] at e1 ⊢
          have : w' = w := by simpa using e1.symm
          rw [this]
          rfl
        · subst ho
          rw [e1]
          rfl
    · exact hr.elim
  · exact hr.elim

theorem clear_ok (H : WR w0 G h w) {t e : TypeId} (ht : P.underlying t = some (.slice e)) {z : List AV} (hz : zeroCells P e = some z) {a : AV} {x : Value} (hx : VR G a x)
    {K : AV → Heap → Prop} (hr : clearW z a h K) (T : TypeId) :
    ∃ w' r h' v, (Builtin.clear_ #[t] T #[x]).run P w = .ok v w' ∧ WR w0 G h' w' ∧ VR G r v ∧ K r h' := by
  obtain ⟨zv, hzr, hzl, _⟩ := zero_ok hz
  have hzs : zv.cells.size = z.length := by rw [hzl]; simp
  have tup0 : VR G (.tup []) (.tuple #[]) := .tup [] #[] rfl fun k hk => absurd hk (by simp)
  simp only [clearW, Lock_eq] at hr
  unfold clearW0 at hr
  split at hr
  · rename_i sz' id j len
    split at hr
    · rename_i s' es he
      obtain ⟨⟨rfl, rfl, hle, hone, h0⟩, hk⟩ := hr
      cases hx with
      | sl _ _ _ _ o cap n hcap hZ hn ho =>
        have hR : RW G z.length (List.replicate len z) (Builtin.zeroCells zv.cells len) := by
          refine RW.replicate hzl len _ (by rw [zeroCells_size, hzs]; exact Nat.le_refl _) fun q hq => ?_
          have hmod : q % z.length < zv.cells.size := by rw [hzs]; exact Nat.mod_lt _ h0
          unfold Builtin.zeroCells
          rw [hzs]
          simp only [Array.getD, Array.size_map, Array.size_range, hq, dif_pos, Array.getInternal_eq_getElem, Array.getElem_map, Array.getElem_range]
          simp [hmod]
        have hones : allOneR (List.replicate len z) = true := List.all_eq_true.2 fun c hc => by rw [List.eq_of_mem_replicate hc]; exact hone
        obtain ⟨w', e1, e2⟩ := splice_ok (P := P) H (i := j) he hR (by rw [zeroCells_size, hzs]; simp) hones h0 (by simpa using hle)
        simp only [List.length_replicate] at e2
        refine ⟨w', _, _, .tuple #[], ?_, e2, tup0, hk⟩
        rcases Nat.eq_zero_or_pos len with hl0 | hl0
        · subst hl0
          have hx0 : (Builtin.zeroCells zv.cells 0).toList = [] := by simp [Builtin.zeroCells]
          rw [hx0] at e1
          simp only [storeCells] at e1
          have : w' = w := by simpa using e1.symm
          rw [this]
          unfold Builtin.clear_
          simp [run_underlying' ht]
        · obtain rfl : o = j * z.length := ho.resolve_left (by omega)
          obtain ⟨l', rfl⟩ : ∃ l', len = l' + 1 := ⟨len - 1, by omega⟩
          unfold Builtin.clear_
          simp [run_underlying' ht, hzr, e1]
    · exact hr.elim
  · cases hx
    refine ⟨w, _, _, .tuple #[], ?_, H, tup0, hr⟩
    unfold Builtin.clear_
    simp [run_underlying' ht]
  · exact hr.elim

end
end Go.Abs

namespace Go.Abs
section
variable {P : Program}

theorem cellsAt_mono {a : AV} {h h' : Heap} (hh : h.le h') {r : List AV × Nat} (e : cellsAt a h = some r) : cellsAt a h' = some r := by
  unfold cellsAt at *
  split at e
  · exact e
  · split at e
    · rename_i he
      rw [hh _ _ he]
      exact e
    · cases e
  · cases e

theorem eLoad_mono {g : Bool} {n : Nat} {a : AV} {h h' : Heap} (hh : h.le h') {r : AV} (e : eLoad g n a h = some r) : eLoad g n a h' = some r := by
  unfold eLoad at *
  cases hc : cellsAt a h with
  | none => simp [hc] at e
  | some p => rw [cellsAt_mono hh hc]; simpa [hc] using e

theorem eLookup_mono {kind : TypeDesc} {zero : AV} {ok : Bool} {m k : AV} {h h' : Heap} (hh : h.le h') {r : AV} (e : eLookup kind zero ok m k h = some r) : eLookup kind zero ok m k h' = some r := by
  unfold eLookup at *
  cases k with
  | v key =>
    cases m with
    | map id =>
      simp only at e ⊢
      cases ho : h id with
      | none => simp [ho] at e
      | some o => rw [hh _ _ ho]; simpa [ho] using e
    | v x =>
      cases x <;> first
        | exact e
        | (rename_i r0; cases r0 <;> exact e)
    | _ => exact e
  | _ => exact e

theorem evalOp_heap (op : Op) (hop : ∀ t a, op ≠ .load t a) (hop' : ∀ t m k ok, op ≠ .lookup t m k ok) (env : Env) (h h' : Heap) : evalOp P op env h' = evalOp P op env h := by
  cases op <;> first
    | rfl
    | (exact absurd rfl (hop _ _))
    | (exact absurd rfl (hop' _ _ _ _))
    | skip
  case makeFunc fn fi ca => cases fn <;> rfl
  case slice t x lo hi mx => cases mx <;> rfl
  case call c =>
    obtain ⟨cal, args, types⟩ := c
    cases cal with
    | builtin b => cases b <;> rfl
    | value f => rfl
    | invoke r m => rfl

theorem evalOp_mono {op : Op} {env : Env} {h h' : Heap} (hh : h.le h') {r : AV} (e : evalOp P op env h = some r) : evalOp P op env h' = some r := by
  by_cases hl : ∃ t a, op = .load t a
  · obtain ⟨t, a, rfl⟩ := hl
    simp only [evalOp] at *
    split at e
    · split at e
      · rename_i hi; rw [if_pos hi]; exact eLoad_mono hh e
      · cases e
    · cases e
  · by_cases hm : ∃ t m k ok, op = .lookup t m k ok
    · obtain ⟨t, m, k, ok, rfl⟩ := hm
      simp only [evalOp] at *
      split at e
      · exact eLookup_mono hh e
      · cases e
    · rw [evalOp_heap op (fun t a he => hl ⟨t, a, he⟩) (fun t m k ok he => hm ⟨t, m, k, ok, he⟩) env h h']; exact e


/-- Mode 2: a read of what nobody may write. -/
def noH : Heap := fun _ => none

def evalM (P : Program) (mode : Nat) (op : Op) (env : Env) (h : Heap) : Option AV :=
  bif Nat.beq mode 2 then evalOp P op env noH else evalOp P op env h

theorem noH_le (h : Heap) : noH.le h := fun _ _ e => by simp [noH] at e

theorem evalM_op {mode : Nat} {op : Op} {env : Env} {h : Heap} {r : AV} (e : evalM P mode op env h = some r) : evalOp P op env h = some r := by
  unfold evalM at e
  cases hm : Nat.beq mode 2 <;> simp [hm] at e
  · exact e
  · exact evalOp_mono (noH_le h) e

theorem evalM_mono {mode : Nat} {op : Op} {env : Env} {h h' : Heap} (hh : h.le h') {r : AV} (e : evalM P mode op env h = some r) : evalM P mode op env h' = some r := by
  unfold evalM at *
  cases hm : Nat.beq mode 2 <;> simp [hm] at e ⊢
  · exact evalOp_mono hh e
  · exact e

end
end Go.Abs

namespace Go.Abs

/-- A call: whatever world stands for the memory, it returns, and what it leaves is as `Q` says. -/
def ACalls (P : Program) (f : FuncId) (args : List AV) (h : Heap) (Q : AV → Heap → Prop) : Prop :=
  (∀ xs w, (callFunc f xs).run P w = .ok (.enter f xs) w) ∧
  ∀ (w0 : World) (G : Gh) (w : World) (xs : Array Value), WR w0 G h w → VRs G args xs →
    Calls P f xs w fun e w' => ∃ v r h' G', e = .returned v ∧ G.le G' ∧ WR w0 G' h' w' ∧ VR G' r v ∧ Q r h'

/-- A call that changes no object and tells `r`. -/
def APure (P : Program) (f : FuncId) (args : List AV) (r : AV) (h : Heap) : Prop :=
  ∀ h', h.le h' → ACalls P f args h' fun r' h'' => r' = r ∧ h'' = h'

theorem ACalls.mono {P : Program} {f : FuncId} {args : List AV} {h : Heap} {Q Q' : AV → Heap → Prop} (H : ACalls P f args h Q) (hq : ∀ r h, Q r h → Q' r h) : ACalls P f args h Q' :=
  ⟨H.1, fun w0 G w xs a b => (H.2 w0 G w xs a b).mono fun _ _ ⟨v, r, h', G', e, l, wr, vr, q⟩ => ⟨v, r, h', G', e, l, wr, vr, hq _ _ q⟩⟩

theorem APure.mono {P : Program} {f : FuncId} {args : List AV} {r : AV} {h h' : Heap} (H : APure P f args r h) (hh : h.le h') : APure P f args r h' :=
  fun h2 l => H h2 (hh.trans l)

def put (env : Env) (d : Option Tmp) (v : AV) : Env :=
  match d with
  | none => env
  | some d => fun j => bif Nat.beq j d then v else env j

def bindO0 (e : Option AV) (K : AV → Prop) : Prop :=
  match e with
  | some v => K v
  | none => False

def bindO (e : Option AV) (K : AV → Prop) : Prop := Lock (bindO0 e K)

def bindH0 (e : Option Heap) (K : Heap → Prop) : Prop :=
  match e with
  | some v => K v
  | none => False

def bindH (e : Option Heap) (K : Heap → Prop) : Prop := Lock (bindH0 e K)

/-- An operation that runs only if `c`. -/
noncomputable def iteAV (c : Prop) (v : AV) : AV := @ite _ c (Classical.propDecidable c) v undefAV
def gdO0 (c : Prop) (e : Option AV) (K : AV → Prop) : Prop := (c → e.isSome = true) ∧ K (iteAV c (e.getD .any))

def gdO (c : Prop) (e : Option AV) (K : AV → Prop) : Prop := Lock (gdO0 c e K)

def callP (P : Program) (f : FuncId) (args : List AV) (h : Heap) (K : AV → Prop) : Prop := ∃ r, APure P f args r h ∧ K r
def callG (P : Program) (c : Prop) (f : FuncId) (args : List AV) (h : Heap) (K : AV → Prop) : Prop := ∃ r, (c → APure P f args r h) ∧ K (iteAV c r)

/-- What is called, and with what. -/
def callee (f : AV) (args : List AV) : Option (FuncId × List AV) :=
  match f with
  | .clo fid fi ca => some (fid, fi ++ args ++ ca)
  | _ => none

def makeTypes (P : Program) (t : TypeId) : Option (List AV × Nat) :=
  match tSlice P t with
  | some e => match P.info? e, zeroCells P e with
    | some i, some z => bif Nat.beq z.length i.size then some (z, i.bytes) else none
    | _, _ => none
  | none => none

def appendTypes (P : Program) (t x : TypeId) : Option (Nat × Nat) :=
  match tSlice P t, P.underlying x with
  | some e, some d => match P.info? e, zeroCells P e, d with
    | some _, some _, .int _ => none
    | some i, some z, _ => bif Nat.beq z.length i.size && Nat.blt 0 i.size then some (i.size, i.bytes) else none
    | _, _, _ => none
  | _, _ => none

def rowW0 (sz : Nat) (z : List AV) (len : Nat) (parts : List (Nat × AV)) (h : Heap) (K : AV → Heap → Prop) : Prop :=
  match eFillRow sz (List.replicate len z) parts with
  | some es => ∀ id, h id = none → K (.sl sz id 0 len) (h.upd id (.row sz es))
  | none => False

def rowW (sz : Nat) (z : List AV) (len : Nat) (parts : List (Nat × AV)) (h : Heap) (K : AV → Heap → Prop) : Prop := Lock (rowW0 sz z len parts h K)

def newW (h : Heap) (o : AObj) (K : Nat → Heap → Prop) : Prop := Lock (∀ id, h id = none → K id (h.upd id o))

/-- Is a list nil? Of one without elements nothing is known. -/
def nilTestW (neg : Bool) (x : AV) (h : Heap) (K : AV → Heap → Prop) : Prop :=
  Lock (match x with
  | .imm _ [] => ∀ b, K (.v (.bool b)) h
  | .imm _ (_ :: _) => K (.v (.bool neg)) h
  | .sl _ _ _ _ => K (.v (.bool neg)) h
  | .v (.slice none 0 0) => K (.v (.bool !neg)) h
  | _ => False)

def nilTestP (neg : Bool) (x : AV) (h : Heap) (K : AV → Heap → Prop) : Prop :=
  Lock (match x with
  | .ptr _ _ _ _ => K (.v (.bool neg)) h
  | .iptr _ _ => K (.v (.bool neg)) h
  | .v (.pointer none) => K (.v (.bool !neg)) h
  | _ => False)

def nilTestI (neg : Bool) (x : AV) (h : Heap) (K : AV → Heap → Prop) : Prop :=
  Lock (match x with
  | .v .nilIface => K (.v (.bool !neg)) h
  | .v (.iface _ _) => K (.v (.bool neg)) h
  | _ => False)

def nilTestA (kind : Nat) (neg : Bool) (x : AV) (h : Heap) (K : AV → Heap → Prop) : Prop :=
  match kind with
  | 0 => nilTestW neg x h K
  | 1 => nilTestP neg x h K
  | _ => nilTestI neg x h K

/-- `==` (false) or `!=` (true). -/
def nilOp (op : BinOp) : Option Bool :=
  match op with
  | .eql => some false
  | .neq => some true
  | _ => none

/-- A list (0), an address (1) or an interface's value (2) held against nil. -/
def nilKind (P : Program) (op : BinOp) (t : TypeId) (y : Operand) : Option (Nat × Bool) :=
  match P.underlying t, y with
  | some (.slice _), .const (.slice none 0 0) => match nilOp op with
    | some b => some (0, b)
    | none => none
  | some (.pointer _), .const (.pointer none) => match nilOp op with
    | some b => some (1, b)
    | none => none
  | some (.interface _), .const .nilIface => match nilOp op with
    | some b => some (2, b)
    | none => none
  | _, _ => none

/-- What an operation does that is no mere evaluation; none: it is one. Mode 1: a box or a list that will be written. -/
def effW (P : Program) (mode : Nat) (op : Op) (env : Env) (h : Heap) (K : AV → Heap → Prop) : Option Prop :=
  match op with
  | .move x => bif Nat.ble 16 mode then some (freezeW (mode - 16) (ev env x) h K) else none
  | .assign x => bif Nat.ble 16 mode then some (freezeW (mode - 16) (ev env x) h K) else none
  | .makeMap t r => some (match r.isNone with | true => newW h (.map []) (fun id h => K (.map id) h) | false => False)
  | .mapUpdate t m k v => some (match mapTypes P t with
    | some (kind, _) => mapSetW kind (ev env m) (ev env k) (ev env v) h K
    | none => False)
  | .call { callee := .builtin .copy, args, argTypes } => some (match args.toList, argTypes.toList with
    | [d, s], [t, u] => match appendTypes P t u with
      | some (sz, _) => copyW sz (ev env d) (ev env s) h K
      | none => False
    | _, _ => False)
  | .call { callee := .builtin .clear, args, argTypes } => some (match args.toList, argTypes.toList with
    | [x], [t] => match makeTypes P t with
      | some (z, _) => clearW z (ev env x) h K
      | none => False
    | _, _ => False)
  | .range t x => some (match P.underlying t with
    | some .string => rangeW (ev env x) h K
    | _ => False)
  | .next x s => some (match s with
    | true => nextW (ev env x) h K
    | false => False)
  | .store t a v => some (match (P.info? t).isSome with | true => bindH (eStore (tSize P t) (ev env a) (ev env v) h) (fun h' => K undefAV h') | false => False)
  | .alloc t => some (match zeroCells P t with
    | some z => newW h (.row z.length [z]) (fun id h => K (.ptr z.length id 0 0) h)
    | none => False)
  | .box _ x => match mode with
    | 1 => some ((cellsOf (ev env x)).length ≠ 0 ∧ newW h (.row (cellsOf (ev env x)).length [cellsOf (ev env x)]) (fun id h => K (.ptr (cellsOf (ev env x)).length id 0 0) h))
    | _ => none
  | .buildSlice t len ps => match mode with
    | 1 => some (match rowTab P t len with
      | some (sz, z) => rowW sz z len (ps.toList.map fun p => (p.1, ev env p.2)) h K
      | none => False)
    | _ => none
  | .makeSlice t l c => some (match makeTypes P t with
    | some (z, bytes) => makeW z bytes (ev env l) (ev env c) h K
    | none => False)
  | .call { callee := .builtin .append, args, argTypes } => some (match args.toList, argTypes.toList with
    | [s, x], [t, u] => match appendTypes P t u with
      | some (sz, bytes) => appendW sz bytes (ev env s) (ev env x) h K
      | none => False
    | _, _ => False)
  | .call { callee := .value f, args, .. } => match mode with
    | 1 => some (match callee (ev env f) (args.toList.map (ev env)) with
      | some (fid, as) => ACalls P fid as h K
      | none => False)
    | _ => none
  | .binOp op t x y _ => match mode with
    | 1 => some (match nilKind P op t y with
      | some (kind, neg) => nilTestA kind neg (ev env x) h K
      | none => False)
    | _ => none
  | _ => none

def opCall (op : Op) : Option (Operand × Array Operand) :=
  match op with
  | .call { callee := .value f, args, .. } => some (f, args)
  | _ => none

/-- One operation, unguarded. -/
def wpU (P : Program) (mode : Nat) (op : Op) (env : Env) (h : Heap) (k : AV → Heap → Prop) : Prop :=
  match effW P mode op env h k with
  | some p => p
  | none => match opCall op with
    | some (f, args) => match callee (ev env f) (args.toList.map (ev env)) with
      | some (fid, as) => callP P fid as h fun v => k v h
      | none => False
    | none => bindO (evalM P mode op env h) fun v => k v h

/-- One operation, guarded by `c`. -/
def wpG (P : Program) (mode : Nat) (op : Op) (c : Prop) (env : Env) (h : Heap) (k : AV → Heap → Prop) : Prop :=
  match effW P mode op env h k with
  | some p => (c → p) ∧ (¬ c → k undefAV h)
  | none => match opCall op with
    | some (f, args) => match callee (ev env f) (args.toList.map (ev env)) with
      | some (fid, as) => callG P c fid as h fun v => k v h
      | none => False
    | none => gdO c (evalM P mode op env h) fun v => k v h

def isV (a : AV) : Prop := ∃ x, a = .v x

def guardSlot (ops : List Oper) (g : Nat) : Option Tmp := (ops[g]?).bind (·.dst)

def wpV (P : Program) (ops : List Oper) (mode : Nat) (o : Oper) (env : Env) (h : Heap) (k : AV → Heap → Prop) : Prop :=
  match o.guard with
  | none => wpU P mode o.op env h k
  | some (g, b) => match guardSlot ops g with
    | some d => isV (env d) ∧ wpG P mode o.op (env d = .v (.bool b)) env h k
    | none => False

/-! A mode of 4096 or more has a side: a slot, and what is said of the object that it names: 1: this operation leaves it as it was; 2: this operation's address names it; 3: this operation's address names another. -/

def idOf (a : AV) : Option Nat :=
  match a with
  | .ptr _ id _ _ => some id
  | _ => none
def addrO (op : Op) : Option Operand :=
  match op with
  | .load _ a => some a
  | .store _ a _ => some a
  | _ => none
def sideS (mode : Nat) : Nat := Nat.div (Nat.div mode 4096) 4
def sideC (mode : Nat) : Nat := Nat.mod (Nat.div mode 4096) 4
def sideB (mode : Nat) : Nat := Nat.mod mode 4096

def sideA (c : Nat) (op : Op) (env : Env) (id : Nat) : Prop :=
  match c with
  | 1 => True
  | 2 => ∃ a, addrO op = some a ∧ idOf (ev env a) = some id
  | 3 => ∃ a id', addrO op = some a ∧ idOf (ev env a) = some id' ∧ id ≠ id'
  | _ => False

def wpS (P : Program) (ops : List Oper) (mode : Nat) (o : Oper) (K : Env → Heap → Prop) (env : Env) (h : Heap) : Prop :=
  o.guard = none ∧ ∃ id, idOf (env (sideS mode)) = some id ∧ sideA (sideC mode) o.op env id ∧
    wpV P ops (sideB mode) o env h fun v h' => (sideC mode = 1 → h' id = h id) ∧ K (put env o.dst v) h'

/-- 0: this operation leaves all that was there. -/
def wpZ (P : Program) (ops : List Oper) (mode : Nat) (o : Oper) (K : Env → Heap → Prop) (env : Env) (h : Heap) : Prop :=
  wpV P ops (sideB mode) o env h fun v h' => h.le h' ∧ K (put env o.dst v) h'

def wpOne (P : Program) (ops : List Oper) (mode : Nat) (o : Oper) (K : Env → Heap → Prop) (env : Env) (h : Heap) : Prop :=
  match Nat.ble 4096 mode with
  | false => wpV P ops mode o env h fun v h' => K (put env o.dst v) h'
  | true => match Nat.beq (sideC mode) 0 with
    | false => wpS P ops mode o K env h
    | true => wpZ P ops mode o K env h

end Go.Abs

namespace Go.Abs
section
variable {P : Program} {w0 w : World} {G : Gh} {h : Heap}

theorem ER.put {env : Env} {a : Act} (E : ER G env a.tmps) {d : Option Tmp} (hd : ∀ k, d = some k → k < a.tmps.size) {r : AV} {x : Value} (hx : VR G r x) :
    ER G (put env d r) (a.put d x).tmps := by
  cases d with
  | none => exact E
  | some d =>
    intro j
    have hlt := hd d rfl
    unfold Go.Abs.put Act.put
    simp only
    by_cases hj : j = d
    · subst hj
      simp [Array.getD, hlt, hx]
    · have : Nat.beq j d = false := by
        cases hb : Nat.beq j d
        · rfl
        · exact absurd (Nat.eq_of_beq_eq_true hb) hj
      rw [this, cond_false]
      have e : (a.tmps.setIfInBounds d x).getD j undef = a.tmps.getD j undef := by
        simp only [Array.getD, Array.size_setIfInBounds]
        split
        · rename_i hs
          rw [Array.getInternal_eq_getElem, Array.getInternal_eq_getElem, Array.getElem_setIfInBounds_ne _ (Ne.symm hj)]
        · rfl
      rw [e]
      exact E j

theorem put_size (a : Act) (d : Option Tmp) (x : Value) : (a.put d x).tmps.size = a.tmps.size := by cases d <;> simp [Act.put]
theorem put_defers (a : Act) (d : Option Tmp) (x : Value) : (a.put d x).defers = a.defers := by cases d <;> rfl

/-- What an operation comes to, in a world. -/
def Comes1 (P : Program) (w0 : World) (G : Gh) (o : Oper) (a : Act) (w : World) (K : AV → Heap → Prop) : Prop :=
  ∃ y w' G' r h', ((execOp a.eval o).run P w = .ok (.value y) w' ∨ ((execOp a.eval o).run P w = .ok .skip w' ∧ y = undef)) ∧
    G.le G' ∧ WR w0 G' h' w' ∧ VR G' r y ∧ K r h'

theorem tSlice_eq {t e : TypeId} (h : tSlice P t = some e) : P.underlying t = some (.slice e) := by
  unfold tSlice at h
  split at h
  · rename_i e' he; simpa [he] using h
  · cases h

theorem beq_eq {a b : Nat} (h : Nat.beq a b = true) : a = b := Nat.eq_of_beq_eq_true h

theorem lget_append_left {a b : List AV} {i : Nat} (h : i < a.length) : lget (a ++ b) i = lget a i := by
  simp [lget, List.getD_eq_getElem?_getD, List.getElem?_append_left h]
theorem lget_append_right {a b : List AV} {i : Nat} (h : a.length ≤ i) : lget (a ++ b) i = lget b (i - a.length) := by
  simp [lget, List.getD_eq_getElem?_getD, List.getElem?_append_right h]

theorem VRs.append {as bs : List AV} {xs ys : Array Value} (h1 : VRs G as xs) (h2 : VRs G bs ys) : VRs G (as ++ bs) (xs ++ ys) := by
  refine ⟨by simp [h1.1, h2.1], fun k hk => ?_⟩
  simp at hk
  rcases Nat.lt_or_ge k as.length with h | h
  · rw [lget_append_left h, getD_append_left _ _ _ (by have := h1.1; omega)]
    exact h1.2 k h
  · rw [lget_append_right h, getD_append_right _ _ _ (by have := h1.1; omega), ← h1.1]
    exact h2.2 _ (by omega)

theorem VRs.map {env : Env} {a : Act} (E : ER G env a.tmps) (args : Array Operand) : VRs G (args.toList.map (ev env)) (args.map a.eval) := by
  refine ⟨by simp, fun k hk => ?_⟩
  simp at hk
  simp [lget, List.getD_eq_getElem?_getD, hk, Array.getD]
  exact E.ev _

theorem callee_ok {env : Env} {a : Act} (E : ER G env a.tmps) {f : Operand} {args : Array Operand} {fid : FuncId} {as : List AV}
    (hc : callee (ev env f) (args.toList.map (ev env)) = some (fid, as)) (argTypes : Array TypeId) (type : TypeId) (dst : Option Tmp) (pos : String) (after : Array Edge) (guard : Option (Nat × Bool))
    (hf : ∀ xs w, (callFunc fid xs).run P w = .ok (.enter fid xs) w) :
    ∃ xs, (execOp a.eval { dst, op := .call { callee := .value f, args, argTypes }, type, pos, after, guard }).run P w = .ok (.enter fid xs) w ∧ VRs G as xs := by
  unfold callee at hc
  split at hc
  · rename_i fid' fi ca he
    simp only [Option.some.injEq, Prod.mk.injEq] at hc
    obtain ⟨rfl, rfl⟩ := hc
    have hx := E.ev f
    rw [he] at hx
    generalize hv : a.eval f = fv at hx
    cases hx with
    | clo _ _ _ xs ys hl hl' hv1 hv2 =>
      refine ⟨xs ++ args.map a.eval ++ ys, ?_, (VRs.append (VRs.append ⟨hl, hv1⟩ (VRs.map E args)) ⟨hl', hv2⟩)⟩
      simp [execOp, resolve, hv, Deferred.ofValue, invoke, hf]
  · cases hc

theorem bif_and {b : Bool} {p : Prop} (h : bif b then p else False) : b = true ∧ p := by
  cases b
  · exact h.elim
  · exact ⟨rfl, h⟩

theorem nilTest_ok {op : BinOp} {t e : TypeId} (ht : P.underlying t = some (.slice e)) {neg : Bool} (ho : (op = .eql ∧ neg = false) ∨ (op = .neq ∧ neg = true)) {a : AV} {x : Value} (hx : VR G a x)
    {K : AV → Heap → Prop} (hp : nilTestW neg a h K) (xo yo : Operand) :
    ∃ b, (eqGuard op t xo yo x (.slice none 0 0) >>= fun _ => binOp op t x (.slice none 0 0)).run P w = .ok (.bool b) w ∧ K (.v (.bool b)) h := by
  have eqn : ∀ (o : Option Addr) (n c : Nat), (Op.equal t (.slice o n c) (.slice none 0 0)).run P w = .ok o.isNone w := by
    intro o n c
    unfold Op.equal Op.maxDepth
    rw [show (10000 : Nat) = 9999 + 1 from rfl]
    unfold Op.equalIn
    rw [Sem.run_bind, run_underlying' ht]
    cases o <;> rfl
  have run : ∀ (o : Option Addr) (n c : Nat), (eqGuard op t xo yo (.slice o n c) (.slice none 0 0) >>= fun _ => binOp op t (.slice o n c) (.slice none 0 0)).run P w = .ok (.bool (if neg then !o.isNone else o.isNone)) w := by
    intro o n c
    have hg : (eqGuard op t xo yo (.slice o n c) (.slice none 0 0)).run P w = .ok () w := by
      rcases ho with ⟨rfl, rfl⟩ | ⟨rfl, rfl⟩ <;> rfl
    rw [Sem.run_bind, hg, Result.andThen_ok]
    rcases ho with ⟨rfl, rfl⟩ | ⟨rfl, rfl⟩ <;> simp only [binOp] <;> rw [Sem.run_bind, eqn, Result.andThen_ok, Sem.run_pure] <;> simp
  unfold nilTestW at hp
  have hp := hp.out
  split at hp
  · cases hx with
    | immNil sz o cap => exact ⟨_, run _ _ _, hp _⟩
    | imm sz es b o cap hcap hsz ys hI hv => exact ⟨_, run _ _ _, hp _⟩
  · cases hx with
    | imm sz es b o cap hcap hsz ys hI hv => exact ⟨_, run _ _ _, by cases neg <;> simpa using hp⟩
  · cases hx with
    | sl sz id i len o cap n hcap hZ hn ho => exact ⟨_, run _ _ _, by cases neg <;> simpa using hp⟩
  · cases hx
    exact ⟨_, run _ _ _, by cases neg <;> simpa using hp⟩
  · exact hp.elim

theorem nilTestP_ok {op : BinOp} {t e : TypeId} (ht : P.underlying t = some (.pointer e)) {neg : Bool} (ho : (op = .eql ∧ neg = false) ∨ (op = .neq ∧ neg = true)) {a : AV} {x : Value} (hx : VR G a x)
    {K : AV → Heap → Prop} (hp : nilTestP neg a h K) (xo yo : Operand) :
    ∃ b, (eqGuard op t xo yo x (.pointer none) >>= fun _ => binOp op t x (.pointer none)).run P w = .ok (.bool b) w ∧ K (.v (.bool b)) h := by
  have eqn : ∀ (o : Option Addr), (Op.equal t (.pointer o) (.pointer none)).run P w = .ok o.isNone w := by
    intro o
    unfold Op.equal Op.maxDepth
    rw [show (10000 : Nat) = 9999 + 1 from rfl]
    unfold Op.equalIn
    rw [Sem.run_bind, run_underlying' ht]
    cases o <;> rfl
  have run : ∀ (o : Option Addr), (eqGuard op t xo yo (.pointer o) (.pointer none) >>= fun _ => binOp op t (.pointer o) (.pointer none)).run P w = .ok (.bool (if neg then !o.isNone else o.isNone)) w := by
    intro o
    have hg : (eqGuard op t xo yo (.pointer o) (.pointer none)).run P w = .ok () w := by
      rcases ho with ⟨rfl, rfl⟩ | ⟨rfl, rfl⟩ <;> rfl
    rw [Sem.run_bind, hg, Result.andThen_ok]
    rcases ho with ⟨rfl, rfl⟩ | ⟨rfl, rfl⟩ <;> simp only [binOp] <;> rw [Sem.run_bind, eqn, Result.andThen_ok, Sem.run_pure] <;> simp
  unfold nilTestP at hp
  have hp := hp.out
  split at hp
  · cases hx
    exact ⟨_, run _, by cases neg <;> simpa using hp⟩
  · cases hx
    exact ⟨_, run _, by cases neg <;> simpa using hp⟩
  · cases hx
    exact ⟨_, run _, by cases neg <;> simpa using hp⟩
  · exact hp.elim

theorem nilTestI_ok {op : BinOp} {t : TypeId} {ms : Array (String × TypeId)} (ht : P.underlying t = some (.interface ms)) {neg : Bool} (ho : (op = .eql ∧ neg = false) ∨ (op = .neq ∧ neg = true)) {a : AV} {x : Value} (hx : VR G a x)
    {K : AV → Heap → Prop} (hp : nilTestI neg a h K) (xo : Operand) :
    ∃ b, (eqGuard op t xo (.const .nilIface) x .nilIface >>= fun _ => binOp op t x .nilIface).run P w = .ok (.bool b) w ∧ K (.v (.bool b)) h := by
  have eq0 : (Op.equal t .nilIface .nilIface).run P w = .ok true w := by
    unfold Op.equal Op.maxDepth
    rw [show (10000 : Nat) = 9999 + 1 from rfl]
    unfold Op.equalIn
    rw [Sem.run_bind, run_underlying' ht]
    rfl
  have eq1 : ∀ u v, (Op.equal t (.iface u v) .nilIface).run P w = .ok false w := by
    intro u v
    unfold Op.equal Op.maxDepth
    rw [show (10000 : Nat) = 9999 + 1 from rfl]
    unfold Op.equalIn
    rw [Sem.run_bind, run_underlying' ht]
    rfl
  have run : ∀ (y : Value) (b : Bool), (Op.equal t y .nilIface).run P w = .ok b w → (eqGuard op t xo (.const .nilIface) y .nilIface).run P w = .ok () w →
      (eqGuard op t xo (.const .nilIface) y .nilIface >>= fun _ => binOp op t y .nilIface).run P w = .ok (.bool (if neg then !b else b)) w := by
    intro y b hy hg
    rw [Sem.run_bind, hg, Result.andThen_ok]
    rcases ho with ⟨rfl, rfl⟩ | ⟨rfl, rfl⟩ <;> simp only [binOp] <;> rw [Sem.run_bind, hy, Result.andThen_ok, Sem.run_pure] <;> simp
  unfold nilTestI at hp
  have hp := hp.out
  split at hp
  · cases hx
    exact ⟨_, run _ _ eq0 (by rcases ho with ⟨rfl, rfl⟩ | ⟨rfl, rfl⟩ <;> cases xo <;> rfl), by cases neg <;> simpa using hp⟩
  · cases hx
    exact ⟨_, run _ _ (eq1 _ _) (by rcases ho with ⟨rfl, rfl⟩ | ⟨rfl, rfl⟩ <;> rfl), by cases neg <;> simpa using hp⟩
  · exact hp.elim

theorem range_ok (H : WR w0 G h w) {t : TypeId} (ht : P.underlying t = some .string) {a : AV} {x : Value} (hx : VR G a x) {K : AV → Heap → Prop} (hp : rangeW a h K) :
    ∃ w' r h' v, (Instr.range t x).run P w = .ok v w' ∧ WR w0 G h' w' ∧ VR G r v ∧ K r h' := by
  simp only [rangeW, Lock_eq] at hp
  unfold rangeW0 at hp
  split at hp
  · rename_i s
    cases hx
    refine ⟨w.alloc (.stringIter s 0), .ptr 0 w.heap.size 0 0, _, .pointer (some ⟨w.heap.size, 0, none⟩), ?_, H.alloc_iter s, by have := VR.ptr (G := G) 0 w.heap.size 0 0; simpa using this, hp _ H.fresh⟩
    unfold Instr.range
    simp [run_underlying' ht]
  · exact hp.elim

theorem next_ok (H : WR w0 G h w) {T : TypeId} {a : AV} {x : Value} (hx : VR G a x) {K : AV → Heap → Prop} (hp : nextW a h K) :
    ∃ w' r h' v, (Instr.next x true T).run P w = .ok v w' ∧ WR w0 G h' w' ∧ VR G r v ∧ K r h' := by
  simp only [nextW, Lock_eq] at hp
  unfold nextW0 at hp
  split at hp
  · rename_i id
    split at hp
    · rename_i s pos ho
      have hO : w.heap[id]? = some (.stringIter s pos) := H.obj id _ ho
      cases hx
      by_cases hlt : pos < s.size
      · rw [if_pos hlt] at hp
        refine ⟨_, _, _, .tuple #[.bool true, .int .i64 pos, .int .i32 (Utf8.decode s pos).1], ?_, H.setIter (s' := s) (pos' := pos + (Utf8.decode s pos).2) ho hO, ?_, hp⟩
        · simp only [Instr.next, getObj, setObj, Sem.run_bind, Sem.run, Nat.zero_mul, Nat.zero_add, hO, Result.andThen, hlt, if_true]
          simp [goInt, Sem.run, hO]
        · refine .tup _ _ (by simp) fun k hk => ?_
          rcases k with _ | _ | _ | k
          · exact .v _
          · exact .v _
          · exact .v _
          · simp at hk; omega
      · rw [if_neg hlt] at hp
        refine ⟨w, _, _, .tuple #[.bool false], ?_, H, ?_, hp⟩
        · simp [Instr.next, getObj, Sem.run, hO, hlt]
        · refine .tup _ _ (by simp) fun k hk => ?_
          rcases k with _ | k
          · exact .v _
          · simp at hk
    · exact hp.elim
  · exact hp.elim

theorem effW_ok (H : WR w0 G h w) {env : Env} {a : Act} (E : ER G env a.tmps) {o : Oper} {mode : Nat} {K : AV → Heap → Prop} {p : Prop}
    (he : effW P mode o.op env h K = some p) (hp : p) :
    Comes1 P w0 G o a w K ∨ ∃ f xs, (execOp a.eval o).run P w = .ok (.enter f xs) w ∧
      Calls P f xs w fun e w' => ∃ v r h' G', e = .returned v ∧ G.le G' ∧ WR w0 G' h' w' ∧ VR G' r v ∧ K r h' := by
  obtain ⟨dst, op, type, pos, after, guard⟩ := o
  simp only at he
  unfold effW at he
  split at he
  · -- move
    rename_i x
    cases hb : Nat.ble 16 mode with
    | false => simp [hb] at he
    | true =>
      simp only [hb, cond_true, Option.some.injEq] at he
      subst he
      left
      obtain ⟨G', r, h', e1, e2, e3, e4⟩ := freeze_ok H (E.ev x) hp
      exact ⟨_, w, G', r, h', .inl rfl, e1, e2, e3, e4⟩
  · -- assign
    rename_i x
    cases hb : Nat.ble 16 mode with
    | false => simp [hb] at he
    | true =>
      simp only [hb, cond_true, Option.some.injEq] at he
      subst he
      left
      obtain ⟨G', r, h', e1, e2, e3, e4⟩ := freeze_ok H (E.ev x) hp
      exact ⟨_, w, G', r, h', .inl rfl, e1, e2, e3, e4⟩
  · -- makeMap
    rename_i t rr
    cases he
    left
    obtain rfl : rr = none := by cases rr <;> first | rfl | exact hp.elim
    have hk := hp
    simp only [Option.isNone_none, cond_true] at hk
    obtain ⟨w', r, h', v, e1, e2, e3, e4⟩ := makeMap_ok (P := P) H (t := t) hk.out
    exact ⟨v, w', G, r, h', .inl (by simp [execOp, e1]), .refl _, e2, e3, e4⟩
  · -- mapUpdate
    rename_i t m k v
    cases he
    left
    split at hp
    · rename_i kind zero hm
      obtain ⟨w', h', e1, e2, e3⟩ := mapSet_ok H hm (E.ev m) (E.ev k) (E.ev v) hp
      exact ⟨undef, w', G, undefAV, h', .inr ⟨by simp [execOp, e1], rfl⟩, .refl _, e2, .v _, e3⟩
    · exact hp.elim
  · -- copy
    rename_i args argTypes
    cases he
    left
    split at hp
    · rename_i d s t u hargs htypes
      have h1 : args = #[d, s] := by apply Array.ext'; simpa using hargs
      have h2 : argTypes = #[t, u] := by apply Array.ext'; simpa using htypes
      subst h1 h2
      split at hp
      · rename_i sz bytes hm
        unfold appendTypes at hm
        split at hm
        · rename_i e dd hte hu
          split at hm
          · cases hm
          · rename_i d' i z hi hz hd
            cases hb : (Nat.beq z.length i.size && Nat.blt 0 i.size) with
            | false => simp [hb] at hm
            | true =>
              simp only [hb, cond_true, Option.some.injEq, Prod.mk.injEq] at hm
              obtain ⟨rfl, rfl⟩ := hm
              obtain ⟨w', r, h', v, e1, e2, e3, e4⟩ := copy_ok (P := P) H (u := u) (tSlice_eq hte) hi (E.ev d) (E.ev s) hp type
              exact ⟨v, w', G, r, h', .inl (by simp [execOp, resolve, invoke, builtin, e1]), .refl _, e2, e3, e4⟩
          · cases hm
        · cases hm
      · exact hp.elim
    · exact hp.elim
  · -- clear
    rename_i args argTypes
    cases he
    left
    split at hp
    · rename_i x t hargs htypes
      have h1 : args = #[x] := by apply Array.ext'; simpa using hargs
      have h2 : argTypes = #[t] := by apply Array.ext'; simpa using htypes
      subst h1 h2
      split at hp
      · rename_i z bytes hm
        unfold makeTypes at hm
        split at hm
        · rename_i e hte
          split at hm
          · rename_i i z' hi hz
            cases hb : Nat.beq z'.length i.size with
            | false => simp [hb] at hm
            | true =>
              simp only [hb, cond_true, Option.some.injEq, Prod.mk.injEq] at hm
              obtain ⟨rfl, rfl⟩ := hm
              obtain ⟨w', r, h', v, e1, e2, e3, e4⟩ := clear_ok (P := P) H (tSlice_eq hte) hz (E.ev x) hp type
              exact ⟨v, w', G, r, h', .inl (by simp [execOp, resolve, invoke, builtin, e1]), .refl _, e2, e3, e4⟩
          · cases hm
        · cases hm
      · exact hp.elim
    · exact hp.elim
  · -- range
    rename_i t x
    cases he
    left
    split at hp
    · rename_i ht
      obtain ⟨w', r, h', v, e1, e2, e3, e4⟩ := range_ok (P := P) H ht (E.ev x) hp
      exact ⟨v, w', G, r, h', .inl (by simp [execOp, e1]), .refl _, e2, e3, e4⟩
    · exact hp.elim
  · -- next
    rename_i x s
    cases he
    left
    split at hp
    · obtain ⟨w', r, h', v, e1, e2, e3, e4⟩ := next_ok (P := P) (T := type) H (E.ev x) hp
      exact ⟨v, w', G, r, h', .inl (by simp [execOp, e1]), .refl _, e2, e3, e4⟩
    · exact hp.elim
  · -- store
    rename_i t x v
    cases he
    left
    obtain ⟨hi, hs⟩ := bif_and hp
    simp only [bindH, Lock_eq] at hs
    unfold bindH0 at hs
    split at hs
    · rename_i h' hr
      obtain ⟨w', e1, e2⟩ := store_ok H (E.ev x) (E.ev v) hi hr
      exact ⟨undef, w', G, undefAV, h', .inr ⟨by simp [execOp, e1], rfl⟩, .refl _, e2, .v _, hs⟩
    · exact hs.elim
  · -- alloc
    rename_i t
    cases he
    left
    split at hp
    · rename_i z hz
      obtain ⟨w', G', e1, e2, e3, e4⟩ := alloc_ok H hz
      exact ⟨_, w', G', _, _, .inl (by simp [execOp, e1]), e2, e3, e4, hp.out w.heap.size H.fresh⟩
    · exact hp.elim
  · -- box
    rename_i t x
    split at he
    · cases he
      left
      obtain ⟨h0, hk⟩ := hp
      obtain ⟨w', G', e1, e2, e3, e4⟩ := boxM_ok (P := P) H (t := t) (E.ev x) h0
      exact ⟨_, w', G', _, _, .inl (by simp [execOp, e1]), e2, e3, e4, hk.out w.heap.size H.fresh⟩
    · cases he
  · -- buildSlice
    rename_i t len ps
    split at he
    · cases he
      left
      split at hp
      · rename_i sz z htab
        have ht : ∃ e, P.underlying t = some (.slice e) := by
          unfold rowTab tSlice at htab
          cases hu : P.underlying t with
          | none => simp [hu] at htab
          | some d => cases d <;> simp [hu] at htab; exact ⟨_, rfl⟩
        obtain ⟨e, ht⟩ := ht
        simp only [rowW, Lock_eq] at hp
        unfold rowW0 at hp
        split at hp
        · rename_i es hf
          obtain ⟨arr, e1, e2, e3, e4, e5, e6⟩ := row_ok ht (PR.map E ps) htab hf w
          refine ⟨_, w.alloc (.cells arr e), _, _, _, .inl (by simp [execOp, e1]; rfl), H.le_addZ arr.size, H.alloc_row arr e sz es e2.1 e2.2.1 e2.2.2, ?_, hp w.heap.size H.fresh⟩
          exact .sl _ _ _ _ _ _ arr.size (Nat.le_refl _) (by simp [Gh.addZ]) (by rw [e4]; simp) (.inr (by simp))
        · exact hp.elim
      · exact hp.elim
    · cases he
  · -- makeSlice
    rename_i t l c
    cases he
    left
    split at hp
    · rename_i z bytes hm
      unfold makeTypes at hm
      split at hm
      · rename_i e hte
        split at hm
        · rename_i i z' hi hz
          cases hb : Nat.beq z'.length i.size with
          | false => simp [hb] at hm
          | true =>
            simp only [hb, cond_true, Option.some.injEq, Prod.mk.injEq] at hm
            obtain ⟨rfl, rfl⟩ := hm
            obtain ⟨v, w', G', r, h', e1, e2, e3, e4, e5⟩ := make_ok H (tSlice_eq hte) hz hi (beq_eq hb) (E.ev l) (E.ev c) hp
            exact ⟨v, w', G', r, h', .inl (by simp [execOp, e1]), e2, e3, e4, e5⟩
        · cases hm
      · cases hm
    · exact hp.elim
  · -- append
    rename_i args argTypes
    cases he
    left
    split at hp
    · rename_i s x t u hargs htypes
      have h1 : args = #[s, x] := by apply Array.ext'; simpa using hargs
      have h2 : argTypes = #[t, u] := by apply Array.ext'; simpa using htypes
      subst h1 h2
      split at hp
      · rename_i sz bytes hm
        unfold appendTypes at hm
        split at hm
        · rename_i e d hte hu
          split at hm
          · cases hm
          · rename_i d' i z hi hz hd
            cases hb : (Nat.beq z.length i.size && Nat.blt 0 i.size) with
            | false => simp [hb] at hm
            | true =>
              simp only [hb, cond_true, Option.some.injEq, Prod.mk.injEq] at hm
              obtain ⟨rfl, rfl⟩ := hm
              simp only [Bool.and_eq_true] at hb
              obtain ⟨v, w', G', r, h', e1, e2, e3, e4, e5⟩ := append_ok H (tSlice_eq hte) hu (fun k hk => hd k hk) hi hz (beq_eq hb.1) (by
                have := hb.2; unfold Nat.blt at this; exact Nat.le_of_ble_eq_true this) (E.ev s) (E.ev x) hp type
              exact ⟨v, w', G', r, h', .inl (by simp [execOp, resolve, invoke, builtin, e1]), e2, e3, e4, e5⟩
          · cases hm
        · cases hm
      · exact hp.elim
    · exact hp.elim
  · -- call
    rename_i f args argTypes
    split at he
    · cases he
      right
      split at hp
      · rename_i fid as hc
        obtain ⟨xs, e1, e2⟩ := callee_ok (P := P) (w := w) E hc argTypes type dst pos after guard hp.1
        exact ⟨fid, xs, e1, hp.2 w0 G w xs H e2⟩
      · exact hp.elim
    · cases he
  · -- a list and nil
    rename_i bop t x y bp
    split at he
    · cases he
      left
      split at hp
      · rename_i kind neg hk
        have hop : ∀ {b : Bool}, nilOp bop = some b → (bop = .eql ∧ b = false) ∨ (bop = .neq ∧ b = true) := by
          intro b hb
          unfold nilOp at hb
          split at hb
          · cases hb; exact .inl ⟨rfl, rfl⟩
          · cases hb; exact .inr ⟨rfl, rfl⟩
          · cases hb
        have fin : ∀ {yv : Value} {b : Bool}, y = .const yv → (eqGuard bop t x y (a.eval x) yv >>= fun _ => binOp bop t (a.eval x) yv).run P w = .ok (.bool b) w → K (.v (.bool b)) h →
            Comes1 P w0 G { dst, op := .binOp bop t x y bp, type, pos, after, guard } a w K := by
          intro yv b hy e1 e2
          subst hy
          refine ⟨.bool b, w, G, _, h, .inl ?_, .refl _, H, .v _, e2⟩
          have e3 : (execOp a.eval { dst, op := .binOp bop t x (.const yv) bp, type, pos, after, guard }).run P w =
              ((eqGuard bop t x (.const yv) (a.eval x) yv >>= fun _ => binOp bop t (a.eval x) yv).run P w).andThen fun v w' => .ok (.value v) w' :=
            Sem.run_bind P w _ _
          rw [e3, e1]
          rfl
        unfold nilKind at hk
        split at hk
        · rename_i e hte
          split at hk
          · rename_i b hb
            cases hk
            obtain ⟨b', e1, e2⟩ := nilTest_ok (w := w) hte (hop hb) (E.ev x) hp x (.const (.slice none 0 0))
            exact fin rfl e1 e2
          · cases hk
        · rename_i e hte
          split at hk
          · rename_i b hb
            cases hk
            obtain ⟨b', e1, e2⟩ := nilTestP_ok (w := w) hte (hop hb) (E.ev x) hp x (.const (.pointer none))
            exact fin rfl e1 e2
          · cases hk
        · rename_i e hte
          split at hk
          · rename_i b hb
            cases hk
            obtain ⟨b', e1, e2⟩ := nilTestI_ok (w := w) hte (hop hb) (E.ev x) hp x
            exact fin rfl e1 e2
          · cases hk
        · cases hk
      · exact hp.elim
    · cases he
  · cases he

end
end Go.Abs
