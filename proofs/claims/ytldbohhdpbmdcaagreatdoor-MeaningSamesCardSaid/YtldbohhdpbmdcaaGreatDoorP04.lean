/- By an AI agent. Part of the proof: an abstract machine over the model, an evaluator over it, and contracts. Texts: AbsY, AbsZ, AbsAA, AbsAB, AbsAC, AbsAD. -/
import Derived.Test.YtldbohhdpbmdcaaGreatDoorP03
import Derived.KernelRfl

namespace Go.Abs
section
variable {P : Program} {H : Hints} {n : Nat}

theorem wpPlan_mono {ops : List Oper} {mode : Nat → Nat} : ∀ {pl : List Step} {K K' : Env → Heap → Prop}, (∀ env h, K env h → K' env h) → ∀ {env : Env} {h : Heap}, wpPlan P ops mode pl K env h → wpPlan P ops mode pl K' env h := by
  intro pl
  induction pl with
  | nil => intro K K' hk env h hp; exact hk _ _ hp
  | cons s rest ih =>
    intro K K' hk env h hp
    cases s with
    | op i =>
      simp only [wpPlan] at *
      split at hp
      · exact wpOne_mono (fun _ _ hh => ih hk hh) hp
      · exact hp
    | as i j =>
      simp only [wpPlan] at *
      split at hp
      · split at hp
        · exact ⟨hp.1, ih hk hp.2⟩
        · exact hp
      · exact hp

theorem condW_mono {c : AV} {A B A' B' : Prop} (ha : A → A') (hb : B → B') (hp : condW c A B) : condW c A' B' := by
  unfold condW at *
  split at hp
  · split at hp
    · rename_i h; rw [if_pos h]; exact ha hp
    · rename_i h; rw [if_neg h]; exact hb hp
  · exact hp

theorem iterW_mono {S : Type} {B B' : (S → Heap → Prop) → S → Heap → Prop} (hB : ∀ K K' : S → Heap → Prop, (∀ s h, K s h → K' s h) → ∀ s h, B K s h → B' K' s h) : ∀ n s h, iterW B n s h → iterW B' n s h := by
  intro n
  induction n with
  | zero => intro s h hp; exact hp
  | succ n ih => intro s h hp; exact hB _ _ ih s h hp

theorem wpC_mono : ∀ {c : Code} {Q Q' : AExit → Env → Heap → Prop}, (∀ e env h, Q e env h → Q' e env h) → ∀ {env : Env} {h : Heap}, wpC P H n c Q env h → wpC P H n c Q' env h := by
  intro c
  induction c with
  | skip => intro Q Q' hq env h hp; exact hq _ _ _ hp
  | region id ops draw =>
    intro Q Q' hq env h hp
    simp only [wpC] at *
    cases hr : regionOk n ops.toList draw (H.mode id) (H.plan id ops.toList.length) with
    | false => rw [hr] at hp; exact hp.elim
    | true => rw [hr] at hp; exact wpPlan_mono (fun _ _ hh => hq _ _ _ hh) hp
  | seq a b iha ihb =>
    intro Q Q' hq env h hp
    simp only [wpC] at *
    refine iha (fun e env h hh => ?_) hp
    cases e with
    | normal => exact ihb hq hh
    | exit j => exact hq _ _ _ hh
    | ret => exact hq _ _ _ hh
  | cond c a b iha ihb =>
    intro Q Q' hq env h hp
    simp only [wpC] at *
    exact condW_mono (iha hq) (ihb hq) hp
  | block id b ih =>
    intro Q Q' hq env h hp
    simp only [wpC] at *
    refine ih (fun e env h hh => ?_) hp
    cases e with
    | normal => exact hq _ _ _ hh
    | exit j =>
      simp only at *
      cases hb : Nat.beq j id with
      | true => rw [hb] at hh; exact hq _ _ _ hh
      | false => rw [hb] at hh; exact hq _ _ _ hh
    | ret => exact hq _ _ _ hh
  | loop b ih =>
    intro Q Q' hq env h hp
    simp only [wpC] at *
    cases hl : loopOk H.V (H.chg (firstR b)) (H.ws (firstR b)) (writes b) with
    | false => rw [hl] at hp; exact hp.elim
    | true =>
      rw [hl] at hp
      obtain ⟨m, hm⟩ := hp
      refine ⟨m, iterW_mono ?_ m _ _ hm⟩
      intro K K' hk s h hh
      refine ih (fun e env' h' hh => ?_) hh
      cases e with
      | normal => obtain ⟨h2, h3, h4⟩ := hh; exact ⟨h2, h3, hk _ _ h4⟩
      | exit j => exact hq _ _ _ hh
      | ret => exact hq _ _ _ hh
  | exit id => intro Q Q' hq env h hp; exact hq _ _ _ hp
  | ret => intro Q Q' hq env h hp; exact hq _ _ _ hp
  | rangeFunc => intro Q Q' hq env h hp; exact hp
  | scope => intro Q Q' hq env h hp; exact hp
  | label => intro Q Q' hq env h hp; exact hp
  | goto => intro Q Q' hq env h hp; exact hp
  | refuse => intro Q Q' hq env h hp; exact hp

theorem setFrom_not {s : List AV} : ∀ {cs : List Nat} {k : Nat} {env : Env} {j : Nat}, j ∉ cs → setFrom s cs k env j = env j := by
  intro cs
  induction cs with
  | nil => intro k env j _; rfl
  | cons c cs ih =>
    intro k env j hj
    simp at hj
    simp only [setFrom]
    have : Nat.beq j c = false := by
      cases hb : Nat.beq j c
      · rfl
      · exact absurd (Nat.eq_of_beq_eq_true hb) hj.1
    rw [this, cond_false]
    exact ih hj.2

theorem setFrom_map {f env : Env} : ∀ {pre cs : List Nat} {j : Nat}, j ∈ cs → setFrom ((pre ++ cs).map f) cs pre.length env j = f j := by
  intro pre cs
  induction cs generalizing pre with
  | nil => intro j hj; cases hj
  | cons c cs ih =>
    intro j hj
    simp only [setFrom]
    cases hb : Nat.beq j c with
    | true =>
      have := Nat.eq_of_beq_eq_true hb
      subst this
      simp [lget, List.getD_eq_getElem?_getD]
    | false =>
      rw [cond_false]
      have := ih (pre := pre ++ [c]) (j := j) (by
        rcases List.mem_cons.1 hj with rfl | h
        · simp at hb
        · exact h)
      simpa using this

theorem setMany_not {cs : List Nat} {ws : Nat} {s : List AV} {env : Env} {j : Nat} (hj : j ∉ cs) : setMany cs ws s env j = killS ws env j := setFrom_not hj

theorem setMany_map {cs : List Nat} {ws : Nat} {f env : Env} {j : Nat} (hj : j ∈ cs) : setMany cs ws (cs.map f) env j = f j := by
  have := setFrom_map (f := f) (env := killS ws env) (pre := []) hj
  simpa [setMany] using this

theorem killS_not {ws : List Nat} {env : Env} {j : Nat} (hj : j ∉ ws) : killS (maskOf ws) env j = env j := by
  unfold killS
  have : testB (maskOf ws) j = false := by rw [testB_mask]; simpa using hj
  rw [this]; rfl

theorem killS_in {ws : List Nat} {env : Env} {j : Nat} (hj : j ∈ ws) : killS (maskOf ws) env j = .any := by
  unfold killS
  have : testB (maskOf ws) j = true := by rw [testB_mask]; simpa using hj
  rw [this]; rfl

theorem loopOk_eq {V : Nat} {cs : List Nat} {ws : Nat} {wr : List Nat} (h : loopOk V cs ws wr = true) : ws = maskOf wr ∧ (∀ j, j ∈ cs → j ∈ wr) ∧ ∀ j, j ∈ cs → testB V j = true := by
  unfold loopOk at h
  simp only [Bool.and_eq_true] at h
  obtain ⟨h1, h2⟩ := h
  have e := Nat.eq_of_beq_eq_true h2
  subst e
  refine ⟨rfl, fun j hj => ?_, fun j hj => ?_⟩
  · have := List.all_eq_true.1 h1 j hj
    simp only [Bool.and_eq_true, testB_mask] at this
    simpa using this.1
  · have := List.all_eq_true.1 h1 j hj
    simp only [Bool.and_eq_true] at this
    exact this.2

def Frame (V : Nat) (ws : List Nat) (env env' : Env) : Prop := ∀ j, testB V j = true → j ∉ ws → env' j = env j

theorem wpC_frame : ∀ {c : Code} {Q : AExit → Env → Heap → Prop} {env : Env} {h : Heap}, wpC P H n c Q env h →
    wpC P H n c (fun e env' h' => Q e env' h' ∧ Frame H.V (writes c) env env') env h := by
  intro c
  induction c with
  | skip => intro Q env h hp; exact ⟨hp, fun _ _ _ => rfl⟩
  | region id ops draw =>
    intro Q env h hp
    simp only [wpC] at *
    cases hr : regionOk n ops.toList draw (H.mode id) (H.plan id ops.toList.length) with
    | false => rw [hr] at hp; exact hp.elim
    | true =>
      rw [hr] at hp
      refine wpPlan_mono (fun env' h' hh => ⟨hh.1, fun j hv hj => ?_⟩) (wpPlan_frame hp)
      unfold restr
      rw [hv, cond_true]
      exact hh.2 j hj
  | seq a b iha ihb =>
    intro Q env h hp
    simp only [wpC] at *
    refine wpC_mono (fun e env1 h1 hh => ?_) (iha hp)
    obtain ⟨hh, hf⟩ := hh
    cases e with
    | normal =>
      refine wpC_mono (fun e env2 h2 hh2 => ⟨hh2.1, fun j hv hj => ?_⟩) (ihb hh)
      simp only [writes, List.mem_append, not_or] at hj
      rw [hh2.2 j hv hj.2, hf j hv hj.1]
    | exit j => exact ⟨hh, fun k hv hk => hf k hv (fun hm => hk (by simp [writes, hm]))⟩
    | ret => exact ⟨hh, fun k hv hk => hf k hv (fun hm => hk (by simp [writes, hm]))⟩
  | cond c a b iha ihb =>
    intro Q env h hp
    simp only [wpC] at *
    exact condW_mono (fun ha => wpC_mono (fun e env1 h1 hh => ⟨hh.1, fun k hv hk => hh.2 k hv (fun hm => hk (by simp [writes, hm]))⟩) (iha ha))
      (fun hb => wpC_mono (fun e env1 h1 hh => ⟨hh.1, fun k hv hk => hh.2 k hv (fun hm => hk (by simp [writes, hm]))⟩) (ihb hb)) hp
  | block id b ih =>
    intro Q env h hp
    simp only [wpC] at *
    refine wpC_mono (fun e env1 h1 hh => ?_) (ih hp)
    obtain ⟨hh, hf⟩ := hh
    cases e with
    | normal => exact ⟨hh, hf⟩
    | exit j =>
      simp only at *
      cases hb : Nat.beq j id with
      | true => rw [hb] at hh; exact ⟨hh, hf⟩
      | false => rw [hb] at hh; exact ⟨hh, hf⟩
    | ret => exact ⟨hh, hf⟩
  | loop b ih =>
    intro Q env h hp
    simp only [wpC] at *
    cases hl : loopOk H.V (H.chg (firstR b)) (H.ws (firstR b)) (writes b) with
    | false => rw [hl] at hp; exact hp.elim
    | true =>
      rw [hl] at hp
      obtain ⟨m, hm⟩ := hp
      obtain ⟨hws, hsub, _⟩ := loopOk_eq hl
      rw [hws] at hm ⊢
      refine ⟨m, iterW_mono ?_ m _ _ hm⟩
      intro K K' hk s h hh
      refine wpC_mono (fun e env' h' hh => ?_) (ih hh)
      obtain ⟨hh, hf⟩ := hh
      have hfr : Frame H.V (writes b) env env' := fun j hv hj => by
        rw [hf j hv hj]
        rw [setMany_not fun hm => hj (hsub j hm), killS_not hj]
      cases e with
      | normal => obtain ⟨h2, h3, h4⟩ := hh; exact ⟨h2, h3, hk _ _ h4⟩
      | exit j => exact ⟨hh, hfr⟩
      | ret => exact ⟨hh, hfr⟩
  | exit id => intro Q env h hp; exact ⟨hp, fun _ _ _ => rfl⟩
  | ret => intro Q env h hp; exact ⟨hp, fun _ _ _ => rfl⟩
  | rangeFunc => intro Q env h hp; exact hp
  | scope => intro Q env h hp; exact hp
  | label => intro Q env h hp; exact hp
  | goto => intro Q env h hp; exact hp
  | refuse => intro Q env h hp; exact hp

end
end Go.Abs

namespace Go.Abs
section
variable {P : Program} {ds : List Deferred} {w0 : World}

theorem ev_put_ne {env : Env} {d : Tmp} {u : AV} {v : Operand} (hv : v ≠ .tmp d) : ev (put env (some d) u) v = ev env v :=
  ev_put env (some d) u v fun k hk e => by cases hk; exact hv e

/-- An allocation and the store into it, for good. -/
theorem as_ok {n : Nat} {ops : Array Oper} {i j : Nat} {a b : Oper} (hi : ops[i]? = some a) (hj : ops[j]? = some b) {d k : Nat} {v : Operand} (hp : asPair P a b = some (d, k, v)) (hd : d < n)
    {env : Env} {h : Heap} {act : Act} {w : World} {G : Gh} (F : Fr ds w0 G n env h act w) (hl : (cellsOf (ev env v)).length = k) (hone : allOne (cellsOf (ev env v)) = true)
    {Q : Exit → Act → World → Prop} {K' : Act → World → Prop} (hK : ∀ act' w' G', G.le G' → Fr ds w0 G' n (put env (some d) (.iptr (cellsOf (ev env v)) 0)) h act' w' → K' act' w') :
    wpOp P ops Q i (wpOp P ops Q j K') act w := by
  obtain ⟨t, z, e1, e2, e3, e4, e5, e6, hz, hzt, hz0, rfl, hv⟩ := asPair_eq hp
  obtain ⟨zv, hzr, _, hinfo⟩ := zero_ok hz
  unfold wpOp
  simp only [hi]
  rw [if_pos (by simp [Region.wanted, e3])]
  left
  unfold Oper.wp
  obtain ⟨w1, G1, a1, a2, a3, a4⟩ := alloc_ok (P := P) F.wr hz
  have hrun : (execOp act.eval a).run P w = .ok (.value (.pointer (some ⟨w.heap.size, 0, none⟩))) w1 := by
    obtain ⟨dst, op, type, pos, after, guard⟩ := a
    simp only at e1
    subst e1
    simp [execOp, a1]
  rw [hrun, Oper.upon_value, e2]
  have F1 : Fr ds w0 G1 n (put env (some d) (.ptr z.length w.heap.size 0 0)) (h.upd w.heap.size (.row z.length [z])) (act.put a.dst (.pointer (some ⟨w.heap.size, 0, none⟩))) w1 := by
    rw [e2]
    exact F.put (d := some d) (fun q hq => by cases hq; exact hd) a2 a3 a4
  have hfresh := F.wr.fresh
  simp only [hj]
  rw [if_pos (by simp [Region.wanted, e6])]
  left
  have hst : eStore (tSize P t) (ev (put env (some d) (.ptr z.length w.heap.size 0 0)) (.tmp d)) (ev (put env (some d) (.ptr z.length w.heap.size 0 0)) v) (h.upd w.heap.size (.row z.length [z])) =
      some (h.upd w.heap.size (.row z.length [cellsOf (ev env v)])) := by
    rw [ev_put_ne hv]
    have e0 : ev (put env (some d) (.ptr z.length w.heap.size 0 0)) (.tmp d) = .ptr z.length w.heap.size 0 0 := by simp [ev, put]
    rw [e0]
    unfold eStore
    simp only []
    rw [Heap.upd_same]
    simp only []
    rw [if_pos (by refine ⟨?_, ?_, ?_, ?_, hone, ?_⟩ <;> first | trivial | rfl | (simp; done) | omega)]
    have ep : putCells (eget [z] 0) 0 (cellsOf (ev env v)) = cellsOf (ev env v) := by
      simp [putCells, eget, hl]
    rw [ep]
    simp
  obtain ⟨w2, b1, b2⟩ := store_ok (P := P) F1.wr (F1.er.ev (.tmp d)) (F1.er.ev v) hinfo hst
  have hrun2 : (execOp (act.put a.dst (.pointer (some ⟨w.heap.size, 0, none⟩))).eval b).run P w1 = .ok .skip w2 := by
    obtain ⟨dst, op, type, pos, after, guard⟩ := b
    simp only at e4
    subst e4
    simp [execOp, b1]
  rw [e2] at hrun2
  rw [hrun2, Oper.upon_skip, e5]
  have hrow : (h.upd w.heap.size (.row z.length [cellsOf (ev env v)])) w.heap.size = some (.row z.length [cellsOf (ev env v)]) := Heap.upd_same _ _ _
  have hO := b2.obj _ _ hrow
  obtain ⟨arr, T, hb, hn, hZ, hls, hvs⟩ := hO
  obtain ⟨hG, HF⟩ := b2.freeze hrow hb
  rw [Heap.del_upd _ _ _ hfresh] at HF
  refine hK _ w2 _ (a2.trans hG) ?_
  have hslot : (act.tmps.setIfInBounds d (.pointer (some ⟨w.heap.size, 0, none⟩))).size = n := by simp [F.size]
  refine ⟨HF, ?_, by simpa [Act.put] using hslot, by simpa [Act.put] using F.defers⟩
  have E0 := (F.er.mono (a2.trans hG)).put (d := some d) (fun q hq => by cases hq; rw [F.size]; exact hd) (r := .iptr (cellsOf (ev env v)) 0) (x := .pointer (some ⟨w.heap.size, 0, none⟩)) (by
    have := VR.iptr (G := G1.addI w.heap.size (fun o => arr[o]?)) (cellsOf (ev env v)) 0 w.heap.size 0 (fun q => arr.getD q undef) (fun q hq => by
        have hlt : q < arr.size := by
          have h1 : ([cellsOf (ev env v)] : List (List AV)).length * z.length ≤ arr.size := hn
          simp at h1; omega
        simp [Gh.addI, Array.getD, hlt]) (fun q hq => by
        have := hvs 0 q (by simp) (by omega)
        simp [eget] at this
        have e : arr.getD q undef = arr[q]?.getD undef := by simp [Array.getD_eq_getD_getElem?]
        rw [e]
        exact this.mono hG)
    simpa using this)
  simpa [Act.put] using E0

theorem wpPlan_ok {n : Nat} {ops : Array Oper} {mode : Nat → Nat} {Q : Exit → Act → World → Prop} (hs : slotsOk n ops.toList = true) :
    ∀ (pl : List Step) {K : Env → Heap → Prop} {env : Env} {h : Heap} {a : Act} {w : World} {G : Gh}, Fr ds w0 G n env h a w →
    (∀ env' h' a' w' G', G.le G' → Fr ds w0 G' n env' h' a' w' → K env' h' → Q .normal a' w') → wpPlan P ops.toList mode pl K env h → wpOps P ops Q (flatS pl) a w := by
  intro pl
  induction pl with
  | nil => intro K env h a w G F hK hp; exact hK env h a w G (.refl _) F hp
  | cons s rest ih =>
    intro K env h a w G F hK hp
    cases s with
    | op i =>
      simp only [flatS]
      rw [wpOps_cons]
      simp only [wpPlan] at hp
      split at hp
      · rename_i o hi
        have hi' : ops[i]? = some o := by simpa using hi
        refine wpOne_ok' F.wr F.er hi' (fun g d hd => by rw [F.size]; exact slotsOk_guard hs g d hd) (fun r y h' G' w' hG H' hv hk => ?_) hp
        exact ih (F.put (slotsOk_dst hs hi) hG H' hv) (fun env' h' a' w' G'' hG' F' hk' => hK env' h' a' w' G'' (hG.trans hG') F' hk') hk
      · exact hp.elim
    | as i j =>
      simp only [flatS]
      rw [wpOps_cons]
      simp only [wpPlan] at hp
      split at hp
      · rename_i oa ob hi hj
        split at hp
        · rename_i d k v hpair
          have hi' : ops[i]? = some oa := by simpa using hi
          have hj' : ops[j]? = some ob := by simpa using hj
          have hd : d < n := by
            obtain ⟨_, _, _, e2, _⟩ := asPair_eq hpair
            exact slotsOk_dst hs hi d e2
          have := as_ok (Q := Q) (K' := wpOps P ops Q (flatS rest)) hi' hj' hpair hd F hp.1.1 hp.1.2 (fun act' w' G' hG F' =>
            ih F' (fun env' h' a' w'' G'' hG' F'' hk' => hK env' h' a' w'' G'' (hG.trans hG') F'' hk') hp.2)
          refine wpOp_mono (fun a' w' hh => ?_) this
          rw [wpOps_cons]
          exact hh
        · exact hp.elim
      · exact hp.elim

theorem wpPlan_flat {ops : List Oper} {mode : Nat → Nat} : ∀ {pl : List Step} {K : Env → Heap → Prop} {env : Env} {h : Heap}, opsOnly pl = true → wpPlan P ops mode pl K env h → wpFlat P ops mode (flatS pl) K env h := by
  intro pl
  induction pl with
  | nil => intro K env h _ hp; exact hp
  | cons s rest ih =>
    intro K env h ho hp
    cases s with
    | op i =>
      simp only [flatS, wpFlat]
      simp only [wpPlan] at hp
      cases hi : ops[i]? with
      | some o => rw [hi] at hp; exact wpOne_mono (fun _ _ hh => ih ho hh) hp
      | none => rw [hi] at hp; exact hp
    | as i j => cases ho

theorem eqL_eq : ∀ {a b : List Nat}, eqL a b = true → a = b := by
  intro a
  induction a with
  | nil => intro b h; cases b <;> simp [eqL] at h; rfl
  | cons x a ih =>
    intro b h
    cases b with
    | nil => simp [eqL] at h
    | cons y b =>
      simp only [eqL, Bool.and_eq_true] at h
      rw [Nat.eq_of_beq_eq_true h.1, ih h.2]

inductive EqX : Exit → AExit → Prop
  | normal : EqX .normal .normal
  | exit (j) : EqX (.exit j) (.exit j)
  | ret : EqX .ret .ret

def Bdry (V : Nat) (env : Env) : Prop := ∀ j, testB V j = false → env j = .any

/-- What the model's code leaves. -/
def PostC (ds : List Deferred) (w0 : World) (G : Gh) (n : Nat) (V : Nat) (Q : AExit → Env → Heap → Prop) : Exit → Act → World → Prop := fun e a w =>
  ∃ e' env h G', EqX e e' ∧ G.le G' ∧ Fr ds w0 G' n env h a w ∧ Bdry V env ∧ Q e' env h

theorem ER.restr {G : Gh} {env : Env} {tmps : Array Value} (V : Nat) (E : ER G env tmps) : ER G (restr V env) tmps := by
  intro j
  unfold Go.Abs.restr
  cases testB V j
  · exact .any _
  · exact E j

theorem condW_eq {c : AV} {A B : Prop} (hp : condW c A B) : ∃ b, c = .v (.bool b) ∧ (b = true → A) ∧ (b = false → B) := by
  unfold condW at hp
  split at hp
  · rename_i b
    cases b
    · exact ⟨false, rfl, (fun h => by cases h), (fun _ => by simpa using hp)⟩
    · exact ⟨true, rfl, (fun _ => by simpa using hp), (fun h => by cases h)⟩
  · exact hp.elim

theorem wpC_ok (hm : P.follows .mixedOrders = true) {H : Hints} {n : Nat} : ∀ {c : Code} {Q : AExit → Env → Heap → Prop} {env : Env} {h : Heap} {a : Act} {w : World} {G : Gh},
    Fr ds w0 G n env h a w → Bdry H.V env → wpC P H n c Q env h → c.wp P (PostC ds w0 G n H.V Q) a w := by
  intro c
  induction c with
  | skip => intro Q env h a w G F B hp; exact wp_skip ⟨.normal, env, h, G, .normal, .refl _, F, B, hp⟩
  | region id ops draw =>
    intro Q env h a w G F B hp
    simp only [wpC] at hp
    cases hr : regionOk n ops.toList draw (H.mode id) (H.plan id ops.toList.length) with
    | false => rw [hr] at hp; exact hp.elim
    | true =>
      rw [hr] at hp
      simp only [cond_true] at hp
      unfold regionOk at hr
      simp only [Bool.and_eq_true] at hr
      obtain ⟨hs, hr⟩ := hr
      have fin : ∀ (env' : Env) (h' : Heap) (a' : Act) (w' : World) (G' : Gh), G.le G' → Fr ds w0 G' n env' h' a' w' → Q .normal (restr H.V env') h' → PostC ds w0 G n H.V Q .normal a' w' := fun env' h' a' w' G' hG F' hk =>
        ⟨.normal, restr H.V env', h', G', .normal, hG, ⟨F'.wr, F'.er.restr _, F'.size, F'.defers⟩, fun j hj => by unfold restr; rw [hj]; rfl, hk⟩
      cases draw with
      | false =>
        simp only at hr
        have he := eqL_eq hr
        refine wp_region ?_
        have := wpPlan_ok (Q := PostC ds w0 G n H.V Q) hs _ F fin hp
        rw [he] at this
        simpa using this
      | true =>
        simp only [Bool.and_eq_true] at hr
        obtain ⟨⟨h1, h2⟩, h3⟩ := hr
        refine wp_region_any hm ?_
        have hf := wpPlan_flat h1 hp
        exact planOk_any hs h2 h3 (h := h) (env := env) (G := G) ⟨F.wr.drew _, F.er, F.size, F.defers⟩ fin hf
  | seq x y ihx ihy =>
    intro Q env h a w G F B hp
    simp only [wpC] at hp
    refine wp_seq (wp_mono (ihx F B hp) fun e a' w' hh => ?_)
    obtain ⟨e', env', h', G', he, hG, F', B', hq⟩ := hh
    cases he with
    | normal =>
      refine wp_mono (ihy F' B' hq) fun e a'' w'' hh => ?_
      obtain ⟨e2, env2, h2, G2, he2, hG2, F2, B2, hq2⟩ := hh
      exact ⟨e2, env2, h2, G2, he2, hG.trans hG2, F2, B2, hq2⟩
    | exit j => exact ⟨_, env', h', G', .exit j, hG, F', B', hq⟩
    | ret => exact ⟨_, env', h', G', .ret, hG, F', B', hq⟩
  | cond c x y ihx ihy =>
    intro Q env h a w G F B hp
    simp only [wpC] at hp
    obtain ⟨b, hb, h1, h2⟩ := condW_eq hp
    have hv := F.er.ev c
    rw [hb] at hv
    have he : a.eval c = .bool b := by
      generalize a.eval c = cv at hv
      cases hv
      rfl
    exact wp_cond_split he (fun e => ihx F B (h1 e)) (fun e => ihy F B (h2 e))
  | block id x ih =>
    intro Q env h a w G F B hp
    simp only [wpC] at hp
    refine wp_block (wp_mono (ih F B hp) fun e a' w' hh => ?_)
    obtain ⟨e', env', h', G', he, hG, F', B', hq⟩ := hh
    cases he with
    | normal => exact ⟨_, env', h', G', .normal, hG, F', B', hq⟩
    | exit j =>
      simp only at hq
      simp only [Exit.inBlock]
      by_cases hj : j = id
      · subst hj
        rw [if_pos rfl]
        have : Nat.beq j j = true := by simp
        rw [this] at hq
        exact ⟨_, env', h', G', .normal, hG, F', B', hq⟩
      · rw [if_neg hj]
        have : Nat.beq j id = false := by
          cases hb : Nat.beq j id
          · rfl
          · exact absurd (Nat.eq_of_beq_eq_true hb) hj
        rw [this] at hq
        exact ⟨_, env', h', G', .exit j, hG, F', B', hq⟩
    | ret => exact ⟨_, env', h', G', .ret, hG, F', B', hq⟩
  | loop b ih =>
    intro Q env h a w G F B hp
    simp only [wpC] at hp
    cases hl : loopOk H.V (H.chg (firstR b)) (H.ws (firstR b)) (writes b) with
    | false => rw [hl] at hp; exact hp.elim
    | true =>
      rw [hl] at hp
      obtain ⟨m, hm'⟩ := hp
      refine wp_loop_rounds m ?_
      obtain ⟨hws, _, hV⟩ := loopOk_eq hl
      rw [hws] at hm'
      have BdS : ∀ s, Bdry H.V (setMany (H.chg (firstR b)) (maskOf (writes b)) s env) := by
        intro s j hj
        rw [setMany_not (fun hm => by rw [hV j hm] at hj; cases hj)]
        unfold killS
        cases testB (maskOf (writes b)) j
        · exact B j hj
        · rfl
      have main : ∀ (m : Nat) (s : List AV) (h : Heap) (a : Act) (w : World) (G' : Gh), G.le G' → Fr ds w0 G' n (setMany (H.chg (firstR b)) (maskOf (writes b)) s env) h a w →
          iterW (fun K s h => wpC P H n b (fun e env' h' => match e with
            | .normal => dropW h' fun h2 => K ((H.chg (firstR b)).map env') h2
            | .exit j => Q (.exit j) env' h'
            | .ret => Q .ret env' h') (setMany (H.chg (firstR b)) (maskOf (writes b)) s env) h) m s h → Code.rounds P b (PostC ds w0 G n H.V Q) m a w := by
        intro m
        induction m with
        | zero => intro s h a w G' _ _ hp; exact hp.elim
        | succ m ihm =>
          intro s h a w G' hG F' hp
          rw [rounds_succ]
          have hfr := wpC_frame (show wpC P H n b _ _ _ from hp)
          refine wp_mono (ih F' (BdS s) hfr) fun e a' w' hh => ?_
          obtain ⟨e', env', h', G'', he, hG', F'', B'', hq, hframe⟩ := hh
          cases he with
          | normal =>
            obtain ⟨h2, hle, hk⟩ := hq
            refine ihm _ h2 a' w' G'' (hG.trans hG') ⟨F''.wr.drop hle, ?_, F''.size, F''.defers⟩ hk
            intro j
            by_cases hj : j ∈ H.chg (firstR b)
            · rw [setMany_map hj]; exact F''.er j
            · rw [setMany_not hj]
              by_cases hw : j ∈ writes b
              · rw [killS_in hw]; exact .any _
              · rw [killS_not hw]
                cases hv : testB H.V j with
                | false => rw [B j hv]; exact .any _
                | true =>
                  have := hframe j hv hw
                  rw [setMany_not hj, killS_not hw] at this
                  rw [← this]
                  exact F''.er j
          | exit j => exact ⟨_, env', h', G'', .exit j, hG.trans hG', F'', B'', hq⟩
          | ret => exact ⟨_, env', h', G'', .ret, hG.trans hG', F'', B'', hq⟩
      have F0 : Fr ds w0 G n (setMany (H.chg (firstR b)) (maskOf (writes b)) ((H.chg (firstR b)).map env) env) h a w := by
        refine ⟨F.wr, ?_, F.size, F.defers⟩
        intro j
        by_cases hj : j ∈ H.chg (firstR b)
        · rw [setMany_map hj]; exact F.er j
        · rw [setMany_not hj]
          by_cases hw : j ∈ writes b
          · rw [killS_in hw]; exact .any _
          · rw [killS_not hw]; exact F.er j
      exact main m _ h a w G (.refl _) F0 hm'
  | exit id => intro Q env h a w G F B hp; exact wp_exit ⟨_, env, h, G, .exit id, .refl _, F, B, hp⟩
  | ret => intro Q env h a w G F B hp; exact wp_ret ⟨_, env, h, G, .ret, .refl _, F, B, hp⟩
  | rangeFunc => intro Q env h a w G F B hp; exact hp.elim
  | scope => intro Q env h a w G F B hp; exact hp.elim
  | label => intro Q env h a w G F B hp; exact hp.elim
  | goto => intro Q env h a w G F B hp; exact hp.elim
  | refuse => intro Q env h a w G F B hp; exact hp.elim

end
end Go.Abs

namespace Go.Abs

def retVals (P : Program) : List ResultVar → Env → Heap → (List AV → Prop) → Prop
  | [], _, _, K => K []
  | .tmp t :: r, env, h, K => retVals P r env h fun vs => K (env t :: vs)
  | .cell a t :: r, env, h, K => match tAgg P t with
    | some g => match (P.info? t).isSome with | true => bindO (eLoad g (if g then tSize P t else 1) (env a) h) (fun v => retVals P r env h fun vs => K (v :: vs)) | false => False
    | none => False

def retQ (Q : AV → Heap → Prop) (vs : List AV) (h : Heap) : Prop :=
  match vs with
  | [v] => Q v h
  | vs => Q (.tup vs) h

/-- What must be true ahead of a function's body. -/
def wpFn (P : Program) (H : Hints) (n : Nat) (res : List ResultVar) (c : Code) (args : List AV) (Q : AV → Heap → Prop) (h : Heap) : Prop :=
  wpC P H n c (fun e env h => match e with
    | .normal => retVals P res env h fun vs => retQ Q vs h
    | .ret => retVals P res env h fun vs => retQ Q vs h
    | .exit _ => False) (restr H.V fun j => lget args j) h

section
variable {P : Program}

def rv (tmps : Array Value) : ResultVar → Sem Value
  | .tmp t => pure (tmps.getD t undef)
  | .cell a t => do loadVar t (← asAddr (tmps.getD a undef))

theorem retVals_ok {ds : List Deferred} {w0 : World} {G : Gh} {n : Nat} {env : Env} {h : Heap} {a : Act} {w : World} (F : Fr ds w0 G n env h a w) : ∀ {l : List ResultVar} {K : List AV → Prop}, retVals P l env h K →
    ∃ (vs : List AV) (xs : List Value), (l.mapM (rv a.tmps) : Sem (List Value)).run P w = .ok xs w ∧ vs.length = xs.length ∧ (∀ k, k < vs.length → VR G (lget vs k) (xs.getD k undef)) ∧ K vs := by
  intro l
  induction l with
  | nil => intro K hp; exact ⟨[], [], rfl, rfl, fun k hk => absurd hk (by simp), hp⟩
  | cons r l ih =>
    intro K hp
    have step : ∀ {v : AV} {x : Value} {vs : List AV} {xs : List Value}, VR G v x → vs.length = xs.length → (∀ k, k < vs.length → VR G (lget vs k) (xs.getD k undef)) →
        (v :: vs).length = (x :: xs).length ∧ ∀ k, k < (v :: vs).length → VR G (lget (v :: vs) k) ((x :: xs).getD k undef) := by
      intro v x vs xs hv hl hvs
      refine ⟨by simp [hl], fun k hk => ?_⟩
      cases k with
      | zero => exact hv
      | succ k => exact hvs k (by simpa using hk)
    cases r with
    | tmp t =>
      simp only [retVals] at hp
      obtain ⟨vs, xs, e1, e2, e3, e4⟩ := ih hp
      obtain ⟨s1, s2⟩ := step (F.er t) e2 e3
      refine ⟨_, _, ?_, s1, s2, e4⟩
      rw [List.mapM_cons]
      simp only [Sem.run_bind, rv, Sem.run_pure, Result.andThen_ok]
      rw [e1]
      rfl
    | cell x t =>
      simp only [retVals] at hp
      split at hp
      · rename_i g hg
        obtain ⟨hi, hp⟩ := bif_and hp
        simp only [bindO, Lock_eq] at hp
        unfold bindO0 at hp
        split at hp
        · rename_i v hv
          obtain ⟨y, y1, y2⟩ := load_ok F.wr (F.er x) hg hi hv
          obtain ⟨vs, xs, e1, e2, e3, e4⟩ := ih hp
          obtain ⟨s1, s2⟩ := step y2 e2 e3
          refine ⟨_, _, ?_, s1, s2, e4⟩
          have hx : ∃ ad, a.tmps.getD x undef = .pointer (some ad) := by
            have hE := F.er x
            unfold eLoad at hv
            split at hv
            · rename_i cs off hc
              obtain ⟨b, o, e, _⟩ := cellsAt_ok F.wr hE hc
              exact ⟨_, e⟩
            · cases hv
          obtain ⟨ad, hx⟩ := hx
          rw [hx] at y1
          have y1' : (loadVar t ad).run P w = .ok y w := by simpa [Instr.loadAt, Instr.sureAddr] using y1
          have y2' : (rv a.tmps (.cell x t)).run P w = .ok y w := by
            simp only [rv, hx, asAddr, Sem.run_bind, Sem.run_pure, Result.andThen_ok]
            exact y1'
          rw [List.mapM_cons, Sem.run_bind, y2', Result.andThen_ok, Sem.run_bind, e1]
          rfl
        · exact hp.elim
      · exact hp.elim

theorem results_ok {ds : List Deferred} {w0 : World} {G : Gh} {n : Nat} {env : Env} {h : Heap} {a : Act} {w : World} (F : Fr ds w0 G n env h a w) {fn : Func} {Q : AV → Heap → Prop}
    (hp : retVals P fn.results.toList env h fun vs => retQ Q vs h) : ∃ v r, (results fn a.tmps).run P w = .ok v w ∧ VR G r v ∧ Q r h := by
  obtain ⟨vs, xs, e1, e2, e3, e4⟩ := retVals_ok F hp
  have hrun : (results fn a.tmps).run P w = .ok (if h : xs.toArray.size = 1 then xs.toArray[0] else .tuple xs.toArray) w := by
    have hres : results fn a.tmps = (fn.results.mapM (rv a.tmps) >>= fun vs => pure (if h : vs.size = 1 then vs[0] else .tuple vs)) := rfl
    rw [hres, Array.mapM_eq_mapM_toList]
    simp only [Sem.run_bind, Sem.run_map]
    rw [e1]
    rfl
  rw [hrun]
  unfold retQ at e4
  split at e4
  · rename_i v
    have : xs.length = 1 := by simpa using e2.symm
    obtain ⟨x, rfl⟩ := List.length_eq_one_iff.1 this
    exact ⟨x, v, by simp, by simpa using e3 0 (by simp), e4⟩
  · rename_i vs' hne
    have h1 : xs.toArray.size ≠ 1 := by
      intro h1
      have : vs.length = 1 := by simpa [e2] using h1
      obtain ⟨v, rfl⟩ := List.length_eq_one_iff.1 this
      exact hne v rfl
    refine ⟨.tuple xs.toArray, .tup vs, by rw [dif_neg h1], ?_, e4⟩
    refine .tup _ _ (by simpa using e2) fun k hk => ?_
    have := e3 k hk
    simpa [Array.getD_eq_getD_getElem?, List.getD_eq_getElem?_getD] using this

theorem ACalls_of_wp (hm : P.follows .mixedOrders = true) {f : FuncId} {fn : Func} {c : Code} (hf : P.funcs[f]? = some fn) (hb : fn.body = some c)
    (hcall : ∀ xs w, (callFunc f xs).run P w = .ok (.enter f xs) w) {H : Hints} {args : List AV} {h : Heap} {Q : AV → Heap → Prop} (ha : args.length ≤ fn.ntmps)
    (hp : wpFn P H fn.ntmps fn.results.toList c args Q h) : ACalls P f args h Q := by
  refine ⟨hcall, fun w0 G w xs hw hx => ?_⟩
  refine calls_of_wp hf hb ?_
  have hxs : xs.size ≤ fn.ntmps := by rw [← hx.1]; exact ha
  have F : Fr [] w0 G fn.ntmps (restr H.V fun j => lget args j) h { tmps := xs ++ Array.replicate (fn.ntmps - xs.size) undef, defers := [] } w := by
    refine ⟨hw, ER.restr H.V ?_, by simp; omega, rfl⟩
    intro j
    rcases Nat.lt_or_ge j args.length with h | h
    · have := hx.2 j h
      show VR G (lget args j) ((xs ++ Array.replicate (fn.ntmps - xs.size) undef).getD j undef)
      rw [getD_append_left _ _ _ (by rw [← hx.1]; exact h)]
      exact this
    · have : lget args j = .any := by simp [lget, List.getD_eq_getElem?_getD, h]
      show VR G (lget args j) _
      rw [this]
      exact .any _
  have B : Bdry H.V (restr H.V fun j => lget args j) := fun j hj => by unfold restr; rw [hj]; rfl
  refine wp_mono (wpC_ok hm F B hp) fun e a' w' hh => ?_
  obtain ⟨e', env', h', G', he, hG, F', B', hq⟩ := hh
  cases he with
  | normal =>
    obtain ⟨v, r, e1, e2, e3⟩ := results_ok F' hq
    exact ⟨F'.defers, v, e1, v, r, h', G', rfl, hG, F'.wr, e2, e3⟩
  | ret =>
    obtain ⟨v, r, e1, e2, e3⟩ := results_ok F' hq
    exact ⟨F'.defers, v, e1, v, r, h', G', rfl, hG, F'.wr, e2, e3⟩
  | exit j => exact hq.elim

/-- What is known of an answer may be said otherwise. -/
def GStep (r : AV) (h : Heap) (r' : AV) (h' : Heap) : Prop :=
  ∀ (w0 : World) (G : Gh) (w : World) (v : Value), WR w0 G h w → VR G r v → ∃ G', G.le G' ∧ WR w0 G' h' w ∧ VR G' r' v

theorem GStep.refl (r : AV) (h : Heap) : GStep r h r h := fun _ G _ _ a b => ⟨G, .refl _, a, b⟩
theorem GStep.trans {r r' r'' : AV} {h h' h'' : Heap} (a : GStep r h r' h') (b : GStep r' h' r'' h'') : GStep r h r'' h'' := fun w0 G w v hw hv => by
  obtain ⟨G', l, hw', hv'⟩ := a w0 G w v hw hv
  obtain ⟨G'', l', hw'', hv''⟩ := b w0 G' w v hw' hv'
  exact ⟨G'', l.trans l', hw'', hv''⟩
theorem GStep.drop (r : AV) {h h' : Heap} (hh : h'.le h) : GStep r h r h' := fun _ G _ _ a b => ⟨G, .refl _, a.drop hh, b⟩
theorem GStep.nil (sz : Nat) (h : Heap) : GStep (.v (.slice none 0 0)) h (.imm sz []) h := fun _ G _ _ a b => ⟨G, .refl _, a, by cases b; exact .immNil _ _ _⟩

theorem GStep.freezeAt {id sz : Nat} {es : List (List AV)} {h : Heap} {r r' : AV} (ho : h id = some (.row sz es))
    (hr : ∀ G G' : Gh, G.le G' → (∀ i len v, i + len ≤ es.length → VR G (.sl sz id i len) v → VR G' (.imm sz ((es.drop i).take len)) v) → ∀ v, VR G r v → VR G' r' v) : GStep r h r' (h.del id) := by
  intro w0 G w v hw hv
  have hO := hw.obj id _ ho
  have hO' := hO
  obtain ⟨arr, T, hb, _⟩ := hO'
  obtain ⟨hG, HF⟩ := hw.freeze ho hb
  refine ⟨_, hG, HF, hr _ _ hG (fun i len v hle hv => ?_) v hv⟩
  cases hv with
  | sl _ _ _ _ o cap n hcap hZ hn ho =>
    rcases ho with hc | ho
    · have h0 : len = 0 := by omega
      subst h0
      simp only [List.take_zero]
      exact .immNil _ _ _
    · subst ho
      exact hO.imm hb hG (fun o => by simp [Gh.addI]) len i cap hle hcap

theorem GStep.freeze {id sz i len : Nat} {es : List (List AV)} {h : Heap} (ho : h id = some (.row sz es)) (hle : i + len ≤ es.length) :
    GStep (.sl sz id i len) h (.imm sz ((es.drop i).take len)) (h.del id) :=
  GStep.freezeAt ho fun _ _ _ hh v hv => hh i len v hle hv

theorem GStep.freezeAll {id sz : Nat} {es : List (List AV)} {h : Heap} (ho : h id = some (.row sz es)) : GStep (.sl sz id 0 es.length) h (.imm sz es) (h.del id) := by
  have := GStep.freeze (i := 0) (len := es.length) ho (by simp)
  simpa using this

theorem ACalls.ghost {f : FuncId} {args : List AV} {h : Heap} {Q : AV → Heap → Prop} (H : ACalls P f args h fun r h1 => ∃ r' h2, GStep r h1 r' h2 ∧ Q r' h2) : ACalls P f args h Q :=
  ⟨H.1, fun w0 G w xs a b => (H.2 w0 G w xs a b).mono fun _ _ ⟨v, r, h', G', e, l, wr, vr, r', h2, g, q⟩ => by
    obtain ⟨G'', l', wr', vr'⟩ := g w0 G' _ v wr vr
    exact ⟨v, r', h2, G'', e, l.trans l', wr', vr', q⟩⟩

end
end Go.Abs

namespace Go.Abs

abbrev int (n : Int) : AV := .v (.int .i64 n)
abbrev bool (b : Bool) : AV := .v (.bool b)
abbrev nilS : AV := .v (.slice none 0 0)
abbrev str (s : ByteArray) : AV := .v (.string s)

def lookN (d : Nat) : List (Nat × Nat) → Nat → Nat
  | [], _ => d
  | (k, v) :: r, i => bif Nat.beq k i then v else lookN d r i

def lookP : List (Nat × List Step) → Nat → Nat → List Step
  | [], _, n => (List.range n).map .op
  | (k, v) :: r, i, n => bif Nat.beq k i then v else lookP r i n

def lookL : List (Nat × List Nat) → Nat → List Nat
  | [], _ => []
  | (k, v) :: r, i => bif Nat.beq k i then v else lookL r i

def mkH (V : Nat) (modes : List (Nat × Nat)) (plans : List (Nat × List Step)) (chgs : List (Nat × List Nat)) (ws : List (Nat × Nat)) : Hints :=
  { V, mode := fun r i => lookN 0 modes (r * 4096 + i), plan := lookP plans, chg := lookL chgs, ws := lookN 0 ws }

/-- A call of a function value. -/
def callV (P : Program) (f : AV) (args : List AV) (h : Heap) (K : AV → Prop) : Prop :=
  match callee f args with
  | some (fid, as) => callP P fid as h K
  | none => False

def callVG (P : Program) (c : Prop) (f : AV) (args : List AV) (h : Heap) (K : AV → Prop) : Prop :=
  match callee f args with
  | some (fid, as) => callG P c fid as h K
  | none => False

def callVE (P : Program) (f : AV) (args : List AV) (h : Heap) (K : AV → Heap → Prop) : Prop :=
  match callee f args with
  | some (fid, as) => ACalls P fid as h K
  | none => False

/-- The theorem that a shallow text is used by. -/
theorem ok_of {P : Program} (hm : P.follows .mixedOrders = true) {f : FuncId} {fn : Func} {c : Code} {n : Nat} {res : List ResultVar} (hf : P.funcs[f]? = some fn) (hb : fn.body = some c) (hn : fn.ntmps = n) (hr : fn.results.toList = res)
    (hcall : ∀ xs w, (callFunc f xs).run P w = .ok (.enter f xs) w) {H : Hints} {args : List AV} {h : Heap} {Q : AV → Heap → Prop} {p : Prop} (ha : Nat.ble args.length n = true)
    (he : p = wpFn P H n res c args Q h) (hp : p) : ACalls P f args h Q :=
  ACalls_of_wp hm hf hb hcall (H := H) (by subst hn; exact Nat.le_of_ble_eq_true ha) (by subst hn hr; rw [← he]; exact hp)

end Go.Abs

namespace Go.Abs

/-! How the shallow texts are opened. -/

@[simp] theorem bindO_some (v : AV) (K : AV → Prop) : bindO (some v) K = K v := by
  simp only [bindO, Lock_eq, bindO0]

theorem bindO_of {e : Option AV} {v : AV} {K : AV → Prop} (he : e = some v) (hk : K v) : bindO e K := by subst he; simpa using hk

@[simp] theorem bindH_some (v : Heap) (K : Heap → Prop) : bindH (some v) K = K v := by
  simp only [bindH, Lock_eq, bindH0]

@[simp] theorem isV_v (x : Value) : isV (.v x) = True := by simp [isV]

theorem gdO_pos {c : Prop} (hc : c) (e : Option AV) (K : AV → Prop) : gdO c e K = bindO e K := by
  simp only [gdO, bindO, Lock_eq, gdO0, bindO0, iteAV, hc, if_true, true_implies]
  cases e <;> simp

theorem gdO_neg {c : Prop} (hc : ¬ c) (e : Option AV) (K : AV → Prop) : gdO c e K = K undefAV := by
  simp [gdO, Lock_eq, gdO0, iteAV, hc]

@[simp] theorem gdO_True (e : Option AV) (K : AV → Prop) : gdO True e K = bindO e K := gdO_pos trivial e K
@[simp] theorem gdO_False (e : Option AV) (K : AV → Prop) : gdO False e K = K undefAV := gdO_neg (by simp) e K

@[simp] theorem condW_bool (b : Bool) (A B : Prop) : condW (.v (.bool b)) A B = if b = true then A else B := rfl

theorem callP_of {P : Program} {f : FuncId} {args : List AV} {h : Heap} {K : AV → Prop} {r : AV} (hc : APure P f args r h) (hk : K r) : callP P f args h K := ⟨r, hc, hk⟩
theorem callG_pos {P : Program} {c : Prop} {f : FuncId} {args : List AV} {h : Heap} {K : AV → Prop} {r : AV} (hc : c) (hp : APure P f args r h) (hk : K r) : callG P c f args h K :=
  ⟨r, fun _ => hp, by simpa [iteAV, hc] using hk⟩
theorem callG_neg {P : Program} {c : Prop} {f : FuncId} {args : List AV} {h : Heap} {K : AV → Prop} (hc : ¬ c) (hk : K undefAV) : callG P c f args h K :=
  ⟨.any, fun h => absurd h hc, by simpa [iteAV, hc] using hk⟩
@[simp] theorem callG_False {P : Program} {f : FuncId} {args : List AV} {h : Heap} {K : AV → Prop} : callG P False f args h K = K undefAV := by
  refine propext ⟨fun ⟨r, _, hk⟩ => by simpa [iteAV] using hk, fun hk => callG_neg (by simp) hk⟩
@[simp] theorem callG_True {P : Program} {f : FuncId} {args : List AV} {h : Heap} {K : AV → Prop} : callG P True f args h K = callP P f args h K := by
  refine propext ⟨fun ⟨r, a, hk⟩ => ⟨r, a trivial, by simpa [iteAV] using hk⟩, fun ⟨r, a, hk⟩ => ⟨r, fun _ => a, by simpa [iteAV] using hk⟩⟩

theorem newW_of {h : Heap} {o : AObj} {K : Nat → Heap → Prop} (hk : ∀ id, h id = none → K id (h.upd id o)) : newW h o K := Lock.mk hk
theorem dropW_of {h h' : Heap} {K : Heap → Prop} (hh : h'.le h) (hk : K h') : dropW h K := ⟨h', hh, hk⟩
theorem dropW_same {h : Heap} {K : Heap → Prop} (hk : K h) : dropW h K := ⟨h, .refl _, hk⟩

/-- A loop: an invariant with a measure that falls. -/
theorem loopW_intro {B : (List AV → Heap → Prop) → List AV → Heap → Prop} (Inv : Nat → List AV → Heap → Prop)
    (step : ∀ m s h K, Inv m s h → (∀ m' s' h', m' < m → Inv m' s' h' → K s' h') → B K s h) {m : Nat} {s : List AV} {h : Heap} (h0 : Inv m s h) : loopW B s h := by
  have key : ∀ n m, m ≤ n → ∀ s h, Inv m s h → iterW B (n + 1) s h := by
    intro n
    induction n with
    | zero =>
      intro m hm s h hi
      exact step m s h _ hi fun m' s' h' hlt _ => by omega
    | succ n ih =>
      intro m hm s h hi
      exact step m s h _ hi fun m' s' h' hlt hi' => ih m' (by omega) s' h' hi'
  exact ⟨m + 1, key m m (Nat.le_refl _) s h h0⟩

@[simp] theorem cellsOf_agg (cs : List AV) : cellsOf (.agg cs) = cs := rfl
@[simp] theorem cellsOf_imm (sz : Nat) (es : List (List AV)) : cellsOf (.imm sz es) = [.imm sz es] := rfl
@[simp] theorem cellsOf_sl (sz id i len : Nat) : cellsOf (.sl sz id i len) = [.sl sz id i len] := rfl
@[simp] theorem cellsOf_int (n : Int) : cellsOf (int n) = [int n] := rfl
@[simp] theorem cellsOf_bool (n : Bool) : cellsOf (bool n) = [bool n] := rfl
@[simp] theorem cellsOf_str (n : ByteArray) : cellsOf (str n) = [str n] := rfl
@[simp] theorem cellsOf_nil : cellsOf nilS = [nilS] := rfl
@[simp] theorem cellsOf_iptr (cs : List AV) (o : Nat) : cellsOf (.iptr cs o) = [.iptr cs o] := rfl
@[simp] theorem cellsOf_ptr (sz id i o : Nat) : cellsOf (.ptr sz id i o) = [.ptr sz id i o] := rfl
@[simp] theorem cellsOf_clo (f : FuncId) (a b : List AV) : cellsOf (.clo f a b) = [.clo f a b] := rfl
@[simp] theorem cellsOf_map (id : Nat) : cellsOf (.map id) = [.map id] := rfl

@[simp] theorem eFA_iptr (off : Nat) (cs : List AV) (o : Nat) : eFA off (.iptr cs o) = some (.iptr cs (o + off)) := rfl
@[simp] theorem eFA_ptr (off sz id i o : Nat) : eFA off (.ptr sz id i o) = some (.ptr sz id i (o + off)) := rfl

theorem eLoad_iptr (g : Bool) (n : Nat) (cs : List AV) (off : Nat) (h : Heap) : eLoad g n (.iptr cs off) h = ePart g n cs off := rfl
@[simp] theorem eLoad_cell (cs : List AV) (off : Nat) (h : Heap) (hl : off < cs.length) : eLoad false 1 (.iptr cs off) h = some (lget cs off) := by
  rw [eLoad_iptr]; simp [ePart]; omega
theorem eLoad_agg (n : Nat) (cs : List AV) (h : Heap) (hl : cs.length = n) : eLoad true n (.iptr cs 0) h = some (.agg cs) := by
  rw [eLoad_iptr]; simp [ePart, hl]; rw [← hl]; simp

theorem eLoad_ptr {g : Bool} {n sz id i off : Nat} {h : Heap} {es : List (List AV)} (ho : h id = some (.row sz es)) (hi : i < es.length) :
    eLoad g n (.ptr sz id i off) h = ePart g n (eget es i) off := by
  simp [eLoad, cellsAt, ho, hi]

@[simp] theorem eLen_imm (sz : Nat) (es : List (List AV)) : eLen (.imm sz es) = some (int es.length) := rfl
@[simp] theorem eLen_sl (sz id i len : Nat) : eLen (.sl sz id i len) = some (int len) := rfl
@[simp] theorem eLen_nil : eLen nilS = some (int 0) := rfl
@[simp] theorem eLenStr_str (s : ByteArray) : eLenStr (str s) = some (int s.size) := rfl

theorem eIxS_imm {sz : Nat} {es : List (List AV)} {n : Int} (h0 : 0 ≤ n) (h1 : n.toNat < es.length) : eIxS sz (.imm sz es) (int n) = some (.iptr (eget es n.toNat) 0) := by
  simp [eIxS, h0, h1]
theorem eIxS_sl {sz id j len : Nat} {n : Int} (h0 : 0 ≤ n) (h1 : n.toNat < len) : eIxS sz (.sl sz id j len) (int n) = some (.ptr sz id (j + n.toNat) 0) := by
  simp [eIxS, h0, h1]
@[simp] theorem eIxS_immN {sz : Nat} {es : List (List AV)} {n : Nat} (h1 : n < es.length) : eIxS sz (.imm sz es) (int (n : Int)) = some (.iptr (eget es n) 0) := by
  simp [eIxS, h1]
@[simp] theorem eIxS_slN {sz id j len : Nat} {n : Nat} (h1 : n < len) : eIxS sz (.sl sz id j len) (int (n : Int)) = some (.ptr sz id (j + n) 0) := by
  simp [eIxS, h1]

@[simp] theorem eUn_not (b : Bool) : eUn .not (bool b) = some (bool !b) := rfl
@[simp] theorem ePick_bool (t : Bool) (a b : AV) : ePick (bool t) a b = some (if t then a else b) := rfl
@[simp] theorem eBin_lss (a b : Int) : eBin .lss false (int a) (int b) = some (bool (decide (a < b))) := rfl
@[simp] theorem eBin_leq (a b : Int) : eBin .leq false (int a) (int b) = some (bool (decide (a ≤ b))) := rfl
@[simp] theorem eBin_gtr (a b : Int) : eBin .gtr false (int a) (int b) = some (bool (decide (a > b))) := rfl
@[simp] theorem eBin_geq (a b : Int) : eBin .geq false (int a) (int b) = some (bool (decide (a ≥ b))) := rfl
@[simp] theorem eBin_eql (a b : Int) : eBin .eql false (int a) (int b) = some (bool (a == b)) := rfl
@[simp] theorem eBin_neq (a b : Int) : eBin .neq false (int a) (int b) = some (bool (a != b)) := rfl
@[simp] theorem eBin_eqlB (a b : Bool) : eBin .eql true (bool a) (bool b) = some (bool (a == b)) := rfl
@[simp] theorem eBin_neqB (a b : Bool) : eBin .neq true (bool a) (bool b) = some (bool (!(a == b))) := rfl
theorem eBin_add (a b : Int) : eBin .add false (int a) (int b) = some (int (IntKind.i64.wrap (a + b))) := rfl
theorem eBin_sub (a b : Int) : eBin .sub false (int a) (int b) = some (int (IntKind.i64.wrap (a - b))) := rfl

theorem wrap_small {a : Int} (h1 : -9223372036854775808 ≤ a) (h2 : a < 9223372036854775808) : IntKind.i64.wrap a = a := by
  simp [IntKind.wrap, IntKind.bits, IntKind.signed, IntKind.max, IntKind.min]
  omega

end Go.Abs
namespace Go.Abs

theorem APure.of {P : Program} {f : FuncId} {args : List AV} {res : AV} {h : Heap} (H : ∀ h', h.le h' → ACalls P f args h' fun r h'' => GStep r h'' res h') : APure P f args res h :=
  fun h' hh => ACalls.ghost ((H h' hh).mono fun r h'' g => ⟨res, h', g, rfl, rfl⟩)

@[simp] theorem GStep_refl (r : AV) (h : Heap) : GStep r h r h = True := by simp [GStep.refl]
@[simp] theorem GStep_nil (sz : Nat) (h : Heap) : GStep nilS h (.imm sz []) h = True := by simp [GStep.nil]

@[simp] theorem eImm_one (z a : AV) (hc : (cellsOf a).length = 1) : eImm 1 [z] 1 [(0, a)] = some (.imm 1 [cellsOf a]) := by simp [eImm, eFillRow, hc]
@[simp] theorem eImm_two (z a b : AV) (hc : (cellsOf a).length = 1) (hd : (cellsOf b).length = 1) : eImm 1 [z] 2 [(0, a), (1, b)] = some (.imm 1 [cellsOf a, cellsOf b]) := by
  simp [eImm, eFillRow, hc, hd, List.replicate, List.set]

end Go.Abs
namespace Go.Abs

@[simp] theorem isV_undef : isV undefAV = True := by simp [isV, undefAV]
@[simp] theorem undef_bool (b : Bool) : (undefAV = bool b) = False := by simp [undefAV, undef]

end Go.Abs

namespace Go.Abs

theorem makeW_of {z : List AV} {bytes : Nat} {n : Nat} {h : Heap} {K : AV → Heap → Prop} (hn : n ≤ most) (hb : bytes ≤ 65536)
    (hk : ∀ id, h id = none → K (.sl z.length id 0 n) (h.upd id (.row z.length (List.replicate n z)))) : makeW z bytes (int n) (int n) h K := by
  refine Lock.mk ?_
  show (_ ∧ _)
  refine ⟨⟨by omega, by omega, by exact_mod_cast hn, hb⟩, fun id hid => ?_⟩
  simpa using hk id hid

theorem makeW_ofI {z : List AV} {bytes : Nat} {n : Int} {h : Heap} {K : AV → Heap → Prop} (h0 : 0 ≤ n) (hn : n.toNat ≤ most) (hb : bytes ≤ 65536)
    (hk : ∀ id, h id = none → K (.sl z.length id 0 n.toNat) (h.upd id (.row z.length (List.replicate n.toNat z)))) : makeW z bytes (int n) (int n) h K := by
  refine Lock.mk ?_
  show (_ ∧ _)
  exact ⟨⟨h0, by omega, by have : (n.toNat : Int) = n := Int.toNat_of_nonneg h0; rw [← this]; exact_mod_cast hn, hb⟩, fun id hid => hk id hid⟩

theorem rowW_of {sz : Nat} {z : List AV} {len : Nat} {parts : List (Nat × AV)} {es : List (List AV)} {h : Heap} {K : AV → Heap → Prop} (he : eFillRow sz (List.replicate len z) parts = some es)
    (hk : ∀ id, h id = none → K (.sl sz id 0 len) (h.upd id (.row sz es))) : rowW sz z len parts h K := by
  refine Lock.mk ?_
  unfold rowW0
  rw [he]
  exact hk

theorem appendW_sl {sz bytes id len : Nat} {x : AV} {h : Heap} {K : AV → Heap → Prop} {es xs : List (List AV)} (ho : h id = some (.row sz es)) (hx : elemsOf sz x h = some xs)
    (hl : len ≤ es.length) (hm : len + xs.length ≤ most) (h1 : allOneR xs = true) (hb : 0 < bytes) (hb' : bytes ≤ 65536)
    (hk : ∀ id', (id' = id ∨ h id' = none) → K (.sl sz id' 0 (len + xs.length)) ((h.del id).upd id' (.row sz (es.take len ++ xs)))) : appendW sz bytes (.sl sz id 0 len) x h K := by
  refine Lock.mk ?_
  unfold appendW0
  rw [hx]
  simp only [ho]
  exact ⟨⟨trivial, trivial, hl, hm, h1, hb, hb'⟩, hk⟩

theorem appendW_nil {sz bytes : Nat} {x : AV} {h : Heap} {K : AV → Heap → Prop} {xs : List (List AV)} (hx : elemsOf sz x h = some xs)
    (hm : xs.length ≤ most) (hb : 0 < bytes) (hb' : bytes ≤ 65536) (hk0 : xs = [] → K nilS h)
    (hk : xs ≠ [] → ∀ id, h id = none → K (.sl sz id 0 xs.length) (h.upd id (.row sz xs))) : appendW sz bytes nilS x h K := by
  refine Lock.mk ?_
  unfold appendW0
  rw [hx]
  exact ⟨⟨hm, hb, hb'⟩, hk0, hk⟩

@[simp] theorem elemsOf_imm (sz : Nat) (es : List (List AV)) (h : Heap) : elemsOf sz (.imm sz es) h = some es := by simp [elemsOf]
@[simp] theorem elemsOf_nil (sz : Nat) (h : Heap) : elemsOf sz nilS h = some [] := rfl

theorem eStore_row {n sz id i off : Nat} {v : AV} {h : Heap} {es : List (List AV)} (ho : h id = some (.row sz es)) (hi : i < es.length) (hoff : off + n ≤ sz) (hc : (cellsOf v).length = n)
    (h1 : allOne (cellsOf v) = true) (h0 : 0 < n) : eStore n (.ptr sz id i off) v h = some (h.upd id (.row sz (es.set i (putCells (eget es i) off (cellsOf v))))) := by
  simp [eStore, ho, hi, hoff, hc, h1, h0]

/-- One cell of a row of single cells. -/
theorem eStore_one {id i : Nat} {v : AV} {h : Heap} {es : List (List AV)} (ho : h id = some (.row 1 es)) (hi : i < es.length) (hc : cellsOf v = [v])
    (h1 : oneCell v = true) (hs : (eget es i).length = 1) : eStore 1 (.ptr 1 id i 0) v h = some (h.upd id (.row 1 (es.set i [v]))) := by
  rw [eStore_row ho hi (by omega) (by simp [hc]) (by simp [hc, allOne, h1]) (by omega), hc]
  have : putCells (eget es i) 0 [v] = [v] := by
    unfold putCells
    rw [List.drop_eq_nil_of_le (by simp only [List.length_singleton]; omega)]
    rfl
  rw [this]

theorem eLoad_one {id i : Nat} {h : Heap} {es : List (List AV)} (ho : h id = some (.row 1 es)) (hi : i < es.length) (hs : 0 < (eget es i).length) :
    eLoad false 1 (.ptr 1 id i 0) h = some (lget (eget es i) 0) := by
  rw [eLoad_ptr ho hi]
  unfold ePart
  rw [if_pos (by omega)]
  rfl

@[simp] theorem oneCell_int (n : Int) : oneCell (int n) = true := rfl
@[simp] theorem oneCell_bool (n : Bool) : oneCell (bool n) = true := rfl
@[simp] theorem oneCell_str (n : ByteArray) : oneCell (str n) = true := rfl
@[simp] theorem oneCell_nil : oneCell nilS = true := rfl
@[simp] theorem oneCell_imm (sz : Nat) (es : List (List AV)) : oneCell (.imm sz es) = true := rfl
@[simp] theorem oneCell_sl (sz id i len : Nat) : oneCell (.sl sz id i len) = true := rfl
@[simp] theorem oneCell_iptr (cs : List AV) (o : Nat) : oneCell (.iptr cs o) = true := rfl
@[simp] theorem oneCell_ptr (sz id i o : Nat) : oneCell (.ptr sz id i o) = true := rfl
@[simp] theorem oneCell_map (id : Nat) : oneCell (.map id) = true := rfl
@[simp] theorem oneCell_clo (f : FuncId) (a b : List AV) : oneCell (.clo f a b) = true := rfl

theorem Heap.le_del {h0 h : Heap} {id : Nat} (hl : h0.le h) (hn : h0 id = none) : h0.le (h.del id) := by
  intro j o e
  have hj : j ≠ id := fun he => by subst he; rw [hn] at e; cases e
  simp [Heap.del, hj, hl _ _ e]

theorem Heap.le_upd' {h0 h : Heap} {id : Nat} {o : AObj} (hl : h0.le h) (hn : h0 id = none) : h0.le (h.upd id o) := by
  intro j x e
  have hj : j ≠ id := fun he => by subst he; rw [hn] at e; cases e
  rw [Heap.upd_ne _ _ hj]; exact hl _ _ e

theorem Heap.none_of_le {h0 h : Heap} (hl : h0.le h) {id : Nat} (hn : h id = none) : h0 id = none := by
  cases e : h0 id with
  | none => rfl
  | some o => rw [hl _ _ e] at hn; cases hn

theorem Heap.del_ne (h : Heap) {id j : Nat} (hj : j ≠ id) : (h.del id) j = h j := by simp [Heap.del, hj]

/-- A list of the call's own is told and will not be written any more; all else that the call made is forgotten. -/
theorem GStep.tell {id sz n : Nat} {es : List (List AV)} {h h0 : Heap} (ho : h id = some (.row sz es)) (hn : n = es.length) (hl : h0.le h) (h0n : h0 id = none) :
    GStep (.sl sz id 0 n) h (.imm sz es) h0 := by
  subst hn
  exact (GStep.freezeAll ho).trans (.drop _ (Heap.le_del hl h0n))

theorem GStep.tellTake {id sz n : Nat} {es : List (List AV)} {h h0 : Heap} (ho : h id = some (.row sz es)) (hn : n ≤ es.length) (hl : h0.le h) (h0n : h0 id = none) :
    GStep (.sl sz id 0 n) h (.imm sz (es.take n)) h0 := by
  have := (GStep.freeze (i := 0) (len := n) ho (by omega)).trans (.drop _ (Heap.le_del hl h0n))
  simpa using this

@[simp] theorem eget_mapInt (l : List Int) (i : Nat) (h : i < l.length) : eget (l.map fun n => [int n]) i = [int (l.getD i 0)] := by
  simp [eget, List.getD_eq_getElem?_getD, h]
@[simp] theorem eget_mapBool (l : List Bool) (i : Nat) (h : i < l.length) : eget (l.map fun n => [bool n]) i = [bool (l.getD i false)] := by
  simp [eget, List.getD_eq_getElem?_getD, h]

end Go.Abs
namespace Go.Abs

theorem bindH_of {e : Option Heap} {v : Heap} {K : Heap → Prop} (he : e = some v) (hk : K v) : bindH e K := by subst he; simpa using hk

abbrev ints (l : List Int) : List (List AV) := l.map fun n => [int n]
abbrev bools (l : List Bool) : List (List AV) := l.map fun n => [bool n]

theorem bools_set (l : List Bool) (i : Nat) (b : Bool) : (bools l).set i [bool b] = bools (l.set i b) := by simp [bools, List.map_set]
theorem ints_set (l : List Int) (i : Nat) (b : Int) : (ints l).set i [int b] = ints (l.set i b) := by simp [ints, List.map_set]

theorem store_bool {id : Nat} {h : Heap} {l : List Bool} (ho : h id = some (.row 1 (bools l))) {i : Nat} (hi : i < l.length) (b : Bool) :
    eStore 1 (.ptr 1 id i 0) (bool b) h = some (h.upd id (.row 1 (bools (l.set i b)))) := by
  rw [eStore_one ho (by simpa using hi) rfl rfl (by rw [eget_mapBool _ _ hi]; rfl), bools_set]
theorem store_int {id : Nat} {h : Heap} {l : List Int} (ho : h id = some (.row 1 (ints l))) {i : Nat} (hi : i < l.length) (b : Int) :
    eStore 1 (.ptr 1 id i 0) (int b) h = some (h.upd id (.row 1 (ints (l.set i b)))) := by
  rw [eStore_one ho (by simpa using hi) rfl rfl (by rw [eget_mapInt _ _ hi]; rfl), ints_set]
theorem load_bool {id : Nat} {h : Heap} {l : List Bool} (ho : h id = some (.row 1 (bools l))) {i : Nat} (hi : i < l.length) :
    eLoad false 1 (.ptr 1 id i 0) h = some (bool (l.getD i false)) := by
  rw [eLoad_one ho (by simpa using hi) (by rw [eget_mapBool _ _ hi]; exact Nat.one_pos), eget_mapBool _ _ hi]; rfl
theorem load_int {id : Nat} {h : Heap} {l : List Int} (ho : h id = some (.row 1 (ints l))) {i : Nat} (hi : i < l.length) :
    eLoad false 1 (.ptr 1 id i 0) h = some (int (l.getD i 0)) := by
  rw [eLoad_one ho (by simpa using hi) (by rw [eget_mapInt _ _ hi]; exact Nat.one_pos), eget_mapInt _ _ hi]; rfl

/-- One number more, behind a whole row. -/
theorem append_int {id n : Nat} {t : Int} {h : Heap} {K : AV → Heap → Prop} {l : List Int} (ho : h id = some (.row 1 (ints l))) (hn : n = l.length) (hm : l.length < most)
    (hk : ∀ id', (id' = id ∨ h id' = none) → K (.sl 1 id' 0 (l ++ [t]).length) ((h.del id).upd id' (.row 1 (ints (l ++ [t]))))) : appendW 1 8 (.sl 1 id 0 n) (.imm 1 [[int t]]) h K := by
  subst hn
  refine appendW_sl ho (elemsOf_imm _ _ _) (by simp) (by simp; omega) rfl (by omega) (by omega) fun id' hid => ?_
  have := hk id' hid
  simpa [ints, List.take_of_length_le] using this

end Go.Abs
