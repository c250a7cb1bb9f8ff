/- By an AI agent. Part of the proof: an abstract machine over the model, an evaluator over it, and contracts. Texts: EvX. -/
import Derived.Test.YtldbohhdpbmdcaaGreatDoorP07

namespace Go.Abs

section
variable {P : Program} {C : CallF} {b : Base} {r : AV × HT × Nat × Nat}

/-- What is left behind a call. -/
def Left' (w0 : World) (G : Gh) (Q : AV → Heap → Prop) : Ending → World → Prop := fun e w' => ∃ v r h' G', e = .returned v ∧ G.le G' ∧ WR w0 G' h' w' ∧ VR G' r v ∧ Q r h'

theorem args_frame {ρ : Nat → Nat} {as : List AV} {V : Nat} {E : ET} {G : Gh} {xs : Array Value} {N : Nat} (hx : VRs G (as.map (ren ρ)) xs) (hxs : xs.size ≤ N) (hge : ∀ j, ge E j = lget as j) :
    ER G (renE ρ (gV' V E)) (xs ++ Array.replicate (N - xs.size) undef) := by
  intro j
  show VR G (ren ρ (gV' V E j)) _
  cases hj : inV V j
  · rw [gV'_out E hj, ren_any]; exact .any _
  · rw [gV'_in E hj, hge, ← lget_map_ren]
    rcases Nat.lt_or_ge j (as.map (ren ρ)).length with h | h
    · have := hx.2 j h
      rw [getD_append_left _ _ _ (by rw [← hx.1]; exact h)]
      exact this
    · have : lget (as.map (ren ρ)) j = .any := by simp only [lget, List.getD_eq_getElem?_getD]; rw [List.getElem?_eq_none h]; rfl
      rw [this]
      exact .any _

theorem args_ge {as : List AV} {E : ET} {k : Nat} (hE : ∀ j, ge E j = if 0 ≤ j ∧ j < 0 + as.length then lget as (j - 0) else ge (Tr.full .any k) j) (j : Nat) : ge E j = lget as j := by
  rw [hE]
  by_cases hj : j < as.length
  · rw [if_pos ⟨by omega, by omega⟩]; simp
  · rw [if_neg (by omega)]
    show Tr.get AV.any _ j = _
    rw [get_full]
    simp [lget, List.getD_eq_getElem?_getD, Nat.le_of_not_lt hj]

theorem args_bd {ρ : Nat → Nat} {n : Nat} {as : List AV} (has : ∀ a ∈ as, Bd ρ n a) {E : ET} (hge : ∀ j, ge E j = lget as j) (j : Nat) : Bd ρ n (ge E j) := by
  rw [hge]
  by_cases hj : j < as.length
  · have : lget as j ∈ as := by simp [lget, List.getD_eq_getElem?_getD, hj]
    exact has _ this
  · have : lget as j = .any := by simp [lget, List.getD_eq_getElem?_getD, Nat.le_of_not_lt hj]
    rw [this]; intro _ _; simp

theorem resOk_ok {V : Nat} {l : List ResultVar} (hro : resOk V l = true) : ∀ x ∈ l, match x with | .tmp t => inV V t = true | .cell a _ => inV V a = true := by
  intro x hx
  unfold resOk at hro
  have := List.all_eq_true.1 hro x hx
  cases x <;> exact this

theorem callP1_body (hm : P.follows .mixedOrders = true) (hent : Enters P) (hC : CallOK P C) {D : FuncId → DHints} {lf : Nat} {ρ : Nat → Nat} {n low : Nat} {H : HT} {h : Heap} {f : FuncId} {as : List AV} {K : KV} {Q : AV → Heap → Prop}
    (S : SInv b ρ n low H h) (has : ∀ a ∈ as, Bd ρ n a) {F : CF} (hcf : compF P D f = some F) (e1 : callP1 P C lf F as H n low K = some r) (hK : KOk b r n ρ K Q) :
    (∀ xs w, (callFunc f xs).run P w = .ok (.enter f xs) w) ∧ ∃ fn c, P.funcs[f]? = some fn ∧ fn.body = some c ∧
      ∀ (w0 : World) (G : Gh) (w : World) (xs : Array Value), WR w0 G h w → VRs G (as.map (ren ρ)) xs →
        c.wp P (bodyPost P fn (Left' w0 G Q)) { tmps := xs ++ Array.replicate (fn.ntmps - xs.size) undef, defers := [] } w := by
  unfold compF at hcf
  split at hcf
  · rename_i fn hf
    split at hcf
    · rename_i c hb
      rw [fnat_eq] at hcf
      generalize hVe : expC c (resM fn.results.toList) = V at hcf
      cases hro : resOk V fn.results.toList <;> rw [hro] at hcf
      · cases hcf
      · cases hcf
        unfold callP1 at e1
        cases hl : (Nat.ble as.length fn.ntmps && Nat.blt as.length 16383) <;> simp only [hl] at e1
        · cases e1
        · simp only [Bool.and_eq_true] at hl
          have hl1 := Nat.le_of_ble_eq_true hl.1
          have hl2 := blt_lt hl.2
          obtain ⟨E, e2, hE⟩ := putArgs_ok (k := 0) (by omega) e1
          have hge := args_ge hE
          refine ⟨hent f fn c hf hb, fn, c, hf, hb, fun w0 G w xs hw hx => ?_⟩
          have hxs : xs.size ≤ fn.ntmps := by rw [← hx.1]; simpa using hl1
          have I : CInv b ρ n low V E H (renE ρ (gV' V E)) h := ⟨S, args_bd has hge, rfl⟩
          have F : Fr [] w0 G fn.ntmps (renE ρ (gV' V E)) h { tmps := xs ++ Array.replicate (fn.ntmps - xs.size) undef, defers := [] } w :=
            ⟨hw, args_frame hx hxs hge, by simp; omega, rfl⟩
          refine runC_ok hm hC I F e2 ?_
          intro x E' H' n' low' ρ' env' h' G' a' w' ex hx' hG F' I' e3 xe
          have fin : (retK P fn.results.toList E' H' fun vs => retE vs fun v => K v H' n' low') = some r → retVals P fn.results.toList env' h' fun vs => retQ Q vs h' := by
            intro e3
            refine retK_okV I' (resOk_ok hro) e3 fun vs hvs e4 => ?_
            exact retE_ok e4 hvs fun v hv e5 => hK v H' n' low' ρ' h' hx' I'.s hv e5
          cases xe with
          | normal =>
            obtain ⟨v, u, e4, e5, e6⟩ := results_ok F' (fin e3)
            exact ⟨F'.defers, v, e4, v, u, h', G', rfl, hG, F'.wr, e5, e6⟩
          | ret =>
            obtain ⟨v, u, e4, e5, e6⟩ := results_ok F' (fin e3)
            exact ⟨F'.defers, v, e4, v, u, h', G', rfl, hG, F'.wr, e5, e6⟩
          | exit j => cases e3
    · cases hcf
  · cases hcf

theorem callN_ok (hm : P.follows .mixedOrders = true) (hent : Enters P) (hC : CallOK P C) {D : FuncId → DHints} {lf : Nat} : CallOK P (callN P D lf C) := by
  intro b ρ n low H h f as K r Q S has e hK
  unfold callN at e
  split at e
  · rename_i F hF
    obtain ⟨h1, fn, c, hf, hb, hw⟩ := callP1_body hm hent hC S has hF e hK
    exact ⟨h1, fun w0 G w xs a1 a2 => calls_of_wp hf hb (hw w0 G w xs a1 a2)⟩
  · cases e

/-- The same, of a deferred call. -/
theorem callN_okD (hm : P.follows .mixedOrders = true) (hent : Enters P) (hC : CallOK P C) {D : FuncId → DHints} {lf : Nat} {ρ : Nat → Nat} {n low : Nat} {H : HT} {h : Heap} {f : FuncId} {as : List AV} {K : KV} {Q : AV → Heap → Prop}
    (S : SInv b ρ n low H h) (has : ∀ a ∈ as, Bd ρ n a) (e : callN P D lf C f as H n low K = some r) (hK : KOk b r n ρ K Q) :
    (∀ xs w, (callFunc f xs).run P w = .ok (.enter f xs) w) ∧ ∀ (w0 : World) (G : Gh) (w : World) (xs : Array Value) (u : FrameMode), WR w0 G h w → VRs G (as.map (ren ρ)) xs →
      CallsD P f xs u w fun e u' w' => u' = u ∧ Left' w0 G Q e w' := by
  unfold callN at e
  split at e
  · rename_i F hF
    obtain ⟨h1, fn, c, hf, hb, hw⟩ := callP1_body hm hent hC S has hF e hK
    exact ⟨h1, fun w0 G w xs u a1 a2 => callsD_of_wp hf hb (hw w0 G w xs a1 a2)⟩
  · cases e

theorem runL_ok (hm : P.follows .mixedOrders = true) (hC : CallOK P C) {D : DHints} {N V lf : Nat} {ds : List Deferred} {w0 : World} : ∀ {l : List Code} {ρ : Nat → Nat} {n low : Nat} {E : ET} {H : HT} {env : Env} {h : Heap} {K : KX} {G : Gh} {a : Act} {w : World}
    {Post : Exit → Act → World → Prop}, CInv b ρ n low V E H env h → Fr ds w0 G N env h a w → runL P C lf (l.map (compC P D N V)) E H n low K = some r → XOkV V ds w0 N b r G n ρ K Post → wpL P l Post a w := by
  intro l
  induction l with
  | nil => intro ρ n low E H env h K G a w Post I F e hK; exact hK.at (.refl _ _) (.refl _) F I e .normal
  | cons c l ih =>
    intro ρ n low E H env h K G a w Post I F e hK
    refine runC_ok hm hC I F (show runC P C lf (compC P D N V c) E H n low (cSeq (runL P C lf (l.map (compC P D N V))) K) = some r from e) ?_
    intro z E' H' n' low' ρ' env' h' G' a' w' ex hx hG F' I' e2 xe
    cases xe with
    | normal => exact ih I' F' e2 (hK.ext hx hG)
    | exit j => exact hK.at hx hG F' I' e2 (.exit j)
    | ret => exact hK.at hx hG F' I' e2 .ret

theorem argsK_ok {V : Nat} {E : ET} {xs : List Operand} {α : Type} {K : List O → Option α} {i : α} (h : opOs V [] 0 xs K = some i) :
    ∃ os, K os = some i ∧ ∀ {E : ET} {K' : List AV → RR} {r : AV × HT × Nat × Nat}, argsK [] E os K' = some r → K' (xs.map (ev (gV' V E))) = some r := by
  induction xs generalizing K with
  | nil => exact ⟨[], h, fun e => e⟩
  | cons x xs ih =>
    have h' : opO V [] 0 x (fun o => opOs V [] 0 xs fun os => K (o :: os)) = some i := h
    unfold opO at h'
    split at h'
    · rename_i l hl
      obtain ⟨os, h3, h4⟩ := ih h'
      refine ⟨_, h3, fun {E K' r} e => ?_⟩
      have e' := emit_ok (S := []) (locOf_ok (locs0 V E) hl) (K := fun v => argsK [] E os fun vs => K' (v :: vs)) e
      exact h4 e'
    · cases h'

theorem splitD_ok : ∀ {l : List Code} {pre : List Code} {id : Nat} {ini : List Oper} {o : Oper} {post : List Code}, splitD l = some (pre, id, ini, o, post) → ∃ ops, l = pre ++ .region id ops false :: post ∧ ops.toList = ini ++ [o] := by
  intro l
  induction l with
  | nil => intro pre id ini o post h; cases h
  | cons c l ih =>
    intro pre id ini o post h
    have h' : (match lastDefer c with
      | some (id, ini, o) => some ([], id, ini, o, l)
      | none => (splitD l).bind fun (pre, x) => some (c :: pre, x)) = some (pre, id, ini, o, post) := h
    split at h'
    · rename_i id' ini' o' hh
      cases h'
      unfold lastDefer at hh
      split at hh
      · split at hh
        · rename_i ops2 _ o2 ho2
          split at hh
          · cases hh
            refine ⟨_, rfl, ?_⟩
            obtain ⟨ys, hys⟩ := List.getLast?_eq_some_iff.1 ho2
            rw [hys, List.dropLast_concat]
          · cases hh
        · cases hh
      · cases hh
    · obtain ⟨⟨pre', x⟩, h1, h2⟩ := bind_some h'
      cases h2
      obtain ⟨ops, h3, h4⟩ := ih h1
      exact ⟨ops, by rw [h3]; rfl, h4⟩

theorem fit_ini {ops : List Oper} {mf : Oper → Nat} {rest : List Oper} : ∀ {l pre : List Oper}, ops = pre ++ l ++ rest → Fit ops (fun i => match ops[i]? with | some o => mf o | none => 0) (List.range' pre.length l.length) (l.map fun o => (mf o, o)) := by
  intro l
  induction l with
  | nil => intro pre _; exact .nil
  | cons o l ih =>
    intro pre hp
    rw [List.length_cons, List.range'_succ, List.map_cons]
    have ho : ops[pre.length]? = some o := by subst hp; simp
    have := ih (pre := pre ++ [o]) (by subst hp; simp)
    rw [List.length_append, List.length_singleton] at this
    have h2 := Fit.cons (mf := fun i => match ops[i]? with | some o => mf o | none => 0) ho this
    simp only [ho] at h2
    exact h2

/-- A deferred call is laid by. -/
theorem defer_ok {w0 w : World} {G : Gh} {h : Heap} {N : Nat} {env : Env} {a : Act} (F : Fr [] w0 G N env h a w) {o : Oper} {call : Call} (ho : o.op = .defer call) {fv : Operand} (hc : call.callee = .value fv)
    {fid : FuncId} {as : List AV} (hcal : callee (ev env fv) (call.args.toList.map (ev env)) = some (fid, as)) :
    ∃ (ys dargs : Array Value), (Go.execOp a.eval o).run P w = .ok (.defer { target := .fn (.func fid) ys, args := dargs }) w ∧ VRs G as (dargs ++ ys) := by
  unfold callee at hcal
  split at hcal
  · rename_i fid' fi ca he
    simp only [Option.some.injEq, Prod.mk.injEq] at hcal
    obtain ⟨rfl, rfl⟩ := hcal
    have hx := F.er.ev fv
    rw [he] at hx
    generalize hv : a.eval fv = fvv at hx
    cases hx with
    | clo _ _ _ xs ys hl hl' hv1 hv2 =>
      refine ⟨ys, xs ++ call.args.map a.eval, ?_, VRs.append (VRs.append ⟨hl, hv1⟩ (VRs.map F.er call.args)) ⟨hl', hv2⟩⟩
      obtain ⟨dst, op, type, pos, after, guard⟩ := o
      simp only at ho
      subst ho
      obtain ⟨cal, args, types⟩ := call
      simp only at hc
      subst hc
      simp [Go.execOp, resolve, hv, Deferred.ofValue]
  · cases hcal

theorem callee_bd {ρ : Nat → Nat} {n : Nat} {f : AV} {args as : List AV} {fid : FuncId} (hf : Bd ρ n f) (ha : ∀ a ∈ args, Bd ρ n a) (h : callee f args = some (fid, as)) : ∀ a ∈ as, Bd ρ n a := by
  unfold callee at h
  split at h
  · rename_i fid' fi ca
    cases h
    have hfi : ∀ ρ' : Nat → Nat, (∀ k, k < n → ρ k = ρ' k) → fi.map (ren ρ') = fi.map (ren ρ) ∧ ca.map (ren ρ') = ca.map (ren ρ) := fun ρ' he => by
      have := hf ρ' he
      simp only [ren_clo, AV.clo.injEq, true_and] at this
      exact this
    intro a hm ρ' he
    rcases List.mem_append.1 hm with hm | hm
    · rcases List.mem_append.1 hm with hm | hm
      · exact List.map_inj_left.1 (hfi ρ' he).1 a hm
      · exact ha a hm ρ' he
    · exact List.map_inj_left.1 (hfi ρ' he).2 a hm
  · cases h

theorem callD1_ok (hm : P.follows .mixedOrders = true) (hent : Enters P) (hC : CallOK P C) {D : FuncId → DHints} {lf : Nat} {ρ : Nat → Nat} {n low : Nat} {H : HT} {h : Heap} {f : FuncId} {as : List AV} {K : KV} {Q : AV → Heap → Prop}
    (S : SInv b ρ n low H h) (has : ∀ a ∈ as, Bd ρ n a) {F : DF} (hcf : compDF P D f = some F) (e1 : callD1 P D C lf F as H n low K = some r) (hK : KOk b r n ρ K Q) : ACalls P f (as.map (ren ρ)) h Q := by
  unfold compDF at hcf
  split at hcf
  · rename_i fn hf
    split at hcf
    · rename_i c hb
      split at hcf
      · rename_i pre id ini o post hsp
        split at hcf
        · rename_i call hop
          split at hcf
          · rename_i fv hcal
            rw [fnat_eq] at hcf
            generalize call.args.toList.foldl (expO 0) (expO 0 (expC c (resM fn.results.toList)) fv) = V at hcf
            cases hck : (resOk V fn.results.toList && slotsOk fn.ntmps (ini ++ [o]) && o.guard.isNone && o.dst.isNone) <;> rw [hck] at hcf
            · cases hcf
            · simp only [Bool.and_eq_true] at hck
              obtain ⟨⟨⟨hro, hso⟩, hgu⟩, hds⟩ := hck
              obtain ⟨reg, hreg, hcf⟩ := bind_some hcf
              unfold opO at hcf
              split at hcf
              · rename_i lfv hlfv
                obtain ⟨xs, hxs1, hxs2⟩ := argsK_ok (E := Tr.nil) hcf
                cases hxs1
                obtain ⟨ops, hspine, hops⟩ := splitD_ok hsp
                unfold callD1 at e1
                cases hl : (Nat.ble as.length fn.ntmps && Nat.blt as.length 16383) <;> simp only [hl] at e1
                · cases e1
                · simp only [Bool.and_eq_true] at hl
                  have hl1 := Nat.le_of_ble_eq_true hl.1
                  have hl2 := blt_lt hl.2
                  obtain ⟨E, e2, hE⟩ := putArgs_ok (k := 0) (by omega) e1
                  have hge := args_ge hE
                  refine ⟨hent f fn c hf hb, fun w0 G w xv hw hx => ?_⟩
                  refine calls_of_wp_defers (R := Left' w0 G Q) hf hb (wp_spine ?_)
                  rw [hspine]
                  have hxs : xv.size ≤ fn.ntmps := by rw [← hx.1]; simpa using hl1
                  have I : CInv b ρ n low V E H (renE ρ (gV' V E)) h := ⟨S, args_bd has hge, rfl⟩
                  have F0 : Fr [] w0 G fn.ntmps (renE ρ (gV' V E)) h { tmps := xv ++ Array.replicate (fn.ntmps - xv.size) undef, defers := [] } w :=
                    ⟨hw, args_frame hx hxs hge, by simp; omega, rfl⟩
                  refine wpL_of_append (runL_ok hm hC I F0 e2 ?_)
                  intro z E1 H1 n1 low1 ρ1 env1 h1 G1 a1 w1 ex hx1 hG1 F1 I1 e3 xe
                  cases xe with
                  | exit j => cases e3
                  | ret => cases e3
                  | normal =>
                    have e3' : rOps P C reg [] E1 H1 n1 low1 (fun _ E H n low => gO (emit 0 lfv) [] E fun fv => argsK [] E xs fun as => match callee fv as with
                      | some (fid, as) => runL P C lf (post.map (compC P (D f) fn.ntmps V)) E H n low (retD P (callN P D lf C) fid as fn.results.toList K)
                      | none => none) = some r := e3
                    have hgu' : o.guard = none := by cases hg : o.guard <;> simp [hg] at hgu; rfl
                    have hds' : o.dst = none := by cases hg : o.dst <;> simp [hg] at hds; rfl
                    show Code.wp P _ _ a1 w1
                    refine wp_region ?_
                    have hsz : ops.size = ini.length + 1 := by
                      have : ops.toList.length = ini.length + 1 := by rw [hops]; simp
                      simpa using this
                    rw [hsz, List.range_succ]
                    refine wpOps_snoc ?_
                    have hp := compL_ok hC (fit_ini (mf := fun o => modeE P o.op) (ops := ops.toList) (pre := []) (l := ini) (rest := [o]) (by rw [hops]; simp)) (S := []) (σ := [])
                      (by rw [hops]; exact hreg) (⟨I1.s, gV'_bd I1.be, I1.be, I1.env, locs0 V E1⟩ : RI2 b ρ1 n1 low1 V [] [] E1 H1 (gV' V E1) env1 h1) e3'
                    have fin := wpPlan_ok (P := P) (ops := ops) (Q := fun e a w => e = .normal ∧ wpOps P ops (seqQ (wpL P post (bodyPostD P fn (Left' w0 G Q))) (bodyPostD P fn (Left' w0 G Q))) [ini.length] a w) (n := fn.ntmps)
                      (by rw [hops]; exact hso) _ F1 ?_ hp
                    · rw [flatS_op] at fin
                      simpa [List.range_eq_range'] using fin
                    intro env2 h2 a2 w2 G2 hG2 F2 B
                    refine ⟨rfl, ?_⟩
                    obtain ⟨ρ2, n2, low2, S2, E2, H2, g2, x2, s2, bg2, be2, he2, hv2, e4⟩ := B
                    have e5 := emit_ok (S := []) (locOf_ok (locs0 V E2) hlfv) e4
                    have e6 := hxs2 e5
                    split at e6
                    · rename_i fid as' hcl
                      have Fr2 : Fr [] w0 G2 fn.ntmps (renE ρ2 (gV' V E2)) h2 a2 w2 := ⟨F2.wr, fun j => by
                        show VR G2 (ren ρ2 (gV' V E2 j)) _
                        cases hj : inV V j
                        · rw [gV'_out E2 hj, ren_any]; exact .any _
                        · rw [gV'_in E2 hj, hv2 j hj]
                          have := F2.er j
                          rw [he2] at this
                          exact this, F2.size, F2.defers⟩
                      have hcal2 := callee_ren (ρ := ρ2) hcl
                      rw [← map_ev_ren, ← ev_ren] at hcal2
                      obtain ⟨ys, dargs, hrun, hvr⟩ := defer_ok (P := P) Fr2 hop hcal hcal2
                      have hb2 : ∀ a ∈ as', Bd ρ2 n2 a := callee_bd (ev_bd (gV'_bd be2) fv) (fun a ha => by
                        obtain ⟨x, _, rfl⟩ := List.mem_map.1 ha
                        exact ev_bd (gV'_bd be2) x) hcl
                      rw [wpOps_cons]
                      unfold wpOp
                      have hoi : ops[ini.length]? = some o := by
                        have : ops.toList[ini.length]? = some o := by rw [hops]; simp
                        simpa using this
                      rw [hoi]
                      simp only
                      rw [if_pos (by simp [Region.wanted, hgu'])]
                      left
                      unfold Oper.wp
                      rw [hrun, Oper.upon_defer, hds']
                      show wpL P post _ _ w2
                      have F3 : Fr [{ target := .fn (.func fid) ys, args := dargs }] w0 G2 fn.ntmps (renE ρ2 (gV' V E2)) h2 { a2 with defers := { target := .fn (.func fid) ys, args := dargs } :: a2.defers } w2 :=
                        ⟨Fr2.wr, Fr2.er, Fr2.size, by simp [Fr2.defers]⟩
                      refine runL_ok hm hC (⟨s2, be2, rfl⟩ : CInv b ρ2 n2 low2 V E2 H2 (renE ρ2 (gV' V E2)) h2) F3 e6 ?_
                      intro z E4 H4 n4 low4 ρ4 env4 h4 G4 a4 w4 ex4 hx4 hG4 F4 I4 e7 xe
                      have main : (callN P D lf C fid as' H4 n4 low4 fun _ H n low => retK P fn.results.toList E4 H fun vs => retE vs fun v => K v H n low) = some r → Leaves P fn a4.tmps (Left' w0 G Q) a4.defers .returning w4 := by
                        intro e8
                        obtain ⟨hcf, hD⟩ := callN_okD hm hent hC I4.s (fun a ha => (hb2 a ha).ext hx4) e8 (Q := fun _ h => retVals P fn.results.toList env4 h fun vs => retQ Q vs h) (by
                          intro v H5 n5 low5 ρ5 h5 x5 S5 bv e9
                          have I5 : CInv b ρ5 n5 low5 V E4 H5 env4 h5 := ⟨S5, fun j => (I4.be j).ext x5, by
                            rw [I4.env]
                            funext j
                            exact ((gV'_bd I4.be j).same x5).symm⟩
                          refine retK_okV I5 (resOk_ok hro) e9 fun vs hvs e10 => ?_
                          exact retE_ok e10 hvs fun v hv e11 => hK v H5 n5 low5 ρ5 h5 (((hx1.trans x2).trans hx4).trans x5) S5 hv e11)
                        rw [F4.defers]
                        have hvr4 : VRs G4 (as'.map (ren ρ4)) (dargs ++ ys) := by
                          have : as'.map (ren ρ4) = as'.map (ren ρ2) := List.map_congr_left fun a ha => (hb2 a ha).same hx4
                          rw [this]
                          exact hvr.mono hG4
                        refine leaves_cons (f := fid) (args := dargs ++ ys) (by simp) ?_ ((hD w0 G4 w4 (dargs ++ ys) .returning F4.wr hvr4).mono ?_)
                        · simp [invoke, hcf]
                        · rintro e u' w' ⟨rfl, v, u, h', G', rfl, l1, wr', _, hrv⟩
                          have F5 : Fr [{ target := .fn (.func fid) ys, args := dargs }] w0 G' fn.ntmps env4 h' a4 w' := ⟨wr', F4.er.mono l1, F4.size, F4.defers⟩
                          obtain ⟨v2, u2, e12, e13, e14⟩ := results_ok F5 hrv
                          exact ⟨v2, e12, v2, u2, h', G', rfl, ((hG1.trans hG2).trans hG4).trans l1, wr', e13, e14⟩
                      cases xe with
                      | normal => exact main e7
                      | ret => exact main e7
                      | exit j => cases e7
                    · cases e6
              · cases hcf
          · cases hcf
        · cases hcf
      · cases hcf
    · cases hcf
  · cases hcf

/-- The oracle is right. -/
def OracleOK (P : Program) (W : Oracle) : Prop :=
  ∀ f g, W f = some g → ∀ as (H : Heap) v, g as H = some v → (∀ ρ : Nat → Nat, ren ρ v = v) ∧ ∀ (ρ : Nat → Nat) (h : Heap), HR ρ H h → APure P f (as.map (ren ρ)) v h

theorem callY_ok (hm : P.follows .mixedOrders = true) (hent : Enters P) {W : Oracle} (hW : OracleOK P W) {D : FuncId → DHints} {lf : Nat} : ∀ depth, CallOK P (callY P D W lf depth) := by
  intro depth
  induction depth with
  | zero => intro b ρ n low H h f as K r Q _ _ e; cases e
  | succ d ih =>
    intro b ρ n low H h f as K r Q S has e hK
    have e' : @Option.rec (List AV → Heap → Option AV) (fun _ => RR)
      (@Option.rec DF (fun _ => RR) (callN P D lf (callY P D W lf d) f as H n low K) (fun F => callD1 P D (callY P D W lf d) lf F as H n low K) (compDF P D f)) (fun g => orK g as H n low K) (W f) = some r := e
    cases hw : W f with
    | some g =>
      rw [hw] at e'
      have e1 : orK g as H n low K = some r := e'
      unfold orK at e1
      split at e1
      · rename_i v hv
        rw [fD_eq] at e1
        obtain ⟨h1, h2⟩ := hW f g hw as _ v hv
        refine (h2 ρ h S.hr h (.refl _)).mono fun r' h' ⟨hr, hh⟩ => ?_
        subst hr hh
        have := hK.at S (fun ρ' _ => by rw [h1, h1]) e1
        rwa [h1] at this
      · cases e1
    | none =>
      rw [hw] at e'
      cases hcf : compDF P D f with
      | none => rw [hcf] at e'; exact callN_ok hm hent ih b ρ n low H h f as K r Q S has e' hK
      | some F => rw [hcf] at e'; exact callD1_ok hm hent ih S has hcf e' hK

theorem runY_ok (hm : P.follows .mixedOrders = true) (hent : Enters P) {W : Oracle} (hW : OracleOK P W) {D : FuncId → DHints} {lf depth hd : Nat} {f : FuncId} {as : List AV} (has : ∀ a ∈ as, ∀ ρ : Nat → Nat, ren ρ a = a) {v : AV}
    (e : runY P D W lf depth hd f as = some v) (h : Heap) : APure P f as v h := by
  intro h' _
  unfold runY at e
  split at e
  · rename_i u H n low hcall
    rw [frzK_eq] at e
    cases hf : frzF 0 H 100 u with
    | none => rw [hf] at e; cases e
    | some v' =>
      rw [hf] at e
      cases e
      have g0 : ∀ k, gh (Tr.full none hd) k = none := fun k => get_full none hd k
      have S : SInv ⟨h', 0, Tr.full none hd, fun k => k⟩ (fun k => k) 0 0 (Tr.full none hd) h' := ⟨fun k o ho => (by rw [g0] at ho; cases ho), fun j k hj => absurd (g0 j) hj, fun k o ho => (by rw [g0] at ho; cases ho),
        fun _ _ h0 _ => h0, fun _ _ _ => rfl, fun k hk => absurd (g0 k) hk, Nat.le_refl _⟩
      have hmap : as.map (ren fun k => k) = as := list_fix (d := .any) fun i hi => has _ (by simp [List.getD_eq_getElem?_getD, hi]) _
      rw [← hmap]
      refine ACalls.ghost ?_
      refine callY_ok hm hent hW depth _ _ _ _ _ _ f as _ _ _ S (fun a ha ρ' _ => by rw [has a ha, has a ha]) hcall ?_
      intro v1 H1 n1 low1 ρ1 h1 ex S1 bv e1
      cases e1
      exact ⟨_, h', frz_step S1 (fun k o ho => (by rw [g0] at ho; cases ho)) (Nat.zero_le _) ex.2 (fun q o ho => (by rw [g0] at ho; cases ho)) hf, rfl, rfl⟩
  · cases e

end
end Go.Abs
